/- Views of the reference: l2Offsets, ValidView. -/
import Derived.Test.YtnmnkiihbopebaaDoorSa
namespace Go.Proofs.YtnmnkiihbopebaaDoor
open Go.RowKit Go.Nd
attribute [local go_sem] run_store_float

def okStr (x : Int) : Bool := decide (-4096 ≤ x) && decide (x ≤ 4096)
def okPl (x : Int) : Bool := decide (0 ≤ x) && decide (x < 4096)
/-- spec.ValidView. -/
def vvF (V : Vw) : Bool := goodSh V.sh && decide (V.st.length = V.sh.length) && decide (0 ≤ V.off) && decide (V.off ≤ 4096) && V.st.all okStr && (decide (prodI V.sh = 0) || (placesF V.sh V.st V.off).all okPl)
/-- spec.l2Offsets. -/
def offsF (V : Vw) : List Int := if cntF V.sh = 0 then [] else placesF V.sh V.st V.off
theorem cntF_good {sh : List Int} (h : goodSh sh = true) : cntF sh = prodI sh := by simp [cntF, h]
theorem cntF_bad {sh : List Int} (h : goodSh sh = false) : cntF sh = -1 := by simp [cntF, h]
theorem good_pos {sh : List Int} (h : goodSh sh = true) (h0 : prodI sh ≠ 0) : ∀ x ∈ sh, 1 ≤ x ∧ x ≤ 4096 := by
  obtain ⟨_, h1, _⟩ := (goodSh_iff sh).1 h
  intro x hx
  have hb := h1 x hx
  refine ⟨?_, hb.2⟩
  rcases (show x = 0 ∨ 1 ≤ x by omega) with h' | h'
  · exfalso
    apply h0
    subst h'
    obtain ⟨a, b, rfl⟩ := List.append_of_mem hx
    rw [prodI_append, prodI_cons, Int.zero_mul, Int.mul_zero]
  · exact h'
theorem plOk_of {V : Vw} (h1 : goodSh V.sh = true) (h2 : V.st.length = V.sh.length) (h3 : V.st.all okStr = true) (h0 : prodI V.sh ≠ 0) : PlOk V.sh V.st := by
  obtain ⟨g1, _, g3⟩ := (goodSh_iff _).1 h1
  refine ⟨h2, g1, good_pos h1 h0, g3, fun x hx => ?_⟩
  have := List.all_eq_true.1 h3 x hx
  simpa [okStr] using this
theorem placesF_len_le {V : Vw} (h : PlOk V.sh V.st) (a : Int) : (placesF V.sh V.st a).length ≤ 4096 := by
  have h1 := placesF_length V.sh V.st a fun x hx => by have := h.2.2.1 x hx; omega
  have h2 := h.2.2.2.1
  omega
theorem l2Offsets_c {B : Nat} (A1 A2 : Option Addr) (c1 c2 : Nat) (V : Vw) (w : World) (hn : V.sh.length ≤ 1048576) (hok : cntF V.sh ≠ 0 → PlOk V.sh V.st ∧ -4096 ≤ V.off ∧ V.off ≤ 4096) (h1 : AtB B w A1 (ivs V.sh)) (h2 : AtB B w A2 (ivs V.st)) :
    Calls Tryd.prog 57 #[.agg #[.slice A1 V.sh.length c1, .slice A2 V.st.length c2, .int .i64 V.off]] w (Ret (RowQ w 2 1 (offsF V).length (ivs (offsF V)))) := by
  obtain ⟨sh, st, off⟩ := V
  dsimp only at hn hok h1 h2 ⊢
  have H1 := hide h1.now
  have H2 := hide h2.now
  have HOK := hide hok
  clear h1 h2 hok
  by_cases h0 : cntF sh = 0
  · have e0 : (cntF sh == 0) = true := by simpa using h0
    have HP := hide (show offsF ⟨sh, st, off⟩ = [] by simp [offsF, h0])
    clear h0
    go_enter Tryd.func57, Tryd.ntmps57
    go_wp2_with (go_at_call 50; refine (l2Count_c _ _ sh _ hn (H1.out.below (below_a1 _ _))).mono ?_; rintro e w' ⟨rfl, rfl⟩)
    go_ret
    refine ⟨_, rfl, ?_⟩
    rw [HP.out]
    exact rowQ (own_mono (own_new (w.alloc _) (w.heap.size + 1) 2 1 0 #[] (by simp) rfl (by simp)) (by omega)) (below_a2 _ _ _)
  · have e0 : (cntF sh == 0) = false := by simpa using h0
    have HP := hide (show offsF ⟨sh, st, off⟩ = placesF sh st off by simp [offsF, h0])
    obtain ⟨hpl, o1, o2⟩ := HOK.out h0
    have HPL := hide hpl
    clear h0 hpl
    go_enter Tryd.func57, Tryd.ntmps57
    go_wp2_with (first | (go_at_call 50; refine (l2Count_c _ _ sh _ hn (H1.out.below (below_a1 _ _))).mono ?_; rintro e w' ⟨rfl, rfl⟩) | (go_at_call 92; refine (l2Places_c _ _ _ _ sh st off HPL.out _ _ 0 _ _ _ rfl rfl (Nat.zero_le _) (by omega) (by omega) (H1.out.below (below_a1 _ _)) (H2.out.below (below_a1 _ _))).mono ?_; rintro e w2 ⟨_, rfl, A5, c5, rfl, hc5, hown5, hb5⟩))
    go_ret
    refine ⟨_, rfl, ?_⟩
    rw [HP.out]
    exact rowQ (own_mono hown5 (by simp)) (below_go (below_a1 _ _) hb5 (by simp))
/-- Nothing is handed back but a bool; what was is as it was. -/
theorem sValidView_c {B : Nat} (A1 A2 : Option Addr) (c1 c2 : Nat) (V : Vw) (w : World) (hn : V.sh.length ≤ 1048576) (hn2 : V.st.length ≤ 1048576) (h1 : AtB B w A1 (ivs V.sh)) (h2 : AtB B w A2 (ivs V.st)) :
    Calls Tryd.prog 56 #[.agg #[.slice A1 V.sh.length c1, .slice A2 V.st.length c2, .int .i64 V.off]] w fun e w' => e = .returned (.bool (vvF V)) ∧ Below w.heap.size w w' := by
  obtain ⟨sh, st, off⟩ := V
  dsimp only at hn hn2 h1 h2 ⊢
  have H1 := hide h1.now
  have H2 := hide h2.now
  clear h1 h2
  cases hg : goodSh sh
  · have e0 : decide (cntF sh < 0) = true := by rw [cntF_bad hg]; rfl
    have HV := hide (show vvF ⟨sh, st, off⟩ = false by simp [vvF, hg])
    go_enter Tryd.func56, Tryd.ntmps56
    go_wp2_with (go_at_call 50; refine (l2Count_c _ _ sh _ hn (H1.out.below (below_a1 _ _))).mono ?_; rintro e w' ⟨rfl, rfl⟩)
    go_ret
    exact ⟨ret_bool HV.out.symm, below_a1 _ _⟩
  · obtain ⟨g1, g2, g3⟩ := (goodSh_iff _).1 hg
    have hp0 := prodI_nonneg sh fun x hx => (g2 x hx).1
    have hc := cntF_good hg
    have e0 : decide (cntF sh < 0) = false := by rw [hc]; exact decide_eq_false (by omega)
    by_cases hfirst : st.length = sh.length ∧ 0 ≤ off ∧ off ≤ 4096
    · obtain ⟨f1, f2, f3⟩ := hfirst
      have HF1 := hide f1
      have e1 : ((st.length : Int) != (sh.length : Int)) = false := by rw [f1]; simp
      have d1 : decide (off < 0) = false := decide_eq_false (by omega)
      have d2 : decide (4096 < off) = false := decide_eq_false (by omega)
      have HC := hide hc
      have HG := hide hg
      have HG2 := hide g2
      clear f1 hc hg g1 g2 g3
      go_enter Tryd.func56, Tryd.ntmps56
      go_wp2_with (go_at_call 50; refine (l2Count_c _ _ sh _ hn (H1.out.below (below_a1 _ _))).mono ?_; rintro e w' ⟨rfl, rfl⟩)
      go_loop [4] (fun i => ∃ k : Nat, k ≤ st.length ∧ i = .int .i64 k ∧ Hid (∀ (j : Nat) (_ : j < k) (hj : j < st.length), okStr st[j] = true)) (fun i => st.length - (intOf i).toNat)
      case atStart => exact ⟨0, Nat.zero_le _, rfl, hide fun j hj => by omega⟩
      case round =>
        obtain ⟨k, hk, rfl, HS⟩ := hrel
        by_cases hlt : k < st.length
        · obtain ⟨b, o, rfl, hbl, h0⟩ := at_int (H2.out.below (below_a1 w (.cells #[.slice A1 sh.length c1, .slice A2 st.length c2, .int .i64 off] 38))) hlt
          by_cases hx0 : st[k] < -4096
          · have HV := hide (show vvF ⟨sh, st, off⟩ = false by
              have : st.all okStr = false := by
                rw [List.all_eq_false]; exact ⟨_, List.getElem_mem hlt, by simp [okStr]; omega⟩
              simp [vvF, this])
            go_wp2_with fail
            go_ret
            exact ⟨ret_bool HV.out.symm, below_a1 _ _⟩
          · by_cases hx1 : 4096 < st[k]
            · have HV := hide (show vvF ⟨sh, st, off⟩ = false by
                have : st.all okStr = false := by
                  rw [List.all_eq_false]; exact ⟨_, List.getElem_mem hlt, by simp [okStr]; omega⟩
                simp [vvF, this])
              go_wp2_with fail
              go_ret
              exact ⟨ret_bool HV.out.symm, below_a1 _ _⟩
            · go_wp2_with fail
              go_round
              case rel =>
                refine ⟨k + 1, hlt, by go_num, hide fun j hj hj2 => ?_⟩
                rcases Nat.lt_or_ge j k with h' | h'
                · exact HS.out j h' hj2
                · obtain rfl : j = k := by omega
                  simp [okStr]; omega
              case measure => simp [intOf]; omega
        · have hkk : k = st.length := by omega
          have HALL := hide (show st.all okStr = true by
            rw [List.all_eq_true]
            intro x hx
            obtain ⟨j, hj, rfl⟩ := List.getElem_of_mem hx
            exact HS.out j (by omega) hj)
          clear hkk
          by_cases hz : prodI sh = 0
          · have e3 : (cntF sh == 0) = true := by rw [HC.out]; simpa using hz
            have HV := hide (show vvF ⟨sh, st, off⟩ = true by simp [vvF, HG.out, HF1.out, HALL.out, hz, f2, f3])
            clear hz
            go_wp2_with fail
            go_ret
            exact ⟨ret_bool HV.out.symm, below_a1 _ _⟩
          · have e3 : (cntF sh == 0) = false := by rw [HC.out]; simpa using hz
            have HPL := hide (plOk_of (V := ⟨sh, st, off⟩) HG.out HF1.out HALL.out hz)
            have HV := hide (show vvF ⟨sh, st, off⟩ = (placesF sh st off).all okPl by simp [vvF, HG.out, HF1.out, HALL.out, hz, f2, f3])
            have HLE := hide (placesF_len_le (V := ⟨sh, st, off⟩) HPL.out off)
            clear hz
            go_wp2_with (go_at_call 92; refine (l2Places_c _ _ _ _ sh st off HPL.out _ _ 0 _ _ _ rfl rfl (Nat.zero_le _) (by omega) (by omega) (H1.out.below (below_a1 _ _)) (H2.out.below (below_a1 _ _))).mono ?_; rintro e w2 ⟨_, rfl, A5, c5, rfl, hc5, hown5, hb5⟩)
            obtain ⟨_, _, e5, _, hat5⟩ := own_atB hown5 (fun g hg => (hown5.lt g hg).2)
            cases e5
            have hbz := below_go (below_a1 w _) hb5 (by simp)
            have HAT := hide hat5
            have HB := hide hbz
            have hle := HLE.out
            clear hat5 hbz hb5 hown5 hc5
            go_loop [6] (fun i => ∃ k : Nat, k ≤ (placesF sh st off).length ∧ i = .int .i64 k ∧ Hid (∀ (j : Nat) (_ : j < k) (hj : j < (placesF sh st off).length), okPl (placesF sh st off)[j] = true)) (fun i => (placesF sh st off).length - (intOf i).toNat)
            case atStart => exact ⟨0, Nat.zero_le _, rfl, hide fun j hj => by omega⟩
            case round =>
              obtain ⟨q, hq, rfl, HQ⟩ := hrel
              by_cases hlt2 : q < (placesF sh st off).length
              · obtain ⟨b, o, rfl, hbl, h0⟩ := at_int HAT.out hlt2
                by_cases hx0 : (placesF sh st off)[q] < 0
                · have HV2 := hide (show (placesF sh st off).all okPl = false by
                    rw [List.all_eq_false]; exact ⟨_, List.getElem_mem hlt2, by simp [okPl]; omega⟩)
                  go_wp2_with fail
                  go_ret
                  exact ⟨ret_bool (by rw [HV.out, HV2.out]), HB.out⟩
                · by_cases hx1 : 4096 ≤ (placesF sh st off)[q]
                  · have HV2 := hide (show (placesF sh st off).all okPl = false by
                      rw [List.all_eq_false]; exact ⟨_, List.getElem_mem hlt2, by simp [okPl]; omega⟩)
                    go_wp2_with fail
                    go_ret
                    exact ⟨ret_bool (by rw [HV.out, HV2.out]), HB.out⟩
                  · go_wp2_with fail
                    go_round
                    case rel =>
                      refine ⟨q + 1, hlt2, by go_num, hide fun j hj hj2 => ?_⟩
                      rcases Nat.lt_or_ge j q with h' | h'
                      · exact HQ.out j h' hj2
                      · obtain rfl : j = q := by omega
                        simp [okPl]; omega
                    case measure => simp [intOf]; omega
              · have hkk : q = (placesF sh st off).length := by omega
                have HV2 := hide (show (placesF sh st off).all okPl = true by
                  rw [List.all_eq_true]
                  intro x hx
                  obtain ⟨j, hj, rfl⟩ := List.getElem_of_mem hx
                  exact HQ.out j (by omega) hj)
                clear hkk
                go_wp2_with fail
                go_ret
                exact ⟨ret_bool (by rw [HV.out, HV2.out]), HB.out⟩
    · have HV := hide (show vvF ⟨sh, st, off⟩ = false by
        rw [Bool.eq_false_iff]
        intro h
        simp only [vvF, Bool.and_eq_true, decide_eq_true_eq] at h
        exact hfirst ⟨h.1.1.1.1.2, h.1.1.1.2, h.1.1.2⟩)
      clear hg g1 g2 g3 hc hp0
      by_cases f1 : st.length = sh.length
      · have e1 : ((st.length : Int) != (sh.length : Int)) = false := by rw [f1]; simp
        have hf2 : ¬ (0 ≤ off ∧ off ≤ 4096) := fun h => hfirst ⟨f1, h⟩
        clear f1 hfirst
        by_cases f2 : off < 0
        · clear hf2
          go_enter Tryd.func56, Tryd.ntmps56
          go_wp2_with (go_at_call 50; refine (l2Count_c _ _ sh _ hn (H1.out.below (below_a1 _ _))).mono ?_; rintro e w' ⟨rfl, rfl⟩)
          go_ret
          exact ⟨ret_bool HV.out.symm, below_a1 _ _⟩
        · have f3 : 4096 < off := by omega
          clear hf2
          go_enter Tryd.func56, Tryd.ntmps56
          go_wp2_with (go_at_call 50; refine (l2Count_c _ _ sh _ hn (H1.out.below (below_a1 _ _))).mono ?_; rintro e w' ⟨rfl, rfl⟩)
          go_ret
          exact ⟨ret_bool HV.out.symm, below_a1 _ _⟩
      · have e1 : ((st.length : Int) != (sh.length : Int)) = true := by rw [bne_iff_ne]; omega
        clear f1 hfirst
        go_enter Tryd.func56, Tryd.ntmps56
        go_wp2_with (go_at_call 50; refine (l2Count_c _ _ sh _ hn (H1.out.below (below_a1 _ _))).mono ?_; rintro e w' ⟨rfl, rfl⟩)
        go_ret
        exact ⟨ret_bool HV.out.symm, below_a1 _ _⟩
end Go.Proofs.YtnmnkiihbopebaaDoor
