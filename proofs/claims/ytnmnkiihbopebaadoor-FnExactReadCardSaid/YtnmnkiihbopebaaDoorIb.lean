/- The implementation's ValidView. -/
import Derived.Test.YtnmnkiihbopebaaDoorIa
namespace Go.Proofs.YtnmnkiihbopebaaDoor
open Go.RowKit Go.Nd
attribute [local go_sem] run_store_float

set_option maxHeartbeats 1000000 in
theorem iValidView_c {B : Nat} (A1 A2 : Option Addr) (c1 c2 : Nat) (V : Vw) (w : World) (hn : V.sh.length ≤ 1048576) (hn2 : V.st.length ≤ 1048576) (h1 : AtB B w A1 (ivs V.sh)) (h2 : AtB B w A2 (ivs V.st)) :
    Calls Tryd.prog 51 #[.agg #[.slice A1 V.sh.length c1, .slice A2 V.st.length c2, .int .i64 V.off]] w fun e w' => e = .returned (.bool (vvF V)) ∧ Below w.heap.size w w' := by
  obtain ⟨sh, st, off⟩ := V
  dsimp only at hn hn2 h1 h2 ⊢
  have H1 := hide h1.now
  have H2 := hide h2.now
  clear h1 h2
  cases hg : goodSh sh
  · have HV := hide (show vvF ⟨sh, st, off⟩ = false by simp [vvF, hg])
    go_enter Tryd.func51, Tryd.ntmps51
    go_wp2_with (go_at_call 52; refine (igoodShape_c _ _ sh _ hn (H1.out.below (below_a1 _ _))).mono ?_; rintro e w' ⟨rfl, rfl⟩; rw [hg])
    go_ret
    exact ⟨ret_bool HV.out.symm, below_a1 _ _⟩
  · by_cases hfirst : st.length = sh.length ∧ 0 ≤ off ∧ off ≤ 4096
    · obtain ⟨f1, f2, f3⟩ := hfirst
      obtain ⟨g1, g2, g3⟩ := (goodSh_iff sh).1 hg
      have HF1 := hide f1
      have HG := hide hg
      have HG1 := hide g1
      have HG2 := hide g2
      have HX := hide (show ∀ (j : Nat) (hj : j < sh.length), 0 ≤ sh[j] ∧ sh[j] ≤ 4096 from fun j hj => g2 _ (List.getElem_mem hj))
      have e1 : ((st.length : Int) != (sh.length : Int)) = false := by rw [f1]; simp
      have d1 : decide (off < 0) = false := decide_eq_false (by omega)
      have d2 : decide (4096 < off) = false := decide_eq_false (by omega)
      clear f1 g1 g2 g3
      go_enter Tryd.func51, Tryd.ntmps51
      go_wp2_with (go_at_call 52; refine (igoodShape_c _ _ sh _ hn (H1.out.below (below_a1 _ _))).mono ?_; rintro e w' ⟨rfl, rfl⟩; rw [hg])
      go_quiet (fail)
      go_wp2_with fail
      go_loop [3, 4, 38] (fun lo hi i => ∃ k : Nat, k ≤ st.length ∧ i = .int .i64 k ∧ lo = .int .i64 (loF (sh.take k) (st.take k) off) ∧ hi = .int .i64 (hiF (sh.take k) (st.take k) off) ∧
          off - 16777216 * k ≤ loF (sh.take k) (st.take k) off ∧ loF (sh.take k) (st.take k) off ≤ off ∧ off ≤ hiF (sh.take k) (st.take k) off ∧ hiF (sh.take k) (st.take k) off ≤ off + 16777216 * k ∧
          Hid (∀ (j : Nat) (_ : j < k) (hj : j < st.length), okStr st[j] = true)) (fun _ _ i => st.length - (intOf i).toNat)
      case atStart => exact ⟨0, Nat.zero_le _, rfl, rfl, rfl, by simp [loF], by simp [loF], by simp [hiF], by simp [hiF], hide fun j hj => by omega⟩
      case round =>
        obtain ⟨k, hk, rfl, rfl, rfl, hb1, hb2, hb3, hb4, HS⟩ := hrel
        by_cases hlt : k < st.length
        · obtain ⟨b, o, rfl, hbl, h0⟩ := at_int (H2.out.below (below_a1 w (.cells #[.slice A1 sh.length c1, .slice A2 st.length c2, .int .i64 off] 38))) hlt
          have hlt1 : k < sh.length := by have := HF1.out; omega
          obtain ⟨b', o', rfl, hbl', h0'⟩ := at_int (H1.out.below (below_a1 w (.cells #[.slice A1 sh.length c1, .slice (some ⟨b, o, none⟩) st.length c2, .int .i64 off] 38))) hlt1
          by_cases hx0 : st[k] < -4096
          · have HV := hide (show vvF ⟨sh, st, off⟩ = false by
              have : st.all okStr = false := by
                rw [List.all_eq_false]; exact ⟨_, List.getElem_mem hlt, by simp [okStr]; omega⟩
              simp [vvF, this])
            go_wp2_with fail
            go_ret
            exact ⟨ret_bool HV.out.symm, below_drewN (below_a1 _ _) _⟩
          · by_cases hx1 : 4096 < st[k]
            · have HV := hide (show vvF ⟨sh, st, off⟩ = false by
                have : st.all okStr = false := by
                  rw [List.all_eq_false]; exact ⟨_, List.getElem_mem hlt, by simp [okStr]; omega⟩
                simp [vvF, this])
              go_wp2_with fail
              go_ret
              exact ⟨ret_bool HV.out.symm, below_drewN (below_a1 _ _) _⟩
            · have hx := HX.out k hlt1
              have hrb := reach_bd sh[k] st[k] hx.1 hx.2 (by omega) (by omega)
              have hL := hide (loF_succ sh st off k hlt1 hlt)
              have hH := hide (hiF_succ sh st off k hlt1 hlt)
              have e3 : IntKind.i64.wrap (sh[k] - 1) = sh[k] - 1 := IntWalk.i64_in _ (by omega)
              have e4 : IntKind.i64.wrap (st[k] * (sh[k] - 1)) = st[k] * (sh[k] - 1) := IntWalk.i64_in _ (by omega)
              have hk4 : k < 4 := by have := HG1.out; omega
              have e5 : IntKind.i64.wrap (loF (sh.take k) (st.take k) off + min (st[k] * (sh[k] - 1)) 0) = loF (sh.take k) (st.take k) off + min (st[k] * (sh[k] - 1)) 0 := IntWalk.i64_in _ (by omega)
              have e6 : IntKind.i64.wrap (hiF (sh.take k) (st.take k) off + max (st[k] * (sh[k] - 1)) 0) = hiF (sh.take k) (st.take k) off + max (st[k] * (sh[k] - 1)) 0 := IntWalk.i64_in _ (by omega)
              go_wp2_with fail
              go_round
              case rel =>
                have hl' := hL.out
                have hh' := hH.out
                refine ⟨k + 1, hlt, by go_num, int_eq ?_, int_eq ?_, ?_, ?_, ?_, ?_, hide fun j hj hj2 => ?_⟩
                · rw [hl']; split <;> omega
                · rw [hh']; split <;> omega
                · rw [hl']; omega
                · rw [hl']; omega
                · rw [hh']; omega
                · rw [hh']; omega
                · rcases Nat.lt_or_ge j k with h' | h'
                  · exact HS.out j h' hj2
                  · obtain rfl : j = k := by omega
                    simp [okStr]; omega
              case measure => simp [intOf]; omega
        · obtain rfl : k = st.length := by omega
          rw [List.take_length, List.take_of_length_le (by rw [HF1.out]; exact Nat.le_refl _)]
          rw [List.take_length, List.take_of_length_le (by rw [HF1.out]; exact Nat.le_refl _)] at hb1 hb2 hb3 hb4
          have HALL := hide (show st.all okStr = true by
            rw [List.all_eq_true]
            intro x hx
            obtain ⟨j, hj, rfl⟩ := List.getElem_of_mem hx
            exact HS.out j hj hj)
          by_cases hz : prodI sh = 0
          · have e3 : (prodI sh == 0) = true := by simpa using hz
            have HV := hide (show vvF ⟨sh, st, off⟩ = true by simp [vvF, HG.out, HF1.out, HALL.out, hz, f2, f3])
            clear hz
            go_wp2_with (go_at_call 53; refine (icount_c _ _ sh _ HG1.out HG2.out (H1.out.below (below_drewN (below_a1 _ _) _))).mono ?_; rintro e w' ⟨rfl, rfl⟩)
            go_ret
            exact ⟨ret_bool HV.out.symm, below_drewN (below_a1 _ _) _⟩
          · have e3 : (prodI sh == 0) = false := by simpa using hz
            have HP := hide (places_all sh st off HF1.out fun x hx => (good_pos HG.out hz x hx).1)
            have HV := hide (show vvF ⟨sh, st, off⟩ = (decide (0 ≤ loF sh st off) && decide (hiF sh st off < 4096)) by simp [vvF, HG.out, HF1.out, HALL.out, hz, f2, f3, ← HP.out])
            clear hz
            by_cases hl : 0 ≤ loF sh st off
            · by_cases hh : hiF sh st off < 4096
              · have HV2 := hide (show vvF ⟨sh, st, off⟩ = true by rw [HV.out]; simp [hl, hh])
                go_wp2_with (go_at_call 53; refine (icount_c _ _ sh _ HG1.out HG2.out (H1.out.below (below_drewN (below_a1 _ _) _))).mono ?_; rintro e w' ⟨rfl, rfl⟩)
                go_ret
                exact ⟨ret_bool HV2.out.symm, below_drewN (below_a1 _ _) _⟩
              · have hh' : 4096 ≤ hiF sh st off := by omega
                have HV2 := hide (show vvF ⟨sh, st, off⟩ = false by rw [HV.out]; simp; omega)
                clear hh
                go_wp2_with (go_at_call 53; refine (icount_c _ _ sh _ HG1.out HG2.out (H1.out.below (below_drewN (below_a1 _ _) _))).mono ?_; rintro e w' ⟨rfl, rfl⟩)
                go_ret
                exact ⟨ret_bool (by rw [HV2.out]; exact decide_eq_false (by omega)), below_drewN (below_a1 _ _) _⟩
            · have hl' : loF sh st off < 0 := by omega
              have HV2 := hide (show vvF ⟨sh, st, off⟩ = false by rw [HV.out]; simp; omega)
              clear hl
              go_wp2_with (go_at_call 53; refine (icount_c _ _ sh _ HG1.out HG2.out (H1.out.below (below_drewN (below_a1 _ _) _))).mono ?_; rintro e w' ⟨rfl, rfl⟩)
              go_ret
              exact ⟨ret_bool HV2.out.symm, below_drewN (below_a1 _ _) _⟩
    · have HV := hide (show vvF ⟨sh, st, off⟩ = false by
        rw [Bool.eq_false_iff]
        intro h
        simp only [vvF, Bool.and_eq_true, decide_eq_true_eq] at h
        exact hfirst ⟨h.1.1.1.1.2, h.1.1.1.2, h.1.1.2⟩)
      by_cases f1 : st.length = sh.length
      · have e1 : ((st.length : Int) != (sh.length : Int)) = false := by rw [f1]; simp
        have hf2 : ¬ (0 ≤ off ∧ off ≤ 4096) := fun h => hfirst ⟨f1, h⟩
        clear f1 hfirst
        by_cases f2 : off < 0
        · clear hf2
          go_enter Tryd.func51, Tryd.ntmps51
          go_wp2_with (go_at_call 52; refine (igoodShape_c _ _ sh _ hn (H1.out.below (below_a1 _ _))).mono ?_; rintro e w' ⟨rfl, rfl⟩; rw [hg])
          go_ret
          exact ⟨ret_bool HV.out.symm, below_a1 _ _⟩
        · have f3 : 4096 < off := by omega
          clear hf2
          go_enter Tryd.func51, Tryd.ntmps51
          go_wp2_with (go_at_call 52; refine (igoodShape_c _ _ sh _ hn (H1.out.below (below_a1 _ _))).mono ?_; rintro e w' ⟨rfl, rfl⟩; rw [hg])
          go_ret
          exact ⟨ret_bool HV.out.symm, below_a1 _ _⟩
      · have e1 : ((st.length : Int) != (sh.length : Int)) = true := by rw [bne_iff_ne]; omega
        clear f1 hfirst
        go_enter Tryd.func51, Tryd.ntmps51
        go_wp2_with (go_at_call 52; refine (igoodShape_c _ _ sh _ hn (H1.out.below (below_a1 _ _))).mono ?_; rintro e w' ⟨rfl, rfl⟩; rw [hg])
        go_ret
        exact ⟨ret_bool HV.out.symm, below_a1 _ _⟩
end Go.Proofs.YtnmnkiihbopebaaDoor
