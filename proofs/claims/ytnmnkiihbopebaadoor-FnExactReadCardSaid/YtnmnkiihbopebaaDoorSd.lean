/- The reference's ValidHeap, l4Good, ValidArray, Read. -/
import Derived.Test.YtnmnkiihbopebaaDoorSc
namespace Go.Proofs.YtnmnkiihbopebaaDoor
open Go.RowKit Go.Nd
attribute [local go_sem] run_store_float

def stF (s : Sr) : Bool := isDT s.dt && decide (s.cs.length ≤ 4096) && s.cs.all (vld s.dt)
/-- ValidHeap. -/
def vhF (ss : List Sr) : Bool := decide (ss.length ≤ 64) && ss.all stF
def srAt (ss : List Sr) (s : Int) : Sr := (ss[s.toNat]?).getD ⟨0, []⟩
theorem srAt_get (rs : List (Value × Sr)) (k : Nat) (hk : k < rs.length) : srAt (rs.map (·.2)) (k : Int) = rs[k].2 := by simp [srAt, hk]
/-- The array lies in the heap. -/
def fitF (ss : List Sr) (a : Ar) : Bool := decide (0 ≤ a.s) && decide (a.s < ss.length) && vvF a.v && (offsF a.v).all fun p => decide (p < (srAt ss a.s).cs.length)
def readF (ss : List Sr) (a : Ar) : List Cl := if vhF ss && fitF ss a then readC (srAt ss a.s).cs (offsF a.v) else []
theorem vhF_of (rs : List (Value × Sr)) (h1 : rs.length ≤ 64) (h : ∀ (j : Nat) (_ : j < rs.length), stF rs[j].2 = true) : vhF (rs.map (·.2)) = true := by
  simp only [vhF, Bool.and_eq_true, decide_eq_true_eq, List.length_map, List.all_eq_true, List.mem_map]
  refine ⟨h1, ?_⟩
  rintro s ⟨r, hr, rfl⟩
  obtain ⟨j, hj, rfl⟩ := List.getElem_of_mem hr
  exact h j hj
theorem vhF_not (rs : List (Value × Sr)) (j : Nat) (hj : j < rs.length) (h : stF rs[j].2 = false) : vhF (rs.map (·.2)) = false := by
  rw [Bool.eq_false_iff]
  intro h'
  simp only [vhF, Bool.and_eq_true, decide_eq_true_eq, List.length_map, List.all_eq_true, List.mem_map] at h'
  have := h'.2 _ ⟨_, List.getElem_mem hj, rfl⟩
  rw [h] at this; cases this
theorem vhF_long (rs : List (Value × Sr)) (h : 64 < rs.length) : vhF (rs.map (·.2)) = false := by
  simp [vhF]; omega
set_option maxRecDepth 100000 in
set_option maxHeartbeats 1000000 in
theorem sValidHeap_c {B : Nat} (A : Option Addr) (c : Nat) (rs : List (Value × Sr)) (w : World) (hn : rs.length ≤ 1048576) (hcn : ∀ r ∈ rs, r.2.cs.length ≤ 1048576) (hwf : ∀ r ∈ rs, r.2.wf) (hA : HpAt B w A rs) :
    Calls Tryd.prog 61 #[.agg #[.slice A rs.length c]] w fun e w' => e = .returned (.bool (vhF (rs.map (·.2)))) ∧ Below w.heap.size w w' := by
  have HA := hide hA.now
  have HCN := hide hcn
  have HWF := hide hwf
  clear hA hcn hwf
  by_cases h64 : 64 < rs.length
  · have HV := hide (vhF_long rs h64)
    have h64' : (64 : Int) < rs.length := by omega
    go_enter Tryd.func61, Tryd.ntmps61
    go_wp2_with fail
    go_ret
    exact ⟨ret_bool HV.out.symm, below_a1 _ _⟩
  · have h64' : (rs.length : Int) ≤ 64 := by omega
    go_enter Tryd.func61, Tryd.ntmps61
    go_wp2_with fail
    go_loopw [3] (fun i wr => ∃ k : Nat, k ≤ rs.length ∧ i = .int .i64 k ∧ Hid (∀ (j : Nat) (_ : j < k) (hj : j < rs.length), stF rs[j].2 = true) ∧ wr.cell? ⟨w.heap.size, 0, none⟩ = some (.slice A rs.length c) ∧ Below w.heap.size w wr ∧ w.heap.size + 1 ≤ wr.heap.size)
      (fun i _ => rs.length - (intOf i).toNat)
    case atStart => exact ⟨0, Nat.zero_le _, rfl, hide fun j hj => by omega, by simp, below_a1 _ _, by simp⟩
    case round =>
      obtain ⟨k, hk, rfl, HS, g0, hb, hsz⟩ := hrel
      obtain ⟨wo, hwo⟩ : ∃ wo, wo = wr := ⟨wr, rfl⟩
      subst hwo
      by_cases hlt : k < rs.length
      · obtain ⟨b, o, A6, c6, rfl, hbl, s0, s1, hc6, hat6⟩ := (HA.out.below hb).at_ hlt
        have HAT6 := hide hat6.now
        have hcn6 := HCN.out _ (List.getElem_mem hlt)
        have HWF6 := hide (HWF.out _ (List.getElem_mem hlt))
        clear hat6
        cases hdt : isDT rs[k].2.dt
        · have HV := hide (vhF_not rs k hlt (by simp [stF, hdt]))
          go_wp2_with (go_at_call 102; refine (l1IsDType_c _ _).mono ?_; rintro e w' ⟨rfl, rfl⟩; rw [hdt])
          go_ret
          exact ⟨ret_bool HV.out.symm, hb.alloc (by omega) _⟩
        · by_cases h4 : 4096 < rs[k].2.cs.length
          · have HV := hide (vhF_not rs k hlt (by have : ¬ rs[k].2.cs.length ≤ 4096 := by omega
                                                  simp [stF, this]))
            have h4' : (4096 : Int) < rs[k].2.cs.length := by omega
            go_wp2_with (go_at_call 102; refine (l1IsDType_c _ _).mono ?_; rintro e w' ⟨rfl, rfl⟩; rw [hdt])
            go_ret
            exact ⟨ret_bool HV.out.symm, hb.alloc (by omega) _⟩
          · have h4' : (rs[k].2.cs.length : Int) ≤ 4096 := by omega
            go_wp2_with (go_at_call 102; refine (l1IsDType_c _ _).mono ?_; rintro e w' ⟨rfl, rfl⟩; rw [hdt])
            have hb2 : Below w.heap.size w (wo.alloc (.cells #[.int .i64 rs[k].2.dt, .slice A6 rs[k].2.cs.length c6] 56)) := hb.alloc (by omega) _
            have g0' : (wo.alloc (.cells #[.int .i64 rs[k].2.dt, .slice A6 rs[k].2.cs.length c6] 56)).cell? ⟨w.heap.size, 0, none⟩ = some (.slice (some ⟨b, o, none⟩) rs.length c) := ((below_a1 _ _).cell (p := ⟨w.heap.size, 0, none⟩) (by simp; omega)).trans g0
            have HG0' := hide g0'
            clear g0 g0'
            go_loopw [5] (fun i wi => ∃ q : Nat, q ≤ rs[k].2.cs.length ∧ i = .int .i64 q ∧ Hid (∀ (j : Nat) (_ : j < q) (hj : j < rs[k].2.cs.length), vld rs[k].2.dt rs[k].2.cs[j] = true) ∧ Below (wo.heap.size + 1) (wo.alloc (.cells #[.int .i64 rs[k].2.dt, .slice A6 rs[k].2.cs.length c6] 56)) wi)
              (fun i _ => rs[k].2.cs.length - (intOf i).toNat)
            case atStart => exact ⟨0, Nat.zero_le _, rfl, hide fun j hj => by omega, Below.refl _ _⟩
            case round =>
              obtain ⟨q, hq, rfl, HQ, hbi⟩ := hrel
              obtain ⟨hcell, hfr⟩ := bcell hbi
              have t0 := hcell wo.heap.size 0 (by omega)
              have t1 := hcell wo.heap.size 1 (by omega)
              simp [go_sem] at t0 t1
              have hbw := hb2.trans (hbi.mono (by omega))
              have hszi : wo.heap.size + 1 ≤ wr.heap.size := by simpa using hbi.size
              clear hcell hfr
              by_cases hql : q < rs[k].2.cs.length
              · obtain ⟨b6, o6, rfl, hbl6, k0, k1, k2⟩ := at_cl ((HAT6.out.below (below_a1 wo _)).below (hbi.mono (Nat.le_succ _))) hql
                have hwt : wo.heap.size < wr.heap.size := by omega
                have hb6t : b6 < wr.heap.size := by omega
                have hwle : w.heap.size ≤ wr.heap.size := by omega
                have hqi : (q : Int) < rs[k].2.cs.length := by omega
                have HC := hide (HWF6.out _ (List.getElem_mem hql))
                cases hv : vld rs[k].2.dt rs[k].2.cs[q]
                · have HV := hide (vhF_not rs k hlt (by
                    have : rs[k].2.cs.all (vld rs[k].2.dt) = false := by
                      rw [List.all_eq_false]; exact ⟨_, List.getElem_mem hql, by simp [hv]⟩
                    simp [stF, this]))
                  go_wp2_with fail
                  go_region_held3 (fun w' => w'.cell? ⟨wo.heap.size, 0, none⟩ = some (.int .i64 rs[k].2.dt) ∧ w'.cell? ⟨wo.heap.size, 1, none⟩ = some (.slice (some ⟨b6, o6, none⟩) rs[k].2.cs.length c6) ∧
                      w'.cell? ⟨b6, o6 + q * 3, none⟩ = some (.int .i64 rs[k].2.cs[q].i) ∧ w'.cell? ⟨b6, o6 + q * 3 + 1, none⟩ = some (.float .f64 rs[k].2.cs[q].f) ∧ w'.cell? ⟨b6, o6 + q * 3 + 2, none⟩ = some (.float .f64 rs[k].2.cs[q].g))
                    (first | (with_reducible exact ⟨r0, r1, r2, r3, r4⟩) | exact ⟨t0, t1, k0, k1, k2⟩)
                    (first | (go_at_call 103
                              refine (sValidCell_c _ _ HC.out _).mono ?_
                              rintro e w2 ⟨rfl, hb3⟩
                              rw [hv]
                              obtain ⟨hcell, hfr⟩ := bcell (below_of_drewN hb3)
                              have r0 := (hcell wo.heap.size 0 hwt).trans t0
                              have r1 := (hcell wo.heap.size 1 hwt).trans t1
                              have r2 := (hcell b6 (o6 + q * 3) hb6t).trans k0
                              have r3 := (hcell b6 (o6 + q * 3 + 1) hb6t).trans k1
                              have r4 := (hcell b6 (o6 + q * 3 + 2) hb6t).trans k2
                              have hb4 := hbw.trans ((below_of_drewN hb3).mono hwle)
                              clear hcell hfr))
                  go_wp2_with fail
                  go_ret
                  exact ⟨ret_bool HV.out.symm, hb4⟩
                · go_wp2_with fail
                  go_region_held3 (fun w' => w'.cell? ⟨wo.heap.size, 0, none⟩ = some (.int .i64 rs[k].2.dt) ∧ w'.cell? ⟨wo.heap.size, 1, none⟩ = some (.slice (some ⟨b6, o6, none⟩) rs[k].2.cs.length c6) ∧
                      w'.cell? ⟨b6, o6 + q * 3, none⟩ = some (.int .i64 rs[k].2.cs[q].i) ∧ w'.cell? ⟨b6, o6 + q * 3 + 1, none⟩ = some (.float .f64 rs[k].2.cs[q].f) ∧ w'.cell? ⟨b6, o6 + q * 3 + 2, none⟩ = some (.float .f64 rs[k].2.cs[q].g))
                    (first | (with_reducible exact ⟨r0, r1, r2, r3, r4⟩) | exact ⟨t0, t1, k0, k1, k2⟩)
                    (first | (go_at_call 103
                              refine (sValidCell_c _ _ HC.out _).mono ?_
                              rintro e w2 ⟨rfl, hb3⟩
                              rw [hv]
                              obtain ⟨hcell, hfr⟩ := bcell (below_of_drewN hb3)
                              have r0 := (hcell wo.heap.size 0 hwt).trans t0
                              have r1 := (hcell wo.heap.size 1 hwt).trans t1
                              have r2 := (hcell b6 (o6 + q * 3) hb6t).trans k0
                              have r3 := (hcell b6 (o6 + q * 3 + 1) hb6t).trans k1
                              have r4 := (hcell b6 (o6 + q * 3 + 2) hb6t).trans k2
                              have hb4 := hbw.trans ((below_of_drewN hb3).mono hwle)
                              clear hcell hfr))
                  go_wp2_with fail
                  go_roundw
                  case rel =>
                    refine ⟨q + 1, hql, by go_num, hide fun j hj hj2 => ?_, (hbi.trans ((below_of_drewN hb3).mono hszi))⟩
                    rcases Nat.lt_or_ge j q with h' | h'
                    · exact HQ.out j h' hj2
                    · obtain rfl : j = q := by omega
                      exact hv
                  case measure => simp [intOf]; omega
              · obtain rfl : q = rs[k].2.cs.length := by omega
                go_wp2_with fail
                go_roundw
                case rel =>
                  refine ⟨k + 1, hlt, by go_num, hide fun j hj hj2 => ?_, (hbi.cell (p := ⟨w.heap.size, 0, none⟩) (by simp; omega)).trans HG0'.out, hbw, by omega⟩
                  rcases Nat.lt_or_ge j k with h' | h'
                  · exact HS.out j h' hj2
                  · obtain rfl : j = k := by omega
                    simp only [stF, Bool.and_eq_true, decide_eq_true_eq, List.all_eq_true]
                    refine ⟨⟨hdt, by omega⟩, fun x hx => ?_⟩
                    obtain ⟨i, hi, rfl⟩ := List.getElem_of_mem hx
                    exact HQ.out i hi hi
                case measure => simp [intOf]; omega
      · obtain rfl : k = rs.length := by omega
        have HV := hide (vhF_of rs (by omega) fun j hj => HS.out j hj hj)
        go_wp2_with fail
        go_ret
        exact ⟨ret_bool HV.out.symm, hb⟩
theorem fitF_get (rs : List (Value × Sr)) (k : Nat) (hk : k < rs.length) (V : Vw) (x : Int) (hx : x = k) (hv : vvF V = true) : fitF (rs.map (·.2)) ⟨x, V⟩ = (offsF V).all fun p => decide (p < rs[k].2.cs.length) := by
  subst hx
  have h1 : (k : Int) < rs.length := by omega
  simp only [fitF, srAt_get rs k hk, hv, List.length_map]
  simp [h1]
set_option maxRecDepth 100000 in
set_option maxHeartbeats 1000000 in
theorem l4Good_c {B : Nat} (A A1 A2 : Option Addr) (c c1 c2 : Nat) (rs : List (Value × Sr)) (s : Int) (V : Vw) (w : World) (hn : V.sh.length ≤ 1048576) (hn2 : V.st.length ≤ 1048576) (hcn : ∀ r ∈ rs, r.2.cs.length ≤ 1048576)
    (hA : HpAt B w A rs) (h1 : AtB B w A1 (ivs V.sh)) (h2 : AtB B w A2 (ivs V.st)) :
    Calls Tryd.prog 62 #[.agg #[.slice A rs.length c], .agg #[.int .i64 s, .slice A1 V.sh.length c1, .slice A2 V.st.length c2, .int .i64 V.off]] w fun e w' => e = .returned (.bool (fitF (rs.map (·.2)) ⟨s, V⟩)) ∧ Below w.heap.size w w' := by
  have HA := hide hA.now
  have H1 := hide h1.now
  have H2 := hide h2.now
  have HCN := hide hcn
  clear hA h1 h2 hcn
  by_cases hs0 : s < 0
  · have HV := hide (show fitF (rs.map (·.2)) ⟨s, V⟩ = false by
      have : ¬ 0 ≤ s := by omega
      simp [fitF, this])
    obtain ⟨sh, st, off⟩ := V
    dsimp only at hn hn2 H1 H2 ⊢
    go_enter Tryd.func62, Tryd.ntmps62
    go_wp2_with fail
    go_ret
    exact ⟨ret_bool HV.out.symm, below_a2 _ _ _⟩
  · by_cases hs1 : (rs.length : Int) ≤ s
    · have HV := hide (show fitF (rs.map (·.2)) ⟨s, V⟩ = false by
        have : ¬ s < (rs.length : Int) := by omega
        simp [fitF, this])
      obtain ⟨sh, st, off⟩ := V
      dsimp only at hn hn2 H1 H2 ⊢
      go_enter Tryd.func62, Tryd.ntmps62
      go_wp2_with fail
      go_ret
      exact ⟨ret_bool HV.out.symm, below_a2 _ _ _⟩
    · obtain ⟨k, rfl⟩ : ∃ k : Nat, s = k := ⟨s.toNat, by omega⟩
      have hk : k < rs.length := by omega
      have hk' : (k : Int) < rs.length := by omega
      cases hv : vvF V
      · have HV := hide (show fitF (rs.map (·.2)) ⟨k, V⟩ = false by simp [fitF, hv])
        obtain ⟨sh, st, off⟩ := V
        dsimp only at hn hn2 H1 H2 ⊢
        go_enter Tryd.func62, Tryd.ntmps62
        go_wp2_with (go_at_call 56; refine (sValidView_c _ _ _ _ ⟨sh, st, off⟩ _ hn hn2 (H1.out.below (below_a2 _ _ _)) (H2.out.below (below_a2 _ _ _))).mono ?_; rintro e w2 ⟨rfl, hb2⟩; rw [hv])
        go_ret
        exact ⟨ret_bool HV.out.symm, below_go (below_a2 _ _ _) hb2 (by simp; omega)⟩
      · have HV := hide (fitF_get rs k hk V k rfl hv)
        have HOK := hide (vok_of hv)
        have HLE := hide (offs_len_le (vok_of hv))
        have HGE := hide (offs_ge hv)
        obtain ⟨sh, st, off⟩ := V
        dsimp only at hn hn2 H1 H2 ⊢
        generalize hps : offsF ⟨sh, st, off⟩ = ps at HV HLE HGE
        have HPS := hide hps
        clear hps
        go_enter Tryd.func62, Tryd.ntmps62
        go_wp2_with (first | (go_at_call 56; refine (sValidView_c _ _ _ _ ⟨sh, st, off⟩ _ hn hn2 (H1.out.below (below_a2 _ _ _)) (H2.out.below (below_a2 _ _ _))).mono ?_; rintro e w2 ⟨rfl, hb2⟩; rw [hv]; have hbz := below_go (below_a2 _ _ _) hb2 (by simp; omega); obtain ⟨hcell, hfr⟩ := bcell hb2) | (go_at_call 57; refine (l2Offsets_c _ _ _ _ ⟨sh, st, off⟩ _ hn HOK.out (H1.out.below hbz) (H2.out.below hbz)).mono ?_; rw [HPS.out]; rintro e w3 ⟨_, rfl, A5, c5, rfl, hc5, hown5, hb5⟩))
        have b0 := (hb5.cell (p := ⟨w.heap.size, 0, none⟩) (by have := hb2.size; simp at this; show w.heap.size < w2.heap.size; omega)).trans (hcell w.heap.size 0 (by simp; omega))
        have b1 := (hb5.cell (p := ⟨w.heap.size + 1, 0, none⟩) (by have := hb2.size; simp at this; show w.heap.size + 1 < w2.heap.size; omega)).trans (hcell (w.heap.size + 1) 0 (by simp))
        simp [go_sem] at b0 b1
        have hbz3 := below_go hbz hb5 hbz.size
        have B0 := hide b0
        have B1 := hide b1
        have hsz3 : w.heap.size + 2 ≤ w3.heap.size := by have := hb2.size; have := hb5.size; simp at *; omega
        obtain ⟨_, _, e5, _, hat5⟩ := own_atB hown5 (fun g hg => (hown5.lt g hg).2)
        cases e5
        have HAT := hide hat5
        clear hcell hfr hb2 hbz hb5 hown5 hat5 b0 b1
        go_loopw [6] (fun i wr => ∃ q : Nat, q ≤ ps.length ∧ i = .int .i64 q ∧ Hid (∀ (j : Nat) (_ : j < q) (hj : j < ps.length), ps[j] < rs[k].2.cs.length) ∧ Below w3.heap.size w3 wr) (fun i _ => ps.length - (intOf i).toNat)
        case atStart => exact ⟨0, Nat.zero_le _, rfl, hide fun j hj => by omega, Below.refl _ _⟩
        case round =>
          obtain ⟨q, hq, rfl, HQ, hbr⟩ := hrel
          have g0 := (hbr.cell (p := ⟨w.heap.size, 0, none⟩) (by show w.heap.size < w3.heap.size; omega)).trans B0.out
          have g1 := (hbr.cell (p := ⟨w.heap.size + 1, 0, none⟩) (by show w.heap.size + 1 < w3.heap.size; omega)).trans B1.out
          have hbw := below_go hbz3 hbr hbz3.size
          by_cases hlt : q < ps.length
          · obtain ⟨b5, o5, rfl, hbl5, hp0⟩ := at_int (HAT.out.below hbr) hlt
            obtain ⟨b, o, A6, c6, rfl, hbl, s0, s1, hc6, hat6⟩ := (HA.out.below hbw).at_ hk
            clear hat6
            have hql : (q : Int) < ps.length := by omega
            have hcn6 := HCN.out _ (List.getElem_mem hk)
            have hle := HLE.out
            by_cases hp : (rs[k].2.cs.length : Int) ≤ ps[q]
            · have HV2 := hide (show (ps.all fun p => decide (p < rs[k].2.cs.length)) = false by
                rw [List.all_eq_false]; exact ⟨_, List.getElem_mem hlt, by simp; omega⟩)
              go_wp2_with fail
              go_quiet (fail)
              go_wp2_with fail
              go_ret
              exact ⟨ret_bool (by rw [HV.out, HV2.out]), below_drewN hbw _⟩
            · go_wp2_with fail
              go_quiet (fail)
              go_wp2_with fail
              go_roundw
              case rel =>
                refine ⟨q + 1, hlt, by go_num, hide fun j hj hj2 => ?_, below_drewN hbr _⟩
                rcases Nat.lt_or_ge j q with h' | h'
                · exact HQ.out j h' hj2
                · obtain rfl : j = q := by omega
                  omega
              case measure => simp [intOf]; omega
          · obtain rfl : q = ps.length := by omega
            have HV2 := hide (show (ps.all fun p => decide (p < rs[k].2.cs.length)) = true by
              rw [List.all_eq_true]
              intro x hx
              obtain ⟨j, hj, rfl⟩ := List.getElem_of_mem hx
              exact decide_eq_true (HQ.out j hj hj))
            go_wp2_with fail
            go_ret
            exact ⟨ret_bool (by rw [HV.out, HV2.out]), hbw⟩
set_option maxHeartbeats 1000000 in
theorem sValidArray_c {B : Nat} (A A1 A2 : Option Addr) (c c1 c2 : Nat) (rs : List (Value × Sr)) (s : Int) (V : Vw) (w : World) (hn0 : rs.length ≤ 1048576) (hn : V.sh.length ≤ 1048576) (hn2 : V.st.length ≤ 1048576) (hcn : ∀ r ∈ rs, r.2.cs.length ≤ 1048576) (hwf : ∀ r ∈ rs, r.2.wf)
    (hA : HpAt B w A rs) (h1 : AtB B w A1 (ivs V.sh)) (h2 : AtB B w A2 (ivs V.st)) :
    Calls Tryd.prog 26 #[.agg #[.slice A rs.length c], .agg #[.int .i64 s, .slice A1 V.sh.length c1, .slice A2 V.st.length c2, .int .i64 V.off]] w fun e w' => e = .returned (.bool (vhF (rs.map (·.2)) && fitF (rs.map (·.2)) ⟨s, V⟩)) ∧ Below w.heap.size w w' := by
  have HA := hide hA.now
  have H1 := hide h1.now
  have H2 := hide h2.now
  have HCN := hide hcn
  have HWF := hide hwf
  clear hA h1 h2 hcn hwf
  obtain ⟨sh, st, off⟩ := V
  dsimp only at hn hn2 H1 H2 ⊢
  cases hv : vhF (rs.map (·.2))
  · go_enter Tryd.func26, Tryd.ntmps26
    go_wp2_with (go_at_call 61; refine (sValidHeap_c _ _ rs _ hn0 HCN.out HWF.out (HA.out.below (below_a2 _ _ _))).mono ?_; rintro e w2 ⟨rfl, hb2⟩; rw [hv])
    go_ret
    exact ⟨rfl, below_go (below_a2 _ _ _) hb2 (by simp; omega)⟩
  · cases hf : fitF (rs.map (·.2)) ⟨s, ⟨sh, st, off⟩⟩
    all_goals
      go_enter Tryd.func26, Tryd.ntmps26
      go_wp2_with (first | (go_at_call 61; refine (sValidHeap_c _ _ rs _ hn0 HCN.out HWF.out (HA.out.below (below_a2 _ _ _))).mono ?_; rintro e w2 ⟨rfl, hb2⟩; rw [hv]; have hbz := below_go (below_a2 _ _ _) hb2 (by simp; omega); have hz2 : w.heap.size + 2 ≤ w2.heap.size := (by simpa using hb2.size); obtain ⟨hcell, hfr⟩ := bcell hb2) | (go_at_call 62; refine (l4Good_c _ _ _ _ _ _ rs s ⟨sh, st, off⟩ _ hn hn2 HCN.out (HA.out.below hbz) (H1.out.below hbz) (H2.out.below hbz)).mono ?_; rintro e w3 ⟨rfl, hb3⟩; rw [hf]))
      go_ret
      exact ⟨rfl, below_go hbz hb3 hbz.size⟩
set_option maxHeartbeats 1000000 in
theorem sRead_c {B : Nat} (A A1 A2 : Option Addr) (c c1 c2 : Nat) (rs : List (Value × Sr)) (s : Int) (V : Vw) (w : World) (hn0 : rs.length ≤ 1048576) (hn : V.sh.length ≤ 1048576) (hn2 : V.st.length ≤ 1048576) (hcn : ∀ r ∈ rs, r.2.cs.length ≤ 1048576) (hwf : ∀ r ∈ rs, r.2.wf)
    (hA : HpAt B w A rs) (h1 : AtB B w A1 (ivs V.sh)) (h2 : AtB B w A2 (ivs V.st)) :
    Calls Tryd.prog 8 #[.agg #[.slice A rs.length c], .agg #[.int .i64 s, .slice A1 V.sh.length c1, .slice A2 V.st.length c2, .int .i64 V.off]] w (Ret (RowQ w 59 3 (readF (rs.map (·.2)) ⟨s, V⟩).length (cvs (readF (rs.map (·.2)) ⟨s, V⟩)))) := by
  have HA := hide hA.now
  have H1 := hide h1.now
  have H2 := hide h2.now
  have HCN := hide hcn
  have HWF := hide hwf
  clear hA h1 h2 hcn hwf
  cases hv : vhF (rs.map (·.2)) && fitF (rs.map (·.2)) ⟨s, V⟩
  · have HR := hide (show readF (rs.map (·.2)) ⟨s, V⟩ = [] by simp [readF, hv])
    obtain ⟨sh, st, off⟩ := V
    dsimp only at hn hn2 H1 H2 ⊢
    go_enter Tryd.func8, Tryd.ntmps8
    go_wp2_with (go_at_call 26; refine (sValidArray_c _ _ _ _ _ _ rs s ⟨sh, st, off⟩ _ hn0 hn hn2 HCN.out HWF.out (HA.out.below (below_a2 _ _ _)) (H1.out.below (below_a2 _ _ _)) (H2.out.below (below_a2 _ _ _))).mono ?_; rintro e w2 ⟨rfl, hb2⟩; rw [hv]; have hbz := below_go (below_a2 _ _ _) hb2 (by simp; omega))
    go_ret
    refine ⟨_, rfl, ?_⟩
    rw [HR.out]
    exact rowQ (own_mono (own_new w2 w2.heap.size 59 3 0 #[] rfl rfl (by simp)) hbz.size) (hbz.alloc hbz.size _)
  · obtain ⟨hv1, hf⟩ := Bool.and_eq_true_iff.1 hv
    have hf' := hf
    simp only [fitF, Bool.and_eq_true, decide_eq_true_eq, List.length_map, List.all_eq_true] at hf'
    obtain ⟨⟨⟨h0, hs⟩, hvv⟩, hp⟩ := hf'
    obtain ⟨k, rfl⟩ : ∃ k : Nat, s = k := ⟨s.toNat, by omega⟩
    have hk : k < rs.length := by omega
    rw [srAt_get rs k hk] at hp
    have HOK := hide (vok_of hvv)
    have HIN := hide (show ∀ p ∈ offsF V, 0 ≤ p ∧ p < rs[k].2.cs.length from fun p h => ⟨(offs_ge hvv p h).1, hp p h⟩)
    have HR := hide (show readF (rs.map (·.2)) ⟨k, V⟩ = readC rs[k].2.cs (offsF V) by simp [readF, hv1, hf, srAt_get rs k hk])
    have HRL := hide (show (readC rs[k].2.cs (offsF V)).length = (offsF V).length by simp [readC])
    clear hp hvv hs h0 hf hv1
    obtain ⟨sh, st, off⟩ := V
    dsimp only at hn hn2 H1 H2 ⊢
    go_enter Tryd.func8, Tryd.ntmps8
    go_wp2_with (first | (go_at_call 26; refine (sValidArray_c _ _ _ _ _ _ rs k ⟨sh, st, off⟩ _ hn0 hn hn2 HCN.out HWF.out (HA.out.below (below_a2 _ _ _)) (H1.out.below (below_a2 _ _ _)) (H2.out.below (below_a2 _ _ _))).mono ?_; rintro e w2 ⟨rfl, hb2⟩; rw [hv]; have hbz := below_go (below_a2 _ _ _) hb2 (by simp; omega); have hz2 : w.heap.size + 2 ≤ w2.heap.size := (by simpa using hb2.size); obtain ⟨hcell, hfr⟩ := bcell hb2) | (go_at_call 35; refine (l4Read_c _ _ _ _ _ _ rs k hk ⟨sh, st, off⟩ _ _ rfl hn HOK.out HIN.out (HA.out.below hbz) (H1.out.below hbz) (H2.out.below hbz)).mono ?_; rintro e w3 ⟨_, rfl, A5, c5, rfl, hc5, hown5, hb5⟩))
    go_ret
    refine ⟨_, rfl, ?_⟩
    rw [HR.out, HRL.out]
    exact rowQ (own_mono hown5 hbz.size) (below_go hbz hb5 hbz.size)
end Go.Proofs.YtnmnkiihbopebaaDoor
