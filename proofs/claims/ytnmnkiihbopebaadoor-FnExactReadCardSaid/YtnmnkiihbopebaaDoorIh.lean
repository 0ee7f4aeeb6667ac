/- The implementation's ValidHeap. -/
import Derived.Test.YtnmnkiihbopebaaDoorSd
import Derived.Test.YtnmnkiihbopebaaDoorVi
namespace Go.Proofs.YtnmnkiihbopebaaDoor
open Go.RowKit Go.Nd
attribute [local go_sem] run_store_float

set_option maxRecDepth 100000 in
set_option maxHeartbeats 1000000 in
theorem iValidHeap_c {B : Nat} (A : Option Addr) (c : Nat) (rs : List (Value × Sr)) (w : World) (hT : Tab w) (hn : rs.length ≤ 1048576) (hcn : ∀ r ∈ rs, r.2.cs.length ≤ 1048576) (hwf : ∀ r ∈ rs, r.2.wf) (hA : HpAt B w A rs) :
    Calls Tryd.prog 83 #[.agg #[.slice A rs.length c]] w fun e w' => e = .returned (.bool (vhF (rs.map (·.2)))) ∧ Below w.heap.size w w' := by
  have HA := hide hA.now
  have HCN := hide hcn
  have HWF := hide hwf
  have HT := hide hT
  clear hA hcn hwf hT
  by_cases h64 : 64 < rs.length
  · have HV := hide (vhF_long rs h64)
    have h64' : (64 : Int) < rs.length := by omega
    go_enter Tryd.func83, Tryd.ntmps83
    go_wp2_with fail
    go_ret
    exact ⟨ret_bool HV.out.symm, below_a1 _ _⟩
  · have h64' : (rs.length : Int) ≤ 64 := by omega
    go_enter Tryd.func83, Tryd.ntmps83
    go_wp2_with fail
    go_loopw [14] (fun i wr => ∃ k : Nat, k ≤ rs.length ∧ i = .int .i64 k ∧ Hid (∀ (j : Nat) (_ : j < k) (hj : j < rs.length), stF rs[j].2 = true) ∧ Below w.heap.size w wr ∧ w.heap.size + 1 ≤ wr.heap.size)
      (fun i _ => rs.length - (intOf i).toNat)
    case atStart => exact ⟨0, Nat.zero_le _, rfl, hide fun j hj => by omega, below_a1 _ _, by simp⟩
    case round =>
      obtain ⟨k, hk, rfl, HS, hb, hsz⟩ := hrel
      obtain ⟨wo, hwo⟩ : ∃ wo, wo = wr := ⟨wr, rfl⟩
      subst hwo
      by_cases hlt : k < rs.length
      · obtain ⟨b, o, A6, c6, rfl, hbl, s0, s1, hc6, hat6⟩ := (HA.out.below hb).at_ hlt
        have HAT6 := hide hat6.now
        have hcn6 := HCN.out _ (List.getElem_mem hlt)
        have HWF6 := hide (HWF.out _ (List.getElem_mem hlt))
        clear hat6
        cases hdt : isDT rs[k].2.dt
        · have HV := hide (vhF_not rs k hlt (by simp [stF, hdt]))
          go_wp2_with (go_at_call 107; refine (isDType_c _ _).mono ?_; rintro e w' ⟨rfl, rfl⟩; rw [hdt])
          go_ret
          exact ⟨ret_bool HV.out.symm, hb.alloc (by omega) _⟩
        · by_cases h4 : 4096 < rs[k].2.cs.length
          · have HV := hide (vhF_not rs k hlt (by have : ¬ rs[k].2.cs.length ≤ 4096 := by omega
                                                  simp [stF, this]))
            have h4' : (4096 : Int) < rs[k].2.cs.length := by omega
            go_wp2_with (go_at_call 107; refine (isDType_c _ _).mono ?_; rintro e w' ⟨rfl, rfl⟩; rw [hdt])
            go_ret
            exact ⟨ret_bool HV.out.symm, hb.alloc (by omega) _⟩
          · have h4' : (rs[k].2.cs.length : Int) ≤ 4096 := by omega
            go_wp2_with (go_at_call 107; refine (isDType_c _ _).mono ?_; rintro e w' ⟨rfl, rfl⟩; rw [hdt])
            have hb2 : Below w.heap.size w (wo.alloc (.cells #[.int .i64 rs[k].2.dt, .slice A6 rs[k].2.cs.length c6] 56)) := hb.alloc (by omega) _
            go_loopw [31] (fun i wi => ∃ q : Nat, q ≤ rs[k].2.cs.length ∧ i = .int .i64 q ∧ Hid (∀ (j : Nat) (_ : j < q) (hj : j < rs[k].2.cs.length), vld rs[k].2.dt rs[k].2.cs[j] = true) ∧ Below (wo.heap.size + 1) (wo.alloc (.cells #[.int .i64 rs[k].2.dt, .slice A6 rs[k].2.cs.length c6] 56)) wi)
              (fun i _ => rs[k].2.cs.length - (intOf i).toNat)
            case atStart => exact ⟨0, Nat.zero_le _, rfl, hide fun j hj => by omega, Below.refl _ _⟩
            case round =>
              obtain ⟨q, hq, rfl, HQ, hbi⟩ := hrel
              obtain ⟨hcell, hfr⟩ := bcell hbi
              have t0 := hcell wo.heap.size 0 (by omega)
              simp [go_sem] at t0
              have hbw := hb2.trans (hbi.mono (by omega))
              have hszi : wo.heap.size + 1 ≤ wr.heap.size := by simpa using hbi.size
              clear hcell hfr
              by_cases hql : q < rs[k].2.cs.length
              · obtain ⟨b6, o6, rfl, hbl6, k0, k1, k2⟩ := at_cl ((HAT6.out.below (below_a1 wo _)).below (hbi.mono (Nat.le_succ _))) hql
                have hwt : wo.heap.size < wr.heap.size := by omega
                have hwle : w.heap.size ≤ wr.heap.size := by omega
                have hqi : (q : Int) < rs[k].2.cs.length := by omega
                have HC := hide (HWF6.out _ (List.getElem_mem hql))
                have HT2 := hide (((HT.out.below hbw HT.out.pos).below (below_a1 wr (.cells #[.int .i64 rs[k].2.cs[q].i, .float .f64 rs[k].2.cs[q].f, .float .f64 rs[k].2.cs[q].g] 59))) (by omega))
                cases hv : vld rs[k].2.dt rs[k].2.cs[q]
                · have HV := hide (vhF_not rs k hlt (by
                    have : rs[k].2.cs.all (vld rs[k].2.dt) = false := by
                      rw [List.all_eq_false]; exact ⟨_, List.getElem_mem hql, by simp [hv]⟩
                    simp [stF, this]))
                  go_wp2_with (go_at_call 108; refine (iValidCell_c _ _ HC.out _ HT2.out).mono ?_; rintro e w2 ⟨rfl, hb3⟩; rw [hv])
                  go_ret
                  exact ⟨ret_bool HV.out.symm, hbw.trans (((below_a1 wr _).trans (hb3.mono (by simp))).mono hwle)⟩
                · go_wp2_with (go_at_call 108; refine (iValidCell_c _ _ HC.out _ HT2.out).mono ?_; rintro e w2 ⟨rfl, hb3⟩; rw [hv])
                  go_roundw
                  case rel =>
                    refine ⟨q + 1, hql, by go_num, hide fun j hj hj2 => ?_, hbi.trans (((below_a1 wr _).trans (hb3.mono (by simp))).mono hszi)⟩
                    rcases Nat.lt_or_ge j q with h' | h'
                    · exact HQ.out j h' hj2
                    · obtain rfl : j = q := by omega
                      exact hv
                  case measure => simp [intOf]; omega
              · obtain rfl : q = rs[k].2.cs.length := by omega
                go_wp2_with fail
                go_roundw
                case rel =>
                  refine ⟨k + 1, hlt, by go_num, hide fun j hj hj2 => ?_, hbw, by omega⟩
                  rcases Nat.lt_or_ge j k with h' | h'
                  · exact HS.out j h' hj2
                  · obtain rfl : j = k := by omega
                    simp only [stF, Bool.and_eq_true, decide_eq_true_eq, List.all_eq_true]
                    refine ⟨⟨hdt, by omega⟩, fun x hx => ?_⟩
                    obtain ⟨i, hi, rfl⟩ := List.getElem_of_mem hx
                    exact HQ.out i hi hi
                case measure => simp [intOf]; omega
      · obtain rfl : k = rs.length := by omega
        have HV := hide (vhF_of rs (by omega) fun j hj => HS.out j hj hj)
        go_wp2_with fail
        go_ret
        exact ⟨ret_bool HV.out.symm, hb⟩
end Go.Proofs.YtnmnkiihbopebaaDoor
