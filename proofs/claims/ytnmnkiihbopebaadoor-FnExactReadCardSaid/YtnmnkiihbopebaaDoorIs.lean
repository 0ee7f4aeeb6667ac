/- The implementation's ValidArray, Read. -/
import Derived.Test.YtnmnkiihbopebaaDoorIr
namespace Go.Proofs.YtnmnkiihbopebaaDoor
open Go.RowKit Go.Nd
attribute [local go_sem] run_store_float

set_option maxHeartbeats 1000000 in
theorem iValidArray_c {B : Nat} (A A1 A2 : Option Addr) (c c1 c2 : Nat) (rs : List (Value × Sr)) (s : Int) (V : Vw) (w : World) (hT : Tab w) (hn0 : rs.length ≤ 1048576) (hn : V.sh.length ≤ 1048576) (hn2 : V.st.length ≤ 1048576) (hcn : ∀ r ∈ rs, r.2.cs.length ≤ 1048576) (hwf : ∀ r ∈ rs, r.2.wf)
    (hA : HpAt B w A rs) (h1 : AtB B w A1 (ivs V.sh)) (h2 : AtB B w A2 (ivs V.st)) :
    Calls Tryd.prog 38 #[.agg #[.slice A rs.length c], .agg #[.int .i64 s, .slice A1 V.sh.length c1, .slice A2 V.st.length c2, .int .i64 V.off]] w fun e w' => e = .returned (.bool (vhF (rs.map (·.2)) && fitF (rs.map (·.2)) ⟨s, V⟩)) ∧ Below w.heap.size w w' := by
  have HA := hide hA.now
  have H1 := hide h1.now
  have H2 := hide h2.now
  have HCN := hide hcn
  have HWF := hide hwf
  have HT := hide hT
  clear hA h1 h2 hcn hwf hT
  obtain ⟨sh, st, off⟩ := V
  dsimp only at hn hn2 H1 H2 ⊢
  cases hv : vhF (rs.map (·.2))
  · go_enter Tryd.func38, Tryd.ntmps38
    go_wp2_with (go_at_call 83; refine (iValidHeap_c _ _ rs _ (HT.out.below (below_a2 _ _ _) HT.out.pos) hn0 HCN.out HWF.out (HA.out.below (below_a2 _ _ _))).mono ?_; rintro e w2 ⟨rfl, hb2⟩; rw [hv])
    go_ret
    exact ⟨rfl, below_go (below_a2 _ _ _) hb2 (by simp; omega)⟩
  · cases hf : fitF (rs.map (·.2)) ⟨s, ⟨sh, st, off⟩⟩
    all_goals
      go_enter Tryd.func38, Tryd.ntmps38
      go_wp2_with (first | (go_at_call 83; refine (iValidHeap_c _ _ rs _ (HT.out.below (below_a2 _ _ _) HT.out.pos) hn0 HCN.out HWF.out (HA.out.below (below_a2 _ _ _))).mono ?_; rintro e w2 ⟨rfl, hb2⟩; rw [hv]; have hbz := below_go (below_a2 _ _ _) hb2 (by simp; omega); have hz2 : w.heap.size + 2 ≤ w2.heap.size := (by simpa using hb2.size); obtain ⟨hcell, hfr⟩ := bcell hb2) | (go_at_call 84; refine (ifits_c _ _ _ _ _ _ rs s ⟨sh, st, off⟩ _ hn hn2 HCN.out (HA.out.below hbz) (H1.out.below hbz) (H2.out.below hbz)).mono ?_; rintro e w3 ⟨rfl, hb3⟩; rw [hf]))
      go_ret
      exact ⟨rfl, below_go hbz hb3 hbz.size⟩
set_option maxHeartbeats 1000000 in
theorem iRead_c {B : Nat} (A A1 A2 : Option Addr) (c c1 c2 : Nat) (rs : List (Value × Sr)) (s : Int) (V : Vw) (w : World) (hT : Tab w) (hn0 : rs.length ≤ 1048576) (hn : V.sh.length ≤ 1048576) (hn2 : V.st.length ≤ 1048576) (hcn : ∀ r ∈ rs, r.2.cs.length ≤ 1048576) (hwf : ∀ r ∈ rs, r.2.wf)
    (hA : HpAt B w A rs) (h1 : AtB B w A1 (ivs V.sh)) (h2 : AtB B w A2 (ivs V.st)) :
    Calls Tryd.prog 11 #[.agg #[.slice A rs.length c], .agg #[.int .i64 s, .slice A1 V.sh.length c1, .slice A2 V.st.length c2, .int .i64 V.off]] w (Ret (RowQ w 59 3 (readF (rs.map (·.2)) ⟨s, V⟩).length (cvs (readF (rs.map (·.2)) ⟨s, V⟩)))) := by
  have HA := hide hA.now
  have H1 := hide h1.now
  have H2 := hide h2.now
  have HCN := hide hcn
  have HWF := hide hwf
  have HT := hide hT
  clear hA h1 h2 hcn hwf hT
  cases hv : vhF (rs.map (·.2)) && fitF (rs.map (·.2)) ⟨s, V⟩
  · have HR := hide (show readF (rs.map (·.2)) ⟨s, V⟩ = [] by simp [readF, hv])
    obtain ⟨sh, st, off⟩ := V
    dsimp only at hn hn2 H1 H2 ⊢
    go_enter Tryd.func11, Tryd.ntmps11
    go_wp2_with (go_at_call 38; refine (iValidArray_c _ _ _ _ _ _ rs s ⟨sh, st, off⟩ _ (HT.out.below (below_a2 _ _ _) HT.out.pos) hn0 hn hn2 HCN.out HWF.out (HA.out.below (below_a2 _ _ _)) (H1.out.below (below_a2 _ _ _)) (H2.out.below (below_a2 _ _ _))).mono ?_; rintro e w2 ⟨rfl, hb2⟩; rw [hv]; have hbz := below_go (below_a2 _ _ _) hb2 (by simp; omega))
    go_ret
    refine ⟨_, rfl, ?_⟩
    rw [HR.out]
    exact rowQ (World.ownsRow_nil _ _ _ _) hbz
  · obtain ⟨hv1, hf⟩ := Bool.and_eq_true_iff.1 hv
    have hf' := hf
    simp only [fitF, Bool.and_eq_true, decide_eq_true_eq, List.length_map, List.all_eq_true] at hf'
    obtain ⟨⟨⟨h0, hs⟩, hvv⟩, hp⟩ := hf'
    obtain ⟨k, rfl⟩ : ∃ k : Nat, s = k := ⟨s.toNat, by omega⟩
    have hk : k < rs.length := by omega
    rw [srAt_get rs k hk] at hp
    have HVV := hide hvv
    have HIN := hide (show ∀ p ∈ offsF V, 0 ≤ p ∧ p < rs[k].2.cs.length from fun p h => ⟨(offs_ge hvv p h).1, hp p h⟩)
    have HR := hide (show readF (rs.map (·.2)) ⟨k, V⟩ = readC rs[k].2.cs (offsF V) by simp [readF, hv1, hf, srAt_get rs k hk])
    have HRL := hide (show (readC rs[k].2.cs (offsF V)).length = (offsF V).length by simp [readC])
    clear hp hvv hs h0 hf hv1
    obtain ⟨sh, st, off⟩ := V
    dsimp only at hn hn2 H1 H2 ⊢
    go_enter Tryd.func11, Tryd.ntmps11
    go_wp2_with (first | (go_at_call 38; refine (iValidArray_c _ _ _ _ _ _ rs k ⟨sh, st, off⟩ _ (HT.out.below (below_a2 _ _ _) HT.out.pos) hn0 hn hn2 HCN.out HWF.out (HA.out.below (below_a2 _ _ _)) (H1.out.below (below_a2 _ _ _)) (H2.out.below (below_a2 _ _ _))).mono ?_; rintro e w2 ⟨rfl, hb2⟩; rw [hv]; have hbz := below_go (below_a2 _ _ _) hb2 (by simp; omega); have hz2 : w.heap.size + 2 ≤ w2.heap.size := (by simpa using hb2.size); obtain ⟨hcell, hfr⟩ := bcell hb2) | (go_at_call 39; refine (icells_c _ _ _ _ _ _ rs _ k rfl hk ⟨sh, st, off⟩ HVV.out _ HIN.out (HA.out.below hbz) (H1.out.below hbz) (H2.out.below hbz)).mono ?_; rintro e w3 ⟨_, rfl, A5, c5, rfl, hc5, hown5, hb5⟩))
    go_ret
    refine ⟨_, rfl, ?_⟩
    rw [HR.out, HRL.out]
    exact rowQ (own_mono hown5 hbz.size) (below_go hbz hb5 hbz.size)
end Go.Proofs.YtnmnkiihbopebaaDoor
