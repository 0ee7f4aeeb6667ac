/- The implementation's fits. -/
import Derived.Test.YtnmnkiihbopebaaDoorIp
import Derived.Test.YtnmnkiihbopebaaDoorIh
namespace Go.Proofs.YtnmnkiihbopebaaDoor
open Go.RowKit Go.Nd Go.Shelf
attribute [local go_sem] run_store_float Oper.semAt_some

theorem below_of_row {B : Nat} {T : TypeId} {W W' : World} {row : Option Nat} (hg : W.grownBy W' row) (hr : ∀ r, row = some r → B ≤ r ∧ ∃ o : Obj, W.heap[r]? = some o ∧ (o.isCells = false ∨ isTy T o = true)) (hB : B ≤ W.heap.size) : Below B W W' :=
  ⟨hg.os, hg.tape, hg.output, hg.size, fun k hk => hg.block k (by omega) (fun e => by have := (hr k e.symm).1; omega)⟩
theorem ownT_below {B : Nat} {T : TypeId} {I : List Int → World → Prop} (h1 : ∀ s W, I s W → B ≤ W.heap.size) (h2 : ∀ s W W', I s W → Below B W W' → I s W') : OwnT B T I :=
  fun s W W' _ hs hg hr => h2 s W W' hs (below_of_row hg hr (h1 s W hs))
theorem own_grown {W W' : World} {T : TypeId} {row : Option Nat} {base n sz : Nat} {e : TypeId} {v : Value} {cs : List Value} (h : W.ownsRow base e sz v n cs) (hne : e ≠ T) (hg : W.grownBy W' row)
    (hr : ∀ r, row = some r → ∃ o : Obj, W.heap[r]? = some o ∧ (o.isCells = false ∨ isTy T o = true)) : W'.ownsRow base e sz v n cs := by
  refine own_frame h fun g hgb => hg.block g (h.lt g hgb).2 (fun er => ?_)
  obtain ⟨o, ho, hc⟩ := hr g er.symm
  rcases h.2 with ⟨rfl, _⟩ | ⟨g', cap, cur, rfl, _, hgg, _⟩
  · simp [Value.ownBlock] at hgb
  · simp only [Value.ownBlock, Option.some.injEq] at hgb
    subst hgb
    rw [hgg] at ho
    cases ho
    rcases hc with hc | hc
    · simp [Obj.isCells] at hc
    · exact hne (by simpa [isTy] using hc)
set_option maxRecDepth 100000 in
set_option maxHeartbeats 2000000 in
theorem ifits_c {B : Nat} (A A1 A2 : Option Addr) (c c1 c2 : Nat) (rs : List (Value × Sr)) (s : Int) (V : Vw) (w : World) (hn : V.sh.length ≤ 1048576) (hn2 : V.st.length ≤ 1048576) (hcn : ∀ r ∈ rs, r.2.cs.length ≤ 1048576)
    (hA : HpAt B w A rs) (h1 : AtB B w A1 (ivs V.sh)) (h2 : AtB B w A2 (ivs V.st)) :
    Calls Tryd.prog 84 #[.agg #[.slice A rs.length c], .agg #[.int .i64 s, .slice A1 V.sh.length c1, .slice A2 V.st.length c2, .int .i64 V.off]] w fun e w' => e = .returned (.bool (fitF (rs.map (·.2)) ⟨s, V⟩)) ∧ Below w.heap.size w w' := by
  have HA := hide hA.now
  have H1 := hide h1.now
  have H2 := hide h2.now
  have HCN := hide hcn
  clear hA h1 h2 hcn
  by_cases hs0 : s < 0
  · have HV := hide (show fitF (rs.map (·.2)) ⟨s, V⟩ = false by
      have : ¬ 0 ≤ s := by omega
      simp [fitF, this])
    obtain ⟨sh, st, off⟩ := V
    dsimp only at hn hn2 H1 H2 ⊢
    go_enter Tryd.func84, Tryd.ntmps84
    go_wp2_with fail
    refine bodyPost_ret (v := .bool false) (by simp [results, Tryd.results84, go_sem]) rfl ⟨ret_bool HV.out.symm, ?_⟩
    exact (below_a3 _ _ _ _)
  · by_cases hs1 : (rs.length : Int) ≤ s
    · have HV := hide (show fitF (rs.map (·.2)) ⟨s, V⟩ = false by
        have : ¬ s < (rs.length : Int) := by omega
        simp [fitF, this])
      obtain ⟨sh, st, off⟩ := V
      dsimp only at hn hn2 H1 H2 ⊢
      go_enter Tryd.func84, Tryd.ntmps84
      go_wp2_with fail
      refine bodyPost_ret (v := .bool false) (by simp [results, Tryd.results84, go_sem]) rfl ⟨ret_bool HV.out.symm, ?_⟩
      exact (below_a3 _ _ _ _)
    · obtain ⟨k, rfl⟩ : ∃ k : Nat, s = k := ⟨s.toNat, by omega⟩
      have hk : k < rs.length := by omega
      have hk' : (k : Int) < rs.length := by omega
      cases hv : vvF V
      · have HV := hide (show fitF (rs.map (·.2)) ⟨k, V⟩ = false by simp [fitF, hv])
        obtain ⟨sh, st, off⟩ := V
        dsimp only at hn hn2 H1 H2 ⊢
        go_enter Tryd.func84, Tryd.ntmps84
        go_wp2_with (go_at_call 51; refine (iValidView_c _ _ _ _ ⟨sh, st, off⟩ _ hn hn2 (H1.out.below (by exact below_a3 _ _ _ _)) (H2.out.below (by exact below_a3 _ _ _ _))).mono ?_; rintro e w2 ⟨rfl, hb2⟩; rw [hv]; have hbz := below_go (below_a3 _ _ _ _) hb2 (by simp; omega); obtain ⟨hcell, hfr⟩ := bcell hb2; have hsz := hb2.size)
        have q := (hcell (w.heap.size + 2) 0 (by simp))
        simp [go_sem] at q
        refine bodyPost_ret (v := .bool false) (by simp [results, Tryd.results84, go_sem, q]) rfl ⟨ret_bool HV.out.symm, ?_⟩
        exact hbz.setCell (by simp; omega) _
      · have HV := hide (fitF_get rs k hk V k rfl hv)
        have HSEQ := fun (n : Nat) (hn : 1 ≤ n) (bv : Nat) (W : World) => iplaces1_c n hn bv A1 A2 c1 c2 V W
        have hvv := hv
        simp only [vvF, Bool.and_eq_true, decide_eq_true_eq] at hvv
        obtain ⟨⟨⟨⟨⟨v1, v2⟩, v3⟩, v4⟩, v5⟩, _⟩ := hvv
        have HSQ := fun (n : Nat) (hn : 1 ≤ n) (bv : Nat) (W : World) => HSEQ n hn bv W v1 (fun h0 => plOk_of v1 v2 v5 h0) v3 v4
        clear v1 v2 v3 v4 v5 HSEQ
        obtain ⟨sh, st, off⟩ := V
        dsimp only at hn hn2 H1 H2 HSQ ⊢
        generalize hps : offsF ⟨sh, st, off⟩ = ps at HV HSQ
        clear hps
        obtain ⟨b, o, A6, c6, hA6, hbl, s0, s1, hc6, hat6⟩ := HA.out.at_ hk
        subst hA6
        have hcn6 := HCN.out _ (List.getElem_mem hk)
        clear hat6 s0
        refine (callsIn_wide (n := 3)).1 ?_
        refine callsIn_of_wp_marks Tryd.func84 rfl trivial ?_
        simp only [Tryd.ntmps84, List.size_toArray, List.length_cons, List.length_nil, Nat.reduceAdd, Nat.reduceSub, Array.replicate_succ, Array.replicate_zero, List.push_toArray, List.append_toArray, List.nil_append, List.cons_append]
        gi_wp2_with (refine ⟨trivial, ?_⟩; first | (gi_at_call 51; refine (callsIn_wide.2 (iValidView_c _ _ _ _ ⟨sh, st, off⟩ _ hn hn2 (H1.out.below (by exact below_a3 _ _ _ _)) (H2.out.below (by exact below_a3 _ _ _ _)))).mono ?_; rintro e w2 ⟨rfl, hb2⟩; rw [hv]; have hbz := below_go (below_a3 _ _ _ _) hb2 (by simp; omega); obtain ⟨hcell, hfr⟩ := bcell hb2; have hsz := hb2.size; have r1 := (hbz.cell (p := ⟨b, o + k * 2 + 1, none⟩) hbl).trans s1; have q1 := hcell (w.heap.size + 1) 1 (by simp); have q2 := hcell (w.heap.size + 1) 2 (by simp); have q3 := hcell (w.heap.size + 1) 3 (by simp); have q4 := hcell (w.heap.size + 2) 0 (by simp); have f4 := hfr (w.heap.size + 2) 0 (by simp); simp [go_sem] at q1 q2 q3 q4; have hz2 : w.heap.size + 3 ≤ w2.heap.size := (by simpa using hsz); have p1 := ((below_a1 w2 (.cells #[.int .i64 (rs[k].2.cs.length : Int)] 2)).cell (p := ⟨w.heap.size + 1, 1, none⟩) (by show w.heap.size + 1 < w2.heap.size; omega)).trans q1; have p2 := ((below_a1 w2 (.cells #[.int .i64 (rs[k].2.cs.length : Int)] 2)).cell (p := ⟨w.heap.size + 1, 2, none⟩) (by show w.heap.size + 1 < w2.heap.size; omega)).trans q2; have p3 := ((below_a1 w2 (.cells #[.int .i64 (rs[k].2.cs.length : Int)] 2)).cell (p := ⟨w.heap.size + 1, 3, none⟩) (by show w.heap.size + 1 < w2.heap.size; omega)).trans q3) | (gi_at_call 54; refine (callsIn_wide.2 (iplaces_c _ _ _ _ _ _ _ _)).mono ?_; rintro e w3 ⟨rfl, rfl⟩))
        have hw0z : ((w2.alloc (.cells #[.int .i64 (rs[k].2.cs.length : Int)] 2)).alloc (.cells #[.slice A1 sh.length c1, .slice A2 st.length c2, .int .i64 off] 38)).heap.size = w2.heap.size + 2 := by simp
        have hb0 : Below w2.heap.size w2 ((w2.alloc (.cells #[.int .i64 (rs[k].2.cs.length : Int)] 2)).alloc (.cells #[.slice A1 sh.length c1, .slice A2 st.length c2, .int .i64 off] 38)) := below_a2 _ _ _
        have n0 : ((w2.alloc (.cells #[.int .i64 (rs[k].2.cs.length : Int)] 2)).alloc (.cells #[.slice A1 sh.length c1, .slice A2 st.length c2, .int .i64 off] 38)).cell? ⟨w2.heap.size, 0, none⟩ = some (.int .i64 rs[k].2.cs.length) := by simp [go_sem]
        have V0 : ((w2.alloc (.cells #[.int .i64 (rs[k].2.cs.length : Int)] 2)).alloc (.cells #[.slice A1 sh.length c1, .slice A2 st.length c2, .int .i64 off] 38)).cell? ⟨w2.heap.size + 1, 0, none⟩ = some (.slice A1 sh.length c1) := by simp [go_sem]
        have V1 : ((w2.alloc (.cells #[.int .i64 (rs[k].2.cs.length : Int)] 2)).alloc (.cells #[.slice A1 sh.length c1, .slice A2 st.length c2, .int .i64 off] 38)).cell? ⟨w2.heap.size + 1, 1, none⟩ = some (.slice A2 st.length c2) := by simp [go_sem]
        have V2 : ((w2.alloc (.cells #[.int .i64 (rs[k].2.cs.length : Int)] 2)).alloc (.cells #[.slice A1 sh.length c1, .slice A2 st.length c2, .int .i64 off] 38)).cell? ⟨w2.heap.size + 1, 2, none⟩ = some (.int .i64 off) := by simp [go_sem]
        have hw0z' := Nat.le_of_eq hw0z.symm
        clear hw0z
        generalize hW0 : (w2.alloc (.cells #[.int .i64 (rs[k].2.cs.length : Int)] 2)).alloc (.cells #[.slice A1 sh.length c1, .slice A2 st.length c2, .int .i64 off] 38) = W0 at hw0z' hb0 n0 V0 V1 V2 ⊢
        clear hW0
        have hbW := below_go hbz hb0 hbz.size
        have m4 := (hb0.cell (p := ⟨w.heap.size + 2, 0, none⟩) (by show w.heap.size + 2 < w2.heap.size; omega)).trans q4
        have mf : W0.frozen? ⟨w.heap.size + 2, 0, none⟩ = false := (hb0.frozen (p := ⟨w.heap.size + 2, 0, none⟩) (by show w.heap.size + 2 < w2.heap.size; omega)).trans (f4.trans (by simp [go_sem]))
        refine wpIn_rangeT rfl (by omega) (gf := 90) (lb := #[.pointer (some ⟨w2.heap.size + 1, 0, none⟩)]) rfl trivial (enters_of Tryd.func90 (by kernel_rfl) rfl)
          (T := 130) (ys := ps) (HSQ _ (by omega) (w2.heap.size + 1) W0 (by omega) V0 V1 V2 (H1.out.below hbW).now (H2.out.below hbW).now) (Below.refl _ _) rfl
          (fun pre W => (∀ y ∈ pre, y < rs[k].2.cs.length) ∧ Below W0.heap.size W0 W)
          (fun pre W => (∃ y, y ∈ pre ∧ ¬ y < rs[k].2.cs.length) ∧ W0.heap.size ≤ W.heap.size ∧ W.cell? ⟨w.heap.size + 2, 0, none⟩ = some (.bool false) ∧ Below w.heap.size w W)
          (ownT_below (fun s W h => h.2.size) (fun s W W' h hb => ⟨h.1, h.2.trans hb⟩))
          (ownT_below (fun s W h => h.2.1) (fun s W W' h hb => ⟨h.1, Nat.le_trans h.2.1 hb.size, (hb.cell (p := ⟨w.heap.size + 2, 0, none⟩) (by show w.heap.size + 2 < W0.heap.size; omega)).trans h.2.2.1, h.2.2.2.trans (hb.mono (by have := hbW.size; omega))⟩))
          ⟨by simp, Below.refl _ _⟩
          (fun x => { tmps := #[.agg #[.slice (some ⟨b, o, none⟩) rs.length c], .agg #[.int .i64 k, .slice A1 sh.length c1, .slice A2 st.length c2, .int .i64 off], .pointer (some ⟨w.heap.size, 0, none⟩), .pointer (some ⟨w.heap.size + 1, 0, none⟩), .pointer (some ⟨w.heap.size + 1 + 1, 0, none⟩), .pointer (some ⟨w2.heap.size, 0, none⟩), .int .i64 x, .pointer (some ⟨w.heap.size + 1, 0, none⟩), .int .i64 k, .bool false, .bool false, .pointer (some ⟨w.heap.size + 1, 0, none⟩), .int .i64 k, .pointer (some ⟨w.heap.size, 0, none⟩), .slice (some ⟨b, o, none⟩) rs.length c, .int .i64 rs.length, .bool false, .bool false, .bool false, .pointer (some ⟨w.heap.size + 1, 1, none⟩), .agg #[.slice A1 sh.length c1, .slice A2 st.length c2, .int .i64 off], .bool true, .bool false, .bool false, .pointer (some ⟨w.heap.size, 0, none⟩), .slice (some ⟨b, o, none⟩) rs.length c, .pointer (some ⟨w.heap.size + 1, 0, none⟩), .int .i64 k, .pointer (some ⟨b, o + k * 2, none⟩), .pointer (some ⟨b, o + k * 2 + 1, none⟩), .slice A6 rs[k].2.cs.length c6, .int .i64 rs[k].2.cs.length, .pointer (some ⟨w.heap.size + 1, 1, none⟩), .agg #[.slice A1 sh.length c1, .slice A2 st.length c2, .int .i64 off], .func (.func 90) #[] #[.pointer (some ⟨w2.heap.size + 1, 0, none⟩)], .int .i64 x, undef, undef, undef], defers := [] }) ?assign ?body ?done ?stop
        case assign =>
          intro l x W K hK
          gi_wp2
          exact hK
        case body =>
          rintro l pre x W ⟨hp, hB⟩ hpre
          have n1 := (hB.cell (p := ⟨w2.heap.size, 0, none⟩) (by show w2.heap.size < W0.heap.size; omega)).trans n0
          have m5 := (hB.cell (p := ⟨w.heap.size + 2, 0, none⟩) (by show w.heap.size + 2 < W0.heap.size; omega)).trans m4
          have mf5 := (hB.frozen (p := ⟨w.heap.size + 2, 0, none⟩) (by show w.heap.size + 2 < W0.heap.size; omega)).trans mf
          have hsB := hB.size
          by_cases hx : (rs[k].2.cs.length : Int) ≤ x
          · gi_wp2
            exact ⟨KeepsOthers.setCell _ _ _, ⟨x, by simp, by omega⟩, by simpa [World.setCell] using hsB, World.cell?_setCell_same' _ _ _ (by rw [m5]; rfl), (hbW.trans (hB.mono hbW.size)).setCell (by simp; omega) _⟩
          · gi_wp2
            exact ⟨KeepsOthers.refl _, KeepsTy.refl _ _, fun y hy => (List.mem_append.1 hy).elim (hp y) (fun e => by simp at e; subst e; omega), hB⟩
        case done =>
          rintro D W hD ⟨hp, hB⟩ hK
          have HV2 := hide (show (ps.all fun p => decide (p < rs[k].2.cs.length)) = true by rw [List.all_eq_true]; exact fun p h => decide_eq_true (hp p h))
          have m5 := (hB.cell (p := ⟨w.heap.size + 2, 0, none⟩) (by show w.heap.size + 2 < W0.heap.size; omega)).trans m4
          have mf5 := (hB.frozen (p := ⟨w.heap.size + 2, 0, none⟩) (by show w.heap.size + 2 < W0.heap.size; omega)).trans mf
          gi_wp2
          have hK' := (KeepsOthers.setCell W ⟨w.heap.size + 2, 0, none⟩ (.bool true)).same D _ hK rfl
          refine ⟨by simp, .inl ⟨_, _, rfl, run_takeDeferred hK', ?_⟩⟩
          have hc5 := cell_kept (World.cell?_setCell_same' W ⟨w.heap.size + 2, 0, none⟩ (.bool true) (by rw [m5]; rfl)) (grownBy_putObj' _ D (.deferred none)) (fun r e => by cases e; exact ⟨_, hK', rfl⟩)
          refine ⟨.bool true, ?_, ret_bool (by rw [HV.out, HV2.out]), ((hbW.trans (hB.mono hbW.size)).setCell (p := ⟨w.heap.size + 2, 0, none⟩) (by simp) _).trans (belowK_b (w := w) (Nat.le_refl _) _ D _ _ (by have := hbW.size; omega) hK' rfl rfl)⟩
          simp [results, Tryd.results84, go_sem, hc5]
        case stop =>
          rintro D pre W hD hpre ⟨⟨y, hy, hny⟩, hsz, hc, hB⟩ hK
          have HV2 := hide (show (ps.all fun p => decide (p < rs[k].2.cs.length)) = false by rw [List.all_eq_false]; exact ⟨y, hpre.subset hy, by simpa using hny⟩)
          gi_wp2
          refine ⟨by simp, .inl ⟨_, _, rfl, run_takeDeferred hK, ?_⟩⟩
          have hc5 := cell_kept hc (grownBy_putObj' _ D (.deferred none)) (fun r e => by cases e; exact ⟨_, hK, rfl⟩)
          refine ⟨.bool false, ?_, ret_bool (by rw [HV.out, HV2.out]), hB.trans (belowK_b (w := w) (Nat.le_refl _) W D _ _ (by have := hbW.size; omega) hK rfl rfl)⟩
          simp [results, Tryd.results84, go_sem, hc5]
end Go.Proofs.YtnmnkiihbopebaaDoor
