/- The implementation's cells, ValidArray, Read. -/
import Derived.Test.YtnmnkiihbopebaaDoorIq
import Derived.Test.YtnmnkiihbopebaaDoorRg
namespace Go.Proofs.YtnmnkiihbopebaaDoor
open Go.RowKit Go.Nd Go.Shelf
attribute [local go_sem] run_store_float Oper.semAt_some

theorem keepsTy_drew (T : TypeId) (W : World) : KeepsTy T W W.drew := fun _ _ h _ => h
theorem own_kind {w : World} {base n sz : Nat} {e T : TypeId} {v : Value} {cs : List Value} (h : w.ownsRow base e sz v n cs) (hne : e ≠ T) (g : Nat) (hg : v.ownBlock = some g) : ∃ o : Obj, w.heap[g]? = some o ∧ o.isCells = true ∧ isTy T o = false := by
  rcases h.2 with ⟨rfl, _⟩ | ⟨g', cap, cur, rfl, _, hgg, _⟩
  · simp [Value.ownBlock] at hg
  · simp only [Value.ownBlock, Option.some.injEq] at hg
    subst hg
    exact ⟨_, hgg, rfl, by simpa [isTy] using hne⟩
set_option maxRecDepth 100000 in
set_option maxHeartbeats 2000000 in
theorem icells_c {B : Nat} (A A1 A2 : Option Addr) (c c1 c2 : Nat) (rs : List (Value × Sr)) (s : Int) (k : Nat) (hs : s = k) (hk : k < rs.length) (V : Vw) (hv : vvF V = true) (w : World)
    (hin : ∀ p ∈ offsF V, 0 ≤ p ∧ p < rs[k].2.cs.length) (hA : HpAt B w A rs) (h1 : AtB B w A1 (ivs V.sh)) (h2 : AtB B w A2 (ivs V.st)) :
    Calls Tryd.prog 39 #[.agg #[.slice A rs.length c], .agg #[.int .i64 s, .slice A1 V.sh.length c1, .slice A2 V.st.length c2, .int .i64 V.off]] w (Ret (RowQ w 59 3 (offsF V).length (cvs (readC rs[k].2.cs (offsF V))))) := by
  obtain ⟨i0, hi, hz0, hz1, hz2⟩ := info_parts infoCell
  subst hs
  have HA := hide hA.now
  have H1 := hide h1.now
  have H2 := hide h2.now
  clear hA h1 h2
  have hk' : (k : Int) < rs.length := by omega
  have HLE := hide (offs_len_le (vok_of hv))
  have HSEQ := fun (n : Nat) (hn : 1 ≤ n) (bv : Nat) (W : World) => iplaces1_c n hn bv A1 A2 c1 c2 V W
  have hvv := hv
  simp only [vvF, Bool.and_eq_true, decide_eq_true_eq] at hvv
  obtain ⟨⟨⟨⟨⟨v1, v2⟩, v3⟩, v4⟩, v5⟩, _⟩ := hvv
  have HSQ := fun (n : Nat) (hn : 1 ≤ n) (bv : Nat) (W : World) => HSEQ n hn bv W v1 (fun h0 => plOk_of v1 v2 v5 h0) v3 v4
  clear v1 v2 v3 v4 v5 HSEQ hv
  obtain ⟨sh, st, off⟩ := V
  dsimp only at H1 H2 HSQ ⊢
  generalize hps : offsF ⟨sh, st, off⟩ = ps at HSQ HLE hin ⊢
  have HIN := hide hin
  clear hps hin
  obtain ⟨b, o, A6, c6, hA6, hbl, s0, s1, hc6, hat6⟩ := HA.out.at_ hk
  subst hA6
  have HAT6 := hide hat6
  clear hat6 s0
  have r1 := ((below_a4 w (.cells #[.slice (some ⟨b, o, none⟩) rs.length c] 36) (.cells #[.int .i64 k, .slice A1 sh.length c1, .slice A2 st.length c2, .int .i64 off] 40) (.cells #[] 59) (.cells #[.slice (some ⟨w.heap.size + 1 + 1, 0, none⟩) 0 0] 32)).cell (p := ⟨b, o + k * 2 + 1, none⟩) hbl).trans s1
  refine (callsIn_wide (n := 3)).1 ?_
  refine callsIn_of_wp_marks Tryd.func39 rfl trivial ?_
  simp only [Tryd.ntmps39, List.size_toArray, List.length_cons, List.length_nil, Nat.reduceAdd, Nat.reduceSub, Array.replicate_succ, Array.replicate_zero, List.push_toArray, List.append_toArray, List.nil_append, List.cons_append]
  gi_wp2_with (refine ⟨trivial, ?_⟩; first | (gi_at_call 54; refine (callsIn_wide.2 (iplaces_c _ _ _ _ _ _ _ _)).mono ?_; rintro e w3 ⟨rfl, rfl⟩))
  have hzW : w.heap.size + 6 ≤ (((((((w.alloc (.cells #[.slice (some ⟨b, o, none⟩) rs.length c] 36)).alloc (.cells #[.int .i64 k, .slice A1 sh.length c1, .slice A2 st.length c2, .int .i64 off] 40)).alloc (.cells #[] 59)).alloc (.cells #[.slice (some ⟨w.heap.size + 1 + 1, 0, none⟩) 0 0] 32)).alloc (.cells #[.slice A6 rs[k].2.cs.length c6] 32)).alloc (.cells #[.slice A1 sh.length c1, .slice A2 st.length c2, .int .i64 off] 38))).heap.size := by simp
  have hbW : Below w.heap.size w (((((((w.alloc (.cells #[.slice (some ⟨b, o, none⟩) rs.length c] 36)).alloc (.cells #[.int .i64 k, .slice A1 sh.length c1, .slice A2 st.length c2, .int .i64 off] 40)).alloc (.cells #[] 59)).alloc (.cells #[.slice (some ⟨w.heap.size + 1 + 1, 0, none⟩) 0 0] 32)).alloc (.cells #[.slice A6 rs[k].2.cs.length c6] 32)).alloc (.cells #[.slice A1 sh.length c1, .slice A2 st.length c2, .int .i64 off] 38))) := ((below_a4 _ _ _ _ _).alloc (by simp; omega) _).alloc (by simp; omega) _
  have V0 : (((((((w.alloc (.cells #[.slice (some ⟨b, o, none⟩) rs.length c] 36)).alloc (.cells #[.int .i64 k, .slice A1 sh.length c1, .slice A2 st.length c2, .int .i64 off] 40)).alloc (.cells #[] 59)).alloc (.cells #[.slice (some ⟨w.heap.size + 1 + 1, 0, none⟩) 0 0] 32)).alloc (.cells #[.slice A6 rs[k].2.cs.length c6] 32)).alloc (.cells #[.slice A1 sh.length c1, .slice A2 st.length c2, .int .i64 off] 38))).cell? ⟨w.heap.size + 5, 0, none⟩ = some (.slice A1 sh.length c1) := by simp [go_sem]
  have V1 : (((((((w.alloc (.cells #[.slice (some ⟨b, o, none⟩) rs.length c] 36)).alloc (.cells #[.int .i64 k, .slice A1 sh.length c1, .slice A2 st.length c2, .int .i64 off] 40)).alloc (.cells #[] 59)).alloc (.cells #[.slice (some ⟨w.heap.size + 1 + 1, 0, none⟩) 0 0] 32)).alloc (.cells #[.slice A6 rs[k].2.cs.length c6] 32)).alloc (.cells #[.slice A1 sh.length c1, .slice A2 st.length c2, .int .i64 off] 38))).cell? ⟨w.heap.size + 5, 1, none⟩ = some (.slice A2 st.length c2) := by simp [go_sem]
  have V2 : (((((((w.alloc (.cells #[.slice (some ⟨b, o, none⟩) rs.length c] 36)).alloc (.cells #[.int .i64 k, .slice A1 sh.length c1, .slice A2 st.length c2, .int .i64 off] 40)).alloc (.cells #[] 59)).alloc (.cells #[.slice (some ⟨w.heap.size + 1 + 1, 0, none⟩) 0 0] 32)).alloc (.cells #[.slice A6 rs[k].2.cs.length c6] 32)).alloc (.cells #[.slice A1 sh.length c1, .slice A2 st.length c2, .int .i64 off] 38))).cell? ⟨w.heap.size + 5, 2, none⟩ = some (.int .i64 off) := by simp [go_sem]
  have bx5 : Boxed (((((((w.alloc (.cells #[.slice (some ⟨b, o, none⟩) rs.length c] 36)).alloc (.cells #[.int .i64 k, .slice A1 sh.length c1, .slice A2 st.length c2, .int .i64 off] 40)).alloc (.cells #[] 59)).alloc (.cells #[.slice (some ⟨w.heap.size + 1 + 1, 0, none⟩) 0 0] 32)).alloc (.cells #[.slice A6 rs[k].2.cs.length c6] 32)).alloc (.cells #[.slice A1 sh.length c1, .slice A2 st.length c2, .int .i64 off] 38))) (w.heap.size + 3) 32 (.slice (some ⟨w.heap.size + 2, 0, none⟩) 0 0) := by
    have := Boxed.new (((w.alloc (.cells #[.slice (some ⟨b, o, none⟩) rs.length c] 36)).alloc (.cells #[.int .i64 k, .slice A1 sh.length c1, .slice A2 st.length c2, .int .i64 off] 40)).alloc (.cells #[] 59)) 32 (.slice (some ⟨w.heap.size + 1 + 1, 0, none⟩) 0 0)
    simp only [World.size_alloc] at this
    exact (this.alloc _).alloc _
  have bx6 : Boxed (((((((w.alloc (.cells #[.slice (some ⟨b, o, none⟩) rs.length c] 36)).alloc (.cells #[.int .i64 k, .slice A1 sh.length c1, .slice A2 st.length c2, .int .i64 off] 40)).alloc (.cells #[] 59)).alloc (.cells #[.slice (some ⟨w.heap.size + 1 + 1, 0, none⟩) 0 0] 32)).alloc (.cells #[.slice A6 rs[k].2.cs.length c6] 32)).alloc (.cells #[.slice A1 sh.length c1, .slice A2 st.length c2, .int .i64 off] 38))) (w.heap.size + 4) 32 (.slice A6 rs[k].2.cs.length c6) := by
    have := Boxed.new ((((w.alloc (.cells #[.slice (some ⟨b, o, none⟩) rs.length c] 36)).alloc (.cells #[.int .i64 k, .slice A1 sh.length c1, .slice A2 st.length c2, .int .i64 off] 40)).alloc (.cells #[] 59)).alloc (.cells #[.slice (some ⟨w.heap.size + 1 + 1, 0, none⟩) 0 0] 32)) 32 (.slice A6 rs[k].2.cs.length c6)
    simp only [World.size_alloc] at this
    exact this.alloc _
  have hown0 : (((((((w.alloc (.cells #[.slice (some ⟨b, o, none⟩) rs.length c] 36)).alloc (.cells #[.int .i64 k, .slice A1 sh.length c1, .slice A2 st.length c2, .int .i64 off] 40)).alloc (.cells #[] 59)).alloc (.cells #[.slice (some ⟨w.heap.size + 1 + 1, 0, none⟩) 0 0] 32)).alloc (.cells #[.slice A6 rs[k].2.cs.length c6] 32)).alloc (.cells #[.slice A1 sh.length c1, .slice A2 st.length c2, .int .i64 off] 38))).ownsRow (w.heap.size + 2) 59 3 (.slice (some ⟨w.heap.size + 2, 0, none⟩) 0 0) 0 (cvs (readC rs[k].2.cs [])) :=
    own_alloc (own_alloc (own_alloc (own_new ((w.alloc (.cells #[.slice (some ⟨b, o, none⟩) rs.length c] 36)).alloc (.cells #[.int .i64 k, .slice A1 sh.length c1, .slice A2 st.length c2, .int .i64 off] 40)) (w.heap.size + 2) 59 3 0 #[] (by simp) rfl (by simp)) _) _) _
  generalize hW0 : ((((((w.alloc (.cells #[.slice (some ⟨b, o, none⟩) rs.length c] 36)).alloc (.cells #[.int .i64 k, .slice A1 sh.length c1, .slice A2 st.length c2, .int .i64 off] 40)).alloc (.cells #[] 59)).alloc (.cells #[.slice (some ⟨w.heap.size + 1 + 1, 0, none⟩) 0 0] 32)).alloc (.cells #[.slice A6 rs[k].2.cs.length c6] 32)).alloc (.cells #[.slice A1 sh.length c1, .slice A2 st.length c2, .int .i64 off] 38)) = W0 at hzW hbW V0 V1 V2 bx5 bx6 hown0 ⊢
  clear hW0 r1
  refine wpIn_rangeT rfl (by omega) (gf := 90) (lb := #[.pointer (some ⟨w.heap.size + 1 + 1 + 1 + 1 + 1, 0, none⟩)]) rfl trivial (enters_of Tryd.func90 (by kernel_rfl) rfl)
    (T := 130) (ys := ps) (HSQ _ (by omega) (w.heap.size + 5) W0 (by omega) V0 V1 V2 (H1.out.below hbW).now (H2.out.below hbW).now) (Below.refl _ _) rfl
    (fun pre W => ∃ A' c', Boxed W (w.heap.size + 3) 32 (.slice A' pre.length c') ∧ Boxed W (w.heap.size + 4) 32 (.slice A6 rs[k].2.cs.length c6) ∧ W.ownsRow (w.heap.size + 2) 59 3 (.slice A' pre.length c') pre.length (cvs (readC rs[k].2.cs pre)) ∧
      Below w.heap.size w W ∧ W0.heap.size ≤ W.heap.size)
    (fun _ _ => False)
    (fun s W W' row h hg hr => by
      obtain ⟨A', c', g1, g4, g3, g5, g6⟩ := h
      have hb := below_of_row hg hr g6
      exact ⟨A', c', (hb.block _ (by omega)).trans g1, (hb.block _ (by omega)).trans g4, own_grown g3 (by decide) hg (fun r e => (hr r e).2), g5.trans (hb.mono (by omega)), Nat.le_trans g6 hb.size⟩)
    (fun _ _ _ _ h _ _ => h)
    ⟨_, _, bx5, bx6, hown0, hbW, Nat.le_refl _⟩
    (fun x => { tmps := #[.agg #[.slice (some ⟨b, o, none⟩) rs.length c], .agg #[.int .i64 k, .slice A1 sh.length c1, .slice A2 st.length c2, .int .i64 off], .pointer (some ⟨w.heap.size, 0, none⟩), .pointer (some ⟨w.heap.size + 1, 0, none⟩), .slice none 0 0, .pointer (some ⟨w.heap.size + 1 + 1 + 1, 0, none⟩), .pointer (some ⟨w.heap.size + 1 + 1 + 1 + 1, 0, none⟩), .int .i64 x, .slice (some ⟨w.heap.size + 1 + 1, 0, none⟩) 0 0, .pointer (some ⟨w.heap.size, 0, none⟩), .slice (some ⟨b, o, none⟩) rs.length c, .pointer (some ⟨w.heap.size + 1, 0, none⟩), .int .i64 k, .pointer (some ⟨b, o + k * 2, none⟩), .pointer (some ⟨b, o + k * 2 + 1, none⟩), .slice A6 rs[k].2.cs.length c6, .pointer (some ⟨w.heap.size + 1, 1, none⟩), .agg #[.slice A1 sh.length c1, .slice A2 st.length c2, .int .i64 off], .func (.func 90) #[] #[.pointer (some ⟨w.heap.size + 1 + 1 + 1 + 1 + 1, 0, none⟩)], .int .i64 x, undef, undef, undef, undef, undef, undef, undef, undef], defers := [] }) ?assign ?body ?done ?stop
  case assign =>
    intro l x W K hK
    gi_wp2
    exact hK
  case body =>
    rintro l pre x W ⟨A', c', bx5, bx6, g3, hB, hsB⟩ hpre
    have g1 := bx5.cell
    have g4 := bx6.cell
    have hxm : x ∈ ps := hpre.subset (by simp)
    obtain ⟨hx0, hx1⟩ := HIN.out x hxm
    obtain ⟨p, rfl⟩ : ∃ p : Nat, x = p := ⟨x.toNat, by omega⟩
    have hpl : p < rs[k].2.cs.length := by omega
    obtain ⟨b6, o6, hA6, hbl6, k0, k1, k2⟩ := at_cl (HAT6.out.below hB) hpl
    subst hA6
    have hA6s := bx6
    have hlen : pre.length + 1 ≤ 4096 := by
      have h1 := hpre.length_le
      have h2 := HLE.out
      simp at h1
      omega
    have HSTEP := hide (show cvs (readC rs[k].2.cs pre) ++ [.int .i64 rs[k].2.cs[p].i, .float .f64 rs[k].2.cs[p].f, .float .f64 rs[k].2.cs[p].g] = cvs (readC rs[k].2.cs (pre ++ [(p : Int)])) by
      rw [readC, readC, List.map_append, cvs_append, List.map_singleton, pickC_get _ p hpl _ rfl]; rfl)
    gi_wp2
    refine region_round (fun w' => w'.cell? ⟨w.heap.size + 4, 0, none⟩ = some (.slice (some ⟨b6, o6, none⟩) rs[k].2.cs.length c6) ∧
      w'.cell? ⟨b6, o6 + p * 3, none⟩ = some (.int .i64 rs[k].2.cs[p].i) ∧ w'.cell? ⟨b6, o6 + p * 3 + 1, none⟩ = some (.float .f64 rs[k].2.cs[p].f) ∧ w'.cell? ⟨b6, o6 + p * 3 + 2, none⟩ = some (.float .f64 rs[k].2.cs[p].g)) (by kernel_rfl) ?_ (fun _ _ h => h) ⟨g4, k0, k1, k2⟩ (fun hS => ?_)
    · intro i o ho cc
      rcases i with _ | _ | _ | _ | _ | _ | _ | _ | i <;> simp at ho <;> subst ho <;> simp
    refine wpAnyH_take (i := 1) (v := Value.slice (some ⟨b6, o6, none⟩) rs[k].2.cs.length c6) rfl (by kernel_rfl) (by kernel_rfl) (by kernel_rfl) (fun _ _ _ h => h) (Or.inl ⟨by rfl, ?_⟩) hS ?_
    · intro w' hSw
      obtain ⟨q2, q3, q4, q5⟩ := hSw
      go_simp
    simp only [Act.put]
    refine wpAnyH_take (i := 2) (v := Value.int .i64 p) rfl (by kernel_rfl) (by kernel_rfl) (by kernel_rfl) (fun _ _ _ h => h) (Or.inl ⟨by rfl, ?_⟩) hS ?_
    · intro w' hSw
      obtain ⟨q2, q3, q4, q5⟩ := hSw
      go_simp
    simp only [Act.put]
    refine wpAnyH_take (i := 3) (v := Value.pointer (some ⟨b6, o6 + p * 3, none⟩)) rfl (by kernel_rfl) (by kernel_rfl) (by kernel_rfl) (fun _ _ _ h => h) (Or.inl ⟨by rfl, ?_⟩) hS ?_
    · intro w' hSw
      obtain ⟨q2, q3, q4, q5⟩ := hSw
      go_simp
    simp only [Act.put]
    refine wpAnyH_take (i := 4) (v := Value.agg #[.int .i64 rs[k].2.cs[p].i, .float .f64 rs[k].2.cs[p].f, .float .f64 rs[k].2.cs[p].g]) rfl (by kernel_rfl) (by kernel_rfl) (by kernel_rfl) (fun _ _ _ h => h) (Or.inl ⟨by rfl, ?_⟩) hS ?_
    · intro w' hSw
      obtain ⟨q2, q3, q4, q5⟩ := hSw
      go_simp
    simp only [Act.put]
    have hWA : Below W.heap.size W (W.alloc (.cells #[.int .i64 rs[k].2.cs[p].i, .float .f64 rs[k].2.cs[p].f, .float .f64 rs[k].2.cs[p].g] 59)) := below_a1 _ _
    have hb6W : b6 < W.heap.size := by have := hB.size; omega
    have u1 := (hWA.cell (p := ⟨w.heap.size + 3, 0, none⟩) (by show w.heap.size + 3 < W.heap.size; omega)).trans g1
    have hSA := And.intro ((hWA.cell (p := ⟨w.heap.size + 4, 0, none⟩) (by show w.heap.size + 4 < W.heap.size; omega)).trans g4) (And.intro ((hWA.cell (p := ⟨b6, o6 + p * 3, none⟩) hb6W).trans k0) (And.intro ((hWA.cell (p := ⟨b6, o6 + p * 3 + 1, none⟩) hb6W).trans k1) ((hWA.cell (p := ⟨b6, o6 + p * 3 + 2, none⟩) hb6W).trans k2)))
    refine wpAnyH_ready (rs := [0, 5]) (by kernel_rfl) (by simp) ?_
    refine AllReadyH.cons rfl (fun K hK => ?_) (AllReadyH.cons rfl (fun K hK => ?_) AllReadyH.nil)
    · go_simp
      refine hK.out _ _ ⟨g4, k0, k1, k2⟩ (fun _ => ?_)
      clear hK K
      refine wpAnyH_ready (rs := [5]) (by kernel_rfl) (by simp) ?_
      refine AllReadyH.cons rfl (fun K hK => ?_) AllReadyH.nil
      go_simp
      refine hK.out _ _ hSA (fun _ => ?_)
      clear hK K
      refine wpAnyH_ready (rs := [6]) (by kernel_rfl) (by simp) ?_
      refine AllReadyH.cons rfl (fun K hK => ?_) AllReadyH.nil
      refine step_append_at _ (by rfl) (.tmp 20) (.tmp 25) 32 (by rfl) (w.heap.size + 2) 59 i0 _ 3 24 Tryd.underlying32 hi hz0 hz1 hz2 rfl (by omega) _ _ _ (by rfl) (own_drewN (own_alloc g3 _) 1) _ _ _ _ [.int .i64 rs[k].2.cs[p].i, .float .f64 rs[k].2.cs[p].f, .float .f64 rs[k].2.cs[p].g] (by rfl) (by rfl) (atB_new W _ _) (by simp [Value.oneCell']) (by simp only [maxLen]; omega) (by omega) (by simp; omega) ?_
      intro A7 c7 w7 hc7 hown7 hg7
      have key := cell_alloc_grown (wr := W) (n := 1) hg7
      have n3 : (Value.slice A' pre.length c').ownBlock ≠ some (w.heap.size + 3) := (bx5.not_row (by decide) g3).symm
      have n4 : (Value.slice A' pre.length c').ownBlock ≠ some (w.heap.size + 4) := (bx6.not_row (by decide) g3).symm
      have n6 : (Value.slice A' pre.length c').ownBlock ≠ some b6 := fun e => by have := g3.lt _ e; omega
      have hKO : Below W.heap.size W ((W.alloc (.cells #[.int .i64 rs[k].2.cs[p].i, .float .f64 rs[k].2.cs[p].f, .float .f64 rs[k].2.cs[p].g] 59)).drew) := below_drewN hWA 1
      have r0 := (key (w.heap.size + 3) 0 (by omega) n3).trans g1
      have r1 := (key (w.heap.size + 4) 0 (by omega) n4).trans g4
      have r2 := (key b6 (o6 + p * 3) hb6W n6).trans k0
      have r3 := (key b6 (o6 + p * 3 + 1) hb6W n6).trans k1
      have r4 := (key b6 (o6 + p * 3 + 2) hb6W n6).trans k2
      have hblk : ∀ k, k < W.heap.size → (Value.slice A' pre.length c').ownBlock ≠ some k → w7.heap[k]? = W.heap[k]? := fun k hk hne => (hg7.block k (by have := hKO.size; omega) (fun e => hne e.symm)).trans (hKO.block k hk)
      have bx5' : Boxed w7 (w.heap.size + 3) 32 (.slice A' pre.length c') := (hblk _ (by omega) n3).trans bx5
      have bx6' : Boxed w7 (w.heap.size + 4) 32 (.slice (some ⟨b6, o6, none⟩) rs[k].2.cs.length c6) := (hblk _ (by omega) n4).trans bx6
      have fz := bx5'.frozen
      refine hK.out _ _ ⟨r1, r2, r3, r4⟩ (fun hS3 => ?_)
      clear hK K
      refine wpAnyH_ready (rs := [7]) (by kernel_rfl) (by simp) ?_
      refine AllReadyH.cons rfl (fun K hK => ?_) AllReadyH.nil
      go_simp
      have far : w.heap.size + 3 ≠ w.heap.size + 4 := by omega
      have far6 : w.heap.size + 3 ≠ b6 := by omega
      refine hK.out _ _ ⟨(World.cell?_setCell_far _ _ _ _ far).trans r1, (World.cell?_setCell_far _ _ _ _ far6).trans r2, (World.cell?_setCell_far _ _ _ _ far6).trans r3, (World.cell?_setCell_far _ _ _ _ far6).trans r4⟩ (fun _ => ?_)
      refine wpAnyH_done (by kernel_rfl) ?_ _
      rw [HSTEP.out] at hown7
      have hpl1 : (pre ++ [(p : Int)]).length = pre.length + 1 := by simp
      have hb7 := below_grow (below_drewN (hB.alloc (by have := hB.size; omega) (.cells #[.int .i64 rs[k].2.cs[p].i, .float .f64 rs[k].2.cs[p].f, .float .f64 rs[k].2.cs[p].g] 59)) 1) (own_drewN (own_alloc g3 _) 1) hg7 (by have := hB.size; show w.heap.size ≤ (W.alloc _).heap.size; simp; omega) (by omega)
      have n7 : (Value.slice A7 (pre.length + 1) c7).ownBlock ≠ some (w.heap.size + 3) := (bx5'.not_row (by decide) hown7).symm
      have hz7 : W.heap.size ≤ w7.heap.size := Nat.le_trans hKO.size hg7.size
      have hob : ∀ j, (Value.slice A' pre.length c').ownBlock = some j → ∃ o : Obj, (W.alloc (.cells #[.int .i64 rs[k].2.cs[p].i, .float .f64 rs[k].2.cs[p].f, .float .f64 rs[k].2.cs[p].g] 59)).drew.heap[j]? = some o ∧ o.isCells = true ∧ isTy 130 o = false := fun j e => own_kind (own_drewN (own_alloc g3 _) 1) (by decide) j e
      refine And.intro (((((KeepsOthers.alloc W _).trans (KeepsOthers.drew _)).trans (KeepsOthers.of_grownBy hg7 (fun j o e ho => by obtain ⟨o', h1, h2, _⟩ := hob j e; rw [ho] at h1; cases h1; exact h2))).trans (KeepsOthers.setCell _ _ _))) (And.intro ((((KeepsTy.of_grown (World.grownBy_alloc W _ none) (fun r e => by cases e)).trans (keepsTy_drew _ _)).trans (KeepsTy.of_grown hg7 (fun r e => by obtain ⟨o', h1, _, h3⟩ := hob r e; exact ⟨o', h1, h3⟩))).trans (KeepsTy.of_grown (grownBy_set w7 (w.heap.size + 3) 0 _) (fun r e => by cases e; exact ⟨_, bx5', rfl⟩)))
        ⟨A7, c7, ?_, ?_, ?_, hb7.setCell (by simp; omega) _, ?_⟩)
      · rw [hpl1]; exact bx5'.set _
      · exact bx6'.other (by omega) _
      · rw [hpl1]; exact own_other hown7 n7 _
      · simp [World.setCell]; omega
    · go_simp
      refine hK.out _ _ hSA (fun _ => ?_)
      clear hK K
      refine wpAnyH_ready (rs := [0]) (by kernel_rfl) (by simp) ?_
      refine AllReadyH.cons rfl (fun K hK => ?_) AllReadyH.nil
      go_simp
      refine hK.out _ _ hSA (fun _ => ?_)
      clear hK K
      refine wpAnyH_ready (rs := [6]) (by kernel_rfl) (by simp) ?_
      refine AllReadyH.cons rfl (fun K hK => ?_) AllReadyH.nil
      refine step_append_at _ (by rfl) (.tmp 20) (.tmp 25) 32 (by rfl) (w.heap.size + 2) 59 i0 _ 3 24 Tryd.underlying32 hi hz0 hz1 hz2 rfl (by omega) _ _ _ (by rfl) (own_drewN (own_alloc g3 _) 1) _ _ _ _ [.int .i64 rs[k].2.cs[p].i, .float .f64 rs[k].2.cs[p].f, .float .f64 rs[k].2.cs[p].g] (by rfl) (by rfl) (atB_new W _ _) (by simp [Value.oneCell']) (by simp only [maxLen]; omega) (by omega) (by simp; omega) ?_
      intro A7 c7 w7 hc7 hown7 hg7
      have key := cell_alloc_grown (wr := W) (n := 1) hg7
      have n3 : (Value.slice A' pre.length c').ownBlock ≠ some (w.heap.size + 3) := (bx5.not_row (by decide) g3).symm
      have n4 : (Value.slice A' pre.length c').ownBlock ≠ some (w.heap.size + 4) := (bx6.not_row (by decide) g3).symm
      have n6 : (Value.slice A' pre.length c').ownBlock ≠ some b6 := fun e => by have := g3.lt _ e; omega
      have hKO : Below W.heap.size W ((W.alloc (.cells #[.int .i64 rs[k].2.cs[p].i, .float .f64 rs[k].2.cs[p].f, .float .f64 rs[k].2.cs[p].g] 59)).drew) := below_drewN hWA 1
      have r0 := (key (w.heap.size + 3) 0 (by omega) n3).trans g1
      have r1 := (key (w.heap.size + 4) 0 (by omega) n4).trans g4
      have r2 := (key b6 (o6 + p * 3) hb6W n6).trans k0
      have r3 := (key b6 (o6 + p * 3 + 1) hb6W n6).trans k1
      have r4 := (key b6 (o6 + p * 3 + 2) hb6W n6).trans k2
      have hblk : ∀ k, k < W.heap.size → (Value.slice A' pre.length c').ownBlock ≠ some k → w7.heap[k]? = W.heap[k]? := fun k hk hne => (hg7.block k (by have := hKO.size; omega) (fun e => hne e.symm)).trans (hKO.block k hk)
      have bx5' : Boxed w7 (w.heap.size + 3) 32 (.slice A' pre.length c') := (hblk _ (by omega) n3).trans bx5
      have bx6' : Boxed w7 (w.heap.size + 4) 32 (.slice (some ⟨b6, o6, none⟩) rs[k].2.cs.length c6) := (hblk _ (by omega) n4).trans bx6
      have fz := bx5'.frozen
      refine hK.out _ _ ⟨r1, r2, r3, r4⟩ (fun hS3 => ?_)
      clear hK K
      refine wpAnyH_ready (rs := [7]) (by kernel_rfl) (by simp) ?_
      refine AllReadyH.cons rfl (fun K hK => ?_) AllReadyH.nil
      go_simp
      have far : w.heap.size + 3 ≠ w.heap.size + 4 := by omega
      have far6 : w.heap.size + 3 ≠ b6 := by omega
      refine hK.out _ _ ⟨(World.cell?_setCell_far _ _ _ _ far).trans r1, (World.cell?_setCell_far _ _ _ _ far6).trans r2, (World.cell?_setCell_far _ _ _ _ far6).trans r3, (World.cell?_setCell_far _ _ _ _ far6).trans r4⟩ (fun _ => ?_)
      refine wpAnyH_done (by kernel_rfl) ?_ _
      rw [HSTEP.out] at hown7
      have hpl1 : (pre ++ [(p : Int)]).length = pre.length + 1 := by simp
      have hb7 := below_grow (below_drewN (hB.alloc (by have := hB.size; omega) (.cells #[.int .i64 rs[k].2.cs[p].i, .float .f64 rs[k].2.cs[p].f, .float .f64 rs[k].2.cs[p].g] 59)) 1) (own_drewN (own_alloc g3 _) 1) hg7 (by have := hB.size; show w.heap.size ≤ (W.alloc _).heap.size; simp; omega) (by omega)
      have n7 : (Value.slice A7 (pre.length + 1) c7).ownBlock ≠ some (w.heap.size + 3) := (bx5'.not_row (by decide) hown7).symm
      have hz7 : W.heap.size ≤ w7.heap.size := Nat.le_trans hKO.size hg7.size
      have hob : ∀ j, (Value.slice A' pre.length c').ownBlock = some j → ∃ o : Obj, (W.alloc (.cells #[.int .i64 rs[k].2.cs[p].i, .float .f64 rs[k].2.cs[p].f, .float .f64 rs[k].2.cs[p].g] 59)).drew.heap[j]? = some o ∧ o.isCells = true ∧ isTy 130 o = false := fun j e => own_kind (own_drewN (own_alloc g3 _) 1) (by decide) j e
      refine And.intro (((((KeepsOthers.alloc W _).trans (KeepsOthers.drew _)).trans (KeepsOthers.of_grownBy hg7 (fun j o e ho => by obtain ⟨o', h1, h2, _⟩ := hob j e; rw [ho] at h1; cases h1; exact h2))).trans (KeepsOthers.setCell _ _ _))) (And.intro ((((KeepsTy.of_grown (World.grownBy_alloc W _ none) (fun r e => by cases e)).trans (keepsTy_drew _ _)).trans (KeepsTy.of_grown hg7 (fun r e => by obtain ⟨o', h1, _, h3⟩ := hob r e; exact ⟨o', h1, h3⟩))).trans (KeepsTy.of_grown (grownBy_set w7 (w.heap.size + 3) 0 _) (fun r e => by cases e; exact ⟨_, bx5', rfl⟩)))
        ⟨A7, c7, ?_, ?_, ?_, hb7.setCell (by simp; omega) _, ?_⟩)
      · rw [hpl1]; exact bx5'.set _
      · exact bx6'.other (by omega) _
      · rw [hpl1]; exact own_other hown7 n7 _
      · simp [World.setCell]; omega
  case done =>
    rintro D W hD ⟨A', c', bx5, _, g3, hB, hsB⟩ hK
    have g1 := bx5.cell
    gi_wp2
    refine ⟨by simp, .inl ⟨_, _, rfl, run_takeDeferred hK, ?_⟩⟩
    have hrl : (readC rs[k].2.cs ps).length = ps.length := by simp [readC]
    exact ⟨_, results_tmp rfl _ _ _, _, rfl, rowQ (own_mono (ownsRow_putObj g3 _ hK rfl) (by omega)) (hB.trans (belowK_b (w := w) (Nat.le_refl _) W D _ _ (by omega) hK rfl rfl))⟩
  case stop =>
    rintro D pre W _ _ h _
    exact h.elim
end Go.Proofs.YtnmnkiihbopebaaDoor
