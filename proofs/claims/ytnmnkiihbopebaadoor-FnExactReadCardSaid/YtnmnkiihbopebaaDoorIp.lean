/- The implementation's places: the iterator's contract. -/
import Derived.Test.YtnmnkiihbopebaaDoorIc
import Derived.Test.YtnmnkiihbopebaaDoorRf
import Derived.Shelf.Abstract
import Derived.Shelf.RegionOpen
import Derived.OwnWalkIn
import Derived.TacticsInMore
import Derived.LoopNIn
import Derived.LoopIn
import Derived.Sort.LoopGhostIn
namespace Go.Proofs.YtnmnkiihbopebaaDoor
open Go.RowKit Go.Nd Go.Shelf
attribute [local go_sem] run_store_float Oper.semAt_some

theorem grownBy_of_below {W W' : World} (h : Below W.heap.size W W') : W.grownBy W' none := ⟨h.os, h.tape, h.output, h.size, fun k hk _ => h.block k hk⟩
theorem grownBy_set (W : World) (b i : Nat) (v : Value) : W.grownBy (W.setCell ⟨b, i, none⟩ v) (some b) :=
  ⟨rfl, rfl, rfl, by simp [World.setCell], fun k _ hk => Below.heap_setCell _ _ _ _ (fun e => hk (by rw [e]))⟩
theorem abT_below {B : Nat} {T : TypeId} {J : List Int → World → Prop} (h : AbT B T J) {s : List Int} {W W' : World} (hs : J s W) (hb : Below W.heap.size W W') : J s W' :=
  h s W W' none hs (grownBy_of_below hb) (fun r e => by cases e)
theorem own_obj {W : World} {base g n c : Nat} {e : TypeId} {sz : Nat} {cs : List Value} (h : W.ownsRow base e sz (.slice (some ⟨g, 0, none⟩) n c) n cs) : ∃ o : Obj, W.heap[g]? = some o ∧ isTy e o = true := by
  rcases h.2 with ⟨h, _⟩ | ⟨g', cap, cur, hv, hbg, hg, _⟩
  · simp at h
  · simp only [Value.slice.injEq, Option.some.injEq, Addr.mk.injEq, and_true, true_and] at hv
    obtain ⟨rfl, _⟩ := hv
    exact ⟨_, hg, by simp [isTy]⟩
theorem abT_set {B : Nat} {T : TypeId} {J : List Int → World → Prop} (h : AbT B T J) {s : List Int} {W : World} {base g n c sz : Nat} {cs : List Value} (ho : W.ownsRow base T sz (.slice (some ⟨g, 0, none⟩) n c) n cs) (hB : B ≤ g) (hs : J s W) (i : Nat) (v : Value) : J s (W.setCell ⟨g, i, none⟩ v) :=
  h s W _ (some g) hs (grownBy_set W g i v) (fun r e => by cases e; exact ⟨hB, own_obj ho⟩)
theorem own_keepsTy {W W' : World} {base n : Nat} {e : TypeId} {sz : Nat} {v : Value} {cs : List Value} (h : W.ownsRow base e sz v n cs) (hk : KeepsTy e W W') : W'.ownsRow base e sz v n cs := by
  refine own_frame h fun g hg => ?_
  rcases h.2 with ⟨rfl, _⟩ | ⟨g', cap, cur, rfl, hbg, hgg, _⟩
  · simp [Value.ownBlock] at hg
  · simp only [Value.ownBlock, Option.some.injEq] at hg
    subst hg
    rw [hgg]
    exact hk _ _ hgg (by simp [isTy])
/-- The iterator's arrays: shape, strides, digits. -/
structure PlW (B : Nat) (T : TypeId) (wr : World) (b3 b4 b6 : Nat) (m : List (Int × Int)) (ds : List Int) : Prop where
  a3 : wr.ownsRow B T 1 (.slice (some ⟨b3, 0, none⟩) 4 4) 4 (ivs (arr4 (m.map (·.1))))
  a4 : wr.ownsRow B T 1 (.slice (some ⟨b4, 0, none⟩) 4 4) 4 (ivs (arr4 (m.map (·.2))))
  a6 : wr.ownsRow B T 1 (.slice (some ⟨b6, 0, none⟩) 4 4) 4 (ivs (arr4 ds))
theorem PlW.keeps {B : Nat} {T : TypeId} {wr w' : World} {b3 b4 b6 : Nat} {m : List (Int × Int)} {ds : List Int} (h : PlW B T wr b3 b4 b6 m ds) (hk : KeepsTy T wr w') : PlW B T w' b3 b4 b6 m ds :=
  ⟨own_keepsTy h.a3 hk, own_keepsTy h.a4 hk, own_keepsTy h.a6 hk⟩
theorem PlW.drewN {B : Nat} {T : TypeId} {wr : World} {b3 b4 b6 : Nat} {m : List (Int × Int)} {ds : List Int} (h : PlW B T wr b3 b4 b6 m ds) (n : Nat) : PlW B T (wr.drewN n) b3 b4 b6 m ds := ⟨h.a3, h.a4, h.a6⟩
theorem PlW.set {B : Nat} {T : TypeId} {wr : World} {b3 b4 b6 : Nat} {m : List (Int × Int)} {ds ds' : List Int} (h : PlW B T wr b3 b4 b6 m ds) (h1 : b3 ≠ b6) (h2 : b4 ≠ b6) (i : Nat) (x : Int) (he : (arr4 ds).set i x = arr4 ds') : PlW B T (wr.setCell ⟨b6, i, none⟩ (.int .i64 x)) b3 b4 b6 m ds' :=
  ⟨own_other h.a3 (by simpa [Value.ownBlock] using h1) _, own_other h.a4 (by simpa [Value.ownBlock] using h2) _, by rw [← he]; exact own_set_int h.a6 i x⟩
theorem PlW.cells {B : Nat} {T : TypeId} {wr : World} {b3 b4 b6 : Nat} {m : List (Int × Int)} {ds : List Int} (h : PlW B T wr b3 b4 b6 m ds) (i : Nat) (hi : i < m.length) (hd : i < ds.length) :
    wr.cell? ⟨b3, i, none⟩ = some (.int .i64 m[i].1) ∧ wr.cell? ⟨b4, i, none⟩ = some (.int .i64 m[i].2) ∧ wr.cell? ⟨b6, i, none⟩ = some (.int .i64 ds[i]) := by
  refine ⟨own_cell h.a3 (ivs4 _ i _ ?_), own_cell h.a4 (ivs4 _ i _ ?_), own_cell h.a6 (ivs4 _ i _ ?_)⟩
  · unfold arr4; rw [List.getElem?_append_left (by simpa using hi)]; simp [hi]
  · unfold arr4; rw [List.getElem?_append_left (by simpa using hi)]; simp [hi]
  · unfold arr4; rw [List.getElem?_append_left hd]; simp [hd]
def DgOk (m : List (Int × Int)) (ds : List Int) : Prop := ds.length = m.length ∧ ∀ (i : Nat) (h : i < m.length) (h2 : i < ds.length), 0 ≤ ds[i] ∧ ds[i] < m[i].1
theorem plK_bd {m : List (Int × Int)} {ds : List Int} (hm : AxOk m) (hd : DgOk m ds) (a : Int) (k : Nat) (hk : k ≤ m.length) : a - 16777216 * k ≤ plK m ds a k ∧ plK m ds a k ≤ a + 16777216 * k := by
  induction k with
  | zero => simp [plK_zero]
  | succ k ih =>
    have hl := hd.1
    have := ih (by omega)
    rw [plK_succ m ds a k (by omega) (by omega)]
    have hdk := hd.2 k (by omega) (by omega)
    have hmk := hm.2 _ (List.getElem_mem (show k < m.length by omega))
    have hb := mul_bd' ds[k] m[k].2 hdk.1 (by omega) hmk.2.2.1 hmk.2.2.2
    rw [Int.mul_comm] at hb
    omega
theorem dg_next {m : List (Int × Int)} {ds : List Int} (hm : ∀ q ∈ m, 1 ≤ q.1) (hd : DgOk m ds) (j : Nat) (h : j < m.length) (h2 : j < ds.length) (hx : ds[j] + 1 < m[j].1) : DgOk m (ds.take j ++ (ds[j] + 1) :: List.replicate (m.length - j - 1) 0) := by
  have hl := hd.1
  refine ⟨by simp; omega, fun i hi hi2 => ?_⟩
  have hmi := hm _ (List.getElem_mem hi)
  have hdj := hd.2 j h h2
  rcases Nat.lt_trichotomy i j with h' | h' | h'
  · rw [List.getElem_append_left (by simp; omega), List.getElem_take]; exact hd.2 i hi (by omega)
  · subst h'
    rw [List.getElem_append_right (by simp; omega)]
    simp only [List.length_take, Nat.min_eq_left (show i ≤ ds.length by omega), Nat.sub_self, List.getElem_cons_zero]
    omega
  · rw [List.getElem_append_right (by simp; omega)]
    simp only [List.length_take, Nat.min_eq_left (show j ≤ ds.length by omega)]
    rw [List.getElem_cons, dif_neg (by omega), List.getElem_replicate]
    omega
theorem dg_zero {m : List (Int × Int)} (hm : ∀ q ∈ m, 1 ≤ q.1) : DgOk m (List.replicate m.length 0) :=
  ⟨by simp, fun i hi _ => by rw [List.getElem_replicate]; have := hm _ (List.getElem_mem hi); omega⟩
theorem arr4_setin (xs : List Int) (i : Nat) (x : Int) (h : i < xs.length) : (arr4 xs).set i x = arr4 (xs.set i x) := by
  unfold arr4
  rw [List.set_append_left _ _ h, List.length_set]
theorem digit_set (ds : List Int) (j n : Nat) (h : j < ds.length) (x : Int) : (ds.take (j + 1) ++ List.replicate (n - (j + 1)) 0).set j x = ds.take j ++ x :: List.replicate (n - j - 1) 0 := by
  rw [List.take_succ_eq_append_getElem h, List.append_assoc, List.set_append_right _ _ (by simp; omega)]
  rw [List.length_take, Nat.min_eq_left (by omega), Nat.sub_self, show n - (j + 1) = n - j - 1 by omega]
  rfl
theorem digit_zero (ds : List Int) (j n : Nat) (h : j < ds.length) (hn : j < n) (x : Int) : (ds.take j ++ x :: List.replicate (n - j - 1) 0).set j 0 = ds.take j ++ List.replicate (n - j) 0 := by
  rw [List.set_append_right _ _ (by simp; omega), List.length_take, Nat.min_eq_left (by omega), Nat.sub_self, show n - j = (n - j - 1) + 1 by omega, List.replicate_succ]
  rfl
theorem iplaces_c (A1 A2 : Option Addr) (n1 n2 c1 c2 : Nat) (off : Int) (w : World) : Calls Tryd.prog 54 #[.agg #[.slice A1 n1 c1, .slice A2 n2 c2, .int .i64 off]] w fun e w' =>
    e = .returned (.func (.func 90) #[] #[.pointer (some ⟨w.heap.size, 0, none⟩)]) ∧ w' = w.alloc (.cells #[.slice A1 n1 c1, .slice A2 n2 c2, .int .i64 off] 38) := by
  go_enter Tryd.func54, Tryd.ntmps54
  go_wp2
  go_ret
  exact ⟨rfl, rfl⟩
set_option maxRecDepth 100000 in
set_option maxHeartbeats 2000000 in
theorem iplaces1_c (n : Nat) (hn : 1 ≤ n) (bv : Nat) (A1 A2 : Option Addr) (c1 c2 : Nat) (V : Vw) (w : World) (hg : goodSh V.sh = true) (hok : prodI V.sh ≠ 0 → PlOk V.sh V.st) (h0 : 0 ≤ V.off) (h1 : V.off ≤ 4096) (hbv : bv < w.heap.size)
    (hv0 : w.cell? ⟨bv, 0, none⟩ = some (.slice A1 V.sh.length c1)) (hv1 : w.cell? ⟨bv, 1, none⟩ = some (.slice A2 V.st.length c2)) (hv2 : w.cell? ⟨bv, 2, none⟩ = some (.int .i64 V.off))
    (hA1 : AtB w.heap.size w A1 (ivs V.sh)) (hA2 : AtB w.heap.size w A2 (ivs V.st)) :
    SeqT Fence.wide n Tryd.prog 90 #[.pointer (some ⟨bv, 0, none⟩)] 130 (offsF V) w := by
  intro l J Jx W hW hJ hJx hY hJ0
  obtain ⟨sh, st, off⟩ := V
  dsimp only at hg hok h0 h1 hv0 hv1 hv2 hA1 hA2 ⊢
  obtain ⟨hg1, hg2, hg3⟩ := (goodSh_iff sh).1 hg
  have g0 := (hW.cell (p := ⟨bv, 0, none⟩) hbv).trans hv0
  have g1 := (hW.cell (p := ⟨bv, 1, none⟩) hbv).trans hv1
  have g2 := (hW.cell (p := ⟨bv, 2, none⟩) hbv).trans hv2
  have H1 := hide ((hA1.below hW).now)
  have H2 := hide ((hA2.below hW).now)
  have HOK := hide hok
  have HG1 := hide hg1
  have HG2 := hide hg2
  have HBV := hide (Nat.lt_of_lt_of_le hbv hW.size)
  have hpr : prodI sh ≤ 4096 := hg3
  clear hv0 hv1 hv2 hA1 hA2 hok hg1 hg2 hg3
  by_cases hz : prodI sh = 0
  · have e0 : (prodI sh == 0) = true := by simpa using hz
    have HO := hide (show offsF ⟨sh, st, off⟩ = [] by unfold offsF; rw [if_pos (by rw [cntF_good hg]; exact hz)])
    clear hz
    refine callsIn_of_wp Tryd.func90 rfl trivial ?_ rfl
    simp only [Tryd.ntmps90, List.size_toArray, List.length_cons, List.length_nil, Nat.reduceAdd, Nat.reduceSub, Array.replicate_succ, Array.replicate_zero, List.push_toArray, List.append_toArray, List.nil_append, List.cons_append]
    gi_wp2_with (refine ⟨trivial, ?_⟩; gi_at_call 53; refine (callsIn_wide.2 (icount_c _ _ sh _ HG1.out HG2.out H1.out)).mono ?_; rintro e w' ⟨rfl, rfl⟩)
    refine bodyPost_ret (results_none rfl _ _ _) rfl ?_
    exact ⟨⟨_, rfl⟩, .inl (by rw [HO.out]; exact hJ0)⟩
  · have e0 : (prodI sh == 0) = false := by simpa using hz
    have hpl := HOK.out hz
    have HPL := hide hpl
    have hax : AxOk (mergeF (pairs sh st)) := by
      have := pairs_ok hpl (pairs sh st).length
      rwa [List.take_length] at this
    have hmf := mergeF_facts (pairs sh st) (fun q hq => (hpl.2.2.1 _ (List.of_mem_zip hq).1).1)
    have HO := hide (show offsF ⟨sh, st, off⟩ = plc (mergeF (pairs sh st)) off by
      unfold offsF
      rw [if_neg (by rw [cntF_good hg]; exact hz), hmf.2.2.2 off]
      unfold plc
      rw [pairs_fst sh st hpl.1, pairs_snd sh st hpl.1])
    have HPOS := hide hmf.1
    generalize hm : mergeF (pairs sh st) = m at HO HPOS hax
    have HMM := hide hm
    clear hz hm hpl hmf
    obtain ⟨x0, x1, x2, x3, hx, hxa⟩ := four (m.map (·.1)) (by rw [List.length_map]; exact hax.1)
    obtain ⟨y0, y1, y2, y3, hy, hya⟩ := four (m.map (·.2)) (by rw [List.length_map]; exact hax.1)
    have HXA := hide hxa
    have HYA := hide hya
    have HX := hide hx
    have HY := hide hy
    have HAX := hide hax
    have hml : (m.length : Int) ≤ 4 := by have := hax.1; omega
    clear hxa hya hx hy hax
    refine callsIn_of_wp Tryd.func90 rfl trivial ?_ rfl
    simp only [Tryd.ntmps90, List.size_toArray, List.length_cons, List.length_nil, Nat.reduceAdd, Nat.reduceSub, Array.replicate_succ, Array.replicate_zero, List.push_toArray, List.append_toArray, List.nil_append, List.cons_append]
    gi_wp2_with (refine ⟨trivial, ?_⟩; first | (gi_at_call 53; refine (callsIn_wide.2 (icount_c _ _ sh _ HG1.out HG2.out H1.out)).mono ?_; rintro e w' ⟨rfl, rfl⟩) | (gi_at_call 91; refine (callsIn_wide.2 (imerged_c _ _ _ _ ⟨sh, st, off⟩ _ HPL.out H1.out H2.out)).mono ?_; rw [HMM.out]; rintro e w2 ⟨_, rfl, hv2, hb2⟩; rw [HXA.out, HYA.out] at hv2; subst hv2; have q0 := (hb2.cell (p := ⟨bv, 0, none⟩) HBV.out).trans g0; have q2 := (hb2.cell (p := ⟨bv, 2, none⟩) HBV.out).trans g2; have hbv2 : bv < w2.heap.size := Nat.lt_of_lt_of_le HBV.out hb2.size; have q3 := ((below_a3 w2 (.cells #[.int .i64 x0, .int .i64 x1, .int .i64 x2, .int .i64 x3] 130) (.cells #[.int .i64 y0, .int .i64 y1, .int .i64 y2, .int .i64 y3] 130) (.cells #[.int .i64 0, .int .i64 0, .int .i64 0, .int .i64 0] 130)).cell (p := ⟨bv, 2, none⟩) hbv2).trans q2))
    have hb3 := below_a3 w2 (.cells #[.int .i64 x0, .int .i64 x1, .int .i64 x2, .int .i64 x3] 130) (.cells #[.int .i64 y0, .int .i64 y1, .int .i64 y2, .int .i64 y3] 130) (.cells #[.int .i64 0, .int .i64 0, .int .i64 0, .int .i64 0] 130)
    have hB := hb2.size
    have PL0 : PlW W.heap.size 130 (((w2.alloc (.cells #[.int .i64 x0, .int .i64 x1, .int .i64 x2, .int .i64 x3] 130)).alloc (.cells #[.int .i64 y0, .int .i64 y1, .int .i64 y2, .int .i64 y3] 130)).alloc (.cells #[.int .i64 0, .int .i64 0, .int .i64 0, .int .i64 0] 130)) w2.heap.size (w2.heap.size + 1) (w2.heap.size + 2) m (List.replicate m.length 0) := by
      refine ⟨own_mono (own_alloc (own_alloc (by rw [HX.out]; exact own_new w2 w2.heap.size _ 1 4 _ rfl rfl (by simp [maxLen])) _) _) hB, own_mono (own_alloc (by rw [HY.out]; exact own_new _ (w2.heap.size + 1) _ 1 4 _ (by simp) rfl (by simp [maxLen])) _) (by omega), ?_⟩
      have e : arr4 (List.replicate m.length 0) = [0, 0, 0, 0] := by
        unfold arr4
        rw [List.length_replicate, List.replicate_append_replicate, show m.length + (4 - m.length) = 4 by omega]
        rfl
      rw [e]
      exact own_mono (own_new _ (w2.heap.size + 2) _ 1 4 _ (by simp) rfl (by simp [maxLen])) (by omega)
    have J0 := abT_below hJ (abT_below hJ hJ0 hb2) hb3
    gi_loopg [7] (offsF ⟨sh, st, off⟩).length (fun gk p wr => ∃ (pre ds : List Int), p = .int .i64 (placeF m ds off) ∧ offsF ⟨sh, st, off⟩ = pre ++ restF m ds off ∧ gk = (restF m ds off).length ∧ Hid (DgOk m ds) ∧ PlW W.heap.size 130 wr w2.heap.size (w2.heap.size + 1) (w2.heap.size + 2) m ds ∧ J pre wr)
    case atStart =>
      refine ⟨[], List.replicate m.length 0, by rw [placeF_zeros], ?_, ?_, hide (dg_zero HPOS.out), PL0, J0⟩
      · rw [restF_zero _ _ HPOS.out, HO.out]; rfl
      · rw [restF_zero _ _ HPOS.out, HO.out]
    case round =>
      obtain ⟨pre, ds, rfl, hpre, hgk, HDG, HPL2, hJw⟩ := hrel
      have hrn := restF_tail m ds off HPOS.out
      obtain ⟨fn, tmps, assign, body, hy, hR⟩ := hY pre (placeF m ds off) wr hJw ⟨tailF m ds off, by rw [hpre, hrn]; simp⟩
      have HRN := hide hrn
      have HPRE := hide hpre
      have HGK := hide hgk
      clear hrn hpre hgk
      have e1 : IntKind.i64.wrap ((m.length : Int) - 1) = (m.length : Int) - 1 := IntWalk.i64_in _ (by omega)
      gi_wp2
      refine hR.mono ?_
      rintro e W3 (⟨rfl, hJ3, hk3⟩ | ⟨rfl, hJx3⟩)
      · have HPL3 := HPL2.keeps hk3
        clear HPL2 hk3 hR hy hJw
        gi_wp2
        gi_loopw [7, 8] (fun p i wr => ∃ k : Nat, k ≤ m.length ∧ i = .int .i64 ((k : Int) - 1) ∧ p = .int .i64 (plK m ds off k) ∧ Hid (nextF (m.drop k) (ds.drop k) = none) ∧
            PlW W.heap.size 130 wr w2.heap.size (w2.heap.size + 1) (w2.heap.size + 2) m (ds.take k ++ List.replicate (m.length - k) 0) ∧ J (pre ++ [placeF m ds off]) wr) (fun _ i _ => (intOf i + 1).toNat)
        case atStart =>
          refine ⟨m.length, Nat.le_refl _, rfl, ?_, hide ?_, ?_, hJ3⟩
          · rw [plK_all m ds off HDG.out.1]
          · rw [List.drop_length, List.drop_eq_nil_of_le (by rw [HDG.out.1]; exact Nat.le_refl _)]; rfl
          · rw [List.take_of_length_le (by rw [HDG.out.1]; exact Nat.le_refl _), Nat.sub_self]; simpa using HPL3
        case round =>
          obtain ⟨k, hk, rfl, rfl, HN, HPK, hJk⟩ := hrel
          rcases k with _ | j
          · gi_wp2
            refine bodyPost_ret (results_none rfl _ _ _) rfl ?_
            refine ⟨⟨_, rfl⟩, .inl ?_⟩
            rw [HPRE.out, HRN.out, tailF_none off (show nextF m ds = none from HN.out)]
            exact hJk
          · have hjm : j < m.length := by omega
            have hjd : j < ds.length := by have := HDG.out.1; omega
            have hkeep : (ds.take (j + 1) ++ List.replicate (m.length - (j + 1)) 0)[j]'(by simp; omega) = ds[j] := by rw [List.getElem_append_left (by simp; omega), List.getElem_take]
            obtain ⟨c3, c4, c6⟩ := HPK.cells j hjm (by simp; omega)
            rw [hkeep] at c6
            have f6 := own_frozen HPK.a6 j
            have e2 : (((j + 1 : Nat) : Int) - 1) = j := by omega
            rw [e2]
            have hdj := HDG.out.2 j hjm hjd
            have hmj := HAX.out.2 _ (List.getElem_mem hjm)
            have hbd := plK_bd HAX.out HDG.out off (j + 1) hjm
            have hbd2 := plK_bd HAX.out HDG.out off j (by omega)
            have hj4 : j < 4 := by omega
            have hps := plK_succ m ds off j hjm hjd
            have e3 : IntKind.i64.wrap (ds[j] + 1) = ds[j] + 1 := IntWalk.i64_in _ (by omega)
            have e4 : IntKind.i64.wrap (plK m ds off (j + 1) + m[j].2) = plK m ds off (j + 1) + m[j].2 := IntWalk.i64_in _ (by omega)
            have l0 : (0 : Int) ≤ j := by omega
            have l1 : (j : Int) < 4 := by omega
            have HPS : PlW W.heap.size 130 (wr.setCell ⟨w2.heap.size + 1 + 1, j, none⟩ (.int .i64 (ds[j] + 1))) w2.heap.size (w2.heap.size + 1) (w2.heap.size + 2) m (ds.take j ++ (ds[j] + 1) :: List.replicate (m.length - j - 1) 0) :=
              HPK.set (by omega) (by omega) j (ds[j] + 1) (by rw [arr4_setin _ _ _ (by simp; omega), digit_set ds j _ hjd])
            have hJs : J (pre ++ [placeF m ds off]) (wr.setCell ⟨w2.heap.size + 1 + 1, j, none⟩ (.int .i64 (ds[j] + 1))) := abT_set hJ HPK.a6 (by omega) hJk j _
            have hget : (ds.take j ++ (ds[j] + 1) :: List.replicate (m.length - j - 1) 0)[j]'(by simp; omega) = ds[j] + 1 := by
              rw [List.getElem_append_right (by simp; omega)]
              simp [Nat.min_eq_left (Nat.le_of_lt hjd)]
            by_cases hlt : ds[j] + 1 < m[j].1
            · gi_wp2
              generalize hWS : wr.setCell ⟨w2.heap.size + 1 + 1, j, none⟩ (.int .i64 (ds[j] + 1)) = WS at HPS hJs ⊢
              obtain ⟨k3, k4, k6⟩ := HPS.cells j hjm (by simp; omega)
              rw [hget] at k6
              refine wpIn_wide.2 ?_
              go_quiet (fail)
              gi_wp2
              have hnx := nextF_up m ds _ j (by omega) HDG.out.1 (nextF_lt m ds j hjm hjd HN.out hlt)
              have htl := tailF_some off hnx
              have hJd := abT_below hJ hJs (below_drewN (Below.refl _ _) nq)
              have hpn := place_next m ds off (ds[j] + 1) j hjm HDG.out.1 (m.length - j - 1)
              have hln := congrArg List.length HRN.out
              rw [htl, List.length_cons] at hln
              gi_roundg (restF m (ds.take j ++ (ds[j] + 1) :: List.replicate (m.length - j - 1) 0) off).length
              case measure => have := HGK.out; omega
              case rel =>
                refine ⟨pre ++ [placeF m ds off], _, int_eq ?_, ?_, rfl, hide (dg_next HPOS.out HDG.out j hjm hjd hlt), HPS.drewN nq, hJd⟩
                · rw [hpn, Int.add_mul, Int.one_mul]; omega
                · rw [HPRE.out, HRN.out, htl]; simp
            · have hge : m[j].1 ≤ ds[j] + 1 := by omega
              have heq : m[j].1 = ds[j] + 1 := by omega
              have hNj := nextF_ge m ds j hjm hjd HN.out hge
              have hmb := mul_bd' m[j].1 m[j].2 (by omega) hmj.2.1 hmj.2.2.1 hmj.2.2.2
              have e5 : IntKind.i64.wrap (m[j].2 * m[j].1) = m[j].2 * m[j].1 := IntWalk.i64_in _ (by omega)
              have e6 : plK m ds off j + ds[j] * m[j].2 + m[j].2 - m[j].2 * m[j].1 = plK m ds off j := by
                rw [heq, Int.mul_comm m[j].2, Int.add_mul, Int.one_mul]; omega
              gi_wp2
              generalize hWS : wr.setCell ⟨w2.heap.size + 1 + 1, j, none⟩ (.int .i64 (ds[j] + 1)) = WS at HPS hJs ⊢
              obtain ⟨k3, k4, k6⟩ := HPS.cells j hjm (by simp; omega)
              rw [hget] at k6
              have k7 := own_frozen HPS.a6 j
              refine wpIn_wide.2 ?_
              go_quiet (fail)
              gi_wp2
              refine wpIn_wide.2 ?_
              go_quiet (fail)
              gi_wp2
              go_roundw
              case rel =>
                refine ⟨j, by omega, rfl, int_eq ?_, hide hNj, ?_, ?_⟩
                · have a1 : wrap64 (m[j].2 * (ds[j] + 1)) = m[j].2 * (ds[j] + 1) := by rw [heq] at hmb; unfold wrap64; omega
                  rw [a1, ← heq, e6]
                  unfold wrap64
                  omega
                · exact (HPS.drewN _).set (by omega) (by omega) j 0 (by rw [arr4_setin _ _ _ (by simp; omega), digit_zero ds j _ hjd hjm])
                · exact abT_set hJ (HPS.drewN _).a6 (by omega) (abT_below hJ hJs (below_drewN (Below.refl _ _) _)) j _
              case measure => simp [intOf]
      · gi_wp2
        refine bodyPost_ret (results_none rfl _ _ _) rfl ?_
        exact ⟨⟨_, rfl⟩, .inr ⟨pre ++ [placeF m ds off], ⟨tailF m ds off, by rw [HPRE.out, HRN.out]; simp⟩, hJx3⟩⟩
end Go.Proofs.YtnmnkiihbopebaaDoor
