/- The law FnExactRead. -/
import Derived.Test.YtnmnkiihbopebaaDoorIs
import Derived.Test.YtnmnkiihbopebaaDoorLb
import Derived.Test.YtnmnkiihbopebaaDoorLc
import Derived.Test.YtnmnkiihbopebaaDoorLd
namespace Go.Proofs.YtnmnkiihbopebaaDoor
open Go.RowKit Go.Nd
attribute [local go_sem] run_store_float

theorem pickC_wf (cs : List Cl) (h : ∀ c ∈ cs, c.wf) (p : Int) : (pickC cs p).wf := by
  unfold pickC
  cases hg : cs[p.toNat]? with
  | none => exact ⟨by decide, by decide⟩
  | some c => exact h c (List.mem_of_getElem? hg)
theorem readF_wf (ss : List Sr) (a : Ar) (h : ∀ s ∈ ss, s.wf) : ∀ c ∈ readF ss a, c.wf := by
  unfold readF
  split
  · intro c hc
    obtain ⟨p, _, rfl⟩ := List.mem_map.1 hc
    refine pickC_wf _ ?_ p
    unfold srAt
    cases hg : ss[a.s.toNat]? with
    | none => simp
    | some s => exact h s (List.mem_of_getElem? hg)
  · simp
theorem readF_len (ss : List Sr) (a : Ar) : (readF ss a).length ≤ 4096 := by
  unfold readF
  split
  · rename_i h
    have hv : vvF a.v = true := by
      have := (Bool.and_eq_true_iff.1 h).2
      simp only [fitF, Bool.and_eq_true] at this
      exact this.1.2
    have := offs_len_le (vok_of hv)
    simpa [readC] using this
  · simp
theorem cntS_tot (rs : List (Value × Sr)) : cntS rs = rs.length + 3 * totC rs := by
  induction rs with
  | nil => simp [cntS, totC]
  | cons r rs ih => simp only [cntS, totC, List.length_cons, ih]; omega
/-- The two boxes of the arguments, read later. -/
structure Bx (W0 : World) (b : Nat) (v0 d0 d1 d2 d3 : Value) (wr : World) : Prop where
  bel : Below (b + 2) W0 wr
  g0 : wr.cell? ⟨b, 0, none⟩ = some v0
  g1 : wr.cell? ⟨b + 1, 0, none⟩ = some d0
  g2 : wr.cell? ⟨b + 1, 1, none⟩ = some d1
  g3 : wr.cell? ⟨b + 1, 2, none⟩ = some d2
  g4 : wr.cell? ⟨b + 1, 3, none⟩ = some d3
theorem Bx.next {W0 : World} {b : Nat} {v0 d0 d1 d2 d3 : Value} {wr w' : World} {B : Nat} (h : Bx W0 b v0 d0 d1 d2 d3 wr) (k : Below B wr w') (hB : b + 2 ≤ B) : Bx W0 b v0 d0 d1 d2 d3 w' :=
  ⟨h.bel.trans (k.mono hB), (k.cell (p := ⟨b, 0, none⟩) (by show b < B; omega)).trans h.g0, (k.cell (p := ⟨b + 1, 0, none⟩) (by show b + 1 < B; omega)).trans h.g1, (k.cell (p := ⟨b + 1, 1, none⟩) (by show b + 1 < B; omega)).trans h.g2, (k.cell (p := ⟨b + 1, 2, none⟩) (by show b + 1 < B; omega)).trans h.g3, (k.cell (p := ⟨b + 1, 3, none⟩) (by show b + 1 < B; omega)).trans h.g4⟩
theorem Bx.size {W0 : World} {b : Nat} {v0 d0 d1 d2 d3 : Value} {wr : World} (h : Bx W0 b v0 d0 d1 d2 d3 wr) : b + 2 ≤ wr.heap.size := by
  have := cell_lt h.g1
  exact this
theorem sRead_q {B : Nat} (A A1 A2 : Option Addr) (c c1 c2 n : Nat) (ss : List Sr) (qs : List (Value × Sr)) (hq : qs.map (·.2) = ss) (hnn : n = ss.length) (s : Int) (V : Vw) (w : World) (hn0 : ss.length ≤ 1048576) (hn : V.sh.length ≤ 1048576) (hn2 : V.st.length ≤ 1048576) (hcn : ∀ s ∈ ss, s.cs.length ≤ 1048576) (hwf : ∀ s ∈ ss, s.wf)
    (hA : HpAt B w A qs) (h1 : AtB B w A1 (ivs V.sh)) (h2 : AtB B w A2 (ivs V.st)) :
    Calls Tryd.prog 8 #[.agg #[.slice A n c], .agg #[.int .i64 s, .slice A1 V.sh.length c1, .slice A2 V.st.length c2, .int .i64 V.off]] w (Ret (RowQ w 59 3 (readF ss ⟨s, V⟩).length (cvs (readF ss ⟨s, V⟩)))) := by
  subst hq hnn
  rw [List.length_map] at hn0 ⊢
  exact sRead_c A A1 A2 c c1 c2 qs s V w hn0 hn hn2 (fun r hr => hcn _ (List.mem_map_of_mem hr)) (fun r hr => hwf _ (List.mem_map_of_mem hr)) hA h1 h2
theorem iRead_q {B : Nat} (A A1 A2 : Option Addr) (c c1 c2 n : Nat) (ss : List Sr) (qs : List (Value × Sr)) (hq : qs.map (·.2) = ss) (hnn : n = ss.length) (s : Int) (V : Vw) (w : World) (hT : Tab w) (hn0 : ss.length ≤ 1048576) (hn : V.sh.length ≤ 1048576) (hn2 : V.st.length ≤ 1048576) (hcn : ∀ s ∈ ss, s.cs.length ≤ 1048576) (hwf : ∀ s ∈ ss, s.wf)
    (hA : HpAt B w A qs) (h1 : AtB B w A1 (ivs V.sh)) (h2 : AtB B w A2 (ivs V.st)) :
    Calls Tryd.prog 11 #[.agg #[.slice A n c], .agg #[.int .i64 s, .slice A1 V.sh.length c1, .slice A2 V.st.length c2, .int .i64 V.off]] w (Ret (RowQ w 59 3 (readF ss ⟨s, V⟩).length (cvs (readF ss ⟨s, V⟩)))) := by
  subst hq hnn
  rw [List.length_map] at hn0 ⊢
  exact iRead_c A A1 A2 c c1 c2 qs s V w hT hn0 hn hn2 (fun r hr => hcn _ (List.mem_map_of_mem hr)) (fun r hr => hwf _ (List.mem_map_of_mem hr)) hA h1 h2
theorem eqHeap_q {B B' : Nat} (A A' : Option Addr) (c c' n m : Nat) (ss : List Sr) (xs ys : List (Value × Sr)) (hx : xs.map (·.2) = ss) (hy : ys.map (·.2) = ss) (hn : n = ss.length) (hm : m = ss.length) (w : World) (hl : ss.length ≤ 1048576) (hcn : ∀ s ∈ ss, s.cs.length ≤ 1048576) (hwf : ∀ s ∈ ss, s.wf)
    (hA : HpAt B w A xs) (hA' : HpAt B' w A' ys) : Calls Tryd.prog 13 #[.agg #[.slice A n c], .agg #[.slice A' m c']] w fun e w' => e = .returned (.bool true) ∧ Below w.heap.size w w' := by
  have e1 : n = xs.length := by rw [hn, ← hx, List.length_map]
  have e2 : m = ys.length := by rw [hm, ← hy, List.length_map]
  rw [e1, e2]
  refine eqHeap_t A A' c c' xs ys w (by rw [hx, hy]; exact hpSame.refl _) (fun r hr => hwf _ (hx ▸ List.mem_map_of_mem hr)) (fun r hr => hwf _ (hy ▸ List.mem_map_of_mem hr)) (by rw [← e1, hn]; exact hl) (fun r hr => hcn _ (hx ▸ List.mem_map_of_mem hr)) hA hA'
theorem cntS_map (xs ys : List (Value × Sr)) (h : xs.map (·.2) = ys.map (·.2)) : cntS xs = cntS ys := by
  induction xs generalizing ys with
  | nil => cases ys with
    | nil => rfl
    | cons y ys => simp at h
  | cons x xs ih =>
    cases ys with
    | nil => simp at h
    | cons y ys =>
      simp only [List.map_cons, List.cons.injEq] at h
      simp only [cntS, h.1, ih ys h.2]
theorem fr_cell {lo hi : Nat} {w w' : World} (h : Fr lo hi w w') (b o : Nat) (hlt : b < w.heap.size) (hout : b < lo ∨ hi ≤ b) : w'.cell? ⟨b, o, none⟩ = w.cell? ⟨b, o, none⟩ := World.cell?_of_block (h.block b hlt hout)
theorem markHeap_q (A : Option Addr) (lo hi c n m : Nat) (rs : List (Value × Sr)) (k : Int) (w : World) (hnn : n = rs.length) (hmm : m = n) (hn : rs.length ≤ 1048576) (hn2 : ∀ r ∈ rs, r.2.cs.length ≤ 1048576) (hk0 : 0 ≤ k) (hk : k + cntS rs ≤ 1000000000) (hhi : hi ≤ w.heap.size) (ho : HpOwn w 56 59 lo hi (.slice A m c) rs) :
    Calls Tryd.prog 15 #[.agg #[.slice A n c], .int .i64 k] w (Ret (MkHQ lo hi (k + cntS rs) 56 59 (.slice A n c) (mkS k rs) w)) := by
  subst hmm hnn
  exact markHeap_c A lo hi c rs k w hn hn2 hk0 hk hhi ho
theorem hp_at {w : World} {eS eC : TypeId} {lo hi n c : Nat} {A : Option Addr} {qs : List (Value × Sr)} (h : HpOwn w eS eC lo hi (.slice A n c) qs) : HpAt hi w A qs := by
  obtain ⟨A', c', e, _, ha⟩ := h.at_
  cases e
  exact ha
theorem row_at {w : World} {base e sz n c hi : Nat} {A : Option Addr} {cs : List Value} (h : w.ownsRow base e sz (.slice A n c) n cs) (hhi : w.heap.size ≤ hi) : AtB hi w A cs := by
  obtain ⟨A', c', e, _, ha⟩ := own_atB h (fun g hg => Nat.lt_of_lt_of_le (h.lt g hg).2 hhi)
  cases e
  exact ha
set_option maxRecDepth 100000 in
set_option maxHeartbeats 2000000 in
theorem fnExactRead_c {B : Nat} (A A1 A2 : Option Addr) (c c1 c2 : Nat) (rs : List (Value × Sr)) (s : Int) (sh st : List Int) (off : Int) (w : World) (hT : Tab w) (hn : rs.length ≤ 9223372036854775807) (hn2 : ∀ r ∈ rs, r.2.cs.length ≤ 9223372036854775807)
    (hs1 : sh.length ≤ 9223372036854775807) (hs2 : st.length ≤ 9223372036854775807) (hwf : ∀ r ∈ rs, r.2.wf) (hA : HpAt B w A rs) (h1 : AtB B w A1 (ivs sh)) (h2 : AtB B w A2 (ivs st)) :
    Calls Tryd.prog 3 #[.agg #[.slice A rs.length c], .agg #[.int .i64 s, .slice A1 sh.length c1, .slice A2 st.length c2, .int .i64 off]] w fun e w' => e = .returned (.bool true) ∧ Below w.heap.size w w' := by
  have HA := hide hA.now
  have H1 := hide h1.now
  have H2 := hide h2.now
  have HN := hide hn
  have HN2 := hide hn2
  have HS1 := hide hs1
  have HS2 := hide hs2
  have HWF := hide hwf
  have HT := hide hT
  clear hA h1 h2 hn hn2 hs1 hs2 hwf hT
  have BX0 : Bx ((w.alloc (.cells #[.slice A rs.length c] 24)).alloc (.cells #[.int .i64 s, .slice A1 sh.length c1, .slice A2 st.length c2, .int .i64 off] 29)) w.heap.size (.slice A rs.length c) (.int .i64 s) (.slice A1 sh.length c1) (.slice A2 st.length c2) (.int .i64 off) ((w.alloc (.cells #[.slice A rs.length c] 24)).alloc (.cells #[.int .i64 s, .slice A1 sh.length c1, .slice A2 st.length c2, .int .i64 off] 29)) :=
    ⟨Below.refl _ _, by simp [go_sem], by simp [go_sem], by simp [go_sem], by simp [go_sem], by simp [go_sem]⟩
  have BW0 : Below w.heap.size w ((w.alloc (.cells #[.slice A rs.length c] 24)).alloc (.cells #[.int .i64 s, .slice A1 sh.length c1, .slice A2 st.length c2, .int .i64 off] 29)) := below_a2 _ _ _
  go_enter Tryd.func3, Tryd.ntmps3
  go_wp2_with (first
    | (go_at_call 6; refine (szHeap_c _ _ rs 1048576 _ (by omega) (by omega) HN.out HN2.out (HA.out.below BW0)).mono ?_; rintro e w2 ⟨_, rfl, r, rfl, hr1, hr2, hr3, hb2⟩; have HR := hide hr3; clear hr3; have hbz := below_go BW0 hb2 (by simp; omega); have bx := BX0.next hb2 (by simp); have g0 := bx.g0; have g1 := bx.g1; have g2 := bx.g2; have g3 := bx.g3; have g4 := bx.g4)
    | (go_at_call 7; refine (szArray_c _ _ _ _ _ _ _ _ _ _ (by omega) (by omega) HS1.out HS2.out).mono ?_; rintro e w3 ⟨_, rfl, r2, rfl, hr21, hr22, hr23, hb3⟩; have HR2 := hide hr23; clear hr23; have hbz3 := below_go hbz hb3 hbz.size; have bx3 := bx.next hb3 bx.size; have k0 := bx3.g0; have k1 := bx3.g1; have k2 := bx3.g2; have k3 := bx3.g3; have k4 := bx3.g4))
  · go_ret
    exact ⟨rfl, hbz⟩
  · go_ret
    exact ⟨rfl, hbz3⟩
  · clear g0 g1 g2 g3 g4
    obtain ⟨hsl1, hsl2⟩ := HR2.out (by omega)
    have htot := HR.out (by omega)
    have hrl : rs.length ≤ 1048576 := by have := totC_nonneg rs; omega
    have HRL := hide (show ∀ r ∈ rs, r.2.cs.length ≤ 1048576 from fun q hq => by have := totC_le rs q hq; omega)
    have HCNT := hide (show cntS rs ≤ 4194304 by rw [cntS_tot]; have := totC_nonneg rs; omega)
    have HWS := hide (show ∀ s ∈ rs.map (·.2), s.wf from fun s hs => by obtain ⟨r, hr, rfl⟩ := List.mem_map.1 hs; exact HWF.out r hr)
    have HLS := hide (show ∀ s ∈ rs.map (·.2), s.cs.length ≤ 1048576 from fun s hs => by obtain ⟨r, hr, rfl⟩ := List.mem_map.1 hs; exact HRL.out r hr)
    have HNS := hide (show (rs.map (·.2)).length ≤ 1048576 by rw [List.length_map]; exact hrl)
    have hbz := hbz3
    have bx := bx3
    clear hbz3 bx3 hb3
    go_region_held3 (fun w' => w'.cell? ⟨w.heap.size, 0, none⟩ = some (.slice A rs.length c) ∧ w'.cell? ⟨w.heap.size + 1, 0, none⟩ = some (.int .i64 s) ∧ w'.cell? ⟨w.heap.size + 1, 1, none⟩ = some (.slice A1 sh.length c1) ∧ w'.cell? ⟨w.heap.size + 1, 2, none⟩ = some (.slice A2 st.length c2) ∧ w'.cell? ⟨w.heap.size + 1, 3, none⟩ = some (.int .i64 off))
      (exact ⟨bx.g0, bx.g1, bx.g2, bx.g3, bx.g4⟩)
      (first
        | (go_at_call 9
           refine (toHeap_c _ _ rs _ hrl HRL.out (by first | exact HA.out.below hbz.drew | exact HA.out.below hbz)).mono ?_
           rintro e w4 ⟨_, rfl, A3, c3, qs, rfl, hc3, hqs, hown, hb4⟩
           have HQ := hide (hp_at hown)
           have HQS := hide hqs
           try (have HV1 := hide (HV1.out.below hb4))
           try (have HV2 := hide (HV2.out.below hb4))
           first | (have bx := bx.next hb4 bx.size; have hbz := below_go hbz hb4 hbz.size) | (have bx := bx.next (below_of_drew hb4) bx.size; have hbz := below_go hbz (below_of_drew hb4) hbz.size)
           clear hown hqs hb4)
        | (go_at_call 10
           refine (toArray_c _ _ _ _ ⟨s, ⟨sh, st, off⟩⟩ _ hsl1 hsl2 (by first | exact H1.out.below hbz.drew | exact H1.out.below hbz) (by first | exact H2.out.below hbz.drew | exact H2.out.below hbz)).mono ?_
           rintro e w5 ⟨_, rfl, A4, c4, A5, c5, rfl, hc4, hc5, ho1, ho2, hod, hb5⟩
           have HV1 := hide (row_at ho1 (Nat.le_refl _))
           have HV2 := hide (row_at ho2 (Nat.le_refl _))
           try (have HQ := hide (HQ.out.below hb5))
           first | (have bx := bx.next hb5 bx.size; have hbz := below_go hbz hb5 hbz.size) | (have bx := bx.next (below_of_drew hb5) bx.size; have hbz := below_go hbz (below_of_drew hb5) hbz.size)
           clear ho1 ho2 hb5)
        | (go_at_call 8
           refine (sRead_q _ _ _ _ _ _ _ (rs.map (·.2)) qs HQS.out (by simp) s ⟨sh, st, off⟩ _ HNS.out hsl1 hsl2 HLS.out HWS.out HQ.out.now HV1.out.now HV2.out.now).mono ?_
           rintro e w6 ⟨_, rfl, A6, c6, rfl, hc6, hown6, hb6⟩
           have bx := bx.next hb6 bx.size
           have hbz := below_go hbz hb6 hbz.size))
    have HW6 := hide (row_at hown6 (Nat.le_refl _))
    have g0 := bx.g0
    have g1 := bx.g1
    have g2 := bx.g2
    have g3 := bx.g3
    have g4 := bx.g4
    generalize hrd : readF (rs.map (·.2)) ⟨s, ⟨sh, st, off⟩⟩ = rd at HW6
    have HRD := hide hrd
    have HRDW := hide (show ∀ c ∈ rd, c.wf from hrd ▸ readF_wf _ _ HWS.out)
    have hrdl : rd.length ≤ 4096 := hrd ▸ readF_len _ _
    clear hrd hown6 hb6 HQ HV1 HV2 HQS hod
    go_wp2_with fail
    refine (toHeap_c _ _ rs _ hrl HRL.out (HA.out.below hbz)).mono ?_
    rintro e w7 ⟨_, rfl, B3, d3, ps, rfl, hd3, hps, hownH, hb7⟩
    have HPS := hide hps
    have HOH := hide hownH
    have hb7' : Below w6.heap.size w6 (w7.alloc (.cells #[.slice B3 rs.length d3] 36)) := hb7.alloc hb7.size _
    have hbz7 := below_go hbz hb7' hbz.size
    have bx7 := bx.next hb7' bx.size
    have HW7 := hide (HW6.out.below hb7')
    have k1 := bx7.g1
    have k2 := bx7.g2
    have k3 := bx7.g3
    have k4 := bx7.g4
    clear hps hownH
    go_wp2_with fail
    refine (toArray_c _ _ _ _ ⟨s, ⟨sh, st, off⟩⟩ _ hsl1 hsl2 (H1.out.below hbz7) (H2.out.below hbz7)).mono ?_
    rintro e w8 ⟨_, rfl, C4, e4, C5, e5, rfl, he4, he5, hoa1, hoa2, hoad, hb8⟩
    have hb8' : Below (w7.alloc (.cells #[.slice B3 rs.length d3] 36)).heap.size (w7.alloc (.cells #[.slice B3 rs.length d3] 36)) (w8.alloc (.cells #[.int .i64 s, .slice C4 sh.length e4, .slice C5 st.length e5, .int .i64 off] 40)) := hb8.alloc hb8.size _
    have q36 : (w7.alloc (.cells #[.slice B3 rs.length d3] 36)).cell? ⟨w7.heap.size, 0, none⟩ = some (.slice B3 rs.length d3) := by simp [go_sem]
    have c36 := (hb8'.cell (p := ⟨w7.heap.size, 0, none⟩) (by simp)).trans q36
    have hbz8 := below_go hbz7 hb8' hbz7.size
    have bx8 := bx7.next hb8' bx7.size
    have HW8 := hide (HW7.out.below ((Below.refl _ _).trans (hb8'.mono hb7'.size)))
    have HP8 := hide (((hp_at HOH.out).below (below_a1 w7 (.cells #[.slice B3 rs.length d3] 36))).below (hb8'.mono (by simp)))
    have HC4 := hide ((row_at hoa1 (Nat.le_refl _)).below (below_a1 w8 (.cells #[.int .i64 s, .slice C4 sh.length e4, .slice C5 st.length e5, .int .i64 off] 40)))
    have HC5 := hide ((row_at hoa2 (Nat.le_refl _)).below (below_a1 w8 (.cells #[.int .i64 s, .slice C4 sh.length e4, .slice C5 st.length e5, .int .i64 off] 40)))
    have HOA1 := hide (own_alloc hoa1 (.cells #[.int .i64 s, .slice C4 sh.length e4, .slice C5 st.length e5, .int .i64 off] 40))
    have HOA2 := hide (own_alloc hoa2 (.cells #[.int .i64 s, .slice C4 sh.length e4, .slice C5 st.length e5, .int .i64 off] 40))
    have HOAD := hide hoad
    have HOH8 := hide ((HOH.out.below (below_a1 w7 (.cells #[.slice B3 rs.length d3] 36)) (Nat.le_refl _)).below (hb8'.mono (by simp)) (Nat.le_refl _))
    have HG1 := hide (fun g hg => (hoa1.lt g hg).2)
    have HG2 := hide (fun g hg => (hoa2.lt g hg).2)
    clear hoa1 hoa2 hoad
    have c40 : (w8.alloc (.cells #[.int .i64 s, .slice C4 sh.length e4, .slice C5 st.length e5, .int .i64 off] 40)).cell? ⟨w8.heap.size, 0, none⟩ = some (.int .i64 s) := by simp [go_sem]
    have c41 : (w8.alloc (.cells #[.int .i64 s, .slice C4 sh.length e4, .slice C5 st.length e5, .int .i64 off] 40)).cell? ⟨w8.heap.size, 1, none⟩ = some (.slice C4 sh.length e4) := by simp [go_sem]
    have c42 : (w8.alloc (.cells #[.int .i64 s, .slice C4 sh.length e4, .slice C5 st.length e5, .int .i64 off] 40)).cell? ⟨w8.heap.size, 2, none⟩ = some (.slice C5 st.length e5) := by simp [go_sem]
    have c43 : (w8.alloc (.cells #[.int .i64 s, .slice C4 sh.length e4, .slice C5 st.length e5, .int .i64 off] 40)).cell? ⟨w8.heap.size, 3, none⟩ = some (.int .i64 off) := by simp [go_sem]
    have z78 : w7.heap.size + 1 ≤ w8.heap.size := by simpa using hb8.size
    have z89 : w8.heap.size + 1 ≤ (w8.alloc (.cells #[.int .i64 s, .slice C4 sh.length e4, .slice C5 st.length e5, .int .i64 off] 40)).heap.size := by simp
    go_wp2_with fail
    generalize hW9 : w8.alloc (.cells #[.int .i64 s, .slice C4 sh.length e4, .slice C5 st.length e5, .int .i64 off] 40) = W9 at hb8' bx8 hbz8 HW8 HP8 HC4 HC5 HOA1 HOA2 HOH8 c36 c40 c41 c42 c43 z89 ⊢
    clear hW9
    refine (iRead_q _ _ _ _ _ _ _ (rs.map (·.2)) ps HPS.out (by simp) s ⟨sh, st, off⟩ _ (HT.out.below hbz8 HT.out.pos) HNS.out hsl1 hsl2 HLS.out HWS.out HP8.out.now HC4.out.now HC5.out.now).mono ?_
    rw [HRD.out]
    rintro e w10 ⟨_, rfl, A10, c10, rfl, hc10, hown10, hb10⟩
    have HR10 := hide (row_at hown10 (Nat.le_refl _))
    have HOR := hide hown10
    have hbz10 := below_go hbz8 hb10 hbz8.size
    have bx10 := bx8.next hb10 bx8.size
    have HW10 := hide (HW8.out.below (hb10.mono (Nat.le_trans hb7'.size hb8'.size)))
    clear hown10
    go_wp2_with fail
    refine (eqCellS_t _ _ _ _ rd rd _ (csSame.refl _) HRDW.out HRDW.out (by omega) HR10.out HW10.out).mono ?_
    rintro e w11 ⟨rfl, hb11⟩
    have hb11' := hb10.trans (hb11.mono hb10.size)
    have bx11 := bx10.next hb11 bx10.size
    have hbz11 := below_go hbz10 hb11 hbz10.size
    go_wp2_with fail
    have b7 : w7.heap.size < W9.heap.size := by omega
    have b7' : w7.heap.size < w11.heap.size := Nat.lt_of_lt_of_le b7 hb11'.size
    have t0 := (hb11'.cell (p := ⟨w7.heap.size, 0, none⟩) b7).trans c36
    have t1 := bx11.g0
    have bW := bx11.size
    have bW' : w.heap.size < w11.heap.size := by omega
    have HP11 := hide (HP8.out.below (hb11'.mono (Nat.le_of_lt b7)))
    go_region_held3 (fun w' => w'.cell? ⟨w7.heap.size, 0, none⟩ = some (.slice B3 rs.length d3) ∧ w'.cell? ⟨w.heap.size, 0, none⟩ = some (.slice A rs.length c))
      (first | (with_reducible exact ⟨r0, r1⟩) | exact ⟨t0, t1⟩)
      (first
        | (go_at_call 9
           refine (toHeap_c _ _ rs _ hrl HRL.out (HA.out.below hbz11.drew)).mono ?_
           rintro e w12 ⟨_, rfl, D3, f3, us, rfl, hf3, hus, hownU, hb12⟩
           have HU := hide (hp_at hownU)
           have HUS := hide hus
           have hb12' := below_of_drew hb12
           have HP12 := hide (HP11.out.below (hb12'.mono (Nat.le_of_lt b7')))
           have r0 := (hb12'.cell (p := ⟨w7.heap.size, 0, none⟩) b7').trans t0
           have r1 := (hb12'.cell (p := ⟨w.heap.size, 0, none⟩) bW').trans t1
           clear hownU hus)
        | (go_at_call 13
           refine (eqHeap_q _ _ _ _ _ _ (rs.map (·.2)) ps us HPS.out HUS.out (by simp) (by simp) _ HNS.out HLS.out HWS.out HP12.out HU.out).mono ?_
           rintro e w13 ⟨rfl, hb13⟩
           have hb13' := hb12'.trans (hb13.mono hb12'.size)
           have r0 := (hb13'.cell (p := ⟨w7.heap.size, 0, none⟩) b7').trans t0
           have r1 := (hb13'.cell (p := ⟨w.heap.size, 0, none⟩) bW').trans t1))
    have bx13 := bx11.next hb13' bx11.size
    have hbz13 := below_go hbz11 hb13' hbz11.size
    have hb913 := hb11'.trans (hb13'.mono hb11'.size)
    have b8 : w8.heap.size < W9.heap.size := by omega
    have b8' : w8.heap.size < w13.heap.size := Nat.lt_of_lt_of_le b8 hb913.size
    have bV := bx13.size
    have u40 := (hb913.cell (p := ⟨w8.heap.size, 0, none⟩) b8).trans c40
    have u41 := (hb913.cell (p := ⟨w8.heap.size, 1, none⟩) b8).trans c41
    have u42 := (hb913.cell (p := ⟨w8.heap.size, 2, none⟩) b8).trans c42
    have u43 := (hb913.cell (p := ⟨w8.heap.size, 3, none⟩) b8).trans c43
    have HV1 := hide (HC4.out.below (hb913.mono (Nat.le_of_lt b8)))
    have HV2 := hide (HC5.out.below (hb913.mono (Nat.le_of_lt b8)))
    go_wp2_with fail
    clear t0 t1 r0 r1
    go_region_held3 (fun w' => (w'.cell? ⟨w8.heap.size, 0, none⟩ = some (.int .i64 s) ∧ w'.cell? ⟨w8.heap.size, 1, none⟩ = some (.slice C4 sh.length e4) ∧ w'.cell? ⟨w8.heap.size, 2, none⟩ = some (.slice C5 st.length e5) ∧ w'.cell? ⟨w8.heap.size, 3, none⟩ = some (.int .i64 off)) ∧
        w'.cell? ⟨w.heap.size + 1, 0, none⟩ = some (.int .i64 s) ∧ w'.cell? ⟨w.heap.size + 1, 1, none⟩ = some (.slice A1 sh.length c1) ∧ w'.cell? ⟨w.heap.size + 1, 2, none⟩ = some (.slice A2 st.length c2) ∧ w'.cell? ⟨w.heap.size + 1, 3, none⟩ = some (.int .i64 off))
      (first | (with_reducible exact ⟨r40, bx14.g1, bx14.g2, bx14.g3, bx14.g4⟩) | exact ⟨⟨u40, u41, u42, u43⟩, bx13.g1, bx13.g2, bx13.g3, bx13.g4⟩)
      (first
        | (go_at_call 10
           refine (toArray_c _ _ _ _ ⟨s, ⟨sh, st, off⟩⟩ _ hsl1 hsl2 (H1.out.below hbz13.drew) (H2.out.below hbz13.drew)).mono ?_
           rintro e w14 ⟨_, rfl, E4, f4, E5, f5, rfl, hf4, hf5, hx1, hx2, hxd, hb14⟩
           have HX1 := hide (row_at hx1 (Nat.le_refl _))
           have HX2 := hide (row_at hx2 (Nat.le_refl _))
           have hb14' := below_of_drew hb14
           have HV14 := hide (HV1.out.now.below hb14')
           have HV15 := hide (HV2.out.now.below hb14')
           have bx14 := bx13.next hb14' bx13.size
           have r40 := And.intro ((hb14'.cell (p := ⟨w8.heap.size, 0, none⟩) b8').trans u40) (And.intro ((hb14'.cell (p := ⟨w8.heap.size, 1, none⟩) b8').trans u41) (And.intro ((hb14'.cell (p := ⟨w8.heap.size, 2, none⟩) b8').trans u42) ((hb14'.cell (p := ⟨w8.heap.size, 3, none⟩) b8').trans u43)))
           clear hx1 hx2 hxd)
        | (go_at_call 14
           refine (eqArray_t _ _ _ _ _ _ _ _ ⟨s, ⟨sh, st, off⟩⟩ _ hsl1 hsl2 HV14.out HV15.out HX1.out HX2.out).mono ?_
           rintro e w15 ⟨rfl, hb15⟩
           have hb15' := hb14'.trans (hb15.mono hb14'.size)
           have bx14 := bx13.next hb15' bx13.size
           have r40 := And.intro ((hb15'.cell (p := ⟨w8.heap.size, 0, none⟩) b8').trans u40) (And.intro ((hb15'.cell (p := ⟨w8.heap.size, 1, none⟩) b8').trans u41) (And.intro ((hb15'.cell (p := ⟨w8.heap.size, 2, none⟩) b8').trans u42) ((hb15'.cell (p := ⟨w8.heap.size, 3, none⟩) b8').trans u43)))))
    have hb915 := hb913.trans (hb15'.mono hb913.size)
    have v36 := (hb915.cell (p := ⟨w7.heap.size, 0, none⟩) b7).trans c36
    obtain ⟨v40, v41, v42, v43⟩ := r40
    have hpl : rs.length = ps.length := by have := congrArg List.length HPS.out; simpa using this.symm
    have HPL := hide hpl
    have HCP := hide (cntS_map ps rs HPS.out)
    have HLP := hide (show ∀ r ∈ ps, r.2.cs.length ≤ 1048576 from fun q hq => HLS.out _ (HPS.out ▸ List.mem_map_of_mem hq))
    have HOH15 := hide (HOH8.out.below (hb915.mono (Nat.le_of_lt b7)) (Nat.le_refl _))
    have z15 := hb915.size
    clear hpl
    go_wp2_with fail
    refine (markHeap_q _ w6.heap.size w7.heap.size _ _ _ ps 1 _ HPL.out (by simp) (by rw [← HPL.out]; exact hrl) HLP.out (by omega) (by rw [HCP.out]; have := HCNT.out; omega) (by omega) HOH15.out).mono ?_
    rintro e w16 ⟨_, rfl, rfl, hf16, hoh16⟩
    rw [HCP.out]
    have b815 : w8.heap.size < w15.heap.size := by omega
    have x40 := (fr_cell hf16 w8.heap.size 0 b815 (.inr (by omega))).trans v40
    have x41 := (fr_cell hf16 w8.heap.size 1 b815 (.inr (by omega))).trans v41
    have x42 := (fr_cell hf16 w8.heap.size 2 b815 (.inr (by omega))).trans v42
    have x43 := (fr_cell hf16 w8.heap.size 3 b815 (.inr (by omega))).trans v43
    have x36 := (fr_cell hf16 w7.heap.size 0 (by omega) (.inr (by omega))).trans v36
    have HA16 := hide (own_mono (base' := w7.heap.size + 1) (hf16.own (own_below HOA1.out hb915 (Nat.le_refl _)) (fun g hg => .inr (by have := ((own_below HOA1.out hb915 (Nat.le_refl _)).lt g hg).1; simp at this; omega))) (by simp))
    have HA17 := hide (own_mono (base' := w7.heap.size + 1) (hf16.own (own_below HOA2.out hb915 (Nat.le_refl _)) (fun g hg => .inr (by have := ((own_below HOA2.out hb915 (Nat.le_refl _)).lt g hg).1; simp at this; omega))) (by simp))
    have hcn0 := cntS_nonneg rs
    have hcn1 := HCNT.out
    go_wp2_with fail
    refine (markArray_c _ _ (w7.heap.size + 1) w8.heap.size _ _ _ _ _ _ _ _ (1 + cntS rs) _ hsl1 hsl2 (by omega) (by omega) HA16.out HA17.out HG1.out HG2.out HOAD.out).mono ?_
    rintro e w17 ⟨_, rfl, rfl, hf17⟩
    have hz16 := hf16.size
    have z10 := hb10.size
    have HOR15 := own_below HOR.out (hb11.trans ((hb13'.trans (hb15'.mono hb13'.size)).mono hb11.size)) (Nat.le_refl _)
    have hneg : ¬ (1 + cntS rs + (sh.length : Int) + st.length < 0) := by omega
    have hb1015 := hb11.trans ((hb13'.trans (hb15'.mono hb13'.size)).mono hb11.size)
    have z610 : w6.heap.size ≤ w10.heap.size := by have := hb7'.size; have := hb8'.size; omega
    have z1015 := hb1015.size
    have f16b := hf16.below (B := w6.heap.size) (Nat.le_refl _) (by omega)
    have f17b := hf17.below (B := w6.heap.size) (by have := hb7'.size; simp at this; omega) (by omega)
    have HW17 := hide (((HW10.out.below (hb1015.mono z610)).below f16b).below f17b)
    have HOR17 := hide (hf17.own (hf16.own HOR15 (fun g hg => .inr (by have := (HOR15.lt g hg).1; omega))) (fun g hg => .inr (by have := (HOR15.lt g hg).1; omega)))
    have bx15 := bx14
    have bx17 := (bx15.next f16b bx.size).next f17b bx.size
    have hbz15 := below_go hbz13 hb15' hbz13.size
    have hbz17 := (hbz15.trans (f16b.mono hbz.size)).trans (f17b.mono hbz.size)
    have HR17 := hide (row_at HOR17.out (Nat.le_refl _))
    clear HOR15
    go_wp2_with fail
    refine (eqCellS_t _ _ _ _ rd rd _ (csSame.refl _) HRDW.out HRDW.out (by omega) HR17.out HW17.out).mono ?_
    rintro e w18 ⟨rfl, hb18⟩
    have HOR18 := hide (own_below HOR17.out hb18 (Nat.le_refl _))
    have z17 := hf17.size
    have z18 := hb18.size
    go_wp2_with fail
    refine (markCellS_c _ W9.heap.size w18.heap.size _ rd 1 _ (by omega) (by omega) (by omega) HOR18.out (fun g hg => (HOR18.out.lt g hg).2)).mono ?_
    rintro e w19 ⟨_, rfl, rfl, hf19, hor19⟩
    have HOR19 := hide hor19
    have HR19 := hide (row_at hor19 (Nat.le_refl _))
    clear hor19
    go_wp2_with fail
    refine (heldCellS_c _ _ _ 1 _ (by omega) (by omega) (by omega) HR19.out).mono ?_
    rintro e w20 ⟨rfl, hb20⟩
    have z69 : w6.heap.size ≤ W9.heap.size := Nat.le_trans hb7'.size hb8'.size
    have f19b := hf19.below (B := w6.heap.size) z69 (by omega)
    have z19 := hf19.size
    have z20 := hb20.size
    have b620 := ((hb18.mono (by omega : w6.heap.size ≤ w17.heap.size)).trans f19b).trans (hb20.mono (by omega))
    have HW20 := hide (HW17.out.below b620)
    have bx20 := bx17.next b620 bx.size
    have hbz20 := hbz17.trans (b620.mono hbz.size)
    have HOR20 := hide (own_below HOR19.out hb20 (Nat.le_refl _))
    go_wp2_with fail
    have hbzR := hbz20
    have bxR := bx20
    go_region_held3 (fun w' => w'.cell? ⟨w.heap.size, 0, none⟩ = some (.slice A rs.length c) ∧ w'.cell? ⟨w.heap.size + 1, 0, none⟩ = some (.int .i64 s) ∧ w'.cell? ⟨w.heap.size + 1, 1, none⟩ = some (.slice A1 sh.length c1) ∧ w'.cell? ⟨w.heap.size + 1, 2, none⟩ = some (.slice A2 st.length c2) ∧ w'.cell? ⟨w.heap.size + 1, 3, none⟩ = some (.int .i64 off))
      (exact ⟨bxR.g0, bxR.g1, bxR.g2, bxR.g3, bxR.g4⟩)
      (first
        | (go_at_call 9
           refine (toHeap_c _ _ rs _ hrl HRL.out (HA.out.below hbzR.drew)).mono ?_
           rintro e w21 ⟨_, rfl, D3, f3, us, rfl, hf3, hus, hownU, hb21⟩
           have HU2 := hide (hp_at hownU)
           have HUS2 := hide hus
           have b21 := below_of_drew hb21
           have bxR := bx20.next b21 bx20.size
           have hbzR := below_go hbz20 b21 hbz20.size
           clear hownU hus)
        | (go_at_call 10
           refine (toArray_c _ _ _ _ ⟨s, ⟨sh, st, off⟩⟩ _ hsl1 hsl2 (H1.out.below hbzR) (H2.out.below hbzR)).mono ?_
           rintro e w22 ⟨_, rfl, E4, f4, E5, f5, rfl, hf4, hf5, hx1, hx2, hxd, hb22⟩
           have HX1 := hide (row_at hx1 (Nat.le_refl _))
           have HX2 := hide (row_at hx2 (Nat.le_refl _))
           have HU3 := hide (HU2.out.now.below hb22)
           have b22 := b21.trans (hb22.mono b21.size)
           have bxR := bx20.next b22 bx20.size
           have hbzR := below_go hbz20 b22 hbz20.size
           clear hx1 hx2 hxd)
        | (go_at_call 11
           refine (iRead_q _ _ _ _ _ _ _ (rs.map (·.2)) us HUS2.out (by simp) s ⟨sh, st, off⟩ _ (HT.out.below hbzR HT.out.pos) HNS.out hsl1 hsl2 HLS.out HWS.out HU3.out.now HX1.out.now HX2.out.now).mono ?_
           rintro e w23 ⟨_, rfl, A23, c23, rfl, hc23, hown23, hb23⟩
           have b23 := b22.trans (hb23.mono b22.size)
           have bxR := bx20.next b23 bx20.size
           have hbzR := below_go hbz20 b23 hbz20.size))
    rw [HRD.out] at *
    have HR23 := hide (row_at hown23 (Nat.le_refl _))
    have z620 : w6.heap.size ≤ w20.heap.size := by omega
    have HW23 := hide (HW20.out.below (b23.mono z620))
    have HOR23 := hide (own_below HOR20.out b23 (Nat.le_refl _))
    clear hown23
    go_wp2_with fail
    refine (eqCellS_t _ _ _ _ rd rd _ (csSame.refl _) HRDW.out HRDW.out (by omega) HR23.out HW23.out).mono ?_
    rintro e w24 ⟨rfl, hb24⟩
    have HR24 := hide (row_at (own_below HOR23.out hb24 (Nat.le_refl _)) (Nat.le_refl _))
    have hbz24 := below_go hbzR hb24 hbzR.size
    go_wp2_with fail
    refine (heldCellS_c _ _ _ 1 _ (by omega) (by omega) (by omega) HR24.out).mono ?_
    rintro e w25 ⟨rfl, hb25⟩
    have hbz25 := below_go hbz24 hb25 hbz24.size
    go_wp2_with fail
    go_ret
    exact ⟨rfl, hbz25⟩
end Go.Proofs.YtnmnkiihbopebaaDoor
