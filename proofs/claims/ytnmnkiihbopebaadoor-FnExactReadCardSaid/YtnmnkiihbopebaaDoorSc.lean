/- Reading an array, the reference's way: l4Read, l4Good. -/
import Derived.Test.YtnmnkiihbopebaaDoorSb
import Derived.Test.YtnmnkiihbopebaaDoorVc
namespace Go.Proofs.YtnmnkiihbopebaaDoor
open Go.RowKit Go.Nd
attribute [local go_sem] run_store_float

theorem atB_new (w : World) (xs : Array Value) (e : TypeId) : AtB (w.heap.size + 1) (w.alloc (.cells xs e)) (some ⟨w.heap.size, 0, none⟩) xs.toList := by
  intro j u hu
  refine ⟨w.heap.size, 0, rfl, by omega, ?_⟩
  have : (w.alloc (.cells xs e)).heap[w.heap.size]? = some (.cells xs e) := heap_alloc_new w _
  simp only [World.cell?, this]
  simpa using hu
theorem cell_alloc_grown {wr w7 : World} {n : Nat} {x : Obj} {ob : Option Nat} (hg : ((wr.drewN n).alloc x).grownBy w7 ob) (b o : Nat) (hb : b < wr.heap.size) (hne : ob ≠ some b) : w7.cell? ⟨b, o, none⟩ = wr.cell? ⟨b, o, none⟩ := by
  have h1 := World.cell?_of_block (a := ⟨b, o, none⟩) (hg.block b (by simp; omega) (fun e => hne e.symm))
  rw [h1]
  exact (below_a1 (wr.drewN n) x).cell (p := ⟨b, o, none⟩) (by simpa using hb)
/-- The cell at a place. -/
def pickC (cs : List Cl) (p : Int) : Cl := (cs[p.toNat]?).getD Cl.z
theorem pickC_get (cs : List Cl) (k : Nat) (h : k < cs.length) (p : Int) (hp : p = k) : pickC cs p = cs[k] := by
  subst hp; simp [pickC, h]
def readC (cs : List Cl) (ps : List Int) : List Cl := ps.map (pickC cs)
def VOk (V : Vw) : Prop := cntF V.sh ≠ 0 → PlOk V.sh V.st ∧ -4096 ≤ V.off ∧ V.off ≤ 4096
theorem vok_of {V : Vw} (h : vvF V = true) : VOk V := by
  intro h0
  simp only [vvF, Bool.and_eq_true, decide_eq_true_eq] at h
  obtain ⟨⟨⟨⟨⟨h1, h2⟩, h3⟩, h4⟩, h5⟩, _⟩ := h
  rw [cntF_good h1] at h0
  exact ⟨plOk_of h1 h2 h5 h0, by omega, h4⟩
theorem offs_len_le {V : Vw} (h : VOk V) : (offsF V).length ≤ 4096 := by
  unfold offsF
  split
  · simp
  · rename_i h0; exact placesF_len_le (h h0).1 _
theorem offs_ge {V : Vw} (h : vvF V = true) : ∀ p ∈ offsF V, 0 ≤ p ∧ p < 4096 := by
  intro p hp
  have hv := h
  simp only [vvF, Bool.and_eq_true, decide_eq_true_eq, Bool.or_eq_true, List.all_eq_true] at h
  obtain ⟨⟨⟨⟨⟨h1, h2⟩, h3⟩, h4⟩, h5⟩, h6⟩ := h
  unfold offsF at hp
  split at hp
  · simp at hp
  · rename_i h0
    rw [cntF_good h1] at h0
    rcases h6 with h6 | h6
    · exact absurd h6 h0
    · have := h6 p hp; simpa [okPl] using this
set_option maxRecDepth 100000 in
set_option maxHeartbeats 1000000 in
theorem l4Read_c {B : Nat} (A A1 A2 : Option Addr) (c c1 c2 : Nat) (rs : List (Value × Sr)) (k : Nat) (hk : k < rs.length) (V : Vw) (w : World) (x : Int) (hx : x = k) (hn : V.sh.length ≤ 1048576) (hok : VOk V)
    (hin : ∀ p ∈ offsF V, 0 ≤ p ∧ p < rs[k].2.cs.length) (hA : HpAt B w A rs) (h1 : AtB B w A1 (ivs V.sh)) (h2 : AtB B w A2 (ivs V.st)) :
    Calls Tryd.prog 35 #[.agg #[.slice A rs.length c], .int .i64 x, .agg #[.slice A1 V.sh.length c1, .slice A2 V.st.length c2, .int .i64 V.off]] w (Ret (RowQ w 59 3 (offsF V).length (cvs (readC rs[k].2.cs (offsF V))))) := by
  obtain ⟨i0, hi, hz0, hz1, hz2⟩ := info_parts infoCell
  obtain ⟨sh, st, off⟩ := V
  subst hx
  have HA := hide hA.now
  have H1 := hide h1.now
  have H2 := hide h2.now
  have HOK := hide hok
  have HIN := hide hin
  have HLE := hide (offs_len_le hok)
  clear hA h1 h2 hok hin
  dsimp only at hn H1 H2 ⊢
  generalize hps : offsF ⟨sh, st, off⟩ = ps at HIN HLE ⊢
  have HPS := hide hps
  clear hps
  go_enter Tryd.func35, Tryd.ntmps35
  go_wp2_with (go_at_call 57; refine (l2Offsets_c _ _ _ _ ⟨sh, st, off⟩ _ hn HOK.out (H1.out.below (by exact below_a3 _ _ _ _)) (H2.out.below (by exact below_a3 _ _ _ _))).mono ?_; rw [HPS.out]; rintro e w2 ⟨_, rfl, A5, c5, rfl, hc5, hown5, hb5⟩)
  simp only [World.size_alloc] at hown5 hb5
  have hbz := below_go (below_a3 w (.cells #[.slice A rs.length c] 36) (.cells #[.slice A1 sh.length c1, .slice A2 st.length c2, .int .i64 off] 38) (.cells #[] 59)) (hb5.mono (by simp)) (by simp; omega)
  have hsz2 : w.heap.size + 3 ≤ w2.heap.size := by simpa using hb5.size
  obtain ⟨hcell, hfr⟩ := bcell hb5
  have g0 := hcell w.heap.size 0 (by omega)
  simp [go_sem] at g0
  have hown0 : w2.ownsRow (w.heap.size + 2) 59 3 (.slice (some ⟨w.heap.size + 2, 0, none⟩) 0 0) 0 (cvs (readC rs[k].2.cs (ps.take 0))) :=
    own_below (own_new ((w.alloc (.cells #[.slice A rs.length c] 36)).alloc (.cells #[.slice A1 sh.length c1, .slice A2 st.length c2, .int .i64 off] 38)) (w.heap.size + 2) 59 3 0 #[] (by simp) rfl (by simp)) hb5 (by simp)
  have G0 := hide g0
  clear hcell hfr hb5 g0
  go_loopw [7, 9] (fun v i wr => ∃ (q : Nat) (A' : Option Addr) (c' : Nat), q ≤ ps.length ∧ i = .int .i64 q ∧ v = .slice A' q c' ∧
      wr.ownsRow (w.heap.size + 2) 59 3 (.slice A' q c') q (cvs (readC rs[k].2.cs (ps.take q))) ∧ wr.ownsRow (w.heap.size + 3) 2 1 (.slice A5 ps.length c5) ps.length (ivs ps) ∧ wr.cell? ⟨w.heap.size, 0, none⟩ = some (.slice A rs.length c) ∧ Below w.heap.size w wr ∧ w.heap.size + 3 ≤ wr.heap.size)
    (fun _ i _ => ps.length - (intOf i).toNat)
  case atStart => exact ⟨0, _, 0, Nat.zero_le _, rfl, rfl, hown0, hown5, G0.out, hbz, hsz2⟩
  case round =>
    obtain ⟨q, A', c', hq, rfl, rfl, hownv, hownp, g0, hb, hsz⟩ := hrel
    by_cases hlt : q < ps.length
    · obtain ⟨b5, d5, e5, hc5', _, hb5lt⟩ := own_form_pos hownp (by omega)
      simp only [Value.slice.injEq, true_and] at e5
      obtain ⟨rfl, rfl⟩ := e5
      have hp0 := own_cell hownp (ivs_get ps q hlt)
      obtain ⟨hpa, hpb⟩ := HIN.out _ (List.getElem_mem hlt)
      obtain ⟨p, hp⟩ : ∃ p : Nat, ps[q] = p := ⟨ps[q].toNat, by omega⟩
      rw [hp] at hp0
      have hpl : p < rs[k].2.cs.length := by omega
      obtain ⟨b, o, A6, c6, rfl, hbl, _, s1, hc6, hat6⟩ := (HA.out.below hb).at_ hk
      obtain ⟨b6, o6, rfl, hbl6, k0, k1, k2⟩ := at_cl hat6 hpl
      have HSTEP := hide (show cvs (readC rs[k].2.cs (ps.take q)) ++ [.int .i64 rs[k].2.cs[p].i, .float .f64 rs[k].2.cs[p].f, .float .f64 rs[k].2.cs[p].g] = cvs (readC rs[k].2.cs (ps.take (q + 1))) by
        rw [List.take_succ_eq_append_getElem hlt, readC, readC, List.map_append, cvs_append, List.map_singleton, pickC_get _ p hpl _ hp]; rfl)
      have HP := hide hp
      clear hp hpa hpb hat6
      have hkl : (k : Int) < rs.length := by omega
      have hpl' : (p : Int) < rs[k].2.cs.length := by omega
      have hle := HLE.out
      go_wp2_with fail
      go_region_held3 (fun w' => w'.cell? ⟨w.heap.size, 0, none⟩ = some (.slice (some ⟨b, o, none⟩) rs.length c) ∧ w'.cell? ⟨b, o + k * 2 + 1, none⟩ = some (.slice (some ⟨b6, o6, none⟩) rs[k].2.cs.length c6) ∧ w'.cell? ⟨b5, q, none⟩ = some (.int .i64 p) ∧
            w'.cell? ⟨b6, o6 + p * 3, none⟩ = some (.int .i64 rs[k].2.cs[p].i) ∧ w'.cell? ⟨b6, o6 + p * 3 + 1, none⟩ = some (.float .f64 rs[k].2.cs[p].f) ∧ w'.cell? ⟨b6, o6 + p * 3 + 2, none⟩ = some (.float .f64 rs[k].2.cs[p].g))
          (first | (with_reducible exact ⟨r0, r1, r2, r3, r4, r5⟩) | go_keep)
          (first | (refine step_append_at _ (by rfl) (.tmp 19) (.tmp 32) 32 (by rfl) (w.heap.size + 2) 59 i0 _ 3 24 Tryd.underlying32 hi hz0 hz1 hz2 rfl (by omega) _ _ _ (by rfl) (own_alloc (own_drewN hownv _) _) _ _ _ _ [.int .i64 rs[k].2.cs[p].i, .float .f64 rs[k].2.cs[p].f, .float .f64 rs[k].2.cs[p].g] (by rfl) (by rfl) (atB_new _ _ _) (by simp [Value.oneCell']) (by simp only [maxLen]; omega) (by omega) (by simp; omega) ?_
                    intro A7 c7 w7 hc7 hown7 hg7
                    have key := cell_alloc_grown hg7
                    have r0 := (key w.heap.size 0 (by omega) (fun e => by have := hownv.lt _ e; omega)).trans g0
                    have r1 := (key b (o + k * 2 + 1) (by omega) (fun e => by have := hownv.lt _ e; omega)).trans s1
                    have r2 := (key b5 q hb5lt.2 (fun e => own_ne hownv hownp (by decide) _ e rfl)).trans hp0
                    have r3 := (key b6 (o6 + p * 3) (by omega) (fun e => by have := hownv.lt _ e; omega)).trans k0
                    have r4 := (key b6 (o6 + p * 3 + 1) (by omega) (fun e => by have := hownv.lt _ e; omega)).trans k1
                    have r5 := (key b6 (o6 + p * 3 + 2) (by omega) (fun e => by have := hownv.lt _ e; omega)).trans k2
                    have hb7 := below_grow ((below_drewN hb _).alloc (by simp; omega) _) (own_alloc (own_drewN hownv _) _) hg7 (by simp; omega) (by omega)
                    have hownp7 := own_frame (own_alloc (own_drewN hownp _) _) fun g hg => hg7.block g (by have := (hownp.lt g hg).2; simp; omega) (fun e => own_ne hownv hownp (by decide) g e.symm hg)
                    have hz7 : wr.heap.size ≤ w7.heap.size := by have := hg7.size; simp at this; omega
                    rw [HSTEP.out] at hown7
                    clear key hg7))
      go_wp2_with fail
      go_roundw
      case rel => exact ⟨q + 1, A7, c7, hlt, by go_num, rfl, hown7, hownp7, r0, hb7, by omega⟩
      case measure => simp [intOf]; omega
    · obtain rfl : q = ps.length := by omega
      rw [List.take_length] at hownv
      go_wp2_with fail
      go_ret
      exact ⟨_, rfl, rowQ (own_mono hownv (by omega)) hb⟩
end Go.Proofs.YtnmnkiihbopebaaDoor
