/- The laws' conversions of plain data: each makes a copy in new memory. -/
import Derived.Test.YtnmnkiihbopebaaDoorChecked
import Derived.Test.YtnmnkiihbopebaaDoorRow
namespace Go.Proofs.YtnmnkiihbopebaaDoor
open Go.RowKit Go.Nd
attribute [local go_sem] run_store_float

theorem infoInt : (Tryd.prog.info? 2).map (fun i => (i.zero, i.size, i.bytes)) = some (some (.int .i64 0), 1, 8) := by kernel_rfl
theorem infoCell : (Tryd.prog.info? 59).map (fun i => (i.zero, i.size, i.bytes)) = some (some (.agg #[.int .i64 0, .float .f64 0, .float .f64 0]), 3, 24) := by kernel_rfl
theorem infoStore : (Tryd.prog.info? 56).map (fun i => (i.zero, i.size, i.bytes)) = some (some (.agg #[.int .i64 0, .slice none 0 0]), 2, 32) := by kernel_rfl
theorem toCell_c (i : Int) (f g : Nat) (w : World) : Calls Tryd.prog 133 #[.agg #[.int .i64 i, .float .f64 f, .float .f64 g]] w fun e w' => e = .returned (.agg #[.int .i64 i, .float .f64 f, .float .f64 g]) ∧ Below w.heap.size w w' := by
  go_enter Tryd.func133, Tryd.ntmps133
  go_wp2
  exact bodyPost_ret (v := .agg #[.int .i64 i, .float .f64 f, .float .f64 g]) (by simp [results, Tryd.results133, go_sem]) rfl ⟨rfl, below_a3 _ _ _ _⟩
/-- A copy of a slice: its value, its row. -/
def RowQ (w : World) (e : TypeId) (sz n : Nat) (cs : List Value) (v : Value) (w' : World) : Prop := ∃ A c, v = .slice A n c ∧ n ≤ c ∧ w'.ownsRow w.heap.size e sz (.slice A n c) n cs ∧ Below w.heap.size w w'
theorem rowQ {w w' : World} {e : TypeId} {sz n : Nat} {cs : List Value} {v : Value} (h : w'.ownsRow w.heap.size e sz v n cs) (hb : Below w.heap.size w w') : RowQ w e sz n cs v w' := by
  obtain ⟨A, c, rfl, hc, _⟩ := own_form h
  exact ⟨A, c, rfl, hc, h, hb⟩
theorem toCellS_c {B : Nat} (A : Option Addr) (c : Nat) (cs : List Cl) (w : World) (hn : cs.length ≤ 1048576) (hA : AtB B w A (cvs cs)) :
    Calls Tryd.prog 119 #[.slice A cs.length c] w (Ret (RowQ w 59 3 cs.length (cvs cs))) := by
  obtain ⟨i0, hi, hz0, hz1, hz2⟩ := info_parts infoCell
  have hA := hA.now
  go_enter Tryd.func119, Tryd.ntmps119
  go_wp2_with (at_make; refine wpList_make_full _ rfl (.tmp 6) (.tmp 6) 32 rfl w.heap.size 59 i0 _ 3 Tryd.underlying32 hi hz0 hz1 _ _ _ _ cs.length rfl rfl rfl rfl (by rw [hz2]; omega) (by simp only [maxLen]; omega) (Nat.le_refl _) ?_; intro w1 hown hg)
  go_loopw [4] (fun i wr => ∃ k : Nat, k ≤ cs.length ∧ i = .int .i64 k ∧ wr.ownsRow w.heap.size 59 3 (.slice (some ⟨w.heap.size, 0, none⟩) cs.length cs.length) cs.length (cvs (cs.take k ++ List.replicate (cs.length - k) Cl.z)) ∧ Below w.heap.size w wr) (fun i _ => cs.length - (intOf i).toNat)
  case atStart =>
    refine ⟨0, Nat.zero_le _, rfl, ?_, (Below.refl _ _).grown hg (Nat.le_refl _) (by simp)⟩
    rw [fill_start, ← cvs_zeros]
    exact hown
  case round =>
    obtain ⟨k, hk, rfl, hown, hb⟩ := hrel
    by_cases hlt : k < cs.length
    · have hB := hb.size
      obtain ⟨b, o, rfl, hbl, h0, h1, h2⟩ := at_cl (hA.below hb) hlt
      have HF := hide (fill_length cs Cl.z k hk)
      go_wp2_with (go_at_call 133; refine (toCell_c _ _ _ _).mono ?_; rintro e w2 ⟨rfl, hb2⟩; have hown2 := own_below hown hb2 (Nat.le_refl _); obtain ⟨v0, q0⟩ := own_has hown2 (k * 3) (by omega); obtain ⟨v1, q1⟩ := own_has hown2 (k * 3 + 1) (by omega); obtain ⟨v2, q2⟩ := own_has hown2 (k * 3 + 2) (by omega); have q3 := own_frozen hown2; have hbz := below_go hb hb2 hB)
      go_roundw
      case rel =>
        refine ⟨k + 1, hlt, by go_num, ?_, ((hbz.setCell (p := ⟨w.heap.size, k * 3, none⟩) (Nat.le_refl _) _).setCell (p := ⟨w.heap.size, k * 3 + 1, none⟩) (Nat.le_refl _) _).setCell (p := ⟨w.heap.size, k * 3 + 2, none⟩) (Nat.le_refl _) _⟩
        have := own_set_cl hown2 (k := k) (by rw [HF.out]; exact hlt) cs[k]
        rwa [fill_step cs Cl.z k hlt] at this
      case measure => simp [intOf]; omega
    · have hkk : k = cs.length := by omega
      have HK := hide hkk
      clear hkk
      go_wp2
      go_ret
      refine ⟨_, rfl, rowQ ?_ hb⟩
      rw [fill_end' cs Cl.z k HK.out] at hown
      exact hown
theorem toInt64S_c {B : Nat} (A : Option Addr) (c : Nat) (xs : List Int) (w : World) (hn : xs.length ≤ 1048576) (hA : AtB B w A (ivs xs)) :
    Calls Tryd.prog 82 #[.slice A xs.length c] w (Ret (RowQ w 2 1 xs.length (ivs xs))) := by
  obtain ⟨i0, hi, hz0, hz1, hz2⟩ := info_parts infoInt
  have hA := hA.now
  go_enter Tryd.func82, Tryd.ntmps82
  go_wp2_with (at_make; refine wpList_make_full _ rfl (.tmp 6) (.tmp 6) 25 rfl w.heap.size 2 i0 _ 1 Tryd.underlying25 hi hz0 hz1 _ _ _ _ xs.length rfl rfl rfl rfl (by rw [hz2]; omega) (by simp only [maxLen]; omega) (Nat.le_refl _) ?_; intro w1 hown hg)
  go_loopw [4] (fun i wr => ∃ k : Nat, k ≤ xs.length ∧ i = .int .i64 k ∧ wr.ownsRow w.heap.size 2 1 (.slice (some ⟨w.heap.size, 0, none⟩) xs.length xs.length) xs.length (ivs (xs.take k ++ List.replicate (xs.length - k) 0)) ∧ Below w.heap.size w wr) (fun i _ => xs.length - (intOf i).toNat)
  case atStart =>
    refine ⟨0, Nat.zero_le _, rfl, ?_, (Below.refl _ _).grown hg (Nat.le_refl _) (by simp)⟩
    rw [fill_start, ← ivs_zeros]
    exact hown
  case round =>
    obtain ⟨k, hk, rfl, hown, hb⟩ := hrel
    by_cases hlt : k < xs.length
    · have hB := hb.size
      obtain ⟨b, o, rfl, hbl, h0⟩ := at_int (hA.below hb) hlt
      obtain ⟨v0, q0⟩ := own_has hown k (by omega)
      have q3 := own_frozen hown
      go_wp2
      go_roundw
      case rel =>
        refine ⟨k + 1, hlt, by go_num, ?_, hb.setCell (p := ⟨w.heap.size, k, none⟩) (Nat.le_refl _) _⟩
        have := own_set_int hown k xs[k]
        rwa [fill_step xs 0 k hlt] at this
      case measure => simp [intOf]; omega
    · have hkk : k = xs.length := by omega
      have HK := hide hkk
      clear hkk
      go_wp2
      go_ret
      refine ⟨_, rfl, rowQ ?_ hb⟩
      rw [fill_end' xs 0 k HK.out] at hown
      exact hown
def StoreQ (w : World) (eC : TypeId) (dt : Int) (cs : List Cl) (v : Value) (w' : World) : Prop := ∃ A c, v = .agg #[.int .i64 dt, .slice A cs.length c] ∧ cs.length ≤ c ∧ w'.ownsRow w.heap.size eC 3 (.slice A cs.length c) cs.length (cvs cs) ∧ Below w.heap.size w w'
theorem toStore_c {B : Nat} (dt : Int) (A : Option Addr) (c : Nat) (cs : List Cl) (w : World) (hn : cs.length ≤ 1048576) (hA : AtB B w A (cvs cs)) :
    Calls Tryd.prog 81 #[.agg #[.int .i64 dt, .slice A cs.length c]] w (Ret (StoreQ w 59 dt cs)) := by
  have HA := hide hA.now
  clear hA
  go_enter Tryd.func81, Tryd.ntmps81
  go_wp2_with (go_at_call 119; refine (toCellS_c _ _ cs _ hn (HA.out.below (below_a3 _ _ _ _))).mono ?_; rintro e w2 ⟨_, rfl, A2, c2, rfl, hc2, hown, hb2⟩; obtain ⟨hcell, hfr⟩ := bcell hb2; have hz := hb2.size)
  have hz' : w.heap.size + 3 ≤ w2.heap.size := by simpa using hz
  have hb3 : Below w.heap.size w w2 := (below_a3 _ _ _ _).trans (hb2.mono (by simp; omega))
  refine bodyPost_ret (v := .agg #[.int .i64 dt, .slice A2 cs.length c2]) (by simp [results, Tryd.results81, go_sem, hcell]) rfl ⟨_, rfl, A2, c2, rfl, hc2, ?_, ?_⟩
  · exact own_mono (own_low (own_low (own_low hown (by simp) _) (by simp) _) (by simp) _) (by simp; omega)
  · exact ((hb3.setCell (by simp; omega) _).setCell (by simp) _).setCell (by simp) _
/-- A copy of a heap's stores. -/
def HpQ (w : World) (eS eC : TypeId) (ss : List Sr) (v : Value) (w' : World) : Prop := ∃ A c rs, v = .slice A ss.length c ∧ ss.length ≤ c ∧ rs.map (·.2) = ss ∧ HpOwn w' eS eC w.heap.size w'.heap.size (.slice A ss.length c) rs ∧ Below w.heap.size w w'
theorem toStoreS_c {B : Nat} (A : Option Addr) (c : Nat) (rs : List (Value × Sr)) (w : World) (hn : rs.length ≤ 1048576) (hn2 : ∀ r ∈ rs, r.2.cs.length ≤ 1048576) (hA : HpAt B w A rs) :
    Calls Tryd.prog 36 #[.slice A rs.length c] w (Ret (HpQ w 56 59 (rs.map (·.2)))) := by
  obtain ⟨i0, hi, hz0, hz1, hz2⟩ := info_parts infoStore
  have hA := hA.now
  have HN2 := hide hn2
  clear hn2
  go_enter Tryd.func36, Tryd.ntmps36
  go_wp2_with (at_make; refine wpList_make_full _ rfl (.tmp 6) (.tmp 6) 34 rfl w.heap.size 56 i0 _ 2 Tryd.underlying34 hi hz0 hz1 _ _ _ _ rs.length rfl rfl rfl rfl (by rw [hz2]; omega) (by simp only [maxLen]; omega) (Nat.le_refl _) ?_; intro w1 hown hg)
  go_loopw [4] (fun i wr => ∃ qs : List (Value × Sr), qs.length ≤ rs.length ∧ i = .int .i64 qs.length ∧ qs.map (·.2) = (rs.map (·.2)).take qs.length ∧ wr.ownsRow w.heap.size 56 2 (.slice (some ⟨w.heap.size, 0, none⟩) rs.length rs.length) rs.length (svs (qs ++ List.replicate (rs.length - qs.length) srZ)) ∧ (∀ q ∈ qs, wr.ownsRow (w.heap.size + 1) 59 3 q.1 q.2.cs.length (cvs q.2.cs)) ∧ Hid (qs.Pairwise (fun a b => ∀ g, a.1.ownBlock = some g → b.1.ownBlock ≠ some g)) ∧ Below w.heap.size w wr) (fun i _ => rs.length - (intOf i).toNat)
  case atStart =>
    refine ⟨[], Nat.zero_le _, rfl, rfl, ?_, fun q hq => by simp at hq, List.Pairwise.nil, (Below.refl _ _).grown hg (Nat.le_refl _) (by simp)⟩
    simp only [List.nil_append, List.length_nil, Nat.sub_zero]
    rw [← svs_zeros]
    exact hown
  case round =>
    obtain ⟨qs, hk, rfl, hqs, hown, hrows, HPW, hb⟩ := hrel
    have HROWS := hide hrows
    have HQS := hide hqs
    clear hrows hqs
    by_cases hlt : qs.length < rs.length
    · have hB := hb.size
      have hB1 := (own_block hown).2
      obtain ⟨b, o, A', c', rfl, hbl, h0, h1, hc', hA'⟩ := (hA.below hb).at_ hlt
      have HA' := hide hA'
      clear hA'
      have hlen : rs[qs.length].2.cs.length ≤ 1048576 := HN2.out _ (List.getElem_mem hlt)
      go_wp2_with (go_at_call 81; refine (toStore_c _ _ _ rs[qs.length].2.cs _ hlen HA'.out).mono ?_; rintro e w2 ⟨_, rfl, A2, c2, rfl, hc2, hown3, hb2⟩; have hown2 := own_below hown hb2 (Nat.le_refl _); obtain ⟨v0, q0⟩ := own_has hown2 (qs.length * 2) (by omega); obtain ⟨v1, q1⟩ := own_has hown2 (qs.length * 2 + 1) (by omega); have q3 := own_frozen hown2; have hbz := below_go hb hb2 hB)
      go_roundw
      case rel =>
        refine ⟨qs ++ [(.slice A2 rs[qs.length].2.cs.length c2, rs[qs.length].2)], by simp; omega, by simp, ?_, ?_, ?_, hide ?_, (hbz.setCell (p := ⟨w.heap.size, _, none⟩) (Nat.le_refl _) _).setCell (p := ⟨w.heap.size, _, none⟩) (Nat.le_refl _) _⟩
        · rw [List.map_append, HQS.out, List.length_append, List.length_cons, List.length_nil, List.take_succ_eq_append_getElem (by simpa using hlt)]
          simp
        · have := own_set_sr hown2 (k := qs.length) (by simp; omega) (.slice A2 rs[qs.length].2.cs.length c2, rs[qs.length].2)
          rw [snoc_fill qs _ _ _ hlt] at this
          rw [List.length_append, List.length_cons, List.length_nil]
          exact this
        · intro q hq
          rcases List.mem_append.1 hq with hq | hq
          · exact own_low (own_low (own_below (HROWS.out q hq) hb2 (Nat.le_refl _)) (by simp) _) (by simp) _
          · simp only [List.mem_cons, List.not_mem_nil, or_false] at hq
            subst hq
            exact own_low (own_low (own_mono hown3 (by omega)) (by simp) _) (by simp) _
        · rw [List.pairwise_append]
          refine ⟨HPW.out, List.pairwise_singleton _ _, fun a ha b hb' g hg hg' => ?_⟩
          simp only [List.mem_cons, List.not_mem_nil, or_false] at hb'
          subst hb'
          have e1 := ((HROWS.out a ha).lt g hg).2
          have e2 := (hown3.lt g hg').1
          omega
      case measure => simp [intOf]; omega
    · have hkk : qs.length = rs.length := by omega
      have HK := hide hkk
      clear hkk
      go_wp2
      go_ret
      refine ⟨_, rfl, some ⟨w.heap.size, 0, none⟩, rs.length, qs, by simp, by simp, ?_, ?_, hb⟩
      · rw [HQS.out, HK.out, List.take_of_length_le (by simp)]
      · rw [HK.out] at hown
        simp only [Nat.sub_self, List.replicate_zero, List.append_nil] at hown
        have hl := hown.lt
        refine ⟨by rw [HK.out]; simpa using hown, fun g hg => (hl g (by simpa using hg)).2, fun r hr => ?_, HPW.out⟩
        have := HROWS.out r hr
        exact ⟨own_mono this (by omega), fun g hg => (this.lt g hg).2⟩
def HeapQ (w : World) (eS eC : TypeId) (ss : List Sr) (v : Value) (w' : World) : Prop := ∃ A c rs, v = .agg #[.slice A ss.length c] ∧ ss.length ≤ c ∧ rs.map (·.2) = ss ∧ HpOwn w' eS eC w.heap.size w'.heap.size (.slice A ss.length c) rs ∧ Below w.heap.size w w'
theorem toHeap_c {B : Nat} (A : Option Addr) (c : Nat) (rs : List (Value × Sr)) (w : World) (hn : rs.length ≤ 1048576) (hn2 : ∀ r ∈ rs, r.2.cs.length ≤ 1048576) (hA : HpAt B w A rs) :
    Calls Tryd.prog 9 #[.agg #[.slice A rs.length c]] w (Ret (HeapQ w 56 59 (rs.map (·.2)))) := by
  have HA := hide hA.now
  have HN2 := hide hn2
  clear hA hn2
  go_enter Tryd.func9, Tryd.ntmps9
  go_wp2_with (go_at_call 36; refine (toStoreS_c _ _ rs _ hn HN2.out (HA.out.below (below_a3 _ _ _ _))).mono ?_; rintro e w2 ⟨_, rfl, A2, c2, qs, rfl, hc2, hqs, hown, hb2⟩; obtain ⟨hcell, hfr⟩ := bcell hb2; have hz := hb2.size; have HQ := hide hqs; clear hqs)
  have hz' : w.heap.size + 3 ≤ w2.heap.size := by simpa using hz
  have hb3 : Below w.heap.size w w2 := (below_a3 _ _ _ _).trans (hb2.mono (by simp; omega))
  refine bodyPost_ret (v := .agg #[.slice A2 (rs.map (·.2)).length c2]) (by simp [results, Tryd.results9, go_sem, hcell]) rfl ⟨_, rfl, A2, c2, qs, rfl, hc2, HQ.out, ?_, ?_⟩
  · exact ((hown.low (p := ⟨w.heap.size + 1 + 1, 0, none⟩) (by simp) _).low (p := ⟨w.heap.size + 1, 0, none⟩) (by simp) _).mono (by simp; omega) (by simp)
  · exact (hb3.setCell (by simp; omega) _).setCell (by simp) _
/-- A copy of a view. -/
def VwQ (w : World) (e : TypeId) (V : Vw) (v : Value) (w' : World) : Prop := ∃ A1 c1 A2 c2, v = .agg #[.slice A1 V.sh.length c1, .slice A2 V.st.length c2, .int .i64 V.off] ∧ V.sh.length ≤ c1 ∧ V.st.length ≤ c2 ∧
  w'.ownsRow w.heap.size e 1 (.slice A1 V.sh.length c1) V.sh.length (ivs V.sh) ∧ w'.ownsRow w.heap.size e 1 (.slice A2 V.st.length c2) V.st.length (ivs V.st) ∧ (∀ g, (Value.slice A1 V.sh.length c1).ownBlock = some g → (Value.slice A2 V.st.length c2).ownBlock ≠ some g) ∧ Below w.heap.size w w'
theorem toView_c {B : Nat} (A1 A2 : Option Addr) (c1 c2 : Nat) (V : Vw) (w : World) (hn1 : V.sh.length ≤ 1048576) (hn2 : V.st.length ≤ 1048576) (h1 : AtB B w A1 (ivs V.sh)) (h2 : AtB B w A2 (ivs V.st)) :
    Calls Tryd.prog 37 #[.agg #[.slice A1 V.sh.length c1, .slice A2 V.st.length c2, .int .i64 V.off]] w (Ret (VwQ w 2 V)) := by
  obtain ⟨sh, st, off⟩ := V
  dsimp only at hn1 hn2 h1 h2 ⊢
  have H1 := hide h1.now
  have H2 := hide h2.now
  clear h1 h2
  go_enter Tryd.func37, Tryd.ntmps37
  go_wp2_with (first
    | (go_at_call_of 82 (Value.slice A1 sh.length c1); refine (toInt64S_c _ _ sh _ hn1 (H1.out.below (below_a3 _ _ _ _))).mono ?_; rintro e w2 ⟨_, rfl, A3, c3, rfl, hc3, hown, hb2⟩; obtain ⟨hcell, hfr⟩ := bcell hb2; have hz := hb2.size; have hz' : w.heap.size + 3 ≤ w2.heap.size := (by simpa using hz))
    | (go_at_call_of 82 (Value.slice A2 st.length c2); refine (toInt64S_c _ _ st _ hn2 ((H2.out.below ((below_a3 _ _ _ _).trans (hb2.mono (by simp; omega)))).below (Below.setCell (Below.refl _ _) (by simp; omega) _))).mono ?_; rintro e w3 ⟨_, rfl, A4, c4, rfl, hc4, hown4, hb4⟩; obtain ⟨hcell4, hfr4⟩ := bcell hb4; have g0 := hcell4 w.heap.size 2 (by simp; omega); have g1 := hcell4 (w.heap.size + 1 + 1) 1 (by simp; omega); have g2 := hcell4 (w.heap.size + 1 + 1) 2 (by simp; omega); have g3 := hcell4 (w.heap.size + 1 + 1) 0 (by simp; omega); have g4 := fun o => hfr4 (w.heap.size + 1 + 1) o (by simp; omega); have g5 := fun o => hfr4 (w.heap.size + 1) o (by simp; omega); have g6 := fun o => hcell4 (w.heap.size + 1) o (by simp; omega)))
  have hb0 : Below w.heap.size w w2 := (below_a3 _ _ _ _).trans (hb2.mono (by simp; omega))
  have hb1 : Below w.heap.size w w3 := (hb0.setCell (p := ⟨w.heap.size + 1 + 1, 0, none⟩) (by simp; omega) _).trans (hb4.mono (by simp; omega))
  refine bodyPost_ret (v := .agg #[.slice A3 sh.length c3, .slice A4 st.length c4, .int .i64 off]) (by simp [results, Tryd.results37, go_sem, g6, hcell]) rfl ⟨_, rfl, A3, c3, A4, c4, rfl, hc3, hc4, ?_, ?_, ?_, ?_⟩
  · exact own_mono (own_low (own_low (own_low (own_low (own_low (own_below (own_low hown (p := ⟨w.heap.size + 1 + 1, 0, none⟩) (by simp) _) hb4 (Nat.le_refl _)) (by simp) _) (by simp) _) (by simp) _) (by simp) _) (by simp) _) (by simp; omega)
  · exact own_mono (own_low (own_low (own_low (own_low (own_low hown4 (by simp; omega) _) (by simp; omega) _) (by simp; omega) _) (by simp; omega) _) (by simp; omega) _) (by simp; omega)
  · intro g hg hg'
    have e1 := (hown.lt g hg).2
    have e2 := (hown4.lt g hg').1
    simp at e2
    omega
  · exact ((((hb1.setCell (by simp; omega) _).setCell (by simp; omega) _).setCell (by simp) _).setCell (by simp) _).setCell (by simp) _
def ArQ (w : World) (e : TypeId) (a : Ar) (v : Value) (w' : World) : Prop := ∃ A1 c1 A2 c2, v = .agg #[.int .i64 a.s, .slice A1 a.v.sh.length c1, .slice A2 a.v.st.length c2, .int .i64 a.v.off] ∧ a.v.sh.length ≤ c1 ∧ a.v.st.length ≤ c2 ∧
  w'.ownsRow w.heap.size e 1 (.slice A1 a.v.sh.length c1) a.v.sh.length (ivs a.v.sh) ∧ w'.ownsRow w.heap.size e 1 (.slice A2 a.v.st.length c2) a.v.st.length (ivs a.v.st) ∧ (∀ g, (Value.slice A1 a.v.sh.length c1).ownBlock = some g → (Value.slice A2 a.v.st.length c2).ownBlock ≠ some g) ∧ Below w.heap.size w w'
theorem toArray_c {B : Nat} (A1 A2 : Option Addr) (c1 c2 : Nat) (a : Ar) (w : World) (hn1 : a.v.sh.length ≤ 1048576) (hn2 : a.v.st.length ≤ 1048576) (h1 : AtB B w A1 (ivs a.v.sh)) (h2 : AtB B w A2 (ivs a.v.st)) :
    Calls Tryd.prog 10 #[.agg #[.int .i64 a.s, .slice A1 a.v.sh.length c1, .slice A2 a.v.st.length c2, .int .i64 a.v.off]] w (Ret (ArQ w 2 a)) := by
  obtain ⟨sn, sh, st, off⟩ := a
  dsimp only at hn1 hn2 h1 h2 ⊢
  have H1 := hide h1.now
  have H2 := hide h2.now
  clear h1 h2
  go_enter Tryd.func10, Tryd.ntmps10
  go_wp2_with (go_at_call 37; refine (toView_c _ _ _ _ ⟨sh, st, off⟩ _ hn1 hn2 (H1.out.below (below_a3 _ _ _ _)) (H2.out.below (below_a3 _ _ _ _))).mono ?_; rintro e w2 ⟨_, rfl, A3, c3, A4, c4, rfl, hc3, hc4, hown3, hown4, hdis, hb2⟩; dsimp only at hc3 hc4 hown3 hown4 hdis ⊢; have HD := hide hdis; clear hdis; obtain ⟨hcell, hfr⟩ := bcell hb2; have hz := hb2.size; have hz' : w.heap.size + 3 ≤ w2.heap.size := (by simpa using hz))
  have hb1 : Below w.heap.size w w2 := (below_a3 _ _ _ _).trans (hb2.mono (by simp; omega))
  refine bodyPost_ret (v := .agg #[.int .i64 sn, .slice A3 sh.length c3, .slice A4 st.length c4, .int .i64 off]) (by simp [results, Tryd.results10, go_sem, hcell]) rfl ⟨_, rfl, A3, c3, A4, c4, rfl, hc3, hc4, ?_, ?_, HD.out, ?_⟩
  · exact own_mono (own_low (own_low (own_low (own_low (own_low (own_low (own_low hown3 (by simp) _) (by simp) _) (by simp) _) (by simp) _) (by simp) _) (by simp) _) (by simp) _) (by simp; omega)
  · exact own_mono (own_low (own_low (own_low (own_low (own_low (own_low (own_low hown4 (by simp) _) (by simp) _) (by simp) _) (by simp) _) (by simp) _) (by simp) _) (by simp) _) (by simp; omega)
  · exact ((((((hb1.setCell (by simp; omega) _).setCell (by simp; omega) _).setCell (by simp; omega) _).setCell (by simp) _).setCell (by simp) _).setCell (by simp) _).setCell (by simp) _
end Go.Proofs.YtnmnkiihbopebaaDoor
