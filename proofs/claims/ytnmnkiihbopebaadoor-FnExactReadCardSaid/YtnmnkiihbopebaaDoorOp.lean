/- The law's arguments opened: rows of cells, stores, numbers. -/
import Derived.Test.YtnmnkiihbopebaaDoorEr
import Derived.Deep.Slices
import Derived.Deep.Strs
import Derived.ChangeArms
import Derived.Laws.Cover2
namespace Go.Proofs.YtnmnkiihbopebaaDoor
open Go.RowKit Go.Nd Go.ChangeShapes Go.Deep

theorem trod_fl {H : Type} {enc : TypeId × Value → H} {P : Program} {w : World} {base : Nat} {sp : Nat → Bool} {hd : Bool} {fuel : Nat} {t : TypeId} {cs : List Value} {x : DataW H × List MemPlace} {k : FloatKind} (ht : P.underlying t = some (.float k)) (h : DataW.trod enc P w base sp hd fuel t cs = some x) :
    ∃ b, cs = [.float k b] ∧ (Lit.float k b).wf = true := by
  cases fuel with
  | zero => simp [DataW.trod] at h
  | succ n =>
    unfold DataW.trod at h
    rw [ht] at h
    split at h <;> simp_all
section
variable {H : Type} {enc : TypeId × Value → H} {w : World} {sp : Nat → Bool} {hd : Bool}

theorem cellsOf2 : Tryd.prog.cellsOf 2 = 1 := by kernel_rfl
theorem cellsOfF : Tryd.prog.cellsOf 57 = 1 := by kernel_rfl
theorem cellsOfC : Tryd.prog.cellsOf 164 = 3 := by kernel_rfl
theorem cellsOfS : Tryd.prog.cellsOf 121 = 2 := by kernel_rfl
theorem cellsOfCS : Tryd.prog.cellsOf 119 = 1 := by kernel_rfl
theorem cellsOfSS : Tryd.prog.cellsOf 22 = 1 := by kernel_rfl
theorem cellsOfIS : Tryd.prog.cellsOf 25 = 1 := by kernel_rfl
theorem cellsOfV : Tryd.prog.cellsOf 27 = 3 := by kernel_rfl
theorem cellsOfA : Tryd.prog.cellsOf 29 = 4 := by kernel_rfl
theorem cellsOfH : Tryd.prog.cellsOf 24 = 1 := by kernel_rfl

set_option maxRecDepth 100000 in
theorem open_cell {n : Nat} {cs : List Value} {x : DataW H × List MemPlace} (h : DataW.trod enc Tryd.prog w 0 sp hd n 164 cs = some x) : ∃ q : Cl, cs = q.v ∧ q.wf := by
  obtain ⟨y0, y1, y2, m, rfl, hl, h0, h1, h2⟩ := trod_struct3 Tryd.underlying164 h
  rw [cellsOfC] at hl
  match cs, hl with
  | [v0, v1, v2], _ =>
    simp only [cellsOf2, cellsOfF, List.drop_zero, List.drop_succ_cons, List.take_succ_cons, List.take_zero] at h0 h1 h2
    obtain ⟨i, e0, _, _⟩ := DataW.trod_int Tryd.underlying2 h0
    obtain ⟨f, e1, w1⟩ := trod_fl Tryd.underlying57 h1
    obtain ⟨g, e2, w2⟩ := trod_fl Tryd.underlying57 h2
    simp only [List.cons.injEq, and_true] at e0 e1 e2
    subst e0 e1 e2
    simp only [Lit.wf, decide_eq_true_eq] at w1 w2
    exact ⟨⟨i, f, g⟩, rfl, w1, w2⟩

set_option maxRecDepth 100000 in
theorem open_row_of {α : Type} [Inhabited α] {E : α → List Value} {sz : Nat} {e t : TypeId} (good : α → Prop) (ht : Tryd.prog.underlying t = some (.slice e)) (hc : Tryd.prog.cellsOf e = sz) (hE : ∀ a, (E a).length = sz) (hsz : 0 < sz)
    (hel : ∀ (n : Nat) (cs : List Value) (y : DataW H × List MemPlace), DataW.trod enc Tryd.prog w 0 sp hd n e cs = some y → ∃ q : α, cs = E q ∧ good q)
    {n : Nat} {cs : List Value} {x : DataW H × List MemPlace} (h : DataW.trod enc Tryd.prog w 0 sp hd n t cs = some x) :
    ∃ A c, ∃ xs : List α, cs = [.slice A xs.length c] ∧ xs.length ≤ c ∧ c ≤ maxLen ∧ AtB w.heap.size w A (flat E xs) ∧ ∀ q ∈ xs, good q := by
  rcases open_slice ht h with ⟨rfl, rfl⟩ | ⟨a, len, cap, m, n', D, Pl, rfl, hb, hl, hm, hmm, rfl, hx⟩
  · exact ⟨none, 0, [], rfl, Nat.le_refl _, Nat.zero_le _, fun j u hu => by simp [flat] at hu, by simp⟩
  · have hlm : len ≤ m := by rw [hmm]; split <;> omega
    have hx2 : ∀ i, i < len → ∃ q : α, good q ∧ ∀ j u, (E q)[j]? = some u → w.cell? (a.add (i * sz + j)) = some u := by
      intro i hi
      obtain ⟨cs', h1, h2⟩ := hx i (by omega)
      rw [hc] at h1
      obtain ⟨q, rfl, hq⟩ := hel _ _ _ h2
      refine ⟨q, hq, fun j u hu => ?_⟩
      obtain ⟨_, hlen, hcell⟩ := World.cells?_some h1
      have hj : j < sz := by
        have := (List.getElem?_eq_some_iff.1 hu).1
        rw [hE] at this; exact this
      have := hcell j hj
      rw [hu, Addr.add_add] at this
      exact this
    obtain ⟨Q, hQ⟩ := choose_lt hx2
    refine ⟨some a, cap, (List.range len).map Q, by simp, by simpa using hl, hm, ?_, ?_⟩
    · intro j u hu
      have hjl := (List.getElem?_eq_some_iff.1 hu).1
      rw [flat_length hE] at hjl
      simp only [List.length_map, List.length_range] at hjl
      have hi : j / sz < len := by rw [Nat.div_lt_iff_lt_mul hsz]; exact hjl
      have hj : j % sz < sz := Nat.mod_lt _ hsz
      have e : j = j / sz * sz + j % sz := by rw [Nat.mul_comm]; exact (Nat.div_add_mod j sz).symm
      rw [e, flat_get hE _ (j / sz) (j % sz) (by simpa using hi) hj] at hu
      simp only [List.getElem_map, List.getElem_range] at hu
      have hc2 := (hQ (j / sz) hi).2 _ _ hu
      rw [← e] at hc2
      have h00 : 0 < len := Nat.lt_of_le_of_lt (Nat.zero_le _) hi
      obtain ⟨u0, hE0⟩ : ∃ u0, (E (Q 0))[0]? = some u0 := ⟨_, List.getElem?_eq_getElem (by rw [hE]; exact hsz)⟩
      have hc0 := (hQ 0 h00).2 0 _ hE0
      rw [Nat.zero_mul] at hc0
      have hsp := World.cell?_spot (show w.cell? a = some _ by simpa [Addr.add] using hc0)
      obtain ⟨b, o, spot⟩ := a
      dsimp only at hsp
      have hsp' : spot = none := by simpa using hsp
      subst hsp'
      rw [Addr.add_lit] at hc2
      exact ⟨b, o, rfl, cell_lt hc2, hc2⟩
    · intro q hq
      obtain ⟨i, hi, rfl⟩ := List.mem_map.1 hq
      exact (hQ i (by simpa using hi)).1
theorem open_cells {n : Nat} {cs : List Value} {x : DataW H × List MemPlace} (h : DataW.trod enc Tryd.prog w 0 sp hd n 119 cs = some x) :
    ∃ A c, ∃ xs : List Cl, cs = [.slice A xs.length c] ∧ xs.length ≤ c ∧ c ≤ maxLen ∧ AtB w.heap.size w A (cvs xs) ∧ ∀ q ∈ xs, q.wf :=
  open_row_of (E := Cl.v) Cl.wf Tryd.underlying119 cellsOfC Cl.v_length (by omega) (fun _ _ _ h => open_cell h) h
theorem open_ints {n : Nat} {cs : List Value} {x : DataW H × List MemPlace} (h : DataW.trod enc Tryd.prog w 0 sp hd n 25 cs = some x) :
    ∃ A c, ∃ xs : List Int, cs = [.slice A xs.length c] ∧ xs.length ≤ c ∧ c ≤ maxLen ∧ AtB w.heap.size w A (ivs xs) := by
  obtain ⟨A, c, xs, e, h1, h2, h3, _⟩ := open_row_of (E := fun i : Int => [Value.int .i64 i]) (fun _ => True) Tryd.underlying25 cellsOf2 (fun _ => rfl) (by omega) (fun _ _ _ h => by
    obtain ⟨i, e0, _, _⟩ := DataW.trod_int Tryd.underlying2 h
    exact ⟨i, e0, trivial⟩) h
  refine ⟨A, c, xs, e, h1, h2, ?_⟩
  rwa [flat_one_cell] at h3
instance : Inhabited (Value × Sr) := ⟨srZ⟩
set_option maxRecDepth 100000 in
theorem open_store {n : Nat} {cs : List Value} {x : DataW H × List MemPlace} (h : DataW.trod enc Tryd.prog w 0 sp hd n 121 cs = some x) : ∃ r : Value × Sr, cs = encS r ∧ (SrAt w.heap.size w r ∧ r.2.wf ∧ r.2.cs.length ≤ maxLen) := by
  obtain ⟨y0, y1, m, rfl, hl, h0, h1⟩ := trod_struct2 Tryd.underlying121 h
  rw [cellsOfS] at hl
  match cs, hl with
  | [v0, v1], _ =>
    simp only [cellsOf2, cellsOfCS, List.drop_zero, List.drop_succ_cons, List.take_succ_cons, List.take_zero] at h0 h1
    obtain ⟨i, e0, _, _⟩ := DataW.trod_int Tryd.underlying2 h0
    obtain ⟨A, c, xs, e1, hc, hm, ha, hw⟩ := open_cells h1
    simp only [List.cons.injEq, and_true] at e0 e1
    subst e0 e1
    exact ⟨(.slice A xs.length c, ⟨i, xs⟩), rfl, ⟨A, c, rfl, hc, ha⟩, hw, Nat.le_trans hc hm⟩
theorem open_stores {n : Nat} {cs : List Value} {x : DataW H × List MemPlace} (h : DataW.trod enc Tryd.prog w 0 sp hd n 22 cs = some x) :
    ∃ A c, ∃ rs : List (Value × Sr), cs = [.slice A rs.length c] ∧ rs.length ≤ maxLen ∧ HpAt w.heap.size w A rs ∧ (∀ r ∈ rs, r.2.wf) ∧ ∀ r ∈ rs, r.2.cs.length ≤ maxLen := by
  obtain ⟨A, c, xs, e, h1, h2, h3, h4⟩ := open_row_of (E := encS) (fun r => SrAt w.heap.size w r ∧ r.2.wf ∧ r.2.cs.length ≤ maxLen) Tryd.underlying22 cellsOfS encS_length (by omega) (fun _ _ _ h => open_store h) h
  exact ⟨A, c, xs, e, Nat.le_trans h1 h2, ⟨h3, fun r hr => (h4 r hr).1⟩, fun r hr => (h4 r hr).2.1, fun r hr => (h4 r hr).2.2⟩
set_option maxRecDepth 100000 in
theorem open_heap {r : Reach} {b0 : Nat} {v : Value} {d : DataW H} {ps : List MemPlace} (hv : Value.okWide Tryd.prog w r b0 24 v) (hd : DataW.Trod enc Tryd.prog w 0 sp hd 24 v d ps) :
    ∃ A c, ∃ rs : List (Value × Sr), v = .agg #[.slice A rs.length c] ∧ rs.length ≤ maxLen ∧ HpAt w.heap.size w A rs ∧ (∀ r ∈ rs, r.2.wf) ∧ ∀ r ∈ rs, r.2.cs.length ≤ maxLen := by
  unfold Value.okWide at hv
  rw [Tryd.underlying24] at hv
  obtain ⟨cs, rfl, hl, _⟩ := hv
  obtain ⟨fuel, h⟩ := hd
  obtain ⟨y0, m, _, hl2, h0⟩ := trod_struct1 Tryd.underlying24 h
  obtain ⟨cl⟩ := cs
  have hl3 : cl.length = 1 := by rw [← cellsOfH]; simpa using hl
  match cl, hl3 with
  | [v0], _ =>
    simp only [cellsOfSS, Value.cells, List.drop_zero, List.take_succ_cons, List.take_zero] at h0
    obtain ⟨A, c, rs, e, h1, h2, h3, h4⟩ := open_stores h0
    simp only [List.cons.injEq, and_true] at e
    subst e
    exact ⟨A, c, rs, rfl, h1, h2, h3, h4⟩
set_option maxRecDepth 100000 in
theorem open_array {r : Reach} {b0 : Nat} {v : Value} {d : DataW H} {ps : List MemPlace} (hv : Value.okWide Tryd.prog w r b0 29 v) (hd : DataW.Trod enc Tryd.prog w 0 sp hd 29 v d ps) :
    ∃ s A1 c1 A2 c2 off, ∃ sh st : List Int, v = .agg #[.int .i64 s, .slice A1 sh.length c1, .slice A2 st.length c2, .int .i64 off] ∧ sh.length ≤ maxLen ∧ st.length ≤ maxLen ∧ AtB w.heap.size w A1 (ivs sh) ∧ AtB w.heap.size w A2 (ivs st) := by
  unfold Value.okWide at hv
  rw [Tryd.underlying29] at hv
  obtain ⟨cs, rfl, hl, _⟩ := hv
  obtain ⟨fuel, h⟩ := hd
  obtain ⟨y0, y1, m, _, hl2, h0, h1⟩ := trod_struct2 Tryd.underlying29 h
  obtain ⟨cl⟩ := cs
  have hl3 : cl.length = 4 := by rw [← cellsOfA]; simpa using hl
  match cl, hl3 with
  | [v0, v1, v2, v3], _ =>
    simp only [cellsOf2, cellsOfV, Value.cells, List.drop_zero, List.drop_succ_cons, List.take_succ_cons, List.take_zero] at h0 h1
    obtain ⟨s, e0, _, _⟩ := DataW.trod_int Tryd.underlying2 h0
    obtain ⟨z0, z1, z2, m2, _, _, g0, g1, g2⟩ := trod_struct3 Tryd.underlying27 h1
    simp only [cellsOf2, cellsOfIS, List.drop_zero, List.drop_succ_cons, List.take_succ_cons, List.take_zero] at g0 g1 g2
    obtain ⟨A1, c1, sh, e1, ha1, hb1, hc1⟩ := open_ints g0
    obtain ⟨A2, c2, st, e2, ha2, hb2, hc2⟩ := open_ints g1
    obtain ⟨off, e3, _, _⟩ := DataW.trod_int Tryd.underlying2 g2
    simp only [List.cons.injEq, and_true] at e0 e1 e2 e3
    subst e0 e1 e2 e3
    exact ⟨s, A1, c1, A2, c2, off, sh, st, rfl, Nat.le_trans ha1 hb1, Nat.le_trans ha2 hb2, hc1, hc2⟩
end
end Go.Proofs.YtnmnkiihbopebaaDoor
