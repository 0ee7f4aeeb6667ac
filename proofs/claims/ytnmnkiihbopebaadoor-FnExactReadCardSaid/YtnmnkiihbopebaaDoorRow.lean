/- Rows of elements of a fixed number of cells: reading, owning, storing. -/
import Derived.Test.YtnmnkiihbopebaaDoorBase
namespace Go.Nd
open Go.RowKit

/-! ### lists of elements, laid flat -/
section
variable {α : Type} {enc : α → List Value} {sz : Nat}

def flat (enc : α → List Value) (xs : List α) : List Value := xs.flatMap enc

theorem flat_nil : flat enc [] = [] := rfl
theorem flat_cons (x : α) (xs : List α) : flat enc (x :: xs) = enc x ++ flat enc xs := rfl
theorem flat_append (xs ys : List α) : flat enc (xs ++ ys) = flat enc xs ++ flat enc ys := by simp [flat]
theorem flat_one (x : α) : flat enc [x] = enc x := by simp [flat]

theorem flat_length (h : ∀ a, (enc a).length = sz) (xs : List α) : (flat enc xs).length = xs.length * sz := by
  induction xs with
  | nil => simp [flat]
  | cons x xs ih => rw [flat_cons, List.length_append, ih, h, List.length_cons, Nat.succ_mul, Nat.add_comm]

theorem flat_get (h : ∀ a, (enc a).length = sz) (xs : List α) (k j : Nat) (hk : k < xs.length) (hj : j < sz) : (flat enc xs)[k * sz + j]? = (enc xs[k])[j]? := by
  induction xs generalizing k with
  | nil => simp at hk
  | cons x xs ih =>
    rw [flat_cons]
    cases k with
    | zero => rw [List.getElem?_append_left (by rw [h]; omega)]; simp
    | succ k =>
      rw [List.getElem?_append_right (by rw [h, Nat.succ_mul]; omega), h, show (k + 1) * sz + j - sz = k * sz + j from by rw [Nat.succ_mul]; omega]
      exact ih k (by simpa using hk)

theorem flat_take (h : ∀ a, (enc a).length = sz) (xs : List α) (k : Nat) : (flat enc xs).take (k * sz) = flat enc (xs.take k) := by
  induction xs generalizing k with
  | nil => simp [flat]
  | cons x xs ih =>
    cases k with
    | zero => simp [flat]
    | succ k =>
      rw [List.take_succ_cons, flat_cons, flat_cons, ← ih k, List.take_append, h, List.take_of_length_le (by rw [h, Nat.succ_mul]; omega), show (k + 1) * sz - sz = k * sz from by rw [Nat.succ_mul]; omega]

theorem flat_drop (h : ∀ a, (enc a).length = sz) (xs : List α) (k : Nat) : (flat enc xs).drop (k * sz) = flat enc (xs.drop k) := by
  induction xs generalizing k with
  | nil => simp [flat]
  | cons x xs ih =>
    cases k with
    | zero => simp [flat]
    | succ k =>
      rw [List.drop_succ_cons, flat_cons, ← ih k, List.drop_append, h, List.drop_eq_nil_of_le (by rw [h, Nat.succ_mul]; omega), show (k + 1) * sz - sz = k * sz from by rw [Nat.succ_mul]; omega, List.nil_append]

theorem flat_one_cell (f : α → Value) (xs : List α) : flat (fun x => [f x]) xs = xs.map f := by
  induction xs with
  | nil => rfl
  | cons x xs ih => rw [flat_cons, ih]; rfl

end

/-- What a list holds when its first k places have been filled. -/
theorem fill_step {α : Type} (xs : List α) (z : α) (k : Nat) (hk : k < xs.length) :
    (xs.take k ++ List.replicate (xs.length - k) z).set k xs[k] = xs.take (k + 1) ++ List.replicate (xs.length - (k + 1)) z := by
  have e : xs.length - k = (xs.length - (k + 1)) + 1 := by omega
  rw [e, List.replicate_succ, List.set_append_right _ _ (by rw [List.length_take]; omega), List.length_take, Nat.min_eq_left (by omega), Nat.sub_self]
  rw [List.take_succ_eq_append_getElem hk, List.append_assoc]
  rfl
theorem snoc_fill {α : Type} (qs : List α) (z x : α) (n : Nat) (hk : qs.length < n) : (qs ++ List.replicate (n - qs.length) z).set qs.length x = (qs ++ [x]) ++ List.replicate (n - (qs.length + 1)) z := by
  have e : n - qs.length = (n - (qs.length + 1)) + 1 := by omega
  rw [e, List.replicate_succ, List.set_append_right _ _ (by omega), Nat.sub_self, List.append_assoc]
  rfl
theorem fill_start {α : Type} (xs : List α) (z : α) : xs.take 0 ++ List.replicate (xs.length - 0) z = List.replicate xs.length z := by simp
theorem fill_end {α : Type} (xs : List α) (z : α) : xs.take xs.length ++ List.replicate (xs.length - xs.length) z = xs := by simp
theorem fill_end' {α : Type} (xs : List α) (z : α) (k : Nat) (hk : k = xs.length) : xs.take k ++ List.replicate (xs.length - k) z = xs := by subst hk; simp
theorem fill_length {α : Type} (xs : List α) (z : α) (k : Nat) (hk : k ≤ xs.length) : (xs.take k ++ List.replicate (xs.length - k) z).length = xs.length := by simp; omega

/-! ### rows of the call's own -/
section
variable {w w' : World} {base g n c : Nat} {e : TypeId} {sz : Nat} {v : Value} {cs : List Value}

theorem own_cell (h : w.ownsRow base e sz (.slice (some ⟨g, 0, none⟩) n c) n cs) {j : Nat} {u : Value} (hu : cs[j]? = some u) : w.cell? ⟨g, j, none⟩ = some u := by
  have := h.cells (g := g) rfl j u hu
  rwa [Addr.add_lit, Nat.zero_add] at this

theorem own_has (h : w.ownsRow base e sz (.slice (some ⟨g, 0, none⟩) n c) n cs) (i : Nat) (hi : i < n * sz) : ∃ u, w.cell? ⟨g, i, none⟩ = some u :=
  ⟨_, own_cell h (List.getElem?_eq_getElem (by rw [h.1]; exact hi))⟩

theorem own_frozen (h : w.ownsRow base e sz (.slice (some ⟨g, 0, none⟩) n c) n cs) (j : Nat) : w.frozen? ⟨g, j, none⟩ = false := by
  rcases h.2 with ⟨h, _⟩ | ⟨g', cap, cur, hv, _, hg, _⟩
  · simp at h
  · simp only [Value.slice.injEq, Option.some.injEq, Addr.mk.injEq, and_true, true_and] at hv
    obtain ⟨rfl, _⟩ := hv
    simp [World.frozen?, hg]

theorem own_frame (h : w.ownsRow base e sz v n cs) (hb : ∀ g, v.ownBlock = some g → w'.heap[g]? = w.heap[g]?) : w'.ownsRow base e sz v n cs := by
  refine ⟨h.1, ?_⟩
  rcases h.2 with hn | ⟨g, cap, cur, rfl, hbg, hg, rest⟩
  · exact .inl hn
  · exact .inr ⟨g, cap, cur, rfl, hbg, (hb g rfl).trans hg, rest⟩

theorem own_below {B : Nat} (h : w.ownsRow base e sz v n cs) (hb : Below B w w') (hB : w.heap.size ≤ B) : w'.ownsRow base e sz v n cs :=
  own_frame h fun g hg => hb.block g (Nat.lt_of_lt_of_le (h.lt g hg).2 hB)

theorem own_below' {B : Nat} (h : w.ownsRow base e sz v n cs) (hb : Below B w w') (hB : ∀ g, v.ownBlock = some g → g < B) : w'.ownsRow base e sz v n cs :=
  own_frame h fun g hg => hb.block g (hB g hg)

theorem own_drewN (h : w.ownsRow base e sz v n cs) (k : Nat) : (w.drewN k).ownsRow base e sz v n cs := h

theorem own_alloc (h : w.ownsRow base e sz v n cs) (o : Obj) : (w.alloc o).ownsRow base e sz v n cs := h.alloc o

theorem own_other (h : w.ownsRow base e sz v n cs) {p : Addr} (hp : v.ownBlock ≠ some p.block) (u : Value) : (w.setCell p u).ownsRow base e sz v n cs :=
  own_frame h fun g hg => Below.heap_setCell _ _ _ _ (fun e => hp (by rw [hg, e]))

theorem own_low (h : w.ownsRow base e sz v n cs) {p : Addr} (hp : p.block < base) (u : Value) : (w.setCell p u).ownsRow base e sz v n cs :=
  own_frame h fun g hg => Below.heap_setCell _ _ _ _ (by have := (h.lt g hg).1; omega)

theorem own_set (h : w.ownsRow base e sz (.slice (some ⟨g, 0, none⟩) n c) n cs) (i : Nat) (u : Value) : (w.setCell ⟨g, i, none⟩ u).ownsRow base e sz (.slice (some ⟨g, 0, none⟩) n c) n (cs.set i u) := by
  refine ⟨by rw [List.length_set]; exact h.1, ?_⟩
  rcases h.2 with ⟨h, _⟩ | ⟨g', cap, cur, hv, hbg, hg, hnc, hcm, hcs, ht⟩
  · simp at h
  · have hv' := hv
    simp only [Value.slice.injEq, Option.some.injEq, Addr.mk.injEq, and_true, true_and] at hv
    obtain ⟨rfl, rfl⟩ := hv
    refine .inr ⟨g, c, cur.setIfInBounds i u, rfl, hbg, ?_, hnc, hcm, by simpa using hcs, ?_⟩
    · simp [World.setCell, Array.getElem?_modify, hg]
    · rw [Array.toList_setIfInBounds, ← ht]
      rw [List.take_set]

theorem own_mono {base' : Nat} (h : w.ownsRow base e sz v n cs) (hb : base' ≤ base) : w.ownsRow base' e sz v n cs := by
  refine ⟨h.1, ?_⟩
  rcases h.2 with hn | ⟨g, cap, cur, rfl, hbg, rest⟩
  · exact .inl hn
  · exact .inr ⟨g, cap, cur, rfl, Nat.le_trans hb hbg, rest⟩

/-- Its value is a slice of so many elements. -/
theorem own_form (h : w.ownsRow base e sz v n cs) : ∃ A c, v = .slice A n c ∧ n ≤ c ∧ c ≤ maxLen ∧ At w A cs ∧ (∀ g, v.ownBlock = some g → A = some ⟨g, 0, none⟩) := by
  rcases h.2 with ⟨rfl, rfl⟩ | ⟨g, cap, cur, rfl, hbg, hg, hnc, hcm, hcs, ht⟩
  · have : cs = [] := List.eq_nil_of_length_eq_zero (by simpa using h.1)
    subst this
    exact ⟨none, 0, rfl, Nat.le_refl _, Nat.zero_le _, At.nil _ _, fun g hg => by simp [Value.ownBlock] at hg⟩
  · exact ⟨_, _, rfl, hnc, hcm, fun j u hu => ⟨g, 0, rfl, by rw [Nat.zero_add]; exact own_cell h hu⟩, fun g' hg' => by simp [Value.ownBlock] at hg'; subst hg'; rfl⟩

theorem own_form_pos (h : w.ownsRow base e sz v n cs) (hn : 0 < n) : ∃ g c, v = .slice (some ⟨g, 0, none⟩) n c ∧ n ≤ c ∧ c ≤ maxLen ∧ base ≤ g ∧ g < w.heap.size := by
  rcases h.2 with ⟨_, rfl⟩ | ⟨g, cap, cur, rfl, hbg, hg, hnc, hcm, hcs, ht⟩
  · omega
  · exact ⟨g, cap, rfl, hnc, hcm, hbg, (Array.getElem?_eq_some_iff.1 hg).1⟩

theorem own_block (h : w.ownsRow base e sz (.slice (some ⟨g, 0, none⟩) n c) n cs) : base ≤ g ∧ g < w.heap.size := h.lt g rfl

/-- Rows of unlike element types do not share a block. -/
theorem own_ne {base' n' : Nat} {e' : TypeId} {sz' : Nat} {v' : Value} {cs' : List Value} (h : w.ownsRow base e sz v n cs) (h' : w.ownsRow base' e' sz' v' n' cs') (hne : e ≠ e') : ∀ g, v.ownBlock = some g → v'.ownBlock ≠ some g := by
  intro g hg hg'
  rcases h.2 with ⟨rfl, _⟩ | ⟨g1, cap, cur, rfl, _, h1, _⟩
  · simp [Value.ownBlock] at hg
  · rcases h'.2 with ⟨rfl, _⟩ | ⟨g2, cap', cur', rfl, _, h2, _⟩
    · simp [Value.ownBlock] at hg'
    · simp only [Value.ownBlock, Option.some.injEq] at hg hg'
      subst hg hg'
      rw [h1] at h2
      simp only [Option.some.injEq, Obj.cells.injEq] at h2
      exact hne h2.2.1

end

/-- Only blocks from lo to hi, and what is new, have turned. -/
structure Fr (lo hi : Nat) (w w' : World) : Prop where
  os : w'.os = w.os
  tape : w'.tape = w.tape
  output : w'.output = w.output
  size : w.heap.size ≤ w'.heap.size
  block : ∀ k, k < w.heap.size → (k < lo ∨ hi ≤ k) → w'.heap[k]? = w.heap[k]?

namespace Fr
variable {lo hi : Nat} {w w' w'' : World}
theorem refl (lo hi : Nat) (w : World) : Fr lo hi w w := ⟨rfl, rfl, rfl, Nat.le_refl _, fun _ _ _ => rfl⟩
theorem trans (h : Fr lo hi w w') (k : Fr lo hi w' w'') : Fr lo hi w w'' :=
  ⟨k.os.trans h.os, k.tape.trans h.tape, k.output.trans h.output, Nat.le_trans h.size k.size, fun i hi' ho => (k.block i (Nat.lt_of_lt_of_le hi' h.size) ho).trans (h.block i hi' ho)⟩
theorem mono {lo' hi' : Nat} (h : Fr lo hi w w') (h1 : lo' ≤ lo) (h2 : hi ≤ hi') : Fr lo' hi' w w' := ⟨h.os, h.tape, h.output, h.size, fun k hk ho => h.block k hk (by omega)⟩
theorem of_below {B : Nat} (h : Below B w w') (hB : w.heap.size ≤ B) : Fr lo hi w w' := ⟨h.os, h.tape, h.output, h.size, fun k hk _ => h.block k (by omega)⟩
theorem setCell {p : Addr} (h1 : lo ≤ p.block) (h2 : p.block < hi) (u : Value) : Fr lo hi w (w.setCell p u) :=
  ⟨rfl, rfl, rfl, by simp [World.setCell], fun k _ ho => Below.heap_setCell _ _ _ _ (by omega)⟩
theorem below {B : Nat} (h : Fr lo hi w w') (hB : B ≤ lo) (hs : B ≤ w.heap.size) : Below B w w' := ⟨h.os, h.tape, h.output, h.size, fun k hk => h.block k (by omega) (by omega)⟩
theorem drewN (h : Fr lo hi w w') (n : Nat) : Fr lo hi w (w'.drewN n) := ⟨h.os, h.tape, h.output, h.size, h.block⟩
theorem own {base e sz n : Nat} {v : Value} {cs : List Value} (h : Fr lo hi w w') (ho : w.ownsRow base e sz v n cs) (hd : ∀ g, v.ownBlock = some g → g < lo ∨ hi ≤ g) : w'.ownsRow base e sz v n cs :=
  own_frame ho fun g hg => h.block g (ho.lt g hg).2 (hd g hg)
end Fr

/-! ### whole numbers -/
def vI (n : Int) : List Value := [.int .i64 n]
def ivs (xs : List Int) : List Value := xs.map (.int .i64)
theorem ivs_length (xs : List Int) : (ivs xs).length = xs.length := by simp [ivs]
theorem ivs_get (xs : List Int) (k : Nat) (hk : k < xs.length) : (ivs xs)[k]? = some (.int .i64 xs[k]) := by simp [ivs, hk]
theorem ivs_append (xs ys : List Int) : ivs (xs ++ ys) = ivs xs ++ ivs ys := by simp [ivs]
theorem ivs_set (xs : List Int) (k : Nat) (n : Int) : (ivs xs).set k (.int .i64 n) = ivs (xs.set k n) := by simp [ivs, List.map_set]
theorem ivs_one (xs : List Int) : ∀ u ∈ ivs xs, u.oneCell' = true := ints_oneCell .i64 xs

theorem at_int {B : Nat} {w : World} {A : Option Addr} {xs : List Int} (h : AtB B w A (ivs xs)) {k : Nat} (hk : k < xs.length) :
    ∃ b o, A = some ⟨b, o, none⟩ ∧ b < B ∧ w.cell? ⟨b, o + k, none⟩ = some (.int .i64 xs[k]) := h k _ (ivs_get xs k hk)

/-! ### cells -/
structure Cl where
  i : Int
  f : Nat
  g : Nat
  deriving DecidableEq, Repr, Inhabited
def Cl.v (c : Cl) : List Value := [.int .i64 c.i, .float .f64 c.f, .float .f64 c.g]
/-- The floats of a cell are words. -/
def Cl.wf (c : Cl) : Prop := c.f < 2 ^ 64 ∧ c.g < 2 ^ 64
def Cl.z : Cl := ⟨0, 0, 0⟩
def Cl.agg (c : Cl) : Value := .agg #[.int .i64 c.i, .float .f64 c.f, .float .f64 c.g]
def cvs (cs : List Cl) : List Value := flat Cl.v cs
theorem Cl.v_length (c : Cl) : c.v.length = 3 := rfl
theorem cvs_length (cs : List Cl) : (cvs cs).length = cs.length * 3 := flat_length Cl.v_length cs
theorem cvs_get0 (cs : List Cl) (k : Nat) (hk : k < cs.length) : (cvs cs)[k * 3]? = some (.int .i64 cs[k].i) := flat_get Cl.v_length cs k 0 hk (by omega)
theorem cvs_get1 (cs : List Cl) (k : Nat) (hk : k < cs.length) : (cvs cs)[k * 3 + 1]? = some (.float .f64 cs[k].f) := flat_get Cl.v_length cs k 1 hk (by omega)
theorem cvs_get2 (cs : List Cl) (k : Nat) (hk : k < cs.length) : (cvs cs)[k * 3 + 2]? = some (.float .f64 cs[k].g) := flat_get Cl.v_length cs k 2 hk (by omega)
theorem cvs_append (xs ys : List Cl) : cvs (xs ++ ys) = cvs xs ++ cvs ys := flat_append xs ys
theorem cvs_one (cs : List Cl) : ∀ u ∈ cvs cs, u.oneCell' = true := by
  intro u hu
  obtain ⟨c, _, hc⟩ := List.mem_flatMap.1 hu
  simp only [Cl.v, List.mem_cons, List.not_mem_nil, or_false] at hc
  rcases hc with rfl | rfl | rfl <;> rfl

theorem cvs_set (cs : List Cl) (k : Nat) (hk : k < cs.length) (c : Cl) :
    (((cvs cs).set (k * 3) (.int .i64 c.i)).set (k * 3 + 1) (.float .f64 c.f)).set (k * 3 + 2) (.float .f64 c.g) = cvs (cs.set k c) := by
  induction cs generalizing k with
  | nil => simp at hk
  | cons x xs ih =>
    cases k with
    | zero => rfl
    | succ k =>
      have e1 : (k + 1) * 3 = k * 3 + 1 + 1 + 1 := by omega
      rw [e1]
      show [_, _, _] ++ (((cvs xs).set (k * 3) _).set (k * 3 + 1) _).set (k * 3 + 2) _ = [_, _, _] ++ cvs (xs.set k c)
      rw [ih k (by simpa using hk)]

theorem cvs_zeros (n : Nat) : (madeCells (Value.agg #[.int .i64 0, .float .f64 0, .float .f64 0]).cells (n * 3)).toList = cvs (List.replicate n Cl.z) := by
  apply List.ext_getElem?
  intro i
  rw [Array.getElem?_toList]
  rcases Nat.lt_or_ge i (n * 3) with h | h
  · have h3 : i / 3 < n := by omega
    have e : i = i / 3 * 3 + i % 3 := by omega
    have hm : i % 3 < 3 := by omega
    have hr : i / 3 < (List.replicate n Cl.z).length := by simpa using h3
    rw [show (cvs (List.replicate n Cl.z))[i]? = (cvs (List.replicate n Cl.z))[i / 3 * 3 + i % 3]? from congrArg _ e]
    rw [show cvs (List.replicate n Cl.z) = flat Cl.v (List.replicate n Cl.z) from rfl, flat_get Cl.v_length _ (i / 3) (i % 3) hr hm, List.getElem_replicate]
    simp only [madeCells, Value.cells]
    rw [Array.getElem?_map, Array.getElem?_range, if_pos h]
    rcases (show i % 3 = 0 ∨ i % 3 = 1 ∨ i % 3 = 2 by omega) with hh | hh | hh <;> simp [hh, Cl.v, Cl.z]
  · rw [Array.getElem?_eq_none (by simp [size_madeCells]; omega), List.getElem?_eq_none (by rw [cvs_length]; simp; omega)]

theorem at_cl {B : Nat} {w : World} {A : Option Addr} {cs : List Cl} (h : AtB B w A (cvs cs)) {k : Nat} (hk : k < cs.length) :
    ∃ b o, A = some ⟨b, o, none⟩ ∧ b < B ∧ w.cell? ⟨b, o + k * 3, none⟩ = some (.int .i64 cs[k].i) ∧ w.cell? ⟨b, o + k * 3 + 1, none⟩ = some (.float .f64 cs[k].f) ∧ w.cell? ⟨b, o + k * 3 + 2, none⟩ = some (.float .f64 cs[k].g) := by
  obtain ⟨b, o, rfl, hl, h0⟩ := h _ _ (cvs_get0 cs k hk)
  obtain ⟨b1, o1, e1, _, h1⟩ := h _ _ (cvs_get1 cs k hk)
  obtain ⟨b2, o2, e2, _, h2⟩ := h _ _ (cvs_get2 cs k hk)
  simp only [Option.some.injEq, Addr.mk.injEq, and_true] at e1 e2
  obtain ⟨rfl, rfl⟩ := e1
  obtain ⟨rfl, rfl⟩ := e2
  exact ⟨b, o, rfl, hl, h0, by rw [Nat.add_assoc]; exact h1, by rw [Nat.add_assoc]; exact h2⟩

theorem own_cl {w : World} {base g n c e : Nat} {cs : List Cl} (h : w.ownsRow base e 3 (.slice (some ⟨g, 0, none⟩) n c) n (cvs cs)) {k : Nat} (hk : k < cs.length) :
    w.cell? ⟨g, k * 3, none⟩ = some (.int .i64 cs[k].i) ∧ w.cell? ⟨g, k * 3 + 1, none⟩ = some (.float .f64 cs[k].f) ∧ w.cell? ⟨g, k * 3 + 2, none⟩ = some (.float .f64 cs[k].g) :=
  ⟨own_cell h (cvs_get0 cs k hk), own_cell h (cvs_get1 cs k hk), own_cell h (cvs_get2 cs k hk)⟩

theorem own_set_cl {w : World} {base g n c e : Nat} {cs : List Cl} (h : w.ownsRow base e 3 (.slice (some ⟨g, 0, none⟩) n c) n (cvs cs)) {k : Nat} (hk : k < cs.length) (x : Cl) :
    (((w.setCell ⟨g, k * 3, none⟩ (.int .i64 x.i)).setCell ⟨g, k * 3 + 1, none⟩ (.float .f64 x.f)).setCell ⟨g, k * 3 + 2, none⟩ (.float .f64 x.g)).ownsRow base e 3 (.slice (some ⟨g, 0, none⟩) n c) n (cvs (cs.set k x)) := by
  have := own_set (own_set (own_set h (k * 3) (.int .i64 x.i)) (k * 3 + 1) (.float .f64 x.f)) (k * 3 + 2) (.float .f64 x.g)
  rwa [cvs_set cs k hk] at this


/-! ### stores: a dtype and a slice of cells, two cells each -/
structure Sr where
  dt : Int
  cs : List Cl
structure Vw where
  sh : List Int
  st : List Int
  off : Int
structure Ar where
  s : Int
  v : Vw
def Sr.wf (s : Sr) : Prop := ∀ c ∈ s.cs, c.wf
/-- An element as it lies: the slice's value, and what it reads as. -/
def encS (r : Value × Sr) : List Value := [.int .i64 r.2.dt, r.1]
theorem encS_length (r : Value × Sr) : (encS r).length = 2 := rfl
def svs (rs : List (Value × Sr)) : List Value := flat encS rs
theorem svs_length (rs : List (Value × Sr)) : (svs rs).length = rs.length * 2 := flat_length encS_length rs
theorem svs_get0 (rs : List (Value × Sr)) (k : Nat) (hk : k < rs.length) : (svs rs)[k * 2]? = some (.int .i64 rs[k].2.dt) := flat_get encS_length rs k 0 hk (by omega)
theorem svs_get1 (rs : List (Value × Sr)) (k : Nat) (hk : k < rs.length) : (svs rs)[k * 2 + 1]? = some rs[k].1 := flat_get encS_length rs k 1 hk (by omega)
theorem svs_append (xs ys : List (Value × Sr)) : svs (xs ++ ys) = svs xs ++ svs ys := flat_append xs ys
theorem svs_set (rs : List (Value × Sr)) (k : Nat) (hk : k < rs.length) (r : Value × Sr) : ((svs rs).set (k * 2) (.int .i64 r.2.dt)).set (k * 2 + 1) r.1 = svs (rs.set k r) := by
  induction rs generalizing k with
  | nil => simp at hk
  | cons x xs ih =>
    cases k with
    | zero => rfl
    | succ k =>
      have e1 : (k + 1) * 2 = k * 2 + 1 + 1 := by omega
      rw [e1]
      show [_, _] ++ ((svs xs).set (k * 2) _).set (k * 2 + 1) _ = [_, _] ++ svs (xs.set k r)
      rw [ih k (by simpa using hk)]
def srZ : Value × Sr := (.slice none 0 0, ⟨0, []⟩)
theorem svs_zeros (n : Nat) : (madeCells (Value.agg #[.int .i64 0, .slice none 0 0]).cells (n * 2)).toList = svs (List.replicate n srZ) := by
  apply List.ext_getElem?
  intro i
  rw [Array.getElem?_toList]
  rcases Nat.lt_or_ge i (n * 2) with h | h
  · have h3 : i / 2 < n := by omega
    have e : i = i / 2 * 2 + i % 2 := by omega
    have hm : i % 2 < 2 := by omega
    have hr : i / 2 < (List.replicate n srZ).length := by simpa using h3
    rw [show (svs (List.replicate n srZ))[i]? = (svs (List.replicate n srZ))[i / 2 * 2 + i % 2]? from congrArg _ e]
    rw [show svs (List.replicate n srZ) = flat encS (List.replicate n srZ) from rfl, flat_get encS_length _ (i / 2) (i % 2) hr hm, List.getElem_replicate]
    simp only [madeCells, Value.cells]
    rw [Array.getElem?_map, Array.getElem?_range, if_pos h]
    rcases (show i % 2 = 0 ∨ i % 2 = 1 by omega) with hh | hh <;> simp [hh, encS, srZ]
  · rw [Array.getElem?_eq_none (by simp [size_madeCells]; omega), List.getElem?_eq_none (by rw [svs_length]; simp; omega)]

/-- The element's slice reads as its cells. -/
def SrAt (B : Nat) (w : World) (r : Value × Sr) : Prop := ∃ A c, r.1 = .slice A r.2.cs.length c ∧ r.2.cs.length ≤ c ∧ AtB B w A (cvs r.2.cs)
/-- A slice of stores reads. -/
def HpAt (B : Nat) (w : World) (A : Option Addr) (rs : List (Value × Sr)) : Prop := AtB B w A (svs rs) ∧ ∀ r ∈ rs, SrAt B w r
theorem AtB.now {B : Nat} {w : World} {A : Option Addr} {cs : List Value} (h : AtB B w A cs) : AtB w.heap.size w A cs := h.at_.toB
theorem SrAt.below {B : Nat} {w w' : World} {r : Value × Sr} (h : SrAt B w r) (hb : Below B w w') : SrAt B w' r := by
  obtain ⟨A, c, e, hc, ha⟩ := h
  exact ⟨A, c, e, hc, ha.below hb⟩
theorem SrAt.mono {B B' : Nat} {w : World} {r : Value × Sr} (h : SrAt B w r) (hb : B ≤ B') : SrAt B' w r := by
  obtain ⟨A, c, e, hc, ha⟩ := h
  exact ⟨A, c, e, hc, ha.mono hb⟩
theorem SrAt.now {B : Nat} {w : World} {r : Value × Sr} (h : SrAt B w r) : SrAt w.heap.size w r := by
  obtain ⟨A, c, e, hc, ha⟩ := h
  exact ⟨A, c, e, hc, ha.now⟩
theorem HpAt.below {B : Nat} {w w' : World} {A : Option Addr} {rs : List (Value × Sr)} (h : HpAt B w A rs) (hb : Below B w w') : HpAt B w' A rs :=
  ⟨h.1.below hb, fun r hr => (h.2 r hr).below hb⟩
theorem HpAt.mono {B B' : Nat} {w : World} {A : Option Addr} {rs : List (Value × Sr)} (h : HpAt B w A rs) (hb : B ≤ B') : HpAt B' w A rs :=
  ⟨h.1.mono hb, fun r hr => (h.2 r hr).mono hb⟩
theorem HpAt.now {B : Nat} {w : World} {A : Option Addr} {rs : List (Value × Sr)} (h : HpAt B w A rs) : HpAt w.heap.size w A rs :=
  ⟨h.1.now, fun r hr => (h.2 r hr).now⟩
theorem HpAt.at_ {B : Nat} {w : World} {A : Option Addr} {rs : List (Value × Sr)} (h : HpAt B w A rs) {k : Nat} (hk : k < rs.length) :
    ∃ b o A' c', A = some ⟨b, o, none⟩ ∧ b < B ∧ w.cell? ⟨b, o + k * 2, none⟩ = some (.int .i64 rs[k].2.dt) ∧ w.cell? ⟨b, o + k * 2 + 1, none⟩ = some (.slice A' rs[k].2.cs.length c') ∧ rs[k].2.cs.length ≤ c' ∧ AtB B w A' (cvs rs[k].2.cs) := by
  obtain ⟨b, o, rfl, hl, h0⟩ := h.1 _ _ (svs_get0 rs k hk)
  obtain ⟨b1, o1, e1, _, h1⟩ := h.1 _ _ (svs_get1 rs k hk)
  simp only [Option.some.injEq, Addr.mk.injEq, and_true] at e1
  obtain ⟨rfl, rfl⟩ := e1
  obtain ⟨A', c', e, hc, ha⟩ := h.2 _ (List.getElem_mem hk)
  rw [e] at h1
  exact ⟨b, o, A', c', rfl, hl, h0, by rw [Nat.add_assoc]; exact h1, hc, ha⟩

/-- A slice of stores of the call's own: the row, and each store's row; all in blocks from lo on, below hi. -/
def HpOwn (w : World) (eS eC : TypeId) (lo hi : Nat) (v : Value) (rs : List (Value × Sr)) : Prop :=
  w.ownsRow lo eS 2 v rs.length (svs rs) ∧ (∀ g, v.ownBlock = some g → g < hi) ∧ (∀ r ∈ rs, w.ownsRow lo eC 3 r.1 r.2.cs.length (cvs r.2.cs) ∧ ∀ g, r.1.ownBlock = some g → g < hi) ∧ rs.Pairwise (fun a b => ∀ g, a.1.ownBlock = some g → b.1.ownBlock ≠ some g)
theorem HpOwn.frame {w w' : World} {eS eC : TypeId} {lo hi : Nat} {v : Value} {rs : List (Value × Sr)} (h : HpOwn w eS eC lo hi v rs) (hb : ∀ g, lo ≤ g → g < hi → w'.heap[g]? = w.heap[g]?) : HpOwn w' eS eC lo hi v rs :=
  ⟨own_frame h.1 fun g hg => hb g (h.1.lt g hg).1 (h.2.1 g hg), h.2.1, fun r hr => ⟨own_frame (h.2.2.1 r hr).1 fun g hg => hb g ((h.2.2.1 r hr).1.lt g hg).1 ((h.2.2.1 r hr).2 g hg), (h.2.2.1 r hr).2⟩, h.2.2.2⟩
theorem HpOwn.below {B : Nat} {w w' : World} {eS eC : TypeId} {lo hi : Nat} {v : Value} {rs : List (Value × Sr)} (h : HpOwn w eS eC lo hi v rs) (hb : Below B w w') (hB : hi ≤ B) : HpOwn w' eS eC lo hi v rs :=
  h.frame fun g _ hg => hb.block g (by omega)
theorem HpOwn.at_ {w : World} {eS eC : TypeId} {lo hi : Nat} {v : Value} {rs : List (Value × Sr)} (h : HpOwn w eS eC lo hi v rs) : ∃ A c, v = .slice A rs.length c ∧ rs.length ≤ c ∧ HpAt hi w A rs := by
  obtain ⟨A, c, e, hc, _, ha, hg⟩ := own_form h.1
  refine ⟨A, c, e, hc, ?_, fun r hr => ?_⟩
  · intro j u hu
    obtain ⟨b, o, e1, hcell⟩ := ha j u hu
    subst e1
    have : v.ownBlock = some b := by rw [e]; rfl
    exact ⟨b, o, rfl, h.2.1 b this, hcell⟩
  · obtain ⟨A', c', e', hc', _, ha', _⟩ := own_form (h.2.2.1 r hr).1
    refine ⟨A', c', e', hc', fun j u hu => ?_⟩
    obtain ⟨b, o, e1, hcell⟩ := ha' j u hu
    subst e1
    exact ⟨b, o, rfl, (h.2.2.1 r hr).2 b (by rw [e']; rfl), hcell⟩

/-- A row of the call's own reads, below hi. -/
theorem own_atB {w : World} {base e sz n hi : Nat} {v : Value} {cs : List Value} (h : w.ownsRow base e sz v n cs) (hlt : ∀ g, v.ownBlock = some g → g < hi) : ∃ A c, v = .slice A n c ∧ n ≤ c ∧ AtB hi w A cs := by
  obtain ⟨A, c, e, hc, _, ha, _⟩ := own_form h
  refine ⟨A, c, e, hc, fun j u hu => ?_⟩
  obtain ⟨b, o, e1, hcell⟩ := ha j u hu
  subst e1
  exact ⟨b, o, rfl, hlt b (by rw [e]; rfl), hcell⟩

theorem own_set_sr {w : World} {base g n c e : Nat} {rs : List (Value × Sr)} (h : w.ownsRow base e 2 (.slice (some ⟨g, 0, none⟩) n c) n (svs rs)) {k : Nat} (hk : k < rs.length) (r : Value × Sr) :
    ((w.setCell ⟨g, k * 2, none⟩ (.int .i64 r.2.dt)).setCell ⟨g, k * 2 + 1, none⟩ r.1).ownsRow base e 2 (.slice (some ⟨g, 0, none⟩) n c) n (svs (rs.set k r)) := by
  have := own_set (own_set h (k * 2) (.int .i64 r.2.dt)) (k * 2 + 1) r.1
  rwa [svs_set rs k hk] at this
theorem own_sr {w : World} {base g n c e : Nat} {rs : List (Value × Sr)} (h : w.ownsRow base e 2 (.slice (some ⟨g, 0, none⟩) n c) n (svs rs)) {k : Nat} (hk : k < rs.length) :
    w.cell? ⟨g, k * 2, none⟩ = some (.int .i64 rs[k].2.dt) ∧ w.cell? ⟨g, k * 2 + 1, none⟩ = some rs[k].1 :=
  ⟨own_cell h (svs_get0 rs k hk), own_cell h (svs_get1 rs k hk)⟩

theorem ivs_zeros (n : Nat) : (madeCells (Value.int .i64 0).cells (n * 1)).toList = ivs (List.replicate n 0) := by
  apply List.ext_getElem?
  intro i
  rw [Array.getElem?_toList, Nat.mul_one]
  simp only [madeCells, Value.cells, ivs, List.map_replicate]
  rw [Array.getElem?_map, Array.getElem?_range]
  by_cases h : i < n
  · simp [h, Nat.mod_one]
  · simp [h]
theorem own_set_int {w : World} {base g n c e : Nat} {xs : List Int} (h : w.ownsRow base e 1 (.slice (some ⟨g, 0, none⟩) n c) n (ivs xs)) (k : Nat) (x : Int) :
    (w.setCell ⟨g, k, none⟩ (.int .i64 x)).ownsRow base e 1 (.slice (some ⟨g, 0, none⟩) n c) n (ivs (xs.set k x)) := by
  have := own_set h k (.int .i64 x)
  rwa [ivs_set] at this

/-- .. kept over stores below its blocks. -/
theorem HpOwn.low {w : World} {eS eC : TypeId} {lo hi : Nat} {v : Value} {rs : List (Value × Sr)} (h : HpOwn w eS eC lo hi v rs) {p : Addr} (hp : p.block < lo) (u : Value) : HpOwn (w.setCell p u) eS eC lo hi v rs :=
  h.frame fun g hg _ => Below.heap_setCell _ _ _ _ (by omega)
theorem HpOwn.mono {w : World} {eS eC : TypeId} {lo hi lo' hi' : Nat} {v : Value} {rs : List (Value × Sr)} (h : HpOwn w eS eC lo hi v rs) (h1 : lo' ≤ lo) (h2 : hi ≤ hi') : HpOwn w eS eC lo' hi' v rs :=
  ⟨own_mono h.1 h1, fun g hg => Nat.lt_of_lt_of_le (h.2.1 g hg) h2, fun r hr => ⟨own_mono (h.2.2.1 r hr).1 h1, fun g hg => Nat.lt_of_lt_of_le ((h.2.2.1 r hr).2 g hg) h2⟩, h.2.2.2⟩


theorem HpOwn.ne {w : World} {eS eC : TypeId} {lo hi : Nat} {v : Value} {rs : List (Value × Sr)} (h : HpOwn w eS eC lo hi v rs) {i j : Nat} (hi' : i < rs.length) (hj : j < rs.length) (hij : i ≠ j) : ∀ g, rs[i].1.ownBlock = some g → rs[j].1.ownBlock ≠ some g := by
  have hp := List.pairwise_iff_getElem.1 h.2.2.2
  intro g hg hg'
  rcases Nat.lt_or_gt_of_ne hij with h1 | h1
  · exact hp i j hi' hj h1 g hg hg'
  · exact hp j i hj hi' h1 g hg' hg

/-- One store turned: its dtype's cell, its cells' row; all other blocks as they were. -/
theorem HpOwn.upd {w w' : World} {eS eC : TypeId} {lo hi : Nat} {v : Value} {rs : List (Value × Sr)} (h : HpOwn w eS eC lo hi v rs) (hne : eS ≠ eC) {k : Nat} (hk : k < rs.length) (s' : Sr)
    (hrow : w'.ownsRow lo eS 2 v rs.length (svs (rs.set k (rs[k].1, s')))) (hcells : w'.ownsRow lo eC 3 rs[k].1 s'.cs.length (cvs s'.cs))
    (ho : ∀ g, g < w.heap.size → v.ownBlock ≠ some g → rs[k].1.ownBlock ≠ some g → w'.heap[g]? = w.heap[g]?) : HpOwn w' eS eC lo hi v (rs.set k (rs[k].1, s')) := by
  refine ⟨by rw [List.length_set]; exact hrow, h.2.1, fun r hr => ?_, ?_⟩
  · obtain ⟨j, hj, rfl⟩ := List.getElem_of_mem hr
    rw [List.length_set] at hj
    rw [List.getElem_set]
    by_cases hkj : k = j
    · subst hkj
      rw [if_pos rfl]
      exact ⟨hcells, (h.2.2.1 _ (List.getElem_mem hk)).2⟩
    · rw [if_neg hkj]
      have hj' := h.2.2.1 _ (List.getElem_mem hj)
      refine ⟨own_frame hj'.1 fun g hg => ho g (hj'.1.lt g hg).2 (fun hv => ?_) (h.ne hj hk (Ne.symm hkj) g hg), hj'.2⟩
      exact own_ne h.1 hj'.1 hne g hv hg
  · rw [List.pairwise_iff_getElem]
    intro i j hi' hj hij g hg
    rw [List.length_set] at hi' hj
    rw [List.getElem_set] at hg ⊢
    have e1 : (if k = i then (rs[k].1, s') else rs[i]).1 = rs[i].1 := by
      split
      · rename_i e; subst e; rfl
      · rfl
    have e2 : (if k = j then (rs[k].1, s') else rs[j]).1 = rs[j].1 := by
      split
      · rename_i e; subst e; rfl
      · rfl
    rw [e1] at hg
    rw [e2]
    exact h.ne hi' hj (by omega) g hg


theorem own_base {w : World} {base base' : Nat} {e sz n : Nat} {v : Value} {cs : List Value} (h : w.ownsRow base e sz v n cs) (hb : ∀ g, v.ownBlock = some g → base' ≤ g) : w.ownsRow base' e sz v n cs := by
  refine ⟨h.1, ?_⟩
  rcases h.2 with hn | ⟨g, cap, cur, rfl, _, rest⟩
  · exact .inl hn
  · exact .inr ⟨g, cap, cur, rfl, hb g rfl, rest⟩
/-- The one block of a row's value, as bounds. -/
def loOf (v : Value) : Nat := v.ownBlock.getD 0
def hiOf (v : Value) : Nat := (v.ownBlock.map (· + 1)).getD 0
theorem loOf_le {v : Value} : ∀ g, v.ownBlock = some g → loOf v ≤ g := fun g h => by simp [loOf, h]
theorem lt_hiOf {v : Value} : ∀ g, v.ownBlock = some g → g < hiOf v := fun g h => by simp [hiOf, h]
theorem off_of {v : Value} {g : Nat} (h : v.ownBlock ≠ some g) : g < loOf v ∨ hiOf v ≤ g := by
  unfold loOf hiOf
  cases hv : v.ownBlock with
  | none => right; simp
  | some a =>
    rw [hv] at h
    simp only [Option.getD_some, Option.map_some]
    have : a ≠ g := fun e => h (by rw [e])
    omega
theorem of_fr {v : Value} {lo hi : Nat} {w w' : World} (h : Fr (loOf v) (hiOf v) w w') (hl : ∀ g, v.ownBlock = some g → lo ≤ g ∧ g < hi) : Fr lo hi w w' :=
  ⟨h.os, h.tape, h.output, h.size, fun k hk ho => h.block k hk (off_of (fun e => by have := hl k e; omega))⟩

theorem svs_set_dt (rs : List (Value × Sr)) (k : Nat) (hk : k < rs.length) (d : Int) (cs : List Cl) : (svs rs).set (k * 2) (.int .i64 d) = svs (rs.set k (rs[k].1, ⟨d, cs⟩)) := by
  induction rs generalizing k with
  | nil => simp at hk
  | cons x xs ih =>
    cases k with
    | zero => rfl
    | succ k =>
      have e1 : (k + 1) * 2 = k * 2 + 1 + 1 := by omega
      rw [e1]
      show [_, _] ++ (svs xs).set (k * 2) _ = [_, _] ++ svs (xs.set k _)
      rw [ih k (by simpa using hk)]
      rfl


/-- A new block is a row. -/
theorem own_new (w : World) (g e sz n : Nat) (xs : Array Value) (hg : w.heap.size = g) (hl : xs.size = n * sz) (hm : n ≤ maxLen) : (w.alloc (.cells xs e)).ownsRow g e sz (.slice (some ⟨g, 0, none⟩) n n) n xs.toList := by
  subst hg
  exact ⟨by simpa using hl, .inr ⟨w.heap.size, n, xs, rfl, Nat.le_refl _, heap_alloc_new w _, Nat.le_refl _, hm, hl, by rw [List.take_of_length_le (by simp [hl])]⟩⟩

end Go.Nd
