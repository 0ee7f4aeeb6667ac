/- append onto a row of the call's own, the source nil or not: laws for the walk. -/
import Derived.Test.YtnmnkiihbopebaaDoorRow
namespace Go.Nd
open Go.RowKit

section
variable {P : Program} (w : World)

theorem run_append_of_nil (base : Nat) (t ty e : TypeId) (i : TypeInfo) (size : Nat) (ht : P.underlying t = some (.slice e)) (hi : P.info? e = some i)
    (v : Value) (n : Nat) (xs : List Value) (hown : w.ownsRow base e size v n xs) (c : Nat) : (Builtin.append_ #[t, t] ty #[v, .slice none 0 c]).run P w = .ok v w := by
  rcases hown.2 with ⟨rfl, rfl⟩ | ⟨g, cap, cur, rfl, _, _, hnc, _⟩
  · simp [Builtin.append_, run_underlying ht, sizeOf, typeInfo, hi, Builtin.lenOf, Builtin.firstCells]
  · simp [Builtin.append_, run_underlying ht, sizeOf, typeInfo, hi, Builtin.lenOf, Builtin.firstCells, hnc, storeCells]

theorem run_append_at (base : Nat) (t ty e : TypeId) (i : TypeInfo) (z : Value) (size bytes : Nat) (ht : P.underlying t = some (.slice e)) (hi : P.info? e = some i) (hz : i.zero = some z)
    (hsize : i.size = size) (hby : i.bytes = bytes) (hzs : z.cells.size = size) (hsz : 0 < size)
    (v : Value) (n : Nat) (xs : List Value) (hown : w.ownsRow base e size v n xs)
    (B : Nat) (A : Option Addr) (m c : Nat) (news : List Value) (hl : news.length = m * size) (hr : AtB B w A news) (h1 : ∀ u ∈ news, u.oneCell' = true)
    (h63 : n + m ≤ maxLen) (hbytes : (n + m) * bytes ≤ 140737488355328) (hbase : base ≤ w.heap.size) :
    ∃ v' w', (Builtin.append_ #[t, t] ty #[v, .slice A m c]).run P w = .ok v' w' ∧ w'.ownsRow base e size v' (n + m) (xs ++ news) ∧ w.grownBy w' v.ownBlock := by
  rcases A with _ | ad
  · have hn : news = [] := by
      cases news with
      | nil => rfl
      | cons x l => obtain ⟨_, _, h, _⟩ := hr 0 x rfl; cases h
    subst hn
    have hm : m = 0 := by
      rcases Nat.eq_zero_or_pos m with h0 | h0
      · exact h0
      · have := Nat.mul_pos h0 hsz; simp at hl; omega
    subst hm
    exact ⟨v, w, run_append_of_nil w base t ty e i size ht hi v n xs hown c, by simpa using hown, World.grownBy.refl w _⟩
  · have hcells : ∀ j u, news[j]? = some u → w.cell? (ad.add j) = some u := by
      intro j u hu
      obtain ⟨b, o, h, _, hc⟩ := hr j u hu
      injection h with h
      subst h
      rw [Addr.add_lit]; exact hc
    obtain ⟨v', w', hrun, h2, h3, _⟩ := run_append_own (P := P) w base t ty e i z size bytes ht hi hz hsize hby hzs hsz v n xs hown ad m c news hl hcells h1 h63 hbytes hbase
    exact ⟨v', w', hrun, h2, h3⟩

theorem wp_append_at {o : Oper} {a : Act} {K : Act → World → Prop} {Q : Exit → Act → World → Prop} (s x : Operand) (t : TypeId)
    (ho : o.op = .call { callee := .builtin .append, args := #[s, x], argTypes := #[t, t] })
    (base : Nat) (e : TypeId) (i : TypeInfo) (z : Value) (size bytes : Nat) (ht : P.underlying t = some (.slice e)) (hi : P.info? e = some i) (hz : i.zero = some z)
    (hsize : i.size = size) (hby : i.bytes = bytes) (hzs : z.cells.size = size) (hsz : 0 < size)
    (v : Value) (n : Nat) (xs : List Value) (hs : a.eval s = v) (hown : w.ownsRow base e size v n xs)
    (B : Nat) (A : Option Addr) (m c : Nat) (news : List Value) (hx : a.eval x = .slice A m c) (hl : news.length = m * size) (hr : AtB B w A news) (h1 : ∀ u ∈ news, u.oneCell' = true)
    (h63 : n + m ≤ maxLen) (hbytes : (n + m) * bytes ≤ 140737488355328) (hbase : base ≤ w.heap.size)
    (h : ∀ A' c' w', n + m ≤ c' → w'.ownsRow base e size (.slice A' (n + m) c') (n + m) (xs ++ news) → w.grownBy w' v.ownBlock → K (a.put o.dst (.slice A' (n + m) c')) w') : o.wp P a w K Q := by
  obtain ⟨v', w', hrun, h2, h3⟩ := run_append_at (P := P) w base t o.type e i z size bytes ht hi hz hsize hby hzs hsz v n xs hown B A m c news hl hr h1 h63 hbytes hbase
  unfold Oper.wp execOp
  simp only [ho, resolve, invoke, builtin, Sem.run_bind, Sem.run_pure, Result.andThen_ok, List.map_toArray, List.map_cons, List.map_nil, hs, hx, hrun]
  obtain ⟨A', c', rfl, hc', _⟩ := own_form h2
  exact h A' c' w' hc' h2 h3

theorem wpList_append_at {ops : Array Oper} {rest : List Oper} {o : Oper} {a : Act} {Q : Exit → Act → World → Prop} (hgd : o.guard = none) (s x : Operand) (t : TypeId)
    (ho : o.op = .call { callee := .builtin .append, args := #[s, x], argTypes := #[t, t] })
    (base : Nat) (e : TypeId) (i : TypeInfo) (z : Value) (size bytes : Nat) (ht : P.underlying t = some (.slice e)) (hi : P.info? e = some i) (hz : i.zero = some z)
    (hsize : i.size = size) (hby : i.bytes = bytes) (hzs : z.cells.size = size) (hsz : 0 < size)
    (v : Value) (n : Nat) (xs : List Value) (hs : a.eval s = v) (hown : w.ownsRow base e size v n xs)
    (B : Nat) (A : Option Addr) (m c : Nat) (news : List Value) (hx : a.eval x = .slice A m c) (hl : news.length = m * size) (hr : AtB B w A news) (h1 : ∀ u ∈ news, u.oneCell' = true)
    (h63 : n + m ≤ maxLen) (hbytes : (n + m) * bytes ≤ 140737488355328) (hbase : base ≤ w.heap.size)
    (h : ∀ A' c' w', n + m ≤ c' → w'.ownsRow base e size (.slice A' (n + m) c') (n + m) (xs ++ news) → w.grownBy w' v.ownBlock → wpList P ops Q rest (a.put o.dst (.slice A' (n + m) c')) w') : wpList P ops Q (o :: rest) a w :=
  wpList_plain hgd fun _ hK => wp_append_at w s x t ho base e i z size bytes ht hi hz hsize hby hzs hsz v n xs hs hown B A m c news hx hl hr h1 h63 hbytes hbase fun A' c' w' h0 h2 h3 => hK _ _ (h A' c' w' h0 h2 h3)

theorem step_append_at {ops : Array Oper} {o : Oper} {a : Act} {K : Act → World → Prop} {Q : Exit → Act → World → Prop} {E : Prop} (hgd : o.guard = none) (s x : Operand) (t : TypeId)
    (ho : o.op = .call { callee := .builtin .append, args := #[s, x], argTypes := #[t, t] })
    (base : Nat) (e : TypeId) (i : TypeInfo) (z : Value) (size bytes : Nat) (ht : P.underlying t = some (.slice e)) (hi : P.info? e = some i) (hz : i.zero = some z)
    (hsize : i.size = size) (hby : i.bytes = bytes) (hzs : z.cells.size = size) (hsz : 0 < size)
    (v : Value) (n : Nat) (xs : List Value) (hs : a.eval s = v) (hown : w.ownsRow base e size v n xs)
    (B : Nat) (A : Option Addr) (m c : Nat) (news : List Value) (hx : a.eval x = .slice A m c) (hl : news.length = m * size) (hr : AtB B w A news) (h1 : ∀ u ∈ news, u.oneCell' = true)
    (h63 : n + m ≤ maxLen) (hbytes : (n + m) * bytes ≤ 140737488355328) (hbase : base ≤ w.heap.size)
    (h : ∀ A' c' w', n + m ≤ c' → w'.ownsRow base e size (.slice A' (n + m) c') (n + m) (xs ++ news) → w.grownBy w' v.ownBlock → K (a.put o.dst (.slice A' (n + m) c')) w') :
    if Region.wanted o (yielded ops a.tmps) = true then Oper.wp P o a w K Q else E := by
  have hw : Region.wanted o (yielded ops a.tmps) = true := by simp [Region.wanted, hgd]
  rw [if_pos hw]
  exact wp_append_at w s x t ho base e i z size bytes ht hi hz hsize hby hzs hsz v n xs hs hown B A m c news hx hl hr h1 h63 hbytes hbase h
end

/-- Behind an append onto a row of the call's own, what lay below is left. -/
theorem below_grow {B : Nat} {W w w' : World} {base e sz n : Nat} {v : Value} {cs : List Value} (hb : Below B W w) (ho : w.ownsRow base e sz v n cs) (hg : w.grownBy w' v.ownBlock) (hB : B ≤ w.heap.size) (hbase : B ≤ base) : Below B W w' :=
  hb.grown hg hB fun k hk => by have := (ho.lt k hk).1; omega

/-! ### shapes and places -/
def prodI (sh : List Int) : Int := sh.foldl (· * ·) 1
def okLen (x : Int) : Bool := decide (0 ≤ x) && decide (x ≤ 4096)
def goodSh (sh : List Int) : Bool := decide (sh.length ≤ 4) && sh.all okLen && decide (prodI sh ≤ 4096)
/-- spec.l2Count: the product of the lengths, or -1. -/
def cntF (sh : List Int) : Int := if goodSh sh then prodI sh else -1
/-- The places of a view from place a on. -/
def placesF : List Int → List Int → Int → List Int
  | [], _, a => [a]
  | n :: sh, st, a => (List.range n.toNat).flatMap fun (i : Nat) => placesF sh st.tail (a + (i : Int) * st.headD 0)

theorem foldl_mul (sh : List Int) (a : Int) : sh.foldl (· * ·) a = a * prodI sh := by
  induction sh generalizing a with
  | nil => simp [prodI]
  | cons x sh ih =>
    unfold prodI
    simp only [List.foldl_cons]
    rw [ih, ih (1 * x)]
    rw [Int.one_mul, Int.mul_assoc]
theorem prodI_cons (x : Int) (sh : List Int) : prodI (x :: sh) = x * prodI sh := by
  show (x :: sh).foldl (· * ·) 1 = _
  rw [List.foldl_cons, foldl_mul, Int.one_mul]
theorem prodI_nil : prodI [] = 1 := rfl
theorem prodI_append (xs ys : List Int) : prodI (xs ++ ys) = prodI xs * prodI ys := by
  induction xs with
  | nil => simp [prodI_nil]
  | cons x xs ih => rw [List.cons_append, prodI_cons, prodI_cons, ih, Int.mul_assoc]
theorem prodI_snoc (xs : List Int) (y : Int) : prodI (xs ++ [y]) = prodI xs * y := by rw [prodI_append, prodI_cons, prodI_nil, Int.mul_one]
theorem prodI_nonneg (sh : List Int) (h : ∀ x ∈ sh, 0 ≤ x) : 0 ≤ prodI sh := by
  induction sh with
  | nil => simp [prodI_nil]
  | cons x sh ih =>
    rw [prodI_cons]
    exact Int.mul_nonneg (h x (by simp)) (ih fun y hy => h y (by simp [hy]))
theorem prodI_bound (sh : List Int) (h : ∀ x ∈ sh, 0 ≤ x ∧ x ≤ 4096) : prodI sh ≤ 4096 ^ sh.length := by
  induction sh with
  | nil => simp [prodI_nil]
  | cons x sh ih =>
    rw [prodI_cons, List.length_cons, Int.pow_succ, Int.mul_comm]
    have h1 := h x (by simp)
    have h2 := ih fun y hy => h y (by simp [hy])
    have h3 := prodI_nonneg sh fun y hy => (h y (by simp [hy])).1
    exact Int.mul_le_mul h2 h1.2 h1.1 (by exact Int.pow_nonneg (by omega))
theorem placesF_length (sh st : List Int) (a : Int) (h : ∀ x ∈ sh, 0 ≤ x) : ((placesF sh st a).length : Int) = prodI sh := by
  induction sh generalizing st a with
  | nil => simp [placesF, prodI_nil]
  | cons n sh ih =>
    have hn : 0 ≤ n := h n (by simp)
    have ih' := fun st a => ih st a fun y hy => h y (by simp [hy])
    rw [prodI_cons]
    simp only [placesF, List.length_flatMap]
    have : ∀ (m : Nat), (((List.range m).map fun (i : Nat) => (placesF sh st.tail (a + (i : Int) * st.headD 0)).length).sum : Int) = m * prodI sh := by
      intro m
      induction m with
      | zero => simp
      | succ m ihm =>
        rw [List.range_succ, List.map_append, List.sum_append]
        simp only [List.map_cons, List.map_nil, List.sum_cons, List.sum_nil, Nat.add_zero, Int.natCast_add, ihm, ih']
        rw [show ((m : Int) + ((1 : Nat) : Int)) = (m : Int) + 1 from rfl, Int.add_mul, Int.one_mul]
    rw [this n.toNat, Int.toNat_of_nonneg hn]
end Go.Nd
