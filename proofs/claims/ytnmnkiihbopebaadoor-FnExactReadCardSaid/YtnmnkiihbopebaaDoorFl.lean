/- Floats of the model: how two words stand to each other, by whole keys. -/
import Derived.Laws.FloatArith
namespace Go.Nd
open Ieee

/-- The magnitude of a rung, in units of the least place. -/
def V (f : Format) (r : Nat) : Nat := if r < f.binade then r else (f.binade + r % f.binade) * 2 ^ (r / f.binade - 1)

theorem binade_pos (f : Format) : 0 < f.binade := Nat.two_pow_pos _

theorem V_succ (f : Format) (r : Nat) : V f r < V f (r + 1) := by
  have hb := binade_pos f
  unfold V
  by_cases h1 : r + 1 < f.binade
  · rw [if_pos (by omega), if_pos h1]; omega
  · rw [if_neg h1]
    by_cases h0 : r < f.binade
    · rw [if_pos h0]
      have e : r + 1 = f.binade := by omega
      rw [e, Nat.mod_self, Nat.div_self hb]
      simp; omega
    · rw [if_neg h0]
      have hd := Nat.div_add_mod r f.binade
      have hm := Nat.mod_lt r hb
      have hq : 1 ≤ r / f.binade := (Nat.le_div_iff_mul_le hb).2 (by omega)
      by_cases hl : r % f.binade + 1 < f.binade
      · have hq' : (r + 1) / f.binade = r / f.binade := by
          rw [Nat.div_eq_iff hb]
          have : f.binade * (r / f.binade) = (r / f.binade) * f.binade := Nat.mul_comm _ _
          omega
        have hm' : (r + 1) % f.binade = r % f.binade + 1 := by
          have := Nat.div_add_mod (r + 1) f.binade
          rw [hq'] at this
          omega
        rw [hq', hm']
        exact Nat.mul_lt_mul_of_pos_right (by omega) (Nat.two_pow_pos _)
      · have hq' : (r + 1) / f.binade = r / f.binade + 1 := by
          rw [Nat.div_eq_iff hb]
          have : f.binade * (r / f.binade) = (r / f.binade) * f.binade := Nat.mul_comm _ _
          have : (r / f.binade + 1) * f.binade = (r / f.binade) * f.binade + f.binade := Nat.succ_mul _ _
          omega
        have hm' : (r + 1) % f.binade = 0 := by
          have := Nat.div_add_mod (r + 1) f.binade
          rw [hq'] at this
          have : f.binade * (r / f.binade + 1) = f.binade * (r / f.binade) + f.binade := Nat.mul_succ _ _
          omega
        rw [hq', hm', show r / f.binade + 1 - 1 = (r / f.binade - 1) + 1 from by omega, Nat.pow_succ, Nat.add_zero, Nat.mul_comm (2 ^ _) 2, ← Nat.mul_assoc]
        exact Nat.mul_lt_mul_of_pos_right (by omega) (Nat.two_pow_pos _)

theorem V_lt (f : Format) {r s : Nat} (h : r < s) : V f r < V f s := by
  induction s with
  | zero => omega
  | succ s ih =>
    rcases Nat.lt_or_eq_of_le (Nat.le_of_lt_succ h) with h' | h'
    · exact Nat.lt_trans (ih h') (V_succ f s)
    · rw [h']; exact V_succ f s

theorem V_zero (f : Format) : V f 0 = 0 := by unfold V; rw [if_pos (binade_pos f)]

def sgn (f : Format) (x : Nat) : Bool := x / f.signWeight % 2 == 1
def rung (f : Format) (x : Nat) : Nat := x % f.signWeight
def isNan (f : Format) (x : Nat) : Bool := decide (f.infRung < rung f x)
/-- The key of a word that is no NaN: its rung with its sign. -/
def key (f : Format) (x : Nat) : Int := if sgn f x then -(rung f x : Int) else (rung f x : Int)

/-- What a finite word reads as: a magnitude at a place that, in units of the least place, make its rung's magnitude. -/
theorem read_finite (f : Format) (x : Nat) (h : rung f x < f.infRung) : ∃ (m : Nat) (k : Nat), f.read x = .number (sgn f x) m (f.leastPlace + (k : Int)) ∧ m * 2 ^ k = V f (rung f x) := by
  unfold Format.read
  dsimp only
  change ∃ m k, (if rung f x < f.binade then _ else if rung f x < f.infRung then _ else _) = _ ∧ _
  by_cases h1 : rung f x < f.binade
  · refine ⟨rung f x, 0, ?_, ?_⟩
    · rw [if_pos h1]; simp [sgn, rung]
    · unfold V; rw [if_pos h1]; simp
  · refine ⟨f.binade + rung f x % f.binade, rung f x / f.binade - 1, ?_, ?_⟩
    · rw [if_neg h1, if_pos h]; rfl
    · unfold V; rw [if_neg h1]

theorem read_inf (f : Format) (x : Nat) (h : rung f x = f.infRung) (hb : f.binade ≤ f.infRung) : f.read x = .infinity (sgn f x) := by
  unfold Format.read
  dsimp only
  have e : x % f.signWeight = f.infRung := h
  rw [e, if_neg (by omega), if_neg (by omega), if_pos rfl]
  rfl

theorem read_nan (f : Format) (x : Nat) (h : f.infRung < rung f x) (hb : f.binade ≤ f.infRung) : ∃ t, f.read x = .nan (sgn f x) t := by
  unfold Format.read
  dsimp only
  have e : f.infRung < x % f.signWeight := h
  rw [if_neg (by omega), if_neg (by omega), if_neg (by omega)]
  exact ⟨_, rfl⟩

theorem read_nan_eq (f : Format) (x : Nat) (h : f.infRung < rung f x) (hb : f.binade ≤ f.infRung) : f.read x = .nan (sgn f x) (rung f x - f.infRung) := by
  unfold Format.read
  dsimp only
  have e : f.infRung < x % f.signWeight := h
  rw [if_neg (by omega), if_neg (by omega), if_neg (by omega)]
  rfl

theorem cmp_lt {a b : Int} (h : a < b) : compare a b = .lt := by simp [compare, compareOfLessAndEq, h]
theorem cmp_gt {a b : Int} (h : b < a) : compare a b = .gt := by
  simp only [compare, compareOfLessAndEq]
  rw [if_neg (by omega), if_neg (by omega)]
theorem cmp_eq {a b : Int} (h : a = b) : compare a b = .eq := by subst h; simp [compare, compareOfLessAndEq]

theorem signed_eq (s : Bool) (m k : Nat) : signed s m k = if s then -((m * 2 ^ k : Nat) : Int) else ((m * 2 ^ k : Nat) : Int) := by
  unfold signed
  rw [Nat.shiftLeft_eq]

theorem compare_int_mul (a b : Int) (k : Nat) (hk : 0 < k) : compare (a * k) (b * k) = compare a b := by
  have hk' : (0 : Int) < k := by omega
  rcases Int.lt_trichotomy a b with h | h | h
  · rw [cmp_lt h, cmp_lt (Int.mul_lt_mul_of_pos_right h hk')]
  · subst h; simp
  · rw [cmp_gt h, cmp_gt (Int.mul_lt_mul_of_pos_right h hk')]

theorem signed_scale (s : Bool) (m a b c : Nat) (h : c ≤ a) (e : b = a - c) : signed s m b * ((2 ^ c : Nat) : Int) = signed s m a := by
  subst e
  rw [signed_eq, signed_eq]
  have hp : m * 2 ^ (a - c) * 2 ^ c = m * 2 ^ a := by rw [Nat.mul_assoc, ← Nat.pow_add, Nat.sub_add_cancel h]
  have hp' : ((m * 2 ^ (a - c) : Nat) : Int) * ((2 ^ c : Nat) : Int) = ((m * 2 ^ a : Nat) : Int) := by rw [← Int.natCast_mul, hp]
  cases s
  · simpa using hp'
  · simp only [if_true]
    rw [Int.neg_mul, hp']

theorem order_numbers (s t : Bool) (m n : Nat) (a b : Nat) (L : Int) :
    Datum.order (.number s m (L + a)) (.number t n (L + b)) = some (compare (signed s m a) (signed t n b)) := by
  show some (compare (signed s m ((L + a) - min (L + a) (L + b)).toNat) (signed t n ((L + b) - min (L + a) (L + b)).toNat)) = _
  congr 1
  rw [← compare_int_mul _ _ (2 ^ min a b) (Nat.two_pow_pos _), signed_scale s m a _ (min a b) (by omega) (by omega), signed_scale t n b _ (min a b) (by omega) (by omega)]

theorem compare_V (f : Format) (s t : Bool) (r q : Nat) :
    compare (if s then -(V f r : Int) else (V f r : Int)) (if t then -(V f q : Int) else (V f q : Int)) = compare (if s then -(r : Int) else (r : Int)) (if t then -(q : Int) else (q : Int)) := by
  have key : ∀ a b : Nat, (a < b ↔ V f a < V f b) ∧ (a = b ↔ V f a = V f b) := by
    intro a b
    rcases Nat.lt_trichotomy a b with h | h | h
    · have := V_lt f h; omega
    · subst h; omega
    · have := V_lt f h; omega
  have h0 := V_zero f
  obtain ⟨k1, k2⟩ := key r q
  obtain ⟨k3, k4⟩ := key q r
  obtain ⟨k5, k6⟩ := key 0 r
  obtain ⟨k7, k8⟩ := key 0 q
  rw [h0] at k5 k6 k7 k8
  have ext : ∀ a b c d : Int, (a < b ↔ c < d) → (a = b ↔ c = d) → compare a b = compare c d := by
    intro a b c d h1 h2
    rcases Int.lt_trichotomy a b with h | h | h
    · rw [cmp_lt h, cmp_lt (h1.1 h)]
    · rw [cmp_eq h, cmp_eq (h2.1 h)]
    · rw [cmp_gt h, cmp_gt (by have := mt h1.2; have := mt h2.2; omega)]
  cases s <;> cases t <;> simp only [if_true, Bool.false_eq_true, if_false] <;> apply ext <;> omega

/-- How two words stand: by their keys, where neither is a NaN. -/
theorem order_key (f : Format) (hb : f.binade ≤ f.infRung) (x y : Nat) (hx : isNan f x = false) (hy : isNan f y = false) : f.order x y = some (compare (key f x) (key f y)) := by
  have hx' : rung f x ≤ f.infRung := by simpa [isNan] using hx
  have hy' : rung f y ≤ f.infRung := by simpa [isNan] using hy
  have hpos : 0 < f.infRung := Nat.lt_of_lt_of_le (binade_pos f) hb
  unfold Format.order key
  rcases Nat.lt_or_eq_of_le hx' with h1 | h1 <;> rcases Nat.lt_or_eq_of_le hy' with h2 | h2
  · obtain ⟨m, a, e1, v1⟩ := read_finite f x h1
    obtain ⟨n, b, e2, v2⟩ := read_finite f y h2
    rw [e1, e2, order_numbers, signed_eq, signed_eq, v1, v2, compare_V]
  · obtain ⟨m, a, e1, v1⟩ := read_finite f x h1
    rw [e1, read_inf f y h2 hb]
    show some _ = _
    congr 1
    cases hs : sgn f y
    · simp only [Bool.false_eq_true, if_false]; refine (cmp_lt ?_).symm; split <;> omega
    · simp only [if_true]; refine (cmp_gt ?_).symm; split <;> omega
  · obtain ⟨n, b, e2, v2⟩ := read_finite f y h2
    rw [e2, read_inf f x h1 hb]
    show some _ = _
    congr 1
    cases hs : sgn f x
    · simp only [Bool.false_eq_true, if_false]; refine (cmp_gt ?_).symm; split <;> omega
    · simp only [if_true]; refine (cmp_lt ?_).symm; split <;> omega
  · rw [read_inf f x h1 hb, read_inf f y h2 hb]
    show some (compare _ _) = _
    congr 1
    rw [h1, h2]
    cases sgn f x <;> cases sgn f y
    · simp
    · simp only [if_true, Bool.false_eq_true, if_false]; rw [cmp_gt (show (-(f.infRung : Int)) < f.infRung by omega)]; rfl
    · simp only [if_true, Bool.false_eq_true, if_false]; rw [cmp_lt (show (-(f.infRung : Int)) < f.infRung by omega)]; rfl
    · simp

theorem order_nan (f : Format) (hb : f.binade ≤ f.infRung) (x y : Nat) (h : isNan f x = true ∨ isNan f y = true) : f.order x y = none := by
  unfold Format.order
  rcases h with h | h
  · obtain ⟨t, e⟩ := read_nan f x (by simpa [isNan] using h) hb
    rw [e]; rfl
  · obtain ⟨t, e⟩ := read_nan f y (by simpa [isNan] using h) hb
    rw [e]
    cases f.read x <;> rfl

theorem dbl : double.binade ≤ double.infRung := by decide
theorem sng : single.binade ≤ single.infRung := by decide

end Go.Nd
