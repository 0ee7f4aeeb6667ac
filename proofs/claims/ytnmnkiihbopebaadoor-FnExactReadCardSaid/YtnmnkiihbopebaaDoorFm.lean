/- Floats of the model: an exactly representable number is written as itself; what the laws' comparisons of floats come to. -/
import Derived.Test.YtnmnkiihbopebaaDoorFl
namespace Go.Nd
open Ieee

theorem log2_mul_pow (n k : Nat) (h : n ≠ 0) : (n * 2 ^ k).log2 = n.log2 + k := by
  have hp := Nat.two_pow_pos k
  have hne : n * 2 ^ k ≠ 0 := Nat.mul_ne_zero h (by omega)
  rw [Nat.log2_eq_iff hne]
  have h1 := Nat.log2_self_le h
  have h2 := Nat.lt_log2_self (n := n)
  constructor
  · rw [Nat.pow_add]; exact Nat.mul_le_mul_right _ h1
  · rw [show n.log2 + k + 1 = (n.log2 + 1) + k from by omega, Nat.pow_add]
    exact Nat.mul_lt_mul_of_pos_right h2 hp

theorem cut_zero (neg : Bool) (n : Nat) : Toward.even.cut neg n 0 = n := by
  simp [Toward.cut, Nat.mod_one]

theorem cut_exact (neg : Bool) (m d : Nat) (hm : m ≠ 0) : Toward.even.cut neg (m * 2 ^ d) d = m := by
  have hp := Nat.two_pow_pos d
  have hl := log2_mul_pow m d hm
  unfold Toward.cut
  have hmin : min d ((m * 2 ^ d).log2 + 2) = d := by rw [hl]; omega
  rw [hmin, Nat.shiftLeft_eq, Nat.one_mul]
  simp only [Nat.mul_div_cancel m hp, Nat.mul_mod_left]
  simp

/-- The parts of a rung: its magnitude is m * 2 ^ e. -/
theorem V_parts (f : Format) (r : Nat) : ∃ m e, V f r = m * 2 ^ e ∧ e * f.binade + m = r ∧ m < 2 * f.binade ∧ (e = 0 ∧ m < f.binade ∨ f.binade ≤ m) := by
  have hb := binade_pos f
  unfold V
  by_cases h : r < f.binade
  · rw [if_pos h]
    exact ⟨r, 0, by simp, by simp, by omega, .inl ⟨rfl, h⟩⟩
  · rw [if_neg h]
    have hd := Nat.div_add_mod r f.binade
    have hm := Nat.mod_lt r hb
    have hq : 1 ≤ r / f.binade := (Nat.le_div_iff_mul_le hb).2 (by omega)
    refine ⟨f.binade + r % f.binade, r / f.binade - 1, rfl, ?_, by omega, .inr (by omega)⟩
    rw [Nat.sub_mul, Nat.one_mul, Nat.mul_comm]
    have : f.binade ≤ f.binade * (r / f.binade) := Nat.le_mul_of_pos_right _ hq
    omega

theorem nearest_exact (f : Format) (neg : Bool) (N : Nat) (p : Int) (r a b : Nat) (hr : r < f.infRung) (hv : N * 2 ^ a = V f r * 2 ^ b) (hp : p = f.leastPlace + (a : Int) - b) :
    f.nearest neg N p = f.word neg r := by
  have hpa := Nat.two_pow_pos a
  have hpb := Nat.two_pow_pos b
  unfold Format.nearest
  by_cases h0 : N = 0
  · rw [if_pos h0]
    subst h0
    rw [Nat.zero_mul] at hv
    have hV : V f r = 0 := by
      rcases Nat.mul_eq_zero.1 hv.symm with h | h
      · exact h
      · omega
    have : r = 0 := by
      rcases Nat.eq_zero_or_pos r with h | h
      · exact h
      · have := V_lt f h
        rw [V_zero] at this
        omega
    rw [this]
  · rw [if_neg h0]
    obtain ⟨m, e, hV, hre, hm2, hcase⟩ := V_parts f r
    rw [hV, Nat.mul_assoc, ← Nat.pow_add] at hv
    have hm0 : m ≠ 0 := by
      rintro rfl
      rw [Nat.zero_mul] at hv
      rcases Nat.mul_eq_zero.1 hv with h | h <;> omega
    have hlog : N.log2 + a = m.log2 + (e + b) := by rw [← log2_mul_pow N a h0, ← log2_mul_pow m (e + b) hm0, hv]
    have hbin : f.binade = 2 ^ f.fractionBits := rfl
    have hlast : max (p + (N.log2 : Int) - f.fractionBits) f.leastPlace = f.leastPlace + e := by
      rcases hcase with ⟨rfl, hlt⟩ | hge
      · have : m.log2 < f.fractionBits := (Nat.log2_lt hm0).2 (by rw [← hbin]; exact hlt)
        omega
      · have h1 : m.log2 = f.fractionBits := by
          rw [Nat.log2_eq_iff hm0]
          rw [hbin] at hge hm2
          exact ⟨hge, by rw [Nat.pow_succ]; omega⟩
        omega
    rw [hlast]
    dsimp only
    have hkept : Toward.even.cut neg (N <<< (p - (f.leastPlace + e)).toNat) ((f.leastPlace + e) - p).toNat = m := by
      rcases Nat.lt_or_ge a (e + b) with hlt | hge
      · have e1 : (p - (f.leastPlace + e)).toNat = 0 := by omega
        have e2 : ((f.leastPlace + e) - p).toNat = e + b - a := by omega
        rw [e1, e2, Nat.shiftLeft_zero]
        have : N = m * 2 ^ (e + b - a) := by
          apply Nat.eq_of_mul_eq_mul_right hpa
          rw [hv, Nat.mul_assoc, ← Nat.pow_add, Nat.sub_add_cancel (by omega)]
        rw [this]
        exact cut_exact neg m _ hm0
      · have e1 : (p - (f.leastPlace + e)).toNat = a - (e + b) := by omega
        have e2 : ((f.leastPlace + e) - p).toNat = 0 := by omega
        rw [e1, e2, cut_zero, Nat.shiftLeft_eq]
        apply Nat.eq_of_mul_eq_mul_right (Nat.two_pow_pos (e + b))
        rw [Nat.mul_assoc, ← Nat.pow_add, Nat.sub_add_cancel hge, hv]
    rw [hkept]
    congr 1
    have : (f.leastPlace + (e : Int) - f.leastPlace).toNat = e := by omega
    rw [this, hre]
    omega

theorem word_rung (f : Format) (x : Nat) (h : x < 2 * f.signWeight) : f.word (sgn f x) (rung f x) = x := by
  have hd := Nat.div_add_mod x f.signWeight
  have hw : 0 < f.signWeight := Nat.two_pow_pos _
  have hm := Nat.mod_lt x hw
  unfold Format.word sgn rung
  rcases Nat.lt_or_ge x f.signWeight with h1 | h1
  · rw [Nat.div_eq_of_lt h1, Nat.mod_eq_of_lt h1]; rfl
  · have : x / f.signWeight = 1 := by
      rw [Nat.div_eq_iff hw]; omega
    rw [this] at hd ⊢
    simp
    omega

theorem word_lt' (f : Format) (s : Bool) (r : Nat) (h : r < f.signWeight) : f.word s r < 2 * f.signWeight := by
  unfold Format.word; split <;> omega
theorem rung_word (f : Format) (s : Bool) (r : Nat) (h : r < f.signWeight) : rung f (f.word s r) = r := by
  unfold rung Format.word
  cases s
  · simp [Nat.mod_eq_of_lt h]
  · simp [Nat.mod_eq_of_lt h]
theorem sgn_word (f : Format) (s : Bool) (r : Nat) (h : r < f.signWeight) : sgn f (f.word s r) = s := by
  have hw : 0 < f.signWeight := Nat.two_pow_pos _
  unfold sgn Format.word
  cases s
  · simp [Nat.div_eq_of_lt h]
  · simp [Nat.add_div_left r hw, Nat.div_eq_of_lt h]

/-- A finite word is written as itself. -/
theorem write_read (f : Format) (x : Nat) (hx : x < 2 * f.signWeight) (h : rung f x < f.infRung) : f.write (f.read x) = x := by
  obtain ⟨m, k, e, v⟩ := read_finite f x h
  rw [e]
  show f.nearest _ _ _ = _
  rw [nearest_exact f (sgn f x) m _ (rung f x) k 0 h (by rw [v]; simp) (by omega), word_rung f x hx]

/-! ### double words -/
def Nanw (x : Nat) : Bool := isNan double x
/-- Two words are one value: rule 3. -/
def fsame (x y : Nat) : Bool := if Nanw x || Nanw y then Nanw x && Nanw y else x == y

theorem sw : double.signWeight = 2 ^ 63 := rfl

theorem key_inj {x y : Nat} (hx : x < 2 ^ 64) (hy : y < 2 ^ 64) (h : key double x = key double y) : x = y ∨ (rung double x = 0 ∧ rung double y = 0) := by
  by_cases h0 : rung double x = 0 ∧ rung double y = 0
  · exact .inr h0
  · left
    have e1 := word_rung double x (by rw [sw]; omega)
    have e2 := word_rung double y (by rw [sw]; omega)
    unfold key at h
    rw [← e1, ← e2]
    cases h1 : sgn double x <;> cases h2 : sgn double y <;> simp only [h1, h2, if_true, Bool.false_eq_true, if_false] at h
    · congr 1; omega
    · omega
    · omega
    · congr 1; omega

theorem order_eq_iff {x y : Nat} (hx : x < 2 ^ 64) (hy : y < 2 ^ 64) : double.order x y = some .eq ↔ Nanw x = false ∧ Nanw y = false ∧ (x = y ∨ (rung double x = 0 ∧ rung double y = 0)) := by
  constructor
  · intro h
    by_cases hn : Nanw x = true ∨ Nanw y = true
    · rw [order_nan double dbl x y hn] at h; cases h
    · have h1 : Nanw x = false := by simpa using mt Or.inl hn
      have h2 : Nanw y = false := by simpa using mt Or.inr hn
      rw [order_key double dbl x y h1 h2] at h
      refine ⟨h1, h2, key_inj hx hy ?_⟩
      rcases Int.lt_trichotomy (key double x) (key double y) with h' | h' | h'
      · rw [cmp_lt h'] at h; cases h
      · exact h'
      · rw [cmp_gt h'] at h; cases h
  · rintro ⟨h1, h2, h⟩
    rw [order_key double dbl x y h1 h2]
    congr 1
    apply cmp_eq
    rcases h with rfl | ⟨a, b⟩
    · rfl
    · unfold key; rw [a, b]; simp

theorem order_self (x : Nat) : (double.order x x != some .eq) = Nanw x := by
  cases h : Nanw x
  · rw [order_key double dbl x x h h, cmp_eq rfl]; rfl
  · rw [order_nan double dbl x x (.inl h)]; rfl

theorem nan_zero : Nanw 0 = false := by decide
theorem nan_one : Nanw 4607182418800017408 = false := by decide

/-- A zero is one of two words. -/
theorem zero_word {x : Nat} (hx : x < 2 ^ 64) (h : rung double x = 0) : x = 0 ∨ x = 9223372036854775808 := by
  have e := word_rung double x (by rw [sw]; omega)
  rw [h] at e
  unfold Format.word at e
  split at e
  · right; rw [← e]; rfl
  · left; exact e.symm

theorem order_zero {x : Nat} (hx : x < 2 ^ 64) : double.order x 0 = some .eq ↔ x = 0 ∨ x = 9223372036854775808 := by
  rw [order_eq_iff hx (by omega)]
  constructor
  · rintro ⟨_, _, h⟩
    rcases h with h | ⟨h, _⟩
    · exact .inl h
    · exact zero_word hx h
  · rintro (rfl | rfl) <;> decide

theorem div_one_pz : double.div 4607182418800017408 0 = some 9218868437227405312 := by decide
theorem div_one_nz : double.div 4607182418800017408 9223372036854775808 = some 18442240474082181120 := by decide

end Go.Nd
