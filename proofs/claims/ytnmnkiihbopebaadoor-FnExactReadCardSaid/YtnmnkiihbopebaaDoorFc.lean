/- The functions on single floats: what each answers. -/
import Derived.Test.YtnmnkiihbopebaaDoorChecked
import Derived.Test.YtnmnkiihbopebaaDoorBase
import Derived.Test.YtnmnkiihbopebaaDoorFs
import Derived.Deep.RegionHeld3
namespace Go.Proofs.YtnmnkiihbopebaaDoor
open Go.RowKit Go.Nd
attribute [local go_sem] run_store_float

theorem o_self (x : Nat) : (FloatKind.f64.format.order x x != some .eq) = Nanw x := order_self x
theorem o_self_e (x : Nat) : (FloatKind.f64.format.order x x == some .eq) = !Nanw x := by rw [← o_self]; simp [bne]
theorem bool_of {p : Prop} [Decidable p] {b : Bool} (h : b = true ↔ p) : b = decide p := by cases b <;> simp_all

/-- Is a word a zero? -/
def zw (x : Nat) : Bool := x == 0 || x == 9223372036854775808
theorem o_zero {x : Nat} (hx : x < 2 ^ 64) : (FloatKind.f64.format.order x 0 == some .eq) = zw x := by
  have := order_zero hx
  show (Ieee.double.order x 0 == some .eq) = _
  rw [Bool.eq_iff_iff]
  simp only [beq_iff_eq, zw, Bool.or_eq_true]
  exact this
theorem o_zero_n {x : Nat} (hx : x < 2 ^ 64) : (FloatKind.f64.format.order x 0 != some .eq) = !zw x := by rw [← o_zero hx]; rfl
theorem o_eq {x y : Nat} (hx : x < 2 ^ 64) (hy : y < 2 ^ 64) (n1 : Nanw x = false) (n2 : Nanw y = false) : (FloatKind.f64.format.order x y == some .eq) = (x == y || (zw x && zw y)) := by
  show (Ieee.double.order x y == some .eq) = _
  rw [Bool.eq_iff_iff]
  simp only [beq_iff_eq, order_eq_iff hx hy, zw, Bool.or_eq_true, Bool.and_eq_true, n1, n2, true_and]
  constructor
  · rintro (h | ⟨h1, h2⟩)
    · exact .inl h
    · exact .inr ⟨zero_word hx h1, zero_word hy h2⟩
  · rintro (h | ⟨h1, h2⟩)
    · exact .inl h
    · right
      constructor
      · rcases h1 with rfl | rfl <;> decide
      · rcases h2 with rfl | rfl <;> decide
theorem o_nan {x y : Nat} (n : Nanw x = true ∨ Nanw y = true) : (FloatKind.f64.format.order x y == some .eq) = false := by
  show (Ieee.double.order x y == some .eq) = false
  rw [order_nan Ieee.double dbl x y n]; rfl
theorem zw_nan {x : Nat} (h : zw x = true) : Nanw x = false := by
  simp only [zw, Bool.or_eq_true, beq_iff_eq] at h
  rcases h with rfl | rfl <;> decide
theorem zw_cases {x : Nat} (h : zw x = true) : x = 0 ∨ x = 9223372036854775808 := by simpa [zw] using h

theorem q_pz : ∀ t (w : World), (binOp .quo t (.float .f64 4607182418800017408) (.float .f64 0)).run Tryd.prog w = .ok (.float .f64 9218868437227405312) w := fun t w => run_float_arith w .quo t .f64 _ _ _ div_one_pz
theorem q_nz : ∀ t (w : World), (binOp .quo t (.float .f64 4607182418800017408) (.float .f64 9223372036854775808)).run Tryd.prog w = .ok (.float .f64 18442240474082181120) w := fun t w => run_float_arith w .quo t .f64 _ _ _ div_one_nz
theorem c_inf_lt : (FloatKind.f64.format.order 9218868437227405312 0 == some .lt) = false := by decide
theorem c_ninf_lt : (FloatKind.f64.format.order 18442240474082181120 0 == some .lt) = true := by decide
theorem c_inf_gt : (FloatKind.f64.format.order 9218868437227405312 0 == some .gt) = true := by decide
theorem c_ninf_gt : (FloatKind.f64.format.order 18442240474082181120 0 == some .gt) = false := by decide

theorem fsame_zero {x y : Nat} (hx : zw x = true) (hy : zw y = true) : fsame x y = (x == y) := by simp [fsame, zw_nan hx, zw_nan hy]

theorem sameFloat_c (x y : Nat) (hx : x < 2 ^ 64) (hy : y < 2 ^ 64) (w : World) :
    Calls Tryd.prog 85 #[.float .f64 x, .float .f64 y] w fun e w' => e = .returned (.bool (fsame x y)) ∧ w = w' := by
  have e1 := o_self x
  have e2 := o_self y
  have e3 := o_zero hx
  have e4 := o_zero hy
  cases n1 : Nanw x
  · cases n2 : Nanw y
    · rw [n1] at e1; rw [n2] at e2
      by_cases hz : zw x = true ∧ zw y = true
      · obtain ⟨z1, z2⟩ := hz
        have hf := fsame_zero z1 z2
        rw [z1] at e3; rw [z2] at e4
        have b1 := c_inf_gt
        have b2 := c_ninf_gt
        rw [hf]
        clear hf n1 n2 hx hy
        rcases zw_cases z1 with rfl | rfl <;> rcases zw_cases z2 with rfl | rfl
        all_goals
          clear z1 z2
          go_enter Tryd.func85, Tryd.ntmps85
          go_wp2_with (first | (simp only [q_pz]) | (simp only [q_nz]))
          go_ret
          exact ⟨rfl, rfl⟩
      · have hzz : (FloatKind.f64.format.order x 0 == some .eq) = true → (FloatKind.f64.format.order y 0 == some .eq) = false := by
          rw [e3, e4]; intro h; simp only [h, true_and] at hz; simpa using hz
        have hf : fsame x y = (FloatKind.f64.format.order x y == some .eq) := by
          rw [o_eq hx hy n1 n2]
          have : (zw x && zw y) = false := by
            rw [Bool.eq_false_iff]; simpa using hz
          simp [fsame, n1, n2, this]
        rw [hf]
        clear hz hf e3 e4 hx hy n1 n2
        cases e3 : (FloatKind.f64.format.order x 0 == some .eq)
        · go_enter Tryd.func85, Tryd.ntmps85
          go_wp2
          go_ret
          exact ⟨rfl, rfl⟩
        · have e4 := hzz e3
          clear hzz
          go_enter Tryd.func85, Tryd.ntmps85
          go_wp2
          go_ret
          exact ⟨rfl, rfl⟩
    · rw [n1] at e1; rw [n2] at e2
      have hf : fsame x y = false := by simp [fsame, n1, n2]
      rw [hf]
      clear n1 n2 e3 e4 hx hy hf
      go_enter Tryd.func85, Tryd.ntmps85
      go_wp2
      go_ret
      exact ⟨rfl, rfl⟩
  · rw [n1] at e1
    have hf : fsame x y = (FloatKind.f64.format.order y y != some .eq) := by rw [e2]; simp [fsame, n1]
    rw [hf]
    clear n1 e3 e4 hx hy e2 hf
    go_enter Tryd.func85, Tryd.ntmps85
    go_wp2
    go_ret
    exact ⟨rfl, rfl⟩


def isDT (dt : Int) : Bool := decide (1 ≤ dt) && decide (dt ≤ 9)
def kindF (dt : Int) : Int := if dt = 1 then 0 else if dt ≤ 6 then 1 else if dt ≤ 8 then 2 else 3
def lowF (dt : Int) : Int := if dt = 1 then 0 else if dt = 3 then 0 else if dt = 2 then -128 else if dt = 4 then -32768 else if dt = 5 then -2147483648 else -9223372036854775808
def highF (dt : Int) : Int := if dt = 1 then 1 else if dt = 3 then 255 else if dt = 2 then 127 else if dt = 4 then 32767 else if dt = 5 then 2147483647 else 9223372036854775807

theorem l1IsDType_c (dt : Int) (w : World) : Calls Tryd.prog 102 #[.int .i64 dt] w fun e w' => e = .returned (.bool (isDT dt)) ∧ w = w' := by
  by_cases h : 1 ≤ dt
  · go_enter Tryd.func102, Tryd.ntmps102
    go_wp2
    go_ret
    exact ⟨ret_bool (by simp [isDT, h]), rfl⟩
  · have hn : dt < 1 := by omega
    go_enter Tryd.func102, Tryd.ntmps102
    go_wp2
    go_ret
    exact ⟨ret_bool (by unfold isDT; rw [decide_eq_false (by omega)]; rfl), rfl⟩
theorem isDType_c (dt : Int) (w : World) : Calls Tryd.prog 107 #[.int .i64 dt] w fun e w' => e = .returned (.bool (isDT dt)) ∧ w = w' := by
  by_cases h : 1 ≤ dt
  · go_enter Tryd.func107, Tryd.ntmps107
    go_wp2
    go_ret
    exact ⟨ret_bool (by simp [isDT, h]), rfl⟩
  · have hn : dt < 1 := by omega
    go_enter Tryd.func107, Tryd.ntmps107
    go_wp2
    go_ret
    exact ⟨ret_bool (by unfold isDT; rw [decide_eq_false (by omega)]; rfl), rfl⟩
theorem l1Kind_c (dt : Int) (w : World) : Calls Tryd.prog 114 #[.int .i64 dt] w fun e w' => e = .returned (.int .i64 (kindF dt)) ∧ w = w' := by
  go_enter Tryd.func114, Tryd.ntmps114
  go_wp2
  all_goals (go_ret; exact ⟨ret_int (by grind [kindF]), rfl⟩)
theorem l1Low_c (dt : Int) (w : World) : Calls Tryd.prog 125 #[.int .i64 dt] w fun e w' => e = .returned (.int .i64 (lowF dt)) ∧ w = w' := by
  go_enter Tryd.func125, Tryd.ntmps125
  go_wp2
  all_goals (go_ret; exact ⟨ret_int (by simp_all [lowF]), rfl⟩)
theorem l1High_c (dt : Int) (w : World) : Calls Tryd.prog 126 #[.int .i64 dt] w fun e w' => e = .returned (.int .i64 (highF dt)) ∧ w = w' := by
  go_enter Tryd.func126, Tryd.ntmps126
  go_wp2
  all_goals (go_ret; exact ⟨ret_int (by simp_all [highF]), rfl⟩)
theorem l1IsNaN_c (x : Nat) (w : World) : Calls Tryd.prog 131 #[.float .f64 x] w fun e w' => e = .returned (.bool (Nanw x)) ∧ w = w' := by
  have e1 := o_self x
  go_enter Tryd.func131, Tryd.ntmps131
  go_wp2
  go_ret
  exact ⟨rfl, rfl⟩
theorem l1Minus_c (x : Nat) (hx : x < 2 ^ 64) (w : World) : Calls Tryd.prog 137 #[.float .f64 x] w fun e w' => e = .returned (.bool (x == 9223372036854775808)) ∧ w = w' := by
  have e3 := o_zero hx
  cases hz : zw x
  · rw [hz] at e3
    have hf : (x == 9223372036854775808) = false := by
      simp only [zw, Bool.or_eq_false_iff] at hz; exact hz.2
    rw [hf]; clear hf hz hx
    go_enter Tryd.func137, Tryd.ntmps137
    go_wp2
    go_ret
    exact ⟨rfl, rfl⟩
  · rw [hz] at e3
    have b1 := c_inf_lt
    have b2 := c_ninf_lt
    clear hx
    rcases zw_cases hz with rfl | rfl
    all_goals
      clear hz
      go_enter Tryd.func137, Tryd.ntmps137
      go_wp2_with (first | (simp only [q_pz]) | (simp only [q_nz]))
      go_ret
      exact ⟨rfl, rfl⟩
theorem l1SameFloat_c (x y : Nat) (hx : x < 2 ^ 64) (hy : y < 2 ^ 64) (w : World) : Calls Tryd.prog 127 #[.float .f64 x, .float .f64 y] w fun e w' => e = .returned (.bool (fsame x y)) ∧ w = w' := by
  have HX := hide hx
  have HY := hide hy
  cases n1 : Nanw x
  · cases n2 : Nanw y
    · have e5 := o_eq hx hy n1 n2
      have hf : fsame x y = (x == y) := by simp [fsame, n1, n2]
      rw [hf]
      by_cases hxy : x = y
      · subst hxy
        simp only [BEq.rfl, Bool.true_or] at e5
        clear hf hx hy n2
        go_enter Tryd.func127, Tryd.ntmps127
        go_wp2_with (first | (go_at_call 131; refine (l1IsNaN_c _ _).mono ?_; rintro e w' ⟨rfl, rfl⟩) | (go_at_call 137; refine (l1Minus_c _ HX.out _).mono ?_; rintro e w' ⟨rfl, rfl⟩))
        go_ret
        exact ⟨ret_bool (by simp), rfl⟩
      · have hxy' : (x == y) = false := by simpa using hxy
        rw [hxy'] at e5 ⊢
        cases hz : (zw x && zw y)
        · rw [hz] at e5
          clear hf hx hy hxy hz
          go_enter Tryd.func127, Tryd.ntmps127
          go_wp2_with (first | (go_at_call 131; refine (l1IsNaN_c _ _).mono ?_; rintro e w' ⟨rfl, rfl⟩))
          go_ret
          exact ⟨rfl, rfl⟩
        · rw [hz] at e5
          have hm : ((x == 9223372036854775808) == (y == 9223372036854775808)) = false := by
            simp only [Bool.and_eq_true] at hz
            rcases zw_cases hz.1 with h1 | h1 <;> rcases zw_cases hz.2 with h2 | h2 <;> subst h1 <;> subst h2 <;> first | rfl | exact absurd rfl hxy
          have HM := hide hm
          clear hf hx hy hxy hz hm
          go_enter Tryd.func127, Tryd.ntmps127
          go_wp2_with (first | (go_at_call 131; refine (l1IsNaN_c _ _).mono ?_; rintro e w' ⟨rfl, rfl⟩) | (go_at_call_of 137 (Value.float FloatKind.f64 x); refine (l1Minus_c x HX.out _).mono ?_; rintro e w' ⟨rfl, rfl⟩) | (go_at_call_of 137 (Value.float FloatKind.f64 y); refine (l1Minus_c y HY.out _).mono ?_; rintro e w' ⟨rfl, rfl⟩))
          go_ret
          exact ⟨ret_bool HM.out, rfl⟩
    · have hf : fsame x y = false := by simp [fsame, n1, n2]
      rw [hf]
      clear hf hx hy
      go_enter Tryd.func127, Tryd.ntmps127
      go_wp2_with (first | (go_at_call 131; refine (l1IsNaN_c _ _).mono ?_; rintro e w' ⟨rfl, rfl⟩))
      go_ret
      exact ⟨rfl, rfl⟩
  · have hf : fsame x y = Nanw y := by simp [fsame, n1]
    rw [hf]
    clear hf hx hy
    go_enter Tryd.func127, Tryd.ntmps127
    go_wp2_with (first | (go_at_call 131; refine (l1IsNaN_c _ _).mono ?_; rintro e w' ⟨rfl, rfl⟩))
    go_ret
    exact ⟨rfl, rfl⟩
theorem Signbit_c (x : Nat) (hx : x < 2 ^ 64) (w : World) : Calls Tryd.prog 138 #[.float .f64 x] w fun e w' => e = .returned (.bool (decide (9223372036854775808 ≤ x))) ∧ w = w' := by
  have HX := hide hx
  clear hx
  have hb := fun (args : Array Value) (W : World) => run_callFunc_extern Tryd.func141 (by kernel_rfl) (by kernel_rfl) (by kernel_rfl) (e := Extern.MathFloatBits.float64bits) (by kernel_rfl) args W
  have hr : ∀ (W : World), (Extern.MathFloatBits.float64bits #[.float .f64 x]).run Tryd.prog W = .ok (.int .u64 (x : Int)) W := fun _ => rfl
  go_enter Tryd.func138, Tryd.ntmps138
  go_wp2
  go_ret
  refine ⟨ret_bool ?_, rfl⟩
  have hx := HX.out
  rw [decide_eq_decide]
  unfold wrap64
  omega
theorem plusZero_c (x : Nat) (hx : x < 2 ^ 64) (w : World) : Calls Tryd.prog 129 #[.float .f64 x] w fun e w' => e = .returned (.bool (x == 0)) ∧ w = w' := by
  have e3 := o_zero hx
  cases hz : zw x
  · rw [hz] at e3
    have hf : (x == 0) = false := by
      simp only [zw, Bool.or_eq_false_iff] at hz; exact hz.1
    rw [hf]; clear hf hz hx
    go_enter Tryd.func129, Tryd.ntmps129
    go_wp2
    go_ret
    exact ⟨rfl, rfl⟩
  · rw [hz] at e3
    clear hx
    have hs := Signbit_c x (by rcases zw_cases hz with rfl | rfl <;> omega) w
    have hv : (!decide (9223372036854775808 ≤ x)) = (x == 0) := by rcases zw_cases hz with rfl | rfl <;> rfl
    have HV := hide hv
    have HS := hide hs
    clear hz hv hs
    go_enter Tryd.func129, Tryd.ntmps129
    go_wp2_with (go_at_call 138; refine (unhide HS).mono ?_; rintro e w' ⟨rfl, rfl⟩)
    go_ret
    exact ⟨ret_bool HV.out, rfl⟩
/-- float64(float32(x)): any value that the model may draw. -/
def Rnd (x y : Nat) : Prop := y < 2 ^ 64 ∧ (Nanw x = true → Nanw y = true) ∧ (Nanw x = false → isSgl x = true → y = x) ∧ (Nanw x = false → isSgl x = false → Ieee.double.order y x ≠ some .eq) ∧ (Nanw y = true ∨ isSgl y = true)
def RndQ (dt : Int) (x : Nat) (w : World) (v : Value) (w' : World) : Prop := ∃ y n, v = .float .f64 y ∧ w' = w.drewN n ∧ (if dt = 7 then Rnd x y else y = x)
theorem l1Single_c (x : Nat) (hx : x < 2 ^ 64) (w : World) : Calls Tryd.prog 132 #[.float .f64 x] w (Ret (RndQ 7 x w)) := by
  have h1 := fun W => run_narrow (P := Tryd.prog) 57 148 Tryd.underlying57 Tryd.underlying148 x W
  have h2 := fun s W => run_widen (P := Tryd.prog) 148 57 Tryd.underlying148 Tryd.underlying57 s W
  have HX := hide hx
  clear hx
  go_enter Tryd.func132, Tryd.ntmps132
  go_wp2
  go_ret
  exact ⟨_, rfl, _, _, rfl, rfl, by rw [if_pos rfl]; exact rnd_spec x HX.out _ _⟩
theorem l1Round_c (dt : Int) (x : Nat) (hx : x < 2 ^ 64) (w : World) : Calls Tryd.prog 117 #[.int .i64 dt, .float .f64 x] w (Ret (RndQ dt x w)) := by
  by_cases h : dt = 7
  · subst h
    go_enter Tryd.func117, Tryd.ntmps117
    go_wp2_with (go_at_call 132; refine (l1Single_c x hx _).mono ?_; rintro e w' ⟨_, rfl, y, n, rfl, rfl, hr⟩)
    go_ret
    exact ⟨_, rfl, y, n, rfl, rfl, hr⟩
  · have hb : (dt == 7) = false := by simpa using h
    have H := hide h
    clear h hx
    go_enter Tryd.func117, Tryd.ntmps117
    go_wp2
    go_ret
    exact ⟨_, rfl, x, 0, rfl, rfl, by rw [if_neg H.out]⟩
theorem l1Round_8 (x : Nat) (w : World) : Calls Tryd.prog 117 #[.int .i64 8, .float .f64 x] w fun e w' => e = .returned (.float .f64 x) ∧ w = w' := by
  go_enter Tryd.func117, Tryd.ntmps117
  go_wp2
  go_ret
  exact ⟨rfl, rfl⟩
theorem lwSameFloat_c (x y : Nat) (hx : x < 2 ^ 64) (hy : y < 2 ^ 64) (w : World) :
    Calls Tryd.prog 93 #[.float .f64 x, .float .f64 y] w fun e w' => e = .returned (.bool (fsame x y)) ∧ w = w' := by
  have e1 := o_self x
  have e2 := o_self y
  have e3 := o_zero_n hx
  cases n1 : Nanw x
  · cases n2 : Nanw y
    · rw [n1] at e1; rw [n2] at e2
      have e5 := o_eq hx hy n1 n2
      have hf : fsame x y = (x == y) := by simp [fsame, n1, n2]
      rw [hf]
      by_cases hz : zw x = true ∧ zw y = true
      · obtain ⟨z1, z2⟩ := hz
        rw [z1, z2] at e5; rw [z1] at e3
        simp only [Bool.and_self, Bool.or_true] at e5
        have b1 := c_inf_lt
        have b2 := c_ninf_lt
        clear hf n1 n2 hx hy
        rcases zw_cases z1 with rfl | rfl <;> rcases zw_cases z2 with rfl | rfl
        all_goals
          clear z1 z2
          go_enter Tryd.func93, Tryd.ntmps93
          go_wp2_with (first | (simp only [q_pz]) | (simp only [q_nz]))
          go_ret
          exact ⟨rfl, rfl⟩
      · have hzz : (zw x && zw y) = false := by rw [Bool.eq_false_iff]; simpa using hz
        rw [hzz, Bool.or_false] at e5
        cases hxy : x == y
        · rw [hxy] at e5
          clear hzz hz e3 hx hy n1 n2 hxy hf
          go_enter Tryd.func93, Tryd.ntmps93
          go_wp2
          go_ret
          exact ⟨rfl, rfl⟩
        · rw [hxy] at e5
          have : x = y := by simpa using hxy
          subst this
          have hzx : zw x = false := by simpa using hzz
          rw [hzx] at e3
          clear hzz hz hx hy n1 n2 hxy hf e2 hzx
          go_enter Tryd.func93, Tryd.ntmps93
          go_wp2
          go_ret
          exact ⟨rfl, rfl⟩
    · rw [n1] at e1; rw [n2] at e2
      have hf : fsame x y = false := by simp [fsame, n1, n2]
      rw [hf]
      clear n1 n2 e3 hx hy hf
      go_enter Tryd.func93, Tryd.ntmps93
      go_wp2
      go_ret
      exact ⟨rfl, rfl⟩
  · rw [n1] at e1
    have hf : fsame x y = (FloatKind.f64.format.order y y != some .eq) := by rw [e2]; simp [fsame, n1]
    rw [hf]
    clear n1 e3 hx hy e2 hf
    go_enter Tryd.func93, Tryd.ntmps93
    go_wp2
    go_ret
    exact ⟨rfl, rfl⟩
end Go.Proofs.YtnmnkiihbopebaaDoor
