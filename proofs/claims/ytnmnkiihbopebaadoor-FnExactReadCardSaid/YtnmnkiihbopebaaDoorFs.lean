/- Single precision: what float64(float32(x)) gives, whatever the model draws. -/
import Derived.Test.YtnmnkiihbopebaaDoorFm
import Derived.Deep.Draws
namespace Go.Nd
open Ieee

/-- A magnitude of at most so many digits is a rung's. -/
theorem rung_of (f : Format) (M E : Nat) (hM : M < 2 * f.binade) : ∃ r, V f r = M * 2 ^ E ∧ r < (E + 2) * f.binade := by
  have hb := binade_pos f
  induction E generalizing M with
  | zero =>
    by_cases h : M < f.binade
    · refine ⟨M, ?_, by omega⟩
      unfold V; rw [if_pos h]; simp
    · refine ⟨M, ?_, by omega⟩
      unfold V; rw [if_neg h]
      have hd : M / f.binade = 1 := by rw [Nat.div_eq_iff hb]; omega
      have hm : M % f.binade = M - f.binade := by
        have := Nat.div_add_mod M f.binade
        rw [hd] at this; omega
      rw [hd, hm]; simp; omega
  | succ E ih =>
    by_cases h : M < f.binade
    · obtain ⟨r, h1, h2⟩ := ih (2 * M) (by omega)
      refine ⟨r, ?_, by rw [Nat.succ_add, Nat.succ_mul]; omega⟩
      rw [h1, Nat.pow_succ]
      rw [Nat.mul_comm 2 M, Nat.mul_assoc, Nat.mul_comm 2]
    · refine ⟨(E + 1 + 1) * f.binade + (M - f.binade), ?_, ?_⟩
      · unfold V
        have hge : ¬ (E + 1 + 1) * f.binade + (M - f.binade) < f.binade := by rw [Nat.succ_mul]; omega
        rw [if_neg hge]
        have hd : ((E + 1 + 1) * f.binade + (M - f.binade)) / f.binade = E + 1 + 1 := by
          rw [Nat.div_eq_iff hb]; omega
        have hm : ((E + 1 + 1) * f.binade + (M - f.binade)) % f.binade = M - f.binade := by
          rw [Nat.mul_comm, Nat.mul_add_mod, Nat.mod_eq_of_lt (by omega)]
        rw [hd, hm]
        rw [show f.binade + (M - f.binade) = M by omega]
        rfl
      · rw [show E + 1 + 2 = (E + 1 + 1) + 1 from rfl, Nat.succ_mul (E + 1 + 1)]; omega


/-- The least places of the two formats part by so many. -/
def sh : Nat := 925
theorem sh_eq : sh = 925 := rfl
def Fin (f : Format) (x : Nat) : Prop := rung f x < f.infRung
/-- float64(s) of a single word, float32(x) of a double one, where the language fixes them. -/
def widen (s : Nat) : Nat := double.write (single.read s)
def narrow (x : Nat) : Nat := single.write (double.read x)
/-- Has single precision the number exactly? (of a double that is no NaN) -/
def isSgl (x : Nat) : Bool := widen (narrow x) == x

theorem sw1 : single.signWeight = 2 ^ 31 := rfl

theorem widen_fin (s : Nat) (h : Fin single s) : ∃ r, widen s = double.word (sgn single s) r ∧ V double r = V single (rung single s) * 2 ^ sh ∧ r < double.infRung := by
  obtain ⟨m, k, e, v⟩ := read_finite single s h
  obtain ⟨M, E, hV, hr, hM, _⟩ := V_parts single (rung single s)
  have hb : single.binade = 8388608 := by decide
  have hi : single.infRung = 2139095040 := by decide
  have hE : E ≤ 254 := by
    unfold Fin at h
    rw [hi] at h
    rw [hb] at hr
    omega
  obtain ⟨r, h1, h2⟩ := rung_of double M (E + sh) (by
    have : double.binade = 4503599627370496 := by decide
    rw [this]; rw [hb] at hM; omega)
  have hrl : r < double.infRung := by
    refine Nat.lt_of_lt_of_le h2 ?_
    have : double.infRung = 2047 * double.binade := rfl
    rw [this]
    exact Nat.mul_le_mul_right _ (by have := sh_eq; omega)
  have hVr : V double r = V single (rung single s) * 2 ^ sh := by rw [h1, hV, Nat.pow_add, Nat.mul_assoc]
  refine ⟨r, ?_, hVr, hrl⟩
  unfold widen
  rw [e]
  show double.nearest _ _ _ = _
  refine nearest_exact double _ m _ r (k + sh) 0 hrl ?_ ?_
  · rw [hVr, Nat.pow_add, ← Nat.mul_assoc, v]; simp
  · have e1 : single.leastPlace = -149 := by decide
    have e2 : double.leastPlace = -1074 := by decide
    rw [e1, e2]; have := sh_eq; omega

theorem dinf_lt : double.infRung < double.signWeight := double.infRung_lt
theorem sinf_lt : single.infRung < single.signWeight := single.infRung_lt

/-- The word nearest to what a widened finite single stands for is that single. -/
theorem narrow_widen_fin (s : Nat) (hs : s < 2 ^ 32) (h : Fin single s) : narrow (widen s) = s ∧ Fin double (widen s) ∧ widen s < 2 ^ 64 := by
  obtain ⟨r, e, hV, hr⟩ := widen_fin s h
  have hrs : r < double.signWeight := Nat.lt_trans hr dinf_lt
  have hrung : rung double (widen s) = r := by rw [e, rung_word _ _ _ hrs]
  have hsgn : sgn double (widen s) = sgn single s := by rw [e, sgn_word _ _ _ hrs]
  have hf : Fin double (widen s) := by unfold Fin; rw [hrung]; exact hr
  obtain ⟨m, k, e2, v⟩ := read_finite double (widen s) hf
  refine ⟨?_, hf, ?_⟩
  · unfold narrow
    rw [e2]
    show single.nearest _ _ _ = _
    rw [nearest_exact single _ m _ (rung single s) k sh h (by rw [v, hrung, hV]) (by
      have e1 : single.leastPlace = -149 := by decide
      have e2 : double.leastPlace = -1074 := by decide
      rw [e1, e2]; have := sh_eq; omega), hsgn, word_rung single s (by rw [sw1]; omega)]
  · rw [e]
    have := word_lt' double (sgn single s) r hrs
    rw [sw] at this; omega

theorem widen_inf (s : Nat) (h : rung single s = single.infRung) : widen s = double.word (sgn single s) double.infRung := by
  unfold widen
  rw [read_inf single s h sng]; rfl
theorem narrow_inf (x : Nat) (h : rung double x = double.infRung) : narrow x = single.word (sgn double x) single.infRung := by
  unfold narrow
  rw [read_inf double x h dbl]; rfl

theorem inf_word (x : Nat) (hx : x < 2 ^ 64) (h : rung double x = double.infRung) : double.word (sgn double x) double.infRung = x := by
  rw [← h]; exact word_rung double x (by rw [sw]; omega)

/-- An infinite double is had exactly. -/
theorem isSgl_inf (x : Nat) (hx : x < 2 ^ 64) (h : rung double x = double.infRung) : isSgl x = true := by
  unfold isSgl
  rw [narrow_inf x h]
  have hr := rung_word single (sgn double x) single.infRung sinf_lt
  rw [widen_inf _ hr, sgn_word _ _ _ sinf_lt, inf_word x hx h]
  simp

theorem narrow_lt (x : Nat) : narrow x < 2 ^ 32 := single.write_lt _
theorem widen_lt (s : Nat) : widen s < 2 ^ 64 := double.write_lt _

/-- A single word that is no NaN, widened, is had exactly. -/
theorem isSgl_widen (s : Nat) (hs : s < 2 ^ 32) (h : isNan single s = false) : isSgl (widen s) = true := by
  have h' : rung single s ≤ single.infRung := by simpa [isNan] using h
  rcases Nat.lt_or_eq_of_le h' with hl | he
  · unfold isSgl
    rw [(narrow_widen_fin s hs hl).1]; simp
  · have e := widen_inf s he
    exact isSgl_inf _ (widen_lt s) (by rw [e, rung_word _ _ _ dinf_lt])

/-- What a finite double is not had exactly as is no single word's. -/
theorem not_sgl_ne (x s : Nat) (hx : x < 2 ^ 64) (hs : s < 2 ^ 32) (hn : isNan single s = false) (hxs : isSgl x = false) : widen s ≠ x := by
  rintro rfl
  rw [isSgl_widen s hs hn] at hxs
  cases hxs

theorem nan_widen (s : Nat) (hs : s < 2 ^ 32) (h : isNan single s = false) : Nanw (widen s) = false := by
  have h' : rung single s ≤ single.infRung := by simpa [isNan] using h
  rcases Nat.lt_or_eq_of_le h' with hl | he
  · have := (narrow_widen_fin s hs hl).2.1
    unfold Fin at this
    simp only [Nanw, isNan, decide_eq_false_iff_not]; omega
  · rw [widen_inf s he]
    simp only [Nanw, isNan, decide_eq_false_iff_not, rung_word _ _ _ dinf_lt]; omega

/-- Both zeros are had exactly. -/
theorem isSgl_zero : isSgl 0 = true ∧ isSgl 9223372036854775808 = true := by decide

/-! ### what the model's conversions give, world by world -/
section
variable {P : Program}
/-- float32(x): the word, and whether the tape was asked. -/
def nrw (w : World) (x : Nat) : Nat :=
  match double.read x with
  | .nan _ _ => (Question.nanConv .f32 x).cut (w.tape w.drawn (.nanConv .f32 x))
  | .infinity _ => narrow x
  | .number _ _ _ => if (single.read (narrow x)).isInfinity then (Question.floatToFloat x).cut (w.tape w.drawn (.floatToFloat x)) else narrow x
def nrn (x : Nat) : Nat :=
  match double.read x with
  | .nan _ _ => 1
  | .infinity _ => 0
  | .number _ _ _ => if (single.read (narrow x)).isInfinity then 1 else 0
def wdw (w : World) (s : Nat) : Nat :=
  match single.read s with
  | .nan _ _ => (Question.nanConv .f64 s).cut (w.tape w.drawn (.nanConv .f64 s))
  | .infinity _ => widen s
  | .number _ _ _ => if (double.read (widen s)).isInfinity then (Question.floatToFloat s).cut (w.tape w.drawn (.floatToFloat s)) else widen s
def wdn (s : Nat) : Nat :=
  match single.read s with
  | .nan _ _ => 1
  | .infinity _ => 0
  | .number _ _ _ => if (double.read (widen s)).isInfinity then 1 else 0

theorem run_narrow (t1 t2 : TypeId) (hs : P.underlying t1 = some (.float .f64)) (hd : P.underlying t2 = some (.float .f32)) (x : Nat) (w : World) :
    (convert t1 t2 (.float .f64 x)).run P w = .ok (.float .f32 (nrw w x)) (w.drewN (nrn x)) := by
  unfold nrw nrn
  have e0 : FloatKind.f64.decode x = double.read x := rfl
  have e1 : FloatKind.f32.decode (FloatKind.f32.encode (double.read x)) = single.read (narrow x) := rfl
  cases h : double.read x with
  | nan a b => simp [convert, run_underlying hs, run_underlying hd, Conv.floatToFloat, e0, h, choose, Sem.run, Question.forced]; rfl
  | infinity a =>
    simp [convert, run_underlying hs, run_underlying hd, Conv.floatToFloat, e0, h, World.drewN]
    unfold narrow; rw [h]; rfl
  | number a b c =>
    rw [h] at e1
    by_cases hi : (single.read (narrow x)).isInfinity = true
    · simp [convert, run_underlying hs, run_underlying hd, Conv.floatToFloat, e0, h, e1, hi, choose, Sem.run, Question.forced]; rfl
    · simp [convert, run_underlying hs, run_underlying hd, Conv.floatToFloat, e0, h, e1, hi, World.drewN]
      unfold narrow; rw [h]; rfl
theorem run_widen (t1 t2 : TypeId) (hs : P.underlying t1 = some (.float .f32)) (hd : P.underlying t2 = some (.float .f64)) (x : Nat) (w : World) :
    (convert t1 t2 (.float .f32 x)).run P w = .ok (.float .f64 (wdw w x)) (w.drewN (wdn x)) := by
  unfold wdw wdn
  have e0 : FloatKind.f32.decode x = single.read x := rfl
  have e1 : FloatKind.f64.decode (FloatKind.f64.encode (single.read x)) = double.read (widen x) := rfl
  cases h : single.read x with
  | nan a b => simp [convert, run_underlying hs, run_underlying hd, Conv.floatToFloat, e0, h, choose, Sem.run, Question.forced]; rfl
  | infinity a =>
    simp [convert, run_underlying hs, run_underlying hd, Conv.floatToFloat, e0, h, World.drewN]
    unfold widen; rw [h]; rfl
  | number a b c =>
    rw [h] at e1
    by_cases hi : (double.read (widen x)).isInfinity = true
    · simp [convert, run_underlying hs, run_underlying hd, Conv.floatToFloat, e0, h, e1, hi, choose, Sem.run, Question.forced]; rfl
    · simp [convert, run_underlying hs, run_underlying hd, Conv.floatToFloat, e0, h, e1, hi, World.drewN]
      unfold widen; rw [h]; rfl
end


theorem nan_inj {a c : Bool} {b d : Nat} (h : Datum.nan a b = Datum.nan c d) : b = d := by injection h

theorem nan_cut32 (x t : Nat) : isNan single ((Question.nanConv .f32 x).cut t) = true ∧ (Question.nanConv .f32 x).cut t < 2 ^ 32 := by
  have e : (Question.nanConv .f32 x).cut t = (t % 2) * 2 ^ 31 + 0x7f800000 + 1 + (t / 2) % (2 ^ 23 - 1) := rfl
  have h1 : t % 2 < 2 := Nat.mod_lt _ (by omega)
  have h2 : (t / 2) % (2 ^ 23 - 1) < 2 ^ 23 - 1 := Nat.mod_lt _ (by omega)
  have hi : single.infRung = 2139095040 := by decide
  constructor
  · simp only [isNan, decide_eq_true_eq, hi, rung, sw1, e]
    rcases (show t % 2 = 0 ∨ t % 2 = 1 by omega) with h | h <;> rw [h] <;> omega
  · rw [e]; omega
theorem nan_cut64 (x t : Nat) : Nanw ((Question.nanConv .f64 x).cut t) = true ∧ (Question.nanConv .f64 x).cut t < 2 ^ 64 := by
  have e : (Question.nanConv .f64 x).cut t = (t % 2) * 2 ^ 63 + 0x7ff0000000000000 + 1 + (t / 2) % (2 ^ 52 - 1) := rfl
  have h1 : t % 2 < 2 := Nat.mod_lt _ (by omega)
  have h2 : (t / 2) % (2 ^ 52 - 1) < 2 ^ 52 - 1 := Nat.mod_lt _ (by omega)
  have hi : double.infRung = 9218868437227405312 := by decide
  constructor
  · simp only [Nanw, isNan, decide_eq_true_eq, hi, rung, sw, e]
    rcases (show t % 2 = 0 ∨ t % 2 = 1 by omega) with h | h <;> rw [h] <;> omega
  · rw [e]; omega

theorem wdw_nan (w : World) (s : Nat) (h : isNan single s = true) : Nanw (wdw w s) = true ∧ wdw w s < 2 ^ 64 := by
  obtain ⟨t, e⟩ := read_nan single s (by simpa [isNan] using h) sng
  unfold wdw; rw [e]
  exact nan_cut64 _ _
theorem wdw_fin (w : World) (s : Nat) (hs : s < 2 ^ 32) (h : isNan single s = false) : wdw w s = widen s := by
  have h' : rung single s ≤ single.infRung := by simpa [isNan] using h
  unfold wdw
  rcases Nat.lt_or_eq_of_le h' with hl | he
  · obtain ⟨m, k, e, _⟩ := read_finite single s hl
    obtain ⟨_, hf, _⟩ := narrow_widen_fin s hs hl
    obtain ⟨m2, k2, e2, _⟩ := read_finite double (widen s) hf
    rw [e]; simp only [e2]; rfl
  · rw [read_inf single s he sng]

theorem nrw_nan (w : World) (x : Nat) (h : Nanw x = true) : isNan single (nrw w x) = true ∧ nrw w x < 2 ^ 32 := by
  obtain ⟨t, e⟩ := read_nan double x (by simpa [Nanw, isNan] using h) dbl
  unfold nrw; rw [e]
  exact nan_cut32 _ _
theorem nrw_lt (w : World) (x : Nat) : nrw w x < 2 ^ 32 := by
  unfold nrw
  split
  · exact (nan_cut32 _ _).2
  · exact narrow_lt x
  · split
    · exact Nat.mod_lt _ (Nat.two_pow_pos _)
    · exact narrow_lt x
theorem isInf_iff (f : Format) (hb : f.binade ≤ f.infRung) (x : Nat) : (f.read x).isInfinity = true ↔ rung f x = f.infRung := by
  rcases Nat.lt_trichotomy (rung f x) f.infRung with h | h | h
  · obtain ⟨m, k, e, _⟩ := read_finite f x h
    rw [e]; simp only [Datum.isInfinity]; constructor
    · intro h'; cases h'
    · intro h'; omega
  · rw [read_inf f x h hb]; simp [Datum.isInfinity, h]
  · obtain ⟨t, e⟩ := read_nan f x h hb
    rw [e]; simp only [Datum.isInfinity]; constructor
    · intro h'; cases h'
    · intro h'; omega

/-- A double that single precision has is narrowed to that single, in every world. -/
theorem nrw_sgl (w : World) (x : Nat) (hn : Nanw x = false) (h : isSgl x = true) : nrw w x = narrow x ∧ isNan single (narrow x) = false := by
  have h' : rung double x ≤ double.infRung := by simpa [Nanw, isNan] using hn
  have hw : widen (narrow x) = x := by simpa [isSgl] using h
  have hnn : isNan single (narrow x) = false := by
    cases hc : isNan single (narrow x)
    · rfl
    · exfalso
      obtain ⟨t, e⟩ := read_nan single (narrow x) (by simpa [isNan] using hc) sng
      have hx2 : Nanw (widen (narrow x)) = true := by
        unfold widen; rw [e]
        have hlt : single.infRung < rung single (narrow x) := by simpa [isNan] using hc
        show decide _ = true
        rw [decide_eq_true_eq]
        show double.infRung < rung double (double.word _ (double.infRung + t % double.binade))
        have hb2 := double.infRung_add_binade
        have htm : t % double.binade < double.binade := Nat.mod_lt _ (binade_pos double)
        rw [rung_word _ _ _ (by rw [← hb2]; exact Nat.add_lt_add_left htm _)]
        have ht : t = rung single (narrow x) - single.infRung := by
          exact (nan_inj ((read_nan_eq single (narrow x) hlt sng).symm.trans e)).symm
        have hr2 : rung single (narrow x) < single.signWeight := Nat.mod_lt _ (Nat.two_pow_pos _)
        have hb3 := single.infRung_add_binade
        have hbb : single.binade = 8388608 := by decide
        have hbd : double.binade = 4503599627370496 := by decide
        rw [Nat.mod_eq_of_lt (by rw [hbd]; omega)]
        exact Nat.lt_add_of_pos_right (by omega)
      rw [hw, hn] at hx2
      cases hx2
  refine ⟨?_, hnn⟩
  unfold nrw
  rcases Nat.lt_or_eq_of_le h' with hl | he
  · obtain ⟨m, k, e, _⟩ := read_finite double x hl
    rw [e]
    simp only
    rw [if_neg]
    intro hc
    have hi := (isInf_iff single sng _).1 hc
    rw [widen_inf _ hi] at hw
    have : rung double x = double.infRung := by rw [← hw, rung_word _ _ _ dinf_lt]
    exact absurd hl (by rw [this]; exact Nat.lt_irrefl _)
  · rw [read_inf double x he dbl]

/-- float64(float32(x)), whatever is drawn. -/
theorem rnd_spec (x : Nat) (hx : x < 2 ^ 64) (w w' : World) : wdw w' (nrw w x) < 2 ^ 64 ∧ (Nanw x = true → Nanw (wdw w' (nrw w x)) = true) ∧ (Nanw x = false → isSgl x = true → wdw w' (nrw w x) = x) ∧
    (Nanw x = false → isSgl x = false → double.order (wdw w' (nrw w x)) x ≠ some .eq) ∧ (Nanw (wdw w' (nrw w x)) = true ∨ isSgl (wdw w' (nrw w x)) = true) := by
  have hs := nrw_lt w x
  cases hns : isNan single (nrw w x)
  · have e := wdw_fin w' (nrw w x) hs hns
    rw [e]
    refine ⟨widen_lt _, ?_, ?_, ?_, .inr (isSgl_widen _ hs hns)⟩
    · intro h
      rw [(nrw_nan w x h).1] at hns; cases hns
    · intro h1 h2
      rw [(nrw_sgl w x h1 h2).1]
      simpa [isSgl] using h2
    · intro h1 h2 hc
      rcases (order_eq_iff (widen_lt _) hx).1 hc with ⟨_, _, h | ⟨_, h⟩⟩
      · exact not_sgl_ne x _ hx hs hns h2 h
      · rcases zero_word hx h with rfl | rfl
        · rw [isSgl_zero.1] at h2; cases h2
        · rw [isSgl_zero.2] at h2; cases h2
  · obtain ⟨h1, h2⟩ := wdw_nan w' _ hns
    refine ⟨h2, fun _ => h1, ?_, ?_, .inl h1⟩
    · intro a b
      have := nrw_sgl w x a b
      rw [this.1, this.2] at hns; cases hns
    · intro a b hc
      rw [order_nan double dbl _ _ (.inl h1)] at hc; cases hc

theorem rnd_cmp (x : Nat) (hx : x < 2 ^ 64) (hn : Nanw x = false) (w w' : World) : (double.order (wdw w' (nrw w x)) x == some .eq) = isSgl x := by
  obtain ⟨_, _, h1, h2, _⟩ := rnd_spec x hx w w'
  cases h : isSgl x
  · have := h2 hn h
    simpa using this
  · rw [h1 hn h, order_key double dbl x x hn hn, cmp_eq rfl]; rfl

end Go.Nd
