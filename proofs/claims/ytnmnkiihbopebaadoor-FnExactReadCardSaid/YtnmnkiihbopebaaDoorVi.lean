/- ValidCell of the program: over the table of dtypes. -/
import Derived.Test.YtnmnkiihbopebaaDoorVc
namespace Go.Proofs.YtnmnkiihbopebaaDoor
open Go.RowKit Go.Nd
attribute [local go_sem] run_store_float

/-- The table of dtypes, as it is laid. -/
def tabL : List Value := [.int .i64 0, .int .i64 0, .int .i64 0, .int .i64 0, .int .i64 0, .int .i64 0, .int .i64 1, .int .i64 0, .int .i64 0, .int .i64 1, .int .i64 1, .int .i64 1, .int .i64 8, .int .i64 (-128), .int .i64 127,
  .int .i64 1, .int .i64 1, .int .i64 8, .int .i64 0, .int .i64 255, .int .i64 1, .int .i64 2, .int .i64 16, .int .i64 (-32768), .int .i64 32767, .int .i64 1, .int .i64 4, .int .i64 32, .int .i64 (-2147483648), .int .i64 2147483647,
  .int .i64 1, .int .i64 8, .int .i64 64, .int .i64 (-9223372036854775808), .int .i64 9223372036854775807, .int .i64 2, .int .i64 4, .int .i64 0, .int .i64 0, .int .i64 0, .int .i64 2, .int .i64 8, .int .i64 0, .int .i64 0, .int .i64 0,
  .int .i64 3, .int .i64 16, .int .i64 0, .int .i64 0, .int .i64 0]
def Tab (w : World) : Prop := ∀ j u, tabL[j]? = some u → w.cell? ⟨0, j, none⟩ = some u
theorem Tab.below {B : Nat} {w w' : World} (h : Tab w) (hb : Below B w w') (hB : 0 < B) : Tab w' := fun j u hu => (hb.cell (p := ⟨0, j, none⟩) hB).trans (h j u hu)
theorem Tab.drewN {w : World} (h : Tab w) (n : Nat) : Tab (w.drewN n) := h
theorem Tab.pos {w : World} (h : Tab w) : 0 < w.heap.size := cell_lt (h 0 _ rfl)
theorem Tab.five {w : World} (h : Tab w) (k : Nat) {a b c d e : Value} (ha : tabL[k * 5]? = some a) (hb : tabL[k * 5 + 1]? = some b) (hc : tabL[k * 5 + 2]? = some c) (hd : tabL[k * 5 + 3]? = some d) (he : tabL[k * 5 + 4]? = some e) :
    w.cell? ⟨0, k * 5, none⟩ = some a ∧ w.cell? ⟨0, k * 5 + 1, none⟩ = some b ∧ w.cell? ⟨0, k * 5 + 2, none⟩ = some c ∧ w.cell? ⟨0, k * 5 + 3, none⟩ = some d ∧ w.cell? ⟨0, k * 5 + 4, none⟩ = some e :=
  ⟨h _ _ ha, h _ _ hb, h _ _ hc, h _ _ hd, h _ _ he⟩
set_option maxHeartbeats 4000000 in
/-- impl.ValidCell. -/
theorem iValidCell_c (dt : Int) (c : Cl) (hc : c.wf) (w : World) (hT : Tab w) :
    Calls Tryd.prog 108 #[.int .i64 dt, c.agg] w fun e w' => e = .returned (.bool (vld dt c)) ∧ Below w.heap.size w w' := by
  obtain ⟨i, f, g⟩ := c
  unfold Cl.agg
  obtain ⟨hf, hg⟩ := hc
  dsimp only at hf hg ⊢
  have HF := hide hf
  have HG := hide hg
  clear hf hg
  cases hd : isDT dt
  · have hv : vld dt ⟨i, f, g⟩ = false := by simp [vld, hd]
    have HV := hide hv
    clear hv
    go_enter Tryd.func108, Tryd.ntmps108
    go_wp2_with (go_at_call 107; refine (isDType_c _ _).mono ?_; rintro e w' ⟨rfl, rfl⟩)
    go_ret
    exact ⟨ret_bool HV.out.symm, below_a1 _ _⟩
  · have hdt : dt = 1 ∨ dt = 2 ∨ dt = 3 ∨ dt = 4 ∨ dt = 5 ∨ dt = 6 ∨ dt = 9 ∨ dt = 8 ∨ dt = 7 := by
      simp only [isDT, Bool.and_eq_true, decide_eq_true_eq] at hd; omega
    have hpos := hT.pos
    rcases hdt with rfl | rfl | rfl | rfl | rfl | rfl | rfl | rfl | rfl
    · obtain ⟨t0, t1, t2, t3, t4⟩ := hT.five 1 rfl rfl rfl rfl rfl
      have hv : vld 1 ⟨i, f, g⟩ = (decide (0 ≤ i) && decide (i ≤ 1) && (f == 0) && (g == 0)) := rfl
      rw [hv]
      clear hv hT
      go_enter Tryd.func108, Tryd.ntmps108
      go_wp2_with (first | (go_at_call 107; refine (isDType_c _ _).mono ?_; rintro e w' ⟨rfl, rfl⟩) | (go_at_call_of 129 (Value.float FloatKind.f64 f); refine (plusZero_c _ HF.out _).mono ?_; rintro e w' ⟨rfl, rfl⟩) | (go_at_call_of 129 (Value.float FloatKind.f64 g); refine (plusZero_c _ HG.out _).mono ?_; rintro e w' ⟨rfl, rfl⟩))
      all_goals
        go_ret
        exact ⟨ret_bool (by grind), below_a2 _ _ _⟩
    · obtain ⟨t0, t1, t2, t3, t4⟩ := hT.five 2 rfl rfl rfl rfl rfl
      have hv : vld 2 ⟨i, f, g⟩ = (decide ((-128) ≤ i) && decide (i ≤ 127) && (f == 0) && (g == 0)) := rfl
      rw [hv]
      clear hv hT
      go_enter Tryd.func108, Tryd.ntmps108
      go_wp2_with (first | (go_at_call 107; refine (isDType_c _ _).mono ?_; rintro e w' ⟨rfl, rfl⟩) | (go_at_call_of 129 (Value.float FloatKind.f64 f); refine (plusZero_c _ HF.out _).mono ?_; rintro e w' ⟨rfl, rfl⟩) | (go_at_call_of 129 (Value.float FloatKind.f64 g); refine (plusZero_c _ HG.out _).mono ?_; rintro e w' ⟨rfl, rfl⟩))
      all_goals
        go_ret
        exact ⟨ret_bool (by grind), below_a2 _ _ _⟩
    · obtain ⟨t0, t1, t2, t3, t4⟩ := hT.five 3 rfl rfl rfl rfl rfl
      have hv : vld 3 ⟨i, f, g⟩ = (decide (0 ≤ i) && decide (i ≤ 255) && (f == 0) && (g == 0)) := rfl
      rw [hv]
      clear hv hT
      go_enter Tryd.func108, Tryd.ntmps108
      go_wp2_with (first | (go_at_call 107; refine (isDType_c _ _).mono ?_; rintro e w' ⟨rfl, rfl⟩) | (go_at_call_of 129 (Value.float FloatKind.f64 f); refine (plusZero_c _ HF.out _).mono ?_; rintro e w' ⟨rfl, rfl⟩) | (go_at_call_of 129 (Value.float FloatKind.f64 g); refine (plusZero_c _ HG.out _).mono ?_; rintro e w' ⟨rfl, rfl⟩))
      all_goals
        go_ret
        exact ⟨ret_bool (by grind), below_a2 _ _ _⟩
    · obtain ⟨t0, t1, t2, t3, t4⟩ := hT.five 4 rfl rfl rfl rfl rfl
      have hv : vld 4 ⟨i, f, g⟩ = (decide ((-32768) ≤ i) && decide (i ≤ 32767) && (f == 0) && (g == 0)) := rfl
      rw [hv]
      clear hv hT
      go_enter Tryd.func108, Tryd.ntmps108
      go_wp2_with (first | (go_at_call 107; refine (isDType_c _ _).mono ?_; rintro e w' ⟨rfl, rfl⟩) | (go_at_call_of 129 (Value.float FloatKind.f64 f); refine (plusZero_c _ HF.out _).mono ?_; rintro e w' ⟨rfl, rfl⟩) | (go_at_call_of 129 (Value.float FloatKind.f64 g); refine (plusZero_c _ HG.out _).mono ?_; rintro e w' ⟨rfl, rfl⟩))
      all_goals
        go_ret
        exact ⟨ret_bool (by grind), below_a2 _ _ _⟩
    · obtain ⟨t0, t1, t2, t3, t4⟩ := hT.five 5 rfl rfl rfl rfl rfl
      have hv : vld 5 ⟨i, f, g⟩ = (decide ((-2147483648) ≤ i) && decide (i ≤ 2147483647) && (f == 0) && (g == 0)) := rfl
      rw [hv]
      clear hv hT
      go_enter Tryd.func108, Tryd.ntmps108
      go_wp2_with (first | (go_at_call 107; refine (isDType_c _ _).mono ?_; rintro e w' ⟨rfl, rfl⟩) | (go_at_call_of 129 (Value.float FloatKind.f64 f); refine (plusZero_c _ HF.out _).mono ?_; rintro e w' ⟨rfl, rfl⟩) | (go_at_call_of 129 (Value.float FloatKind.f64 g); refine (plusZero_c _ HG.out _).mono ?_; rintro e w' ⟨rfl, rfl⟩))
      all_goals
        go_ret
        exact ⟨ret_bool (by grind), below_a2 _ _ _⟩
    · obtain ⟨t0, t1, t2, t3, t4⟩ := hT.five 6 rfl rfl rfl rfl rfl
      have hv : vld 6 ⟨i, f, g⟩ = (decide ((-9223372036854775808) ≤ i) && decide (i ≤ 9223372036854775807) && (f == 0) && (g == 0)) := rfl
      rw [hv]
      clear hv hT
      go_enter Tryd.func108, Tryd.ntmps108
      go_wp2_with (first | (go_at_call 107; refine (isDType_c _ _).mono ?_; rintro e w' ⟨rfl, rfl⟩) | (go_at_call_of 129 (Value.float FloatKind.f64 f); refine (plusZero_c _ HF.out _).mono ?_; rintro e w' ⟨rfl, rfl⟩) | (go_at_call_of 129 (Value.float FloatKind.f64 g); refine (plusZero_c _ HG.out _).mono ?_; rintro e w' ⟨rfl, rfl⟩))
      all_goals
        go_ret
        exact ⟨ret_bool (by grind), below_a2 _ _ _⟩
    · obtain ⟨t0, t1, t2, t3, t4⟩ := hT.five 9 rfl rfl rfl rfl rfl
      have hv : vld 9 ⟨i, f, g⟩ = (i == 0) := rfl
      rw [hv]
      clear hv hT
      go_enter Tryd.func108, Tryd.ntmps108
      go_wp2_with (first | (go_at_call 107; refine (isDType_c _ _).mono ?_; rintro e w' ⟨rfl, rfl⟩) | (go_at_call_of 129 (Value.float FloatKind.f64 f); refine (plusZero_c _ HF.out _).mono ?_; rintro e w' ⟨rfl, rfl⟩) | (go_at_call_of 129 (Value.float FloatKind.f64 g); refine (plusZero_c _ HG.out _).mono ?_; rintro e w' ⟨rfl, rfl⟩))
      all_goals
        go_ret
        exact ⟨ret_bool (by grind), below_a2 _ _ _⟩
    · obtain ⟨t0, t1, t2, t3, t4⟩ := hT.five 8 rfl rfl rfl rfl rfl
      have hv : vld 8 ⟨i, f, g⟩ = ((i == 0) && (g == 0)) := by simp [vld, isDT, kindF]
      have h1 := fun W => run_narrow (P := Tryd.prog) 57 148 Tryd.underlying57 Tryd.underlying148 f W
      have h2 := fun s W => run_widen (P := Tryd.prog) 148 57 Tryd.underlying148 Tryd.underlying57 s W
      rw [hv]
      clear hv hT
      go_enter Tryd.func108, Tryd.ntmps108
      go_wp2_with (first | (go_at_call 107; refine (isDType_c _ _).mono ?_; rintro e w' ⟨rfl, rfl⟩) | (go_at_call 129; refine (plusZero_c _ HG.out _).mono ?_; rintro e w' ⟨rfl, rfl⟩))
      all_goals
        go_ret
        exact ⟨ret_bool (by grind), by first | exact below_a2 _ _ _ | exact below_drewN (below_a2 _ _ _) _⟩
    · obtain ⟨t0, t1, t2, t3, t4⟩ := hT.five 7 rfl rfl rfl rfl rfl
      have hv : vld 7 ⟨i, f, g⟩ = ((i == 0) && (g == 0) && (Nanw f || isSgl f)) := by simp [vld, isDT, kindF]
      have e1 := o_self f
      cases hn : Nanw f
      · have h1 := fun W => run_narrow (P := Tryd.prog) 57 148 Tryd.underlying57 Tryd.underlying148 f W
        have h2 := fun s W => run_widen (P := Tryd.prog) 148 57 Tryd.underlying148 Tryd.underlying57 s W
        have h3 : ∀ W W', (FloatKind.f64.format.order (wdw W' (nrw W f)) f == some .eq) = isSgl f := fun W W' => rnd_cmp f HF.out hn W W'
        rw [hv, hn]
        rw [hn] at e1
        clear hv hT hn
        go_enter Tryd.func108, Tryd.ntmps108
        go_wp2_with (first | (go_at_call 107; refine (isDType_c _ _).mono ?_; rintro e w' ⟨rfl, rfl⟩) | (go_at_call 129; refine (plusZero_c _ HG.out _).mono ?_; rintro e w' ⟨rfl, rfl⟩))
        all_goals
          go_ret
          exact ⟨ret_bool (by grind), by first | exact below_a2 _ _ _ | exact below_drewN (below_a2 _ _ _) _⟩
      · rw [hv, hn]
        rw [hn] at e1
        clear hv hT hn
        go_enter Tryd.func108, Tryd.ntmps108
        go_wp2_with (first | (go_at_call 107; refine (isDType_c _ _).mono ?_; rintro e w' ⟨rfl, rfl⟩) | (go_at_call 129; refine (plusZero_c _ HG.out _).mono ?_; rintro e w' ⟨rfl, rfl⟩))
        all_goals
          go_ret
          exact ⟨ret_bool (by grind), below_a2 _ _ _⟩
end Go.Proofs.YtnmnkiihbopebaaDoor
