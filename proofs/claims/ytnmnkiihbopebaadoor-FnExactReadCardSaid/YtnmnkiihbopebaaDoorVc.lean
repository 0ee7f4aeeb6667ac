/- ValidCell, of the reference and of the program. -/
import Derived.Test.YtnmnkiihbopebaaDoorFc
import Derived.Test.YtnmnkiihbopebaaDoorRow
import Derived.Deep.RegionHeld3
namespace Go.Proofs.YtnmnkiihbopebaaDoor
open Go.RowKit Go.Nd
attribute [local go_sem] run_store_float

def vld (dt : Int) (c : Cl) : Bool :=
  isDT dt && (if kindF dt < 2 then decide (lowF dt ≤ c.i) && decide (c.i ≤ highF dt) && (c.f == 0) && (c.g == 0)
    else if kindF dt = 2 then (c.i == 0) && (c.g == 0) && (dt == 8 || Nanw c.f || isSgl c.f)
    else c.i == 0)
theorem fsame_z (x : Nat) : fsame x 0 = (x == 0) := by
  unfold fsame
  rw [nan_zero, Bool.or_false, Bool.and_false]
  cases h : Nanw x
  · rfl
  · simp only [if_true]
    cases h0 : x == 0
    · rfl
    · have : x = 0 := by simpa using h0
      subst this; rw [nan_zero] at h; cases h
theorem rnd_same {x y : Nat} (hx : x < 2 ^ 64) (h : Rnd x y) : fsame y x = (Nanw x || isSgl x) := by
  obtain ⟨h0, h1, h2, h3, h4⟩ := h
  cases hn : Nanw x
  · cases hs : isSgl x
    · have h5 := h3 hn hs
      unfold fsame
      rw [hn, Bool.or_false, Bool.and_false]
      cases hy : Nanw y
      · simp only [Bool.false_eq_true, if_false]
        cases he : y == x
        · rfl
        · exfalso
          apply h5
          have : y = x := by simpa using he
          subst this
          rw [order_key Ieee.double dbl _ _ hn hn, cmp_eq rfl]
      · rfl
    · rw [h2 hn hs]; simp [fsame, hn]
  · unfold fsame
    rw [h1 hn, hn]; rfl
/-- spec.ValidCell. -/
theorem sValidCell_c (dt : Int) (c : Cl) (hc : c.wf) (w : World) :
    Calls Tryd.prog 103 #[.int .i64 dt, c.agg] w fun e w' => e = .returned (.bool (vld dt c)) ∧ Below w.heap.size w w' := by
  obtain ⟨i, f, g⟩ := c
  unfold Cl.agg
  obtain ⟨hf, hg⟩ := hc
  dsimp only at hf hg ⊢
  have HF := hide hf
  have HG := hide hg
  clear hf hg
  have e0 := fsame_z f
  have e1 := fsame_z g
  cases hd : isDT dt
  · have hv : vld dt ⟨i, f, g⟩ = false := by simp [vld, hd]
    have HV := hide hv
    clear hv
    go_enter Tryd.func103, Tryd.ntmps103
    go_wp2_with (go_at_call 102; refine (l1IsDType_c _ _).mono ?_; rintro e w' ⟨rfl, rfl⟩)
    go_ret
    exact ⟨ret_bool HV.out.symm, (below_a1 _ _)⟩
  · by_cases hk : kindF dt < 2
    · have hv : vld dt ⟨i, f, g⟩ = (decide (lowF dt ≤ i) && decide (i ≤ highF dt) && fsame f 0 && fsame g 0) := by simp [vld, hd, hk, e0, e1]
      rw [hv]
      clear hv e0 e1
      have hkb : decide (kindF dt < 2) = true := decide_eq_true hk
      clear hk
      have z64 : (0 : Nat) < 2 ^ 64 := by omega
      have Z64 := hide z64
      clear z64
      cases a1 : decide (lowF dt ≤ i)
      rotate_left
      cases a2 : decide (i ≤ highF dt)
      rotate_left
      cases a3 : fsame f 0
      rotate_left
      all_goals
        go_enter Tryd.func103, Tryd.ntmps103
        go_wp2_with (first | (go_at_call 102; refine (l1IsDType_c _ _).mono ?_; rintro e w' ⟨rfl, rfl⟩) | (go_at_call 114; refine (l1Kind_c _ _).mono ?_; rintro e w' ⟨rfl, rfl⟩))
        go_quiet ((first | (go_at_call 125; exact quiet_left (l1Low_c _ _)) | (go_at_call 126; exact quiet_left (l1High_c _ _)) | (go_at_call_of 127 (Value.float FloatKind.f64 f); exact quiet_left (l1SameFloat_c _ _ HF.out Z64.out _)) | (go_at_call_of 127 (Value.float FloatKind.f64 g); exact quiet_left (l1SameFloat_c _ _ HG.out Z64.out _))))
        go_wp2
        go_ret
        exact ⟨rfl, below_drewN (below_a1 _ _) _⟩
    · have hkb : decide (kindF dt < 2) = false := decide_eq_false hk
      by_cases hk2 : kindF dt = 2
      · have hk2b : (kindF dt == 2) = true := by simpa using hk2
        have hdt : dt = 7 ∨ dt = 8 := by
          grind [kindF, isDT]
        have hv : vld dt ⟨i, f, g⟩ = ((i == 0) && fsame g 0 && (dt == 8 || Nanw f || isSgl f)) := by unfold vld; rw [hd, if_neg hk, if_pos hk2, e1]; rfl
        rw [hv]
        clear hv e0 e1 hk hk2
        have z64 : (0 : Nat) < 2 ^ 64 := by omega
        have Z64 := hide z64
        clear z64
        rcases hdt with rfl | rfl
        · have hkv : kindF 7 = 2 := rfl
          clear hkb hk2b
          cases a1 : i == 0
          rotate_left
          cases a2 : fsame g 0
          rotate_left
          · go_enter Tryd.func103, Tryd.ntmps103
            go_wp2_with (first | (go_at_call 102; refine (l1IsDType_c _ _).mono ?_; rintro e w' ⟨rfl, rfl⟩) | (go_at_call 114; refine (l1Kind_c _ _).mono ?_; rintro e w' ⟨rfl, rfl⟩))
            go_region_held3 (fun w' => w'.cell? ⟨w.heap.size, 0, none⟩ = some (.int .i64 i) ∧ w'.cell? ⟨w.heap.size, 1, none⟩ = some (.float .f64 f) ∧ w'.cell? ⟨w.heap.size, 2, none⟩ = some (.float .f64 g)) (go_keep)
              (first | (go_at_call_of 127 (Value.float FloatKind.f64 g); refine (l1SameFloat_c _ _ HG.out Z64.out _).mono ?_; rintro e w' ⟨rfl, rfl⟩) | (go_at_call 117; refine (l1Round_c _ _ HF.out _).mono ?_; rintro e w' ⟨_, rfl, y, n, rfl, rfl, hr⟩) | (go_at_call 127; refine (l1SameFloat_c _ _ hr.1 HF.out _).mono ?_; rintro e w' ⟨rfl, rfl⟩))
            all_goals
              go_wp2
              go_ret
              exact ⟨ret_bool (by rw [rnd_same HF.out hr]; rfl), below_drewN (below_a1 _ _) _⟩
          all_goals
            go_enter Tryd.func103, Tryd.ntmps103
            go_wp2_with (first | (go_at_call 102; refine (l1IsDType_c _ _).mono ?_; rintro e w' ⟨rfl, rfl⟩) | (go_at_call 114; refine (l1Kind_c _ _).mono ?_; rintro e w' ⟨rfl, rfl⟩))
            go_quiet ((first | (go_at_call 127; exact quiet_left (l1SameFloat_c _ _ HG.out Z64.out _))))
            go_wp2
            go_ret
            exact ⟨rfl, below_drewN (below_a1 _ _) _⟩
        · have hkv : kindF 8 = 2 := rfl
          clear hkb hk2b
          have hff : fsame f f = true := by unfold fsame; cases Nanw f <;> simp
          cases a1 : i == 0
          rotate_left
          cases a2 : fsame g 0
          rotate_left
          all_goals
            go_enter Tryd.func103, Tryd.ntmps103
            go_wp2_with (first | (go_at_call 102; refine (l1IsDType_c _ _).mono ?_; rintro e w' ⟨rfl, rfl⟩) | (go_at_call 114; refine (l1Kind_c _ _).mono ?_; rintro e w' ⟨rfl, rfl⟩))
            go_quiet ((first | (go_at_call 117; exact quiet_left (l1Round_8 _ _)) | (go_at_call_of 127 (Value.float FloatKind.f64 g); exact quiet_left (l1SameFloat_c _ _ HG.out Z64.out _)) | (go_at_call 127; exact quiet_left (l1SameFloat_c _ _ HF.out HF.out _))))
            go_wp2
            go_ret
            exact ⟨rfl, below_drewN (below_a1 _ _) _⟩
      · have hk2b : (kindF dt == 2) = false := by simpa using hk2
        have hv : vld dt ⟨i, f, g⟩ = (i == 0) := by unfold vld; rw [hd, if_neg hk, if_neg hk2]; rfl
        rw [hv]
        clear hv e0 e1 hk hk2
        go_enter Tryd.func103, Tryd.ntmps103
        go_wp2_with (first | (go_at_call 102; refine (l1IsDType_c _ _).mono ?_; rintro e w' ⟨rfl, rfl⟩) | (go_at_call 114; refine (l1Kind_c _ _).mono ?_; rintro e w' ⟨rfl, rfl⟩))
        go_ret
        exact ⟨rfl, (below_a1 _ _)⟩
end Go.Proofs.YtnmnkiihbopebaaDoor
