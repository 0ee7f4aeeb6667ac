/- The implementation's count, goodShape, ValidView. -/
import Derived.Test.YtnmnkiihbopebaaDoorSb
namespace Go.Proofs.YtnmnkiihbopebaaDoor
open Go.RowKit Go.Nd
attribute [local go_sem] run_store_float

theorem icount_c {B : Nat} (A : Option Addr) (c : Nat) (sh : List Int) (w : World) (h4 : sh.length ≤ 4) (hok : ∀ x ∈ sh, 0 ≤ x ∧ x ≤ 4096) (hA : AtB B w A (ivs sh)) :
    Calls Tryd.prog 53 #[.slice A sh.length c] w fun e w' => e = .returned (.int .i64 (prodI sh)) ∧ w = w' := by
  have HA := hide hA.now
  have HOK := hide (show ∀ (j : Nat) (hj : j < sh.length), 0 ≤ sh[j] ∧ sh[j] ≤ 4096 from fun j hj => hok _ (List.getElem_mem hj))
  have H4 := hide h4
  clear hA hok
  go_enter Tryd.func53, Tryd.ntmps53
  go_wp2_with fail
  go_loop [3, 8] (fun n i => ∃ k : Nat, k ≤ sh.length ∧ i = .int .i64 k ∧ n = .int .i64 (prodI (sh.take k))) (fun _ i => sh.length - (intOf i).toNat)
  case atStart => exact ⟨0, Nat.zero_le _, rfl, rfl⟩
  case round =>
    obtain ⟨k, hk, rfl, rfl⟩ := hrel
    by_cases hlt : k < sh.length
    · obtain ⟨b, o, rfl, hbl, h0⟩ := at_int HA.out hlt
      have hm := hide (prod_step sh k H4.out hlt (fun j _ hj => HOK.out j hj) (HOK.out k hlt))
      go_wp2_with fail
      go_round
      case rel => exact ⟨k + 1, hlt, by go_num, int_eq hm.out⟩
      case measure => simp [intOf]; omega
    · obtain rfl : k = sh.length := by omega
      rw [List.take_length]
      go_wp2_with fail
      go_ret
      exact ⟨rfl, rfl⟩
theorem igoodShape_c {B : Nat} (A : Option Addr) (c : Nat) (sh : List Int) (w : World) (hn : sh.length ≤ 1048576) (hA : AtB B w A (ivs sh)) :
    Calls Tryd.prog 52 #[.slice A sh.length c] w fun e w' => e = .returned (.bool (goodSh sh)) ∧ w = w' := by
  have HA := hide hA.now
  clear hA
  by_cases h4 : sh.length ≤ 4
  · have h4b : decide (4 < sh.length) = false := decide_eq_false (by omega)
    have H4 := hide h4
    go_enter Tryd.func52, Tryd.ntmps52
    go_wp2_with fail
    go_loop [10] (fun i => ∃ k : Nat, k ≤ sh.length ∧ i = .int .i64 k ∧ Hid (∀ (j : Nat) (_ : j < k) (hj : j < sh.length), 0 ≤ sh[j] ∧ sh[j] ≤ 4096)) (fun i => sh.length - (intOf i).toNat)
    case atStart => exact ⟨0, Nat.zero_le _, rfl, hide (fun j hj => by omega)⟩
    case round =>
      obtain ⟨k, hk, rfl, HOK⟩ := hrel
      by_cases hlt : k < sh.length
      · obtain ⟨b, o, rfl, hbl, h0⟩ := at_int HA.out hlt
        by_cases hx0 : sh[k] < 0
        · have HC := hide (show goodSh sh = false by
            rw [Bool.eq_false_iff, Ne, goodSh_iff]; rintro ⟨_, h, _⟩; have := h sh[k] (List.getElem_mem hlt); omega)
          go_wp2_with fail
          go_ret
          exact ⟨ret_bool HC.out.symm, rfl⟩
        · by_cases hx1 : 4096 < sh[k]
          · have HC := hide (show goodSh sh = false by
              rw [Bool.eq_false_iff, Ne, goodSh_iff]; rintro ⟨_, h, _⟩; have := h sh[k] (List.getElem_mem hlt); omega)
            go_wp2_with fail
            go_ret
            exact ⟨ret_bool HC.out.symm, rfl⟩
          · go_wp2_with fail
            go_round
            case rel =>
              refine ⟨k + 1, hlt, by go_num, hide fun j hj hj2 => ?_⟩
              rcases Nat.lt_or_ge j k with h' | h'
              · exact HOK.out j h' hj2
              · obtain rfl : j = k := by omega
                exact ⟨by omega, by omega⟩
            case measure => simp [intOf]; omega
      · obtain rfl : k = sh.length := by omega
        have HALL := hide (show ∀ x ∈ sh, 0 ≤ x ∧ x ≤ 4096 by
          intro x hx
          obtain ⟨j, hj, rfl⟩ := List.getElem_of_mem hx
          exact HOK.out j hj hj)
        have HC := hide (show goodSh sh = decide (prodI sh ≤ 4096) by
          rw [Bool.eq_iff_iff, goodSh_iff, decide_eq_true_eq]; exact ⟨fun h => h.2.2, fun h => ⟨H4.out, HALL.out, h⟩⟩)
        go_wp2_with (go_at_call 53; refine (icount_c _ _ sh _ H4.out HALL.out HA.out).mono ?_; rintro e w' ⟨rfl, rfl⟩)
        go_ret
        exact ⟨ret_bool HC.out.symm, rfl⟩
  · have h4b : decide (4 < sh.length) = true := decide_eq_true (by omega)
    have HC := hide (show goodSh sh = false by
      rw [Bool.eq_false_iff, Ne, goodSh_iff]; rintro ⟨h, _⟩; omega)
    go_enter Tryd.func52, Tryd.ntmps52
    go_wp2_with fail
    go_ret
    exact ⟨ret_bool HC.out.symm, rfl⟩
/-- The least and the greatest place. -/
def loF : List Int → List Int → Int → Int
  | n :: sh, s :: st, a => loF sh st (a + min (s * (n - 1)) 0)
  | _, _, a => a
def hiF : List Int → List Int → Int → Int
  | n :: sh, s :: st, a => hiF sh st (a + max (s * (n - 1)) 0)
  | _, _, a => a
theorem loF_add (sh st : List Int) (a d : Int) : loF sh st (a + d) = loF sh st a + d := by
  induction sh generalizing st a with
  | nil => cases st <;> rfl
  | cons n sh ih =>
    cases st with
    | nil => rfl
    | cons s st => simp only [loF]; rw [show a + d + min (s * (n - 1)) 0 = a + min (s * (n - 1)) 0 + d by omega]; exact ih st _
theorem hiF_add (sh st : List Int) (a d : Int) : hiF sh st (a + d) = hiF sh st a + d := by
  induction sh generalizing st a with
  | nil => cases st <;> rfl
  | cons n sh ih =>
    cases st with
    | nil => rfl
    | cons s st => simp only [hiF]; rw [show a + d + max (s * (n - 1)) 0 = a + max (s * (n - 1)) 0 + d by omega]; exact ih st _
theorem loF_mono (sh st : List Int) (a b : Int) (h : a ≤ b) : loF sh st a ≤ loF sh st b := by
  have := loF_add sh st a (b - a)
  rw [show a + (b - a) = b by omega] at this
  omega
theorem hiF_mono (sh st : List Int) (a b : Int) (h : a ≤ b) : hiF sh st a ≤ hiF sh st b := by
  have := hiF_add sh st a (b - a)
  rw [show a + (b - a) = b by omega] at this
  omega
theorem mul_min (i n s : Int) (h0 : 0 ≤ i) (h1 : i ≤ n - 1) : min (s * (n - 1)) 0 ≤ i * s ∧ i * s ≤ max (s * (n - 1)) 0 := by
  rcases Int.le_total 0 s with h | h
  · have a1 := Int.mul_nonneg h0 h
    have a2 := Int.mul_le_mul_of_nonneg_right h1 h
    have a3 : s * (n - 1) = (n - 1) * s := Int.mul_comm _ _
    omega
  · have a1 : i * s ≤ 0 := Int.mul_nonpos_of_nonneg_of_nonpos h0 h
    have a2 := Int.mul_le_mul_of_nonpos_right h1 h
    have a3 : s * (n - 1) = (n - 1) * s := Int.mul_comm _ _
    omega
theorem places_reach (sh st : List Int) (a : Int) (hl : st.length = sh.length) (h1 : ∀ x ∈ sh, 1 ≤ x) :
    (∀ p ∈ placesF sh st a, loF sh st a ≤ p ∧ p ≤ hiF sh st a) ∧ loF sh st a ∈ placesF sh st a ∧ hiF sh st a ∈ placesF sh st a := by
  induction sh generalizing st a with
  | nil => cases st with
    | nil => simp [placesF, loF, hiF]
    | cons s st => simp at hl
  | cons n sh ih =>
    cases st with
    | nil => simp at hl
    | cons s st =>
      have hl' : st.length = sh.length := by simpa using hl
      have ih' := fun b => ih st b hl' fun x hx => h1 x (by simp [hx])
      have hn : 1 ≤ n := h1 n (by simp)
      simp only [placesF, List.mem_flatMap, List.mem_range, loF, hiF, List.tail_cons, List.headD_cons]
      have hmem : ∀ (i : Nat) (q : Int), (i : Int) ≤ n - 1 → q ∈ placesF sh st (a + (i : Int) * s) → ∃ i, i < n.toNat ∧ q ∈ placesF sh st (a + (i : Int) * s) := fun i q hi hq => ⟨i, by omega, hq⟩
      have hz : a + ((0 : Nat) : Int) * s = a := by simp
      have hl1 : a + (((n - 1).toNat : Nat) : Int) * s = a + s * (n - 1) := by rw [Int.toNat_of_nonneg (by omega), Int.mul_comm]
      refine ⟨?_, ?_, ?_⟩
      · rintro p ⟨i, hi, hp⟩
        have hb := (ih' _).1 p hp
        have hm := mul_min i n s (by omega) (by omega)
        have m1 := loF_mono sh st (a + min (s * (n - 1)) 0) (a + (i : Int) * s) (by omega)
        have m2 := hiF_mono sh st (a + (i : Int) * s) (a + max (s * (n - 1)) 0) (by omega)
        omega
      · rcases Int.le_total (s * (n - 1)) 0 with h | h
        · refine hmem (n - 1).toNat _ (by omega) ?_
          rw [hl1, Int.min_eq_left h]
          exact (ih' _).2.1
        · refine hmem 0 _ (by omega) ?_
          rw [hz, Int.min_eq_right h, Int.add_zero]
          exact (ih' _).2.1
      · rcases Int.le_total (s * (n - 1)) 0 with h | h
        · refine hmem 0 _ (by omega) ?_
          rw [hz, Int.max_eq_right h, Int.add_zero]
          exact (ih' _).2.2
        · refine hmem (n - 1).toNat _ (by omega) ?_
          rw [hl1, Int.max_eq_left h]
          exact (ih' _).2.2
theorem places_all (sh st : List Int) (a : Int) (hl : st.length = sh.length) (h1 : ∀ x ∈ sh, 1 ≤ x) : (placesF sh st a).all okPl = (decide (0 ≤ loF sh st a) && decide (hiF sh st a < 4096)) := by
  obtain ⟨p1, p2, p3⟩ := places_reach sh st a hl h1
  rw [Bool.eq_iff_iff]
  simp only [List.all_eq_true, Bool.and_eq_true, decide_eq_true_eq, okPl]
  refine ⟨fun h => ⟨(h _ p2).1, (h _ p3).2⟩, fun h p hp => ?_⟩
  have := p1 p hp
  omega
theorem loF_succ (sh st : List Int) (a : Int) (k : Nat) (h : k < sh.length) (h2 : k < st.length) : loF (sh.take (k + 1)) (st.take (k + 1)) a = loF (sh.take k) (st.take k) a + min (st[k] * (sh[k] - 1)) 0 := by
  induction sh generalizing st a k with
  | nil => simp at h
  | cons n sh ih =>
    cases st with
    | nil => simp at h2
    | cons s st =>
      cases k with
      | zero => simp [loF]
      | succ k => simp only [List.take_succ_cons, loF, List.getElem_cons_succ]; exact ih st _ k (by simpa using h) (by simpa using h2)
theorem hiF_succ (sh st : List Int) (a : Int) (k : Nat) (h : k < sh.length) (h2 : k < st.length) : hiF (sh.take (k + 1)) (st.take (k + 1)) a = hiF (sh.take k) (st.take k) a + max (st[k] * (sh[k] - 1)) 0 := by
  induction sh generalizing st a k with
  | nil => simp at h
  | cons n sh ih =>
    cases st with
    | nil => simp at h2
    | cons s st =>
      cases k with
      | zero => simp [hiF]
      | succ k => simp only [List.take_succ_cons, hiF, List.getElem_cons_succ]; exact ih st _ k (by simpa using h) (by simpa using h2)
theorem reach_bd (n s : Int) (h0 : 0 ≤ n) (h1 : n ≤ 4096) (h2 : -4096 ≤ s) (h3 : s ≤ 4096) : -16777216 ≤ s * (n - 1) ∧ s * (n - 1) ≤ 16777216 := by
  rcases (show n = 0 ∨ 1 ≤ n by omega) with rfl | h
  · omega
  · have := mul_bd (n - 1).toNat s (by omega) h2 h3
    rw [Int.toNat_of_nonneg (by omega), Int.mul_comm] at this
    exact this
end Go.Proofs.YtnmnkiihbopebaaDoor
