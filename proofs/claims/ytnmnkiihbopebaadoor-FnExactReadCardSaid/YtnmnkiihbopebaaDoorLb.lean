/- The laws' looks at sizes, and their comparisons (of what is equal). -/
import Derived.Test.YtnmnkiihbopebaaDoorLa
import Derived.Test.YtnmnkiihbopebaaDoorFc
namespace Go.Proofs.YtnmnkiihbopebaaDoor
open Go.RowKit Go.Nd
attribute [local go_sem] run_store_float

/-- What is left of a budget, or -1; where it is not below 0, P of it. -/
def SzQ (left : Int) (P : Int → Prop) (w : World) (v : Value) (w' : World) : Prop := ∃ r, v = .int .i64 r ∧ -1 ≤ r ∧ r ≤ left ∧ (0 ≤ r → P r) ∧ Below w.heap.size w w'
def totC : List (Value × Sr) → Int
  | [] => 0
  | r :: rs => r.2.cs.length + totC rs
theorem totC_snoc (rs : List (Value × Sr)) (r : Value × Sr) : totC (rs ++ [r]) = totC rs + r.2.cs.length := by
  induction rs with
  | nil => simp [totC]
  | cons x rs ih => simp only [List.cons_append, totC, ih]; omega
theorem totC_nonneg (rs : List (Value × Sr)) : 0 ≤ totC rs := by
  induction rs with
  | nil => simp [totC]
  | cons x rs ih => simp only [totC]; omega
theorem totC_le (rs : List (Value × Sr)) : ∀ r ∈ rs, (r.2.cs.length : Int) ≤ totC rs := by
  induction rs with
  | nil => simp
  | cons x rs ih =>
    intro r hr
    have h0 := totC_nonneg rs
    simp only [totC]
    rcases List.mem_cons.1 hr with rfl | hr
    · omega
    · have := ih r hr; omega
theorem szInt64S_c (A : Option Addr) (n c : Nat) (left : Int) (w : World) (hl0 : 0 ≤ left) (hl : left ≤ 1048576) (hn : n ≤ 9223372036854775807) :
    Calls Tryd.prog 80 #[.slice A n c, .int .i64 left] w (Ret (SzQ left (fun r => r + n ≤ left) w)) := by
  have HN := hide hn
  have HL := hide hl
  by_cases h : left - (n : Int) < 0
  · go_enter Tryd.func80, Tryd.ntmps80
    go_wp2
    go_ret
    exact ⟨_, rfl, -1, rfl, by omega, by omega, by omega, Below.refl _ _⟩
  · go_enter Tryd.func80, Tryd.ntmps80
    go_wp2
    go_ret
    exact ⟨_, rfl, left - n, rfl, by omega, by omega, fun _ => by show left - (n : Int) + n ≤ left; omega, Below.refl _ _⟩
theorem szCellS_c (A : Option Addr) (n c : Nat) (left : Int) (w : World) (hl0 : 0 ≤ left) (hl : left ≤ 1048576) (hn : n ≤ 9223372036854775807) :
    Calls Tryd.prog 118 #[.slice A n c, .int .i64 left] w (Ret (SzQ left (fun r => r + n ≤ left) w)) := by
  have HN := hide hn
  have HL := hide hl
  by_cases h : left - (n : Int) < 0
  · go_enter Tryd.func118, Tryd.ntmps118
    go_wp2
    go_ret
    exact ⟨_, rfl, -1, rfl, by omega, by omega, by omega, Below.refl _ _⟩
  · go_enter Tryd.func118, Tryd.ntmps118
    go_wp2
    go_ret
    exact ⟨_, rfl, left - n, rfl, by omega, by omega, fun _ => by show left - (n : Int) + n ≤ left; omega, Below.refl _ _⟩
theorem szStore_c (dt : Int) (A : Option Addr) (n c : Nat) (left : Int) (w : World) (hl0 : 0 ≤ left) (hl : left ≤ 1048576) (hn : n ≤ 9223372036854775807) :
    Calls Tryd.prog 79 #[.agg #[.int .i64 dt, .slice A n c], .int .i64 left] w (Ret (SzQ left (fun r => r + n ≤ left) w)) := by
  have HN := hide hn
  go_enter Tryd.func79, Tryd.ntmps79
  go_wp2_with (go_at_call 118; refine (szCellS_c _ _ _ _ _ hl0 hl HN.out).mono ?_; rintro e w2 ⟨_, rfl, r, rfl, hr1, hr2, hr3, hb2⟩; have HR := hide hr3; clear hr3)
  · go_ret
    exact ⟨_, rfl, -1, rfl, by omega, by omega, by omega, below_go (below_a1 _ _) hb2 (by simp)⟩
  · go_ret
    exact ⟨_, rfl, r, rfl, by omega, by omega, HR.out, below_go (below_a1 _ _) hb2 (by simp)⟩
theorem szView_c (A1 A2 : Option Addr) (n1 c1 n2 c2 : Nat) (off left : Int) (w : World) (hl0 : 0 ≤ left) (hl : left ≤ 1048576) (hn1 : n1 ≤ 9223372036854775807) (hn2 : n2 ≤ 9223372036854775807) :
    Calls Tryd.prog 34 #[.agg #[.slice A1 n1 c1, .slice A2 n2 c2, .int .i64 off], .int .i64 left] w (Ret (SzQ left (fun _ => n1 ≤ 1048576 ∧ n2 ≤ 1048576) w)) := by
  have HN1 := hide hn1
  have HN2 := hide hn2
  clear hn1 hn2
  go_enter Tryd.func34, Tryd.ntmps34
  go_wp2_with fail
  refine (szInt64S_c _ _ _ _ _ hl0 hl HN1.out).mono ?_
  rintro e w2 ⟨_, rfl, r, rfl, hr1, hr2, hr3, hb2⟩
  have HR := hide hr3
  clear hr3
  obtain ⟨hcell, hfr⟩ := bcell hb2
  have hb3 := below_go (below_a1 w _) hb2 (by simp)
  by_cases hr0 : r < 0
  · go_wp2_with fail
    go_ret
    exact ⟨_, rfl, -1, rfl, by omega, by omega, by omega, hb3⟩
  · have hr0' : 0 ≤ r := by omega
    go_wp2_with fail
    refine (szInt64S_c _ _ _ _ _ hr0' (by omega) HN2.out).mono ?_
    rintro e w4 ⟨_, rfl, r2, rfl, hr21, hr22, hr23, hb4⟩
    have HR2 := hide hr23
    clear hr23
    have hb5 := below_go hb3 hb4 hb3.size
    by_cases hr20 : r2 < 0
    · go_wp2_with fail
      go_ret
      exact ⟨_, rfl, -1, rfl, by omega, by omega, by omega, hb5⟩
    · go_wp2_with fail
      go_ret
      exact ⟨_, rfl, r2, rfl, by omega, by omega, fun h => by have h1 := HR.out hr0'; have h2 := HR2.out h; dsimp only at h1 h2 ⊢; omega, hb5⟩
theorem szArray_c (s : Int) (A1 A2 : Option Addr) (n1 c1 n2 c2 : Nat) (off left : Int) (w : World) (hl0 : 0 ≤ left) (hl : left ≤ 1048576) (hn1 : n1 ≤ 9223372036854775807) (hn2 : n2 ≤ 9223372036854775807) :
    Calls Tryd.prog 7 #[.agg #[.int .i64 s, .slice A1 n1 c1, .slice A2 n2 c2, .int .i64 off], .int .i64 left] w (Ret (SzQ left (fun _ => n1 ≤ 1048576 ∧ n2 ≤ 1048576) w)) := by
  have HN1 := hide hn1
  have HN2 := hide hn2
  clear hn1 hn2
  go_enter Tryd.func7, Tryd.ntmps7
  go_wp2_with (go_at_call 34; refine (szView_c _ _ _ _ _ _ _ _ _ hl0 hl HN1.out HN2.out).mono ?_; rintro e w2 ⟨_, rfl, r, rfl, hr1, hr2, hr3, hb2⟩; have HR := hide hr3; clear hr3)
  · go_ret
    exact ⟨_, rfl, -1, rfl, by omega, by omega, by omega, below_go (below_a1 _ _) hb2 (by simp)⟩
  · go_ret
    exact ⟨_, rfl, r, rfl, by omega, by omega, HR.out, below_go (below_a1 _ _) hb2 (by simp)⟩
theorem szStoreS_c {B : Nat} (A : Option Addr) (c : Nat) (rs : List (Value × Sr)) (left : Int) (w : World) (hl0 : 0 ≤ left) (hl : left ≤ 1048576) (hn : rs.length ≤ 9223372036854775807) (hn2 : ∀ r ∈ rs, r.2.cs.length ≤ 9223372036854775807) (hA : HpAt B w A rs) :
    Calls Tryd.prog 33 #[.slice A rs.length c, .int .i64 left] w (Ret (SzQ left (fun r => r + rs.length + totC rs ≤ left) w)) := by
  have HN := hide hn
  have HN2 := hide hn2
  have HA := hide hA.now
  clear hn2 hA
  by_cases h : left - (rs.length : Int) < 0
  · go_enter Tryd.func33, Tryd.ntmps33
    go_wp2_with fail
    go_ret
    exact ⟨_, rfl, -1, rfl, by omega, by omega, by omega, Below.refl _ _⟩
  · have hlen : rs.length ≤ 1048576 := by omega
    clear hn
    go_enter Tryd.func33, Tryd.ntmps33
    go_wp2_with fail
    go_loopw [1, 5] (fun l i wr => ∃ (k : Nat) (r : Int), k ≤ rs.length ∧ i = .int .i64 k ∧ l = .int .i64 r ∧ 0 ≤ r ∧ r ≤ left ∧ Hid (r + rs.length + totC (rs.take k) ≤ left) ∧ Below w.heap.size w wr) (fun _ i _ => rs.length - (intOf i).toNat)
    case atStart => exact ⟨0, left - rs.length, Nat.zero_le _, rfl, rfl, by omega, by omega, hide (by simp [totC]), Below.refl _ _⟩
    case round =>
      obtain ⟨k, r, hk, rfl, rfl, hr0, hr1, HS, hb⟩ := hrel
      have hB := hb.size
      by_cases hlt : k < rs.length
      · obtain ⟨b, o, A', c', rfl, hbl, h0, h1, hc', hA'⟩ := (HA.out.below hb).at_ hlt
        clear hA'
        have hl2 : rs[k].2.cs.length ≤ 9223372036854775807 := HN2.out _ (List.getElem_mem hlt)
        have HL2 := hide hl2
        clear hl2
        go_wp2_with (go_at_call 79; refine (szStore_c _ _ _ _ _ _ hr0 (by omega) HL2.out).mono ?_; rintro e w2 ⟨_, rfl, r2, rfl, hr21, hr22, hr23, hb2⟩; have HR := hide hr23; clear hr23)
        · go_ret
          exact ⟨_, rfl, -1, rfl, by omega, by omega, by omega, below_go hb hb2 hB⟩
        · go_roundw
          case rel =>
            refine ⟨k + 1, r2, hlt, by go_num, rfl, by omega, by omega, hide ?_, below_go hb hb2 hB⟩
            have h1 := HS.out
            have h2 := HR.out (by omega)
            rw [List.take_succ_eq_append_getElem hlt, totC_snoc]
            omega
          case measure => simp [intOf]; omega
      · have hkk : k = rs.length := by omega
        have HK := hide hkk
        clear hkk
        go_wp2_with fail
        go_ret
        refine ⟨_, rfl, r, rfl, by omega, by omega, fun _ => ?_, hb⟩
        have h1 := HS.out
        rw [HK.out, List.take_length] at h1
        exact h1
theorem szHeap_c {B : Nat} (A : Option Addr) (c : Nat) (rs : List (Value × Sr)) (left : Int) (w : World) (hl0 : 0 ≤ left) (hl : left ≤ 1048576) (hn : rs.length ≤ 9223372036854775807) (hn2 : ∀ r ∈ rs, r.2.cs.length ≤ 9223372036854775807) (hA : HpAt B w A rs) :
    Calls Tryd.prog 6 #[.agg #[.slice A rs.length c], .int .i64 left] w (Ret (SzQ left (fun r => r + rs.length + totC rs ≤ left) w)) := by
  have HN := hide hn
  have HN2 := hide hn2
  have HA := hide hA.now
  clear hn hn2 hA
  go_enter Tryd.func6, Tryd.ntmps6
  go_wp2_with (go_at_call 33; refine (szStoreS_c _ _ rs _ _ hl0 hl HN.out HN2.out (HA.out.below (below_a1 _ _))).mono ?_; rintro e w2 ⟨_, rfl, r, rfl, hr1, hr2, hr3, hb2⟩; have HR := hide hr3; clear hr3)
  · go_ret
    exact ⟨_, rfl, -1, rfl, by omega, by omega, by omega, below_go (below_a1 _ _) hb2 (by simp)⟩
  · go_ret
    exact ⟨_, rfl, r, rfl, by omega, by omega, HR.out, below_go (below_a1 _ _) hb2 (by simp)⟩
end Go.Proofs.YtnmnkiihbopebaaDoor
