/- The laws' marks: what they write, and that it is held. -/
import Derived.Test.YtnmnkiihbopebaaDoorLa
import Derived.Test.YtnmnkiihbopebaaDoorFc
namespace Go.Proofs.YtnmnkiihbopebaaDoor
open Go.RowKit Go.Nd
attribute [local go_sem] run_store_float

/-- The cells that markCellS writes, from number k on. -/
def mkC (k : Int) (n : Nat) : List Cl := (List.range n).map fun (j : Nat) => ⟨k + 3 * (j : Int), floatOfInt .f64 (k + 3 * (j : Int) + 1), floatOfInt .f64 (k + 3 * (j : Int) + 1 + 1)⟩
theorem mkC_length (k : Int) (n : Nat) : (mkC k n).length = n := by simp [mkC]
theorem mkC_get (k : Int) (n j : Nat) (h : j < (mkC k n).length) : (mkC k n)[j] = ⟨k + 3 * (j : Int), floatOfInt .f64 (k + 3 * (j : Int) + 1), floatOfInt .f64 (k + 3 * (j : Int) + 1 + 1)⟩ := by simp [mkC]
theorem mkC_succ (k : Int) (n : Nat) : mkC k (n + 1) = mkC k n ++ [⟨k + 3 * (n : Int), floatOfInt .f64 (k + 3 * (n : Int) + 1), floatOfInt .f64 (k + 3 * (n : Int) + 1 + 1)⟩] := by
  simp [mkC, List.range_succ]
/-- The stores that markStoreS leaves. -/
def mkS : Int → List (Value × Sr) → List (Value × Sr)
  | _, [] => []
  | k, r :: rs => (r.1, ⟨k, mkC (k + 1) r.2.cs.length⟩) :: mkS (k + 1 + 3 * (r.2.cs.length : Int)) rs
def cntS : List (Value × Sr) → Int
  | [] => 0
  | r :: rs => 1 + 3 * (r.2.cs.length : Int) + cntS rs
theorem mkS_length (k : Int) (rs : List (Value × Sr)) : (mkS k rs).length = rs.length := by
  induction rs generalizing k with
  | nil => rfl
  | cons r rs ih => simp [mkS, ih]
theorem cntS_snoc (rs : List (Value × Sr)) (r : Value × Sr) : cntS (rs ++ [r]) = cntS rs + 1 + 3 * (r.2.cs.length : Int) := by
  induction rs with
  | nil => simp [cntS]
  | cons x rs ih => simp only [List.cons_append, cntS, ih]; omega
theorem mkS_snoc (k : Int) (rs : List (Value × Sr)) (r : Value × Sr) : mkS k (rs ++ [r]) = mkS k rs ++ [(r.1, ⟨k + cntS rs, mkC (k + cntS rs + 1) r.2.cs.length⟩)] := by
  induction rs generalizing k with
  | nil => simp [mkS, cntS]
  | cons x rs ih =>
    simp only [List.cons_append, mkS, ih, cntS]
    rw [show k + 1 + 3 * (x.2.cs.length : Int) + cntS rs = k + (1 + 3 * (x.2.cs.length : Int) + cntS rs) by omega]
theorem cntS_nonneg (rs : List (Value × Sr)) : 0 ≤ cntS rs := by
  induction rs with
  | nil => simp [cntS]
  | cons r rs ih => simp only [cntS]; omega

theorem fl_no_nan (n : Int) : Nanw (floatOfInt .f64 n) = false := by
  have h : ∀ (neg : Bool) (mag : Nat) (place : Int), rung Ieee.double (Ieee.double.nearest neg mag place) ≤ Ieee.double.infRung := by
    intro neg mag place
    have hi := dinf_lt
    unfold Ieee.Format.nearest
    dsimp only
    split
    · rw [rung_word _ _ _ (Nat.lt_of_le_of_lt (Nat.zero_le _) hi)]; exact Nat.zero_le _
    · rw [rung_word _ _ _ (Nat.lt_of_le_of_lt (Nat.min_le_right _ _) hi)]; exact Nat.min_le_right _ _
  have := h (n < 0) n.natAbs 0
  simp only [Nanw, isNan, decide_eq_false_iff_not, Nat.not_lt]
  exact this
theorem o_fl (n : Int) : (FloatKind.f64.format.order (floatOfInt .f64 n) (floatOfInt .f64 n) != some .eq) = false := by rw [o_self, fl_no_nan]
/-- A mark: the next number; only blocks from lo to hi have turned. -/
def MkQ (lo hi : Nat) (k' : Int) (w : World) (v : Value) (w' : World) : Prop := v = .int .i64 k' ∧ Fr lo hi w w'
theorem markInt64S_c (A : Option Addr) (lo hi n c : Nat) (cs : List Value) (k : Int) (w : World) (hn : n ≤ 1048576) (hk0 : 0 ≤ k) (hk : k ≤ 1000000000) (ho : w.ownsRow lo 2 1 (.slice A n c) n cs) (hhi : ∀ g, (Value.slice A n c).ownBlock = some g → g < hi) :
    Calls Tryd.prog 88 #[.slice A n c, .int .i64 k] w (Ret (MkQ lo hi (k + n) w)) := by
  rcases Nat.eq_zero_or_pos n with h0 | hp
  · subst h0
    clear ho hhi
    go_enter Tryd.func88, Tryd.ntmps88
    go_wp2_with fail
    go_loopw [1, 5] (fun l i wr => l = .int .i64 k ∧ i = .int .i64 0 ∧ wr = w) (fun _ i _ => 0 - (intOf i).toNat)
    case atStart => exact ⟨rfl, rfl, rfl⟩
    case round =>
      obtain ⟨rfl, rfl, rfl⟩ := hrel
      go_wp2_with fail
      go_ret
      exact ⟨_, rfl, by simp, Fr.refl _ _ _⟩
  · obtain ⟨g, c', e, _, _, hg1, hg2⟩ := own_form_pos ho hp
    simp only [Value.slice.injEq, true_and] at e
    obtain ⟨rfl, rfl⟩ := e
    have hgh := hhi g rfl
    clear hhi
    go_enter Tryd.func88, Tryd.ntmps88
    go_wp2_with fail
    go_loopw [1, 5] (fun l i wr => ∃ (j : Nat) (cs' : List Value), j ≤ n ∧ i = .int .i64 j ∧ l = .int .i64 (k + j) ∧ wr.ownsRow lo 2 1 (.slice (some ⟨g, 0, none⟩) n c) n cs' ∧ Fr lo hi w wr) (fun _ i _ => n - (intOf i).toNat)
    case atStart => exact ⟨0, cs, Nat.zero_le _, rfl, by simp, ho, Fr.refl _ _ _⟩
    case round =>
      obtain ⟨j, cs', hj, rfl, rfl, ho', hfr⟩ := hrel
      by_cases hlt : j < n
      · obtain ⟨v0, q0⟩ := own_has ho' j (by omega)
        have q3 := own_frozen ho'
        go_wp2_with fail
        go_roundw
        case rel => exact ⟨j + 1, _, hlt, by go_num, by go_num, own_set ho' j _, hfr.trans (Fr.setCell hg1 hgh _)⟩
        case measure => simp [intOf]; omega
      · have hkk : j = n := by omega
        have HK := hide hkk
        clear hkk
        go_wp2_with fail
        go_ret
        exact ⟨_, rfl, int_eq (by rw [HK.out]), hfr⟩
/-- markCellS leaves the marks in the row. -/
def MkCQ (lo hi : Nat) (k' : Int) (e : TypeId) (sv : Value) (n : Nat) (cs' : List Cl) (w : World) (v : Value) (w' : World) : Prop := v = .int .i64 k' ∧ Fr lo hi w w' ∧ w'.ownsRow lo e 3 sv n (cvs cs')
theorem markCellS_c (A : Option Addr) (lo hi c : Nat) (cs : List Cl) (k : Int) (w : World) (hn : cs.length ≤ 1048576) (hk0 : 0 ≤ k) (hk : k ≤ 1000000000) (ho : w.ownsRow lo 59 3 (.slice A cs.length c) cs.length (cvs cs)) (hhi : ∀ g, (Value.slice A cs.length c).ownBlock = some g → g < hi) :
    Calls Tryd.prog 17 #[.slice A cs.length c, .int .i64 k] w (Ret (MkCQ lo hi (k + 3 * (cs.length : Int)) 59 (.slice A cs.length c) cs.length (mkC k cs.length) w)) := by
  rcases Nat.eq_zero_or_pos cs.length with h0 | hp
  · have hcs : cs = [] := List.eq_nil_of_length_eq_zero h0
    subst hcs
    have HO := hide ho
    clear ho hhi hn
    have hz : (([] : List Cl).length) = 0 := rfl
    rw [hz] at HO ⊢
    clear hz
    go_enter Tryd.func17, Tryd.ntmps17
    go_wp2_with fail
    go_loopw [1, 5] (fun l i wr => l = .int .i64 k ∧ i = .int .i64 0 ∧ wr = w) (fun _ i _ => 0 - (intOf i).toNat)
    case atStart => exact ⟨rfl, rfl, rfl⟩
    case round =>
      obtain ⟨rfl, rfl, rfl⟩ := hrel
      go_wp2_with fail
      go_ret
      exact ⟨_, rfl, by simp, Fr.refl _ _ _, HO.out⟩
  · obtain ⟨g, c', e, _, _, hg1, hg2⟩ := own_form_pos ho hp
    simp only [Value.slice.injEq, true_and] at e
    obtain ⟨rfl, rfl⟩ := e
    have hgh := hhi g rfl
    clear hhi hp
    go_enter Tryd.func17, Tryd.ntmps17
    go_wp2_with fail
    go_loopw [1, 5] (fun l i wr => ∃ (j : Nat), j ≤ cs.length ∧ i = .int .i64 j ∧ l = .int .i64 (k + 3 * (j : Int)) ∧ wr.ownsRow lo 59 3 (.slice (some ⟨g, 0, none⟩) cs.length c) cs.length (cvs (mkC k j ++ cs.drop j)) ∧ Fr lo hi w wr) (fun _ i _ => cs.length - (intOf i).toNat)
    case atStart => exact ⟨0, Nat.zero_le _, rfl, by simp, ho, Fr.refl _ _ _⟩
    case round =>
      obtain ⟨j, hj, rfl, rfl, ho', hfr⟩ := hrel
      by_cases hlt : j < cs.length
      · obtain ⟨v0, q0⟩ := own_has ho' (j * 3) (by omega)
        obtain ⟨v1, q1⟩ := own_has ho' (j * 3 + 1) (by omega)
        obtain ⟨v2, q2⟩ := own_has ho' (j * 3 + 2) (by omega)
        have q3 := own_frozen ho'
        go_wp2_with fail
        go_roundw
        case rel =>
          refine ⟨j + 1, hlt, by go_num, int_eq (by omega), ?_, hfr.trans (((Fr.setCell (p := ⟨g, j * 3, none⟩) hg1 hgh _).trans (Fr.setCell (p := ⟨g, j * 3 + 1, none⟩) hg1 hgh _)).trans (Fr.setCell (p := ⟨g, j * 3 + 2, none⟩) hg1 hgh _))⟩
          have hl2 : (mkC k j ++ cs.drop j).length = cs.length := by rw [List.length_append, mkC_length, List.length_drop]; omega
          have := own_set_cl ho' (k := j) (by rw [hl2]; exact hlt) ⟨k + 3 * (j : Int), floatOfInt .f64 (k + 3 * (j : Int) + 1), floatOfInt .f64 (k + 3 * (j : Int) + 1 + 1)⟩
          have hs : (mkC k j ++ cs.drop j).set j ⟨k + 3 * (j : Int), floatOfInt .f64 (k + 3 * (j : Int) + 1), floatOfInt .f64 (k + 3 * (j : Int) + 1 + 1)⟩ = mkC k (j + 1) ++ cs.drop (j + 1) := by
            rw [List.set_append_right _ _ (by rw [mkC_length]; omega), mkC_length, Nat.sub_self, List.drop_eq_getElem_cons hlt, mkC_succ, List.append_assoc]
            rfl
          rwa [hs] at this
        case measure => simp [intOf]; omega
      · have hkk : j = cs.length := by omega
        have HK := hide hkk
        clear hkk
        go_wp2_with fail
        go_ret
        refine ⟨_, rfl, int_eq (by rw [HK.out]), hfr, ?_⟩
        rw [HK.out] at ho'
        simpa using ho'
theorem heldCellS_c {B : Nat} (A : Option Addr) (c n : Nat) (k : Int) (w : World) (hn : n ≤ 1048576) (hk0 : 0 ≤ k) (hk : k ≤ 1000000000) (hA : AtB B w A (cvs (mkC k n))) :
    Calls Tryd.prog 18 #[.slice A n c, .int .i64 k] w fun e w' => e = .returned (.int .i64 (k + 3 * (n : Int))) ∧ Below w.heap.size w w' := by
  have HA := hide hA.now
  clear hA
  go_enter Tryd.func18, Tryd.ntmps18
  go_wp2_with fail
  go_loopw [1, 5] (fun l i wr => ∃ (j : Nat), j ≤ n ∧ i = .int .i64 j ∧ l = .int .i64 (k + 3 * (j : Int)) ∧ Below w.heap.size w wr) (fun _ i _ => n - (intOf i).toNat)
  case atStart => exact ⟨0, Nat.zero_le _, rfl, by simp, Below.refl _ _⟩
  case round =>
    obtain ⟨j, hj, rfl, rfl, hb⟩ := hrel
    by_cases hlt : j < n
    · obtain ⟨b, o, rfl, hbl, h0, h1, h2⟩ := at_cl (HA.out.below hb) (k := j) (by rw [mkC_length]; exact hlt)
      rw [mkC_get] at h0 h1 h2
      dsimp only at h0 h1 h2
      have o1 := o_fl (k + 3 * (j : Int) + 1)
      have o2 := o_fl (k + 3 * (j : Int) + 1 + 1)
      go_wp2_with fail
      go_roundw
      case rel => exact ⟨j + 1, hlt, by go_num, int_eq (by omega), hb⟩
      case measure => simp [intOf]; omega
    · have hkk : j = n := by omega
      have HK := hide hkk
      clear hkk
      go_wp2_with fail
      go_ret
      exact ⟨by rw [HK.out]; rfl, hb⟩
def MkHQ (lo hi : Nat) (k' : Int) (eS eC : TypeId) (sv : Value) (rs' : List (Value × Sr)) (w : World) (v : Value) (w' : World) : Prop := v = .int .i64 k' ∧ Fr lo hi w w' ∧ HpOwn w' eS eC lo hi sv rs'
theorem tS_ne_tC : 56 ≠ 59 := by decide
theorem markStoreS_c (A : Option Addr) (lo hi c : Nat) (rs : List (Value × Sr)) (k : Int) (w : World) (hn : rs.length ≤ 1048576) (hn2 : ∀ r ∈ rs, r.2.cs.length ≤ 1048576) (hk0 : 0 ≤ k) (hk : k + cntS rs ≤ 1000000000) (ho : HpOwn w 56 59 lo hi (.slice A rs.length c) rs) :
    Calls Tryd.prog 43 #[.slice A rs.length c, .int .i64 k] w (Ret (MkHQ lo hi (k + cntS rs) 56 59 (.slice A rs.length c) (mkS k rs) w)) := by
  rcases Nat.eq_zero_or_pos rs.length with h0 | hp
  · have hcs : rs = [] := List.eq_nil_of_length_eq_zero h0
    subst hcs
    have HO := hide ho
    clear ho hn hk hn2
    have hz : (([] : List (Value × Sr)).length) = 0 := rfl
    rw [hz] at HO ⊢
    clear hz
    go_enter Tryd.func43, Tryd.ntmps43
    go_wp2_with fail
    go_loopw [1, 5] (fun l i wr => l = .int .i64 k ∧ i = .int .i64 0 ∧ wr = w) (fun _ i _ => 0 - (intOf i).toNat)
    case atStart => exact ⟨rfl, rfl, rfl⟩
    case round =>
      obtain ⟨rfl, rfl, rfl⟩ := hrel
      go_wp2_with fail
      go_ret
      exact ⟨_, rfl, int_eq (by simp [cntS]), Fr.refl _ _ _, HO.out⟩
  · obtain ⟨g, c', e, _, _, hg1, hg2⟩ := own_form_pos ho.1 hp
    simp only [Value.slice.injEq, true_and] at e
    obtain ⟨rfl, rfl⟩ := e
    have hgh := ho.2.1 g rfl
    have HN2 := hide hn2
    have HK := hide hk
    clear hp hn2 hk
    go_enter Tryd.func43, Tryd.ntmps43
    go_wp2_with fail
    go_loopw [1, 5] (fun l i wr => ∃ (j : Nat) (kk : Int), j ≤ rs.length ∧ i = .int .i64 j ∧ l = .int .i64 kk ∧ Hid (kk = k + cntS (rs.take j)) ∧ HpOwn wr 56 59 lo hi (.slice (some ⟨g, 0, none⟩) rs.length c) (mkS k (rs.take j) ++ rs.drop j) ∧ Fr lo hi w wr) (fun _ i _ => rs.length - (intOf i).toNat)
    case atStart => exact ⟨0, k, Nat.zero_le _, rfl, rfl, hide (by simp [cntS]), ho, Fr.refl _ _ _⟩
    case round =>
      obtain ⟨j, kk, hj, rfl, rfl, HKK, ho', hfr⟩ := hrel
      have hlen : (mkS k (rs.take j) ++ rs.drop j).length = rs.length := by rw [List.length_append, mkS_length, List.length_take, List.length_drop]; omega
      have hb1 : 0 ≤ kk := by rw [HKK.out]; have := cntS_nonneg (rs.take j); omega
      by_cases hlt : j < rs.length
      · have hjl : j < (mkS k (rs.take j) ++ rs.drop j).length := by rw [hlen]; exact hlt
        have hgj : (mkS k (rs.take j) ++ rs.drop j)[j] = rs[j] := by
          rw [List.getElem_append_right (by rw [mkS_length, List.length_take]; omega)]
          simp only [mkS_length, List.length_take, List.getElem_drop]
          congr 1
          omega
        have hrow := ho'.1
        rw [hlen] at hrow
        have hcr := (ho'.2.2.1 _ (List.getElem_mem hjl)).1
        have hcl := (ho'.2.2.1 _ (List.getElem_mem hjl)).2
        rw [hgj] at hcr hcl
        have hne := own_ne hrow hcr tS_ne_tC g rfl
        obtain ⟨q0, q1⟩ := own_sr hrow hjl
        rw [hgj] at q0 q1
        obtain ⟨A2, c2, e2, hc2, _⟩ := own_form hcr
        rw [e2] at q1 hcr hcl hne
        have q3 := own_frozen hrow
        have hcnt : kk + 1 + 3 * (rs[j].2.cs.length : Int) ≤ 1000000000 := by
          have h1 := HKK.out
          have h2 := HK.out
          have h3 : cntS rs = cntS (rs.take (j + 1)) + cntS (rs.drop (j + 1)) := by
            have : ∀ (a b : List (Value × Sr)), cntS (a ++ b) = cntS a + cntS b := by
              intro a b
              induction a with
              | nil => simp [cntS]
              | cons x a ih => simp only [List.cons_append, cntS, ih]; omega
            rw [← this, List.take_append_drop]
          rw [List.take_succ_eq_append_getElem hlt, cntS_snoc] at h3
          have := cntS_nonneg (rs.drop (j + 1))
          omega
        have hlen1 := HN2.out _ (List.getElem_mem hlt)
        have hcr1 := own_base (own_other hcr hne (p := ⟨g, j * 2, none⟩) (.int .i64 kk)) loOf_le
        have hrow1 := own_set hrow (j * 2) (.int .i64 kk)
        rw [svs_set_dt _ _ hjl kk (mkC (kk + 1) rs[j].2.cs.length), hgj, e2] at hrow1
        have HCR := hide hcr
        have HCL := hide hcl
        have HE2 := hide e2
        have HGJ := hide hgj
        have HL := hide hlen
        have HO := hide ho'
        have HCR1 := hide hcr1
        have HROW1 := hide hrow1
        have HNE := hide hne
        clear hcr hcl e2 hgj hlen ho' hcr1 hrow1 hrow hne
        go_wp2_with (go_at_call 17; refine (markCellS_c _ (loOf (.slice A2 rs[j].2.cs.length c2)) (hiOf (.slice A2 rs[j].2.cs.length c2)) _ rs[j].2.cs _ _ hlen1 (by omega) (by omega) HCR1.out lt_hiOf).mono ?_; rintro e w2 ⟨_, rfl, rfl, hfr2, hcr2⟩)
        go_roundw
        case rel =>
          have hbl := own_block HROW1.out
          have hin : ∀ q, (Value.slice A2 rs[j].2.cs.length c2).ownBlock = some q → lo ≤ q ∧ q < hi := fun q hq => ⟨(HCR.out.lt q hq).1, HCL.out q hq⟩
          refine ⟨j + 1, _, hlt, by go_num, rfl, hide ?_, ?_, hfr.trans ((Fr.setCell (p := ⟨g, j * 2, none⟩) hg1 hgh _).trans (of_fr hfr2 hin))⟩
          · rw [HKK.out, List.take_succ_eq_append_getElem hlt, cntS_snoc]; omega
          · have hset : mkS k (rs.take (j + 1)) ++ rs.drop (j + 1) = (mkS k (rs.take j) ++ rs.drop j).set j ((mkS k (rs.take j) ++ rs.drop j)[j].1, ⟨kk, mkC (kk + 1) rs[j].2.cs.length⟩) := by
              have hm : (mkS k (rs.take j)).length = j := by rw [mkS_length, List.length_take]; omega
              rw [HGJ.out, List.set_append_right _ _ (by omega), hm, Nat.sub_self, List.drop_eq_getElem_cons hlt, List.take_succ_eq_append_getElem hlt, mkS_snoc, List.append_assoc, HKK.out]
              rfl
            rw [hset]
            refine HO.out.upd tS_ne_tC hjl _ ?_ ?_ ?_
            · rw [HGJ.out, HL.out, HE2.out]
              refine hfr2.own HROW1.out fun q hq => ?_
              refine off_of fun e => ?_
              simp only [Value.ownBlock, Option.some.injEq] at hq
              subst hq
              exact HNE.out e
            · rw [HGJ.out, HE2.out]
              dsimp only
              rw [mkC_length]
              exact own_base hcr2 fun q hq => (HCR.out.lt q hq).1
            · intro q hq hv1 hv2
              rw [HGJ.out, HE2.out] at hv2
              rw [hfr2.block q (by simpa [World.setCell] using hq) (off_of hv2)]
              exact Below.heap_setCell _ _ _ _ (fun e => hv1 (by rw [e]; rfl))
        case measure => simp [intOf]; omega
      · have hkk : j = rs.length := by omega
        have HJ := hide hkk
        have HL := hide hlen
        clear hkk hlen
        go_wp2_with fail
        go_ret
        refine ⟨_, rfl, int_eq (by rw [HKK.out, HJ.out, List.take_length]), hfr, ?_⟩
        rw [HJ.out, List.take_length, List.drop_length, List.append_nil] at ho'
        exact ho'
theorem markHeap_c (A : Option Addr) (lo hi c : Nat) (rs : List (Value × Sr)) (k : Int) (w : World) (hn : rs.length ≤ 1048576) (hn2 : ∀ r ∈ rs, r.2.cs.length ≤ 1048576) (hk0 : 0 ≤ k) (hk : k + cntS rs ≤ 1000000000) (hhi : hi ≤ w.heap.size) (ho : HpOwn w 56 59 lo hi (.slice A rs.length c) rs) :
    Calls Tryd.prog 15 #[.agg #[.slice A rs.length c], .int .i64 k] w (Ret (MkHQ lo hi (k + cntS rs) 56 59 (.slice A rs.length c) (mkS k rs) w)) := by
  have HN2 := hide hn2
  have HK := hide hk
  have HO := hide ho
  clear hn2 hk ho
  go_enter Tryd.func15, Tryd.ntmps15
  go_wp2_with (go_at_call 43; refine (markStoreS_c _ lo hi _ rs _ _ hn HN2.out hk0 HK.out (HO.out.below (below_a1 _ _) hhi)).mono ?_; rintro e w2 ⟨_, rfl, rfl, hfr2, ho2⟩)
  go_ret
  exact ⟨_, rfl, rfl, (Fr.of_below (below_a1 _ _) (Nat.le_refl _)).trans hfr2, ho2⟩
theorem markView_c (A1 A2 : Option Addr) (lo hi n1 c1 n2 c2 : Nat) (off : Int) (cs1 cs2 : List Value) (k : Int) (w : World) (hn1 : n1 ≤ 1048576) (hn2 : n2 ≤ 1048576) (hk0 : 0 ≤ k) (hk : k ≤ 900000000)
    (ho1 : w.ownsRow lo 2 1 (.slice A1 n1 c1) n1 cs1) (ho2 : w.ownsRow lo 2 1 (.slice A2 n2 c2) n2 cs2) (h1 : ∀ g, (Value.slice A1 n1 c1).ownBlock = some g → g < hi) (h2 : ∀ g, (Value.slice A2 n2 c2).ownBlock = some g → g < hi)
    (hd : ∀ g, (Value.slice A1 n1 c1).ownBlock = some g → (Value.slice A2 n2 c2).ownBlock ≠ some g) :
    Calls Tryd.prog 44 #[.agg #[.slice A1 n1 c1, .slice A2 n2 c2, .int .i64 off], .int .i64 k] w (Ret (MkQ lo hi (k + n1 + n2) w)) := by
  have HO1 := hide ho1
  have HO2 := hide ho2
  have H1 := hide h1
  have H2 := hide h2
  have HD := hide hd
  clear ho1 ho2 h1 h2 hd
  go_enter Tryd.func44, Tryd.ntmps44
  go_wp2_with fail
  refine (markInt64S_c _ (loOf (.slice A1 n1 c1)) (hiOf (.slice A1 n1 c1)) n1 _ cs1 _ _ hn1 hk0 (by omega) (own_base (own_alloc HO1.out _) loOf_le) lt_hiOf).mono ?_
  rintro e w2 ⟨_, rfl, rfl, hfr2⟩
  have hbx : w2.cell? ⟨w.heap.size, 1, none⟩ = some (.slice A2 n2 c2) := by
    rw [World.cell?_of_block (w := w.alloc _) (a := ⟨w.heap.size, 1, none⟩) (hfr2.block w.heap.size (by simp) (off_of fun e => by have := (HO1.out.lt _ e).2; omega))]
    simp
  have ho2' := hfr2.own (own_alloc HO2.out _) (fun g hg => off_of fun e => HD.out g e hg)
  have HO2' := hide ho2'
  have hf1 := hide ((Fr.of_below (lo := lo) (hi := hi) (below_a1 w (.cells #[.slice A1 n1 c1, .slice A2 n2 c2, .int .i64 off] 38)) (Nat.le_refl _)).trans (of_fr hfr2 fun g hg => ⟨(HO1.out.lt g hg).1, H1.out g hg⟩))
  clear ho2'
  go_wp2_with fail
  refine (markInt64S_c _ (loOf (.slice A2 n2 c2)) (hiOf (.slice A2 n2 c2)) n2 _ cs2 _ _ hn2 (by omega) (by omega) (own_base HO2'.out loOf_le) lt_hiOf).mono ?_
  rintro e w3 ⟨_, rfl, rfl, hfr3⟩
  go_wp2_with fail
  go_ret
  exact ⟨_, rfl, rfl, hf1.out.trans (of_fr hfr3 fun g hg => ⟨(HO2.out.lt g hg).1, H2.out g hg⟩)⟩
theorem markArray_c (A1 A2 : Option Addr) (lo hi n1 c1 n2 c2 : Nat) (sn off : Int) (cs1 cs2 : List Value) (k : Int) (w : World) (hn1 : n1 ≤ 1048576) (hn2 : n2 ≤ 1048576) (hk0 : 0 ≤ k) (hk : k ≤ 900000000)
    (ho1 : w.ownsRow lo 2 1 (.slice A1 n1 c1) n1 cs1) (ho2 : w.ownsRow lo 2 1 (.slice A2 n2 c2) n2 cs2) (h1 : ∀ g, (Value.slice A1 n1 c1).ownBlock = some g → g < hi) (h2 : ∀ g, (Value.slice A2 n2 c2).ownBlock = some g → g < hi)
    (hd : ∀ g, (Value.slice A1 n1 c1).ownBlock = some g → (Value.slice A2 n2 c2).ownBlock ≠ some g) :
    Calls Tryd.prog 16 #[.agg #[.int .i64 sn, .slice A1 n1 c1, .slice A2 n2 c2, .int .i64 off], .int .i64 k] w (Ret (MkQ lo hi (k + n1 + n2) w)) := by
  have HO1 := hide ho1
  have HO2 := hide ho2
  have H1 := hide h1
  have H2 := hide h2
  have HD := hide hd
  clear ho1 ho2 h1 h2 hd
  go_enter Tryd.func16, Tryd.ntmps16
  go_wp2_with fail
  refine (markView_c _ _ lo hi n1 _ n2 _ _ cs1 cs2 _ _ hn1 hn2 hk0 hk (own_alloc HO1.out _) (own_alloc HO2.out _) H1.out H2.out HD.out).mono ?_
  rintro e w2 ⟨_, rfl, rfl, hfr2⟩
  go_wp2_with fail
  go_ret
  exact ⟨_, rfl, rfl, (Fr.of_below (below_a1 _ _) (Nat.le_refl _)).trans hfr2⟩
end Go.Proofs.YtnmnkiihbopebaaDoor
