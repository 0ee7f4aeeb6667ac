/- Shapes, places and views of the reference. -/
import Derived.Test.YtnmnkiihbopebaaDoorLa
import Derived.Test.YtnmnkiihbopebaaDoorAp
namespace Go.Proofs.YtnmnkiihbopebaaDoor
open Go.RowKit Go.Nd
attribute [local go_sem] run_store_float

theorem goodSh_iff (sh : List Int) : goodSh sh = true ↔ sh.length ≤ 4 ∧ (∀ x ∈ sh, 0 ≤ x ∧ x ≤ 4096) ∧ prodI sh ≤ 4096 := by
  simp [goodSh, okLen, and_assoc]
theorem pow4096 (k : Nat) (h : k ≤ 3) : (4096 : Int) ^ k ≤ 68719476736 := by
  rcases (show k = 0 ∨ k = 1 ∨ k = 2 ∨ k = 3 by omega) with rfl | rfl | rfl | rfl <;> decide
theorem prod_step (sh : List Int) (k : Nat) (h4 : sh.length ≤ 4) (hk : k < sh.length) (hok : ∀ (j : Nat) (_ : j < k) (hj : j < sh.length), 0 ≤ sh[j] ∧ sh[j] ≤ 4096) (hx : 0 ≤ sh[k] ∧ sh[k] ≤ 4096) :
    wrap64 (prodI (sh.take k) * sh[k]) = prodI (sh.take (k + 1)) := by
  have hall : ∀ x ∈ sh.take k, 0 ≤ x ∧ x ≤ 4096 := by
    intro x hx'
    obtain ⟨j, hj, rfl⟩ := List.getElem_of_mem hx'
    rw [List.length_take] at hj
    rw [List.getElem_take]
    exact hok j (by omega) (by omega)
  have h1 := prodI_bound _ hall
  have h2 := prodI_nonneg _ fun x hx' => (hall x hx').1
  rw [List.length_take, Nat.min_eq_left (by omega)] at h1
  have h3 := pow4096 k (by omega)
  rw [List.take_succ_eq_append_getElem hk, prodI_snoc]
  have h4 : prodI (sh.take k) * sh[k] ≤ 68719476736 * 4096 := Int.mul_le_mul (by omega) hx.2 hx.1 (by omega)
  have h5 : 0 ≤ prodI (sh.take k) * sh[k] := Int.mul_nonneg h2 hx.1
  unfold wrap64
  omega
theorem prod_small (sh : List Int) (h4 : sh.length ≤ 4) (hok : ∀ x ∈ sh, 0 ≤ x ∧ x ≤ 4096) : 0 ≤ prodI sh ∧ prodI sh ≤ 281474976710656 := by
  refine ⟨prodI_nonneg _ fun x hx => (hok x hx).1, ?_⟩
  have h1 := prodI_bound _ hok
  have : (4096 : Int) ^ sh.length ≤ 281474976710656 := by
    rcases (show sh.length = 0 ∨ sh.length = 1 ∨ sh.length = 2 ∨ sh.length = 3 ∨ sh.length = 4 by omega) with h | h | h | h | h <;> rw [h] <;> decide
  omega
theorem l2Count_c {B : Nat} (A : Option Addr) (c : Nat) (sh : List Int) (w : World) (hn : sh.length ≤ 1048576) (hA : AtB B w A (ivs sh)) :
    Calls Tryd.prog 50 #[.slice A sh.length c] w fun e w' => e = .returned (.int .i64 (cntF sh)) ∧ w = w' := by
  have HA := hide hA.now
  clear hA
  by_cases h4 : sh.length ≤ 4
  · have h4b : decide (4 < sh.length) = false := decide_eq_false (by omega)
    have H4 := hide h4
    go_enter Tryd.func50, Tryd.ntmps50
    go_wp2_with fail
    go_loop [3, 4] (fun n i => ∃ k : Nat, k ≤ sh.length ∧ i = .int .i64 k ∧ n = .int .i64 (prodI (sh.take k)) ∧ Hid (∀ (j : Nat) (_ : j < k) (hj : j < sh.length), 0 ≤ sh[j] ∧ sh[j] ≤ 4096)) (fun _ i => sh.length - (intOf i).toNat)
    case atStart => exact ⟨0, Nat.zero_le _, rfl, rfl, hide (fun j hj => by omega)⟩
    case round =>
      obtain ⟨k, hk, rfl, rfl, HOK⟩ := hrel
      by_cases hlt : k < sh.length
      · obtain ⟨b, o, rfl, hbl, h0⟩ := at_int HA.out hlt
        by_cases hx0 : sh[k] < 0
        · have hc : cntF sh = -1 := by
            have : ¬ goodSh sh = true := by
              rw [goodSh_iff]; rintro ⟨_, h, _⟩; have := h sh[k] (List.getElem_mem hlt); omega
            simp [cntF, this]
          have HC := hide hc
          clear hc
          go_wp2_with fail
          go_ret
          exact ⟨ret_int HC.out.symm, rfl⟩
        · by_cases hx1 : 4096 < sh[k]
          · have hc : cntF sh = -1 := by
              have : ¬ goodSh sh = true := by
                rw [goodSh_iff]; rintro ⟨_, h, _⟩; have := h sh[k] (List.getElem_mem hlt); omega
              simp [cntF, this]
            have HC := hide hc
            clear hc
            go_wp2_with fail
            go_ret
            exact ⟨ret_int HC.out.symm, rfl⟩
          · have hm := hide (prod_step sh k H4.out hlt HOK.out (by omega))
            go_wp2_with fail
            go_round
            case rel =>
              refine ⟨k + 1, hlt, by go_num, int_eq hm.out, hide fun j hj hj2 => ?_⟩
              rcases Nat.lt_or_ge j k with h' | h'
              · exact HOK.out j h' hj2
              · obtain rfl : j = k := by omega
                exact ⟨by omega, by omega⟩
            case measure => simp [intOf]; omega
      · have hkk : k = sh.length := by omega
        have hall : ∀ x ∈ sh, 0 ≤ x ∧ x ≤ 4096 := by
          intro x hx
          obtain ⟨j, hj, rfl⟩ := List.getElem_of_mem hx
          exact HOK.out j (by omega) hj
        rw [show sh.take k = sh from by rw [hkk, List.take_length]]
        by_cases hp : 4096 < prodI sh
        · have hc : cntF sh = -1 := by
            have : ¬ goodSh sh = true := by
              rw [goodSh_iff]; rintro ⟨_, _, h⟩; omega
            simp [cntF, this]
          have HC := hide hc
          clear hc hkk hall
          go_wp2_with fail
          go_ret
          exact ⟨ret_int HC.out.symm, rfl⟩
        · have hc : cntF sh = prodI sh := by
            have : goodSh sh = true := by
              rw [goodSh_iff]; exact ⟨h4, hall, by omega⟩
            simp [cntF, this]
          have HC := hide hc
          clear hc hkk hall
          go_wp2_with fail
          go_ret
          exact ⟨ret_int HC.out.symm, rfl⟩
  · have h4b : decide (4 < sh.length) = true := decide_eq_true (by omega)
    have hc : cntF sh = -1 := by
      have : ¬ goodSh sh = true := by rw [goodSh_iff]; rintro ⟨h, _⟩; omega
      simp [cntF, this]
    have HC := hide hc
    clear hc
    go_enter Tryd.func50, Tryd.ntmps50
    go_wp2_with fail
    go_ret
    exact ⟨ret_int HC.out.symm, rfl⟩
/-- What l2Places asks of a view: lengths from 1, a good shape, small strides. -/
def PlOk (sh st : List Int) : Prop := st.length = sh.length ∧ sh.length ≤ 4 ∧ (∀ x ∈ sh, 1 ≤ x ∧ x ≤ 4096) ∧ prodI sh ≤ 4096 ∧ (∀ x ∈ st, -4096 ≤ x ∧ x ≤ 4096)
theorem prod_pos (sh : List Int) (h : ∀ x ∈ sh, 1 ≤ x) : 1 ≤ prodI sh := by
  induction sh with
  | nil => simp [prodI_nil]
  | cons x sh ih =>
    rw [prodI_cons]
    have h1 := h x (by simp)
    have h2 := ih fun y hy => h y (by simp [hy])
    have : (1 : Int) * 1 ≤ x * prodI sh := Int.mul_le_mul h1 h2 (by omega) (by omega)
    omega
theorem prod_drop (sh : List Int) (k : Nat) (h : ∀ x ∈ sh, 1 ≤ x) : prodI (sh.drop k) ≤ prodI sh := by
  have e : prodI sh = prodI (sh.take k) * prodI (sh.drop k) := by rw [← prodI_append, List.take_append_drop]
  have h1 := prod_pos (sh.take k) fun x hx => h x (List.mem_of_mem_take hx)
  have h2 := prod_pos (sh.drop k) fun x hx => h x (List.mem_of_mem_drop hx)
  rw [e]
  have : 1 * prodI (sh.drop k) ≤ prodI (sh.take k) * prodI (sh.drop k) := Int.mul_le_mul_of_nonneg_right h1 (by omega)
  omega
/-- What has come when k rounds of an axis are over. -/
def plAcc (sh st : List Int) (a s : Int) (k : Nat) : List Int := (List.range k).flatMap fun (i : Nat) => placesF sh st (a + (i : Int) * s)
theorem plAcc_succ (sh st : List Int) (a s : Int) (k : Nat) : plAcc sh st a s (k + 1) = plAcc sh st a s k ++ placesF sh st (a + (k : Int) * s) := by
  simp [plAcc, List.range_succ]
theorem plAcc_length (sh st : List Int) (a s : Int) (k : Nat) (h : ∀ x ∈ sh, 0 ≤ x) : ((plAcc sh st a s k).length : Int) = k * prodI sh := by
  induction k with
  | zero => simp [plAcc]
  | succ k ih => rw [plAcc_succ, List.length_append, Int.natCast_add, ih, placesF_length _ _ _ h, Int.natCast_add, Int.add_mul]; simp
theorem placesF_drop (sh st : List Int) (a : Int) (k : Nat) (h : k < sh.length) (h2 : k < st.length) : placesF (sh.drop k) (st.drop k) a = plAcc (sh.drop (k + 1)) (st.drop (k + 1)) a st[k] sh[k].toNat := by
  rw [List.drop_eq_getElem_cons h, List.drop_eq_getElem_cons h2]
  rfl
theorem mul_bd (k : Nat) (s : Int) (hk : (k : Int) ≤ 4096) (h1 : -4096 ≤ s) (h2 : s ≤ 4096) : -16777216 ≤ (k : Int) * s ∧ (k : Int) * s ≤ 16777216 := by
  have a1 : (k : Int) * s ≤ (k : Int) * 4096 := Int.mul_le_mul_of_nonneg_left h2 (by omega)
  have a2 : (k : Int) * (-4096) ≤ (k : Int) * s := Int.mul_le_mul_of_nonneg_left h1 (by omega)
  omega
set_option maxRecDepth 100000 in
set_option maxHeartbeats 1000000 in
theorem l2Places_c (A1 A2 : Option Addr) (c1 c2 : Nat) (sh st : List Int) (off : Int) (hok : PlOk sh st) (d : Nat) :
    ∀ (B axis : Nat) (x a : Int) (w : World), x = (axis : Int) → sh.length - axis = d → axis ≤ sh.length → -4096 - 16777216 * (axis : Int) ≤ a → a ≤ 4096 + 16777216 * (axis : Int) → AtB B w A1 (ivs sh) → AtB B w A2 (ivs st) →
    Calls Tryd.prog 92 #[.agg #[.slice A1 sh.length c1, .slice A2 st.length c2, .int .i64 off], .int .i64 x, .int .i64 a] w (Ret (RowQ w 2 1 (placesF (sh.drop axis) (st.drop axis) a).length (ivs (placesF (sh.drop axis) (st.drop axis) a)))) := by
  obtain ⟨i0, hi, hz0, hz1, hz2⟩ := info_parts infoInt
  have HOK := hide hok
  induction d with
  | zero =>
    intro B axis x a w hxx hd hax ha1 ha2 h1 h2
    subst hxx
    have hax' : axis = sh.length := by omega
    have hp : placesF (sh.drop axis) (st.drop axis) a = [a] := by rw [hax', List.drop_length]; rfl
    have HP := hide hp
    have H1 := hide hax'
    clear hp h1 h2 hax' hok
    have e1 : ((axis : Int) == (sh.length : Int)) = true := by rw [beq_iff_eq, H1.out]
    go_enter Tryd.func92, Tryd.ntmps92
    go_wp2_with fail
    go_ret
    refine ⟨_, rfl, ?_⟩
    rw [HP.out]
    exact rowQ (own_mono (own_new (w.alloc _) (w.heap.size + 1) 2 1 1 #[.int .i64 a] (by simp) rfl (by simp [maxLen])) (by omega)) (below_a2 _ _ _)
  | succ d ih =>
    intro B axis x a w hxx hd hax ha1 ha2 h1 h2
    subst hxx
    have hlt : axis < sh.length := by omega
    have H1 := hide h1.now
    have H2 := hide h2.now
    have IH := hide ih
    have hbox := below_a1 w (.cells #[.slice A1 sh.length c1, .slice A2 st.length c2, .int .i64 off] 38)
    have HBOX := hide hbox
    clear h1 h2 ih hok hbox
    have e1 : ((axis : Int) == (sh.length : Int)) = false := by rw [beq_eq_false_iff_ne]; omega
    go_enter Tryd.func92, Tryd.ntmps92
    go_wp2_with fail
    obtain ⟨hst, h4, hsh, hpr, hstr⟩ := HOK.out
    have hlt2 : axis < st.length := by omega
    clear hst
    have hx := hsh _ (List.getElem_mem hlt)
    have hs := hstr _ (List.getElem_mem hlt2)
    have hge0 : ∀ x ∈ sh.drop (axis + 1), 0 ≤ x := fun x hx' => by have := hsh x (List.mem_of_mem_drop hx'); omega
    have HPL := hide (placesF_drop sh st a axis hlt hlt2)
    have HTOT := hide (show ∀ k : Nat, (k : Int) ≤ sh[axis] → ((plAcc (sh.drop (axis + 1)) (st.drop (axis + 1)) a st[axis] k).length : Int) ≤ 4096 from fun k hk => by
      rw [plAcc_length _ _ _ _ _ hge0]
      have hd1 := prod_drop sh axis fun x hx' => (hsh x hx').1
      rw [List.drop_eq_getElem_cons hlt, prodI_cons] at hd1
      have := Int.mul_le_mul_of_nonneg_right hk (prodI_nonneg _ hge0)
      omega)
    clear hsh hpr hstr hge0
    go_loopw [7, 8] (fun v i wr => ∃ (k : Nat) (A : Option Addr) (c : Nat), (k : Int) ≤ sh[axis] ∧ i = .int .i64 k ∧ v = .slice A (plAcc (sh.drop (axis + 1)) (st.drop (axis + 1)) a st[axis] k).length c ∧
        wr.ownsRow (w.heap.size + 1) 2 1 (.slice A (plAcc (sh.drop (axis + 1)) (st.drop (axis + 1)) a st[axis] k).length c) (plAcc (sh.drop (axis + 1)) (st.drop (axis + 1)) a st[axis] k).length (ivs (plAcc (sh.drop (axis + 1)) (st.drop (axis + 1)) a st[axis] k)) ∧
        Below (w.heap.size + 1) (w.alloc (.cells #[.slice A1 sh.length c1, .slice A2 st.length c2, .int .i64 off] 38)) wr)
      (fun _ i _ => sh[axis].toNat - (intOf i).toNat)
    case atStart =>
      exact ⟨0, _, 0, by omega, rfl, rfl, own_new (w.alloc _) (w.heap.size + 1) 2 1 0 #[] (by simp) rfl (by simp), (Below.refl _ _).alloc (by simp) _⟩
    case round =>
      obtain ⟨k, A, c, hk, rfl, rfl, hown, hb⟩ := hrel
      have hB := hb.size
      have hB' : w.heap.size + 1 ≤ wr.heap.size := by simpa using hB
      obtain ⟨hcell, hfr⟩ := bcell hb
      have g0 := hcell w.heap.size 0 (by omega)
      have g1 := hcell w.heap.size 1 (by omega)
      have g2 := hcell w.heap.size 2 (by omega)
      simp at g0 g1 g2
      have hb0 : Below w.heap.size w wr := (below_a1 w _).trans (hb.mono (by omega))
      obtain ⟨b, o, rfl, hbl, h0⟩ := at_int (H1.out.below hb0) hlt
      obtain ⟨b', o', rfl, hbl', h0'⟩ := at_int (H2.out.below hb0) hlt2
      clear hcell hfr
      by_cases hkl : (k : Int) < sh[axis]
      · have hmb := mul_bd k st[axis] (by omega) hs.1 hs.2
        have e2 : IntKind.i64.wrap ((axis : Int) + 1) = ((axis + 1 : Nat) : Int) := by rw [IntWalk.i64_in _ (by omega)]; rfl
        have e3 : IntKind.i64.wrap ((k : Int) * st[axis]) = (k : Int) * st[axis] := IntWalk.i64_in _ (by omega)
        have e4 : IntKind.i64.wrap (a + (k : Int) * st[axis]) = a + (k : Int) * st[axis] := IntWalk.i64_in _ (by omega)
        have hbb : b' < wr.heap.size := by omega
        have hbx : w.heap.size < wr.heap.size := by omega
        have l0 : (0 : Int) ≤ axis := by omega
        have l1 : (axis : Int) < st.length := by omega
        go_wp2_with fail
        have hk1 : ((k + 1 : Nat) : Int) ≤ sh[axis] := by omega
        have hax2 : axis + 1 ≤ sh.length := by omega
        have hlen2 := HTOT.out (k + 1) hk1
        rw [plAcc_succ, List.length_append] at hlen2
        have HLEN := hide hlen2
        clear hlen2
        have P1 := hide (show (axis : Int) + 1 = ((axis + 1 : Nat) : Int) by omega)
        have P2 := hide (show -4096 - 16777216 * ((axis + 1 : Nat) : Int) ≤ a + (k : Int) * st[axis] by omega)
        have P3 := hide (show a + (k : Int) * st[axis] ≤ 4096 + 16777216 * ((axis + 1 : Nat) : Int) by omega)
        have P4 := hide (show sh.length - (axis + 1) = d by omega)
        go_region_held3 (fun w' => w'.cell? ⟨w.heap.size, 0, none⟩ = some (.slice (some ⟨b, o, none⟩) sh.length c1) ∧ w'.cell? ⟨w.heap.size, 1, none⟩ = some (.slice (some ⟨b', o', none⟩) st.length c2) ∧ w'.cell? ⟨w.heap.size, 2, none⟩ = some (.int .i64 off) ∧ w'.cell? ⟨b', o' + axis, none⟩ = some (.int .i64 st[axis]))
          (first | (with_reducible exact ⟨s0, s1, s2, s3⟩) | (with_reducible exact ⟨r0, r1, r2, r3⟩) | exact ⟨g0, g1, g2, h0'⟩)
          (first
            | (go_at_call 92
               refine (IH.out _ (axis + 1) _ (a + (k : Int) * st[axis]) _ P1.out P4.out hax2 P2.out P3.out (H1.out.below hb0.drew) (H2.out.below hb0.drew)).mono ?_
               rintro e w2 ⟨_, rfl, A5, c5, rfl, hc5, hown5, hb5⟩
               have hown2 := own_below hown (below_of_drew hb5) (Nat.le_refl _)
               obtain ⟨hcell, hfr⟩ := bcell hb5
               have r0 := (hcell _ 0 hbx).trans g0
               have r1 := (hcell _ 1 hbx).trans g1
               have r2 := (hcell _ 2 hbx).trans g2
               have r3 := (hcell _ (o' + axis) hbb).trans h0'
               have hbz := below_go hb (below_of_drew hb5) hB'
               have hz5 : wr.heap.size ≤ w2.heap.size := hb5.size
               obtain ⟨_, _, e5, _, hat5⟩ := own_atB hown5 (fun g hg => (hown5.lt g hg).2)
               cases e5
               clear hcell hfr)
            | (refine step_append_at _ (by rfl) (.tmp 26) (.tmp 39) 25 (by rfl) (w.heap.size + 1) 2 i0 _ 1 8 Tryd.underlying25 hi hz0 hz1 hz2 rfl (by omega) _ _ _ (by rfl) hown2 _ A5 _ c5 _ (by rfl) (by rw [ivs_length, Nat.mul_one]) hat5 (ivs_one _) (by simp only [maxLen]; have := HLEN.out; omega) (by have := HLEN.out; omega) (by omega) ?_
               intro A6 c6 w6 hc6 hown6 hg6
               have s0 := (World.cell?_of_block (hg6.block w.heap.size (by omega) (fun e => by have := (hown2.lt _ e.symm).1; omega))).trans r0
               have s1 := (World.cell?_of_block (a := ⟨w.heap.size, 1, none⟩) (hg6.block w.heap.size (by omega) (fun e => by have := (hown2.lt _ e.symm).1; omega))).trans r1
               have s2 := (World.cell?_of_block (a := ⟨w.heap.size, 2, none⟩) (hg6.block w.heap.size (by omega) (fun e => by have := (hown2.lt _ e.symm).1; omega))).trans r2
               have s3 := (World.cell?_of_block (a := ⟨b', o' + axis, none⟩) (hg6.block b' (by omega) (fun e => by have := (hown2.lt _ e.symm).1; omega))).trans r3))
        have hb6 := below_grow hbz hown2 hg6 (by omega) (Nat.le_refl _)
        go_wp2_with fail
        go_roundw
        case rel =>
          refine ⟨k + 1, A6, c6, hk1, by go_num, ?_, ?_, hb6⟩
          · rw [plAcc_succ, List.length_append]
          · rw [plAcc_succ, List.length_append, ivs_append]; exact hown6
        case measure => simp [intOf]; omega
      · have hkk : k = sh[axis].toNat := by omega
        have HK := hide hkk
        clear hkk
        go_wp2_with fail
        go_ret
        refine ⟨_, rfl, ?_⟩
        rw [HPL.out, ← HK.out]
        exact rowQ (own_mono hown (by omega)) hb0
end Go.Proofs.YtnmnkiihbopebaaDoor
