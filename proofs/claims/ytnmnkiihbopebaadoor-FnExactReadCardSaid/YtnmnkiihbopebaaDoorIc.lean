/- The implementation's merged. -/
import Derived.Test.YtnmnkiihbopebaaDoorIb
import Derived.Test.YtnmnkiihbopebaaDoorMg
namespace Go.Proofs.YtnmnkiihbopebaaDoor
open Go.RowKit Go.Nd
attribute [local go_sem] run_store_float

/-- An array of four numbers: what it holds when the first are xs. -/
def arr4 (xs : List Int) : List Int := xs ++ List.replicate (4 - xs.length) 0
def agg4 (xs : List Int) : Value := .agg (ivs (arr4 xs)).toArray
def pairs (sh st : List Int) : List (Int × Int) := sh.zip st
def MgQ (w : World) (m : List (Int × Int)) (v : Value) (w' : World) : Prop := v = .tuple #[agg4 (m.map (·.1)), agg4 (m.map (·.2)), .int .i64 m.length] ∧ Below w.heap.size w w'
theorem arr4_length (xs : List Int) (h : xs.length ≤ 4) : (arr4 xs).length = 4 := by simp [arr4]; omega
theorem arr4_last (xs : List Int) (a : Int) : (arr4 (xs ++ [a]))[xs.length]? = some a := by simp [arr4]
theorem arr4_set (xs : List Int) (a b : Int) : (arr4 (xs ++ [a])).set xs.length b = arr4 (xs ++ [b]) := by
  unfold arr4
  rw [List.append_assoc, List.set_append_right _ _ (Nat.le_refl _), Nat.sub_self]
  simp
theorem arr4_push (xs : List Int) (x : Int) (h : xs.length < 4) : (arr4 xs).set xs.length x = arr4 (xs ++ [x]) := by
  unfold arr4
  rw [snoc_fill xs 0 x 4 h]
  simp
theorem ivs4 (xs : List Int) (j : Nat) (x : Int) (h : xs[j]? = some x) : (ivs xs)[j]? = some (.int .i64 x) := by simp [ivs, h]
/-- Four values stored in a row, twice. -/
def set4 (w : World) (b : Nat) (x0 x1 x2 x3 : Value) : World := (((w.setCell ⟨b, 0, none⟩ x0).setCell ⟨b, 1, none⟩ x1).setCell ⟨b, 2, none⟩ x2).setCell ⟨b, 3, none⟩ x3
theorem set4_cells (w : World) (b : Nat) (x0 x1 x2 x3 : Value) {u0 u1 u2 u3 : Value} (h0 : w.cell? ⟨b, 0, none⟩ = some u0) (h1 : w.cell? ⟨b, 1, none⟩ = some u1) (h2 : w.cell? ⟨b, 2, none⟩ = some u2) (h3 : w.cell? ⟨b, 3, none⟩ = some u3) :
    (set4 w b x0 x1 x2 x3).cell? ⟨b, 0, none⟩ = some x0 ∧ (set4 w b x0 x1 x2 x3).cell? ⟨b, 1, none⟩ = some x1 ∧ (set4 w b x0 x1 x2 x3).cell? ⟨b, 2, none⟩ = some x2 ∧ (set4 w b x0 x1 x2 x3).cell? ⟨b, 3, none⟩ = some x3 := by
  have ne : ∀ {i j : Nat}, i ≠ j → (⟨b, i, none⟩ : Addr) ≠ ⟨b, j, none⟩ := fun h e => h (by injection e)
  unfold set4
  refine ⟨?_, ?_, ?_, ?_⟩
  · rw [World.cell?_setCell_other _ _ _ _ (ne (by omega)), World.cell?_setCell_other _ _ _ _ (ne (by omega)), World.cell?_setCell_other _ _ _ _ (ne (by omega))]
    exact World.cell?_setCell_same' _ _ _ (by rw [h0]; rfl)
  · rw [World.cell?_setCell_other _ _ _ _ (ne (by omega)), World.cell?_setCell_other _ _ _ _ (ne (by omega))]
    exact World.cell?_setCell_same' _ _ _ (by rw [World.cell?_setCell_other _ _ _ _ (ne (by omega)), h1]; rfl)
  · rw [World.cell?_setCell_other _ _ _ _ (ne (by omega))]
    exact World.cell?_setCell_same' _ _ _ (by rw [World.cell?_setCell_other _ _ _ _ (ne (by omega)), World.cell?_setCell_other _ _ _ _ (ne (by omega)), h2]; rfl)
  · exact World.cell?_setCell_same' _ _ _ (by rw [World.cell?_setCell_other _ _ _ _ (ne (by omega)), World.cell?_setCell_other _ _ _ _ (ne (by omega)), World.cell?_setCell_other _ _ _ _ (ne (by omega)), h3]; rfl)
theorem set4_far (w : World) (b : Nat) (x0 x1 x2 x3 : Value) (a : Addr) (h : b ≠ a.block) : (set4 w b x0 x1 x2 x3).cell? a = w.cell? a := by
  unfold set4
  rw [World.cell?_setCell_far _ _ _ _ h, World.cell?_setCell_far _ _ _ _ h, World.cell?_setCell_far _ _ _ _ h, World.cell?_setCell_far _ _ _ _ h]
theorem set4_below {B : Nat} {W w : World} (h : Below B W w) (b : Nat) (hb : B ≤ b) (x0 x1 x2 x3 : Value) : Below B W (set4 w b x0 x1 x2 x3) :=
  (((h.setCell (p := ⟨b, 0, none⟩) hb _).setCell (p := ⟨b, 1, none⟩) hb _).setCell (p := ⟨b, 2, none⟩) hb _).setCell (p := ⟨b, 3, none⟩) hb _
/-- The world of merged's loop. -/
structure MgW (w wr : World) (T : TypeId) (v0 v1 : Value) (m : List (Int × Int)) : Prop where
  below : Below w.heap.size w wr
  size : w.heap.size + 5 ≤ wr.heap.size
  s0 : wr.cell? ⟨w.heap.size, 0, none⟩ = some v0
  s1 : wr.cell? ⟨w.heap.size, 1, none⟩ = some v1
  z1 : wr.ownsRow (w.heap.size + 1) T 1 (.slice (some ⟨w.heap.size + 1, 0, none⟩) 4 4) 4 (ivs (arr4 []))
  z2 : wr.ownsRow (w.heap.size + 2) T 1 (.slice (some ⟨w.heap.size + 2, 0, none⟩) 4 4) 4 (ivs (arr4 []))
  a1 : wr.ownsRow (w.heap.size + 3) T 1 (.slice (some ⟨w.heap.size + 3, 0, none⟩) 4 4) 4 (ivs (arr4 (m.map (·.1))))
  a2 : wr.ownsRow (w.heap.size + 4) T 1 (.slice (some ⟨w.heap.size + 4, 0, none⟩) 4 4) 4 (ivs (arr4 (m.map (·.2))))
theorem MgW.drewN {w wr : World} {T : TypeId} {v0 v1 : Value} {m : List (Int × Int)} (h : MgW w wr T v0 v1 m) (n : Nat) : MgW w (wr.drewN n) T v0 v1 m := ⟨below_drewN h.below n, h.size, h.s0, h.s1, h.z1, h.z2, h.a1, h.a2⟩
theorem MgW.set1 {w wr : World} {T : TypeId} {v0 v1 : Value} {m m' : List (Int × Int)} (h : MgW w wr T v0 v1 m) (k k2 : Nat) (x y : Int) (h1 : (arr4 (m.map (·.1))).set k x = arr4 (m'.map (·.1))) (h2 : (arr4 (m.map (·.2))).set k2 y = arr4 (m'.map (·.2))) :
    MgW w ((wr.setCell ⟨w.heap.size + 3, k, none⟩ (.int .i64 x)).setCell ⟨w.heap.size + 4, k2, none⟩ (.int .i64 y)) T v0 v1 m' where
  below := (h.below.setCell (p := ⟨w.heap.size + 3, k, none⟩) (by simp) _).setCell (p := ⟨w.heap.size + 4, k2, none⟩) (by simp) _
  size := by have := h.size; simp [World.setCell]; omega
  s0 := (World.cell?_setCell_far _ _ _ _ (by simp)).trans ((World.cell?_setCell_far _ _ _ _ (by simp)).trans h.s0)
  s1 := (World.cell?_setCell_far _ _ _ _ (by simp)).trans ((World.cell?_setCell_far _ _ _ _ (by simp)).trans h.s1)
  z1 := own_other (own_other h.z1 (by simp [Value.ownBlock]) _) (by simp [Value.ownBlock]) _
  z2 := own_other (own_other h.z2 (by simp [Value.ownBlock]) _) (by simp [Value.ownBlock]) _
  a1 := own_other (by rw [← h1]; exact own_set_int h.a1 k x) (by simp [Value.ownBlock]) _
  a2 := by rw [← h2]; exact own_set_int (own_other h.a2 (by simp [Value.ownBlock]) _) k2 y
theorem pairs_fst (sh st : List Int) (h : st.length = sh.length) : (pairs sh st).map (·.1) = sh := by
  unfold pairs; exact List.map_fst_zip (by omega)
theorem pairs_snd (sh st : List Int) (h : st.length = sh.length) : (pairs sh st).map (·.2) = st := by
  unfold pairs; exact List.map_snd_zip (by omega)
theorem pairs_ok {sh st : List Int} (h : PlOk sh st) (k : Nat) : AxOk (mergeF ((pairs sh st).take k)) := by
  obtain ⟨h1, h2, h3, h4, h5⟩ := h
  have hz : (pairs sh st).length = sh.length := by simp [pairs]; omega
  refine mergeF_ok _ (by rw [List.length_take]; omega) (fun q hq => ?_) (fun q hq => ?_) ?_
  · exact (h3 _ (List.of_mem_zip (List.mem_of_mem_take hq)).1).1
  · exact h5 _ (List.of_mem_zip (List.mem_of_mem_take hq)).2
  · rw [prodP, List.map_take, pairs_fst sh st h1]
    have e : prodI sh = prodI (sh.take k) * prodI (sh.drop k) := by rw [← prodI_append, List.take_append_drop]
    have p1 := prod_pos (sh.drop k) fun x hx => (h3 x (List.mem_of_mem_drop hx)).1
    have p2 := prod_pos (sh.take k) fun x hx => (h3 x (List.mem_of_mem_take hx)).1
    have := Int.mul_le_mul_of_nonneg_left p1 (show 0 ≤ prodI (sh.take k) by omega)
    omega
theorem mul_bd' (n s : Int) (h0 : 0 ≤ n) (h1 : n ≤ 4096) (h2 : -4096 ≤ s) (h3 : s ≤ 4096) : -16777216 ≤ s * n ∧ s * n ≤ 16777216 := by
  have := mul_bd n.toNat s (by omega) h2 h3
  rwa [Int.toNat_of_nonneg h0, Int.mul_comm] at this
theorem four (xs : List Int) (h : xs.length ≤ 4) : ∃ x0 x1 x2 x3, arr4 xs = [x0, x1, x2, x3] ∧ agg4 xs = .agg #[.int .i64 x0, .int .i64 x1, .int .i64 x2, .int .i64 x3] := by
  have := arr4_length xs h
  match hx : arr4 xs, this with
  | [x0, x1, x2, x3], _ => exact ⟨x0, x1, x2, x3, rfl, by simp [agg4, hx, ivs]⟩
theorem own_four {w : World} {base g : Nat} {e : TypeId} {x0 x1 x2 x3 : Int} (h : w.ownsRow base e 1 (.slice (some ⟨g, 0, none⟩) 4 4) 4 (ivs [x0, x1, x2, x3])) :
    w.cell? ⟨g, 0, none⟩ = some (.int .i64 x0) ∧ w.cell? ⟨g, 1, none⟩ = some (.int .i64 x1) ∧ w.cell? ⟨g, 2, none⟩ = some (.int .i64 x2) ∧ w.cell? ⟨g, 3, none⟩ = some (.int .i64 x3) :=
  ⟨own_cell h rfl, own_cell h rfl, own_cell h rfl, own_cell h rfl⟩
set_option maxRecDepth 100000 in
set_option maxHeartbeats 1000000 in
theorem imerged_c {B : Nat} (A1 A2 : Option Addr) (c1 c2 : Nat) (V : Vw) (w : World) (hok : PlOk V.sh V.st) (h1 : AtB B w A1 (ivs V.sh)) (h2 : AtB B w A2 (ivs V.st)) :
    Calls Tryd.prog 91 #[.agg #[.slice A1 V.sh.length c1, .slice A2 V.st.length c2, .int .i64 V.off]] w (Ret (MgQ w (mergeF (pairs V.sh V.st)))) := by
  obtain ⟨sh, st, off⟩ := V
  dsimp only at hok h1 h2 ⊢
  have H1 := hide h1.now
  have H2 := hide h2.now
  have HOK := hide hok
  clear h1 h2 hok
  go_enter Tryd.func91, Tryd.ntmps91
  go_wp2_with fail
  have hlen := HOK.out.1
  have hl4 := HOK.out.2.1
  have hsh := HOK.out.2.2.1
  have hstr := HOK.out.2.2.2.2
  have hzl : (pairs sh st).length = sh.length := by simp [pairs]; omega
  have HLEN := hide hlen
  clear hlen
  go_loopw [7, 13] (fun n i wr => ∃ k : Nat, k ≤ sh.length ∧ i = .int .i64 k ∧ n = .int .i64 (mergeF ((pairs sh st).take k)).length ∧
      MgW w wr 130 (.slice A1 sh.length c1) (.slice A2 st.length c2) (mergeF ((pairs sh st).take k))) (fun _ i _ => sh.length - (intOf i).toNat)
  case atStart =>
    refine ⟨0, Nat.zero_le _, rfl, rfl, ?_⟩
    have hb : Below w.heap.size w (((((w.alloc (.cells #[.slice A1 sh.length c1, .slice A2 st.length c2, .int .i64 off] 38)).alloc (.cells #[.int .i64 0, .int .i64 0, .int .i64 0, .int .i64 0] 130)).alloc (.cells #[.int .i64 0, .int .i64 0, .int .i64 0, .int .i64 0] 130)).alloc (.cells #[.int .i64 0, .int .i64 0, .int .i64 0, .int .i64 0] 130)).alloc (.cells #[.int .i64 0, .int .i64 0, .int .i64 0, .int .i64 0] 130)) := (below_a4 _ _ _ _ _).alloc (by simp; omega) _
    refine ⟨hb, by simp, by simp [go_sem], by simp [go_sem], own_alloc (own_alloc (own_alloc (own_new _ _ _ 1 4 _ ?_ rfl (by simp [maxLen])) _) _) _, own_alloc (own_alloc (own_new _ _ _ 1 4 _ ?_ rfl (by simp [maxLen])) _) _, own_alloc (own_new _ _ _ 1 4 _ ?_ rfl (by simp [maxLen])) _, own_new _ _ _ 1 4 _ ?_ rfl (by simp [maxLen])⟩ <;> simp
  case round =>
    obtain ⟨k, hk, rfl, rfl, HW⟩ := hrel
    by_cases hlt : k < sh.length
    · have hlt2 : k < st.length := by have := HLEN.out; omega
      have hps : (pairs sh st)[k]'(by omega) = (sh[k], st[k]) := by simp [pairs]
      have HPS := hide hps
      have hstep : mergeF ((pairs sh st).take (k + 1)) = mStep (mergeF ((pairs sh st).take k)) (sh[k], st[k]) := by
        rw [List.take_succ_eq_append_getElem (by omega), mergeF_snoc, hps]
      have HST := hide hstep
      clear hstep hps
      have hx := hsh _ (List.getElem_mem hlt)
      have hs := hstr _ (List.getElem_mem hlt2)
      obtain ⟨b, o, rfl, hbl, h0⟩ := at_int (H1.out.below HW.below) hlt
      obtain ⟨b', o', rfl, hbl', h0'⟩ := at_int (H2.out.below HW.below) hlt2
      have g0 := HW.s0
      have g1 := HW.s1
      by_cases hx1 : sh[k] = 1
      · have e1 : (sh[k] == 1) = true := by simpa using hx1
        have HST2 := hide (show mergeF ((pairs sh st).take (k + 1)) = mergeF ((pairs sh st).take k) by rw [HST.out]; simp [mStep, hx1])
        clear hx1
        go_wp2_with fail
        go_roundw
        case rel => exact ⟨k + 1, hlt, by go_num, by rw [HST2.out], by rw [HST2.out]; exact HW⟩
        case measure => simp [intOf]; omega
      · have e1 : (sh[k] == 1) = false := by simpa using hx1
        have hm := mergeF_facts ((pairs sh st).take k) (fun q hq => by
          have := List.mem_of_mem_take hq
          obtain ⟨h1, _⟩ := List.of_mem_zip this
          exact (hsh _ h1).1)
        have HM := hide hm
        clear hm
        rcases List.eq_nil_or_concat (mergeF ((pairs sh st).take k)) with hnil | ⟨init, q, hq⟩
        · have HST2 := hide (show mergeF ((pairs sh st).take (k + 1)) = [(sh[k], st[k])] by rw [HST.out, hnil]; simp [mStep, hx1])
          rw [hnil] at HW
          rw [hnil]
          clear hx1 hnil
          have q3 := own_cell HW.a1 (ivs4 _ 0 0 rfl)
          have q4 := own_cell HW.a2 (ivs4 _ 0 0 rfl)
          have f3 := own_frozen HW.a1 0
          have f4 := own_frozen HW.a2 0
          go_wp2_with fail
          go_quiet (fail)
          go_wp2_with fail
          go_region_held3 (fun w' => w'.cell? ⟨w.heap.size, 1, none⟩ = some (.slice (some ⟨b', o', none⟩) st.length c2) ∧ w'.cell? ⟨b', o' + k, none⟩ = some (.int .i64 st[k]))
            ((constructor; all_goals (repeat refine (World.cell?_setCell_far _ _ _ _ (by dsimp only; omega)).trans ?_); all_goals (first | exact g1 | exact h0')))
            (fail)
          go_wp2_with fail
          go_roundw
          case rel => exact ⟨k + 1, hlt, by go_num, by rw [HST2.out]; rfl, by rw [HST2.out]; exact (HW.drewN _).set1 0 0 _ _ rfl rfl⟩
          case measure => simp [intOf]; omega
        · rw [List.concat_eq_append] at hq
          have hax := pairs_ok HOK.out k
          rw [hq] at hax HW
          rw [hq]
          have hqb := hax.2 q (by simp)
          have hm4 : init.length + 1 ≤ 4 := by have := hax.1; simpa using this
          have e0 : ((init ++ [q]).length : Int) = (init.length : Int) + 1 := by simp
          rw [e0]
          have q5 := own_cell HW.a1 (ivs4 _ init.length q.1 (by have := arr4_last (init.map (·.1)) q.1; rw [List.length_map] at this; rw [List.map_append]; exact this))
          have q6 := own_cell HW.a2 (ivs4 _ init.length q.2 (by have := arr4_last (init.map (·.2)) q.2; rw [List.length_map] at this; rw [List.map_append]; exact this))
          have f5 := own_frozen HW.a1 init.length
          have f6 := own_frozen HW.a2 init.length
          have hbd := mul_bd' sh[k] st[k] (by omega) hx.2 hs.1 hs.2
          have hbd2 := mul_bd' sh[k] q.1 (by omega) hx.2 (by omega) hqb.2.1
          have e2 : IntKind.i64.wrap ((init.length : Int) + 1 - 1) = (init.length : Int) := by rw [show (init.length : Int) + 1 - 1 = init.length by omega]; exact IntWalk.i64_in _ (by omega)
          have e3 : IntKind.i64.wrap (st[k] * sh[k]) = st[k] * sh[k] := IntWalk.i64_in _ (by omega)
          have e5 : IntKind.i64.wrap (q.1 * sh[k]) = q.1 * sh[k] := IntWalk.i64_in _ (by omega)
          have d0 : decide ((0 : Int) < (init.length : Int) + 1) = true := decide_eq_true (by omega)
          have l0 : (0 : Int) ≤ init.length := by omega
          have l1 : (init.length : Int) < 4 := by omega
          by_cases hmg : q.2 = st[k] * sh[k]
          · have e4 : (q.2 == st[k] * sh[k]) = true := by simpa using hmg
            have HST2 := hide (show mergeF ((pairs sh st).take (k + 1)) = init ++ [(q.1 * sh[k], st[k])] by rw [HST.out, hq]; simp [mStep, hx1, hmg])
            clear hx1 hmg hq
            go_wp2_with fail
            go_quiet (fail)
            go_wp2_with fail
            go_roundw
            case rel =>
              refine ⟨k + 1, hlt, by go_num, by rw [HST2.out]; simp, ?_⟩
              rw [HST2.out]
              refine (HW.drewN _).set1 init.length init.length _ _ ?_ ?_
              · have := arr4_set (init.map (·.1)) q.1 (q.1 * sh[k])
                rw [List.length_map] at this
                rw [List.map_append, List.map_append]; exact this
              · have := arr4_set (init.map (·.2)) q.2 st[k]
                rw [List.length_map] at this
                rw [List.map_append, List.map_append]; exact this
            case measure => simp [intOf]; omega
          · have e4 : (q.2 == st[k] * sh[k]) = false := by simpa using hmg
            have HST2 := hide (show mergeF ((pairs sh st).take (k + 1)) = init ++ [q] ++ [(sh[k], st[k])] by rw [HST.out, hq]; simp [mStep, hx1, hmg])
            have hml : init.length + 1 < 4 := by
              have h1 := HM.out.2.2.1
              rw [hq] at h1
              simp at h1
              omega
            have l2 : (0 : Int) ≤ (init.length : Int) + 1 := by omega
            have l3 : (init.length : Int) + 1 < 4 := by omega
            have l4 : ((init.length : Int) + 1).toNat = init.length + 1 := by omega
            have hl1 : ((init ++ [q]).map (·.1)).length = init.length + 1 := by simp
            have hl2 : ((init ++ [q]).map (·.2)).length = init.length + 1 := by simp
            have q3 := own_cell HW.a1 (ivs4 _ (init.length + 1) _ (List.getElem?_eq_getElem (by rw [arr4_length _ (by rw [hl1]; omega)]; exact hml)))
            have q4 := own_cell HW.a2 (ivs4 _ (init.length + 1) _ (List.getElem?_eq_getElem (by rw [arr4_length _ (by rw [hl2]; omega)]; exact hml)))
            have f3 := own_frozen HW.a1 (init.length + 1)
            have f4 := own_frozen HW.a2 (init.length + 1)
            clear hx1 hmg hq
            go_wp2_with fail
            go_quiet (fail)
            go_wp2_with fail
            go_region_held3 (fun w' => w'.cell? ⟨w.heap.size, 1, none⟩ = some (.slice (some ⟨b', o', none⟩) st.length c2) ∧ w'.cell? ⟨b', o' + k, none⟩ = some (.int .i64 st[k]))
              ((constructor; all_goals (repeat refine (World.cell?_setCell_far _ _ _ _ (by dsimp only; omega)).trans ?_); all_goals (first | exact g1 | exact h0')))
              (fail)
            go_wp2_with fail
            go_roundw
            case rel =>
              refine ⟨k + 1, hlt, by go_num, by rw [HST2.out]; simp; omega, ?_⟩
              rw [HST2.out]
              refine (HW.drewN _).set1 (init.length + 1) (init.length + 1) _ _ ?_ ?_
              · have := arr4_push ((init ++ [q]).map (·.1)) sh[k] (by rw [hl1]; exact hml)
                rw [hl1] at this
                rw [List.map_append (l₁ := init ++ [q])]; exact this
              · have := arr4_push ((init ++ [q]).map (·.2)) st[k] (by rw [hl2]; exact hml)
                rw [hl2] at this
                rw [List.map_append (l₁ := init ++ [q])]; exact this
            case measure => simp [intOf]; omega
    · obtain rfl : k = sh.length := by omega
      have htk : (pairs sh st).take sh.length = pairs sh st := by rw [← hzl, List.take_length]
      have hax := pairs_ok HOK.out sh.length
      rw [htk] at HW hax ⊢
      generalize hm : mergeF (pairs sh st) = m at HW hax ⊢
      have HMM := hide hm
      clear hm
      obtain ⟨x0, x1, x2, x3, hx, hxa⟩ := four (m.map (·.1)) (by rw [List.length_map]; exact hax.1)
      obtain ⟨y0, y1, y2, y3, hy, hya⟩ := four (m.map (·.2)) (by rw [List.length_map]; exact hax.1)
      have HXA := hide hxa
      have HYA := hide hya
      have A1' := HW.a1
      have A2' := HW.a2
      rw [hx] at A1'
      rw [hy] at A2'
      obtain ⟨p0, p1, p2, p3⟩ := own_four A1'
      obtain ⟨r0, r1, r2, r3⟩ := own_four A2'
      obtain ⟨s0, s1, s2, s3⟩ := own_four HW.z1
      obtain ⟨t0, t1, t2, t3⟩ := own_four HW.z2
      have fs := own_frozen HW.z1
      have ft := own_frozen HW.z2
      have hbz := HW.below
      clear hxa hya hx hy A1' A2'
      go_wp2_with fail
      go_region_held3 (fun w' => w'.cell? ⟨w.heap.size + 3, 0, none⟩ = some (.int .i64 x0) ∧ w'.cell? ⟨w.heap.size + 3, 1, none⟩ = some (.int .i64 x1) ∧ w'.cell? ⟨w.heap.size + 3, 2, none⟩ = some (.int .i64 x2) ∧ w'.cell? ⟨w.heap.size + 3, 3, none⟩ = some (.int .i64 x3) ∧
          w'.cell? ⟨w.heap.size + 4, 0, none⟩ = some (.int .i64 y0) ∧ w'.cell? ⟨w.heap.size + 4, 1, none⟩ = some (.int .i64 y1) ∧ w'.cell? ⟨w.heap.size + 4, 2, none⟩ = some (.int .i64 y2) ∧ w'.cell? ⟨w.heap.size + 4, 3, none⟩ = some (.int .i64 y3))
        (go_keep)
        (fail)
      go_wp2_with fail
      have hc1 := set4_cells wr (w.heap.size + 1) (.int .i64 x0) (.int .i64 x1) (.int .i64 x2) (.int .i64 x3) s0 s1 s2 s3
      have n12 : w.heap.size + 1 ≠ w.heap.size + 2 := by omega
      have n21 : w.heap.size + 2 ≠ w.heap.size + 1 := by omega
      have hc2 := set4_cells (set4 wr (w.heap.size + 1) (.int .i64 x0) (.int .i64 x1) (.int .i64 x2) (.int .i64 x3)) (w.heap.size + 2) (.int .i64 y0) (.int .i64 y1) (.int .i64 y2) (.int .i64 y3) ((set4_far _ _ _ _ _ _ _ n12).trans t0) ((set4_far _ _ _ _ _ _ _ n12).trans t1) ((set4_far _ _ _ _ _ _ _ n12).trans t2) ((set4_far _ _ _ _ _ _ _ n12).trans t3)
      have hb2 := set4_below (set4_below hbz (w.heap.size + 1) (by omega) (.int .i64 x0) (.int .i64 x1) (.int .i64 x2) (.int .i64 x3)) (w.heap.size + 2) (by omega) (.int .i64 y0) (.int .i64 y1) (.int .i64 y2) (.int .i64 y3)
      have hc3 := And.intro ((set4_far (set4 wr (w.heap.size + 1) (.int .i64 x0) (.int .i64 x1) (.int .i64 x2) (.int .i64 x3)) (w.heap.size + 2) (.int .i64 y0) (.int .i64 y1) (.int .i64 y2) (.int .i64 y3) ⟨w.heap.size + 1, 0, none⟩ n21).trans hc1.1) (And.intro ((set4_far (set4 wr (w.heap.size + 1) (.int .i64 x0) (.int .i64 x1) (.int .i64 x2) (.int .i64 x3)) (w.heap.size + 2) (.int .i64 y0) (.int .i64 y1) (.int .i64 y2) (.int .i64 y3) ⟨w.heap.size + 1, 1, none⟩ n21).trans hc1.2.1) (And.intro ((set4_far (set4 wr (w.heap.size + 1) (.int .i64 x0) (.int .i64 x1) (.int .i64 x2) (.int .i64 x3)) (w.heap.size + 2) (.int .i64 y0) (.int .i64 y1) (.int .i64 y2) (.int .i64 y3) ⟨w.heap.size + 1, 2, none⟩ n21).trans hc1.2.2.1) ((set4_far (set4 wr (w.heap.size + 1) (.int .i64 x0) (.int .i64 x1) (.int .i64 x2) (.int .i64 x3)) (w.heap.size + 2) (.int .i64 y0) (.int .i64 y1) (.int .i64 y2) (.int .i64 y3) ⟨w.heap.size + 1, 3, none⟩ n21).trans hc1.2.2.2)))
      obtain ⟨W9, hW9⟩ : ∃ W9, W9 = set4 (set4 wr (w.heap.size + 1) (.int .i64 x0) (.int .i64 x1) (.int .i64 x2) (.int .i64 x3)) (w.heap.size + 2) (.int .i64 y0) (.int .i64 y1) (.int .i64 y2) (.int .i64 y3) := ⟨_, rfl⟩
      rw [← hW9] at hc2 hc3 hb2
      change bodyPost _ _ _ _ _ (World.drew (set4 (set4 wr (w.heap.size + 1) (.int .i64 x0) (.int .i64 x1) (.int .i64 x2) (.int .i64 x3)) (w.heap.size + 2) (.int .i64 y0) (.int .i64 y1) (.int .i64 y2) (.int .i64 y3)))
      rw [← hW9]
      clear hW9 hc1
      obtain ⟨c20, c21, c22, c23⟩ := hc2
      obtain ⟨c10, c11, c12, c13⟩ := hc3
      refine bodyPost_ret (v := .tuple #[.agg #[.int .i64 x0, .int .i64 x1, .int .i64 x2, .int .i64 x3], .agg #[.int .i64 y0, .int .i64 y1, .int .i64 y2, .int .i64 y3], .int .i64 m.length]) (by simp [results, Tryd.results91, go_sem, c10, c11, c12, c13, c20, c21, c22, c23]) rfl ⟨_, rfl, ?_, ?_⟩
      · rw [HMM.out, HXA.out, HYA.out]
      · exact below_drewN hb2 1
end Go.Proofs.YtnmnkiihbopebaaDoor
