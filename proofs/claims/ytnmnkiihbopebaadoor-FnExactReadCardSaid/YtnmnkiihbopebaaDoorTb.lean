/- The program's table of dtypes, from the row's list. -/
import Derived.Test.YtnmnkiihbopebaaDoorVi
import Derived.Test.YtnmnkiihbopebaaDoorRows
import Derived.OpenShut
import Derived.ChangeArms
import Derived.Lib.LaidTab
namespace Go.Proofs.YtnmnkiihbopebaaDoor
open Go.ChangeShapes Go.WideShapes Go.RowKit Go.Nd

theorem gTab : Tryd.prog.globalNamed "loop.example/s16388/impl.dtypes" = some 0 := by kernel_rfl
theorem gTabType : (Tryd.prog.globals[0]?).map (·.type) = some 146 := by kernel_rfl
theorem cellsTab : Tryd.prog.cellsOf 146 = 50 := by kernel_rfl
theorem cellsRow : Tryd.prog.cellsOf 145 = 5 := by kernel_rfl
theorem cellsInt1 : Tryd.prog.cellsOf 3 = 1 := by kernel_rfl
theorem cellsInt2 : Tryd.prog.cellsOf 2 = 1 := by kernel_rfl

theorem lit_of {H : Type} {t : TypeId} {enc : TypeId × Value → H} {w : World} {base : Nat} {sp : Nat → Bool} {hd : Bool} {fuel : Nat} {cs : List Value} {x : DataW H × List MemPlace} {a : Int}
    (ht : Tryd.prog.underlying t = some (.int .i64)) (h : DataW.trod enc Tryd.prog w base sp hd fuel t cs = some x) (e : x.1 = .lit (.int .i64 a)) : cs = [.int .i64 a] := by
  obtain ⟨i, rfl, rfl, _⟩ := DataW.trod_int ht h
  simp only [DataW.lit.injEq, Lit.int.injEq, true_and] at e
  rw [e]
set_option maxRecDepth 100000 in
theorem row_of {H : Type} {enc : TypeId × Value → H} {w : World} {base : Nat} {sp : Nat → Bool} {hd : Bool} {fuel : Nat} {cs : List Value} {x : DataW H × List MemPlace} {a0 a1 a2 a3 a4 : Int}
    (h : DataW.trod enc Tryd.prog w base sp hd fuel 145 cs = some x) (e : x.1 = .agg [.lit (.int .i64 a0), .lit (.int .i64 a1), .lit (.int .i64 a2), .lit (.int .i64 a3), .lit (.int .i64 a4)]) :
    cs = [.int .i64 a0, .int .i64 a1, .int .i64 a2, .int .i64 a3, .int .i64 a4] := by
  obtain ⟨xs, n, _, rfl, hl, hlen, hf⟩ := DataW.trod_struct Tryd.underlying145 h
  rw [cellsRow] at hl
  match xs, hlen with
  | [y0, y1, y2, y3, y4], _ =>
    match cs, hl with
    | [v0, v1, v2, v3, v4], _ =>
      have h0 : DataW.trod enc Tryd.prog w base sp hd n 3 [v0] = some y0 := by simpa [cellsInt1] using hf 0 _ rfl
      have h1 : DataW.trod enc Tryd.prog w base sp hd n 2 [v1] = some y1 := by simpa [cellsInt2] using hf 1 _ rfl
      have h2 : DataW.trod enc Tryd.prog w base sp hd n 2 [v2] = some y2 := by simpa [cellsInt2] using hf 2 _ rfl
      have h3 : DataW.trod enc Tryd.prog w base sp hd n 2 [v3] = some y3 := by simpa [cellsInt2] using hf 3 _ rfl
      have h4 : DataW.trod enc Tryd.prog w base sp hd n 2 [v4] = some y4 := by simpa [cellsInt2] using hf 4 _ rfl
      simp only [List.map_cons, List.map_nil, DataW.agg.injEq, List.cons.injEq, and_true] at e
      obtain ⟨e0, e1, e2, e3, e4⟩ := e
      have f0 := lit_of Tryd.underlying3 h0 e0
      have f1 := lit_of Tryd.underlying2 h1 e1
      have f2 := lit_of Tryd.underlying2 h2 e2
      have f3 := lit_of Tryd.underlying2 h3 e3
      have f4 := lit_of Tryd.underlying2 h4 e4
      simp only [List.cons.injEq, and_true] at f0 f1 f2 f3 f4
      rw [f0, f1, f2, f3, f4]
theorem split5 {α : Type} (cs : List α) (k : Nat) {L R : List α} (h : (cs.drop k).take 5 = L) (h2 : cs.drop (k + 5) = R) : cs.drop k = L ++ R := by
  rw [← h, ← h2, ← List.drop_drop, List.take_append_drop]
set_option maxRecDepth 100000 in
theorem tab_of_laid {W : World} (h : laidMetH Tryd.prog [("loop.example/s16388/impl.dtypes", Rows.laid_loop_example_s16388_impl_dtypes)] W) : Tab W := by
  have h' : laidMet Tryd.prog [("loop.example/s16388/impl.dtypes", Rows.laid_loop_example_s16388_impl_dtypes)] W := h
  obtain ⟨ps, ⟨g', t', cs, fuel, p, q, hg', ht', hvar, hd, _, _⟩, _⟩ := h'
  obtain rfl := Option.some.inj (gTab.symm.trans hg')
  obtain rfl := Option.some.inj (gTabType.symm.trans ht')
  obtain ⟨xs, m, _, hx, hl, hlen, hf⟩ := DataW.trod_array Tryd.underlying146 hd
  rw [cellsTab] at hl
  simp only [cellsRow] at hf
  match xs, hlen with
  | [x0, x1, x2, x3, x4, x5, x6, x7, x8, x9], _ =>
    simp only [Rows.laid_loop_example_s16388_impl_dtypes, Prod.mk.injEq, List.map_cons, List.map_nil, DataW.agg.injEq, List.cons.injEq, and_true] at hx
    obtain ⟨⟨e0, e1, e2, e3, e4, e5, e6, e7, e8, e9⟩, _⟩ := hx
    have k0 := row_of (hf 0 (by omega)) e0.symm
    have k1 := row_of (hf 1 (by omega)) e1.symm
    have k2 := row_of (hf 2 (by omega)) e2.symm
    have k3 := row_of (hf 3 (by omega)) e3.symm
    have k4 := row_of (hf 4 (by omega)) e4.symm
    have k5 := row_of (hf 5 (by omega)) e5.symm
    have k6 := row_of (hf 6 (by omega)) e6.symm
    have k7 := row_of (hf 7 (by omega)) e7.symm
    have k8 := row_of (hf 8 (by omega)) e8.symm
    have k9 := row_of (hf 9 (by omega)) e9.symm
    have hend : cs.toList.drop (45 + 5) = [] := List.drop_eq_nil_of_le (by omega)
    have hall := split5 cs.toList 0 k0 (split5 cs.toList 5 k1 (split5 cs.toList 10 k2 (split5 cs.toList 15 k3 (split5 cs.toList 20 k4 (split5 cs.toList 25 k5 (split5 cs.toList 30 k6 (split5 cs.toList 35 k7 (split5 cs.toList 40 k8 (split5 cs.toList 45 k9 hend)))))))))
    have ht : cs.toList = tabL := by rw [← List.drop_zero (l := cs.toList), hall]; rfl
    intro j u hu
    rw [World.var?_cell gTab hvar j]
    rw [← ht] at hu
    simpa using hu
end Go.Proofs.YtnmnkiihbopebaaDoor
