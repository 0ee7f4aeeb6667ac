/- Proved: for every heap and array, laws.FnExactRead returns true and changes no argument: the program's Read answers as the reference's Read. Conditions: the table impl.dtypes holds what its initialiser lays (the card ties this to the program's text); no other. -/
import Derived.Test.YtnmnkiihbopebaaDoorOp
import Derived.Test.YtnmnkiihbopebaaDoorTb
import Derived.Test.YtnmnkiihbopebaaDoorCards
import Derived.Test.YtnmnkiihbopebaaDoorTie
import Derived.WalkKit
import Derived.ProofKit
import Derived.OpenShut
import Derived.Deep.DeepHandedRow
import Derived.Lib.LaidTab
import Derived.OpenVars
namespace Go.Proofs.YtnmnkiihbopebaaDoor.fnExactRead
open Go.ChangeShapes Go.WideShapes Go.ChangeAt Go.RowKit Go.Nd Go.Proofs.YtnmnkiihbopebaaDoor

theorem own : ownKnob Tryd.prog.godebug = none := by kernel_rfl
theorem laidOut : laidOutB Tryd.prog = true := by kernel_rfl
theorem rowed : varsRowed Tryd.prog Rows.fnExactReadSpec.vars = true := by kernel_rfl
set_option maxRecDepth 100000 in
theorem contract (H : Type) (enc : TypeId × Value → H) (W : World) (base : Nat) (args : Array Value) (ds gs : List (DataW H)) (before : List MemPlace)
    (hval : ∀ (j : Nat) t v, Tryd.f3.params[j]? = some t → args[j]? = some v → Value.okWide Tryd.prog W .any base t v)
    (hW : DataW.Whole enc Tryd.prog Tryd.f3.params.toList Rows.fnExactReadSpec.vars false W args.toList ds gs before) (hT : Tab W) :
    Calls Tryd.prog 3 args W fun e W' => ∃ v, e = .returned v ∧ Rows.fnExactReadSpec.post enc Tryd.prog Tryd.f3 false true false false W args v W' := by
  have hW' := hW
  obtain ⟨p, q, hA0, hV, rfl, hfz, hnd⟩ := hW
  have hA : DataW.TrodAll enc Tryd.prog W 0 (fun _ => true) true Tryd.f3.params.toList args.toList ds p := hA0
  rw [Tryd.params3] at hA hval
  obtain ⟨v0, vs0, d0, ds0, p0, q0, hargs, rfl, rfl, h0, r0⟩ := trodAll_cons hA
  obtain ⟨v1, vs1, d1, ds1, p1, q1, hargs1, rfl, rfl, h1, r1⟩ := trodAll_cons r0
  obtain ⟨rfl, rfl, rfl⟩ := trodAll_nil r1
  obtain rfl : args = #[v0, v1] := by cases args; simp_all
  have h0k := h0
  have h1k := h1
  obtain ⟨A, c, rs, rfl, hl0, hH, hwf, hcl⟩ := open_heap (hval 0 _ v0 rfl rfl) h0
  obtain ⟨s, A1, c1, A2, c2, off, sh, st, rfl, hs1, hs2, ha1, ha2⟩ := open_array (hval 1 _ v1 rfl rfl) h1
  clear hA0
  have hlt : ∀ x ∈ p0 ++ (p1 ++ []) ++ q, x.block < W.heap.size := hW'.lt
  have ml : maxLen ≤ 9223372036854775807 := by simp only [maxLen]; omega
  refine (fnExactRead_c A A1 A2 c c1 c2 rs s sh st off W hT (by omega) (fun r hr => Nat.le_trans (hcl r hr) ml) (by omega) (by omega) hwf hH ha1 ha2).mono fun e W' ⟨he, hb⟩ => ?_
  subst he
  have k0 := Below.trod laidOut (by kernel_rfl) (of_decide_eq_true (by kernel_rfl)) h0k hb (fun x hx => hlt x (by simp [hx]))
  have k1 := Below.trod laidOut (by kernel_rfl) (of_decide_eq_true (by kernel_rfl)) h1k hb (fun x hx => hlt x (by simp [hx]))
  have kv := Below.trodVars laidOut hb rowed hV
  have e1 : Rows.fnExactReadSpec.vars.length = 1 := rfl
  match gs, hV, kv, hW' with
  | [], hV, _, _ => exact hV.elim
  | _ :: _ :: _, hV, _, _ => obtain ⟨_, _, _, _, _, _, _, _, _, _, hr, _⟩ := hV; exact hr.elim
  | [g1], hV, kv, hW' => exact ⟨_, rfl, ⟨_, _, _, [], _, _, hW', trodAll_mk1 (shut_bool Tryd.underlying4 true), trodAll_cons_mk k0 (trodAll_cons_mk k1 trodAll_mk0), kv, hb.frame _, fun h => by cases h⟩⟩

/-- A world for the witness: the table laid in block 0. -/
noncomputable def laidWorld (os : Os) : World :=
  { World.holding Tryd.prog os ⟨#[], #[], []⟩ with heap := (World.holding Tryd.prog os ⟨#[], #[], []⟩).heap.modify 0 fun
      | .cells _ t frozen => .cells tabL.toArray t frozen
      | o => o }
noncomputable def wargs : Array Value := #[.agg #[.slice none 0 0], .agg #[.int .i64 0, .slice none 0 0, .slice none 0 0, .int .i64 0]]
theorem laid_met (os : Os) : laidMet Tryd.prog Rows.fnExactReadRow.laid ((laidWorld os).forCall (fun _ _ => 0) ⟨#[], wargs, []⟩).memory :=
  laidMet_of_run' 8 (by kernel_rfl) (by kernel_rfl)
noncomputable def wdata {H : Type} : List (DataW H) := [.agg [.nil], .agg [.lit (.int .i64 0), .agg [.nil, .nil, .lit (.int .i64 0)]]]
theorem reads (os : Os) {H : Type} (enc : TypeId × Value → H) : ∃ places, DataW.whole enc Tryd.prog ((laidWorld os).forCall (fun _ _ => 0) ⟨#[], wargs, []⟩).memory Tryd.f3.params.toList Rows.fnExactReadSpec.vars false wargs.toList 8 = some (wdata, [Rows.laid_loop_example_s16388_impl_dtypes], places) :=
  ⟨MemPlace.row ⟨0, 0, none⟩ 50, by kernel_rfl⟩

set_option maxRecDepth 100000 in
theorem lifted (os : Os) (started : os.Started) (H : Type) (enc : TypeId × Value → H) (F : Stop.Interp) :
    ReturnsInHanded {} Tryd.checked os 3 .any ((OpenSpec.ofChange Rows.fnExactReadSpec).preRow enc Tryd.prog Tryd.f3 Rows.fnExactReadRow.domain false Rows.fnExactReadRow.laid) (((OpenSpec.ofChange Rows.fnExactReadSpec).at F).post enc Tryd.prog Tryd.f3 false true false false) := by
  obtain ⟨places, hx⟩ := reads os enc
  refine returnsInHanded_of_row (C := Tryd.checked) (s := OpenSpec.ofChange Rows.fnExactReadSpec) own started (by kernel_rfl) Tryd.func3
    (witness_row_at (enc := enc) (C := Tryd.checked) false (laidWorld os) wargs rfl (by kernel_rfl) (by kernel_rfl) (by kernel_rfl)
      (OpenSpec.preRow_of_cond 8 hx (by kernel_rfl) (fun k hk => by cases hk) (by kernel_rfl) (laid_met os))) ?_
  intro W base args ds gs before hval hW _ _ _ hL _ _
  exact contract H enc W base args ds gs before hval hW (tab_of_laid hL)

theorem said : Rows.FnExactReadSaid :=
  OpenClaim.holds_of_cond 3 Tryd.f3 rfl rfl rfl rfl rfl rfl rfl ⟨rfl, rfl, rfl, rfl, rfl⟩ rfl rfl rfl rfl rfl (by kernel_rfl) Tryd.func3 (by kernel_rfl)
    (of_decide_eq_true (by kernel_rfl)) (by unfold Func.isWrapper; first | (rw [if_pos (by decide +kernel)]; kernel_rfl) | (rw [if_neg (by decide +kernel)]; exact ⟨rfl, rfl⟩))
    (fun os started H enc _ F => by rw [OpenClaim.pre_eq_preRow]; exact lifted os started H enc F)

/-- No parameter wants a stand-in; the program's own looks are off. -/
theorem plain (f : FuncId) (fn : Func) (hf : Tryd.pinned.checked.prog.funcNamed "loop.example/s16388/laws.FnExactRead" = some f) (hfn : Tryd.pinned.checked.prog.funcs[f]? = some fn) :
    false = Tryd.pinned.checked.prog.looks [] ∧ ∀ (j : Nat) t, fn.params[j]? = some t → Tryd.pinned.checked.prog.wantsStandIn t = false := by
  obtain rfl : f = 3 := Option.some.inj ((show Tryd.prog.funcNamed "loop.example/s16388/laws.FnExactRead" = some 3 by kernel_rfl).symm.trans hf) |>.symm
  obtain rfl : fn = Tryd.f3 := (Option.some.inj (Tryd.func3.symm.trans hfn)).symm
  refine ⟨by kernel_rfl, fun j t ht => ?_⟩
  rw [Tryd.params3] at ht
  have hm := Array.mem_of_getElem? ht
  simp only [List.mem_toArray, List.mem_cons, List.not_mem_nil, or_false] at hm
  rcases hm with rfl | rfl
  · exact (show Tryd.prog.wantsStandIn 24 = false by kernel_rfl)
  · exact (show Tryd.prog.wantsStandIn 29 = false by kernel_rfl)

/-- THE CARD: the program's Read answers as the reference's, for all arguments. -/
theorem card : Rows.FnExactReadCardSaid :=
  Claim7.holds_tied_plain_at .later [] _ _ _ _ said (fun _ h => by cases h) (by kernel_rfl) (fun _ h => by cases h) fnExactRead_row_tie rfl ⟨rfl, rfl⟩ (by kernel_rfl) rfl plain (by kernel_rfl)
end Go.Proofs.YtnmnkiihbopebaaDoor.fnExactRead
