/-
  NARROWER THAN 'FOR EVERY INPUT', by the rows' own cells (each row's printed sentence says how): FnExactRead: laid · FnReshapeRead: laid · FnTakePut: laid.
  DERIVED. THE GIVEN ROWS OF THIS SEAT. 3 by the template 'for every input the law returns true; each argument reads behind the call as it read before'; 0 by the template 'total and deterministic' (their statements: YtnmnkiihbopebaaDoorTotals.lean).
  GIVEN WITH THE SEED: the statements are not yours to turn. If you find one false, say at which input.
  Laid BY PROGRAM, IN A SANDBOX (cutbox-rows.mjs): the forced cells as the released guide's own fill.sh prints them over the translation 540712deca042ac1… (all of the seat's roots in one cut). By AI agents, Wed Nov 11 2026. No macro, syntax, notation, axiom, sorry.
-/
import Derived.Test.YtnmnkiihbopebaaDoorChecked
import GoSem.Claim
import GoSem.ClaimJoined
import GoSem.ClaimMapViews
import Derived.JoinedTies
import Derived.KernelRfl
namespace Go.Proofs.YtnmnkiihbopebaaDoor
/- THE CELL 'sum', in the pinned program and in every row, IS THE sha256 OF THE DUMP (.gsa) THAT YtnmnkiihbopebaaDoorProg.lean LOADS. Nothing in Lean hashes anything: it is a label: what it is worth is what the hold of that sum in a sandbox is worth. -/
noncomputable def Tryd.pinned : Pinned := { name := "ytnmnkiihbopebaadoor", sum := "540712deca042ac1d656376ae182ecc8adc59877dbcee7eb817a5a5b9c8b4fbc", checked := Tryd.checked }
namespace Rows
def none {H : Type} : Left H := { results := [], args := [] }

/- WHAT THE LISTED PACKAGE-LEVEL VARIABLES READ AS WHEN THE CALL BEGINS. Each datum BY PROGRAM (the guide's laid-datum.mjs) off the statement by which the dump's own 'gosem.cut.vars' lays the variable. In a bare row this is a premise. The card (YtnmnkiihbopebaaDoorCards.lean) ties it to the program's text. -/
def laid_loop_example_s16388_impl_dtypes {H : Type} : DataW H := .agg [.agg [.lit (.int .i64 0), .lit (.int .i64 0), .lit (.int .i64 0), .lit (.int .i64 0), .lit (.int .i64 0)], .agg [.lit (.int .i64 0), .lit (.int .i64 1), .lit (.int .i64 0), .lit (.int .i64 0), .lit (.int .i64 1)], .agg [.lit (.int .i64 1), .lit (.int .i64 1), .lit (.int .i64 8), .lit (.int .i64 (-128)), .lit (.int .i64 127)], .agg [.lit (.int .i64 1), .lit (.int .i64 1), .lit (.int .i64 8), .lit (.int .i64 0), .lit (.int .i64 255)], .agg [.lit (.int .i64 1), .lit (.int .i64 2), .lit (.int .i64 16), .lit (.int .i64 (-32768)), .lit (.int .i64 32767)], .agg [.lit (.int .i64 1), .lit (.int .i64 4), .lit (.int .i64 32), .lit (.int .i64 (-2147483648)), .lit (.int .i64 2147483647)], .agg [.lit (.int .i64 1), .lit (.int .i64 8), .lit (.int .i64 64), .lit (.int .i64 (-9223372036854775808)), .lit (.int .i64 9223372036854775807)], .agg [.lit (.int .i64 2), .lit (.int .i64 4), .lit (.int .i64 0), .lit (.int .i64 0), .lit (.int .i64 0)], .agg [.lit (.int .i64 2), .lit (.int .i64 8), .lit (.int .i64 0), .lit (.int .i64 0), .lit (.int .i64 0)], .agg [.lit (.int .i64 3), .lit (.int .i64 16), .lit (.int .i64 0), .lit (.int .i64 0), .lit (.int .i64 0)]]

/-- 'laws.FnExactRead': WHATEVER THE INPUT: true; the input reads as it did. -/
def fnExactReadSpec : ChangeSpec := { name := "fnExactRead", vars := ["loop.example/s16388/impl.dtypes"], fn := fun _ => fun
  | [d1, d2, g1] => { results := [.lit (.bool true)], args := [d1, d2], vars := [g1] }
  | _ => none }
def fnExactReadRow : OpenClaim := { program := "ytnmnkiihbopebaadoor", sum := "540712deca042ac1d656376ae182ecc8adc59877dbcee7eb817a5a5b9c8b4fbc", func := "loop.example/s16388/laws.FnExactRead", spec := "fnExactRead", inPlace := ["math.Float64bits"], unfollowed := true, recurses := true, named := ["loop.example/s16388/impl.dtypes"], apart := false, laid := [("loop.example/s16388/impl.dtypes", laid_loop_example_s16388_impl_dtypes)] }
def FnExactReadSaid : Prop := fnExactReadRow.holds Tryd.pinned (OpenSpec.ofChange fnExactReadSpec)

/-- ITS FALSE NEIGHBOUR: 'it returns false'. Refute it at one input. -/
def fnExactReadWrong : ChangeSpec := { name := "fnExactRead", vars := ["loop.example/s16388/impl.dtypes"], fn := fun _ => fun
  | [d1, d2, g1] => { results := [.lit (.bool false)], args := [d1, d2], vars := [g1] }
  | _ => none }
def FnExactReadWrongFalsely : Prop := fnExactReadRow.holds Tryd.pinned (OpenSpec.ofChange fnExactReadWrong)

/-- 'laws.FnReshapeRead': WHATEVER THE INPUT: true; the input reads as it did. -/
def fnReshapeReadSpec : ChangeSpec := { name := "fnReshapeRead", vars := ["loop.example/s16388/impl.dtypes"], fn := fun _ => fun
  | [d, g1] => { results := [.lit (.bool true)], args := [d], vars := [g1] }
  | _ => none }
def fnReshapeReadRow : OpenClaim := { program := "ytnmnkiihbopebaadoor", sum := "540712deca042ac1d656376ae182ecc8adc59877dbcee7eb817a5a5b9c8b4fbc", func := "loop.example/s16388/laws.FnReshapeRead", spec := "fnReshapeRead", inPlace := ["math.Float64bits"], unfollowed := true, recurses := true, named := ["loop.example/s16388/impl.dtypes"], apart := false, laid := [("loop.example/s16388/impl.dtypes", laid_loop_example_s16388_impl_dtypes)] }
def FnReshapeReadSaid : Prop := fnReshapeReadRow.holds Tryd.pinned (OpenSpec.ofChange fnReshapeReadSpec)

/-- ITS FALSE NEIGHBOUR: 'it returns false'. Refute it at one input. -/
def fnReshapeReadWrong : ChangeSpec := { name := "fnReshapeRead", vars := ["loop.example/s16388/impl.dtypes"], fn := fun _ => fun
  | [d, g1] => { results := [.lit (.bool false)], args := [d], vars := [g1] }
  | _ => none }
def FnReshapeReadWrongFalsely : Prop := fnReshapeReadRow.holds Tryd.pinned (OpenSpec.ofChange fnReshapeReadWrong)

/-- 'laws.FnTakePut': WHATEVER THE INPUT: true; the input reads as it did. -/
def fnTakePutSpec : ChangeSpec := { name := "fnTakePut", vars := ["loop.example/s16388/impl.dtypes"], fn := fun _ => fun
  | [d1, d2, g1] => { results := [.lit (.bool true)], args := [d1, d2], vars := [g1] }
  | _ => none }
def fnTakePutRow : OpenClaim := { program := "ytnmnkiihbopebaadoor", sum := "540712deca042ac1d656376ae182ecc8adc59877dbcee7eb817a5a5b9c8b4fbc", func := "loop.example/s16388/laws.FnTakePut", spec := "fnTakePut", inPlace := ["math.Float64bits"], unfollowed := true, recurses := true, named := ["loop.example/s16388/impl.dtypes"], apart := false, laid := [("loop.example/s16388/impl.dtypes", laid_loop_example_s16388_impl_dtypes)] }
def FnTakePutSaid : Prop := fnTakePutRow.holds Tryd.pinned (OpenSpec.ofChange fnTakePutSpec)

/-- ITS FALSE NEIGHBOUR: 'it returns false'. Refute it at one input. -/
def fnTakePutWrong : ChangeSpec := { name := "fnTakePut", vars := ["loop.example/s16388/impl.dtypes"], fn := fun _ => fun
  | [d1, d2, g1] => { results := [.lit (.bool false)], args := [d1, d2], vars := [g1] }
  | _ => none }
def FnTakePutWrongFalsely : Prop := fnTakePutRow.holds Tryd.pinned (OpenSpec.ofChange fnTakePutWrong)

/- THE SECOND FORM. 'bulk': how many values and letters a reading holds, each counted each time it is reached (what is shared counts as often as it is met; a slice's spare places count too). A statement '..UptoSaid' is the law's where the arguments, and the package variables that the reading takes, are together of bulk at most 1048576: NARROWER than '..Said'. Prove '..Said' where nothing that the law and all that it calls make is longer than what came in: it says more and counts as full. Else prove '..UptoSaid'. A law counts once. -/
mutual
def uptoBulk {H : Type} : DataW H → Nat
  | .lit (.string bytes) => bytes.length + 1
  | .lit _ => 1
  | .nil => 1
  | .ptr d => uptoBulk d + 1
  | .slice elems spare => uptoBulkAll elems + uptoBulkAll spare + 1
  | .agg parts => uptoBulkAll parts + 1
  | .iface _ d => uptoBulk d + 1
  | .map entries => uptoBulkEntries entries + 1
  | .held _ => 1
def uptoBulkAll {H : Type} : List (DataW H) → Nat
  | [] => 0
  | d :: r => uptoBulk d + uptoBulkAll r
def uptoBulkEntries {H : Type} : List (Lit × DataW H) → Nat
  | [] => 0
  | x :: r => uptoBulkEntry x + uptoBulkEntries r
def uptoBulkEntry {H : Type} : Lit × DataW H → Nat
  | (.string bytes, d) => bytes.length + uptoBulk d + 1
  | (_, d) => uptoBulk d + 1
 end
def uptoSmall : (H : Type) → List (DataW H) → Bool := fun _ ds => decide (uptoBulkAll ds ≤ 1048576)
def OpenSpec.upto (s : _root_.Go.ChangeSpec) : _root_.Go.OpenSpec := { _root_.Go.OpenSpec.ofChange s with cond := some uptoSmall }

/-- 'laws.FnExactRead', WHERE WHAT IT READS IS OF BULK AT MOST 1048576: true; the input reads as it did. -/
def fnExactReadUptoRow : OpenClaim := { program := "ytnmnkiihbopebaadoor", sum := "540712deca042ac1d656376ae182ecc8adc59877dbcee7eb817a5a5b9c8b4fbc", func := "loop.example/s16388/laws.FnExactRead", spec := "fnExactRead", inPlace := ["math.Float64bits"], unfollowed := true, recurses := true, named := ["loop.example/s16388/impl.dtypes"], apart := false, laid := [("loop.example/s16388/impl.dtypes", laid_loop_example_s16388_impl_dtypes)], narrowed := true }
def FnExactReadUptoSaid : Prop := fnExactReadUptoRow.holds Tryd.pinned (OpenSpec.upto fnExactReadSpec)

/-- 'laws.FnReshapeRead', WHERE WHAT IT READS IS OF BULK AT MOST 1048576: true; the input reads as it did. -/
def fnReshapeReadUptoRow : OpenClaim := { program := "ytnmnkiihbopebaadoor", sum := "540712deca042ac1d656376ae182ecc8adc59877dbcee7eb817a5a5b9c8b4fbc", func := "loop.example/s16388/laws.FnReshapeRead", spec := "fnReshapeRead", inPlace := ["math.Float64bits"], unfollowed := true, recurses := true, named := ["loop.example/s16388/impl.dtypes"], apart := false, laid := [("loop.example/s16388/impl.dtypes", laid_loop_example_s16388_impl_dtypes)], narrowed := true }
def FnReshapeReadUptoSaid : Prop := fnReshapeReadUptoRow.holds Tryd.pinned (OpenSpec.upto fnReshapeReadSpec)

/-- 'laws.FnTakePut', WHERE WHAT IT READS IS OF BULK AT MOST 1048576: true; the input reads as it did. -/
def fnTakePutUptoRow : OpenClaim := { program := "ytnmnkiihbopebaadoor", sum := "540712deca042ac1d656376ae182ecc8adc59877dbcee7eb817a5a5b9c8b4fbc", func := "loop.example/s16388/laws.FnTakePut", spec := "fnTakePut", inPlace := ["math.Float64bits"], unfollowed := true, recurses := true, named := ["loop.example/s16388/impl.dtypes"], apart := false, laid := [("loop.example/s16388/impl.dtypes", laid_loop_example_s16388_impl_dtypes)], narrowed := true }
def FnTakePutUptoSaid : Prop := fnTakePutUptoRow.holds Tryd.pinned (OpenSpec.upto fnTakePutSpec)

end Rows
end Go.Proofs.YtnmnkiihbopebaaDoor
