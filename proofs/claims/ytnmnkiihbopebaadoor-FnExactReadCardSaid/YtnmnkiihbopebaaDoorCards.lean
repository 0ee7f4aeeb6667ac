/-
  DERIVED. GIVEN WITH THE SEED: THE CARDS: each row of YtnmnkiihbopebaaDoorRows.lean that lists a variable, with what it lists TIED to the program's text (the seventh form; the later family's looks); each row that meets fmt, with fmt's text TOLD by the authors' own Lean function (tested against real Go, not proved from fmt's source: count such statements apart). THE CARD IS WHAT COUNTS. Prove the row's statement (the work); the ties are given (YtnmnkiihbopebaaDoorTie.lean); close each card by the builder's one call (the guide's Derived/Test/ToyasCard.lean, 'card_holds'). Laid BY PROGRAM, IN A SANDBOX (cutbox-door.mjs). By AI agents, Wed Nov 11 2026. No macro, syntax, notation, axiom, sorry.
-/
import Derived.Test.YtnmnkiihbopebaaDoorRows
import GoSem.ClaimSeven
namespace Go.Proofs.YtnmnkiihbopebaaDoor
namespace Rows

/-- THE TIED CARD OF 'laws.FnExactRead'. -/
def fnExactReadCard : Claim7 := { stood := { row := fnExactReadRow, standIns := [], harness := (true, "017e473331529da4b59978f863e8a64d1982c06919e51514567a210f50b0621b"), looks := false }, kinds := [], alts := [], laidByText := true, laidKinds := [.data], laidTests := true, laidLooks := .later }
def FnExactReadCardSaid : Prop := Claim7.holds Tryd.pinned (.plain (OpenSpec.ofChange fnExactReadSpec)) fnExactReadCard

/-- THE TIED CARD OF 'laws.FnReshapeRead'. -/
def fnReshapeReadCard : Claim7 := { stood := { row := fnReshapeReadRow, standIns := [], harness := (true, "017e473331529da4b59978f863e8a64d1982c06919e51514567a210f50b0621b"), looks := false }, kinds := [], alts := [], laidByText := true, laidKinds := [.data], laidTests := true, laidLooks := .later }
def FnReshapeReadCardSaid : Prop := Claim7.holds Tryd.pinned (.plain (OpenSpec.ofChange fnReshapeReadSpec)) fnReshapeReadCard

/-- THE TIED CARD OF 'laws.FnTakePut'. -/
def fnTakePutCard : Claim7 := { stood := { row := fnTakePutRow, standIns := [], harness := (true, "017e473331529da4b59978f863e8a64d1982c06919e51514567a210f50b0621b"), looks := false }, kinds := [], alts := [], laidByText := true, laidKinds := [.data], laidTests := true, laidLooks := .later }
def FnTakePutCardSaid : Prop := Claim7.holds Tryd.pinned (.plain (OpenSpec.ofChange fnTakePutSpec)) fnTakePutCard

/-- THE SECOND FORM's CARD OF 'laws.FnExactRead'. -/
def fnExactReadUptoCard : Claim7 := { stood := { row := fnExactReadUptoRow, standIns := [], harness := (true, "017e473331529da4b59978f863e8a64d1982c06919e51514567a210f50b0621b"), looks := false }, kinds := [], alts := [], laidByText := true, laidKinds := [.data], laidTests := true, laidLooks := .later }
def FnExactReadUptoCardSaid : Prop := Claim7.holds Tryd.pinned (.plain (OpenSpec.upto fnExactReadSpec)) fnExactReadUptoCard

/-- THE SECOND FORM's CARD OF 'laws.FnReshapeRead'. -/
def fnReshapeReadUptoCard : Claim7 := { stood := { row := fnReshapeReadUptoRow, standIns := [], harness := (true, "017e473331529da4b59978f863e8a64d1982c06919e51514567a210f50b0621b"), looks := false }, kinds := [], alts := [], laidByText := true, laidKinds := [.data], laidTests := true, laidLooks := .later }
def FnReshapeReadUptoCardSaid : Prop := Claim7.holds Tryd.pinned (.plain (OpenSpec.upto fnReshapeReadSpec)) fnReshapeReadUptoCard

/-- THE SECOND FORM's CARD OF 'laws.FnTakePut'. -/
def fnTakePutUptoCard : Claim7 := { stood := { row := fnTakePutUptoRow, standIns := [], harness := (true, "017e473331529da4b59978f863e8a64d1982c06919e51514567a210f50b0621b"), looks := false }, kinds := [], alts := [], laidByText := true, laidKinds := [.data], laidTests := true, laidLooks := .later }
def FnTakePutUptoCardSaid : Prop := Claim7.holds Tryd.pinned (.plain (OpenSpec.upto fnTakePutSpec)) fnTakePutUptoCard
end Rows
end Go.Proofs.YtnmnkiihbopebaaDoor
