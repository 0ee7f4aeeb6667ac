/- Words on memory that all walks use: what a slice reads as ('At'), what a slice of the call's own is ('Own'). -/
import Derived.WalkKit
import Derived.Deep.Draws
import Derived.Deep.OwnRows
import Derived.Deep.QuietTactic
import Derived.BigQuiet
import Derived.StillTailTactics
import Derived.Maps.AppendAt
import Derived.Deep.AppendLies
import Derived.WalkLawsBesides
import Derived.KernelRfl
import Derived.Lib.Hide
import Derived.Deep.RegionHeld3
import Derived.Test.YtnmnkiihbopebaaDoorFm
namespace Go.Nd
open Go.RowKit

theorem run_store_float (P : Program) (w : World) (a : Addr) (m : Mode) (k : FloatKind) (b : Nat) : (store a (.float k b) m).run P w = stored P w a (.float k b) m := run_store P w a _ m rfl

/-- What a call hands back, and the world behind it: behind a name, so that the walk leaves it whole. -/
def Ret (Q : Value → World → Prop) (e : Ending) (w' : World) : Prop := ∃ v, e = .returned v ∧ Q v w'

theorem int_eq {k : IntKind} {a b : Int} (h : a = b) : Value.int k a = .int k b := by rw [h]
theorem ret_bool {a b : Bool} (h : a = b) : Ending.returned (.bool a) = .returned (.bool b) := by rw [h]
theorem ret_int {k : IntKind} {a b : Int} (h : a = b) : Ending.returned (.int k a) = .returned (.int k b) := by rw [h]
theorem hide {p : Prop} (h : p) : Hid p := h
theorem unhide {p : Prop} (h : Hid p) : p := h

theorem bcell {W w1 : World} {B : Nat} (hb : Below B W w1) : (∀ b o, b < B → w1.cell? ⟨b, o, none⟩ = W.cell? ⟨b, o, none⟩) ∧ (∀ b o, b < B → w1.frozen? ⟨b, o, none⟩ = W.frozen? ⟨b, o, none⟩) :=
  ⟨fun b o h => hb.cell (p := ⟨b, o, none⟩) h, fun b o h => hb.frozen (p := ⟨b, o, none⟩) h⟩

theorem below_drewN {B : Nat} {a w : World} (h : Below B a w) (n : Nat) : Below B a (w.drewN n) := ⟨h.os, h.tape, h.output, h.size, h.block⟩
theorem below_of_drewN {B : Nat} {w w' : World} {n : Nat} (h : Below B (w.drewN n) w') : Below B w w' := ⟨h.os, h.tape, h.output, h.size, h.block⟩
theorem below_of_drew {B : Nat} {w w' : World} (h : Below B w.drew w') : Below B w w' := ⟨h.os, h.tape, h.output, h.size, h.block⟩
theorem cell_lt {w : World} {a : Addr} {v : Value} (h : w.cell? a = some v) : a.block < w.heap.size := World.block_lt_of_cell? w a h

theorem below_a1 (w : World) (a : Obj) : Below w.heap.size w (w.alloc a) := (Below.refl _ _).alloc (Nat.le_refl _) _
theorem below_a2 (w : World) (a b : Obj) : Below w.heap.size w ((w.alloc a).alloc b) := (below_a1 w a).alloc (by simp) _
theorem below_a3 (w : World) (a b c : Obj) : Below w.heap.size w (((w.alloc a).alloc b).alloc c) := (below_a2 w a b).alloc (by simp; omega) _
theorem below_a4 (w : World) (a b c d : Obj) : Below w.heap.size w ((((w.alloc a).alloc b).alloc c).alloc d) := (below_a3 w a b c).alloc (by simp; omega) _
/-- Behind a call that left what lay there: what lay at the start is left. -/
theorem below_go {B : Nat} {W w w' : World} (h : Below B W w) (k : Below w.heap.size w w') (hB : B ≤ w.heap.size) : Below B W w' := h.trans (k.mono hB)

/-! ### what a slice reads as -/
/-- From address A on the cells cs lie. -/
def At (w : World) (A : Option Addr) (cs : List Value) : Prop := ∀ j u, cs[j]? = some u → ∃ b o, A = some ⟨b, o, none⟩ ∧ w.cell? ⟨b, o + j, none⟩ = some u

theorem At.nil (w : World) (A : Option Addr) : At w A [] := fun j u h => by simp at h
theorem At.keep {w w' : World} {A : Option Addr} {cs : List Value} (h : At w A cs) (hk : ∀ b o, b < w.heap.size → w'.cell? ⟨b, o, none⟩ = w.cell? ⟨b, o, none⟩) : At w' A cs := by
  intro j u hu
  obtain ⟨b, o, e, hc⟩ := h j u hu
  exact ⟨b, o, e, (hk b _ (cell_lt hc)).trans hc⟩
theorem At.below {w w' : World} {A : Option Addr} {cs : List Value} {B : Nat} (h : At w A cs) (hb : Below B w w') (hB : w.heap.size ≤ B) : At w' A cs :=
  h.keep fun b o hl => hb.cell (p := ⟨b, o, none⟩) (by simpa using Nat.lt_of_lt_of_le hl hB)
/-- All of it lies below block B. -/
def AtB (B : Nat) (w : World) (A : Option Addr) (cs : List Value) : Prop := ∀ j u, cs[j]? = some u → ∃ b o, A = some ⟨b, o, none⟩ ∧ b < B ∧ w.cell? ⟨b, o + j, none⟩ = some u
theorem At.toB {w : World} {A : Option Addr} {cs : List Value} (h : At w A cs) : AtB w.heap.size w A cs := fun j u hu => by
  obtain ⟨b, o, e, hc⟩ := h j u hu
  exact ⟨b, o, e, cell_lt hc, hc⟩
theorem AtB.at_ {B : Nat} {w : World} {A : Option Addr} {cs : List Value} (h : AtB B w A cs) : At w A cs := fun j u hu => by
  obtain ⟨b, o, e, _, hc⟩ := h j u hu
  exact ⟨b, o, e, hc⟩
theorem AtB.below {w w' : World} {A : Option Addr} {cs : List Value} {B : Nat} (h : AtB B w A cs) (hb : Below B w w') : AtB B w' A cs := fun j u hu => by
  obtain ⟨b, o, e, hl, hc⟩ := h j u hu
  exact ⟨b, o, e, hl, (hb.cell (p := ⟨b, o + j, none⟩) hl).trans hc⟩
theorem AtB.mono {w : World} {A : Option Addr} {cs : List Value} {B B' : Nat} (h : AtB B w A cs) (hB : B ≤ B') : AtB B' w A cs := fun j u hu => by
  obtain ⟨b, o, e, hl, hc⟩ := h j u hu
  exact ⟨b, o, e, Nat.lt_of_lt_of_le hl hB, hc⟩

/-! ### calls that leave the world alone, met in a region that draws its order -/
theorem quiet_left {P : Program} {f : FuncId} {args : Array Value} {w : World} {n : Nat} {v : Value}
    (h : Calls P f args (w.drewN n) fun e w' => e = .returned v ∧ w.drewN n = w') : Calls P f args (w.drewN n) fun e w'' => e = .returned v ∧ ∃ m, w'' = w.drewN m :=
  h.mono fun _ _ ⟨he, hm⟩ => ⟨he, n, hm.symm⟩
theorem quiet_add_left {P : Program} {f : FuncId} {args : Array Value} {w : World} {a n : Nat} {v : Value}
    (h : Calls P f args (w.drewN (a + n)) fun e w' => e = .returned v ∧ w.drewN (a + n) = w') :
    Calls P f args (w.drewN (a + n)) fun e w'' => e = .returned v ∧ ∃ m, w'' = w.drewN (a + m) :=
  h.mono fun _ _ ⟨he, hm⟩ => ⟨he, n, hm.symm⟩
theorem calls_post {P : Program} {f : FuncId} {args : Array Value} {w : World} {R R' : Ending → World → Prop} (h : Calls P f args w R) (hr : ∀ e w', R e w' → R' e w') : Calls P f args w R' := h.mono hr
end Go.Nd
