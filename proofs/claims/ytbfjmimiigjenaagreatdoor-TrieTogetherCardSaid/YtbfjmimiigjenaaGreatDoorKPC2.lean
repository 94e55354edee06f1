/-
A part of the proofs of the laws of a seat: contracts of functions and lemmas on them; the listed package variables hold what the program's text lays. No further condition.
-/
import Derived.Test.YtbfjmimiigjenaaGreatDoorKPW6
set_option linter.unusedVariables false
set_option linter.unusedSectionVars false
set_option linter.unusedSimpArgs false
namespace Go.Proofs.YtbfjmimiigjenaaGreatDoor
open Go V RowKit

/-- A commit that came in. -/
structure Com where
  root : Sum
  ps : Row Sum
  note : Str
def Com.ev (x : Com) : EV := .st [.val (sumV x.root), x.ps.av, .val (strV x.note)]
theorem map_flat (l : List UInt8) : l.map u8V = l.flatMap kByte.cs := by
  induction l with
  | nil => rfl
  | cons x r ih => rw [List.map_cons, List.flatMap_cons, ih]; rfl

theorem slice_all (w : World) (a o : Nat) : (Instr.sliceAt 40 (.pointer (some ⟨a, o, none⟩)) none none none).run Tryz.prog w = .ok (.slice (some ⟨a, o, none⟩) 32 32) w := by
  have h1 : (underlying 40).run Tryz.prog w = .ok (.array 32 5) w := run_underlying (tb_ok.und rfl) w
  have h2 : (sizeOf 5).run Tryz.prog w = .ok 1 w := run_tsize tb_ok (i := Tryz.t5) rfl
  simp [Instr.sliceAt, Instr.sliceBounds, Instr.sliceBound, h1, h2, asIntOf, Instr.sureAddr, Addr.add_lit]

end Go.Proofs.YtbfjmimiigjenaaGreatDoor
