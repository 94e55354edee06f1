/-
Lemmas. No condition.
-/
import Derived.Lib.ConvBytes
import Derived.Test.YtbfjmimiigjenaaGreatDoorKPW4
set_option linter.unusedVariables false
set_option linter.unusedSectionVars false
set_option linter.unusedSimpArgs false
namespace Go.Proofs.YtbfjmimiigjenaaGreatDoor
open Go V RowKit
section
variable {n : Nat} {B0 : Nat} {I : World → Prop} {H : Heap} {m : Nat} {env : SEnv}
end
end Go.Proofs.YtbfjmimiigjenaaGreatDoor
