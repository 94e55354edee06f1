/-
Lemmas. No condition.
-/
import Derived.Test.YtbfjmimiigjenaaGreatDoorKQ38
set_option linter.unusedVariables false
set_option linter.unusedSimpArgs false
namespace Go.Proofs.YtbfjmimiigjenaaGreatDoor
open Go V RowKit
theorem same_self (u : World) (po qo : Option Plot) (t : Option Tree) (h1 : IsO u po t) (h2 : IsO u qo t) (ht : okO t) (hl : lowO 1000 t) : Gives Tryz.prog 23 [(mapE po).v, (mapE qo).v] u (boE true) := by
 have h := TSame_spec u po t qo t h1 ht hl h2 ht hl
 rw [decide_eq_true rfl] at h
 exact h
theorem ents_nodup {t : Option Tree} (hw : wfO t) : ((enO t).map Prod.fst).Nodup := by
 rw [List.Nodup, List.pairwise_map]
 refine (entsO_rise hw).imp fun {a b} h e => ?_
 have := less_lt _ _ h
 rw [e] at this
 exact List.lt_irrefl _ this
end Go.Proofs.YtbfjmimiigjenaaGreatDoor
