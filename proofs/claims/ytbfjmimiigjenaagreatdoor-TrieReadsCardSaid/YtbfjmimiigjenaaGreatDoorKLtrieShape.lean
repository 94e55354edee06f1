/-
Contracts of functions, and lemmas on them. No condition.
-/
import Derived.Test.YtbfjmimiigjenaaGreatDoorKK1
set_option linter.unusedVariables false
set_option linter.unusedSectionVars false
set_option linter.unusedSimpArgs false
namespace Go.Proofs.YtbfjmimiigjenaaGreatDoor
open Go V RowKit
theorem same_self (u : World) (po qo : Option Plot) (t : Option Tree) (h1 : IsO u po t) (h2 : IsO u qo t) (ht : okO t) (hl : lowO 1000 t) : Gives Tryz.prog 23 [(mapE po).v, (mapE qo).v] u (boolE true) := by
  have h := TSame_spec u po t qo t h1 ht hl h2 ht hl
  rw [decide_eq_true rfl] at h
  exact h
end Go.Proofs.YtbfjmimiigjenaaGreatDoor
namespace Go.Proofs.YtbfjmimiigjenaaGreatDoor
open Go V RowKit
theorem ents_nodup {t : Option Tree} (hw : wfO t) : ((entsO t).map Prod.fst).Nodup := by
  rw [List.Nodup, List.pairwise_map]
  refine (entsO_rise hw).imp fun {a b} h e => ?_
  have := less_lt _ _ h
  rw [e] at this
  exact List.lt_irrefl _ this
theorem nodup_of_keys {l : List (Str × Sum)} (h : (l.map Prod.fst).Nodup) : l.Nodup := by
  rw [List.Nodup, List.pairwise_map] at h
  exact h.imp fun {a b} hab e => hab (congrArg Prod.fst e)
theorem ents_perm {l : List (Str × Sum)} (hd : (l.map Prod.fst).Nodup) : (entsO (fromO l)).Perm l :=
  (List.perm_ext_iff_of_nodup (nodup_of_keys (ents_nodup (wf_from l))) (nodup_of_keys hd)).2 fun e => by
    rw [show e = (e.1, e.2) from rfl, mem_entsO (wf_from l), get_from_iff hd]
end Go.Proofs.YtbfjmimiigjenaaGreatDoor
