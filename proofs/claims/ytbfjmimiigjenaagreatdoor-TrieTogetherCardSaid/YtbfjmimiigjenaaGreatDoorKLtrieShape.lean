/-
A part of the proofs of the laws of a seat: contracts of functions and lemmas on them; the listed package variables hold what the program's text lays. No further condition.
-/
import Derived.Test.YtbfjmimiigjenaaGreatDoorKK1
set_option linter.unusedVariables false
set_option linter.unusedSectionVars false
set_option linter.unusedSimpArgs false
/-
TrieShape, walked whole.
-/
namespace Go.Proofs.YtbfjmimiigjenaaGreatDoor
open Go V RowKit

theorem same_self (u : World) (po qo : Option Plot) (t : Option Tree) (h1 : IsO u po t) (h2 : IsO u qo t) (ht : okO t) (hl : lowO 1000 t) : Gives Tryz.prog 23 [(mapE po).v, (mapE qo).v] u (boolE true) := by
  have h := TSame_spec u po t qo t h1 ht hl h2 ht hl
  rw [decide_eq_true rfl] at h
  exact h

end Go.Proofs.YtbfjmimiigjenaaGreatDoor

/-
Pure: what stands below a beginning; maps put together.
-/
namespace Go.Proofs.YtbfjmimiigjenaaGreatDoor
open Go V RowKit

theorem pre_iff (s p : Str) : hasPre s p = true ↔ s = p ++ s.drop p.length := by
  unfold hasPre
  simp only [Bool.and_eq_true, decide_eq_true_eq]
  constructor
  · rintro ⟨_, h⟩
    conv => lhs; rw [← List.take_append_drop p.length s, h]
  · intro h
    have hl := congrArg List.length h
    rw [List.length_append, List.length_drop] at hl
    refine ⟨by omega, ?_⟩
    conv => lhs; rw [h]
    exact List.take_left
theorem pre_app (p r : Str) : hasPre (p ++ r) p = true := (pre_iff _ _).2 (by rw [List.drop_left])
theorem cut_app (p r : Str) : cutS (p ++ r) p = r := by unfold cutS; rw [if_pos (pre_app p r), List.drop_left]
theorem app_cut {s p : Str} (h : hasPre s p = true) : p ++ cutS s p = s := by
  unfold cutS; rw [if_pos h]; exact ((pre_iff s p).1 h).symm

theorem below_filter (p : Str) : ∀ l : List (Str × Sum), belowL p l = (l.filter fun e => hasPre e.1 p).map fun e => (cutS e.1 p, e.2)
  | [] => rfl
  | e :: r => by
    have ih := below_filter p r
    unfold belowL at ih ⊢
    rw [List.flatMap_cons, ih]
    unfold below1
    by_cases h : hasPre e.1 p = true
    · simp [List.filter_cons, h]
    · simp [List.filter_cons, h]
theorem mem_below (p : Str) (l : List (Str × Sum)) (r : Str) (x : Sum) : (r, x) ∈ belowL p l ↔ (p ++ r, x) ∈ l := by
  rw [below_filter, List.mem_map]
  constructor
  · rintro ⟨e, he, h⟩
    rw [List.mem_filter] at he
    injection h with h1 h2
    subst h1; subst h2
    rw [app_cut he.2]
    exact he.1
  · intro h
    exact ⟨(p ++ r, x), List.mem_filter.2 ⟨h, pre_app p r⟩, by simp only [cut_app]⟩
theorem below_nodup (p : Str) {l : List (Str × Sum)} (h : (l.map Prod.fst).Nodup) : ((belowL p l).map Prod.fst).Nodup := by
  rw [below_filter, List.map_map, List.Nodup, List.pairwise_map, List.pairwise_filter]
  rw [List.Nodup, List.pairwise_map] at h
  refine h.imp fun {a b} hab ha hb e => hab ?_
  have e : cutS a.1 p = cutS b.1 p := e
  rw [← app_cut ha, ← app_cut hb, e]

theorem ents_nodup {t : Option Tree} (hw : wfO t) : ((entsO t).map Prod.fst).Nodup := by
  rw [List.Nodup, List.pairwise_map]
  refine (entsO_rise hw).imp fun {a b} h e => ?_
  have := less_lt _ _ h
  rw [e] at this
  exact List.lt_irrefl _ this
theorem nodup_of_keys {l : List (Str × Sum)} (h : (l.map Prod.fst).Nodup) : l.Nodup := by
  rw [List.Nodup, List.pairwise_map] at h
  exact h.imp fun {a b} hab e => hab (congrArg Prod.fst e)
theorem ents_perm {l : List (Str × Sum)} (hd : (l.map Prod.fst).Nodup) : (entsO (fromO l)).Perm l :=
  (List.perm_ext_iff_of_nodup (nodup_of_keys (ents_nodup (wf_from l))) (nodup_of_keys hd)).2 fun e => by
    rw [show e = (e.1, e.2) from rfl, mem_entsO (wf_from l), get_from_iff hd]
theorem many_from {l : List (Str × Sum)} (hd : (l.map Prod.fst).Nodup) : manyO (fromO l) = l.length := by
  rw [← entsO_many]; exact (ents_perm hd).length_eq

theorem get_below {t : Option Tree} (hw : wfO t) (p r : Str) : getO (fromO (belowL p (entsO t))) r = getO t (p ++ r) := opt_ext fun x => by
  rw [get_from_iff (below_nodup p (ents_nodup hw)), mem_below, mem_entsO hw]
theorem many_below {l : List (Str × Sum)} (hd : (l.map Prod.fst).Nodup) (p : Str) : manyO (fromO (belowL p (entsO (fromO l)))) = manyO (fromO (l.filter fun e => hasPre e.1 p)) := by
  have hf : ((l.filter fun e => hasPre e.1 p).map Prod.fst).Nodup := List.Nodup.sublist ((List.filter_sublist).map _) hd
  rw [many_from (below_nodup p (ents_nodup (wf_from l))), many_from hf, below_filter, List.length_map]
  exact ((ents_perm hd).filter _).length_eq

theorem filt_nodup {l : List (Str × Sum)} (hd : (l.map Prod.fst).Nodup) (p : Str × Sum → Bool) : ((l.filter p).map Prod.fst).Nodup := List.Nodup.sublist ((List.filter_sublist).map _) hd
theorem union_zero {l : List (Str × Sum)} (hd : (l.map Prod.fst).Nodup) (hl : l.length ≤ 600) (q : Str → Bool) : unionE (fromO (l.filter fun e => q e.1)) (fromO (l.filter fun e => !q e.1)) = 0 := by
  have h1 := filt_nodup hd fun e => q e.1
  have h2 := filt_nodup hd fun e => !q e.1
  have hp := ents_perm h2
  unfold unionE
  rw [if_neg, if_neg]
  · have e1 := hp.length_eq
    have e2 := many_from h1
    have e3 := (List.filter_append_perm (fun e => q e.1) l).length_eq
    rw [List.length_append] at e3
    omega
  · rw [List.any_eq_true]
    rintro ⟨e, he, hs⟩
    have h3 := (List.mem_filter.1 (hp.mem_iff.1 he)).2
    obtain ⟨x, hx⟩ := Option.isSome_iff_exists.1 hs
    have h4 := (List.mem_filter.1 ((get_from_iff h1 e.1 x).1 hx)).2
    simp only [Bool.not_eq_true'] at h3
    rw [h3] at h4; cases h4
theorem union_zero' {l : List (Str × Sum)} (hd : (l.map Prod.fst).Nodup) (hl : l.length ≤ 600) (q : Str → Bool) : unionE (fromO (l.filter fun e => !q e.1)) (fromO (l.filter fun e => q e.1)) = 0 := by
  have h := union_zero hd hl fun s => !q s
  simp only [Bool.not_not] at h
  exact h
theorem union_five {l : List (Str × Sum)} (hd : (l.map Prod.fst).Nodup) (q : Str × Sum → Bool) {e : Str × Sum} (he : e ∈ l) (hq : q e = true) : unionE (fromO (l.filter q)) (fromO l) = 5 := by
  unfold unionE
  rw [if_pos]
  rw [List.any_eq_true]
  refine ⟨e, (ents_perm hd).mem_iff.2 he, ?_⟩
  rw [get_from (filt_nodup hd q) (List.mem_filter.2 ⟨he, hq⟩ : (e.1, e.2) ∈ _)]
  rfl
theorem union_all {l : List (Str × Sum)} (hd : (l.map Prod.fst).Nodup) (q : Str × Sum → Bool) : fromO (entsO (fromO (l.filter q)) ++ entsO (fromO (l.filter fun e => !q e))) = fromO l := by
  have h1 := ents_perm (filt_nodup hd q)
  have h2 := ents_perm (filt_nodup hd fun e => !q e)
  have h := (h1.append h2).trans (List.filter_append_perm q l)
  exact from_perm h ((h.map Prod.fst).nodup_iff.2 hd)
theorem union_all' {l : List (Str × Sum)} (hd : (l.map Prod.fst).Nodup) (q : Str × Sum → Bool) : fromO (entsO (fromO (l.filter fun e => !q e)) ++ entsO (fromO (l.filter q))) = fromO l := by
  have h := union_all hd fun e => !q e
  simp only [Bool.not_not] at h
  exact h
end Go.Proofs.YtbfjmimiigjenaaGreatDoor
