/-
Lemmas. No condition.
-/
import Derived.Test.YtbfjmimiigjenaaGreatDoorKQ38
set_option linter.unusedVariables false
set_option linter.unusedSimpArgs false
namespace Go.Proofs.YtbfjmimiigjenaaGreatDoor
open Go V RowKit
theorem less_lt:∀ a b:Str,Op.bytesLess a b=true->a < b
 | [],[]=>by simp [Op.bytesLess]
 | [],_ :: _=>λ_=>List.Lex.nil
 | _ :: _,[]=>by simp [Op.bytesLess]
 | a :: x,b :: y=>by
  intro h
  unfold Op.bytesLess at h
  by_cases h1:a < b
  ·exact List.Lex.rel h1
  ·simp [h1] at h
   obtain ⟨rfl,h⟩:=h
   exact List.Lex.cons (less_lt x y h)
theorem from_snoc (l:List (Str × Sum)) (e:Str × Sum):fromO (l ++ [e])=some (putO (fromO l) e.1 e.2):=fromO_succ l e
theorem wf_from:∀ l:List (Str × Sum),wfO (fromO l):=by
 intro l
 have:∀ (l:List (Str × Sum)) (t:Option Tree),wfO t->wfO (l.foldl (λt e=>some (putO t e.1 e.2)) t):=by
  intro l
  induction l with
  | nil=>exact λt h=>h
  | cons e r ih=>exact λt h=>ih _ (putO_wf h _ _)
 exact this l none trivial
theorem get_fold:∀ (l:List (Str × Sum)) (t:Option Tree),wfO t->∀ n,n ∉ l.map Prod.fst->getO (l.foldl (λt e=>some (putO t e.1 e.2)) t) n=getO t n
 | [],_,_,_,_=>rfl
 | e :: r,t,ht,n,hn=>by
  rw [List.map_cons,List.mem_cons,not_or] at hn
  rw [List.foldl_cons,get_fold r _ (putO_wf ht _ _) n hn.2,putO_get ht,if_neg hn.1]
theorem get_from_none {l:List (Str × Sum)} {n:Str} (h:n ∉ l.map Prod.fst):getO (fromO l) n=none:=get_fold l none trivial n h
theorem get_fold_mem:∀ (l:List (Str × Sum)) (t:Option Tree),wfO t->(l.map Prod.fst).Nodup->∀ n x,(n,x) ∈ l->getO (l.foldl (λt e=>some (putO t e.1 e.2)) t) n=some x
 | [],_,_,_,_,_,h=>by cases h
 | e :: r,t,ht,hd,n,x,h=>by
  rw [List.map_cons,List.nodup_cons] at hd
  rw [List.foldl_cons]
  rcases List.mem_cons.1 h with rfl|h
  ·rw [get_fold r _ (putO_wf ht _ _) _ hd.1,putO_get ht,if_pos rfl]
  ·exact get_fold_mem r _ (putO_wf ht _ _) hd.2 n x h
theorem get_from {l:List (Str × Sum)} (hd:(l.map Prod.fst).Nodup) {n:Str} {x:Sum} (h:(n,x) ∈ l):getO (fromO l) n=some x:=get_fold_mem l none trivial hd n x h
theorem get_from_iff {l:List (Str × Sum)} (hd:(l.map Prod.fst).Nodup) (n:Str) (x:Sum):getO (fromO l) n=some x ↔ (n,x) ∈ l:=by
 constructor
 ·intro h
  by_cases hn:n ∈ l.map Prod.fst
  ·obtain ⟨⟨m,y⟩,hm,rfl⟩:=List.mem_map.1 hn
   have:=get_from hd hm
   rw [this] at h
   injection h with h
   subst h;exact hm
  ·rw [get_from_none hn] at h;cases h
 ·exact get_from hd
theorem names_sorted {l:List (Str × Sum)} (hd:(l.map Prod.fst).Nodup):(enO (fromO l)).map Prod.fst=sortN (l.map Prod.fst):=by
 have hw:=wf_from l
 have hr:=entsO_rise hw
 refine (sortN_eq ?_ ?_).symm
 ·have hnd:((enO (fromO l)).map Prod.fst).Nodup:=by
   rw [List.Nodup,List.pairwise_map]
   refine hr.imp fun {a b} h e=>?_
   have:=less_lt _ _ h
   rw [e] at this
   exact List.lt_irrefl _ this
  refine (List.perm_ext_iff_of_nodup hnd hd).2 λn=>?_
  constructor
  ·intro h
   obtain ⟨⟨m,y⟩,hm,rfl⟩:=List.mem_map.1 h
   have:=(get_from_iff hd m y).1 ((meO hw m y).1 hm)
   exact List.mem_map.2 ⟨_,this,rfl⟩
  ·intro h
   obtain ⟨⟨m,y⟩,hm,rfl⟩:=List.mem_map.1 h
   exact List.mem_map.2 ⟨(m,y),(meO hw m y).2 ((get_from_iff hd m y).2 hm),rfl⟩
 ·rw [List.pairwise_map]
  exact hr.imp fun {a b} h=>by
   simp only [decide_eq_true_eq]
   exact List.le_of_lt (less_lt _ _ h)
theorem pre_iff (s p:Str):hasPre s p=true ↔ s=p ++ s.drop p.length:=by
 unfold hasPre
 simp only [Bool.and_eq_true,decide_eq_true_eq]
 constructor
 ·rintro ⟨_,h⟩
  conv=>lhs;rw [← List.take_append_drop p.length s,h]
 ·intro h
  have hl:=congrArg List.length h
  rw [List.length_append,List.length_drop] at hl
  refine ⟨by omega,?_⟩
  conv=>lhs;rw [h]
  exact List.take_left
theorem app_cut {s p:Str} (h:hasPre s p=true):p ++ cutS s p=s:=by
 unfold cutS;rw [if_pos h];exact ((pre_iff s p).1 h).symm
theorem below_filter (p:Str):∀ l:List (Str × Sum),belowL p l=(l.filter λe=>hasPre e.1 p).map λe=>(cutS e.1 p,e.2)
 | []=>rfl
 | e :: r=>by
  have ih:=below_filter p r
  unfold belowL at ih ⊢
  rw [List.flatMap_cons,ih]
  unfold below1
  by_cases h:hasPre e.1 p=true
  ·simp [List.filter_cons,h]
  ·simp [List.filter_cons,h]
theorem ents_nodup {t:Option Tree} (hw:wfO t):((enO t).map Prod.fst).Nodup:=by
 rw [List.Nodup,List.pairwise_map]
 refine (entsO_rise hw).imp fun {a b} h e=>?_
 have:=less_lt _ _ h
 rw [e] at this
 exact List.lt_irrefl _ this
theorem nodup_of_keys {l:List (Str × Sum)} (h:(l.map Prod.fst).Nodup):l.Nodup:=by
 rw [List.Nodup,List.pairwise_map] at h
 exact h.imp fun {a b} hab e=>hab (congrArg Prod.fst e)
theorem ents_perm {l:List (Str × Sum)} (hd:(l.map Prod.fst).Nodup):(enO (fromO l)).Perm l :=
 (List.perm_ext_iff_of_nodup (nodup_of_keys (ents_nodup (wf_from l))) (nodup_of_keys hd)).2 λe=>by
  rw [show e=(e.1,e.2) from rfl,meO (wf_from l),get_from_iff hd]
end Go.Proofs.YtbfjmimiigjenaaGreatDoor
