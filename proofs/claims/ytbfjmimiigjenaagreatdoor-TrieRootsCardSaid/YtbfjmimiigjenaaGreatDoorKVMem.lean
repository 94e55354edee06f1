/-
Lemmas. No condition.
-/
import Derived.Laws.MakeOwn
import Derived.Test.YtbfjmimiigjenaaGreatDoorKVHeap
set_option linter.unusedVariables false
set_option linter.unusedSectionVars false
set_option linter.unusedSimpArgs false
namespace Go.Proofs.YtbfjmimiigjenaaGreatDoor.V
open Go Go.RowKit
theorem flat_nil:flat []=[]:=rfl
theorem flat_cons (v:Value) (l:List Value):flat (v :: l)=v.cells.toList ++ flat l:=by simp [flat]
theorem flat_set:∀ (l:List Value) (i:Nat) (u v:Value),l[i]? = some u->v.cells.size=u.cells.size →
  (flat l).take (flat (l.take i)).length ++ v.cells.toList ++ (flat l).drop ((flat (l.take i)).length+v.cells.size)=flat (l.set i v)
 | [],i,u,v,h,_=>by cases h
 | x :: r,0,u,v,h,hs=>by
  simp only [List.getElem?_cons_zero,Option.some.injEq] at h
  subst h
  simp only [List.take_zero,flat_nil,List.length_nil,List.take_zero,List.nil_append,List.set_cons_zero,flat_cons,Nat.zero_add]
  rw [List.drop_left' (by rw [hs];simp)]
 | x :: r,i+1,u,v,h,hs=>by
  rw [List.getElem?_cons_succ] at h
  have ih:=flat_set r i u v h hs
  simp only [List.take_succ_cons,flat_cons,List.length_append,List.set_cons_succ]
  rw [List.take_length_add_append,Nat.add_assoc,List.drop_length_add_append,← ih]
  simp only [List.append_assoc]
theorem flat_get:∀ (l:List Value) (i:Nat) (u:Value),l[i]? = some u->((flat l).drop (flat (l.take i)).length).take u.cells.size=u.cells.toList
 | [],i,u,h=>by cases h
 | x :: r,0,u,h=>by
  simp only [List.getElem?_cons_zero,Option.some.injEq] at h
  subst h
  simp only [List.take_zero,flat_nil,List.length_nil,List.drop_zero,flat_cons]
  exact List.take_left' (by simp)
 | x :: r,i+1,u,h=>by
  rw [List.getElem?_cons_succ] at h
  simp only [List.take_succ_cons,flat_cons,List.length_append,List.drop_length_add_append]
  exact flat_get r i u h
theorem flat_fits:∀ (l:List Value) (i:Nat) (u:Value),l[i]? = some u->(flat (l.take i)).length+u.cells.size ≤ (flat l).length
 | [],i,u,h=>by cases h
 | x :: r,0,u,h=>by
  simp only [List.getElem?_cons_zero,Option.some.injEq] at h
  subst h
  simp [flat_nil,flat_cons]
 | x :: r,i+1,u,h=>by
  rw [List.getElem?_cons_succ] at h
  have:=flat_fits r i u h
  simp only [List.take_succ_cons,flat_cons,List.length_append]
  omega
section
variable {tb:TT}
theorem Lay.get:∀ {fds:List Field} {fs:List AV} {off:Nat},Lay tb fds fs off->∀ {i:Nat} {fd:Field},fds[i]? = some fd →
  ∃ a,fs[i]? = some a/\VOk tb fd.type a.v/\fd.offset=off+(flat ((fs.map AV.v).take i)).length
 | [],_,_,_,i,fd,h=>by cases h
 | _ :: _,[],_,hl,_,_,_=>hl.elim
 | f :: r,a :: s,off,hl,0,fd,h=>by
  simp only [List.getElem?_cons_zero,Option.some.injEq] at h
  subst h
  exact ⟨a,rfl,hl.2.1,by simp [flat_nil,hl.1]⟩
 | f :: r,a :: s,off,hl,i+1,fd,h=>by
  rw [List.getElem?_cons_succ] at h
  obtain ⟨b,hb,h1,h2⟩:=Lay.get hl.2.2 h
  refine ⟨b,by rw [List.getElem?_cons_succ];exact hb,h1,?_⟩
  simp only [List.map_cons,List.take_succ_cons,flat_cons,List.length_append]
  rw [h2]
  simp [Nat.add_assoc]
theorem Lay.set:∀ {fds:List Field} {fs:List AV} {off:Nat},Lay tb fds fs off->∀ {i:Nat} {fd:Field} {b:AV},fds[i]? = some fd->VOk tb fd.type b.v->Lay tb fds (fs.set i b) off
 | [],_,_,_,i,fd,_,h,_=>by cases h
 | _ :: _,[],_,hl,_,_,_,_,_=>hl.elim
 | f :: r,a :: s,off,hl,0,fd,b,h,hb=>by
  simp only [List.getElem?_cons_zero,Option.some.injEq] at h
  subst h
  obtain ⟨i,hi,hs⟩:=hb.size
  obtain ⟨j,hj,hs'⟩:=hl.2.1.size
  rw [hi] at hj;injection hj with hj;subst hj
  refine ⟨hl.1,hb,?_⟩
  rw [hs,← hs']
  exact hl.2.2
 | f :: r,a :: s,off,hl,i+1,fd,b,h,hb=>by
  rw [List.getElem?_cons_succ] at h
  exact ⟨hl.1,hl.2.1,Lay.set hl.2.2 h hb⟩
theorem Lay.all_one:∀ {fds:List Field} {fs:List AV} {off:Nat},Lay tb fds fs off->∀ u ∈ flat (fs.map AV.v),u.oneCell'=true
 | [],[],_,_=>by simp [flat]
 | [],_ :: _,_,hl=>hl.elim
 | _ :: _,[],_,hl=>hl.elim
 | f :: r,a :: s,off,hl=>by
  intro u hu
  simp only [List.map_cons,flat_cons,List.mem_append] at hu
  rcases hu with hu|hu
  ·exact hl.2.1.one u hu
  ·exact Lay.all_one hl.2.2 u hu
variable {P:Program} {w:World}
theorem run_tsize (hk:tb.Ok P) {T:TypeId} {i:TypeInfo} (h:tb.get T=some i):(sizeOf T).run P w = .ok i.size w:=by
 have:=hk.get h
 simp [sizeOf,typeInfo,program,Sem.run,this]
theorem info_size (hk:tb.Ok P) {T:TypeId} {i:TypeInfo} (h:tb.get T=some i):(P.info? T).map (·.size)=some i.size:=by rw [hk.get h];rfl
theorem run_isAgg (hk:tb.Ok P) {T:TypeId} {d:TypeDesc} (h:tb.und T=some d):(isAgg T).run P w = .ok d.isRow w:=by
 unfold isAgg
 rw [Sem.run_bind,run_underlying (hk.und h) w]
 cases d<;>rfl
theorem run_load (hk:tb.Ok P) {T:TypeId} {v:Value} {b o:Nat} (hv:VOk tb T v) (hc:w.rangeAt b o v.cells.toList):(loadVar T ⟨b,o,none⟩).run P w = .ok v w:=by
 cases hd:tb.und T with
 | none=>unfold VOk at hv;rw [hd] at hv;exact hv.elim
 | some d =>
  by_cases hr:d.isRow=true
  ·obtain ⟨cs,i,rfl,hi,hs,_⟩:∃ cs i,v = .agg cs/\tb.get T=some i/\cs.size=i.size/\∀ u ∈ cs.toList,u.oneCell'=true:=by
    unfold VOk at hv;rw [hd] at hv
    cases d<;>first|exact hv|cases hr
   have:=run_loadVar_mid (P:=P) w b o T cs.toList d hc (hk.und hd) hr (by rw [info_size hk hi,← hs];simp)
   simpa using this
  ·have h1:v.oneCell'=true:=by
    unfold VOk at hv;rw [hd] at hv
    cases d<;>first|exact hv.1|exact absurd rfl hr
   have hcell:w.cell? ⟨b,o,none⟩=some v:=by
    have:v.cells = #[v]:=by cases v<;>first|rfl|cases h1
    rw [this] at hc
    simpa using hc 0 v (by simp)
   have hr':d.isRow=false:=by simpa using hr
   simp [loadVar,run_isAgg hk hd,hr',load,Sem.run,hcell]
theorem range_of_blk {b:Nat} {cs:Array Value} {T:TypeId} {fr:Nat × Nat} (h:w.heap[b]? = some (.cells cs T fr)) {o:Nat} {l:List Value} (hl:∀ j v,l[j]? = some v->cs.toList[o+j]? = some v):w.rangeAt b o l:=by
 intro j v hv
 have:=hl j v hv
 rw [Array.getElem?_toList] at this
 simp [World.cell?,h,this]
theorem range_take {b:Nat} {cs:Array Value} {T:TypeId} {fr:Nat × Nat} (h:w.heap[b]? = some (.cells cs T fr)) {o n:Nat} {l:List Value} (hl:(cs.toList.drop o).take n=l):w.rangeAt b o l:=by
 refine range_of_blk h λj v hv=>?_
 subst hl
 rw [List.getElem?_take] at hv
 split at hv
 ·rw [List.getElem?_drop] at hv;exact hv
 ·cases hv
theorem run_storeAt (hk:tb.Ok P) {T E:TypeId} {v:Value} {b o:Nat} {cur:Array Value} (hv:VOk tb T v) (hb:w.heap[b]? = some (.cells cur E (0,0))) (hfit:o+v.cells.size ≤ cur.size) :
  ∃ w',(storeVar T ⟨b,o,none⟩ v).run P w = .ok () w'/\w'.heap[b]? = some (.cells (cur.toList.take o ++ v.cells.toList ++ cur.toList.drop (o+v.cells.size)).toArray E (0,0)) ∧
   Agr (λk=>k=b) w w'/\w'.heap.size=w.heap.size:=by
 obtain ⟨i,hi,hs⟩:=hv.size
 have hst:=run_storeCells_at P b o E v.cells.toList 0 cur w hb (by simpa using hfit) hv.one
 simp only [Nat.add_zero,Array.length_toList] at hst
 refine ⟨_,?_,setRow_heap w b cur _ E _ hb,⟨rfl,rfl,rfl,by simp,λk _ hk=>setRow_other w b k _ hk⟩,by simp⟩
 simp [storeVar,run_tsize hk hi,hs,hst]
theorem run_newVar' (T:TypeId) (v:Value):(newVar T v).run P w = .ok ⟨w.heap.size,0,none⟩ (w.alloc (.cells v.cells T)):=by
 simp [newVar,newRow,newObj,Sem.run]
theorem ext_alloc (w:World) (o:Obj):Ext w (w.alloc o):=Below.alloc (Below.refl _ _) (Nat.le_refl _) o
end
end Go.Proofs.YtbfjmimiigjenaaGreatDoor.V
