/-
Lemmas. No condition.
-/
import Derived.Test.YtbfjmimiigjenaaGreatDoorKVDoes
import Derived.Test.YtbfjmimiigjenaaGreatDoorKVRaw
set_option linter.unusedVariables false
set_option linter.unusedSectionVars false
set_option linter.unusedSimpArgs false
namespace Go.Proofs.YtbfjmimiigjenaaGreatDoor.V
open Go Go.RowKit
section
variable {α:Type} [DecidableEq α] {P:Program} {T:TypeId} {kv:α->Value}
def ents (kv:α->Value):Nat->List (α × Value)->List MapEntry
 | _,[]=>[]
 | n,p :: r=>⟨kv p.1,p.2,n⟩ :: ents kv (n+1) r
def mapO (kv:α->Value) (es:List (α × Value)):Obj:=.map (ents kv 0 es).toArray es.length
def findI (k:α):List (α × Value)->Nat->Option (Nat × Value)
 | [],_=>none
 | p :: r,i=>if k=p.1 then some (i,p.2) else findI k r (i+1)
structure MKey (P:Program) (T:TypeId) (kv:α->Value):Prop where
 check:∀ b w k,(Instr.checkKey b 10000 T (kv k)).run P w = .ok () w
 eq:∀ w a b,(Op.equal T (kv a) (kv b)).run P w = .ok (decide (a=b)) w
 stays:∀ k,Instr.sameBits 10000 (kv k) (kv k)=true
 now:∀ d,P.underlying T=some d->∀ a b r,Instr.sameNow d (kv a) (kv b)=some r->r=decide (a=b)
 und:∃ d,P.underlying T=some d
theorem ents_get (kv:α->Value):∀ (es:List (α × Value)) (n i:Nat),(ents kv n es)[i]? = (es[i]?).map λp=>⟨kv p.1,p.2,n+i⟩
 | [],_,_=>rfl
 | p :: r,n,0=>rfl
 | p :: r,n,i+1=>by
  simp only [ents,List.getElem?_cons_succ]
  rw [ents_get kv r (n+1) i,Nat.add_right_comm];rfl
theorem findAsking_run (h:MKey P T kv) (w:World) (k:α):∀ (es:List (α × Value)) (n i:Nat),(Instr.findAsking T (kv k) (ents kv n es) i).run P w = .ok (findI k es i) w
 | [],_,_=>rfl
 | p :: r,n,i=>by
  simp only [ents,Instr.findAsking,Sem.run_bind,h.eq,Result.andThen_ok,findI]
  by_cases e:k=p.1
  ·simp [e]
  ·simp only [e,decide_false,Bool.false_eq_true,if_false]
   exact findAsking_run h w k r (n+1) (i+1)
theorem findNow_eq (h:MKey P T kv) {d:TypeDesc} (hd:P.underlying T=some d) (k:α):∀ (es:List (α × Value)) (n i:Nat) r,Instr.findNow d (kv k) (ents kv n es) i=some r->r=findI k es i
 | [],_,_,r,hr=>by simp [ents,Instr.findNow] at hr;exact hr.symm
 | p :: q,n,i,r,hr=>by
  simp only [ents,Instr.findNow] at hr
  unfold findI
  cases hs:Instr.sameNow d (kv k) (kv p.1) with
  | none=>rw [hs] at hr;cases hr
  | some b =>
   have hb:=h.now d hd _ _ _ hs
   rw [hs] at hr
   cases b with
   | true =>
    have e:k=p.1:=by simpa using hb.symm
    rw [if_pos e]
    simp only [Option.some.injEq] at hr
    exact hr.symm
   | false =>
    have e:¬ k=p.1:=by simpa using hb.symm
    rw [if_neg e]
    exact findNow_eq h hd k q (n+1) (i+1) r hr
theorem findKey_run (h:MKey P T kv) (w:World) (k:α) (es:List (α × Value)):(Instr.findKey T (kv k) (ents kv 0 es)).run P w = .ok (findI k es 0) w:=by
 obtain ⟨d,hd⟩:=h.und
 unfold Instr.findKey
 rw [Sem.run_bind,run_underlying hd w,Result.andThen_ok]
 cases hr:Instr.findNow d (kv k) (ents kv 0 es) 0 with
 | some r =>
  simp only [Sem.run_pure]
  rw [findNow_eq h hd k es 0 0 r hr]
 | none=>exact findAsking_run h w k es 0 0
theorem findI_some {k:α} {v:Value}:∀ {es:List (α × Value)} {n i:Nat},findI k es n=some (i,v)->n ≤ i/\es[i - n]? = some (k,v)
 | [],_,_,h=>by cases h
 | p :: r,n,i,h=>by
  unfold findI at h
  split at h
  ·rename_i e
   injection h with h
   simp only [Prod.mk.injEq] at h
   obtain ⟨rfl,rfl⟩:=h
   exact ⟨Nat.le_refl _,by rw [Nat.sub_self,e];rfl⟩
  ·obtain ⟨h1,h2⟩:=findI_some h
   refine ⟨by omega,?_⟩
   rw [show i - n=(i - (n+1))+1 by omega];exact h2
def getM (es:List (α × Value)) (k:α):Option Value:=(findI k es 0).map (·.2)
theorem keyStays_run (h:MKey P T kv) (w:World) (k:α):(Instr.keyThatStays (kv k) (kv k)).run P w = .ok (kv k) w:=by
 unfold Instr.keyThatStays
 rw [if_pos (h.stays k)];rfl
theorem run_getMap {w:World} {r:Nat} {es:Array MapEntry} {c:Nat} (h:w.heap[r]? = some (.map es c)):(getObj r).run P w = .ok (.map es c) w:=by simp [getObj,Sem.run,h]
theorem run_setMap {w:World} {r:Nat} {es:Array MapEntry} {c:Nat} (o:Obj) (h:w.heap[r]? = some (.map es c)):(setObj r o).run P w = .ok () (w.putObj r o):=by simp [setObj,Sem.run,h,World.putObj]
theorem modify_both (kv:α->Value) (es:List (α × Value)) {i:Nat} {k:α} {v v':Value} (h:es[i]? = some (k,v)):(ents kv 0 es).toArray.modify i (λe=>{ e with key:=kv k,val:=v' })=(ents kv 0 (es.set i (k,v'))).toArray:=by
 apply Array.ext'
 rw [Array.toList_modify]
 apply List.ext_getElem?
 intro j
 rw [List.getElem?_modify]
 simp only []
 rw [ents_get,ents_get,List.getElem?_set]
 by_cases e:i=j
 ·subst e
  have hlt:=(List.getElem?_eq_some_iff.1 h).1
  simp [h,hlt]
 ·simp [e]
theorem ents_append (kv:α->Value):∀ (es:List (α × Value)) (n:Nat) (k:α) (v:Value),ents kv n (es ++ [(k,v)])=ents kv n es ++ [⟨kv k,v,n+es.length⟩]
 | [],n,k,v=>rfl
 | p :: r,n,k,v=>by
  simp only [List.cons_append,ents,ents_append kv r (n+1) k v,List.length_cons]
  rw [Nat.add_right_comm,Nat.add_assoc]
theorem push_ents (kv:α->Value) (es:List (α × Value)) (k:α) (v:Value):(ents kv 0 es).toArray.push ⟨kv k,v,es.length⟩=(ents kv 0 (es ++ [(k,v)])).toArray:=by
 rw [ents_append,Nat.zero_add];simp
variable {n:Nat} {tb:TT} {B0:Nat} {I:World->Prop} {H:Heap} {m:Nat} {env:SEnv}
variable {d:Nat} {ty:TypeId} {ps:String} {af:Array Edge} {gd:Option (Nat × Bool)}
abbrev mapE (b:Nat) (kv:α->Value) (es:List (α × Value)):Option HE:=some (.obj b (mapO kv es))
theorem OpGo.makeMap {t:TypeId} (id:Nat) (kv:α->Value) (hd:Nat.blt d n=true) :
  OpGo P tb B0 n ⟨some d,.makeMap t none,ty,ps,af,gd⟩ env H m I (λ_:Unit=>(d,.av (.val (.map (some m)))) :: env) (λ_=>(id,mapE m kv []) :: H) (λ_=>I):=by
 intro w a hm hst ha
 have hdn:d < n:=Nat.lt_of_lt_of_le (Nat.lt_succ_self d) (Nat.le_of_ble_eq_true hd)
 unfold Oper.wp
 have:(execOp a.eval ⟨some d,.makeMap t none,ty,ps,af,gd⟩).run P w = .ok (.value (.map (some w.heap.size))) (w.alloc (.map #[] 0)):=by
  simp only [execOp,Option.map_none,Instr.makeMap,Sem.run_bind,run_newObj_alloc,Result.andThen_ok,Sem.run_pure]
 rw [this]
 subst hm
 refine ⟨(),?_,by simp,hst.push (ext_alloc w _) id (.obj w.heap.size (mapO kv [])) ⟨hst.base,heap_alloc_new w _⟩ λk hk=>?_⟩
 ·rw [kn_cons];exact ha.put hdn _
 ·injection hk with hk;omega
variable {id b:Nat} {es:List (α × Value)} {t elem:TypeId} {x y:Operand} {ex ey:EV} {k:α}
def setM (es:List (α × Value)) (k:α) (v:Value):List (α × Value):=match findI k es 0 with
 | some (i,_)=>es.set i (k,v)
 | none=>es ++ [(k,v)]
theorem OpGo.mapUpdate (hk:MKey P T kv) (ht:P.underlying t=some (.map T elem)) {z:Operand} {ez:EV} (hx:evE env x=some ex) (hxv:ex.v = .map (some b)) (hy:evE env y=some ey) (hyv:ey.v=kv k) (hz:evE env z=some ez) (hH:loH H id=mapE b kv es) :
  OpGo P tb B0 n ⟨none,.mapUpdate t x y z,ty,ps,af,gd⟩ env H m I (λ_:Unit=>env) (λ_=>(id,mapE b kv (setM es k ez.v)) :: H) (λ_=>I):=by
 intro w a hm hst ha
 have ho:=(hst.holds id _ hH).2
 have hxe:=(ev_run ha hx).trans hxv
 have hye:=(ev_run ha hy).trans hyv
 have hze:=ev_run ha hz
 unfold Oper.wp
 have:(execOp a.eval ⟨none,.mapUpdate t x y z,ty,ps,af,gd⟩).run P w = .ok .skip (w.putObj b (mapO kv (setM es k ez.v))):=by
  simp only [execOp,hxe,hye,hze,Instr.mapUpdate,Sem.run_bind,run_underlying ht w,Result.andThen_ok,run_getMap ho,hk.check,findKey_run hk]
  unfold setM
  cases hf:findI k es 0 with
  | none=>simp only [run_setMap _ ho,push_ents,Result.andThen_ok,Sem.run_pure,mapO,List.length_append,List.length_cons,List.length_nil]
  | some p =>
   obtain ⟨i,v⟩:=p
   obtain ⟨_,hg⟩:=findI_some hf
   rw [Nat.sub_zero] at hg
   have hge:(ents kv 0 es)[i]? = some ⟨kv k,v,i⟩:=by rw [ents_get,hg];simp
   simp only [Sem.run_bind,List.getElem?_toArray,hge,Option.map_some,Option.getD_some,keyStays_run hk,Result.andThen_ok,run_setMap _ ho,modify_both kv es hg,Sem.run_pure,mapO,List.length_set]
 rw [this]
 exact ⟨(),ha,by rw [World.putObj_size,hm];exact Nat.le_refl _,hst.putObj hH⟩
theorem run_lookup (hk:MKey P T kv) (ht:P.underlying t=some (.map T elem)) {z:Value} (hz:∀ w,(zeroValue elem).run P w = .ok z w) {w:World} (ho:w.heap[b]? = some (mapO kv es)) (ok:Bool) :
  (Instr.lookup t (.map (some b)) (kv k) ok).run P w = .ok (if ok=true then .tuple #[(getM es k).getD z,.bool (getM es k).isSome] else (getM es k).getD z) w:=by
 simp only [Instr.lookup,Sem.run_bind,run_underlying ht w,Result.andThen_ok,run_getMap ho,Sem.run_pure,hk.check,findKey_run hk]
 unfold getM
 cases hf:findI k es 0 with
 | none=>simp only [Sem.run_bind,hz,Result.andThen_ok,Sem.run_pure,Option.map_none,Option.getD_none];rfl
 | some p=>simp only [Sem.run_pure,Result.andThen_ok,Option.map_some,Option.getD_some];rfl
theorem OpGo.lookup (hk:MKey P T kv) (ht:P.underlying t=some (.map T elem)) {z:Value} (hz:∀ w,(zeroValue elem).run P w = .ok z w) (ok:Bool) (hd:Nat.blt d n=true) (hx:evE env x=some ex) (hxv:ex.v = .map (some b)) (hy:evE env y=some ey) (hyv:ey.v=kv k) (hH:∀ w,St tb B0 H I w->w.heap[b]? = some (mapO kv es)) :
  OpGo P tb B0 n ⟨some d,.lookup t x y ok,ty,ps,af,gd⟩ env H m I (λ_:Unit=>(d,.av (.val (if ok=true then .tuple #[(getM es k).getD z,.bool (getM es k).isSome] else (getM es k).getD z))) :: env) (λ_=>H) (λ_=>I) :=
 OpGo.read _ rfl hd λw a hst ha=>by
  have hxe:=(ev_run ha hx).trans hxv
  have hye:=(ev_run ha hy).trans hyv
  simp only [execOp,hxe,hye,Sem.run_bind,run_lookup hk ht hz (hH w hst) ok,Result.andThen_ok,Sem.run_pure]
  rfl
theorem OpGo.lookupV (v:Value) (hk:MKey P T kv) (ht:P.underlying t=some (.map T elem)) {z:Value} (hz:∀ w,(zeroValue elem).run P w = .ok z w) (hd:Nat.blt d n=true) (hx:evE env x=some ex) (hxv:ex.v = .map (some b)) (hy:evE env y=some ey) (hyv:ey.v=kv k) (hH:∀ w,St tb B0 H I w->w.heap[b]? = some (mapO kv es)) (hv:(getM es k).getD z=v) :
  OpGo P tb B0 n ⟨some d,.lookup t x y false,ty,ps,af,gd⟩ env H m I (λ_:Unit=>(d,.av (.val v)) :: env) (λ_=>H) (λ_=>I):=by
 have h:=OpGo.lookup (ty:=ty) (ps:=ps) (af:=af) (gd:=gd) (B0:=B0) (tb:=tb) (m:=m) hk ht hz false hd hx hxv hy hyv hH
 rw [if_neg (by decide),hv] at h
 exact h
end
end Go.Proofs.YtbfjmimiigjenaaGreatDoor.V
