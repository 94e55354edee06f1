/-
Lemmas. No condition.
-/
import Derived.Laws.CopyRow
import Derived.Test.YtbfjmimiigjenaaGreatDoorKVRow
set_option linter.unusedVariables false
set_option linter.unusedSectionVars false
set_option linter.unusedSimpArgs false
namespace Go.Proofs.YtbfjmimiigjenaaGreatDoor.V
open Go Go.RowKit
section
variable {P:Program} {f:Fr} {n:Nat} {S:Stops} {R:Ending->World->Prop} {tb:TT} {B0:Nat} {I:World->Prop} {H:Heap} {nx m:Nat} {env:SEnv} {todo k:List Item}
theorem RH.raw {id:Nat} {v:Value} {e:TypeId} {sz p:Nat} {xs:List Value} (hH:loH H id=some (.row v e sz p xs)) (hp:0 < p)
  (hr:∀ g cap cur,v = .slice (some ⟨g,0,none⟩) p cap->p ≤ cap->cap ≤ maxLen->cur.size=cap*sz->cur.toList.take (p*sz)=xs →
   RH P f n tb B0 S R todo env ((id,some (.obj g (.cells cur e))) :: H) nx m I):RH P f n tb B0 S R todo env H nx m I:=by
 intro w hm hst
 have ho:=hst.holds id _ hH
 rcases ho.2 with ⟨_,h0⟩|⟨g,cap,cur,hv,hg,hh,hc,hmx,hcs,ht⟩
 ·omega
 ·refine hr g cap cur hv hc hmx hcs ht w hm (hst.turn id _ _ hH (Agr.refl _ _) ⟨hg,hh⟩ λk hk=>.inl ?_)
  subst hv
  exact hk
theorem RH.cook {id g:Nat} {e:TypeId} {cur:Array Value} {sz:Nat} (p cap:Nat) (hH:loH H id=some (.obj g (.cells cur e))) (hc:p ≤ cap) (hmx:cap ≤ maxLen) (hcs:cur.size=cap*sz)
  (hr:RH P f n tb B0 S R todo env ((id,some (.row (.slice (some ⟨g,0,none⟩) p cap) e sz p (cur.toList.take (p*sz)))) :: H) nx m I):RH P f n tb B0 S R todo env H nx m I:=by
 intro w hm hst
 have ho:=hst.holds id _ hH
 refine hr w hm (hst.turn id _ (.row (.slice (some ⟨g,0,none⟩) p cap) e sz p (cur.toList.take (p*sz))) hH (Agr.refl _ _) ⟨?_,.inr ⟨g,cap,cur,rfl,ho.1,ho.2,hc,hmx,hcs,rfl⟩⟩ λk hk=>.inl hk)
 rw [List.length_take,Array.length_toList,hcs]
 exact Nat.min_eq_left (Nat.mul_le_mul_right _ hc)
def putC (cur:Array Value) (o:Nat) (cs:List Value):Array Value:=(cur.toList.take o ++ cs ++ cur.toList.drop (o+cs.length)).toArray
theorem putC_size {cur:Array Value} {o:Nat} {cs:List Value} (h:o+cs.length ≤ cur.size):(putC cur o cs).size=cur.size:=by
 unfold putC
 simp only [List.size_toArray,List.length_append,List.length_take,List.length_drop,Array.length_toList]
 omega
theorem St.put {w w':World} {id g:Nat} {e:TypeId} {cur:Array Value} {o:Nat} {cs:List Value} (hst:St tb B0 H I w) (hH:loH H id=some (.obj g (.cells cur e))) (hw:w'=w.setRow g (putC cur o cs)) :
  w.heap.size ≤ w'.heap.size/\St tb B0 ((id,some (.obj g (.cells (putC cur o cs) e))) :: H) I w':=by
 subst hw
 have ho:=hst.holds id _ hH
 refine ⟨by simp,hst.turn id _ _ hH ⟨rfl,rfl,rfl,by simp,λk _ hk=>setRow_other w g k _ λe=>hk (by rw [e];rfl)⟩ ⟨ho.1,setRow_heap w g cur _ e _ ho.2⟩ λk hk=>.inl hk⟩
variable {α:Type} {ops:Array Oper} {i:Nat} {l:List Bool} {o:Oper}
theorem OpGo.copyRaw (hk:tb.Ok P) {d id g:Nat} {s x:Operand} {T T2 e:TypeId} {ty:TypeId} {ps:String} {af:Array Edge} {gd:Option (Nat × Bool)} {es ex:EV} {off dl dc q c:Nat} {A:Option Addr} {cur:Array Value} {i:TypeInfo} {cs:List Value}
  (hd:Nat.blt d n=true) (hT:tb.und T=some (.slice e)) (hi:tb.get e=some i) (hs:evE env s=some es) (hsv:es.v = .slice (some ⟨g,off,none⟩) dl dc) (hx:evE env x=some ex) (hxv:ex.v = .slice A q c)
  (hH:loH H id=some (.obj g (.cells cur e))) (hl:cs.length=Nat.min q dl*i.size) (h1:∀ u ∈ cs,u.oneCell'=true) (hn:∀ w,St tb B0 H I w->w.rangeAt (blkA A) (offA A) cs) (hA:cs ≠ []->Ptr A) (hA0:A=none->Nat.min q dl=0)
  (hfit:off+cs.length ≤ cur.size) :
  OpGo P tb B0 n ⟨some d,.call ⟨.builtin .copy,#[s,x],#[T,T2]⟩,ty,ps,af,gd⟩ env H m I (λ_:Unit=>(d,.av (.val (.int .i64 (Nat.min q dl)))) :: env) (λ_=>(id,some (.obj g (.cells (putC cur off cs) e))) :: H) (λ_=>I):=by
 intro w a hm hst ha
 have hdn:d < n:=Nat.lt_of_lt_of_le (Nat.lt_succ_self d) (Nat.le_of_ble_eq_true hd)
 have ho:=hst.holds id _ hH
 have hu:=run_underlying (hk.und hT) w
 have hsz:=run_tsize (w:=w) hk hi
 have hfirst:(Builtin.firstCells i.size (Nat.min q dl) (.slice A q c)).run P w = .ok cs.toArray w:=by
  cases A with
  | none =>
   have h0:=hA0 rfl
   rw [h0] at hl
   have:cs=[]:=List.length_eq_zero_iff.1 (by simpa using hl)
   subst this
   rw [h0]
   rfl
  | some ad =>
   refine run_firstCells_some w i.size _ ad q c cs hl λj v hj=>?_
   have hp:=hA (by rintro rfl;simp at hj)
   unfold Ptr at hp
   injection hp with hp
   have:=hn w hst j v hj
   rw [hp,Addr.add_lit]
   exact this
 have hstc:=run_storeCells_at P g off e cs 0 cur w ho.2 (by simpa using hfit) h1
 simp only [Nat.add_zero] at hstc
 have hrun:(Builtin.copy_ #[T,T2] ty #[.slice (some ⟨g,off,none⟩) dl dc,.slice A q c]).run P w = .ok (.int .i64 (Nat.min q dl)) (w.setRow g (putC cur off cs)):=by
  simp only [Builtin.copy_,Sem.run_bind,List.getElem?_toArray,List.getElem?_cons_zero,List.getElem?_cons_succ,hu,Result.andThen_ok,Builtin.lenOf,Sem.run_pure,hsz,hfirst]
  simp [hstc,putC,goInt]
 have hsv':a.eval s = .slice (some ⟨g,off,none⟩) dl dc:=(ev_run ha hs).trans hsv
 have hxv':a.eval x = .slice A q c:=(ev_run ha hx).trans hxv
 unfold Oper.wp
 have:(execOp a.eval ⟨some d,.call ⟨.builtin .copy,#[s,x],#[T,T2]⟩,ty,ps,af,gd⟩).run P w = .ok (.value (.int .i64 (Nat.min q dl))) (w.setRow g (putC cur off cs)):=by
  simp only [execOp,resolve,invoke,builtin,Sem.run_bind,Sem.run_pure,Result.andThen_ok,List.map_toArray,List.map_cons,List.map_nil,hsv',hxv',hrun]
 rw [this]
 obtain ⟨h2,h3⟩:=hst.put (w':=w.setRow g (putC cur off cs)) hH rfl
 refine ⟨(),?_,by rw [← hm];exact h2,h3⟩
 rw [kn_cons];exact ha.put hdn _
theorem OpGo.appendRaw (hk:tb.Ok P) {d id g:Nat} {s x:Operand} {T e:TypeId} {ty:TypeId} {ps:String} {af:Array Edge} {gd:Option (Nat × Bool)} {es ex:EV} {sl cap q c:Nat} {ad:Addr} {cur:Array Value} {i:TypeInfo} {cs:List Value}
  (hd:Nat.blt d n=true) (hT:tb.und T=some (.slice e)) (hi:tb.get e=some i) (hs:evE env s=some es) (hsv:es.v = .slice (some ⟨g,0,none⟩) sl cap) (hx:evE env x=some ex) (hxv:ex.v = .slice (some ad) q c)
  (hH:loH H id=some (.obj g (.cells cur e))) (hl:cs.length=q*i.size) (h1:∀ u ∈ cs,u.oneCell'=true) (hn:∀ w,St tb B0 H I w->w.rangeAt (blkA (some ad)) (offA (some ad)) cs) (hA:cs ≠ []->Ptr (some ad))
  (hroom:sl+q ≤ cap) (hfit:sl*i.size+cs.length ≤ cur.size) :
  OpGo P tb B0 n ⟨some d,.call ⟨.builtin .append,#[s,x],#[T,T]⟩,ty,ps,af,gd⟩ env H m I (λ_:Unit=>(d,.av (.val (.slice (some ⟨g,0,none⟩) (sl+q) cap))) :: env) (λ_=>(id,some (.obj g (.cells (putC cur (sl*i.size) cs) e))) :: H) (λ_=>I):=by
 intro w a hm hst ha
 have hdn:d < n:=Nat.lt_of_lt_of_le (Nat.lt_succ_self d) (Nat.le_of_ble_eq_true hd)
 have ho:=hst.holds id _ hH
 have hnews:∀ j u,cs[j]? = some u->w.cell? (ad.add j)=some u:=by
  intro j v hj
  have hp:=hA (by rintro rfl;simp at hj)
  unfold Ptr at hp
  injection hp with hp
  have:=hn w hst j v hj
  rw [hp,Addr.add_lit]
  exact this
 have hrun:=run_append_room (P:=P) w T ty e i (hk.und hT) (hk.get hi) g sl cap cur ho.2 ad q c cs hl hnews h1 hroom hfit
 have hsv':a.eval s = .slice (some ⟨g,0,none⟩) sl cap:=(ev_run ha hs).trans hsv
 have hxv':a.eval x = .slice (some ad) q c:=(ev_run ha hx).trans hxv
 unfold Oper.wp
 have:(execOp a.eval ⟨some d,.call ⟨.builtin .append,#[s,x],#[T,T]⟩,ty,ps,af,gd⟩).run P w = .ok (.value (.slice (some ⟨g,0,none⟩) (sl+q) cap)) (w.setRow g (putC cur (sl*i.size) cs)):=by
  simp only [execOp,resolve,invoke,builtin,Sem.run_bind,Sem.run_pure,Result.andThen_ok,List.map_toArray,List.map_cons,List.map_nil,hsv',hxv',hrun]
  rfl
 rw [this]
 obtain ⟨h2,h3⟩:=hst.put (w':=w.setRow g (putC cur (sl*i.size) cs)) hH rfl
 refine ⟨(),?_,by rw [← hm];exact h2,h3⟩
 rw [kn_cons];exact ha.put hdn _
theorem OpGo.clearRaw (hk:tb.Ok P) {id g:Nat} {x:Operand} {T e:TypeId} {ty:TypeId} {ps:String} {af:Array Edge} {gd:Option (Nat × Bool)} {ex:EV} {off q c:Nat} {cur:Array Value} {i:TypeInfo} {z:Value}
  (hT:tb.und T=some (.slice e)) (hi:tb.get e=some i) (hz:i.zero=some z) (hx:evE env x=some ex) (hxv:ex.v = .slice (some ⟨g,off,none⟩) (q+1) c)
  (hH:loH H id=some (.obj g (.cells cur e))) (h1:∀ u ∈ (Builtin.zeroCells z.cells (q+1)).toList,u.oneCell'=true) (hfit:off+(Builtin.zeroCells z.cells (q+1)).toList.length ≤ cur.size) :
  OpGo P tb B0 n ⟨none,.call ⟨.builtin .clear,#[x],#[T]⟩,ty,ps,af,gd⟩ env H m I (λ_:Unit=>env) (λ_=>(id,some (.obj g (.cells (putC cur off (Builtin.zeroCells z.cells (q+1)).toList) e))) :: H) (λ_=>I):=by
 intro w a hm hst ha
 have ho:=hst.holds id _ hH
 have hu:=run_underlying (hk.und hT) w
 have hzv:(zeroValue e).run P w = .ok z w:=by
  have:=hk.get hi
  simp [zeroValue,typeInfo,program,Sem.run,this,hz]
 have hstc:=run_storeCells_at P g off e _ 0 cur w ho.2 (by simpa using hfit) h1
 simp only [Nat.add_zero] at hstc
 have hrun:(Builtin.clear_ #[T] ty #[.slice (some ⟨g,off,none⟩) (q+1) c]).run P w = .ok (.tuple #[]) (w.setRow g (putC cur off (Builtin.zeroCells z.cells (q+1)).toList)):=by
  simp only [Builtin.clear_,Sem.run_bind,List.getElem?_toArray,List.getElem?_cons_zero,hu,Result.andThen_ok,Sem.run_pure,hzv]
  simp [hstc,putC]
 have hxv':a.eval x = .slice (some ⟨g,off,none⟩) (q+1) c:=(ev_run ha hx).trans hxv
 unfold Oper.wp
 have:(execOp a.eval ⟨none,.call ⟨.builtin .clear,#[x],#[T]⟩,ty,ps,af,gd⟩).run P w = .ok (.value (.tuple #[])) (w.setRow g (putC cur off (Builtin.zeroCells z.cells (q+1)).toList)):=by
  simp only [execOp,resolve,invoke,builtin,Sem.run_bind,Sem.run_pure,Result.andThen_ok,List.map_toArray,List.map_cons,List.map_nil,hxv',hrun]
 rw [this]
 obtain ⟨h2,h3⟩:=hst.put (w':=w.setRow g (putC cur off (Builtin.zeroCells z.cells (q+1)).toList)) hH rfl
 exact ⟨(),ha,by rw [← hm];exact h2,h3⟩
end
end Go.Proofs.YtbfjmimiigjenaaGreatDoor.V
