/-
Lemmas. No condition.
-/
import Derived.Maps.AppendAt
import Derived.Laws.RangeAny
import Derived.Lib.OthersKept
import Derived.Test.YtbfjmimiigjenaaGreatDoorKVOwn
set_option linter.unusedVariables false
set_option linter.unusedSectionVars false
set_option linter.unusedSimpArgs false
namespace Go.Proofs.YtbfjmimiigjenaaGreatDoor.V
open Go Go.RowKit
section
variable {P:Program} {f:Fr} {n:Nat} {S:Stops} {R:Ending->World->Prop} {tb:TT} {B0:Nat} {I:World->Prop} {H:Heap} {nx m:Nat} {env:SEnv} {todo k:List Item}
def ptrE:Option EV->Option Addr
 | some (.av (.val (.pointer p)))=>p
 | some (.av (.box _ b off))=>some ⟨b,off,none⟩
 | _=>none
theorem ptrE_ok {x:Operand} {p:Addr} (h:ptrE (evE env x)=some p):∃ ex,evE env x=some ex/\ex.v = .pointer (some p):=by
 unfold ptrE at h
 split at h
 ·rename_i q hq;subst h;exact ⟨_,hq,rfl⟩
 ·rename_i q b off hq;injection h with h;subst h;exact ⟨_,hq,rfl⟩
 ·cases h
def fnE:Option EV->Option (FuncId × List Value × List Value)
 | some (.av (.val (.func (.func g) a b)))=>some (g,a.toList,b.toList)
 | some (.av (.fn (.func g) a b))=>some (g,a.map CV.v,b.map CV.v)
 | _=>none
theorem fnE_ok {x:Operand} {g:FuncId} {a b:List Value} (h:fnE (evE env x)=some (g,a,b)):∃ ex,evE env x=some ex/\ex.v = .func (.func g) a.toArray b.toArray:=by
 unfold fnE at h
 split at h
 ·rename_i q y z hq
  injection h with h
  simp only [Prod.mk.injEq] at h
  obtain ⟨rfl,rfl,rfl⟩:=h
  exact ⟨_,hq,by simp [EV.v,AV.v]⟩
 ·rename_i q y z hq
  injection h with h
  simp only [Prod.mk.injEq] at h
  obtain ⟨rfl,rfl,rfl⟩:=h
  exact ⟨_,hq,rfl⟩
 ·cases h
def sliE:Option EV->Option (Option Addr × Nat × Nat)
 | some (.av (.val (.slice a n c)))=>some (a,n,c)
 | some (.av (.row _ (.slice a n c)))=>some (a,n,c)
 | _=>none
theorem sliE_ok {x:Operand} {A:Option Addr} {q c:Nat} (h:sliE (evE env x)=some (A,q,c)):∃ ex,evE env x=some ex/\ex.v = .slice A q c:=by
 unfold sliE at h
 split at h
 ·rename_i a n c' hq
  injection h with h
  simp only [Prod.mk.injEq] at h
  obtain ⟨rfl,rfl,rfl⟩:=h
  exact ⟨_,hq,rfl⟩
 ·rename_i i a n c' hq
  injection h with h
  simp only [Prod.mk.injEq] at h
  obtain ⟨rfl,rfl,rfl⟩:=h
  exact ⟨_,hq,rfl⟩
 ·cases h
def OpGo (P:Program) (tb:TT) (B0 n:Nat) (o:Oper) (env:SEnv) (H:Heap) (m:Nat) (I:World->Prop) {α:Type} (E:α->SEnv) (G:α->Heap) (F:α->World->Prop):Prop :=
 ∀ w a,w.heap.size=m->St tb B0 H I w->Agree n a (kn env)->o.wp P a w (λa' w'=>∃ x,Agree n a' (kn (E x))/\m ≤ w'.heap.size/\St tb B0 (G x) (F x) w') (λ_ _ _=>False)
theorem wp_no {o:Oper} {a:Act} {w:World} {K K':Act->World->Prop} {Q:Exit->Act->World->Prop} (h:∀ a w,K a w->K' a w) (hh:o.wp P a w K (λ_ _ _=>False)):o.wp P a w K' Q:=by
 unfold Oper.wp at *
 generalize (execOp a.eval o).run P w=r at *
 cases r with
 | ok n w' =>
  cases n<;>simp only [Oper.upon] at hh ⊢ <;>
   first
    | exact h _ _ hh
    | exact hh.elim
    | exact Calls.mono hh (λe w'' he=>by
      cases e with
      | returned v=>exact h _ _ he
      | panicked c=>exact False.elim he
      | outgrown=>obtain ⟨_,_,hq⟩:=he;exact hq.elim)
    | exact Rows.mono hh (λ_ _ he=>h _ _ he)
 | halt x w'=>cases x<;>simp only [Oper.upon] at hh ⊢<;>exact hh.elim
variable {α:Type} {E:α->SEnv} {G:α->Heap} {F:α->World->Prop} {ops:Array Oper} {i:Nat} {l:List Bool} {o:Oper}
theorem RH.go {rs:List Nat} (ho:ops.toList[i]? = some o) (hw:wantE env ops o.guard = .yes) (h:OpGo P tb B0 n o env H m I E G F) (nx':Nat)
  (hk:∀ x m',m ≤ m'->RH P f n tb B0 S R (.inRegion ops rs :: k) (E x) (G x) nx' m' (F x)):RH P f n tb B0 S R (.inRegion ops (i :: rs) :: k) env H nx m I:=by
 intro w hm hst
 rw [Array.getElem?_toList] at ho
 refine Run.op ho (λa ha=>wantE_yes hw ha) λa ha=>?_
 refine Oper.wp_mono ?_ (h w a hm hst ha)
 rintro a' w' ⟨x,ha',hm',hst'⟩
 exact ⟨_,ha',hk x _ hm' w' rfl hst'⟩
theorem opD_go {G0:Heap} {I0:World->Prop} {fuel:Nat} (ho:ops.toList[i]? = some o) (hw:wantE env ops o.guard = .yes) (h:OpGo P tb B0 n o env H m I E G F) (nx':Nat)
  (hG:∀ x,SubH G0 (G x)) (hI:∀ x w,F x w->I0 w)
  (hk:∀ x m',m ≤ m'->RD P f n tb B0 S R k ops G0 I0 fuel (l.set i true) (E x) (G x) nx' m' (F x)) :
  ∀ w a,w.heap.size=m->St tb B0 H I w->Agree n a (kn env)->wpOp P ops (QD P f n S R k) i (λa' w'=>St tb B0 G0 I0 w'/\wpAnyH P .any ops (QD P f n S R k) (St tb B0 G0 I0) fuel (l.set i true).toArray a' w') a w:=by
 intro w a hm hst ha
 rw [Array.getElem?_toList] at ho
 unfold wpOp
 simp only [ho,wantE_yes hw ha,if_true]
 refine .inl (wp_no ?_ (h w a hm hst ha))
 rintro a' w' ⟨x,ha',hm',hst'⟩
 have hst0:St tb B0 G0 I0 w':=(hst'.sub (hG x)).mono λw'' _=>hI x w''
 exact ⟨hst0,hk x _ hm' w' a' rfl hst' hst0 ha'⟩
theorem RD.go {G0:Heap} {I0:World->Prop} {fuel:Nat} (ho:ops.toList[i]? = some o) (hr:Region.ready .any ops l.toArray=[i]) (hw:wantE env ops o.guard = .yes) (h:OpGo P tb B0 n o env H m I E G F) (nx':Nat)
  (hG:∀ x,SubH G0 (G x)) (hI:∀ x w,F x w->I0 w)
  (hk:∀ x m',m ≤ m'->RD P f n tb B0 S R k ops G0 I0 fuel (l.set i true) (E x) (G x) nx' m' (F x)):RD P f n tb B0 S R k ops G0 I0 (fuel+1) l env H nx m I:=by
 have ho':=ho
 rw [Array.getElem?_toList] at ho'
 exact RD.only ho' hr (opD_go ho hw h nx' hG hI hk)
theorem RD.last {G0:Heap} {I0:World->Prop} (ho:ops.toList[i]? = some o) (hr:Region.ready .any ops l.toArray=[i]) (hw:wantE env ops o.guard = .yes) (hf:finB ops i=true) (h:OpGo P tb B0 n o env H m I E G F) (nx':Nat)
  (hl:Region.ready .any ops (l.set i true).toArray=[])
  (hk:∀ x m',m ≤ m'->RH P f n tb B0 S R k (E x) (G x) nx' m' (F x)):RD P f n tb B0 S R k ops G0 I0 (0+1) l env H nx m I:=by
 intro w a hm hst hst0 ha hc
 refine ⟨λh0=>(by rw [hr] at h0;cases h0),λj hj=>?_⟩
 have hj:j=i:=by rw [hr] at hj;simpa using hj
 subst hj
 rw [Array.getElem?_toList] at ho
 unfold wpOp
 simp only [ho,wantE_yes hw ha,if_true]
 refine .inl (wp_no ?_ (h w a hm hst ha))
 rintro a' w' ⟨x,ha',hm',hst'⟩
 refine ⟨.inr (.inl (finB_ok hf)),λ_=>⟨by simpa using hl,λcs=>hk x _ hm' w' rfl hst' cs a' ha'⟩⟩
def RunL (P:Program) (f:Fr) (n:Nat) (tb:TT) (B0:Nat) (S:Stops) (R:Ending->World->Prop) (k:List Item) (ops:Array Oper) (X:World->Prop) (fuel:Nat) (l:List Bool) (env:SEnv) (H:Heap) (nx m:Nat) (I:World->Prop):Prop :=
 ∀ w a,w.heap.size=m->St tb B0 H I w->Agree n a (kn env)->wpAnyH P .any ops (QD P f n S R k) X fuel l.toArray a w
theorem RunL.d {G0:Heap} {I0:World->Prop} {fuel:Nat} (h:RunL P f n tb B0 S R k ops (St tb B0 G0 I0) fuel l env H nx m I):RD P f n tb B0 S R k ops G0 I0 fuel l env H nx m I:=λw a hm hst _ ha=>h w a hm hst ha
theorem RunL.go {X:World->Prop} {fuel:Nat} (ho:ops.toList[i]? = some o) (hr:Region.ready .any ops l.toArray=[i]) (hw:wantE env ops o.guard = .yes) (hf:finC ops i=true) (h:OpGo P tb B0 n o env H m I E G F) (nx':Nat)
  (hk:∀ x m',m ≤ m'->RunL P f n tb B0 S R k ops X fuel (l.set i true) (E x) (G x) nx' m' (F x)):RunL P f n tb B0 S R k ops X (fuel+1) l env H nx m I:=by
 intro w a hm hst ha hc
 refine ⟨λh0=>(by rw [hr] at h0;cases h0),λj hj=>?_⟩
 have hj:j=i:=by rw [hr] at hj;simpa using hj
 subst hj
 rw [Array.getElem?_toList] at ho
 unfold wpOp
 simp only [ho,wantE_yes hw ha,if_true]
 refine .inl (wp_no ?_ (h w a hm hst ha))
 rintro a' w' ⟨x,ha',hm',hst'⟩
 exact ⟨.inr (.inl (finC_ok hf)),by simpa using hk x _ hm' w' a' rfl hst' ha'⟩
theorem RunL.done {X:World->Prop} (hl:Region.ready .any ops l.toArray=[]) (hk:RH P f n tb B0 S R k env H nx m I):RunL P f n tb B0 S R k ops X 0 l env H nx m I :=
 λw a hm hst ha _=>⟨hl,λcs=>hk w hm hst cs a ha⟩
theorem OpGo.step (hk:tb.Ok P) {v:Option EV} {H':Heap} {nx' m':Nat} {ob:List Ob} {eq:List Eqn} (hs:stepOp tb env H nx m [] [] o.op=some (v,H',nx',m',ob,eq)) (heq:AllEqn eq) (hob:AllOb ob) (hm:m ≤ m') {env':SEnv} (hv:OutOk n v o.dst env env') :
  OpGo P tb B0 n o env H m I (λ_:Unit=>env') (λ_=>H') (λ_=>I):=by
 intro w a hmw hst ha
 unfold OutOk at hv
 obtain ⟨w',q1,q2,q3,_⟩:=stepOp_ok hk ha hst hmw hs hob heq
 unfold Oper.wp
 rw [q1]
 cases v with
 | none =>
  cases hd:o.dst with
  | none =>
   rw [hd] at hv
   have hv:env'=env:=hv
   subst hv
   exact ⟨(),by rw [hd];exact ha,by omega,q2⟩
  | some d=>rw [hd] at hv;exact hv.elim
 | some e =>
  cases hd:o.dst with
  | none=>rw [hd] at hv;exact hv.elim
  | some d =>
   rw [hd] at hv
   obtain ⟨hdn,rfl⟩:=hv
   refine ⟨(),?_,by omega,q2⟩
   rw [kn_cons,hd]
   exact ha.put (Nat.lt_of_lt_of_le (Nat.lt_succ_self d) (Nat.le_of_ble_eq_true hdn)) _
theorem RunL.step (hk:tb.Ok P) {X:World->Prop} {fuel:Nat} {v:Option EV} {H':Heap} {nx' m':Nat} {ob:List Ob} {eq:List Eqn} (ho:ops.toList[i]? = some o) (hr:Region.ready .any ops l.toArray=[i]) (hw:wantE env ops o.guard = .yes) (hf:finC ops i=true)
  (hs:stepOp tb env H nx m [] [] o.op=some (v,H',nx',m',ob,eq)) (heq:AllEqn eq) (hob:AllOb ob) (hm:m ≤ m') {env':SEnv} (hv:OutOk n v o.dst env env')
  (h:∀ m1,m ≤ m1->RunL P f n tb B0 S R k ops X fuel (l.set i true) env' H' nx' m1 I):RunL P f n tb B0 S R k ops X (fuel+1) l env H nx m I :=
 RunL.go ho hr hw hf (OpGo.step hk hs heq hob hm hv) nx' λ_=>h
theorem RD.step (hk:tb.Ok P) {G0:Heap} {I0:World->Prop} {fuel:Nat} {v:Option EV} {H':Heap} {nx' m':Nat} {ob:List Ob} {eq:List Eqn} (ho:ops.toList[i]? = some o) (hr:Region.ready .any ops l.toArray=[i]) (hw:wantE env ops o.guard = .yes)
  (hs:stepOp tb env H nx m [] [] o.op=some (v,H',nx',m',ob,eq)) (heq:AllEqn eq) (hob:AllOb ob) (hG:SubH G0 H') (hI:∀ w,I w->I0 w) {env':SEnv}
  (hv:OutOk n v o.dst env env')
  (h:RD P f n tb B0 S R k ops G0 I0 fuel (l.set i true) env' H' nx' m' I):RD P f n tb B0 S R k ops G0 I0 (fuel+1) l env H nx m I:=by
 have ho':=ho
 rw [Array.getElem?_toList] at ho'
 exact RD.only ho' hr (opD_step hk ho hw hs heq hob hG hI hv h)
theorem RD.tell {G0:Heap} {I0:World->Prop} {fuel:Nat} (E:SEnv) (G:Heap) (σ:List (Nat × Nat)) (hs:Sub E (kn env)) (hG:SelEq G H σ) (hn:nodupN (G.map λp=>ren σ p.1)=true) (nx':Nat)
  (hr:RD P f n tb B0 S R k ops G0 I0 fuel l E G nx' m I):RD P f n tb B0 S R k ops G0 I0 fuel l env H nx m I :=
 λw a hm hst hst0 ha=>hr w a hm (hst.sel (Sel.of σ hG hn)) hst0 (ha.weak hs.le)
theorem St.loadBox {w:World} {id b:Nat} {fs:List AV} {T:TypeId} {e:EV} (hk:tb.Ok P) (h:St tb B0 H I w) (hH:loH H id=some (.box b fs T)) (he:fieldsE tb T e=some fs) :
  ∀ w',Ext w w'->(loadVar T ⟨b,0,none⟩).run P w' = .ok e.v w':=by
 intro w' hx
 have hh:=(h.ext hx).holds id _ hH
 obtain ⟨h1,h2⟩:=Fit.vok hk hh.2.2 he
 exact load_whole hk hh h1 h2
theorem RH.retBox {g:FuncId} {fn:Func} {t:Tmp} {T:TypeId} {id b:Nat} {fs:List AV} (hk:tb.Ok P) (e:EV) (hf:P.funcs[g]? = some fn) (hr:fn.results = #[.cell t T]) (hl:lookE env t=some (.av (.box id b 0))) (hH:loH H id=some (.box b fs T)) (he:fieldsE tb T e=some fs)
  (hR:∀ w,St tb B0 H I w->R (.returned e.v) w):RH P (fr g) n tb B0 S R (.code .ret :: k) env H nx m I:=by
 intro w _ hst
 refine Run.ret hf (λa ha=>resultsC hr (by rw [kn_look hl ha];rfl) ?_) (hR w hst)
 have hh:=hst.holds id _ hH
 obtain ⟨h1,h2⟩:=Fit.vok hk hh.2.2 he
 exact load_whole hk hh h1 h2
theorem RH.retBoxT {g:FuncId} {fn:Func} {t u:Tmp} {T:TypeId} {id b:Nat} {fs:List AV} (hk:tb.Ok P) (e:EV) {e2:EV} (hf:P.funcs[g]? = some fn) (hr:fn.results = #[.cell t T,.tmp u]) (hl:lookE env t=some (.av (.box id b 0))) (hH:loH H id=some (.box b fs T)) (he:fieldsE tb T e=some fs) (hu:lookE env u=some e2)
  (hR:∀ w,St tb B0 H I w->R (.returned (.tuple #[e.v,e2.v])) w):RH P (fr g) n tb B0 S R (.code .ret :: k) env H nx m I:=by
 intro w _ hst
 refine Run.ret hf (λa ha=>resultsCt hr (by rw [kn_look hl ha];rfl) ?_ (kn_look hu ha)) (hR w hst)
 have hh:=hst.holds id _ hH
 obtain ⟨h1,h2⟩:=Fit.vok hk hh.2.2 he
 exact load_whole hk hh h1 h2
theorem RH.tell (E:SEnv) (G:Heap) (σ:List (Nat × Nat)) (hs:Sub E (kn env)) (hG:SelEq G H σ) (hn:nodupN (G.map λp=>ren σ p.1)=true) (nx':Nat)
  (hr:RH P f n tb B0 S R todo E G nx' m I):RH P f n tb B0 S R todo env H nx m I :=
 λw hm hst=>Run.weaken _ hs.le (hr w hm (hst.sel (Sel.of σ hG hn)))
theorem RH.nilrow (id:Nat) (e:TypeId) (sz nx':Nat) (hr:RH P f n tb B0 S R todo env ((id,some (.row (.slice none 0 0) e sz 0 [])) :: H) nx' m I):RH P f n tb B0 S R todo env H nx m I :=
 λw hm hst=>hr w hm (hst.push (Ext.rfl' w) id _ (World.ownsRow_nil w B0 e sz) λ_ h=>by cases h)
def Does (P:Program) (tb:TT) (g:FuncId) (args:List Value) (G:Heap) (pre:World->Prop) {α:Type} (V:α->Value) (G':α->Heap) (J:α->Nat->World->Prop):Prop :=
 ∀ B0 w K,St tb B0 G K w->(∀ u,K u->pre u)->Calls P g args.toArray w (λr w'=>∃ x,r = .returned (V x)/\St tb B0 (G' x) (λu=>K u/\J x w.heap.size u) w')
theorem Does.enter {g:FuncId} {fn:Func} {c:Code} {args:List Value} {G:Heap} {pre:World->Prop} {V:α->Value} {G':α->Heap} {J:α->Nat->World->Prop} (_:tb.Ok P) (E:SEnv) (hf:P.funcs[g]? = some fn) (hb:fn.body=some c) (hn:fn.ntmps=n)
  (hl:Nat.ble args.length n=true) (hE:Sub E (λt=>args[t]?)) (nx:Nat)
  (h:∀ (B0 m:Nat) (K:World->Prop),RH P (fr g) n tb B0 [] (λr w'=>∃ x,r = .returned (V x)/\St tb B0 (G' x) (λu=>K u/\J x m u) w') [.code c] E G nx m (λu=>K u/\pre u)):Does P tb g args G pre V G' J:=by
 intro B0 w K hst hp
 refine YtbfjmimiigjenaaGreatDoor.V.enter (f:=g) (n:=n) hf hb hn hl (Run.weaken _ hE.le (h B0 w.heap.size K w rfl (hst.mono λu _ hk=>⟨hk,hp u hk⟩)))
theorem call_run {d:Option Nat} {fo:Operand} {args:Array Operand} {tys:Array TypeId} {ty:TypeId} {ps:String} {af:Array Edge} {gd:Option (Nat × Bool)} {g:FuncId} {es:List EV} {e:EV} {f1 c1:List Value}
  {a:Act} (ha:Agree n a (kn env)) (hf:evE env fo=some e) (hev:e.v = .func (.func g) f1.toArray c1.toArray) (hes:evsE env args.toList=some es)
  (hc:∀ (xs:Array Value) w,(callFunc g xs).run P w = .ok (.enter g xs) w) (w:World) :
  (execOp a.eval ⟨d,.call ⟨.value fo,args,tys⟩,ty,ps,af,gd⟩).run P w = .ok (.enter g (f1 ++ es.map EV.v ++ c1).toArray) w:=by
 have h1:=evsE_eq ha hes
 have h2:args.map a.eval=(es.map EV.v).toArray:=by rw [← h1,← Array.toList_map]
 simp only [execOp,resolve,Deferred.ofValue,ev_run ha hf,hev,h2,Sem.run_bind,Sem.run_pure,Result.andThen_ok,invoke]
 rw [hc]
 simp
theorem OpGo.does {d:Nat} {fo:Operand} {args:Array Operand} {tys:Array TypeId} {ty:TypeId} {ps:String} {af:Array Edge} {gd:Option (Nat × Bool)} {g:FuncId} {es:List EV} {ef:EV} {f1 c1:List Value}
  {Gi:Heap} {pre:World->Prop} {V:α->Value} {G':α->Heap} {J:α->Nat->World->Prop} [∀ x,From (J x)] (σ:List (Nat × Nat)) (e:α->EV) (G2:α->Heap) (τ:List (Nat × Nat))
  (hd:Nat.blt d n=true) (hf:evE env fo=some ef) (hev:ef.v = .func (.func g) f1.toArray c1.toArray) (hes:evsE env args.toList=some es)
  (hc:∀ (xs:Array Value) w,(callFunc g xs).run P w = .ok (.enter g xs) w)
  (hC:Does P tb g (f1 ++ es.map EV.v ++ c1) Gi pre V G' J)
  (hσ:SelEq Gi H σ) (hn:nodupN (Gi.map λp=>ren σ p.1)=true) (hp:∀ u,St tb B0 (rest Gi H σ) I u->pre u)
  (hV:∀ x,V x=(e x).v) (hτ:∀ x,SelEq (G2 x) (comb (G' x) (rest Gi H σ)) τ) (hτn:∀ x,nodupN ((G2 x).map λp=>ren τ p.1)=true) :
  OpGo P tb B0 n ⟨some d,.call ⟨.value fo,args,tys⟩,ty,ps,af,gd⟩ env H m I (λx=>(d,e x) :: env) G2 (λx u=>I u/\J x m u):=by
 intro w a hm hst ha
 have hdn:d < n:=Nat.lt_of_lt_of_le (Nat.lt_succ_self d) (Nat.le_of_ble_eq_true hd)
 unfold Oper.wp
 rw [call_run ha hf hev hes hc]
 have hl:=hst.lend σ (Sel.of σ hσ hn)
 refine (hC B0 w _ hl λu hu=>hp u hu.2).mono ?_
 rintro r w' ⟨x,rfl,hst'⟩
 subst hm
 have hb:=St.back (R:=rest Gi H σ) (J:=J x) (m:=w.heap.size) (λj z hz b hb=>(HE.lt (hst.holds j z (rest_some hz).1) hb).2) hst'
 refine ⟨x,?_,hst'.fact.1.1,hb.sel (Sel.of τ (hτ x) (hτn x))⟩
 rw [kn_cons,← hV x]
 exact ha.put hdn _
theorem OpGo.gives {d:Nat} {fo:Operand} {args:Array Operand} {tys:Array TypeId} {ty:TypeId} {ps:String} {af:Array Edge} {gd:Option (Nat × Bool)} {g:FuncId} {es:List EV} {ef:EV} {f1 c1:List Value} (e:EV)
  (hd:Nat.blt d n=true) (hf:evE env fo=some ef) (hev:ef.v = .func (.func g) f1.toArray c1.toArray) (hes:evsE env args.toList=some es)
  (hc:∀ (xs:Array Value) w,(callFunc g xs).run P w = .ok (.enter g xs) w)
  (hC:∀ w,St tb B0 H I w->Gives P g (f1 ++ es.map EV.v ++ c1) w e) :
  OpGo P tb B0 n ⟨some d,.call ⟨.value fo,args,tys⟩,ty,ps,af,gd⟩ env H m I (λ_:Unit=>(d,e) :: env) (λ_=>H) (λ_=>I):=by
 intro w a hm hst ha
 have hdn:d < n:=Nat.lt_of_lt_of_le (Nat.lt_succ_self d) (Nat.le_of_ble_eq_true hd)
 unfold Oper.wp
 rw [call_run ha hf hev hes hc]
 refine (hC w hst).mono ?_
 rintro r w' ⟨rfl,he⟩
 subst hm
 refine ⟨(),?_,he.size,hst.ext he⟩
 rw [kn_cons]
 exact ha.put hdn _
theorem OpGo.read {d:Nat} (e:EV) (hdst:o.dst=some d) (hd:Nat.blt d n=true) (hv:∀ w a,St tb B0 H I w->Agree n a (kn env)->(execOp a.eval o).run P w = .ok (.value e.v) w) :
  OpGo P tb B0 n o env H m I (λ_:Unit=>(d,e) :: env) (λ_=>H) (λ_=>I):=by
 intro w a hm hst ha
 have hdn:d < n:=Nat.lt_of_lt_of_le (Nat.lt_succ_self d) (Nat.le_of_ble_eq_true hd)
 unfold Oper.wp
 rw [hv w a hst ha]
 refine ⟨(),?_,by rw [hm];exact Nat.le_refl _,hst⟩
 rw [kn_cons,hdst]
 exact ha.put hdn _
theorem OpGo.load {d:Nat} {T:TypeId} {x:Operand} {ty:TypeId} {ps:String} {af:Array Edge} {gd:Option (Nat × Bool)} {ex:EV} {p:Addr} (e:EV) (hd:Nat.blt d n=true) (hx:evE env x=some ex) (hxp:ex.v = .pointer (some p))
  (hv:∀ w,St tb B0 H I w->(loadVar T p).run P w = .ok e.v w):OpGo P tb B0 n ⟨some d,.load T x,ty,ps,af,gd⟩ env H m I (λ_:Unit=>(d,e) :: env) (λ_=>H) (λ_=>I) :=
 OpGo.read e rfl hd λw a hst ha=>by simp [execOp,Instr.loadAt,ev_run ha hx,hxp,Instr.sureAddr,hv w hst]
theorem OpGo.store {T:TypeId} {x y:Operand} {ty:TypeId} {ps:String} {af:Array Edge} {gd:Option (Nat × Bool)} {ex ey:EV} {p:Addr} {H':Heap} (hx:evE env x=some ex) (hxp:ex.v = .pointer (some p)) (hy:evE env y=some ey)
  (hv:∀ w,w.heap.size=m->St tb B0 H I w->∃ w',(storeVar T p ey.v).run P w = .ok () w'/\w.heap.size ≤ w'.heap.size/\St tb B0 H' I w') :
  OpGo P tb B0 n ⟨none,.store T x y,ty,ps,af,gd⟩ env H m I (λ_:Unit=>env) (λ_=>H') (λ_=>I):=by
 intro w a hm hst ha
 obtain ⟨w',h1,h2,h3⟩:=hv w hm hst
 unfold Oper.wp
 have:(execOp a.eval ⟨none,.store T x y,ty,ps,af,gd⟩).run P w = .ok .skip w':=by
  simp [execOp,Instr.storeAt,ev_run ha hx,ev_run ha hy,hxp,Instr.sureAddr,h1]
 rw [this]
 exact ⟨(),ha,by rw [← hm];exact h2,h3⟩
theorem agr_grown {w w':World} {r:Option Nat} (h:w.grownBy w' r):Agr (λk=>r=some k) w w' :=
 ⟨h.os,h.tape,h.output,h.size,λk hk hr=>h.block k hk λe=>hr e.symm⟩
structure Lies (w:World) (A:Option Addr) (c:Nat) (cs:List Value):Prop where
 nil:A=none->cs=[]/\c=0
 addr:cs ≠ []->Ptr A
 cells:w.rangeAt (blkA A) (offA A) cs
structure ElT (tb:TT) (e:TypeId) (sz by_:Nat):Prop where
 ok:∃ i z,tb.get e=some i/\i.zero=some z/\i.size=sz/\i.bytes=by_/\z.cells.size=sz
 pos:0 < sz
theorem OpGo.append (hk:tb.Ok P) {d id:Nat} {s x:Operand} {T ty e:TypeId} {ps:String} {af:Array Edge} {gd:Option (Nat × Bool)} {v:Value} {sz by_ q c:Nat} {p:Nat} {xs news:List Value} {ex:EV} {A:Option Addr}
  (hd:Nat.blt d n=true) (hT:tb.und T=some (.slice e)) (hel:ElT tb e sz by_)
  (hs:evE env s=some (.av (.row id v))) (hH:loH H id=some (.row v e sz p xs)) (hx:evE env x=some ex) (hxv:ex.v = .slice A q c)
  (hl:news.length=q*sz) (h1:∀ u ∈ news,u.oneCell'=true) (hn:∀ w,St tb B0 H I w->Lies w A c news) (hb:(p+q)*by_ ≤ 140737488355328) (h63:p+q ≤ maxLen) :
  OpGo P tb B0 n ⟨some d,.call ⟨.builtin .append,#[s,x],#[T,T]⟩,ty,ps,af,gd⟩ env H m I (λy:Option Addr × Nat=>(d,.av (.row id (.slice y.1 (p+q) y.2))) :: env)
   (λy=>(id,some (.row (.slice y.1 (p+q) y.2) e sz (p+q) (xs ++ news))) :: H) (λ_=>I):=by
 intro w a hm hst ha
 have hdn:d < n:=Nat.lt_of_lt_of_le (Nat.lt_succ_self d) (Nat.le_of_ble_eq_true hd)
 obtain ⟨i,z,hi,hz,hsz,hby,hzs⟩:=hel.ok
 have hown:w.ownsRow B0 e sz v p xs:=hst.holds id _ hH
 have hlies:=hn w hst
 have key:∃ v' w',(Builtin.append_ #[T,T] ty #[v,.slice A q c]).run P w = .ok v' w'/\w'.ownsRow B0 e sz v' (p+q) (xs ++ news)/\w.grownBy w' v.ownBlock/\(v'.ownBlock=v.ownBlock ∨ v'.ownBlock=some w.heap.size):=by
  cases A with
  | none =>
   obtain ⟨rfl,rfl⟩:=hlies.nil rfl
   have hq:q=0:=by
    rcases Nat.eq_zero_or_pos q with h|h
    ·exact h
    ·have:=Nat.mul_pos h hel.pos
     simp at hl;omega
   subst hq
   refine ⟨v,w,run_append_owned_none w B0 T ty e i sz (hk.und hT) (hk.get hi) v p xs hown,by simpa using hown,⟨rfl,rfl,rfl,Nat.le_refl _,λ_ _ _=>rfl⟩,.inl rfl⟩
  | some ad =>
   have hnews:∀ j u,news[j]? = some u->w.cell? (ad.add j)=some u:=by
    intro j u hu
    have hne:news ≠ []:=by rintro rfl;simp at hu
    have hp:=hlies.addr hne
    unfold Ptr at hp
    injection hp with hp
    have:=hlies.cells j u hu
    rw [hp,Addr.add_lit]
    exact this
   obtain ⟨v',w',hr,h2,h3,_,h5⟩:=run_append_own_at (P:=P) w B0 T ty e i z sz by_ (hk.und hT) (hk.get hi) hz hsz hby hzs hel.pos v p xs hown ad q c news hl hnews h1 h63 hb hst.base
   exact ⟨v',w',hr,h2,h3,h5⟩
 obtain ⟨v',w',hr,h2,h3,h5⟩:=key
 obtain ⟨A',c',rfl⟩:=ownsRow_len h2
 unfold Oper.wp
 have:(execOp a.eval ⟨some d,.call ⟨.builtin .append,#[s,x],#[T,T]⟩,ty,ps,af,gd⟩).run P w = .ok (.value (.slice A' (p+q) c')) w':=by
  have hsv:a.eval s=v:=ev_run ha hs
  simp only [execOp,resolve,invoke,builtin,Sem.run_bind,Sem.run_pure,Result.andThen_ok,List.map_toArray,List.map_cons,List.map_nil,hsv,ev_run ha hx,hxv,hr]
 rw [this]
 refine ⟨(A',c'),?_,by rw [← hm];exact h3.size,?_⟩
 ·rw [kn_cons];exact ha.put hdn _
 ·refine hst.turn id _ _ hH (agr_grown h3) h2 λk hk'=>?_
  rcases h5 with h5|h5
  ·exact .inl (h5.symm.trans hk')
  ·right
   have:some k=some w.heap.size:=hk'.symm.trans h5
   injection this with this
   omega
theorem OpGo.boxRaw {d id:Nat} {T:TypeId} {x:Operand} {ty:TypeId} {ps:String} {af:Array Edge} {gd:Option (Nat × Bool)} {ex:EV} (hd:Nat.blt d n=true) (hx:evE env x=some ex) :
  OpGo P tb B0 n ⟨some d,.box T x,ty,ps,af,gd⟩ env H m I (λ_:Unit=>(d,.av (.box id m 0)) :: env) (λ_=>(id,some (.obj m (.cells ex.v.cells T))) :: H) (λ_=>I):=by
 intro w a hm hst ha
 have hdn:d < n:=Nat.lt_of_lt_of_le (Nat.lt_succ_self d) (Nat.le_of_ble_eq_true hd)
 have hxv:a.eval x=ex.v:=ev_run ha hx
 unfold Oper.wp
 have:(execOp a.eval ⟨some d,.box T x,ty,ps,af,gd⟩).run P w = .ok (.value (.pointer (some ⟨w.heap.size,0,none⟩))) (w.alloc (.cells ex.v.cells T)):=by
  simp only [execOp,hxv,Instr.box,Sem.run_bind,run_newVar',Result.andThen_ok,Sem.run_pure]
 rw [this]
 subst hm
 refine ⟨(),?_,by simp,hst.push (ext_alloc w _) id _ ⟨hst.base,heap_alloc_new w _⟩ λk hk=>?_⟩
 ·rw [kn_cons];exact ha.put hdn _
 ·injection hk with hk;omega
theorem OpGo.range (hk:tb.Ok P) {d id:Nat} {T:TypeId} {x:Operand} {ty:TypeId} {ps:String} {af:Array Edge} {gd:Option (Nat × Bool)} {s:List UInt8} (hd:Nat.blt d n=true) (hx:evE env x=some (.av (.val (.string ⟨⟨s⟩⟩)))) (hT:tb.und T=some .string) :
  OpGo P tb B0 n ⟨some d,.range T x,ty,ps,af,gd⟩ env H m I (λ_:Unit=>(d,.av (.box id m 0)) :: env) (λ_=>(id,some (.obj m (.stringIter ⟨⟨s⟩⟩ 0))) :: H) (λ_=>I):=by
 intro w a hm hst ha
 have hdn:d < n:=Nat.lt_of_lt_of_le (Nat.lt_succ_self d) (Nat.le_of_ble_eq_true hd)
 have hxv:a.eval x = .string ⟨⟨s⟩⟩:=ev_run ha hx
 unfold Oper.wp
 have:(execOp a.eval ⟨some d,.range T x,ty,ps,af,gd⟩).run P w = .ok (.value (.pointer (some ⟨w.heap.size,0,none⟩))) (w.iter ⟨⟨s⟩⟩ 0):=by
  simp only [execOp,hxv,Sem.run_bind,run_range_string w T _ (hk.und hT),Result.andThen_ok,Sem.run_pure]
 rw [this]
 subst hm
 refine ⟨(),?_,by simp [World.iter],hst.push (ext_alloc w _) id _ ⟨hst.base,World.iter_heap w _ _⟩ λk hk=>?_⟩
 ·rw [kn_cons];exact ha.put hdn _
 ·injection hk with hk;omega
theorem OpGo.next {d id b:Nat} {it:Operand} {ty:TypeId} {ps:String} {af:Array Edge} {gd:Option (Nat × Bool)} {s:ByteArray} {pos:Nat} (hd:Nat.blt d n=true) (hx:evE env it=some (.av (.box id b 0))) (hH:loH H id=some (.obj b (.stringIter s pos))) (h:pos < s.size) :
  OpGo P tb B0 n ⟨some d,.next it true,ty,ps,af,gd⟩ env H m I (λ_:Unit=>(d,.av (.val (.tuple #[.bool true,.int .i64 pos,.int .i32 (Utf8.decode s pos).1]))) :: env) (λ_=>(id,some (.obj b (.stringIter s (pos+(Utf8.decode s pos).2)))) :: H) (λ_=>I):=by
 intro w a hm hst ha
 have hdn:d < n:=Nat.lt_of_lt_of_le (Nat.lt_succ_self d) (Nat.le_of_ble_eq_true hd)
 have hxv:a.eval it = .pointer (some ⟨b,0,none⟩):=ev_run ha hx
 have hb:=(hst.holds id _ hH).2
 unfold Oper.wp
 have:(execOp a.eval ⟨some d,.next it true,ty,ps,af,gd⟩).run P w = .ok (.value (.tuple #[.bool true,.int .i64 pos,.int .i32 (Utf8.decode s pos).1])) (w.iterAt b s (pos+(Utf8.decode s pos).2)):=by
  simp only [execOp,hxv,Sem.run_bind,Lib.run_next_any_at w b s pos ty hb h,Result.andThen_ok,Sem.run_pure]
 rw [this]
 refine ⟨(),?_,by rw [Lib.iterAt_size,hm];exact Nat.le_refl _,hst.turn id _ _ hH ⟨rfl,rfl,rfl,by rw [Lib.iterAt_size];exact Nat.le_refl _,λk _ hk=>Lib.iterAt_other w b k s _ λe=>hk (by rw [e];rfl)⟩ ⟨(hst.holds id _ hH).1,Lib.iterAt_heap w b s pos _ hb⟩ λk hk=>.inl hk⟩
 rw [kn_cons];exact ha.put hdn _
theorem OpGo.nextEnd {d id b:Nat} {it:Operand} {ty:TypeId} {ps:String} {af:Array Edge} {gd:Option (Nat × Bool)} {s:ByteArray} {pos:Nat} (hd:Nat.blt d n=true) (hx:evE env it=some (.av (.box id b 0))) (hH:loH H id=some (.obj b (.stringIter s pos))) (h:¬ pos < s.size) :
  OpGo P tb B0 n ⟨some d,.next it true,ty,ps,af,gd⟩ env H m I (λ_:Unit=>(d,.av (.val (.tuple #[.bool false]))) :: env) (λ_=>H) (λ_=>I) :=
 OpGo.read (.av (.val (.tuple #[.bool false]))) rfl hd λw a hst ha=>by
  have hxv:a.eval it = .pointer (some ⟨b,0,none⟩):=ev_run ha hx
  have hb:=(hst.holds id _ hH).2
  simp only [execOp,hxv,Sem.run_bind,Lib.run_next_end_at w b s pos ty hb h,Result.andThen_ok,Sem.run_pure]
  rfl
section
variable {rs:List Nat} {d:Nat} {fo:Operand} {args:Array Operand} {tys:Array TypeId} {ty:TypeId} {ps:String} {af:Array Edge} {gd:Option (Nat × Bool)} {g:FuncId} {es:List EV} {f1 c1:List Value}
theorem RH.gives (e:EV) (ho:ops.toList[i]? = some ⟨some d,.call ⟨.value fo,args,tys⟩,ty,ps,af,gd⟩) (hw:wantE env ops gd = .yes) (hd:Nat.blt d n=true) (hf:fnE (evE env fo)=some (g,f1,c1)) (hes:evsE env args.toList=some es)
  (hc:∀ (xs:Array Value) w,(callFunc g xs).run P w = .ok (.enter g xs) w) (hC:∀ w,St tb B0 H I w->Gives P g (f1 ++ es.map EV.v ++ c1) w e)
  (hk:∀ m',m ≤ m'->RH P f n tb B0 S R (.inRegion ops rs :: k) ((d,e) :: env) H nx m' I):RH P f n tb B0 S R (.inRegion ops (i :: rs) :: k) env H nx m I :=
 let ⟨_,h1,h2⟩:=fnE_ok hf;RH.go ho hw (OpGo.gives e hd h1 h2 hes hc hC) nx λ_=>hk
theorem RH.does {Gi:Heap} {pre:World->Prop} {V:α->Value} {G':α->Heap} {J:α->Nat->World->Prop} [∀ x,From (J x)] (σ:List (Nat × Nat)) (e:α->EV) (G2:α->Heap) (τ:List (Nat × Nat)) (nx':Nat)
  (ho:ops.toList[i]? = some ⟨some d,.call ⟨.value fo,args,tys⟩,ty,ps,af,gd⟩) (hw:wantE env ops gd = .yes) (hd:Nat.blt d n=true) (hf:fnE (evE env fo)=some (g,f1,c1)) (hes:evsE env args.toList=some es)
  (hc:∀ (xs:Array Value) w,(callFunc g xs).run P w = .ok (.enter g xs) w) (hC:Does P tb g (f1 ++ es.map EV.v ++ c1) Gi pre V G' J)
  (hσ:SelEq Gi H σ) (hn:nodupN (Gi.map λp=>ren σ p.1)=true) (hp:∀ u,St tb B0 (rest Gi H σ) I u->pre u)
  (hV:∀ x,V x=(e x).v) (hτ:∀ x,SelEq (G2 x) (comb (G' x) (rest Gi H σ)) τ) (hτn:∀ x,nodupN ((G2 x).map λp=>ren τ p.1)=true)
  (hk:∀ x m',m ≤ m'->RH P f n tb B0 S R (.inRegion ops rs :: k) ((d,e x) :: env) (G2 x) nx' m' (λu=>I u/\J x m u)):RH P f n tb B0 S R (.inRegion ops (i :: rs) :: k) env H nx m I :=
 let ⟨_,h1,h2⟩:=fnE_ok hf;RH.go ho hw (OpGo.does σ e G2 τ hd h1 h2 hes hc hC hσ hn hp hV hτ hτn) nx' hk
theorem RH.loadS {T:TypeId} {x:Operand} {p:Addr} (e:EV) (ho:ops.toList[i]? = some ⟨some d,.load T x,ty,ps,af,gd⟩) (hw:wantE env ops gd = .yes) (hd:Nat.blt d n=true) (hx:ptrE (evE env x)=some p)
  (hv:∀ w,St tb B0 H I w->(loadVar T p).run P w = .ok e.v w)
  (hk:RH P f n tb B0 S R (.inRegion ops rs :: k) ((d,e) :: env) H nx m I):RH P f n tb B0 S R (.inRegion ops (i :: rs) :: k) env H nx m I:=by
 intro w hm hst
 obtain ⟨ex,h1,h2⟩:=ptrE_ok hx
 rw [Array.getElem?_toList] at ho
 have hdn:d < n:=Nat.lt_of_lt_of_le (Nat.lt_succ_self d) (Nat.le_of_ble_eq_true hd)
 refine Run.value ho rfl hdn (λa ha=>wantE_yes (o:=⟨some d,.load T x,ty,ps,af,gd⟩) hw ha) (v:=e.v) (w':=w) (λa ha=>by simp [execOp,Instr.loadAt,ev_run ha h1,h2,Instr.sureAddr,hv w hst]) ?_
 rw [← kn_cons]
 exact hk w hm hst
theorem RH.append (hk:tb.Ok P) {id:Nat} {s x:Operand} {T e:TypeId} {v:Value} {sz by_ q c p:Nat} {xs news:List Value} {A:Option Addr}
  (ho:ops.toList[i]? = some ⟨some d,.call ⟨.builtin .append,#[s,x],#[T,T]⟩,ty,ps,af,gd⟩) (hw:wantE env ops gd = .yes)
  (hd:Nat.blt d n=true) (hT:tb.und T=some (.slice e)) (hel:ElT tb e sz by_)
  (hs:evE env s=some (.av (.row id v))) (hH:loH H id=some (.row v e sz p xs)) (hx:sliE (evE env x)=some (A,q,c))
  (hl:news.length=q*sz) (h1:∀ u ∈ news,u.oneCell'=true) (hn:∀ w,St tb B0 H I w->Lies w A c news) (hb:(p+q)*by_ ≤ 140737488355328) (h63:p+q ≤ maxLen)
  (hk:∀ A' c' m',m ≤ m'->RH P f n tb B0 S R (.inRegion ops rs :: k) ((d,.av (.row id (.slice A' (p+q) c'))) :: env) ((id,some (.row (.slice A' (p+q) c') e sz (p+q) (xs ++ news))) :: H) nx m' I) :
  RH P f n tb B0 S R (.inRegion ops (i :: rs) :: k) env H nx m I :=
 let ⟨_,h1',h2'⟩:=sliE_ok hx;RH.go ho hw (OpGo.append ‹tb.Ok P› hd hT hel hs hH h1' h2' hl h1 hn hb h63) nx λy m' hm=>hk y.1 y.2 m' hm
theorem RH.range (id:Nat) (nx':Nat) {T:TypeId} {x:Operand} {s:List UInt8} (hk:tb.Ok P) (ho:ops.toList[i]? = some ⟨some d,.range T x,ty,ps,af,gd⟩) (hw:wantE env ops gd = .yes) (hd:Nat.blt d n=true) (hx:evE env x=some (.av (.val (.string ⟨⟨s⟩⟩)))) (hT:tb.und T=some .string)
  (hr:∀ m',m ≤ m'->RH P f n tb B0 S R (.inRegion ops rs :: k) ((d,.av (.box id m 0)) :: env) ((id,some (.obj m (.stringIter ⟨⟨s⟩⟩ 0))) :: H) nx' m' I):RH P f n tb B0 S R (.inRegion ops (i :: rs) :: k) env H nx m I :=
 RH.go ho hw (OpGo.range hk hd hx hT) nx' λ_=>hr
theorem RH.next {id b:Nat} {it:Operand} {s:ByteArray} {pos r q:Nat} (ho:ops.toList[i]? = some ⟨some d,.next it true,ty,ps,af,gd⟩) (hw:wantE env ops gd = .yes) (hd:Nat.blt d n=true) (hx:evE env it=some (.av (.box id b 0))) (hH:loH H id=some (.obj b (.stringIter s pos))) (h:pos < s.size) (hdec:Utf8.decode s pos=(r,q))
  (hr:∀ m',m ≤ m'->RH P f n tb B0 S R (.inRegion ops rs :: k) ((d,.av (.val (.tuple #[.bool true,.int .i64 pos,.int .i32 r]))) :: env) ((id,some (.obj b (.stringIter s (pos+q)))) :: H) nx m' I):RH P f n tb B0 S R (.inRegion ops (i :: rs) :: k) env H nx m I:=by
 have:=OpGo.next (P:=P) (tb:=tb) (B0:=B0) (n:=n) (env:=env) (H:=H) (m:=m) (I:=I) (ty:=ty) (ps:=ps) (af:=af) (gd:=gd) hd hx hH h
 rw [hdec] at this
 exact RH.go ho hw this nx λ_=>hr
theorem RH.nextEnd {id b:Nat} {it:Operand} {s:ByteArray} {pos:Nat} (ho:ops.toList[i]? = some ⟨some d,.next it true,ty,ps,af,gd⟩) (hw:wantE env ops gd = .yes) (hd:Nat.blt d n=true) (hx:evE env it=some (.av (.box id b 0))) (hH:loH H id=some (.obj b (.stringIter s pos))) (h:¬ pos < s.size)
  (hr:∀ m',m ≤ m'->RH P f n tb B0 S R (.inRegion ops rs :: k) ((d,.av (.val (.tuple #[.bool false]))) :: env) H nx m' I):RH P f n tb B0 S R (.inRegion ops (i :: rs) :: k) env H nx m I :=
 RH.go ho hw (OpGo.nextEnd hd hx hH h) nx λ_=>hr
theorem RH.storeS {T:TypeId} {x y:Operand} {ey:EV} {p:Addr} (H':Heap) (ho:ops.toList[i]? = some ⟨none,.store T x y,ty,ps,af,gd⟩) (hw:wantE env ops gd = .yes) (hx:ptrE (evE env x)=some p) (hy:evE env y=some ey)
  (hv:∀ w,w.heap.size=m->St tb B0 H I w->∃ w',(storeVar T p ey.v).run P w = .ok () w'/\w.heap.size ≤ w'.heap.size/\St tb B0 H' I w')
  (hk:∀ m',m ≤ m'->RH P f n tb B0 S R (.inRegion ops rs :: k) env H' nx m' I):RH P f n tb B0 S R (.inRegion ops (i :: rs) :: k) env H nx m I :=
 let ⟨_,h1,h2⟩:=ptrE_ok hx;RH.go ho hw (OpGo.store h1 h2 hy hv) nx λ_=>hk
end
section
variable {G0:Heap} {I0:World->Prop} {fuel:Nat} {d:Nat} {fo:Operand} {args:Array Operand} {tys:Array TypeId} {ty:TypeId} {ps:String} {af:Array Edge} {gd:Option (Nat × Bool)} {g:FuncId} {es:List EV} {f1 c1:List Value}
theorem RD.gives (e:EV) (ho:ops.toList[i]? = some ⟨some d,.call ⟨.value fo,args,tys⟩,ty,ps,af,gd⟩) (hr:Region.ready .any ops l.toArray=[i]) (hw:wantE env ops gd = .yes) (hd:Nat.blt d n=true) (hf:fnE (evE env fo)=some (g,f1,c1)) (hes:evsE env args.toList=some es)
  (hc:∀ (xs:Array Value) w,(callFunc g xs).run P w = .ok (.enter g xs) w) (hC:∀ w,St tb B0 H I w->Gives P g (f1 ++ es.map EV.v ++ c1) w e) (hG:SubH G0 H) (hI:∀ w,I w->I0 w)
  (hk:∀ m',m ≤ m'->RD P f n tb B0 S R k ops G0 I0 fuel (l.set i true) ((d,e) :: env) H nx m' I):RD P f n tb B0 S R k ops G0 I0 (fuel+1) l env H nx m I :=
 let ⟨_,h1,h2⟩:=fnE_ok hf;RD.go ho hr hw (OpGo.gives e hd h1 h2 hes hc hC) nx (λ_=>hG) (λ_=>hI) λ_=>hk
theorem RD.loadS {T:TypeId} {x:Operand} {p:Addr} (e:EV) (ho:ops.toList[i]? = some ⟨some d,.load T x,ty,ps,af,gd⟩) (hr:Region.ready .any ops l.toArray=[i]) (hw:wantE env ops gd = .yes) (hd:Nat.blt d n=true) (hx:ptrE (evE env x)=some p)
  (hv:∀ w,St tb B0 H I w->(loadVar T p).run P w = .ok e.v w) (hG:SubH G0 H) (hI:∀ w,I w->I0 w)
  (hk:∀ m',m ≤ m'->RD P f n tb B0 S R k ops G0 I0 fuel (l.set i true) ((d,e) :: env) H nx m' I):RD P f n tb B0 S R k ops G0 I0 (fuel+1) l env H nx m I :=
 let ⟨_,h1,h2⟩:=ptrE_ok hx;RD.go ho hr hw (OpGo.load e hd h1 h2 hv) nx (λ_=>hG) (λ_=>hI) λ_=>hk
theorem RD.does {Gi:Heap} {pre:World->Prop} {V:α->Value} {G':α->Heap} {J:α->Nat->World->Prop} [∀ x,From (J x)] (σ:List (Nat × Nat)) (e:α->EV) (G2:α->Heap) (τ:List (Nat × Nat)) (nx':Nat)
  (ho:ops.toList[i]? = some ⟨some d,.call ⟨.value fo,args,tys⟩,ty,ps,af,gd⟩) (hr:Region.ready .any ops l.toArray=[i]) (hw:wantE env ops gd = .yes) (hd:Nat.blt d n=true) (hf:fnE (evE env fo)=some (g,f1,c1)) (hes:evsE env args.toList=some es)
  (hc:∀ (xs:Array Value) w,(callFunc g xs).run P w = .ok (.enter g xs) w) (hC:Does P tb g (f1 ++ es.map EV.v ++ c1) Gi pre V G' J)
  (hσ:SelEq Gi H σ) (hn:nodupN (Gi.map λp=>ren σ p.1)=true) (hp:∀ u,St tb B0 (rest Gi H σ) I u->pre u)
  (hV:∀ x,V x=(e x).v) (hτ:∀ x,SelEq (G2 x) (comb (G' x) (rest Gi H σ)) τ) (hτn:∀ x,nodupN ((G2 x).map λp=>ren τ p.1)=true) (hG:∀ x,SubH G0 (G2 x)) (hI:∀ w,I w->I0 w)
  (hk:∀ x m',m ≤ m'->RD P f n tb B0 S R k ops G0 I0 fuel (l.set i true) ((d,e x) :: env) (G2 x) nx' m' (λu=>I u/\J x m u)):RD P f n tb B0 S R k ops G0 I0 (fuel+1) l env H nx m I :=
 let ⟨_,h1,h2⟩:=fnE_ok hf;RD.go ho hr hw (OpGo.does σ e G2 τ hd h1 h2 hes hc hC hσ hn hp hV hτ hτn) nx' hG (λ_ w h=>hI w h.1) hk
end
end
end Go.Proofs.YtbfjmimiigjenaaGreatDoor.V
