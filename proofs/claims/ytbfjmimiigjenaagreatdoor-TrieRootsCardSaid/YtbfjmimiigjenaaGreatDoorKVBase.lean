/-
Lemmas. No condition.
-/
import Derived.Orders
import Derived.Still
import Derived.Below
import Derived.AtR
set_option linter.unusedVariables false
set_option linter.unusedSectionVars false
set_option linter.unusedSimpArgs false
namespace Go.Proofs.YtbfjmimiigjenaaGreatDoor.V
open Go
abbrev Env:=Nat->Option Value
def Env.upd (K:Env) (d:Nat) (v:Value):Env:=λt=>if d=t then some v else K t
def Agree (n:Nat) (a:Act) (K:Env):Prop :=
 a.defers=[]/\a.tmps.size=n/\∀ t v,K t=some v->a.tmps.getD t undef=v
def evalK (K:Env):Operand->Option Value
 | .tmp t=>K t
 | .const v=>some v
 | .global g=>some (.pointer (some ⟨g,0,none⟩))
 | .func f=>some (.func (.func f) #[] #[])
theorem Agree.eval {n:Nat} {a:Act} {K:Env} (h:Agree n a K) {x:Operand} {v:Value} (hx:evalK K x=some v):a.eval x=v:=by
 cases x with
 | tmp t=>exact h.2.2 t v hx
 | const u=>simpa [evalK,Act.eval] using hx
 | global g=>simpa [evalK,Act.eval] using hx
 | func f=>simpa [evalK,Act.eval] using hx
theorem Agree.put {n:Nat} {a:Act} {K:Env} (h:Agree n a K) {d:Nat} (hd:d < n) (v:Value):Agree n (a.put (some d) v) (K.upd d v):=by
 refine ⟨h.1,by simpa [Act.put] using h.2.1,λt u hu=>?_⟩
 unfold Env.upd at hu
 have hs:d < a.tmps.size:=by rw [h.2.1];exact hd
 by_cases hdt:d=t
 ·subst hdt
  rw [if_pos rfl] at hu
  injection hu with hu
  subst hu
  simp [Act.put,Array.getElem?_setIfInBounds,hs]
 ·rw [if_neg hdt] at hu
  have:=h.2.2 t u hu
  simpa [Act.put,Array.getElem?_setIfInBounds_ne hdt] using this
def Env.le (E K:Env):Prop:=∀ t v,E t=some v->K t=some v
theorem Agree.le {n:Nat} {a:Act} {E K:Env} (h:Agree n a K) (hs:E.le K):Agree n a E:=⟨h.1,h.2.1,λt v hv=>h.2.2 t v (hs t v hv)⟩
structure Fr where
 fn:FuncId
 round:Option Nat:=none
 ds:List Nat:=[]
 J:Option Code->World->Prop:=λ_ _=>False
abbrev fr (f:FuncId):Fr:={ fn:=f }
def base (f:Fr):Frame:={ (default:Frame) with fn:=f.fn,kind:=.normal,roundOf:=f.round }
def Fr.coll (f:Fr):List Deferred:=f.ds.map λb=>{ target:=.collected b,args:=#[] }
def Fr.act (f:Fr) (a:Act):Act:={ a with defers:=a.defers ++ f.coll }
def Fr.cfg (f:Fr) (a:Act) (todo:List Item):Frame:=(base f).atR (f.act a) todo
theorem Fr.act_put (f:Fr) (a:Act) (d:Option Tmp) (v:Value):f.act (a.put d v)=(f.act a).put d v:=by cases d<;>rfl
theorem Fr.act_eval (f:Fr) (a:Act):(f.act a).eval=a.eval:=by funext x;cases x<;>rfl
inductive Lv:List Item->Option Code->Prop
 | fin:Lv [] none
 | ret (k:List Item):Lv (.code .ret :: k) (some .ret)
 | exit (id:Nat) (k:List Item) (h:exitTo id k=none):Lv (.code (.exit id) :: k) (some (.exit id))
abbrev Stops:=List (List Item × (List Nat->Env->World->Prop))
def Goes (P:Program) (f:Fr) (n:Nat) (S:Stops) (R:Ending->World->Prop) (cs:List Frame) (m:Machine):Prop :=
 (∃ e w' fr,R e w'/\Comes P m (lone fr cs w') e/\fr.fn=f.fn/\fr.leaving P w' e) ∨
 (∃ k I a w' env ds,(k,I) ∈ S/\Agree n a env/\I ds env w'/\Steps P m (lone ({ f with ds:=ds }.cfg a k) cs w')) ∨
 (∃ k j a w' ds,Lv k j/\f.J j w'/\Steps P m (lone ({ f with ds:=ds }.cfg a k) cs w'))
def Run (P:Program) (f:Fr) (n:Nat) (S:Stops) (R:Ending->World->Prop) (todo:List Item) (env:Env) (w:World):Prop :=
 ∀ cs a,Agree n a env->Goes P f n S R cs (lone (f.cfg a todo) cs w)
section
variable {P:Program} {f:Fr} {n:Nat} {S:Stops} {R:Ending->World->Prop} {cs:List Frame} {m m₁:Machine}
theorem Goes.of_steps (h:Steps P m m₁) (hg:Goes P f n S R cs m₁):Goes P f n S R cs m:=by
 rcases hg with ⟨e,w',fr,hr,hc,h1,h2⟩|⟨k,I,a,w',env,ds,h1,h2,h3,h4⟩|⟨k,j,a,w',ds,h1,h2,h3⟩
 ·exact .inl ⟨e,w',fr,hr,Comes.of_steps h hc,h1,h2⟩
 ·exact .inr (.inl ⟨k,I,a,w',env,ds,h1,h2,h3,h.trans h4⟩)
 ·exact .inr (.inr ⟨k,j,a,w',ds,h1,h2,h.trans h3⟩)
theorem Goes.ds {ds:List Nat} (hg:Goes P { f with ds:=ds } n S R cs m):Goes P f n S R cs m:=hg
theorem Goes.of_step (h:step P m = .next m₁) (hg:Goes P f n S R cs m₁):Goes P f n S R cs m:=hg.of_steps (.one h)
variable {todo k:List Item} {env E:Env} {w:World}
theorem Run.weaken (E:Env) (hs:E.le env) (h:Run P f n S R todo E w):Run P f n S R todo env w :=
 λcs a ha=>h cs a (ha.le hs)
theorem Run.stop {I:List Nat->Env->World->Prop} (hm:(todo,I) ∈ S) (hI:I f.ds env w):Run P f n S R todo env w :=
 λ_ a ha=>.inr (.inl ⟨todo,I,a,w,env,f.ds,hm,ha,hI,Steps.refl _ _⟩)
theorem Run.leave {j:Option Code} (hl:Lv todo j) (hJ:f.J j w):Run P f n S R todo env w :=
 λ_ a _=>.inr (.inr ⟨todo,j,a,w,f.ds,hl,hJ,Steps.refl _ _⟩)
theorem Run.join (k:List Item) (I:List Nat->Env->World->Prop) (h1:Run P f n ((k,I) :: S) R todo env w) (h2:∀ ds env w,I ds env w->Run P { f with ds:=ds } n S R k env w):Run P f n S R todo env w:=by
 intro cs a ha
 rcases h1 cs a ha with h|⟨k',I',a',w',env',ds,hm,hag,hI,hst⟩|h
 ·exact .inl h
 ·rcases List.mem_cons.1 hm with he|hm
  ·injection he with e1 e2
   subst e1;subst e2
   exact (Goes.ds (h2 ds env' w' hI cs a' hag)).of_steps hst
  ·exact .inr (.inl ⟨k',I',a',w',env',ds,hm,hag,hI,hst⟩)
 ·exact .inr (.inr h)
theorem Run.loop {body:Code} {α:Type} (J:α->List Nat->Env->World->Prop) (μ:α->Nat) (x:α) (hJ:J x f.ds env w)
  (h:∀ x ds env w,J x ds env w->Run P { f with ds:=ds } n ((.inLoop body :: k,λds' env' w'=>∃ y,J y ds' env' w'/\μ y < μ x) :: S) R (.code body :: .inLoop body :: k) env w) :
  Run P f n S R (.code (.loop body) :: k) env w:=by
 have key:∀ N x ds env w,μ x=N->J x ds env w->Run P { f with ds:=ds } n S R (.code body :: .inLoop body :: k) env w:=by
  intro N
  induction N using Nat.strongRecOn with
  | _ N ih =>
   intro x ds env w hN hJ
   refine Run.join _ _ (h x ds env w hJ) ?_
   rintro ds' env' w' ⟨y,hJy,hlt⟩
   intro cs a ha
   refine Goes.of_step (stepR_inLoop (b:=base _) (a:=Fr.act _ a)) ?_
   exact ih (μ y) (hN ▸ hlt) y ds' env' w' rfl hJy cs a ha
 intro cs a ha
 exact Goes.of_step (stepR_loop (b:=base f) (a:=f.act a)) (key _ x f.ds env w rfl hJ cs a ha)
theorem not_defer {o:Oper} {a:Act} {K:Act->World->Prop} (h:o.wp P a w K (λ_ _ _=>False)) (hK:∀ a w,K a w->a.defers=[]):∀ c,o.op ≠ .defer c:=by
 intro c hc
 unfold Oper.wp at h
 have he:execOp a.eval o=(do let d ← resolve a.eval c o.type;pure (Next.defer d)):=by simp only [execOp,hc]
 rw [he,Sem.run_bind] at h
 cases hr:(resolve a.eval c o.type).run P w with
 | ok d w' =>
  rw [hr] at h
  have h:K ({ a with defers:=d :: a.defers }.put o.dst undef) w':=h
  have:=hK _ _ h
  cases hd:o.dst<;>simp [Act.put,hd] at this
 | halt x w' =>
  rw [hr] at h
  cases x<;>exact h
theorem stepGF_op {ops:Array Oper} {i:Nat} {rest:List Nat} {o:Oper} {a:Act} (ho:ops[i]? = some o) (hw:Region.wanted o (yielded ops a.tmps)=true) (hnd:∀ c,o.op ≠ .defer c) :
  stepG P true { frame:=f.cfg a (.inRegion ops (i :: rest) :: k),callers:=cs,status:=.running,dying:=none } w =
   stepG.apply P true (f.cfg a (.inRegion ops (i :: rest) :: k)) cs none (execOp a.eval o) w:=by
 have h:=stepGR_op (P:=P) (b:=base f) (a:=f.act a) (k:=k) (cs:=cs) (w:=w) (rest:=rest) ho hw
 rw [Oper.semAt_eq _ _ _ hnd,Fr.act_eval] at h
 exact h
theorem finishF {ops:Array Oper} {i:Nat} {rest:List Nat} {o:Oper} {a:Act} (ho:ops[i]? = some o) (v:Value) :
  (f.cfg a (.inRegion ops (i :: rest) :: k)).finish v=f.cfg (a.put o.dst v) (.inRegion ops rest :: k):=by
 unfold Fr.cfg
 rw [Frame.finish_atR,ho,Fr.act_put];rfl
theorem stepF_skip {ops:Array Oper} {i:Nat} {rest:List Nat} {a:Act} (h:((ops[i]?).map (Region.wanted · (yielded ops a.tmps))).getD false=false) :
  step P (lone (f.cfg a (.inRegion ops (i :: rest) :: k)) cs w) = .next (lone (f.cfg (a.put ((ops[i]?).bind (·.dst)) undef) (.inRegion ops rest :: k)) cs w):=by
 have:=stepR_op_skip (P:=P) (b:=base f) (a:=f.act a) (k:=k) (cs:=cs) (w:=w) (ops:=ops) (i:=i) (rest:=rest) h
 rw [← Fr.act_put] at this
 exact this
theorem Goes.op {ops:Array Oper} {i:Nat} {rest:List Nat} {o:Oper} {a:Act} {K:Act->World->Prop} (ho:ops[i]? = some o) (hw:Region.wanted o (yielded ops a.tmps)=true) (hnd:∀ c,o.op ≠ .defer c)
  (h:o.wp P a w K (λ_ _ _=>False)) (hK:∀ a' w',K a' w'->Goes P f n S R cs (lone (f.cfg a' (.inRegion ops rest :: k)) cs w')) :
  Goes P f n S R cs (lone (f.cfg a (.inRegion ops (i :: rest) :: k)) cs w):=by
 simp only [Oper.wp,Oper.upon] at h
 have hg:=stepGF_op (P:=P) (f:=f) (k:=k) (cs:=cs) (w:=w) (rest:=rest) ho hw hnd
 have hfin:=λv=>finishF (f:=f) (k:=k) (rest:=rest) (a:=a) ho v
 split at h
 ·rename_i v w' hr
  refine Goes.of_step (step_lone_go ?_) (hK _ _ h)
  rw [hg,← hfin];simp [stepG.apply,hr]
 ·rename_i w' hr
  refine Goes.of_step (step_lone_go ?_) (hK _ _ h)
  rw [hg,← hfin];simp [stepG.apply,hr]
 ·rename_i d w' hr
  refine Goes.of_step (step_lone_go ?_) (hK _ _ h)
  have e:({ f.cfg a (.inRegion ops (i :: rest) :: k) with defers:=d :: (a.defers ++ f.coll) }:Frame).finish undef=f.cfg ({ a with defers:=d :: a.defers }.put o.dst undef) (.inRegion ops rest :: k) :=
   finishF (f:=f) (k:=k) (rest:=rest) (a:={ a with defers:=d :: a.defers }) ho undef
  rw [hg];simp only [stepG.apply,Sem.runT_eq,hr,GStep.bare_after]
  exact congrArg (λfr=>GStep.go { frame:=fr,callers:=cs,status:=.running,dying:=none } w') e
 ·rename_i g args w' hr
  obtain ⟨e,w'',fr,hR,hsteps,_,hleave⟩:=h (f.cfg a (.inRegion ops (i :: rest) :: k) :: cs)
  have henter:step P (lone (f.cfg a (.inRegion ops (i :: rest) :: k)) cs w) =
    .next (lone (Frame.enter P g args .normal) (f.cfg a (.inRegion ops (i :: rest) :: k) :: cs) w') :=
   step_lone_go (by rw [hg];simp [stepG.apply,hr,Fr.cfg,Frame.atR])
  cases e with
  | returned v =>
   refine Goes.of_steps (.head henter (Steps.trans hsteps (.one ?_))) (hK _ _ hR)
   rw [← hfin];exact step_leave_returned hleave
  | panicked chain=>exact hR.elim
  | outgrown =>
   obtain ⟨_,_,hq⟩:=hR
   exact hq.elim
 ·rename_i row args w' hr
  obtain ⟨v,w'',hR,hsteps⟩:=h (f.cfg a (.inRegion ops (i :: rest) :: k)) cs
  have henter:step P (lone (f.cfg a (.inRegion ops (i :: rest) :: k)) cs w) =
    .next (lone (Frame.ofRow P row args .normal) (f.cfg a (.inRegion ops (i :: rest) :: k) :: cs) w') :=
   step_lone_go (by rw [hg];simp [stepG.apply,hr,Fr.cfg,Frame.atR])
  refine Goes.of_steps (.head henter ?_) (hK _ _ hR)
  rw [← hfin];exact hsteps
 ·exact h.elim
 ·exact h.elim
theorem Run.op {ops:Array Oper} {i:Nat} {rest:List Nat} {o:Oper} (ho:ops[i]? = some o)
  (hw:∀ a,Agree n a env->Region.wanted o (yielded ops a.tmps)=true)
  (h:∀ a,Agree n a env->o.wp P a w (λa' w'=>∃ env',Agree n a' env'/\Run P f n S R (.inRegion ops rest :: k) env' w') (λ_ _ _=>False)) :
  Run P f n S R (.inRegion ops (i :: rest) :: k) env w:=by
 intro cs a ha
 exact Goes.op ho (hw a ha) (not_defer (h a ha) λa' w' ⟨_,h1,_⟩=>h1.1) (h a ha) λa' w' ⟨env',h1,h2⟩=>h2 cs a' h1
theorem Run.value {ops:Array Oper} {i:Nat} {rest:List Nat} {o:Oper} {d:Nat} {v:Value} {w':World} (ho:ops[i]? = some o) (hd:o.dst=some d) (hdn:d < n)
  (hw:∀ a,Agree n a env->Region.wanted o (yielded ops a.tmps)=true)
  (hv:∀ a,Agree n a env->(execOp a.eval o).run P w = .ok (.value v) w')
  (h:Run P f n S R (.inRegion ops rest :: k) (env.upd d v) w'):Run P f n S R (.inRegion ops (i :: rest) :: k) env w:=by
 refine Run.op ho hw λa ha=>?_
 unfold Oper.wp
 rw [hv a ha]
 exact ⟨env.upd d v,by rw [hd];exact ha.put hdn v,h⟩
theorem Run.ret {g:FuncId} {fn:Func} {v:Value} (hf:P.funcs[g]? = some fn) (hr:∀ a,Agree n a env->(results fn a.tmps).run P w = .ok v w) (hR:R (.returned v) w) :
  Run P (fr g) n S R (.code .ret :: k) env w:=by
 intro cs a ha
 exact .inl ⟨.returned v,w,_,hR,.one (stepR_ret rfl),rfl,rfl,by simp [Frame.atR,Fr.act,Fr.coll,ha.1],rfl,fn,hf,hr a ha⟩
theorem Run.fin {g:FuncId} {fn:Func} {v:Value} (hf:P.funcs[g]? = some fn) (hr:∀ a,Agree n a env->(results fn a.tmps).run P w = .ok v w) (hR:R (.returned v) w) :
  Run P (fr g) n S R [] env w:=by
 intro cs a ha
 exact .inl ⟨.returned v,w,_,hR,.one (stepR_end rfl),rfl,rfl,by simp [Frame.atR,Fr.act,Fr.coll,ha.1],rfl,fn,hf,hr a ha⟩
end
theorem agree_init (l:List Value) (m:Nat):Agree (l.length+m) { tmps:=l.toArray ++ Array.replicate m undef,defers:=[] } (λt=>l[t]?):=by
 refine ⟨rfl,by simp,λt v h=>?_⟩
 have hlt:t < l.length:=(List.getElem?_eq_some_iff.1 h).1
 obtain ⟨_,h3⟩:=List.getElem?_eq_some_iff.1 h
 simp [Array.getElem?_append,hlt,h3]
theorem enter {P:Program} {f:FuncId} {fn:Func} {c:Code} {l:List Value} {w:World} {R:Ending->World->Prop} {n:Nat}
  (hf:P.funcs[f]? = some fn) (hb:fn.body=some c) (hn:fn.ntmps=n) (hl:Nat.ble l.length n=true)
  (h:Run P (fr f) n [] R [.code c] (λt=>l[t]?) w):Calls P f l.toArray w R:=by
 have hl:=Nat.le_of_ble_eq_true hl
 intro cs
 have henter:Frame.enter P f l.toArray .normal=(fr f).cfg { tmps:=l.toArray ++ Array.replicate (fn.ntmps - l.toArray.size) undef,defers:=[] } [.code c]:=by
  simp [Frame.enter,Fr.cfg,Fr.act,Fr.coll,fr,Frame.atR,hf,hb,base]
 rw [henter]
 have hag:=agree_init l (n - l.length)
 rw [show l.length+(n - l.length)=n by omega] at hag
 have hsz:fn.ntmps - l.toArray.size=n - l.length:=by simp [hn]
 rw [hsz]
 rcases h cs _ hag with h|⟨_,_,_,_,_,_,hm,_⟩|⟨_,_,_,_,_,_,hJ,_⟩
 ·exact h
 ·cases hm
 ·cases hJ
end Go.Proofs.YtbfjmimiigjenaaGreatDoor.V
