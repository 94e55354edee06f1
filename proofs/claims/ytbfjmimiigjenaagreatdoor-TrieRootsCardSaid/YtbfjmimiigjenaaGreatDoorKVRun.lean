/-
Lemmas. No condition.
-/
import Derived.Test.YtbfjmimiigjenaaGreatDoorKVSuf
set_option linter.unusedVariables false
set_option linter.unusedSectionVars false
set_option linter.unusedSimpArgs false
namespace Go.Proofs.YtbfjmimiigjenaaGreatDoor.V
open Go Go.RowKit
def RH (P:Program) (f:Fr) (n:Nat) (tb:TT) (B0:Nat) (S:Stops) (R:Ending->World->Prop) (todo:List Item) (env:SEnv) (H:Heap) (nx m:Nat) (I:World->Prop):Prop :=
  ∀ w,w.heap.size=m->St tb B0 H I w->Run P f n S R todo (kn env) w
def guardE (ops:Array Oper):Nat × Bool->Option (Nat × Bool)
  | (j,want)=>match ops.toList[j]? with
    | some o=>match o.dst with
      | some d=>some (d,want)
      | none=>none
    | none=>none
inductive Says where
  | yes|no
  | open (t:Bool)
  | lost
def saysE (want:Bool):Option EV->Says
  | some .tt=>match want with|true=>.yes|false=>.no
  | some .ff=>match want with|true=>.no|false=>.yes
  | some (.av (.val (.tuple _)))=>.no
  | some (.av (.val (.bool t)))=>.open t
  | _=>.lost
inductive Want where
  | yes|no
  | open (q:Nat) (t:Bool)
  | lost
def wantE (env:SEnv) (ops:Array Oper):Option (Nat × Bool)->Want
  | none=>.yes
  | some g=>match guardE ops g with
    | some (q,want)=>match saysE want (lookE env q) with
      | .yes=>.yes
      | .no=>.no
      | .open t=>.open q t
      | .lost=>.lost
    | none=>.lost
abbrev Sta:=SEnv × Heap × Nat × Nat × List Item × List Ob × List Eqn
inductive Dec where
  | yes|no
  | open (t:Bool)
  | lost
def decE:Option EV->Dec
  | some .tt=>.yes
  | some .ff=>.no
  | some (.av (.val (.bool t)))=>.open t
  | _=>.lost
def adv (tb:TT) (n:Nat):Nat->List Bool->SEnv->Heap->Nat->Nat->List Item->List Ob->List Eqn->Sta
  | 0,_,env,H,nx,m,todo,ob,eq=>(env,H,nx,m,todo,ob,eq)
  | fuel+1,ds,env,H,nx,m,todo,ob,eq=>match todo with
    | .code .skip :: k=>adv tb n fuel ds env H nx m k ob eq
    | .code (.label _) :: k=>adv tb n fuel ds env H nx m k ob eq
    | .inBlock _ :: k=>adv tb n fuel ds env H nx m k ob eq
    | .inScope _ :: k=>adv tb n fuel ds env H nx m k ob eq
    | .code (.seq a b) :: k=>adv tb n fuel ds env H nx m (.code a :: .code b :: k) ob eq
    | .code (.block id c) :: k=>adv tb n fuel ds env H nx m (.code c :: .inBlock id :: k) ob eq
    | .code (.scope c) :: k=>adv tb n fuel ds env H nx m (.code c :: .inScope c :: k) ob eq
    | .code (.exit id) :: k=>match exitTo id k with
      | some k'=>adv tb n fuel ds env H nx m k' ob eq
      | none=>(env,H,nx,m,.code (.exit id) :: k,ob,eq)
    | .code (.goto l) :: k=>match gotoIn l k with
      | some k'=>adv tb n fuel ds env H nx m k' ob eq
      | none=>(env,H,nx,m,.code (.goto l) :: k,ob,eq)
    | .code (.cond c x y) :: k=>match decE (evE env c) with
      | .yes=>adv tb n fuel ds env H nx m (.code x :: k) ob eq
      | .no=>adv tb n fuel ds env H nx m (.code y :: k) ob eq
      | .open t=>match ds with
        | true :: ds=>adv tb n fuel ds env H nx m (.code x :: k) (.dec t true :: ob) eq
        | false :: ds=>adv tb n fuel ds env H nx m (.code y :: k) (.dec t false :: ob) eq
        | []=>(env,H,nx,m,.code (.cond c x y) :: k,ob,eq)
      | .lost=>(env,H,nx,m,.code (.cond c x y) :: k,ob,eq)
    | .code (.region id ops false) :: k=>adv tb n fuel ds env H nx m (.inRegion ops (List.range ops.size) :: k) ob eq
    | .inRegion _ [] :: k=>adv tb n fuel ds env H nx m k ob eq
    | .inRegion ops (i :: rest) :: k=>match ops.toList[i]? with
      | some o=>match wantE env ops o.guard with
        | .yes=>match stepOp tb env H nx m ob eq o.op with
          | some (v,H',nx',m',ob',eq')=>match v with
            | some e=>match o.dst with
              | some d=>match Nat.blt d n with
                | true=>adv tb n fuel ds ((d,e) :: env) H' nx' m' (.inRegion ops rest :: k) ob' eq'
                | false=>(env,H,nx,m,.inRegion ops (i :: rest) :: k,ob,eq)
              | none=>(env,H,nx,m,.inRegion ops (i :: rest) :: k,ob,eq)
            | none=>match o.dst with
              | none=>adv tb n fuel ds env H' nx' m' (.inRegion ops rest :: k) ob' eq'
              | some _=>(env,H,nx,m,.inRegion ops (i :: rest) :: k,ob,eq)
          | none=>(env,H,nx,m,.inRegion ops (i :: rest) :: k,ob,eq)
        | .no=>match o.dst with
          | some d=>match Nat.blt d n with
            | true=>adv tb n fuel ds ((d,.av (.val undef)) :: env) H nx m (.inRegion ops rest :: k) ob eq
            | false=>(env,H,nx,m,.inRegion ops (i :: rest) :: k,ob,eq)
          | none=>adv tb n fuel ds env H nx m (.inRegion ops rest :: k) ob eq
        | .open q t=>match ds with
          | true :: ds=>adv tb n fuel ds ((q,.tt) :: env) H nx m (.inRegion ops (i :: rest) :: k) (.dec t true :: ob) eq
          | false :: ds=>adv tb n fuel ds ((q,.ff) :: env) H nx m (.inRegion ops (i :: rest) :: k) (.dec t false :: ob) eq
          | []=>(env,H,nx,m,.inRegion ops (i :: rest) :: k,ob,eq)
        | .lost=>(env,H,nx,m,.inRegion ops (i :: rest) :: k,ob,eq)
      | none=>(env,H,nx,m,.inRegion ops (i :: rest) :: k,ob,eq)
    | todo=>(env,H,nx,m,todo,ob,eq)
section
variable {P:Program} {f:Fr} {n:Nat} {S:Stops} {R:Ending->World->Prop} {tb:TT} {B0:Nat} {I:World->Prop}
theorem decE_yes {e:Option EV} (h:decE e = .yes):e=some .tt:=by
  unfold decE at h;split at h<;>first|rfl|cases h
theorem decE_no {e:Option EV} (h:decE e = .no):e=some .ff:=by
  unfold decE at h;split at h<;>first|rfl|cases h
theorem decE_open {e:Option EV} {t:Bool} (h:decE e = .open t):e=some (.av (.val (.bool t))):=by
  unfold decE at h;split at h<;>first|(injection h with h;subst h;rfl)|cases h
theorem saysE_yes {want:Bool} {e:Option EV} (h:saysE want e = .yes):e=some .tt/\want=true ∨ e=some .ff/\want=false:=by
  unfold saysE at h;split at h
  · cases want<;>first|exact .inl ⟨rfl,rfl⟩|cases h
  · cases want<;>first|exact .inr ⟨rfl,rfl⟩|cases h
  all_goals cases h
theorem saysE_no {want:Bool} {e:Option EV} (h:saysE want e = .no):e=some .tt/\want=false ∨ e=some .ff/\want=true ∨ ∃ vs,e=some (.av (.val (.tuple vs))):=by
  unfold saysE at h;split at h
  · cases want<;>first|exact .inl ⟨rfl,rfl⟩|cases h
  · cases want<;>first|exact .inr (.inl ⟨rfl,rfl⟩)|cases h
  · exact .inr (.inr ⟨_,rfl⟩)
  all_goals cases h
theorem saysE_open {want t:Bool} {e:Option EV} (h:saysE want e = .open t):e=some (.av (.val (.bool t))):=by
  unfold saysE at h;split at h
  · cases want<;>cases h
  · cases want<;>cases h
  · cases h
  · injection h with h;subst h;rfl
  · cases h
def boolV:Value->Option Bool
  | .bool b=>some b
  | _=>none
theorem guard_slot {ops:Array Oper} {g:Nat × Bool} {q:Nat} {want:Bool} {K:Env} {v:Value} {o:Oper} (hgd:o.guard=some g) (hg:guardE ops g=some (q,want)) (hl:K q=some v)
    {a:Act} (ha:Agree n a K):Region.wanted o (yielded ops a.tmps)=(boolV v == some want):=by
  unfold Region.wanted
  rw [hgd]
  obtain ⟨j,wt⟩:=g
  unfold guardE at hg
  simp only at hg ⊢
  split at hg
  · rename_i o' ho'
    rw [Array.getElem?_toList] at ho'
    split at hg
    · rename_i d hd
      injection hg with hg
      injection hg with h1 h2
      subst h1;subst h2
      have hv:=ha.2.2 _ _ hl
      congr 1
      unfold yielded
      simp only [ho',Option.bind_some,hd]
      rw [Array.getD_eq_getD_getElem?] at hv
      cases hq:a.tmps[d]? with
      | none=>rw [hq] at hv;simp only [Option.getD_none] at hv;subst hv;rfl
      | some y=>rw [hq] at hv;simp only [Option.getD_some] at hv;subst hv;cases y<;>rfl
    · cases hg
  · cases hg
theorem wantE_yes {env:SEnv} {ops:Array Oper} {o:Oper} (h:wantE env ops o.guard = .yes) {a:Act} (ha:Agree n a (kn env)):Region.wanted o (yielded ops a.tmps)=true:=by
  cases hgd:o.guard with
  | none=>simp [Region.wanted,hgd]
  | some g =>
    rw [hgd] at h
    unfold wantE at h
    split at h
    · rename_i heq;cases heq
    · rename_i g' heq
      injection heq with heq;subst heq
      split at h
      · rename_i q want hg
        split at h
        · rename_i hs
          rcases saysE_yes hs with ⟨h1,h2⟩|⟨h1,h2⟩
          · rw [guard_slot hgd hg (kn_some h1) ha,h2];rfl
          · rw [guard_slot hgd hg (kn_some h1) ha,h2];rfl
        all_goals cases h
      · cases h
theorem wantE_no {env:SEnv} {ops:Array Oper} {o:Oper} (h:wantE env ops o.guard = .no) {a:Act} (ha:Agree n a (kn env)):Region.wanted o (yielded ops a.tmps)=false:=by
  cases hgd:o.guard with
  | none=>rw [hgd] at h;cases h
  | some g =>
    rw [hgd] at h
    unfold wantE at h
    split at h
    · rename_i heq;cases heq
    · rename_i g' heq
      injection heq with heq;subst heq
      split at h
      · rename_i q want hg
        split at h
        · cases h
        · rename_i hs
          rcases saysE_no hs with ⟨h1,h2⟩|⟨h1,h2⟩|⟨vs,h1⟩
          · rw [guard_slot hgd hg (kn_some h1) ha,h2];rfl
          · rw [guard_slot hgd hg (kn_some h1) ha,h2];rfl
          · rw [guard_slot hgd hg (kn_some h1) ha];cases want<;>rfl
        all_goals cases h
      · cases h
theorem wantE_open {env:SEnv} {ops:Array Oper} {g:Option (Nat × Bool)} {q:Nat} {t:Bool} (h:wantE env ops g = .open q t):lookE env q=some (.av (.val (.bool t))):=by
  unfold wantE at h
  split at h
  · cases h
  · split at h
    · split at h
      · cases h
      · cases h
      · rename_i hs
        injection h with h1 h2
        subst h1;subst h2
        exact saysE_open hs
      · cases h
    · cases h
theorem stepR_scope {b:Frame} {a:Act} {c:Code} {k:List Item} {cs:List Frame} {w:World} :
    step P (lone (b.atR a (.code (.scope c) :: k)) cs w) = .next (lone (b.atR a (.code c :: .inScope c :: k)) cs w) :=
  step_lone_go (by simp [stepG,stepG.exec,Frame.atR])
theorem stepR_inScope {b:Frame} {a:Act} {c:Code} {k:List Item} {cs:List Frame} {w:World} :
    step P (lone (b.atR a (.inScope c :: k)) cs w) = .next (lone (b.atR a k) cs w) :=
  step_lone_go (by simp [stepG,stepG.exec,Frame.atR])
theorem not_defer_of {o:Oper} {a:Act} {w w':World} {x:Next} (h:(execOp a.eval o).run P w = .ok x w') (hx:∀ d,x ≠ .defer d):∀ c,o.op ≠ .defer c:=by
  intro c hc
  have he:execOp a.eval o=(do let d ← resolve a.eval c o.type;pure (Next.defer d)):=by simp only [execOp,hc]
  rw [he,Sem.run_bind] at h
  cases hr:(resolve a.eval c o.type).run P w with
  | ok d w2 =>
    rw [hr] at h
    have h:Result.ok (Next.defer d) w2=Result.ok x w':=h
    injection h with h1 h2
    exact hx d h1.symm
  | halt y w2 =>
    rw [hr] at h
    cases h
theorem Goes.value {ops:Array Oper} {i:Nat} {rest:List Nat} {o:Oper} {v:Value} {w w':World} {a:Act} {cs:List Frame} {k:List Item} (ho:ops[i]? = some o) (hw:Region.wanted o (yielded ops a.tmps)=true)
    (hv:(execOp a.eval o).run P w = .ok (.value v) w') (h:Goes P f n S R cs (lone (f.cfg (a.put o.dst v) (.inRegion ops rest :: k)) cs w')) :
    Goes P f n S R cs (lone (f.cfg a (.inRegion ops (i :: rest) :: k)) cs w):=by
  have hg:=stepGF_op (P:=P) (f:=f) (k:=k) (cs:=cs) (w:=w) (rest:=rest) ho hw (not_defer_of hv λ_=>nofun)
  have hfin:(f.cfg a (.inRegion ops (i :: rest) :: k)).finish v=f.cfg (a.put o.dst v) (.inRegion ops rest :: k):=finishF ho v
  refine Goes.of_step (step_lone_go ?_) h
  rw [hg,← hfin];simp [stepG.apply,hv]
theorem Goes.skip {ops:Array Oper} {i:Nat} {rest:List Nat} {o:Oper} {w w':World} {a:Act} {cs:List Frame} {k:List Item} (ho:ops[i]? = some o) (hw:Region.wanted o (yielded ops a.tmps)=true)
    (hv:(execOp a.eval o).run P w = .ok .skip w') (h:Goes P f n S R cs (lone (f.cfg (a.put o.dst undef) (.inRegion ops rest :: k)) cs w')) :
    Goes P f n S R cs (lone (f.cfg a (.inRegion ops (i :: rest) :: k)) cs w):=by
  have hg:=stepGF_op (P:=P) (f:=f) (k:=k) (cs:=cs) (w:=w) (rest:=rest) ho hw (not_defer_of hv λ_=>nofun)
  have hfin:(f.cfg a (.inRegion ops (i :: rest) :: k)).finish undef=f.cfg (a.put o.dst undef) (.inRegion ops rest :: k):=finishF ho undef
  refine Goes.of_step (step_lone_go ?_) h
  rw [hg,← hfin];simp [stepG.apply,hv]
theorem Goes.pass {ops:Array Oper} {i:Nat} {rest:List Nat} {o:Oper} {w:World} {a:Act} {cs:List Frame} {k:List Item} (ho:ops[i]? = some o) (hw:Region.wanted o (yielded ops a.tmps)=false)
    (h:Goes P f n S R cs (lone (f.cfg (a.put o.dst undef) (.inRegion ops rest :: k)) cs w)) :
    Goes P f n S R cs (lone (f.cfg a (.inRegion ops (i :: rest) :: k)) cs w):=by
  have hs:=stepF_skip (P:=P) (f:=f) (a:=a) (k:=k) (cs:=cs) (w:=w) (ops:=ops) (i:=i) (rest:=rest) (by simp [ho];simpa using hw)
  refine Goes.of_step hs ?_
  simpa [ho] using h
variable {H:Heap} {nx m:Nat} {env:SEnv} {todo k:List Item}
def Sta.ob (s:Sta):List Ob:=s.2.2.2.2.2.1
def Sta.eq (s:Sta):List Eqn:=s.2.2.2.2.2.2
theorem adv_suf:∀ (fuel:Nat) (ds:List Bool) (env:SEnv) (H:Heap) (nx m:Nat) (todo:List Item) (ob:List Ob) (eq:List Eqn) {s:Sta},adv tb n fuel ds env H nx m todo ob eq=s →
    ob <:+ s.ob/\eq <:+ s.eq:=by
  intro fuel
  induction fuel with
  | zero=>intro ds env H nx m todo ob eq s hs;subst hs;exact ⟨List.suffix_refl _,List.suffix_refl _⟩
  | succ fuel ih =>
    intro ds env H nx m todo ob eq s hs
    unfold adv at hs
    have stay:∀ todo,(env,H,nx,m,todo,ob,eq)=s->ob <:+ s.ob/\eq <:+ s.eq:=λtodo hs=>by subst hs;exact ⟨List.suffix_refl _,List.suffix_refl _⟩
    have more:∀ {x:Ob},x :: ob <:+ s.ob/\eq <:+ s.eq->ob <:+ s.ob/\eq <:+ s.eq:=λh=>⟨(List.suffix_cons _ _).trans h.1,h.2⟩
    split at hs
    case h_13 =>
      split at hs
      · split at hs
        · split at hs
          · rename_i hso
            obtain ⟨g1,g2⟩:=stepOp_suf hso
            split at hs
            · split at hs
              · split at hs
                · exact ⟨g1.trans (ih _ _ _ _ _ _ _ _ hs).1,g2.trans (ih _ _ _ _ _ _ _ _ hs).2⟩
                · exact stay _ hs
              · exact stay _ hs
            · split at hs
              · exact ⟨g1.trans (ih _ _ _ _ _ _ _ _ hs).1,g2.trans (ih _ _ _ _ _ _ _ _ hs).2⟩
              · exact stay _ hs
          · exact stay _ hs
        · split at hs
          · split at hs
            · exact ih _ _ _ _ _ _ _ _ hs
            · exact stay _ hs
          · exact ih _ _ _ _ _ _ _ _ hs
        · split at hs
          · exact more (ih _ _ _ _ _ _ _ _ hs)
          · exact more (ih _ _ _ _ _ _ _ _ hs)
          · exact stay _ hs
        · exact stay _ hs
      · exact stay _ hs
    all_goals
      first
        | exact ih _ _ _ _ _ _ _ _ hs
        | exact stay _ hs
        | (split at hs
           all_goals first
             | exact ih _ _ _ _ _ _ _ _ hs
             | exact stay _ hs
             | (split at hs
                all_goals first
                  | exact more (ih _ _ _ _ _ _ _ _ hs)
                  | exact stay _ hs))
theorem adv_ok (hk:tb.Ok P):∀ (fuel:Nat) (ds:List Bool) (env:SEnv) (H:Heap) (nx m:Nat) (todo:List Item) (ob:List Ob) (eq:List Eqn) {s:Sta},adv tb n fuel ds env H nx m todo ob eq=s →
    AllOb s.ob->AllEqn s.eq->RH P f n tb B0 S R s.2.2.2.2.1 s.1 s.2.1 s.2.2.1 s.2.2.2.1 I →
    (∀ w cs a,w.heap.size=m->St tb B0 H I w->Agree n a (kn env)->Goes P f n S R cs (lone (f.cfg a todo) cs w)):=by
  intro fuel
  induction fuel with
  | zero=>intro ds env H nx m todo ob eq s hs h1 h2 h3 w cs a hm hst ha;subst hs;exact h3 w hm hst cs a ha
  | succ fuel ih =>
    intro ds env H nx m todo ob eq s hs h1 h2 h3 w cs a hm hst ha
    unfold adv at hs
    have stay:∀ todo,(env,H,nx,m,todo,ob,eq)=s->Goes P f n S R cs (lone (f.cfg a todo) cs w):=λtodo hs=>by subst hs;exact h3 w hm hst cs a ha
    split at hs
    · exact Goes.of_step (stepR_skip (b:=base f) (a:=f.act a)) (ih _ _ _ _ _ _ _ _ hs h1 h2 h3 w cs a hm hst ha)
    · exact Goes.of_step (stepR_label (b:=base f) (a:=f.act a)) (ih _ _ _ _ _ _ _ _ hs h1 h2 h3 w cs a hm hst ha)
    · exact Goes.of_step (stepR_inBlock (b:=base f) (a:=f.act a)) (ih _ _ _ _ _ _ _ _ hs h1 h2 h3 w cs a hm hst ha)
    · exact Goes.of_step (stepR_inScope (b:=base f) (a:=f.act a)) (ih _ _ _ _ _ _ _ _ hs h1 h2 h3 w cs a hm hst ha)
    · exact Goes.of_step (stepR_seq (b:=base f) (a:=f.act a)) (ih _ _ _ _ _ _ _ _ hs h1 h2 h3 w cs a hm hst ha)
    · exact Goes.of_step (stepR_block (b:=base f) (a:=f.act a)) (ih _ _ _ _ _ _ _ _ hs h1 h2 h3 w cs a hm hst ha)
    · exact Goes.of_step (stepR_scope (b:=base f) (a:=f.act a)) (ih _ _ _ _ _ _ _ _ hs h1 h2 h3 w cs a hm hst ha)
    · split at hs
      · rename_i hx;exact Goes.of_step (stepR_exit (b:=base f) (a:=f.act a) hx) (ih _ _ _ _ _ _ _ _ hs h1 h2 h3 w cs a hm hst ha)
      · exact stay _ hs
    · split at hs
      · rename_i hx;exact Goes.of_step (stepR_goto (b:=base f) (a:=f.act a) hx) (ih _ _ _ _ _ _ _ _ hs h1 h2 h3 w cs a hm hst ha)
      · exact stay _ hs
    · split at hs
      · rename_i hc;exact Goes.of_step (stepR_cond (b:=base f) (a:=f.act a) (t:=true) (by rw [Fr.act_eval];exact ev_run ha (decE_yes hc))) (ih _ _ _ _ _ _ _ _ hs h1 h2 h3 w cs a hm hst ha)
      · rename_i hc;exact Goes.of_step (stepR_cond (b:=base f) (a:=f.act a) (t:=false) (by rw [Fr.act_eval];exact ev_run ha (decE_no hc))) (ih _ _ _ _ _ _ _ _ hs h1 h2 h3 w cs a hm hst ha)
      · rename_i t hc
        split at hs
        · have e:t=true:=(AllOb.suf (adv_suf _ _ _ _ _ _ _ _ _ hs).1 h1).1
          exact Goes.of_step (stepR_cond (b:=base f) (a:=f.act a) (t:=true) (by rw [Fr.act_eval,ev_run ha (decE_open hc),e];rfl)) (ih _ _ _ _ _ _ _ _ hs h1 h2 h3 w cs a hm hst ha)
        · have e:t=false:=(AllOb.suf (adv_suf _ _ _ _ _ _ _ _ _ hs).1 h1).1
          exact Goes.of_step (stepR_cond (b:=base f) (a:=f.act a) (t:=false) (by rw [Fr.act_eval,ev_run ha (decE_open hc),e];rfl)) (ih _ _ _ _ _ _ _ _ hs h1 h2 h3 w cs a hm hst ha)
        · exact stay _ hs
      · exact stay _ hs
    · exact Goes.of_step (stepR_region (b:=base f) (a:=f.act a)) (ih _ _ _ _ _ _ _ _ hs h1 h2 h3 w cs a hm hst ha)
    · exact Goes.of_step (stepR_region_end (b:=base f) (a:=f.act a)) (ih _ _ _ _ _ _ _ _ hs h1 h2 h3 w cs a hm hst ha)
    · split at hs
      · rename_i o ho
        rw [Array.getElem?_toList] at ho
        split at hs
        · rename_i hw
          split at hs
          · rename_i v H' nx' m' ob' eq' hso
            split at hs
            · rename_i e
              split at hs
              · rename_i d hd
                split at hs
                · rename_i hdn
                  have hdn':d < n:=Nat.lt_of_lt_of_le (Nat.lt_succ_self d) (Nat.le_of_ble_eq_true hdn)
                  obtain ⟨g1,g2⟩:=adv_suf _ _ _ _ _ _ _ _ _ hs
                  obtain ⟨w',q1,q2,q3,_⟩:=stepOp_ok hk ha hst hm hso (h1.suf g1) (h2.suf g2)
                  refine Goes.value ho (wantE_yes hw ha) q1 (ih _ _ _ _ _ _ _ _ hs h1 h2 h3 w' cs _ q3 q2 ?_)
                  rw [kn_cons,hd];exact ha.put hdn' _
                · exact stay _ hs
              · exact stay _ hs
            · split at hs
              · rename_i hd
                obtain ⟨g1,g2⟩:=adv_suf _ _ _ _ _ _ _ _ _ hs
                obtain ⟨w',q1,q2,q3,_⟩:=stepOp_ok hk ha hst hm hso (h1.suf g1) (h2.suf g2)
                refine Goes.skip ho (wantE_yes hw ha) q1 (ih _ _ _ _ _ _ _ _ hs h1 h2 h3 w' cs _ q3 q2 ?_)
                rw [hd];exact ha
              · exact stay _ hs
          · exact stay _ hs
        · rename_i hw
          split at hs
          · rename_i d hd
            split at hs
            · rename_i hdn
              have hdn':d < n:=Nat.lt_of_lt_of_le (Nat.lt_succ_self d) (Nat.le_of_ble_eq_true hdn)
              refine Goes.pass ho (wantE_no hw ha) (ih _ _ _ _ _ _ _ _ hs h1 h2 h3 w cs (a.put o.dst undef) hm hst ?_)
              rw [kn_cons,hd];exact ha.put hdn' _
            · exact stay _ hs
          · rename_i hd
            refine Goes.pass ho (wantE_no hw ha) (ih _ _ _ _ _ _ _ _ hs h1 h2 h3 w cs (a.put o.dst undef) hm hst ?_)
            rw [hd];exact ha
        · rename_i q t hw
          have hq:=kn_some (wantE_open hw)
          have hup:Agree n a ((kn env).upd q (.bool t)):=⟨ha.1,ha.2.1,λu v hv=>by
            unfold Env.upd at hv
            by_cases e':q=u
            · subst e';rw [if_pos rfl] at hv;injection hv with hv;subst hv;exact ha.2.2 _ _ hq
            · rw [if_neg e'] at hv;exact ha.2.2 _ _ hv⟩
          split at hs
          · have e:t=true:=(AllOb.suf (adv_suf _ _ _ _ _ _ _ _ _ hs).1 h1).1
            subst e
            exact ih _ _ _ _ _ _ _ _ hs h1 h2 h3 w cs a hm hst (by rw [kn_cons];exact hup)
          · have e:t=false:=(AllOb.suf (adv_suf _ _ _ _ _ _ _ _ _ hs).1 h1).1
            subst e
            exact ih _ _ _ _ _ _ _ _ hs h1 h2 h3 w cs a hm hst (by rw [kn_cons];exact hup)
          · exact stay _ hs
        · exact stay _ hs
      · exact stay _ hs
    · exact stay _ hs
variable {env':SEnv} {H':Heap} {nx' m':Nat} {todo':List Item} {ob:List Ob} {eq:List Eqn}
theorem RH.adv (hk:tb.Ok P) (ds:List Bool) (h:V.adv tb n 3000 ds env H nx m todo [] []=(env',H',nx',m',todo',ob,eq)) (heq:AllEqn eq) (hob:AllOb ob) (hr:RH P f n tb B0 S R todo' env' H' nx' m' I) :
    RH P f n tb B0 S R todo env H nx m I:=λw hm hst cs a ha=>adv_ok hk 3000 ds env H nx m todo [] [] h hob heq hr w cs a hm hst ha
end
class From (J:Nat->World->Prop):Prop where
  keeps:∀ b w w',b ≤ w.heap.size->Agr (λk=>k < b) w w'->J b w->J b w'
instance From.const (p:Prop):From (λ_ _=>p):=⟨λ_ _ _ _ _ h=>h⟩
instance From.and {J K:Nat->World->Prop} [From J] [From K]:From (λb w=>J b w/\K b w):=⟨λb w w' hb h hj=>⟨From.keeps b w w' hb h hj.1,From.keeps b w w' hb h hj.2⟩⟩
section
variable {P:Program} {f:Fr} {n:Nat} {S:Stops} {R:Ending->World->Prop} {tb:TT} {B0:Nat} {I:World->Prop} {H:Heap} {nx m:Nat} {env:SEnv} {todo k:List Item}
theorem St.grow {w₀ w:World} (hst:St tb B0 H I w₀) (he:Ext w₀ w) {J:Nat->World->Prop} [From J] (hj:J w₀.heap.size w):St tb B0 H (λw=>I w/\J w₀.heap.size w) w:=by
  have h1:=hst.ext he
  refine ⟨h1.base,h1.holds,h1.apart,λw' ha=>⟨h1.keeps w' ha,?_⟩⟩
  refine From.keeps _ w w' he.size (ha.mono ?_) hj
  rintro k _ ⟨id,x,hx,hb⟩
  exact (HE.lt (hst.holds id x hx) hb).2
theorem RH.facts (J:World->Prop) (h:∀ w,I w->J w) (hr:RH P f n tb B0 S R todo env H nx m J):RH P f n tb B0 S R todo env H nx m I :=
  λw hm hst=>hr w hm (hst.mono λw' _=>h w')
theorem RH.pure {p:Prop} (h:∀ w,I w->p) (hr:p->RH P f n tb B0 S R todo env H nx m I):RH P f n tb B0 S R todo env H nx m I :=
  λw hm hst=>hr (h w hst.fact) w hm hst
theorem RH.slots (E:SEnv) (hs:Sub E (kn env)) (hr:RH P f n tb B0 S R todo E H nx m I):RH P f n tb B0 S R todo env H nx m I :=
  λw hm hst=>Run.weaken _ hs.le (hr w hm hst)
def SubH (G H:Heap):Prop:=G.map (λp=>loH H p.1)=G.map (·.2)
theorem SubH.look:∀ {G H:Heap},SubH G H->∀ i x,loH G i=some x->loH H i=some x
  | [],_,_,_,_,h=>by cases h
  | (j,y) :: r,H,hs,i,x,h=>by
    unfold SubH at hs
    simp only [List.map_cons,List.cons.injEq] at hs
    rw [lookH_cons] at h
    by_cases e:j=i
    · subst e;rw [if_pos rfl] at h;rw [hs.1,h]
    · rw [if_neg e] at h;exact SubH.look (G:=r) hs.2 i x h
theorem St.sub {w:World} {G:Heap} (h:St tb B0 H I w) (hs:SubH G H):St tb B0 G I w where
  base:=h.base
  holds i x hx:=h.holds i x (hs.look i x hx)
  apart i j x y hij hx hy:=h.apart i j x y hij (hs.look i x hx) (hs.look j y hy)
  keeps w' ha:=h.keeps w' (ha.mono λk _=>by rintro ⟨i,x,hx,hb⟩;exact ⟨i,x,hs.look i x hx,hb⟩)
theorem RH.heap (G:Heap) (hs:SubH G H) (hr:RH P f n tb B0 S R todo env G nx m I):RH P f n tb B0 S R todo env H nx m I :=
  λw hm hst=>hr w hm (hst.sub hs)
theorem enterH {g:FuncId} {fn:Func} {c:Code} {l:List Value} {w:World} (_:tb.Ok P) (E:SEnv) (hf:P.funcs[g]? = some fn) (hb:fn.body=some c) (hn:fn.ntmps=n) (hl:Nat.ble l.length n=true) (hE:Sub E (λt=>l[t]?))
    (h:RH P (fr g) n tb w.heap.size [] R [.code c] E [] 0 w.heap.size (λw'=>Ext w w')):Calls P g l.toArray w R:=by
  refine enter hf hb hn hl (Run.weaken _ hE.le (h w rfl ⟨Nat.le_refl _,?_,?_,?_⟩))
  · intro id x hx;cases hx
  · intro i j x y _ hx;cases hx
  · intro w' ha
    refine ⟨ha.os,ha.tape,ha.output,ha.size,λk hk=>ha.block k hk ?_⟩
    rintro ⟨id,x,hx,_⟩;cases hx
variable {fn:Func}
theorem results0 (h:fn.results = #[]) (a:Act) {w:World}:(results fn a.tmps).run P w = .ok (.tuple #[]) w:=by simp [results,h]
theorem results1 {t:Tmp} {v:Value} {w:World} (h:fn.results = #[.tmp t]) {a:Act} (hv:a.tmps.getD t undef=v):(results fn a.tmps).run P w = .ok v w:=by
  subst hv;simp [results,h]
theorem results2 {t u:Tmp} {v x:Value} {w:World} (h:fn.results = #[.tmp t,.tmp u]) {a:Act} (hv:a.tmps.getD t undef=v) (hx:a.tmps.getD u undef=x):(results fn a.tmps).run P w = .ok (.tuple #[v,x]) w:=by
  subst hv;subst hx;simp [results,h]
theorem resultsC {t:Tmp} {T:TypeId} {p:Addr} {v:Value} {w:World} (h:fn.results = #[.cell t T]) {a:Act} (hp:a.tmps.getD t undef = .pointer (some p)) (hv:(loadVar T p).run P w = .ok v w):(results fn a.tmps).run P w = .ok v w:=by
  simp only [Array.getD_eq_getD_getElem?] at hp
  simp [results,h,hp,asAddr,hv]
theorem resultsCt {t u:Tmp} {T:TypeId} {p:Addr} {v x:Value} {w:World} (h:fn.results = #[.cell t T,.tmp u]) {a:Act} (hp:a.tmps.getD t undef = .pointer (some p)) (hv:(loadVar T p).run P w = .ok v w) (hx:a.tmps.getD u undef=x):(results fn a.tmps).run P w = .ok (.tuple #[v,x]) w:=by
  subst hx
  simp only [Array.getD_eq_getD_getElem?] at hp
  simp [results,h,hp,asAddr,hv]
theorem kn_look {t:Nat} {e:EV} (h:lookE env t=some e) {a:Act} (ha:Agree n a (kn env)):a.tmps.getD t undef=e.v:=ha.2.2 _ _ (kn_some h)
theorem RH.ret0 {g:FuncId} (hf:P.funcs[g]? = some fn) (hr:fn.results = #[]) (hR:∀ w,St tb B0 H I w->R (.returned (.tuple #[])) w):RH P (fr g) n tb B0 S R (.code .ret :: k) env H nx m I :=
  λw _ hst=>Run.ret hf (λa _=>results0 hr a) (hR w hst)
theorem RH.fin0 {g:FuncId} (hf:P.funcs[g]? = some fn) (hr:fn.results = #[]) (hR:∀ w,St tb B0 H I w->R (.returned (.tuple #[])) w):RH P (fr g) n tb B0 S R [] env H nx m I :=
  λw _ hst=>Run.fin hf (λa _=>results0 hr a) (hR w hst)
theorem RH.ret1 {g:FuncId} {t:Tmp} {e:EV} (hf:P.funcs[g]? = some fn) (hr:fn.results = #[.tmp t]) (hv:lookE env t=some e) (hR:∀ w,St tb B0 H I w->R (.returned e.v) w):RH P (fr g) n tb B0 S R (.code .ret :: k) env H nx m I :=
  λw _ hst=>Run.ret hf (λ_ ha=>results1 hr (kn_look hv ha)) (hR w hst)
theorem RH.ret2 {g:FuncId} {t u:Tmp} {e e2:EV} (hf:P.funcs[g]? = some fn) (hr:fn.results = #[.tmp t,.tmp u]) (hv:lookE env t=some e) (hx:lookE env u=some e2) (hR:∀ w,St tb B0 H I w->R (.returned (.tuple #[e.v,e2.v])) w):RH P (fr g) n tb B0 S R (.code .ret :: k) env H nx m I :=
  λw _ hst=>Run.ret hf (λ_ ha=>results2 hr (kn_look hv ha) (kn_look hx ha)) (hR w hst)
def evsE (env:SEnv):List Operand->Option (List EV)
  | []=>some []
  | x :: r=>match evE env x with
    | some e=>match evsE env r with
      | some es=>some (e :: es)
      | none=>none
    | none=>none
theorem evsE_eq {a:Act} (ha:Agree n a (kn env)):∀ {l:List Operand} {es:List EV},evsE env l=some es->l.map a.eval=es.map EV.v
  | [],es,h=>by cases h;rfl
  | x :: r,es,h=>by
    simp only [evsE] at h
    split at h
    · rename_i e he
      split at h
      · rename_i us hu
        injection h with h;subst h
        rw [List.map_cons,List.map_cons,ev_run ha he,evsE_eq ha hu]
      · cases h
    · cases h
theorem RH.call {ops:Array Oper} {i:Nat} {rest:List Nat} {d:Nat} {fo:Operand} {args:Array Operand} {tys:Array TypeId} {ty:TypeId} {ps:String} {af:Array Edge} {gd:Option (Nat × Bool)} {g:FuncId} {es:List EV} {α:Type}
    (V:α->EV) (J:α->Nat->World->Prop) [∀ x,From (J x)]
    (ho:ops.toList[i]? = some ⟨some d,.call ⟨.value fo,args,tys⟩,ty,ps,af,gd⟩) (hw:wantE env ops gd = .yes) (hd:Nat.blt d n=true)
    (hf:evE env fo=some (.av (.val (.func (.func g) #[] #[])))) (hes:evsE env args.toList=some es)
    (hc:∀ w,(callFunc g (es.map EV.v).toArray).run P w = .ok (.enter g (es.map EV.v).toArray) w)
    (hC:∀ w,I w->Calls P g (es.map EV.v).toArray w (λe w'=>∃ x,e = .returned (V x).v/\Ext w w'/\J x w.heap.size w'))
    (hk:∀ x m',m ≤ m'->RH P f n tb B0 S R (.inRegion ops rest :: k) ((d,V x) :: env) H nx m' (λw=>I w/\J x m w)) :
    RH P f n tb B0 S R (.inRegion ops (i :: rest) :: k) env H nx m I:=by
  intro w hm hst
  rw [Array.getElem?_toList] at ho
  have hdn:d < n:=Nat.lt_of_lt_of_le (Nat.lt_succ_self d) (Nat.le_of_ble_eq_true hd)
  refine Run.op ho (λa ha=>wantE_yes (o:=⟨some d,.call ⟨.value fo,args,tys⟩,ty,ps,af,gd⟩) hw ha) λa ha=>?_
  have hrun:(execOp a.eval ⟨some d,.call ⟨.value fo,args,tys⟩,ty,ps,af,gd⟩).run P w = .ok (.enter g (es.map EV.v).toArray) w:=by
    have h1:=evsE_eq ha hes
    have h2:args.map a.eval=(es.map EV.v).toArray:=by rw [← h1,← Array.toList_map]
    simp only [execOp,resolve,Deferred.ofValue,ev_run ha hf,EV.v,AV.v,h2,Sem.run_bind,Sem.run_pure,Result.andThen_ok,invoke,Array.empty_append,Array.append_empty]
    exact hc w
  unfold Oper.wp
  rw [hrun]
  refine (hC w hst.fact).mono ?_
  rintro e w' ⟨x,rfl,he,hj⟩
  subst hm
  exact ⟨(kn env).upd d (V x).v,ha.put hdn _,by rw [← kn_cons];exact hk x w'.heap.size he.size w' rfl (hst.grow he hj)⟩
def Gives (P:Program) (g:FuncId) (args:List Value) (w:World) (e:EV):Prop:=Calls P g args.toArray w (λx w'=>x = .returned e.v/\Ext w w')
theorem RH.read {ops:Array Oper} {i:Nat} {rest:List Nat} {o:Oper} {d:Nat} (e:EV) (ho:ops.toList[i]? = some o) (hdst:o.dst=some d) (hw:wantE env ops o.guard = .yes) (hd:Nat.blt d n=true)
    (hv:∀ w a,I w->Agree n a (kn env)->(execOp a.eval o).run P w = .ok (.value e.v) w)
    (hk:RH P f n tb B0 S R (.inRegion ops rest :: k) ((d,e) :: env) H nx m I):RH P f n tb B0 S R (.inRegion ops (i :: rest) :: k) env H nx m I:=by
  intro w hm hst
  rw [Array.getElem?_toList] at ho
  have hdn:d < n:=Nat.lt_of_lt_of_le (Nat.lt_succ_self d) (Nat.le_of_ble_eq_true hd)
  refine Run.value ho hdst hdn (λa ha=>wantE_yes hw ha) (λa ha=>hv w a hst.fact ha) ?_
  rw [← kn_cons]
  exact hk w hm hst
theorem RH.load {ops:Array Oper} {i:Nat} {rest:List Nat} {d:Nat} {T:TypeId} {x:Operand} {ty:TypeId} {ps:String} {af:Array Edge} {gd:Option (Nat × Bool)} {p:Addr} (e:EV)
    (ho:ops.toList[i]? = some ⟨some d,.load T x,ty,ps,af,gd⟩) (hw:wantE env ops gd = .yes) (hd:Nat.blt d n=true) (hx:evE env x=some (.av (.val (.pointer (some p)))))
    (hv:∀ w,I w->(loadVar T p).run P w = .ok e.v w)
    (hk:RH P f n tb B0 S R (.inRegion ops rest :: k) ((d,e) :: env) H nx m I):RH P f n tb B0 S R (.inRegion ops (i :: rest) :: k) env H nx m I :=
  RH.read e ho rfl hw hd (λw a hI ha=>by simp [execOp,Instr.loadAt,ev_run ha hx,EV.v,AV.v,Instr.sureAddr,hv w hI]) hk
theorem RH.loop {body:Code} {α:Type} (E:α->SEnv) (G:α->Heap) (F:α->World->Prop) (μ:α->Nat) (x:α) (hs:Sub (E x) (kn env)) (hG:SubH (G x) H) (hF:∀ w,I w->F x w)
    (h:∀ x m,RH P f n tb B0 ((.inLoop body :: k,λds K w=>∃ y,(ds=f.ds/\Sub (E y) K/\St tb B0 (G y) (F y) w)/\μ y < μ x) :: S) R (.code body :: .inLoop body :: k) (E x) (G x) nx m (F x)) :
    RH P f n tb B0 S R (.code (.loop body) :: k) env H nx m I:=by
  intro w hm hst
  refine Run.loop (λy ds K w=>ds=f.ds/\Sub (E y) K/\St tb B0 (G y) (F y) w) μ x ⟨rfl,hs,(hst.sub hG).mono λw' _=>hF w'⟩ ?_
  rintro y ds K w' ⟨rfl,h1,h2⟩
  exact Run.weaken _ h1.le (h y w'.heap.size w' rfl h2)
theorem RH.again {α:Type} {E:α->SEnv} {G:α->Heap} {F:α->World->Prop} {μ:α->Nat} {b:Nat} (y:α) (hm:(todo,λds K w=>∃ y,(ds=f.ds/\Sub (E y) K/\St tb B0 (G y) (F y) w)/\μ y < b) ∈ S)
    (hs:Sub (E y) (kn env)) (hG:SubH (G y) H) (hμ:μ y < b) (hF:∀ w,I w->F y w):RH P f n tb B0 S R todo env H nx m I :=
  λ_ _ hst=>Run.stop hm ⟨y,⟨rfl,hs,(hst.sub hG).mono λw' _=>hF w'⟩,hμ⟩
theorem RH.join {α:Type} (k:List Item) (E:α->SEnv) (G:α->Heap) (F:α->World->Prop)
    (h1:RH P f n tb B0 ((k,λds K w=>∃ y,ds=f.ds/\Sub (E y) K/\St tb B0 (G y) (F y) w) :: S) R todo env H nx m I)
    (h2:∀ y m',RH P f n tb B0 S R k (E y) (G y) nx m' (F y)):RH P f n tb B0 S R todo env H nx m I:=by
  intro w hm hst
  refine Run.join _ _ (h1 w hm hst) ?_
  rintro ds K w' ⟨y,rfl,hs,hst'⟩
  exact Run.weaken _ hs.le (h2 y _ w' rfl hst')
theorem RH.meet {α:Type} {E:α->SEnv} {G:α->Heap} {F:α->World->Prop} (y:α) (hm:(todo,λds K w=>∃ y,ds=f.ds/\Sub (E y) K/\St tb B0 (G y) (F y) w) ∈ S)
    (hs:Sub (E y) (kn env)) (hG:SubH (G y) H) (hF:∀ w,I w->F y w):RH P f n tb B0 S R todo env H nx m I :=
  λ_ _ hst=>Run.stop hm ⟨y,rfl,hs,(hst.sub hG).mono λw' _=>hF w'⟩
theorem RH.joinD {α:Type} (k:List Item) (D:α->List Nat) (E:α->SEnv) (G:α->Heap) (F:α->World->Prop)
    (h1:RH P f n tb B0 ((k,λds K w=>∃ y,ds=D y/\Sub (E y) K/\St tb B0 (G y) (F y) w) :: S) R todo env H nx m I)
    (h2:∀ y m',RH P { f with ds:=D y } n tb B0 S R k (E y) (G y) nx m' (F y)):RH P f n tb B0 S R todo env H nx m I:=by
  intro w hm hst
  refine Run.join _ _ (h1 w hm hst) ?_
  rintro ds K w' ⟨y,rfl,hs,hst'⟩
  exact Run.weaken _ hs.le (h2 y _ w' rfl hst')
theorem RH.leave {j:Option Code} (hl:Lv todo j) (hJ:∀ w,St tb B0 H I w->f.J j w):RH P f n tb B0 S R todo env H nx m I :=
  λw _ hst=>Run.leave hl (hJ w hst)
end
end Go.Proofs.YtbfjmimiigjenaaGreatDoor.V
