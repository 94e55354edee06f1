/-
Lemmas. No condition.
-/
import Derived.RangeFuncLeaves
import Derived.RangeFuncRecord
import Derived.Test.YtbfjmimiigjenaaGreatDoorKVCall
set_option linter.unusedVariables false
set_option linter.unusedSectionVars false
set_option linter.unusedSimpArgs false
namespace Go.Proofs.YtbfjmimiigjenaaGreatDoor.V
open Go Go.RowKit
section
variable {P:Program} {tb:TT} {B0:Nat} {w:World} {G R:Heap} {I:World->Prop}
theorem St.merge (h:St tb B0 G (λu=>St tb B0 R I u) w):St tb B0 (comb G R) I w :=
  (St.back (R:=R) (I:=I) (J:=λ_ _=>True) (m:=w.heap.size) (λk z hz b hb=>(HE.lt (h.fact.holds k z hz) hb).2) (h.mono λu ha hi=>⟨⟨ha.size,hi⟩,trivial⟩)).mono λu _ hu=>hu.1
theorem St.split (h:St tb B0 (comb G R) I w):St tb B0 G (λu=>St tb B0 R I u) w where
  base:=h.base
  holds i x hx:=h.holds (2*i) x (by rw [lookH_even];exact hx)
  apart i j x y hij hx hy:=h.apart (2*i) (2*j) x y (by omega) (by rw [lookH_even];exact hx) (by rw [lookH_even];exact hy)
  keeps u ha:=by
    refine ⟨Nat.le_trans h.base ha.size,?_,?_,?_⟩
    · intro k z hz
      have h1:=h.holds (2*k+1) z (by rw [lookH_odd];exact hz)
      refine HE.kept h1 λb hb=>ha.block b (HE.lt h1 hb).2 ?_
      rintro ⟨i,x,hx,hxb⟩
      exact h.apart (2*i) (2*k+1) x z (by omega) (by rw [lookH_even];exact hx) (by rw [lookH_odd];exact hz) b hxb hb
    · intro i j x y hij hx hy
      exact h.apart (2*i+1) (2*j+1) x y (by omega) (by rw [lookH_odd];exact hx) (by rw [lookH_odd];exact hy)
    · intro u' ha'
      refine h.keeps u' (Agr.trans (b:=u) (ha.mono λk _=>?_) (ha'.mono λk _=>?_))
      · rintro ⟨i,x,hx,hb⟩
        exact ⟨2*i,x,by rw [lookH_even];exact hx,hb⟩
      · rintro ⟨i,x,hx,hb⟩
        exact ⟨2*i+1,x,by rw [lookH_odd];exact hx,hb⟩
theorem St.flip (h:St tb B0 (comb G R) I w):St tb B0 (comb R G) I w where
  base:=h.base
  holds k x hx:=by
    rcases lookH_comb hx with ⟨i,rfl,hi⟩|⟨i,rfl,hi⟩
    · exact h.holds (2*i+1) x (by rw [lookH_odd];exact hi)
    · exact h.holds (2*i) x (by rw [lookH_even];exact hi)
  apart k l x y hkl hx hy:=by
    rcases lookH_comb hx with ⟨i,rfl,hi⟩|⟨i,rfl,hi⟩<;>rcases lookH_comb hy with ⟨j,rfl,hj⟩|⟨j,rfl,hj⟩
    · exact h.apart (2*i+1) (2*j+1) x y (by omega) (by rw [lookH_odd];exact hi) (by rw [lookH_odd];exact hj)
    · exact h.apart (2*i+1) (2*j) x y (by omega) (by rw [lookH_odd];exact hi) (by rw [lookH_even];exact hj)
    · exact h.apart (2*i) (2*j+1) x y (by omega) (by rw [lookH_even];exact hi) (by rw [lookH_odd];exact hj)
    · exact h.apart (2*i) (2*j) x y (by omega) (by rw [lookH_even];exact hi) (by rw [lookH_even];exact hj)
  keeps u ha:=h.keeps u (ha.mono λk _=>by
    rintro ⟨j,x,hx,hb⟩
    rcases lookH_comb hx with ⟨i,rfl,hi⟩|⟨i,rfl,hi⟩
    · exact ⟨2*i+1,x,by rw [lookH_odd];exact hi,hb⟩
    · exact ⟨2*i,x,by rw [lookH_even];exact hi,hb⟩)
theorem St.swap (h:St tb B0 G (λu=>St tb B0 R I u) w):St tb B0 R (λu=>St tb B0 G I u) w:=h.merge.flip.split
theorem St.congr {H H':Heap} (h:St tb B0 H I w) (he:∀ k x,loH H' k=some x->loH H k=some x):St tb B0 H' I w where
  base:=h.base
  holds i x hx:=h.holds i x (he i x hx)
  apart i j x y hij hx hy:=h.apart i j x y hij (he i x hx) (he j y hy)
  keeps u ha:=h.keeps u (ha.mono λk _=>by rintro ⟨i,x,hx,hb⟩;exact ⟨i,x,he i x hx,hb⟩)
end
def Yields (P:Program) (l:Nat) (args:List Value) (w:World) (Q:Bool->World->Prop):Prop :=
  ∃ fn tmps assign body,(Instr.yield l args.toArray).run P w = .ok (.round l fn tmps assign body) w ∧
    ∀ (c:Frame) (cs:List Frame),∃ b w',Q b w'/\Steps P (lone (Frame.round l fn tmps assign body .normal) (c :: cs) w) (lone (c.finish (.bool b)) cs w')
theorem Yields.mono {P:Program} {l:Nat} {args:List Value} {w:World} {Q Q':Bool->World->Prop} (h:Yields P l args w Q) (hq:∀ b w',Q b w'->Q' b w'):Yields P l args w Q':=by
  obtain ⟨fn,tmps,assign,body,h1,h2⟩:=h
  exact ⟨fn,tmps,assign,body,h1,λc cs=>let ⟨b,w',h3,h4⟩:=h2 c cs;⟨b,w',hq b w' h3,h4⟩⟩
section
variable {P:Program} {f:Fr} {n:Nat} {S:Stops} {R:Ending->World->Prop} {tb:TT} {B0:Nat} {I:World->Prop} {H:Heap} {nx m:Nat} {env:SEnv} {todo k:List Item}
theorem RH.yield {α β:Type} {It:α->World->Prop} {If:β->World->Prop} {ops:Array Oper} {i:Nat} {rs:List Nat} {d l:Nat} {fo:Operand} {args:Array Operand} {tys:Array TypeId} {ty:TypeId} {ps:String} {af:Array Edge} {gd:Option (Nat × Bool)} {es:List EV}
    (ho:ops.toList[i]? = some ⟨some d,.call ⟨.value fo,args,tys⟩,ty,ps,af,gd⟩) (hw:wantE env ops gd = .yes) (hd:Nat.blt d n=true) (hf:evE env fo=some (.av (.val (.func (.yield l) #[] #[])))) (hes:evsE env args.toList=some es)
    (hY:∀ w,St tb B0 H I w->Yields P l (es.map EV.v) w (λb w'=>w.heap.size ≤ w'.heap.size/\((b=true/\∃ x,St tb B0 H (It x) w') ∨ (b=false/\∃ y,St tb B0 H (If y) w'))))
    (ht:∀ x m',m ≤ m'->RH P f n tb B0 S R (.inRegion ops rs :: k) ((d,.tt) :: env) H nx m' (It x))
    (hff:∀ y m',m ≤ m'->RH P f n tb B0 S R (.inRegion ops rs :: k) ((d,.ff) :: env) H nx m' (If y)) :
    RH P f n tb B0 S R (.inRegion ops (i :: rs) :: k) env H nx m I:=by
  intro w hm hst cs a ha
  rw [Array.getElem?_toList] at ho
  have hdn:d < n:=Nat.lt_of_lt_of_le (Nat.lt_succ_self d) (Nat.le_of_ble_eq_true hd)
  have hwa:=wantE_yes (o:=⟨some d,.call ⟨.value fo,args,tys⟩,ty,ps,af,gd⟩) hw ha
  have h1:=evsE_eq ha hes
  have h2:args.map a.eval=(es.map EV.v).toArray:=by rw [← h1,← Array.toList_map]
  obtain ⟨fn,tmps,assign,body,hy,hround⟩:=hY w hst
  have hrun:(execOp a.eval ⟨some d,.call ⟨.value fo,args,tys⟩,ty,ps,af,gd⟩).run P w = .ok (.round l fn tmps assign body) w:=by
    have hfv:a.eval fo = .func (.yield l) #[] #[]:=ev_run ha hf
    simp only [execOp,resolve,Deferred.ofValue,hfv,h2,Sem.run_bind,Sem.run_pure,Result.andThen_ok,invoke,Array.empty_append,Array.append_empty]
    exact hy
  have hg:=stepGF_op (P:=P) (f:=f) (k:=k) (cs:=cs) (w:=w) (rest:=rs) ho hwa (not_defer_of hrun λ_=>nofun)
  have hfin:=λv=>finishF (f:=f) (k:=k) (rest:=rs) (a:=a) ho v
  obtain ⟨b,w',⟨hsz,hb⟩,hsteps⟩:=hround (f.cfg a (.inRegion ops (i :: rs) :: k)) cs
  refine Goes.of_steps (.head (step_lone_go (fr':=Frame.round l fn tmps assign body .normal) (cs':=f.cfg a (.inRegion ops (i :: rs) :: k) :: cs) (w':=w) ?_) hsteps) ?_
  · rw [hg];simp [stepG.apply,hrun]
  · rw [hfin]
    subst hm
    rcases hb with ⟨rfl,x,hx⟩|⟨rfl,y,hy⟩
    · exact ht x w'.heap.size hsz w' rfl hx cs _ (by rw [kn_cons];exact ha.put hdn _)
    · exact hff y w'.heap.size hsz w' rfl hy cs _ (by rw [kn_cons];exact ha.put hdn _)
def Iter (P:Program) (tb:TT) (g:FuncId) (args:Value->List Value) (Gi:Heap) (pre:World->Prop) {β:Type} (xs:List β) (enc:β->List Value) (G':Heap):Prop :=
  ∀ (α σ:Type) (B0 l:Nat) (Z:Nat->α->World->Prop) (Zs:Nat->σ->World->Prop),(∀ i x u,Z i x u->pre u) →
    (∀ i (h:i < xs.length) x Hg w,St tb B0 Hg (Z i x) w->Yields P l (enc xs[i]) w (λb w'=>w.heap.size ≤ w'.heap.size/\((b=true/\∃ y,St tb B0 Hg (Z (i+1) y) w') ∨ (b=false/\∃ y,St tb B0 Hg (Zs i y) w')))) →
    ∀ x w,St tb B0 Gi (Z 0 x) w->Calls P g (args (.func (.yield l) #[] #[])).toArray w (λe w'=>(∃ v,e = .returned v)/\w.heap.size ≤ w'.heap.size/\((∃ y,St tb B0 G' (Z xs.length y) w') ∨ ∃ i G2 y,i < xs.length/\St tb B0 G2 (Zs i y) w'))
def recO (fn:FuncId) (t:Array Value) (ps:Array Tmp) (assign body:Code) (D:Nat) (st:LoopState) (pd:Option Code):Obj :=
  .loop { state:=st,pending:=pd,fn,tmps:=t,params:=ps,assign,body,defers:=D }
abbrev recE (l:Nat) (fn:FuncId) (t:Array Value) (ps:Array Tmp) (assign body:Code) (D:Nat) (st:LoopState) (pd:Option Code):Option HE:=some (.obj l (recO fn t ps assign body D st pd))
abbrev defE (D:Nat):Option HE:=some (.obj D (.deferred (some [])))
theorem St.putObj {w:World} {id l:Nat} {o o':Obj} (h:St tb B0 H I w) (hH:loH H id=some (.obj l o)):St tb B0 ((id,some (.obj l o')) :: H) I (w.putObj l o'):=by
  have ho:=h.holds id _ hH
  have hlt:l < w.heap.size:=(Array.getElem?_eq_some_iff.1 ho.2).1
  exact h.turn id _ (.obj l o') hH ⟨rfl,rfl,rfl,by simp,λk _ hk=>World.putObj_heap_other λe=>hk (by rw [e];rfl)⟩ ⟨ho.1,World.putObj_heap_same hlt⟩ λk hk=>.inl hk
theorem RH.beginRound {id l:Nat} {fn:FuncId} {t:Array Value} {ps:Array Tmp} {assign body:Code} {D:Nat} {pd:Option Code} (hf:f.round=some l) (hH:loH H id=recE l fn t ps assign body D .ready pd)
    (hk:RH P f n tb B0 S R k env ((id,recE l fn t ps assign body D .busy pd) :: H) nx m I):RH P f n tb B0 S R (.beginRound :: k) env H nx m I:=by
  intro w hm hst cs a ha
  have ho:=hst.holds id _ hH
  have hr:=run_beginRound (P:=P) (w:=w) ho.2 rfl
  refine Goes.of_step (stepR_beginRound (b:=base f) (a:=f.act a) hf hr) ?_
  exact hk _ (by simpa using hm) (hst.putObj hH) cs a ha
theorem enc_agree {t:Array Value}:∀ {ps:List Tmp} {es:List EV} {env:SEnv} {t:Array Value},Agree n { tmps:=t,defers:=[] } (kn env)->ps.all (λp=>Nat.blt p n)=true →
    Agree n { tmps:=(ps.zip (es.map EV.v)).foldl (λt (p,v)=>t.setIfInBounds p v) t,defers:=[] } (kn ((ps.zip es).reverse ++ env))
  | [],_,_,_,h,_=>by simpa using h
  | p :: r,[],_,_,h,_=>by simpa using h
  | p :: r,e :: s,env,t,h,hp=>by
    simp only [List.all_cons,Bool.and_eq_true] at hp
    have hpn:p < n:=Nat.lt_of_lt_of_le (Nat.lt_succ_self p) (Nat.le_of_ble_eq_true hp.1)
    have h1:Agree n { tmps:=t.setIfInBounds p e.v,defers:=[] } (kn ((p,e) :: env)):=by rw [kn_cons];exact h.put hpn e.v
    have:=enc_agree (t:=#[]) (ps:=r) (es:=s) h1 hp.2
    simpa using this
theorem run_takeD {w:World} {D:Nat} (h:w.heap[D]? = some (.deferred (some []))):(Instr.takeDeferred D).run P w = .ok [] (w.putObj D (.deferred none)):=run_takeDeferred h
def defs:List Nat->Heap
  | []=>[]
  | d :: r=>(r.length,defE d) :: defs r
theorem defs_lt:∀ {l:List Nat} {k:Nat} {x:HE},loH (defs l) k=some x->k < l.length
  | [],_,_,h=>by cases h
  | d :: r,k,x,h=>by
    unfold defs at h
    rw [lookH_cons] at h
    split at h
    · rename_i e;subst e;simp
    · have:=defs_lt h;simp;omega
abbrev Def (tb:TT) (B0:Nat) (ds:List Nat) (K:World->Prop) (u:World):Prop:=St tb B0 (defs ds) K u
theorem RH.defs0 (h:RH P f n tb B0 S R todo env H nx m (Def tb B0 [] I)):RH P f n tb B0 S R todo env H nx m I:=by
  intro w hm hst
  refine h w hm ((hst.mono (J:=λu=>B0 ≤ u.heap.size/\I u) λu ha hi=>⟨Nat.le_trans hst.base ha.size,hi⟩) |> λh2=>?_)
  have hk:St tb B0 [] (λu=>St tb B0 H I u) w:=⟨hst.base,λ_ _ hx=>(by cases hx),λ_ _ _ _ _ hx=>(by cases hx),λu ha=>hst.ext ⟨ha.os,ha.tape,ha.output,ha.size,λk hk=>ha.block k hk (by rintro ⟨_,_,hx,_⟩;cases hx)⟩⟩
  exact hk.swap
theorem St.one {j:Nat} {x:HE} {Hz:Heap} {w:World} (h:St tb B0 ((j,some x) :: Hz) I w):St tb B0 [(0,some x)] (λu=>St tb B0 ((j,none) :: Hz) I u) w:=by
  have hl:=h.lend (G:=[(0,some x)]) [(0,j)] ⟨λi y hy=>?_,λi k y z hy hz _=>?_⟩
  · refine hl.mono λu _ hu=>hu.2.congr λk y hy=>?_
    unfold rest
    simp only [List.map_cons,List.map_nil,List.cons_append,List.nil_append]
    rw [lookH_cons] at hy ⊢
    have hj:ren [(0,j)] 0=j:=rfl
    rw [hj]
    split at hy
    · cases hy
    · rename_i e;rw [if_neg e,lookH_cons,if_neg e];exact hy
  · rw [lookH_cons] at hy
    split at hy
    · rename_i e;subst e;injection hy with hy;subst hy
      exact ⟨x,by rw [show ren [(0,j)] 0=j from rfl,lookH_cons,if_pos rfl],rfl⟩
    · cases hy
  · rw [lookH_cons] at hy hz
    split at hy<;>split at hz
    · omega
    · cases hz
    · cases hy
    · cases hz
theorem St.putDef {j D:Nat} {ds:List Nat} {Hz:Heap} {w:World} {K:World->Prop} (h:St tb B0 ((j,defE D) :: Hz) (Def tb B0 ds K) w):St tb B0 ((j,none) :: Hz) (Def tb B0 (D :: ds) K) w:=by
  have h1:=h.one.mono (J:=λu=>St tb B0 (defs ds) (λv=>St tb B0 ((j,none) :: Hz) K v) u) λu _ hu=>hu.swap
  have h2:=h1.merge
  have h3:St tb B0 (defs (D :: ds)) (λv=>St tb B0 ((j,none) :: Hz) K v) w:=by
    refine h2.sel (τ:=λk=>if k=ds.length then 0 else 2*k+1) ⟨λi x hx=>?_,λi k x y hx hy e=>?_⟩
    · unfold defs at hx
      rw [lookH_cons] at hx
      split at hx
      · rename_i e
        refine ⟨x,?_,rfl⟩
        rw [if_pos e.symm]
        have:=lookH_even [(0,defE D)] (defs ds) 0
        rw [show 2*0=0 from rfl] at this
        rw [this,lookH_cons,if_pos rfl];exact hx
      · rename_i e
        refine ⟨x,?_,rfl⟩
        rw [if_neg (λh=>e h.symm),lookH_odd];exact hx
    · split at e<;>split at e<;>omega
  exact h3.swap
theorem leaves_D {cs:List Frame}:∀ (ds:List Nat) (w:World) (fr:Frame),fr.mode = .returning->fr.defers=ds.map (λb=>{ target:=.collected b,args:=#[] })->St tb B0 (defs ds) I w →
    ∃ w',I w'/\Steps P (lone fr cs w) (lone { fr with defers:=[] } cs w')
  | [],w,fr,hm,hd,hst=>⟨w,hst.fact,by
      have:({ fr with defers:=[] }:Frame)=fr:=by cases fr;simp at hd;subst hd;rfl
      rw [this];exact Steps.refl _ _⟩
  | d :: r,w,fr,hm,hd,hst=>by
    have h1:loH (defs (d :: r)) r.length=defE d:=by unfold defs;rw [lookH_cons,if_pos rfl]
    have ho:=hst.holds _ _ h1
    have hp:St tb B0 (defs r) I (w.putObj d (.deferred none)):=by
      refine ((hst.putObj (o':=.deferred none) h1).give r.length).congr λk x hx=>?_
      have hlt:=defs_lt hx
      rw [lookH_cons,if_neg (by omega),lookH_cons,if_neg (by omega)]
      unfold defs
      rw [lookH_cons,if_neg (by omega)];exact hx
    have hs:=step_collected (P:=P) (cs:=cs) (by rw [hm];exact nofun) hd rfl (run_takeD ho.2)
    obtain ⟨w',h3,h4⟩:=leaves_D r _ { fr with defers:=[] ++ r.map (λb=>{ target:=.collected b,args:=#[] }) } hm rfl hp
    exact ⟨w',h3,.head hs h4⟩
theorem RH.retD {g:FuncId} {ds:List Nat} {fn:Func} {K:World->Prop} (v:Value) (hf:P.funcs[g]? = some fn)
    (hr:∀ w a,St tb B0 H K w->Agree n a (kn env)->(results fn a.tmps).run P w = .ok v w) (hR:∀ w,St tb B0 H K w->R (.returned v) w) :
    RH P { fn:=g,ds:=ds } n tb B0 S R (.code .ret :: k) env H nx m (Def tb B0 ds K):=by
  intro w hm hst cs a ha
  have h1:=stepR_ret (P:=P) (b:=base { fn:=g,ds:=ds }) (a:=Fr.act { fn:=g,ds:=ds } a) (k:=k) (cs:=cs) (w:=w) rfl
  obtain ⟨w',h2,h3⟩:=leaves_D (P:=P) (cs:=cs) ds w { (base { fn:=g,ds:=ds }).atR (Fr.act { fn:=g,ds:=ds } a) (.code .ret :: k) with mode:=.returning } rfl (by show a.defers ++ _=_;rw [ha.1];rfl) hst.swap
  exact .inl ⟨.returned v,w',_,hR w' h2,.head h1 h3,rfl,rfl,rfl,rfl,fn,hf,hr w' a h2 ha⟩
theorem RH.finD {g:FuncId} {ds:List Nat} {fn:Func} {K:World->Prop} (v:Value) (hf:P.funcs[g]? = some fn)
    (hr:∀ w a,St tb B0 H K w->Agree n a (kn env)->(results fn a.tmps).run P w = .ok v w) (hR:∀ w,St tb B0 H K w->R (.returned v) w) :
    RH P { fn:=g,ds:=ds } n tb B0 S R [] env H nx m (Def tb B0 ds K):=by
  intro w hm hst cs a ha
  have h1:=stepR_end (P:=P) (b:=base { fn:=g,ds:=ds }) (a:=Fr.act { fn:=g,ds:=ds } a) (cs:=cs) (w:=w) rfl
  obtain ⟨w',h2,h3⟩:=leaves_D (P:=P) (cs:=cs) ds w { (base { fn:=g,ds:=ds }).atR (Fr.act { fn:=g,ds:=ds } a) [] with mode:=.returning } rfl (by show a.defers ++ _=_;rw [ha.1];rfl) hst.swap
  exact .inl ⟨.returned v,w',_,hR w' h2,.head h1 h3,rfl,rfl,rfl,rfl,fn,hf,hr w' a h2 ha⟩
theorem RH.retD1 {g:FuncId} {ds:List Nat} {fn:Func} {t:Tmp} {e:EV} {K:World->Prop} (hf:P.funcs[g]? = some fn) (hr:fn.results = #[.tmp t]) (hv:lookE env t=some e) (hR:∀ w,St tb B0 H K w->R (.returned e.v) w) :
    RH P { fn:=g,ds:=ds } n tb B0 S R (.code .ret :: k) env H nx m (Def tb B0 ds K) :=
  RH.retD e.v hf (λ_ _ _ ha=>results1 hr (kn_look hv ha)) hR
theorem RH.retD2 {g:FuncId} {ds:List Nat} {fn:Func} {t u:Tmp} {e e2:EV} {K:World->Prop} (hf:P.funcs[g]? = some fn) (hr:fn.results = #[.tmp t,.tmp u]) (hv:lookE env t=some e) (hx:lookE env u=some e2) (hR:∀ w,St tb B0 H K w->R (.returned (.tuple #[e.v,e2.v])) w) :
    RH P { fn:=g,ds:=ds } n tb B0 S R (.code .ret :: k) env H nx m (Def tb B0 ds K) :=
  RH.retD (.tuple #[e.v,e2.v]) hf (λ_ _ _ ha=>results2 hr (kn_look hv ha) (kn_look hx ha)) hR
theorem RH.finD0 {g:FuncId} {ds:List Nat} {fn:Func} {K:World->Prop} (hf:P.funcs[g]? = some fn) (hr:fn.results = #[]) (hR:∀ w,St tb B0 H K w->R (.returned (.tuple #[])) w) :
    RH P { fn:=g,ds:=ds } n tb B0 S R [] env H nx m (Def tb B0 ds K) :=
  RH.finD (.tuple #[]) hf (λ_ a _ _=>results0 hr a) hR
theorem yields_run {α σ:Type} {l D:Nat} {fn:FuncId} {t:Array Value} {ps:Array Tmp} {assign body:Code} {E:SEnv} {es:List EV} {Hg Hx:Heap} {Ha:α->Heap} {Hb:σ->Heap} {p:α->Prop} {q:σ->Prop} {js:Code} {F0:World->Prop} {w:World}
    (ht:Agree n { tmps:=t,defers:=[] } (kn E)) (hps:es.length=ps.size) (hpn:ps.toList.all (λp=>Nat.blt p n)=true)
    (hbody:∀ Kg m',(∀ u,Kg u->F0 u)->RH P { fn:=fn,round:=some l,ds:=[],J:=λj u=>match j with
        | none=>∃ y,p y/\St tb B0 ((nx,recE l fn t ps assign body D .busy none) :: (nx+1,defE D) :: Ha y) Kg u
        | some c=>c=js/\∃ y,q y/\St tb B0 ((nx,recE l fn t ps assign body D .busy none) :: (nx+1,defE D) :: Hb y) Kg u } n tb B0 [] (λ_ _=>False)
      [.code assign,.beginRound,.code body] ((ps.toList.zip es).reverse ++ E) ((nx,recE l fn t ps assign body D .ready none) :: (nx+1,defE D) :: Hx) (nx+2) m' Kg)
    (h:St tb B0 Hg (λu=>St tb B0 ((nx,recE l fn t ps assign body D .ready none) :: (nx+1,defE D) :: Hx) F0 u) w) :
    Yields P l (es.map EV.v) w (λb w'=>w.heap.size ≤ w'.heap.size ∧
      ((b=true/\∃ y,p y/\St tb B0 Hg (λu=>St tb B0 ((nx,recE l fn t ps assign body D .ready none) :: (nx+1,defE D) :: Ha y) F0 u) w') ∨
       (b=false/\∃ y,q y/\St tb B0 Hg (λu=>St tb B0 ((nx,recE l fn t ps assign body D .done (some js)) :: (nx+1,defE D) :: Hb y) F0 u) w'))):=by
  have hs:=h.swap
  have ho:=hs.holds nx _ (by rw [lookH_cons,if_pos rfl])
  have hy:=run_yield (P:=P) (w:=w) (args:=(es.map EV.v).toArray) ho.2 (by simpa using hps)
  refine ⟨fn,_,assign,body,hy,λc cs=>?_⟩
  have hK:=hs.mono (J:=λu=>w.heap.size ≤ u.heap.size/\St tb B0 Hg F0 u) λu ha hu=>⟨ha.size,hu⟩
  have hrun:=hbody (λu=>w.heap.size ≤ u.heap.size/\St tb B0 Hg F0 u) w.heap.size (λu hu=>hu.2.fact) w rfl hK (c :: cs) { tmps:=(ps.toList.zip (es.map EV.v)).foldl (λt (p,v)=>t.setIfInBounds p v) t,defers:=[] } (enc_agree (t:=#[]) ht hpn)
  have hfr:Frame.round l fn ((ps.zip (es.map EV.v).toArray).foldl (λtmps (t,a)=>tmps.setIfInBounds t a) t) assign body .normal =
      Fr.cfg { fn:=fn,round:=some l,ds:=[],J:=λ_ _=>False } { tmps:=(ps.toList.zip (es.map EV.v)).foldl (λt (p,v)=>t.setIfInBounds p v) t,defers:=[] } [.code assign,.beginRound,.code body]:=by
    have:(ps.zip (es.map EV.v).toArray).foldl (λtmps (t,a)=>tmps.setIfInBounds t a) t=(ps.toList.zip (es.map EV.v)).foldl (λt (p,v)=>t.setIfInBounds p v) t:=by
      rw [← Array.foldl_toList,Array.toList_zip]
    unfold Frame.round
    rw [this];rfl
  have fin:∀ (jump:Option Code) (w':World) (Hz:Heap),St tb B0 ((nx,recE l fn t ps assign body D .busy none) :: (nx+1,defE D) :: Hz) (λu=>w.heap.size ≤ u.heap.size/\St tb B0 Hg F0 u) w' →
      ∃ w2,(Instr.endRound l jump).run P w' = .ok (.bool jump.isNone) w2/\w.heap.size ≤ w2.heap.size ∧
        St tb B0 Hg (λu=>St tb B0 ((nx,recE l fn t ps assign body D (if jump.isNone then .ready else .done) jump) :: (nx+1,defE D) :: Hz) F0 u) w2:=by
    intro jump w' Hz hz
    have h1:=hz.holds nx _ (by rw [lookH_cons,if_pos rfl])
    refine ⟨_,run_endRound (P:=P) jump h1.2,?_,?_⟩
    · rw [World.putObj_size];exact hz.fact.1
    · have h2:=(hz.putObj (id:=nx) (o':=recO fn t ps assign body D (if jump.isNone then .ready else .done) jump) (by rw [lookH_cons,if_pos rfl])).mono (J:=λu=>St tb B0 Hg F0 u) λu _ hu=>hu.2
      refine St.swap (h2.congr λk x hx=>?_)
      rw [lookH_cons] at hx ⊢
      split at hx
      · rename_i e;rw [if_pos e];exact hx
      · rename_i e;rw [if_neg e,lookH_cons,if_neg e];exact hx
  rw [hfr]
  rcases hrun with ⟨_,_,_,hF,_⟩|⟨_,_,_,_,_,_,hm,_⟩|⟨k',j,a',w',ds,hl,hJ,hst⟩
  · exact hF.elim
  · cases hm
  · cases hl with
    | fin =>
      obtain ⟨y,hp,hy⟩:=hJ
      obtain ⟨w2,e1,e2,e3⟩:=fin none w' _ hy
      exact ⟨true,w2,⟨e2,.inl ⟨rfl,y,hp,e3⟩⟩,hst.trans (.one (stepR_round_end (b:=base _) (a:=Fr.act _ a') rfl rfl e1))⟩
    | ret k'' =>
      obtain ⟨rfl,y,hp,hy⟩:=hJ
      obtain ⟨w2,e1,e2,e3⟩:=fin (some .ret) w' _ hy
      exact ⟨false,w2,⟨e2,.inr ⟨rfl,y,hp,e3⟩⟩,hst.trans (.one (stepR_round_ret (b:=base _) (a:=Fr.act _ a') rfl rfl e1))⟩
    | exit id k'' hx =>
      obtain ⟨rfl,y,hp,hy⟩:=hJ
      obtain ⟨w2,e1,e2,e3⟩:=fin (some (.exit id)) w' _ hy
      exact ⟨false,w2,⟨e2,.inr ⟨rfl,y,hp,e3⟩⟩,hst.trans (.one (stepR_round_exit (b:=base _) (a:=Fr.act _ a') rfl rfl hx e1))⟩
theorem RH.rangeFunc {β α σ:Type} {xs:List β} {enc:β->List EV} {Gi G':Heap} {pre:World->Prop} {g:FuncId} {f1 c1:List Value} {fo:Operand} {ps:Array Tmp} {assign body:Code}
    (hr:f.round=none) (hf:fnE (evE env fo)=some (g,f1,c1)) (hc:∀ (xs:Array Value) w,(callFunc g xs).run P w = .ok (.enter g xs) w)
    (hI:Iter P tb g (λY=>f1 ++ [Y] ++ c1) Gi pre xs (λx=>(enc x).map EV.v) G') (hps:∀ x,(enc x).length=ps.size) (hpn:ps.toList.all (λp=>Nat.blt p n)=true)
    (s:List (Nat × Nat)) (hs:∀ l t D,SelEq Gi ((nx,recE l f.fn t ps assign body D .ready none) :: (nx+1,defE D) :: H) s) (hsn:nodupN (Gi.map λp=>ren s p.1)=true)
    (E:SEnv) (hE:Sub E (kn env)) (K:World->Prop) (hK0:∀ w,I w->Def tb B0 f.ds K w) (hpre:∀ u,K u->pre u)
    (Hc:Nat->α->Heap) (p:Nat->α->Prop) (x0:α) (hp0:p 0 x0)
    (h0:∀ l t D,SubH ((nx,recE l f.fn t ps assign body D .ready none) :: (nx+1,defE D) :: Hc 0 x0) (rest Gi ((nx,recE l f.fn t ps assign body D .ready none) :: (nx+1,defE D) :: H) s))
    (Hs:Nat->σ->Heap) (q:Nat->σ->Prop) (js:Code)
    (hbody:∀ i (h:i < xs.length) x,p i x->∀ l D t Kg m',(∀ u,Kg u->K u)->RH P { fn:=f.fn,round:=some l,ds:=[],J:=λj u=>match j with
        | none=>∃ y,p (i+1) y/\St tb B0 ((nx,recE l f.fn t ps assign body D .busy none) :: (nx+1,defE D) :: Hc (i+1) y) Kg u
        | some c=>c=js/\∃ y,q i y/\St tb B0 ((nx,recE l f.fn t ps assign body D .busy none) :: (nx+1,defE D) :: Hs i y) Kg u } n tb B0 [] (λ_ _=>False)
      [.code assign,.beginRound,.code body] ((ps.toList.zip (enc xs[i])).reverse ++ E) ((nx,recE l f.fn t ps assign body D .ready none) :: (nx+1,defE D) :: Hc i x) (nx+2) m' Kg)
    (nx':Nat)
    (hdone:∀ x D m',p xs.length x->RH P { f with ds:=D :: f.ds } n tb B0 S R k env ((nx,none) :: (nx+1,none) :: Hc xs.length x) nx' m' (Def tb B0 (D :: f.ds) K))
    (hstop:∀ i (h:i < xs.length) x D m',q i x->RH P { f with ds:=D :: f.ds } n tb B0 S R (.code js :: k) env ((nx,none) :: (nx+1,none) :: Hs i x) nx' m' (Def tb B0 (D :: f.ds) K)) :
    RH P f n tb B0 S R (.code (.rangeFunc fo ps assign body) :: k) env H nx m I:=by
  intro w hm hst cs a ha
  obtain ⟨F0,hF0e⟩:∃ F0:World->Prop,F0=Def tb B0 f.ds K:=⟨_,rfl⟩
  have hF0:∀ w,I w->F0 w:=λw h=>by rw [hF0e];exact hK0 w h
  have hF0K:∀ u,F0 u->K u:=λu h=>by rw [hF0e] at h;exact h.fact
  obtain ⟨ef,he,hev⟩:=fnE_ok hf
  have hfv:a.eval fo = .func (.func g) f1.toArray c1.toArray:=(ev_run ha he).trans hev
  have hent:=run_enterLoop_outer (P:=P) (w:=w) f.fn a.tmps ps assign body
  obtain ⟨w1,hw1⟩:∃ w1,(w.alloc (.deferred (some []))).alloc (.loop { state:=.ready,pending:=none,fn:=f.fn,tmps:=a.tmps,params:=ps,assign,body,defers:=w.heap.size })=w1:=⟨_,rfl⟩
  rw [hw1] at hent
  have hsz1:w1.heap.size=w.heap.size+2:=by rw [← hw1];simp
  -- what is had now
  have hst1:St tb B0 ((nx,recE (w.heap.size+1) f.fn a.tmps ps assign body w.heap.size .ready none) :: (nx+1,defE w.heap.size) :: H) I w1:=by
    have a1:=hst.push (ext_alloc w (.deferred (some []))) (nx+1) (.obj w.heap.size (.deferred (some []))) ⟨hst.base,heap_alloc_new w _⟩ (λk hk=>by injection hk with hk;omega)
    have a2:=a1.push (ext_alloc (w.alloc (.deferred (some []))) (recO f.fn a.tmps ps assign body w.heap.size .ready none)) nx (.obj (w.heap.size+1) (recO f.fn a.tmps ps assign body w.heap.size .ready none))
      ⟨by have:=hst.base;omega,by have:=heap_alloc_new (w.alloc (.deferred (some []))) (recO f.fn a.tmps ps assign body w.heap.size .ready none);simpa using this⟩ (λk hk=>by injection hk with hk;simp;omega)
    rw [← hw1];exact a2
  have hl:=hst1.lend s (Sel.of s (hs _ _ _) hsn)
  let Rr (x:α) (i:Nat):Heap:=(nx,recE (w.heap.size+1) f.fn a.tmps ps assign body w.heap.size .ready none) :: (nx+1,defE w.heap.size) :: Hc i x
  have hl0:St tb B0 Gi (λu=>p 0 x0/\(w.heap.size+2 ≤ u.heap.size/\St tb B0 (Rr x0 0) F0 u)) w1:=hl.mono λu hu h=>⟨hp0,by rw [← hsz1];exact h.1,(h.2.sub (h0 _ _ _)).mono λv _ hv=>hF0 v hv⟩
  have hcall:=hI α σ B0 (w.heap.size+1) (λi x u=>p i x/\(w.heap.size+2 ≤ u.heap.size/\St tb B0 (Rr x i) F0 u))
    (λi y u=>q i y/\(w.heap.size+2 ≤ u.heap.size/\St tb B0 ((nx,recE (w.heap.size+1) f.fn a.tmps ps assign body w.heap.size .done (some js)) :: (nx+1,defE w.heap.size) :: Hs i y) F0 u))
    (λi x u hu=>hpre u (hF0K u hu.2.2.fact)) ?_ x0 w1 hl0
  · -- behind the iterator
    have hres:(resolve a.eval (rangeCall fo (w.heap.size+1)) 0).run P w1 = .ok { target:=.fn (.func g) c1.toArray,args:=f1.toArray ++ #[.func (.yield (w.heap.size+1)) #[] #[]] } w1:=by
      simp only [resolve,Deferred.ofValue,hfv,Sem.run_bind,Sem.run_pure,Result.andThen_ok]
      simp [Act.eval]
    have hinv:(invoke (.fn (.func g) c1.toArray) (f1.toArray ++ #[Value.func (.yield (w.heap.size+1)) #[] #[]])).run P w1 = .ok (.enter g (f1 ++ [Value.func (.yield (w.heap.size+1)) #[] #[]] ++ c1).toArray) w1:=by
      simp only [invoke]
      rw [show (f1.toArray ++ #[Value.func (.yield (w.heap.size+1)) #[] #[]] ++ c1.toArray)=(f1 ++ [Value.func (.yield (w.heap.size+1)) #[] #[]] ++ c1).toArray by simp]
      exact hc _ _
    have henter:=stepR_rangeFunc (P:=P) (b:=base f) (a:=f.act a) (k:=k) (cs:=cs) (w:=w) (g:=fo) (ps:=ps) (assign:=assign) (body:=body) (l:=w.heap.size+1) (mark:=[{ target:=.collected w.heap.size,args:=#[] }])
      (by show (Instr.enterLoop f.fn a.tmps ps assign body f.round).run P w=_;rw [hr];exact hent) (by rw [Fr.act_eval];exact hres) hinv
    let f':Fr:={ f with ds:=w.heap.size :: f.ds }
    have hfr:(base f).atR { f.act a with defers:=[{ target:=.collected w.heap.size,args:=#[] }] ++ (f.act a).defers } (.inRangeFunc (w.heap.size+1) :: k)=f'.cfg a (.inRangeFunc (w.heap.size+1) :: k):=by
      simp [Fr.cfg,Frame.atR,base,Fr.act,Fr.coll,f',ha.1]
    rw [hfr] at henter
    obtain ⟨e,w2,frX,⟨⟨⟨v,rfl⟩,hszc,hR⟩,hsteps,hfn,hleave⟩⟩:=(show ∃ e w' fr,_/\_/\_/\_ from hcall (f'.cfg a (.inRangeFunc (w.heap.size+1) :: k) :: cs))
    have hback:Steps P (lone (f.cfg a (.code (.rangeFunc fo ps assign body) :: k)) cs w) (lone (f'.cfg a (.endRangeFunc (w.heap.size+1) :: k)) cs w2):=by
      refine .head henter (Steps.trans hsteps (.one ?_))
      have:=step_leave_returned (c:=f'.cfg a (.inRangeFunc (w.heap.size+1) :: k)) (cs:=cs) hleave
      rw [show (f'.cfg a (.inRangeFunc (w.heap.size+1) :: k)).finish v=f'.cfg a (.endRangeFunc (w.heap.size+1) :: k) from finish_atR_inRangeFunc _ _] at this
      exact this
    have endL:∀ (st:LoopState) (pd:Option Code) (Hz:Heap),st ≠ .busy->St tb B0 ((nx,recE (w.heap.size+1) f.fn a.tmps ps assign body w.heap.size st pd) :: (nx+1,defE w.heap.size) :: Hz) F0 w2 →
        ∃ w3,(Instr.endLoop (w.heap.size+1)).run P w2 = .ok pd w3/\St tb B0 ((nx,none) :: (nx+1,none) :: Hz) (Def tb B0 (w.heap.size :: f.ds) K) w3:=by
      intro st pd Hz hb hz
      have h1:=hz.holds nx _ (by rw [lookH_cons,if_pos rfl])
      refine ⟨_,run_endLoop (P:=P) h1.2 hb,?_⟩
      have h2:St tb B0 ((nx+1,defE w.heap.size) :: (nx,none) :: Hz) F0 (w2.putObj (w.heap.size+1) (recO f.fn a.tmps ps assign body w.heap.size .exhausted pd)):=by
        refine ((hz.putObj (id:=nx) (o':=recO f.fn a.tmps ps assign body w.heap.size .exhausted pd) (by rw [lookH_cons,if_pos rfl])).give nx).congr λk x hx=>?_
        rw [lookH_cons,lookH_cons] at hx
        rw [lookH_cons,lookH_cons,lookH_cons,lookH_cons]
        split at hx
        · rename_i e;rw [if_neg (by omega),if_neg (by omega),if_neg (by omega),if_pos e];exact hx
        · rename_i e
          split at hx
          · cases hx
          · rename_i e2;rw [if_neg e2,if_neg e2,if_neg e2,if_neg e];exact hx
      rw [hF0e] at h2
      refine h2.putDef.congr λk x hx=>?_
      rw [lookH_cons,lookH_cons] at hx ⊢
      split at hx
      · cases hx
      · rename_i e
        split at hx
        · cases hx
        · rename_i e2;rw [if_neg e2,if_neg e];exact hx
    rcases hR with ⟨y,hy⟩|⟨i,G2,y,hi,hy⟩
    · obtain ⟨hp,_,hy⟩:=hy.fact
      obtain ⟨w3,e1,e2⟩:=endL .ready none _ nofun hy
      have h3:=stepR_endRangeFunc (P:=P) (b:=base f') (a:=f'.act a) (k:=k) (cs:=cs) e1
      refine Goes.of_steps (hback.trans (.one h3)) ?_
      exact Goes.ds (hdone y w.heap.size w3.heap.size hp w3 rfl e2 cs a ha)
    · obtain ⟨hq,_,hy⟩:=hy.fact
      obtain ⟨w3,e1,e2⟩:=endL .done (some js) _ nofun hy
      have h3:=stepR_endRangeFunc (P:=P) (b:=base f') (a:=f'.act a) (k:=k) (cs:=cs) e1
      refine Goes.of_steps (hback.trans (.one h3)) ?_
      exact Goes.ds (hstop i hi y w.heap.size w3.heap.size hq w3 rfl e2 cs a ha)
  · -- a round
    intro i hi x Hg u hu
    have hp:=hu.fact.1
    have hu2:St tb B0 Hg (λv=>St tb B0 (Rr x i) (λv=>F0 v/\w.heap.size+2 ≤ v.heap.size) v) u:=hu.mono λv _ hv=>hv.2.2.mono λv' ha' hf=>⟨hf,Nat.le_trans hv.2.1 ha'.size⟩
    have hE':Agree n { tmps:=a.tmps,defers:=[] } (kn E):=⟨rfl,ha.2.1,λt v hv=>ha.2.2 t v (hE.le t v hv)⟩
    refine (yields_run (P:=P) (tb:=tb) (B0:=B0) (nx:=nx) (n:=n) (Ha:=Hc (i+1)) (Hb:=Hs i) (p:=p (i+1)) (q:=q i) (js:=js) (Hx:=Hc i x) (F0:=λv=>F0 v/\w.heap.size+2 ≤ v.heap.size)
      hE' (hps _) hpn (λKg m' hK=>hbody i hi x hp _ _ _ Kg m' λv hv=>hF0K v (hK v hv).1) hu2).mono ?_
    rintro b w' ⟨hsz,hb⟩
    refine ⟨hsz,?_⟩
    rcases hb with ⟨rfl,y,hy,hst'⟩|⟨rfl,y,hy,hst'⟩
    · exact .inl ⟨rfl,y,hst'.mono λv _ hv=>⟨hy,hv.fact.2,hv.mono λ_ _ h=>h.1⟩⟩
    · exact .inr ⟨rfl,y,hst'.mono λv _ hv=>⟨hy,hv.fact.2,hv.mono λ_ _ h=>h.1⟩⟩
end
end Go.Proofs.YtbfjmimiigjenaaGreatDoor.V
