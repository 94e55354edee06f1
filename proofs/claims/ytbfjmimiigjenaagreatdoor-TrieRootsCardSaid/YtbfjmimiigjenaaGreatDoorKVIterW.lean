/-
Lemmas. No condition.
-/
import Derived.Test.YtbfjmimiigjenaaGreatDoorKVIterB
set_option linter.unusedVariables false
set_option linter.unusedSectionVars false
set_option linter.unusedSimpArgs false
namespace Go.Proofs.YtbfjmimiigjenaaGreatDoor.V
open Go Go.RowKit
def Stb (m:Nat) (N:World->Prop):Prop:=∀ u v,Agr (λk=>k < m) u v->N u->N v
theorem St.plus {tb:TT} {B0 m:Nat} {H:Heap} {I N J:World->Prop} {u:World} (h:St tb B0 H I u) (hl:∀ id x b,loH H id=some x->x.blk=some b->b < m) (hs:Stb m N) (hN:N u) (hJ:∀ v,u.heap.size ≤ v.heap.size->I v->N v->J v):St tb B0 H J u :=
  ⟨h.base,h.holds,h.apart,λv hv=>hJ v hv.size (h.keeps v hv) (hs u v (hv.mono λk _ ⟨i,x,hx,hb⟩=>hl i x k hx hb) hN)⟩
section
variable {P:Program} {f:Fr} {n:Nat} {S:Stops} {R:Ending->World->Prop} {tb:TT} {B0:Nat} {I:World->Prop} {H:Heap} {nx m:Nat} {env:SEnv} {todo k:List Item}
theorem yields_runW {α σ:Type} {l D:Nat} {fn:FuncId} {t:Array Value} {ps:Array Tmp} {assign body:Code} {E:SEnv} {es:List EV} {Hg Hx:Heap} {Ha:α->Heap} {Hb:σ->Heap} {q:σ->Prop} {js:Code} {F0:World->Prop} {F1:α->World->Prop} {Qn:α->(World->Prop)->Prop} {w:World}
    (ht:Agree n { tmps:=t,defers:=[] } (kn E)) (hps:es.length=ps.size) (hpn:ps.toList.all (λp=>Nat.blt p n)=true)
    (hbody:∀ Kg m',m'=w.heap.size->(∀ u,Kg u->F0 u)->RH P { fn:=fn,round:=some l,ds:=[],J:=λj u=>match j with
        | none=>∃ y N,Stb m' N/\Qn y N/\St tb B0 ((nx,recE l fn t ps assign body D .busy none) :: (nx+1,defE D) :: Ha y) (λv=>Kg v/\N v) u
        | some c=>c=js/\∃ y,q y/\St tb B0 ((nx,recE l fn t ps assign body D .busy none) :: (nx+1,defE D) :: Hb y) Kg u } n tb B0 [] (λ_ _=>False)
      [.code assign,.beginRound,.code body] ((ps.toList.zip es).reverse ++ E) ((nx,recE l fn t ps assign body D .ready none) :: (nx+1,defE D) :: Hx) (nx+2) m' Kg)
    (hQ:∀ y N,Stb w.heap.size N->Qn y N->∀ u,w.heap.size ≤ u.heap.size->F0 u->N u->F1 y u)
    (h:St tb B0 Hg (λu=>St tb B0 ((nx,recE l fn t ps assign body D .ready none) :: (nx+1,defE D) :: Hx) F0 u) w) :
    Yields P l (es.map EV.v) w (λb w'=>w.heap.size ≤ w'.heap.size ∧
      ((b=true/\∃ y,St tb B0 Hg (λu=>St tb B0 ((nx,recE l fn t ps assign body D .ready none) :: (nx+1,defE D) :: Ha y) (F1 y) u) w') ∨
       (b=false/\∃ y,q y/\St tb B0 Hg (λu=>St tb B0 ((nx,recE l fn t ps assign body D .done (some js)) :: (nx+1,defE D) :: Hb y) F0 u) w'))):=by
  have hs:=h.swap
  have ho:=hs.holds nx _ (by rw [lookH_cons,if_pos rfl])
  have hy:=run_yield (P:=P) (w:=w) (args:=(es.map EV.v).toArray) ho.2 (by simpa using hps)
  refine ⟨fn,_,assign,body,hy,λc cs=>?_⟩
  have hK:=hs.mono (J:=λu=>w.heap.size ≤ u.heap.size/\St tb B0 Hg F0 u) λu ha hu=>⟨ha.size,hu⟩
  have hrun:=hbody (λu=>w.heap.size ≤ u.heap.size/\St tb B0 Hg F0 u) w.heap.size rfl (λu hu=>hu.2.fact) w rfl hK (c :: cs) { tmps:=(ps.toList.zip (es.map EV.v)).foldl (λt (p,v)=>t.setIfInBounds p v) t,defers:=[] } (enc_agree (t:=#[]) ht hpn)
  have hfr:Frame.round l fn ((ps.zip (es.map EV.v).toArray).foldl (λtmps (t,a)=>tmps.setIfInBounds t a) t) assign body .normal =
      Fr.cfg { fn:=fn,round:=some l,ds:=[],J:=λ_ _=>False } { tmps:=(ps.toList.zip (es.map EV.v)).foldl (λt (p,v)=>t.setIfInBounds p v) t,defers:=[] } [.code assign,.beginRound,.code body]:=by
    have:(ps.zip (es.map EV.v).toArray).foldl (λtmps (t,a)=>tmps.setIfInBounds t a) t=(ps.toList.zip (es.map EV.v)).foldl (λt (p,v)=>t.setIfInBounds p v) t:=by
      rw [← Array.foldl_toList,Array.toList_zip]
    unfold Frame.round
    rw [this];rfl
  have hgl:∀ id x b,loH Hg id=some x->x.blk=some b->b < w.heap.size:=λid x b hx hb=>(HE.lt (h.holds id x hx) hb).2
  have fin:∀ (F2:World->Prop) (jump:Option Code) (w':World) (Hz:Heap),St tb B0 ((nx,recE l fn t ps assign body D .busy none) :: (nx+1,defE D) :: Hz) (λu=>w.heap.size ≤ u.heap.size/\St tb B0 Hg F2 u) w' →
      ∃ w2,(Instr.endRound l jump).run P w' = .ok (.bool jump.isNone) w2/\w.heap.size ≤ w2.heap.size ∧
        St tb B0 Hg (λu=>St tb B0 ((nx,recE l fn t ps assign body D (if jump.isNone then .ready else .done) jump) :: (nx+1,defE D) :: Hz) F2 u) w2:=by
    intro F2 jump w' Hz hz
    have h1:=hz.holds nx _ (by rw [lookH_cons,if_pos rfl])
    refine ⟨_,run_endRound (P:=P) jump h1.2,?_,?_⟩
    · rw [World.putObj_size];exact hz.fact.1
    · have h2:=(hz.putObj (id:=nx) (o':=recO fn t ps assign body D (if jump.isNone then .ready else .done) jump) (by rw [lookH_cons,if_pos rfl])).mono (J:=λu=>St tb B0 Hg F2 u) λu _ hu=>hu.2
      refine St.swap (h2.congr λk x hx=>?_)
      rw [lookH_cons] at hx ⊢
      split at hx
      · rename_i e;rw [if_pos e];exact hx
      · rename_i e;rw [if_neg e,lookH_cons,if_neg e];exact hx
  rw [hfr]
  rcases hrun with ⟨_,_,_,hF,_⟩|⟨_,_,_,_,_,_,hm,_⟩|⟨k',j,a',w',ds,hl,hJ,hst⟩
  · exact hF.elim
  · cases hm
  · cases hl with
    | fin =>
      obtain ⟨y,N,hN,hq,hy⟩:=hJ
      have hy2:=hy.mono (J:=λu=>w.heap.size ≤ u.heap.size/\St tb B0 Hg (F1 y) u) λu _ hu=>⟨hu.1.1,hu.1.2.plus hgl hN hu.2 λv hv h1 h2=>hQ y N hN hq v (Nat.le_trans hu.1.1 hv) h1 h2⟩
      obtain ⟨w2,e1,e2,e3⟩:=fin (F1 y) none w' _ hy2
      exact ⟨true,w2,⟨e2,.inl ⟨rfl,y,e3⟩⟩,hst.trans (.one (stepR_round_end (b:=base _) (a:=Fr.act _ a') rfl rfl e1))⟩
    | ret k'' =>
      obtain ⟨rfl,y,hp,hy⟩:=hJ
      obtain ⟨w2,e1,e2,e3⟩:=fin F0 (some .ret) w' _ hy
      exact ⟨false,w2,⟨e2,.inr ⟨rfl,y,hp,e3⟩⟩,hst.trans (.one (stepR_round_ret (b:=base _) (a:=Fr.act _ a') rfl rfl e1))⟩
    | exit id k'' hx =>
      obtain ⟨rfl,y,hp,hy⟩:=hJ
      obtain ⟨w2,e1,e2,e3⟩:=fin F0 (some (.exit id)) w' _ hy
      exact ⟨false,w2,⟨e2,.inr ⟨rfl,y,hp,e3⟩⟩,hst.trans (.one (stepR_round_exit (b:=base _) (a:=Fr.act _ a') rfl rfl hx e1))⟩
theorem RH.rangeFuncW {β α σ:Type} {xs:List β} {enc:β->List EV} {Gi G':Heap} {pre:World->Prop} {g:FuncId} {f1 c1:List Value} {fo:Operand} {ps:Array Tmp} {assign body:Code}
    (hr:f.round=none) (hf:fnE (evE env fo)=some (g,f1,c1)) (hc:∀ (xs:Array Value) w,(callFunc g xs).run P w = .ok (.enter g xs) w)
    (hI:Iter P tb g (λY=>f1 ++ [Y] ++ c1) Gi pre xs (λx=>(enc x).map EV.v) G') (hps:∀ x,(enc x).length=ps.size) (hpn:ps.toList.all (λp=>Nat.blt p n)=true)
    (s:List (Nat × Nat)) (hs:∀ l t D,SelEq Gi ((nx,recE l f.fn t ps assign body D .ready none) :: (nx+1,defE D) :: H) s) (hsn:nodupN (Gi.map λp=>ren s p.1)=true)
    (E:SEnv) (hE:Sub E (kn env)) (K:World->Prop) (p:Nat->α->World->Prop) (x0:α) (hK0:∀ w,I w->Def tb B0 f.ds (λu=>K u/\p 0 x0 u) w) (hpre:∀ u,K u->pre u)
    (Hc:Nat->α->Heap)
    (h0:∀ l t D,SubH ((nx,recE l f.fn t ps assign body D .ready none) :: (nx+1,defE D) :: Hc 0 x0) (rest Gi ((nx,recE l f.fn t ps assign body D .ready none) :: (nx+1,defE D) :: H) s))
    (Hs:Nat->σ->Heap) (q:Nat->σ->Prop) (js:Code)
    (hbody:∀ i (h:i < xs.length) x,∀ l D t Kg m',m ≤ m'->(∀ u,Kg u->K u/\p i x u)->RH P { fn:=f.fn,round:=some l,ds:=[],J:=λj u=>match j with
        | none=>∃ y N,Stb m' N/\(∀ v,p i x v->N v->p (i+1) y v)/\St tb B0 ((nx,recE l f.fn t ps assign body D .busy none) :: (nx+1,defE D) :: Hc (i+1) y) (λv=>Kg v/\N v) u
        | some c=>c=js/\∃ y,q i y/\St tb B0 ((nx,recE l f.fn t ps assign body D .busy none) :: (nx+1,defE D) :: Hs i y) Kg u } n tb B0 [] (λ_ _=>False)
      [.code assign,.beginRound,.code body] ((ps.toList.zip (enc xs[i])).reverse ++ E) ((nx,recE l f.fn t ps assign body D .ready none) :: (nx+1,defE D) :: Hc i x) (nx+2) m' Kg)
    (nx':Nat)
    (hdone:∀ x D m',RH P { f with ds:=D :: f.ds } n tb B0 S R k env ((nx,none) :: (nx+1,none) :: Hc xs.length x) nx' m' (Def tb B0 (D :: f.ds) (λu=>K u/\p xs.length x u)))
    (hstop:∀ i (h:i < xs.length) x D m',q i x->RH P { f with ds:=D :: f.ds } n tb B0 S R (.code js :: k) env ((nx,none) :: (nx+1,none) :: Hs i x) nx' m' (Def tb B0 (D :: f.ds) K)) :
    RH P f n tb B0 S R (.code (.rangeFunc fo ps assign body) :: k) env H nx m I:=by
  intro w hm hst cs a ha
  obtain ⟨F0,hF0e⟩:∃ F0:Nat->α->World->Prop,F0=λi x=>Def tb B0 f.ds (λu=>K u/\p i x u):=⟨_,rfl⟩
  have hF0:∀ w,I w->F0 0 x0 w:=λw h=>by rw [hF0e];exact hK0 w h
  have hF0K:∀ i x u,F0 i x u->K u/\p i x u:=λi x u h=>by rw [hF0e] at h;exact h.fact
  have hdl:∀ id x b,loH (defs f.ds) id=some x->x.blk=some b->b < w.heap.size:=λid x b hx hb=>(HE.lt ((hK0 w hst.fact).holds id x hx) hb).2
  obtain ⟨ef,he,hev⟩:=fnE_ok hf
  have hfv:a.eval fo = .func (.func g) f1.toArray c1.toArray:=(ev_run ha he).trans hev
  have hent:=run_enterLoop_outer (P:=P) (w:=w) f.fn a.tmps ps assign body
  obtain ⟨w1,hw1⟩:∃ w1,(w.alloc (.deferred (some []))).alloc (.loop { state:=.ready,pending:=none,fn:=f.fn,tmps:=a.tmps,params:=ps,assign,body,defers:=w.heap.size })=w1:=⟨_,rfl⟩
  rw [hw1] at hent
  have hsz1:w1.heap.size=w.heap.size+2:=by rw [← hw1];simp
  -- what is had now
  have hst1:St tb B0 ((nx,recE (w.heap.size+1) f.fn a.tmps ps assign body w.heap.size .ready none) :: (nx+1,defE w.heap.size) :: H) I w1:=by
    have a1:=hst.push (ext_alloc w (.deferred (some []))) (nx+1) (.obj w.heap.size (.deferred (some []))) ⟨hst.base,heap_alloc_new w _⟩ (λk hk=>by injection hk with hk;omega)
    have a2:=a1.push (ext_alloc (w.alloc (.deferred (some []))) (recO f.fn a.tmps ps assign body w.heap.size .ready none)) nx (.obj (w.heap.size+1) (recO f.fn a.tmps ps assign body w.heap.size .ready none))
      ⟨by have:=hst.base;omega,by have:=heap_alloc_new (w.alloc (.deferred (some []))) (recO f.fn a.tmps ps assign body w.heap.size .ready none);simpa using this⟩ (λk hk=>by injection hk with hk;simp;omega)
    rw [← hw1];exact a2
  have hl:=hst1.lend s (Sel.of s (hs _ _ _) hsn)
  let Rr (x:α) (i:Nat):Heap:=(nx,recE (w.heap.size+1) f.fn a.tmps ps assign body w.heap.size .ready none) :: (nx+1,defE w.heap.size) :: Hc i x
  have hl0:St tb B0 Gi (λu=>(w.heap.size+2 ≤ u.heap.size/\St tb B0 (Rr x0 0) (F0 0 x0) u)) w1:=hl.mono λu hu h=>⟨by rw [← hsz1];exact h.1,(h.2.sub (h0 _ _ _)).mono λv _ hv=>hF0 v hv⟩
  have hcall:=hI α σ B0 (w.heap.size+1) (λi x u=>(w.heap.size+2 ≤ u.heap.size/\St tb B0 (Rr x i) (F0 i x) u))
    (λi y u=>q i y/\(w.heap.size+2 ≤ u.heap.size/\St tb B0 ((nx,recE (w.heap.size+1) f.fn a.tmps ps assign body w.heap.size .done (some js)) :: (nx+1,defE w.heap.size) :: Hs i y) (λu=>∃ x,F0 i x u) u))
    (λi x u hu=>hpre u (hF0K _ _ u hu.2.fact).1) ?_ x0 w1 hl0
  · -- behind the iterator
    have hres:(resolve a.eval (rangeCall fo (w.heap.size+1)) 0).run P w1 = .ok { target:=.fn (.func g) c1.toArray,args:=f1.toArray ++ #[.func (.yield (w.heap.size+1)) #[] #[]] } w1:=by
      simp only [resolve,Deferred.ofValue,hfv,Sem.run_bind,Sem.run_pure,Result.andThen_ok]
      simp [Act.eval]
    have hinv:(invoke (.fn (.func g) c1.toArray) (f1.toArray ++ #[Value.func (.yield (w.heap.size+1)) #[] #[]])).run P w1 = .ok (.enter g (f1 ++ [Value.func (.yield (w.heap.size+1)) #[] #[]] ++ c1).toArray) w1:=by
      simp only [invoke]
      rw [show (f1.toArray ++ #[Value.func (.yield (w.heap.size+1)) #[] #[]] ++ c1.toArray)=(f1 ++ [Value.func (.yield (w.heap.size+1)) #[] #[]] ++ c1).toArray by simp]
      exact hc _ _
    have henter:=stepR_rangeFunc (P:=P) (b:=base f) (a:=f.act a) (k:=k) (cs:=cs) (w:=w) (g:=fo) (ps:=ps) (assign:=assign) (body:=body) (l:=w.heap.size+1) (mark:=[{ target:=.collected w.heap.size,args:=#[] }])
      (by show (Instr.enterLoop f.fn a.tmps ps assign body f.round).run P w=_;rw [hr];exact hent) (by rw [Fr.act_eval];exact hres) hinv
    let f':Fr:={ f with ds:=w.heap.size :: f.ds }
    have hfr:(base f).atR { f.act a with defers:=[{ target:=.collected w.heap.size,args:=#[] }] ++ (f.act a).defers } (.inRangeFunc (w.heap.size+1) :: k)=f'.cfg a (.inRangeFunc (w.heap.size+1) :: k):=by
      simp [Fr.cfg,Frame.atR,base,Fr.act,Fr.coll,f',ha.1]
    rw [hfr] at henter
    obtain ⟨e,w2,frX,⟨⟨⟨v,rfl⟩,hszc,hR⟩,hsteps,hfn,hleave⟩⟩:=(show ∃ e w' fr,_/\_/\_/\_ from hcall (f'.cfg a (.inRangeFunc (w.heap.size+1) :: k) :: cs))
    have hback:Steps P (lone (f.cfg a (.code (.rangeFunc fo ps assign body) :: k)) cs w) (lone (f'.cfg a (.endRangeFunc (w.heap.size+1) :: k)) cs w2):=by
      refine .head henter (Steps.trans hsteps (.one ?_))
      have:=step_leave_returned (c:=f'.cfg a (.inRangeFunc (w.heap.size+1) :: k)) (cs:=cs) hleave
      rw [show (f'.cfg a (.inRangeFunc (w.heap.size+1) :: k)).finish v=f'.cfg a (.endRangeFunc (w.heap.size+1) :: k) from finish_atR_inRangeFunc _ _] at this
      exact this
    have endL:∀ (K2:World->Prop) (st:LoopState) (pd:Option Code) (Hz:Heap),st ≠ .busy->St tb B0 ((nx,recE (w.heap.size+1) f.fn a.tmps ps assign body w.heap.size st pd) :: (nx+1,defE w.heap.size) :: Hz) (Def tb B0 f.ds K2) w2 →
        ∃ w3,(Instr.endLoop (w.heap.size+1)).run P w2 = .ok pd w3/\St tb B0 ((nx,none) :: (nx+1,none) :: Hz) (Def tb B0 (w.heap.size :: f.ds) K2) w3:=by
      intro K2 st pd Hz hb hz
      have h1:=hz.holds nx _ (by rw [lookH_cons,if_pos rfl])
      refine ⟨_,run_endLoop (P:=P) h1.2 hb,?_⟩
      have h2:St tb B0 ((nx+1,defE w.heap.size) :: (nx,none) :: Hz) (Def tb B0 f.ds K2) (w2.putObj (w.heap.size+1) (recO f.fn a.tmps ps assign body w.heap.size .exhausted pd)):=by
        refine ((hz.putObj (id:=nx) (o':=recO f.fn a.tmps ps assign body w.heap.size .exhausted pd) (by rw [lookH_cons,if_pos rfl])).give nx).congr λk x hx=>?_
        rw [lookH_cons,lookH_cons] at hx
        rw [lookH_cons,lookH_cons,lookH_cons,lookH_cons]
        split at hx
        · rename_i e;rw [if_neg (by omega),if_neg (by omega),if_neg (by omega),if_pos e];exact hx
        · rename_i e
          split at hx
          · cases hx
          · rename_i e2;rw [if_neg e2,if_neg e2,if_neg e2,if_neg e];exact hx
      refine h2.putDef.congr λk x hx=>?_
      rw [lookH_cons,lookH_cons] at hx ⊢
      split at hx
      · cases hx
      · rename_i e
        split at hx
        · cases hx
        · rename_i e2;rw [if_neg e2,if_neg e];exact hx
    rcases hR with ⟨y,hy⟩|⟨i,G2,y,hi,hy⟩
    · obtain ⟨_,hy⟩:=hy.fact
      rw [hF0e] at hy
      obtain ⟨w3,e1,e2⟩:=endL _ .ready none _ nofun hy
      have h3:=stepR_endRangeFunc (P:=P) (b:=base f') (a:=f'.act a) (k:=k) (cs:=cs) e1
      refine Goes.of_steps (hback.trans (.one h3)) ?_
      exact Goes.ds (hdone y w.heap.size w3.heap.size w3 rfl e2 cs a ha)
    · obtain ⟨hq,_,hy⟩:=hy.fact
      have hy3:=hy.mono (J:=Def tb B0 f.ds K) λu _ hu=>by
        obtain ⟨x,hx⟩:=hu
        rw [hF0e] at hx
        exact hx.mono λ_ _ h=>h.1
      obtain ⟨w3,e1,e2⟩:=endL _ .done (some js) _ nofun hy3
      have h3:=stepR_endRangeFunc (P:=P) (b:=base f') (a:=f'.act a) (k:=k) (cs:=cs) e1
      refine Goes.of_steps (hback.trans (.one h3)) ?_
      exact Goes.ds (hstop i hi y w.heap.size w3.heap.size hq w3 rfl e2 cs a ha)
  · -- a round
    intro i hi x Hg u hu
    have hge:w.heap.size+2 ≤ u.heap.size:=hu.fact.1
    have hu2:St tb B0 Hg (λv=>St tb B0 (Rr x i) (λv=>F0 i x v/\w.heap.size+2 ≤ v.heap.size) v) u:=hu.mono λv _ hv=>hv.2.mono λv' ha' hf=>⟨hf,Nat.le_trans hv.1 ha'.size⟩
    have hE':Agree n { tmps:=a.tmps,defers:=[] } (kn E):=⟨rfl,ha.2.1,λt v hv=>ha.2.2 t v (hE.le t v hv)⟩
    refine (yields_runW (P:=P) (tb:=tb) (B0:=B0) (nx:=nx) (n:=n) (Ha:=Hc (i+1)) (Hb:=Hs i) (q:=q i) (js:=js) (Hx:=Hc i x) (F0:=λv=>F0 i x v/\w.heap.size+2 ≤ v.heap.size) (F1:=λy v=>F0 (i+1) y v/\w.heap.size+2 ≤ v.heap.size) (Qn:=λy N=>∀ v,p i x v->N v->p (i+1) y v)
      hE' (hps _) hpn (λKg m' hm' hK=>hbody i hi x _ _ _ Kg m' (by omega) λv hv=>hF0K _ _ v (hK v hv).1) ?_ hu2).mono ?_
    · intro y N hN hQ v hv hf hn
      refine ⟨?_,hf.2⟩
      have h1:=hf.1
      rw [hF0e] at h1 ⊢
      exact St.plus h1 (λid x b hx hb=>Nat.lt_of_lt_of_le (hdl id x b hx hb) (by omega)) hN hn λv' _ hk hn'=>⟨hk.1,hQ v' hk.2 hn'⟩
    rintro b w' ⟨hsz,hb⟩
    refine ⟨hsz,?_⟩
    rcases hb with ⟨rfl,y,hst'⟩|⟨rfl,y,hy,hst'⟩
    · exact .inl ⟨rfl,y,hst'.mono λv _ hv=>⟨hv.fact.2,hv.mono λ_ _ h=>h.1⟩⟩
    · exact .inr ⟨rfl,y,hst'.mono λv _ hv=>⟨hy,hv.fact.2,hv.mono λ_ _ h=>⟨x,h.1⟩⟩⟩
end
end Go.Proofs.YtbfjmimiigjenaaGreatDoor.V
