/-
Lemmas. No condition.
-/
import Derived.Test.YtbfjmimiigjenaaGreatDoorKVIter
set_option linter.unusedVariables false
set_option linter.unusedSectionVars false
set_option linter.unusedSimpArgs false
namespace Go.Proofs.YtbfjmimiigjenaaGreatDoor.V
open Go Go.RowKit
def IterB (P:Program) (tb:TT) (g:FuncId) (args:Value->List Value) (Gi G':Heap) (N:Nat) (enc:Nat->List Value) (T:TypeId) (pa:Addr) (rv:Nat->Value):Prop :=
 ∀ (α σ:Type) (B0 l:Nat) (Z Y:Nat->α->World->Prop) (Zs:Nat->σ->World->Prop),
  (∀ i x Hg w,i ≤ N->St tb B0 Hg (Z i x) w->(loadVar T pa).run P w = .ok (rv i) w) →
  (∀ i x Hg w,i < N->St tb B0 Hg (Z i x) w->∃ w',(storeVar T pa (rv (i+1))).run P w = .ok () w'/\w.heap.size ≤ w'.heap.size/\St tb B0 Hg (Y i x) w') →
  (∀ i (h:i < N) x Hg w,St tb B0 Hg (Y i x) w->Yields P l (enc i) w (λb w'=>w.heap.size ≤ w'.heap.size/\((b=true/\∃ y,St tb B0 Hg (Z (i+1) y) w') ∨ (b=false/\∃ y,St tb B0 Hg (Zs i y) w')))) →
  ∀ x w,St tb B0 Gi (Z 0 x) w->Calls P g (args (.func (.yield l) #[] #[])).toArray w (λe w'=>(∃ v,e = .returned v)/\w.heap.size ≤ w'.heap.size/\((∃ y,St tb B0 G' (Z N y) w') ∨ ∃ i G2 y,i < N/\St tb B0 G2 (Zs i y) w'))
section
variable {P:Program} {f:Fr} {n:Nat} {S:Stops} {R:Ending->World->Prop} {tb:TT} {B0:Nat} {I:World->Prop} {H:Heap} {nx m:Nat} {env:SEnv} {todo k:List Item}
theorem RH.rangeFuncB {α σ:Type} {N:Nat} {enc:Nat->List EV} {T:TypeId} {pa:Addr} {rv:Nat->Value} {Gi G':Heap} {g:FuncId} {f1 c1:List Value} {fo:Operand} {ps:Array Tmp} {assign body:Code}
  (hr:f.round=none) (hf:fnE (evE env fo)=some (g,f1,c1)) (hc:∀ (xs:Array Value) w,(callFunc g xs).run P w = .ok (.enter g xs) w)
  (hI:IterB P tb g (λY=>f1 ++ [Y] ++ c1) Gi G' N (λi=>(enc i).map EV.v) T pa rv) (hps:∀ x,(enc x).length=ps.size) (hpn:ps.toList.all (λp=>Nat.blt p n)=true)
  (s:List (Nat × Nat)) (hs:∀ l t D,SelEq Gi ((nx,recE l f.fn t ps assign body D .ready none) :: (nx+1,defE D) :: H) s) (hsn:nodupN (Gi.map λp=>ren s p.1)=true)
  (E:SEnv) (hE:Sub E (kn env)) (K:World->Prop) (hK0:∀ w,I w->Def tb B0 f.ds K w) 
  (Hc Hy:Nat->α->Heap) (p:Nat->α->Prop) (x0:α) (hp0:p 0 x0)
  (h0:∀ l t D,SubH ((nx,recE l f.fn t ps assign body D .ready none) :: (nx+1,defE D) :: Hc 0 x0) (rest Gi ((nx,recE l f.fn t ps assign body D .ready none) :: (nx+1,defE D) :: H) s))
  (hget:∀ l t D i x F w,i ≤ N->p i x->St tb B0 ((nx,recE l f.fn t ps assign body D .ready none) :: (nx+1,defE D) :: Hc i x) F w->(loadVar T pa).run P w = .ok (rv i) w)
  (hput:∀ l t D i x F w,i < N->p i x->St tb B0 ((nx,recE l f.fn t ps assign body D .ready none) :: (nx+1,defE D) :: Hc i x) F w->∃ w',(storeVar T pa (rv (i+1))).run P w = .ok () w'/\w.heap.size ≤ w'.heap.size/\St tb B0 ((nx,recE l f.fn t ps assign body D .ready none) :: (nx+1,defE D) :: Hy i x) F w')
  (Hs:Nat->σ->Heap) (q:Nat->σ->Prop) (js:Code)
  (hbody:∀ i (h:i < N) x,p i x->∀ l D t Kg m',(∀ u,Kg u->K u)->RH P { fn:=f.fn,round:=some l,ds:=[],J:=λj u=>match j with
    | none=>∃ y,p (i+1) y/\St tb B0 ((nx,recE l f.fn t ps assign body D .busy none) :: (nx+1,defE D) :: Hc (i+1) y) Kg u
    | some c=>c=js/\∃ y,q i y/\St tb B0 ((nx,recE l f.fn t ps assign body D .busy none) :: (nx+1,defE D) :: Hs i y) Kg u } n tb B0 [] (λ_ _=>False)
   [.code assign,.beginRound,.code body] ((ps.toList.zip (enc i)).reverse ++ E) ((nx,recE l f.fn t ps assign body D .ready none) :: (nx+1,defE D) :: Hy i x) (nx+2) m' Kg)
  (nx':Nat)
  (hdone:∀ x D m',p N x->RH P { f with ds:=D :: f.ds } n tb B0 S R k env ((nx,none) :: (nx+1,none) :: Hc N x) nx' m' (Def tb B0 (D :: f.ds) K))
  (hstop:∀ i (h:i < N) x D m',q i x->RH P { f with ds:=D :: f.ds } n tb B0 S R (.code js :: k) env ((nx,none) :: (nx+1,none) :: Hs i x) nx' m' (Def tb B0 (D :: f.ds) K)) :
  RH P f n tb B0 S R (.code (.rangeFunc fo ps assign body) :: k) env H nx m I:=by
 intro w hm hst cs a ha
 obtain ⟨F0,hF0e⟩:∃ F0:World->Prop,F0=Def tb B0 f.ds K:=⟨_,rfl⟩
 have hF0:∀ w,I w->F0 w:=λw h=>by rw [hF0e];exact hK0 w h
 have hF0K:∀ u,F0 u->K u:=λu h=>by rw [hF0e] at h;exact h.fact
 obtain ⟨ef,he,hev⟩:=fnE_ok hf
 have hfv:a.eval fo = .func (.func g) f1.toArray c1.toArray:=(ev_run ha he).trans hev
 have hent:=run_enterLoop_outer (P:=P) (w:=w) f.fn a.tmps ps assign body
 obtain ⟨w1,hw1⟩:∃ w1,(w.alloc (.deferred (some []))).alloc (.loop { state:=.ready,pending:=none,fn:=f.fn,tmps:=a.tmps,params:=ps,assign,body,defers:=w.heap.size })=w1:=⟨_,rfl⟩
 rw [hw1] at hent
 have hsz1:w1.heap.size=w.heap.size+2:=by rw [← hw1];simp
 -- what is had now
 have hst1:St tb B0 ((nx,recE (w.heap.size+1) f.fn a.tmps ps assign body w.heap.size .ready none) :: (nx+1,defE w.heap.size) :: H) I w1:=by
  have a1:=hst.push (ext_alloc w (.deferred (some []))) (nx+1) (.obj w.heap.size (.deferred (some []))) ⟨hst.base,heap_alloc_new w _⟩ (λk hk=>by injection hk with hk;omega)
  have a2:=a1.push (ext_alloc (w.alloc (.deferred (some []))) (recO f.fn a.tmps ps assign body w.heap.size .ready none)) nx (.obj (w.heap.size+1) (recO f.fn a.tmps ps assign body w.heap.size .ready none))
   ⟨by have:=hst.base;omega,by have:=heap_alloc_new (w.alloc (.deferred (some []))) (recO f.fn a.tmps ps assign body w.heap.size .ready none);simpa using this⟩ (λk hk=>by injection hk with hk;simp;omega)
  rw [← hw1];exact a2
 have hl:=hst1.lend s (Sel.of s (hs _ _ _) hsn)
 let Rr (x:α) (i:Nat):Heap:=(nx,recE (w.heap.size+1) f.fn a.tmps ps assign body w.heap.size .ready none) :: (nx+1,defE w.heap.size) :: Hc i x
 let Ry (x:α) (i:Nat):Heap:=(nx,recE (w.heap.size+1) f.fn a.tmps ps assign body w.heap.size .ready none) :: (nx+1,defE w.heap.size) :: Hy i x
 have hl0:St tb B0 Gi (λu=>p 0 x0/\(w.heap.size+2 ≤ u.heap.size/\St tb B0 (Rr x0 0) F0 u)) w1:=hl.mono λu hu h=>⟨hp0,by rw [← hsz1];exact h.1,(h.2.sub (h0 _ _ _)).mono λv _ hv=>hF0 v hv⟩
 have hcall:=hI α σ B0 (w.heap.size+1) (λi x u=>p i x/\(w.heap.size+2 ≤ u.heap.size/\St tb B0 (Rr x i) F0 u)) (λi x u=>p i x/\(w.heap.size+2 ≤ u.heap.size/\St tb B0 (Ry x i) F0 u))
  (λi y u=>q i y/\(w.heap.size+2 ≤ u.heap.size/\St tb B0 ((nx,recE (w.heap.size+1) f.fn a.tmps ps assign body w.heap.size .done (some js)) :: (nx+1,defE w.heap.size) :: Hs i y) F0 u))
  (λi x Hg u hi hu=>hget _ _ _ i x F0 u hi hu.fact.1 hu.fact.2.2)
  (λi x Hg u hi hu=>by
   have hp:=hu.fact.1
   have hu2:St tb B0 Hg (λv=>St tb B0 (Rr x i) (λv=>F0 v/\w.heap.size+2 ≤ v.heap.size) v) u:=hu.mono λv _ hv=>hv.2.2.mono λv' ha' hf=>⟨hf,Nat.le_trans hv.2.1 ha'.size⟩
   obtain ⟨w',e1,e2,e3⟩:=hput _ _ _ i x _ u hi hp hu2.swap
   exact ⟨w',e1,e2,e3.swap.mono λv _ hv=>⟨hp,hv.fact.2,hv.mono λ_ _ h=>h.1⟩⟩) ?_ x0 w1 hl0
 ·-- behind the iterator
  have hres:(resolve a.eval (rangeCall fo (w.heap.size+1)) 0).run P w1 = .ok { target:=.fn (.func g) c1.toArray,args:=f1.toArray ++ #[.func (.yield (w.heap.size+1)) #[] #[]] } w1:=by
   simp only [resolve,Deferred.ofValue,hfv,Sem.run_bind,Sem.run_pure,Result.andThen_ok]
   simp [Act.eval]
  have hinv:(invoke (.fn (.func g) c1.toArray) (f1.toArray ++ #[Value.func (.yield (w.heap.size+1)) #[] #[]])).run P w1 = .ok (.enter g (f1 ++ [Value.func (.yield (w.heap.size+1)) #[] #[]] ++ c1).toArray) w1:=by
   simp only [invoke]
   rw [show (f1.toArray ++ #[Value.func (.yield (w.heap.size+1)) #[] #[]] ++ c1.toArray)=(f1 ++ [Value.func (.yield (w.heap.size+1)) #[] #[]] ++ c1).toArray by simp]
   exact hc _ _
  have henter:=stepR_rangeFunc (P:=P) (b:=base f) (a:=f.act a) (k:=k) (cs:=cs) (w:=w) (g:=fo) (ps:=ps) (assign:=assign) (body:=body) (l:=w.heap.size+1) (mark:=[{ target:=.collected w.heap.size,args:=#[] }])
   (by show (Instr.enterLoop f.fn a.tmps ps assign body f.round).run P w=_;rw [hr];exact hent) (by rw [Fr.act_eval];exact hres) hinv
  let f':Fr:={ f with ds:=w.heap.size :: f.ds }
  have hfr:(base f).atR { f.act a with defers:=[{ target:=.collected w.heap.size,args:=#[] }] ++ (f.act a).defers } (.inRangeFunc (w.heap.size+1) :: k)=f'.cfg a (.inRangeFunc (w.heap.size+1) :: k):=by
   simp [Fr.cfg,Frame.atR,base,Fr.act,Fr.coll,f',ha.1]
  rw [hfr] at henter
  obtain ⟨e,w2,frX,⟨⟨⟨v,rfl⟩,hszc,hR⟩,hsteps,hfn,hleave⟩⟩:=(show ∃ e w' fr,_/\_/\_/\_ from hcall (f'.cfg a (.inRangeFunc (w.heap.size+1) :: k) :: cs))
  have hback:Steps P (lone (f.cfg a (.code (.rangeFunc fo ps assign body) :: k)) cs w) (lone (f'.cfg a (.endRangeFunc (w.heap.size+1) :: k)) cs w2):=by
   refine .head henter (Steps.trans hsteps (.one ?_))
   have:=step_leave_returned (c:=f'.cfg a (.inRangeFunc (w.heap.size+1) :: k)) (cs:=cs) hleave
   rw [show (f'.cfg a (.inRangeFunc (w.heap.size+1) :: k)).finish v=f'.cfg a (.endRangeFunc (w.heap.size+1) :: k) from finish_atR_inRangeFunc _ _] at this
   exact this
  have endL:∀ (st:LoopState) (pd:Option Code) (Hz:Heap),st ≠ .busy->St tb B0 ((nx,recE (w.heap.size+1) f.fn a.tmps ps assign body w.heap.size st pd) :: (nx+1,defE w.heap.size) :: Hz) F0 w2 →
    ∃ w3,(Instr.endLoop (w.heap.size+1)).run P w2 = .ok pd w3/\St tb B0 ((nx,none) :: (nx+1,none) :: Hz) (Def tb B0 (w.heap.size :: f.ds) K) w3:=by
   intro st pd Hz hb hz
   have h1:=hz.holds nx _ (by rw [lookH_cons,if_pos rfl])
   refine ⟨_,run_endLoop (P:=P) h1.2 hb,?_⟩
   have h2:St tb B0 ((nx+1,defE w.heap.size) :: (nx,none) :: Hz) F0 (w2.putObj (w.heap.size+1) (recO f.fn a.tmps ps assign body w.heap.size .exhausted pd)):=by
    refine ((hz.putObj (id:=nx) (o':=recO f.fn a.tmps ps assign body w.heap.size .exhausted pd) (by rw [lookH_cons,if_pos rfl])).give nx).congr λk x hx=>?_
    rw [lookH_cons,lookH_cons] at hx
    rw [lookH_cons,lookH_cons,lookH_cons,lookH_cons]
    split at hx
    ·rename_i e;rw [if_neg (by omega),if_neg (by omega),if_neg (by omega),if_pos e];exact hx
    ·rename_i e
     split at hx
     ·cases hx
     ·rename_i e2;rw [if_neg e2,if_neg e2,if_neg e2,if_neg e];exact hx
   rw [hF0e] at h2
   refine h2.putDef.congr λk x hx=>?_
   rw [lookH_cons,lookH_cons] at hx ⊢
   split at hx
   ·cases hx
   ·rename_i e
    split at hx
    ·cases hx
    ·rename_i e2;rw [if_neg e2,if_neg e];exact hx
  rcases hR with ⟨y,hy⟩|⟨i,G2,y,hi,hy⟩
  ·obtain ⟨hp,_,hy⟩:=hy.fact
   obtain ⟨w3,e1,e2⟩:=endL .ready none _ nofun hy
   have h3:=stepR_endRangeFunc (P:=P) (b:=base f') (a:=f'.act a) (k:=k) (cs:=cs) e1
   refine Goes.of_steps (hback.trans (.one h3)) ?_
   exact Goes.ds (hdone y w.heap.size w3.heap.size hp w3 rfl e2 cs a ha)
  ·obtain ⟨hq,_,hy⟩:=hy.fact
   obtain ⟨w3,e1,e2⟩:=endL .done (some js) _ nofun hy
   have h3:=stepR_endRangeFunc (P:=P) (b:=base f') (a:=f'.act a) (k:=k) (cs:=cs) e1
   refine Goes.of_steps (hback.trans (.one h3)) ?_
   exact Goes.ds (hstop i hi y w.heap.size w3.heap.size hq w3 rfl e2 cs a ha)
 ·-- a round
  intro i hi x Hg u hu
  have hp:=hu.fact.1
  have hu2:St tb B0 Hg (λv=>St tb B0 (Ry x i) (λv=>F0 v/\w.heap.size+2 ≤ v.heap.size) v) u:=hu.mono λv _ hv=>hv.2.2.mono λv' ha' hf=>⟨hf,Nat.le_trans hv.2.1 ha'.size⟩
  have hE':Agree n { tmps:=a.tmps,defers:=[] } (kn E):=⟨rfl,ha.2.1,λt v hv=>ha.2.2 t v (hE.le t v hv)⟩
  refine (yields_run (P:=P) (tb:=tb) (B0:=B0) (nx:=nx) (n:=n) (Ha:=Hc (i+1)) (Hb:=Hs i) (p:=p (i+1)) (q:=q i) (js:=js) (Hx:=Hy i x) (F0:=λv=>F0 v/\w.heap.size+2 ≤ v.heap.size)
   hE' (hps _) hpn (λKg m' hK=>hbody i hi x hp _ _ _ Kg m' λv hv=>hF0K v (hK v hv).1) hu2).mono ?_
  rintro b w' ⟨hsz,hb⟩
  refine ⟨hsz,?_⟩
  rcases hb with ⟨rfl,y,hy,hst'⟩|⟨rfl,y,hy,hst'⟩
  ·exact .inl ⟨rfl,y,hst'.mono λv _ hv=>⟨hy,hv.fact.2,hv.mono λ_ _ h=>h.1⟩⟩
  ·exact .inr ⟨rfl,y,hst'.mono λv _ hv=>⟨hy,hv.fact.2,hv.mono λ_ _ h=>h.1⟩⟩
theorem IterB.enter {g:FuncId} {fn:Func} {c:Code} {args:Value->List Value} {Gi G':Heap} {N:Nat} {enc:Nat->List EV} {T:TypeId} {pa:Addr} {rv:Nat->Value} (E:Nat->SEnv) (hf:P.funcs[g]? = some fn) (hb:fn.body=some c) (hn:fn.ntmps=n)
  (hl:∀ Y,Nat.ble (args Y).length n=true) (hE:∀ l,Sub (E l) (λt=>(args (.func (.yield l) #[] #[]))[t]?)) (nx:Nat)
  (h:∀ (α σ:Type) (B0 l m:Nat) (Z Y:Nat->α->World->Prop) (Zs:Nat->σ->World->Prop),
   (∀ i x Hg w,i ≤ N->St tb B0 Hg (Z i x) w->(loadVar T pa).run P w = .ok (rv i) w) →
   (∀ i x Hg w,i < N->St tb B0 Hg (Z i x) w->∃ w',(storeVar T pa (rv (i+1))).run P w = .ok () w'/\w.heap.size ≤ w'.heap.size/\St tb B0 Hg (Y i x) w') →
   (∀ i (hi:i < N) x Hg w,St tb B0 Hg (Y i x) w->Yields P l ((enc i).map EV.v) w (λb w'=>w.heap.size ≤ w'.heap.size/\((b=true/\∃ y,St tb B0 Hg (Z (i+1) y) w') ∨ (b=false/\∃ y,St tb B0 Hg (Zs i y) w')))) →
   ∀ x,RH P (fr g) n tb B0 [] (λe w'=>(∃ v,e = .returned v)/\((∃ y,St tb B0 G' (Z N y) w') ∨ ∃ i G2 y,i < N/\St tb B0 G2 (Zs i y) w')) [.code c] (E l) Gi nx m (Z 0 x)) :
  IterB P tb g args Gi G' N (λi=>(enc i).map EV.v) T pa rv:=by
 intro α σ B0 l Z Y Zs hget hput hY x w hst
 have h1:=h α σ B0 l w.heap.size (λi x u=>w.heap.size ≤ u.heap.size/\Z i x u) (λi x u=>w.heap.size ≤ u.heap.size/\Y i x u) (λi y u=>w.heap.size ≤ u.heap.size/\Zs i y u) (λi x Hg u hi hu=>hget i x Hg u hi (hu.mono λ_ _ h=>h.2)) ?_ ?_ x
 ·refine Calls.mono (YtbfjmimiigjenaaGreatDoor.V.enter (f:=g) (n:=n) hf hb hn (hl _) (Run.weaken _ (hE l).le (h1 w rfl (hst.mono λu ha hu=>⟨ha.size,hu⟩)))) ?_
  rintro e w' ⟨hv,hr⟩
  rcases hr with ⟨y,hy⟩|⟨i,G2,y,hi,hy⟩
  ·exact ⟨hv,hy.fact.1,.inl ⟨y,hy.mono λu _ hu=>hu.2⟩⟩
  ·exact ⟨hv,hy.fact.1,.inr ⟨i,G2,y,hi,hy.mono λu _ hu=>hu.2⟩⟩
 ·intro i x Hg u hi hu
  have hs:=hu.fact.1
  obtain ⟨w',e1,e2,e3⟩:=hput i x Hg u hi (hu.mono λ_ _ h=>h.2)
  exact ⟨w',e1,e2,e3.mono λv ha hv=>⟨Nat.le_trans hs (Nat.le_trans e2 ha.size),hv⟩⟩
 ·intro i hi x Hg u hu
  have hs:=hu.fact.1
  refine (hY i hi x Hg u (hu.mono λ_ _ h=>h.2)).mono ?_
  rintro b w' ⟨e1,e2⟩
  refine ⟨e1,?_⟩
  rcases e2 with ⟨rfl,y,hy⟩|⟨rfl,y,hy⟩
  ·exact .inl ⟨rfl,y,hy.mono λv ha hv=>⟨Nat.le_trans hs (Nat.le_trans e1 ha.size),hv⟩⟩
  ·exact .inr ⟨rfl,y,hy.mono λv ha hv=>⟨Nat.le_trans hs (Nat.le_trans e1 ha.size),hv⟩⟩
end
end Go.Proofs.YtbfjmimiigjenaaGreatDoor.V
