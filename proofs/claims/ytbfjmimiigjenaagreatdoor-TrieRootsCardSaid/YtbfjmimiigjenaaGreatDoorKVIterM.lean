/-
Lemmas. No condition.
-/
import Derived.Laws.IdiomRangeMap
import Derived.Test.YtbfjmimiigjenaaGreatDoorKVIterW
import Derived.Test.YtbfjmimiigjenaaGreatDoorKVMap
set_option linter.unusedVariables false
set_option linter.unusedSectionVars false
set_option linter.unusedSimpArgs false
namespace Go.Proofs.YtbfjmimiigjenaaGreatDoor.V
open Go Go.RowKit
def IterM (P:Program) (tb:TT) (g:FuncId) (args:Value->List Value) (Gi:Heap) (pre:World->Prop) {β:Type} (xs:List β) (enc:β->List Value) (G':Heap):Prop :=
 ∀ (α σ:Type) (B0 l:Nat) (Z:List β->α->World->Prop) (Zs:List β->σ->World->Prop),(∀ d x u,Z d x u->pre u) →
  (∀ d b,(∃ r,(d ++ b :: r).Perm xs)->∀ x Hg w,St tb B0 Hg (Z d x) w->Yields P l (enc b) w (λb2 w'=>w.heap.size ≤ w'.heap.size/\((b2=true/\∃ y,St tb B0 Hg (Z (d ++ [b]) y) w') ∨ (b2=false/\∃ y,St tb B0 Hg (Zs d y) w')))) →
  ∀ x w,St tb B0 Gi (Z [] x) w->Calls P g (args (.func (.yield l) #[] #[])).toArray w (λe w'=>(∃ v,e = .returned v)/\w.heap.size ≤ w'.heap.size/\((∃ d,d.Perm xs/\∃ y,St tb B0 G' (Z d y) w') ∨ ∃ d G2 y,St tb B0 G2 (Zs d y) w'))
section
variable {P:Program} {f:Fr} {n:Nat} {S:Stops} {R:Ending->World->Prop} {tb:TT} {B0:Nat} {I:World->Prop} {H:Heap} {nx m:Nat} {env:SEnv} {todo k:List Item}
theorem RH.rangeFuncM {β α σ:Type} {xs:List β} {enc:β->List EV} {Gi G':Heap} {pre:World->Prop} {g:FuncId} {f1 c1:List Value} {fo:Operand} {ps:Array Tmp} {assign body:Code}
  (hr:f.round=none) (hf:fnE (evE env fo)=some (g,f1,c1)) (hc:∀ (xs:Array Value) w,(callFunc g xs).run P w = .ok (.enter g xs) w)
  (hI:IterM P tb g (λY=>f1 ++ [Y] ++ c1) Gi pre xs (λx=>(enc x).map EV.v) G') (hps:∀ x,(enc x).length=ps.size) (hpn:ps.toList.all (λp=>Nat.blt p n)=true)
  (s:List (Nat × Nat)) (hs:∀ l t D,SelEq Gi ((nx,recE l f.fn t ps assign body D .ready none) :: (nx+1,defE D) :: H) s) (hsn:nodupN (Gi.map λp=>ren s p.1)=true)
  (E:SEnv) (hE:Sub E (kn env)) (K:World->Prop) (hK0:∀ w,I w->Def tb B0 f.ds K w) (hpre:∀ u,K u->pre u)
  (Hc:List β->α->Heap) (p:List β->α->Prop) (x0:α) (hp0:p [] x0)
  (h0:∀ l t D,SubH ((nx,recE l f.fn t ps assign body D .ready none) :: (nx+1,defE D) :: Hc [] x0) (rest Gi ((nx,recE l f.fn t ps assign body D .ready none) :: (nx+1,defE D) :: H) s))
  (Hs:List β->σ->Heap) (q:List β->σ->Prop) (js:Code)
  (hbody:∀ d b,(∃ r,(d ++ b :: r).Perm xs)->∀ x,p d x->∀ l D t Kg m',(∀ u,Kg u->K u)->RH P { fn:=f.fn,round:=some l,ds:=[],J:=λj u=>match j with
    | none=>∃ y,p (d ++ [b]) y/\St tb B0 ((nx,recE l f.fn t ps assign body D .busy none) :: (nx+1,defE D) :: Hc (d ++ [b]) y) Kg u
    | some c=>c=js/\∃ y,q d y/\St tb B0 ((nx,recE l f.fn t ps assign body D .busy none) :: (nx+1,defE D) :: Hs d y) Kg u } n tb B0 [] (λ_ _=>False)
   [.code assign,.beginRound,.code body] ((ps.toList.zip (enc b)).reverse ++ E) ((nx,recE l f.fn t ps assign body D .ready none) :: (nx+1,defE D) :: Hc d x) (nx+2) m' Kg)
  (nx':Nat)
  (hdone:∀ d x D m',d.Perm xs->p d x->RH P { f with ds:=D :: f.ds } n tb B0 S R k env ((nx,none) :: (nx+1,none) :: Hc d x) nx' m' (Def tb B0 (D :: f.ds) K))
  (hstop:∀ d x D m',q d x->RH P { f with ds:=D :: f.ds } n tb B0 S R (.code js :: k) env ((nx,none) :: (nx+1,none) :: Hs d x) nx' m' (Def tb B0 (D :: f.ds) K)) :
  RH P f n tb B0 S R (.code (.rangeFunc fo ps assign body) :: k) env H nx m I:=by
 intro w hm hst cs a ha
 obtain ⟨F0,hF0e⟩:∃ F0:World->Prop,F0=Def tb B0 f.ds K:=⟨_,rfl⟩
 have hF0:∀ w,I w->F0 w:=λw h=>by rw [hF0e];exact hK0 w h
 have hF0K:∀ u,F0 u->K u:=λu h=>by rw [hF0e] at h;exact h.fact
 obtain ⟨ef,he,hev⟩:=fnE_ok hf
 have hfv:a.eval fo = .func (.func g) f1.toArray c1.toArray:=(ev_run ha he).trans hev
 have hent:=run_enterLoop_outer (P:=P) (w:=w) f.fn a.tmps ps assign body
 obtain ⟨w1,hw1⟩:∃ w1,(w.alloc (.deferred (some []))).alloc (.loop { state:=.ready,pending:=none,fn:=f.fn,tmps:=a.tmps,params:=ps,assign,body,defers:=w.heap.size })=w1:=⟨_,rfl⟩
 rw [hw1] at hent
 have hsz1:w1.heap.size=w.heap.size+2:=by rw [← hw1];simp
 -- what is had now
 have hst1:St tb B0 ((nx,recE (w.heap.size+1) f.fn a.tmps ps assign body w.heap.size .ready none) :: (nx+1,defE w.heap.size) :: H) I w1:=by
  have a1:=hst.push (ext_alloc w (.deferred (some []))) (nx+1) (.obj w.heap.size (.deferred (some []))) ⟨hst.base,heap_alloc_new w _⟩ (λk hk=>by injection hk with hk;omega)
  have a2:=a1.push (ext_alloc (w.alloc (.deferred (some []))) (recO f.fn a.tmps ps assign body w.heap.size .ready none)) nx (.obj (w.heap.size+1) (recO f.fn a.tmps ps assign body w.heap.size .ready none))
   ⟨by have:=hst.base;omega,by have:=heap_alloc_new (w.alloc (.deferred (some []))) (recO f.fn a.tmps ps assign body w.heap.size .ready none);simpa using this⟩ (λk hk=>by injection hk with hk;simp;omega)
  rw [← hw1];exact a2
 have hl:=hst1.lend s (Sel.of s (hs _ _ _) hsn)
 let Rr (x:α) (i:List β):Heap:=(nx,recE (w.heap.size+1) f.fn a.tmps ps assign body w.heap.size .ready none) :: (nx+1,defE w.heap.size) :: Hc i x
 have hl0:St tb B0 Gi (λu=>p [] x0/\(w.heap.size+2 ≤ u.heap.size/\St tb B0 (Rr x0 []) F0 u)) w1:=hl.mono λu hu h=>⟨hp0,by rw [← hsz1];exact h.1,(h.2.sub (h0 _ _ _)).mono λv _ hv=>hF0 v hv⟩
 have hcall:=hI α σ B0 (w.heap.size+1) (λi x u=>p i x/\(w.heap.size+2 ≤ u.heap.size/\St tb B0 (Rr x i) F0 u))
  (λi y u=>q i y/\(w.heap.size+2 ≤ u.heap.size/\St tb B0 ((nx,recE (w.heap.size+1) f.fn a.tmps ps assign body w.heap.size .done (some js)) :: (nx+1,defE w.heap.size) :: Hs i y) F0 u))
  (λi x u hu=>hpre u (hF0K u hu.2.2.fact)) ?_ x0 w1 hl0
 ·-- behind the iterator
  have hres:(resolve a.eval (rangeCall fo (w.heap.size+1)) 0).run P w1 = .ok { target:=.fn (.func g) c1.toArray,args:=f1.toArray ++ #[.func (.yield (w.heap.size+1)) #[] #[]] } w1:=by
   simp only [resolve,Deferred.ofValue,hfv,Sem.run_bind,Sem.run_pure,Result.andThen_ok]
   simp [Act.eval]
  have hinv:(invoke (.fn (.func g) c1.toArray) (f1.toArray ++ #[Value.func (.yield (w.heap.size+1)) #[] #[]])).run P w1 = .ok (.enter g (f1 ++ [Value.func (.yield (w.heap.size+1)) #[] #[]] ++ c1).toArray) w1:=by
   simp only [invoke]
   rw [show (f1.toArray ++ #[Value.func (.yield (w.heap.size+1)) #[] #[]] ++ c1.toArray)=(f1 ++ [Value.func (.yield (w.heap.size+1)) #[] #[]] ++ c1).toArray by simp]
   exact hc _ _
  have henter:=stepR_rangeFunc (P:=P) (b:=base f) (a:=f.act a) (k:=k) (cs:=cs) (w:=w) (g:=fo) (ps:=ps) (assign:=assign) (body:=body) (l:=w.heap.size+1) (mark:=[{ target:=.collected w.heap.size,args:=#[] }])
   (by show (Instr.enterLoop f.fn a.tmps ps assign body f.round).run P w=_;rw [hr];exact hent) (by rw [Fr.act_eval];exact hres) hinv
  let f':Fr:={ f with ds:=w.heap.size :: f.ds }
  have hfr:(base f).atR { f.act a with defers:=[{ target:=.collected w.heap.size,args:=#[] }] ++ (f.act a).defers } (.inRangeFunc (w.heap.size+1) :: k)=f'.cfg a (.inRangeFunc (w.heap.size+1) :: k):=by
   simp [Fr.cfg,Frame.atR,base,Fr.act,Fr.coll,f',ha.1]
  rw [hfr] at henter
  obtain ⟨e,w2,frX,⟨⟨⟨v,rfl⟩,hszc,hR⟩,hsteps,hfn,hleave⟩⟩:=(show ∃ e w' fr,_/\_/\_/\_ from hcall (f'.cfg a (.inRangeFunc (w.heap.size+1) :: k) :: cs))
  have hback:Steps P (lone (f.cfg a (.code (.rangeFunc fo ps assign body) :: k)) cs w) (lone (f'.cfg a (.endRangeFunc (w.heap.size+1) :: k)) cs w2):=by
   refine .head henter (Steps.trans hsteps (.one ?_))
   have:=step_leave_returned (c:=f'.cfg a (.inRangeFunc (w.heap.size+1) :: k)) (cs:=cs) hleave
   rw [show (f'.cfg a (.inRangeFunc (w.heap.size+1) :: k)).finish v=f'.cfg a (.endRangeFunc (w.heap.size+1) :: k) from finish_atR_inRangeFunc _ _] at this
   exact this
  have endL:∀ (st:LoopState) (pd:Option Code) (Hz:Heap),st ≠ .busy->St tb B0 ((nx,recE (w.heap.size+1) f.fn a.tmps ps assign body w.heap.size st pd) :: (nx+1,defE w.heap.size) :: Hz) F0 w2 →
    ∃ w3,(Instr.endLoop (w.heap.size+1)).run P w2 = .ok pd w3/\St tb B0 ((nx,none) :: (nx+1,none) :: Hz) (Def tb B0 (w.heap.size :: f.ds) K) w3:=by
   intro st pd Hz hb hz
   have h1:=hz.holds nx _ (by rw [lookH_cons,if_pos rfl])
   refine ⟨_,run_endLoop (P:=P) h1.2 hb,?_⟩
   have h2:St tb B0 ((nx+1,defE w.heap.size) :: (nx,none) :: Hz) F0 (w2.putObj (w.heap.size+1) (recO f.fn a.tmps ps assign body w.heap.size .exhausted pd)):=by
    refine ((hz.putObj (id:=nx) (o':=recO f.fn a.tmps ps assign body w.heap.size .exhausted pd) (by rw [lookH_cons,if_pos rfl])).give nx).congr λk x hx=>?_
    rw [lookH_cons,lookH_cons] at hx
    rw [lookH_cons,lookH_cons,lookH_cons,lookH_cons]
    split at hx
    ·rename_i e;rw [if_neg (by omega),if_neg (by omega),if_neg (by omega),if_pos e];exact hx
    ·rename_i e
     split at hx
     ·cases hx
     ·rename_i e2;rw [if_neg e2,if_neg e2,if_neg e2,if_neg e];exact hx
   rw [hF0e] at h2
   refine h2.putDef.congr λk x hx=>?_
   rw [lookH_cons,lookH_cons] at hx ⊢
   split at hx
   ·cases hx
   ·rename_i e
    split at hx
    ·cases hx
    ·rename_i e2;rw [if_neg e2,if_neg e];exact hx
  rcases hR with ⟨d,hd,y,hy⟩|⟨d,G2,y,hy⟩
  ·obtain ⟨hp,_,hy⟩:=hy.fact
   obtain ⟨w3,e1,e2⟩:=endL .ready none _ nofun hy
   have h3:=stepR_endRangeFunc (P:=P) (b:=base f') (a:=f'.act a) (k:=k) (cs:=cs) e1
   refine Goes.of_steps (hback.trans (.one h3)) ?_
   exact Goes.ds (hdone d y w.heap.size w3.heap.size hd hp w3 rfl e2 cs a ha)
  ·obtain ⟨hq,_,hy⟩:=hy.fact
   obtain ⟨w3,e1,e2⟩:=endL .done (some js) _ nofun hy
   have h3:=stepR_endRangeFunc (P:=P) (b:=base f') (a:=f'.act a) (k:=k) (cs:=cs) e1
   refine Goes.of_steps (hback.trans (.one h3)) ?_
   exact Goes.ds (hstop d y w.heap.size w3.heap.size hq w3 rfl e2 cs a ha)
 ·-- a round
  intro d b hi x Hg u hu
  have hp:=hu.fact.1
  have hu2:St tb B0 Hg (λv=>St tb B0 (Rr x d) (λv=>F0 v/\w.heap.size+2 ≤ v.heap.size) v) u:=hu.mono λv _ hv=>hv.2.2.mono λv' ha' hf=>⟨hf,Nat.le_trans hv.2.1 ha'.size⟩
  have hE':Agree n { tmps:=a.tmps,defers:=[] } (kn E):=⟨rfl,ha.2.1,λt v hv=>ha.2.2 t v (hE.le t v hv)⟩
  refine (yields_run (P:=P) (tb:=tb) (B0:=B0) (nx:=nx) (n:=n) (Ha:=Hc (d ++ [b])) (Hb:=Hs d) (p:=p (d ++ [b])) (q:=q d) (js:=js) (Hx:=Hc d x) (F0:=λv=>F0 v/\w.heap.size+2 ≤ v.heap.size)
   hE' (hps _) hpn (λKg m' hK=>hbody d b hi x hp _ _ _ Kg m' λv hv=>hF0K v (hK v hv).1) hu2).mono ?_
  rintro b2 w' ⟨hsz,hb⟩
  refine ⟨hsz,?_⟩
  rcases hb with ⟨rfl,y,hy,hst'⟩|⟨rfl,y,hy,hst'⟩
  ·exact .inl ⟨rfl,y,hst'.mono λv _ hv=>⟨hy,hv.fact.2,hv.mono λ_ _ h=>h.1⟩⟩
  ·exact .inr ⟨rfl,y,hst'.mono λv _ hv=>⟨hy,hv.fact.2,hv.mono λ_ _ h=>h.1⟩⟩
end
section
variable {α:Type} [DecidableEq α] {P:Program} {T:TypeId} {kv:α->Value}
theorem ents_mem {es:List (α × Value)} {e:MapEntry} (h:e ∈ ents kv 0 es):∃ j,∃ h:j < es.length,e=⟨kv es[j].1,es[j].2,j⟩:=by
 obtain ⟨j,hj⟩:=List.mem_iff_getElem?.1 h
 rw [ents_get,Nat.zero_add] at hj
 cases hg:es[j]? with
 | none=>rw [hg] at hj;cases hj
 | some p =>
  rw [hg] at hj
  obtain ⟨h1,h2⟩:=List.getElem?_eq_some_iff.1 hg
  refine ⟨j,h1,?_⟩
  rw [h2]
  exact (Option.some.inj hj).symm
theorem ents_at {es:List (α × Value)} {j:Nat} (h:j < es.length):(⟨kv es[j].1,es[j].2,j⟩:MapEntry) ∈ ents kv 0 es:=by
 refine List.mem_iff_getElem?.2 ⟨j,?_⟩
 rw [ents_get,List.getElem?_eq_getElem h,Nat.zero_add];rfl
theorem ents_born (kv:α->Value):∀ (es:List (α × Value)) (n:Nat),((ents kv n es).map (·.born))=List.range' n es.length
 | [],_=>rfl
 | p :: r,n=>by simp [ents,ents_born kv r (n+1),List.range'_succ]
theorem run_nextMap_at {w:World} {b mb:Nat} {es:List (α × Value)} {js:List Nat} (ty:TypeId) (hb:w.heap[b]? = some (.mapIter (some mb) es.length js.toArray es.length)) (hm:w.heap[mb]? = some (mapO kv es)) :
  ((∀ i,i < es.length->i ∈ js)/\(Instr.next (.pointer (some ⟨b,0,none⟩)) false ty).run P w = .ok (.tuple #[.bool false]) w) ∨
  ∃ j,∃ h:j < es.length,j ∉ js/\∃ w1:World,(w1=w ∨ w1=w.drew)/\(Instr.next (.pointer (some ⟨b,0,none⟩)) false ty).run P w = .ok (.tuple #[.bool true,kv es[j].1,es[j].2]) (w1.putObj b (.mapIter (some mb) es.length (js ++ [j]).toArray es.length)):=by
 have hold:∀ x ∈ (ents kv 0 es).toArray.toList,x.born < es.length:=λx hx=>by
  obtain ⟨j,hj,rfl⟩:=ents_mem (by simpa using hx);exact hj
 have hm':w.heap[mb]? = some (.map (ents kv 0 es).toArray es.length):=hm
 simp only [Instr.next,getObj,Sem.run_bind,Sem.run,hb,hm',Result.andThen,next_test_false js.toArray (ents kv 0 es).toArray es.length es.length hold (Nat.le_refl _),Bool.false_eq_true,if_false]
 have hL:∀ x,x ∈ ((ents kv 0 es).toArray.filter λe=>!js.toArray.contains e.born).toList ↔ x ∈ ents kv 0 es/\x.born ∉ js:=λx=>by simp
 generalize ((ents kv 0 es).toArray.filter λe=>!js.toArray.contains e.born)=L at hL ⊢
 have hmem:∀ x ∈ L.toList,x.born < es.length:=λx hx=>hold x (by simpa using ((hL x).1 hx).1)
 have e1:L.filter (λx=>decide (x.born < es.length))=L:=Array.filter_eq_self.2 (λx hx=>by simpa using hmem x (by simpa using hx))
 have e2:L.filter (λx=>decide (x.born ≥ es.length)) = #[]:=by
  rw [Array.filter_eq_empty_iff]
  intro x hx
  have:=hmem x (by simpa using hx)
  simp
  omega
 simp only [e1,e2,Array.append_empty]
 by_cases h0:L.size=0
 ·left
  have:L = #[]:=Array.eq_empty_of_size_eq_zero h0
  subst this
  refine ⟨λi hi=>?_,?_⟩
  ·rcases Classical.em (i ∈ js) with h|h
   ·exact h
   ·have:=(hL _).2 ⟨ents_at hi,h⟩
    simp at this
  ·simp [choose,Sem.run,Question.forced]
 ·right
  have hne:L.isEmpty=false:=by simp [Array.isEmpty,h0]
  simp only [hne,Bool.false_eq_true,if_false,Array.empty_append,Array.size_map]
  have hch:∃ (j:Nat) (w1:World),j < L.size/\(w1=w ∨ w1=w.drew)/\(choose (Question.mapNext L.size)).run P w = .ok j w1:=by
   by_cases hf:L.size ≤ 1
   ·exact ⟨0,w,by omega,.inl rfl,by simp [choose,Sem.run,Question.forced,hf]⟩
   ·exact ⟨_,w.drew,Nat.mod_lt _ (by omega),.inr rfl,by
     simp only [choose,Sem.run,Question.forced,decide_eq_true_eq,hf,if_false,Question.cut]
     rfl⟩
  obtain ⟨q,w1,hq,hal,hrun⟩:=hch
  obtain ⟨hin,hnot⟩:=(hL L[q]).1 (by simp)
  obtain ⟨j,hj,he⟩:=ents_mem hin
  have hjn:j ∉ js:=by have:=hnot;rw [he] at this;exact this
  refine ⟨j,hj,hjn,w1,hal,?_⟩
  have hb1:w1.heap[b]? = some (.mapIter (some mb) es.length js.toArray es.length):=by rcases hal with rfl|rfl<;>exact hb
  have hset:∀ o',(setObj b o').run P w1 = .ok () (w1.putObj b o'):=λo'=>by simp [setObj,Sem.run,hb1,World.putObj]
  simp only [hrun,Array.getElem?_map,Array.getElem?_eq_getElem hq,Option.map_some,Sem.run_bind,hset,Result.andThen,he]
  simp
theorem run_entryMap_at {w:World} {b mb:Nat} {es:List (α × Value)} {js:List Nat} {j:Nat} (hj:j < es.length) (hb:w.heap[b]? = some (.mapIter (some mb) es.length (js ++ [j]).toArray es.length)) (hm:w.heap[mb]? = some (mapO kv es)) :
  (Instr.entry (.pointer (some ⟨b,0,none⟩))).run P w = .ok (.tuple #[kv es[j].1,es[j].2]) w:=by
 have hm':w.heap[mb]? = some (.map (ents kv 0 es).toArray es.length):=hm
 have hn:((ents kv 0 es).toArray.toList.map (·.born)).Nodup:=by
  have:(ents kv 0 es).toArray.toList=ents kv 0 es:=by simp
  rw [this,ents_born]
  exact List.nodup_range'
 have hf:(ents kv 0 es).toArray.find? (·.born == j)=some ⟨kv es[j].1,es[j].2,j⟩:=by
  rw [← Array.find?_toList]
  exact find_born (⟨kv es[j].1,es[j].2,j⟩:MapEntry) (ents kv 0 es).toArray.toList hn (by simpa using ents_at hj)
 simp only [Instr.entry,getObj,Sem.run_bind,Sem.run,hb,hm',Result.andThen]
 simp [hf,getObj,Sem.run,hm',Result.andThen]
variable {n:Nat} {tb:TT} {B0:Nat} {I:World->Prop} {H:Heap} {m:Nat} {env:SEnv}
variable {d:Nat} {ty:TypeId} {ps:String} {af:Array Edge} {gd:Option (Nat × Bool)}
abbrev iterE (b mb:Nat) (len:Nat) (js:List Nat):Option HE:=some (.obj b (.mapIter (some mb) len js.toArray len))
theorem OpGo.rangeMap {t elem:TypeId} {x:Operand} {ex:EV} {mb:Nat} {es:List (α × Value)} (id:Nat) (ht:P.underlying t=some (.map T elem)) (hd:Nat.blt d n=true) (hx:evE env x=some ex) (hxv:ex.v = .map (some mb)) (hm:∀ w,St tb B0 H I w->w.heap[mb]? = some (mapO kv es)) :
  OpGo P tb B0 n ⟨some d,.range t x,ty,ps,af,gd⟩ env H m I (λ_:Unit=>(d,.av (.box id m 0)) :: env) (λ_=>(id,iterE m mb es.length []) :: H) (λ_=>I):=by
 intro w a hmm hst ha
 have hdn:d < n:=Nat.lt_of_lt_of_le (Nat.lt_succ_self d) (Nat.le_of_ble_eq_true hd)
 have hxv':a.eval x = .map (some mb):=(ev_run ha hx).trans hxv
 have hm':w.heap[mb]? = some (.map (ents kv 0 es).toArray es.length):=hm w hst
 unfold Oper.wp
 have:(execOp a.eval ⟨some d,.range t x,ty,ps,af,gd⟩).run P w = .ok (.value (.pointer (some ⟨w.heap.size,0,none⟩))) (w.alloc (.mapIter (some mb) es.length #[] es.length)):=by
  simp only [execOp,hxv',Sem.run_bind,run_range_map w t _ _ mb _ _ ht hm',Result.andThen_ok,Sem.run_pure]
 rw [this]
 subst hmm
 refine ⟨(),?_,by simp,hst.push (ext_alloc w _) id (.obj w.heap.size (.mapIter (some mb) es.length #[] es.length)) ⟨hst.base,heap_alloc_new w _⟩ λk hk=>?_⟩
 ·rw [kn_cons];exact ha.put hdn _
 ·injection hk with hk;omega
theorem OpGo.nextMap {id b mb:Nat} {it:Operand} {es:List (α × Value)} {js:List Nat} (hd:Nat.blt d n=true) (hx:evE env it=some (.av (.box id b 0))) (hH:loH H id=iterE b mb es.length js) (hm:∀ w,St tb B0 H I w->w.heap[mb]? = some (mapO kv es)) :
  OpGo P tb B0 n ⟨some d,.next it false,ty,ps,af,gd⟩ env H m I
   (λo:Option (_root_.Fin es.length)=>(match o with
    | none=>(d,.av (.val (.tuple #[.bool false])))
    | some j=>(d,.av (.val (.tuple #[.bool true,kv es[j].1,es[j].2])))) :: env)
   (λo=>match o with
    | none=>H
    | some j=>(id,iterE b mb es.length (js ++ [j.1])) :: H)
   (λo w=>I w/\match o with
    | none=>∀ i,i < es.length->i ∈ js
    | some j=>j.1 ∉ js):=by
 intro w a hmm hst ha
 have hdn:d < n:=Nat.lt_of_lt_of_le (Nat.lt_succ_self d) (Nat.le_of_ble_eq_true hd)
 have hxv:a.eval it = .pointer (some ⟨b,0,none⟩):=ev_run ha hx
 have ho:=hst.holds id _ hH
 unfold Oper.wp
 rcases run_nextMap_at (P:=P) ty ho.2 (hm w hst) with ⟨h1,h2⟩|⟨j,hj,h1,w1,hal,h2⟩
 ·have:(execOp a.eval ⟨some d,.next it false,ty,ps,af,gd⟩).run P w = .ok (.value (.tuple #[.bool false])) w:=by
   simp only [execOp,hxv,Sem.run_bind,h2,Result.andThen_ok,Sem.run_pure]
  rw [this]
  refine ⟨none,?_,by rw [hmm];exact Nat.le_refl _,hst.mono λu _ hu=>⟨hu,h1⟩⟩
  rw [kn_cons];exact ha.put hdn _
 ·have:(execOp a.eval ⟨some d,.next it false,ty,ps,af,gd⟩).run P w = .ok (.value (.tuple #[.bool true,kv es[j].1,es[j].2])) (w1.putObj b (.mapIter (some mb) es.length (js ++ [j]).toArray es.length)):=by
   simp only [execOp,hxv,Sem.run_bind,h2,Result.andThen_ok,Sem.run_pure]
  rw [this]
  have hsz:w1.heap.size=w.heap.size:=by rcases hal with rfl|rfl<;>rfl
  have hlt:b < w1.heap.size:=by rw [hsz];exact (Array.getElem?_eq_some_iff.1 ho.2).1
  refine ⟨some ⟨j,hj⟩,?_,by rw [World.putObj_size,hsz,hmm];exact Nat.le_refl _,?_⟩
  ·rw [kn_cons];exact ha.put hdn _
  ·have h3:=hst.turn (w':=w1.putObj b (.mapIter (some mb) es.length (js ++ [j]).toArray es.length)) id _ (.obj b (.mapIter (some mb) es.length (js ++ [j]).toArray es.length)) hH
    ⟨by rcases hal with rfl|rfl<;>rfl,by rcases hal with rfl|rfl<;>rfl,by rcases hal with rfl|rfl<;>rfl,by rw [World.putObj_size,hsz];exact Nat.le_refl _,λk hk hne=>by
     rw [World.putObj_heap_other λe=>hne (by rw [e];rfl)]
     rcases hal with rfl|rfl<;>rfl⟩ ⟨ho.1,World.putObj_heap_same hlt⟩ λk hk=>.inl hk
   exact h3.mono λu _ hu=>⟨hu,h1⟩
theorem OpGo.entryMap {id b mb:Nat} {it:Operand} {es:List (α × Value)} {js:List Nat} {j:Nat} (hj:j < es.length) (hd:Nat.blt d n=true) (hx:evE env it=some (.av (.box id b 0))) (hH:loH H id=iterE b mb es.length (js ++ [j])) (hm:∀ w,St tb B0 H I w->w.heap[mb]? = some (mapO kv es)) :
  OpGo P tb B0 n ⟨some d,.entry it,ty,ps,af,gd⟩ env H m I (λ_:Unit=>(d,.av (.val (.tuple #[kv es[j].1,es[j].2]))) :: env) (λ_=>H) (λ_=>I) :=
 OpGo.read (.av (.val (.tuple #[kv es[j].1,es[j].2]))) rfl hd λw a hst ha=>by
  have hxv:a.eval it = .pointer (some ⟨b,0,none⟩):=ev_run ha hx
  have ho:=hst.holds id _ hH
  simp only [execOp,hxv,Sem.run_bind,run_entryMap_at hj ho.2 (hm w hst),Result.andThen_ok,Sem.run_pure]
  rfl
end
section
variable {α:Type} [DecidableEq α] {P:Program} {T:TypeId} {kv:α->Value} {f:Fr} {n:Nat} {S:Stops} {R:Ending->World->Prop} {tb:TT} {B0:Nat} {I:World->Prop} {H:Heap} {nx m:Nat} {env:SEnv} {k:List Item}
theorem RH.nextMap {ops:Array Oper} {i:Nat} {rs:List Nat} {d:Nat} {ty:TypeId} {ps:String} {af:Array Edge} {gd:Option (Nat × Bool)} {it:Operand} (id b mb:Nat) (kv:α->Value) (es:List (α × Value)) (js:List Nat) (ho:ops.toList[i]? = some ⟨some d,.next it false,ty,ps,af,gd⟩) (hw:wantE env ops gd = .yes) (hd:Nat.blt d n=true) (hx:evE env it=some (.av (.box id b 0))) (hH:loH H id=iterE b mb es.length js) (hm:∀ w,I w->w.heap[mb]? = some (mapO kv es))
  (h1:∀ m',m ≤ m'->RH P f n tb B0 S R (.inRegion ops rs :: k) ((d,.av (.val (.tuple #[.bool false]))) :: env) H nx m' (λw=>I w/\∀ i,i < es.length->i ∈ js))
  (h2:∀ j (hj:j < es.length) m',m ≤ m'->RH P f n tb B0 S R (.inRegion ops rs :: k) ((d,.av (.val (.tuple #[.bool true,kv es[j].1,es[j].2]))) :: env) ((id,iterE b mb es.length (js ++ [j])) :: H) nx m' (λw=>I w/\j ∉ js)) :
  RH P f n tb B0 S R (.inRegion ops (i :: rs) :: k) env H nx m I :=
 RH.go ho hw (OpGo.nextMap hd hx hH λw hst=>hm w hst.fact) nx λo m' hm'=>match o with
  | none=>h1 m' hm'
  | some j=>h2 j.1 j.2 m' hm'
end
section
variable {P:Program} {tb:TT} {n:Nat}
theorem IterM.enter {g:FuncId} {fn:Func} {c:Code} {args:Value->List Value} {Gi:Heap} {pre:World->Prop} {β:Type} {xs:List β} {enc:β->List EV} {G':Heap} (E:Nat->SEnv) (hf:P.funcs[g]? = some fn) (hb:fn.body=some c) (hn:fn.ntmps=n)
  (hl:∀ Y,Nat.ble (args Y).length n=true) (hE:∀ l,Sub (E l) (λt=>(args (.func (.yield l) #[] #[]))[t]?)) (nx:Nat)
  (h:∀ (α σ:Type) (B0 l m:Nat) (Z:List β->α->World->Prop) (Zs:List β->σ->World->Prop),(∀ d x u,Z d x u->pre u) →
   (∀ d b,(∃ r,(d ++ b :: r).Perm xs)->∀ x Hg w,St tb B0 Hg (Z d x) w->Yields P l ((enc b).map EV.v) w (λb2 w'=>w.heap.size ≤ w'.heap.size/\((b2=true/\∃ y,St tb B0 Hg (Z (d ++ [b]) y) w') ∨ (b2=false/\∃ y,St tb B0 Hg (Zs d y) w')))) →
   ∀ x,RH P (fr g) n tb B0 [] (λe w'=>(∃ v,e = .returned v)/\((∃ d,d.Perm xs/\∃ y,St tb B0 G' (Z d y) w') ∨ ∃ d G2 y,St tb B0 G2 (Zs d y) w')) [.code c] (E l) Gi nx m (Z [] x)) :
  IterM P tb g args Gi pre xs (λx=>(enc x).map EV.v) G':=by
 intro α σ B0 l Z Zs hZ hY x w hst
 have h1:=h α σ B0 l w.heap.size (λi x u=>w.heap.size ≤ u.heap.size/\Z i x u) (λi y u=>w.heap.size ≤ u.heap.size/\Zs i y u) (λi x u hu=>hZ i x u hu.2) ?_ x
 ·refine Calls.mono (YtbfjmimiigjenaaGreatDoor.V.enter (f:=g) (n:=n) hf hb hn (hl _) (Run.weaken _ (hE l).le (h1 w rfl (hst.mono λu ha hu=>⟨ha.size,hu⟩)))) ?_
  rintro e w' ⟨hv,hr⟩
  rcases hr with ⟨d,hd,y,hy⟩|⟨i,G2,y,hy⟩
  ·exact ⟨hv,hy.fact.1,.inl ⟨d,hd,y,hy.mono λu _ hu=>hu.2⟩⟩
  ·exact ⟨hv,hy.fact.1,.inr ⟨i,G2,y,hy.mono λu _ hu=>hu.2⟩⟩
 ·intro d b hr x Hg u hu
  have hsz:=hu.fact.1
  refine (hY d b hr x Hg u (hu.mono λv _ hv=>hv.2)).mono ?_
  rintro b2 w' ⟨h1,h2⟩
  refine ⟨h1,?_⟩
  have hw:=Nat.le_trans hsz h1
  rcases h2 with ⟨rfl,y,hy⟩|⟨rfl,y,hy⟩
  ·exact .inl ⟨rfl,y,hy.mono λv ha hv=>⟨Nat.le_trans hw ha.size,hv⟩⟩
  ·exact .inr ⟨rfl,y,hy.mono λv ha hv=>⟨Nat.le_trans hw ha.size,hv⟩⟩
end
end Go.Proofs.YtbfjmimiigjenaaGreatDoor.V
