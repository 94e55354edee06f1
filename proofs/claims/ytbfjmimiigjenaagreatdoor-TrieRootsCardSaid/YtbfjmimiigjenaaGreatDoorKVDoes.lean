/-
Lemmas. No condition.
-/
import Derived.Test.YtbfjmimiigjenaaGreatDoorKVIter
set_option linter.unusedVariables false
set_option linter.unusedSectionVars false
set_option linter.unusedSimpArgs false
namespace Go.Proofs.YtbfjmimiigjenaaGreatDoor.V
open Go Go.RowKit
def renB (Gi:Heap) (σ:List (Nat × Nat)) (nx i:Nat):Nat:=bif Gi.any (λp=>Nat.beq p.1 i) then ren σ i else nx+i
def backH (Gi G':Heap) (σ:List (Nat × Nat)) (nx:Nat):Heap:=G'.map λp=>(renB Gi σ nx p.1,p.2)
def afterH (Gi G' H:Heap) (σ:List (Nat × Nat)) (nx:Nat):Heap:=backH Gi G' σ nx ++ rest Gi H σ
def tauB (r:Nat->Nat):Heap->Nat->Nat
 | [],k=>2*k+1
 | p :: l,k=>if r p.1=k then 2*p.1 else tauB r l k
theorem tauB_odd {r:Nat->Nat}:∀ {G:Heap} {k:Nat},(∀ p ∈ G,r p.1 ≠ k)->tauB r G k=2*k+1
 | [],_,_=>rfl
 | p :: l,k,h=>by
  unfold tauB
  rw [if_neg (h p (.head _)),tauB_odd λq hq=>h q (.tail _ hq)]
theorem tauB_even {r:Nat->Nat}:∀ {G:Heap} {p:Nat × Option HE},p ∈ G->(G.map λq=>r q.1).Nodup->tauB r G (r p.1)=2*p.1
 | [],_,h,_=>by cases h
 | q :: l,p,h,hn=>by
  rw [List.map_cons,List.nodup_cons] at hn
  unfold tauB
  rcases List.mem_cons.1 h with rfl|h
  ·rw [if_pos rfl]
  ·rw [if_neg λe=>hn.1 (List.mem_map.2 ⟨p,h,e.symm⟩),tauB_even h hn.2]
theorem lookH_map {r:Nat->Nat}:∀ {G:Heap} {p:Nat × Option HE},p ∈ G->(G.map λq=>r q.1).Nodup->loH (G.map λq=>(r q.1,q.2)) (r p.1)=loH G p.1
 | [],_,h,_=>by cases h
 | q :: l,p,h,hn=>by
  rw [List.map_cons,List.nodup_cons] at hn
  rw [List.map_cons,lookH_cons,lookH_cons]
  rcases List.mem_cons.1 h with rfl|h
  ·rw [if_pos rfl,if_pos rfl]
  ·rw [if_neg λe=>hn.1 (List.mem_map.2 ⟨p,h,e.symm⟩),if_neg λe=>hn.1 (List.mem_map.2 ⟨p,h,by rw [e]⟩),lookH_map h hn.2]
theorem Sel.after {Gi G' H:Heap} {σ:List (Nat × Nat)} {nx:Nat} (hn:nodupN (G'.map λp=>renB Gi σ nx p.1)=true) :
  Sel (afterH Gi G' H σ nx) (comb G' (rest Gi H σ)) (tauB (renB Gi σ nx) G'):=by
 have hnd:=nodupN_nodup hn
 have key:∀ k,(∃ p ∈ G',renB Gi σ nx p.1=k) ∨ (∀ p ∈ G',renB Gi σ nx p.1 ≠ k):=λk=>by
  by_cases h:∃ p ∈ G',renB Gi σ nx p.1=k
  ·exact .inl h
  ·exact .inr λp hp e=>h ⟨p,hp,e⟩
 refine ⟨λk x hx=>?_,λi k x y _ _ e=>?_⟩
 ·rcases key k with ⟨p,hp,rfl⟩|hno
  ·refine ⟨x,?_,rfl⟩
   rw [tauB_even hp hnd,lookH_even,← lookH_map hp hnd]
   unfold afterH at hx
   have:∀ (A B:Heap),(∃ q ∈ A,q.1=renB Gi σ nx p.1)->loH (A ++ B) (renB Gi σ nx p.1)=loH A (renB Gi σ nx p.1):=by
    intro A B
    induction A with
    | nil=>rintro ⟨_,h,_⟩;cases h
    | cons a l ih =>
     rintro ⟨q,hq,hqe⟩
     rw [List.cons_append,lookH_cons,lookH_cons]
     by_cases e:a.1=renB Gi σ nx p.1
     ·rw [if_pos e,if_pos e]
     ·rw [if_neg e,if_neg e]
      rcases List.mem_cons.1 hq with rfl|hq
      ·exact absurd hqe e
      ·exact ih ⟨q,hq,hqe⟩
   rw [this (backH Gi G' σ nx) _ ⟨(renB Gi σ nx p.1,p.2),List.mem_map.2 ⟨p,hp,rfl⟩,rfl⟩] at hx
   exact hx
  ·refine ⟨x,?_,rfl⟩
   rw [tauB_odd hno,lookH_odd]
   unfold afterH at hx
   rw [lookH_append _ _ _ λq hq=>by obtain ⟨p,hp,rfl⟩:=List.mem_map.1 hq;exact hno p hp] at hx
   exact hx
 ·rcases key i with ⟨p,hp,rfl⟩|hi<;>rcases key k with ⟨q,hq,rfl⟩|hk
  ·rw [tauB_even hp hnd,tauB_even hq hnd] at e
   have:p.1=q.1:=by omega
   rw [this]
  ·rw [tauB_even hp hnd,tauB_odd hk] at e;omega
  ·rw [tauB_odd hi,tauB_even hq hnd] at e;omega
  ·rw [tauB_odd hi,tauB_odd hk] at e;omega
section
variable {P:Program} {f:Fr} {n:Nat} {S:Stops} {R:Ending->World->Prop} {tb:TT} {B0:Nat} {I:World->Prop} {H:Heap} {nx m:Nat} {env:SEnv} {todo k:List Item}
variable {α:Type} {ops:Array Oper} {i:Nat} {l:List Bool} {o:Oper}
variable {rs:List Nat} {d:Nat} {fo:Operand} {args:Array Operand} {tys:Array TypeId} {ty:TypeId} {ps:String} {af:Array Edge} {gd:Option (Nat × Bool)} {g:FuncId} {es:List EV} {f1 c1:List Value}
theorem OpGo.doB {ef:EV} {Gi:Heap} {pre:World->Prop} {V:α->Value} {G':α->Heap} {J:α->Nat->World->Prop} [∀ x,From (J x)] (σ:List (Nat × Nat)) (nx:Nat) (e:α->EV)
  (hd:Nat.blt d n=true) (hf:evE env fo=some ef) (hev:ef.v = .func (.func g) f1.toArray c1.toArray) (hes:evsE env args.toList=some es)
  (hc:∀ (xs:Array Value) w,(callFunc g xs).run P w = .ok (.enter g xs) w) (hC:Does P tb g (f1 ++ es.map EV.v ++ c1) Gi pre V G' J)
  (hσ:SelEq Gi H σ) (hn:nodupN (Gi.map λp=>ren σ p.1)=true) (hp:∀ u,St tb B0 (rest Gi H σ) I u->pre u)
  (hV:∀ x,V x=(e x).v) (hG:∀ x,nodupN ((G' x).map λp=>renB Gi σ nx p.1)=true) :
  OpGo P tb B0 n ⟨some d,.call ⟨.value fo,args,tys⟩,ty,ps,af,gd⟩ env H m I (λx=>(d,e x) :: env) (λx=>afterH Gi (G' x) H σ nx) (λx u=>I u/\J x m u):=by
 intro w a hm hst ha
 have hdn:d < n:=Nat.lt_of_lt_of_le (Nat.lt_succ_self d) (Nat.le_of_ble_eq_true hd)
 unfold Oper.wp
 rw [call_run ha hf hev hes hc]
 have hl:=hst.lend σ (Sel.of σ hσ hn)
 refine (hC B0 w _ hl λu hu=>hp u hu.2).mono ?_
 rintro r w' ⟨x,rfl,hst'⟩
 subst hm
 have hb:=St.back (R:=rest Gi H σ) (J:=J x) (m:=w.heap.size) (λj z hz b hb=>(HE.lt (hst.holds j z (rest_some hz).1) hb).2) hst'
 refine ⟨x,?_,hst'.fact.1.1,hb.sel (Sel.after (hG x))⟩
 rw [kn_cons,← hV x]
 exact ha.put hdn _
theorem RH.doB {Gi:Heap} {pre:World->Prop} {V:α->Value} {G':α->Heap} {J:α->Nat->World->Prop} [∀ x,From (J x)] (σ:List (Nat × Nat)) (nx':Nat) (e:α->EV)
  (ho:ops.toList[i]? = some ⟨some d,.call ⟨.value fo,args,tys⟩,ty,ps,af,gd⟩) (hw:wantE env ops gd = .yes) (hd:Nat.blt d n=true) (hf:fnE (evE env fo)=some (g,f1,c1)) (hes:evsE env args.toList=some es)
  (hc:∀ (xs:Array Value) w,(callFunc g xs).run P w = .ok (.enter g xs) w) (hC:Does P tb g (f1 ++ es.map EV.v ++ c1) Gi pre V G' J)
  (hσ:SelEq Gi H σ) (hn:nodupN (Gi.map λp=>ren σ p.1)=true) (hV:∀ x,V x=(e x).v) (hG:∀ x,nodupN ((G' x).map λp=>renB Gi σ nx p.1)=true) (hp:∀ u,St tb B0 (rest Gi H σ) I u->pre u)
  (hk:∀ x m',m ≤ m'->RH P f n tb B0 S R (.inRegion ops rs :: k) ((d,e x) :: env) (afterH Gi (G' x) H σ nx) nx' m' (λu=>I u/\J x m u)):RH P f n tb B0 S R (.inRegion ops (i :: rs) :: k) env H nx m I :=
 let ⟨_,h1,h2⟩:=fnE_ok hf;RH.go ho hw (OpGo.doB σ nx e hd h1 h2 hes hc hC hσ hn hp hV hG) nx' hk
theorem RD.doB {G0:Heap} {I0:World->Prop} {fuel:Nat} {Gi:Heap} {pre:World->Prop} {V:α->Value} {G':α->Heap} {J:α->Nat->World->Prop} [∀ x,From (J x)] (σ:List (Nat × Nat)) (nx':Nat) (e:α->EV)
  (ho:ops.toList[i]? = some ⟨some d,.call ⟨.value fo,args,tys⟩,ty,ps,af,gd⟩) (hr:Region.ready .any ops l.toArray=[i]) (hw:wantE env ops gd = .yes) (hd:Nat.blt d n=true) (hf:fnE (evE env fo)=some (g,f1,c1)) (hes:evsE env args.toList=some es)
  (hc:∀ (xs:Array Value) w,(callFunc g xs).run P w = .ok (.enter g xs) w) (hC:Does P tb g (f1 ++ es.map EV.v ++ c1) Gi pre V G' J)
  (hσ:SelEq Gi H σ) (hn:nodupN (Gi.map λp=>ren σ p.1)=true) (hV:∀ x,V x=(e x).v) (hG:∀ x,nodupN ((G' x).map λp=>renB Gi σ nx p.1)=true) (hp:∀ u,St tb B0 (rest Gi H σ) I u->pre u)
  (hG0:∀ x,SubH G0 (afterH Gi (G' x) H σ nx)) (hI:∀ w,I w->I0 w)
  (hk:∀ x m',m ≤ m'->RD P f n tb B0 S R k ops G0 I0 fuel (l.set i true) ((d,e x) :: env) (afterH Gi (G' x) H σ nx) nx' m' (λu=>I u/\J x m u)):RD P f n tb B0 S R k ops G0 I0 (fuel+1) l env H nx m I :=
 let ⟨_,h1,h2⟩:=fnE_ok hf;RD.go ho hr hw (OpGo.doB σ nx e hd h1 h2 hes hc hC hσ hn hp hV hG) nx' hG0 (λ_ w h=>hI w h.1) hk
theorem RH.drop {J:World->Prop} (h:RH P f n tb B0 S R todo env H nx m I):RH P f n tb B0 S R todo env H nx m (λu=>I u/\J u):=RH.facts I (λ_ h=>h.1) h
theorem Does.of_gives {g:FuncId} {args:List Value} {G:Heap} {pre:World->Prop} {e:EV} (h:∀ w,pre w->Gives P g args w e):Does P tb g args G pre (λ_:Unit=>e.v) (λ_=>G) (λ_ _ _=>True):=by
 intro B0 w K hst hk
 refine (h w (hk w hst.fact)).mono ?_
 rintro r w' ⟨rfl,he⟩
 exact ⟨(),rfl,(hst.ext he).mono λu _ hu=>⟨hu,trivial⟩⟩
theorem Iter.enter {g:FuncId} {fn:Func} {c:Code} {args:Value->List Value} {Gi:Heap} {pre:World->Prop} {β:Type} {xs:List β} {enc:β->List EV} {G':Heap} (E:Nat->SEnv) (hf:P.funcs[g]? = some fn) (hb:fn.body=some c) (hn:fn.ntmps=n)
  (hl:∀ Y,Nat.ble (args Y).length n=true) (hE:∀ l,Sub (E l) (λt=>(args (.func (.yield l) #[] #[]))[t]?)) (nx:Nat)
  (h:∀ (α σ:Type) (B0 l m:Nat) (Z:Nat->α->World->Prop) (Zs:Nat->σ->World->Prop),(∀ i x u,Z i x u->pre u) →
   (∀ i (hi:i < xs.length) x Hg w,St tb B0 Hg (Z i x) w->Yields P l ((enc xs[i]).map EV.v) w (λb w'=>w.heap.size ≤ w'.heap.size/\((b=true/\∃ y,St tb B0 Hg (Z (i+1) y) w') ∨ (b=false/\∃ y,St tb B0 Hg (Zs i y) w')))) →
   ∀ x,RH P (fr g) n tb B0 [] (λe w'=>(∃ v,e = .returned v)/\((∃ y,St tb B0 G' (Z xs.length y) w') ∨ ∃ i G2 y,i < xs.length/\St tb B0 G2 (Zs i y) w')) [.code c] (E l) Gi nx m (Z 0 x)) :
  Iter P tb g args Gi pre xs (λx=>(enc x).map EV.v) G':=by
 intro α σ B0 l Z Zs hZ hY x w hst
 have h1:=h α σ B0 l w.heap.size (λi x u=>w.heap.size ≤ u.heap.size/\Z i x u) (λi y u=>w.heap.size ≤ u.heap.size/\Zs i y u) (λi x u hu=>hZ i x u hu.2) ?_ x
 ·refine Calls.mono (YtbfjmimiigjenaaGreatDoor.V.enter (f:=g) (n:=n) hf hb hn (hl _) (Run.weaken _ (hE l).le (h1 w rfl (hst.mono λu ha hu=>⟨ha.size,hu⟩)))) ?_
  rintro e w' ⟨hv,hr⟩
  rcases hr with ⟨y,hy⟩|⟨i,G2,y,hi,hy⟩
  ·exact ⟨hv,hy.fact.1,.inl ⟨y,hy.mono λu _ hu=>hu.2⟩⟩
  ·exact ⟨hv,hy.fact.1,.inr ⟨i,G2,y,hi,hy.mono λu _ hu=>hu.2⟩⟩
 ·intro i hi x Hg u hu
  have hsz:=hu.fact.1
  refine (hY i hi x Hg u (hu.mono λv _ hv=>hv.2)).mono ?_
  rintro b w' ⟨h1,h2⟩
  refine ⟨h1,?_⟩
  have hw:=Nat.le_trans hsz h1
  rcases h2 with ⟨rfl,y,hy⟩|⟨rfl,y,hy⟩
  ·exact .inl ⟨rfl,y,hy.mono λv ha hv=>⟨Nat.le_trans hw ha.size,hv⟩⟩
  ·exact .inr ⟨rfl,y,hy.mono λv ha hv=>⟨Nat.le_trans hw ha.size,hv⟩⟩
end
end Go.Proofs.YtbfjmimiigjenaaGreatDoor.V
