/-
Lemmas. No condition.
-/
import Derived.Test.YtbfjmimiigjenaaGreatDoorKG21
import Derived.Test.YtbfjmimiigjenaaGreatDoorKVZ2
set_option maxRecDepth 10000
set_option linter.unusedVariables false
set_option linter.unusedSimpArgs false
namespace Go.Proofs.YtbfjmimiigjenaaGreatDoor
open Go V RowKit
def Rm {α:Type} (κ:Kd α) (n:Nat) (A:Option Addr) (q c:Nat) (u:World):Prop:=q=0 ∨ ∃ g cur,A=some ⟨g,0,none⟩/\n ≤ g/\u.heap[g]? = some (.cells cur κ.T)/\q ≤ c/\cur.size=c*κ.sz
theorem Rm.of {α:Type} {κ:Kd α} {n m:Nat} {A:Option Addr} {c:Nat} {l:List α} {u:World} (h:u.ownsRow m κ.T κ.sz (.slice A l.length c) l.length (l.flatMap κ.cs)) (hm:n ≤ m):Rm κ n A l.length c u:=by
 rcases h.2 with ⟨h1,h2⟩|⟨g,cap,cur,hv,hg,hh,hc,_,hcs,ht⟩
 ·exact .inl h2
 ·injection hv with e1 e2 e3
  subst e3
  exact .inr ⟨g,cur,e1,Nat.le_trans hm hg,hh,hc,hcs⟩
theorem Rm.turn {α β:Type} {κ:Kd α} {κ':Kd β} {n q c:Nat} {A:Option Addr} {u u':World} {g:Nat} {cur cur':Array Value} (h:Rm κ n A q c u) (hg:u.heap[g]? = some (.cells cur κ'.T)) (ha:Agr (λk=>k=g) u u') (hg':u'.heap[g]? = some (.cells cur' κ'.T)) (hs:cur'.size=cur.size):Rm κ n A q c u':=by
 rcases h with h|⟨g1,c1,e,hn,hh,hq,hz⟩
 ·exact .inl h
 ·by_cases hgg:g1=g
  ·subst hgg
   rw [hg] at hh
   injection hh with hh
   injection hh with e1 e2 _
   subst e1
   exact .inr ⟨g1,cur',e,hn,by rw [hg',e2],hq,by rw [hs,hz]⟩
  ·exact .inr ⟨g1,c1,e,hn,by rw [ha.block g1 (Array.getElem?_eq_some_iff.1 hh).1 hgg];exact hh,hq,hz⟩
theorem V.RH.fix {P:Program} {f:Fr} {n:Nat} {S:Stops} {R:Ending->World->Prop} {tb:TT} {B0:Nat} {I:World->Prop} {H:Heap} {nx m:Nat} {env:SEnv} {todo:List Item}
  (h:∀ v,v.heap.size=m->St tb B0 H I v->RH P f n tb B0 S R todo env H nx m (Agr (own H) v)):RH P f n tb B0 S R todo env H nx m I :=
 λw hm hst=>h w hm hst w hm ⟨hst.base,hst.holds,hst.apart,λ_ hu=>hu⟩
theorem V.OpGo.clearRm {α:Type} {κ:Kd α} {tb:TT} {P:Program} {B0 n:Nat} {env:SEnv} {H:Heap} {m:Nat} {I:World->Prop} {A:Option Addr} {q c n0:Nat} {ty:TypeId} {ps:String} {af:Array Edge} {gd:Option (Nat × Bool)}
  {x:Operand} {T:TypeId} {inf:TypeInfo} {z:Value} {ex:EV} (hk:tb.Ok P) (hx:evE env x=some ex) (hxv:ex.v = .slice A q c)
  (hT:tb.und T=some (.slice κ.T)) (hi:tb.get κ.T=some inf) (hz:inf.zero=some z) (h1:∀ u ∈ z.cells.toList,u.oneCell'=true) (hs:z.cells.size=κ.sz) (h0:0 < κ.sz)
  (hR:∀ u,I u->Rm κ n0 A q c u)
  (hI:∀ u u' g cur cur',I u->n0 ≤ g->u.heap[g]? = some (.cells cur κ.T)->Agr (λk=>k=g) u u'->u'.heap[g]? = some (.cells cur' κ.T)->cur'.size=cur.size->I u') :
  OpGo P tb B0 n ⟨none,.call ⟨.builtin .clear,#[x],#[T]⟩,ty,ps,af,gd⟩ env H m I (λ_:Unit=>env) (λ_=>H) (λ_=>I):=by
 intro w a hm hst ha
 have hu:=run_underlying (hk.und hT) w
 have hxv:a.eval x = .slice A q c:=(ev_run ha hx).trans hxv
 have hzv:(zeroValue κ.T).run P w = .ok z w:=by
  have:=hk.get hi
  simp [zeroValue,typeInfo,program,Sem.run,this,hz]
 rcases hR w hst.fact with rfl|⟨g,cur,rfl,hn0,hh,hq,hsz⟩
 ·have hrun:(Builtin.clear_ #[T] ty #[.slice A 0 c]).run P w = .ok (.tuple #[]) w:=by
   simp only [Builtin.clear_,Sem.run_bind,List.getElem?_toArray,List.getElem?_cons_zero,hu,Result.andThen_ok]
   cases A<;>rfl
  unfold Oper.wp
  have:(execOp a.eval ⟨none,.call ⟨.builtin .clear,#[x],#[T]⟩,ty,ps,af,gd⟩).run P w = .ok (.value (.tuple #[])) w:=by
   simp only [execOp,resolve,invoke,builtin,Sem.run_bind,Sem.run_pure,Result.andThen_ok,List.map_toArray,List.map_cons,List.map_nil,hxv,hrun]
  rw [this]
  exact ⟨(),ha,by omega,hst⟩
 ·cases q with
  | zero =>
   have hrun:(Builtin.clear_ #[T] ty #[.slice (some ⟨g,0,none⟩) 0 c]).run P w = .ok (.tuple #[]) w:=by
    simp only [Builtin.clear_,Sem.run_bind,List.getElem?_toArray,List.getElem?_cons_zero,hu,Result.andThen_ok]
    rfl
   unfold Oper.wp
   have:(execOp a.eval ⟨none,.call ⟨.builtin .clear,#[x],#[T]⟩,ty,ps,af,gd⟩).run P w = .ok (.value (.tuple #[])) w:=by
    simp only [execOp,resolve,invoke,builtin,Sem.run_bind,Sem.run_pure,Result.andThen_ok,List.map_toArray,List.map_cons,List.map_nil,hxv,hrun]
   rw [this]
   exact ⟨(),ha,by omega,hst⟩
  | succ q =>
   have hglt:g < w.heap.size:=(Array.getElem?_eq_some_iff.1 hh).1
   have hpos:0 < c*κ.sz:=Nat.mul_pos (by omega) h0
   have hno:¬ own H g:=λho=>by
    have hA:Agr (own H) w { w with heap:=w.heap.set! g (.cells #[] κ.T) }:=⟨rfl,rfl,rfl,by simp,λk _ hk=>by
     have:g ≠ k:=λe=>hk (e ▸ ho)
     simp [Array.getElem?_setIfInBounds,this]⟩
    rcases hR _ (hst.keeps _ hA) with h|⟨g2,c2,e,_,hh2,_,hs2⟩
    ·cases h
    ·injection e with e
     injection e with e _ _
     subst e
     simp [Array.getElem?_setIfInBounds,hglt] at hh2
     subst hh2
     simp at hs2
     omega
   have hzl:(Builtin.zeroCells z.cells (q+1)).toList.length=(q+1)*κ.sz:=by simp [Builtin.zeroCells,hs]
   have hfit:0+(Builtin.zeroCells z.cells (q+1)).toList.length ≤ cur.size:=by
    have:(q+1)*κ.sz ≤ c*κ.sz:=Nat.mul_le_mul_right _ hq
    rw [hzl,hsz];omega
   have hstc:=run_storeCells_at P g 0 κ.T (Builtin.zeroCells z.cells (q+1)).toList 0 cur w hh (by simpa using hfit) (zeroCells_one _ (by omega) h1 _)
   simp only [Nat.add_zero] at hstc
   have hrun:(Builtin.clear_ #[T] ty #[.slice (some ⟨g,0,none⟩) (q+1) c]).run P w = .ok (.tuple #[]) (w.setRow g (putC cur 0 (Builtin.zeroCells z.cells (q+1)).toList)):=by
    simp only [Builtin.clear_,Sem.run_bind,List.getElem?_toArray,List.getElem?_cons_zero,hu,Result.andThen_ok,Sem.run_pure,hzv]
    simp [hstc,putC]
   unfold Oper.wp
   have:(execOp a.eval ⟨none,.call ⟨.builtin .clear,#[x],#[T]⟩,ty,ps,af,gd⟩).run P w = .ok (.value (.tuple #[])) (w.setRow g (putC cur 0 (Builtin.zeroCells z.cells (q+1)).toList)):=by
    simp only [execOp,resolve,invoke,builtin,Sem.run_bind,Sem.run_pure,Result.andThen_ok,List.map_toArray,List.map_cons,List.map_nil,hxv,hrun]
   rw [this]
   have hsame:∀ k,k ≠ g->(w.setRow g (putC cur 0 (Builtin.zeroCells z.cells (q+1)).toList)).heap[k]? = w.heap[k]?:=λk hk=>setRow_other w g k _ hk
   have hnew:(w.setRow g (putC cur 0 (Builtin.zeroCells z.cells (q+1)).toList)).heap[g]? = some (.cells (putC cur 0 (Builtin.zeroCells z.cells (q+1)).toList) κ.T):=setRow_heap w g cur _ κ.T _ hh
   have hsize:(w.setRow g (putC cur 0 (Builtin.zeroCells z.cells (q+1)).toList)).heap.size=w.heap.size:=by simp [World.setRow]
   refine ⟨(),ha,by rw [← hm];exact Nat.le_of_eq hsize.symm,⟨by rw [hsize];exact hst.base,λi y hy=>HE.kept (hst.holds i y hy) λk hk=>hsame k (λe=>hno (e ▸ ⟨i,y,hy,hk⟩)),hst.apart,λu hu=>?_⟩⟩
   have hul:g < u.heap.size:=Nat.lt_of_lt_of_le (by rw [hsize];exact hglt) hu.size
   have hug:u.heap[g]? = some (.cells (putC cur 0 (Builtin.zeroCells z.cells (q+1)).toList) κ.T):=by
    rw [hu.block g (by rw [hsize];exact hglt) hno];exact hnew
   have hA:Agr (own H) w { u with heap:=u.heap.set! g (.cells cur κ.T) }:=by
    refine ⟨hu.os,hu.tape,hu.output,?_,λk hk hko=>?_⟩
    ·have:=hu.size;rw [hsize] at this;simpa using this
    ·by_cases e:k=g
     ·subst e;simp [Array.getElem?_setIfInBounds,hul];exact hh.symm
     ·have e2:g ≠ k:=λh=>e h.symm
      simp [Array.getElem?_setIfInBounds,e2]
      rw [hu.block k (by rw [hsize];exact hk) hko,hsame k e]
   refine hI _ u g cur _ (hst.keeps _ hA) hn0 (by simp [Array.getElem?_setIfInBounds,hul]) ⟨rfl,rfl,rfl,by simp,λk _ hk=>?_⟩ hug (by have h9:=hfit;simp at h9;simp [putC];omega)
   have e2:g ≠ k:=λh=>hk h.symm
   simp [Array.getElem?_setIfInBounds,e2]
theorem Way_long2 (w:World) (po:Option Plot) (name:Str) (hn:60 < name.length):Gives Tryz.prog 52 [(mapE po).v,strV name] w (.av (.val (.tuple #[.slice none 0 0,intV 11]))):=by
 refine enterH tk [(0,mapE po),(1,strE name)] Tryz.func52 rfl Tryz.ntmps52 rfl rfl ?_
 refine RH.a [true] ?_
 refine RH.ret2 Tryz.func52 rfl rfl rfl λw' hst=>⟨rfl,hst.fact⟩
theorem rWay_long2 (w:World) (y:At2) (N:List Str) (X:List Sum) (name:Str) (hn:60 < name.length):Gives Tryz.prog 51 [(rmE y N X).v,strV name] w (.av (.val (.tuple #[.slice none 0 0,intV 11]))):=by
 refine enterH tk [(0,rmE y N X),(1,strE name)] Tryz.func51 rfl Tryz.ntmps51 rfl rfl ?_
 refine RH.a [true] ?_
 refine RH.ret2 Tryz.func51 rfl rfl rfl λu hu=>⟨rfl,hu.fact⟩
instance Late.fromM {pre:World->Prop} {Q:Nat->World->Prop}:From (λm=>Late pre (Q m) m):=⟨λ_ _ _ _ h hj v hv hp=>hj v (h.trans hv) hp⟩
def Stp.okR (n:Nat) (s:Stp) (u:World):Prop:=s.ok u/\Rm kBy n s.A s.bytes.length s.c u/\Rm kSum n s.B s.nodes.length s.d u
abbrev wayQ2 (l:List Tree) (n:Nat) (y:(Option Addr × Nat) × List Stp) (u:World):Prop:=y.2.map Stp.dat=l.map Tree.dat/\∀ s ∈ y.2,s.okR n u
theorem WayR_some (L:Plot) (t:Tree) (ht:okO (some t)) (name:Str) (hn:name.length ≤ 60) (xs:List (Plot × Tree × Str)) (hxs0:xs=t.way L name) :
  Does Tryz.prog tb 52 [(mapE (some L)).v,strV name] [] (λu=>IT u L t) (λy:(Option Addr × Nat) × List Stp=>.tuple #[.slice y.1.1 y.2.length y.1.2,intV 0]) (λy=>[(0,rowE kStp y.1.1 y.1.2 y.2)]) (λy m=>Late (λ_=>True) (wayQ2 (t.wayT name) m y) m):=by
 have hlim:lim=140737488351232:=rfl
 have hw:=ht.1
 refine V.Does.enter0 [(0,mapE (some L)),(1,strE name)] Tryz.func52 rfl Tryz.ntmps52 rfl rfl 0 ?_
 intro m0 K
 refine RH.pure (λu h=>(by rw [hxs0];exact way_T h.2:xs.map (λz=>z.2.1)=t.wayT name)) λhT=>?_
 have hxl:xs.length ≤ 61:=by
  have h1:=congrArg List.length hT
  rw [List.length_map] at h1
  have h2:=wayT_len t name
  omega
 rw [← hT]
 have hfx:∀ u,IT u L t->∀ z ∈ xs,IT u z.1 z.2.1/\z.2.1.wf:=λu he z hz=>by
  rw [hxs0] at hz
  exact way_facts _ hw he (Nat.le_refl _) z hz
 refine RH.a [false] ?_
 refine RH.dd [] 5 (λb:Nat × Nat=>.av (.val (.func (.func 197) #[] #[ptrV b.1,ptrV b.2]))) rfl rfl rfl Tryz.call123 (way_spec (some L) name) (λ_ _=>trivial) ?_
 rintro ⟨bn,br⟩ m1 hm1
 refine RH.drop ?_
 refine RH.a [] ?_
 dsimp only
 refine RH.tell [(6,.av (.box 1 (m0+1) 0)),(14,.av (.val (.func (.func 197) #[] #[ptrV bn,ptrV br])))] [(1,some (.box (m0+1) [.val (.slice none 0 0)] 58)),(2,some (.box bn [.val (ptrV L.b)] 29)),(3,some (.box br [.val (strV name)] 9))] [] rfl rfl rfl 12 ?_
 refine V.RH.reBox (id:=1) [.row 50 (.slice none 0 0)] rfl rfl ⟨_,rfl,rfl,Tryz.t58,rfl,rfl⟩ ?_
 refine RH.nilrow 50 kStp.T kStp.sz 12 ?_
 refine RH.defs0 ?_
 refine V.RH.rangeFuncW (β:=Plot × Tree × Str) (α:=(Option Addr × Nat) × List Stp) (σ:=Unit) (xs:=xs) (Gi:=wayG bn br L name) (G':=lastG bn br L name xs) (pre:=λu=>IT u L t) (nx:=12) (enc:=λz=>[ptrAt z.1.b,strE z.2.2]) rfl rfl (λxs w=>Tryz.call197 xs w) (way1_spec bn br L t name hw (by omega) xs hxs0) (λ_=>rfl) rfl [(0,2),(1,3)] (λ_ _ _=>rfl) rfl
  [(6,.av (.box 1 (m0+1) 0))] rfl (λu=>K u/\IT u L t) (λj y u=>y.2.map Stp.dat=(xs.take j).map (λz=>z.2.1.dat)/\Late (λ_=>True) (λv=>∀ s ∈ y.2,s.okR m0 v) m0 u) ((none,0),[]) (λw h=>h.mono λu _ hu=>⟨hu,rfl,λv _ _ s hs=>by cases hs⟩) (λu h=>h.2)
  (λj y=>[(1,some (.box (m0+1) [.row 50 (.slice y.1.1 y.2.length y.1.2)] 58)),(50,rowE kStp y.1.1 y.1.2 y.2)]) (λ_ _ _=>rfl)
  (λj _=>[]) (λj _=>False) .ret ?_ 60 ?_ ?_
 ·rintro j hj ⟨⟨A,c⟩,l⟩ lb D tt Kg m5 hm5 hKg
  dsimp only at hKg ⊢
  have hfz:∀ u,Kg u->IT u xs[j].1 xs[j].2.1/\xs[j].2.1.wf:=λu h=>hfx u (hKg u h).1.2 _ (List.getElem_mem hj)
  have hts:(xs.take (j+1)).map (λz=>z.2.1.dat)=(xs.take j).map (λz=>z.2.1.dat) ++ [xs[j].2.1.dat]:=by rw [List.take_succ_eq_append_getElem hj,List.map_append];rfl
  refine RH.pure (λu hu=>(⟨(hfz u hu).2,(hKg u hu).2.1⟩:xs[j].2.1.wf/\l.map Stp.dat=(xs.take j).map (λz=>z.2.1.dat))) ?_
  rintro ⟨hwj,hlj⟩
  refine RH.a [] ?_
  refine RH.beginRound (id:=12) rfl rfl ?_
  refine RH.a [] ?_
  generalize xs[j]=z at *
  obtain ⟨Lz,tz,rz⟩:=z
  cases tz with
  | node s v k =>
  dsimp only at hfz hts ⊢
  have hkw:k.wf:=by unfold Tree.wf at hwj;exact hwj.1
  have hlen:=kbL hkw
  refine RH.w [(1,some (.box (m0+1) [.row 50 (.slice A l.length c)] 58))] 6 ?_
  refine RD.a [] ?_
  refine RD.dd 2 [] 20 (λy:(Option Addr × Nat) × (Option Addr × Nat)=>stepE s v y.1.1 k.bytes.length y.1.2 y.2.1 k.owns.length y.2.2) rfl rfl rfl Tryz.call124 (step_spec Lz.b s v k Lz.A Lz.c Lz.B Lz.d Lz.ps _ _ hlen).fresh (λu hu=>YtbfjmimiigjenaaGreatDoor.IT.part (hfz u hu.fact).1) ?_
  rintro ⟨⟨A1,c1⟩,⟨B1,d1⟩⟩ m6 hm6
  refine RD.a [] ?_
  have hll:l.length ≤ 61:=by
   have h1:=congrArg List.length hlj
   rw [List.length_map,List.length_map,List.length_take] at h1
   omega
  refine RD.s 20 3 ?_
  refine RD.a [] ?_
  refine RD.apK (nx:=30) (i:=4) (κ:=kStp) (id:=50) (r:=[⟨s,v.isSome,v.getD Sum.zero,A1,k.bytes,c1,B1,k.owns,d1⟩]) (l:=l) rfl (by kernel_rfl) rfl rfl rfl rfl rfl elt_stp rfl rfl (λw hst=>hst.liR (id:=20) (κ:=kStp) (l:=[⟨s,v.isSome,v.getD Sum.zero,A1,k.bytes,c1,B1,k.owns,d1⟩]) rfl (by simp [hlim])) (by simp;omega) (by simp [hlim];omega) (λ_ _=>rfl) (λ_ h=>h.1) ?_
  intro A2 c2 m7 hm7
  refine RD.a [] ?_
  refine RD.z 5 ?_
  intro m8 hm8
  refine RH.a [] ?_
  refine RH.leave .fin λu hst=>⟨((A2,c2),l ++ [Stp.mk s v.isSome (v.getD Sum.zero) A1 k.bytes c1 B1 k.owns d1]),Fresh [(0,rowE kBy A1 c1 k.bytes),(1,rowE kSum B1 d1 k.owns)] m5,Fresh.stb (Nat.le_refl _),λw' hp hN=>⟨?_,?_⟩,hst.out [] rfl rfl λu h=>h⟩
  ·dsimp only
   rw [List.map_append,hp.1,hts];rfl
  ·dsimp only
   intro w2 hw2 _ st hst2
   rcases List.mem_append.1 hst2 with h|h
   ·exact hp.2 w2 hw2 trivial st h
   ·rw [List.mem_singleton] at h
    subst h
    have hN2:=hN w2 (hw2.mono λk _ hk=>by omega)
    exact ⟨⟨Sl.own (hN2 0 _ rfl) (by show k.bytes.length ≤ lim;omega),Sl.own (hN2 1 _ rfl) (by show k.owns.length ≤ lim;rw [owns_len];omega)⟩,Rm.of (κ:=kBy) (l:=k.bytes) (hN2 0 _ rfl) (by omega),Rm.of (κ:=kSum) (l:=k.owns) (hN2 1 _ rfl) (by omega)⟩
 ·rintro ⟨⟨A,c⟩,l⟩ D m5
  dsimp only
  refine RH.a [] ?_
  refine RH.retD2 Tryz.func52 rfl rfl rfl λu hst=>⟨((A,c),l),rfl,hst.out [(0,50)] rfl rfl λu h=>?_⟩
  refine ⟨h.1.1,λv hv _=>⟨?_,h.2.2 v hv trivial⟩⟩
  rw [h.2.1,List.take_length,List.map_map];rfl
 ·rintro i hi ⟨⟩ D m2 hF
  exact hF.elim
theorem WayR_none (name:Str) (hn:name.length ≤ 60) (xs:List (Plot × Tree × Str)) (hxs0:xs=[]) :
  Does Tryz.prog tb 52 [(mapE none).v,strV name] [] (λ_=>True) (λy:(Option Addr × Nat) × List Stp=>.tuple #[.slice y.1.1 y.2.length y.1.2,intV 0]) (λy=>[(0,rowE kStp y.1.1 y.1.2 y.2)]) (λy m=>Late (λ_=>True) (wayQ2 [] m y) m):=by
 refine V.Does.enter0 [(0,mapE none),(1,strE name)] Tryz.func52 rfl Tryz.ntmps52 rfl rfl 0 ?_
 intro m0 K
 refine RH.a [false] ?_
 refine RH.dd [] 5 (λb:Nat × Nat=>.av (.val (.func (.func 197) #[] #[ptrV b.1,ptrV b.2]))) rfl rfl rfl Tryz.call123 (way_spec none name) (λ_ _=>trivial) ?_
 rintro ⟨bn,br⟩ m1 hm1
 refine RH.drop ?_
 refine RH.a [] ?_
 dsimp only
 refine RH.tell [(6,.av (.box 1 (m0+1) 0)),(14,.av (.val (.func (.func 197) #[] #[ptrV bn,ptrV br])))] [(1,some (.box (m0+1) [.val (.slice none 0 0)] 58)),(2,some (.box bn [.val (.pointer none)] 29)),(3,some (.box br [.val (strV name)] 9))] [] rfl rfl rfl 12 ?_
 refine RH.nilrow 50 kStp.T kStp.sz 12 ?_
 refine RH.defs0 ?_
 refine RH.rangeFunc (β:=Plot × Tree × Str) (α:=Unit) (σ:=Unit) (xs:=xs) (Gi:=nilG bn br name) (G':=nilG bn br name) (pre:=λ_=>True) (nx:=12) (enc:=λz=>[ptrAt z.1.b,strE z.2.2]) rfl rfl (λxs w=>Tryz.call197 xs w) (way1_nil bn br name xs hxs0) (λ_=>rfl) rfl [(0,2),(1,3)] (λ_ _ _=>rfl) rfl
  [(6,.av (.box 1 (m0+1) 0))] rfl (λu=>K u/\True) (λu h=>h) (λu h=>trivial)
  (λj (_:Unit)=>[(1,some (.box (m0+1) [.val (.slice none 0 0)] 58)),(50,rowE kStp none 0 [])])
  (λj _=>True) () trivial (λ_ _ _=>rfl)
  (λj _=>[]) (λj _=>False) .ret ?_ 60 ?_ ?_
 ·rintro j hj ⟨⟩ hp l D tt Kg m5 hKg
  rw [hxs0] at hj;cases hj
 ·rintro ⟨⟩ D m2 hp
  refine RH.a [] ?_
  refine RH.retD2 Tryz.func52 rfl rfl rfl λu hst=>⟨((none,0),[]),rfl,hst.out [(0,50)] rfl rfl λu h=>⟨h.1,λv hv _=>⟨rfl,λs hs=>by cases hs⟩⟩⟩
 ·rintro i hi ⟨⟩ D m2 hF
  exact hF.elim
theorem WayR_ok (po:Option Plot) (t:Option Tree) (ht:okO t) (name:Str) (hn:name.length ≤ 60) :
  Does Tryz.prog tb 52 [(mapE po).v,strV name] [] (λu=>IsO u po t) (λy:(Option Addr × Nat) × List Stp=>.tuple #[.slice y.1.1 y.2.length y.1.2,intV 0]) (λy=>[(0,rowE kStp y.1.1 y.1.2 y.2)]) (λy m=>Late (λ_=>True) (wayQ2 (wayO t name) m y) m):=by
 cases po with
 | none =>
  cases t with
  | none =>
   intro B0 w K hst hp
   exact WayR_none name hn [] rfl B0 w K hst λ_ _=>trivial
  | some t =>
   intro B0 w K hst hp
   exact ((hp w hst.fact)).elim
 | some L =>
  cases t with
  | none =>
   intro B0 w K hst hp
   exact ((hp w hst.fact)).elim
  | some t=>exact WayR_some L t ht name hn _ rfl
end Go.Proofs.YtbfjmimiigjenaaGreatDoor
