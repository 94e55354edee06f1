/-
Lemmas. No condition.
-/
import Derived.Test.YtbfjmimiigjenaaGreatDoorShelfS
import Derived.Sort.OwnSorted
import Derived.Test.YtbfjmimiigjenaaGreatDoorKQ24
import Derived.Test.YtbfjmimiigjenaaGreatDoorKVIterW
import Derived.Test.YtbfjmimiigjenaaGreatDoorKVZ2
set_option maxRecDepth 10000
set_option linter.unusedVariables false
set_option linter.unusedSectionVars false
set_option linter.unusedSimpArgs false
namespace Go.Proofs.YtbfjmimiigjenaaGreatDoor
open Go V RowKit
structure Stp where
 stem:Str
 has:Bool
 sum:Sum
 A:Option Addr
 bytes:List UInt8
 c:Nat
 B:Option Addr
 nodes:List Sum
 d:Nat
abbrev stpF (s:Stp):List AV:=[.val (strV s.stem),.val (.bool s.has),.val (sumV s.sum),.val (.slice s.A s.bytes.length s.c),.val (.slice s.B s.nodes.length s.d)]
theorem stp_cells (s:Stp):(EV.st (stpF s)).v = .agg ([strV s.stem,Value.bool s.has] ++ (s.sum.l.map u8V ++ [Value.slice s.A s.bytes.length s.c,Value.slice s.B s.nodes.length s.d])).toArray:=by
 simp [EV.v,AV.v,flat,Value.cells,sumV,strV]
theorem vok_stp (s:Stp):VOk tb 61 (EV.st (stpF s)).v:=by
 rw [stp_cells]
 refine ⟨_,Tryz.t61,rfl,rfl,by simp [s.sum.h];rfl,?_⟩
 intro u hu
 simp only [List.mem_append,List.mem_cons,List.not_mem_nil,or_false,List.mem_map] at hu
 rcases hu with (rfl|rfl)|⟨b,_,rfl⟩|(rfl|rfl)<;>rfl
def kStp:Kd Stp where
 T:=61
 sz:=36
 ev s:=.st (stpF s)
 ok s:=vok_stp s
 size s:=by rw [stp_cells];simp [Value.cells,s.sum.h]
theorem elt_stp:ElT tb kStp.T 36 104:=⟨⟨Tryz.t61,(Tryz.t61).zero.getD undef,by kernel_rfl,by kernel_rfl,by kernel_rfl,by kernel_rfl,by kernel_rfl⟩,by decide⟩
abbrev StD:Type:=Str × Bool × Sum × List UInt8 × List Sum
def Stp.dat (s:Stp):StD:=(s.stem,s.has,s.sum,s.bytes,s.nodes)
def Tree.dat:Tree->StD|.node s v k=>(s,v.isSome,v.getD Sum.zero,k.bytes,k.owns)
def Stp.ok (s:Stp) (u:World):Prop:=Sl kBy u s.A s.c s.bytes/\Sl kSum u s.B s.d s.nodes
def Fresh (G:Heap) (m:Nat) (u:World):Prop:=∀ v,Agr (λk=>k < m) u v->∀ id e,loH G id=some e->e.holds tb m v
instance Fresh.from {G:Heap}:From (Fresh G):=⟨λ_ _ _ _ h hj v hv=>hj v (h.trans hv)⟩
theorem Fresh.at {G:Heap} {m:Nat} {u:World} (h:Fresh G m u) {id:Nat} {e:HE} (hG:loH G id=some e):e.holds tb m u:=h u (Agr.refl _ _) id e hG
theorem Fresh.stb {G:Heap} {m m':Nat} (h:m ≤ m'):V.Stb m (Fresh G m'):=λ_ _ ha hf w hw=>hf w ((ha.mono λ_ _ hk=>Nat.lt_of_lt_of_le hk h).trans hw)
theorem V.Does.fresh {g:FuncId} {args:List Value} {pre:World->Prop} {α:Type} {W:α->Value} {G':α->Heap} {J:α->Nat->World->Prop} (h:Does Tryz.prog tb g args [] pre W G' J) :
  Does Tryz.prog tb g args [] pre W (λ_=>[]) (λx=>Fresh (G' x)):=by
 intro B0 w K hst hp
 have hst2:St tb w.heap.size [] K w:=⟨Nat.le_refl _,(λid x hx=>nomatch hx),(λi j x y _ hx=>nomatch hx),λu hu=>hst.keeps u hu⟩
 refine (h w.heap.size w K hst2 hp).mono ?_
 rintro r w' ⟨x,hr,hx⟩
 refine ⟨x,hr,Nat.le_trans hst.base hx.base,(λid x hx=>nomatch hx),(λi j x y _ hx=>nomatch hx),λu hu=>?_⟩
 refine ⟨(hx.keeps u (hu.mono λk _ hk=>(by obtain ⟨_,_,hk,_⟩:=hk;cases hk))).1,λv hv id e he=>?_⟩
 have h1:=hx.holds id e he
 have h2:e.holds tb w.heap.size u:=HE.kept h1 λk hk=>hu.block k (HE.lt h1 hk).2 (by rintro ⟨_,_,hk,_⟩;cases hk)
 exact hoL h2 hv
mutual
def Tree.wayT:Tree->Str->List Tree
 | .node s v k,name=>.node s v k :: (match cutP s name with
  | some (c :: r)=>k.wayT c r
  | _=>[])
def Kids.wayT:Kids->UInt8->Str->List Tree
 | .nil,_,_=>[]
 | .cons b t r,c,n=>if b=c then t.wayT n else r.wayT c n
end
def wayO (t:Option Tree) (name:Str):List Tree:=match t with
 | none=>[]
 | some t=>t.wayT name
mutual
theorem way_T {u:World}:∀ {t:Tree} {L:Plot} {name:Str},IT u L t->(t.way L name).map (λz=>z.2.1)=t.wayT name
 | .node s v k,L,name,h=>by
  have hp:=YtbfjmimiigjenaaGreatDoor.IT.part h
  unfold Tree.way Tree.wayT
  rw [List.map_cons]
  congr 1
  cases cutP s name with
  | none=>rfl
  | some r =>
   cases r with
   | nil=>rfl
   | cons c r=>exact kway_T hp.kids
theorem kway_T {u:World}:∀ {k:Kids} {ps:List Plot} {c:UInt8} {n:Str},IK u ps k->(k.way ps c n).map (λz=>z.2.1)=k.wayT c n
 | .nil,[],_,_,_=>rfl
 | .nil,_ :: _,_,_,h=>h.elim
 | .cons _ t r,[],_,_,h=>h.elim
 | .cons b t r,p :: ps,c,n,h=>by
  unfold IK at h
  unfold Kids.way Kids.wayT
  by_cases e:b=c
  ·rw [if_pos e,if_pos e];exact way_T h.1
  ·rw [if_neg e,if_neg e];exact kway_T h.2
end
mutual
theorem wayT_len:∀ (t:Tree) (name:Str),(t.wayT name).length ≤ name.length+1
 | .node s v k,name=>by
  unfold Tree.wayT
  rw [List.length_cons]
  cases h:cutP s name with
  | none=>simp
  | some r =>
   cases r with
   | nil=>simp
   | cons c r =>
    have:=kwayT_len k c r
    have e:=(cutP_iff s name (c :: r)).1 h
    rw [e,List.length_append,List.length_cons]
    show (k.wayT c r).length+1 ≤ _
    omega
theorem kwayT_len:∀ (k:Kids) (c:UInt8) (n:Str),(k.wayT c n).length ≤ n.length+1
 | .nil,_,_=>by simp [Kids.wayT]
 | .cons b t r,c,n=>by
  unfold Kids.wayT
  split
  ·exact wayT_len t n
  ·exact kwayT_len r c n
end
theorem V.RH.reBox {P:Program} {f:Fr} {n:Nat} {S:Stops} {R:Ending->World->Prop} {tb:TT} {B0:Nat} {I:World->Prop} {H:Heap} {nx m:Nat} {env:SEnv} {todo:List Item} {id b:Nat} {T:TypeId} {fs0:List AV} (fs:List AV) (hH:loH H id=some (.box b fs0 T)) (hc:boxCells fs0=boxCells fs) (hF:Fit tb T fs)
  (h:RH P f n tb B0 S R todo env ((id,some (.box b fs T)) :: H) nx m I):RH P f n tb B0 S R todo env H nx m I :=
 RH.boxObj (boxCells fs0) hH rfl (RH.objBox fs (by rw [lookH_cons,if_pos rfl]) hc hF (λw hm hst=>h w hm (hst.congr λk x hx=>by
  rw [lookH_cons] at hx ⊢
  split at hx
  ·rename_i e;rw [if_pos e];exact hx
  ·rename_i e;rw [if_neg e,lookH_cons,if_neg e];exact hx)))
abbrev wayQ (l:List Tree) (y:(Option Addr × Nat) × List Stp) (u:World):Prop:=y.2.map Stp.dat=l.map Tree.dat/\∀ s ∈ y.2,s.ok u
theorem Way_some (L:Plot) (t:Tree) (ht:okO (some t)) (name:Str) (hn:name.length ≤ 60) (xs:List (Plot × Tree × Str)) (hxs0:xs=t.way L name) :
  Does Tryz.prog tb 52 [(mapE (some L)).v,strV name] [] (λu=>IT u L t) (λy:(Option Addr × Nat) × List Stp=>.tuple #[.slice y.1.1 y.2.length y.1.2,intV 0]) (λy=>[(0,rowE kStp y.1.1 y.1.2 y.2)]) (λy=>Late (λ_=>True) (wayQ (t.wayT name) y)):=by
 have hlim:lim=140737488351232:=rfl
 have hw:=ht.1
 refine V.Does.enter0 [(0,mapE (some L)),(1,strE name)] Tryz.func52 rfl Tryz.ntmps52 rfl rfl 0 ?_
 intro m0 K
 refine RH.pure (λu h=>(by rw [hxs0];exact way_T h.2:xs.map (λz=>z.2.1)=t.wayT name)) λhT=>?_
 have hxl:xs.length ≤ 61:=by
  have h1:=congrArg List.length hT
  rw [List.length_map] at h1
  have h2:=wayT_len t name
  omega
 rw [← hT]
 have hfx:∀ u,IT u L t->∀ z ∈ xs,IT u z.1 z.2.1/\z.2.1.wf:=λu he z hz=>by
  rw [hxs0] at hz
  exact way_facts _ hw he (Nat.le_refl _) z hz
 refine RH.a [false] ?_
 refine RH.dd [] 5 (λb:Nat × Nat=>.av (.val (.func (.func 197) #[] #[ptrV b.1,ptrV b.2]))) rfl rfl rfl Tryz.call123 (way_spec (some L) name) (λ_ _=>trivial) ?_
 rintro ⟨bn,br⟩ m1 hm1
 refine RH.drop ?_
 refine RH.a [] ?_
 dsimp only
 refine RH.tell [(6,.av (.box 1 (m0+1) 0)),(14,.av (.val (.func (.func 197) #[] #[ptrV bn,ptrV br])))] [(1,some (.box (m0+1) [.val (.slice none 0 0)] 58)),(2,some (.box bn [.val (ptrV L.b)] 29)),(3,some (.box br [.val (strV name)] 9))] [] rfl rfl rfl 12 ?_
 refine V.RH.reBox (id:=1) [.row 50 (.slice none 0 0)] rfl rfl ⟨_,rfl,rfl,Tryz.t58,rfl,rfl⟩ ?_
 refine RH.nilrow 50 kStp.T kStp.sz 12 ?_
 refine RH.defs0 ?_
 refine V.RH.rangeFuncW (β:=Plot × Tree × Str) (α:=(Option Addr × Nat) × List Stp) (σ:=Unit) (xs:=xs) (Gi:=wayG bn br L name) (G':=lastG bn br L name xs) (pre:=λu=>IT u L t) (nx:=12) (enc:=λz=>[ptrAt z.1.b,strE z.2.2]) rfl rfl (λxs w=>Tryz.call197 xs w) (way1_spec bn br L t name hw (by omega) xs hxs0) (λ_=>rfl) rfl [(0,2),(1,3)] (λ_ _ _=>rfl) rfl
  [(6,.av (.box 1 (m0+1) 0))] rfl (λu=>K u/\IT u L t) (λj y u=>y.2.map Stp.dat=(xs.take j).map (λz=>z.2.1.dat)/\Late (λ_=>True) (λv=>∀ s ∈ y.2,s.ok v) m0 u) ((none,0),[]) (λw h=>h.mono λu _ hu=>⟨hu,rfl,λv _ _ s hs=>by cases hs⟩) (λu h=>h.2)
  (λj y=>[(1,some (.box (m0+1) [.row 50 (.slice y.1.1 y.2.length y.1.2)] 58)),(50,rowE kStp y.1.1 y.1.2 y.2)]) (λ_ _ _=>rfl)
  (λj _=>[]) (λj _=>False) .ret ?_ 60 ?_ ?_
 ·rintro j hj ⟨⟨A,c⟩,l⟩ lb D tt Kg m5 hm5 hKg
  dsimp only at hKg ⊢
  have hfz:∀ u,Kg u->IT u xs[j].1 xs[j].2.1/\xs[j].2.1.wf:=λu h=>hfx u (hKg u h).1.2 _ (List.getElem_mem hj)
  have hts:(xs.take (j+1)).map (λz=>z.2.1.dat)=(xs.take j).map (λz=>z.2.1.dat) ++ [xs[j].2.1.dat]:=by rw [List.take_succ_eq_append_getElem hj,List.map_append];rfl
  refine RH.pure (λu hu=>(⟨(hfz u hu).2,(hKg u hu).2.1⟩:xs[j].2.1.wf/\l.map Stp.dat=(xs.take j).map (λz=>z.2.1.dat))) ?_
  rintro ⟨hwj,hlj⟩
  refine RH.a [] ?_
  refine RH.beginRound (id:=12) rfl rfl ?_
  refine RH.a [] ?_
  generalize xs[j]=z at *
  obtain ⟨Lz,tz,rz⟩:=z
  cases tz with
  | node s v k =>
  dsimp only at hfz hts ⊢
  have hkw:k.wf:=by unfold Tree.wf at hwj;exact hwj.1
  have hlen:=kbL hkw
  refine RH.w [(1,some (.box (m0+1) [.row 50 (.slice A l.length c)] 58))] 6 ?_
  refine RD.a [] ?_
  refine RD.dd 2 [] 20 (λy:(Option Addr × Nat) × (Option Addr × Nat)=>stepE s v y.1.1 k.bytes.length y.1.2 y.2.1 k.owns.length y.2.2) rfl rfl rfl Tryz.call124 (step_spec Lz.b s v k Lz.A Lz.c Lz.B Lz.d Lz.ps _ _ hlen).fresh (λu hu=>YtbfjmimiigjenaaGreatDoor.IT.part (hfz u hu.fact).1) ?_
  rintro ⟨⟨A1,c1⟩,⟨B1,d1⟩⟩ m6 hm6
  refine RD.a [] ?_
  have hll:l.length ≤ 61:=by
   have h1:=congrArg List.length hlj
   rw [List.length_map,List.length_map,List.length_take] at h1
   omega
  refine RD.s 20 3 ?_
  refine RD.a [] ?_
  refine RD.apK (nx:=30) (i:=4) (κ:=kStp) (id:=50) (r:=[⟨s,v.isSome,v.getD Sum.zero,A1,k.bytes,c1,B1,k.owns,d1⟩]) (l:=l) rfl (by kernel_rfl) rfl rfl rfl rfl rfl elt_stp rfl rfl (λw hst=>hst.liR (id:=20) (κ:=kStp) (l:=[⟨s,v.isSome,v.getD Sum.zero,A1,k.bytes,c1,B1,k.owns,d1⟩]) rfl (by simp [hlim])) (by simp;omega) (by simp [hlim];omega) (λ_ _=>rfl) (λ_ h=>h.1) ?_
  intro A2 c2 m7 hm7
  refine RD.a [] ?_
  refine RD.z 5 ?_
  intro m8 hm8
  refine RH.a [] ?_
  refine RH.leave .fin λu hst=>⟨((A2,c2),l ++ [Stp.mk s v.isSome (v.getD Sum.zero) A1 k.bytes c1 B1 k.owns d1]),Fresh [(0,rowE kBy A1 c1 k.bytes),(1,rowE kSum B1 d1 k.owns)] m5,Fresh.stb (Nat.le_refl _),λw' hp hN=>⟨?_,?_⟩,hst.out [] rfl rfl λu h=>h⟩
  ·dsimp only
   rw [List.map_append,hp.1,hts];rfl
  ·dsimp only
   intro w2 hw2 _ st hst2
   rcases List.mem_append.1 hst2 with h|h
   ·exact hp.2 w2 hw2 trivial st h
   ·rw [List.mem_singleton] at h
    subst h
    have hN2:=hN w2 (hw2.mono λk _ hk=>by omega)
    exact ⟨Sl.own (hN2 0 _ rfl) (by show k.bytes.length ≤ lim;omega),Sl.own (hN2 1 _ rfl) (by show k.owns.length ≤ lim;rw [owns_len];omega)⟩
 ·rintro ⟨⟨A,c⟩,l⟩ D m5
  dsimp only
  refine RH.a [] ?_
  refine RH.retD2 Tryz.func52 rfl rfl rfl λu hst=>⟨((A,c),l),rfl,hst.out [(0,50)] rfl rfl λu h=>?_⟩
  refine ⟨h.1.1,λv hv _=>⟨?_,h.2.2 v hv trivial⟩⟩
  rw [h.2.1,List.take_length,List.map_map];rfl
 ·rintro i hi ⟨⟩ D m2 hF
  exact hF.elim
theorem Way_none (name:Str) (hn:name.length ≤ 60) (xs:List (Plot × Tree × Str)) (hxs0:xs=[]) :
  Does Tryz.prog tb 52 [(mapE none).v,strV name] [] (λ_=>True) (λy:(Option Addr × Nat) × List Stp=>.tuple #[.slice y.1.1 y.2.length y.1.2,intV 0]) (λy=>[(0,rowE kStp y.1.1 y.1.2 y.2)]) (λy=>Late (λ_=>True) (wayQ [] y)):=by
 refine V.Does.enter0 [(0,mapE none),(1,strE name)] Tryz.func52 rfl Tryz.ntmps52 rfl rfl 0 ?_
 intro m0 K
 refine RH.a [false] ?_
 refine RH.dd [] 5 (λb:Nat × Nat=>.av (.val (.func (.func 197) #[] #[ptrV b.1,ptrV b.2]))) rfl rfl rfl Tryz.call123 (way_spec none name) (λ_ _=>trivial) ?_
 rintro ⟨bn,br⟩ m1 hm1
 refine RH.drop ?_
 refine RH.a [] ?_
 dsimp only
 refine RH.tell [(6,.av (.box 1 (m0+1) 0)),(14,.av (.val (.func (.func 197) #[] #[ptrV bn,ptrV br])))] [(1,some (.box (m0+1) [.val (.slice none 0 0)] 58)),(2,some (.box bn [.val (.pointer none)] 29)),(3,some (.box br [.val (strV name)] 9))] [] rfl rfl rfl 12 ?_
 refine RH.nilrow 50 kStp.T kStp.sz 12 ?_
 refine RH.defs0 ?_
 refine RH.rangeFunc (β:=Plot × Tree × Str) (α:=Unit) (σ:=Unit) (xs:=xs) (Gi:=nilG bn br name) (G':=nilG bn br name) (pre:=λ_=>True) (nx:=12) (enc:=λz=>[ptrAt z.1.b,strE z.2.2]) rfl rfl (λxs w=>Tryz.call197 xs w) (way1_nil bn br name xs hxs0) (λ_=>rfl) rfl [(0,2),(1,3)] (λ_ _ _=>rfl) rfl
  [(6,.av (.box 1 (m0+1) 0))] rfl (λu=>K u/\True) (λu h=>h) (λu h=>trivial)
  (λj (_:Unit)=>[(1,some (.box (m0+1) [.val (.slice none 0 0)] 58)),(50,rowE kStp none 0 [])])
  (λj _=>True) () trivial (λ_ _ _=>rfl)
  (λj _=>[]) (λj _=>False) .ret ?_ 60 ?_ ?_
 ·rintro j hj ⟨⟩ hp l D tt Kg m5 hKg
  rw [hxs0] at hj;cases hj
 ·rintro ⟨⟩ D m2 hp
  refine RH.a [] ?_
  refine RH.retD2 Tryz.func52 rfl rfl rfl λu hst=>⟨((none,0),[]),rfl,hst.out [(0,50)] rfl rfl λu h=>⟨h.1,λv hv _=>⟨rfl,λs hs=>by cases hs⟩⟩⟩
 ·rintro i hi ⟨⟩ D m2 hF
  exact hF.elim
theorem Way_ok (po:Option Plot) (t:Option Tree) (ht:okO t) (name:Str) (hn:name.length ≤ 60) :
  Does Tryz.prog tb 52 [(mapE po).v,strV name] [] (λu=>IsO u po t) (λy:(Option Addr × Nat) × List Stp=>.tuple #[.slice y.1.1 y.2.length y.1.2,intV 0]) (λy=>[(0,rowE kStp y.1.1 y.1.2 y.2)]) (λy=>Late (λ_=>True) (wayQ (wayO t name) y)):=by
 cases po with
 | none =>
  cases t with
  | none =>
   intro B0 w K hst hp
   exact Way_none name hn [] rfl B0 w K hst λ_ _=>trivial
  | some t =>
   intro B0 w K hst hp
   exact ((hp w hst.fact)).elim
 | some L =>
  cases t with
  | none =>
   intro B0 w K hst hp
   exact ((hp w hst.fact)).elim
  | some t=>exact Way_some L t ht name hn _ rfl
theorem idxFuncP (w:World) (A:Option Addr) (c:Nat) (l:List Stp) (h:Sl kStp w A c l) (g:FuncId) (f1 c1:List Value) (p:Stp->Bool) (hf:Fun1 kStp w g f1 c1 l p) :
  Gives Tryz.prog 104 [.slice A l.length c,.func (.func g) f1.toArray c1.toArray] w (intE (idxOf p l 0)):=by
 have hl:lim=140737488351232:=rfl
 have hsm:=h.small
 refine enterH tk [(0,slE A l.length c),(1,.av (.val (.func (.func g) f1.toArray c1.toArray)))] Tryz.func104 rfl Tryz.ntmps104 rfl rfl ?_
 refine RH.a [] ?_
 refine RH.loop (α:=Nat) (λi=>[(0,slE A l.length c),(1,.av (.val (.func (.func g) f1.toArray c1.toArray))),(7,intE l.length),(8,intE i)]) (λ_=>[]) (λi w'=>Ext w w'/\i ≤ l.length/\(l.take i).any p=false) (λi=>l.length - i) 0
  rfl rfl (λw' h=>⟨h,Nat.zero_le _,rfl⟩) ?_
 intro i m
 refine RH.pure (λw' h=>h.2) λ⟨hi,hpre⟩=>?_
 by_cases hlt:i < l.length
 ·have hts:l.take (i+1)=l.take i ++ [l[i]]:=List.take_succ_eq_append_getElem hlt
  refine RH.adv tk [true] rfl rfl (by simp [h.ptr hlt]<;>omega) ?_
  refine RH.load (.st (stpF l[i])) rfl rfl rfl rfl (λw' h'=>(h.ext h'.1).load hlt) ?_
  refine RH.gives (g:=g) (f1:=f1) (c1:=c1) (boE (p l[i])) rfl rfl rfl rfl rfl hf.enter (λw' hst=>hf.says _ (List.getElem_mem hlt) w' hst.fact.1) ?_
  intro m' hm'
  by_cases hp:p l[i]=true
  ·refine RH.adv tk [true] rfl rfl (by simp [hp]<;>omega) ?_
   refine RH.ret1 Tryz.func104 rfl rfl λw' hst=>⟨?_,hst.fact.1⟩
   rw [idxOf_at p l 0 i hlt hpre hp,Nat.zero_add]
  ·refine RH.adv tk [false] rfl rfl (by simp [hp]<;>omega) ?_
   refine RH.again (i+1) (.head _) rfl rfl (by omega) λw' h=>⟨h.1,by omega,?_⟩
   rw [hts,List.any_append,hpre];simp [hp]
 ·rw [List.take_of_length_le (by omega)] at hpre
  refine RH.a [false] ?_
  refine RH.ret1 Tryz.func104 rfl rfl λw' hst=>⟨?_,hst.fact.1⟩
  rw [idxOf_none p l 0 hpre]
theorem containsFuncP (w:World) (A:Option Addr) (c:Nat) (l:List Stp) (h:Sl kStp w A c l) (g:FuncId) (f1 c1:List Value) (p:Stp->Bool) (hf:Fun1 kStp w g f1 c1 l p) :
  Gives Tryz.prog 35 [.slice A l.length c,.func (.func g) f1.toArray c1.toArray] w (boE (l.any p)):=by
 refine enterH tk [(0,slE A l.length c),(1,.av (.val (.func (.func g) f1.toArray c1.toArray)))] Tryz.func35 rfl Tryz.ntmps35 rfl rfl ?_
 refine RH.a [] ?_
 refine RH.gv (intE (idxOf p l 0)) rfl rfl rfl Tryz.call104 (λw' hst=>idxFuncP w' A c l (h.ext hst.fact) g f1 c1 p (hf.ext hst.fact)) ?_
 intro m' hm'
 refine RH.a [] ?_
 refine RH.ret1 Tryz.func35 rfl rfl λw' hst=>⟨?_,hst.fact⟩
 have:decide (0 ≤ idxOf p l 0)=l.any p:=by rw [Bool.eq_iff_iff];simp only [decide_eq_true_eq];exact idxOf_ge p l 0
 simp [this,EV.v,AV.v]
theorem idxB_spec (w:World) (A:Option Addr) (c:Nat) (l:List UInt8) (h:Sl kBy w A c l) (x:UInt8):Gives Tryz.prog 108 [.slice A l.length c,u8V x] w (intE (idxOf (λy=>decide (x=y)) l 0)):=by
 have hl:lim=140737488351232:=rfl
 have hsm:=h.small
 refine enterH tk [(0,slE A l.length c),(1,byE x)] Tryz.func108 rfl Tryz.ntmps108 rfl rfl ?_
 refine RH.a [] ?_
 refine RH.loop (α:=Nat) (λi=>[(0,slE A l.length c),(1,byE x),(7,intE l.length),(8,intE i)]) (λ_=>[]) (λi w'=>Ext w w'/\i ≤ l.length/\(l.take i).any (λy=>decide (x=y))=false) (λi=>l.length - i) 0
  rfl rfl (λw' h=>⟨h,Nat.zero_le _,rfl⟩) ?_
 intro i m
 refine RH.pure (λw' h=>h.2) λ⟨hi,hpre⟩=>?_
 by_cases hlt:i < l.length
 ·have hts:l.take (i+1)=l.take i ++ [l[i]]:=List.take_succ_eq_append_getElem hlt
  refine RH.adv tk [true] rfl rfl (by simp [h.ptr hlt]<;>omega) ?_
  refine RH.loadS (byE l[i]) rfl rfl rfl rfl (λw' h'=>(h.ext h'.fact.1).load hlt) ?_
  by_cases hp:x=l[i]
  ·refine RH.adv tk [true] rfl rfl (by simp [hp]<;>omega) ?_
   refine RH.ret1 Tryz.func108 rfl rfl λw' hst=>⟨?_,hst.fact.1⟩
   rw [idxOf_at _ l 0 i hlt hpre (by simpa using hp),Nat.zero_add]
  ·have hp2:¬ x.toNat=l[i].toNat:=λe=>hp (UInt8.toNat_inj.1 e)
   refine RH.adv tk [false] rfl rfl (by simp [hp2]<;>omega) ?_
   refine RH.again (i+1) (.head _) rfl rfl (by omega) λw' h=>⟨h.1,by omega,?_⟩
   rw [hts,List.any_append,hpre];simp [hp]
 ·rw [List.take_of_length_le (by omega)] at hpre
  refine RH.a [false] ?_
  refine RH.ret1 Tryz.func108 rfl rfl λw' hst=>⟨?_,hst.fact.1⟩
  rw [idxOf_none _ l 0 hpre]
def riseB:List UInt8->Bool
 | a :: b :: r=>decide (a < b) && riseB (b :: r)
 | _=>true
theorem riseB_two (a b:UInt8) (r:List UInt8):riseB (a :: b :: r)=(decide (a < b) && riseB (b :: r)):=rfl
theorem riseB_at:∀ (l:List UInt8),riseB l=true ↔ ∀ i (h:i+1 < l.length),l[i]'(by omega) < l[i+1]
 | []=>by simp [riseB]
 | [a]=>by simp [riseB]
 | a :: b :: r=>by
  rw [riseB_two,Bool.and_eq_true,decide_eq_true_iff,riseB_at (b :: r)]
  constructor
  ·rintro ⟨h1,h2⟩ i h
   cases i with
   | zero=>exact h1
   | succ i=>exact h2 i (by simpa using h)
  ·intro h
   exact ⟨h 0 (by simp),λi hi=>h (i+1) (by simpa using hi)⟩
def rightD (s:StD):Bool:=riseB s.2.2.2.1 && (decide (s.1.length ≤ 60) && (decide (s.2.2.2.1.length=s.2.2.2.2.length) && (s.2.1 || (decide (s.2.2.1=Sum.zero) && decide (1 < s.2.2.2.1.length)))))
theorem right_spec (w:World) (s:Stp) (h:Sl kBy w s.A s.c s.bytes) (hn:s.nodes.length ≤ lim):Gives Tryz.prog 106 [(EV.st (stpF s)).v] w (boE (rightD s.dat)):=by
 have hl:lim=140737488351232:=rfl
 have hsm:=h.small
 refine enterH tk [(0,.st (stpF s))] Tryz.func106 rfl Tryz.ntmps106 rfl rfl ?_
 refine RH.a [] ?_
 refine RH.loop (α:=Nat) (λy=>[(1,.av (.box 0 w.heap.size 0)),(3,intE ((y+1:Nat):Int))]) (λ_=>[(0,some (.box w.heap.size (stpF s) 61))]) (λy u=>Ext w u/\y ≤ s.bytes.length/\∀ i (hi:i+1 < s.bytes.length),i < y->s.bytes[i]'(by omega) < s.bytes[i+1]) (λy=>s.bytes.length - y) 0 rfl rfl (λu hu=>⟨hu,Nat.zero_le _,λi _ h=>absurd h (Nat.not_lt_zero _)⟩) ?_
 intro y m
 refine RH.pure (λu hu=>hu.2) λ⟨hy,hpre⟩=>?_
 by_cases hlt:y+1 < s.bytes.length
 ·have hptr:Ptr s.A:=h.ptr hlt
  have e1:(((y+1:Nat):Int) - 1).toNat=y:=by omega
  have e2:(((y+1:Nat):Int)).toNat=y+1:=by omega
  refine RH.a [true] ?_
  refine RH.w [(0,some (.box w.heap.size (stpF s) 61))] 12 ?_
  refine RD.b [] rfl rfl (by simp [hptr]<;>omega) ?_
  rw [e1]
  refine RD.ld 4 (byE s.bytes[y+1]) rfl rfl (λw' hw=>(h.ext hw.1).load hlt) ?_
  refine RD.ld 10 (byE (s.bytes[y]'(by omega))) rfl rfl (λw' hw=>(h.ext hw.1).load (i:=y) (by omega)) ?_
  refine RD.a [] ?_
  refine RD.e ?_
  by_cases hb:(s.bytes[y]'(by omega)).toNat < (s.bytes[y+1]).toNat
  ·refine RH.adv tk [false] rfl rfl (by simp [hb]<;>omega) ?_
   refine RH.again (y+1) (.head _) rfl rfl (by omega) λu hu=>⟨hu.1,by omega,λi hi h2=>?_⟩
   rcases Nat.lt_or_eq_of_le (Nat.le_of_lt_succ h2) with h3|h3
   ·exact hpre i hi h3
   ·subst h3;exact u8_lt.2 hb
  ·refine RH.adv tk [true] rfl rfl (by simp [hb]<;>omega) ?_
   have hr:rightD s.dat=false:=by
    have:riseB s.bytes=false:=by
     cases hr:riseB s.bytes with
     | false=>rfl
     | true=>exact absurd (u8_lt.1 ((riseB_at _).1 hr y hlt)) hb
    simp [rightD,Stp.dat,this]
   refine RH.ret1 Tryz.func106 rfl rfl λu hst=>⟨by rw [hr];rfl,hst.fact.1⟩
 ·have hrise:riseB s.bytes=true:=(riseB_at _).2 λi hi=>hpre i hi (by omega)
  have hD:rightD s.dat=(decide (s.stem.length ≤ 60) && (decide (s.bytes.length=s.nodes.length) && (s.has || (decide (s.sum=Sum.zero) && decide (1 < s.bytes.length))))):=by
   unfold rightD
   show (riseB s.bytes && _)=_
   rw [hrise]
   rfl
  rw [hD]
  refine RH.a [false] ?_
  by_cases h1:s.stem.length ≤ 60
  ·by_cases h2:s.bytes.length=s.nodes.length
   ·cases hh:s.has with
    | true =>
     refine RH.adv tk [true,true,true] rfl rfl (by simp [h1,h2,hh]<;>omega) ?_
     refine RH.ret1 Tryz.func106 rfl rfl λu hst=>⟨by simp [h1,h2,EV.v,AV.v],hst.fact.1⟩
    | false =>
     refine RH.adv tk [true,true,false] rfl rfl (by simp [h1,h2,hh]<;>omega) ?_
     refine RH.read (sumE Sum.zero) rfl rfl rfl rfl (λw' a _ hag=>?_) ?_
     ·simp only [execOp,List.map_toArray,List.map_nil,buZ,Sem.run_bind,Result.andThen_ok,Sem.run_pure]
      rfl
     refine RH.read (boE (decide (s.sum=Sum.zero))) rfl rfl rfl rfl (λw' a _ hag=>op_eq hag rfl rfl rfl rfl rfl (by kernel_rfl) (eq_sum w' 9998 _ _)) ?_
     by_cases h3:s.sum=Sum.zero
     ·refine RH.adv tk [true] rfl rfl (by simp [h3]<;>omega) ?_
      refine RH.ret1 Tryz.func106 rfl rfl λu hst=>⟨by simp [h1,h2,h3,EV.v,AV.v];omega,hst.fact.1⟩
     ·refine RH.adv tk [false] rfl rfl (by simp [h3]<;>omega) ?_
      refine RH.ret1 Tryz.func106 rfl rfl λu hst=>⟨by simp [h1,h2,h3,EV.v,AV.v],hst.fact.1⟩
   ·refine RH.adv tk [true,false] rfl rfl (by simp [h1,h2]<;>omega) ?_
    refine RH.ret1 Tryz.func106 rfl rfl λu hst=>⟨by simp [h1,h2,EV.v,AV.v],hst.fact.1⟩
  ·refine RH.adv tk [false] rfl rfl (by simp [h1]<;>omega) ?_
   refine RH.ret1 Tryz.func106 rfl rfl λu hst=>⟨by simp [h1,EV.v,AV.v],hst.fact.1⟩
section
variable {P:Program} {f:Fr} {n:Nat} {S:Stops} {R:Ending->World->Prop} {tb:TT} {B0:Nat} {I:World->Prop} {H:Heap} {nx m:Nat} {env:SEnv} {todo k:List Item}
theorem V.resultsC3 {fn:Func} {t u x:Tmp} {T:TypeId} {p:Addr} {v y z:Value} {w:World} (h:fn.results = #[.cell t T,.tmp u,.tmp x]) {a:Act} (hp:a.tmps.getD t undef = .pointer (some p)) (hv:(loadVar T p).run P w = .ok v w) (hy:a.tmps.getD u undef=y) (hz:a.tmps.getD x undef=z):(results fn a.tmps).run P w = .ok (.tuple #[v,y,z]) w:=by
 subst hy;subst hz
 simp only [Array.getD_eq_getD_getElem?] at hp
 simp [results,h,hp,asAddr,hv]
theorem V.RH.retBox3 {g:FuncId} {fn:Func} {t u x:Tmp} {T:TypeId} {id b:Nat} {fs:List AV} (hk:tb.Ok P) (e:EV) {e2 e3:EV} (hf:P.funcs[g]? = some fn) (hr:fn.results = #[.cell t T,.tmp u,.tmp x]) (hl:lookE env t=some (.av (.box id b 0))) (hH:loH H id=some (.box b fs T)) (he:fieldsE tb T e=some fs) (hu:lookE env u=some e2) (hx:lookE env x=some e3)
  (hR:∀ w,St tb B0 H I w->R (.returned (.tuple #[e.v,e2.v,e3.v])) w):RH P (fr g) n tb B0 S R (.code .ret :: k) env H nx m I:=by
 intro w _ hst
 refine Run.ret hf (λa ha=>V.resultsC3 hr (by rw [kn_look hl ha];rfl) ?_ (kn_look hu ha) (kn_look hx ha)) (hR w hst)
 have hh:=hst.holds id _ hH
 obtain ⟨h1,h2⟩:=Fit.vok hk hh.2.2 he
 exact load_whole hk hh h1 h2
end
def stV (s:StD):Option Sum:=if s.2.1=true then some s.2.2.1 else none
def stOwn (s:StD):Sum:=shaW (stepB s.1 (stV s) s.2.2.2.1 s.2.2.2.2)
def nextN (s:StD) (b:UInt8):Option Sum:=if 0 ≤ idxOf (λy=>decide (b=y)) s.2.2.2.1 0 then some (s.2.2.2.2.getD (idxOf (λy=>decide (b=y)) s.2.2.2.1 0).toNat Sum.zero) else none
def verGo:List StD->Sum->Str->Sum->Bool->Bool->Option (Sum × Bool × Bool)
 | [],_,_,x,is,more=>some (x,is,more)
 | s :: r,root,name,x,is,more =>
  if more=false then none else if stOwn s ≠ root then none
  else if hasPre name s.1=true then (match cutS name s.1 with
   | []=>verGo r root name (if s.2.1=true then s.2.2.1 else Sum.zero) s.2.1 false
   | b :: q=>match nextN s b with
    | some n=>verGo r n q Sum.zero false true
    | none=>verGo r root name Sum.zero false false)
  else verGo r root name Sum.zero false false
def verE (o:Option (Sum × Bool × Bool)):Sum × Bool × Int:=match o with
 | none=>(Sum.zero,false,14)
 | some (x,is,more)=>if more=true then (Sum.zero,false,14) else (x,is,0)
def verifyR (root:Sum) (name:Str) (l:List StD):Sum × Bool × Int :=
 if 60 < name.length then (Sum.zero,false,11) else if (l.any λs=>!rightD s)=true then (Sum.zero,false,14)
 else if l=[] then (if root=shaW [] then (Sum.zero,false,0) else (Sum.zero,false,14)) else verE (verGo l root name Sum.zero false true)
abbrev verV (r:Sum × Bool × Int):EV:=.av (.val (.tuple #[sumV r.1,.bool r.2.1,intV r.2.2]))
theorem Ver1_spec (w:World) (s:Stp) (h:Sl kBy w s.A s.c s.bytes) (hn:s.nodes.length ≤ lim):Gives Tryz.prog 105 [(EV.st (stpF s)).v] w (boE (!rightD s.dat)):=by
 refine enterH tk [(0,.st (stpF s))] Tryz.func105 rfl Tryz.ntmps105 rfl rfl ?_
 refine RH.a [] ?_
 refine RH.gv (boE (rightD s.dat)) rfl rfl rfl Tryz.call106 (λu hu=>right_spec u s (h.ext hu.fact) hn) ?_
 intro m1 hm1
 refine RH.a [] ?_
 refine RH.ret1 Tryz.func105 rfl rfl λw' hst=>⟨rfl,hst.fact⟩
theorem digestS_spec (w:World) (hG:Glob w) (s:Stp) (h:s.ok w) (hr:rightD s.dat=true) (hb:s.bytes.length ≤ 1000):Gives Tryz.prog 107 [(EV.st (stpF s)).v] w (sumE (stOwn s.dat)):=by
 unfold rightD at hr
 simp only [Stp.dat,Bool.and_eq_true,Bool.or_eq_true] at hr
 obtain ⟨_,h1,h2,h3⟩:=hr
 have h1:=of_decide_eq_true h1
 have h2:=of_decide_eq_true h2
 cases hh:s.has with
 | true =>
  have:=digest_spec w hG s.stem (some s.sum) s.A s.c s.bytes s.B s.d s.nodes h.1 h.2 h2.symm (by omega) hb
  have e:stOwn s.dat=shaW (stepB s.stem (some s.sum) s.bytes s.nodes):=by simp [stOwn,stV,Stp.dat,hh]
  rw [e]
  have e2:(EV.st (stpF s)).v=(stepE s.stem (some s.sum) s.A s.bytes.length s.c s.B s.nodes.length s.d).v:=by simp only [stpF,hh];rfl
  rw [e2]
  exact this
 | false =>
  have hz:s.sum=Sum.zero:=by
   rw [hh] at h3
   rcases h3 with h3|h3
   ·cases h3
   ·exact of_decide_eq_true h3.1
  have:=digest_spec w hG s.stem none s.A s.c s.bytes s.B s.d s.nodes h.1 h.2 h2.symm (by omega) hb
  have e:stOwn s.dat=shaW (stepB s.stem none s.bytes s.nodes):=by simp [stOwn,stV,Stp.dat,hh]
  rw [e]
  have e2:(EV.st (stpF s)).v=(stepE s.stem none s.A s.bytes.length s.c s.B s.nodes.length s.d).v:=by simp only [stpF,hh,hz];rfl
  rw [e2]
  exact this
theorem idxOf_lt {α:Type} (p:α->Bool):∀ (l:List α) (i:Nat),0 ≤ idxOf p l i->(i:Int) ≤ idxOf p l i/\idxOf p l i < (i+l.length:Nat)
 | [],i,h=>by unfold idxOf at h;omega
 | x :: r,i,h=>by
  unfold idxOf at h ⊢
  split
  ·simp;omega
  ·rename_i hp
   rw [if_neg hp] at h
   have:=idxOf_lt p r (i+1) h
   rw [List.length_cons]
   omega
theorem ver_less (s:StD) (r:List StD) (root:Sum) (name:Str) (x:Sum) (is:Bool):verGo (s :: r) root name x is false=none:=rfl
theorem ver_off {s:StD} {root:Sum} (h:¬ stOwn s=root) (r:List StD) (name:Str) (x:Sum) (is:Bool):verGo (s :: r) root name x is true=none:=by
 unfold verGo;rw [if_neg (by decide),if_pos h]
theorem ver_not {s:StD} {root:Sum} (h:stOwn s=root) {name:Str} (hp:¬ hasPre name s.1=true) (r:List StD) (x:Sum) (is:Bool):verGo (s :: r) root name x is true=verGo r root name Sum.zero false false:=by
 conv=>lhs;unfold verGo
 rw [if_neg (by decide),if_neg (λe=>e h),if_neg hp]
theorem ver_end {s:StD} {root:Sum} (h:stOwn s=root) {name:Str} (hp:hasPre name s.1=true) (hc:cutS name s.1=[]) (r:List StD) (x:Sum) (is:Bool):verGo (s :: r) root name x is true=verGo r root name (if s.2.1=true then s.2.2.1 else Sum.zero) s.2.1 false:=by
 conv=>lhs;unfold verGo
 rw [if_neg (by decide),if_neg (λe=>e h),if_pos hp,hc]
theorem ver_go {s:StD} {root:Sum} (h:stOwn s=root) {name:Str} (hp:hasPre name s.1=true) {b:UInt8} {q:Str} (hc:cutS name s.1=b :: q) {n:Sum} (hn:nextN s b=some n) (r:List StD) (x:Sum) (is:Bool):verGo (s :: r) root name x is true=verGo r n q Sum.zero false true:=by
 conv=>lhs;unfold verGo
 rw [if_neg (by decide),if_neg (λe=>e h),if_pos hp,hc]
 dsimp only
 rw [hn]
theorem ver_stop {s:StD} {root:Sum} (h:stOwn s=root) {name:Str} (hp:hasPre name s.1=true) {b:UInt8} {q:Str} (hc:cutS name s.1=b :: q) (hn:nextN s b=none) (r:List StD) (x:Sum) (is:Bool):verGo (s :: r) root name x is true=verGo r root name Sum.zero false false:=by
 conv=>lhs;unfold verGo
 rw [if_neg (by decide),if_neg (λe=>e h),if_pos hp,hc]
 dsimp only
 rw [hn]
theorem right_all {l:List Stp} (h:((l.map Stp.dat).any λs=>!rightD s)=false):∀ s ∈ l,rightD s.dat=true:=by
 intro s hs
 have:=List.any_eq_false.1 h s.dat (List.mem_map.2 ⟨s,hs,rfl⟩)
 simpa using this
theorem any_dat (l:List Stp):(l.any λs=>!rightD s.dat)=((l.map Stp.dat).any λs=>!rightD s):=by
 rw [List.any_map];rfl
theorem Verify_spec (w:World) (hG:Glob w) (root:Sum) (name:Str) (A:Option Addr) (c:Nat) (l:List Stp) (h:Sl kStp w A c l) (hs:∀ s ∈ l,s.ok w) (hb:∀ s ∈ l,s.bytes.length ≤ 1000) :
  Gives Tryz.prog 40 [sumV root,strV name,.slice A l.length c] w (verV (verifyR root name (l.map Stp.dat))):=by
 have hlim:lim=140737488351232:=rfl
 have hsm:=h.small
 refine enterH tk [(0,sumE root),(1,strE name),(2,slE A l.length c)] Tryz.func40 rfl Tryz.ntmps40 rfl rfl ?_
 by_cases h60:60 < name.length
 ·have hv:verifyR root name (l.map Stp.dat)=(Sum.zero,false,11):=if_pos h60
  rw [hv]
  refine RH.a [true] ?_
  refine RH.read (sumE Sum.zero) rfl rfl rfl rfl (λw' a _ hag=>?_) ?_
  ·simp only [execOp,List.map_toArray,List.map_nil,buZ,Sem.run_bind,Result.andThen_ok,Sem.run_pure]
   rfl
  refine RH.a [] ?_
  exact V.RH.retBox3 tk (sumE Sum.zero) Tryz.func40 rfl rfl rfl rfl rfl rfl λw' hst=>⟨rfl,hst.fact⟩
 ·refine RH.a [false] ?_
  refine RH.gv (boE (l.any λs=>!rightD s.dat)) rfl rfl rfl Tryz.call35 (λu hu=>containsFuncP u A c l (h.ext hu.fact) 105 [] [] (λs=>!rightD s.dat) ⟨λxs w=>Tryz.call105 xs w,λs hm u' hu'=>Ver1_spec u' s (((hs s hm).1.ext hu.fact).ext hu') (hs s hm).2.small⟩) ?_
  intro m1 hm1
  rw [any_dat]
  cases hr:(l.map Stp.dat).any λs=>!rightD s with
  | true =>
   have hv:verifyR root name (l.map Stp.dat)=(Sum.zero,false,14):=by unfold verifyR;rw [if_neg h60,if_pos hr]
   rw [hv]
   refine RH.adv tk [true] rfl rfl (by simp [hr]) ?_
   refine RH.read (sumE Sum.zero) rfl rfl rfl rfl (λw' a _ hag=>?_) ?_
   ·simp only [execOp,List.map_toArray,List.map_nil,buZ,Sem.run_bind,Result.andThen_ok,Sem.run_pure]
    rfl
   refine RH.a [] ?_
   exact V.RH.retBox3 tk (sumE Sum.zero) Tryz.func40 rfl rfl rfl rfl rfl rfl λw' hst=>⟨rfl,hst.fact⟩
  | false =>
   have hra:=right_all hr
   by_cases hl0:l=[]
   ·subst hl0
    refine RH.a [false,true] ?_
    refine RH.w [(0,some (.box w.heap.size [.val (sumV root)] 40))] 3 ?_
    refine RD.a [] ?_
    refine RD.gv 1 (sumE (shaW [])) rfl rfl rfl Tryz.call78 (λu hu=>Of_spec u (hG.ext hu.fact) none 0 [] (Sl.void u) (by decide)) ?_
    intro m2 hm2
    refine RD.r 2 (boE (!decide (root=shaW []))) rfl rfl (λw' a h hag=>op_neq hag rfl rfl rfl rfl rfl (by kernel_rfl) (eq_sum w' 9998 _ _)) ?_
    refine RD.e ?_
    by_cases hr0:root=shaW []
    ·have hv:verifyR root name (([]:List Stp).map Stp.dat)=(Sum.zero,false,0):=by unfold verifyR;rw [if_neg h60,if_neg (by rw [hr];decide),if_pos (show (([]:List Stp).map Stp.dat)=[] from rfl),if_pos hr0]
     rw [hv]
     refine RH.adv tk [false] rfl rfl (by simp [hr0]) ?_
     refine RH.read (sumE Sum.zero) rfl rfl rfl rfl (λw' a _ hag=>?_) ?_
     ·simp only [execOp,List.map_toArray,List.map_nil,buZ,Sem.run_bind,Result.andThen_ok,Sem.run_pure]
      rfl
     refine RH.a [] ?_
     exact V.RH.retBox3 tk (sumE Sum.zero) Tryz.func40 rfl rfl rfl rfl rfl rfl λw' hst=>⟨rfl,hst.fact⟩
    ·have hv:verifyR root name (([]:List Stp).map Stp.dat)=(Sum.zero,false,14):=by unfold verifyR;rw [if_neg h60,if_neg (by rw [hr];decide),if_pos (show (([]:List Stp).map Stp.dat)=[] from rfl),if_neg hr0]
     rw [hv]
     refine RH.adv tk [true] rfl rfl (by simp [hr0]) ?_
     refine RH.read (sumE Sum.zero) rfl rfl rfl rfl (λw' a _ hag=>?_) ?_
     ·simp only [execOp,List.map_toArray,List.map_nil,buZ,Sem.run_bind,Result.andThen_ok,Sem.run_pure]
      rfl
     refine RH.a [] ?_
     exact V.RH.retBox3 tk (sumE Sum.zero) Tryz.func40 rfl rfl rfl rfl rfl rfl λw' hst=>⟨rfl,hst.fact⟩
   ·have hne:¬ (l.map Stp.dat=[]):=by simpa using hl0
    have hv:verifyR root name (l.map Stp.dat)=verE (verGo (l.map Stp.dat) root name Sum.zero false true):=by unfold verifyR;rw [if_neg h60,if_neg (by rw [hr];decide),if_neg hne]
    rw [hv]
    have hl1:0 < l.length:=List.length_pos_iff.2 hl0
    refine RH.adv tk [false,false] rfl rfl (by simp [hr,hl0]) ?_
    refine RH.loop (α:=Nat × Sum × Str × Sum × Bool × Bool) (λy=>[(1,strE y.2.2.1),(3,.av (.box 0 w.heap.size 0)),(6,.av (.box 1 (w.heap.size+1) 0)),(7,boE y.2.2.2.2.1),(9,boE y.2.2.2.2.2),(33,slE A l.length c),(34,intE l.length),(35,intE y.1)])
     (λy=>[(0,some (.box w.heap.size [.val (sumV y.2.1)] 40)),(1,some (.box (w.heap.size+1) [.val (sumV y.2.2.2.1)] 40))])
     (λy u=>Ext w u/\y.1 ≤ l.length/\verGo (l.map Stp.dat) root name Sum.zero false true=verGo ((l.map Stp.dat).drop y.1) y.2.1 y.2.2.1 y.2.2.2.1 y.2.2.2.2.1 y.2.2.2.2.2) (λy=>l.length - y.1) (0,root,name,Sum.zero,false,true) rfl rfl (λu hu=>⟨hu,Nat.zero_le _,rfl⟩) ?_
    rintro ⟨i,rt,nm,x,is,more⟩ m2
    refine RH.pure (λu hu=>hu.2) λ⟨hi,hgo⟩=>?_
    dsimp only at hi hgo ⊢
    by_cases hlt:i < l.length
    ·have hdr:(l.map Stp.dat).drop i=l[i].dat :: (l.map Stp.dat).drop (i+1):=by
      rw [List.drop_eq_getElem_cons (by simpa using hlt)]
      simp
     have hmem:=List.getElem_mem hlt
     have hgo2:=hgo.trans (by rw [hdr])
     refine RH.adv tk [true] rfl rfl (by simp [h.ptr hlt]<;>omega) ?_
     refine RH.loadS (.st (stpF l[i])) rfl rfl rfl rfl (λu hu=>(h.ext hu.fact.1).load hlt) ?_
     refine RH.a [] ?_
     cases more with
     | false =>
      refine RH.w [] 8 ?_
      refine RD.a [true] ?_
      refine RD.e ?_
      refine RH.a [true] ?_
      refine RH.read (sumE Sum.zero) rfl rfl rfl rfl (λw' a _ hag=>?_) ?_
      ·simp only [execOp,List.map_toArray,List.map_nil,buZ,Sem.run_bind,Result.andThen_ok,Sem.run_pure]
       rfl
      refine RH.a [] ?_
      exact V.RH.retBox3 tk (sumE Sum.zero) Tryz.func40 rfl rfl rfl rfl rfl rfl λw' hst=>⟨by rw [hgo2,ver_less];rfl,hst.fact.1⟩
     | true =>
      refine RH.w [(0,some (.box w.heap.size [.val (sumV rt)] 40)),(2,some (.box m2 (stpF l[i]) 61))] 8 ?_
      refine RD.a [false] ?_
      refine RD.gv 4 (sumE (stOwn l[i].dat)) rfl rfl rfl Tryz.call107 (λu hu=>digestS_spec u (hG.ext hu.fact.1) l[i] ⟨(hs _ hmem).1.ext hu.fact.1,(hs _ hmem).2.ext hu.fact.1⟩ (hra _ hmem) (hb _ hmem)) ?_
      intro m3 hm3
      refine RD.r 6 (boE (!decide (stOwn l[i].dat=rt))) rfl rfl (λw' a h hag=>op_neq hag rfl rfl rfl rfl rfl (by kernel_rfl) (eq_sum w' 9998 _ _)) ?_
      refine RD.a [] ?_
      refine RD.e ?_
      by_cases hown:stOwn l[i].dat=rt
      ·refine RH.adv tk [false] rfl rfl (by simp [hown]) ?_
       refine RH.gv (cutV nm l[i].stem) rfl rfl rfl Tryz.call32 (λu _=>CutPre_spec u _ _) ?_
       intro m4 hm4
       refine RH.a [] ?_
       refine RH.tell [(1,strE nm),(3,.av (.box 0 w.heap.size 0)),(6,.av (.box 1 (w.heap.size+1) 0)),(7,boE is),(9,boE true),(11,.av (.box 2 m2 0)),(12,strE (cutS nm l[i].stem)),(13,boE (hasPre nm l[i].stem)),(33,slE A l.length c),(34,intE l.length),(35,intE i)]
        [(0,some (.box w.heap.size [.val (sumV rt)] 40)),(1,some (.box (w.heap.size+1) [.val (sumV x)] 40)),(2,some (.box m2 (stpF l[i]) 61))] [] rfl rfl rfl 3 ?_
       by_cases hp:hasPre nm l[i].stem=true
       ·cases hc:cutS nm l[i].stem with
        | nil =>
         refine RH.w [(2,some (.box m2 (stpF l[i]) 61))] 13 ?_
         refine RD.b [true,true] rfl rfl (by simp [hp]<;>omega) ?_
         refine RD.r 0 (sumE Sum.zero) rfl rfl (λw' a _ hag=>?_) ?_
         ·simp only [execOp,List.map_toArray,List.map_nil,buZ,Sem.run_bind,Result.andThen_ok,Sem.run_pure]
          rfl
         refine RD.a [] ?_
         refine RD.s 3 10 ?_
         refine RD.a [] ?_
         refine RD.e ?_
         cases hh:l[i].has with
         | true =>
          refine RH.adv tk [true,false,true] rfl rfl (by simp [hp]<;>omega) ?_
          refine RH.again (i+1,rt,nm,l[i].sum,true,false) (.head _) rfl rfl (by show l.length - (i+1) < l.length - i;omega) λu hu=>⟨hu.1,hlt,?_⟩
          rw [hgo2,ver_end hown hp hc]
          show verGo _ _ _ (if l[i].has=true then l[i].sum else Sum.zero) l[i].has false=_
          rw [hh];rfl
         | false =>
          refine RH.adv tk [false,false,true] rfl rfl (by simp [hp]<;>omega) ?_
          refine RH.again (i+1,rt,nm,Sum.zero,false,false) (.head _) rfl rfl (by show l.length - (i+1) < l.length - i;omega) λu hu=>⟨hu.1,hlt,?_⟩
          rw [hgo2,ver_end hown hp hc]
          show verGo _ _ _ (if l[i].has=true then l[i].sum else Sum.zero) l[i].has false=_
          rw [hh];rfl
        | cons b q =>
         refine RH.w [(2,some (.box m2 (stpF l[i]) 61))] 13 ?_
         refine RD.b [true,false] rfl rfl (by simp [hp]<;>omega) ?_
         refine RD.r 0 (sumE Sum.zero) rfl rfl (λw' a _ hag=>?_) ?_
         ·simp only [execOp,List.map_toArray,List.map_nil,buZ,Sem.run_bind,Result.andThen_ok,Sem.run_pure]
          rfl
         refine RD.a [] ?_
         refine RD.s 3 10 ?_
         refine RD.a [] ?_
         refine RD.e ?_
         have hrt:=hra _ hmem
         have hbn:l[i].bytes.length=l[i].nodes.length:=by
          unfold rightD at hrt
          simp only [Stp.dat,Bool.and_eq_true] at hrt
          exact of_decide_eq_true hrt.2.2.1
         have g0:List.getD (b :: q) (Int.toNat 0) 0=b:=rfl
         have hd1:(b :: q).drop (Int.toNat 1)=q:=rfl
         refine RH.adv tk [false,false] rfl rfl (by simp [hp]<;>omega) ?_
         refine RH.w [(2,some (.box m2 (stpF l[i]) 61))] 6 ?_
         refine RD.a [] ?_
         rw [g0]
         refine RD.gv 4 (intE (idxOf (λy=>decide (b=y)) l[i].bytes 0)) rfl rfl rfl Tryz.call108 (λu hu=>idxB_spec u l[i].A l[i].c l[i].bytes ((hs _ hmem).1.ext hu.fact.1) b) ?_
         intro m5 hm5
         refine RD.a [] ?_
         refine RD.e ?_
         by_cases h0:0 ≤ idxOf (λy=>decide (b=y)) l[i].bytes 0
         ·have hlt2:=(idxOf_lt _ _ _ h0).2
          obtain ⟨a,ha⟩:=Int.eq_ofNat_of_zero_le h0
          have hal:a < l[i].nodes.length:=by rw [ha] at hlt2;omega
          have hn:nextN l[i].dat b=some (l[i].nodes[a]):=by
           have e:nextN l[i].dat b=(if 0 ≤ idxOf (λy=>decide (b=y)) l[i].bytes 0 then some (l[i].nodes.getD (idxOf (λy=>decide (b=y)) l[i].bytes 0).toNat Sum.zero) else none):=rfl
           rw [e,if_pos h0,ha]
           simp [List.getD_eq_getElem?_getD,List.getElem?_eq_getElem hal]
          rw [ha]
          refine RH.a [true] ?_
          refine RH.w [(2,some (.box m2 (stpF l[i]) 61))] 10 ?_
          refine RD.b [] rfl rfl (by simp [(hs _ hmem).2.ptr hal]<;>omega) ?_
          rw [hd1]
          refine RD.ld 4 (sumE l[i].nodes[a]) rfl rfl (λw' hw=>((hs _ hmem).2.ext hw.1).load hal) ?_
          refine RD.a [] ?_
          refine RD.s 3 7 ?_
          refine RD.a [] ?_
          refine RD.e ?_
          refine RH.a [] ?_
          exact RH.again (i+1,l[i].nodes[a],q,Sum.zero,false,true) (.head _) rfl rfl (by show l.length - (i+1) < l.length - i;omega) λu hu=>⟨hu.1,hlt,by rw [hgo2,ver_go hown hp hc hn]⟩
         ·have hn:nextN l[i].dat b=none:=if_neg h0
          refine RH.adv tk [false] rfl rfl (by simp [h0]<;>omega) ?_
          exact RH.again (i+1,rt,nm,Sum.zero,false,false) (.head _) rfl rfl (by show l.length - (i+1) < l.length - i;omega) λu hu=>⟨hu.1,hlt,by rw [hgo2,ver_stop hown hp hc hn]⟩
       ·refine RH.w [(2,some (.box m2 (stpF l[i]) 61))] 13 ?_
        refine RD.b [false] rfl rfl (by simp [hp]<;>omega) ?_
        refine RD.r 0 (sumE Sum.zero) rfl rfl (λw' a _ hag=>?_) ?_
        ·simp only [execOp,List.map_toArray,List.map_nil,buZ,Sem.run_bind,Result.andThen_ok,Sem.run_pure]
         rfl
        refine RD.a [] ?_
        refine RD.s 3 10 ?_
        refine RD.a [] ?_
        refine RD.e ?_
        refine RH.adv tk [true] rfl rfl (by simp [hp]<;>omega) ?_
        exact RH.again (i+1,rt,nm,Sum.zero,false,false) (.head _) rfl rfl (by show l.length - (i+1) < l.length - i;omega) λu hu=>⟨hu.1,hlt,by rw [hgo2,ver_not hown hp]⟩
      ·refine RH.adv tk [true] rfl rfl (by simp [hown]) ?_
       refine RH.read (sumE Sum.zero) rfl rfl rfl rfl (λw' a _ hag=>?_) ?_
       ·simp only [execOp,List.map_toArray,List.map_nil,buZ,Sem.run_bind,Result.andThen_ok,Sem.run_pure]
        rfl
       refine RH.a [] ?_
       exact V.RH.retBox3 tk (sumE Sum.zero) Tryz.func40 rfl rfl rfl rfl rfl rfl λw' hst=>⟨by rw [hgo2,ver_off hown];rfl,hst.fact.1⟩
    ·have hi':i=l.length:=by omega
     have hgo3:verGo (l.map Stp.dat) root name Sum.zero false true=some (x,is,more):=by
      rw [hgo,List.drop_eq_nil_of_le (by simpa using Nat.le_of_eq hi'.symm)];rfl
     rw [hgo3]
     cases more with
     | true =>
      refine RH.a [false,true] ?_
      refine RH.read (sumE Sum.zero) rfl rfl rfl rfl (λw' a _ hag=>?_) ?_
      ·simp only [execOp,List.map_toArray,List.map_nil,buZ,Sem.run_bind,Result.andThen_ok,Sem.run_pure]
       rfl
      refine RH.a [] ?_
      exact V.RH.retBox3 tk (sumE Sum.zero) Tryz.func40 rfl rfl rfl rfl rfl rfl λw' hst=>⟨rfl,hst.fact.1⟩
     | false =>
      refine RH.a [false,false] ?_
      exact V.RH.retBox3 tk (sumE x) Tryz.func40 rfl rfl rfl rfl rfl rfl λw' hst=>⟨rfl,hst.fact.1⟩
def sortN (l:List Str):List Str:=l.mergeSort λx y=>decide (x ≤ y)
theorem Sort_spec (A:Option Addr) (c:Nat) (l:List Str) (hl:l.length ≤ 1000000) :
  Does Tryz.prog tb 27 [.slice A l.length c] [(0,rowE kStr A c l)] (λ_=>True) (λ_:Unit=>.tuple #[]) (λ_=>[(0,rowE kStr A c (sortN l))]) (λ_ _ _=>True):=by
 intro B0 w K hst hp
 have hcs:∀ l:List Str,l.flatMap kStr.cs=l.map encStr:=by
  intro l
  induction l with
  | nil=>rfl
  | cons x r ih=>rw [List.flatMap_cons,List.map_cons,ih];rfl
 have ho:=hst.holds 0 _ rfl
 have hsl:(sortN l).length=l.length:=by unfold sortN;simp
 rcases ho.2 with ⟨hv,h0⟩|⟨g,cap,cur,hv,hg,hb,h1,h2,h3,h4⟩
 ·injection hv with e1 e2 e3
  subst e1;subst e3
  have hl0:l=[]:=List.length_eq_zero_iff.1 e2
  subst hl0
  refine (Tryz.slices_Sort_string_none none 0 w).mono ?_
  rintro e w' ⟨rfl,rfl⟩
  have h0:sortN []=[]:=by simp [sortN]
  rw [h0]
  exact ⟨(),rfl,hst.mono (J:=λu=>K u/\True) λu _ hu=>⟨hu,trivial⟩⟩
 ·injection hv with e1 e2 e3
  subst e1;subst e3
  have h4':cur.toList.take l.length=l.map encStr:=by
   rw [← hcs]
   have:kStr.sz=1:=rfl
   rw [this,Nat.mul_one] at h4
   exact h4
  refine (Tryz.slices_Sort_string g 0 c l w (holds_of_block hb h4') (Array.getElem?_eq_some_iff.1 hb).1 (by omega)).mono ?_
  rintro e w' ⟨rfl,n,os,rfl⟩
  refine ⟨(),rfl,?_⟩
  have hgb:=grownBy_sorted (w:=w) (g:=g) (n:=n) (os:=os) (sortN l).toArray
  have hown:=ownsRow_sorted (n:=n) (os:=os) (ts:=sortN l) hsl hg hb h1 h2 h3
  have ht:=hst.turn (w':=Go.Sort.grow (Go.Sort.putRow encStr (Go.Sort.ahead w n) g 0 (sortN l).toArray) os) 0 _ (.row (.slice (some ⟨g,0,none⟩) (sortN l).length c) kStr.T kStr.sz (sortN l).length ((sortN l).flatMap kStr.cs)) rfl
   ⟨hgb.os,hgb.tape,hgb.output,hgb.size,λk hk hne=>hgb.block k hk (λe=>hne (by injection e with e;rw [e];rfl))⟩ (by rw [hcs,hsl];exact hown) (λk hk=>.inl hk)
  exact ht.out (G:=[(0,rowE kStr (some ⟨g,0,none⟩) c (sortN l))]) (J:=λu=>K u/\True) [] rfl rfl λu h=>⟨h,trivial⟩
end Go.Proofs.YtbfjmimiigjenaaGreatDoor
