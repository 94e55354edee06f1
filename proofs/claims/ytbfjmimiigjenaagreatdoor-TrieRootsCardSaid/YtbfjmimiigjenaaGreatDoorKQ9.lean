/-
Lemmas. No condition.
-/
import Derived.Laws.IdiomStrings
import Derived.Test.YtbfjmimiigjenaaGreatDoorKQ2
import Derived.Test.YtbfjmimiigjenaaGreatDoorKVZ2
set_option maxRecDepth 10000
set_option linter.unusedVariables false
set_option linter.unusedSectionVars false
set_option linter.unusedSimpArgs false
namespace Go.Proofs.YtbfjmimiigjenaaGreatDoor
open Go V RowKit
def kEnt:Kd (Str × Sum) where
 T:=155
 sz:=33
 ev x:=.st [.val (strV x.1),.val (sumV x.2)]
 ok x:=by
  refine ⟨_,Tryz.t155,rfl,rfl,?_,?_⟩
  ·have:(sumV x.2).cells.size=32:=(sumV_ok x.2).1
   simp only [List.map_cons,List.map_nil,flat_cons,flat_nil,AV.v,List.append_nil,List.size_toArray,List.length_append,Array.length_toList,this]
   rfl
  ·intro u hu
   simp only [List.map_cons,List.map_nil,flat_cons,flat_nil,AV.v,List.append_nil,List.mem_append] at hu
   rcases hu with hu|hu
   ·exact (vok_str x.1).one u hu
   ·exact (vok_sum x.2).one u hu
 size x:=by
  have:(sumV x.2).cells.size=32:=(sumV_ok x.2).1
  show (flat [strV x.1,sumV x.2]).toArray.size=33
  simp only [flat_cons,flat_nil,List.append_nil,List.size_toArray,List.length_append,Array.length_toList,this]
  rfl
theorem elt_ent:ElT tb kEnt.T 33 48:=⟨⟨Tryz.t155,(Tryz.t155).zero.getD undef,by kernel_rfl,by kernel_rfl,by kernel_rfl,by kernel_rfl,by kernel_rfl⟩,by decide⟩
section
variable {n:Nat} {B0:Nat} {I:World->Prop} {H:Heap} {m:Nat} {env:SEnv}
theorem V.OpGo.byteStr {d:Nat} {x:Operand} {ty:TypeId} {ps:String} {af:Array Edge} {gd:Option (Nat × Bool)} {ex:EV} {A:Option Addr} {c:Nat} {l:List UInt8}
  (hd:Nat.blt d n=true) (hx:evE env x=some ex) (hxv:ex.v = .slice A l.length c) (hne:l ≠ []) (hl:∀ w,St tb B0 H I w->Sl kBy w A c l) :
  OpGo Tryz.prog tb B0 n ⟨some d,.convert 22 9 x,ty,ps,af,gd⟩ env H m I (λ_:Unit=>(d,strE l) :: env) (λ_=>H) (λ_=>I):=by
 intro w a hm hst ha
 have hdn:d < n:=Nat.lt_of_lt_of_le (Nat.lt_succ_self d) (Nat.le_of_ble_eq_true hd)
 have hs:=hl w hst
 have hxv':a.eval x = .slice A l.length c:=(ev_run ha hx).trans hxv
 have hp:=hs.addr hne
 unfold Ptr at hp
 have h:=run_convert_bytes_back (P:=Tryz.prog) w 22 9 5 ⟨blkA A,offA A,none⟩ c l (tk.und rfl) (tk.und rfl) (tk.und rfl) (λj hj=>by
  rw [Addr.add_lit]
  refine hs.cells j _ ?_
  rw [← map_flat,List.getElem?_map,List.getElem?_eq_getElem hj]
  rfl)
 unfold Oper.wp
 have:(execOp a.eval ⟨some d,.convert 22 9 x,ty,ps,af,gd⟩).run Tryz.prog w = .ok (.value (strV l)) w:=by
  simp only [execOp,hxv']
  rw [hp,Sem.run_bind,h]
  rfl
 rw [this]
 refine ⟨(),?_,by rw [← hm];exact Nat.le_refl _,hst⟩
 rw [kn_cons];exact ha.put hdn _
end
def entsTo (k:Kids) (beg:Str) (i:Nat):List (Str × Sum):=((k.bytes.zip k.trees).take i).flatMap λp=>p.2.ents (beg ++ [p.1])
theorem entsTo_all:∀ (k:Kids) (beg:Str),(k.bytes.zip k.trees).flatMap (λp=>p.2.ents (beg ++ [p.1]))=k.ents beg
 | .nil,_=>rfl
 | .cons b t r,beg=>by
  show t.ents (beg ++ [b]) ++ ((r.bytes.zip r.trees).flatMap λp=>p.2.ents (beg ++ [p.1]))=t.ents (beg ++ [b]) ++ r.ents beg
  rw [entsTo_all r beg]
theorem entsTo_len (k:Kids) (beg:Str):entsTo k beg k.bytes.length=k.ents beg:=by
 unfold entsTo
 rw [List.take_of_length_le (by rw [List.length_zip];omega),entsTo_all]
theorem entsTo_succ (k:Kids) (beg:Str) {i:Nat} (h:i < k.bytes.length) (h2:i < k.trees.length):entsTo k beg (i+1)=entsTo k beg i ++ (k.trees[i]).ents (beg ++ [k.bytes[i]]):=by
 unfold entsTo
 have hz:i < (k.bytes.zip k.trees).length:=by simp;omega
 rw [List.take_succ_eq_append_getElem hz,List.flatMap_append]
 simp
theorem entsTo_le (k:Kids) (beg:Str) (i:Nat):(entsTo k beg i).length ≤ (k.ents beg).length:=by
 have:(k.bytes.zip k.trees).flatMap (λp=>p.2.ents (beg ++ [p.1]))=entsTo k beg i ++ ((k.bytes.zip k.trees).drop i).flatMap λp=>p.2.ents (beg ++ [p.1]):=by
  unfold entsTo
  rw [← List.flatMap_append,List.take_append_drop]
 rw [← entsTo_all,this,List.length_append]
 omega
theorem low_kid2 {N:Nat} {s:Str} {v:Option Sum} {k:Kids} (h:(Tree.node s v k).wf) (hl:(Tree.node s v k).low N) (i:Nat) (hi:i < k.trees.length):s.length+1 ≤ N/\(k.trees[i]).low (N - (s.length+1)):=by
 unfold Tree.wf at h
 have h2:i < k.bytes.length:=by rw [Kids.len];exact hi
 obtain ⟨a1,a2⟩:=kid_at h.1 i hi h2
 have key:∀ n x,(k.trees[i]).get n=some x->s.length+1+n.length ≤ N:=by
  intro n x hx
  have:=hl (s ++ k.bytes[i] :: n) x (by rw [get_kid,a2];exact hx)
  simp at this
  omega
 refine ⟨?_,λn x hx=>by have:=key n x hx;omega⟩
 obtain ⟨n,x,hx⟩:=has_name a1
 have:=key n x hx
 omega
def EntOk (t:Tree):Prop:=∀ (L:Plot) (beg:Str) (N:Nat),t.wf->t.low N->beg.length+N ≤ 1000->(t.ents beg).length ≤ 900000000 →
 Does Tryz.prog tb 97 [ptrV L.b,strV beg] [] (λu=>IT u L t) (λy:Option Addr × Nat=>.slice y.1 (t.ents beg).length y.2) (λy=>[(0,rowE kEnt y.1 y.2 (t.ents beg))]) (λ_ _ _=>True)
def ownL (v:Option Sum) (beg:Str):List (Str × Sum):=match v with
 | some s=>[(beg,s)]
 | none=>[]
theorem ents_node (s:Str) (v:Option Sum) (k:Kids) (beg:Str):(Tree.node s v k).ents beg=ownL v (beg ++ s) ++ k.ents (beg ++ s):=by
 cases v<;>rfl
theorem entries_node (s:Str) (v:Option Sum) (k:Kids) (ih:∀ i (h:i < k.trees.length),EntOk k.trees[i]):EntOk (.node s v k):=by
 intro L beg N hw hlow hN hm
 have hl:lim=140737488351232:=rfl
 have hst:=low_stem hw hlow
 have hkw:k.wf:=by unfold Tree.wf at hw;exact hw.1
 have hkl:=k.len
 rw [ents_node] at hm ⊢
 rw [List.length_append] at hm
 refine Does.enter tk [(0,ptrAt L.b),(1,strE beg)] Tryz.func97 rfl Tryz.ntmps97 rfl rfl 0 ?_
 intro B0 m0 K
 refine RH.facts (λu=>K u/\Part u L.b s v k L.A L.c L.B L.d L.ps (Tree.node s v k).many (Tree.node s v k).own) (λu h=>⟨h.1,YtbfjmimiigjenaaGreatDoor.IT.part h.2⟩) ?_
 refine RH.a [] ?_
 refine RH.read (.av (.val (.bool (some (⟨L.b,0,none⟩:Addr)).isNone))) rfl rfl rfl rfl (λu q _ ha=>opP ha rfl rfl rfl rfl) ?_
 refine RH.a [false] ?_
 refine RH.loadS (strE s) rfl rfl rfl rfl (λu hu=>hu.fact.2.stem) ?_
 refine RH.a [] ?_
 refine RH.loadS (boE v.isSome) rfl rfl rfl rfl (λu hu=>hu.fact.2.has) ?_
 refine RH.pure (λu h=>(⟨h.2.kids.len,h.2.to_.ptr0,h.2.by_.ptr0⟩:L.ps.length=k.bytes.length/\(L.ps ≠ []->Ptr L.B)/\(k.bytes ≠ []->Ptr L.A))) λ⟨hpl,hpB,hpA⟩=>?_
 have hkm:(k.ents (beg ++ s)).length ≤ 900000000:=by omega
 have hlb:=kbL hkw
 refine RH.nilrow 50 kEnt.T kEnt.sz 51 ?_
 refine RH.tell [(0,ptrAt L.b),(1,strE (beg ++ s)),(5,rowS 50 none 0 0),(19,boE v.isSome)] [(50,rowE kEnt none 0 [])] [] rfl rfl rfl 51 ?_
 apply RH.joinK (α:=Option Addr × Nat) (λz=>[(0,ptrAt L.b),(1,strE (beg ++ s)),(5,rowS 50 z.1 (ownL v (beg ++ s)).length z.2),(31,.av (.val (.pointer (some ⟨L.b,35,none⟩))))]) (λz=>[(50,rowE kEnt z.1 z.2 (ownL v (beg ++ s)))]) (λ_ u=>K u/\Part u L.b s v k L.A L.c L.B L.d L.ps (Tree.node s v k).many (Tree.node s v k).own)
 ·cases v with
  | none =>
   refine RH.a [false] ?_
   exact RH.mtS (none,0) [] (.head _) rfl rfl rfl λu hu=>hu
  | some x =>
   refine RH.a [true] ?_
   refine RH.loadS (sumE x) rfl rfl rfl rfl (λu hu=>hu.fact.2.sum) ?_
   refine RH.a [] ?_
   refine RH.apK (κ:=kEnt) (id:=50) (l:=[]) (r:=[(beg ++ s,x)]) rfl rfl rfl rfl rfl rfl elt_ent rfl rfl (λu hu=>hu.liR (κ:=kEnt) (l:=[(beg ++ s,x)]) (id:=51) rfl (by simp [hl])) (by simp) (by simp [hl]) ?_
   intro A1 c1 m1 hm1
   refine RH.a [] ?_
   exact RH.mtS (A1,c1) [] (.head _) rfl rfl rfl λu hu=>hu
 rintro ⟨A1,c1⟩ m1
 refine RH.toNx 60 ?_
 refine RH.loadS (slE L.B L.ps.length L.d) rfl rfl rfl rfl (λu hu=>hu.fact.2.lto) ?_
 refine RH.a [] ?_
 dsimp only
 have e0:ownL v (beg ++ s)=ownL v (beg ++ s) ++ entsTo k (beg ++ s) 0:=by simp [entsTo]
 rw [e0]
 refine RH.loop (α:=Nat × (Option Addr × Nat)) (λy=>[(0,ptrAt L.b),(1,strE (beg ++ s)),(32,slE L.B L.ps.length L.d),(33,intE L.ps.length),(34,intE y.1),(5,rowS 50 y.2.1 (ownL v (beg ++ s) ++ entsTo k (beg ++ s) y.1).length y.2.2)]) (λy=>[(50,rowE kEnt y.2.1 y.2.2 (ownL v (beg ++ s) ++ entsTo k (beg ++ s) y.1))]) (λy u=>(K u/\Part u L.b s v k L.A L.c L.B L.d L.ps (Tree.node s v k).many (Tree.node s v k).own)/\y.1 ≤ L.ps.length) (λy=>L.ps.length - y.1) (0,(A1,c1)) rfl rfl (λu hu=>⟨hu,Nat.zero_le _⟩) ?_
 rintro ⟨i,A2,c2⟩ m2
 refine RH.pure (λu hu=>hu.2) λhi=>?_
 dsimp only at hi ⊢
 by_cases hlt:i < L.ps.length
 ·have hs1:=entsTo_succ k (beg ++ s) (i:=i) (by omega) (by omega)
  have hle:=entsTo_le k (beg ++ s) (i+1)
  have hN2:=low_kid2 hw hlow i (by omega)
  refine RH.adv tk [true] rfl rfl (by simp [hpB (λe=>by rw [e] at hlt;cases hlt)]<;>omega) ?_
  refine RH.loadS (ptrAt L.ps[i].b) rfl rfl rfl rfl (λu hu=>hu.fact.1.2.to_.load hlt) ?_
  refine RH.a [] ?_
  refine RH.loadS (slE L.A k.bytes.length L.c) rfl rfl rfl rfl (λu hu=>hu.fact.1.2.lby) ?_
  refine RH.adv tk [] rfl rfl (by simp [hpA (λe=>by rw [e] at hpl;rw [hpl] at hlt;cases hlt)]<;>omega) ?_
  refine RH.loadS (byE (k.bytes[i]'(by omega))) rfl rfl rfl rfl (λu hu=>hu.fact.1.2.by_.load (by omega)) ?_
  refine RH.a [] ?_
  refine RH.go rfl rfl (OpGo.byteStr (l:=[k.bytes[i]'(by omega)]) rfl rfl rfl (by simp) λu hu=>Sl.own (B:=B0) (hu.row (κ:=kBy) (l:=[k.bytes[i]'(by omega)]) (id:=60) rfl) (by simp [hl])) 70 ?_
  rintro ⟨⟩ m3 hm3
  have hme:((k.trees[i]'(by omega)).ents (beg ++ s ++ [k.bytes[i]'(by omega)])).length ≤ (k.ents (beg ++ s)).length:=by
   rw [hs1,List.length_append] at hle;omega
  refine RH.a [] ?_
  refine RH.dd [] 80 (λy:Option Addr × Nat=>rowS 70 y.1 ((k.trees[i]'(by omega)).ents (beg ++ s ++ [k.bytes[i]'(by omega)])).length y.2) rfl rfl rfl Tryz.call97 (ih i (by omega) L.ps[i] (beg ++ s ++ [k.bytes[i]'(by omega)]) (N - (s.length+1)) (kid_at hkw i (by omega) (by omega)).1 hN2.2 (by simp;omega) (by omega)) (λu hu=>hu.fact.1.2.kids.at i hlt (by omega)) ?_
  rintro ⟨A3,c3⟩ m4 hm4
  refine RH.drop ?_
  dsimp only
  refine RH.apK (κ:=kEnt) (id:=50) (l:=ownL v (beg ++ s) ++ entsTo k (beg ++ s) i) (r:=(k.trees[i]'(by omega)).ents (beg ++ s ++ [k.bytes[i]'(by omega)])) rfl rfl rfl rfl rfl rfl elt_ent rfl rfl (λu hu=>hu.liR (κ:=kEnt) (l:=(k.trees[i]'(by omega)).ents (beg ++ s ++ [k.bytes[i]'(by omega)])) (id:=70) rfl (by omega)) (by rw [hs1,List.length_append] at hle;rw [List.length_append];omega) (by rw [hs1,List.length_append] at hle;rw [List.length_append];omega) ?_
  intro A4 c4 m5 hm5
  rw [List.append_assoc (ownL v (beg ++ s)) (entsTo k (beg ++ s) i),← hs1]
  refine RH.a [] ?_
  exact RH.again (i+1,(A4,c4)) (.head _) rfl rfl (by show L.ps.length - (i+1) < L.ps.length - i;omega) λu hu=>⟨hu.1,hlt⟩
 ·have hi':i=k.bytes.length:=by omega
  have hall:entsTo k (beg ++ s) i=k.ents (beg ++ s):=by rw [hi',entsTo_len]
  rw [hall]
  refine RH.a [false] ?_
  rw [← e0]
  refine RH.ret1 Tryz.func97 rfl rfl λw hst=>⟨(A2,c2),rfl,hst.out [(0,50)] rfl rfl λu h=>⟨h.1.1,trivial⟩⟩
mutual
theorem entries_ok:∀ t:Tree,EntOk t
 | .node s v k=>entries_node s v k (kids_entries_ok k)
theorem kids_entries_ok:∀ (k:Kids) (i:Nat) (h:i < k.trees.length),EntOk k.trees[i]
 | .nil,i,h=>by cases h
 | .cons b t r,0,_=>entries_ok t
 | .cons b t r,i+1,h=>kids_entries_ok r i (by simpa [Kids.trees] using h)
end
def IsO (u:World):Option Plot->Option Tree->Prop
 | none,none=>True
 | some L,some t=>IT u L t
 | _,_=>False
abbrev ptrO (po:Option Plot):Value:=.pointer (po.map λL=>⟨L.b,0,none⟩)
theorem IsO.ext {u u':World} (he:Ext u u') {po:Option Plot} {t:Option Tree} (h:IsO u po t):IsO u' po t:=by
 cases po<;>cases t<;>first|trivial|exact h.elim|exact YtbfjmimiigjenaaGreatDoor.IT.ext he h
def okO (t:Option Tree):Prop:=match t with
 | none=>True
 | some t=>t.wf/\t.thin 1000/\t.many ≤ 900000000
theorem putO_ok (po:Option Plot) (t:Option Tree) (ht:okO t) (name:Str) (x:Sum) (hn:name.length ≤ 1000) :
  Does Tryz.prog tb 167 [ptrO po,strV name,sumV x] [] (λu=>Glob u/\IsO u po t) (λb':Plot=>ptrV b'.b) (λ_=>[]) (λb'=>Late (λu=>IsO u po t) (λu=>IT u b' (putO t name x))):=by
 cases t with
 | none =>
  cases po with
  | none =>
   intro B0 w K hst hp
   refine (put_nil name x hn B0 w K hst λu hu=>(hp u hu).1).mono ?_
   rintro r w' ⟨b',hr,h2⟩
   exact ⟨b',hr,h2.mono λu _ hu=>⟨hu.1,λv hv _=>hu.2 v hv trivial⟩⟩
  | some L =>
   intro B0 w K hst hp
   exact ((hp w hst.fact).2).elim
 | some t =>
  cases po with
  | none =>
   intro B0 w K hst hp
   exact ((hp w hst.fact).2).elim
  | some L=>exact PutOk.all x (M:=900000000) (Nat.le_refl _) name.length name (Nat.le_refl _) hn t ht.1 ht.2.1 ht.2.2 L
def wkB (b:Nat) (po:Option Plot):Option HE:=some (.obj b (.cells #[ptrO po] 159))
theorem vok_ptr (po:Option Plot):VOk tb 29 (ptrO po):=⟨rfl,Tryz.t29,rfl,rfl⟩
theorem load_root {w:World} {b:Nat} {po:Option Plot} {T:TypeId} {fr:Nat × Nat} (h:w.heap[b]? = some (.cells #[ptrO po] T fr)):(loadVar 29 ⟨b,0,none⟩).run Tryz.prog w = .ok (ptrO po) w:=by
 refine V.run_load tk (vok_ptr po) (range_of_blk h (o:=0) (l:=[ptrO po]) λj v hv=>?_)
 rw [Nat.zero_add];exact hv
theorem store_root {w:World} {B0:Nat} {H:Heap} {I:World->Prop} {id b:Nat} {po po':Option Plot} (hst:St tb B0 H I w) (hH:loH H id=wkB b po) :
  ∃ w',(storeVar 29 ⟨b,0,none⟩ (ptrO po')).run Tryz.prog w = .ok () w'/\w.heap.size ≤ w'.heap.size/\St tb B0 ((id,wkB b po') :: H) I w':=by
 have hH':loH H id=some (.obj b (.cells #[ptrO po] 159)):=hH
 have ho:=hst.holds id _ hH'
 obtain ⟨w',q1,q2,q3,q4⟩:=run_storeAt (P:=Tryz.prog) tk (vok_ptr po') (o:=0) ho.2 (by show 0+1 ≤ 1;exact Nat.le_refl 1)
 refine ⟨w',q1,by rw [q4];exact Nat.le_refl _,?_⟩
 exact hst.turn (w':=w') id (.obj b (.cells #[ptrO po] 159)) (.obj b (.cells #[ptrO po'] 159)) hH' (q3.mono λj _ hj=>by rw [hj];rfl) ⟨ho.1,q2⟩ λj hj=>.inl hj
theorem V.RD.lastSt {P:Program} {f:Fr} {n:Nat} {S:Stops} {R:Ending->World->Prop} {tb:TT} {B0:Nat} {I:World->Prop} {H:Heap} {nx m:Nat} {env:SEnv} {k:List Item} {ops:Array Oper} {i:Nat} {l:List Bool} {G0:Heap} {I0:World->Prop} {ty:TypeId} {ps:String} {af:Array Edge} {gd:Option (Nat × Bool)} {T:TypeId} {px y:Operand} {pa:Addr} {ey:EV} (H':Heap)
  (ho:ops.toList[i]? = some ⟨none,.store T px y,ty,ps,af,gd⟩) (hr:Region.ready .any ops l.toArray=[i]) (hw:wantE env ops gd = .yes) (hf:finB ops i=true) (hl:Region.ready .any ops (l.set i true).toArray=[]) (hx:ptrE (evE env px)=some pa) (hy:evE env y=some ey)
  (hv:∀ w,w.heap.size=m->St tb B0 H I w->∃ w',(storeVar T pa ey.v).run P w = .ok () w'/\w.heap.size ≤ w'.heap.size/\St tb B0 H' I w')
  (hk:∀ m',m ≤ m'->RH P f n tb B0 S R k env H' nx m' I):RD P f n tb B0 S R k ops G0 I0 (0+1) l env H nx m I :=
 let ⟨_,h1,h2⟩:=ptrE_ok hx;RD.last ho hr hw hf (OpGo.store h1 h2 hy hv) nx hl λ_=>hk
theorem wput_spec (wb:Nat) (po:Option Plot) (t:Option Tree) (ht:okO t) (name:Str) (x:Sum) (hn:name.length ≤ 1000) :
  Does Tryz.prog tb 94 [ptrV wb,strV name,sumV x] [(0,wkB wb po)] (λu=>Glob u/\IsO u po t) (λ_:Plot=>.tuple #[]) (λb'=>[(0,wkB wb (some b'))]) (λb'=>Late (λu=>IsO u po t) (λu=>IT u b' (putO t name x))):=by
 refine Does.enter tk [(0,ptrAt wb),(1,strE name),(2,sumE x)] Tryz.func94 rfl Tryz.ntmps94 rfl rfl 1 ?_
 intro B0 m0 K
 refine RH.a [] ?_
 refine RH.w [(1,some (.box m0 [.val (sumV x)] 40))] 13 ?_
 refine RD.a [] ?_
 refine RD.loadS (i:=5) (.av (.val (ptrO po))) rfl (by kernel_rfl) rfl rfl rfl (λu hu=>load_root (hu.holds 0 _ rfl).2) rfl (λ_ h=>h) ?_
 intro m2 hm2
 refine RD.dd 8 [] 4 (λb1:Plot=>ptrAt b1.b) rfl rfl rfl Tryz.call167 (putO_ok po t ht name x hn) (λu hu=>hu.fact.2) ?_
 rintro b1 m3 hm3
 refine RD.a [] ?_
 refine RD.lastSt [(0,wkB wb (some b1)),(1,some (.box m0 [.val (sumV x)] 40))] (i:=12) rfl (by kernel_rfl) rfl (by kernel_rfl) (by kernel_rfl) rfl rfl (λw _ hst=>?_) ?_
 ·obtain ⟨w',q1,q2,q3⟩:=store_root (po':=some b1) hst (id:=0) rfl
  exact ⟨w',q1,q2,q3.out [] rfl rfl λ_ h=>h⟩
 intro m4 hm4
 refine RH.a [] ?_
 refine RH.fin0 Tryz.func94 rfl λw hst=>⟨b1,rfl,hst.out [] rfl rfl λu h=>⟨h.1.1,λv hv hp=>h.2.up (by omega) hv hp⟩⟩
abbrev mapE (po:Option Plot):EV:=.st [.val (ptrO po)]
theorem Many_spec (w:World) (po:Option Plot) (t:Option Tree) (h:IsO w po t):Gives Tryz.prog 25 [(mapE po).v] w (intE (maO t)):=by
 refine enterH tk [(0,mapE po)] Tryz.func25 rfl Tryz.ntmps25 rfl rfl ?_
 cases po with
 | none =>
  cases t with
  | some t=>exact h.elim
  | none =>
   refine RH.a [] ?_
   refine RH.read (.av (.val (.bool (none:Option Addr).isNone))) rfl rfl rfl rfl (λu q _ ha=>opP ha rfl rfl rfl rfl) ?_
   refine RH.a [true] ?_
   refine RH.ret1 Tryz.func25 rfl rfl λu hst=>⟨rfl,hst.fact⟩
 | some L =>
  cases t with
  | none=>exact h.elim
  | some t =>
   have ht:IT w L t:=h
   refine RH.a [] ?_
   refine RH.read (.av (.val (.bool (some (⟨L.b,0,none⟩:Addr)).isNone))) rfl rfl rfl rfl (λu q _ ha=>opP ha rfl rfl rfl rfl) ?_
   refine RH.a [false] ?_
   refine RH.loadS (intE t.many) rfl rfl rfl rfl (λu hu=>V.IT.lmany (YtbfjmimiigjenaaGreatDoor.IT.ext hu.fact ht)) ?_
   refine RH.a [] ?_
   refine RH.ret1 Tryz.func25 rfl rfl λu hst=>⟨rfl,hst.fact⟩
theorem Root_spec (w:World) (hG:Glob w) (po:Option Plot) (t:Option Tree) (h:IsO w po t):Gives Tryz.prog 24 [(mapE po).v] w (sumE (rootO t)):=by
 refine enterH tk [(0,mapE po)] Tryz.func24 rfl Tryz.ntmps24 rfl rfl ?_
 cases po with
 | none =>
  cases t with
  | some t=>exact h.elim
  | none =>
   refine RH.a [] ?_
   refine RH.read (.av (.val (.bool (none:Option Addr).isNone))) rfl rfl rfl rfl (λu q _ ha=>opP ha rfl rfl rfl rfl) ?_
   refine RH.a [true] ?_
   refine RH.gv (sumE (shaW [])) rfl rfl rfl Tryz.call78 (λu hu=>Of_spec u (hG.ext hu.fact) none 0 [] (Sl.void u) (by decide)) ?_
   intro m1 hm1
   refine RH.a [] ?_
   exact RH.retBox tk (sumE (shaW [])) Tryz.func24 rfl rfl rfl rfl λu hu=>⟨rfl,hu.fact⟩
 | some L =>
  cases t with
  | none=>exact h.elim
  | some t =>
   have ht:IT w L t:=h
   refine RH.a [] ?_
   refine RH.read (.av (.val (.bool (some (⟨L.b,0,none⟩:Addr)).isNone))) rfl rfl rfl rfl (λu q _ ha=>opP ha rfl rfl rfl rfl) ?_
   refine RH.a [false] ?_
   refine RH.loadS (sumE t.own) rfl rfl rfl rfl (λu hu=>V.IT.lown (YtbfjmimiigjenaaGreatDoor.IT.ext hu.fact ht)) ?_
   refine RH.a [] ?_
   exact RH.retBox tk (sumE t.own) Tryz.func24 rfl rfl rfl rfl λu hu=>⟨rfl,hu.fact⟩
mutual
def Tree.way:Tree->Plot->Str->List (Plot × Tree × Str)
 | .node s v k,L,name=>(L,.node s v k,name) :: (match cutP s name with
  | some (c :: r)=>k.way L.ps c r
  | _=>[])
def Kids.way:Kids->List Plot->UInt8->Str->List (Plot × Tree × Str)
 | .cons b t r,p :: ps,c,n=>if b=c then t.way p n else r.way ps c n
 | .nil,_,_,_=>[]
 | .cons _ _ _,[],_,_=>[]
end
theorem way_end (s:Str) (v:Option Sum) (k:Kids) (L:Plot):(Tree.node s v k).way L s=[(L,.node s v k,s)]:=by
 have h:=cutP_app s []
 rw [List.append_nil] at h
 simp [Tree.way,h]
theorem way_kid (s:Str) (v:Option Sum) (k:Kids) (L:Plot) (c:UInt8) (r:Str):(Tree.node s v k).way L (s ++ c :: r)=(L,.node s v k,s ++ c :: r) :: k.way L.ps c r:=by
 simp [Tree.way,cutP_app]
theorem way_off {s n:Str} (v:Option Sum) (k:Kids) (L:Plot) (h:∀ r,n ≠ s ++ r):(Tree.node s v k).way L n=[(L,.node s v k,n)]:=by
 simp [Tree.way,cutP_none h]
theorem kway_is:∀ {k:Kids} {ps:List Plot} {c:UInt8} (n:Str),k.wf->ps.length=k.trees.length->isB k.bytes c=true->∃ (h:posB k.bytes c < k.trees.length) (h2:posB k.bytes c < ps.length),k.way ps c n=(k.trees[posB k.bytes c]).way ps[posB k.bytes c] n
 | .nil,ps,c,n,_,_,h=>by simp [isB,Kids.bytes] at h
 | .cons b t r,[],c,n,_,hl,h=>by simp [Kids.trees] at hl
 | .cons b t r,p :: ps,c,n,hw,hl,h=>by
  unfold Kids.wf at hw
  obtain ⟨w1,w2,w3⟩:=hw
  unfold Kids.bytes at h ⊢
  rw [isB_cons] at h
  have hl':ps.length=r.trees.length:=by simpa [Kids.trees] using hl
  by_cases e:b=c
  ·subst e
   have hp:posB (b :: r.bytes) b=0:=by rw [posB_cons,if_neg (by rw [u8_lt];omega)]
   refine ⟨by rw [hp];simp [Kids.trees],by rw [hp];simp,?_⟩
   simp only [hp]
   simp [Kids.way,Kids.trees]
  ·by_cases hb:b < c
   ·rw [if_pos hb] at h
    obtain ⟨h1,h2,h3⟩:=kway_is (k:=r) (ps:=ps) n w2 hl' h
    have hp:posB (b :: r.bytes) c=posB r.bytes c+1:=by rw [posB_cons,if_pos hb]
    refine ⟨by rw [hp];simp [Kids.trees];omega,by rw [hp];simp;omega,?_⟩
    simp only [hp]
    rw [Kids.way,if_neg e,h3]
    simp [Kids.trees]
   ·rw [if_neg hb] at h
    simp [e] at h
theorem kway_not:∀ {k:Kids} {ps:List Plot} {c:UInt8} (n:Str),k.wf->isB k.bytes c=false->k.way ps c n=[]
 | .nil,ps,c,n,_,_=>by cases ps<;>rfl
 | .cons b t r,[],c,n,_,_=>rfl
 | .cons b t r,p :: ps,c,n,hw,h=>by
  unfold Kids.wf at hw
  obtain ⟨w1,w2,w3⟩:=hw
  unfold Kids.bytes at h
  rw [isB_cons] at h
  by_cases hb:b < c
  ·rw [if_pos hb] at h
   rw [Kids.way,if_neg (u8_ne hb)]
   exact kway_not n w2 h
  ·rw [if_neg hb] at h
   have e:¬ b=c:=by simpa using h
   rw [Kids.way,if_neg e]
   refine kway_not n w2 ?_
   cases hi:isB r.bytes c with
   | false=>rfl
   | true =>
    exfalso
    unfold isB at hi
    simp only [Bool.and_eq_true,decide_eq_true_eq] at hi
    have hm:c ∈ r.bytes:=by
     have h2:r.bytes.getD (posB r.bytes c) 0=r.bytes[posB r.bytes c]:=by simp [List.getD,List.getElem?_eq_getElem hi.1]
     rw [h2] at hi
     rw [← hi.2];exact List.getElem_mem _
    exact hb (w3 c hm)
theorem way_facts {u:World}:∀ (n:Nat) {t:Tree} {L:Plot} {name:Str},t.wf->IT u L t->(t.way L name).length ≤ n->∀ z ∈ t.way L name,IT u z.1 z.2.1/\z.2.1.wf
 | 0,.node s v k,L,name,_,_,h=>by simp [Tree.way] at h
 | n+1,.node s v k,L,name,hw,hu,h=>by
  intro z hz
  have hp:=YtbfjmimiigjenaaGreatDoor.IT.part hu
  have hkw:k.wf:=by unfold Tree.wf at hw;exact hw.1
  rcases paC s name with rfl|⟨c,r,rfl⟩|⟨p,b,q,rfl,rfl⟩|⟨p,b,q,c,r,rfl,rfl,hne⟩
  ·rw [way_end] at hz
   simp at hz;subst hz;exact ⟨hu,hw⟩
  ·rw [way_kid] at hz h
   rcases List.mem_cons.1 hz with rfl|hz
   ·exact ⟨hu,hw⟩
   ·have hpl:=hp.kids.len
    rw [k.len] at hpl
    cases hB:isB k.bytes c with
    | false=>rw [kway_not r hkw hB] at hz;cases hz
    | true =>
     obtain ⟨h1,h2,h3⟩:=kway_is r hkw hpl hB
     rw [h3] at hz h
     exact way_facts n (kid_at hkw _ h1 (by rw [k.len];exact h1)).1 (hp.kids.at _ h2 h1) (by simpa using h) z hz
  ·rw [way_off v k L (λr h=>by have:=congrArg List.length h;simp at this)] at hz
   simp at hz;subst hz;exact ⟨hu,hw⟩
  ·rw [way_off v k L (λr' h=>by
    rw [List.append_assoc] at h
    have:=List.append_cancel_left h
    simp at this
    exact hne this.1.symm)] at hz
   simp at hz;subst hz;exact ⟨hu,hw⟩
theorem op_neqPtr {n:Nat} {env:SEnv} {a:Act} (ha:Agree n a (kn env)) {o:Oper} {T':TypeId} {x y:Operand} {u:EV} {p:Option Addr} {w:World} (hop:o.op = .binOp .neq 29 x y T') (hx:evE env x=some u) (hu:u.v = .pointer p) (hy:a.eval y = .pointer none) :
  (execOp a.eval o).run Tryz.prog w = .ok (.value (EV.av (.val (.bool (!p.isNone)))).v) w:=by
 have h:=run_neq_pointer_nil (P:=Tryz.prog) (w:=w) 29 p (by kernel_rfl)
 simp only [execOp,hop,ev_run ha hx,hu,hy]
 have hg:(eqGuard .neq 29 x y (.pointer p) (.pointer none)).run Tryz.prog w = .ok () w:=by
  simp [eqGuard]
 rw [Sem.run_bind,Sem.run_bind,hg,Result.andThen_ok,h]
 rfl
abbrev wayG (bn br:Nat) (L:Plot) (r:Str):Heap:=[(0,some (.box bn [.val (ptrV L.b)] 29)),(1,some (.box br [.val (strV r)] 9))]
def lastG (bn br:Nat) (L:Plot) (name:Str) (xs:List (Plot × Tree × Str)):Heap:=match xs.getLast? with
 | some z=>wayG bn br z.1 z.2.2
 | none=>wayG bn br L name
theorem hasPre_app (s q:Str):hasPre (s ++ q) s=true:=by
 unfold hasPre
 simp
theorem cutS_app (s q:Str):cutS (s ++ q) s=q:=by
 unfold cutS
 rw [if_pos (hasPre_app s q),List.drop_left]
theorem hasPre_not {s n:Str} (h:∀ r,n ≠ s ++ r):hasPre n s=false:=by
 unfold hasPre
 cases hd:(decide (s.length ≤ n.length) && decide (n.take s.length=s)) with
 | false=>rfl
 | true =>
  exfalso
  simp only [Bool.and_eq_true,decide_eq_true_eq] at hd
  exact h (n.drop s.length) (by conv=>lhs;rw [← List.take_append_drop s.length n,hd.2])
theorem way1_spec (bn br:Nat) (L:Plot) (t:Tree) (name:Str) (hw:t.wf) (hn:name.length ≤ 1000) (xs:List (Plot × Tree × Str)) (hxs0:xs=t.way L name) :
  Iter Tryz.prog tb 197 (λY=>[Y,ptrV bn,ptrV br]) (wayG bn br L name) (λu=>IT u L t) xs (λz=>[ptrAt z.1.b,strE z.2.2].map EV.v) (lastG bn br L name xs):=by
 have hN:=Tryz.ntmps197
 refine V.Iter.enter (tb:=tb) (n:=48) (args:=λY=>[Y,ptrV bn,ptrV br]) (Gi:=wayG bn br L name) (pre:=λu=>IT u L t) (xs:=xs) (G':=lastG bn br L name xs) (enc:=λz=>[ptrAt z.1.b,strE z.2.2]) (λl=>[(0,.av (.val (.func (.yield l) #[] #[]))),(1,.av (.box 0 bn 0)),(2,.av (.box 1 br 0))]) Tryz.func197 rfl hN (λ_=>rfl) (λ_=>rfl) 2 ?_
 intro α σ B0 l m Z Zs hZ hY x
 refine RH.adv tk [] rfl rfl trivial ?_
 refine RH.loop (α:=Plot × Tree × Str × Nat × α) (λz=>[(0,.av (.val (.func (.yield l) #[] #[]))),(1,.av (.box 0 bn 0)),(2,.av (.box 1 br 0))]) (λz=>wayG bn br z.1 z.2.2.1)
  (λz u=>Z z.2.2.2.1 z.2.2.2.2 u/\xs.drop z.2.2.2.1=z.2.1.way z.1 z.2.2.1/\z.2.1.wf/\(∀ u,IT u L t->IT u z.1 z.2.1)/\z.2.2.1.length ≤ 1000) (λz=>(z.2.1.way z.1 z.2.2.1).length) (L,t,name,0,x) rfl rfl (λu hu=>⟨hu,hxs0,hw,λ_ h=>h,hn⟩) ?_
 rintro ⟨L',t',r',j,y⟩ m2
 refine RH.pure (λu hu=>hu.2) λ⟨hdr,hw',hsub,hr'⟩=>?_
 dsimp only at hdr hw' hsub hr' ⊢
 obtain ⟨s,v,k⟩:=t'
 have hkw:k.wf:=by unfold Tree.wf at hw';exact hw'.1
 have hcons:∃ xs',(Tree.node s v k).way L' r'=(L',.node s v k,r') :: xs':=by unfold Tree.way;exact ⟨_,rfl⟩
 obtain ⟨xs',hxs⟩:=hcons
 have hj:j < xs.length:=by
  rcases Nat.lt_or_ge j xs.length with h|h
  ·exact h
  ·rw [List.drop_eq_nil_of_le h,hxs] at hdr;cases hdr
 have hget:xs[j]=(L',.node s v k,r'):=by
  have h1:xs.drop j=xs[j] :: xs.drop (j+1):=List.drop_eq_getElem_cons hj
  rw [hdr,hxs] at h1
  injection h1 with h1 _
  exact h1.symm
 have hdr2:xs.drop (j+1)=xs':=by
  have h1:xs.drop j=xs[j] :: xs.drop (j+1):=List.drop_eq_getElem_cons hj
  rw [hdr,hxs] at h1
  injection h1 with _ h1
  exact h1.symm
 refine RH.a [] ?_
 refine RH.read (.av (.val (.bool (!(some (⟨L'.b,0,none⟩:Addr)).isNone)))) rfl rfl rfl rfl (λu q _ ha=>op_neqPtr ha rfl rfl rfl rfl) ?_
 refine RH.a [true] ?_
 refine RH.yield (It:=λy u=>Z (j+1) y u) (If:=λy u=>Zs j y u) rfl rfl rfl rfl rfl (λw hst=>?_) ?_ ?_
 ·have:=hY j hj y _ w (hst.mono λu _ hu=>hu.1)
  rw [hget] at this
  exact this
 ·intro y2 m4 hm4
  have hfact:∀ u,Z (j+1) y2 u->Part u L'.b s v k L'.A L'.c L'.B L'.d L'.ps (Tree.node s v k).many (Tree.node s v k).own:=λu h=>YtbfjmimiigjenaaGreatDoor.IT.part (hsub u (hZ _ _ _ h))
  have hend:xs'=[]->∀ w,St tb B0 (wayG bn br L' r') (Z (j+1) y2) w->∃ y,St tb B0 (lastG bn br L name xs) (Z xs.length y) w:=by
   intro he w hst
   rw [he] at hdr2
   have hlen:xs.length=j+1:=by
    have:=List.drop_eq_nil_iff.1 hdr2
    omega
   have hl2:xs.getLast? = some (L',.node s v k,r'):=by
    rw [List.getLast?_eq_getElem?,hlen,Nat.add_sub_cancel,List.getElem?_eq_getElem hj,hget]
   refine ⟨y2,?_⟩
   unfold lastG
   rw [hl2,hlen]
   exact hst
  refine RH.a [] ?_
  refine RH.draw rfl (wayG bn br L' r') rfl 11 rfl rfl ?_
  refine RD.a [] ?_
  refine RD.ld 4 (strE s) rfl rfl (λw' h=>(hfact w' h).stem) ?_
  refine RD.a [] ?_
  refine RD.gv 5 (cutV r' s) rfl rfl rfl Tryz.call32 (λu _=>CutPre_spec u r' s) ?_
  intro m5 hm5
  refine RD.a [] ?_
  refine RD.done (.inr (by kernel_rfl)) (by kernel_rfl) ?_
  rcases paC s r' with hc|⟨c,q,hc⟩|hc
  ·subst hc
   rw [show cutS r' r'=[] from by have:=cutS_app r' [];rwa [List.append_nil] at this,show hasPre r' r'=true from by have:=hasPre_app r' [];rwa [List.append_nil] at this]
   have hx:xs'=[]:=by rw [way_end] at hxs;injection hxs with _ h;exact h.symm
   refine RH.a [false,true] ?_
   refine RH.ret0 Tryz.func197 rfl λw hst=>⟨⟨_,rfl⟩,.inl (hend hx w (hst.out [] rfl rfl λu h=>h))⟩
  ·subst hc
   rw [cutS_app,hasPre_app]
   refine RH.a [false,false] ?_
   refine RH.pure (λu h=>(⟨(hfact u h).kids.len,(hfact u h).to_.ptr0⟩:L'.ps.length=k.bytes.length/\(L'.ps ≠ []->Ptr L'.B))) λ⟨hpl,hpB⟩=>?_
   have hlb:=kbL hkw
   have hkl:=k.len
   refine RH.tell [(0,.av (.val (.func (.yield l) #[] #[]))),(1,.av (.box 0 bn 0)),(2,.av (.box 1 br 0)),(4,strE (c :: q))] (wayG bn br L' (s ++ c :: q)) [] rfl rfl rfl 2 ?_
   refine RH.draw rfl (wayG bn br L' (s ++ c :: q)) rfl 9 rfl rfl ?_
   refine RD.a [] ?_
   refine RD.gv 3 (.av (.val (.tuple #[intV (posB k.bytes c),.bool (isB k.bytes c)]))) rfl rfl rfl Tryz.call168 (λu hu=>branch_spec L'.b c s v k L'.A L'.c L'.B L'.d L'.ps _ _ u (hfact u hu.fact) hlb) ?_
   intro m6 hm6
   refine RD.a [] ?_
   refine RD.done (.inr (by kernel_rfl)) (by kernel_rfl) ?_
   rw [way_kid] at hxs
   injection hxs with _ hxs
   cases hB:isB k.bytes c with
   | false =>
    have hx:xs'=[]:=by rw [← hxs,kway_not q hkw hB]
    refine RH.a [true] ?_
    refine RH.ret0 Tryz.func197 rfl λw hst=>⟨⟨_,rfl⟩,.inl (hend hx w (hst.out [] rfl rfl λu h=>h))⟩
   | true =>
    obtain ⟨h1,h2,h3⟩:=kway_is (ps:=L'.ps) q hkw (by omega) hB
    have hpos:posB k.bytes c < L'.ps.length:=h2
    refine RH.a [false] ?_
    refine RH.tell [(0,.av (.val (.func (.yield l) #[] #[]))),(1,.av (.box 0 bn 0)),(2,.av (.box 1 br 0)),(4,strE (c :: q)),(6,intE (posB k.bytes c))] (wayG bn br L' (s ++ c :: q)) [] rfl rfl rfl 2 ?_
    refine RH.w [] 11 ?_
    refine RD.a [] ?_
    refine RD.loadS (i:=0) (ptrAt L'.b) rfl (by kernel_rfl) rfl rfl rfl (λu hu=>hu.loadBox (id:=0) (e:=ptrAt L'.b) tk rfl rfl u (Ext.rfl' u)) rfl (λ_ h=>h) ?_
    intro m7 hm7
    refine RD.a [] ?_
    refine RD.ld 3 (slE L'.B L'.ps.length L'.d) rfl rfl (λw' h=>(hfact w' h).lto) ?_
    refine RD.b [] rfl rfl (by simp [hpB (λe=>by rw [e] at hpos;cases hpos)]<;>omega) ?_
    refine RD.ld 6 (ptrAt L'.ps[posB k.bytes c].b) rfl rfl (λw' h=>(hfact w' h).to_.load hpos) ?_
    refine RD.a [] ?_
    refine RD.s 2 9 ?_
    refine RD.a [] ?_
    refine RD.z 10 ?_
    intro m8 hm8
    refine RH.a [] ?_
    refine RH.again (L'.ps[posB k.bytes c],k.trees[posB k.bytes c],q,j+1,y2) (.head _) rfl rfl ?_ λu hu=>⟨hu,?_,?_,?_,?_⟩
    ·dsimp only
     rw [way_kid,List.length_cons,h3];omega
    ·show xs.drop (j+1)=_
     rw [hdr2,← hxs,h3]
    ·exact (kid_at hkw _ h1 (by omega)).1
    ·exact λu hu=>(YtbfjmimiigjenaaGreatDoor.IT.part (hsub u hu)).kids.at _ hpos h1
    ·have:(s ++ c :: q).length ≤ 1000:=hr'
     rw [List.length_append,List.length_cons] at this
     show q.length ≤ 1000
     omega
  ·have hno:∀ q,r' ≠ s ++ q:=by
    rcases hc with ⟨p,b,q,rfl,rfl⟩|⟨p,b,q,c,r,rfl,rfl,hne⟩
    ·intro r h
     have:=congrArg List.length h
     simp at this
    ·intro q' h
     rw [List.append_assoc] at h
     have:=List.append_cancel_left h
     simp at this
     exact hne this.1.symm
   have hx:xs'=[]:=by rw [way_off v k L' hno] at hxs;injection hxs with _ h;exact h.symm
   rw [hasPre_not hno]
   refine RH.a [true] ?_
   refine RH.ret0 Tryz.func197 rfl λw hst=>⟨⟨_,rfl⟩,.inl (hend hx w (hst.out [] rfl rfl λu h=>h))⟩
 ·intro y2 m4 hm4
  refine RH.a [] ?_
  refine RH.fin0 Tryz.func197 rfl λw hst=>⟨⟨_,rfl⟩,.inr ⟨j,_,y2,hj,hst⟩⟩
def hitB (z:Plot × Tree × Str):Bool:=match z.2.1 with
 | .node s v _=>decide (s=z.2.2) && v.isSome
def valO (z:Plot × Tree × Str):Option Sum:=match z.2.1 with
 | .node _ v _=>v
theorem get_way {u:World}:∀ (n:Nat) {t:Tree} {L:Plot} {name:Str},t.wf->IT u L t->(t.way L name).length ≤ n->t.get name=((t.way L name).find? hitB).bind valO
 | 0,.node s v k,L,name,_,_,h=>by simp [Tree.way] at h
 | n+1,.node s v k,L,name,hw,hu,h=>by
  have hp:=YtbfjmimiigjenaaGreatDoor.IT.part hu
  have hkw:k.wf:=by unfold Tree.wf at hw;exact hw.1
  have off:(∀ r,name ≠ s ++ r)->(Tree.node s v k).get name=(((Tree.node s v k).way L name).find? hitB).bind valO:=by
   intro hno
   have hne:¬ s=name:=λe=>hno [] (by rw [List.append_nil];exact e.symm)
   rw [way_off v k L hno,get_off v k hno]
   simp [hitB,hne]
  rcases paC s name with rfl|⟨c,r,rfl⟩|⟨p,b,q,rfl,rfl⟩|⟨p,b,q,c,r,rfl,rfl,hne⟩
  ·rw [way_end,get_here]
   cases v<;>simp [hitB,valO]
  ·rw [way_kid] at h ⊢
   rw [get_kid]
   have hno:hitB (L,Tree.node s v k,s ++ c :: r)=false:=by simp [hitB]
   rw [List.find?_cons_of_neg (by rw [hno];decide)]
   have hpl:=hp.kids.len
   rw [k.len] at hpl
   have hkg:=kget_pos (k:=k) (c:=c) (n:=r) hkw
   cases hB:isB k.bytes c with
   | false=>rw [kway_not r hkw hB,(hkg.2 hB).1];rfl
   | true =>
    obtain ⟨h1,h2,h3⟩:=kway_is (ps:=L.ps) r hkw hpl hB
    obtain ⟨_,h4⟩:=hkg.1 hB
    rw [h3] at h ⊢
    rw [h4]
    exact get_way n (kid_at hkw _ h1 (by rw [k.len];exact h1)).1 (hp.kids.at _ h2 h1) (by simpa using h)
  ·exact off λr h=>by have:=congrArg List.length h;simp at this
  ·exact off λr' h=>by
    rw [List.append_assoc] at h
    have:=List.append_cancel_left h
    simp at this
    exact hne this.1.symm
theorem way_spec (po:Option Plot) (name:Str):Does Tryz.prog tb 123 [ptrO po,strV name] [] (λ_=>True) (λb:Nat × Nat=>.func (.func 197) #[] #[ptrV b.1,ptrV b.2]) (λb=>[(0,some (.box b.1 [.val (ptrO po)] 29)),(1,some (.box b.2 [.val (strV name)] 9))]) (λ_ _ _=>True):=by
 refine Does.enter tk [(0,.av (.val (ptrO po))),(1,strE name)] Tryz.func123 rfl Tryz.ntmps123 rfl rfl 0 ?_
 intro B0 m0 K
 refine RH.a [] ?_
 refine RH.ret1 Tryz.func123 rfl rfl λw hst=>⟨(m0,m0+1),rfl,hst.out [] rfl rfl λu h=>⟨h.1,trivial⟩⟩
abbrev nilG (bn br:Nat) (name:Str):Heap:=[(0,some (.box bn [.val (.pointer none)] 29)),(1,some (.box br [.val (strV name)] 9))]
theorem way1_nil (bn br:Nat) (name:Str) (xs:List (Plot × Tree × Str)) (hxs0:xs=[]):Iter Tryz.prog tb 197 (λY=>[Y,ptrV bn,ptrV br]) (nilG bn br name) (λ_=>True) xs (λz=>[ptrAt z.1.b,strE z.2.2].map EV.v) (nilG bn br name):=by
 have hN:=Tryz.ntmps197
 refine V.Iter.enter (tb:=tb) (n:=48) (args:=λY=>[Y,ptrV bn,ptrV br]) (Gi:=(nilG bn br name)) (pre:=λ_=>True) (β:=Plot × Tree × Str) (xs:=xs) (G':=(nilG bn br name)) (enc:=λz=>[ptrAt z.1.b,strE z.2.2]) (λl=>[(0,.av (.val (.func (.yield l) #[] #[]))),(1,.av (.box 0 bn 0)),(2,.av (.box 1 br 0))]) Tryz.func197 rfl hN (λ_=>rfl) (λ_=>rfl) 2 ?_
 intro α σ B0 l m Z Zs hZ hY x
 subst hxs0
 refine RH.adv tk [] rfl rfl trivial ?_
 refine RH.loop (α:=Unit) (λz=>[(0,.av (.val (.func (.yield l) #[] #[]))),(1,.av (.box 0 bn 0)),(2,.av (.box 1 br 0))]) (λz=>(nilG bn br name))
  (λz u=>Z 0 x u) (λz=>0) () rfl rfl (λu hu=>hu) ?_
 rintro ⟨⟩ m2
 refine RH.a [] ?_
 refine RH.read (.av (.val (.bool (!(none:Option Addr).isNone)))) rfl rfl rfl rfl (λu q _ ha=>op_neqPtr ha rfl rfl rfl rfl) ?_
 refine RH.a [false] ?_
 refine RH.fin0 Tryz.func197 rfl λw hst=>⟨⟨_,rfl⟩,.inl ⟨x,hst.out [] rfl rfl λu h=>h⟩⟩
section
variable {P:Program} {n:Nat} {S:Stops} {R:Ending->World->Prop} {tb:TT} {B0:Nat} {H:Heap} {nx m:Nat} {env:SEnv} {k:List Item}
theorem V.RH.retDBox {g:FuncId} {ds:List Nat} {fn:Func} {t:Tmp} {T:TypeId} {id b:Nat} {fs:List AV} {K:World->Prop} (hk:tb.Ok P) (e:EV) (hf:P.funcs[g]? = some fn) (hr:fn.results = #[.cell t T]) (hl:lookE env t=some (.av (.box id b 0))) (hH:loH H id=some (.box b fs T)) (he:fieldsE tb T e=some fs)
  (hR:∀ w,St tb B0 H K w->R (.returned e.v) w):RH P { fn:=g,ds:=ds } n tb B0 S R (.code .ret :: k) env H nx m (Def tb B0 ds K):=by
 refine RH.retD e.v hf (λw a hst ha=>?_) hR
 refine resultsC hr (by rw [kn_look hl ha];rfl) ?_
 have hh:=hst.holds id _ hH
 obtain ⟨h1,h2⟩:=Fit.vok hk hh.2.2 he
 exact load_whole hk hh h1 h2
end
def getL (xs:List (Plot × Tree × Str)):Option Plot:=(xs.find? hitB).map λz=>z.1
theorem get_some (w:World) (L:Plot) (t:Tree) (name:Str) (hu:IT w L t) (hw:t.wf) (hn:name.length ≤ 1000) (xs:List (Plot × Tree × Str)) (hxs0:xs=t.way L name) :
  Gives Tryz.prog 93 [ptrV L.b,strV name] w (.av (.val (ptrO (getL xs)))):=by
 have hfx:∀ u,Ext w u->∀ z ∈ xs,IT u z.1 z.2.1:=λu he z hz=>by
  rw [hxs0] at hz
  exact (way_facts _ hw (YtbfjmimiigjenaaGreatDoor.IT.ext he hu) (Nat.le_refl _) z hz).1
 refine enterH tk [(0,ptrAt L.b),(1,strE name)] Tryz.func93 rfl Tryz.ntmps93 rfl rfl ?_
 refine RH.a [] ?_
 refine RH.dd [] 3 (λb:Nat × Nat=>.av (.val (.func (.func 197) #[] #[ptrV b.1,ptrV b.2]))) rfl rfl rfl Tryz.call123 (way_spec (some L) name) (λ_ _=>trivial) ?_
 rintro ⟨bn,br⟩ m1 hm1
 refine RH.drop ?_
 refine RH.a [] ?_
 dsimp only
 refine RH.tell [(4,.av (.box 0 w.heap.size 0)),(9,.av (.val (.func (.func 197) #[] #[ptrV bn,ptrV br])))] [(0,some (.box w.heap.size [.val (.pointer none)] 29)),(1,some (.box bn [.val (ptrV L.b)] 29)),(2,some (.box br [.val (strV name)] 9))] [] rfl rfl rfl 12 ?_
 refine RH.defs0 ?_
 refine RH.rangeFunc (β:=Plot × Tree × Str) (α:=Unit) (σ:=Unit) (xs:=xs) (Gi:=wayG bn br L name) (G':=lastG bn br L name xs) (pre:=λu=>IT u L t) (nx:=12) (enc:=λz=>[ptrAt z.1.b,strE z.2.2]) rfl rfl (λxs w=>Tryz.call197 xs w) (way1_spec bn br L t name hw hn xs hxs0) (λ_=>rfl) rfl [(0,1),(1,2)] (λ_ _ _=>rfl) rfl
  [(4,.av (.box 0 w.heap.size 0))] rfl (λu=>Ext w u) (λu h=>h) (λu h=>YtbfjmimiigjenaaGreatDoor.IT.ext h hu)
  (λj (_:Unit)=>[(0,some (.box w.heap.size [.val (.pointer none)] 29))])
  (λj _=>∀ j' (h:j' < xs.length),j' < j->hitB xs[j']=false) () (λ_ _ h=>by cases h) (λ_ _ _=>rfl)
  (λj _=>[(0,some (.box w.heap.size [.val (ptrO (getL xs))] 29))])
  (λj _=>True) .ret ?_ 15 ?_ ?_
 ·rintro j hj ⟨⟩ hp l D tt Kg m5 hKg
  refine RH.a [] ?_
  refine RH.beginRound (id:=12) rfl rfl ?_
  refine RH.a [] ?_
  have hfz:∀ u,Kg u->IT u xs[j].1 xs[j].2.1:=λu h=>hfx u (hKg u h) _ (List.getElem_mem hj)
  have hnext:hitB xs[j]=false->∀ j' (h:j' < xs.length),j' < j+1->hitB xs[j']=false:=λh j' h1 h2=>by
   rcases Nat.lt_or_eq_of_le (Nat.le_of_lt_succ h2) with h3|h3
   ·exact hp j' h1 h3
   ·subst h3;exact h
  have hfound:hitB xs[j]=true->getL xs=some xs[j].1:=λh=>by
   have:xs.find? hitB=some xs[j]:=by
    rw [List.find?_eq_some_iff_getElem]
    exact ⟨h,j,hj,rfl,λj' h'=>by rw [hp j' (by omega) h'];rfl⟩
   unfold getL
   rw [this];rfl
  generalize xs[j]=z at *
  obtain ⟨Lz,tz,rz⟩:=z
  cases tz with
  | node s v k =>
  dsimp only at hfz hfound
  refine RH.loadS (strE s) rfl rfl rfl rfl (λu hu=>(YtbfjmimiigjenaaGreatDoor.IT.part (hfz u hu.fact)).stem) ?_
  by_cases hs:s=rz
  ·refine RH.adv tk [true] rfl rfl (by simp [hs]<;>omega) ?_
   refine RH.loadS (boE v.isSome) rfl rfl rfl rfl (λu hu=>(YtbfjmimiigjenaaGreatDoor.IT.part (hfz u hu.fact)).has) ?_
   cases hv:v.isSome with
   | true =>
    have hg:=hfound (by simp [hitB,hs,hv])
    refine RH.a [true] ?_
    rw [hg]
    refine RH.leave (.ret _) λu hst=>⟨rfl,(),trivial,hst.out [] rfl rfl λu h=>h⟩
   | false =>
    have hh:=hnext (by simp [hitB,hv])
    refine RH.a [false] ?_
    refine RH.leave .fin λu hst=>⟨(),hh,hst.out [] rfl rfl λu h=>h⟩
  ·have hh:=hnext (by simp [hitB,hs])
   refine RH.adv tk [false] rfl rfl (by simp [hs]<;>omega) ?_
   refine RH.leave .fin λu hst=>⟨(),hh,hst.out [] rfl rfl λu h=>h⟩
 ·rintro ⟨⟩ D m2 hp
  have hnone:getL xs=none:=by
   have:xs.find? hitB=none:=List.find?_eq_none.2 λz hz=>by
    obtain ⟨i,hi,rfl⟩:=List.getElem_of_mem hz
    rw [hp i hi hi];decide
   unfold getL
   rw [this];rfl
  rw [hnone]
  refine RH.a [] ?_
  refine V.RH.retDBox tk (.av (.val (ptrO none))) Tryz.func93 rfl rfl rfl rfl λu hst=>⟨rfl,hst.fact⟩
 ·rintro i hi ⟨⟩ D m2 _
  refine V.RH.retDBox tk (.av (.val (ptrO (getL xs)))) Tryz.func93 rfl rfl rfl rfl λu hst=>⟨rfl,hst.fact⟩
theorem get_none (w:World) (name:Str) (xs:List (Plot × Tree × Str)) (hxs0:xs=[]):Gives Tryz.prog 93 [.pointer none,strV name] w (.av (.val (.pointer none))):=by
 refine enterH tk [(0,.av (.val (.pointer none))),(1,strE name)] Tryz.func93 rfl Tryz.ntmps93 rfl rfl ?_
 refine RH.a [] ?_
 refine RH.dd [] 3 (λb:Nat × Nat=>.av (.val (.func (.func 197) #[] #[ptrV b.1,ptrV b.2]))) rfl rfl rfl Tryz.call123 (way_spec none name) (λ_ _=>trivial) ?_
 rintro ⟨bn,br⟩ m1 hm1
 refine RH.drop ?_
 refine RH.a [] ?_
 dsimp only
 refine RH.tell [(4,.av (.box 0 w.heap.size 0)),(9,.av (.val (.func (.func 197) #[] #[ptrV bn,ptrV br])))] [(0,some (.box w.heap.size [.val (.pointer none)] 29)),(1,some (.box bn [.val (.pointer none)] 29)),(2,some (.box br [.val (strV name)] 9))] [] rfl rfl rfl 12 ?_
 refine RH.defs0 ?_
 refine RH.rangeFunc (β:=Plot × Tree × Str) (α:=Unit) (σ:=Unit) (xs:=xs) (Gi:=nilG bn br name) (G':=nilG bn br name) (pre:=λ_=>True) (nx:=12) (enc:=λz=>[ptrAt z.1.b,strE z.2.2]) rfl rfl (λxs w=>Tryz.call197 xs w) (way1_nil bn br name xs hxs0) (λ_=>rfl) rfl [(0,1),(1,2)] (λ_ _ _=>rfl) rfl
  [(4,.av (.box 0 w.heap.size 0))] rfl (λu=>Ext w u) (λu h=>h) (λu h=>trivial)
  (λj (_:Unit)=>[(0,some (.box w.heap.size [.val (.pointer none)] 29))])
  (λj _=>True) () trivial (λ_ _ _=>rfl)
  (λj _=>[(0,some (.box w.heap.size [.val (.pointer none)] 29))])
  (λj _=>True) .ret ?_ 15 ?_ ?_
 ·rintro j hj ⟨⟩ hp l D tt Kg m5 hKg
  rw [hxs0] at hj;cases hj
 ·rintro ⟨⟩ D m2 hp
  refine RH.a [] ?_
  refine V.RH.retDBox tk (.av (.val (.pointer none))) Tryz.func93 rfl rfl rfl rfl λu hst=>⟨rfl,hst.fact⟩
 ·rintro i hi ⟨⟩ D m2 _
  refine V.RH.retDBox tk (.av (.val (.pointer none))) Tryz.func93 rfl rfl rfl rfl λu hst=>⟨rfl,hst.fact⟩
def findO:Option Plot->Option Tree->Str->Option Plot
 | some L,some t,name=>getL (t.way L name)
 | _,_,_=>none
theorem get_ok (w:World) (po:Option Plot) (t:Option Tree) (h:IsO w po t) (ht:okO t) (name:Str) (hn:name.length ≤ 1000):Gives Tryz.prog 93 [ptrO po,strV name] w (.av (.val (ptrO (findO po t name)))):=by
 cases po with
 | none =>
  cases t with
  | none=>exact get_none w name [] rfl
  | some t=>exact h.elim
 | some L =>
  cases t with
  | none=>exact h.elim
  | some t=>exact get_some w L t name h ht.1 hn _ rfl
theorem findO_spec {w:World} {po:Option Plot} {t:Option Tree} (h:IsO w po t) (ht:okO t) (name:Str) :
  match findO po t name with
  | none=>getO t name=none
  | some L=>∃ s v k,IT w L (.node s (some v) k)/\getO t name=some v:=by
 cases po with
 | none =>
  cases t with
  | none=>rfl
  | some t=>exact h.elim
 | some L =>
  cases t with
  | none=>exact h.elim
  | some t =>
   have hu:IT w L t:=h
   have h1:=get_way _ ht.1 hu (Nat.le_refl (t.way L name).length)
   have h2:=way_facts _ ht.1 hu (Nat.le_refl (t.way L name).length)
   show match getL (t.way L name) with
    | none=>t.get name=none
    | some L=>∃ s v k,IT w L (.node s (some v) k)/\t.get name=some v
   unfold getL
   cases hf:(t.way L name).find? hitB with
   | none=>rw [hf] at h1;exact h1
   | some z =>
    rw [hf] at h1
    have hz:=h2 z (List.mem_of_find?_eq_some hf)
    have hb:=List.find?_some hf
    obtain ⟨Lz,tz,rz⟩:=z
    cases tz with
    | node s v k =>
     cases v with
     | none=>simp [hitB] at hb
     | some v=>exact ⟨s,v,k,hz.1,h1⟩
theorem Put_long (w:World) (po:Option Plot) (name:Str) (x:Sum) (hn:60 < name.length) (hb:name.length ≤ 1000):Gives Tryz.prog 20 [(mapE po).v,strV name,sumV x] w (.av (.val (.tuple #[.agg #[.pointer none],intV 11]))):=by
 refine enterH tk [(0,mapE po),(1,strE name),(2,sumE x)] Tryz.func20 rfl Tryz.ntmps20 rfl rfl ?_
 refine RH.a [true] ?_
 exact RH.retBoxT tk (.st [.val (.pointer none)]) Tryz.func20 rfl rfl rfl rfl rfl λw' hst=>⟨rfl,hst.fact⟩
theorem Put_full (w:World) (po:Option Plot) (t:Option Tree) (h:IsO w po t) (ht:okO t) (name:Str) (x:Sum) (hn:name.length ≤ 60) (hf:findO po t name=none) (hm:maO t=600):Gives Tryz.prog 20 [(mapE po).v,strV name,sumV x] w (.av (.val (.tuple #[.agg #[.pointer none],intV 12]))):=by
 refine enterH tk [(0,mapE po),(1,strE name),(2,sumE x)] Tryz.func20 rfl Tryz.ntmps20 rfl rfl ?_
 refine RH.a [false] ?_
 refine RH.gv (.av (.val (ptrO (findO po t name)))) rfl rfl rfl Tryz.call93 (λu hu=>get_ok u po t (h.ext hu.fact) ht name (by omega)) ?_
 intro m1 hm1
 rw [hf]
 refine RH.read (.av (.val (.bool (none:Option Addr).isNone))) rfl rfl rfl rfl (λu q _ ha=>opP ha rfl rfl rfl rfl) ?_
 refine RH.a [true] ?_
 refine RH.gv (intE (maO t)) rfl rfl rfl Tryz.call25 (λu hu=>Many_spec u po t (h.ext hu.fact)) ?_
 intro m2 hm2
 rw [hm]
 refine RH.a [true] ?_
 exact RH.retBoxT tk (.st [.val (.pointer none)]) Tryz.func20 rfl rfl rfl rfl rfl λw' hst=>⟨rfl,hst.fact⟩
theorem Put_ok (po:Option Plot) (t:Option Tree) (ht:okO t) (name:Str) (x:Sum) (hn:name.length ≤ 60) (hok:(findO po t name).isSome=true ∨ maO t ≠ 600) :
  Does Tryz.prog tb 20 [(mapE po).v,strV name,sumV x] [] (λu=>Glob u/\IsO u po t) (λL':Plot=>.tuple #[.agg #[ptrV L'.b],intV 0]) (λ_=>[]) (λL'=>Late (λu=>IsO u po t) (λu=>IT u L' (putO t name x))):=by
 refine V.Does.enter0 [(0,mapE po),(1,strE name),(2,sumE x)] Tryz.func20 rfl Tryz.ntmps20 rfl rfl 0 ?_
 intro m0 K
 refine RH.a [false] ?_
 refine RH.gv (.av (.val (ptrO (findO po t name)))) rfl rfl rfl Tryz.call93 (λu hu=>get_ok u po t hu.fact.2.2 ht name (by omega)) ?_
 intro m1 hm1
 apply RH.joinK (α:=Unit) (λ_=>[(1,strE name),(5,.av (.box 1 (m0+1) 0)),(6,.av (.box 2 (m0+2) 0)),(26,mapE po)]) (λ_=>[(1,some (.box (m0+1) [.val (sumV x)] 40)),(2,some (.box (m0+2) [.val (.pointer none)] 31))]) (λ_ u=>K u/\Glob u/\IsO u po t)
 ·cases hf:findO po t name with
  | none =>
   have hm:¬ maO t=600:=by
    rcases hok with h|h
    ·rw [hf] at h;cases h
    ·exact h
   refine RH.read (.av (.val (.bool (none:Option Addr).isNone))) rfl rfl rfl rfl (λu q _ ha=>opP ha rfl rfl rfl rfl) ?_
   refine RH.a [true] ?_
   refine RH.gv (intE (maO t)) rfl rfl rfl Tryz.call25 (λu hu=>Many_spec u po t hu.fact.2.2) ?_
   intro m2 hm2
   refine RH.adv tk [false] rfl rfl (by simp [hm]<;>omega) ?_
   exact RH.mtS () [] (.head _) rfl rfl rfl λu h=>h
  | some L =>
   refine RH.read (.av (.val (.bool (some (⟨L.b,0,none⟩:Addr)).isNone))) rfl rfl rfl rfl (λu q _ ha=>opP ha rfl rfl rfl rfl) ?_
   refine RH.a [false] ?_
   exact RH.mtS () [] (.head _) rfl rfl rfl λu h=>h
 rintro ⟨⟩ m2
 refine RH.toNx 3 ?_
 refine RH.above (id:=2) rfl rfl λhz1 hz2=>?_
 refine RH.read (.st [.val (.agg #[ptrO po])]) rfl rfl rfl rfl (λu q _ ha=>?_) ?_
 ·have h1:q.eval (.tmp 26)=(mapE po).v:=ev_run (e:=mapE po) ha rfl
  have hb:(Instr.build 159 #[(0,(mapE po).v)]).run Tryz.prog u = .ok (EV.st [.val (.agg #[ptrO po])]).v u:=by
   refine run_build u _ _ _ ?_
   kernel_rfl
  simp only [execOp,List.map_toArray,List.map_cons,List.map_nil,h1,hb,Sem.run_bind,Result.andThen_ok,Sem.run_pure]
 have hz31:(Tryz.t31).size=1:=by kernel_rfl
 refine RH.adv tk [] rfl rfl (by simp [hz31,Value.oneCell']<;>omega) ?_
 refine RH.boxObj (id:=3) #[ptrO po] rfl rfl ?_
 refine RH.dd [(0,3)] 5 (λ_:Plot=>.av (.val (.tuple #[]))) rfl rfl rfl Tryz.call94 (wput_spec m2 po t ht name x (by omega)) (λu hu=>hu.fact.2) ?_
 rintro b' m3 hm3
 refine RH.a [] ?_
 refine RH.loadS (mapE (some b')) rfl rfl rfl rfl (λu hu=>?_) ?_
 ·refine V.run_load tk ⟨_,Tryz.t31,rfl,rfl,rfl,?_⟩ (range_of_blk (hu.holds 3 _ rfl).2 (o:=0) (l:=[ptrO (some b')]) λj v hv=>?_)
  ·intro z hz;cases hz with
   | head=>rfl
   | tail _ h=>cases h
  ·rw [Nat.zero_add];exact hv
 refine RH.a [] ?_
 exact RH.retBoxT tk (mapE (some b')) Tryz.func20 rfl rfl rfl rfl rfl λw' hst=>⟨b',rfl,hst.out [] rfl rfl λu h=>⟨h.1.1,λv hv hp=>h.2.up (by omega) hv hp⟩⟩
theorem Get_spec (w:World) (po:Option Plot) (t:Option Tree) (h:IsO w po t) (ht:okO t) (name:Str) (hn:name.length ≤ 1000) :
  Gives Tryz.prog 33 [(mapE po).v,strV name] w (.av (.val (.tuple #[sumV ((getO t name).getD Sum.zero),intV (if (getO t name).isSome=true then 0 else 6)]))):=by
 have hs:=findO_spec h ht name
 refine enterH tk [(0,mapE po),(1,strE name)] Tryz.func33 rfl Tryz.ntmps33 rfl rfl ?_
 refine RH.a [] ?_
 refine RH.gv (.av (.val (ptrO (findO po t name)))) rfl rfl rfl Tryz.call93 (λu hu=>get_ok u po t (h.ext hu.fact) ht name hn) ?_
 intro m1 hm1
 cases hf:findO po t name with
 | none =>
  rw [hf] at hs
  have hs2:getO t name=none:=hs
  rw [hs2]
  refine RH.a [] ?_
  refine RH.read (.av (.val (.bool (none:Option Addr).isNone))) rfl rfl rfl rfl (λu q _ ha=>opP ha rfl rfl rfl rfl) ?_
  refine RH.a [true] ?_
  refine RH.read (sumE Sum.zero) rfl rfl rfl rfl (λw' a _ hag=>?_) ?_
  ·simp only [execOp,List.map_toArray,List.map_nil,buZ,Sem.run_bind,Result.andThen_ok,Sem.run_pure]
   rfl
  refine RH.a [] ?_
  exact RH.retBoxT tk (sumE Sum.zero) Tryz.func33 rfl rfl rfl rfl rfl λw' hst=>⟨rfl,hst.fact⟩
 | some L =>
  rw [hf] at hs
  obtain ⟨s,v,k,hL,hg⟩:=hs
  rw [hg]
  refine RH.a [] ?_
  refine RH.read (.av (.val (.bool (some (⟨L.b,0,none⟩:Addr)).isNone))) rfl rfl rfl rfl (λu q _ ha=>opP ha rfl rfl rfl rfl) ?_
  refine RH.a [false] ?_
  refine RH.loadS (sumE v) rfl rfl rfl rfl (λu hu=>(YtbfjmimiigjenaaGreatDoor.IT.part (YtbfjmimiigjenaaGreatDoor.IT.ext hu.fact hL)).sum) ?_
  refine RH.a [] ?_
  exact RH.retBoxT tk (sumE v) Tryz.func33 rfl rfl rfl rfl rfl λw' hst=>⟨rfl,hst.fact⟩
theorem entries_nil (beg:Str):Does Tryz.prog tb 97 [.pointer none,strV beg] [] (λ_=>True) (λ_:Unit=>.slice none 0 0) (λ_=>[]) (λ_ _ _=>True):=by
 refine Does.enter tk [(0,.av (.val (.pointer none))),(1,strE beg)] Tryz.func97 rfl Tryz.ntmps97 rfl rfl 0 ?_
 intro B0 m0 K
 refine RH.a [] ?_
 refine RH.read (.av (.val (.bool (none:Option Addr).isNone))) rfl rfl rfl rfl (λu q _ ha=>opP ha rfl rfl rfl rfl) ?_
 refine RH.a [true] ?_
 refine RH.ret1 Tryz.func97 rfl rfl λw hst=>⟨(),rfl,hst.out [] rfl rfl λu h=>⟨h.1,trivial⟩⟩
theorem entries_O (po:Option Plot) (t:Option Tree) (N:Nat) (ht:okO t) (hl:lowO N t) (hN:N ≤ 1000) :
  Does Tryz.prog tb 97 [ptrO po,strV []] [] (λu=>IsO u po t) (λy:Option Addr × Nat=>.slice y.1 (enO t).length y.2) (λy=>[(0,rowE kEnt y.1 y.2 (enO t))]) (λ_ _ _=>True):=by
 cases po with
 | none =>
  cases t with
  | none =>
   intro B0 w K hst hp
   refine (entries_nil [] B0 w K hst λ_ _=>trivial).mono ?_
   rintro r w' ⟨⟨⟩,hr,h2⟩
   exact ⟨(none,0),hr,h2.nilrow 0 kEnt⟩
  | some t =>
   intro B0 w K hst hp
   exact ((hp w hst.fact)).elim
 | some L =>
  cases t with
  | none =>
   intro B0 w K hst hp
   exact ((hp w hst.fact)).elim
  | some t=>exact entries_ok t L [] N ht.1 hl (by simpa using hN) (by rw [many_ents];exact ht.2.2)
theorem TNames_spec (po:Option Plot) (t:Option Tree) (N:Nat) (ht:okO t) (hl:lowO N t) (hN:N ≤ 1000) :
  Does Tryz.prog tb 29 [(mapE po).v] [] (λu=>IsO u po t) (λy:Option Addr × Nat=>.slice y.1 ((enO t).map Prod.fst).length y.2) (λy=>[(0,rowE kStr y.1 y.2 ((enO t).map Prod.fst))]) (λ_ _ _=>True):=by
 have hlim:lim=140737488351232:=rfl
 have hml:(enO t).length ≤ 900000000:=by
  cases t with
  | none=>simp [enO]
  | some t=>show (t.ents []).length ≤ _;rw [many_ents];exact ht.2.2
 refine Does.enter tk [(0,mapE po)] Tryz.func29 rfl Tryz.ntmps29 rfl rfl 0 ?_
 intro B0 m0 K
 refine RH.a [] ?_
 refine RH.dd [] 10 (λy:Option Addr × Nat=>rowS 1 y.1 (enO t).length y.2) rfl rfl rfl Tryz.call97 (entries_O po t N ht hl hN) (λu hu=>hu.fact.2) ?_
 rintro ⟨A1,c1⟩ m1 hm1
 refine RH.drop ?_
 refine RH.a [] ?_
 dsimp only
 generalize enO t=l at *
 refine RH.nilrow 50 kStr.T kStr.sz 51 ?_
 refine RH.loop (α:=Nat × (Option Addr × Nat)) (λy=>[(8,rowS 1 A1 l.length c1),(9,intE l.length),(10,intE y.1),(3,rowS 50 y.2.1 ((l.take y.1).map Prod.fst).length y.2.2)]) (λy=>[(1,rowE kEnt A1 c1 l),(50,rowE kStr y.2.1 y.2.2 ((l.take y.1).map Prod.fst))]) (λy u=>K u/\y.1 ≤ l.length) (λy=>l.length - y.1) (0,(none,0)) rfl rfl (λu hu=>⟨hu.1,Nat.zero_le _⟩) ?_
 rintro ⟨i,A2,c2⟩ m2
 refine RH.pure (λu hu=>hu.2) λhi=>?_
 dsimp only at hi ⊢
 by_cases hlt:i < l.length
 ·have hts:(l.take (i+1)).map Prod.fst=(l.take i).map Prod.fst ++ [l[i].1]:=by rw [List.take_succ_eq_append_getElem hlt,List.map_append];rfl
  refine RH.pureS (λu hu=>hu.ptr (id:=1) (κ:=kEnt) (l:=l) rfl (by intro e;rw [e] at hlt;cases hlt)) λhptr=>?_
  refine RH.adv tk [true] rfl rfl (by simp [hptr]<;>omega) ?_
  refine RH.loadS (.st [.val (strV l[i].1),.val (sumV l[i].2)]) rfl rfl rfl rfl (λu hu=>(Sl.own (B:=B0) (hu.row (κ:=kEnt) (l:=l) (id:=1) rfl) (by omega)).load hlt) ?_
  refine RH.a [] ?_
  refine RH.apK (κ:=kStr) (id:=50) (l:=(l.take i).map Prod.fst) (r:=[l[i].1]) rfl rfl rfl rfl rfl rfl elt_str rfl rfl (λu hu=>hu.liR (κ:=kStr) (l:=[l[i].1]) (id:=52) rfl (by simp [hlim])) (by simp;omega) (by simp [hlim];omega) ?_
  intro A3 c3 m3 hm3
  rw [← hts]
  refine RH.a [] ?_
  exact RH.again (i+1,(A3,c3)) (.head _) rfl rfl (by show l.length - (i+1) < l.length - i;omega) λu hu=>⟨hu.1,hlt⟩
 ·have hi':i=l.length:=by omega
  subst hi'
  rw [List.take_length]
  refine RH.a [false] ?_
  refine RH.ret1 Tryz.func29 rfl rfl λw hst=>⟨(A2,c2),rfl,hst.out [(0,50)] rfl rfl λu h=>⟨h.1,trivial⟩⟩
def fromO (l:List (Str × Sum)):Option Tree:=l.foldl (λt e=>some (putO t e.1 e.2)) none
theorem fromO_succ (l:List (Str × Sum)) (e:Str × Sum):fromO (l ++ [e])=some (putO (fromO l) e.1 e.2):=by
 unfold fromO;rw [List.foldl_append];rfl
theorem from_spec (A:Option Addr) (c:Nat) (l:List (Str × Sum)) (hn:∀ e ∈ l,e.1.length ≤ 1000) (hok:∀ i,okO (fromO (l.take i))) :
  Does Tryz.prog tb 92 [.slice A l.length c] [] (λu=>Glob u/\Sl kEnt u A c l) (λpo:Option Plot=>.agg #[ptrO po]) (λ_=>[]) (λpo=>Late (λ_=>True) (λu=>IsO u po (fromO l))):=by
 have hlim:lim=140737488351232:=rfl
 refine V.Does.enter0 [(0,slE A l.length c)] Tryz.func92 rfl Tryz.ntmps92 rfl rfl 0 ?_
 intro m0 K
 have hz31:(Tryz.t31).size=1:=by kernel_rfl
 refine RH.adv tk [] rfl rfl (by simp [hz31,Value.oneCell']<;>omega) ?_
 refine RH.pure (λu hu=>hu.2.2.small) λhsm=>?_
 refine RH.boxObj (id:=1) #[ptrO none] rfl rfl ?_
 refine RH.loop (α:=Nat × Option Plot) (λy=>[(2,.av (.box 0 m0 0)),(3,ptrAt (m0+1)),(4,.av (.val (.func (.func 94) #[ptrV (m0+1)] #[]))),(8,slE A l.length c),(9,intE l.length),(10,intE y.1)]) (λy=>[(0,some (.box m0 [.val (.pointer none)] 31)),(1,wkB (m0+1) y.2)])
  (λy u=>(K u/\Glob u/\Sl kEnt u A c l)/\y.1 ≤ l.length/\Late (λ_=>True) (λu=>IsO u y.2 (fromO (l.take y.1))) m0 u) (λy=>l.length - y.1) (0,none) rfl rfl (λu hu=>⟨hu,Nat.zero_le _,λv _ _=>trivial⟩) ?_
 rintro ⟨i,po⟩ m2
 refine RH.pure (λu hu=>hu.2.1) λhi=>?_
 dsimp only at hi ⊢
 refine RH.above (id:=0) rfl rfl λhz1 hz2=>?_
 by_cases hlt:i < l.length
 ·have hts:l.take (i+1)=l.take i ++ [l[i]]:=List.take_succ_eq_append_getElem hlt
  refine RH.pure (λu hu=>hu.1.2.2.ptr hlt) λhptr=>?_
  refine RH.adv tk [true] rfl rfl (by simp [hptr]<;>omega) ?_
  refine RH.loadS (.st [.val (strV l[i].1),.val (sumV l[i].2)]) rfl rfl rfl rfl (λu hu=>hu.fact.1.2.2.load hlt) ?_
  refine RH.a [] ?_
  refine RH.dd [(0,1)] 20 (λ_:Plot=>.av (.val (.tuple #[]))) rfl rfl rfl Tryz.call94 (wput_spec (m0+1) po _ (hok i) l[i].1 l[i].2 (hn _ (List.getElem_mem hlt))) (λu hu=>⟨hu.fact.1.2.1,hu.fact.2.2.now trivial⟩) ?_
  rintro b' m3 hm3
  refine RH.a [] ?_
  refine RH.again (i+1,some b') (.head _) rfl rfl (by show l.length - (i+1) < l.length - i;omega) λu hu=>⟨hu.1.1,hlt,?_⟩
  dsimp only
  rw [hts,fromO_succ]
  exact λv hv _=>hu.2.up (by omega) hv (hu.1.2.2 v hv trivial)
 ·have hi':i=l.length:=by omega
  subst hi'
  rw [List.take_length]
  refine RH.a [false] ?_
  refine RH.loadS (mapE po) rfl rfl rfl rfl (λu hu=>?_) ?_
  ·refine V.run_load tk ⟨_,Tryz.t31,rfl,rfl,rfl,?_⟩ (range_of_blk (hu.holds 1 _ rfl).2 (o:=0) (l:=[ptrO po]) λj v hv=>?_)
   ·intro z hz;cases hz with
    | head=>rfl
    | tail _ h=>cases h
   ·rw [Nat.zero_add];exact hv
  refine RH.a [] ?_
  exact RH.retBox tk (mapE po) Tryz.func92 rfl rfl rfl rfl λw' hst=>⟨po,rfl,hst.out [] rfl rfl λu h=>⟨h.1.1,h.2.2⟩⟩
mutual
theorem thin_low:∀ (t:Tree) (N:Nat),t.wf->t.low N->t.thin N
 | .node s v k,N,hw,hl=>by
  have hk:k.wf:=by unfold Tree.wf at hw;exact hw.1
  unfold Tree.thin
  exact ⟨low_stem hw hl,kids_thin_low k N hk λi h=>low_kid hw hl i h⟩
theorem kids_thin_low:∀ (k:Kids) (N:Nat),k.wf->(∀ i (h:i < k.trees.length),(k.trees[i]).low N)->k.thin N
 | .nil,_,_,_=>by unfold Kids.thin;trivial
 | .cons b t r,N,hw,h=>by
  unfold Kids.wf at hw
  unfold Kids.thin
  exact ⟨thin_low t N hw.1 (h 0 (by simp [Kids.trees])),kids_thin_low r N hw.2.1 λi hi=>h (i+1) (by simpa [Kids.trees] using hi)⟩
end
theorem thin_up:∀ (t:Tree) (N:Nat),t.wf->t.low N->N ≤ 1000->t.thin 1000:=λt N hw hl hN=>thin_low t 1000 hw λn x hx=>Nat.le_trans (hl n x hx) hN
theorem okO_of {t:Option Tree} {N:Nat} (hw:wfO t) (hl:lowO N t) (hN:N ≤ 1000) (hm:maO t ≤ 900000000):okO t:=by
 cases t with
 | none=>trivial
 | some t=>exact ⟨hw,thin_up t N hw hl hN,hm⟩
theorem from_step {N:Nat}:∀ (l:List (Str × Sum)) (t:Option Tree),wfO t->lowO N t->(∀ e ∈ l,e.1.length ≤ N)->wfO (l.foldl (λt e=>some (putO t e.1 e.2)) t)/\lowO N (l.foldl (λt e=>some (putO t e.1 e.2)) t)/\maO (l.foldl (λt e=>some (putO t e.1 e.2)) t) ≤ maO t+l.length
 | [],t,hw,hl,_=>⟨hw,hl,Nat.le_refl _⟩
 | e :: l,t,hw,hl,h=>by
  rw [List.foldl_cons]
  have h1:=from_step l (some (putO t e.1 e.2)) (putO_wf hw e.1 e.2) (putO_low hw hl (h e (.head _)) e.2) λz hz=>h z (.tail _ hz)
  refine ⟨h1.1,h1.2.1,?_⟩
  have h2:=putO_many hw e.1 e.2
  have h3:=h1.2.2
  rw [List.length_cons]
  split at h2<;>omega
theorem from_okO {N:Nat} (l:List (Str × Sum)) (hN:N ≤ 1000) (h:∀ e ∈ l,e.1.length ≤ N) (hm:l.length ≤ 900000000) (i:Nat):okO (fromO (l.take i)):=by
 have h1:=from_step (N:=N) (l.take i) none trivial (λn x hx=>by cases hx) λe he=>h e (List.mem_of_mem_take he)
 refine okO_of h1.1 h1.2.1 hN ?_
 have:(l.take i).length ≤ l.length:=by rw [List.length_take];omega
 have h2:maO (fromO (l.take i)) ≤ maO none+(l.take i).length:=h1.2.2
 have h3:maO none=0:=rfl
 omega
end Go.Proofs.YtbfjmimiigjenaaGreatDoor
namespace Go.Proofs.YtbfjmimiigjenaaGreatDoor
open Go V
theorem run_slice3B (w:World) (A:Option Addr) (n c:Nat) (lo hi mx:Int) (h0:0 ≤ lo) (h1:lo ≤ hi) (h2:hi ≤ mx) (h3:mx ≤ c) :
  (Instr.slice 22 (.slice A n c) (some (.int .i64 lo)) (some (.int .i64 hi)) (some (.int .i64 mx))).run Tryz.prog w = .ok (.slice (if mx.toNat=lo.toNat then A else A.map (·.add (lo.toNat*1))) (hi.toNat - lo.toNat) (mx.toNat - lo.toNat)) w:=by
 have hu:(underlying 22).run Tryz.prog w = .ok (.slice 5) w:=run_underlying (tk.und rfl) w
 have hsz:(sizeOf 5).run Tryz.prog w = .ok 1 w:=run_tsize tk (i:=Tryz.t5) rfl
 have h4:max mx 0=mx:=by omega
 have h5:max hi 0=hi:=by omega
 simp [Instr.slice,Instr.sliceBounds,Instr.sliceBound,hu,hsz,asIntOf,h0,h1,h2,h3,h4,h5,show (0:Int) ≤ hi by omega,show (0:Int) ≤ mx by omega]
theorem DeleteB_spec (A:Option Addr) (c:Nat) (l:List UInt8) (i:Nat) (hi:i < l.length) (hn:l.length ≤ 1000000) :
  Does Tryz.prog tb 170 [.slice A l.length c,intV i,intV ((i:Int)+1)] [(0,rowE kBy A c l)] (λ_=>True) (λ_:Unit=>.slice A (l.eraseIdx i).length c) (λ_=>[(0,rowE kBy A c (l.eraseIdx i))]) (λ_ _ _=>True):=by
 have hl:lim=140737488351232:=rfl
 refine Does.enter tk [(0,rowS 0 A l.length c),(1,intE i),(2,intE ((i:Int)+1))] Tryz.func170 rfl Tryz.ntmps170 rfl rfl 1 ?_
 intro B0 m0 K
 refine RH.raw (id:=0) rfl (by omega) ?_
 intro g cap cur hv hc hmx hcs ht
 injection hv with h1 h2 h3
 subst h1;subst h3
 refine RH.a [] ?_
 refine RH.read (.av (.val (.slice (if (l.length:Int).toNat=(i:Int).toNat then some ⟨g,0,none⟩ else (some (⟨g,0,none⟩:Addr)).map (·.add ((i:Int).toNat*1))) (((i:Int)+1).toNat - (i:Int).toNat) ((l.length:Int).toNat - (i:Int).toNat)))) rfl rfl rfl rfl (λw a _ ha=>?_) ?_
 ·have e8:a.eval (.tmp 8) = .slice (some ⟨g,0,none⟩) l.length c:=ev_run (e:=rowS 0 (some ⟨g,0,none⟩) l.length c) ha rfl
  have e9:a.eval (.tmp 9) = .int .i64 i:=ev_run (e:=intE i) ha rfl
  have e10:a.eval (.tmp 10) = .int .i64 ((i:Int)+1):=ev_run (e:=intE ((i:Int)+1)) ha rfl
  have e12:a.eval (.tmp 12) = .int .i64 l.length:=ev_run (e:=intE l.length) ha rfl
  have hu:(underlying 22).run Tryz.prog w = .ok (.slice 5) w:=run_underlying (tk.und rfl) w
  have:=run_slice3B w (some ⟨g,0,none⟩) l.length c i ((i:Int)+1) l.length (by omega) (by omega) (by omega) (by omega)
  simp only [execOp,Instr.sliceAt,Option.map_some,e8,e9,e10,e12,hu,this,Sem.run_bind,Result.andThen_ok,Sem.run_pure,EV.v,AV.v]
 refine RH.a [false] ?_
 refine RH.w [] 8 ?_
 refine RD.a [] ?_
 have hi1:((i:Int)+1).toNat=i+1:=by omega
 have hi0:(i:Int).toNat=i:=by omega
 obtain ⟨ad,hsub,had⟩:∃ ad,subA (some ⟨g,0,none⟩) ((i:Int)+1).toNat c 1=some ad/\(i+1 < l.length->ad=⟨g,(i+1)*1,none⟩):=by
  unfold subA
  rw [hi1]
  by_cases hcc:c=i+1
  ·rw [if_pos hcc];exact ⟨_,rfl,λh=>by omega⟩
  ·rw [if_neg hcc];exact ⟨_,rfl,λ_=>by simp [Addr.add]⟩
 have hlen:=kBy.flL l
 have hsz:kBy.sz=1:=rfl
 have hcs0:((l.drop (i+1)).flatMap kBy.cs).length=(l.length - (i+1))*1:=by rw [kBy.flL,List.length_drop,hsz]
 have hdrop:(l.flatMap kBy.cs).drop ((i+1)*1)=(l.drop (i+1)).flatMap kBy.cs:=by
  have e:l.flatMap kBy.cs=(l.take (i+1)).flatMap kBy.cs ++ (l.drop (i+1)).flatMap kBy.cs:=by rw [← List.flatMap_append,List.take_append_drop]
  rw [e,List.drop_left' (by rw [kBy.flL,List.length_take,hsz,Nat.min_eq_left (by omega)])]
 have hseg:(cur.toList.drop ((i+1)*1)).take (l.length*1 - (i+1)*1)=(l.drop (i+1)).flatMap kBy.cs:=by
  rw [← hdrop,← ht,hsz,List.drop_take]
 refine RD.go (i:=6) rfl (by kernel_rfl) rfl (OpGo.appendRaw (id:=0) (cur:=cur) (cs:=(l.drop (i+1)).flatMap kBy.cs) (ad:=ad) (q:=l.length - ((i:Int)+1).toNat) (c:=c - ((i:Int)+1).toNat) (sl:=i) (cap:=c) (i:=Tryz.t5) (g:=g) tk rfl rfl rfl rfl (by rw [hi0];rfl) rfl (by rw [← hsub];rfl) rfl ?_ (kBy.one _) ?_ ?_ ?_ ?_) 1 (λ_=>rfl) (λ_ _ h=>h) ?_
 ·rw [hcs0,hi1];rfl
 ·intro w hst
  by_cases hlast:i+1 < l.length
  ·rw [had hlast]
   exact range_take (hst.holds 0 _ rfl).2 hseg
  ·rw [List.drop_eq_nil_of_le (by omega)]
   intro j v hj;simp at hj
 ·intro hne
  have hlast:i+1 < l.length:=by
   rcases Nat.lt_or_ge (i+1) l.length with h|h
   ·exact h
   ·rw [List.drop_eq_nil_of_le (by omega)] at hne;exact absurd rfl hne
  rw [had hlast];rfl
 ·omega
 ·show i*1+_ ≤ _
  rw [hcs0,hcs,hsz];omega
 rintro ⟨⟩ m1 hm1
 have e1:i+(l.length - ((i:Int)+1).toNat)=l.length - 1:=by omega
 rw [e1]
 refine RD.a [] ?_
 refine RD.e ?_
 refine RH.a [] ?_
 refine RH.go rfl rfl (OpGo.clearRaw (id:=0) (g:=g) (q:=0) (off:=(l.length - 1)*1) (i:=Tryz.t5) (c:=c - ((l.length - 1:Nat):Int).toNat) tk rfl rfl rfl rfl ?_ rfl ?_ ?_) 1 ?_
 ·show Value.slice (subA (some ⟨g,0,none⟩) ((l.length - 1:Nat):Int).toNat c 1) ((l.length:Int).toNat - ((l.length - 1:Nat):Int).toNat) (c - ((l.length - 1:Nat):Int).toNat)=_
  have h1:l.length - (l.length - 1)=1:=by omega
  simp [subA,Addr.add,h1,show ¬ c=l.length - 1 by omega]
  try omega
 ·refine List.all_eq_true.1 ?_
  kernel_rfl
 ·rw [putC_size (by rw [hcs0,hcs,hsz];show i*1+_ ≤ _;omega),hcs,hsz]
  have:(Builtin.zeroCells (Value.cells ((Tryz.t5).zero.getD undef)) (0+1)).toList.length=1:=by kernel_rfl
  have h2:(l.length - 1)*1+1 ≤ c*1:=by omega
  exact Nat.le_trans (Nat.add_le_add_left (Nat.le_of_eq this) _) h2
 rintro ⟨⟩ m2 hm2
 generalize hzc:(Builtin.zeroCells _ (0+1)).toList=zc
 have hs1:(putC cur (i*1) ((l.drop (i+1)).flatMap kBy.cs)).size=c*1:=by rw [putC_size (by rw [hcs0,hcs,hsz];omega),hcs,hsz]
 have hz1:zc.length=1:=by rw [← hzc];kernel_rfl
 have hs2:(putC (putC cur (i*1) ((l.drop (i+1)).flatMap kBy.cs)) ((l.length - 1)*1) zc).size=c*1:=by rw [putC_size (by rw [hs1,hz1];omega),hs1]
 have hfin:(putC (putC cur (i*1) ((l.drop (i+1)).flatMap kBy.cs)) ((l.length - 1)*1) zc).toList.take ((l.length - 1)*1)=(l.eraseIdx i).flatMap kBy.cs:=by
  have hti:cur.toList.take (i*1)=(l.take i).flatMap kBy.cs:=by
   have e:l.flatMap kBy.cs=(l.take i).flatMap kBy.cs ++ (l.drop i).flatMap kBy.cs:=by rw [← List.flatMap_append,List.take_append_drop]
   have h1:(l.flatMap kBy.cs).take (i*1)=(l.take i).flatMap kBy.cs:=by
    rw [e,List.take_left' (by rw [kBy.flL,List.length_take,hsz,Nat.min_eq_left (by omega)])]
   rw [← h1,← ht,hsz,List.take_take,Nat.min_eq_left (by omega)]
  rw [putC_take (by rw [hs1];omega)]
  have e3:(l.length - 1)*1=i*1+((l.drop (i+1)).flatMap kBy.cs).length:=by rw [hcs0];omega
  rw [e3,putC_take2 (by rw [hcs,hsz];omega),hti,← List.flatMap_append,List.eraseIdx_eq_take_drop_succ]
 have hel:(l.eraseIdx i).length=l.length - 1:=by rw [List.length_eraseIdx];simp [hi]
 refine RH.cook (id:=0) (g:=g) (sz:=1) (l.length - 1) c rfl (by omega) hmx hs2 ?_
 have hrow:(HE.row (.slice (some ⟨g,0,none⟩) (l.length - 1) c) kBy.T 1 (l.length - 1) ((putC (putC cur (i*1) ((l.drop (i+1)).flatMap kBy.cs)) ((l.length - 1)*1) zc).toList.take ((l.length - 1)*1))) =
   HE.row (.slice (some ⟨g,0,none⟩) (l.eraseIdx i).length c) kBy.T kBy.sz (l.eraseIdx i).length ((l.eraseIdx i).flatMap kBy.cs):=by rw [hfin,hel,hsz]
 refine RH.a [] ?_
 refine RH.ret1 Tryz.func170 rfl rfl λw hst=>⟨(),by rw [hel];rfl,?_⟩
 refine St.mono (J:=λu=>K u/\True) ?_ (λu _ h=>h)
 have:=hst.sel (Sel.of (G:=[(0,some (HE.row (.slice (some ⟨g,0,none⟩) (l.length - 1) c) kBy.T 1 (l.length - 1) ((putC (putC cur (i*1) ((l.drop (i+1)).flatMap kBy.cs)) ((l.length - 1)*1) zc).toList.take ((l.length - 1)*1))))]) [] rfl rfl)
 rw [hrow] at this
 exact this
theorem run_slice3P (w:World) (A:Option Addr) (n c:Nat) (lo hi mx:Int) (h0:0 ≤ lo) (h1:lo ≤ hi) (h2:hi ≤ mx) (h3:mx ≤ c) :
  (Instr.slice 163 (.slice A n c) (some (.int .i64 lo)) (some (.int .i64 hi)) (some (.int .i64 mx))).run Tryz.prog w = .ok (.slice (if mx.toNat=lo.toNat then A else A.map (·.add (lo.toNat*1))) (hi.toNat - lo.toNat) (mx.toNat - lo.toNat)) w:=by
 have hu:(underlying 163).run Tryz.prog w = .ok (.slice 29) w:=run_underlying (tk.und rfl) w
 have hsz:(sizeOf 29).run Tryz.prog w = .ok 1 w:=run_tsize tk (i:=Tryz.t29) rfl
 have h4:max mx 0=mx:=by omega
 have h5:max hi 0=hi:=by omega
 simp [Instr.slice,Instr.sliceBounds,Instr.sliceBound,hu,hsz,asIntOf,h0,h1,h2,h3,h4,h5,show (0:Int) ≤ hi by omega,show (0:Int) ≤ mx by omega]
theorem DeleteP_spec (A:Option Addr) (c:Nat) (l:List Plot) (i:Nat) (hi:i < l.length) (hn:l.length ≤ 1000000) :
  Does Tryz.prog tb 171 [.slice A l.length c,intV i,intV ((i:Int)+1)] [(0,rowE kP A c l)] (λ_=>True) (λ_:Unit=>.slice A (l.eraseIdx i).length c) (λ_=>[(0,rowE kP A c (l.eraseIdx i))]) (λ_ _ _=>True):=by
 have hl:lim=140737488351232:=rfl
 refine Does.enter tk [(0,rowS 0 A l.length c),(1,intE i),(2,intE ((i:Int)+1))] Tryz.func171 rfl Tryz.ntmps171 rfl rfl 1 ?_
 intro B0 m0 K
 refine RH.raw (id:=0) rfl (by omega) ?_
 intro g cap cur hv hc hmx hcs ht
 injection hv with h1 h2 h3
 subst h1;subst h3
 refine RH.a [] ?_
 refine RH.read (.av (.val (.slice (if (l.length:Int).toNat=(i:Int).toNat then some ⟨g,0,none⟩ else (some (⟨g,0,none⟩:Addr)).map (·.add ((i:Int).toNat*1))) (((i:Int)+1).toNat - (i:Int).toNat) ((l.length:Int).toNat - (i:Int).toNat)))) rfl rfl rfl rfl (λw a _ ha=>?_) ?_
 ·have e8:a.eval (.tmp 8) = .slice (some ⟨g,0,none⟩) l.length c:=ev_run (e:=rowS 0 (some ⟨g,0,none⟩) l.length c) ha rfl
  have e9:a.eval (.tmp 9) = .int .i64 i:=ev_run (e:=intE i) ha rfl
  have e10:a.eval (.tmp 10) = .int .i64 ((i:Int)+1):=ev_run (e:=intE ((i:Int)+1)) ha rfl
  have e12:a.eval (.tmp 12) = .int .i64 l.length:=ev_run (e:=intE l.length) ha rfl
  have hu:(underlying 163).run Tryz.prog w = .ok (.slice 29) w:=run_underlying (tk.und rfl) w
  have:=run_slice3P w (some ⟨g,0,none⟩) l.length c i ((i:Int)+1) l.length (by omega) (by omega) (by omega) (by omega)
  simp only [execOp,Instr.sliceAt,Option.map_some,e8,e9,e10,e12,hu,this,Sem.run_bind,Result.andThen_ok,Sem.run_pure,EV.v,AV.v]
 refine RH.a [false] ?_
 refine RH.w [] 8 ?_
 refine RD.a [] ?_
 have hi1:((i:Int)+1).toNat=i+1:=by omega
 have hi0:(i:Int).toNat=i:=by omega
 obtain ⟨ad,hsub,had⟩:∃ ad,subA (some ⟨g,0,none⟩) ((i:Int)+1).toNat c 1=some ad/\(i+1 < l.length->ad=⟨g,(i+1)*1,none⟩):=by
  unfold subA
  rw [hi1]
  by_cases hcc:c=i+1
  ·rw [if_pos hcc];exact ⟨_,rfl,λh=>by omega⟩
  ·rw [if_neg hcc];exact ⟨_,rfl,λ_=>by simp [Addr.add]⟩
 have hlen:=kP.flL l
 have hsz:kP.sz=1:=rfl
 have hcs0:((l.drop (i+1)).flatMap kP.cs).length=(l.length - (i+1))*1:=by rw [kP.flL,List.length_drop,hsz]
 have hdrop:(l.flatMap kP.cs).drop ((i+1)*1)=(l.drop (i+1)).flatMap kP.cs:=by
  have e:l.flatMap kP.cs=(l.take (i+1)).flatMap kP.cs ++ (l.drop (i+1)).flatMap kP.cs:=by rw [← List.flatMap_append,List.take_append_drop]
  rw [e,List.drop_left' (by rw [kP.flL,List.length_take,hsz,Nat.min_eq_left (by omega)])]
 have hseg:(cur.toList.drop ((i+1)*1)).take (l.length*1 - (i+1)*1)=(l.drop (i+1)).flatMap kP.cs:=by
  rw [← hdrop,← ht,hsz,List.drop_take]
 refine RD.go (i:=6) rfl (by kernel_rfl) rfl (OpGo.appendRaw (id:=0) (cur:=cur) (cs:=(l.drop (i+1)).flatMap kP.cs) (ad:=ad) (q:=l.length - ((i:Int)+1).toNat) (c:=c - ((i:Int)+1).toNat) (sl:=i) (cap:=c) (i:=Tryz.t29) (g:=g) tk rfl rfl rfl rfl (by rw [hi0];rfl) rfl (by rw [← hsub];rfl) rfl ?_ (kP.one _) ?_ ?_ ?_ ?_) 1 (λ_=>rfl) (λ_ _ h=>h) ?_
 ·rw [hcs0,hi1];rfl
 ·intro w hst
  by_cases hlast:i+1 < l.length
  ·rw [had hlast]
   exact range_take (hst.holds 0 _ rfl).2 hseg
  ·rw [List.drop_eq_nil_of_le (by omega)]
   intro j v hj;simp at hj
 ·intro hne
  have hlast:i+1 < l.length:=by
   rcases Nat.lt_or_ge (i+1) l.length with h|h
   ·exact h
   ·rw [List.drop_eq_nil_of_le (by omega)] at hne;exact absurd rfl hne
  rw [had hlast];rfl
 ·omega
 ·show i*1+_ ≤ _
  rw [hcs0,hcs,hsz];omega
 rintro ⟨⟩ m1 hm1
 have e1:i+(l.length - ((i:Int)+1).toNat)=l.length - 1:=by omega
 rw [e1]
 refine RD.a [] ?_
 refine RD.e ?_
 refine RH.a [] ?_
 refine RH.go rfl rfl (OpGo.clearRaw (id:=0) (g:=g) (q:=0) (off:=(l.length - 1)*1) (i:=Tryz.t29) (c:=c - ((l.length - 1:Nat):Int).toNat) tk rfl rfl rfl rfl ?_ rfl ?_ ?_) 1 ?_
 ·show Value.slice (subA (some ⟨g,0,none⟩) ((l.length - 1:Nat):Int).toNat c 1) ((l.length:Int).toNat - ((l.length - 1:Nat):Int).toNat) (c - ((l.length - 1:Nat):Int).toNat)=_
  have h1:l.length - (l.length - 1)=1:=by omega
  simp [subA,Addr.add,h1,show ¬ c=l.length - 1 by omega]
  try omega
 ·refine List.all_eq_true.1 ?_
  kernel_rfl
 ·rw [putC_size (by rw [hcs0,hcs,hsz];show i*1+_ ≤ _;omega),hcs,hsz]
  have:(Builtin.zeroCells (Value.cells ((Tryz.t29).zero.getD undef)) (0+1)).toList.length=1:=by kernel_rfl
  have h2:(l.length - 1)*1+1 ≤ c*1:=by omega
  exact Nat.le_trans (Nat.add_le_add_left (Nat.le_of_eq this) _) h2
 rintro ⟨⟩ m2 hm2
 generalize hzc:(Builtin.zeroCells _ (0+1)).toList=zc
 have hs1:(putC cur (i*1) ((l.drop (i+1)).flatMap kP.cs)).size=c*1:=by rw [putC_size (by rw [hcs0,hcs,hsz];omega),hcs,hsz]
 have hz1:zc.length=1:=by rw [← hzc];kernel_rfl
 have hs2:(putC (putC cur (i*1) ((l.drop (i+1)).flatMap kP.cs)) ((l.length - 1)*1) zc).size=c*1:=by rw [putC_size (by rw [hs1,hz1];omega),hs1]
 have hfin:(putC (putC cur (i*1) ((l.drop (i+1)).flatMap kP.cs)) ((l.length - 1)*1) zc).toList.take ((l.length - 1)*1)=(l.eraseIdx i).flatMap kP.cs:=by
  have hti:cur.toList.take (i*1)=(l.take i).flatMap kP.cs:=by
   have e:l.flatMap kP.cs=(l.take i).flatMap kP.cs ++ (l.drop i).flatMap kP.cs:=by rw [← List.flatMap_append,List.take_append_drop]
   have h1:(l.flatMap kP.cs).take (i*1)=(l.take i).flatMap kP.cs:=by
    rw [e,List.take_left' (by rw [kP.flL,List.length_take,hsz,Nat.min_eq_left (by omega)])]
   rw [← h1,← ht,hsz,List.take_take,Nat.min_eq_left (by omega)]
  rw [putC_take (by rw [hs1];omega)]
  have e3:(l.length - 1)*1=i*1+((l.drop (i+1)).flatMap kP.cs).length:=by rw [hcs0];omega
  rw [e3,putC_take2 (by rw [hcs,hsz];omega),hti,← List.flatMap_append,List.eraseIdx_eq_take_drop_succ]
 have hel:(l.eraseIdx i).length=l.length - 1:=by rw [List.length_eraseIdx];simp [hi]
 refine RH.cook (id:=0) (g:=g) (sz:=1) (l.length - 1) c rfl (by omega) hmx hs2 ?_
 have hrow:(HE.row (.slice (some ⟨g,0,none⟩) (l.length - 1) c) kP.T 1 (l.length - 1) ((putC (putC cur (i*1) ((l.drop (i+1)).flatMap kP.cs)) ((l.length - 1)*1) zc).toList.take ((l.length - 1)*1))) =
   HE.row (.slice (some ⟨g,0,none⟩) (l.eraseIdx i).length c) kP.T kP.sz (l.eraseIdx i).length ((l.eraseIdx i).flatMap kP.cs):=by rw [hfin,hel,hsz]
 refine RH.a [] ?_
 refine RH.ret1 Tryz.func171 rfl rfl λw hst=>⟨(),by rw [hel];rfl,?_⟩
 refine St.mono (J:=λu=>K u/\True) ?_ (λu _ h=>h)
 have:=hst.sel (Sel.of (G:=[(0,some (HE.row (.slice (some ⟨g,0,none⟩) (l.length - 1) c) kP.T 1 (l.length - 1) ((putC (putC cur (i*1) ((l.drop (i+1)).flatMap kP.cs)) ((l.length - 1)*1) zc).toList.take ((l.length - 1)*1))))]) [] rfl rfl)
 rw [hrow] at this
 exact this
open Go V RowKit
theorem V.RH.advN {P:Program} {f:Fr} {n:Nat} {S:Stops} {R:Ending->World->Prop} {tb:TT} {B0:Nat} {I:World->Prop} {H:Heap} {nx m:Nat} {env:SEnv} {todo:List Item} {env':SEnv} {H':Heap} {nx' m':Nat} {todo':List Item} {ob:List Ob} {eq:List Eqn} (F:Nat) (hk:tb.Ok P) (ds:List Bool) (h:V.adv tb n F ds env H nx m todo [] []=(env',H',nx',m',todo',ob,eq)) (heq:AllEqn eq) (hob:AllOb ob) (hr:RH P f n tb B0 S R todo' env' H' nx' m' I) :
  RH P f n tb B0 S R todo env H nx m I:=λw hm hst cs a ha=>adv_ok hk F ds env H nx m todo [] [] h hob heq hr w cs a hm hst ha
theorem IK.del {u:World} {k k':Kids} {ps:List Plot} {p:Nat} (h:IK u ps k) (hp:p < k.trees.length) (ht:k'.trees=k.trees.eraseIdx p):IK u (ps.eraseIdx p) k':=by
 have hpl:=h.len
 rw [k.len] at hpl
 refine IK.of (by rw [ht,List.length_eraseIdx,List.length_eraseIdx,hpl]) λi h1 h2=>?_
 have h3:k'.trees[i]=(k.trees.eraseIdx p)[i]'(by rw [← ht];exact h2):=by simp only [ht]
 rw [h3,List.getElem_eraseIdx,List.getElem_eraseIdx]
 split
 ·exact h.at i _ _
 ·exact h.at (i+1) _ _
theorem IK.set {u:World} {k k':Kids} {ps:List Plot} {p:Nat} {b:Plot} {t:Tree} (h:IK u ps k) (ht:k'.trees=k.trees.set p t) (hb:IT u b t):IK u (ps.set p b) k':=by
 have hpl:=h.len
 rw [k.len] at hpl
 refine IK.of (by rw [ht,List.length_set,List.length_set,hpl]) λi h1 h2=>?_
 have h3:k'.trees[i]=(k.trees.set p t)[i]'(by rw [← ht];exact h2):=by simp only [ht]
 rw [h3,List.getElem_set,List.getElem_set]
 split
 ·exact hb
 ·exact h.at i _ _
def DropOk (t:Tree) (name:Str):Prop:=∀ L:Plot,Does Tryz.prog tb 95 [ptrV L.b,strV name] [] (λu=>Glob u/\IT u L t) (λo:Option Plot=>ptrO o) (λ_=>[]) (λo=>Late (λu=>IT u L t) (λu=>IsO u o (t.drop name)))
abbrev dropZ (u:World) (k':Kids) (z:(Option Addr × Nat) × (Option Addr × Nat) × List Plot):Prop:=Sl kBy u z.1.1 z.1.2 k'.bytes/\Sl kP u z.2.1.1 z.2.1.2 z.2.2/\IK u z.2.2 k'
set_option maxHeartbeats 600000 in
theorem drop_go (s r:Str) (v:Option Sum) (k:Kids) (hw:(Tree.node s v k).wf) (hl0:(Tree.node s v k).low 1000) {M:Nat} (hM:M ≤ 900000000) (hm:(Tree.node s v k).many ≤ M) (hg:((Tree.node s v k).get (s ++ r)).isSome=true)
  (ih:∀ t:Tree,t.wf->t.low 1000->t.many ≤ M->∀ c r',r=c :: r'->(t.get r').isSome=true->DropOk t r')
  (v':Option Sum) (k':Kids) (hvk:(r=[]/\v'=none/\k'=k) ∨ ∃ c r',r=c :: r'/\v'=v/\k'=k.drop c r') (L:Plot) :
  Does Tryz.prog tb 95 [ptrV L.b,strV (s ++ r)] [] (λu=>Glob u/\IT u L (.node s v k)) (λo:Option Plot=>ptrO o) (λ_=>[]) (λo=>Late (λu=>IT u L (.node s v k)) (λu=>IsO u o ((Tree.node s v k).drop (s ++ r)))):=by
 have hl:lim=140737488351232:=rfl
 have hkw:k.wf:=by unfold Tree.wf at hw;exact hw.1
 have hlen:=kbL hkw
 have hk2:∀ (c:UInt8) (r':Str),(s ++ c :: r').getD s.length 0=c/\(s ++ c :: r').drop (s.length+1)=r':=λc r'=>⟨by simp,by rw [← List.drop_drop,List.drop_left];rfl⟩
 have hdrop:(Tree.node s v k).drop (s ++ r)=joinT s v' k':=by
  unfold Tree.drop
  rcases hvk with ⟨rfl,rfl,rfl⟩|⟨c,r',rfl,rfl,rfl⟩
  ·rw [if_pos (by simp)]
  ·rw [if_neg (by simp),(hk2 c r').1,(hk2 c r').2]
 have hall:=drop_all hw hg
 rw [hdrop] at hall
 have hlowJ:lowO 1000 (joinT s v' k'):=λn x hx=>by
  rw [hall.2] at hx
  split at hx
  ·cases hx
  ·exact hl0 n x hx
 have hmanyJ:maO (joinT s v' k') ≤ 900000000:=by
  have h1:=many_drop hw hg
  rw [hdrop] at h1
  omega
 have hk'w:k'.wf:=by
  rcases hvk with ⟨rfl,rfl,rfl⟩|⟨c,r',rfl,rfl,rfl⟩
  ·exact hkw
  ·rw [get_kid] at hg
   exact (kdrop_all hkw hg).1
 have hlen':=kbL hk'w
 have hsl:s.length ≤ 1000:=low_stem hw hl0
 have hnl:(s ++ r).length ≤ 1000:=by
  obtain ⟨x,hx⟩:=Option.isSome_iff_exists.1 hg
  exact hl0 _ x hx
 rw [hdrop]
 refine V.Does.enter0 [(0,ptrAt L.b),(1,strE (s ++ r))] Tryz.func95 rfl Tryz.ntmps95 rfl rfl 0 ?_
 intro m0 K
 refine RH.pure (λu h=>(⟨(YtbfjmimiigjenaaGreatDoor.IT.part h.2.2).kids.len,(YtbfjmimiigjenaaGreatDoor.IT.part h.2.2).to_.ptr0⟩:L.ps.length=k.bytes.length/\(L.ps ≠ []->Ptr L.B))) λ⟨hpl,hpB⟩=>?_
 have hkl:=k.len
 refine RH.a [] ?_
 refine RH.loadS (nodE s v L.A k.bytes.length L.c L.B L.ps.length L.d (Tree.node s v k).many (Tree.node s v k).own) rfl rfl rfl rfl (λu hu=>(YtbfjmimiigjenaaGreatDoor.IT.part hu.fact.2.2).all) ?_
 refine RH.a [] ?_
 refine RH.loadS (strE s) rfl rfl rfl rfl (λu hu=>(YtbfjmimiigjenaaGreatDoor.IT.part hu.fact.2.2).stem) ?_
 apply RH.joinK (α:=(Option Addr × Nat) × (Option Addr × Nat) × List Plot) (λz=>[(5,.av (.box 0 m0 0))]) (λz=>[(0,some (.box m0 (nodF s v' z.1.1 k'.bytes.length z.1.2 z.2.1.1 z.2.2.length z.2.1.2 (Tree.node s v k).many (Tree.node s v k).own) 165))])
  (λz u=>(K u/\Glob u/\IT u L (.node s v k))/\Late (λu=>IT u L (.node s v k)) (λu=>dropZ u k' z) m0 u)
 ·rcases hvk with ⟨rfl,rfl,rfl⟩|⟨c,r',rfl,rfl,rfl⟩
  ·refine RH.a [true] ?_
   refine RH.read (sumE Sum.zero) rfl rfl rfl rfl (λw' a _ hag=>?_) ?_
   ·simp only [execOp,List.map_toArray,List.map_nil,buZ,Sem.run_bind,Result.andThen_ok,Sem.run_pure]
    rfl
   refine V.RH.advN 5 tk [] rfl rfl (by simp<;>omega) ?_
   exact RH.mtS ((L.A,L.c),(L.B,L.d),L.ps) [] (.head _) rfl rfl rfl λu h=>⟨h,λw' hw' hp=>⟨(YtbfjmimiigjenaaGreatDoor.IT.part hp).by_,(YtbfjmimiigjenaaGreatDoor.IT.part hp).to_,(YtbfjmimiigjenaaGreatDoor.IT.part hp).kids⟩⟩
  ·rw [get_kid] at hg
   have g1:List.getD (s ++ c :: r') ((s.length:Int)).toNat 0=c:=by rw [Int.toNat_natCast];exact (hk2 c r').1
   have hd0:(s ++ c :: r').drop ((s.length:Int)).toNat=c :: r':=by rw [Int.toNat_natCast,List.drop_left]
   refine RH.a [false] ?_
   refine RH.loadS (strE s) rfl rfl rfl rfl (λu hu=>(YtbfjmimiigjenaaGreatDoor.IT.part hu.fact.2.2).stem) ?_
   refine RH.a [] ?_
   rw [hd0]
   have g0:List.getD (c :: r') (Int.toNat 0) 0=c:=rfl
   rw [g0]
   have hB:isB k.bytes c=true:=by
    cases hb:isB k.bytes c with
    | true=>rfl
    | false =>
     have:=((kget_pos (n:=r') hkw).2 hb).1
     rw [this] at hg;cases hg
   obtain ⟨hpos,hget⟩:=(kget_pos (n:=r') hkw).1 hB
   have hpos':posB k.bytes c < L.ps.length:=by omega
   rw [hget] at hg
   obtain ⟨_,hdS,hdN⟩:=kdrop_is r' hkw hB
   have hkd:=(kid_at hkw (posB k.bytes c) hpos (by omega)).1
   have hkm:=many_kid (k:=k) (posB k.bytes c) hpos
   have hkm2:k.many ≤ M:=by
    have:(if v'.isSome=true then 1 else 0)+k.many ≤ M:=hm
    omega
   refine RH.gv (.av (.val (.tuple #[intV (posB k.bytes c),.bool (isB k.bytes c)]))) rfl rfl rfl Tryz.call168 (λu hu=>branch_spec L.b c s v' k L.A L.c L.B L.d L.ps _ _ u (YtbfjmimiigjenaaGreatDoor.IT.part hu.fact.2.2) hlen) ?_
   intro m2 hm2
   refine RH.a [] ?_
   refine RH.tell [(0,ptrAt L.b),(5,.av (.box 0 m0 0)),(6,strE (c :: r')),(7,intE (posB k.bytes c))] [(0,some (.box m0 (nodF s v' L.A k.bytes.length L.c L.B L.ps.length L.d (Tree.node s v' k).many (Tree.node s v' k).own) 165))] [] rfl rfl rfl 1 ?_
   refine RH.w [] 11 ?_
   refine RD.a [] ?_
   refine RD.ld 3 (slE L.B L.ps.length L.d) rfl rfl (λw' h=>(YtbfjmimiigjenaaGreatDoor.IT.part h.2.2).lto) ?_
   refine RD.b [] rfl rfl (by simp [hpB (λe=>by rw [e] at hpos';cases hpos')]<;>omega) ?_
   refine RD.ld 6 (ptrAt L.ps[posB k.bytes c].b) rfl rfl (λw' h=>(YtbfjmimiigjenaaGreatDoor.IT.part h.2.2).to_.load hpos') ?_
   refine RD.a [] ?_
   have hd1:(c :: r').drop (Int.toNat 1)=r':=rfl
   rw [hd1]
   refine RD.dd 9 [] 2 (λo:Option Plot=>.av (.val (ptrO o))) rfl rfl rfl Tryz.call95 (ih _ hkd (low_kid hw hl0 _ hpos) (by omega) c r' rfl hg L.ps[posB k.bytes c]) (λu hu=>⟨hu.fact.2.1,(YtbfjmimiigjenaaGreatDoor.IT.part hu.fact.2.2).kids.at _ hpos' hpos⟩) ?_
   rintro o m3 hm3
   refine RD.a [] ?_
   refine RD.e ?_
   have hkid:∀ u,IT u L (.node s v' k)->IT u (L.ps[posB k.bytes c]'hpos') (k.trees[posB k.bytes c]'hpos):=λu h=>(YtbfjmimiigjenaaGreatDoor.IT.part h).kids.at _ hpos' hpos
   refine RH.pure (λu hu=>(⟨u,hu.2.now (hkid u hu.1.2.2)⟩:∃ u,IsO u o ((k.trees[posB k.bytes c]'hpos).drop r'))) ?_
   rintro ⟨u0,hso⟩
   refine RH.a [] ?_
   refine RH.read (.av (.val (.bool (!(o.map λL=>(⟨L.b,0,none⟩:Addr)).isNone)))) rfl rfl rfl rfl (λu q _ ha=>op_neqPtr ha rfl rfl rfl rfl) ?_
   cases htd:(k.trees[posB k.bytes c]).drop r' with
   | some t' =>
    rw [htd] at hso
    obtain ⟨he1,he2⟩:=hdS t' htd
    cases o with
    | none=>exact hso.elim
    | some L2 =>
     refine RH.a [true] ?_
     refine RH.loadS (slE L.B L.ps.length L.d) rfl rfl rfl rfl (λu hu=>(YtbfjmimiigjenaaGreatDoor.IT.part hu.fact.1.2.2).lto) ?_
     refine RH.a [] ?_
     refine RH.dd [] 4 (λy:Option Addr × Nat=>rowS 2 y.1 L.ps.length y.2) rfl rfl rfl Tryz.call169 (replaced_spec L.B L.d L.ps (posB k.bytes c) L2 hpos' (by omega)) (λu hu=>(YtbfjmimiigjenaaGreatDoor.IT.part hu.fact.1.2.2).to_) ?_
     rintro ⟨B1,d1⟩ m4 hm4
     refine RH.drop ?_
     refine V.RH.advN 3 tk [] rfl rfl (by simp<;>omega) ?_
     refine RH.free (i:=2) rfl ?_
     refine RH.mtS ((L.A,L.c),(B1,d1),L.ps.set (posB k.bytes c) L2) [] (.head _) rfl (by rw [he1,List.length_set];rfl) rfl λu h=>⟨h.1.1,λw' hw' hp=>⟨?_,?_,?_⟩⟩
     ·rw [he1];exact (YtbfjmimiigjenaaGreatDoor.IT.part hp).by_
     ·exact Sl.own (hoL h.2 hw') (by rw [List.length_set];omega)
     ·exact YtbfjmimiigjenaaGreatDoor.IK.set (YtbfjmimiigjenaaGreatDoor.IT.part hp).kids he2 (h.1.2.up (m:=m0) (by omega) hw' (hkid w' hp))
   | none =>
    rw [htd] at hso
    obtain ⟨he1,he2⟩:=hdN htd
    cases o with
    | some L2=>exact hso.elim
    | none =>
     refine RH.a [false] ?_
     have hel:(k.bytes.eraseIdx (posB k.bytes c)).length ≤ lim:=by rw [List.length_eraseIdx];split<;>omega
     have help:(L.ps.eraseIdx (posB k.bytes c)).length ≤ lim:=by rw [List.length_eraseIdx];split<;>omega
     refine RH.w [] 22 ?_
     refine RD.a [] ?_
     refine RD.ld 3 (slE L.A k.bytes.length L.c) rfl rfl (λw' h=>(YtbfjmimiigjenaaGreatDoor.IT.part h.1.2.2).lby) ?_
     refine RD.ld 12 (slE L.B L.ps.length L.d) rfl rfl (λw' h=>(YtbfjmimiigjenaaGreatDoor.IT.part h.1.2.2).lto) ?_
     refine RD.a [] ?_
     refine RD.dd 4 [] 4 (λy:Option Addr × Nat=>rowS 2 y.1 k.bytes.length y.2) rfl rfl rfl Tryz.call90 (cloneB L.A L.c k.bytes (by omega)) (λu hu=>(YtbfjmimiigjenaaGreatDoor.IT.part hu.fact.1.2.2).by_) ?_
     rintro ⟨A1,c1⟩ m4 hm4
     refine RD.a [] ?_
     refine RD.dd 8 [(0,2)] 6 (λ_:Unit=>rowS 2 A1 (k.bytes.eraseIdx (posB k.bytes c)).length c1) rfl rfl rfl Tryz.call170 (DeleteB_spec A1 c1 k.bytes (posB k.bytes c) (by omega) (by omega)) (λu hu=>trivial) ?_
     rintro ⟨⟩ m5 hm5
     refine RD.a [] ?_
     refine RD.dd 13 [] 8 (λy:Option Addr × Nat=>rowS 6 y.1 L.ps.length y.2) rfl rfl rfl Tryz.call172 (cloneP L.B L.d L.ps (by omega)) (λu hu=>(YtbfjmimiigjenaaGreatDoor.IT.part hu.fact.1.1.1.2.2).to_) ?_
     rintro ⟨B1,d1⟩ m6 hm6
     refine RD.a [] ?_
     refine RD.dd 17 [(0,6)] 10 (λ_:Unit=>rowS 6 B1 (L.ps.eraseIdx (posB k.bytes c)).length d1) rfl rfl rfl Tryz.call171 (DeleteP_spec B1 d1 L.ps (posB k.bytes c) (by omega) (by omega)) (λu hu=>trivial) ?_
     rintro ⟨⟩ m7 hm7
     refine RD.a [] ?_
     refine RD.s 10 19 ?_
     refine RD.a [] ?_
     refine RD.z 21 ?_
     intro m8 hm8
     refine RH.free (i:=2) rfl ?_
     refine RH.free (i:=6) rfl ?_
     refine RH.mtS ((A1,c1),(B1,d1),L.ps.eraseIdx (posB k.bytes c)) [] (.head _) rfl (by rw [he1];rfl) rfl λu h=>⟨h.1.1.1.1.1.1.1,λw' hw' hp=>⟨?_,?_,?_⟩⟩
     ·rw [he1];exact Sl.own (hoL h.1.2 hw') hel
     ·exact Sl.own (hoL h.2 hw') help
     ·exact YtbfjmimiigjenaaGreatDoor.IK.del (YtbfjmimiigjenaaGreatDoor.IT.part hp).kids hpos he2
 rintro ⟨⟨A1,c1⟩,⟨B1,d1⟩,ps1⟩ m1
 refine RH.toNx 1 ?_
 refine RH.pure (λu h=>(⟨(h.2.now h.1.2.2).2.2.len,(h.2.now h.1.2.2).2.1.ptr0⟩:ps1.length=k'.bytes.length/\(ps1 ≠ []->Ptr B1))) λ⟨hpl1,hpB1⟩=>?_
 have hz:∀ u,(K u/\Glob u/\IT u L (.node s v k))/\Late (λu=>IT u L (.node s v k)) (λu=>dropZ u k' ((A1,c1),(B1,d1),ps1)) m0 u->dropZ u k' ((A1,c1),(B1,d1),ps1):=λu h=>h.2.now h.1.2.2
 cases v' with
 | some x =>
  refine RH.a [true] ?_
  have hmy:(Tree.node s (some x) k').many ≤ 1000000000:=by
   have h1:maO (joinT s (some x) k')=(Tree.node s (some x) k').many:=rfl
   omega
  refine RH.dd [] 5 (λb':Nat=>ptrAt b') rfl rfl rfl Tryz.call173 (made_spec s (some x) k' A1 c1 B1 d1 ps1 (Tree.node s v k).many (Tree.node s v k).own hlen' hsl hmy) (λu hu=>⟨hu.fact.1.2.1,hz u hu.fact⟩) ?_
  rintro b' m3 hm3
  refine RH.drop ?_
  dsimp only
  refine RH.free (i:=1) rfl ?_
  refine RH.a [] ?_
  refine RH.ret1 Tryz.func95 rfl rfl λw hst=>⟨some (.node b' A1 c1 B1 d1 ps1),rfl,hst.out [] rfl rfl λu h=>⟨h.1.1.1,λv' hv hp=>?_⟩⟩
  have h3:=h.1.2.up (Nat.le_refl _) hv hp
  exact YtbfjmimiigjenaaGreatDoor.Part.tree (A:=A1) (c:=c1) (B:=B1) (d:=d1) (ps:=ps1) ⟨box_node (hoL h.2 hv),h3.1,h3.2.1,h3.2.2⟩
 | none =>
  cases k' with
  | nil =>
   refine RH.adv tk [false,false,true] rfl rfl (by simp [Kids.bytes]<;>omega) ?_
   refine RH.ret1 Tryz.func95 rfl rfl λw hst=>⟨none,rfl,hst.out [] rfl rfl λu h=>⟨h.1.1,λv' hv hp=>trivial⟩⟩
  | cons e t1 r1 =>
   cases r1 with
   | cons e2 t2 r2 =>
    have hn2:(1:Int) < ((Kids.cons e t1 (.cons e2 t2 r2)).bytes.length:Nat):=by simp only [Kids.bytes,List.length_cons];omega
    refine RH.adv tk [false,true] rfl rfl (by simp [hn2]) ?_
    have hmy:(Tree.node s none (.cons e t1 (.cons e2 t2 r2))).many ≤ 1000000000:=by
     rw [joinT_many] at hmanyJ
     omega
    refine RH.dd [] 5 (λb':Nat=>ptrAt b') rfl rfl rfl Tryz.call173 (made_spec s none (.cons e t1 (.cons e2 t2 r2)) A1 c1 B1 d1 ps1 (Tree.node s v k).many (Tree.node s v k).own hlen' hsl hmy) (λu hu=>⟨hu.fact.1.2.1,hz u hu.fact⟩) ?_
    rintro b' m3 hm3
    refine RH.drop ?_
    dsimp only
    refine RH.free (i:=1) rfl ?_
    refine RH.a [] ?_
    refine RH.ret1 Tryz.func95 rfl rfl λw hst=>⟨some (.node b' A1 c1 B1 d1 ps1),rfl,hst.out [] rfl rfl λu h=>⟨h.1.1.1,λv' hv hp=>?_⟩⟩
    have h3:=h.1.2.up (Nat.le_refl _) hv hp
    have hj2:joinT s none (.cons e t1 (.cons e2 t2 r2))=some (.node s none (.cons e t1 (.cons e2 t2 r2))):=by cases t1;rfl
    rw [hj2]
    exact YtbfjmimiigjenaaGreatDoor.Part.tree (A:=A1) (c:=c1) (B:=B1) (d:=d1) (ps:=ps1) ⟨box_node (hoL h.2 hv),h3.1,h3.2.1,h3.2.2⟩
   | nil =>
    have hps:ps1 ≠ []:=λe=>by rw [e] at hpl1;simp [Kids.bytes] at hpl1
    refine RH.adv tk [false,false,false] rfl rfl (by simp [Kids.bytes,hpB1 hps,hpl1]<;>omega) ?_
    cases t1 with
    | node s2 v2 k2 =>
    have h0:0 < ps1.length:=by rw [hpl1];simp [Kids.bytes]
    have h0t:0 < (Kids.cons e (.node s2 v2 k2) .nil).trees.length:=by simp [Kids.trees]
    have hnod:∀ u,dropZ u (.cons e (.node s2 v2 k2) .nil) ((A1,c1),(B1,d1),ps1)->IT u ps1[0] (.node s2 v2 k2):=λu h=>h.2.2.at 0 h0 h0t
    have hj:joinT s none (.cons e (.node s2 v2 k2) .nil)=some (.node (s ++ e :: s2) v2 k2):=rfl
    refine RH.loadS (ptrAt ps1[0].b) rfl rfl rfl rfl (λu hu=>(hz u hu.fact).2.1.load h0) ?_
    refine RH.a [] ?_
    refine RH.loadS (nodE s2 v2 ps1[0].A k2.bytes.length ps1[0].c ps1[0].B ps1[0].ps.length ps1[0].d (Tree.node s2 v2 k2).many (Tree.node s2 v2 k2).own) rfl rfl rfl rfl (λu hu=>(YtbfjmimiigjenaaGreatDoor.IT.part (hnod u (hz u hu.fact))).all) ?_
    refine RH.a [] ?_
    rw [hj] at hall hlowJ hmanyJ
    have hst:=low_stem hall.1 hlowJ
    have hk2w:k2.wf:=by have:=hall.1;unfold wfO Tree.wf at this;exact this.1
    have hsa:s ++ [e] ++ s2=s ++ e :: s2:=by simp
    have hmy:(Tree.node (s ++ e :: s2) v2 k2).many ≤ 1000000000:=by
     have:(Tree.node (s ++ e :: s2) v2 k2).many ≤ 900000000:=hmanyJ
     omega
    have hst2:s.length+(s2.length+1) ≤ 1000:=by rw [List.length_append,List.length_cons] at hst;exact hst
    refine RH.go rfl rfl (OpGo.byteStr (l:=[e]) rfl rfl rfl (by simp) λu hu=>(hz u hu.fact).1) 5 ?_
    rintro ⟨⟩ m3 hm3
    refine RH.a [] ?_
    rw [hsa,hj]
    refine RH.dd [] 9 (λb':Nat=>ptrAt b') rfl rfl rfl Tryz.call173 (made_spec (s ++ e :: s2) v2 k2 ps1[0].A ps1[0].c ps1[0].B ps1[0].d ps1[0].ps (Tree.node s2 v2 k2).many (Tree.node s2 v2 k2).own (kbL hk2w) hst hmy) (λu hu=>⟨hu.fact.1.2.1,(YtbfjmimiigjenaaGreatDoor.IT.part (hnod u (hz u hu.fact))).by_,(YtbfjmimiigjenaaGreatDoor.IT.part (hnod u (hz u hu.fact))).to_,(YtbfjmimiigjenaaGreatDoor.IT.part (hnod u (hz u hu.fact))).kids⟩) ?_
    rintro b' m4 hm4
    refine RH.drop ?_
    dsimp only
    refine RH.free (i:=5) rfl ?_
    refine RH.a [] ?_
    refine RH.ret1 Tryz.func95 rfl rfl λw hst=>⟨some (.node b' ps1[0].A ps1[0].c ps1[0].B ps1[0].d ps1[0].ps),rfl,hst.out [] rfl rfl λu h=>⟨h.1.1.1,λv' hv hp=>?_⟩⟩
    have h3:=YtbfjmimiigjenaaGreatDoor.IT.part (hnod v' (h.1.2.up (Nat.le_refl _) hv hp))
    exact YtbfjmimiigjenaaGreatDoor.Part.tree (A:=ps1[0].A) (c:=ps1[0].c) (B:=ps1[0].B) (d:=ps1[0].d) (ps:=ps1[0].ps) ⟨box_node (hoL h.2 hv),h3.by_,h3.to_,h3.kids⟩
theorem DropOk.all {M:Nat} (hM:M ≤ 900000000):∀ (n:Nat) (name:Str),name.length ≤ n->∀ t:Tree,t.wf->t.low 1000->t.many ≤ M->(t.get name).isSome=true->DropOk t name:=by
 intro n
 induction n with
 | zero =>
  intro name h0 t hw hl hm hg L
  have:name=[]:=List.length_eq_zero_iff.1 (by omega)
  subst this
  cases t with
  | node s v k =>
   obtain ⟨x,hx⟩:=Option.isSome_iff_exists.1 hg
   obtain ⟨r,hr⟩:=get_pre hx
   have hs:s=[]:=(List.append_eq_nil_iff.1 hr.symm).1
   subst hs
   have:=drop_go [] [] v k hw hl hM hm hg (λt' _ _ _ c r' h=>by cases h) none k (.inl ⟨rfl,rfl,rfl⟩) L
   exact this
 | succ n ih =>
  intro name h0 t hw hl hm hg L
  cases t with
  | node s v k =>
   obtain ⟨x,hx⟩:=Option.isSome_iff_exists.1 hg
   obtain ⟨r,rfl⟩:=get_pre hx
   cases r with
   | nil=>exact drop_go s [] v k hw hl hM hm hg (λt' _ _ _ c r' h=>by cases h) none k (.inl ⟨rfl,rfl,rfl⟩) L
   | cons c r =>
    refine drop_go s (c :: r) v k hw hl hM hm hg (λt' h1 h2 h3 c' r' h h4=>?_) v (k.drop c r) (.inr ⟨c,r,rfl,rfl,rfl⟩) L
    injection h with e1 e2
    subst e2
    exact ih r (by simp at h0;omega) t' h1 h2 h3 h4
theorem drop_ok (po:Option Plot) (t:Option Tree) (ht:okO t) (hl:lowO 1000 t) (name:Str) (hg:(getO t name).isSome=true) :
  Does Tryz.prog tb 95 [ptrO po,strV name] [] (λu=>Glob u/\IsO u po t) (λo:Option Plot=>ptrO o) (λ_=>[]) (λo=>Late (λu=>IsO u po t) (λu=>IsO u o (dropO t name))):=by
 cases t with
 | none=>cases hg
 | some t =>
  cases po with
  | none =>
   intro B0 w K hst hp
   exact ((hp w hst.fact).2).elim
  | some L=>exact DropOk.all (M:=900000000) (Nat.le_refl _) name.length name (Nat.le_refl _) t ht.1 hl ht.2.2 hg L
theorem find_isSome {w:World} {po:Option Plot} {t:Option Tree} (h:IsO w po t) (ht:okO t) (name:Str):(findO po t name).isSome=(getO t name).isSome:=by
 have hs:=findO_spec h ht name
 cases hf:findO po t name with
 | none =>
  rw [hf] at hs
  have hs:getO t name=none:=hs
  rw [hs];rfl
 | some L=>rw [hf] at hs;obtain ⟨_,v,_,_,hg⟩:=hs;rw [hg];rfl
theorem Drop_none (w:World) (po:Option Plot) (t:Option Tree) (h:IsO w po t) (ht:okO t) (name:Str) (hn:name.length ≤ 1000) (hg:getO t name=none):Gives Tryz.prog 22 [(mapE po).v,strV name] w (.av (.val (.tuple #[.agg #[.pointer none],intV 6]))):=by
 have hs:=findO_spec h ht name
 refine enterH tk [(0,mapE po),(1,strE name)] Tryz.func22 rfl Tryz.ntmps22 rfl rfl ?_
 refine RH.a [] ?_
 refine RH.gv (.av (.val (ptrO (findO po t name)))) rfl rfl rfl Tryz.call93 (λu hu=>get_ok u po t (h.ext hu.fact) ht name hn) ?_
 intro m1 hm1
 cases hf:findO po t name with
 | some L =>
  rw [hf] at hs
  obtain ⟨s,v,k,hL,hg2⟩:=hs
  rw [hg] at hg2;cases hg2
 | none =>
  refine RH.read (.av (.val (.bool (none:Option Addr).isNone))) rfl rfl rfl rfl (λu q _ ha=>opP ha rfl rfl rfl rfl) ?_
  refine RH.a [true] ?_
  exact RH.retBoxT tk (.st [.val (.pointer none)]) Tryz.func22 rfl rfl rfl rfl rfl λw' hst=>⟨rfl,hst.fact⟩
theorem Drop_ok (po:Option Plot) (t:Option Tree) (ht:okO t) (hl:lowO 1000 t) (name:Str) (hn:name.length ≤ 1000) (hg:(getO t name).isSome=true) :
  Does Tryz.prog tb 22 [(mapE po).v,strV name] [] (λu=>Glob u/\IsO u po t) (λo:Option Plot=>.tuple #[.agg #[ptrO o],intV 0]) (λ_=>[]) (λo=>Late (λu=>IsO u po t) (λu=>IsO u o (dropO t name))):=by
 refine V.Does.enter0 [(0,mapE po),(1,strE name)] Tryz.func22 rfl Tryz.ntmps22 rfl rfl 0 ?_
 intro m0 K
 refine RH.pure (λu hu=>(find_isSome hu.2.2 ht name:(findO po t name).isSome=(getO t name).isSome)) λhs=>?_
 rw [hg] at hs
 have hz31:(Tryz.t31).size=1:=by kernel_rfl
 refine RH.a [] ?_
 refine RH.gv (.av (.val (ptrO (findO po t name)))) rfl rfl rfl Tryz.call93 (λu hu=>get_ok u po t hu.fact.2.2 ht name hn) ?_
 intro m1 hm1
 cases hf:findO po t name with
 | none =>
  rw [hf] at hs;cases hs
 | some L =>
  refine RH.read (.av (.val (.bool (some (⟨L.b,0,none⟩:Addr)).isNone))) rfl rfl rfl rfl (λu q _ ha=>opP ha rfl rfl rfl rfl) ?_
  refine RH.a [false] ?_
  refine RH.dd [] 5 (λo:Option Plot=>.av (.val (ptrO o))) rfl rfl rfl Tryz.call95 (drop_ok po t ht hl name hg) (λu hu=>hu.fact.2) ?_
  rintro o m2 hm2
  refine RH.adv tk [] rfl rfl (by simp [hz31,Value.oneCell']<;>omega) ?_
  exact RH.retBoxT tk (mapE o) Tryz.func22 rfl rfl rfl rfl rfl λw' hst=>⟨o,rfl,hst.out [] rfl rfl λu h=>⟨h.1.1,λv hv hp=>h.2.up (by omega) hv hp⟩⟩
end Go.Proofs.YtbfjmimiigjenaaGreatDoor
