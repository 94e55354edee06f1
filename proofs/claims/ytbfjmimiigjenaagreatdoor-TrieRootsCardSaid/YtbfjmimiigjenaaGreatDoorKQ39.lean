/-
Lemmas. No condition.
-/
import Derived.Test.YtbfjmimiigjenaaGreatDoorKK4
import Derived.Test.YtbfjmimiigjenaaGreatDoorKVConv
import Derived.Test.YtbfjmimiigjenaaGreatDoorKVZ
set_option maxRecDepth 10000
set_option linter.unusedVariables false
set_option linter.unusedSectionVars false
set_option linter.unusedSimpArgs false
namespace Go.Proofs.YtbfjmimiigjenaaGreatDoor
open Go V RowKit
def twoL (n:Nat):List UInt8:=[UInt8.ofNat (n / 256),UInt8.ofNat n]
def entB (e:Str × Sum):List UInt8:=UInt8.ofNat e.1.length :: (e.1 ++ e.2.l)
def encL (t:Option Tree):List UInt8:=twoL (maO t) ++ (enO t).flatMap entB
theorem encB_len:∀ l:List (Str × Sum),(∀ e ∈ l,e.1.length ≤ 1000)->(l.flatMap entB).length ≤ 1033*l.length
 | [],_=>by simp
 | e :: r,h=>by
  rw [List.flatMap_cons,List.length_append]
  have h1:=h e (.head _)
  have h2:=encB_len r λx hx=>h x (.tail _ hx)
  have h3:(entB e).length=e.1.length+33:=by unfold entB;rw [List.length_cons,List.length_append,e.2.h]
  rw [List.length_cons];omega
theorem entC_sum (s:Str) (x:Sum):((boxCells [.val (strV s),.val (sumV x)]).toList.drop 1).take 32=x.l.map u8V:=by
 have h:=x.h
 show ((strV s :: ((sumV x).cells.toList ++ [])).drop 1).take 32=_
 rw [List.append_nil,List.drop_one,List.tail_cons]
 exact List.take_of_length_le (by show (x.l.map u8V).length ≤ 32;rw [List.length_map,h];exact Nat.le_refl _)
set_option maxHeartbeats 400000 in
theorem Encode_spec (po:Option Plot) (t:Option Tree) (ht:okO t) (hl:lowO 1000 t) (hm:maO t ≤ 900) :
  Does Tryz.prog tb 44 [(mapE po).v] [] (λu=>IsO u po t) (λy:Option Addr × Nat=>.slice y.1 (encL t).length y.2) (λ_=>[])
   (λy=>Late (λ_=>True) (λu=>Sl kBy u y.1 y.2 (encL t))):=by
 have hlim:lim=140737488351232:=rfl
 have hz31:(Tryz.t31).size=1:=by kernel_rfl
 have hz:(Tryz.t178).size=2:=by kernel_rfl
 have hml:=entsO_many t
 have hsh:=ents_short ht hl
 refine V.Does.enter0 [(0,mapE po)] Tryz.func44 rfl Tryz.ntmps44 rfl rfl 0 ?_
 intro m0 K
 refine RH.a [] ?_
 refine RH.gv (intE (maO t)) rfl rfl rfl Tryz.call25 (λu hu=>Many_spec u po t hu.fact.2) ?_
 intro m1 hm1
 refine RH.a [] ?_
 refine RH.gv (.av (.val (twoV (maO t)))) rfl rfl rfl Tryz.call114 (λu hu=>two_spec u (maO t) (by omega)) ?_
 intro m2 hm2
 refine RH.adv tk [] rfl rfl ?_ ?_
 ·exact ⟨agg2 hz.symm rfl rfl,agg2 hz.symm rfl rfl,trivial⟩
 refine RH.read (.av (.val (.slice (some ⟨m2,0,none⟩) 2 2))) rfl rfl rfl rfl (λu q _ ha=>?_) ?_
 ·have e1:q.eval (.tmp 3) = .pointer (some ⟨m2,0,none⟩):=ev_run (e:=.av (.box 1 m2 0)) ha rfl
  simp only [execOp,e1,Option.map_none,slice_all2,Sem.run_bind,Result.andThen_ok,Sem.run_pure]
  rfl
 refine RH.free (i:=1) rfl ?_
 refine V.RH.know (λu=>(K u/\IsO u po t)/\Late (λ_=>True) (λu=>Sl kBy u (some ⟨m2,0,none⟩) 2 (twoL (maO t))) m0 u) (λu h=>⟨h.1,λv hv _=>⟨Nat.le_refl _,by show 2 ≤ lim;decide,λ_=>rfl,range_take (n:=2) (hoL h.2 hv).2.1 rfl,nofun⟩⟩) ?_
 refine RH.a [] ?_
 refine RH.dd [] 10 (λy:Option Addr × Nat=>rowS 2 y.1 (enO t).length y.2) rfl rfl rfl Tryz.call97 (entries_O po t 1000 ht hl (by omega)) (λu hu=>hu.fact.1.2) ?_
 rintro ⟨A1,c1⟩ m3 hm3
 refine RH.drop ?_
 refine RH.a [] ?_
 dsimp only
 unfold encL
 generalize enO t=l at *
 generalize maO t=mn at *
 refine RH.loop (α:=Nat × (Option Addr × Nat)) (λy=>[(13,rowS 2 A1 l.length c1),(14,intE l.length),(15,intE y.1),(4,slE y.2.1 (twoL mn ++ (l.take y.1).flatMap entB).length y.2.2)]) (λy=>[(2,rowE kEnt A1 c1 l)])
  (λy u=>((K u/\IsO u po t)/\Late (λ_=>True) (λu=>Sl kBy u y.2.1 y.2.2 (twoL mn ++ (l.take y.1).flatMap entB)) m0 u)/\y.1 ≤ l.length) (λy=>l.length - y.1) (0,(some ⟨m2,0,none⟩,2)) rfl rfl
  (λu h=>⟨⟨h.1,by rw [List.take_zero,List.flatMap_nil,List.append_nil];exact h.2⟩,Nat.zero_le _⟩) ?_
 rintro ⟨i,A2,c2⟩ m4
 refine RH.pure (λu hu=>hu.2) λhi=>?_
 refine V.RH.know (λu=>((K u/\IsO u po t)/\Late (λ_=>True) (λu=>Sl kBy u A2 c2 (twoL mn ++ (l.take i).flatMap entB)) m0 u)) (λu h=>h.1) ?_
 dsimp only at hi ⊢
 by_cases hlt:i < l.length
 ·have hts:twoL mn ++ (l.take (i+1)).flatMap entB=(twoL mn ++ (l.take i).flatMap entB) ++ entB l[i]:=by
   rw [List.take_succ_eq_append_getElem hlt,List.flatMap_append,List.flatMap_cons,List.flatMap_nil,List.append_nil,List.append_assoc]
  have hbl:(twoL mn ++ (l.take i).flatMap entB).length ≤ 2+1033*i:=by
   have:=encB_len (l.take i) λe he=>hsh e (List.mem_of_mem_take he)
   rw [List.length_take] at this
   rw [List.length_append]
   show 2+_ ≤ _
   have h3:1033*min i l.length ≤ 1033*i:=Nat.mul_le_mul_left _ (Nat.min_le_left _ _)
   omega
  have hel:l[i].1.length ≤ 1000:=hsh _ (List.getElem_mem hlt)
  generalize hbT:twoL mn ++ (l.take i).flatMap entB=bT at *
  have hfm:∀ a5 a8 c8,([⟨A2,c2,bT⟩,⟨a5,1,[UInt8.ofNat l[i].1.length]⟩,⟨a8,c8,l[i].1⟩,⟨some ⟨m4,1,none⟩,32,l[i].2.l⟩]:List (Row UInt8)).flatMap Row.l=bT ++ entB l[i]:=λa5 a8 c8=>by simp [entB]
  refine RH.pureS (λu hu=>hu.ptr (id:=2) (κ:=kEnt) (l:=l) rfl (by intro e;rw [e] at hlt;cases hlt)) λhptr=>?_
  refine RH.adv tk [true] rfl rfl (by simp [hptr]<;>omega) ?_
  refine RH.loadS (.st [.val (strV l[i].1),.val (sumV l[i].2)]) rfl rfl rfl rfl (λu hu=>(Sl.own (B:=m0) (hu.row (κ:=kEnt) (l:=l) (id:=2) rfl) (by omega)).load hlt) ?_
  refine RH.toNx 55 ?_
  refine RH.a [] ?_
  refine RH.w [(55,some (.box m4 [.val (strV l[i].1),.val (sumV l[i].2)] 155))] 14 ?_
  refine RD.a [] ?_
  rw [u8_of]
  refine RD.r 10 (.av (.val (.slice (some ⟨m4,1,none⟩) 32 32))) rfl rfl (λu q _ ha=>?_) ?_
  ·have e1:q.eval (.tmp 28) = .pointer (some ⟨m4,1,none⟩):=ev_run (e:=.av (.box 55 m4 1)) ha rfl
   simp only [execOp,e1,Option.map_none,slice_all,Sem.run_bind,Result.andThen_ok,Sem.run_pure]
   rfl
  refine RD.two (i:=5) (j:=8) (by kernel_rfl) ?_ ?_
  ·refine V.opS 60 5 ?_
   refine RD.a [] ?_
   refine RD.go (i:=8) rfl (by kernel_rfl) rfl (OpGo.strBytes (s:=l[i].1) rfl rfl (by omega)) 61 (λ_=>rfl) (λ_ _ h=>h.1) ?_
   rintro c8 m8 hm8
   refine RD.a [] ?_
   refine RD.s 62 11 ?_
   refine RD.a [] ?_
   have hC:=Concat_spec (some ⟨m8,0,none⟩) 4 [⟨A2,c2,bT⟩,⟨some ⟨m4+1,0,none⟩,1,[UInt8.ofNat l[i].1.length]⟩,⟨some ⟨m4+1+1,0,none⟩,c8,l[i].1⟩,⟨some ⟨m4,1,none⟩,32,l[i].2.l⟩] (by simp [lenS];have:=l[i].2.h;omega)
   rw [hfm (some ⟨m4+1,0,none⟩) (some ⟨m4+1+1,0,none⟩) c8] at hC
   refine RD.doB (nx:=64) (i:=12) [] 65 (λy:Option Addr × Nat=>rowS 64 y.1 (bT ++ entB l[i]).length y.2) rfl (by kernel_rfl) rfl rfl rfl rfl Tryz.call115 hC rfl rfl (λ_=>rfl) (λ_=>rfl) (λu hu=>⟨?_,?_⟩) (λ_=>rfl) (λ_ h=>h.1) ?_
   ·have e:([⟨A2,c2,bT⟩,⟨some ⟨m4+1,0,none⟩,1,[UInt8.ofNat l[i].1.length]⟩,⟨some ⟨m4+1+1,0,none⟩,c8,l[i].1⟩,⟨some ⟨m4,1,none⟩,32,l[i].2.l⟩]:List (Row UInt8)).map sliOf=[(A2,bT.length,c2),(some ⟨m4+1,0,none⟩,1,1),(some ⟨m4+1+1,0,none⟩,l[i].1.length,c8),(some ⟨m4,1,none⟩,32,32)]:=by simp [l[i].2.h]
    rw [e]
    exact Sl.own (B:=m0) (hu.row (κ:=kSli) (l:=[(A2,bT.length,c2),(some ⟨m4+1,0,none⟩,1,1),(some ⟨m4+1+1,0,none⟩,l[i].1.length,c8),(some ⟨m4,1,none⟩,32,32)]) (id:=62) rfl) (by simp [hlim])
   ·intro r hr
    simp only [List.mem_cons,List.not_mem_nil,or_false] at hr
    rcases hr with rfl|rfl|rfl|rfl
    ·exact hu.fact.1.2.now trivial
    ·exact Sl.own (B:=m0) (hu.row (κ:=kBy) (l:=[UInt8.ofNat l[i].1.length]) (id:=60) rfl) (by simp [hlim])
    ·exact hu.fact.2
    ·exact sl_sum (range_take (n:=32) (hu.holds 55 _ rfl).2.1 (entC_sum l[i].1 l[i].2))
   rintro ⟨A3,c3⟩ m9 hm9
   refine RD.a [] ?_
   refine RD.e ?_
   refine RH.a [] ?_
   refine RH.free (i:=64) rfl ?_
   have hel2:(bT ++ entB l[i]).length ≤ lim:=by unfold entB;simp;have:=l[i].2.h;omega
   rw [← hts] at hel2 ⊢
   refine RH.again (i+1,(A3,c3)) (.head _) rfl rfl (by dsimp only;omega) λu h=>⟨⟨h.1.1.1.1,λv hv _=>Sl.own (hoL h.2 hv) hel2⟩,by dsimp only;omega⟩
  ·refine opD_go rfl rfl (OpGo.strBytes (s:=l[i].1) rfl rfl (by omega)) 61 (λ_=>rfl) (λ_ _ h=>h.1) ?_
   rintro c8 m8 hm8
   refine RD.a [] ?_
   refine RD.s 60 5 ?_
   refine RD.a [] ?_
   refine RD.s 62 11 ?_
   refine RD.a [] ?_
   have hC:=Concat_spec (some ⟨m8+1,0,none⟩) 4 [⟨A2,c2,bT⟩,⟨some ⟨m8,0,none⟩,1,[UInt8.ofNat l[i].1.length]⟩,⟨some ⟨m4+1,0,none⟩,c8,l[i].1⟩,⟨some ⟨m4,1,none⟩,32,l[i].2.l⟩] (by simp [lenS];have:=l[i].2.h;omega)
   rw [hfm (some ⟨m8,0,none⟩) (some ⟨m4+1,0,none⟩) c8] at hC
   refine RD.doB (nx:=64) (i:=12) [] 65 (λy:Option Addr × Nat=>rowS 64 y.1 (bT ++ entB l[i]).length y.2) rfl (by kernel_rfl) rfl rfl rfl rfl Tryz.call115 hC rfl rfl (λ_=>rfl) (λ_=>rfl) (λu hu=>⟨?_,?_⟩) (λ_=>rfl) (λ_ h=>h.1) ?_
   ·have e:([⟨A2,c2,bT⟩,⟨some ⟨m8,0,none⟩,1,[UInt8.ofNat l[i].1.length]⟩,⟨some ⟨m4+1,0,none⟩,c8,l[i].1⟩,⟨some ⟨m4,1,none⟩,32,l[i].2.l⟩]:List (Row UInt8)).map sliOf=[(A2,bT.length,c2),(some ⟨m8,0,none⟩,1,1),(some ⟨m4+1,0,none⟩,l[i].1.length,c8),(some ⟨m4,1,none⟩,32,32)]:=by simp [l[i].2.h]
    rw [e]
    exact Sl.own (B:=m0) (hu.row (κ:=kSli) (l:=[(A2,bT.length,c2),(some ⟨m8,0,none⟩,1,1),(some ⟨m4+1,0,none⟩,l[i].1.length,c8),(some ⟨m4,1,none⟩,32,32)]) (id:=62) rfl) (by simp [hlim])
   ·intro r hr
    simp only [List.mem_cons,List.not_mem_nil,or_false] at hr
    rcases hr with rfl|rfl|rfl|rfl
    ·exact hu.fact.1.2.now trivial
    ·exact Sl.own (B:=m0) (hu.row (κ:=kBy) (l:=[UInt8.ofNat l[i].1.length]) (id:=60) rfl) (by simp [hlim])
    ·exact hu.fact.2
    ·exact sl_sum (range_take (n:=32) (hu.holds 55 _ rfl).2.1 (entC_sum l[i].1 l[i].2))
   rintro ⟨A3,c3⟩ m9 hm9
   refine RD.a [] ?_
   refine RD.e ?_
   refine RH.a [] ?_
   refine RH.free (i:=64) rfl ?_
   have hel2:(bT ++ entB l[i]).length ≤ lim:=by unfold entB;simp;have:=l[i].2.h;omega
   rw [← hts] at hel2 ⊢
   refine RH.again (i+1,(A3,c3)) (.head _) rfl rfl (by dsimp only;omega) λu h=>⟨⟨h.1.1.1.1,λv hv _=>Sl.own (hoL h.2 hv) hel2⟩,by dsimp only;omega⟩
 ·obtain rfl:i=l.length:=by omega
  rw [List.take_length]
  refine RH.a [false] ?_
  refine RH.ret1 Tryz.func44 rfl rfl λw hst=>⟨(A2,c2),rfl,hst.out [] rfl rfl λu h=>⟨h.1.1,h.2⟩⟩
def sumOf (l:List UInt8):Sum:=if h:l.length=32 then ⟨l,h⟩ else Sum.zero
abbrev noE:Str × Sum:=([],Sum.zero)
def nameAt (l:List UInt8) (a:Nat):Str:=(l.drop (a+1)).take (l.getD a 0).toNat
def rdOne (l:List UInt8) (a:Nat) (last:Str) (i:Nat):(Str × Sum) × Int × Int × Nat × Str :=
 if l.length=a then (noE,l.length,4,a,last)
 else if 60 < (l.getD a 0).toNat then (noE,a,11,a,last)
 else if l.length < a+33+(l.getD a 0).toNat then (noE,l.length,4,a,last)
 else if 0 < i/\cmpS3 (nameAt l a) last ≤ 0 then (noE,a+1,15,a,last)
 else ((nameAt l a,sumOf ((l.drop (a+1+(l.getD a 0).toNat)).take 32)),0,0,a+1+(l.getD a 0).toNat+32,nameAt l a)
theorem cmp_not {a b:Str}:¬ cmpS3 a b ≤ 0 ↔ Op.bytesLess b a=true:=by
 constructor
 ·intro h
  refine leS_false ?_
  cases hl:leS a b with
  | false=>rfl
  | true =>
   refine absurd ?_ h
   unfold cmpS3
   rw [hl]
   split<;>simp
 ·intro h hc
  rcases Int.lt_or_eq_of_le hc with h1|h1
  ·have:=less_trans h ((cmpS3_neg _ _).1 h1)
   rw [less_irrefl] at this;cases this
  ·rw [(cmpS3_zero _ _).1 h1,less_irrefl] at h;cases h
theorem sumOf_l {l:List UInt8} (h:l.length=32):(sumOf l).l=l:=by unfold sumOf;rw [dif_pos h]
theorem rdOne_ok {l:List UInt8} {a:Nat} {last:Str} {i:Nat} (ha:a ≤ l.length) (h:(rdOne l a last i).2.2.1=0) :
  ∃ x a',rdOne l a last i=(x,0,0,a',x.1)/\a' ≤ l.length/\a ≤ a'/\l.take a'=l.take a ++ entB x/\x.1.length ≤ 60/\(0 < i->Op.bytesLess last x.1=true):=by
 unfold rdOne at h ⊢
 split at h
 ·simp at h
 rename_i h0
 rw [if_neg h0]
 split at h
 ·simp at h
 rename_i h60
 rw [if_neg h60]
 split at h
 ·simp at h
 rename_i hs
 rw [if_neg hs]
 split at h
 ·simp at h
 rename_i hc
 rw [if_neg hc]
 have hlt:a < l.length:=by omega
 have hg:l.getD a 0=l[a]:=by rw [List.getD_eq_getElem?_getD,List.getElem?_eq_getElem hlt];rfl
 have hnl:(nameAt l a).length=(l.getD a 0).toNat:=by unfold nameAt;rw [List.length_take,List.length_drop];omega
 refine ⟨_,_,rfl,by omega,by omega,?_,by show (nameAt l a).length ≤ 60;omega,λhi=>cmp_not.1 λhle=>hc ⟨hi,hle⟩⟩
 have hx:((l.drop (a+1+(l.getD a 0).toNat)).take 32).length=32:=by rw [List.length_take,List.length_drop];omega
 unfold entB
 show _=l.take a ++ (UInt8.ofNat (nameAt l a).length :: (nameAt l a ++ (sumOf _).l))
 rw [sumOf_l hx,hnl,UInt8.ofNat_toNat]
 rw [show a+1+(l.getD a 0).toNat+32=a+(1+((l.getD a 0).toNat+32)) by omega,List.take_add,List.drop_eq_getElem_cons hlt,hg]
 congr 1
 rw [Nat.add_comm 1,List.take_succ_cons]
 congr 1
 rw [List.take_add,List.drop_drop]
 unfold nameAt
 rw [hg]
theorem rdOne_at {l:List UInt8} {a:Nat} {last:Str} {i:Nat} (ha:a ≤ l.length):0 ≤ (rdOne l a last i).2.1/\(rdOne l a last i).2.1 ≤ l.length:=by
 unfold rdOne
 split
 ·simp
 split
 ·simp;omega
 split
 ·simp
 split
 ·simp;omega
 ·simp
def rdK (l:List UInt8):Nat->(Int × Int) ⊕ (Nat × Str × List (Str × Sum))
 | 0=>.inr (2,[],[])
 | i+1=>match rdK l i with
  | .inl e=>.inl e
  | .inr y=>if (rdOne l y.1 y.2.1 i).2.2.1=0 then .inr ((rdOne l y.1 y.2.1 i).2.2.2.1,(rdOne l y.1 y.2.1 i).2.2.2.2,y.2.2 ++ [(rdOne l y.1 y.2.1 i).1]) else .inl ((rdOne l y.1 y.2.1 i).2.1,(rdOne l y.1 y.2.1 i).2.2.1)
def manyB (l:List UInt8):Nat:=(l.getD 0 0).toNat*256+(l.getD 1 0).toNat
noncomputable def decL (l:List UInt8):Option Tree × Int × Int :=
 if l.length < 2 then (none,l.length,4)
 else if 600 < manyB l then (none,0,12)
 else match rdK l (manyB l) with
  | .inl e=>(none,e)
  | .inr y=>if y.1 < l.length then (none,y.1,4) else (fromO y.2.2,0,0)
def lastN (l:List (Str × Sum)):Str:=match l.getLast? with
 | some e=>e.1
 | none=>[]
theorem lastN_snoc (l:List (Str × Sum)) (x:Str × Sum):lastN (l ++ [x])=x.1:=by unfold lastN;rw [List.getLast?_concat]
theorem rise_snoc {l:List (Str × Sum)} {x:Str × Sum}:Rise (l ++ [x]) ↔ Rise l/\(0 < l.length->Op.bytesLess (lastN l) x.1=true):=by
 unfold Rise
 rw [List.pairwise_append]
 constructor
 ·rintro ⟨h1,_,h3⟩
  refine ⟨h1,λhl=>?_⟩
  obtain ⟨l',z,rfl⟩:∃ l' z,l=l' ++ [z]:=⟨l.dropLast,l.getLast (List.ne_nil_of_length_pos hl),(List.dropLast_concat_getLast _).symm⟩
  rw [lastN_snoc]
  exact h3 z (by simp) x (by simp)
 ·rintro ⟨h1,h2⟩
  refine ⟨h1,List.pairwise_singleton _ _,λe he y hy=>?_⟩
  rw [List.mem_singleton] at hy
  subst hy
  have hl:0 < l.length:=List.length_pos_of_mem he
  have h3:=h2 hl
  obtain ⟨l',z,rfl⟩:∃ l' z,l=l' ++ [z]:=⟨l.dropLast,l.getLast (List.ne_nil_of_length_pos hl),(List.dropLast_concat_getLast _).symm⟩
  rw [lastN_snoc] at h3
  rw [List.mem_append,List.mem_singleton] at he
  rcases he with he|rfl
  ·exact less_trans ((List.pairwise_append.1 h1).2.2 e he z (by simp)) h3
  ·exact h3
theorem rdK_ok {l:List UInt8} (hl:2 ≤ l.length):∀ i (y:Nat × Str × List (Str × Sum)),rdK l i = .inr y →
  y.1 ≤ l.length/\2 ≤ y.1/\y.2.2.length=i/\l.take y.1=l.take 2 ++ y.2.2.flatMap entB/\(∀ e ∈ y.2.2,e.1.length ≤ 60)/\Rise y.2.2/\y.2.1=lastN y.2.2
 | 0,y,h=>by
  injection h with h
  subst h
  exact ⟨hl,Nat.le_refl _,rfl,by simp,by simp,List.Pairwise.nil,rfl⟩
 | i+1,y,h=>by
  rw [rdK] at h
  cases hk:rdK l i with
  | inl e=>rw [hk] at h;cases h
  | inr z =>
   rw [hk] at h
   dsimp only at h
   obtain ⟨h1,h0,h2,h3,h4,h5,h6⟩:=rdK_ok hl i z hk
   by_cases hz:(rdOne l z.1 z.2.1 i).2.2.1=0
   ·rw [if_pos hz] at h
    injection h with h
    subst h
    obtain ⟨x,a',he,g1,g0,g2,g3,g4⟩:=rdOne_ok h1 hz
    rw [he]
    refine ⟨g1,by show 2 ≤ a';omega,by simp [h2],?_,?_,?_,(lastN_snoc _ _).symm⟩
    ·show l.take a'=_
     rw [g2,h3];simp
    ·intro e hm
     rw [List.mem_append,List.mem_singleton] at hm
     rcases hm with hm|rfl
     ·exact h4 e hm
     ·exact g3
    ·exact rise_snoc.2 ⟨h5,λhp=>by rw [← h6];exact g4 (by omega)⟩
   ·rw [if_neg hz] at h;cases h
theorem rdK_bad {l:List UInt8} (hl:2 ≤ l.length):∀ i e,rdK l i = .inl e->0 ≤ e.1/\e.1 ≤ l.length/\e.2 ≠ 0
 | 0,e,h=>by cases h
 | i+1,e,h=>by
  rw [rdK] at h
  cases hk:rdK l i with
  | inl e'=>rw [hk] at h;injection h with h;subst h;exact rdK_bad hl i _ hk
  | inr z =>
   rw [hk] at h
   dsimp only at h
   by_cases hz:(rdOne l z.1 z.2.1 i).2.2.1=0
   ·rw [if_pos hz] at h;cases h
   ·rw [if_neg hz] at h
    injection h with h
    subst h
    have:=rdOne_at (last:=z.2.1) (i:=i) (rdK_ok hl i z hk).1
    exact ⟨this.1,this.2,hz⟩
theorem rise_nodup {l:List (Str × Sum)} (h:Rise l):(l.map Prod.fst).Nodup:=by
 rw [List.Nodup,List.pairwise_map]
 refine h.imp fun {a b} h e=>?_
 rw [e,less_irrefl] at h
 cases h
theorem rise_perm {l l':List (Str × Sum)} (h:l.Perm l') (hl:Rise l) (hl':Rise l'):l=l' :=
 h.eq_of_pairwise (λa b _ _ h1 h2=>by have:=less_trans h1 h2;rw [less_irrefl] at this;cases this) hl hl'
theorem ents_from {l:List (Str × Sum)} (h:Rise l):enO (fromO l)=l:=rise_perm (ents_perm (rise_nodup h)) (entsO_rise (wf_from l)) h
theorem from_ents {t:Option Tree} (h:wfO t):fromO (enO t)=t:=entsO_inj (wf_from _) h (ents_from (entsO_rise h))
theorem two_manyB {l:List UInt8} (h:2 ≤ l.length):twoL (manyB l)=l.take 2:=by
 match l,h with
 | a :: b :: r,_ =>
  unfold manyB twoL
  have hb:=UInt8.toNat_lt b
  have ha:=UInt8.toNat_lt a
  have e1:UInt8.ofNat ((a.toNat*256+b.toNat) / 256)=a:=by
   apply UInt8.toNat_inj.1
   rw [UInt8.toNat_ofNat'];omega
  have e2:UInt8.ofNat (a.toNat*256+b.toNat)=b:=by
   apply UInt8.toNat_inj.1
   rw [UInt8.toNat_ofNat'];omega
  show [UInt8.ofNat ((a.toNat*256+b.toNat) / 256),UInt8.ofNat (a.toNat*256+b.toNat)]=[a,b]
  rw [e1,e2]
theorem dec_ok {l:List UInt8} {o:Option Tree} {k:Int} (h:decL l=(o,k,0)):k=0/\encL o=l/\wfO o/\lowO 60 o/\maO o ≤ 600/\∃ es,o=fromO es/\es.length ≤ 600/\∀ e ∈ es,e.1.length ≤ 60:=by
 unfold decL at h
 split at h
 ·injection h with _ h;injection h with _ h;cases h
 rename_i h2
 split at h
 ·injection h with _ h;injection h with _ h;cases h
 rename_i h600
 cases hk:rdK l (manyB l) with
 | inl e =>
  rw [hk] at h
  have:=rdK_bad (by omega) _ e hk
  injection h with _ h
  rw [h] at this
  exact absurd rfl this.2.2
 | inr y =>
  rw [hk] at h
  dsimp only at h
  obtain ⟨h1,h0,h3,h4,h5,h6,_⟩:=rdK_ok (by omega) _ y hk
  by_cases hlt:y.1 < l.length
  ·rw [if_pos hlt] at h;injection h with _ h;injection h with _ h;cases h
  ·rw [if_neg hlt] at h
   injection h with ho h
   injection h with h _
   subst ho
   have hents:=ents_from h6
   have hmany:maO (fromO y.2.2)=manyB l:=by rw [← entsO_many,hents,h3]
   refine ⟨h.symm,?_,wf_from _,λn x hx=>?_,by omega,y.2.2,rfl,by omega,h5⟩
   ·unfold encL
    rw [hmany,hents,two_manyB (by omega),← h4]
    exact List.take_of_length_le (by omega)
   ·rw [← meO (wf_from _),hents] at hx
    exact h5 _ hx
theorem dec_bad {l:List UInt8} {o:Option Tree} {k e:Int} (h:decL l=(o,k,e)) (he:e ≠ 0):o=none/\0 ≤ k/\k ≤ l.length:=by
 unfold decL at h
 split at h
 ·injection h with h1 h;injection h with h _;subst h;exact ⟨h1.symm,by omega,by omega⟩
 split at h
 ·injection h with h1 h;injection h with h _;subst h;exact ⟨h1.symm,by omega,by omega⟩
 cases hk:rdK l (manyB l) with
 | inl z =>
  rw [hk] at h
  have:=rdK_bad (by omega) _ z hk
  injection h with h1 h
  rw [h] at this
  exact ⟨h1.symm,this.1,this.2.1⟩
 | inr y =>
  rw [hk] at h
  dsimp only at h
  split at h
  ·injection h with h1 h;injection h with h _;subst h;exact ⟨h1.symm,by omega,by omega⟩
  ·injection h with _ h;injection h with _ h;exact absurd h.symm he
section
variable {n:Nat} {B0:Nat} {I:World->Prop} {H:Heap} {m:Nat} {env:SEnv}
theorem V.OpGo.byteStrP {d:Nat} {x:Operand} {ty:TypeId} {ps:String} {af:Array Edge} {gd:Option (Nat × Bool)} {ex:EV} {A:Option Addr} {c:Nat} {l:List UInt8}
  (hd:Nat.blt d n=true) (hx:evE env x=some ex) (hxv:ex.v = .slice A l.length c) (hp:Ptr A) (hl:∀ w,St tb B0 H I w->Sl kBy w A c l) :
  OpGo Tryz.prog tb B0 n ⟨some d,.convert 22 9 x,ty,ps,af,gd⟩ env H m I (λ_:Unit=>(d,strE l) :: env) (λ_=>H) (λ_=>I):=by
 intro w a hm hst ha
 have hdn:d < n:=Nat.lt_of_lt_of_le (Nat.lt_succ_self d) (Nat.le_of_ble_eq_true hd)
 have hs:=hl w hst
 have hxv':a.eval x = .slice A l.length c:=(ev_run ha hx).trans hxv
 unfold Ptr at hp
 have h:=run_convert_bytes_back (P:=Tryz.prog) w 22 9 5 ⟨blkA A,offA A,none⟩ c l (tk.und rfl) (tk.und rfl) (tk.und rfl) (λj hj=>by
  rw [Addr.add_lit]
  refine hs.cells j _ ?_
  rw [← map_flat,List.getElem?_map,List.getElem?_eq_getElem hj]
  rfl)
 unfold Oper.wp
 have:(execOp a.eval ⟨some d,.convert 22 9 x,ty,ps,af,gd⟩).run Tryz.prog w = .ok (.value (strV l)) w:=by
  simp only [execOp,hxv']
  rw [hp,Sem.run_bind,h]
  rfl
 rw [this]
 refine ⟨(),?_,by rw [← hm];exact Nat.le_refl _,hst⟩
 rw [kn_cons];exact ha.put hdn _
end
mutual
def Tree.all:Tree->List Tree
 | .node s v k=>.node s v k :: k.all
def Kids.all:Kids->List Tree
 | .nil=>[]
 | .cons _ t r=>t.all ++ r.all
end
def Tree.stem:Tree->Str|.node s _ _=>s
theorem getC_cons (p:Str × TChg) (r:List (Str × TChg)) (k:Str):getC (p :: r) k=if k=p.1 then some p.2 else getC r k:=by
 have hsh:∀ (l:List (Str × TChg)) (n m:Nat),(findC k l n).map Prod.snd=(findC k l m).map Prod.snd:=by
  intro l
  induction l with
  | nil=>intro n m;rfl
  | cons q r ih =>
   intro n m
   unfold findC
   split
   ·rfl
   ·exact ih _ _
 unfold getC
 rw [findC]
 split
 ·rfl
 ·exact hsh r _ _
theorem setC_cons (p:Str × TChg) (r:List (Str × TChg)) (k:Str) (c:TChg):setC (p :: r) k c=if k=p.1 then (k,c) :: r else p :: setC r k c:=by
 have hsh:∀ (l:List (Str × TChg)) (n:Nat),findC k l (n+1)=(findC k l n).map λz=>(z.1+1,z.2):=by
  intro l
  induction l with
  | nil=>intro n;rfl
  | cons q r ih =>
   intro n
   unfold findC
   split
   ·rfl
   ·exact ih _
 unfold setC
 rw [findC]
 by_cases e:k=p.1
 ·rw [if_pos e,if_pos e];rfl
 ·rw [if_neg e,if_neg e,hsh r 0]
  cases findC k r 0 with
  | none=>rfl
  | some z=>rfl
theorem setC_nil (k:Str) (c:TChg):setC [] k c=[(k,c)]:=rfl
theorem getC_setC:∀ (l:List (Str × TChg)) (k:Str) (c:TChg) (n:Str),getC (setC l k c) n=if n=k then some c else getC l n
 | [],k,c,n=>by rw [setC_nil,getC_cons]
 | p :: r,k,c,n=>by
  rw [setC_cons]
  by_cases e:k=p.1
  ·rw [if_pos e,getC_cons,getC_cons]
   by_cases h:n=k
   ·rw [if_pos h,if_pos h]
   ·rw [if_neg h,if_neg h,if_neg (λx=>h (x.trans e.symm))]
  ·rw [if_neg e,getC_cons,getC_cons,getC_setC r k c n]
   by_cases h:n=p.1
   ·rw [if_pos h,if_pos h,if_neg (λx=>e (x.symm.trans h))]
   ·rw [if_neg h,if_neg h]
theorem keys_setC:∀ (l:List (Str × TChg)) (k:Str) (c:TChg) (n:Str),n ∈ (setC l k c).map Prod.fst ↔ n=k ∨ n ∈ l.map Prod.fst
 | [],k,c,n=>by simp [setC_nil]
 | p :: r,k,c,n=>by
  rw [setC_cons]
  by_cases e:k=p.1
  ·rw [if_pos e];simp [← e]
  ·rw [if_neg e,List.map_cons,List.mem_cons,keys_setC r k c n,List.map_cons,List.mem_cons]
   constructor
   ·rintro (h|h|h)
    ·exact .inr (.inl h)
    ·exact .inl h
    ·exact .inr (.inr h)
   ·rintro (h|h|h)
    ·exact .inr (.inl h)
    ·exact .inl h
    ·exact .inr (.inr h)
theorem nodup_setC:∀ (l:List (Str × TChg)) (k:Str) (c:TChg),(l.map Prod.fst).Nodup->((setC l k c).map Prod.fst).Nodup
 | [],k,c,_=>by simp [setC_nil]
 | p :: r,k,c,h=>by
  rw [List.map_cons,List.nodup_cons] at h
  rw [setC_cons]
  by_cases e:k=p.1
  ·rw [if_pos e,List.map_cons,List.nodup_cons]
   exact ⟨by show k ∉ _;rw [e];exact h.1,h.2⟩
  ·rw [if_neg e,List.map_cons,List.nodup_cons]
   refine ⟨λhm=>?_,nodup_setC r k c h.2⟩
   rcases (keys_setC r k c _).1 hm with h1|h1
   ·exact e h1.symm
   ·exact h.1 h1
theorem getC_keys (l:List (Str × TChg)) (n:Str):(getC l n).isSome=true ↔ n ∈ l.map Prod.fst:=by
 induction l with
 | nil=>simp [getC,findC]
 | cons p r ih =>
  rw [getC_cons,List.map_cons,List.mem_cons]
  by_cases e:n=p.1
  ·simp [e]
  ·rw [if_neg e,ih];simp [e]
theorem foldA_out:∀ (l:List (Str × Sum)) (L:List (Str × TChg)) (k:Str),k ∉ l.map Prod.fst->getC (l.foldl diffA L) k=getC L k
 | [],_,_,_=>rfl
 | e :: r,L,k,h=>by
  rw [List.map_cons,List.mem_cons,not_or] at h
  rw [List.foldl_cons,foldA_out r _ k h.2]
  unfold diffA
  rw [getC_setC,if_neg h.1]
theorem foldA_in:∀ (l:List (Str × Sum)) (L:List (Str × TChg)) (k:Str) (x:Sum),(l.map Prod.fst).Nodup->(k,x) ∈ l->getC (l.foldl diffA L) k=some ⟨k,true,false,x,Sum.zero⟩
 | [],_,_,_,_,h=>by cases h
 | e :: r,L,k,x,hd,h=>by
  rw [List.map_cons,List.nodup_cons] at hd
  rw [List.foldl_cons]
  rcases List.mem_cons.1 h with rfl|h
  ·rw [foldA_out r _ k hd.1]
   unfold diffA
   rw [getC_setC,if_pos rfl]
  ·exact foldA_in r _ k x hd.2 h
theorem foldB_out:∀ (l:List (Str × Sum)) (L:List (Str × TChg)) (k:Str),k ∉ l.map Prod.fst->getC (l.foldl diffB L) k=getC L k
 | [],_,_,_=>rfl
 | e :: r,L,k,h=>by
  rw [List.map_cons,List.mem_cons,not_or] at h
  rw [List.foldl_cons,foldB_out r _ k h.2]
  unfold diffB
  rw [getC_setC,if_neg h.1]
theorem foldB_in:∀ (l:List (Str × Sum)) (L:List (Str × TChg)) (k:Str) (x:Sum),(l.map Prod.fst).Nodup->(k,x) ∈ l->getC (l.foldl diffB L) k=some ⟨k,((getC L k).getD TChg.none_).had,true,((getC L k).getD TChg.none_).old,x⟩
 | [],_,_,_,_,h=>by cases h
 | e :: r,L,k,x,hd,h=>by
  rw [List.map_cons,List.nodup_cons] at hd
  rw [List.foldl_cons]
  rcases List.mem_cons.1 h with rfl|h
  ·rw [foldB_out r _ k hd.1]
   unfold diffB
   rw [getC_setC,if_pos rfl]
  ·have hne:k ≠ e.1:=λhe=>hd.1 (by rw [← he];exact List.mem_map.2 ⟨(k,x),h,rfl⟩)
   rw [foldB_in r _ k x hd.2 h]
   have:getC (diffB L e) k=getC L k:=by unfold diffB;rw [getC_setC,if_neg hne]
   rw [this]
theorem nodupA:∀ (l:List (Str × Sum)) (L:List (Str × TChg)),(L.map Prod.fst).Nodup->((l.foldl diffA L).map Prod.fst).Nodup
 | [],_,h=>h
 | _ :: r,_,h=>nodupA r _ (nodup_setC _ _ _ h)
theorem nodupB:∀ (l:List (Str × Sum)) (L:List (Str × TChg)),(L.map Prod.fst).Nodup->((l.foldl diffB L).map Prod.fst).Nodup
 | [],_,h=>h
 | _ :: r,_,h=>nodupB r _ (nodup_setC _ _ _ h)
def cOf (s t:Option Tree) (k:Str):TChg:=⟨k,(getO s k).isSome,(getO t k).isSome,(getO s k).getD Sum.zero,(getO t k).getD Sum.zero⟩
theorem mem_keys {t:Option Tree} (h:wfO t) (k:Str):k ∈ (enO t).map Prod.fst ↔ (getO t k).isSome=true:=by
 rw [List.mem_map]
 constructor
 ·rintro ⟨⟨n,x⟩,h1,rfl⟩
  rw [(meO h _ _).1 h1];rfl
 ·intro hs
  obtain ⟨x,hx⟩:=Option.isSome_iff_exists.1 hs
  exact ⟨(k,x),(meO h _ _).2 hx,rfl⟩
theorem getC_diffM {s t:Option Tree} (hs:wfO s) (ht:wfO t) (k:Str):getC (diffM s t) k=if (getO s k).isSome=true ∨ (getO t k).isSome=true then some (cOf s t k) else none:=by
 have h1:getC ((enO s).foldl diffA []) k=if (getO s k).isSome=true then some ⟨k,true,false,(getO s k).getD Sum.zero,Sum.zero⟩ else none:=by
  cases hg:getO s k with
  | none =>
   rw [foldA_out _ _ _ (by rw [mem_keys hs,hg];simp)];rfl
  | some x =>
   rw [foldA_in _ _ k x (ents_nodup hs) ((meO hs _ _).2 hg)];rfl
 unfold diffM
 cases hg:getO t k with
 | none =>
  rw [foldB_out _ _ _ (by rw [mem_keys ht,hg];simp),h1]
  cases hg2:getO s k with
  | none=>rfl
  | some x=>simp [cOf,hg,hg2]
 | some x =>
  rw [foldB_in _ _ k x (ents_nodup ht) ((meO ht _ _).2 hg),h1]
  cases hg2:getO s k with
  | none=>simp [cOf,hg,hg2,TChg.none_]
  | some y=>simp [cOf,hg,hg2]
def dks (s t:Option Tree):List Str:=(sortN ((diffM s t).map Prod.fst)).filter λk=>decide (getO s k ≠ getO t k)
theorem sortN_mem (l:List Str) (k:Str):k ∈ sortN l ↔ k ∈ l:=(List.mergeSort_perm l _).mem_iff
theorem mem_diffM {s t:Option Tree} (hs:wfO s) (ht:wfO t) (k:Str):k ∈ (diffM s t).map Prod.fst ↔ ((getO s k).isSome=true ∨ (getO t k).isSome=true):=by
 rw [← getC_keys,getC_diffM hs ht]
 split<;>simp_all
theorem mem_dks {s t:Option Tree} (hs:wfO s) (ht:wfO t) (k:Str):k ∈ dks s t ↔ getO s k ≠ getO t k:=by
 unfold dks
 rw [List.mem_filter,sortN_mem,mem_diffM hs ht,decide_eq_true_iff]
 constructor
 ·exact λh=>h.2
 ·intro h
  refine ⟨?_,h⟩
  cases h1:getO s k with
  | some x=>exact .inl rfl
  | none =>
   cases h2:getO t k with
   | some x=>exact .inr rfl
   | none=>rw [h1,h2] at h;exact absurd rfl h
theorem diffL_eq {s t:Option Tree} (hs:wfO s) (ht:wfO t):diffL s t=(dks s t).map (cOf s t):=by
 have h:∀ l:List Str,(∀ k ∈ l,(getO s k).isSome=true ∨ (getO t k).isSome=true)->l.flatMap (diff1 (diffM s t))=(l.filter λk=>decide (getO s k ≠ getO t k)).map (cOf s t):=by
  intro l
  induction l with
  | nil=>intro _;rfl
  | cons k r ih =>
   intro h
   have hk:=h k (.head _)
   rw [List.flatMap_cons,ih λz hz=>h z (.tail _ hz),List.filter_cons]
   unfold diff1
   rw [getC_diffM hs ht,if_pos hk]
   dsimp only [Option.getD_some]
   by_cases e:getO s k=getO t k
   ·have hd:decide (getO s k ≠ getO t k)=false:=by simp [e]
    rw [hd,if_pos]
    ·rfl
    ·unfold cOf
     rw [e] at hk ⊢
     have:(getO t k).isSome=true:=by rcases hk with h|h<;>exact h
     simp [this]
   ·have hd:decide (getO s k ≠ getO t k)=true:=by simp [e]
    rw [hd,if_neg]
    ·rfl
    ·intro hc
     unfold cOf at hc
     injection hc with _ c2 c3 _ c5
     obtain ⟨x,hx⟩:=Option.isSome_iff_exists.1 c2
     obtain ⟨y,hy⟩:=Option.isSome_iff_exists.1 c3
     rw [hx,hy] at c5 e
     simp at c5
     exact e (by rw [c5])
 exact h _ λk hk=>(mem_diffM hs ht k).1 ((sortN_mem _ _).1 hk)
theorem sortN_rise {l:List Str} (h:l.Nodup):(sortN l).Pairwise λa b=>Op.bytesLess a b=true:=by
 have e:(l.map λk=>(k,Sum.zero)).map Prod.fst=l:=by rw [List.map_map];exact List.map_id _
 have h2:((l.map λk=>(k,Sum.zero)).map Prod.fst).Nodup:=by rw [e];exact h
 have h3:=names_sorted h2
 rw [e] at h3
 rw [← h3,List.pairwise_map]
 exact entsO_rise (wf_from _)
theorem dks_rise (s t:Option Tree):(dks s t).Pairwise λa b=>Op.bytesLess a b=true :=
 (sortN_rise (by unfold diffM;exact nodupB _ _ (nodupA _ _ List.nodup_nil))).sublist List.filter_sublist
theorem dks_nodup (s t:Option Tree):(dks s t).Nodup:=(dks_rise s t).imp fun {a b} h e=>by rw [e,less_irrefl] at h;cases h
theorem nodup_len:∀ (l l':List Str),l.Nodup->(∀ k ∈ l,k ∈ l')->l.length ≤ l'.length
 | [],_,_,_=>Nat.zero_le _
 | k :: r,l',h,hs=>by
  rw [List.nodup_cons] at h
  have hk:=hs k (.head _)
  have h1:=nodup_len r (l'.erase k) h.2 λz hz=>(List.mem_erase_of_ne (λe=>h.1 (by rw [← e];exact hz))).2 (hs z (.tail _ hz))
  rw [List.length_erase_of_mem hk] at h1
  have:=List.length_pos_of_mem hk
  rw [List.length_cons];omega
theorem dks_len {s t:Option Tree} (hs:wfO s) (ht:wfO t):(dks s t).length ≤ maO s+maO t:=by
 have hsub:∀ k ∈ dks s t,k ∈ (enO s).map Prod.fst ++ (enO t).map Prod.fst:=λk hk=>by
  have h1:k ∈ (diffM s t).map Prod.fst:=(sortN_mem _ _).1 (List.mem_filter.1 hk).1
  rw [List.mem_append,mem_keys hs,mem_keys ht]
  exact (mem_diffM hs ht k).1 h1
 have:=nodup_len _ _ (dks_nodup s t) hsub
 rw [List.length_append,List.length_map,List.length_map,entsO_many,entsO_many] at this
 exact this
def stepO (m:Option Tree) (c:TChg):Option Tree × Int :=
 if (c.had=false/\c.has=false) ∨ (c.had=false/\c.old ≠ Sum.zero) ∨ (c.has=false/\c.new ≠ Sum.zero) then (none,4)
 else if 60 < c.name.length then (none,11)
 else if c.had ≠ (getO m c.name).isSome ∨ (c.had=true/\c.old ≠ (getO m c.name).getD Sum.zero) then (none,7)
 else if c.has=true then (if (getO m c.name).isSome=false/\600 ≤ maO m then (none,12) else (some (putO m c.name c.new),0))
 else (dropO m c.name,0)
def applyO:Option Tree->List TChg->Option Tree × Int
 | m,[]=>(m,0)
 | m,c :: r=>if (stepO m c).2=0 then applyO (stepO m c).1 r else (none,(stepO m c).2)
structure Deed where
 had:Bool
 has:Bool
 g:FuncId
abbrev deedF (d:Deed):List AV:=[.val (.bool d.had),.val (.bool d.has),.val (.func (.func d.g) #[] #[])]
theorem vok_deed (d:Deed):VOk tb 209 (EV.st (deedF d)).v:=by
 refine ⟨_,Tryz.t209,rfl,rfl,rfl,?_⟩
 intro u hu
 have hu:u ∈ [Value.bool d.had,.bool d.has,.func (.func d.g) #[] #[]]:=hu
 simp only [List.mem_cons,List.not_mem_nil,or_false] at hu
 rcases hu with rfl|rfl|rfl<;>rfl
def kDeed:Kd Deed where
 T:=209
 sz:=3
 ev d:=.st (deedF d)
 ok d:=vok_deed d
 size d:=rfl
abbrev deedsL:List Deed:=[⟨true,true,200⟩,⟨false,true,200⟩,⟨true,false,201⟩,⟨false,false,202⟩]
theorem deeds_spec:Does Tryz.prog tb 128 [] [] (λ_=>True) (λb:Nat=>.slice (some ⟨b,0,none⟩) 4 4) (λb=>[(0,rowE kDeed (some ⟨b,0,none⟩) 4 deedsL)]) (λ_ _ _=>True):=by
 refine Does.enter tk [] Tryz.func128 rfl Tryz.ntmps128 rfl rfl 0 ?_
 intro B0 m0 K
 refine RH.a [] ?_
 refine RH.ret1 Tryz.func128 rfl rfl λw hst=>⟨m0,rfl,hst.out [] rfl rfl λu h=>⟨h.1,trivial⟩⟩
theorem idxFD_spec (w:World) (A:Option Addr) (c:Nat) (l:List Deed) (h:Sl kDeed w A c l) (g:FuncId) (f1 c1:List Value) (p:Deed->Bool) (hf:Fun1 kDeed w g f1 c1 l p) :
  Gives Tryz.prog 127 [.slice A l.length c,.func (.func g) f1.toArray c1.toArray] w (intE (idxOf p l 0)):=by
 have hl:lim=140737488351232:=rfl
 have hsm:=h.small
 refine enterH tk [(0,slE A l.length c),(1,.av (.val (.func (.func g) f1.toArray c1.toArray)))] Tryz.func127 rfl Tryz.ntmps127 rfl rfl ?_
 refine RH.a [] ?_
 refine RH.loop (α:=Nat) (λi=>[(0,slE A l.length c),(1,.av (.val (.func (.func g) f1.toArray c1.toArray))),(7,intE l.length),(8,intE i)]) (λ_=>[]) (λi w'=>Ext w w'/\i ≤ l.length/\(l.take i).any p=false) (λi=>l.length - i) 0
  rfl rfl (λw' h=>⟨h,Nat.zero_le _,rfl⟩) ?_
 intro i m
 refine RH.pure (λw' h=>h.2) λ⟨hi,hpre⟩=>?_
 by_cases hlt:i < l.length
 ·have hts:l.take (i+1)=l.take i ++ [l[i]]:=List.take_succ_eq_append_getElem hlt
  refine RH.adv tk [true] rfl rfl (by simp [h.ptr hlt]<;>omega) ?_
  refine RH.load (.st (deedF l[i])) rfl rfl rfl rfl (λw' h'=>(h.ext h'.1).load hlt) ?_
  refine RH.gives (g:=g) (f1:=f1) (c1:=c1) (boE (p l[i])) rfl rfl rfl rfl rfl hf.enter (λw' hst=>hf.says _ (List.getElem_mem hlt) w' hst.fact.1) ?_
  intro m' hm'
  by_cases hp:p l[i]=true
  ·refine RH.adv tk [true] rfl rfl (by simp [hp]<;>omega) ?_
   refine RH.ret1 Tryz.func127 rfl rfl λw' hst=>⟨?_,hst.fact.1⟩
   rw [idxOf_at p l 0 i hlt hpre hp,Nat.zero_add]
  ·refine RH.adv tk [false] rfl rfl (by simp [hp]<;>omega) ?_
   refine RH.again (i+1) (.head _) rfl rfl (by omega) λw' h=>⟨h.1,by omega,?_⟩
   rw [hts,List.any_append,hpre];simp [hp]
 ·rw [List.take_of_length_le (by omega)] at hpre
  refine RH.a [false] ?_
  refine RH.ret1 Tryz.func127 rfl rfl λw' hst=>⟨?_,hst.fact.1⟩
  rw [idxOf_none p l 0 hpre]
def deedAt (c:TChg):Nat:=if c.has=true then (if c.had=true then 0 else 1) else (if c.had=true then 2 else 3)
theorem load_had {w:World} {b:Nat} {c:TChg} {T:TypeId} {fr:Nat × Nat} (h:w.heap[b]? = some (.cells (boxCells (tchF c)) T fr)):(loadVar 4 ⟨b,1,none⟩).run Tryz.prog w = .ok (.bool c.had) w :=
 V.run_load tk ⟨rfl,Tryz.t4,rfl,rfl⟩ (range_take (n:=1) h rfl)
theorem load_has {w:World} {b:Nat} {c:TChg} {T:TypeId} {fr:Nat × Nat} (h:w.heap[b]? = some (.cells (boxCells (tchF c)) T fr)):(loadVar 4 ⟨b,2,none⟩).run Tryz.prog w = .ok (.bool c.has) w :=
 V.run_load tk ⟨rfl,Tryz.t4,rfl,rfl⟩ (range_take (n:=1) h rfl)
theorem apply1_spec (w:World) (d:Deed) (b:Nat) (c:TChg) (T:TypeId) (fr:Nat × Nat) (h:w.heap[b]? = some (.cells (boxCells (tchF c)) T fr)):Gives Tryz.prog 129 [(EV.st (deedF d)).v,ptrV b] w (boE (decide (d.had=c.had) && decide (d.has=c.has))):=by
 refine enterH tk [(0,.st (deedF d)),(1,ptrAt b)] Tryz.func129 rfl Tryz.ntmps129 rfl rfl ?_
 have hx:∀ u,Ext w u->u.heap[b]? = some (.cells (boxCells (tchF c)) T fr):=λu he=>by
  rw [he.block b (Array.getElem?_eq_some_iff.1 h).1];exact h
 refine RH.a [] ?_
 refine RH.load (boE c.had) rfl rfl rfl rfl (λu hu=>load_had (hx u hu)) ?_
 by_cases e1:d.had=c.had
 ·refine RH.adv tk [true] rfl rfl (by simp [e1]<;>omega) ?_
  refine RH.load (boE c.has) rfl rfl rfl rfl (λu hu=>load_has (hx u hu)) ?_
  refine RH.a [] ?_
  refine RH.ret1 Tryz.func129 rfl rfl λu hst=>⟨?_,hst.fact⟩
  rw [decide_eq_true e1,Bool.true_and]
  cases d.has<;>cases c.has<;>rfl
 ·refine RH.adv tk [false] rfl rfl (by simp [e1]<;>omega) ?_
  refine RH.ret1 Tryz.func129 rfl rfl λu hst=>⟨?_,hst.fact⟩
  rw [decide_eq_false e1,Bool.false_and]
  rfl
theorem deedAt_idx (c:TChg):idxOf (λd:Deed=>decide (d.had=c.had) && decide (d.has=c.has)) deedsL 0=deedAt c:=by
 obtain ⟨n,a,b,o,w⟩:=c
 cases a<;>cases b<;>rfl
theorem deed1_ok (po:Option Plot) (t:Option Tree) (ht:okO t) (c:TChg) (hn:c.name.length ≤ 60) (hok:(getO t c.name).isSome=true ∨ maO t ≠ 600) :
  Does Tryz.prog tb 200 [(mapE po).v,tchV c] [] (λu=>Glob u/\IsO u po t) (λL':Plot=>.tuple #[.agg #[ptrV L'.b],intV 0]) (λ_=>[]) (λL'=>Late (λu=>IsO u po t) (λu=>IT u L' (putO t c.name c.new))):=by
 have hz31:(Tryz.t31).size=1:=by kernel_rfl
 refine V.Does.enter0 [(0,mapE po),(1,.st (tchF c))] Tryz.func200 rfl Tryz.ntmps200 rfl rfl 0 ?_
 intro m0 K
 refine RH.pure (λu h=>(by rw [find_isSome h.2.2 ht];exact hok:(findO po t c.name).isSome=true ∨ maO t ≠ 600)) λhf=>?_
 refine RH.adv tk [] rfl rfl (by simp [sum_len,sz_sum,one_int,hz31,Value.oneCell',u8V]) ?_
 refine RH.dd [] 10 (λb1:Plot=>.av (.val (.tuple #[.agg #[ptrV b1.b],intV 0]))) rfl rfl rfl Tryz.call20 (Put_ok po t ht c.name c.new hn hf) (λu hu=>hu.fact.2) ?_
 rintro L1 m1 hm1
 refine RH.adv tk [] rfl rfl (by simp [hz31,Value.oneCell']) ?_
 refine V.RH.slotE 12 (mapE (some L1)) rfl rfl ?_
 refine RH.adv tk [] rfl rfl (by simp [hz31,Value.oneCell']) ?_
 exact RH.retBoxT tk (mapE (some L1)) Tryz.func200 rfl rfl rfl rfl rfl λw' hst=>⟨L1,rfl,hst.out [] rfl rfl λu h=>⟨h.1.1,λv hv hp=>h.2.up (by omega) hv hp⟩⟩
theorem deed1_full (w:World) (po:Option Plot) (t:Option Tree) (h:IsO w po t) (ht:okO t) (c:TChg) (hn:c.name.length ≤ 60) (hg:getO t c.name=none) (hm:maO t=600) :
  Gives Tryz.prog 200 [(mapE po).v,tchV c] w (.av (.val (.tuple #[.agg #[.pointer none],intV 12]))):=by
 have hz31:(Tryz.t31).size=1:=by kernel_rfl
 have hf:findO po t c.name=none:=by
  have:=find_isSome h ht c.name
  rw [hg] at this
  cases hfo:findO po t c.name with
  | none=>rfl
  | some x=>rw [hfo] at this;cases this
 refine enterH tk [(0,mapE po),(1,.st (tchF c))] Tryz.func200 rfl Tryz.ntmps200 rfl rfl ?_
 refine RH.adv tk [] rfl rfl (by simp [sum_len,sz_sum,one_int,hz31,Value.oneCell',u8V]) ?_
 refine RH.gv (.av (.val (.tuple #[.agg #[.pointer none],intV 12]))) rfl rfl rfl Tryz.call20 (λu hu=>Put_full u po t (h.ext hu.fact) ht c.name c.new hn hf hm) ?_
 intro m1 hm1
 refine RH.adv tk [] rfl rfl (by simp [hz31,Value.oneCell']) ?_
 refine V.RH.slotE 12 (mapE none) rfl rfl ?_
 refine RH.adv tk [] rfl rfl (by simp [hz31,Value.oneCell']) ?_
 exact RH.retBoxT tk (mapE none) Tryz.func200 rfl rfl rfl rfl rfl λw' hst=>⟨rfl,hst.fact⟩
theorem deed2_ok (po:Option Plot) (t:Option Tree) (ht:okO t) (hl:lowO 1000 t) (c:TChg) (hn:c.name.length ≤ 1000) (hg:(getO t c.name).isSome=true) :
  Does Tryz.prog tb 201 [(mapE po).v,tchV c] [] (λu=>Glob u/\IsO u po t) (λo:Option Plot=>.tuple #[.agg #[ptrO o],intV 0]) (λ_=>[]) (λo=>Late (λu=>IsO u po t) (λu=>IsO u o (dropO t c.name))):=by
 have hz31:(Tryz.t31).size=1:=by kernel_rfl
 refine V.Does.enter0 [(0,mapE po),(1,.st (tchF c))] Tryz.func201 rfl Tryz.ntmps201 rfl rfl 0 ?_
 intro m0 K
 refine RH.adv tk [] rfl rfl (by simp [sum_len,sz_sum,one_int,hz31,Value.oneCell',u8V]) ?_
 refine RH.dd [] 10 (λo:Option Plot=>.av (.val (.tuple #[.agg #[ptrO o],intV 0]))) rfl rfl rfl Tryz.call22 (Drop_ok po t ht hl c.name hn hg) (λu hu=>hu.fact.2) ?_
 rintro o m1 hm1
 refine RH.adv tk [] rfl rfl (by simp [hz31,Value.oneCell']) ?_
 refine V.RH.slotE 10 (mapE o) rfl rfl ?_
 refine RH.adv tk [] rfl rfl (by simp [hz31,Value.oneCell']) ?_
 exact RH.retBoxT tk (mapE o) Tryz.func201 rfl rfl rfl rfl rfl λw' hst=>⟨o,rfl,hst.out [] rfl rfl λu h=>⟨h.1.1,λv hv hp=>h.2.up (by omega) hv hp⟩⟩
end Go.Proofs.YtbfjmimiigjenaaGreatDoor
