/-
Lemmas. No condition.
-/
import Derived.Test.YtbfjmimiigjenaaGreatDoorKG7
import Derived.Test.YtbfjmimiigjenaaGreatDoorKVZ2
set_option maxRecDepth 100000
set_option linter.unusedVariables false
set_option linter.unusedSectionVars false
set_option linter.unusedSimpArgs false
namespace Go.Proofs.YtbfjmimiigjenaaGreatDoor
open Go V RowKit
theorem union_hit {s t:Option Tree} {i:Nat} (h:i < (enO t).length) (hg:(getO s ((enO t)[i]).1).isSome=true):unionE s t=5:=by
 unfold unionE
 rw [if_pos]
 exact List.any_eq_true.2 ⟨_,List.getElem_mem h,hg⟩
theorem union_miss {s t:Option Tree} (h:∀ i (h:i < (enO t).length),(getO s ((enO t)[i]).1).isSome=false):unionE s t=if 600 < (enO t).length+maO s then 12 else 0:=by
 unfold unionE
 rw [if_neg]
 intro hh
 obtain ⟨e,he,hg⟩:=List.any_eq_true.1 hh
 obtain ⟨i,hi,rfl⟩:=List.mem_iff_getElem.1 he
 rw [h i hi] at hg;cases hg
set_option maxHeartbeats 1000000 in
theorem rUnion_spec (y z:At2) (s t:Option Tree) (hs:wfO s) (ht:wfO t) (hm1:maO s ≤ 1000) (hm2:maO t ≤ 1000) :
  Does Tryz.prog tb 65 [(rmE y (ksO s) (xsO s)).v,(rmE z (ksO t) (xsO t)).v] [] (λu=>RM u y (ksO s) (xsO s)/\RM u z (ksO t) (xsO t))
   (λq:At2=>.tuple #[(rmE q (ksO (if unionE s t=0 then fromO (enO s ++ enO t) else none)) (xsO (if unionE s t=0 then fromO (enO s ++ enO t) else none))).v,intV (unionE s t)]) (λ_=>[])
   (λq=>Late (λu=>RM u y (ksO s) (xsO s)) (λu=>RM u q (ksO (if unionE s t=0 then fromO (enO s ++ enO t) else none)) (xsO (if unionE s t=0 then fromO (enO s ++ enO t) else none)))):=by
 have hlim:lim=140737488351232:=rfl
 have hel:=entsO_many t
 have hks:∀ i (h:i < (enO t).length),(ksO t)[i]? = some ((enO t)[i]).1:=λi h=>by rw [List.getElem?_map,List.getElem?_eq_getElem h];rfl
 have hxs:∀ i (h:i < (enO t).length),(xsO t)[i]? = some ((enO t)[i]).2:=λi h=>by rw [List.getElem?_map,List.getElem?_eq_getElem h];rfl
 have hkl:=ksO_len t
 have hxl:=xsO_len t
 have hnd:((enO t).map Prod.fst).Nodup:=ents_nodup ht
 have hUn:fromO (enO s ++ enO t)=putL s (enO t):=(putL_from hs _).symm
 have hhit:=λ(i:Nat) (h:i < (enO t).length)=>union_hit (s:=s) h
 have hmis:=union_miss (s:=s) (t:=t)
 rw [hUn]
 generalize hU:unionE s t=U at *
 generalize hKS:ksO t=KS at *
 generalize hXS:xsO t=XS at *
 generalize hE:enO t=E at *
 refine V.Does.enter0 [(0,rmE y (ksO s) (xsO s)),(1,rmE z KS XS)] Tryz.func65 rfl Tryz.ntmps65 rfl rfl 0 ?_
 intro m0 K
 refine RH.a [] ?_
 refine RH.loop (α:=Nat × At2 × Option Tree) (λq=>[(2,.av (.box 0 m0 0)),(3,.av (.box 1 (m0+1) 0)),(4,.av (.box 2 (m0+1+1) 0)),(6,.av (.box 3 (m0+1+1+1) 0)),(13,slE z.1.1 KS.length z.1.2),(14,intE KS.length),(15,intE q.1)])
  (λq=>[(0,some (.box m0 (rmF y (ksO s) (xsO s)) 81)),(1,some (.box (m0+1) (rmF z KS XS) 81)),(2,some (.box (m0+1+1) (rmF kn0 [] []) 81)),(3,some (.box (m0+1+1+1) (rmF q.2.1 (ksO q.2.2) (xsO q.2.2)) 81))])
  (λq u=>((K u/\RM u y (ksO s) (xsO s)/\RM u z KS XS)/\Late (λu=>RM u y (ksO s) (xsO s)) (λu=>RM u q.2.1 (ksO q.2.2) (xsO q.2.2)) m0 u)/\q.1 ≤ E.length/\q.2.2=putL s (E.take q.1)/\maO q.2.2=maO s+q.1/\∀ i (h:i < E.length),i < q.1->(getO s (E[i]).1).isSome=false) (λq=>E.length - q.1) (0,y,s) rfl rfl
  (λu hu=>⟨⟨hu,λv _ hp=>hp⟩,Nat.zero_le _,rfl,rfl,λi _ h=>absurd h (Nat.not_lt_zero _)⟩) ?_
 rintro ⟨i,p,o⟩ m1
 refine RH.pure (λu h=>h.2) λ⟨hi,ho,hmo,hno⟩=>?_
 refine V.RH.know (λu=>(K u/\RM u y (ksO s) (xsO s)/\RM u z KS XS)/\Late (λu=>RM u y (ksO s) (xsO s)) (λu=>RM u p (ksO o) (xsO o)) m0 u) (λu h=>h.1) ?_
 refine RH.above (id:=0) rfl rfl λhz1 hz2=>?_
 dsimp only at hi ho hmo hno ⊢
 have hwo:wfO o:=by rw [ho];exact putL_wf hs _
 have heo:=entsO_many o
 by_cases hlt:i < E.length
 ·have hltn:i < KS.length:=by omega
  have hltx:i < XS.length:=by omega
  have hnm:=some_at (hks i hlt) hltn
  have hxx:=some_at (hxs i hlt) hltx
  have hsucc:=putL_succ s E hlt
  have hin:=in_get hs (E[i]).1
  have hhi:=hhit i hlt
  refine RH.pure (λu h=>(⟨h.1.2.2.1.ptr hltn,h.1.2.2.2.ptr hltx⟩:Ptr z.1.1/\Ptr z.2.1)) λ⟨pA,pB⟩=>?_
  have hgo:(getO s (E[i]).1).isSome=false->getO o (E[i]).1=none:=λhg=>by
   rw [ho]
   cases hh:getO (putL s (E.take i)) (E[i]).1 with
   | none=>rfl
   | some xx =>
    exfalso
    rcases (putL_get hs (E[i]).1 (E.take i) (by
     exact (hnd.sublist ((List.take_sublist i E).map _))) xx).1 hh with h|⟨_,h⟩
    ·have h5:=hnd
     obtain ⟨j,hj,he⟩:=List.mem_iff_getElem.1 h
     rw [List.length_take] at hj
     rw [List.getElem_take] at he
     have h6:(E.map Prod.fst)[j]'(by rw [List.length_map];omega)=(E.map Prod.fst)[i]'(by rw [List.length_map];omega):=by
      rw [List.getElem_map,List.getElem_map,he]
     have:=(List.getElem_inj h5).1 h6
     omega
    ·rw [h] at hg;cases hg
  refine RH.adv tk [true] rfl rfl (by simp [pA,hltn]) ?_
  refine RH.load (strE (E[i]).1) rfl rfl rfl rfl (λu hu=>by have:=hu.1.2.2.1.load hltn;rw [hnm] at this;exact this) ?_
  refine RH.a [] ?_
  refine RH.gv (rAtV (ksO s) (E[i]).1) rfl rfl rfl Tryz.call120 (λu hu=>rAt_spec u y (ksO s) (xsO s) hu.fact.1.2.1.1 _) ?_
  intro m2 hm2
  cases hg:(getO s (E[i]).1).isSome with
  | true =>
   rw [hg] at hin
   have hU5:=hhi hg
   subst hU5
   refine RH.adv tk [true] rfl rfl (by simp [hin]) ?_
   exact RH.retBoxT tk (rmE kn0 [] []) Tryz.func65 rfl rfl rfl rfl rfl λw' hst=>⟨kn0,rfl,hst.out [] rfl rfl λu h=>⟨h.1.1,λv _ _=>RM.nil v⟩⟩
  | false =>
   rw [hg] at hin
   have hgn:=hgo hg
   refine RH.adv tk [false] rfl rfl (by simp [hin]) ?_
   refine RH.w [(1,some (.box (m0+1) (rmF z KS XS) 81)),(3,some (.box (m0+1+1+1) (rmF p (ksO o) (xsO o)) 81))] 9 ?_
   refine RD.b [] rfl rfl (by simp [pB,hltx]) ?_
   refine RD.ld 6 (sumE (E[i]).2) rfl rfl (λw' hw=>by have:=hw.1.2.2.2.load hltx;rw [hxx] at this;exact this) ?_
   refine RD.dd 7 [] 4 (λz':At2=>rmE z' (ksO (some (putO o (E[i]).1 (E[i]).2))) (xsO (some (putO o (E[i]).1 (E[i]).2)))) rfl rfl rfl Tryz.call121 (rWith_t p o hwo (by omega) (E[i]).1 (E[i]).2) (λu hu=>hu.fact.2.now hu.fact.1.2.1) ?_
   intro z2 m3 hm3
   have hmm:=putO_many hwo (E[i]).1 (E[i]).2
   rw [hgn] at hmm
   rw [← ho] at hsucc
   generalize some (putO o (E[i]).1 (E[i]).2)=t2 at *
   refine RD.z 8 ?_
   intro m4 hm4
   refine RH.a [] ?_
   refine RH.again (i+1,z2,t2) (.head _) rfl rfl (by show E.length - (i+1) < E.length - i;omega) λu hu=>⟨⟨hu.1.1,λv hv hp=>hu.2.up (by omega) hv trivial⟩,hlt,hsucc.symm,by simp at hmm;show maO t2=maO s+(i+1);omega,?_⟩
   intro j hj hji
   by_cases hjj:j=i
   ·subst hjj;exact hg
   ·exact hno j hj (by show j < i;have:j < i+1:=hji;omega)
 ·have hn:i=E.length:=by omega
  rw [hn,List.take_length] at ho
  rw [← ho]
  have hU2:=hmis λj hj=>hno j hj (by omega)
  rw [hel] at hU2
  have hko:=ksO_len o
  by_cases h6:600 < maO t+maO s
  ·rw [if_pos h6] at hU2
   subst hU2
   refine RH.adv tk [false,true] rfl rfl (by simp [heo]<;>omega) ?_
   exact RH.retBoxT tk (rmE kn0 [] []) Tryz.func65 rfl rfl rfl rfl rfl λw' hst=>⟨kn0,rfl,hst.out [] rfl rfl λu h=>⟨h.1.1,λv _ _=>RM.nil v⟩⟩
  ·rw [if_neg h6] at hU2
   subst hU2
   rw [if_pos rfl]
   refine RH.adv tk [false,false] rfl rfl (by simp [heo]<;>omega) ?_
   exact RH.retBoxT tk (rmE p (ksO o) (xsO o)) Tryz.func65 rfl rfl rfl rfl rfl λw' hst=>⟨p,rfl,hst.out [] rfl rfl λu h=>⟨h.1.1,h.2⟩⟩
theorem vok_rch (c:TChg):VOk tb 110 (EV.st (tchF c)).v:=by
 rw [tch_cells]
 refine ⟨_,Tryz.t110,rfl,rfl,by simp [c.old.h,c.new.h];rfl,?_⟩
 intro u hu
 exact tch_one c u (by simpa using hu)
def kRCh:Kd TChg where
 T:=110
 sz:=67
 ev c:=.st (tchF c)
 ok c:=vok_rch c
 size c:=by rw [tch_cells];simp [Value.cells,c.old.h,c.new.h]
theorem elt_rch:ElT tb kRCh.T 67 88:=⟨⟨Tryz.t110,(Tryz.t110).zero.getD undef,by kernel_rfl,by kernel_rfl,by kernel_rfl,by kernel_rfl,by kernel_rfl⟩,by decide⟩
abbrev chgB (b:Nat) (c:TChg):HE:=.box b (tchF c) 110
set_option maxHeartbeats 1000000 in
theorem rDiff_spec (y z:At2) (s t:Option Tree) (hs:wfO s) (ht:wfO t) (hm1:maO s ≤ 1000) (hm2:maO t ≤ 1000) :
  Does Tryz.prog tb 67 [(rmE y (ksO s) (xsO s)).v,(rmE z (ksO t) (xsO t)).v] [] (λu=>RM u y (ksO s) (xsO s)/\RM u z (ksO t) (xsO t))
   (λq:Option Addr × Nat=>.slice q.1 (diffL s t).length q.2) (λq=>[(0,rowE kRCh q.1 q.2 (diffL s t))]) (λ_ _ _=>True):=by
 have hlim:lim=140737488351232:=rfl
 have hel:=entsO_many t
 have hks:∀ i (h:i < (enO t).length),(ksO t)[i]? = some ((enO t)[i]).1:=λi h=>by rw [List.getElem?_map,List.getElem?_eq_getElem h];rfl
 have hxs:∀ i (h:i < (enO t).length),(xsO t)[i]? = some ((enO t)[i]).2:=λi h=>by rw [List.getElem?_map,List.getElem?_eq_getElem h];rfl
 have hkl:=ksO_len t
 have hxl:=xsO_len t
 have hdf:=refDiff_eq hs ht
 have hwa:=putL_wf hs (enO t)
 have hma:=putL_many hs (enO t)
 obtain ⟨E,hE⟩:∃ E,E=enO t:=⟨_,rfl⟩
 rw [← hE] at hel hdf hwa hma
 simp only [← hE] at hks hxs
 have hEl:(enO t).length=E.length:=by rw [hE]
 refine V.Does.enter0 [(0,rmE y (ksO s) (xsO s)),(1,rmE z (ksO t) (xsO t))] Tryz.func67 rfl Tryz.ntmps67 rfl rfl 0 ?_
 intro m0 K
 refine RH.a [] ?_
 apply RH.joinK (α:=At2) (λp=>[(2,.av (.box 0 m0 0)),(3,.av (.box 1 (m0+1) 0)),(8,.av (.val (.slice none 0 0))),(35,slE p.1.1 (ksO (putL s E)).length p.1.2),(36,intE (ksO (putL s E)).length),(37,intE 0)])
  (λp=>[(0,some (.box m0 (rmF y (ksO s) (xsO s)) 81)),(1,some (.box (m0+1) (rmF z (ksO t) (xsO t)) 81)),(2,some (.box (m0+1+1) (rmF p (ksO (putL s E)) (xsO (putL s E))) 81))])
  (λp u=>(K u/\RM u y (ksO s) (xsO s)/\RM u z (ksO t) (xsO t))/\Late (λu=>RM u y (ksO s) (xsO s)) (λu=>RM u p (ksO (putL s E)) (xsO (putL s E))) m0 u)
 ·refine RH.loop (α:=Nat × At2 × Option Tree) (λq=>[(2,.av (.box 0 m0 0)),(3,.av (.box 1 (m0+1) 0)),(5,.av (.box 2 (m0+1+1) 0)),(18,slE z.1.1 (ksO t).length z.1.2),(19,intE (ksO t).length),(20,intE q.1)])
   (λq=>[(0,some (.box m0 (rmF y (ksO s) (xsO s)) 81)),(1,some (.box (m0+1) (rmF z (ksO t) (xsO t)) 81)),(2,some (.box (m0+1+1) (rmF q.2.1 (ksO q.2.2) (xsO q.2.2)) 81))])
   (λq u=>((K u/\RM u y (ksO s) (xsO s)/\RM u z (ksO t) (xsO t))/\Late (λu=>RM u y (ksO s) (xsO s)) (λu=>RM u q.2.1 (ksO q.2.2) (xsO q.2.2)) m0 u)/\q.1 ≤ E.length/\q.2.2=putL s (E.take q.1)) (λq=>E.length - q.1) (0,y,s) rfl rfl
   (λu hu=>⟨⟨hu,λv _ hp=>hp⟩,Nat.zero_le _,rfl⟩) ?_
  rintro ⟨i,p,o⟩ m1
  refine RH.pure (λu h=>h.2) λ⟨hi,ho⟩=>?_
  refine V.RH.know (λu=>(K u/\RM u y (ksO s) (xsO s)/\RM u z (ksO t) (xsO t))/\Late (λu=>RM u y (ksO s) (xsO s)) (λu=>RM u p (ksO o) (xsO o)) m0 u) (λu h=>h.1) ?_
  refine RH.above (id:=0) rfl rfl λhz1 hz2=>?_
  dsimp only at hi ho ⊢
  have hwo:wfO o:=by rw [ho];exact putL_wf hs _
  have hmo:=putL_many hs (E.take i)
  rw [← ho,List.length_take] at hmo
  by_cases hlt:i < E.length
  ·have hltn:i < (ksO t).length:=by omega
   have hltx:i < (xsO t).length:=by omega
   have hnm:=some_at (hks i hlt) hltn
   have hxx:=some_at (hxs i hlt) hltx
   have hsucc:=putL_succ s E hlt
   refine RH.pure (λu h=>(⟨h.1.2.2.1.ptr hltn,h.1.2.2.2.ptr hltx⟩:Ptr z.1.1/\Ptr z.2.1)) λ⟨pA,pB⟩=>?_
   refine RH.adv tk [true] rfl rfl (by simp [pA,hEl]<;>omega) ?_
   refine RH.load (strE (E[i]).1) rfl rfl rfl rfl (λu hu=>by have:=hu.1.2.2.1.load hltn;rw [hnm] at this;exact this) ?_
   refine RH.a [] ?_
   refine RH.w [(1,some (.box (m0+1) (rmF z (ksO t) (xsO t)) 81)),(2,some (.box (m0+1+1) (rmF p (ksO o) (xsO o)) 81))] 9 ?_
   refine RD.b [] rfl rfl (by simp [pB,hEl]<;>omega) ?_
   refine RD.ld 6 (sumE (E[i]).2) rfl rfl (λw' hw=>by have:=hw.1.2.2.2.load hltx;rw [hxx] at this;exact this) ?_
   refine RD.dd 7 [] 4 (λz':At2=>rmE z' (ksO (some (putO o (E[i]).1 (E[i]).2))) (xsO (some (putO o (E[i]).1 (E[i]).2)))) rfl rfl rfl Tryz.call121 (rWith_t p o hwo (by omega) (E[i]).1 (E[i]).2) (λu hu=>hu.fact.2.now hu.fact.1.2.1) ?_
   intro z2 m3 hm3
   rw [← ho] at hsucc
   generalize some (putO o (E[i]).1 (E[i]).2)=t2 at *
   refine RD.z 8 ?_
   intro m4 hm4
   refine RH.a [] ?_
   exact RH.again (i+1,z2,t2) (.head _) rfl rfl (by show E.length - (i+1) < E.length - i;omega) λu hu=>⟨⟨hu.1.1,λv hv hp=>hu.2.up (by omega) hv trivial⟩,hlt,hsucc.symm⟩
  ·have hn:i=E.length:=by omega
   rw [hn,List.take_length] at ho
   subst ho
   refine RH.adv tk [false] rfl rfl (by simp [hEl]<;>omega) ?_
   exact RH.mtS p [] (.tail _ (.head _)) rfl rfl rfl λu h=>h
 intro p m5
 have hlo:∀ k,getO s k ≠ getO t k ↔ ((cOf s t k).had ≠ (cOf s t k).has ∨ (cOf s t k).old ≠ (cOf s t k).new):=λk=>by
  unfold cOf
  cases getO s k<;>cases getO t k<;>simp
 obtain ⟨KA,hKA⟩:∃ KA,KA=ksO (putL s E):=⟨_,rfl⟩
 have hkal:=ksO_len (putL s E)
 rw [← hKA] at hdf hkal ⊢
 have hkml:KA.length ≤ 2000:=by omega
 rw [← hdf]
 have hrl:∀ l:List Str,(refDiff s t l).length ≤ l.length:=λl=>by
  rw [refDiff_filter,List.length_map];exact List.length_filter_le _ _
 refine RH.nilrow 50 kRCh.T kRCh.sz 51 ?_
 refine RH.loop (α:=Nat × (Option Addr × Nat)) (λq=>[(2,.av (.box 0 m0 0)),(3,.av (.box 1 (m0+1) 0)),(8,rowS 50 q.2.1 (refDiff s t (KA.take q.1)).length q.2.2),(35,slE p.1.1 KA.length p.1.2),(36,intE KA.length),(37,intE q.1)])
  (λq=>[(0,some (.box m0 (rmF y (ksO s) (xsO s)) 81)),(1,some (.box (m0+1) (rmF z (ksO t) (xsO t)) 81)),(50,rowE kRCh q.2.1 q.2.2 (refDiff s t (KA.take q.1)))])
  (λq u=>((K u/\RM u y (ksO s) (xsO s)/\RM u z (ksO t) (xsO t))/\Late (λu=>RM u y (ksO s) (xsO s)) (λu=>RM u p KA (xsO (putL s E))) m0 u)/\q.1 ≤ KA.length) (λq=>KA.length - q.1) (0,(none,0)) rfl rfl (λu h=>⟨h,Nat.zero_le _⟩) ?_
 rintro ⟨j,A7,c7⟩ m6
 refine RH.pure (λu h=>h.2) λhj=>?_
 refine V.RH.know (λu=>(K u/\RM u y (ksO s) (xsO s)/\RM u z (ksO t) (xsO t))/\Late (λu=>RM u y (ksO s) (xsO s)) (λu=>RM u p KA (xsO (putL s E))) m0 u) (λu h=>h.1) ?_
 dsimp only at hj ⊢
 have hrj:=hrl (KA.take j)
 rw [List.length_take] at hrj
 by_cases hlt:j < KA.length
 ·have hts:KA.take (j+1)=KA.take j ++ [KA[j]]:=List.take_succ_eq_append_getElem hlt
  have hrs:refDiff s t (KA.take (j+1))=refDiff s t (KA.take j) ++ (if getO s KA[j] ≠ getO t KA[j] then [cOf s t KA[j]] else []):=by rw [hts];unfold refDiff;rw [List.flatMap_append];simp
  refine RH.pure (λu h=>((h.2.now h.1.2.1).1.ptr hlt:Ptr p.1.1)) λpA=>?_
  refine RH.adv tk [true] rfl rfl (by simp [pA,hlt]) ?_
  refine RH.load (strE KA[j]) rfl rfl rfl rfl (λu hu=>(hu.2.now hu.1.2.1).1.load hlt) ?_
  generalize hk:KA[j]=k at *
  generalize refDiff s t (KA.take j)=R at *
  refine RH.a [] ?_
  have hin1:=in_get hs k
  have hin2:=in_get ht k
  refine RH.tell [(2,.av (.box 0 m0 0)),(3,.av (.box 1 (m0+1) 0)),(8,rowS 50 A7 R.length c7),(10,strE k),(11,.av (.box 51 m6 0)),(35,slE p.1.1 KA.length p.1.2),(36,intE KA.length),(37,intE j),(44,rmE y (ksO s) (xsO s)),(45,strE k)] [(0,some (.box m0 (rmF y (ksO s) (xsO s)) 81)),(1,some (.box (m0+1) (rmF z (ksO t) (xsO t)) 81)),(50,rowE kRCh A7 c7 R),(51,some (chgB m6 ⟨k,false,false,Sum.zero,Sum.zero⟩))] [] rfl rfl rfl 60 ?_
  refine RH.gv (rAtV (ksO s) k) rfl rfl rfl Tryz.call120 (λu hu=>rAt_spec u y (ksO s) (xsO s) hu.fact.1.2.1.1 k) ?_
  intro m7 hm7
  apply RH.joinK (α:=Unit) (λ_=>[(2,.av (.box 0 m0 0)),(3,.av (.box 1 (m0+1) 0)),(8,rowS 50 A7 R.length c7),(10,strE k),(11,.av (.box 51 m6 0)),(35,slE p.1.1 KA.length p.1.2),(36,intE KA.length),(37,intE j),(58,rmE z (ksO t) (xsO t)),(59,strE k)])
   (λ_=>[(0,some (.box m0 (rmF y (ksO s) (xsO s)) 81)),(1,some (.box (m0+1) (rmF z (ksO t) (xsO t)) 81)),(50,rowE kRCh A7 c7 R),(51,some (chgB m6 ⟨k,(getO s k).isSome,false,(getO s k).getD Sum.zero,Sum.zero⟩))]) (λ_ u=>(K u/\RM u y (ksO s) (xsO s)/\RM u z (ksO t) (xsO t))/\Late (λu=>RM u y (ksO s) (xsO s)) (λu=>RM u p KA (xsO (putL s E))) m0 u)
  ·cases hg:getO s k with
   | some v =>
    rw [hg] at hin1
    have hin1:inN (ksO s) k=true:=hin1
    obtain ⟨q1,q2⟩:=at_get hs hin1
    rw [hg] at q2
    have q3:(xsO s)[posN (ksO s) k]=v:=(Option.some.inj q2).symm
    refine RH.pure (λu hu=>(hu.1.2.1.2.ptr q1:Ptr y.2.1)) λpX=>?_
    refine RH.adv tk [true] rfl rfl (by simp [hin1]) ?_
    refine RH.w [(0,some (.box m0 (rmF y (ksO s) (xsO s)) 81))] 9 ?_
    refine RD.b [] rfl rfl (by simp [pX];simpa using q1) ?_
    refine RD.ld 4 (sumE v) rfl rfl (λu hu=>by have:=hu.1.2.1.2.load q1;rw [q3] at this;exact this) ?_
    refine RD.a [] ?_
    refine RD.s 60 6 ?_
    refine RD.a [] ?_
    refine RD.s 60 8 ?_
    refine RD.a [] ?_
    refine RD.e ?_
    refine RH.a [] ?_
    exact RH.mtS () [] (.head _) rfl rfl rfl λu h=>h
   | none =>
    rw [hg] at hin1
    have hin1:inN (ksO s) k=false:=hin1
    refine RH.adv tk [false] rfl rfl (by simp [hin1]) ?_
    exact RH.mtS () [] (.head _) rfl rfl rfl λu h=>h
  rintro ⟨⟩ m8
  refine RH.gv (rAtV (ksO t) k) rfl rfl rfl Tryz.call120 (λu hu=>rAt_spec u z (ksO t) (xsO t) hu.fact.1.2.2.1 k) ?_
  intro m9 hm9
  obtain ⟨c,hc⟩:∃ c,c=cOf s t k:=⟨_,rfl⟩
  have hlk:=hlo k
  rw [← hc] at hlk hrs
  have hck:c=⟨k,(getO s k).isSome,(getO t k).isSome,(getO s k).getD Sum.zero,(getO t k).getD Sum.zero⟩:=hc
  apply RH.joinK (α:=Unit) (λ_=>[(2,.av (.box 0 m0 0)),(3,.av (.box 1 (m0+1) 0)),(8,rowS 50 A7 R.length c7),(10,strE k),(11,.av (.box 51 m6 0)),(35,slE p.1.1 KA.length p.1.2),(36,intE KA.length),(37,intE j),(72,.av (.val (.bool (getO s k).isSome))),(74,.av (.val (.bool (getO t k).isSome))),(75,.av (.val (.bool (!((getO s k).isSome == (getO t k).isSome))))),(76,.av (.val (.bool (!((getO s k).isSome == (getO t k).isSome)))))])
   (λ_=>[(0,some (.box m0 (rmF y (ksO s) (xsO s)) 81)),(1,some (.box (m0+1) (rmF z (ksO t) (xsO t)) 81)),(50,rowE kRCh A7 c7 R),(51,some (chgB m6 ⟨k,(getO s k).isSome,(getO t k).isSome,(getO s k).getD Sum.zero,(getO t k).getD Sum.zero⟩))]) (λ_ u=>(K u/\RM u y (ksO s) (xsO s)/\RM u z (ksO t) (xsO t))/\Late (λu=>RM u y (ksO s) (xsO s)) (λu=>RM u p KA (xsO (putL s E))) m0 u)
  ·cases hg:getO t k with
   | some v =>
    rw [hg] at hin2
    have hin2:inN (ksO t) k=true:=hin2
    obtain ⟨q1,q2⟩:=at_get ht hin2
    rw [hg] at q2
    have q3:(xsO t)[posN (ksO t) k]=v:=(Option.some.inj q2).symm
    refine RH.pure (λu hu=>(hu.1.2.2.2.ptr q1:Ptr z.2.1)) λpX=>?_
    refine RH.adv tk [true] rfl rfl (by simp [hin2]) ?_
    refine RH.w [(1,some (.box (m0+1) (rmF z (ksO t) (xsO t)) 81))] 9 ?_
    refine RD.b [] rfl rfl (by simp [pX];simpa using q1) ?_
    refine RD.ld 4 (sumE v) rfl rfl (λu hu=>by have:=hu.1.2.2.2.load q1;rw [q3] at this;exact this) ?_
    refine RD.a [] ?_
    refine RD.s 60 6 ?_
    refine RD.a [] ?_
    refine RD.s 60 8 ?_
    refine RD.a [] ?_
    refine RD.e ?_
    refine RH.a [] ?_
    exact RH.mtS () [] (.head _) rfl rfl rfl λu h=>h
   | none =>
    rw [hg] at hin2
    have hin2:inN (ksO t) k=false:=hin2
    refine RH.adv tk [false] rfl rfl (by simp [hin2]) ?_
    exact RH.mtS () [] (.head _) rfl rfl rfl λu h=>h
  rintro ⟨⟩ m10
  rw [← hck,show (getO s k).isSome=c.had by rw [hck],show (getO t k).isSome=c.has by rw [hck]]
  clear hck hlo
  refine RH.toNx 70 ?_
  by_cases hb:c.had=c.has
  ·refine RH.adv tk [false] rfl rfl (by simp [hb]) ?_
   refine RH.read (boE (!decide (c.old=c.new))) rfl rfl rfl rfl (λu q _ ha=>op_neq ha rfl rfl rfl rfl rfl (by kernel_rfl) (eq_sum u 9998 _ _)) ?_
   by_cases ho:c.old=c.new
   ·have hn:¬ (getO s k ≠ getO t k):=λh=>by
     rcases hlk.1 h with h|h
     ·exact h hb
     ·exact h ho
    rw [if_neg hn,List.append_nil] at hrs
    refine RH.adv tk [false] rfl rfl (by simp [ho]<;>omega) ?_
    rw [← hrs]
    exact RH.again (j+1,(A7,c7)) (.head _) rfl rfl (by show KA.length - (j+1) < KA.length - j;omega) λu h=>⟨h,hlt⟩
   ·rw [if_pos (hlk.2 (.inr ho))] at hrs
    refine RH.adv tk [true] rfl rfl (by simp [ho]<;>omega) ?_
    refine RH.apK (κ:=kRCh) (id:=50) (l:=R) (r:=[c]) rfl rfl rfl rfl rfl rfl elt_rch rfl rfl (λu hu=>hu.liR (κ:=kRCh) (l:=[c]) (id:=70) rfl (by simp [hlim])) (by simp;omega) (by simp [hlim];omega) ?_
    intro A9 c9 m11 hm11
    rw [← hrs]
    refine RH.a [] ?_
    exact RH.again (j+1,(A9,c9)) (.head _) rfl rfl (by show KA.length - (j+1) < KA.length - j;omega) λu h=>⟨h,hlt⟩
  ·rw [if_pos (hlk.2 (.inl hb))] at hrs
   refine RH.adv tk [true] rfl rfl (by simp [hb]<;>omega) ?_
   refine RH.apK (κ:=kRCh) (id:=50) (l:=R) (r:=[c]) rfl rfl rfl rfl rfl rfl elt_rch rfl rfl (λu hu=>hu.liR (κ:=kRCh) (l:=[c]) (id:=70) rfl (by simp [hlim])) (by simp;omega) (by simp [hlim];omega) ?_
   intro A9 c9 m11 hm11
   rw [← hrs]
   refine RH.a [] ?_
   exact RH.again (j+1,(A9,c9)) (.head _) rfl rfl (by show KA.length - (j+1) < KA.length - j;omega) λu h=>⟨h,hlt⟩
 ·have hn:j=KA.length:=by omega
  rw [hn,List.take_length]
  refine RH.a [false] ?_
  refine RH.ret1 Tryz.func67 rfl rfl λw hst=>⟨(A7,c7),rfl,hst.out [(0,50)] rfl rfl λu h=>⟨h.1.1,trivial⟩⟩
abbrev badC (c:TChg):Prop:=(c.had=false/\c.has=false) ∨ (c.had=false/\c.old ≠ Sum.zero) ∨ (c.has=false/\c.new ≠ Sum.zero)
set_option maxHeartbeats 1000000 in
theorem rApply_spec (y:At2) (t0:Option Tree) (hg0:GoodO t0) (A:Option Addr) (c:Nat) (l:List TChg) :
  Does Tryz.prog tb 72 [(rmE y (ksO t0) (xsO t0)).v,.slice A l.length c] [] (λu=>RM u y (ksO t0) (xsO t0)/\Sl kRCh u A c l)
   (λz:At2=>.tuple #[(rmE z (ksO (applyO t0 l).1) (xsO (applyO t0 l).1)).v,intV (applyO t0 l).2]) (λ_=>[])
   (λz=>Late (λu=>RM u y (ksO t0) (xsO t0)) (λu=>RM u z (ksO (applyO t0 l).1) (xsO (applyO t0 l).1))):=by
 have hlim:lim=140737488351232:=rfl
 refine V.Does.enter0 [(0,rmE y (ksO t0) (xsO t0)),(1,slE A l.length c)] Tryz.func72 rfl Tryz.ntmps72 rfl rfl 0 ?_
 intro m0 K
 refine RH.pure (λu h=>(h.2.2.small:l.length ≤ lim)) λhsm=>?_
 refine RH.a [] ?_
 refine RH.loop (α:=Nat × At2 × Option Tree) (λq=>[(2,.av (.box 0 m0 0)),(4,.av (.box 1 (m0+1) 0)),(10,slE A l.length c),(11,intE l.length),(12,intE q.1)])
  (λq=>[(0,some (.box m0 (rmF q.2.1 (ksO q.2.2) (xsO q.2.2)) 81)),(1,some (.box (m0+1) (rmF kn0 [] []) 81))])
  (λq u=>((K u/\RM u y (ksO t0) (xsO t0)/\Sl kRCh u A c l)/\Late (λu=>RM u y (ksO t0) (xsO t0)) (λu=>RM u q.2.1 (ksO q.2.2) (xsO q.2.2)) m0 u)/\q.1 ≤ l.length/\applyO t0 l=applyO q.2.2 (l.drop q.1)/\GoodO q.2.2) (λq=>l.length - q.1) (0,y,t0) rfl rfl
  (λu hu=>⟨⟨hu,λv _ hp=>hp⟩,Nat.zero_le _,rfl,hg0⟩) ?_
 rintro ⟨i,p,t⟩ m1
 refine RH.pure (λu h=>h.2) λ⟨hi,hap,hg⟩=>?_
 refine V.RH.know (λu=>(K u/\RM u y (ksO t0) (xsO t0)/\Sl kRCh u A c l)/\Late (λu=>RM u y (ksO t0) (xsO t0)) (λu=>RM u p (ksO t) (xsO t)) m0 u) (λu h=>h.1) ?_
 refine RH.above (id:=0) rfl rfl λhz1 hz2=>?_
 dsimp only at hi hap hg ⊢
 have hwt:=hg.wf
 have hmt:=hg.many
 by_cases hlt:i < l.length
 ·have hdr:l.drop i=l[i] :: l.drop (i+1):=List.drop_eq_getElem_cons hlt
  rw [hdr] at hap
  refine RH.pure (λu h=>(h.1.2.2.ptr hlt:Ptr A)) λpA=>?_
  refine RH.adv tk [true] rfl rfl (by simp [pA,hlt]) ?_
  refine RH.loadS (.st (tchF l[i])) rfl rfl rfl rfl (λu hu=>hu.fact.1.2.2.load hlt) ?_
  obtain ⟨ch,hch⟩:∃ ch,l[i]=ch:=⟨_,rfl⟩
  rw [hch] at hap ⊢
  have hgs:=hg.step ch
  have hac:=apply_cons t ch (l.drop (i+1))
  rw [← hap] at hac
  have hbad:∀ k:Int,k ≠ 0->stepO t ch=(none,k)->applyO t0 l=(none,k):=λk hk e=>by rw [hac,e,if_neg hk]
  refine RH.toNx 60 ?_
  apply RH.joinK (α:=Unit) (λ_=>[(2,.av (.box 0 m0 0)),(4,.av (.box 1 (m0+1) 0)),(7,.av (.box 60 m1 0)),(10,slE A l.length c),(11,intE l.length),(12,intE i),(53,rmE p (ksO t) (xsO t)),(54,.av (.box 60 m1 0)),(55,strE ch.name)])
   (λ_=>[(0,some (.box m0 (rmF p (ksO t) (xsO t)) 81)),(1,some (.box (m0+1) (rmF kn0 [] []) 81)),(60,some (chgB m1 ch))]) (λ_ u=>((K u/\RM u y (ksO t0) (xsO t0)/\Sl kRCh u A c l)/\Late (λu=>RM u y (ksO t0) (xsO t0)) (λu=>RM u p (ksO t) (xsO t)) m0 u)/\¬ badC ch/\ch.name.length ≤ 60)
  ·cases hh:ch.had with
   | false=>cases hs:ch.has with
    | false =>
     rw [hbad 4 (by decide) (by unfold stepO;rw [if_pos (by simp [hh,hs])])]
     refine RH.adv tk [true,true] rfl rfl (by simp [hh,hs]<;>omega) ?_
     exact RH.retBoxT tk (rmE kn0 [] []) Tryz.func72 rfl rfl rfl rfl rfl λw' hst=>⟨kn0,rfl,hst.out [] rfl rfl λu h=>⟨h.1.1,λv _ _=>RM.nil v⟩⟩
    | true =>
     refine RH.adv tk [true,false,true] rfl rfl (by simp [hh,hs]<;>omega) ?_
     refine RH.zeroS rfl rfl rfl ?_
     refine RH.a [] ?_
     refine RH.read (boE (!decide (ch.old=Sum.zero))) rfl rfl rfl rfl (λu q _ ha=>op_neq ha rfl rfl rfl rfl rfl (by kernel_rfl) (eq_sum u 9998 _ _)) ?_
     by_cases ho:ch.old=Sum.zero
     ·have hnb:¬ badC ch:=by simp [badC,hh,hs,ho]
      by_cases h60:60 < ch.name.length
      ·rw [hbad 11 (by decide) (by unfold stepO;rw [if_neg hnb,if_pos h60])]
       refine RH.adv tk [false,false,true] rfl rfl (by simp [hh,hs,ho,h60]<;>omega) ?_
       exact RH.retBoxT tk (rmE kn0 [] []) Tryz.func72 rfl rfl rfl rfl rfl λw' hst=>⟨kn0,rfl,hst.out [] rfl rfl λu h=>⟨h.1.1,λv _ _=>RM.nil v⟩⟩
      ·refine RH.adv tk [false,false,false] rfl rfl (by simp [hh,hs,ho,h60]<;>omega) ?_
       exact RH.mtS () [] (.head _) rfl rfl rfl λu h=>⟨h,hnb,by omega⟩
     ·rw [hbad 4 (by decide) (by unfold stepO;rw [if_pos (by simp [hh,ho])])]
      refine RH.adv tk [true] rfl rfl (by simp [hh,hs,ho]<;>omega) ?_
      exact RH.retBoxT tk (rmE kn0 [] []) Tryz.func72 rfl rfl rfl rfl rfl λw' hst=>⟨kn0,rfl,hst.out [] rfl rfl λu h=>⟨h.1.1,λv _ _=>RM.nil v⟩⟩
   | true=>cases hs:ch.has with
    | false =>
     refine RH.adv tk [false,false,true] rfl rfl (by simp [hh,hs]<;>omega) ?_
     refine RH.zeroS rfl rfl rfl ?_
     refine RH.a [] ?_
     refine RH.read (boE (!decide (ch.new=Sum.zero))) rfl rfl rfl rfl (λu q _ ha=>op_neq ha rfl rfl rfl rfl rfl (by kernel_rfl) (eq_sum u 9998 _ _)) ?_
     by_cases ho:ch.new=Sum.zero
     ·have hnb:¬ badC ch:=by simp [badC,hh,hs,ho]
      by_cases h60:60 < ch.name.length
      ·rw [hbad 11 (by decide) (by unfold stepO;rw [if_neg hnb,if_pos h60])]
       refine RH.adv tk [false,true] rfl rfl (by simp [hh,hs,ho,h60]<;>omega) ?_
       exact RH.retBoxT tk (rmE kn0 [] []) Tryz.func72 rfl rfl rfl rfl rfl λw' hst=>⟨kn0,rfl,hst.out [] rfl rfl λu h=>⟨h.1.1,λv _ _=>RM.nil v⟩⟩
      ·refine RH.adv tk [false,false] rfl rfl (by simp [hh,hs,ho,h60]<;>omega) ?_
       exact RH.mtS () [] (.head _) rfl rfl rfl λu h=>⟨h,hnb,by omega⟩
     ·rw [hbad 4 (by decide) (by unfold stepO;rw [if_pos (by simp [hs,ho])])]
      refine RH.adv tk [true] rfl rfl (by simp [hh,hs,ho]<;>omega) ?_
      exact RH.retBoxT tk (rmE kn0 [] []) Tryz.func72 rfl rfl rfl rfl rfl λw' hst=>⟨kn0,rfl,hst.out [] rfl rfl λu h=>⟨h.1.1,λv _ _=>RM.nil v⟩⟩
    | true =>
     have hnb:¬ badC ch:=by simp [badC,hh,hs]
     by_cases h60:60 < ch.name.length
     ·rw [hbad 11 (by decide) (by unfold stepO;rw [if_neg hnb,if_pos h60])]
      refine RH.adv tk [false,false,false,true] rfl rfl (by simp [hh,hs,h60]<;>omega) ?_
      exact RH.retBoxT tk (rmE kn0 [] []) Tryz.func72 rfl rfl rfl rfl rfl λw' hst=>⟨kn0,rfl,hst.out [] rfl rfl λu h=>⟨h.1.1,λv _ _=>RM.nil v⟩⟩
     ·refine RH.adv tk [false,false,false,false] rfl rfl (by simp [hh,hs,h60]<;>omega) ?_
      exact RH.mtS () [] (.head _) rfl rfl rfl λu h=>⟨h,hnb,by omega⟩
  rintro ⟨⟩ m2
  refine RH.pure (λu hu=>hu.2) λ⟨hnb,h60⟩=>?_
  refine V.RH.know (λu=>(K u/\RM u y (ksO t0) (xsO t0)/\Sl kRCh u A c l)/\Late (λu=>RM u y (ksO t0) (xsO t0)) (λu=>RM u p (ksO t) (xsO t)) m0 u) (λu h=>h.1) ?_
  have hst1:stepO t ch=_:=if_neg hnb
  rw [if_neg (by omega)] at hst1
  refine RH.gv (rAtV (ksO t) ch.name) rfl rfl rfl Tryz.call120 (λu hu=>rAt_spec u p (ksO t) (xsO t) (hu.fact.2.now hu.fact.1.2.1).1 ch.name) ?_
  intro m3 hm3
  have hin:=in_get hwt ch.name
  have hel:=entsO_many t
  cases hgo:(getO t ch.name).isSome with
  | true =>
   rw [hgo] at hin
   obtain ⟨q1,q2⟩:=at_get hwt hin
   obtain ⟨v,hv⟩:∃ v,(xsO t)[posN (ksO t) ch.name]=v:=⟨_,rfl⟩
   rw [hv] at q2
   cases hh:ch.had with
   | false =>
    rw [hbad 7 (by decide) (by rw [hst1,if_pos (.inl (by rw [hh,hgo];decide))])]
    refine RH.a [] ?_
    refine RH.w [(0,some (.box m0 (rmF p (ksO t) (xsO t)) 81)),(60,some (chgB m1 ch))] 17 ?_
    refine RD.b [true] rfl rfl (by simp [hin,hh]) ?_
    refine RD.e ?_
    refine RH.a [] ?_
    exact RH.retBoxT tk (rmE kn0 [] []) Tryz.func72 rfl rfl rfl rfl rfl λw' hst=>⟨kn0,rfl,hst.out [] rfl rfl λu h=>⟨h.1.1,λv _ _=>RM.nil v⟩⟩
   | true =>
    refine RH.pure (λu hu=>((hu.2.now hu.1.2.1).2.ptr q1:Ptr p.2.1)) λpX=>?_
    refine RH.a [] ?_
    refine RH.w [(0,some (.box m0 (rmF p (ksO t) (xsO t)) 81)),(60,some (chgB m1 ch))] 17 ?_
    refine RD.b [false,true] rfl rfl (by simp [hin,hh,pX];simpa using q1) ?_
    refine RD.ld 11 (sumE v) rfl rfl (λu hu=>by have:=(hu.2.now hu.1.2.1).2.load q1;rw [hv] at this;exact this) ?_
    refine RD.r 14 (boE (!decide (v=ch.old))) rfl rfl (λw' a h hag=>op_neq hag rfl rfl rfl rfl rfl (by kernel_rfl) (eq_sum w' 9998 _ _)) ?_
    refine RD.a [] ?_
    refine RD.e ?_
    by_cases hvo:v=ch.old
    ·rw [if_neg (by rw [hh,hgo,q2,hvo];simp)] at hst1
     cases hs:ch.has with
     | true =>
      rw [if_pos hs,if_neg (by rw [hgo];simp)] at hst1
      refine RH.adv tk [false,false,true] rfl rfl (by simp [hvo,hin,hs]) ?_
      have hC:=rWith_t p t hwt (by omega) ch.name ch.new
      rw [hst1] at hac hgs
      rw [if_pos rfl] at hac
      dsimp only at hac hgs
      generalize some (putO t ch.name ch.new)=t2 at hC hac hgs ⊢
      refine RH.above (id:=0) rfl rfl λhz3 hz4=>?_
      refine RH.dd [] 70 (λz:At2=>rmE z (ksO t2) (xsO t2)) rfl rfl rfl Tryz.call121 hC (λu hu=>hu.fact.2.now hu.fact.1.2.1) ?_
      intro z2 m9 hm9
      refine RH.a [] ?_
      exact RH.again (i+1,z2,t2) (.head _) rfl rfl (by show l.length - (i+1) < l.length - i;omega) λu hu=>⟨⟨hu.1.1,λv' hv' hp'=>hu.2.up (by omega) hv' trivial⟩,hlt,hac,hgs⟩
     | false =>
      rw [if_neg (by rw [hs];decide)] at hst1
      refine RH.adv tk [false,false,false] rfl rfl (by simp [hvo,hin,hs]) ?_
      have hC:=rWithout_t p t hwt (by omega) ch.name hgo
      rw [hst1] at hac hgs
      rw [if_pos rfl] at hac
      dsimp only at hac hgs
      generalize dropO t ch.name=t2 at hC hac hgs ⊢
      refine RH.above (id:=0) rfl rfl λhz3 hz4=>?_
      refine RH.dd [] 70 (λz:At2=>rmE z (ksO t2) (xsO t2)) rfl rfl rfl Tryz.call130 hC (λu hu=>hu.fact.2.now hu.fact.1.2.1) ?_
      intro z2 m9 hm9
      refine RH.a [] ?_
      exact RH.again (i+1,z2,t2) (.head _) rfl rfl (by show l.length - (i+1) < l.length - i;omega) λu hu=>⟨⟨hu.1.1,λv' hv' hp'=>hu.2.up (by omega) hv' trivial⟩,hlt,hac,hgs⟩
    ·rw [hbad 7 (by decide) (by rw [hst1,if_pos (.inr ⟨hh,by rw [q2];exact λe=>hvo e.symm⟩)])]
     refine RH.adv tk [true] rfl rfl (by simp [hvo]) ?_
     exact RH.retBoxT tk (rmE kn0 [] []) Tryz.func72 rfl rfl rfl rfl rfl λw' hst=>⟨kn0,rfl,hst.out [] rfl rfl λu h=>⟨h.1.1,λv _ _=>RM.nil v⟩⟩
  | false =>
   rw [hgo] at hin
   cases hh:ch.had with
   | true =>
    rw [hbad 7 (by decide) (by rw [hst1,if_pos (.inl (by rw [hh,hgo];decide))])]
    refine RH.a [] ?_
    refine RH.w [(0,some (.box m0 (rmF p (ksO t) (xsO t)) 81)),(60,some (chgB m1 ch))] 17 ?_
    refine RD.b [true] rfl rfl (by simp [hin,hh]) ?_
    refine RD.e ?_
    refine RH.a [] ?_
    exact RH.retBoxT tk (rmE kn0 [] []) Tryz.func72 rfl rfl rfl rfl rfl λw' hst=>⟨kn0,rfl,hst.out [] rfl rfl λu h=>⟨h.1.1,λv _ _=>RM.nil v⟩⟩
   | false =>
    have hs:ch.has=true:=by
     cases hs:ch.has with
     | true=>rfl
     | false=>exact absurd (.inl ⟨hh,hs⟩) hnb
    rw [if_neg (by rw [hh,hgo];simp),if_pos hs] at hst1
    refine RH.a [] ?_
    refine RH.w [(0,some (.box m0 (rmF p (ksO t) (xsO t)) 81)),(60,some (chgB m1 ch))] 17 ?_
    refine RD.b [false,false] rfl rfl (by simp [hin,hh]) ?_
    refine RD.e ?_
    by_cases h6:600 ≤ maO t
    ·rw [if_pos ⟨hgo,h6⟩] at hst1
     rw [hbad 12 (by decide) hst1]
     refine RH.adv tk [true,true] rfl rfl (by simp [hin,hel]<;>omega) ?_
     exact RH.retBoxT tk (rmE kn0 [] []) Tryz.func72 rfl rfl rfl rfl rfl λw' hst=>⟨kn0,rfl,hst.out [] rfl rfl λu h=>⟨h.1.1,λv _ _=>RM.nil v⟩⟩
    ·rw [if_neg (by simp [h6])] at hst1
     refine RH.adv tk [true,false,true] rfl rfl (by simp [hin,hel,hs]<;>omega) ?_
     have hC:=rWith_t p t hwt (by omega) ch.name ch.new
     rw [hst1] at hac hgs
     rw [if_pos rfl] at hac
     dsimp only at hac hgs
     generalize some (putO t ch.name ch.new)=t2 at hC hac hgs ⊢
     refine RH.above (id:=0) rfl rfl λhz3 hz4=>?_
     refine RH.dd [] 70 (λz:At2=>rmE z (ksO t2) (xsO t2)) rfl rfl rfl Tryz.call121 hC (λu hu=>hu.fact.2.now hu.fact.1.2.1) ?_
     intro z2 m9 hm9
     refine RH.a [] ?_
     exact RH.again (i+1,z2,t2) (.head _) rfl rfl (by show l.length - (i+1) < l.length - i;omega) λu hu=>⟨⟨hu.1.1,λv' hv' hp'=>hu.2.up (by omega) hv' trivial⟩,hlt,hac,hgs⟩
 ·have hil:i=l.length:=by omega
  have hap':applyO t0 l=(t,0):=by rw [hap,hil,List.drop_length];rfl
  rw [hap']
  refine RH.a [false] ?_
  exact RH.retBoxT tk (rmE p (ksO t) (xsO t)) Tryz.func72 rfl rfl rfl rfl rfl λw' hst=>⟨p,rfl,hst.out [] rfl rfl λu h=>⟨h.1.1,h.2⟩⟩
theorem V.Does.re {g:FuncId} {args:List Value} {pre:World->Prop} {α β:Type} {W:α->Value} {G':α->Heap} {J:α->Nat->World->Prop} (f:α->β) {W':β->Value} {G2:β->Heap} {J':β->Nat->World->Prop}
  (h:Does Tryz.prog tb g args [] pre W G' J) (hV:∀ x,W x=W' (f x)) (hG:∀ x,G2 (f x)=G' x) (hJ:∀ x m u,J x m u->J' (f x) m u):Does Tryz.prog tb g args [] pre W' G2 J' :=
 λB0 w K hst hk=>(h B0 w K hst hk).mono λr w' ⟨x,hr,hs⟩=>⟨f x,by rw [hr,hV],by rw [hG];exact hs.mono λu _ hu=>⟨hu.1,hJ x _ u hu.2⟩⟩
theorem V.Does.at {g:FuncId} {args:List Value} {pre:World->Prop} {α:Type} {W:α->Value} {G':α->Heap} {J:α->Nat->World->Prop}
  (h:∀ w,pre w->Does Tryz.prog tb g args [] pre W G' J):Does Tryz.prog tb g args [] pre W G' J:=λB0 w K hst hk=>h w (hk w hst.fact) B0 w K hst hk
theorem Put_tot (po:Option Plot) (t:Option Tree) (ht:GoodO t) (name:Str) (x:Sum) (hn:name.length ≤ 1000) :
  Does Tryz.prog tb 20 [(mapE po).v,strV name,sumV x] [] (λu=>Glob u/\IsO u po t) (λo:Option Plot=>.tuple #[.agg #[ptrO o],intV (putR t name x).2]) (λ_=>[]) (λo=>Late (λu=>IsO u po t) (λu=>IsO u o (putR t name x).1)):=by
 by_cases h1:60 < name.length
 ·have he:putR t name x=(none,11):=if_pos h1
  rw [he]
  exact V.Does.re (λ_:Unit=>(none:Option Plot)) (Does.of_gives λw _=>Put_long w po name x h1 hn) (λ_=>rfl) (λ_=>rfl) λ_ _ _ _ v _ _=>trivial
 ·have he1:putR t name x=if getO t name=none/\600 ≤ maO t then (none,12) else (some (putO t name x),0):=if_neg h1
  by_cases h2:getO t name=none/\600 ≤ maO t
  ·rw [if_pos h2] at he1
   rw [he1]
   refine V.Does.re (λ_:Unit=>(none:Option Plot)) (Does.of_gives λw hp=>Put_full w po t hp.2 ht.ok name x (by omega) ?_ (Nat.le_antisymm ht.many h2.2)) (λ_=>rfl) (λ_=>rfl) λ_ _ _ _ v _ _=>trivial
   have h5:=find_isSome hp.2 ht.ok name
   rw [h2.1] at h5
   cases hf:findO po t name with
   | none=>rfl
   | some z=>rw [hf] at h5;cases h5
  ·rw [if_neg h2] at he1
   rw [he1]
   refine V.Does.at λw hp=>?_
   refine V.Does.re (λL:Plot=>some L) (Put_ok po t ht.ok name x (by omega) ?_) (λ_=>rfl) (λ_=>rfl) λL m u hu=>hu
   have h5:=find_isSome hp.2 ht.ok name
   cases hg:getO t name with
   | some z=>rw [hg] at h5;exact .inl h5
   | none=>exact .inr λe=>h2 ⟨hg,by omega⟩
theorem Drop_tot (po:Option Plot) (t:Option Tree) (ht:GoodO t) (name:Str) (hn:name.length ≤ 1000) :
  Does Tryz.prog tb 22 [(mapE po).v,strV name] [] (λu=>Glob u/\IsO u po t) (λo:Option Plot=>.tuple #[.agg #[ptrO o],intV (dropR t name).2]) (λ_=>[]) (λo=>Late (λu=>IsO u po t) (λu=>IsO u o (dropR t name).1)):=by
 cases hg:(getO t name).isSome with
 | true =>
  have he:dropR t name=(dropO t name,0):=if_pos hg
  rw [he]
  exact Drop_ok po t ht.ok ht.low1000 name hn hg
 | false =>
  have he:dropR t name=(none,6):=if_neg (by rw [hg];decide)
  rw [he]
  refine V.Does.re (λ_:Unit=>(none:Option Plot)) (Does.of_gives λw hp=>Drop_none w po t hp.2 ht.ok name hn ?_) (λ_=>rfl) (λ_=>rfl) λ_ _ _ _ v _ _=>trivial
  cases hh:getO t name with
  | none=>rfl
  | some z=>rw [hh] at hg;cases hg
theorem fields_rch:(Tryz.prog.fieldsOf 110).toList=[fT "Name" 9 0 0,fT "Had" 4 1 16,fT "Has" 4 2 17,fT "Old" 40 3 18,fT "New" 40 35 50]:=by kernel_rfl
theorem stood_rch:Tryz.prog.stoodInHeld 110=false:=by kernel_rfl
theorem undf_rch:Tryz.prog.underlying 110=some (.struct (Tryz.prog.fieldsOf 110)):=by kernel_rfl
theorem eq_rchg (w:World) (d:Nat) (a b:TChg):(Op.equalIn (d+3) 110 (EV.st (tchF a)).v (EV.st (tchF b)).v).run Tryz.prog w = .ok (decide (a=b)) w:=by
 rw [tch_cells,tch_cells,run_equalIn_struct w (d+2) _ _ _ undf_rch stood_rch,fields_rch]
 have hs:∀ (x:TChg),(part 40 (strV x.name :: .bool x.had :: .bool x.has :: (x.old.l.map u8V ++ x.new.l.map u8V)).toArray 3).run Tryz.prog w = .ok (sumV x.old) w:=λx=>by
  rw [part_row w (tk.und und_sum) rfl (run_tsize tk (i:=Tryz.t40) rfl)]
  have hlen:(x.old.l.map u8V).length=32:=by simp [x.old.h]
  have:((strV x.name :: .bool x.had :: .bool x.has :: (x.old.l.map u8V ++ x.new.l.map u8V)).take (3+Tryz.t40.size)).drop 3=x.old.l.map u8V:=by
   show ((strV x.name :: .bool x.had :: .bool x.has :: (x.old.l.map u8V ++ x.new.l.map u8V)).take (32+3)).drop 3=_
   simp only [List.take_succ_cons,List.drop_succ_cons,List.drop_zero]
   rw [← hlen,List.take_left]
  rw [this]
  rfl
 have hn:∀ (x:TChg),(part 40 (strV x.name :: .bool x.had :: .bool x.has :: (x.old.l.map u8V ++ x.new.l.map u8V)).toArray 35).run Tryz.prog w = .ok (sumV x.new) w:=λx=>by
  rw [part_row w (tk.und und_sum) rfl (run_tsize tk (i:=Tryz.t40) rfl)]
  have hlen:(x.old.l.map u8V).length=32:=by simp [x.old.h]
  have hlen2:(x.new.l.map u8V).length=32:=by simp [x.new.h]
  have:((strV x.name :: .bool x.had :: .bool x.has :: (x.old.l.map u8V ++ x.new.l.map u8V)).take (35+Tryz.t40.size)).drop 35=x.new.l.map u8V:=by
   show ((strV x.name :: .bool x.had :: .bool x.has :: (x.old.l.map u8V ++ x.new.l.map u8V)).take (64+3)).drop (32+3)=_
   simp only [List.take_succ_cons,List.drop_succ_cons]
   rw [List.take_of_length_le (by rw [List.length_append,hlen,hlen2];decide),← hlen,List.drop_left]
  rw [this]
  rfl
 have e6:=eqT_cons w (d+2) (fT "New" 40 35 50) [] (by decide) _ _ (hn a) (hn b) (eq_sum w d a.new b.new) (eqT_nil w _ _ _)
 have e5:=eqT_cons w (d+2) (fT "Old" 40 3 18) _ (by decide) _ _ (hs a) (hs b) (eq_sum w d a.old b.old) e6
 have h3:∀ x:TChg,(part 4 (strV x.name :: .bool x.had :: .bool x.has :: (x.old.l.map u8V ++ x.new.l.map u8V)).toArray 2).run Tryz.prog w = .ok (.bool x.has) w:=λx=>part_one w (tk.und (d:=.bool) rfl) rfl _ 2 (.bool x.has) rfl
 have h2:∀ x:TChg,(part 4 (strV x.name :: .bool x.had :: .bool x.has :: (x.old.l.map u8V ++ x.new.l.map u8V)).toArray 1).run Tryz.prog w = .ok (.bool x.had) w:=λx=>part_one w (tk.und (d:=.bool) rfl) rfl _ 1 (.bool x.had) rfl
 have h1:∀ x:TChg,(part 9 (strV x.name :: .bool x.had :: .bool x.has :: (x.old.l.map u8V ++ x.new.l.map u8V)).toArray 0).run Tryz.prog w = .ok (strV x.name) w:=λx=>part_one w (tk.und (d:=.string) rfl) rfl _ 0 (strV x.name) rfl
 have e4:=eqT_cons w (d+2) (fT "Has" 4 2 17) _ (by decide) _ _ (h3 a) (h3 b) (eqT_bool w (d+1) a.has b.has) e5
 have e3:=eqT_cons w (d+2) (fT "Had" 4 1 16) _ (by decide) _ _ (h2 a) (h2 b) (eqT_bool w (d+1) a.had b.had) e4
 have e2:=eqT_cons w (d+2) (fT "Name" 9 0 0) _ (by decide) _ _ (h1 a) (h1 b) (eq_str w (d+1) a.name b.name) e3
 rw [e2]
 congr 1
 rw [Bool.eq_iff_iff]
 simp only [Bool.and_eq_true,decide_eq_true_iff,Bool.and_true]
 constructor
 ·rintro ⟨h2,h3,h4,h5,h6⟩;cases a;cases b;simp_all
 ·rintro rfl;exact ⟨rfl,rfl,rfl,rfl,rfl⟩
theorem lives1_spec (w:World) (a b:TChg):Gives Tryz.prog 131 [(EV.st (tchF a)).v,(EV.st (tchF b)).v] w (boE (decide (a=b))):=by
 refine enterH tk [(0,.st (tchF a)),(1,.st (tchF b))] Tryz.func131 rfl Tryz.ntmps131 rfl rfl ?_
 refine RH.a [] ?_
 refine RH.read (boE (decide (a=b))) rfl rfl rfl rfl (λw' q _ hag=>op_eq (u:=.st (tchF a)) (v:=.st (tchF b)) hag rfl rfl rfl (tch_cells a) (tch_cells b) (by kernel_rfl) (by have:=eq_rchg w' 9997 a b;rw [tch_cells,tch_cells] at this;exact this)) ?_
 refine RH.a [] ?_
 refine RH.ret1 Tryz.func131 rfl rfl λu hst=>⟨rfl,hst.fact⟩
theorem parts1_spec (w:World) (a b:TChg):Gives Tryz.prog 68 [(EV.st (tchF a)).v,(EV.st (tchF b)).v] w (boE (decide (a=b))):=by
 refine enterH tk [(0,.st (tchF a)),(1,.st (tchF b))] Tryz.func68 rfl Tryz.ntmps68 rfl rfl ?_
 refine RH.a [] ?_
 refine RH.read (boE (decide (a=b))) rfl rfl rfl rfl (λw' q _ hag=>op_eq (u:=.st (tchF a)) (v:=.st (tchF b)) hag rfl rfl rfl (tch_cells a) (tch_cells b) (by kernel_rfl) (by have:=eq_rchg w' 9997 a b;rw [tch_cells,tch_cells] at this;exact this)) ?_
 refine RH.a [] ?_
 refine RH.ret1 Tryz.func68 rfl rfl λu hst=>⟨rfl,hst.fact⟩
theorem eqChg_spec (w:World) (A B:Option Addr) (c d:Nat) (l:List TChg) (hA:Sl kTCh w A c l) (hB:Sl kRCh w B d l) (g:FuncId) (hcg:∀ (xs:Array Value) w,(callFunc g xs).run Tryz.prog w = .ok (.enter g xs) w) (hgv:∀ u a b,Gives Tryz.prog g [(EV.st (tchF a)).v,(EV.st (tchF b)).v] u (boE (decide (a=b)))) :
  Gives Tryz.prog 66 [.slice A l.length c,.slice B l.length d,.func (.func g) #[] #[]] w .tt:=by
 have hlim:lim=140737488351232:=rfl
 have hsl:=hA.small
 refine enterH tk [(0,slE A l.length c),(1,slE B l.length d),(2,.av (.val (.func (.func g) #[] #[])))] Tryz.func66 rfl Tryz.ntmps66 rfl rfl ?_
 refine RH.a [false] ?_
 refine RH.loop (α:=Nat) (λi=>[(1,slE B l.length d),(2,.av (.val (.func (.func g) #[] #[]))),(15,slE A l.length c),(16,intE l.length),(17,intE i)]) (λ_=>[])
  (λi u=>Ext w u/\i ≤ l.length) (λi=>l.length - i) 0 rfl rfl (λu h=>⟨h,Nat.zero_le _⟩) ?_
 intro i m1
 refine RH.pure (λw' h=>h.2) λhi=>?_
 by_cases hlt:i < l.length
 ·refine RH.adv tk [true] rfl rfl (by simp [hA.ptr hlt]<;>omega) ?_
  refine RH.loadS (.st (tchF l[i])) rfl rfl rfl rfl (λu hu=>(hA.ext hu.fact.1).load hlt) ?_
  refine RH.adv tk [] rfl rfl (by simp [hB.ptr hlt]<;>omega) ?_
  refine RH.loadS (.st (tchF l[i])) rfl rfl rfl rfl (λu hu=>(hB.ext hu.fact.1).load hlt) ?_
  refine RH.a [] ?_
  refine RH.gv (boE (decide (l[i]=l[i]))) rfl rfl rfl hcg (λu hu=>hgv u _ _) ?_
  intro m2 hm2
  refine RH.adv tk [false] rfl rfl (by simp;omega) ?_
  exact RH.again (i+1) (.head _) rfl rfl (by omega) λw' h=>⟨h.1,by omega⟩
 ·refine RH.a [false] ?_
  refine RH.ret1 Tryz.func66 rfl rfl λu hst=>⟨rfl,hst.fact.1⟩
set_option maxHeartbeats 1000000 in
theorem alike_spec (w:World) (hG:Glob w) (po:Option Plot) (t:Option Tree) (hI:IsO w po t) (y:At2) (hR:RM w y (ksO t) (xsO t)) (hg:GoodO t):Gives Tryz.prog 57 [(mapE po).v,(rmE y (ksO t) (xsO t)).v] w .tt:=by
 have hlim:lim=140737488351232:=rfl
 have hok:=hg.ok
 have hlow:=hg.low1000
 have hm:=hg.many
 have hkl:=ksO_len t
 have hxl:=xsO_len t
 have hel:=entsO_many t
 refine enterH tk [(0,mapE po),(1,rmE y (ksO t) (xsO t))] Tryz.func57 rfl Tryz.ntmps57 rfl rfl ?_
 refine RH.a [] ?_
 refine RH.dd [] 60 (λz:Option Addr × Nat=>rowS 2 z.1 (ksO t).length z.2) rfl rfl rfl Tryz.call29 (TNames_spec po t 1000 hok hlow (Nat.le_refl _)) (λu hu=>hI.ext hu.fact) ?_
 rintro ⟨A1,c1⟩ m1 hm1
 refine RH.drop ?_
 refine RH.a [] ?_
 refine RH.tell [(2,.av (.box 0 w.heap.size 0)),(3,.av (.box 1 (w.heap.size+1) 0)),(5,rowS 60 A1 (ksO t).length c1)]
  [(0,some (.box w.heap.size [.val (ptrO po)] 31)),(1,some (.box (w.heap.size+1) (rmF y (ksO t) (xsO t)) 81)),(60,rowE kStr A1 c1 (ksO t))] [(60,2)] rfl rfl rfl 61 ?_
 refine V.RH.know (λu=>Ext w u) (λu h=>h) ?_
 have hsl1:(ksO t).length ≤ lim:=by omega
 have hown:∀ {u:World},St tb w.heap.size [(0,some (.box w.heap.size [.val (ptrO po)] 31)),(1,some (.box (w.heap.size+1) (rmF y (ksO t) (xsO t)) 81)),(60,rowE kStr A1 c1 (ksO t))] (λu=>Ext w u) u->Sl kStr u A1 c1 (ksO t):=fun {u} hu=>Sl.own (B:=w.heap.size) (hu.row (κ:=kStr) (l:=ksO t) (id:=60) rfl) hsl1
 refine RH.w [(0,some (.box w.heap.size [.val (ptrO po)] 31)),(1,some (.box (w.heap.size+1) (rmF y (ksO t) (xsO t)) 81)),(60,rowE kStr A1 c1 (ksO t))] 27 ?_
 refine RD.a [] ?_
 refine RD.gv 3 .tt rfl rfl rfl Tryz.call28 (λu hu=>by
  have h:=equalS_spec u A1 y.1.1 c1 y.1.2 (ksO t) (ksO t) (hown hu) (hR.ext hu.fact).1
  rw [decide_eq_true rfl] at h
  exact h) ?_
 intro m2 hm2
 refine RD.a [] ?_
 refine RD.gv 7 (intE (ksO t).length) rfl rfl rfl Tryz.call25 (λu hu=>by rw [hkl];exact Many_spec u po t (hI.ext hu.fact)) ?_
 intro m3 hm3
 refine RD.a [false] ?_
 refine RD.gv 14 (sumE (rootO t)) rfl rfl rfl Tryz.call24 (λu hu=>Root_spec u (hG.ext hu.fact) po t (hI.ext hu.fact)) ?_
 intro m4 hm4
 refine RD.a [] ?_
 refine RD.gv 16 (sumE (rootO t)) rfl rfl rfl Tryz.call49 (λu hu=>rRoot_spec u y t hg.wf hlow (by omega) (hR.ext hu.fact)) ?_
 intro m5 hm5
 refine RD.r 17 (boE (!decide (rootO t=rootO t))) rfl rfl (λw' a h hag=>op_neq hag rfl rfl rfl rfl rfl (by kernel_rfl) (eq_sum w' 9998 _ _)) ?_
 refine RD.a [false] ?_
 refine RD.dd 21 [] 70 (λz:Option Addr × Nat=>slE z.1 (encL t).length z.2) rfl rfl rfl Tryz.call44 (Encode_spec po t hok hlow (by omega)) (λu hu=>hI.ext hu.fact) ?_
 rintro ⟨A2,c2⟩ m6 hm6
 refine RD.a [] ?_
 refine RD.dd 23 [] 71 (λz:Option Addr × Nat=>slE z.1 (encL t).length z.2) rfl rfl rfl Tryz.call50 (rEncode_spec y t hg.wf hlow (by omega)) (λu hu=>hR.ext hu.fact.1) ?_
 rintro ⟨A3,c3⟩ m7 hm7
 refine RD.gv 24 .tt rfl rfl rfl Tryz.call46 (λu hu=>by
  have h:=bEqualA u A2 A3 c2 c3 (encL t) (encL t) (hu.fact.1.2.now trivial) (hu.fact.2.now trivial)
  rw [decide_eq_true rfl] at h
  exact h) ?_
 intro m8 hm8
 refine RD.a [] ?_
 refine RD.e ?_
 refine V.RH.know (λu=>Ext w u) (λu h=>h.1.1) ?_
 refine RH.a [] ?_
 refine RH.loop (α:=Nat) (λi=>[(2,.av (.box 0 w.heap.size 0)),(3,.av (.box 1 (w.heap.size+1) 0)),(5,rowS 60 A1 (ksO t).length c1),(43,rowS 60 A1 (ksO t).length c1),(44,intE (ksO t).length),(45,intE i)]) (λ_=>[(0,some (.box w.heap.size [.val (ptrO po)] 31)),(1,some (.box (w.heap.size+1) (rmF y (ksO t) (xsO t)) 81)),(60,rowE kStr A1 c1 (ksO t))]) (λi u=>Ext w u/\i ≤ (ksO t).length) (λi=>(ksO t).length - i) 0 rfl rfl (λu h=>⟨h,Nat.zero_le _⟩) ?_
 intro i m9
 refine RH.pure (λu h=>h.2) λhi=>?_
 refine V.RH.know (λu=>Ext w u) (λu h=>h.1) ?_
 by_cases hlt:i < (ksO t).length
 ·have hle:i < (enO t).length:=by omega
  have hltx:i < (xsO t).length:=by omega
  have hnm:(ksO t)[i]=((enO t)[i]).1:=some_at (by rw [List.getElem?_map,List.getElem?_eq_getElem hle];rfl) hlt
  have hxx:(xsO t)[i]=((enO t)[i]).2:=some_at (by rw [List.getElem?_map,List.getElem?_eq_getElem hle];rfl) hltx
  have hgt:getO t ((enO t)[i]).1=some ((enO t)[i]).2:=(meO hg.wf _ _).1 (List.getElem_mem hle)
  have hn60:((enO t)[i]).1.length ≤ 60:=hg.low _ _ hgt
  have hne:ksO t ≠ []:=λe=>by rw [e] at hlt;cases hlt
  refine RH.pureS (λu hu=>hu.ptr (id:=60) (κ:=kStr) (l:=ksO t) rfl hne) λp1=>?_
  have p2:=hR.2.ptr hltx
  have hld:∀ u,St tb w.heap.size [(0,some (.box w.heap.size [.val (ptrO po)] 31)),(1,some (.box (w.heap.size+1) (rmF y (ksO t) (xsO t)) 81)),(60,rowE kStr A1 c1 (ksO t))] (λu=>Ext w u) u->(loadVar 9 ⟨blkA A1,offA A1+i*1,none⟩).run Tryz.prog u = .ok (strV ((enO t)[i]).1) u:=λu hu=>by
   have h:=hu.loadRow (κ:=kStr) (l:=ksO t) (id:=60) rfl hsl1 hlt
   rw [hnm] at h
   exact h
  generalize ((enO t)[i]).1=nm at *
  generalize ((enO t)[i]).2=xv at *
  refine RH.adv tk [true] rfl rfl (by simp [p1]<;>omega) ?_
  refine RH.loadS (strE nm) rfl rfl rfl rfl (λu hu=>hld u hu) ?_
  refine RH.a [] ?_
  refine RH.gv (.av (.val (.tuple #[sumV xv,intV 0]))) rfl rfl rfl Tryz.call33 (λu hu=>by
   have h:=Get_spec u po t (hI.ext hu.fact) hok nm (by omega)
   rw [hgt] at h
   exact h) ?_
  intro m10 hm10
  refine RH.toNx 80 ?_
  refine RH.a [] ?_
  refine RH.w [(1,some (.box (w.heap.size+1) (rmF y (ksO t) (xsO t)) 81)),(80,some (.box m10 [.val (sumV xv)] 40))] 11 ?_
  refine RD.b [false] rfl rfl (by simp [p2]<;>omega) ?_
  refine RD.ld 8 (sumE xv) rfl rfl (λu hu=>by have:=(hR.2.ext hu).load hltx;rw [hxx] at this;exact this) ?_
  refine RD.r 9 (boE (!decide (xv=xv))) rfl rfl (λw' a h hag=>op_neq hag rfl rfl rfl rfl rfl (by kernel_rfl) (eq_sum w' 9998 _ _)) ?_
  refine RD.a [] ?_
  refine RD.e ?_
  by_cases hfl:i=0 ∨ i+1=(ksO t).length
  ·apply RH.joinK (α:=Unit) (λ_=>[(2,.av (.box 0 w.heap.size 0)),(3,.av (.box 1 (w.heap.size+1) 0)),(5,rowS 60 A1 (ksO t).length c1),(43,rowS 60 A1 (ksO t).length c1),(44,intE (ksO t).length),(45,intE i),(7,strE nm),(77,rmE y (ksO t) (xsO t)),(78,strE nm)]) (λ_=>[(0,some (.box w.heap.size [.val (ptrO po)] 31)),(1,some (.box (w.heap.size+1) (rmF y (ksO t) (xsO t)) 81)),(60,rowE kStr A1 c1 (ksO t))]) (λ_ u=>Ext w u)
   ·by_cases h0:i=0
    ·refine RH.adv tk [false,true] rfl rfl (by simp [h0]) ?_
     exact RH.mtS () [] (.head _) rfl rfl rfl λu h=>h
    ·refine RH.adv tk [false,false,true] rfl rfl (by simp only [AllOb,Ob.P];simp only [decide_eq_true_eq,decide_eq_false_iff_not,Bool.not_eq_false',and_true];omega) ?_
     exact RH.mtS () [] (.head _) rfl rfl rfl λu h=>h
   rintro ⟨⟩ m11
   refine RH.toNx 81 ?_
   refine RH.dd [] 90 (λz:(Option Addr × Nat) × List Stp=>.av (.val (.tuple #[.slice z.1.1 z.2.length z.1.2,intV 0]))) rfl rfl rfl Tryz.call51 (rWay_ok y t hg.wf hlow (by omega) nm hn60) (λu hu=>hR.ext hu.fact) ?_
   rintro ⟨⟨A4,c4⟩,ws⟩ m12 hm12
   refine RH.a [] ?_
   refine RH.dd [] 91 (λz:(Option Addr × Nat) × List Stp=>.av (.val (.tuple #[.slice z.1.1 z.2.length z.1.2,intV 0]))) rfl rfl rfl Tryz.call52 (Way_ok po t hok nm hn60) (λu hu=>hI.ext hu.fact.1) ?_
   rintro ⟨⟨A5,c5⟩,vs⟩ m13 hm13
   refine RH.pure (λu hu=>(⟨(hu.1.2.now trivial).1,(hu.2.now trivial).1⟩:ws.map Stp.dat=(wayO t nm).map Tree.dat/\vs.map Stp.dat=(wayO t nm).map Tree.dat)) λ⟨hws,hvs⟩=>?_
   have hwl:(wayO t nm).length ≤ 61:=by
    cases t with
    | none=>exact Nat.zero_le _
    | some t=>exact Nat.le_trans (wayT_len t nm) (by omega)
   have hl1:ws.length ≤ lim:=by have:=congrArg List.length hws;rw [List.length_map,List.length_map] at this;omega
   have hl2:vs.length ≤ lim:=by have:=congrArg List.length hvs;rw [List.length_map,List.length_map] at this;omega
   refine RH.a [false] ?_
   refine RH.gv .tt rfl rfl rfl Tryz.call42 (λu hu=>by
    have h:=eqSteps_spec u A5 A4 c5 c4 vs ws (Sl.own (B:=w.heap.size) (hu.row (κ:=kStp) (l:=vs) (id:=90) rfl) hl2) (Sl.own (B:=w.heap.size) (hu.row (κ:=kRStp) (l:=ws) (id:=81) rfl) hl1) (hu.fact.2.now trivial).2 (hu.fact.1.2.now trivial).2
    rw [decide_eq_true (hvs.trans hws.symm)] at h
    exact h) ?_
   intro m14 hm14
   refine V.RH.know (λu=>Ext w u) (λu h=>h.1.1) ?_
   refine RH.adv tk [] rfl rfl (by simp;omega) ?_
   exact RH.again (i+1) (.head _) rfl rfl (by omega) λu h=>⟨h,hlt⟩
  ·refine RH.adv tk [false,false,false] rfl rfl (by simp only [AllOb,Ob.P];simp only [decide_eq_true_eq,decide_eq_false_iff_not,Bool.not_eq_false',and_true];omega) ?_
   exact RH.again (i+1) (.head _) rfl rfl (by omega) λu h=>⟨h,hlt⟩
 ·refine RH.a [false] ?_
  refine RH.ret1 Tryz.func57 rfl rfl λu hu=>⟨rfl,hu.fact⟩
theorem diff_fit {s t:Option Tree} (hs:GoodO s) (ht:GoodO t):(diffL s t).length ≤ 1200/\∀ x ∈ diffL s t,x.name.length ≤ 1000:=by
 have h1:=diff_many hs.wf ht.wf
 have h2:=hs.many
 have h3:=ht.many
 exact ⟨by omega,λx hx=>Nat.le_trans (diff_short hs.wf ht.wf hs.low ht.low x hx) (by decide)⟩
set_option maxHeartbeats 4000000 in
theorem lives_spec (w:World) (hG:Glob w) (po:Option Plot) (t:Option Tree) (hI:IsO w po t) (y:At2) (hR:RM w y (ksO t) (xsO t)) (hg:GoodO t) (name:Str) (hn:name.length ≤ 1000) (x:Sum) :
  Gives Tryz.prog 62 [(mapE po).v,(rmE y (ksO t) (xsO t)).v,strV name,sumV x] w .tt:=by
 have hlim:lim=140737488351232:=rfl
 have hz31:(Tryz.t31).size=1:=by kernel_rfl
 have hz1:(Tryz.t9).size=1:=by kernel_rfl
 have hz32:(Tryz.t40).size=32:=by kernel_rfl
 have hPut:=Put_tot po t hg name x hn
 have hrPut:=rPut_spec y t hg.wf (Nat.le_trans hg.many (by decide)) name x (Nat.le_trans hn (by decide))
 have ga:=hg.put name x
 generalize putR t name x=ra at *
 obtain ⟨a,ea⟩:=ra
 dsimp only at hPut hrPut ga
 have gc:=ga.drop name
 have hDrop:=λo=>Drop_tot o a ga name hn
 have hrDrop:=λz=>rDrop_spec z a ga.wf (Nat.le_trans ga.many (by decide)) name
 generalize dropR a name=rc at *
 obtain ⟨c,ec⟩:=rc
 dsimp only at hDrop hrDrop gc
 have hDiff:=λo=>Diff_spec po t o a hg.ok hg.low1000 ga.ok ga.low1000 (Nat.le_trans hg.many (by decide)) (Nat.le_trans ga.many (by decide))
 have hrDiff:=λz=>rDiff_spec y z t a hg.wf ga.wf (Nat.le_trans hg.many (by decide)) (Nat.le_trans ga.many (by decide))
 obtain ⟨hLl,hLn⟩:=diff_fit hg ga
 generalize diffL t a=L at *
 have go:=GoodO.apply L hg
 have hApply:=λA c=>Apply_spec po t hg.ok hg.low hg.many A c L hLn (by omega)
 have hrApply:=λA c=>rApply_spec y t hg A c L
 generalize applyO t L=ro at *
 obtain ⟨o,eo⟩:=ro
 dsimp only at hApply hrApply go
 have gf:=GoodO.from (names:=[name]) (sums:=[x])
 have hFrom:=λA c B d=>From_spec A c [name] B d [x]
 have hrFrom:=λA c B d=>rFrom_spec A c [name] B d [x]
 generalize fromE [name] [x]=ef at *
 generalize (if ef=0 then fromO ([name].zip [x]) else none)=f1 at *
 have gq:=hg.union gf
 have hUnion:=λo=>Union_spec po t o f1 hg.ok hg.low1000 gf.ok gf.low1000 (Nat.le_trans hg.many (by decide)) (Nat.le_trans gf.many (by decide))
 have hrUnion:=λz=>rUnion_spec y z t f1 hg.wf gf.wf (Nat.le_trans hg.many (by decide)) (Nat.le_trans gf.many (by decide))
 generalize unionE t f1=eq at *
 generalize (if eq=0 then fromO (enO t ++ enO f1) else none)=q at *
 refine enterH tk [(0,mapE po),(1,rmE y (ksO t) (xsO t)),(2,strE name),(3,sumE x)] Tryz.func62 rfl Tryz.ntmps62 rfl rfl ?_
 refine RH.a [] ?_
 refine RH.dd [] 9 (λo:Option Plot=>.av (.val (.tuple #[.agg #[ptrO o],intV ea]))) rfl rfl rfl Tryz.call20 hPut (λu hu=>⟨hG.ext (hu.fact),hI.ext (hu.fact)⟩) ?_
 intro pa n1 hn1
 refine V.RH.know (λu=>(Ext w u/\IsO u pa a)) (λu h=>⟨h.1,h.2.now (hI.ext (h.1))⟩) ?_
 refine RH.adv tk [] rfl rfl (by simp [hz31,Value.oneCell']<;>omega) ?_
 refine V.RH.slotE 36 (mapE pa) rfl rfl ?_
 refine RH.adv tk [] rfl rfl (by first|(simp [hz1,hz32];done)|(simp [hz31,Value.oneCell']<;>omega)) ?_
 refine RH.tell [(2,strE name),(4,.av (.box 0 w.heap.size 0)),(5,.av (.box 1 (w.heap.size+1) 0)),(7,.av (.box 2 (w.heap.size+1+1) 0)),(9,.av (.box 9 n1 0)),(10,intE ea),(39,rmE y (ksO t) (xsO t)),(40,strE name),(41,sumE x)] [(0,some (.box w.heap.size [.val (ptrO po)] 31)),(1,some (.box (w.heap.size+1) (rmF y (ksO t) (xsO t)) 81)),(2,some (.box (w.heap.size+1+1) [.val (sumV x)] 40)),(9,some (.box n1 ([.val (ptrO pa)]) 31))] [] rfl rfl rfl 10 ?_
 refine RH.dd [] 11 (λz:At2=>.av (.val (.tuple #[(rmE z (ksO a) (xsO a)).v,intV ea]))) rfl rfl rfl Tryz.call59 hrPut (λu hu=>hR.ext (hu.fact.1)) ?_
 intro za n2 hn2
 refine V.RH.know (λu=>((Ext w u/\IsO u pa a)/\RM u za (ksO a) (xsO a))) (λu h=>⟨h.1,h.2.now trivial⟩) ?_
 refine RH.adv tk [] rfl rfl (by simp [hz31,Value.oneCell']<;>omega) ?_
 refine V.RH.slotE 43 (rmE za (ksO a) (xsO a)) rfl rfl ?_
 refine RH.adv tk [] rfl rfl (by first|(simp [hz1,hz32];done)|(simp [hz31,Value.oneCell']<;>omega)) ?_
 refine RH.tell [(2,strE name),(4,.av (.box 0 w.heap.size 0)),(5,.av (.box 1 (w.heap.size+1) 0)),(7,.av (.box 2 (w.heap.size+1+1) 0)),(9,.av (.box 9 n1 0)),(10,intE ea),(11,.av (.box 11 n2 0)),(12,intE ea),(46,mapE pa),(47,strE name)] [(0,some (.box w.heap.size [.val (ptrO po)] 31)),(1,some (.box (w.heap.size+1) (rmF y (ksO t) (xsO t)) 81)),(2,some (.box (w.heap.size+1+1) [.val (sumV x)] 40)),(9,some (.box n1 ([.val (ptrO pa)]) 31)),(11,some (.box n2 (rmF za (ksO a) (xsO a)) 81))] [] rfl rfl rfl 12 ?_
 refine RH.dd [] 13 (λo:Option Plot=>.av (.val (.tuple #[.agg #[ptrO o],intV ec]))) rfl rfl rfl Tryz.call22 (hDrop pa) (λu hu=>⟨hG.ext (hu.fact.1.1),hu.fact.1.2⟩) ?_
 intro pc n3 hn3
 refine V.RH.know (λu=>(((Ext w u/\IsO u pa a)/\RM u za (ksO a) (xsO a))/\IsO u pc c)) (λu h=>⟨h.1,h.2.now h.1.1.2⟩) ?_
 refine RH.adv tk [] rfl rfl (by simp [hz31,Value.oneCell']<;>omega) ?_
 refine V.RH.slotE 49 (mapE pc) rfl rfl ?_
 refine RH.adv tk [] rfl rfl (by first|(simp [hz1,hz32];done)|(simp [hz31,Value.oneCell']<;>omega)) ?_
 refine RH.tell [(2,strE name),(4,.av (.box 0 w.heap.size 0)),(5,.av (.box 1 (w.heap.size+1) 0)),(7,.av (.box 2 (w.heap.size+1+1) 0)),(9,.av (.box 9 n1 0)),(10,intE ea),(11,.av (.box 11 n2 0)),(12,intE ea),(13,.av (.box 13 n3 0)),(14,intE ec),(52,rmE za (ksO a) (xsO a)),(53,strE name)] [(0,some (.box w.heap.size [.val (ptrO po)] 31)),(1,some (.box (w.heap.size+1) (rmF y (ksO t) (xsO t)) 81)),(2,some (.box (w.heap.size+1+1) [.val (sumV x)] 40)),(9,some (.box n1 ([.val (ptrO pa)]) 31)),(11,some (.box n2 (rmF za (ksO a) (xsO a)) 81)),(13,some (.box n3 ([.val (ptrO pc)]) 31))] [] rfl rfl rfl 14 ?_
 refine RH.dd [] 15 (λz:At2=>.av (.val (.tuple #[(rmE z (ksO c) (xsO c)).v,intV ec]))) rfl rfl rfl Tryz.call60 (hrDrop za) (λu hu=>hu.fact.1.2) ?_
 intro zc n4 hn4
 refine V.RH.know (λu=>((((Ext w u/\IsO u pa a)/\RM u za (ksO a) (xsO a))/\IsO u pc c)/\RM u zc (ksO c) (xsO c))) (λu h=>⟨h.1,h.2.now trivial⟩) ?_
 refine RH.adv tk [] rfl rfl (by simp [hz31,Value.oneCell']<;>omega) ?_
 refine V.RH.slotE 55 (rmE zc (ksO c) (xsO c)) rfl rfl ?_
 refine RH.adv tk [] rfl rfl (by first|(simp [hz1,hz32];done)|(simp [hz31,Value.oneCell']<;>omega)) ?_
 refine RH.tell [(2,strE name),(4,.av (.box 0 w.heap.size 0)),(5,.av (.box 1 (w.heap.size+1) 0)),(7,.av (.box 2 (w.heap.size+1+1) 0)),(9,.av (.box 9 n1 0)),(10,intE ea),(11,.av (.box 11 n2 0)),(12,intE ea),(13,.av (.box 13 n3 0)),(14,intE ec),(15,.av (.box 15 n4 0)),(16,intE ec),(57,mapE po),(58,mapE pa)] [(0,some (.box w.heap.size [.val (ptrO po)] 31)),(1,some (.box (w.heap.size+1) (rmF y (ksO t) (xsO t)) 81)),(2,some (.box (w.heap.size+1+1) [.val (sumV x)] 40)),(9,some (.box n1 ([.val (ptrO pa)]) 31)),(11,some (.box n2 (rmF za (ksO a) (xsO a)) 81)),(13,some (.box n3 ([.val (ptrO pc)]) 31)),(15,some (.box n4 (rmF zc (ksO c) (xsO c)) 81))] [] rfl rfl rfl 40 ?_
 refine RH.dd [] 41 (λz:Option Addr × Nat=>rowS 40 z.1 L.length z.2) rfl rfl rfl Tryz.call53 (hDiff pa) (λu hu=>⟨hI.ext (hu.fact.1.1.1.1),hu.fact.1.1.1.2⟩) ?_
 rintro ⟨A1,c1⟩ n5 hn5
 refine RH.drop ?_
 refine V.RH.know (λu=>((((Ext w u/\IsO u pa a)/\RM u za (ksO a) (xsO a))/\IsO u pc c)/\RM u zc (ksO c) (xsO c))) (λu h=>h) ?_
 refine RH.a [] ?_
 refine RH.tell [(2,strE name),(4,.av (.box 0 w.heap.size 0)),(5,.av (.box 1 (w.heap.size+1) 0)),(7,.av (.box 2 (w.heap.size+1+1) 0)),(9,.av (.box 9 n1 0)),(10,intE ea),(11,.av (.box 11 n2 0)),(12,intE ea),(13,.av (.box 13 n3 0)),(14,intE ec),(15,.av (.box 15 n4 0)),(16,intE ec),(17,rowS 40 A1 L.length c1),(60,rmE y (ksO t) (xsO t)),(61,rmE za (ksO a) (xsO a))] [(0,some (.box w.heap.size [.val (ptrO po)] 31)),(1,some (.box (w.heap.size+1) (rmF y (ksO t) (xsO t)) 81)),(2,some (.box (w.heap.size+1+1) [.val (sumV x)] 40)),(9,some (.box n1 ([.val (ptrO pa)]) 31)),(11,some (.box n2 (rmF za (ksO a) (xsO a)) 81)),(13,some (.box n3 ([.val (ptrO pc)]) 31)),(15,some (.box n4 (rmF zc (ksO c) (xsO c)) 81)),(40,rowE kTCh A1 c1 L)] [] rfl rfl rfl 41 ?_
 refine RH.dd [] 42 (λz:Option Addr × Nat=>rowS 41 z.1 L.length z.2) rfl rfl rfl Tryz.call67 (hrDiff za) (λu hu=>⟨hR.ext (hu.fact.1.1.1.1),hu.fact.1.1.2⟩) ?_
 rintro ⟨A2,c2⟩ n6 hn6
 refine RH.drop ?_
 refine V.RH.know (λu=>((((Ext w u/\IsO u pa a)/\RM u za (ksO a) (xsO a))/\IsO u pc c)/\RM u zc (ksO c) (xsO c))) (λu h=>h) ?_
 refine RH.a [false,false] ?_
 refine RH.tell [(2,strE name),(4,.av (.box 0 w.heap.size 0)),(5,.av (.box 1 (w.heap.size+1) 0)),(7,.av (.box 2 (w.heap.size+1+1) 0)),(9,.av (.box 9 n1 0)),(10,intE ea),(11,.av (.box 11 n2 0)),(12,intE ea),(13,.av (.box 13 n3 0)),(14,intE ec),(15,.av (.box 15 n4 0)),(16,intE ec),(17,rowS 40 A1 L.length c1),(18,rowS 41 A2 L.length c2),(71,.ff),(72,rowS 40 A1 L.length c1),(73,rowS 41 A2 L.length c2),(66,.ff)] [(0,some (.box w.heap.size [.val (ptrO po)] 31)),(1,some (.box (w.heap.size+1) (rmF y (ksO t) (xsO t)) 81)),(2,some (.box (w.heap.size+1+1) [.val (sumV x)] 40)),(9,some (.box n1 ([.val (ptrO pa)]) 31)),(11,some (.box n2 (rmF za (ksO a) (xsO a)) 81)),(13,some (.box n3 ([.val (ptrO pc)]) 31)),(15,some (.box n4 (rmF zc (ksO c) (xsO c)) 81)),(40,rowE kTCh A1 c1 L),(41,rowE kRCh A2 c2 L)] [] rfl rfl rfl 42 ?_
 refine RH.gv .tt rfl rfl rfl Tryz.call66 (λu hu=>eqChg_spec u A1 A2 c1 c2 L (Sl.own (B:=w.heap.size) (hu.row (κ:=kTCh) (l:=L) (id:=40) rfl) (by omega)) (Sl.own (B:=w.heap.size) (hu.row (κ:=kRCh) (l:=L) (id:=41) rfl) (by omega)) 131 (λxs u=>Tryz.call131 xs u) lives1_spec) ?_
 intro n7 hn7
 refine RH.a [] ?_
 refine RH.tell [(2,strE name),(4,.av (.box 0 w.heap.size 0)),(5,.av (.box 1 (w.heap.size+1) 0)),(7,.av (.box 2 (w.heap.size+1+1) 0)),(9,.av (.box 9 n1 0)),(10,intE ea),(11,.av (.box 11 n2 0)),(12,intE ea),(13,.av (.box 13 n3 0)),(14,intE ec),(15,.av (.box 15 n4 0)),(16,intE ec),(17,rowS 40 A1 L.length c1),(18,rowS 41 A2 L.length c2),(78,mapE po),(79,rowS 40 A1 L.length c1)] [(0,some (.box w.heap.size [.val (ptrO po)] 31)),(1,some (.box (w.heap.size+1) (rmF y (ksO t) (xsO t)) 81)),(2,some (.box (w.heap.size+1+1) [.val (sumV x)] 40)),(9,some (.box n1 ([.val (ptrO pa)]) 31)),(11,some (.box n2 (rmF za (ksO a) (xsO a)) 81)),(13,some (.box n3 ([.val (ptrO pc)]) 31)),(15,some (.box n4 (rmF zc (ksO c) (xsO c)) 81)),(40,rowE kTCh A1 c1 L),(41,rowE kRCh A2 c2 L)] [] rfl rfl rfl 42 ?_
 refine RH.dd [] 19 (λo:Option Plot=>.av (.val (.tuple #[.agg #[ptrO o],intV eo]))) rfl rfl rfl Tryz.call54 (hApply A1 c1) (λu hu=>⟨hG.ext (hu.fact.1.1.1.1),hI.ext (hu.fact.1.1.1.1),Sl.own (B:=w.heap.size) (hu.row (κ:=kTCh) (l:=L) (id:=40) rfl) (by omega)⟩) ?_
 intro pd n8 hn8
 refine V.RH.know (λu=>(((((Ext w u/\IsO u pa a)/\RM u za (ksO a) (xsO a))/\IsO u pc c)/\RM u zc (ksO c) (xsO c))/\IsO u pd o)) (λu h=>⟨h.1,h.2.now (hI.ext (h.1.1.1.1.1))⟩) ?_
 refine RH.adv tk [] rfl rfl (by simp [hz31,Value.oneCell']<;>omega) ?_
 refine V.RH.slotE 81 (mapE pd) rfl rfl ?_
 refine RH.adv tk [] rfl rfl (by first|(simp [hz1,hz32];done)|(simp [hz31,Value.oneCell']<;>omega)) ?_
 refine RH.tell [(2,strE name),(4,.av (.box 0 w.heap.size 0)),(5,.av (.box 1 (w.heap.size+1) 0)),(7,.av (.box 2 (w.heap.size+1+1) 0)),(9,.av (.box 9 n1 0)),(10,intE ea),(11,.av (.box 11 n2 0)),(12,intE ea),(13,.av (.box 13 n3 0)),(14,intE ec),(15,.av (.box 15 n4 0)),(16,intE ec),(17,rowS 40 A1 L.length c1),(18,rowS 41 A2 L.length c2),(19,.av (.box 19 n8 0)),(20,intE eo),(84,rmE y (ksO t) (xsO t)),(85,rowS 41 A2 L.length c2)] [(0,some (.box w.heap.size [.val (ptrO po)] 31)),(1,some (.box (w.heap.size+1) (rmF y (ksO t) (xsO t)) 81)),(2,some (.box (w.heap.size+1+1) [.val (sumV x)] 40)),(9,some (.box n1 ([.val (ptrO pa)]) 31)),(11,some (.box n2 (rmF za (ksO a) (xsO a)) 81)),(13,some (.box n3 ([.val (ptrO pc)]) 31)),(15,some (.box n4 (rmF zc (ksO c) (xsO c)) 81)),(40,rowE kTCh A1 c1 L),(41,rowE kRCh A2 c2 L),(19,some (.box n8 ([.val (ptrO pd)]) 31))] [] rfl rfl rfl 42 ?_
 refine RH.dd [] 21 (λz:At2=>.av (.val (.tuple #[(rmE z (ksO o) (xsO o)).v,intV eo]))) rfl rfl rfl Tryz.call72 (hrApply A2 c2) (λu hu=>⟨hR.ext (hu.fact.1.1.1.1.1),Sl.own (B:=w.heap.size) (hu.row (κ:=kRCh) (l:=L) (id:=41) rfl) (by omega)⟩) ?_
 intro zd n9 hn9
 refine V.RH.know (λu=>((((((Ext w u/\IsO u pa a)/\RM u za (ksO a) (xsO a))/\IsO u pc c)/\RM u zc (ksO c) (xsO c))/\IsO u pd o)/\RM u zd (ksO o) (xsO o))) (λu h=>⟨h.1,h.2.now (hR.ext (h.1.1.1.1.1.1))⟩) ?_
 refine RH.adv tk [] rfl rfl (by simp [hz31,Value.oneCell']<;>omega) ?_
 refine V.RH.slotE 87 (rmE zd (ksO o) (xsO o)) rfl rfl ?_
 refine RH.adv tk [] rfl rfl (by first|(simp [hz1,hz32];done)|(simp [hz31,Value.oneCell']<;>omega)) ?_
 refine RH.tell [(2,strE name),(4,.av (.box 0 w.heap.size 0)),(5,.av (.box 1 (w.heap.size+1) 0)),(7,.av (.box 2 (w.heap.size+1+1) 0)),(9,.av (.box 9 n1 0)),(10,intE ea),(11,.av (.box 11 n2 0)),(12,intE ea),(13,.av (.box 13 n3 0)),(14,intE ec),(15,.av (.box 15 n4 0)),(16,intE ec),(17,rowS 40 A1 L.length c1),(18,rowS 41 A2 L.length c2),(19,.av (.box 19 n8 0)),(20,intE eo),(21,.av (.box 21 n9 0)),(22,intE eo),(91,rowS 50 (some ⟨n9+1,0,none⟩) 1 1),(93,rowS 51 (some ⟨n9+1+1,0,none⟩) 1 1)] [(0,some (.box w.heap.size [.val (ptrO po)] 31)),(1,some (.box (w.heap.size+1) (rmF y (ksO t) (xsO t)) 81)),(2,some (.box (w.heap.size+1+1) [.val (sumV x)] 40)),(9,some (.box n1 ([.val (ptrO pa)]) 31)),(11,some (.box n2 (rmF za (ksO a) (xsO a)) 81)),(13,some (.box n3 ([.val (ptrO pc)]) 31)),(15,some (.box n4 (rmF zc (ksO c) (xsO c)) 81)),(40,rowE kTCh A1 c1 L),(41,rowE kRCh A2 c2 L),(19,some (.box n8 ([.val (ptrO pd)]) 31)),(21,some (.box n9 (rmF zd (ksO o) (xsO o)) 81)),(50,rowE kStr (some ⟨n9+1,0,none⟩) 1 [name]),(51,rowE kSum (some ⟨n9+1+1,0,none⟩) 1 [x])] [(50,22),(51,23)] rfl rfl rfl 52 ?_
 refine RH.dd [] 23 (λo:Option Plot=>.av (.val (.tuple #[.agg #[ptrO o],intV ef]))) rfl rfl rfl Tryz.call17 (hFrom (some ⟨n9+1,0,none⟩) 1 (some ⟨n9+1+1,0,none⟩) 1) (λu hu=>⟨hG.ext (hu.fact.1.1.1.1.1.1),Sl.own (B:=w.heap.size) (hu.row (κ:=kStr) (l:=[name]) (id:=50) rfl) (by show 1 ≤ lim;omega),Sl.own (B:=w.heap.size) (hu.row (κ:=kSum) (l:=[x]) (id:=51) rfl) (by show 1 ≤ lim;omega)⟩) ?_
 intro pf n10 hn10
 refine V.RH.know (λu=>(((((((Ext w u/\IsO u pa a)/\RM u za (ksO a) (xsO a))/\IsO u pc c)/\RM u zc (ksO c) (xsO c))/\IsO u pd o)/\RM u zd (ksO o) (xsO o))/\IsO u pf f1)) (λu h=>⟨h.1,h.2.now trivial⟩) ?_
 refine RH.adv tk [] rfl rfl (by simp [hz31,Value.oneCell']<;>omega) ?_
 refine V.RH.slotE 95 (mapE pf) rfl rfl ?_
 refine RH.adv tk [] rfl rfl (by first|(simp [hz1,hz32];done)|(simp [hz31,Value.oneCell']<;>omega)) ?_
 refine RH.tell [(2,strE name),(4,.av (.box 0 w.heap.size 0)),(5,.av (.box 1 (w.heap.size+1) 0)),(7,.av (.box 2 (w.heap.size+1+1) 0)),(9,.av (.box 9 n1 0)),(10,intE ea),(11,.av (.box 11 n2 0)),(12,intE ea),(13,.av (.box 13 n3 0)),(14,intE ec),(15,.av (.box 15 n4 0)),(16,intE ec),(17,rowS 40 A1 L.length c1),(18,rowS 41 A2 L.length c2),(19,.av (.box 19 n8 0)),(20,intE eo),(21,.av (.box 21 n9 0)),(22,intE eo),(23,.av (.box 23 n10 0)),(24,intE ef),(99,rowS 50 (some ⟨n10+1,0,none⟩) 1 1),(101,rowS 51 (some ⟨n10+1+1,0,none⟩) 1 1)] [(0,some (.box w.heap.size [.val (ptrO po)] 31)),(1,some (.box (w.heap.size+1) (rmF y (ksO t) (xsO t)) 81)),(2,some (.box (w.heap.size+1+1) [.val (sumV x)] 40)),(9,some (.box n1 ([.val (ptrO pa)]) 31)),(11,some (.box n2 (rmF za (ksO a) (xsO a)) 81)),(13,some (.box n3 ([.val (ptrO pc)]) 31)),(15,some (.box n4 (rmF zc (ksO c) (xsO c)) 81)),(40,rowE kTCh A1 c1 L),(41,rowE kRCh A2 c2 L),(19,some (.box n8 ([.val (ptrO pd)]) 31)),(21,some (.box n9 (rmF zd (ksO o) (xsO o)) 81)),(23,some (.box n10 ([.val (ptrO pf)]) 31)),(50,rowE kStr (some ⟨n10+1,0,none⟩) 1 [name]),(51,rowE kSum (some ⟨n10+1+1,0,none⟩) 1 [x])] [(50,24),(51,25)] rfl rfl rfl 52 ?_
 refine RH.dd [] 25 (λz:At2=>.av (.val (.tuple #[(rmE z (ksO f1) (xsO f1)).v,intV ef]))) rfl rfl rfl Tryz.call48 (hrFrom (some ⟨n10+1,0,none⟩) 1 (some ⟨n10+1+1,0,none⟩) 1) (λu hu=>⟨Sl.own (B:=w.heap.size) (hu.row (κ:=kStr) (l:=[name]) (id:=50) rfl) (by show 1 ≤ lim;omega),Sl.own (B:=w.heap.size) (hu.row (κ:=kSum) (l:=[x]) (id:=51) rfl) (by show 1 ≤ lim;omega)⟩) ?_
 intro zf n11 hn11
 refine V.RH.know (λu=>((((((((Ext w u/\IsO u pa a)/\RM u za (ksO a) (xsO a))/\IsO u pc c)/\RM u zc (ksO c) (xsO c))/\IsO u pd o)/\RM u zd (ksO o) (xsO o))/\IsO u pf f1)/\RM u zf (ksO f1) (xsO f1))) (λu h=>⟨h.1,h.2.now trivial⟩) ?_
 refine RH.adv tk [] rfl rfl (by simp [hz31,Value.oneCell']<;>omega) ?_
 refine V.RH.slotE 103 (rmE zf (ksO f1) (xsO f1)) rfl rfl ?_
 refine RH.adv tk [] rfl rfl (by first|(simp [hz1,hz32];done)|(simp [hz31,Value.oneCell']<;>omega)) ?_
 refine RH.tell [(2,strE name),(4,.av (.box 0 w.heap.size 0)),(5,.av (.box 1 (w.heap.size+1) 0)),(7,.av (.box 2 (w.heap.size+1+1) 0)),(9,.av (.box 9 n1 0)),(10,intE ea),(11,.av (.box 11 n2 0)),(12,intE ea),(13,.av (.box 13 n3 0)),(14,intE ec),(15,.av (.box 15 n4 0)),(16,intE ec),(17,rowS 40 A1 L.length c1),(18,rowS 41 A2 L.length c2),(19,.av (.box 19 n8 0)),(20,intE eo),(21,.av (.box 21 n9 0)),(22,intE eo),(23,.av (.box 23 n10 0)),(24,intE ef),(25,.av (.box 25 n11 0)),(26,intE ef),(106,mapE po),(107,mapE pf)] [(0,some (.box w.heap.size [.val (ptrO po)] 31)),(1,some (.box (w.heap.size+1) (rmF y (ksO t) (xsO t)) 81)),(2,some (.box (w.heap.size+1+1) [.val (sumV x)] 40)),(9,some (.box n1 ([.val (ptrO pa)]) 31)),(11,some (.box n2 (rmF za (ksO a) (xsO a)) 81)),(13,some (.box n3 ([.val (ptrO pc)]) 31)),(15,some (.box n4 (rmF zc (ksO c) (xsO c)) 81)),(40,rowE kTCh A1 c1 L),(41,rowE kRCh A2 c2 L),(19,some (.box n8 ([.val (ptrO pd)]) 31)),(21,some (.box n9 (rmF zd (ksO o) (xsO o)) 81)),(23,some (.box n10 ([.val (ptrO pf)]) 31)),(25,some (.box n11 (rmF zf (ksO f1) (xsO f1)) 81))] [] rfl rfl rfl 52 ?_
 refine RH.dd [] 27 (λo:Option Plot=>.av (.val (.tuple #[.agg #[ptrO o],intV eq]))) rfl rfl rfl Tryz.call34 (hUnion pf) (λu hu=>⟨hG.ext (hu.fact.1.1.1.1.1.1.1.1),hI.ext (hu.fact.1.1.1.1.1.1.1.1),hu.fact.1.2⟩) ?_
 intro pq n12 hn12
 refine V.RH.know (λu=>(((((((((Ext w u/\IsO u pa a)/\RM u za (ksO a) (xsO a))/\IsO u pc c)/\RM u zc (ksO c) (xsO c))/\IsO u pd o)/\RM u zd (ksO o) (xsO o))/\IsO u pf f1)/\RM u zf (ksO f1) (xsO f1))/\IsO u pq q)) (λu h=>⟨h.1,h.2.now trivial⟩) ?_
 refine RH.adv tk [] rfl rfl (by simp [hz31,Value.oneCell']<;>omega) ?_
 refine V.RH.slotE 109 (mapE pq) rfl rfl ?_
 refine RH.adv tk [] rfl rfl (by first|(simp [hz1,hz32];done)|(simp [hz31,Value.oneCell']<;>omega)) ?_
 refine RH.tell [(2,strE name),(4,.av (.box 0 w.heap.size 0)),(5,.av (.box 1 (w.heap.size+1) 0)),(7,.av (.box 2 (w.heap.size+1+1) 0)),(9,.av (.box 9 n1 0)),(10,intE ea),(11,.av (.box 11 n2 0)),(12,intE ea),(13,.av (.box 13 n3 0)),(14,intE ec),(15,.av (.box 15 n4 0)),(16,intE ec),(17,rowS 40 A1 L.length c1),(18,rowS 41 A2 L.length c2),(19,.av (.box 19 n8 0)),(20,intE eo),(21,.av (.box 21 n9 0)),(22,intE eo),(23,.av (.box 23 n10 0)),(24,intE ef),(25,.av (.box 25 n11 0)),(26,intE ef),(27,.av (.box 27 n12 0)),(28,intE eq),(112,rmE y (ksO t) (xsO t)),(113,rmE zf (ksO f1) (xsO f1))] [(0,some (.box w.heap.size [.val (ptrO po)] 31)),(1,some (.box (w.heap.size+1) (rmF y (ksO t) (xsO t)) 81)),(2,some (.box (w.heap.size+1+1) [.val (sumV x)] 40)),(9,some (.box n1 ([.val (ptrO pa)]) 31)),(11,some (.box n2 (rmF za (ksO a) (xsO a)) 81)),(13,some (.box n3 ([.val (ptrO pc)]) 31)),(15,some (.box n4 (rmF zc (ksO c) (xsO c)) 81)),(40,rowE kTCh A1 c1 L),(41,rowE kRCh A2 c2 L),(19,some (.box n8 ([.val (ptrO pd)]) 31)),(21,some (.box n9 (rmF zd (ksO o) (xsO o)) 81)),(23,some (.box n10 ([.val (ptrO pf)]) 31)),(25,some (.box n11 (rmF zf (ksO f1) (xsO f1)) 81)),(27,some (.box n12 ([.val (ptrO pq)]) 31))] [] rfl rfl rfl 52 ?_
 refine RH.dd [] 29 (λz:At2=>.av (.val (.tuple #[(rmE z (ksO q) (xsO q)).v,intV eq]))) rfl rfl rfl Tryz.call65 (hrUnion zf) (λu hu=>⟨hR.ext (hu.fact.1.1.1.1.1.1.1.1.1),hu.fact.1.2⟩) ?_
 intro zq n13 hn13
 refine V.RH.know (λu=>((((((((((Ext w u/\IsO u pa a)/\RM u za (ksO a) (xsO a))/\IsO u pc c)/\RM u zc (ksO c) (xsO c))/\IsO u pd o)/\RM u zd (ksO o) (xsO o))/\IsO u pf f1)/\RM u zf (ksO f1) (xsO f1))/\IsO u pq q)/\RM u zq (ksO q) (xsO q))) (λu h=>⟨h.1,h.2.now (hR.ext (h.1.1.1.1.1.1.1.1.1.1))⟩) ?_
 refine RH.adv tk [] rfl rfl (by simp [hz31,Value.oneCell']<;>omega) ?_
 refine V.RH.slotE 115 (rmE zq (ksO q) (xsO q)) rfl rfl ?_
 refine RH.adv tk [] rfl rfl (by first|(simp [hz1,hz32];done)|(simp [hz31,Value.oneCell']<;>omega)) ?_
 refine RH.tell [(2,strE name),(4,.av (.box 0 w.heap.size 0)),(5,.av (.box 1 (w.heap.size+1) 0)),(7,.av (.box 2 (w.heap.size+1+1) 0)),(9,.av (.box 9 n1 0)),(10,intE ea),(11,.av (.box 11 n2 0)),(12,intE ea),(13,.av (.box 13 n3 0)),(14,intE ec),(15,.av (.box 15 n4 0)),(16,intE ec),(17,rowS 40 A1 L.length c1),(18,rowS 41 A2 L.length c2),(19,.av (.box 19 n8 0)),(20,intE eo),(21,.av (.box 21 n9 0)),(22,intE eo),(23,.av (.box 23 n10 0)),(24,intE ef),(25,.av (.box 25 n11 0)),(26,intE ef),(27,.av (.box 27 n12 0)),(28,intE eq),(29,.av (.box 29 n13 0)),(30,intE eq)] [(0,some (.box w.heap.size [.val (ptrO po)] 31)),(1,some (.box (w.heap.size+1) (rmF y (ksO t) (xsO t)) 81)),(2,some (.box (w.heap.size+1+1) [.val (sumV x)] 40)),(9,some (.box n1 ([.val (ptrO pa)]) 31)),(11,some (.box n2 (rmF za (ksO a) (xsO a)) 81)),(13,some (.box n3 ([.val (ptrO pc)]) 31)),(15,some (.box n4 (rmF zc (ksO c) (xsO c)) 81)),(40,rowE kTCh A1 c1 L),(41,rowE kRCh A2 c2 L),(19,some (.box n8 ([.val (ptrO pd)]) 31)),(21,some (.box n9 (rmF zd (ksO o) (xsO o)) 81)),(23,some (.box n10 ([.val (ptrO pf)]) 31)),(25,some (.box n11 (rmF zf (ksO f1) (xsO f1)) 81)),(27,some (.box n12 ([.val (ptrO pq)]) 31)),(29,some (.box n13 (rmF zq (ksO q) (xsO q)) 81))] [] rfl rfl rfl 53 ?_
 refine RH.w [(0,some (.box w.heap.size [.val (ptrO po)] 31)),(1,some (.box (w.heap.size+1) (rmF y (ksO t) (xsO t)) 81)),(2,some (.box (w.heap.size+1+1) [.val (sumV x)] 40)),(9,some (.box n1 ([.val (ptrO pa)]) 31)),(11,some (.box n2 (rmF za (ksO a) (xsO a)) 81)),(13,some (.box n3 ([.val (ptrO pc)]) 31)),(15,some (.box n4 (rmF zc (ksO c) (xsO c)) 81)),(40,rowE kTCh A1 c1 L),(41,rowE kRCh A2 c2 L),(19,some (.box n8 ([.val (ptrO pd)]) 31)),(21,some (.box n9 (rmF zd (ksO o) (xsO o)) 81)),(23,some (.box n10 ([.val (ptrO pf)]) 31)),(25,some (.box n11 (rmF zf (ksO f1) (xsO f1)) 81)),(27,some (.box n12 ([.val (ptrO pq)]) 31)),(29,some (.box n13 (rmF zq (ksO q) (xsO q)) 81))] 43 ?_
 refine RD.a [true,true] ?_
 refine RD.gv 11 .tt rfl rfl rfl Tryz.call57 (λu hu=>alike_spec u (hG.ext (hu.fact.1.1.1.1.1.1.1.1.1.1)) pa a hu.fact.1.1.1.1.1.1.1.1.1.2 za hu.fact.1.1.1.1.1.1.1.1.2 ga) ?_
 intro k11 hk11
 refine RD.a [] ?_
 refine RD.gv 16 .tt rfl rfl rfl Tryz.call57 (λu hu=>alike_spec u (hG.ext (hu.fact.1.1.1.1.1.1.1.1.1.1)) pc c hu.fact.1.1.1.1.1.1.1.2 zc hu.fact.1.1.1.1.1.1.2 gc) ?_
 intro k16 hk16
 refine RD.a [] ?_
 refine RD.gv 21 .tt rfl rfl rfl Tryz.call57 (λu hu=>alike_spec u (hG.ext (hu.fact.1.1.1.1.1.1.1.1.1.1)) pd o hu.fact.1.1.1.1.1.2 zd hu.fact.1.1.1.1.2 go) ?_
 intro k21 hk21
 refine RD.a [] ?_
 refine RD.gv 26 .tt rfl rfl rfl Tryz.call57 (λu hu=>alike_spec u (hG.ext (hu.fact.1.1.1.1.1.1.1.1.1.1)) pq q hu.fact.1.2 zq hu.fact.2 gq) ?_
 intro k26 hk26
 refine RD.a [] ?_
 refine RD.gv 31 .tt rfl rfl rfl Tryz.call57 (λu hu=>alike_spec u (hG.ext (hu.fact.1.1.1.1.1.1.1.1.1.1)) po t (hI.ext (hu.fact.1.1.1.1.1.1.1.1.1.1)) y (hR.ext (hu.fact.1.1.1.1.1.1.1.1.1.1)) hg) ?_
 intro k31 hk31
 refine RD.a [] ?_
 refine RD.gv 36 (boE (decide (enO o=enO a))) rfl rfl rfl Tryz.call23 (λu hu=>TSame_spec u pd o pa a hu.fact.1.1.1.1.1.2 go.ok go.low1000 hu.fact.1.1.1.1.1.1.1.1.1.2 ga.ok ga.low1000) ?_
 intro k36 hk36
 refine RD.a [] ?_
 refine RD.gv 39 (boE (decide (enO o=enO a))) rfl rfl rfl Tryz.call63 (λu hu=>rSame_spec u zd za (enO o) (enO a) hu.fact.1.1.1.1.2 hu.fact.1.1.1.1.1.1.1.1.2) ?_
 intro k39 hk39
 refine RD.a [] ?_
 refine RD.e ?_
 refine RH.ret1 Tryz.func62 rfl rfl λu hu=>⟨by simp [EV.v,AV.v],(hu.fact.1.1.1.1.1.1.1.1.1.1)⟩
def greatB (l:List Str):Bool:=decide (620 < l.length) || l.any λs=>decide (100 < s.length)
theorem great1_spec (w:World) (s:Str):Gives Tryz.prog 119 [strV s] w (boE (decide (100 < s.length))):=by
 refine enterH tk [(0,strE s)] Tryz.func119 rfl Tryz.ntmps119 rfl rfl ?_
 refine RH.a [] ?_
 refine RH.ret1 Tryz.func119 rfl rfl λu hu=>⟨by simp [EV.v,AV.v]<;>omega,hu.fact⟩
theorem great_spec (w:World) (A:Option Addr) (c:Nat) (l:List Str) (h:Sl kStr w A c l):Gives Tryz.prog 47 [.slice A l.length c] w (boE (greatB l)):=by
 have hlim:lim=140737488351232:=rfl
 have hsm:=h.small
 refine enterH tk [(0,slE A l.length c)] Tryz.func47 rfl Tryz.ntmps47 rfl rfl ?_
 by_cases h1:620 < l.length
 ·refine RH.adv tk [true] rfl rfl (by simp [h1]<;>omega) ?_
  refine RH.ret1 Tryz.func47 rfl rfl λu hu=>⟨by simp [greatB,h1]<;>rfl,hu.fact⟩
 ·refine RH.adv tk [false] rfl rfl (by simp [h1]<;>omega) ?_
  refine RH.gv (boE (l.any λs=>decide (100 < s.length))) rfl rfl rfl Tryz.call118 (λu hu=>containsFuncS u A c l (h.ext hu.fact) 119 [] [] (λs=>decide (100 < s.length)) ⟨λxs w=>Tryz.call119 xs w,λs _ u' _=>great1_spec u' s⟩) ?_
  intro m1 hm1
  refine RH.a [] ?_
  refine RH.ret1 Tryz.func47 rfl rfl λu hu=>⟨by simp [greatB,h1]<;>rfl,hu.fact⟩
def longC (c:TChg):Bool:=decide (100 < c.name.length)
theorem lawA1_spec (w:World) (c:TChg):Gives Tryz.prog 70 [(EV.st (tchF c)).v] w (boE (longC c)):=by
 refine enterH tk [(0,.st (tchF c))] Tryz.func70 rfl Tryz.ntmps70 rfl rfl ?_
 refine RH.a [] ?_
 refine RH.ret1 Tryz.func70 rfl rfl λu hu=>⟨by simp [EV.v,AV.v,longC]<;>omega,hu.fact⟩
open Go V RowKit Go.ChangeShapes Go.WideShapes Go.ChangeAt
section
variable {H:Type} {enc:TypeId × Value->H} {w:World} {base:Nat} {sp:Nat->Bool} {held:Bool}
theorem drop_split {α:Type}:∀ (n:Nat) (m:Nat) (l:List α),l.drop n=(l.drop n).take m ++ l.drop (n+m)
 | n,m,l=>by rw [← List.drop_drop,List.take_append_drop]
theorem open_str {fuel:Nat} {cs:List Value} {x:DataW H × List MemPlace} (h:DataW.trod enc Tryz.prog w base sp held fuel 9 cs=some x):∃ e:Str,cs=kStr.cs e:=by
 obtain ⟨s,e1,_,_⟩:=DataW.trod_string Tryz.underlying9 h
 exact ⟨s.data.toList,by rw [e1];show _=(strV s.data.toList).cells.toList;simp [strV,Value.cells]⟩
theorem open_sumK {fuel:Nat} {cs:List Value} {x:DataW H × List MemPlace} (h:DataW.trod enc Tryz.prog w base sp held fuel 40 cs=some x):∃ e:Sum,cs=kSum.cs e:=by
 obtain ⟨s,hs⟩:=open_sum h
 exact ⟨s,by rw [hs];show _=(sumV s).cells.toList;simp [sumV,Value.cells]⟩
theorem open_tch {fuel:Nat} {cs:List Value} {x:DataW H × List MemPlace} (h:DataW.trod enc Tryz.prog w base sp held fuel 98 cs=some x):∃ e:TChg,cs=kTCh.cs e:=by
 obtain ⟨xs,n,_,_,hl,hlen,hf⟩:=DataW.trod_struct Tryz.underlying98 h
 have c67:Tryz.prog.cellsOf 98=67:=by kernel_rfl
 have c1:Tryz.prog.cellsOf 9=1:=by kernel_rfl
 have cb:Tryz.prog.cellsOf 4=1:=by kernel_rfl
 have c32:Tryz.prog.cellsOf 40=32:=by kernel_rfl
 rw [c67] at hl
 match xs,hlen with
 | [y1,y2,y3,y4,y5],_ =>
 have h1:=hf 0 (fT "Name" 9 0 0) rfl
 have h2:=hf 1 (fT "Had" 4 1 16) rfl
 have h3:=hf 2 (fT "Has" 4 2 17) rfl
 have h4:=hf 3 (fT "Old" 40 3 18) rfl
 have h5:=hf 4 (fT "New" 40 35 50) rfl
 dsimp only [fT] at h1 h2 h3 h4 h5
 rw [c1] at h1
 rw [cb] at h2 h3
 rw [c32] at h4 h5
 obtain ⟨s,e1,_,_⟩:=DataW.trod_string Tryz.underlying9 h1
 obtain ⟨had,e2,_⟩:=DataW.trod_bool Tryz.underlying4 h2
 obtain ⟨has,e3,_⟩:=DataW.trod_bool Tryz.underlying4 h3
 obtain ⟨old,e4⟩:=open_sum h4
 obtain ⟨new,e5⟩:=open_sum h5
 refine ⟨⟨s.data.toList,had,has,old,new⟩,?_⟩
 have f1:=drop_split 0 1 cs
 have f2:=drop_split 1 1 cs
 have f3:=drop_split 2 1 cs
 have f4:=drop_split 3 32 cs
 have f5:=drop_split 35 32 cs
 rw [e1] at f1
 rw [e2] at f2
 rw [e3] at f3
 rw [e4] at f4
 rw [e5] at f5
 have f6:cs.drop (35+32)=[]:=List.drop_eq_nil_of_le (by omega)
 have:cs=cs.drop 0:=rfl
 rw [this,f1,f2,f3,f4,f5,f6]
 show _=((EV.st (tchF ⟨s.data.toList,had,has,old,new⟩)).v).cells.toList
 rw [tch_cells]
 simp [strV,Value.cells]
theorem open_strs {v:Value} {d:DataW H} {p:List MemPlace} {r:Reach} {b0:Nat} (h:DataW.Trod enc Tryz.prog w base (λ_=>true) held 25 v d p)
  (hz:∀ n ∈ d.weights Tryz.prog 25,n ≤ reachBytes) (hv:Value.okWide Tryz.prog w r b0 25 v):∃ x:Row Str,v = .slice x.A x.l.length x.c/\x.ok kStr w:=by
 obtain ⟨fuel,hf⟩:=h
 have c1:Tryz.prog.cellsOf kStr.T=1:=by kernel_rfl
 obtain ⟨x,e,ok⟩:=V.open_row kStr Tryz.underlying25 c1 (by decide) (Nat.le_of_ble_eq_true (by kernel_rfl)) (λh=>open_str h) hf hz
 refine ⟨x,?_,ok⟩
 have e3:∃ A l c,v = .slice A l c:=by
  simp only [Value.okWide,Tryz.underlying25] at hv
  cases v<;>simp_all [Cell.okWide,Cell.ok,Value.cells,Tryz.underlying25]
 obtain ⟨A,l,c,rfl⟩:=e3
 simpa [Value.cells] using e
theorem open_sums {v:Value} {d:DataW H} {p:List MemPlace} {r:Reach} {b0:Nat} (h:DataW.Trod enc Tryz.prog w base (λ_=>true) held 26 v d p)
  (hz:∀ n ∈ d.weights Tryz.prog 26,n ≤ reachBytes) (hv:Value.okWide Tryz.prog w r b0 26 v):∃ x:Row Sum,v = .slice x.A x.l.length x.c/\x.ok kSum w:=by
 obtain ⟨fuel,hf⟩:=h
 have c1:Tryz.prog.cellsOf kSum.T=32:=by kernel_rfl
 obtain ⟨x,e,ok⟩:=V.open_row kSum Tryz.underlying26 c1 (by decide) (Nat.le_of_ble_eq_true (by kernel_rfl)) (λh=>open_sumK h) hf hz
 refine ⟨x,?_,ok⟩
 have e3:∃ A l c,v = .slice A l c:=by
  simp only [Value.okWide,Tryz.underlying26] at hv
  cases v<;>simp_all [Cell.okWide,Cell.ok,Value.cells,Tryz.underlying26]
 obtain ⟨A,l,c,rfl⟩:=e3
 simpa [Value.cells] using e
theorem open_tchs {v:Value} {d:DataW H} {p:List MemPlace} {r:Reach} {b0:Nat} (h:DataW.Trod enc Tryz.prog w base (λ_=>true) held 91 v d p)
  (hz:∀ n ∈ d.weights Tryz.prog 91,n ≤ reachBytes) (hv:Value.okWide Tryz.prog w r b0 91 v):∃ x:Row TChg,v = .slice x.A x.l.length x.c/\x.ok kTCh w:=by
 obtain ⟨fuel,hf⟩:=h
 have c1:Tryz.prog.cellsOf kTCh.T=67:=by kernel_rfl
 obtain ⟨x,e,ok⟩:=V.open_row kTCh Tryz.underlying91 c1 (by decide) (Nat.le_of_ble_eq_true (by kernel_rfl)) (λh=>open_tch h) hf hz
 refine ⟨x,?_,ok⟩
 have e3:∃ A l c,v = .slice A l c:=by
  simp only [Value.okWide,Tryz.underlying91] at hv
  cases v<;>simp_all [Cell.okWide,Cell.ok,Value.cells,Tryz.underlying91]
 obtain ⟨A,l,c,rfl⟩:=e3
 simpa [Value.cells] using e
end
end Go.Proofs.YtbfjmimiigjenaaGreatDoor
