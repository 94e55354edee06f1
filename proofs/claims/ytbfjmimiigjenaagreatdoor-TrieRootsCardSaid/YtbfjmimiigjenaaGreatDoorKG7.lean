/-
Lemmas. No condition.
-/
import Derived.Test.YtbfjmimiigjenaaGreatDoorKH7
import Derived.Test.YtbfjmimiigjenaaGreatDoorKVZ2
set_option maxRecDepth 10000
set_option linter.unusedVariables false
set_option linter.unusedSimpArgs false
namespace Go.Proofs.YtbfjmimiigjenaaGreatDoor
open Go V RowKit
def RootOk (t:Tree):Prop:=∀ (w:World) (y:At2),RM w y ((t.ents []).map Prod.fst) ((t.ents []).map Prod.snd)->Gives Tryz.prog 49 [(rmE y ((t.ents []).map Prod.fst) ((t.ents []).map Prod.snd)).v] w (sumE t.own)
abbrev noStp:Stp:=⟨[],false,Sum.zero,none,[],0,none,[],0⟩
abbrev nodeQ (s:Str) (v:Option Sum) (k:Kids) (z:Stp × (Option Addr × Nat) × List Mp) (u:World):Prop :=
 z.1.dat=(s,v.isSome,v.getD Sum.zero,k.bytes,k.owns)/\z.1.ok u/\Sl kMap u z.2.1.1 z.2.1.2 z.2.2/\KM u z.2.2 (k.trees.map λt=>t.ents [])
structure NdS where
 i:Nat
 o:Option Sum
 bs:List UInt8
 gs:List (List (Str × Sum))
 g:List (Str × Sum)
 ms:List Mp
 P5:Option Addr × Nat
 P6:Option Addr × Nat
 P7:Option Addr × Nat
 P8:Option Addr × Nat
structure NdS.Ok (n:Nat) (E:List (Str × Sum)) (z:NdS):Prop where
 i:z.i ≤ E.length
 o:z.o=(E.take z.i).foldl (ownS n) none
 g:(z.bs,z.gs)=(E.take z.i).foldl (grpS n) ([],[])
 gl:z.g=z.gs.getLastD []
 m:z.ms.length=z.gs.length
 bl:z.bs.length=z.gs.length
 la:z.ms ≠ []->z.ms.getLast? = some ((z.P7,z.P8),z.g.length,z.g.length)
 l1:z.bs.length ≤ z.i
 l3:z.g.length ≤ z.i
abbrev ndS (z:NdS) (y:At2) (N:List Str) (n m0 b0:Nat):SEnv:=[(1,.av (.box 0 m0 0)),(2,.av (.box 1 (m0+1) 0)),(6,intE n),(7,.av (.box 2 b0 0)),(8,rowS 60 z.P6.1 z.ms.length z.P6.2),(46,.av (.val (.slice y.1.1 N.length y.1.2))),(47,intE N.length),(48,intE z.i)]
abbrev ndB (z:NdS) (s:Str) (b0:Nat):HE:=.box b0 [.val (strV s),.val (.bool z.o.isSome),.val (sumV (z.o.getD Sum.zero)),.row 62 (.slice z.P5.1 z.bs.length z.P5.2),.row 63 (.slice none 0 0)] 66
abbrev ndH (z:NdS) (y:At2) (N:List Str) (X:List Sum) (s:Str) (m0 b0:Nat):Heap:=[(0,some (.box m0 (rmF y N X) 81)),(1,some (.box (m0+1) (stpF noStp) 66)),(2,some (ndB z s b0)),(60,rowE kMap z.P6.1 z.P6.2 z.ms),(62,rowE kBy z.P5.1 z.P5.2 z.bs),(63,rowE kSum none 0 []),(70,rowE kStr z.P7.1 z.P7.2 (z.g.map Prod.fst)),(71,rowE kSum z.P8.1 z.P8.2 (z.g.map Prod.snd))]
set_option maxHeartbeats 2000000 in
theorem node_spec (s:Str) (v:Option Sum) (k:Kids) (hw:(Tree.node s v k).wf) (hl:(Tree.node s v k).low 1000) (hm:(Tree.node s v k).many ≤ 10000) (hk:∀ t ∈ k.trees,RootOk t) (y:At2) (E:List (Str × Sum)) (hE:E=(Tree.node s v k).ents []) (N:List Str) (X:List Sum) (hN:N=E.map Prod.fst) (hX:X=E.map Prod.snd) :
  Does Tryz.prog tb 122 [(rmE y N X).v] [] (λu=>RM u y N X) (λz:Stp × (Option Addr × Nat) × List Mp=>.tuple #[(EV.st (stpF z.1)).v,.slice z.2.1.1 z.2.2.length z.2.1.2]) (λ_=>[])
   (λz=>Late (λ_=>True) (nodeQ s v k z)):=by
 have hlim:lim=140737488351232:=rfl
 have hEl:E.length ≤ 10000:=by rw [hE,many_ents];exact hm
 have hEp:0 < E.length:=by rw [hE];exact List.length_pos_iff.2 (ents_ne hw)
 have hsl:s.length ≤ 1000:=low_stem hw hl
 have hkw:k.wf:=by unfold Tree.wf at hw;exact hw.1
 have hkb:=kbL hkw
 have hgr:=grp_node hw
 have hov:=own_node hw
 rw [← hE] at hgr hov
 have hnl:N.length=E.length:=by rw [hN,List.length_map]
 have hxl:X.length=E.length:=by rw [hX,List.length_map]
 have hEn:∀ i (h:i < E.length),N[i]'(by rw [hnl];exact h)=(E[i]).1:=λi h=>by simp [hN]
 have hEx:∀ i (h:i < E.length),X[i]'(by rw [hxl];exact h)=(E[i]).2:=λi h=>by simp [hX]
 have hlo:∀ e ∈ E,e.1.length ≤ 1000:=λe he=>by
  rw [hE] at he
  obtain ⟨n,h1,h2⟩:=(mem_ents hw [] e.1 e.2).1 he
  rw [h1];exact hl n e.2 h2
 have hsc:=stem_lcp hw hE (a:=E[0]) (b:=E[E.length - 1]) (by rw [List.getElem?_eq_getElem hEp]) (by rw [List.getLast?_eq_getElem?,List.getElem?_eq_getElem (by omega)])
 obtain ⟨r0,hr0⟩:=node_pre hw (E[0]) (by rw [← hE];exact List.getElem_mem hEp)
 have hpre:∀ i (h:i < E.length),∃ r,(E[i]).1=s ++ r:=λi h=>node_pre hw _ (by rw [← hE];exact List.getElem_mem h)
 refine V.Does.enter0 [(0,rmE y N X)] Tryz.func122 rfl Tryz.ntmps122 rfl rfl 0 ?_
 intro m0 K
 refine RH.pure (λu h=>(⟨h.2.1.ptr (i:=0) (by omega),h.2.2.ptr (i:=0) (by omega)⟩:Ptr y.1.1/\Ptr y.2.1)) λ⟨p1,p2⟩=>?_
 refine RH.a [] ?_
 refine RH.w [(0,some (.box m0 (rmF y N X) 81))] 14 ?_
 refine RD.b [] rfl rfl (by simp [p1];omega) ?_
 have e1:((N.length:Int) - 1).toNat=E.length - 1:=by omega
 rw [e1]
 refine RD.ld 3 (strE N[0]) rfl rfl (λu hu=>hu.2.1.load (i:=0) (by omega)) ?_
 refine RD.ld 11 (strE (N[E.length - 1]'(by omega))) rfl rfl (λu hu=>hu.2.1.load (i:=E.length - 1) (by omega)) ?_
 rw [hEn 0 hEp,hEn (E.length - 1) (by omega)]
 refine RD.a [] ?_
 refine RD.e ?_
 have hf1:=hlo _ (List.getElem_mem hEp)
 have hf2:=hlo (E[E.length - 1]) (List.getElem_mem (by omega))
 generalize hFA:(E[0]).1=fa at *
 generalize hFB:(E[E.length - 1]).1=fb at *
 obtain ⟨hlc,hfb⟩:=hsc
 refine RH.a [] ?_
 apply RH.joinK (α:=Nat) (λb=>[(1,.av (.box 0 m0 0)),(2,.av (.box 1 (m0+1) 0)),(6,intE s.length),(7,.av (.box 2 b 0)),(8,.av (.val (.slice none 0 0))),(46,.av (.val (.slice y.1.1 N.length y.1.2))),(47,intE N.length),(48,intE 0)])
  (λb=>[(0,some (.box m0 (rmF y N X) 81)),(1,some (.box (m0+1) (stpF noStp) 66)),(2,some (.box b [.val (strV s),.val (.bool false),.val (sumV Sum.zero),.val (.slice none 0 0),.val (.slice none 0 0)] 66))]) (λb u=>K u/\RM u y N X)
 ·refine RH.loop (α:=Nat) (λi=>[(1,.av (.box 0 m0 0)),(2,.av (.box 1 (m0+1) 0)),(4,strE fa),(5,strE fb),(6,intE i)]) (λ_=>[(0,some (.box m0 (rmF y N X) 81)),(1,some (.box (m0+1) (stpF noStp) 66))])
   (λi u=>(K u/\RM u y N X)/\i ≤ lcp fa fb) (λi=>lcp fa fb - i) 0 rfl rfl (λu hu=>⟨hu,Nat.zero_le _⟩) ?_
  intro i m1
  refine RH.pure (λu hu=>hu.2) λhi=>?_
  have hc1:=lcp_le1 fa fb
  by_cases hlt:i < fa.length
  ·have hltb:i < fb.length:=by
    rcases Nat.lt_or_ge i (lcp fa fb) with h|h
    ·exact Nat.lt_of_lt_of_le h (lcp_le2 fa fb)
    ·have:=hfb (by omega);omega
   have hat:=lcp_at fa fb i hlt hltb hi
   have g1:=getD_at hlt
   have g2:=getD_at hltb
   refine RH.a [] ?_
   refine RH.w [] 13 ?_
   refine RD.b [true] rfl rfl (by simp [hlt,hltb]) ?_
   rw [g1,g2]
   refine RD.e ?_
   by_cases he:fa[i]=fb[i]
   ·refine RH.adv tk [true] rfl rfl (by simp [he];omega) ?_
    exact RH.again (i+1) (.head _) rfl rfl (by have:=hat.1 he;omega) λu hu=>⟨hu.1,hat.1 he⟩
   ·have hi2:i=s.length:=(Nat.le_antisymm hi (Nat.le_of_not_lt λh=>he (hat.2 h))).trans hlc
    have he2:¬ fa[i].toNat=fb[i].toNat:=λe=>he (UInt8.toNat_inj.1 e)
    have hts:fa.take i=s:=by rw [hi2,hr0,List.take_left]
    refine RH.adv tk [false] rfl rfl (by simp [he2];omega) ?_
    rw [Int.toNat_natCast,hts]
    subst hi2
    exact RH.mtS m1 [] (.tail _ (.head _)) rfl rfl rfl λu h=>h.1
  ·have hi2:i=s.length:=by have:=hlc;omega
   have hts:fa.take i=s:=by rw [hi2,hr0,List.take_left]
   refine RH.a [] ?_
   refine RH.w [] 13 ?_
   refine RD.b [false] rfl rfl (by simp [hlt]) ?_
   refine RD.e ?_
   refine RH.adv tk [false] rfl rfl (by simp;omega) ?_
   rw [Int.toNat_natCast,hts]
   subst hi2
   exact RH.mtS m1 [] (.tail _ (.head _)) rfl rfl rfl λu h=>h.1
 intro b0 m2
 refine V.RH.reBox (id:=2) [.val (strV s),.val (.bool false),.val (sumV Sum.zero),.row 62 (.slice none 0 0),.row 63 (.slice none 0 0)] rfl rfl ⟨⟨rfl,⟨rfl,Tryz.t9,rfl,rfl⟩,rfl,⟨rfl,Tryz.t4,rfl,rfl⟩,rfl,vok_sum _,rfl,⟨rfl,Tryz.t22,rfl,rfl⟩,rfl,⟨rfl,Tryz.t26,rfl,rfl⟩,trivial⟩,Tryz.t66,rfl,rfl⟩ ?_
 refine RH.nilrow 60 kMap.T kMap.sz 61 ?_
 refine RH.nilrow 62 kBy.T kBy.sz 63 ?_
 refine RH.nilrow 63 kSum.T kSum.sz 64 ?_
 refine RH.nilrow 70 kStr.T kStr.sz 71 ?_
 refine RH.nilrow 71 kSum.T kSum.sz 80 ?_
 refine RH.loop (α:=NdS) (λz=>ndS z y N s.length m0 b0) (λz=>ndH z y N X s m0 b0)
  (λz u=>((K u/\RM u y N X)/\Late (λ_=>True) (λu=>KM u z.ms.dropLast z.gs.dropLast) m0 u)/\z.Ok s.length E) (λz=>E.length - z.i) ⟨0,none,[],[],[],[],(none,0),(none,0),(none,0),(none,0)⟩ rfl rfl
  (λu hu=>⟨⟨hu,λv _ _=>KM.nil v⟩,⟨Nat.zero_le _,rfl,rfl,rfl,rfl,rfl,λh=>absurd rfl h,Nat.le_refl _,Nat.le_refl _⟩⟩) ?_
 intro z m3
 refine RH.pure (λu hu=>hu.2) λhz=>?_
 refine V.RH.know (λu=>(K u/\RM u y N X)/\Late (λ_=>True) (λu=>KM u z.ms.dropLast z.gs.dropLast) m0 u) (λu h=>h.1) ?_
 refine RH.above (id:=0) rfl rfl λhz1 hz2=>?_
 have hzi:=hz.i
 have hfull:∀ {u:World},KM u z.ms.dropLast z.gs.dropLast->RM u (z.P7,z.P8) (z.g.map Prod.fst) (z.g.map Prod.snd)->KM u z.ms z.gs:=fun {u} h1 h2=>by
  by_cases h0:z.ms=[]
  ·have hg0:z.gs=[]:=List.length_eq_zero_iff.1 (by rw [← hz.m,h0];rfl)
   rw [h0,hg0]
   exact KM.nil u
  ·have hgne:z.gs ≠ []:=λe=>h0 (List.length_eq_zero_iff.1 (by rw [hz.m,e];rfl))
   have hgl:z.gs.dropLast ++ [z.g]=z.gs:=by
    refine last_dec ?_
    rw [hz.gl,List.getLast?_eq_some_getLast hgne,List.getLastD_eq_getLast?,List.getLast?_eq_some_getLast hgne]
    rfl
   rw [← last_dec (hz.la h0),← hgl]
   exact KM.snoc h1 h2
 have hz3:=hz.l3
 by_cases hlt:z.i < E.length
 ·have hltn:z.i < N.length:=by omega
  have hltx:z.i < X.length:=by omega
  have hts:E.take (z.i+1)=E.take z.i ++ [E[z.i]]:=List.take_succ_eq_append_getElem hlt
  obtain ⟨r,hr⟩:=hpre z.i hlt
  have hnm:=hEn z.i hlt
  have hxx:=hEx z.i hlt
  have hn60:=hlo _ (List.getElem_mem hlt)
  refine RH.adv tk [true] rfl rfl (by simp [p1,hltn]) ?_
  refine RH.load (strE (N[z.i])) rfl rfl rfl rfl (λu hu=>hu.1.2.1.load hltn) ?_
  rw [hnm]
  generalize hnam:(E[z.i]).1=nam at *
  by_cases hle:nam.length=s.length
  ·refine RH.adv tk [true] rfl rfl (by simp [hle]) ?_
   refine RH.w [(0,some (.box m0 (rmF y N X) 81))] 9 ?_
   refine RD.b [] rfl rfl (by simp [p2,hltx]) ?_
   refine RD.ld 4 (sumE X[z.i]) rfl rfl (λu hu=>hu.1.2.2.load hltx) ?_
   rw [hxx]
   refine RD.a [] ?_
   refine RD.s 80 6 ?_
   refine RD.a [] ?_
   refine RD.s 80 8 ?_
   refine RD.a [] ?_
   refine RD.e ?_
   refine RH.adv tk [] rfl rfl (by simp;omega) ?_
   refine RH.again ({ z with i:=z.i+1,o:=some (E[z.i]).2 }:NdS) (.head _) rfl rfl (by show E.length - (z.i+1) < E.length - z.i;omega) λu hu=>⟨hu,?_⟩
   refine ⟨hlt,?_,?_,hz.gl,hz.m,hz.bl,hz.la,Nat.le_succ_of_le hz.l1,Nat.le_succ_of_le hz.l3⟩
   ·show some (E[z.i]).2=(E.take (z.i+1)).foldl (ownS s.length) none
    rw [hts,List.foldl_append,← hz.o]
    show _=ownS s.length z.o E[z.i]
    unfold ownS
    rw [hnam,if_pos hle]
   ·show (z.bs,z.gs)=(E.take (z.i+1)).foldl (grpS s.length) ([],[])
    rw [hts,List.foldl_append,← hz.g]
    show _=grpS s.length (z.bs,z.gs) E[z.i]
    unfold grpS
    rw [hnam,if_pos hle]
  ·have hrne:r ≠ []:=λe=>hle (by rw [hr,e,List.append_nil])
   obtain ⟨c,q,rfl⟩:=List.exists_cons_of_ne_nil hrne
   have hc:nam.getD s.length 0=c:=by rw [hr];simp [List.getD_eq_getElem?_getD]
   have hq:nam.drop (s.length+1)=q:=by rw [hr,show s ++ c :: q=(s ++ [c]) ++ q by simp];exact List.drop_left' (by simp)
   have hnl2:s.length < nam.length:=by rw [hr];simp
   have hzm:=hz.m
   have hzb:=hz.bl
   have hzl:=hz.l1
   have hzg:=hz.l3
   apply RH.joinK (α:=NdS) (λw=>(9,intE z.i) :: (10,strE nam) :: (11,.av (.val (.pointer (some ⟨blkA w.P6.1,offA w.P6.1+((w.ms.length:Int) - 1).toNat*2,none⟩)))) :: ndS w y N s.length m0 b0) (λw=>ndH w y N X s m0 b0)
    (λw u=>((K u/\RM u y N X)/\Late (λ_=>True) (λu=>KM u w.ms.dropLast w.gs.dropLast) m0 u)/\w.i=z.i/\w.o=z.o/\w.g=w.gs.getLastD []/\w.ms.length=w.gs.length/\w.bs.length=w.gs.length/\w.ms ≠ []/\w.ms.getLast? = some ((w.P7,w.P8),w.g.length,w.g.length)/\w.bs.length ≤ z.i+1/\w.g.length ≤ z.i ∧
     grpS s.length (z.bs,z.gs) (nam,(E[z.i]).2)=(w.bs,w.gs.dropLast ++ [w.g ++ [(q,(E[z.i]).2)]]))
   ·apply RH.joinK (α:=Unit) (λ_=>(9,intE z.i) :: (10,strE nam) :: ndS z y N s.length m0 b0) (λ_=>ndH z y N X s m0 b0)
     (λ_ u=>((K u/\RM u y N X)/\Late (λ_=>True) (λu=>KM u z.ms.dropLast z.gs.dropLast) m0 u)/\(z.gs=[] ∨ z.bs.getLastD 0 ≠ c))
    ·by_cases h0:z.ms=[]
     ·have h1:z.ms.length=0:=by rw [h0];rfl
      refine RH.adv tk [false] rfl rfl (by simp;omega) ?_
      refine RH.w [(2,some (ndB z s b0)),(62,rowE kBy z.P5.1 z.P5.2 z.bs)] 17 ?_
      refine RD.b [true] rfl rfl (by simp [h1]) ?_
      refine RD.e ?_
      refine RH.adv tk [true] rfl rfl (by simp [h1]) ?_
      have hg0:z.gs=[]:=List.length_eq_zero_iff.1 (by omega)
      exact RH.mtS () [] (.head _) rfl rfl rfl λu h=>⟨h,.inl hg0⟩
     ·have h1:0 < z.ms.length:=List.length_pos_iff.2 h0
      have h2:0 < z.bs.length:=by omega
      have h3:z.bs ≠ []:=List.length_pos_iff.1 h2
      have e2:((z.bs.length:Int) - 1).toNat=z.bs.length - 1:=by omega
      have hla:z.bs.getLastD 0=z.bs[z.bs.length - 1]'(by omega):=by rw [List.getLastD_eq_getLast?,List.getLast?_eq_getElem?,List.getElem?_eq_getElem (by omega)];rfl
      have hcc:nam.getD ((s.length:Int)).toNat 0=c:=hc
      refine RH.pureS (λu hu=>hu.ptr (id:=62) (κ:=kBy) (l:=z.bs) rfl h3) λp5=>?_
      refine RH.pureS (λu hu=>hu.ptr (id:=60) (κ:=kMap) (l:=z.ms) rfl h0) λp6=>?_
      refine RH.adv tk [false] rfl rfl (by simp;omega) ?_
      refine RH.w [(2,some (ndB z s b0)),(62,rowE kBy z.P5.1 z.P5.2 z.bs)] 17 ?_
      refine RD.b [false] rfl rfl (by simp [p5,hnl2,h0];omega) ?_
      rw [e2,hcc]
      refine RD.lg 11 (byE (z.bs[z.bs.length - 1]'(by omega))) rfl rfl (λu hu=>(Sl.own (B:=m0) (hu.row (κ:=kBy) (l:=z.bs) (id:=62) rfl) (by omega)).load (i:=z.bs.length - 1) (by omega)) ?_
      refine RD.a [] ?_
      refine RD.e ?_
      by_cases hd:z.bs[z.bs.length - 1]'(by omega)=c
      ·have hd4:(((z.bs[z.bs.length - 1]'(by omega)).toNat:Nat):Int)=(c.toNat:Int):=by rw [hd]
       refine RH.adv tk [false] rfl rfl (by simp [hd4,p6];omega) ?_
       refine RH.mtS z [] (.tail _ (.head _)) rfl rfl rfl λu h=>⟨h,rfl,rfl,hz.gl,hz.m,hz.bl,h0,hz.la h0,by omega,hzg,?_⟩
       unfold grpS
       rw [if_neg hle,if_neg (by rw [hla,hc,hd];simp;exact λe=>h0 (List.length_eq_zero_iff.1 (by rw [hz.m,e];rfl)))]
       rw [hq,hz.gl]
      ·have hd2:¬ (((z.bs[z.bs.length - 1]'(by omega)).toNat:Nat):Int)=(c.toNat:Int):=λe=>hd (UInt8.toNat_inj.1 (by omega))
       refine RH.adv tk [true] rfl rfl (by simp [hd2]) ?_
       exact RH.mtS () [] (.head _) rfl rfl rfl λu h=>⟨h,.inr (by rw [hla];exact hd)⟩
    intro _ m4
    have hcc:nam.getD ((s.length:Int)).toNat 0=c:=hc
    have hzi2:z.i ≤ 10000:=by omega
    apply RH.joinK (α:=(Option Addr × Nat) × (Option Addr × Nat)) (λp=>(9,intE z.i) :: (10,strE nam) :: ndS ({ z with bs:=z.bs ++ [c],ms:=z.ms ++ [(kn0,0,0)],P5:=p.1,P6:=p.2 }:NdS) y N s.length m0 b0) (λp=>ndH ({ z with bs:=z.bs ++ [c],ms:=z.ms ++ [(kn0,0,0)],P5:=p.1,P6:=p.2 }:NdS) y N X s m0 b0)
     (λ_ u=>((K u/\RM u y N X)/\Late (λ_=>True) (λu=>KM u z.ms.dropLast z.gs.dropLast) m0 u)/\(z.gs=[] ∨ z.bs.getLastD 0 ≠ c))
    ·refine RH.w [(2,some (ndB z s b0))] 14 ?_
     refine RD.b [] rfl rfl (by simp [hnl2]) ?_
     rw [hcc]
     refine RD.two (i:=5) (j:=9) (by kernel_rfl) ?_ ?_
     ·refine V.opS 80 5 ?_
      refine RD.a [] ?_
      refine RD.two (i:=6) (j:=9) (by kernel_rfl) ?_ ?_
      ·refine opD_appendK (nx:=81) (i:=6) (κ:=kBy) (id:=62) (r:=[c]) (l:=z.bs) rfl rfl rfl rfl rfl rfl elt_byte rfl rfl (λw hst=>hst.liR (id:=80) (κ:=kBy) (l:=[c]) rfl (by simp [hlim])) (by simp;omega) (by simp;omega) (λ_ _=>rfl) (λ_ h=>h) ?_
       intro A5 c5 m5 hm5
       refine RD.a [] ?_
       refine RD.s 81 9 ?_
       refine RD.a [] ?_
       refine RD.apK (nx:=82) (i:=10) (κ:=kMap) (id:=60) (r:=[(kn0,0,0)]) (l:=z.ms) rfl (by kernel_rfl) rfl rfl rfl rfl rfl elt_map rfl rfl (λw hst=>hst.liR (id:=81) (κ:=kMap) (l:=[(kn0,0,0)]) rfl (by simp [hlim])) (by simp;omega) (by simp;omega) (λ_ _=>rfl) (λ_ h=>h) ?_
       intro A6 c6 m6 hm6
       refine RD.a [] ?_
       refine RunL.d ?_
       refine RunL.step tk (i:=12) rfl (by kernel_rfl) rfl (by kernel_rfl) rfl rfl ?_ (Nat.le_refl _) rfl ?_
       ·first|trivial|(simp;done)
       intro m7 hm7
       refine RunL.step tk (i:=13) rfl (by kernel_rfl) rfl (by kernel_rfl) rfl rfl trivial (Nat.le_refl _) ⟨rfl,rfl⟩ ?_
       intro m8 hm8
       refine RunL.done (by kernel_rfl) ?_
       exact RH.mtS ((A5,c5),(A6,c6)) [] (.head _) rfl rfl rfl λu h=>h
      ·refine V.opS 81 9 ?_
       refine RD.a [] ?_
       refine RD.apK (nx:=82) (i:=6) (κ:=kBy) (id:=62) (r:=[c]) (l:=z.bs) rfl (by kernel_rfl) rfl rfl rfl rfl rfl elt_byte rfl rfl (λw hst=>hst.liR (id:=80) (κ:=kBy) (l:=[c]) rfl (by simp [hlim])) (by simp;omega) (by simp;omega) (λ_ _=>rfl) (λ_ h=>h) ?_
       intro A5 c5 m5 hm5
       refine RD.a [] ?_
       refine RD.apK (nx:=82) (i:=10) (κ:=kMap) (id:=60) (r:=[(kn0,0,0)]) (l:=z.ms) rfl (by kernel_rfl) rfl rfl rfl rfl rfl elt_map rfl rfl (λw hst=>hst.liR (id:=81) (κ:=kMap) (l:=[(kn0,0,0)]) rfl (by simp [hlim])) (by simp;omega) (by simp;omega) (λ_ _=>rfl) (λ_ h=>h) ?_
       intro A6 c6 m6 hm6
       refine RD.a [] ?_
       refine RunL.d ?_
       refine RunL.step tk (i:=12) rfl (by kernel_rfl) rfl (by kernel_rfl) rfl rfl ?_ (Nat.le_refl _) rfl ?_
       ·first|trivial|(simp;done)
       intro m7 hm7
       refine RunL.step tk (i:=13) rfl (by kernel_rfl) rfl (by kernel_rfl) rfl rfl trivial (Nat.le_refl _) ⟨rfl,rfl⟩ ?_
       intro m8 hm8
       refine RunL.done (by kernel_rfl) ?_
       exact RH.mtS ((A5,c5),(A6,c6)) [] (.head _) rfl rfl rfl λu h=>h
     ·refine V.opS 80 9 ?_
      refine RD.a [] ?_
      refine RD.s 81 5 ?_
      refine RD.a [] ?_
      refine RD.apK (nx:=82) (i:=6) (κ:=kBy) (id:=62) (r:=[c]) (l:=z.bs) rfl (by kernel_rfl) rfl rfl rfl rfl rfl elt_byte rfl rfl (λw hst=>hst.liR (id:=81) (κ:=kBy) (l:=[c]) rfl (by simp [hlim])) (by simp;omega) (by simp;omega) (λ_ _=>rfl) (λ_ h=>h) ?_
      intro A5 c5 m5 hm5
      refine RD.a [] ?_
      refine RD.apK (nx:=82) (i:=10) (κ:=kMap) (id:=60) (r:=[(kn0,0,0)]) (l:=z.ms) rfl (by kernel_rfl) rfl rfl rfl rfl rfl elt_map rfl rfl (λw hst=>hst.liR (id:=80) (κ:=kMap) (l:=[(kn0,0,0)]) rfl (by simp [hlim])) (by simp;omega) (by simp;omega) (λ_ _=>rfl) (λ_ h=>h) ?_
      intro A6 c6 m6 hm6
      refine RD.a [] ?_
      refine RunL.d ?_
      refine RunL.step tk (i:=12) rfl (by kernel_rfl) rfl (by kernel_rfl) rfl rfl ?_ (Nat.le_refl _) rfl ?_
      ·first|trivial|(simp;done)
      intro m7 hm7
      refine RunL.step tk (i:=13) rfl (by kernel_rfl) rfl (by kernel_rfl) rfl rfl trivial (Nat.le_refl _) ⟨rfl,rfl⟩ ?_
      intro m8 hm8
      refine RunL.done (by kernel_rfl) ?_
      exact RH.mtS ((A5,c5),(A6,c6)) [] (.head _) rfl rfl rfl λu h=>h
    rintro ⟨⟨A5,c5⟩,⟨A6,c6⟩⟩ m5
    have hne6:z.ms ++ [((kn0,0,0):Mp)] ≠ []:=by simp
    refine RH.pureS (λu hu=>hu.ptr (id:=60) (κ:=kMap) (l:=z.ms ++ [(kn0,0,0)]) rfl hne6) λp6=>?_
    refine RH.adv tk [] rfl rfl (by simp [p6];omega) ?_
    refine RH.free (i:=70) rfl ?_
    refine RH.free (i:=71) rfl ?_
    refine RH.nilrow 70 kStr.T kStr.sz 80 ?_
    refine RH.nilrow 71 kSum.T kSum.sz 80 ?_
    refine V.RH.know (λu=>((K u/\RM u y N X)/\Late (λ_=>True) (λu=>KM u z.ms z.gs) m0 u)/\(z.gs=[] ∨ z.bs.getLastD 0 ≠ c)) (λu hu=>⟨⟨hu.1.1.1.1,λv hv _=>?_⟩,hu.1.1.2⟩) ?_
    ·exact hfull (hu.1.1.1.2 v hv trivial) ⟨Sl.own (hoL hu.1.2 hv) (by rw [List.length_map];omega),Sl.own (hoL hu.2 hv) (by rw [List.length_map];omega)⟩
    refine RH.pure (λu hu=>hu.2) λhnew=>?_
    refine RH.mtS ({ z with bs:=z.bs ++ [c],gs:=z.gs ++ [[]],g:=[],ms:=z.ms ++ [(kn0,0,0)],P5:=(A5,c5),P6:=(A6,c6),P7:=(none,0),P8:=(none,0) }:NdS) [] (.head _) rfl rfl rfl λu h=>⟨⟨h.1.1,?_⟩,rfl,rfl,by simp,by simp [hzm],by simp [hzb],hne6,by simp,by simp;omega,Nat.zero_le _,?_⟩
    ·simpa using h.1.2
    ·unfold grpS
     rw [if_neg hle,if_pos (by rw [hc];exact hnew),hc,hq]
     simp
   intro w m4
   refine RH.pure (λu hu=>hu.2) λ⟨w1,w2,w3,w4,w5,w6,w7,w8,w9,w10⟩=>?_
   refine V.RH.know (λu=>(K u/\RM u y N X)/\Late (λ_=>True) (λu=>KM u w.ms.dropLast w.gs.dropLast) m0 u) (λu h=>h.1) ?_
   have hwl:0 < w.ms.length:=List.length_pos_iff.2 w6
   have hgt:w.ms[w.ms.length - 1]'(by omega)=((w.P7,w.P8),w.g.length,w.g.length):=by
    rw [List.getLast?_eq_getElem?,List.getElem?_eq_getElem (by omega)] at w7
    exact Option.some.inj w7
   have e2:((w.ms.length:Int) - 1).toNat=w.ms.length - 1:=by omega
   refine RH.pureS (λu hu=>hu.ptr (id:=60) (κ:=kMap) (l:=w.ms) rfl w6) λp6=>?_
   rw [e2]
   apply RH.joinK (α:=At2) (λp=>ndS w y N s.length m0 b0) (λp=>[(0,some (.box m0 (rmF y N X) 81)),(1,some (.box (m0+1) (stpF noStp) 66)),(2,some (ndB w s b0)),(60,rowE kMap w.P6.1 w.P6.2 ((w.ms.set (w.ms.length - 1) ((p.1,w.P8),w.g.length+1,w.g.length)).set (w.ms.length - 1) ((p.1,p.2),w.g.length+1,w.g.length+1))),(62,rowE kBy w.P5.1 w.P5.2 w.bs),(63,rowE kSum none 0 []),(70,rowE kStr p.1.1 p.1.2 (w.g.map Prod.fst ++ [q])),(71,rowE kSum p.2.1 p.2.2 (w.g.map Prod.snd ++ [X[z.i]]))])
    (λ_ u=>(K u/\RM u y N X)/\Late (λ_=>True) (λu=>KM u w.ms.dropLast w.gs.dropLast) m0 u)
   ·refine RH.w [(0,some (.box m0 (rmF y N X) 81)),(60,rowE kMap w.P6.1 w.P6.2 w.ms)] 29 ?_
    refine RD.b [] rfl rfl (by simp [p2,hltx];omega) ?_
    rw [show (((s.length:Int)+1).toNat)=s.length+1 by omega,hq]
    refine RD.lg 5 (rowS 70 w.P7.1 w.g.length w.P7.2) rfl rfl (λu hu=>?_) ?_
    ·have h9:=mp_names (Sl.own (B:=m0) (hu.row (κ:=kMap) (l:=w.ms) (id:=60) rfl) (by omega)) (i:=w.ms.length - 1) (by omega)
     rw [hgt] at h9
     exact h9
    refine RD.lg 15 (rowS 71 w.P8.1 w.g.length w.P8.2) rfl rfl (λu hu=>?_) ?_
    ·have h9:=mp_sums (Sl.own (B:=m0) (hu.row (κ:=kMap) (l:=w.ms) (id:=60) rfl) (by omega)) (i:=w.ms.length - 1) (by omega)
     rw [hgt] at h9
     exact h9
    refine RD.ld 20 (sumE X[z.i]) rfl rfl (λu hu=>hu.1.2.2.load hltx) ?_
    refine RD.a [] ?_
    refine RD.two (i:=10) (j:=21) (by kernel_rfl) ?_ ?_
    ·refine V.opS 80 10 ?_
     refine RD.a [] ?_
     refine RD.two (i:=11) (j:=21) (by kernel_rfl) ?_ ?_
     ·refine opD_appendK (nx:=81) (i:=11) (κ:=kStr) (id:=70) (r:=[q]) (l:=w.g.map Prod.fst) rfl rfl rfl rfl (List.length_map _).symm rfl elt_str rfl rfl (λw hst=>hst.liR (id:=80) (κ:=kStr) (l:=[q]) rfl (by simp [hlim])) (by simp;omega) (by simp;omega) (λ_ _=>rfl) (λ_ h=>h) ?_
      intro A7 c7 m80 hm80
      refine RD.a [] ?_
      refine RD.s 81 21 ?_
      refine RD.a [] ?_
      refine RD.apK (nx:=82) (i:=22) (κ:=kSum) (id:=71) (r:=[X[z.i]]) (l:=w.g.map Prod.snd) rfl (by kernel_rfl) rfl rfl rfl (List.length_map _).symm rfl elt_sum rfl rfl (λw hst=>hst.liR (id:=81) (κ:=kSum) (l:=[X[z.i]]) rfl (by simp [hlim])) (by simp;omega) (by simp;omega) (λ_ _=>rfl) (λ_ h=>h) ?_
      intro A8 c8 m81 hm81
      refine RD.a [] ?_
      refine RunL.d ?_
      refine V.RunL.storeFld (i:=25) (κ:=kMap) (id:=60) (t:=w.ms) (w.ms.length - 1) 0 (((A7,c7),w.P8),w.g.length+1,w.g.length) rfl (by kernel_rfl) rfl (by kernel_rfl) rfl rfl ⟨rfl,Tryz.t25,rfl,rfl⟩ rfl rfl (by omega) (Nat.le_of_ble_eq_true rfl) (by rw [map_cs,map_cs,hgt];simp [EV.v,AV.v,Value.cells]) ?_
      intro m7 hm7
      refine RunL.step tk (i:=26) rfl (by kernel_rfl) rfl (by kernel_rfl) rfl rfl trivial (Nat.le_refl _) ⟨rfl,rfl⟩ ?_
      intro m8 hm8
      refine RunL.step tk (i:=27) rfl (by kernel_rfl) rfl (by kernel_rfl) rfl rfl trivial (Nat.le_refl _) ⟨rfl,rfl⟩ ?_
      intro m9 hm9
      refine V.RunL.storeFld (i:=28) (κ:=kMap) (id:=60) (t:=w.ms.set (w.ms.length - 1) (((A7,c7),w.P8),w.g.length+1,w.g.length)) (w.ms.length - 1) 1 (((A7,c7),(A8,c8)),w.g.length+1,w.g.length+1) rfl (by kernel_rfl) rfl (by kernel_rfl) rfl rfl ⟨rfl,Tryz.t26,rfl,rfl⟩ rfl rfl (by rw [List.length_set];omega) (Nat.le_of_ble_eq_true rfl) (by rw [map_cs,map_cs,List.getElem_set_self];simp [EV.v,AV.v,Value.cells]) ?_
      intro m10 hm10
      refine RunL.done (by kernel_rfl) ?_
      exact RH.mtS ((A7,c7),(A8,c8)) [] (.head _) rfl rfl rfl λu h=>h
     ·refine V.opS 81 21 ?_
      refine RD.a [] ?_
      refine RD.apK (nx:=82) (i:=11) (κ:=kStr) (id:=70) (r:=[q]) (l:=w.g.map Prod.fst) rfl (by kernel_rfl) rfl rfl rfl (List.length_map _).symm rfl elt_str rfl rfl (λw hst=>hst.liR (id:=80) (κ:=kStr) (l:=[q]) rfl (by simp [hlim])) (by simp;omega) (by simp;omega) (λ_ _=>rfl) (λ_ h=>h) ?_
      intro A7 c7 m80 hm80
      refine RD.a [] ?_
      refine RD.apK (nx:=82) (i:=22) (κ:=kSum) (id:=71) (r:=[X[z.i]]) (l:=w.g.map Prod.snd) rfl (by kernel_rfl) rfl rfl rfl (List.length_map _).symm rfl elt_sum rfl rfl (λw hst=>hst.liR (id:=81) (κ:=kSum) (l:=[X[z.i]]) rfl (by simp [hlim])) (by simp;omega) (by simp;omega) (λ_ _=>rfl) (λ_ h=>h) ?_
      intro A8 c8 m81 hm81
      refine RD.a [] ?_
      refine RunL.d ?_
      refine V.RunL.storeFld (i:=25) (κ:=kMap) (id:=60) (t:=w.ms) (w.ms.length - 1) 0 (((A7,c7),w.P8),w.g.length+1,w.g.length) rfl (by kernel_rfl) rfl (by kernel_rfl) rfl rfl ⟨rfl,Tryz.t25,rfl,rfl⟩ rfl rfl (by omega) (Nat.le_of_ble_eq_true rfl) (by rw [map_cs,map_cs,hgt];simp [EV.v,AV.v,Value.cells]) ?_
      intro m7 hm7
      refine RunL.step tk (i:=26) rfl (by kernel_rfl) rfl (by kernel_rfl) rfl rfl trivial (Nat.le_refl _) ⟨rfl,rfl⟩ ?_
      intro m8 hm8
      refine RunL.step tk (i:=27) rfl (by kernel_rfl) rfl (by kernel_rfl) rfl rfl trivial (Nat.le_refl _) ⟨rfl,rfl⟩ ?_
      intro m9 hm9
      refine V.RunL.storeFld (i:=28) (κ:=kMap) (id:=60) (t:=w.ms.set (w.ms.length - 1) (((A7,c7),w.P8),w.g.length+1,w.g.length)) (w.ms.length - 1) 1 (((A7,c7),(A8,c8)),w.g.length+1,w.g.length+1) rfl (by kernel_rfl) rfl (by kernel_rfl) rfl rfl ⟨rfl,Tryz.t26,rfl,rfl⟩ rfl rfl (by rw [List.length_set];omega) (Nat.le_of_ble_eq_true rfl) (by rw [map_cs,map_cs,List.getElem_set_self];simp [EV.v,AV.v,Value.cells]) ?_
      intro m10 hm10
      refine RunL.done (by kernel_rfl) ?_
      exact RH.mtS ((A7,c7),(A8,c8)) [] (.head _) rfl rfl rfl λu h=>h
    ·refine V.opS 80 21 ?_
     refine RD.a [] ?_
     refine RD.s 81 10 ?_
     refine RD.a [] ?_
     refine RD.apK (nx:=82) (i:=11) (κ:=kStr) (id:=70) (r:=[q]) (l:=w.g.map Prod.fst) rfl (by kernel_rfl) rfl rfl rfl (List.length_map _).symm rfl elt_str rfl rfl (λw hst=>hst.liR (id:=81) (κ:=kStr) (l:=[q]) rfl (by simp [hlim])) (by simp;omega) (by simp;omega) (λ_ _=>rfl) (λ_ h=>h) ?_
     intro A7 c7 m81 hm81
     refine RD.a [] ?_
     refine RD.apK (nx:=82) (i:=22) (κ:=kSum) (id:=71) (r:=[X[z.i]]) (l:=w.g.map Prod.snd) rfl (by kernel_rfl) rfl rfl rfl (List.length_map _).symm rfl elt_sum rfl rfl (λw hst=>hst.liR (id:=80) (κ:=kSum) (l:=[X[z.i]]) rfl (by simp [hlim])) (by simp;omega) (by simp;omega) (λ_ _=>rfl) (λ_ h=>h) ?_
     intro A8 c8 m80 hm80
     refine RD.a [] ?_
     refine RunL.d ?_
     refine V.RunL.storeFld (i:=25) (κ:=kMap) (id:=60) (t:=w.ms) (w.ms.length - 1) 0 (((A7,c7),w.P8),w.g.length+1,w.g.length) rfl (by kernel_rfl) rfl (by kernel_rfl) rfl rfl ⟨rfl,Tryz.t25,rfl,rfl⟩ rfl rfl (by omega) (Nat.le_of_ble_eq_true rfl) (by rw [map_cs,map_cs,hgt];simp [EV.v,AV.v,Value.cells]) ?_
     intro m7 hm7
     refine RunL.step tk (i:=26) rfl (by kernel_rfl) rfl (by kernel_rfl) rfl rfl trivial (Nat.le_refl _) ⟨rfl,rfl⟩ ?_
     intro m8 hm8
     refine RunL.step tk (i:=27) rfl (by kernel_rfl) rfl (by kernel_rfl) rfl rfl trivial (Nat.le_refl _) ⟨rfl,rfl⟩ ?_
     intro m9 hm9
     refine V.RunL.storeFld (i:=28) (κ:=kMap) (id:=60) (t:=w.ms.set (w.ms.length - 1) (((A7,c7),w.P8),w.g.length+1,w.g.length)) (w.ms.length - 1) 1 (((A7,c7),(A8,c8)),w.g.length+1,w.g.length+1) rfl (by kernel_rfl) rfl (by kernel_rfl) rfl rfl ⟨rfl,Tryz.t26,rfl,rfl⟩ rfl rfl (by rw [List.length_set];omega) (Nat.le_of_ble_eq_true rfl) (by rw [map_cs,map_cs,List.getElem_set_self];simp [EV.v,AV.v,Value.cells]) ?_
     intro m10 hm10
     refine RunL.done (by kernel_rfl) ?_
     exact RH.mtS ((A7,c7),(A8,c8)) [] (.head _) rfl rfl rfl λu h=>h
   rintro ⟨P7,P8⟩ m5
   dsimp only
   rw [hxx]
   have hEe:E[z.i]=(nam,(E[z.i]).2):=by rw [← hnam]
   obtain ⟨g2,hg2⟩:∃ g2,g2=w.g ++ [(q,(E[z.i]).2)]:=⟨_,rfl⟩
   rw [← hg2] at w10
   have hgm1:w.g.map Prod.fst ++ [q]=g2.map Prod.fst:=by rw [hg2,List.map_append];rfl
   have hgm2:w.g.map Prod.snd ++ [(E[z.i]).2]=g2.map Prod.snd:=by rw [hg2,List.map_append];rfl
   have hgln:w.g.length+1=g2.length:=by rw [hg2,List.length_append];rfl
   rw [List.set_set,set_last _ w7,hgm1,hgm2,hgln]
   have hml:w.ms.length=(w.ms.dropLast ++ [(((P7,P8),g2.length,g2.length):Mp)]).length:=by rw [List.length_append,List.length_dropLast];simp;omega
   have hS:ndS w y N s.length m0 b0=[(1,.av (.box 0 m0 0)),(2,.av (.box 1 (m0+1) 0)),(6,intE s.length),(7,.av (.box 2 b0 0)),(8,rowS 60 w.P6.1 (w.ms.dropLast ++ [(((P7,P8),g2.length,g2.length):Mp)]).length w.P6.2),(46,.av (.val (.slice y.1.1 N.length y.1.2))),(47,intE N.length),(48,intE z.i)]:=by rw [← hml,← w1]
   rw [hS]
   refine RH.adv tk [] rfl rfl (by simp;omega) ?_
   refine RH.again (⟨z.i+1,w.o,w.bs,w.gs.dropLast ++ [g2],g2,w.ms.dropLast ++ [((P7,P8),g2.length,g2.length)],w.P5,w.P6,P7,P8⟩:NdS) (.head _) rfl rfl (by show E.length - (z.i+1) < E.length - z.i;omega) λu hu=>⟨⟨hu.1,?_⟩,?_⟩
   ·simpa using hu.2
   ·refine ⟨hlt,?_,?_,by simp,?_,?_,λ_=>by simp,w8,?_⟩
    ·show w.o=(E.take (z.i+1)).foldl (ownS s.length) none
     rw [hts,List.foldl_append,← hz.o,w2]
     show z.o=ownS s.length z.o E[z.i]
     unfold ownS
     rw [hnam,if_neg hle]
    ·show (w.bs,w.gs.dropLast ++ [g2])=(E.take (z.i+1)).foldl (grpS s.length) ([],[])
     rw [hts,List.foldl_append,← hz.g]
     show _=grpS s.length (z.bs,z.gs) E[z.i]
     rw [hEe]
     exact w10.symm
    ·show (w.ms.dropLast ++ [_]).length=(w.gs.dropLast ++ [_]).length
     simp [w4]
    ·show w.bs.length=(w.gs.dropLast ++ [_]).length
     rw [w5,List.length_append,List.length_dropLast];simp;omega
    ·show g2.length ≤ z.i+1
     omega
 ·have hil:z.i=E.length:=by omega
  have hg:=hz.g
  have ho:=hz.o
  rw [hil,List.take_length] at hg ho
  have ho2:z.o=v:=ho.trans hov
  have hg2:z.bs=k.bytes/\z.gs=k.trees.map λt=>t.ents []:=by
   have:=hg.trans hgr
   exact ⟨congrArg Prod.fst this,congrArg Prod.snd this⟩
  have hml:z.ms.length=k.trees.length:=by rw [hz.m,hg2.2,List.length_map]
  have hkl:=k.len
  have hol:k.owns.length=k.trees.length:=by rw [k.owns_eq,List.length_map]
  refine RH.adv tk [false] rfl rfl (by simp;omega) ?_
  refine RH.free (i:=70) rfl ?_
  refine RH.free (i:=71) rfl ?_
  refine V.RH.know (λu=>(K u/\RM u y N X)/\Late (λ_=>True) (λu=>KM u z.ms z.gs) m0 u) (λu hu=>⟨hu.1.1.1,λv hv _=>?_⟩) ?_
  ·exact hfull (hu.1.1.2 v hv trivial) ⟨Sl.own (hoL hu.1.2 hv) (by rw [List.length_map];omega),Sl.own (hoL hu.2 hv) (by rw [List.length_map];omega)⟩
  rw [hg2.2]
  have hbb:ndB z s b0 = .box b0 [.val (strV s),.val (.bool v.isSome),.val (sumV (v.getD Sum.zero)),.row 62 (.slice z.P5.1 k.bytes.length z.P5.2),.row 63 (.slice none 0 0)] 66:=by unfold ndB;rw [ho2,hg2.1]
  have hHH:ndH z y N X s m0 b0=[(0,some (.box m0 (rmF y N X) 81)),(1,some (.box (m0+1) (stpF noStp) 66)),(2,some (.box b0 [.val (strV s),.val (.bool v.isSome),.val (sumV (v.getD Sum.zero)),.row 62 (.slice z.P5.1 k.bytes.length z.P5.2),.row 63 (.slice none 0 0)] 66)),(60,rowE kMap z.P6.1 z.P6.2 z.ms),(62,rowE kBy z.P5.1 z.P5.2 k.bytes),(63,rowE kSum none 0 []),(70,rowE kStr z.P7.1 z.P7.2 (z.g.map Prod.fst)),(71,rowE kSum z.P8.1 z.P8.2 (z.g.map Prod.snd))]:=by
   unfold ndH;rw [hbb,hg2.1]
  rw [hHH]
  have hSS:ndS z y N s.length m0 b0=[(1,.av (.box 0 m0 0)),(2,.av (.box 1 (m0+1) 0)),(6,intE s.length),(7,.av (.box 2 b0 0)),(8,rowS 60 z.P6.1 z.ms.length z.P6.2),(46,.av (.val (.slice y.1.1 N.length y.1.2))),(47,intE N.length),(48,intE z.i)]:=rfl
  rw [hSS]
  generalize z.P5=P5 at *
  generalize z.P6=P6 at *
  generalize z.ms=ms at *
  refine RH.loop (α:=Nat × (Option Addr × Nat)) (λq=>[(2,.av (.box 1 (m0+1) 0)),(7,.av (.box 2 b0 0)),(8,rowS 60 P6.1 ms.length P6.2),(126,rowS 60 P6.1 ms.length P6.2),(127,intE ms.length),(128,intE q.1)])
   (λq=>[(1,some (.box (m0+1) (stpF noStp) 66)),(2,some (.box b0 [.val (strV s),.val (.bool v.isSome),.val (sumV (v.getD Sum.zero)),.row 62 (.slice P5.1 k.bytes.length P5.2),.row 63 (.slice q.2.1 (k.owns.take q.1).length q.2.2)] 66)),(60,rowE kMap P6.1 P6.2 ms),(62,rowE kBy P5.1 P5.2 k.bytes),(63,rowE kSum q.2.1 q.2.2 (k.owns.take q.1))])
   (λq u=>((K u/\RM u y N X)/\Late (λ_=>True) (λu=>KM u ms (k.trees.map λt=>t.ents [])) m0 u)/\q.1 ≤ ms.length) (λq=>ms.length - q.1) (0,(none,0)) rfl rfl (λu hu=>⟨hu,Nat.zero_le _⟩) ?_
  rintro ⟨j,⟨A9,c9⟩⟩ m4
  refine RH.pure (λu hu=>hu.2) λhj=>?_
  refine V.RH.know (λu=>(K u/\RM u y N X)/\Late (λ_=>True) (λu=>KM u ms (k.trees.map λt=>t.ents [])) m0 u) (λu h=>h.1) ?_
  dsimp only at hj ⊢
  by_cases hjl:j < ms.length
  ·have hjt:j < k.trees.length:=by omega
   have hjo:j < k.owns.length:=by omega
   have hts:k.owns.take (j+1)=k.owns.take j ++ [k.owns[j]]:=List.take_succ_eq_append_getElem hjo
   have htl:(k.owns.take j).length=j:=by rw [List.length_take];omega
   have hoj:k.owns[j]=(k.trees[j]).own:=by simp [k.owns_eq]
   have hne6:ms ≠ []:=λe=>by rw [e] at hjl;cases hjl
   have hj6:j ≤ 10000:=by omega
   refine RH.pure (λu hu=>((hu.2.now trivial).2 j hjl (by rw [List.length_map];exact hjt)).1) λhmj=>?_
   refine RH.pureS (λu hu=>hu.ptr (id:=60) (κ:=kMap) (l:=ms) rfl hne6) λp6=>?_
   have hok:=hk (k.trees[j]) (List.getElem_mem hjt)
   have hrm:∀ u,Late (λ_=>True) (λu=>KM u ms (k.trees.map λt=>t.ents [])) m0 u->RM u (ms[j]).1 (((k.trees[j]).ents []).map Prod.fst) (((k.trees[j]).ents []).map Prod.snd):=λu hu=>by
    have h9:=((hu.now trivial).2 j hjl (by rw [List.length_map];exact hjt)).2
    rw [List.getElem_map] at h9
    exact h9
   rw [List.getElem_map] at hmj
   obtain ⟨⟨yj,n1,n2⟩,hyj⟩:∃ q:Mp,ms[j]=q:=⟨_,rfl⟩
   rw [hyj] at hmj hrm
   have e1:n1=(((k.trees[j]).ents []).map Prod.fst).length:=by rw [List.length_map];exact congrArg Prod.fst hmj
   have e2:n2=(((k.trees[j]).ents []).map Prod.snd).length:=by rw [List.length_map];exact congrArg Prod.snd hmj
   subst e1;subst e2
   refine RH.adv tk [true] rfl rfl (by simp [p6,hjl]) ?_
   refine RH.loadS (rmE yj (((k.trees[j]).ents []).map Prod.fst) (((k.trees[j]).ents []).map Prod.snd)) rfl rfl rfl rfl (λu hu=>by have h9:=hu.loadRow (κ:=kMap) (l:=ms) (id:=60) rfl (by omega) hjl;rw [hyj] at h9;exact h9) ?_
   refine RH.a [] ?_
   refine RH.w [(2,some (.box b0 [.val (strV s),.val (.bool v.isSome),.val (sumV (v.getD Sum.zero)),.row 62 (.slice P5.1 k.bytes.length P5.2),.row 63 (.slice A9 (k.owns.take j).length c9)] 66)),(80,some (.box m4 (rmF yj (((k.trees[j]).ents []).map Prod.fst) (((k.trees[j]).ents []).map Prod.snd)) 81))] 8 ?_
   refine RD.a [] ?_
   refine RD.gv 3 (sumE k.owns[j]) rfl rfl rfl Tryz.call49 (λu hu=>by rw [hoj];exact hok u yj (hrm u hu.fact.2)) ?_
   intro m5 hm5
   refine RD.a [] ?_
   refine RD.s 81 4 ?_
   refine RD.a [] ?_
   refine RD.apK (nx:=82) (i:=5) (κ:=kSum) (id:=63) (r:=[k.owns[j]]) (l:=k.owns.take j) rfl (by kernel_rfl) rfl rfl rfl rfl rfl elt_sum rfl rfl (λw hst=>hst.liR (id:=81) (κ:=kSum) (l:=[k.owns[j]]) rfl (by simp [hlim])) (by simp;omega) (by simp;omega) (λ_ _=>rfl) (λ_ h=>h) ?_
   intro A10 c10 m6 hm6
   refine RD.a [] ?_
   refine RD.z 7 ?_
   intro m7 hm7
   rw [← hts]
   refine RH.adv tk [] rfl rfl (by simp;omega) ?_
   exact RH.again (j+1,(A10,c10)) (.head _) rfl rfl (by show ms.length - (j+1) < ms.length - j;omega) λu hu=>⟨hu,hjl⟩
  ·have hjm:j=ms.length:=by omega
   have hall:k.owns.take j=k.owns:=List.take_of_length_le (by omega)
   rw [hall]
   refine RH.adv tk [false] rfl rfl (by simp;omega) ?_
   refine RH.free (i:=60) rfl ?_
   refine RH.free (i:=62) rfl ?_
   refine RH.free (i:=63) rfl ?_
   exact RH.retBoxT tk (.st [.val (strV s),.val (.bool v.isSome),.val (sumV (v.getD Sum.zero)),.row 62 (.slice P5.1 k.bytes.length P5.2),.row 63 (.slice A9 k.owns.length c9)]) Tryz.func122 rfl rfl rfl rfl rfl λw' hst=>⟨(⟨s,v.isSome,v.getD Sum.zero,P5.1,k.bytes,P5.2,A9,k.owns,c9⟩,P6,ms),rfl,hst.out [] rfl rfl λu h=>⟨h.1.1.1.1.1,λv' hv hp=>⟨rfl,⟨Sl.own (hoL h.1.2 hv) (by show k.bytes.length ≤ lim;omega),Sl.own (hoL h.2 hv) (by show k.owns.length ≤ lim;omega)⟩,Sl.own (hoL h.1.1.2 hv) (by show ms.length ≤ lim;omega),h.1.1.1.2 v' hv hp⟩⟩⟩
abbrev nodeE (z:Stp × (Option Addr × Nat) × List Mp):EV:=.av (.val (.tuple #[(EV.st (stpF z.1)).v,.slice z.2.1.1 z.2.2.length z.2.1.2]))
def RootOk2 (t:Tree):Prop:=t.wf->t.low 1000->t.many ≤ 10000->RootOk t
theorem root_node (s:Str) (v:Option Sum) (k:Kids) (hk:∀ t ∈ k.trees,RootOk2 t):RootOk2 (.node s v k):=by
 intro hw hl hm w y hR
 have hkw:k.wf:=by unfold Tree.wf at hw;exact hw.1
 have hkb:=kbL hkw
 have hsl:s.length ≤ 1000:=low_stem hw hl
 have hroots:∀ t ∈ k.trees,RootOk t:=λt ht=>by
  obtain ⟨i,hi,rfl⟩:=List.mem_iff_getElem.1 ht
  have hkl:=k.len
  refine hk _ ht (kid_at hkw i hi (by omega)).1 (low_kid hw hl i hi) ?_
  have h1:=many_kid (k:=k) i hi
  unfold Tree.many at hm
  omega
 have hspec:=node_spec s v k hw hl hm hroots y _ rfl _ _ rfl rfl
 obtain ⟨N,hN⟩:∃ N,N=((Tree.node s v k).ents []).map Prod.fst:=⟨_,rfl⟩
 obtain ⟨X,hX⟩:∃ X,X=((Tree.node s v k).ents []).map Prod.snd:=⟨_,rfl⟩
 have hnl:N.length ≠ 0:=by rw [hN,List.length_map];exact λe=>ents_ne hw (List.length_eq_zero_iff.1 e)
 rw [← hN,← hX] at hR hspec ⊢
 have hsm:=hR.1.small
 have hown:(Tree.node s v k).own=shaW (stepB s v k.bytes k.owns):=rfl
 have hol:=owns_len k
 rw [hown]
 refine enterH tk [(0,rmE y N X)] Tryz.func49 rfl Tryz.ntmps49 rfl rfl ?_
 refine RH.adv tk [false] rfl rfl (by simp [hnl]) ?_
 refine RH.dd [] 60 nodeE rfl rfl rfl Tryz.call122 hspec (λu hu=>hR.ext hu.fact) ?_
 rintro ⟨⟨st1,h1,x1,B1,by1,b1,D1,no1,d1⟩,⟨A6,c6⟩,ms⟩ m2 hm2
 refine RH.pure (λu hu=>(hu.2.now trivial).1) λhd=>?_
 simp only [Stp.dat,Prod.mk.injEq] at hd
 obtain ⟨rfl,rfl,rfl,rfl,rfl⟩:=hd
 refine RH.a [] ?_
 refine V.RH.slotE 13 (.st (stpF ⟨st1,v.isSome,v.getD Sum.zero,B1,k.bytes,b1,D1,k.owns,d1⟩)) rfl rfl ?_
 refine RH.a [] ?_
 have hbs:(⟨st1,v.isSome,v.getD Sum.zero,B1,k.bytes,b1,D1,k.owns,d1⟩:Stp).bs=stepB st1 v k.bytes k.owns:=by
  unfold Stp.bs
  cases v<;>rfl
 have hbl:(stepB st1 v k.bytes k.owns).length ≤ 100000:=by
  have h5:=pairB_len k.bytes k.owns
  have h6:(vB v).length ≤ 33:=by cases v with
   | none=>exact Nat.le_of_ble_eq_true rfl
   | some x=>show (1 :: x.l).length ≤ 33;rw [List.length_cons,x.h];exact Nat.le_refl _
  unfold stepB
  simp only [List.length_append,List.length_cons,List.length_nil]
  omega
 have hB:=rBytes_spec ⟨st1,v.isSome,v.getD Sum.zero,B1,k.bytes,b1,D1,k.owns,d1⟩ hsl (by show k.bytes.length ≤ 1000;omega) hol.symm
 rw [hbs] at hB
 generalize stepB st1 v k.bytes k.owns=SB at *
 refine RH.dd [] 70 (λz:Option Addr × Nat=>slE z.1 SB.length z.2) rfl rfl rfl Tryz.call111 hB (λu hu=>(hu.fact.2.now trivial).2.1) ?_
 rintro ⟨A7,c7⟩ m3 hm3
 refine RH.a [] ?_
 refine RH.gv (sumE (shaW SB)) rfl rfl rfl Tryz.call110 (λu hu=>rOf_spec u A7 c7 SB (hu.fact.2.now trivial) (by omega)) ?_
 intro m4 hm4
 refine RH.a [] ?_
 exact RH.retBox tk (sumE (shaW SB)) Tryz.func49 rfl rfl rfl rfl λu hu=>⟨rfl,hu.fact.1.1⟩
mutual
theorem root_all:∀ t:Tree,RootOk2 t
 | .node s v k=>root_node s v k (kids_root_all k)
theorem kids_root_all:∀ (k:Kids),∀ t ∈ k.trees,RootOk2 t
 | .nil=>λt h=>nomatch h
 | .cons _ t r=>λu h=>(List.mem_cons.1 h).elim (λe=>e ▸ root_all t) (kids_root_all r u)
end
theorem root_nil (w:World) (y:At2) (h:RM w y [] []):Gives Tryz.prog 49 [(rmE y [] []).v] w (sumE (shaW [])):=by
 refine enterH tk [(0,rmE y [] [])] Tryz.func49 rfl Tryz.ntmps49 rfl rfl ?_
 refine RH.a [true] ?_
 refine RH.gv (sumE (shaW [])) rfl rfl rfl Tryz.call110 (λu hu=>rOf_spec u none 0 [] (Sl.void u) (Nat.zero_le _)) ?_
 intro m4 hm4
 refine RH.a [] ?_
 exact RH.retBox tk (sumE (shaW [])) Tryz.func49 rfl rfl rfl rfl λu hu=>⟨rfl,hu.fact⟩
theorem rRoot_spec (w:World) (y:At2) (t:Option Tree) (hw:wfO t) (hl:lowO 1000 t) (hm:maO t ≤ 10000) (h:RM w y (ksO t) (xsO t)):Gives Tryz.prog 49 [(rmE y (ksO t) (xsO t)).v] w (sumE (rootO t)):=by
 cases t with
 | none=>exact root_nil w y h
 | some t=>exact root_all t hw hl hm w y h
theorem kwayT_idx (c:UInt8) (n:Str):∀ (k:Kids) (j:Nat),(idxOf (λy=>decide (c=y)) k.bytes j = -1/\k.wayT c n=[]) ∨ (∃ i,∃ h:i < k.trees.length,idxOf (λy=>decide (c=y)) k.bytes j=((j+i:Nat):Int)/\k.wayT c n=(k.trees[i]).wayT n)
 | .nil,_=>.inl ⟨rfl,by rw [Kids.wayT]⟩
 | .cons b t r,j=>by
  rw [Kids.bytes,idxOf,Kids.wayT]
  by_cases h:b=c
  ·subst h
   rw [if_pos (by simp),if_pos rfl]
   exact .inr ⟨0,by simp [Kids.trees],rfl,rfl⟩
  ·rw [if_neg (by simpa using λe=>h e.symm),if_neg h]
   rcases kwayT_idx c n r (j+1) with h1|⟨i,h1,h2,h3⟩
   ·exact .inl h1
   ·refine .inr ⟨i+1,by simpa [Kids.trees] using h1,by rw [h2];congr 1;omega,?_⟩
    simpa [Kids.trees] using h3
theorem wayT_off {s n:Str} (v:Option Sum) (k:Kids) (h:¬ hasPre n s=true):(Tree.node s v k).wayT n=[.node s v k]:=by
 rw [Tree.wayT,cutP_none λr e=>h (by rw [e];exact hasPre_app s r)]
theorem wayT_end (s:Str) (v:Option Sum) (k:Kids):(Tree.node s v k).wayT s=[.node s v k]:=by
 rw [Tree.wayT,(cutP_iff s s []).2 (by simp)]
theorem wayT_kid (s:Str) (v:Option Sum) (k:Kids) (c:UInt8) (r:Str):(Tree.node s v k).wayT (s ++ c :: r) = .node s v k :: k.wayT c r:=by
 rw [Tree.wayT,cutP_app]
set_option maxHeartbeats 1000000 in
theorem rWay_ok (y0:At2) (t0:Option Tree) (hw0:wfO t0) (hl0:lowO 1000 t0) (hm0:maO t0 ≤ 10000) (name0:Str) (hn0:name0.length ≤ 60) :
  Does Tryz.prog tb 51 [(rmE y0 (ksO t0) (xsO t0)).v,strV name0] [] (λu=>RM u y0 (ksO t0) (xsO t0)) (λz:(Option Addr × Nat) × List Stp=>.tuple #[.slice z.1.1 z.2.length z.1.2,intV 0]) (λz=>[(0,rowE kRStp z.1.1 z.1.2 z.2)])
   (λz=>Late (λ_=>True) (wayQ (wayO t0 name0) z)):=by
 have hlim:lim=140737488351232:=rfl
 have hk0:=ksO_len t0
 refine V.Does.enter0 [(0,rmE y0 (ksO t0) (xsO t0)),(1,strE name0)] Tryz.func51 rfl Tryz.ntmps51 rfl rfl 0 ?_
 intro m0 K
 refine RH.a [false] ?_
 refine RH.nilrow 50 kRStp.T kRStp.sz 51 ?_
 refine RH.loop (α:=(Option Tree × Str) × At2 × List Stp × (Option Addr × Nat)) (λq=>[(1,strE q.1.2),(2,.av (.box 0 m0 0)),(6,rowS 50 q.2.2.2.1 q.2.2.1.length q.2.2.2.2)])
  (λq=>[(0,some (.box m0 (rmF q.2.1 (ksO q.1.1) (xsO q.1.1)) 81)),(50,rowE kRStp q.2.2.2.1 q.2.2.2.2 q.2.2.1)])
  (λq u=>((K u/\RM u y0 (ksO t0) (xsO t0))/\Late (λu=>RM u y0 (ksO t0) (xsO t0)) (λu=>RM u q.2.1 (ksO q.1.1) (xsO q.1.1)) m0 u/\Late (λ_=>True) (λu=>∀ s ∈ q.2.2.1,s.ok u) m0 u) ∧
   wfO q.1.1/\lowO 1000 q.1.1/\maO q.1.1 ≤ 10000/\q.1.2.length+q.2.2.1.length ≤ 60/\q.2.2.1.map Stp.dat ++ (wayO q.1.1 q.1.2).map Tree.dat=(wayO t0 name0).map Tree.dat) (λq=>q.1.2.length) ((t0,name0),y0,[],(none,0)) rfl rfl
  (λu hu=>⟨⟨hu,λv _ hp=>hp,λv _ _ s h=>nomatch h⟩,hw0,hl0,hm0,by simpa using hn0,rfl⟩) ?_
 rintro ⟨⟨t,name⟩,y,acc,⟨A1,c1⟩⟩ m1
 refine RH.pure (λu hu=>hu.2) λ⟨hw,hl,hm,hn,hway⟩=>?_
 refine V.RH.know (λu=>(K u/\RM u y0 (ksO t0) (xsO t0))/\Late (λu=>RM u y0 (ksO t0) (xsO t0)) (λu=>RM u y (ksO t) (xsO t)) m0 u/\Late (λ_=>True) (λu=>∀ s ∈ acc,s.ok u) m0 u) (λu h=>h.1) ?_
 refine RH.above (id:=0) rfl rfl λhz1 hz2=>?_
 dsimp only at hw hl hm hn hway ⊢
 have hkl:=ksO_len t
 cases t with
 | none =>
  have h0:(ksO (none:Option Tree)).length=0:=rfl
  refine RH.adv tk [false] rfl rfl (by simp [h0]<;>omega) ?_
  refine RH.ret2 Tryz.func51 rfl rfl rfl λw hst=>⟨((A1,c1),acc),rfl,hst.out [(0,50)] rfl rfl λu h=>⟨h.1.1,λv hv hp=>⟨?_,h.2.2 v hv hp⟩⟩⟩
  have h9:(wayO none name).map Tree.dat=[]:=rfl
  rw [h9,List.append_nil] at hway
  exact hway
 | some t =>
  obtain ⟨s,v,k⟩:=t
  have hkw:k.wf:=by have:(Tree.node s v k).wf:=hw;unfold Tree.wf at this;exact this.1
  have hkb:=kbL hkw
  have hsl:s.length ≤ 1000:=low_stem hw hl
  have hne:0 < (ksO (some (Tree.node s v k))).length:=by
   rw [List.length_map];exact List.length_pos_iff.2 (ents_ne hw)
  have hol:=owns_len k
  have hroots:∀ t ∈ k.trees,RootOk t:=λt ht=>by
   obtain ⟨i,hi,rfl⟩:=List.mem_iff_getElem.1 ht
   have hkl:=k.len
   refine root_all _ (kid_at hkw i hi (by omega)).1 (low_kid hw hl i hi) ?_
   have h1:=many_kid (k:=k) i hi
   have h2:(Tree.node s v k).many ≤ 10000:=hm
   unfold Tree.many at h2
   omega
  have hspec:=node_spec s v k hw hl hm hroots y _ rfl _ _ rfl rfl
  refine RH.adv tk [true] rfl rfl (by simp<;>simpa using hne) ?_
  refine RH.dd [] 60 nodeE rfl rfl rfl Tryz.call122 hspec (λu hu=>hu.fact.2.1.now hu.fact.1.2) ?_
  rintro ⟨⟨st1,h1,x1,B1,by1,b1,D1,no1,d1⟩,⟨A6,c6⟩,ms⟩ m2 hm2
  refine RH.pure (λu hu=>(hu.2.now trivial).1) λhd=>?_
  simp only [Stp.dat,Prod.mk.injEq] at hd
  obtain ⟨rfl,rfl,rfl,rfl,rfl⟩:=hd
  refine RH.a [] ?_
  refine V.RH.slotE 20 (.st (stpF ⟨st1,v.isSome,v.getD Sum.zero,B1,k.bytes,b1,D1,k.owns,d1⟩)) rfl rfl ?_
  refine RH.a [] ?_
  dsimp only
  have hspl:∀ (r:Str),name=st1 ++ r->(Tree.node st1 v k).wayT name=[.node st1 v k]->(acc ++ [(⟨st1,v.isSome,v.getD Sum.zero,B1,k.bytes,b1,D1,k.owns,d1⟩:Stp)]).map Stp.dat=(wayO t0 name0).map Tree.dat:=λr _ h=>by
   have h9:wayO (some (Tree.node st1 v k)) name=(Tree.node st1 v k).wayT name:=rfl
   rw [← hway,h9,h,List.map_append];rfl
  have hend:(Tree.node st1 v k).wayT name=[.node st1 v k]->(acc ++ [(⟨st1,v.isSome,v.getD Sum.zero,B1,k.bytes,b1,D1,k.owns,d1⟩:Stp)]).map Stp.dat=(wayO t0 name0).map Tree.dat:=λh=>by
   have h9:wayO (some (Tree.node st1 v k)) name=(Tree.node st1 v k).wayT name:=rfl
   rw [← hway,h9,h,List.map_append];rfl
  have hgo:∀ (c:UInt8) (r:Str) (t':Tree),name=st1 ++ c :: r->k.wayT c r=t'.wayT r->(acc ++ [(⟨st1,v.isSome,v.getD Sum.zero,B1,k.bytes,b1,D1,k.owns,d1⟩:Stp)]).map Stp.dat ++ (wayO (some t') r).map Tree.dat=(wayO t0 name0).map Tree.dat:=λc r t' h h2=>by
   have h9:wayO (some (Tree.node st1 v k)) name=(Tree.node st1 v k).wayT name:=rfl
   rw [← hway,h9,h,wayT_kid,h2,List.map_append,List.map_cons,List.append_assoc];rfl
  refine RH.apK (κ:=kRStp) (id:=50) (l:=acc) (r:=[⟨st1,v.isSome,v.getD Sum.zero,B1,k.bytes,b1,D1,k.owns,d1⟩]) rfl rfl rfl rfl rfl rfl elt_RStp rfl rfl (λu hu=>hu.liR (κ:=kRStp) (l:=[⟨st1,v.isSome,v.getD Sum.zero,B1,k.bytes,b1,D1,k.owns,d1⟩]) (id:=61) rfl (by simp [hlim])) (by simp;omega) (by simp [hlim];omega) ?_
  intro A3 c3 m3 hm3
  refine V.RH.know (λu=>((K u/\RM u y0 (ksO t0) (xsO t0))/\Late (λ_=>True) (λu=>∀ s ∈ acc ++ [(⟨st1,v.isSome,v.getD Sum.zero,B1,k.bytes,b1,D1,k.owns,d1⟩:Stp)],s.ok u) m0 u)/\Late (λ_=>True) (λu=>Sl kMap u A6 c6 ms/\KM u ms (k.trees.map λt=>t.ents [])) m0 u) (λu h=>⟨⟨h.1.1,λv' hv hp s hs=>?_⟩,λv' hv hp=>(h.2.up (by omega) hv hp).2.2⟩) ?_
  ·rcases List.mem_append.1 hs with h5|h5
   ·exact h.1.2.2 v' hv hp s h5
   ·rw [List.mem_singleton] at h5
    rw [h5]
    exact (h.2.up (by omega) hv hp).2.1
  have hal:(acc ++ [(⟨st1,v.isSome,v.getD Sum.zero,B1,k.bytes,b1,D1,k.owns,d1⟩:Stp)]).length=acc.length+1:=by simp
  obtain ⟨ac2,hac⟩:∃ ac2,ac2=acc ++ [(⟨st1,v.isSome,v.getD Sum.zero,B1,k.bytes,b1,D1,k.owns,d1⟩:Stp)]:=⟨_,rfl⟩
  rw [← hac] at hend hgo hal ⊢
  refine RH.a [] ?_
  refine RH.gv (boE (hasPre name st1)) rfl rfl rfl Tryz.call112 (λu _=>begins_spec u name st1) ?_
  intro m4 hm4
  by_cases hp:hasPre name st1=true
  ·have hnm:=(pre_iff name st1).1 hp
   by_cases hle:name.length=st1.length
   ·have hns:name=st1:=by rw [hnm,List.drop_of_length_le (by omega),List.append_nil]
    refine RH.adv tk [false,true] rfl rfl (by simp [hp,hle]) ?_
    refine RH.ret2 Tryz.func51 rfl rfl rfl λw hst=>⟨((A3,c3),ac2),rfl,hst.out [(0,50)] rfl rfl λu h=>⟨h.1.1.1,λv' hv hp=>⟨hend (by rw [hns];exact wayT_end _ _ _),h.1.2 v' hv hp⟩⟩⟩
   ·have hll:st1.length < name.length:=by
     have:=congrArg List.length hnm
     rw [List.length_append] at this
     omega
    obtain ⟨c,r,hcr⟩:∃ c r,name.drop st1.length=c :: r:=List.exists_cons_of_ne_nil λe=>by
     have:=congrArg List.length e
     rw [List.length_drop] at this
     simp at this;omega
    rw [hcr] at hnm
    have hc:name.getD st1.length 0=c:=by rw [hnm];simp [List.getD_eq_getElem?_getD]
    have hr:name.drop (st1.length+1)=r:=by rw [hnm,show st1 ++ c :: r=(st1 ++ [c]) ++ r by simp];exact List.drop_left' (by simp)
    have hrl:name.length=st1.length+r.length+1:=by rw [hnm];simp;omega
    refine RH.adv tk [false,false] rfl rfl (by simp [hp]<;>omega) ?_
    refine RH.w [(60,some (.box m2 (stpF ⟨st1,v.isSome,v.getD Sum.zero,B1,k.bytes,b1,D1,k.owns,d1⟩) 66))] 9 ?_
    refine RD.b [] rfl rfl (by simp [hll]) ?_
    rw [Int.toNat_natCast,hc]
    refine RD.gv 7 (intE (idxOf (λy=>decide (c=y)) k.bytes 0)) rfl rfl rfl Tryz.call113 (λu hu=>indexB_spec u B1 b1 k.bytes (hu.fact.1.2.now trivial _ (by rw [hac];exact List.mem_append_right _ (List.mem_singleton.2 rfl))).1 c) ?_
    intro m5 hm5
    refine RD.a [] ?_
    refine RD.e ?_
    rcases kwayT_idx c r k 0 with ⟨h1,h2⟩|⟨i,hi,h1,h2⟩
    ·rw [h1]
     refine RH.a [true] ?_
     refine RH.ret2 Tryz.func51 rfl rfl rfl λw hst=>⟨((A3,c3),ac2),rfl,hst.out [(0,50)] rfl rfl λu h=>⟨h.1.1.1,λv' hv hp=>⟨hend (by rw [hnm,wayT_kid,h2]),h.1.2 v' hv hp⟩⟩⟩
    ·rw [h1,Nat.zero_add]
     have hkk:=k.len
     refine RH.pure (λu hu=>(hu.2.now trivial).2.1) λhml=>?_
     rw [List.length_map] at hml
     have him:i < ms.length:=by omega
     refine RH.pure (λu hu=>((hu.2.now trivial).1.ptr him:Ptr A6)) λp6=>?_
     refine RH.pure (λu hu=>((hu.2.now trivial).2.2 i him (by rw [List.length_map];exact hi)).1) λhmj=>?_
     have hrm:∀ u,Late (λ_=>True) (λu=>Sl kMap u A6 c6 ms/\KM u ms (k.trees.map λt=>t.ents [])) m0 u->Late (λ_=>True) (λu=>RM u (ms[i]).1 (((k.trees[i]).ents []).map Prod.fst) (((k.trees[i]).ents []).map Prod.snd)) m0 u:=λu hu v' hv hp=>by
      have h9:=((hu v' hv hp).2.2 i him (by rw [List.length_map];exact hi)).2
      rw [List.getElem_map] at h9
      exact h9
     rw [List.getElem_map] at hmj
     obtain ⟨⟨yj,n1,n2⟩,hyj⟩:∃ q:Mp,ms[i]=q:=⟨_,rfl⟩
     rw [hyj] at hmj hrm
     have e1:n1=(ksO (some k.trees[i])).length:=by rw [List.length_map];exact congrArg Prod.fst hmj
     have e2:n2=(xsO (some k.trees[i])).length:=by rw [List.length_map];exact congrArg Prod.snd hmj
     subst e1;subst e2
     have hmk:(k.trees[i]).many ≤ 10000:=by
      have h1:=many_kid (k:=k) i hi
      have h2:(Tree.node st1 v k).many ≤ 10000:=hm
      unfold Tree.many at h2
      omega
     refine RH.a [false] ?_
     refine RH.w [(60,some (.box m2 (stpF ⟨st1,v.isSome,v.getD Sum.zero,B1,k.bytes,b1,D1,k.owns,d1⟩) 66))] 12 ?_
     refine RD.b [] rfl rfl (by simp [p6,him];omega) ?_
     rw [show ((st1.length:Int)+1).toNat=st1.length+1 by omega,hr]
     refine RD.ld 3 (rmE yj (ksO (some k.trees[i])) (xsO (some k.trees[i]))) rfl rfl (λu hu=>by have h9:=(hu.2.now trivial).1.load him;rw [hyj] at h9;exact h9) ?_
     refine RD.a [] ?_
     refine RD.s 80 10 ?_
     refine RD.a [] ?_
     refine RD.e ?_
     refine RH.a [] ?_
     refine RH.again ((some k.trees[i],r),yj,ac2,(A3,c3)) (.head _) rfl rfl (by show r.length < name.length;omega) λu hu=>⟨⟨hu.1.1,λv' hv _=>hrm u hu.2 v' hv trivial,hu.1.2⟩,(kid_at hkw i hi (by omega)).1,low_kid hw hl i hi,hmk,?_,hgo c r _ hnm h2⟩
     show r.length+ac2.length ≤ 60
     omega
  ·refine RH.adv tk [true,true] rfl rfl (by simp [hp]) ?_
   refine RH.ret2 Tryz.func51 rfl rfl rfl λw hst=>⟨((A3,c3),ac2),rfl,hst.out [(0,50)] rfl rfl λu h=>⟨h.1.1.1,λv' hv hp'=>⟨hend (wayT_off v k hp),h.1.2 v' hv hp'⟩⟩⟩
theorem mem_del (n:Str):∀ {E:List (Str × Sum)},Rise E->∀ k z,(k,z) ∈ delE n E ↔ k ≠ n/\(k,z) ∈ E
 | [],_,k,z=>by simp [delE]
 | (m,y) :: r,hr,k,z=>by
  obtain ⟨h1,h2⟩:=rise_cons.1 hr
  unfold delE
  by_cases h:Op.bytesLess m n=true
  ·rw [if_pos h,List.mem_cons,mem_del n h2,List.mem_cons]
   have hne:=less_ne h
   constructor
   ·rintro (e|⟨e,f⟩)
    ·injection e with e1 e2;subst e1;exact ⟨hne,.inl (by rw [e2])⟩
    ·exact ⟨e,.inr f⟩
   ·rintro ⟨e,f|f⟩
    ·exact .inl f
    ·exact .inr ⟨e,f⟩
  ·rw [if_neg h]
   by_cases e:m=n
   ·subst e
    rw [if_pos rfl,List.mem_cons]
    constructor
    ·intro g
     exact ⟨λf=>by subst f;exact less_ne (h1 _ g) rfl,.inr g⟩
    ·rintro ⟨f,g|g⟩
     ·injection g with g1 g2;exact absurd g1 f
     ·exact g
   ·rw [if_neg e,List.mem_cons]
    have hn:Op.bytesLess n m=true:=by
     rcases less_tri m n with a|a|a
     ·exact absurd a h
     ·exact absurd a e
     ·exact a
    constructor
    ·intro g
     refine ⟨λf=>?_,g⟩
     subst f
     rcases g with g|g
     ·injection g with g1 g2;exact e g1.symm
     ·exact less_ne (less_trans hn (h1 _ g)) rfl
    ·exact λg=>g.2
theorem del_sub (n:Str):∀ E:List (Str × Sum),(delE n E).Sublist E
 | []=>List.Sublist.refl _
 | (m,y) :: r=>by
  unfold delE
  split
  ·exact (del_sub n r).cons_cons _
  ·split
   ·exact List.sublist_cons_self _ _
   ·exact List.Sublist.refl _
theorem rise_del (n:Str) {E:List (Str × Sum)} (h:Rise E):Rise (delE n E):=List.Pairwise.sublist (del_sub n E) h
theorem del_drop {t:Option Tree} (hw:wfO t) {n:Str} (hg:(getO t n).isSome=true):delE n (enO t)=enO (dropO t n):=by
 refine rise_ext (rise_del n (entsO_rise hw)) (entsO_rise (dropO_wf hw hg)) λk z=>?_
 rw [mem_del n (entsO_rise hw),meO (dropO_wf hw hg),meO hw,dropO_get hw hg]
 by_cases e:k=n<;>simp [e]
theorem del_erase (n:Str):∀ {E:List (Str × Sum)},inN (E.map Prod.fst) n=true->(E.map Prod.fst).eraseIdx (posN (E.map Prod.fst) n)=(delE n E).map Prod.fst/\(E.map Prod.snd).eraseIdx (posN (E.map Prod.fst) n)=(delE n E).map Prod.snd
 | [],h=>by simp [inN] at h
 | (m,y) :: r,h=>by
  rw [List.map_cons,inN_cons] at h
  rw [List.map_cons,List.map_cons,posN_cons]
  unfold delE
  by_cases hl:Op.bytesLess m n=true
  ·rw [if_pos hl] at h
   obtain ⟨h1,h2⟩:=del_erase n h
   rw [if_pos hl,if_pos hl,List.eraseIdx_cons_succ,List.eraseIdx_cons_succ,List.map_cons,List.map_cons,h1,h2]
   exact ⟨rfl,rfl⟩
  ·rw [if_neg hl,decide_eq_true_iff] at h
   rw [if_neg hl,if_neg hl,if_pos h]
   exact ⟨rfl,rfl⟩
theorem erase_drop {t:Option Tree} (hw:wfO t) {n:Str} (hg:(getO t n).isSome=true):(ksO t).eraseIdx (posN (ksO t) n)=ksO (dropO t n)/\(xsO t).eraseIdx (posN (ksO t) n)=xsO (dropO t n):=by
 have h:=del_erase n (E:=enO t) (by rw [in_get hw];exact hg)
 rw [del_drop hw hg] at h
 exact h
theorem at_get {t:Option Tree} (hw:wfO t) {n:Str} (h:inN (ksO t) n=true):∃ h1:posN (ksO t) n < (xsO t).length,getO t n=some ((xsO t)[posN (ksO t) n]):=by
 have h1:=inN_lt h
 unfold inN at h
 rw [Bool.and_eq_true,decide_eq_true_iff,decide_eq_true_iff] at h
 have h2:posN (ksO t) n < (enO t).length:=by simpa using h1
 refine ⟨by simpa using h1,?_⟩
 have h3:((enO t)[posN (ksO t) n]).1=n:=by
  have:=h.2
  rw [List.getD_eq_getElem?_getD,List.getElem?_eq_getElem h1,Option.getD_some,List.getElem_map] at this
  exact this
 have h4:=List.getElem_mem h2
 have h5:(enO t)[posN (ksO t) n]=(n,(xsO t)[posN (ksO t) n]'(by simpa using h1)):=by
  refine Prod.ext h3 ?_
  rw [List.getElem_map]
 rw [h5] at h4
 exact (meO hw _ _).1 h4
structure GoodO (t:Option Tree):Prop where
 wf:wfO t
 low:lowO 60 t
 many:maO t ≤ 600
theorem lowO_up {N M:Nat} {t:Option Tree} (h:lowO N t) (hm:N ≤ M):lowO M t:=λn x hx=>Nat.le_trans (h n x hx) hm
theorem GoodO.ok {t:Option Tree} (h:GoodO t):okO t:=okO_of h.wf h.low (by decide) (Nat.le_trans h.many (by decide))
theorem GoodO.low1000 {t:Option Tree} (h:GoodO t):lowO 1000 t:=lowO_up h.low (by decide)
theorem GoodO.nil:GoodO none:=⟨trivial,(λ_ _ h=>by cases h),Nat.zero_le _⟩
def putR (t:Option Tree) (n:Str) (x:Sum):Option Tree × Int:=if 60 < n.length then (none,11) else if getO t n=none/\600 ≤ maO t then (none,12) else (some (putO t n x),0)
def dropR (t:Option Tree) (n:Str):Option Tree × Int:=if (getO t n).isSome=true then (dropO t n,0) else (none,6)
theorem GoodO.put {t:Option Tree} (h:GoodO t) (n:Str) (x:Sum):GoodO (putR t n x).1:=by
 unfold putR
 split
 ·exact GoodO.nil
 ·rename_i h1
  split
  ·exact GoodO.nil
  ·rename_i h2
   refine ⟨putO_wf h.wf n x,putO_low h.wf h.low (by omega) x,?_⟩
   have:=h.many
   show maO (some (putO t n x)) ≤ 600
   rw [putO_many h.wf]
   cases hg:getO t n with
   | none=>rw [hg] at h2;simp at h2 ⊢;omega
   | some z=>simp;omega
theorem GoodO.drop {t:Option Tree} (h:GoodO t) (n:Str):GoodO (dropR t n).1:=by
 unfold dropR
 split
 ·rename_i hg
  exact ⟨dropO_wf h.wf hg,dropO_low h.wf h.low hg,by have:=dropO_many h.wf hg;have:=h.many;show maO (dropO t n) ≤ 600;omega⟩
 ·exact GoodO.nil
theorem GoodO.step {t:Option Tree} (h:GoodO t) (c:TChg):GoodO (stepO t c).1:=by
 unfold stepO
 split
 ·exact GoodO.nil
 rename_i hf
 split
 ·exact GoodO.nil
 rename_i h1
 split
 ·exact GoodO.nil
 rename_i h2
 split
 ·split
  ·exact GoodO.nil
  rename_i h3
  have:=h.put c.name c.new
  unfold putR at this
  rw [if_neg h1,if_neg (by simpa using h3)] at this
  exact this
 ·rename_i h3
  have hg:(getO t c.name).isSome=true:=by
   cases hh:c.had with
   | true =>
    simp only [hh,not_or] at h2
    exact (Decidable.not_not.1 h2.1).symm
   | false=>cases hs:c.has with
    | true=>exact absurd hs h3
    | false=>exact absurd (.inl ⟨hh,hs⟩) hf
  have:=h.drop c.name
  unfold dropR at this
  rw [if_pos hg] at this
  exact this
theorem GoodO.apply:∀ (l:List TChg) {t:Option Tree},GoodO t->GoodO (applyO t l).1
 | [],_,h=>h
 | c :: r,t,h=>by
  rw [applyO]
  split
  ·exact GoodO.apply r (h.step c)
  ·exact GoodO.nil
theorem GoodO.from {names:List Str} {sums:List Sum}:GoodO (if fromE names sums=0 then fromO (names.zip sums) else none):=by
 split
 ·rename_i he
  unfold fromE at he
  split at he
  ·cases he
  split at he
  ·cases he
  rename_i h1 h2
  have hs:∀ e ∈ names.zip sums,e.1.length ≤ 60:=λe hm=>scan_ok names [] he e.1 (List.of_mem_zip hm).1
  obtain ⟨a1,a2,_⟩:=from_step (N:=60) (names.zip sums) none trivial (λ_ _ h=>by cases h) hs
  refine ⟨a1,a2,?_⟩
  have:=many_le (names.zip sums)
  rw [List.length_zip] at this
  omega
 ·exact GoodO.nil
theorem GoodO.below {t:Option Tree} (h:GoodO t) (p:Str):GoodO (fromO (belowL p (enO t))):=by
 have h1:∀ e ∈ enO t,e.1.length ≤ 60:=λe he=>h.low e.1 e.2 ((meO h.wf e.1 e.2).1 he)
 obtain ⟨a1,a2,_⟩:=from_step (N:=60) (belowL p (enO t)) none trivial (λ_ _ h=>by cases h) (below_short h1)
 refine ⟨a1,a2,?_⟩
 have h3:=many_le (belowL p (enO t))
 have h4:=below_len p (enO t)
 have h5:=h.many
 rw [entsO_many] at h4
 omega
theorem GoodO.union {s t:Option Tree} (hs:GoodO s) (ht:GoodO t):GoodO (if unionE s t=0 then fromO (enO s ++ enO t) else none):=by
 split
 ·rename_i he
  have h1:∀ e ∈ enO s ++ enO t,e.1.length ≤ 60:=λe he=>by
   rcases List.mem_append.1 he with h|h
   ·exact hs.low e.1 e.2 ((meO hs.wf e.1 e.2).1 h)
   ·exact ht.low e.1 e.2 ((meO ht.wf e.1 e.2).1 h)
  obtain ⟨a1,a2,_⟩:=from_step (N:=60) (enO s ++ enO t) none trivial (λ_ _ h=>by cases h) h1
  refine ⟨a1,a2,?_⟩
  have h3:=many_le (enO s ++ enO t)
  rw [List.length_append,entsO_many] at h3
  unfold unionE at he
  split at he
  ·cases he
  split at he
  ·cases he
  omega
 ·exact GoodO.nil
theorem GoodO.dec (l:List UInt8):GoodO (decL l).1:=by
 obtain ⟨⟨o,k,e⟩,hd⟩:∃ q,decL l=q:=⟨_,rfl⟩
 rw [hd]
 show GoodO o
 by_cases he:e=0
 ·subst he
  obtain ⟨_,_,h1,h2,h3,_⟩:=dec_ok hd
  exact ⟨h1,h2,h3⟩
 ·rw [(dec_bad hd he).1];exact GoodO.nil
theorem below_rise {E:List (Str × Sum)} (h:Rise E) (p:Str):Rise (belowL p E):=by
 rw [below_filter]
 unfold Rise
 rw [List.pairwise_map]
 refine List.Pairwise.imp_of_mem ?_ (List.Pairwise.filter _ h)
 intro a b ha hb hab
 have h1:=(List.mem_filter.1 ha).2
 have h2:=(List.mem_filter.1 hb).2
 rw [← app_cut h1,← app_cut h2,less_app] at hab
 exact hab
theorem ks_from {l:List (Str × Sum)} (h:Rise l):ksO (fromO l)=l.map Prod.fst/\xsO (fromO l)=l.map Prod.snd:=by
 unfold ksO xsO
 rw [ents_from h]
 exact ⟨rfl,rfl⟩
def putL (t:Option Tree) (l:List (Str × Sum)):Option Tree:=l.foldl (λt e=>some (putO t e.1 e.2)) t
theorem putL_snoc (t:Option Tree) (l:List (Str × Sum)) (e:Str × Sum):putL t (l ++ [e])=some (putO (putL t l) e.1 e.2):=by
 unfold putL;rw [List.foldl_append];rfl
theorem putL_succ (t:Option Tree) (l:List (Str × Sum)) {i:Nat} (h:i < l.length):putL t (l.take (i+1))=some (putO (putL t (l.take i)) l[i].1 l[i].2):=by
 rw [List.take_succ_eq_append_getElem h,putL_snoc]
theorem putL_from {s:Option Tree} (h:wfO s) (l:List (Str × Sum)):putL s l=fromO (enO s ++ l):=by
 unfold fromO
 rw [List.foldl_append]
 show putL s l=putL (fromO (enO s)) l
 rw [from_ents h]
theorem putL_wf {t:Option Tree} (h:wfO t):∀ l:List (Str × Sum),wfO (putL t l):=by
 intro l
 refine snoc_ind (P:=λl=>wfO (putL t l)) h (λl e ih=>?_) l
 rw [putL_snoc];exact putO_wf ih _ _
theorem putL_many {t:Option Tree} (h:wfO t) (l:List (Str × Sum)):maO (putL t l) ≤ maO t+l.length:=by
 refine snoc_ind (P:=λl=>maO (putL t l) ≤ maO t+l.length) (Nat.le_refl _) (λl e ih=>?_) l
 rw [putL_snoc,putO_many (putL_wf h l),List.length_append]
 split<;>simp<;>omega
theorem putL_get {t:Option Tree} (h:wfO t) (n:Str):∀ (l:List (Str × Sum)),(l.map Prod.fst).Nodup->∀ x,getO (putL t l) n=some x ↔ ((n,x) ∈ l ∨ (n ∉ l.map Prod.fst/\getO t n=some x)):=by
 intro l hd x
 by_cases hm:n ∈ l.map Prod.fst
 ·obtain ⟨e,he,rfl⟩:=List.mem_map.1 hm
  have h1:getO (putL t l) e.1=some e.2:=get_fold_mem l t h hd e.1 e.2 he
  rw [h1]
  constructor
  ·intro g;injection g with g;exact .inl (by rw [← g];exact he)
  ·rintro (g|⟨g,_⟩)
   ·have h2:getO (putL t l) e.1=some x:=get_fold_mem l t h hd e.1 x g
    rw [h1] at h2;exact h2
   ·exact absurd hm g
 ·have h1:getO (putL t l) n=getO t n:=get_fold l t h n hm
  rw [h1]
  constructor
  ·exact λg=>.inr ⟨hm,g⟩
  ·rintro (g|⟨_,g⟩)
   ·exact absurd (List.mem_map.2 ⟨_,g,rfl⟩) hm
   ·exact g
def refDiff (s t:Option Tree) (ks:List Str):List TChg:=ks.flatMap λk=>if getO s k ≠ getO t k then [cOf s t k] else []
theorem refDiff_filter (s t:Option Tree):∀ ks:List Str,refDiff s t ks=(ks.filter λk=>decide (getO s k ≠ getO t k)).map (cOf s t)
 | []=>rfl
 | k :: r=>by
  have ih:=refDiff_filter s t r
  unfold refDiff at ih ⊢
  rw [List.flatMap_cons,ih,List.filter_cons]
  by_cases h:getO s k ≠ getO t k<;>simp [h]
theorem less_ext {a b:List Str} (ha:a.Pairwise λx y=>Op.bytesLess x y=true) (hb:b.Pairwise λx y=>Op.bytesLess x y=true) (h:∀ k,k ∈ a ↔ k ∈ b):a=b:=by
 have key:∀ l:List Str,(l.Pairwise λx y=>Op.bytesLess x y=true)->Rise (l.map λk=>(k,Sum.zero)):=λl hl=>by
  unfold Rise;rw [List.pairwise_map];exact hl
 have h1:=rise_ext (key a ha) (key b hb) λk z=>by
  simp only [List.mem_map,Prod.mk.injEq]
  constructor
  ·rintro ⟨q,hq,rfl,rfl⟩;exact ⟨_,(h _).1 hq,rfl,rfl⟩
  ·rintro ⟨q,hq,rfl,rfl⟩;exact ⟨_,(h _).2 hq,rfl,rfl⟩
 have h2:=congrArg (List.map Prod.fst) h1
 simpa [List.map_map,Function.comp_def] using h2
theorem ks_rise {t:Option Tree} (h:wfO t):(ksO t).Pairwise λx y=>Op.bytesLess x y=true:=by
 have:=entsO_rise h
 unfold Rise at this
 rw [List.pairwise_map];exact this
theorem refDiff_eq {s t:Option Tree} (hs:wfO s) (ht:wfO t):refDiff s t (ksO (putL s (enO t)))=diffL s t:=by
 rw [refDiff_filter,diffL_eq hs ht]
 congr 1
 have hw:=putL_wf hs (enO t)
 refine less_ext (List.Pairwise.filter _ (ks_rise hw)) (dks_rise s t) λk=>?_
 rw [List.mem_filter,mem_dks hs ht,decide_eq_true_iff,mem_keys hw]
 constructor
 ·exact λh=>h.2
 ·intro h
  refine ⟨?_,h⟩
  have hd:((enO t).map Prod.fst).Nodup:=ents_nodup ht
  cases h1:getO t k with
  | some x=>rw [(putL_get hs k (enO t) hd x).2 (.inl ((meO ht k x).2 h1))];rfl
  | none =>
   cases h2:getO s k with
   | none=>rw [h1,h2] at h;exact absurd rfl h
   | some x =>
    rw [(putL_get hs k (enO t) hd x).2 (.inr ⟨λhm=>?_,h2⟩)];rfl
    have:=(mem_keys ht k).1 hm
    rw [h1] at this;cases this
set_option maxHeartbeats 1000000 in
theorem rWithout_spec (y:At2) (N:List Str) (X:List Sum) (hNX:X.length=N.length) (hn:N.length ≤ 10000) (p:Nat) (hp:p < N.length) :
  Does Tryz.prog tb 130 [(rmE y N X).v,intV p] [] (λu=>RM u y N X) (λz:At2=>(rmE z (N.eraseIdx p) (X.eraseIdx p)).v) (λ_=>[])
   (λz=>Late (λ_=>True) (λu=>RM u z (N.eraseIdx p) (X.eraseIdx p))):=by
 have hlim:lim=140737488351232:=rfl
 refine V.Does.enter0 [(0,rmE y N X),(1,intE p)] Tryz.func130 rfl Tryz.ntmps130 rfl rfl 0 ?_
 intro m0 K
 refine RH.pure (λu h=>(⟨h.2.1.cap,h.2.2.cap⟩:N.length ≤ y.1.2/\X.length ≤ y.2.2)) λ⟨hc1,hc2⟩=>?_
 have htn:(N.take p).length=p:=by rw [List.length_take];omega
 have htx:(X.take p).length=p:=by rw [List.length_take];omega
 have hdn:(N.drop (p+1)).length=N.length - (p+1):=List.length_drop
 have hdx:(X.drop (p+1)).length=X.length - (p+1):=List.length_drop
 have hp1:((p:Int)+1).toNat=p+1:=by omega
 have heN:N.take p ++ N.drop (p+1)=N.eraseIdx p:=(List.eraseIdx_eq_take_drop_succ ..).symm
 have heX:X.take p ++ X.drop (p+1)=X.eraseIdx p:=(List.eraseIdx_eq_take_drop_succ ..).symm
 have hlN:(N.eraseIdx p).length ≤ 10000:=by rw [← heN,List.length_append,htn,hdn];omega
 have hlX:(X.eraseIdx p).length ≤ 10000:=by rw [← heX,List.length_append,htx,hdx];omega
 refine RH.a [] ?_
 refine V.RH.reBox (id:=2) [.row 50 (.slice none 0 0),.row 51 (.slice none 0 0)] rfl rfl ⟨⟨rfl,⟨rfl,Tryz.t25,rfl,rfl⟩,rfl,⟨rfl,Tryz.t26,rfl,rfl⟩,trivial⟩,Tryz.t81,rfl,rfl⟩ ?_
 refine RH.nilrow 50 kStr.T kStr.sz 51 ?_
 refine RH.nilrow 51 kSum.T kSum.sz 52 ?_
 refine RH.w [(0,some (.box m0 (rmF y N X) 81)),(2,some (.box (m0+1+1) [.row 50 (.slice none 0 0),.row 51 (.slice none 0 0)] 81))] 15 ?_
 refine RD.b [] rfl rfl (by simp;omega) ?_
 rw [hp1]
 refine RD.apK (nx:=60) (i:=6) (κ:=kStr) (id:=50) (r:=N.take p) (l:=[]) rfl (by kernel_rfl) rfl rfl rfl rfl rfl elt_str rfl (by rw [htn];rfl) (λw hst=>(YtbfjmimiigjenaaGreatDoor.Sl.take hst.fact.2.1 p (by omega)).lies) (by simp;omega) (by simp;omega) (λ_ _=>rfl) (λ_ h=>h) ?_
 intro A1 c1 m1 hm1
 refine RD.a [] ?_
 refine RD.apK (nx:=60) (i:=12) (κ:=kStr) (id:=50) (r:=N.drop (p+1)) (l:=N.take p) (A2:=V.subA y.1.1 (p+1) y.1.2 kStr.sz) (c2:=y.1.2 - (p+1)) rfl (by kernel_rfl) rfl rfl rfl rfl rfl elt_str rfl (by rw [hdn];rfl) (λu hu=>(hu.fact.2.1.drop (p+1) (by omega)).lies) (by rw [htn,hdn];omega) (by rw [htn,hdn];omega) (λ_ _=>rfl) (λ_ h=>h) ?_
 intro A2 c2 m2 hm2
 refine RD.a [] ?_
 refine RD.z 14 ?_
 intro m3 hm3
 rw [heN]
 generalize N.eraseIdx p=N2 at *
 refine RH.a [] ?_
 refine RH.w [(0,some (.box m0 (rmF y N X) 81)),(2,some (.box (m0+1+1) [.row 50 (.slice A2 N2.length c2),.row 51 (.slice none 0 0)] 81))] 15 ?_
 refine RD.b [] rfl rfl (by simp;omega) ?_
 rw [hp1]
 refine RD.apK (nx:=60) (i:=6) (κ:=kSum) (id:=51) (r:=X.take p) (l:=[]) rfl (by kernel_rfl) rfl rfl rfl rfl rfl elt_sum rfl (by rw [htx];rfl) (λw hst=>(YtbfjmimiigjenaaGreatDoor.Sl.take hst.fact.2.2 p (by omega)).lies) (by simp;omega) (by simp;omega) (λ_ _=>rfl) (λ_ h=>h) ?_
 intro A3 c3 m4 hm4
 refine RD.a [] ?_
 refine RD.apK (nx:=60) (i:=12) (κ:=kSum) (id:=51) (r:=X.drop (p+1)) (l:=X.take p) (A2:=V.subA y.2.1 (p+1) y.2.2 kSum.sz) (c2:=y.2.2 - (p+1)) rfl (by kernel_rfl) rfl rfl rfl rfl rfl elt_sum rfl (by rw [hdx];rfl) (λu hu=>(hu.fact.2.2.drop (p+1) (by omega)).lies) (by rw [htx,hdx];omega) (by rw [htx,hdx];omega) (λ_ _=>rfl) (λ_ h=>h) ?_
 intro A4 c4 m5 hm5
 refine RD.a [] ?_
 refine RD.z 14 ?_
 intro m6 hm6
 rw [heX]
 generalize X.eraseIdx p=X2 at *
 refine RH.a [] ?_
 refine RH.free (i:=50) rfl ?_
 refine RH.free (i:=51) rfl ?_
 exact RH.retBox tk (.st [.row 50 (.slice A2 N2.length c2),.row 51 (.slice A4 X2.length c4)]) Tryz.func130 rfl rfl rfl rfl λw hst=>⟨((A2,c2),(A4,c4)),rfl,hst.out [] rfl rfl λu h=>⟨h.1.1.1,λv hv _=>⟨Sl.own (hoL h.1.2 hv) (by omega),Sl.own (hoL h.2 hv) (by omega)⟩⟩⟩
theorem rWithout_t (y:At2) (t:Option Tree) (hw:wfO t) (hm:maO t ≤ 10000) (name:Str) (hg:(getO t name).isSome=true) :
  Does Tryz.prog tb 130 [(rmE y (ksO t) (xsO t)).v,intV (posN (ksO t) name)] [] (λu=>RM u y (ksO t) (xsO t)) (λz:At2=>(rmE z (ksO (dropO t name)) (xsO (dropO t name))).v) (λ_=>[])
   (λz=>Late (λ_=>True) (λu=>RM u z (ksO (dropO t name)) (xsO (dropO t name)))):=by
 have h7:=rWithout_spec y (ksO t) (xsO t) (by rw [ksO_len,xsO_len]) (by rw [ksO_len];exact hm) (posN (ksO t) name) (inN_lt (by rw [in_get hw];exact hg))
 rw [(erase_drop hw hg).1,(erase_drop hw hg).2] at h7
 exact h7
set_option maxHeartbeats 1000000 in
theorem rPut_spec (y:At2) (t:Option Tree) (hw:wfO t) (hm:maO t ≤ 10000) (name:Str) (x:Sum) (hn:name.length ≤ 1000000) :
  Does Tryz.prog tb 59 [(rmE y (ksO t) (xsO t)).v,strV name,sumV x] [] (λu=>RM u y (ksO t) (xsO t)) (λz:At2=>.tuple #[(rmE z (ksO (putR t name x).1) (xsO (putR t name x).1)).v,intV (putR t name x).2]) (λ_=>[])
   (λz=>Late (λ_=>True) (λu=>RM u z (ksO (putR t name x).1) (xsO (putR t name x).1))):=by
 have hlim:lim=140737488351232:=rfl
 have hkl:=ksO_len t
 have hel:=entsO_many t
 refine V.Does.enter0 [(0,rmE y (ksO t) (xsO t)),(1,strE name),(2,sumE x)] Tryz.func59 rfl Tryz.ntmps59 rfl rfl 0 ?_
 intro m0 K
 by_cases h1:60 < name.length
 ·have he:putR t name x=(none,11):=if_pos h1
  rw [he]
  refine RH.adv tk [true] rfl rfl (by simp [h1]<;>omega) ?_
  exact RH.retBoxT tk (rmE kn0 [] []) Tryz.func59 rfl rfl rfl rfl rfl λw' hst=>⟨kn0,rfl,hst.out [] rfl rfl λu h=>⟨h.1,λv _ _=>RM.nil v⟩⟩
 refine RH.adv tk [false] rfl rfl (by simp [h1]<;>omega) ?_
 refine RH.gv (rAtV (ksO t) name) rfl rfl rfl Tryz.call120 (λu hu=>rAt_spec u y (ksO t) (xsO t) hu.fact.2.1 name) ?_
 intro m1 hm1
 have hin:=in_get hw name
 apply RH.joinK (α:=Unit) (λ_=>[(1,strE name),(3,.av (.box 0 m0 0)),(5,.av (.box 1 (m0+1) 0)),(6,.av (.box 2 (m0+1+1) 0)),(29,rmE y (ksO t) (xsO t)),(30,strE name),(31,sumE x)])
  (λ_=>[(0,some (.box m0 (rmF y (ksO t) (xsO t)) 81)),(1,some (.box (m0+1) [.val (sumV x)] 40)),(2,some (.box (m0+1+1) (rmF kn0 [] []) 81))])
  (λ_ u=>(K u/\RM u y (ksO t) (xsO t))/\putR t name x=(some (putO t name x),0))
 ·have he1:putR t name x=if getO t name=none/\600 ≤ maO t then (none,12) else (some (putO t name x),0):=if_neg h1
  cases hg:getO t name with
  | some z =>
   rw [hg] at hin
   have hin:inN (ksO t) name=true:=hin
   rw [hg,if_neg (by simp)] at he1
   refine RH.adv tk [false] rfl rfl (by simp [hin]) ?_
   exact RH.mtS () [] (.head _) rfl rfl rfl λu h=>⟨h,he1⟩
  | none =>
   rw [hg] at hin
   have hin:inN (ksO t) name=false:=hin
   by_cases h6:600 ≤ maO t
   ·rw [hg,if_pos ⟨rfl,h6⟩] at he1
    rw [he1]
    refine RH.adv tk [true,true] rfl rfl (by simp [hin,hel]<;>omega) ?_
    exact RH.retBoxT tk (rmE kn0 [] []) Tryz.func59 rfl rfl rfl rfl rfl λw' hst=>⟨kn0,rfl,hst.out [] rfl rfl λu h=>⟨h.1,λv _ _=>RM.nil v⟩⟩
   ·rw [hg,if_neg (by simp [h6])] at he1
    refine RH.adv tk [true,false] rfl rfl (by simp [hin,hel]<;>omega) ?_
    exact RH.mtS () [] (.head _) rfl rfl rfl λu h=>⟨h,he1⟩
 rintro ⟨⟩ m2
 refine RH.pure (λu hu=>hu.2) λhe=>?_
 refine V.RH.know (λu=>K u/\RM u y (ksO t) (xsO t)) (λu h=>h.1) ?_
 rw [he]
 refine RH.above (id:=0) rfl rfl λhz1 hz2=>?_
 have hC:=rWith_t y t hw hm name x
 generalize some (putO t name x)=t2 at hC ⊢
 refine RH.dd [] 60 (λz:At2=>rmE z (ksO t2) (xsO t2)) rfl rfl rfl Tryz.call121 hC (λu hu=>hu.fact.2) ?_
 intro z m3 hm3
 refine RH.a [] ?_
 exact RH.retBoxT tk (rmE z (ksO t2) (xsO t2)) Tryz.func59 rfl rfl rfl rfl rfl λw' hst=>⟨z,rfl,hst.out [] rfl rfl λu h=>⟨h.1.1,λv hv hp=>h.2.up (by omega) hv hp⟩⟩
theorem rGet_spec (w:World) (y:At2) (t:Option Tree) (hw:wfO t) (h:RM w y (ksO t) (xsO t)) (name:Str) :
  Gives Tryz.prog 61 [(rmE y (ksO t) (xsO t)).v,strV name] w (.av (.val (.tuple #[sumV ((getO t name).getD Sum.zero),intV (if (getO t name).isSome=true then 0 else 6)]))):=by
 have hin:=in_get hw name
 refine enterH tk [(0,rmE y (ksO t) (xsO t)),(1,strE name)] Tryz.func61 rfl Tryz.ntmps61 rfl rfl ?_
 refine RH.a [] ?_
 refine RH.gv (rAtV (ksO t) name) rfl rfl rfl Tryz.call120 (λu hu=>rAt_spec u y (ksO t) (xsO t) (h.ext hu.fact).1 name) ?_
 intro m1 hm1
 cases hb:inN (ksO t) name with
 | true =>
  obtain ⟨h1,h2⟩:=at_get hw hb
  rw [h2]
  have hpx:=h.2.ptr h1
  have hlx:posN (ksO t) name < (xsO t).length:=h1
  refine RH.adv tk [false] rfl rfl (by simp [hb,hpx];simpa using h1) ?_
  refine RH.loadS (sumE (xsO t)[posN (ksO t) name]) rfl rfl rfl rfl (λu hu=>(h.2.ext hu.fact).load h1) ?_
  refine RH.a [] ?_
  exact RH.retBoxT tk (sumE (xsO t)[posN (ksO t) name]) Tryz.func61 rfl rfl rfl rfl rfl λu hu=>⟨rfl,hu.fact⟩
 | false =>
  rw [hb] at hin
  have hg:getO t name=none:=by
   cases hg:getO t name with
   | none=>rfl
   | some z=>rw [hg] at hin;cases hin
  rw [hg]
  refine RH.adv tk [true] rfl rfl (by simp [hb]) ?_
  refine RH.zeroS rfl rfl rfl ?_
  refine RH.a [] ?_
  exact RH.retBoxT tk (sumE Sum.zero) Tryz.func61 rfl rfl rfl rfl rfl λu hu=>⟨rfl,hu.fact⟩
theorem rDrop_spec (y:At2) (t:Option Tree) (hw:wfO t) (hm:maO t ≤ 10000) (name:Str) :
  Does Tryz.prog tb 60 [(rmE y (ksO t) (xsO t)).v,strV name] [] (λu=>RM u y (ksO t) (xsO t)) (λz:At2=>.tuple #[(rmE z (ksO (dropR t name).1) (xsO (dropR t name).1)).v,intV (dropR t name).2]) (λ_=>[])
   (λz=>Late (λ_=>True) (λu=>RM u z (ksO (dropR t name).1) (xsO (dropR t name).1))):=by
 have hin:=in_get hw name
 refine V.Does.enter0 [(0,rmE y (ksO t) (xsO t)),(1,strE name)] Tryz.func60 rfl Tryz.ntmps60 rfl rfl 0 ?_
 intro m0 K
 refine RH.a [] ?_
 refine RH.gv (rAtV (ksO t) name) rfl rfl rfl Tryz.call120 (λu hu=>rAt_spec u y (ksO t) (xsO t) hu.fact.2.1 name) ?_
 intro m1 hm1
 cases hg:(getO t name).isSome with
 | true =>
  rw [hg] at hin
  have he:dropR t name=(dropO t name,0):=if_pos hg
  rw [he]
  refine RH.adv tk [false] rfl rfl (by simp [hin]) ?_
  refine RH.dd [] 60 (λz:At2=>rmE z (ksO (dropO t name)) (xsO (dropO t name))) rfl rfl rfl Tryz.call130 (rWithout_t y t hw hm name hg) (λu hu=>hu.fact.2) ?_
  intro z m3 hm3
  generalize dropO t name=t2 at *
  refine RH.a [] ?_
  exact RH.retBoxT tk (rmE z (ksO t2) (xsO t2)) Tryz.func60 rfl rfl rfl rfl rfl λw' hst=>⟨z,rfl,hst.out [] rfl rfl λu h=>⟨h.1.1,λv hv hp=>h.2.up (by omega) hv hp⟩⟩
 | false =>
  rw [hg] at hin
  have he:dropR t name=(none,6):=if_neg (by rw [hg];decide)
  rw [he]
  refine RH.adv tk [true] rfl rfl (by simp [hin]) ?_
  exact RH.retBoxT tk (rmE kn0 [] []) Tryz.func60 rfl rfl rfl rfl rfl λw' hst=>⟨kn0,rfl,hst.out [] rfl rfl λu h=>⟨h.1,λv _ _=>RM.nil v⟩⟩
theorem rSame_spec (w:World) (y z:At2) (E F:List (Str × Sum)) (h:RM w y (E.map Prod.fst) (E.map Prod.snd)) (h2:RM w z (F.map Prod.fst) (F.map Prod.snd)) :
  Gives Tryz.prog 63 [(rmE y (E.map Prod.fst) (E.map Prod.snd)).v,(rmE z (F.map Prod.fst) (F.map Prod.snd)).v] w (boE (decide (E=F))):=by
 have hlim:lim=140737488351232:=rfl
 have hs1:=h.1.small
 have hs2:=h2.1.small
 rw [List.length_map] at hs1 hs2
 refine enterH tk [(0,rmE y (E.map Prod.fst) (E.map Prod.snd)),(1,rmE z (F.map Prod.fst) (F.map Prod.snd))] Tryz.func63 rfl Tryz.ntmps63 rfl rfl ?_
 by_cases hl:E.length=F.length
 ·refine RH.adv tk [false] rfl rfl (by simp [hl]) ?_
  refine RH.loop (α:=Nat) (λi=>[(2,.av (.box 0 w.heap.size 0)),(3,.av (.box 1 (w.heap.size+1) 0)),(15,intE (E.map Prod.fst).length),(16,intE i)])
   (λ_=>[(0,some (.box w.heap.size (rmF y (E.map Prod.fst) (E.map Prod.snd)) 81)),(1,some (.box (w.heap.size+1) (rmF z (F.map Prod.fst) (F.map Prod.snd)) 81))])
   (λi u=>Ext w u/\i ≤ E.length/\E.take i=F.take i) (λi=>E.length - i) 0 rfl rfl (λu hu=>⟨hu,Nat.zero_le _,rfl⟩) ?_
  intro i m1
  refine RH.pure (λu hu=>hu.2) λ⟨hi,he⟩=>?_
  refine V.RH.know (λu=>Ext w u) (λu h=>h.1) ?_
  by_cases hlt:i < E.length
  ·have hlt2:i < F.length:=by omega
   have n1:i < (E.map Prod.fst).length:=by rw [List.length_map];exact hlt
   have n2:i < (F.map Prod.fst).length:=by rw [List.length_map];exact hlt2
   have n3:i < (E.map Prod.snd).length:=by rw [List.length_map];exact hlt
   have n4:i < (F.map Prod.snd).length:=by rw [List.length_map];exact hlt2
   have p1:=h.1.ptr n1
   have p2:=h2.1.ptr n2
   have p3:=h.2.ptr n3
   have p4:=h2.2.ptr n4
   have ht1:E.take (i+1)=E.take i ++ [E[i]]:=List.take_succ_eq_append_getElem hlt
   have ht2:F.take (i+1)=F.take i ++ [F[i]]:=List.take_succ_eq_append_getElem hlt2
   have g1:(E.map Prod.fst)[i]=(E[i]).1:=by simp
   have g2:(F.map Prod.fst)[i]=(F[i]).1:=by simp
   have g3:(E.map Prod.snd)[i]=(E[i]).2:=by simp
   have g4:(F.map Prod.snd)[i]=(F[i]).2:=by simp
   have hne:E[i] ≠ F[i]->decide (E=F)=false:=λhd=>decide_eq_false λe=>hd (by subst e;rfl)
   refine RH.adv tk [true] rfl rfl (by simp [hlt]) ?_
   refine RH.w [(0,some (.box w.heap.size (rmF y (E.map Prod.fst) (E.map Prod.snd)) 81)),(1,some (.box (w.heap.size+1) (rmF z (F.map Prod.fst) (F.map Prod.snd)) 81))] 24 ?_
   refine RD.b [] rfl rfl (by simp [p1,p2,hlt,hlt2]) ?_
   refine RD.ld 4 (strE (E[i]).1) rfl rfl (λu hu=>by have:=(h.1.ext hu).load n1;rw [g1] at this;exact this) ?_
   refine RD.ld 9 (strE (F[i]).1) rfl rfl (λu hu=>by have:=(h2.1.ext hu).load n2;rw [g2] at this;exact this) ?_
   by_cases hn:(E[i]).1=(F[i]).1
   ·refine RD.b [false] rfl rfl (by simp [hn,p3,p4,hlt,hlt2]) ?_
    refine RD.ld 16 (sumE (E[i]).2) rfl rfl (λu hu=>by have:=(h.2.ext hu).load n3;rw [g3] at this;exact this) ?_
    refine RD.ld 21 (sumE (F[i]).2) rfl rfl (λu hu=>by have:=(h2.2.ext hu).load n4;rw [g4] at this;exact this) ?_
    refine RD.r 22 (boE (!decide ((E[i]).2=(F[i]).2))) rfl rfl (λw' a h hag=>op_neq hag rfl rfl rfl rfl rfl (by kernel_rfl) (eq_sum w' 9998 _ _)) ?_
    refine RD.a [] ?_
    refine RD.e ?_
    by_cases hx:(E[i]).2=(F[i]).2
    ·refine RH.adv tk [false] rfl rfl (by simp [hx]<;>omega) ?_
     exact RH.again (i+1) (.head _) rfl rfl (by omega) λu hu=>⟨hu,hlt,by rw [ht1,ht2,he,Prod.ext hn hx]⟩
    ·refine RH.adv tk [true] rfl rfl (by simp [hx]) ?_
     refine RH.ret1 Tryz.func63 rfl rfl λu hu=>⟨by rw [hne λe=>hx (by rw [e])];rfl,hu.fact⟩
   ·refine RD.b [true] rfl rfl (by simp [hn]) ?_
    refine RD.e ?_
    refine RH.a [] ?_
    refine RH.ret1 Tryz.func63 rfl rfl λu hu=>⟨by rw [hne λe=>hn (by rw [e])];rfl,hu.fact⟩
  ·have hil:i=E.length:=by omega
   have hEF:E=F:=by rw [hil,List.take_length,hl,List.take_length] at he;exact he
   refine RH.a [false] ?_
   refine RH.ret1 Tryz.func63 rfl rfl λu hu=>⟨by rw [decide_eq_true hEF];rfl,hu.fact⟩
 ·refine RH.a [true] ?_
  refine RH.ret1 Tryz.func63 rfl rfl λu hu=>⟨by rw [decide_eq_false λe=>hl (by rw [e])];rfl,hu.fact⟩
theorem some_at {α:Type} {l:List α} {i:Nat} {a:α} (h:l[i]? = some a) (hi:i < l.length):l[i]=a:=by
 rw [List.getElem?_eq_getElem hi] at h
 exact Option.some.inj h
set_option maxHeartbeats 400000 in
theorem rEncode_spec (y:At2) (t:Option Tree) (hw:wfO t) (hl:lowO 1000 t) (hm:maO t ≤ 900) :
  Does Tryz.prog tb 50 [(rmE y (ksO t) (xsO t)).v] [] (λu=>RM u y (ksO t) (xsO t)) (λz:Option Addr × Nat=>.slice z.1 (encL t).length z.2) (λ_=>[])
   (λz=>Late (λ_=>True) (λu=>Sl kBy u z.1 z.2 (encL t))):=by
 have hlim:lim=140737488351232:=rfl
 have hkl:=ksO_len t
 have hxl:=xsO_len t
 have hel:=entsO_many t
 have henc:encL t=twoL (maO t) ++ (enO t).flatMap entB:=rfl
 have hlo:∀ e ∈ enO t,e.1.length ≤ 1000:=λe he=>hl e.1 e.2 ((meO hw e.1 e.2).1 he)
 refine V.Does.enter0 [(0,rmE y (ksO t) (xsO t))] Tryz.func50 rfl Tryz.ntmps50 rfl rfl 0 ?_
 intro m0 K
 refine RH.a [] ?_
 rw [hkl]
 have e1:((maO t:Int) / 256 % 256)=((UInt8.ofNat (maO t / 256)).toNat:Int):=by rw [UInt8.toNat_ofNat'];omega
 have e2:((maO t:Int) % 256 % 256)=((UInt8.ofNat (maO t)).toNat:Int):=by rw [UInt8.toNat_ofNat'];omega
 rw [e1,e2]
 have hks:∀ i (h:i < (enO t).length),(ksO t)[i]? = some ((enO t)[i]).1:=λi h=>by rw [List.getElem?_map,List.getElem?_eq_getElem h];rfl
 have hxs:∀ i (h:i < (enO t).length),(xsO t)[i]? = some ((enO t)[i]).2:=λi h=>by rw [List.getElem?_map,List.getElem?_eq_getElem h];rfl
 rw [henc]
 generalize hKS:ksO t=KS at *
 generalize hXS:xsO t=XS at *
 generalize hE:enO t=E at *
 generalize hN:maO t=n at *
 refine RH.loop (α:=Nat × (Option Addr × Nat)) (λq=>[(1,.av (.box 0 m0 0)),(3,rowS 1 q.2.1 (twoL n ++ (E.take q.1).flatMap entB).length q.2.2),(18,slE y.1.1 n y.1.2),(19,intE n),(20,intE q.1)])
  (λq=>[(0,some (.box m0 (rmF y KS XS) 81)),(1,rowE kBy q.2.1 q.2.2 (twoL n ++ (E.take q.1).flatMap entB))])
  (λq u=>(K u/\RM u y KS XS)/\q.1 ≤ E.length) (λq=>E.length - q.1) (0,(some ⟨m0+1,0,none⟩,2)) rfl rfl (λu h=>⟨h,Nat.zero_le _⟩) ?_
 rintro ⟨i,A1,c1⟩ m1
 refine RH.pure (λu h=>h.2) λhi=>?_
 refine V.RH.know (λu=>K u/\RM u y KS XS) (λu h=>h.1) ?_
 dsimp only at hi ⊢
 have hpl:=encB_len (E.take i) λe he=>hlo e (List.mem_of_mem_take he)
 rw [List.length_take] at hpl
 by_cases hlt:i < E.length
 ·have hltn:i < KS.length:=by omega
  have hltx:i < XS.length:=by omega
  have hts:E.take (i+1)=E.take i ++ [E[i]]:=List.take_succ_eq_append_getElem hlt
  have hn60:=hlo _ (List.getElem_mem hlt)
  have hnm:=some_at (hks i hlt) hltn
  have hxx:=some_at (hxs i hlt) hltx
  have hx32:=(E[i]).2.h
  have hlin:i < n:=by omega
  refine RH.pure (λu h=>(⟨h.2.1.ptr hltn,h.2.2.ptr hltx⟩:Ptr y.1.1/\Ptr y.2.1)) λ⟨pA,pB⟩=>?_
  have htw:(twoL n).length=2:=rfl
  have hL4l:(twoL n ++ (E.take i).flatMap entB).length ≤ 932000:=by rw [List.length_append,htw];omega
  have hnx:twoL n ++ (E.take (i+1)).flatMap entB=(twoL n ++ (E.take i).flatMap entB) ++ [UInt8.ofNat (E[i]).1.length] ++ (E[i]).1 ++ (E[i]).2.l:=by rw [hts,List.flatMap_append,List.flatMap_cons,List.flatMap_nil];simp [entB]
  generalize hL4:twoL n ++ (E.take i).flatMap entB=L4 at *
  refine RH.adv tk [true] rfl rfl (by simp [pA,hltn,hlin]) ?_
  refine RH.load (strE (E[i]).1) rfl rfl rfl rfl (λu hu=>by have:=hu.2.1.load hltn;rw [hnm] at this;exact this) ?_
  generalize (E[i]).1=nam at *
  refine RH.a [] ?_
  rw [u8_of]
  refine RH.apK (κ:=kBy) (id:=1) (l:=L4) (r:=[UInt8.ofNat nam.length]) rfl rfl rfl rfl rfl rfl elt_byte rfl rfl (λu hu=>hu.liR (κ:=kBy) (l:=[UInt8.ofNat nam.length]) (id:=2) rfl (by simp [hlim])) (by simp;omega) (by simp;omega) ?_
  intro A2 c2 m2 hm2
  refine RH.a [] ?_
  refine RH.go rfl rfl (OpGo.appendStr (id:=1) (l:=L4 ++ [UInt8.ofNat nam.length]) (t:=nam) rfl rfl rfl rfl (by simp) (by simp;omega)) 3 ?_
  rintro ⟨A3,c3⟩ m3 hm3
  refine RH.adv tk [] rfl rfl (by simp [pB,hltx]) ?_
  refine RH.read (.av (.val (.slice (some ⟨blkA y.2.1,offA y.2.1+i*32,none⟩) 32 32))) rfl rfl rfl rfl (λu q _ ha=>?_) ?_
  ·have e1:q.eval (.tmp 37) = .pointer (some ⟨blkA y.2.1,offA y.2.1+i*32,none⟩):=ev_run (e:=.av (.val (.pointer (some ⟨blkA y.2.1,offA y.2.1+i*32,none⟩)))) ha rfl
   simp only [execOp,e1,Option.map_none,slice_all,Sem.run_bind,Result.andThen_ok,Sem.run_pure]
   rfl
  refine RH.apK (κ:=kBy) (id:=1) (l:=L4 ++ [UInt8.ofNat nam.length] ++ nam) (r:=(E[i]).2.l) rfl rfl rfl rfl rfl rfl elt_byte rfl (by rw [hx32];rfl) (λu hu=>by have:=(sl_sum (hu.fact.2.2.sumAt hltx)).lies;rw [hxx] at this;exact this) (by simp [hx32];omega) (by simp [hx32];omega) ?_
  intro A4 c4 m4 hm4
  rw [← hnx]
  refine RH.a [] ?_
  exact RH.again (i+1,(A4,c4)) (.head _) rfl rfl (by show E.length - (i+1) < E.length - i;omega) λu h=>⟨h,hlt⟩
 ·have hn:i=E.length:=by omega
  rw [hn,List.take_length]
  rw [hn,Nat.min_self,List.take_length] at hpl
  have hsm:(twoL n ++ E.flatMap entB).length ≤ 1000000:=by rw [List.length_append];show 2+_ ≤ _;omega
  generalize twoL n ++ E.flatMap entB=L5 at *
  refine RH.a [false] ?_
  refine RH.free (i:=1) rfl ?_
  refine RH.ret1 Tryz.func50 rfl rfl λw hst=>⟨(A1,c1),rfl,hst.out [] rfl rfl λu h=>⟨h.1.1,λv hv _=>Sl.own (hoL h.2 hv) (by omega)⟩⟩
set_option maxHeartbeats 1000000 in
theorem rBelow_spec (y:At2) (t:Option Tree) (hw:wfO t) (hm:maO t ≤ 10000) (beg:Str) :
  Does Tryz.prog tb 64 [(rmE y (ksO t) (xsO t)).v,strV beg] [] (λu=>RM u y (ksO t) (xsO t))
   (λz:At2=>.tuple #[(rmE z (ksO (fromO (belowL beg (enO t)))) (xsO (fromO (belowL beg (enO t))))).v,intV (if belowL beg (enO t)=[] then 6 else 0)]) (λ_=>[])
   (λz=>Late (λ_=>True) (λu=>RM u z (ksO (fromO (belowL beg (enO t)))) (xsO (fromO (belowL beg (enO t)))))):=by
 have hlim:lim=140737488351232:=rfl
 have hel:=entsO_many t
 have hks:∀ i (h:i < (enO t).length),(ksO t)[i]? = some ((enO t)[i]).1:=λi h=>by rw [List.getElem?_map,List.getElem?_eq_getElem h];rfl
 have hxs:∀ i (h:i < (enO t).length),(xsO t)[i]? = some ((enO t)[i]).2:=λi h=>by rw [List.getElem?_map,List.getElem?_eq_getElem h];rfl
 have hf:=ks_from (below_rise (entsO_rise hw) beg)
 rw [hf.1,hf.2]
 clear hf
 have hkl:(ksO t).length=(enO t).length:=List.length_map _
 have hxl:(xsO t).length=(enO t).length:=List.length_map _
 generalize hKS:ksO t=KS at *
 generalize hXS:xsO t=XS at *
 generalize hE:enO t=E at *
 refine V.Does.enter0 [(0,rmE y KS XS),(1,strE beg)] Tryz.func64 rfl Tryz.ntmps64 rfl rfl 0 ?_
 intro m0 K
 refine RH.a [] ?_
 refine V.RH.reBox (id:=2) [.row 50 (.slice none 0 0),.row 51 (.slice none 0 0)] rfl rfl ⟨⟨rfl,⟨rfl,Tryz.t25,rfl,rfl⟩,rfl,⟨rfl,Tryz.t26,rfl,rfl⟩,trivial⟩,Tryz.t81,rfl,rfl⟩ ?_
 refine RH.nilrow 50 kStr.T kStr.sz 51 ?_
 refine RH.nilrow 51 kSum.T kSum.sz 52 ?_
 refine RH.loop (α:=Nat × List (Str × Sum) × At2) (λq=>[(1,strE beg),(2,.av (.box 0 m0 0)),(4,.av (.box 1 (m0+1) 0)),(6,.av (.box 2 (m0+1+1) 0)),(10,slE y.1.1 KS.length y.1.2),(11,intE KS.length),(12,intE q.1)])
  (λq=>[(0,some (.box m0 (rmF y KS XS) 81)),(1,some (.box (m0+1) (rmF kn0 [] []) 81)),(2,some (.box (m0+1+1) [.row 50 (.slice q.2.2.1.1 (q.2.1.map Prod.fst).length q.2.2.1.2),.row 51 (.slice q.2.2.2.1 (q.2.1.map Prod.snd).length q.2.2.2.2)] 81)),(50,rowE kStr q.2.2.1.1 q.2.2.1.2 (q.2.1.map Prod.fst)),(51,rowE kSum q.2.2.2.1 q.2.2.2.2 (q.2.1.map Prod.snd))])
  (λq u=>(K u/\RM u y KS XS)/\q.1 ≤ E.length/\q.2.1=belowL beg (E.take q.1)) (λq=>E.length - q.1) (0,[],kn0) rfl rfl (λu h=>⟨h,Nat.zero_le _,rfl⟩) ?_
 rintro ⟨i,L,⟨⟨A7,c7⟩,⟨A8,c8⟩⟩⟩ m1
 refine RH.pure (λu h=>h.2) λ⟨hi,hL⟩=>?_
 refine V.RH.know (λu=>K u/\RM u y KS XS) (λu h=>h.1) ?_
 dsimp only at hi hL ⊢
 have hLl:L.length ≤ 10000:=by
  have:=below_len beg (E.take i)
  rw [← hL,List.length_take] at this
  omega
 by_cases hlt:i < E.length
 ·have hltn:i < KS.length:=by omega
  have hltx:i < XS.length:=by omega
  have hts:E.take (i+1)=E.take i ++ [E[i]]:=List.take_succ_eq_append_getElem hlt
  have hnm:=some_at (hks i hlt) hltn
  have hxx:=some_at (hxs i hlt) hltx
  have hbs:belowL beg (E.take (i+1))=L ++ below1 beg E[i]:=by rw [hts,hL];unfold belowL;rw [List.flatMap_append];simp
  refine RH.pure (λu h=>(⟨h.2.1.ptr hltn,h.2.2.ptr hltx⟩:Ptr y.1.1/\Ptr y.2.1)) λ⟨pA,pB⟩=>?_
  refine RH.adv tk [true] rfl rfl (by simp [pA,hltn]) ?_
  refine RH.load (strE (E[i]).1) rfl rfl rfl rfl (λu hu=>by have:=hu.2.1.load hltn;rw [hnm] at this;exact this) ?_
  obtain ⟨⟨nam,xv⟩,hei⟩:∃ e:Str × Sum,E[i]=e:=⟨_,rfl⟩
  rw [hei] at hbs hxx ⊢
  dsimp only at hxx ⊢
  refine RH.a [] ?_
  refine RH.gv (boE (hasPre nam beg)) rfl rfl rfl Tryz.call112 (λu _=>begins_spec u nam beg) ?_
  intro m2 hm2
  by_cases hp:hasPre nam beg=true
  ·have hbl:beg.length ≤ nam.length:=by rw [← app_cut hp,List.length_append];omega
   have hcut:nam.drop beg.length=cutS nam beg:=by unfold cutS;rw [if_pos hp]
   have hb1:below1 beg (nam,xv)=[(cutS nam beg,xv)]:=if_pos hp
   rw [hb1] at hbs
   refine RH.adv tk [true] rfl rfl (by simp [hp]) ?_
   apply RH.joinK (α:=At2) (λz=>[(1,strE beg),(2,.av (.box 0 m0 0)),(4,.av (.box 1 (m0+1) 0)),(6,.av (.box 2 (m0+1+1) 0)),(10,slE y.1.1 KS.length y.1.2),(11,intE KS.length),(12,intE i)])
    (λz=>[(0,some (.box m0 (rmF y KS XS) 81)),(1,some (.box (m0+1) (rmF kn0 [] []) 81)),(2,some (.box (m0+1+1) [.row 50 (.slice z.1.1 (L.map Prod.fst ++ [cutS nam beg]).length z.1.2),.row 51 (.slice z.2.1 (L.map Prod.snd ++ [xv]).length z.2.2)] 81)),(50,rowE kStr z.1.1 z.1.2 (L.map Prod.fst ++ [cutS nam beg])),(51,rowE kSum z.2.1 z.2.2 (L.map Prod.snd ++ [xv]))])
    (λ_ u=>K u/\RM u y KS XS)
   ·refine RH.w [(0,some (.box m0 (rmF y KS XS) 81)),(2,some (.box (m0+1+1) [.row 50 (.slice A7 (L.map Prod.fst).length c7),.row 51 (.slice A8 (L.map Prod.snd).length c8)] 81))] 21 ?_
    refine RD.b [] rfl rfl (by simp [pB,hltx,hbl]) ?_
    rw [show Int.toNat (beg.length:Int)=beg.length from Int.toNat_natCast _,hcut]
    refine RD.ld 14 (sumE xv) rfl rfl (λu hu=>by have:=hu.2.2.load hltx;rw [hxx] at this;exact this) ?_
    refine RD.a [] ?_
    refine RD.two (i:=6) (j:=15) (by kernel_rfl) ?_ ?_
    ·refine V.opS 80 6 ?_
     refine RD.a [] ?_
     refine RD.two (i:=7) (j:=15) (by kernel_rfl) ?_ ?_
     ·refine opD_appendK (nx:=81) (i:=7) (κ:=kStr) (id:=50) (r:=[cutS nam beg]) (l:=L.map Prod.fst) rfl rfl rfl rfl rfl rfl elt_str rfl rfl (λw hst=>hst.liR (id:=80) (κ:=kStr) (l:=[cutS nam beg]) rfl (by simp [hlim])) (by simp;omega) (by simp;omega) (λ_ _=>rfl) (λ_ h=>h) ?_
      intro A1 c1 mv1 hmv1
      refine RD.a [] ?_
      refine RD.s 81 15 ?_
      refine RD.a [] ?_
      refine RD.apK (nx:=82) (i:=16) (κ:=kSum) (id:=51) (r:=[xv]) (l:=L.map Prod.snd) rfl (by kernel_rfl) rfl rfl rfl rfl rfl elt_sum rfl rfl (λw hst=>hst.liR (id:=81) (κ:=kSum) (l:=[xv]) rfl (by simp [hlim])) (by simp;omega) (by simp;omega) (λ_ _=>rfl) (λ_ h=>h) ?_
      intro A2 c2 mv2 hmv2
      refine RD.a [] ?_
      refine RunL.d ?_
      refine RunL.step tk (i:=18) rfl (by kernel_rfl) rfl (by kernel_rfl) rfl rfl ?_ (Nat.le_refl _) rfl ?_
      ·first|trivial|(simp;done)
      intro mw0 hmw0
      refine RunL.step tk (i:=19) rfl (by kernel_rfl) rfl (by kernel_rfl) rfl rfl ?_ (Nat.le_refl _) ⟨rfl,rfl⟩ ?_
      ·first|trivial|(simp;done)
      intro mw1 hmw1
      refine RunL.step tk (i:=20) rfl (by kernel_rfl) rfl (by kernel_rfl) rfl rfl ?_ (Nat.le_refl _) rfl ?_
      ·first|trivial|(simp;done)
      intro mw2 hmw2
      refine RunL.done (by kernel_rfl) ?_
      exact RH.mtS ((A1,c1),(A2,c2)) [] (.head _) rfl rfl rfl λu h=>h
     ·refine V.opS 81 15 ?_
      refine RD.a [] ?_
      refine RD.apK (nx:=82) (i:=7) (κ:=kStr) (id:=50) (r:=[cutS nam beg]) (l:=L.map Prod.fst) rfl (by kernel_rfl) rfl rfl rfl rfl rfl elt_str rfl rfl (λw hst=>hst.liR (id:=80) (κ:=kStr) (l:=[cutS nam beg]) rfl (by simp [hlim])) (by simp;omega) (by simp;omega) (λ_ _=>rfl) (λ_ h=>h) ?_
      intro A1 c1 mv1 hmv1
      refine RD.a [] ?_
      refine RD.apK (nx:=82) (i:=16) (κ:=kSum) (id:=51) (r:=[xv]) (l:=L.map Prod.snd) rfl (by kernel_rfl) rfl rfl rfl rfl rfl elt_sum rfl rfl (λw hst=>hst.liR (id:=81) (κ:=kSum) (l:=[xv]) rfl (by simp [hlim])) (by simp;omega) (by simp;omega) (λ_ _=>rfl) (λ_ h=>h) ?_
      intro A2 c2 mv2 hmv2
      refine RD.a [] ?_
      refine RunL.d ?_
      refine RunL.step tk (i:=18) rfl (by kernel_rfl) rfl (by kernel_rfl) rfl rfl ?_ (Nat.le_refl _) rfl ?_
      ·first|trivial|(simp;done)
      intro mw0 hmw0
      refine RunL.step tk (i:=19) rfl (by kernel_rfl) rfl (by kernel_rfl) rfl rfl ?_ (Nat.le_refl _) ⟨rfl,rfl⟩ ?_
      ·first|trivial|(simp;done)
      intro mw1 hmw1
      refine RunL.step tk (i:=20) rfl (by kernel_rfl) rfl (by kernel_rfl) rfl rfl ?_ (Nat.le_refl _) rfl ?_
      ·first|trivial|(simp;done)
      intro mw2 hmw2
      refine RunL.done (by kernel_rfl) ?_
      exact RH.mtS ((A1,c1),(A2,c2)) [] (.head _) rfl rfl rfl λu h=>h
    ·refine V.opS 80 15 ?_
     refine RD.a [] ?_
     refine RD.s 81 6 ?_
     refine RD.a [] ?_
     refine RD.apK (nx:=82) (i:=7) (κ:=kStr) (id:=50) (r:=[cutS nam beg]) (l:=L.map Prod.fst) rfl (by kernel_rfl) rfl rfl rfl rfl rfl elt_str rfl rfl (λw hst=>hst.liR (id:=81) (κ:=kStr) (l:=[cutS nam beg]) rfl (by simp [hlim])) (by simp;omega) (by simp;omega) (λ_ _=>rfl) (λ_ h=>h) ?_
     intro A1 c1 mv1 hmv1
     refine RD.a [] ?_
     refine RD.apK (nx:=82) (i:=16) (κ:=kSum) (id:=51) (r:=[xv]) (l:=L.map Prod.snd) rfl (by kernel_rfl) rfl rfl rfl rfl rfl elt_sum rfl rfl (λw hst=>hst.liR (id:=80) (κ:=kSum) (l:=[xv]) rfl (by simp [hlim])) (by simp;omega) (by simp;omega) (λ_ _=>rfl) (λ_ h=>h) ?_
     intro A2 c2 mv2 hmv2
     refine RD.a [] ?_
     refine RunL.d ?_
     refine RunL.step tk (i:=18) rfl (by kernel_rfl) rfl (by kernel_rfl) rfl rfl ?_ (Nat.le_refl _) rfl ?_
     ·first|trivial|(simp;done)
     intro mw0 hmw0
     refine RunL.step tk (i:=19) rfl (by kernel_rfl) rfl (by kernel_rfl) rfl rfl ?_ (Nat.le_refl _) ⟨rfl,rfl⟩ ?_
     ·first|trivial|(simp;done)
     intro mw1 hmw1
     refine RunL.step tk (i:=20) rfl (by kernel_rfl) rfl (by kernel_rfl) rfl rfl ?_ (Nat.le_refl _) rfl ?_
     ·first|trivial|(simp;done)
     intro mw2 hmw2
     refine RunL.done (by kernel_rfl) ?_
     exact RH.mtS ((A1,c1),(A2,c2)) [] (.head _) rfl rfl rfl λu h=>h
   rintro ⟨⟨A1,c1⟩,⟨A2,c2⟩⟩ m3
   dsimp only
   have g1:L.map Prod.fst ++ [cutS nam beg]=(L ++ [(cutS nam beg,xv)]).map Prod.fst:=by simp
   have g2:L.map Prod.snd ++ [xv]=(L ++ [(cutS nam beg,xv)]).map Prod.snd:=by simp
   rw [g1,g2]
   refine RH.a [] ?_
   exact RH.again (i+1,L ++ [(cutS nam beg,xv)],((A1,c1),(A2,c2))) (.head _) rfl rfl (by show E.length - (i+1) < E.length - i;omega) λu h=>⟨h,hlt,hbs.symm⟩
  ·have hb1:below1 beg (nam,xv)=[]:=if_neg hp
   rw [hb1,List.append_nil] at hbs
   refine RH.adv tk [false] rfl rfl (by simp [hp]<;>omega) ?_
   exact RH.again (i+1,L,((A7,c7),(A8,c8))) (.head _) rfl rfl (by show E.length - (i+1) < E.length - i;omega) λu h=>⟨h,hlt,hbs.symm⟩
 ·have hn:i=E.length:=by omega
  rw [hn,List.take_length] at hL
  rw [← hL]
  by_cases h0:L=[]
  ·subst h0
   refine RH.a [false,true] ?_
   exact RH.retBoxT tk (rmE kn0 [] []) Tryz.func64 rfl rfl rfl rfl rfl λw' hst=>⟨kn0,rfl,hst.out [] rfl rfl λu h=>⟨h.1,λv _ _=>RM.nil v⟩⟩
  ·have h1:L.length ≠ 0:=λe=>h0 (List.length_eq_zero_iff.1 e)
   rw [if_neg h0]
   refine RH.adv tk [false,false] rfl rfl (by simp [h1]<;>omega) ?_
   refine RH.free (i:=50) rfl ?_
   refine RH.free (i:=51) rfl ?_
   exact RH.retBoxT tk (.st [.row 50 (.slice A7 (L.map Prod.fst).length c7),.row 51 (.slice A8 (L.map Prod.snd).length c8)]) Tryz.func64 rfl rfl rfl rfl rfl λw' hst=>⟨((A7,c7),(A8,c8)),rfl,hst.out [] rfl rfl λu h=>⟨h.1.1.1,λv hv _=>⟨Sl.own (hoL h.1.2 hv) (by rw [List.length_map];omega),Sl.own (hoL h.2 hv) (by rw [List.length_map];omega)⟩⟩⟩
end Go.Proofs.YtbfjmimiigjenaaGreatDoor
