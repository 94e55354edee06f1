/-
Lemmas. No condition.
-/
import Derived.Test.YtbfjmimiigjenaaGreatDoorKQ44
import Derived.Test.YtbfjmimiigjenaaGreatDoorKVZ2
set_option maxRecDepth 10000
set_option linter.unusedVariables false
set_option linter.unusedSectionVars false
set_option linter.unusedSimpArgs false
namespace Go.Proofs.YtbfjmimiigjenaaGreatDoor
open Go V RowKit
theorem begins_spec (w:World) (s p:Str):Gives Tryz.prog 112 [strV s,strV p] w (boE (hasPre s p)):=by
 refine enterH tk [(0,strE s),(1,strE p)] Tryz.func112 rfl Tryz.ntmps112 rfl rfl ?_
 by_cases h:p.length ≤ s.length
 ·refine RH.adv tk [true] rfl rfl (by simp [h]<;>omega) ?_
  refine RH.ret1 Tryz.func112 rfl rfl λw' hst=>⟨by simp [hasPre,h,EV.v,AV.v],hst.fact⟩
 ·refine RH.adv tk [false] rfl rfl (by simp [h]<;>omega) ?_
  refine RH.ret1 Tryz.func112 rfl rfl λw' hst=>⟨by simp [hasPre,h,EV.v,AV.v],hst.fact⟩
theorem indexB_spec (w:World) (A:Option Addr) (c:Nat) (l:List UInt8) (h:Sl kBy w A c l) (x:UInt8):Gives Tryz.prog 113 [.slice A l.length c,u8V x] w (intE (idxOf (λy=>decide (x=y)) l 0)):=by
 have hl:lim=140737488351232:=rfl
 have hsm:=h.small
 refine enterH tk [(0,slE A l.length c),(1,byE x)] Tryz.func113 rfl Tryz.ntmps113 rfl rfl ?_
 refine RH.a [] ?_
 refine RH.loop (α:=Nat) (λi=>[(0,slE A l.length c),(1,byE x),(7,slE A l.length c),(8,intE l.length),(9,intE i)]) (λ_=>[]) (λi w'=>Ext w w'/\i ≤ l.length/\(l.take i).any (λy=>decide (x=y))=false) (λi=>l.length - i) 0
  rfl rfl (λw' h=>⟨h,Nat.zero_le _,rfl⟩) ?_
 intro i m
 refine RH.pure (λw' h=>h.2) λ⟨hi,hpre⟩=>?_
 by_cases hlt:i < l.length
 ·have hts:l.take (i+1)=l.take i ++ [l[i]]:=List.take_succ_eq_append_getElem hlt
  refine RH.adv tk [true] rfl rfl (by simp [h.ptr hlt]<;>omega) ?_
  refine RH.load (byE l[i]) rfl rfl rfl rfl (λw' h'=>(h.ext h'.1).load hlt) ?_
  by_cases hp:x=l[i]
  ·refine RH.adv tk [true] rfl rfl (by simp [hp]<;>omega) ?_
   refine RH.ret1 Tryz.func113 rfl rfl λw' hst=>⟨?_,hst.fact.1⟩
   rw [idxOf_at _ l 0 i hlt hpre (by simpa using hp),Nat.zero_add]
  ·have hp2:¬ l[i].toNat=x.toNat:=λe=>hp (UInt8.toNat_inj.1 e.symm)
   refine RH.adv tk [false] rfl rfl (by simp [hp2]<;>omega) ?_
   refine RH.again (i+1) (.head _) rfl rfl (by omega) λw' h=>⟨h.1,by omega,?_⟩
   rw [hts,List.any_append,hpre];simp [hp]
 ·rw [List.take_of_length_le (by omega)] at hpre
  refine RH.a [false] ?_
  refine RH.ret1 Tryz.func113 rfl rfl λw' hst=>⟨?_,hst.fact.1⟩
  rw [idxOf_none _ l 0 hpre]
set_option maxHeartbeats 400000 in
theorem rBytes_spec (s:Stp) (hst:s.stem.length ≤ 1000) (hbl:s.bytes.length ≤ 1000) (hno:s.bytes.length=s.nodes.length) :
  Does Tryz.prog tb 111 [(EV.st (stpF s)).v] [] (λu=>s.ok u) (λy:Option Addr × Nat=>.slice y.1 s.bs.length y.2) (λ_=>[]) (λy=>Late (λ_=>True) (λu=>Sl kBy u y.1 y.2 s.bs)):=by
 have hlim:lim=140737488351232:=rfl
 refine V.Does.enter0 [(0,.st (stpF s))] Tryz.func111 rfl Tryz.ntmps111 rfl rfl 0 ?_
 intro m0 K
 refine RH.a [] ?_
 rw [u8_of]
 have e1:((s.bytes.length:Int) / 256 % 256)=((UInt8.ofNat (s.bytes.length / 256)).toNat:Int):=by rw [UInt8.toNat_ofNat'];omega
 have e2:((s.bytes.length:Int) % 256 % 256)=((UInt8.ofNat s.bytes.length).toNat:Int):=by rw [UInt8.toNat_ofNat'];omega
 have hsh:=s.sum.h
 have hbs:s.bs=([UInt8.ofNat s.stem.length] ++ s.stem ++ vB (if s.has=true then some s.sum else none)) ++ [UInt8.ofNat (s.bytes.length / 256),UInt8.ofNat s.bytes.length] ++ pairB s.bytes s.nodes:=by unfold Stp.bs stepB;rfl
 refine RH.go rfl rfl (OpGo.appendStr (id:=1) (l:=[UInt8.ofNat s.stem.length]) (t:=s.stem) rfl rfl rfl rfl (by simp) (by simp;omega)) 2 ?_
 rintro ⟨A1,c1⟩ m1 hm1
 have hvl:(vB (if s.has=true then some s.sum else none)).length ≤ 33:=by split<;>simp [vB,hsh]
 apply RH.joinK (α:=Option Addr × Nat) (λy=>[(1,.av (.box 0 m0 0)),(3,rowS 1 y.1 ([UInt8.ofNat s.stem.length] ++ s.stem ++ vB (if s.has=true then some s.sum else none)).length y.2)])
  (λy=>[(0,some (.box m0 (stpF s) 66)),(1,rowE kBy y.1 y.2 ([UInt8.ofNat s.stem.length] ++ s.stem ++ vB (if s.has=true then some s.sum else none)))]) (λ_ u=>K u/\s.ok u)
 ·by_cases hh:s.has=true
  ·rw [if_pos hh]
   refine RH.adv tk [true] rfl rfl (by simp [hh]<;>omega) ?_
   refine RH.w [] 7 ?_
   refine RD.a [] ?_
   refine RD.r 4 (.av (.val (.slice (some ⟨m0,2,none⟩) 32 32))) rfl rfl (λu q _ ha=>?_) ?_
   ·have e1:q.eval (.tmp 19) = .pointer (some ⟨m0,2,none⟩):=ev_run (e:=.av (.box 0 m0 2)) ha rfl
    simp only [execOp,e1,Option.map_none,slice_all,Sem.run_bind,Result.andThen_ok,Sem.run_pure]
    rfl
   refine RD.s 5 1 ?_
   refine RD.a [] ?_
   refine RD.apK (nx:=6) (i:=2) (κ:=kBy) (id:=1) (r:=[1]) (l:=[UInt8.ofNat s.stem.length] ++ s.stem) rfl (by kernel_rfl) rfl rfl rfl rfl rfl elt_byte rfl rfl (λw hst=>hst.liR (id:=5) (κ:=kBy) (l:=[(1:UInt8)]) rfl (by simp [hlim])) (by simp;omega) (by simp;omega) (λ_ _=>rfl) (λ_ h=>h) ?_
   intro A3 c3 m3 hm3
   refine RD.a [] ?_
   refine RD.apK (nx:=7) (i:=5) (κ:=kBy) (id:=1) (r:=s.sum.l) (l:=[UInt8.ofNat s.stem.length] ++ s.stem ++ [1]) rfl (by kernel_rfl) rfl rfl rfl rfl rfl elt_byte rfl (by rw [hsh];rfl) (λw hst=>(sl_sum (range_take (n:=32) (hst.holds 0 _ rfl).2.1 (stp_mid s))).lies) (by simp [hsh];omega) (by simp [hsh];omega) (λ_ _=>rfl) (λ_ h=>h) ?_
   intro A4 c4 m4 hm4
   refine RD.a [] ?_
   refine RD.e ?_
   exact RH.mtS (A4,c4) [] (.head _) (by rw [show [UInt8.ofNat s.stem.length] ++ s.stem ++ [1] ++ s.sum.l=[UInt8.ofNat s.stem.length] ++ s.stem ++ vB (some s.sum) by simp [vB]];rfl) (by rw [show [UInt8.ofNat s.stem.length] ++ s.stem ++ [1] ++ s.sum.l=[UInt8.ofNat s.stem.length] ++ s.stem ++ vB (some s.sum) by simp [vB]];rfl) rfl λu h=>h
  ·rw [if_neg hh]
   refine RH.adv tk [false] rfl rfl (by simp [hh]<;>omega) ?_
   refine RH.apK (κ:=kBy) (id:=1) (l:=[UInt8.ofNat s.stem.length] ++ s.stem) (r:=[0]) rfl rfl rfl rfl rfl rfl elt_byte rfl rfl (λu hu=>hu.liR (κ:=kBy) (l:=[(0:UInt8)]) (id:=2) rfl (by simp [hlim])) (by simp;omega) (by simp;omega) ?_
   intro A4 c4 m4 hm4
   refine V.RH.advN 2 tk [] rfl rfl trivial ?_
   exact RH.mtS (A4,c4) [] (.head _) rfl rfl rfl λu h=>h
 rintro ⟨A2,c2⟩ m2
 dsimp only
 generalize hL2:[UInt8.ofNat s.stem.length] ++ s.stem ++ vB (if s.has=true then some s.sum else none)=L2 at *
 have hl2:L2.length ≤ 1034:=by rw [← hL2];simp;omega
 refine RH.toNx 10 ?_
 refine RH.adv tk [] rfl rfl (by simp;omega) ?_
 rw [e1,e2]
 refine RH.apK (κ:=kBy) (id:=1) (l:=L2) (r:=[UInt8.ofNat (s.bytes.length / 256),UInt8.ofNat s.bytes.length]) rfl rfl rfl rfl rfl rfl elt_byte rfl rfl (λu hu=>hu.liR (κ:=kBy) (l:=[UInt8.ofNat (s.bytes.length / 256),UInt8.ofNat s.bytes.length]) (id:=10) rfl (by simp [hlim])) (by simp;omega) (by simp;omega) ?_
 intro A5 c5 m5 hm5
 refine RH.a [] ?_
 generalize hL3:L2 ++ [UInt8.ofNat (s.bytes.length / 256),UInt8.ofNat s.bytes.length]=L3 at *
 have hl3:L3.length ≤ 1036:=by rw [← hL3];simp;omega
 rw [show L3=L3 ++ pairB (s.bytes.take 0) (s.nodes.take 0) by simp [pairB]]
 refine RH.tell [(1,.av (.box 0 m0 0)),(3,rowS 1 A5 (L3 ++ pairB (s.bytes.take 0) (s.nodes.take 0)).length c5),(39,slE s.A s.bytes.length s.c),(40,intE s.bytes.length),(41,intE 0)] [(0,some (.box m0 (stpF s) 66)),(1,rowE kBy A5 c5 (L3 ++ pairB (s.bytes.take 0) (s.nodes.take 0)))] [] rfl rfl rfl 10 ?_
 refine RH.loop (α:=Nat × (Option Addr × Nat)) (λy=>[(1,.av (.box 0 m0 0)),(3,rowS 1 y.2.1 (L3 ++ pairB (s.bytes.take y.1) (s.nodes.take y.1)).length y.2.2),(39,slE s.A s.bytes.length s.c),(40,intE s.bytes.length),(41,intE y.1)])
  (λy=>[(0,some (.box m0 (stpF s) 66)),(1,rowE kBy y.2.1 y.2.2 (L3 ++ pairB (s.bytes.take y.1) (s.nodes.take y.1)))])
  (λy u=>(K u/\s.ok u)/\y.1 ≤ s.bytes.length) (λy=>s.bytes.length - y.1) (0,(A5,c5)) rfl rfl (λu h=>⟨h,Nat.zero_le _⟩) ?_
 rintro ⟨i,A6,c6⟩ m6
 refine RH.pure (λu h=>h.2) λhi=>?_
 refine V.RH.know (λu=>K u/\s.ok u) (λu h=>h.1) ?_
 dsimp only at hi ⊢
 have hpl:=pairB_len (s.bytes.take i) (s.nodes.take i)
 rw [List.length_take] at hpl
 by_cases hlt:i < s.bytes.length
 ·have hltn:i < s.nodes.length:=by omega
  have hpt:=pair_take (bs:=s.bytes) (os:=s.nodes) hno.symm hlt
  have hx32:=(s.nodes[i]).h
  refine RH.pure (λu h=>(⟨h.2.1.ptr hlt,h.2.2.ptr hltn⟩:Ptr s.A/\Ptr s.B)) λ⟨pA,pB⟩=>?_
  generalize hL4:L3 ++ pairB (s.bytes.take i) (s.nodes.take i)=L4 at *
  have hl4:L4.length ≤ 1036+33000:=by rw [← hL4,List.length_append];omega
  refine RH.adv tk [true] rfl rfl (by simp [pA]<;>omega) ?_
  refine RH.load (byE s.bytes[i]) rfl rfl rfl rfl (λu hu=>hu.2.1.load hlt) ?_
  refine RH.a [] ?_
  refine RH.w [(0,some (.box m0 (stpF s) 66))] 11 ?_
  refine RD.b [] rfl rfl (by simp;exact ⟨pB,hltn⟩) ?_
  refine RD.r 8 (.av (.val (.slice (some ⟨blkA s.B,offA s.B+i*32,none⟩) 32 32))) rfl rfl (λu q _ ha=>?_) ?_
  ·have e1:q.eval (.tmp 53) = .pointer (some ⟨blkA s.B,offA s.B+i*32,none⟩):=ev_run (e:=.av (.val (.pointer (some ⟨blkA s.B,offA s.B+i*32,none⟩)))) ha rfl
   simp only [execOp,e1,Option.map_none,slice_all,Sem.run_bind,Result.andThen_ok,Sem.run_pure]
   rfl
  refine RD.s 10 2 ?_
  refine RD.a [] ?_
  refine RD.apK (nx:=11) (i:=3) (κ:=kBy) (id:=1) (r:=[s.bytes[i]]) (l:=L4) rfl (by kernel_rfl) rfl rfl rfl rfl rfl elt_byte rfl rfl (λw hst=>hst.liR (id:=10) (κ:=kBy) (l:=[s.bytes[i]]) rfl (by simp [hlim])) (by simp;omega) (by simp;omega) (λ_ _=>rfl) (λ_ h=>h) ?_
  intro A7 c7 m7 hm7
  refine RD.a [] ?_
  refine RD.apK (nx:=12) (i:=9) (κ:=kBy) (id:=1) (l:=L4 ++ [s.bytes[i]]) (r:=s.nodes[i].l) rfl (by kernel_rfl) rfl rfl rfl rfl rfl elt_byte rfl (by rw [hx32];rfl) (λu hu=>(sl_sum (hu.fact.2.2.sumAt hltn)).lies) (by simp [hx32];omega) (by simp [hx32];omega) (λ_ _=>rfl) (λ_ h=>h) ?_
  intro A8 c8 m8 hm8
  refine RD.a [] ?_
  refine RD.e ?_
  have hn:L4 ++ [s.bytes[i]] ++ s.nodes[i].l=L3 ++ pairB (s.bytes.take (i+1)) (s.nodes.take (i+1)):=by rw [hpt,← hL4];simp
  rw [hn]
  refine RH.a [] ?_
  exact RH.again (i+1,(A8,c8)) (.head _) rfl rfl (by show s.bytes.length - (i+1) < s.bytes.length - i;omega) λu h=>⟨h,hlt⟩
 ·have hn:i=s.bytes.length:=by omega
  rw [hn,List.take_length,List.take_of_length_le (by omega)] at hpl ⊢
  rw [← hbs]
  have hsm:s.bs.length ≤ 34036:=by rw [hbs,List.length_append];omega
  refine RH.a [false] ?_
  refine RH.free (i:=1) rfl ?_
  refine RH.ret1 Tryz.func111 rfl rfl λw hst=>⟨(A6,c6),rfl,hst.out [] rfl rfl λu h=>⟨h.1.1,λv hv _=>Sl.own (hoL h.2 hv) (by omega)⟩⟩
def kRStp:Kd Stp where
 T:=66
 sz:=36
 ev s:=.st (stpF s)
 ok s:=by
  rw [stp_cells]
  refine ⟨_,Tryz.t66,rfl,rfl,by simp [s.sum.h];rfl,?_⟩
  intro u hu
  simp only [List.mem_append,List.mem_cons,List.not_mem_nil,or_false,List.mem_map] at hu
  rcases hu with (rfl|rfl)|⟨b,_,rfl⟩|(rfl|rfl)<;>rfl
 size s:=by rw [stp_cells];simp [Value.cells,s.sum.h]
theorem elt_RStp:ElT tb kRStp.T 36 104:=⟨⟨Tryz.t66,(Tryz.t66).zero.getD undef,by kernel_rfl,by kernel_rfl,by kernel_rfl,by kernel_rfl,by kernel_rfl⟩,by decide⟩
theorem V.RH.zeroS {f:Fr} {n:Nat} {S:Stops} {R:Ending->World->Prop} {B0:Nat} {I:World->Prop} {H:Heap} {nx m:Nat} {env:SEnv} {k:List Item} {ops:Array Oper} {i:Nat} {rs:List Nat} {ty:TypeId} {ps:String} {af:Array Edge} {gd:Option (Nat × Bool)} {d:Nat}
  (ho:ops.toList[i]? = some ⟨some d,.build 40 #[],ty,ps,af,gd⟩) (hw:wantE env ops gd = .yes) (hd:Nat.blt d n=true)
  (hk:RH Tryz.prog f n tb B0 S R (.inRegion ops rs :: k) ((d,sumE Sum.zero) :: env) H nx m I):RH Tryz.prog f n tb B0 S R (.inRegion ops (i :: rs) :: k) env H nx m I:=by
 refine RH.read (sumE Sum.zero) ho rfl hw hd (λw' a _ hag=>?_) hk
 simp only [execOp,List.map_toArray,List.map_nil,buZ,Sem.run_bind,Result.andThen_ok,Sem.run_pure]
 rfl
section
variable {n:Nat} {B0:Nat} {I:World->Prop} {H:Heap} {m:Nat} {env:SEnv}
theorem V.OpGo.byteStrA {d:Nat} {x:Operand} {ty:TypeId} {ps:String} {af:Array Edge} {gd:Option (Nat × Bool)} {ex:EV} {A:Option Addr} {c:Nat} {l:List UInt8}
  (hd:Nat.blt d n=true) (hx:evE env x=some ex) (hxv:ex.v = .slice A l.length c) (hl:∀ w,St tb B0 H I w->Sl kBy w A c l) :
  OpGo Tryz.prog tb B0 n ⟨some d,.convert 22 9 x,ty,ps,af,gd⟩ env H m I (λ_:Unit=>(d,strE l) :: env) (λ_=>H) (λ_=>I):=by
 cases A with
 | none=>exact OpGo.byteStrG hd hx hxv (.inr rfl) hl
 | some a =>
  intro w q hm hst ha
  have hdn:d < n:=Nat.lt_of_lt_of_le (Nat.lt_succ_self d) (Nat.le_of_ble_eq_true hd)
  have hs:=hl w hst
  have hxv':q.eval x = .slice (some a) l.length c:=(ev_run ha hx).trans hxv
  have h:=run_convert_bytes_back (P:=Tryz.prog) w 22 9 5 a c l (tk.und rfl) (tk.und rfl) (tk.und rfl) (λj hj=>by
   have hne:l ≠ []:=λe=>by subst e;exact absurd hj (Nat.not_lt_zero j)
   have hp:=hs.addr hne
   unfold Ptr at hp
   rw [Option.some.inj hp,Addr.add_lit]
   refine hs.cells j _ ?_
   rw [← map_flat,List.getElem?_map,List.getElem?_eq_getElem hj]
   rfl)
  unfold Oper.wp
  have:(execOp q.eval ⟨some d,.convert 22 9 x,ty,ps,af,gd⟩).run Tryz.prog w = .ok (.value (strV l)) w:=by
   simp only [execOp,hxv']
   rw [Sem.run_bind,h]
   rfl
  rw [this]
  refine ⟨(),?_,by rw [← hm];exact Nat.le_refl _,hst⟩
  rw [kn_cons];exact ha.put hdn _
end
theorem bEqualA (w:World) (A B:Option Addr) (c d:Nat) (l k:List UInt8) (hA:Sl kBy w A c l) (hB:Sl kBy w B d k):Gives Tryz.prog 46 [.slice A l.length c,.slice B k.length d] w (boE (decide (l=k))):=by
 refine enterH tk [(0,slE A l.length c),(1,slE B k.length d)] Tryz.func46 rfl Tryz.ntmps46 rfl rfl ?_
 refine RH.a [] ?_
 refine RH.go rfl rfl (OpGo.byteStrA (A:=A) (c:=c) (l:=l) rfl rfl rfl (λu hu=>hA.ext hu.fact)) 3 ?_
 rintro ⟨⟩ m3 hm3
 refine RH.a [] ?_
 refine RH.go rfl rfl (OpGo.byteStrA (A:=B) (c:=d) (l:=k) rfl rfl rfl (λu hu=>hB.ext hu.fact)) 3 ?_
 rintro ⟨⟩ m4 hm4
 refine RH.a [] ?_
 refine RH.ret1 Tryz.func46 rfl rfl λu hst=>⟨rfl,hst.fact⟩
theorem sameStep_spec (w:World) (s t:Stp) (hs:s.ok w) (ht:t.ok w):Gives Tryz.prog 43 [(EV.st (stpF s)).v,(EV.st (stpF t)).v] w (boE (decide (s.dat=t.dat))):=by
 refine enterH tk [(0,.st (stpF s)),(1,.st (stpF t))] Tryz.func43 rfl Tryz.ntmps43 rfl rfl ?_
 by_cases h1:s.stem=t.stem
 ·by_cases h2:s.has=t.has
  ·refine RH.adv tk [true,true] rfl rfl (by simp [h1,h2]) ?_
   refine RH.read (boE (decide (s.sum=t.sum))) rfl rfl rfl rfl (λw' a _ hag=>op_eq hag rfl rfl rfl rfl rfl (by kernel_rfl) (eq_sum w' 9998 _ _)) ?_
   by_cases h3:s.sum=t.sum
   ·refine RH.adv tk [true] rfl rfl (by simp [h3]) ?_
    refine RH.gv (boE (decide (s.bytes=t.bytes))) rfl rfl rfl Tryz.call46 (λu hu=>bEqualA u s.A t.A s.c t.c _ _ (hs.1.ext hu.fact) (ht.1.ext hu.fact)) ?_
    intro m1 hm1
    by_cases h4:s.bytes=t.bytes
    ·refine RH.adv tk [true] rfl rfl (by simp [h4]) ?_
     refine RH.gv (boE (decide (s.nodes=t.nodes))) rfl rfl rfl Tryz.call58 (λu hu=>equalD_spec u s.B t.B s.d t.d _ _ (hs.2.ext hu.fact) (ht.2.ext hu.fact)) ?_
     intro m2 hm2
     have he:decide (s.nodes=t.nodes)=decide (s.dat=t.dat):=by
      rw [decide_eq_decide]
      unfold Stp.dat
      simp [h1,h2,h3,h4]
     rw [he]
     refine RH.a [] ?_
     refine RH.ret1 Tryz.func43 rfl rfl λu hst=>⟨rfl,hst.fact⟩
    ·refine RH.adv tk [false] rfl rfl (by simp [h4]) ?_
     refine RH.ret1 Tryz.func43 rfl rfl λu hst=>⟨by rw [decide_eq_false (λe=>h4 (congrArg (λz:StD=>z.2.2.2.1) e))];rfl,hst.fact⟩
   ·refine RH.adv tk [false] rfl rfl (by simp [h3]) ?_
    refine RH.ret1 Tryz.func43 rfl rfl λu hst=>⟨by rw [decide_eq_false (λe=>h3 (congrArg (λz:StD=>z.2.2.1) e))];rfl,hst.fact⟩
  ·refine RH.adv tk [true,false] rfl rfl (by simp [h1,h2]) ?_
   refine RH.ret1 Tryz.func43 rfl rfl λu hst=>⟨by rw [decide_eq_false (λe=>h2 (congrArg (λz:StD=>z.2.1) e))];rfl,hst.fact⟩
 ·refine RH.adv tk [false] rfl rfl (by simp [h1]) ?_
  refine RH.ret1 Tryz.func43 rfl rfl λu hst=>⟨by rw [decide_eq_false (λe=>h1 (congrArg (λz:StD=>z.1) e))];rfl,hst.fact⟩
theorem eqSteps_spec (w:World) (A B:Option Addr) (c d:Nat) (l k:List Stp) (hA:Sl kStp w A c l) (hB:Sl kRStp w B d k) (hl:∀ s ∈ l,s.ok w) (hk:∀ s ∈ k,s.ok w) :
  Gives Tryz.prog 42 [.slice A l.length c,.slice B k.length d,.func (.func 43) #[] #[]] w (boE (decide (l.map Stp.dat=k.map Stp.dat))):=by
 have hlim:lim=140737488351232:=rfl
 have hsl:=hA.small
 have hsk:=hB.small
 refine enterH tk [(0,slE A l.length c),(1,slE B k.length d),(2,.av (.val (.func (.func 43) #[] #[])))] Tryz.func42 rfl Tryz.ntmps42 rfl rfl ?_
 by_cases hlen:l.length=k.length
 ·refine RH.adv tk [false] rfl rfl (by simp [hlen]<;>omega) ?_
  refine RH.loop (α:=Nat) (λi=>[(1,slE B k.length d),(2,.av (.val (.func (.func 43) #[] #[]))),(15,slE A l.length c),(16,intE l.length),(17,intE i)]) (λ_=>[])
   (λi u=>Ext w u/\i ≤ l.length/\(l.map Stp.dat).take i=(k.map Stp.dat).take i) (λi=>l.length - i) 0 rfl rfl (λu h=>⟨h,Nat.zero_le _,rfl⟩) ?_
  intro i m1
  refine RH.pure (λw' h=>h.2) λ⟨hi,hpre⟩=>?_
  by_cases hlt:i < l.length
  ·have hltk:i < k.length:=by omega
   refine RH.adv tk [true] rfl rfl (by simp [hA.ptr hlt]<;>omega) ?_
   refine RH.loadS (.st (stpF l[i])) rfl rfl rfl rfl (λu hu=>(hA.ext hu.fact.1).load hlt) ?_
   refine RH.adv tk [] rfl rfl (by simp [hB.ptr hltk]<;>omega) ?_
   refine RH.loadS (.st (stpF k[i])) rfl rfl rfl rfl (λu hu=>(hB.ext hu.fact.1).load hltk) ?_
   refine RH.a [] ?_
   refine RH.gv (boE (decide (l[i].dat=k[i].dat))) rfl rfl rfl Tryz.call43 (λu hu=>sameStep_spec u _ _ ⟨(hl _ (List.getElem_mem hlt)).1.ext hu.fact.1,(hl _ (List.getElem_mem hlt)).2.ext hu.fact.1⟩ ⟨(hk _ (List.getElem_mem hltk)).1.ext hu.fact.1,(hk _ (List.getElem_mem hltk)).2.ext hu.fact.1⟩) ?_
   intro m2 hm2
   have hil:i < (l.map Stp.dat).length:=by rw [List.length_map];exact hlt
   have hik:i < (k.map Stp.dat).length:=by rw [List.length_map];exact hltk
   by_cases he:l[i].dat=k[i].dat
   ·refine RH.adv tk [false] rfl rfl (by simp [he];omega) ?_
    refine RH.again (i+1) (.head _) rfl rfl (by omega) λw' h=>⟨h.1,by omega,?_⟩
    rw [List.take_succ_eq_append_getElem hil,List.take_succ_eq_append_getElem hik,hpre,List.getElem_map,List.getElem_map,he]
   ·refine RH.adv tk [true] rfl rfl (by simp [he]) ?_
    have hne:¬ l.map Stp.dat=k.map Stp.dat:=λe=>he (by
     have:=congrArg (λz=>z[i]?) e
     simpa [List.getElem?_eq_getElem hlt,List.getElem?_eq_getElem hltk] using this)
    refine RH.ret1 Tryz.func42 rfl rfl λu hst=>⟨by rw [decide_eq_false hne];rfl,hst.fact.1⟩
  ·rw [List.take_of_length_le (by rw [List.length_map];omega),List.take_of_length_le (by rw [List.length_map];omega)] at hpre
   refine RH.a [false] ?_
   refine RH.ret1 Tryz.func42 rfl rfl λu hst=>⟨by rw [decide_eq_true hpre];rfl,hst.fact.1⟩
 ·have hne:¬ l.map Stp.dat=k.map Stp.dat:=λe=>hlen (by simpa using congrArg List.length e)
  refine RH.adv tk [true] rfl rfl (by simp [hlen]<;>omega) ?_
  refine RH.ret1 Tryz.func42 rfl rfl λu hst=>⟨by rw [decide_eq_false hne];rfl,hst.fact⟩
abbrev At2:Type:=(Option Addr × Nat) × (Option Addr × Nat)
abbrev rmF (y:At2) (N:List Str) (X:List Sum):List AV:=[.val (.slice y.1.1 N.length y.1.2),.val (.slice y.2.1 X.length y.2.2)]
abbrev rmE (y:At2) (N:List Str) (X:List Sum):EV:=.st (rmF y N X)
abbrev RM (u:World) (y:At2) (N:List Str) (X:List Sum):Prop:=Sl kStr u y.1.1 y.1.2 N/\Sl kSum u y.2.1 y.2.2 X
theorem RM.ext {u v:World} {y:At2} {N:List Str} {X:List Sum} (h:RM u y N X) (e:Ext u v):RM v y N X:=⟨h.1.ext e,h.2.ext e⟩
def posN (N:List Str) (n:Str):Nat:=(N.takeWhile λx=>Op.bytesLess x n).length
def inN (N:List Str) (n:Str):Bool:=decide (posN N n < N.length) && decide (N.getD (posN N n) []=n)
theorem posN_le (N:List Str) (n:Str):posN N n ≤ N.length:=(List.takeWhile_sublist _).length_le
theorem posN_take (N:List Str) (n:Str) (i:Nat) (h:i ≤ posN N n) (hi:i < N.length):(Op.bytesLess N[i] n=true) ↔ i < posN N n:=by
 unfold posN at h ⊢
 induction N generalizing i with
 | nil=>cases hi
 | cons x r ih =>
  rw [List.takeWhile_cons] at h ⊢
  by_cases hx:Op.bytesLess x n=true
  ·rw [if_pos hx] at h ⊢
   cases i with
   | zero=>simp [hx]
   | succ i =>
    rw [List.length_cons] at h ⊢
    simp only [List.getElem_cons_succ]
    rw [ih i (by omega) (by simpa using hi)]
    omega
  ·rw [if_neg hx] at h ⊢
   have:i=0:=Nat.le_zero.1 h
   subst this
   simp [hx]
abbrev rAtV (N:List Str) (n:Str):EV:=.av (.val (.tuple #[intV (posN N n),.bool (inN N n)]))
theorem rAt_spec (w:World) (y:At2) (N:List Str) (X:List Sum) (h:Sl kStr w y.1.1 y.1.2 N) (name:Str):Gives Tryz.prog 120 [(rmE y N X).v,strV name] w (rAtV N name):=by
 have hlim:lim=140737488351232:=rfl
 have hsm:=h.small
 have hpl:=posN_le N name
 refine enterH tk [(0,rmE y N X),(1,strE name)] Tryz.func120 rfl Tryz.ntmps120 rfl rfl ?_
 refine RH.a [] ?_
 refine RH.loop (α:=Nat) (λi=>[(1,strE name),(2,.av (.box 0 w.heap.size 0)),(6,intE i)]) (λ_=>[(0,some (.box w.heap.size (rmF y N X) 81))]) (λi u=>Ext w u/\i ≤ posN N name) (λi=>N.length - i) 0 rfl rfl (λu hu=>⟨hu,Nat.zero_le _⟩) ?_
 intro i m1
 refine RH.pure (λu hu=>hu.2) λhi=>?_
 by_cases hlt:i < N.length
 ·have hpos:=posN_take N name i hi hlt
  have hptr:=h.ptr hlt
  refine RH.adv tk [true] rfl rfl (by simp [hptr,hlt]<;>omega) ?_
  refine RH.loadS (strE N[i]) rfl rfl rfl rfl (λu hu=>(h.ext hu.fact.1).load hlt) ?_
  by_cases hb:Op.bytesLess N[i] name=true
  ·refine RH.adv tk [true] rfl rfl (by simp [hb];omega) ?_
   exact RH.again (i+1) (.head _) rfl rfl (by omega) λu hu=>⟨hu.1,hpos.1 hb⟩
  ·have he:posN N name=i:=Nat.le_antisymm (Nat.le_of_not_lt λe=>hb (hpos.2 e)) hi
   refine RH.adv tk [false] rfl rfl (by simp [hb]) ?_
   refine RH.w [(0,some (.box w.heap.size (rmF y N X) 81))] 17 ?_
   refine RD.b [true] rfl rfl (by simp [hptr,hlt]) ?_
   refine RD.ld 11 (strE N[i]) rfl rfl (λu hw=>(h.ext hw.1).load hlt) ?_
   refine RD.a [] ?_
   refine RD.e ?_
   refine RH.a [] ?_
   refine RH.ret2 Tryz.func120 rfl rfl rfl λu hu=>⟨?_,hu.fact.1⟩
   unfold rAtV inN
   rw [he,decide_eq_true hlt,Bool.true_and,List.getD_eq_getElem?_getD,List.getElem?_eq_getElem hlt]
   rfl
 ·have he:posN N name=i:=by omega
  refine RH.adv tk [false] rfl rfl (by simp [hlt]<;>omega) ?_
  refine RH.w [(0,some (.box w.heap.size (rmF y N X) 81))] 17 ?_
  refine RD.b [false] rfl rfl (by simp [hlt]<;>omega) ?_
  refine RD.e ?_
  refine RH.a [] ?_
  refine RH.ret2 Tryz.func120 rfl rfl rfl λu hu=>⟨?_,hu.fact.1⟩
  unfold rAtV inN
  rw [he,decide_eq_false hlt]
  rfl
def nxtN (N:List Str) (n:Str):Nat:=if inN N n=true then posN N n+1 else posN N n
def withN (N:List Str) (n:Str):List Str:=N.take (posN N n) ++ [n] ++ N.drop (nxtN N n)
def withX (N:List Str) (X:List Sum) (n:Str) (x:Sum):List Sum:=X.take (posN N n) ++ [x] ++ X.drop (nxtN N n)
theorem inN_lt {N:List Str} {n:Str} (h:inN N n=true):posN N n < N.length:=by
 unfold inN at h
 rw [Bool.and_eq_true,decide_eq_true_iff] at h
 exact h.1
theorem nxtN_le (N:List Str) (n:Str):nxtN N n ≤ N.length:=by
 unfold nxtN
 split
 ·rename_i h;exact inN_lt h
 ·exact posN_le N n
set_option maxHeartbeats 1000000 in
theorem rWith_spec (y:At2) (N:List Str) (X:List Sum) (hNX:X.length=N.length) (hn:N.length ≤ 10000) (name:Str) (x:Sum) :
  Does Tryz.prog tb 121 [(rmE y N X).v,strV name,sumV x] [] (λu=>RM u y N X) (λz:At2=>(rmE z (withN N name) (withX N X name x)).v) (λ_=>[])
   (λz=>Late (λ_=>True) (λu=>RM u z (withN N name) (withX N X name x))):=by
 have hlim:lim=140737488351232:=rfl
 have hpl:=posN_le N name
 have hnl:=nxtN_le N name
 refine V.Does.enter0 [(0,rmE y N X),(1,strE name),(2,sumE x)] Tryz.func121 rfl Tryz.ntmps121 rfl rfl 0 ?_
 intro m0 K
 refine RH.pure (λu h=>(⟨h.2.1.cap,h.2.2.cap⟩:N.length ≤ y.1.2/\X.length ≤ y.2.2)) λ⟨hc1,hc2⟩=>?_
 refine RH.a [] ?_
 refine RH.gv (rAtV N name) rfl rfl rfl Tryz.call120 (λu hu=>rAt_spec u y N X hu.fact.2.1 name) ?_
 intro m1 hm1
 refine RH.a [] ?_
 have htn:(N.take (posN N name)).length=posN N name:=by rw [List.length_take];omega
 have htx:(X.take (posN N name)).length=posN N name:=by rw [List.length_take];omega
 refine V.RH.reBox (id:=3) [.row 50 (.slice none 0 0),.row 51 (.slice none 0 0)] rfl rfl ⟨⟨rfl,⟨rfl,Tryz.t25,rfl,rfl⟩,rfl,⟨rfl,Tryz.t26,rfl,rfl⟩,trivial⟩,Tryz.t81,rfl,rfl⟩ ?_
 refine RH.nilrow 50 kStr.T kStr.sz 51 ?_
 refine RH.nilrow 51 kSum.T kSum.sz 52 ?_
 apply RH.joinK (α:=Option Addr × Nat) (λz=>[(1,strE name),(3,.av (.box 0 m0 0)),(5,.av (.box 1 (m0+1) 0)),(6,.av (.box 2 (m0+1+1) 0)),(7,.av (.box 3 (m0+1+1+1) 0)),(8,intE (posN N name)),(9,boE (inN N name))])
  (λz=>[(0,some (.box m0 (rmF y N X) 81)),(1,some (.box (m0+1) [.val (sumV x)] 40)),(2,some (.box (m0+1+1) [.val (.slice none 0 0),.val (.slice none 0 0)] 81)),(3,some (.box (m0+1+1+1) [.row 50 (.slice z.1 (N.take (posN N name) ++ [name]).length z.2),.row 51 (.slice ((none:Option Addr),0).1 (([]:List Sum)).length ((none:Option Addr),0).2)] 81)),(50,rowE kStr z.1 z.2 (N.take (posN N name) ++ [name])),(51,rowE kSum ((none:Option Addr),0).1 ((none:Option Addr),0).2 (([]:List Sum)))]) (λ_ u=>K u/\RM u y N X)
 ·refine RH.w [(0,some (.box m0 (rmF y N X) 81)),(1,some (.box (m0+1) [.val (sumV x)] 40)),(3,some (.box (m0+1+1+1) [.row 50 (.slice none 0 0),.row 51 (.slice none 0 0)] 81))] 12 ?_
  refine RD.b [] rfl rfl (by simp;omega) ?_
  refine RD.two (i:=6) (j:=8) (by kernel_rfl) ?_ ?_
  ·refine opD_appendK (nx:=60) (i:=6) (κ:=kStr) (id:=50) (r:=N.take (posN N name)) (l:=[]) rfl rfl rfl rfl rfl rfl elt_str rfl (by rw [htn];rfl) (λw hst=>(YtbfjmimiigjenaaGreatDoor.Sl.take hst.fact.2.1 (posN N name) (by omega)).lies) (by simp;omega) (by simp;omega) (λ_ _=>rfl) (λ_ h=>h) ?_
   intro A1 c1 m3 hm3
   refine RD.a [] ?_
   refine RD.s 60 8 ?_
   refine RD.a [] ?_
   refine RD.apK (nx:=61) (i:=9) (κ:=kStr) (id:=50) (r:=[name]) (l:=N.take (posN N name)) rfl (by kernel_rfl) rfl rfl rfl rfl rfl elt_str rfl rfl (λw hst=>hst.liR (id:=60) (κ:=kStr) (l:=[name]) rfl (by simp [hlim])) (by simp;omega) (by simp;omega) (λ_ _=>rfl) (λ_ h=>h) ?_
   intro A2 c2 m4 hm4
   refine RD.a [] ?_
   refine RD.z 11 ?_
   intro m5 hm5
   exact RH.mtS (A2,c2) [] (.head _) rfl rfl rfl λu h=>h
  ·refine V.opS 60 8 ?_
   refine RD.a [] ?_
   refine RD.apK (nx:=61) (i:=6) (κ:=kStr) (id:=50) (r:=N.take (posN N name)) (l:=[]) rfl (by kernel_rfl) rfl rfl rfl rfl rfl elt_str rfl (by rw [htn];rfl) (λw hst=>(YtbfjmimiigjenaaGreatDoor.Sl.take hst.fact.2.1 (posN N name) (by omega)).lies) (by simp;omega) (by simp;omega) (λ_ _=>rfl) (λ_ h=>h) ?_
   intro A1 c1 m3 hm3
   refine RD.a [] ?_
   refine RD.apK (nx:=61) (i:=9) (κ:=kStr) (id:=50) (r:=[name]) (l:=N.take (posN N name)) rfl (by kernel_rfl) rfl rfl rfl rfl rfl elt_str rfl rfl (λw hst=>hst.liR (id:=60) (κ:=kStr) (l:=[name]) rfl (by simp [hlim])) (by simp;omega) (by simp;omega) (λ_ _=>rfl) (λ_ h=>h) ?_
   intro A2 c2 m4 hm4
   refine RD.a [] ?_
   refine RD.z 11 ?_
   intro m5 hm5
   exact RH.mtS (A2,c2) [] (.head _) rfl rfl rfl λu h=>h
 rintro ⟨A3,c3⟩ m6
 dsimp only
 have hl1:(N.take (posN N name) ++ [name]).length=posN N name+1:=by rw [List.length_append,htn];rfl
 generalize hL1:N.take (posN N name) ++ [name]=L1 at *
 apply RH.joinK (α:=Option Addr × Nat) (λz=>[(1,strE name),(3,.av (.box 0 m0 0)),(5,.av (.box 1 (m0+1) 0)),(6,.av (.box 2 (m0+1+1) 0)),(7,.av (.box 3 (m0+1+1+1) 0)),(8,intE (posN N name)),(9,boE (inN N name))])
  (λz=>[(0,some (.box m0 (rmF y N X) 81)),(1,some (.box (m0+1) [.val (sumV x)] 40)),(2,some (.box (m0+1+1) [.val (.slice none 0 0),.val (.slice none 0 0)] 81)),(3,some (.box (m0+1+1+1) [.row 50 (.slice (A3,c3).1 (L1).length (A3,c3).2),.row 51 (.slice z.1 (X.take (posN N name) ++ [x]).length z.2)] 81)),(50,rowE kStr (A3,c3).1 (A3,c3).2 (L1)),(51,rowE kSum z.1 z.2 (X.take (posN N name) ++ [x]))]) (λ_ u=>K u/\RM u y N X)
 ·refine RH.a [] ?_
  refine RH.w [(0,some (.box m0 (rmF y N X) 81)),(1,some (.box (m0+1) [.val (sumV x)] 40)),(3,some (.box (m0+1+1+1) [.row 50 (.slice A3 L1.length c3),.row 51 (.slice none 0 0)] 81))] 12 ?_
  refine RD.b [] rfl rfl (by simp;omega) ?_
  refine RD.two (i:=6) (j:=8) (by kernel_rfl) ?_ ?_
  ·refine opD_appendK (nx:=60) (i:=6) (κ:=kSum) (id:=51) (r:=X.take (posN N name)) (l:=[]) rfl rfl rfl rfl rfl rfl elt_sum rfl (by rw [htx];rfl) (λw hst=>(YtbfjmimiigjenaaGreatDoor.Sl.take hst.fact.2.2 (posN N name) (by omega)).lies) (by simp;omega) (by simp;omega) (λ_ _=>rfl) (λ_ h=>h) ?_
   intro A1 c1 m3 hm3
   refine RD.a [] ?_
   refine RD.s 60 8 ?_
   refine RD.a [] ?_
   refine RD.apK (nx:=61) (i:=9) (κ:=kSum) (id:=51) (r:=[x]) (l:=X.take (posN N name)) rfl (by kernel_rfl) rfl rfl rfl rfl rfl elt_sum rfl rfl (λw hst=>hst.liR (id:=60) (κ:=kSum) (l:=[x]) rfl (by simp [hlim])) (by simp;omega) (by simp;omega) (λ_ _=>rfl) (λ_ h=>h) ?_
   intro A2 c2 m4 hm4
   refine RD.a [] ?_
   refine RD.z 11 ?_
   intro m5 hm5
   exact RH.mtS (A2,c2) [] (.head _) rfl rfl rfl λu h=>h
  ·refine V.opS 60 8 ?_
   refine RD.a [] ?_
   refine RD.apK (nx:=61) (i:=6) (κ:=kSum) (id:=51) (r:=X.take (posN N name)) (l:=[]) rfl (by kernel_rfl) rfl rfl rfl rfl rfl elt_sum rfl (by rw [htx];rfl) (λw hst=>(YtbfjmimiigjenaaGreatDoor.Sl.take hst.fact.2.2 (posN N name) (by omega)).lies) (by simp;omega) (by simp;omega) (λ_ _=>rfl) (λ_ h=>h) ?_
   intro A1 c1 m3 hm3
   refine RD.a [] ?_
   refine RD.apK (nx:=61) (i:=9) (κ:=kSum) (id:=51) (r:=[x]) (l:=X.take (posN N name)) rfl (by kernel_rfl) rfl rfl rfl rfl rfl elt_sum rfl rfl (λw hst=>hst.liR (id:=60) (κ:=kSum) (l:=[x]) rfl (by simp [hlim])) (by simp;omega) (by simp;omega) (λ_ _=>rfl) (λ_ h=>h) ?_
   intro A2 c2 m4 hm4
   refine RD.a [] ?_
   refine RD.z 11 ?_
   intro m5 hm5
   exact RH.mtS (A2,c2) [] (.head _) rfl rfl rfl λu h=>h
 rintro ⟨A4,c4⟩ m7
 dsimp only
 have hl2:(X.take (posN N name) ++ [x]).length=posN N name+1:=by rw [List.length_append,htx];rfl
 generalize hL2:X.take (posN N name) ++ [x]=L2 at *
 apply RH.joinK (α:=Unit) (λz=>[(1,strE name),(3,.av (.box 0 m0 0)),(5,.av (.box 1 (m0+1) 0)),(6,.av (.box 2 (m0+1+1) 0)),(7,.av (.box 3 (m0+1+1+1) 0)),(8,intE (nxtN N name)),(9,boE (inN N name))])
  (λz=>[(0,some (.box m0 (rmF y N X) 81)),(1,some (.box (m0+1) [.val (sumV x)] 40)),(2,some (.box (m0+1+1) [.val (.slice none 0 0),.val (.slice none 0 0)] 81)),(3,some (.box (m0+1+1+1) [.row 50 (.slice (A3,c3).1 (L1).length (A3,c3).2),.row 51 (.slice (A4,c4).1 (L2).length (A4,c4).2)] 81)),(50,rowE kStr (A3,c3).1 (A3,c3).2 (L1)),(51,rowE kSum (A4,c4).1 (A4,c4).2 (L2))]) (λ_ u=>K u/\RM u y N X)
 ·cases ha:inN N name with
  | true =>
   have hj:nxtN N name=posN N name+1:=if_pos ha
   rw [hj]
   refine RH.adv tk [true] rfl rfl (by simp [ha];omega) ?_
   exact RH.mtS () [] (.head _) rfl rfl rfl λu h=>h
  | false =>
   have hj:nxtN N name=posN N name:=if_neg (by rw [ha];decide)
   rw [hj]
   refine RH.adv tk [false] rfl rfl (by simp [ha]) ?_
   exact RH.mtS () [] (.head _) rfl rfl rfl λu h=>h
 rintro ⟨⟩ m8
 dsimp only
 have hz1:(Tryz.t9).size=1:=by kernel_rfl
 have hz32:(Tryz.t40).size=32:=by kernel_rfl
 have hdn:(N.drop (nxtN N name)).length=N.length - nxtN N name:=List.length_drop
 have hdx:(X.drop (nxtN N name)).length=X.length - nxtN N name:=List.length_drop
 have hpj:posN N name ≤ nxtN N name:=by unfold nxtN;split<;>omega
 generalize hj:nxtN N name=j at *
 refine RH.a [] ?_
 refine RH.w [(0,some (.box m0 (rmF y N X) 81)),(3,some (.box (m0+1+1+1) [.row 50 (.slice A3 L1.length c3),.row 51 (.slice A4 L2.length c4)] 81))] 9 ?_
 refine RD.b [] rfl rfl (by simp;omega) ?_
 refine RD.apK (nx:=52) (i:=6) (κ:=kStr) (id:=50) (r:=N.drop j) (l:=L1) (A2:=V.subA y.1.1 j y.1.2 kStr.sz) (c2:=y.1.2 - j) rfl (by kernel_rfl) rfl rfl rfl rfl rfl elt_str rfl (by rw [hdn];rfl) (λu hu=>(hu.fact.2.1.drop j hnl).lies) (by rw [hdn];omega) (by rw [hdn];omega) (λ_ _=>rfl) (λ_ h=>h) ?_
 intro A5 c5 m9 hm9
 refine RD.a [] ?_
 refine RD.z 8 ?_
 intro m10 hm10
 have hN:withN N name=L1 ++ N.drop j:=by unfold withN;rw [hL1,hj]
 have hX:withX N X name x=L2 ++ X.drop j:=by unfold withX;rw [hL2,hj]
 rw [hN,hX]
 have hl3:(L1 ++ N.drop j).length ≤ 10001:=by rw [List.length_append,hdn];omega
 have hl4:(L2 ++ X.drop j).length ≤ 10001:=by rw [List.length_append,hdx];omega
 generalize L1 ++ N.drop j=L3 at *
 refine RH.a [] ?_
 refine RH.w [(0,some (.box m0 (rmF y N X) 81)),(3,some (.box (m0+1+1+1) [.row 50 (.slice A5 L3.length c5),.row 51 (.slice A4 L2.length c4)] 81))] 9 ?_
 refine RD.b [] rfl rfl (by simp;omega) ?_
 refine RD.apK (nx:=52) (i:=6) (κ:=kSum) (id:=51) (r:=X.drop j) (l:=L2) (A2:=V.subA y.2.1 j y.2.2 kSum.sz) (c2:=y.2.2 - j) rfl (by kernel_rfl) rfl rfl rfl rfl rfl elt_sum rfl (by rw [hdx];rfl) (λu hu=>(hu.fact.2.2.drop j (by omega)).lies) (by rw [hdx];omega) (by rw [hdx];omega) (λ_ _=>rfl) (λ_ h=>h) ?_
 intro A6 c6 m11 hm11
 refine RD.a [] ?_
 refine RD.z 8 ?_
 intro m12 hm12
 generalize L2 ++ X.drop j=L4 at *
 refine RH.a [] ?_
 refine RH.free (i:=50) rfl ?_
 refine RH.free (i:=51) rfl ?_
 exact RH.retBox tk (.st [.row 50 (.slice A5 L3.length c5),.row 51 (.slice A6 L4.length c6)]) Tryz.func121 rfl rfl rfl rfl λw hst=>⟨((A5,c5),(A6,c6)),rfl,hst.out [] rfl rfl λu h=>⟨h.1.1.1,λv hv _=>⟨Sl.own (hoL h.1.2 hv) (by omega),Sl.own (hoL h.2 hv) (by omega)⟩⟩⟩
abbrev ksO (t:Option Tree):List Str:=(enO t).map Prod.fst
abbrev xsO (t:Option Tree):List Sum:=(enO t).map Prod.snd
theorem posN_cons (m:Str) (N:List Str) (n:Str):posN (m :: N) n=if Op.bytesLess m n=true then posN N n+1 else 0:=by
 unfold posN
 rw [List.takeWhile_cons]
 split<;>rfl
theorem inN_cons (m:Str) (N:List Str) (n:Str):inN (m :: N) n=if Op.bytesLess m n=true then inN N n else decide (m=n):=by
 unfold inN
 rw [posN_cons]
 split
 ·simp [List.getD_eq_getElem?_getD]
 ·simp [List.getD_eq_getElem?_getD]
theorem nxtN_cons (m:Str) (N:List Str) (n:Str):nxtN (m :: N) n=if Op.bytesLess m n=true then nxtN N n+1 else if m=n then 1 else 0:=by
 unfold nxtN
 rw [inN_cons,posN_cons]
 by_cases h:Op.bytesLess m n=true
 ·rw [if_pos h,if_pos h,if_pos h];split<;>rfl
 ·rw [if_neg h,if_neg h,if_neg h]
  by_cases e:m=n
  ·simp [e]
  ·simp [e]
def insE (n:Str) (x:Sum):List (Str × Sum)->List (Str × Sum)
 | []=>[(n,x)]
 | (m,y) :: r=>if Op.bytesLess m n=true then (m,y) :: insE n x r else if m=n then (n,x) :: r else (n,x) :: (m,y) :: r
def delE (n:Str):List (Str × Sum)->List (Str × Sum)
 | []=>[]
 | (m,y) :: r=>if Op.bytesLess m n=true then (m,y) :: delE n r else if m=n then r else (m,y) :: r
theorem with_insN (n:Str) (x:Sum):∀ E:List (Str × Sum),withN (E.map Prod.fst) n=(insE n x E).map Prod.fst
 | []=>rfl
 | (m,y) :: r=>by
  have ih:=with_insN n x r
  unfold withN at ih ⊢
  rw [List.map_cons,posN_cons,nxtN_cons]
  unfold insE
  by_cases h:Op.bytesLess m n=true
  ·rw [if_pos h,if_pos h,if_pos h,List.take_succ_cons,List.drop_succ_cons,List.map_cons,← ih];rfl
  ·rw [if_neg h,if_neg h,if_neg h]
   by_cases e:m=n
   ·rw [if_pos e,if_pos e];rfl
   ·rw [if_neg e,if_neg e];rfl
theorem with_insX (n:Str) (x:Sum):∀ E:List (Str × Sum),withX (E.map Prod.fst) (E.map Prod.snd) n x=(insE n x E).map Prod.snd
 | []=>rfl
 | (m,y) :: r=>by
  have ih:=with_insX n x r
  unfold withX at ih ⊢
  rw [List.map_cons,List.map_cons,posN_cons,nxtN_cons]
  unfold insE
  by_cases h:Op.bytesLess m n=true
  ·rw [if_pos h,if_pos h,if_pos h,List.take_succ_cons,List.drop_succ_cons,List.map_cons,← ih];rfl
  ·rw [if_neg h,if_neg h,if_neg h]
   by_cases e:m=n
   ·rw [if_pos e,if_pos e];rfl
   ·rw [if_neg e,if_neg e];rfl
theorem less_tri (a b:Str):Op.bytesLess a b=true ∨ a=b ∨ Op.bytesLess b a=true:=by
 cases h:Op.bytesLess a b with
 | true=>exact .inl rfl
 | false =>
  cases h2:Op.bytesLess b a with
  | true=>exact .inr (.inr rfl)
  | false=>exact .inr (.inl (less_total h h2))
theorem less_ne {a b:Str} (h:Op.bytesLess a b=true):a ≠ b:=λe=>by rw [e,less_irrefl] at h;cases h
theorem rise_cons {e:Str × Sum} {r:List (Str × Sum)}:Rise (e :: r) ↔ (∀ q ∈ r,Op.bytesLess e.1 q.1=true)/\Rise r:=List.pairwise_cons
theorem mem_ins (n:Str) (x:Sum):∀ {E:List (Str × Sum)},Rise E->∀ k z,(k,z) ∈ insE n x E ↔ (k=n/\z=x) ∨ (k ≠ n/\(k,z) ∈ E)
 | [],_,k,z=>by simp [insE]
 | (m,y) :: r,hr,k,z=>by
  obtain ⟨h1,h2⟩:=rise_cons.1 hr
  unfold insE
  by_cases h:Op.bytesLess m n=true
  ·rw [if_pos h,List.mem_cons,mem_ins n x h2,List.mem_cons]
   have hne:=less_ne h
   constructor
   ·rintro (e|e|⟨e,f⟩)
    ·injection e with e1 e2;subst e1;exact .inr ⟨hne,.inl (by rw [e2])⟩
    ·exact .inl e
    ·exact .inr ⟨e,.inr f⟩
   ·rintro (e|⟨e,f|f⟩)
    ·exact .inr (.inl e)
    ·exact .inl f
    ·exact .inr (.inr ⟨e,f⟩)
  ·rw [if_neg h]
   by_cases e:m=n
   ·subst e
    rw [if_pos rfl,List.mem_cons,List.mem_cons]
    constructor
    ·rintro (e|e)
     ·injection e with e1 e2;exact .inl ⟨e1,e2⟩
     ·exact .inr ⟨λf=>by subst f;exact absurd rfl (less_ne (h1 (k,z) e)),.inr e⟩
    ·rintro (⟨e,f⟩|⟨e,f|f⟩)
     ·exact .inl (by rw [e,f])
     ·injection f with f1 f2;exact absurd f1 e
     ·exact .inr f
   ·rw [if_neg e,List.mem_cons,List.mem_cons]
    have hn:Op.bytesLess n m=true:=by
     rcases less_tri m n with a|a|a
     ·exact absurd a h
     ·exact absurd a e
     ·exact a
    constructor
    ·rintro (g|g)
     ·injection g with e1 e2;exact .inl ⟨e1,e2⟩
     ·refine .inr ⟨λf=>?_,g⟩
      subst f
      rcases g with g|g
      ·injection g with g1 g2;exact e g1.symm
      ·exact absurd rfl (less_ne (less_trans hn (h1 _ g)))
    ·rintro (⟨e,f⟩|⟨_,f⟩)
     ·exact .inl (by rw [e,f])
     ·exact .inr f
theorem rise_ins (n:Str) (x:Sum):∀ {E:List (Str × Sum)},Rise E->Rise (insE n x E)
 | [],_=>List.pairwise_singleton ..
 | (m,y) :: r,hr=>by
  obtain ⟨h1,h2⟩:=rise_cons.1 hr
  unfold insE
  by_cases h:Op.bytesLess m n=true
  ·rw [if_pos h,rise_cons]
   refine ⟨λq hq=>?_,rise_ins n x h2⟩
   obtain ⟨k,z⟩:=q
   rcases (mem_ins n x h2 k z).1 hq with ⟨e,_⟩|⟨_,e⟩
   ·rw [e];exact h
   ·exact h1 _ e
  ·rw [if_neg h]
   by_cases e:m=n
   ·subst e;rw [if_pos rfl,rise_cons];exact ⟨h1,h2⟩
   ·have hn:Op.bytesLess n m=true:=by
     rcases less_tri m n with a|a|a
     ·exact absurd a h
     ·exact absurd a e
     ·exact a
    rw [if_neg e,rise_cons]
    refine ⟨λq hq=>?_,hr⟩
    rcases List.mem_cons.1 hq with rfl|hq
    ·exact hn
    ·exact less_trans hn (h1 _ hq)
theorem rise_ext {a b:List (Str × Sum)} (ha:Rise a) (hb:Rise b) (h:∀ k z,(k,z) ∈ a ↔ (k,z) ∈ b):a=b :=
 rise_perm ((List.perm_ext_iff_of_nodup (nodup_of_keys (rise_nodup ha)) (nodup_of_keys (rise_nodup hb))).2 λe=>h e.1 e.2) ha hb
theorem ins_put {t:Option Tree} (hw:wfO t) (n:Str) (x:Sum):insE n x (enO t)=enO (some (putO t n x)):=by
 refine rise_ext (rise_ins n x (entsO_rise hw)) (entsO_rise (putO_wf hw n x)) λk z=>?_
 rw [mem_ins n x (entsO_rise hw),meO (putO_wf hw n x),meO hw,putO_get hw]
 by_cases e:k=n
 ·subst e;simp [eq_comm]
 ·simp [e]
theorem withN_put {t:Option Tree} (hw:wfO t) (n:Str) (x:Sum):withN (ksO t) n=ksO (some (putO t n x)):=by
 rw [with_insN n x,ins_put hw]
theorem withX_put {t:Option Tree} (hw:wfO t) (n:Str) (x:Sum):withX (ksO t) (xsO t) n x=xsO (some (putO t n x)):=by
 rw [with_insX n x,ins_put hw]
theorem in_mem (n:Str):∀ {E:List (Str × Sum)},Rise E->(inN (E.map Prod.fst) n=true ↔ n ∈ E.map Prod.fst)
 | [],_=>by simp [inN,posN]
 | (m,y) :: r,hr=>by
  obtain ⟨h1,h2⟩:=rise_cons.1 hr
  rw [List.map_cons,inN_cons,List.mem_cons]
  by_cases h:Op.bytesLess m n=true
  ·rw [if_pos h,in_mem n h2]
   exact ⟨.inr,λe=>e.resolve_left λe=>less_ne h e.symm⟩
  ·rw [if_neg h,decide_eq_true_iff]
   refine ⟨λe=>.inl e.symm,λe=>?_⟩
   rcases e with e|e
   ·exact e.symm
   ·obtain ⟨q,hq,e⟩:=List.mem_map.1 e
    exact absurd (by rw [← e];exact h1 q hq) h
theorem in_get {t:Option Tree} (hw:wfO t) (n:Str):inN (ksO t) n=(getO t n).isSome:=by
 rw [Bool.eq_iff_iff,in_mem n (entsO_rise hw)]
 constructor
 ·intro h
  obtain ⟨⟨k,z⟩,hq,e⟩:=List.mem_map.1 h
  have e:k=n:=e
  subst e
  rw [(meO hw _ _).1 hq];rfl
 ·intro h
  obtain ⟨z,hz⟩:=Option.isSome_iff_exists.1 h
  exact List.mem_map.2 ⟨(n,z),(meO hw _ _).2 hz,rfl⟩
abbrev kn0:At2:=((none,0),(none,0))
theorem RM.nil (u:World):RM u kn0 [] []:=⟨Sl.void u,Sl.void u⟩
theorem snoc_ind {α:Type} {P:List α->Prop} (h0:P []) (h1:∀ l e,P l->P (l ++ [e])) (l:List α):P l:=by
 have:∀ n,∀ l:List α,l.length=n->P l:=by
  intro n
  induction n with
  | zero=>intro l h;rw [List.length_eq_zero_iff.1 h];exact h0
  | succ n ih =>
   intro l h
   have hne:l ≠ []:=λe=>by rw [e] at h;cases h
   rw [← List.dropLast_concat_getLast hne]
   exact h1 _ _ (ih _ (by rw [List.length_dropLast,h];rfl))
 exact this _ l rfl
theorem get_from_mem (n:Str):∀ l:List (Str × Sum),(getO (fromO l) n).isSome=hasN (l.map Prod.fst) n:=by
 intro l
 refine snoc_ind (P:=λl=>(getO (fromO l) n).isSome=hasN (l.map Prod.fst) n) rfl (λl e ih=>?_) l
 ·rw [from_snoc,putO_get (wf_from l),List.map_append]
  unfold hasN at ih ⊢
  rw [List.any_append,← ih]
  by_cases h:n=e.1
  ·simp [h]
  ·rw [if_neg h]
   have:¬ e.1=n:=λe=>h e.symm
   simp [this]
theorem zip_snoc {a:List Str} {b:List Sum} {i:Nat} (h1:i < a.length) (h2:i < b.length):(a.zip b).take (i+1)=(a.zip b).take i ++ [(a[i],b[i])]:=by
 have h:i < (a.zip b).length:=by rw [List.length_zip];omega
 rw [List.take_succ_eq_append_getElem h,List.getElem_zip]
theorem zip_take {a:List Str} {b:List Sum} (i:Nat) (h:a.length=b.length):((a.zip b).take i).map Prod.fst=a.take i:=by
 rw [List.map_take,List.map_fst_zip (by omega)]
theorem many_le (l:List (Str × Sum)):maO (fromO l) ≤ l.length:=by
 refine snoc_ind (P:=λl=>maO (fromO l) ≤ l.length) (Nat.zero_le _) (λl e ih=>?_) l
 ·rw [from_snoc,List.length_append]
  have h:=(ins_put (wf_from l) e.1 e.2)
  rw [← entsO_many,← h]
  have g:∀ E:List (Str × Sum),(insE e.1 e.2 E).length ≤ E.length+1:=by
   intro E
   induction E with
   | nil=>exact Nat.le_refl _
   | cons p r ih2 =>
    obtain ⟨m,y⟩:=p
    unfold insE
    split
    ·simpa using ih2
    ·split<;>simp
  have:=g (enO (fromO l))
  rw [entsO_many] at this
  simp only [List.length_cons,List.length_nil]
  omega
theorem ksO_len (t:Option Tree):(ksO t).length=maO t:=by rw [List.length_map,entsO_many]
theorem xsO_len (t:Option Tree):(xsO t).length=maO t:=by rw [List.length_map,entsO_many]
theorem rWith_t (y:At2) (t:Option Tree) (hw:wfO t) (hm:maO t ≤ 10000) (name:Str) (x:Sum) :
  Does Tryz.prog tb 121 [(rmE y (ksO t) (xsO t)).v,strV name,sumV x] [] (λu=>RM u y (ksO t) (xsO t)) (λz:At2=>(rmE z (ksO (some (putO t name x))) (xsO (some (putO t name x)))).v) (λ_=>[])
   (λz=>Late (λ_=>True) (λu=>RM u z (ksO (some (putO t name x))) (xsO (some (putO t name x))))):=by
 have h7:=rWith_spec y (ksO t) (xsO t) (by rw [ksO_len,xsO_len]) (by rw [ksO_len];exact hm) name x
 rw [withN_put hw name x,withX_put hw] at h7
 exact h7
set_option maxHeartbeats 1000000 in
theorem rFrom_spec (A:Option Addr) (c:Nat) (names:List Str) (B:Option Addr) (d:Nat) (sums:List Sum) :
  Does Tryz.prog tb 48 [.slice A names.length c,.slice B sums.length d] [] (λu=>Sl kStr u A c names/\Sl kSum u B d sums)
   (λz:At2=>.tuple #[(rmE z (ksO (if fromE names sums=0 then fromO (names.zip sums) else none)) (xsO (if fromE names sums=0 then fromO (names.zip sums) else none))).v,intV (fromE names sums)]) (λ_=>[])
   (λz=>Late (λ_=>True) (λu=>RM u z (ksO (if fromE names sums=0 then fromO (names.zip sums) else none)) (xsO (if fromE names sums=0 then fromO (names.zip sums) else none)))):=by
 have hlim:lim=140737488351232:=rfl
 refine V.Does.enter0 [(0,slE A names.length c),(1,slE B sums.length d)] Tryz.func48 rfl Tryz.ntmps48 rfl rfl 0 ?_
 intro m0 K
 refine RH.pure (λu h=>(⟨h.2.1.small,h.2.2.small⟩:names.length ≤ lim/\sums.length ≤ lim)) λ⟨hsn,hss⟩=>?_
 by_cases h1:names.length=sums.length
 ·by_cases h2:600 < names.length
  ·have he:fromE names sums=12:=by unfold fromE;rw [if_neg (by simpa using h1),if_pos h2]
   rw [he]
   refine RH.adv tk [false,true] rfl rfl (by simp [h1]<;>omega) ?_
   exact RH.retBoxT tk (rmE kn0 [] []) Tryz.func48 rfl rfl rfl rfl rfl λw' hst=>⟨kn0,rfl,hst.out [] rfl rfl λu h=>⟨h.1,λv _ _=>RM.nil v⟩⟩
  ·have he:fromE names sums=scanN [] names:=by unfold fromE;rw [if_neg (by simpa using h1),if_neg h2]
   rw [he]
   refine RH.adv tk [false,false] rfl rfl (by simp [h1]<;>omega) ?_
   have hzl:(names.zip sums).length=names.length:=by rw [List.length_zip];omega
   refine RH.loop (α:=Nat × At2 × Option Tree) (λy=>[(0,slE A names.length c),(1,slE B sums.length d),(4,.av (.box 0 m0 0)),(6,.av (.box 1 (m0+1) 0)),(21,slE A names.length c),(22,intE names.length),(23,intE y.1)])
    (λy=>[(0,some (.box m0 (rmF kn0 [] []) 81)),(1,some (.box (m0+1) (rmF y.2.1 (ksO y.2.2) (xsO y.2.2)) 81))])
    (λy u=>((K u/\Sl kStr u A c names/\Sl kSum u B d sums)/\Late (λ_=>True) (λu=>RM u y.2.1 (ksO y.2.2) (xsO y.2.2)) m0 u)/\y.1 ≤ names.length/\y.2.2=fromO ((names.zip sums).take y.1)/\scanN [] names=scanN (names.take y.1) (names.drop y.1)) (λy=>names.length - y.1) (0,kn0,none) rfl rfl (λu hu=>⟨⟨hu,λv _ _=>RM.nil v⟩,Nat.zero_le _,rfl,rfl⟩) ?_
   rintro ⟨i,z,t⟩ m1
   refine RH.pure (λu hu=>hu.2) λ⟨hi,ht,hsc⟩=>?_
   refine V.RH.know (λu=>(K u/\Sl kStr u A c names/\Sl kSum u B d sums)/\Late (λ_=>True) (λu=>RM u z (ksO t) (xsO t)) m0 u) (λu h=>h.1) ?_
   refine RH.above (id:=0) rfl rfl λhz1 hz2=>?_
   dsimp only at hi ht hsc ⊢
   have hwt:wfO t:=by rw [ht];exact wf_from _
   have hml:maO t ≤ 600:=by
    have:=many_le ((names.zip sums).take i)
    rw [← ht,List.length_take] at this
    omega
   have hkl:(ksO t).length=maO t:=by rw [List.length_map,entsO_many]
   have hxl:(xsO t).length=(ksO t).length:=by rw [List.length_map,List.length_map]
   by_cases hlt:i < names.length
   ·have hltb:i < sums.length:=by omega
    have hdr:names.drop i=names[i] :: names.drop (i+1):=List.drop_eq_getElem_cons hlt
    have hts:names.take (i+1)=names.take i ++ [names[i]]:=List.take_succ_eq_append_getElem hlt
    rw [hdr] at hsc
    refine RH.pure (λu h=>(⟨h.1.2.1.ptr hlt,h.1.2.2.ptr hltb⟩:Ptr A/\Ptr B)) λ⟨pA,pB⟩=>?_
    have hin:inN (ksO t) names[i]=hasN (names.take i) names[i]:=by
     rw [in_get hwt,ht,get_from_mem,zip_take i h1]
    refine RH.adv tk [true] rfl rfl (by simp [pA,hlt]) ?_
    refine RH.load (strE names[i]) rfl rfl rfl rfl (λu hu=>hu.1.2.1.load hlt) ?_
    by_cases h60:60 < names[i].length
    ·have he:scanN [] names=11:=by rw [hsc,scan_long h60]
     rw [he]
     refine RH.adv tk [true] rfl rfl (by simp [h60]<;>omega) ?_
     exact RH.retBoxT tk (rmE kn0 [] []) Tryz.func48 rfl rfl rfl rfl rfl λw' hst=>⟨kn0,rfl,hst.out [] rfl rfl λu h=>⟨h.1.1,λv _ _=>RM.nil v⟩⟩
    refine RH.adv tk [false] rfl rfl (by simp [h60]<;>omega) ?_
    refine RH.gv (rAtV (ksO t) names[i]) rfl rfl rfl Tryz.call120 (λu hu=>rAt_spec u z (ksO t) (xsO t) (hu.fact.2.now trivial).1 names[i]) ?_
    intro m2 hm2
    by_cases hd:hasN (names.take i) names[i]=true
    ·have he:scanN [] names=5:=by rw [hsc,scan_twice h60 hd]
     rw [he]
     refine RH.adv tk [true] rfl rfl (by simp [hin,hd]) ?_
     exact RH.retBoxT tk (rmE kn0 [] []) Tryz.func48 rfl rfl rfl rfl rfl λw' hst=>⟨kn0,rfl,hst.out [] rfl rfl λu h=>⟨h.1.1,λv _ _=>RM.nil v⟩⟩
    refine RH.adv tk [false] rfl rfl (by simp [hin,hd]) ?_
    have hnn:some (putO t names[i] sums[i])=fromO ((names.zip sums).take (i+1)):=by rw [zip_snoc hlt hltb,from_snoc,← ht]
    refine RH.w [(1,some (.box (m0+1) (rmF z (ksO t) (xsO t)) 81))] 8 ?_
    refine RD.b [] rfl rfl (by simp [pB,hltb]) ?_
    refine RD.ld 5 (sumE sums[i]) rfl rfl (λw' hw=>hw.1.2.2.load hltb) ?_
    refine RD.dd 6 [] 2 (λz':At2=>rmE z' (ksO (some (putO t names[i] sums[i]))) (xsO (some (putO t names[i] sums[i])))) rfl rfl rfl Tryz.call121 (rWith_t z t hwt (by omega) names[i] sums[i]) (λu hu=>hu.fact.2.now trivial) ?_
    intro z2 m3 hm3
    generalize some (putO t names[i] sums[i])=t2 at *
    refine RD.z 7 ?_
    intro m4 hm4
    refine RH.adv tk [] rfl rfl (by simp;omega) ?_
    refine RH.again (i+1,z2,t2) (.head _) rfl rfl (by show names.length - (i+1) < names.length - i;omega) λu hu=>⟨⟨hu.1.1,λv hv hp=>hu.2.up (by omega) hv hp⟩,hlt,hnn,?_⟩
    show scanN [] names=scanN (names.take (i+1)) (names.drop (i+1))
    rw [hsc,scan_next h60 hd,hts]
   ·have hil:i=names.length:=by omega
    have he:scanN [] names=0:=by rw [hsc,hil,List.drop_length];rfl
    have htt:t=fromO (names.zip sums):=by rw [ht,hil,← hzl,List.take_length]
    rw [he,if_pos rfl,← htt]
    refine RH.a [false] ?_
    exact RH.retBoxT tk (rmE z (ksO t) (xsO t)) Tryz.func48 rfl rfl rfl rfl rfl λw' hst=>⟨z,rfl,hst.out [] rfl rfl λu h=>⟨h.1.1,h.2⟩⟩
 ·have he:fromE names sums=7:=by unfold fromE;rw [if_pos (by simpa using h1)]
  rw [he]
  refine RH.adv tk [true] rfl rfl (by simp [h1]<;>omega) ?_
  exact RH.retBoxT tk (rmE kn0 [] []) Tryz.func48 rfl rfl rfl rfl rfl λw' hst=>⟨kn0,rfl,hst.out [] rfl rfl λu h=>⟨h.1,λv _ _=>RM.nil v⟩⟩
mutual
theorem ents_shift:∀ (t:Tree) (b:Str),t.ents b=(t.ents []).map λe=>(b ++ e.1,e.2)
 | .node s v k,b=>by
  rw [ents_node,ents_node,List.nil_append,kents_shift k (b ++ s),kents_shift k s,List.map_append,List.map_map]
  congr 1
  ·cases v<;>rfl
  ·refine List.map_congr_left λe _=>?_
   simp
theorem kents_shift:∀ (k:Kids) (b:Str),k.ents b=(k.ents []).map λe=>(b ++ e.1,e.2)
 | .nil,_=>by rw [Kids.ents,Kids.ents];rfl
 | .cons c t r,b=>by
  rw [Kids.ents,Kids.ents,ents_shift t (b ++ [c]),ents_shift t ([] ++ [c]),kents_shift r b,List.map_append,List.map_map]
  congr 1
  refine List.map_congr_left λe _=>?_
  simp
end
theorem ents_ne {t:Tree} (h:t.wf):t.ents [] ≠ []:=by
 obtain ⟨n,x,hg⟩:=has_name h
 have:=(mem_ents h [] n x).2 ⟨n,rfl,hg⟩
 intro e
 rw [e] at this;cases this
def grpS (n:Nat) (st:List UInt8 × List (List (Str × Sum))) (e:Str × Sum):List UInt8 × List (List (Str × Sum)) :=
 if e.1.length=n then st
 else if st.2=[] ∨ st.1.getLastD 0 ≠ e.1.getD n 0 then (st.1 ++ [e.1.getD n 0],st.2 ++ [[(e.1.drop (n+1),e.2)]])
 else (st.1,st.2.dropLast ++ [st.2.getLastD [] ++ [(e.1.drop (n+1),e.2)]])
def grpL (n:Nat) (E:List (Str × Sum)):List UInt8 × List (List (Str × Sum)):=E.foldl (grpS n) ([],[])
theorem nm_len (s:Str) (b:UInt8) (r:Str):¬ (s ++ [b] ++ r).length=s.length:=by simp
theorem nm_at (s:Str) (b:UInt8) (r:Str):(s ++ [b] ++ r).getD s.length 0=b:=by simp [List.getD_eq_getElem?_getD]
theorem nm_drop (s:Str) (b:UInt8) (r:Str):(s ++ [b] ++ r).drop (s.length+1)=r:=List.drop_left' (by simp)
theorem grp_new (s:Str) (b:UInt8) (r:Str) (x:Sum) {bs:List UInt8} {gs:List (List (Str × Sum))} (h:gs=[] ∨ bs.getLastD 0 ≠ b):grpS s.length (bs,gs) (s ++ [b] ++ r,x)=(bs ++ [b],gs ++ [[(r,x)]]):=by
 unfold grpS
 rw [if_neg (nm_len s b r)]
 dsimp only
 rw [nm_at,nm_drop,if_pos h]
theorem grp_old (s:Str) (b:UInt8) (r:Str) (x:Sum) (bs:List UInt8) (gs:List (List (Str × Sum))) (g:List (Str × Sum)):grpS s.length (bs ++ [b],gs ++ [g]) (s ++ [b] ++ r,x)=(bs ++ [b],gs ++ [g ++ [(r,x)]]):=by
 unfold grpS
 rw [if_neg (nm_len s b r)]
 dsimp only
 rw [nm_at,nm_drop,if_neg (by simp)]
 simp
theorem grp_more (s:Str) (b:UInt8) (bs:List UInt8) (gs:List (List (Str × Sum))):∀ (es g:List (Str × Sum)),(es.map λe=>(s ++ [b] ++ e.1,e.2)).foldl (grpS s.length) (bs ++ [b],gs ++ [g])=(bs ++ [b],gs ++ [g ++ es])
 | [],g=>by simp
 | (r,x) :: q,g=>by
  rw [List.map_cons,List.foldl_cons]
  show List.foldl _ (grpS s.length (bs ++ [b],gs ++ [g]) (s ++ [b] ++ r,x)) _=_
  rw [grp_old,grp_more s b bs gs q]
  simp
theorem grp_kid (s:Str) (b:UInt8) {bs:List UInt8} {gs:List (List (Str × Sum))} (h:gs=[] ∨ bs.getLastD 0 ≠ b):∀ {es:List (Str × Sum)},es ≠ []->(es.map λe=>(s ++ [b] ++ e.1,e.2)).foldl (grpS s.length) (bs,gs)=(bs ++ [b],gs ++ [es])
 | [],h=>absurd rfl h
 | (r,x) :: q,_=>by
  rw [List.map_cons,List.foldl_cons]
  show List.foldl _ (grpS s.length (bs,gs) (s ++ [b] ++ r,x)) _=_
  rw [grp_new s b r x h,grp_more]
  rfl
theorem grp_kids (s:Str):∀ (k:Kids),k.wf->∀ (bs:List UInt8) (gs:List (List (Str × Sum))),(∀ c ∈ k.bytes,gs=[] ∨ bs.getLastD 0 < c)->(k.ents s).foldl (grpS s.length) (bs,gs)=(bs ++ k.bytes,gs ++ k.trees.map λt=>t.ents [])
 | .nil,_,bs,gs,_=>by rw [Kids.ents];simp [Kids.bytes,Kids.trees]
 | .cons b t r,hw,bs,gs,h=>by
  unfold Kids.wf at hw
  rw [Kids.ents,List.foldl_append,ents_shift t (s ++ [b])]
  rw [grp_kid s b ((h b (by simp [Kids.bytes])).imp id λe=>u8_ne e) (ents_ne hw.1)]
  rw [grp_kids s r hw.2.1 _ _ (λc hc=>.inr (by rw [List.getLastD_concat];exact hw.2.2 c hc))]
  simp [Kids.bytes,Kids.trees]
theorem grp_node {s:Str} {v:Option Sum} {k:Kids} (hw:(Tree.node s v k).wf):grpL s.length ((Tree.node s v k).ents [])=(k.bytes,k.trees.map λt=>t.ents []):=by
 unfold Tree.wf at hw
 unfold grpL
 rw [ents_node,List.nil_append,List.foldl_append]
 have h0:(ownL v s).foldl (grpS s.length) ([],[])=([],[]):=by
  cases v with
  | none=>rfl
  | some x =>
   show grpS s.length ([],[]) (s,x)=_
   unfold grpS
   rw [if_pos rfl]
 rw [h0,grp_kids s k hw.1 [] [] (λ_ _=>.inl rfl)]
 simp
def ownS (n:Nat) (o:Option Sum) (e:Str × Sum):Option Sum:=if e.1.length=n then some e.2 else o
def ownF (n:Nat) (E:List (Str × Sum)):Option Sum:=E.foldl (ownS n) none
theorem kents_long {k:Kids} (hw:k.wf) (s:Str):∀ e ∈ k.ents s,∃ c r,c ∈ k.bytes/\e.1=s ++ c :: r:=by
 rintro ⟨m,x⟩ he
 obtain ⟨c,n,rfl,hg⟩:=(mem_kents hw s m x).1 he
 exact ⟨c,n,kget_in hg,rfl⟩
theorem own_kids (s:Str) (o:Option Sum):∀ (E:List (Str × Sum)),(∀ e ∈ E,∃ (c:UInt8) (r:Str),e.1=s ++ c :: r)->E.foldl (ownS s.length) o=o
 | [],_=>rfl
 | e :: r,h=>by
  obtain ⟨c,q,he⟩:=h e (List.mem_cons_self ..)
  rw [List.foldl_cons]
  have:ownS s.length o e=o:=by unfold ownS;rw [if_neg (by rw [he];simp)]
  rw [this]
  exact own_kids s o r λe he=>h e (List.mem_cons_of_mem _ he)
theorem own_node {s:Str} {v:Option Sum} {k:Kids} (hw:(Tree.node s v k).wf):ownF s.length ((Tree.node s v k).ents [])=v:=by
 unfold Tree.wf at hw
 unfold ownF
 rw [ents_node,List.nil_append,List.foldl_append]
 have h0:(ownL v s).foldl (ownS s.length) none=v:=by
  cases v with
  | none=>rfl
  | some x =>
   show ownS s.length none (s,x)=_
   unfold ownS
   rw [if_pos rfl]
 rw [h0]
 exact own_kids s v _ λe he=>by
  obtain ⟨c,r,_,h⟩:=kents_long hw.1 s e he
  exact ⟨c,r,h⟩
theorem node_pre {s:Str} {v:Option Sum} {k:Kids} (hw:(Tree.node s v k).wf):∀ e ∈ (Tree.node s v k).ents [],∃ r,e.1=s ++ r:=by
 intro e he
 unfold Tree.wf at hw
 rw [ents_node,List.nil_append] at he
 rcases List.mem_append.1 he with h|h
 ·cases v with
  | none=>cases h
  | some x =>
   have h:e=(s,x):=List.mem_singleton.1 h
   subst h;exact ⟨[],by simp⟩
 ·obtain ⟨c,r,_,h⟩:=kents_long hw.1 s e h
  exact ⟨_,h⟩
theorem first_of {k:Kids} (s:Str) (hw:k.wf) (h:0 < k.bytes.length):∃ r,∃ h2:0 < (k.ents s).length,((k.ents s)[0]).1=s ++ k.bytes[0] :: r:=by
 cases k with
 | nil=>cases h
 | cons b t q =>
  unfold Kids.wf at hw
  have hne:=ents_ne hw.1
  obtain ⟨e,es,he⟩:=List.exists_cons_of_ne_nil hne
  refine ⟨e.1,?_,?_⟩
  ·rw [Kids.ents,ents_shift t (s ++ [b]),he];simp
  ·simp only [Kids.ents,ents_shift t (s ++ [b]),he,Kids.bytes]
   simp
theorem last_of:∀ {k:Kids} (s:Str),k.wf->0 < k.bytes.length->∃ r e,(k.ents s).getLast? = some e/\e.1=s ++ k.bytes.getLastD 0 :: r
 | .nil,_,_,h=>by cases h
 | .cons b t .nil,s,hw,_=>by
  unfold Kids.wf at hw
  have hne:=ents_ne hw.1
  refine ⟨((t.ents []).getLast hne).1,(s ++ [b] ++ ((t.ents []).getLast hne).1,((t.ents []).getLast hne).2),?_,?_⟩
  ·rw [Kids.ents,Kids.ents,List.append_nil,ents_shift t (s ++ [b]),List.getLast?_map,List.getLast?_eq_some_getLast hne];rfl
  ·simp [Kids.bytes]
 | .cons b t (.cons c u q),s,hw,_=>by
  unfold Kids.wf at hw
  obtain ⟨r,e,h1,h2⟩:=last_of s hw.2.1 (by simp [Kids.bytes])
  refine ⟨r,e,?_,?_⟩
  ·rw [Kids.ents,List.getLast?_append,h1];rfl
  ·rw [h2];simp [Kids.bytes]
theorem stem_lcp {s:Str} {v:Option Sum} {k:Kids} (hw:(Tree.node s v k).wf) {E:List (Str × Sum)} (hE:E=(Tree.node s v k).ents []) {a b:Str × Sum} (ha:E[0]? = some a) (hb:E.getLast? = some b):lcp a.1 b.1=s.length/\(s.length < a.1.length->s.length < b.1.length):=by
 have hsplit:(Tree.node s v k).ents []=ownL v s ++ k.ents s:=by rw [ents_node,List.nil_append]
 unfold Tree.wf at hw
 rw [hsplit] at hE
 cases v with
 | some x =>
  subst hE
  have ea:a=(s,x):=by simpa [ownL] using ha.symm
  subst ea
  rcases Nat.eq_zero_or_pos k.bytes.length with h0|h0
  ·have hk:k = .nil:=by cases k with|nil=>rfl|cons b t r=>simp [Kids.bytes] at h0
   subst hk
   rw [Kids.ents] at hb
   have eb:b=(s,x):=by simpa [ownL] using hb.symm
   subst eb
   refine ⟨?_,λh=>absurd h (Nat.lt_irrefl _)⟩
   have:=lcp_app s [] []
   rw [List.append_nil] at this
   rw [this];rfl
  ·obtain ⟨r,e,h1,h2⟩:=last_of s hw.1 h0
   rw [List.getLast?_append,h1] at hb
   have eb:e=b:=by simpa using hb
   subst eb
   rw [h2]
   refine ⟨?_,λh=>absurd h (Nat.lt_irrefl _)⟩
   have:=lcp_app s [] (k.bytes.getLastD 0 :: r)
   rw [List.append_nil] at this
   rw [this];rfl
 | none =>
  have h2:2 ≤ k.bytes.length:=hw.2.resolve_left (by simp)
  subst hE
  have hv0:ownL none s=[]:=rfl
  rw [hv0,List.nil_append] at ha hb
  obtain ⟨r,e,h3,h4⟩:=last_of s hw.1 (by omega)
  obtain ⟨q,h5,h6⟩:=first_of s hw.1 (by omega)
  rw [h3] at hb
  have eb:e=b:=by simpa using hb
  subst eb
  rw [List.getElem?_eq_getElem h5] at ha
  have ea:(k.ents s)[0]=a:=by simpa using ha
  rw [← ea,h4,h6]
  refine ⟨?_,λ_=>by simp⟩
  rw [lcp_app,lcp_ne]
  ·rfl
  ·cases k with
   | nil=>cases h2
   | cons b t u =>
    cases u with
    | nil=>simp [Kids.bytes] at h2
    | cons c t2 u =>
     unfold Kids.wf at hw
     have hm:(Kids.cons c t2 u).bytes.getLastD 0 ∈ (Kids.cons c t2 u).bytes:=by
      simp only [Kids.bytes]
      rw [List.getLastD_eq_getLast?,List.getLast?_eq_some_getLast (by simp)]
      exact List.getLast_mem _
     have h7:=hw.1.2.2 _ hm
     have h8:(Kids.cons b t (Kids.cons c t2 u)).bytes.getLastD 0=(Kids.cons c t2 u).bytes.getLastD 0:=by simp [Kids.bytes]
     rw [h8]
     exact u8_ne h7
abbrev Mp:Type:=At2 × Nat × Nat
abbrev mpF (m:Mp):List AV:=[.val (.slice m.1.1.1 m.2.1 m.1.1.2),.val (.slice m.1.2.1 m.2.2 m.1.2.2)]
theorem mp_cells (m:Mp):(EV.st (mpF m)).v = .agg #[.slice m.1.1.1 m.2.1 m.1.1.2,.slice m.1.2.1 m.2.2 m.1.2.2]:=by simp [EV.v,AV.v,flat,Value.cells]
def kMap:Kd Mp where
 T:=81
 sz:=2
 ev m:=.st (mpF m)
 ok m:=by
  rw [mp_cells]
  refine ⟨_,Tryz.t81,rfl,rfl,rfl,?_⟩
  intro u hu
  simp only [List.mem_cons,List.not_mem_nil,or_false] at hu
  rcases hu with rfl|rfl<;>rfl
 size m:=by rw [mp_cells];rfl
theorem elt_map:ElT tb kMap.T 2 48:=⟨⟨Tryz.t81,(Tryz.t81).zero.getD undef,by kernel_rfl,by kernel_rfl,by kernel_rfl,by kernel_rfl,by kernel_rfl⟩,by decide⟩
theorem map_cs (m:Mp):kMap.cs m=[.slice m.1.1.1 m.2.1 m.1.1.2,.slice m.1.2.1 m.2.2 m.1.2.2]:=by
 show ((EV.st (mpF m)).v).cells.toList=_
 rw [mp_cells];rfl
theorem mp_names {w:World} {A:Option Addr} {c:Nat} {l:List Mp} (h:Sl kMap w A c l) {i:Nat} (hi:i < l.length):(loadVar 25 ⟨blkA A,offA A+i*2+0,none⟩).run Tryz.prog w = .ok (.slice l[i].1.1.1 l[i].2.1 l[i].1.1.2) w :=
 YtbfjmimiigjenaaGreatDoor.Sl.field h hi 0 ⟨rfl,Tryz.t25,rfl,rfl⟩ λj x hx=>by
  cases j with
  | zero=>rw [map_cs];exact hx
  | succ j=>simp [Value.cells] at hx
theorem mp_sums {w:World} {A:Option Addr} {c:Nat} {l:List Mp} (h:Sl kMap w A c l) {i:Nat} (hi:i < l.length):(loadVar 26 ⟨blkA A,offA A+i*2+1,none⟩).run Tryz.prog w = .ok (.slice l[i].1.2.1 l[i].2.2 l[i].1.2.2) w :=
 YtbfjmimiigjenaaGreatDoor.Sl.field h hi 1 ⟨rfl,Tryz.t26,rfl,rfl⟩ λj x hx=>by
  cases j with
  | zero=>rw [map_cs];exact hx
  | succ j=>simp [Value.cells] at hx
theorem put_take {β:Type} (C vs:List β) (q N:Nat) (hN:q+vs.length ≤ N) (hC:N ≤ C.length):(C.take q ++ vs ++ C.drop (q+vs.length)).take N=(C.take N).take q ++ vs ++ (C.take N).drop (q+vs.length):=by
 have hl:(C.take q ++ vs).length=q+vs.length:=by rw [List.length_append,List.length_take];omega
 have e:N=(C.take q ++ vs).length+(N - (q+vs.length)):=by omega
 rw [List.take_take,Nat.min_eq_left (by omega),List.drop_take]
 conv=>lhs;rw [e]
 rw [List.take_length_add_append]
theorem mid_split {β:Type} (F vs:List β) (p sz f k:Nat) (h:f+k ≤ sz) (hF:p+sz ≤ F.length):F.take p ++ (((F.drop p).take sz).take f ++ vs ++ ((F.drop p).take sz).drop (f+k)) ++ F.drop (p+sz)=F.take (p+f) ++ vs ++ F.drop (p+f+k):=by
 have e1:F.take (p+f)=F.take p ++ (F.drop p).take f:=List.take_add
 have e2:F.drop (p+f+k)=((F.drop p).take sz).drop (f+k) ++ F.drop (p+sz):=by
  rw [show F.drop (p+f+k)=(F.drop p).drop (f+k) by rw [List.drop_drop];congr 1;omega,show F.drop (p+sz)=(F.drop p).drop sz by rw [List.drop_drop]]
  rw [← List.drop_append_of_le_length (by rw [List.length_take,List.length_drop];omega),List.take_append_drop]
 rw [e1,e2,List.take_take,Nat.min_eq_left (by omega)]
 simp only [List.append_assoc]
section
variable {α:Type} {κ:Kd α} {w:World} {A:Option Addr} {c:Nat} {l:List α} {B:Nat}
theorem V.run_storeFld {T:TypeId} {v:Value} (hv:VOk tb T v) (h:w.ownsRow B κ.T κ.sz (.slice A l.length c) l.length (l.flatMap κ.cs)) {i:Nat} (hi:i < l.length) (f:Nat) (x:α) (hf:f+v.cells.size ≤ κ.sz)
  (hx:κ.cs x=(κ.cs l[i]).take f ++ v.cells.toList ++ (κ.cs l[i]).drop (f+v.cells.size)) :
  ∃ w',(storeVar T ⟨blkA A,offA A+i*κ.sz+f,none⟩ v).run Tryz.prog w = .ok () w'/\w'.ownsRow B κ.T κ.sz (.slice A (l.set i x).length c) (l.set i x).length ((l.set i x).flatMap κ.cs)/\Agr (λk=>k=blkA A) w w'/\w'.heap.size=w.heap.size:=by
 rcases h.2 with ⟨_,h2⟩|⟨g,cap,cur,hv',hg,hh,hc,hm,hcs,ht⟩
 ·omega
 ·injection hv' with h3 h4 h5
  subst h3;subst h5
  have hmul:i*κ.sz+κ.sz ≤ l.length*κ.sz:=by rw [← Nat.succ_mul];exact Nat.mul_le_mul_right _ hi
  have hmul2:l.length*κ.sz ≤ c*κ.sz:=Nat.mul_le_mul_right _ hc
  obtain ⟨w',h1,h2,h3,h4⟩:=run_storeAt (P:=Tryz.prog) tk hv (o:=i*κ.sz+f) hh (by rw [hcs];omega)
  have hb:blkA (some (⟨g,0,none⟩:Addr))=g:=rfl
  have ho:offA (some (⟨g,0,none⟩:Addr))=0:=rfl
  rw [hb,ho,Nat.zero_add]
  have hvl:v.cells.toList.length=v.cells.size:=Array.length_toList
  refine ⟨w',h1,⟨?_,.inr ⟨g,c,_,rfl,hg,h2,?_,hm,?_,?_⟩⟩,h3,h4⟩
  ·rw [κ.flL]
  ·simpa using hc
  ·simp only [List.size_toArray,List.length_append,List.length_take,List.length_drop,Array.length_toList]
   omega
  ·have hg2:=κ.get l i hi
   have hfl:(l.flatMap κ.cs).length=l.length*κ.sz:=κ.flL l
   rw [← flat_setK l i x hi,hx,← hg2,mid_split (l.flatMap κ.cs) v.cells.toList (i*κ.sz) κ.sz f v.cells.size hf (by omega),List.length_set,← ht]
   have:=put_take cur.toList v.cells.toList (i*κ.sz+f) (l.length*κ.sz) (by rw [hvl];omega) (by have h9:cur.toList.length=cur.size:=Array.length_toList;omega)
   rw [hvl] at this
   exact this
end
section
variable {B0:Nat} {I:World->Prop} {H:Heap} {α:Type} {κ:Kd α} {A:Option Addr} {c:Nat} {l:List α} {id:Nat}
theorem V.St.storeFld {w:World} (h:St tb B0 H I w) {T:TypeId} {v:Value} (hv:VOk tb T v) (hH:loH H id=rowE κ A c l) {i:Nat} (hi:i < l.length) (f:Nat) (x:α) (hf:f+v.cells.size ≤ κ.sz)
  (hx:κ.cs x=(κ.cs l[i]).take f ++ v.cells.toList ++ (κ.cs l[i]).drop (f+v.cells.size)) :
  ∃ w',(storeVar T ⟨blkA A,offA A+i*κ.sz+f,none⟩ v).run Tryz.prog w = .ok () w'/\w.heap.size ≤ w'.heap.size/\St tb B0 ((id,rowE κ A c (l.set i x)) :: H) I w':=by
 obtain ⟨w',h1,h2,h3,h4⟩:=run_storeFld hv (h.row hH) hi f x hf hx
 obtain ⟨g,rfl⟩:=own_ptr (h.row hH) (by rintro rfl;cases hi)
 have hH':loH H id=some (HE.row (.slice (some ⟨g,0,none⟩) l.length c) κ.T κ.sz l.length (l.flatMap κ.cs)):=hH
 have ht:St tb B0 ((id,some (HE.row (.slice (some ⟨g,0,none⟩) (l.set i x).length c) κ.T κ.sz (l.set i x).length ((l.set i x).flatMap κ.cs))) :: H) I w':=by
  refine h.turn id _ _ hH' (h3.mono λk _ e=>?_) h2 λk hk=>.inl hk
  subst e;rfl
 exact ⟨w',h1,by rw [h4];exact Nat.le_refl _,ht⟩
end
section
variable {f:Fr} {n:Nat} {S:Stops} {R:Ending->World->Prop} {B0:Nat} {I:World->Prop} {H:Heap} {nx m:Nat} {env:SEnv} {k:List Item} {ops:Array Oper} {i:Nat} {l:List Bool} {X:World->Prop} {fuel:Nat} {ty:TypeId} {ps:String} {af:Array Edge} {gd:Option (Nat × Bool)} {T:TypeId} {px y:Operand} {pa:Addr} {ey:EV}
theorem V.RunL.storeS (H':Heap)
  (ho:ops.toList[i]? = some ⟨none,.store T px y,ty,ps,af,gd⟩) (hr:Region.ready .any ops l.toArray=[i]) (hw:wantE env ops gd = .yes) (hf:finC ops i=true) (hx:ptrE (evE env px)=some pa) (hy:evE env y=some ey)
  (hv:∀ w,w.heap.size=m->St tb B0 H I w->∃ w',(storeVar T pa ey.v).run Tryz.prog w = .ok () w'/\w.heap.size ≤ w'.heap.size/\St tb B0 H' I w')
  (hk:∀ m',m ≤ m'->RunL Tryz.prog f n tb B0 S R k ops X fuel (l.set i true) env H' nx m' I):RunL Tryz.prog f n tb B0 S R k ops X (fuel+1) l env H nx m I :=
 let ⟨_,h1,h2⟩:=ptrE_ok hx;RunL.go ho hr hw hf (OpGo.store h1 h2 hy hv) nx λ_=>hk
theorem V.RunL.storeFld {α:Type} {κ:Kd α} {A:Option Addr} {c:Nat} {t:List α} {id:Nat} (j fo:Nat) (x:α)
  (ho:ops.toList[i]? = some ⟨none,.store T px y,ty,ps,af,gd⟩) (hr:Region.ready .any ops l.toArray=[i]) (hw:wantE env ops gd = .yes) (hf:finC ops i=true) (hx:ptrE (evE env px)=some pa) (hy:evE env y=some ey)
  (hv:VOk tb T ey.v) (hH:loH H id=rowE κ A c t) (hp:pa=⟨blkA A,offA A+j*κ.sz+fo,none⟩) (hj:j < t.length) (hfo:fo+ey.v.cells.size ≤ κ.sz) (hcs:κ.cs x=(κ.cs t[j]).take fo ++ ey.v.cells.toList ++ (κ.cs t[j]).drop (fo+ey.v.cells.size))
  (hk:∀ m',m ≤ m'->RunL Tryz.prog f n tb B0 S R k ops X fuel (l.set i true) env ((id,rowE κ A c (t.set j x)) :: H) nx m' I):RunL Tryz.prog f n tb B0 S R k ops X (fuel+1) l env H nx m I :=
 RunL.storeS _ ho hr hw hf hx hy (λw _ hst=>by rw [hp];exact hst.storeFld hv hH hj fo x hfo hcs) hk
end
theorem last_dec {β:Type} {l:List β} {a:β} (h:l.getLast? = some a):l.dropLast ++ [a]=l:=by
 have hne:l ≠ []:=λe=>by rw [e] at h;cases h
 rw [List.getLast?_eq_some_getLast hne] at h
 injection h with h
 subst h
 exact List.dropLast_concat_getLast hne
theorem set_end {β:Type} (d:List β) (a b:β):(d ++ [a]).set ((d ++ [a]).length - 1) b=d ++ [b]:=by
 rw [List.length_append,List.set_append_right _ _ (by simp)]
 simp
theorem set_last {β:Type} {l:List β} {a:β} (b:β) (h:l.getLast? = some a):l.set (l.length - 1) b=l.dropLast ++ [b]:=by
 have e:=last_dec h
 have h2:=set_end l.dropLast a b
 rw [e] at h2
 exact h2
def KM (u:World) (ms:List Mp) (gs:List (List (Str × Sum))):Prop:=ms.length=gs.length/\∀ (j:Nat) (h:j < ms.length) (h2:j < gs.length),ms[j].2=(gs[j].length,gs[j].length)/\RM u ms[j].1 (gs[j].map Prod.fst) (gs[j].map Prod.snd)
theorem KM.nil (u:World):KM u [] []:=⟨rfl,λj h=>nomatch h⟩
theorem KM.snoc {u:World} {ms:List Mp} {gs:List (List (Str × Sum))} (h:KM u ms gs) {y:At2} {g:List (Str × Sum)} (hy:RM u y (g.map Prod.fst) (g.map Prod.snd)):KM u (ms ++ [(y,g.length,g.length)]) (gs ++ [g]):=by
 refine ⟨by simp [h.1],λj h1 h2=>?_⟩
 rw [List.length_append] at h1
 by_cases hj:j < ms.length
 ·rw [List.getElem_append_left hj,List.getElem_append_left (by rw [← h.1];exact hj)]
  exact h.2 j hj (by rw [← h.1];exact hj)
 ·have e:j=ms.length:=by simp at h1;omega
  subst e
  have e2:(gs ++ [g])[ms.length]'(by simp [h.1])=g:=by simp [h.1]
  rw [e2]
  simp only [List.getElem_append_right (Nat.le_refl _),Nat.sub_self,List.getElem_cons_zero]
  exact ⟨trivial,hy⟩
end Go.Proofs.YtbfjmimiigjenaaGreatDoor
