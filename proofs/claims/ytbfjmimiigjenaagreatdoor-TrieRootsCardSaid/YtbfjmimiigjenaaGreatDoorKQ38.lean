/-
Lemmas. No condition.
-/
import Derived.Test.YtbfjmimiigjenaaGreatDoorKQ36
import Derived.Test.YtbfjmimiigjenaaGreatDoorKVMakeR
import Derived.Test.YtbfjmimiigjenaaGreatDoorKVZ
set_option linter.unusedVariables false
set_option linter.unusedSectionVars false
set_option linter.unusedSimpArgs false
namespace Go.Proofs.YtbfjmimiigjenaaGreatDoor
open Go V RowKit
abbrev s0E (x:(Option Addr × Nat) × (Option Addr × Nat)):Stp:=⟨[97],false,Sum.zero,x.1.1,[98,99],x.1.2,x.2.1,[oA,oB],x.2.2⟩
abbrev s1E (x:(Option Addr × Nat) × (Option Addr × Nat)):Stp:=⟨[],true,sA,x.1.1,[],x.1.2,x.2.1,[],x.2.2⟩
theorem inv0 {s:Stp} (h:s.dat=st0):∃ x,s=s0E x:=by
 obtain ⟨a,b,c,d,e,f,g,i,j⟩:=s
 unfold Stp.dat st0 at h
 simp only [Prod.mk.injEq] at h
 obtain ⟨rfl,rfl,rfl,rfl,rfl⟩:=h
 exact ⟨((d,f),(g,j)),rfl⟩
theorem inv1 {s:Stp} (h:s.dat=st1):∃ x,s=s1E x:=by
 obtain ⟨a,b,c,d,e,f,g,i,j⟩:=s
 unfold Stp.dat st1 at h
 simp only [Prod.mk.injEq] at h
 obtain ⟨rfl,rfl,rfl,rfl,rfl⟩:=h
 exact ⟨((d,f),(g,j)),rfl⟩
theorem invL2 {l:List Stp} (h:l.map Stp.dat=[st0,st1]):∃ x y,l=[s0E x,s1E y]:=by
 cases l with
 | nil=>exact absurd (congrArg List.length h) (by simp)
 | cons a r =>
  cases r with
  | nil=>exact absurd (congrArg List.length h) (by simp)
  | cons b r =>
   cases r with
   | cons _ _=>exact absurd (congrArg List.length h) (by simp)
   | nil =>
    simp only [List.map_cons,List.map_nil,List.cons.injEq,and_true] at h
    obtain ⟨x,rfl⟩:=inv0 h.1
    obtain ⟨y,rfl⟩:=inv1 h.2
    exact ⟨x,y,rfl⟩
theorem invL1 {l:List Stp} (h:l.map Stp.dat=[st0]):∃ x,l=[s0E x]:=by
 cases l with
 | nil=>exact absurd (congrArg List.length h) (by simp)
 | cons a r =>
  cases r with
  | cons _ _=>exact absurd (congrArg List.length h) (by simp)
  | nil =>
   simp only [List.map_cons,List.map_nil,List.cons.injEq,and_true] at h
   obtain ⟨x,rfl⟩:=inv0 h
   exact ⟨x,rfl⟩
theorem invLe {l:List Stp} (h:l.map Stp.dat=[st1]):∃ x,l=[s1E x]:=by
 cases l with
 | nil=>exact absurd (congrArg List.length h) (by simp)
 | cons a r =>
  cases r with
  | cons _ _=>exact absurd (congrArg List.length h) (by simp)
  | nil =>
   simp only [List.map_cons,List.map_nil,List.cons.injEq,and_true] at h
   obtain ⟨x,rfl⟩:=inv1 h
   exact ⟨x,rfl⟩
theorem op_bytes {n:Nat} {env:SEnv} {a:Act} (ha:Agree n a (kn env)) {o:Oper} {x:Operand} {ex:EV} {A:Option Addr} {c:Nat} {l:List UInt8} {w:World} (hop:o.op = .convert 22 9 x) (hx:evE env x=some ex) (hxv:ex.v = .slice A l.length c) (hne:l ≠ []) (hs:Sl kBy w A c l) :
  (execOp a.eval o).run Tryz.prog w = .ok (.value (strE l).v) w:=by
 have hxv':a.eval x = .slice A l.length c:=(ev_run ha hx).trans hxv
 have hp:=hs.addr hne
 unfold Ptr at hp
 have h:=run_convert_bytes_back (P:=Tryz.prog) w 22 9 5 ⟨blkA A,offA A,none⟩ c l (tk.und rfl) (tk.und rfl) (tk.und rfl) (λj hj=>by
  rw [Addr.add_lit]
  refine hs.cells j _ ?_
  rw [← map_flat,List.getElem?_map,List.getElem?_eq_getElem hj]
  rfl)
 simp only [execOp,hop,hxv']
 rw [hp,Sem.run_bind,h]
 rfl
set_option maxRecDepth 10000 in
set_option maxHeartbeats 4000000 in
theorem awake_spec (w:World) (hG:Glob w):Gives Tryz.prog 30 [] w .tt:=by
 have hlim:lim=140737488351232:=rfl
 have hz31:(Tryz.t31).size=1:=by kernel_rfl
 refine enterH tk [] Tryz.func30 rfl Tryz.ntmps30 rfl rfl ?_
 refine RH.a [] ?_
 refine RH.dd [] 5 (λo:Option Plot=>mapE o) rfl rfl rfl Tryz.call100 (lmade_spec (some ⟨w.heap.size,0,none⟩) 2 [[97,98],[97,99]] (by decide) fe_ab) (λu hu=>⟨hG.ext hu.fact,Sl.own (B:=w.heap.size) (hu.row (κ:=kStr) (l:=[[97,98],[97,99]]) (id:=0) rfl) (by simp [hlim])⟩) ?_
 rintro o1 m1 hm1
 refine V.RH.know (λu=>Ext w u/\IsO u o1 (some tM)) (λu h=>⟨h.1,made_ab ▸ h.2.now trivial⟩) ?_
 refine RH.adv tk [] rfl rfl (by simp [hz31,Value.oneCell']<;>omega) ?_
 refine RH.tell [(1,.av (.box 5 m1 0)),(34,mapE o1)] [(5,some (.box m1 [.val (ptrO o1)] 31))] [] rfl rfl rfl 20 ?_
 refine RH.dd [] 22 (λy:(Option Addr × Nat) × List Stp=>.av (.val (.tuple #[.slice y.1.1 y.2.length y.1.2,intV 0]))) rfl rfl rfl Tryz.call52 (Way_ok o1 (some tM) ok_tM.1 [97,98] (by decide)) (λu hu=>hu.fact.2) ?_
 rintro ⟨⟨A1,c1⟩,l1⟩ m2 hm2
 refine RH.pure (λu hu=>(hu.2.now trivial).1.trans way_ab) λhl1=>?_
 obtain ⟨x0,x1,rfl⟩:=invL2 hl1
 refine RH.free (i:=20) rfl ?_
 refine V.RH.know (λu=>Ext w u/\IsO u o1 (some tM)/\Sl kStp u A1 c1 [s0E x0,s1E x1]/\(s0E x0).ok u/\(s1E x1).ok u) (λu h=>⟨h.1.1.1,h.1.1.2,Sl.own h.2 (by simp [hlim]),(h.1.2.now trivial).2 _ (.head _),(h.1.2.now trivial).2 _ (.tail _ (.head _))⟩) ?_
 refine RH.a [] ?_
 refine RH.tell [(1,.av (.box 5 m1 0)),(39,mapE o1),(2,slE A1 2 c1),(3,intE 0)] [(5,some (.box m1 [.val (ptrO o1)] 31))] [] rfl rfl rfl 30 ?_
 refine RH.dd [] 32 (λy:(Option Addr × Nat) × List Stp=>.av (.val (.tuple #[.slice y.1.1 y.2.length y.1.2,intV 0]))) rfl rfl rfl Tryz.call52 (Way_ok o1 (some tM) ok_tM.1 [97,100] (by decide)) (λu hu=>hu.fact.2.1) ?_
 rintro ⟨⟨A2,c2⟩,l2⟩ m3 hm3
 refine RH.pure (λu hu=>(hu.2.now trivial).1.trans way_ad) λhl2=>?_
 obtain ⟨x2,rfl⟩:=invL1 hl2
 refine RH.free (i:=30) rfl ?_
 refine V.RH.know (λu=>(Ext w u/\IsO u o1 (some tM)/\Sl kStp u A1 c1 [s0E x0,s1E x1]/\(s0E x0).ok u/\(s1E x1).ok u)/\Sl kStp u A2 c2 [s0E x2]/\(s0E x2).ok u) (λu h=>⟨h.1.1,Sl.own h.2 (by simp [hlim]),(h.1.2.now trivial).2 _ (.head _)⟩) ?_
 refine RH.a [] ?_
 refine RH.tell [(1,.av (.box 5 m1 0)),(44,mapE o1),(2,slE A1 2 c1),(3,intE 0),(4,slE A2 1 c2),(5,intE 0)] [(5,some (.box m1 [.val (ptrO o1)] 31))] [] rfl rfl rfl 40 ?_
 refine RH.dd [] 42 (λy:(Option Addr × Nat) × List Stp=>.av (.val (.tuple #[.slice y.1.1 y.2.length y.1.2,intV 0]))) rfl rfl rfl Tryz.call52 (Way_ok o1 (some tM) ok_tM.1 [] (by decide)) (λu hu=>hu.fact.1.2.1) ?_
 rintro ⟨⟨A3,c3⟩,l3⟩ m4 hm4
 refine RH.pure (λu hu=>(hu.2.now trivial).1.trans way_0) λhl3=>?_
 obtain ⟨x3,rfl⟩:=invL1 hl3
 refine V.RH.know (λu=>(Ext w u/\IsO u o1 (some tM)/\Sl kStp u A1 c1 [s0E x0,s1E x1]/\(s0E x0).ok u/\(s1E x1).ok u)/\Sl kStp u A2 c2 [s0E x2]/\(s0E x2).ok u) (λu h=>h.1) ?_
 refine RH.a [] ?_
 refine RH.tell [(1,.av (.box 5 m1 0)),(2,slE A1 2 c1),(3,intE 0),(4,slE A2 1 c2),(5,intE 0),(6,slE A3 1 c3),(7,intE 0)] [(5,some (.box m1 [.val (ptrO o1)] 31))] [] rfl rfl rfl 50 ?_
 refine RH.pure (λu h=>(⟨h.1.2.2.1.ptr (i:=0) (Nat.succ_pos _),h.2.1.ptr (i:=0) (Nat.succ_pos _)⟩:Ptr A1/\Ptr A2)) λ⟨hpA1,hpA2⟩=>?_
 refine RH.w [] 76 ?_
 refine RD.b [false,false] rfl rfl (by simp [hpA1]<;>omega) ?_
 refine RD.ld 11 (strE [97]) rfl rfl (λu hu=>stp_stem hu.1.2.2.1 (i:=0) (Nat.succ_pos _)) ?_
 refine RD.b [false] rfl rfl (by simp [hpA1]<;>omega) ?_
 refine RD.ld 18 (boE false) rfl rfl (λu hu=>stp_has hu.1.2.2.1 (i:=0) (Nat.succ_pos _)) ?_
 refine RD.b [false] rfl rfl (by simp [hpA1]<;>omega) ?_
 refine RD.ld 24 (slE x0.1.1 2 x0.1.2) rfl rfl (λu hu=>stp_bytes hu.1.2.2.1 (i:=0) (Nat.succ_pos _)) ?_
 refine RD.r 25 (strE [98,99]) rfl rfl (λu a h hag=>op_bytes (A:=x0.1.1) (c:=x0.1.2) (l:=[98,99]) hag rfl rfl rfl (by simp) h.1.2.2.2.1.1) ?_
 refine RD.b [false] rfl rfl (by simp [hpA1]<;>omega) ?_
 refine RD.ld 32 (slE x0.2.1 2 x0.2.2) rfl rfl (λu hu=>stp_nodes hu.1.2.2.1 (i:=0) (Nat.succ_pos _)) ?_
 refine RD.b [false] rfl rfl (by simp [hpA1]<;>omega) ?_
 refine RD.ld 40 (strE []) rfl rfl (λu hu=>stp_stem hu.1.2.2.1 (i:=1) (Nat.succ_lt_succ (Nat.succ_pos _))) ?_
 refine RD.b [false] rfl rfl (by simp [hpA1]<;>omega) ?_
 refine RD.ld 47 (boE true) rfl rfl (λu hu=>stp_has hu.1.2.2.1 (i:=1) (Nat.succ_lt_succ (Nat.succ_pos _))) ?_
 refine RD.b [false] rfl rfl (by simp [hpA1]<;>omega) ?_
 refine RD.ld 54 (sumE sA) rfl rfl (λu hu=>stp_sum hu.1.2.2.1 (i:=1) (Nat.succ_lt_succ (Nat.succ_pos _))) ?_
 refine RD.gv 55 (sumE (sum1 1)) rfl rfl rfl Tryz.call21 (λu hu=>one3_spec u 1) ?_
 intro m5 hm5
 refine RD.r 56 (boE (!decide (sA=sum1 1))) rfl rfl (λw' a h hag=>op_neq hag rfl rfl rfl rfl rfl (by kernel_rfl) (eq_sum w' 9998 _ _)) ?_
 refine RD.b [false,false,false,false] rfl rfl (by simp [sA]) ?_
 refine RD.e ?_
 refine RH.a [false] ?_
 refine RH.tell [(1,.av (.box 5 m1 0)),(2,slE A1 2 c1),(4,slE A2 1 c2),(125,mapE o1)] [(5,some (.box m1 [.val (ptrO o1)] 31))] [] rfl rfl rfl 50 ?_
 refine RH.gv (sumE tM.own) rfl rfl rfl Tryz.call24 (λu hu=>Root_spec u (hG.ext hu.fact.1.1) o1 (some tM) hu.fact.1.2.1) ?_
 intro m6 hm6
 refine RH.a [] ?_
 refine RH.gv (verV (sA,true,0)) rfl rfl rfl Tryz.call40 (λu hu=>by
  have:=Verify_spec u (hG.ext hu.fact.1.1) tM.own [97,98] A1 c1 [s0E x0,s1E x1] hu.fact.1.2.2.1 (λs hs=>by
   simp only [List.mem_cons,List.not_mem_nil,or_false] at hs
   rcases hs with rfl|rfl
   ·exact hu.fact.1.2.2.2.1
   ·exact hu.fact.1.2.2.2.2) (λs hs=>by
   simp only [List.mem_cons,List.not_mem_nil,or_false] at hs
   rcases hs with rfl|rfl<;>simp)
  have e:verifyR tM.own [97,98] ([s0E x0,s1E x1].map Stp.dat)=(sA,true,0):=ver_ab
  rw [e] at this
  exact this) ?_
 intro m7 hm7
 refine RH.a [] ?_
 refine RH.tell [(1,.av (.box 5 m1 0)),(4,slE A2 1 c2),(8,.av (.box 50 m7 0)),(9,boE true),(3,intE 0),(133,mapE o1)] [(5,some (.box m1 [.val (ptrO o1)] 31)),(50,some (.box m7 [.val (sumV sA)] 40))] [] rfl rfl rfl 51 ?_
 refine RH.gv (sumE tM.own) rfl rfl rfl Tryz.call24 (λu hu=>Root_spec u (hG.ext hu.fact.1.1) o1 (some tM) hu.fact.1.2.1) ?_
 intro m8 hm8
 refine RH.a [] ?_
 refine RH.gv (verV (Sum.zero,false,0)) rfl rfl rfl Tryz.call40 (λu hu=>by
  have:=Verify_spec u (hG.ext hu.fact.1.1) tM.own [97,100] A2 c2 [s0E x2] hu.fact.2.1 (λs hs=>by
   simp only [List.mem_cons,List.not_mem_nil,or_false] at hs
   subst hs
   exact hu.fact.2.2) (λs hs=>by
   simp only [List.mem_cons,List.not_mem_nil,or_false] at hs
   subst hs;simp)
  have e:verifyR tM.own [97,100] ([s0E x2].map Stp.dat)=(Sum.zero,false,0):=ver_ad
  rw [e] at this
  exact this) ?_
 intro m9 hm9
 refine RH.a [] ?_
 refine RH.tell [(1,.av (.box 5 m1 0)),(8,.av (.box 50 m7 0)),(9,boE true),(3,intE 0),(5,intE 0),(11,boE false),(140,.av (.val (.slice (some ⟨m9+1,0,none⟩) 1 1)))] [(5,some (.box m1 [.val (ptrO o1)] 31)),(50,some (.box m7 [.val (sumV sA)] 40)),(52,rowE kStr (some ⟨m9+1,0,none⟩) 1 [[]])] [] rfl rfl rfl 53 ?_
 refine RH.dd [] 60 (λo:Option Plot=>mapE o) rfl rfl rfl Tryz.call100 (lmade_spec (some ⟨m9+1,0,none⟩) 1 [[]] (by decide) fe_e) (λu hu=>⟨hG.ext hu.fact.1.1,Sl.own (B:=w.heap.size) (hu.row (κ:=kStr) (l:=[[]]) (id:=52) rfl) (by simp [hlim])⟩) ?_
 rintro o2 m10 hm10
 refine V.RH.know (λu=>Ext w u/\IsO u o1 (some tM)/\IsO u o2 (some lM)) (λu h=>⟨h.1.1.1,h.1.1.2.1,made_e ▸ h.2.now trivial⟩) ?_
 refine RH.adv tk [] rfl rfl (by simp [hz31,Value.oneCell']<;>omega) ?_
 refine RH.tell [(1,.av (.box 5 m1 0)),(8,.av (.box 50 m7 0)),(9,boE true),(3,intE 0),(5,intE 0),(11,boE false),(12,.av (.box 60 m10 0)),(143,mapE o2)] [(5,some (.box m1 [.val (ptrO o1)] 31)),(50,some (.box m7 [.val (sumV sA)] 40)),(60,some (.box m10 [.val (ptrO o2)] 31))] [] rfl rfl rfl 62 ?_
 refine RH.dd [] 64 (λy:(Option Addr × Nat) × List Stp=>.av (.val (.tuple #[.slice y.1.1 y.2.length y.1.2,intV 0]))) rfl rfl rfl Tryz.call52 (Way_ok o2 (some lM) ok_lM.1 [] (by decide)) (λu hu=>hu.fact.2.2) ?_
 rintro ⟨⟨A4,c4⟩,l4⟩ m11 hm11
 refine RH.pure (λu hu=>(hu.2.now trivial).1.trans way_e) λhl4=>?_
 obtain ⟨x4,rfl⟩:=invLe hl4
 refine V.RH.know (λu=>Ext w u/\IsO u o1 (some tM)/\IsO u o2 (some lM)) (λu h=>h.1) ?_
 refine RH.adv tk [] rfl rfl (by simp [hz31,Value.oneCell']<;>omega) ?_
 refine RH.tell [(1,.av (.box 5 m1 0)),(8,.av (.box 50 m7 0)),(9,boE true),(3,intE 0),(5,intE 0),(11,boE false),(12,.av (.box 60 m10 0)),(7,intE 0),(13,slE A4 1 c4),(14,.av (.box 64 m11 0))] [(5,some (.box m1 [.val (ptrO o1)] 31)),(50,some (.box m7 [.val (sumV sA)] 40)),(60,some (.box m10 [.val (ptrO o2)] 31)),(64,some (.box m11 [.val (.pointer none)] 31))] [] rfl rfl rfl 66 ?_
 -- the region with orders
 have hz34:[u8V 0,u8V 1,u8V 1] ++ (Builtin.zeroCells ((Tryz.t5).zero.getD undef).cells 31).toList=([0,1,1] ++ List.replicate 31 (0:UInt8)).flatMap kBy.cs:=by kernel_rfl
 have hoe:lM.own=shaW (([0,1,1] ++ List.replicate 31 (0:UInt8)) ++ [0,0]):=own_e
 apply RH.joinK (α:=Unit) (λ_=>[(1,.av (.box 5 m1 0)),(14,.av (.box 64 m11 0))]) (λ_=>[(5,some (.box m1 [.val (ptrO o1)] 31)),(64,some (.box m11 [.val (.pointer none)] 31))]) (λ_ u=>Ext w u/\IsO u o1 (some tM))
 ·refine RH.w [(5,some (.box m1 [.val (ptrO o1)] 31)),(50,some (.box m7 [.val (sumV sA)] 40)),(60,some (.box m10 [.val (ptrO o2)] 31)),(64,some (.box m11 [.val (.pointer none)] 31))] 43 ?_
  refine RD.a [false,false] ?_
  refine RD.gv 8 (sumE (sum1 1)) rfl rfl rfl Tryz.call21 (λu hu=>one3_spec u 1) ?_
  intro m12 hm12
  refine RD.r 9 (boE (!decide (sA=sum1 1))) rfl rfl (λw' a h hag=>op_neq hag rfl rfl rfl rfl rfl (by kernel_rfl) (eq_sum w' 9998 _ _)) ?_
  refine RD.b [false,false,false,false,false] rfl rfl (by simp [sA]) ?_
  refine RD.three (i:=29) (j:=30) (q:=32) (by kernel_rfl) ?_ ?_ ?_
  ·refine opD_go rfl rfl (OpGo.gives (sumE lM.own) rfl rfl rfl rfl Tryz.call24 (λu hu=>Root_spec u (hG.ext hu.fact.1) o2 (some lM) hu.fact.2.2)) 80 (λ_=>rfl) (λ_ _ h=>h) ?_
   rintro ⟨⟩ n29 hn29
   refine RD.a [] ?_
   refine RD.two (i:=30) (j:=32) (by kernel_rfl) ?_ ?_
   ·refine V.opS 70 30 ?_
    refine RD.a [] ?_
    refine RD.two (i:=31) (j:=32) (by kernel_rfl) ?_ ?_
    ·refine opD_go rfl rfl (OpGo.appendMakeR (id:=71) (b:=⟨n29,0,none⟩) (sl:=3) (cap:=3) (q:=31) (e:=5) (i:=Tryz.t5) (z:=(Tryz.t5).zero.getD undef) (olds:=[u8V 0,u8V 1,u8V 1]) tk rfl (by kernel_rfl) (by kernel_rfl) (by kernel_rfl) (by kernel_rfl) (by decide) (by kernel_rfl) rfl rfl rfl rfl (λw' hst j v hj=>?_) (by decide) (by decide) (by decide) (by simp [maxLen])) 73 (λ_=>rfl) (λ_ _ h=>h) ?_
     ·have:=(Sl.own (B:=w.heap.size) (hst.row (κ:=kBy) (l:=[0,1,1]) (id:=70) rfl) (by simp [hlim])).cells j v hj
      rw [Addr.add_lit]
      exact this
     rintro c31 n31 hn31
     rw [hz34]
     refine RD.a [] ?_
     refine RD.s 72 32 ?_
     refine RD.a [] ?_
     refine RD.apK (nx:=80) (i:=33) (κ:=kBy) (id:=71) (l:=([0,1,1] ++ List.replicate 31 (0:UInt8))) (r:=[0,0]) rfl (by kernel_rfl) rfl rfl rfl rfl rfl elt_byte rfl rfl (λw' hst=>hst.liR (id:=72) (κ:=kBy) (l:=[0,0]) rfl (by simp [hlim])) (by decide) (by decide) (λ_ _=>rfl) (λ_ h=>h) ?_
     intro A33 c33 n33 hn33
     refine RD.a [] ?_
     refine RD.gv 34 (sumE (shaW (([0,1,1] ++ List.replicate 31 (0:UInt8)) ++ [0,0]))) rfl rfl rfl Tryz.call78 (λu hu=>Of_spec u (hG.ext hu.fact.1) A33 c33 (([0,1,1] ++ List.replicate 31 (0:UInt8)) ++ [0,0]) (Sl.own (B:=w.heap.size) (hu.row (κ:=kBy) (l:=(([0,1,1] ++ List.replicate 31 (0:UInt8)) ++ [0,0])) (id:=71) rfl) (by simp [hlim])) (by decide)) ?_
     intro n34 hn34
     refine RD.r 35 (boE (!decide (lM.own=shaW (([0,1,1] ++ List.replicate 31 (0:UInt8)) ++ [0,0])))) rfl rfl (λw' a h hag=>op_neq hag rfl rfl rfl rfl rfl (by kernel_rfl) (eq_sum w' 9998 _ _)) ?_
     refine RD.b [false] rfl rfl (by simp [hoe]) ?_
     refine RD.gv 39 (sumE (shaW [])) rfl rfl rfl Tryz.call24 (λu hu=>Root_spec u (hG.ext hu.fact.1) none none trivial) ?_
     intro n39 hn39
     refine RD.gv 40 (sumE (shaW [])) rfl rfl rfl Tryz.call78 (λu hu=>Of_spec u (hG.ext hu.fact.1) none 0 [] (Sl.void u) (by decide)) ?_
     intro n40 hn40
     refine RD.r 41 (boE (!decide (shaW []=shaW []))) rfl rfl (λw' a h hag=>op_neq hag rfl rfl rfl rfl rfl (by kernel_rfl) (eq_sum w' 9998 _ _)) ?_
     refine RD.a [] ?_
     refine RD.e ?_
     refine RH.a [false] ?_
     exact RH.mtS () [] (.head _) rfl rfl rfl λu h=>⟨h.1,h.2.1⟩
    ·refine V.opS 72 32 ?_
     refine RD.a [] ?_
     refine RD.go (i:=31) rfl (by kernel_rfl) rfl (OpGo.appendMakeR (id:=71) (b:=⟨n29,0,none⟩) (sl:=3) (cap:=3) (q:=31) (e:=5) (i:=Tryz.t5) (z:=(Tryz.t5).zero.getD undef) (olds:=[u8V 0,u8V 1,u8V 1]) tk rfl (by kernel_rfl) (by kernel_rfl) (by kernel_rfl) (by kernel_rfl) (by decide) (by kernel_rfl) rfl rfl rfl rfl (λw' hst j v hj=>?_) (by decide) (by decide) (by decide) (by simp [maxLen])) 73 (λ_=>rfl) (λ_ _ h=>h) ?_
     ·have:=(Sl.own (B:=w.heap.size) (hst.row (κ:=kBy) (l:=[0,1,1]) (id:=70) rfl) (by simp [hlim])).cells j v hj
      rw [Addr.add_lit]
      exact this
     rintro c31 n31 hn31
     rw [hz34]
     refine RD.a [] ?_
     refine RD.apK (nx:=80) (i:=33) (κ:=kBy) (id:=71) (l:=([0,1,1] ++ List.replicate 31 (0:UInt8))) (r:=[0,0]) rfl (by kernel_rfl) rfl rfl rfl rfl rfl elt_byte rfl rfl (λw' hst=>hst.liR (id:=72) (κ:=kBy) (l:=[0,0]) rfl (by simp [hlim])) (by decide) (by decide) (λ_ _=>rfl) (λ_ h=>h) ?_
     intro A33 c33 n33 hn33
     refine RD.a [] ?_
     refine RD.gv 34 (sumE (shaW (([0,1,1] ++ List.replicate 31 (0:UInt8)) ++ [0,0]))) rfl rfl rfl Tryz.call78 (λu hu=>Of_spec u (hG.ext hu.fact.1) A33 c33 (([0,1,1] ++ List.replicate 31 (0:UInt8)) ++ [0,0]) (Sl.own (B:=w.heap.size) (hu.row (κ:=kBy) (l:=(([0,1,1] ++ List.replicate 31 (0:UInt8)) ++ [0,0])) (id:=71) rfl) (by simp [hlim])) (by decide)) ?_
     intro n34 hn34
     refine RD.r 35 (boE (!decide (lM.own=shaW (([0,1,1] ++ List.replicate 31 (0:UInt8)) ++ [0,0])))) rfl rfl (λw' a h hag=>op_neq hag rfl rfl rfl rfl rfl (by kernel_rfl) (eq_sum w' 9998 _ _)) ?_
     refine RD.b [false] rfl rfl (by simp [hoe]) ?_
     refine RD.gv 39 (sumE (shaW [])) rfl rfl rfl Tryz.call24 (λu hu=>Root_spec u (hG.ext hu.fact.1) none none trivial) ?_
     intro n39 hn39
     refine RD.gv 40 (sumE (shaW [])) rfl rfl rfl Tryz.call78 (λu hu=>Of_spec u (hG.ext hu.fact.1) none 0 [] (Sl.void u) (by decide)) ?_
     intro n40 hn40
     refine RD.r 41 (boE (!decide (shaW []=shaW []))) rfl rfl (λw' a h hag=>op_neq hag rfl rfl rfl rfl rfl (by kernel_rfl) (eq_sum w' 9998 _ _)) ?_
     refine RD.a [] ?_
     refine RD.e ?_
     refine RH.a [false] ?_
     exact RH.mtS () [] (.head _) rfl rfl rfl λu h=>⟨h.1,h.2.1⟩
   ·refine V.opS 72 32 ?_
    refine RD.a [] ?_
    refine RD.s 70 30 ?_
    refine RD.a [] ?_
    refine RD.go (i:=31) rfl (by kernel_rfl) rfl (OpGo.appendMakeR (id:=71) (b:=⟨n29+1,0,none⟩) (sl:=3) (cap:=3) (q:=31) (e:=5) (i:=Tryz.t5) (z:=(Tryz.t5).zero.getD undef) (olds:=[u8V 0,u8V 1,u8V 1]) tk rfl (by kernel_rfl) (by kernel_rfl) (by kernel_rfl) (by kernel_rfl) (by decide) (by kernel_rfl) rfl rfl rfl rfl (λw' hst j v hj=>?_) (by decide) (by decide) (by decide) (by simp [maxLen])) 73 (λ_=>rfl) (λ_ _ h=>h) ?_
    ·have:=(Sl.own (B:=w.heap.size) (hst.row (κ:=kBy) (l:=[0,1,1]) (id:=70) rfl) (by simp [hlim])).cells j v hj
     rw [Addr.add_lit]
     exact this
    rintro c31 n31 hn31
    rw [hz34]
    refine RD.a [] ?_
    refine RD.apK (nx:=80) (i:=33) (κ:=kBy) (id:=71) (l:=([0,1,1] ++ List.replicate 31 (0:UInt8))) (r:=[0,0]) rfl (by kernel_rfl) rfl rfl rfl rfl rfl elt_byte rfl rfl (λw' hst=>hst.liR (id:=72) (κ:=kBy) (l:=[0,0]) rfl (by simp [hlim])) (by decide) (by decide) (λ_ _=>rfl) (λ_ h=>h) ?_
    intro A33 c33 n33 hn33
    refine RD.a [] ?_
    refine RD.gv 34 (sumE (shaW (([0,1,1] ++ List.replicate 31 (0:UInt8)) ++ [0,0]))) rfl rfl rfl Tryz.call78 (λu hu=>Of_spec u (hG.ext hu.fact.1) A33 c33 (([0,1,1] ++ List.replicate 31 (0:UInt8)) ++ [0,0]) (Sl.own (B:=w.heap.size) (hu.row (κ:=kBy) (l:=(([0,1,1] ++ List.replicate 31 (0:UInt8)) ++ [0,0])) (id:=71) rfl) (by simp [hlim])) (by decide)) ?_
    intro n34 hn34
    refine RD.r 35 (boE (!decide (lM.own=shaW (([0,1,1] ++ List.replicate 31 (0:UInt8)) ++ [0,0])))) rfl rfl (λw' a h hag=>op_neq hag rfl rfl rfl rfl rfl (by kernel_rfl) (eq_sum w' 9998 _ _)) ?_
    refine RD.b [false] rfl rfl (by simp [hoe]) ?_
    refine RD.gv 39 (sumE (shaW [])) rfl rfl rfl Tryz.call24 (λu hu=>Root_spec u (hG.ext hu.fact.1) none none trivial) ?_
    intro n39 hn39
    refine RD.gv 40 (sumE (shaW [])) rfl rfl rfl Tryz.call78 (λu hu=>Of_spec u (hG.ext hu.fact.1) none 0 [] (Sl.void u) (by decide)) ?_
    intro n40 hn40
    refine RD.r 41 (boE (!decide (shaW []=shaW []))) rfl rfl (λw' a h hag=>op_neq hag rfl rfl rfl rfl rfl (by kernel_rfl) (eq_sum w' 9998 _ _)) ?_
    refine RD.a [] ?_
    refine RD.e ?_
    refine RH.a [false] ?_
    exact RH.mtS () [] (.head _) rfl rfl rfl λu h=>⟨h.1,h.2.1⟩
  ·refine V.opS 70 30 ?_
   refine RD.a [] ?_
   refine RD.two (i:=29) (j:=32) (by kernel_rfl) ?_ ?_
   ·refine opD_go rfl rfl (OpGo.gives (sumE lM.own) rfl rfl rfl rfl Tryz.call24 (λu hu=>Root_spec u (hG.ext hu.fact.1) o2 (some lM) hu.fact.2.2)) 80 (λ_=>rfl) (λ_ _ h=>h) ?_
    rintro ⟨⟩ n29 hn29
    refine RD.a [] ?_
    refine RD.two (i:=31) (j:=32) (by kernel_rfl) ?_ ?_
    ·refine opD_go rfl rfl (OpGo.appendMakeR (id:=71) (b:=⟨m12,0,none⟩) (sl:=3) (cap:=3) (q:=31) (e:=5) (i:=Tryz.t5) (z:=(Tryz.t5).zero.getD undef) (olds:=[u8V 0,u8V 1,u8V 1]) tk rfl (by kernel_rfl) (by kernel_rfl) (by kernel_rfl) (by kernel_rfl) (by decide) (by kernel_rfl) rfl rfl rfl rfl (λw' hst j v hj=>?_) (by decide) (by decide) (by decide) (by simp [maxLen])) 73 (λ_=>rfl) (λ_ _ h=>h) ?_
     ·have:=(Sl.own (B:=w.heap.size) (hst.row (κ:=kBy) (l:=[0,1,1]) (id:=70) rfl) (by simp [hlim])).cells j v hj
      rw [Addr.add_lit]
      exact this
     rintro c31 n31 hn31
     rw [hz34]
     refine RD.a [] ?_
     refine RD.s 72 32 ?_
     refine RD.a [] ?_
     refine RD.apK (nx:=80) (i:=33) (κ:=kBy) (id:=71) (l:=([0,1,1] ++ List.replicate 31 (0:UInt8))) (r:=[0,0]) rfl (by kernel_rfl) rfl rfl rfl rfl rfl elt_byte rfl rfl (λw' hst=>hst.liR (id:=72) (κ:=kBy) (l:=[0,0]) rfl (by simp [hlim])) (by decide) (by decide) (λ_ _=>rfl) (λ_ h=>h) ?_
     intro A33 c33 n33 hn33
     refine RD.a [] ?_
     refine RD.gv 34 (sumE (shaW (([0,1,1] ++ List.replicate 31 (0:UInt8)) ++ [0,0]))) rfl rfl rfl Tryz.call78 (λu hu=>Of_spec u (hG.ext hu.fact.1) A33 c33 (([0,1,1] ++ List.replicate 31 (0:UInt8)) ++ [0,0]) (Sl.own (B:=w.heap.size) (hu.row (κ:=kBy) (l:=(([0,1,1] ++ List.replicate 31 (0:UInt8)) ++ [0,0])) (id:=71) rfl) (by simp [hlim])) (by decide)) ?_
     intro n34 hn34
     refine RD.r 35 (boE (!decide (lM.own=shaW (([0,1,1] ++ List.replicate 31 (0:UInt8)) ++ [0,0])))) rfl rfl (λw' a h hag=>op_neq hag rfl rfl rfl rfl rfl (by kernel_rfl) (eq_sum w' 9998 _ _)) ?_
     refine RD.b [false] rfl rfl (by simp [hoe]) ?_
     refine RD.gv 39 (sumE (shaW [])) rfl rfl rfl Tryz.call24 (λu hu=>Root_spec u (hG.ext hu.fact.1) none none trivial) ?_
     intro n39 hn39
     refine RD.gv 40 (sumE (shaW [])) rfl rfl rfl Tryz.call78 (λu hu=>Of_spec u (hG.ext hu.fact.1) none 0 [] (Sl.void u) (by decide)) ?_
     intro n40 hn40
     refine RD.r 41 (boE (!decide (shaW []=shaW []))) rfl rfl (λw' a h hag=>op_neq hag rfl rfl rfl rfl rfl (by kernel_rfl) (eq_sum w' 9998 _ _)) ?_
     refine RD.a [] ?_
     refine RD.e ?_
     refine RH.a [false] ?_
     exact RH.mtS () [] (.head _) rfl rfl rfl λu h=>⟨h.1,h.2.1⟩
    ·refine V.opS 72 32 ?_
     refine RD.a [] ?_
     refine RD.go (i:=31) rfl (by kernel_rfl) rfl (OpGo.appendMakeR (id:=71) (b:=⟨m12,0,none⟩) (sl:=3) (cap:=3) (q:=31) (e:=5) (i:=Tryz.t5) (z:=(Tryz.t5).zero.getD undef) (olds:=[u8V 0,u8V 1,u8V 1]) tk rfl (by kernel_rfl) (by kernel_rfl) (by kernel_rfl) (by kernel_rfl) (by decide) (by kernel_rfl) rfl rfl rfl rfl (λw' hst j v hj=>?_) (by decide) (by decide) (by decide) (by simp [maxLen])) 73 (λ_=>rfl) (λ_ _ h=>h) ?_
     ·have:=(Sl.own (B:=w.heap.size) (hst.row (κ:=kBy) (l:=[0,1,1]) (id:=70) rfl) (by simp [hlim])).cells j v hj
      rw [Addr.add_lit]
      exact this
     rintro c31 n31 hn31
     rw [hz34]
     refine RD.a [] ?_
     refine RD.apK (nx:=80) (i:=33) (κ:=kBy) (id:=71) (l:=([0,1,1] ++ List.replicate 31 (0:UInt8))) (r:=[0,0]) rfl (by kernel_rfl) rfl rfl rfl rfl rfl elt_byte rfl rfl (λw' hst=>hst.liR (id:=72) (κ:=kBy) (l:=[0,0]) rfl (by simp [hlim])) (by decide) (by decide) (λ_ _=>rfl) (λ_ h=>h) ?_
     intro A33 c33 n33 hn33
     refine RD.a [] ?_
     refine RD.gv 34 (sumE (shaW (([0,1,1] ++ List.replicate 31 (0:UInt8)) ++ [0,0]))) rfl rfl rfl Tryz.call78 (λu hu=>Of_spec u (hG.ext hu.fact.1) A33 c33 (([0,1,1] ++ List.replicate 31 (0:UInt8)) ++ [0,0]) (Sl.own (B:=w.heap.size) (hu.row (κ:=kBy) (l:=(([0,1,1] ++ List.replicate 31 (0:UInt8)) ++ [0,0])) (id:=71) rfl) (by simp [hlim])) (by decide)) ?_
     intro n34 hn34
     refine RD.r 35 (boE (!decide (lM.own=shaW (([0,1,1] ++ List.replicate 31 (0:UInt8)) ++ [0,0])))) rfl rfl (λw' a h hag=>op_neq hag rfl rfl rfl rfl rfl (by kernel_rfl) (eq_sum w' 9998 _ _)) ?_
     refine RD.b [false] rfl rfl (by simp [hoe]) ?_
     refine RD.gv 39 (sumE (shaW [])) rfl rfl rfl Tryz.call24 (λu hu=>Root_spec u (hG.ext hu.fact.1) none none trivial) ?_
     intro n39 hn39
     refine RD.gv 40 (sumE (shaW [])) rfl rfl rfl Tryz.call78 (λu hu=>Of_spec u (hG.ext hu.fact.1) none 0 [] (Sl.void u) (by decide)) ?_
     intro n40 hn40
     refine RD.r 41 (boE (!decide (shaW []=shaW []))) rfl rfl (λw' a h hag=>op_neq hag rfl rfl rfl rfl rfl (by kernel_rfl) (eq_sum w' 9998 _ _)) ?_
     refine RD.a [] ?_
     refine RD.e ?_
     refine RH.a [false] ?_
     exact RH.mtS () [] (.head _) rfl rfl rfl λu h=>⟨h.1,h.2.1⟩
   ·refine V.opS 72 32 ?_
    refine RD.a [] ?_
    refine RD.gv 29 (sumE lM.own) rfl rfl rfl Tryz.call24 (λu hu=>Root_spec u (hG.ext hu.fact.1) o2 (some lM) hu.fact.2.2) ?_
    intro n29 hn29
    refine RD.a [] ?_
    refine RD.go (i:=31) rfl (by kernel_rfl) rfl (OpGo.appendMakeR (id:=71) (b:=⟨m12,0,none⟩) (sl:=3) (cap:=3) (q:=31) (e:=5) (i:=Tryz.t5) (z:=(Tryz.t5).zero.getD undef) (olds:=[u8V 0,u8V 1,u8V 1]) tk rfl (by kernel_rfl) (by kernel_rfl) (by kernel_rfl) (by kernel_rfl) (by decide) (by kernel_rfl) rfl rfl rfl rfl (λw' hst j v hj=>?_) (by decide) (by decide) (by decide) (by simp [maxLen])) 73 (λ_=>rfl) (λ_ _ h=>h) ?_
    ·have:=(Sl.own (B:=w.heap.size) (hst.row (κ:=kBy) (l:=[0,1,1]) (id:=70) rfl) (by simp [hlim])).cells j v hj
     rw [Addr.add_lit]
     exact this
    rintro c31 n31 hn31
    rw [hz34]
    refine RD.a [] ?_
    refine RD.apK (nx:=80) (i:=33) (κ:=kBy) (id:=71) (l:=([0,1,1] ++ List.replicate 31 (0:UInt8))) (r:=[0,0]) rfl (by kernel_rfl) rfl rfl rfl rfl rfl elt_byte rfl rfl (λw' hst=>hst.liR (id:=72) (κ:=kBy) (l:=[0,0]) rfl (by simp [hlim])) (by decide) (by decide) (λ_ _=>rfl) (λ_ h=>h) ?_
    intro A33 c33 n33 hn33
    refine RD.a [] ?_
    refine RD.gv 34 (sumE (shaW (([0,1,1] ++ List.replicate 31 (0:UInt8)) ++ [0,0]))) rfl rfl rfl Tryz.call78 (λu hu=>Of_spec u (hG.ext hu.fact.1) A33 c33 (([0,1,1] ++ List.replicate 31 (0:UInt8)) ++ [0,0]) (Sl.own (B:=w.heap.size) (hu.row (κ:=kBy) (l:=(([0,1,1] ++ List.replicate 31 (0:UInt8)) ++ [0,0])) (id:=71) rfl) (by simp [hlim])) (by decide)) ?_
    intro n34 hn34
    refine RD.r 35 (boE (!decide (lM.own=shaW (([0,1,1] ++ List.replicate 31 (0:UInt8)) ++ [0,0])))) rfl rfl (λw' a h hag=>op_neq hag rfl rfl rfl rfl rfl (by kernel_rfl) (eq_sum w' 9998 _ _)) ?_
    refine RD.b [false] rfl rfl (by simp [hoe]) ?_
    refine RD.gv 39 (sumE (shaW [])) rfl rfl rfl Tryz.call24 (λu hu=>Root_spec u (hG.ext hu.fact.1) none none trivial) ?_
    intro n39 hn39
    refine RD.gv 40 (sumE (shaW [])) rfl rfl rfl Tryz.call78 (λu hu=>Of_spec u (hG.ext hu.fact.1) none 0 [] (Sl.void u) (by decide)) ?_
    intro n40 hn40
    refine RD.r 41 (boE (!decide (shaW []=shaW []))) rfl rfl (λw' a h hag=>op_neq hag rfl rfl rfl rfl rfl (by kernel_rfl) (eq_sum w' 9998 _ _)) ?_
    refine RD.a [] ?_
    refine RD.e ?_
    refine RH.a [false] ?_
    exact RH.mtS () [] (.head _) rfl rfl rfl λu h=>⟨h.1,h.2.1⟩
  ·refine V.opS 72 32 ?_
   refine RD.a [] ?_
   refine RD.two (i:=29) (j:=30) (by kernel_rfl) ?_ ?_
   ·refine opD_go rfl rfl (OpGo.gives (sumE lM.own) rfl rfl rfl rfl Tryz.call24 (λu hu=>Root_spec u (hG.ext hu.fact.1) o2 (some lM) hu.fact.2.2)) 80 (λ_=>rfl) (λ_ _ h=>h) ?_
    rintro ⟨⟩ n29 hn29
    refine RD.a [] ?_
    refine RD.s 70 30 ?_
    refine RD.a [] ?_
    refine RD.go (i:=31) rfl (by kernel_rfl) rfl (OpGo.appendMakeR (id:=71) (b:=⟨n29,0,none⟩) (sl:=3) (cap:=3) (q:=31) (e:=5) (i:=Tryz.t5) (z:=(Tryz.t5).zero.getD undef) (olds:=[u8V 0,u8V 1,u8V 1]) tk rfl (by kernel_rfl) (by kernel_rfl) (by kernel_rfl) (by kernel_rfl) (by decide) (by kernel_rfl) rfl rfl rfl rfl (λw' hst j v hj=>?_) (by decide) (by decide) (by decide) (by simp [maxLen])) 73 (λ_=>rfl) (λ_ _ h=>h) ?_
    ·have:=(Sl.own (B:=w.heap.size) (hst.row (κ:=kBy) (l:=[0,1,1]) (id:=70) rfl) (by simp [hlim])).cells j v hj
     rw [Addr.add_lit]
     exact this
    rintro c31 n31 hn31
    rw [hz34]
    refine RD.a [] ?_
    refine RD.apK (nx:=80) (i:=33) (κ:=kBy) (id:=71) (l:=([0,1,1] ++ List.replicate 31 (0:UInt8))) (r:=[0,0]) rfl (by kernel_rfl) rfl rfl rfl rfl rfl elt_byte rfl rfl (λw' hst=>hst.liR (id:=72) (κ:=kBy) (l:=[0,0]) rfl (by simp [hlim])) (by decide) (by decide) (λ_ _=>rfl) (λ_ h=>h) ?_
    intro A33 c33 n33 hn33
    refine RD.a [] ?_
    refine RD.gv 34 (sumE (shaW (([0,1,1] ++ List.replicate 31 (0:UInt8)) ++ [0,0]))) rfl rfl rfl Tryz.call78 (λu hu=>Of_spec u (hG.ext hu.fact.1) A33 c33 (([0,1,1] ++ List.replicate 31 (0:UInt8)) ++ [0,0]) (Sl.own (B:=w.heap.size) (hu.row (κ:=kBy) (l:=(([0,1,1] ++ List.replicate 31 (0:UInt8)) ++ [0,0])) (id:=71) rfl) (by simp [hlim])) (by decide)) ?_
    intro n34 hn34
    refine RD.r 35 (boE (!decide (lM.own=shaW (([0,1,1] ++ List.replicate 31 (0:UInt8)) ++ [0,0])))) rfl rfl (λw' a h hag=>op_neq hag rfl rfl rfl rfl rfl (by kernel_rfl) (eq_sum w' 9998 _ _)) ?_
    refine RD.b [false] rfl rfl (by simp [hoe]) ?_
    refine RD.gv 39 (sumE (shaW [])) rfl rfl rfl Tryz.call24 (λu hu=>Root_spec u (hG.ext hu.fact.1) none none trivial) ?_
    intro n39 hn39
    refine RD.gv 40 (sumE (shaW [])) rfl rfl rfl Tryz.call78 (λu hu=>Of_spec u (hG.ext hu.fact.1) none 0 [] (Sl.void u) (by decide)) ?_
    intro n40 hn40
    refine RD.r 41 (boE (!decide (shaW []=shaW []))) rfl rfl (λw' a h hag=>op_neq hag rfl rfl rfl rfl rfl (by kernel_rfl) (eq_sum w' 9998 _ _)) ?_
    refine RD.a [] ?_
    refine RD.e ?_
    refine RH.a [false] ?_
    exact RH.mtS () [] (.head _) rfl rfl rfl λu h=>⟨h.1,h.2.1⟩
   ·refine V.opS 70 30 ?_
    refine RD.a [] ?_
    refine RD.gv 29 (sumE lM.own) rfl rfl rfl Tryz.call24 (λu hu=>Root_spec u (hG.ext hu.fact.1) o2 (some lM) hu.fact.2.2) ?_
    intro n29 hn29
    refine RD.a [] ?_
    refine RD.go (i:=31) rfl (by kernel_rfl) rfl (OpGo.appendMakeR (id:=71) (b:=⟨m12+1,0,none⟩) (sl:=3) (cap:=3) (q:=31) (e:=5) (i:=Tryz.t5) (z:=(Tryz.t5).zero.getD undef) (olds:=[u8V 0,u8V 1,u8V 1]) tk rfl (by kernel_rfl) (by kernel_rfl) (by kernel_rfl) (by kernel_rfl) (by decide) (by kernel_rfl) rfl rfl rfl rfl (λw' hst j v hj=>?_) (by decide) (by decide) (by decide) (by simp [maxLen])) 73 (λ_=>rfl) (λ_ _ h=>h) ?_
    ·have:=(Sl.own (B:=w.heap.size) (hst.row (κ:=kBy) (l:=[0,1,1]) (id:=70) rfl) (by simp [hlim])).cells j v hj
     rw [Addr.add_lit]
     exact this
    rintro c31 n31 hn31
    rw [hz34]
    refine RD.a [] ?_
    refine RD.apK (nx:=80) (i:=33) (κ:=kBy) (id:=71) (l:=([0,1,1] ++ List.replicate 31 (0:UInt8))) (r:=[0,0]) rfl (by kernel_rfl) rfl rfl rfl rfl rfl elt_byte rfl rfl (λw' hst=>hst.liR (id:=72) (κ:=kBy) (l:=[0,0]) rfl (by simp [hlim])) (by decide) (by decide) (λ_ _=>rfl) (λ_ h=>h) ?_
    intro A33 c33 n33 hn33
    refine RD.a [] ?_
    refine RD.gv 34 (sumE (shaW (([0,1,1] ++ List.replicate 31 (0:UInt8)) ++ [0,0]))) rfl rfl rfl Tryz.call78 (λu hu=>Of_spec u (hG.ext hu.fact.1) A33 c33 (([0,1,1] ++ List.replicate 31 (0:UInt8)) ++ [0,0]) (Sl.own (B:=w.heap.size) (hu.row (κ:=kBy) (l:=(([0,1,1] ++ List.replicate 31 (0:UInt8)) ++ [0,0])) (id:=71) rfl) (by simp [hlim])) (by decide)) ?_
    intro n34 hn34
    refine RD.r 35 (boE (!decide (lM.own=shaW (([0,1,1] ++ List.replicate 31 (0:UInt8)) ++ [0,0])))) rfl rfl (λw' a h hag=>op_neq hag rfl rfl rfl rfl rfl (by kernel_rfl) (eq_sum w' 9998 _ _)) ?_
    refine RD.b [false] rfl rfl (by simp [hoe]) ?_
    refine RD.gv 39 (sumE (shaW [])) rfl rfl rfl Tryz.call24 (λu hu=>Root_spec u (hG.ext hu.fact.1) none none trivial) ?_
    intro n39 hn39
    refine RD.gv 40 (sumE (shaW [])) rfl rfl rfl Tryz.call78 (λu hu=>Of_spec u (hG.ext hu.fact.1) none 0 [] (Sl.void u) (by decide)) ?_
    intro n40 hn40
    refine RD.r 41 (boE (!decide (shaW []=shaW []))) rfl rfl (λw' a h hag=>op_neq hag rfl rfl rfl rfl rfl (by kernel_rfl) (eq_sum w' 9998 _ _)) ?_
    refine RD.a [] ?_
    refine RD.e ?_
    refine RH.a [false] ?_
    exact RH.mtS () [] (.head _) rfl rfl rfl λu h=>⟨h.1,h.2.1⟩
 rintro ⟨⟩ m13
 refine RH.toNx 100 ?_
 apply RH.joinK (α:=Nat × Plot) (λz=>[(1,.av (.box 5 m1 0)),(15,.av (.box 100 z.1 0)),(3,intE 0)]) (λz=>[(5,some (.box m1 [.val (ptrO o1)] 31)),(64,some (.box m11 [.val (.pointer none)] 31)),(100,some (.box z.1 [.val (ptrO (some z.2))] 31))]) (λz u=>Ext w u/\IsO u o1 (some tM)/\IsO u (some z.2) tb1)
 ·refine RH.a [] ?_
  refine RH.w [(5,some (.box m1 [.val (ptrO o1)] 31)),(64,some (.box m11 [.val (.pointer none)] 31))] 9 ?_
  refine RD.a [] ?_
  refine RD.two (i:=1) (j:=6) (by kernel_rfl) ?_ ?_
  ·refine opD_go rfl rfl (OpGo.gives (sumE (sum1 2)) rfl rfl rfl rfl Tryz.call21 (λu hu=>one3_spec u _)) 102 (λ_=>rfl) (λ_ _ h=>h) ?_
   rintro ⟨⟩ q1a hq1a
   refine RD.a [] ?_
   refine RD.two (i:=2) (j:=6) (by kernel_rfl) ?_ ?_
   ·refine V.opD_doesB (i:=2) [] 102 102 (λb1:Plot=>.av (.val (.tuple #[.agg #[ptrV b1.b],intV 0]))) rfl rfl rfl rfl rfl Tryz.call20 (Put_ok none (none) ok_none.1 [98] sB (by decide) (.inr (by decide))) rfl rfl (λ_=>rfl) (λ_=>rfl) (λu hu=>⟨hG.ext hu.fact.1,trivial⟩) (λ_=>rfl) (λ_ h=>h) ?_
    rintro b2a q2a hq2a
    refine RD.a [] ?_
    refine RD.step tk (nx:=100) (i:=6) rfl (by kernel_rfl) rfl rfl rfl ?_ rfl (λ_ h=>h.1) ⟨rfl,rfl⟩ ?_
    ·first|trivial|(simp;done)|(simp [hz31,Value.oneCell'];done)
    refine RD.a [] ?_
    refine V.RD.slotE 194 (mapE (some b2a)) rfl rfl ?_
    refine RD.step tk (nx:=102) (i:=7) rfl (by kernel_rfl) rfl rfl rfl ?_ rfl (λ_ h=>h.1) rfl ?_
    ·first|trivial|(simp;done)|(simp [hz31,Value.oneCell'];done)
    refine RD.a [] ?_
    refine RD.e ?_
    exact RH.mtS (q2a,b2a) [] (.head _) rfl rfl rfl λu h=>⟨h.1.1,h.1.2,h.2.now trivial⟩
   ·refine opD_step tk (nx:=100) (i:=6) rfl rfl rfl rfl ?_ rfl (λ_ h=>h) ⟨rfl,rfl⟩ ?_
    ·first|trivial|(simp;done)|(simp [hz31,Value.oneCell'];done)
    refine RD.a [] ?_
    refine RD.doB (nx:=102) (i:=2) [] 102 (λb1:Plot=>.av (.val (.tuple #[.agg #[ptrV b1.b],intV 0]))) rfl (by kernel_rfl) rfl rfl rfl rfl Tryz.call20 (Put_ok none (none) ok_none.1 [98] sB (by decide) (.inr (by decide))) rfl rfl (λ_=>rfl) (λ_=>rfl) (λu hu=>⟨hG.ext hu.fact.1,trivial⟩) (λ_=>rfl) (λ_ h=>h) ?_
    rintro b2a q2a hq2a
    refine RD.a [] ?_
    refine V.RD.slotE 194 (mapE (some b2a)) rfl rfl ?_
    refine RD.step tk (nx:=102) (i:=7) rfl (by kernel_rfl) rfl rfl rfl ?_ rfl (λ_ h=>h.1) rfl ?_
    ·first|trivial|(simp;done)|(simp [hz31,Value.oneCell'];done)
    refine RD.a [] ?_
    refine RD.e ?_
    exact RH.mtS (q1a,b2a) [] (.head _) rfl rfl rfl λu h=>⟨h.1.1,h.1.2,h.2.now trivial⟩
  ·refine opD_step tk (nx:=100) (i:=6) rfl rfl rfl rfl ?_ rfl (λ_ h=>h) ⟨rfl,rfl⟩ ?_
   ·first|trivial|(simp;done)|(simp [hz31,Value.oneCell'];done)
   refine RD.a [] ?_
   refine RD.gv 1 (sumE (sum1 2)) rfl rfl rfl Tryz.call21 (λu hu=>one3_spec u _) ?_
   intro q1a hq1a
   refine RD.a [] ?_
   refine RD.doB (nx:=102) (i:=2) [] 102 (λb1:Plot=>.av (.val (.tuple #[.agg #[ptrV b1.b],intV 0]))) rfl (by kernel_rfl) rfl rfl rfl rfl Tryz.call20 (Put_ok none (none) ok_none.1 [98] sB (by decide) (.inr (by decide))) rfl rfl (λ_=>rfl) (λ_=>rfl) (λu hu=>⟨hG.ext hu.fact.1,trivial⟩) (λ_=>rfl) (λ_ h=>h) ?_
   rintro b2a q2a hq2a
   refine RD.a [] ?_
   refine V.RD.slotE 194 (mapE (some b2a)) rfl rfl ?_
   refine RD.step tk (nx:=102) (i:=7) rfl (by kernel_rfl) rfl rfl rfl ?_ rfl (λ_ h=>h.1) rfl ?_
   ·first|trivial|(simp;done)|(simp [hz31,Value.oneCell'];done)
   refine RD.a [] ?_
   refine RD.e ?_
   exact RH.mtS (m13,b2a) [] (.head _) rfl rfl rfl λu h=>⟨h.1.1,h.1.2,h.2.now trivial⟩
 rintro ⟨ma,La⟩ m14
 refine RH.toNx 110 ?_
 dsimp only
 apply RH.joinK (α:=Nat × Plot) (λz=>[(1,.av (.box 5 m1 0)),(3,intE 0),(16,.av (.box 110 z.1 0)),(5,intE 0)]) (λz=>[(5,some (.box m1 [.val (ptrO o1)] 31)),(100,some (.box ma [.val (ptrO (some La))] 31)),(110,some (.box z.1 [.val (ptrO (some z.2))] 31))]) (λz u=>Ext w u/\IsO u o1 (some tM)/\IsO u (some z.2) tboth)
 ·refine RH.a [] ?_
  refine RH.w [(5,some (.box m1 [.val (ptrO o1)] 31)),(100,some (.box ma [.val (ptrO (some La))] 31))] 9 ?_
  refine RD.a [] ?_
  refine RD.two (i:=1) (j:=6) (by kernel_rfl) ?_ ?_
  ·refine opD_go rfl rfl (OpGo.gives (sumE (sum1 1)) rfl rfl rfl rfl Tryz.call21 (λu hu=>one3_spec u _)) 112 (λ_=>rfl) (λ_ _ h=>h) ?_
   rintro ⟨⟩ q1b hq1b
   refine RD.a [] ?_
   refine RD.two (i:=2) (j:=6) (by kernel_rfl) ?_ ?_
   ·refine V.opD_doesB (i:=2) [] 112 112 (λb1:Plot=>.av (.val (.tuple #[.agg #[ptrV b1.b],intV 0]))) rfl rfl rfl rfl rfl Tryz.call20 (Put_ok (some La) (tb1) ok_tb1.1 [97] sA (by decide) (.inr (by have:=ok_tb1.2.2;omega))) rfl rfl (λ_=>rfl) (λ_=>rfl) (λu hu=>⟨hG.ext hu.fact.1,hu.fact.2.2⟩) (λ_=>rfl) (λ_ h=>h) ?_
    rintro b2b q2b hq2b
    refine RD.a [] ?_
    refine RD.step tk (nx:=110) (i:=6) rfl (by kernel_rfl) rfl rfl rfl ?_ rfl (λ_ h=>h.1) ⟨rfl,rfl⟩ ?_
    ·first|trivial|(simp;done)|(simp [hz31,Value.oneCell'];done)
    refine RD.a [] ?_
    refine V.RD.slotE 200 (mapE (some b2b)) rfl rfl ?_
    refine RD.step tk (nx:=112) (i:=7) rfl (by kernel_rfl) rfl rfl rfl ?_ rfl (λ_ h=>h.1) rfl ?_
    ·first|trivial|(simp;done)|(simp [hz31,Value.oneCell'];done)
    refine RD.a [] ?_
    refine RD.e ?_
    exact RH.mtS (q2b,b2b) [] (.head _) rfl rfl rfl λu h=>⟨h.1.1,h.1.2.1,h.2.now h.1.2.2⟩
   ·refine opD_step tk (nx:=110) (i:=6) rfl rfl rfl rfl ?_ rfl (λ_ h=>h) ⟨rfl,rfl⟩ ?_
    ·first|trivial|(simp;done)|(simp [hz31,Value.oneCell'];done)
    refine RD.a [] ?_
    refine RD.doB (nx:=112) (i:=2) [] 112 (λb1:Plot=>.av (.val (.tuple #[.agg #[ptrV b1.b],intV 0]))) rfl (by kernel_rfl) rfl rfl rfl rfl Tryz.call20 (Put_ok (some La) (tb1) ok_tb1.1 [97] sA (by decide) (.inr (by have:=ok_tb1.2.2;omega))) rfl rfl (λ_=>rfl) (λ_=>rfl) (λu hu=>⟨hG.ext hu.fact.1,hu.fact.2.2⟩) (λ_=>rfl) (λ_ h=>h) ?_
    rintro b2b q2b hq2b
    refine RD.a [] ?_
    refine V.RD.slotE 200 (mapE (some b2b)) rfl rfl ?_
    refine RD.step tk (nx:=112) (i:=7) rfl (by kernel_rfl) rfl rfl rfl ?_ rfl (λ_ h=>h.1) rfl ?_
    ·first|trivial|(simp;done)|(simp [hz31,Value.oneCell'];done)
    refine RD.a [] ?_
    refine RD.e ?_
    exact RH.mtS (q1b,b2b) [] (.head _) rfl rfl rfl λu h=>⟨h.1.1,h.1.2.1,h.2.now h.1.2.2⟩
  ·refine opD_step tk (nx:=110) (i:=6) rfl rfl rfl rfl ?_ rfl (λ_ h=>h) ⟨rfl,rfl⟩ ?_
   ·first|trivial|(simp;done)|(simp [hz31,Value.oneCell'];done)
   refine RD.a [] ?_
   refine RD.gv 1 (sumE (sum1 1)) rfl rfl rfl Tryz.call21 (λu hu=>one3_spec u _) ?_
   intro q1b hq1b
   refine RD.a [] ?_
   refine RD.doB (nx:=112) (i:=2) [] 112 (λb1:Plot=>.av (.val (.tuple #[.agg #[ptrV b1.b],intV 0]))) rfl (by kernel_rfl) rfl rfl rfl rfl Tryz.call20 (Put_ok (some La) (tb1) ok_tb1.1 [97] sA (by decide) (.inr (by have:=ok_tb1.2.2;omega))) rfl rfl (λ_=>rfl) (λ_=>rfl) (λu hu=>⟨hG.ext hu.fact.1,hu.fact.2.2⟩) (λ_=>rfl) (λ_ h=>h) ?_
   rintro b2b q2b hq2b
   refine RD.a [] ?_
   refine V.RD.slotE 200 (mapE (some b2b)) rfl rfl ?_
   refine RD.step tk (nx:=112) (i:=7) rfl (by kernel_rfl) rfl rfl rfl ?_ rfl (λ_ h=>h.1) rfl ?_
   ·first|trivial|(simp;done)|(simp [hz31,Value.oneCell'];done)
   refine RD.a [] ?_
   refine RD.e ?_
   exact RH.mtS (m14,b2b) [] (.head _) rfl rfl rfl λu h=>⟨h.1.1,h.1.2.1,h.2.now h.1.2.2⟩
 rintro ⟨mb,Lb⟩ m15
 refine RH.toNx 120 ?_
 dsimp only
 refine RH.a [] ?_
 refine RH.dd [] 122 (λo:Option Plot=>.av (.val (.tuple #[.agg #[ptrO o],intV 0]))) rfl rfl rfl Tryz.call22 (Drop_ok (some Lb) tboth ok_tboth.1 ok_tboth.2.1 [98] (by decide) (by rw [get_b];rfl)) (λu hu=>⟨hG.ext hu.fact.1,hu.fact.2.2⟩) ?_
 rintro o5 m16 hm16
 refine V.RH.know (λu=>Ext w u/\IsO u o1 (some tM)/\IsO u (some Lb) tboth/\IsO u o5 tfew) (λu h=>⟨h.1.1,h.1.2.1,h.1.2.2,h.2.now h.1.2.2⟩) ?_
 refine RH.adv tk [] rfl rfl (by simp [hz31,Value.oneCell']<;>omega) ?_
 refine V.RH.slotE 205 (mapE o5) rfl rfl ?_
 refine RH.adv tk [] rfl rfl (by simp [hz31,Value.oneCell']<;>omega) ?_
 refine RH.tell [(1,.av (.box 5 m1 0)),(3,intE 0),(5,intE 0),(7,intE 0),(16,.av (.box 110 mb 0)),(17,.av (.box 122 m16 0))] [(5,some (.box m1 [.val (ptrO o1)] 31)),(110,some (.box mb [.val (ptrO (some Lb))] 31)),(122,some (.box m16 [.val (ptrO o5)] 31))] [] rfl rfl rfl 130 ?_
 apply RH.joinK (α:=Nat × Plot) (λz=>[(1,.av (.box 5 m1 0)),(3,intE 0),(5,intE 0),(7,intE 0),(16,.av (.box 110 mb 0)),(18,.av (.box 130 z.1 0)),(19,intE 0)]) (λz=>[(5,some (.box m1 [.val (ptrO o1)] 31)),(110,some (.box mb [.val (ptrO (some Lb))] 31)),(122,some (.box m16 [.val (ptrO o5)] 31)),(130,some (.box z.1 [.val (ptrO (some z.2))] 31))]) (λz u=>Ext w u/\IsO u o1 (some tM)/\IsO u (some Lb) tboth/\IsO u (some z.2) tagain)
 ·refine RH.a [] ?_
  refine RH.w [(5,some (.box m1 [.val (ptrO o1)] 31)),(110,some (.box mb [.val (ptrO (some Lb))] 31)),(122,some (.box m16 [.val (ptrO o5)] 31))] 9 ?_
  refine RD.a [] ?_
  refine RD.two (i:=1) (j:=6) (by kernel_rfl) ?_ ?_
  ·refine opD_go rfl rfl (OpGo.gives (sumE (sum1 2)) rfl rfl rfl rfl Tryz.call21 (λu hu=>one3_spec u _)) 132 (λ_=>rfl) (λ_ _ h=>h) ?_
   rintro ⟨⟩ q1c hq1c
   refine RD.a [] ?_
   refine RD.two (i:=2) (j:=6) (by kernel_rfl) ?_ ?_
   ·refine V.opD_doesB (i:=2) [] 132 132 (λb1:Plot=>.av (.val (.tuple #[.agg #[ptrV b1.b],intV 0]))) rfl rfl rfl rfl rfl Tryz.call20 (Put_ok o5 (tfew) ok_tfew.1 [98] sB (by decide) (.inr (by have:=ok_tfew.2.2;omega))) rfl rfl (λ_=>rfl) (λ_=>rfl) (λu hu=>⟨hG.ext hu.fact.1,hu.fact.2.2.2⟩) (λ_=>rfl) (λ_ h=>h) ?_
    rintro b2c q2c hq2c
    refine RD.a [] ?_
    refine RD.step tk (nx:=130) (i:=6) rfl (by kernel_rfl) rfl rfl rfl ?_ rfl (λ_ h=>h.1) ⟨rfl,rfl⟩ ?_
    ·first|trivial|(simp;done)|(simp [hz31,Value.oneCell'];done)
    refine RD.a [] ?_
    refine V.RD.slotE 211 (mapE (some b2c)) rfl rfl ?_
    refine RD.step tk (nx:=132) (i:=7) rfl (by kernel_rfl) rfl rfl rfl ?_ rfl (λ_ h=>h.1) rfl ?_
    ·first|trivial|(simp;done)|(simp [hz31,Value.oneCell'];done)
    refine RD.a [] ?_
    refine RD.e ?_
    exact RH.mtS (q2c,b2c) [] (.head _) rfl rfl rfl λu h=>⟨h.1.1,h.1.2.1,h.1.2.2.1,h.2.now h.1.2.2.2⟩
   ·refine opD_step tk (nx:=130) (i:=6) rfl rfl rfl rfl ?_ rfl (λ_ h=>h) ⟨rfl,rfl⟩ ?_
    ·first|trivial|(simp;done)|(simp [hz31,Value.oneCell'];done)
    refine RD.a [] ?_
    refine RD.doB (nx:=132) (i:=2) [] 132 (λb1:Plot=>.av (.val (.tuple #[.agg #[ptrV b1.b],intV 0]))) rfl (by kernel_rfl) rfl rfl rfl rfl Tryz.call20 (Put_ok o5 (tfew) ok_tfew.1 [98] sB (by decide) (.inr (by have:=ok_tfew.2.2;omega))) rfl rfl (λ_=>rfl) (λ_=>rfl) (λu hu=>⟨hG.ext hu.fact.1,hu.fact.2.2.2⟩) (λ_=>rfl) (λ_ h=>h) ?_
    rintro b2c q2c hq2c
    refine RD.a [] ?_
    refine V.RD.slotE 211 (mapE (some b2c)) rfl rfl ?_
    refine RD.step tk (nx:=132) (i:=7) rfl (by kernel_rfl) rfl rfl rfl ?_ rfl (λ_ h=>h.1) rfl ?_
    ·first|trivial|(simp;done)|(simp [hz31,Value.oneCell'];done)
    refine RD.a [] ?_
    refine RD.e ?_
    exact RH.mtS (q1c,b2c) [] (.head _) rfl rfl rfl λu h=>⟨h.1.1,h.1.2.1,h.1.2.2.1,h.2.now h.1.2.2.2⟩
  ·refine opD_step tk (nx:=130) (i:=6) rfl rfl rfl rfl ?_ rfl (λ_ h=>h) ⟨rfl,rfl⟩ ?_
   ·first|trivial|(simp;done)|(simp [hz31,Value.oneCell'];done)
   refine RD.a [] ?_
   refine RD.gv 1 (sumE (sum1 2)) rfl rfl rfl Tryz.call21 (λu hu=>one3_spec u _) ?_
   intro q1c hq1c
   refine RD.a [] ?_
   refine RD.doB (nx:=132) (i:=2) [] 132 (λb1:Plot=>.av (.val (.tuple #[.agg #[ptrV b1.b],intV 0]))) rfl (by kernel_rfl) rfl rfl rfl rfl Tryz.call20 (Put_ok o5 (tfew) ok_tfew.1 [98] sB (by decide) (.inr (by have:=ok_tfew.2.2;omega))) rfl rfl (λ_=>rfl) (λ_=>rfl) (λu hu=>⟨hG.ext hu.fact.1,hu.fact.2.2.2⟩) (λ_=>rfl) (λ_ h=>h) ?_
   rintro b2c q2c hq2c
   refine RD.a [] ?_
   refine V.RD.slotE 211 (mapE (some b2c)) rfl rfl ?_
   refine RD.step tk (nx:=132) (i:=7) rfl (by kernel_rfl) rfl rfl rfl ?_ rfl (λ_ h=>h.1) rfl ?_
   ·first|trivial|(simp;done)|(simp [hz31,Value.oneCell'];done)
   refine RD.a [] ?_
   refine RD.e ?_
   exact RH.mtS (m16+1,b2c) [] (.head _) rfl rfl rfl λu h=>⟨h.1.1,h.1.2.1,h.1.2.2.1,h.2.now h.1.2.2.2⟩
 rintro ⟨md,Ld⟩ m17
 refine RH.toNx 140 ?_
 dsimp only
 refine RH.a [] ?_
 refine RH.gv (.av (.val (.tuple #[.agg #[.pointer none],intV 6]))) rfl rfl rfl Tryz.call22 (λu hu=>Drop_none u (some Lb) tboth hu.fact.2.2.1 ok_tboth.1 [99] (by decide) get_c) ?_
 intro m18 hm18
 refine RH.adv tk [] rfl rfl (by simp [hz31,Value.oneCell']<;>omega) ?_
 refine V.RH.slotE 216 (mapE none) rfl rfl ?_
 refine RH.adv tk [] rfl rfl (by simp [hz31,Value.oneCell']<;>omega) ?_
 refine RH.tell [(1,.av (.box 5 m1 0)),(3,intE 0),(5,intE 0),(7,intE 0),(16,.av (.box 110 mb 0)),(18,.av (.box 130 md 0)),(19,intE 0),(21,intE 6),(219,mapE o1)] [(5,some (.box m1 [.val (ptrO o1)] 31)),(110,some (.box mb [.val (ptrO (some Lb))] 31)),(130,some (.box md [.val (ptrO (some Ld))] 31))] [] rfl rfl rfl 150 ?_
 have hBel:=Below_spec o1 (some tM) ok_tM.1 ok_tM.2.1 [97] (by decide)
 rw [below_a,if_neg (by simp)] at hBel
 refine RH.dd [] 152 (λo:Option Plot=>.av (.val (.tuple #[.agg #[ptrO o],intV 0]))) rfl rfl rfl Tryz.call31 hBel (λu hu=>⟨hG.ext hu.fact.1,hu.fact.2.1⟩) ?_
 rintro o7 m19 hm19
 refine V.RH.know (λu=>(Ext w u/\IsO u (some Lb) tboth/\IsO u (some Ld) tagain)/\IsO u o7 (fromO [([98],sA),([99],sB)])) (λu h=>⟨⟨h.1.1,h.1.2.2.1,h.1.2.2.2⟩,h.2.now trivial⟩) ?_
 refine RH.adv tk [] rfl rfl (by simp [hz31,Value.oneCell']<;>omega) ?_
 refine V.RH.slotE 221 (mapE o7) rfl rfl ?_
 refine RH.adv tk [] rfl rfl (by simp [hz31,Value.oneCell']<;>omega) ?_
 refine RH.gv (.av (.val (.tuple #[.agg #[.pointer none],intV 2,intV 4]))) rfl rfl rfl Tryz.call45 (λu hu=>Decode_rest u (some ⟨m19+1,0,none⟩) 3 (Sl.own (B:=w.heap.size) (hu.row (κ:=kBy) (l:=[0,0,7]) (id:=153) rfl) (by simp [hlim]))) ?_
 intro m20 hm20
 refine RH.adv tk [] rfl rfl (by simp [hz31,Value.oneCell']<;>omega) ?_
 refine V.RH.slotE 226 (mapE none) rfl rfl ?_
 refine RH.adv tk [] rfl rfl (by simp [hz31,Value.oneCell']<;>omega) ?_
 refine RH.gv (.av (.val (.tuple #[.agg #[.pointer none],intV ((1:Nat):Int),intV 4]))) rfl rfl rfl Tryz.call45 (λu hu=>Decode_short u (some ⟨m20+1,0,none⟩) 1 [0] (Sl.own (B:=w.heap.size) (hu.row (κ:=kBy) (l:=[0]) (id:=155) rfl) (by simp [hlim])) (by simp)) ?_
 intro m21 hm21
 refine RH.adv tk [] rfl rfl (by simp [hz31,Value.oneCell']<;>omega) ?_
 refine V.RH.slotE 232 (mapE none) rfl rfl ?_
 refine RH.adv tk [] rfl rfl (by simp [hz31,Value.oneCell']<;>omega) ?_
 refine RH.tell [(3,intE 0),(5,intE 0),(7,intE 0),(16,.av (.box 110 mb 0)),(18,.av (.box 130 md 0)),(19,intE 0),(21,intE 6),(22,.av (.box 152 m19 0)),(23,intE 0),(25,intE 2),(26,intE 4),(28,intE 1),(29,intE 4),(235,.av (.val (.slice (some ⟨m21+1,0,none⟩) 1 1)))] [(110,some (.box mb [.val (ptrO (some Lb))] 31)),(130,some (.box md [.val (ptrO (some Ld))] 31)),(152,some (.box m19 [.val (ptrO o7)] 31)),(157,rowE kStr (some ⟨m21+1,0,none⟩) 1 [[97]])] [] rfl rfl rfl 160 ?_
 refine RH.dd [] 162 (λo:Option Plot=>mapE o) rfl rfl rfl Tryz.call100 (lmade_spec (some ⟨m21+1,0,none⟩) 1 [[97]] (by decide) fe_a) (λu hu=>⟨hG.ext hu.fact.1.1,Sl.own (B:=w.heap.size) (hu.row (κ:=kStr) (l:=[[97]]) (id:=157) rfl) (by simp [hlim])⟩) ?_
 rintro o8 m22 hm22
 refine V.RH.know (λu=>((Ext w u/\IsO u (some Lb) tboth/\IsO u (some Ld) tagain)/\IsO u o7 (fromO [([98],sA),([99],sB)]))/\IsO u o8 (some (leaf [97] sA))) (λu h=>⟨h.1,made_a ▸ h.2.now trivial⟩) ?_
 refine RH.a [] ?_
 refine RH.dd [] 166 (λo:Option Plot=>mapE o) rfl rfl rfl Tryz.call100 (lmade_spec (some ⟨m22,0,none⟩) 1 [[98]] (by decide) fe_b) (λu hu=>⟨hG.ext hu.fact.1.1.1,Sl.own (B:=w.heap.size) (hu.row (κ:=kStr) (l:=[[98]]) (id:=162) rfl) (by simp [hlim])⟩) ?_
 rintro o9 m23 hm23
 refine V.RH.know (λu=>(((Ext w u/\IsO u (some Lb) tboth/\IsO u (some Ld) tagain)/\IsO u o7 (fromO [([98],sA),([99],sB)]))/\IsO u o8 (some (leaf [97] sA)))/\IsO u o9 (some (leaf [98] sA))) (λu h=>⟨h.1,made_b ▸ h.2.now trivial⟩) ?_
 have hDiff:=Diff_spec o8 (some (leaf [97] sA)) o9 (some (leaf [98] sA)) ok_la.1 ok_la.2.1 ok_lb.1 ok_lb.2.1 (by have:=ok_la.2.2;omega) (by have:=ok_lb.2.2;omega)
 rw [diff_ab] at hDiff
 refine RH.dd [] 172 (λy:Option Addr × Nat=>.av (.val (.slice y.1 2 y.2))) rfl rfl rfl Tryz.call53 hDiff (λu hu=>⟨hu.fact.1.2,hu.fact.2⟩) ?_
 rintro ⟨AD,cD⟩ m24 hm24
 refine RH.drop ?_
 dsimp only
 refine RH.free (i:=166) rfl ?_
 refine V.RH.know (λu=>((Ext w u/\IsO u (some Lb) tboth/\IsO u (some Ld) tagain)/\IsO u o7 (fromO [([98],sA),([99],sB)]))/\Sl kTCh u AD cD [dA,dB]) (λu h=>⟨h.1.1.1,Sl.own h.2 (by simp [hlim])⟩) ?_
 refine RH.a [] ?_
 refine RH.tell [(3,intE 0),(5,intE 0),(7,intE 0),(16,.av (.box 110 mb 0)),(18,.av (.box 130 md 0)),(19,intE 0),(21,intE 6),(22,.av (.box 152 m19 0)),(23,intE 0),(25,intE 2),(26,intE 4),(28,intE 1),(29,intE 4),(30,slE AD 2 cD)] [(110,some (.box mb [.val (ptrO (some Lb))] 31)),(130,some (.box md [.val (ptrO (some Ld))] 31)),(152,some (.box m19 [.val (ptrO o7)] 31))] [] rfl rfl rfl 180 ?_
 refine RH.pure (λu h=>(h.2.ptr (i:=0) (Nat.succ_pos _):Ptr AD)) λhpD=>?_
 have hN1:=TNames_spec (some Lb) tboth 1000 ok_tboth.1 ok_tboth.2.1 (Nat.le_refl _)
 rw [names_both] at hN1
 have ok_o7:=from_all (N:=1000) [([98],sA),([99],sB)] (Nat.le_refl _) (by decide) (by decide)
 have hN2:=TNames_spec o7 (fromO [([98],sA),([99],sB)]) 1000 ok_o7.1 ok_o7.2.1 (Nat.le_refl _)
 rw [names_below] at hN2
 have hroot:rootO tagain=rootO tboth:=by rw [again_both]
 refine RH.w [(110,some (.box mb [.val (ptrO (some Lb))] 31)),(130,some (.box md [.val (ptrO (some Ld))] 31)),(152,some (.box m19 [.val (ptrO o7)] 31))] 89 ?_
 refine RD.a [true,true] ?_
 refine RD.two (i:=8) (j:=9) (by kernel_rfl) ?_ ?_
 ·refine V.opD_doesB (i:=8) [] 180 182 (λy:Option Addr × Nat=>rowS 180 y.1 2 y.2) rfl rfl rfl rfl rfl Tryz.call29 hN1 rfl rfl (λ_=>rfl) (λ_=>rfl) (λu hu=>hu.fact.1.1.2.1) (λ_=>rfl) (λ_ h=>h) ?_
  rintro ⟨A8,c8⟩ p8 hp8
  refine RD.a [] ?_
  refine RD.s 185 9 ?_
  refine RD.a [] ?_
  refine RD.gv 10 (boE (decide (([[97],[98]]:List Str)=[[97],[98]]))) rfl rfl rfl Tryz.call28 (λu hu=>equalS_spec u A8 (some ⟨p8,0,none⟩) c8 2 [[97],[98]] [[97],[98]] (Sl.own (B:=w.heap.size) (hu.row (κ:=kStr) (l:=[[97],[98]]) (id:=180) rfl) (by simp [hlim])) (Sl.own (B:=w.heap.size) (hu.row (κ:=kStr) (l:=[[97],[98]]) (id:=185) rfl) (by simp [hlim]))) ?_
  intro p10 hp10
  refine RD.a [true,true,true] ?_
  refine RD.gv 22 (sumE (rootO tagain)) rfl rfl rfl Tryz.call24 (λu hu=>Root_spec u (hG.ext hu.fact.1.1.1.1) (some Ld) tagain hu.fact.1.1.1.2.2) ?_
  intro p22 hp22
  refine RD.a [] ?_
  refine RD.gv 24 (sumE (rootO tboth)) rfl rfl rfl Tryz.call24 (λu hu=>Root_spec u (hG.ext hu.fact.1.1.1.1) (some Lb) tboth hu.fact.1.1.1.2.1) ?_
  intro p24 hp24
  refine RD.r 25 (boE (decide (rootO tagain=rootO tboth))) rfl rfl (λw' a h hag=>op_eq hag rfl rfl rfl rfl rfl (by kernel_rfl) (eq_sum w' 9998 _ _)) ?_
  refine RD.b [true,true,true] rfl rfl (by simp [hroot]) ?_
  refine RD.two (i:=37) (j:=38) (by kernel_rfl) ?_ ?_
  ·refine V.opD_doesB (i:=37) [] 190 192 (λy:Option Addr × Nat=>rowS 190 y.1 2 y.2) rfl rfl rfl rfl rfl Tryz.call29 hN2 rfl rfl (λ_=>rfl) (λ_=>rfl) (λu hu=>hu.fact.1.1.2) (λ_=>rfl) (λ_ h=>h.1) ?_
   rintro ⟨A37,c37⟩ p37 hp37
   refine RD.a [] ?_
   refine RD.s 195 38 ?_
   refine RD.a [] ?_
   refine RD.gv 39 (boE (decide (([[98],[99]]:List Str)=[[98],[99]]))) rfl rfl rfl Tryz.call28 (λu hu=>equalS_spec u A37 (some ⟨p37,0,none⟩) c37 2 [[98],[99]] [[98],[99]] (Sl.own (B:=w.heap.size) (hu.row (κ:=kStr) (l:=[[98],[99]]) (id:=190) rfl) (by simp [hlim])) (Sl.own (B:=w.heap.size) (hu.row (κ:=kStr) (l:=[[98],[99]]) (id:=195) rfl) (by simp [hlim]))) ?_
   intro p39 hp39
   refine RD.b [true,true,true,true,true,true] rfl rfl (by simp [hpD]) ?_
   refine RD.ld 66 (boE true) rfl rfl (λu hu=>by have h:=tch_had hu.2 (i:=0) (Nat.succ_pos _);exact h) ?_
   refine RD.b [true] rfl rfl (by simp [hpD]) ?_
   refine RD.ld 72 (boE false) rfl rfl (λu hu=>by have h:=tch_has hu.2 (i:=0) (Nat.succ_pos _);exact h) ?_
   refine RD.b [true] rfl rfl (by simp [hpD]) ?_
   refine RD.load (by kernel_rfl) (i:=79) (p:=⟨blkA AD,offA AD+1*67+1,none⟩) (boE false) rfl rfl rfl rfl rfl (by kernel_rfl) (λu hu=>by have h:=tch_had hu.2 (i:=1) (Nat.succ_lt_succ (Nat.succ_pos _));exact h) ?_
   refine RD.b [true] rfl rfl (by simp [hpD]) ?_
   refine RD.load (by kernel_rfl) (i:=86) (p:=⟨blkA AD,offA AD+1*67+2,none⟩) (boE true) rfl rfl rfl rfl rfl (by kernel_rfl) (λu hu=>by have h:=tch_has hu.2 (i:=1) (Nat.succ_lt_succ (Nat.succ_pos _));exact h) ?_
   refine RD.a [] ?_
   refine RD.e ?_
   refine RH.ret1 Tryz.func30 rfl rfl λu hst=>⟨rfl,hst.fact.1.1.1.1.1⟩
  ·refine V.opS 195 38 ?_
   refine RD.a [] ?_
   refine RD.doB (nx:=190) (i:=37) [] 192 (λy:Option Addr × Nat=>rowS 190 y.1 2 y.2) rfl (by kernel_rfl) rfl rfl rfl rfl Tryz.call29 hN2 rfl rfl (λ_=>rfl) (λ_=>rfl) (λu hu=>hu.fact.1.1.2) (λ_=>rfl) (λ_ h=>h.1) ?_
   rintro ⟨A37,c37⟩ p37 hp37
   refine RD.a [] ?_
   refine RD.gv 39 (boE (decide (([[98],[99]]:List Str)=[[98],[99]]))) rfl rfl rfl Tryz.call28 (λu hu=>equalS_spec u A37 (some ⟨p24,0,none⟩) c37 2 [[98],[99]] [[98],[99]] (Sl.own (B:=w.heap.size) (hu.row (κ:=kStr) (l:=[[98],[99]]) (id:=190) rfl) (by simp [hlim])) (Sl.own (B:=w.heap.size) (hu.row (κ:=kStr) (l:=[[98],[99]]) (id:=195) rfl) (by simp [hlim]))) ?_
   intro p39 hp39
   refine RD.b [true,true,true,true,true,true] rfl rfl (by simp [hpD]) ?_
   refine RD.ld 66 (boE true) rfl rfl (λu hu=>by have h:=tch_had hu.2 (i:=0) (Nat.succ_pos _);exact h) ?_
   refine RD.b [true] rfl rfl (by simp [hpD]) ?_
   refine RD.ld 72 (boE false) rfl rfl (λu hu=>by have h:=tch_has hu.2 (i:=0) (Nat.succ_pos _);exact h) ?_
   refine RD.b [true] rfl rfl (by simp [hpD]) ?_
   refine RD.load (by kernel_rfl) (i:=79) (p:=⟨blkA AD,offA AD+1*67+1,none⟩) (boE false) rfl rfl rfl rfl rfl (by kernel_rfl) (λu hu=>by have h:=tch_had hu.2 (i:=1) (Nat.succ_lt_succ (Nat.succ_pos _));exact h) ?_
   refine RD.b [true] rfl rfl (by simp [hpD]) ?_
   refine RD.load (by kernel_rfl) (i:=86) (p:=⟨blkA AD,offA AD+1*67+2,none⟩) (boE true) rfl rfl rfl rfl rfl (by kernel_rfl) (λu hu=>by have h:=tch_has hu.2 (i:=1) (Nat.succ_lt_succ (Nat.succ_pos _));exact h) ?_
   refine RD.a [] ?_
   refine RD.e ?_
   refine RH.ret1 Tryz.func30 rfl rfl λu hst=>⟨rfl,hst.fact.1.1.1.1.1⟩
 ·refine V.opS 185 9 ?_
  refine RD.a [] ?_
  refine RD.doB (nx:=180) (i:=8) [] 182 (λy:Option Addr × Nat=>rowS 180 y.1 2 y.2) rfl (by kernel_rfl) rfl rfl rfl rfl Tryz.call29 hN1 rfl rfl (λ_=>rfl) (λ_=>rfl) (λu hu=>hu.fact.1.1.2.1) (λ_=>rfl) (λ_ h=>h) ?_
  rintro ⟨A8,c8⟩ p8 hp8
  refine RD.a [] ?_
  refine RD.gv 10 (boE (decide (([[97],[98]]:List Str)=[[97],[98]]))) rfl rfl rfl Tryz.call28 (λu hu=>equalS_spec u A8 (some ⟨m24,0,none⟩) c8 2 [[97],[98]] [[97],[98]] (Sl.own (B:=w.heap.size) (hu.row (κ:=kStr) (l:=[[97],[98]]) (id:=180) rfl) (by simp [hlim])) (Sl.own (B:=w.heap.size) (hu.row (κ:=kStr) (l:=[[97],[98]]) (id:=185) rfl) (by simp [hlim]))) ?_
  intro p10 hp10
  refine RD.a [true,true,true] ?_
  refine RD.gv 22 (sumE (rootO tagain)) rfl rfl rfl Tryz.call24 (λu hu=>Root_spec u (hG.ext hu.fact.1.1.1.1) (some Ld) tagain hu.fact.1.1.1.2.2) ?_
  intro p22 hp22
  refine RD.a [] ?_
  refine RD.gv 24 (sumE (rootO tboth)) rfl rfl rfl Tryz.call24 (λu hu=>Root_spec u (hG.ext hu.fact.1.1.1.1) (some Lb) tboth hu.fact.1.1.1.2.1) ?_
  intro p24 hp24
  refine RD.r 25 (boE (decide (rootO tagain=rootO tboth))) rfl rfl (λw' a h hag=>op_eq hag rfl rfl rfl rfl rfl (by kernel_rfl) (eq_sum w' 9998 _ _)) ?_
  refine RD.b [true,true,true] rfl rfl (by simp [hroot]) ?_
  refine RD.two (i:=37) (j:=38) (by kernel_rfl) ?_ ?_
  ·refine V.opD_doesB (i:=37) [] 190 192 (λy:Option Addr × Nat=>rowS 190 y.1 2 y.2) rfl rfl rfl rfl rfl Tryz.call29 hN2 rfl rfl (λ_=>rfl) (λ_=>rfl) (λu hu=>hu.fact.1.1.2) (λ_=>rfl) (λ_ h=>h.1) ?_
   rintro ⟨A37,c37⟩ p37 hp37
   refine RD.a [] ?_
   refine RD.s 195 38 ?_
   refine RD.a [] ?_
   refine RD.gv 39 (boE (decide (([[98],[99]]:List Str)=[[98],[99]]))) rfl rfl rfl Tryz.call28 (λu hu=>equalS_spec u A37 (some ⟨p37,0,none⟩) c37 2 [[98],[99]] [[98],[99]] (Sl.own (B:=w.heap.size) (hu.row (κ:=kStr) (l:=[[98],[99]]) (id:=190) rfl) (by simp [hlim])) (Sl.own (B:=w.heap.size) (hu.row (κ:=kStr) (l:=[[98],[99]]) (id:=195) rfl) (by simp [hlim]))) ?_
   intro p39 hp39
   refine RD.b [true,true,true,true,true,true] rfl rfl (by simp [hpD]) ?_
   refine RD.ld 66 (boE true) rfl rfl (λu hu=>by have h:=tch_had hu.2 (i:=0) (Nat.succ_pos _);exact h) ?_
   refine RD.b [true] rfl rfl (by simp [hpD]) ?_
   refine RD.ld 72 (boE false) rfl rfl (λu hu=>by have h:=tch_has hu.2 (i:=0) (Nat.succ_pos _);exact h) ?_
   refine RD.b [true] rfl rfl (by simp [hpD]) ?_
   refine RD.load (by kernel_rfl) (i:=79) (p:=⟨blkA AD,offA AD+1*67+1,none⟩) (boE false) rfl rfl rfl rfl rfl (by kernel_rfl) (λu hu=>by have h:=tch_had hu.2 (i:=1) (Nat.succ_lt_succ (Nat.succ_pos _));exact h) ?_
   refine RD.b [true] rfl rfl (by simp [hpD]) ?_
   refine RD.load (by kernel_rfl) (i:=86) (p:=⟨blkA AD,offA AD+1*67+2,none⟩) (boE true) rfl rfl rfl rfl rfl (by kernel_rfl) (λu hu=>by have h:=tch_has hu.2 (i:=1) (Nat.succ_lt_succ (Nat.succ_pos _));exact h) ?_
   refine RD.a [] ?_
   refine RD.e ?_
   refine RH.ret1 Tryz.func30 rfl rfl λu hst=>⟨rfl,hst.fact.1.1.1.1.1⟩
  ·refine V.opS 195 38 ?_
   refine RD.a [] ?_
   refine RD.doB (nx:=190) (i:=37) [] 192 (λy:Option Addr × Nat=>rowS 190 y.1 2 y.2) rfl (by kernel_rfl) rfl rfl rfl rfl Tryz.call29 hN2 rfl rfl (λ_=>rfl) (λ_=>rfl) (λu hu=>hu.fact.1.1.2) (λ_=>rfl) (λ_ h=>h.1) ?_
   rintro ⟨A37,c37⟩ p37 hp37
   refine RD.a [] ?_
   refine RD.gv 39 (boE (decide (([[98],[99]]:List Str)=[[98],[99]]))) rfl rfl rfl Tryz.call28 (λu hu=>equalS_spec u A37 (some ⟨p24,0,none⟩) c37 2 [[98],[99]] [[98],[99]] (Sl.own (B:=w.heap.size) (hu.row (κ:=kStr) (l:=[[98],[99]]) (id:=190) rfl) (by simp [hlim])) (Sl.own (B:=w.heap.size) (hu.row (κ:=kStr) (l:=[[98],[99]]) (id:=195) rfl) (by simp [hlim]))) ?_
   intro p39 hp39
   refine RD.b [true,true,true,true,true,true] rfl rfl (by simp [hpD]) ?_
   refine RD.ld 66 (boE true) rfl rfl (λu hu=>by have h:=tch_had hu.2 (i:=0) (Nat.succ_pos _);exact h) ?_
   refine RD.b [true] rfl rfl (by simp [hpD]) ?_
   refine RD.ld 72 (boE false) rfl rfl (λu hu=>by have h:=tch_has hu.2 (i:=0) (Nat.succ_pos _);exact h) ?_
   refine RD.b [true] rfl rfl (by simp [hpD]) ?_
   refine RD.load (by kernel_rfl) (i:=79) (p:=⟨blkA AD,offA AD+1*67+1,none⟩) (boE false) rfl rfl rfl rfl rfl (by kernel_rfl) (λu hu=>by have h:=tch_had hu.2 (i:=1) (Nat.succ_lt_succ (Nat.succ_pos _));exact h) ?_
   refine RD.b [true] rfl rfl (by simp [hpD]) ?_
   refine RD.load (by kernel_rfl) (i:=86) (p:=⟨blkA AD,offA AD+1*67+2,none⟩) (boE true) rfl rfl rfl rfl rfl (by kernel_rfl) (λu hu=>by have h:=tch_has hu.2 (i:=1) (Nat.succ_lt_succ (Nat.succ_pos _));exact h) ?_
   refine RD.a [] ?_
   refine RD.e ?_
   refine RH.ret1 Tryz.func30 rfl rfl λu hst=>⟨rfl,hst.fact.1.1.1.1.1⟩
end Go.Proofs.YtbfjmimiigjenaaGreatDoor
namespace Go.Proofs.YtbfjmimiigjenaaGreatDoor
open Go V
structure Sto where
 A:Option Addr
 c:Nat
 l:List UInt8
 at_:Nat
 seed:Int
def Sto.to (s:Sto) (y:Nat × Int):Sto:=⟨s.A,s.c,s.l,y.1,y.2⟩
open Go V RowKit
theorem cloneStr (A:Option Addr) (c:Nat) (l:List Str) (hb:l.length*16 ≤ 140737488355328):Does Tryz.prog tb 26 [.slice A l.length c] [] (λu=>Sl kStr u A c l) (λy:Option Addr × Nat=>.slice y.1 l.length y.2) (λy=>[(0,rowE kStr y.1 y.2 l)]) (λ_ _ _=>True):=by
 refine Does.enter tk [(0,slE A l.length c)] Tryz.func26 rfl Tryz.ntmps26 rfl rfl 0 ?_
 intro B0 m K
 refine RH.pure (λu h=>And.intro h.2.nil h.2.small) λ⟨hnil,hsm⟩=>?_
 cases hA:A.isNone with
 | true =>
  have hn:A=none:=Option.isNone_iff_eq_none.1 hA
  obtain ⟨rfl,rfl⟩:=hnil hn
  subst hn
  refine RH.a [true] ?_
  refine RH.ret1 Tryz.func26 rfl rfl λw hst=>⟨(none,0),rfl,(hst.nilrow 0 kStr).out [] rfl rfl λu h=>⟨h.1,trivial⟩⟩
 | false =>
  refine RH.adv tk [false] rfl rfl ⟨hA,trivial⟩ ?_
  refine RH.apK (κ:=kStr) (id:=0) (l:=[]) (r:=l) rfl rfl rfl rfl rfl rfl elt_str rfl rfl (λw hst=>hst.fact.2.lies) (by simp;omega) (by simp;omega) ?_
  intro A' c' m' hm'
  refine RH.a [] ?_
  refine RH.ret1 Tryz.func26 rfl rfl λw hst=>⟨(A',c'),rfl,hst.out [] rfl rfl λu h=>⟨h.1,trivial⟩⟩
section
variable {n:Nat} {B0:Nat} {I:World->Prop} {H:Heap} {m:Nat} {env:SEnv}
end
abbrev letters:List UInt8:=[97,98,0,255]
theorem u8_of (v:Nat):Value.int .u8 ((v:Int) % 256)=u8V (UInt8.ofNat v):=by
 unfold u8V
 congr 1
end Go.Proofs.YtbfjmimiigjenaaGreatDoor
