/-
Lemmas. No condition.
-/
import Derived.Test.YtbfjmimiigjenaaGreatDoorKVZ2
set_option maxRecDepth 10000
set_option linter.unusedVariables false
set_option linter.unusedSectionVars false
set_option linter.unusedSimpArgs false
namespace Go.Proofs.YtbfjmimiigjenaaGreatDoor
open Go V RowKit
def twoV (n:Nat):Value:=.agg #[u8V (UInt8.ofNat (n / 256)),u8V (UInt8.ofNat n)]
theorem two_spec (w:World) (n:Nat) (hn:n ≤ 100000):Gives Tryz.prog 114 [intV n] w (.av (.val (twoV n))):=by
 have e1:(((n:Nat):Int).fdiv (2 ^ min (Int.toNat 8) IntKind.i64.bits) % 256)=((UInt8.ofNat (n / 256)).toNat:Int):=by
  have e0:(2:Int) ^ min (Int.toNat 8) IntKind.i64.bits=256:=rfl
  rw [e0,Int.fdiv_eq_ediv_of_nonneg _ (by omega),UInt8.toNat_ofNat']
  omega
 have e2:((n:Int) % 256)=((UInt8.ofNat n).toNat:Int):=by rw [UInt8.toNat_ofNat'];omega
 have hz:(Tryz.t178).size=2:=by kernel_rfl
 refine enterH tk [(0,intE n)] Tryz.func114 rfl Tryz.ntmps114 rfl rfl ?_
 refine RH.adv tk [] rfl rfl ?_ ?_
 ·exact ⟨by simp [Ob.P],⟨hz.symm,List.all_eq_true.1 (by kernel_rfl)⟩,trivial⟩
 rw [e1,e2]
 refine RH.read (.av (.val (twoV n))) rfl rfl rfl rfl (λu q _ ha=>?_) ?_
 ·have h1:q.eval (.tmp 5)=u8V (UInt8.ofNat (n / 256)):=ev_run (e:=.av (.val (u8V (UInt8.ofNat (n / 256))))) ha rfl
  have h2:q.eval (.tmp 7)=u8V (UInt8.ofNat n):=ev_run (e:=.av (.val (u8V (UInt8.ofNat n)))) ha rfl
  have hb:(Instr.build 178 #[(0,u8V (UInt8.ofNat (n / 256))),(1,u8V (UInt8.ofNat n))]).run Tryz.prog u = .ok (twoV n) u:=by
   refine run_build u _ _ _ ?_
   kernel_rfl
  simp only [execOp,List.map_toArray,List.map_cons,List.map_nil,h1,h2,hb,Sem.run_bind,Result.andThen_ok,Sem.run_pure]
  rfl
 refine RH.adv tk [] rfl rfl ⟨⟨hz.symm,?_⟩,trivial⟩ ?_
 ·intro x hx
  simp only [Array.mem_toList_iff,List.mem_toArray,List.mem_cons,List.not_mem_nil,or_false] at hx
  rcases hx with rfl|rfl<;>rfl
 exact RH.retBox tk (.av (.val (twoV n))) Tryz.func114 rfl rfl rfl rfl λu hu=>⟨rfl,hu.fact⟩
theorem put1_spec (b:Nat) (A:Option Addr) (c:Nat) (lr:Int) (l:List UInt8) (Q:Option Addr) (qc:Nat) (p:List UInt8) (hs:l.length+p.length ≤ 1000000) (q:Nat) (hq:p.length=q) :
  Does Tryz.prog tb 187 [.slice Q q qc,.pointer (some ⟨b,0,none⟩)] [(0,bufE b A l.length c lr),(1,rowE kBy A c l)] (λu=>Sl kBy u Q qc p) (λ_:Option Addr × Nat=>.tuple #[]) (λy=>[(0,bufE b y.1 (l ++ p).length y.2 0),(1,rowE kBy y.1 y.2 (l ++ p))]) (λ_ _ _=>True):=by
 subst hq
 refine Does.enter tk [(0,slE Q p.length qc),(1,.av (.box 0 b 0))] Tryz.func187 rfl Tryz.ntmps187 rfl rfl 2 ?_
 intro B0 m0 K
 refine RH.a [] ?_
 refine RH.dd [(0,0),(1,1)] 2 (λ_:Option Addr × Nat=>.av (.val (.tuple #[intV p.length,.nilIface]))) rfl rfl rfl Tryz.call188 (Write_spec b A c lr l Q qc p hs) (λu hu=>hu.fact.2) ?_
 rintro ⟨A',c'⟩ m3 hm3;refine RH.drop ?_
 refine RH.a [] ?_
 refine RH.fin0 Tryz.func187 rfl λw hst=>⟨(A',c'),rfl,hst.out [] rfl rfl λu h=>⟨h.1,trivial⟩⟩
abbrev stepE (s:Str) (v:Option Sum) (A:Option Addr) (q c:Nat) (B:Option Addr) (p d:Nat):EV:=.st [.val (strV s),.val (.bool v.isSome),.val (sumV (v.getD Sum.zero)),.val (.slice A q c),.val (.slice B p d)]
theorem slice_all2 (w:World) (a o:Nat):(Instr.sliceAt 178 (.pointer (some ⟨a,o,none⟩)) none none none).run Tryz.prog w = .ok (.slice (some ⟨a,o,none⟩) 2 2) w:=by
 have h1:(underlying 178).run Tryz.prog w = .ok (.array 2 5) w:=run_underlying (tk.und rfl) w
 have h2:(sizeOf 5).run Tryz.prog w = .ok 1 w:=run_tsize tk (i:=Tryz.t5) rfl
 simp [Instr.sliceAt,Instr.sliceBounds,Instr.sliceBound,h1,h2,asIntOf,Instr.sureAddr,Addr.add_lit]
theorem sl_sum {w:World} {a o:Nat} {x:Sum} (h:w.rangeAt a o (x.l.map u8V)):Sl kBy w (some ⟨a,o,none⟩) 32 x.l :=
 ⟨by rw [x.h];decide,by rw [x.h];decide,λ_=>rfl,by rw [← map_flat];exact h,nofun⟩
theorem step_sum (s:Str) (h:Bool) (x:Sum) (y z:Value) (hy:y.cells.size=1) (hz:z.cells.size=1):((boxCells [.val (strV s),.val (.bool h),.val (sumV x),.val y,.val z]).toList.drop 2).take 32=x.l.map u8V:=by
 unfold boxCells sumV
 simp [flat,AV.v,Value.cells,strV]
 try rw [List.take_append_of_le_length (by rw [List.length_map,x.h];decide),List.take_of_length_le (by rw [List.length_map,x.h];decide)]
theorem V.Sl.sumAt {w:World} {B:Option Addr} {d:Nat} {os:List Sum} (h:Sl kSum w B d os) {i:Nat} (hi:i < os.length):w.rangeAt (blkA B) (offA B+i*32) (os[i].l.map u8V):=by
 intro j v hv
 have hg:=kSum.get os i hi
 have hc:kSum.cs os[i]=os[i].l.map u8V:=by show (sumV os[i]).cells.toList=_;simp [sumV,Value.cells]
 have hj:j < 32:=by
  have:=(List.getElem?_eq_some_iff.1 hv).1
  rw [List.length_map,os[i].h] at this
  exact this
 have hsz:kSum.sz=32:=rfl
 have h1:(((os.flatMap kSum.cs).drop (i*32)).take 32)[j]? = some v:=by rw [← hsz,hg,hc];exact hv
 rw [List.getElem?_take,if_pos hj,List.getElem?_drop] at h1
 have h2:=h.cells _ _ h1
 rw [← Nat.add_assoc] at h2
 exact h2
theorem agg2 {x y:Value} {n:Nat} (h:2=n) (hx:x.oneCell'=true) (hy:y.oneCell'=true):(Ob.agg #[x,y] n).P:=by
 subst h
 refine ⟨rfl,λz hz=>?_⟩
 simp only [Array.mem_toList_iff,List.mem_toArray,List.mem_cons,List.not_mem_nil,or_false] at hz
 rcases hz with rfl|rfl
 ·exact hx
 ·exact hy
theorem pair_take {bs:List UInt8} {os:List Sum} (hlen:os.length=bs.length) {i:Nat} (hi:i < bs.length) :
  pairB (bs.take (i+1)) (os.take (i+1))=pairB (bs.take i) (os.take i) ++ ([bs[i]] ++ (os[i]'(by omega)).l):=by
 have h1:bs.take (i+1)=bs.take i ++ [bs[i]]:=List.take_succ_eq_append_getElem hi
 have h2:os.take (i+1)=os.take i ++ [os[i]'(by omega)]:=List.take_succ_eq_append_getElem (by omega)
 unfold pairB
 rw [h1,h2,List.zip_append (by rw [List.length_take,List.length_take];omega),List.flatMap_append]
 simp
theorem pairB_len:∀ (bs:List UInt8) (os:List Sum),(pairB bs os).length ≤ 33*bs.length
 | [],_=>by simp [pairB]
 | _ :: _,[]=>by simp [pairB]
 | b :: bs,x :: os=>by
  have:=pairB_len bs os
  have hx:=x.h
  unfold pairB at *
  simp only [List.zip_cons_cons,List.flatMap_cons,List.length_append,List.length_cons,hx]
  omega
theorem digest_spec (w:World) (hG:Glob w) (s:Str) (v:Option Sum) (A:Option Addr) (c:Nat) (bs:List UInt8) (B:Option Addr) (d:Nat) (os:List Sum) (hb:Sl kBy w A c bs) (ho:Sl kSum w B d os) (hlen:os.length=bs.length) (hs:s.length ≤ 1000) (hn:bs.length ≤ 1000) :
  Gives Tryz.prog 107 [(stepE s v A bs.length c B os.length d).v] w (.av (.val (sumV (shaW (stepB s v bs os))))):=by
 have hl:lim=140737488351232:=rfl
 have hmod:((s.length:Int) % 256)=((UInt8.ofNat s.length).toNat:Int):=by rw [UInt8.toNat_ofNat'];omega
 have hz:(Tryz.t178).size=2:=by kernel_rfl
 have hvl:(vB v).length ≤ 33:=by
  cases v with
  | none=>simp [vB]
  | some x=>have:=x.h;simp [vB,this]
 refine enterH tk [(0,stepE s v A bs.length c B os.length d)] Tryz.func107 rfl Tryz.ntmps107 rfl rfl ?_
 refine RH.adv tk [] rfl rfl ?_ ?_
 ·simp
  done
 rw [hmod]
 refine RH.nilrow 9 kBy.T kBy.sz 10 ?_
 refine RH.dd [(0,2),(1,9)] 20 (λ_:Option Addr × Nat=>.av (.val (.tuple #[]))) rfl rfl rfl Tryz.call187 (put1_spec (w.heap.size+1+1) none 0 0 ([]) (some ⟨w.heap.size+1+1+1,0,none⟩) 1 ([UInt8.ofNat s.length]) (by simp) _ rfl) (λu hu=>Sl.own (B:=w.heap.size) (hu.row (κ:=kBy) (l:=[UInt8.ofNat s.length]) (id:=3) rfl) (by simp [hl])) ?_
 rintro ⟨A1,c1⟩ m1 hm1;refine RH.drop ?_
 dsimp only
 refine RH.tell [(1,.av (.box 0 w.heap.size 0)),(2,.av (.box 1 (w.heap.size+1) 0)),(3,.av (.box 2 (w.heap.size+1+1) 0)),(4,.av (.fn (.func 187) [] [CV.box 2 (w.heap.size+1+1)]))] [(0,some (.box w.heap.size [.val (strV s),.val (.bool v.isSome),.val (sumV (v.getD Sum.zero)),.val (.slice A bs.length c),.val (.slice B os.length d)] 61)),(1,some (.box (w.heap.size+1) [.val (sumV Sum.zero)] 40)),(2,bufE (w.heap.size+1+1) A1 ([UInt8.ofNat s.length]).length c1 0),(9,rowE kBy A1 c1 ([UInt8.ofNat s.length]))] [] rfl rfl rfl 10 ?_
 refine RH.a [] ?_
 refine RH.dd [(0,2),(1,9)] 20 (λ_:Option Addr × Nat=>.av (.val (.tuple #[intV s.length,.nilIface]))) rfl rfl rfl Tryz.call189 (WriteString_spec (w.heap.size+1+1) A1 c1 0 ([UInt8.ofNat s.length]) s (by simp;omega)) (λ_ _=>trivial) ?_
 rintro ⟨A0,c0⟩ m0 hm0;refine RH.drop ?_
 dsimp only
 refine RH.tell [(1,.av (.box 0 w.heap.size 0)),(2,.av (.box 1 (w.heap.size+1) 0)),(3,.av (.box 2 (w.heap.size+1+1) 0)),(4,.av (.fn (.func 187) [] [CV.box 2 (w.heap.size+1+1)]))] [(0,some (.box w.heap.size [.val (strV s),.val (.bool v.isSome),.val (sumV (v.getD Sum.zero)),.val (.slice A bs.length c),.val (.slice B os.length d)] 61)),(1,some (.box (w.heap.size+1) [.val (sumV Sum.zero)] 40)),(2,bufE (w.heap.size+1+1) A0 ([UInt8.ofNat s.length] ++ s).length c0 0),(9,rowE kBy A0 c0 ([UInt8.ofNat s.length] ++ s))] [] rfl rfl rfl 10 ?_
 apply RH.joinK (α:=Option Addr × Nat) (λz=>[(1,.av (.box 0 w.heap.size 0)),(2,.av (.box 1 (w.heap.size+1) 0)),(3,.av (.box 2 (w.heap.size+1+1) 0)),(4,.av (.fn (.func 187) [] [CV.box 2 (w.heap.size+1+1)])),(33,intE bs.length)]) (λz=>[(0,some (.box w.heap.size [.val (strV s),.val (.bool v.isSome),.val (sumV (v.getD Sum.zero)),.val (.slice A bs.length c),.val (.slice B os.length d)] 61)),(1,some (.box (w.heap.size+1) [.val (sumV Sum.zero)] 40)),(2,bufE (w.heap.size+1+1) z.1 ([UInt8.ofNat s.length] ++ s ++ vB v).length z.2 0),(9,rowE kBy z.1 z.2 ([UInt8.ofNat s.length] ++ s ++ vB v))]) (λ_ u=>Ext w u)
 ·cases v with
  | none =>
   refine RH.a [false] ?_
   refine RH.dd [(0,2),(1,9)] 20 (λ_:Option Addr × Nat=>.av (.val (.tuple #[]))) rfl rfl rfl Tryz.call187 (put1_spec (w.heap.size+1+1) A0 c0 0 ([UInt8.ofNat s.length] ++ s) (some ⟨m0,0,none⟩) 1 ([0]) (by simp;omega) _ rfl) (λu hu=>Sl.own (B:=w.heap.size) (hu.row (κ:=kBy) (l:=[0]) (id:=10) rfl) (by simp [hl])) ?_
   rintro ⟨A2,c2⟩ m2 hm2;refine RH.drop ?_
   dsimp only
   refine RH.a [] ?_
   exact RH.mtS (A2,c2) [] (.head _) rfl rfl rfl λu hu=>hu
  | some x =>
   have hx32:=x.h
   refine RH.a [true] ?_
   refine RH.dd [(0,2),(1,9)] 20 (λ_:Option Addr × Nat=>.av (.val (.tuple #[]))) rfl rfl rfl Tryz.call187 (put1_spec (w.heap.size+1+1) A0 c0 0 ([UInt8.ofNat s.length] ++ s) (some ⟨m0,0,none⟩) 1 ([1]) (by simp;omega) _ rfl) (λu hu=>Sl.own (B:=w.heap.size) (hu.row (κ:=kBy) (l:=[1]) (id:=10) rfl) (by simp [hl])) ?_
   rintro ⟨A3,c3⟩ m3 hm3;refine RH.drop ?_
   dsimp only
   refine RH.a [] ?_
   refine RH.read (.av (.val (.slice (some ⟨w.heap.size,2,none⟩) 32 32))) rfl rfl rfl rfl (λu q _ ha=>?_) ?_
   ·have e1:q.eval (.tmp 25) = .pointer (some ⟨w.heap.size,2,none⟩):=ev_run (e:=.av (.box 0 w.heap.size 2)) ha rfl
    simp only [execOp,e1,Option.map_none,slice_all,Sem.run_bind,Result.andThen_ok,Sem.run_pure]
    rfl
   refine RH.a [] ?_
   refine RH.dd [(0,2),(1,9)] 20 (λ_:Option Addr × Nat=>.av (.val (.tuple #[]))) rfl rfl rfl Tryz.call187 (put1_spec (w.heap.size+1+1) A3 c3 0 ([UInt8.ofNat s.length] ++ s ++ [1]) (some ⟨w.heap.size,2,none⟩) 32 (x.l) (by simp [hx32];omega) _ hx32) (λu hu=>sl_sum (range_take (n:=32) (hu.holds 0 _ rfl).2.1 (step_sum s true x _ _ rfl rfl))) ?_
   rintro ⟨A4,c4⟩ m4 hm4;refine RH.drop ?_
   dsimp only
   rw [show [UInt8.ofNat s.length] ++ s ++ [1] ++ x.l=[UInt8.ofNat s.length] ++ s ++ vB (some x) by simp [vB]]
   refine RH.a [] ?_
   exact RH.mtS (A4,c4) [] (.head _) rfl rfl rfl λu hu=>hu
 rintro ⟨A6,c6⟩ m6
 refine RH.toNx 10 ?_
 dsimp only
 refine RH.gv (.av (.val (twoV bs.length))) rfl rfl rfl Tryz.call114 (λu hu=>two_spec u bs.length (by omega)) ?_
 intro m7 hm7
 refine RH.adv tk [] rfl rfl ?_ ?_
 ·exact ⟨agg2 hz.symm rfl rfl,agg2 hz.symm rfl rfl,trivial⟩
 refine RH.read (.av (.val (.slice (some ⟨m7,0,none⟩) 2 2))) rfl rfl rfl rfl (λu q _ ha=>?_) ?_
 ·have e1:q.eval (.tmp 5) = .pointer (some ⟨m7,0,none⟩):=ev_run (e:=.av (.box 10 m7 0)) ha rfl
  simp only [execOp,e1,Option.map_none,slice_all2,Sem.run_bind,Result.andThen_ok,Sem.run_pure]
  rfl
 refine RH.a [] ?_
 refine RH.dd [(0,2),(1,9)] 20 (λ_:Option Addr × Nat=>.av (.val (.tuple #[]))) rfl rfl rfl Tryz.call187 (put1_spec (w.heap.size+1+1) A6 c6 0 ([UInt8.ofNat s.length] ++ s ++ vB v) (some ⟨m7,0,none⟩) 2 ([UInt8.ofNat (bs.length / 256),UInt8.ofNat bs.length]) (by simp;omega) _ rfl) (λu hu=>⟨by simp,by simp [hl],λ_=>rfl,range_take (n:=2) (hu.holds 10 _ rfl).2.1 rfl,nofun⟩) ?_
 rintro ⟨A5,c5⟩ m5 hm5;refine RH.drop ?_
 dsimp only
 rw [show [UInt8.ofNat s.length] ++ s ++ vB v ++ [UInt8.ofNat (bs.length / 256),UInt8.ofNat bs.length]=[UInt8.ofNat s.length] ++ s ++ vB v ++ [UInt8.ofNat (bs.length / 256),UInt8.ofNat bs.length] ++ pairB (bs.take 0) (os.take 0) by simp [pairB]]
 refine RH.tell [(1,.av (.box 0 w.heap.size 0)),(2,.av (.box 1 (w.heap.size+1) 0)),(3,.av (.box 2 (w.heap.size+1+1) 0)),(4,.av (.fn (.func 187) [] [CV.box 2 (w.heap.size+1+1)]))] [(0,some (.box w.heap.size [.val (strV s),.val (.bool v.isSome),.val (sumV (v.getD Sum.zero)),.val (.slice A bs.length c),.val (.slice B os.length d)] 61)),(1,some (.box (w.heap.size+1) [.val (sumV Sum.zero)] 40)),(2,bufE (w.heap.size+1+1) A5 ([UInt8.ofNat s.length] ++ s ++ vB v ++ [UInt8.ofNat (bs.length / 256),UInt8.ofNat bs.length] ++ pairB (bs.take 0) (os.take 0)).length c5 0),(9,rowE kBy A5 c5 ([UInt8.ofNat s.length] ++ s ++ vB v ++ [UInt8.ofNat (bs.length / 256),UInt8.ofNat bs.length] ++ pairB (bs.take 0) (os.take 0)))] [] rfl rfl rfl 10 ?_
 refine RH.a [] ?_
 refine RH.loop (α:=Nat × (Option Addr × Nat)) (λy=>[(1,.av (.box 0 w.heap.size 0)),(2,.av (.box 1 (w.heap.size+1) 0)),(3,.av (.box 2 (w.heap.size+1+1) 0)),(4,.av (.fn (.func 187) [] [CV.box 2 (w.heap.size+1+1)])),(39,slE A bs.length c),(40,intE bs.length),(41,intE y.1)]) (λy=>[(0,some (.box w.heap.size [.val (strV s),.val (.bool v.isSome),.val (sumV (v.getD Sum.zero)),.val (.slice A bs.length c),.val (.slice B os.length d)] 61)),(1,some (.box (w.heap.size+1) [.val (sumV Sum.zero)] 40)),(2,bufE (w.heap.size+1+1) y.2.1 ([UInt8.ofNat s.length] ++ s ++ vB v ++ [UInt8.ofNat (bs.length / 256),UInt8.ofNat bs.length] ++ pairB (bs.take y.1) (os.take y.1)).length y.2.2 0),(9,rowE kBy y.2.1 y.2.2 ([UInt8.ofNat s.length] ++ s ++ vB v ++ [UInt8.ofNat (bs.length / 256),UInt8.ofNat bs.length] ++ pairB (bs.take y.1) (os.take y.1)))]) (λy u=>Ext w u/\y.1 ≤ bs.length) (λy=>bs.length - y.1) (0,(A5,c5)) rfl rfl (λu hu=>⟨hu,Nat.zero_le _⟩) ?_
 rintro ⟨i,A9,c9⟩ m9
 refine RH.pure (λu hu=>hu.2) λhi=>?_
 dsimp only at hi ⊢
 have hpl:=pairB_len (bs.take i) (os.take i)
 rw [List.length_take] at hpl
 have hll:([UInt8.ofNat s.length] ++ s ++ vB v ++ [UInt8.ofNat (bs.length / 256),UInt8.ofNat bs.length] ++ pairB (bs.take i) (os.take i)).length ≤ 36000:=by simp;omega
 by_cases hlt:i < bs.length
 ·have hpt:=pair_take hlen hlt
  refine RH.adv tk [true] rfl rfl (by simp [hb.ptr hlt]<;>omega) ?_
  refine RH.loadS (.av (.val (u8V bs[i]))) rfl rfl rfl rfl (λu hu=>(hb.ext hu.fact.1).load hlt) ?_
  refine RH.a [] ?_
  refine RH.dd [(0,2),(1,9)] 20 (λ_:Option Addr × Nat=>.av (.val (.tuple #[]))) rfl rfl rfl Tryz.call187 (put1_spec (w.heap.size+1+1) A9 c9 0 ([UInt8.ofNat s.length] ++ s ++ vB v ++ [UInt8.ofNat (bs.length / 256),UInt8.ofNat bs.length] ++ pairB (bs.take i) (os.take i)) _ _ ([bs[i]]) (by simp at hll ⊢;omega) _ rfl) (λu hu=>Sl.own (B:=w.heap.size) (hu.row (κ:=kBy) (l:=[bs[i]]) (id:=10) rfl) (by simp [hl])) ?_
  rintro ⟨A6,c6⟩ m6 hm6;refine RH.drop ?_
  dsimp only
  refine RH.adv tk [] rfl rfl (by simp [ho.ptr (i:=i) (by omega)]<;>omega) ?_
  refine RH.read (.av (.val (.slice (some ⟨blkA B,offA B+i*32,none⟩) 32 32))) rfl rfl rfl rfl (λu q _ ha=>?_) ?_
  ·have e1:q.eval (.tmp 54) = .pointer (some ⟨blkA B,offA B+i*32,none⟩):=ev_run (e:=.av (.val (.pointer (some ⟨blkA B,offA B+i*32,none⟩)))) ha rfl
   simp only [execOp,e1,Option.map_none,slice_all,Sem.run_bind,Result.andThen_ok,Sem.run_pure]
   rfl
  refine RH.a [] ?_
  have hx32:=(os[i]'(by omega)).h
  refine RH.dd [(0,2),(1,9)] 20 (λ_:Option Addr × Nat=>.av (.val (.tuple #[]))) rfl rfl rfl Tryz.call187 (put1_spec (w.heap.size+1+1) A6 c6 0 ([UInt8.ofNat s.length] ++ s ++ vB v ++ [UInt8.ofNat (bs.length / 256),UInt8.ofNat bs.length] ++ pairB (bs.take i) (os.take i) ++ [bs[i]]) _ _ ((os[i]'(by omega)).l) (by simp [hx32] at hll ⊢;omega) _ hx32) (λu hu=>sl_sum ((ho.ext hu.fact.1).sumAt (by omega))) ?_
  rintro ⟨A7,c7⟩ m7 hm7;refine RH.drop ?_
  dsimp only
  rw [show [UInt8.ofNat s.length] ++ s ++ vB v ++ [UInt8.ofNat (bs.length / 256),UInt8.ofNat bs.length] ++ pairB (bs.take i) (os.take i) ++ [bs[i]] ++ (os[i]'(by omega)).l=[UInt8.ofNat s.length] ++ s ++ vB v ++ [UInt8.ofNat (bs.length / 256),UInt8.ofNat bs.length] ++ pairB (bs.take (i+1)) (os.take (i+1)) by rw [hpt];simp]
  refine RH.a [] ?_
  exact RH.again (i+1,(A7,c7)) (.head _) rfl rfl (by show bs.length - (i+1) < bs.length - i;omega) λu hu=>⟨hu.1,hlt⟩
 ·have hi':i=bs.length:=by omega
  subst hi'
  have hot:os.take bs.length=os:=List.take_of_length_le (by omega)
  rw [List.take_length,hot] at *
  have hfin:([UInt8.ofNat s.length] ++ s ++ vB v ++ [UInt8.ofNat (bs.length / 256),UInt8.ofNat bs.length] ++ pairB bs os).length ≤ 36000:=by
   have:=pairB_len bs os
   simp;omega
  refine RH.a [false] ?_
  refine RH.rowLe (id:=9) rfl λhlc hmc=>?_
  refine RH.dd [(0,2)] 20 (λ_:Unit=>slE A9 ([UInt8.ofNat s.length] ++ s ++ vB v ++ [UInt8.ofNat (bs.length / 256),UInt8.ofNat bs.length] ++ pairB bs os).length c9) rfl rfl rfl Tryz.call190 (Bytes_spec (w.heap.size+1+1) A9 _ c9 0 hlc hmc) (λ_ _=>trivial) ?_
  rintro ⟨⟩ m12 hm12;refine RH.drop ?_
  dsimp only
  refine RH.a [] ?_
  refine RH.gv (.av (.val (sumV (shaW (stepB s v bs os))))) rfl rfl rfl Tryz.call78 (λu hu=>Of_spec u (hG.ext hu.fact.1) A9 c9 _ (Sl.own (B:=w.heap.size) (hu.row (κ:=kBy) (id:=9) (l:=[UInt8.ofNat s.length] ++ s ++ vB v ++ [UInt8.ofNat (bs.length / 256),UInt8.ofNat bs.length] ++ pairB bs os) rfl) (by omega)) (by omega)) ?_
  intro m13 hm13
  refine RH.a [] ?_
  exact RH.retBox tk (.av (.val (sumV (shaW (stepB s v bs os))))) Tryz.func107 rfl rfl rfl rfl λu hu=>⟨rfl,hu.fact.1⟩
theorem V.Sl.ptr0 {α:Type} {κ:Kd α} {w:World} {A:Option Addr} {c:Nat} {l:List α} (h:Sl κ w A c l):l ≠ []->Ptr A:=h.addr
theorem V.IT.lown {u:World} {b:Plot}:∀ {t:Tree},IT u b t->(loadVar 40 ⟨b.b,37,none⟩).run Tryz.prog u = .ok (sumV t.own) u
 | .node s v k,h=>(YtbfjmimiigjenaaGreatDoor.IT.part h).lown
theorem V.IT.lmany {u:World} {b:Plot}:∀ {t:Tree},IT u b t->(loadVar 3 ⟨b.b,36,none⟩).run Tryz.prog u = .ok (intV t.many) u
 | .node s v k,h=>(YtbfjmimiigjenaaGreatDoor.IT.part h).lmany
theorem owns_len:∀ k:Kids,k.owns.length=k.bytes.length
 | .nil=>rfl
 | .cons b t r=>by simp [Kids.owns,Kids.bytes,owns_len r]
theorem kid_own {u:World} {k:Kids} {ps:List Plot} (h:IK u ps k) {i:Nat} (hi:i < ps.length) (ho:i < k.owns.length):(loadVar 40 ⟨ps[i].b,37,none⟩).run Tryz.prog u = .ok (sumV k.owns[i]) u:=by
 have h2:i < k.trees.length:=by rw [← k.len,← owns_len];exact ho
 have e:k.owns[i]=(k.trees[i]).own:=by simp [k.owns_eq]
 rw [e]
 exact V.IT.lown (h.at i hi h2)
theorem step_spec (b:Nat) (s:Str) (v:Option Sum) (k:Kids) (A:Option Addr) (c:Nat) (B:Option Addr) (d:Nat) (ps:List Plot) (many:Int) (own:Sum) (hn:k.bytes.length ≤ 256) :
  Does Tryz.prog tb 124 [ptrV b] [] (λu=>Part u b s v k A c B d ps many own) (λy:(Option Addr × Nat) × (Option Addr × Nat)=>(stepE s v y.1.1 k.bytes.length y.1.2 y.2.1 k.owns.length y.2.2).v) (λy=>[(0,rowE kBy y.1.1 y.1.2 k.bytes),(1,rowE kSum y.2.1 y.2.2 k.owns)]) (λ_ _ _=>True):=by
 have hl:lim=140737488351232:=rfl
 refine Does.enter tk [(0,ptrAt b)] Tryz.func124 rfl Tryz.ntmps124 rfl rfl 10 ?_
 intro B0 m0 K
 refine RH.a [] ?_
 apply RH.joinK (α:=Nat × Nat) (λz=>[(0,ptrAt b),(2,.av (.box 10 m0 0)),(3,.av (.box 13 z.1 0))]) (λz=>[(10,some (.box m0 [.val (strV []),.val (.bool false),.val (sumV Sum.zero),.val (.slice none 0 0),.val (.slice none 0 0)] 61)),(13,some (.box z.1 [.val (strV s),.val (.bool v.isSome),.val (sumV (v.getD Sum.zero)),.val (.slice (some ⟨z.2,0,none⟩) k.bytes.length k.bytes.length),.val (.slice none 0 0)] 61)),(12,some (.obj z.2 (.cells (bsC (List.replicate k.bytes.length 0)) 5)))]) (λ_ u=>K u/\Part u b s v k A c B d ps many own)
 ·refine RH.w [(10,some (.box m0 [.val (strV []),.val (.bool false),.val (sumV Sum.zero),.val (.slice none 0 0),.val (.slice none 0 0)] 61))] 21 ?_
  refine RD.a [] ?_
  refine RD.ld 3 (strE s) rfl rfl (λw' h=>h.2.stem) ?_
  refine RD.ld 7 (boE v.isSome) rfl rfl (λw' h=>h.2.has) ?_
  refine RD.ld 11 (sumE (v.getD Sum.zero)) rfl rfl (λw' h=>h.2.sum) ?_
  refine RD.ld 15 (slE A k.bytes.length c) rfl rfl (λw' h=>h.2.lby) ?_
  refine RD.a [] ?_
  refine RD.two (i:=17) (j:=19) (by kernel_rfl) ?_ ?_
  ·refine opD_go rfl rfl (OpGo.make8 (id:=12) (q:=k.bytes.length) (c:=k.bytes.length) (z:=k.bytes.length) rfl (Nat.le_refl _) (by omega) rfl rfl rfl) 13 (λ_=>rfl) (λ_ _ h=>h) ?_
   rintro ⟨⟩ m17 hm17
   refine RD.a [] ?_
   refine RD.s 13 19 ?_
   refine RD.a [] ?_
   refine RD.z 20 ?_
   intro m20 hm20
   exact RH.mtS (m17,m0+1) [] (.head _) rfl rfl rfl λu h=>h
  ·refine V.opS 13 19 ?_
   refine RD.a [] ?_
   refine RD.go (i:=17) rfl (by kernel_rfl) rfl (OpGo.make8 (id:=12) (q:=k.bytes.length) (c:=k.bytes.length) (z:=k.bytes.length) rfl (Nat.le_refl _) (by omega) rfl rfl rfl) 14 (λ_=>rfl) (λ_ _ h=>h) ?_
   rintro ⟨⟩ m17 hm17
   refine RD.a [] ?_
   refine RD.z 20 ?_
   intro m20 hm20
   exact RH.mtS (m0+1,m0+1+1) [] (.head _) rfl rfl rfl λu h=>h
 rintro ⟨mb,mg⟩ m1
 refine RH.toNx 20 ?_
 dsimp only
 refine RH.pure (λu h=>(⟨h.2.by_.ptr0,h.2.by_.nil,h.2.to_.ptr0⟩:(k.bytes ≠ []->Ptr A)/\(A=none->k.bytes=[]/\c=0)/\(ps ≠ []->Ptr B))) λ⟨hpA,hnA,hpB⟩=>?_
 have hfl:(k.bytes.flatMap kBy.cs).length=k.bytes.length:=by rw [kBy.flL,show kBy.sz=1 from rfl,Nat.mul_one]
 have hbs:(bsC (List.replicate k.bytes.length 0)).size=k.bytes.length:=by unfold bsC;simp
 refine RH.a [] ?_
 refine RH.w [(13,some (.box mb [.val (strV s),.val (.bool v.isSome),.val (sumV (v.getD Sum.zero)),.val (.slice (some ⟨mg,0,none⟩) k.bytes.length k.bytes.length),.val (.slice none 0 0)] 61))] 7 ?_
 refine RD.a [] ?_
 refine RD.ld 5 (slE A k.bytes.length c) rfl rfl (λw' h=>h.2.lby) ?_
 refine RD.go (i:=6) rfl (by kernel_rfl) rfl (OpGo.copyRaw (id:=12) (g:=mg) (off:=0) (dl:=k.bytes.length) (dc:=k.bytes.length) (q:=k.bytes.length) (c:=c) (A:=A) (cur:=bsC (List.replicate k.bytes.length 0)) (cs:=k.bytes.flatMap kBy.cs) (i:=Tryz.t5) (e:=5) tk rfl rfl rfl rfl rfl rfl rfl rfl ?_ (kBy.one _) ?_ ?_ ?_ ?_) 20 (λ_=>rfl) (λ_ _ h=>h) ?_
 ·rw [hfl,show k.bytes.length.min k.bytes.length=k.bytes.length from Nat.min_self _];exact (Nat.mul_one _).symm
 ·exact λw hst=>hst.fact.2.by_.cells
 ·intro hne;exact hpA λe=>hne (by rw [e];rfl)
 ·intro e;rw [(hnA e).1];rfl
 ·rw [hbs,hfl];omega
 rintro ⟨⟩ m2 hm2
 refine RD.e ?_
 refine RH.cook (id:=12) (g:=mg) (sz:=1) k.bytes.length k.bytes.length rfl (Nat.le_refl _) (by show k.bytes.length ≤ 9223372036854775807;omega) (by rw [putC_size (by rw [hbs,hfl];omega),hbs];exact (Nat.mul_one _).symm) ?_
 have hrow:(HE.row (.slice (some ⟨mg,0,none⟩) k.bytes.length k.bytes.length) 5 1 k.bytes.length ((putC (bsC (List.replicate k.bytes.length 0)) 0 (k.bytes.flatMap kBy.cs)).toList.take (k.bytes.length*1)))=HE.row (.slice (some ⟨mg,0,none⟩) k.bytes.length k.bytes.length) kBy.T kBy.sz k.bytes.length (k.bytes.flatMap kBy.cs):=by
  have e2:=putC_take2 (X:=bsC (List.replicate k.bytes.length 0)) (o:=0) (cs:=k.bytes.flatMap kBy.cs) (Nat.zero_le _)
  rw [hfl,Nat.zero_add,List.take_zero,List.nil_append] at e2
  rw [Nat.mul_one,e2];rfl
 rw [hrow]
 refine RH.nilrow 14 kSum.T kSum.sz 20 ?_
 refine RH.tell [(0,ptrAt b),(2,.av (.box 10 m0 0)),(3,.av (.box 13 mb 0))] [(10,some (.box m0 [.val (strV []),.val (.bool false),.val (sumV Sum.zero),.val (.slice none 0 0),.val (.slice none 0 0)] 61)),(13,some (.box mb [.val (strV s),.val (.bool v.isSome),.val (sumV (v.getD Sum.zero)),.val (.slice (some ⟨mg,0,none⟩) k.bytes.length k.bytes.length),.row 14 (.slice none 0 0)] 61)),(12,rowE kBy (some ⟨mg,0,none⟩) k.bytes.length k.bytes),(14,rowE kSum none 0 [])] [] rfl rfl rfl 20 ?_
 refine RH.a [] ?_
 refine RH.loadS (slE B ps.length d) rfl rfl rfl rfl (λu hu=>hu.fact.2.lto) ?_
 refine RH.a [] ?_
 refine RH.pure (λu h=>h.2.kids.len) λhpl=>?_
 have hol:=owns_len k
 refine RH.loop (α:=Nat × (Option Addr × Nat)) (λy=>[(0,ptrAt b),(2,.av (.box 10 m0 0)),(3,.av (.box 13 mb 0)),(35,slE B ps.length d),(36,intE ps.length),(37,intE y.1)]) (λy=>[(10,some (.box m0 [.val (strV []),.val (.bool false),.val (sumV Sum.zero),.val (.slice none 0 0),.val (.slice none 0 0)] 61)),(13,some (.box mb [.val (strV s),.val (.bool v.isSome),.val (sumV (v.getD Sum.zero)),.val (.slice (some ⟨mg,0,none⟩) k.bytes.length k.bytes.length),.row 14 (.slice y.2.1 (k.owns.take y.1).length y.2.2)] 61)),(12,rowE kBy (some ⟨mg,0,none⟩) k.bytes.length k.bytes),(14,rowE kSum y.2.1 y.2.2 (k.owns.take y.1))]) (λy u=>(K u/\Part u b s v k A c B d ps many own)/\y.1 ≤ ps.length) (λy=>ps.length - y.1) (0,(none,0)) rfl rfl (λu hu=>⟨hu,Nat.zero_le _⟩) ?_
 rintro ⟨i,A9,c9⟩ m9
 refine RH.pure (λu hu=>hu.2) λhi=>?_
 dsimp only at hi ⊢
 have htl:(k.owns.take i).length=i:=by rw [List.length_take];omega
 by_cases hlt:i < ps.length
 ·have hts:k.owns.take (i+1)=k.owns.take i ++ [k.owns[i]'(by omega)]:=List.take_succ_eq_append_getElem (by omega)
  have hq1:Ptr B:=hpB λe=>by rw [e] at hlt;cases hlt
  refine RH.adv tk [true] rfl rfl (by simp [hq1]<;>omega) ?_
  refine RH.loadS (ptrAt ps[i].b) rfl rfl rfl rfl (λu hu=>hu.fact.1.2.to_.load hlt) ?_
  refine RH.a [] ?_
  refine RH.w [(13,some (.box mb [.val (strV s),.val (.bool v.isSome),.val (sumV (v.getD Sum.zero)),.val (.slice (some ⟨mg,0,none⟩) k.bytes.length k.bytes.length),.row 14 (.slice A9 (k.owns.take i).length c9)] 61))] 10 ?_
  refine RD.a [] ?_
  refine RD.ld 5 (sumE (k.owns[i]'(by omega))) rfl rfl (λw' h=>kid_own h.1.2.kids hlt (by omega)) ?_
  refine RD.a [] ?_
  refine RD.s 20 6 ?_
  refine RD.a [] ?_
  refine RD.apK (nx:=30) (i:=7) (κ:=kSum) (id:=14) (r:=[k.owns[i]'(by omega)]) (l:=k.owns.take i) rfl (by kernel_rfl) rfl rfl rfl rfl rfl elt_sum rfl rfl (λw hst=>hst.liR (id:=20) (κ:=kSum) (l:=[k.owns[i]'(by omega)]) rfl (by simp [hl])) (by rw [htl];simp;omega) (by rw [htl];simp;omega) (λ_ _=>rfl) (λ_ h=>h) ?_
  intro A2 c2 m10 hm10
  rw [← hts]
  refine RD.a [] ?_
  refine RD.z 9 ?_
  intro m11 hm11
  refine RH.a [] ?_
  exact RH.again (i+1,(A2,c2)) (.head _) rfl rfl (by show ps.length - (i+1) < ps.length - i;omega) λu hu=>⟨hu.1,hlt⟩
 ·have hi':i=ps.length:=by omega
  have hta:k.owns.take i=k.owns:=List.take_of_length_le (by omega)
  rw [hta]
  refine RH.a [false] ?_
  exact RH.retBox tk (.st [.val (strV s),.val (.bool v.isSome),.val (sumV (v.getD Sum.zero)),.val (.slice (some ⟨mg,0,none⟩) k.bytes.length k.bytes.length),.row 14 (.slice A9 k.owns.length c9)]) Tryz.func124 rfl rfl rfl rfl λw hst=>⟨((some ⟨mg,0,none⟩,k.bytes.length),(A9,c9)),rfl,hst.out [(0,12),(1,14)] rfl rfl λu h=>⟨h.1.1,trivial⟩⟩
theorem many_sum:∀ k:Kids,k.many=(k.trees.map Tree.many).sum
 | .nil=>rfl
 | .cons b t r=>by simp [Kids.many,Kids.trees,many_sum r]
theorem sum_take (l:List Nat) (i:Nat):(l.take i).sum ≤ l.sum:=by
 have:l=l.take i ++ l.drop i:=(List.take_append_drop i l).symm
 conv=>rhs;rw [this]
 rw [List.sum_append];omega
def own1 (v:Option Sum):Nat:=if v.isSome=true then 1 else 0
def upto (v:Option Sum) (k:Kids) (i:Nat):Nat:=own1 v+((k.trees.map Tree.many).take i).sum
theorem upto_le (v:Option Sum) (k:Kids) (s:Str) (i:Nat):upto v k i ≤ (Tree.node s v k).many:=by
 have:=sum_take (k.trees.map Tree.many) i
 rw [← many_sum] at this
 unfold upto own1
 show _ ≤ (if v.isSome=true then 1 else 0)+k.many
 omega
theorem upto_all (v:Option Sum) (k:Kids) (s:Str):upto v k k.trees.length=(Tree.node s v k).many:=by
 unfold upto own1
 rw [List.take_of_length_le (by simp),← many_sum];rfl
theorem upto_succ (v:Option Sum) (k:Kids) {i:Nat} (h:i < k.trees.length):upto v k (i+1)=upto v k i+(k.trees[i]).many:=by
 unfold upto
 rw [List.take_succ_eq_append_getElem (by simpa using h),List.sum_append]
 simp;omega
abbrev nodE (s:Str) (v:Option Sum) (A:Option Addr) (q c:Nat) (B:Option Addr) (p d:Nat) (many:Int) (own:Sum):EV:=.st (nodF s v A q c B p d many own)
theorem made_spec (s:Str) (v:Option Sum) (k:Kids) (A:Option Addr) (c:Nat) (B:Option Addr) (d:Nat) (ps:List Plot) (mn:Int) (own0:Sum) (hn:k.bytes.length ≤ 256) (hs:s.length ≤ 1000) (hm:(Tree.node s v k).many ≤ 1000000000) :
  Does Tryz.prog tb 173 [(nodE s v A k.bytes.length c B ps.length d mn own0).v] [] (λu=>Glob u/\Sl kBy u A c k.bytes/\Sl kP u B d ps/\IK u ps k) (λb:Nat=>ptrV b) (λb=>[(0,some (.box b (nodF s v A k.bytes.length c B ps.length d (Tree.node s v k).many (Tree.node s v k).own) 165))]) (λ_ _ _=>True):=by
 have hl:lim=140737488351232:=rfl
 refine Does.enter tk [(0,nodE s v A k.bytes.length c B ps.length d mn own0)] Tryz.func173 rfl Tryz.ntmps173 rfl rfl 0 ?_
 intro B0 m0 K
 refine RH.pure (λu h=>(⟨h.2.2.2.2.len,h.2.2.2.1.ptr0⟩:ps.length=k.bytes.length/\(ps ≠ []->Ptr B))) λ⟨hpl,hpB⟩=>?_
 have hkl:=k.len
 apply RH.joinK (α:=Unit) (λ_=>[(1,.av (.box 0 m0 0)),(10,slE B ps.length d),(11,intE ps.length),(12,intE ((0:Nat):Int))]) (λ_=>[(0,some (.box m0 [.val (strV s),.val (.bool v.isSome),.val (sumV (v.getD Sum.zero)),.val (.slice A k.bytes.length c),.val (.slice B ps.length d),.val (intV (upto v k 0)),.val (sumV own0)] 165))]) (λ_ u=>K u/\(Glob u/\Sl kBy u A c k.bytes/\Sl kP u B d ps/\IK u ps k))
 ·cases v with
  | none =>
   refine RH.a [false] ?_
   exact RH.mtS () [] (.head _) rfl rfl rfl λu h=>h
  | some x =>
   refine RH.a [true] ?_
   exact RH.mtS () [] (.head _) rfl rfl rfl λu h=>h
 rintro ⟨⟩ m1
 refine RH.toNx 10 ?_
 refine RH.loop (α:=Nat) (λy=>[(1,.av (.box 0 m0 0)),(10,slE B ps.length d),(11,intE ps.length),(12,intE y)]) (λy=>[(0,some (.box m0 [.val (strV s),.val (.bool v.isSome),.val (sumV (v.getD Sum.zero)),.val (.slice A k.bytes.length c),.val (.slice B ps.length d),.val (intV (upto v k y)),.val (sumV own0)] 165))]) (λy u=>(K u/\(Glob u/\Sl kBy u A c k.bytes/\Sl kP u B d ps/\IK u ps k))/\y ≤ ps.length) (λy=>ps.length - y) 0 rfl rfl (λu hu=>⟨hu,Nat.zero_le _⟩) ?_
 rintro i m9
 refine RH.pure (λu hu=>hu.2) λhi=>?_
 dsimp only at hi ⊢
 by_cases hlt:i < ps.length
 ·have hq1:Ptr B:=hpB λe=>by rw [e] at hlt;cases hlt
  have hu1:=upto_succ v k (i:=i) (by omega)
  have hu2:=upto_le v k s (i+1)
  refine RH.adv tk [true] rfl rfl (by simp [hq1]<;>omega) ?_
  refine RH.loadS (ptrAt ps[i].b) rfl rfl rfl rfl (λu hu=>hu.fact.1.2.2.2.1.load hlt) ?_
  refine RH.a [] ?_
  refine RH.w [(0,some (.box m0 [.val (strV s),.val (.bool v.isSome),.val (sumV (v.getD Sum.zero)),.val (.slice A k.bytes.length c),.val (.slice B ps.length d),.val (intV (upto v k i)),.val (sumV own0)] 165))] 9 ?_
  refine RD.a [] ?_
  refine RD.ld 5 (intE (k.trees[i]'(by omega)).many) rfl rfl (λw' h=>V.IT.lmany (h.1.2.2.2.2.at i hlt (by omega))) ?_
  refine RD.a [] ?_
  rw [show ((upto v k i:Nat):Int)+(((k.trees[i]'(by omega)).many:Nat):Int)=((upto v k (i+1):Nat):Int) by omega]
  refine RD.z 8 ?_
  intro m11 hm11
  refine RH.a [] ?_
  exact RH.again (i+1) (.head _) rfl rfl (by show ps.length - (i+1) < ps.length - i;omega) λu hu=>⟨hu.1,hlt⟩
 ·have hi':i=k.trees.length:=by omega
  rw [hi',upto_all v k s]
  refine RH.a [false] ?_
  refine RH.dd [] 12 (λy:(Option Addr × Nat) × (Option Addr × Nat)=>stepE s v y.1.1 k.bytes.length y.1.2 y.2.1 k.owns.length y.2.2) rfl rfl rfl Tryz.call124 (step_spec m0 s v k A c B d ps (Tree.node s v k).many own0 hn) (λu hu=>⟨(hu.holds 0 _ rfl).2.1,hu.fact.1.2.2.1,hu.fact.1.2.2.2.1,hu.fact.1.2.2.2.2⟩) ?_
  rintro ⟨⟨A1,c1⟩,A2,c2⟩ m12 hm12;refine RH.drop ?_
  dsimp only
  refine RH.gv (.av (.val (sumV (Tree.node s v k).own))) rfl rfl rfl Tryz.call107 (λu hu=>digest_spec u hu.fact.1.2.1 s v A1 c1 k.bytes A2 c2 k.owns (Sl.own (B:=B0) (hu.row (κ:=kBy) (id:=10) (l:=k.bytes) rfl) (by omega)) (Sl.own (B:=B0) (hu.row (κ:=kSum) (id:=11) (l:=k.owns) rfl) (by rw [owns_len];omega)) (owns_len k) hs (by omega)) ?_
  intro m13 hm13
  refine RH.a [] ?_
  refine RH.ret1 Tryz.func173 rfl rfl λw hst=>⟨m0,rfl,hst.out [] rfl rfl λu h=>⟨h.1.1,trivial⟩⟩
theorem sHas_spec (w:World) (s p:Str):Gives Tryz.prog 134 [strV s,strV p] w (boE (hasPre s p)):=by
 refine enterH tk [(0,strE s),(1,strE p)] Tryz.func134 rfl Tryz.ntmps134 rfl rfl ?_
 refine RH.a [] ?_
 refine RH.gv (boE (hasPre s p)) rfl rfl rfl Tryz.call185 (λu _=>HasPrefix_spec u s p) ?_
 intro m1 hm1
 refine RH.a [] ?_
 refine RH.ret1 Tryz.func134 rfl rfl λw' hst=>⟨rfl,hst.fact⟩
theorem lcp_le1:∀ a b:Str,lcp a b ≤ a.length
 | [],_=>by simp [lcp]
 | x :: a,[]=>by simp [lcp]
 | x :: a,y :: b=>by
  have:=lcp_le1 a b
  unfold lcp
  split<;>simp<;>omega
theorem lcp_le2:∀ a b:Str,lcp a b ≤ b.length
 | [],_=>by simp [lcp]
 | x :: a,[]=>by simp [lcp]
 | x :: a,y :: b=>by
  have:=lcp_le2 a b
  unfold lcp
  split<;>simp<;>omega
theorem lcp_at:∀ (a b:Str) (n:Nat) (h1:n < a.length) (h2:n < b.length),n ≤ lcp a b->(a[n]=b[n] ↔ n < lcp a b)
 | [],_,_,h,_,_=>by cases h
 | _ :: _,[],_,_,h,_=>by cases h
 | x :: a,y :: b,n,h1,h2,h=>by
  unfold lcp at h ⊢
  by_cases e:x=y
  ·rw [if_pos e] at h ⊢
   cases n with
   | zero=>simp [e]
   | succ n =>
    have:=lcp_at a b n (by simpa using h1) (by simpa using h2) (by omega)
    simp only [List.getElem_cons_succ]
    rw [this];omega
  ·rw [if_neg e] at h ⊢
   have:n=0:=by omega
   subst this
   simp [e]
theorem hasPre_lcp {a b:Str} {p:Nat} (hp:p ≤ a.length) (h:hasPre b (a.take p)=true):p ≤ lcp a b:=by
 unfold hasPre at h
 rw [Bool.and_eq_true,decide_eq_true_eq,decide_eq_true_eq,List.length_take,Nat.min_eq_left hp] at h
 have e2:b=a.take p ++ b.drop p:=by rw [← h.2];exact (List.take_append_drop p b).symm
 have hl:((a.take p).length)=p:=by rw [List.length_take];omega
 have h3:=lcp_app (a.take p) (a.drop p) (b.drop p)
 rw [List.take_append_drop,← e2] at h3
 omega
theorem getD_at {a:Str} {j:Nat} (h:j < a.length):List.getD a ((j:Int)).toNat 0=a[j]:=by
 rw [Int.toNat_natCast]
 simp [List.getD,List.getElem?_eq_getElem h]
theorem op_min {P:Program} {n:Nat} {env:SEnv} {a:Act} (ha:Agree n a (kn env)) {d:Option Nat} {x y:Operand} {T T2 ty:TypeId} {ps:String} {af:Array Edge} {gd:Option (Nat × Bool)} {p q:Nat} {w:World}
  (hx:evE env x=some (intE p)) (hy:evE env y=some (intE q)) :
  (execOp a.eval ⟨d,.call ⟨.builtin .min,#[x,y],#[T,T2]⟩,ty,ps,af,gd⟩).run P w = .ok (.value (intE ((min p q:Nat):Int)).v) w:=by
 have hxv:a.eval x = .int .i64 p:=ev_run ha hx
 have hyv:a.eval y = .int .i64 q:=ev_run ha hy
 have e:(if (q:Int) < (p:Int) then (q:Int) else (p:Int))=((min p q:Nat):Int):=by split<;>omega
 have h2:(Builtin.min_ #[T,T2] ty #[.int .i64 p,.int .i64 q]).run P w = .ok (.int .i64 ((min p q:Nat):Int)) w:=by
  simp [Builtin.min_,Builtin.min2]
  split<;>omega
 simp only [execOp,resolve,invoke,builtin,Sem.run_bind,Sem.run_pure,Result.andThen_ok,List.map_toArray,List.map_cons,List.map_nil,hxv,hyv,h2]
 rfl
theorem shared_spec (w:World) (a b:Str) (ha:a.length ≤ 1000000) (hb:b.length ≤ 1000000):Gives Tryz.prog 245 [strV a,strV b] w (intE (lcp a b)):=by
 have hl1:=lcp_le1 a b
 have hl2:=lcp_le2 a b
 refine enterH tk [(0,strE a),(1,strE b)] Tryz.func245 rfl Tryz.ntmps245 rfl rfl ?_
 refine RH.a [] ?_
 refine RH.range 0 1 tk rfl rfl rfl rfl rfl ?_
 intro m1 hm1
 refine RH.a [] ?_
 refine RH.loop (α:=Nat × Nat) (λy=>[(0,strE a),(1,strE b),(8,.av (.box 0 w.heap.size 0)),(5,intE y.2)]) (λy=>[(0,some (.obj w.heap.size (.stringIter ⟨⟨a⟩⟩ y.1)))]) (λy u=>Ext w u/\y.2 ≤ lcp a b) (λy=>a.length - y.1) (0,0) rfl rfl (λu hu=>⟨hu,Nat.zero_le _⟩) ?_
 rintro ⟨p,n⟩ m2
 refine RH.pure (λu hu=>hu.2) λhn=>?_
 dsimp only at hn ⊢
 by_cases hlt:p < a.length
 ·have hle:=decode_le ⟨⟨a⟩⟩ p
  have hq:1 ≤ (Utf8.decode ⟨⟨a⟩⟩ p).2:=by
   by_cases h1:(a[p]).toNat < 128
   ·rw [decode_ascii ⟨⟨a⟩⟩ p hlt h1];exact Nat.le_refl _
   ·exact (decode_high ⟨⟨a⟩⟩ p hlt (by show 128 ≤ (a[p]).toNat;omega)).2
  refine RH.a [] ?_
  refine RH.next (r:=(Utf8.decode ⟨⟨a⟩⟩ p).1) (q:=(Utf8.decode ⟨⟨a⟩⟩ p).2) rfl rfl rfl rfl rfl hlt rfl ?_
  intro m3 hm3
  refine RH.a [true] ?_
  rw [Int.toNat_natCast]
  refine RH.gv (boE (hasPre b (a.take p))) rfl rfl rfl Tryz.call134 (λu _=>sHas_spec u b (a.take p)) ?_
  intro m4 hm4
  by_cases h:hasPre b (a.take p)=true
  ·have:=hasPre_lcp (by omega) h
   refine RH.adv tk [true] rfl rfl (by simp [h]<;>omega) ?_
   exact RH.again (p+(Utf8.decode ⟨⟨a⟩⟩ p).2,p) (.head _) rfl rfl (by dsimp only;omega) λu hu=>⟨hu.1,this⟩
  ·refine RH.adv tk [false] rfl rfl (by simp [h]<;>omega) ?_
   exact RH.again (p+(Utf8.decode ⟨⟨a⟩⟩ p).2,n) (.head _) rfl rfl (by dsimp only;omega) λu hu=>hu
 ·refine RH.a [] ?_
  refine RH.nextEnd rfl rfl rfl rfl rfl hlt ?_
  intro m3 hm3
  refine RH.a [false] ?_
  refine RH.loop (α:=Nat) (λy=>[(0,strE a),(1,strE b),(5,intE y)]) (λy=>[]) (λy u=>Ext w u/\y ≤ lcp a b) (λy=>lcp a b - y) n rfl rfl (λu hu=>hu) ?_
  rintro j m5
  refine RH.pure (λu hu=>hu.2) λhj=>?_
  dsimp only at hj ⊢
  by_cases hmin:j < min a.length b.length
  ·have hiff:=lcp_at a b j (by omega) (by omega) hj
   have g1:List.getD a ((j:Int)).toNat 0=a[j]'(by omega):=getD_at (by omega)
   have g2:List.getD b ((j:Int)).toNat 0=b[j]'(by omega):=getD_at (by omega)
   by_cases he:a[j]'(by omega)=b[j]'(by omega)
   ·have hlt2:=hiff.1 he
    refine RH.a [] ?_
    refine RH.w [] 16 ?_
    refine RD.a [] ?_
    refine RD.r 5 (intE ((min a.length b.length:Nat):Int)) rfl rfl (λu q hI ha=>op_min ha rfl rfl) ?_
    refine RD.a [true] ?_
    rw [g1,g2,he]
    refine RD.e ?_
    refine RH.a [true] ?_
    exact RH.again (j+1) (.head _) rfl rfl (by omega) λu hu=>⟨hu.1,hlt2⟩
   ·have heq:j=lcp a b:=by
     have h2:¬ j < lcp a b:=λh=>he (hiff.2 h)
     omega
    have hne:¬ (a[j]'(by omega)).toNat=(b[j]'(by omega)).toNat:=λh=>he (UInt8.toNat_inj.1 h)
    refine RH.a [] ?_
    refine RH.w [] 16 ?_
    refine RD.a [] ?_
    refine RD.r 5 (intE ((min a.length b.length:Nat):Int)) rfl rfl (λu q hI ha=>op_min ha rfl rfl) ?_
    refine RD.a [true] ?_
    rw [g1,g2]
    refine RD.e ?_
    refine RH.adv tk [false] rfl rfl (by simp [hne]<;>omega) ?_
    refine RH.ret1 Tryz.func245 rfl rfl λu hst=>⟨by rw [← heq],hst.fact.1⟩
  ·have heq:j=lcp a b:=by omega
   refine RH.a [] ?_
   refine RH.w [] 16 ?_
   refine RD.a [] ?_
   refine RD.r 5 (intE ((min a.length b.length:Nat):Int)) rfl rfl (λu q hI ha=>op_min ha rfl rfl) ?_
   refine RD.a [false] ?_
   refine RD.done (.inr (by kernel_rfl)) (by kernel_rfl) ?_
   refine RH.a [false] ?_
   refine RH.ret1 Tryz.func245 rfl rfl λu hst=>⟨by rw [← heq],hst.fact.1⟩
theorem posB_at:∀ (bs:List UInt8) (c:UInt8) (i:Nat) (h:i < bs.length),i ≤ posB bs c->(bs[i] < c ↔ i < posB bs c)
 | [],_,_,h,_=>by cases h
 | b :: bs,c,i,h,hi=>by
  rw [posB_cons] at hi ⊢
  by_cases hb:b < c
  ·rw [if_pos hb] at hi ⊢
   cases i with
   | zero=>simp [hb]
   | succ i =>
    have:=posB_at bs c i (by simpa using h) (by omega)
    simp only [List.getElem_cons_succ]
    rw [this];omega
  ·rw [if_neg hb] at hi ⊢
   have:i=0:=by omega
   subst this
   simp [hb]
theorem u8_lt {a b:UInt8}:a < b ↔ a.toNat < b.toNat:=UInt8.lt_iff_toNat_lt
theorem branch_spec (b:Nat) (x:UInt8) (s:Str) (v:Option Sum) (k:Kids) (A:Option Addr) (c:Nat) (B:Option Addr) (d:Nat) (ps:List Plot) (many:Int) (own:Sum) (w:World) (h:Part w b s v k A c B d ps many own) (hn:k.bytes.length ≤ 256) :
  Gives Tryz.prog 168 [ptrV b,u8V x] w (.av (.val (.tuple #[intV (posB k.bytes x),.bool (isB k.bytes x)]))):=by
 have hl:lim=140737488351232:=rfl
 have hpA:=h.by_.ptr0
 have hple:=posB_le k.bytes x
 refine enterH tk [(0,ptrAt b),(1,.av (.val (u8V x)))] Tryz.func168 rfl Tryz.ntmps168 rfl rfl ?_
 apply RH.joinK (α:=Unit) (λ_=>[(0,ptrAt b),(1,.av (.val (u8V x))),(6,intE (posB k.bytes x))]) (λ_=>[]) (λ_ u=>Ext w u)
 ·refine RH.a [] ?_
  refine RH.loadS (slE A k.bytes.length c) rfl rfl rfl rfl (λu hu=>(h.ext hu.fact).lby) ?_
  refine RH.a [] ?_
  refine RH.loadS (slE A k.bytes.length c) rfl rfl rfl rfl (λu hu=>(h.ext hu.fact).lby) ?_
  refine RH.a [] ?_
  refine RH.loop (α:=Nat) (λy=>[(0,ptrAt b),(1,.av (.val (u8V x))),(6,intE k.bytes.length),(17,slE A k.bytes.length c),(18,intE k.bytes.length),(19,intE y)]) (λ_=>[]) (λy u=>Ext w u/\y ≤ posB k.bytes x) (λy=>k.bytes.length - y) 0 rfl rfl (λu hu=>⟨hu,Nat.zero_le _⟩) ?_
  rintro i m2
  refine RH.pure (λu hu=>hu.2) λhi=>?_
  dsimp only at hi ⊢
  by_cases hlt:i < k.bytes.length
  ·have hiff:=posB_at k.bytes x i hlt hi
   rw [u8_lt] at hiff
   refine RH.adv tk [true] rfl rfl (by simp [hpA (λe=>by rw [e] at hlt;cases hlt)]<;>omega) ?_
   refine RH.loadS (.av (.val (u8V k.bytes[i]))) rfl rfl rfl rfl (λu hu=>(h.by_.ext hu.fact.1).load hlt) ?_
   by_cases hb:k.bytes[i].toNat < x.toNat
   ·have hlt2:=hiff.1 hb
    refine RH.a [false] ?_
    exact RH.again (i+1) (.head _) rfl rfl (by omega) λu hu=>⟨hu.1,hlt2⟩
   ·have heq:i=posB k.bytes x:=by
     have h2:¬ i < posB k.bytes x:=λh=>hb (hiff.2 h)
     omega
    refine RH.adv tk [true] rfl rfl (by simp [hb]<;>omega) ?_
    exact RH.mtS () [] (.tail _ (.head _)) (by rw [← heq];rfl) rfl rfl λu hu=>hu.1
  ·have heq:k.bytes.length=posB k.bytes x:=by omega
   refine RH.a [false] ?_
   exact RH.mtS () [] (.tail _ (.head _)) (by rw [← heq];rfl) rfl rfl λu hu=>hu.1
 rintro ⟨⟩ m3
 refine RH.toNx 2 ?_
 refine RH.a [] ?_
 refine RH.w [] 21 ?_
 refine RD.a [] ?_
 refine RD.ld 5 (slE A k.bytes.length c) rfl rfl (λw' hw=>(h.ext hw).lby) ?_
 have hcap:=h.by_.cap
 by_cases hlt:posB k.bytes x < k.bytes.length
 ·refine RD.a [true] ?_
  refine RD.ld 12 (slE A k.bytes.length c) rfl rfl (λw' hw=>(h.ext hw).lby) ?_
  refine RD.b [] rfl rfl (by simp [hpA (λe=>by rw [e] at hlt;cases hlt)]<;>omega) ?_
  refine RD.ld 15 (.av (.val (u8V k.bytes[posB k.bytes x]))) rfl rfl (λw' hw=>(h.by_.ext hw).load hlt) ?_
  refine RD.a [] ?_
  refine RD.e ?_
  refine RH.a [] ?_
  have e1:isB k.bytes x=decide (((k.bytes[posB k.bytes x]).toNat:Int)=(x.toNat:Int)):=by
   unfold isB
   have g:List.getD k.bytes (posB k.bytes x) 0=k.bytes[posB k.bytes x]:=by simp [List.getD,List.getElem?_eq_getElem hlt]
   rw [g]
   simp only [hlt,decide_true,Bool.true_and,Int.ofNat_inj]
   exact decide_eq_decide.2 UInt8.toNat_inj.symm
  refine RH.ret2 Tryz.func168 rfl rfl rfl λu hst=>⟨by rw [e1];rfl,hst.fact⟩
 ·refine RD.a [false] ?_
  refine RD.e ?_
  refine RH.a [] ?_
  have e1:isB k.bytes x=false:=by
   unfold isB
   simp [hlt]
  refine RH.ret2 Tryz.func168 rfl rfl rfl λu hst=>⟨by rw [e1];rfl,hst.fact⟩
abbrev byE (x:UInt8):EV:=.av (.val (u8V x))
abbrev ptrL (L:Plot):Value:=ptrV L.b
abbrev ptrLE (L:Plot):EV:=ptrAt L.b
theorem elt_p:ElT tb kP.T 1 8:=⟨⟨Tryz.t29,(Tryz.t29).zero.getD undef,by kernel_rfl,by kernel_rfl,by kernel_rfl,by kernel_rfl,by kernel_rfl⟩,by decide⟩
theorem cloneP (A:Option Addr) (c:Nat) (l:List Plot) (hb:l.length*8 ≤ 140737488355328):Does Tryz.prog tb 172 [.slice A l.length c] [] (λu=>Sl kP u A c l) (λy:Option Addr × Nat=>.slice y.1 l.length y.2) (λy=>[(0,rowE kP y.1 y.2 l)]) (λ_ _ _=>True):=by
 refine Does.enter tk [(0,slE A l.length c)] Tryz.func172 rfl Tryz.ntmps172 rfl rfl 0 ?_
 intro B0 m K
 refine RH.pure (λu h=>And.intro h.2.nil h.2.small) λ⟨hnil,hsm⟩=>?_
 cases hA:A.isNone with
 | true =>
  have hn:A=none:=Option.isNone_iff_eq_none.1 hA
  obtain ⟨rfl,rfl⟩:=hnil hn
  subst hn
  refine RH.a [true] ?_
  refine RH.ret1 Tryz.func172 rfl rfl λw hst=>⟨(none,0),rfl,(hst.nilrow 0 kP).out [] rfl rfl λu h=>⟨h.1,trivial⟩⟩
 | false =>
  refine RH.adv tk [false] rfl rfl ⟨hA,trivial⟩ ?_
  refine RH.apK (κ:=kP) (id:=0) (l:=[]) (r:=l) rfl rfl rfl rfl rfl rfl elt_p rfl rfl (λw hst=>hst.fact.2.lies) (by simp;omega) (by simp;omega) ?_
  intro A' c' m' hm'
  refine RH.a [] ?_
  refine RH.ret1 Tryz.func172 rfl rfl λw hst=>⟨(A',c'),rfl,hst.out [] rfl rfl λu h=>⟨h.1,trivial⟩⟩
theorem GrowP_spec (n:Nat) (hn:n ≤ 1000000):Does Tryz.prog tb 294 [.slice none 0 0,intV n] [] (λ_=>True) (λy:Option Addr × Nat=>.slice y.1 0 y.2) (λy=>[(0,rowE kP y.1 y.2 [])]) (λ_ _ _=>True):=by
 refine Does.enter tk [(0,.av (.val (.slice none 0 0))),(1,intE n)] Tryz.func294 rfl Tryz.ntmps294 rfl rfl 0 ?_
 intro B0 m0 K
 refine RH.a [false] ?_
 refine RH.read (intE ((0:Nat):Int)) rfl rfl rfl rfl (λw a _ ha=>op_cap (A:=none) (n_:=0) (c:=0) (e:=29) ha rfl rfl (tk.und (by kernel_rfl))) ?_
 by_cases h0:0 < n
 ·refine RH.a [true] ?_
  refine RH.read (intE ((0:Nat):Int)) rfl rfl rfl rfl (λw a _ ha=>op_cap (A:=none) (n_:=0) (c:=0) (e:=29) ha rfl rfl (tk.und (by kernel_rfl))) ?_
  refine RH.a [] ?_
  refine RH.go rfl rfl (OpGo.appendMake0 (id:=0) (q:=n) (e:=29) (i:=Tryz.t29) (z:=(Tryz.t29).zero.getD undef) tk rfl (by kernel_rfl) (by kernel_rfl) (by kernel_rfl) (by kernel_rfl) (by decide) (by kernel_rfl) rfl rfl rfl h0 (by show n*8 ≤ _;omega) (by simp only [maxLen];omega)) 1 ?_
  rintro ⟨cap',X⟩ m1 hm1
  refine RH.pure (λw h=>h.2) λ⟨hX1,hX2,hX3⟩=>?_
  dsimp only at hX1 hX2 hX3 ⊢
  refine RH.a [] ?_
  refine RH.cook (id:=0) (g:=m0) (sz:=1) 0 cap' rfl (by omega) hX2 hX3 ?_
  refine RH.ret1 Tryz.func294 rfl rfl λw hst=>⟨(some ⟨m0,0,none⟩,cap'),rfl,hst.out [] rfl rfl λu h=>⟨h.1.1,trivial⟩⟩
 ·refine RH.a [false] ?_
  refine RH.nilrow 0 kP.T kP.sz 1 ?_
  refine RH.ret1 Tryz.func294 rfl rfl λw hst=>⟨(none,0),rfl,hst.out [] rfl rfl λu h=>⟨h.1,trivial⟩⟩
def kSliP:Kd (Option Addr × Nat × Nat) where
 T:=163
 sz:=1
 ev x:=.av (.val (.slice x.1 x.2.1 x.2.2))
 ok x:=⟨rfl,Tryz.t163,rfl,rfl⟩
 size x:=rfl
abbrev sliOfP (r:Row Plot):Option Addr × Nat × Nat:=(r.A,r.l.length,r.c)
def lenP (rs:List (Row Plot)):Nat:=(rs.map λr=>r.l.length).sum
theorem ConcatP_spec (A:Option Addr) (c:Nat) (rs:List (Row Plot)) (hn:lenP rs ≤ 1000000) :
  Does Tryz.prog tb 279 [.slice A rs.length c] [] (λu=>Sl kSliP u A c (rs.map sliOfP)/\∀ r ∈ rs,Sl kP u r.A r.c r.l) (λy:Option Addr × Nat=>.slice y.1 (rs.flatMap Row.l).length y.2) (λy=>[(0,rowE kP y.1 y.2 (rs.flatMap Row.l))]) (λ_ _ _=>True):=by
 have hl:lim=140737488351232:=rfl
 refine Does.enter tk [(0,slE A rs.length c)] Tryz.func279 rfl Tryz.ntmps279 rfl rfl 0 ?_
 intro B0 m0 K
 refine RH.pure (λu h=>h.2.1.small) λhsm=>?_
 rw [List.length_map] at hsm
 have hls:∀ i,lenP (rs.take i) ≤ lenP rs:=by
  intro i
  have:rs=rs.take i ++ rs.drop i:=(List.take_append_drop i rs).symm
  conv=>rhs;rw [this]
  unfold lenP
  rw [List.map_append,List.sum_append];omega
 have hlf:∀ l:List (Row Plot),(l.flatMap Row.l).length=lenP l:=by
  intro l
  unfold lenP
  rw [List.length_flatMap]
 refine RH.a [] ?_
 refine RH.loop (α:=Nat) (λi=>[(0,slE A rs.length c),(9,slE A rs.length c),(10,intE rs.length),(11,intE i),(3,intE (lenP (rs.take i)))]) (λ_=>[]) (λi u=>(K u/\Sl kSliP u A c (rs.map sliOfP)/\∀ r ∈ rs,Sl kP u r.A r.c r.l)/\i ≤ rs.length) (λi=>rs.length - i) 0 rfl rfl (λu hu=>⟨hu,Nat.zero_le _⟩) ?_
 intro i m
 refine RH.pure (λu hu=>hu.2) λhi=>?_
 by_cases hlt:i < rs.length
 ·have hts:rs.take (i+1)=rs.take i ++ [rs[i]]:=List.take_succ_eq_append_getElem hlt
  have hle:lenP (rs.take (i+1))=lenP (rs.take i)+rs[i].l.length:=by rw [hts];unfold lenP;rw [List.map_append,List.sum_append];simp only [List.map_cons,List.map_nil,List.sum_cons,List.sum_nil,Nat.add_zero]
  have hb1:=hls (i+1)
  refine RH.pure (λu hu=>hu.1.2.1.ptr (i:=i) (by simpa using hlt)) λhptr=>?_
  refine RH.adv tk [true] rfl rfl (by simp [hptr]<;>omega) ?_
  refine RH.loadS (slE rs[i].A rs[i].l.length rs[i].c) rfl rfl rfl rfl (λu hu=>by
   have h1:=hu.fact.1.2.1.load (i:=i) (by simpa using hlt)
   rw [List.getElem_map] at h1
   exact h1) ?_
  refine RH.a [false] ?_
  refine RH.again (i+1) (.head _) ?_ rfl (by show rs.length - (i+1) < rs.length - i;omega) λu hu=>⟨hu.1,hlt⟩
  rw [hle]
  rfl
 ·have hi':i=rs.length:=by omega
  subst hi'
  rw [List.take_length]
  refine RH.a [false] ?_
  refine RH.dd [] 1 (λy:Option Addr × Nat=>rowS 0 y.1 0 y.2) rfl rfl rfl Tryz.call294 (GrowP_spec (lenP rs) hn) (λ_ _=>trivial) ?_
  rintro ⟨A1,c1⟩ m1 hm1
  refine RH.drop ?_
  refine RH.a [] ?_
  refine RH.loop (α:=Nat × (Option Addr × Nat)) (λy=>[(0,slE A rs.length c),(25,slE A rs.length c),(26,intE rs.length),(27,intE y.1),(6,rowS 0 y.2.1 ((rs.take y.1).flatMap Row.l).length y.2.2)]) (λy=>[(0,rowE kP y.2.1 y.2.2 ((rs.take y.1).flatMap Row.l))]) (λy u=>(K u/\Sl kSliP u A c (rs.map sliOfP)/\∀ r ∈ rs,Sl kP u r.A r.c r.l)/\y.1 ≤ rs.length) (λy=>rs.length - y.1) (0,(A1,c1)) rfl rfl (λu hu=>⟨hu.1,Nat.zero_le _⟩) ?_
  rintro ⟨i,A2,c2⟩ m2
  refine RH.pure (λu hu=>hu.2) λhi=>?_
  dsimp only at hi ⊢
  by_cases hlt:i < rs.length
  ·have hts:rs.take (i+1)=rs.take i ++ [rs[i]]:=List.take_succ_eq_append_getElem hlt
   have hfm:(rs.take (i+1)).flatMap Row.l=(rs.take i).flatMap Row.l ++ rs[i].l:=by rw [hts,List.flatMap_append];simp
   have hb1:=hls (i+1)
   rw [← hlf,hfm,List.length_append] at hb1
   refine RH.pure (λu hu=>hu.1.2.1.ptr (i:=i) (by simpa using hlt)) λhptr=>?_
   refine RH.adv tk [true] rfl rfl (by simp [hptr]<;>omega) ?_
   refine RH.loadS (slE rs[i].A rs[i].l.length rs[i].c) rfl rfl rfl rfl (λu hu=>by
    have h1:=hu.fact.1.2.1.load (i:=i) (by simpa using hlt)
    rw [List.getElem_map] at h1
    exact h1) ?_
   refine RH.a [] ?_
   refine RH.apK (κ:=kP) (id:=0) (l:=(rs.take i).flatMap Row.l) (r:=rs[i].l) rfl rfl rfl rfl rfl rfl elt_p rfl rfl (λu hu=>(hu.fact.1.2.2 _ (List.getElem_mem hlt)).lies) (by omega) (by omega) ?_
   intro A3 c3 m3 hm3
   rw [← hfm]
   refine RH.a [] ?_
   exact RH.again (i+1,(A3,c3)) (.head _) rfl rfl (by show rs.length - (i+1) < rs.length - i;omega) λu hu=>⟨hu.1,hlt⟩
  ·have hi':i=rs.length:=by omega
   subst hi'
   rw [List.take_length]
   refine RH.a [false] ?_
   refine RH.ret1 Tryz.func279 rfl rfl λw hst=>⟨(A2,c2),rfl,hst.out [] rfl rfl λu h=>⟨h.1.1,trivial⟩⟩
theorem V.Sl.dropA {α:Type} {κ:Kd α} {w:World} {A:Option Addr} {c:Nat} {l:List α} (h:Sl κ w A c l) (i:Nat) (hi:i ≤ l.length):Sl κ w (V.subA A i c κ.sz) (c - i) (l.drop i):=by
 have hcap:=h.cap
 have hsm:=h.small
 have hlen:(l.drop i).length=l.length - i:=List.length_drop
 by_cases hc:c=i
 ·have hd:l.drop i=[]:=List.drop_eq_nil_of_le (by omega)
  rw [hd]
  refine ⟨Nat.zero_le _,Nat.zero_le _,λe=>absurd rfl e,λj v hj=>by simp at hj,λ_=>⟨rfl,by omega⟩⟩
 ·unfold V.subA
  rw [if_neg hc]
  cases A with
  | none=>obtain ⟨rfl,rfl⟩:=h.nil rfl;simp at hi;omega
  | some a =>
   refine ⟨by omega,by omega,λe=>?_,λj v hj=>?_,nofun⟩
   ·have hp:=h.addr (by rintro rfl;simp at e)
    unfold Ptr at hp
    injection hp with hp
    simp only [Option.map_some]
    rw [hp,Addr.add_lit]
    rfl
   ·have hp:=h.addr (by rintro rfl;simp at hj)
    unfold Ptr at hp
    injection hp with hp
    simp only [Option.map_some]
    rw [hp,Addr.add_lit]
    have e1:(l.drop i).flatMap κ.cs=(l.flatMap κ.cs).drop (i*κ.sz):=by
     have e2:l.flatMap κ.cs=(l.take i).flatMap κ.cs ++ (l.drop i).flatMap κ.cs:=by rw [← List.flatMap_append,List.take_append_drop]
     have e3:((l.take i).flatMap κ.cs).length=i*κ.sz:=by rw [κ.flL,List.length_take,Nat.min_eq_left hi]
     rw [e2,← e3,List.drop_left]
    rw [e1,List.getElem?_drop] at hj
    have:=h.cells _ v hj
    rw [← Nat.add_assoc] at this
    exact this
theorem replaced_spec (A:Option Addr) (c:Nat) (l:List Plot) (i:Nat) (x:Plot) (hi:i < l.length) (hl:l.length ≤ 1000):Does Tryz.prog tb 169 [.slice A l.length c,intV i,ptrV x.b] [] (λu=>Sl kP u A c l) (λy:Option Addr × Nat=>.slice y.1 l.length y.2) (λy=>[(0,rowE kP y.1 y.2 (l.set i x))]) (λ_ _ _=>True):=by
 refine Does.enter tk [(0,slE A l.length c),(1,intE i),(2,ptrAt x.b)] Tryz.func169 rfl Tryz.ntmps169 rfl rfl 0 ?_
 intro B0 m0 K
 refine RH.a [] ?_
 refine RH.dd [] 1 (λy:Option Addr × Nat=>rowS 0 y.1 l.length y.2) rfl rfl rfl Tryz.call172 (cloneP A c l (by omega)) (λu hu=>hu.fact.2) ?_
 rintro ⟨A1,c1⟩ m1 hm1
 refine RH.drop ?_
 dsimp only
 refine RH.pureS (λu hu=>hu.ptr (id:=0) (κ:=kP) (l:=l) rfl (by intro e;rw [e] at hi;cases hi)) λhptr=>?_
 refine RH.adv tk [] rfl rfl (by simp [hptr]<;>omega) ?_
 refine RH.storeK (κ:=kP) (id:=0) (l:=l) i x rfl rfl rfl rfl rfl rfl hi rfl rfl ?_
 intro m2 hm2
 refine RH.a [] ?_
 refine RH.ret1 Tryz.func169 rfl rfl λw hst=>⟨(A1,c1),rfl,by
  have:=hst.out (G:=[(0,rowE kP A1 c1 (l.set i x))]) (J:=λu=>K u/\True) [] rfl rfl λu h=>⟨h.1,trivial⟩
  exact this⟩
theorem insB_spec (A:Option Addr) (c:Nat) (l:List UInt8) (i:Nat) (x:UInt8) (hi:i ≤ l.length) (hl:l.length ≤ 1000):Does Tryz.prog tb 246 [.slice A l.length c,intV i,u8V x] [] (λu=>Sl kBy u A c l) (λy:Option Addr × Nat=>.slice y.1 (l.take i ++ x :: l.drop i).length y.2) (λy=>[(0,rowE kBy y.1 y.2 (l.take i ++ x :: l.drop i))]) (λ_ _ _=>True):=by
 have hlim:lim=140737488351232:=rfl
 refine Does.enter tk [(0,slE A l.length c),(1,intE i),(2,byE x)] Tryz.func246 rfl Tryz.ntmps246 rfl rfl 0 ?_
 intro B0 m0 K
 refine RH.pure (λu h=>h.2.cap) λhcap=>?_
 have hz:(Tryz.t5).size=1:=by kernel_rfl
 have htl:(l.take i).length=i:=by rw [List.length_take];omega
 have hdl:(l.drop i).length=l.length - i:=List.length_drop
 have hfm:([⟨A,c,l.take i⟩,⟨some ⟨m0,0,none⟩,1,[x]⟩,⟨V.subA A i c 1,c - i,l.drop i⟩]:List (Row UInt8)).flatMap Row.l=l.take i ++ x :: l.drop i:=by simp
 refine RH.a [] ?_
 refine RH.w [] 11 ?_
 refine RD.a [] ?_
 rw [Int.toNat_natCast,hz]
 refine RD.s 0 4 ?_
 refine RD.a [] ?_
 refine RD.s 1 8 ?_
 refine RD.a [] ?_
 have hC:=Concat_spec (some ⟨m0+1,0,none⟩) 3 [⟨A,c,l.take i⟩,⟨some ⟨m0,0,none⟩,1,[x]⟩,⟨V.subA A i c 1,c - i,l.drop i⟩] (by simp [lenS,htl,hdl];omega)
 rw [hfm] at hC
 refine RD.dd 9 [] 3 (λy:Option Addr × Nat=>rowS 2 y.1 (l.take i ++ x :: l.drop i).length y.2) rfl rfl rfl Tryz.call115 hC (λu hu=>⟨?_,?_⟩) ?_
 ·have h:=Sl.own (B:=B0) (hu.row (κ:=kSli) (l:=[(A,i,c),(some ⟨m0,0,none⟩,1,1),(V.subA A i c 1,l.length - i,c - i)]) (id:=1) rfl) (by simp [hlim])
  have e:([⟨A,c,l.take i⟩,⟨some ⟨m0,0,none⟩,1,[x]⟩,⟨V.subA A i c 1,c - i,l.drop i⟩]:List (Row UInt8)).map sliOf=[(A,i,c),(some ⟨m0,0,none⟩,1,1),(V.subA A i c 1,l.length - i,c - i)]:=by simp [htl,hdl]
  rw [e]
  exact h
 ·intro r hr
  simp only [List.mem_cons,List.not_mem_nil,or_false] at hr
  rcases hr with rfl|rfl|rfl
  ·exact YtbfjmimiigjenaaGreatDoor.Sl.take hu.fact.2 i hi
  ·exact Sl.own (B:=B0) (hu.row (κ:=kBy) (l:=[x]) (id:=0) rfl) (by simp [hlim])
  ·exact hu.fact.2.dropA i hi
 rintro ⟨A1,c1⟩ m1 hm1
 refine RD.a [] ?_
 refine RD.e ?_
 refine RH.a [] ?_
 refine RH.ret1 Tryz.func246 rfl rfl λw hst=>⟨(A1,c1),rfl,hst.out [(0,2)] rfl rfl λu h=>⟨h.1.1,trivial⟩⟩
theorem insP_spec (A:Option Addr) (c:Nat) (l:List Plot) (i:Nat) (x:Plot) (hi:i ≤ l.length) (hl:l.length ≤ 1000):Does Tryz.prog tb 247 [.slice A l.length c,intV i,ptrL x] [] (λu=>Sl kP u A c l) (λy:Option Addr × Nat=>.slice y.1 (l.take i ++ x :: l.drop i).length y.2) (λy=>[(0,rowE kP y.1 y.2 (l.take i ++ x :: l.drop i))]) (λ_ _ _=>True):=by
 have hlim:lim=140737488351232:=rfl
 refine Does.enter tk [(0,slE A l.length c),(1,intE i),(2,ptrLE x)] Tryz.func247 rfl Tryz.ntmps247 rfl rfl 0 ?_
 intro B0 m0 K
 refine RH.pure (λu h=>h.2.cap) λhcap=>?_
 have hz:(Tryz.t29).size=1:=by kernel_rfl
 have htl:(l.take i).length=i:=by rw [List.length_take];omega
 have hdl:(l.drop i).length=l.length - i:=List.length_drop
 have hfm:([⟨A,c,l.take i⟩,⟨some ⟨m0,0,none⟩,1,[x]⟩,⟨V.subA A i c 1,c - i,l.drop i⟩]:List (Row Plot)).flatMap Row.l=l.take i ++ x :: l.drop i:=by simp
 refine RH.a [] ?_
 refine RH.w [] 11 ?_
 refine RD.a [] ?_
 rw [Int.toNat_natCast,hz]
 refine RD.s 0 4 ?_
 refine RD.a [] ?_
 refine RD.s 1 8 ?_
 refine RD.a [] ?_
 have hC:=ConcatP_spec (some ⟨m0+1,0,none⟩) 3 [⟨A,c,l.take i⟩,⟨some ⟨m0,0,none⟩,1,[x]⟩,⟨V.subA A i c 1,c - i,l.drop i⟩] (by simp [lenP,htl,hdl];omega)
 rw [hfm] at hC
 refine RD.dd 9 [] 3 (λy:Option Addr × Nat=>rowS 2 y.1 (l.take i ++ x :: l.drop i).length y.2) rfl rfl rfl Tryz.call279 hC (λu hu=>⟨?_,?_⟩) ?_
 ·have h:=Sl.own (B:=B0) (hu.row (κ:=kSliP) (l:=[(A,i,c),(some ⟨m0,0,none⟩,1,1),(V.subA A i c 1,l.length - i,c - i)]) (id:=1) rfl) (by simp [hlim])
  have e:([⟨A,c,l.take i⟩,⟨some ⟨m0,0,none⟩,1,[x]⟩,⟨V.subA A i c 1,c - i,l.drop i⟩]:List (Row Plot)).map sliOfP=[(A,i,c),(some ⟨m0,0,none⟩,1,1),(V.subA A i c 1,l.length - i,c - i)]:=by simp [htl,hdl]
  rw [e]
  exact h
 ·intro r hr
  simp only [List.mem_cons,List.not_mem_nil,or_false] at hr
  rcases hr with rfl|rfl|rfl
  ·exact YtbfjmimiigjenaaGreatDoor.Sl.take hu.fact.2 i hi
  ·exact Sl.own (B:=B0) (hu.row (κ:=kP) (l:=[x]) (id:=0) rfl) (by simp [hlim])
  ·exact hu.fact.2.dropA i hi
 rintro ⟨A1,c1⟩ m1 hm1
 refine RD.a [] ?_
 refine RD.e ?_
 refine RH.a [] ?_
 refine RH.ret1 Tryz.func247 rfl rfl λw hst=>⟨(A1,c1),rfl,hst.out [(0,2)] rfl rfl λu h=>⟨h.1.1,trivial⟩⟩
def Late (pre Q:World->Prop) (m:Nat) (u:World):Prop:=∀ v,Agr (λk=>k < m) u v->pre v->Q v
instance Late.from {pre Q:World->Prop}:From (Late pre Q):=⟨λ_ _ _ _ h hj v hv hp=>hj v (h.trans hv) hp⟩
theorem Late.now {pre Q:World->Prop} {m:Nat} {u:World} (h:Late pre Q m u) (hp:pre u):Q u:=h u (Agr.refl _ _) hp
theorem Late.up {pre Q:World->Prop} {m m':Nat} {u v:World} (h:Late pre Q m' u) (hm:m ≤ m') (hv:Agr (λk=>k < m) u v) (hp:pre v):Q v :=
 h v (hv.mono λk _ hk=>Nat.lt_of_lt_of_le hk hm) hp
theorem hoL {m:Nat} {u v:World} {x:HE} (h:x.holds tb m u) (hv:Agr (λk=>k < m) u v):x.holds tb m v :=
 HE.kept h λk hk=>hv.block k (HE.lt h hk).2 (Nat.not_lt.2 (HE.lt h hk).1)
theorem holds_low {m B:Nat} {u:World} {x:HE} (hB:B ≤ m) (h:x.holds tb m u):x.holds tb B u:=by
 cases x with
 | box b fs T=>exact ⟨Nat.le_trans hB h.1,h.2⟩
 | row v e sz n xs =>
  refine ⟨h.1,?_⟩
  rcases h.2 with h2|⟨g,cap,cur,hv,hg,r⟩
  ·exact .inl h2
  ·exact .inr ⟨g,cap,cur,hv,Nat.le_trans hB hg,r⟩
 | obj b o=>exact ⟨Nat.le_trans hB h.1,h.2⟩
theorem St.low {m B:Nat} {H:Heap} {I:World->Prop} {w:World} (hB:B ≤ m) (h:St tb m H I w):St tb B H I w :=
 ⟨Nat.le_trans hB h.base,λid x hx=>holds_low hB (h.holds id x hx),h.apart,h.keeps⟩
theorem V.Does.enter0 {n:Nat} {g:FuncId} {fn:Func} {c:Code} {args:List Value} {pre:World->Prop} {α:Type} {W:α->Value} {G':α->Heap} {J:α->Nat->World->Prop} (E:SEnv) (hf:Tryz.prog.funcs[g]? = some fn) (hb:fn.body=some c) (hn:fn.ntmps=n)
  (hl:Nat.ble args.length n=true) (hE:V.Sub E (λt=>args[t]?)) (nx:Nat)
  (h:∀ (m:Nat) (K:World->Prop),RH Tryz.prog (fr g) n tb m [] (λr w'=>∃ x,r = .returned (W x)/\St tb m (G' x) (λu=>K u/\J x m u) w') [.code c] E [] nx m (λu=>K u/\pre u)):Does Tryz.prog tb g args [] pre W G' J:=by
 intro B0 w K hst hp
 have hst2:St tb w.heap.size [] (λu=>K u/\pre u) w:=⟨Nat.le_refl _,(λid x hx=>nomatch hx),(λi j x y _ hx=>nomatch hx),λu hu=>⟨hst.keeps u hu,hp u (hst.keeps u hu)⟩⟩
 have:=YtbfjmimiigjenaaGreatDoor.V.enter (f:=g) (n:=n) hf hb hn hl (Run.weaken _ hE.le (h w.heap.size K w rfl hst2))
 refine this.mono ?_
 rintro r w' ⟨x,hr,hx⟩
 exact ⟨x,hr,St.low hst.base hx⟩
mutual
def Tree.thin (N:Nat):Tree->Prop
 | .node s _ k=>s.length ≤ N/\k.thin N
def Kids.thin (N:Nat):Kids->Prop
 | .nil=>True
 | .cons _ t r=>t.thin N/\r.thin N
end
theorem Kids.thin_at {N:Nat}:∀ {k:Kids},k.thin N->∀ i (h:i < k.trees.length),(k.trees[i]).thin N
 | .nil,_,i,h=>by cases h
 | .cons b t r,ht,i,h=>by
  unfold Kids.thin at ht
  cases i with
  | zero=>exact ht.1
  | succ i=>exact Kids.thin_at ht.2 i (by simpa [Kids.trees] using h)
theorem IK.of {u:World}:∀ {k:Kids} {ps:List Plot},ps.length=k.trees.length->(∀ i (h:i < ps.length) (h2:i < k.trees.length),IT u ps[i] k.trees[i])->IK u ps k
 | .nil,[],_,_=>trivial
 | .nil,_ :: _,h,_=>by simp [Kids.trees] at h
 | .cons _ t r,[],h,_=>by simp [Kids.trees] at h
 | .cons _ t r,p :: ps,h,ha=>by
  unfold IK
  refine ⟨ha 0 (by simp) (by simp [Kids.trees]),IK.of (by simpa [Kids.trees] using h) λi h1 h2=>?_⟩
  exact ha (i+1) (by simpa using h1) (by simpa [Kids.trees] using h2)
theorem box_node {m:Nat} {u:World} {b:Nat} {fs:List AV} (h:(HE.box b fs 165).holds tb m u):u.heap[b]? = some (.cells (boxCells fs) 165 (0,0)):=h.2.1
theorem opP {n:Nat} {env:SEnv} {a:Act} (ha:Agree n a (kn env)) {o:Oper} {T':TypeId} {x y:Operand} {u:EV} {p:Option Addr} {w:World} (hop:o.op = .binOp .eql 29 x y T') (hx:evE env x=some u) (hu:u.v = .pointer p) (hy:a.eval y = .pointer none) :
  (execOp a.eval o).run Tryz.prog w = .ok (.value (EV.av (.val (.bool p.isNone))).v) w:=by
 have h:=run_eql_pointer_nil (P:=Tryz.prog) (w:=w) 29 p (by kernel_rfl)
 simp only [execOp,hop,ev_run ha hx,hu,hy]
 have hg:(eqGuard .eql 29 x y (.pointer p) (.pointer none)).run Tryz.prog w = .ok () w:=by
  simp [eqGuard]
 rw [Sem.run_bind,Sem.run_bind,hg,Result.andThen_ok,h]
 rfl
theorem put_nil (name:Str) (x:Sum) (hn:name.length ≤ 1000):Does Tryz.prog tb 167 [.pointer none,strV name,sumV x] [] (λu=>Glob u) (λb:Plot=>ptrV b.b) (λ_=>[]) (λb=>Late (λ_=>True) (λu=>IT u b (leaf name x))):=by
 refine V.Does.enter0 [(0,.av (.val (.pointer none))),(1,strE name),(2,sumE x)] Tryz.func167 rfl Tryz.ntmps167 rfl rfl 0 ?_
 intro m0 K
 refine RH.a [] ?_
 refine RH.read (.av (.val (.bool (none:Option Addr).isNone))) rfl rfl rfl rfl (λu q _ ha=>opP ha rfl rfl rfl rfl) ?_
 refine RH.a [true] ?_
 have hmany:(Tree.node name (some x) .nil).many=1:=rfl
 refine RH.dd [] 3 (λb:Nat=>ptrAt b) rfl rfl rfl Tryz.call173 (made_spec name (some x) .nil none 0 none 0 [] 0 Sum.zero (by decide) hn (by rw [hmany];decide)) (λu hu=>⟨hu.fact.2,Sl.void u,Sl.void u,trivial⟩) ?_
 rintro b m1 hm1
 refine RH.drop ?_
 dsimp only
 refine RH.free (i:=1) rfl ?_
 refine RH.a [] ?_
 refine RH.ret1 Tryz.func167 rfl rfl λw hst=>⟨.node b none 0 none 0 [],rfl,hst.out [] rfl rfl λu h=>⟨h.1.1,λv hv _=>?_⟩⟩
 refine YtbfjmimiigjenaaGreatDoor.Part.tree (A:=none) (c:=0) (B:=none) (d:=0) (ps:=[]) ⟨box_node (hoL h.2 hv),Sl.void v,Sl.void v,trivial⟩
theorem vok_node (s:Str) (v:Option Sum) (A:Option Addr) (q c:Nat) (B:Option Addr) (p d:Nat) (many:Int) (own:Sum):VOk tb 165 (nodE s v A q c B p d many own).v:=by
 refine ⟨_,Tryz.t165,rfl,rfl,?_,?_⟩
 ·have h1:(sumV (v.getD Sum.zero)).cells.size=32:=(sumV_ok _).1
  have h2:(sumV own).cells.size=32:=(sumV_ok _).1
  simp only [nodF,List.map_cons,List.map_nil,flat_cons,flat_nil,AV.v,List.append_nil,List.size_toArray,List.length_append,Array.length_toList,h1,h2]
  rfl
 ·intro u hu
  have:u ∈ (boxCells (nodF s v A q c B p d many own)).toList:=hu
  rw [nod_cells] at this
  simp only [List.mem_append,List.mem_cons,List.not_mem_nil,or_false,List.mem_map] at this
  rcases this with (rfl|rfl)|⟨x,_,rfl⟩|(rfl|rfl|rfl)|⟨x,_,rfl⟩<;>rfl
theorem Part.all {u:World} {b:Nat} {s:Str} {v:Option Sum} {k:Kids} {A:Option Addr} {c:Nat} {B:Option Addr} {d:Nat} {ps:List Plot} {many:Int} {own:Sum} (h:YtbfjmimiigjenaaGreatDoor.Part u b s v k A c B d ps many own):(loadVar 165 ⟨b,0,none⟩).run Tryz.prog u = .ok (nodE s v A k.bytes.length c B ps.length d many own).v u:=by
 refine V.run_load tk (vok_node s v A k.bytes.length c B ps.length d many own) λj x hj=>?_
 rw [Nat.zero_add]
 refine h.cell j x ?_
 rw [← nod_cells]
 exact hj
theorem ins_get {α:Type} (l:List α) (p:Nat) (a:α) (hp:p ≤ l.length) (i:Nat) (h:i < (l.take p ++ a :: l.drop p).length) :
  (l.take p ++ a :: l.drop p)[i]=if h1:i < p then l[i]'(by omega) else if h2:i=p then a else l[i - 1]'(by simp at h;omega):=by
 have ht:(l.take p).length=p:=by rw [List.length_take];omega
 by_cases h1:i < p
 ·rw [dif_pos h1,List.getElem_append_left (by omega),List.getElem_take]
 ·rw [dif_neg h1,List.getElem_append_right (by omega)]
  by_cases h2:i=p
  ·subst h2
   rw [dif_pos rfl]
   simp [ht]
  ·rw [dif_neg h2]
   have e1:i - (l.take p).length=(i - p - 1)+1:=by omega
   simp only [e1,List.getElem_cons_succ,List.getElem_drop]
   congr 1
   omega
theorem IK.ins {u:World} {k k':Kids} {ps:List Plot} {p:Nat} {b:Plot} {t:Tree} (h:IK u ps k) (hp:p ≤ k.trees.length) (ht:k'.trees=k.trees.take p ++ t :: k.trees.drop p) (hb:IT u b t):IK u (ps.take p ++ b :: ps.drop p) k':=by
 have hpl:=h.len
 rw [k.len] at hpl
 refine IK.of (by rw [ht];simp [hpl]) λi h1 h2=>?_
 have h3:k'.trees[i]=(k.trees.take p ++ t :: k.trees.drop p)[i]'(by rw [← ht];exact h2):=by simp only [ht]
 rw [h3,ins_get ps p b (by omega) i h1,ins_get k.trees p t hp i]
 simp at h1
 by_cases c1:i < p
 ·rw [dif_pos c1,dif_pos c1]
  exact h.at i _ _
 ·rw [dif_neg c1,dif_neg c1]
  by_cases c2:i=p
  ·rw [dif_pos c2,dif_pos c2];exact hb
  ·rw [dif_neg c2,dif_neg c2]
   exact h.at (i - 1) _ _
def PutOk (t:Tree) (name:Str) (x:Sum):Prop:=∀ b:Plot,Does Tryz.prog tb 167 [ptrV b.b,strV name,sumV x] [] (λu=>Glob u/\IT u b t) (λb':Plot=>ptrV b'.b) (λ_=>[]) (λb'=>Late (λu=>IT u b t) (λu=>IT u b' (t.put name x)))
theorem put_ns (s:Str) (r:Str) (x:Sum) (v:Option Sum) (k:Kids) (hk:k.wf) (hth:k.thin 1000) {M:Nat} (hM:M ≤ 900000000) (hm:k.many ≤ M) (hn:(s ++ r).length ≤ 1000)
  (ih:∀ t:Tree,t.wf->t.thin 1000->t.many ≤ M->∀ c r',r=c :: r'->PutOk t r' x)
  (b:Nat) (A:Option Addr) (c:Nat) (B:Option Addr) (d:Nat) (ps:List Plot) (many:Int) (own:Sum) :
  Does Tryz.prog tb 167 [ptrV b,strV (s ++ r),sumV x] [] (λu=>Glob u/\Part u b s v k A c B d ps many own) (λb':Plot=>ptrV b'.b) (λ_=>[]) (λb'=>Late (λu=>Part u b s v k A c B d ps many own) (λu=>IT u b' ((Tree.node s v k).put (s ++ r) x))):=by
 have hl:lim=140737488351232:=rfl
 have hlen:=kbL hk
 have hsl:s.length ≤ 1000:=by rw [List.length_append] at hn;omega
 have hlcp:lcp s (s ++ r)=s.length:=by
  have:=lcp_app s [] r
  rw [List.append_nil,lcp_nil2] at this
  exact this
 refine V.Does.enter0 [(0,ptrAt b),(1,strE (s ++ r)),(2,sumE x)] Tryz.func167 rfl Tryz.ntmps167 rfl rfl 0 ?_
 intro m0 K
 refine RH.a [] ?_
 refine RH.read (.av (.val (.bool (some (⟨b,0,none⟩:Addr)).isNone))) rfl rfl rfl rfl (λu q _ ha=>opP ha rfl rfl rfl rfl) ?_
 refine RH.a [false] ?_
 refine RH.loadS (strE s) rfl rfl rfl rfl (λu hu=>hu.fact.2.2.stem) ?_
 refine RH.a [] ?_
 refine RH.gv (intE (lcp s (s ++ r))) rfl rfl rfl Tryz.call245 (λu hu=>shared_spec u s (s ++ r) (by omega) (by omega)) ?_
 intro m1 hm1
 rw [hlcp]
 refine RH.a [] ?_
 refine RH.loadS (strE s) rfl rfl rfl rfl (λu hu=>hu.fact.2.2.stem) ?_
 refine RH.a [false] ?_
 refine RH.loadS (nodE s v A k.bytes.length c B ps.length d many own) rfl rfl rfl rfl (λu hu=>hu.fact.2.2.all) ?_
 cases r with
 | nil =>
  simp only [List.append_nil] at *
  refine RH.a [true] ?_
  refine RH.w [(0,some (.box m0 [.val (sumV x)] 40))] 5 ?_
  refine RD.a [] ?_
  refine RD.s 2 2 ?_
  refine RD.a [] ?_
  refine RD.z 4 ?_
  intro m2 hm2
  refine RH.a [] ?_
  have hmy:(Tree.node s (some x) k).many=1+k.many:=rfl
  refine RH.dd [] 5 (λb':Nat=>ptrAt b') rfl rfl rfl Tryz.call173 (made_spec s (some x) k A c B d ps many own hlen hsl (by rw [hmy];omega)) (λu hu=>⟨hu.fact.2.1,hu.fact.2.2.by_,hu.fact.2.2.to_,hu.fact.2.2.kids⟩) ?_
  rintro b' m3 hm3
  refine RH.drop ?_
  dsimp only
  refine RH.free (i:=2) rfl ?_
  refine RH.a [] ?_
  refine RH.ret1 Tryz.func167 rfl rfl λw hst=>⟨.node b' A c B d ps,rfl,hst.out [] rfl rfl λu h=>⟨h.1.1,λv' hv hp=>?_⟩⟩
  rw [put_here]
  exact YtbfjmimiigjenaaGreatDoor.Part.tree ⟨box_node (hoL h.2 hv),hp.by_,hp.to_,hp.kids⟩
 | cons e r' =>
  refine RH.a [false] ?_
  have g1:List.getD (s ++ e :: r') ((s.length:Int)).toNat 0=e:=by rw [getD_at (by simp)];simp
  rw [g1]
  refine RH.gv (.av (.val (.tuple #[intV (posB k.bytes e),.bool (isB k.bytes e)]))) rfl rfl rfl Tryz.call168 (λu hu=>branch_spec b e s v k A c B d ps many own u hu.fact.2.2 hlen) ?_
  intro m2 hm2
  rw [put_kid]
  refine RH.pure (λu h=>(⟨h.2.2.kids.len,h.2.2.to_.ptr0⟩:ps.length=k.bytes.length/\(ps ≠ []->Ptr B))) λ⟨hpl,hpB⟩=>?_
  by_cases hB:isB k.bytes e=true
  ·refine RH.adv tk [true] rfl rfl (by simp [hB]<;>omega) ?_
   refine RH.tell [(0,ptrAt b),(1,strE (s ++ e :: r')),(5,.av (.box 0 m0 0)),(7,intE s.length),(10,.av (.box 1 m1 0)),(11,intE (posB k.bytes e))] [(0,some (.box m0 [.val (sumV x)] 40)),(1,some (.box m1 (nodF s v A k.bytes.length c B ps.length d many own) 165))] [] rfl rfl rfl 2 ?_
   obtain ⟨hpos,hput⟩:=(kget_pos (n:=r') hk).1 hB
   have hkl:=k.len
   have hpos':posB k.bytes e < ps.length:=by omega
   obtain ⟨he1,_,he2⟩:=kput_is r' x hk hB
   have hdr:(s ++ e :: r').drop (((s.length:Int)+1).toNat)=r':=by
    rw [show ((s.length:Int)+1).toNat=s.length+1 by omega,← List.drop_drop,List.drop_left];rfl
   refine RH.w [(0,some (.box m0 [.val (sumV x)] 40))] 21 ?_
   refine RD.a [] ?_
   refine RD.ld 3 (slE B ps.length d) rfl rfl (λw' h=>h.2.2.lto) ?_
   refine RD.ld 8 (slE B ps.length d) rfl rfl (λw' h=>h.2.2.lto) ?_
   refine RD.b [] rfl rfl (by simp [hpB (λe=>by rw [e] at hpos';cases hpos')]<;>omega) ?_
   refine RD.ld 11 (ptrAt ps[posB k.bytes e].b) rfl rfl (λw' h=>h.2.2.to_.load hpos') ?_
   refine RD.a [] ?_
   rw [hdr]
   have hkw:=(kid_at hk (posB k.bytes e) hpos (by omega)).1
   have hkm:=many_kid (k:=k) (posB k.bytes e) hpos
   have hpm:=many_kput (n:=r') (x:=x) (c:=e) hk
   have hmy:(Tree.node s v (k.put e r' x)).many ≤ 1000000000:=by
    show (if v.isSome=true then 1 else 0)+(k.put e r' x).many ≤ _
    split at hpm<;>split<;>omega
   have hkids:∀ u b1,Part u b s v k A c B d ps many own->IT u b1 ((k.trees[posB k.bytes e]).put r' x)->IK u (ps.set (posB k.bytes e) b1) (k.put e r' x):=by
    intro u b1 hp hb1
    refine IK.of (by rw [List.length_set,he2,List.length_set];omega) λi h1 h2=>?_
    rw [List.length_set] at h1
    have h3:i < k.trees.length:=by omega
    have h4:(k.put e r' x).trees[i]=(k.trees.set (posB k.bytes e) ((k.trees[posB k.bytes e]).put r' x))[i]'(by rw [List.length_set];exact h3):=by simp only [he2]
    rw [h4,List.getElem_set,List.getElem_set]
    split
    ·exact hb1
    ·exact hp.kids.at i h1 h3
   refine RD.dd 17 [] 2 (λb1:Plot=>ptrAt b1.b) rfl rfl rfl Tryz.call167 (ih _ hkw (Kids.thin_at hth _ hpos) (by omega) e r' rfl ps[posB k.bytes e]) (λu hu=>⟨hu.fact.2.1,hu.fact.2.2.kids.at _ hpos' hpos⟩) ?_
   rintro b1 m3 hm3
   refine RD.dd 18 [] 4 (λy:Option Addr × Nat=>rowS 2 y.1 ps.length y.2) rfl rfl rfl Tryz.call169 (replaced_spec B d ps (posB k.bytes e) b1 hpos' (by omega)) (λu hu=>hu.fact.1.2.2.to_) ?_
   rintro ⟨B1,d1⟩ m4 hm4
   refine RD.a [] ?_
   refine RD.z 20 ?_
   intro m5 hm5
   refine RH.drop ?_
   refine RH.a [] ?_
   have hC:=made_spec s v (k.put e r' x) A c B1 d1 (ps.set (posB k.bytes e) b1) many own (by rw [he1];exact hlen) hsl hmy
   rw [he1,List.length_set] at hC
   refine RH.dd [] 8 (λb':Nat=>ptrAt b') rfl rfl rfl Tryz.call173 hC (λu hu=>⟨hu.fact.1.2.1,hu.fact.1.2.2.by_,Sl.own (B:=m0) (hu.row (κ:=kP) (l:=ps.set (posB k.bytes e) b1) (id:=2) rfl) (by rw [List.length_set];omega),hkids u b1 hu.fact.1.2.2 (hu.fact.2.now (hu.fact.1.2.2.kids.at _ hpos' hpos))⟩) ?_
   rintro b' m6 hm6
   refine RH.drop ?_
   refine RH.free (i:=4) rfl ?_
   refine RH.free (i:=2) rfl ?_
   refine RH.a [] ?_
   refine RH.ret1 Tryz.func167 rfl rfl λw hst=>⟨.node b' A c B1 d1 (ps.set (posB k.bytes e) b1),rfl,hst.out [] rfl rfl λu h=>⟨h.1.1.1.1,λv' hv hp=>?_⟩⟩
   have hrow:v'.ownsRow m0 kP.T kP.sz (.slice B1 (ps.set (posB k.bytes e) b1).length d1) (ps.set (posB k.bytes e) b1).length ((ps.set (posB k.bytes e) b1).flatMap kP.cs):=hoL h.2 hv
   refine YtbfjmimiigjenaaGreatDoor.Part.tree (A:=A) (c:=c) (B:=B1) (d:=d1) (ps:=ps.set (posB k.bytes e) b1) ⟨?_,?_,Sl.own hrow (by rw [List.length_set];omega),hkids v' b1 hp (h.1.1.2.up (by omega) hv (hp.kids.at _ hpos' hpos))⟩
   ·rw [he1,List.length_set]
    exact box_node (hoL h.1.2 hv)
   ·rw [he1];exact hp.by_
  ·refine RH.adv tk [false] rfl rfl (by simp [hB]<;>omega) ?_
   refine RH.tell [(0,ptrAt b),(1,strE (s ++ e :: r')),(5,.av (.box 0 m0 0)),(7,intE s.length),(10,.av (.box 1 m1 0)),(11,intE (posB k.bytes e))] [(0,some (.box m0 [.val (sumV x)] 40)),(1,some (.box m1 (nodF s v A k.bytes.length c B ps.length d many own) 165))] [] rfl rfl rfl 2 ?_
   have hBf:isB k.bytes e=false:=by simpa using hB
   have hkl:=k.len
   have hple:=posB_le k.bytes e
   obtain ⟨he1,he2⟩:=kput_not r' x hBf
   have hdr:(s ++ e :: r').drop (((s.length:Int)+1).toNat)=r':=by
    rw [show ((s.length:Int)+1).toNat=s.length+1 by omega,← List.drop_drop,List.drop_left];rfl
   have hpm:=many_kput (n:=r') (x:=x) (c:=e) hk
   have hmy:(Tree.node s v (k.put e r' x)).many ≤ 1000000000:=by
    show (if v.isSome=true then 1 else 0)+(k.put e r' x).many ≤ _
    split at hpm<;>split<;>omega
   have hlen':=kbL (kput_wf (c:=e) (n:=r') (x:=x) hk)
   have hrl:r'.length ≤ 1000:=by rw [List.length_append,List.length_cons] at hn;omega
   refine RH.w [(0,some (.box m0 [.val (sumV x)] 40))] 25 ?_
   refine RD.a [] ?_
   refine RD.ld 3 (slE A k.bytes.length c) rfl rfl (λw' h=>h.2.2.lby) ?_
   refine RD.ld 12 (slE B ps.length d) rfl rfl (λw' h=>h.2.2.lto) ?_
   refine RD.a [] ?_
   rw [hdr]
   rw [g1]
   refine RD.dd 8 [] 4 (λy:Option Addr × Nat=>rowS 2 y.1 (k.bytes.take (posB k.bytes e) ++ e :: k.bytes.drop (posB k.bytes e)).length y.2) rfl rfl rfl Tryz.call246 (insB_spec A c k.bytes (posB k.bytes e) e hple (by omega)) (λu hu=>hu.fact.2.2.by_) ?_
   rintro ⟨A1,c1⟩ m3 hm3
   refine RD.a [] ?_
   refine RD.dd 19 [] 4 (λb1:Plot=>ptrAt b1.b) rfl rfl rfl Tryz.call167 (put_nil r' x hrl) (λu hu=>hu.fact.1.2.1) ?_
   rintro b1 m4 hm4
   refine RD.a [] ?_
   refine RD.dd 20 [] 6 (λy:Option Addr × Nat=>rowS 4 y.1 (ps.take (posB k.bytes e) ++ b1 :: ps.drop (posB k.bytes e)).length y.2) rfl rfl rfl Tryz.call247 (insP_spec B d ps (posB k.bytes e) b1 (by omega) (by omega)) (λu hu=>hu.fact.1.1.2.2.to_) ?_
   rintro ⟨B1,d1⟩ m5 hm5
   refine RD.a [] ?_
   refine RD.s 6 22 ?_
   refine RD.a [] ?_
   refine RD.z 24 ?_
   intro m6 hm6
   refine RH.drop ?_
   refine RH.a [] ?_
   have hC:=made_spec s v (k.put e r' x) A1 c1 B1 d1 (ps.take (posB k.bytes e) ++ b1 :: ps.drop (posB k.bytes e)) many own hlen' hsl hmy
   rw [he1] at hC
   have hkids:∀ u,Part u b s v k A c B d ps many own->IT u b1 (leaf r' x)->IK u (ps.take (posB k.bytes e) ++ b1 :: ps.drop (posB k.bytes e)) (k.put e r' x):=λu hp hb1=>hp.kids.ins (by omega) he2 hb1
   have hl1:(k.bytes.take (posB k.bytes e) ++ e :: k.bytes.drop (posB k.bytes e)).length ≤ lim:=by rw [← he1];omega
   have hl2:(ps.take (posB k.bytes e) ++ b1 :: ps.drop (posB k.bytes e)).length ≤ lim:=by simp [hl];omega
   refine RH.dd [] 9 (λb':Nat=>ptrAt b') rfl rfl rfl Tryz.call173 hC (λu hu=>⟨hu.fact.1.1.2.1,Sl.own (B:=m0) (hu.row (κ:=kBy) (l:=k.bytes.take (posB k.bytes e) ++ e :: k.bytes.drop (posB k.bytes e)) (id:=2) rfl) hl1,Sl.own (B:=m0) (hu.row (κ:=kP) (l:=ps.take (posB k.bytes e) ++ b1 :: ps.drop (posB k.bytes e)) (id:=4) rfl) hl2,hkids u hu.fact.1.1.2.2 (hu.fact.2.now trivial)⟩) ?_
   rintro b' m7 hm7
   refine RH.drop ?_
   refine RH.free (i:=6) rfl ?_
   refine RH.free (i:=4) rfl ?_
   refine RH.free (i:=2) rfl ?_
   refine RH.a [] ?_
   refine RH.ret1 Tryz.func167 rfl rfl λw hst=>⟨.node b' A1 c1 B1 d1 (ps.take (posB k.bytes e) ++ b1 :: ps.drop (posB k.bytes e)),rfl,hst.out [] rfl rfl λu h=>⟨h.1.1.1.1.1.1,λv' hv hp=>?_⟩⟩
   have hr1:v'.ownsRow m0 kBy.T kBy.sz (.slice A1 (k.bytes.take (posB k.bytes e) ++ e :: k.bytes.drop (posB k.bytes e)).length c1) (k.bytes.take (posB k.bytes e) ++ e :: k.bytes.drop (posB k.bytes e)).length ((k.bytes.take (posB k.bytes e) ++ e :: k.bytes.drop (posB k.bytes e)).flatMap kBy.cs):=hoL h.2 hv
   have hr2:v'.ownsRow m0 kP.T kP.sz (.slice B1 (ps.take (posB k.bytes e) ++ b1 :: ps.drop (posB k.bytes e)).length d1) (ps.take (posB k.bytes e) ++ b1 :: ps.drop (posB k.bytes e)).length ((ps.take (posB k.bytes e) ++ b1 :: ps.drop (posB k.bytes e)).flatMap kP.cs):=hoL h.1.2 hv
   refine YtbfjmimiigjenaaGreatDoor.Part.tree (A:=A1) (c:=c1) (B:=B1) (d:=d1) (ps:=ps.take (posB k.bytes e) ++ b1 :: ps.drop (posB k.bytes e)) ⟨?_,?_,Sl.own hr2 hl2,hkids v' hp (h.1.1.1.2.up (by omega) hv trivial)⟩
   ·rw [he1]
    exact box_node (hoL h.1.1.2 hv)
   ·rw [he1];exact Sl.own hr1 hl1
section
variable {P:Program} {f:Fr} {n:Nat} {S:Stops} {R:Ending->World->Prop} {tb:TT} {B0:Nat} {I:World->Prop} {H:Heap} {nx m:Nat} {env:SEnv} {todo k:List Item}
variable {α:Type} {ops:Array Oper} {i:Nat} {l:List Bool} {o:Oper}
variable {rs:List Nat} {d:Nat} {fo:Operand} {args:Array Operand} {tys:Array TypeId} {ty:TypeId} {ps:String} {af:Array Edge} {gd:Option (Nat × Bool)} {g:FuncId} {es:List EV} {f1 c1:List Value}
theorem V.opD_doesB {G0:Heap} {I0:World->Prop} {fuel:Nat} {Gi:Heap} {pre:World->Prop} {W:α->Value} {G':α->Heap} {J:α->Nat->World->Prop} [∀ x,From (J x)] (σ:List (Nat × Nat)) (nx nx':Nat) (e:α->EV)
  (ho:ops.toList[i]? = some ⟨some d,.call ⟨.value fo,args,tys⟩,ty,ps,af,gd⟩) (hw:wantE env ops gd = .yes) (hd:Nat.blt d n=true) (hf:fnE (evE env fo)=some (g,f1,c1)) (hes:evsE env args.toList=some es)
  (hc:∀ (xs:Array Value) w,(callFunc g xs).run P w = .ok (.enter g xs) w) (hC:Does P tb g (f1 ++ es.map EV.v ++ c1) Gi pre W G' J)
  (hσ:SelEq Gi H σ) (hn:nodupN (Gi.map λp=>ren σ p.1)=true) (hV:∀ x,W x=(e x).v) (hG:∀ x,nodupN ((G' x).map λp=>renB Gi σ nx p.1)=true) (hp:∀ u,St tb B0 (rest Gi H σ) I u->pre u)
  (hG0:∀ x,SubH G0 (afterH Gi (G' x) H σ nx)) (hI:∀ w,I w->I0 w)
  (hk:∀ x m',m ≤ m'->RD P f n tb B0 S R k ops G0 I0 fuel (l.set i true) ((d,e x) :: env) (afterH Gi (G' x) H σ nx) nx' m' (λu=>I u/\J x m u)) :
  ∀ w a,w.heap.size=m->St tb B0 H I w->Agree n a (kn env)->wpOp P ops (QD P f n S R k) i (λa' w'=>St tb B0 G0 I0 w'/\V.wpAnyH P .any ops (QD P f n S R k) (St tb B0 G0 I0) fuel (l.set i true).toArray a' w') a w :=
 let ⟨_,h1,h2⟩:=fnE_ok hf;opD_go ho hw (OpGo.doB σ nx e hd h1 h2 hes hc hC hσ hn hp hV hG) nx' hG0 (λ_ w h=>hI w h.1) hk
end
section
variable {P:Program} {f:Fr} {n:Nat} {S:Stops} {R:Ending->World->Prop} {tb:TT} {B0:Nat} {I:World->Prop} {H:Heap} {nx m:Nat} {env:SEnv} {todo:List Item}
theorem V.RH.above {id k:Nat} {x:HE} (hH:loH H id=some x) (hk:x.blk=some k) (h:B0 ≤ k->k < m->RH P f n tb B0 S R todo env H nx m I):RH P f n tb B0 S R todo env H nx m I :=
 λw hm hst=>h (HE.lt (hst.holds id x hH) hk).1 (hm ▸ (HE.lt (hst.holds id x hH) hk).2) w hm hst
end
theorem put_split_eq (p:Str) (e:UInt8) (q r:Str) (v:Option Sum) (k:Kids) (x:Sum) (hr:r=[] ∨ ∃ c r',r=c :: r'/\e ≠ c) :
  (Tree.node (p ++ e :: q) v k).put (p ++ r) x=(Tree.node p none (.cons e (.node q v k) .nil)).put (p ++ r) x:=by
 rcases hr with rfl|⟨c,r',rfl,h⟩
 ·rw [List.append_nil,put_up,put_here]
 ·rw [put_fork _ _ _ _ _ _ _ _ h,put_kid]
  congr 1
  unfold Kids.ins Kids.put
  by_cases h1:e < c
  ·rw [if_pos h1,if_pos h1];rfl
  ·rw [if_neg h1,if_neg h1,if_neg h]
set_option maxHeartbeats 4000000 in
theorem put_split (p:Str) (e:UInt8) (q r:Str) (x:Sum) (v:Option Sum) (k:Kids) (hk:k.wf) (hth:k.thin 1000) {M:Nat} (hM:M ≤ 900000000) (hm:(Tree.node q v k).many ≤ M) (hs:(p ++ e :: q).length ≤ 1000) (hn:(p ++ r).length ≤ 1000)
  (hr:r=[] ∨ ∃ c r',r=c :: r'/\e ≠ c) (ih:∀ t:Tree,t.wf->t.thin 1000->t.many ≤ M->∀ c r',r=c :: r'->PutOk t r' x) (hv:(Tree.node q v k).wf)
  (b:Nat) (A:Option Addr) (c:Nat) (B:Option Addr) (d:Nat) (ps:List Plot) (many:Int) (own:Sum) :
  Does Tryz.prog tb 167 [ptrV b,strV (p ++ r),sumV x] [] (λu=>Glob u/\Part u b (p ++ e :: q) v k A c B d ps many own) (λb':Plot=>ptrV b'.b) (λ_=>[]) (λb'=>Late (λu=>Part u b (p ++ e :: q) v k A c B d ps many own) (λu=>IT u b' ((Tree.node (p ++ e :: q) v k).put (p ++ r) x))):=by
 have hl:lim=140737488351232:=rfl
 have hlen:=kbL hk
 have hpl:p.length ≤ 1000:=by rw [List.length_append] at hs;omega
 have hql:q.length ≤ 1000:=by rw [List.length_append,List.length_cons] at hs;omega
 have hlcp:lcp (p ++ e :: q) (p ++ r)=p.length:=by
  rw [lcp_app]
  rcases hr with rfl|⟨c,r',rfl,h⟩
  ·rw [lcp_nil];rfl
  ·rw [lcp_ne h];rfl
 have hsl:(p ++ e :: q).length=p.length+(q.length+1):=by rw [List.length_append,List.length_cons]
 have hdr:(p ++ e :: q).drop (((p.length:Int)+1).toNat)=q:=by
  rw [show ((p.length:Int)+1).toNat=p.length+1 by omega,← List.drop_drop,List.drop_left];rfl
 have htk:(p ++ e :: q).take ((p.length:Int)).toNat=p:=by rw [Int.toNat_natCast,List.take_left]
 have hg1:List.getD (p ++ e :: q) ((p.length:Int)).toNat 0=e:=by rw [getD_at (by rw [hsl];omega)];simp
 have hmy:(Tree.node q v k).many ≤ 1000000000:=by omega
 rw [put_split_eq p e q r v k x hr]
 refine V.Does.enter0 [(0,ptrAt b),(1,strE (p ++ r)),(2,sumE x)] Tryz.func167 rfl Tryz.ntmps167 rfl rfl 0 ?_
 intro m0 K
 refine RH.a [] ?_
 refine RH.read (.av (.val (.bool (some (⟨b,0,none⟩:Addr)).isNone))) rfl rfl rfl rfl (λu q _ ha=>opP ha rfl rfl rfl rfl) ?_
 refine RH.a [false] ?_
 refine RH.loadS (strE (p ++ e :: q)) rfl rfl rfl rfl (λu hu=>hu.fact.2.2.stem) ?_
 refine RH.a [] ?_
 refine RH.gv (intE (lcp (p ++ e :: q) (p ++ r))) rfl rfl rfl Tryz.call245 (λu hu=>shared_spec u (p ++ e :: q) (p ++ r) (by omega) (by omega)) ?_
 intro m1 hm1
 rw [hlcp]
 refine RH.a [] ?_
 refine RH.loadS (strE (p ++ e :: q)) rfl rfl rfl rfl (λu hu=>hu.fact.2.2.stem) ?_
 refine RH.a [true] ?_
 refine RH.loadS (nodE (p ++ e :: q) v A k.bytes.length c B ps.length d many own) rfl rfl rfl rfl (λu hu=>hu.fact.2.2.all) ?_
 refine RH.a [] ?_
 refine RH.loadS (strE (p ++ e :: q)) rfl rfl rfl rfl (λu hu=>hu.fact.2.2.stem) ?_
 refine RH.a [] ?_
 rw [hdr]
 refine RH.tell [(0,ptrAt b),(1,strE (p ++ r)),(5,.av (.box 0 m0 0)),(7,intE p.length),(8,.av (.box 1 m1 0))] [(0,some (.box m0 [.val (sumV x)] 40)),(1,some (.box m1 (nodF q v A k.bytes.length c B ps.length d many own) 165))] [] rfl rfl rfl 2 ?_
 apply RH.joinK (α:=Nat × Nat × Nat × Nat) (λz=>[(1,strE (p ++ r)),(5,.av (.box 0 m0 0)),(9,.av (.box 17 z.1 0))]) (λz=>[(0,some (.box m0 [.val (sumV x)] 40)),(17,some (.box z.1 [.val (strV p),.val (.bool false),.val (sumV Sum.zero),.val (.slice (some ⟨z.2.1,0,none⟩) 1 1),.val (.slice (some ⟨z.2.2.1,0,none⟩) 1 1),.val (intV 0),.val (sumV Sum.zero)] 165)),(12,rowE kBy (some ⟨z.2.1,0,none⟩) 1 [e]),(15,rowE kP (some ⟨z.2.2.1,0,none⟩) 1 [Plot.node z.2.2.2 A c B d ps]),(14,some (.box z.2.2.2 (nodF q v A k.bytes.length c B ps.length d (Tree.node q v k).many (Tree.node q v k).own) 165))]) (λ_ u=>K u/\(Glob u/\Part u b (p ++ e :: q) v k A c B d ps many own))
 ·refine RH.w [(1,some (.box m1 (nodF q v A k.bytes.length c B ps.length d many own) 165))] 19 ?_
  refine RD.a [] ?_
  refine RD.ld 3 (strE (p ++ e :: q)) rfl rfl (λw' h=>h.2.2.stem) ?_
  refine RD.ld 9 (strE (p ++ e :: q)) rfl rfl (λw' h=>h.2.2.stem) ?_
  refine RD.a [] ?_
  rw [htk,hg1]
  refine RD.three (i:=12) (j:=14) (q:=17) (by kernel_rfl) ?_ ?_ ?_
  ·refine V.opS 12 12 ?_
   refine RD.a [] ?_
   refine RD.two (i:=14) (j:=17) (by kernel_rfl) ?_ ?_
   ·refine V.opD_doesB (i:=14) [] 14 20 (e:=λb1:Nat=>ptrAt b1) rfl rfl rfl rfl rfl Tryz.call173 (made_spec q v k A c B d ps many own hlen hql hmy) rfl rfl (λ_=>rfl) (λ_=>rfl) (λu hu=>⟨hu.fact.2.1,hu.fact.2.2.by_,hu.fact.2.2.to_,hu.fact.2.2.kids⟩) (λ_=>rfl) (λ_ h=>h) ?_
    rintro b14 m14 hm14
    refine RD.a [] ?_
    refine RD.two (i:=15) (j:=17) (by kernel_rfl) ?_ ?_
    ·refine V.opS 15 15 ?_
     refine RD.a [] ?_
     refine RD.s 17 17 ?_
     refine RD.a [] ?_
     refine RD.z 18 ?_
     intro m18 hm18
     exact RH.mtS (m14+1,m1+1,m14,b14) [] (.head _) rfl rfl rfl λu h=>h.1
    ·refine V.opS 17 17 ?_
     refine RD.a [] ?_
     refine RD.s 15 15 ?_
     refine RD.a [] ?_
     refine RD.z 18 ?_
     intro m18 hm18
     exact RH.mtS (m14,m1+1,m14+1,b14) [] (.head _) rfl rfl rfl λu h=>h.1
   ·refine V.opS 17 17 ?_
    refine RD.a [] ?_
    refine RD.doB (nx:=14) (i:=14) [] 20 (e:=λb1:Nat=>ptrAt b1) rfl (by kernel_rfl) rfl rfl rfl rfl Tryz.call173 (made_spec q v k A c B d ps many own hlen hql hmy) rfl rfl (λ_=>rfl) (λ_=>rfl) (λu hu=>⟨hu.fact.2.1,hu.fact.2.2.by_,hu.fact.2.2.to_,hu.fact.2.2.kids⟩) (λ_=>rfl) (λ_ h=>h) ?_
    rintro b14 m14 hm14
    refine RD.a [] ?_
    refine RD.s 15 15 ?_
    refine RD.a [] ?_
    refine RD.z 18 ?_
    intro m18 hm18
    exact RH.mtS (m1+1+1,m1+1,m14,b14) [] (.head _) rfl rfl rfl λu h=>h.1
  ·refine V.opD_doesB (i:=14) [] 14 20 (e:=λb1:Nat=>ptrAt b1) rfl rfl rfl rfl rfl Tryz.call173 (made_spec q v k A c B d ps many own hlen hql hmy) rfl rfl (λ_=>rfl) (λ_=>rfl) (λu hu=>⟨hu.fact.2.1,hu.fact.2.2.by_,hu.fact.2.2.to_,hu.fact.2.2.kids⟩) (λ_=>rfl) (λ_ h=>h) ?_
   rintro b14 m14 hm14
   refine RD.a [] ?_
   refine RD.three (i:=12) (j:=15) (q:=17) (by kernel_rfl) ?_ ?_ ?_
   ·refine V.opS 12 12 ?_
    refine RD.a [] ?_
    refine RD.two (i:=15) (j:=17) (by kernel_rfl) ?_ ?_
    ·refine V.opS 15 15 ?_
     refine RD.a [] ?_
     refine RD.s 17 17 ?_
     refine RD.a [] ?_
     refine RD.z 18 ?_
     intro m18 hm18
     exact RH.mtS (m14+1+1,m14,m14+1,b14) [] (.head _) rfl rfl rfl λu h=>h.1
    ·refine V.opS 17 17 ?_
     refine RD.a [] ?_
     refine RD.s 15 15 ?_
     refine RD.a [] ?_
     refine RD.z 18 ?_
     intro m18 hm18
     exact RH.mtS (m14+1,m14,m14+1+1,b14) [] (.head _) rfl rfl rfl λu h=>h.1
   ·refine V.opS 15 15 ?_
    refine RD.a [] ?_
    refine RD.two (i:=12) (j:=17) (by kernel_rfl) ?_ ?_
    ·refine V.opS 12 12 ?_
     refine RD.a [] ?_
     refine RD.s 17 17 ?_
     refine RD.a [] ?_
     refine RD.z 18 ?_
     intro m18 hm18
     exact RH.mtS (m14+1+1,m14+1,m14,b14) [] (.head _) rfl rfl rfl λu h=>h.1
    ·refine V.opS 17 17 ?_
     refine RD.a [] ?_
     refine RD.s 12 12 ?_
     refine RD.a [] ?_
     refine RD.z 18 ?_
     intro m18 hm18
     exact RH.mtS (m14+1,m14+1+1,m14,b14) [] (.head _) rfl rfl rfl λu h=>h.1
   ·refine V.opS 17 17 ?_
    refine RD.a [] ?_
    refine RD.two (i:=12) (j:=15) (by kernel_rfl) ?_ ?_
    ·refine V.opS 12 12 ?_
     refine RD.a [] ?_
     refine RD.s 15 15 ?_
     refine RD.a [] ?_
     refine RD.z 18 ?_
     intro m18 hm18
     exact RH.mtS (m14,m14+1,m14+1+1,b14) [] (.head _) rfl rfl rfl λu h=>h.1
    ·refine V.opS 15 15 ?_
     refine RD.a [] ?_
     refine RD.s 12 12 ?_
     refine RD.a [] ?_
     refine RD.z 18 ?_
     intro m18 hm18
     exact RH.mtS (m14,m14+1+1,m14+1,b14) [] (.head _) rfl rfl rfl λu h=>h.1
  ·refine V.opS 17 17 ?_
   refine RD.a [] ?_
   refine RD.two (i:=12) (j:=14) (by kernel_rfl) ?_ ?_
   ·refine V.opS 12 12 ?_
    refine RD.a [] ?_
    refine RD.doB (nx:=14) (i:=14) [] 20 (e:=λb1:Nat=>ptrAt b1) rfl (by kernel_rfl) rfl rfl rfl rfl Tryz.call173 (made_spec q v k A c B d ps many own hlen hql hmy) rfl rfl (λ_=>rfl) (λ_=>rfl) (λu hu=>⟨hu.fact.2.1,hu.fact.2.2.by_,hu.fact.2.2.to_,hu.fact.2.2.kids⟩) (λ_=>rfl) (λ_ h=>h) ?_
    rintro b14 m14 hm14
    refine RD.a [] ?_
    refine RD.s 15 15 ?_
    refine RD.a [] ?_
    refine RD.z 18 ?_
    intro m18 hm18
    exact RH.mtS (m1+1,m1+1+1,m14,b14) [] (.head _) rfl rfl rfl λu h=>h.1
   ·refine V.opD_doesB (i:=14) [] 14 20 (e:=λb1:Nat=>ptrAt b1) rfl rfl rfl rfl rfl Tryz.call173 (made_spec q v k A c B d ps many own hlen hql hmy) rfl rfl (λ_=>rfl) (λ_=>rfl) (λu hu=>⟨hu.fact.2.1,hu.fact.2.2.by_,hu.fact.2.2.to_,hu.fact.2.2.kids⟩) (λ_=>rfl) (λ_ h=>h) ?_
    rintro b14 m14 hm14
    refine RD.a [] ?_
    refine RD.two (i:=12) (j:=15) (by kernel_rfl) ?_ ?_
    ·refine V.opS 12 12 ?_
     refine RD.a [] ?_
     refine RD.s 15 15 ?_
     refine RD.a [] ?_
     refine RD.z 18 ?_
     intro m18 hm18
     exact RH.mtS (m1+1,m14,m14+1,b14) [] (.head _) rfl rfl rfl λu h=>h.1
    ·refine V.opS 15 15 ?_
     refine RD.a [] ?_
     refine RD.s 12 12 ?_
     refine RD.a [] ?_
     refine RD.z 18 ?_
     intro m18 hm18
     exact RH.mtS (m1+1,m14+1,m14,b14) [] (.head _) rfl rfl rfl λu h=>h.1
 rintro ⟨mz,ma,mp,bl⟩ m2
 refine RH.toNx 20 ?_
 dsimp only
 refine RH.above (id:=17) rfl rfl λhz1 hz2=>?_
 have hmid:∀ u,Part u b (p ++ e :: q) v k A c B d ps many own->(HE.box mz [.val (strV p),.val (.bool false),.val (sumV Sum.zero),.val (.slice (some ⟨ma,0,none⟩) 1 1),.val (.slice (some ⟨mp,0,none⟩) 1 1),.val (intV 0),.val (sumV Sum.zero)] 165).holds tb m0 u->(HE.row (.slice (some ⟨ma,0,none⟩) 1 1) kBy.T kBy.sz 1 ([e].flatMap kBy.cs)).holds tb m0 u->(HE.row (.slice (some ⟨mp,0,none⟩) 1 1) kP.T kP.sz 1 ([Plot.node bl A c B d ps].flatMap kP.cs)).holds tb m0 u->(HE.box bl (nodF q v A k.bytes.length c B ps.length d (Tree.node q v k).many (Tree.node q v k).own) 165).holds tb m0 u →
   Part u mz p none (.cons e (.node q v k) .nil) (some ⟨ma,0,none⟩) 1 (some ⟨mp,0,none⟩) 1 [Plot.node bl A c B d ps] 0 Sum.zero:=by
  intro u hp h1 h2 h3 h4
  have hs1:(1:Nat) ≤ lim:=by rw [hl];decide
  refine ⟨box_node h1,Sl.own (κ:=kBy) (l:=[e]) h2 hs1,Sl.own (κ:=kP) (l:=[Plot.node bl A c B d ps]) h3 hs1,?_⟩
  unfold IK
  exact ⟨YtbfjmimiigjenaaGreatDoor.Part.tree ⟨box_node h4,hp.by_,hp.to_,hp.kids⟩,trivial⟩
 have hKw:(Kids.cons e (.node q v k) .nil).wf:=⟨hv,trivial,by intro c hc;cases hc⟩
 have hKt:(Kids.cons e (.node q v k) .nil).thin 1000:=⟨⟨hql,hth⟩,trivial⟩
 have hKm:(Kids.cons e (.node q v k) .nil).many ≤ M:=hm
 refine RH.free (i:=17) rfl ?_
 refine RH.free (i:=12) rfl ?_
 refine RH.free (i:=15) rfl ?_
 refine RH.free (i:=14) rfl ?_
 refine RH.a [] ?_
 refine RH.dd [] 30 (λb':Plot=>ptrAt b'.b) rfl rfl rfl Tryz.call167 (put_ns p r x none (.cons e (.node q v k) .nil) hKw hKt hM hKm hn ih mz (some ⟨ma,0,none⟩) 1 (some ⟨mp,0,none⟩) 1 [Plot.node bl A c B d ps] 0 Sum.zero) (λu hu=>⟨hu.fact.1.1.1.1.2.1,hmid u hu.fact.1.1.1.1.2.2 hu.fact.1.1.1.2 hu.fact.1.1.2 hu.fact.1.2 hu.fact.2⟩) ?_
 rintro b' m6 hm6
 refine RH.a [] ?_
 refine RH.ret1 Tryz.func167 rfl rfl λw hst=>⟨b',rfl,hst.out [] rfl rfl λu h=>⟨h.1.1.1.1.1.1,λv' hv' hp=>?_⟩⟩
 exact h.2.up (by omega) hv' (hmid v' hp (hoL h.1.1.1.1.2 hv') (hoL h.1.1.1.2 hv') (hoL h.1.1.2 hv') (hoL h.1.2 hv'))
theorem PutOk.of (t:Tree) (name:Str) (x:Sum) (h:∀ (s:Str) (v:Option Sum) (k:Kids),t = .node s v k->∀ (b:Nat) (A:Option Addr) (c:Nat) (B:Option Addr) (d:Nat) (ps:List Plot) (many:Int) (own:Sum),
  Does Tryz.prog tb 167 [ptrV b,strV name,sumV x] [] (λu=>Glob u/\Part u b s v k A c B d ps many own) (λb':Plot=>ptrV b'.b) (λ_=>[]) (λb'=>Late (λu=>Part u b s v k A c B d ps many own) (λu=>IT u b' ((Tree.node s v k).put name x)))):PutOk t name x:=by
 cases t with
 | node s v k =>
  intro L B0 w K hst hp
  refine (h s v k rfl L.b L.A L.c L.B L.d L.ps _ _ B0 w K hst λu hu=>⟨(hp u hu).1,YtbfjmimiigjenaaGreatDoor.IT.part (hp u hu).2⟩).mono ?_
  rintro r w' ⟨b',hr,h2⟩
  exact ⟨b',hr,h2.mono λu _ hu=>⟨hu.1,λv' hv hp'=>hu.2 v' hv (YtbfjmimiigjenaaGreatDoor.IT.part hp')⟩⟩
theorem PutOk.go (x:Sum) {M:Nat} (hM:M ≤ 900000000) (name:Str) (hn:name.length ≤ 1000) (t:Tree) (hw:t.wf) (ht:t.thin 1000) (hm:t.many ≤ M)
  (ih:∀ (c:UInt8) (r' q:Str),name=q ++ c :: r'->∀ t':Tree,t'.wf->t'.thin 1000->t'.many ≤ M->PutOk t' r' x):PutOk t name x:=by
 refine PutOk.of t name x ?_
 rintro s v k rfl b A c B d ps many own
 unfold Tree.wf at hw
 unfold Tree.thin at ht
 have hkm:k.many ≤ M:=by
  have:(if v.isSome=true then 1 else 0)+k.many ≤ M:=hm
  omega
 rcases paC s name with rfl|⟨e,r,rfl⟩|⟨p,e,q,rfl,rfl⟩|⟨p,e,q,c2,r,rfl,rfl,hne⟩
 ·have:=put_ns name [] x v k hw.1 ht.2 hM hkm (by rw [List.append_nil];exact hn) (λt' h1 h2 h3 c r' h=>by cases h) b A c B d ps many own
  rw [List.append_nil] at this
  exact this
 ·exact put_ns s (e :: r) x v k hw.1 ht.2 hM hkm hn (λt' h1 h2 h3 c r' h=>ih c r' s (by rw [h]) t' h1 h2 h3) b A c B d ps many own
 ·have:=put_split name e q [] x v k hw.1 ht.2 hM hm ht.1 (by rw [List.append_nil];exact hn) (.inl rfl) (λt' h1 h2 h3 c r' h=>by cases h) hw b A c B d ps many own
  rw [List.append_nil] at this
  exact this
 ·exact put_split p e q (c2 :: r) x v k hw.1 ht.2 hM hm ht.1 hn (.inr ⟨c2,r,rfl,hne⟩) (λt' h1 h2 h3 c r' h=>ih c r' p (by rw [h]) t' h1 h2 h3) hw b A c B d ps many own
theorem PutOk.all (x:Sum) {M:Nat} (hM:M ≤ 900000000):∀ (n:Nat) (name:Str),name.length ≤ n->name.length ≤ 1000->∀ t:Tree,t.wf->t.thin 1000->t.many ≤ M->PutOk t name x:=by
 intro n
 induction n with
 | zero =>
  intro name h0 hn t hw ht hm
  have:name=[]:=List.length_eq_zero_iff.1 (by omega)
  subst this
  exact PutOk.go x hM [] hn t hw ht hm (λc r' n h=>by simp at h)
 | succ n ih =>
  intro name h0 hn t hw ht hm
  exact PutOk.go x hM name hn t hw ht hm λc r' q h t' hw' ht' hm'=>ih r' (by rw [h] at h0;simp at h0;omega) (by rw [h] at hn;simp at hn;omega) t' hw' ht' hm'
end Go.Proofs.YtbfjmimiigjenaaGreatDoor
