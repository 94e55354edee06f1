/-
Lemmas. No condition.
-/
import Derived.Test.YtbfjmimiigjenaaGreatDoorKPS11
import Derived.Test.YtbfjmimiigjenaaGreatDoorKVIterB
import Derived.Test.YtbfjmimiigjenaaGreatDoorKVZ
set_option maxRecDepth 10000
set_option linter.unusedVariables false
set_option linter.unusedSectionVars false
set_option linter.unusedSimpArgs false
namespace Go.Proofs.YtbfjmimiigjenaaGreatDoor
open Go V
def u32V (x:UInt32):Value:=.int .u32 x.toNat
abbrev u32E (x:UInt32):EV:=.av (.val (u32V x))
theorem w_add (x y:UInt32):((x+y).toNat:Int)=((x.toNat:Int)+y.toNat) % 4294967296:=by
 rw [UInt32.toNat_add];omega
theorem bits32 (n:Nat) (h:n < 4294967296):IntKind.u32.wrap (n:Int)=(n:Int):=by
 rw [wrap_u32];omega
theorem ofi32 (x:UInt32):BitVec.ofInt IntKind.u32.bits (x.toNat:Int)=x.toBitVec:=by
 apply BitVec.eq_of_toNat_eq
 have h:=x.toNat_lt
 show (BitVec.ofInt 32 (x.toNat:Int)).toNat=x.toNat
 rw [BitVec.toNat_ofInt]
 omega
theorem w_and (x y:UInt32):((x &&& y).toNat:Int)=IntKind.u32.wrap (BitVec.ofInt IntKind.u32.bits (x.toNat:Int) &&& BitVec.ofInt IntKind.u32.bits (y.toNat:Int)).toNat:=by
 rw [ofi32,ofi32];exact (bits32 _ (x.toBitVec &&& y.toBitVec).isLt).symm
theorem w_or (x y:UInt32):((x ||| y).toNat:Int)=IntKind.u32.wrap (BitVec.ofInt IntKind.u32.bits (x.toNat:Int) ||| BitVec.ofInt IntKind.u32.bits (y.toNat:Int)).toNat:=by
 rw [ofi32,ofi32];exact (bits32 _ (x.toBitVec ||| y.toBitVec).isLt).symm
theorem w_xor (x y:UInt32):((x ^^^ y).toNat:Int)=IntKind.u32.wrap (BitVec.ofInt IntKind.u32.bits (x.toNat:Int) ^^^ BitVec.ofInt IntKind.u32.bits (y.toNat:Int)).toNat:=by
 rw [ofi32,ofi32];exact (bits32 _ (x.toBitVec ^^^ y.toBitVec).isLt).symm
def notW (x:UInt32):UInt32:=4294967295 ^^^ x
theorem w_not (x:UInt32):((notW x).toNat:Int)=IntKind.u32.wrap (BitVec.ofInt IntKind.u32.bits (IntKind.u32.max) ^^^ BitVec.ofInt IntKind.u32.bits (x.toNat:Int)).toNat:=by
 unfold notW;rw [w_xor];rfl
def shrW (x:UInt32) (n:Nat):UInt32:=x >>> UInt32.ofNat n
def shlW (x:UInt32) (n:Nat):UInt32:=x <<< UInt32.ofNat n
theorem w_shr (x:UInt32) (n:Nat) (h:n < 32):((shrW x n).toNat:Int)=(x.toNat:Int).fdiv (2 ^ (min (n:Int).toNat IntKind.u32.bits)):=by
 unfold shrW
 rw [UInt32.toNat_shiftRight]
 have:(UInt32.ofNat n).toNat % 32=n:=by
  rw [UInt32.toNat_ofNat'];omega
 rw [this,Nat.shiftRight_eq_div_pow,Int.toNat_natCast,show min n IntKind.u32.bits=n from Nat.min_eq_left (by show n ≤ 32;omega)]
 rw [Int.fdiv_eq_ediv_of_nonneg _ (by exact Int.le_of_lt (Int.pow_pos (by decide)))]
 push_cast
 rfl
theorem w_shl (x:UInt32) (n:Nat) (h:n < 32):((shlW x n).toNat:Int)=IntKind.u32.wrap ((x.toNat:Int)*2 ^ (min (n:Int).toNat IntKind.u32.bits)):=by
 unfold shlW
 rw [UInt32.toNat_shiftLeft]
 have:(UInt32.ofNat n).toNat % 32=n:=by
  rw [UInt32.toNat_ofNat'];omega
 rw [this,Nat.shiftLeft_eq,Int.toNat_natCast,show min n IntKind.u32.bits=n from Nat.min_eq_left (by show n ≤ 32;omega),wrap_u32,Int.natCast_emod,Int.natCast_mul,Int.natCast_pow]
 rfl
def rotW (x:UInt32) (n:Nat):UInt32:=shlW x (32 - n) ||| shrW x n
def sumW (l:List UInt32):UInt32:=l.foldl (·+·) 0
theorem turn_s (n:Nat) (h1:0 < n) (h2:n < 32):IntKind.u64.wrap (BitVec.ofInt IntKind.u64.bits ((-(n:Int)) % 18446744073709551616) &&& BitVec.ofInt IntKind.u64.bits (31:Int)).toNat=((32 - n:Nat):Int):=by
 have:∀ k:Fin 31,IntKind.u64.wrap (BitVec.ofInt IntKind.u64.bits ((-((k.val+1:Nat):Int)) % 18446744073709551616) &&& BitVec.ofInt IntKind.u64.bits (31:Int)).toNat=((32 - (k.val+1):Nat):Int):=by decide
 have:=this ⟨n - 1,by omega⟩
 rw [show n - 1+1=n by omega] at this
 exact this
theorem turn_r (n:Nat) (h1:0 < n) (h2:n < 32):IntKind.u64.wrap ((32:Int) - ((32 - n:Nat):Int))=(n:Int):=by
 rw [wrap_u64];omega
def kW:Kd UInt32 where
 T:=225
 sz:=1
 ev b:=u32E b
 ok b:=⟨rfl,Tryz.t225,rfl,rfl⟩
 size b:=rfl
theorem vok_w (x:UInt32):VOk tb 225 (u32V x):=⟨rfl,Tryz.t225,rfl,rfl⟩
theorem added_spec (w:World) (A:Option Addr) (c:Nat) (l:List UInt32) (h:Sl kW w A c l):Gives Tryz.prog 263 [.slice A l.length c] w (u32E (sumW l)):=by
 have hsm:=h.small
 have hl:lim=140737488351232:=rfl
 refine enterH tk [(0,slE A l.length c)] Tryz.func263 rfl Tryz.ntmps263 rfl rfl ?_
 refine RH.a [] ?_
 refine RH.loop (α:=Nat) (λi=>[(6,slE A l.length c),(7,intE l.length),(8,intE i),(3,u32E (sumW (l.take i)))]) (λ_=>[]) (λi w'=>Ext w w'/\i ≤ l.length) (λi=>l.length - i) 0 rfl rfl (λw' h=>⟨h,Nat.zero_le _⟩) ?_
 intro i m
 refine RH.pure (λw' h=>h.2) λhi=>?_
 by_cases hlt:i < l.length
 ·refine RH.adv tk [true] rfl rfl (by simp [h.ptr hlt]<;>omega) ?_
  refine RH.load (u32E l[i]) rfl rfl rfl rfl (λw' h'=>by have:=(h.ext h'.1).load hlt;rw [show kW.sz=1 from rfl] at this;exact this) ?_
  refine RH.a [] ?_
  refine RH.again (i+1) (.head _) ?_ rfl (by show l.length - (i+1) < l.length - i;omega) λw' h=>⟨h.1,hlt⟩
  have e:sumW (l.take (i+1))=sumW (l.take i)+l[i]:=by
   unfold sumW;rw [List.take_succ_eq_append_getElem hlt,List.foldl_append];rfl
  rw [e]
  unfold u32E u32V
  rw [w_add]
  rfl
 ·have hi':i=l.length:=by omega
  subst hi'
  rw [List.take_length]
  refine RH.a [false] ?_
  refine RH.ret1 Tryz.func263 rfl rfl λw' hst=>⟨rfl,hst.fact.1⟩
theorem rot_spec (w:World) (x:UInt32) (n:Nat) (h1:0 < n) (h2:n < 32):Gives Tryz.prog 297 [u32V x,intV (-(n:Int))] w (u32E (rotW x n)):=by
 refine enterH tk [(0,u32E x),(1,intE (-(n:Int)))] Tryz.func297 rfl Tryz.ntmps297 rfl rfl ?_
 refine RH.adv tk [] rfl rfl (by simp only [AllOb,Ob.P];rw [turn_s n h1 h2];simp<;>omega) ?_
 refine RH.read (.av (.val (.int .u64 (n:Int)))) rfl rfl rfl rfl (λw' a _ ha=>?_) ?_
 ·have hx:a.eval (.const (.int .u64 32)) = .int .u64 32:=ev_run (e:=.av (.val (.int .u64 32))) ha rfl
  have hy:a.eval (.tmp 13) = .int .u64 ((32 - n:Nat):Int):=(ev_run (e:=.av (.val (.int .u64 (IntKind.u64.wrap (BitVec.ofInt IntKind.u64.bits ((-(n:Int)) % 18446744073709551616) &&& BitVec.ofInt IntKind.u64.bits (31:Int)).toNat)))) ha rfl).trans (congrArg (Value.int .u64) (turn_s n h1 h2))
  simp [execOp,hx,hy,Sem.run_bind,guard_int,run_ar .sub (by simp),Op.intArith,turn_r n h1 h2]
  rfl
 refine RH.a [] ?_
 refine RH.ret1 Tryz.func297 rfl rfl λw' hst=>⟨?_,hst.fact⟩
 unfold rotW u32E u32V
 rw [w_or,w_shl x (32 - n) (by omega),w_shr x n h2,← turn_s n h1 h2]
theorem of1_spec (w:World) (b:Nat) (x:UInt32) (n:Nat) (h1:0 < n) (h2:n < 32) (hx:∀ w',Ext w w'->(loadVar 225 ⟨b,0,none⟩).run Tryz.prog w' = .ok (u32V x) w') :
  Gives Tryz.prog 296 [intV n,.pointer (some ⟨b,0,none⟩)] w (u32E (rotW x n)):=by
 refine enterH tk [(0,intE n),(1,.av (.val (.pointer (some ⟨b,0,none⟩))))] Tryz.func296 rfl Tryz.ntmps296 rfl rfl ?_
 refine RH.a [] ?_
 refine RH.load (u32E x) rfl rfl rfl rfl (λw' h'=>hx w' h') ?_
 refine RH.a [] ?_
 refine RH.read (intE (-(n:Int))) rfl rfl rfl rfl (λw' a _ ha=>?_) ?_
 ·have hy:a.eval (.tmp 5) = .int .i64 (n:Int):=ev_run (e:=intE n) ha rfl
  simp [execOp,hy,Op.unary,Op.intArith,wrap64_of (x:=-(n:Int)) (by omega)]
  rfl
 refine RH.gv (u32E (rotW x n)) rfl rfl rfl Tryz.call297 (λw' hst=>rot_spec w' x n h1 h2) ?_
 intro m1 hm1
 refine RH.a [] ?_
 refine RH.ret1 Tryz.func296 rfl rfl λw' hst=>⟨rfl,hst.fact⟩
structure Mixed where
 a:Nat
 b:Nat
 c:Nat
 lost:Bool
def Mixed.ok (m:Mixed):Prop:=(0 < m.a/\m.a < 32)/\(0 < m.b/\m.b < 32)/\(0 < m.c/\m.c < 32)
def mixW (m:Mixed) (x:UInt32):UInt32:=rotW x m.a ^^^ rotW x m.b ^^^ (if m.lost then shrW x m.c else rotW x m.c)
def Mixed.ev (m:Mixed):EV:=.st [.val (intV m.a),.val (intV m.b),.val (intV m.c),.val (.bool m.lost)]
theorem of_spec (w:World) (m:Mixed) (hm:m.ok) (x:UInt32):Gives Tryz.prog 287 [m.ev.v,u32V x] w (u32E (mixW m x)):=by
 obtain ⟨a,b,c,lost⟩:=m
 obtain ⟨ha,hb,hc⟩:=hm
 dsimp only at ha hb hc
 refine enterH tk [(0,.st [.val (intV a),.val (intV b),.val (intV c),.val (.bool lost)]),(1,u32E x)] Tryz.func287 rfl Tryz.ntmps287 rfl rfl ?_
 refine RH.a [] ?_
 have hbx:∀ (H:Heap) (w' u:World),St tb w.heap.size H (λu=>Ext w u) w'->loH H 1=some (HE.box (w.heap.size+1) [AV.val (u32V x)] 225)->Ext w' u->(loadVar 225 ⟨w.heap.size+1,0,none⟩).run Tryz.prog u = .ok (u32V x) u :=
  λH w' u hst hH hu=>hst.loadBox (id:=1) (e:=u32E x) tk hH rfl u hu
 refine RH.gv (u32E (rotW x c)) rfl rfl rfl Tryz.call296 (λw' hst=>of1_spec w' _ x c hc.1 hc.2 λu hu=>hbx _ _ _ hst rfl hu) ?_
 intro m1 hm1
 cases lost with
 | true =>
  refine RH.a [true] ?_
  refine RH.w [(0,some (.box w.heap.size [.val (intV a),.val (intV b),.val (intV c),.val (.bool true)] 389)),(1,some (.box (w.heap.size+1) [.val (u32V x)] 225))] 12 ?_
  refine RD.a [] ?_
  refine RD.gv 3 (u32E (rotW x a)) rfl rfl rfl Tryz.call296 (λw' hst=>of1_spec w' _ x a ha.1 ha.2 λu hu=>hbx _ _ _ hst rfl hu) ?_
  intro m2 hm2
  refine RD.a [] ?_
  refine RD.gv 7 (u32E (rotW x b)) rfl rfl rfl Tryz.call296 (λw' hst=>of1_spec w' _ x b hb.1 hb.2 λu hu=>hbx _ _ _ hst rfl hu) ?_
  intro m3 hm3
  refine RD.a [] ?_
  refine RD.e ?_
  refine RH.a [] ?_
  refine RH.ret1 Tryz.func287 rfl rfl λw' hst=>⟨?_,hst.fact⟩
  unfold mixW u32E u32V
  rw [if_pos rfl,w_xor,w_xor,w_shr x c hc.2]
 | false =>
  refine RH.a [false] ?_
  refine RH.w [(0,some (.box w.heap.size [.val (intV a),.val (intV b),.val (intV c),.val (.bool false)] 389)),(1,some (.box (w.heap.size+1) [.val (u32V x)] 225))] 12 ?_
  refine RD.a [] ?_
  refine RD.gv 3 (u32E (rotW x a)) rfl rfl rfl Tryz.call296 (λw' hst=>of1_spec w' _ x a ha.1 ha.2 λu hu=>hbx _ _ _ hst rfl hu) ?_
  intro m2 hm2
  refine RD.a [] ?_
  refine RD.gv 7 (u32E (rotW x b)) rfl rfl rfl Tryz.call296 (λw' hst=>of1_spec w' _ x b hb.1 hb.2 λu hu=>hbx _ _ _ hst rfl hu) ?_
  intro m3 hm3
  refine RD.a [] ?_
  refine RD.e ?_
  refine RH.a [] ?_
  refine RH.ret1 Tryz.func287 rfl rfl λw' hst=>⟨?_,hst.fact⟩
  unfold mixW u32E u32V
  rw [if_neg (by simp),w_xor,w_xor]
def wsC (ws:List UInt32):Array Value:=(ws.map u32V).toArray
abbrev wsE (b:Nat) (T:TypeId) (ws:List UInt32):Option HE:=some (.obj b (.cells (wsC ws) T))
def gW (ws:List UInt32) (i:Nat):UInt32:=ws.getD i 0
theorem load_ws {w:World} {b:Nat} {T:TypeId} {ws:List UInt32} (h:w.heap[b]? = some (.cells (wsC ws) T)) {i:Nat} (hi:i < ws.length):(loadVar 225 ⟨b,i*1,none⟩).run Tryz.prog w = .ok (u32V (gW ws i)) w:=by
 refine V.run_load tk (vok_w _) (range_of_blk h λj v hj=>?_)
 cases j with
 | zero =>
  have hj:some (u32V (gW ws i))=some v:=hj
  injection hj with hj
  subst hj
  unfold wsC gW
  rw [Nat.mul_one,Nat.add_zero,List.getD_eq_getElem?_getD,List.getElem?_eq_getElem hi]
  simp [hi]
 | succ j=>simp [u32V,Value.cells] at hj
theorem wsC_set (ws:List UInt32) (i:Nat) (hi:i < ws.length) (x:UInt32):((wsC ws).toList.take i ++ [u32V x] ++ (wsC ws).toList.drop (i+1)).toArray=wsC (ws.set i x):=by
 unfold wsC
 rw [List.map_set,List.set_eq_take_append_cons_drop,if_pos (by simpa using hi)]
 simp
theorem V.St.storeW {w:World} {B0:Nat} {H:Heap} {I:World->Prop} {id b:Nat} {T:TypeId} {ws:List UInt32} (hst:St tb B0 H I w) (hH:loH H id=wsE b T ws) {i:Nat} (hi:i < ws.length) (x:UInt32) :
  ∃ w',(storeVar 225 ⟨b,i*1,none⟩ (u32V x)).run Tryz.prog w = .ok () w'/\w.heap.size ≤ w'.heap.size/\St tb B0 ((id,wsE b T (ws.set i x)) :: H) I w':=by
 have ho:=hst.holds id _ hH
 obtain ⟨w',q1,q2,q3,q4⟩:=run_storeAt (P:=Tryz.prog) tk (vok_w x) (o:=i*1) ho.2 (by show i*1+1 ≤ _;unfold wsC;simp;omega)
 refine ⟨w',q1,by rw [q4];exact Nat.le_refl _,?_⟩
 rw [Nat.mul_one] at q2
 have e:=wsC_set ws i hi x
 have q2':w'.heap[b]? = some (.cells (wsC (ws.set i x)) T (0,0)):=by rw [← e];exact q2
 exact hst.turn (w':=w') id _ (.obj b (.cells (wsC (ws.set i x)) T)) hH (q3.mono λj _ hj=>by rw [hj];rfl) ⟨ho.1,q2'⟩ λj hj=>.inl hj
theorem V.RH.boxObj {P:Program} {f:Fr} {n:Nat} {S:Stops} {R:Ending->World->Prop} {tb:TT} {B0:Nat} {I:World->Prop} {H:Heap} {nx m:Nat} {env:SEnv} {todo:List Item} {id b:Nat} {fs:List AV} {T:TypeId} (cs:Array Value) (hH:loH H id=some (.box b fs T)) (hc:boxCells fs=cs)
  (h:RH P f n tb B0 S R todo env ((id,some (.obj b (.cells cs T))) :: H) nx m I):RH P f n tb B0 S R todo env H nx m I:=by
 intro w hm hst
 subst hc
 have ho:=hst.holds id _ hH
 exact h w hm (hst.turn id _ (.obj b (.cells (boxCells fs) T)) hH (Agr.refl _ _) ⟨ho.1,ho.2.1⟩ λk hk=>.inl hk)
theorem V.RH.objBox {P:Program} {f:Fr} {n:Nat} {S:Stops} {R:Ending->World->Prop} {tb:TT} {B0:Nat} {I:World->Prop} {H:Heap} {nx m:Nat} {env:SEnv} {todo:List Item} {id b:Nat} {T:TypeId} {cs:Array Value} (fs:List AV) (hH:loH H id=some (.obj b (.cells cs T))) (hc:cs=boxCells fs) (hF:Fit tb T fs)
  (h:RH P f n tb B0 S R todo env ((id,some (.box b fs T)) :: H) nx m I):RH P f n tb B0 S R todo env H nx m I:=by
 intro w hm hst
 have ho:=hst.holds id _ hH
 exact h w hm (hst.turn id _ (.box b fs T) hH (Agr.refl _ _) ⟨ho.1,by rw [← hc];exact ho.2,hF⟩ λk hk=>.inl hk)
theorem wsC_one (ws:List UInt32):∀ u ∈ (wsC ws).toList,u.oneCell'=true:=by
 intro u hu
 unfold wsC at hu
 simp only [List.mem_map] at hu
 obtain ⟨x,_,rfl⟩:=hu
 rfl
def wsV (ws:List UInt32):Value:=.agg (wsC ws)
theorem vok_w8 {ws:List UInt32} (h:ws.length=8):VOk tb 226 (wsV ws):=⟨_,Tryz.t226,rfl,rfl,by unfold wsC;simp [h];rfl,wsC_one ws⟩
theorem vok_w64 {ws:List UInt32} (h:ws.length=64):VOk tb 367 (wsV ws):=⟨_,Tryz.t367,rfl,rfl,by unfold wsC;simp [h];rfl,wsC_one ws⟩
theorem boxCells_ws (ws:List UInt32):boxCells [.val (wsV ws)]=wsC ws:=by
 unfold boxCells wsV
 simp [flat,AV.v,Value.cells]
def roundA (ws:List UInt32):UInt32:=sumW [gW ws 7,mixW ⟨6,11,25,false⟩ (gW ws 4),(gW ws 4 &&& gW ws 5) ^^^ (notW (gW ws 4) &&& gW ws 6)]
def roundB (ws:List UInt32):UInt32:=sumW [mixW ⟨2,13,22,false⟩ (gW ws 0),(gW ws 0 &&& gW ws 1) ^^^ (gW ws 0 &&& gW ws 2) ^^^ (gW ws 1 &&& gW ws 2)]
theorem rounds1_spec (w:World) (ws:List UInt32) (h8:ws.length=8):Gives Tryz.prog 286 [wsV ws] w (u32E (roundA ws)):=by
 have hl:lim=140737488351232:=rfl
 refine enterH tk [(0,.av (.val (wsV ws)))] Tryz.func286 rfl Tryz.ntmps286 rfl rfl ?_
 refine RH.adv tk [] rfl rfl ⟨⟨by unfold wsC;simp [h8];rfl,wsC_one ws⟩,trivial⟩ ?_
 refine RH.boxObj (id:=0) (wsC ws) rfl (boxCells_ws ws) ?_
 refine RH.w [(0,wsE w.heap.size 226 ws)] 21 ?_
 refine RD.a [] ?_
 refine RD.loadG (by kernel_rfl) (i:=1) (u32E (gW ws 7)) rfl rfl rfl rfl rfl rfl (λu hu=>load_ws (hu.holds 0 _ rfl).2 (by omega)) ?_
 refine RD.a [] ?_
 refine RD.loadG (by kernel_rfl) (i:=4) (u32E (gW ws 4)) rfl rfl rfl rfl rfl rfl (λu hu=>load_ws (hu.holds 0 _ rfl).2 (by omega)) ?_
 refine RD.a [] ?_
 refine RD.loadG (by kernel_rfl) (i:=7) (u32E (gW ws 4)) rfl rfl rfl rfl rfl rfl (λu hu=>load_ws (hu.holds 0 _ rfl).2 (by omega)) ?_
 refine RD.a [] ?_
 refine RD.loadG (by kernel_rfl) (i:=9) (u32E (gW ws 5)) rfl rfl rfl rfl rfl rfl (λu hu=>load_ws (hu.holds 0 _ rfl).2 (by omega)) ?_
 refine RD.a [] ?_
 refine RD.loadG (by kernel_rfl) (i:=12) (u32E (gW ws 4)) rfl rfl rfl rfl rfl rfl (λu hu=>load_ws (hu.holds 0 _ rfl).2 (by omega)) ?_
 refine RD.a [] ?_
 refine RD.loadG (by kernel_rfl) (i:=15) (u32E (gW ws 6)) rfl rfl rfl rfl rfl rfl (λu hu=>load_ws (hu.holds 0 _ rfl).2 (by omega)) ?_
 refine RD.a [] ?_
 refine RD.gv 5 (u32E (mixW ⟨6,11,25,false⟩ (gW ws 4))) rfl rfl rfl Tryz.call287 (λu _=>of_spec u ⟨6,11,25,false⟩ ⟨by decide,by decide,by decide⟩ (gW ws 4)) ?_
 intro m2 hm2
 refine RD.a [] ?_
 refine RD.tell [(4,u32E (gW ws 7)),(8,u32E (mixW ⟨6,11,25,false⟩ (gW ws 4))),(20,u32E ((gW ws 4 &&& gW ws 5) ^^^ (notW (gW ws 4) &&& gW ws 6)))] [(0,wsE w.heap.size 226 ws)] [] (by unfold u32E u32V;rw [w_xor,w_and,w_and,w_not];rfl) rfl rfl 1 ?_
 refine RD.step tk (i:=18) rfl (by kernel_rfl) rfl rfl rfl (by simp [u32V,one_int];try rfl) rfl (λ_ h=>h) ⟨rfl,rfl⟩ ?_
 refine RD.a [] ?_
 refine RD.gv 19 (u32E (roundA ws)) rfl rfl rfl Tryz.call263 (λu hu=>added_spec u _ _ [gW ws 7,mixW ⟨6,11,25,false⟩ (gW ws 4),((gW ws 4 &&& gW ws 5) ^^^ (notW (gW ws 4) &&& gW ws 6))] (Sl.own (B:=w.heap.size) (hu.row (κ:=kW) (l:=[gW ws 7,mixW ⟨6,11,25,false⟩ (gW ws 4),((gW ws 4 &&& gW ws 5) ^^^ (notW (gW ws 4) &&& gW ws 6))]) (id:=1) rfl) (by simp [hl]))) ?_
 intro m3 hm3
 refine RD.a [] ?_
 refine RD.e ?_
 refine RH.a [] ?_
 refine RH.ret1 Tryz.func286 rfl rfl λw' hst=>⟨rfl,hst.fact⟩
theorem rounds2_spec (w:World) (ws:List UInt32) (h8:ws.length=8):Gives Tryz.prog 288 [wsV ws] w (u32E (roundB ws)):=by
 have hl:lim=140737488351232:=rfl
 refine enterH tk [(0,.av (.val (wsV ws)))] Tryz.func288 rfl Tryz.ntmps288 rfl rfl ?_
 refine RH.adv tk [] rfl rfl ⟨⟨by unfold wsC;simp [h8];rfl,wsC_one ws⟩,trivial⟩ ?_
 refine RH.boxObj (id:=0) (wsC ws) rfl (boxCells_ws ws) ?_
 refine RH.w [(0,wsE w.heap.size 226 ws)] 24 ?_
 refine RD.a [] ?_
 refine RD.loadG (by kernel_rfl) (i:=2) (u32E (gW ws 0)) rfl rfl rfl rfl rfl rfl (λu hu=>load_ws (hu.holds 0 _ rfl).2 (by omega)) ?_
 refine RD.a [] ?_
 refine RD.loadG (by kernel_rfl) (i:=5) (u32E (gW ws 0)) rfl rfl rfl rfl rfl rfl (λu hu=>load_ws (hu.holds 0 _ rfl).2 (by omega)) ?_
 refine RD.a [] ?_
 refine RD.loadG (by kernel_rfl) (i:=7) (u32E (gW ws 1)) rfl rfl rfl rfl rfl rfl (λu hu=>load_ws (hu.holds 0 _ rfl).2 (by omega)) ?_
 refine RD.a [] ?_
 refine RD.loadG (by kernel_rfl) (i:=10) (u32E (gW ws 0)) rfl rfl rfl rfl rfl rfl (λu hu=>load_ws (hu.holds 0 _ rfl).2 (by omega)) ?_
 refine RD.a [] ?_
 refine RD.loadG (by kernel_rfl) (i:=12) (u32E (gW ws 2)) rfl rfl rfl rfl rfl rfl (λu hu=>load_ws (hu.holds 0 _ rfl).2 (by omega)) ?_
 refine RD.a [] ?_
 refine RD.loadG (by kernel_rfl) (i:=16) (u32E (gW ws 1)) rfl rfl rfl rfl rfl rfl (λu hu=>load_ws (hu.holds 0 _ rfl).2 (by omega)) ?_
 refine RD.a [] ?_
 refine RD.loadG (by kernel_rfl) (i:=18) (u32E (gW ws 2)) rfl rfl rfl rfl rfl rfl (λu hu=>load_ws (hu.holds 0 _ rfl).2 (by omega)) ?_
 refine RD.a [] ?_
 refine RD.gv 3 (u32E (mixW ⟨2,13,22,false⟩ (gW ws 0))) rfl rfl rfl Tryz.call287 (λu _=>of_spec u ⟨2,13,22,false⟩ ⟨by decide,by decide,by decide⟩ (gW ws 0)) ?_
 intro m2 hm2
 refine RD.a [] ?_
 refine RD.tell [(6,u32E (mixW ⟨2,13,22,false⟩ (gW ws 0))),(23,u32E ((gW ws 0 &&& gW ws 1) ^^^ (gW ws 0 &&& gW ws 2) ^^^ (gW ws 1 &&& gW ws 2)))] [(0,wsE w.heap.size 226 ws)] [] (by unfold u32E u32V;rw [w_xor,w_xor,w_and,w_and,w_and];rfl) rfl rfl 1 ?_
 refine RD.step tk (i:=21) rfl (by kernel_rfl) rfl rfl rfl (by simp [u32V,one_int];try rfl) rfl (λ_ h=>h) ⟨rfl,rfl⟩ ?_
 refine RD.a [] ?_
 refine RD.gv 22 (u32E (roundB ws)) rfl rfl rfl Tryz.call263 (λu hu=>added_spec u _ _ [mixW ⟨2,13,22,false⟩ (gW ws 0),((gW ws 0 &&& gW ws 1) ^^^ (gW ws 0 &&& gW ws 2) ^^^ (gW ws 1 &&& gW ws 2))] (Sl.own (B:=w.heap.size) (hu.row (κ:=kW) (l:=[mixW ⟨2,13,22,false⟩ (gW ws 0),((gW ws 0 &&& gW ws 1) ^^^ (gW ws 0 &&& gW ws 2) ^^^ (gW ws 1 &&& gW ws 2))]) (id:=1) rfl) (by simp [hl]))) ?_
 intro m3 hm3
 refine RD.a [] ?_
 refine RD.e ?_
 refine RH.a [] ?_
 refine RH.ret1 Tryz.func288 rfl rfl λw' hst=>⟨rfl,hst.fact⟩
def iterN {α:Type} (f:Nat->α->α):Nat->α->α
 | 0,x=>x
 | n+1,x=>f n (iterN f n x)
theorem iterN_inv {α:Type} {f:Nat->α->α} {p:α->Prop} (h:∀ n x,p x->p (f n x)):∀ n x,p x->p (iterN f n x)
 | 0,_,hx=>hx
 | n+1,x,hx=>h n _ (iterN_inv h n x hx)
def b2w (b:UInt8):UInt32:=UInt32.ofNat b.toNat
theorem w_byte (b:UInt8):((b2w b).toNat:Int)=(b.toNat:Int) % 4294967296:=by
 unfold b2w
 have:=b.toNat_lt
 rw [UInt32.toNat_ofNat'];omega
def byteAt (blk:List UInt8) (i:Nat):UInt8:=blk.getD i 0
def innW (blk:List UInt8) (i:Nat) (j:Nat) (ws:List UInt32):List UInt32:=iterN (λj ws=>ws.set i (shlW (gW ws i) 8 ||| b2w (byteAt blk (4*i+j)))) j ws
def firstW (blk:List UInt8) (i:Nat):List UInt32:=iterN (λi ws=>innW blk i 4 ws) i (List.replicate 64 0)
def lowM:Mixed:=⟨7,18,3,true⟩
def highM:Mixed:=⟨17,19,10,true⟩
def nextW (n:Nat) (ws:List UInt32):UInt32:=sumW [gW ws n,gW ws (n+9),mixW lowM (gW ws (n+1)),mixW highM (gW ws (n+14))]
def extW (n:Nat) (ws:List UInt32):List UInt32:=iterN (λn ws=>ws.set (n+16) (nextW n ws)) n ws
def spreadW (blk:List UInt8):List UInt32:=extW 48 (firstW blk 16)
theorem innW_len (blk:List UInt8) (i j:Nat) (ws:List UInt32):(innW blk i j ws).length=ws.length :=
 iterN_inv (p:=λ(x:List UInt32)=>x.length=ws.length) (λn x h=>by rw [List.length_set];exact h) j ws rfl
theorem firstW_len (blk:List UInt8) (i:Nat):(firstW blk i).length=64 :=
 iterN_inv (p:=λ(x:List UInt32)=>x.length=64) (λn x h=>by rw [innW_len];exact h) i _ (by rw [List.length_replicate])
theorem extW_len (n:Nat) (ws:List UInt32):(extW n ws).length=ws.length :=
 iterN_inv (p:=λ(x:List UInt32)=>x.length=ws.length) (λn x h=>by rw [List.length_set];exact h) n ws rfl
theorem spreadW_len (blk:List UInt8):(spreadW blk).length=64:=by unfold spreadW;rw [extW_len,firstW_len]
theorem load_wsAt {w:World} {b:Nat} {T:TypeId} {ws:List UInt32} (h:w.heap[b]? = some (.cells (wsC ws) T)) (i:Nat) (hi:i < ws.length) (o:Nat) (ho:o=i*1):(loadVar 225 ⟨b,o,none⟩).run Tryz.prog w = .ok (u32V (gW ws i)) w:=by
 rw [ho];exact load_ws h hi
theorem V.RH.storeW {f:Fr} {n:Nat} {S:Stops} {R:Ending->World->Prop} {B0:Nat} {I:World->Prop} {H:Heap} {nx m:Nat} {env:SEnv} {k:List Item} {ops:Array Oper} {i:Nat} {rs:List Nat} {ty:TypeId} {ps:String} {af:Array Edge} {gd:Option (Nat × Bool)} {px y:Operand} {pa:Addr} {ey:EV} {id b:Nat} {T:TypeId} {ws:List UInt32} (j:Nat) (x:UInt32)
  (ho:ops.toList[i]? = some ⟨none,.store 225 px y,ty,ps,af,gd⟩) (hw:wantE env ops gd = .yes) (hx:ptrE (evE env px)=some pa) (hy:evE env y=some ey) (hH:loH H id=wsE b T ws) (hj:j < ws.length) (hp:pa=⟨b,j*1,none⟩) (hv:ey.v=u32V x)
  (hk:∀ m',m ≤ m'->RH Tryz.prog f n tb B0 S R (.inRegion ops rs :: k) env ((id,wsE b T (ws.set j x)) :: H) nx m' I):RH Tryz.prog f n tb B0 S R (.inRegion ops (i :: rs) :: k) env H nx m I :=
 RH.storeS _ ho hw hx hy (λw _ hst=>by rw [hv,hp];exact hst.storeW hH hj x) hk
theorem V.RD.lastS {P:Program} {f:Fr} {n:Nat} {S:Stops} {R:Ending->World->Prop} {tb:TT} {B0:Nat} {I:World->Prop} {H:Heap} {nx m:Nat} {env:SEnv} {k:List Item} {ops:Array Oper} {i:Nat} {l:List Bool} {G0:Heap} {I0:World->Prop} {ty:TypeId} {ps:String} {af:Array Edge} {gd:Option (Nat × Bool)} {T:TypeId} {px y:Operand} {pa:Addr} {ey:EV} (H':Heap)
  (ho:ops.toList[i]? = some ⟨none,.store T px y,ty,ps,af,gd⟩) (hr:Region.ready .any ops l.toArray=[i]) (hw:wantE env ops gd = .yes) (hf:finB ops i=true) (hl:Region.ready .any ops (l.set i true).toArray=[]) (hx:ptrE (evE env px)=some pa) (hy:evE env y=some ey)
  (hv:∀ w,w.heap.size=m->St tb B0 H I w->∃ w',(storeVar T pa ey.v).run P w = .ok () w'/\w.heap.size ≤ w'.heap.size/\St tb B0 H' I w')
  (hk:∀ m',m ≤ m'->RH P f n tb B0 S R k env H' nx m' I):RD P f n tb B0 S R k ops G0 I0 (0+1) l env H nx m I :=
 let ⟨_,h1,h2⟩:=ptrE_ok hx;RD.last ho hr hw hf (OpGo.store h1 h2 hy hv) nx hl λ_=>hk
theorem V.RD.lastW {f:Fr} {n:Nat} {S:Stops} {R:Ending->World->Prop} {B0:Nat} {I:World->Prop} {H:Heap} {nx m:Nat} {env:SEnv} {k:List Item} {ops:Array Oper} {i:Nat} {l:List Bool} {G0:Heap} {I0:World->Prop} {ty:TypeId} {ps:String} {af:Array Edge} {gd:Option (Nat × Bool)} {px y:Operand} {pa:Addr} {ey:EV} {id b:Nat} {T:TypeId} {ws:List UInt32} (j:Nat) (x:UInt32)
  (ho:ops.toList[i]? = some ⟨none,.store 225 px y,ty,ps,af,gd⟩) (hr:Region.ready .any ops l.toArray=[i]) (hw:wantE env ops gd = .yes) (hf:finB ops i=true) (hl:Region.ready .any ops (l.set i true).toArray=[]) (hx:ptrE (evE env px)=some pa) (hy:evE env y=some ey) (hH:loH H id=wsE b T ws) (hj:j < ws.length) (hp:pa=⟨b,j*1,none⟩) (hv:ey.v=u32V x)
  (hk:∀ m',m ≤ m'->RH Tryz.prog f n tb B0 S R k env ((id,wsE b T (ws.set j x)) :: H) nx m' I):RD Tryz.prog f n tb B0 S R k ops G0 I0 (0+1) l env H nx m I :=
 RD.lastS _ ho hr hw hf hl hx hy (λw _ hst=>by rw [hv,hp];exact hst.storeW hH hj x) hk
theorem spread_spec (w:World) (A:Option Addr) (c:Nat) (blk:List UInt8) (h:Sl kBy w A c blk) (h64:blk.length=64):Gives Tryz.prog 262 [.slice A blk.length c] w (.av (.val (wsV (spreadW blk)))):=by
 have hl:lim=140737488351232:=rfl
 have hcap:=h.cap
 have hptr:=h.ptr (i:=0) (by omega)
 refine enterH tk [(0,slE A blk.length c)] Tryz.func262 rfl Tryz.ntmps262 rfl rfl ?_
 refine RH.adv tk [] rfl rfl ⟨⟨rfl,List.all_eq_true.1 (by kernel_rfl)⟩,trivial⟩ ?_
 refine RH.boxObj (id:=0) (wsC (firstW blk 0)) rfl (by show boxCells [.val (.agg (wsC (List.replicate 64 0)))]=_;exact boxCells_ws _) ?_
 refine RH.loop (α:=Nat) (λi=>[(2,.av (.box 0 w.heap.size 0)),(0,slE A blk.length c),(9,intE i)]) (λi=>[(0,wsE w.heap.size 367 (firstW blk i))]) (λi u=>Ext w u/\i ≤ 16) (λi=>16 - i) 0 rfl rfl (λu hu=>⟨hu,by decide⟩) ?_
 intro i m
 refine RH.pure (λu hu=>hu.2) λhi=>?_
 by_cases hlt:i < 16
 ·refine RH.a [true] ?_
  have e1:subA A ((4:Int)*i).toNat c (Tryz.t5).size=some ⟨blkA A,offA A+4*i,none⟩:=by
   have hp:A=some ⟨blkA A,offA A,none⟩:=hptr
   have e:((4:Int)*i).toNat=4*i:=by omega
   unfold subA
   rw [e,if_neg (by omega),hp]
   show some (Addr.add ⟨blkA A,offA A,none⟩ (4*i*1))=_
   rw [Addr.add_lit,Nat.mul_one]
   rfl
  have e2:((4:Int)*i+4).toNat - ((4:Int)*i).toNat=4:=by omega
  have e3:c - ((4:Int)*i).toNat=c - 4*i:=by omega
  rw [e1,e2,e3]
  refine RH.loop (α:=Nat) (λj=>[(2,.av (.box 0 w.heap.size 0)),(0,slE A blk.length c),(9,intE i),(3,intE i),(18,slE (some ⟨blkA A,offA A+4*i,none⟩) 4 (c - 4*i)),(19,intE 4),(20,intE j)]) (λj=>[(0,wsE w.heap.size 367 (innW blk i j (firstW blk i)))]) (λj u=>Ext w u/\j ≤ 4) (λj=>4 - j) 0 rfl rfl (λu hu=>⟨hu.1,by decide⟩) ?_
  intro j m
  refine RH.pure (λu hu=>hu.2) λhj=>?_
  have hlen:(innW blk i j (firstW blk i)).length=64:=by rw [innW_len,firstW_len]
  by_cases hjt:j < 4
  ·have hp2:Ptr (some (⟨blkA A,offA A+4*i,none⟩:Addr)):=rfl
   refine RH.adv tk [true] rfl rfl (by simp [hp2]<;>omega) ?_
   refine RH.load (.av (.val (u8V (byteAt blk (4*i+j))))) rfl rfl rfl rfl (λu hu=>?_) ?_
   ·have h1:=(h.ext hu.1).load (i:=4*i+j) (by omega)
    have e4:offA A+(4*i+j)*kBy.sz=offA A+4*i+j*1:=by show offA A+(4*i+j)*1=_;omega
    rw [e4] at h1
    have e5:byteAt blk (4*i+j)=blk[4*i+j]:=by unfold byteAt;simp [h64,show 4*i+j < 64 by omega]
    rw [e5]
    exact h1
   refine RH.a [] ?_
   refine RH.loadS (u32E (gW (innW blk i j (firstW blk i)) i)) rfl rfl rfl rfl (λu hu=>load_wsAt (hu.holds 0 _ rfl).2 i (by omega) _ rfl) ?_
   refine RH.a [] ?_
   refine RH.storeW (id:=0) (ws:=innW blk i j (firstW blk i)) i (shlW (gW (innW blk i j (firstW blk i)) i) 8 ||| b2w (byteAt blk (4*i+j))) rfl rfl rfl rfl rfl (by omega) rfl (by unfold u32V;rw [w_or,w_shl _ 8 (by decide),w_byte];rfl) ?_
   intro m2 hm2
   refine RH.a [] ?_
   exact RH.again (j+1) (.head _) rfl rfl (by show 4 - (j+1) < 4 - j;omega) λu hu=>⟨hu.1,hjt⟩
  ·have hj4:j=4:=by omega
   subst hj4
   refine RH.a [false] ?_
   exact RH.again (i+1) (.tail _ (.head _)) rfl rfl (by show 16 - (i+1) < 16 - i;omega) λu hu=>⟨hu.1,hlt⟩
 ·have hi16:i=16:=by omega
  subst hi16
  refine RH.a [false] ?_
  refine RH.loop (α:=Nat) (λn=>[(2,.av (.box 0 w.heap.size 0)),(6,.av (.box 1 m 0)),(7,.av (.box 2 (m+1) 0)),(8,intE (n+16:Nat))]) (λn=>[(0,wsE w.heap.size 367 (extW n (firstW blk 16))),(1,some (.box m [.val (intV 7),.val (intV 18),.val (intV 3),.val (.bool true)] 389)),(2,some (.box (m+1) [.val (intV 17),.val (intV 19),.val (intV 10),.val (.bool true)] 389))]) (λn u=>Ext w u/\n ≤ 48) (λn=>48 - n) 0 rfl rfl (λu hu=>⟨hu.1,by decide⟩) ?_
  intro n m2
  refine RH.pure (λu hu=>hu.2) λhn=>?_
  have hlen:(extW n (firstW blk 16)).length=64:=by rw [extW_len,firstW_len]
  have hnext:(extW n (firstW blk 16)).set (n+16) (nextW n (extW n (firstW blk 16)))=extW (n+1) (firstW blk 16):=rfl
  by_cases hnt:n < 48
  ·refine RH.a [true] ?_
   generalize hW:extW n (firstW blk 16)=W at *
   refine RH.w [(0,wsE w.heap.size 367 W),(1,some (.box m [.val (intV 7),.val (intV 18),.val (intV 3),.val (.bool true)] 389)),(2,some (.box (m+1) [.val (intV 17),.val (intV 19),.val (intV 10),.val (.bool true)] 389))] 25 ?_
   refine RD.a [] ?_
   refine RD.loadG (by kernel_rfl) (i:=4) (u32E (gW W (n))) rfl rfl rfl rfl rfl rfl (λu hu=>load_wsAt (hu.holds 0 _ rfl).2 (n) (by omega) _ (by show (((n+16:Nat):Int) - 16).toNat*1=(n)*1;omega)) ?_
   refine RD.a [] ?_
   refine RD.loadG (by kernel_rfl) (i:=8) (u32E (gW W (n+9))) rfl rfl rfl rfl rfl rfl (λu hu=>load_wsAt (hu.holds 0 _ rfl).2 (n+9) (by omega) _ (by show (((n+16:Nat):Int) - 7).toNat*1=(n+9)*1;omega)) ?_
   refine RD.a [] ?_
   refine RD.loadG (by kernel_rfl) (i:=13) (u32E (gW W (n+1))) rfl rfl rfl rfl rfl rfl (λu hu=>load_wsAt (hu.holds 0 _ rfl).2 (n+1) (by omega) _ (by show (((n+16:Nat):Int) - 15).toNat*1=(n+1)*1;omega)) ?_
   refine RD.a [] ?_
   refine RD.loadG (by kernel_rfl) (i:=19) (u32E (gW W (n+14))) rfl rfl rfl rfl rfl rfl (λu hu=>load_wsAt (hu.holds 0 _ rfl).2 (n+14) (by omega) _ (by show (((n+16:Nat):Int) - 2).toNat*1=(n+14)*1;omega)) ?_
   refine RD.a [] ?_
   refine RD.gv 14 (u32E (mixW lowM (gW W (n+1)))) rfl rfl rfl Tryz.call287 (λu _=>of_spec u lowM ⟨by decide,by decide,by decide⟩ _) ?_
   intro m3 hm3
   refine RD.a [] ?_
   refine RD.gv 20 (u32E (mixW highM (gW W (n+14)))) rfl rfl rfl Tryz.call287 (λu _=>of_spec u highM ⟨by decide,by decide,by decide⟩ _) ?_
   intro m4 hm4
   refine RD.a [] ?_
   refine RD.step tk (i:=21) rfl (by kernel_rfl) rfl rfl rfl (by simp [u32V,one_int];try rfl) rfl (λ_ h=>h) ⟨rfl,rfl⟩ ?_
   refine RD.a [] ?_
   refine RD.gv 22 (u32E (nextW n W)) rfl rfl rfl Tryz.call263 (λu hu=>added_spec u _ _ [gW W n,gW W (n+9),mixW lowM (gW W (n+1)),mixW highM (gW W (n+14))] (Sl.own (B:=w.heap.size) (hu.row (κ:=kW) (l:=[gW W n,gW W (n+9),mixW lowM (gW W (n+1)),mixW highM (gW W (n+14))]) (id:=3) rfl) (by simp [hl]))) ?_
   intro m5 hm5
   refine RD.a [] ?_
   refine RD.lastW (i:=24) (id:=0) (ws:=W) (n+16) (nextW n W) rfl (by kernel_rfl) rfl (by kernel_rfl) (by kernel_rfl) rfl rfl rfl (by omega) rfl rfl ?_
   intro m6 hm6
   refine RH.a [] ?_
   rw [hnext]
   exact RH.again (n+1) (.head _) rfl rfl (by show 48 - (n+1) < 48 - n;omega) λu hu=>⟨hu.1,hnt⟩
  ·have hn48:n=48:=by omega
   subst hn48
   refine RH.objBox (id:=0) [.val (wsV (spreadW blk))] rfl (boxCells_ws _).symm ⟨_,rfl,vok_w64 (spreadW_len blk)⟩ ?_
   refine RH.adv tk [false] rfl rfl ⟨⟨by unfold wsC;simp [spreadW_len];rfl,wsC_one _⟩,by simp [Ob.P],trivial⟩ ?_
   exact RH.retBox tk (.av (.val (wsV (spreadW blk)))) Tryz.func262 rfl rfl rfl rfl λw' hst=>⟨rfl,hst.fact.1⟩
def constW:List UInt32:=[0x428a2f98,0x71374491,0xb5c0fbcf,0xe9b5dba5,0x3956c25b,0x59f111f1,0x923f82a4,0xab1c5ed5,0xd807aa98,0x12835b01,0x243185be,0x550c7dc3,0x72be5d74,0x80deb1fe,0x9bdc06a7,0xc19bf174,0xe49b69c1,0xefbe4786,0x0fc19dc6,0x240ca1cc,0x2de92c6f,0x4a7484aa,0x5cb0a9dc,0x76f988da,0x983e5152,0xa831c66d,0xb00327c8,0xbf597fc7,0xc6e00bf3,0xd5a79147,0x06ca6351,0x14292967,0x27b70a85,0x2e1b2138,0x4d2c6dfc,0x53380d13,0x650a7354,0x766a0abb,0x81c2c92e,0x92722c85,0xa2bfe8a1,0xa81a664b,0xc24b8b70,0xc76c51a3,0xd192e819,0xd6990624,0xf40e3585,0x106aa070,0x19a4c116,0x1e376c08,0x2748774c,0x34b0bcb5,0x391c0cb3,0x4ed8aa4a,0x5b9cca4f,0x682e6ff3,0x748f82ee,0x78a5636f,0x84c87814,0x8cc70208,0x90befffa,0xa4506ceb,0xbef9a3f7,0xc67178f2]
def beginW:List UInt32:=[0x6a09e667,0xbb67ae85,0x3c6ef372,0xa54ff53a,0x510e527f,0x9b05688c,0x1f83d9ab,0x5be0cd19]
structure Glob (u:World):Prop where
 max:MaxLen u
 con:u.rangeAt 1 0 (constW.map u32V)
 beg:u.rangeAt 0 0 (beginW.map u32V)
theorem rangeAt_ext {w w':World} {g:Nat} {l:List Value} (hl:l ≠ []) (h:w.rangeAt g 0 l) (he:Ext w w'):w'.rangeAt g 0 l:=by
 have h0:∃ v,l[0]? = some v:=by
  cases l with
  | nil=>exact absurd rfl hl
  | cons x r=>exact ⟨x,rfl⟩
 obtain ⟨v0,hv0⟩:=h0
 have hlt:g < w.heap.size:=World.block_lt_of_cell? w ⟨g,0+0,none⟩ (h 0 v0 hv0)
 intro j v hv
 have:=h j v hv
 rw [← this]
 exact World.cell?_of_block (he.block g hlt)
theorem Glob.ext {w w':World} (h:Glob w) (he:Ext w w'):Glob w' :=
 ⟨h.max.ext he,rangeAt_ext (by decide) h.con he,rangeAt_ext (by decide) h.beg he⟩
theorem V.RD.three {P:Program} {f:Fr} {n:Nat} {S:Stops} {R:Ending->World->Prop} {tb:TT} {B0:Nat} {I:World->Prop} {H:Heap} {nx m:Nat} {env:SEnv} {k:List Item} {ops:Array Oper} {l:List Bool} {G:Heap} {I0:World->Prop} {fuel:Nat} {i j q:Nat} (hr:Region.ready .any ops l.toArray=[i,j,q])
  (h1:∀ w a,w.heap.size=m->St tb B0 H I w->Agree n a (kn env)->wpOp P ops (QD P f n S R k) i (λa' w'=>St tb B0 G I0 w'/\V.wpAnyH P .any ops (QD P f n S R k) (St tb B0 G I0) fuel (l.set i true).toArray a' w') a w)
  (h2:∀ w a,w.heap.size=m->St tb B0 H I w->Agree n a (kn env)->wpOp P ops (QD P f n S R k) j (λa' w'=>St tb B0 G I0 w'/\V.wpAnyH P .any ops (QD P f n S R k) (St tb B0 G I0) fuel (l.set j true).toArray a' w') a w)
  (h3:∀ w a,w.heap.size=m->St tb B0 H I w->Agree n a (kn env)->wpOp P ops (QD P f n S R k) q (λa' w'=>St tb B0 G I0 w'/\V.wpAnyH P .any ops (QD P f n S R k) (St tb B0 G I0) fuel (l.set q true).toArray a' w') a w) :
  RD P f n tb B0 S R k ops G I0 (fuel+1) l env H nx m I:=by
 intro w a hm hst hst0 ha
 refine V.wpAnyH_all hr (by simp) λz hz=>?_
 have hz:z=i ∨ z=j ∨ z=q:=by simpa using hz
 rcases hz with rfl|rfl|rfl
 ·have:=h1 w a hm hst ha;simpa using this
 ·have:=h2 w a hm hst ha;simpa using this
 ·have:=h3 w a hm hst ha;simpa using this
open RowKit in
theorem V.OpGo.copyArr {P:Program} {n:Nat} {tb:TT} {B0:Nat} {I:World->Prop} {H:Heap} {m:Nat} {env:SEnv} (hk:tb.Ok P) {d id g:Nat} {s x:Operand} {T T2 e eb:TypeId} {ty:TypeId} {ps:String} {af:Array Edge} {gd:Option (Nat × Bool)} {es ex:EV} {off dl dc q c:Nat} {A:Option Addr} {cur:Array Value} {i:TypeInfo} {cs:List Value}
  (hd:Nat.blt d n=true) (hT:tb.und T=some (.slice e)) (hi:tb.get e=some i) (hs:evE env s=some es) (hsv:es.v = .slice (some ⟨g,off,none⟩) dl dc) (hx:evE env x=some ex) (hxv:ex.v = .slice A q c)
  (hH:loH H id=some (.obj g (.cells cur eb))) (hl:cs.length=Nat.min q dl*i.size) (h1:∀ u ∈ cs,u.oneCell'=true) (hn:∀ w,St tb B0 H I w->w.rangeAt (blkA A) (offA A) cs) (hA:cs ≠ []->Ptr A) (hA0:A=none->Nat.min q dl=0)
  (hfit:off+cs.length ≤ cur.size) :
  OpGo P tb B0 n ⟨some d,.call ⟨.builtin .copy,#[s,x],#[T,T2]⟩,ty,ps,af,gd⟩ env H m I (λ_:Unit=>(d,.av (.val (.int .i64 (Nat.min q dl)))) :: env) (λ_=>(id,some (.obj g (.cells (putC cur off cs) eb))) :: H) (λ_=>I):=by
 intro w a hm hst ha
 have hdn:d < n:=Nat.lt_of_lt_of_le (Nat.lt_succ_self d) (Nat.le_of_ble_eq_true hd)
 have ho:=hst.holds id _ hH
 have hu:=run_underlying (hk.und hT) w
 have hsz:=run_tsize (w:=w) hk hi
 have hfirst:(Builtin.firstCells i.size (Nat.min q dl) (.slice A q c)).run P w = .ok cs.toArray w:=by
  cases A with
  | none =>
   have h0:=hA0 rfl
   rw [h0] at hl
   have:cs=[]:=List.length_eq_zero_iff.1 (by simpa using hl)
   subst this
   rw [h0]
   rfl
  | some ad =>
   refine run_firstCells_some w i.size _ ad q c cs hl λj v hj=>?_
   have hp:=hA (by rintro rfl;simp at hj)
   unfold Ptr at hp
   injection hp with hp
   have:=hn w hst j v hj
   rw [hp,Addr.add_lit]
   exact this
 have hstc:=run_storeCells_at P g off eb cs 0 cur w ho.2 (by simpa using hfit) h1
 simp only [Nat.add_zero] at hstc
 have hrun:(Builtin.copy_ #[T,T2] ty #[.slice (some ⟨g,off,none⟩) dl dc,.slice A q c]).run P w = .ok (.int .i64 (Nat.min q dl)) (w.setRow g (putC cur off cs)):=by
  simp only [Builtin.copy_,Sem.run_bind,List.getElem?_toArray,List.getElem?_cons_zero,List.getElem?_cons_succ,hu,Result.andThen_ok,Builtin.lenOf,Sem.run_pure,hsz,hfirst]
  simp [hstc,putC,goInt]
 have hsv':a.eval s = .slice (some ⟨g,off,none⟩) dl dc:=(ev_run ha hs).trans hsv
 have hxv':a.eval x = .slice A q c:=(ev_run ha hx).trans hxv
 unfold Oper.wp
 have:(execOp a.eval ⟨some d,.call ⟨.builtin .copy,#[s,x],#[T,T2]⟩,ty,ps,af,gd⟩).run P w = .ok (.value (.int .i64 (Nat.min q dl))) (w.setRow g (putC cur off cs)):=by
  simp only [execOp,resolve,invoke,builtin,Sem.run_bind,Sem.run_pure,Result.andThen_ok,List.map_toArray,List.map_cons,List.map_nil,hsv',hxv',hrun]
 rw [this]
 obtain ⟨h2,h3⟩:=hst.put (w':=w.setRow g (putC cur off cs)) hH rfl
 refine ⟨(),?_,by rw [← hm];exact h2,h3⟩
 rw [kn_cons];exact ha.put hdn _
abbrev roundsE:EV:=.st [.val (.func (.func 286) #[] #[]),.val (.func (.func 288) #[] #[])]
theorem rounds_spec (w:World):Gives Tryz.prog 261 [] w roundsE:=by
 refine enterH tk [] Tryz.func261 rfl Tryz.ntmps261 rfl rfl ?_
 refine RH.a [] ?_
 exact RH.retBox tk roundsE Tryz.func261 rfl rfl rfl rfl λw' hst=>⟨rfl,hst.fact⟩
theorem index_ws {w:World} (ws:List UInt32) (h:ws.length=64) (k:Nat) (hk:k < 64):(Instr.index 367 (wsV ws) (.int .i64 k)).run Tryz.prog w = .ok (u32V (gW ws k)) w:=by
 unfold Instr.index wsV
 have h1:(underlying 367).run Tryz.prog w = .ok (.array 64 225) w:=run_underlying (tk.und rfl) w
 have h2:(sizeOf 225).run Tryz.prog w = .ok 1 w:=run_tsize tk (i:=Tryz.t225) rfl
 have hv:(ws.map u32V)[k]? = some (u32V (gW ws k)):=by
  unfold gW
  rw [List.getElem?_map,List.getD_eq_getElem?_getD,List.getElem?_eq_getElem (by omega)]
  rfl
 have h3:=part_one (P:=Tryz.prog) w (e:=225) (tk.und rfl) rfl (ws.map u32V) k _ hv
 simp only [asIntOf,Sem.run_bind,Sem.run_pure,Result.andThen_ok,h1]
 rw [if_pos ⟨by omega,by omega⟩]
 simp only [Sem.run_bind,h2,Result.andThen_ok,Int.toNat_natCast,Nat.mul_one]
 exact h3
theorem load_w8 {w:World} {b:Nat} {ws:List UInt32} (h:w.heap[b]? = some (.cells (wsC ws) 226)) (h8:ws.length=8):(loadVar 226 ⟨b,0,none⟩).run Tryz.prog w = .ok (wsV ws) w :=
 V.run_load tk (vok_w8 h8) (range_take h (n:=8) (by
  show ((wsC ws).toList.drop 0).take 8=(wsC ws).toList
  rw [List.drop_zero,List.take_of_length_le (by unfold wsC;simp [h8])]))
theorem slice_lo (w:World) (a:Nat):(Instr.sliceAt 226 (.pointer (some ⟨a,0,none⟩)) (some (.int .i64 1)) none none).run Tryz.prog w = .ok (.slice (some ⟨a,1,none⟩) 7 7) w:=by
 have h1:(underlying 226).run Tryz.prog w = .ok (.array 8 225) w:=run_underlying (tk.und rfl) w
 have h2:(sizeOf 225).run Tryz.prog w = .ok 1 w:=run_tsize tk (i:=Tryz.t225) rfl
 simp [Instr.sliceAt,Instr.sliceBounds,Instr.sliceBound,h1,h2,asIntOf,Instr.sureAddr,Addr.add_lit]
theorem slice_hi (w:World) (a:Nat):(Instr.sliceAt 226 (.pointer (some ⟨a,0,none⟩)) none (some (.int .i64 7)) none).run Tryz.prog w = .ok (.slice (some ⟨a,0,none⟩) 7 8) w:=by
 have h1:(underlying 226).run Tryz.prog w = .ok (.array 8 225) w:=run_underlying (tk.und rfl) w
 have h2:(sizeOf 225).run Tryz.prog w = .ok 1 w:=run_tsize tk (i:=Tryz.t225) rfl
 simp [Instr.sliceAt,Instr.sliceBounds,Instr.sliceBound,h1,h2,asIntOf,Instr.sureAddr,Addr.add_lit]
theorem load_con {w:World} (h:Glob w) (k:Nat) (hk:k < 64):(loadVar 225 ⟨1,k*1,none⟩).run Tryz.prog w = .ok (u32V (gW constW k)) w:=by
 refine V.run_load tk (vok_w _) λj v hj=>?_
 cases j with
 | zero =>
  have hj:some (u32V (gW constW k))=some v:=hj
  injection hj with hj
  subst hj
  have:=h.con k (u32V (gW constW k)) (by
   have hl:k < constW.length:=hk
   unfold gW
   rw [List.getElem?_map,List.getD_eq_getElem?_getD,List.getElem?_eq_getElem hl]
   rfl)
  rw [Nat.zero_add] at this
  rw [Nat.mul_one,Nat.add_zero]
  exact this
 | succ j=>simp [u32V,Value.cells] at hj
def tempA (W h:List UInt32) (i:Nat):UInt32:=sumW [roundA h,gW constW i,gW W i]
def shiftW (h:List UInt32):List UInt32:=h.take 1 ++ h.take 7
def stepW (W:List UInt32) (i:Nat) (h:List UInt32):List UInt32 :=
 ((shiftW h).set 4 (sumW [gW (shiftW h) 4,tempA W h i])).set 0 (sumW [tempA W h i,roundB h])
def roundsW (W:List UInt32) (n:Nat) (h:List UInt32):List UInt32:=iterN (stepW W) n h
def addW (old:List UInt32) (n:Nat) (h:List UInt32):List UInt32:=iterN (λi h=>h.set i (sumW [gW h i,gW old i])) n h
def takenW (old:List UInt32) (blk:List UInt8):List UInt32:=addW old 8 (roundsW (spreadW blk) 64 old)
theorem shiftW_len {h:List UInt32} (h8:h.length=8):(shiftW h).length=8:=by unfold shiftW;simp [h8]
theorem stepW_len {W h:List UInt32} (i:Nat) (h8:h.length=8):(stepW W i h).length=8:=by unfold stepW;rw [List.length_set,List.length_set,shiftW_len h8]
theorem roundsW_len (W:List UInt32) (n:Nat) {h:List UInt32} (h8:h.length=8):(roundsW W n h).length=8 :=
 iterN_inv (p:=λ(x:List UInt32)=>x.length=8) (λi x hx=>stepW_len i hx) n h h8
theorem addW_len (old:List UInt32) (n:Nat) {h:List UInt32} (h8:h.length=8):(addW old n h).length=8 :=
 iterN_inv (p:=λ(x:List UInt32)=>x.length=8) (λi x hx=>by rw [List.length_set];exact hx) n h h8
theorem takenW_len {old:List UInt32} (blk:List UInt8) (h8:old.length=8):(takenW old blk).length=8:=addW_len _ _ (roundsW_len _ _ h8)
theorem taken_spec (w:World) (hG:Glob w) (old:List UInt32) (h8:old.length=8) (A:Option Addr) (c:Nat) (blk:List UInt8) (hb:Sl kBy w A c blk) (h64:blk.length=64):Gives Tryz.prog 208 [wsV old,.slice A blk.length c] w (.av (.val (wsV (takenW old blk)))):=by
 have hl:lim=140737488351232:=rfl
 refine enterH tk [(0,.av (.val (wsV old))),(1,slE A blk.length c)] Tryz.func208 rfl Tryz.ntmps208 rfl rfl ?_
 refine RH.adv tk [] rfl rfl ⟨⟨rfl,List.all_eq_true.1 (by kernel_rfl)⟩,⟨by unfold wsC;simp [h8];rfl,wsC_one old⟩,trivial⟩ ?_
 apply RH.joinK (α:=Nat × Nat) (λz=>[(4,.av (.box 1 (w.heap.size+1) 0)),(2,.av (.box 0 w.heap.size 0)),(5,.av (.box 2 z.1 0)),(6,.av (.box 3 z.2 0)),(14,slE A blk.length c)])
  (λz=>[(0,some (.box w.heap.size [.val (wsV old)] 226)),(1,some (.box (w.heap.size+1) [.val (wsV (List.replicate 8 0))] 226)),(2,some (.box z.1 [.val (wsV old)] 226)),(3,some (.box z.2 [.val (.func (.func 286) #[] #[]),.val (.func (.func 288) #[] #[])] 365))])
  (λ_ u=>Ext w u)
 ·refine RH.w [(0,some (.box w.heap.size [.val (wsV old)] 226))] 6 ?_
  refine RD.a [] ?_
  refine RD.three (i:=1) (j:=2) (q:=3) (by kernel_rfl) ?_ ?_ ?_
  ·refine opD_go (i:=1) rfl rfl (OpGo.gives (fo:=.func 261) roundsE rfl rfl rfl rfl Tryz.call261 (λu _=>rounds_spec u)) 2 (λ_=>rfl) (λ_ _ h=>h) ?_
   rintro ⟨⟩ m1 hm1
   refine RD.a [] ?_
   refine RD.two (i:=2) (j:=3) (by kernel_rfl) ?_ ?_
   ·refine opD_step tk (nx:=2) (i:=2) rfl rfl rfl rfl ?_ rfl (λ_ h=>h) ⟨rfl,rfl⟩ ?_
    ·first|exact ⟨⟨rfl,List.all_eq_true.1 (by kernel_rfl)⟩,trivial⟩|simp<;>rfl
    refine RD.a [] ?_
    refine RD.step tk (i:=3) rfl (by kernel_rfl) rfl rfl rfl ?_ rfl (λ_ h=>h) ⟨rfl,rfl⟩ ?_
    ·first|exact ⟨⟨rfl,List.all_eq_true.1 (by kernel_rfl)⟩,trivial⟩|simp<;>rfl
    refine RD.a [] ?_
    refine RD.step tk (i:=4) rfl (by kernel_rfl) rfl rfl rfl ?_ rfl (λ_ h=>h) rfl ?_
    ·first|exact ⟨⟨by unfold wsC;simp [h8];rfl,wsC_one old⟩,trivial⟩|trivial
    refine RD.a [] ?_
    refine RD.step tk (i:=5) rfl (by kernel_rfl) rfl rfl rfl ?_ rfl (λ_ h=>h) rfl ?_
    ·first|trivial|simp<;>rfl
    refine RD.e ?_
    refine RH.a [] ?_
    refine RH.mtS (m1,(m1+1)) [] (.head _) ?_ ?_ ?_ ?_
    ·rfl
    ·rfl
    ·rfl
    ·exact λw h=>h
   ·refine opD_step tk (nx:=2) (i:=3) rfl rfl rfl rfl ?_ rfl (λ_ h=>h) ⟨rfl,rfl⟩ ?_
    ·first|exact ⟨⟨rfl,List.all_eq_true.1 (by kernel_rfl)⟩,trivial⟩|simp<;>rfl
    refine RD.a [] ?_
    refine RD.step tk (i:=2) rfl (by kernel_rfl) rfl rfl rfl ?_ rfl (λ_ h=>h) ⟨rfl,rfl⟩ ?_
    ·first|exact ⟨⟨rfl,List.all_eq_true.1 (by kernel_rfl)⟩,trivial⟩|simp<;>rfl
    refine RD.a [] ?_
    refine RD.step tk (i:=4) rfl (by kernel_rfl) rfl rfl rfl ?_ rfl (λ_ h=>h) rfl ?_
    ·first|exact ⟨⟨by unfold wsC;simp [h8];rfl,wsC_one old⟩,trivial⟩|trivial
    refine RD.a [] ?_
    refine RD.step tk (i:=5) rfl (by kernel_rfl) rfl rfl rfl ?_ rfl (λ_ h=>h) rfl ?_
    ·first|trivial|simp<;>rfl
    refine RD.e ?_
    refine RH.a [] ?_
    refine RH.mtS ((m1+1),m1) [(2,3),(3,2)] (.head _) ?_ ?_ ?_ ?_
    ·rfl
    ·rfl
    ·rfl
    ·exact λw h=>h
  ·refine opD_step tk (nx:=2) (i:=2) rfl rfl rfl rfl ?_ rfl (λ_ h=>h) ⟨rfl,rfl⟩ ?_
   ·first|exact ⟨⟨rfl,List.all_eq_true.1 (by kernel_rfl)⟩,trivial⟩|simp<;>rfl
   refine RD.a [] ?_
   refine RD.two (i:=1) (j:=3) (by kernel_rfl) ?_ ?_
   ·refine opD_go (i:=1) rfl rfl (OpGo.gives (fo:=.func 261) roundsE rfl rfl rfl rfl Tryz.call261 (λu _=>rounds_spec u)) 3 (λ_=>rfl) (λ_ _ h=>h) ?_
    rintro ⟨⟩ m1 hm1
    refine RD.a [] ?_
    refine RD.step tk (i:=3) rfl (by kernel_rfl) rfl rfl rfl ?_ rfl (λ_ h=>h) ⟨rfl,rfl⟩ ?_
    ·first|exact ⟨⟨rfl,List.all_eq_true.1 (by kernel_rfl)⟩,trivial⟩|simp<;>rfl
    refine RD.a [] ?_
    refine RD.step tk (i:=4) rfl (by kernel_rfl) rfl rfl rfl ?_ rfl (λ_ h=>h) rfl ?_
    ·first|exact ⟨⟨by unfold wsC;simp [h8];rfl,wsC_one old⟩,trivial⟩|trivial
    refine RD.a [] ?_
    refine RD.step tk (i:=5) rfl (by kernel_rfl) rfl rfl rfl ?_ rfl (λ_ h=>h) rfl ?_
    ·first|trivial|simp<;>rfl
    refine RD.e ?_
    refine RH.a [] ?_
    refine RH.mtS ((w.heap.size+1+1),m1) [] (.head _) ?_ ?_ ?_ ?_
    ·rfl
    ·rfl
    ·rfl
    ·exact λw h=>h
   ·refine opD_step tk (nx:=3) (i:=3) rfl rfl rfl rfl ?_ rfl (λ_ h=>h) ⟨rfl,rfl⟩ ?_
    ·first|exact ⟨⟨rfl,List.all_eq_true.1 (by kernel_rfl)⟩,trivial⟩|simp<;>rfl
    refine RD.a [] ?_
    refine RD.gv 1 roundsE rfl rfl rfl Tryz.call261 (λu _=>rounds_spec u) ?_
    intro m1 hm1
    refine RD.a [] ?_
    refine RD.step tk (i:=4) rfl (by kernel_rfl) rfl rfl rfl ?_ rfl (λ_ h=>h) rfl ?_
    ·first|exact ⟨⟨by unfold wsC;simp [h8];rfl,wsC_one old⟩,trivial⟩|trivial
    refine RD.a [] ?_
    refine RD.step tk (i:=5) rfl (by kernel_rfl) rfl rfl rfl ?_ rfl (λ_ h=>h) rfl ?_
    ·first|trivial|simp<;>rfl
    refine RD.e ?_
    refine RH.a [] ?_
    refine RH.mtS ((w.heap.size+1+1),((w.heap.size+1+1)+1)) [] (.head _) ?_ ?_ ?_ ?_
    ·rfl
    ·rfl
    ·rfl
    ·exact λw h=>h
  ·refine opD_step tk (nx:=2) (i:=3) rfl rfl rfl rfl ?_ rfl (λ_ h=>h) ⟨rfl,rfl⟩ ?_
   ·first|exact ⟨⟨rfl,List.all_eq_true.1 (by kernel_rfl)⟩,trivial⟩|simp<;>rfl
   refine RD.a [] ?_
   refine RD.two (i:=1) (j:=2) (by kernel_rfl) ?_ ?_
   ·refine opD_go (i:=1) rfl rfl (OpGo.gives (fo:=.func 261) roundsE rfl rfl rfl rfl Tryz.call261 (λu _=>rounds_spec u)) 3 (λ_=>rfl) (λ_ _ h=>h) ?_
    rintro ⟨⟩ m1 hm1
    refine RD.a [] ?_
    refine RD.step tk (i:=2) rfl (by kernel_rfl) rfl rfl rfl ?_ rfl (λ_ h=>h) ⟨rfl,rfl⟩ ?_
    ·first|exact ⟨⟨rfl,List.all_eq_true.1 (by kernel_rfl)⟩,trivial⟩|simp<;>rfl
    refine RD.a [] ?_
    refine RD.step tk (i:=4) rfl (by kernel_rfl) rfl rfl rfl ?_ rfl (λ_ h=>h) rfl ?_
    ·first|exact ⟨⟨by unfold wsC;simp [h8];rfl,wsC_one old⟩,trivial⟩|trivial
    refine RD.a [] ?_
    refine RD.step tk (i:=5) rfl (by kernel_rfl) rfl rfl rfl ?_ rfl (λ_ h=>h) rfl ?_
    ·first|trivial|simp<;>rfl
    refine RD.e ?_
    refine RH.a [] ?_
    refine RH.mtS (m1,(w.heap.size+1+1)) [(2,3),(3,2)] (.head _) ?_ ?_ ?_ ?_
    ·rfl
    ·rfl
    ·rfl
    ·exact λw h=>h
   ·refine opD_step tk (nx:=3) (i:=2) rfl rfl rfl rfl ?_ rfl (λ_ h=>h) ⟨rfl,rfl⟩ ?_
    ·first|exact ⟨⟨rfl,List.all_eq_true.1 (by kernel_rfl)⟩,trivial⟩|simp<;>rfl
    refine RD.a [] ?_
    refine RD.gv 1 roundsE rfl rfl rfl Tryz.call261 (λu _=>rounds_spec u) ?_
    intro m1 hm1
    refine RD.a [] ?_
    refine RD.step tk (i:=4) rfl (by kernel_rfl) rfl rfl rfl ?_ rfl (λ_ h=>h) rfl ?_
    ·first|exact ⟨⟨by unfold wsC;simp [h8];rfl,wsC_one old⟩,trivial⟩|trivial
    refine RD.a [] ?_
    refine RD.step tk (i:=5) rfl (by kernel_rfl) rfl rfl rfl ?_ rfl (λ_ h=>h) rfl ?_
    ·first|trivial|simp<;>rfl
    refine RD.e ?_
    refine RH.a [] ?_
    refine RH.mtS (((w.heap.size+1+1)+1),(w.heap.size+1+1)) [(2,3),(3,2)] (.head _) ?_ ?_ ?_ ?_
    ·rfl
    ·rfl
    ·rfl
    ·exact λw h=>h
 rintro ⟨a,b⟩ m2
 refine RH.toNx 4 ?_
 refine RH.gv (.av (.val (wsV (spreadW blk)))) rfl rfl rfl Tryz.call262 (λu hu=>spread_spec u A c blk (hb.ext hu.fact) h64) ?_
 intro m3 hm3
 have hWl:=spreadW_len blk
 have htk:takenW old blk=addW old 8 (roundsW (spreadW blk) 64 old):=rfl
 rw [htk]
 generalize hWe:spreadW blk=W at *
 refine RH.boxObj (id:=0) (wsC old) rfl (boxCells_ws old) ?_
 refine RH.boxObj (id:=2) (wsC old) rfl (boxCells_ws old) ?_
 refine RH.a [] ?_
 refine RH.loop (α:=Nat) (λi=>[(4,.av (.box 1 (w.heap.size+1) 0)),(2,.av (.box 0 w.heap.size 0)),(5,.av (.box 2 a 0)),(6,.av (.box 3 b 0)),(15,.av (.val (wsV W))),(16,intE i)])
  (λi=>[(0,wsE w.heap.size 226 old),(1,some (.box (w.heap.size+1) [.val (wsV (List.replicate 8 0))] 226)),(2,wsE a 226 (roundsW W i old)),(3,some (.box b [.val (.func (.func 286) #[] #[]),.val (.func (.func 288) #[] #[])] 365))]) (λi u=>Ext w u/\i ≤ 64) (λi=>64 - i) 0 rfl rfl (λu hu=>⟨hu,by decide⟩) ?_
 intro i m4
 refine RH.pure (λu hu=>hu.2) λhi=>?_
 by_cases hlt:i < 64
 ·have hh8:(roundsW W i old).length=8:=roundsW_len W i h8
  have hnext:stepW W i (roundsW W i old)=roundsW W (i+1) old:=rfl
  generalize hhe:roundsW W i old=h at *
  refine RH.a [true] ?_
  refine RH.read (u32E (gW W i)) rfl rfl rfl rfl (λu q _ ha=>?_) ?_
  ·have e1:q.eval (.tmp 15)=wsV W:=ev_run (e:=.av (.val (wsV W))) ha rfl
   have e2:q.eval (.tmp 16) = .int .i64 (i:Int):=ev_run (e:=intE i) ha rfl
   simp only [execOp,e1,e2,index_ws W hWl i hlt,Sem.run_bind,Result.andThen_ok,Sem.run_pure]
   rfl
  refine RH.a [] ?_
  refine RH.w [(2,wsE a 226 h),(3,some (.box b [.val (.func (.func 286) #[] #[]),.val (.func (.func 288) #[] #[])] 365))] 11 ?_
  refine RD.a [] ?_
  refine RD.loadG (by kernel_rfl) (i:=2) (.av (.val (wsV h))) rfl rfl rfl rfl rfl rfl (λu hu=>load_w8 (hu.holds 2 _ rfl).2 hh8) ?_
  refine RD.a [] ?_
  refine RD.loadG (by kernel_rfl) (i:=6) (u32E (gW constW i)) rfl rfl rfl rfl rfl rfl (λu hu=>load_con (hG.ext hu.fact.1) i hlt) ?_
  refine RD.a [] ?_
  refine RD.gv 3 (u32E (roundA h)) rfl rfl rfl Tryz.call286 (λu _=>rounds1_spec u h hh8) ?_
  intro m5 hm5
  refine RD.a [] ?_
  refine RD.step tk (i:=8) rfl (by kernel_rfl) rfl rfl rfl (by simp [u32V,one_int];try rfl) rfl (λ_ h=>h) ⟨rfl,rfl⟩ ?_
  refine RD.a [] ?_
  refine RD.gv 9 (u32E (tempA W h i)) rfl rfl rfl Tryz.call263 (λu hu=>added_spec u _ _ [roundA h,gW constW i,gW W i] (Sl.own (B:=w.heap.size) (hu.row (κ:=kW) (l:=[roundA h,gW constW i,gW W i]) (id:=4) rfl) (by simp [hl]))) ?_
  intro m6 hm6
  refine RD.a [] ?_
  refine RD.e ?_
  refine RH.a [] ?_
  refine RH.loadS (.av (.val (wsV h))) rfl rfl rfl rfl (λu hu=>load_w8 (hu.holds 2 _ rfl).2 hh8) ?_
  refine RH.gv (u32E (roundB h)) rfl rfl rfl Tryz.call288 (λu _=>rounds2_spec u h hh8) ?_
  intro m7 hm7
  refine RH.a [] ?_
  refine RH.w [] 3 ?_
  refine RD.a [] ?_
  refine RD.r 0 (.av (.val (.slice (some ⟨a,1,none⟩) 7 7))) rfl rfl (λu q _ ha=>?_) ?_
  ·have e1:q.eval (.tmp 5) = .pointer (some ⟨a,0,none⟩):=ev_run (e:=.av (.box 2 a 0)) ha rfl
   have e2:q.eval (.const (.int .i64 1)) = .int .i64 1:=ev_run (e:=.av (.val (.int .i64 1))) ha rfl
   simp only [execOp,e1,Option.map_some,Option.map_none,e2,slice_lo,Sem.run_bind,Result.andThen_ok,Sem.run_pure]
   rfl
  refine RD.r 1 (.av (.val (.slice (some ⟨a,0,none⟩) 7 8))) rfl rfl (λu q _ ha=>?_) ?_
  ·have e1:q.eval (.tmp 5) = .pointer (some ⟨a,0,none⟩):=ev_run (e:=.av (.box 2 a 0)) ha rfl
   have e2:q.eval (.const (.int .i64 7)) = .int .i64 7:=ev_run (e:=.av (.val (.int .i64 7))) ha rfl
   simp only [execOp,e1,Option.map_some,Option.map_none,e2,slice_hi,Sem.run_bind,Result.andThen_ok,Sem.run_pure]
   rfl
  refine RD.last (i:=2) rfl (by kernel_rfl) rfl (by kernel_rfl) (OpGo.copyArr (id:=2) (g:=a) (off:=1) (dl:=7) (dc:=7) (q:=7) (c:=8) (A:=some ⟨a,0,none⟩) (cur:=wsC h) (cs:=(h.take 7).map u32V) (i:=Tryz.t225) (e:=225) tk rfl rfl rfl rfl rfl rfl rfl rfl ?_ ?_ ?_ ?_ ?_ ?_) 5 (by kernel_rfl) ?_
  ·simp [hh8];rfl
  ·exact wsC_one (h.take 7)
  ·exact λu hu=>range_take (n:=7) (hu.holds 2 _ rfl).2 (by show ((wsC h).toList.drop 0).take 7=_;unfold wsC;simp [List.map_take])
  ·exact λ_=>rfl
  ·exact nofun
  ·unfold wsC;simp [hh8]
  rintro ⟨⟩ m8 hm8
  have hput:putC (wsC h) 1 ((h.take 7).map u32V)=wsC (shiftW h):=by
   unfold putC wsC shiftW
   simp [List.map_take,hh8]
  rw [hput]
  have hs8:=shiftW_len hh8
  have hn2:((shiftW h).set 4 (sumW [gW (shiftW h) 4,tempA W h i])).set 0 (sumW [tempA W h i,roundB h])=roundsW W (i+1) old:=hnext
  generalize shiftW h=sh at *
  refine RH.a [] ?_
  refine RH.loadS (u32E (gW sh 4)) rfl rfl rfl rfl (λu hu=>load_ws (hu.holds 2 _ rfl).2 (by omega)) ?_
  refine RH.adv tk [] rfl rfl (by simp [u32V,one_int];try rfl) ?_
  refine RH.gv (u32E (sumW [gW sh 4,tempA W h i])) rfl rfl rfl Tryz.call263 (λu hu=>added_spec u _ _ [gW sh 4,tempA W h i] (Sl.own (B:=w.heap.size) (hu.row (κ:=kW) (l:=[gW sh 4,tempA W h i]) (id:=5) rfl) (by simp [hl]))) ?_
  intro m9 hm9
  refine RH.a [] ?_
  refine RH.storeW (id:=2) (ws:=sh) 4 (sumW [gW sh 4,tempA W h i]) rfl rfl rfl rfl rfl (by omega) rfl rfl ?_
  intro m10 hm10
  refine RH.adv tk [] rfl rfl (by simp [u32V,one_int];try rfl) ?_
  refine RH.gv (u32E (sumW [tempA W h i,roundB h])) rfl rfl rfl Tryz.call263 (λu hu=>added_spec u _ _ [tempA W h i,roundB h] (Sl.own (B:=w.heap.size) (hu.row (κ:=kW) (l:=[tempA W h i,roundB h]) (id:=6) rfl) (by simp [hl]))) ?_
  intro m11 hm11
  refine RH.a [] ?_
  refine RH.storeW (id:=2) (ws:=sh.set 4 (sumW [gW sh 4,tempA W h i])) 0 (sumW [tempA W h i,roundB h]) rfl rfl rfl rfl rfl (by rw [List.length_set];omega) rfl rfl ?_
  intro m12 hm12
  rw [hn2]
  refine RH.a [] ?_
  exact RH.again (i+1) (.head _) rfl rfl (by show 64 - (i+1) < 64 - i;omega) λu hu=>⟨hu.1,hlt⟩
 ·have hi64:i=64:=by omega
  subst hi64
  refine RH.a [false] ?_
  have hR8:(roundsW W 64 old).length=8:=roundsW_len W 64 h8
  generalize roundsW W 64 old=Rr at *
  refine RH.loop (α:=Nat) (λi=>[(4,.av (.box 1 (w.heap.size+1) 0)),(2,.av (.box 0 w.heap.size 0)),(5,.av (.box 2 a 0)),(49,intE i)])
   (λi=>[(0,wsE w.heap.size 226 old),(1,some (.box (w.heap.size+1) [.val (wsV (List.replicate 8 0))] 226)),(2,wsE a 226 (addW old i Rr))]) (λi u=>Ext w u/\i ≤ 8) (λi=>8 - i) 0 rfl rfl (λu hu=>⟨hu.1,by decide⟩) ?_
  intro i m5
  refine RH.pure (λu hu=>hu.2) λhi=>?_
  have hc8:(addW old i Rr).length=8:=addW_len old i hR8
  by_cases hlt2:i < 8
  ·have hnext:(addW old i Rr).set i (sumW [gW (addW old i Rr) i,gW old i])=addW old (i+1) Rr:=rfl
   generalize addW old i Rr=cu at *
   refine RH.a [true] ?_
   refine RH.w [(0,wsE w.heap.size 226 old),(2,wsE a 226 cu)] 11 ?_
   refine RD.a [] ?_
   refine RD.loadG (by kernel_rfl) (i:=3) (u32E (gW cu i)) rfl rfl rfl rfl rfl rfl (λu hu=>load_wsAt (hu.holds 2 _ rfl).2 i (by omega) _ rfl) ?_
   refine RD.loadG (by kernel_rfl) (i:=6) (u32E (gW old i)) rfl rfl rfl rfl rfl rfl (λu hu=>load_wsAt (hu.holds 0 _ rfl).2 i (by omega) _ rfl) ?_
   refine RD.a [] ?_
   refine RD.step tk (i:=7) rfl (by kernel_rfl) rfl rfl rfl (by simp [u32V,one_int];try rfl) rfl (λ_ h=>h) ⟨rfl,rfl⟩ ?_
   refine RD.a [] ?_
   refine RD.gv 8 (u32E (sumW [gW cu i,gW old i])) rfl rfl rfl Tryz.call263 (λu hu=>added_spec u _ _ [gW cu i,gW old i] (Sl.own (B:=w.heap.size) (hu.row (κ:=kW) (l:=[gW cu i,gW old i]) (id:=4) rfl) (by simp [hl]))) ?_
   intro m6 hm6
   refine RD.a [] ?_
   refine RD.lastW (i:=10) (id:=2) (ws:=cu) i (sumW [gW cu i,gW old i]) rfl (by kernel_rfl) rfl (by kernel_rfl) (by kernel_rfl) rfl rfl rfl (by omega) rfl rfl ?_
   intro m7 hm7
   rw [hnext]
   refine RH.a [] ?_
   exact RH.again (i+1) (.head _) rfl rfl (by show 8 - (i+1) < 8 - i;omega) λu hu=>⟨hu.1,hlt2⟩
  ·have hi8:i=8:=by omega
   subst hi8
   refine RH.objBox (id:=2) [.val (wsV (addW old 8 Rr))] rfl (boxCells_ws _).symm ⟨_,rfl,vok_w8 hc8⟩ ?_
   refine RH.adv tk [false] rfl rfl ⟨⟨by unfold wsC;simp [hc8];rfl,wsC_one _⟩,by simp [Ob.P],trivial⟩ ?_
   exact RH.retBox tk (.av (.val (wsV (addW old 8 Rr)))) Tryz.func208 rfl rfl rfl rfl λw' hst=>⟨rfl,hst.fact.1⟩
open Go V RowKit
theorem run_append_make0 {P:Program} (w:World) (t tx ty e:TypeId) (i:TypeInfo) (z:Value) (ht:P.underlying t=some (.slice e)) (htx:P.underlying tx=some (.int .i64)) (hi:P.info? e=some i) (hz:i.zero=some z) (hsz:0 < i.size)
  (n:Nat) (hn0:0 < n) (h63:(n:Int) ≤ 9223372036854775807) (hfit:Builtin.nextslicecap n 0*i.bytes ≤ 281474976710656) (hby:n*i.bytes ≤ 281474976710656) :
  (Builtin.append_ #[t,tx] ty #[.slice none 0 0,.int .i64 n]).run P w =
   .ok (.slice (some ⟨w.heap.size,0,none⟩) n (grownCap w n 0 e))
    (w.drew.alloc (.cells (Builtin.zeroCells z.cells n ++ Builtin.zeroCells z.cells (grownCap w n 0 e - n)) e)):=by
 have hn:¬ (n ≤ 0):=by omega
 have h63':¬ (9223372036854775807 < (n:Int)):=by omega
 have h48':¬ (281474976710656 < Builtin.nextslicecap n 0*i.bytes):=by omega
 have hfo:(Builtin.firstCells i.size 0 (.slice none 0 0)).run P w.drew = .ok #[] w.drew:=by rfl
 have hw:IntKind.i64.wrap (n:Int)=n:=wrap64_of (by omega)
 have hneg:¬ ((n:Int) < 0):=by omega
 have hbig:¬ (281474976710656 < (n:Int)*(i.bytes:Int)):=by
  have:(n:Int)*(i.bytes:Int)=((n*i.bytes:Nat):Int):=by simp
  omega
 have hns:¬ (n=0 ∨ i.size=0):=by omega
 simp [Builtin.append_,run_underlying ht,run_underlying htx,sizeOf,typeInfo,zeroValue,hi,hz,asInt,asIntOf,hw,hneg,hbig,hn,h63',h48',hns,Question.forced,hfo,newRow,grownCap]
 have:=Nat.mul_pos hn0 hsz
 rw [if_neg (by omega),if_neg (by omega)]
section
variable {P:Program} {n:Nat} {tb:TT} {B0:Nat} {I:World->Prop} {H:Heap} {m:Nat} {env:SEnv}
theorem V.OpGo.appendMake0 (hk:tb.Ok P) {d id:Nat} {s x:Operand} {T T2 e:TypeId} {ty:TypeId} {ps:String} {af:Array Edge} {gd:Option (Nat × Bool)} {es:EV} {q:Nat} {i:TypeInfo} {z:Value}
  (hd:Nat.blt d n=true) (hT:tb.und T=some (.slice e)) (hT2:tb.und T2=some (.int .i64)) (hi:tb.get e=some i) (hz:i.zero=some z) (hsz:0 < i.size) (hzs:z.cells.size=i.size)
  (hs:evE env s=some es) (hsv:es.v = .slice none 0 0) (hx:evE env x=some (.av (.val (.int .i64 q))))
  (hq:0 < q) (hb:q*i.bytes ≤ 140737488355328) (h63:q ≤ maxLen) :
  OpGo P tb B0 n ⟨some d,.call ⟨.builtin .append,#[s,x],#[T,T2]⟩,ty,ps,af,gd⟩ env H m I (λy:Nat × Array Value=>(d,.av (.val (.slice (some ⟨m,0,none⟩) q y.1))) :: env)
   (λy=>(id,some (.obj m (.cells y.2 e))) :: H) (λy w=>I w/\(q ≤ y.1/\y.1 ≤ maxLen/\y.2.size=y.1*i.size)):=by
 intro w a hm hst ha
 have hdn:d < n:=Nat.lt_of_lt_of_le (Nat.lt_succ_self d) (Nat.le_of_ble_eq_true hd)
 have hmx:q ≤ 9223372036854775807:=by simp only [maxLen] at h63;omega
 have hg:0 < 0+q:=by omega
 have hb':(0+q)*i.bytes ≤ 140737488355328:=by rw [Nat.zero_add];exact hb
 have hfits:=growslice_fits hg hb'
 rw [Nat.zero_add] at hfits
 have hrun:=run_append_make0 (P:=P) w T T2 ty e i z (hk.und hT) (hk.und hT2) (hk.get hi) hz hsz q hq (by omega) hfits (by omega)
 have hsv':a.eval s = .slice none 0 0:=(ev_run ha hs).trans hsv
 have hxv':a.eval x = .int .i64 q:=ev_run ha hx
 have hge:=grownCap_ge w q 0 e
 have hle:=grownCap_le_maxLen w q 0 e h63
 unfold Oper.wp
 have:(execOp a.eval ⟨some d,.call ⟨.builtin .append,#[s,x],#[T,T2]⟩,ty,ps,af,gd⟩).run P w = .ok (.value (.slice (some ⟨w.heap.size,0,none⟩) q (grownCap w q 0 e)))
   (w.drew.alloc (.cells (Builtin.zeroCells z.cells q ++ Builtin.zeroCells z.cells (grownCap w q 0 e - q)) e)):=by
  simp only [execOp,resolve,invoke,builtin,Sem.run_bind,Sem.run_pure,Result.andThen_ok,List.map_toArray,List.map_cons,List.map_nil,hsv',hxv',hrun]
 rw [this]
 subst hm
 have hd1:=hst.ext (V.drew_ext w)
 have hp:=hd1.push (ext_alloc w.drew (.cells (Builtin.zeroCells z.cells q ++ Builtin.zeroCells z.cells (grownCap w q 0 e - q)) e)) id (.obj w.heap.size (.cells (Builtin.zeroCells z.cells q ++ Builtin.zeroCells z.cells (grownCap w q 0 e - q)) e))
  ⟨hst.base,heap_alloc_new w.drew _⟩ (λk hk=>by
   have:w.heap.size=k:=by injection hk
   subst this;exact Nat.le_refl _)
 refine ⟨(grownCap w q 0 e,Builtin.zeroCells z.cells q ++ Builtin.zeroCells z.cells (grownCap w q 0 e - q)),?_,by simp,hp.mono λu _ hu=>⟨hu,hge,hle,?_⟩⟩
 ·rw [kn_cons];exact ha.put hdn _
 ·simp only [Array.size_append,size_zeroCells,hzs,← Nat.add_mul]
  congr 1;omega
end
theorem Grow_spec (n:Nat) (hn:n ≤ 1000000):Does Tryz.prog tb 194 [.slice none 0 0,intV n] [] (λ_=>True) (λy:Option Addr × Nat=>.slice y.1 0 y.2) (λy=>[(0,rowE kBy y.1 y.2 [])]) (λ_ _ _=>True):=by
 refine Does.enter tk [(0,.av (.val (.slice none 0 0))),(1,intE n)] Tryz.func194 rfl Tryz.ntmps194 rfl rfl 0 ?_
 intro B0 m0 K
 refine RH.a [false] ?_
 refine RH.read (intE ((0:Nat):Int)) rfl rfl rfl rfl (λw a _ ha=>op_cap (A:=none) (n_:=0) (c:=0) (e:=5) ha rfl rfl (tk.und (by kernel_rfl))) ?_
 by_cases h0:0 < n
 ·refine RH.a [true] ?_
  refine RH.read (intE ((0:Nat):Int)) rfl rfl rfl rfl (λw a _ ha=>op_cap (A:=none) (n_:=0) (c:=0) (e:=5) ha rfl rfl (tk.und (by kernel_rfl))) ?_
  refine RH.a [] ?_
  refine RH.go rfl rfl (OpGo.appendMake0 (id:=0) (q:=n) (e:=5) (i:=Tryz.t5) (z:=(Tryz.t5).zero.getD undef) tk rfl (by kernel_rfl) (by kernel_rfl) (by kernel_rfl) (by kernel_rfl) (by decide) (by kernel_rfl) rfl rfl rfl h0 (by show n*1 ≤ _;omega) (by simp only [maxLen];omega)) 1 ?_
  rintro ⟨cap',X⟩ m1 hm1
  refine RH.pure (λw h=>h.2) λ⟨hX1,hX2,hX3⟩=>?_
  dsimp only at hX1 hX2 hX3 ⊢
  refine RH.a [] ?_
  refine RH.cook (id:=0) (g:=m0) (sz:=1) 0 cap' rfl (by omega) hX2 hX3 ?_
  refine RH.ret1 Tryz.func194 rfl rfl λw hst=>⟨(some ⟨m0,0,none⟩,cap'),rfl,hst.out [] rfl rfl λu h=>⟨h.1.1,trivial⟩⟩
 ·refine RH.a [false] ?_
  refine RH.nilrow 0 kBy.T kBy.sz 1 ?_
  refine RH.ret1 Tryz.func194 rfl rfl λw hst=>⟨(none,0),rfl,hst.out [] rfl rfl λu h=>⟨h.1,trivial⟩⟩
def kSli:Kd (Option Addr × Nat × Nat) where
 T:=22
 sz:=1
 ev x:=.av (.val (.slice x.1 x.2.1 x.2.2))
 ok x:=⟨rfl,Tryz.t22,rfl,rfl⟩
 size x:=rfl
abbrev sliOf (r:Row UInt8):Option Addr × Nat × Nat:=(r.A,r.l.length,r.c)
def lenS (rs:List (Row UInt8)):Nat:=(rs.map λr=>r.l.length).sum
theorem Concat_spec (A:Option Addr) (c:Nat) (rs:List (Row UInt8)) (hn:lenS rs ≤ 1000000) :
  Does Tryz.prog tb 115 [.slice A rs.length c] [] (λu=>Sl kSli u A c (rs.map sliOf)/\∀ r ∈ rs,Sl kBy u r.A r.c r.l) (λy:Option Addr × Nat=>.slice y.1 (rs.flatMap Row.l).length y.2) (λy=>[(0,rowE kBy y.1 y.2 (rs.flatMap Row.l))]) (λ_ _ _=>True):=by
 have hl:lim=140737488351232:=rfl
 refine Does.enter tk [(0,slE A rs.length c)] Tryz.func115 rfl Tryz.ntmps115 rfl rfl 0 ?_
 intro B0 m0 K
 refine RH.pure (λu h=>h.2.1.small) λhsm=>?_
 rw [List.length_map] at hsm
 have hls:∀ i,lenS (rs.take i) ≤ lenS rs:=by
  intro i
  have:rs=rs.take i ++ rs.drop i:=(List.take_append_drop i rs).symm
  conv=>rhs;rw [this]
  unfold lenS
  rw [List.map_append,List.sum_append];omega
 have hlf:∀ l:List (Row UInt8),(l.flatMap Row.l).length=lenS l:=by
  intro l
  unfold lenS
  rw [List.length_flatMap]
 refine RH.a [] ?_
 refine RH.loop (α:=Nat) (λi=>[(0,slE A rs.length c),(9,slE A rs.length c),(10,intE rs.length),(11,intE i),(3,intE (lenS (rs.take i)))]) (λ_=>[]) (λi u=>(K u/\Sl kSli u A c (rs.map sliOf)/\∀ r ∈ rs,Sl kBy u r.A r.c r.l)/\i ≤ rs.length) (λi=>rs.length - i) 0 rfl rfl (λu hu=>⟨hu,Nat.zero_le _⟩) ?_
 intro i m
 refine RH.pure (λu hu=>hu.2) λhi=>?_
 by_cases hlt:i < rs.length
 ·have hts:rs.take (i+1)=rs.take i ++ [rs[i]]:=List.take_succ_eq_append_getElem hlt
  have hle:lenS (rs.take (i+1))=lenS (rs.take i)+rs[i].l.length:=by rw [hts];unfold lenS;rw [List.map_append,List.sum_append];simp only [List.map_cons,List.map_nil,List.sum_cons,List.sum_nil,Nat.add_zero]
  have hb1:=hls (i+1)
  refine RH.pure (λu hu=>hu.1.2.1.ptr (i:=i) (by simpa using hlt)) λhptr=>?_
  refine RH.adv tk [true] rfl rfl (by simp [hptr]<;>omega) ?_
  refine RH.loadS (slE rs[i].A rs[i].l.length rs[i].c) rfl rfl rfl rfl (λu hu=>by
   have h1:=hu.fact.1.2.1.load (i:=i) (by simpa using hlt)
   rw [List.getElem_map] at h1
   exact h1) ?_
  refine RH.a [false] ?_
  refine RH.again (i+1) (.head _) ?_ rfl (by show rs.length - (i+1) < rs.length - i;omega) λu hu=>⟨hu.1,hlt⟩
  rw [hle]
  rfl
 ·have hi':i=rs.length:=by omega
  subst hi'
  rw [List.take_length]
  refine RH.a [false] ?_
  refine RH.dd [] 1 (λy:Option Addr × Nat=>rowS 0 y.1 0 y.2) rfl rfl rfl Tryz.call194 (Grow_spec (lenS rs) hn) (λ_ _=>trivial) ?_
  rintro ⟨A1,c1⟩ m1 hm1
  refine RH.drop ?_
  refine RH.a [] ?_
  refine RH.loop (α:=Nat × (Option Addr × Nat)) (λy=>[(0,slE A rs.length c),(25,slE A rs.length c),(26,intE rs.length),(27,intE y.1),(6,rowS 0 y.2.1 ((rs.take y.1).flatMap Row.l).length y.2.2)]) (λy=>[(0,rowE kBy y.2.1 y.2.2 ((rs.take y.1).flatMap Row.l))]) (λy u=>(K u/\Sl kSli u A c (rs.map sliOf)/\∀ r ∈ rs,Sl kBy u r.A r.c r.l)/\y.1 ≤ rs.length) (λy=>rs.length - y.1) (0,(A1,c1)) rfl rfl (λu hu=>⟨hu.1,Nat.zero_le _⟩) ?_
  rintro ⟨i,A2,c2⟩ m2
  refine RH.pure (λu hu=>hu.2) λhi=>?_
  dsimp only at hi ⊢
  by_cases hlt:i < rs.length
  ·have hts:rs.take (i+1)=rs.take i ++ [rs[i]]:=List.take_succ_eq_append_getElem hlt
   have hfm:(rs.take (i+1)).flatMap Row.l=(rs.take i).flatMap Row.l ++ rs[i].l:=by rw [hts,List.flatMap_append];simp
   have hb1:=hls (i+1)
   rw [← hlf,hfm,List.length_append] at hb1
   refine RH.pure (λu hu=>hu.1.2.1.ptr (i:=i) (by simpa using hlt)) λhptr=>?_
   refine RH.adv tk [true] rfl rfl (by simp [hptr]<;>omega) ?_
   refine RH.loadS (slE rs[i].A rs[i].l.length rs[i].c) rfl rfl rfl rfl (λu hu=>by
    have h1:=hu.fact.1.2.1.load (i:=i) (by simpa using hlt)
    rw [List.getElem_map] at h1
    exact h1) ?_
   refine RH.a [] ?_
   refine RH.apK (κ:=kBy) (id:=0) (l:=(rs.take i).flatMap Row.l) (r:=rs[i].l) rfl rfl rfl rfl rfl rfl elt_byte rfl rfl (λu hu=>(hu.fact.1.2.2 _ (List.getElem_mem hlt)).lies) (by omega) (by omega) ?_
   intro A3 c3 m3 hm3
   rw [← hfm]
   refine RH.a [] ?_
   exact RH.again (i+1,(A3,c3)) (.head _) rfl rfl (by show rs.length - (i+1) < rs.length - i;omega) λu hu=>⟨hu.1,hlt⟩
  ·have hi':i=rs.length:=by omega
   subst hi'
   rw [List.take_length]
   refine RH.a [false] ?_
   refine RH.ret1 Tryz.func115 rfl rfl λw hst=>⟨(A2,c2),rfl,hst.out [] rfl rfl λu h=>⟨h.1.1,trivial⟩⟩
def swC (ws:List UInt32) (v:Value) (n:Int):Array Value:=(ws.map u32V ++ [v,intV n]).toArray
abbrev swE (b:Nat) (ws:List UInt32) (v:Value) (n:Int):Option HE:=some (.obj b (.cells (swC ws v n) 231))
section
variable {w:World} {b:Nat} {ws:List UInt32} {v:Value} {n:Int}
theorem load_swR {A:Option Addr} {k c:Nat} (h:w.heap[b]? = some (.cells (swC ws (.slice A k c) n) 231)) (h8:ws.length=8):(loadVar 22 ⟨b,8,none⟩).run Tryz.prog w = .ok (.slice A k c) w:=by
 refine V.run_load tk ⟨rfl,Tryz.t22,rfl,rfl⟩ (range_take h (n:=1) ?_)
 show ((swC ws (.slice A k c) n).toList.drop 8).take 1=[.slice A k c]
 unfold swC
 rw [List.toList_toArray,List.drop_left' (by simp [h8])]
 rfl
theorem load_swL (h:w.heap[b]? = some (.cells (swC ws v n) 231)) (h8:ws.length=8):(loadVar 3 ⟨b,9,none⟩).run Tryz.prog w = .ok (intV n) w:=by
 refine V.run_load tk (vok_int n) (range_take h (n:=1) ?_)
 show ((swC ws v n).toList.drop (8+1)).take 1=[intV n]
 unfold swC
 rw [List.toList_toArray,← List.drop_drop,List.drop_left' (by simp [h8])]
 rfl
theorem load_swW (h:w.heap[b]? = some (.cells (swC ws v n) 231)) (h8:ws.length=8):(loadVar 226 ⟨b,0,none⟩).run Tryz.prog w = .ok (wsV ws) w:=by
 refine V.run_load tk (vok_w8 h8) (range_take h (n:=8) ?_)
 show ((swC ws v n).toList.drop 0).take 8=(wsC ws).toList
 unfold swC wsC
 rw [List.toList_toArray,List.drop_zero,List.take_left' (by simp [h8])]
theorem load_swI (h:w.heap[b]? = some (.cells (swC ws v n) 231)) (h8:ws.length=8) {i:Nat} (hi:i < 8):(loadVar 225 ⟨b,i*1,none⟩).run Tryz.prog w = .ok (u32V (gW ws i)) w:=by
 refine V.run_load tk (vok_w _) (range_of_blk h λj x hj=>?_)
 cases j with
 | zero =>
  have hj:some (u32V (gW ws i))=some x:=hj
  injection hj with hj
  subst hj
  have hl:i < ws.length:=by omega
  show (ws.map u32V ++ [v,intV n])[i*1+0]? = _
  rw [Nat.mul_one,Nat.add_zero,List.getElem?_append_left (by simp;omega),List.getElem?_map]
  unfold gW
  rw [List.getD_eq_getElem?_getD,List.getElem?_eq_getElem hl]
  rfl
 | succ j=>simp [u32V,Value.cells] at hj
end
theorem St_sw {w w':World} {B0:Nat} {H:Heap} {I:World->Prop} {id b:Nat} {ws ws':List UInt32} {v v':Value} {n n':Int} (hst:St tb B0 H I w) (hH:loH H id=swE b ws v n) (h1:Agr (λk=>k=b) w w') (h2:w'.heap[b]? = some (.cells (swC ws' v' n') 231)):St tb B0 ((id,swE b ws' v' n') :: H) I w':=by
 have ho:=hst.holds id _ hH
 exact hst.turn (w':=w') id _ (.obj b (.cells (swC ws' v' n') 231)) hH (h1.mono λj _ hj=>by rw [hj];rfl) ⟨ho.1,h2⟩ λj hj=>.inl hj
theorem store_swR {w:World} {B0:Nat} {H:Heap} {I:World->Prop} {id b:Nat} {ws:List UInt32} {v:Value} {n:Int} (h8:ws.length=8) (hst:St tb B0 H I w) (hH:loH H id=swE b ws v n) (A:Option Addr) (k c:Nat) :
  ∃ w',(storeVar 22 ⟨b,8,none⟩ (.slice A k c)).run Tryz.prog w = .ok () w'/\w.heap.size ≤ w'.heap.size/\St tb B0 ((id,swE b ws (.slice A k c) n) :: H) I w':=by
 have ho:=hst.holds id _ hH
 obtain ⟨w',q1,q2,q3,q4⟩:=run_storeAt (P:=Tryz.prog) (v:=.slice A k c) (T:=22) tk ⟨rfl,Tryz.t22,rfl,rfl⟩ (o:=8) ho.2 (by show 8+1 ≤ _;unfold swC;simp [h8])
 refine ⟨w',q1,by rw [q4];exact Nat.le_refl _,St_sw hst hH q3 ?_⟩
 have e:((swC ws v n).toList.take 8 ++ (Value.slice A k c).cells.toList ++ (swC ws v n).toList.drop (8+(Value.slice A k c).cells.size)).toArray=swC ws (.slice A k c) n:=by
  unfold swC
  show ((ws.map u32V ++ [v,intV n]).take 8 ++ [Value.slice A k c] ++ (ws.map u32V ++ [v,intV n]).drop (8+1)).toArray=_
  rw [List.take_left' (by simp [h8]),← List.drop_drop,List.drop_left' (by simp [h8])]
  simp
 rw [← e];exact q2
theorem store_swW {w:World} {B0:Nat} {H:Heap} {I:World->Prop} {id b:Nat} {ws:List UInt32} {v:Value} {n:Int} (h8:ws.length=8) (hst:St tb B0 H I w) (hH:loH H id=swE b ws v n) (ws':List UInt32) (h8':ws'.length=8) :
  ∃ w',(storeVar 226 ⟨b,0,none⟩ (wsV ws')).run Tryz.prog w = .ok () w'/\w.heap.size ≤ w'.heap.size/\St tb B0 ((id,swE b ws' v n) :: H) I w':=by
 have ho:=hst.holds id _ hH
 have hsz:(wsV ws').cells.size=8:=by show (wsC ws').size=8;unfold wsC;simp [h8']
 obtain ⟨w',q1,q2,q3,q4⟩:=run_storeAt (P:=Tryz.prog) tk (vok_w8 h8') (o:=0) ho.2 (by rw [hsz];unfold swC;simp [h8])
 refine ⟨w',q1,by rw [q4];exact Nat.le_refl _,St_sw hst hH q3 ?_⟩
 have e:((swC ws v n).toList.take 0 ++ (wsV ws').cells.toList ++ (swC ws v n).toList.drop (0+(wsV ws').cells.size)).toArray=swC ws' v n:=by
  rw [hsz]
  unfold swC
  show ((ws.map u32V ++ [v,intV n]).take 0 ++ ws'.map u32V ++ (ws.map u32V ++ [v,intV n]).drop 8).toArray=_
  rw [List.drop_left' (by simp [h8])]
  simp
 rw [← e];exact q2
theorem store_swL {w:World} {B0:Nat} {H:Heap} {I:World->Prop} {id b:Nat} {ws:List UInt32} {v:Value} {n:Int} (h8:ws.length=8) (hst:St tb B0 H I w) (hH:loH H id=swE b ws v n) (n':Int) :
  ∃ w',(storeVar 3 ⟨b,9,none⟩ (intV n')).run Tryz.prog w = .ok () w'/\w.heap.size ≤ w'.heap.size/\St tb B0 ((id,swE b ws v n') :: H) I w':=by
 have ho:=hst.holds id _ hH
 obtain ⟨w',q1,q2,q3,q4⟩:=run_storeAt (P:=Tryz.prog) tk (vok_int n') (o:=9) ho.2 (by show 9+1 ≤ _;unfold swC;simp [h8])
 refine ⟨w',q1,by rw [q4];exact Nat.le_refl _,St_sw hst hH q3 ?_⟩
 have e:((swC ws v n).toList.take 9 ++ (intV n').cells.toList ++ (swC ws v n).toList.drop (9+(intV n').cells.size)).toArray=swC ws v n':=by
  unfold swC
  show ((ws.map u32V ++ [v,intV n]).take 9 ++ [intV n'] ++ (ws.map u32V ++ [v,intV n]).drop (9+1)).toArray=_
  have e1:ws.map u32V ++ [v,intV n]=(ws.map u32V ++ [v]) ++ [intV n]:=by simp
  rw [e1,List.take_left' (by simp [h8]),List.drop_of_length_le (by simp [h8])]
  simp
 rw [← e];exact q2
def rst (z:Option Addr × Nat × Nat):Nat->Option Addr × Nat × Nat
 | 0=>z
 | i+1=>(subA (rst z i).1 64 (rst z i).2.2 1,(rst z i).2.1 - 64,(rst z i).2.2 - 64)
def slZ (z:Option Addr × Nat × Nat):Value:=.slice z.1 z.2.1 z.2.2
theorem rst_len (z:Option Addr × Nat × Nat):∀ i,(rst z i).2.1=z.2.1 - 64*i
 | 0=>rfl
 | i+1=>by show (rst z i).2.1 - 64=_;rw [rst_len z i];omega
theorem rst_cap (z:Option Addr × Nat × Nat):∀ i,(rst z i).2.2=z.2.2 - 64*i
 | 0=>rfl
 | i+1=>by show (rst z i).2.2 - 64=_;rw [rst_cap z i];omega
abbrev blkZ (z:Option Addr × Nat × Nat) (i:Nat):EV:=slE (rst z i).1 64 (rst z i).2.2
theorem V.OpGo.storeX {P:Program} {tb:TT} {B0 n:Nat} {env:SEnv} {H:Heap} {m:Nat} {I:World->Prop} {T:TypeId} {x y:Operand} {ty:TypeId} {ps:String} {af:Array Edge} {gd:Option (Nat × Bool)} {ex ey:EV} {p:Addr} {H':Heap} {I':World->Prop} (hx:evE env x=some ex) (hxp:ex.v = .pointer (some p)) (hy:evE env y=some ey)
  (hv:∀ w,w.heap.size=m->St tb B0 H I w->∃ w',(storeVar T p ey.v).run P w = .ok () w'/\w.heap.size ≤ w'.heap.size/\St tb B0 H' I' w') :
  OpGo P tb B0 n ⟨none,.store T x y,ty,ps,af,gd⟩ env H m I (λ_:Unit=>env) (λ_=>H') (λ_=>I'):=by
 intro w a hm hst ha
 obtain ⟨w',h1,h2,h3⟩:=hv w hm hst
 unfold Oper.wp
 have:(execOp a.eval ⟨none,.store T x y,ty,ps,af,gd⟩).run P w = .ok .skip w':=by
  simp [execOp,Instr.storeAt,ev_run ha hx,ev_run ha hy,hxp,Instr.sureAddr,h1]
 rw [this]
 exact ⟨(),ha,by rw [← hm];exact h2,h3⟩
abbrev bxE (bx b:Nat):Option HE:=some (.box bx [.val (.pointer (some ⟨b,0,none⟩))] 310)
theorem blocks1_spec (bx b:Nat) (z:Option Addr × Nat × Nat) (hc:z.2.1 ≤ z.2.2) (hn:z.2.1 ≤ 2000000) :
  IterB Tryz.prog tb 260 (λY=>[Y,.pointer (some ⟨bx,0,none⟩)]) [(0,bxE bx b)] [(0,bxE bx b)] (z.2.1 / 64) (λi=>[blkZ z i].map EV.v) 22 ⟨b,8,none⟩ (λi=>slZ (rst z i)):=by
 refine IterB.enter (n:=31) (enc:=λi=>[blkZ z i]) (λl=>[(0,.av (.val (.func (.yield l) #[] #[]))),(1,.av (.box 0 bx 0))]) Tryz.func260 rfl Tryz.ntmps260 (λ_=>rfl) (λ_=>rfl) 1 ?_
 intro α σ B0 l m Z Y Zs hget hput hY x
 refine RH.a [] ?_
 refine RH.loop (α:=Nat × α) (λy=>[(0,.av (.val (.func (.yield l) #[] #[]))),(1,.av (.box 0 bx 0))]) (λ_=>[(0,bxE bx b)]) (λy u=>y.1 ≤ z.2.1 / 64/\Z y.1 y.2 u) (λy=>z.2.1 / 64 - y.1) (0,x) rfl rfl (λw hw=>⟨Nat.zero_le _,hw⟩) ?_
 rintro ⟨i,x⟩ m2
 refine RH.pure (λw h=>h.1) λ(hi:i ≤ z.2.1 / 64)=>?_
 have hld:∀ (Hg:Heap) (I':World->Prop) w,(∀ u,I' u->Z i x u)->St tb B0 Hg I' w->(loadVar 22 ⟨b,8,none⟩).run Tryz.prog w = .ok (slZ (rst z i)) w:=λHg I' w h hst=>hget i x Hg w hi (hst.mono λu _ hu=>h u hu)
 have h1:=rst_len z i
 have h2:=rst_cap z i
 refine RH.a [] ?_
 refine RH.loadS (slE (rst z i).1 (rst z i).2.1 (rst z i).2.2) rfl rfl rfl rfl (λw hst=>hld _ _ w (λu hu=>hu.2) hst) ?_
 by_cases hlt:i < z.2.1 / 64
 ·have hge:64 ≤ (rst z i).2.1:=by rw [h1];omega
  have hcc:64 ≤ (rst z i).2.2:=by rw [h2];omega
  refine RH.a [true] ?_
  refine RH.loadS (slE (rst z i).1 (rst z i).2.1 (rst z i).2.2) rfl rfl rfl rfl (λw hst=>hld _ _ w (λu hu=>hu.2) hst) ?_
  refine RH.a [] ?_
  refine RH.w [(0,bxE bx b)] 11 ?_
  refine RD.a [] ?_
  refine RD.loadG (by kernel_rfl) (i:=5) (slE (rst z i).1 (rst z i).2.1 (rst z i).2.2) rfl rfl rfl rfl rfl rfl (λw hst=>hld _ _ w (λu hu=>hu.2) hst) ?_
  refine RD.a [] ?_
  refine RD.last (i:=10) rfl (by kernel_rfl) rfl (by kernel_rfl) (OpGo.storeX (H':=[(0,bxE bx b)]) (I':=λu=>i ≤ z.2.1 / 64/\Y i x u) rfl rfl rfl (λw _ hst=>?_)) 1 (by kernel_rfl) ?_
  ·obtain ⟨w',e1,e2,e3⟩:=hput i x [(0,bxE bx b)] w hlt (hst.mono λu _ hu=>hu.2)
   exact ⟨w',e1,e2,e3.mono λu _ hu=>⟨hi,hu⟩⟩
  rintro ⟨⟩ m3 hm3
  refine RH.a [] ?_
  refine RH.yield (It:=λy u=>i < z.2.1 / 64/\Z (i+1) y u) (If:=λy u=>Zs i y u) rfl rfl rfl rfl rfl (λw hst=>?_) ?_ ?_
  ·refine (hY i hlt x _ w (hst.mono λu _ hu=>hu.2)).mono ?_
   rintro b' w' ⟨e1,e2⟩
   refine ⟨e1,?_⟩
   rcases e2 with ⟨rfl,y,hy⟩|e2
   ·exact .inl ⟨rfl,y,hy.mono λu _ hu=>⟨hlt,hu⟩⟩
   ·exact .inr e2
  ·intro y m4 hm4
   refine RH.a [] ?_
   exact RH.again (i+1,y) (.head _) rfl rfl (by show z.2.1 / 64 - (i+1) < z.2.1 / 64 - i;omega) λw h=>⟨h.1,h.2⟩
  ·intro y m4 hm4
   refine RH.a [] ?_
   exact RH.ret0 Tryz.func260 rfl λw hst=>⟨⟨_,rfl⟩,.inr ⟨i,_,y,hlt,hst⟩⟩
 ·have hlt64:¬ 64 ≤ (rst z i).2.1:=by rw [h1];omega
  have hi':i=z.2.1 / 64:=by omega
  subst hi'
  refine RH.a [false] ?_
  refine RH.fin0 Tryz.func260 rfl λw hst=>⟨⟨_,rfl⟩,.inl ⟨x,hst.mono λu _ hu=>hu.2⟩⟩
theorem blocks_spec (b:Nat):Does Tryz.prog tb 207 [.pointer (some ⟨b,0,none⟩)] [] (λ_=>True) (λbx:Nat=>.func (.func 260) #[] #[.pointer (some ⟨bx,0,none⟩)]) (λbx=>[(0,bxE bx b)]) (λ_ _ _=>True):=by
 refine Does.enter tk [(0,.av (.val (.pointer (some ⟨b,0,none⟩))))] Tryz.func207 rfl Tryz.ntmps207 rfl rfl 0 ?_
 intro B0 m0 K
 refine RH.a [] ?_
 refine RH.ret1 Tryz.func207 rfl rfl λw hst=>⟨m0,rfl,hst.out [] rfl rfl λu h=>⟨h.1,trivial⟩⟩
theorem rst_sl {w:World} {z:Option Addr × Nat × Nat} {l:List UInt8} (h:Sl kBy w z.1 z.2.2 l):∀ i,64*i ≤ l.length->Sl kBy w (rst z i).1 (rst z i).2.2 (l.drop (64*i))
 | 0,_=>h
 | i+1,hi=>by
  have h1:=Sl.drop (rst_sl h i (by omega)) 64 (by rw [List.length_drop];omega)
  rw [List.drop_drop] at h1
  exact h1
def blocksW (ws:List UInt32) (all:List UInt8) (n:Nat):List UInt32:=iterN (λi h=>takenW h ((all.drop (64*i)).take 64)) n ws
theorem blocksW_succ (ws:List UInt32) (all:List UInt8) (i:Nat):takenW (blocksW ws all i) ((all.drop (64*i)).take 64)=blocksW ws all (i+1):=by unfold blocksW;rw [iterN]
theorem blocksW_len {ws:List UInt32} (all:List UInt8) (n:Nat) (h8:ws.length=8):(blocksW ws all n).length=8 :=
 iterN_inv (p:=λ(x:List UInt32)=>x.length=8) (λi x hx=>takenW_len _ hx) n ws h8
def tailB (all:List UInt8):List UInt8:=all.drop (64*(all.length / 64))
section
variable {f:Fr} {n:Nat} {S:Stops} {R:Ending->World->Prop} {B0:Nat} {I:World->Prop} {H:Heap} {nx m:Nat} {env:SEnv} {k:List Item} {ops:Array Oper} {i:Nat} {l:List Bool} {G0:Heap} {I0:World->Prop} {ty:TypeId} {ps:String} {af:Array Edge} {gd:Option (Nat × Bool)} {px y:Operand} {pa:Addr} {ey:EV} {id b:Nat} {ws:List UInt32} {v:Value} {ln:Int}
theorem V.RD.lastR {A:Option Addr} {q c:Nat} (h8:ws.length=8)
  (ho:ops.toList[i]? = some ⟨none,.store 22 px y,ty,ps,af,gd⟩) (hr:Region.ready .any ops l.toArray=[i]) (hw:wantE env ops gd = .yes) (hf:finB ops i=true) (hl:Region.ready .any ops (l.set i true).toArray=[]) (hx:ptrE (evE env px)=some pa) (hy:evE env y=some ey) (hH:loH H id=swE b ws v ln) (hp:pa=⟨b,8,none⟩) (hv:ey.v = .slice A q c)
  (hk:∀ m',m ≤ m'->RH Tryz.prog f n tb B0 S R k env ((id,swE b ws (.slice A q c) ln) :: H) nx m' I):RD Tryz.prog f n tb B0 S R k ops G0 I0 (0+1) l env H nx m I :=
 RD.lastS _ ho hr hw hf hl hx hy (λw _ hst=>by rw [hv,hp];exact store_swR h8 hst hH A q c) hk
theorem V.RD.lastSW (h8:ws.length=8) (ws':List UInt32) (h8':ws'.length=8)
  (ho:ops.toList[i]? = some ⟨none,.store 226 px y,ty,ps,af,gd⟩) (hr:Region.ready .any ops l.toArray=[i]) (hw:wantE env ops gd = .yes) (hf:finB ops i=true) (hl:Region.ready .any ops (l.set i true).toArray=[]) (hx:ptrE (evE env px)=some pa) (hy:evE env y=some ey) (hH:loH H id=swE b ws v ln) (hp:pa=⟨b,0,none⟩) (hv:ey.v=wsV ws')
  (hk:∀ m',m ≤ m'->RH Tryz.prog f n tb B0 S R k env ((id,swE b ws' v ln) :: H) nx m' I):RD Tryz.prog f n tb B0 S R k ops G0 I0 (0+1) l env H nx m I :=
 RD.lastS _ ho hr hw hf hl hx hy (λw _ hst=>by rw [hv,hp];exact store_swW h8 hst hH ws' h8') hk
end
theorem put_spec (b:Nat) (ws:List UInt32) (h8:ws.length=8) (A:Option Addr) (c:Nat) (ln:Int) (rest:List UInt8) (Bb:Option Addr) (cb:Nat) (bytes:List UInt8) (hn:rest.length+bytes.length ≤ 1000000) :
  Does Tryz.prog tb 141 [.pointer (some ⟨b,0,none⟩),.slice Bb bytes.length cb] [(0,swE b ws (.slice A rest.length c) ln),(1,rowE kBy A c rest)] (λu=>Glob u/\Sl kBy u Bb cb bytes) (λ_:Option Addr × Nat=>.tuple #[])
   (λy=>[(0,swE b (blocksW ws (rest ++ bytes) ((rest ++ bytes).length / 64)) (.slice y.1 (tailB (rest ++ bytes)).length y.2) ln),(1,rowE kBy y.1 y.2 (tailB (rest ++ bytes)))]) (λ_ _ _=>True):=by
 have hl:lim=140737488351232:=rfl
 refine Does.enter tk [(0,.av (.val (.pointer (some ⟨b,0,none⟩)))),(1,slE Bb bytes.length cb)] Tryz.func141 rfl Tryz.ntmps141 rfl rfl 2 ?_
 intro B0 m0 K
 refine RH.a [] ?_
 refine RH.w [(0,swE b ws (.slice A rest.length c) ln),(2,bxE m0 b)] 13 ?_
 refine RD.a [] ?_
 refine RD.loadG (by kernel_rfl) (i:=5) (slE A rest.length c) rfl rfl rfl rfl rfl rfl (λu hu=>load_swR (hu.holds 0 _ rfl).2 h8) ?_
 refine RD.a [] ?_
 refine RD.step tk (i:=7) rfl (by kernel_rfl) rfl rfl rfl (by simp;try exact ⟨rfl,rfl⟩) rfl (λ_ h=>h) ⟨rfl,rfl⟩ ?_
 refine RD.a [] ?_
 have hall:[(⟨A,c,rest⟩:Row UInt8),⟨Bb,cb,bytes⟩].flatMap Row.l=rest ++ bytes:=by simp
 have hCc:=Concat_spec (some ⟨m0+1,0,none⟩) 2 [(⟨A,c,rest⟩:Row UInt8),⟨Bb,cb,bytes⟩] (by unfold lenS;simp;omega)
 rw [hall] at hCc
 generalize hae:rest ++ bytes=all at *
 refine RD.dd 8 [] 5 (λy:Option Addr × Nat=>rowS 4 y.1 all.length y.2) rfl rfl rfl Tryz.call115 hCc (λu hu=>⟨Sl.own (B:=B0) (hu.row (κ:=kSli) (l:=[(A,rest.length,c),(Bb,bytes.length,cb)]) (id:=3) rfl) (by simp [hl]),?_⟩) ?_
 ·intro r hr
  have hr:r=⟨A,c,rest⟩ ∨ r=⟨Bb,cb,bytes⟩:=by simpa using hr
  rcases hr with rfl|rfl
  ·exact Sl.own (B:=B0) (hu.row (κ:=kBy) (l:=rest) (id:=1) rfl) (by show rest.length ≤ lim;omega)
  ·exact hu.fact.2.2
 rintro ⟨A',c'⟩ m1 hm1
 refine RD.a [] ?_
 have hal:all.length ≤ 1000000:=by rw [← hae,List.length_append];omega
 refine RD.lastR (i:=12) (id:=0) (A:=A') (q:=all.length) (c:=c') h8 rfl (by kernel_rfl) rfl (by kernel_rfl) (by kernel_rfl) rfl rfl rfl rfl rfl ?_
 intro m2 hm2
 refine RH.a [] ?_
 refine RH.dd [] 6 (λbx:Nat=>.av (.val (.func (.func 260) #[] #[.pointer (some ⟨bx,0,none⟩)]))) rfl rfl rfl Tryz.call207 (blocks_spec b) (λ_ _=>trivial) ?_
 rintro bx m3 hm3
 refine RH.drop ?_
 refine RH.a [] ?_
 generalize hze:((A',all.length,c'):Option Addr × Nat × Nat)=z at *
 have hz1:z.1=A':=by rw [← hze]
 have hz2:z.2.1=all.length:=by rw [← hze]
 have hz3:z.2.2=c':=by rw [← hze]
 refine RH.tell [(2,.av (.box 2 m0 0)),(18,.av (.val (.func (.func 260) #[] #[.pointer (some ⟨bx,0,none⟩)])))]
  [(0,swE b ws (slZ (rst z 0)) ln),(2,bxE m0 b),(4,rowE kBy A' c' all),(5,bxE bx b)] [] rfl (by rw [← hze];rfl) rfl 6 ?_
 refine RH.pureS (λw hst=>own_cap (hst.row (κ:=kBy) (id:=4) (l:=all) rfl)) λhcap=>?_
 refine RH.defs0 ?_
 have hw8:=λi=>blocksW_len (ws:=ws) all i h8
 have hN:z.2.1 / 64=all.length / 64:=by rw [hz2]
 refine RH.rangeFuncB (σ:=Empty) (α:=Unit) (nx:=6) (enc:=λi=>[blkZ z i]) rfl rfl (λxs w=>Tryz.call260 xs w) (blocks1_spec bx b z (by omega) (by omega)) (λ_=>rfl) rfl [(0,5)] (λ_ _ _=>rfl) rfl
  [(2,.av (.box 2 m0 0))] rfl (λu=>K u/\Glob u) (λw h=>h.mono λ_ _ h=>⟨h.1.1,h.1.2.1⟩)
  (λi _=>[(0,swE b (blocksW ws all i) (slZ (rst z i)) ln),(2,bxE m0 b),(4,rowE kBy A' c' all)])
  (λi _=>[(0,swE b (blocksW ws all i) (slZ (rst z (i+1))) ln),(2,bxE m0 b),(4,rowE kBy A' c' all)])
  (λ_ _=>True) () trivial (λ_ _ _=>rfl) (λl t D i x F w hi _ hst=>load_swR (hst.holds 0 _ rfl).2 (hw8 i))
  (λl t D i x F w hi _ hst=>by
   obtain ⟨w',e1,e2,e3⟩:=store_swR (hw8 i) hst (id:=0) rfl (rst z (i+1)).1 (rst z (i+1)).2.1 (rst z (i+1)).2.2
   exact ⟨w',e1,e2,e3.out [] rfl rfl λ_ h=>h⟩) (λ_ x=>x.elim) (λ_ x=>x.elim) .ret ?_ 8 ?_ (λ_ _ x=>x.elim)
 ·intro i hi x _ l D tt Kg m5 hKg
  have hi64:64*i+64 ≤ all.length:=by omega
  have hb64:((all.drop (64*i)).take 64).length=64:=by rw [List.length_take,List.length_drop];omega
  have hnext:takenW (blocksW ws all i) ((all.drop (64*i)).take 64)=blocksW ws all (i+1):=blocksW_succ ws all i
  have hl0:=hw8 i
  have hl1:=hw8 (i+1)
  dsimp only
  generalize hW0:blocksW ws all i=W0 at *
  generalize hW1:blocksW ws all (i+1)=W1 at *
  refine RH.a [] ?_
  refine RH.beginRound (id:=6) rfl rfl ?_
  refine RH.a [] ?_
  refine RH.w [(0,swE b W0 (slZ (rst z (i+1))) ln),(2,bxE m0 b)] 12 ?_
  refine RD.a [] ?_
  refine RD.loadG (by kernel_rfl) (i:=5) (.av (.val (wsV W0))) rfl rfl rfl rfl rfl rfl (λu hu=>load_swW (hu.holds 0 _ rfl).2 hl0) ?_
  refine RD.a [] ?_
  refine RD.gv 7 (.av (.val (wsV W1))) rfl rfl rfl Tryz.call208 (λu hu=>by
   have hS:=Sl.take (rst_sl (z:=z) (by rw [hz1,hz3];exact Sl.own (B:=B0) (hu.row (κ:=kBy) (id:=4) (l:=all) rfl) (by omega)) i (by omega)) 64 (by rw [List.length_drop];omega)
   have:=taken_spec u (hKg u hu.fact).2 W0 hl0 (rst z i).1 (rst z i).2.2 _ hS hb64
   rw [hb64,hnext] at this
   exact this) ?_
  intro m6 hm6
  refine RD.a [] ?_
  refine RD.lastSW (i:=11) (id:=0) hl0 W1 hl1 rfl (by kernel_rfl) rfl (by kernel_rfl) (by kernel_rfl) rfl rfl rfl rfl rfl ?_
  intro m7 hm7
  refine RH.a [] ?_
  refine RH.leave .fin λw hst=>⟨(),trivial,hst.out [] rfl rfl λu h=>h⟩
 ·intro _ D m5 _
  rw [hN]
  have hq2:(rst z (all.length / 64)).2.1=(tailB all).length:=by
   rw [rst_len,hz2];unfold tailB;rw [List.length_drop]
  have hqs:∀ w,Sl kBy w z.1 z.2.2 all->Sl kBy w (rst z (all.length / 64)).1 (rst z (all.length / 64)).2.2 (tailB all):=λw h=>rst_sl h _ (by omega)
  generalize rst z (all.length / 64)=q at *
  obtain ⟨q1,q2,q3⟩:=q
  dsimp only at hq2 hqs
  subst hq2
  have hWl:=hw8 (all.length / 64)
  have htl:(tailB all).length ≤ 1000000:=by unfold tailB;rw [List.length_drop];omega
  generalize blocksW ws all (all.length / 64)=Wn at *
  refine RH.a [] ?_
  refine RH.w [(0,swE b Wn (slV q1 (tailB all).length q3) ln),(2,bxE m0 b)] 11 ?_
  refine RD.a [] ?_
  refine RD.loadG (by kernel_rfl) (i:=5) (slE q1 (tailB all).length q3) rfl rfl rfl rfl rfl rfl (λu hu=>load_swR (hu.holds 0 _ rfl).2 hWl) ?_
  refine RD.a [] ?_
  refine RD.dd 6 [] 9 (λy:Option Addr × Nat=>rowS 8 y.1 (tailB all).length y.2) rfl rfl rfl Tryz.call90 (cloneB q1 q3 (tailB all) (by omega)) (λu hu=>hqs u (by rw [hz1,hz3];exact Sl.own (B:=B0) (hu.row (κ:=kBy) (id:=4) (l:=all) rfl) (by omega))) ?_
  rintro ⟨A2,c2⟩ m6 hm6
  refine RD.a [] ?_
  refine RD.lastR (i:=10) (id:=0) (A:=A2) (q:=(tailB all).length) (c:=c2) hWl rfl (by kernel_rfl) rfl (by kernel_rfl) (by kernel_rfl) rfl rfl rfl rfl rfl ?_
  intro m7 hm7
  refine RH.a [] ?_
  refine RH.facts (Def tb B0 [D] (λu=>K u/\Glob u)) (λu h=>h.1) ?_
  refine RH.finD0 Tryz.func141 rfl λw hst=>⟨(A2,c2),rfl,hst.out [(0,0),(1,8)] rfl rfl λu h=>⟨h.1,trivial⟩⟩
theorem load_beg {w:World} (h:Glob w):(loadVar 226 ⟨0,0,none⟩).run Tryz.prog w = .ok (wsV beginW) w :=
 V.run_load tk (vok_w8 rfl) h.beg
abbrev newE:EV:=.st [.val (wsV beginW),.val (.slice none 0 0),.val (intV 0)]
theorem New_spec (w:World) (hG:Glob w):Gives Tryz.prog 140 [] w newE:=by
 refine enterH tk [] Tryz.func140 rfl Tryz.ntmps140 rfl rfl ?_
 refine RH.adv tk [] rfl rfl ?_ ?_
 ·first|exact ⟨⟨rfl,List.all_eq_true.1 (by kernel_rfl)⟩,trivial⟩|trivial
 refine RH.load (.av (.val (wsV beginW))) rfl rfl rfl rfl (λw' h'=>load_beg (hG.ext h')) ?_
 refine RH.adv tk [] rfl rfl ?_ ?_
 ·first|exact ⟨⟨rfl,List.all_eq_true.1 (by kernel_rfl)⟩,trivial⟩|trivial
 exact RH.retBox tk newE Tryz.func140 rfl rfl rfl rfl λw' hst=>⟨rfl,hst.fact⟩
def bsC (l:List UInt8):Array Value:=(l.map u8V).toArray
abbrev bsE (b:Nat) (l:List UInt8):Option HE:=some (.obj b (.cells (bsC l) 40))
theorem vok_b (x:UInt8):VOk tb 5 (u8V x):=⟨rfl,Tryz.t5,rfl,rfl⟩
theorem bsC_set (l:List UInt8) (i:Nat) (hi:i < l.length) (x:UInt8):((bsC l).toList.take i ++ [u8V x] ++ (bsC l).toList.drop (i+1)).toArray=bsC (l.set i x):=by
 unfold bsC
 rw [List.map_set,List.set_eq_take_append_cons_drop,if_pos (by simpa using hi)]
 simp
theorem V.St.storeB {w:World} {B0:Nat} {H:Heap} {I:World->Prop} {id b:Nat} {l:List UInt8} (hst:St tb B0 H I w) (hH:loH H id=bsE b l) {i:Nat} (hi:i < l.length) (x:UInt8) :
  ∃ w',(storeVar 5 ⟨b,i*1,none⟩ (u8V x)).run Tryz.prog w = .ok () w'/\w.heap.size ≤ w'.heap.size/\St tb B0 ((id,bsE b (l.set i x)) :: H) I w':=by
 have ho:=hst.holds id _ hH
 obtain ⟨w',q1,q2,q3,q4⟩:=run_storeAt (P:=Tryz.prog) tk (vok_b x) (o:=i*1) ho.2 (by show i*1+1 ≤ _;unfold bsC;simp;omega)
 refine ⟨w',q1,by rw [q4];exact Nat.le_refl _,?_⟩
 rw [Nat.mul_one] at q2
 have e:=bsC_set l i hi x
 have q2':w'.heap[b]? = some (.cells (bsC (l.set i x)) 40 (0,0)):=by rw [← e];exact q2
 exact hst.turn (w':=w') id _ (.obj b (.cells (bsC (l.set i x)) 40)) hH (q3.mono λj _ hj=>by rw [hj];rfl) ⟨ho.1,q2'⟩ λj hj=>.inl hj
theorem V.RH.storeB {f:Fr} {n:Nat} {S:Stops} {R:Ending->World->Prop} {B0:Nat} {I:World->Prop} {H:Heap} {nx m:Nat} {env:SEnv} {k:List Item} {ops:Array Oper} {i:Nat} {rs:List Nat} {ty:TypeId} {ps:String} {af:Array Edge} {gd:Option (Nat × Bool)} {px y:Operand} {pa:Addr} {ey:EV} {id b:Nat} {l:List UInt8} (j:Nat) (x:UInt8)
  (ho:ops.toList[i]? = some ⟨none,.store 5 px y,ty,ps,af,gd⟩) (hw:wantE env ops gd = .yes) (hx:ptrE (evE env px)=some pa) (hy:evE env y=some ey) (hH:loH H id=bsE b l) (hj:j < l.length) (hp:pa=⟨b,j*1,none⟩) (hv:ey.v=u8V x)
  (hk:∀ m',m ≤ m'->RH Tryz.prog f n tb B0 S R (.inRegion ops rs :: k) env ((id,bsE b (l.set j x)) :: H) nx m' I):RH Tryz.prog f n tb B0 S R (.inRegion ops (i :: rs) :: k) env H nx m I :=
 RH.storeS _ ho hw hx hy (λw _ hst=>by rw [hv,hp];exact hst.storeB hH hj x) hk
def padN (r:Nat):Nat:=(119 - r % 64) % 64
def padZ (j:Nat):List UInt8:=128 :: List.replicate j 0
def byteL (L:Nat) (t:Nat):UInt8:=UInt8.ofNat (8*L / 2 ^ (56 - 8*t))
def lensL (L:Nat) (t:Nat):List UInt8:=(List.range t).map (byteL L)
def padB (r L:Nat):List UInt8:=padZ (padN r) ++ lensL L 8
def byteW (ws:List UInt32) (i:Nat):UInt8:=UInt8.ofNat ((gW ws (i / 4)).toNat / 2 ^ (24 - i % 4*8))
def outB (ws:List UInt32) (i:Nat):List UInt8:=iterN (λi l=>l.set i (byteW ws i)) i (List.replicate 32 0)
theorem outB_len (ws:List UInt32) (i:Nat):(outB ws i).length=32 :=
 iterN_inv (p:=λ(x:List UInt8)=>x.length=32) (λn x h=>by rw [List.length_set];exact h) i _ (by rw [List.length_replicate])
def digW (ws:List UInt32):Sum:=⟨outB ws 32,outB_len ws 32⟩
def endW (ws:List UInt32) (rest:List UInt8) (L:Nat):Sum:=digW (blocksW ws (rest ++ padB rest.length L) ((rest ++ padB rest.length L).length / 64))
theorem padN_lt (r:Nat):padN r < 64:=Nat.mod_lt _ (by decide)
theorem padN_at (r j:Nat) (h:j < padN r):(r+(1+j)) % 64 ≠ 56:=by unfold padN at h;omega
theorem padN_end (r:Nat):(r+(1+padN r)) % 64=56:=by unfold padN;omega
theorem padZ_len (j:Nat):(padZ j).length=1+j:=by unfold padZ;simp;omega
theorem padZ_snoc (j:Nat):padZ j ++ [0]=padZ (j+1):=by unfold padZ;rw [List.cons_append,← List.replicate_succ']
theorem lensL_snoc (L t:Nat):lensL L t ++ [byteL L t]=lensL L (t+1):=by unfold lensL;rw [List.range_succ,List.map_append];rfl
theorem byte_raw (L t:Nat) (ht:t < 8):((8*(L:Int)).fdiv (2 ^ (min ((56:Int) - 8*t).toNat IntKind.u64.bits))) % 256=((byteL L t).toNat:Int):=by
 have e:((56:Int) - 8*t).toNat=56 - 8*t:=by omega
 unfold byteL
 rw [e,show min (56 - 8*t) IntKind.u64.bits=56 - 8*t from Nat.min_eq_left (by show _ ≤ 64;omega),Int.fdiv_eq_ediv_of_nonneg _ (Int.le_of_lt (Int.pow_pos (by decide))),UInt8.toNat_ofNat',Int.natCast_emod,Int.natCast_ediv,Int.natCast_mul,Int.natCast_pow]
 rfl
theorem byteW_raw (ws:List UInt32) (i:Nat):(((gW ws (i / 4)).toNat:Int).fdiv (2 ^ (min ((24:Int) - (i:Int) % 4*8).toNat IntKind.u32.bits))) % 256=((byteW ws i).toNat:Int):=by
 have e:((24:Int) - (i:Int) % 4*8).toNat=24 - i % 4*8:=by omega
 unfold byteW
 rw [e,show min (24 - i % 4*8) IntKind.u32.bits=24 - i % 4*8 from Nat.min_eq_left (by show _ ≤ 32;omega),Int.fdiv_eq_ediv_of_nonneg _ (Int.le_of_lt (Int.pow_pos (by decide))),UInt8.toNat_ofNat',Int.natCast_emod,Int.natCast_ediv,Int.natCast_pow]
 rfl
theorem end_spec (b:Nat) (ws:List UInt32) (h8:ws.length=8) (A:Option Addr) (c:Nat) (L:Nat) (rest:List UInt8) (hL:L ≤ 1000000) (hn:rest.length < 64) :
  Does Tryz.prog tb 142 [.pointer (some ⟨b,0,none⟩)] [(0,swE b ws (.slice A rest.length c) L),(1,rowE kBy A c rest)] (λu=>Glob u) (λ_:Unit=>sumV (endW ws rest L)) (λ_=>[]) (λ_ _ _=>True):=by
 have hl:lim=140737488351232:=rfl
 refine Does.enter tk [(0,.av (.val (.pointer (some ⟨b,0,none⟩))))] Tryz.func142 rfl Tryz.ntmps142 rfl rfl 2 ?_
 intro B0 m0 K
 refine RH.adv tk [] rfl rfl ?_ ?_
 ·first|exact ⟨⟨rfl,List.all_eq_true.1 (by kernel_rfl)⟩,trivial⟩|(simp;done)
 refine RH.boxObj (id:=2) (bsC (outB ws 0)) rfl (by show boxCells [.val (.agg (bsC (List.replicate 32 0)))]=_;unfold boxCells;simp [flat,AV.v,Value.cells];rfl) ?_
 have hpn:=padN_lt rest.length
 refine RH.loop (α:=Nat × (Option Addr × Nat)) (λy=>[(0,.av (.val (.pointer (some ⟨b,0,none⟩)))),(2,.av (.box 2 m0 0)),(3,rowS 3 y.2.1 (padZ y.1).length y.2.2)]) (λy=>[(0,swE b ws (.slice A rest.length c) L),(1,rowE kBy A c rest),(2,bsE m0 (outB ws 0)),(3,rowE kBy y.2.1 y.2.2 (padZ y.1))])
  (λy u=>(K u/\Glob u)/\y.1 ≤ padN rest.length) (λy=>padN rest.length - y.1) (0,(some ⟨m0+1,0,none⟩,1)) rfl rfl (λu hu=>⟨hu,Nat.zero_le _⟩) ?_
 rintro ⟨j,A2,c2⟩ m2
 refine RH.pure (λu hu=>hu.2) λhj=>?_
 dsimp only at hj ⊢
 have hpl:=padZ_len j
 refine RH.a [] ?_
 refine RH.loadS (slE A rest.length c) rfl rfl rfl rfl (λu hu=>load_swR (hu.holds 0 _ rfl).2 h8) ?_
 by_cases hlt:j < padN rest.length
 ·have hne:=padN_at rest.length j hlt
  rw [hpl]
  refine RH.a [true] ?_
  refine RH.apK (κ:=kBy) (id:=3) (l:=padZ j) (r:=[0]) rfl rfl rfl rfl hpl.symm rfl elt_byte rfl rfl (λu hu=>hu.liR (κ:=kBy) (l:=[0]) (id:=4) rfl (by simp [hl])) (by simp;omega) (by simp;omega) ?_
  intro A3 c3 m3 hm3
  rw [padZ_snoc]
  refine RH.a [] ?_
  exact RH.again (j+1,(A3,c3)) (.head _) rfl rfl (by show padN rest.length - (j+1) < padN rest.length - j;omega) λu hu=>⟨hu.1,hlt⟩
 ·have hj':j=padN rest.length:=by omega
  subst hj'
  have heq:=padN_end rest.length
  rw [hpl]
  refine RH.a [false] ?_
  refine RH.loadS (intE L) rfl rfl rfl rfl (λu hu=>load_swL (hu.holds 0 _ rfl).2 h8) ?_
  refine RH.a [] ?_
  have e1:((8:Int)*((L:Int) % 18446744073709551616)) % 18446744073709551616=8*(L:Int):=by omega
  rw [e1]
  rw [← hpl]
  generalize hP0:padZ (padN rest.length)=P0 at *
  have hP:P0.length ≤ 64:=by omega
  have hll:∀ t,(lensL L t).length=t:=λt=>by unfold lensL;simp
  have hpb:padB rest.length L=P0 ++ lensL L 8:=by unfold padB;rw [hP0]
  have hpb64:(P0 ++ lensL L 8).length ≤ 100:=by rw [List.length_append,hll];omega
  refine RH.loop (α:=Nat × (Option Addr × Nat)) (λy=>[(0,.av (.val (.pointer (some ⟨b,0,none⟩)))),(2,.av (.box 2 m0 0)),(3,rowS 3 y.2.1 (P0 ++ lensL L y.1).length y.2.2),(4,.av (.val (.int .u64 (8*(L:Int))))),(5,intE (56 - 8*(y.1:Int)))]) (λy=>[(0,swE b ws (.slice A rest.length c) L),(1,rowE kBy A c rest),(2,bsE m0 (outB ws 0)),(3,rowE kBy y.2.1 y.2.2 (P0 ++ lensL L y.1))])
   (λy u=>(K u/\Glob u)/\y.1 ≤ 8) (λy=>8 - y.1) (0,(A2,c2)) (by show V.Sub [(0,.av (.val (.pointer (some ⟨b,0,none⟩)))),(2,.av (.box 2 m0 0)),(3,rowS 3 A2 (P0 ++ []).length c2),(4,.av (.val (.int .u64 (8*(L:Int))))),(5,intE (56 - 8*((0:Nat):Int)))] _;rw [List.append_nil];rfl) (by show SubH [(0,swE b ws (.slice A rest.length c) L),(1,rowE kBy A c rest),(2,bsE m0 (outB ws 0)),(3,rowE kBy A2 c2 (P0 ++ []))] _;rw [List.append_nil];rfl) (λu hu=>⟨hu.1,Nat.zero_le _⟩) ?_
  rintro ⟨t,A3,c3⟩ m3
  refine RH.pure (λu hu=>hu.2) λht=>?_
  dsimp only at ht ⊢
  by_cases hlt2:t < 8
  ·refine RH.a [true] ?_
   rw [byte_raw L t hlt2]
   have hl1:=hll t
   refine RH.apK (κ:=kBy) (id:=3) (l:=P0 ++ lensL L t) (r:=[byteL L t]) rfl rfl rfl rfl rfl rfl elt_byte rfl rfl (λu hu=>hu.liR (κ:=kBy) (l:=[byteL L t]) (id:=4) rfl (by simp [hl])) (by rw [List.length_append,hll];simp;omega) (by rw [List.length_append,hll];simp;omega) ?_
   intro A4 c4 m4 hm4
   rw [List.append_assoc,lensL_snoc]
   refine RH.a [] ?_
   refine RH.again (t+1,(A4,c4)) (.head _) ?_ rfl (by show 8 - (t+1) < 8 - t;omega) λu hu=>⟨hu.1,hlt2⟩
   have e:(56:Int) - 8*((t+1:Nat):Int)=56 - 8*(t:Int) - 8:=by omega
   simp only [e]
   rfl
  ·have ht8:t=8:=by omega
   subst ht8
   refine RH.a [false] ?_
   refine RH.dd [(0,0),(1,1)] 6 (λ_:Option Addr × Nat=>.av (.val (.tuple #[]))) rfl rfl rfl Tryz.call141 (put_spec b ws h8 A c L rest A3 c3 (P0 ++ lensL L 8) (by omega)) (λu hu=>⟨hu.fact.1.2,Sl.own (B:=B0) (hu.row (κ:=kBy) (id:=3) (l:=P0 ++ lensL L 8) rfl) (by omega)⟩) ?_
   rintro ⟨A5,c5⟩ m5 hm5
   refine RH.drop ?_
   have hend:endW ws rest L=digW (blocksW ws (rest ++ (P0 ++ lensL L 8)) ((rest ++ (P0 ++ lensL L 8)).length / 64)):=by unfold endW;rw [hpb]
   rw [hend]
   have hw18:=blocksW_len (ws:=ws) (rest ++ (P0 ++ lensL L 8)) ((rest ++ (P0 ++ lensL L 8)).length / 64) h8
   generalize blocksW ws (rest ++ (P0 ++ lensL L 8)) ((rest ++ (P0 ++ lensL L 8)).length / 64)=W1 at *
   generalize tailB (rest ++ (P0 ++ lensL L 8))=tl at *
   refine RH.a [] ?_
   refine RH.loop (α:=Nat) (λi=>[(0,.av (.val (.pointer (some ⟨b,0,none⟩)))),(2,.av (.box 2 m0 0)),(46,intE i)]) (λi=>[(0,swE b W1 (.slice A5 tl.length c5) L),(2,bsE m0 (outB W1 i))]) (λi u=>K u/\i ≤ 32) (λi=>32 - i) 0 rfl rfl (λu hu=>⟨hu.1.1,Nat.zero_le _⟩) ?_
   intro i m6
   refine RH.pure (λu hu=>hu.2) λhi=>?_
   have hol:=outB_len W1 i
   by_cases hlt3:i < 32
   ·have hnext:(outB W1 i).set i (byteW W1 i)=outB W1 (i+1):=rfl
    refine RH.a [true] ?_
    refine RH.loadS (u32E (gW W1 (i / 4))) rfl rfl rfl rfl (λu hu=>?_) ?_
    ·have h1:=load_swI (hu.holds 0 _ rfl).2 hw18 (i:=i / 4) (by omega)
     have e:(((i:Nat):Int) / 4).toNat=i / 4:=by omega
     rw [← e] at h1
     rw [show gW W1 (i / 4)=gW W1 (((i:Nat):Int) / 4).toNat by rw [e]]
     exact h1
    refine RH.a [] ?_
    refine RH.storeB (id:=2) (l:=outB W1 i) i (byteW W1 i) rfl rfl rfl rfl rfl (by omega) rfl (by unfold u8V;rw [← byteW_raw];rfl) ?_
    intro m7 hm7
    rw [hnext]
    refine RH.a [] ?_
    exact RH.again (i+1) (.head _) rfl rfl (by show 32 - (i+1) < 32 - i;omega) λu hu=>⟨hu.1,hlt3⟩
   ·have hi32:i=32:=by omega
    subst hi32
    refine RH.objBox (id:=2) [.val (sumV (digW W1))] rfl (by unfold boxCells sumV digW bsC;simp [flat,AV.v,Value.cells]) ⟨_,rfl,vok_sum _⟩ ?_
    refine RH.a [false] ?_
    exact RH.retBox tk (.av (.val (sumV (digW W1)))) Tryz.func142 rfl rfl rfl rfl λw hst=>⟨(),rfl,hst.out [] rfl rfl λu h=>⟨h.1,trivial⟩⟩
def shaW (bytes:List UInt8):Sum:=endW (blocksW beginW bytes (bytes.length / 64)) (tailB bytes) bytes.length
theorem tailB_lt (l:List UInt8):(tailB l).length < 64:=by unfold tailB;rw [List.length_drop];omega
theorem V.RH.storeLn {f:Fr} {n:Nat} {S:Stops} {R:Ending->World->Prop} {B0:Nat} {I:World->Prop} {H:Heap} {nx m:Nat} {env:SEnv} {k:List Item} {ops:Array Oper} {i:Nat} {rs:List Nat} {ty:TypeId} {ps:String} {af:Array Edge} {gd:Option (Nat × Bool)} {px y:Operand} {pa:Addr} {ey:EV} {id b:Nat} {ws:List UInt32} {v:Value} {ln:Int} (h8:ws.length=8) (ln':Int)
  (ho:ops.toList[i]? = some ⟨none,.store 3 px y,ty,ps,af,gd⟩) (hw:wantE env ops gd = .yes) (hx:ptrE (evE env px)=some pa) (hy:evE env y=some ey) (hH:loH H id=swE b ws v ln) (hp:pa=⟨b,9,none⟩) (hv:ey.v=intV ln')
  (hk:∀ m',m ≤ m'->RH Tryz.prog f n tb B0 S R (.inRegion ops rs :: k) env ((id,swE b ws v ln') :: H) nx m' I):RH Tryz.prog f n tb B0 S R (.inRegion ops (i :: rs) :: k) env H nx m I :=
 RH.storeS _ ho hw hx hy (λw _ hst=>by rw [hv,hp];exact store_swL h8 hst hH ln') hk
theorem Of_spec (w:World) (hG:Glob w) (A:Option Addr) (c:Nat) (bytes:List UInt8) (hb:Sl kBy w A c bytes) (hn:bytes.length ≤ 1000000):Gives Tryz.prog 78 [.slice A bytes.length c] w (.av (.val (sumV (shaW bytes)))):=by
 have hl:lim=140737488351232:=rfl
 refine enterH tk [(0,slE A bytes.length c)] Tryz.func78 rfl Tryz.ntmps78 rfl rfl ?_
 refine RH.adv tk [] rfl rfl ?_ ?_
 ·first|exact ⟨⟨rfl,List.all_eq_true.1 (by kernel_rfl)⟩,trivial⟩|(simp;done)
 refine RH.gv newE rfl rfl rfl Tryz.call140 (λu hu=>New_spec u (hG.ext hu.fact)) ?_
 intro m1 hm1
 refine RH.adv tk [] rfl rfl ?_ ?_
 ·first|trivial
 refine RH.read (.st [.val (.agg (swC beginW (.slice none 0 0) 0))]) rfl rfl rfl rfl (λu q _ ha=>?_) ?_
 ·have h1:q.eval (.tmp 4)=newE.v:=ev_run (e:=newE) ha rfl
  have hb:(Instr.build 231 #[(0,newE.v)]).run Tryz.prog u = .ok (EV.st [.val (.agg (swC beginW (.slice none 0 0) 0))]).v u:=by
   refine run_build u _ _ _ ?_
   kernel_rfl
  simp only [execOp,List.map_toArray,List.map_cons,List.map_nil,h1,hb,Sem.run_bind,Result.andThen_ok,Sem.run_pure]
 refine RH.adv tk [] rfl rfl ?_ ?_
 ·first|trivial
 refine RH.boxObj (id:=1) (swC beginW (.slice none 0 0) 0) rfl (by unfold boxCells;simp [flat,AV.v,Value.cells]) ?_
 refine RH.storeLn (id:=1) (ws:=beginW) rfl bytes.length rfl rfl rfl rfl rfl rfl rfl ?_
 intro m2 hm2
 refine RH.a [] ?_
 refine RH.nilrow 2 kBy.T kBy.sz 3 ?_
 refine RH.dd [(0,1),(1,2)] 4 (λ_:Option Addr × Nat=>.av (.val (.tuple #[]))) rfl rfl rfl Tryz.call141 (put_spec m1 beginW rfl none 0 bytes.length [] A c bytes (by simpa using hn)) (λu hu=>⟨hG.ext hu.fact,hb.ext hu.fact⟩) ?_
 rintro ⟨A1,c1⟩ m3 hm3
 refine RH.drop ?_
 have hw8:=blocksW_len (ws:=beginW) ([] ++ bytes) (([] ++ bytes).length / 64) rfl
 have hsh:shaW bytes=endW (blocksW beginW ([] ++ bytes) (([] ++ bytes).length / 64)) (tailB ([] ++ bytes)) bytes.length:=rfl
 rw [hsh]
 have htl:=tailB_lt ([] ++ bytes)
 generalize blocksW beginW ([] ++ bytes) (([] ++ bytes).length / 64)=W1 at *
 generalize tailB ([] ++ bytes)=tl at *
 refine RH.a [] ?_
 refine RH.dd [(0,1),(1,2)] 5 (λ_:Unit=>.av (.val (sumV (endW W1 tl bytes.length)))) rfl rfl rfl Tryz.call142 (end_spec m1 W1 hw8 A1 c1 bytes.length tl hn htl) (λu hu=>hG.ext hu.fact) ?_
 rintro ⟨⟩ m4 hm4
 refine RH.drop ?_
 refine RH.a [] ?_
 exact RH.retBox tk (.av (.val (sumV (endW W1 tl bytes.length)))) Tryz.func78 rfl rfl rfl rfl λu hu=>⟨rfl,hu.fact⟩
end Go.Proofs.YtbfjmimiigjenaaGreatDoor
