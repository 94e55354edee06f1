/-
Contracts of functions, and lemmas on them. No condition.
-/
import Derived.Lib.Overlaps
import Derived.Test.YtbfjmimiigjenaaGreatDoorKPS12
import Derived.Test.YtbfjmimiigjenaaGreatDoorKVMake
import Derived.Test.YtbfjmimiigjenaaGreatDoorKVJoin
set_option linter.unusedVariables false
set_option linter.unusedSectionVars false
set_option linter.unusedSimpArgs false
namespace Go.Proofs.YtbfjmimiigjenaaGreatDoor
open Go V
theorem V.RunH.free {P : Program} {f : Fr} {n : Nat} {S : Stops} {R : Ending → World → Prop} {tb : TT} {B0 : Nat} {I : World → Prop} {H : Heap} {nx m : Nat} {env : SEnv} {todo : List Item} {i : Nat} {x : HE} (hx : lookH H i = some x)
    (h : RunH P f n tb B0 S R todo env ((i, none) :: H) nx m (fun u => I u ∧ x.holds tb B0 u)) : RunH P f n tb B0 S R todo env H nx m I :=
  fun w hm hst => h w hm (hst.free hx)
end Go.Proofs.YtbfjmimiigjenaaGreatDoor
namespace Go.Proofs.YtbfjmimiigjenaaGreatDoor
open Go V
theorem op_cap {P : Program} {n : Nat} {env : SEnv} {a : Act} (ha : Agree n a (kn env)) {d : Option Nat} {x : Operand} {T ty e : TypeId} {ps : String} {af : Array Edge} {gd : Option (Nat × Bool)} {ex : EV} {A : Option Addr} {n_ c : Nat} {w : World}
    (hx : evE env x = some ex) (hv : ex.v = .slice A n_ c) (hT : P.underlying T = some (.slice e)) :
    (execOp a.eval ⟨d, .call ⟨.builtin .cap, #[x], #[T]⟩, ty, ps, af, gd⟩).run P w = .ok (.value (intE c).v) w := by
  have hxv : a.eval x = .slice A n_ c := (ev_run ha hx).trans hv
  simp only [execOp, resolve, invoke, builtin, Sem.run_bind, Sem.run_pure, Result.andThen_ok, List.map_toArray, List.map_cons, List.map_nil, hxv, Builtin.cap_]
  simp [run_underlying hT, goInt]
  rfl
end Go.Proofs.YtbfjmimiigjenaaGreatDoor
namespace Go.Proofs.YtbfjmimiigjenaaGreatDoor
open Go V
theorem V.RunD.loadG {P : Program} {f : Fr} {n : Nat} {tb : TT} {B0 : Nat} {S : Stops} {R : Ending → World → Prop} {k : List Item} {ops : Array Oper} {G : Heap} {I0 : World → Prop} {fuel : Nat} {l : List Bool} {env : SEnv} {H : Heap} {nx m : Nat} {I : World → Prop} (hp : pairOk ops = true) {i d : Nat} {T : TypeId} {x : Operand} {ty : TypeId} {ps : String} {af : Array Edge} {gd : Option (Nat × Bool)} {p : Addr} (e : EV) (ho : ops.toList[i]? = some ⟨some d, .load T x, ty, ps, af, gd⟩) (hdn : Nat.blt d n = true) (hw : wantE env ops gd = .yes)
    (hl : l[i]? = some false) (hr : readyE l ⟨some d, .load T x, ty, ps, af, gd⟩ = true) (hx : ptrE (evE env x) = some p) (hv : ∀ w, St tb B0 G I0 w → (loadVar T p).run P w = .ok e.v w)
    (h : RunD P f n tb B0 S R k ops G I0 fuel (l.set i true) ((d, e) :: env) H nx m I) : RunD P f n tb B0 S R k ops G I0 (fuel + 1) l env H nx m I := by
  obtain ⟨ex, h1, h2⟩ := ptrE_ok hx
  rw [Array.getElem?_toList] at ho
  exact RunD.take hp ho rfl (Nat.lt_of_lt_of_le (Nat.lt_succ_self d) (Nat.le_of_ble_eq_true hdn)) hl hr (fun a ha => .inl ⟨wantE_yes (o := ⟨some d, .load T x, ty, ps, af, gd⟩) hw ha, fun w hst => by simp [execOp, Instr.loadAt, ev_run ha h1, h2, Instr.sureAddr, hv w hst]⟩) h
abbrev wkK (k : Int) (b : Nat) (vs vo : Value) : Option HE := wkE b (kA k vs vo) (kA k vo vs)
abbrev wkKG (k : Int) (b : Nat) (ls lo : List Entry) (zs zo : Option Addr × Nat) : Heap :=
  [(0, wkK k b (slV zs.1 ls.length zs.2) (slV zo.1 lo.length zo.2)), (1, rowE kEntry zs.1 zs.2 ls), (2, rowE kEntry zo.1 zo.2 lo)]
end Go.Proofs.YtbfjmimiigjenaaGreatDoor
namespace Go.Proofs.YtbfjmimiigjenaaGreatDoor
open Go V
def u32V (x : UInt32) : Value := .int .u32 x.toNat
abbrev u32E (x : UInt32) : EV := .av (.val (u32V x))
theorem w_add (x y : UInt32) : ((x + y).toNat : Int) = ((x.toNat : Int) + y.toNat) % 4294967296 := by
  rw [UInt32.toNat_add]; omega
theorem bits32 (n : Nat) (h : n < 4294967296) : IntKind.u32.wrap (n : Int) = (n : Int) := by
  rw [wrap_u32]; omega
theorem ofi32 (x : UInt32) : BitVec.ofInt IntKind.u32.bits (x.toNat : Int) = x.toBitVec := by
  apply BitVec.eq_of_toNat_eq
  have h := x.toNat_lt
  show (BitVec.ofInt 32 (x.toNat : Int)).toNat = x.toNat
  rw [BitVec.toNat_ofInt]
  omega
theorem w_and (x y : UInt32) : ((x &&& y).toNat : Int) = IntKind.u32.wrap (BitVec.ofInt IntKind.u32.bits (x.toNat : Int) &&& BitVec.ofInt IntKind.u32.bits (y.toNat : Int)).toNat := by
  rw [ofi32, ofi32]; exact (bits32 _ (x.toBitVec &&& y.toBitVec).isLt).symm
theorem w_or (x y : UInt32) : ((x ||| y).toNat : Int) = IntKind.u32.wrap (BitVec.ofInt IntKind.u32.bits (x.toNat : Int) ||| BitVec.ofInt IntKind.u32.bits (y.toNat : Int)).toNat := by
  rw [ofi32, ofi32]; exact (bits32 _ (x.toBitVec ||| y.toBitVec).isLt).symm
theorem w_xor (x y : UInt32) : ((x ^^^ y).toNat : Int) = IntKind.u32.wrap (BitVec.ofInt IntKind.u32.bits (x.toNat : Int) ^^^ BitVec.ofInt IntKind.u32.bits (y.toNat : Int)).toNat := by
  rw [ofi32, ofi32]; exact (bits32 _ (x.toBitVec ^^^ y.toBitVec).isLt).symm
def notW (x : UInt32) : UInt32 := 4294967295 ^^^ x
theorem w_not (x : UInt32) : ((notW x).toNat : Int) = IntKind.u32.wrap (BitVec.ofInt IntKind.u32.bits (IntKind.u32.max) ^^^ BitVec.ofInt IntKind.u32.bits (x.toNat : Int)).toNat := by
  unfold notW; rw [w_xor]; rfl
def shrW (x : UInt32) (n : Nat) : UInt32 := x >>> UInt32.ofNat n
def shlW (x : UInt32) (n : Nat) : UInt32 := x <<< UInt32.ofNat n
theorem w_shr (x : UInt32) (n : Nat) (h : n < 32) : ((shrW x n).toNat : Int) = (x.toNat : Int).fdiv (2 ^ (min (n : Int).toNat IntKind.u32.bits)) := by
  unfold shrW
  rw [UInt32.toNat_shiftRight]
  have : (UInt32.ofNat n).toNat % 32 = n := by
    rw [UInt32.toNat_ofNat']; omega
  rw [this, Nat.shiftRight_eq_div_pow, Int.toNat_natCast, show min n IntKind.u32.bits = n from Nat.min_eq_left (by show n ≤ 32; omega)]
  rw [Int.fdiv_eq_ediv_of_nonneg _ (by exact Int.le_of_lt (Int.pow_pos (by decide)))]
  push_cast
  rfl
theorem w_shl (x : UInt32) (n : Nat) (h : n < 32) : ((shlW x n).toNat : Int) = IntKind.u32.wrap ((x.toNat : Int) * 2 ^ (min (n : Int).toNat IntKind.u32.bits)) := by
  unfold shlW
  rw [UInt32.toNat_shiftLeft]
  have : (UInt32.ofNat n).toNat % 32 = n := by
    rw [UInt32.toNat_ofNat']; omega
  rw [this, Nat.shiftLeft_eq, Int.toNat_natCast, show min n IntKind.u32.bits = n from Nat.min_eq_left (by show n ≤ 32; omega), wrap_u32, Int.natCast_emod, Int.natCast_mul, Int.natCast_pow]
  rfl
def rotW (x : UInt32) (n : Nat) : UInt32 := shlW x (32 - n) ||| shrW x n
def sumW (l : List UInt32) : UInt32 := l.foldl (· + ·) 0
theorem turn_s (n : Nat) (h1 : 0 < n) (h2 : n < 32) : IntKind.u64.wrap (BitVec.ofInt IntKind.u64.bits ((-(n : Int)) % 18446744073709551616) &&& BitVec.ofInt IntKind.u64.bits (31 : Int)).toNat = ((32 - n : Nat) : Int) := by
  have : ∀ k : Fin 31, IntKind.u64.wrap (BitVec.ofInt IntKind.u64.bits ((-((k.val + 1 : Nat) : Int)) % 18446744073709551616) &&& BitVec.ofInt IntKind.u64.bits (31 : Int)).toNat = ((32 - (k.val + 1) : Nat) : Int) := by decide
  have := this ⟨n - 1, by omega⟩
  rw [show n - 1 + 1 = n by omega] at this
  exact this
theorem turn_r (n : Nat) (h1 : 0 < n) (h2 : n < 32) : IntKind.u64.wrap ((32 : Int) - ((32 - n : Nat) : Int)) = (n : Int) := by
  rw [wrap_u64]; omega
end Go.Proofs.YtbfjmimiigjenaaGreatDoor
namespace Go.Proofs.YtbfjmimiigjenaaGreatDoor
open Go V
def kW : Kd UInt32 where
  T := 225
  sz := 1
  ev b := u32E b
  ok b := ⟨rfl, Tryz.t225, rfl, rfl⟩
  size b := rfl
theorem vok_w (x : UInt32) : VOk tb 225 (u32V x) := ⟨rfl, Tryz.t225, rfl, rfl⟩
theorem added_spec (w : World) (A : Option Addr) (c : Nat) (l : List UInt32) (h : Sl kW w A c l) : Gives Tryz.prog 263 [.slice A l.length c] w (u32E (sumW l)) := by
  have hsm := h.small
  have hl : lim = 140737488351232 := rfl
  refine enterH tb_ok [(0, slE A l.length c)] Tryz.func263 rfl Tryz.ntmps263 rfl rfl ?_
  refine RunH.adv tb_ok [] rfl rfl (by simp <;> omega) ?_
  refine RunH.loop (α := Nat) (fun i => [(6, slE A l.length c), (7, intE l.length), (8, intE i), (3, u32E (sumW (l.take i)))]) (fun _ => []) (fun i w' => Ext w w' ∧ i ≤ l.length) (fun i => l.length - i) 0 rfl rfl (fun w' h => ⟨h, Nat.zero_le _⟩) ?_
  intro i m
  refine RunH.pure (fun w' h => h.2) fun hi => ?_
  by_cases hlt : i < l.length
  · refine RunH.adv tb_ok [true] rfl rfl (by simp [h.ptr hlt] <;> omega) ?_
    refine RunH.load (u32E l[i]) rfl rfl rfl rfl (fun w' h' => by have := (h.ext h'.1).load hlt; rw [show kW.sz = 1 from rfl] at this; exact this) ?_
    refine RunH.adv tb_ok [] rfl rfl (by simp <;> omega) ?_
    refine RunH.again (i + 1) (.head _) ?_ rfl (by show l.length - (i + 1) < l.length - i; omega) fun w' h => ⟨h.1, hlt⟩
    have e : sumW (l.take (i + 1)) = sumW (l.take i) + l[i] := by
      unfold sumW; rw [List.take_succ_eq_append_getElem hlt, List.foldl_append]; rfl
    rw [e]
    unfold u32E u32V
    rw [w_add]
    rfl
  · have hi' : i = l.length := by omega
    subst hi'
    rw [List.take_length]
    refine RunH.adv tb_ok [false] rfl rfl (by simp <;> omega) ?_
    refine RunH.ret1 Tryz.func263 rfl rfl fun w' hst => ⟨rfl, hst.fact.1⟩
theorem rot_spec (w : World) (x : UInt32) (n : Nat) (h1 : 0 < n) (h2 : n < 32) : Gives Tryz.prog 297 [u32V x, intV (-(n : Int))] w (u32E (rotW x n)) := by
  refine enterH tb_ok [(0, u32E x), (1, intE (-(n : Int)))] Tryz.func297 rfl Tryz.ntmps297 rfl rfl ?_
  refine RunH.adv tb_ok [] rfl rfl (by simp only [AllOb, Ob.P]; rw [turn_s n h1 h2]; simp <;> omega) ?_
  refine RunH.read (.av (.val (.int .u64 (n : Int)))) rfl rfl rfl rfl (fun w' a _ ha => ?_) ?_
  · have hx : a.eval (.const (.int .u64 32)) = .int .u64 32 := ev_run (e := .av (.val (.int .u64 32))) ha rfl
    have hy : a.eval (.tmp 13) = .int .u64 ((32 - n : Nat) : Int) := (ev_run (e := .av (.val (.int .u64 (IntKind.u64.wrap (BitVec.ofInt IntKind.u64.bits ((-(n : Int)) % 18446744073709551616) &&& BitVec.ofInt IntKind.u64.bits (31 : Int)).toNat)))) ha rfl).trans (congrArg (Value.int .u64) (turn_s n h1 h2))
    simp [execOp, hx, hy, Sem.run_bind, guard_int, run_ar .sub (by simp), Op.intArith, turn_r n h1 h2]
    rfl
  refine RunH.adv tb_ok [] rfl rfl (by simp [AllOb, Ob.P] <;> omega) ?_
  refine RunH.ret1 Tryz.func297 rfl rfl fun w' hst => ⟨?_, hst.fact⟩
  unfold rotW u32E u32V
  rw [w_or, w_shl x (32 - n) (by omega), w_shr x n h2, ← turn_s n h1 h2]
theorem of1_spec (w : World) (b : Nat) (x : UInt32) (n : Nat) (h1 : 0 < n) (h2 : n < 32) (hx : ∀ w', Ext w w' → (loadVar 225 ⟨b, 0, none⟩).run Tryz.prog w' = .ok (u32V x) w') :
    Gives Tryz.prog 296 [intV n, .pointer (some ⟨b, 0, none⟩)] w (u32E (rotW x n)) := by
  refine enterH tb_ok [(0, intE n), (1, .av (.val (.pointer (some ⟨b, 0, none⟩))))] Tryz.func296 rfl Tryz.ntmps296 rfl rfl ?_
  refine RunH.adv tb_ok [] rfl rfl (by simp <;> omega) ?_
  refine RunH.load (u32E x) rfl rfl rfl rfl (fun w' h' => hx w' h') ?_
  refine RunH.adv tb_ok [] rfl rfl (by simp <;> omega) ?_
  refine RunH.read (intE (-(n : Int))) rfl rfl rfl rfl (fun w' a _ ha => ?_) ?_
  · have hy : a.eval (.tmp 5) = .int .i64 (n : Int) := ev_run (e := intE n) ha rfl
    simp [execOp, hy, Op.unary, Op.intArith, wrap64_of (x := -(n : Int)) (by omega)]
    rfl
  refine RunH.gives (u32E (rotW x n)) rfl rfl rfl rfl rfl Tryz.call297 (fun w' hst => rot_spec w' x n h1 h2) ?_
  intro m1 hm1
  refine RunH.adv tb_ok [] rfl rfl (by simp <;> omega) ?_
  refine RunH.ret1 Tryz.func296 rfl rfl fun w' hst => ⟨rfl, hst.fact⟩
structure Mixed where
  a : Nat
  b : Nat
  c : Nat
  lost : Bool
def Mixed.ok (m : Mixed) : Prop := (0 < m.a ∧ m.a < 32) ∧ (0 < m.b ∧ m.b < 32) ∧ (0 < m.c ∧ m.c < 32)
def mixW (m : Mixed) (x : UInt32) : UInt32 := rotW x m.a ^^^ rotW x m.b ^^^ (if m.lost then shrW x m.c else rotW x m.c)
def Mixed.ev (m : Mixed) : EV := .st [.val (intV m.a), .val (intV m.b), .val (intV m.c), .val (.bool m.lost)]
theorem of_spec (w : World) (m : Mixed) (hm : m.ok) (x : UInt32) : Gives Tryz.prog 287 [m.ev.v, u32V x] w (u32E (mixW m x)) := by
  obtain ⟨a, b, c, lost⟩ := m
  obtain ⟨ha, hb, hc⟩ := hm
  dsimp only at ha hb hc
  refine enterH tb_ok [(0, .st [.val (intV a), .val (intV b), .val (intV c), .val (.bool lost)]), (1, u32E x)] Tryz.func287 rfl Tryz.ntmps287 rfl rfl ?_
  refine RunH.adv tb_ok [] rfl rfl (by simp <;> omega) ?_
  have hbx : ∀ (H : Heap) (w' u : World), St tb w.heap.size H (fun u => Ext w u) w' → lookH H 1 = some (HE.box (w.heap.size + 1) [AV.val (u32V x)] 225) → Ext w' u → (loadVar 225 ⟨w.heap.size + 1, 0, none⟩).run Tryz.prog u = .ok (u32V x) u :=
    fun H w' u hst hH hu => hst.loadBox (id := 1) (e := u32E x) tb_ok hH rfl u hu
  refine RunH.gives (ho := rfl) (hw := rfl) (hd := rfl) (hf := rfl) (hes := rfl) (hc := Tryz.call296) (e := u32E (rotW x c)) (hC := fun w' hst => of1_spec w' _ x c hc.1 hc.2 fun u hu => hbx _ _ _ hst rfl hu) ?_
  intro m1 hm1
  cases lost with
  | true =>
    refine RunH.adv tb_ok [true] rfl rfl (by simp [AllOb, Ob.P] <;> omega) ?_
    refine RunH.draw rfl [(0, some (.box w.heap.size [.val (intV a), .val (intV b), .val (intV c), .val (.bool true)] 389)), (1, some (.box (w.heap.size + 1) [.val (u32V x)] 225))] rfl 12 rfl rfl ?_
    refine RunD.adv tb_ok (by kernel_rfl) [] rfl rfl (by simp <;> omega) ?_
    refine RunD.gives (i := 3) (u32E (rotW x a)) rfl (by kernel_rfl) rfl rfl rfl rfl Tryz.call296 (fun w' hst => of1_spec w' _ x a ha.1 ha.2 fun u hu => hbx _ _ _ hst rfl hu) rfl (fun _ h => h) ?_
    intro m2 hm2
    refine RunD.adv tb_ok (by kernel_rfl) [] rfl rfl (by simp <;> omega) ?_
    refine RunD.gives (i := 7) (u32E (rotW x b)) rfl (by kernel_rfl) rfl rfl rfl rfl Tryz.call296 (fun w' hst => of1_spec w' _ x b hb.1 hb.2 fun u hu => hbx _ _ _ hst rfl hu) rfl (fun _ h => h) ?_
    intro m3 hm3
    refine RunD.adv tb_ok (by kernel_rfl) [] rfl rfl (by simp <;> omega) ?_
    refine RunD.done (.inl rfl) (by kernel_rfl) ?_
    refine RunH.adv tb_ok [] rfl rfl (by simp <;> omega) ?_
    refine RunH.ret1 Tryz.func287 rfl rfl fun w' hst => ⟨?_, hst.fact⟩
    unfold mixW u32E u32V
    rw [if_pos rfl, w_xor, w_xor, w_shr x c hc.2]
  | false =>
    refine RunH.adv tb_ok [false] rfl rfl (by simp <;> omega) ?_
    refine RunH.draw rfl [(0, some (.box w.heap.size [.val (intV a), .val (intV b), .val (intV c), .val (.bool false)] 389)), (1, some (.box (w.heap.size + 1) [.val (u32V x)] 225))] rfl 12 rfl rfl ?_
    refine RunD.adv tb_ok (by kernel_rfl) [] rfl rfl (by simp <;> omega) ?_
    refine RunD.gives (i := 3) (u32E (rotW x a)) rfl (by kernel_rfl) rfl rfl rfl rfl Tryz.call296 (fun w' hst => of1_spec w' _ x a ha.1 ha.2 fun u hu => hbx _ _ _ hst rfl hu) rfl (fun _ h => h) ?_
    intro m2 hm2
    refine RunD.adv tb_ok (by kernel_rfl) [] rfl rfl (by simp <;> omega) ?_
    refine RunD.gives (i := 7) (u32E (rotW x b)) rfl (by kernel_rfl) rfl rfl rfl rfl Tryz.call296 (fun w' hst => of1_spec w' _ x b hb.1 hb.2 fun u hu => hbx _ _ _ hst rfl hu) rfl (fun _ h => h) ?_
    intro m3 hm3
    refine RunD.adv tb_ok (by kernel_rfl) [] rfl rfl (by simp <;> omega) ?_
    refine RunD.done (.inl rfl) (by kernel_rfl) ?_
    refine RunH.adv tb_ok [] rfl rfl (by simp <;> omega) ?_
    refine RunH.ret1 Tryz.func287 rfl rfl fun w' hst => ⟨?_, hst.fact⟩
    unfold mixW u32E u32V
    rw [if_neg (by simp), w_xor, w_xor]
end Go.Proofs.YtbfjmimiigjenaaGreatDoor
namespace Go.Proofs.YtbfjmimiigjenaaGreatDoor
open Go V
def wsC (ws : List UInt32) : Array Value := (ws.map u32V).toArray
abbrev wsE (b : Nat) (T : TypeId) (ws : List UInt32) : Option HE := some (.obj b (.cells (wsC ws) T))
def gW (ws : List UInt32) (i : Nat) : UInt32 := ws.getD i 0
theorem load_ws {w : World} {b : Nat} {T : TypeId} {ws : List UInt32} (h : w.heap[b]? = some (.cells (wsC ws) T)) {i : Nat} (hi : i < ws.length) : (loadVar 225 ⟨b, i * 1, none⟩).run Tryz.prog w = .ok (u32V (gW ws i)) w := by
  refine V.run_load tb_ok (vok_w _) (range_of_blk h fun j v hj => ?_)
  cases j with
  | zero =>
    have hj : some (u32V (gW ws i)) = some v := hj
    injection hj with hj
    subst hj
    unfold wsC gW
    rw [Nat.mul_one, Nat.add_zero, List.getD_eq_getElem?_getD, List.getElem?_eq_getElem hi]
    simp [hi]
  | succ j => simp [u32V, Value.cells] at hj
theorem wsC_set (ws : List UInt32) (i : Nat) (hi : i < ws.length) (x : UInt32) : ((wsC ws).toList.take i ++ [u32V x] ++ (wsC ws).toList.drop (i + 1)).toArray = wsC (ws.set i x) := by
  unfold wsC
  rw [List.map_set, List.set_eq_take_append_cons_drop, if_pos (by simpa using hi)]
  simp
theorem V.St.storeW {w : World} {B0 : Nat} {H : Heap} {I : World → Prop} {id b : Nat} {T : TypeId} {ws : List UInt32} (hst : St tb B0 H I w) (hH : lookH H id = wsE b T ws) {i : Nat} (hi : i < ws.length) (x : UInt32) :
    ∃ w', (storeVar 225 ⟨b, i * 1, none⟩ (u32V x)).run Tryz.prog w = .ok () w' ∧ w.heap.size ≤ w'.heap.size ∧ St tb B0 ((id, wsE b T (ws.set i x)) :: H) I w' := by
  have ho := hst.holds id _ hH
  obtain ⟨w', q1, q2, q3, q4⟩ := run_storeAt (P := Tryz.prog) tb_ok (vok_w x) (o := i * 1) ho.2 (by show i * 1 + 1 ≤ _; unfold wsC; simp; omega)
  refine ⟨w', q1, by rw [q4]; exact Nat.le_refl _, ?_⟩
  rw [Nat.mul_one] at q2
  have e := wsC_set ws i hi x
  have q2' : w'.heap[b]? = some (.cells (wsC (ws.set i x)) T (0, 0)) := by rw [← e]; exact q2
  exact hst.turn (w' := w') id _ (.obj b (.cells (wsC (ws.set i x)) T)) hH (q3.mono fun j _ hj => by rw [hj]; rfl) ⟨ho.1, q2'⟩ fun j hj => .inl hj
theorem V.RunH.boxObj {P : Program} {f : Fr} {n : Nat} {S : Stops} {R : Ending → World → Prop} {tb : TT} {B0 : Nat} {I : World → Prop} {H : Heap} {nx m : Nat} {env : SEnv} {todo : List Item} {id b : Nat} {fs : List AV} {T : TypeId} (cs : Array Value) (hH : lookH H id = some (.box b fs T)) (hc : boxCells fs = cs)
    (h : RunH P f n tb B0 S R todo env ((id, some (.obj b (.cells cs T))) :: H) nx m I) : RunH P f n tb B0 S R todo env H nx m I := by
  intro w hm hst
  subst hc
  have ho := hst.holds id _ hH
  exact h w hm (hst.turn id _ (.obj b (.cells (boxCells fs) T)) hH (Agr.refl _ _) ⟨ho.1, ho.2.1⟩ fun k hk => .inl hk)
theorem V.RunH.objBox {P : Program} {f : Fr} {n : Nat} {S : Stops} {R : Ending → World → Prop} {tb : TT} {B0 : Nat} {I : World → Prop} {H : Heap} {nx m : Nat} {env : SEnv} {todo : List Item} {id b : Nat} {T : TypeId} {cs : Array Value} (fs : List AV) (hH : lookH H id = some (.obj b (.cells cs T))) (hc : cs = boxCells fs) (hF : Fit tb T fs)
    (h : RunH P f n tb B0 S R todo env ((id, some (.box b fs T)) :: H) nx m I) : RunH P f n tb B0 S R todo env H nx m I := by
  intro w hm hst
  have ho := hst.holds id _ hH
  exact h w hm (hst.turn id _ (.box b fs T) hH (Agr.refl _ _) ⟨ho.1, by rw [← hc]; exact ho.2, hF⟩ fun k hk => .inl hk)
theorem wsC_one (ws : List UInt32) : ∀ u ∈ (wsC ws).toList, u.oneCell' = true := by
  intro u hu
  unfold wsC at hu
  simp only [List.mem_map] at hu
  obtain ⟨x, _, rfl⟩ := hu
  rfl
def wsV (ws : List UInt32) : Value := .agg (wsC ws)
theorem vok_w8 {ws : List UInt32} (h : ws.length = 8) : VOk tb 226 (wsV ws) := ⟨_, Tryz.t226, rfl, rfl, by unfold wsC; simp [h]; rfl, wsC_one ws⟩
theorem vok_w64 {ws : List UInt32} (h : ws.length = 64) : VOk tb 367 (wsV ws) := ⟨_, Tryz.t367, rfl, rfl, by unfold wsC; simp [h]; rfl, wsC_one ws⟩
theorem boxCells_ws (ws : List UInt32) : boxCells [.val (wsV ws)] = wsC ws := by
  unfold boxCells wsV
  simp [flat, AV.v, Value.cells]
def roundA (ws : List UInt32) : UInt32 := sumW [gW ws 7, mixW ⟨6, 11, 25, false⟩ (gW ws 4), (gW ws 4 &&& gW ws 5) ^^^ (notW (gW ws 4) &&& gW ws 6)]
def roundB (ws : List UInt32) : UInt32 := sumW [mixW ⟨2, 13, 22, false⟩ (gW ws 0), (gW ws 0 &&& gW ws 1) ^^^ (gW ws 0 &&& gW ws 2) ^^^ (gW ws 1 &&& gW ws 2)]
theorem rounds1_spec (w : World) (ws : List UInt32) (h8 : ws.length = 8) : Gives Tryz.prog 286 [wsV ws] w (u32E (roundA ws)) := by
  have hl : lim = 140737488351232 := rfl
  refine enterH tb_ok [(0, .av (.val (wsV ws)))] Tryz.func286 rfl Tryz.ntmps286 rfl rfl ?_
  refine RunH.adv tb_ok [] rfl rfl ⟨⟨by unfold wsC; simp [h8]; rfl, wsC_one ws⟩, trivial⟩ ?_
  refine RunH.boxObj (id := 0) (wsC ws) rfl (boxCells_ws ws) ?_
  refine RunH.draw rfl [(0, wsE w.heap.size 226 ws)] rfl 21 rfl rfl ?_
  refine RunD.adv tb_ok (by kernel_rfl) [] rfl rfl (by simp <;> omega) ?_
  refine RunD.loadG (by kernel_rfl) (i := 1) (u32E (gW ws 7)) rfl rfl rfl rfl rfl rfl (fun u hu => load_ws (hu.holds 0 _ rfl).2 (by omega)) ?_
  refine RunD.adv tb_ok (by kernel_rfl) [] rfl rfl (by simp <;> omega) ?_
  refine RunD.loadG (by kernel_rfl) (i := 4) (u32E (gW ws 4)) rfl rfl rfl rfl rfl rfl (fun u hu => load_ws (hu.holds 0 _ rfl).2 (by omega)) ?_
  refine RunD.adv tb_ok (by kernel_rfl) [] rfl rfl (by simp <;> omega) ?_
  refine RunD.loadG (by kernel_rfl) (i := 7) (u32E (gW ws 4)) rfl rfl rfl rfl rfl rfl (fun u hu => load_ws (hu.holds 0 _ rfl).2 (by omega)) ?_
  refine RunD.adv tb_ok (by kernel_rfl) [] rfl rfl (by simp <;> omega) ?_
  refine RunD.loadG (by kernel_rfl) (i := 9) (u32E (gW ws 5)) rfl rfl rfl rfl rfl rfl (fun u hu => load_ws (hu.holds 0 _ rfl).2 (by omega)) ?_
  refine RunD.adv tb_ok (by kernel_rfl) [] rfl rfl (by simp <;> omega) ?_
  refine RunD.loadG (by kernel_rfl) (i := 12) (u32E (gW ws 4)) rfl rfl rfl rfl rfl rfl (fun u hu => load_ws (hu.holds 0 _ rfl).2 (by omega)) ?_
  refine RunD.adv tb_ok (by kernel_rfl) [] rfl rfl (by simp <;> omega) ?_
  refine RunD.loadG (by kernel_rfl) (i := 15) (u32E (gW ws 6)) rfl rfl rfl rfl rfl rfl (fun u hu => load_ws (hu.holds 0 _ rfl).2 (by omega)) ?_
  refine RunD.adv tb_ok (by kernel_rfl) [] rfl rfl (by simp <;> omega) ?_
  refine RunD.gives (i := 5) (u32E (mixW ⟨6, 11, 25, false⟩ (gW ws 4))) rfl (by kernel_rfl) rfl rfl rfl rfl Tryz.call287 (fun u _ => of_spec u ⟨6, 11, 25, false⟩ ⟨by decide, by decide, by decide⟩ (gW ws 4)) rfl (fun _ h => h) ?_
  intro m2 hm2
  refine RunD.adv tb_ok (by kernel_rfl) [] rfl rfl (by simp <;> omega) ?_
  refine RunD.tell [(4, u32E (gW ws 7)), (8, u32E (mixW ⟨6, 11, 25, false⟩ (gW ws 4))), (20, u32E ((gW ws 4 &&& gW ws 5) ^^^ (notW (gW ws 4) &&& gW ws 6)))] [(0, wsE w.heap.size 226 ws)] [] (by unfold u32E u32V; rw [w_xor, w_and, w_and, w_not]; rfl) rfl rfl 1 ?_
  refine RunD.step tb_ok (i := 18) rfl (by kernel_rfl) rfl rfl rfl (by simp [AllOb, Ob.P, u32V, one_int]; try rfl) rfl (fun _ h => h) ⟨rfl, rfl⟩ ?_
  refine RunD.adv tb_ok (by kernel_rfl) [] rfl rfl (by simp <;> omega) ?_
  refine RunD.gives (i := 19) (u32E (roundA ws)) rfl (by kernel_rfl) rfl rfl rfl rfl Tryz.call263 (fun u hu => added_spec u _ _ [gW ws 7, mixW ⟨6, 11, 25, false⟩ (gW ws 4), ((gW ws 4 &&& gW ws 5) ^^^ (notW (gW ws 4) &&& gW ws 6))] (Sl.own (B := w.heap.size) (hu.row (κ := kW) (l := [gW ws 7, mixW ⟨6, 11, 25, false⟩ (gW ws 4), ((gW ws 4 &&& gW ws 5) ^^^ (notW (gW ws 4) &&& gW ws 6))]) (id := 1) rfl) (by simp [hl]))) rfl (fun _ h => h) ?_
  intro m3 hm3
  refine RunD.adv tb_ok (by kernel_rfl) [] rfl rfl (by simp <;> omega) ?_
  refine RunD.done (.inl rfl) (by kernel_rfl) ?_
  refine RunH.adv tb_ok [] rfl rfl (by simp <;> omega) ?_
  refine RunH.ret1 Tryz.func286 rfl rfl fun w' hst => ⟨rfl, hst.fact⟩
theorem rounds2_spec (w : World) (ws : List UInt32) (h8 : ws.length = 8) : Gives Tryz.prog 288 [wsV ws] w (u32E (roundB ws)) := by
  have hl : lim = 140737488351232 := rfl
  refine enterH tb_ok [(0, .av (.val (wsV ws)))] Tryz.func288 rfl Tryz.ntmps288 rfl rfl ?_
  refine RunH.adv tb_ok [] rfl rfl ⟨⟨by unfold wsC; simp [h8]; rfl, wsC_one ws⟩, trivial⟩ ?_
  refine RunH.boxObj (id := 0) (wsC ws) rfl (boxCells_ws ws) ?_
  refine RunH.draw rfl [(0, wsE w.heap.size 226 ws)] rfl 24 rfl rfl ?_
  refine RunD.adv tb_ok (by kernel_rfl) [] rfl rfl (by simp <;> omega) ?_
  refine RunD.loadG (by kernel_rfl) (i := 2) (u32E (gW ws 0)) rfl rfl rfl rfl rfl rfl (fun u hu => load_ws (hu.holds 0 _ rfl).2 (by omega)) ?_
  refine RunD.adv tb_ok (by kernel_rfl) [] rfl rfl (by simp <;> omega) ?_
  refine RunD.loadG (by kernel_rfl) (i := 5) (u32E (gW ws 0)) rfl rfl rfl rfl rfl rfl (fun u hu => load_ws (hu.holds 0 _ rfl).2 (by omega)) ?_
  refine RunD.adv tb_ok (by kernel_rfl) [] rfl rfl (by simp <;> omega) ?_
  refine RunD.loadG (by kernel_rfl) (i := 7) (u32E (gW ws 1)) rfl rfl rfl rfl rfl rfl (fun u hu => load_ws (hu.holds 0 _ rfl).2 (by omega)) ?_
  refine RunD.adv tb_ok (by kernel_rfl) [] rfl rfl (by simp <;> omega) ?_
  refine RunD.loadG (by kernel_rfl) (i := 10) (u32E (gW ws 0)) rfl rfl rfl rfl rfl rfl (fun u hu => load_ws (hu.holds 0 _ rfl).2 (by omega)) ?_
  refine RunD.adv tb_ok (by kernel_rfl) [] rfl rfl (by simp <;> omega) ?_
  refine RunD.loadG (by kernel_rfl) (i := 12) (u32E (gW ws 2)) rfl rfl rfl rfl rfl rfl (fun u hu => load_ws (hu.holds 0 _ rfl).2 (by omega)) ?_
  refine RunD.adv tb_ok (by kernel_rfl) [] rfl rfl (by simp <;> omega) ?_
  refine RunD.loadG (by kernel_rfl) (i := 16) (u32E (gW ws 1)) rfl rfl rfl rfl rfl rfl (fun u hu => load_ws (hu.holds 0 _ rfl).2 (by omega)) ?_
  refine RunD.adv tb_ok (by kernel_rfl) [] rfl rfl (by simp <;> omega) ?_
  refine RunD.loadG (by kernel_rfl) (i := 18) (u32E (gW ws 2)) rfl rfl rfl rfl rfl rfl (fun u hu => load_ws (hu.holds 0 _ rfl).2 (by omega)) ?_
  refine RunD.adv tb_ok (by kernel_rfl) [] rfl rfl (by simp <;> omega) ?_
  refine RunD.gives (i := 3) (u32E (mixW ⟨2, 13, 22, false⟩ (gW ws 0))) rfl (by kernel_rfl) rfl rfl rfl rfl Tryz.call287 (fun u _ => of_spec u ⟨2, 13, 22, false⟩ ⟨by decide, by decide, by decide⟩ (gW ws 0)) rfl (fun _ h => h) ?_
  intro m2 hm2
  refine RunD.adv tb_ok (by kernel_rfl) [] rfl rfl (by simp <;> omega) ?_
  refine RunD.tell [(6, u32E (mixW ⟨2, 13, 22, false⟩ (gW ws 0))), (23, u32E ((gW ws 0 &&& gW ws 1) ^^^ (gW ws 0 &&& gW ws 2) ^^^ (gW ws 1 &&& gW ws 2)))] [(0, wsE w.heap.size 226 ws)] [] (by unfold u32E u32V; rw [w_xor, w_xor, w_and, w_and, w_and]; rfl) rfl rfl 1 ?_
  refine RunD.step tb_ok (i := 21) rfl (by kernel_rfl) rfl rfl rfl (by simp [AllOb, Ob.P, u32V, one_int]; try rfl) rfl (fun _ h => h) ⟨rfl, rfl⟩ ?_
  refine RunD.adv tb_ok (by kernel_rfl) [] rfl rfl (by simp <;> omega) ?_
  refine RunD.gives (i := 22) (u32E (roundB ws)) rfl (by kernel_rfl) rfl rfl rfl rfl Tryz.call263 (fun u hu => added_spec u _ _ [mixW ⟨2, 13, 22, false⟩ (gW ws 0), ((gW ws 0 &&& gW ws 1) ^^^ (gW ws 0 &&& gW ws 2) ^^^ (gW ws 1 &&& gW ws 2))] (Sl.own (B := w.heap.size) (hu.row (κ := kW) (l := [mixW ⟨2, 13, 22, false⟩ (gW ws 0), ((gW ws 0 &&& gW ws 1) ^^^ (gW ws 0 &&& gW ws 2) ^^^ (gW ws 1 &&& gW ws 2))]) (id := 1) rfl) (by simp [hl]))) rfl (fun _ h => h) ?_
  intro m3 hm3
  refine RunD.adv tb_ok (by kernel_rfl) [] rfl rfl (by simp <;> omega) ?_
  refine RunD.done (.inl rfl) (by kernel_rfl) ?_
  refine RunH.adv tb_ok [] rfl rfl (by simp <;> omega) ?_
  refine RunH.ret1 Tryz.func288 rfl rfl fun w' hst => ⟨rfl, hst.fact⟩
end Go.Proofs.YtbfjmimiigjenaaGreatDoor
