/-
Lemmas. No condition.
-/
import Derived.Lib.Overlaps
import Derived.Test.YtbfjmimiigjenaaGreatDoorKSPath
import Derived.Test.YtbfjmimiigjenaaGreatDoorKVKey
import Derived.Test.YtbfjmimiigjenaaGreatDoorKVMake
import Derived.Test.YtbfjmimiigjenaaGreatDoorKVJoin
set_option linter.unusedVariables false
set_option linter.unusedSimpArgs false
namespace Go.Proofs.YtbfjmimiigjenaaGreatDoor
open Go V
structure Wk (w : World) (b : Nat) (A : Option Addr) (c : Nat) (B : Option Addr) (c2 : Nat) (t y : List Entry) : Prop where
 hb : w.heap[b]? = some (.cells #[.slice A t.length c, .slice B y.length c2] 266)
 ht : Sl kEntry w A c t
 hy : Sl kEntry w B c2 y
def kA {α : Type} (k : Int) (a b : α) : α := if k = 1 then a else b
theorem kV (k : Int) (A B : Option Addr) (c c2 : Nat) (t y : List Entry) : (if k = 1 then Value.slice A t.length c else .slice B y.length c2) = .slice (kA k A B) (kList k t y).length (kA k c c2) := by
 unfold kA kList; split <;> rfl
theorem Wk.sl {w : World} {b c c2 : Nat} {A B : Option Addr} {t y : List Entry} (h : Wk w b A c B c2 t y) (k : Int) : Sl kEntry w (kA k A B) (kA k c c2) (kList k t y) := by
 unfold kA kList; split
 ·exact h.ht
 ·exact h.hy
theorem Wk.ext {w w' : World} {b c c2 : Nat} {A B : Option Addr} {t y : List Entry} (h : Wk w b A c B c2 t y) (he : Ext w w') : Wk w' b A c B c2 t y :=
 ⟨by rw [he.block b (Array.getElem?_eq_some_iff.1 h.hb).1]; exact h.hb, h.ht.ext he, h.hy.ext he⟩
theorem Wk.load {w : World} {b c c2 : Nat} {A B : Option Addr} {t y : List Entry} (h : Wk w b A c B c2 t y) (k : Int) :
  (loadVar 129 ⟨b, kOff k, none⟩).run Tryz.prog w = .ok (slE (kA k A B) (kList k t y).length (kA k c c2)).v w := by
 have := load_wk h.hb k
 rw [kV] at this; exact this
def found1 (text : Str) (x : Entry) : List Entry := ((endsOf x.path).filter fun e => decide (e = text)).map fun _ => x
def foundL (l : List Entry) (text : Str) : List Entry := if isAt l text = true then [l.getD (posOf l text) zeroE] else l.flatMap (found1 text)
theorem flL {α β : Type} (f : α → List β) (q : Nat) : ∀ (l : List α), (∀ x ∈ l, (f x).length ≤ q) → (l.flatMap f).length ≤ l.length * q
 | [], _ => by simp
 | x :: r, h => by
  have ih := flL f q r fun y hy => h y (List.mem_cons_of_mem _ hy)
  have := h x (by simp)
  rw [List.flatMap_cons, List.length_append, List.length_cons, Nat.succ_mul]
  omega
def askE (t y : List Entry) (k : Int) (l : List Str) : Int := if kindE t y k = 0 then pathsE l else kindE t y k
def findE (t y : List Entry) (k : Int) (x : Str) : Int := if askE t y k [x] = 0 then (if foundL (kList k t y) x = [] then 6 else 0) else askE t y k [x]
def findL (t y : List Entry) (k : Int) (x : Str) : List Entry := if askE t y k [x] = 0 then foundL (kList k t y) x else []
def plainE (t y : List Entry) (k : Int) (x : Str) : Int := if findE t y k x = 0 then (if oneB (findL t y k x) = true then 0 else 7) else findE t y k x
abbrev Zr := List (Sum × (Option Addr × Nat))
theorem V.RH.free {P : Program} {f : Fr} {n : Nat} {S : Stops} {R : Ending → World → Prop} {tb : TT} {B0 : Nat} {I : World → Prop} {H : Heap} {nx m : Nat} {env : SEnv} {todo : List Item} {i : Nat} {x : HE} (hx : loH H i = some x)
  (h : RH P f n tb B0 S R todo env ((i, none) :: H) nx m (fun u => I u ∧ x.holds tb B0 u)) : RH P f n tb B0 S R todo env H nx m I :=
 fun w hm hst => h w hm (hst.free hx)
theorem op_cap {P : Program} {n : Nat} {env : SEnv} {a : Act} (ha : Agree n a (kn env)) {d : Option Nat} {x : Operand} {T ty e : TypeId} {ps : String} {af : Array Edge} {gd : Option (Nat × Bool)} {ex : EV} {A : Option Addr} {n_ c : Nat} {w : World}
  (hx : evE env x = some ex) (hv : ex.v = .slice A n_ c) (hT : P.underlying T = some (.slice e)) :
  (execOp a.eval ⟨d, .call ⟨.builtin .cap, #[x], #[T]⟩, ty, ps, af, gd⟩).run P w = .ok (.value (intE c).v) w := by
 have hxv : a.eval x = .slice A n_ c := (ev_run ha hx).trans hv
 simp only [execOp, resolve, invoke, builtin, Sem.run_bind, Sem.run_pure, Result.andThen_ok, List.map_toArray, List.map_cons, List.map_nil, hxv, Builtin.cap_]
 simp [run_underlying hT, goInt]
 rfl
theorem V.RD.loadG {P : Program} {f : Fr} {n : Nat} {tb : TT} {B0 : Nat} {S : Stops} {R : Ending → World → Prop} {k : List Item} {ops : Array Oper} {G : Heap} {I0 : World → Prop} {fuel : Nat} {l : List Bool} {env : SEnv} {H : Heap} {nx m : Nat} {I : World → Prop} (hp : pairOk ops = true) {i d : Nat} {T : TypeId} {x : Operand} {ty : TypeId} {ps : String} {af : Array Edge} {gd : Option (Nat × Bool)} {p : Addr} (e : EV) (ho : ops.toList[i]? = some ⟨some d, .load T x, ty, ps, af, gd⟩) (hdn : Nat.blt d n = true) (hw : wantE env ops gd = .yes)
  (hl : l[i]? = some false) (hr : readyE l ⟨some d, .load T x, ty, ps, af, gd⟩ = true) (hx : ptrE (evE env x) = some p) (hv : ∀ w, St tb B0 G I0 w → (loadVar T p).run P w = .ok e.v w)
  (h : RD P f n tb B0 S R k ops G I0 fuel (l.set i true) ((d, e) :: env) H nx m I) : RD P f n tb B0 S R k ops G I0 (fuel + 1) l env H nx m I := by
 obtain ⟨ex, h1, h2⟩ := ptrE_ok hx
 rw [Array.getElem?_toList] at ho
 exact RD.take hp ho rfl (Nat.lt_of_lt_of_le (Nat.lt_succ_self d) (Nat.le_of_ble_eq_true hdn)) hl hr (fun a ha => .inl ⟨wantE_yes (o := ⟨some d, .load T x, ty, ps, af, gd⟩) hw ha, fun w hst => by simp [execOp, Instr.loadAt, ev_run ha h1, h2, Instr.sureAddr, hv w hst]⟩) h
abbrev wkK (k : Int) (b : Nat) (vs vo : Value) : Option HE := wkE b (kA k vs vo) (kA k vo vs)
abbrev wkKG (k : Int) (b : Nat) (ls lo : List Entry) (zs zo : Option Addr × Nat) : Heap :=
 [(0, wkK k b (slV zs.1 ls.length zs.2) (slV zo.1 lo.length zo.2)), (1, rowE kEntry zs.1 zs.2 ls), (2, rowE kEntry zo.1 zo.2 lo)]
def u32V (x : UInt32) : Value := .int .u32 x.toNat
abbrev u32E (x : UInt32) : EV := .av (.val (u32V x))
theorem w_add (x y : UInt32) : ((x + y).toNat : Int) = ((x.toNat : Int) + y.toNat) % 4294967296 := by
 rw [UInt32.toNat_add]; omega
theorem bits32 (n : Nat) (h : n < 4294967296) : IntKind.u32.wrap (n : Int) = (n : Int) := by
 rw [wrap_u32]; omega
theorem ofi32 (x : UInt32) : BitVec.ofInt IntKind.u32.bits (x.toNat : Int) = x.toBitVec := by
 apply BitVec.eq_of_toNat_eq
 have h := x.toNat_lt
 show (BitVec.ofInt 32 (x.toNat : Int)).toNat = x.toNat
 rw [BitVec.toNat_ofInt]
 omega
theorem w_and (x y : UInt32) : ((x &&& y).toNat : Int) = IntKind.u32.wrap (BitVec.ofInt IntKind.u32.bits (x.toNat : Int) &&& BitVec.ofInt IntKind.u32.bits (y.toNat : Int)).toNat := by
 rw [ofi32, ofi32]; exact (bits32 _ (x.toBitVec &&& y.toBitVec).isLt).symm
theorem w_or (x y : UInt32) : ((x ||| y).toNat : Int) = IntKind.u32.wrap (BitVec.ofInt IntKind.u32.bits (x.toNat : Int) ||| BitVec.ofInt IntKind.u32.bits (y.toNat : Int)).toNat := by
 rw [ofi32, ofi32]; exact (bits32 _ (x.toBitVec ||| y.toBitVec).isLt).symm
theorem w_xor (x y : UInt32) : ((x ^^^ y).toNat : Int) = IntKind.u32.wrap (BitVec.ofInt IntKind.u32.bits (x.toNat : Int) ^^^ BitVec.ofInt IntKind.u32.bits (y.toNat : Int)).toNat := by
 rw [ofi32, ofi32]; exact (bits32 _ (x.toBitVec ^^^ y.toBitVec).isLt).symm
def notW (x : UInt32) : UInt32 := 4294967295 ^^^ x
theorem w_not (x : UInt32) : ((notW x).toNat : Int) = IntKind.u32.wrap (BitVec.ofInt IntKind.u32.bits (IntKind.u32.max) ^^^ BitVec.ofInt IntKind.u32.bits (x.toNat : Int)).toNat := by
 unfold notW; rw [w_xor]; rfl
def shrW (x : UInt32) (n : Nat) : UInt32 := x >>> UInt32.ofNat n
def shlW (x : UInt32) (n : Nat) : UInt32 := x <<< UInt32.ofNat n
theorem w_shr (x : UInt32) (n : Nat) (h : n < 32) : ((shrW x n).toNat : Int) = (x.toNat : Int).fdiv (2 ^ (min (n : Int).toNat IntKind.u32.bits)) := by
 unfold shrW
 rw [UInt32.toNat_shiftRight]
 have : (UInt32.ofNat n).toNat % 32 = n := by
  rw [UInt32.toNat_ofNat']; omega
 rw [this, Nat.shiftRight_eq_div_pow, Int.toNat_natCast, show min n IntKind.u32.bits = n from Nat.min_eq_left (by show n ≤ 32; omega)]
 rw [Int.fdiv_eq_ediv_of_nonneg _ (by exact Int.le_of_lt (Int.pow_pos (by decide)))]
 push_cast
 rfl
theorem w_shl (x : UInt32) (n : Nat) (h : n < 32) : ((shlW x n).toNat : Int) = IntKind.u32.wrap ((x.toNat : Int) * 2 ^ (min (n : Int).toNat IntKind.u32.bits)) := by
 unfold shlW
 rw [UInt32.toNat_shiftLeft]
 have : (UInt32.ofNat n).toNat % 32 = n := by
  rw [UInt32.toNat_ofNat']; omega
 rw [this, Nat.shiftLeft_eq, Int.toNat_natCast, show min n IntKind.u32.bits = n from Nat.min_eq_left (by show n ≤ 32; omega), wrap_u32, Int.natCast_emod, Int.natCast_mul, Int.natCast_pow]
 rfl
def rotW (x : UInt32) (n : Nat) : UInt32 := shlW x (32 - n) ||| shrW x n
def sumW (l : List UInt32) : UInt32 := l.foldl (· + ·) 0
theorem turn_s (n : Nat) (h1 : 0 < n) (h2 : n < 32) : IntKind.u64.wrap (BitVec.ofInt IntKind.u64.bits ((-(n : Int)) % 18446744073709551616) &&& BitVec.ofInt IntKind.u64.bits (31 : Int)).toNat = ((32 - n : Nat) : Int) := by
 have : ∀ k : Fin 31, IntKind.u64.wrap (BitVec.ofInt IntKind.u64.bits ((-((k.val + 1 : Nat) : Int)) % 18446744073709551616) &&& BitVec.ofInt IntKind.u64.bits (31 : Int)).toNat = ((32 - (k.val + 1) : Nat) : Int) := by decide
 have := this ⟨n - 1, by omega⟩
 rw [show n - 1 + 1 = n by omega] at this
 exact this
theorem turn_r (n : Nat) (h1 : 0 < n) (h2 : n < 32) : IntKind.u64.wrap ((32 : Int) - ((32 - n : Nat) : Int)) = (n : Int) := by
 rw [wrap_u64]; omega
def kW : Kd UInt32 where
 T := 225
 sz := 1
 ev b := u32E b
 ok b := ⟨rfl, Tryz.t225, rfl, rfl⟩
 size b := rfl
theorem vok_w (x : UInt32) : VOk tb 225 (u32V x) := ⟨rfl, Tryz.t225, rfl, rfl⟩
theorem added_spec (w : World) (A : Option Addr) (c : Nat) (l : List UInt32) (h : Sl kW w A c l) : Gives Tryz.prog 263 [.slice A l.length c] w (u32E (sumW l)) := by
 have hsm := h.small
 have hl : lim = 140737488351232 := rfl
 refine enterH tk [(0, slE A l.length c)] Tryz.func263 rfl Tryz.ntmps263 rfl rfl ?_
 refine RH.adv tk [] rfl rfl (by simp <;> omega) ?_
 refine RH.loop (α := Nat) (fun i => [(6, slE A l.length c), (7, intE l.length), (8, intE i), (3, u32E (sumW (l.take i)))]) (fun _ => []) (fun i w' => Ext w w' ∧ i ≤ l.length) (fun i => l.length - i) 0 rfl rfl (fun w' h => ⟨h, Nat.zero_le _⟩) ?_
 intro i m
 refine RH.pure (fun w' h => h.2) fun hi => ?_
 by_cases hlt : i < l.length
 ·refine RH.adv tk [true] rfl rfl (by simp [h.ptr hlt] <;> omega) ?_
  refine RH.load (u32E l[i]) rfl rfl rfl rfl (fun w' h' => by have := (h.ext h'.1).load hlt; rw [show kW.sz = 1 from rfl] at this; exact this) ?_
  refine RH.adv tk [] rfl rfl (by simp <;> omega) ?_
  refine RH.again (i + 1) (.head _) ?_ rfl (by show l.length - (i + 1) < l.length - i; omega) fun w' h => ⟨h.1, hlt⟩
  have e : sumW (l.take (i + 1)) = sumW (l.take i) + l[i] := by
   unfold sumW; rw [List.take_succ_eq_append_getElem hlt, List.foldl_append]; rfl
  rw [e]
  unfold u32E u32V
  rw [w_add]
  rfl
 ·have hi' : i = l.length := by omega
  subst hi'
  rw [List.take_length]
  refine RH.adv tk [false] rfl rfl (by simp <;> omega) ?_
  refine RH.ret1 Tryz.func263 rfl rfl fun w' hst => ⟨rfl, hst.fact.1⟩
theorem rot_spec (w : World) (x : UInt32) (n : Nat) (h1 : 0 < n) (h2 : n < 32) : Gives Tryz.prog 297 [u32V x, intV (-(n : Int))] w (u32E (rotW x n)) := by
 refine enterH tk [(0, u32E x), (1, intE (-(n : Int)))] Tryz.func297 rfl Tryz.ntmps297 rfl rfl ?_
 refine RH.adv tk [] rfl rfl (by simp only [AllOb, Ob.P]; rw [turn_s n h1 h2]; simp <;> omega) ?_
 refine RH.read (.av (.val (.int .u64 (n : Int)))) rfl rfl rfl rfl (fun w' a _ ha => ?_) ?_
 ·have hx : a.eval (.const (.int .u64 32)) = .int .u64 32 := ev_run (e := .av (.val (.int .u64 32))) ha rfl
  have hy : a.eval (.tmp 13) = .int .u64 ((32 - n : Nat) : Int) := (ev_run (e := .av (.val (.int .u64 (IntKind.u64.wrap (BitVec.ofInt IntKind.u64.bits ((-(n : Int)) % 18446744073709551616) &&& BitVec.ofInt IntKind.u64.bits (31 : Int)).toNat)))) ha rfl).trans (congrArg (Value.int .u64) (turn_s n h1 h2))
  simp [execOp, hx, hy, Sem.run_bind, guard_int, run_ar .sub (by simp), Op.intArith, turn_r n h1 h2]
  rfl
 refine RH.adv tk [] rfl rfl (by simp [AllOb, Ob.P] <;> omega) ?_
 refine RH.ret1 Tryz.func297 rfl rfl fun w' hst => ⟨?_, hst.fact⟩
 unfold rotW u32E u32V
 rw [w_or, w_shl x (32 - n) (by omega), w_shr x n h2, ← turn_s n h1 h2]
theorem of1_spec (w : World) (b : Nat) (x : UInt32) (n : Nat) (h1 : 0 < n) (h2 : n < 32) (hx : ∀ w', Ext w w' → (loadVar 225 ⟨b, 0, none⟩).run Tryz.prog w' = .ok (u32V x) w') :
  Gives Tryz.prog 296 [intV n, .pointer (some ⟨b, 0, none⟩)] w (u32E (rotW x n)) := by
 refine enterH tk [(0, intE n), (1, .av (.val (.pointer (some ⟨b, 0, none⟩))))] Tryz.func296 rfl Tryz.ntmps296 rfl rfl ?_
 refine RH.adv tk [] rfl rfl (by simp <;> omega) ?_
 refine RH.load (u32E x) rfl rfl rfl rfl (fun w' h' => hx w' h') ?_
 refine RH.adv tk [] rfl rfl (by simp <;> omega) ?_
 refine RH.read (intE (-(n : Int))) rfl rfl rfl rfl (fun w' a _ ha => ?_) ?_
 ·have hy : a.eval (.tmp 5) = .int .i64 (n : Int) := ev_run (e := intE n) ha rfl
  simp [execOp, hy, Op.unary, Op.intArith, wrap64_of (x := -(n : Int)) (by omega)]
  rfl
 refine RH.gives (u32E (rotW x n)) rfl rfl rfl rfl rfl Tryz.call297 (fun w' hst => rot_spec w' x n h1 h2) ?_
 intro m1 hm1
 refine RH.adv tk [] rfl rfl (by simp <;> omega) ?_
 refine RH.ret1 Tryz.func296 rfl rfl fun w' hst => ⟨rfl, hst.fact⟩
structure Mixed where
 a : Nat
 b : Nat
 c : Nat
 lost : Bool
def Mixed.ok (m : Mixed) : Prop := (0 < m.a ∧ m.a < 32) ∧ (0 < m.b ∧ m.b < 32) ∧ (0 < m.c ∧ m.c < 32)
def mixW (m : Mixed) (x : UInt32) : UInt32 := rotW x m.a ^^^ rotW x m.b ^^^ (if m.lost then shrW x m.c else rotW x m.c)
def Mixed.ev (m : Mixed) : EV := .st [.val (intV m.a), .val (intV m.b), .val (intV m.c), .val (.bool m.lost)]
theorem of_spec (w : World) (m : Mixed) (hm : m.ok) (x : UInt32) : Gives Tryz.prog 287 [m.ev.v, u32V x] w (u32E (mixW m x)) := by
 obtain ⟨a, b, c, lost⟩ := m
 obtain ⟨ha, hb, hc⟩ := hm
 dsimp only at ha hb hc
 refine enterH tk [(0, .st [.val (intV a), .val (intV b), .val (intV c), .val (.bool lost)]), (1, u32E x)] Tryz.func287 rfl Tryz.ntmps287 rfl rfl ?_
 refine RH.adv tk [] rfl rfl (by simp <;> omega) ?_
 have hbx : ∀ (H : Heap) (w' u : World), St tb w.heap.size H (fun u => Ext w u) w' → loH H 1 = some (HE.box (w.heap.size + 1) [AV.val (u32V x)] 225) → Ext w' u → (loadVar 225 ⟨w.heap.size + 1, 0, none⟩).run Tryz.prog u = .ok (u32V x) u :=
  fun H w' u hst hH hu => hst.loadBox (id := 1) (e := u32E x) tk hH rfl u hu
 refine RH.gives (ho := rfl) (hw := rfl) (hd := rfl) (hf := rfl) (hes := rfl) (hc := Tryz.call296) (e := u32E (rotW x c)) (hC := fun w' hst => of1_spec w' _ x c hc.1 hc.2 fun u hu => hbx _ _ _ hst rfl hu) ?_
 intro m1 hm1
 cases lost with
 | true =>
  refine RH.adv tk [true] rfl rfl (by simp [AllOb, Ob.P] <;> omega) ?_
  refine RH.draw rfl [(0, some (.box w.heap.size [.val (intV a), .val (intV b), .val (intV c), .val (.bool true)] 389)), (1, some (.box (w.heap.size + 1) [.val (u32V x)] 225))] rfl 12 rfl rfl ?_
  refine RD.adv tk (by kernel_rfl) [] rfl rfl (by simp <;> omega) ?_
  refine RD.gives (i := 3) (u32E (rotW x a)) rfl (by kernel_rfl) rfl rfl rfl rfl Tryz.call296 (fun w' hst => of1_spec w' _ x a ha.1 ha.2 fun u hu => hbx _ _ _ hst rfl hu) rfl (fun _ h => h) ?_
  intro m2 hm2
  refine RD.adv tk (by kernel_rfl) [] rfl rfl (by simp <;> omega) ?_
  refine RD.gives (i := 7) (u32E (rotW x b)) rfl (by kernel_rfl) rfl rfl rfl rfl Tryz.call296 (fun w' hst => of1_spec w' _ x b hb.1 hb.2 fun u hu => hbx _ _ _ hst rfl hu) rfl (fun _ h => h) ?_
  intro m3 hm3
  refine RD.adv tk (by kernel_rfl) [] rfl rfl (by simp <;> omega) ?_
  refine RD.done (.inl rfl) (by kernel_rfl) ?_
  refine RH.adv tk [] rfl rfl (by simp <;> omega) ?_
  refine RH.ret1 Tryz.func287 rfl rfl fun w' hst => ⟨?_, hst.fact⟩
  unfold mixW u32E u32V
  rw [if_pos rfl, w_xor, w_xor, w_shr x c hc.2]
 | false =>
  refine RH.adv tk [false] rfl rfl (by simp <;> omega) ?_
  refine RH.draw rfl [(0, some (.box w.heap.size [.val (intV a), .val (intV b), .val (intV c), .val (.bool false)] 389)), (1, some (.box (w.heap.size + 1) [.val (u32V x)] 225))] rfl 12 rfl rfl ?_
  refine RD.adv tk (by kernel_rfl) [] rfl rfl (by simp <;> omega) ?_
  refine RD.gives (i := 3) (u32E (rotW x a)) rfl (by kernel_rfl) rfl rfl rfl rfl Tryz.call296 (fun w' hst => of1_spec w' _ x a ha.1 ha.2 fun u hu => hbx _ _ _ hst rfl hu) rfl (fun _ h => h) ?_
  intro m2 hm2
  refine RD.adv tk (by kernel_rfl) [] rfl rfl (by simp <;> omega) ?_
  refine RD.gives (i := 7) (u32E (rotW x b)) rfl (by kernel_rfl) rfl rfl rfl rfl Tryz.call296 (fun w' hst => of1_spec w' _ x b hb.1 hb.2 fun u hu => hbx _ _ _ hst rfl hu) rfl (fun _ h => h) ?_
  intro m3 hm3
  refine RD.adv tk (by kernel_rfl) [] rfl rfl (by simp <;> omega) ?_
  refine RD.done (.inl rfl) (by kernel_rfl) ?_
  refine RH.adv tk [] rfl rfl (by simp <;> omega) ?_
  refine RH.ret1 Tryz.func287 rfl rfl fun w' hst => ⟨?_, hst.fact⟩
  unfold mixW u32E u32V
  rw [if_neg (by simp), w_xor, w_xor]
def wsC (ws : List UInt32) : Array Value := (ws.map u32V).toArray
abbrev wsE (b : Nat) (T : TypeId) (ws : List UInt32) : Option HE := some (.obj b (.cells (wsC ws) T))
def gW (ws : List UInt32) (i : Nat) : UInt32 := ws.getD i 0
theorem load_ws {w : World} {b : Nat} {T : TypeId} {ws : List UInt32} (h : w.heap[b]? = some (.cells (wsC ws) T)) {i : Nat} (hi : i < ws.length) : (loadVar 225 ⟨b, i * 1, none⟩).run Tryz.prog w = .ok (u32V (gW ws i)) w := by
 refine V.run_load tk (vok_w _) (range_of_blk h fun j v hj => ?_)
 cases j with
 | zero =>
  have hj : some (u32V (gW ws i)) = some v := hj
  injection hj with hj
  subst hj
  unfold wsC gW
  rw [Nat.mul_one, Nat.add_zero, List.getD_eq_getElem?_getD, List.getElem?_eq_getElem hi]
  simp [hi]
 | succ j => simp [u32V, Value.cells] at hj
theorem wsC_set (ws : List UInt32) (i : Nat) (hi : i < ws.length) (x : UInt32) : ((wsC ws).toList.take i ++ [u32V x] ++ (wsC ws).toList.drop (i + 1)).toArray = wsC (ws.set i x) := by
 unfold wsC
 rw [List.map_set, List.set_eq_take_append_cons_drop, if_pos (by simpa using hi)]
 simp
theorem V.St.storeW {w : World} {B0 : Nat} {H : Heap} {I : World → Prop} {id b : Nat} {T : TypeId} {ws : List UInt32} (hst : St tb B0 H I w) (hH : loH H id = wsE b T ws) {i : Nat} (hi : i < ws.length) (x : UInt32) :
  ∃ w', (storeVar 225 ⟨b, i * 1, none⟩ (u32V x)).run Tryz.prog w = .ok () w' ∧ w.heap.size ≤ w'.heap.size ∧ St tb B0 ((id, wsE b T (ws.set i x)) :: H) I w' := by
 have ho := hst.holds id _ hH
 obtain ⟨w', q1, q2, q3, q4⟩ := run_storeAt (P := Tryz.prog) tk (vok_w x) (o := i * 1) ho.2 (by show i * 1 + 1 ≤ _; unfold wsC; simp; omega)
 refine ⟨w', q1, by rw [q4]; exact Nat.le_refl _, ?_⟩
 rw [Nat.mul_one] at q2
 have e := wsC_set ws i hi x
 have q2' : w'.heap[b]? = some (.cells (wsC (ws.set i x)) T (0, 0)) := by rw [← e]; exact q2
 exact hst.turn (w' := w') id _ (.obj b (.cells (wsC (ws.set i x)) T)) hH (q3.mono fun j _ hj => by rw [hj]; rfl) ⟨ho.1, q2'⟩ fun j hj => .inl hj
theorem V.RH.boxObj {P : Program} {f : Fr} {n : Nat} {S : Stops} {R : Ending → World → Prop} {tb : TT} {B0 : Nat} {I : World → Prop} {H : Heap} {nx m : Nat} {env : SEnv} {todo : List Item} {id b : Nat} {fs : List AV} {T : TypeId} (cs : Array Value) (hH : loH H id = some (.box b fs T)) (hc : boxCells fs = cs)
  (h : RH P f n tb B0 S R todo env ((id, some (.obj b (.cells cs T))) :: H) nx m I) : RH P f n tb B0 S R todo env H nx m I := by
 intro w hm hst
 subst hc
 have ho := hst.holds id _ hH
 exact h w hm (hst.turn id _ (.obj b (.cells (boxCells fs) T)) hH (Agr.refl _ _) ⟨ho.1, ho.2.1⟩ fun k hk => .inl hk)
theorem V.RH.objBox {P : Program} {f : Fr} {n : Nat} {S : Stops} {R : Ending → World → Prop} {tb : TT} {B0 : Nat} {I : World → Prop} {H : Heap} {nx m : Nat} {env : SEnv} {todo : List Item} {id b : Nat} {T : TypeId} {cs : Array Value} (fs : List AV) (hH : loH H id = some (.obj b (.cells cs T))) (hc : cs = boxCells fs) (hF : Fit tb T fs)
  (h : RH P f n tb B0 S R todo env ((id, some (.box b fs T)) :: H) nx m I) : RH P f n tb B0 S R todo env H nx m I := by
 intro w hm hst
 have ho := hst.holds id _ hH
 exact h w hm (hst.turn id _ (.box b fs T) hH (Agr.refl _ _) ⟨ho.1, by rw [← hc]; exact ho.2, hF⟩ fun k hk => .inl hk)
theorem wsC_one (ws : List UInt32) : ∀ u ∈ (wsC ws).toList, u.oneCell' = true := by
 intro u hu
 unfold wsC at hu
 simp only [List.mem_map] at hu
 obtain ⟨x, _, rfl⟩ := hu
 rfl
def wsV (ws : List UInt32) : Value := .agg (wsC ws)
theorem vok_w8 {ws : List UInt32} (h : ws.length = 8) : VOk tb 226 (wsV ws) := ⟨_, Tryz.t226, rfl, rfl, by unfold wsC; simp [h]; rfl, wsC_one ws⟩
theorem vok_w64 {ws : List UInt32} (h : ws.length = 64) : VOk tb 367 (wsV ws) := ⟨_, Tryz.t367, rfl, rfl, by unfold wsC; simp [h]; rfl, wsC_one ws⟩
theorem boxCells_ws (ws : List UInt32) : boxCells [.val (wsV ws)] = wsC ws := by
 unfold boxCells wsV
 simp [flat, AV.v, Value.cells]
def roundA (ws : List UInt32) : UInt32 := sumW [gW ws 7, mixW ⟨6, 11, 25, false⟩ (gW ws 4), (gW ws 4 &&& gW ws 5) ^^^ (notW (gW ws 4) &&& gW ws 6)]
def roundB (ws : List UInt32) : UInt32 := sumW [mixW ⟨2, 13, 22, false⟩ (gW ws 0), (gW ws 0 &&& gW ws 1) ^^^ (gW ws 0 &&& gW ws 2) ^^^ (gW ws 1 &&& gW ws 2)]
theorem rounds1_spec (w : World) (ws : List UInt32) (h8 : ws.length = 8) : Gives Tryz.prog 286 [wsV ws] w (u32E (roundA ws)) := by
 have hl : lim = 140737488351232 := rfl
 refine enterH tk [(0, .av (.val (wsV ws)))] Tryz.func286 rfl Tryz.ntmps286 rfl rfl ?_
 refine RH.adv tk [] rfl rfl ⟨⟨by unfold wsC; simp [h8]; rfl, wsC_one ws⟩, trivial⟩ ?_
 refine RH.boxObj (id := 0) (wsC ws) rfl (boxCells_ws ws) ?_
 refine RH.draw rfl [(0, wsE w.heap.size 226 ws)] rfl 21 rfl rfl ?_
 refine RD.adv tk (by kernel_rfl) [] rfl rfl (by simp <;> omega) ?_
 refine RD.loadG (by kernel_rfl) (i := 1) (u32E (gW ws 7)) rfl rfl rfl rfl rfl rfl (fun u hu => load_ws (hu.holds 0 _ rfl).2 (by omega)) ?_
 refine RD.adv tk (by kernel_rfl) [] rfl rfl (by simp <;> omega) ?_
 refine RD.loadG (by kernel_rfl) (i := 4) (u32E (gW ws 4)) rfl rfl rfl rfl rfl rfl (fun u hu => load_ws (hu.holds 0 _ rfl).2 (by omega)) ?_
 refine RD.adv tk (by kernel_rfl) [] rfl rfl (by simp <;> omega) ?_
 refine RD.loadG (by kernel_rfl) (i := 7) (u32E (gW ws 4)) rfl rfl rfl rfl rfl rfl (fun u hu => load_ws (hu.holds 0 _ rfl).2 (by omega)) ?_
 refine RD.adv tk (by kernel_rfl) [] rfl rfl (by simp <;> omega) ?_
 refine RD.loadG (by kernel_rfl) (i := 9) (u32E (gW ws 5)) rfl rfl rfl rfl rfl rfl (fun u hu => load_ws (hu.holds 0 _ rfl).2 (by omega)) ?_
 refine RD.adv tk (by kernel_rfl) [] rfl rfl (by simp <;> omega) ?_
 refine RD.loadG (by kernel_rfl) (i := 12) (u32E (gW ws 4)) rfl rfl rfl rfl rfl rfl (fun u hu => load_ws (hu.holds 0 _ rfl).2 (by omega)) ?_
 refine RD.adv tk (by kernel_rfl) [] rfl rfl (by simp <;> omega) ?_
 refine RD.loadG (by kernel_rfl) (i := 15) (u32E (gW ws 6)) rfl rfl rfl rfl rfl rfl (fun u hu => load_ws (hu.holds 0 _ rfl).2 (by omega)) ?_
 refine RD.adv tk (by kernel_rfl) [] rfl rfl (by simp <;> omega) ?_
 refine RD.gives (i := 5) (u32E (mixW ⟨6, 11, 25, false⟩ (gW ws 4))) rfl (by kernel_rfl) rfl rfl rfl rfl Tryz.call287 (fun u _ => of_spec u ⟨6, 11, 25, false⟩ ⟨by decide, by decide, by decide⟩ (gW ws 4)) rfl (fun _ h => h) ?_
 intro m2 hm2
 refine RD.adv tk (by kernel_rfl) [] rfl rfl (by simp <;> omega) ?_
 refine RD.tell [(4, u32E (gW ws 7)), (8, u32E (mixW ⟨6, 11, 25, false⟩ (gW ws 4))), (20, u32E ((gW ws 4 &&& gW ws 5) ^^^ (notW (gW ws 4) &&& gW ws 6)))] [(0, wsE w.heap.size 226 ws)] [] (by unfold u32E u32V; rw [w_xor, w_and, w_and, w_not]; rfl) rfl rfl 1 ?_
 refine RD.step tk (i := 18) rfl (by kernel_rfl) rfl rfl rfl (by simp [AllOb, Ob.P, u32V, one_int]; try rfl) rfl (fun _ h => h) ⟨rfl, rfl⟩ ?_
 refine RD.adv tk (by kernel_rfl) [] rfl rfl (by simp <;> omega) ?_
 refine RD.gives (i := 19) (u32E (roundA ws)) rfl (by kernel_rfl) rfl rfl rfl rfl Tryz.call263 (fun u hu => added_spec u _ _ [gW ws 7, mixW ⟨6, 11, 25, false⟩ (gW ws 4), ((gW ws 4 &&& gW ws 5) ^^^ (notW (gW ws 4) &&& gW ws 6))] (Sl.own (B := w.heap.size) (hu.row (κ := kW) (l := [gW ws 7, mixW ⟨6, 11, 25, false⟩ (gW ws 4), ((gW ws 4 &&& gW ws 5) ^^^ (notW (gW ws 4) &&& gW ws 6))]) (id := 1) rfl) (by simp [hl]))) rfl (fun _ h => h) ?_
 intro m3 hm3
 refine RD.adv tk (by kernel_rfl) [] rfl rfl (by simp <;> omega) ?_
 refine RD.done (.inl rfl) (by kernel_rfl) ?_
 refine RH.adv tk [] rfl rfl (by simp <;> omega) ?_
 refine RH.ret1 Tryz.func286 rfl rfl fun w' hst => ⟨rfl, hst.fact⟩
theorem rounds2_spec (w : World) (ws : List UInt32) (h8 : ws.length = 8) : Gives Tryz.prog 288 [wsV ws] w (u32E (roundB ws)) := by
 have hl : lim = 140737488351232 := rfl
 refine enterH tk [(0, .av (.val (wsV ws)))] Tryz.func288 rfl Tryz.ntmps288 rfl rfl ?_
 refine RH.adv tk [] rfl rfl ⟨⟨by unfold wsC; simp [h8]; rfl, wsC_one ws⟩, trivial⟩ ?_
 refine RH.boxObj (id := 0) (wsC ws) rfl (boxCells_ws ws) ?_
 refine RH.draw rfl [(0, wsE w.heap.size 226 ws)] rfl 24 rfl rfl ?_
 refine RD.adv tk (by kernel_rfl) [] rfl rfl (by simp <;> omega) ?_
 refine RD.loadG (by kernel_rfl) (i := 2) (u32E (gW ws 0)) rfl rfl rfl rfl rfl rfl (fun u hu => load_ws (hu.holds 0 _ rfl).2 (by omega)) ?_
 refine RD.adv tk (by kernel_rfl) [] rfl rfl (by simp <;> omega) ?_
 refine RD.loadG (by kernel_rfl) (i := 5) (u32E (gW ws 0)) rfl rfl rfl rfl rfl rfl (fun u hu => load_ws (hu.holds 0 _ rfl).2 (by omega)) ?_
 refine RD.adv tk (by kernel_rfl) [] rfl rfl (by simp <;> omega) ?_
 refine RD.loadG (by kernel_rfl) (i := 7) (u32E (gW ws 1)) rfl rfl rfl rfl rfl rfl (fun u hu => load_ws (hu.holds 0 _ rfl).2 (by omega)) ?_
 refine RD.adv tk (by kernel_rfl) [] rfl rfl (by simp <;> omega) ?_
 refine RD.loadG (by kernel_rfl) (i := 10) (u32E (gW ws 0)) rfl rfl rfl rfl rfl rfl (fun u hu => load_ws (hu.holds 0 _ rfl).2 (by omega)) ?_
 refine RD.adv tk (by kernel_rfl) [] rfl rfl (by simp <;> omega) ?_
 refine RD.loadG (by kernel_rfl) (i := 12) (u32E (gW ws 2)) rfl rfl rfl rfl rfl rfl (fun u hu => load_ws (hu.holds 0 _ rfl).2 (by omega)) ?_
 refine RD.adv tk (by kernel_rfl) [] rfl rfl (by simp <;> omega) ?_
 refine RD.loadG (by kernel_rfl) (i := 16) (u32E (gW ws 1)) rfl rfl rfl rfl rfl rfl (fun u hu => load_ws (hu.holds 0 _ rfl).2 (by omega)) ?_
 refine RD.adv tk (by kernel_rfl) [] rfl rfl (by simp <;> omega) ?_
 refine RD.loadG (by kernel_rfl) (i := 18) (u32E (gW ws 2)) rfl rfl rfl rfl rfl rfl (fun u hu => load_ws (hu.holds 0 _ rfl).2 (by omega)) ?_
 refine RD.adv tk (by kernel_rfl) [] rfl rfl (by simp <;> omega) ?_
 refine RD.gives (i := 3) (u32E (mixW ⟨2, 13, 22, false⟩ (gW ws 0))) rfl (by kernel_rfl) rfl rfl rfl rfl Tryz.call287 (fun u _ => of_spec u ⟨2, 13, 22, false⟩ ⟨by decide, by decide, by decide⟩ (gW ws 0)) rfl (fun _ h => h) ?_
 intro m2 hm2
 refine RD.adv tk (by kernel_rfl) [] rfl rfl (by simp <;> omega) ?_
 refine RD.tell [(6, u32E (mixW ⟨2, 13, 22, false⟩ (gW ws 0))), (23, u32E ((gW ws 0 &&& gW ws 1) ^^^ (gW ws 0 &&& gW ws 2) ^^^ (gW ws 1 &&& gW ws 2)))] [(0, wsE w.heap.size 226 ws)] [] (by unfold u32E u32V; rw [w_xor, w_xor, w_and, w_and, w_and]; rfl) rfl rfl 1 ?_
 refine RD.step tk (i := 21) rfl (by kernel_rfl) rfl rfl rfl (by simp [AllOb, Ob.P, u32V, one_int]; try rfl) rfl (fun _ h => h) ⟨rfl, rfl⟩ ?_
 refine RD.adv tk (by kernel_rfl) [] rfl rfl (by simp <;> omega) ?_
 refine RD.gives (i := 22) (u32E (roundB ws)) rfl (by kernel_rfl) rfl rfl rfl rfl Tryz.call263 (fun u hu => added_spec u _ _ [mixW ⟨2, 13, 22, false⟩ (gW ws 0), ((gW ws 0 &&& gW ws 1) ^^^ (gW ws 0 &&& gW ws 2) ^^^ (gW ws 1 &&& gW ws 2))] (Sl.own (B := w.heap.size) (hu.row (κ := kW) (l := [mixW ⟨2, 13, 22, false⟩ (gW ws 0), ((gW ws 0 &&& gW ws 1) ^^^ (gW ws 0 &&& gW ws 2) ^^^ (gW ws 1 &&& gW ws 2))]) (id := 1) rfl) (by simp [hl]))) rfl (fun _ h => h) ?_
 intro m3 hm3
 refine RD.adv tk (by kernel_rfl) [] rfl rfl (by simp <;> omega) ?_
 refine RD.done (.inl rfl) (by kernel_rfl) ?_
 refine RH.adv tk [] rfl rfl (by simp <;> omega) ?_
 refine RH.ret1 Tryz.func288 rfl rfl fun w' hst => ⟨rfl, hst.fact⟩
def iterN {α : Type} (f : Nat → α → α) : Nat → α → α
 | 0, x => x
 | n + 1, x => f n (iterN f n x)
theorem iterN_inv {α : Type} {f : Nat → α → α} {p : α → Prop} (h : ∀ n x, p x → p (f n x)) : ∀ n x, p x → p (iterN f n x)
 | 0, _, hx => hx
 | n + 1, x, hx => h n _ (iterN_inv h n x hx)
def b2w (b : UInt8) : UInt32 := UInt32.ofNat b.toNat
theorem w_byte (b : UInt8) : ((b2w b).toNat : Int) = (b.toNat : Int) % 4294967296 := by
 unfold b2w
 have := b.toNat_lt
 rw [UInt32.toNat_ofNat']; omega
def byteAt (blk : List UInt8) (i : Nat) : UInt8 := blk.getD i 0
def innW (blk : List UInt8) (i : Nat) (j : Nat) (ws : List UInt32) : List UInt32 := iterN (fun j ws => ws.set i (shlW (gW ws i) 8 ||| b2w (byteAt blk (4 * i + j)))) j ws
def firstW (blk : List UInt8) (i : Nat) : List UInt32 := iterN (fun i ws => innW blk i 4 ws) i (List.replicate 64 0)
def lowM : Mixed := ⟨7, 18, 3, true⟩
def highM : Mixed := ⟨17, 19, 10, true⟩
def nextW (n : Nat) (ws : List UInt32) : UInt32 := sumW [gW ws n, gW ws (n + 9), mixW lowM (gW ws (n + 1)), mixW highM (gW ws (n + 14))]
def extW (n : Nat) (ws : List UInt32) : List UInt32 := iterN (fun n ws => ws.set (n + 16) (nextW n ws)) n ws
def spreadW (blk : List UInt8) : List UInt32 := extW 48 (firstW blk 16)
theorem innW_len (blk : List UInt8) (i j : Nat) (ws : List UInt32) : (innW blk i j ws).length = ws.length :=
 iterN_inv (p := fun (x : List UInt32) => x.length = ws.length) (fun n x h => by rw [List.length_set]; exact h) j ws rfl
theorem firstW_len (blk : List UInt8) (i : Nat) : (firstW blk i).length = 64 :=
 iterN_inv (p := fun (x : List UInt32) => x.length = 64) (fun n x h => by rw [innW_len]; exact h) i _ (by rw [List.length_replicate])
theorem extW_len (n : Nat) (ws : List UInt32) : (extW n ws).length = ws.length :=
 iterN_inv (p := fun (x : List UInt32) => x.length = ws.length) (fun n x h => by rw [List.length_set]; exact h) n ws rfl
theorem spreadW_len (blk : List UInt8) : (spreadW blk).length = 64 := by unfold spreadW; rw [extW_len, firstW_len]
theorem load_wsAt {w : World} {b : Nat} {T : TypeId} {ws : List UInt32} (h : w.heap[b]? = some (.cells (wsC ws) T)) (i : Nat) (hi : i < ws.length) (o : Nat) (ho : o = i * 1) : (loadVar 225 ⟨b, o, none⟩).run Tryz.prog w = .ok (u32V (gW ws i)) w := by
 rw [ho]; exact load_ws h hi
theorem V.RH.storeW {f : Fr} {n : Nat} {S : Stops} {R : Ending → World → Prop} {B0 : Nat} {I : World → Prop} {H : Heap} {nx m : Nat} {env : SEnv} {k : List Item} {ops : Array Oper} {i : Nat} {rs : List Nat} {ty : TypeId} {ps : String} {af : Array Edge} {gd : Option (Nat × Bool)} {px y : Operand} {pa : Addr} {ey : EV} {id b : Nat} {T : TypeId} {ws : List UInt32} (j : Nat) (x : UInt32)
  (ho : ops.toList[i]? = some ⟨none, .store 225 px y, ty, ps, af, gd⟩) (hw : wantE env ops gd = .yes) (hx : ptrE (evE env px) = some pa) (hy : evE env y = some ey) (hH : loH H id = wsE b T ws) (hj : j < ws.length) (hp : pa = ⟨b, j * 1, none⟩) (hv : ey.v = u32V x)
  (hk : ∀ m', m ≤ m' → RH Tryz.prog f n tb B0 S R (.inRegion ops rs :: k) env ((id, wsE b T (ws.set j x)) :: H) nx m' I) : RH Tryz.prog f n tb B0 S R (.inRegion ops (i :: rs) :: k) env H nx m I :=
 RH.storeS _ ho hw hx hy (fun w _ hst => by rw [hv, hp]; exact hst.storeW hH hj x) hk
theorem V.RD.lastS {P : Program} {f : Fr} {n : Nat} {S : Stops} {R : Ending → World → Prop} {tb : TT} {B0 : Nat} {I : World → Prop} {H : Heap} {nx m : Nat} {env : SEnv} {k : List Item} {ops : Array Oper} {i : Nat} {l : List Bool} {G0 : Heap} {I0 : World → Prop} {ty : TypeId} {ps : String} {af : Array Edge} {gd : Option (Nat × Bool)} {T : TypeId} {px y : Operand} {pa : Addr} {ey : EV} (H' : Heap)
  (ho : ops.toList[i]? = some ⟨none, .store T px y, ty, ps, af, gd⟩) (hr : Region.ready .any ops l.toArray = [i]) (hw : wantE env ops gd = .yes) (hf : finB ops i = true) (hl : Region.ready .any ops (l.set i true).toArray = []) (hx : ptrE (evE env px) = some pa) (hy : evE env y = some ey)
  (hv : ∀ w, w.heap.size = m → St tb B0 H I w → ∃ w', (storeVar T pa ey.v).run P w = .ok () w' ∧ w.heap.size ≤ w'.heap.size ∧ St tb B0 H' I w')
  (hk : ∀ m', m ≤ m' → RH P f n tb B0 S R k env H' nx m' I) : RD P f n tb B0 S R k ops G0 I0 (0 + 1) l env H nx m I :=
 let ⟨_, h1, h2⟩ := ptrE_ok hx; RD.last ho hr hw hf (OpGo.store h1 h2 hy hv) nx hl fun _ => hk
theorem V.RD.lastW {f : Fr} {n : Nat} {S : Stops} {R : Ending → World → Prop} {B0 : Nat} {I : World → Prop} {H : Heap} {nx m : Nat} {env : SEnv} {k : List Item} {ops : Array Oper} {i : Nat} {l : List Bool} {G0 : Heap} {I0 : World → Prop} {ty : TypeId} {ps : String} {af : Array Edge} {gd : Option (Nat × Bool)} {px y : Operand} {pa : Addr} {ey : EV} {id b : Nat} {T : TypeId} {ws : List UInt32} (j : Nat) (x : UInt32)
  (ho : ops.toList[i]? = some ⟨none, .store 225 px y, ty, ps, af, gd⟩) (hr : Region.ready .any ops l.toArray = [i]) (hw : wantE env ops gd = .yes) (hf : finB ops i = true) (hl : Region.ready .any ops (l.set i true).toArray = []) (hx : ptrE (evE env px) = some pa) (hy : evE env y = some ey) (hH : loH H id = wsE b T ws) (hj : j < ws.length) (hp : pa = ⟨b, j * 1, none⟩) (hv : ey.v = u32V x)
  (hk : ∀ m', m ≤ m' → RH Tryz.prog f n tb B0 S R k env ((id, wsE b T (ws.set j x)) :: H) nx m' I) : RD Tryz.prog f n tb B0 S R k ops G0 I0 (0 + 1) l env H nx m I :=
 RD.lastS _ ho hr hw hf hl hx hy (fun w _ hst => by rw [hv, hp]; exact hst.storeW hH hj x) hk
theorem spread_spec (w : World) (A : Option Addr) (c : Nat) (blk : List UInt8) (h : Sl kBy w A c blk) (h64 : blk.length = 64) : Gives Tryz.prog 262 [.slice A blk.length c] w (.av (.val (wsV (spreadW blk)))) := by
 have hl : lim = 140737488351232 := rfl
 have hcap := h.cap
 have hptr := h.ptr (i := 0) (by omega)
 refine enterH tk [(0, slE A blk.length c)] Tryz.func262 rfl Tryz.ntmps262 rfl rfl ?_
 refine RH.adv tk [] rfl rfl ⟨⟨rfl, List.all_eq_true.1 (by kernel_rfl)⟩, trivial⟩ ?_
 refine RH.boxObj (id := 0) (wsC (firstW blk 0)) rfl (by show boxCells [.val (.agg (wsC (List.replicate 64 0)))] = _; exact boxCells_ws _) ?_
 refine RH.loop (α := Nat) (fun i => [(2, .av (.box 0 w.heap.size 0)), (0, slE A blk.length c), (9, intE i)]) (fun i => [(0, wsE w.heap.size 367 (firstW blk i))]) (fun i u => Ext w u ∧ i ≤ 16) (fun i => 16 - i) 0 rfl rfl (fun u hu => ⟨hu, by decide⟩) ?_
 intro i m
 refine RH.pure (fun u hu => hu.2) fun hi => ?_
 by_cases hlt : i < 16
 ·refine RH.adv tk [true] rfl rfl (by simp <;> omega) ?_
  have e1 : subA A ((4 : Int) * i).toNat c (Tryz.t5).size = some ⟨blkA A, offA A + 4 * i, none⟩ := by
   have hp : A = some ⟨blkA A, offA A, none⟩ := hptr
   have e : ((4 : Int) * i).toNat = 4 * i := by omega
   unfold subA
   rw [e, if_neg (by omega), hp]
   show some (Addr.add ⟨blkA A, offA A, none⟩ (4 * i * 1)) = _
   rw [Addr.add_lit, Nat.mul_one]
   rfl
  have e2 : ((4 : Int) * i + 4).toNat - ((4 : Int) * i).toNat = 4 := by omega
  have e3 : c - ((4 : Int) * i).toNat = c - 4 * i := by omega
  rw [e1, e2, e3]
  refine RH.loop (α := Nat) (fun j => [(2, .av (.box 0 w.heap.size 0)), (0, slE A blk.length c), (9, intE i), (3, intE i), (18, slE (some ⟨blkA A, offA A + 4 * i, none⟩) 4 (c - 4 * i)), (19, intE 4), (20, intE j)]) (fun j => [(0, wsE w.heap.size 367 (innW blk i j (firstW blk i)))]) (fun j u => Ext w u ∧ j ≤ 4) (fun j => 4 - j) 0 rfl rfl (fun u hu => ⟨hu.1, by decide⟩) ?_
  intro j m
  refine RH.pure (fun u hu => hu.2) fun hj => ?_
  have hlen : (innW blk i j (firstW blk i)).length = 64 := by rw [innW_len, firstW_len]
  by_cases hjt : j < 4
  ·have hp2 : Ptr (some (⟨blkA A, offA A + 4 * i, none⟩ : Addr)) := rfl
   refine RH.adv tk [true] rfl rfl (by simp [hp2] <;> omega) ?_
   refine RH.load (.av (.val (u8V (byteAt blk (4 * i + j))))) rfl rfl rfl rfl (fun u hu => ?_) ?_
   ·have h1 := (h.ext hu.1).load (i := 4 * i + j) (by omega)
    have e4 : offA A + (4 * i + j) * kBy.sz = offA A + 4 * i + j * 1 := by show offA A + (4 * i + j) * 1 = _; omega
    rw [e4] at h1
    have e5 : byteAt blk (4 * i + j) = blk[4 * i + j] := by unfold byteAt; simp [h64, show 4 * i + j < 64 by omega]
    rw [e5]
    exact h1
   refine RH.adv tk [] rfl rfl (by simp <;> omega) ?_
   refine RH.loadS (u32E (gW (innW blk i j (firstW blk i)) i)) rfl rfl rfl rfl (fun u hu => load_wsAt (hu.holds 0 _ rfl).2 i (by omega) _ rfl) ?_
   refine RH.adv tk [] rfl rfl (by simp <;> omega) ?_
   refine RH.storeW (id := 0) (ws := innW blk i j (firstW blk i)) i (shlW (gW (innW blk i j (firstW blk i)) i) 8 ||| b2w (byteAt blk (4 * i + j))) rfl rfl rfl rfl rfl (by omega) rfl (by unfold u32V; rw [w_or, w_shl _ 8 (by decide), w_byte]; rfl) ?_
   intro m2 hm2
   refine RH.adv tk [] rfl rfl (by simp <;> omega) ?_
   exact RH.again (j + 1) (.head _) rfl rfl (by show 4 - (j + 1) < 4 - j; omega) fun u hu => ⟨hu.1, hjt⟩
  ·have hj4 : j = 4 := by omega
   subst hj4
   refine RH.adv tk [false] rfl rfl (by simp <;> omega) ?_
   exact RH.again (i + 1) (.tail _ (.head _)) rfl rfl (by show 16 - (i + 1) < 16 - i; omega) fun u hu => ⟨hu.1, hlt⟩
 ·have hi16 : i = 16 := by omega
  subst hi16
  refine RH.adv tk [false] rfl rfl (by simp <;> omega) ?_
  refine RH.loop (α := Nat) (fun n => [(2, .av (.box 0 w.heap.size 0)), (6, .av (.box 1 m 0)), (7, .av (.box 2 (m + 1) 0)), (8, intE (n + 16 : Nat))]) (fun n => [(0, wsE w.heap.size 367 (extW n (firstW blk 16))), (1, some (.box m [.val (intV 7), .val (intV 18), .val (intV 3), .val (.bool true)] 389)), (2, some (.box (m + 1) [.val (intV 17), .val (intV 19), .val (intV 10), .val (.bool true)] 389))]) (fun n u => Ext w u ∧ n ≤ 48) (fun n => 48 - n) 0 rfl rfl (fun u hu => ⟨hu.1, by decide⟩) ?_
  intro n m2
  refine RH.pure (fun u hu => hu.2) fun hn => ?_
  have hlen : (extW n (firstW blk 16)).length = 64 := by rw [extW_len, firstW_len]
  have hnext : (extW n (firstW blk 16)).set (n + 16) (nextW n (extW n (firstW blk 16))) = extW (n + 1) (firstW blk 16) := rfl
  by_cases hnt : n < 48
  ·refine RH.adv tk [true] rfl rfl (by simp <;> omega) ?_
   generalize hW : extW n (firstW blk 16) = W at *
   refine RH.draw rfl [(0, wsE w.heap.size 367 W), (1, some (.box m [.val (intV 7), .val (intV 18), .val (intV 3), .val (.bool true)] 389)), (2, some (.box (m + 1) [.val (intV 17), .val (intV 19), .val (intV 10), .val (.bool true)] 389))] rfl 25 rfl rfl ?_
   refine RD.adv tk (by kernel_rfl) [] rfl rfl (by simp <;> omega) ?_
   refine RD.loadG (by kernel_rfl) (i := 4) (u32E (gW W (n))) rfl rfl rfl rfl rfl rfl (fun u hu => load_wsAt (hu.holds 0 _ rfl).2 (n) (by omega) _ (by show (((n + 16 : Nat) : Int) - 16).toNat * 1 = (n) * 1; omega)) ?_
   refine RD.adv tk (by kernel_rfl) [] rfl rfl (by simp <;> omega) ?_
   refine RD.loadG (by kernel_rfl) (i := 8) (u32E (gW W (n + 9))) rfl rfl rfl rfl rfl rfl (fun u hu => load_wsAt (hu.holds 0 _ rfl).2 (n + 9) (by omega) _ (by show (((n + 16 : Nat) : Int) - 7).toNat * 1 = (n + 9) * 1; omega)) ?_
   refine RD.adv tk (by kernel_rfl) [] rfl rfl (by simp <;> omega) ?_
   refine RD.loadG (by kernel_rfl) (i := 13) (u32E (gW W (n + 1))) rfl rfl rfl rfl rfl rfl (fun u hu => load_wsAt (hu.holds 0 _ rfl).2 (n + 1) (by omega) _ (by show (((n + 16 : Nat) : Int) - 15).toNat * 1 = (n + 1) * 1; omega)) ?_
   refine RD.adv tk (by kernel_rfl) [] rfl rfl (by simp <;> omega) ?_
   refine RD.loadG (by kernel_rfl) (i := 19) (u32E (gW W (n + 14))) rfl rfl rfl rfl rfl rfl (fun u hu => load_wsAt (hu.holds 0 _ rfl).2 (n + 14) (by omega) _ (by show (((n + 16 : Nat) : Int) - 2).toNat * 1 = (n + 14) * 1; omega)) ?_
   refine RD.adv tk (by kernel_rfl) [] rfl rfl (by simp <;> omega) ?_
   refine RD.gives (i := 14) (u32E (mixW lowM (gW W (n + 1)))) rfl (by kernel_rfl) rfl rfl rfl rfl Tryz.call287 (fun u _ => of_spec u lowM ⟨by decide, by decide, by decide⟩ _) rfl (fun _ h => h) ?_
   intro m3 hm3
   refine RD.adv tk (by kernel_rfl) [] rfl rfl (by simp <;> omega) ?_
   refine RD.gives (i := 20) (u32E (mixW highM (gW W (n + 14)))) rfl (by kernel_rfl) rfl rfl rfl rfl Tryz.call287 (fun u _ => of_spec u highM ⟨by decide, by decide, by decide⟩ _) rfl (fun _ h => h) ?_
   intro m4 hm4
   refine RD.adv tk (by kernel_rfl) [] rfl rfl (by simp <;> omega) ?_
   refine RD.step tk (i := 21) rfl (by kernel_rfl) rfl rfl rfl (by simp [AllOb, Ob.P, u32V, one_int]; try rfl) rfl (fun _ h => h) ⟨rfl, rfl⟩ ?_
   refine RD.adv tk (by kernel_rfl) [] rfl rfl (by simp <;> omega) ?_
   refine RD.gives (i := 22) (u32E (nextW n W)) rfl (by kernel_rfl) rfl rfl rfl rfl Tryz.call263 (fun u hu => added_spec u _ _ [gW W n, gW W (n + 9), mixW lowM (gW W (n + 1)), mixW highM (gW W (n + 14))] (Sl.own (B := w.heap.size) (hu.row (κ := kW) (l := [gW W n, gW W (n + 9), mixW lowM (gW W (n + 1)), mixW highM (gW W (n + 14))]) (id := 3) rfl) (by simp [hl]))) rfl (fun _ h => h) ?_
   intro m5 hm5
   refine RD.adv tk (by kernel_rfl) [] rfl rfl (by simp <;> omega) ?_
   refine RD.lastW (i := 24) (id := 0) (ws := W) (n + 16) (nextW n W) rfl (by kernel_rfl) rfl (by kernel_rfl) (by kernel_rfl) rfl rfl rfl (by omega) rfl rfl ?_
   intro m6 hm6
   refine RH.adv tk [] rfl rfl (by simp <;> omega) ?_
   rw [hnext]
   exact RH.again (n + 1) (.head _) rfl rfl (by show 48 - (n + 1) < 48 - n; omega) fun u hu => ⟨hu.1, hnt⟩
  ·have hn48 : n = 48 := by omega
   subst hn48
   refine RH.objBox (id := 0) [.val (wsV (spreadW blk))] rfl (boxCells_ws _).symm ⟨_, rfl, vok_w64 (spreadW_len blk)⟩ ?_
   refine RH.adv tk [false] rfl rfl ⟨⟨by unfold wsC; simp [spreadW_len]; rfl, wsC_one _⟩, by simp [Ob.P], trivial⟩ ?_
   exact RH.retBox tk (.av (.val (wsV (spreadW blk)))) Tryz.func262 rfl rfl rfl rfl fun w' hst => ⟨rfl, hst.fact.1⟩
end Go.Proofs.YtbfjmimiigjenaaGreatDoor
