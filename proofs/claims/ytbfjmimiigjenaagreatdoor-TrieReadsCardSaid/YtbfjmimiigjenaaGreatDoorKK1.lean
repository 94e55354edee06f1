/-
Contracts of functions, and lemmas on them. No condition.
-/
import Derived.Test.YtbfjmimiigjenaaGreatDoorKPW3
import Derived.Test.YtbfjmimiigjenaaGreatDoorKPS5
import Derived.Test.YtbfjmimiigjenaaGreatDoorKQ38
set_option linter.unusedVariables false
set_option linter.unusedSectionVars false
set_option linter.unusedSimpArgs false
namespace Go.Proofs.YtbfjmimiigjenaaGreatDoor
open Go V
theorem V.RunD.lastStep0 {P : Program} {f : Fr} {n : Nat} {S : Stops} {R : Ending → World → Prop} {tb : TT} {B0 : Nat} {I : World → Prop} {H : Heap} {nx m : Nat} {env : SEnv} {k : List Item} {ops : Array Oper} {i : Nat} {l : List Bool} {G0 : Heap} {I0 : World → Prop} {o : Oper} (hk : tb.Ok P) {v : Option EV} {H' : Heap} {nx' m' : Nat} {ob : List Ob} {eq : List Eqn}
    (ho : ops.toList[i]? = some o) (hr : Region.ready .any ops l.toArray = [i]) (hw : wantE env ops o.guard = .yes) (hf : finB ops i = true) (hl : Region.ready .any ops (l.set i true).toArray = [])
    (hs : stepOp tb env H nx m [] [] o.op = some (v, H', nx', m', ob, eq)) (heq : AllEqn eq) (hob : AllOb ob) (hm : m ≤ m') {env' : SEnv} (hv : OutOk n v o.dst env env')
    (h : ∀ m1, m ≤ m1 → RunH P f n tb B0 S R k env' H' nx' m1 I) : RunD P f n tb B0 S R k ops G0 I0 (0 + 1) l env H nx m I := by
  refine RunD.last (E := fun _ : Unit => env') (G := fun _ => H') (F := fun _ => I) ho hr hw hf ?_ nx' hl fun _ m1 hm1 => h m1 hm1
  intro w a hmw hst ha
  unfold OutOk at hv
  obtain ⟨w', q1, q2, q3, _⟩ := stepOp_ok hk ha hst hmw hs hob heq
  unfold Oper.wp
  rw [q1]
  cases v with
  | none =>
    cases hd : o.dst with
    | none =>
      rw [hd] at hv
      have hv : env' = env := hv
      subst hv
      exact ⟨(), by rw [hd]; exact ha, by omega, q2⟩
    | some d => rw [hd] at hv; exact hv.elim
  | some e =>
    cases hd : o.dst with
    | none => rw [hd] at hv; exact hv.elim
    | some d =>
      rw [hd] at hv
      obtain ⟨hdn, rfl⟩ := hv
      refine ⟨(), ?_, by omega, q2⟩
      rw [kn_cons, hd]
      exact ha.put (Nat.lt_of_lt_of_le (Nat.lt_succ_self d) (Nat.le_of_ble_eq_true hdn)) _
structure Sto where
  A : Option Addr
  c : Nat
  l : List UInt8
  at_ : Nat
  seed : Int
def stoB (b : Nat) (s : Sto) : HE := .box b [.val (.slice s.A s.l.length s.c), .val (intV s.at_), .val (.int .u64 s.seed)] 150
def Sto.to (s : Sto) (y : Nat × Int) : Sto := ⟨s.A, s.c, s.l, y.1, y.2⟩
def stepZ (z : Int) : Int := ((z * 6364136223846793005) % 18446744073709551616 + 1442695040888963407) % 18446744073709551616
def outZ (z : Int) : Int := (z % 18446744073709551616).fdiv (2 ^ min (Int.toNat 40) IntKind.u64.bits)
theorem outZ_range (z : Int) : 0 ≤ outZ z ∧ outZ z < 16777216 := by
  have e : (2 : Int) ^ min (Int.toNat 40) IntKind.u64.bits = 1099511627776 := by decide
  unfold outZ
  rw [e, Int.fdiv_eq_ediv_of_nonneg _ (by decide)]
  omega
theorem outZ_i64 (z : Int) : -9223372036854775808 ≤ (z % 18446744073709551616).fdiv (2 ^ min 40 IntKind.u64.bits) ∧ (z % 18446744073709551616).fdiv (2 ^ min 40 IntKind.u64.bits) ≤ 9223372036854775807 := by
  have := outZ_range z
  have e : outZ z = (z % 18446744073709551616).fdiv (2 ^ min 40 IntKind.u64.bits) := rfl
  omega
theorem out_int (z : Int) : intV ((outZ z).toNat : Nat) = .int .i64 (outZ z) := by
  unfold intV
  rw [Int.toNat_of_nonneg (outZ_range z).1]
set_option maxRecDepth 10000 in
set_option maxHeartbeats 1000000 in
theorem draw_spec (b : Nat) (s : Sto) (hn : s.l.length ≤ 300) (ha : s.at_ ≤ 1000000000) :
    Does Tryz.prog tb 139 [.pointer (some ⟨b, 0, none⟩)] [(0, some (stoB b s))] (fun u => Sl kByte u s.A s.c s.l) (fun y : Nat × Nat × Int => intV y.1) (fun y => [(0, some (stoB b (s.to y.2)))]) (fun y _ _ => y.1 < 16777216 ∧ y.2.1 ≤ s.at_ + 1) := by
  obtain ⟨A, c, l, a, z⟩ := s
  dsimp only at hn ha
  unfold stoB Sto.to
  dsimp only
  refine Does.enter tb_ok [(0, .av (.box 0 b 0))] Tryz.func139 rfl Tryz.ntmps139 rfl rfl 1 ?_
  intro B0 m0 K
  by_cases h0 : 0 < l.length
  · have hq : ((a : Int) % (l.length : Int)).toNat = a % l.length := by rw [← Int.natCast_emod]; exact Int.toNat_natCast _
    have hq1 : 0 ≤ (a : Int) % (l.length : Int) := Int.emod_nonneg _ (by omega)
    have hq2 : (a : Int) % (l.length : Int) < l.length := Int.emod_lt_of_pos _ (by omega)
    have hq3 : a % l.length < l.length := Nat.mod_lt _ h0
    refine RunH.pure (fun u h => h.2.ptr hq3) fun hptr => ?_
    refine RunH.adv tb_ok [true] rfl rfl (by simp <;> omega) ?_
    refine RunH.draw rfl [(0, some (.box b [.val (.slice A l.length c), .val (intV a), .val (.int .u64 z)] 150))] rfl 25 rfl rfl ?_
    refine RunD.adv tb_ok (by kernel_rfl) [] rfl rfl (by simp [hptr, hq1, hq2, h0] <;> omega) ?_
    refine RunD.loadS (i := 19) (.av (.val (u8V l[a % l.length]))) rfl (by kernel_rfl) rfl rfl rfl (fun u hu => by rw [hq]; exact hu.fact.2.load hq3) rfl (fun _ h => h) ?_
    intro m1 hm1
    refine RunD.adv tb_ok (by kernel_rfl) [] rfl rfl (by simp) ?_
    refine RunD.lastStep0 (i := 24) tb_ok rfl (by kernel_rfl) rfl (by kernel_rfl) (by kernel_rfl) rfl rfl ?_ (Nat.le_refl _) rfl ?_
    · first | trivial | (simp; done)
    intro m2 hm2
    refine RunH.adv tb_ok [] rfl rfl (by simp; exact ⟨outZ_i64 _, by omega, by omega⟩) ?_
    refine RunH.ret1 Tryz.func139 rfl rfl fun w hst => ⟨((outZ ((IntKind.u64.wrap ↑(BitVec.ofInt IntKind.u64.bits z ^^^ BitVec.ofInt IntKind.u64.bits (↑l[a % l.length].toNat % 18446744073709551616)).toNat) * 6364136223846793005 % 18446744073709551616 + 1442695040888963407)).toNat, a + 1, stepZ ((IntKind.u64.wrap ↑(BitVec.ofInt IntKind.u64.bits z ^^^ BitVec.ofInt IntKind.u64.bits (↑l[a % l.length].toNat % 18446744073709551616)).toNat))), ?_, hst.out [(0, 0)] rfl rfl fun u h => ⟨h.1, ?_, ?_⟩⟩
    · rw [out_int]; rfl
    · have := outZ_range ((IntKind.u64.wrap ↑(BitVec.ofInt IntKind.u64.bits z ^^^ BitVec.ofInt IntKind.u64.bits (↑l[a % l.length].toNat % 18446744073709551616)).toNat) * 6364136223846793005 % 18446744073709551616 + 1442695040888963407); dsimp only; omega
    · dsimp only; omega
  · have h1 : l.length = 0 := by omega
    refine RunH.adv tb_ok [false] rfl rfl (by simp [h1]; exact outZ_i64 _) ?_
    refine RunH.ret1 Tryz.func139 rfl rfl fun w hst => ⟨((outZ (z * 6364136223846793005 % 18446744073709551616 + 1442695040888963407)).toNat, a, stepZ (z)), ?_, hst.out [(0, 0)] rfl rfl fun u h => ⟨h.1, ?_, ?_⟩⟩
    · rw [out_int]; rfl
    · have := outZ_range (z * 6364136223846793005 % 18446744073709551616 + 1442695040888963407); dsimp only; omega
    · dsimp only; omega
theorem rem_nat (v n : Nat) : ((v : Int) % (n : Int)) = ((v % n : Nat) : Int) := (Int.natCast_emod v n).symm
theorem less_spec (b : Nat) (s : Sto) (hn : s.l.length ≤ 300) (ha : s.at_ ≤ 1000000000) (n : Nat) (h1 : 0 < n) (h2 : n ≤ 1000000) :
    Does Tryz.prog tb 76 [.pointer (some ⟨b, 0, none⟩), intV n] [(0, some (stoB b s))] (fun u => Sl kByte u s.A s.c s.l) (fun y : Nat × Nat × Int => intV y.1) (fun y => [(0, some (stoB b (s.to y.2)))]) (fun y _ _ => y.1 < n ∧ y.2.1 ≤ s.at_ + 1) := by
  refine Does.enter tb_ok [(0, .av (.box 0 b 0)), (1, intE n)] Tryz.func76 rfl Tryz.ntmps76 rfl rfl 1 ?_
  intro B0 m0 K
  refine RunH.adv tb_ok [false] rfl rfl (by simp [h1] <;> omega) ?_
  refine RunH.doesB [(0, 0)] 2 (hc := Tryz.call139) (ho := rfl) (hw := rfl) (hd := rfl) (hf := rfl) (hes := rfl) (hσ := rfl) (hn := rfl) (hV := fun _ => rfl) (hG := fun _ => rfl) (e := fun y : Nat × Nat × Int => intE y.1) (hC := draw_spec b s hn ha) (hp := fun u hu => hu.fact.2) ?_
  rintro ⟨v, a2, z2⟩ m2 hm2
  refine RunH.pure (fun u h => h.2) fun hv => ?_
  have hm : v % n < n := Nat.mod_lt _ h1
  have hq := rem_nat v n
  refine RunH.adv tb_ok [] rfl rfl (by simp [hq] <;> omega) ?_
  refine RunH.ret1 Tryz.func76 rfl rfl fun w hst => ⟨(v % n, a2, z2), ?_, hst.out [(0, 0)] rfl rfl fun u h => ⟨h.1.1, hm, hv.2⟩⟩
  dsimp only
  rw [← hq]; rfl
theorem build_sto (w : World) (A : Option Addr) (n c : Nat) : (Instr.build 150 #[(0, .slice A n c), (2, .int .u64 88172645463325252)]).run Tryz.prog w = .ok (.agg #[.slice A n c, intV 0, .int .u64 88172645463325252]) w := by
  refine run_build w _ _ _ ?_
  kernel_rfl
theorem OfK_spec (A : Option Addr) (c : Nat) (l : List UInt8) :
    Does Tryz.prog tb 15 [.slice A l.length c] [] (fun u => Sl kByte u A c l) (fun y : Nat × Option Addr × Nat => .pointer (some ⟨y.1, 0, none⟩)) (fun y => [(0, some (stoB y.1 ⟨y.2.1, y.2.2, l.take 300, 0, 88172645463325252⟩)), (1, rowE kByte y.2.1 y.2.2 (l.take 300))]) (fun _ _ _ => True) := by
  refine Does.enter tb_ok [(0, slE A l.length c)] Tryz.func15 rfl Tryz.ntmps15 rfl rfl 0 ?_
  intro B0 m0 K
  refine RunH.pure (fun u h => And.intro h.2.cap h.2.small) fun ⟨hcap, hsm⟩ => ?_
  have hl : lim = 140737488351232 := rfl
  refine RunH.adv tb_ok [] rfl rfl (by simp <;> omega) ?_
  have ht : (l.take 300).length ≤ l.length := by rw [List.length_take]; omega
  have ht3 : (l.take 300).length ≤ 300 := by rw [List.length_take]; omega
  refine RunH.read (intE (((l.take 300).length : Nat) : Int)) rfl rfl rfl rfl (fun w' a _ ha => ?_) ?_
  · have h1 : a.eval (.tmp 5) = .int .i64 l.length := ev_run (e := intE l.length) ha rfl
    have e : (if (300 : Int) < (l.length : Int) then (300 : Int) else (l.length : Int)) = (((l.take 300).length : Nat) : Int) := by rw [List.length_take]; split <;> omega
    have h2 : (Builtin.min_ #[3, 3] 3 #[.int .i64 l.length, .int .i64 300]).run Tryz.prog w' = .ok (.int .i64 (((l.take 300).length : Nat) : Int)) w' := by
      simp [Builtin.min_, Builtin.min2, e]
    have h3 : a.eval (.const (.int .i64 300)) = .int .i64 300 := rfl
    show (execOp a.eval ⟨some 6, .call ⟨.builtin .min, #[.tmp 5, .const (.int .i64 300)], #[3, 3]⟩, 3, _, _, _⟩).run Tryz.prog w' = _
    simp only [execOp, resolve, invoke, builtin, Sem.run_bind, Sem.run_pure, Result.andThen_ok, List.map_toArray, List.map_cons, List.map_nil, h1, h3, h2]
    rfl
  have hsl : ∀ u, Sl kByte u A c l → Sl kByte u A c (l.take 300) := fun u h => by
    by_cases h3 : 300 ≤ l.length
    · exact Sl.take h 300 h3
    · rw [List.take_of_length_le (by omega)]; exact h
  refine RunH.adv tb_ok [] rfl rfl (by simp <;> omega) ?_
  refine RunH.doesB [] 1 (hc := Tryz.call90) (ho := rfl) (hw := rfl) (hd := rfl) (hf := rfl) (hes := rfl) (hσ := rfl) (hn := rfl) (hV := fun _ => rfl) (hG := fun _ => rfl) (e := fun y : Option Addr × Nat => rowS 0 y.1 (l.take 300).length y.2) (hC := cloneB A c (l.take 300) (by omega)) (hp := fun u hu => hsl u hu.fact.2) ?_
  rintro ⟨A1, c1⟩ m1 hm1
  refine RunH.drop ?_
  refine RunH.read (.st [.val (.slice A1 (l.take 300).length c1), .val (intV 0), .val (.int .u64 88172645463325252)]) rfl rfl rfl rfl (fun w' a _ ha => ?_) ?_
  · have h1 : a.eval (.tmp 8) = .slice A1 (l.take 300).length c1 := ev_run (e := rowS 0 A1 (l.take 300).length c1) ha rfl
    have h3 : a.eval (.const (.int .u64 88172645463325252)) = .int .u64 88172645463325252 := rfl
    simp only [execOp, List.map_toArray, List.map_cons, List.map_nil, h1, h3, build_sto, Sem.run_bind, Result.andThen_ok, Sem.run_pure]
    rfl
  refine RunH.adv tb_ok [] rfl rfl (by simp <;> omega) ?_
  refine RunH.ret1 Tryz.func15 rfl rfl fun w hst => ⟨(m1, A1, c1), rfl, hst.out [(0, 1), (1, 0)] rfl rfl fun u h => ⟨h.1, trivial⟩⟩
end Go.Proofs.YtbfjmimiigjenaaGreatDoor
namespace Go.Proofs.YtbfjmimiigjenaaGreatDoor
open Go V RowKit
theorem seldom_spec (b : Nat) (s : Sto) (hn : s.l.length ≤ 300) (ha : s.at_ ≤ 1000000000) (n : Nat) (h1 : 0 < n) (h2 : n ≤ 1000000) :
    Does Tryz.prog tb 19 [.pointer (some ⟨b, 0, none⟩), intV n] [(0, some (stoB b s))] (fun u => Sl kByte u s.A s.c s.l) (fun y : Bool × Nat × Int => .bool y.1) (fun y => [(0, some (stoB b (s.to y.2)))]) (fun y _ _ => y.2.1 ≤ s.at_ + 1) := by
  refine Does.enter tb_ok [(0, .av (.box 0 b 0)), (1, intE n)] Tryz.func19 rfl Tryz.ntmps19 rfl rfl 1 ?_
  intro B0 m0 K
  refine RunH.adv tb_ok [] rfl rfl (by simp <;> omega) ?_
  refine RunH.doesB [(0, 0)] 2 (hc := Tryz.call76) (ho := rfl) (hw := rfl) (hd := rfl) (hf := rfl) (hes := rfl) (hσ := rfl) (hn := rfl) (hV := fun _ => rfl) (hG := fun _ => rfl) (e := fun y : Nat × Nat × Int => intE y.1) (hC := less_spec b s hn ha n h1 h2) (hp := fun u hu => hu.fact.2) ?_
  rintro ⟨v, a2, z2⟩ m2 hm2
  refine RunH.pure (fun u h => h.2) fun hv => ?_
  refine RunH.adv tb_ok [] rfl rfl (by simp <;> omega) ?_
  refine RunH.ret1 Tryz.func19 rfl rfl fun w hst => ⟨(decide ((v : Int) = 0), a2, z2), rfl, hst.out [(0, 0)] rfl rfl fun u h => ⟨h.1.1, hv.2⟩⟩
theorem idxStr_spec (w : World) (A : Option Addr) (c : Nat) (l : List Str) (h : Sl kStr w A c l) (x : Str) : Gives Tryz.prog 244 [.slice A l.length c, strV x] w (intE (idxOf (fun y => decide (x = y)) l 0)) := by
  have hl : lim = 140737488351232 := rfl
  have hsm := h.small
  refine enterH tb_ok [(0, slE A l.length c), (1, strE x)] Tryz.func244 rfl Tryz.ntmps244 rfl rfl ?_
  refine RunH.adv tb_ok [] rfl rfl (by simp <;> omega) ?_
  refine RunH.loop (α := Nat) (fun i => [(0, slE A l.length c), (1, strE x), (7, intE l.length), (8, intE i)]) (fun _ => []) (fun i w' => Ext w w' ∧ i ≤ l.length ∧ (l.take i).any (fun y => decide (x = y)) = false) (fun i => l.length - i) 0
    rfl rfl (fun w' h => ⟨h, Nat.zero_le _, rfl⟩) ?_
  intro i m
  refine RunH.pure (fun w' h => h.2) fun ⟨hi, hpre⟩ => ?_
  by_cases hlt : i < l.length
  · have hts : l.take (i + 1) = l.take i ++ [l[i]] := List.take_succ_eq_append_getElem hlt
    have hp := h.ptr hlt
    refine RunH.adv tb_ok [true] rfl rfl (by simp [hp] <;> omega) ?_
    refine RunH.load (strE l[i]) rfl rfl rfl rfl (fun w' h' => (h.ext h'.1).load hlt) ?_
    by_cases hp : x = l[i]
    · refine RunH.adv tb_ok [true] rfl rfl (by simp [hp] <;> omega) ?_
      refine RunH.ret1 Tryz.func244 rfl rfl fun w' hst => ⟨?_, hst.fact.1⟩
      rw [idxOf_at _ l 0 i hlt hpre (by simpa using hp), Nat.zero_add]
    · refine RunH.adv tb_ok [false] rfl rfl (by simp [hp] <;> omega) ?_
      refine RunH.again (i + 1) (.head _) rfl rfl (by omega) fun w' h => ⟨h.1, by omega, ?_⟩
      rw [hts, List.any_append, hpre]; simp [hp]
  · rw [List.take_of_length_le (by omega)] at hpre
    refine RunH.adv tb_ok [false] rfl rfl (by simp <;> omega) ?_
    refine RunH.ret1 Tryz.func244 rfl rfl fun w' hst => ⟨?_, hst.fact.1⟩
    rw [idxOf_none _ l 0 hpre]
def hasS (l : List Str) (x : Str) : Bool := l.any fun y => decide (x = y)
theorem conStr_spec (w : World) (A : Option Addr) (c : Nat) (l : List Str) (h : Sl kStr w A c l) (x : Str) : Gives Tryz.prog 166 [.slice A l.length c, strV x] w (boolE (hasS l x)) := by
  refine enterH tb_ok [(0, slE A l.length c), (1, strE x)] Tryz.func166 rfl Tryz.ntmps166 rfl rfl ?_
  refine RunH.adv tb_ok [] rfl rfl (by simp <;> omega) ?_
  refine RunH.gives (intE (idxOf (fun y => decide (x = y)) l 0)) rfl rfl rfl rfl rfl Tryz.call244 (fun w' hst => idxStr_spec w' A c l (h.ext hst.fact) x) ?_
  intro m' hm'
  refine RunH.adv tb_ok [] rfl rfl (by simp <;> omega) ?_
  refine RunH.ret1 Tryz.func166 rfl rfl fun w' hst => ⟨?_, hst.fact⟩
  have : decide (0 ≤ idxOf (fun y => decide (x = y)) l 0) = hasS l x := by rw [Bool.eq_iff_iff]; simp only [decide_eq_true_eq]; exact idxOf_ge _ l 0
  simp [this, EV.v, AV.v]
section
variable {n : Nat} {B0 : Nat} {I : World → Prop} {H : Heap} {m : Nat} {env : SEnv}
end
end Go.Proofs.YtbfjmimiigjenaaGreatDoor
namespace Go.Proofs.YtbfjmimiigjenaaGreatDoor
open Go V RowKit
def nmK (t : Str) : Prop := t.length ≤ 50 ∧ (99 : UInt8) ∉ t
theorem nmK_nil : nmK [] := ⟨Nat.zero_le _, by simp⟩
theorem nmK_take {t : Str} (h : nmK t) (n : Nat) : nmK (t.take n) := ⟨by rw [List.length_take]; have := h.1; omega, fun hm => h.2 (List.mem_of_mem_take hm)⟩
theorem nmK_more {t : Str} (h : nmK t) (h2 : t.length < 50) {c : UInt8} (hc : c ∈ ([97, 98, 0, 255] : List UInt8)) : nmK (t ++ [c]) := ⟨by simp; omega, by
  rw [List.mem_append, List.mem_singleton]
  rintro (hm | rfl)
  · exact h.2 hm
  · exact absurd hc (by decide)⟩
theorem hasS_mem (l : List Str) (x : Str) : hasS l x = true ↔ x ∈ l := by
  unfold hasS
  rw [List.any_eq_true]
  constructor
  · rintro ⟨y, hy, h⟩
    simp only [decide_eq_true_eq] at h
    subst h; exact hy
  · exact fun h => ⟨x, h, by simp⟩
abbrev letters : List UInt8 := [97, 98, 0, 255]
set_option maxRecDepth 10000 in
set_option maxHeartbeats 1000000 in
theorem named03_spec (b : Nat) (s : Sto) (hn : s.l.length ≤ 300) (ha : s.at_ ≤ 100000) (most : Nat) (h2 : most ≤ 50) :
    Does Tryz.prog tb 91 [.pointer (some ⟨b, 0, none⟩), intV most] [(0, some (stoB b s))] (fun u => Sl kByte u s.A s.c s.l)
      (fun y : (Nat × Int) × (Option Addr × Nat) × List Str => .slice y.2.1.1 y.2.2.length y.2.1.2)
      (fun y => [(0, some (stoB b (s.to y.1))), (1, rowE kStr y.2.1.1 y.2.1.2 y.2.2)])
      (fun y _ _ => (y.2.2.Nodup ∧ (∀ t ∈ y.2.2, nmK t) ∧ y.2.2.length ≤ most) ∧ y.1.1 ≤ s.at_ + 1 + 7 * most) := by
  have hl : lim = 140737488351232 := rfl
  refine Does.enter tb_ok [(0, .av (.box 0 b 0)), (1, intE most)] Tryz.func91 rfl Tryz.ntmps91 rfl rfl 1 ?_
  intro B0 m0 K
  refine RunH.nilrow 1 kStr.T kStr.sz 2 ?_
  refine RunH.adv tb_ok [] rfl rfl (by simp <;> omega) ?_
  refine RunH.doesB [(0, 0)] 3 (hc := Tryz.call76) (ho := rfl) (hw := rfl) (hd := rfl) (hf := rfl) (hes := rfl) (hσ := rfl) (hn := rfl) (hV := fun _ => rfl) (hG := fun _ => rfl) (e := fun y : Nat × Nat × Int => intE y.1) (hC := less_spec b s hn (by omega) (most + 1) (by omega) (by omega)) (hp := fun u hu => hu.fact.2) ?_
  rintro ⟨n, st0⟩ m1 hm1
  refine RunH.pure (fun u h => h.2) fun hnn => ?_
  dsimp only at hnn
  have hs0 : st0.1 ≤ s.at_ + 1 := hnn.2
  refine RunH.adv tb_ok [] rfl rfl (by simp <;> omega) ?_
  refine RunH.loop (α := Nat × (Nat × Int) × (Option Addr × Nat) × List Str) (fun z => [(0, .av (.box 0 b 0)), (1, intE most), (5, rowS 1 z.2.2.1.1 z.2.2.2.length z.2.2.1.2), (11, intE n), (12, intE z.1)]) (fun z => [(0, some (stoB b (s.to z.2.1))), (1, rowE kStr z.2.2.1.1 z.2.2.1.2 z.2.2.2)])
    (fun z u => (K u ∧ Sl kByte u s.A s.c s.l) ∧ z.1 ≤ n ∧ (z.2.2.2.Nodup ∧ (∀ t ∈ z.2.2.2, nmK t) ∧ z.2.2.2.length ≤ z.1) ∧ z.2.1.1 ≤ s.at_ + 1 + 7 * z.1) (fun z => n - z.1) (0, st0, (none, 0), []) rfl rfl (fun u h => ⟨h.1, Nat.zero_le _, ⟨List.nodup_nil, by simp, Nat.le_refl _⟩, hs0⟩) ?_
  rintro ⟨k, st, ⟨A, c⟩, l⟩ m2
  refine RunH.pure (fun u h => h.2) fun ⟨hk, ⟨hnd, hnm, hlk⟩, hst⟩ => ?_
  dsimp only at hk hnd hnm hlk hst ⊢
  by_cases hkn : k < n
  · refine RunH.adv tb_ok [true] rfl rfl (by simp; omega) ?_
    apply RunH.joinK (α := Str × Nat × Int) (fun z => [(0, .av (.box 0 b 0)), (1, intE most), (5, rowS 1 A l.length c), (11, intE n), (12, intE k), (6, strE z.1), (35, .av (.box 0 b 0))]) (fun z => [(0, some (stoB b (s.to z.2))), (1, rowE kStr A c l)]) (fun z u => (K u ∧ Sl kByte u s.A s.c s.l) ∧ nmK z.1 ∧ z.2.1 ≤ st.1 + 3)
    · by_cases h0 : 0 < l.length
      · refine RunH.adv tb_ok [true] rfl rfl (by simp [h0] <;> omega) ?_
        refine RunH.doesB [(0, 0)] 3 (hc := Tryz.call19) (ho := rfl) (hw := rfl) (hd := rfl) (hf := rfl) (hes := rfl) (hσ := rfl) (hn := rfl) (hV := fun _ => rfl) (hG := fun _ => rfl) (e := fun y : Bool × Nat × Int => boolE y.1) (hC := seldom_spec b (s.to st) hn (by show st.1 ≤ _; omega) 2 (by omega) (by omega)) (hp := fun u hu => hu.fact.1.2) ?_
        rintro ⟨q, st1⟩ m3 hm3
        refine RunH.pure (fun u h => h.2) fun hq => ?_
        dsimp only at hq
        have hs1 : st1.1 ≤ st.1 + 1 := hq
        cases q with
        | false =>
          refine RunH.adv tb_ok [false] rfl rfl (by simp <;> omega) ?_
          exact RunH.meetS ([], st1) [] (.head _) rfl rfl rfl fun u h => ⟨h.1.1, nmK_nil, (by omega : st1.1 ≤ st.1 + 3)⟩
        | true =>
          refine RunH.adv tb_ok [true] rfl rfl (by simp <;> omega) ?_
          refine RunH.doesB [(0, 0)] 3 (hc := Tryz.call76) (ho := rfl) (hw := rfl) (hd := rfl) (hf := rfl) (hes := rfl) (hσ := rfl) (hn := rfl) (hV := fun _ => rfl) (hG := fun _ => rfl) (e := fun y : Nat × Nat × Int => intE y.1) (hC := less_spec b (s.to st1) hn (by show st1.1 ≤ _; omega) l.length (by omega) (by omega)) (hp := fun u hu => hu.fact.1.1.2) ?_
          rintro ⟨i, st2⟩ m4 hm4
          refine RunH.pure (fun u h => h.2) fun hi => ?_
          dsimp only at hi
          have hs2 : st2.1 ≤ st1.1 + 1 := hi.2
          refine RunH.pureS (fun u hu => hu.ptr (id := 1) (κ := kStr) (l := l) rfl (by intro e; rw [e] at h0; cases h0)) fun hptr => ?_
          refine RunH.adv tb_ok [] rfl rfl (by simp [hptr] <;> omega) ?_
          refine RunH.loadS (strE l[i]) rfl rfl rfl rfl (fun u hu => hu.loadRow (κ := kStr) (id := 1) (l := l) rfl (by omega) hi.1) ?_
          have hle : List.length l[i] ≤ 50 := (hnm _ (List.getElem_mem hi.1)).1
          refine RunH.adv tb_ok [] rfl rfl (by simp <;> omega) ?_
          refine RunH.doesB [(0, 0)] 3 (hc := Tryz.call76) (ho := rfl) (hw := rfl) (hd := rfl) (hf := rfl) (hes := rfl) (hσ := rfl) (hn := rfl) (hV := fun _ => rfl) (hG := fun _ => rfl) (e := fun y : Nat × Nat × Int => intE y.1) (hC := less_spec b (s.to st2) hn (by show st2.1 ≤ _; omega) (l[i].length + 1) (by omega) (by have := (hnm _ (List.getElem_mem hi.1)).1; omega)) (hp := fun u hu => hu.fact.1.1.1.2) ?_
          rintro ⟨j, st3⟩ m5 hm5
          refine RunH.pure (fun u h => h.2) fun hj => ?_
          dsimp only at hj
          have hs3 : st3.1 ≤ st2.1 + 1 := hj.2
          refine RunH.adv tb_ok [] rfl rfl (by simp; exact Nat.le_of_lt_succ hj.1) ?_
          exact RunH.meetS (l[i].take j, st3) [] (.head _) rfl rfl rfl fun u h => ⟨h.1.1.1.1, nmK_take (hnm _ (List.getElem_mem hi.1)) j, (by omega : st3.1 ≤ st.1 + 3)⟩
      · refine RunH.adv tb_ok [false] rfl rfl (by simp [h0] <;> omega) ?_
        exact RunH.meetS ([], st) [] (.head _) rfl rfl rfl fun u h => ⟨h.1, nmK_nil, Nat.le_add_right _ _⟩
    rintro ⟨t, st3⟩ m5
    refine RunH.pure (fun u h => h.2) fun ⟨ht, hst3⟩ => ?_
    dsimp only at ht hst3 ⊢
    refine RunH.toNx 4 ?_
    refine RunH.doesB [(0, 0)] 3 (hc := Tryz.call76) (ho := rfl) (hw := rfl) (hd := rfl) (hf := rfl) (hes := rfl) (hσ := rfl) (hn := rfl) (hV := fun _ => rfl) (hG := fun _ => rfl) (e := fun y : Nat × Nat × Int => intE y.1) (hC := less_spec b (s.to st3) hn (by show st3.1 ≤ _; omega) 4 (by omega) (by omega)) (hp := fun u hu => hu.fact.1.2) ?_
    rintro ⟨q, st4⟩ m6 hm6
    refine RunH.pure (fun u h => h.2) fun hq => ?_
    dsimp only at hq
    have hs4 : st4.1 ≤ st3.1 + 1 := hq.2
    refine RunH.adv tb_ok [] rfl rfl (by simp <;> omega) ?_
    refine RunH.loop (α := Nat × Str × (Nat × Int)) (fun z => [(0, .av (.box 0 b 0)), (1, intE most), (5, rowS 1 A l.length c), (11, intE n), (12, intE k), (6, strE z.2.1), (36, intE q), (37, intE z.1)]) (fun z => [(0, some (stoB b (s.to z.2.2))), (1, rowE kStr A c l)])
      (fun z u => (K u ∧ Sl kByte u s.A s.c s.l) ∧ z.1 ≤ q ∧ nmK z.2.1 ∧ z.2.2.1 ≤ st4.1 + z.1) (fun z => q - z.1) (0, t, st4) rfl rfl (fun u h => ⟨h.1.1, Nat.zero_le _, ht, Nat.le_refl _⟩) ?_
    rintro ⟨j, t, st5⟩ m7
    refine RunH.pure (fun u h => h.2) fun ⟨hj, ht, hst5⟩ => ?_
    dsimp only at hj ht hst5 ⊢
    by_cases hjq : j < q
    · refine RunH.adv tb_ok [true] rfl rfl (by simp; omega) ?_
      refine RunH.doesB [(0, 0)] 4 (hc := Tryz.call76) (ho := rfl) (hw := rfl) (hd := rfl) (hf := rfl) (hes := rfl) (hσ := rfl) (hn := rfl) (hV := fun _ => rfl) (hG := fun _ => rfl) (e := fun y : Nat × Nat × Int => intE y.1) (hC := less_spec b (s.to st5) hn (by show st5.1 ≤ _; omega) 4 (by omega) (by omega)) (hp := fun u hu => hu.fact.1.2) ?_
      rintro ⟨r, st6⟩ m8 hm8
      refine RunH.pure (fun u h => h.2) fun hr => ?_
      dsimp only at hr
      have hs6 : st6.1 ≤ st5.1 + 1 := hr.2
      refine RunH.adv tb_ok [] rfl rfl (by simp; exact ⟨rfl, by omega⟩) ?_
      have hr4 : r < letters.length := hr.1
      refine RunH.loadS (.av (.val (u8V letters[r]))) rfl rfl rfl rfl (fun u hu => hu.loadRow (κ := kByte) (id := 3) (l := letters) rfl (by show 4 ≤ lim; decide) hr4) ?_
      have hcm : letters[r] ∈ letters := List.getElem_mem hr4
      generalize letters[r] = ch at hcm ⊢
      by_cases h50 : t.length < 50
      · refine RunH.adv tb_ok [true] rfl rfl (by simp [h50] <;> omega) ?_
        refine RunH.go rfl rfl (OpGo.byteStr (A := some ⟨m8, 0, none⟩) (c := 1) (l := [ch]) rfl rfl rfl (by simp) (fun u hu => Sl.own (B := B0) (hu.row (κ := kByte) (l := [ch]) (id := 4) rfl) (by simp [hl]))) 5 ?_
        rintro ⟨⟩ m9 hm9
        refine RunH.adv tb_ok [] rfl rfl (by simp <;> omega) ?_
        refine RunH.again (j + 1, t ++ [ch], st6) (.head _) rfl rfl (by dsimp only; omega) fun u h => ⟨h.1.1, by dsimp only; omega, nmK_more ht h50 hcm, by dsimp only; omega⟩
      · refine RunH.adv tb_ok [false] rfl rfl (by simp [h50] <;> omega) ?_
        refine RunH.again (j + 1, t, st6) (.head _) rfl rfl (by dsimp only; omega) fun u h => ⟨h.1.1, by dsimp only; omega, ht, by dsimp only; omega⟩
    · obtain rfl : j = q := by omega
      refine RunH.adv tb_ok [false] rfl rfl (by simp) ?_
      refine RunH.gives (ho := rfl) (hw := rfl) (hd := rfl) (hf := rfl) (hes := rfl) (hc := Tryz.call166) (e := boolE (hasS l t)) (hC := fun u hu => conStr_spec u A c l (Sl.own (B := B0) (hu.row (κ := kStr) (l := l) (id := 1) rfl) (by omega)) t) ?_
      intro m8 hm8
      by_cases hh : hasS l t = true
      · refine RunH.adv tb_ok [false] rfl rfl (by simp [hh] <;> omega) ?_
        refine RunH.again (k + 1, st5, (A, c), l) (.tail _ (.head _)) rfl rfl (by dsimp only; omega) fun u h => ⟨h.1, by dsimp only; omega, ⟨hnd, hnm, by dsimp only; omega⟩, by dsimp only; omega⟩
      · have hh2 : hasS l t = false := by simpa using hh
        refine RunH.adv tb_ok [true] rfl rfl (by simp [hh2] <;> omega) ?_
        refine RunH.appendK (κ := kStr) (id := 1) (l := l) (r := [t]) rfl rfl rfl rfl rfl rfl elt_str rfl rfl (fun w hst => hst.liesRow (κ := kStr) (l := [t]) (id := 3) rfl (by simp [hl])) (by simp; omega) (by simp; omega) ?_
        intro A' c' m' hm'
        refine RunH.adv tb_ok [] rfl rfl (by simp <;> omega) ?_
        refine RunH.again (k + 1, st5, (A', c'), l ++ [t]) (.tail _ (.head _)) rfl rfl (by dsimp only; omega) fun u h => ⟨h.1, by dsimp only; omega, ⟨?_, ?_, by simp; omega⟩, by dsimp only; omega⟩
        · refine List.nodup_append.2 ⟨hnd, by simp, ?_⟩
          intro x hx y hy e
          rw [List.mem_singleton] at hy
          subst hy; subst e
          exact hh ((hasS_mem l x).2 hx)
        · intro x hx
          rw [List.mem_append, List.mem_singleton] at hx
          rcases hx with hx | rfl
          · exact hnm x hx
          · exact ht
  · obtain rfl : k = n := by omega
    refine RunH.adv tb_ok [false] rfl rfl (by simp) ?_
    refine RunH.ret1 Tryz.func91 rfl rfl fun w hst => ⟨(st, (A, c), l), rfl, hst.out [] rfl rfl fun u h => ⟨h.1.1, ⟨hnd, hnm, by dsimp only; omega⟩, by dsimp only; omega⟩⟩
theorem u8_of (v : Nat) : Value.int .u8 ((v : Int) % 256) = u8V (UInt8.ofNat v) := by
  unfold u8V
  congr 1
set_option maxRecDepth 10000 in
set_option maxHeartbeats 1000000 in
theorem filled_spec (b : Nat) (s : Sto) (hn : s.l.length ≤ 300) (ha : s.at_ ≤ 1000) (most : Nat) (h2 : most ≤ 50) :
    Does Tryz.prog tb 16 [.pointer (some ⟨b, 0, none⟩), intV most] [(0, some (stoB b s))] (fun u => Sl kByte u s.A s.c s.l)
      (fun y : (Nat × Int) × (Option Addr × Nat) × (Option Addr × Nat) × List Str × List Sum => .tuple #[.slice y.2.1.1 y.2.2.2.1.length y.2.1.2, .slice y.2.2.1.1 y.2.2.2.2.length y.2.2.1.2])
      (fun y => [(0, some (stoB b (s.to y.1))), (1, rowE kStr y.2.1.1 y.2.1.2 y.2.2.2.1), (2, rowE kSum y.2.2.1.1 y.2.2.1.2 y.2.2.2.2)])
      (fun y _ _ => (y.2.2.2.1.Nodup ∧ (∀ t ∈ y.2.2.2.1, nmK t) ∧ y.2.2.2.1.length ≤ most) ∧ y.2.2.2.2.length = y.2.2.2.1.length ∧ y.1.1 ≤ s.at_ + 1 + 8 * most) := by
  have hl : lim = 140737488351232 := rfl
  refine Does.enter tb_ok [(0, .av (.box 0 b 0)), (1, intE most)] Tryz.func16 rfl Tryz.ntmps16 rfl rfl 1 ?_
  intro B0 m0 K
  refine RunH.adv tb_ok [] rfl rfl (by simp <;> omega) ?_
  refine RunH.doesB [(0, 0)] 3 (hc := Tryz.call91) (ho := rfl) (hw := rfl) (hd := rfl) (hf := rfl) (hes := rfl) (hσ := rfl) (hn := rfl) (hV := fun _ => rfl) (hG := fun _ => rfl) (e := fun y : (Nat × Int) × (Option Addr × Nat) × List Str => rowS 2 y.2.1.1 y.2.2.length y.2.1.2) (hC := named03_spec b s hn (by omega) most h2) (hp := fun u hu => hu.fact.2) ?_
  rintro ⟨st0, ⟨A, c⟩, l⟩ m1 hm1
  refine RunH.pure (fun u h => h.2) fun ⟨⟨hnd, hnm, hlm⟩, hst0⟩ => ?_
  dsimp only at hnd hnm hlm hst0 ⊢
  refine RunH.nilrow 3 kSum.T kSum.sz 4 ?_
  refine RunH.adv tb_ok [] rfl rfl (by simp <;> omega) ?_
  refine RunH.loop (α := Nat × (Nat × Int) × (Option Addr × Nat) × List Sum) (fun z => [(0, .av (.box 0 b 0)), (6, rowS 2 A l.length c), (7, rowS 3 z.2.2.1.1 z.2.2.2.length z.2.2.1.2), (12, intE l.length), (13, intE z.1)]) (fun z => [(0, some (stoB b (s.to z.2.1))), (2, rowE kStr A c l), (3, rowE kSum z.2.2.1.1 z.2.2.1.2 z.2.2.2)])
    (fun z u => (K u ∧ Sl kByte u s.A s.c s.l) ∧ z.1 ≤ l.length ∧ z.2.2.2.length = z.1 ∧ z.2.1.1 ≤ st0.1 + z.1) (fun z => l.length - z.1) (0, st0, (none, 0), []) rfl rfl (fun u h => ⟨h.1, Nat.zero_le _, rfl, Nat.le_refl _⟩) ?_
  rintro ⟨i, st, ⟨B, d⟩, xs⟩ m2
  refine RunH.pure (fun u h => h.2) fun ⟨hi, hx, hst⟩ => ?_
  dsimp only at hi hx hst ⊢
  by_cases hlt : i < l.length
  · refine RunH.adv tb_ok [true] rfl rfl (by simp <;> omega) ?_
    refine RunH.doesB [(0, 0)] 4 (hc := Tryz.call76) (ho := rfl) (hw := rfl) (hd := rfl) (hf := rfl) (hes := rfl) (hσ := rfl) (hn := rfl) (hV := fun _ => rfl) (hG := fun _ => rfl) (e := fun y : Nat × Nat × Int => intE y.1) (hC := less_spec b (s.to st) hn (by show st.1 ≤ _; omega) 4 (by omega) (by omega)) (hp := fun u hu => hu.fact.1.2) ?_
    rintro ⟨v, st1⟩ m3 hm3
    refine RunH.pure (fun u h => h.2) fun hv => ?_
    dsimp only at hv
    have hs1 : st1.1 ≤ st.1 + 1 := hv.2
    refine RunH.adv tb_ok [] rfl rfl (by simp <;> omega) ?_
    dsimp only
    rw [u8_of v]
    refine RunH.gives (ho := rfl) (hw := rfl) (hd := rfl) (hf := rfl) (hes := rfl) (hc := Tryz.call21) (e := sumE (sum1 (UInt8.ofNat v))) (hC := fun u hu => one3_spec u _) ?_
    intro m4 hm4
    refine RunH.adv tb_ok [] rfl rfl (by simp <;> omega) ?_
    refine RunH.appendK (κ := kSum) (id := 3) (l := xs) (r := [sum1 (UInt8.ofNat v)]) rfl rfl rfl rfl rfl rfl elt_sum rfl rfl (fun w hst => hst.liesRow (κ := kSum) (l := [sum1 (UInt8.ofNat v)]) (id := 4) rfl (by simp [hl])) (by simp; omega) (by simp; omega) ?_
    intro B' d' m' hm'
    refine RunH.adv tb_ok [] rfl rfl (by simp <;> omega) ?_
    refine RunH.again (i + 1, st1, (B', d'), xs ++ [sum1 (UInt8.ofNat v)]) (.head _) rfl rfl (by dsimp only; omega) fun u h => ⟨h.1.1, by dsimp only; omega, by simp [hx], by dsimp only; omega⟩
  · obtain rfl : i = l.length := by omega
    refine RunH.adv tb_ok [false] rfl rfl (by simp <;> omega) ?_
    refine RunH.ret2 Tryz.func16 rfl rfl rfl fun w hst => ⟨(st, (A, c), (B, d), l, xs), rfl, hst.out [(0, 0), (1, 2), (2, 3)] rfl rfl fun u h => ⟨h.1.1, ⟨hnd, hnm, hlm⟩, hx, by dsimp only; omega⟩⟩
end Go.Proofs.YtbfjmimiigjenaaGreatDoor
namespace Go.Proofs.YtbfjmimiigjenaaGreatDoor
open Go V RowKit
theorem less_lt : ∀ a b : Str, Op.bytesLess a b = true → a < b
  | [], [] => by simp [Op.bytesLess]
  | [], _ :: _ => fun _ => List.Lex.nil
  | _ :: _, [] => by simp [Op.bytesLess]
  | a :: x, b :: y => by
    intro h
    unfold Op.bytesLess at h
    by_cases h1 : a < b
    · exact List.Lex.rel h1
    · simp [h1] at h
      obtain ⟨rfl, h⟩ := h
      exact List.Lex.cons (less_lt x y h)
theorem wf_from : ∀ l : List (Str × Sum), wfO (fromO l) := by
  intro l
  have : ∀ (l : List (Str × Sum)) (t : Option Tree), wfO t → wfO (l.foldl (fun t e => some (putO t e.1 e.2)) t) := by
    intro l
    induction l with
    | nil => exact fun t h => h
    | cons e r ih => exact fun t h => ih _ (putO_wf h _ _)
  exact this l none trivial
theorem get_fold : ∀ (l : List (Str × Sum)) (t : Option Tree), wfO t → ∀ n, n ∉ l.map Prod.fst → getO (l.foldl (fun t e => some (putO t e.1 e.2)) t) n = getO t n
  | [], _, _, _, _ => rfl
  | e :: r, t, ht, n, hn => by
    rw [List.map_cons, List.mem_cons, not_or] at hn
    rw [List.foldl_cons, get_fold r _ (putO_wf ht _ _) n hn.2, putO_get ht, if_neg hn.1]
theorem get_from_none {l : List (Str × Sum)} {n : Str} (h : n ∉ l.map Prod.fst) : getO (fromO l) n = none := get_fold l none trivial n h
theorem get_fold_mem : ∀ (l : List (Str × Sum)) (t : Option Tree), wfO t → (l.map Prod.fst).Nodup → ∀ n x, (n, x) ∈ l → getO (l.foldl (fun t e => some (putO t e.1 e.2)) t) n = some x
  | [], _, _, _, _, _, h => by cases h
  | e :: r, t, ht, hd, n, x, h => by
    rw [List.map_cons, List.nodup_cons] at hd
    rw [List.foldl_cons]
    rcases List.mem_cons.1 h with rfl | h
    · rw [get_fold r _ (putO_wf ht _ _) _ hd.1, putO_get ht, if_pos rfl]
    · exact get_fold_mem r _ (putO_wf ht _ _) hd.2 n x h
theorem get_from {l : List (Str × Sum)} (hd : (l.map Prod.fst).Nodup) {n : Str} {x : Sum} (h : (n, x) ∈ l) : getO (fromO l) n = some x := get_fold_mem l none trivial hd n x h
theorem get_from_iff {l : List (Str × Sum)} (hd : (l.map Prod.fst).Nodup) (n : Str) (x : Sum) : getO (fromO l) n = some x ↔ (n, x) ∈ l := by
  constructor
  · intro h
    by_cases hn : n ∈ l.map Prod.fst
    · obtain ⟨⟨m, y⟩, hm, rfl⟩ := List.mem_map.1 hn
      have := get_from hd hm
      rw [this] at h
      injection h with h
      subst h; exact hm
    · rw [get_from_none hn] at h; cases h
  · exact get_from hd
theorem scan_all : ∀ (r met : List Str), (met ++ r).Nodup → (∀ n ∈ r, n.length ≤ 60) → scanN met r = 0
  | [], _, _, _ => rfl
  | n :: r, met, hd, hs => by
    have h1 : ¬ 60 < n.length := by have := hs n (.head _); omega
    have h2 : ¬ hasN met n = true := by
      unfold hasN
      rw [List.any_eq_true]
      rintro ⟨m, hm, he⟩
      simp only [decide_eq_true_eq] at he
      subst he
      exact (List.nodup_append.1 hd).2.2 m hm m (.head _) rfl
    rw [scan_next h1 h2]
    exact scan_all r (met ++ [n]) (by rw [List.append_assoc]; exact hd) fun m hm => hs m (.tail _ hm)
theorem from_ok {names : List Str} {sums : List Sum} (hl : sums.length = names.length) (hm : names.length ≤ 600) (hd : names.Nodup) (hs : ∀ n ∈ names, n.length ≤ 60) : fromE names sums = 0 := by
  unfold fromE
  rw [if_neg (fun h => h hl.symm), if_neg (by omega)]
  exact scan_all names [] hd hs
theorem zip_fst {names : List Str} {sums : List Sum} (hl : sums.length = names.length) : (names.zip sums).map Prod.fst = names := List.map_fst_zip (by omega)
end Go.Proofs.YtbfjmimiigjenaaGreatDoor
