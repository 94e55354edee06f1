/-
A part of the proofs of the laws of a seat: contracts of functions and lemmas on them; the listed package variables hold what the program's text lays. No further condition.
-/
import Derived.Test.YtagnkcdhenilbaaGreatDoorKPW4
import Derived.Test.YtagnkcdhenilbaaGreatDoorKPS4
import Derived.Test.YtagnkcdhenilbaaGreatDoorKPS9
import Derived.Test.YtagnkcdhenilbaaGreatDoorKPS17
set_option linter.unusedVariables false
set_option linter.unusedSectionVars false
set_option linter.unusedSimpArgs false
namespace Go.Proofs.YtagnkcdhenilbaaGreatDoor
open Go V

/-- The stepper's operation, the region's last, on which all others lead. -/
theorem V.RunD.lastStep0 {P : Program} {f : Fr} {n : Nat} {S : Stops} {R : Ending → World → Prop} {tb : TT} {B0 : Nat} {I : World → Prop} {H : Heap} {nx m : Nat} {env : SEnv} {k : List Item} {ops : Array Oper} {i : Nat} {l : List Bool} {G0 : Heap} {I0 : World → Prop} {o : Oper} (hk : tb.Ok P) {v : Option EV} {H' : Heap} {nx' m' : Nat} {ob : List Ob} {eq : List Eqn}
    (ho : ops.toList[i]? = some o) (hr : Region.ready .any ops l.toArray = [i]) (hw : wantE env ops o.guard = .yes) (hf : finB ops i = true) (hl : Region.ready .any ops (l.set i true).toArray = [])
    (hs : stepOp tb env H nx m [] [] o.op = some (v, H', nx', m', ob, eq)) (heq : AllEqn eq) (hob : AllOb ob) (hm : m ≤ m') {env' : SEnv} (hv : OutOk n v o.dst env env')
    (h : ∀ m1, m ≤ m1 → RunH P f n tb B0 S R k env' H' nx' m1 I) : RunD P f n tb B0 S R k ops G0 I0 (0 + 1) l env H nx m I := by
  refine RunD.last (E := fun _ : Unit => env') (G := fun _ => H') (F := fun _ => I) ho hr hw hf ?_ nx' hl fun _ m1 hm1 => h m1 hm1
  intro w a hmw hst ha
  unfold OutOk at hv
  obtain ⟨w', q1, q2, q3, _⟩ := stepOp_ok hk ha hst hmw hs hob heq
  unfold Oper.wp
  rw [q1]
  cases v with
  | none =>
    cases hd : o.dst with
    | none =>
      rw [hd] at hv
      have hv : env' = env := hv
      subst hv
      exact ⟨(), by rw [hd]; exact ha, by omega, q2⟩
    | some d => rw [hd] at hv; exact hv.elim
  | some e =>
    cases hd : o.dst with
    | none => rw [hd] at hv; exact hv.elim
    | some d =>
      rw [hd] at hv
      obtain ⟨hdn, rfl⟩ := hv
      refine ⟨(), ?_, by omega, q2⟩
      rw [kn_cons, hd]
      exact ha.put (Nat.lt_of_lt_of_le (Nat.lt_succ_self d) (Nat.le_of_ble_eq_true hdn)) _

theorem V.RunD.pure0 {P : Program} {f : Fr} {n : Nat} {tb : TT} {B0 : Nat} {S : Stops} {R : Ending → World → Prop} {k : List Item} {ops : Array Oper} {G : Heap} {I0 : World → Prop} {fuel : Nat} {l : List Bool} {env : SEnv} {H : Heap} {nx m : Nat} {I : World → Prop} {p : Prop}
    (h : ∀ w, St tb B0 H I w → p) (hr : p → RunD P f n tb B0 S R k ops G I0 fuel l env H nx m I) : RunD P f n tb B0 S R k ops G I0 fuel l env H nx m I :=
  fun w a hm hst => hr (h w hst) w a hm hst

/-- The kit's store of numbers. -/
structure Sto where
  A : Option Addr
  c : Nat
  l : List UInt8
  at_ : Nat
  seed : Int

def stoB (b : Nat) (s : Sto) : HE := .box b [.val (.slice s.A s.l.length s.c), .val (intV s.at_), .val (.int .u64 s.seed)] 153
def Sto.to (s : Sto) (y : Nat × Int) : Sto := ⟨s.A, s.c, s.l, y.1, y.2⟩

def stepZ (z : Int) : Int := ((z * 6364136223846793005) % 18446744073709551616 + 1442695040888963407) % 18446744073709551616
def outZ (z : Int) : Int := (z % 18446744073709551616).fdiv (2 ^ min (Int.toNat 40) IntKind.u64.bits)

theorem outZ_range (z : Int) : 0 ≤ outZ z ∧ outZ z < 16777216 := by
  have e : (2 : Int) ^ min (Int.toNat 40) IntKind.u64.bits = 1099511627776 := by decide
  unfold outZ
  rw [e, Int.fdiv_eq_ediv_of_nonneg _ (by decide)]
  omega
theorem outZ_i64 (z : Int) : -9223372036854775808 ≤ (z % 18446744073709551616).fdiv (2 ^ min 40 IntKind.u64.bits) ∧ (z % 18446744073709551616).fdiv (2 ^ min 40 IntKind.u64.bits) ≤ 9223372036854775807 := by
  have := outZ_range z
  have e : outZ z = (z % 18446744073709551616).fdiv (2 ^ min 40 IntKind.u64.bits) := rfl
  omega
theorem out_int (z : Int) : intV ((outZ z).toNat : Nat) = .int .i64 (outZ z) := by
  unfold intV
  rw [Int.toNat_of_nonneg (outZ_range z).1]

set_option maxRecDepth 10000 in
set_option maxHeartbeats 1000000 in
theorem draw_spec (b : Nat) (s : Sto) (hn : s.l.length ≤ 300) (ha : s.at_ ≤ 1000000000) :
    Does Tryz.prog tb 154 [.pointer (some ⟨b, 0, none⟩)] [(0, some (stoB b s))] (fun u => Sl kByte u s.A s.c s.l) (fun y : Nat × Nat × Int => intV y.1) (fun y => [(0, some (stoB b (s.to y.2)))]) (fun y _ _ => y.1 < 16777216 ∧ y.2.1 ≤ s.at_ + 1) := by
  obtain ⟨A, c, l, a, z⟩ := s
  dsimp only at hn ha
  unfold stoB Sto.to
  dsimp only
  refine Does.enter tb_ok [(0, .av (.box 0 b 0))] Tryz.func154 rfl Tryz.ntmps154 rfl rfl 1 ?_
  intro B0 m0 K
  by_cases h0 : 0 < l.length
  · have hq : ((a : Int) % (l.length : Int)).toNat = a % l.length := by rw [← Int.natCast_emod]; exact Int.toNat_natCast _
    have hq1 : 0 ≤ (a : Int) % (l.length : Int) := Int.emod_nonneg _ (by omega)
    have hq2 : (a : Int) % (l.length : Int) < l.length := Int.emod_lt_of_pos _ (by omega)
    have hq3 : a % l.length < l.length := Nat.mod_lt _ h0
    refine RunH.pure (fun u h => h.2.ptr hq3) fun hptr => ?_
    refine RunH.adv tb_ok [true] rfl rfl (by simp <;> omega) ?_
    refine RunH.draw rfl [(0, some (.box b [.val (.slice A l.length c), .val (intV a), .val (.int .u64 z)] 153))] rfl 25 rfl rfl ?_
    refine RunD.adv tb_ok (by kernel_rfl) [] rfl rfl (by simp [hptr, hq1, hq2, h0] <;> omega) ?_
    refine RunD.loadS (i := 19) (.av (.val (u8V l[a % l.length]))) rfl (by kernel_rfl) rfl rfl rfl (fun u hu => by rw [hq]; exact hu.fact.2.load hq3) rfl (fun _ h => h) ?_
    intro m1 hm1
    refine RunD.adv tb_ok (by kernel_rfl) [] rfl rfl (by simp) ?_
    refine RunD.lastStep0 (i := 24) tb_ok rfl (by kernel_rfl) rfl (by kernel_rfl) (by kernel_rfl) rfl rfl ?_ (Nat.le_refl _) rfl ?_
    · first | trivial | (simp [AllOb, Ob.P, sum_len, sz_sum, one_int, u8V_one]; done)
    intro m2 hm2
    refine RunH.adv tb_ok [] rfl rfl (by simp; exact ⟨outZ_i64 _, by omega, by omega⟩) ?_
    refine RunH.ret1 Tryz.func154 rfl rfl fun w hst => ⟨((outZ ((IntKind.u64.wrap ↑(BitVec.ofInt IntKind.u64.bits z ^^^ BitVec.ofInt IntKind.u64.bits (↑l[a % l.length].toNat % 18446744073709551616)).toNat) * 6364136223846793005 % 18446744073709551616 + 1442695040888963407)).toNat, a + 1, stepZ ((IntKind.u64.wrap ↑(BitVec.ofInt IntKind.u64.bits z ^^^ BitVec.ofInt IntKind.u64.bits (↑l[a % l.length].toNat % 18446744073709551616)).toNat))), ?_, hst.out [(0, 0)] rfl rfl fun u h => ⟨h.1, ?_, ?_⟩⟩
    · rw [out_int]; rfl
    · have := outZ_range ((IntKind.u64.wrap ↑(BitVec.ofInt IntKind.u64.bits z ^^^ BitVec.ofInt IntKind.u64.bits (↑l[a % l.length].toNat % 18446744073709551616)).toNat) * 6364136223846793005 % 18446744073709551616 + 1442695040888963407); dsimp only; omega
    · dsimp only; omega
  · have h1 : l.length = 0 := by omega
    refine RunH.adv tb_ok [false] rfl rfl (by simp [h1]; exact outZ_i64 _) ?_
    refine RunH.ret1 Tryz.func154 rfl rfl fun w hst => ⟨((outZ (z * 6364136223846793005 % 18446744073709551616 + 1442695040888963407)).toNat, a, stepZ (z)), ?_, hst.out [(0, 0)] rfl rfl fun u h => ⟨h.1, ?_, ?_⟩⟩
    · rw [out_int]; rfl
    · have := outZ_range (z * 6364136223846793005 % 18446744073709551616 + 1442695040888963407); dsimp only; omega
    · dsimp only; omega

theorem rem_nat (v n : Nat) : ((v : Int) % (n : Int)) = ((v % n : Nat) : Int) := (Int.natCast_emod v n).symm

theorem less_spec (b : Nat) (s : Sto) (hn : s.l.length ≤ 300) (ha : s.at_ ≤ 1000000000) (n : Nat) (h1 : 0 < n) (h2 : n ≤ 1000000) :
    Does Tryz.prog tb 110 [.pointer (some ⟨b, 0, none⟩), intV n] [(0, some (stoB b s))] (fun u => Sl kByte u s.A s.c s.l) (fun y : Nat × Nat × Int => intV y.1) (fun y => [(0, some (stoB b (s.to y.2)))]) (fun y _ _ => y.1 < n ∧ y.2.1 ≤ s.at_ + 1) := by
  refine Does.enter tb_ok [(0, .av (.box 0 b 0)), (1, intE n)] Tryz.func110 rfl Tryz.ntmps110 rfl rfl 1 ?_
  intro B0 m0 K
  refine RunH.adv tb_ok [false] rfl rfl (by simp [h1] <;> omega) ?_
  refine RunH.doesB [(0, 0)] 2 (hc := Tryz.call154) (ho := rfl) (hw := rfl) (hd := rfl) (hf := rfl) (hes := rfl) (hσ := rfl) (hn := rfl) (hV := fun _ => rfl) (hG := fun _ => rfl) (e := fun y : Nat × Nat × Int => intE y.1) (hC := draw_spec b s hn ha) (hp := fun u hu => hu.fact.2) ?_
  rintro ⟨v, a2, z2⟩ m2 hm2
  refine RunH.pure (fun u h => h.2) fun hv => ?_
  have hm : v % n < n := Nat.mod_lt _ h1
  have hq := rem_nat v n
  refine RunH.adv tb_ok [] rfl rfl (by simp [hq] <;> omega) ?_
  refine RunH.ret1 Tryz.func110 rfl rfl fun w hst => ⟨(v % n, a2, z2), ?_, hst.out [(0, 0)] rfl rfl fun u h => ⟨h.1.1, hm, hv.2⟩⟩
  dsimp only
  rw [← hq]; rfl

theorem from_spec (b : Nat) (s : Sto) (hn : s.l.length ≤ 300) (ha : s.at_ ≤ 1000000000) (lo hi : Nat) (h1 : lo ≤ hi) (h2 : hi ≤ 100000) :
    Does Tryz.prog tb 139 [.pointer (some ⟨b, 0, none⟩), intV lo, intV hi] [(0, some (stoB b s))] (fun u => Sl kByte u s.A s.c s.l) (fun y : Nat × Nat × Int => intV y.1) (fun y => [(0, some (stoB b (s.to y.2)))]) (fun y _ _ => (lo ≤ y.1 ∧ y.1 ≤ hi) ∧ y.2.1 ≤ s.at_ + 1) := by
  refine Does.enter tb_ok [(0, .av (.box 0 b 0)), (1, intE lo), (2, intE hi)] Tryz.func139 rfl Tryz.ntmps139 rfl rfl 1 ?_
  intro B0 m0 K
  refine RunH.adv tb_ok [] rfl rfl (by simp <;> omega) ?_
  have e : (hi : Int) - lo + 1 = ((hi - lo + 1 : Nat) : Int) := by omega
  have hL := less_spec b s hn ha (hi - lo + 1) (by omega) (by omega)
  rw [← e] at hL
  refine RunH.doesB [(0, 0)] 2 (hc := Tryz.call110) (ho := rfl) (hw := rfl) (hd := rfl) (hf := rfl) (hes := rfl) (hσ := rfl) (hn := rfl) (hV := fun _ => rfl) (hG := fun _ => rfl) (e := fun y : Nat × Nat × Int => intE y.1) (hC := hL) (hp := fun u hu => hu.fact.2) ?_
  rintro ⟨v, a2, z2⟩ m2 hm2
  refine RunH.pure (fun u h => h.2) fun hv => ?_
  refine RunH.adv tb_ok [] rfl rfl (by simp <;> omega) ?_
  refine RunH.ret1 Tryz.func139 rfl rfl fun w hst => ⟨(lo + v, a2, z2), ?_, hst.out [(0, 0)] rfl rfl fun u h => ⟨h.1.1, ?_, hv.2⟩⟩
  · dsimp only; rw [Int.natCast_add]; rfl
  · have := hv.1; dsimp only at this ⊢; omega

theorem build_sto (w : World) (A : Option Addr) (n c : Nat) : (Instr.build 153 #[(0, .slice A n c), (2, .int .u64 88172645463325252)]).run Tryz.prog w = .ok (.agg #[.slice A n c, intV 0, .int .u64 88172645463325252]) w := by
  refine run_build w _ _ _ ?_
  kernel_rfl

theorem OfK_spec (A : Option Addr) (c : Nat) (l : List UInt8) :
    Does Tryz.prog tb 39 [.slice A l.length c] [] (fun u => Sl kByte u A c l) (fun y : Nat × Option Addr × Nat => .pointer (some ⟨y.1, 0, none⟩)) (fun y => [(0, some (stoB y.1 ⟨y.2.1, y.2.2, l.take 300, 0, 88172645463325252⟩)), (1, rowE kByte y.2.1 y.2.2 (l.take 300))]) (fun _ _ _ => True) := by
  refine Does.enter tb_ok [(0, slE A l.length c)] Tryz.func39 rfl Tryz.ntmps39 rfl rfl 0 ?_
  intro B0 m0 K
  refine RunH.pure (fun u h => And.intro h.2.cap h.2.small) fun ⟨hcap, hsm⟩ => ?_
  have hl : lim = 140737488351232 := rfl
  refine RunH.adv tb_ok [] rfl rfl (by simp <;> omega) ?_
  have ht : (l.take 300).length ≤ l.length := by rw [List.length_take]; omega
  have ht3 : (l.take 300).length ≤ 300 := by rw [List.length_take]; omega
  refine RunH.read (intE (((l.take 300).length : Nat) : Int)) rfl rfl rfl rfl (fun w' a _ ha => ?_) ?_
  · have h1 : a.eval (.tmp 5) = .int .i64 l.length := ev_run (e := intE l.length) ha rfl
    have e : (if (300 : Int) < (l.length : Int) then (300 : Int) else (l.length : Int)) = (((l.take 300).length : Nat) : Int) := by rw [List.length_take]; split <;> omega
    have h2 : (Builtin.min_ #[3, 3] 3 #[.int .i64 l.length, .int .i64 300]).run Tryz.prog w' = .ok (.int .i64 (((l.take 300).length : Nat) : Int)) w' := by
      simp [Builtin.min_, Builtin.min2, e]
    have h3 : a.eval (.const (.int .i64 300)) = .int .i64 300 := rfl
    show (execOp a.eval ⟨some 6, .call ⟨.builtin .min, #[.tmp 5, .const (.int .i64 300)], #[3, 3]⟩, 3, _, _, _⟩).run Tryz.prog w' = _
    simp only [execOp, resolve, invoke, builtin, Sem.run_bind, Sem.run_pure, Result.andThen_ok, List.map_toArray, List.map_cons, List.map_nil, h1, h3, h2]
    rfl
  have hsl : ∀ u, Sl kByte u A c l → Sl kByte u A c (l.take 300) := fun u h => by
    by_cases h3 : 300 ≤ l.length
    · exact Sl.take h 300 h3
    · rw [List.take_of_length_le (by omega)]; exact h
  refine RunH.adv tb_ok [] rfl rfl (by simp <;> omega) ?_
  refine RunH.doesB [] 1 (hc := Tryz.call115) (ho := rfl) (hw := rfl) (hd := rfl) (hf := rfl) (hes := rfl) (hσ := rfl) (hn := rfl) (hV := fun _ => rfl) (hG := fun _ => rfl) (e := fun y : Option Addr × Nat => rowS 0 y.1 (l.take 300).length y.2) (hC := cloneB A c (l.take 300) (by omega)) (hp := fun u hu => hsl u hu.fact.2) ?_
  rintro ⟨A1, c1⟩ m1 hm1
  refine RunH.drop ?_
  refine RunH.read (.st [.val (.slice A1 (l.take 300).length c1), .val (intV 0), .val (.int .u64 88172645463325252)]) rfl rfl rfl rfl (fun w' a _ ha => ?_) ?_
  · have h1 : a.eval (.tmp 8) = .slice A1 (l.take 300).length c1 := ev_run (e := rowS 0 A1 (l.take 300).length c1) ha rfl
    have h3 : a.eval (.const (.int .u64 88172645463325252)) = .int .u64 88172645463325252 := rfl
    simp only [execOp, List.map_toArray, List.map_cons, List.map_nil, h1, h3, build_sto, Sem.run_bind, Result.andThen_ok, Sem.run_pure]
    rfl
  refine RunH.adv tb_ok [] rfl rfl (by simp <;> omega) ?_
  refine RunH.ret1 Tryz.func39 rfl rfl fun w hst => ⟨(m1, A1, c1), rfl, hst.out [(0, 1), (1, 0)] rfl rfl fun u h => ⟨h.1, trivial⟩⟩
end Go.Proofs.YtagnkcdhenilbaaGreatDoor

namespace Go.Proofs.YtagnkcdhenilbaaGreatDoor
open Go V

theorem join_spec (w : World) (A : Option Addr) (c : Nat) (l : List Str) (h : Sl kStr w A c l) (hne : l ≠ []) (hl : (joinD l).length ≤ 1000000) : Gives Tryz.prog 117 [.slice A l.length c, strV [46]] w (strE (joinD l)) := by
  cases l with
  | nil => exact absurd rfl hne
  | cons x r =>
    have hp := h.addr (by simp)
    have hsm := h.small
    have hlim : lim = 140737488351232 := rfl
    unfold Ptr at hp
    obtain ⟨bk, o, hA⟩ : ∃ bk o, A = some ⟨bk, o, none⟩ := ⟨_, _, hp⟩
    subst hA
    have hcells : ∀ (j : Nat) (y : ByteArray), ((x :: r).map fun s => (⟨⟨s⟩⟩ : ByteArray))[j]? = some y → w.cell? ⟨bk, o + j, none⟩ = some (.string y) := by
      intro j y hj
      rw [List.getElem?_map, Option.map_eq_some_iff] at hj
      obtain ⟨s, hs1, rfl⟩ := hj
      refine h.cells j _ ?_
      have hfl : (x :: r).flatMap kStr.cs = (x :: r).map strV := by
        generalize x :: r = q
        induction q with
        | nil => rfl
        | cons z q ih => rw [List.flatMap_cons, List.map_cons, ih]; rfl
      rw [hfl, List.getElem?_map, hs1]; rfl
    have hlen : (Lib.join (((x :: r).map fun s => (⟨⟨s⟩⟩ : ByteArray)).map (·.data.toList)) ((⟨⟨[46]⟩⟩ : ByteArray)).data.toList) = joinD (x :: r) := by
      rw [List.map_map, show ((fun x : ByteArray => x.data.toList) ∘ fun s : Str => (⟨⟨s⟩⟩ : ByteArray)) = id from rfl, List.map_id]
      exact joinD_lib _
    have := Tryz.strings_Join bk o c ((x :: r).map fun s => (⟨⟨s⟩⟩ : ByteArray)) ⟨⟨[46]⟩⟩ w hcells (World.block_lt_of_cell? w ⟨bk, o + 0, none⟩ (hcells 0 ⟨⟨x⟩⟩ rfl)) (by rw [List.length_map]; omega) (by rw [List.length_map]; exact h.cap) (by rw [hlen]; omega)
    rw [hlen, List.length_map] at this
    exact this.mono fun e w'' hh => ⟨hh.1, hh.2⟩

/-- The words of the kit's paths. -/
def NW : List Str := [[97], [98], [109, 97, 112], [105, 100]]
theorem NW_len : ∀ x ∈ NW, x.length ≤ 3 := by decide

theorem path_spec (b : Nat) (s : Sto) (hn : s.l.length ≤ 300) (ha : s.at_ ≤ 900000000) (most : Nat) (h1 : 1 ≤ most) (h2 : most ≤ 100) :
    Does Tryz.prog tb 69 [.pointer (some ⟨b, 0, none⟩), intV most] [(0, some (stoB b s))] (fun u => Sl kByte u s.A s.c s.l) (fun y : List Str × Nat × Int => strV (joinD y.1)) (fun y => [(0, some (stoB b (s.to y.2)))])
      (fun y _ _ => (1 ≤ y.1.length ∧ y.1.length ≤ most ∧ ∀ w ∈ y.1, w ∈ NW) ∧ y.2.1 ≤ s.at_ + 1 + most) := by
  have hl : lim = 140737488351232 := rfl
  refine Does.enter tb_ok [(0, .av (.box 0 b 0)), (1, intE most)] Tryz.func69 rfl Tryz.ntmps69 rfl rfl 1 ?_
  intro B0 m0 K
  refine RunH.adv tb_ok [] rfl rfl (by simp <;> omega) ?_
  refine RunH.doesB [(0, 0)] 2 (hc := Tryz.call139) (ho := rfl) (hw := rfl) (hd := rfl) (hf := rfl) (hes := rfl) (hσ := rfl) (hn := rfl) (hV := fun _ => rfl) (hG := fun _ => rfl) (e := fun y : Nat × Nat × Int => intE y.1) (hC := from_spec b s hn (by omega) 1 most h1 (by omega)) (hp := fun u hu => hu.fact.2) ?_
  rintro ⟨n, z0⟩ m1 hm1
  refine RunH.pure (fun u h => h.2) fun hnn => ?_
  dsimp only at hnn
  refine RunH.adv tb_ok [] rfl rfl (by simp <;> omega) ?_
  refine RunH.nilrow 3 kStr.T kStr.sz 4 ?_
  refine RunH.loop (α := Nat × List Str × (Nat × Int) × (Option Addr × Nat)) (fun z => [(0, .av (.box 0 b 0)), (5, rowS 3 z.2.2.2.1 z.2.1.length z.2.2.2.2), (8, intE n), (9, intE z.1)]) (fun z => [(0, some (stoB b (s.to z.2.2.1))), (3, rowE kStr z.2.2.2.1 z.2.2.2.2 z.2.1)])
    (fun z u => (K u ∧ Sl kByte u s.A s.c s.l) ∧ z.1 ≤ n ∧ z.2.1.length = z.1 ∧ (∀ w ∈ z.2.1, w ∈ NW) ∧ z.2.2.1.1 ≤ s.at_ + 1 + z.1) (fun z => n - z.1) (0, [], z0, (none, 0)) rfl rfl (fun u h => ⟨h.1, Nat.zero_le _, rfl, by simp, by show z0.1 ≤ s.at_ + 1 + 0; omega⟩) ?_
  rintro ⟨i, ws, z, A, c⟩ m2
  refine RunH.pure (fun u h => h.2) fun ⟨hi, hw, hws, hz⟩ => ?_
  dsimp only at hi hw hws hz ⊢
  by_cases hlt : i < n
  · refine RunH.adv tb_ok [true] rfl rfl (by simp <;> omega) ?_
    refine RunH.doesB [(0, 0)] 6 (hc := Tryz.call110) (ho := rfl) (hw := rfl) (hd := rfl) (hf := rfl) (hes := rfl) (hσ := rfl) (hn := rfl) (hV := fun _ => rfl) (hG := fun _ => rfl) (e := fun y : Nat × Nat × Int => intE y.1) (hC := less_spec b (s.to z) hn (by show z.1 ≤ _; omega) 4 (by decide) (by decide)) (hp := fun u hu => hu.fact.1.2) ?_
    rintro ⟨v, z2⟩ m3 hm3
    refine RunH.pure (fun u h => h.2) fun hv => ?_
    dsimp only at hv
    have hv4 : v < NW.length := hv.1
    have hmem : NW[v] ∈ NW := List.getElem_mem hv4
    generalize hx : NW[v] = x at *
    refine RunH.adv tb_ok [] rfl rfl (by simp; exact ⟨rfl, by omega⟩) ?_
    refine RunH.loadS (strE x) rfl rfl rfl rfl (fun u hu => by rw [← hx]; exact hu.loadRow (κ := kStr) (id := 4) (l := NW) rfl (by decide) hv4) ?_
    refine RunH.adv tb_ok [] rfl rfl (by simp <;> omega) ?_
    refine RunH.appendK (nx := 60) (κ := kStr) (id := 3) (r := [x]) (l := ws) rfl rfl rfl rfl rfl rfl elt_str rfl rfl (fun w hst => hst.liesRow (id := 6) (κ := kStr) (l := [x]) rfl (by simp [hl])) (by simp; omega) (by simp; omega) ?_
    intro A2 c2 m4 hm4
    refine RunH.adv tb_ok [] rfl rfl (by simp <;> omega) ?_
    refine RunH.again (i + 1, ws ++ [x], z2, (A2, c2)) (.head _) rfl rfl (by dsimp only; omega) fun u h => ⟨h.1.1, by dsimp only; omega, by simp [hw], ?_, ?_⟩
    · intro y hy
      rw [List.mem_append, List.mem_singleton] at hy
      rcases hy with hy | rfl
      · exact hws y hy
      · exact hmem
    · have h3 := hv.2
      change z2.1 ≤ z.1 + 1 at h3
      dsimp only; omega
  · have hin : i = n := by omega
    subst hin
    have hlen : (joinD ws).length ≤ 1000000 := by
      have := joinD_len ws 3 fun x hx => NW_len x (hws x hx)
      omega
    refine RunH.adv tb_ok [false] rfl rfl (by simp <;> omega) ?_
    refine RunH.gives (ho := rfl) (hw := rfl) (hd := rfl) (hf := rfl) (hes := rfl) (hc := Tryz.call117) (e := strE (joinD ws)) (hC := fun u hu => join_spec u A c ws (Sl.own (B := B0) (hu.row (κ := kStr) (l := ws) (id := 3) rfl) (by omega)) (by intro e; rw [e] at hw; simp at hw; omega) hlen) ?_
    intro m3 hm3
    refine RunH.adv tb_ok [] rfl rfl (by simp <;> omega) ?_
    refine RunH.ret1 Tryz.func69 rfl rfl fun w hst => ⟨(ws, z), rfl, hst.out [(0, 0)] rfl rfl fun u h => ⟨h.1.1, ⟨by dsimp only; omega, by dsimp only; omega, hws⟩, by dsimp only; omega⟩⟩
end Go.Proofs.YtagnkcdhenilbaaGreatDoor

namespace Go.Proofs.YtagnkcdhenilbaaGreatDoor
open Go V

theorem cmpB_neg : ∀ a b : Str, Lib.compareBytes a b < 0 ↔ Op.bytesLess a b = true
  | [], [] => by simp [Lib.compareBytes, Op.bytesLess]
  | [], _ :: _ => by simp [Lib.compareBytes, Op.bytesLess]
  | _ :: _, [] => by simp [Lib.compareBytes, Op.bytesLess]
  | a :: x, b :: y => by
    have ih := cmpB_neg x y
    unfold Lib.compareBytes Op.bytesLess
    by_cases h1 : a < b
    · simp [h1]
    · by_cases h2 : b < a
      · have h3 : ¬ a = b := by rintro rfl; exact h1 h2
        simp [h1, h2, h3]
      · have h3 : a = b := by
          have h4 : ¬ a.toNat < b.toNat := h1
          have h5 : ¬ b.toNat < a.toNat := h2
          exact UInt8.toNat_inj.1 (by omega)
        subst h3
        simp only [h1, if_false, ih]
        simp
theorem cmpB_zero : ∀ a b : Str, Lib.compareBytes a b = 0 ↔ a = b
  | [], [] => by simp [Lib.compareBytes]
  | [], _ :: _ => by simp [Lib.compareBytes]
  | _ :: _, [] => by simp [Lib.compareBytes]
  | a :: x, b :: y => by
    have ih := cmpB_zero x y
    unfold Lib.compareBytes
    by_cases h1 : a < b
    · have h3 : ¬ a = b := by rintro rfl; exact (Nat.lt_irrefl _ h1)
      simp [h1, h3]
    · by_cases h2 : b < a
      · have h3 : ¬ a = b := by rintro rfl; exact h1 h2
        simp [h1, h2, h3]
      · have h3 : a = b := by
          have h4 : ¬ a.toNat < b.toNat := h1
          have h5 : ¬ b.toNat < a.toNat := h2
          exact UInt8.toNat_inj.1 (by omega)
        subst h3
        simp only [h1, if_false, ih]
        simp

theorem compare_spec (w : World) (a b : Str) : Gives Tryz.prog 113 [strV a, strV b] w (intE (Lib.compareBytes a b)) :=
  (Tryz.strings_Compare ⟨⟨a⟩⟩ ⟨⟨b⟩⟩ w).mono fun e w' h => ⟨h.1, by rw [h.2]; exact Ext.rfl' _⟩

theorem named1_spec (w : World) (x : Entry) (t : Str) : Gives Tryz.prog 112 [(kEntry.ev x).v, strV t] w (intE (Lib.compareBytes x.path t)) := by
  refine enterH tb_ok [(0, .st (entryF x)), (1, strE t)] Tryz.func112 rfl Tryz.ntmps112 rfl rfl ?_
  refine RunH.adv tb_ok [] rfl rfl (by simp <;> omega) ?_
  refine RunH.gives (ho := rfl) (hw := rfl) (hd := rfl) (hf := rfl) (hes := rfl) (hc := Tryz.call113) (e := intE (Lib.compareBytes x.path t)) (hC := fun w' _ => compare_spec w' _ _) ?_
  intro m2 h2
  refine RunH.adv tb_ok [] rfl rfl (by simp <;> omega) ?_
  refine RunH.ret1 Tryz.func112 rfl rfl fun w' hst => ⟨rfl, hst.fact⟩

theorem named_search (w : World) (A : Option Addr) (c : Nat) (l : List Entry) (h : Sl kEntry w A c l) (hr : rises l = true) (t : Str) :
    Gives Tryz.prog 111 [.slice A l.length c, strV t, .func (.func 112) #[] #[]] w (atV l t) := by
  have hF : ∀ i (hi : i < l.length), Lib.compareBytes l[i].path t < 0 ↔ i < posOf l t := fun i hi => (cmpB_neg _ _).trans (posOf_iff hr t i hi)
  have hb := bsearch_spec w A c l h t 112 [] [] (fun x => Lib.compareBytes x.path t) ⟨Tryz.call112, fun x _ u hu => named1_spec u x t⟩ (posOf l t) (tw_le _ l) hF
  have e : (decide (posOf l t < l.length) && decide (Lib.compareBytes (l.getD (posOf l t) zeroE).path t = 0)) = isAt l t := by
    unfold isAt pathAt
    congr 1
    rw [Bool.eq_iff_iff]; simp only [decide_eq_true_eq]; exact cmpB_zero _ _
  rw [e] at hb
  exact hb

/-- An entry of the kit's namespaces. -/
def gooE (e : Entry) : Prop := ∃ ws : List Str, e.path = joinD ws ∧ 1 ≤ ws.length ∧ ws.length ≤ 3 ∧ ∀ w ∈ ws, w ∈ NW
def gooL (l : List Entry) : Prop := rises l = true ∧ ∀ e ∈ l, gooE e
theorem gooL_nil : gooL [] := ⟨rfl, by simp⟩
theorem gooL_ins {l : List Entry} {x : Entry} (h : gooL l) (ha : isAt l x.path = false) (hx : gooE x) : gooL (insL l (posOf l x.path) x) := by
  refine ⟨rises_insL h.1 ha, fun e he => ?_⟩
  unfold insL at he
  rw [List.mem_append, List.mem_cons] at he
  rcases he with he | rfl | he
  · exact h.2 e (List.mem_of_mem_take he)
  · exact hx
  · exact h.2 e (List.mem_of_mem_drop he)

def kPtr : Kd Addr where
  T := 127
  sz := 1
  ev a := .av (.val (.pointer (some a)))
  ok a := ⟨rfl, Tryz.t127, rfl, rfl⟩
  size a := rfl

theorem build_sum1 (w : World) (z : Int) : (Instr.build 39 #[(0, .int .u8 z)]).run Tryz.prog w = .ok (.agg (.int .u8 z :: List.replicate 31 (.int .u8 0)).toArray) w := by
  refine run_build w _ _ _ ?_
  kernel_rfl

def sumK (v : Nat) : Sum := ⟨UInt8.ofNat v :: List.replicate 31 0, by simp⟩
theorem sumK_v (v : Nat) : Value.agg (.int .u8 ((v : Int) % 256) :: List.replicate 31 (.int .u8 0)).toArray = (sumE (sumK v)).v := by
  show _ = sumV (sumK v)
  unfold sumV sumK
  congr 2

set_option maxRecDepth 10000 in
set_option maxHeartbeats 2000000 in
theorem Named_spec (b : Nat) (s : Sto) (hn : s.l.length ≤ 300) (ha : s.at_ ≤ 100000) (most : Nat) (h2 : most ≤ 50) :
    Does Tryz.prog tb 38 [.pointer (some ⟨b, 0, none⟩), intV most] [(0, some (stoB b s))] (fun u => Sl kByte u s.A s.c s.l)
      (fun y : (Nat × Int) × (Option Addr × Nat) × (Option Addr × Nat) × List Entry × List Entry => .agg #[.slice y.2.1.1 y.2.2.2.1.length y.2.1.2, .slice y.2.2.1.1 y.2.2.2.2.length y.2.2.1.2])
      (fun y => [(0, some (stoB b (s.to y.1))), (1, rowE kEntry y.2.1.1 y.2.1.2 y.2.2.2.1), (2, rowE kEntry y.2.2.1.1 y.2.2.1.2 y.2.2.2.2)])
      (fun y _ _ => (gooL y.2.2.2.1 ∧ y.2.2.2.1.length ≤ most) ∧ (gooL y.2.2.2.2 ∧ y.2.2.2.2.length ≤ most) ∧ y.1.1 ≤ s.at_ + 2 + 10 * most) := by
  have hl : lim = 140737488351232 := rfl
  refine Does.enter tb_ok [(0, .av (.box 0 b 0)), (1, intE most)] Tryz.func38 rfl Tryz.ntmps38 rfl rfl 1 ?_
  intro B0 m0 K
  refine RunH.adv tb_ok [] rfl rfl (by simp <;> omega) ?_
  refine RunH.nilrow 4 kEntry.T kEntry.sz 5 ?_
  refine RunH.nilrow 5 kEntry.T kEntry.sz 6 ?_
  refine RunH.loop (α := Nat × (Nat × Int) × (Option Addr × Nat) × (Option Addr × Nat) × List Entry × List Entry) (fun z => [(0, .av (.box 0 b 0)), (1, intE most), (4, .av (.box 1 m0 0)), (5, .av (.box 2 (m0 + 1) 0)), (13, rowS 3 (some ⟨m0 + 2, 0, none⟩) 2 2), (14, intE 2), (15, intE z.1)]) (fun z => [(0, some (stoB b (s.to z.2.1))), (1, some (.box m0 [.val (.slice none 0 0), .val (.slice none 0 0)] 24)), (2, some (.box (m0 + 1) [.val (.slice z.2.2.1.1 z.2.2.2.2.1.length z.2.2.1.2), .val (.slice z.2.2.2.1.1 z.2.2.2.2.2.length z.2.2.2.1.2)] 24)), (3, rowE kPtr (some ⟨m0 + 2, 0, none⟩) 2 [⟨m0 + 1, 0, none⟩, ⟨m0 + 1, 1, none⟩]), (4, rowE kEntry z.2.2.1.1 z.2.2.1.2 z.2.2.2.2.1), (5, rowE kEntry z.2.2.2.1.1 z.2.2.2.1.2 z.2.2.2.2.2)])
    (fun z u => (K u ∧ Sl kByte u s.A s.c s.l) ∧ z.1 ≤ 2 ∧ gooL z.2.2.2.2.1 ∧ gooL z.2.2.2.2.2 ∧ z.2.2.2.2.1.length ≤ most ∧ z.2.2.2.2.2.length ≤ most ∧ (z.1 = 0 → z.2.2.2.2.1 = []) ∧ (z.1 < 2 → z.2.2.2.2.2 = []) ∧ z.2.1.1 ≤ s.at_ + z.1 * (1 + 5 * most)) (fun z => 2 - z.1) (0, (s.at_, s.seed), (none, 0), (none, 0), [], []) rfl rfl
    (fun u h => ⟨h, Nat.zero_le _, gooL_nil, gooL_nil, Nat.zero_le _, Nat.zero_le _, fun _ => rfl, fun _ => rfl, by show s.at_ ≤ _; omega⟩) ?_
  rintro ⟨k, st, ⟨A, c⟩, ⟨B, d⟩, T, Y⟩ m2
  refine RunH.pure (fun u h => h.2) fun ⟨hk, hT, hY, hTn, hYn, hT0, hY0, hst⟩ => ?_
  dsimp only at hk hT hY hTn hYn hT0 hY0 hst ⊢
  by_cases hk0 : k = 0
  · have hTl : T.length = 0 := by rw [hT0 hk0]; rfl
    subst hk0
    refine RunH.adv tb_ok [true] rfl rfl (by simp; rfl) ?_
    refine RunH.loadS (.av (.val (.pointer (some ⟨m0 + 1, 0, none⟩)))) rfl rfl rfl rfl (fun u hu => hu.loadRow (κ := kPtr) (id := 3) (l := [⟨m0 + 1, 0, none⟩, ⟨m0 + 1, 1, none⟩]) rfl (by show 2 ≤ lim; decide) (i := 0) (by show 0 < 2; decide)) ?_
    refine RunH.adv tb_ok [] rfl rfl (by simp <;> omega) ?_
    refine RunH.doesB [(0, 0)] 7 (hc := Tryz.call110) (ho := rfl) (hw := rfl) (hd := rfl) (hf := rfl) (hes := rfl) (hσ := rfl) (hn := rfl) (hV := fun _ => rfl) (hG := fun _ => rfl) (e := fun y : Nat × Nat × Int => intE y.1) (hC := less_spec b (s.to st) hn (by show st.1 ≤ _; omega) (most + 1) (by omega) (by omega)) (hp := fun u hu => hu.fact.1.2) ?_
    rintro ⟨n, st1⟩ m3 hm3
    refine RunH.pure (fun u h => h.2) fun hnn => ?_
    dsimp only at hnn
    have hs1 : st1.1 ≤ st.1 + 1 := hnn.2
    refine RunH.adv tb_ok [] rfl rfl (by simp <;> omega) ?_
    refine RunH.tell [(0, .av (.box 0 b 0)), (1, intE most), (4, .av (.box 1 m0 0)), (5, .av (.box 2 (m0 + 1) 0)), (13, rowS 3 (some ⟨m0 + 2, 0, none⟩) 2 2), (14, intE 2), (7, .av (.box 2 (m0 + 1) 0)), (15, intE 0), (22, intE n), (23, intE (0 : Nat))] [(0, some (stoB b (s.to st1))), (1, some (.box m0 [.val (.slice none 0 0), .val (.slice none 0 0)] 24)), (2, some (.box (m0 + 1) [.val (.slice A T.length c), .val (.slice B Y.length d)] 24)), (3, rowE kPtr (some ⟨m0 + 2, 0, none⟩) 2 [⟨m0 + 1, 0, none⟩, ⟨m0 + 1, 1, none⟩]), (4, rowE kEntry A c T), (5, rowE kEntry B d Y)] [] rfl rfl rfl 7 ?_
    refine RunH.loop (α := Nat × (Nat × Int) × (Option Addr × Nat) × List Entry) (fun z => [(0, .av (.box 0 b 0)), (1, intE most), (4, .av (.box 1 m0 0)), (5, .av (.box 2 (m0 + 1) 0)), (13, rowS 3 (some ⟨m0 + 2, 0, none⟩) 2 2), (14, intE 2), (7, .av (.box 2 (m0 + 1) 0)), (15, intE 0), (22, intE n), (23, intE z.1)]) (fun z => [(0, some (stoB b (s.to z.2.1))), (1, some (.box m0 [.val (.slice none 0 0), .val (.slice none 0 0)] 24)), (2, some (.box (m0 + 1) [.val (.slice z.2.2.1.1 z.2.2.2.length z.2.2.1.2), .val (.slice B Y.length d)] 24)), (3, rowE kPtr (some ⟨m0 + 2, 0, none⟩) 2 [⟨m0 + 1, 0, none⟩, ⟨m0 + 1, 1, none⟩]), (4, rowE kEntry z.2.2.1.1 z.2.2.1.2 z.2.2.2), (5, rowE kEntry B d Y)])
      (fun z u => (K u ∧ Sl kByte u s.A s.c s.l) ∧ z.1 ≤ n ∧ gooL z.2.2.2 ∧ z.2.2.2.length ≤ z.1 ∧ z.2.1.1 ≤ st.1 + 1 + 5 * z.1) (fun z => n - z.1) (0, st1, (A, c), T) rfl rfl (fun u h => ⟨h.1.1, Nat.zero_le _, hT, by show T.length ≤ 0; omega, by show st1.1 ≤ _; omega⟩) ?_
    rintro ⟨j, st2, ⟨A, c⟩, T⟩ m4
    refine RunH.pure (fun u h => h.2) fun ⟨hj, hgL, hlL, hst2⟩ => ?_
    dsimp only at hj hgL hlL hst2 ⊢
    by_cases hjn : j < n
    · refine RunH.adv tb_ok [true] rfl rfl (by simp <;> omega) ?_
      refine RunH.doesB [(0, 0)] 7 (hc := Tryz.call69) (ho := rfl) (hw := rfl) (hd := rfl) (hf := rfl) (hes := rfl) (hσ := rfl) (hn := rfl) (hV := fun _ => rfl) (hG := fun _ => rfl) (e := fun y : List Str × Nat × Int => strE (joinD y.1)) (hC := path_spec b (s.to st2) hn (by show st2.1 ≤ _; omega) 3 (by decide) (by decide)) (hp := fun u hu => hu.fact.1.2) ?_
      rintro ⟨ws, st3⟩ m5 hm5
      refine RunH.pure (fun u h => h.2) fun hws => ?_
      dsimp only at hws
      have hs3 : st3.1 ≤ st2.1 + 4 := hws.2
      generalize hp : joinD ws = p
      have hgp : ∀ x, gooE ⟨p, x⟩ := fun x => ⟨ws, hp.symm, hws.1.1, hws.1.2.1, hws.1.2.2⟩
      refine RunH.adv tb_ok [] rfl rfl (by simp <;> omega) ?_
      refine RunH.gives (ho := rfl) (hw := rfl) (hd := rfl) (hf := rfl) (hes := rfl) (hc := Tryz.call111) (e := atV T p) (hC := fun u hu => named_search u A c T (Sl.own (B := B0) (hu.row (κ := kEntry) (l := T) (id := 4) rfl) (by omega)) hgL.1 p) ?_
      intro m6 hm6
      by_cases hat : isAt T p = true
      · refine RunH.adv tb_ok [false] rfl rfl (by simp [hat] <;> omega) ?_
        refine RunH.again (j + 1, st3, (A, c), T) (.head _) rfl rfl (by dsimp only; omega) fun u h => ⟨h.1.1, by dsimp only; omega, hgL, by dsimp only; omega, by dsimp only; omega⟩
      · have hat : isAt T p = false := by simpa using hat
        refine RunH.adv tb_ok [true] rfl rfl (by simp [hat] <;> omega) ?_
        refine RunH.draw rfl [(1, some (.box m0 [.val (.slice none 0 0), .val (.slice none 0 0)] 24)), (2, some (.box (m0 + 1) [.val (.slice A T.length c), .val (.slice B Y.length d)] 24))] rfl 15 rfl rfl ?_
        refine RunD.adv tb_ok (by kernel_rfl) [] rfl rfl (by simp <;> omega) ?_
        refine RunD.doesB (i := 7) [(0, 0)] 8 (fun y : Nat × Nat × Int => intE y.1) rfl (by kernel_rfl) rfl rfl rfl rfl Tryz.call110 (less_spec b (s.to st3) hn (by show st3.1 ≤ _; omega) 5 (by decide) (by decide)) rfl rfl (fun _ => rfl) (fun _ => rfl) (fun u hu => hu.fact.1.1.2) (fun _ => rfl) (fun _ h => h) ?_
        rintro ⟨v, st4⟩ m7 hm7
        refine RunD.pure0 (fun u hu => hu.fact.2) fun hv => ?_
        dsimp only at hv
        have hs4 : st4.1 ≤ st3.1 + 1 := hv.2
        refine RunD.adv tb_ok (by kernel_rfl) [] rfl rfl (by simp <;> omega) ?_
        refine RunD.read (by kernel_rfl) (i := 9) (sumE (sumK v)) rfl rfl rfl rfl rfl rfl (fun w' a _ hag => ?_) ?_
        · have h1 : a.eval (.tmp 45) = .int .u8 ((v : Int) % 256) := ev_run (e := .av (.val (.int .u8 ((v : Int) % 256)))) hag rfl
          simp only [execOp, List.map_toArray, List.map_cons, List.map_nil, h1, build_sum1, Sem.run_bind, Result.andThen_ok, Sem.run_pure, sumK_v]
        generalize sumK v = xs
        refine RunD.adv tb_ok (by kernel_rfl) [] rfl rfl (by simp <;> omega) ?_
        refine RunD.step tb_ok (nx := 8) (i := 11) rfl (by kernel_rfl) rfl rfl rfl ?_ rfl (fun _ h => h.1) ⟨rfl, rfl⟩ ?_
        · first | trivial | (simp [AllOb, Ob.P, sum_len, sz_sum, one_int, u8V_one]; done)
        refine RunD.adv tb_ok (by kernel_rfl) [] rfl rfl (by simp <;> omega) ?_
        refine RunD.doesB (i := 12) [(0, 4), (1, 8)] 10 (fun y : Option Addr × Nat => rowS 4 y.1 (insL T (posOf T p) ⟨p, xs⟩).length y.2) rfl (by kernel_rfl) rfl rfl rfl rfl Tryz.call114 (Insert_spec A _ c _ T (posOf T p) ⟨p, xs⟩ (posOf_le T p) (by omega)) rfl rfl (fun _ => rfl) (fun _ => rfl) (fun _ _ => trivial) (fun _ => rfl) (fun _ h => h.1) ?_
        rintro ⟨A2, c2⟩ m8 hm8
        refine RunD.adv tb_ok (by kernel_rfl) [] rfl rfl (by simp <;> omega) ?_
        refine RunD.lastStep0 (i := 14) tb_ok rfl (by kernel_rfl) rfl (by kernel_rfl) (by kernel_rfl) rfl rfl ?_ (Nat.le_refl _) rfl ?_
        · first | trivial | (simp [AllOb, Ob.P, sum_len, sz_sum, one_int, u8V_one]; done)
        intro m9 hm9
        refine RunH.adv tb_ok [] rfl rfl (by simp <;> omega) ?_
        refine RunH.tell [(0, .av (.box 0 b 0)), (1, intE most), (4, .av (.box 1 m0 0)), (5, .av (.box 2 (m0 + 1) 0)), (13, rowS 3 (some ⟨m0 + 2, 0, none⟩) 2 2), (14, intE 2), (7, .av (.box 2 (m0 + 1) 0)), (15, intE 0), (22, intE n), (23, intE ((j + 1 : Nat) : Int))] [(0, some (stoB b (s.to st4))), (1, some (.box m0 [.val (.slice none 0 0), .val (.slice none 0 0)] 24)), (2, some (.box (m0 + 1) [.val (.slice A2 (insL T (posOf T p) ⟨p, xs⟩).length c2), .val (.slice B Y.length d)] 24)), (3, rowE kPtr (some ⟨m0 + 2, 0, none⟩) 2 [⟨m0 + 1, 0, none⟩, ⟨m0 + 1, 1, none⟩]), (4, rowE kEntry A2 c2 (insL T (posOf T p) ⟨p, xs⟩)), (5, rowE kEntry B d Y)] [] rfl rfl rfl 7 ?_
        have hil := insL_len T (posOf T p) ⟨p, xs⟩ (posOf_le T p)
        refine RunH.again (j + 1, st4, (A2, c2), insL T (posOf T p) ⟨p, xs⟩) (.head _) rfl rfl (by dsimp only; omega) fun u h => ⟨h.1.1.1.1, by dsimp only; omega, gooL_ins hgL hat (hgp xs), by dsimp only; omega, by dsimp only; omega⟩
    · have hjn : j = n := by omega
      refine RunH.adv tb_ok [false] rfl rfl (by simp <;> omega) ?_
      refine RunH.again (1, st2, (A, c), (B, d), T, Y) (.tail _ (.head _)) rfl rfl (by show 2 - 1 < 2 - 0; decide) fun u h => ⟨h.1, by show 1 ≤ 2; decide, hgL, hY, by dsimp only; omega, by dsimp only; omega, fun e => absurd (show 1 = 0 from e) (by decide), fun _ => hY0 (by decide), by dsimp only; omega⟩
  · by_cases hk1 : k = 1
    · have hYl : Y.length = 0 := by rw [hY0 (by omega)]; rfl
      subst hk1
      refine RunH.adv tb_ok [true] rfl rfl (by simp; rfl) ?_
      refine RunH.loadS (.av (.val (.pointer (some ⟨m0 + 1, 1, none⟩)))) rfl rfl rfl rfl (fun u hu => hu.loadRow (κ := kPtr) (id := 3) (l := [⟨m0 + 1, 0, none⟩, ⟨m0 + 1, 1, none⟩]) rfl (by show 2 ≤ lim; decide) (i := 1) (by show 1 < 2; decide)) ?_
      refine RunH.adv tb_ok [] rfl rfl (by simp <;> omega) ?_
      refine RunH.doesB [(0, 0)] 7 (hc := Tryz.call110) (ho := rfl) (hw := rfl) (hd := rfl) (hf := rfl) (hes := rfl) (hσ := rfl) (hn := rfl) (hV := fun _ => rfl) (hG := fun _ => rfl) (e := fun y : Nat × Nat × Int => intE y.1) (hC := less_spec b (s.to st) hn (by show st.1 ≤ _; omega) (most + 1) (by omega) (by omega)) (hp := fun u hu => hu.fact.1.2) ?_
      rintro ⟨n, st1⟩ m3 hm3
      refine RunH.pure (fun u h => h.2) fun hnn => ?_
      dsimp only at hnn
      have hs1 : st1.1 ≤ st.1 + 1 := hnn.2
      refine RunH.adv tb_ok [] rfl rfl (by simp <;> omega) ?_
      refine RunH.tell [(0, .av (.box 0 b 0)), (1, intE most), (4, .av (.box 1 m0 0)), (5, .av (.box 2 (m0 + 1) 0)), (13, rowS 3 (some ⟨m0 + 2, 0, none⟩) 2 2), (14, intE 2), (7, .av (.box 2 (m0 + 1) 1)), (15, intE 1), (22, intE n), (23, intE (0 : Nat))] [(0, some (stoB b (s.to st1))), (1, some (.box m0 [.val (.slice none 0 0), .val (.slice none 0 0)] 24)), (2, some (.box (m0 + 1) [.val (.slice A T.length c), .val (.slice B Y.length d)] 24)), (3, rowE kPtr (some ⟨m0 + 2, 0, none⟩) 2 [⟨m0 + 1, 0, none⟩, ⟨m0 + 1, 1, none⟩]), (4, rowE kEntry A c T), (5, rowE kEntry B d Y)] [] rfl rfl rfl 7 ?_
      refine RunH.loop (α := Nat × (Nat × Int) × (Option Addr × Nat) × List Entry) (fun z => [(0, .av (.box 0 b 0)), (1, intE most), (4, .av (.box 1 m0 0)), (5, .av (.box 2 (m0 + 1) 0)), (13, rowS 3 (some ⟨m0 + 2, 0, none⟩) 2 2), (14, intE 2), (7, .av (.box 2 (m0 + 1) 1)), (15, intE 1), (22, intE n), (23, intE z.1)]) (fun z => [(0, some (stoB b (s.to z.2.1))), (1, some (.box m0 [.val (.slice none 0 0), .val (.slice none 0 0)] 24)), (2, some (.box (m0 + 1) [.val (.slice A T.length c), .val (.slice z.2.2.1.1 z.2.2.2.length z.2.2.1.2)] 24)), (3, rowE kPtr (some ⟨m0 + 2, 0, none⟩) 2 [⟨m0 + 1, 0, none⟩, ⟨m0 + 1, 1, none⟩]), (4, rowE kEntry A c T), (5, rowE kEntry z.2.2.1.1 z.2.2.1.2 z.2.2.2)])
        (fun z u => (K u ∧ Sl kByte u s.A s.c s.l) ∧ z.1 ≤ n ∧ gooL z.2.2.2 ∧ z.2.2.2.length ≤ z.1 ∧ z.2.1.1 ≤ st.1 + 1 + 5 * z.1) (fun z => n - z.1) (0, st1, (B, d), Y) rfl rfl (fun u h => ⟨h.1.1, Nat.zero_le _, hY, by show Y.length ≤ 0; omega, by show st1.1 ≤ _; omega⟩) ?_
      rintro ⟨j, st2, ⟨B, d⟩, Y⟩ m4
      refine RunH.pure (fun u h => h.2) fun ⟨hj, hgL, hlL, hst2⟩ => ?_
      dsimp only at hj hgL hlL hst2 ⊢
      by_cases hjn : j < n
      · refine RunH.adv tb_ok [true] rfl rfl (by simp <;> omega) ?_
        refine RunH.doesB [(0, 0)] 7 (hc := Tryz.call69) (ho := rfl) (hw := rfl) (hd := rfl) (hf := rfl) (hes := rfl) (hσ := rfl) (hn := rfl) (hV := fun _ => rfl) (hG := fun _ => rfl) (e := fun y : List Str × Nat × Int => strE (joinD y.1)) (hC := path_spec b (s.to st2) hn (by show st2.1 ≤ _; omega) 3 (by decide) (by decide)) (hp := fun u hu => hu.fact.1.2) ?_
        rintro ⟨ws, st3⟩ m5 hm5
        refine RunH.pure (fun u h => h.2) fun hws => ?_
        dsimp only at hws
        have hs3 : st3.1 ≤ st2.1 + 4 := hws.2
        generalize hp : joinD ws = p
        have hgp : ∀ x, gooE ⟨p, x⟩ := fun x => ⟨ws, hp.symm, hws.1.1, hws.1.2.1, hws.1.2.2⟩
        refine RunH.adv tb_ok [] rfl rfl (by simp <;> omega) ?_
        refine RunH.gives (ho := rfl) (hw := rfl) (hd := rfl) (hf := rfl) (hes := rfl) (hc := Tryz.call111) (e := atV Y p) (hC := fun u hu => named_search u B d Y (Sl.own (B := B0) (hu.row (κ := kEntry) (l := Y) (id := 5) rfl) (by omega)) hgL.1 p) ?_
        intro m6 hm6
        by_cases hat : isAt Y p = true
        · refine RunH.adv tb_ok [false] rfl rfl (by simp [hat] <;> omega) ?_
          refine RunH.again (j + 1, st3, (B, d), Y) (.head _) rfl rfl (by dsimp only; omega) fun u h => ⟨h.1.1, by dsimp only; omega, hgL, by dsimp only; omega, by dsimp only; omega⟩
        · have hat : isAt Y p = false := by simpa using hat
          refine RunH.adv tb_ok [true] rfl rfl (by simp [hat] <;> omega) ?_
          refine RunH.draw rfl [(1, some (.box m0 [.val (.slice none 0 0), .val (.slice none 0 0)] 24)), (2, some (.box (m0 + 1) [.val (.slice A T.length c), .val (.slice B Y.length d)] 24))] rfl 15 rfl rfl ?_
          refine RunD.adv tb_ok (by kernel_rfl) [] rfl rfl (by simp <;> omega) ?_
          refine RunD.doesB (i := 7) [(0, 0)] 8 (fun y : Nat × Nat × Int => intE y.1) rfl (by kernel_rfl) rfl rfl rfl rfl Tryz.call110 (less_spec b (s.to st3) hn (by show st3.1 ≤ _; omega) 5 (by decide) (by decide)) rfl rfl (fun _ => rfl) (fun _ => rfl) (fun u hu => hu.fact.1.1.2) (fun _ => rfl) (fun _ h => h) ?_
          rintro ⟨v, st4⟩ m7 hm7
          refine RunD.pure0 (fun u hu => hu.fact.2) fun hv => ?_
          dsimp only at hv
          have hs4 : st4.1 ≤ st3.1 + 1 := hv.2
          refine RunD.adv tb_ok (by kernel_rfl) [] rfl rfl (by simp <;> omega) ?_
          refine RunD.read (by kernel_rfl) (i := 9) (sumE (sumK v)) rfl rfl rfl rfl rfl rfl (fun w' a _ hag => ?_) ?_
          · have h1 : a.eval (.tmp 45) = .int .u8 ((v : Int) % 256) := ev_run (e := .av (.val (.int .u8 ((v : Int) % 256)))) hag rfl
            simp only [execOp, List.map_toArray, List.map_cons, List.map_nil, h1, build_sum1, Sem.run_bind, Result.andThen_ok, Sem.run_pure, sumK_v]
          generalize sumK v = xs
          refine RunD.adv tb_ok (by kernel_rfl) [] rfl rfl (by simp <;> omega) ?_
          refine RunD.step tb_ok (nx := 8) (i := 11) rfl (by kernel_rfl) rfl rfl rfl ?_ rfl (fun _ h => h.1) ⟨rfl, rfl⟩ ?_
          · first | trivial | (simp [AllOb, Ob.P, sum_len, sz_sum, one_int, u8V_one]; done)
          refine RunD.adv tb_ok (by kernel_rfl) [] rfl rfl (by simp <;> omega) ?_
          refine RunD.doesB (i := 12) [(0, 5), (1, 8)] 10 (fun y : Option Addr × Nat => rowS 5 y.1 (insL Y (posOf Y p) ⟨p, xs⟩).length y.2) rfl (by kernel_rfl) rfl rfl rfl rfl Tryz.call114 (Insert_spec B _ d _ Y (posOf Y p) ⟨p, xs⟩ (posOf_le Y p) (by omega)) rfl rfl (fun _ => rfl) (fun _ => rfl) (fun _ _ => trivial) (fun _ => rfl) (fun _ h => h.1) ?_
          rintro ⟨A2, c2⟩ m8 hm8
          refine RunD.adv tb_ok (by kernel_rfl) [] rfl rfl (by simp <;> omega) ?_
          refine RunD.lastStep0 (i := 14) tb_ok rfl (by kernel_rfl) rfl (by kernel_rfl) (by kernel_rfl) rfl rfl ?_ (Nat.le_refl _) rfl ?_
          · first | trivial | (simp [AllOb, Ob.P, sum_len, sz_sum, one_int, u8V_one]; done)
          intro m9 hm9
          refine RunH.adv tb_ok [] rfl rfl (by simp <;> omega) ?_
          refine RunH.tell [(0, .av (.box 0 b 0)), (1, intE most), (4, .av (.box 1 m0 0)), (5, .av (.box 2 (m0 + 1) 0)), (13, rowS 3 (some ⟨m0 + 2, 0, none⟩) 2 2), (14, intE 2), (7, .av (.box 2 (m0 + 1) 1)), (15, intE 1), (22, intE n), (23, intE ((j + 1 : Nat) : Int))] [(0, some (stoB b (s.to st4))), (1, some (.box m0 [.val (.slice none 0 0), .val (.slice none 0 0)] 24)), (2, some (.box (m0 + 1) [.val (.slice A T.length c), .val (.slice A2 (insL Y (posOf Y p) ⟨p, xs⟩).length c2)] 24)), (3, rowE kPtr (some ⟨m0 + 2, 0, none⟩) 2 [⟨m0 + 1, 0, none⟩, ⟨m0 + 1, 1, none⟩]), (4, rowE kEntry A c T), (5, rowE kEntry A2 c2 (insL Y (posOf Y p) ⟨p, xs⟩))] [] rfl rfl rfl 7 ?_
          have hil := insL_len Y (posOf Y p) ⟨p, xs⟩ (posOf_le Y p)
          refine RunH.again (j + 1, st4, (A2, c2), insL Y (posOf Y p) ⟨p, xs⟩) (.head _) rfl rfl (by dsimp only; omega) fun u h => ⟨h.1.1.1.1, by dsimp only; omega, gooL_ins hgL hat (hgp xs), by dsimp only; omega, by dsimp only; omega⟩
      · have hjn : j = n := by omega
        refine RunH.adv tb_ok [false] rfl rfl (by simp <;> omega) ?_
        refine RunH.again (2, st2, (A, c), (B, d), T, Y) (.tail _ (.head _)) rfl rfl (by show 2 - 2 < 2 - 1; decide) fun u h => ⟨h.1, by show 2 ≤ 2; decide, hT, hgL, by dsimp only; omega, by dsimp only; omega, fun e => absurd (show 2 = 0 from e) (by decide), fun e => absurd (show 2 < 2 from e) (by decide), by dsimp only; omega⟩
    · obtain rfl : k = 2 := by omega
      refine RunH.adv tb_ok [false] rfl rfl (by simp <;> omega) ?_
      refine RunH.retBox tb_ok (.st [.val (.slice A T.length c), .val (.slice B Y.length d)]) Tryz.func38 rfl rfl rfl rfl fun w hst => ⟨(st, (A, c), (B, d), T, Y), rfl, hst.out [(0, 0), (1, 4), (2, 5)] rfl rfl fun u h => ⟨h.1.1, ⟨hT, hTn⟩, ⟨hY, hYn⟩, by dsimp only; omega⟩⟩
end Go.Proofs.YtagnkcdhenilbaaGreatDoor

namespace Go.Proofs.YtagnkcdhenilbaaGreatDoor
open Go V

def kindU (b : UInt8) : Int := 1 + (b.toNat : Int) % 2
theorem kindU_or (b : UInt8) : kindU b = 1 ∨ kindU b = 2 := by unfold kindU; omega

theorem kind_spec (w : World) (b : UInt8) : Gives Tryz.prog 40 [u8V b] w (intE (kindU b)) := by
  refine enterH tb_ok [(0, .av (.val (u8V b)))] Tryz.func40 rfl Tryz.ntmps40 rfl rfl ?_
  have hb : b.toNat < 256 := b.toNat_lt
  have hb2 : ((b.toNat : Int) + 9223372036854775808) % 18446744073709551616 - 9223372036854775808 = b.toNat := by omega
  refine RunH.adv tb_ok [] rfl rfl (by simp [hb2] <;> omega) ?_
  refine RunH.ret1 Tryz.func40 rfl rfl fun w' hst => ⟨rfl, hst.fact⟩

theorem listK_spec (w : World) (s : Spc) (k : Int) : Gives Tryz.prog 41 [s.ev.v, intV k] w (.av (.val (.slice (kA k s.t.A s.y.A) (kList k s.t.l s.y.l).length (kA k s.t.c s.y.c)))) := by
  rw [← kV]
  refine enterH tb_ok [(0, s.ev), (1, intE k)] Tryz.func41 rfl Tryz.ntmps41 rfl rfl ?_
  by_cases h : k = 1
  · refine RunH.adv tb_ok [true] rfl rfl (by simp [h] <;> omega) ?_
    refine RunH.ret1 Tryz.func41 rfl rfl fun w' hst => ⟨by rw [if_pos h], hst.fact⟩
  · refine RunH.adv tb_ok [false] rfl rfl (by simp [h] <;> omega) ?_
    refine RunH.ret1 Tryz.func41 rfl rfl fun w' hst => ⟨by rw [if_neg h], hst.fact⟩

end Go.Proofs.YtagnkcdhenilbaaGreatDoor
