/-
A part of the proofs of the laws of a seat: contracts of functions and lemmas on them; the listed package variables hold what the program's text lays. No further condition.
-/
import Derived.Test.YtagnkcdhenilbaaGreatDoorKVRow
import Derived.Test.YtagnkcdhenilbaaGreatDoorKSPath
set_option linter.unusedVariables false
set_option linter.unusedSectionVars false
set_option linter.unusedSimpArgs false
namespace Go.Proofs.YtagnkcdhenilbaaGreatDoor
open Go V
theorem isNaN_spec (w : World) (s : Str) : Gives Tryz.prog 152 [strV s] w .ff := by
  refine enterH tb_ok [(0, strE s)] Tryz.func152 rfl Tryz.ntmps152 rfl rfl ?_
  refine RunH.adv tb_ok [] rfl rfl (by simp <;> omega) ?_
  refine RunH.ret1 Tryz.func152 rfl rfl fun w' hst => ⟨by simp [EV.v, AV.v], hst.fact⟩

def cmpS3 (a b : Str) : Int := if Op.bytesLess a b = true then -1 else if leS a b = true then 0 else 1

theorem Compare_spec (w : World) (a b : Str) : Gives Tryz.prog 98 [strV a, strV b] w (intE (cmpS3 a b)) := by
  refine enterH tb_ok [(0, strE a), (1, strE b)] Tryz.func98 rfl Tryz.ntmps98 rfl rfl ?_
  refine RunH.adv tb_ok [] rfl rfl (by simp <;> omega) ?_
  refine RunH.gives .ff rfl rfl rfl rfl rfl Tryz.call152 (fun w' _ => isNaN_spec w' a) ?_
  intro m1 h1
  refine RunH.adv tb_ok [] rfl rfl (by simp <;> omega) ?_
  refine RunH.gives .ff rfl rfl rfl rfl rfl Tryz.call152 (fun w' _ => isNaN_spec w' b) ?_
  intro m2 h2
  by_cases hl : Op.bytesLess a b = true
  · refine RunH.adv tb_ok [true] rfl rfl (by simp [hl] <;> omega) ?_
    refine RunH.ret1 Tryz.func98 rfl rfl fun w' hst => ⟨by simp [cmpS3, hl, EV.v, AV.v], hst.fact⟩
  · by_cases hle : leS a b = true
    · refine RunH.adv tb_ok [false, false] rfl rfl ⟨?_, by simpa [Ob.P] using hl, trivial⟩ ?_
      · unfold leS at hle; simp only [Ob.P, hle]; rfl
      refine RunH.ret1 Tryz.func98 rfl rfl fun w' hst => ⟨by simp [cmpS3, hl, hle, EV.v, AV.v], hst.fact⟩
    · have hle2 : leS a b = false := by simpa using hle
      refine RunH.adv tb_ok [false, true] rfl rfl ⟨?_, by simpa [Ob.P] using hl, trivial⟩ ?_
      · unfold leS at hle2; simp only [Ob.P, hle2]; rfl
      refine RunH.ret1 Tryz.func98 rfl rfl fun w' hst => ⟨by simp [cmpS3, hl, hle, EV.v, AV.v], hst.fact⟩

/-- A function of an entry and a text. -/
structure Fun2 (w : World) (g : FuncId) (f1 c1 : List Value) (l : List Entry) (t : Str) (F : Entry → Int) : Prop where
  enter : ∀ (xs : Array Value) w, (callFunc g xs).run Tryz.prog w = .ok (.enter g xs) w
  says : ∀ x ∈ l, ∀ u, Ext w u → Gives Tryz.prog g (f1 ++ [(kEntry.ev x).v, strV t] ++ c1) u (intE (F x))

theorem bsearch_spec (w : World) (A : Option Addr) (c : Nat) (l : List Entry) (h : Sl kEntry w A c l) (t : Str) (g : FuncId) (f1 c1 : List Value) (F : Entry → Int) (hf : Fun2 w g f1 c1 l t F) (p : Nat) (hp : p ≤ l.length) (hs : ∀ i (hi : i < l.length), F l[i] < 0 ↔ i < p) :
    Gives Tryz.prog 111 [.slice A l.length c, strV t, .func (.func g) f1.toArray c1.toArray] w (.av (.val (.tuple #[intV p, .bool (decide (p < l.length) && decide (F (l.getD p zeroE) = 0))]))) := by
  have hl : lim = 140737488351232 := rfl
  have hsm := h.small
  refine enterH tb_ok [(0, slE A l.length c), (1, strE t), (2, .av (.val (.func (.func g) f1.toArray c1.toArray)))] Tryz.func111 rfl Tryz.ntmps111 rfl rfl ?_
  refine RunH.adv tb_ok [] rfl rfl (by simp <;> omega) ?_
  refine RunH.loop (α := Nat × Nat) (fun x => [(0, slE A l.length c), (1, strE t), (2, .av (.val (.func (.func g) f1.toArray c1.toArray))), (8, intE l.length), (9, intE x.1), (10, intE x.2)]) (fun _ => []) (fun x w' => Ext w w' ∧ x.1 ≤ p ∧ p ≤ x.2 ∧ x.2 ≤ l.length) (fun x => x.2 - x.1) (0, l.length)
    rfl rfl (fun w' h => ⟨h, Nat.zero_le _, hp, Nat.le_refl _⟩) ?_
  rintro ⟨i, j⟩ m
  refine RunH.pure (fun w' h => h.2) fun ⟨hi, hpj, hj⟩ => ?_
  dsimp only at hi hpj hj
  by_cases hij : i < j
  · have hh : Int.fdiv (((i : Int) + j) % 18446744073709551616) (2 ^ min (Int.toNat 1) (IntKind.bits .u64)) = (((i + j) / 2 : Nat) : Int) := by
      rw [Int.emod_eq_of_lt (by omega) (by omega)]
      rw [show (2 : Int) ^ min (Int.toNat 1) (IntKind.bits .u64) = 2 from rfl, Int.fdiv_eq_ediv_of_nonneg _ (by decide)]
      omega
    have hk : (i + j) / 2 < l.length := by omega
    have hkn : ((((i + j) / 2 : Nat) : Int)).toNat = (i + j) / 2 := by omega
    refine RunH.adv tb_ok [true] rfl rfl ?_ ?_
    · simp only [AllOb, Ob.P, hh]
      refine ⟨h.ptr hk, by omega, by omega, by omega, by omega, by simp; omega, trivial⟩
    dsimp only
    rw [hh, hkn]
    refine RunH.load (.st (entryF l[(i + j) / 2])) rfl rfl rfl rfl (fun w' h' => (h.ext h'.1).load hk) ?_
    refine RunH.adv tb_ok [] rfl rfl (by simp <;> omega) ?_
    refine RunH.gives (g := g) (f1 := f1) (c1 := c1) (intE (F l[(i + j) / 2])) rfl rfl rfl rfl rfl hf.enter (fun w' hst => hf.says _ (List.getElem_mem hk) w' hst.fact.1) ?_
    intro m' hm'
    by_cases hlt : F l[(i + j) / 2] < 0
    · have := (hs _ hk).1 hlt
      refine RunH.adv tb_ok [true] rfl rfl (by simp <;> omega) ?_
      refine RunH.again ((i + j) / 2 + 1, j) (.head _) rfl rfl (by dsimp only; omega) fun w' h => ⟨h.1, by dsimp only; omega, hpj, hj⟩
    · have : ¬ (i + j) / 2 < p := fun e => hlt ((hs _ hk).2 e)
      refine RunH.adv tb_ok [false] rfl rfl (by simp <;> omega) ?_
      refine RunH.again (i, (i + j) / 2) (.head _) rfl rfl (by dsimp only; omega) fun w' h => ⟨h.1, hi, by dsimp only; omega, by dsimp only; omega⟩
  · have hip : i = p := by omega
    subst hip
    by_cases hn : i < l.length
    · have hg : l.getD i zeroE = l[i] := by rw [List.getD_eq_getElem?_getD, List.getElem?_eq_getElem hn]; rfl
      refine RunH.adv tb_ok [false, true] rfl rfl (by simp [h.ptr hn] <;> omega) ?_
      refine RunH.load (.st (entryF l[i])) rfl rfl rfl rfl (fun w' h' => (h.ext h'.1).load hn) ?_
      refine RunH.adv tb_ok [] rfl rfl (by simp <;> omega) ?_
      refine RunH.gives (g := g) (f1 := f1) (c1 := c1) (intE (F l[i])) rfl rfl rfl rfl rfl hf.enter (fun w' hst => hf.says _ (List.getElem_mem hn) w' hst.fact.1) ?_
      intro m' hm'
      refine RunH.adv tb_ok [] rfl rfl (by simp <;> omega) ?_
      refine RunH.ret2 Tryz.func111 rfl rfl rfl fun w' hst => ⟨by simp only [hg]; simp [hn, EV.v, AV.v], hst.fact.1⟩
    · refine RunH.adv tb_ok [false, false] rfl rfl (by simp <;> omega) ?_
      refine RunH.ret2 Tryz.func111 rfl rfl rfl fun w' hst => ⟨by simp [hn, EV.v, AV.v], hst.fact.1⟩

theorem at1_spec (w : World) (x : Entry) : Gives Tryz.prog 175 [(kEntry.ev x).v] w (strE x.path) := by
  refine enterH tb_ok [(0, .st (entryF x))] Tryz.func175 rfl Tryz.ntmps175 rfl rfl ?_
  refine RunH.adv tb_ok [] rfl rfl (by simp <;> omega) ?_
  refine RunH.ret1 Tryz.func175 rfl rfl fun w' hst => ⟨rfl, hst.fact⟩

theorem place1_spec (w : World) (b : Nat) (x : Entry) (t : Str) (hx : ∀ w', Ext w w' → (loadVar 218 ⟨b, 0, none⟩).run Tryz.prog w' = .ok (.func (.func 175) #[] #[]) w') :
    Gives Tryz.prog 190 [(kEntry.ev x).v, strV t, .pointer (some ⟨b, 0, none⟩)] w (intE (cmpS3 x.path t)) := by
  refine enterH tb_ok [(0, .st (entryF x)), (1, strE t), (2, .av (.val (.pointer (some ⟨b, 0, none⟩))))] Tryz.func190 rfl Tryz.ntmps190 rfl rfl ?_
  refine RunH.adv tb_ok [] rfl rfl (by simp <;> omega) ?_
  refine RunH.load (.av (.val (.func (.func 175) #[] #[]))) rfl rfl rfl rfl (fun w' h => hx w' h) ?_
  refine RunH.adv tb_ok [] rfl rfl (by simp <;> omega) ?_
  refine RunH.gives (strE x.path) rfl rfl rfl rfl rfl Tryz.call175 (fun w' _ => at1_spec w' x) ?_
  intro m1 h1
  refine RunH.adv tb_ok [] rfl rfl (by simp <;> omega) ?_
  refine RunH.gives (intE (cmpS3 x.path t)) rfl rfl rfl rfl rfl Tryz.call98 (fun w' _ => Compare_spec w' _ _) ?_
  intro m2 h2
  refine RunH.adv tb_ok [] rfl rfl (by simp <;> omega) ?_
  refine RunH.ret1 Tryz.func190 rfl rfl fun w' hst => ⟨rfl, hst.fact⟩

theorem cmpS3_neg (a b : Str) : cmpS3 a b < 0 ↔ Op.bytesLess a b = true := by
  unfold cmpS3
  split
  · simp [*]
  · split <;> simp [*]

theorem cmpS3_zero (a b : Str) : cmpS3 a b = 0 ↔ a = b := by
  unfold cmpS3
  split
  · rename_i h
    constructor
    · intro h; cases h
    · rintro rfl; rw [less_irrefl] at h; cases h
  · rename_i h
    split
    · rename_i h2
      unfold leS at h2
      simp only [Bool.or_eq_true, decide_eq_true_eq] at h2
      rcases h2 with h2 | h2
      · exact absurd h2 h
      · simp [h2]
    · rename_i h2
      constructor
      · intro h; cases h
      · rintro rfl; unfold leS at h2; simp at h2

abbrev atV (l : List Entry) (t : Str) : EV := .av (.val (.tuple #[intV (posOf l t), .bool (isAt l t)]))

theorem place_spec (w : World) (A : Option Addr) (c : Nat) (l : List Entry) (h : Sl kEntry w A c l) (hr : rises l = true) (t : Str) :
    Gives Tryz.prog 174 [.slice A l.length c, strV t, .func (.func 175) #[] #[]] w (atV l t) := by
  refine enterH tb_ok [(0, slE A l.length c), (1, strE t), (2, .av (.val (.func (.func 175) #[] #[])))] Tryz.func174 rfl Tryz.ntmps174 rfl rfl ?_
  refine RunH.adv tb_ok [] rfl rfl (by simp <;> omega) ?_
  refine RunH.gives (atV l t) rfl rfl rfl rfl rfl Tryz.call111 (fun w' hst => ?_) ?_
  · have hF : ∀ i (hi : i < l.length), cmpS3 l[i].path t < 0 ↔ i < posOf l t := fun i hi => (cmpS3_neg _ _).trans (posOf_iff hr t i hi)
    have hb := bsearch_spec w' A c l (h.ext hst.fact) t 190 [] [.pointer (some ⟨w.heap.size, 0, none⟩)] (fun x => cmpS3 x.path t)
      ⟨Tryz.call190, fun x _ u hu => place1_spec u _ x t fun u' hu' => hst.loadBox (id := 0) (e := .av (.val (.func (.func 175) #[] #[]))) tb_ok rfl rfl u' (hu.trans' hu')⟩ (posOf l t) (tw_le _ l) hF
    have e : (decide (posOf l t < l.length) && decide (cmpS3 (l.getD (posOf l t) zeroE).path t = 0)) = isAt l t := by
      unfold isAt pathAt
      congr 1
      rw [Bool.eq_iff_iff]; simp only [decide_eq_true_eq]; exact cmpS3_zero _ _
    rw [e] at hb
    exact hb
  intro m' hm'
  refine RunH.adv tb_ok [] rfl rfl (by simp <;> omega) ?_
  refine RunH.ret2 Tryz.func174 rfl rfl rfl fun w' hst => ⟨rfl, hst.fact⟩

theorem at_spec (w : World) (A : Option Addr) (c : Nat) (l : List Entry) (h : Sl kEntry w A c l) (hr : rises l = true) (t : Str) :
    Gives Tryz.prog 149 [.slice A l.length c, strV t] w (atV l t) := by
  refine enterH tb_ok [(0, slE A l.length c), (1, strE t)] Tryz.func149 rfl Tryz.ntmps149 rfl rfl ?_
  refine RunH.adv tb_ok [] rfl rfl (by simp <;> omega) ?_
  refine RunH.gives (atV l t) rfl rfl rfl rfl rfl Tryz.call174 (fun w' hst => place_spec w' A c l (h.ext hst.fact) hr t) ?_
  intro m hm
  refine RunH.adv tb_ok [] rfl rfl (by simp <;> omega) ?_
  refine RunH.ret2 Tryz.func149 rfl rfl rfl fun w' hst => ⟨rfl, hst.fact⟩
end Go.Proofs.YtagnkcdhenilbaaGreatDoor

namespace Go.Proofs.YtagnkcdhenilbaaGreatDoor
open Go V

theorem cloneE (A : Option Addr) (c : Nat) (l : List Entry) (hb : l.length * 48 ≤ 140737488355328) : Does Tryz.prog tb 103 [.slice A l.length c] [] (fun u => Sl kEntry u A c l) (fun y : Option Addr × Nat => .slice y.1 l.length y.2) (fun y => [(0, rowE kEntry y.1 y.2 l)]) (fun _ _ _ => True) := by
  refine Does.enter tb_ok [(0, slE A l.length c)] Tryz.func103 rfl Tryz.ntmps103 rfl rfl 0 ?_
  intro B0 m K
  refine RunH.pure (fun u h => And.intro h.2.nil h.2.small) fun ⟨hnil, hsm⟩ => ?_
  cases hA : A.isNone with
  | true =>
    have hn : A = none := Option.isNone_iff_eq_none.1 hA
    obtain ⟨rfl, rfl⟩ := hnil hn
    subst hn
    refine RunH.adv tb_ok [true] rfl rfl (by simp <;> omega) ?_
    refine RunH.ret1 Tryz.func103 rfl rfl fun w hst => ⟨(none, 0), rfl, (hst.nilrow 0 kEntry).out [] rfl rfl fun u h => ⟨h.1, trivial⟩⟩
  | false =>
    refine RunH.adv tb_ok [false] rfl rfl ⟨hA, trivial⟩ ?_
    refine RunH.appendK (κ := kEntry) (id := 0) (l := []) (r := l) rfl rfl rfl rfl rfl rfl elt_entry rfl rfl (fun w hst => hst.fact.2.lies) (by simp; omega) (by simp; omega) ?_
    intro A' c' m' hm'
    refine RunH.adv tb_ok [] rfl rfl (by simp <;> omega) ?_
    refine RunH.ret1 Tryz.func103 rfl rfl fun w hst => ⟨(A', c'), rfl, hst.out [] rfl rfl fun u h => ⟨h.1, trivial⟩⟩

theorem cloneD (A : Option Addr) (c : Nat) (l : List Sum) (hb : l.length * 32 ≤ 140737488355328) : Does Tryz.prog tb 55 [.slice A l.length c] [] (fun u => Sl kSum u A c l) (fun y : Option Addr × Nat => .slice y.1 l.length y.2) (fun y => [(0, rowE kSum y.1 y.2 l)]) (fun _ _ _ => True) := by
  refine Does.enter tb_ok [(0, slE A l.length c)] Tryz.func55 rfl Tryz.ntmps55 rfl rfl 0 ?_
  intro B0 m K
  refine RunH.pure (fun u h => And.intro h.2.nil h.2.small) fun ⟨hnil, hsm⟩ => ?_
  cases hA : A.isNone with
  | true =>
    have hn : A = none := Option.isNone_iff_eq_none.1 hA
    obtain ⟨rfl, rfl⟩ := hnil hn
    subst hn
    refine RunH.adv tb_ok [true] rfl rfl (by simp <;> omega) ?_
    refine RunH.ret1 Tryz.func55 rfl rfl fun w hst => ⟨(none, 0), rfl, (hst.nilrow 0 kSum).out [] rfl rfl fun u h => ⟨h.1, trivial⟩⟩
  | false =>
    refine RunH.adv tb_ok [false] rfl rfl ⟨hA, trivial⟩ ?_
    refine RunH.appendK (κ := kSum) (id := 0) (l := []) (r := l) rfl rfl rfl rfl rfl rfl elt_sum rfl rfl (fun w hst => hst.fact.2.lies) (by simp; omega) (by simp; omega) ?_
    intro A' c' m' hm'
    refine RunH.adv tb_ok [] rfl rfl (by simp <;> omega) ?_
    refine RunH.ret1 Tryz.func55 rfl rfl fun w hst => ⟨(A', c'), rfl, hst.out [] rfl rfl fun u h => ⟨h.1, trivial⟩⟩

theorem cloneB (A : Option Addr) (c : Nat) (l : List UInt8) (hb : l.length * 1 ≤ 140737488355328) : Does Tryz.prog tb 115 [.slice A l.length c] [] (fun u => Sl kByte u A c l) (fun y : Option Addr × Nat => .slice y.1 l.length y.2) (fun y => [(0, rowE kByte y.1 y.2 l)]) (fun _ _ _ => True) := by
  refine Does.enter tb_ok [(0, slE A l.length c)] Tryz.func115 rfl Tryz.ntmps115 rfl rfl 0 ?_
  intro B0 m K
  refine RunH.pure (fun u h => And.intro h.2.nil h.2.small) fun ⟨hnil, hsm⟩ => ?_
  cases hA : A.isNone with
  | true =>
    have hn : A = none := Option.isNone_iff_eq_none.1 hA
    obtain ⟨rfl, rfl⟩ := hnil hn
    subst hn
    refine RunH.adv tb_ok [true] rfl rfl (by simp <;> omega) ?_
    refine RunH.ret1 Tryz.func115 rfl rfl fun w hst => ⟨(none, 0), rfl, (hst.nilrow 0 kByte).out [] rfl rfl fun u h => ⟨h.1, trivial⟩⟩
  | false =>
    refine RunH.adv tb_ok [false] rfl rfl ⟨hA, trivial⟩ ?_
    refine RunH.appendK (κ := kByte) (id := 0) (l := []) (r := l) rfl rfl rfl rfl rfl rfl elt_byte rfl rfl (fun w hst => hst.fact.2.lies) (by simp; omega) (by simp; omega) ?_
    intro A' c' m' hm'
    refine RunH.adv tb_ok [] rfl rfl (by simp <;> omega) ?_
    refine RunH.ret1 Tryz.func115 rfl rfl fun w hst => ⟨(A', c'), rfl, hst.out [] rfl rfl fun u h => ⟨h.1, trivial⟩⟩

/-- A namespace at work: its block, and both lists. -/
def wkE (b : Nat) (v1 v2 : Value) : Option HE := some (.obj b (.cells #[v1, v2] 140))

/-- Where a kind's list lies. -/
def kOff (k : Int) : Nat := if k = 1 then 0 else 1

theorem list_spec (w : World) (b : Nat) (k : Int) : Gives Tryz.prog 94 [.pointer (some ⟨b, 0, none⟩), intV k] w (.av (.val (.pointer (some ⟨b, kOff k, none⟩)))) := by
  refine enterH tb_ok [(0, .av (.val (.pointer (some ⟨b, 0, none⟩)))), (1, intE k)] Tryz.func94 rfl Tryz.ntmps94 rfl rfl ?_
  by_cases h : k = 1
  · refine RunH.adv tb_ok [true] rfl rfl (by simp <;> omega) ?_
    refine RunH.ret1 Tryz.func94 rfl rfl fun w' hst => ⟨by simp [kOff, h]; rfl, hst.fact⟩
  · refine RunH.adv tb_ok [false] rfl rfl (by simp <;> omega) ?_
    refine RunH.ret1 Tryz.func94 rfl rfl fun w' hst => ⟨by simp [kOff, h]; rfl, hst.fact⟩

theorem load_wk {w : World} {b : Nat} {A B : Option Addr} {n c n2 c2 : Nat} (h : w.heap[b]? = some (.cells #[.slice A n c, .slice B n2 c2] 140)) (k : Int) :
    (loadVar 22 ⟨b, kOff k, none⟩).run Tryz.prog w = .ok (if k = 1 then .slice A n c else .slice B n2 c2) w := by
  refine V.run_load tb_ok ?_ ?_
  · split <;> exact ⟨rfl, Tryz.t22, rfl, rfl⟩
  · refine range_of_blk h fun j v hj => ?_
    unfold kOff
    split at hj
    · rename_i hk
      cases j with
      | zero => simpa [hk, Value.cells] using hj
      | succ j => simp [Value.cells] at hj
    · rename_i hk
      cases j with
      | zero => simpa [hk, Value.cells] using hj
      | succ j => simp [Value.cells] at hj

theorem build_work (w : World) (A B : Option Addr) (n c n2 c2 : Nat) : (Instr.build 140 #[(0, .agg #[.slice A n c, .slice B n2 c2])]).run Tryz.prog w = .ok (.agg #[.slice A n c, .slice B n2 c2]) w := by
  refine run_build w _ _ _ ?_
  kernel_rfl

abbrev slV (A : Option Addr) (n c : Nat) : Value := .slice A n c
abbrev wkG (t y : List Entry) (x : Nat × (Option Addr × Nat) × (Option Addr × Nat)) : Heap :=
  [(0, wkE x.1 (slV x.2.1.1 t.length x.2.1.2) (slV x.2.2.1 y.length x.2.2.2)), (1, rowE kEntry x.2.1.1 x.2.1.2 t), (2, rowE kEntry x.2.2.1 x.2.2.2 y)]

theorem own_spec (s : Spc) (h1 : s.t.l.length ≤ 1000000) (h2 : s.y.l.length ≤ 1000000) : Does Tryz.prog tb 95 [s.ev.v] [] (fun u => s.ok u) (fun x : Nat × (Option Addr × Nat) × (Option Addr × Nat) => .pointer (some ⟨x.1, 0, none⟩)) (wkG s.t.l s.y.l) (fun _ _ _ => True) := by
  refine Does.enter tb_ok [(0, s.ev)] Tryz.func95 rfl Tryz.ntmps95 rfl rfl 0 ?_
  intro B0 m0 K
  refine RunH.adv tb_ok [] rfl rfl (by simp <;> omega) ?_
  refine RunH.draw rfl [(0, some (.box m0 [s.t.av, s.y.av] 24))] rfl 10 rfl rfl ?_
  refine RunD.adv tb_ok (by kernel_rfl) [] rfl rfl (by simp <;> omega) ?_
  refine RunD.does (i := 2) [] (fun y : Option Addr × Nat => rowS 1 y.1 s.t.l.length y.2) (fun y => [(1, rowE kEntry y.1 y.2 s.t.l), (0, some (.box m0 [s.t.av, s.y.av] 24))]) [(1, 0), (0, 1)] 2 rfl (by kernel_rfl) rfl rfl rfl rfl Tryz.call103 (cloneE _ _ s.t.l (by omega)) rfl rfl (fun u hu => hu.fact.2.t) (fun _ => rfl) (fun _ => rfl) (fun _ => rfl) (fun _ => rfl) (fun _ h => h) ?_
  rintro ⟨A1, c1⟩ m1 hm1
  refine RunD.adv tb_ok (by kernel_rfl) [] rfl rfl (by simp <;> omega) ?_
  refine RunD.does (i := 5) [] (fun y : Option Addr × Nat => rowS 2 y.1 s.y.l.length y.2) (fun y => [(2, rowE kEntry y.1 y.2 s.y.l), (1, rowE kEntry A1 c1 s.t.l), (0, some (.box m0 [s.t.av, s.y.av] 24))]) [(2, 0), (1, 3), (0, 1)] 3 rfl (by kernel_rfl) rfl rfl rfl rfl Tryz.call103 (cloneE _ _ s.y.l (by omega)) rfl rfl (fun u hu => hu.fact.1.2.y) (fun _ => rfl) (fun _ => rfl) (fun _ => rfl) (fun _ => rfl) (fun _ h => h.1) ?_
  rintro ⟨A2, c2⟩ m2 hm2
  refine RunD.adv tb_ok (by kernel_rfl) [] rfl rfl (by simp <;> omega) ?_
  refine RunD.read (by kernel_rfl) (i := 7) (.av (.val (.agg #[.slice A1 s.t.l.length c1, .slice A2 s.y.l.length c2]))) rfl rfl rfl rfl rfl rfl (fun w' a _ ha => ?_) ?_
  · have h1 : a.eval (.tmp 9) = .agg #[.slice A1 s.t.l.length c1, .slice A2 s.y.l.length c2] := ev_run (e := .st [.row 1 (.slice A1 s.t.l.length c1), .row 2 (.slice A2 s.y.l.length c2)]) ha rfl
    simp only [execOp, List.map_toArray, List.map_cons, List.map_nil, h1, build_work, Sem.run_bind, Result.andThen_ok, Sem.run_pure]
    rfl
  refine RunD.go (i := 8) rfl (by kernel_rfl) rfl (OpGo.boxRaw (id := 3) rfl rfl) 4 (fun _ => rfl) (fun _ _ h => h.1.1) ?_
  rintro ⟨⟩ m3 hm3
  refine RunD.adv tb_ok (by kernel_rfl) [] rfl rfl (by simp <;> omega) ?_
  refine RunD.done (.inl rfl) (by kernel_rfl) ?_
  refine RunH.adv tb_ok [] rfl rfl (by simp <;> omega) ?_
  refine RunH.ret1 Tryz.func95 rfl rfl fun w hst => ⟨(m2, (A1, c1), (A2, c2)), rfl, hst.out [(0, 3), (1, 1), (2, 2)] rfl rfl fun u h => ⟨h.1.1.1, trivial⟩⟩

/-- A kind's list. -/
def kList (k : Int) (t y : List Entry) : List Entry := if k = 1 then t else y

theorem has_spec (w : World) (b : Nat) (A B : Option Addr) (c c2 : Nat) (t y : List Entry) (hb : w.heap[b]? = some (.cells #[.slice A t.length c, .slice B y.length c2] 140))
    (ht : Sl kEntry w A c t) (hy : Sl kEntry w B c2 y) (k : Int) (hr : rises (kList k t y) = true) (p : Str) :
    Gives Tryz.prog 105 [.pointer (some ⟨b, 0, none⟩), intV k, strV p] w (boolE (isAt (kList k t y) p)) := by
  refine enterH tb_ok [(0, .av (.val (.pointer (some ⟨b, 0, none⟩)))), (1, intE k), (2, strE p)] Tryz.func105 rfl Tryz.ntmps105 rfl rfl ?_
  refine RunH.adv tb_ok [] rfl rfl (by simp <;> omega) ?_
  refine RunH.gives (.av (.val (.pointer (some ⟨b, kOff k, none⟩)))) rfl rfl rfl rfl rfl Tryz.call94 (fun w' _ => list_spec w' b k) ?_
  intro m1 h1
  refine RunH.adv tb_ok [] rfl rfl (by simp <;> omega) ?_
  have hlt : b < w.heap.size := (Array.getElem?_eq_some_iff.1 hb).1
  have hS : ∀ w', Ext w w' → ∃ A' c', (if k = 1 then Value.slice A t.length c else .slice B y.length c2) = .slice A' (kList k t y).length c' ∧ Sl kEntry w' A' c' (kList k t y) := by
    intro w' h
    unfold kList
    split
    · exact ⟨A, c, rfl, ht.ext h⟩
    · exact ⟨B, c2, rfl, hy.ext h⟩
  obtain ⟨A', c', hv, hsl⟩ := hS w (Ext.rfl' w)
  refine RunH.load (slE A' (kList k t y).length c') rfl rfl rfl rfl (fun w' h' => ?_) ?_
  · have := load_wk (w := w') (b := b) (by rw [h'.block b hlt]; exact hb) k
    rw [hv] at this; exact this
  refine RunH.adv tb_ok [] rfl rfl (by simp <;> omega) ?_
  refine RunH.gives (atV (kList k t y) p) rfl rfl rfl rfl rfl Tryz.call149 (fun w' hst => at_spec w' A' c' _ (hsl.ext hst.fact) hr p) ?_
  intro m2 h2
  refine RunH.adv tb_ok [] rfl rfl (by simp <;> omega) ?_
  refine RunH.ret1 Tryz.func105 rfl rfl fun w' hst => ⟨rfl, hst.fact⟩

theorem full_spec (w : World) (b : Nat) (A B : Option Addr) (c c2 : Nat) (t y : List Entry) (hb : w.heap[b]? = some (.cells #[.slice A t.length c, .slice B y.length c2] 140)) (k : Int) :
    Gives Tryz.prog 122 [.pointer (some ⟨b, 0, none⟩), intV k] w (boolE (decide (300 ≤ (kList k t y).length))) := by
  refine enterH tb_ok [(0, .av (.val (.pointer (some ⟨b, 0, none⟩)))), (1, intE k)] Tryz.func122 rfl Tryz.ntmps122 rfl rfl ?_
  refine RunH.adv tb_ok [] rfl rfl (by simp <;> omega) ?_
  refine RunH.gives (.av (.val (.pointer (some ⟨b, kOff k, none⟩)))) rfl rfl rfl rfl rfl Tryz.call94 (fun w' _ => list_spec w' b k) ?_
  intro m1 h1
  refine RunH.adv tb_ok [] rfl rfl (by simp <;> omega) ?_
  have hlt : b < w.heap.size := (Array.getElem?_eq_some_iff.1 hb).1
  obtain ⟨A', c', hv⟩ : ∃ A' c', (if k = 1 then Value.slice A t.length c else .slice B y.length c2) = .slice A' (kList k t y).length c' := by
    unfold kList
    split
    · exact ⟨A, c, rfl⟩
    · exact ⟨B, c2, rfl⟩
  refine RunH.load (slE A' (kList k t y).length c') rfl rfl rfl rfl (fun w' h' => ?_) ?_
  · have := load_wk (w := w') (b := b) (by rw [h'.block b hlt]; exact hb) k
    rw [hv] at this; exact this
  refine RunH.adv tb_ok [] rfl rfl (by simp <;> omega) ?_
  refine RunH.ret1 Tryz.func122 rfl rfl fun w' hst => ⟨by simp [EV.v, AV.v]; omega, hst.fact⟩

/-- What is wrong with a namespace and a kind. -/
def kindE (t y : List Entry) (k : Int) : Int := if checkE t y = 0 then (if k = 1 ∨ k = 2 then 0 else 3) else checkE t y

theorem kinded_bad (w : World) (hM : MaxLen w) (s : Spc) (hs : s.ok w) (k : Int) (A : Option Addr) (n c : Nat) (h : kindE s.t.l s.y.l k ≠ 0) :
    Gives Tryz.prog 88 [s.ev.v, intV k, .slice A n c] w (.av (.val (.tuple #[.pointer none, intV (kindE s.t.l s.y.l k)]))) := by
  refine enterH tb_ok [(0, s.ev), (1, intE k), (2, slE A n c)] Tryz.func88 rfl Tryz.ntmps88 rfl rfl ?_
  refine RunH.adv tb_ok [] rfl rfl (by simp <;> omega) ?_
  refine RunH.gives (intE (checkE s.t.l s.y.l)) rfl rfl rfl rfl rfl Tryz.call19 (fun w' hst => space_Check w' (hM.ext hst.fact) s (hs.ext hst.fact)) ?_
  intro m1 h1
  by_cases he : checkE s.t.l s.y.l = 0
  · have hk : ¬ (k = 1 ∨ k = 2) := fun e => h (by simp [kindE, he, e])
    refine RunH.adv tb_ok [false, true, true] rfl rfl (by simp [he] <;> omega) ?_
    refine RunH.ret2 Tryz.func88 rfl rfl rfl fun w' hst => ⟨by simp [kindE, he, hk, EV.v, AV.v], hst.fact⟩
  · refine RunH.adv tb_ok [true] rfl rfl (by simp [he] <;> omega) ?_
    refine RunH.ret2 Tryz.func88 rfl rfl rfl fun w' hst => ⟨by simp [kindE, he, EV.v, AV.v], hst.fact⟩

theorem kinded_ok (s : Spc) (k : Int) (A : Option Addr) (c : Nat) (l : List Str) (h : kindE s.t.l s.y.l k = 0) (h1 : s.t.l.length ≤ 1000000) (h2 : s.y.l.length ≤ 1000000) :
    Does Tryz.prog tb 88 [s.ev.v, intV k, .slice A l.length c] [] (fun u => MaxLen u ∧ s.ok u ∧ Sl kStr u A c l) (fun x : Nat × (Option Addr × Nat) × (Option Addr × Nat) => .tuple #[.pointer (some ⟨x.1, 0, none⟩), intV (pathsE l)]) (wkG s.t.l s.y.l) (fun _ _ _ => True) := by
  have hc : checkE s.t.l s.y.l = 0 := by
    unfold kindE at h
    split at h
    · assumption
    · exact h
  have hk : k = 1 ∨ k = 2 := by
    unfold kindE at h
    rw [if_pos hc] at h
    split at h
    · assumption
    · cases h
  refine Does.enter tb_ok [(0, s.ev), (1, intE k), (2, slE A l.length c)] Tryz.func88 rfl Tryz.ntmps88 rfl rfl 0 ?_
  intro B0 m0 K
  refine RunH.adv tb_ok [] rfl rfl (by simp <;> omega) ?_
  refine RunH.gives (intE (checkE s.t.l s.y.l)) rfl rfl rfl rfl rfl Tryz.call19 (fun w' hst => space_Check w' hst.fact.2.1 s hst.fact.2.2.1) ?_
  intro m1 hm1
  rcases hk with rfl | rfl
  · refine RunH.adv tb_ok [false, false] rfl rfl (by simp [hc] <;> omega) ?_
    refine RunH.does [] (fun x : Nat × (Option Addr × Nat) × (Option Addr × Nat) => .av (.val (.pointer (some ⟨x.1, 0, none⟩)))) (wkG s.t.l s.y.l) [(1, 2), (2, 4)] 4 rfl rfl rfl rfl rfl Tryz.call95 (own_spec s h1 h2) rfl rfl (fun u hu => hu.fact.2.2.1) (fun _ => rfl) (fun _ => rfl) (fun _ => rfl) ?_
    rintro x m2 hm2
    refine RunH.adv tb_ok [] rfl rfl (by simp <;> omega) ?_
    refine RunH.gives (intE (pathsE l)) rfl rfl rfl rfl rfl Tryz.call85 (fun w' hst => space_paths w' hst.fact.1.2.1 A c l hst.fact.1.2.2.2) ?_
    intro m3 hm3
    refine RunH.adv tb_ok [] rfl rfl (by simp <;> omega) ?_
    refine RunH.ret2 Tryz.func88 rfl rfl rfl fun w hst => ⟨x, rfl, hst.out [] rfl rfl fun u h => ⟨h.1.1, trivial⟩⟩
  · refine RunH.adv tb_ok [false, true, false] rfl rfl (by simp [hc] <;> omega) ?_
    refine RunH.does [] (fun x : Nat × (Option Addr × Nat) × (Option Addr × Nat) => .av (.val (.pointer (some ⟨x.1, 0, none⟩)))) (wkG s.t.l s.y.l) [(1, 2), (2, 4)] 4 rfl rfl rfl rfl rfl Tryz.call95 (own_spec s h1 h2) rfl rfl (fun u hu => hu.fact.2.2.1) (fun _ => rfl) (fun _ => rfl) (fun _ => rfl) ?_
    rintro x m2 hm2
    refine RunH.adv tb_ok [] rfl rfl (by simp <;> omega) ?_
    refine RunH.gives (intE (pathsE l)) rfl rfl rfl rfl rfl Tryz.call85 (fun w' hst => space_paths w' hst.fact.1.2.1 A c l hst.fact.1.2.2.2) ?_
    intro m3 hm3
    refine RunH.adv tb_ok [] rfl rfl (by simp <;> omega) ?_
    refine RunH.ret2 Tryz.func88 rfl rfl rfl fun w hst => ⟨x, rfl, hst.out [] rfl rfl fun u h => ⟨h.1.1, trivial⟩⟩
end Go.Proofs.YtagnkcdhenilbaaGreatDoor

namespace Go.Proofs.YtagnkcdhenilbaaGreatDoor
open Go V
def hasPre (s p : Str) : Bool := decide (p.length ≤ s.length) && decide (s.take p.length = p)

theorem HasPrefix_spec (w : World) (s p : Str) : Gives Tryz.prog 191 [strV s, strV p] w (boolE (hasPre s p)) := by
  refine enterH tb_ok [(0, strE s), (1, strE p)] Tryz.func191 rfl Tryz.ntmps191 rfl rfl ?_
  by_cases h : p.length ≤ s.length
  · refine RunH.adv tb_ok [true] rfl rfl (by simp <;> omega) ?_
    refine RunH.ret1 Tryz.func191 rfl rfl fun w' hst => ⟨by simp [hasPre, h, EV.v, AV.v], hst.fact⟩
  · refine RunH.adv tb_ok [false] rfl rfl (by simp <;> omega) ?_
    refine RunH.ret1 Tryz.func191 rfl rfl fun w' hst => ⟨by simp [hasPre, h, EV.v, AV.v], hst.fact⟩

def cutS (s p : Str) : Str := if hasPre s p = true then s.drop p.length else s
abbrev cutV (s p : Str) : EV := .av (.val (.tuple #[strV (cutS s p), .bool (hasPre s p)]))

theorem CutPre0_spec (w : World) (s p : Str) : Gives Tryz.prog 176 [strV s, strV p] w (cutV s p) := by
  refine enterH tb_ok [(0, strE s), (1, strE p)] Tryz.func176 rfl Tryz.ntmps176 rfl rfl ?_
  refine RunH.adv tb_ok [] rfl rfl (by simp <;> omega) ?_
  refine RunH.gives (boolE (hasPre s p)) rfl rfl rfl rfl rfl Tryz.call191 (fun w' _ => HasPrefix_spec w' s p) ?_
  intro m hm
  by_cases h : hasPre s p = true
  · have hle : p.length ≤ s.length := by
      unfold hasPre at h
      simp only [Bool.and_eq_true, decide_eq_true_eq] at h
      exact h.1
    refine RunH.adv tb_ok [false] rfl rfl (by simp [h] <;> omega) ?_
    refine RunH.ret2 Tryz.func176 rfl rfl rfl fun w' hst => ⟨by simp [cutS, h, EV.v, AV.v], hst.fact⟩
  · refine RunH.adv tb_ok [true] rfl rfl (by simp [h] <;> omega) ?_
    refine RunH.ret2 Tryz.func176 rfl rfl rfl fun w' hst => ⟨by simp [cutS, h, EV.v, AV.v], hst.fact⟩

theorem CutPre_spec (w : World) (s p : Str) : Gives Tryz.prog 153 [strV s, strV p] w (cutV s p) := by
  refine enterH tb_ok [(0, strE s), (1, strE p)] Tryz.func153 rfl Tryz.ntmps153 rfl rfl ?_
  refine RunH.adv tb_ok [] rfl rfl (by simp <;> omega) ?_
  refine RunH.gives (cutV s p) rfl rfl rfl rfl rfl Tryz.call176 (fun w' _ => CutPre0_spec w' s p) ?_
  intro m hm
  refine RunH.adv tb_ok [] rfl rfl (by simp <;> omega) ?_
  refine RunH.ret2 Tryz.func153 rfl rfl rfl fun w' hst => ⟨rfl, hst.fact⟩

def under1 (p : Str) (x : Entry) : List Entry := if hasPre x.path (p ++ [46]) = true then [⟨cutS x.path (p ++ [46]), x.sum⟩] else []
def underL (p : Str) (l : List Entry) : List Entry := l.flatMap (under1 p)

theorem under_len (p : Str) : ∀ l, (underL p l).length ≤ l.length
  | [] => Nat.le_refl _
  | x :: r => by
    have := under_len p r
    unfold underL at this ⊢
    rw [List.flatMap_cons, List.length_append, List.length_cons]
    have : (under1 p x).length ≤ 1 := by unfold under1; split <;> simp
    omega

theorem under_spec (A : Option Addr) (c : Nat) (l : List Entry) (p : Str) (hn : l.length ≤ 1000000) (hp : p.length ≤ 1000000) :
    Does Tryz.prog tb 100 [.slice A l.length c, strV p] [] (fun u => Sl kEntry u A c l) (fun y : Option Addr × Nat => .slice y.1 (underL p l).length y.2) (fun y => [(0, rowE kEntry y.1 y.2 (underL p l))]) (fun _ _ _ => True) := by
  have hl : lim = 140737488351232 := rfl
  refine Does.enter tb_ok [(0, slE A l.length c), (1, strE p)] Tryz.func100 rfl Tryz.ntmps100 rfl rfl 0 ?_
  intro B0 m0 K
  refine RunH.nilrow 0 kEntry.T kEntry.sz 1 ?_
  refine RunH.adv tb_ok [] rfl rfl (by simp <;> omega) ?_
  refine RunH.loop (α := Nat × Option Addr × Nat × List Entry) (fun x => [(1, strE p), (10, slE A l.length c), (11, intE l.length), (12, intE x.1), (5, rowS 0 x.2.1 x.2.2.2.length x.2.2.1)]) (fun x => [(0, rowE kEntry x.2.1 x.2.2.1 x.2.2.2)]) (fun x u => (K u ∧ Sl kEntry u A c l) ∧ x.1 ≤ l.length ∧ x.2.2.2 = underL p (l.take x.1)) (fun x => l.length - x.1) (0, none, 0, [])
    rfl rfl (fun u h => ⟨h, Nat.zero_le _, rfl⟩) ?_
  rintro ⟨i, A1, c1, out⟩ m
  refine RunH.pure (fun w' h => h.2) fun ⟨hi, ho⟩ => ?_
  dsimp only at hi ho
  by_cases hlt : i < l.length
  · have hts : l.take (i + 1) = l.take i ++ [l[i]] := List.take_succ_eq_append_getElem hlt
    have hol : out.length ≤ l.length := by
      have := under_len p (l.take i)
      rw [← ho, List.length_take] at this; omega
    have hnext : underL p (l.take (i + 1)) = out ++ under1 p l[i] := by rw [hts, ho]; unfold underL; rw [List.flatMap_append, List.flatMap_cons, List.flatMap_nil, List.append_nil]
    refine RunH.pure (fun w' h => (h.1.2.ptr hlt)) fun hptr => ?_
    refine RunH.adv tb_ok [true] rfl rfl (by simp [hptr] <;> omega) ?_
    refine RunH.load (.st (entryF l[i])) rfl rfl rfl rfl (fun w' h' => h'.1.2.load hlt) ?_
    refine RunH.adv tb_ok [] rfl rfl (by simp <;> omega) ?_
    refine RunH.gives (cutV l[i].path (p ++ [46])) rfl rfl rfl rfl rfl Tryz.call153 (fun w' _ => CutPre_spec w' _ _) ?_
    intro m1 hm1
    by_cases hh : hasPre l[i].path (p ++ [46]) = true
    · have h1 : under1 p l[i] = [⟨cutS l[i].path (p ++ [46]), l[i].sum⟩] := if_pos hh
      refine RunH.adv tb_ok [true] rfl rfl (by simp [hh] <;> omega) ?_
      refine RunH.appendK (κ := kEntry) (id := 0) (r := [⟨cutS l[i].path (p ++ [46]), l[i].sum⟩]) rfl rfl rfl rfl rfl rfl elt_entry rfl rfl (fun w hst => hst.liesRow (κ := kEntry) (l := [⟨cutS l[i].path (p ++ [46]), l[i].sum⟩]) (id := 2) rfl (by simp [hl])) (by simp; omega) (by simp; omega) ?_
      intro A' c' m' hm'
      refine RunH.adv tb_ok [] rfl rfl (by simp <;> omega) ?_
      refine RunH.again (i + 1, A', c', out ++ [(⟨cutS l[i].path (p ++ [46]), l[i].sum⟩ : Entry)]) (.head _) rfl rfl (by dsimp only; omega) fun u h => ⟨h.1, by dsimp only; omega, ?_⟩
      dsimp only; rw [hnext, h1]
    · have h1 : under1 p l[i] = [] := if_neg hh
      refine RunH.adv tb_ok [false] rfl rfl (by simp [hh] <;> omega) ?_
      refine RunH.again (i + 1, A1, c1, out) (.head _) rfl rfl (by dsimp only; omega) fun u h => ⟨h.1, by dsimp only; omega, ?_⟩
      dsimp only; rw [hnext, h1, List.append_nil]
  · rw [List.take_of_length_le (by omega)] at ho
    subst ho
    refine RunH.adv tb_ok [false] rfl rfl (by simp <;> omega) ?_
    refine RunH.ret1 Tryz.func100 rfl rfl fun w hst => ⟨(A1, c1), rfl, hst.out [] rfl rfl fun u h => ⟨h.1.1, trivial⟩⟩

theorem idxD_spec (w : World) (A : Option Addr) (c : Nat) (l : List Sum) (h : Sl kSum w A c l) (x : Sum) : Gives Tryz.prog 142 [.slice A l.length c, sumV x] w (intE (idxOf (fun y => decide (x = y)) l 0)) := by
  have hl : lim = 140737488351232 := rfl
  have hsm := h.small
  refine enterH tb_ok [(0, slE A l.length c), (1, sumE x)] Tryz.func142 rfl Tryz.ntmps142 rfl rfl ?_
  refine RunH.adv tb_ok [] rfl rfl (by simp <;> omega) ?_
  refine RunH.loop (α := Nat) (fun i => [(0, slE A l.length c), (3, .av (.box 0 w.heap.size 0)), (7, intE l.length), (8, intE i)]) (fun _ => [(0, some (.box w.heap.size [.val (sumV x)] 39))]) (fun i w' => Ext w w' ∧ i ≤ l.length ∧ (l.take i).any (fun y => decide (x = y)) = false) (fun i => l.length - i) 0
    rfl rfl (fun w' h => ⟨h, Nat.zero_le _, rfl⟩) ?_
  intro i m
  refine RunH.pure (fun w' h => h.2) fun ⟨hi, hpre⟩ => ?_
  by_cases hlt : i < l.length
  · have hts : l.take (i + 1) = l.take i ++ [l[i]] := List.take_succ_eq_append_getElem hlt
    refine RunH.adv tb_ok [true] rfl rfl (by simp <;> omega) ?_
    refine RunH.draw rfl [(0, some (.box w.heap.size [.val (sumV x)] 39))] rfl 6 rfl rfl ?_
    refine RunD.adv tb_ok (by kernel_rfl) [] rfl rfl (by simp [h.ptr hlt] <;> omega) ?_
    refine RunD.load (by kernel_rfl) (i := 4) (sumE l[i]) rfl rfl rfl rfl rfl rfl (fun w' h' => (h.ext h'.1).load hlt) ?_
    refine RunD.read (by kernel_rfl) (i := 5) (boolE (decide (x = l[i]))) rfl rfl rfl rfl rfl rfl (fun w' a h hag => op_eq hag rfl rfl rfl rfl rfl (by kernel_rfl) (eq_sum w' 9998 _ _)) ?_
    refine RunD.done (.inl rfl) (by kernel_rfl) ?_
    by_cases hp : x = l[i]
    · refine RunH.adv tb_ok [true] rfl rfl (by simp [hp] <;> omega) ?_
      refine RunH.ret1 Tryz.func142 rfl rfl fun w' hst => ⟨?_, hst.fact.1⟩
      rw [idxOf_at _ l 0 i hlt hpre (by simpa using hp), Nat.zero_add]
    · refine RunH.adv tb_ok [false] rfl rfl (by simp [hp] <;> omega) ?_
      refine RunH.again (i + 1) (.head _) rfl rfl (by omega) fun w' h => ⟨h.1, by omega, ?_⟩
      rw [hts, List.any_append, hpre]; simp [hp]
  · rw [List.take_of_length_le (by omega)] at hpre
    refine RunH.adv tb_ok [false] rfl rfl (by simp <;> omega) ?_
    refine RunH.ret1 Tryz.func142 rfl rfl fun w' hst => ⟨?_, hst.fact.1⟩
    rw [idxOf_none _ l 0 hpre]

def hasD (l : List Sum) (x : Sum) : Bool := l.any fun y => decide (x = y)

theorem conD_spec (w : World) (A : Option Addr) (c : Nat) (l : List Sum) (h : Sl kSum w A c l) (x : Sum) : Gives Tryz.prog 68 [.slice A l.length c, sumV x] w (boolE (hasD l x)) := by
  refine enterH tb_ok [(0, slE A l.length c), (1, sumE x)] Tryz.func68 rfl Tryz.ntmps68 rfl rfl ?_
  refine RunH.adv tb_ok [] rfl rfl (by simp <;> omega) ?_
  refine RunH.gives (intE (idxOf (fun y => decide (x = y)) l 0)) rfl rfl rfl rfl rfl Tryz.call142 (fun w' hst => idxD_spec w' A c l (h.ext hst.fact) x) ?_
  intro m' hm'
  refine RunH.adv tb_ok [] rfl rfl (by simp <;> omega) ?_
  refine RunH.ret1 Tryz.func68 rfl rfl fun w' hst => ⟨?_, hst.fact⟩
  have : decide (0 ≤ idxOf (fun y => decide (x = y)) l 0) = hasD l x := by rw [Bool.eq_iff_iff]; simp only [decide_eq_true_eq]; exact idxOf_ge _ l 0
  simp [this, EV.v, AV.v]
end Go.Proofs.YtagnkcdhenilbaaGreatDoor

namespace Go.Proofs.YtagnkcdhenilbaaGreatDoor
open Go V
def orI : List Int → Int
  | [] => 0
  | x :: r => if x = 0 then orI r else x

theorem orI_take : ∀ (l : List Int) (i : Nat) (h : i < l.length), (∀ j (hj : j < l.length), j < i → l[j] = 0) → l[i] ≠ 0 → orI l = l[i]
  | [], _, h, _, _ => by cases h
  | x :: r, 0, _, _, hn => by simp only [List.getElem_cons_zero] at hn ⊢; simp [orI, hn]
  | x :: r, i + 1, h, hz, hn => by
    have h0 : x = 0 := hz 0 (by simp) (by omega)
    simp only [orI, h0, if_true, List.getElem_cons_succ] at hn ⊢
    exact orI_take r i (by simpa using h) (fun j hj hji => hz (j + 1) (by simpa using hj) (by omega)) hn

theorem orI_zero : ∀ (l : List Int), (∀ j (hj : j < l.length), l[j] = 0) → orI l = 0
  | [], _ => rfl
  | x :: r, hz => by
    have h0 : x = 0 := hz 0 (by simp)
    simp only [orI, h0, if_true]
    exact orI_zero r fun j hj => hz (j + 1) (by simpa using hj)

theorem or_spec (w : World) (A : Option Addr) (c : Nat) (l : List Int) (h : Sl kInt w A c l) : Gives Tryz.prog 97 [.slice A l.length c] w (intE (orI l)) := by
  have hl : lim = 140737488351232 := rfl
  have hsm := h.small
  refine enterH tb_ok [(0, slE A l.length c)] Tryz.func97 rfl Tryz.ntmps97 rfl rfl ?_
  refine RunH.adv tb_ok [] rfl rfl (by simp <;> omega) ?_
  refine RunH.loop (α := Nat) (fun i => [(3, intE 0), (6, slE A l.length c), (7, intE l.length), (8, intE i)]) (fun _ => []) (fun i w' => Ext w w' ∧ i ≤ l.length ∧ ∀ j (hj : j < l.length), j < i → l[j] = 0) (fun i => l.length - i) 0
    rfl rfl (fun w' h => ⟨h, Nat.zero_le _, fun j hj hji => by omega⟩) ?_
  intro i m
  refine RunH.pure (fun w' h => h.2) fun ⟨hi, hz⟩ => ?_
  by_cases hlt : i < l.length
  · refine RunH.adv tb_ok [true] rfl rfl (by simp [h.ptr hlt] <;> omega) ?_
    refine RunH.load (intE l[i]) rfl rfl rfl rfl (fun w' h' => (h.ext h'.1).load hlt) ?_
    by_cases hx : l[i] = 0
    · refine RunH.adv tb_ok [false] rfl rfl (by simp [hx] <;> omega) ?_
      refine RunH.again (i + 1) (.head _) rfl rfl (by omega) fun w' h => ⟨h.1, by omega, fun j hj hji => ?_⟩
      by_cases e : j = i
      · subst e; exact hx
      · exact hz j hj (by omega)
    · refine RunH.adv tb_ok [true] rfl rfl (by simp [hx] <;> omega) ?_
      refine RunH.ret1 Tryz.func97 rfl rfl fun w' hst => ⟨by rw [orI_take l i hlt hz hx], hst.fact.1⟩
  · refine RunH.adv tb_ok [false] rfl rfl (by simp <;> omega) ?_
    refine RunH.ret1 Tryz.func97 rfl rfl fun w' hst => ⟨by rw [orI_zero l fun j hj => hz j hj (by omega)], hst.fact.1⟩

def oneB (l : List Entry) : Bool := l.all fun x => decide (x.sum = (l.getD 0 zeroE).sum)
def oneS (l : List Entry) : Sum := if oneB l = true then (l.getD 0 zeroE).sum else Sum.zero

theorem build_zero (w : World) : (Instr.build 39 #[]).run Tryz.prog w = .ok (sumV Sum.zero) w := by
  refine run_build w _ _ _ ?_
  kernel_rfl

theorem one_spec (w : World) (A : Option Addr) (c : Nat) (l : List Entry) (h : Sl kEntry w A c l) (hne : 0 < l.length) : Gives Tryz.prog 92 [.slice A l.length c] w (.av (.val (.tuple #[sumV (oneS l), .bool (oneB l)]))) := by
  have hl : lim = 140737488351232 := rfl
  have hsm := h.small
  have h0 : (l.getD 0 zeroE) = l[0] := by rw [List.getD_eq_getElem?_getD, List.getElem?_eq_getElem hne]; rfl
  refine enterH tb_ok [(0, slE A l.length c)] Tryz.func92 rfl Tryz.ntmps92 rfl rfl ?_
  refine RunH.adv tb_ok [] rfl rfl (by simp <;> omega) ?_
  refine RunH.loop (α := Nat) (fun i => [(0, slE A l.length c), (2, .av (.box 0 w.heap.size 0)), (6, slE A l.length c), (7, intE l.length), (8, intE i)]) (fun _ => [(0, some (.box w.heap.size [.val (sumV Sum.zero)] 39))]) (fun i w' => Ext w w' ∧ i ≤ l.length ∧ (l.take i).all (fun x => decide (x.sum = l[0].sum)) = true) (fun i => l.length - i) 0
    rfl rfl (fun w' h => ⟨h, Nat.zero_le _, rfl⟩) ?_
  intro i m
  refine RunH.pure (fun w' h => h.2) fun ⟨hi, hpre⟩ => ?_
  by_cases hlt : i < l.length
  · have hts : l.take (i + 1) = l.take i ++ [l[i]] := List.take_succ_eq_append_getElem hlt
    refine RunH.adv tb_ok [true] rfl rfl (by simp [h.ptr hlt] <;> omega) ?_
    refine RunH.load (.st (entryF l[i])) rfl rfl rfl rfl (fun w' h' => (h.ext h'.1).load hlt) ?_
    refine RunH.adv tb_ok [] rfl rfl (by simp <;> omega) ?_
    refine RunH.draw rfl [(1, some (.box m (entryF l[i]) 44))] rfl 7 rfl rfl ?_
    refine RunD.adv tb_ok (by kernel_rfl) [] rfl rfl (by simp [h.ptr hlt] <;> omega) ?_
    refine RunD.load (by kernel_rfl) (i := 5) (sumE l[0].sum) rfl rfl rfl rfl rfl rfl (fun w' h' => (h.ext h'.1).sum hne) ?_
    refine RunD.read (by kernel_rfl) (i := 6) (boolE (!decide (l[i].sum = l[0].sum))) rfl rfl rfl rfl rfl rfl (fun w' a h hag => op_neq hag rfl rfl rfl rfl rfl (by kernel_rfl) (eq_sum w' 9998 _ _)) ?_
    refine RunD.done (.inl rfl) (by kernel_rfl) ?_
    by_cases he : l[i].sum = l[0].sum
    · refine RunH.adv tb_ok [false] rfl rfl (by simp [he] <;> omega) ?_
      refine RunH.again (i + 1) (.head _) rfl rfl (by omega) fun w' h => ⟨h.1, by omega, ?_⟩
      rw [hts, List.all_append, hpre]; simp [he]
    · have hno : oneB l = false := by
        unfold oneB
        rw [h0, List.all_eq_false]; exact ⟨_, List.getElem_mem hlt, by simpa using he⟩
      refine RunH.adv tb_ok [true] rfl rfl (by simp [he] <;> omega) ?_
      refine RunH.read (sumE Sum.zero) rfl rfl rfl rfl (fun w' a _ ha => ?_) ?_
      · simp only [execOp, List.map_toArray, List.map_nil, build_zero, Sem.run_bind, Result.andThen_ok, Sem.run_pure]
        rfl
      refine RunH.adv tb_ok [] rfl rfl (by simp <;> omega) ?_
      refine RunH.retBoxT tb_ok (sumE Sum.zero) Tryz.func92 rfl rfl rfl rfl rfl fun w' hst => ⟨by simp [oneS, hno, EV.v, AV.v], hst.fact.1⟩
  · rw [List.take_of_length_le (by omega)] at hpre
    have hyes : oneB l = true := by unfold oneB; rw [h0]; exact hpre
    refine RunH.adv tb_ok [false] rfl rfl (by simp [h.ptr hne] <;> omega) ?_
    refine RunH.load (sumE l[0].sum) rfl rfl rfl rfl (fun w' h' => (h.ext h'.1).sum hne) ?_
    refine RunH.adv tb_ok [] rfl rfl (by simp <;> omega) ?_
    refine RunH.retBoxT tb_ok (sumE l[0].sum) Tryz.func92 rfl rfl rfl rfl rfl fun w' hst => ⟨by simp only [oneS, hyes, if_true, h0]; rfl, hst.fact.1⟩

theorem Sl.take {α : Type} {κ : Kd α} {w : World} {A : Option Addr} {c : Nat} {l : List α} (h : Sl κ w A c l) (i : Nat) (hi : i ≤ l.length) : Sl κ w A c (l.take i) := by
  have hlen : (l.take i).length = i := by rw [List.length_take]; omega
  refine ⟨by rw [hlen]; exact Nat.le_trans hi h.cap, by rw [hlen]; exact Nat.le_trans hi h.small, fun hn => h.addr fun e => hn (by rw [e, List.take_nil]), ?_, fun e => ?_⟩
  · intro j v hj
    refine h.cells j v ?_
    have e : l.flatMap κ.cs = (l.take i).flatMap κ.cs ++ (l.drop i).flatMap κ.cs := by rw [← List.flatMap_append, List.take_append_drop]
    rw [e, List.getElem?_append_left (List.getElem?_eq_some_iff.1 hj).1]
    exact hj
  · obtain ⟨rfl, h2⟩ := h.nil e
    exact ⟨List.take_nil, h2⟩

def twiceL (l : List Sum) : Bool := (List.range l.length).any fun i => hasD (l.take i) (l.getD i Sum.zero)

theorem twice_spec (w : World) (A : Option Addr) (c : Nat) (l : List Sum) (h : Sl kSum w A c l) : Gives Tryz.prog 125 [.slice A l.length c] w (boolE (twiceL l)) := by
  have hl : lim = 140737488351232 := rfl
  have hsm := h.small
  have hcap := h.cap
  refine enterH tb_ok [(0, slE A l.length c)] Tryz.func125 rfl Tryz.ntmps125 rfl rfl ?_
  refine RunH.adv tb_ok [] rfl rfl (by simp <;> omega) ?_
  refine RunH.loop (α := Nat) (fun i => [(0, slE A l.length c), (5, slE A l.length c), (6, intE l.length), (7, intE i)]) (fun _ => []) (fun i w' => Ext w w' ∧ i ≤ l.length ∧ ∀ j, j < i → hasD (l.take j) (l.getD j Sum.zero) = false) (fun i => l.length - i) 0
    rfl rfl (fun w' h => ⟨h, Nat.zero_le _, fun j hj => by cases hj⟩) ?_
  intro i m
  refine RunH.pure (fun w' h => h.2) fun ⟨hi, hz⟩ => ?_
  by_cases hlt : i < l.length
  · have hg : l.getD i Sum.zero = l[i] := by rw [List.getD_eq_getElem?_getD, List.getElem?_eq_getElem hlt]; rfl
    have hlen : (l.take i).length = i := by rw [List.length_take]; omega
    refine RunH.adv tb_ok [true] rfl rfl (by simp [h.ptr hlt] <;> omega) ?_
    refine RunH.load (sumE l[i]) rfl rfl rfl rfl (fun w' h' => (h.ext h'.1).load hlt) ?_
    refine RunH.adv tb_ok [] rfl rfl (by simp <;> omega) ?_
    refine RunH.draw rfl [(0, some (.box m [.val (sumV l[i])] 39))] rfl 5 rfl rfl ?_
    refine RunD.adv tb_ok (by kernel_rfl) [] rfl rfl (by simp <;> omega) ?_
    refine RunD.gives (i := 4) (boolE (hasD (l.take i) l[i])) rfl (by kernel_rfl) rfl rfl rfl rfl Tryz.call68 (fun w' hst => ?_) rfl (fun _ h => h) ?_
    · have := conD_spec w' A c (l.take i) (Sl.take (h.ext hst.fact.1) i hi) l[i]
      rw [hlen] at this
      exact this
    intro m2 hm2
    refine RunD.done (.inl rfl) (by kernel_rfl) ?_
    by_cases hh : hasD (l.take i) l[i] = true
    · refine RunH.adv tb_ok [true] rfl rfl (by simp [hh] <;> omega) ?_
      refine RunH.ret1 Tryz.func125 rfl rfl fun w' hst => ⟨?_, hst.fact.1⟩
      have : twiceL l = true := by
        unfold twiceL
        rw [List.any_eq_true]; exact ⟨i, by rw [List.mem_range]; exact hlt, by rw [hg]; exact hh⟩
      rw [this]; rfl
    · refine RunH.adv tb_ok [false] rfl rfl (by simp [hh] <;> omega) ?_
      refine RunH.again (i + 1) (.head _) rfl rfl (by omega) fun w' h => ⟨h.1, by omega, fun j hj => ?_⟩
      by_cases e : j = i
      · subst e; rw [hg]; simpa using hh
      · exact hz j (by omega)
  · refine RunH.adv tb_ok [false] rfl rfl (by simp <;> omega) ?_
    refine RunH.ret1 Tryz.func125 rfl rfl fun w' hst => ⟨?_, hst.fact.1⟩
    have : twiceL l = false := by
      unfold twiceL
      rw [List.any_eq_false]
      intro j hj
      rw [List.mem_range] at hj
      rw [hz j (by omega)]; simp
    rw [this]; rfl

/-- What is wrong with a namespace and a path. -/
def undE (t y : List Entry) (p : Str) : Int := if checkE t y = 0 then pathsE [p] else checkE t y

end Go.Proofs.YtagnkcdhenilbaaGreatDoor

namespace Go.Proofs.YtagnkcdhenilbaaGreatDoor
open Go V
theorem Under_ok (s : Spc) (p : Str) (h : undE s.t.l s.y.l p = 0) (h1 : s.t.l.length ≤ 1000000) (h2 : s.y.l.length ≤ 1000000) (hp : p.length ≤ 1000000) :
    Does Tryz.prog tb 33 [s.ev.v, strV p] [] (fun u => MaxLen u ∧ s.ok u) (fun y : (Option Addr × Nat) × (Option Addr × Nat) => .tuple #[.agg #[.slice y.1.1 (underL p s.t.l).length y.1.2, .slice y.2.1 (underL p s.y.l).length y.2.2], intV 0])
      (fun y => [(0, rowE kEntry y.1.1 y.1.2 (underL p s.t.l)), (1, rowE kEntry y.2.1 y.2.2 (underL p s.y.l))]) (fun _ _ _ => True) := by
  have hl : lim = 140737488351232 := rfl
  have hc : checkE s.t.l s.y.l = 0 := by
    unfold undE at h
    split at h
    · assumption
    · exact h
  have hq : pathsE [p] = 0 := by simpa [undE, hc] using h
  refine Does.enter tb_ok [(0, s.ev), (1, strE p)] Tryz.func33 rfl Tryz.ntmps33 rfl rfl 0 ?_
  intro B0 m0 K
  refine RunH.adv tb_ok [] rfl rfl (by simp <;> omega) ?_
  refine RunH.gives (intE (checkE s.t.l s.y.l)) rfl rfl rfl rfl rfl Tryz.call19 (fun w' hst => space_Check w' hst.fact.2.1 s hst.fact.2.2) ?_
  intro m1 hm1
  refine RunH.adv tb_ok [false] rfl rfl (by simp [hc] <;> omega) ?_
  refine RunH.gives (intE (pathsE [p])) rfl rfl rfl rfl rfl Tryz.call85 (fun w' hst => space_paths w' hst.fact.2.1 _ _ [p] (Sl.own (B := B0) (hst.row (κ := kStr) (l := [p]) (id := 2) rfl) (by simp [hl]))) ?_
  intro m2 hm2
  refine RunH.adv tb_ok [false] rfl rfl (by simp [hq] <;> omega) ?_
  refine RunH.heap [(1, some (.box (m0 + 1) [.val (.slice none 0 0), .val (.slice none 0 0)] 24)), (0, some (.box m0 [s.t.av, s.y.av] 24))] rfl ?_
  refine RunH.draw rfl [(0, some (.box m0 [s.t.av, s.y.av] 24))] rfl 11 rfl rfl ?_
  refine RunD.adv tb_ok (by kernel_rfl) [] rfl rfl (by simp <;> omega) ?_
  refine RunD.does (i := 3) [] (fun y : Option Addr × Nat => rowS 2 y.1 (underL p s.t.l).length y.2) (fun y => [(2, rowE kEntry y.1 y.2 (underL p s.t.l)), (1, some (.box (m0 + 1) [.val (.slice none 0 0), .val (.slice none 0 0)] 24)), (0, some (.box m0 [s.t.av, s.y.av] 24))]) [(2, 0), (1, 3), (0, 1)] 3 rfl (by kernel_rfl) rfl rfl rfl rfl Tryz.call100 (under_spec _ _ s.t.l p h1 hp) rfl rfl (fun u hu => hu.fact.2.2.t) (fun _ => rfl) (fun _ => rfl) (fun _ => rfl) (fun _ => rfl) (fun _ h => h) ?_
  rintro ⟨A1, c1⟩ m3 hm3
  refine RunD.adv tb_ok (by kernel_rfl) [] rfl rfl (by simp <;> omega) ?_
  refine RunD.does (i := 7) [] (fun y : Option Addr × Nat => rowS 3 y.1 (underL p s.y.l).length y.2) (fun y => [(3, rowE kEntry y.1 y.2 (underL p s.y.l)), (2, rowE kEntry A1 c1 (underL p s.t.l)), (1, some (.box (m0 + 1) [.val (.slice none 0 0), .val (.slice none 0 0)] 24)), (0, some (.box m0 [s.t.av, s.y.av] 24))]) [(3, 0), (2, 5), (1, 3), (0, 1)] 4 rfl (by kernel_rfl) rfl rfl rfl rfl Tryz.call100 (under_spec _ _ s.y.l p h2 hp) rfl rfl (fun u hu => hu.fact.1.2.2.y) (fun _ => rfl) (fun _ => rfl) (fun _ => rfl) (fun _ => rfl) (fun _ h => h.1) ?_
  rintro ⟨A2, c2⟩ m4 hm4
  refine RunD.adv tb_ok (by kernel_rfl) [] rfl rfl (by simp <;> omega) ?_
  refine RunD.step tb_ok (i := 9) rfl (by kernel_rfl) rfl rfl rfl trivial rfl (fun _ h => h.1.1) rfl ?_
  refine RunD.adv tb_ok (by kernel_rfl) [] rfl rfl (by simp <;> omega) ?_
  refine RunD.done (.inl rfl) (by kernel_rfl) ?_
  refine RunH.adv tb_ok [] rfl rfl (by simp <;> omega) ?_
  exact RunH.retBoxT tb_ok (.st [.row 2 (.slice A1 (underL p s.t.l).length c1), .row 3 (.slice A2 (underL p s.y.l).length c2)]) Tryz.func33 rfl rfl rfl rfl rfl fun w hst => ⟨((A1, c1), (A2, c2)), rfl, hst.out [(0, 2), (1, 3)] rfl rfl fun u h => ⟨h.1.1.1, trivial⟩⟩
end Go.Proofs.YtagnkcdhenilbaaGreatDoor
