/-
A part of the proofs of the laws of a seat: contracts of functions and lemmas on them; the listed package variables hold what the program's text lays. No further condition.
-/
import Derived.Test.YtagnkcdhenilbaaGreatDoorKPW7
import Derived.Test.YtagnkcdhenilbaaGreatDoorKPS20
import Derived.Test.YtagnkcdhenilbaaGreatDoorKPS22
set_option linter.unusedVariables false
set_option linter.unusedSectionVars false
set_option linter.unusedSimpArgs false
namespace Go.Proofs.YtagnkcdhenilbaaGreatDoor
open Go V

/-- A change. -/
structure Chg where
  kind : Int
  path : Str
  had : Bool
  has : Bool
  old : Sum
  new : Sum
deriving DecidableEq

def chgF (c : Chg) : List AV := [.val (intV c.kind), .val (strV c.path), .val (.bool c.had), .val (.bool c.has), .val (sumV c.old), .val (sumV c.new)]

theorem chg_cells (c : Chg) : (EV.st (chgF c)).v = .agg (intV c.kind :: strV c.path :: .bool c.had :: .bool c.has :: (c.old.l.map u8V ++ c.new.l.map u8V)).toArray := by
  simp [EV.v, chgF, AV.v, flat, Value.cells, sumV]

theorem chg_one (c : Chg) : ∀ u ∈ (intV c.kind :: strV c.path :: .bool c.had :: .bool c.has :: (c.old.l.map u8V ++ c.new.l.map u8V)), u.oneCell' = true := by
  intro u hu
  simp only [List.mem_cons, List.mem_append, List.mem_map] at hu
  rcases hu with rfl | rfl | rfl | rfl | ⟨b, _, rfl⟩ | ⟨b, _, rfl⟩ <;> rfl

theorem vok_Chg (c : Chg) : VOk tb 97 (EV.st (chgF c)).v := by
  rw [chg_cells]
  exact ⟨_, Tryz.t97, rfl, rfl, by simp [c.old.h, c.new.h]; rfl, chg_one c⟩

def kChg : Kd Chg where
  T := 97
  sz := 68
  ev c := .st (chgF c)
  ok c := vok_Chg c
  size c := by rw [chg_cells]; simp [Value.cells, c.old.h, c.new.h]

theorem elt_Chg : ElT tb kChg.T 68 96 := ⟨⟨Tryz.t97, (Tryz.t97).zero.getD undef, by kernel_rfl, by kernel_rfl, by kernel_rfl, by kernel_rfl, by kernel_rfl⟩, by decide⟩

theorem vok_RChg (c : Chg) : VOk tb 101 (EV.st (chgF c)).v := by
  rw [chg_cells]
  exact ⟨_, Tryz.t101, rfl, rfl, by simp [c.old.h, c.new.h]; rfl, chg_one c⟩

def kRChg : Kd Chg where
  T := 101
  sz := 68
  ev c := .st (chgF c)
  ok c := vok_RChg c
  size c := by rw [chg_cells]; simp [Value.cells, c.old.h, c.new.h]

theorem elt_RChg : ElT tb kRChg.T 68 96 := ⟨⟨Tryz.t101, (Tryz.t101).zero.getD undef, by kernel_rfl, by kernel_rfl, by kernel_rfl, by kernel_rfl, by kernel_rfl⟩, by decide⟩

def gF (nm : String) (t : TypeId) (o b : Nat) : Field := { name := nm, type := t, offset := o, embedded := false, tag := "", pkgPath := "", byteOffset := b }
theorem fields_chg : (Tryz.prog.fieldsOf 97).toList = [gF "Kind" 3 0 0, gF "Path" 9 1 8, gF "Had" 4 2 24, gF "Has" 4 3 25, gF "Old" 39 4 26, gF "New" 39 36 58] := by kernel_rfl
theorem stood_chg : Tryz.prog.stoodInHeld 97 = false := by kernel_rfl
theorem undf_chg : Tryz.prog.underlying 97 = some (.struct (Tryz.prog.fieldsOf 97)) := by kernel_rfl

theorem eqF_nil {P : Program} (w : World) (d : Nat) (xs ys : Array Value) : (Op.eqFields d xs ys []).run P w = .ok true w := by simp [Op.eqFields]

theorem eqF_cons {P : Program} (w : World) (d : Nat) (f : Field) (fs : List Field) (h : f.name ≠ "_") (xs ys : Array Value) {a b : Value} {p q : Bool}
    (pa : (part f.type xs f.offset).run P w = .ok a w) (pb : (part f.type ys f.offset).run P w = .ok b w) (pe : (Op.equalIn d f.type a b).run P w = .ok p w)
    (ih : (Op.eqFields d xs ys fs).run P w = .ok q w) : (Op.eqFields d xs ys (f :: fs)).run P w = .ok (p && q) w := by
  simp only [Op.eqFields, Sem.run_ite]
  rw [if_pos h]
  simp only [Sem.run_bind, pa, pb, pe, Result.andThen_ok]
  cases p
  · simp
  · simp only [Bool.not_true, Bool.false_eq_true, if_false, Bool.true_and, Sem.run_ite]
    exact ih

theorem eq_intV (w : World) (d : Nat) (a b : Int) : (Op.equalIn (d + 1) 3 (intV a) (intV b)).run Tryz.prog w = .ok (decide (a = b)) w := by
  rw [run_equalIn_int w d _ .i64 .i64 _ _ (tb_ok.und rfl)]
  congr 1

theorem eq_boolV (w : World) (d : Nat) (a b : Bool) : (Op.equalIn (d + 1) 4 (.bool a) (.bool b)).run Tryz.prog w = .ok (decide (a = b)) w := by
  have hu : Tryz.prog.underlying 4 = some .bool := tb_ok.und rfl
  rw [Op.equalIn]
  simp only [Sem.run_bind, run_underlying hu, Result.andThen_ok]
  cases a <;> cases b <;> rfl

set_option maxRecDepth 20000 in
theorem eq_chg (w : World) (d : Nat) (a b : Chg) : (Op.equalIn (d + 3) 97 (EV.st (chgF a)).v (EV.st (chgF b)).v).run Tryz.prog w = .ok (decide (a = b)) w := by
  rw [chg_cells, chg_cells, run_equalIn_struct w (d + 2) _ _ _ undf_chg stood_chg, fields_chg]
  have hs : ∀ (x : Chg), (part 39 (intV x.kind :: strV x.path :: .bool x.had :: .bool x.has :: (x.old.l.map u8V ++ x.new.l.map u8V)).toArray 4).run Tryz.prog w = .ok (sumV x.old) w := fun x => by
    rw [part_row w (tb_ok.und und_sum) rfl (run_tsize tb_ok (i := Tryz.t39) rfl)]
    have hlen : (x.old.l.map u8V).length = 32 := by simp [x.old.h]
    have : ((intV x.kind :: strV x.path :: .bool x.had :: .bool x.has :: (x.old.l.map u8V ++ x.new.l.map u8V)).take (4 + Tryz.t39.size)).drop 4 = x.old.l.map u8V := by
      show ((intV x.kind :: strV x.path :: .bool x.had :: .bool x.has :: (x.old.l.map u8V ++ x.new.l.map u8V)).take (32 + 4)).drop 4 = _
      simp only [List.take_succ_cons, List.drop_succ_cons, List.drop_zero]
      rw [← hlen, List.take_left]
    rw [this]
    rfl
  have hn : ∀ (x : Chg), (part 39 (intV x.kind :: strV x.path :: .bool x.had :: .bool x.has :: (x.old.l.map u8V ++ x.new.l.map u8V)).toArray 36).run Tryz.prog w = .ok (sumV x.new) w := fun x => by
    rw [part_row w (tb_ok.und und_sum) rfl (run_tsize tb_ok (i := Tryz.t39) rfl)]
    have hlen : (x.old.l.map u8V).length = 32 := by simp [x.old.h]
    have hlen2 : (x.new.l.map u8V).length = 32 := by simp [x.new.h]
    have : ((intV x.kind :: strV x.path :: .bool x.had :: .bool x.has :: (x.old.l.map u8V ++ x.new.l.map u8V)).take (36 + Tryz.t39.size)).drop 36 = x.new.l.map u8V := by
      show ((intV x.kind :: strV x.path :: .bool x.had :: .bool x.has :: (x.old.l.map u8V ++ x.new.l.map u8V)).take (64 + 4)).drop (32 + 4) = _
      simp only [List.take_succ_cons, List.drop_succ_cons]
      rw [List.take_of_length_le (by rw [List.length_append, hlen, hlen2]; decide), ← hlen, List.drop_left]
    rw [this]
    rfl
  have e6 := eqF_cons w (d + 2) (gF "New" 39 36 58) [] (by decide) _ _ (hn a) (hn b) (eq_sum w d a.new b.new) (eqF_nil w _ _ _)
  have e5 := eqF_cons w (d + 2) (gF "Old" 39 4 26) _ (by decide) _ _ (hs a) (hs b) (eq_sum w d a.old b.old) e6
  have h3 : ∀ x : Chg, (part 4 (intV x.kind :: strV x.path :: .bool x.had :: .bool x.has :: (x.old.l.map u8V ++ x.new.l.map u8V)).toArray 3).run Tryz.prog w = .ok (.bool x.has) w := fun x => part_one w (tb_ok.und (d := .bool) rfl) rfl _ 3 (.bool x.has) rfl
  have h2 : ∀ x : Chg, (part 4 (intV x.kind :: strV x.path :: .bool x.had :: .bool x.has :: (x.old.l.map u8V ++ x.new.l.map u8V)).toArray 2).run Tryz.prog w = .ok (.bool x.had) w := fun x => part_one w (tb_ok.und (d := .bool) rfl) rfl _ 2 (.bool x.had) rfl
  have h1 : ∀ x : Chg, (part 9 (intV x.kind :: strV x.path :: .bool x.had :: .bool x.has :: (x.old.l.map u8V ++ x.new.l.map u8V)).toArray 1).run Tryz.prog w = .ok (strV x.path) w := fun x => part_one w (tb_ok.und (d := .string) rfl) rfl _ 1 (strV x.path) rfl
  have h0 : ∀ x : Chg, (part 3 (intV x.kind :: strV x.path :: .bool x.had :: .bool x.has :: (x.old.l.map u8V ++ x.new.l.map u8V)).toArray 0).run Tryz.prog w = .ok (intV x.kind) w := fun x => part_one w (tb_ok.und (d := .int .i64) rfl) rfl _ 0 (intV x.kind) rfl
  have e4 := eqF_cons w (d + 2) (gF "Has" 4 3 25) _ (by decide) _ _ (h3 a) (h3 b) (eq_boolV w (d + 1) a.has b.has) e5
  have e3 := eqF_cons w (d + 2) (gF "Had" 4 2 24) _ (by decide) _ _ (h2 a) (h2 b) (eq_boolV w (d + 1) a.had b.had) e4
  have e2 := eqF_cons w (d + 2) (gF "Path" 9 1 8) _ (by decide) _ _ (h1 a) (h1 b) (eq_str w (d + 1) a.path b.path) e3
  have e1 := eqF_cons w (d + 2) (gF "Kind" 3 0 0) _ (by decide) _ _ (h0 a) (h0 b) (eq_intV w (d + 1) a.kind b.kind) e2
  rw [e1]
  congr 1
  rw [Bool.eq_iff_iff]
  simp only [Bool.and_eq_true, decide_eq_true_iff, Bool.and_true]
  constructor
  · rintro ⟨h1, h2, h3, h4, h5, h6⟩; cases a; cases b; simp_all
  · rintro rfl; exact ⟨rfl, rfl, rfl, rfl, rfl, rfl⟩

theorem equalG_spec (w : World) (A B : Option Addr) (ca cb : Nat) (la lb : List Chg) (ha : Sl kChg w A ca la) (hb : Sl kChg w B cb lb) :
    Gives Tryz.prog 78 [.slice A la.length ca, .slice B lb.length cb] w (boolE (decide (la = lb))) := by
  have sa := ha.small
  have hl : lim = 140737488351232 := rfl
  refine enterH tb_ok [(0, slE A la.length ca), (1, slE B lb.length cb)] Tryz.func78 rfl Tryz.ntmps78 rfl rfl ?_
  by_cases hlen : la.length = lb.length
  · refine RunH.adv tb_ok [false] rfl rfl (by simp [hlen] <;> omega) ?_
    refine RunH.loop (α := Nat) (fun i => [(0, slE A la.length ca), (1, slE B lb.length cb), (13, intE i), (12, intE la.length)]) (fun _ => []) (fun i w' => Ext w w' ∧ i ≤ la.length ∧ la.take i = lb.take i) (fun i => la.length - i) 0
      rfl rfl (fun w' h => ⟨h, Nat.zero_le _, rfl⟩) ?_
    intro i m
    refine RunH.pure (fun w' h => h.2) fun ⟨hi, hpre⟩ => ?_
    by_cases hlt : i < la.length
    · have hltb : i < lb.length := by omega
      refine RunH.adv tb_ok [true] rfl rfl (by simp <;> omega) ?_
      refine RunH.draw rfl [] rfl 9 rfl rfl ?_
      refine RunD.adv tb_ok (by kernel_rfl) [] rfl rfl (by simp [ha.ptr hlt, hb.ptr hltb] <;> omega) ?_
      refine RunD.load (by kernel_rfl) (i := 3) (.st (chgF la[i])) rfl rfl rfl rfl rfl rfl (fun w' h => (ha.ext h.1).load hlt) ?_
      refine RunD.load (by kernel_rfl) (i := 7) (.st (chgF lb[i])) rfl rfl rfl rfl rfl rfl (fun w' h => (hb.ext h.1).load hltb) ?_
      refine RunD.read (by kernel_rfl) (i := 8) (boolE (!decide (la[i] = lb[i]))) rfl rfl rfl rfl rfl rfl (fun w' a h hag => op_neq hag rfl rfl rfl rfl rfl (by kernel_rfl) (eq_chg w' 9997 _ _)) ?_
      refine RunD.done (.inl rfl) (by kernel_rfl) ?_
      by_cases he : la[i] = lb[i]
      · refine RunH.adv tb_ok [false] rfl rfl (by simp [he] <;> omega) ?_
        refine RunH.again (i + 1) (.head _) rfl rfl (by omega) fun w' h => ⟨h.1, by omega, ?_⟩
        rw [List.take_succ_eq_append_getElem hlt, List.take_succ_eq_append_getElem hltb, hpre, he]
      · refine RunH.adv tb_ok [true] rfl rfl (by simp [he] <;> omega) ?_
        refine RunH.ret1 Tryz.func78 rfl rfl fun w' hst => ⟨?_, hst.fact.1⟩
        have : la ≠ lb := fun e => he (by subst e; rfl)
        simp [this, EV.v, AV.v]
    · refine RunH.adv tb_ok [false] rfl rfl (by simp <;> omega) ?_
      refine RunH.ret1 Tryz.func78 rfl rfl fun w' hst => ⟨?_, hst.fact.1⟩
      have : la = lb := by
        rw [← List.take_of_length_le (l := la) (i := i) (by omega), hpre, List.take_of_length_le (by omega)]
      simp [this, EV.v, AV.v]
  · refine RunH.adv tb_ok [true] rfl rfl (by simp [hlen] <;> omega) ?_
    refine RunH.ret1 Tryz.func78 rfl rfl fun w' hst => ⟨?_, hst.fact⟩
    have : la ≠ lb := fun e => hlen (by rw [e])
    simp [this, EV.v, AV.v]

theorem idxFuncG (w : World) (A : Option Addr) (c : Nat) (l : List Chg) (h : Sl kChg w A c l) (g : FuncId) (f1 c1 : List Value) (p : Chg → Bool) (hf : Fun1 kChg w g f1 c1 l p) :
    Gives Tryz.prog 144 [.slice A l.length c, .func (.func g) f1.toArray c1.toArray] w (intE (idxOf p l 0)) := by
  have hl : lim = 140737488351232 := rfl
  have hsm := h.small
  refine enterH tb_ok [(0, slE A l.length c), (1, .av (.val (.func (.func g) f1.toArray c1.toArray)))] Tryz.func144 rfl Tryz.ntmps144 rfl rfl ?_
  refine RunH.adv tb_ok [] rfl rfl (by simp <;> omega) ?_
  refine RunH.loop (α := Nat) (fun i => [(0, slE A l.length c), (1, .av (.val (.func (.func g) f1.toArray c1.toArray))), (7, intE l.length), (8, intE i)]) (fun _ => []) (fun i w' => Ext w w' ∧ i ≤ l.length ∧ (l.take i).any p = false) (fun i => l.length - i) 0
    rfl rfl (fun w' h => ⟨h, Nat.zero_le _, rfl⟩) ?_
  intro i m
  refine RunH.pure (fun w' h => h.2) fun ⟨hi, hpre⟩ => ?_
  by_cases hlt : i < l.length
  · have hts : l.take (i + 1) = l.take i ++ [l[i]] := List.take_succ_eq_append_getElem hlt
    refine RunH.adv tb_ok [true] rfl rfl (by simp [h.ptr hlt] <;> omega) ?_
    refine RunH.load (.st (chgF l[i])) rfl rfl rfl rfl (fun w' h' => (h.ext h'.1).load hlt) ?_
    refine RunH.gives (g := g) (f1 := f1) (c1 := c1) (boolE (p l[i])) rfl rfl rfl rfl rfl hf.enter (fun w' hst => hf.says _ (List.getElem_mem hlt) w' hst.fact.1) ?_
    intro m' hm'
    by_cases hp : p l[i] = true
    · refine RunH.adv tb_ok [true] rfl rfl (by simp [hp] <;> omega) ?_
      refine RunH.ret1 Tryz.func144 rfl rfl fun w' hst => ⟨?_, hst.fact.1⟩
      rw [idxOf_at p l 0 i hlt hpre hp, Nat.zero_add]
    · refine RunH.adv tb_ok [false] rfl rfl (by simp [hp] <;> omega) ?_
      refine RunH.again (i + 1) (.head _) rfl rfl (by omega) fun w' h => ⟨h.1, by omega, ?_⟩
      rw [hts, List.any_append, hpre]; simp [hp]
  · rw [List.take_of_length_le (by omega)] at hpre
    refine RunH.adv tb_ok [false] rfl rfl (by simp <;> omega) ?_
    refine RunH.ret1 Tryz.func144 rfl rfl fun w' hst => ⟨?_, hst.fact.1⟩
    rw [idxOf_none p l 0 hpre]

theorem containsFuncG (w : World) (A : Option Addr) (c : Nat) (l : List Chg) (h : Sl kChg w A c l) (g : FuncId) (f1 c1 : List Value) (p : Chg → Bool) (hf : Fun1 kChg w g f1 c1 l p) :
    Gives Tryz.prog 72 [.slice A l.length c, .func (.func g) f1.toArray c1.toArray] w (boolE (l.any p)) := by
  refine enterH tb_ok [(0, slE A l.length c), (1, .av (.val (.func (.func g) f1.toArray c1.toArray)))] Tryz.func72 rfl Tryz.ntmps72 rfl rfl ?_
  refine RunH.adv tb_ok [] rfl rfl (by simp <;> omega) ?_
  refine RunH.gives (intE (idxOf p l 0)) rfl rfl rfl rfl rfl Tryz.call144 (fun w' hst => idxFuncG w' A c l (h.ext hst.fact) g f1 c1 p (hf.ext hst.fact)) ?_
  intro m' hm'
  refine RunH.adv tb_ok [] rfl rfl (by simp <;> omega) ?_
  refine RunH.ret1 Tryz.func72 rfl rfl fun w' hst => ⟨?_, hst.fact⟩
  have : decide (0 ≤ idxOf p l 0) = l.any p := by rw [Bool.eq_iff_iff]; simp only [decide_eq_true_eq]; exact idxOf_ge p l 0
  simp [this, EV.v, AV.v]


theorem cloneG (A : Option Addr) (c : Nat) (l : List Chg) (hb : l.length * 96 ≤ 140737488355328) : Does Tryz.prog tb 74 [.slice A l.length c] [] (fun u => Sl kChg u A c l) (fun y : Option Addr × Nat => .slice y.1 l.length y.2) (fun y => [(0, rowE kChg y.1 y.2 l)]) (fun _ _ _ => True) := by
  refine Does.enter tb_ok [(0, slE A l.length c)] Tryz.func74 rfl Tryz.ntmps74 rfl rfl 0 ?_
  intro B0 m K
  refine RunH.pure (fun u h => And.intro h.2.nil h.2.small) fun ⟨hnil, hsm⟩ => ?_
  cases hA : A.isNone with
  | true =>
    have hn : A = none := Option.isNone_iff_eq_none.1 hA
    obtain ⟨rfl, rfl⟩ := hnil hn
    subst hn
    refine RunH.adv tb_ok [true] rfl rfl (by simp <;> omega) ?_
    refine RunH.ret1 Tryz.func74 rfl rfl fun w hst => ⟨(none, 0), rfl, (hst.nilrow 0 kChg).out [] rfl rfl fun u h => ⟨h.1, trivial⟩⟩
  | false =>
    refine RunH.adv tb_ok [false] rfl rfl ⟨hA, trivial⟩ ?_
    refine RunH.appendK (κ := kChg) (id := 0) (l := []) (r := l) rfl rfl rfl rfl rfl rfl elt_Chg rfl rfl (fun w hst => hst.fact.2.lies) (by simp; omega) (by simp; omega) ?_
    intro A' c' m' hm'
    refine RunH.adv tb_ok [] rfl rfl (by simp <;> omega) ?_
    refine RunH.ret1 Tryz.func74 rfl rfl fun w hst => ⟨(A', c'), rfl, hst.out [] rfl rfl fun u h => ⟨h.1, trivial⟩⟩

theorem change_spec (w : World) (c : Chg) : Gives Tryz.prog 75 [(EV.st (chgF c)).v] w (.st (chgF c)) := by
  refine enterH tb_ok [(0, .st (chgF c))] Tryz.func75 rfl Tryz.ntmps75 rfl rfl ?_
  refine RunH.adv tb_ok [] rfl rfl (by simp <;> omega) ?_
  exact RunH.retBox tb_ok (.st (chgF c)) Tryz.func75 rfl rfl rfl rfl fun w hst => ⟨rfl, hst.fact⟩
end Go.Proofs.YtagnkcdhenilbaaGreatDoor

namespace Go.Proofs.YtagnkcdhenilbaaGreatDoor
open Go V

/-- What is wrong with a change's form. -/
def badC (c : Chg) : Bool := !pathOk c.path || (!c.had && !c.has) || (!c.had && !decide (c.old = Sum.zero)) || (!c.has && !decide (c.new = Sum.zero))
/-- A list has not what the change says. -/
def clashC (l : List Entry) (c : Chg) : Bool := !decide (isAt l c.path = c.had) || (isAt l c.path && !decide ((l.getD (posOf l c.path) zeroE).sum = c.old))
def wrongE (t y : List Entry) (c : Chg) : Int := if c.kind = 1 ∨ c.kind = 2 then (if badC c = true then 4 else if clashC (kList c.kind t y) c = true then 7 else 0) else 3

set_option maxRecDepth 10000 in
set_option maxHeartbeats 1000000 in
theorem wrong_spec (w : World) (hM : MaxLen w) (b : Nat) (A B : Option Addr) (c d : Nat) (t y : List Entry) (hW : Wk w b A c B d t y) (hr1 : rises t = true) (hr2 : rises y = true) (g : Chg) :
    Gives Tryz.prog 145 [.pointer (some ⟨b, 0, none⟩), (EV.st (chgF g)).v] w (intE (wrongE t y g)) := by
  have hl : lim = 140737488351232 := rfl
  obtain ⟨kind, path, had, has, old, new⟩ := g
  refine enterH tb_ok [(0, .av (.val (.pointer (some ⟨b, 0, none⟩)))), (1, .st (chgF ⟨kind, path, had, has, old, new⟩))] Tryz.func145 rfl Tryz.ntmps145 rfl rfl ?_
  by_cases hk : kind = 1 ∨ kind = 2
  · have hrk : rises (kList kind t y) = true := by unfold kList; split <;> assumption
    have hpe : pathsE [path] = if pathOk path = true then 0 else 4 := by simp [pathsE]
    have hlk := fun u (hu : Ext w u) => (hW.ext hu).sl kind
    have hld := fun u (hu : Ext w u) => (hW.ext hu).load kind
    have hend : ∀ (e : Int), badC ⟨kind, path, had, has, old, new⟩ = false → (if clashC (kList kind t y) ⟨kind, path, had, has, old, new⟩ = true then 7 else 0) = e → wrongE t y ⟨kind, path, had, has, old, new⟩ = e := fun e h1 h2 => by
      unfold wrongE; rw [if_pos hk, if_neg (by rw [h1]; simp)]; exact h2
    have hkk : kind = 1 ∨ ¬ kind = 1 ∧ kind = 2 := by omega
    apply RunH.joinK (α := Unit) (fun _ => [(3, .av (.box 0 w.heap.size 0)), (55, .av (.val (.pointer (some ⟨b, 0, none⟩)))), (57, intE kind)]) (fun _ => [(0, some (.box w.heap.size (chgF ⟨kind, path, had, has, old, new⟩) 97))]) (fun _ u => Ext w u ∧ badC ⟨kind, path, had, has, old, new⟩ = false)
    · rcases hkk with rfl | ⟨hk1, rfl⟩
      · refine RunH.adv tb_ok [false] rfl rfl (by simp <;> omega) ?_
        refine RunH.gives (ho := rfl) (hw := rfl) (hd := rfl) (hf := rfl) (hes := rfl) (hc := Tryz.call85) (e := intE (pathsE [path])) (hC := fun u hu => space_paths u (hM.ext hu.fact) _ _ [path] (Sl.own (B := w.heap.size) (hu.row (κ := kStr) (l := [path]) (id := 1) rfl) (by simp [hl]))) ?_
        intro m1 hm1
        rw [hpe]
        by_cases hok : pathOk path = true
        · rw [if_pos hok]
          cases had
          · cases has
            · have hw : wrongE t y ⟨1, path, false, false, old, new⟩ = 4 := by simp [wrongE, badC]
              refine RunH.adv tb_ok [false, true, true] rfl rfl (by simp <;> omega) ?_ 
              refine RunH.ret1 Tryz.func145 rfl rfl fun u hu => ⟨by rw [hw], hu.fact⟩
            · refine RunH.adv tb_ok [false, true, false, true] rfl rfl (by simp <;> omega) ?_ 
              refine RunH.read (sumE Sum.zero) rfl rfl rfl rfl (fun w' a _ ha => ?_) ?_
              · simp only [execOp, List.map_toArray, List.map_nil, build_zero, Sem.run_bind, Result.andThen_ok, Sem.run_pure]
                rfl
              refine RunH.read (boolE (!decide (old = Sum.zero))) rfl rfl rfl rfl (fun u q h hag => op_neq hag rfl rfl rfl rfl rfl (by kernel_rfl) (eq_sum u 9998 _ _)) ?_
              by_cases hz : old = Sum.zero
              · have hb : badC ⟨1, path, false, true, old, new⟩ = false := by simp [badC, hok, hz]
                refine RunH.adv tb_ok [false, false] rfl rfl (by simp [hz] <;> omega) ?_
                refine RunH.meetS () [] (.head _) rfl rfl rfl fun u h => ⟨h, hb⟩
              · have hw : wrongE t y ⟨1, path, false, true, old, new⟩ = 4 := by simp [wrongE, badC, hz]
                refine RunH.adv tb_ok [true] rfl rfl (by simp [hz] <;> omega) ?_
                refine RunH.ret1 Tryz.func145 rfl rfl fun u hu => ⟨by rw [hw], hu.fact⟩
          · cases has
            · refine RunH.adv tb_ok [false, false, false, true] rfl rfl (by simp <;> omega) ?_ 
              refine RunH.read (sumE Sum.zero) rfl rfl rfl rfl (fun w' a _ ha => ?_) ?_
              · simp only [execOp, List.map_toArray, List.map_nil, build_zero, Sem.run_bind, Result.andThen_ok, Sem.run_pure]
                rfl
              refine RunH.read (boolE (!decide (new = Sum.zero))) rfl rfl rfl rfl (fun u q h hag => op_neq hag rfl rfl rfl rfl rfl (by kernel_rfl) (eq_sum u 9998 _ _)) ?_
              by_cases hz : new = Sum.zero
              · have hb : badC ⟨1, path, true, false, old, new⟩ = false := by simp [badC, hok, hz]
                refine RunH.adv tb_ok [false] rfl rfl (by simp [hz] <;> omega) ?_
                refine RunH.meetS () [] (.head _) rfl rfl rfl fun u h => ⟨h, hb⟩
              · have hw : wrongE t y ⟨1, path, true, false, old, new⟩ = 4 := by simp [wrongE, badC, hz]
                refine RunH.adv tb_ok [true] rfl rfl (by simp [hz] <;> omega) ?_
                refine RunH.ret1 Tryz.func145 rfl rfl fun u hu => ⟨by rw [hw], hu.fact⟩
            · have hb : badC ⟨1, path, true, true, old, new⟩ = false := by simp [badC, hok]
              refine RunH.adv tb_ok [false, false, false, false] rfl rfl (by simp <;> omega) ?_ 
              refine RunH.meetS () [] (.head _) rfl rfl rfl fun u h => ⟨h, hb⟩
        · rw [if_neg hok]
          have hw : wrongE t y ⟨1, path, had, has, old, new⟩ = 4 := by simp [wrongE, badC, hok]
          refine RunH.adv tb_ok [true] rfl rfl (by simp <;> omega) ?_
          refine RunH.ret1 Tryz.func145 rfl rfl fun u hu => ⟨by rw [hw], hu.fact⟩
      · refine RunH.adv tb_ok [true, false] rfl rfl (by simp <;> omega) ?_
        refine RunH.gives (ho := rfl) (hw := rfl) (hd := rfl) (hf := rfl) (hes := rfl) (hc := Tryz.call85) (e := intE (pathsE [path])) (hC := fun u hu => space_paths u (hM.ext hu.fact) _ _ [path] (Sl.own (B := w.heap.size) (hu.row (κ := kStr) (l := [path]) (id := 1) rfl) (by simp [hl]))) ?_
        intro m1 hm1
        rw [hpe]
        by_cases hok : pathOk path = true
        · rw [if_pos hok]
          cases had
          · cases has
            · have hw : wrongE t y ⟨2, path, false, false, old, new⟩ = 4 := by simp [wrongE, badC]
              refine RunH.adv tb_ok [false, true, true] rfl rfl (by simp <;> omega) ?_ 
              refine RunH.ret1 Tryz.func145 rfl rfl fun u hu => ⟨by rw [hw], hu.fact⟩
            · refine RunH.adv tb_ok [false, true, false, true] rfl rfl (by simp <;> omega) ?_ 
              refine RunH.read (sumE Sum.zero) rfl rfl rfl rfl (fun w' a _ ha => ?_) ?_
              · simp only [execOp, List.map_toArray, List.map_nil, build_zero, Sem.run_bind, Result.andThen_ok, Sem.run_pure]
                rfl
              refine RunH.read (boolE (!decide (old = Sum.zero))) rfl rfl rfl rfl (fun u q h hag => op_neq hag rfl rfl rfl rfl rfl (by kernel_rfl) (eq_sum u 9998 _ _)) ?_
              by_cases hz : old = Sum.zero
              · have hb : badC ⟨2, path, false, true, old, new⟩ = false := by simp [badC, hok, hz]
                refine RunH.adv tb_ok [false, false] rfl rfl (by simp [hz] <;> omega) ?_
                refine RunH.meetS () [] (.head _) rfl rfl rfl fun u h => ⟨h, hb⟩
              · have hw : wrongE t y ⟨2, path, false, true, old, new⟩ = 4 := by simp [wrongE, badC, hz]
                refine RunH.adv tb_ok [true] rfl rfl (by simp [hz] <;> omega) ?_
                refine RunH.ret1 Tryz.func145 rfl rfl fun u hu => ⟨by rw [hw], hu.fact⟩
          · cases has
            · refine RunH.adv tb_ok [false, false, false, true] rfl rfl (by simp <;> omega) ?_ 
              refine RunH.read (sumE Sum.zero) rfl rfl rfl rfl (fun w' a _ ha => ?_) ?_
              · simp only [execOp, List.map_toArray, List.map_nil, build_zero, Sem.run_bind, Result.andThen_ok, Sem.run_pure]
                rfl
              refine RunH.read (boolE (!decide (new = Sum.zero))) rfl rfl rfl rfl (fun u q h hag => op_neq hag rfl rfl rfl rfl rfl (by kernel_rfl) (eq_sum u 9998 _ _)) ?_
              by_cases hz : new = Sum.zero
              · have hb : badC ⟨2, path, true, false, old, new⟩ = false := by simp [badC, hok, hz]
                refine RunH.adv tb_ok [false] rfl rfl (by simp [hz] <;> omega) ?_
                refine RunH.meetS () [] (.head _) rfl rfl rfl fun u h => ⟨h, hb⟩
              · have hw : wrongE t y ⟨2, path, true, false, old, new⟩ = 4 := by simp [wrongE, badC, hz]
                refine RunH.adv tb_ok [true] rfl rfl (by simp [hz] <;> omega) ?_
                refine RunH.ret1 Tryz.func145 rfl rfl fun u hu => ⟨by rw [hw], hu.fact⟩
            · have hb : badC ⟨2, path, true, true, old, new⟩ = false := by simp [badC, hok]
              refine RunH.adv tb_ok [false, false, false, false] rfl rfl (by simp <;> omega) ?_ 
              refine RunH.meetS () [] (.head _) rfl rfl rfl fun u h => ⟨h, hb⟩
        · rw [if_neg hok]
          have hw : wrongE t y ⟨2, path, had, has, old, new⟩ = 4 := by simp [wrongE, badC, hok]
          refine RunH.adv tb_ok [true] rfl rfl (by simp <;> omega) ?_
          refine RunH.ret1 Tryz.func145 rfl rfl fun u hu => ⟨by rw [hw], hu.fact⟩
    · rintro ⟨⟩ m2
      refine RunH.pure (fun u h => h.2) fun hbad => ?_
      refine RunH.toNx 1 ?_
      refine RunH.gives (ho := rfl) (hw := rfl) (hd := rfl) (hf := rfl) (hes := rfl) (hc := Tryz.call94) (e := .av (.val (.pointer (some ⟨b, kOff kind, none⟩)))) (hC := fun u _ => list_spec u b kind) ?_
      intro m3 hm3
      refine RunH.adv tb_ok [] rfl rfl (by simp <;> omega) ?_
      refine RunH.loadS (slE (kA kind A B) (kList kind t y).length (kA kind c d)) rfl rfl rfl rfl (fun u hu => hld u hu.fact.1) ?_
      generalize kList kind t y = L at *
      refine RunH.adv tb_ok [] rfl rfl (by simp <;> omega) ?_
      refine RunH.gives (ho := rfl) (hw := rfl) (hd := rfl) (hf := rfl) (hes := rfl) (hc := Tryz.call149) (e := atV L path) (hC := fun u hu => at_spec u _ _ L (hlk u hu.fact.1) hrk path) ?_
      intro m4 hm4
      refine RunH.adv tb_ok [] rfl rfl (by simp <;> omega) ?_
      refine RunH.draw rfl [(0, some (.box w.heap.size (chgF ⟨kind, path, had, has, old, new⟩) 97))] rfl 19 rfl rfl ?_
      by_cases h1 : isAt L path = had
      · by_cases h2 : isAt L path = true
        · have hpos : posOf L path < L.length := by
            unfold isAt at h2
            simp only [Bool.and_eq_true, decide_eq_true_eq] at h2
            exact h2.1
          have hpa : L[posOf L path].path = path := by
            unfold isAt at h2
            simp only [Bool.and_eq_true, decide_eq_true_eq] at h2
            rw [pathAt_eq L _ hpos] at h2
            exact h2.2
          have hgd : (L.getD (posOf L path) zeroE) = L[posOf L path] := by rw [List.getD_eq_getElem?_getD, List.getElem?_eq_getElem hpos]; rfl
          have hee : (L[posOf L path] = (⟨path, old⟩ : Entry)) ↔ L[posOf L path].sum = old := by
            constructor
            · intro h; rw [h]
            · intro h
              have e : L[posOf L path] = ⟨L[posOf L path].path, L[posOf L path].sum⟩ := rfl
              rw [e, hpa, h]
          subst h1
          refine RunD.adv tb_ok (by kernel_rfl) [false, true] rfl rfl (by simp [h2, (hlk w (Ext.rfl' w)).ptr hpos] <;> omega) ?_
          refine RunD.load (by kernel_rfl) (i := 10) (.st (entryF L[posOf L path])) rfl rfl rfl rfl rfl rfl (fun u hu => (hlk u hu.1).load hpos) ?_
          refine RunD.adv tb_ok (by kernel_rfl) [] rfl rfl (by simp <;> omega) ?_
          refine RunD.read (by kernel_rfl) (i := 16) (boolE (!decide (L[posOf L path] = (⟨path, old⟩ : Entry)))) rfl rfl rfl rfl rfl rfl (fun u q h hag => op_neq (u := .st (entryF L[posOf L path])) (v := .st (entryF ⟨path, old⟩)) hag rfl rfl rfl rfl rfl (by kernel_rfl) (eq_entry u 9997 _ _)) ?_
          refine RunD.adv tb_ok (by kernel_rfl) [] rfl rfl (by simp <;> omega) ?_
          refine RunD.done (.inl rfl) (by kernel_rfl) ?_
          by_cases h3 : L[posOf L path].sum = old
          · have hw := hend 0 hbad (if_neg (by simp only [clashC]; rw [hgd, h3]; simp))
            refine RunH.adv tb_ok [false] rfl rfl (by simp [hee, h3] <;> omega) ?_
            refine RunH.ret1 Tryz.func145 rfl rfl fun u hu => ⟨by rw [hw], hu.fact.1⟩
          · have hw := hend 7 hbad (if_pos (by simp only [clashC]; rw [hgd]; simp [h2, h3]))
            refine RunH.adv tb_ok [true] rfl rfl (by simp [hee, h3] <;> omega) ?_
            refine RunH.ret1 Tryz.func145 rfl rfl fun u hu => ⟨by rw [hw], hu.fact.1⟩
        · have h2 : isAt L path = false := by simpa using h2
          have hw := hend 0 hbad (if_neg (by simp only [clashC]; rw [h1, ← h1, h2]; simp))
          subst h1
          refine RunD.adv tb_ok (by kernel_rfl) [false, false] rfl rfl (by simp [h2] <;> omega) ?_
          refine RunD.done (.inl rfl) (by kernel_rfl) ?_
          refine RunH.adv tb_ok [] rfl rfl (by simp <;> omega) ?_
          refine RunH.ret1 Tryz.func145 rfl rfl fun u hu => ⟨by rw [hw], hu.fact.1⟩
      · have hw := hend 7 hbad (if_pos (by simp only [clashC]; rw [decide_eq_false h1]; rfl))
        refine RunD.adv tb_ok (by kernel_rfl) [true] rfl rfl (by simp [h1] <;> omega) ?_
        refine RunD.done (.inl rfl) (by kernel_rfl) ?_
        refine RunH.adv tb_ok [] rfl rfl (by simp <;> omega) ?_
        refine RunH.ret1 Tryz.func145 rfl rfl fun u hu => ⟨by rw [hw], hu.fact.1⟩
  · have hw : wrongE t y ⟨kind, path, had, has, old, new⟩ = 3 := if_neg hk
    refine RunH.adv tb_ok [true, true] rfl rfl (by simp <;> omega) ?_
    refine RunH.ret1 Tryz.func145 rfl rfl fun u hu => ⟨by rw [hw], hu.fact⟩
end Go.Proofs.YtagnkcdhenilbaaGreatDoor

namespace Go.Proofs.YtagnkcdhenilbaaGreatDoor
open Go V

def fullE (had : Bool) (l : List Entry) : Int := if had = false ∧ 300 ≤ l.length then 12 else 0

/-- The changes of a namespace, one after the other. -/
def appL : List Chg → List Entry → List Entry → Int × List Entry × List Entry
  | [], t, y => (0, t, y)
  | c :: r, t, y => if wrongE t y c = 0 then
      (if c.has = true then (if fullE c.had (kList c.kind t y) = 0 then (if c.kind = 1 then appL r (setL t ⟨c.path, c.new⟩) y else appL r t (setL y ⟨c.path, c.new⟩)) else (fullE c.had (kList c.kind t y), [], []))
       else if c.kind = 1 then appL r (t.eraseIdx (posOf t c.path)) y else appL r t (y.eraseIdx (posOf y c.path)))
    else (wrongE t y c, [], [])
def appC (t y : List Entry) (l : List Chg) : Int × List Entry × List Entry := if checkE t y = 0 then appL l t y else (checkE t y, [], [])

theorem appL_drop (k : Int) (path : Str) (had : Bool) (old new : Sum) (r : List Chg) (T Y : List Entry) (he : wrongE T Y ⟨k, path, had, false, old, new⟩ = 0) :
    appL (⟨k, path, had, false, old, new⟩ :: r) T Y = if k = 1 then appL r (T.eraseIdx (posOf T path)) Y else appL r T (Y.eraseIdx (posOf Y path)) := by
  rw [appL, if_pos he, if_neg (by simp)]
theorem appL_set (k : Int) (path : Str) (had : Bool) (old new : Sum) (r : List Chg) (T Y : List Entry) (he : wrongE T Y ⟨k, path, had, true, old, new⟩ = 0) (hf : fullE had (kList k T Y) = 0) :
    appL (⟨k, path, had, true, old, new⟩ :: r) T Y = if k = 1 then appL r (setL T ⟨path, new⟩) Y else appL r T (setL Y ⟨path, new⟩) := by
  rw [appL, if_pos he, if_pos rfl, if_pos hf]
theorem appL_full (k : Int) (path : Str) (had : Bool) (old new : Sum) (r : List Chg) (T Y : List Entry) (he : wrongE T Y ⟨k, path, had, true, old, new⟩ = 0) (hf : fullE had (kList k T Y) ≠ 0) :
    appL (⟨k, path, had, true, old, new⟩ :: r) T Y = (fullE had (kList k T Y), [], []) := by
  rw [appL, if_pos he, if_pos rfl, if_neg hf]

theorem deeds_spec (w : World) (has : Bool) : Gives Tryz.prog 146 [.bool has] w (.st [.val (.func (.func (if has = true then 172 else 171)) #[] #[])]) := by
  refine enterH tb_ok [(0, boolE has)] Tryz.func146 rfl Tryz.ntmps146 rfl rfl ?_
  cases has
  · refine RunH.adv tb_ok [true] rfl rfl (by simp <;> omega) ?_
    exact RunH.retBox tb_ok (.st [.val (.func (.func 171) #[] #[])]) Tryz.func146 rfl rfl rfl rfl fun w hst => ⟨rfl, hst.fact⟩
  · refine RunH.adv tb_ok [false] rfl rfl (by simp <;> omega) ?_
    exact RunH.retBox tb_ok (.st [.val (.func (.func 172) #[] #[])]) Tryz.func146 rfl rfl rfl rfl fun w hst => ⟨rfl, hst.fact⟩

theorem d1_spec (k : Int) (b : Nat) (ls lo : List Entry) (zs zo : Option Addr × Nat) (g : Chg) (hk : g.kind = k) (hn : ls.length ≤ 1000000) (hr : rises ls = true) (ha : isAt ls g.path = true) :
    Does Tryz.prog tb 171 [.pointer (some ⟨b, 0, none⟩), (EV.st (chgF g)).v] (wkKG k b ls lo zs zo) (fun _ => True) (fun _ : Unit => intV 0) (fun _ => wkKG k b (ls.eraseIdx (posOf ls g.path)) lo zs zo) (fun _ _ _ => True) := by
  subst hk
  obtain ⟨A, c⟩ := zs
  obtain ⟨B, c2⟩ := zo
  refine Does.enter tb_ok [(0, .av (.val (.pointer (some ⟨b, 0, none⟩)))), (1, .st (chgF g))] Tryz.func171 rfl Tryz.ntmps171 rfl rfl 3 ?_
  intro B0 m0 K
  refine RunH.adv tb_ok [] rfl rfl (by simp <;> omega) ?_
  refine RunH.doesB [(0, 0), (1, 1), (2, 2)] 5 (hc := Tryz.call121) (ho := rfl) (hw := rfl) (hd := rfl) (hf := rfl) (hes := rfl) (hσ := rfl) (hn := rfl) (hV := fun _ => rfl) (hG := fun _ => rfl) (e := fun _ : Unit => .av (.val (dropV ls g.path))) (hC := drop_K g.kind ls lo g.path b (A, c) (B, c2) hn hr ha) (hp := fun _ _ => trivial) ?_
  rintro ⟨⟩ m1 hm1
  refine RunH.drop ?_
  refine RunH.adv tb_ok [] rfl rfl (by simp <;> omega) ?_
  refine RunH.ret1 Tryz.func171 rfl rfl fun w hst => ⟨(), rfl, hst.out [] rfl rfl fun u h => ⟨h.1, trivial⟩⟩

theorem d2_spec (k : Int) (b : Nat) (ls lo : List Entry) (zs zo : Option Addr × Nat) (g : Chg) (hk : g.kind = k) (hn : ls.length ≤ 1000000) (hr : rises ls = true) :
    Does Tryz.prog tb 172 [.pointer (some ⟨b, 0, none⟩), (EV.st (chgF g)).v] (wkKG k b ls lo zs zo) (fun _ => True) (fun _ : Option Addr × Nat => intV (fullE g.had ls)) (fun z => wkKG k b (if fullE g.had ls = 0 then setL ls ⟨g.path, g.new⟩ else ls) lo z zo) (fun _ _ _ => True) := by
  subst hk
  obtain ⟨A, c⟩ := zs
  obtain ⟨B, c2⟩ := zo
  obtain ⟨kind, path, had, has, old, new⟩ := g
  refine Does.enter tb_ok [(0, .av (.val (.pointer (some ⟨b, 0, none⟩)))), (1, .st (chgF ⟨kind, path, had, has, old, new⟩))] Tryz.func172 rfl Tryz.ntmps172 rfl rfl 3 ?_
  intro B0 m0 K
  dsimp only
  cases had
  · refine RunH.adv tb_ok [true] rfl rfl (by simp <;> omega) ?_
    refine RunH.gives (ho := rfl) (hw := rfl) (hd := rfl) (hf := rfl) (hes := rfl) (hc := Tryz.call122) (e := boolE (decide (300 ≤ ls.length))) (hC := fun w hst => full_K (hst.holds 0 _ rfl).2) ?_
    intro m1 hm1
    by_cases hf : 300 ≤ ls.length
    · have h0 : fullE false ls = 12 := by simp [fullE, hf]
      rw [h0, if_neg (by decide)]
      refine RunH.adv tb_ok [true] rfl rfl (by simp [hf] <;> omega) ?_
      refine RunH.ret1 Tryz.func172 rfl rfl fun w hst => ⟨(A, c), rfl, hst.out [] rfl rfl fun u h => ⟨h.1, trivial⟩⟩
    · have h0 : fullE false ls = 0 := by simp [fullE, hf]
      rw [h0, if_pos rfl]
      refine RunH.adv tb_ok [false] rfl rfl (by simp [hf] <;> omega) ?_
      refine RunH.doesB [(0, 0), (1, 1), (2, 2)] 6 (hc := Tryz.call106) (ho := rfl) (hw := rfl) (hd := rfl) (hf := rfl) (hes := rfl) (hσ := rfl) (hn := rfl) (hV := fun _ => rfl) (hG := fun _ => rfl) (e := fun _ : Option Addr × Nat => .av (.val (.tuple #[]))) (hC := set_spec kind b ls lo (A, c) (B, c2) ⟨path, new⟩ hn hr) (hp := fun _ _ => trivial) ?_
      rintro ⟨A', c'⟩ m4 hm4
      refine RunH.drop ?_
      refine RunH.adv tb_ok [] rfl rfl (by simp <;> omega) ?_
      refine RunH.ret1 Tryz.func172 rfl rfl fun w hst => ⟨(A', c'), rfl, hst.out [] rfl rfl fun u h => ⟨h.1, trivial⟩⟩
  · have h0 : fullE true ls = 0 := by simp [fullE]
    rw [h0, if_pos rfl]
    refine RunH.adv tb_ok [false] rfl rfl (by simp <;> omega) ?_
    refine RunH.doesB [(0, 0), (1, 1), (2, 2)] 6 (hc := Tryz.call106) (ho := rfl) (hw := rfl) (hd := rfl) (hf := rfl) (hes := rfl) (hσ := rfl) (hn := rfl) (hV := fun _ => rfl) (hG := fun _ => rfl) (e := fun _ : Option Addr × Nat => .av (.val (.tuple #[]))) (hC := set_spec kind b ls lo (A, c) (B, c2) ⟨path, new⟩ hn hr) (hp := fun _ _ => trivial) ?_
    rintro ⟨A', c'⟩ m4 hm4
    refine RunH.drop ?_
    refine RunH.adv tb_ok [] rfl rfl (by simp <;> omega) ?_
    refine RunH.ret1 Tryz.func172 rfl rfl fun w hst => ⟨(A', c'), rfl, hst.out [] rfl rfl fun u h => ⟨h.1, trivial⟩⟩

set_option maxRecDepth 10000 in
set_option maxHeartbeats 1000000 in
theorem Apply_spec (s : Spc) (LA : Option Addr) (lc : Nat) (l : List Chg) (h1 : s.t.l.length ≤ 1000000) (h2 : s.y.l.length ≤ 1000000) (hln : l.length ≤ 1000) :
    Does Tryz.prog tb 76 [s.ev.v, .slice LA l.length lc] [] (fun u => MaxLen u ∧ s.ok u ∧ Sl kChg u LA lc l)
      (fun z : (Option Addr × Nat) × (Option Addr × Nat) => .tuple #[.agg #[.slice z.1.1 (appC s.t.l s.y.l l).2.1.length z.1.2, .slice z.2.1 (appC s.t.l s.y.l l).2.2.length z.2.2], intV (appC s.t.l s.y.l l).1])
      (fun z => [(0, rowE kEntry z.1.1 z.1.2 (appC s.t.l s.y.l l).2.1), (1, rowE kEntry z.2.1 z.2.2 (appC s.t.l s.y.l l).2.2)]) (fun _ _ _ => True) := by
  have hl : lim = 140737488351232 := rfl
  refine Does.enter tb_ok [(0, s.ev), (1, slE LA l.length lc)] Tryz.func76 rfl Tryz.ntmps76 rfl rfl 0 ?_
  intro B0 m0 K
  refine RunH.adv tb_ok [] rfl rfl (by simp <;> omega) ?_
  refine RunH.gives (ho := rfl) (hw := rfl) (hd := rfl) (hf := rfl) (hes := rfl) (hc := Tryz.call19) (e := intE (checkE s.t.l s.y.l)) (hC := fun u hu => space_Check u hu.fact.2.1 s hu.fact.2.2.1) ?_
  intro m1 hm1
  by_cases hc : checkE s.t.l s.y.l = 0
  · have hS1 := listE_ok (checkE_ok hc).1
    have hS2 := listE_ok (checkE_ok hc).2
    refine RunH.adv tb_ok [false] rfl rfl (by simp [hc] <;> omega) ?_
    refine RunH.doesB [] 5 (hc := Tryz.call95) (ho := rfl) (hw := rfl) (hd := rfl) (hf := rfl) (hes := rfl) (hσ := rfl) (hn := rfl) (hV := fun _ => rfl) (hG := fun _ => rfl) (e := fun z : Nat × (Option Addr × Nat) × (Option Addr × Nat) => .av (.val (.pointer (some ⟨z.1, 0, none⟩)))) (hC := own_spec s h1 h2) (hp := fun u hu => hu.fact.2.2.1) ?_
    rintro ⟨b, ⟨A1, c1⟩, ⟨B1, d1⟩⟩ m2 hm2
    refine RunH.drop ?_
    refine RunH.adv tb_ok [] rfl rfl (by simp <;> omega) ?_
    refine RunH.loop (α := Nat × (Option Addr × Nat) × (Option Addr × Nat) × List Entry × List Entry) (fun z => [(4, .av (.box 1 (m0 + 1) 0)), (7, .av (.val (.pointer (some ⟨b, 0, none⟩)))), (20, slE LA l.length lc), (21, intE l.length), (22, intE z.1)]) (fun z => [(1, some (.box (m0 + 1) [.val (.slice none 0 0), .val (.slice none 0 0)] 24)), (2, wkE b (slV z.2.1.1 z.2.2.2.1.length z.2.1.2) (slV z.2.2.1.1 z.2.2.2.2.length z.2.2.1.2)), (3, rowE kEntry z.2.1.1 z.2.1.2 z.2.2.2.1), (4, rowE kEntry z.2.2.1.1 z.2.2.1.2 z.2.2.2.2)])
      (fun z u => (K u ∧ MaxLen u ∧ s.ok u ∧ Sl kChg u LA lc l) ∧ z.1 ≤ l.length ∧ appL l s.t.l s.y.l = appL (l.drop z.1) z.2.2.2.1 z.2.2.2.2 ∧ rises z.2.2.2.1 = true ∧ rises z.2.2.2.2 = true ∧ z.2.2.2.1.length ≤ 300 + z.1 ∧ z.2.2.2.2.length ≤ 300 + z.1) (fun z => l.length - z.1) (0, (A1, c1), (B1, d1), s.t.l, s.y.l) rfl rfl
      (fun u h => ⟨h, Nat.zero_le _, rfl, hS1.2.1, hS2.2.1, hS1.2.2, hS2.2.2⟩) ?_
    rintro ⟨i, ⟨A, c⟩, ⟨B, d⟩, T, Y⟩ m3
    refine RunH.pure (fun u h => h.2) fun ⟨hi, hinv, hrT, hrY, hTn, hYn⟩ => ?_
    dsimp only at hi hinv hrT hrY hTn hYn ⊢
    by_cases hlt : i < l.length
    · have hdr : l.drop i = l[i] :: l.drop (i + 1) := List.drop_eq_getElem_cons hlt
      refine RunH.pure (fun u h => h.1.2.2.2.ptr hlt) fun hptr => ?_
      refine RunH.adv tb_ok [true] rfl rfl (by simp [hptr] <;> omega) ?_
      refine RunH.loadS (.st (chgF l[i])) rfl rfl rfl rfl (fun u hu => hu.fact.1.2.2.2.load hlt) ?_
      generalize hg : l[i] = g at *
      refine RunH.adv tb_ok [] rfl rfl (by simp <;> omega) ?_
      refine RunH.gives (ho := rfl) (hw := rfl) (hd := rfl) (hf := rfl) (hes := rfl) (hc := Tryz.call145) (e := intE (wrongE T Y g)) (hC := fun u hu => wrong_spec u hu.fact.1.2.1 b A B c d T Y (hu.wk (i := 2) (j := 3) (q := 4) rfl rfl rfl (by omega) (by omega)) hrT hrY g) ?_
      intro m4 hm4
      by_cases he : wrongE T Y g = 0
      · refine RunH.adv tb_ok [false] rfl rfl (by simp [he] <;> omega) ?_
        obtain ⟨kind, path, had, has, old, new⟩ := g
        have hk : kind = 1 ∨ kind = 2 := by
          unfold wrongE at he
          split at he
          · assumption
          · cases he
        have hwat : has = false → isAt (kList kind T Y) path = true := by
          intro hh
          unfold wrongE at he
          rw [if_pos hk] at he
          split at he
          · cases he
          · rename_i hb
            split at he
            · cases he
            · rename_i hcl
              subst hh
              cases had
              · simp [badC] at hb
              · simp [clashC] at hcl; exact hcl.1
        refine RunH.draw rfl [(5, some (.box m3 (chgF ⟨kind, path, had, has, old, new⟩) 97))] rfl 8 rfl rfl ?_
        refine RunD.adv tb_ok (by kernel_rfl) [] rfl rfl (by simp <;> omega) ?_
        rcases hk with rfl | rfl
        · replace hwat : has = false → isAt T path = true := hwat
          cases has
          · have hat : isAt T path = true := hwat rfl
            have hst : appL l s.t.l s.y.l = appL (l.drop (i + 1)) (T.eraseIdx (posOf T path)) Y := by rw [hinv, hdr]; exact appL_drop 1 path had old new _ T Y he
            refine RunD.gives (i := 2) (.st [.val (.func (.func 171) #[] #[])]) rfl (by kernel_rfl) rfl rfl rfl rfl Tryz.call146 (fun u _ => deeds_spec u false) rfl (fun _ h => h) ?_
            intro m7 hm7
            refine RunD.adv tb_ok (by kernel_rfl) [] rfl rfl (by simp <;> omega) ?_
            refine RunD.doesB (i := 6) [(0, 2), (1, 3), (2, 4)] 20 (fun _ : Unit => intE 0) rfl (by kernel_rfl) rfl rfl rfl rfl Tryz.call171 (d1_spec 1 b T Y (A, c) (B, d) ⟨1, path, had, false, old, new⟩ rfl (by omega) hrT hat) rfl rfl (fun _ => rfl) (fun _ => rfl) (fun _ _ => trivial) (fun _ => rfl) (fun _ h => h) ?_
            rintro ⟨⟩ m8 hm8
            refine RunD.adv tb_ok (by kernel_rfl) [] rfl rfl (by simp <;> omega) ?_
            refine RunD.done (.inl rfl) (by kernel_rfl) ?_
            refine RunH.adv tb_ok [false] rfl rfl (by simp <;> omega) ?_
            refine RunH.again (i + 1, (A, c), (B, d), T.eraseIdx (posOf T path), Y) (.head _) rfl rfl (by dsimp only; omega) fun u h => ⟨h.1.1, by dsimp only; omega, hst, rises_erase hrT, hrY, ?_, ?_⟩
            · dsimp only; have := List.length_eraseIdx_le T (posOf T path); omega
            · dsimp only; have := List.length_eraseIdx_le T (posOf T path); omega
          · refine RunD.gives (i := 2) (.st [.val (.func (.func 172) #[] #[])]) rfl (by kernel_rfl) rfl rfl rfl rfl Tryz.call146 (fun u _ => deeds_spec u true) rfl (fun _ h => h) ?_
            intro m7 hm7
            refine RunD.adv tb_ok (by kernel_rfl) [] rfl rfl (by simp <;> omega) ?_
            refine RunD.doesB (i := 6) [(0, 2), (1, 3), (2, 4)] 20 (fun _ : Option Addr × Nat => intE (fullE had T)) rfl (by kernel_rfl) rfl rfl rfl rfl Tryz.call172 (d2_spec 1 b T Y (A, c) (B, d) ⟨1, path, had, true, old, new⟩ rfl (by omega) hrT) rfl rfl (fun _ => rfl) (fun _ => rfl) (fun _ _ => trivial) (fun _ => rfl) (fun _ h => h) ?_
            rintro ⟨A5, c5⟩ m8 hm8
            refine RunD.adv tb_ok (by kernel_rfl) [] rfl rfl (by simp <;> omega) ?_
            refine RunD.done (.inl rfl) (by kernel_rfl) ?_
            by_cases hf : fullE had T = 0
            · have hst : appL l s.t.l s.y.l = appL (l.drop (i + 1)) (setL T ⟨path, new⟩) Y := by rw [hinv, hdr]; exact appL_set 1 path had old new _ T Y he hf
              rw [hf]
              refine RunH.adv tb_ok [false] rfl rfl (by simp <;> omega) ?_
              refine RunH.again (i + 1, (A5, c5), (B, d), setL T ⟨path, new⟩, Y) (.head _) rfl rfl (by dsimp only; omega) fun u h => ⟨h.1.1, by dsimp only; omega, hst, rises_setL hrT, hrY, ?_, ?_⟩
              · dsimp only; have := setL_le T ⟨path, new⟩; omega
              · dsimp only; have := setL_le T ⟨path, new⟩; omega
            · have hR : appC s.t.l s.y.l l = (fullE had T, [], []) := by unfold appC; rw [if_pos hc, hinv, hdr]; exact appL_full 1 path had old new _ T Y he hf
              refine RunH.adv tb_ok [true] rfl rfl (by simp [hf] <;> omega) ?_
              refine RunH.nilrow 20 kEntry.T kEntry.sz 21 ?_
              refine RunH.nilrow 21 kEntry.T kEntry.sz 22 ?_
              refine RunH.retBoxT tb_ok nilSp Tryz.func76 rfl rfl rfl rfl rfl fun w hst => ⟨((none, 0), (none, 0)), by rw [hR]; rfl, by rw [hR]; exact hst.out [(0, 20), (1, 21)] rfl rfl fun u h => ⟨h.1.1.1, trivial⟩⟩
        · replace hwat : has = false → isAt Y path = true := hwat
          cases has
          · have hat : isAt Y path = true := hwat rfl
            have hst : appL l s.t.l s.y.l = appL (l.drop (i + 1)) T (Y.eraseIdx (posOf Y path)) := by rw [hinv, hdr]; exact appL_drop 2 path had old new _ T Y he
            refine RunD.gives (i := 2) (.st [.val (.func (.func 171) #[] #[])]) rfl (by kernel_rfl) rfl rfl rfl rfl Tryz.call146 (fun u _ => deeds_spec u false) rfl (fun _ h => h) ?_
            intro m7 hm7
            refine RunD.adv tb_ok (by kernel_rfl) [] rfl rfl (by simp <;> omega) ?_
            refine RunD.doesB (i := 6) [(0, 2), (1, 4), (2, 3)] 20 (fun _ : Unit => intE 0) rfl (by kernel_rfl) rfl rfl rfl rfl Tryz.call171 (d1_spec 2 b Y T (B, d) (A, c) ⟨2, path, had, false, old, new⟩ rfl (by omega) hrY hat) rfl rfl (fun _ => rfl) (fun _ => rfl) (fun _ _ => trivial) (fun _ => rfl) (fun _ h => h) ?_
            rintro ⟨⟩ m8 hm8
            refine RunD.adv tb_ok (by kernel_rfl) [] rfl rfl (by simp <;> omega) ?_
            refine RunD.done (.inl rfl) (by kernel_rfl) ?_
            refine RunH.adv tb_ok [false] rfl rfl (by simp <;> omega) ?_
            refine RunH.again (i + 1, (A, c), (B, d), T, Y.eraseIdx (posOf Y path)) (.head _) rfl rfl (by dsimp only; omega) fun u h => ⟨h.1.1, by dsimp only; omega, hst, hrT, rises_erase hrY, ?_, ?_⟩
            · dsimp only; have := List.length_eraseIdx_le Y (posOf Y path); omega
            · dsimp only; have := List.length_eraseIdx_le Y (posOf Y path); omega
          · refine RunD.gives (i := 2) (.st [.val (.func (.func 172) #[] #[])]) rfl (by kernel_rfl) rfl rfl rfl rfl Tryz.call146 (fun u _ => deeds_spec u true) rfl (fun _ h => h) ?_
            intro m7 hm7
            refine RunD.adv tb_ok (by kernel_rfl) [] rfl rfl (by simp <;> omega) ?_
            refine RunD.doesB (i := 6) [(0, 2), (1, 4), (2, 3)] 20 (fun _ : Option Addr × Nat => intE (fullE had Y)) rfl (by kernel_rfl) rfl rfl rfl rfl Tryz.call172 (d2_spec 2 b Y T (B, d) (A, c) ⟨2, path, had, true, old, new⟩ rfl (by omega) hrY) rfl rfl (fun _ => rfl) (fun _ => rfl) (fun _ _ => trivial) (fun _ => rfl) (fun _ h => h) ?_
            rintro ⟨A5, c5⟩ m8 hm8
            refine RunD.adv tb_ok (by kernel_rfl) [] rfl rfl (by simp <;> omega) ?_
            refine RunD.done (.inl rfl) (by kernel_rfl) ?_
            by_cases hf : fullE had Y = 0
            · have hst : appL l s.t.l s.y.l = appL (l.drop (i + 1)) T (setL Y ⟨path, new⟩) := by rw [hinv, hdr]; exact appL_set 2 path had old new _ T Y he hf
              rw [hf]
              refine RunH.adv tb_ok [false] rfl rfl (by simp <;> omega) ?_
              refine RunH.again (i + 1, (A, c), (A5, c5), T, setL Y ⟨path, new⟩) (.head _) rfl rfl (by dsimp only; omega) fun u h => ⟨h.1.1, by dsimp only; omega, hst, hrT, rises_setL hrY, ?_, ?_⟩
              · dsimp only; have := setL_le Y ⟨path, new⟩; omega
              · dsimp only; have := setL_le Y ⟨path, new⟩; omega
            · have hR : appC s.t.l s.y.l l = (fullE had Y, [], []) := by unfold appC; rw [if_pos hc, hinv, hdr]; exact appL_full 2 path had old new _ T Y he hf
              refine RunH.adv tb_ok [true] rfl rfl (by simp [hf] <;> omega) ?_
              refine RunH.nilrow 20 kEntry.T kEntry.sz 21 ?_
              refine RunH.nilrow 21 kEntry.T kEntry.sz 22 ?_
              refine RunH.retBoxT tb_ok nilSp Tryz.func76 rfl rfl rfl rfl rfl fun w hst => ⟨((none, 0), (none, 0)), by rw [hR]; rfl, by rw [hR]; exact hst.out [(0, 20), (1, 21)] rfl rfl fun u h => ⟨h.1.1.1, trivial⟩⟩
      · have hR : appC s.t.l s.y.l l = (wrongE T Y g, [], []) := by unfold appC; rw [if_pos hc, hinv, hdr, appL, if_neg he]
        refine RunH.adv tb_ok [true] rfl rfl (by simp [he] <;> omega) ?_
        refine RunH.nilrow 20 kEntry.T kEntry.sz 21 ?_
        refine RunH.nilrow 21 kEntry.T kEntry.sz 22 ?_
        refine RunH.retBoxT tb_ok nilSp Tryz.func76 rfl rfl rfl rfl rfl fun w hst => ⟨((none, 0), (none, 0)), by rw [hR]; rfl, by rw [hR]; exact hst.out [(0, 20), (1, 21)] rfl rfl fun u h => ⟨h.1.1, trivial⟩⟩
    · have hd : l.drop i = [] := List.drop_eq_nil_of_le (by omega)
      have hR : appC s.t.l s.y.l l = (0, T, Y) := by unfold appC; rw [if_pos hc, hinv, hd]; rfl
      refine RunH.adv tb_ok [false] rfl rfl (by simp <;> omega) ?_
      refine RunH.loadS (.st [.val (.slice A T.length c), .val (.slice B Y.length d)]) rfl rfl rfl rfl (fun w hst => load_space (hst.holds 2 _ rfl).2) ?_
      refine RunH.adv tb_ok [] rfl rfl (by simp <;> omega) ?_
      rw [hR]
      refine RunH.retBoxT tb_ok (.st [.val (.slice A T.length c), .val (.slice B Y.length d)]) Tryz.func76 rfl rfl rfl rfl rfl fun w hst => ⟨((A, c), (B, d)), rfl, hst.out [(0, 3), (1, 4)] rfl rfl fun u h => ⟨h.1.1, trivial⟩⟩
  · have hR : appC s.t.l s.y.l l = (checkE s.t.l s.y.l, [], []) := if_neg hc
    refine RunH.adv tb_ok [true] rfl rfl (by simp [hc] <;> omega) ?_
    refine RunH.nilrow 20 kEntry.T kEntry.sz 21 ?_
    refine RunH.nilrow 21 kEntry.T kEntry.sz 22 ?_
    refine RunH.retBoxT tb_ok nilSp Tryz.func76 rfl rfl rfl rfl rfl fun w hst => ⟨((none, 0), (none, 0)), by rw [hR]; rfl, by rw [hR]; exact hst.out [(0, 20), (1, 21)] rfl rfl fun u h => ⟨h.1, trivial⟩⟩
end Go.Proofs.YtagnkcdhenilbaaGreatDoor
