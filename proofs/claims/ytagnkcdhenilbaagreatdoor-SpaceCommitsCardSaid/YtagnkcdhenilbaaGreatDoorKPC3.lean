/-
A part of the proofs of the laws of a seat: contracts of functions and lemmas on them; the listed package variables hold what the program's text lays. No further condition.
-/
import Derived.Test.YtagnkcdhenilbaaGreatDoorKPW7
import Derived.Test.YtagnkcdhenilbaaGreatDoorKVKey
set_option linter.unusedVariables false
set_option linter.unusedSectionVars false
set_option linter.unusedSimpArgs false
namespace Go.Proofs.YtagnkcdhenilbaaGreatDoor
open Go V RowKit

theorem V.RunH.objBoxV {P : Program} {f : Fr} {n : Nat} {S : Stops} {R : Ending → World → Prop} {tb : TT} {B0 : Nat} {I : World → Prop} {H : Heap} {nx m : Nat} {env : SEnv} {todo : List Item} {id b : Nat} {T : TypeId} {fs0 : List AV} (fs : List AV) (hH : lookH H id = some (.box b fs0 T)) (hc : boxCells fs0 = boxCells fs) (hF : Fit tb T fs)
    (h : RunH P f n tb B0 S R todo env ((id, some (.box b fs T)) :: H) nx m I) : RunH P f n tb B0 S R todo env H nx m I :=
  RunH.boxObj (boxCells fs0) hH rfl (RunH.objBox fs (by rw [lookH_cons, if_pos rfl]) hc hF (fun w hm hst => h w hm (hst.congr fun k x hx => by
    rw [lookH_cons] at hx ⊢
    split at hx
    · rename_i e; rw [if_pos e]; exact hx
    · rename_i e; rw [if_neg e, lookH_cons, if_neg e]; exact hx)))

theorem vok_com (x : Com) : VOk tb 73 x.ev.v := by
  refine ⟨_, Tryz.t73, rfl, rfl, ?_, ?_⟩
  · have : (sumV x.root).cells.size = 32 := (sumV_ok x.root).1
    simp only [List.map_cons, List.map_nil, flat_cons, flat_nil, AV.v, List.append_nil, List.size_toArray, List.length_append, Array.length_toList, this]
    rfl
  · intro u hu
    simp only [List.map_cons, List.map_nil, flat_cons, flat_nil, AV.v, List.append_nil, List.mem_append] at hu
    rcases hu with hu | hu | hu
    · exact (vok_sum x.root).one u hu
    · have : u = .slice x.ps.A x.ps.l.length x.ps.c := by simpa [Value.cells] using hu
      subst this; rfl
    · exact (vok_str x.note).one u hu

def kCom : Kd Com where
  T := 73
  sz := 34
  ev x := x.ev
  ok x := vok_com x
  size x := by
    obtain ⟨i, hi, hs⟩ := (vok_com x).size
    rw [hs]
    have : tb.get 73 = some Tryz.t73 := rfl
    rw [this] at hi; injection hi with hi; subst hi; rfl

/-- The commits of a history, one after the other. -/
def histGo : List Com → List Sum → Int × List Sum
  | [], out => (0, out)
  | x :: r, out => if comE x.ps.l x.note = 0 then (if x.ps.l.any (fun p => !hasD out p) = true then (15, []) else if hasD out (comS x.root x.ps.l x.note) = true then (5, []) else histGo r (out ++ [comS x.root x.ps.l x.note])) else (comE x.ps.l x.note, [])
def hist (l : List Com) : Int × List Sum := if 60 < l.length then (12, []) else histGo l []

theorem hist1_spec (w : World) (b : Nat) (A : Option Addr) (c : Nat) (out : List Sum) (p : Sum) (hx : ∀ u, Ext w u → (loadVar 71 ⟨b, 0, none⟩).run Tryz.prog u = .ok (.slice A out.length c) u) (hs : Sl kSum w A c out) :
    Gives Tryz.prog 130 [sumV p, .pointer (some ⟨b, 0, none⟩)] w (boolE (!hasD out p)) := by
  refine enterH tb_ok [(0, sumE p), (1, .av (.val (.pointer (some ⟨b, 0, none⟩))))] Tryz.func130 rfl Tryz.ntmps130 rfl rfl ?_
  refine RunH.adv tb_ok [] rfl rfl (by simp [AllOb, Ob.P, sum_len, sz_sum, one_int, u8V_one]) ?_
  refine RunH.load (slE A out.length c) rfl rfl rfl rfl (fun u hu => hx u hu) ?_
  refine RunH.adv tb_ok [] rfl rfl (by simp <;> omega) ?_
  refine RunH.gives (ho := rfl) (hw := rfl) (hd := rfl) (hf := rfl) (hes := rfl) (hc := Tryz.call68) (e := boolE (hasD out p)) (hC := fun u hu => conD_spec u A c out (hs.ext hu.fact) p) ?_
  intro m1 hm1
  refine RunH.adv tb_ok [] rfl rfl (by simp <;> omega) ?_
  refine RunH.ret1 Tryz.func130 rfl rfl fun u hu => ⟨rfl, hu.fact⟩

theorem hist_step (x : Com) (r : List Com) (out : List Sum) : histGo (x :: r) out = if comE x.ps.l x.note = 0 then (if x.ps.l.any (fun p => !hasD out p) = true then (15, []) else if hasD out (comS x.root x.ps.l x.note) = true then (5, []) else histGo r (out ++ [comS x.root x.ps.l x.note])) else (comE x.ps.l x.note, []) := rfl

set_option maxRecDepth 10000 in
theorem History_spec (LA : Option Addr) (lc : Nat) (cs : List Com) :
    Does Tryz.prog tb 58 [.slice LA cs.length lc] [] (fun u => Glob u ∧ Sl kCom u LA lc cs ∧ ∀ x ∈ cs, Sl kSum u x.ps.A x.ps.c x.ps.l) (fun z : Option Addr × Nat => .tuple #[.slice z.1 (hist cs).2.length z.2, intV (hist cs).1]) (fun z => [(0, rowE kSum z.1 z.2 (hist cs).2)]) (fun _ _ _ => True) := by
  have hl : lim = 140737488351232 := rfl
  refine Does.enter tb_ok [(0, slE LA cs.length lc)] Tryz.func58 rfl Tryz.ntmps58 rfl rfl 0 ?_
  intro B0 m0 K
  generalize hre : hist cs = e
  have hE := hre.symm
  unfold hist at hE
  by_cases hbig : 60 < cs.length
  · rw [if_pos hbig] at hE
    subst hE
    refine RunH.adv tb_ok [true] rfl rfl (by simp [hbig] <;> omega) ?_
    refine RunH.nilrow 20 kSum.T kSum.sz 21 ?_
    refine RunH.ret2 Tryz.func58 rfl rfl rfl fun w hst => ⟨(none, 0), rfl, hst.out [(0, 20)] rfl rfl fun u h => ⟨h.1, trivial⟩⟩
  · rw [if_neg hbig] at hE
    refine RunH.adv tb_ok [false] rfl rfl (by simp [hbig] <;> omega) ?_
    refine RunH.objBoxV (id := 0) [.row 1 (.slice none 0 0)] rfl rfl ⟨_, rfl, rfl, Tryz.t71, rfl, rfl⟩ ?_
    refine RunH.nilrow 1 kSum.T kSum.sz 2 ?_
    refine RunH.loop (α := Nat × List Sum × (Option Addr × Nat)) (fun y => [(2, .av (.val (.slice none 0 0))), (3, intE 0), (4, .av (.box 0 m0 0)), (12, slE LA cs.length lc), (13, intE cs.length), (14, intE y.1)])
      (fun y => [(0, some (.box m0 [.row 1 (.slice y.2.2.1 y.2.1.length y.2.2.2)] 71)), (1, rowE kSum y.2.2.1 y.2.2.2 y.2.1)]) (fun y u => (K u ∧ Glob u ∧ Sl kCom u LA lc cs ∧ ∀ x ∈ cs, Sl kSum u x.ps.A x.ps.c x.ps.l) ∧ y.1 ≤ cs.length ∧ y.2.1.length = y.1 ∧ e = histGo (cs.drop y.1) y.2.1) (fun y => cs.length - y.1) (0, [], (none, 0)) rfl rfl (fun u hu => ⟨hu, Nat.zero_le _, rfl, hE⟩) ?_
    rintro ⟨i, out, A, c⟩ m1
    refine RunH.pure (fun u hu => hu.2) fun ⟨hi, hol, hrest⟩ => ?_
    dsimp only at hi hol hrest ⊢
    by_cases hlt : i < cs.length
    · rw [List.drop_eq_getElem_cons hlt, hist_step] at hrest
      refine RunH.pure (fun u hu => hu.1.2.2.1.ptr hlt) fun hptr => ?_
      refine RunH.adv tb_ok [true] rfl rfl (by simp [hptr] <;> omega) ?_
      refine RunH.loadS (.st [.val (sumV cs[i].root), cs[i].ps.av, .val (strV cs[i].note)]) rfl rfl rfl rfl (fun u hu => hu.fact.1.2.2.1.load hlt) ?_
      have hmem := List.getElem_mem hlt
      generalize hx : cs[i] = x at *
      refine RunH.adv tb_ok [] rfl rfl (by simp [AllOb, Ob.P, sum_len, sz_sum, one_int, u8V_one]) ?_
      refine RunH.gives (ho := rfl) (hw := rfl) (hd := rfl) (hf := rfl) (hes := rfl) (hc := Tryz.call56) (e := .av (.val (.tuple #[sumV (comS x.root x.ps.l x.note), intV (comE x.ps.l x.note)]))) (hC := fun u hu => Commit_spec u hu.fact.1.2.1 x (hu.fact.1.2.2.2 x hmem)) ?_
      intro m2 hm2
      generalize comS x.root x.ps.l x.note = sm at *
      by_cases he : comE x.ps.l x.note = 0
      · rw [if_pos he] at hrest
        refine RunH.adv tb_ok [false] rfl rfl (by simp [AllOb, Ob.P, sum_len, sz_sum, one_int, u8V_one, he]) ?_
        refine RunH.gives (ho := rfl) (hw := rfl) (hd := rfl) (hf := rfl) (hes := rfl) (hc := Tryz.call129) (e := boolE (x.ps.l.any fun p => !hasD out p)) (hC := fun u hu => containsFuncD u x.ps.A x.ps.c x.ps.l (hu.fact.1.2.2.2 x hmem) 130 [] [.pointer (some ⟨m0, 0, none⟩)] (fun p => !hasD out p)
          ⟨Tryz.call130, fun p _ v hv => hist1_spec v m0 A c out p (fun u' hu' => hu.loadBox (id := 0) (e := rowS 1 A out.length c) tb_ok rfl rfl u' (hv.trans' hu')) ((Sl.own (B := B0) (hu.row (κ := kSum) (id := 1) (l := out) rfl) (by omega)).ext hv)⟩) ?_
        intro m3 hm3
        by_cases hp : (x.ps.l.any fun p => !hasD out p) = true
        · rw [if_pos hp] at hrest
          subst hrest
          refine RunH.adv tb_ok [true] rfl rfl (by simp [hp] <;> omega) ?_
          refine RunH.nilrow 20 kSum.T kSum.sz 21 ?_
          refine RunH.ret2 Tryz.func58 rfl rfl rfl fun w hst => ⟨(none, 0), rfl, hst.out [(0, 20)] rfl rfl fun u h => ⟨h.1.1, trivial⟩⟩
        · rw [if_neg hp] at hrest
          refine RunH.adv tb_ok [false] rfl rfl (by simp [hp] <;> omega) ?_
          refine RunH.gives (ho := rfl) (hw := rfl) (hd := rfl) (hf := rfl) (hes := rfl) (hc := Tryz.call68) (e := boolE (hasD out sm)) (hC := fun u hu => conD_spec u A c out (Sl.own (B := B0) (hu.row (κ := kSum) (id := 1) (l := out) rfl) (by omega)) sm) ?_
          intro m4 hm4
          by_cases hd : hasD out sm = true
          · rw [if_pos hd] at hrest
            subst hrest
            refine RunH.adv tb_ok [true] rfl rfl (by simp [hd] <;> omega) ?_
            refine RunH.nilrow 20 kSum.T kSum.sz 21 ?_
            refine RunH.ret2 Tryz.func58 rfl rfl rfl fun w hst => ⟨(none, 0), rfl, hst.out [(0, 20)] rfl rfl fun u h => ⟨h.1.1, trivial⟩⟩
          · rw [if_neg hd] at hrest
            refine RunH.adv tb_ok [false] rfl rfl (by simp [hd] <;> omega) ?_
            refine RunH.appendK (κ := kSum) (id := 1) (l := out) (r := [sm]) rfl rfl rfl rfl rfl rfl elt_sum rfl rfl (fun u hu => hu.liesRow (κ := kSum) (l := [sm]) (id := 4) rfl (by simp [hl])) (by rw [List.length_singleton]; omega) (by rw [List.length_singleton]; omega) ?_
            intro A2 c2 m5 hm5
            refine RunH.adv tb_ok [] rfl rfl (by simp <;> omega) ?_
            exact RunH.again (i + 1, out ++ [sm], (A2, c2)) (.head _) rfl rfl (by show cs.length - (i + 1) < cs.length - i; omega) fun u hu => ⟨hu.1, by show i + 1 ≤ _; omega, by show (out ++ [sm]).length = i + 1; rw [List.length_append, List.length_singleton, hol], hrest⟩
      · rw [if_neg he] at hrest
        subst hrest
        refine RunH.adv tb_ok [true] rfl rfl (by simp [AllOb, Ob.P, sum_len, sz_sum, one_int, u8V_one, he]) ?_
        refine RunH.nilrow 20 kSum.T kSum.sz 21 ?_
        refine RunH.ret2 Tryz.func58 rfl rfl rfl fun w hst => ⟨(none, 0), rfl, hst.out [(0, 20)] rfl rfl fun u h => ⟨h.1.1, trivial⟩⟩
    · have hi' : i = cs.length := by omega
      rw [hi', List.drop_length] at hrest
      have hrest : e = (0, out) := hrest
      subst hrest
      refine RunH.adv tb_ok [false] rfl rfl (by simp <;> omega) ?_
      refine RunH.ret2 Tryz.func58 rfl rfl rfl fun w hst => ⟨(A, c), rfl, hst.out [(0, 1)] rfl rfl fun u h => ⟨h.1.1, trivial⟩⟩
end Go.Proofs.YtagnkcdhenilbaaGreatDoor

namespace Go.Proofs.YtagnkcdhenilbaaGreatDoor
open Go V RowKit

/-- A set of digests, as a map. -/
def isE (is : List Sum) : List (Sum × Value) := is.map fun s => (s, Value.bool true)

theorem findI_is (x : Sum) : ∀ (is : List Sum) (n : Nat), (findI x (isE is) n).isSome = hasD is x ∧ (∀ p, findI x (isE is) n = some p → p.2 = .bool true)
  | [], n => ⟨rfl, fun _ h => by cases h⟩
  | s :: r, n => by
    have ih := findI_is x r (n + 1)
    unfold isE hasD at *
    rw [List.map_cons, List.any_cons]
    unfold findI
    by_cases h : s = x
    · simp [h]
    · have h2 : ¬ x = s := fun e => h e.symm
      simp only [h, h2, decide_false, Bool.false_or, if_false]
      exact ih

theorem getM_is (is : List Sum) (x : Sum) : (getM (isE is) x).getD (.bool false) = .bool (hasD is x) := by
  have h := findI_is x is 0
  unfold getM
  cases hf : findI x (isE is) 0 with
  | none => rw [hf] at h; simp at h; simp [h]
  | some p => rw [hf] at h; simp at h; simp [h]

theorem setM_is (is : List Sum) (x : Sum) (hx : hasD is x = false) : setM (isE is) x (.bool true) = isE (is ++ [x]) := by
  have h := (findI_is x is 0).1
  rw [hx] at h
  unfold setM
  cases hf : findI x (isE is) 0 with
  | none => simp [isE]
  | some p => rw [hf] at h; cases h

theorem und_is : Tryz.prog.underlying 166 = some (.map 39 4) := tb_ok.und (by kernel_rfl)
theorem zero_bool : ∀ w, (zeroValue 4).run Tryz.prog w = .ok (.bool false) w := fun w => by
  have hi : Tryz.prog.info? 4 = some Tryz.t4 := tb_ok.get (by kernel_rfl)
  have hz : (Tryz.t4).zero = some (.bool false) := by kernel_rfl
  simp [zeroValue, typeInfo, hi, hz]

theorem Sl.parents {w : World} {A : Option Addr} {c : Nat} {l : List Com} (h : Sl kCom w A c l) {i : Nat} (hi : i < l.length) :
    (loadVar 71 ⟨blkA A, offA A + i * 34 + 32, none⟩).run Tryz.prog w = .ok (.slice l[i].ps.A l[i].ps.l.length l[i].ps.c) w := by
  refine V.run_load tb_ok ⟨rfl, Tryz.t71, rfl, rfl⟩ fun j v hv => ?_
  cases j with
  | succ j => simp [Value.cells] at hv
  | zero =>
    have hv : some (Value.slice l[i].ps.A l[i].ps.l.length l[i].ps.c) = some v := hv
    have hg := kCom.get l i hi
    have h1 : (((l.flatMap kCom.cs).drop (i * kCom.sz)).take kCom.sz)[32]? = some v := by
      rw [hg, ← hv]
      show ((EV.st [.val (sumV l[i].root), l[i].ps.av, .val (strV l[i].note)]).v.cells.toList)[32]? = _
      have hc : (EV.st [.val (sumV l[i].root), l[i].ps.av, .val (strV l[i].note)]).v.cells.toList = (l[i].root.l.map u8V) ++ [Value.slice l[i].ps.A l[i].ps.l.length l[i].ps.c, strV l[i].note] := by
        simp [EV.v, flat, AV.v, Value.cells, sumV]
      rw [hc, List.getElem?_append_right (by rw [List.length_map, l[i].root.h]; exact Nat.le_refl _), List.length_map, l[i].root.h]
      rfl
    have hsz : kCom.sz = 34 := rfl
    rw [List.getElem?_take, if_pos (by rw [hsz]; decide), List.getElem?_drop] at h1
    have := h.cells _ _ h1
    rw [← Nat.add_assoc] at this
    exact this

/-- Where a digest is first. -/
def ixD (sums : List Sum) (x : Sum) : Nat := sums.findIdx fun y => decide (x = y)

theorem idxOf_ix (x : Sum) : ∀ (l : List Sum) (n : Nat), hasD l x = true → idxOf (fun y => decide (x = y)) l n = ((n + ixD l x : Nat) : Int)
  | [], _, h => by cases h
  | s :: r, n, h => by
    unfold idxOf ixD
    rw [List.findIdx_cons]
    by_cases he : x = s
    · simp [he]
    · have hr : hasD r x = true := by
        unfold hasD at h ⊢
        rw [List.any_cons] at h
        simpa [he] using h
      have ih := idxOf_ix x r (n + 1) hr
      simp only [he, decide_false, cond_false, Bool.false_eq_true, if_false]
      rw [ih]
      unfold ixD
      omega

theorem ixD_lt {l : List Sum} {x : Sum} (h : hasD l x = true) : ixD l x < l.length := by
  unfold ixD
  rw [List.findIdx_lt_length]
  unfold hasD at h
  rw [List.any_eq_true] at h
  exact h

theorem ixD_take {l : List Sum} {x : Sum} {i : Nat} (h : hasD (l.take i) x = true) : ixD l x < i := by
  have h1 := ixD_lt h
  have h2 : ixD l x = ixD (l.take i) x := by
    unfold ixD at h1 ⊢
    have : l = l.take i ++ l.drop i := (List.take_append_drop i l).symm
    conv => lhs; rw [this]
    rw [List.findIdx_append]
    rw [if_pos h1]
  rw [List.length_take] at h1
  omega

def parL (cs : List Com) (sums : List Sum) (x : Sum) : List Sum := ((cs.map fun q => q.ps.l).getD (ixD sums x) [])

/-- What is seen, going up from a commit. -/
def upL (par : Sum → List Sum) : Nat → List Sum → Sum → List Sum
  | 0, is, _ => is
  | n + 1, is, x => if hasD is x = true then is else (par x).foldl (fun is p => upL par n is p) (is ++ [x])

/-- What the closure reads. -/
structure AncP (u : World) (b7 bl bs bu mb : Nat) (LA : Option Addr) (lc : Nat) (cs : List Com) (SA : Option Addr) (sc : Nat) (sums : List Sum) : Prop where
  m : (loadVar 166 ⟨b7, 0, none⟩).run Tryz.prog u = .ok (.map (some mb)) u
  l : (loadVar 69 ⟨bl, 0, none⟩).run Tryz.prog u = .ok (.slice LA cs.length lc) u
  s : (loadVar 71 ⟨bs, 0, none⟩).run Tryz.prog u = .ok (.slice SA sums.length sc) u
  f : (loadVar 214 ⟨bu, 0, none⟩).run Tryz.prog u = .ok (.func (.func 170) #[] #[.pointer (some ⟨b7, 0, none⟩), .pointer (some ⟨bl, 0, none⟩), .pointer (some ⟨bs, 0, none⟩), .pointer (some ⟨bu, 0, none⟩)]) u
  hcs : Sl kCom u LA lc cs
  hps : ∀ x ∈ cs, Sl kSum u x.ps.A x.ps.c x.ps.l
  hsums : Sl kSum u SA sc sums

theorem parL_eq {cs : List Com} {sums : List Sum} {x : Sum} (h : ixD sums x < cs.length) : parL cs sums x = cs[ixD sums x].ps.l := by
  unfold parL
  rw [List.getD_eq_getElem?_getD, List.getElem?_map, List.getElem?_eq_getElem h]
  rfl

set_option maxRecDepth 10000 in
theorem up_spec (b7 bl bs bu mb : Nat) (LA : Option Addr) (lc : Nat) (cs : List Com) (SA : Option Addr) (sc : Nat) (sums : List Sum) (hlen : sums.length = cs.length)
    (hpar : ∀ i (h : i < cs.length), ∀ p ∈ cs[i].ps.l, hasD (sums.take i) p = true) :
    ∀ (N : Nat) (x : Sum) (is : List Sum), hasD sums x = true → ixD sums x < N →
    Does Tryz.prog tb 170 [sumV x, .pointer (some ⟨b7, 0, none⟩), .pointer (some ⟨bl, 0, none⟩), .pointer (some ⟨bs, 0, none⟩), .pointer (some ⟨bu, 0, none⟩)] [(0, mapE mb sumV (isE is))] (fun u => AncP u b7 bl bs bu mb LA lc cs SA sc sums)
      (fun _ : Unit => .tuple #[]) (fun _ => [(0, mapE mb sumV (isE (upL (parL cs sums) N is x)))]) (fun _ _ _ => True)
  | 0, _, _, _, h => by omega
  | N + 1, x, is, hx, hN => by
    have ih := up_spec b7 bl bs bu mb LA lc cs SA sc sums hlen hpar N
    have hl : lim = 140737488351232 := rfl
    have hix := ixD_lt hx
    refine Does.enter tb_ok [(0, sumE x), (1, .av (.val (.pointer (some ⟨b7, 0, none⟩)))), (2, .av (.val (.pointer (some ⟨bl, 0, none⟩)))), (3, .av (.val (.pointer (some ⟨bs, 0, none⟩)))), (4, .av (.val (.pointer (some ⟨bu, 0, none⟩))))] Tryz.func170 rfl Tryz.ntmps170 rfl rfl 1 ?_
    intro B0 m0 K
    refine RunH.adv tb_ok [] rfl rfl (by simp [AllOb, Ob.P, sum_len, sz_sum, one_int, u8V_one]) ?_
    refine RunH.loadS (.av (.val (.map (some mb)))) rfl rfl rfl rfl (fun u hu => hu.fact.2.m) ?_
    refine RunH.adv tb_ok [] rfl rfl (by simp <;> omega) ?_
    refine RunH.go rfl rfl (OpGo.lookupV (es := isE is) (k := x) (.bool (hasD is x)) key_sum und_is zero_bool rfl rfl rfl rfl rfl (fun u hu => (hu.holds 0 _ rfl).2) (getM_is is x)) 2 ?_
    rintro ⟨⟩ m1 hm1
    by_cases hin : hasD is x = true
    · refine RunH.adv tb_ok [true] rfl rfl (by simp [hin] <;> omega) ?_
      refine RunH.ret0 Tryz.func170 rfl fun w hst => ⟨(), rfl, ?_⟩
      have : upL (parL cs sums) (N + 1) is x = is := if_pos hin
      rw [this]
      exact hst.out [] rfl rfl fun u h => ⟨h.1, trivial⟩
    · have hup : upL (parL cs sums) (N + 1) is x = (parL cs sums x).foldl (fun is p => upL (parL cs sums) N is p) (is ++ [x]) := if_neg hin
      rw [hup, parL_eq (by omega)]
      refine RunH.adv tb_ok [false] rfl rfl (by simp [hin] <;> omega) ?_
      refine RunH.loadS (.av (.val (.map (some mb)))) rfl rfl rfl rfl (fun u hu => hu.fact.2.m) ?_
      refine RunH.adv tb_ok [] rfl rfl (by simp <;> omega) ?_
      refine RunH.go rfl rfl (OpGo.mapUpdate (id := 0) (k := x) key_sum und_is rfl rfl rfl rfl rfl rfl) 2 ?_
      rintro ⟨⟩ m2 hm2
      have hset : setM (isE is) x EV.tt.v = isE (is ++ [x]) := setM_is is x (by simpa using hin)
      rw [hset]
      have hlt : ixD sums x < cs.length := by omega
      have hixv : idxOf (fun y => decide (x = y)) sums 0 = (ixD sums x : Int) := by rw [idxOf_ix x sums 0 hx, Nat.zero_add]
      have hpp := hpar _ hlt
      have hmem := List.getElem_mem hlt
      refine RunH.pure (fun u h => h.2.hcs.ptr hlt) fun hptr => ?_
      refine RunH.adv tb_ok [] rfl rfl (by simp <;> omega) ?_
      refine RunH.draw rfl [(1, some (.box m0 [.val (sumV x)] 39))] rfl 9 rfl rfl ?_
      refine RunD.adv tb_ok (by kernel_rfl) [] rfl rfl (by simp <;> omega) ?_
      refine RunD.loadG (by kernel_rfl) (i := 0) (slE LA cs.length lc) rfl rfl rfl rfl rfl rfl (fun u hu => hu.fact.2.l) ?_
      refine RunD.loadG (by kernel_rfl) (i := 1) (slE SA sums.length sc) rfl rfl rfl rfl rfl rfl (fun u hu => hu.fact.2.s) ?_
      refine RunD.adv tb_ok (by kernel_rfl) [] rfl rfl (by simp <;> omega) ?_
      refine RunD.gives (i := 3) (intE (ixD sums x)) rfl (by kernel_rfl) rfl rfl rfl rfl Tryz.call142 (fun u hu => by have := idxD_spec u SA sc sums hu.fact.2.hsums x; rw [hixv] at this; exact this) rfl (fun _ h => h) ?_
      intro m3 hm3
      refine RunD.adv tb_ok (by kernel_rfl) [] rfl rfl (by simp [hptr] <;> omega) ?_
      refine RunD.loadG (by kernel_rfl) (i := 6) (slE cs[ixD sums x].ps.A cs[ixD sums x].ps.l.length cs[ixD sums x].ps.c) rfl rfl rfl rfl rfl rfl (fun u hu => Sl.parents hu.fact.2.hcs hlt) ?_
      refine RunD.adv tb_ok (by kernel_rfl) [] rfl rfl (by simp <;> omega) ?_
      refine RunD.done (.inl rfl) (by kernel_rfl) ?_
      generalize cs[ixD sums x] = q at *
      refine RunH.adv tb_ok [] rfl rfl (by simp <;> omega) ?_
      refine RunH.loop (α := Nat × List Sum) (fun y => [(4, .av (.val (.pointer (some ⟨bu, 0, none⟩)))), (19, slE q.ps.A q.ps.l.length q.ps.c), (20, intE q.ps.l.length), (21, intE y.1)]) (fun y => [(0, mapE mb sumV (isE y.2))])
        (fun y u => (K u ∧ AncP u b7 bl bs bu mb LA lc cs SA sc sums) ∧ y.1 ≤ q.ps.l.length ∧ (q.ps.l.take y.1).foldl (fun is p => upL (parL cs sums) N is p) (is ++ [x]) = y.2) (fun y => q.ps.l.length - y.1) (0, is ++ [x]) rfl rfl (fun u hu => ⟨hu, Nat.zero_le _, rfl⟩) ?_
      rintro ⟨j, is2⟩ m4
      refine RunH.pure (fun u hu => hu.2) fun ⟨hj, hfold⟩ => ?_
      dsimp only at hj hfold ⊢
      by_cases hjt : j < q.ps.l.length
      · have hts : q.ps.l.take (j + 1) = q.ps.l.take j ++ [q.ps.l[j]] := List.take_succ_eq_append_getElem hjt
        have hpj := hpp _ (List.getElem_mem hjt)
        have hpj1 : hasD sums q.ps.l[j] = true := by
          unfold hasD at hpj ⊢
          rw [List.any_eq_true] at hpj ⊢
          obtain ⟨z, hz, hz2⟩ := hpj
          exact ⟨z, List.mem_of_mem_take hz, hz2⟩
        have hpj2 := ixD_take hpj
        refine RunH.pure (fun u h => (h.1.2.hps q hmem).ptr hjt) fun hptr2 => ?_
        refine RunH.pure (fun u h => (h.1.2.hps q hmem).small) fun hsm => ?_
        refine RunH.adv tb_ok [true] rfl rfl (by simp [hptr2] <;> omega) ?_
        refine RunH.loadS (sumE q.ps.l[j]) rfl rfl rfl rfl (fun u hu => (hu.fact.1.2.hps q hmem).load hjt) ?_
        refine RunH.adv tb_ok [] rfl rfl (by simp [AllOb, Ob.P, sum_len, sz_sum, one_int, u8V_one]) ?_
        refine RunH.loadS (.av (.val (.func (.func 170) #[] #[.pointer (some ⟨b7, 0, none⟩), .pointer (some ⟨bl, 0, none⟩), .pointer (some ⟨bs, 0, none⟩), .pointer (some ⟨bu, 0, none⟩)]))) rfl rfl rfl rfl (fun u hu => hu.fact.1.2.f) ?_
        refine RunH.adv tb_ok [] rfl rfl (by simp <;> omega) ?_
        refine RunH.doesB [(0, 0)] 3 (hc := Tryz.call170) (ho := rfl) (hw := rfl) (hd := rfl) (hf := rfl) (hes := rfl) (hσ := rfl) (hn := rfl) (hV := fun _ => rfl) (hG := fun _ => rfl) (e := fun _ : Unit => .av (.val (.tuple #[]))) (hC := ih q.ps.l[j] is2 hpj1 (by omega)) (hp := fun u hu => hu.fact.1.2) ?_
        rintro ⟨⟩ m5 hm5
        refine RunH.drop ?_
        refine RunH.adv tb_ok [] rfl rfl (by simp <;> omega) ?_
        exact RunH.again (j + 1, upL (parL cs sums) N is2 q.ps.l[j]) (.head _) rfl rfl (by show q.ps.l.length - (j + 1) < q.ps.l.length - j; omega) fun u hu => ⟨hu.1, hjt, by show (q.ps.l.take (j + 1)).foldl _ _ = _; rw [hts, List.foldl_append, hfold]; rfl⟩
      · have hj' : j = q.ps.l.length := by omega
        rw [hj', List.take_length] at hfold
        refine RunH.adv tb_ok [false] rfl rfl (by simp <;> omega) ?_
        refine RunH.fin0 Tryz.func170 rfl fun w hst => ⟨(), rfl, ?_⟩
        rw [hfold]
        exact hst.out [] rfl rfl fun u h => ⟨h.1.1, trivial⟩

theorem anc_spec (LA : Option Addr) (lc : Nat) (cs : List Com) (SA : Option Addr) (sc : Nat) (sums : List Sum) (hlen : sums.length = cs.length)
    (hpar : ∀ i (h : i < cs.length), ∀ p ∈ cs[i].ps.l, hasD (sums.take i) p = true) (x : Sum) (hx : hasD sums x = true) :
    Does Tryz.prog tb 131 [.slice LA cs.length lc, .slice SA sums.length sc, sumV x] [] (fun u => Sl kCom u LA lc cs ∧ (∀ q ∈ cs, Sl kSum u q.ps.A q.ps.c q.ps.l) ∧ Sl kSum u SA sc sums)
      (fun mb : Nat => .map (some mb)) (fun mb => [(0, mapE mb sumV (isE (upL (parL cs sums) cs.length [] x)))]) (fun _ _ _ => True) := by
  have hix := ixD_lt hx
  refine Does.enter tb_ok [(0, slE LA cs.length lc), (1, slE SA sums.length sc), (2, sumE x)] Tryz.func131 rfl Tryz.ntmps131 rfl rfl 0 ?_
  intro B0 m0 K
  refine RunH.adv tb_ok [] rfl rfl (by simp [AllOb, Ob.P, sum_len, sz_sum, one_int, u8V_one]) ?_
  refine RunH.go rfl rfl (OpGo.makeMap 3 sumV rfl) 4 ?_
  rintro ⟨⟩ m1 hm1
  refine RunH.adv tb_ok [] rfl rfl (by simp [AllOb, Ob.P, sum_len, sz_sum, one_int, u8V_one]) ?_
  refine RunH.doesB [(0, 3)] 7 (hc := Tryz.call170) (ho := rfl) (hw := rfl) (hd := rfl) (hf := rfl) (hes := rfl) (hσ := rfl) (hn := rfl) (hV := fun _ => rfl) (hG := fun _ => rfl) (e := fun _ : Unit => .av (.val (.tuple #[]))) (hC := up_spec m1 m0 (m0 + 1) (m1 + 1) (m0 + 1 + 1 + 1) LA lc cs SA sc sums hlen hpar cs.length x [] hx (by omega)) (hp := fun u hu => by
    exact ⟨hu.loadBox (id := 4) (e := .av (.val (.map (some (m0 + 1 + 1 + 1))))) tb_ok rfl rfl u (Ext.rfl' u), hu.loadBox (id := 0) (e := slE LA cs.length lc) tb_ok rfl rfl u (Ext.rfl' u), hu.loadBox (id := 1) (e := slE SA sums.length sc) tb_ok rfl rfl u (Ext.rfl' u),
      hu.loadBox (id := 5) (e := .av (.fn (.func 170) [] [.box 4 m1, .box 0 m0, .box 1 (m0 + 1), .box 5 (m1 + 1)])) tb_ok rfl rfl u (Ext.rfl' u), hu.fact.2.1, hu.fact.2.2.1, hu.fact.2.2.2⟩) ?_
  rintro ⟨⟩ m2 hm2
  refine RunH.drop ?_
  refine RunH.adv tb_ok [] rfl rfl (by simp <;> omega) ?_
  refine RunH.ret1 Tryz.func131 rfl rfl fun w hst => ⟨m0 + 1 + 1 + 1, rfl, hst.out [(0, 3)] rfl rfl fun u h => ⟨h.1, trivial⟩⟩
end Go.Proofs.YtagnkcdhenilbaaGreatDoor

namespace Go.Proofs.YtagnkcdhenilbaaGreatDoor
open Go V RowKit

theorem zeroCells_one (z : Array Value) (hz : 0 < z.size) (h : ∀ u ∈ z.toList, u.oneCell' = true) (n : Nat) : ∀ u ∈ (Builtin.zeroCells z n).toList, u.oneCell' = true := by
  intro u hu
  unfold Builtin.zeroCells at hu
  simp only [Array.toList_map, List.mem_map] at hu
  obtain ⟨i, _, rfl⟩ := hu
  have hlt : i % z.size < z.size := Nat.mod_lt _ hz
  rw [getElem!_pos z (i % z.size) hlt]
  exact h _ (by simp)

def keepL (p : Sum → Bool) (l : List Sum) : List Sum := l.filter fun x => !p x

theorem keepL_none (p : Sum → Bool) (l : List Sum) (h : l.any p = false) : keepL p l = l := by
  unfold keepL
  rw [List.filter_eq_self]
  intro x hx
  rw [List.any_eq_false] at h
  simpa using h x hx

theorem keepL_len (p : Sum → Bool) (l : List Sum) : (keepL p l).length ≤ l.length := List.length_filter_le _ _

/-- The list while it is gone through: what is kept of the first j, then what was there. -/
structure Mid (p : Sum → Bool) (l : List Sum) (j : Nat) (L : List Sum) : Prop where
  len : L.length = l.length
  pre : L.take (keepL p (l.take j)).length = keepL p (l.take j)
  suf : L.drop j = l.drop j

theorem Mid.at {p : Sum → Bool} {l L : List Sum} {j : Nat} (h : Mid p l j L) (hj : j < l.length) : ∃ hL : j < L.length, L[j] = l[j] := by
  have hL : j < L.length := by rw [h.len]; exact hj
  refine ⟨hL, ?_⟩
  have h1 := congrArg (fun q => q[0]?) h.suf
  simp only [List.getElem?_drop, Nat.add_zero] at h1
  rw [List.getElem?_eq_getElem hL, List.getElem?_eq_getElem hj] at h1
  exact Option.some.inj h1

theorem keep_take (p : Sum → Bool) (l : List Sum) (j : Nat) (hj : j < l.length) : keepL p (l.take (j + 1)) = keepL p (l.take j) ++ (if p l[j] = true then [] else [l[j]]) := by
  unfold keepL
  rw [List.take_succ_eq_append_getElem hj, List.filter_append]
  congr 1
  by_cases h : p l[j] = true <;> simp [h]

theorem Mid.skip {p : Sum → Bool} {l L : List Sum} {j : Nat} (h : Mid p l j L) (hj : j < l.length) (hp : p l[j] = true) : Mid p l (j + 1) L := by
  have hk := keep_take p l j hj
  rw [if_pos hp, List.append_nil] at hk
  refine ⟨h.len, by rw [hk]; exact h.pre, ?_⟩
  have := congrArg (List.drop 1) h.suf
  rw [List.drop_drop, List.drop_drop] at this
  exact this

theorem Mid.put {p : Sum → Bool} {l L : List Sum} {j : Nat} (h : Mid p l j L) (hj : j < l.length) (hp : ¬ p l[j] = true) : Mid p l (j + 1) (L.set (keepL p (l.take j)).length l[j]) := by
  have hk := keep_take p l j hj
  rw [if_neg hp] at hk
  have hle := keepL_len p (l.take j)
  rw [List.length_take] at hle
  generalize hF : keepL p (l.take j) = F at *
  refine ⟨by rw [List.length_set]; exact h.len, ?_, ?_⟩
  · rw [hk, List.length_append, List.length_singleton]
    have hFL : F.length < L.length := by rw [h.len]; omega
    rw [List.take_succ_eq_append_getElem (by rw [List.length_set]; exact hFL), List.getElem_set_self, List.take_set_of_le (Nat.le_refl _)]
    have := h.pre
    rw [hF] at this
    rw [this]
  · have hlt : F.length < j + 1 := by omega
    rw [List.drop_set_of_lt hlt]
    have := congrArg (List.drop 1) h.suf
    rw [List.drop_drop, List.drop_drop] at this
    exact this

theorem keep_start {p : Sum → Bool} {l : List Sum} {k : Nat} (hk : k < l.length) (hn : (l.take k).any p = false) (hp : p l[k] = true) : keepL p (l.take (k + 1)) = l.take k := by
  rw [keep_take p l k hk, if_pos hp, List.append_nil, keepL_none p _ hn]

theorem Mid.start {p : Sum → Bool} {l : List Sum} {k : Nat} (hk : k < l.length) (hn : (l.take k).any p = false) (hp : p l[k] = true) : Mid p l (k + 1) l := by
  refine ⟨rfl, ?_, rfl⟩
  rw [keep_start hk hn hp, List.length_take, Nat.min_eq_left (by omega)]

theorem first_of {p : Sum → Bool} : ∀ {l : List Sum}, l.any p = true → ∃ k, ∃ h : k < l.length, (l.take k).any p = false ∧ p l[k] = true
  | [], h => by cases h
  | x :: r, h => by
    by_cases hx : p x = true
    · exact ⟨0, by simp, rfl, hx⟩
    · rw [List.any_cons] at h
      obtain ⟨k, h1, h2, h3⟩ := first_of (l := r) (by simpa [hx] using h)
      exact ⟨k + 1, by simpa using h1, by rw [List.take_succ_cons, List.any_cons, h2]; simp [hx], by simpa using h3⟩

set_option maxRecDepth 10000 in
theorem delF_spec (A : Option Addr) (c : Nat) (l : List Sum) (g : FuncId) (f1 c1 : List Value) (p : Sum → Bool) (hn : l.length ≤ 1000000) :
    Does Tryz.prog tb 132 [.slice A l.length c, .func (.func g) f1.toArray c1.toArray] [(0, rowE kSum A c l)] (fun u => Fun1 kSum u g f1 c1 l p) (fun _ : Unit => .slice A (keepL p l).length c) (fun _ => [(0, rowE kSum A c (keepL p l))]) (fun _ _ _ => True) := by
  have hl : lim = 140737488351232 := rfl
  refine Does.enter tb_ok [(0, rowS 0 A l.length c), (1, .av (.val (.func (.func g) f1.toArray c1.toArray)))] Tryz.func132 rfl Tryz.ntmps132 rfl rfl 1 ?_
  intro B0 m0 K
  refine RunH.adv tb_ok [] rfl rfl (by simp <;> omega) ?_
  refine RunH.gives (ho := rfl) (hw := rfl) (hd := rfl) (hf := rfl) (hes := rfl) (hc := Tryz.call169) (e := intE (idxOf p l 0)) (hC := fun u hu => idxFuncD u A c l (Sl.own (B := B0) (hu.row (κ := kSum) (id := 0) (l := l) rfl) (by omega)) g f1 c1 p hu.fact.2) ?_
  intro m1 hm1
  cases hany : l.any p with
  | false =>
    rw [idxOf_none p l 0 hany, keepL_none p l hany]
    refine RunH.adv tb_ok [true] rfl rfl (by simp <;> omega) ?_
    refine RunH.ret1 Tryz.func132 rfl rfl fun w hst => ⟨(), rfl, hst.out [] rfl rfl fun u h => ⟨h.1, trivial⟩⟩
  | true =>
    obtain ⟨k, hk, hn1, hpk⟩ := first_of hany
    have hi := idxOf_at p l 0 k hk hn1 hpk
    rw [Nat.zero_add] at hi
    rw [hi]
    have hks := keep_start hk hn1 hpk
    have hkl : (keepL p (l.take (k + 1))).length = k := by rw [hks, List.length_take]; omega
    refine RunH.pureS (fun w hst => hst.ptr (κ := kSum) (id := 0) (l := l) rfl (by rintro rfl; cases hk)) fun hptr => ?_
    refine RunH.pure (fun u h => h.2.enter) fun henter => ?_
    refine RunH.adv tb_ok [false] rfl rfl (by simp <;> omega) ?_
    refine RunH.loop (α := Nat × List Sum) (fun y => [(0, rowS 0 A l.length c), (1, .av (.val (.func (.func g) f1.toArray c1.toArray))), (5, intE (keepL p (l.take y.1)).length), (6, intE y.1)]) (fun y => [(0, rowE kSum A c y.2)])
      (fun y u => (K u ∧ Fun1 kSum u g f1 c1 l p) ∧ k < y.1 ∧ y.1 ≤ l.length ∧ (keepL p (l.take y.1)).length < y.1 ∧ Mid p l y.1 y.2) (fun y => l.length - y.1) (k + 1, l)
      (by show V.Sub [(0, rowS 0 A l.length c), (1, .av (.val (.func (.func g) f1.toArray c1.toArray))), (5, intE ((keepL p (l.take (k + 1))).length : Nat)), (6, intE ((k + 1 : Nat) : Int))] _; rw [hkl]; rfl) rfl (fun u hu => ⟨hu, Nat.lt_succ_self k, hk, by show (keepL p (l.take (k + 1))).length < k + 1; omega, Mid.start hk hn1 hpk⟩) ?_
    rintro ⟨j, L⟩ m2
    refine RunH.pure (fun u hu => hu.2) fun ⟨hkj, hj, hij, hmid⟩ => ?_
    dsimp only at hkj hj hij hmid ⊢
    have hLl := hmid.len
    by_cases hlt : j < l.length
    · obtain ⟨hL, hLj⟩ := hmid.at hlt
      refine RunH.adv tb_ok [true] rfl rfl (by simp [hptr] <;> omega) ?_
      refine RunH.loadS (sumE l[j]) rfl rfl rfl rfl (fun u hu => by
        have h := (Sl.own (B := B0) (hu.row (κ := kSum) (id := 0) (l := L) rfl) (by omega)).load hL
        rw [hLj] at h
        exact h) ?_
      refine RunH.adv tb_ok [] rfl rfl (by simp [AllOb, Ob.P, sum_len, sz_sum, one_int, u8V_one]) ?_
      refine RunH.gives (g := g) (f1 := f1) (c1 := c1) (boolE (p l[j])) rfl rfl rfl rfl rfl henter (fun u hu => hu.fact.1.2.says _ (List.getElem_mem hlt) u (Ext.rfl' u)) ?_
      intro m3 hm3
      by_cases hp : p l[j] = true
      · refine RunH.adv tb_ok [false] rfl rfl (by simp [hp] <;> omega) ?_
        have hk2 : keepL p (l.take (j + 1)) = keepL p (l.take j) := by rw [keep_take p l j hlt, if_pos hp, List.append_nil]
        exact RunH.again (j + 1, L) (.head _) (by show V.Sub [(0, rowS 0 A l.length c), (1, .av (.val (.func (.func g) f1.toArray c1.toArray))), (5, intE ((keepL p (l.take (j + 1))).length : Nat)), (6, intE ((j + 1 : Nat) : Int))] _; rw [hk2]; rfl) rfl (by show l.length - (j + 1) < l.length - j; omega) fun u hu => ⟨hu.1, by show k < j + 1; omega, hlt, by show (keepL p (l.take (j + 1))).length < j + 1; rw [hk2]; omega, hmid.skip hlt hp⟩
      · refine RunH.adv tb_ok [true] rfl rfl (by simp [hp, hptr] <;> omega) ?_
        have hk2 : (keepL p (l.take (j + 1))).length = (keepL p (l.take j)).length + 1 := by rw [keep_take p l j hlt, if_neg hp, List.length_append, List.length_singleton]
        refine RunH.storeK (κ := kSum) (id := 0) (l := L) (keepL p (l.take j)).length l[j] rfl rfl rfl rfl rfl rfl (by omega) rfl rfl ?_
        intro m4 hm4
        refine RunH.adv tb_ok [] rfl rfl (by simp <;> omega) ?_
        exact RunH.again (j + 1, L.set (keepL p (l.take j)).length l[j]) (.head _) (by show V.Sub [(0, rowS 0 A l.length c), (1, .av (.val (.func (.func g) f1.toArray c1.toArray))), (5, intE ((keepL p (l.take (j + 1))).length : Nat)), (6, intE ((j + 1 : Nat) : Int))] _; rw [hk2]; rfl) rfl (by show l.length - (j + 1) < l.length - j; omega) fun u hu => ⟨hu.1, by show k < j + 1; omega, hlt, by show (keepL p (l.take (j + 1))).length < j + 1; rw [hk2]; omega, hmid.put hlt hp⟩
    · have hj' : j = l.length := by omega
      subst hj'
      rw [List.take_length] at hij
      have hpre := hmid.pre
      rw [List.take_length] at hpre ⊢
      generalize hFe : keepL p l = F at *
      refine RunH.raw (id := 0) rfl (by omega) ?_
      intro g0 cap cur hv hc hmx hcs ht
      injection hv with e1 e2 e3
      subst e1; subst e3
      rw [hLl] at hc ht
      have hsz : kSum.sz = 32 := rfl
      rw [hsz] at hcs ht
      obtain ⟨q, hq⟩ : ∃ q, l.length - F.length = q + 1 := ⟨l.length - F.length - 1, by omega⟩
      refine RunH.adv tb_ok [false] rfl rfl (by simp <;> omega) ?_
      have hz : (Tryz.t39).zero = some (sumV Sum.zero) := by kernel_rfl
      have hzc : (sumV Sum.zero).cells.size = 32 := (sumV_ok Sum.zero).1
      have hzl : (Builtin.zeroCells (sumV Sum.zero).cells (q + 1)).toList.length = (q + 1) * 32 := by rw [Array.length_toList, size_zeroCells, hzc]
      refine RunH.go rfl rfl (OpGo.clearRaw (id := 0) (g := g0) (q := q) (off := F.length * 32) (i := Tryz.t39) (z := sumV Sum.zero) (c := c - F.length) tb_ok rfl rfl hz rfl ?_ rfl (zeroCells_one _ (by show 0 < (sumV Sum.zero).cells.size; rw [hzc]; decide) (sumV_ok Sum.zero).2 _) ?_) 1 ?_
      · show Value.slice (subA (some ⟨g0, 0, none⟩) ((F.length : Nat) : Int).toNat c 32) (l.length - ((F.length : Nat) : Int).toNat) (c - ((F.length : Nat) : Int).toNat) = _
        rw [Int.toNat_natCast, hq]
        unfold subA
        rw [if_neg (by omega), Option.map_some, Addr.add_lit, Nat.zero_add]
      · rw [hzl, hcs]; omega
      rintro ⟨⟩ m3 hm3
      generalize (Builtin.zeroCells (sumV Sum.zero).cells (q + 1)).toList = zc at *
      refine RunH.cook (id := 0) (g := g0) (sz := 32) F.length c rfl (by omega) hmx (by rw [putC_size (by rw [hzl, hcs]; omega), hcs]) ?_
      have hrow : (HE.row (.slice (some ⟨g0, 0, none⟩) F.length c) kSum.T 32 F.length ((putC cur (F.length * 32) zc).toList.take (F.length * 32))) = HE.row (.slice (some ⟨g0, 0, none⟩) F.length c) kSum.T kSum.sz F.length (F.flatMap kSum.cs) := by
        have e : (putC cur (F.length * 32) zc).toList.take (F.length * 32) = F.flatMap kSum.cs := by
          rw [putC_take (by rw [hcs]; omega)]
          have h1 : cur.toList.take (F.length * 32) = (L.flatMap kSum.cs).take (F.length * 32) := by
            rw [← ht, List.take_take, Nat.min_eq_left (by omega)]
          have h2 : L.flatMap kSum.cs = F.flatMap kSum.cs ++ (L.drop F.length).flatMap kSum.cs := by
            rw [← List.flatMap_append]
            congr 1
            conv => lhs; rw [← List.take_append_drop F.length L]
            rw [hpre]
          rw [h1, h2, List.take_left' (by rw [kSum.flat_len, hsz])]
        rw [e, hsz]
      refine RunH.adv tb_ok [] rfl rfl (by simp <;> omega) ?_
      refine RunH.ret1 Tryz.func132 rfl rfl fun w hst => ⟨(), rfl, ?_⟩
      have h := hst.sel (Sel.of (G := [(0, some (HE.row (.slice (some ⟨g0, 0, none⟩) F.length c) kSum.T 32 F.length ((putC cur (F.length * 32) zc).toList.take (F.length * 32))))]) [] rfl rfl)
      rw [hrow] at h
      exact h.mono fun u _ hu => ⟨hu.1.1, trivial⟩
end Go.Proofs.YtagnkcdhenilbaaGreatDoor

namespace Go.Proofs.YtagnkcdhenilbaaGreatDoor
open Go V RowKit

/-- What a history that is right says of its commits. -/
theorem histGo_ok : ∀ (r : List Com) (out S : List Sum), histGo r out = (0, S) → (∃ T, S = out ++ T ∧ T.length = r.length) ∧ ∀ i (h : i < r.length), ∀ p ∈ r[i].ps.l, hasD (S.take (out.length + i)) p = true
  | [], out, S, h => by
    have h : (0, out) = ((0 : Int), S) := h
    injection h with _ h
    subst h
    exact ⟨⟨[], by simp⟩, fun i h => by cases h⟩
  | x :: r, out, S, h => by
    rw [hist_step] at h
    split at h
    · split at h
      · cases h
      · rename_i hp
        split at h
        · cases h
        · obtain ⟨⟨T, hT, hTl⟩, ih⟩ := histGo_ok r _ S h
          refine ⟨⟨comS x.root x.ps.l x.note :: T, by rw [hT]; simp, by simp [hTl]⟩, ?_⟩
          intro i hi p hpm
          cases i with
          | zero =>
            have hpm : p ∈ x.ps.l := hpm
            have : S.take (out.length + 0) = out := by rw [hT, Nat.add_zero, List.append_assoc, List.take_left]
            rw [this]
            have h2 : (x.ps.l.any fun p => !hasD out p) = false := by simpa using hp
            rw [List.any_eq_false] at h2
            simpa using h2 p hpm
          | succ i =>
            have := ih i (by simpa using hi) p (by simpa using hpm)
            rw [List.length_append, List.length_singleton, Nat.add_assoc, Nat.add_comm 1 i] at this
            exact this
    · rename_i hc
      injection h with h1 h2
      exact absurd h1 hc

theorem hist_ok {cs : List Com} {S : List Sum} (h : hist cs = (0, S)) : S.length = cs.length ∧ cs.length ≤ 60 ∧ ∀ i (h : i < cs.length), ∀ p ∈ cs[i].ps.l, hasD (S.take i) p = true := by
  unfold hist at h
  split at h
  · cases h
  · rename_i hb
    obtain ⟨⟨T, hT, hTl⟩, h2⟩ := histGo_ok cs [] S h
    refine ⟨by rw [hT]; simpa using hTl, by omega, fun i hi p hp => ?_⟩
    have := h2 i hi p hp
    simpa using this

set_option maxRecDepth 10000 in
theorem bases1_spec (w : World) (b1 b2 ma mb : Nat) (A B : List Sum) (s : Sum)
    (h1 : ∀ u, Ext w u → (loadVar 166 ⟨b1, 0, none⟩).run Tryz.prog u = .ok (.map (some ma)) u) (h2 : ∀ u, Ext w u → (loadVar 166 ⟨b2, 0, none⟩).run Tryz.prog u = .ok (.map (some mb)) u)
    (hA : ∀ u, Ext w u → u.heap[ma]? = some (mapO sumV (isE A))) (hB : ∀ u, Ext w u → u.heap[mb]? = some (mapO sumV (isE B))) :
    Gives Tryz.prog 136 [sumV s, .pointer (some ⟨b1, 0, none⟩), .pointer (some ⟨b2, 0, none⟩)] w (boolE (!hasD A s || !hasD B s)) := by
  refine enterH tb_ok [(0, sumE s), (1, .av (.val (.pointer (some ⟨b1, 0, none⟩)))), (2, .av (.val (.pointer (some ⟨b2, 0, none⟩))))] Tryz.func136 rfl Tryz.ntmps136 rfl rfl ?_
  refine RunH.adv tb_ok [] rfl rfl (by simp [AllOb, Ob.P, sum_len, sz_sum, one_int, u8V_one]) ?_
  refine RunH.load (.av (.val (.map (some ma)))) rfl rfl rfl rfl (fun u hu => h1 u hu) ?_
  refine RunH.adv tb_ok [] rfl rfl (by simp <;> omega) ?_
  refine RunH.go rfl rfl (OpGo.lookupV (es := isE A) (k := s) (.bool (hasD A s)) key_sum und_is zero_bool rfl rfl rfl rfl rfl (fun u hu => hA u hu.fact) (getM_is A s)) 1 ?_
  rintro ⟨⟩ m1 hm1
  by_cases ha : hasD A s = true
  · refine RunH.adv tb_ok [false] rfl rfl (by simp [ha] <;> omega) ?_
    refine RunH.load (.av (.val (.map (some mb)))) rfl rfl rfl rfl (fun u hu => h2 u hu) ?_
    refine RunH.adv tb_ok [] rfl rfl (by simp <;> omega) ?_
    refine RunH.go rfl rfl (OpGo.lookupV (es := isE B) (k := s) (.bool (hasD B s)) key_sum und_is zero_bool rfl rfl rfl rfl rfl (fun u hu => hB u hu.fact) (getM_is B s)) 1 ?_
    rintro ⟨⟩ m2 hm2
    refine RunH.adv tb_ok [] rfl rfl (by simp <;> omega) ?_
    refine RunH.ret1 Tryz.func136 rfl rfl fun u hu => ⟨by simp [ha] <;> rfl, hu.fact⟩
  · refine RunH.adv tb_ok [true] rfl rfl (by simp [ha] <;> omega) ?_
    refine RunH.ret1 Tryz.func136 rfl rfl fun u hu => ⟨by simp [ha] <;> rfl, hu.fact⟩

/-- What a call of ancestors sees. -/
abbrev ancL (cs : List Com) (sums : List Sum) (t : Sum) : List Sum := upL (parL cs sums) cs.length [] t

set_option maxRecDepth 10000 in
theorem bases21_spec (w : World) (b1 bl bm : Nat) (LA : Option Addr) (lc : Nat) (cs : List Com) (SA : Option Addr) (sc : Nat) (sums : List Sum) (s t : Sum) (hlen : sums.length = cs.length)
    (hpar : ∀ i (h : i < cs.length), ∀ p ∈ cs[i].ps.l, hasD (sums.take i) p = true) (ht : hasD sums t = true)
    (h1 : ∀ u, Ext w u → (loadVar 39 ⟨b1, 0, none⟩).run Tryz.prog u = .ok (sumV s) u) (h2 : ∀ u, Ext w u → (loadVar 69 ⟨bl, 0, none⟩).run Tryz.prog u = .ok (.slice LA cs.length lc) u) (h3 : ∀ u, Ext w u → (loadVar 71 ⟨bm, 0, none⟩).run Tryz.prog u = .ok (.slice SA sums.length sc) u)
    (hcs : Sl kCom w LA lc cs) (hps : ∀ q ∈ cs, Sl kSum w q.ps.A q.ps.c q.ps.l) (hsm : Sl kSum w SA sc sums) :
    Gives Tryz.prog 138 [sumV t, .pointer (some ⟨b1, 0, none⟩), .pointer (some ⟨bl, 0, none⟩), .pointer (some ⟨bm, 0, none⟩)] w (boolE (!decide (t = s) && hasD (ancL cs sums t) s)) := by
  refine enterH tb_ok [(0, sumE t), (1, .av (.val (.pointer (some ⟨b1, 0, none⟩)))), (2, .av (.val (.pointer (some ⟨bl, 0, none⟩)))), (3, .av (.val (.pointer (some ⟨bm, 0, none⟩))))] Tryz.func138 rfl Tryz.ntmps138 rfl rfl ?_
  refine RunH.adv tb_ok [] rfl rfl (by simp [AllOb, Ob.P, sum_len, sz_sum, one_int, u8V_one]) ?_
  refine RunH.draw rfl [(0, some (.box w.heap.size [.val (sumV t)] 39))] rfl 12 rfl rfl ?_
  refine RunD.adv tb_ok (by kernel_rfl) [] rfl rfl (by simp <;> omega) ?_
  refine RunD.load (by kernel_rfl) (i := 1) (sumE s) rfl rfl rfl rfl rfl rfl (fun u hu => h1 u hu) ?_
  by_cases hts : t = s
  · refine RunD.read (by kernel_rfl) (i := 2) .ff rfl rfl rfl rfl rfl rfl (fun u a h hag => by
      have e : EV.ff.v = (EV.av (.val (.bool (!decide (t = s))))).v := by simp [hts, EV.v, AV.v]
      rw [e]
      exact op_neq hag rfl rfl rfl rfl rfl (by kernel_rfl) (eq_sum u 9998 _ _)) ?_
    refine RunD.adv tb_ok (by kernel_rfl) [] rfl rfl (by simp <;> omega) ?_
    refine RunD.done (.inl rfl) (by kernel_rfl) ?_
    refine RunH.adv tb_ok [] rfl rfl (by simp <;> omega) ?_
    refine RunH.ret1 Tryz.func138 rfl rfl fun u hu => ⟨by simp [hts] <;> rfl, hu.fact⟩
  · refine RunD.read (by kernel_rfl) (i := 2) .tt rfl rfl rfl rfl rfl rfl (fun u a h hag => by
      have e : EV.tt.v = (EV.av (.val (.bool (!decide (t = s))))).v := by simp [hts, EV.v, AV.v]
      rw [e]
      exact op_neq hag rfl rfl rfl rfl rfl (by kernel_rfl) (eq_sum u 9998 _ _)) ?_
    refine RunD.adv tb_ok (by kernel_rfl) [] rfl rfl (by simp <;> omega) ?_
    refine RunD.load (by kernel_rfl) (i := 4) (slE LA cs.length lc) rfl rfl rfl rfl rfl rfl (fun u hu => h2 u hu) ?_
    refine RunD.load (by kernel_rfl) (i := 5) (slE SA sums.length sc) rfl rfl rfl rfl rfl rfl (fun u hu => h3 u hu) ?_
    refine RunD.load (by kernel_rfl) (i := 8) (sumE s) rfl rfl rfl rfl rfl rfl (fun u hu => h1 u hu) ?_
    refine RunD.adv tb_ok (by kernel_rfl) [] rfl rfl (by simp <;> omega) ?_
    refine RunD.doesB (i := 7) [] 2 (fun mb : Nat => .av (.val (.map (some mb)))) rfl (by kernel_rfl) rfl rfl rfl rfl Tryz.call131 (anc_spec LA lc cs SA sc sums hlen hpar t ht) rfl rfl (fun _ => rfl) (fun _ => rfl) (fun u hu => ⟨hcs.ext hu.fact, fun q hq => (hps q hq).ext hu.fact, hsm.ext hu.fact⟩) (fun _ => rfl) (fun _ h => h) ?_
    rintro mb m1 hm1
    refine RunD.adv tb_ok (by kernel_rfl) [] rfl rfl (by simp <;> omega) ?_
    refine RunD.go (i := 9) rfl (by kernel_rfl) rfl (OpGo.lookupV (es := isE (ancL cs sums t)) (k := s) (.bool (hasD (ancL cs sums t) s)) key_sum und_is zero_bool rfl rfl rfl rfl rfl (fun u hu => (hu.holds 1 _ rfl).2) (getM_is _ s)) 2 (fun _ => rfl) (fun _ _ h => h.1) ?_
    rintro ⟨⟩ m2 hm2
    refine RunD.adv tb_ok (by kernel_rfl) [] rfl rfl (by simp <;> omega) ?_
    refine RunD.done (.inl rfl) (by kernel_rfl) ?_
    refine RunH.adv tb_ok [] rfl rfl (by simp <;> omega) ?_
    refine RunH.ret1 Tryz.func138 rfl rfl fun u hu => ⟨by simp [hts] <;> rfl, hu.fact.1⟩

set_option maxRecDepth 10000 in
theorem bases2_spec (w : World) (bc bl bm : Nat) (CA : Option Addr) (cc : Nat) (com : List Sum) (LA : Option Addr) (lc : Nat) (cs : List Com) (SA : Option Addr) (sc : Nat) (sums : List Sum) (s : Sum) (hlen : sums.length = cs.length)
    (hpar : ∀ i (h : i < cs.length), ∀ p ∈ cs[i].ps.l, hasD (sums.take i) p = true) (hcom : ∀ t ∈ com, hasD sums t = true)
    (h1 : ∀ u, Ext w u → (loadVar 71 ⟨bc, 0, none⟩).run Tryz.prog u = .ok (.slice CA com.length cc) u) (h2 : ∀ u, Ext w u → (loadVar 69 ⟨bl, 0, none⟩).run Tryz.prog u = .ok (.slice LA cs.length lc) u) (h3 : ∀ u, Ext w u → (loadVar 71 ⟨bm, 0, none⟩).run Tryz.prog u = .ok (.slice SA sums.length sc) u)
    (hC : Sl kSum w CA cc com) (hcs : Sl kCom w LA lc cs) (hps : ∀ q ∈ cs, Sl kSum w q.ps.A q.ps.c q.ps.l) (hsm : Sl kSum w SA sc sums) :
    Gives Tryz.prog 137 [sumV s, .pointer (some ⟨bc, 0, none⟩), .pointer (some ⟨bl, 0, none⟩), .pointer (some ⟨bm, 0, none⟩)] w (boolE (com.any fun t => !decide (t = s) && hasD (ancL cs sums t) s)) := by
  refine enterH tb_ok [(0, sumE s), (1, .av (.val (.pointer (some ⟨bc, 0, none⟩)))), (2, .av (.val (.pointer (some ⟨bl, 0, none⟩)))), (3, .av (.val (.pointer (some ⟨bm, 0, none⟩))))] Tryz.func137 rfl Tryz.ntmps137 rfl rfl ?_
  refine RunH.adv tb_ok [] rfl rfl (by simp [AllOb, Ob.P, sum_len, sz_sum, one_int, u8V_one]) ?_
  refine RunH.load (slE CA com.length cc) rfl rfl rfl rfl (fun u hu => h1 u hu) ?_
  refine RunH.adv tb_ok [] rfl rfl (by simp <;> omega) ?_
  refine RunH.gives (ho := rfl) (hw := rfl) (hd := rfl) (hf := rfl) (hes := rfl) (hc := Tryz.call129) (e := boolE (com.any fun t => !decide (t = s) && hasD (ancL cs sums t) s)) (hC := fun u hu => containsFuncD u CA cc com (hC.ext hu.fact) 138 [] [.pointer (some ⟨w.heap.size, 0, none⟩), .pointer (some ⟨bl, 0, none⟩), .pointer (some ⟨bm, 0, none⟩)] _
    ⟨Tryz.call138, fun t ht v hv => bases21_spec v w.heap.size bl bm LA lc cs SA sc sums s t hlen hpar (hcom t ht) (fun u' hu' => hu.loadBox (id := 0) (e := sumE s) tb_ok rfl rfl u' (hv.trans' hu')) (fun u' hu' => h2 u' ((hu.fact.trans' hv).trans' hu')) (fun u' hu' => h3 u' ((hu.fact.trans' hv).trans' hu')) (hcs.ext (hu.fact.trans' hv)) (fun q hq => (hps q hq).ext (hu.fact.trans' hv)) (hsm.ext (hu.fact.trans' hv))⟩) ?_
  intro m1 hm1
  refine RunH.adv tb_ok [] rfl rfl (by simp <;> omega) ?_
  refine RunH.ret1 Tryz.func137 rfl rfl fun u hu => ⟨rfl, hu.fact⟩
end Go.Proofs.YtagnkcdhenilbaaGreatDoor
