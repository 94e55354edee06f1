/-
A part of the proofs of the laws of a seat: contracts of functions and lemmas on them; the listed package variables hold what the program's text lays. No further condition.
-/
import Derived.Lib.Overlaps
import Derived.Test.YtagnkcdhenilbaaGreatDoorKPS14
import Derived.Test.YtagnkcdhenilbaaGreatDoorKVMake
set_option linter.unusedVariables false
set_option linter.unusedSectionVars false
set_option linter.unusedSimpArgs false
namespace Go.Proofs.YtagnkcdhenilbaaGreatDoor
open Go V

theorem V.RunH.free {P : Program} {f : Fr} {n : Nat} {S : Stops} {R : Ending → World → Prop} {tb : TT} {B0 : Nat} {I : World → Prop} {H : Heap} {nx m : Nat} {env : SEnv} {todo : List Item} {i : Nat} {x : HE} (hx : lookH H i = some x)
    (h : RunH P f n tb B0 S R todo env ((i, none) :: H) nx m (fun u => I u ∧ x.holds tb B0 u)) : RunH P f n tb B0 S R todo env H nx m I :=
  fun w hm hst => h w hm (hst.free hx)

/-- A text that means entries of one digest, which is x. -/
def goodB (l : List Entry) (x : Sum) (t : Str) : Bool := oneB (foundL l t) && decide (((foundL l t).getD 0 zeroE).sum = x)
/-- What is better. -/
def better (b : Str × Nat) (e : Str) (n : Nat) : Bool := decide (n < b.2) || decide (n = b.2) && decide (orI [(e.length : Int) - b.1.length, cmpS3 e b.1] < 0)
/-- The first good end of a path. -/
def nameStep (l : List Entry) (x : Sum) (b : Str × Nat) (p : Str) : Str × Nat :=
  match (List.range (endsOf p).length).find? (fun j => goodB l x ((endsOf p).getD j [])) with
  | some j => if better b ((endsOf p).getD j []) (j + 1) = true then ((endsOf p).getD j [], j + 1) else b
  | none => b
def nameFold (l : List Entry) (x : Sum) (ps : List Str) : Str × Nat := ps.foldl (nameStep l x) ([], 6)

def nameS (t y : List Entry) (k : Int) (x : Sum) : Str := if namesE t y k x = 0 then (nameFold (kList k t y) x (namesL t y k x)).1 else []

theorem endsOf_last (p : Str) : p ∈ endsOf p := by
  unfold endsOf
  rw [List.mem_map]
  have hne := List.length_pos_iff.2 (words_ne p)
  refine ⟨(words p).length - 1, List.mem_range.2 (by omega), ?_⟩
  rw [Nat.sub_self, List.drop_zero, joinD_words]

theorem foundL_ne {l : List Entry} {e : Entry} (he : e ∈ l) {t : Str} (ht : t ∈ endsOf e.path) : 0 < (foundL l t).length := by
  unfold foundL
  split
  · simp
  · rw [List.length_pos_iff]
    intro h
    rw [List.flatMap_eq_nil_iff] at h
    have := h e he
    unfold found1 at this
    rw [List.map_eq_nil_iff, List.filter_eq_nil_iff] at this
    exact this t ht (by simp)

theorem nameStep_stop {l : List Entry} {x : Sum} {b : Str × Nat} {p : Str} {j : Nat} (hj : j < (endsOf p).length) (hp : ∀ i (h : i < (endsOf p).length), i < j → goodB l x (endsOf p)[i] = false) (hg : goodB l x (endsOf p)[j] = true) :
    nameStep l x b p = if better b (endsOf p)[j] (j + 1) = true then ((endsOf p)[j], j + 1) else b := by
  have hgd : ∀ i (h : i < (endsOf p).length), (endsOf p).getD i [] = (endsOf p)[i] := fun i h => by rw [List.getD_eq_getElem?_getD, List.getElem?_eq_getElem h]; rfl
  have : (List.range (endsOf p).length).find? (fun j => goodB l x ((endsOf p).getD j [])) = some j := by
    rw [List.find?_range_eq_some]
    exact ⟨by rw [hgd j hj]; exact hg, List.mem_range.2 hj, fun i hi => by rw [hgd i (by omega), hp i (by omega) hi]; rfl⟩
  unfold nameStep
  rw [this]
  simp only [hgd j hj]

theorem nameStep_none {l : List Entry} {x : Sum} {b : Str × Nat} {p : Str} (hp : ∀ i (h : i < (endsOf p).length), goodB l x (endsOf p)[i] = false) : nameStep l x b p = b := by
  have hgd : ∀ i (h : i < (endsOf p).length), (endsOf p).getD i [] = (endsOf p)[i] := fun i h => by rw [List.getD_eq_getElem?_getD, List.getElem?_eq_getElem h]; rfl
  have : (List.range (endsOf p).length).find? (fun j => goodB l x ((endsOf p).getD j [])) = none := by
    rw [List.find?_range_eq_none]
    intro i hi
    rw [hgd i hi, hp i hi]; rfl
  unfold nameStep
  rw [this]

theorem endsOf_le (p : Str) (j : Nat) (h : j < (endsOf p).length) : ((endsOf p)[j]).length ≤ p.length := by
  rw [endsOf_get]
  have := joinD_drop_len (words p) ((words p).length - 1 - j)
  rw [joinD_words] at this
  exact this

theorem nameStep_len {l : List Entry} {x : Sum} {b : Str × Nat} {p : Str} {q : Nat} (hb : b.1.length ≤ q) (hp : p.length ≤ q) : (nameStep l x b p).1.length ≤ q := by
  unfold nameStep
  split
  · rename_i j hj
    rw [List.find?_range_eq_some] at hj
    have hlt := List.mem_range.1 hj.2.1
    have h1 := endsOf_le p j hlt
    split
    · show ((endsOf p).getD j []).length ≤ q
      rw [List.getD_eq_getElem?_getD, List.getElem?_eq_getElem hlt]
      exact Nat.le_trans h1 hp
    · exact hb
  · exact hb

theorem nameFold_len {l : List Entry} {x : Sum} {q : Nat} : ∀ (ps : List Str) (b : Str × Nat), b.1.length ≤ q → (∀ p ∈ ps, p.length ≤ q) → (ps.foldl (nameStep l x) b).1.length ≤ q
  | [], b, hb, _ => hb
  | p :: r, b, hb, h => nameFold_len r _ (nameStep_len hb (h p (by simp))) fun p' hp' => h p' (List.mem_cons_of_mem _ hp')

theorem Name_spec (w : World) (s : Spc) (k : Int) (x : Sum) (hM : MaxLen w) (hs : s.ok w) (h1 : s.t.l.length ≤ 1000000) (h2 : s.y.l.length ≤ 1000000) :
    Gives Tryz.prog 31 [s.ev.v, intV k, sumV x] w (.av (.val (.tuple #[strV (nameS s.t.l s.y.l k x), intV (namesE s.t.l s.y.l k x)]))) := by
  have hl : lim = 140737488351232 := rfl
  refine enterH tb_ok [(0, s.ev), (1, intE k), (2, sumE x)] Tryz.func31 rfl Tryz.ntmps31 rfl rfl ?_
  refine RunH.adv tb_ok [] rfl rfl (by simp [AllOb, Ob.P, sum_len, sz_sum, one_int, u8V_one] <;> omega) ?_
  refine RunH.doesB [] 4 (hc := Tryz.call29) (ho := rfl) (hw := rfl) (hd := rfl) (hf := rfl) (hes := rfl) (hσ := rfl) (hn := rfl) (hV := fun _ => rfl) (hG := fun _ => rfl) (e := fun z : Option Addr × Nat => .av (.val (.tuple #[.slice z.1 (namesL s.t.l s.y.l k x).length z.2, intV (namesE s.t.l s.y.l k x)]))) (hC := Names_spec s k x h1 h2) (hp := fun u hu => ⟨hM.ext hu.fact, hs.ext hu.fact⟩) ?_
  rintro ⟨A, c⟩ m1 hm1
  refine RunH.drop ?_
  by_cases he : namesE s.t.l s.y.l k x = 0
  · have hS : nameS s.t.l s.y.l k x = (nameFold (kList k s.t.l s.y.l) x (namesL s.t.l s.y.l k x)).1 := if_pos he
    refine RunH.adv tb_ok [false] rfl rfl (by simp [AllOb, Ob.P, sum_len, sz_sum, one_int, u8V_one, he] <;> omega) ?_
    refine RunH.doesB [] 7 (hc := Tryz.call95) (ho := rfl) (hw := rfl) (hd := rfl) (hf := rfl) (hes := rfl) (hσ := rfl) (hn := rfl) (hV := fun _ => rfl) (hG := fun _ => rfl) (e := fun z : Nat × (Option Addr × Nat) × (Option Addr × Nat) => .av (.val (.pointer (some ⟨z.1, 0, none⟩)))) (hC := own_spec s h1 h2) (hp := fun u hu => hs.ext hu.fact) ?_
    rintro ⟨b, ⟨A1, c1⟩, ⟨B1, c2⟩⟩ m2 hm2
    refine RunH.drop ?_
    refine RunH.adv tb_ok [] rfl rfl (by simp [AllOb, Ob.P, sum_len, sz_sum, one_int, u8V_one] <;> omega) ?_
    refine RunH.free (i := 3) (x := .row (.slice A (namesL s.t.l s.y.l k x).length c) kStr.T kStr.sz (namesL s.t.l s.y.l k x).length ((namesL s.t.l s.y.l k x).flatMap kStr.cs)) rfl ?_
    refine RunH.free (i := 4) (x := .obj b (.cells #[slV A1 s.t.l.length c1, slV B1 s.y.l.length c2] 140)) rfl ?_
    refine RunH.free (i := 5) (x := .row (.slice A1 s.t.l.length c1) kEntry.T kEntry.sz s.t.l.length (s.t.l.flatMap kEntry.cs)) rfl ?_
    refine RunH.free (i := 6) (x := .row (.slice B1 s.y.l.length c2) kEntry.T kEntry.sz s.y.l.length (s.y.l.flatMap kEntry.cs)) rfl ?_
    have hkd : kindE s.t.l s.y.l k = 0 := by
      unfold namesE at he
      split at he
      · assumption
      · exact absurd he ‹_›
    have hL : namesL s.t.l s.y.l k x = pathsOf (kList k s.t.l s.y.l) x := if_pos hkd
    have hsub := kList_sub hkd
    have hlen := kList_len hkd
    have hNl := pathsOf_len (kList k s.t.l s.y.l) x
    rw [← hL] at hNl
    refine RunH.facts (fun u => Ext w u ∧ Sl kStr u A c (namesL s.t.l s.y.l k x) ∧ Wk u b A1 c1 B1 c2 s.t.l s.y.l) (fun u h => ⟨h.1.1.1.1, Sl.own h.1.1.1.2 (by omega), h.1.1.2.2, Sl.own h.1.2 (by omega), Sl.own h.2 (by omega)⟩) ?_
    have hmem0 : ∀ p ∈ namesL s.t.l s.y.l k x, ∃ e ∈ kList k s.t.l s.y.l, e.path = p := fun p h => by
      rw [hL] at h
      unfold pathsOf at h
      obtain ⟨e, h1, h2⟩ := List.mem_map.1 h
      exact ⟨e, (List.mem_filter.1 h1).1, h2⟩
    have hmem : ∀ i (h : i < (namesL s.t.l s.y.l k x).length), ∃ e ∈ kList k s.t.l s.y.l, e.path = (namesL s.t.l s.y.l k x)[i] := fun i h => hmem0 _ (List.getElem_mem h)
    have hnlen : ∀ p ∈ namesL s.t.l s.y.l k x, p.length ≤ 54 := fun p hp => by obtain ⟨e, h1, h2⟩ := hmem0 p hp; rw [← h2]; exact hlen e h1
    clear hmem0
    refine RunH.tell [(4, .av (.box 1 (w.heap.size + 1) 0)), (5, .av (.box 2 (w.heap.size + 2) 0)), (10, .av (.box 7 m2 0)), (11, .av (.box 8 (m2 + 1) 0)), (12, .av (.box 9 (m2 + 2) 0)), (32, slE A (namesL s.t.l s.y.l k x).length c), (33, intE (namesL s.t.l s.y.l k x).length), (34, intE 0)]
      [(1, some (.box (w.heap.size + 1) [.val (intV k)] 3)), (2, some (.box (w.heap.size + 2) [.val (sumV x)] 39)), (7, some (.box m2 [.fn (.func 89) [.val (.pointer (some ⟨b, 0, none⟩))] []] 120)), (8, some (.box (m2 + 1) [.val (strV [])] 9)), (9, some (.box (m2 + 2) [.val (intV 6)] 3))] [] rfl rfl rfl 10 ?_
    generalize hNL : namesL s.t.l s.y.l k x = NL at *
    generalize hLL : kList k s.t.l s.y.l = L at *
    refine RunH.defs0 ?_
    refine RunH.loopD (α := Nat × List Nat) (fun y => y.2) (fun y => [(4, .av (.box 1 (w.heap.size + 1) 0)), (5, .av (.box 2 (w.heap.size + 2) 0)), (10, .av (.box 7 m2 0)), (11, .av (.box 8 (m2 + 1) 0)), (12, .av (.box 9 (m2 + 2) 0)), (32, slE A NL.length c), (33, intE NL.length), (34, intE y.1)])
      (fun y => [(1, some (.box (w.heap.size + 1) [.val (intV k)] 3)), (2, some (.box (w.heap.size + 2) [.val (sumV x)] 39)), (7, some (.box m2 [.fn (.func 89) [.val (.pointer (some ⟨b, 0, none⟩))] []] 120)), (8, some (.box (m2 + 1) [.val (strV (nameFold L x (NL.take y.1)).1)] 9)), (9, some (.box (m2 + 2) [.val (intV (nameFold L x (NL.take y.1)).2)] 3))])
      (fun y u => Def tb w.heap.size y.2 (fun u => Ext w u ∧ Sl kStr u A c NL ∧ Wk u b A1 c1 B1 c2 s.t.l s.y.l) u ∧ y.1 ≤ NL.length) (fun y => NL.length - y.1) (0, []) rfl rfl rfl (fun u h => ⟨h, Nat.zero_le _⟩) ?_
    rintro ⟨i, ds⟩ m3
    refine RunH.pure (fun w' h => h.2) fun (hi : i ≤ NL.length) => ?_
    by_cases hlt : i < NL.length
    · have hts : NL.take (i + 1) = NL.take i ++ [NL[i]] := List.take_succ_eq_append_getElem hlt
      have hfs : nameFold L x (NL.take (i + 1)) = nameStep L x (nameFold L x (NL.take i)) NL[i] := by unfold nameFold; rw [hts, List.foldl_append]; rfl
      obtain ⟨e, heL, hep⟩ := hmem i hlt
      have hpl : NL[i].length ≤ 54 := by rw [← hep]; exact hlen e heL
      refine RunH.pure (fun w' h => h.1.fact.2.1.ptr hlt) fun hptr => ?_
      refine RunH.adv tb_ok [true] rfl rfl (by simp [AllOb, Ob.P, sum_len, sz_sum, one_int, u8V_one, hptr] <;> omega) ?_
      refine RunH.loadS (strE NL[i]) rfl rfl rfl rfl (fun w hst => hst.fact.1.fact.2.1.load hlt) ?_
      refine RunH.adv tb_ok [] rfl rfl (by simp [AllOb, Ob.P, sum_len, sz_sum, one_int, u8V_one] <;> omega) ?_
      refine RunH.doesB [] 12 (hc := Tryz.call96) (ho := rfl) (hw := rfl) (hd := rfl) (hf := rfl) (hes := rfl) (hσ := rfl) (hn := rfl) (hV := fun _ => rfl) (hG := fun _ => rfl) (e := fun b : Nat => .av (.val (.func (.func 151) #[] #[.pointer (some ⟨b, 0, none⟩)]))) (hC := ends_spec NL[i]) (hp := fun _ _ => trivial) ?_
      rintro b2 m4 hm4
      refine RunH.drop ?_
      refine RunH.adv tb_ok [] rfl rfl (by simp [AllOb, Ob.P, sum_len, sz_sum, one_int, u8V_one] <;> omega) ?_
      have hBl : (nameFold L x (NL.take i)).1.length ≤ 54 := nameFold_len _ _ (by simp) fun p hp => hnlen p (List.mem_of_mem_take hp)
      generalize hB : nameFold L x (NL.take i) = B at *
      have hxs : ∀ j (h : j < (endsOf NL[i]).length), 0 < (foundL L (endsOf NL[i])[j]).length := fun j h => foundL_ne heL (by rw [hep]; exact List.getElem_mem h)
      have hft : ∀ t, (foundL L t).length ≤ 16500 := fun t => foundL_len hsub.2 hlen
      refine RunH.rangeFunc (σ := Unit) (nx := 12) (enc := fun x => [strE x]) rfl rfl (fun xs w => Tryz.call151 xs w) (ends1_spec b2 NL[i] (Nat.le_trans hpl (by decide))) (fun _ => rfl) rfl [(0, 11)] (fun _ _ _ => rfl) rfl
        [(4, .av (.box 1 (w.heap.size + 1) 0)), (5, .av (.box 2 (w.heap.size + 2) 0)), (10, .av (.box 7 m2 0)), (11, .av (.box 8 (m2 + 1) 0)), (12, .av (.box 9 (m2 + 2) 0)), (15, .av (.box 10 m3 0))] rfl (fun u => Ext w u ∧ Sl kStr u A c NL ∧ Wk u b A1 c1 B1 c2 s.t.l s.y.l) (fun u h => h.1) (fun u h => hM.ext h.1)
        (fun j (_ : Unit) => [(1, some (.box (w.heap.size + 1) [.val (intV k)] 3)), (2, some (.box (w.heap.size + 2) [.val (sumV x)] 39)), (7, some (.box m2 [.fn (.func 89) [.val (.pointer (some ⟨b, 0, none⟩))] []] 120)), (8, some (.box (m2 + 1) [.val (strV B.1)] 9)), (9, some (.box (m2 + 2) [.val (intV B.2)] 3)), (10, some (.box m3 [.val (intV j)] 3))])
        (fun j _ => ∀ j' (h : j' < (endsOf NL[i]).length), j' < j → goodB L x (endsOf NL[i])[j'] = false) () (fun _ _ h => by cases h) (fun _ _ _ => rfl)
        (fun j _ => [(1, some (.box (w.heap.size + 1) [.val (intV k)] 3)), (2, some (.box (w.heap.size + 2) [.val (sumV x)] 39)), (7, some (.box m2 [.fn (.func 89) [.val (.pointer (some ⟨b, 0, none⟩))] []] 120)), (8, some (.box (m2 + 1) [.val (strV (nameStep L x B NL[i]).1)] 9)), (9, some (.box (m2 + 2) [.val (intV (nameStep L x B NL[i]).2)] 3))])
        (fun j _ => True) (.exit 2) ?_ 15 ?_ ?_
      · intro j hj _ hp l D tt Kg m5 hKg
        have hjb : j < 60 := by have := words_len NL[i]; have h2 := hj; rw [endsOf_len] at h2; omega
        have hxj := hxs j hj
        have htl : ((endsOf NL[i])[j]).length ≤ 54 := Nat.le_trans (endsOf_le _ j hj) hpl
        refine RunH.adv tb_ok [] rfl rfl (by simp [AllOb, Ob.P, sum_len, sz_sum, one_int, u8V_one] <;> omega) ?_
        refine RunH.beginRound (id := 12) rfl rfl ?_
        refine RunH.adv tb_ok [] rfl rfl (by simp [AllOb, Ob.P, sum_len, sz_sum, one_int, u8V_one] <;> omega) ?_
        generalize hx : (endsOf NL[i])[j] = t at *
        refine RunH.doesB [] 16 (hc := Tryz.call89) (ho := rfl) (hw := rfl) (hd := rfl) (hf := rfl) (hes := rfl) (hσ := rfl) (hn := rfl) (hV := fun _ => rfl) (hG := fun _ => rfl) (Gi := []) (pre := fun u => MaxLen u ∧ Wk u b A1 c1 B1 c2 s.t.l s.y.l) (V := fun z : Option Addr × Nat => .slice z.1 (foundL L t).length z.2) (G' := fun z => [(0, rowE kEntry z.1 z.2 (foundL L t))]) (J := fun _ _ _ => True) (e := fun z : Option Addr × Nat => rowS 14 z.1 (foundL L t).length z.2) (hC := by
          have := found_spec b c1 c2 A1 B1 s.t.l s.y.l k t (by rw [hLL]; have := hsub.2; omega) (by rw [hLL]; exact hsub.1) (by rw [hLL]; exact fun y hy => by have := hlen y hy; omega)
          rw [hLL] at this; exact this) (hp := fun u hu => ⟨hM.ext (hKg u hu.fact).1, (hKg u hu.fact).2.2⟩) ?_
        rintro ⟨A2, c3⟩ m6 hm6
        refine RunH.drop ?_
        refine RunH.adv tb_ok [] rfl rfl (by simp [AllOb, Ob.P, sum_len, sz_sum, one_int, u8V_one] <;> omega) ?_
        refine RunH.gives (ho := rfl) (hw := rfl) (hd := rfl) (hf := rfl) (hes := rfl) (hc := Tryz.call92) (e := .av (.val (.tuple #[sumV (oneS (foundL L t)), .bool (oneB (foundL L t))]))) (hC := fun w' hst => one_spec w' A2 c3 _ (Sl.own (hst.row (κ := kEntry) (id := 14) rfl) (by have := hft t; omega)) hxj) ?_
        intro m7 hm7
        by_cases hg : goodB L x t = true
        · have ho : oneB (foundL L t) = true := by unfold goodB at hg; simp only [Bool.and_eq_true] at hg; exact hg.1
          have hsx : oneS (foundL L t) = x := by
            unfold goodB at hg
            simp only [Bool.and_eq_true, decide_eq_true_eq] at hg
            unfold oneS; rw [if_pos ho]; exact hg.2
          rw [hsx]
          have hns := nameStep_stop (b := B) hj (fun i' h' hi' => hp i' h' hi') (by rw [hx]; exact hg)
          rw [hx] at hns
          refine RunH.adv tb_ok [false] rfl rfl (by simp [AllOb, Ob.P, sum_len, sz_sum, one_int, u8V_one, ho] <;> omega) ?_
          refine RunH.read (boolE (!decide (x = x))) rfl rfl rfl rfl (fun w' a _ ha => op_neq ha rfl rfl rfl rfl rfl (by kernel_rfl) (eq_sum w' 9998 _ _)) ?_
          refine RunH.adv tb_ok [false] rfl rfl (by simp [AllOb, Ob.P, sum_len, sz_sum, one_int, u8V_one, ho] <;> omega) ?_
          refine RunH.draw rfl [(8, some (.box (m2 + 1) [.val (strV B.1)] 9)), (9, some (.box (m2 + 2) [.val (intV B.2)] 3)), (10, some (.box m3 [.val (intV (j + 1))] 3))] rfl 21 rfl rfl ?_
          by_cases hlt1 : j + 1 < B.2
          · have hbt : better B t (j + 1) = true := by unfold better; simp [hlt1]
            rw [if_pos hbt] at hns
            refine RunD.adv tb_ok (by kernel_rfl) [true] rfl rfl (by simp [AllOb, Ob.P, sum_len, sz_sum, one_int, u8V_one, hlt1] <;> omega) ?_
            refine RunD.done (.inl rfl) (by kernel_rfl) ?_
            refine RunH.adv tb_ok [] rfl rfl (by simp [AllOb, Ob.P, sum_len, sz_sum, one_int, u8V_one] <;> omega) ?_
            refine RunH.draw rfl [(10, some (.box m3 [.val (intV (j + 1))] 3))] rfl 4 rfl rfl ?_
            refine RunD.adv tb_ok (by kernel_rfl) [] rfl rfl (by simp [AllOb, Ob.P, sum_len, sz_sum, one_int, u8V_one] <;> omega) ?_
            refine RunD.step tb_ok (i := 2) rfl (by kernel_rfl) rfl rfl rfl trivial rfl (fun _ h => h) rfl ?_
            refine RunD.step tb_ok (i := 3) rfl (by kernel_rfl) rfl rfl rfl trivial rfl (fun _ h => h) rfl ?_
            refine RunD.done (.inl rfl) (by kernel_rfl) ?_
            refine RunH.adv tb_ok [] rfl rfl (by simp [AllOb, Ob.P, sum_len, sz_sum, one_int, u8V_one] <;> omega) ?_
            refine RunH.leave (.exit 2 _ rfl) fun w' hst => ⟨rfl, (), trivial, ?_⟩
            rw [hns]
            exact hst.out [] rfl rfl fun u h => h
          · by_cases heq1 : j + 1 = B.2
            · refine RunD.adv tb_ok (by kernel_rfl) [false, true] rfl rfl (by simp [AllOb, Ob.P, sum_len, sz_sum, one_int, u8V_one, hlt1, heq1] <;> omega) ?_
              refine RunD.gives (i := 15) (intE (cmpS3 t B.1)) rfl (by kernel_rfl) rfl rfl rfl rfl Tryz.call98 (fun w' _ => Compare_spec w' t B.1) rfl (fun _ h => h) ?_
              intro m8 hm8
              refine RunD.step tb_ok (i := 16) rfl (by kernel_rfl) rfl rfl rfl trivial rfl (fun _ h => h) ⟨rfl, rfl⟩ ?_
              refine RunD.gives (i := 17) (intE (orI [(t.length : Int) - B.1.length, cmpS3 t B.1])) rfl (by kernel_rfl) rfl rfl rfl rfl Tryz.call97 (fun w' hst => or_spec w' _ 2 [(t.length : Int) - B.1.length, cmpS3 t B.1] (Sl.own (hst.row (κ := kInt) (id := 17) rfl) (by simp [hl]))) rfl (fun _ h => h) ?_
              intro m9 hm9
              by_cases hor : orI [(t.length : Int) - B.1.length, cmpS3 t B.1] < 0
              · have hbt : better B t (j + 1) = true := by unfold better; simp [heq1, hor]
                rw [if_pos hbt] at hns
                refine RunD.adv tb_ok (by kernel_rfl) [] rfl rfl (by simp [AllOb, Ob.P, sum_len, sz_sum, one_int, u8V_one, hor] <;> omega) ?_
                refine RunD.done (.inl rfl) (by kernel_rfl) ?_
                refine RunH.adv tb_ok [true] rfl rfl (by simp [AllOb, Ob.P, sum_len, sz_sum, one_int, u8V_one, hor] <;> omega) ?_
                refine RunH.draw rfl [(10, some (.box m3 [.val (intV (j + 1))] 3))] rfl 4 rfl rfl ?_
                refine RunD.adv tb_ok (by kernel_rfl) [] rfl rfl (by simp [AllOb, Ob.P, sum_len, sz_sum, one_int, u8V_one] <;> omega) ?_
                refine RunD.step tb_ok (i := 2) rfl (by kernel_rfl) rfl rfl rfl trivial rfl (fun _ h => h) rfl ?_
                refine RunD.step tb_ok (i := 3) rfl (by kernel_rfl) rfl rfl rfl trivial rfl (fun _ h => h) rfl ?_
                refine RunD.done (.inl rfl) (by kernel_rfl) ?_
                refine RunH.adv tb_ok [] rfl rfl (by simp [AllOb, Ob.P, sum_len, sz_sum, one_int, u8V_one] <;> omega) ?_
                refine RunH.leave (.exit 2 _ rfl) fun w' hst => ⟨rfl, (), trivial, ?_⟩
                rw [hns]
                exact hst.out [] rfl rfl fun u h => h
              · have hbt : better B t (j + 1) = false := by unfold better; simp [heq1, hor]
                rw [hbt, if_neg (by decide)] at hns
                refine RunD.adv tb_ok (by kernel_rfl) [] rfl rfl (by simp [AllOb, Ob.P, sum_len, sz_sum, one_int, u8V_one, hor] <;> omega) ?_
                refine RunD.done (.inl rfl) (by kernel_rfl) ?_
                refine RunH.adv tb_ok [false] rfl rfl (by simp [AllOb, Ob.P, sum_len, sz_sum, one_int, u8V_one, hor] <;> omega) ?_
                refine RunH.leave (.exit 2 _ rfl) fun w' hst => ⟨rfl, (), trivial, ?_⟩
                rw [hns]
                exact hst.out [] rfl rfl fun u h => h
            · refine RunD.adv tb_ok (by kernel_rfl) [false, false] rfl rfl (by simp [AllOb, Ob.P, sum_len, sz_sum, one_int, u8V_one, hlt1, heq1] <;> omega) ?_
              have hbt : better B t (j + 1) = false := by unfold better; simp [hlt1, heq1]
              rw [hbt, if_neg (by decide)] at hns
              refine RunD.done (.inl rfl) (by kernel_rfl) ?_
              refine RunH.adv tb_ok [] rfl rfl (by simp [AllOb, Ob.P, sum_len, sz_sum, one_int, u8V_one] <;> omega) ?_
              refine RunH.leave (.exit 2 _ rfl) fun w' hst => ⟨rfl, (), trivial, ?_⟩
              rw [hns]
              exact hst.out [] rfl rfl fun u h => h
        · have hpn : ∀ j' (h : j' < (endsOf NL[i]).length), j' < j + 1 → goodB L x (endsOf NL[i])[j'] = false := fun j' h hj' => by
            by_cases e : j' = j
            · subst e; rw [hx]; simpa using hg
            · exact hp j' h (by omega)
          by_cases ho : oneB (foundL L t) = true
          · have hsx : oneS (foundL L t) ≠ x := by
              intro e
              unfold oneS at e
              rw [if_pos ho] at e
              exact hg (by unfold goodB; simp only [Bool.and_eq_true, decide_eq_true_eq]; exact ⟨ho, e⟩)
            refine RunH.adv tb_ok [false] rfl rfl (by simp [AllOb, Ob.P, sum_len, sz_sum, one_int, u8V_one, ho] <;> omega) ?_
            refine RunH.read (boolE (!decide (oneS (foundL L t) = x))) rfl rfl rfl rfl (fun w' a _ ha => op_neq ha rfl rfl rfl rfl rfl (by kernel_rfl) (eq_sum w' 9998 _ _)) ?_
            refine RunH.adv tb_ok [true] rfl rfl (by simp [AllOb, Ob.P, sum_len, sz_sum, one_int, u8V_one, ho, hsx] <;> omega) ?_
            refine RunH.leave .fin fun w' hst => ⟨(), hpn, ?_⟩
            exact hst.out [] rfl rfl fun u h => h
          · refine RunH.adv tb_ok [true] rfl rfl (by simp [AllOb, Ob.P, sum_len, sz_sum, one_int, u8V_one, ho] <;> omega) ?_
            refine RunH.leave .fin fun w' hst => ⟨(), hpn, ?_⟩
            exact hst.out [] rfl rfl fun u h => h
      · intro _ D m5 hp
        have hst : nameStep L x B NL[i] = B := nameStep_none fun j h => hp j h h
        rw [hst] at hfs
        refine RunH.adv tb_ok [] rfl rfl (by simp [AllOb, Ob.P, sum_len, sz_sum, one_int, u8V_one] <;> omega) ?_
        refine RunH.againD (i + 1, D :: ds) (.head _) rfl rfl (by dsimp only; rw [hfs]; rfl) (by show NL.length - (i + 1) < NL.length - i; omega) fun u h => ⟨h, by show i + 1 ≤ NL.length; omega⟩
      · intro j hj _ D m5 _
        refine RunH.adv tb_ok [] rfl rfl (by simp [AllOb, Ob.P, sum_len, sz_sum, one_int, u8V_one] <;> omega) ?_
        refine RunH.againD (i + 1, D :: ds) (.head _) rfl rfl (by dsimp only; rw [hfs]; rfl) (by show NL.length - (i + 1) < NL.length - i; omega) fun u h => ⟨h, by show i + 1 ≤ NL.length; omega⟩
    · have hti : NL.take i = NL := List.take_of_length_le (by omega)
      dsimp only
      rw [hti]
      refine RunH.adv tb_ok [false] rfl rfl (by simp [AllOb, Ob.P, sum_len, sz_sum, one_int, u8V_one] <;> omega) ?_
      refine RunH.facts (Def tb w.heap.size ds (fun u => Ext w u ∧ Sl kStr u A c NL ∧ Wk u b A1 c1 B1 c2 s.t.l s.y.l)) (fun u h => h.1) ?_
      refine RunH.retD2 Tryz.func31 rfl rfl rfl fun w' hst => ⟨by rw [hS, he]; rfl, hst.fact.1⟩
  · have hS : nameS s.t.l s.y.l k x = [] := if_neg he
    refine RunH.adv tb_ok [true] rfl rfl (by simp [AllOb, Ob.P, sum_len, sz_sum, one_int, u8V_one, he] <;> omega) ?_
    refine RunH.ret2 Tryz.func31 rfl rfl rfl fun w' hst => ⟨by rw [hS]; rfl, hst.fact⟩
end Go.Proofs.YtagnkcdhenilbaaGreatDoor

namespace Go.Proofs.YtagnkcdhenilbaaGreatDoor
open Go V

def insL {α : Type} (l : List α) (i : Nat) (x : α) : List α := l.take i ++ x :: l.drop i

theorem insL_len {α : Type} (l : List α) (i : Nat) (x : α) (h : i ≤ l.length) : (insL l i x).length = l.length + 1 := by
  unfold insL; rw [List.length_append, List.length_cons, List.length_take, List.length_drop]; omega

theorem run_overlaps (w : World) (ga gb : Nat) (oa ob la ca lb cb : Nat) (hne : ga ≠ gb) (ta tb_ : TypeId) (xa xb : Array Value) (ha : w.heap[ga]? = some (.cells xa ta (0, 0))) (hb : w.heap[gb]? = some (.cells xb tb_ (0, 0))) (hx : xb.size ≠ 0) :
    (callFunc 156 #[.slice (some ⟨ga, oa, none⟩) la ca, .slice (some ⟨gb, ob, none⟩) lb cb]).run Tryz.prog w = .ok (.value (.bool false)) w := by
  rw [run_callFunc_extern Tryz.func156 (by kernel_rfl) (by kernel_rfl) (by kernel_rfl) (e := Extern.SlicesOverlaps.overlaps #[22, 22] #[4]) (by kernel_rfl),
    Lib.run_overlaps_apart w 22 4 44 (tb_ok.und (by kernel_rfl)) 33 (fun w => run_tsize tb_ok (i := Tryz.t44) rfl) ⟨ga, oa, none⟩ ⟨gb, ob, none⟩ la ca lb cb hne ta tb_ xa.size xb.size
      (by simp [World.shape?, ha]) (by simp [World.shape?, hb]) hx (by simp [World.frozen?, ha]) (by simp [World.frozen?, ha])]
  rfl

theorem call_value {P : Program} {n : Nat} {env : SEnv} {a : Act} {d : Option Nat} {fo : Operand} {args : Array Operand} {tys : Array TypeId} {ty : TypeId} {ps : String} {af : Array Edge} {gd : Option (Nat × Bool)} {g : FuncId} {es : List EV} {e : EV} {f1 c1 : List Value} {v : Value} {w : World}
    (ha : Agree n a (kn env)) (hf : evE env fo = some e) (hev : e.v = .func (.func g) f1.toArray c1.toArray) (hes : evsE env args.toList = some es)
    (hc : (callFunc g (f1 ++ es.map EV.v ++ c1).toArray).run P w = .ok (.value v) w) :
    (execOp a.eval ⟨d, .call ⟨.value fo, args, tys⟩, ty, ps, af, gd⟩).run P w = .ok (.value v) w := by
  have h1 := evsE_eq ha hes
  have h2 : args.map a.eval = (es.map EV.v).toArray := by rw [← h1, ← Array.toList_map]
  simp only [execOp, resolve, Deferred.ofValue, ev_run ha hf, hev, h2, Sem.run_bind, Sem.run_pure, Result.andThen_ok, invoke]
  rw [show f1.toArray ++ (es.map EV.v).toArray ++ c1.toArray = (f1 ++ es.map EV.v ++ c1).toArray by simp]
  exact hc

theorem V.RunH.readS {P : Program} {f : Fr} {n : Nat} {S : Stops} {R : Ending → World → Prop} {tb : TT} {B0 : Nat} {I : World → Prop} {H : Heap} {nx m : Nat} {env : SEnv} {k : List Item} {ops : Array Oper} {i : Nat} {rest : List Nat} {o : Oper} {d : Nat} (e : EV) (ho : ops.toList[i]? = some o) (hdst : o.dst = some d) (hw : wantE env ops o.guard = .yes) (hd : Nat.blt d n = true)
    (hv : ∀ w a, St tb B0 H I w → Agree n a (kn env) → (execOp a.eval o).run P w = .ok (.value e.v) w)
    (hk : ∀ m', m ≤ m' → RunH P f n tb B0 S R (.inRegion ops rest :: k) ((d, e) :: env) H nx m' I) : RunH P f n tb B0 S R (.inRegion ops (i :: rest) :: k) env H nx m I :=
  RunH.go ho hw (OpGo.read e hdst hd hv) nx fun _ => hk

theorem op_cap {P : Program} {n : Nat} {env : SEnv} {a : Act} (ha : Agree n a (kn env)) {d : Option Nat} {x : Operand} {T ty e : TypeId} {ps : String} {af : Array Edge} {gd : Option (Nat × Bool)} {ex : EV} {A : Option Addr} {n_ c : Nat} {w : World}
    (hx : evE env x = some ex) (hv : ex.v = .slice A n_ c) (hT : P.underlying T = some (.slice e)) :
    (execOp a.eval ⟨d, .call ⟨.builtin .cap, #[x], #[T]⟩, ty, ps, af, gd⟩).run P w = .ok (.value (intE c).v) w := by
  have hxv : a.eval x = .slice A n_ c := (ev_run ha hx).trans hv
  simp only [execOp, resolve, invoke, builtin, Sem.run_bind, Sem.run_pure, Result.andThen_ok, List.map_toArray, List.map_cons, List.map_nil, hxv, Builtin.cap_]
  simp [run_underlying hT, goInt]
  rfl

theorem putC_fin1 {X : Array Value} {o : Nat} {cx cd : List Value} (h : o + cx.length + cd.length ≤ X.size) : (putC (putC X o cx) (o + cx.length) cd).toList.take (o + cx.length + cd.length) = X.toList.take o ++ (cx ++ cd) := by
  rw [putC_take2 (by rw [putC_size (by omega)]; omega), putC_take2 (by omega), List.append_assoc]

theorem putC_fin2 {X : Array Value} {o : Nat} {cx cd : List Value} (h : o + cx.length + cd.length ≤ X.size) : (putC (putC X (o + cx.length) cd) o cx).toList.take (o + cx.length + cd.length) = X.toList.take o ++ (cx ++ cd) := by
  have h1 : (putC X (o + cx.length) cd).toList.take o = X.toList.take o := by
    have := putC_take (X := X) (o := o + cx.length) (cs := cd) (by omega)
    have h2 := congrArg (List.take o) this
    rw [List.take_take, List.take_take, Nat.min_eq_left (by omega)] at h2
    exact h2
  have h3 : ((putC X (o + cx.length) cd).toList.drop (o + cx.length)).take cd.length = cd := by
    show ((X.toList.take (o + cx.length) ++ cd ++ X.toList.drop (o + cx.length + cd.length)).drop (o + cx.length)).take cd.length = cd
    have hl0 : (X.toList.take (o + cx.length)).length = o + cx.length := by rw [List.length_take, Array.length_toList (xs := X)]; omega
    rw [List.append_assoc, List.drop_left' hl0, List.take_left]
  generalize putC X (o + cx.length) cd = Y at h1 h3
  show (Y.toList.take o ++ cx ++ Y.toList.drop (o + cx.length)).take _ = _
  have hl : (Y.toList.take o ++ cx).length = o + cx.length := by
    rw [List.length_append, h1, List.length_take, Array.length_toList (xs := X)]; omega
  have h4 := List.take_length_add_append (l₁ := Y.toList.take o ++ cx) (l₂ := Y.toList.drop (o + cx.length)) (i := cd.length)
  rw [hl] at h4
  rw [h4, h3, h1, List.append_assoc]

theorem flat_ins (l : List Entry) (i : Nat) (x : Entry) : (insL l i x).flatMap kEntry.cs = (l.take i).flatMap kEntry.cs ++ (kEntry.cs x ++ (l.drop i).flatMap kEntry.cs) := by
  unfold insL; rw [List.flatMap_append, List.flatMap_cons]

theorem flat_take (l : List Entry) (i : Nat) (h : i ≤ l.length) : (l.flatMap kEntry.cs).take (i * 33) = (l.take i).flatMap kEntry.cs := by
  have e : l.flatMap kEntry.cs = (l.take i).flatMap kEntry.cs ++ (l.drop i).flatMap kEntry.cs := by rw [← List.flatMap_append, List.take_append_drop]
  rw [e, List.take_left' (by rw [kEntry.flat_len, List.length_take, show kEntry.sz = 33 from rfl, Nat.min_eq_left h])]

theorem flat_drop (l : List Entry) (i : Nat) (h : i ≤ l.length) : (l.flatMap kEntry.cs).drop (i * 33) = (l.drop i).flatMap kEntry.cs := by
  have e : l.flatMap kEntry.cs = (l.take i).flatMap kEntry.cs ++ (l.drop i).flatMap kEntry.cs := by rw [← List.flatMap_append, List.take_append_drop]
  rw [e, List.drop_left' (by rw [kEntry.flat_len, List.length_take, show kEntry.sz = 33 from rfl, Nat.min_eq_left h])]

set_option maxRecDepth 10000 in
theorem Insert_spec (A V : Option Addr) (c cv : Nat) (l : List Entry) (i : Nat) (x : Entry) (hi : i ≤ l.length) (hn : l.length ≤ 1000000) :
    Does Tryz.prog tb 114 [.slice A l.length c, intV i, .slice V 1 cv] [(0, rowE kEntry A c l), (1, rowE kEntry V cv [x])] (fun _ => True) (fun y : Option Addr × Nat => .slice y.1 (insL l i x).length y.2) (fun y => [(0, rowE kEntry y.1 y.2 (insL l i x))]) (fun _ _ _ => True) := by
  have hl : lim = 140737488351232 := rfl
  have hil := insL_len l i x hi
  refine Does.enter tb_ok [(0, rowS 0 A l.length c), (1, intE i), (2, rowS 1 V 1 cv)] Tryz.func114 rfl Tryz.ntmps114 rfl rfl 2 ?_
  intro B0 m0 K
  refine RunH.pureS (fun w hst => own_cap (hst.row (κ := kEntry) (id := 0) (l := l) rfl)) fun hcap => ?_
  by_cases he : i = l.length
  · have hins : insL l i x = l ++ [x] := by unfold insL; rw [he, List.take_length, List.drop_length]
    rw [hins]
    refine RunH.adv tb_ok [false, true] rfl rfl (by simp [AllOb, Ob.P, sum_len, sz_sum, one_int, u8V_one, he] <;> omega) ?_
    refine RunH.appendK (κ := kEntry) (id := 0) (r := [x]) (l := l) rfl rfl rfl rfl rfl rfl elt_entry rfl rfl (fun w hst => hst.liesRow (κ := kEntry) (l := [x]) (id := 1) rfl (by simp [hl])) (by simp; omega) (by simp; omega) ?_
    intro A' c' m' hm'
    refine RunH.adv tb_ok [] rfl rfl (by simp [AllOb, Ob.P, sum_len, sz_sum, one_int, u8V_one] <;> omega) ?_
    refine RunH.ret1 Tryz.func114 rfl rfl fun w hst => ⟨(A', c'), rfl, hst.out [] rfl rfl fun u h => ⟨h.1, trivial⟩⟩
  · have hlt : i < l.length := by omega
    refine RunH.raw (id := 0) rfl (by omega) ?_
    intro g cap cur hv hc hmx hcs ht
    injection hv with h1 h2 h3
    subst h1; subst h3
    refine RunH.raw (id := 1) rfl (by simp) ?_
    intro gv capv curv hvv hcv hmxv hcsv htv
    injection hvv with h1 h2 h3
    subst h1; subst h3
    have hlen := kEntry.flat_len l
    have hsz : kEntry.sz = 33 := rfl
    have hcx : (kEntry.cs x).length = 33 := kEntry.cs_len x
    have hxv : (curv.toList.drop (offA (some (⟨gv, 0, none⟩ : Addr)))).take 33 = kEntry.cs x := by
      show (curv.toList.drop 0).take 33 = _
      rw [List.drop_zero]
      have := htv
      rw [hsz] at this
      simpa using this
    by_cases hroom : c < l.length + 1
    · refine RunH.adv tb_ok [false, false] rfl rfl (by simp [AllOb, Ob.P, sum_len, sz_sum, one_int, u8V_one, he, hroom] <;> omega) ?_
      refine RunH.read (intE c) rfl rfl rfl rfl (fun w a _ ha => op_cap (A := some ⟨g, 0, none⟩) (n_ := l.length) (e := 44) ha rfl rfl (tb_ok.und (by kernel_rfl))) ?_
      refine RunH.adv tb_ok [true] rfl rfl (by simp [AllOb, Ob.P, sum_len, sz_sum, one_int, u8V_one, hroom] <;> omega) ?_
      have e1 : ((l.length : Int) + ((1 : Nat) : Int) - i) = ((l.length + 1 - i : Nat) : Int) := by omega
      rw [e1]
      have hti : cur.toList.take (i * 33) = (l.take i).flatMap kEntry.cs := by
        rw [← flat_take l i hi, ← ht, hsz, List.take_take, Nat.min_eq_left (by omega)]
      have hdi : (cur.toList.drop (i * 33)).take ((l.length - i) * 33) = (l.drop i).flatMap kEntry.cs := by
        rw [← flat_drop l i hi, ← ht, hsz, List.drop_take]; congr 1; omega
      refine RunH.go rfl rfl (OpGo.appendMake (id := 3) (sl := i) (olds := (l.take i).flatMap kEntry.cs) (e := 44) (i := Tryz.t44) (b := ⟨g, 0, none⟩) (z := (Tryz.t44).zero.getD undef) tb_ok rfl (by kernel_rfl) (by kernel_rfl) (by kernel_rfl) (by kernel_rfl) (by show 0 < 33; decide) (by kernel_rfl) rfl rfl rfl ?_ ?_ ?_ ?_ ?_ ?_) 4 ?_
      · rw [kEntry.flat_len, List.length_take, Nat.min_eq_left hi]; rfl
      · intro w hst j v hj
        have ho := (hst.holds 0 _ rfl).2
        rw [← hti] at hj
        rw [Addr.add_lit, Nat.zero_add]
        have hj2 := (List.getElem?_eq_some_iff.1 hj).1
        rw [List.length_take] at hj2
        rw [List.getElem?_take, if_pos (by omega)] at hj
        show w.cell? ⟨g, j, none⟩ = some v
        simp only [World.cell?, ho]
        simpa using hj
      · omega
      · omega
      · have : (Tryz.t44).bytes = 48 := rfl
        rw [this]; omega
      · simp only [maxLen]; omega
      rintro ⟨cap', X⟩ m1 hm1
      refine RunH.pure (fun w h => h.2) fun ⟨hX1, hX2, hX3, hX4⟩ => ?_
      dsimp only at hX1 hX2 hX3 hX4 ⊢
      refine RunH.adv tb_ok [] rfl rfl (by simp [AllOb, Ob.P, sum_len, sz_sum, one_int, u8V_one] <;> omega) ?_
      have hX1' : i < cap' := by omega
      have hcd : ((l.drop i).flatMap kEntry.cs).length = (l.length - i) * 33 := by rw [kEntry.flat_len, List.length_drop, hsz]
      refine RunH.go rfl rfl (OpGo.copyRaw (id := 3) (g := m0) (off := i * 33) (dl := l.length + 1 - i) (dc := cap' - i) (q := 1) (c := cv) (A := some ⟨gv, 0, none⟩) (cur := X) (cs := kEntry.cs x) (i := Tryz.t44) (e := 44) tb_ok rfl rfl rfl rfl ?_ rfl rfl rfl ?_ ?_ ?_ ?_ ?_ ?_) 4 ?_
      · show Value.slice (subA (some ⟨m0, 0, none⟩) (i : Int).toNat cap' 33) (i + (l.length + 1 - i) - (i : Int).toNat) (cap' - (i : Int).toNat) = _
        rw [Int.toNat_natCast, Nat.add_sub_cancel_left]
        unfold subA
        rw [if_neg (by omega), Option.map_some, Addr.add_lit, Nat.zero_add]
      · rw [hcx, show Nat.min 1 (l.length + 1 - i) = 1 from Nat.min_eq_left (by omega)]; rfl
      · exact (kEntry.ok x).one
      · exact fun w hst => range_take (n := 33) (hst.holds 1 _ rfl).2 hxv
      · exact fun _ => rfl
      · exact nofun
      · rw [hcx, hX3]; show i * 33 + 33 ≤ cap' * 33; omega
      rintro ⟨⟩ m2 hm2
      refine RunH.adv tb_ok [] rfl rfl (by simp [AllOb, Ob.P, sum_len, sz_sum, one_int, u8V_one] <;> omega) ?_
      refine RunH.draw rfl [] rfl 9 rfl rfl ?_
      refine RunD.adv tb_ok (by kernel_rfl) [] rfl rfl (by simp [AllOb, Ob.P, sum_len, sz_sum, one_int, u8V_one] <;> omega) ?_
      refine RunD.go (i := 8) rfl (by kernel_rfl) rfl (OpGo.copyRaw (id := 3) (g := m0) (off := (i + 1) * 33) (dl := l.length - i) (dc := cap' - (i + 1)) (q := l.length - i) (c := c - i) (A := some ⟨g, i * 33, none⟩) (cur := putC X (i * 33) (kEntry.cs x)) (cs := (l.drop i).flatMap kEntry.cs) (i := Tryz.t44) (e := 44) tb_ok rfl rfl rfl rfl ?_ rfl ?_ rfl ?_ ?_ ?_ ?_ ?_ ?_) 4 (fun _ => rfl) (fun _ _ h => h) ?_
      · show Value.slice (subA (some ⟨m0, 0, none⟩) ((i : Int) + ((1 : Nat) : Int)).toNat cap' 33) (i + (l.length + 1 - i) - ((i : Int) + ((1 : Nat) : Int)).toNat) (cap' - ((i : Int) + ((1 : Nat) : Int)).toNat) = _
        rw [show ((i : Int) + ((1 : Nat) : Int)).toNat = i + 1 by omega, show i + (l.length + 1 - i) - (i + 1) = l.length - i by omega]
        unfold subA
        rw [if_neg (by omega), Option.map_some, Addr.add_lit, Nat.zero_add]
      · show Value.slice (subA (some ⟨g, 0, none⟩) (i : Int).toNat c 33) (l.length - (i : Int).toNat) (c - (i : Int).toNat) = _
        rw [Int.toNat_natCast]
        unfold subA
        rw [if_neg (by omega), Option.map_some, Addr.add_lit, Nat.zero_add]
      · rw [hcd, show Nat.min (l.length - i) (l.length - i) = l.length - i from Nat.min_self _]; rfl
      · exact kEntry.one _
      · exact fun w hst => range_take (hst.holds 0 _ rfl).2 hdi
      · exact fun _ => rfl
      · exact nofun
      · rw [hcd, putC_size (by rw [hcx, hX3]; show i * 33 + 33 ≤ cap' * 33; omega), hX3]; show (i + 1) * 33 + _ ≤ cap' * 33; omega
      rintro ⟨⟩ m3 hm3
      refine RunD.done (.inl rfl) (by kernel_rfl) ?_
      have hs2 : (putC (putC X (i * 33) (kEntry.cs x)) ((i + 1) * 33) ((l.drop i).flatMap kEntry.cs)).size = cap' * 33 := by
        have h1 : (putC X (i * 33) (kEntry.cs x)).size = cap' * 33 := by rw [putC_size (by rw [hcx, hX3]; show i * 33 + 33 ≤ cap' * 33; omega), hX3]; rfl
        rw [putC_size (by rw [hcd, h1]; omega), h1]
      have hfin : (putC (putC X (i * 33) (kEntry.cs x)) ((i + 1) * 33) ((l.drop i).flatMap kEntry.cs)).toList.take ((l.length + 1) * 33) = (insL l i x).flatMap kEntry.cs := by
        have h1 : (i + 1) * 33 = i * 33 + (kEntry.cs x).length := by rw [hcx]; omega
        have h2 : (l.length + 1) * 33 = i * 33 + (kEntry.cs x).length + ((l.drop i).flatMap kEntry.cs).length := by rw [hcx, hcd]; omega
        rw [h1, h2, putC_fin1 (by rw [hcx, hcd, hX3]; show _ ≤ cap' * 33; omega), flat_ins]
        congr 1
      refine RunH.cook (id := 3) (g := m0) (sz := 33) (l.length + 1) cap' rfl (by omega) hX2 hs2 ?_
      rw [hfin]
      refine RunH.adv tb_ok [] rfl rfl (by simp [AllOb, Ob.P, sum_len, sz_sum, one_int, u8V_one] <;> omega) ?_
      refine RunH.ret1 Tryz.func114 rfl rfl fun w hst => ⟨(some ⟨m0, 0, none⟩, cap'), by rw [hil]; show Ending.returned (Value.slice (some ⟨m0, 0, none⟩) (i + (l.length + 1 - i)) cap') = Ending.returned (Value.slice _ (l.length + 1) _); rw [show i + (l.length + 1 - i) = l.length + 1 by omega], ?_⟩
      have := hst.out (J := fun u => K u ∧ True) (G := [(0, some (HE.row (.slice (some ⟨m0, 0, none⟩) (l.length + 1) cap') kEntry.T 33 (l.length + 1) ((insL l i x).flatMap kEntry.cs)))]) [(0, 3)] rfl rfl fun u h => ⟨h.1.1, trivial⟩
      unfold rowE
      rw [hil]
      exact this
    · refine RunH.adv tb_ok [false, false] rfl rfl (by simp [AllOb, Ob.P, sum_len, sz_sum, one_int, u8V_one, he, hroom] <;> omega) ?_
      refine RunH.read (intE c) rfl rfl rfl rfl (fun w a _ ha => op_cap (A := some ⟨g, 0, none⟩) (n_ := l.length) (e := 44) ha rfl rfl (tb_ok.und (by kernel_rfl))) ?_
      refine RunH.adv tb_ok [false] rfl rfl (by simp [AllOb, Ob.P, sum_len, sz_sum, one_int, u8V_one, hroom] <;> omega) ?_
      have hdi : (cur.toList.drop (i * 33)).take ((l.length - i) * 33) = (l.drop i).flatMap kEntry.cs := by
        rw [← flat_drop l i hi, ← ht, hsz, List.drop_take]; congr 1; omega
      have hti : cur.toList.take (i * 33) = (l.take i).flatMap kEntry.cs := by
        rw [← flat_take l i hi, ← ht, hsz, List.take_take, Nat.min_eq_left (by omega)]
      have hcd : ((l.drop i).flatMap kEntry.cs).length = (l.length - i) * 33 := by rw [kEntry.flat_len, List.length_drop, hsz]
      have hsA : ∀ j, j ≤ i + 1 → subA (some ⟨g, 0, none⟩) j c 33 = if c = j then some ⟨g, 0, none⟩ else some ⟨g, j * 33, none⟩ := fun j _ => by
        unfold subA
        split
        · rfl
        · rw [Option.map_some, Addr.add_lit, Nat.zero_add]
      have hci : c ≠ i := by omega
      have hci1 : c ≠ i + 1 := by omega
      refine RunH.readS .ff rfl rfl rfl rfl (fun w a hst ha => ?_) ?_
      · have o0 := (hst.holds 0 _ rfl).2
        have o1 := (hst.holds 1 _ rfl).2
        have hne : gv ≠ g := fun e => hst.apart 1 0 _ _ (by decide) rfl rfl gv rfl (by rw [e]; rfl)
        have hov := run_overlaps w gv g 0 ((i + 1) * 33) 1 cv (((l.length : Int) + ((1 : Nat) : Int)).toNat - ((i : Int) + ((1 : Nat) : Int)).toNat) (c - ((i : Int) + ((1 : Nat) : Int)).toNat) hne _ _ _ _ o1 o0 (by rw [hcs, hsz]; omega)
        refine call_value ha (e := .av (.val (.func (.func 156) #[] #[]))) (f1 := []) (c1 := []) (g := 156) (es := [rowS 1 (some ⟨gv, 0, none⟩) 1 cv, .av (.val (.slice (subA (some ⟨g, 0, none⟩) ((i : Int) + ((1 : Nat) : Int)).toNat c 33) (((l.length : Int) + ((1 : Nat) : Int)).toNat - ((i : Int) + ((1 : Nat) : Int)).toNat) (c - ((i : Int) + ((1 : Nat) : Int)).toNat)))]) rfl rfl rfl ?_
        rw [show ((i : Int) + ((1 : Nat) : Int)).toNat = i + 1 by omega, hsA (i + 1) (Nat.le_refl _), if_neg hci1]
        rw [show ((i : Int) + ((1 : Nat) : Int)).toNat = i + 1 by omega] at hov
        exact hov
      intro m1 hm1
      refine RunH.adv tb_ok [] rfl rfl (by simp [AllOb, Ob.P, sum_len, sz_sum, one_int, u8V_one] <;> omega) ?_
      refine RunH.draw rfl [] rfl 9 rfl rfl ?_
      refine RunD.adv tb_ok (by kernel_rfl) [] rfl rfl (by simp [AllOb, Ob.P, sum_len, sz_sum, one_int, u8V_one] <;> omega) ?_
      refine RunD.go (i := 8) rfl (by kernel_rfl) rfl (OpGo.copyRaw (id := 0) (g := g) (off := (i + 1) * 33) (dl := l.length - i) (dc := c - (i + 1)) (q := l.length + 1 - i) (c := c - i) (A := some ⟨g, i * 33, none⟩) (cur := cur) (cs := (l.drop i).flatMap kEntry.cs) (i := Tryz.t44) (e := 44) tb_ok rfl rfl rfl rfl ?_ rfl ?_ rfl ?_ ?_ ?_ ?_ ?_ ?_) 4 (fun _ => rfl) (fun _ _ h => h) ?_
      · show Value.slice (subA (some ⟨g, 0, none⟩) ((i : Int) + ((1 : Nat) : Int)).toNat c 33) (((l.length : Int) + ((1 : Nat) : Int)).toNat - ((i : Int) + ((1 : Nat) : Int)).toNat) (c - ((i : Int) + ((1 : Nat) : Int)).toNat) = _
        rw [show ((i : Int) + ((1 : Nat) : Int)).toNat = i + 1 by omega, show ((l.length : Int) + ((1 : Nat) : Int)).toNat - (i + 1) = l.length - i by omega, hsA (i + 1) (Nat.le_refl _), if_neg hci1]
      · show Value.slice (subA (some ⟨g, 0, none⟩) (i : Int).toNat c 33) (((l.length : Int) + ((1 : Nat) : Int)).toNat - (i : Int).toNat) (c - (i : Int).toNat) = _
        rw [Int.toNat_natCast, show ((l.length : Int) + ((1 : Nat) : Int)).toNat = l.length + 1 by omega, hsA i (by omega), if_neg hci]
      · rw [hcd, show Nat.min (l.length + 1 - i) (l.length - i) = l.length - i from Nat.min_eq_right (by omega)]; rfl
      · exact kEntry.one _
      · exact fun w hst => range_take (hst.holds 0 _ rfl).2 hdi
      · exact fun _ => rfl
      · exact nofun
      · rw [hcd, hcs, hsz]; omega
      rintro ⟨⟩ m2 hm2
      refine RunD.done (.inl rfl) (by kernel_rfl) ?_
      refine RunH.adv tb_ok [] rfl rfl (by simp [AllOb, Ob.P, sum_len, sz_sum, one_int, u8V_one] <;> omega) ?_
      refine RunH.go rfl rfl (OpGo.copyRaw (id := 0) (g := g) (off := i * 33) (dl := l.length + 1 - i) (dc := c - i) (q := 1) (c := cv) (A := some ⟨gv, 0, none⟩) (cur := putC cur ((i + 1) * 33) ((l.drop i).flatMap kEntry.cs)) (cs := kEntry.cs x) (i := Tryz.t44) (e := 44) tb_ok rfl rfl rfl rfl ?_ rfl rfl rfl ?_ ?_ ?_ ?_ ?_ ?_) 4 ?_
      · show Value.slice (subA (some ⟨g, 0, none⟩) (i : Int).toNat c 33) (((l.length : Int) + ((1 : Nat) : Int)).toNat - (i : Int).toNat) (c - (i : Int).toNat) = _
        rw [Int.toNat_natCast, show ((l.length : Int) + ((1 : Nat) : Int)).toNat = l.length + 1 by omega, hsA i (by omega), if_neg hci]
      · rw [hcx, show Nat.min 1 (l.length + 1 - i) = 1 from Nat.min_eq_left (by omega)]; rfl
      · exact (kEntry.ok x).one
      · exact fun w hst => range_take (n := 33) (hst.holds 1 _ rfl).2 hxv
      · exact fun _ => rfl
      · exact nofun
      · rw [hcx, putC_size (by rw [hcd, hcs, hsz]; omega), hcs, hsz]; omega
      rintro ⟨⟩ m3 hm3
      have hs1 : (putC cur ((i + 1) * 33) ((l.drop i).flatMap kEntry.cs)).size = c * 33 := by rw [putC_size (by rw [hcd, hcs, hsz]; omega), hcs, hsz]
      have hs2 : (putC (putC cur ((i + 1) * 33) ((l.drop i).flatMap kEntry.cs)) (i * 33) (kEntry.cs x)).size = c * 33 := by rw [putC_size (by rw [hcx, hs1]; omega), hs1]
      have hfin : (putC (putC cur ((i + 1) * 33) ((l.drop i).flatMap kEntry.cs)) (i * 33) (kEntry.cs x)).toList.take ((l.length + 1) * 33) = (insL l i x).flatMap kEntry.cs := by
        have h1 : (i + 1) * 33 = i * 33 + (kEntry.cs x).length := by rw [hcx]; omega
        have h2 : (l.length + 1) * 33 = i * 33 + (kEntry.cs x).length + ((l.drop i).flatMap kEntry.cs).length := by rw [hcx, hcd]; omega
        rw [h1, h2, putC_fin2 (by rw [hcx, hcd, hcs, hsz]; omega), flat_ins, hti]
      refine RunH.cook (id := 0) (g := g) (sz := 33) (l.length + 1) c rfl (by omega) hmx hs2 ?_
      rw [hfin]
      refine RunH.adv tb_ok [] rfl rfl (by simp [AllOb, Ob.P, sum_len, sz_sum, one_int, u8V_one] <;> omega) ?_
      refine RunH.ret1 Tryz.func114 rfl rfl fun w hst => ⟨(some ⟨g, 0, none⟩, c), by rw [hil]; show Ending.returned (Value.slice (some ⟨g, 0, none⟩) ((l.length : Int) + ((1 : Nat) : Int)).toNat c) = Ending.returned (Value.slice _ (l.length + 1) _); rw [show ((l.length : Int) + ((1 : Nat) : Int)).toNat = l.length + 1 by omega], ?_⟩
      have := hst.out (J := fun u => K u ∧ True) (G := [(0, some (HE.row (.slice (some ⟨g, 0, none⟩) (l.length + 1) c) kEntry.T 33 (l.length + 1) ((insL l i x).flatMap kEntry.cs)))]) [(0, 0)] rfl rfl fun u h => ⟨h.1, trivial⟩
      unfold rowE
      rw [hil]
      exact this
end Go.Proofs.YtagnkcdhenilbaaGreatDoor

namespace Go.Proofs.YtagnkcdhenilbaaGreatDoor
open Go V

/-- A load out of what stands, taken first. -/
theorem V.RunD.loadG {P : Program} {f : Fr} {n : Nat} {tb : TT} {B0 : Nat} {S : Stops} {R : Ending → World → Prop} {k : List Item} {ops : Array Oper} {G : Heap} {I0 : World → Prop} {fuel : Nat} {l : List Bool} {env : SEnv} {H : Heap} {nx m : Nat} {I : World → Prop} (hp : pairOk ops = true) {i d : Nat} {T : TypeId} {x : Operand} {ty : TypeId} {ps : String} {af : Array Edge} {gd : Option (Nat × Bool)} {p : Addr} (e : EV) (ho : ops.toList[i]? = some ⟨some d, .load T x, ty, ps, af, gd⟩) (hdn : Nat.blt d n = true) (hw : wantE env ops gd = .yes)
    (hl : l[i]? = some false) (hr : readyE l ⟨some d, .load T x, ty, ps, af, gd⟩ = true) (hx : ptrE (evE env x) = some p) (hv : ∀ w, St tb B0 G I0 w → (loadVar T p).run P w = .ok e.v w)
    (h : RunD P f n tb B0 S R k ops G I0 fuel (l.set i true) ((d, e) :: env) H nx m I) : RunD P f n tb B0 S R k ops G I0 (fuel + 1) l env H nx m I := by
  obtain ⟨ex, h1, h2⟩ := ptrE_ok hx
  rw [Array.getElem?_toList] at ho
  exact RunD.take hp ho rfl (Nat.lt_of_lt_of_le (Nat.lt_succ_self d) (Nat.le_of_ble_eq_true hdn)) hl hr (fun a ha => .inl ⟨wantE_yes (o := ⟨some d, .load T x, ty, ps, af, gd⟩) hw ha, fun w hst => by simp [execOp, Instr.loadAt, ev_run ha h1, h2, Instr.sureAddr, hv w hst]⟩) h

/-- A namespace at work by the list of a kind, and the other one. -/
abbrev wkK (k : Int) (b : Nat) (vs vo : Value) : Option HE := wkE b (kA k vs vo) (kA k vo vs)
abbrev wkKG (k : Int) (b : Nat) (ls lo : List Entry) (zs zo : Option Addr × Nat) : Heap :=
  [(0, wkK k b (slV zs.1 ls.length zs.2) (slV zo.1 lo.length zo.2)), (1, rowE kEntry zs.1 zs.2 ls), (2, rowE kEntry zo.1 zo.2 lo)]

theorem load_wkK {w : World} {b n c n2 c2 : Nat} {A B : Option Addr} {k : Int} (h : w.heap[b]? = some (.cells #[kA k (slV A n c) (slV B n2 c2), kA k (slV B n2 c2) (slV A n c)] 140)) :
    (loadVar 22 ⟨b, kOff k, none⟩).run Tryz.prog w = .ok (.slice A n c) w := by
  by_cases hk : k = 1
  · have h2 : w.heap[b]? = some (.cells #[.slice A n c, .slice B n2 c2] 140) := by rw [h]; simp [kA, hk]
    have := load_wk h2 k
    rw [if_pos hk] at this; exact this
  · have h2 : w.heap[b]? = some (.cells #[.slice B n2 c2, .slice A n c] 140) := by rw [h]; simp [kA, hk]
    have := load_wk h2 k
    rw [if_neg hk] at this; exact this

theorem store_wkK {w : World} {B0 : Nat} {H : Heap} {I : World → Prop} {id b : Nat} {k : Int} {vs vo v : Value} (hst : St tb B0 H I w) (hH : lookH H id = wkK k b vs vo) (hv : VOk tb 22 v) (h1 : vs.oneCell' = true) (h2 : vo.oneCell' = true) :
    ∃ w', (storeVar 22 ⟨b, kOff k, none⟩ v).run Tryz.prog w = .ok () w' ∧ w.heap.size ≤ w'.heap.size ∧ St tb B0 ((id, wkK k b v vo) :: H) I w' := by
  have h3 : (kA k vs vo).oneCell' = true := by unfold kA; split <;> assumption
  have h4 : (kA k vo vs).oneCell' = true := by unfold kA; split <;> assumption
  obtain ⟨w', q1, q2, q3⟩ := store_wk hst hH k hv h3 h4
  refine ⟨w', q1, q2, ?_⟩
  have e : (if k = 1 then wkE b v (kA k vo vs) else wkE b (kA k vs vo) v) = wkK k b v vo := by
    simp only [wkK, kA]; by_cases hk : k = 1 <;> simp [hk]
  rw [e] at q3
  exact q3

def setL (l : List Entry) (x : Entry) : List Entry := if isAt l x.path = true then l.set (posOf l x.path) x else insL l (posOf l x.path) x

theorem posOf_le (l : List Entry) (p : Str) : posOf l p ≤ l.length := by
  unfold posOf
  exact (List.takeWhile_sublist _).length_le

theorem set_spec (k : Int) (b : Nat) (ls lo : List Entry) (zs zo : Option Addr × Nat) (x : Entry) (hn : ls.length ≤ 1000000) (hr : rises ls = true) :
    Does Tryz.prog tb 106 [.pointer (some ⟨b, 0, none⟩), intV k, (EV.st (entryF x)).v] (wkKG k b ls lo zs zo) (fun _ => True) (fun _ : Option Addr × Nat => .tuple #[]) (fun z => wkKG k b (setL ls x) lo z zo) (fun _ _ _ => True) := by
  have hl : lim = 140737488351232 := rfl
  obtain ⟨A, c⟩ := zs
  obtain ⟨B, c2⟩ := zo
  refine Does.enter tb_ok [(0, .av (.val (.pointer (some ⟨b, 0, none⟩)))), (1, intE k), (2, .st (entryF x))] Tryz.func106 rfl Tryz.ntmps106 rfl rfl 3 ?_
  intro B0 m0 K
  refine RunH.adv tb_ok [] rfl rfl (by simp [AllOb, Ob.P, sum_len, sz_sum, one_int, u8V_one] <;> omega) ?_
  refine RunH.gives (ho := rfl) (hw := rfl) (hd := rfl) (hf := rfl) (hes := rfl) (hc := Tryz.call94) (e := .av (.val (.pointer (some ⟨b, kOff k, none⟩)))) (hC := fun w' _ => list_spec w' b k) ?_
  intro m1 hm1
  refine RunH.adv tb_ok [] rfl rfl (by simp [AllOb, Ob.P, sum_len, sz_sum, one_int, u8V_one] <;> omega) ?_
  refine RunH.draw rfl [(0, wkK k b (slV A ls.length c) (slV B lo.length c2)), (3, some (.box m0 (entryF x) 44))] rfl 11 rfl rfl ?_
  refine RunD.adv tb_ok (by kernel_rfl) [] rfl rfl (by simp [AllOb, Ob.P, sum_len, sz_sum, one_int, u8V_one] <;> omega) ?_
  refine RunD.loadS (i := 2) (slE A ls.length c) rfl (by kernel_rfl) rfl rfl rfl (fun w hst => load_wkK (hst.holds 0 _ rfl).2) rfl (fun _ h => h) ?_
  intro m2 hm2
  refine RunD.gives (i := 5) (atV ls x.path) rfl (by kernel_rfl) rfl rfl rfl rfl Tryz.call149 (fun w hst => at_spec w A c ls (Sl.own (hst.row (κ := kEntry) (id := 1) rfl) (by omega)) hr x.path) rfl (fun _ h => h) ?_
  intro m3 hm3
  refine RunD.adv tb_ok (by kernel_rfl) [] rfl rfl (by simp [AllOb, Ob.P, sum_len, sz_sum, one_int, u8V_one] <;> omega) ?_
  refine RunD.done (.inl rfl) (by kernel_rfl) ?_
  by_cases ha : isAt ls x.path = true
  · have hpos : posOf ls x.path < ls.length := by
      unfold isAt at ha
      simp only [Bool.and_eq_true, decide_eq_true_eq] at ha
      exact ha.1
    have hsl : setL ls x = ls.set (posOf ls x.path) x := if_pos ha
    rw [hsl]
    refine RunH.pureS (fun w hst => hst.ptr (κ := kEntry) (id := 1) (l := ls) rfl (by rintro rfl; cases hpos)) fun hptr => ?_
    refine RunH.adv tb_ok [true] rfl rfl (by simp [AllOb, Ob.P, sum_len, sz_sum, one_int, u8V_one, ha] <;> omega) ?_
    refine RunH.draw rfl [(0, wkK k b (slV A ls.length c) (slV B lo.length c2)), (3, some (.box m0 (entryF x) 44))] rfl 7 rfl rfl ?_
    refine RunD.adv tb_ok (by kernel_rfl) [] rfl rfl (by simp [AllOb, Ob.P, sum_len, sz_sum, one_int, u8V_one, hptr] <;> omega) ?_
    refine RunD.loadS (i := 2) (slE A ls.length c) rfl (by kernel_rfl) rfl rfl rfl (fun w hst => load_wkK (hst.holds 0 _ rfl).2) rfl (fun _ h => h) ?_
    intro m4 hm4
    refine RunD.adv tb_ok (by kernel_rfl) [] rfl rfl (by simp [AllOb, Ob.P, sum_len, sz_sum, one_int, u8V_one, hptr] <;> omega) ?_
    refine RunD.storeK (i := 6) (κ := kEntry) (id := 1) (l := ls) (posOf ls x.path) x rfl (by kernel_rfl) rfl rfl rfl rfl rfl hpos rfl rfl rfl (fun _ h => h) ?_
    intro m5 hm5
    refine RunD.done (.inl rfl) (by kernel_rfl) ?_
    refine RunH.adv tb_ok [] rfl rfl (by simp [AllOb, Ob.P, sum_len, sz_sum, one_int, u8V_one] <;> omega) ?_
    refine RunH.fin0 Tryz.func106 rfl fun w hst => ⟨(A, c), rfl, ?_⟩
    have : (ls.set (posOf ls x.path) x).length = ls.length := List.length_set
    have h := hst.out (J := fun u => K u ∧ True) (G := [(0, wkK k b (slV A ls.length c) (slV B lo.length c2)), (1, rowE kEntry A c (ls.set (posOf ls x.path) x)), (2, rowE kEntry B c2 lo)]) [] rfl rfl fun u h => ⟨h.1, trivial⟩
    rw [← this] at h
    exact h
  · have hsl : setL ls x = insL ls (posOf ls x.path) x := if_neg ha
    rw [hsl]
    refine RunH.adv tb_ok [false] rfl rfl (by simp [AllOb, Ob.P, sum_len, sz_sum, one_int, u8V_one, ha] <;> omega) ?_
    refine RunH.draw rfl [(3, some (.box m0 (entryF x) 44))] rfl 10 rfl rfl ?_
    refine RunD.adv tb_ok (by kernel_rfl) [] rfl rfl (by simp [AllOb, Ob.P, sum_len, sz_sum, one_int, u8V_one] <;> omega) ?_
    refine RunD.two (i := 3) (j := 6) (by kernel_rfl) ?_ ?_
    · refine opD_go (i := 3) rfl rfl (OpGo.load (p := ⟨b, kOff k, none⟩) (slE A ls.length c) rfl rfl rfl (fun w hst => load_wkK (hst.holds 0 _ rfl).2)) 4 (fun _ => rfl) (fun _ _ h => h) ?_
      rintro ⟨⟩ m4 hm4
      refine RunD.adv tb_ok (by kernel_rfl) [] rfl rfl (by simp [AllOb, Ob.P, sum_len, sz_sum, one_int, u8V_one] <;> omega) ?_
      refine RunD.step tb_ok (i := 6) rfl (by kernel_rfl) rfl rfl rfl (by simp [AllOb, Ob.P, sum_len, sz_sum, one_int, u8V_one]) rfl (fun _ h => h) ⟨rfl, rfl⟩ ?_
      refine RunD.adv tb_ok (by kernel_rfl) [] rfl rfl (by simp [AllOb, Ob.P, sum_len, sz_sum, one_int, u8V_one] <;> omega) ?_
      refine RunD.doesB (i := 7) [(0, 1), (1, 4)] 6 (fun z : Option Addr × Nat => rowS 1 z.1 (insL ls (posOf ls x.path) x).length z.2) rfl (by kernel_rfl) rfl rfl rfl rfl Tryz.call114 (Insert_spec A _ c _ ls (posOf ls x.path) x (posOf_le _ _) hn) rfl rfl (fun _ => rfl) (fun _ => rfl) (fun _ _ => trivial) (fun _ => rfl) (fun _ h => h) ?_
      rintro ⟨A', c'⟩ m5 hm5
      refine RunD.adv tb_ok (by kernel_rfl) [] rfl rfl (by simp [AllOb, Ob.P, sum_len, sz_sum, one_int, u8V_one] <;> omega) ?_
      refine RunD.storeS (i := 9) [(0, wkK k b (slV A' (insL ls (posOf ls x.path) x).length c') (slV B lo.length c2)), (1, rowE kEntry A' c' (insL ls (posOf ls x.path) x)), (2, rowE kEntry B c2 lo), (3, some (.box m0 (entryF x) 44))] rfl (by kernel_rfl) rfl rfl rfl (fun w _ hst => ?_) rfl (fun _ h => h.1) ?_
      · obtain ⟨w', q1, q2, q3⟩ := store_wkK (v := slV A' (insL ls (posOf ls x.path) x).length c') hst (id := 0) (k := k) (b := b) (vs := slV A ls.length c) (vo := slV B lo.length c2) rfl ⟨rfl, Tryz.t22, rfl, rfl⟩ rfl rfl
        exact ⟨w', q1, q2, q3.out [] rfl rfl fun _ h => h⟩
      intro m6 hm6
      refine RunD.done (.inl rfl) (by kernel_rfl) ?_
      refine RunH.adv tb_ok [] rfl rfl (by simp [AllOb, Ob.P, sum_len, sz_sum, one_int, u8V_one] <;> omega) ?_
      refine RunH.fin0 Tryz.func106 rfl fun w hst => ⟨(A', c'), rfl, hst.out [] rfl rfl fun u h => ⟨h.1.1, trivial⟩⟩
    · refine opD_step tb_ok (nx := 4) (i := 6) rfl rfl rfl rfl (by simp [AllOb, Ob.P, sum_len, sz_sum, one_int, u8V_one]) rfl (fun _ h => h) ⟨rfl, rfl⟩ ?_
      refine RunD.loadS (i := 3) (slE A ls.length c) rfl (by kernel_rfl) rfl rfl rfl (fun w hst => load_wkK (hst.holds 0 _ rfl).2) rfl (fun _ h => h) ?_
      intro m4 hm4
      refine RunD.adv tb_ok (by kernel_rfl) [] rfl rfl (by simp [AllOb, Ob.P, sum_len, sz_sum, one_int, u8V_one] <;> omega) ?_
      refine RunD.doesB (i := 7) [(0, 1), (1, 4)] 6 (fun z : Option Addr × Nat => rowS 1 z.1 (insL ls (posOf ls x.path) x).length z.2) rfl (by kernel_rfl) rfl rfl rfl rfl Tryz.call114 (Insert_spec A _ c _ ls (posOf ls x.path) x (posOf_le _ _) hn) rfl rfl (fun _ => rfl) (fun _ => rfl) (fun _ _ => trivial) (fun _ => rfl) (fun _ h => h) ?_
      rintro ⟨A', c'⟩ m5 hm5
      refine RunD.adv tb_ok (by kernel_rfl) [] rfl rfl (by simp [AllOb, Ob.P, sum_len, sz_sum, one_int, u8V_one] <;> omega) ?_
      refine RunD.storeS (i := 9) [(0, wkK k b (slV A' (insL ls (posOf ls x.path) x).length c') (slV B lo.length c2)), (1, rowE kEntry A' c' (insL ls (posOf ls x.path) x)), (2, rowE kEntry B c2 lo), (3, some (.box m0 (entryF x) 44))] rfl (by kernel_rfl) rfl rfl rfl (fun w _ hst => ?_) rfl (fun _ h => h.1) ?_
      · obtain ⟨w', q1, q2, q3⟩ := store_wkK (v := slV A' (insL ls (posOf ls x.path) x).length c') hst (id := 0) (k := k) (b := b) (vs := slV A ls.length c) (vo := slV B lo.length c2) rfl ⟨rfl, Tryz.t22, rfl, rfl⟩ rfl rfl
        exact ⟨w', q1, q2, q3.out [] rfl rfl fun _ h => h⟩
      intro m6 hm6
      refine RunD.done (.inl rfl) (by kernel_rfl) ?_
      refine RunH.adv tb_ok [] rfl rfl (by simp [AllOb, Ob.P, sum_len, sz_sum, one_int, u8V_one] <;> omega) ?_
      refine RunH.fin0 Tryz.func106 rfl fun w hst => ⟨(A', c'), rfl, hst.out [] rfl rfl fun u h => ⟨h.1.1, trivial⟩⟩
end Go.Proofs.YtagnkcdhenilbaaGreatDoor
