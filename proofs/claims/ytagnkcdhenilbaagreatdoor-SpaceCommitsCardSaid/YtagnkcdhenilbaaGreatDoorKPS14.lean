/-
A part of the proofs of the laws of a seat: contracts of functions and lemmas on them; the listed package variables hold what the program's text lays. No further condition.
-/
import Derived.Test.YtagnkcdhenilbaaGreatDoorKPS9
import Derived.Test.YtagnkcdhenilbaaGreatDoorKVKey
set_option linter.unusedVariables false
set_option linter.unusedSectionVars false
set_option linter.unusedSimpArgs false
namespace Go.Proofs.YtagnkcdhenilbaaGreatDoor
open Go V

/-- What is wrong with a namespace, a kind, and a path. -/
def askE (t y : List Entry) (k : Int) (l : List Str) : Int := if kindE t y k = 0 then pathsE l else kindE t y k

theorem askE_zero {t y : List Entry} {k : Int} {l : List Str} (h : askE t y k l = 0) : kindE t y k = 0 ∧ pathsE l = 0 := by
  unfold askE at h
  split at h
  · exact ⟨‹_›, h⟩
  · exact absurd h ‹_›

theorem kList_sub {t y : List Entry} {k : Int} (h : kindE t y k = 0) : rises (kList k t y) = true ∧ (kList k t y).length ≤ 300 := by
  obtain ⟨r1, r2, hk, l1, l2⟩ := kindE_rises h
  unfold kList; split <;> exact ⟨by assumption, by assumption⟩

theorem kList_len {t y : List Entry} {k : Int} (h : kindE t y k = 0) : ∀ x ∈ kList k t y, x.path.length ≤ 54 := by
  have hc : checkE t y = 0 := by
    unfold kindE at h
    split at h
    · assumption
    · exact h
  have hl : ∀ l, listE l = 0 → ∀ x ∈ l, x.path.length ≤ 54 := by
    intro l hl x hx
    unfold listE at hl
    split at hl
    · cases hl
    · split at hl
      · rename_i h1
        exact pathOk_len (by have := List.all_eq_true.1 h1 x hx; exact this)
      · cases hl
  unfold checkE at hc
  unfold kList
  split at hc
  · rename_i h1
    split
    · exact hl t h1
    · exact hl y hc
  · rename_i h1; exact absurd hc h1

def findE (t y : List Entry) (k : Int) (x : Str) : Int := if askE t y k [x] = 0 then (if foundL (kList k t y) x = [] then 6 else 0) else askE t y k [x]
def findL (t y : List Entry) (k : Int) (x : Str) : List Entry := if askE t y k [x] = 0 then foundL (kList k t y) x else []

theorem Find_spec (s : Spc) (k : Int) (x : Str) (h1 : s.t.l.length ≤ 1000000) (h2 : s.y.l.length ≤ 1000000) :
    Does Tryz.prog tb 24 [s.ev.v, intV k, strV x] [] (fun u => MaxLen u ∧ s.ok u) (fun z : Option Addr × Nat => .tuple #[.slice z.1 (findL s.t.l s.y.l k x).length z.2, intV (findE s.t.l s.y.l k x)]) (fun z => [(0, rowE kEntry z.1 z.2 (findL s.t.l s.y.l k x))]) (fun _ _ _ => True) := by
  have hl : lim = 140737488351232 := rfl
  refine Does.enter tb_ok [(0, s.ev), (1, intE k), (2, strE x)] Tryz.func24 rfl Tryz.ntmps24 rfl rfl 0 ?_
  intro B0 m0 K
  refine RunH.adv tb_ok [] rfl rfl (by simp <;> omega) ?_
  by_cases hk : kindE s.t.l s.y.l k = 0
  · refine RunH.doesB [] 5 (hc := Tryz.call88) (ho := rfl) (hw := rfl) (hd := rfl) (hf := rfl) (hes := rfl) (hσ := rfl) (hn := rfl) (hV := fun _ => rfl) (hG := fun _ => rfl) (e := fun z : Nat × (Option Addr × Nat) × (Option Addr × Nat) => .av (.val (.tuple #[.pointer (some ⟨z.1, 0, none⟩), intV (pathsE [x])]))) (hC := kinded_ok s k _ _ [x] hk h1 h2) (hp := fun u hu => ⟨hu.fact.2.1, hu.fact.2.2, Sl.own (B := B0) (hu.row (κ := kStr) (l := [x]) (id := 1) rfl) (by simp [hl])⟩) ?_
    rintro ⟨b, ⟨A, c⟩, ⟨B, c2⟩⟩ m1 hm1
    refine RunH.drop ?_
    by_cases hp : pathsE [x] = 0
    · have ha : askE s.t.l s.y.l k [x] = 0 := by unfold askE; rw [if_pos hk]; exact hp
      have hL : findL s.t.l s.y.l k x = foundL (kList k s.t.l s.y.l) x := if_pos ha
      have hE : findE s.t.l s.y.l k x = if foundL (kList k s.t.l s.y.l) x = [] then 6 else 0 := if_pos ha
      refine RunH.adv tb_ok [false] rfl rfl (by simp [hp] <;> omega) ?_
      refine RunH.doesB [] 8 (hc := Tryz.call89) (ho := rfl) (hw := rfl) (hd := rfl) (hf := rfl) (hes := rfl) (hσ := rfl) (hn := rfl) (hV := fun _ => rfl) (hG := fun _ => rfl) (e := fun z : Option Addr × Nat => rowS 5 z.1 (foundL (kList k s.t.l s.y.l) x).length z.2) (hC := found_spec b c c2 A B s.t.l s.y.l k x (by have := (kList_sub hk).2; omega) (kList_sub hk).1 (fun y hy => by have := kList_len hk y hy; omega))
        (hp := fun u hu => ⟨hu.fact.2.1, hu.wk (i := 2) (j := 3) (q := 4) rfl rfl rfl h1 h2⟩) ?_
      rintro ⟨A', c'⟩ m2 hm2
      refine RunH.drop ?_
      by_cases he : foundL (kList k s.t.l s.y.l) x = []
      · rw [he] at hL
        rw [if_pos he] at hE
        rw [he]
        refine RunH.adv tb_ok [true] rfl rfl (by simp <;> omega) ?_
        refine RunH.nilrow 8 kEntry.T kEntry.sz 9 ?_
        refine RunH.ret2 Tryz.func24 rfl rfl rfl fun w hst => ⟨(none, 0), by rw [hL, hE]; rfl, by rw [hL]; exact hst.out [(0, 8)] rfl rfl fun u h => ⟨h.1, trivial⟩⟩
      · have : 0 < (foundL (kList k s.t.l s.y.l) x).length := List.length_pos_iff.2 he
        rw [if_neg he] at hE
        refine RunH.adv tb_ok [false] rfl rfl (by simp <;> omega) ?_
        refine RunH.ret2 Tryz.func24 rfl rfl rfl fun w hst => ⟨(A', c'), by rw [hL, hE]; rfl, by rw [hL]; exact hst.out [(0, 5)] rfl rfl fun u h => ⟨h.1, trivial⟩⟩
    · have ha : askE s.t.l s.y.l k [x] = pathsE [x] := if_pos hk
      have hE : findE s.t.l s.y.l k x = pathsE [x] := by unfold findE; rw [ha, if_neg hp]
      have hL : findL s.t.l s.y.l k x = [] := by unfold findL; rw [ha, if_neg hp]
      refine RunH.adv tb_ok [true] rfl rfl (by simp [hp] <;> omega) ?_
      refine RunH.nilrow 8 kEntry.T kEntry.sz 9 ?_
      refine RunH.ret2 Tryz.func24 rfl rfl rfl fun w hst => ⟨(none, 0), by rw [hL, hE]; rfl, by rw [hL]; exact hst.out [(0, 8)] rfl rfl fun u h => ⟨h.1, trivial⟩⟩
  · have ha : askE s.t.l s.y.l k [x] = kindE s.t.l s.y.l k := if_neg hk
    have hE : findE s.t.l s.y.l k x = kindE s.t.l s.y.l k := by unfold findE; rw [ha, if_neg hk]
    have hL : findL s.t.l s.y.l k x = [] := by unfold findL; rw [ha, if_neg hk]
    refine RunH.gives (ho := rfl) (hw := rfl) (hd := rfl) (hf := rfl) (hes := rfl) (hc := Tryz.call88) (e := .av (.val (.tuple #[.pointer none, intV (kindE s.t.l s.y.l k)]))) (hC := fun w' hst => kinded_bad w' hst.fact.2.1 s hst.fact.2.2 k _ _ _ hk) ?_
    intro m1 hm1
    refine RunH.adv tb_ok [true] rfl rfl (by simp [hk] <;> omega) ?_
    refine RunH.nilrow 8 kEntry.T kEntry.sz 9 ?_
    refine RunH.ret2 Tryz.func24 rfl rfl rfl fun w hst => ⟨(none, 0), by rw [hL, hE]; rfl, by rw [hL]; exact hst.out [(0, 8)] rfl rfl fun u h => ⟨h.1, trivial⟩⟩

def plainE (t y : List Entry) (k : Int) (x : Str) : Int := if findE t y k x = 0 then (if oneB (findL t y k x) = true then 0 else 7) else findE t y k x
def plainS (t y : List Entry) (k : Int) (x : Str) : Sum := if plainE t y k x = 0 then ((findL t y k x).getD 0 zeroE).sum else Sum.zero

theorem findE_ne {t y : List Entry} {k : Int} {x : Str} (h : findE t y k x = 0) : 0 < (findL t y k x).length := by
  unfold findE at h
  split at h
  · rename_i ha
    split at h
    · cases h
    · rename_i hne
      unfold findL
      rw [if_pos ha]; exact List.length_pos_iff.2 hne
  · exact absurd h ‹_›

theorem foundL_len {l : List Entry} {x : Str} (hn : l.length ≤ 300) (hp : ∀ y ∈ l, y.path.length ≤ 54) : (foundL l x).length ≤ 16500 := by
  unfold foundL
  split
  · simp
  · have := flat_len (found1 x) 55 l fun y hy => by have := found1_len x y; have := hp y hy; omega
    omega

theorem findL_len (t y : List Entry) (k : Int) (x : Str) : (findL t y k x).length ≤ 16500 := by
  unfold findL
  split
  · rename_i ha
    have hk := (askE_zero ha).1
    exact foundL_len (kList_sub hk).2 (kList_len hk)
  · simp

theorem Plain_spec (w : World) (s : Spc) (k : Int) (x : Str) (hM : MaxLen w) (hs : s.ok w) (h1 : s.t.l.length ≤ 1000000) (h2 : s.y.l.length ≤ 1000000) :
    Gives Tryz.prog 26 [s.ev.v, intV k, strV x] w (.av (.val (.tuple #[sumV (plainS s.t.l s.y.l k x), intV (plainE s.t.l s.y.l k x)]))) := by
  have hl : lim = 140737488351232 := rfl
  have hfl := findL_len s.t.l s.y.l k x
  refine enterH tb_ok [(0, s.ev), (1, intE k), (2, strE x)] Tryz.func26 rfl Tryz.ntmps26 rfl rfl ?_
  refine RunH.adv tb_ok [] rfl rfl (by simp <;> omega) ?_
  refine RunH.doesB [] 5 (hc := Tryz.call24) (ho := rfl) (hw := rfl) (hd := rfl) (hf := rfl) (hes := rfl) (hσ := rfl) (hn := rfl) (hV := fun _ => rfl) (hG := fun _ => rfl) (e := fun z : Option Addr × Nat => .av (.val (.tuple #[.slice z.1 (findL s.t.l s.y.l k x).length z.2, intV (findE s.t.l s.y.l k x)]))) (hC := Find_spec s k x h1 h2) (hp := fun u hu => ⟨hM.ext hu.fact, hs.ext hu.fact⟩) ?_
  rintro ⟨A, c⟩ m1 hm1
  refine RunH.drop ?_
  by_cases he : findE s.t.l s.y.l k x = 0
  · have hne := findE_ne he
    refine RunH.adv tb_ok [false] rfl rfl (by simp [he] <;> omega) ?_
    refine RunH.gives (ho := rfl) (hw := rfl) (hd := rfl) (hf := rfl) (hes := rfl) (hc := Tryz.call92) (e := .av (.val (.tuple #[sumV (oneS (findL s.t.l s.y.l k x)), .bool (oneB (findL s.t.l s.y.l k x))]))) (hC := fun w' hst => one_spec w' A c _ (Sl.own (hst.row (κ := kEntry) (id := 2) rfl) (by omega)) hne) ?_
    intro m2 hm2
    by_cases ho : oneB (findL s.t.l s.y.l k x) = true
    · have hE : plainE s.t.l s.y.l k x = 0 := by unfold plainE; rw [if_pos he, if_pos ho]
      have hS : plainS s.t.l s.y.l k x = oneS (findL s.t.l s.y.l k x) := by unfold plainS oneS; rw [if_pos hE, if_pos ho]
      refine RunH.adv tb_ok [false] rfl rfl (by simp [ho] <;> omega) ?_
      refine RunH.retBoxT tb_ok (sumE (oneS (findL s.t.l s.y.l k x))) Tryz.func26 rfl rfl rfl rfl rfl fun w' hst => ⟨by rw [hE, hS]; rfl, hst.fact⟩
    · have hE : plainE s.t.l s.y.l k x = 7 := by unfold plainE; rw [if_pos he, if_neg ho]
      have hS : plainS s.t.l s.y.l k x = Sum.zero := by unfold plainS; rw [hE]; rfl
      refine RunH.adv tb_ok [true] rfl rfl (by simp [ho] <;> omega) ?_
      refine RunH.read (sumE Sum.zero) rfl rfl rfl rfl (fun w' a _ ha => ?_) ?_
      · simp only [execOp, List.map_toArray, List.map_nil, build_zero, Sem.run_bind, Result.andThen_ok, Sem.run_pure]
        rfl
      refine RunH.adv tb_ok [] rfl rfl (by simp <;> omega) ?_
      refine RunH.retBoxT tb_ok (sumE Sum.zero) Tryz.func26 rfl rfl rfl rfl rfl fun w' hst => ⟨by rw [hE, hS]; rfl, hst.fact⟩
  · have hE : plainE s.t.l s.y.l k x = findE s.t.l s.y.l k x := if_neg he
    have hS : plainS s.t.l s.y.l k x = Sum.zero := by unfold plainS; rw [hE, if_neg he]
    refine RunH.adv tb_ok [true] rfl rfl (by simp [he] <;> omega) ?_
    refine RunH.read (sumE Sum.zero) rfl rfl rfl rfl (fun w' a _ ha => ?_) ?_
    · simp only [execOp, List.map_toArray, List.map_nil, build_zero, Sem.run_bind, Result.andThen_ok, Sem.run_pure]
      rfl
    refine RunH.adv tb_ok [] rfl rfl (by simp <;> omega) ?_
    refine RunH.retBoxT tb_ok (sumE Sum.zero) Tryz.func26 rfl rfl rfl rfl rfl fun w' hst => ⟨by rw [hE, hS]; rfl, hst.fact⟩
end Go.Proofs.YtagnkcdhenilbaaGreatDoor

namespace Go.Proofs.YtagnkcdhenilbaaGreatDoor
open Go V

theorem V.RunH.againC {P : Program} {f : Fr} {n : Nat} {S : Stops} {R : Ending → World → Prop} {tb : TT} {B0 : Nat} {I : World → Prop} {H : Heap} {nx m : Nat} {env : SEnv} {todo : List Item} {α : Type} {E : α → SEnv} {G : α → Heap} {F : α → World → Prop} {μ : α → Nat} {b : Nat} (y : α) (hm : (todo, fun ds K w => ∃ y, (ds = f.ds ∧ V.Sub (E y) K ∧ St tb B0 (G y) (F y) w) ∧ μ y < b) ∈ S)
    (hs : V.Sub (E y) (kn env)) (hG : ∀ k x, lookH (G y) k = some x → lookH H k = some x) (hμ : μ y < b) (hF : ∀ w, I w → F y w) : RunH P f n tb B0 S R todo env H nx m I :=
  fun _ _ hst => Run.stop hm ⟨y, ⟨rfl, hs, (hst.congr hG).mono fun w' _ => hF w'⟩, hμ⟩

theorem V.RunH.heapC {P : Program} {f : Fr} {n : Nat} {S : Stops} {R : Ending → World → Prop} {tb : TT} {B0 : Nat} {I : World → Prop} {H : Heap} {nx m : Nat} {env : SEnv} {todo : List Item} (G : Heap) (hG : ∀ k x, lookH G k = some x → lookH H k = some x)
    (h : RunH P f n tb B0 S R todo env G nx m I) : RunH P f n tb B0 S R todo env H nx m I :=
  fun w hm hst => h w hm (hst.congr hG)

/-- The digests, each once, in order. -/
def addK (ks : List Sum) (s : Sum) : List Sum := if s ∈ ks then ks else ks ++ [s]
def keysOf (l : List Entry) : List Sum := l.foldl (fun ks e => addK ks e.sum) []
/-- The paths of a digest. -/
def pathsOf (l : List Entry) (s : Sum) : List Str := (l.filter fun e => decide (e.sum = s)).map Entry.path

theorem keysOf_snoc (l : List Entry) (e : Entry) : keysOf (l ++ [e]) = addK (keysOf l) e.sum := by simp [keysOf]
theorem pathsOf_snoc (l : List Entry) (e : Entry) (s : Sum) : pathsOf (l ++ [e]) s = if e.sum = s then pathsOf l s ++ [e.path] else pathsOf l s := by
  unfold pathsOf
  rw [List.filter_append, List.map_append]
  by_cases h : e.sum = s <;> simp [h]
theorem pathsOf_len (l : List Entry) (s : Sum) : (pathsOf l s).length ≤ l.length := by
  unfold pathsOf
  rw [List.length_map]; exact List.length_filter_le _ _

theorem mem_keysOf (s : Sum) (l : List Entry) : s ∈ keysOf l ↔ ∃ e ∈ l, e.sum = s := by
  have key : ∀ (r : List Entry) (ks : List Sum), s ∈ r.foldl (fun ks e => addK ks e.sum) ks ↔ s ∈ ks ∨ ∃ e ∈ r, e.sum = s := by
    intro r
    induction r with
    | nil => intro ks; simp
    | cons e r ih =>
      intro ks
      rw [List.foldl_cons, ih]
      unfold addK
      by_cases h : e.sum ∈ ks
      · rw [if_pos h]
        constructor
        · rintro (h1 | ⟨e', h1, h2⟩)
          · exact .inl h1
          · exact .inr ⟨e', by simp [h1], h2⟩
        · rintro (h1 | ⟨e', h1, h2⟩)
          · exact .inl h1
          · rcases List.mem_cons.1 h1 with rfl | h1
            · exact .inl (h2 ▸ h)
            · exact .inr ⟨e', h1, h2⟩
      · rw [if_neg h]
        constructor
        · rintro (h1 | ⟨e', h1, h2⟩)
          · rcases List.mem_append.1 h1 with h1 | h1
            · exact .inl h1
            · simp at h1; exact .inr ⟨e, by simp, h1.symm⟩
          · exact .inr ⟨e', by simp [h1], h2⟩
        · rintro (h1 | ⟨e', h1, h2⟩)
          · exact .inl (by simp [h1])
          · rcases List.mem_cons.1 h1 with rfl | h1
            · exact .inl (by simp [h2])
            · exact .inr ⟨e', h1, h2⟩
  rw [keysOf, key]; simp

theorem pathsOf_nil {l : List Entry} {s : Sum} (h : s ∉ keysOf l) : pathsOf l s = [] := by
  unfold pathsOf
  rw [List.map_eq_nil_iff, List.filter_eq_nil_iff]
  intro e he h2
  exact h ((mem_keysOf s l).2 ⟨e, he, by simpa using h2⟩)

abbrev Zr := List (Sum × (Option Addr × Nat))

def rowsH (l : List Entry) : Nat → Zr → Heap
  | _, [] => []
  | j, p :: r => (j + 100, rowE kStr p.2.1 p.2.2 (pathsOf l p.1)) :: rowsH l (j + 1) r
def esZ (l : List Entry) (z : Zr) : List (Sum × Value) := z.map fun p => (p.1, .slice p.2.1 (pathsOf l p.1).length p.2.2)

theorem rowsH_look (l : List Entry) : ∀ (z : Zr) (j i : Nat) (h : i < z.length), lookH (rowsH l j z) ((j + i) + 100) = rowE kStr z[i].2.1 z[i].2.2 (pathsOf l z[i].1)
  | [], _, _, h => by cases h
  | p :: r, j, 0, _ => by unfold rowsH; rw [lookH_cons, if_pos (show j + 100 = (j + 0) + 100 by omega)]; rfl
  | p :: r, j, i + 1, h => by
    unfold rowsH
    rw [lookH_cons, if_neg (by omega), show j + (i + 1) = (j + 1) + i by omega]
    exact rowsH_look l r (j + 1) i (by simpa using h)

theorem rowsH_some (l : List Entry) : ∀ (z : Zr) (j k : Nat) (x : HE), lookH (rowsH l j z) k = some x → ∃ i, ∃ h : i < z.length, k = (j + i) + 100 ∧ rowE kStr z[i].2.1 z[i].2.2 (pathsOf l z[i].1) = some x
  | [], _, _, _, h => by cases h
  | p :: r, j, k, x, h => by
    unfold rowsH at h
    rw [lookH_cons] at h
    split at h
    · rename_i e; exact ⟨0, by simp, by omega, h⟩
    · obtain ⟨i, hi, e, hx⟩ := rowsH_some l r (j + 1) k x h
      exact ⟨i + 1, by simpa using hi, by omega, hx⟩

theorem findI_esZ (l : List Entry) (s : Sum) : ∀ (z : Zr) (n : Nat), match findI s (esZ l z) n with
    | some (i, v) => n ≤ i ∧ ∃ h : i - n < z.length, z[i - n].1 = s ∧ v = .slice z[i - n].2.1 (pathsOf l s).length z[i - n].2.2
    | none => s ∉ z.map (·.1)
  | [], n => by simp [esZ, findI]
  | p :: r, n => by
    have ih := findI_esZ l s r (n + 1)
    unfold esZ findI
    simp only [List.map_cons]
    by_cases e : s = p.1
    · rw [if_pos e]
      refine ⟨Nat.le_refl _, by simp, by simp [e], by simp [e]⟩
    · rw [if_neg e]
      unfold esZ at ih
      cases hf : findI s (r.map fun p => (p.1, Value.slice p.2.1 (pathsOf l p.1).length p.2.2)) (n + 1) with
      | none => rw [hf] at ih; simp only [] at ih ⊢; simp [e, ih]
      | some q =>
        rw [hf] at ih
        obtain ⟨i, v⟩ := q
        obtain ⟨h1, h2, h3, h4⟩ := ih
        have hi : i - n = (i - (n + 1)) + 1 := by omega
        refine ⟨by omega, by rw [hi]; simpa using h2, ?_, ?_⟩
        · simp only [hi, List.getElem_cons_succ]; exact h3
        · simp only [hi, List.getElem_cons_succ]; exact h4

theorem keysOf_nodup : ∀ (l : List Entry) (ks : List Sum), ks.Nodup → (l.foldl (fun ks e => addK ks e.sum) ks).Nodup
  | [], _, h => h
  | e :: r, ks, h => by
    rw [List.foldl_cons]
    refine keysOf_nodup r _ ?_
    unfold addK
    split
    · exact h
    · rename_i hn
      rw [List.nodup_append]
      exact ⟨h, by simp, fun a ha b hb => by simp at hb; subst hb; rintro rfl; exact hn ha⟩

theorem lookH_app (R : Heap) (k : Nat) : ∀ (C : Heap), lookH (C ++ R) k = if k ∈ C.map (·.1) then lookH C k else lookH R k
  | [] => by simp
  | p :: C => by
    rw [List.cons_append, lookH_cons, lookH_app R k C, List.map_cons, lookH_cons]
    by_cases e : p.1 = k
    · rw [if_pos e, if_pos (by simp [e]), if_pos e]
    · rw [if_neg e]
      by_cases h : k ∈ C.map (·.1)
      · rw [if_pos h, if_pos (by simp [h]), if_neg e]
      · rw [if_neg h, if_neg (by simp only [List.mem_cons, not_or]; exact ⟨fun h' => e h'.symm, h⟩)]

theorem canonZ {C H : Heap} {l : List Entry} {z : Zr} (hC : SubH C H) (hr : ∀ i (h : i < z.length), lookH H (i + 100) = rowE kStr z[i].2.1 z[i].2.2 (pathsOf l z[i].1)) : ∀ k x, lookH (C ++ rowsH l 0 z) k = some x → lookH H k = some x := by
  intro k x h
  rw [lookH_app] at h
  split at h
  · exact hC.look k x h
  · obtain ⟨i, hi, rfl, hx⟩ := rowsH_some l z 0 k x h
    rw [Nat.zero_add, hr i hi]; exact hx

theorem rowsZ {C : Heap} {l : List Entry} {z : Zr} (hC : C.all (fun p => Nat.blt p.1 100) = true) (i : Nat) (h : i < z.length) : lookH (C ++ rowsH l 0 z) (i + 100) = rowE kStr z[i].2.1 z[i].2.2 (pathsOf l z[i].1) := by
  rw [lookH_append _ _ _ fun p hp => by
    have := List.all_eq_true.1 hC p hp
    have := Nat.le_of_ble_eq_true this
    omega]
  have := rowsH_look l z 0 i h
  rw [Nat.zero_add] at this
  exact this

theorem esZ_get (l : List Entry) (z : Zr) (i : Nat) : (esZ l z)[i]? = (z[i]?).map fun p => (p.1, .slice p.2.1 (pathsOf l p.1).length p.2.2) := by simp [esZ]

theorem run_zero {P : Program} {tb : TT} (hk : tb.Ok P) {e : TypeId} {i : TypeInfo} {z : Value} (hi : tb.get e = some i) (hz : i.zero = some z) (w : World) : (zeroValue e).run P w = .ok z w := by
  have := hk.get hi
  simp [zeroValue, typeInfo, program, Sem.run, this, hz]

theorem zero_strs (w : World) : (zeroValue 28).run Tryz.prog w = .ok (.slice none 0 0) w := run_zero tb_ok (i := Tryz.t28) rfl (by kernel_rfl) w

theorem und_by : Tryz.prog.underlying 126 = some (.map 39 28) := tb_ok.und (by kernel_rfl)

set_option maxRecDepth 10000 in
/-- by[s] = append(by[s], ..): the entry, and its row. -/
theorem entryZ {n : Nat} {B0 : Nat} {I : World → Prop} {H : Heap} {m : Nat} {env : SEnv} {d b : Nat} {ty : TypeId} {ps : String} {af : Array Edge} {gd : Option (Nat × Bool)} {x y : Operand} {ex ey : EV} {s : Sum} (l : List Entry) (z : Zr)
    (hd : Nat.blt d n = true) (hx : evE env x = some ex) (hxv : ex.v = .map (some b)) (hy : evE env y = some ey) (hyv : ey.v = sumV s) (hH : lookH H 5 = mapE b sumV (esZ l z)) (hz : z.map (·.1) = keysOf l)
    (hr : ∀ j (h : j < z.length), lookH H (j + 100) = rowE kStr z[j].2.1 z[j].2.2 (pathsOf l z[j].1)) :
    OpGo Tryz.prog tb B0 n ⟨some d, .mapEntry 126 x y, ty, ps, af, gd⟩ env H m I (fun q : Zr × Nat × Option Addr × Nat => (d, .av (.val (.tuple #[.slice q.2.2.1 (pathsOf l s).length q.2.2.2, .int .i64 q.2.1]))) :: env)
      (fun q => (q.2.1 + 100, rowE kStr q.2.2.1 q.2.2.2 (pathsOf l s)) :: (5, mapE b sumV (esZ l q.1)) :: H)
      (fun q u => I u ∧ q.1[q.2.1]? = some (s, q.2.2.1, q.2.2.2) ∧ q.1.map (·.1) = addK (keysOf l) s ∧ (q.1 = z ∨ q.1 = z ++ [(s, none, 0)] ∧ q.2.1 = z.length)) := by
  intro w a hm hst ha
  have hfz := findI_esZ l s z 0
  cases hf : findI s (esZ l z) 0 with
  | some p =>
    obtain ⟨i, v⟩ := p
    rw [hf] at hfz
    simp only [Nat.sub_zero] at hfz
    obtain ⟨_, hi, hs, rfl⟩ := hfz
    have hop := OpGo.mapEntryHit (tb := tb) (B0 := B0) (I := I) (m := m) (ty := ty) (ps := ps) (af := af) (gd := gd) key_sum und_by hd hx hxv hy hyv hH hf
    refine wp_no ?_ (hop w a hm hst ha)
    rintro a' w' ⟨⟨⟩, h1, h2, h3⟩
    refine ⟨(z, i, z[i].2.1, z[i].2.2), h1, h2, (h3.congr fun k q hq => ?_).mono fun u _ hu => ⟨hu, by rw [List.getElem?_eq_getElem hi, ← hs], ?_, .inl rfl⟩⟩
    · rw [lookH_cons] at hq
      split at hq
      · rename_i e
        rw [← e, lookH_cons, if_neg (by omega), hr i hi, hs]; exact hq
      · exact hq
    · rw [hz]
      unfold addK
      rw [if_pos]
      rw [← hz, ← hs]
      exact List.mem_map.2 ⟨z[i], List.getElem_mem hi, rfl⟩
  | none =>
    rw [hf] at hfz
    simp only [] at hfz
    have hno : s ∉ keysOf l := by rw [← hz]; exact hfz
    have hop := OpGo.mapEntryMiss (tb := tb) (B0 := B0) (I := I) (m := m) (ty := ty) (ps := ps) (af := af) (gd := gd) key_sum und_by zero_strs hd hx hxv hy hyv hH hf
    refine wp_no ?_ (hop w a hm hst ha)
    rintro a' w' ⟨⟨⟩, h1, h2, h3⟩
    have hp := pathsOf_nil hno
    have hlen : (esZ l z).length = z.length := by simp [esZ]
    refine ⟨(z ++ [(s, none, 0)], z.length, none, 0), ?_, h2, ?_⟩
    · rw [hlen] at h1; rw [hp]; exact h1
    · have h4 := (h3.nilrow (z.length + 100) kStr).mono (J := fun u => I u ∧ (z ++ [(s, none, 0)])[z.length]? = some (s, none, 0) ∧ (z ++ [(s, (none : Option Addr), (0 : Nat))]).map (·.1) = addK (keysOf l) s ∧ (z ++ [(s, none, 0)] = z ∨ z ++ [(s, none, 0)] = z ++ [(s, none, 0)] ∧ z.length = z.length)) fun u _ hu => ⟨hu, by simp, by rw [List.map_append, hz]; unfold addK; rw [if_neg hno]; rfl, .inr ⟨rfl, rfl⟩⟩
      rw [hp]
      dsimp only
      have he : esZ l (z ++ [(s, none, 0)]) = esZ l z ++ [(s, .slice none 0 0)] := by simp [esZ, hp]
      rw [he]
      exact h4

def namesE (t y : List Entry) (k : Int) (x : Sum) : Int := if kindE t y k = 0 then (if pathsOf (kList k t y) x = [] then 6 else 0) else kindE t y k
def namesL (t y : List Entry) (k : Int) (x : Sum) : List Str := if kindE t y k = 0 then pathsOf (kList k t y) x else []

set_option maxRecDepth 10000 in
theorem Names_spec (s : Spc) (k : Int) (x : Sum) (h1 : s.t.l.length ≤ 1000000) (h2 : s.y.l.length ≤ 1000000) :
    Does Tryz.prog tb 29 [s.ev.v, intV k, sumV x] [] (fun u => MaxLen u ∧ s.ok u) (fun z : Option Addr × Nat => .tuple #[.slice z.1 (namesL s.t.l s.y.l k x).length z.2, intV (namesE s.t.l s.y.l k x)]) (fun z => [(0, rowE kStr z.1 z.2 (namesL s.t.l s.y.l k x))]) (fun _ _ _ => True) := by
  have hl : lim = 140737488351232 := rfl
  refine Does.enter tb_ok [(0, s.ev), (1, intE k), (2, sumE x)] Tryz.func29 rfl Tryz.ntmps29 rfl rfl 0 ?_
  intro B0 m0 K
  refine RunH.adv tb_ok [] rfl rfl (by simp <;> omega) ?_
  by_cases hk : kindE s.t.l s.y.l k = 0
  · refine RunH.doesB [] 5 (hc := Tryz.call88) (ho := rfl) (hw := rfl) (hd := rfl) (hf := rfl) (hes := rfl) (hσ := rfl) (hn := rfl) (hV := fun _ => rfl) (hG := fun _ => rfl) (e := fun z : Nat × (Option Addr × Nat) × (Option Addr × Nat) => .av (.val (.tuple #[.pointer (some ⟨z.1, 0, none⟩), intV 0]))) (hC := kinded_ok s k none 0 [] hk h1 h2) (hp := fun u hu => ⟨hu.fact.2.1, hu.fact.2.2, Sl.void u⟩) ?_
    rintro ⟨b, ⟨A, c⟩, ⟨B, c2⟩⟩ m1 hm1
    refine RunH.drop ?_
    refine RunH.adv tb_ok [false] rfl rfl (by simp <;> omega) ?_
    refine RunH.go (i := 0) rfl rfl (OpGo.makeMap 5 sumV rfl) 6 ?_
    rintro ⟨⟩ m2 hm2
    refine RunH.adv tb_ok [] rfl rfl (by simp <;> omega) ?_
    refine RunH.gives (ho := rfl) (hw := rfl) (hd := rfl) (hf := rfl) (hes := rfl) (hc := Tryz.call94) (e := .av (.val (.pointer (some ⟨b, kOff k, none⟩)))) (hC := fun w' _ => list_spec w' b k) ?_
    intro m3 hm3
    refine RunH.adv tb_ok [] rfl rfl (by simp <;> omega) ?_
    refine RunH.loadS (slE (kA k A B) (kList k s.t.l s.y.l).length (kA k c c2)) rfl rfl rfl rfl (fun w hst => (hst.wk (i := 2) (j := 3) (q := 4) (b := b) (A := A) (c := c) (B := B) (c2 := c2) (t := s.t.l) (y := s.y.l) rfl rfl rfl h1 h2).load k) ?_
    have hsub := kList_sub hk
    have hlen := kList_len hk
    have hwk : ∀ {I : World → Prop} {Hx : Heap} {w : World}, St tb B0 Hx I w → lookH Hx 2 = wkE b (slV A s.t.l.length c) (slV B s.y.l.length c2) → lookH Hx 3 = rowE kEntry A c s.t.l → lookH Hx 4 = rowE kEntry B c2 s.y.l → Sl kEntry w (kA k A B) (kA k c c2) (kList k s.t.l s.y.l) :=
      fun hst a1 a2 a3 => (hst.wk a1 a2 a3 h1 h2).sl k
    have hE : namesE s.t.l s.y.l k x = if pathsOf (kList k s.t.l s.y.l) x = [] then 6 else 0 := if_pos hk
    have hL : namesL s.t.l s.y.l k x = pathsOf (kList k s.t.l s.y.l) x := if_pos hk
    generalize hLe : kList k s.t.l s.y.l = L at *
    refine RunH.adv tb_ok [] rfl rfl (by simp <;> omega) ?_
    have hLn := hsub.2
    refine RunH.loop (α := Nat × Zr) (fun y => [(5, .av (.box 1 (m0 + 1) 0)), (10, .av (.val (.map (some m1)))), (27, slE (kA k A B) L.length (kA k c c2)), (28, intE L.length), (29, intE y.1)])
      (fun y => [(1, some (.box (m0 + 1) [.val (sumV x)] 39)), (2, wkE b (slV A s.t.l.length c) (slV B s.y.l.length c2)), (3, rowE kEntry A c s.t.l), (4, rowE kEntry B c2 s.y.l), (5, mapE m1 sumV (esZ (L.take y.1) y.2))] ++ rowsH (L.take y.1) 0 y.2)
      (fun y u => (K u ∧ MaxLen u ∧ s.ok u) ∧ y.1 ≤ L.length ∧ y.2.map (·.1) = keysOf (L.take y.1)) (fun y => L.length - y.1) (0, []) rfl (by unfold SubH; kernel_rfl) (fun u h => ⟨h, Nat.zero_le _, rfl⟩) ?_
    rintro ⟨i, z⟩ m4
    refine RunH.pure (fun w' h => h.2) fun ⟨(hi : i ≤ L.length), (hz : z.map (·.1) = keysOf (L.take i))⟩ => ?_
    by_cases hlt : i < L.length
    · have hts : L.take (i + 1) = L.take i ++ [L[i]] := List.take_succ_eq_append_getElem hlt
      refine RunH.pureS (fun w hst => (hwk hst rfl rfl rfl).ptr hlt) fun hptr => ?_
      refine RunH.adv tb_ok [true] rfl rfl (by simp [hptr] <;> omega) ?_
      refine RunH.loadS (.st (entryF L[i])) rfl rfl rfl rfl (fun w hst => (hwk hst rfl rfl rfl).load hlt) ?_
      refine RunH.adv tb_ok [] rfl rfl (by simp <;> omega) ?_
      have hsl : ∀ s, (pathsOf (L.take i) s).length ≤ 300 := fun s => by have := pathsOf_len (L.take i) s; rw [List.length_take] at this; omega
      refine RunH.go (i := 6) rfl rfl (entryZ (s := L[i].sum) (L.take i) z rfl rfl rfl rfl rfl rfl hz (fun j h => rowsZ (C := [(7, _), (6, _), (6, _), (1, _), (2, _), (3, _), (4, _), (5, _)]) rfl j h)) 8 ?_
      rintro ⟨z1, j, A1, c1⟩ m5 hm5
      refine RunH.pure (fun w h => h.2) fun ⟨hg, hk1, hzz⟩ => ?_
      dsimp only at hg hk1 hzz ⊢
      have hj : j < z1.length := (List.getElem?_eq_some_iff.1 hg).1
      have hgj : z1[j] = (L[i].sum, A1, c1) := (List.getElem?_eq_some_iff.1 hg).2
      refine RunH.heapC ([(1, some (.box (m0 + 1) [.val (sumV x)] 39)), (2, wkE b (slV A s.t.l.length c) (slV B s.y.l.length c2)), (3, rowE kEntry A c s.t.l), (4, rowE kEntry B c2 s.y.l), (5, mapE m1 sumV (esZ (L.take i) z1)), (7, rowE kStr (some ⟨m4 + 1, 0, none⟩) 1 [L[i].path])] ++ rowsH (L.take i) 0 z1)
        (canonZ (by unfold SubH; kernel_rfl) fun i' h' => ?_) ?_
      · rcases hzz with rfl | ⟨rfl, rfl⟩
        · by_cases e : i' = j
          · subst e
            rw [lookH_cons, if_pos rfl, hgj]
          · rw [lookH_cons, if_neg (by omega), lookH_cons, if_neg (by omega)]
            exact rowsZ (C := [(7, _), (6, _), (6, _), (1, _), (2, _), (3, _), (4, _), (5, _)]) rfl i' h'
        · by_cases e : i' = z.length
          · subst e
            rw [lookH_cons, if_pos rfl, hgj]
          · have hlt' : i' < z.length := by rw [List.length_append] at h'; simp at h'; omega
            rw [lookH_cons, if_neg (by omega), lookH_cons, if_neg (by omega), List.getElem_append_left hlt']
            exact rowsZ (C := [(7, _), (6, _), (6, _), (1, _), (2, _), (3, _), (4, _), (5, _)]) rfl i' hlt'
      refine RunH.slots [(5, .av (.box 1 (m0 + 1) 0)), (10, .av (.val (.map (some m1)))), (27, slE (kA k A B) L.length (kA k c c2)), (28, intE L.length), (29, intE i), (33, .av (.val (.map (some m1)))), (39, rowS 7 (some ⟨m4 + 1, 0, none⟩) 1 1), (40, .av (.val (.tuple #[Value.slice A1 (pathsOf (L.take i) L[i].sum).length c1, .int .i64 j])))] rfl ?_
      refine RunH.adv tb_ok [] rfl rfl (by simp <;> omega) ?_
      refine RunH.slots [(5, .av (.box 1 (m0 + 1) 0)), (10, .av (.val (.map (some m1)))), (27, slE (kA k A B) L.length (kA k c c2)), (28, intE L.length), (29, intE i), (33, .av (.val (.map (some m1)))), (39, rowS 7 (some ⟨m4 + 1, 0, none⟩) 1 1), (40, .av (.val (.tuple #[Value.slice A1 (pathsOf (L.take i) L[i].sum).length c1, .int .i64 j]))), (36, rowS (j + 100) A1 (pathsOf (L.take i) L[i].sum).length c1)] rfl ?_
      refine RunH.appendK (κ := kStr) (id := j + 100) (r := [L[i].path]) (l := pathsOf (L.take i) L[i].sum) rfl rfl rfl rfl rfl rfl elt_str ?_ rfl (fun w hst => hst.liesRow (κ := kStr) (l := [L[i].path]) (id := 7) rfl (by simp [hl])) (by have := hsl L[i].sum; simp; omega) (by have := hsl L[i].sum; simp; omega) ?_
      · rw [rowsZ rfl j hj, hgj]
      intro A2 c3 m6 hm6
      have hnd : (z1.map (·.1)).Nodup := by rw [hk1, ← keysOf_snoc]; exact keysOf_nodup _ [] List.nodup_nil
      have hps : pathsOf (L.take (i + 1)) L[i].sum = pathsOf (L.take i) L[i].sum ++ [L[i].path] := by rw [hts, pathsOf_snoc, if_pos rfl]
      have hpo : ∀ i' (h' : i' < z1.length), i' ≠ j → pathsOf (L.take (i + 1)) z1[i'].1 = pathsOf (L.take i) z1[i'].1 := fun i' h' hne => by
        rw [hts, pathsOf_snoc, if_neg]
        intro e
        refine hne ?_
        have h3 : (z1.map (·.1))[i']'(by simpa using h') = (z1.map (·.1))[j]'(by simpa using hj) := by simp [hgj, ← e]
        exact (List.getElem_inj hnd).1 h3
      have hes : (esZ (L.take i) z1).set j (L[i].sum, .slice A2 (pathsOf (L.take i) L[i].sum ++ [L[i].path]).length c3) = esZ (L.take (i + 1)) (z1.set j (L[i].sum, A2, c3)) := by
        apply List.ext_getElem?
        intro q
        rw [List.getElem?_set, esZ_get, esZ_get, List.getElem?_set]
        have hel : (esZ (L.take i) z1).length = z1.length := by simp [esZ]
        rw [hel]
        by_cases e : j = q
        · subst e
          rw [if_pos rfl, if_pos rfl, if_pos hj, if_pos hj]; simp [hps]
        · rw [if_neg e, if_neg e]
          cases hq : z1[q]? with
          | none => rfl
          | some p =>
            obtain ⟨hq1, rfl⟩ := List.getElem?_eq_some_iff.1 hq
            simp only [Option.map_some]
            rw [hpo q hq1 (fun h => e h.symm)]
      refine RunH.adv tb_ok [] rfl rfl (by simp <;> omega) ?_
      refine RunH.go (i := 10) rfl rfl (OpGo.entryStore (id := 5) (b := m1) (kv := sumV) (es := esZ (L.take i) z1) (k := L[i].sum) (i := j) (v := .slice A1 (pathsOf (L.take i) L[i].sum).length c1) rfl rfl rfl rfl rfl rfl (by rw [esZ_get, hg]; rfl)) 8 ?_
      rintro ⟨⟩ m7 hm7
      refine RunH.adv tb_ok [] rfl rfl (by simp <;> omega) ?_
      refine RunH.againC (i + 1, z1.set j (L[i].sum, A2, c3)) (.head _) rfl ?_ (by show L.length - (i + 1) < L.length - i; omega) fun u h => ⟨h.1.1, by show i + 1 ≤ L.length; omega, ?_⟩
      · dsimp only
        rw [← hes]
        refine canonZ (by unfold SubH; kernel_rfl) fun i' h' => ?_
        rw [List.length_set] at h'
        rw [lookH_cons, if_neg (by omega), List.getElem_set]
        by_cases e : j = i'
        · subst e
          rw [lookH_cons, if_pos rfl, if_pos rfl, hps]
        · rw [lookH_cons, if_neg (by omega), if_neg e, hpo i' h' (fun h => e h.symm)]
          exact rowsZ rfl i' h'
      · dsimp only
        rw [hts, keysOf_snoc, List.map_set, ← hk1]
        apply List.ext_getElem?
        intro q
        rw [List.getElem?_set]
        by_cases e : j = q
        · subst e; rw [if_pos rfl]; simp [hj, hgj]
        · rw [if_neg e]
    · have hti : L.take i = L := List.take_of_length_le (by omega)
      rw [hti] at hz
      dsimp only
      rw [hti]
      have hpl := pathsOf_len L x
      refine RunH.adv tb_ok [false] rfl rfl (by simp <;> omega) ?_
      have hfz := findI_esZ L x z 0
      cases hf : findI x (esZ L z) 0 with
      | some p =>
        obtain ⟨j, v⟩ := p
        rw [hf] at hfz
        simp only [Nat.sub_zero] at hfz
        obtain ⟨_, hj, hs, rfl⟩ := hfz
        have hne : pathsOf L x ≠ [] := by
          intro e
          have : x ∈ keysOf L := by rw [← hz, ← hs]; exact List.mem_map.2 ⟨z[j], List.getElem_mem hj, rfl⟩
          obtain ⟨e', h1, h2⟩ := (mem_keysOf x L).1 this
          unfold pathsOf at e
          rw [List.map_eq_nil_iff, List.filter_eq_nil_iff] at e
          exact e e' h1 (by simpa using h2)
        have hpos : 0 < (pathsOf L x).length := List.length_pos_iff.2 hne
        rw [if_neg hne] at hE
        have hgm : (getM (esZ L z) x).getD (.slice none 0 0) = .slice z[j].2.1 (pathsOf L x).length z[j].2.2 := by unfold getM; rw [hf]; rfl
        refine RunH.go (i := 2) rfl rfl (OpGo.lookupV (es := esZ L z) _ key_sum und_by zero_strs rfl rfl rfl rfl rfl (fun w hst => (hst.holds 5 _ rfl).2) hgm) 8 ?_
        rintro ⟨⟩ m5 hm5
        refine RunH.adv tb_ok [false] rfl rfl (by simp <;> omega) ?_
        refine RunH.go (i := 2) rfl rfl (OpGo.lookupV (es := esZ L z) _ key_sum und_by zero_strs rfl rfl rfl rfl rfl (fun w hst => (hst.holds 5 _ rfl).2) hgm) 8 ?_
        rintro ⟨⟩ m6 hm6
        refine RunH.adv tb_ok [] rfl rfl (by simp <;> omega) ?_
        refine RunH.ret2 Tryz.func29 rfl rfl rfl fun w hst => ⟨(z[j].2.1, z[j].2.2), by rw [hL, hE]; rfl, ?_⟩
        rw [hL]
        refine (hst.sel (G := [(0, rowE kStr z[j].2.1 z[j].2.2 (pathsOf L x))]) (Sel.of [(0, j + 100)] ?_ rfl)).mono fun u _ h => ⟨h.1.1, trivial⟩
        show [Option.map HE.key (lookH (_ ++ rowsH L 0 z) (j + 100))] = _
        rw [rowsZ rfl j hj, hs]; rfl
      | none =>
        rw [hf] at hfz
        have hnil : pathsOf L x = [] := pathsOf_nil (by rw [← hz]; exact hfz)
        rw [if_pos hnil] at hE
        rw [hnil] at hL
        have hgm : (getM (esZ L z) x).getD (.slice none 0 0) = .slice none 0 0 := by unfold getM; rw [hf]; rfl
        refine RunH.go (i := 2) rfl rfl (OpGo.lookupV (es := esZ L z) _ key_sum und_by zero_strs rfl rfl rfl rfl rfl (fun w hst => (hst.holds 5 _ rfl).2) hgm) 8 ?_
        rintro ⟨⟩ m5 hm5
        refine RunH.adv tb_ok [true] rfl rfl (by simp <;> omega) ?_
        refine RunH.nilrow 8 kStr.T kStr.sz 9 ?_
        refine RunH.heapC [(8, rowE kStr none 0 [])] (fun k x hx => ?_) ?_
        · rw [lookH_cons] at hx ⊢
          split at hx
          · rename_i e; rw [if_pos e]; exact hx
          · cases hx
        refine RunH.ret2 Tryz.func29 rfl rfl rfl fun w hst => ⟨(none, 0), by rw [hL, hE]; rfl, by rw [hL]; exact hst.out [(0, 8)] rfl rfl fun u h => ⟨h.1.1, trivial⟩⟩
  · have hE : namesE s.t.l s.y.l k x = kindE s.t.l s.y.l k := if_neg hk
    have hL : namesL s.t.l s.y.l k x = [] := if_neg hk
    refine RunH.gives (ho := rfl) (hw := rfl) (hd := rfl) (hf := rfl) (hes := rfl) (hc := Tryz.call88) (e := .av (.val (.tuple #[.pointer none, intV (kindE s.t.l s.y.l k)]))) (hC := fun w' hst => kinded_bad w' hst.fact.2.1 s hst.fact.2.2 k _ _ _ hk) ?_
    intro m1 hm1
    refine RunH.adv tb_ok [true] rfl rfl (by simp [hk] <;> omega) ?_
    refine RunH.nilrow 8 kStr.T kStr.sz 9 ?_
    refine RunH.ret2 Tryz.func29 rfl rfl rfl fun w hst => ⟨(none, 0), by rw [hL, hE]; rfl, by rw [hL]; exact hst.out [(0, 8)] rfl rfl fun u h => ⟨h.1, trivial⟩⟩
end Go.Proofs.YtagnkcdhenilbaaGreatDoor

namespace Go.Proofs.YtagnkcdhenilbaaGreatDoor
open Go V

theorem V.RunH.free {P : Program} {f : Fr} {n : Nat} {S : Stops} {R : Ending → World → Prop} {tb : TT} {B0 : Nat} {I : World → Prop} {H : Heap} {nx m : Nat} {env : SEnv} {todo : List Item} {i : Nat} {x : HE} (hx : lookH H i = some x)
    (h : RunH P f n tb B0 S R todo env ((i, none) :: H) nx m (fun u => I u ∧ x.holds tb B0 u)) : RunH P f n tb B0 S R todo env H nx m I :=
  fun w hm hst => h w hm (hst.free hx)

/-- A text that means entries of one digest, which is x. -/
def goodB (l : List Entry) (x : Sum) (t : Str) : Bool := oneB (foundL l t) && decide (((foundL l t).getD 0 zeroE).sum = x)
/-- What is better. -/
def better (b : Str × Nat) (e : Str) (n : Nat) : Bool := decide (n < b.2) || decide (n = b.2) && decide (orI [(e.length : Int) - b.1.length, cmpS3 e b.1] < 0)
/-- The first good end of a path. -/
def nameStep (l : List Entry) (x : Sum) (b : Str × Nat) (p : Str) : Str × Nat :=
  match (List.range (endsOf p).length).find? (fun j => goodB l x ((endsOf p).getD j [])) with
  | some j => if better b ((endsOf p).getD j []) (j + 1) = true then ((endsOf p).getD j [], j + 1) else b
  | none => b
def nameFold (l : List Entry) (x : Sum) (ps : List Str) : Str × Nat := ps.foldl (nameStep l x) ([], 6)

def nameS (t y : List Entry) (k : Int) (x : Sum) : Str := if namesE t y k x = 0 then (nameFold (kList k t y) x (namesL t y k x)).1 else []

theorem foundL_ne {l : List Entry} {e : Entry} (he : e ∈ l) {t : Str} (ht : t ∈ endsOf e.path) : 0 < (foundL l t).length := by
  unfold foundL
  split
  · simp
  · rw [List.length_pos_iff]
    intro h
    rw [List.flatMap_eq_nil_iff] at h
    have := h e he
    unfold found1 at this
    rw [List.map_eq_nil_iff, List.filter_eq_nil_iff] at this
    exact this t ht (by simp)

theorem nameStep_stop {l : List Entry} {x : Sum} {b : Str × Nat} {p : Str} {j : Nat} (hj : j < (endsOf p).length) (hp : ∀ i (h : i < (endsOf p).length), i < j → goodB l x (endsOf p)[i] = false) (hg : goodB l x (endsOf p)[j] = true) :
    nameStep l x b p = if better b (endsOf p)[j] (j + 1) = true then ((endsOf p)[j], j + 1) else b := by
  have hgd : ∀ i (h : i < (endsOf p).length), (endsOf p).getD i [] = (endsOf p)[i] := fun i h => by rw [List.getD_eq_getElem?_getD, List.getElem?_eq_getElem h]; rfl
  have : (List.range (endsOf p).length).find? (fun j => goodB l x ((endsOf p).getD j [])) = some j := by
    rw [List.find?_range_eq_some]
    exact ⟨by rw [hgd j hj]; exact hg, List.mem_range.2 hj, fun i hi => by rw [hgd i (by omega), hp i (by omega) hi]; rfl⟩
  unfold nameStep
  rw [this]
  simp only [hgd j hj]

theorem nameStep_none {l : List Entry} {x : Sum} {b : Str × Nat} {p : Str} (hp : ∀ i (h : i < (endsOf p).length), goodB l x (endsOf p)[i] = false) : nameStep l x b p = b := by
  have hgd : ∀ i (h : i < (endsOf p).length), (endsOf p).getD i [] = (endsOf p)[i] := fun i h => by rw [List.getD_eq_getElem?_getD, List.getElem?_eq_getElem h]; rfl
  have : (List.range (endsOf p).length).find? (fun j => goodB l x ((endsOf p).getD j [])) = none := by
    rw [List.find?_range_eq_none]
    intro i hi
    rw [hgd i hi, hp i hi]; rfl
  unfold nameStep
  rw [this]

theorem endsOf_le (p : Str) (j : Nat) (h : j < (endsOf p).length) : ((endsOf p)[j]).length ≤ p.length := by
  rw [endsOf_get]
  have := joinD_drop_len (words p) ((words p).length - 1 - j)
  rw [joinD_words] at this
  exact this

theorem nameStep_len {l : List Entry} {x : Sum} {b : Str × Nat} {p : Str} {q : Nat} (hb : b.1.length ≤ q) (hp : p.length ≤ q) : (nameStep l x b p).1.length ≤ q := by
  unfold nameStep
  split
  · rename_i j hj
    rw [List.find?_range_eq_some] at hj
    have hlt := List.mem_range.1 hj.2.1
    have h1 := endsOf_le p j hlt
    split
    · show ((endsOf p).getD j []).length ≤ q
      rw [List.getD_eq_getElem?_getD, List.getElem?_eq_getElem hlt]
      exact Nat.le_trans h1 hp
    · exact hb
  · exact hb

theorem nameFold_len {l : List Entry} {x : Sum} {q : Nat} : ∀ (ps : List Str) (b : Str × Nat), b.1.length ≤ q → (∀ p ∈ ps, p.length ≤ q) → (ps.foldl (nameStep l x) b).1.length ≤ q
  | [], b, hb, _ => hb
  | p :: r, b, hb, h => nameFold_len r _ (nameStep_len hb (h p (by simp))) fun p' hp' => h p' (List.mem_cons_of_mem _ hp')

theorem Name_spec (w : World) (s : Spc) (k : Int) (x : Sum) (hM : MaxLen w) (hs : s.ok w) (h1 : s.t.l.length ≤ 1000000) (h2 : s.y.l.length ≤ 1000000) :
    Gives Tryz.prog 31 [s.ev.v, intV k, sumV x] w (.av (.val (.tuple #[strV (nameS s.t.l s.y.l k x), intV (namesE s.t.l s.y.l k x)]))) := by
  have hl : lim = 140737488351232 := rfl
  refine enterH tb_ok [(0, s.ev), (1, intE k), (2, sumE x)] Tryz.func31 rfl Tryz.ntmps31 rfl rfl ?_
  refine RunH.adv tb_ok [] rfl rfl (by simp <;> omega) ?_
  refine RunH.doesB [] 4 (hc := Tryz.call29) (ho := rfl) (hw := rfl) (hd := rfl) (hf := rfl) (hes := rfl) (hσ := rfl) (hn := rfl) (hV := fun _ => rfl) (hG := fun _ => rfl) (e := fun z : Option Addr × Nat => .av (.val (.tuple #[.slice z.1 (namesL s.t.l s.y.l k x).length z.2, intV (namesE s.t.l s.y.l k x)]))) (hC := Names_spec s k x h1 h2) (hp := fun u hu => ⟨hM.ext hu.fact, hs.ext hu.fact⟩) ?_
  rintro ⟨A, c⟩ m1 hm1
  refine RunH.drop ?_
  by_cases he : namesE s.t.l s.y.l k x = 0
  · have hS : nameS s.t.l s.y.l k x = (nameFold (kList k s.t.l s.y.l) x (namesL s.t.l s.y.l k x)).1 := if_pos he
    refine RunH.adv tb_ok [false] rfl rfl (by simp [he] <;> omega) ?_
    refine RunH.doesB [] 7 (hc := Tryz.call95) (ho := rfl) (hw := rfl) (hd := rfl) (hf := rfl) (hes := rfl) (hσ := rfl) (hn := rfl) (hV := fun _ => rfl) (hG := fun _ => rfl) (e := fun z : Nat × (Option Addr × Nat) × (Option Addr × Nat) => .av (.val (.pointer (some ⟨z.1, 0, none⟩)))) (hC := own_spec s h1 h2) (hp := fun u hu => hs.ext hu.fact) ?_
    rintro ⟨b, ⟨A1, c1⟩, ⟨B1, c2⟩⟩ m2 hm2
    refine RunH.drop ?_
    refine RunH.adv tb_ok [] rfl rfl (by simp <;> omega) ?_
    refine RunH.free (i := 3) (x := .row (.slice A (namesL s.t.l s.y.l k x).length c) kStr.T kStr.sz (namesL s.t.l s.y.l k x).length ((namesL s.t.l s.y.l k x).flatMap kStr.cs)) rfl ?_
    refine RunH.free (i := 4) (x := .obj b (.cells #[slV A1 s.t.l.length c1, slV B1 s.y.l.length c2] 140)) rfl ?_
    refine RunH.free (i := 5) (x := .row (.slice A1 s.t.l.length c1) kEntry.T kEntry.sz s.t.l.length (s.t.l.flatMap kEntry.cs)) rfl ?_
    refine RunH.free (i := 6) (x := .row (.slice B1 s.y.l.length c2) kEntry.T kEntry.sz s.y.l.length (s.y.l.flatMap kEntry.cs)) rfl ?_
    have hkd : kindE s.t.l s.y.l k = 0 := by
      unfold namesE at he
      split at he
      · assumption
      · exact absurd he ‹_›
    have hL : namesL s.t.l s.y.l k x = pathsOf (kList k s.t.l s.y.l) x := if_pos hkd
    have hsub := kList_sub hkd
    have hlen := kList_len hkd
    have hNl := pathsOf_len (kList k s.t.l s.y.l) x
    rw [← hL] at hNl
    refine RunH.facts (fun u => Ext w u ∧ Sl kStr u A c (namesL s.t.l s.y.l k x) ∧ Wk u b A1 c1 B1 c2 s.t.l s.y.l) (fun u h => ⟨h.1.1.1.1, Sl.own h.1.1.1.2 (by omega), h.1.1.2.2, Sl.own h.1.2 (by omega), Sl.own h.2 (by omega)⟩) ?_
    have hmem0 : ∀ p ∈ namesL s.t.l s.y.l k x, ∃ e ∈ kList k s.t.l s.y.l, e.path = p := fun p h => by
      rw [hL] at h
      unfold pathsOf at h
      obtain ⟨e, h1, h2⟩ := List.mem_map.1 h
      exact ⟨e, (List.mem_filter.1 h1).1, h2⟩
    have hmem : ∀ i (h : i < (namesL s.t.l s.y.l k x).length), ∃ e ∈ kList k s.t.l s.y.l, e.path = (namesL s.t.l s.y.l k x)[i] := fun i h => hmem0 _ (List.getElem_mem h)
    have hnlen : ∀ p ∈ namesL s.t.l s.y.l k x, p.length ≤ 54 := fun p hp => by obtain ⟨e, h1, h2⟩ := hmem0 p hp; rw [← h2]; exact hlen e h1
    clear hmem0
    refine RunH.tell [(4, .av (.box 1 (w.heap.size + 1) 0)), (5, .av (.box 2 (w.heap.size + 2) 0)), (10, .av (.box 7 m2 0)), (11, .av (.box 8 (m2 + 1) 0)), (12, .av (.box 9 (m2 + 2) 0)), (32, slE A (namesL s.t.l s.y.l k x).length c), (33, intE (namesL s.t.l s.y.l k x).length), (34, intE 0)]
      [(1, some (.box (w.heap.size + 1) [.val (intV k)] 3)), (2, some (.box (w.heap.size + 2) [.val (sumV x)] 39)), (7, some (.box m2 [.fn (.func 89) [.val (.pointer (some ⟨b, 0, none⟩))] []] 120)), (8, some (.box (m2 + 1) [.val (strV [])] 9)), (9, some (.box (m2 + 2) [.val (intV 6)] 3))] [] rfl rfl rfl 10 ?_
    generalize hNL : namesL s.t.l s.y.l k x = NL at *
    generalize hLL : kList k s.t.l s.y.l = L at *
    refine RunH.defs0 ?_
    refine RunH.loopD (α := Nat × List Nat) (fun y => y.2) (fun y => [(4, .av (.box 1 (w.heap.size + 1) 0)), (5, .av (.box 2 (w.heap.size + 2) 0)), (10, .av (.box 7 m2 0)), (11, .av (.box 8 (m2 + 1) 0)), (12, .av (.box 9 (m2 + 2) 0)), (32, slE A NL.length c), (33, intE NL.length), (34, intE y.1)])
      (fun y => [(1, some (.box (w.heap.size + 1) [.val (intV k)] 3)), (2, some (.box (w.heap.size + 2) [.val (sumV x)] 39)), (7, some (.box m2 [.fn (.func 89) [.val (.pointer (some ⟨b, 0, none⟩))] []] 120)), (8, some (.box (m2 + 1) [.val (strV (nameFold L x (NL.take y.1)).1)] 9)), (9, some (.box (m2 + 2) [.val (intV (nameFold L x (NL.take y.1)).2)] 3))])
      (fun y u => Def tb w.heap.size y.2 (fun u => Ext w u ∧ Sl kStr u A c NL ∧ Wk u b A1 c1 B1 c2 s.t.l s.y.l) u ∧ y.1 ≤ NL.length) (fun y => NL.length - y.1) (0, []) rfl rfl rfl (fun u h => ⟨h, Nat.zero_le _⟩) ?_
    rintro ⟨i, ds⟩ m3
    refine RunH.pure (fun w' h => h.2) fun (hi : i ≤ NL.length) => ?_
    by_cases hlt : i < NL.length
    · have hts : NL.take (i + 1) = NL.take i ++ [NL[i]] := List.take_succ_eq_append_getElem hlt
      have hfs : nameFold L x (NL.take (i + 1)) = nameStep L x (nameFold L x (NL.take i)) NL[i] := by unfold nameFold; rw [hts, List.foldl_append]; rfl
      obtain ⟨e, heL, hep⟩ := hmem i hlt
      have hpl : NL[i].length ≤ 54 := by rw [← hep]; exact hlen e heL
      refine RunH.pure (fun w' h => h.1.fact.2.1.ptr hlt) fun hptr => ?_
      refine RunH.adv tb_ok [true] rfl rfl (by simp [hptr] <;> omega) ?_
      refine RunH.loadS (strE NL[i]) rfl rfl rfl rfl (fun w hst => hst.fact.1.fact.2.1.load hlt) ?_
      refine RunH.adv tb_ok [] rfl rfl (by simp <;> omega) ?_
      refine RunH.doesB [] 12 (hc := Tryz.call96) (ho := rfl) (hw := rfl) (hd := rfl) (hf := rfl) (hes := rfl) (hσ := rfl) (hn := rfl) (hV := fun _ => rfl) (hG := fun _ => rfl) (e := fun b : Nat => .av (.val (.func (.func 151) #[] #[.pointer (some ⟨b, 0, none⟩)]))) (hC := ends_spec NL[i]) (hp := fun _ _ => trivial) ?_
      rintro b2 m4 hm4
      refine RunH.drop ?_
      refine RunH.adv tb_ok [] rfl rfl (by simp <;> omega) ?_
      have hBl : (nameFold L x (NL.take i)).1.length ≤ 54 := nameFold_len _ _ (by simp) fun p hp => hnlen p (List.mem_of_mem_take hp)
      generalize hB : nameFold L x (NL.take i) = B at *
      have hxs : ∀ j (h : j < (endsOf NL[i]).length), 0 < (foundL L (endsOf NL[i])[j]).length := fun j h => foundL_ne heL (by rw [hep]; exact List.getElem_mem h)
      have hft : ∀ t, (foundL L t).length ≤ 16500 := fun t => foundL_len hsub.2 hlen
      refine RunH.rangeFunc (σ := Unit) (nx := 12) (enc := fun x => [strE x]) rfl rfl (fun xs w => Tryz.call151 xs w) (ends1_spec b2 NL[i] (Nat.le_trans hpl (by decide))) (fun _ => rfl) rfl [(0, 11)] (fun _ _ _ => rfl) rfl
        [(4, .av (.box 1 (w.heap.size + 1) 0)), (5, .av (.box 2 (w.heap.size + 2) 0)), (10, .av (.box 7 m2 0)), (11, .av (.box 8 (m2 + 1) 0)), (12, .av (.box 9 (m2 + 2) 0)), (15, .av (.box 10 m3 0))] rfl (fun u => Ext w u ∧ Sl kStr u A c NL ∧ Wk u b A1 c1 B1 c2 s.t.l s.y.l) (fun u h => h.1) (fun u h => hM.ext h.1)
        (fun j (_ : Unit) => [(1, some (.box (w.heap.size + 1) [.val (intV k)] 3)), (2, some (.box (w.heap.size + 2) [.val (sumV x)] 39)), (7, some (.box m2 [.fn (.func 89) [.val (.pointer (some ⟨b, 0, none⟩))] []] 120)), (8, some (.box (m2 + 1) [.val (strV B.1)] 9)), (9, some (.box (m2 + 2) [.val (intV B.2)] 3)), (10, some (.box m3 [.val (intV j)] 3))])
        (fun j _ => ∀ j' (h : j' < (endsOf NL[i]).length), j' < j → goodB L x (endsOf NL[i])[j'] = false) () (fun _ _ h => by cases h) (fun _ _ _ => rfl)
        (fun j _ => [(1, some (.box (w.heap.size + 1) [.val (intV k)] 3)), (2, some (.box (w.heap.size + 2) [.val (sumV x)] 39)), (7, some (.box m2 [.fn (.func 89) [.val (.pointer (some ⟨b, 0, none⟩))] []] 120)), (8, some (.box (m2 + 1) [.val (strV (nameStep L x B NL[i]).1)] 9)), (9, some (.box (m2 + 2) [.val (intV (nameStep L x B NL[i]).2)] 3))])
        (fun j _ => True) (.exit 2) ?_ 15 ?_ ?_
      · intro j hj _ hp l D tt Kg m5 hKg
        have hjb : j < 60 := by have := words_len NL[i]; have h2 := hj; rw [endsOf_len] at h2; omega
        have hxj := hxs j hj
        have htl : ((endsOf NL[i])[j]).length ≤ 54 := Nat.le_trans (endsOf_le _ j hj) hpl
        refine RunH.adv tb_ok [] rfl rfl (by simp <;> omega) ?_
        refine RunH.beginRound (id := 12) rfl rfl ?_
        refine RunH.adv tb_ok [] rfl rfl (by simp <;> omega) ?_
        generalize hx : (endsOf NL[i])[j] = t at *
        refine RunH.doesB [] 16 (hc := Tryz.call89) (ho := rfl) (hw := rfl) (hd := rfl) (hf := rfl) (hes := rfl) (hσ := rfl) (hn := rfl) (hV := fun _ => rfl) (hG := fun _ => rfl) (Gi := []) (pre := fun u => MaxLen u ∧ Wk u b A1 c1 B1 c2 s.t.l s.y.l) (V := fun z : Option Addr × Nat => .slice z.1 (foundL L t).length z.2) (G' := fun z => [(0, rowE kEntry z.1 z.2 (foundL L t))]) (J := fun _ _ _ => True) (e := fun z : Option Addr × Nat => rowS 14 z.1 (foundL L t).length z.2) (hC := by
          have := found_spec b c1 c2 A1 B1 s.t.l s.y.l k t (by rw [hLL]; have := hsub.2; omega) (by rw [hLL]; exact hsub.1) (by rw [hLL]; exact fun y hy => by have := hlen y hy; omega)
          rw [hLL] at this; exact this) (hp := fun u hu => ⟨hM.ext (hKg u hu.fact).1, (hKg u hu.fact).2.2⟩) ?_
        rintro ⟨A2, c3⟩ m6 hm6
        refine RunH.drop ?_
        refine RunH.adv tb_ok [] rfl rfl (by simp <;> omega) ?_
        refine RunH.gives (ho := rfl) (hw := rfl) (hd := rfl) (hf := rfl) (hes := rfl) (hc := Tryz.call92) (e := .av (.val (.tuple #[sumV (oneS (foundL L t)), .bool (oneB (foundL L t))]))) (hC := fun w' hst => one_spec w' A2 c3 _ (Sl.own (hst.row (κ := kEntry) (id := 14) rfl) (by have := hft t; omega)) hxj) ?_
        intro m7 hm7
        by_cases hg : goodB L x t = true
        · have ho : oneB (foundL L t) = true := by unfold goodB at hg; simp only [Bool.and_eq_true] at hg; exact hg.1
          have hsx : oneS (foundL L t) = x := by
            unfold goodB at hg
            simp only [Bool.and_eq_true, decide_eq_true_eq] at hg
            unfold oneS; rw [if_pos ho]; exact hg.2
          rw [hsx]
          have hns := nameStep_stop (b := B) hj (fun i' h' hi' => hp i' h' hi') (by rw [hx]; exact hg)
          rw [hx] at hns
          refine RunH.adv tb_ok [false] rfl rfl (by simp [ho] <;> omega) ?_
          refine RunH.read (boolE (!decide (x = x))) rfl rfl rfl rfl (fun w' a _ ha => op_neq ha rfl rfl rfl rfl rfl (by kernel_rfl) (eq_sum w' 9998 _ _)) ?_
          refine RunH.adv tb_ok [false] rfl rfl (by simp [ho] <;> omega) ?_
          refine RunH.draw rfl [(8, some (.box (m2 + 1) [.val (strV B.1)] 9)), (9, some (.box (m2 + 2) [.val (intV B.2)] 3)), (10, some (.box m3 [.val (intV (j + 1))] 3))] rfl 21 rfl rfl ?_
          by_cases hlt1 : j + 1 < B.2
          · have hbt : better B t (j + 1) = true := by unfold better; simp [hlt1]
            rw [if_pos hbt] at hns
            refine RunD.adv tb_ok (by kernel_rfl) [true] rfl rfl (by simp [hlt1] <;> omega) ?_
            refine RunD.done (.inl rfl) (by kernel_rfl) ?_
            refine RunH.adv tb_ok [] rfl rfl (by simp <;> omega) ?_
            refine RunH.draw rfl [(10, some (.box m3 [.val (intV (j + 1))] 3))] rfl 4 rfl rfl ?_
            refine RunD.adv tb_ok (by kernel_rfl) [] rfl rfl (by simp <;> omega) ?_
            refine RunD.step tb_ok (i := 2) rfl (by kernel_rfl) rfl rfl rfl trivial rfl (fun _ h => h) rfl ?_
            refine RunD.step tb_ok (i := 3) rfl (by kernel_rfl) rfl rfl rfl trivial rfl (fun _ h => h) rfl ?_
            refine RunD.done (.inl rfl) (by kernel_rfl) ?_
            refine RunH.adv tb_ok [] rfl rfl (by simp <;> omega) ?_
            refine RunH.leave (.exit 2 _ rfl) fun w' hst => ⟨rfl, (), trivial, ?_⟩
            rw [hns]
            exact hst.out [] rfl rfl fun u h => h
          · by_cases heq1 : j + 1 = B.2
            · refine RunD.adv tb_ok (by kernel_rfl) [false, true] rfl rfl (by simp [hlt1, heq1] <;> omega) ?_
              refine RunD.gives (i := 15) (intE (cmpS3 t B.1)) rfl (by kernel_rfl) rfl rfl rfl rfl Tryz.call98 (fun w' _ => Compare_spec w' t B.1) rfl (fun _ h => h) ?_
              intro m8 hm8
              refine RunD.step tb_ok (i := 16) rfl (by kernel_rfl) rfl rfl rfl trivial rfl (fun _ h => h) ⟨rfl, rfl⟩ ?_
              refine RunD.gives (i := 17) (intE (orI [(t.length : Int) - B.1.length, cmpS3 t B.1])) rfl (by kernel_rfl) rfl rfl rfl rfl Tryz.call97 (fun w' hst => or_spec w' _ 2 [(t.length : Int) - B.1.length, cmpS3 t B.1] (Sl.own (hst.row (κ := kInt) (id := 17) rfl) (by simp [hl]))) rfl (fun _ h => h) ?_
              intro m9 hm9
              by_cases hor : orI [(t.length : Int) - B.1.length, cmpS3 t B.1] < 0
              · have hbt : better B t (j + 1) = true := by unfold better; simp [heq1, hor]
                rw [if_pos hbt] at hns
                refine RunD.adv tb_ok (by kernel_rfl) [] rfl rfl (by simp [hor] <;> omega) ?_
                refine RunD.done (.inl rfl) (by kernel_rfl) ?_
                refine RunH.adv tb_ok [true] rfl rfl (by simp [hor] <;> omega) ?_
                refine RunH.draw rfl [(10, some (.box m3 [.val (intV (j + 1))] 3))] rfl 4 rfl rfl ?_
                refine RunD.adv tb_ok (by kernel_rfl) [] rfl rfl (by simp <;> omega) ?_
                refine RunD.step tb_ok (i := 2) rfl (by kernel_rfl) rfl rfl rfl trivial rfl (fun _ h => h) rfl ?_
                refine RunD.step tb_ok (i := 3) rfl (by kernel_rfl) rfl rfl rfl trivial rfl (fun _ h => h) rfl ?_
                refine RunD.done (.inl rfl) (by kernel_rfl) ?_
                refine RunH.adv tb_ok [] rfl rfl (by simp <;> omega) ?_
                refine RunH.leave (.exit 2 _ rfl) fun w' hst => ⟨rfl, (), trivial, ?_⟩
                rw [hns]
                exact hst.out [] rfl rfl fun u h => h
              · have hbt : better B t (j + 1) = false := by unfold better; simp [heq1, hor]
                rw [hbt, if_neg (by decide)] at hns
                refine RunD.adv tb_ok (by kernel_rfl) [] rfl rfl (by simp [hor] <;> omega) ?_
                refine RunD.done (.inl rfl) (by kernel_rfl) ?_
                refine RunH.adv tb_ok [false] rfl rfl (by simp [hor] <;> omega) ?_
                refine RunH.leave (.exit 2 _ rfl) fun w' hst => ⟨rfl, (), trivial, ?_⟩
                rw [hns]
                exact hst.out [] rfl rfl fun u h => h
            · refine RunD.adv tb_ok (by kernel_rfl) [false, false] rfl rfl (by simp [hlt1, heq1] <;> omega) ?_
              have hbt : better B t (j + 1) = false := by unfold better; simp [hlt1, heq1]
              rw [hbt, if_neg (by decide)] at hns
              refine RunD.done (.inl rfl) (by kernel_rfl) ?_
              refine RunH.adv tb_ok [] rfl rfl (by simp <;> omega) ?_
              refine RunH.leave (.exit 2 _ rfl) fun w' hst => ⟨rfl, (), trivial, ?_⟩
              rw [hns]
              exact hst.out [] rfl rfl fun u h => h
        · have hpn : ∀ j' (h : j' < (endsOf NL[i]).length), j' < j + 1 → goodB L x (endsOf NL[i])[j'] = false := fun j' h hj' => by
            by_cases e : j' = j
            · subst e; rw [hx]; simpa using hg
            · exact hp j' h (by omega)
          by_cases ho : oneB (foundL L t) = true
          · have hsx : oneS (foundL L t) ≠ x := by
              intro e
              unfold oneS at e
              rw [if_pos ho] at e
              exact hg (by unfold goodB; simp only [Bool.and_eq_true, decide_eq_true_eq]; exact ⟨ho, e⟩)
            refine RunH.adv tb_ok [false] rfl rfl (by simp [ho] <;> omega) ?_
            refine RunH.read (boolE (!decide (oneS (foundL L t) = x))) rfl rfl rfl rfl (fun w' a _ ha => op_neq ha rfl rfl rfl rfl rfl (by kernel_rfl) (eq_sum w' 9998 _ _)) ?_
            refine RunH.adv tb_ok [true] rfl rfl (by simp [ho, hsx] <;> omega) ?_
            refine RunH.leave .fin fun w' hst => ⟨(), hpn, ?_⟩
            exact hst.out [] rfl rfl fun u h => h
          · refine RunH.adv tb_ok [true] rfl rfl (by simp [ho] <;> omega) ?_
            refine RunH.leave .fin fun w' hst => ⟨(), hpn, ?_⟩
            exact hst.out [] rfl rfl fun u h => h
      · intro _ D m5 hp
        have hst : nameStep L x B NL[i] = B := nameStep_none fun j h => hp j h h
        rw [hst] at hfs
        refine RunH.adv tb_ok [] rfl rfl (by simp <;> omega) ?_
        refine RunH.againD (i + 1, D :: ds) (.head _) rfl rfl (by dsimp only; rw [hfs]; rfl) (by show NL.length - (i + 1) < NL.length - i; omega) fun u h => ⟨h, by show i + 1 ≤ NL.length; omega⟩
      · intro j hj _ D m5 _
        refine RunH.adv tb_ok [] rfl rfl (by simp <;> omega) ?_
        refine RunH.againD (i + 1, D :: ds) (.head _) rfl rfl (by dsimp only; rw [hfs]; rfl) (by show NL.length - (i + 1) < NL.length - i; omega) fun u h => ⟨h, by show i + 1 ≤ NL.length; omega⟩
    · have hti : NL.take i = NL := List.take_of_length_le (by omega)
      dsimp only
      rw [hti]
      refine RunH.adv tb_ok [false] rfl rfl (by simp <;> omega) ?_
      refine RunH.facts (Def tb w.heap.size ds (fun u => Ext w u ∧ Sl kStr u A c NL ∧ Wk u b A1 c1 B1 c2 s.t.l s.y.l)) (fun u h => h.1) ?_
      refine RunH.retD2 Tryz.func31 rfl rfl rfl fun w' hst => ⟨by rw [hS, he]; rfl, hst.fact.1⟩
  · have hS : nameS s.t.l s.y.l k x = [] := if_neg he
    refine RunH.adv tb_ok [true] rfl rfl (by simp [he] <;> omega) ?_
    refine RunH.ret2 Tryz.func31 rfl rfl rfl fun w' hst => ⟨by rw [hS]; rfl, hst.fact⟩
end Go.Proofs.YtagnkcdhenilbaaGreatDoor
