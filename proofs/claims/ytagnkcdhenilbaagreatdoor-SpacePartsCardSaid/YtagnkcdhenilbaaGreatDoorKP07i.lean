/-
A part of the proofs of the laws of a seat: contracts of functions and lemmas on them; the listed package variables hold what the program's text lays. No further condition.
-/
import Derived.Test.YtagnkcdhenilbaaGreatDoorKP07f
import Derived.Test.YtagnkcdhenilbaaGreatDoorKPS5
set_option linter.unusedVariables false
set_option linter.unusedSectionVars false
set_option linter.unusedSimpArgs false
namespace Go.Proofs.YtagnkcdhenilbaaGreatDoor
open Go V

theorem pathOk_end {q : Str} : pathOk (q ++ [46]) = false := by
  cases h : pathOk (q ++ [46]) with
  | false => rfl
  | true =>
    unfold pathOk at h
    simp only [Bool.and_eq_true] at h
    have := List.all_eq_true.1 h.2 [] (by rw [words_dot]; simp)
    simp [okW] at this

theorem hasPre_lt {x p : Str} (hx : pathOk x = true) (h : hasPre x (p ++ [46]) = true) : p.length + 1 < x.length := by
  unfold hasPre at h
  simp only [Bool.and_eq_true, decide_eq_true_eq, List.length_append, List.length_cons, List.length_nil, Nat.zero_add] at h
  rcases Nat.lt_or_ge (p.length + 1) x.length with h1 | h1
  · exact h1
  · have : x = p ++ [46] := by rw [← h.2, List.take_of_length_le h1]
    rw [this, pathOk_end] at hx
    cases hx

theorem underL_snoc (p : Str) (l : List Entry) (i : Nat) (h : i < l.length) : underL p (l.take (i + 1)) = underL p (l.take i) ++ under1 p l[i] := by
  unfold underL
  rw [List.take_succ_eq_append_getElem h, List.flatMap_append]
  simp

theorem r07_under (A : Option Addr) (c : Nat) (l : List Entry) (p : Str) (hn : l.length ≤ 1000000) (hp : p.length ≤ 1000000) (hok : ∀ x ∈ l, pathOk x.path = true) :
    Does Tryz.prog tb 102 [.slice A l.length c, strV p] [] (fun u => Sl kEntry u A c l) (fun z : Option Addr × Nat => .slice z.1 (underL p l).length z.2) (fun z => [(0, rowE kEntry z.1 z.2 (underL p l))]) (fun _ _ _ => True) := by
  have hl : lim = 140737488351232 := rfl
  refine Does.enter tb_ok [(0, slE A l.length c), (1, strE p)] Tryz.func102 rfl Tryz.ntmps102 rfl rfl 0 ?_
  intro B0 m0 K
  refine RunH.adv tb_ok [] rfl rfl (by simp <;> omega) ?_
  refine RunH.nilrow 0 kEntry.T kEntry.sz 1 ?_
  refine RunH.loop (α := Nat × Option Addr × Nat) (fun z => [(1, strE p), (5, rowS 0 z.2.1 (underL p (l.take z.1)).length z.2.2), (9, slE A l.length c), (10, intE l.length), (11, intE z.1)]) (fun z => [(0, rowE kEntry z.2.1 z.2.2 (underL p (l.take z.1)))])
    (fun z u => (K u ∧ Sl kEntry u A c l) ∧ z.1 ≤ l.length) (fun z => l.length - z.1) (0, none, 0) rfl rfl (fun u h => ⟨h, Nat.zero_le _⟩) ?_
  rintro ⟨i, A', c'⟩ m
  refine RunH.pure (fun u h => h.2) fun (hi : i ≤ l.length) => ?_
  dsimp only
  have hfl := under_len p (l.take i)
  rw [List.length_take] at hfl
  by_cases hlt : i < l.length
  · have hsn := underL_snoc p l i hlt
    have hxo := hok _ (List.getElem_mem hlt)
    have hxl := pathOk_len hxo
    have hn1 : ((p.length : Int) + 1).toNat = p.length + 1 := by omega
    refine RunH.pure (fun u h => h.1.2.ptr hlt) fun hptr => ?_
    have hu : under1 p l[i] = if p.length + 1 < l[i].path.length ∧ l[i].path.take (p.length + 1) = p ++ [46] then [⟨l[i].path.drop (p.length + 1), l[i].sum⟩] else [] := by
      have hlen : (p ++ [46]).length = p.length + 1 := by simp
      by_cases hh : hasPre l[i].path (p ++ [46]) = true
      · have := hasPre_lt hxo hh
        have h2 := hh
        unfold hasPre at h2
        simp only [Bool.and_eq_true, decide_eq_true_eq, hlen] at h2
        unfold under1 cutS
        rw [if_pos hh, if_pos hh, if_pos ⟨this, h2.2⟩, hlen]
      · unfold under1
        rw [if_neg hh, if_neg]
        rintro ⟨h1, h2⟩
        refine hh ?_
        unfold hasPre
        rw [hlen, h2]
        simp; omega
    generalize hx : l[i] = x at *
    refine RunH.adv tb_ok [true] rfl rfl (by simp [hptr] <;> omega) ?_
    refine RunH.loadS (.st (entryF x)) rfl rfl rfl rfl (fun u hu => by rw [← hx]; exact hu.fact.1.2.load hlt) ?_
    by_cases hgt : p.length + 1 < x.path.length
    · by_cases he : x.path.take (p.length + 1) = p ++ [46]
      · rw [if_pos ⟨hgt, he⟩] at hu
        rw [hu] at hsn
        refine RunH.adv tb_ok [true, true] rfl rfl (by simp [hn1, he] <;> omega) ?_
        refine RunH.draw rfl [(1, some (.box m (entryF x) 44))] rfl 11 rfl rfl ?_
        refine RunD.adv tb_ok (by kernel_rfl) [] rfl rfl (by simp [hn1] <;> omega) ?_
        rw [hn1]
        refine RunD.step tb_ok (nx := 50) (i := 8) rfl (by kernel_rfl) rfl rfl rfl ?_ rfl (fun _ h => h) ⟨rfl, rfl⟩ ?_
        · first | trivial | (simp [AllOb, Ob.P, sum_len, sz_sum, one_int, u8V_one]; done)
        refine RunD.adv tb_ok (by kernel_rfl) [] rfl rfl (by simp <;> omega) ?_
        refine RunD.appendK (nx := 60) (i := 9) (κ := kEntry) (id := 0) (r := [⟨x.path.drop (p.length + 1), x.sum⟩]) (l := underL p (l.take i)) rfl (by kernel_rfl) rfl rfl rfl rfl rfl elt_entry rfl rfl (fun w hst => hst.liesRow (id := 50) (κ := kEntry) (l := [⟨x.path.drop (p.length + 1), x.sum⟩]) rfl (by simp [hl])) (by simp; omega) (by simp; omega) (fun _ _ => rfl) (fun _ h => h) ?_
        intro A2 c2 m3 hm3
        refine RunD.adv tb_ok (by kernel_rfl) [] rfl rfl (by simp <;> omega) ?_
        refine RunD.done (.inl rfl) (by kernel_rfl) ?_
        refine RunH.adv tb_ok [] rfl rfl (by simp <;> omega) ?_
        refine RunH.again (i + 1, A2, c2) (.head _) ?_ ?_ (by dsimp only; omega) fun u h => ⟨h.1, by dsimp only; omega⟩
        · dsimp only; rw [hsn]; rfl
        · dsimp only; rw [hsn]; rfl
      · rw [if_neg (fun h => he h.2)] at hu
        rw [hu, List.append_nil] at hsn
        refine RunH.adv tb_ok [true, false] rfl rfl (by simp [hn1, he] <;> omega) ?_
        refine RunH.again (i + 1, A', c') (.head _) ?_ ?_ (by dsimp only; omega) fun u h => ⟨h.1, by dsimp only; omega⟩
        · dsimp only; rw [hsn]; rfl
        · dsimp only; rw [hsn]; rfl
    · rw [if_neg (fun h => hgt h.1)] at hu
      rw [hu, List.append_nil] at hsn
      refine RunH.adv tb_ok [false] rfl rfl (by simp <;> omega) ?_
      refine RunH.again (i + 1, A', c') (.head _) ?_ ?_ (by dsimp only; omega) fun u h => ⟨h.1, by dsimp only; omega⟩
      · dsimp only; rw [hsn]; rfl
      · dsimp only; rw [hsn]; rfl
  · have ht : l.take i = l := List.take_of_length_le (by omega)
    rw [ht]
    refine RunH.adv tb_ok [false] rfl rfl (by simp <;> omega) ?_
    refine RunH.ret1 Tryz.func102 rfl rfl fun w hst => ⟨(A', c'), rfl, hst.out [(0, 0)] rfl rfl fun u h => ⟨h.1.1, trivial⟩⟩

theorem listE_all {l : List Entry} (h : listE l = 0) : ∀ x ∈ l, pathOk x.path = true := by
  intro x hx
  unfold listE at h
  split at h
  · cases h
  · split at h
    · rename_i h1
      have := List.all_eq_true.1 h1 x hx
      exact this
    · cases h

theorem checkE_all {t y : List Entry} (h : checkE t y = 0) : (∀ x ∈ t, pathOk x.path = true) ∧ ∀ x ∈ y, pathOk x.path = true := by
  unfold checkE at h
  split at h
  · rename_i h1; exact ⟨listE_all h1, listE_all h⟩
  · rename_i h1; exact absurd h h1

def undL (e : Int) (l : List Entry) : List Entry := if e = 0 then l else []

theorem r07_Under (s : Spc) (p : Str) (h1 : s.t.l.length ≤ 1000000) (h2 : s.y.l.length ≤ 1000000) (h3 : ∀ e ∈ s.t.l, e.path.length ≤ 1000000) (h4 : ∀ e ∈ s.y.l, e.path.length ≤ 1000000) (hp : p.length ≤ 1000000) :
    Does Tryz.prog tb 34 [s.ev.v, strV p] [] (fun u => s.ok u)
      (fun z : (Option Addr × Nat) × (Option Addr × Nat) => .tuple #[.agg #[.slice z.1.1 (undL (undE s.t.l s.y.l p) (underL p s.t.l)).length z.1.2, .slice z.2.1 (undL (undE s.t.l s.y.l p) (underL p s.y.l)).length z.2.2], intV (undE s.t.l s.y.l p)])
      (fun z => [(0, rowE kEntry z.1.1 z.1.2 (undL (undE s.t.l s.y.l p) (underL p s.t.l))), (1, rowE kEntry z.2.1 z.2.2 (undL (undE s.t.l s.y.l p) (underL p s.y.l)))]) (fun _ _ _ => True) := by
  have hl : lim = 140737488351232 := rfl
  refine Does.enter tb_ok [(0, s.ev), (1, strE p)] Tryz.func34 rfl Tryz.ntmps34 rfl rfl 0 ?_
  intro B0 m0 K
  generalize hre : undE s.t.l s.y.l p = e
  have hT0 : ∀ l, e ≠ 0 → undL e l = [] := fun l h => if_neg h
  refine RunH.adv tb_ok [] rfl rfl (by simp <;> omega) ?_
  refine RunH.gives (ho := rfl) (hw := rfl) (hd := rfl) (hf := rfl) (hes := rfl) (hc := Tryz.call20) (e := intE (checkE s.t.l s.y.l)) (hC := fun u hu => r07_Check u s hu.fact.2 h3 h4) ?_
  intro m1 hm1
  by_cases hc : checkE s.t.l s.y.l = 0
  · have hE : e = pathsE [p] := by rw [← hre]; exact if_pos hc
    refine RunH.adv tb_ok [false] rfl rfl (by simp [hc] <;> omega) ?_
    refine RunH.gives (ho := rfl) (hw := rfl) (hd := rfl) (hf := rfl) (hes := rfl) (hc := Tryz.call101) (e := intE (pathsE [p])) (hC := fun u hu => r07_paths u _ _ [p] (Sl.own (B := B0) (hu.row (κ := kStr) (l := [p]) (id := 2) rfl) (by simp [hl])) (by simpa using hp)) ?_
    intro m2 hm2
    by_cases hq : pathsE [p] = 0
    · rw [hq] at hE
      subst hE
      refine RunH.adv tb_ok [false] rfl rfl (by simp [hq] <;> omega) ?_
      refine RunH.draw rfl [(0, some (.box m0 [s.t.av, s.y.av] 24))] rfl 11 rfl rfl ?_
      refine RunD.adv tb_ok (by kernel_rfl) [] rfl rfl (by simp <;> omega) ?_
      refine RunD.doesB (i := 3) [] 4 (fun y : Option Addr × Nat => rowS 3 y.1 (underL p s.t.l).length y.2) rfl (by kernel_rfl) rfl rfl rfl rfl Tryz.call102 (r07_under _ _ s.t.l p h1 hp (checkE_all hc).1) rfl rfl (fun _ => rfl) (fun _ => rfl) (fun u hu => hu.fact.2.t) (fun _ => rfl) (fun _ h => h) ?_
      rintro ⟨A1, c1⟩ m3 hm3
      refine RunD.adv tb_ok (by kernel_rfl) [] rfl rfl (by simp <;> omega) ?_
      refine RunD.doesB (i := 7) [] 5 (fun y : Option Addr × Nat => rowS 4 y.1 (underL p s.y.l).length y.2) rfl (by kernel_rfl) rfl rfl rfl rfl Tryz.call102 (r07_under _ _ s.y.l p h2 hp (checkE_all hc).2) rfl rfl (fun _ => rfl) (fun _ => rfl) (fun u hu => hu.fact.1.2.y) (fun _ => rfl) (fun _ h => h.1) ?_
      rintro ⟨A2, c2⟩ m4 hm4
      refine RunD.adv tb_ok (by kernel_rfl) [] rfl rfl (by simp <;> omega) ?_
      refine RunD.step tb_ok (i := 9) rfl (by kernel_rfl) rfl rfl rfl trivial rfl (fun _ h => h.1.1) rfl ?_
      refine RunD.adv tb_ok (by kernel_rfl) [] rfl rfl (by simp <;> omega) ?_
      refine RunD.done (.inl rfl) (by kernel_rfl) ?_
      refine RunH.adv tb_ok [] rfl rfl (by simp <;> omega) ?_
      exact RunH.retBoxT tb_ok (.st [.row 3 (.slice A1 (underL p s.t.l).length c1), .row 4 (.slice A2 (underL p s.y.l).length c2)]) Tryz.func34 rfl rfl rfl rfl rfl fun w hst => ⟨((A1, c1), (A2, c2)), rfl, hst.out [(0, 3), (1, 4)] rfl rfl fun u h => ⟨h.1.1.1, trivial⟩⟩
    · have hne : e ≠ 0 := by rw [hE]; exact hq
      refine RunH.adv tb_ok [true] rfl rfl (by simp [hq] <;> omega) ?_
      refine RunH.nilrow 20 kEntry.T kEntry.sz 21 ?_
      refine RunH.nilrow 21 kEntry.T kEntry.sz 22 ?_
      refine RunH.retBoxT tb_ok nilSp Tryz.func34 rfl rfl rfl rfl rfl fun w hst => ⟨((none, 0), (none, 0)), by rw [hT0 _ hne, hT0 _ hne, hE]; rfl, by rw [hT0 _ hne, hT0 _ hne]; exact hst.out [(0, 20), (1, 21)] rfl rfl fun u h => ⟨h.1, trivial⟩⟩
  · have hE : e = checkE s.t.l s.y.l := by rw [← hre]; exact if_neg hc
    have hne : e ≠ 0 := by rw [hE]; exact hc
    refine RunH.adv tb_ok [true] rfl rfl (by simp [hc] <;> omega) ?_
    refine RunH.nilrow 20 kEntry.T kEntry.sz 21 ?_
    refine RunH.nilrow 21 kEntry.T kEntry.sz 22 ?_
    refine RunH.retBoxT tb_ok nilSp Tryz.func34 rfl rfl rfl rfl rfl fun w hst => ⟨((none, 0), (none, 0)), by rw [hT0 _ hne, hT0 _ hne, hE]; rfl, by rw [hT0 _ hne, hT0 _ hne]; exact hst.out [(0, 20), (1, 21)] rfl rfl fun u h => ⟨h.1, trivial⟩⟩

/-- The program's Under, whatever comes in. -/
theorem Under_all (s : Spc) (p : Str) (h1 : s.t.l.length ≤ 1000000) (h2 : s.y.l.length ≤ 1000000) (hp : p.length ≤ 1000000) :
    Does Tryz.prog tb 33 [s.ev.v, strV p] [] (fun u => MaxLen u ∧ s.ok u)
      (fun z : (Option Addr × Nat) × (Option Addr × Nat) => .tuple #[.agg #[.slice z.1.1 (undL (undE s.t.l s.y.l p) (underL p s.t.l)).length z.1.2, .slice z.2.1 (undL (undE s.t.l s.y.l p) (underL p s.y.l)).length z.2.2], intV (undE s.t.l s.y.l p)])
      (fun z => [(0, rowE kEntry z.1.1 z.1.2 (undL (undE s.t.l s.y.l p) (underL p s.t.l))), (1, rowE kEntry z.2.1 z.2.2 (undL (undE s.t.l s.y.l p) (underL p s.y.l)))]) (fun _ _ _ => True) := by
  have hl : lim = 140737488351232 := rfl
  by_cases he : undE s.t.l s.y.l p = 0
  · have := Under_ok s p he h1 h2 hp
    rw [he]
    exact this
  · refine Does.enter tb_ok [(0, s.ev), (1, strE p)] Tryz.func33 rfl Tryz.ntmps33 rfl rfl 0 ?_
    intro B0 m0 K
    generalize hre : undE s.t.l s.y.l p = e at *
    have hT0 : ∀ l, undL e l = [] := fun l => if_neg he
    refine RunH.adv tb_ok [] rfl rfl (by simp <;> omega) ?_
    refine RunH.gives (ho := rfl) (hw := rfl) (hd := rfl) (hf := rfl) (hes := rfl) (hc := Tryz.call19) (e := intE (checkE s.t.l s.y.l)) (hC := fun u hu => space_Check u hu.fact.2.1 s hu.fact.2.2) ?_
    intro m1 hm1
    by_cases hc : checkE s.t.l s.y.l = 0
    · have hE : e = pathsE [p] := by rw [← hre]; exact if_pos hc
      have hq : pathsE [p] ≠ 0 := by rw [← hE]; exact he
      refine RunH.adv tb_ok [false] rfl rfl (by simp [hc] <;> omega) ?_
      refine RunH.gives (ho := rfl) (hw := rfl) (hd := rfl) (hf := rfl) (hes := rfl) (hc := Tryz.call85) (e := intE (pathsE [p])) (hC := fun u hu => space_paths u hu.fact.2.1 _ _ [p] (Sl.own (B := B0) (hu.row (κ := kStr) (l := [p]) (id := 2) rfl) (by simp [hl]))) ?_
      intro m2 hm2
      refine RunH.adv tb_ok [true] rfl rfl (by simp [hq] <;> omega) ?_
      refine RunH.nilrow 20 kEntry.T kEntry.sz 21 ?_
      refine RunH.nilrow 21 kEntry.T kEntry.sz 22 ?_
      refine RunH.retBoxT tb_ok nilSp Tryz.func33 rfl rfl rfl rfl rfl fun w hst => ⟨((none, 0), (none, 0)), by rw [hT0, hT0, hE]; rfl, by rw [hT0, hT0]; exact hst.out [(0, 20), (1, 21)] rfl rfl fun u h => ⟨h.1, trivial⟩⟩
    · have hE : e = checkE s.t.l s.y.l := by rw [← hre]; exact if_neg hc
      refine RunH.adv tb_ok [true] rfl rfl (by simp [hc] <;> omega) ?_
      refine RunH.nilrow 20 kEntry.T kEntry.sz 21 ?_
      refine RunH.nilrow 21 kEntry.T kEntry.sz 22 ?_
      refine RunH.retBoxT tb_ok nilSp Tryz.func33 rfl rfl rfl rfl rfl fun w hst => ⟨((none, 0), (none, 0)), by rw [hT0, hT0, hE]; rfl, by rw [hT0, hT0]; exact hst.out [(0, 20), (1, 21)] rfl rfl fun u h => ⟨h.1, trivial⟩⟩
end Go.Proofs.YtagnkcdhenilbaaGreatDoor

namespace Go.Proofs.YtagnkcdhenilbaaGreatDoor
open Go V

/-- The stepper's operation, the region's last, on which all others lead. -/
theorem V.RunD.lastStep {P : Program} {f : Fr} {n : Nat} {S : Stops} {R : Ending → World → Prop} {tb : TT} {B0 : Nat} {I : World → Prop} {H : Heap} {nx m : Nat} {env : SEnv} {k : List Item} {ops : Array Oper} {i : Nat} {l : List Bool} {G0 : Heap} {I0 : World → Prop} {o : Oper} (hk : tb.Ok P) {v : Option EV} {H' : Heap} {nx' m' : Nat} {ob : List Ob} {eq : List Eqn}
    (ho : ops.toList[i]? = some o) (hr : Region.ready .any ops l.toArray = [i]) (hw : wantE env ops o.guard = .yes) (hf : finB ops i = true) (hl : Region.ready .any ops (l.set i true).toArray = [])
    (hs : stepOp tb env H nx m [] [] o.op = some (v, H', nx', m', ob, eq)) (heq : AllEqn eq) (hob : AllOb ob) (hm : m ≤ m') {env' : SEnv} (hv : OutOk n v o.dst env env')
    (h : ∀ m1, m ≤ m1 → RunH P f n tb B0 S R k env' H' nx' m1 I) : RunD P f n tb B0 S R k ops G0 I0 (0 + 1) l env H nx m I := by
  refine RunD.last (E := fun _ : Unit => env') (G := fun _ => H') (F := fun _ => I) ho hr hw hf ?_ nx' hl fun _ m1 hm1 => h m1 hm1
  intro w a hmw hst ha
  unfold OutOk at hv
  obtain ⟨w', q1, q2, q3, _⟩ := stepOp_ok hk ha hst hmw hs hob heq
  unfold Oper.wp
  rw [q1]
  cases v with
  | none =>
    cases hd : o.dst with
    | none =>
      rw [hd] at hv
      have hv : env' = env := hv
      subst hv
      exact ⟨(), by rw [hd]; exact ha, by omega, q2⟩
    | some d => rw [hd] at hv; exact hv.elim
  | some e =>
    cases hd : o.dst with
    | none => rw [hd] at hv; exact hv.elim
    | some d =>
      rw [hd] at hv
      obtain ⟨hdn, rfl⟩ := hv
      refine ⟨(), ?_, by omega, q2⟩
      rw [kn_cons, hd]
      exact ha.put (Nat.lt_of_lt_of_le (Nat.lt_succ_self d) (Nat.le_of_ble_eq_true hdn)) _

theorem pj_cat (p t : Str) : joinD [p, t] = p ++ [46] ++ t := by simp [joinD]

/-- A namespace by its list of a kind and the other one. -/
def spK (k : Int) (A B : Option Addr) (c d : Nat) (L O : List Entry) : Spc := ⟨⟨kA k A B, kA k c d, kA k L O⟩, ⟨kA k B A, kA k d c, kA k O L⟩⟩

theorem spK_row (k : Int) (A B : Option Addr) (c d : Nat) (L O : List Entry) : Spc.row (spK k A B c d L O) k = ⟨A, c, L⟩ := by
  unfold Spc.row spK kA
  by_cases h : k = 1 <;> simp [h]

theorem spK_other (k : Int) (A B : Option Addr) (c d : Nat) (L O : List Entry) : kList k (spK k A B c d L O).y.l (spK k A B c d L O).t.l = O := by
  unfold kList spK kA
  by_cases h : k = 1 <;> simp [h]

theorem spK_ok {w : World} {k : Int} {A B : Option Addr} {c d : Nat} {L O : List Entry} (h1 : Sl kEntry w A c L) (h2 : Sl kEntry w B d O) : (spK k A B c d L O).ok w := by
  unfold spK kA
  by_cases h : k = 1
  · simp only [if_pos h]; exact ⟨h1, h2⟩
  · simp only [if_neg h]; exact ⟨h2, h1⟩

theorem spK_len {k : Int} {A B : Option Addr} {c d : Nat} {L O : List Entry} (h1 : L.length ≤ 1000000) (h2 : O.length ≤ 1000000) : (spK k A B c d L O).t.l.length ≤ 1000000 ∧ (spK k A B c d L O).y.l.length ≤ 1000000 := by
  unfold spK kA
  by_cases h : k = 1
  · simp only [if_pos h]; exact ⟨h1, h2⟩
  · simp only [if_neg h]; exact ⟨h2, h1⟩

set_option maxRecDepth 10000 in
set_option maxHeartbeats 2000000 in
theorem r07_Into (s q : Spc) (p : Str) (h1 : s.t.l.length ≤ 1000000) (h2 : s.y.l.length ≤ 1000000) (h3 : q.t.l.length ≤ 1000000) (h4 : q.y.l.length ≤ 1000000)
    (h5 : ∀ e ∈ s.t.l, e.path.length ≤ 1000000) (h6 : ∀ e ∈ s.y.l, e.path.length ≤ 1000000) (h7 : ∀ e ∈ q.t.l, e.path.length ≤ 1000000) (h8 : ∀ e ∈ q.y.l, e.path.length ≤ 1000000) (hpn : p.length ≤ 900000) :
    Does Tryz.prog tb 36 [s.ev.v, strV p, q.ev.v] [] (fun u => s.ok u ∧ q.ok u)
      (fun z : (Option Addr × Nat) × (Option Addr × Nat) => .tuple #[.agg #[.slice z.1.1 (inT (intoE s.t.l s.y.l q.t.l q.y.l p) (putL p s.t.l q.t.l)).length z.1.2, .slice z.2.1 (inT (intoE s.t.l s.y.l q.t.l q.y.l p) (putL p s.y.l q.y.l)).length z.2.2], intV (intoE s.t.l s.y.l q.t.l q.y.l p)])
      (fun z => [(0, rowE kEntry z.1.1 z.1.2 (inT (intoE s.t.l s.y.l q.t.l q.y.l p) (putL p s.t.l q.t.l))), (1, rowE kEntry z.2.1 z.2.2 (inT (intoE s.t.l s.y.l q.t.l q.y.l p) (putL p s.y.l q.y.l)))]) (fun _ _ _ => True) := by
  have hl : lim = 140737488351232 := rfl
  refine Does.enter tb_ok [(0, s.ev), (1, strE p), (2, q.ev)] Tryz.func36 rfl Tryz.ntmps36 rfl rfl 0 ?_
  intro B0 m0 K
  generalize hre : intoE s.t.l s.y.l q.t.l q.y.l p = e
  have hT0 : ∀ l, e ≠ 0 → inT e l = [] := fun l h => if_neg h
  refine RunH.adv tb_ok [] rfl rfl (by simp <;> omega) ?_
  refine RunH.gives (ho := rfl) (hw := rfl) (hd := rfl) (hf := rfl) (hes := rfl) (hc := Tryz.call20) (e := intE (checkE s.t.l s.y.l)) (hC := fun u hu => r07_Check u s hu.fact.2.1 h5 h6) ?_
  intro m1 hm1
  by_cases hc1 : checkE s.t.l s.y.l = 0
  · refine RunH.adv tb_ok [false] rfl rfl (by simp [hc1] <;> omega) ?_
    refine RunH.gives (ho := rfl) (hw := rfl) (hd := rfl) (hf := rfl) (hes := rfl) (hc := Tryz.call20) (e := intE (checkE q.t.l q.y.l)) (hC := fun u hu => r07_Check u q hu.fact.2.2 h7 h8) ?_
    intro m2 hm2
    by_cases hc2 : checkE q.t.l q.y.l = 0
    · refine RunH.adv tb_ok [false] rfl rfl (by simp [hc2] <;> omega) ?_
      refine RunH.gives (ho := rfl) (hw := rfl) (hd := rfl) (hf := rfl) (hes := rfl) (hc := Tryz.call101) (e := intE (pathsE [p])) (hC := fun u hu => r07_paths u _ _ [p] (Sl.own (B := B0) (hu.row (κ := kStr) (l := [p]) (id := 3) rfl) (by simp [hl])) (by simp; omega)) ?_
      intro m3 hm3
      by_cases hp : pathsE [p] = 0
      · have hS1 := listE_ok (checkE_ok hc1).1
        have hS2 := listE_ok (checkE_ok hc1).2
        have hQ1 := listE_ok (checkE_ok hc2).1
        have hQ2 := listE_ok (checkE_ok hc2).2
        refine RunH.adv tb_ok [false] rfl rfl (by simp [hp] <;> omega) ?_
        have hE4 : (q.t.l.all (okP p) && q.y.l.all (okP p)) = false → e = 4 := by
          intro h; rw [← hre]; unfold intoE; rw [if_pos hc1, if_pos hc2, if_pos hp, h]; rfl
        have hE5 : (q.t.l.all (okP p) && q.y.l.all (okP p)) = true → (q.t.l.any (clash s.t.l p) || q.y.l.any (clash s.y.l p)) = true → e = 5 := by
          intro h h'; rw [← hre]; unfold intoE; rw [if_pos hc1, if_pos hc2, if_pos hp, if_pos h, if_pos h']
        have hE12 : (q.t.l.all (okP p) && q.y.l.all (okP p)) = true → (q.t.l.any (clash s.t.l p) || q.y.l.any (clash s.y.l p)) = false → (300 < (putL p s.t.l q.t.l).length ∨ 300 < (putL p s.y.l q.y.l).length) → e = 12 := by
          intro h h' h3; rw [← hre]; unfold intoE; rw [if_pos hc1, if_pos hc2, if_pos hp, if_pos h, if_neg (by rw [h']; simp), if_pos h3]
        have hE0 : (q.t.l.all (okP p) && q.y.l.all (okP p)) = true → (q.t.l.any (clash s.t.l p) || q.y.l.any (clash s.y.l p)) = false → ¬ (300 < (putL p s.t.l q.t.l).length ∨ 300 < (putL p s.y.l q.y.l).length) → e = 0 := by
          intro h h' h3; rw [← hre]; unfold intoE; rw [if_pos hc1, if_pos hc2, if_pos hp, if_pos h, if_neg (by rw [h']; simp), if_neg h3]
        have hqr : ∀ k : Int, ∀ x ∈ (Spc.row q k).l, x.path.length ≤ 1000 := fun k x hx => by
          unfold Spc.row at hx; split at hx
          · exact hQ1.1 x hx
          · exact hQ2.1 x hx
        have hqn : ∀ k : Int, (Spc.row q k).l.length ≤ 300 := fun k => by unfold Spc.row; split; exact hQ1.2.2; exact hQ2.2.2
        refine RunH.doesB [] 6 (hc := Tryz.call16) (ho := rfl) (hw := rfl) (hd := rfl) (hf := rfl) (hes := rfl) (hσ := rfl) (hn := rfl) (hV := fun _ => rfl) (hG := fun _ => rfl) (e := fun y => spV s y) (hC := r07_Own s h1 h2) (hp := fun u hu => hu.fact.2.1) ?_
        rintro ⟨⟨A1, c1⟩, ⟨B1, d1⟩⟩ m4 hm4
        refine RunH.drop ?_
        refine RunH.adv tb_ok [] rfl rfl (by simp <;> omega) ?_
        refine RunH.tell [(1, strE p), (3, .av (.box 0 m0 0)), (5, .av (.box 1 (m0 + 1) 0)), (6, .av (.box 2 (m0 + 2) 0)), (11, .av (.box 6 m4 0)), (12, intE 1)] [(0, some (.box m0 [s.t.av, s.y.av] 24)), (1, some (.box (m0 + 1) [q.t.av, q.y.av] 24)), (2, some (.box (m0 + 2) [.val (.slice none 0 0), .val (.slice none 0 0)] 24)), (4, rowE kEntry A1 c1 s.t.l), (5, rowE kEntry B1 d1 s.y.l), (6, some (.box m4 [.val (.slice A1 s.t.l.length c1), .val (.slice B1 s.y.l.length d1)] 24))] [] rfl rfl rfl 7 ?_
        refine RunH.loop (α := Nat) (fun k => [(1, strE p), (3, .av (.box 0 m0 0)), (5, .av (.box 1 (m0 + 1) 0)), (6, .av (.box 2 (m0 + 2) 0)), (11, .av (.box 6 m4 0)), (12, intE k)]) (fun _ => [(0, some (.box m0 [s.t.av, s.y.av] 24)), (1, some (.box (m0 + 1) [q.t.av, q.y.av] 24)), (2, some (.box (m0 + 2) [.val (.slice none 0 0), .val (.slice none 0 0)] 24)), (4, rowE kEntry A1 c1 s.t.l), (5, rowE kEntry B1 d1 s.y.l), (6, some (.box m4 [.val (.slice A1 s.t.l.length c1), .val (.slice B1 s.y.l.length d1)] 24))])
          (fun k u => (K u ∧ s.ok u ∧ q.ok u) ∧ (1 ≤ k ∧ k ≤ 3) ∧ (2 ≤ k → q.t.l.all (okP p) = true) ∧ (3 ≤ k → q.y.l.all (okP p) = true)) (fun k => 4 - k) 1 rfl rfl (fun u h => ⟨h, by decide, by omega, by omega⟩) ?_
        intro k m5
        refine RunH.pure (fun u h => h.2) fun ⟨hk13, ho1, ho2⟩ => ?_
        by_cases hk2 : k ≤ 2
        · refine RunH.adv tb_ok [true] rfl rfl (by simp <;> omega) ?_
          refine RunH.gives (ho := rfl) (hw := rfl) (hd := rfl) (hf := rfl) (hes := rfl) (hc := Tryz.call79) (e := .av (Spc.row q k).av) (hC := fun u _ => r07_Of u q k) ?_
          intro m6 hm6
          refine RunH.adv tb_ok [] rfl rfl (by simp <;> omega) ?_
          have hok := fun u (hu : q.ok u) => Spc.ok.row hu (k : Int)
          have hRx := hqr k
          have hRn := hqn k
          have hbadR : (Spc.row q k).l.all (okP p) = false → (q.t.l.all (okP p) && q.y.l.all (okP p)) = false := by
            unfold Spc.row; split
            · intro h; rw [h]; rfl
            · intro h; rw [h, Bool.and_false]
          have hnext : (Spc.row q k).l.all (okP p) = true → (2 ≤ k + 1 → q.t.l.all (okP p) = true) ∧ (3 ≤ k + 1 → q.y.l.all (okP p) = true) := by
            unfold Spc.row
            intro h
            have : k = 1 ∨ k = 2 := by omega
            rcases this with rfl | rfl
            · exact ⟨fun _ => h, fun h => by omega⟩
            · exact ⟨fun _ => ho1 (by omega), fun _ => h⟩
          generalize Spc.row q k = R at *
          refine RunH.loop (α := Nat) (fun i => [(1, strE p), (3, .av (.box 0 m0 0)), (5, .av (.box 1 (m0 + 1) 0)), (6, .av (.box 2 (m0 + 2) 0)), (11, .av (.box 6 m4 0)), (12, intE k), (48, .av R.av), (49, intE R.l.length), (50, intE i)]) (fun _ => [(0, some (.box m0 [s.t.av, s.y.av] 24)), (1, some (.box (m0 + 1) [q.t.av, q.y.av] 24)), (2, some (.box (m0 + 2) [.val (.slice none 0 0), .val (.slice none 0 0)] 24)), (4, rowE kEntry A1 c1 s.t.l), (5, rowE kEntry B1 d1 s.y.l), (6, some (.box m4 [.val (.slice A1 s.t.l.length c1), .val (.slice B1 s.y.l.length d1)] 24))])
            (fun i u => (K u ∧ s.ok u ∧ q.ok u) ∧ i ≤ R.l.length ∧ (R.l.take i).all (okP p) = true) (fun i => R.l.length - i) 0 rfl rfl (fun u h => ⟨h.1, Nat.zero_le _, rfl⟩) ?_
          intro i m7
          refine RunH.pure (fun u h => h.2) fun ⟨hi, hpre⟩ => ?_
          by_cases hlt : i < R.l.length
          · have hts : R.l.take (i + 1) = R.l.take i ++ [R.l[i]] := List.take_succ_eq_append_getElem hlt
            have hxl := hRx _ (List.getElem_mem hlt)
            have hxm := List.getElem_mem hlt
            refine RunH.pure (fun u h => (hok u h.1.2.2).ptr hlt) fun hptr => ?_
            refine RunH.adv tb_ok [true] rfl rfl (by simp [hptr] <;> omega) ?_
            refine RunH.loadS (.st (entryF R.l[i])) rfl rfl rfl rfl (fun u hu => (hok u hu.fact.1.2.2).load hlt) ?_
            refine RunH.adv tb_ok [] rfl rfl (by simp <;> omega) ?_
            have hpe : pathsE [p ++ [46] ++ R.l[i].path] = if okP p R.l[i] = true then 0 else 4 := by
              unfold okP pathsE; rw [pj_cat]; simp
            refine RunH.gives (ho := rfl) (hw := rfl) (hd := rfl) (hf := rfl) (hes := rfl) (hc := Tryz.call101) (e := intE (pathsE [p ++ [46] ++ R.l[i].path])) (hC := fun u hu => r07_paths u _ _ [p ++ [46] ++ R.l[i].path] (Sl.own (B := B0) (hu.row (κ := kStr) (l := [p ++ [46] ++ R.l[i].path]) (id := 8) rfl) (by simp [hl])) (by simp; omega)) ?_
            intro m8 hm8
            by_cases hox : okP p R.l[i] = true
            · rw [if_pos hox] at hpe
              rw [hpe]
              refine RunH.adv tb_ok [false] rfl rfl (by simp <;> omega) ?_
              refine RunH.again (i + 1) (.head _) rfl rfl (by omega) fun u h => ⟨h.1, by omega, ?_⟩
              rw [hts, List.all_append, hpre]; simp [hox]
            · rw [if_neg hox] at hpe
              have hE : e = 4 := hE4 (hbadR (by rw [List.all_eq_false]; exact ⟨_, hxm, hox⟩))
              have hne : e ≠ 0 := by rw [hE]; decide
              rw [hpe]
              refine RunH.adv tb_ok [true] rfl rfl (by simp <;> omega) ?_
              refine RunH.nilrow 20 kEntry.T kEntry.sz 21 ?_
              refine RunH.nilrow 21 kEntry.T kEntry.sz 22 ?_
              refine RunH.retBoxT tb_ok nilSp Tryz.func36 rfl rfl rfl rfl rfl fun w hst => ⟨((none, 0), (none, 0)), by rw [hT0 _ hne, hT0 _ hne, hE]; rfl, by rw [hT0 _ hne, hT0 _ hne]; exact hst.out [(0, 20), (1, 21)] rfl rfl fun u h => ⟨h.1.1, trivial⟩⟩
          · rw [List.take_of_length_le (by omega)] at hpre
            obtain ⟨n1, n2⟩ := hnext hpre
            refine RunH.adv tb_ok [false] rfl rfl (by simp <;> omega) ?_
            refine RunH.again (k + 1) (.tail _ (.head _)) rfl rfl (by omega) fun u h => ⟨h.1, by omega, n1, n2⟩
        · have hoks : (q.t.l.all (okP p) && q.y.l.all (okP p)) = true := by rw [ho1 (by omega), ho2 (by omega)]; rfl
          refine RunH.adv tb_ok [false] rfl rfl (by simp <;> omega) ?_
          refine RunH.tell [(1, strE p), (3, .av (.box 0 m0 0)), (5, .av (.box 1 (m0 + 1) 0)), (6, .av (.box 2 (m0 + 2) 0)), (11, .av (.box 6 m4 0)), (16, intE 1)] [(0, some (.box m0 [s.t.av, s.y.av] 24)), (1, some (.box (m0 + 1) [q.t.av, q.y.av] 24)), (2, some (.box (m0 + 2) [.val (.slice none 0 0), .val (.slice none 0 0)] 24)), (4, rowE kEntry A1 c1 s.t.l), (5, rowE kEntry B1 d1 s.y.l), (6, some (.box m4 [.val (.slice (kA 1 A1 B1) (kA 1 s.t.l s.y.l).length (kA 1 c1 d1)), .val (.slice (kA 1 B1 A1) (kA 1 s.y.l s.t.l).length (kA 1 d1 c1))] 24))] [] rfl rfl rfl 7 ?_
          refine RunH.loop (α := Nat × (Option Addr × Nat) × (Option Addr × Nat) × List Entry × List Entry) (fun z => [(1, strE p), (3, .av (.box 0 m0 0)), (5, .av (.box 1 (m0 + 1) 0)), (6, .av (.box 2 (m0 + 2) 0)), (11, .av (.box 6 m4 0)), (16, intE z.1)]) (fun z => [(0, some (.box m0 [s.t.av, s.y.av] 24)), (1, some (.box (m0 + 1) [q.t.av, q.y.av] 24)), (2, some (.box (m0 + 2) [.val (.slice none 0 0), .val (.slice none 0 0)] 24)), (4, rowE kEntry z.2.1.1 z.2.1.2 z.2.2.2.1), (5, rowE kEntry z.2.2.1.1 z.2.2.1.2 z.2.2.2.2), (6, some (.box m4 [.val (.slice (kA (z.1 : Int) z.2.1.1 z.2.2.1.1) (kA (z.1 : Int) z.2.2.2.1 z.2.2.2.2).length (kA (z.1 : Int) z.2.1.2 z.2.2.1.2)), .val (.slice (kA (z.1 : Int) z.2.2.1.1 z.2.1.1) (kA (z.1 : Int) z.2.2.2.2 z.2.2.2.1).length (kA (z.1 : Int) z.2.2.1.2 z.2.1.2))] 24))])
            (fun z u => (K u ∧ s.ok u ∧ q.ok u) ∧ (1 ≤ z.1 ∧ z.1 ≤ 3) ∧ (2 ≤ z.1 → q.t.l.any (clash s.t.l p) = false) ∧ (3 ≤ z.1 → q.y.l.any (clash s.y.l p) = false) ∧ (z.1 ≤ 2 → z.2.2.2.1 = (Spc.row s z.1).l) ∧ (z.1 = 1 → z.2.2.2.2 = s.y.l) ∧ (2 ≤ z.1 → z.2.2.2.2 = putL p s.t.l q.t.l) ∧ (z.1 = 3 → z.2.2.2.1 = putL p s.y.l q.y.l)) (fun z => 4 - z.1) (1, (A1, c1), (B1, d1), s.t.l, s.y.l) rfl rfl
            (fun u h => ⟨h.1, ⟨Nat.le_refl 1, by show 1 ≤ 3; decide⟩, fun h => absurd (show 2 ≤ 1 from h) (by decide), fun h => absurd (show 3 ≤ 1 from h) (by decide), fun _ => rfl, fun _ => rfl, fun h => absurd (show 2 ≤ 1 from h) (by decide), fun h => absurd (show 1 = 3 from h) (by decide)⟩) ?_
          rintro ⟨k, ⟨A, c⟩, ⟨B, d⟩, L0, O⟩ m9
          refine RunH.pure (fun u h => h.2) fun ⟨hk13, hcl1, hcl2, hL0, hO1, hO2, hL3⟩ => ?_
          dsimp only at hk13 hcl1 hcl2 hL0 hO1 hO2 hL3 ⊢
          by_cases hk2 : k ≤ 2
          · have hL0 := hL0 hk2
            have hOn : O.length ≤ 1000 := by
              have h12 : k = 1 ∨ k = 2 := by omega
              rcases h12 with rfl | rfl
              · rw [hO1 rfl]; have := hS2.2.2; omega
              · rw [hO2 (by decide)]; have := putL_le p s.t.l q.t.l; have := hS1.2.2; have := hQ1.2.2; omega
            have hL0n : L0.length ≤ 300 := by rw [hL0]; unfold Spc.row; split; exact hS1.2.2; exact hS2.2.2
            refine RunH.adv tb_ok [true] rfl rfl (by simp <;> omega) ?_
            refine RunH.gives (ho := rfl) (hw := rfl) (hd := rfl) (hf := rfl) (hes := rfl) (hc := Tryz.call79) (e := .av (Spc.row q k).av) (hC := fun u _ => r07_Of u q k) ?_
            intro m10 hm10
            refine RunH.adv tb_ok [] rfl rfl (by simp <;> omega) ?_
            have hok := fun u (hu : q.ok u) => Spc.ok.row hu (k : Int)
            have hsk := fun u (hu : s.ok u) => Spc.ok.row hu (k : Int)
            have hofS := fun u => r07_Of u s (k : Int)
            have hRx := hqr k
            have hRn := hqn k
            have hclR : (Spc.row q k).l.any (clash (Spc.row s k).l p) = true → (q.t.l.any (clash s.t.l p) || q.y.l.any (clash s.y.l p)) = true := by
              unfold Spc.row; split
              · intro h; rw [h]; rfl
              · intro h; rw [h, Bool.or_true]
            have hnext : (Spc.row q k).l.any (clash (Spc.row s k).l p) = false → (2 ≤ k + 1 → q.t.l.any (clash s.t.l p) = false) ∧ (3 ≤ k + 1 → q.y.l.any (clash s.y.l p) = false) := by
              unfold Spc.row
              intro h
              have : k = 1 ∨ k = 2 := by omega
              rcases this with rfl | rfl
              · exact ⟨fun _ => h, fun h => by omega⟩
              · exact ⟨fun _ => hcl1 (by omega), fun _ => h⟩
            have hput : (k = 1 → putL p L0 (Spc.row q k).l = putL p s.t.l q.t.l) ∧ (k = 2 → putL p L0 (Spc.row q k).l = putL p s.y.l q.y.l) := by
              rw [hL0]; exact ⟨fun h => by subst h; rfl, fun h => by subst h; rfl⟩
            have hS0 : ∀ x, isAt (Spc.row s k).l x = isAt (Spc.row s k).l x := fun _ => rfl
            generalize Spc.row q k = R at *
            generalize hS : Spc.row s k = S0 at *
            refine RunH.loop (α := Nat × (Option Addr × Nat) × (Option Addr × Nat) × List Entry) (fun z => [(1, strE p), (3, .av (.box 0 m0 0)), (5, .av (.box 1 (m0 + 1) 0)), (6, .av (.box 2 (m0 + 2) 0)), (11, .av (.box 6 m4 0)), (16, intE k), (72, .av R.av), (73, intE R.l.length), (74, intE z.1)]) (fun z => [(0, some (.box m0 [s.t.av, s.y.av] 24)), (1, some (.box (m0 + 1) [q.t.av, q.y.av] 24)), (2, some (.box (m0 + 2) [.val (.slice none 0 0), .val (.slice none 0 0)] 24)), (4, rowE kEntry z.2.1.1 z.2.1.2 z.2.2.2), (5, rowE kEntry z.2.2.1.1 z.2.2.1.2 O), (6, some (.box m4 [.val (.slice (kA (k : Int) z.2.1.1 z.2.2.1.1) (kA (k : Int) z.2.2.2 O).length (kA (k : Int) z.2.1.2 z.2.2.1.2)), .val (.slice (kA (k : Int) z.2.2.1.1 z.2.1.1) (kA (k : Int) O z.2.2.2).length (kA (k : Int) z.2.2.1.2 z.2.1.2))] 24))])
              (fun z u => (K u ∧ s.ok u ∧ q.ok u) ∧ z.1 ≤ R.l.length ∧ (R.l.take z.1).any (clash S0.l p) = false ∧ z.2.2.2 = putL p L0 (R.l.take z.1)) (fun z => R.l.length - z.1) (0, (A, c), (B, d), L0) rfl rfl (fun u h => ⟨h.1, Nat.zero_le _, rfl, rfl⟩) ?_
            rintro ⟨i, ⟨Ai, ci⟩, ⟨Bi, di⟩, L⟩ m11
            refine RunH.pure (fun u h => h.2) fun ⟨hi, hpre, hLp⟩ => ?_
            dsimp only at hi hpre hLp ⊢
            by_cases hlt : i < R.l.length
            · have hts : R.l.take (i + 1) = R.l.take i ++ [R.l[i]] := List.take_succ_eq_append_getElem hlt
              have hxl := hRx _ (List.getElem_mem hlt)
              have hxm := List.getElem_mem hlt
              have hLn : L.length ≤ 1000 := by rw [hLp]; have := putL_le p L0 (R.l.take i); rw [List.length_take] at this; omega
              have hcx : clash S0.l p R.l[i] = isAt S0.l (p ++ [46] ++ R.l[i].path) := by unfold clash; rw [pj_cat]
              have hsn : putL p L0 (R.l.take (i + 1)) = setL L ⟨p ++ [46] ++ R.l[i].path, R.l[i].sum⟩ := by rw [hts, putL_snoc, ← hLp]; unfold pj; rw [pj_cat]
              refine RunH.pure (fun u h => (hok u h.1.2.2).ptr hlt) fun hptr => ?_
              refine RunH.adv tb_ok [true] rfl rfl (by simp [hptr] <;> omega) ?_
              refine RunH.loadS (.st (entryF R.l[i])) rfl rfl rfl rfl (fun u hu => (hok u hu.fact.1.2.2).load hlt) ?_
              refine RunH.adv tb_ok [] rfl rfl (by simp <;> omega) ?_
              refine RunH.draw rfl [(0, some (.box m0 [s.t.av, s.y.av] 24)), (7, some (.box m11 (entryF R.l[i]) 44))] rfl 14 rfl rfl ?_
              refine RunD.adv tb_ok (by kernel_rfl) [] rfl rfl (by simp <;> omega) ?_
              refine RunD.gives (i := 2) (.av S0.av) rfl (by kernel_rfl) rfl rfl rfl rfl Tryz.call79 (fun u hu => hofS u) rfl (fun _ h => h) ?_
              intro m12 hm12
              refine RunD.adv tb_ok (by kernel_rfl) [] rfl rfl (by simp <;> omega) ?_
              refine RunD.gives (i := 8) (atV S0.l (p ++ [46] ++ R.l[i].path)) rfl (by kernel_rfl) rfl rfl rfl rfl Tryz.call107 (fun u hu => r07_At u _ _ _ (hsk u hu.fact.1.2.1) _) rfl (fun _ h => h) ?_
              intro m13 hm13
              refine RunD.adv tb_ok (by kernel_rfl) [] rfl rfl (by simp <;> omega) ?_
              refine RunD.done (.inl rfl) (by kernel_rfl) ?_
              by_cases hcl : isAt S0.l (p ++ [46] ++ R.l[i].path) = true
              · have hE : e = 5 := hE5 hoks (hclR (by rw [List.any_eq_true]; exact ⟨_, hxm, by rw [hcx]; exact hcl⟩))
                have hne : e ≠ 0 := by rw [hE]; decide
                rw [hcl]
                refine RunH.adv tb_ok [true] rfl rfl (by simp <;> omega) ?_
                refine RunH.nilrow 20 kEntry.T kEntry.sz 21 ?_
                refine RunH.nilrow 21 kEntry.T kEntry.sz 22 ?_
                refine RunH.retBoxT tb_ok nilSp Tryz.func36 rfl rfl rfl rfl rfl fun w hst => ⟨((none, 0), (none, 0)), by rw [hT0 _ hne, hT0 _ hne, hE]; rfl, by rw [hT0 _ hne, hT0 _ hne]; exact hst.out [(0, 20), (1, 21)] rfl rfl fun u h => ⟨h.1.1, trivial⟩⟩
              · have hcl : isAt S0.l (p ++ [46] ++ R.l[i].path) = false := by simpa using hcl
                rw [hcl]
                refine RunH.adv tb_ok [false] rfl rfl (by simp <;> omega) ?_
                obtain ⟨hK1, hK2⟩ := spK_len (k := (k : Int)) (A := Ai) (B := Bi) (c := ci) (d := di) (L := L) (O := O) (by omega) (by omega)
                have hof2 : ∀ u, Gives Tryz.prog 79 [(spK k Ai Bi ci di L O).ev.v, intV k] u (.av (.val (.slice Ai L.length ci))) := fun u => by
                  have := r07_Of u (spK k Ai Bi ci di L O) k
                  rw [spK_row] at this; exact this
                refine RunH.draw rfl [(7, some (.box m11 (entryF R.l[i]) 44)), (6, some (.box m4 [.val (.slice (kA (k : Int) Ai Bi) (kA (k : Int) L O).length (kA (k : Int) ci di)), .val (.slice (kA (k : Int) Bi Ai) (kA (k : Int) O L).length (kA (k : Int) di ci))] 24))] rfl 15 rfl rfl ?_
                refine RunD.adv tb_ok (by kernel_rfl) [] rfl rfl (by simp <;> omega) ?_
                refine RunD.gives (i := 4) (.av (.val (.slice Ai L.length ci))) rfl (by kernel_rfl) rfl rfl rfl rfl Tryz.call79 (fun u hu => hof2 u) rfl (fun _ h => h) ?_
                intro m14 hm14
                refine RunD.adv tb_ok (by kernel_rfl) [] rfl rfl (by simp <;> omega) ?_
                refine RunD.doesB (i := 12) [] 9 (fun z : Option Addr × Nat => rowS 8 z.1 (setL L ⟨p ++ [46] ++ R.l[i].path, R.l[i].sum⟩).length z.2) rfl (by kernel_rfl) rfl rfl rfl rfl Tryz.call109 (r07_With Ai ci L (p ++ [46] ++ R.l[i].path) R.l[i].sum (by omega)) rfl rfl (fun _ => rfl) (fun _ => rfl) (fun u hu => Sl.own (B := B0) (hu.row (κ := kEntry) (l := L) (id := 4) rfl) (by omega)) (fun _ => rfl) (fun _ h => h) ?_
                rintro ⟨A2, c2⟩ m15 hm15
                generalize setL L ⟨p ++ [46] ++ R.l[i].path, R.l[i].sum⟩ = L' at *
                have hIn : Does Tryz.prog tb 108 [(spK k Ai Bi ci di L O).ev.v, intV k, .slice A2 L'.length c2] [(0, rowE kEntry A2 c2 L')] (fun u => (spK k Ai Bi ci di L O).ok u)
                    (fun y : Option Addr × Nat => .agg #[.slice (kA (k : Int) A2 y.1) (kA (k : Int) L' O).length (kA (k : Int) c2 y.2), .slice (kA (k : Int) y.1 A2) (kA (k : Int) O L').length (kA (k : Int) y.2 c2)])
                    (fun y => [(0, rowE kEntry A2 c2 L'), (1, rowE kEntry y.1 y.2 O)]) (fun _ _ _ => True) := by
                  have := r07_In (spK k Ai Bi ci di L O) k A2 c2 L' hK1 hK2
                  rw [spK_other] at this
                  simp only [kA_len]
                  exact this
                refine RunD.adv tb_ok (by kernel_rfl) [] rfl rfl (by simp <;> omega) ?_
                refine RunD.doesB (i := 13) [(0, 8)] 11 (fun y : Option Addr × Nat => .st [.val (.slice (kA (k : Int) A2 y.1) (kA (k : Int) L' O).length (kA (k : Int) c2 y.2)), .val (.slice (kA (k : Int) y.1 A2) (kA (k : Int) O L').length (kA (k : Int) y.2 c2))]) rfl (by kernel_rfl) rfl rfl rfl rfl Tryz.call108 hIn rfl rfl (fun _ => rfl) (fun _ => rfl) (fun u hu => spK_ok (Sl.own (B := B0) (hu.row (κ := kEntry) (l := L) (id := 4) rfl) (by omega)) (Sl.own (B := B0) (hu.row (κ := kEntry) (l := O) (id := 5) rfl) (by omega))) (fun _ => rfl) (fun _ h => h.1) ?_
                rintro ⟨B2, d2⟩ m16 hm16
                refine RunD.adv tb_ok (by kernel_rfl) [] rfl rfl (by simp <;> omega) ?_
                refine RunD.lastStep (i := 14) tb_ok rfl (by kernel_rfl) rfl (by kernel_rfl) (by kernel_rfl) rfl rfl ?_ (Nat.le_refl _) rfl ?_
                · first | trivial | (simp [AllOb, Ob.P, sum_len, sz_sum, one_int, u8V_one]; done)
                intro m17 hm17
                refine RunH.adv tb_ok [] rfl rfl (by simp <;> omega) ?_
                refine RunH.tell [(1, strE p), (3, .av (.box 0 m0 0)), (5, .av (.box 1 (m0 + 1) 0)), (6, .av (.box 2 (m0 + 2) 0)), (11, .av (.box 6 m4 0)), (16, intE k), (72, .av R.av), (73, intE R.l.length), (74, intE ((i + 1 : Nat) : Int))] [(0, some (.box m0 [s.t.av, s.y.av] 24)), (1, some (.box (m0 + 1) [q.t.av, q.y.av] 24)), (2, some (.box (m0 + 2) [.val (.slice none 0 0), .val (.slice none 0 0)] 24)), (4, rowE kEntry A2 c2 L'), (5, rowE kEntry B2 d2 O), (6, some (.box m4 [.val (.slice (kA (k : Int) A2 B2) (kA (k : Int) L' O).length (kA (k : Int) c2 d2)), .val (.slice (kA (k : Int) B2 A2) (kA (k : Int) O L').length (kA (k : Int) d2 c2))] 24))] [(4, 8), (5, 10)] rfl rfl rfl 7 ?_
                refine RunH.again (i + 1, (A2, c2), (B2, d2), L') (.head _) rfl rfl (by dsimp only; omega) fun u h => ⟨h.1.1.1, by dsimp only; omega, ?_, hsn.symm⟩
                dsimp only
                rw [hts, List.any_append, hpre]
                simp only [List.any_cons, List.any_nil, hcx, hcl, Bool.or_false, Bool.false_or]
            · rw [List.take_of_length_le (by omega)] at hpre hLp
              obtain ⟨n1, n2⟩ := hnext hpre
              have h12 : k = 1 ∨ k = 2 := by omega
              rcases h12 with rfl | rfl
              · refine RunH.adv tb_ok [false] rfl rfl (by simp <;> omega) ?_
                refine RunH.tell [(1, strE p), (3, .av (.box 0 m0 0)), (5, .av (.box 1 (m0 + 1) 0)), (6, .av (.box 2 (m0 + 2) 0)), (11, .av (.box 6 m4 0)), (16, intE ((2 : Nat) : Int))] [(0, some (.box m0 [s.t.av, s.y.av] 24)), (1, some (.box (m0 + 1) [q.t.av, q.y.av] 24)), (2, some (.box (m0 + 2) [.val (.slice none 0 0), .val (.slice none 0 0)] 24)), (4, rowE kEntry Bi di O), (5, rowE kEntry Ai ci L), (6, some (.box m4 [.val (.slice (kA ((2 : Nat) : Int) Bi Ai) (kA ((2 : Nat) : Int) O L).length (kA ((2 : Nat) : Int) di ci)), .val (.slice (kA ((2 : Nat) : Int) Ai Bi) (kA ((2 : Nat) : Int) L O).length (kA ((2 : Nat) : Int) ci di))] 24))] [(4, 5), (5, 4)] rfl rfl rfl 7 ?_
                refine RunH.again (2, (Bi, di), (Ai, ci), O, L) (.tail _ (.head _)) rfl rfl (by show 4 - 2 < 4 - 1; decide) fun u h => ⟨h.1, ⟨by show 1 ≤ 2; decide, by show 2 ≤ 3; decide⟩, fun _ => n1 (by decide), fun h => absurd (show 3 ≤ 2 from h) (by decide), fun _ => hO1 rfl, fun h => absurd (show 2 = 1 from h) (by decide), fun _ => by rw [← hput.1 rfl]; exact hLp, fun h => absurd (show 2 = 3 from h) (by decide)⟩
              · refine RunH.adv tb_ok [false] rfl rfl (by simp <;> omega) ?_
                refine RunH.tell [(1, strE p), (3, .av (.box 0 m0 0)), (5, .av (.box 1 (m0 + 1) 0)), (6, .av (.box 2 (m0 + 2) 0)), (11, .av (.box 6 m4 0)), (16, intE ((3 : Nat) : Int))] [(0, some (.box m0 [s.t.av, s.y.av] 24)), (1, some (.box (m0 + 1) [q.t.av, q.y.av] 24)), (2, some (.box (m0 + 2) [.val (.slice none 0 0), .val (.slice none 0 0)] 24)), (4, rowE kEntry Ai ci L), (5, rowE kEntry Bi di O), (6, some (.box m4 [.val (.slice (kA ((3 : Nat) : Int) Ai Bi) (kA ((3 : Nat) : Int) L O).length (kA ((3 : Nat) : Int) ci di)), .val (.slice (kA ((3 : Nat) : Int) Bi Ai) (kA ((3 : Nat) : Int) O L).length (kA ((3 : Nat) : Int) di ci))] 24))] [] rfl rfl rfl 7 ?_
                refine RunH.again (3, (Ai, ci), (Bi, di), L, O) (.tail _ (.head _)) rfl rfl (by show 4 - 3 < 4 - 2; decide) fun u h => ⟨h.1, ⟨by show 1 ≤ 3; decide, by show 3 ≤ 3; decide⟩, fun _ => n1 (by decide), fun _ => n2 (by decide), fun h => absurd (show 3 ≤ 2 from h) (by decide), fun h => absurd (show 3 = 1 from h) (by decide), fun _ => hO2 (by decide), fun _ => by rw [← hput.2 rfl]; exact hLp⟩
          · have hk3 : k = 3 := by omega
            subst hk3
            have hLe := hL3 rfl
            have hOe := hO2 (by decide)
            have hcl : (q.t.l.any (clash s.t.l p) || q.y.l.any (clash s.y.l p)) = false := by rw [hcl1 (by decide), hcl2 (by decide)]; rfl
            rw [← hLe, ← hOe] at hE12 hE0
            have hln : L0.length ≤ 1000 := by rw [hLe]; have := putL_le p s.y.l q.y.l; have := hS2.2.2; have := hQ2.2.2; omega
            have hon : O.length ≤ 1000 := by rw [hOe]; have := putL_le p s.t.l q.t.l; have := hS1.2.2; have := hQ1.2.2; omega
            refine RunH.tell [(1, strE p), (3, .av (.box 0 m0 0)), (5, .av (.box 1 (m0 + 1) 0)), (6, .av (.box 2 (m0 + 2) 0)), (11, .av (.box 6 m4 0)), (16, intE ((3 : Nat) : Int))] [(0, some (.box m0 [s.t.av, s.y.av] 24)), (1, some (.box (m0 + 1) [q.t.av, q.y.av] 24)), (2, some (.box (m0 + 2) [.val (.slice none 0 0), .val (.slice none 0 0)] 24)), (4, rowE kEntry A c L0), (5, rowE kEntry B d O), (6, some (.box m4 [.val (.slice B O.length d), .val (.slice A L0.length c)] 24))] [] rfl rfl rfl 7 ?_
            by_cases ht3 : 300 < O.length
            · have hE : e = 12 := hE12 hoks hcl (.inl ht3)
              have hne : e ≠ 0 := by rw [hE]; decide
              refine RunH.adv tb_ok [false, true] rfl rfl (by simp [ht3] <;> omega) ?_
              refine RunH.nilrow 20 kEntry.T kEntry.sz 21 ?_
              refine RunH.nilrow 21 kEntry.T kEntry.sz 22 ?_
              refine RunH.retBoxT tb_ok nilSp Tryz.func36 rfl rfl rfl rfl rfl fun w hst => ⟨((none, 0), (none, 0)), by rw [hT0 _ hne, hT0 _ hne, hE]; rfl, by rw [hT0 _ hne, hT0 _ hne]; exact hst.out [(0, 20), (1, 21)] rfl rfl fun u h => ⟨h.1.1, trivial⟩⟩
            · by_cases hy3 : 300 < L0.length
              · have hE : e = 12 := hE12 hoks hcl (.inr hy3)
                have hne : e ≠ 0 := by rw [hE]; decide
                refine RunH.adv tb_ok [false, false, true] rfl rfl (by simp [ht3, hy3] <;> omega) ?_
                refine RunH.nilrow 20 kEntry.T kEntry.sz 21 ?_
                refine RunH.nilrow 21 kEntry.T kEntry.sz 22 ?_
                refine RunH.retBoxT tb_ok nilSp Tryz.func36 rfl rfl rfl rfl rfl fun w hst => ⟨((none, 0), (none, 0)), by rw [hT0 _ hne, hT0 _ hne, hE]; rfl, by rw [hT0 _ hne, hT0 _ hne]; exact hst.out [(0, 20), (1, 21)] rfl rfl fun u h => ⟨h.1.1, trivial⟩⟩
              · have hE : e = 0 := hE0 hoks hcl (by omega)
                subst hE
                rw [← hLe, ← hOe]
                refine RunH.adv tb_ok [false, false, false] rfl rfl (by simp [ht3, hy3] <;> omega) ?_
                refine RunH.retBoxT tb_ok (.st [.val (.slice B O.length d), .val (.slice A L0.length c)]) Tryz.func36 rfl rfl rfl rfl rfl fun w hst => ⟨((B, d), (A, c)), rfl, hst.out [(0, 5), (1, 4)] rfl rfl fun u h => ⟨h.1.1, trivial⟩⟩
      · have hE : e = pathsE [p] := by rw [← hre]; unfold intoE; rw [if_pos hc1, if_pos hc2, if_neg hp]
        have hne : e ≠ 0 := by rw [hE]; exact hp
        refine RunH.adv tb_ok [true] rfl rfl (by simp [hp] <;> omega) ?_
        refine RunH.nilrow 20 kEntry.T kEntry.sz 21 ?_
        refine RunH.nilrow 21 kEntry.T kEntry.sz 22 ?_
        refine RunH.retBoxT tb_ok nilSp Tryz.func36 rfl rfl rfl rfl rfl fun w hst => ⟨((none, 0), (none, 0)), by rw [hT0 _ hne, hT0 _ hne, hE]; rfl, by rw [hT0 _ hne, hT0 _ hne]; exact hst.out [(0, 20), (1, 21)] rfl rfl fun u h => ⟨h.1, trivial⟩⟩
    · have hE : e = checkE q.t.l q.y.l := by rw [← hre]; unfold intoE; rw [if_pos hc1, if_neg hc2]
      have hne : e ≠ 0 := by rw [hE]; exact hc2
      refine RunH.adv tb_ok [true] rfl rfl (by simp [hc2] <;> omega) ?_
      refine RunH.nilrow 20 kEntry.T kEntry.sz 21 ?_
      refine RunH.nilrow 21 kEntry.T kEntry.sz 22 ?_
      refine RunH.retBoxT tb_ok nilSp Tryz.func36 rfl rfl rfl rfl rfl fun w hst => ⟨((none, 0), (none, 0)), by rw [hT0 _ hne, hT0 _ hne, hE]; rfl, by rw [hT0 _ hne, hT0 _ hne]; exact hst.out [(0, 20), (1, 21)] rfl rfl fun u h => ⟨h.1, trivial⟩⟩
  · have hE : e = checkE s.t.l s.y.l := by rw [← hre]; unfold intoE; rw [if_neg hc1]
    have hne : e ≠ 0 := by rw [hE]; exact hc1
    refine RunH.adv tb_ok [true] rfl rfl (by simp [hc1] <;> omega) ?_
    refine RunH.nilrow 20 kEntry.T kEntry.sz 21 ?_
    refine RunH.nilrow 21 kEntry.T kEntry.sz 22 ?_
    refine RunH.retBoxT tb_ok nilSp Tryz.func36 rfl rfl rfl rfl rfl fun w hst => ⟨((none, 0), (none, 0)), by rw [hT0 _ hne, hT0 _ hne, hE]; rfl, by rw [hT0 _ hne, hT0 _ hne]; exact hst.out [(0, 20), (1, 21)] rfl rfl fun u h => ⟨h.1, trivial⟩⟩
end Go.Proofs.YtagnkcdhenilbaaGreatDoor
