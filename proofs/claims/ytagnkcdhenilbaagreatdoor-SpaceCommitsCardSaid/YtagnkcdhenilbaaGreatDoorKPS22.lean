/-
A part of the proofs of the laws of a seat: contracts of functions and lemmas on them; the listed package variables hold what the program's text lays. No further condition.
-/
import Derived.Test.YtagnkcdhenilbaaGreatDoorKPS20
set_option linter.unusedVariables false
set_option linter.unusedSectionVars false
set_option linter.unusedSimpArgs false
namespace Go.Proofs.YtagnkcdhenilbaaGreatDoor
open Go V

theorem midL_get2 (p : Str) (l : List Entry) (j : Nat) (h : j < l.length) : (midL p l (j + 1))[j]'(by rw [midL_len]; exact h) = pj p l[j] := by
  have h1 := midL_set p l j h
  have h2 : ((midL p l j).set j (pj p l[j]))[j]'(by rw [List.length_set, midL_len]; exact h) = pj p l[j] := by simp
  have h3 : ∀ (a b : List Entry) (e : a = b) (hb : j < b.length), b[j] = a[j]'(by rw [e]; exact hb) := by rintro a b rfl hb; rfl
  rw [h3 _ _ h1 (by rw [midL_len]; exact h)]
  exact h2

theorem listE_ok {l : List Entry} (h : listE l = 0) : (∀ x ∈ l, x.path.length ≤ 1000) ∧ rises l = true ∧ l.length ≤ 300 := by
  unfold listE at h
  split at h
  · cases h
  · split at h
    · rename_i h1 h2
      split at h
      · rename_i h3
        refine ⟨fun x hx => ?_, h3, by omega⟩
        have := pathOk_len (List.all_eq_true.1 h2 x hx)
        omega
      · cases h
    · cases h

theorem checkE_ok {t y : List Entry} (h : checkE t y = 0) : listE t = 0 ∧ listE y = 0 := by
  unfold checkE at h
  split at h
  · exact ⟨‹_›, h⟩
  · exact absurd h ‹_›

theorem pathsE_ok {p : Str} (h : pathsE [p] = 0) : p.length ≤ 1000 := by
  unfold pathsE at h
  split at h
  · rename_i h1
    have := pathOk_len (by simpa using h1)
    omega
  · cases h

theorem V.RunH.storeP {f : Fr} {n : Nat} {S : Stops} {R : Ending → World → Prop} {B0 : Nat} {I : World → Prop} {H : Heap} {nx m : Nat} {env : SEnv} {k : List Item} {ops : Array Oper} {i : Nat} {rs : List Nat} {ty : TypeId} {ps : String} {af : Array Edge} {gd : Option (Nat × Bool)} {px y : Operand} {pa : Addr} {ey : EV} {A : Option Addr} {c id j : Nat} {l : List Entry} (t : Str) (l' : List Entry)
    (ho : ops.toList[i]? = some ⟨none, .store 9 px y, ty, ps, af, gd⟩) (hw : wantE env ops gd = .yes) (hx : ptrE (evE env px) = some pa) (hy : evE env y = some ey) (hH : lookH H id = rowE kEntry A c l) (hj : j < l.length) (hp : pa = ⟨blkA A, offA A + j * 33, none⟩) (hv : ey.v = strV t) (hl : l.set j ⟨t, l[j].sum⟩ = l')
    (hk : ∀ m', m ≤ m' → RunH Tryz.prog f n tb B0 S R (.inRegion ops rs :: k) env ((id, rowE kEntry A c l') :: H) nx m' I) : RunH Tryz.prog f n tb B0 S R (.inRegion ops (i :: rs) :: k) env H nx m I :=
  RunH.storeS _ ho hw hx hy (fun w _ hst => by rw [hv, hp, ← hl]; exact hst.storePath hH hj t) hk

def putL (p : Str) (l m : List Entry) : List Entry := m.foldl (fun a x => setL a (pj p x)) l
theorem putL_snoc (p : Str) (l m : List Entry) (x : Entry) : putL p l (m ++ [x]) = setL (putL p l m) (pj p x) := by
  unfold putL; rw [List.foldl_append]; rfl
theorem rises_putL (p : Str) {l : List Entry} (m : List Entry) (h : rises l = true) : rises (putL p l m) = true := by
  unfold putL
  induction m generalizing l with
  | nil => exact h
  | cons x r ih => rw [List.foldl_cons]; exact ih (rises_setL h)
theorem putL_le (p : Str) (l m : List Entry) : (putL p l m).length ≤ l.length + m.length := by
  unfold putL
  induction m generalizing l with
  | nil => simp
  | cons x r ih =>
    rw [List.foldl_cons, List.length_cons]
    have := setL_le l (pj p x)
    have := ih (setL l (pj p x))
    omega

def okP (p : Str) (x : Entry) : Bool := pathOk (joinD [p, x.path])
def clash (l : List Entry) (p : Str) (x : Entry) : Bool := isAt l (joinD [p, x.path])
/-- What stands against one below another. -/
def intoE (t y t2 y2 : List Entry) (p : Str) : Int :=
  if checkE t y = 0 then (if checkE t2 y2 = 0 then (if pathsE [p] = 0 then
    (if (t2.all (okP p) && y2.all (okP p)) = true then (if (t2.any (clash t p) || y2.any (clash y p)) = true then 5 else if 300 < (putL p t t2).length ∨ 300 < (putL p y y2).length then 12 else 0) else 4) else pathsE [p]) else checkE t2 y2) else checkE t y
def inT (e : Int) (l : List Entry) : List Entry := if e = 0 then l else []

theorem V.RunH.meetS {P : Program} {f : Fr} {n : Nat} {S : Stops} {R : Ending → World → Prop} {tb : TT} {B0 : Nat} {I : World → Prop} {H : Heap} {nx m : Nat} {env : SEnv} {todo : List Item} {α : Type} {E : α → SEnv} {G : α → Heap} {F : α → World → Prop} (y : α) (σ : List (Nat × Nat)) (hm : (todo, fun ds K w => ∃ y, ds = f.ds ∧ V.Sub (E y) K ∧ St tb B0 (G y) (F y) w) ∈ S)
    (hs : V.Sub (E y) (kn env)) (hG : SelEq (G y) H σ) (hn : nodupN ((G y).map fun p => ren σ p.1) = true) (hF : ∀ w, I w → F y w) : RunH P f n tb B0 S R todo env H nx m I :=
  fun _ _ hst => Run.stop hm ⟨y, rfl, hs, (hst.sel (Sel.of σ hG hn)).mono fun u _ hu => hF u hu⟩

theorem V.RunH.joinK {P : Program} {f : Fr} {n : Nat} {S : Stops} {R : Ending → World → Prop} {tb : TT} {B0 : Nat} {I : World → Prop} {H : Heap} {nx m : Nat} {env : SEnv} {todo : List Item} {α : Type} {k : List Item} (E : α → SEnv) (G : α → Heap) (F : α → World → Prop)
    (h1 : RunH P f n tb B0 ((k, fun ds K w => ∃ y, ds = f.ds ∧ V.Sub (E y) K ∧ St tb B0 (G y) (F y) w) :: S) R todo env H nx m I)
    (h2 : ∀ y m', RunH P f n tb B0 S R k (E y) (G y) nx m' (F y)) : RunH P f n tb B0 S R todo env H nx m I := RunH.join k E G F h1 h2

theorem V.RunH.toNx {P : Program} {f : Fr} {n : Nat} {S : Stops} {R : Ending → World → Prop} {tb : TT} {B0 : Nat} {I : World → Prop} {H : Heap} {nx m : Nat} {env : SEnv} {todo : List Item} (nx' : Nat) (h : RunH P f n tb B0 S R todo env H nx' m I) : RunH P f n tb B0 S R todo env H nx m I := h

set_option maxRecDepth 10000 in
theorem Into_spec (s q : Spc) (p : Str) (h1 : s.t.l.length ≤ 1000000) (h2 : s.y.l.length ≤ 1000000) (h3 : q.t.l.length ≤ 1000000) (h4 : q.y.l.length ≤ 1000000) :
    Does Tryz.prog tb 35 [s.ev.v, strV p, q.ev.v] [] (fun u => MaxLen u ∧ s.ok u ∧ q.ok u)
      (fun z : (Option Addr × Nat) × (Option Addr × Nat) => .tuple #[.agg #[.slice z.1.1 (inT (intoE s.t.l s.y.l q.t.l q.y.l p) (putL p s.t.l q.t.l)).length z.1.2, .slice z.2.1 (inT (intoE s.t.l s.y.l q.t.l q.y.l p) (putL p s.y.l q.y.l)).length z.2.2], intV (intoE s.t.l s.y.l q.t.l q.y.l p)])
      (fun z => [(0, rowE kEntry z.1.1 z.1.2 (inT (intoE s.t.l s.y.l q.t.l q.y.l p) (putL p s.t.l q.t.l))), (1, rowE kEntry z.2.1 z.2.2 (inT (intoE s.t.l s.y.l q.t.l q.y.l p) (putL p s.y.l q.y.l)))]) (fun _ _ _ => True) := by
  have hl : lim = 140737488351232 := rfl
  refine Does.enter tb_ok [(0, s.ev), (1, strE p), (2, q.ev)] Tryz.func35 rfl Tryz.ntmps35 rfl rfl 0 ?_
  intro B0 m0 K
  generalize hre : intoE s.t.l s.y.l q.t.l q.y.l p = e
  have hT0 : ∀ l, e ≠ 0 → inT e l = [] := fun l h => if_neg h
  refine RunH.adv tb_ok [] rfl rfl (by simp <;> omega) ?_
  refine RunH.gives (ho := rfl) (hw := rfl) (hd := rfl) (hf := rfl) (hes := rfl) (hc := Tryz.call19) (e := intE (checkE s.t.l s.y.l)) (hC := fun w hst => space_Check w hst.fact.2.1 s hst.fact.2.2.1) ?_
  intro m1 hm1
  by_cases hc1 : checkE s.t.l s.y.l = 0
  · refine RunH.adv tb_ok [false] rfl rfl (by simp [hc1] <;> omega) ?_
    refine RunH.gives (ho := rfl) (hw := rfl) (hd := rfl) (hf := rfl) (hes := rfl) (hc := Tryz.call19) (e := intE (checkE q.t.l q.y.l)) (hC := fun w hst => space_Check w hst.fact.2.1 q hst.fact.2.2.2) ?_
    intro m2 hm2
    by_cases hc2 : checkE q.t.l q.y.l = 0
    · refine RunH.adv tb_ok [false] rfl rfl (by simp [hc2] <;> omega) ?_
      refine RunH.gives (ho := rfl) (hw := rfl) (hd := rfl) (hf := rfl) (hes := rfl) (hc := Tryz.call85) (e := intE (pathsE [p])) (hC := fun w hst => space_paths w hst.fact.2.1 _ _ [p] (Sl.own (B := B0) (hst.row (κ := kStr) (l := [p]) (id := 3) rfl) (by simp [hl]))) ?_
      intro m3 hm3
      by_cases hp : pathsE [p] = 0
      · have hS1 := listE_ok (checkE_ok hc1).1
        have hS2 := listE_ok (checkE_ok hc1).2
        have hQ1 := listE_ok (checkE_ok hc2).1
        have hQ2 := listE_ok (checkE_ok hc2).2
        have hQt := hQ1.1
        have hQy := hQ2.1
        have hpl := pathsE_ok hp
        refine RunH.adv tb_ok [false] rfl rfl (by simp [hp] <;> omega) ?_
        have hE4 : (q.t.l.all (okP p) && q.y.l.all (okP p)) = false → e = 4 := by
          intro h; rw [← hre]; unfold intoE; rw [if_pos hc1, if_pos hc2, if_pos hp, h]; rfl
        have hE5 : (q.t.l.all (okP p) && q.y.l.all (okP p)) = true → (q.t.l.any (clash s.t.l p) || q.y.l.any (clash s.y.l p)) = true → e = 5 := by
          intro h h'; rw [← hre]; unfold intoE; rw [if_pos hc1, if_pos hc2, if_pos hp, if_pos h, if_pos h']
        have hE12 : (q.t.l.all (okP p) && q.y.l.all (okP p)) = true → (q.t.l.any (clash s.t.l p) || q.y.l.any (clash s.y.l p)) = false → (300 < (putL p s.t.l q.t.l).length ∨ 300 < (putL p s.y.l q.y.l).length) → e = 12 := by
          intro h h' h3; rw [← hre]; unfold intoE; rw [if_pos hc1, if_pos hc2, if_pos hp, if_pos h, if_neg (by rw [h']; simp), if_pos h3]
        have hE0 : (q.t.l.all (okP p) && q.y.l.all (okP p)) = true → (q.t.l.any (clash s.t.l p) || q.y.l.any (clash s.y.l p)) = false → ¬ (300 < (putL p s.t.l q.t.l).length ∨ 300 < (putL p s.y.l q.y.l).length) → e = 0 := by
          intro h h' h3; rw [← hre]; unfold intoE; rw [if_pos hc1, if_pos hc2, if_pos hp, if_pos h, if_neg (by rw [h']; simp), if_neg h3]
        refine RunH.doesB [] 7 (hc := Tryz.call95) (ho := rfl) (hw := rfl) (hd := rfl) (hf := rfl) (hes := rfl) (hσ := rfl) (hn := rfl) (hV := fun _ => rfl) (hG := fun _ => rfl) (e := fun z : Nat × (Option Addr × Nat) × (Option Addr × Nat) => .av (.val (.pointer (some ⟨z.1, 0, none⟩)))) (hC := own_spec s h1 h2) (hp := fun u hu => hu.fact.2.2.1) ?_
        rintro ⟨b, ⟨A, c⟩, ⟨B, c2⟩⟩ m4 hm4
        refine RunH.drop ?_
        refine RunH.adv tb_ok [] rfl rfl (by simp <;> omega) ?_
        apply RunH.joinK (α := (Option Addr × Nat) × (Option Addr × Nat) × Nat) (fun z => [(1, strE p), (6, .av (.box 2 (m0 + 1 + 1) 0)), (7, intE 0), (11, .av (.val (.pointer (some ⟨b, 0, none⟩)))), (12, .av (.box 9 z.2.2 0)), (13, .ff), (50, .av (.val (.agg #[.slice z.1.1 q.t.l.length z.1.2, .slice z.2.1.1 q.y.l.length z.2.1.2]))), (51, intE 0)])
          (fun z => [(4, wkE b (slV A s.t.l.length c) (slV B s.y.l.length c2)), (5, rowE kEntry A c s.t.l), (6, rowE kEntry B c2 s.y.l), (2, some (.box (m0 + 1 + 1) [.val (.slice none 0 0), .val (.slice none 0 0)] 24)), (7, rowE kEntry z.1.1 z.1.2 q.t.l), (8, rowE kEntry z.2.1.1 z.2.1.2 q.y.l), (9, some (.box z.2.2 [.val (.agg #[.slice z.1.1 q.t.l.length z.1.2, .slice z.2.1.1 q.y.l.length z.2.1.2])] 114))])
          (fun _ u => K u ∧ MaxLen u)
        · refine RunH.draw rfl [(1, some (.box (m0 + 1) [q.t.av, q.y.av] 24))] rfl 9 rfl rfl ?_
          refine RunD.adv tb_ok (by kernel_rfl) [] rfl rfl (by simp <;> omega) ?_
          refine RunD.two (i := 2) (j := 7) (by kernel_rfl) ?_ ?_
          · refine opD_go (i := 2) rfl rfl (OpGo.doesB (fo := .func 103) [] 7 (fun y : Option Addr × Nat => rowS 7 y.1 q.t.l.length y.2) rfl rfl rfl rfl Tryz.call103 (cloneE _ _ q.t.l (by omega)) rfl rfl (fun u hu => hu.fact.2.2.2.t) (fun _ => rfl) (fun _ => rfl)) 8 (fun _ => rfl) (fun _ _ h => h.1) ?_
            rintro ⟨A3, c3⟩ m5 hm5
            refine RunD.adv tb_ok (by kernel_rfl) [] rfl rfl (by simp <;> omega) ?_
            refine RunD.two (i := 5) (j := 7) (by kernel_rfl) ?_ ?_
            · refine opD_go (i := 5) rfl rfl (OpGo.doesB (fo := .func 103) [] 8 (fun y : Option Addr × Nat => rowS 8 y.1 q.y.l.length y.2) rfl rfl rfl rfl Tryz.call103 (cloneE _ _ q.y.l (by omega)) rfl rfl (fun u hu => hu.fact.1.2.2.2.y) (fun _ => rfl) (fun _ => rfl)) 9 (fun _ => rfl) (fun _ _ h => h.1.1) ?_
              rintro ⟨A4, c4⟩ m5 hm5
              refine RunD.adv tb_ok (by kernel_rfl) [] rfl rfl (by simp <;> omega) ?_
              refine RunD.read (by kernel_rfl) (i := 6) (.av (.val (.agg #[.slice A3 q.t.l.length c3, .slice A4 q.y.l.length c4]))) rfl rfl rfl rfl rfl rfl (fun w' a _ ha => ?_) ?_
              · have h1 : a.eval (.tmp 45) = .slice A3 q.t.l.length c3 := ev_run (e := rowS 7 A3 q.t.l.length c3) ha rfl
                have h2 : a.eval (.tmp 48) = .slice A4 q.y.l.length c4 := ev_run (e := rowS 8 A4 q.y.l.length c4) ha rfl
                simp only [execOp, List.map_toArray, List.map_cons, List.map_nil, h1, h2, build_lists, Sem.run_bind, Result.andThen_ok, Sem.run_pure]
                rfl
              refine RunD.adv tb_ok (by kernel_rfl) [] rfl rfl (by simp <;> omega) ?_
              refine RunD.step tb_ok (i := 7) rfl (by kernel_rfl) rfl rfl rfl (by simp [AllOb, Ob.P]; exact ⟨rfl, rfl⟩) rfl (fun _ h => h.1.1) ⟨rfl, rfl⟩ ?_
              refine RunD.adv tb_ok (by kernel_rfl) [] rfl rfl (by simp <;> omega) ?_
              refine RunD.step tb_ok (i := 8) rfl (by kernel_rfl) rfl rfl rfl (by simp [AllOb, Ob.P]; exact ⟨rfl, rfl, rfl⟩) rfl (fun _ h => h.1.1) rfl ?_
              refine RunD.adv tb_ok (by kernel_rfl) [] rfl rfl (by simp <;> omega) ?_
              refine RunD.done (.inl rfl) (by kernel_rfl) ?_
              refine RunH.adv tb_ok [] rfl rfl (by simp <;> omega) ?_
              refine RunH.meetS ((A3, c3), (A4, c4), m5) [] (.head _) ?_ ?_ ?_ ?_
              · rfl
              · rfl
              · rfl
              · exact fun w h => ⟨h.1.1.1, h.1.1.2.1⟩
            · refine opD_step tb_ok (nx := 8) (i := 7) rfl rfl rfl rfl (by simp [AllOb, Ob.P]; exact ⟨rfl, rfl⟩) rfl (fun _ h => h.1) ⟨rfl, rfl⟩ ?_
              refine RunD.adv tb_ok (by kernel_rfl) [] rfl rfl (by simp <;> omega) ?_
              refine RunD.doesB (i := 5) [] 10 (fun y : Option Addr × Nat => rowS 9 y.1 q.y.l.length y.2) rfl (by kernel_rfl) rfl rfl rfl rfl Tryz.call103 (cloneE _ _ q.y.l (by omega)) rfl rfl (fun _ => rfl) (fun _ => rfl) (fun u hu => hu.fact.1.2.2.2.y) (fun _ => rfl) (fun _ h => h.1) ?_
              rintro ⟨A4, c4⟩ m6 hm6
              refine RunD.adv tb_ok (by kernel_rfl) [] rfl rfl (by simp <;> omega) ?_
              refine RunD.read (by kernel_rfl) (i := 6) (.av (.val (.agg #[.slice A3 q.t.l.length c3, .slice A4 q.y.l.length c4]))) rfl rfl rfl rfl rfl rfl (fun w' a _ ha => ?_) ?_
              · have h1 : a.eval (.tmp 45) = .slice A3 q.t.l.length c3 := ev_run (e := rowS 7 A3 q.t.l.length c3) ha rfl
                have h2 : a.eval (.tmp 48) = .slice A4 q.y.l.length c4 := ev_run (e := rowS 9 A4 q.y.l.length c4) ha rfl
                simp only [execOp, List.map_toArray, List.map_cons, List.map_nil, h1, h2, build_lists, Sem.run_bind, Result.andThen_ok, Sem.run_pure]
                rfl
              refine RunD.adv tb_ok (by kernel_rfl) [] rfl rfl (by simp <;> omega) ?_
              refine RunD.step tb_ok (i := 8) rfl (by kernel_rfl) rfl rfl rfl (by simp [AllOb, Ob.P]; exact ⟨rfl, rfl, rfl⟩) rfl (fun _ h => h.1.1) rfl ?_
              refine RunD.adv tb_ok (by kernel_rfl) [] rfl rfl (by simp <;> omega) ?_
              refine RunD.done (.inl rfl) (by kernel_rfl) ?_
              refine RunH.adv tb_ok [] rfl rfl (by simp <;> omega) ?_
              refine RunH.meetS ((A3, c3), (A4, c4), m5) [(8, 9), (9, 8)] (.head _) ?_ ?_ ?_ ?_
              · rfl
              · rfl
              · rfl
              · exact fun w h => ⟨h.1.1.1, h.1.1.2.1⟩
          · refine opD_step tb_ok (nx := 7) (i := 7) rfl rfl rfl rfl (by simp [AllOb, Ob.P]; exact ⟨rfl, rfl⟩) rfl (fun _ h => h) ⟨rfl, rfl⟩ ?_
            refine RunD.adv tb_ok (by kernel_rfl) [] rfl rfl (by simp <;> omega) ?_
            refine RunD.doesB (i := 2) [] 9 (fun y : Option Addr × Nat => rowS 8 y.1 q.t.l.length y.2) rfl (by kernel_rfl) rfl rfl rfl rfl Tryz.call103 (cloneE _ _ q.t.l (by omega)) rfl rfl (fun _ => rfl) (fun _ => rfl) (fun u hu => hu.fact.2.2.2.t) (fun _ => rfl) (fun _ h => h) ?_
            rintro ⟨A3, c3⟩ m6 hm6
            refine RunD.adv tb_ok (by kernel_rfl) [] rfl rfl (by simp <;> omega) ?_
            refine RunD.doesB (i := 5) [] 10 (fun y : Option Addr × Nat => rowS 9 y.1 q.y.l.length y.2) rfl (by kernel_rfl) rfl rfl rfl rfl Tryz.call103 (cloneE _ _ q.y.l (by omega)) rfl rfl (fun _ => rfl) (fun _ => rfl) (fun u hu => hu.fact.1.2.2.2.y) (fun _ => rfl) (fun _ h => h.1) ?_
            rintro ⟨A4, c4⟩ m6 hm6
            refine RunD.adv tb_ok (by kernel_rfl) [] rfl rfl (by simp <;> omega) ?_
            refine RunD.read (by kernel_rfl) (i := 6) (.av (.val (.agg #[.slice A3 q.t.l.length c3, .slice A4 q.y.l.length c4]))) rfl rfl rfl rfl rfl rfl (fun w' a _ ha => ?_) ?_
            · have h1 : a.eval (.tmp 45) = .slice A3 q.t.l.length c3 := ev_run (e := rowS 8 A3 q.t.l.length c3) ha rfl
              have h2 : a.eval (.tmp 48) = .slice A4 q.y.l.length c4 := ev_run (e := rowS 9 A4 q.y.l.length c4) ha rfl
              simp only [execOp, List.map_toArray, List.map_cons, List.map_nil, h1, h2, build_lists, Sem.run_bind, Result.andThen_ok, Sem.run_pure]
              rfl
            refine RunD.adv tb_ok (by kernel_rfl) [] rfl rfl (by simp <;> omega) ?_
            refine RunD.step tb_ok (i := 8) rfl (by kernel_rfl) rfl rfl rfl (by simp [AllOb, Ob.P]; exact ⟨rfl, rfl, rfl⟩) rfl (fun _ h => h.1.1) rfl ?_
            refine RunD.adv tb_ok (by kernel_rfl) [] rfl rfl (by simp <;> omega) ?_
            refine RunD.done (.inl rfl) (by kernel_rfl) ?_
            refine RunH.adv tb_ok [] rfl rfl (by simp <;> omega) ?_
            refine RunH.meetS ((A3, c3), (A4, c4), m4) [(7, 8), (8, 9), (9, 7)] (.head _) ?_ ?_ ?_ ?_
            · rfl
            · rfl
            · rfl
            · exact fun w h => ⟨h.1.1.1, h.1.1.2.1⟩
        rintro ⟨⟨A3, c3⟩, ⟨A4, c4⟩, ma⟩ m7
        refine RunH.toNx 10 ?_
        refine RunH.loop (α := Nat × List Entry × List Entry × Bool) (fun y => [(1, strE p), (6, .av (.box 2 (m0 + 1 + 1) 0)), (7, intE 0), (11, .av (.val (.pointer (some ⟨b, 0, none⟩)))), (12, .av (.box 9 ma 0)), (13, boolE y.2.2.2), (50, .av (.val (.agg #[.slice A3 q.t.l.length c3, .slice A4 q.y.l.length c4]))), (51, intE y.1)]) (fun y => [(4, wkE b (slV A s.t.l.length c) (slV B s.y.l.length c2)), (5, rowE kEntry A c s.t.l), (6, rowE kEntry B c2 s.y.l), (2, some (.box (m0 + 1 + 1) [.val (.slice none 0 0), .val (.slice none 0 0)] 24)), (7, rowE kEntry A3 c3 y.2.1), (8, rowE kEntry A4 c4 y.2.2.1), (9, some (.box ma [.val (.agg #[.slice A3 q.t.l.length c3, .slice A4 q.y.l.length c4])] 114))])
          (fun y u => K u ∧ MaxLen u ∧ ((y.1 = 0 ∧ y.2.1 = q.t.l ∧ y.2.2.1 = q.y.l ∧ y.2.2.2 = false) ∨ (y.1 = 1 ∧ y.2.1 = q.t.l.map (pj p) ∧ y.2.2.1 = q.y.l ∧ y.2.2.2 = q.t.l.any (clash s.t.l p) ∧ q.t.l.all (okP p) = true) ∨ (y.1 = 2 ∧ y.2.1 = q.t.l.map (pj p) ∧ y.2.2.1 = q.y.l.map (pj p) ∧ y.2.2.2 = (q.t.l.any (clash s.t.l p) || q.y.l.any (clash s.y.l p)) ∧ q.t.l.all (okP p) = true ∧ q.y.l.all (okP p) = true))) (fun y => 2 - y.1) (0, q.t.l, q.y.l, false) rfl rfl (fun w h => ⟨h.1, h.2, .inl ⟨rfl, rfl, rfl, rfl⟩⟩) ?_
        rintro ⟨i, T, Y, tw⟩ m8
        refine RunH.pure (fun w h => h.2.2) fun hP => ?_
        dsimp only at hP ⊢
        rcases hP with ⟨rfl, rfl, rfl, rfl⟩ | ⟨rfl, rfl, rfl, rfl, hok1⟩ | ⟨rfl, rfl, rfl, rfl, hok1, hok2⟩
        · refine RunH.adv tb_ok [true] rfl rfl (by simp <;> omega) ?_
          refine RunH.read (slE A3 q.t.l.length c3) rfl rfl rfl rfl (fun w' a _ ha => ?_) ?_
          · have h1 : a.eval (.tmp 50) = .agg #[.slice A3 q.t.l.length c3, .slice A4 q.y.l.length c4] := ev_run (e := .av (.val (.agg #[.slice A3 q.t.l.length c3, .slice A4 q.y.l.length c4]))) ha rfl
            have h2 : a.eval (.tmp 51) = .int .i64 ((0 : Nat) : Int) := ev_run (e := intE ((0 : Nat) : Int)) ha rfl
            simp only [execOp, h1, h2, index_lists w' _ _ _ _ _ _ 0 (by decide) (.slice A3 q.t.l.length c3) rfl, Sem.run_bind, Result.andThen_ok, Sem.run_pure]
            rfl
          refine RunH.adv tb_ok [] rfl rfl (by simp <;> omega) ?_
          refine RunH.loop (α := Nat × Bool) (fun y => [(1, strE p), (6, .av (.box 2 (m0 + 1 + 1) 0)), (7, intE 0), (11, .av (.val (.pointer (some ⟨b, 0, none⟩)))), (12, .av (.box 9 ma 0)), (13, boolE y.2), (50, .av (.val (.agg #[.slice A3 q.t.l.length c3, .slice A4 q.y.l.length c4]))), (51, intE 0), (14, intE 0), (15, slE A3 q.t.l.length c3), (56, intE q.t.l.length), (57, intE y.1)]) (fun y => [(4, wkE b (slV A s.t.l.length c) (slV B s.y.l.length c2)), (5, rowE kEntry A c s.t.l), (6, rowE kEntry B c2 s.y.l), (2, some (.box (m0 + 1 + 1) [.val (.slice none 0 0), .val (.slice none 0 0)] 24)), (7, rowE kEntry A3 c3 (midL p q.t.l y.1)), (8, rowE kEntry A4 c4 q.y.l), (9, some (.box ma [.val (.agg #[.slice A3 q.t.l.length c3, .slice A4 q.y.l.length c4])] 114))]) (fun y u => K u ∧ MaxLen u ∧ y.1 ≤ q.t.l.length ∧ (q.t.l.take y.1).all (okP p) = true ∧ y.2 = ((q.t.l.take y.1).any (clash s.t.l p))) (fun y => q.t.l.length - y.1) (0, false) rfl (by show SubH [(4, wkE b (slV A s.t.l.length c) (slV B s.y.l.length c2)), (5, rowE kEntry A c s.t.l), (6, rowE kEntry B c2 s.y.l), (2, some (.box (m0 + 1 + 1) [.val (.slice none 0 0), .val (.slice none 0 0)] 24)), (7, rowE kEntry A3 c3 (midL p q.t.l 0)), (8, rowE kEntry A4 c4 q.y.l), (9, some (.box ma [.val (.agg #[.slice A3 q.t.l.length c3, .slice A4 q.y.l.length c4])] 114))] _; rw [midL_zero]; rfl) (fun w h => ⟨h.1, h.2.1, Nat.zero_le _, rfl, by simp⟩) ?_
          rintro ⟨j, tw⟩ m9
          refine RunH.pure (fun w h => h.2.2) fun ⟨hj, hok, htw⟩ => ?_
          dsimp only at hj hok htw ⊢
          by_cases hlt : j < q.t.l.length
          · have hts : q.t.l.take (j + 1) = q.t.l.take j ++ [q.t.l[j]] := List.take_succ_eq_append_getElem hlt
            refine RunH.pureS (fun w hst => hst.ptr (κ := kEntry) (id := 7) (l := midL p q.t.l j) rfl (fun h => by have := midL_len p q.t.l j; rw [h] at this; simp at this; omega)) fun hptr => ?_
            refine RunH.adv tb_ok [true] rfl rfl (by simp [hptr] <;> omega) ?_
            have hxl : q.t.l[j].path.length ≤ 1000 := by
              have h := hQt _ (List.getElem_mem hlt)
              exact h
            have hpl1 : (joinD [p, q.t.l[j].path]).length ≤ 1000000 := by
              show (p ++ 46 :: q.t.l[j].path).length ≤ _
              rw [List.length_append, List.length_cons]; omega
            have hmg : (midL p q.t.l j)[j]'(by rw [midL_len]; exact hlt) = q.t.l[j] := midL_get p q.t.l j hlt
            have hmg2 : (midL p q.t.l (j + 1))[j]'(by rw [midL_len]; exact hlt) = pj p q.t.l[j] := midL_get2 p q.t.l j hlt
            refine RunH.loadS (strE q.t.l[j].path) rfl rfl rfl rfl (fun w hst => by
              have h := (Sl.own (B := B0) (hst.row (κ := kEntry) (l := midL p q.t.l j) (id := 7) rfl) (by rw [midL_len]; omega)).path (i := j) (by rw [midL_len]; exact hlt)
              rw [hmg] at h
              exact h) ?_
            refine RunH.adv tb_ok [] rfl rfl (by simp [hptr] <;> omega) ?_
            refine RunH.gives (ho := rfl) (hw := rfl) (hd := rfl) (hf := rfl) (hes := rfl) (hc := Tryz.call104) (e := strE (joinD [p, q.t.l[j].path])) (hC := fun w hst => joined_spec w _ _ [p, q.t.l[j].path] (Sl.own (B := B0) (hst.row (κ := kStr) (l := [p, q.t.l[j].path]) (id := 10) rfl) (by simp [hl])) hpl1) ?_
            intro m10 hm10
            refine RunH.adv tb_ok [] rfl rfl (by simp [hptr] <;> omega) ?_
            refine RunH.storeP (id := 7) (j := j) (l := midL p q.t.l j) (A := A3) (c := c3) (joinD [p, q.t.l[j].path]) (midL p q.t.l (j + 1)) rfl rfl rfl rfl rfl (by rw [midL_len]; exact hlt) rfl rfl (by rw [hmg]; exact midL_set p q.t.l j hlt) ?_
            intro m11 hm11
            refine RunH.adv tb_ok [] rfl rfl (by simp [hptr] <;> omega) ?_
            refine RunH.loadS (strE (joinD [p, q.t.l[j].path])) rfl rfl rfl rfl (fun w hst => by
              have h := (Sl.own (B := B0) (hst.row (κ := kEntry) (l := midL p q.t.l (j + 1)) (id := 7) rfl) (by rw [midL_len]; omega)).path (i := j) (by rw [midL_len]; exact hlt)
              rw [hmg2] at h
              exact h) ?_
            refine RunH.adv tb_ok [] rfl rfl (by simp [hptr] <;> omega) ?_
            refine RunH.gives (ho := rfl) (hw := rfl) (hd := rfl) (hf := rfl) (hes := rfl) (hc := Tryz.call85) (e := intE (pathsE [joinD [p, q.t.l[j].path]])) (hC := fun w hst => space_paths w hst.fact.2.1 _ _ [joinD [p, q.t.l[j].path]] (Sl.own (B := B0) (hst.row (κ := kStr) (l := [joinD [p, q.t.l[j].path]]) (id := 11) rfl) (by simp [hl]))) ?_
            intro m12 hm12
            by_cases hg : pathOk (joinD [p, q.t.l[j].path]) = true
            · have hpe : pathsE [joinD [p, q.t.l[j].path]] = 0 := by simp [pathsE, hg]
              have hokn : (q.t.l.take (j + 1)).all (okP p) = true := by rw [hts, List.all_append, hok]; simp [okP, hg]
              cases tw with
              | true =>
                refine RunH.adv tb_ok [false, true] rfl rfl (by simp [hpe] <;> omega) ?_
                refine RunH.again (j + 1, true) (.head _) rfl rfl (by show q.t.l.length - (j + 1) < q.t.l.length - j; omega) fun w h => ⟨h.1, h.2.1, by show j + 1 ≤ _; omega, hokn, ?_⟩
                show true = ((q.t.l.take (j + 1)).any (clash s.t.l p))
                rw [hts, List.any_append, ← htw]; rfl
              | false =>
                refine RunH.adv tb_ok [false, false] rfl rfl (by simp [hpe, hptr] <;> omega) ?_
                refine RunH.loadS (strE (joinD [p, q.t.l[j].path])) rfl rfl rfl rfl (fun w hst => by
                  have h := (Sl.own (B := B0) (hst.row (κ := kEntry) (l := midL p q.t.l (j + 1)) (id := 7) rfl) (by rw [midL_len]; omega)).path (i := j) (by rw [midL_len]; exact hlt)
                  rw [hmg2] at h
                  exact h) ?_
                refine RunH.adv tb_ok [] rfl rfl (by simp <;> omega) ?_
                refine RunH.gives (ho := rfl) (hw := rfl) (hd := rfl) (hf := rfl) (hes := rfl) (hc := Tryz.call105) (e := boolE (clash s.t.l p q.t.l[j])) (hC := fun w hst => has_spec w b A B c c2 s.t.l s.y.l (hst.holds 4 _ rfl).2 (Sl.own (hst.row (κ := kEntry) (id := 5) rfl) (by omega)) (Sl.own (hst.row (κ := kEntry) (id := 6) rfl) (by omega)) 1 hS1.2.1 (joinD [p, q.t.l[j].path])) ?_
                intro m13 hm13
                refine RunH.adv tb_ok [] rfl rfl (by simp <;> omega) ?_
                refine RunH.again (j + 1, clash s.t.l p q.t.l[j]) (.head _) rfl rfl (by show q.t.l.length - (j + 1) < q.t.l.length - j; omega) fun w h => ⟨h.1, h.2.1, by show j + 1 ≤ _; omega, hokn, ?_⟩
                show clash s.t.l p q.t.l[j] = ((q.t.l.take (j + 1)).any (clash s.t.l p))
                rw [hts, List.any_append, ← htw]; simp
            · have hpe : pathsE [joinD [p, q.t.l[j].path]] = 4 := by simp [pathsE, hg]
              have hbad : q.t.l.all (okP p) = false := by rw [List.all_eq_false]; exact ⟨_, List.getElem_mem hlt, hg⟩
              have hE := hE4 (by rw [hbad]; rfl)
              subst hE
              refine RunH.adv tb_ok [true] rfl rfl (by simp [hpe] <;> omega) ?_
              refine RunH.nilrow 60 kEntry.T kEntry.sz 61 ?_
              refine RunH.nilrow 61 kEntry.T kEntry.sz 62 ?_
              refine RunH.retBoxT tb_ok nilSp Tryz.func35 rfl rfl rfl rfl rfl fun w hst => ⟨((none, 0), (none, 0)), by rw [hT0 _ (by decide), hT0 _ (by decide), hpe]; rfl, by rw [hT0 _ (by decide), hT0 _ (by decide)]; exact hst.out [(0, 60), (1, 61)] rfl rfl fun u h => ⟨h.1, trivial⟩⟩
          · have hj' : j = q.t.l.length := by omega
            subst hj'
            rw [List.take_length] at hok htw
            rw [midL_all]
            refine RunH.adv tb_ok [false] rfl rfl (by simp <;> omega) ?_
            refine RunH.again (1, q.t.l.map (pj p), q.y.l, tw) (.tail _ (.head _)) rfl rfl (by show 2 - 1 < 2 - 0; decide) fun w h => ⟨h.1, h.2.1, .inr (.inl ⟨rfl, rfl, rfl, htw, hok⟩)⟩
        · refine RunH.adv tb_ok [true] rfl rfl (by simp <;> omega) ?_
          refine RunH.read (slE A4 q.y.l.length c4) rfl rfl rfl rfl (fun w' a _ ha => ?_) ?_
          · have h1 : a.eval (.tmp 50) = .agg #[.slice A3 q.t.l.length c3, .slice A4 q.y.l.length c4] := ev_run (e := .av (.val (.agg #[.slice A3 q.t.l.length c3, .slice A4 q.y.l.length c4]))) ha rfl
            have h2 : a.eval (.tmp 51) = .int .i64 ((1 : Nat) : Int) := ev_run (e := intE ((1 : Nat) : Int)) ha rfl
            simp only [execOp, h1, h2, index_lists w' _ _ _ _ _ _ 1 (by decide) (.slice A4 q.y.l.length c4) rfl, Sem.run_bind, Result.andThen_ok, Sem.run_pure]
            rfl
          refine RunH.adv tb_ok [] rfl rfl (by simp <;> omega) ?_
          refine RunH.loop (α := Nat × Bool) (fun y => [(1, strE p), (6, .av (.box 2 (m0 + 1 + 1) 0)), (7, intE 0), (11, .av (.val (.pointer (some ⟨b, 0, none⟩)))), (12, .av (.box 9 ma 0)), (13, boolE y.2), (50, .av (.val (.agg #[.slice A3 q.t.l.length c3, .slice A4 q.y.l.length c4]))), (51, intE 1), (14, intE 1), (15, slE A4 q.y.l.length c4), (56, intE q.y.l.length), (57, intE y.1)]) (fun y => [(4, wkE b (slV A s.t.l.length c) (slV B s.y.l.length c2)), (5, rowE kEntry A c s.t.l), (6, rowE kEntry B c2 s.y.l), (2, some (.box (m0 + 1 + 1) [.val (.slice none 0 0), .val (.slice none 0 0)] 24)), (7, rowE kEntry A3 c3 (q.t.l.map (pj p))), (8, rowE kEntry A4 c4 (midL p q.y.l y.1)), (9, some (.box ma [.val (.agg #[.slice A3 q.t.l.length c3, .slice A4 q.y.l.length c4])] 114))]) (fun y u => K u ∧ MaxLen u ∧ y.1 ≤ q.y.l.length ∧ (q.y.l.take y.1).all (okP p) = true ∧ y.2 = (q.t.l.any (clash s.t.l p) || (q.y.l.take y.1).any (clash s.y.l p))) (fun y => q.y.l.length - y.1) (0, (q.t.l.any (clash s.t.l p))) rfl (by show SubH [(4, wkE b (slV A s.t.l.length c) (slV B s.y.l.length c2)), (5, rowE kEntry A c s.t.l), (6, rowE kEntry B c2 s.y.l), (2, some (.box (m0 + 1 + 1) [.val (.slice none 0 0), .val (.slice none 0 0)] 24)), (7, rowE kEntry A3 c3 (q.t.l.map (pj p))), (8, rowE kEntry A4 c4 (midL p q.y.l 0)), (9, some (.box ma [.val (.agg #[.slice A3 q.t.l.length c3, .slice A4 q.y.l.length c4])] 114))] _; rw [midL_zero]; rfl) (fun w h => ⟨h.1, h.2.1, Nat.zero_le _, rfl, by simp⟩) ?_
          rintro ⟨j, tw⟩ m9
          refine RunH.pure (fun w h => h.2.2) fun ⟨hj, hok, htw⟩ => ?_
          dsimp only at hj hok htw ⊢
          by_cases hlt : j < q.y.l.length
          · have hts : q.y.l.take (j + 1) = q.y.l.take j ++ [q.y.l[j]] := List.take_succ_eq_append_getElem hlt
            refine RunH.pureS (fun w hst => hst.ptr (κ := kEntry) (id := 8) (l := midL p q.y.l j) rfl (fun h => by have := midL_len p q.y.l j; rw [h] at this; simp at this; omega)) fun hptr => ?_
            refine RunH.adv tb_ok [true] rfl rfl (by simp [hptr] <;> omega) ?_
            have hxl : q.y.l[j].path.length ≤ 1000 := by
              have h := hQy _ (List.getElem_mem hlt)
              exact h
            have hpl1 : (joinD [p, q.y.l[j].path]).length ≤ 1000000 := by
              show (p ++ 46 :: q.y.l[j].path).length ≤ _
              rw [List.length_append, List.length_cons]; omega
            have hmg : (midL p q.y.l j)[j]'(by rw [midL_len]; exact hlt) = q.y.l[j] := midL_get p q.y.l j hlt
            have hmg2 : (midL p q.y.l (j + 1))[j]'(by rw [midL_len]; exact hlt) = pj p q.y.l[j] := midL_get2 p q.y.l j hlt
            refine RunH.loadS (strE q.y.l[j].path) rfl rfl rfl rfl (fun w hst => by
              have h := (Sl.own (B := B0) (hst.row (κ := kEntry) (l := midL p q.y.l j) (id := 8) rfl) (by rw [midL_len]; omega)).path (i := j) (by rw [midL_len]; exact hlt)
              rw [hmg] at h
              exact h) ?_
            refine RunH.adv tb_ok [] rfl rfl (by simp [hptr] <;> omega) ?_
            refine RunH.gives (ho := rfl) (hw := rfl) (hd := rfl) (hf := rfl) (hes := rfl) (hc := Tryz.call104) (e := strE (joinD [p, q.y.l[j].path])) (hC := fun w hst => joined_spec w _ _ [p, q.y.l[j].path] (Sl.own (B := B0) (hst.row (κ := kStr) (l := [p, q.y.l[j].path]) (id := 10) rfl) (by simp [hl])) hpl1) ?_
            intro m10 hm10
            refine RunH.adv tb_ok [] rfl rfl (by simp [hptr] <;> omega) ?_
            refine RunH.storeP (id := 8) (j := j) (l := midL p q.y.l j) (A := A4) (c := c4) (joinD [p, q.y.l[j].path]) (midL p q.y.l (j + 1)) rfl rfl rfl rfl rfl (by rw [midL_len]; exact hlt) rfl rfl (by rw [hmg]; exact midL_set p q.y.l j hlt) ?_
            intro m11 hm11
            refine RunH.adv tb_ok [] rfl rfl (by simp [hptr] <;> omega) ?_
            refine RunH.loadS (strE (joinD [p, q.y.l[j].path])) rfl rfl rfl rfl (fun w hst => by
              have h := (Sl.own (B := B0) (hst.row (κ := kEntry) (l := midL p q.y.l (j + 1)) (id := 8) rfl) (by rw [midL_len]; omega)).path (i := j) (by rw [midL_len]; exact hlt)
              rw [hmg2] at h
              exact h) ?_
            refine RunH.adv tb_ok [] rfl rfl (by simp [hptr] <;> omega) ?_
            refine RunH.gives (ho := rfl) (hw := rfl) (hd := rfl) (hf := rfl) (hes := rfl) (hc := Tryz.call85) (e := intE (pathsE [joinD [p, q.y.l[j].path]])) (hC := fun w hst => space_paths w hst.fact.2.1 _ _ [joinD [p, q.y.l[j].path]] (Sl.own (B := B0) (hst.row (κ := kStr) (l := [joinD [p, q.y.l[j].path]]) (id := 11) rfl) (by simp [hl]))) ?_
            intro m12 hm12
            by_cases hg : pathOk (joinD [p, q.y.l[j].path]) = true
            · have hpe : pathsE [joinD [p, q.y.l[j].path]] = 0 := by simp [pathsE, hg]
              have hokn : (q.y.l.take (j + 1)).all (okP p) = true := by rw [hts, List.all_append, hok]; simp [okP, hg]
              cases tw with
              | true =>
                refine RunH.adv tb_ok [false, true] rfl rfl (by simp [hpe] <;> omega) ?_
                refine RunH.again (j + 1, true) (.head _) rfl rfl (by show q.y.l.length - (j + 1) < q.y.l.length - j; omega) fun w h => ⟨h.1, h.2.1, by show j + 1 ≤ _; omega, hokn, ?_⟩
                show true = (q.t.l.any (clash s.t.l p) || (q.y.l.take (j + 1)).any (clash s.y.l p))
                rw [hts, List.any_append, ← Bool.or_assoc, ← htw]; rfl
              | false =>
                refine RunH.adv tb_ok [false, false] rfl rfl (by simp [hpe, hptr] <;> omega) ?_
                refine RunH.loadS (strE (joinD [p, q.y.l[j].path])) rfl rfl rfl rfl (fun w hst => by
                  have h := (Sl.own (B := B0) (hst.row (κ := kEntry) (l := midL p q.y.l (j + 1)) (id := 8) rfl) (by rw [midL_len]; omega)).path (i := j) (by rw [midL_len]; exact hlt)
                  rw [hmg2] at h
                  exact h) ?_
                refine RunH.adv tb_ok [] rfl rfl (by simp <;> omega) ?_
                refine RunH.gives (ho := rfl) (hw := rfl) (hd := rfl) (hf := rfl) (hes := rfl) (hc := Tryz.call105) (e := boolE (clash s.y.l p q.y.l[j])) (hC := fun w hst => has_spec w b A B c c2 s.t.l s.y.l (hst.holds 4 _ rfl).2 (Sl.own (hst.row (κ := kEntry) (id := 5) rfl) (by omega)) (Sl.own (hst.row (κ := kEntry) (id := 6) rfl) (by omega)) 2 hS2.2.1 (joinD [p, q.y.l[j].path])) ?_
                intro m13 hm13
                refine RunH.adv tb_ok [] rfl rfl (by simp <;> omega) ?_
                refine RunH.again (j + 1, clash s.y.l p q.y.l[j]) (.head _) rfl rfl (by show q.y.l.length - (j + 1) < q.y.l.length - j; omega) fun w h => ⟨h.1, h.2.1, by show j + 1 ≤ _; omega, hokn, ?_⟩
                show clash s.y.l p q.y.l[j] = (q.t.l.any (clash s.t.l p) || (q.y.l.take (j + 1)).any (clash s.y.l p))
                rw [hts, List.any_append, ← Bool.or_assoc, ← htw]; simp
            · have hpe : pathsE [joinD [p, q.y.l[j].path]] = 4 := by simp [pathsE, hg]
              have hbad : q.y.l.all (okP p) = false := by rw [List.all_eq_false]; exact ⟨_, List.getElem_mem hlt, hg⟩
              have hE := hE4 (by rw [hbad]; simp)
              subst hE
              refine RunH.adv tb_ok [true] rfl rfl (by simp [hpe] <;> omega) ?_
              refine RunH.nilrow 60 kEntry.T kEntry.sz 61 ?_
              refine RunH.nilrow 61 kEntry.T kEntry.sz 62 ?_
              refine RunH.retBoxT tb_ok nilSp Tryz.func35 rfl rfl rfl rfl rfl fun w hst => ⟨((none, 0), (none, 0)), by rw [hT0 _ (by decide), hT0 _ (by decide), hpe]; rfl, by rw [hT0 _ (by decide), hT0 _ (by decide)]; exact hst.out [(0, 60), (1, 61)] rfl rfl fun u h => ⟨h.1, trivial⟩⟩
          · have hj' : j = q.y.l.length := by omega
            subst hj'
            rw [List.take_length] at hok htw
            rw [midL_all]
            refine RunH.adv tb_ok [false] rfl rfl (by simp <;> omega) ?_
            refine RunH.again (2, q.t.l.map (pj p), q.y.l.map (pj p), tw) (.tail _ (.head _)) rfl rfl (by show 2 - 2 < 2 - 1; decide) fun w h => ⟨h.1, h.2.1, .inr (.inr ⟨rfl, rfl, rfl, htw, hok1, hok⟩)⟩
        · have hokk : (q.t.l.all (okP p) && q.y.l.all (okP p)) = true := by rw [hok1, hok2]; rfl
          refine RunH.adv tb_ok [false] rfl rfl (by simp <;> omega) ?_
          cases htw' : (q.t.l.any (clash s.t.l p) || q.y.l.any (clash s.y.l p)) with
          | true =>
            have hE := hE5 hokk htw'
            subst hE
            refine RunH.adv tb_ok [true] rfl rfl (by simp [htw'] <;> omega) ?_
            refine RunH.nilrow 60 kEntry.T kEntry.sz 61 ?_
            refine RunH.nilrow 61 kEntry.T kEntry.sz 62 ?_
            refine RunH.retBoxT tb_ok nilSp Tryz.func35 rfl rfl rfl rfl rfl fun w hst => ⟨((none, 0), (none, 0)), by rw [hT0 _ (by decide), hT0 _ (by decide)]; rfl, by rw [hT0 _ (by decide), hT0 _ (by decide)]; exact hst.out [(0, 60), (1, 61)] rfl rfl fun u h => ⟨h.1, trivial⟩⟩
          | false =>
            refine RunH.adv tb_ok [false] rfl rfl (by simp [htw'] <;> omega) ?_
            refine RunH.loop (α := Nat × List Entry × List Entry × (Option Addr × Nat) × (Option Addr × Nat)) (fun y => [(6, .av (.box 2 (m0 + 1 + 1) 0)), (7, intE 0), (11, .av (.val (.pointer (some ⟨b, 0, none⟩)))), (99, .av (.val (.agg #[.slice A3 q.t.l.length c3, .slice A4 q.y.l.length c4]))), (100, intE y.1)]) (fun y => [(4, wkE b (slV y.2.2.2.1.1 y.2.1.length y.2.2.2.1.2) (slV y.2.2.2.2.1 y.2.2.1.length y.2.2.2.2.2)), (5, rowE kEntry y.2.2.2.1.1 y.2.2.2.1.2 y.2.1), (6, rowE kEntry y.2.2.2.2.1 y.2.2.2.2.2 y.2.2.1), (2, some (.box (m0 + 1 + 1) [.val (.slice none 0 0), .val (.slice none 0 0)] 24)), (7, rowE kEntry A3 c3 (q.t.l.map (pj p))), (8, rowE kEntry A4 c4 (q.y.l.map (pj p)))])
              (fun y u => K u ∧ MaxLen u ∧ ((y.1 = 0 ∧ y.2.1 = s.t.l ∧ y.2.2.1 = s.y.l) ∨ (y.1 = 1 ∧ y.2.1 = putL p s.t.l q.t.l ∧ y.2.2.1 = s.y.l) ∨ (y.1 = 2 ∧ y.2.1 = putL p s.t.l q.t.l ∧ y.2.2.1 = putL p s.y.l q.y.l))) (fun y => 2 - y.1) (0, s.t.l, s.y.l, (A, c), (B, c2)) rfl rfl (fun w h => ⟨h.1, h.2.1, .inl ⟨rfl, rfl, rfl⟩⟩) ?_
            rintro ⟨i, T, Y, zT, zY⟩ m8
            refine RunH.pure (fun w h => h.2.2) fun hP => ?_
            dsimp only at hP ⊢
            rcases hP with ⟨rfl, rfl, rfl⟩ | ⟨rfl, rfl, rfl⟩ | ⟨rfl, rfl, rfl⟩
            · refine RunH.adv tb_ok [true] rfl rfl (by simp <;> omega) ?_
              refine RunH.read (slE A3 q.t.l.length c3) rfl rfl rfl rfl (fun w' a _ ha => ?_) ?_
              · have h1 : a.eval (.tmp 99) = .agg #[.slice A3 q.t.l.length c3, .slice A4 q.y.l.length c4] := ev_run (e := .av (.val (.agg #[.slice A3 q.t.l.length c3, .slice A4 q.y.l.length c4]))) ha rfl
                have h2 : a.eval (.tmp 100) = .int .i64 ((0 : Nat) : Int) := ev_run (e := intE ((0 : Nat) : Int)) ha rfl
                simp only [execOp, h1, h2, index_lists w' _ _ _ _ _ _ 0 (by decide) (.slice A3 q.t.l.length c3) rfl, Sem.run_bind, Result.andThen_ok, Sem.run_pure]
                rfl
              refine RunH.adv tb_ok [] rfl rfl (by simp <;> omega) ?_
              refine RunH.loop (α := Nat × (Option Addr × Nat)) (fun y => [(6, .av (.box 2 (m0 + 1 + 1) 0)), (7, intE 0), (11, .av (.val (.pointer (some ⟨b, 0, none⟩)))), (99, .av (.val (.agg #[.slice A3 q.t.l.length c3, .slice A4 q.y.l.length c4]))), (100, intE 0), (18, intE 0), (104, slE A3 q.t.l.length c3), (105, intE q.t.l.length), (106, intE y.1)]) (fun y => [(4, wkE b (slV y.2.1 (putL p s.t.l (q.t.l.take y.1)).length y.2.2) (slV zY.1 s.y.l.length zY.2)), (5, rowE kEntry y.2.1 y.2.2 (putL p s.t.l (q.t.l.take y.1))), (6, rowE kEntry zY.1 zY.2 s.y.l), (2, some (.box (m0 + 1 + 1) [.val (.slice none 0 0), .val (.slice none 0 0)] 24)), (7, rowE kEntry A3 c3 (q.t.l.map (pj p))), (8, rowE kEntry A4 c4 (q.y.l.map (pj p)))]) (fun y u => K u ∧ MaxLen u ∧ y.1 ≤ q.t.l.length) (fun y => q.t.l.length - y.1) (0, zT) rfl rfl (fun w h => ⟨h.1, h.2.1, Nat.zero_le _⟩) ?_
              rintro ⟨j, z⟩ m9
              refine RunH.pure (fun w h => h.2.2) fun hj => ?_
              dsimp only at hj ⊢
              by_cases hlt : j < q.t.l.length
              · have hts : q.t.l.take (j + 1) = q.t.l.take j ++ [q.t.l[j]] := List.take_succ_eq_append_getElem hlt
                refine RunH.pureS (fun w hst => hst.ptr (κ := kEntry) (id := 7) (l := q.t.l.map (pj p)) rfl (fun h => by simp at h; rw [h] at hlt; simp at hlt)) fun hptr => ?_
                refine RunH.adv tb_ok [true] rfl rfl (by simp [hptr] <;> omega) ?_
                refine RunH.loadS (.st (entryF (pj p q.t.l[j]))) rfl rfl rfl rfl (fun w hst => by
                  have h := (Sl.own (B := B0) (hst.row (κ := kEntry) (l := q.t.l.map (pj p)) (id := 7) rfl) (by rw [List.length_map]; omega)).load (i := j) (by rw [List.length_map]; exact hlt)
                  rw [List.getElem_map] at h
                  exact h) ?_
                refine RunH.adv tb_ok [] rfl rfl (by simp <;> omega) ?_
                refine RunH.doesB [(0, 4), (1, 5), (2, 6)] 14 (hc := Tryz.call106) (ho := rfl) (hw := rfl) (hd := rfl) (hf := rfl) (hes := rfl) (hσ := rfl) (hn := rfl) (hV := fun _ => rfl) (hG := fun _ => rfl) (e := fun _ : Option Addr × Nat => .av (.val (.tuple #[]))) (hC := set_spec 1 b (putL p s.t.l (q.t.l.take j)) s.y.l z zY (pj p q.t.l[j]) (by have := putL_le p s.t.l (q.t.l.take j); have := List.length_take_le j q.t.l; omega) (rises_putL p _ hS1.2.1)) (hp := fun _ _ => trivial) ?_
                rintro z' m10 hm10
                refine RunH.drop ?_
                rw [← putL_snoc, ← hts]
                refine RunH.adv tb_ok [] rfl rfl (by simp <;> omega) ?_
                refine RunH.again (j + 1, z') (.head _) rfl rfl (by show q.t.l.length - (j + 1) < q.t.l.length - j; omega) fun w h => ⟨h.1, h.2.1, by show j + 1 ≤ _; omega⟩
              · have hj' : j = q.t.l.length := by omega
                subst hj'
                rw [List.take_length]
                refine RunH.adv tb_ok [false] rfl rfl (by simp <;> omega) ?_
                refine RunH.again (1, putL p s.t.l q.t.l, s.y.l, z, zY) (.tail _ (.head _)) rfl rfl (by show 2 - 1 < 2 - 0; decide) fun w h => ⟨h.1, h.2.1, .inr (.inl ⟨rfl, rfl, rfl⟩)⟩
            · refine RunH.adv tb_ok [true] rfl rfl (by simp <;> omega) ?_
              refine RunH.read (slE A4 q.y.l.length c4) rfl rfl rfl rfl (fun w' a _ ha => ?_) ?_
              · have h1 : a.eval (.tmp 99) = .agg #[.slice A3 q.t.l.length c3, .slice A4 q.y.l.length c4] := ev_run (e := .av (.val (.agg #[.slice A3 q.t.l.length c3, .slice A4 q.y.l.length c4]))) ha rfl
                have h2 : a.eval (.tmp 100) = .int .i64 ((1 : Nat) : Int) := ev_run (e := intE ((1 : Nat) : Int)) ha rfl
                simp only [execOp, h1, h2, index_lists w' _ _ _ _ _ _ 1 (by decide) (.slice A4 q.y.l.length c4) rfl, Sem.run_bind, Result.andThen_ok, Sem.run_pure]
                rfl
              refine RunH.adv tb_ok [] rfl rfl (by simp <;> omega) ?_
              refine RunH.loop (α := Nat × (Option Addr × Nat)) (fun y => [(6, .av (.box 2 (m0 + 1 + 1) 0)), (7, intE 0), (11, .av (.val (.pointer (some ⟨b, 0, none⟩)))), (99, .av (.val (.agg #[.slice A3 q.t.l.length c3, .slice A4 q.y.l.length c4]))), (100, intE 1), (18, intE 1), (104, slE A4 q.y.l.length c4), (105, intE q.y.l.length), (106, intE y.1)]) (fun y => [(4, wkE b (slV zT.1 (putL p s.t.l q.t.l).length zT.2) (slV y.2.1 (putL p s.y.l (q.y.l.take y.1)).length y.2.2)), (5, rowE kEntry zT.1 zT.2 (putL p s.t.l q.t.l)), (6, rowE kEntry y.2.1 y.2.2 (putL p s.y.l (q.y.l.take y.1))), (2, some (.box (m0 + 1 + 1) [.val (.slice none 0 0), .val (.slice none 0 0)] 24)), (7, rowE kEntry A3 c3 (q.t.l.map (pj p))), (8, rowE kEntry A4 c4 (q.y.l.map (pj p)))]) (fun y u => K u ∧ MaxLen u ∧ y.1 ≤ q.y.l.length) (fun y => q.y.l.length - y.1) (0, zY) rfl rfl (fun w h => ⟨h.1, h.2.1, Nat.zero_le _⟩) ?_
              rintro ⟨j, z⟩ m9
              refine RunH.pure (fun w h => h.2.2) fun hj => ?_
              dsimp only at hj ⊢
              by_cases hlt : j < q.y.l.length
              · have hts : q.y.l.take (j + 1) = q.y.l.take j ++ [q.y.l[j]] := List.take_succ_eq_append_getElem hlt
                refine RunH.pureS (fun w hst => hst.ptr (κ := kEntry) (id := 8) (l := q.y.l.map (pj p)) rfl (fun h => by simp at h; rw [h] at hlt; simp at hlt)) fun hptr => ?_
                refine RunH.adv tb_ok [true] rfl rfl (by simp [hptr] <;> omega) ?_
                refine RunH.loadS (.st (entryF (pj p q.y.l[j]))) rfl rfl rfl rfl (fun w hst => by
                  have h := (Sl.own (B := B0) (hst.row (κ := kEntry) (l := q.y.l.map (pj p)) (id := 8) rfl) (by rw [List.length_map]; omega)).load (i := j) (by rw [List.length_map]; exact hlt)
                  rw [List.getElem_map] at h
                  exact h) ?_
                refine RunH.adv tb_ok [] rfl rfl (by simp <;> omega) ?_
                refine RunH.doesB [(0, 4), (1, 6), (2, 5)] 14 (hc := Tryz.call106) (ho := rfl) (hw := rfl) (hd := rfl) (hf := rfl) (hes := rfl) (hσ := rfl) (hn := rfl) (hV := fun _ => rfl) (hG := fun _ => rfl) (e := fun _ : Option Addr × Nat => .av (.val (.tuple #[]))) (hC := set_spec 2 b (putL p s.y.l (q.y.l.take j)) (putL p s.t.l q.t.l) z zT (pj p q.y.l[j]) (by have := putL_le p s.y.l (q.y.l.take j); have := List.length_take_le j q.y.l; omega) (rises_putL p _ hS2.2.1)) (hp := fun _ _ => trivial) ?_
                rintro z' m10 hm10
                refine RunH.drop ?_
                rw [← putL_snoc, ← hts]
                refine RunH.adv tb_ok [] rfl rfl (by simp <;> omega) ?_
                refine RunH.again (j + 1, z') (.head _) rfl rfl (by show q.y.l.length - (j + 1) < q.y.l.length - j; omega) fun w h => ⟨h.1, h.2.1, by show j + 1 ≤ _; omega⟩
              · have hj' : j = q.y.l.length := by omega
                subst hj'
                rw [List.take_length]
                refine RunH.adv tb_ok [false] rfl rfl (by simp <;> omega) ?_
                refine RunH.again (2, putL p s.t.l q.t.l, putL p s.y.l q.y.l, zT, z) (.tail _ (.head _)) rfl rfl (by show 2 - 2 < 2 - 1; decide) fun w h => ⟨h.1, h.2.1, .inr (.inr ⟨rfl, rfl, rfl⟩)⟩
            · refine RunH.adv tb_ok [false] rfl rfl (by simp <;> omega) ?_
              refine RunH.loadS (.av (.val (.slice zT.1 (putL p s.t.l q.t.l).length zT.2))) rfl rfl rfl rfl (fun w hst => load_wk (hst.holds 4 _ rfl).2 1) ?_
              by_cases hf1 : 300 < (putL p s.t.l q.t.l).length
              · have hE := hE12 hokk htw' (.inl hf1)
                subst hE
                refine RunH.adv tb_ok [true, true] rfl rfl (by simp [hf1] <;> omega) ?_
                refine RunH.nilrow 60 kEntry.T kEntry.sz 61 ?_
                refine RunH.nilrow 61 kEntry.T kEntry.sz 62 ?_
                refine RunH.retBoxT tb_ok nilSp Tryz.func35 rfl rfl rfl rfl rfl fun w hst => ⟨((none, 0), (none, 0)), by rw [hT0 _ (by decide), hT0 _ (by decide)]; rfl, by rw [hT0 _ (by decide), hT0 _ (by decide)]; exact hst.out [(0, 60), (1, 61)] rfl rfl fun u h => ⟨h.1, trivial⟩⟩
              · refine RunH.adv tb_ok [false] rfl rfl (by simp [hf1] <;> omega) ?_
                refine RunH.loadS (.av (.val (.slice zY.1 (putL p s.y.l q.y.l).length zY.2))) rfl rfl rfl rfl (fun w hst => load_wk (hst.holds 4 _ rfl).2 2) ?_
                by_cases hf2 : 300 < (putL p s.y.l q.y.l).length
                · have hE := hE12 hokk htw' (.inr hf2)
                  subst hE
                  refine RunH.adv tb_ok [true] rfl rfl (by simp [hf2] <;> omega) ?_
                  refine RunH.nilrow 60 kEntry.T kEntry.sz 61 ?_
                  refine RunH.nilrow 61 kEntry.T kEntry.sz 62 ?_
                  refine RunH.retBoxT tb_ok nilSp Tryz.func35 rfl rfl rfl rfl rfl fun w hst => ⟨((none, 0), (none, 0)), by rw [hT0 _ (by decide), hT0 _ (by decide)]; rfl, by rw [hT0 _ (by decide), hT0 _ (by decide)]; exact hst.out [(0, 60), (1, 61)] rfl rfl fun u h => ⟨h.1, trivial⟩⟩
                · have hE := hE0 hokk htw' (fun h => h.elim hf1 hf2)
                  subst hE
                  refine RunH.adv tb_ok [false] rfl rfl (by simp [hf2] <;> omega) ?_
                  generalize hT : putL p s.t.l q.t.l = T' at *
                  generalize hY : putL p s.y.l q.y.l = Y' at *
                  refine RunH.loadS (.st [.val (.slice zT.1 T'.length zT.2), .val (.slice zY.1 Y'.length zY.2)]) rfl rfl rfl rfl (fun w hst => load_space (hst.holds 4 _ rfl).2) ?_
                  refine RunH.adv tb_ok [] rfl rfl (by simp <;> omega) ?_
                  exact RunH.retBoxT tb_ok (.st [.val (.slice zT.1 T'.length zT.2), .val (.slice zY.1 Y'.length zY.2)]) Tryz.func35 rfl rfl rfl rfl rfl fun w hst => ⟨(zT, zY), rfl, hst.out [(0, 5), (1, 6)] rfl rfl fun u h => ⟨h.1, trivial⟩⟩
      · have hE : e = pathsE [p] := by rw [← hre]; unfold intoE; rw [if_pos hc1, if_pos hc2, if_neg hp]
        subst hE
        refine RunH.adv tb_ok [true] rfl rfl (by simp [hp] <;> omega) ?_
        refine RunH.nilrow 60 kEntry.T kEntry.sz 61 ?_
        refine RunH.nilrow 61 kEntry.T kEntry.sz 62 ?_
        refine RunH.retBoxT tb_ok nilSp Tryz.func35 rfl rfl rfl rfl rfl fun w hst => ⟨((none, 0), (none, 0)), by rw [hT0 _ hp, hT0 _ hp]; rfl, by rw [hT0 _ hp, hT0 _ hp]; exact hst.out [(0, 60), (1, 61)] rfl rfl fun u h => ⟨h.1, trivial⟩⟩
    · have hE : e = checkE q.t.l q.y.l := by rw [← hre]; unfold intoE; rw [if_pos hc1, if_neg hc2]
      subst hE
      refine RunH.adv tb_ok [true] rfl rfl (by simp [hc2] <;> omega) ?_
      refine RunH.nilrow 60 kEntry.T kEntry.sz 61 ?_
      refine RunH.nilrow 61 kEntry.T kEntry.sz 62 ?_
      refine RunH.retBoxT tb_ok nilSp Tryz.func35 rfl rfl rfl rfl rfl fun w hst => ⟨((none, 0), (none, 0)), by rw [hT0 _ hc2, hT0 _ hc2]; rfl, by rw [hT0 _ hc2, hT0 _ hc2]; exact hst.out [(0, 60), (1, 61)] rfl rfl fun u h => ⟨h.1, trivial⟩⟩
  · have hE : e = checkE s.t.l s.y.l := by rw [← hre]; unfold intoE; rw [if_neg hc1]
    subst hE
    refine RunH.adv tb_ok [true] rfl rfl (by simp [hc1] <;> omega) ?_
    refine RunH.nilrow 60 kEntry.T kEntry.sz 61 ?_
    refine RunH.nilrow 61 kEntry.T kEntry.sz 62 ?_
    refine RunH.retBoxT tb_ok nilSp Tryz.func35 rfl rfl rfl rfl rfl fun w hst => ⟨((none, 0), (none, 0)), by rw [hT0 _ hc1, hT0 _ hc1]; rfl, by rw [hT0 _ hc1, hT0 _ hc1]; exact hst.out [(0, 60), (1, 61)] rfl rfl fun u h => ⟨h.1, trivial⟩⟩
end Go.Proofs.YtagnkcdhenilbaaGreatDoor

/-
Words of 32 bits, and the digest's rounds; no program.
-/
namespace Go.Proofs.YtagnkcdhenilbaaGreatDoor
open Go V

def u32V (x : UInt32) : Value := .int .u32 x.toNat
abbrev u32E (x : UInt32) : EV := .av (.val (u32V x))

theorem w_add (x y : UInt32) : ((x + y).toNat : Int) = ((x.toNat : Int) + y.toNat) % 4294967296 := by
  rw [UInt32.toNat_add]; omega

theorem bits32 (n : Nat) (h : n < 4294967296) : IntKind.u32.wrap (n : Int) = (n : Int) := by
  rw [wrap_u32]; omega

theorem ofi32 (x : UInt32) : BitVec.ofInt IntKind.u32.bits (x.toNat : Int) = x.toBitVec := by
  apply BitVec.eq_of_toNat_eq
  have h := x.toNat_lt
  show (BitVec.ofInt 32 (x.toNat : Int)).toNat = x.toNat
  rw [BitVec.toNat_ofInt]
  omega

theorem w_and (x y : UInt32) : ((x &&& y).toNat : Int) = IntKind.u32.wrap (BitVec.ofInt IntKind.u32.bits (x.toNat : Int) &&& BitVec.ofInt IntKind.u32.bits (y.toNat : Int)).toNat := by
  rw [ofi32, ofi32]; exact (bits32 _ (x.toBitVec &&& y.toBitVec).isLt).symm
theorem w_or (x y : UInt32) : ((x ||| y).toNat : Int) = IntKind.u32.wrap (BitVec.ofInt IntKind.u32.bits (x.toNat : Int) ||| BitVec.ofInt IntKind.u32.bits (y.toNat : Int)).toNat := by
  rw [ofi32, ofi32]; exact (bits32 _ (x.toBitVec ||| y.toBitVec).isLt).symm
theorem w_xor (x y : UInt32) : ((x ^^^ y).toNat : Int) = IntKind.u32.wrap (BitVec.ofInt IntKind.u32.bits (x.toNat : Int) ^^^ BitVec.ofInt IntKind.u32.bits (y.toNat : Int)).toNat := by
  rw [ofi32, ofi32]; exact (bits32 _ (x.toBitVec ^^^ y.toBitVec).isLt).symm
/-- not, as the machine has it. -/
def notW (x : UInt32) : UInt32 := 4294967295 ^^^ x
theorem w_not (x : UInt32) : ((notW x).toNat : Int) = IntKind.u32.wrap (BitVec.ofInt IntKind.u32.bits (IntKind.u32.max) ^^^ BitVec.ofInt IntKind.u32.bits (x.toNat : Int)).toNat := by
  unfold notW; rw [w_xor]; rfl

def shrW (x : UInt32) (n : Nat) : UInt32 := x >>> UInt32.ofNat n
def shlW (x : UInt32) (n : Nat) : UInt32 := x <<< UInt32.ofNat n
theorem w_shr (x : UInt32) (n : Nat) (h : n < 32) : ((shrW x n).toNat : Int) = (x.toNat : Int).fdiv (2 ^ (min (n : Int).toNat IntKind.u32.bits)) := by
  unfold shrW
  rw [UInt32.toNat_shiftRight]
  have : (UInt32.ofNat n).toNat % 32 = n := by
    rw [UInt32.toNat_ofNat']; omega
  rw [this, Nat.shiftRight_eq_div_pow, Int.toNat_natCast, show min n IntKind.u32.bits = n from Nat.min_eq_left (by show n ≤ 32; omega)]
  rw [Int.fdiv_eq_ediv_of_nonneg _ (by exact Int.le_of_lt (Int.pow_pos (by decide)))]
  push_cast
  rfl
theorem w_shl (x : UInt32) (n : Nat) (h : n < 32) : ((shlW x n).toNat : Int) = IntKind.u32.wrap ((x.toNat : Int) * 2 ^ (min (n : Int).toNat IntKind.u32.bits)) := by
  unfold shlW
  rw [UInt32.toNat_shiftLeft]
  have : (UInt32.ofNat n).toNat % 32 = n := by
    rw [UInt32.toNat_ofNat']; omega
  rw [this, Nat.shiftLeft_eq, Int.toNat_natCast, show min n IntKind.u32.bits = n from Nat.min_eq_left (by show n ≤ 32; omega), wrap_u32, Int.natCast_emod, Int.natCast_mul, Int.natCast_pow]
  rfl

def rotW (x : UInt32) (n : Nat) : UInt32 := shlW x (32 - n) ||| shrW x n
def sumW (l : List UInt32) : UInt32 := l.foldl (· + ·) 0

/-- What bits.RotateLeft32 makes of a negative turn. -/
theorem turn_s (n : Nat) (h1 : 0 < n) (h2 : n < 32) : IntKind.u64.wrap (BitVec.ofInt IntKind.u64.bits ((-(n : Int)) % 18446744073709551616) &&& BitVec.ofInt IntKind.u64.bits (31 : Int)).toNat = ((32 - n : Nat) : Int) := by
  have : ∀ k : Fin 31, IntKind.u64.wrap (BitVec.ofInt IntKind.u64.bits ((-((k.val + 1 : Nat) : Int)) % 18446744073709551616) &&& BitVec.ofInt IntKind.u64.bits (31 : Int)).toNat = ((32 - (k.val + 1) : Nat) : Int) := by decide
  have := this ⟨n - 1, by omega⟩
  rw [show n - 1 + 1 = n by omega] at this
  exact this
theorem turn_r (n : Nat) (h1 : 0 < n) (h2 : n < 32) : IntKind.u64.wrap ((32 : Int) - ((32 - n : Nat) : Int)) = (n : Int) := by
  rw [wrap_u64]; omega
end Go.Proofs.YtagnkcdhenilbaaGreatDoor
