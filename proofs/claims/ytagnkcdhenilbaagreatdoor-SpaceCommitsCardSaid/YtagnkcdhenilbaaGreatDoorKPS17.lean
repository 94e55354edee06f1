/-
A part of the proofs of the laws of a seat: contracts of functions and lemmas on them; the listed package variables hold what the program's text lays. No further condition.
-/
import Derived.Lib.Overlaps
import Derived.Test.YtagnkcdhenilbaaGreatDoorKPS14
import Derived.Test.YtagnkcdhenilbaaGreatDoorKVMake
set_option linter.unusedVariables false
set_option linter.unusedSectionVars false
set_option linter.unusedSimpArgs false
namespace Go.Proofs.YtagnkcdhenilbaaGreatDoor
open Go V

def insL {α : Type} (l : List α) (i : Nat) (x : α) : List α := l.take i ++ x :: l.drop i

theorem insL_len {α : Type} (l : List α) (i : Nat) (x : α) (h : i ≤ l.length) : (insL l i x).length = l.length + 1 := by
  unfold insL; rw [List.length_append, List.length_cons, List.length_take, List.length_drop]; omega

theorem run_overlaps (w : World) (ga gb : Nat) (oa ob la ca lb cb : Nat) (hne : ga ≠ gb) (ta tb_ : TypeId) (xa xb : Array Value) (ha : w.heap[ga]? = some (.cells xa ta (0, 0))) (hb : w.heap[gb]? = some (.cells xb tb_ (0, 0))) (hx : xb.size ≠ 0) :
    (callFunc 156 #[.slice (some ⟨ga, oa, none⟩) la ca, .slice (some ⟨gb, ob, none⟩) lb cb]).run Tryz.prog w = .ok (.value (.bool false)) w := by
  rw [run_callFunc_extern Tryz.func156 (by kernel_rfl) (by kernel_rfl) (by kernel_rfl) (e := Extern.SlicesOverlaps.overlaps #[22, 22] #[4]) (by kernel_rfl),
    Lib.run_overlaps_apart w 22 4 44 (tb_ok.und (by kernel_rfl)) 33 (fun w => run_tsize tb_ok (i := Tryz.t44) rfl) ⟨ga, oa, none⟩ ⟨gb, ob, none⟩ la ca lb cb hne ta tb_ xa.size xb.size
      (by simp [World.shape?, ha]) (by simp [World.shape?, hb]) hx (by simp [World.frozen?, ha]) (by simp [World.frozen?, ha])]
  rfl

theorem call_value {P : Program} {n : Nat} {env : SEnv} {a : Act} {d : Option Nat} {fo : Operand} {args : Array Operand} {tys : Array TypeId} {ty : TypeId} {ps : String} {af : Array Edge} {gd : Option (Nat × Bool)} {g : FuncId} {es : List EV} {e : EV} {f1 c1 : List Value} {v : Value} {w : World}
    (ha : Agree n a (kn env)) (hf : evE env fo = some e) (hev : e.v = .func (.func g) f1.toArray c1.toArray) (hes : evsE env args.toList = some es)
    (hc : (callFunc g (f1 ++ es.map EV.v ++ c1).toArray).run P w = .ok (.value v) w) :
    (execOp a.eval ⟨d, .call ⟨.value fo, args, tys⟩, ty, ps, af, gd⟩).run P w = .ok (.value v) w := by
  have h1 := evsE_eq ha hes
  have h2 : args.map a.eval = (es.map EV.v).toArray := by rw [← h1, ← Array.toList_map]
  simp only [execOp, resolve, Deferred.ofValue, ev_run ha hf, hev, h2, Sem.run_bind, Sem.run_pure, Result.andThen_ok, invoke]
  rw [show f1.toArray ++ (es.map EV.v).toArray ++ c1.toArray = (f1 ++ es.map EV.v ++ c1).toArray by simp]
  exact hc

theorem V.RunH.readS {P : Program} {f : Fr} {n : Nat} {S : Stops} {R : Ending → World → Prop} {tb : TT} {B0 : Nat} {I : World → Prop} {H : Heap} {nx m : Nat} {env : SEnv} {k : List Item} {ops : Array Oper} {i : Nat} {rest : List Nat} {o : Oper} {d : Nat} (e : EV) (ho : ops.toList[i]? = some o) (hdst : o.dst = some d) (hw : wantE env ops o.guard = .yes) (hd : Nat.blt d n = true)
    (hv : ∀ w a, St tb B0 H I w → Agree n a (kn env) → (execOp a.eval o).run P w = .ok (.value e.v) w)
    (hk : ∀ m', m ≤ m' → RunH P f n tb B0 S R (.inRegion ops rest :: k) ((d, e) :: env) H nx m' I) : RunH P f n tb B0 S R (.inRegion ops (i :: rest) :: k) env H nx m I :=
  RunH.go ho hw (OpGo.read e hdst hd hv) nx fun _ => hk

theorem op_cap {P : Program} {n : Nat} {env : SEnv} {a : Act} (ha : Agree n a (kn env)) {d : Option Nat} {x : Operand} {T ty e : TypeId} {ps : String} {af : Array Edge} {gd : Option (Nat × Bool)} {ex : EV} {A : Option Addr} {n_ c : Nat} {w : World}
    (hx : evE env x = some ex) (hv : ex.v = .slice A n_ c) (hT : P.underlying T = some (.slice e)) :
    (execOp a.eval ⟨d, .call ⟨.builtin .cap, #[x], #[T]⟩, ty, ps, af, gd⟩).run P w = .ok (.value (intE c).v) w := by
  have hxv : a.eval x = .slice A n_ c := (ev_run ha hx).trans hv
  simp only [execOp, resolve, invoke, builtin, Sem.run_bind, Sem.run_pure, Result.andThen_ok, List.map_toArray, List.map_cons, List.map_nil, hxv, Builtin.cap_]
  simp [run_underlying hT, goInt]
  rfl

theorem putC_fin1 {X : Array Value} {o : Nat} {cx cd : List Value} (h : o + cx.length + cd.length ≤ X.size) : (putC (putC X o cx) (o + cx.length) cd).toList.take (o + cx.length + cd.length) = X.toList.take o ++ (cx ++ cd) := by
  rw [putC_take2 (by rw [putC_size (by omega)]; omega), putC_take2 (by omega), List.append_assoc]

theorem putC_fin2 {X : Array Value} {o : Nat} {cx cd : List Value} (h : o + cx.length + cd.length ≤ X.size) : (putC (putC X (o + cx.length) cd) o cx).toList.take (o + cx.length + cd.length) = X.toList.take o ++ (cx ++ cd) := by
  have h1 : (putC X (o + cx.length) cd).toList.take o = X.toList.take o := by
    have := putC_take (X := X) (o := o + cx.length) (cs := cd) (by omega)
    have h2 := congrArg (List.take o) this
    rw [List.take_take, List.take_take, Nat.min_eq_left (by omega)] at h2
    exact h2
  have h3 : ((putC X (o + cx.length) cd).toList.drop (o + cx.length)).take cd.length = cd := by
    show ((X.toList.take (o + cx.length) ++ cd ++ X.toList.drop (o + cx.length + cd.length)).drop (o + cx.length)).take cd.length = cd
    have hl0 : (X.toList.take (o + cx.length)).length = o + cx.length := by rw [List.length_take, Array.length_toList (xs := X)]; omega
    rw [List.append_assoc, List.drop_left' hl0, List.take_left]
  generalize putC X (o + cx.length) cd = Y at h1 h3
  show (Y.toList.take o ++ cx ++ Y.toList.drop (o + cx.length)).take _ = _
  have hl : (Y.toList.take o ++ cx).length = o + cx.length := by
    rw [List.length_append, h1, List.length_take, Array.length_toList (xs := X)]; omega
  have h4 := List.take_length_add_append (l₁ := Y.toList.take o ++ cx) (l₂ := Y.toList.drop (o + cx.length)) (i := cd.length)
  rw [hl] at h4
  rw [h4, h3, h1, List.append_assoc]

theorem flat_ins (l : List Entry) (i : Nat) (x : Entry) : (insL l i x).flatMap kEntry.cs = (l.take i).flatMap kEntry.cs ++ (kEntry.cs x ++ (l.drop i).flatMap kEntry.cs) := by
  unfold insL; rw [List.flatMap_append, List.flatMap_cons]

theorem flat_take (l : List Entry) (i : Nat) (h : i ≤ l.length) : (l.flatMap kEntry.cs).take (i * 33) = (l.take i).flatMap kEntry.cs := by
  have e : l.flatMap kEntry.cs = (l.take i).flatMap kEntry.cs ++ (l.drop i).flatMap kEntry.cs := by rw [← List.flatMap_append, List.take_append_drop]
  rw [e, List.take_left' (by rw [kEntry.flat_len, List.length_take, show kEntry.sz = 33 from rfl, Nat.min_eq_left h])]

theorem flat_drop (l : List Entry) (i : Nat) (h : i ≤ l.length) : (l.flatMap kEntry.cs).drop (i * 33) = (l.drop i).flatMap kEntry.cs := by
  have e : l.flatMap kEntry.cs = (l.take i).flatMap kEntry.cs ++ (l.drop i).flatMap kEntry.cs := by rw [← List.flatMap_append, List.take_append_drop]
  rw [e, List.drop_left' (by rw [kEntry.flat_len, List.length_take, show kEntry.sz = 33 from rfl, Nat.min_eq_left h])]

set_option maxRecDepth 10000 in
theorem Insert_spec (A V : Option Addr) (c cv : Nat) (l : List Entry) (i : Nat) (x : Entry) (hi : i ≤ l.length) (hn : l.length ≤ 1000000) :
    Does Tryz.prog tb 114 [.slice A l.length c, intV i, .slice V 1 cv] [(0, rowE kEntry A c l), (1, rowE kEntry V cv [x])] (fun _ => True) (fun y : Option Addr × Nat => .slice y.1 (insL l i x).length y.2) (fun y => [(0, rowE kEntry y.1 y.2 (insL l i x))]) (fun _ _ _ => True) := by
  have hl : lim = 140737488351232 := rfl
  have hil := insL_len l i x hi
  refine Does.enter tb_ok [(0, rowS 0 A l.length c), (1, intE i), (2, rowS 1 V 1 cv)] Tryz.func114 rfl Tryz.ntmps114 rfl rfl 2 ?_
  intro B0 m0 K
  refine RunH.pureS (fun w hst => own_cap (hst.row (κ := kEntry) (id := 0) (l := l) rfl)) fun hcap => ?_
  by_cases he : i = l.length
  · have hins : insL l i x = l ++ [x] := by unfold insL; rw [he, List.take_length, List.drop_length]
    rw [hins]
    refine RunH.adv tb_ok [false, true] rfl rfl (by simp [he] <;> omega) ?_
    refine RunH.appendK (κ := kEntry) (id := 0) (r := [x]) (l := l) rfl rfl rfl rfl rfl rfl elt_entry rfl rfl (fun w hst => hst.liesRow (κ := kEntry) (l := [x]) (id := 1) rfl (by simp [hl])) (by simp; omega) (by simp; omega) ?_
    intro A' c' m' hm'
    refine RunH.adv tb_ok [] rfl rfl (by simp <;> omega) ?_
    refine RunH.ret1 Tryz.func114 rfl rfl fun w hst => ⟨(A', c'), rfl, hst.out [] rfl rfl fun u h => ⟨h.1, trivial⟩⟩
  · have hlt : i < l.length := by omega
    refine RunH.raw (id := 0) rfl (by omega) ?_
    intro g cap cur hv hc hmx hcs ht
    injection hv with h1 h2 h3
    subst h1; subst h3
    refine RunH.raw (id := 1) rfl (by simp) ?_
    intro gv capv curv hvv hcv hmxv hcsv htv
    injection hvv with h1 h2 h3
    subst h1; subst h3
    have hlen := kEntry.flat_len l
    have hsz : kEntry.sz = 33 := rfl
    have hcx : (kEntry.cs x).length = 33 := kEntry.cs_len x
    have hxv : (curv.toList.drop (offA (some (⟨gv, 0, none⟩ : Addr)))).take 33 = kEntry.cs x := by
      show (curv.toList.drop 0).take 33 = _
      rw [List.drop_zero]
      have := htv
      rw [hsz] at this
      simpa using this
    by_cases hroom : c < l.length + 1
    · refine RunH.adv tb_ok [false, false] rfl rfl (by simp [he, hroom] <;> omega) ?_
      refine RunH.read (intE c) rfl rfl rfl rfl (fun w a _ ha => op_cap (A := some ⟨g, 0, none⟩) (n_ := l.length) (e := 44) ha rfl rfl (tb_ok.und (by kernel_rfl))) ?_
      refine RunH.adv tb_ok [true] rfl rfl (by simp [hroom] <;> omega) ?_
      have e1 : ((l.length : Int) + ((1 : Nat) : Int) - i) = ((l.length + 1 - i : Nat) : Int) := by omega
      rw [e1]
      have hti : cur.toList.take (i * 33) = (l.take i).flatMap kEntry.cs := by
        rw [← flat_take l i hi, ← ht, hsz, List.take_take, Nat.min_eq_left (by omega)]
      have hdi : (cur.toList.drop (i * 33)).take ((l.length - i) * 33) = (l.drop i).flatMap kEntry.cs := by
        rw [← flat_drop l i hi, ← ht, hsz, List.drop_take]; congr 1; omega
      refine RunH.go rfl rfl (OpGo.appendMake (id := 3) (sl := i) (olds := (l.take i).flatMap kEntry.cs) (e := 44) (i := Tryz.t44) (b := ⟨g, 0, none⟩) (z := (Tryz.t44).zero.getD undef) tb_ok rfl (by kernel_rfl) (by kernel_rfl) (by kernel_rfl) (by kernel_rfl) (by show 0 < 33; decide) (by kernel_rfl) rfl rfl rfl ?_ ?_ ?_ ?_ ?_ ?_) 4 ?_
      · rw [kEntry.flat_len, List.length_take, Nat.min_eq_left hi]; rfl
      · intro w hst j v hj
        have ho := (hst.holds 0 _ rfl).2
        rw [← hti] at hj
        rw [Addr.add_lit, Nat.zero_add]
        have hj2 := (List.getElem?_eq_some_iff.1 hj).1
        rw [List.length_take] at hj2
        rw [List.getElem?_take, if_pos (by omega)] at hj
        show w.cell? ⟨g, j, none⟩ = some v
        simp only [World.cell?, ho]
        simpa using hj
      · omega
      · omega
      · have : (Tryz.t44).bytes = 48 := rfl
        rw [this]; omega
      · simp only [maxLen]; omega
      rintro ⟨cap', X⟩ m1 hm1
      refine RunH.pure (fun w h => h.2) fun ⟨hX1, hX2, hX3, hX4⟩ => ?_
      dsimp only at hX1 hX2 hX3 hX4 ⊢
      refine RunH.adv tb_ok [] rfl rfl (by simp <;> omega) ?_
      have hX1' : i < cap' := by omega
      have hcd : ((l.drop i).flatMap kEntry.cs).length = (l.length - i) * 33 := by rw [kEntry.flat_len, List.length_drop, hsz]
      refine RunH.go rfl rfl (OpGo.copyRaw (id := 3) (g := m0) (off := i * 33) (dl := l.length + 1 - i) (dc := cap' - i) (q := 1) (c := cv) (A := some ⟨gv, 0, none⟩) (cur := X) (cs := kEntry.cs x) (i := Tryz.t44) (e := 44) tb_ok rfl rfl rfl rfl ?_ rfl rfl rfl ?_ ?_ ?_ ?_ ?_ ?_) 4 ?_
      · show Value.slice (subA (some ⟨m0, 0, none⟩) (i : Int).toNat cap' 33) (i + (l.length + 1 - i) - (i : Int).toNat) (cap' - (i : Int).toNat) = _
        rw [Int.toNat_natCast, Nat.add_sub_cancel_left]
        unfold subA
        rw [if_neg (by omega), Option.map_some, Addr.add_lit, Nat.zero_add]
      · rw [hcx, show Nat.min 1 (l.length + 1 - i) = 1 from Nat.min_eq_left (by omega)]; rfl
      · exact (kEntry.ok x).one
      · exact fun w hst => range_take (n := 33) (hst.holds 1 _ rfl).2 hxv
      · exact fun _ => rfl
      · exact nofun
      · rw [hcx, hX3]; show i * 33 + 33 ≤ cap' * 33; omega
      rintro ⟨⟩ m2 hm2
      refine RunH.adv tb_ok [] rfl rfl (by simp <;> omega) ?_
      refine RunH.draw rfl [] rfl 9 rfl rfl ?_
      refine RunD.adv tb_ok (by kernel_rfl) [] rfl rfl (by simp <;> omega) ?_
      refine RunD.go (i := 8) rfl (by kernel_rfl) rfl (OpGo.copyRaw (id := 3) (g := m0) (off := (i + 1) * 33) (dl := l.length - i) (dc := cap' - (i + 1)) (q := l.length - i) (c := c - i) (A := some ⟨g, i * 33, none⟩) (cur := putC X (i * 33) (kEntry.cs x)) (cs := (l.drop i).flatMap kEntry.cs) (i := Tryz.t44) (e := 44) tb_ok rfl rfl rfl rfl ?_ rfl ?_ rfl ?_ ?_ ?_ ?_ ?_ ?_) 4 (fun _ => rfl) (fun _ _ h => h) ?_
      · show Value.slice (subA (some ⟨m0, 0, none⟩) ((i : Int) + ((1 : Nat) : Int)).toNat cap' 33) (i + (l.length + 1 - i) - ((i : Int) + ((1 : Nat) : Int)).toNat) (cap' - ((i : Int) + ((1 : Nat) : Int)).toNat) = _
        rw [show ((i : Int) + ((1 : Nat) : Int)).toNat = i + 1 by omega, show i + (l.length + 1 - i) - (i + 1) = l.length - i by omega]
        unfold subA
        rw [if_neg (by omega), Option.map_some, Addr.add_lit, Nat.zero_add]
      · show Value.slice (subA (some ⟨g, 0, none⟩) (i : Int).toNat c 33) (l.length - (i : Int).toNat) (c - (i : Int).toNat) = _
        rw [Int.toNat_natCast]
        unfold subA
        rw [if_neg (by omega), Option.map_some, Addr.add_lit, Nat.zero_add]
      · rw [hcd, show Nat.min (l.length - i) (l.length - i) = l.length - i from Nat.min_self _]; rfl
      · exact kEntry.one _
      · exact fun w hst => range_take (hst.holds 0 _ rfl).2 hdi
      · exact fun _ => rfl
      · exact nofun
      · rw [hcd, putC_size (by rw [hcx, hX3]; show i * 33 + 33 ≤ cap' * 33; omega), hX3]; show (i + 1) * 33 + _ ≤ cap' * 33; omega
      rintro ⟨⟩ m3 hm3
      refine RunD.done (.inl rfl) (by kernel_rfl) ?_
      have hs2 : (putC (putC X (i * 33) (kEntry.cs x)) ((i + 1) * 33) ((l.drop i).flatMap kEntry.cs)).size = cap' * 33 := by
        have h1 : (putC X (i * 33) (kEntry.cs x)).size = cap' * 33 := by rw [putC_size (by rw [hcx, hX3]; show i * 33 + 33 ≤ cap' * 33; omega), hX3]; rfl
        rw [putC_size (by rw [hcd, h1]; omega), h1]
      have hfin : (putC (putC X (i * 33) (kEntry.cs x)) ((i + 1) * 33) ((l.drop i).flatMap kEntry.cs)).toList.take ((l.length + 1) * 33) = (insL l i x).flatMap kEntry.cs := by
        have h1 : (i + 1) * 33 = i * 33 + (kEntry.cs x).length := by rw [hcx]; omega
        have h2 : (l.length + 1) * 33 = i * 33 + (kEntry.cs x).length + ((l.drop i).flatMap kEntry.cs).length := by rw [hcx, hcd]; omega
        rw [h1, h2, putC_fin1 (by rw [hcx, hcd, hX3]; show _ ≤ cap' * 33; omega), flat_ins]
        congr 1
      refine RunH.cook (id := 3) (g := m0) (sz := 33) (l.length + 1) cap' rfl (by omega) hX2 hs2 ?_
      rw [hfin]
      refine RunH.adv tb_ok [] rfl rfl (by simp <;> omega) ?_
      refine RunH.ret1 Tryz.func114 rfl rfl fun w hst => ⟨(some ⟨m0, 0, none⟩, cap'), by rw [hil]; show Ending.returned (Value.slice (some ⟨m0, 0, none⟩) (i + (l.length + 1 - i)) cap') = Ending.returned (Value.slice _ (l.length + 1) _); rw [show i + (l.length + 1 - i) = l.length + 1 by omega], ?_⟩
      have := hst.out (J := fun u => K u ∧ True) (G := [(0, some (HE.row (.slice (some ⟨m0, 0, none⟩) (l.length + 1) cap') kEntry.T 33 (l.length + 1) ((insL l i x).flatMap kEntry.cs)))]) [(0, 3)] rfl rfl fun u h => ⟨h.1.1, trivial⟩
      unfold rowE
      rw [hil]
      exact this
    · refine RunH.adv tb_ok [false, false] rfl rfl (by simp [he, hroom] <;> omega) ?_
      refine RunH.read (intE c) rfl rfl rfl rfl (fun w a _ ha => op_cap (A := some ⟨g, 0, none⟩) (n_ := l.length) (e := 44) ha rfl rfl (tb_ok.und (by kernel_rfl))) ?_
      refine RunH.adv tb_ok [false] rfl rfl (by simp [hroom] <;> omega) ?_
      have hdi : (cur.toList.drop (i * 33)).take ((l.length - i) * 33) = (l.drop i).flatMap kEntry.cs := by
        rw [← flat_drop l i hi, ← ht, hsz, List.drop_take]; congr 1; omega
      have hti : cur.toList.take (i * 33) = (l.take i).flatMap kEntry.cs := by
        rw [← flat_take l i hi, ← ht, hsz, List.take_take, Nat.min_eq_left (by omega)]
      have hcd : ((l.drop i).flatMap kEntry.cs).length = (l.length - i) * 33 := by rw [kEntry.flat_len, List.length_drop, hsz]
      have hsA : ∀ j, j ≤ i + 1 → subA (some ⟨g, 0, none⟩) j c 33 = if c = j then some ⟨g, 0, none⟩ else some ⟨g, j * 33, none⟩ := fun j _ => by
        unfold subA
        split
        · rfl
        · rw [Option.map_some, Addr.add_lit, Nat.zero_add]
      have hci : c ≠ i := by omega
      have hci1 : c ≠ i + 1 := by omega
      refine RunH.readS .ff rfl rfl rfl rfl (fun w a hst ha => ?_) ?_
      · have o0 := (hst.holds 0 _ rfl).2
        have o1 := (hst.holds 1 _ rfl).2
        have hne : gv ≠ g := fun e => hst.apart 1 0 _ _ (by decide) rfl rfl gv rfl (by rw [e]; rfl)
        have hov := run_overlaps w gv g 0 ((i + 1) * 33) 1 cv (((l.length : Int) + ((1 : Nat) : Int)).toNat - ((i : Int) + ((1 : Nat) : Int)).toNat) (c - ((i : Int) + ((1 : Nat) : Int)).toNat) hne _ _ _ _ o1 o0 (by rw [hcs, hsz]; omega)
        refine call_value ha (e := .av (.val (.func (.func 156) #[] #[]))) (f1 := []) (c1 := []) (g := 156) (es := [rowS 1 (some ⟨gv, 0, none⟩) 1 cv, .av (.val (.slice (subA (some ⟨g, 0, none⟩) ((i : Int) + ((1 : Nat) : Int)).toNat c 33) (((l.length : Int) + ((1 : Nat) : Int)).toNat - ((i : Int) + ((1 : Nat) : Int)).toNat) (c - ((i : Int) + ((1 : Nat) : Int)).toNat)))]) rfl rfl rfl ?_
        rw [show ((i : Int) + ((1 : Nat) : Int)).toNat = i + 1 by omega, hsA (i + 1) (Nat.le_refl _), if_neg hci1]
        rw [show ((i : Int) + ((1 : Nat) : Int)).toNat = i + 1 by omega] at hov
        exact hov
      intro m1 hm1
      refine RunH.adv tb_ok [] rfl rfl (by simp <;> omega) ?_
      refine RunH.draw rfl [] rfl 9 rfl rfl ?_
      refine RunD.adv tb_ok (by kernel_rfl) [] rfl rfl (by simp <;> omega) ?_
      refine RunD.go (i := 8) rfl (by kernel_rfl) rfl (OpGo.copyRaw (id := 0) (g := g) (off := (i + 1) * 33) (dl := l.length - i) (dc := c - (i + 1)) (q := l.length + 1 - i) (c := c - i) (A := some ⟨g, i * 33, none⟩) (cur := cur) (cs := (l.drop i).flatMap kEntry.cs) (i := Tryz.t44) (e := 44) tb_ok rfl rfl rfl rfl ?_ rfl ?_ rfl ?_ ?_ ?_ ?_ ?_ ?_) 4 (fun _ => rfl) (fun _ _ h => h) ?_
      · show Value.slice (subA (some ⟨g, 0, none⟩) ((i : Int) + ((1 : Nat) : Int)).toNat c 33) (((l.length : Int) + ((1 : Nat) : Int)).toNat - ((i : Int) + ((1 : Nat) : Int)).toNat) (c - ((i : Int) + ((1 : Nat) : Int)).toNat) = _
        rw [show ((i : Int) + ((1 : Nat) : Int)).toNat = i + 1 by omega, show ((l.length : Int) + ((1 : Nat) : Int)).toNat - (i + 1) = l.length - i by omega, hsA (i + 1) (Nat.le_refl _), if_neg hci1]
      · show Value.slice (subA (some ⟨g, 0, none⟩) (i : Int).toNat c 33) (((l.length : Int) + ((1 : Nat) : Int)).toNat - (i : Int).toNat) (c - (i : Int).toNat) = _
        rw [Int.toNat_natCast, show ((l.length : Int) + ((1 : Nat) : Int)).toNat = l.length + 1 by omega, hsA i (by omega), if_neg hci]
      · rw [hcd, show Nat.min (l.length + 1 - i) (l.length - i) = l.length - i from Nat.min_eq_right (by omega)]; rfl
      · exact kEntry.one _
      · exact fun w hst => range_take (hst.holds 0 _ rfl).2 hdi
      · exact fun _ => rfl
      · exact nofun
      · rw [hcd, hcs, hsz]; omega
      rintro ⟨⟩ m2 hm2
      refine RunD.done (.inl rfl) (by kernel_rfl) ?_
      refine RunH.adv tb_ok [] rfl rfl (by simp <;> omega) ?_
      refine RunH.go rfl rfl (OpGo.copyRaw (id := 0) (g := g) (off := i * 33) (dl := l.length + 1 - i) (dc := c - i) (q := 1) (c := cv) (A := some ⟨gv, 0, none⟩) (cur := putC cur ((i + 1) * 33) ((l.drop i).flatMap kEntry.cs)) (cs := kEntry.cs x) (i := Tryz.t44) (e := 44) tb_ok rfl rfl rfl rfl ?_ rfl rfl rfl ?_ ?_ ?_ ?_ ?_ ?_) 4 ?_
      · show Value.slice (subA (some ⟨g, 0, none⟩) (i : Int).toNat c 33) (((l.length : Int) + ((1 : Nat) : Int)).toNat - (i : Int).toNat) (c - (i : Int).toNat) = _
        rw [Int.toNat_natCast, show ((l.length : Int) + ((1 : Nat) : Int)).toNat = l.length + 1 by omega, hsA i (by omega), if_neg hci]
      · rw [hcx, show Nat.min 1 (l.length + 1 - i) = 1 from Nat.min_eq_left (by omega)]; rfl
      · exact (kEntry.ok x).one
      · exact fun w hst => range_take (n := 33) (hst.holds 1 _ rfl).2 hxv
      · exact fun _ => rfl
      · exact nofun
      · rw [hcx, putC_size (by rw [hcd, hcs, hsz]; omega), hcs, hsz]; omega
      rintro ⟨⟩ m3 hm3
      have hs1 : (putC cur ((i + 1) * 33) ((l.drop i).flatMap kEntry.cs)).size = c * 33 := by rw [putC_size (by rw [hcd, hcs, hsz]; omega), hcs, hsz]
      have hs2 : (putC (putC cur ((i + 1) * 33) ((l.drop i).flatMap kEntry.cs)) (i * 33) (kEntry.cs x)).size = c * 33 := by rw [putC_size (by rw [hcx, hs1]; omega), hs1]
      have hfin : (putC (putC cur ((i + 1) * 33) ((l.drop i).flatMap kEntry.cs)) (i * 33) (kEntry.cs x)).toList.take ((l.length + 1) * 33) = (insL l i x).flatMap kEntry.cs := by
        have h1 : (i + 1) * 33 = i * 33 + (kEntry.cs x).length := by rw [hcx]; omega
        have h2 : (l.length + 1) * 33 = i * 33 + (kEntry.cs x).length + ((l.drop i).flatMap kEntry.cs).length := by rw [hcx, hcd]; omega
        rw [h1, h2, putC_fin2 (by rw [hcx, hcd, hcs, hsz]; omega), flat_ins, hti]
      refine RunH.cook (id := 0) (g := g) (sz := 33) (l.length + 1) c rfl (by omega) hmx hs2 ?_
      rw [hfin]
      refine RunH.adv tb_ok [] rfl rfl (by simp <;> omega) ?_
      refine RunH.ret1 Tryz.func114 rfl rfl fun w hst => ⟨(some ⟨g, 0, none⟩, c), by rw [hil]; show Ending.returned (Value.slice (some ⟨g, 0, none⟩) ((l.length : Int) + ((1 : Nat) : Int)).toNat c) = Ending.returned (Value.slice _ (l.length + 1) _); rw [show ((l.length : Int) + ((1 : Nat) : Int)).toNat = l.length + 1 by omega], ?_⟩
      have := hst.out (J := fun u => K u ∧ True) (G := [(0, some (HE.row (.slice (some ⟨g, 0, none⟩) (l.length + 1) c) kEntry.T 33 (l.length + 1) ((insL l i x).flatMap kEntry.cs)))]) [(0, 0)] rfl rfl fun u h => ⟨h.1, trivial⟩
      unfold rowE
      rw [hil]
      exact this
end Go.Proofs.YtagnkcdhenilbaaGreatDoor

namespace Go.Proofs.YtagnkcdhenilbaaGreatDoor
open Go V

/-- A load out of what stands, taken first. -/
theorem V.RunD.loadG {P : Program} {f : Fr} {n : Nat} {tb : TT} {B0 : Nat} {S : Stops} {R : Ending → World → Prop} {k : List Item} {ops : Array Oper} {G : Heap} {I0 : World → Prop} {fuel : Nat} {l : List Bool} {env : SEnv} {H : Heap} {nx m : Nat} {I : World → Prop} (hp : pairOk ops = true) {i d : Nat} {T : TypeId} {x : Operand} {ty : TypeId} {ps : String} {af : Array Edge} {gd : Option (Nat × Bool)} {p : Addr} (e : EV) (ho : ops.toList[i]? = some ⟨some d, .load T x, ty, ps, af, gd⟩) (hdn : Nat.blt d n = true) (hw : wantE env ops gd = .yes)
    (hl : l[i]? = some false) (hr : readyE l ⟨some d, .load T x, ty, ps, af, gd⟩ = true) (hx : ptrE (evE env x) = some p) (hv : ∀ w, St tb B0 G I0 w → (loadVar T p).run P w = .ok e.v w)
    (h : RunD P f n tb B0 S R k ops G I0 fuel (l.set i true) ((d, e) :: env) H nx m I) : RunD P f n tb B0 S R k ops G I0 (fuel + 1) l env H nx m I := by
  obtain ⟨ex, h1, h2⟩ := ptrE_ok hx
  rw [Array.getElem?_toList] at ho
  exact RunD.take hp ho rfl (Nat.lt_of_lt_of_le (Nat.lt_succ_self d) (Nat.le_of_ble_eq_true hdn)) hl hr (fun a ha => .inl ⟨wantE_yes (o := ⟨some d, .load T x, ty, ps, af, gd⟩) hw ha, fun w hst => by simp [execOp, Instr.loadAt, ev_run ha h1, h2, Instr.sureAddr, hv w hst]⟩) h

/-- A namespace at work by the list of a kind, and the other one. -/
abbrev wkK (k : Int) (b : Nat) (vs vo : Value) : Option HE := wkE b (kA k vs vo) (kA k vo vs)
abbrev wkKG (k : Int) (b : Nat) (ls lo : List Entry) (zs zo : Option Addr × Nat) : Heap :=
  [(0, wkK k b (slV zs.1 ls.length zs.2) (slV zo.1 lo.length zo.2)), (1, rowE kEntry zs.1 zs.2 ls), (2, rowE kEntry zo.1 zo.2 lo)]

theorem load_wkK {w : World} {b n c n2 c2 : Nat} {A B : Option Addr} {k : Int} (h : w.heap[b]? = some (.cells #[kA k (slV A n c) (slV B n2 c2), kA k (slV B n2 c2) (slV A n c)] 140)) :
    (loadVar 22 ⟨b, kOff k, none⟩).run Tryz.prog w = .ok (.slice A n c) w := by
  by_cases hk : k = 1
  · have h2 : w.heap[b]? = some (.cells #[.slice A n c, .slice B n2 c2] 140) := by rw [h]; simp [kA, hk]
    have := load_wk h2 k
    rw [if_pos hk] at this; exact this
  · have h2 : w.heap[b]? = some (.cells #[.slice B n2 c2, .slice A n c] 140) := by rw [h]; simp [kA, hk]
    have := load_wk h2 k
    rw [if_neg hk] at this; exact this

theorem store_wkK {w : World} {B0 : Nat} {H : Heap} {I : World → Prop} {id b : Nat} {k : Int} {vs vo v : Value} (hst : St tb B0 H I w) (hH : lookH H id = wkK k b vs vo) (hv : VOk tb 22 v) (h1 : vs.oneCell' = true) (h2 : vo.oneCell' = true) :
    ∃ w', (storeVar 22 ⟨b, kOff k, none⟩ v).run Tryz.prog w = .ok () w' ∧ w.heap.size ≤ w'.heap.size ∧ St tb B0 ((id, wkK k b v vo) :: H) I w' := by
  have h3 : (kA k vs vo).oneCell' = true := by unfold kA; split <;> assumption
  have h4 : (kA k vo vs).oneCell' = true := by unfold kA; split <;> assumption
  obtain ⟨w', q1, q2, q3⟩ := store_wk hst hH k hv h3 h4
  refine ⟨w', q1, q2, ?_⟩
  have e : (if k = 1 then wkE b v (kA k vo vs) else wkE b (kA k vs vo) v) = wkK k b v vo := by
    simp only [wkK, kA]; by_cases hk : k = 1 <;> simp [hk]
  rw [e] at q3
  exact q3

def setL (l : List Entry) (x : Entry) : List Entry := if isAt l x.path = true then l.set (posOf l x.path) x else insL l (posOf l x.path) x

theorem posOf_le (l : List Entry) (p : Str) : posOf l p ≤ l.length := by
  unfold posOf
  exact (List.takeWhile_sublist _).length_le

theorem set_spec (k : Int) (b : Nat) (ls lo : List Entry) (zs zo : Option Addr × Nat) (x : Entry) (hn : ls.length ≤ 1000000) (hr : rises ls = true) :
    Does Tryz.prog tb 106 [.pointer (some ⟨b, 0, none⟩), intV k, (EV.st (entryF x)).v] (wkKG k b ls lo zs zo) (fun _ => True) (fun _ : Option Addr × Nat => .tuple #[]) (fun z => wkKG k b (setL ls x) lo z zo) (fun _ _ _ => True) := by
  have hl : lim = 140737488351232 := rfl
  obtain ⟨A, c⟩ := zs
  obtain ⟨B, c2⟩ := zo
  refine Does.enter tb_ok [(0, .av (.val (.pointer (some ⟨b, 0, none⟩)))), (1, intE k), (2, .st (entryF x))] Tryz.func106 rfl Tryz.ntmps106 rfl rfl 3 ?_
  intro B0 m0 K
  refine RunH.adv tb_ok [] rfl rfl (by simp <;> omega) ?_
  refine RunH.gives (ho := rfl) (hw := rfl) (hd := rfl) (hf := rfl) (hes := rfl) (hc := Tryz.call94) (e := .av (.val (.pointer (some ⟨b, kOff k, none⟩)))) (hC := fun w' _ => list_spec w' b k) ?_
  intro m1 hm1
  refine RunH.adv tb_ok [] rfl rfl (by simp <;> omega) ?_
  refine RunH.draw rfl [(0, wkK k b (slV A ls.length c) (slV B lo.length c2)), (3, some (.box m0 (entryF x) 44))] rfl 11 rfl rfl ?_
  refine RunD.adv tb_ok (by kernel_rfl) [] rfl rfl (by simp <;> omega) ?_
  refine RunD.loadS (i := 2) (slE A ls.length c) rfl (by kernel_rfl) rfl rfl rfl (fun w hst => load_wkK (hst.holds 0 _ rfl).2) rfl (fun _ h => h) ?_
  intro m2 hm2
  refine RunD.gives (i := 5) (atV ls x.path) rfl (by kernel_rfl) rfl rfl rfl rfl Tryz.call149 (fun w hst => at_spec w A c ls (Sl.own (hst.row (κ := kEntry) (id := 1) rfl) (by omega)) hr x.path) rfl (fun _ h => h) ?_
  intro m3 hm3
  refine RunD.adv tb_ok (by kernel_rfl) [] rfl rfl (by simp <;> omega) ?_
  refine RunD.done (.inl rfl) (by kernel_rfl) ?_
  by_cases ha : isAt ls x.path = true
  · have hpos : posOf ls x.path < ls.length := by
      unfold isAt at ha
      simp only [Bool.and_eq_true, decide_eq_true_eq] at ha
      exact ha.1
    have hsl : setL ls x = ls.set (posOf ls x.path) x := if_pos ha
    rw [hsl]
    refine RunH.pureS (fun w hst => hst.ptr (κ := kEntry) (id := 1) (l := ls) rfl (by rintro rfl; cases hpos)) fun hptr => ?_
    refine RunH.adv tb_ok [true] rfl rfl (by simp [ha] <;> omega) ?_
    refine RunH.draw rfl [(0, wkK k b (slV A ls.length c) (slV B lo.length c2)), (3, some (.box m0 (entryF x) 44))] rfl 7 rfl rfl ?_
    refine RunD.adv tb_ok (by kernel_rfl) [] rfl rfl (by simp [hptr] <;> omega) ?_
    refine RunD.loadS (i := 2) (slE A ls.length c) rfl (by kernel_rfl) rfl rfl rfl (fun w hst => load_wkK (hst.holds 0 _ rfl).2) rfl (fun _ h => h) ?_
    intro m4 hm4
    refine RunD.adv tb_ok (by kernel_rfl) [] rfl rfl (by simp [hptr] <;> omega) ?_
    refine RunD.storeK (i := 6) (κ := kEntry) (id := 1) (l := ls) (posOf ls x.path) x rfl (by kernel_rfl) rfl rfl rfl rfl rfl hpos rfl rfl rfl (fun _ h => h) ?_
    intro m5 hm5
    refine RunD.done (.inl rfl) (by kernel_rfl) ?_
    refine RunH.adv tb_ok [] rfl rfl (by simp <;> omega) ?_
    refine RunH.fin0 Tryz.func106 rfl fun w hst => ⟨(A, c), rfl, ?_⟩
    have : (ls.set (posOf ls x.path) x).length = ls.length := List.length_set
    have h := hst.out (J := fun u => K u ∧ True) (G := [(0, wkK k b (slV A ls.length c) (slV B lo.length c2)), (1, rowE kEntry A c (ls.set (posOf ls x.path) x)), (2, rowE kEntry B c2 lo)]) [] rfl rfl fun u h => ⟨h.1, trivial⟩
    rw [← this] at h
    exact h
  · have hsl : setL ls x = insL ls (posOf ls x.path) x := if_neg ha
    rw [hsl]
    refine RunH.adv tb_ok [false] rfl rfl (by simp [ha] <;> omega) ?_
    refine RunH.draw rfl [(3, some (.box m0 (entryF x) 44))] rfl 10 rfl rfl ?_
    refine RunD.adv tb_ok (by kernel_rfl) [] rfl rfl (by simp <;> omega) ?_
    refine RunD.two (i := 3) (j := 6) (by kernel_rfl) ?_ ?_
    · refine opD_go (i := 3) rfl rfl (OpGo.load (p := ⟨b, kOff k, none⟩) (slE A ls.length c) rfl rfl rfl (fun w hst => load_wkK (hst.holds 0 _ rfl).2)) 4 (fun _ => rfl) (fun _ _ h => h) ?_
      rintro ⟨⟩ m4 hm4
      refine RunD.adv tb_ok (by kernel_rfl) [] rfl rfl (by simp <;> omega) ?_
      refine RunD.step tb_ok (i := 6) rfl (by kernel_rfl) rfl rfl rfl (by simp [AllOb, Ob.P, sum_len, sz_sum, one_int, u8V_one]) rfl (fun _ h => h) ⟨rfl, rfl⟩ ?_
      refine RunD.adv tb_ok (by kernel_rfl) [] rfl rfl (by simp <;> omega) ?_
      refine RunD.doesB (i := 7) [(0, 1), (1, 4)] 6 (fun z : Option Addr × Nat => rowS 1 z.1 (insL ls (posOf ls x.path) x).length z.2) rfl (by kernel_rfl) rfl rfl rfl rfl Tryz.call114 (Insert_spec A _ c _ ls (posOf ls x.path) x (posOf_le _ _) hn) rfl rfl (fun _ => rfl) (fun _ => rfl) (fun _ _ => trivial) (fun _ => rfl) (fun _ h => h) ?_
      rintro ⟨A', c'⟩ m5 hm5
      refine RunD.adv tb_ok (by kernel_rfl) [] rfl rfl (by simp <;> omega) ?_
      refine RunD.storeS (i := 9) [(0, wkK k b (slV A' (insL ls (posOf ls x.path) x).length c') (slV B lo.length c2)), (1, rowE kEntry A' c' (insL ls (posOf ls x.path) x)), (2, rowE kEntry B c2 lo), (3, some (.box m0 (entryF x) 44))] rfl (by kernel_rfl) rfl rfl rfl (fun w _ hst => ?_) rfl (fun _ h => h.1) ?_
      · obtain ⟨w', q1, q2, q3⟩ := store_wkK (v := slV A' (insL ls (posOf ls x.path) x).length c') hst (id := 0) (k := k) (b := b) (vs := slV A ls.length c) (vo := slV B lo.length c2) rfl ⟨rfl, Tryz.t22, rfl, rfl⟩ rfl rfl
        exact ⟨w', q1, q2, q3.out [] rfl rfl fun _ h => h⟩
      intro m6 hm6
      refine RunD.done (.inl rfl) (by kernel_rfl) ?_
      refine RunH.adv tb_ok [] rfl rfl (by simp <;> omega) ?_
      refine RunH.fin0 Tryz.func106 rfl fun w hst => ⟨(A', c'), rfl, hst.out [] rfl rfl fun u h => ⟨h.1.1, trivial⟩⟩
    · refine opD_step tb_ok (nx := 4) (i := 6) rfl rfl rfl rfl (by simp [AllOb, Ob.P, sum_len, sz_sum, one_int, u8V_one]) rfl (fun _ h => h) ⟨rfl, rfl⟩ ?_
      refine RunD.loadS (i := 3) (slE A ls.length c) rfl (by kernel_rfl) rfl rfl rfl (fun w hst => load_wkK (hst.holds 0 _ rfl).2) rfl (fun _ h => h) ?_
      intro m4 hm4
      refine RunD.adv tb_ok (by kernel_rfl) [] rfl rfl (by simp <;> omega) ?_
      refine RunD.doesB (i := 7) [(0, 1), (1, 4)] 6 (fun z : Option Addr × Nat => rowS 1 z.1 (insL ls (posOf ls x.path) x).length z.2) rfl (by kernel_rfl) rfl rfl rfl rfl Tryz.call114 (Insert_spec A _ c _ ls (posOf ls x.path) x (posOf_le _ _) hn) rfl rfl (fun _ => rfl) (fun _ => rfl) (fun _ _ => trivial) (fun _ => rfl) (fun _ h => h) ?_
      rintro ⟨A', c'⟩ m5 hm5
      refine RunD.adv tb_ok (by kernel_rfl) [] rfl rfl (by simp <;> omega) ?_
      refine RunD.storeS (i := 9) [(0, wkK k b (slV A' (insL ls (posOf ls x.path) x).length c') (slV B lo.length c2)), (1, rowE kEntry A' c' (insL ls (posOf ls x.path) x)), (2, rowE kEntry B c2 lo), (3, some (.box m0 (entryF x) 44))] rfl (by kernel_rfl) rfl rfl rfl (fun w _ hst => ?_) rfl (fun _ h => h.1) ?_
      · obtain ⟨w', q1, q2, q3⟩ := store_wkK (v := slV A' (insL ls (posOf ls x.path) x).length c') hst (id := 0) (k := k) (b := b) (vs := slV A ls.length c) (vo := slV B lo.length c2) rfl ⟨rfl, Tryz.t22, rfl, rfl⟩ rfl rfl
        exact ⟨w', q1, q2, q3.out [] rfl rfl fun _ h => h⟩
      intro m6 hm6
      refine RunD.done (.inl rfl) (by kernel_rfl) ?_
      refine RunH.adv tb_ok [] rfl rfl (by simp <;> omega) ?_
      refine RunH.fin0 Tryz.func106 rfl fun w hst => ⟨(A', c'), rfl, hst.out [] rfl rfl fun u h => ⟨h.1.1, trivial⟩⟩
end Go.Proofs.YtagnkcdhenilbaaGreatDoor

/-
Lists that rise stay so; no program.
-/
namespace Go.Proofs.YtagnkcdhenilbaaGreatDoor
open V

theorem leS_of {a b : Str} (h : Go.Op.bytesLess a b = true) : leS b a = false := by
  unfold leS
  rw [Bool.or_eq_false_iff]
  refine ⟨?_, ?_⟩
  · cases hb : Go.Op.bytesLess b a with
    | false => rfl
    | true => exact absurd (less_trans h hb) (by rw [less_irrefl]; simp)
  · rw [decide_eq_false_iff_not]
    rintro rfl
    rw [less_irrefl] at h; cases h

theorem rises_pw {l : List Entry} : rises l = true ↔ l.Pairwise (fun x y => Go.Op.bytesLess x.path y.path = true) := by
  constructor
  · intro h
    rw [List.pairwise_iff_getElem]
    intro i j hi hj hij
    have := rises_lt h hij hj
    rwa [pathAt_eq l i hi, pathAt_eq l j hj] at this
  · intro h
    rw [List.pairwise_iff_getElem] at h
    refine rises_of fun i hi => ?_
    rw [pathAt_eq l i (by omega), pathAt_eq l (i + 1) hi]
    exact leS_of (h i (i + 1) (by omega) hi (by omega))

theorem rises_erase {l : List Entry} {i : Nat} (h : rises l = true) : rises (l.eraseIdx i) = true :=
  rises_pw.2 ((rises_pw.1 h).sublist (List.eraseIdx_sublist l i))

theorem rises_insL {l : List Entry} {x : Entry} (h : rises l = true) (ha : isAt l x.path = false) : rises (insL l (posOf l x.path) x) = true := by
  have hp := rises_pw.1 h
  have hlo : ∀ y ∈ l.take (posOf l x.path), Go.Op.bytesLess y.path x.path = true := by
    intro y hy
    obtain ⟨i, hi, rfl⟩ := List.mem_iff_getElem.1 hy
    rw [List.length_take] at hi
    rw [List.getElem_take]
    exact (posOf_iff h x.path i (by omega)).2 (by omega)
  have hhi : ∀ y ∈ l.drop (posOf l x.path), Go.Op.bytesLess x.path y.path = true := by
    intro y hy
    obtain ⟨i, hi, rfl⟩ := List.mem_iff_getElem.1 hy
    rw [List.length_drop] at hi
    rw [List.getElem_drop]
    have h1 : ¬ Go.Op.bytesLess l[posOf l x.path + i].path x.path = true := fun hc => by
      have := (posOf_iff h x.path _ (by omega)).1 hc
      omega
    cases hb : Go.Op.bytesLess x.path l[posOf l x.path + i].path with
    | true => rfl
    | false =>
      have he : l[posOf l x.path + i].path = x.path := less_total (by simpa using h1) hb
      exfalso
      have hpl : posOf l x.path < l.length := by omega
      cases i with
      | zero =>
        unfold isAt at ha
        rw [pathAt_eq l _ hpl] at ha
        simp only [Nat.add_zero] at he
        simp [hpl, he] at ha
      | succ i =>
        have h2 := rises_lt h (i := posOf l x.path) (j := posOf l x.path + (i + 1)) (by omega) (by omega)
        rw [pathAt_eq l _ hpl, pathAt_eq l _ (by omega), he] at h2
        have := (posOf_iff h x.path _ hpl).1 h2
        omega
  refine rises_pw.2 ?_
  unfold insL
  rw [List.pairwise_append]
  refine ⟨hp.sublist (List.take_sublist _ _), List.pairwise_cons.2 ⟨hhi, hp.sublist (List.drop_sublist _ _)⟩, ?_⟩
  intro a ha' b hb
  rcases List.mem_cons.1 hb with rfl | hb
  · exact hlo a ha'
  · exact less_trans (hlo a ha') (hhi b hb)

theorem rises_setL {l : List Entry} {x : Entry} (h : rises l = true) : rises (setL l x) = true := by
  unfold setL
  split
  · rename_i ha
    have hpos : posOf l x.path < l.length ∧ pathAt l (posOf l x.path) = x.path := by
      unfold isAt at ha
      simpa only [Bool.and_eq_true, decide_eq_true_eq] using ha
    have hx : ∀ i, pathAt (l.set (posOf l x.path) x) i = pathAt l i := by
      intro i
      by_cases hi : i < l.length
      · rw [pathAt_eq _ i (by rw [List.length_set]; exact hi), pathAt_eq l i hi, List.getElem_set]
        split
        · rename_i e; subst e; exact (hpos.2.symm.trans (pathAt_eq l _ hpos.1))
        · rfl
      · unfold pathAt
        rw [List.getD_eq_getElem?_getD, List.getD_eq_getElem?_getD, List.getElem?_eq_none (by rw [List.length_set]; omega), List.getElem?_eq_none (by omega)]
    refine rises_of fun i hi => ?_
    rw [hx, hx]
    rw [List.length_set] at hi
    exact rises_at h hi
  · rename_i ha
    exact rises_insL h (by simpa using ha)

theorem setL_le (l : List Entry) (x : Entry) : (setL l x).length ≤ l.length + 1 := by
  unfold setL
  split
  · rw [List.length_set]; omega
  · rw [insL_len l _ x (posOf_le _ _)]; exact Nat.le_refl _
end Go.Proofs.YtagnkcdhenilbaaGreatDoor

namespace Go.Proofs.YtagnkcdhenilbaaGreatDoor
open Go V

section
variable {P : Program} {f : Fr} {n : Nat} {S : Stops} {R : Ending → World → Prop} {B0 : Nat} {I : World → Prop} {H : Heap} {nx m : Nat} {env : SEnv} {todo : List Item}

/-- A namespace at work, told by the list of a kind, and the other one. -/
theorem V.RunH.toK {b c c2 : Nat} {A B : Option Addr} {t y : List Entry} (k : Int) (i j q : Nat) (h1 : lookH H i = wkE b (slV A t.length c) (slV B y.length c2)) (h2 : lookH H j = rowE kEntry A c t) (h3 : lookH H q = rowE kEntry B c2 y) (hij : i ≠ j) (hiq : i ≠ q) (hjq : j ≠ q)
    (h : RunH P f n tb B0 S R todo env ((i, wkK k b (slV (kA k A B) (kList k t y).length (kA k c c2)) (slV (kA k B A) (kList k y t).length (kA k c2 c))) :: (j, rowE kEntry (kA k A B) (kA k c c2) (kList k t y)) :: (q, rowE kEntry (kA k B A) (kA k c2 c) (kList k y t)) :: H) nx m I) :
    RunH P f n tb B0 S R todo env H nx m I := by
  intro w hm hst
  refine h w hm ?_
  by_cases hk : k = 1
  · subst hk
    refine hst.congr fun x z hx => ?_
    rw [lookH_cons, lookH_cons, lookH_cons] at hx
    split at hx
    · rename_i e; rw [← e, h1]; exact hx
    · split at hx
      · rename_i e; rw [← e, h2]; exact hx
      · split at hx
        · rename_i e; rw [← e, h3]; exact hx
        · exact hx
  · have e1 : kA k A B = B := if_neg hk
    have e2 : kA k c c2 = c2 := if_neg hk
    have e3 : kList k t y = y := if_neg hk
    have e4 : kA k B A = A := if_neg hk
    have e5 : kA k c2 c = c := if_neg hk
    have e6 : kList k y t = t := if_neg hk
    rw [e1, e2, e3, e4, e5, e6]
    have ew : wkK k b (slV B y.length c2) (slV A t.length c) = wkE b (slV A t.length c) (slV B y.length c2) := by
      unfold wkK kA; rw [if_neg hk, if_neg hk]
    rw [ew]
    refine hst.sel (τ := fun x => if x = j then q else if x = q then j else x) ⟨fun x z hx => ⟨z, ?_, rfl⟩, fun x x' z z' _ _ e => ?_⟩
    · rw [lookH_cons, lookH_cons, lookH_cons] at hx
      split at hx
      · rename_i e; subst e; rw [if_neg hij, if_neg hiq, h1]; exact hx
      · rename_i e0
        split at hx
        · rename_i e; subst e; rw [if_pos rfl, h3]; exact hx
        · rename_i e1
          split at hx
          · rename_i e; subst e; rw [if_neg (fun h => e1 h.symm), if_pos rfl, h2]; exact hx
          · rename_i e2; rw [if_neg (fun h => e1 h.symm), if_neg (fun h => e2 h.symm)]; exact hx
    · split at e <;> split at e <;> try split at e
      all_goals first | omega | (split at e <;> omega)
end

theorem load_spaceK {w : World} {b n c n2 c2 : Nat} {A B : Option Addr} {k : Int} (h : w.heap[b]? = some (.cells #[kA k (slV A n c) (slV B n2 c2), kA k (slV B n2 c2) (slV A n c)] 140)) :
    (loadVar 24 ⟨b, 0, none⟩).run Tryz.prog w = .ok (EV.st [.val (.slice (kA k A B) (kA k n n2) (kA k c c2)), .val (.slice (kA k B A) (kA k n2 n) (kA k c2 c))]).v w := by
  by_cases hk : k = 1
  · simp only [kA, if_pos hk] at h ⊢
    exact load_space h
  · simp only [kA, if_neg hk] at h ⊢
    exact load_space h

theorem has_K {w : World} {b c c2 : Nat} {A B : Option Addr} {k : Int} {ls lo : List Entry} (h : w.heap[b]? = some (.cells #[kA k (slV A ls.length c) (slV B lo.length c2), kA k (slV B lo.length c2) (slV A ls.length c)] 140))
    (hs : Sl kEntry w A c ls) (ho : Sl kEntry w B c2 lo) (hr : rises ls = true) (p : Str) : Gives Tryz.prog 105 [.pointer (some ⟨b, 0, none⟩), intV k, strV p] w (boolE (isAt ls p)) := by
  by_cases hk : k = 1
  · have e : kList k ls lo = ls := if_pos hk
    have := has_spec w b A B c c2 ls lo (by rw [h]; simp [kA, hk]) hs ho k (by rw [e]; exact hr) p
    rw [e] at this; exact this
  · have e : kList k lo ls = ls := if_neg hk
    have := has_spec w b B A c2 c lo ls (by rw [h]; simp [kA, hk]) ho hs k (by rw [e]; exact hr) p
    rw [e] at this; exact this

theorem full_K {w : World} {b c c2 : Nat} {A B : Option Addr} {k : Int} {ls lo : List Entry} (h : w.heap[b]? = some (.cells #[kA k (slV A ls.length c) (slV B lo.length c2), kA k (slV B lo.length c2) (slV A ls.length c)] 140)) :
    Gives Tryz.prog 122 [.pointer (some ⟨b, 0, none⟩), intV k] w (boolE (decide (300 ≤ ls.length))) := by
  by_cases hk : k = 1
  · have e : kList k ls lo = ls := if_pos hk
    have := full_spec w b A B c c2 ls lo (by rw [h]; simp [kA, hk]) k
    rw [e] at this; exact this
  · have e : kList k lo ls = ls := if_neg hk
    have := full_spec w b B A c2 c lo ls (by rw [h]; simp [kA, hk]) k
    rw [e] at this; exact this

theorem outK {B0 : Nat} {H : Heap} {I J : World → Prop} {w : World} {A B : Option Addr} {c c2 j q : Nat} {l o : List Entry} (k : Int) (hst : St tb B0 H I w) (h1 : lookH H j = rowE kEntry A c l) (h2 : lookH H q = rowE kEntry B c2 o) (hjq : j ≠ q) (hJ : ∀ u, I u → J u) :
    St tb B0 [(0, rowE kEntry (kA k A B) (kA k c c2) (kA k l o)), (1, rowE kEntry (kA k B A) (kA k c2 c) (kA k o l))] J w := by
  have hn : ∀ a b : Nat, a ≠ b → nodupN [a, b] = true := fun a b h => by
    have : Nat.beq a b = false := by
      cases hb : Nat.beq a b
      · rfl
      · exact absurd (Nat.eq_of_beq_eq_true hb) h
    simp [nodupN, this]
  by_cases hk : k = 1
  · simp only [kA, if_pos hk]
    exact hst.out [(0, j), (1, q)] (by show [Option.map _ (lookH H j), Option.map _ (lookH H q)] = _; rw [h1, h2]; rfl) (hn j q hjq) hJ
  · simp only [kA, if_neg hk]
    exact hst.out [(0, q), (1, j)] (by show [Option.map _ (lookH H q), Option.map _ (lookH H j)] = _; rw [h1, h2]; rfl) (hn q j (Ne.symm hjq)) hJ

theorem kA_len {α : Type} (k : Int) (l o : List α) : (kA k l o).length = kA k l.length o.length := by unfold kA; split <;> rfl

/-- What an edit makes. -/
def edT (e k : Int) (l o : List Entry) : List Entry := if e = 0 then kA k l o else []
def edY (e k : Int) (l o : List Entry) : List Entry := if e = 0 then kA k o l else []

def addE (t y : List Entry) (k : Int) (p : Str) : Int := if askE t y k [p] = 0 then (if isAt (kList k t y) p = true then 5 else if 300 ≤ (kList k t y).length then 12 else 0) else askE t y k [p]

theorem Add_spec (s : Spc) (k : Int) (p : Str) (x : Sum) (h1 : s.t.l.length ≤ 1000000) (h2 : s.y.l.length ≤ 1000000) :
    Does Tryz.prog tb 46 [s.ev.v, intV k, strV p, sumV x] [] (fun u => MaxLen u ∧ s.ok u)
      (fun z : (Option Addr × Nat) × (Option Addr × Nat) => .tuple #[.agg #[.slice z.1.1 (edT (addE s.t.l s.y.l k p) k (setL (kList k s.t.l s.y.l) ⟨p, x⟩) (kList k s.y.l s.t.l)).length z.1.2, .slice z.2.1 (edY (addE s.t.l s.y.l k p) k (setL (kList k s.t.l s.y.l) ⟨p, x⟩) (kList k s.y.l s.t.l)).length z.2.2], intV (addE s.t.l s.y.l k p)])
      (fun z => [(0, rowE kEntry z.1.1 z.1.2 (edT (addE s.t.l s.y.l k p) k (setL (kList k s.t.l s.y.l) ⟨p, x⟩) (kList k s.y.l s.t.l))), (1, rowE kEntry z.2.1 z.2.2 (edY (addE s.t.l s.y.l k p) k (setL (kList k s.t.l s.y.l) ⟨p, x⟩) (kList k s.y.l s.t.l)))]) (fun _ _ _ => True) := by
  have hl : lim = 140737488351232 := rfl
  refine Does.enter tb_ok [(0, s.ev), (1, intE k), (2, strE p), (3, sumE x)] Tryz.func46 rfl Tryz.ntmps46 rfl rfl 0 ?_
  intro B0 m0 K
  generalize hre : addE s.t.l s.y.l k p = e
  refine RunH.adv tb_ok [] rfl rfl (by simp <;> omega) ?_
  by_cases hk : kindE s.t.l s.y.l k = 0
  · have hsub := kList_sub hk
    refine RunH.doesB [] 7 (hc := Tryz.call88) (ho := rfl) (hw := rfl) (hd := rfl) (hf := rfl) (hes := rfl) (hσ := rfl) (hn := rfl) (hV := fun _ => rfl) (hG := fun _ => rfl) (e := fun z : Nat × (Option Addr × Nat) × (Option Addr × Nat) => .av (.val (.tuple #[.pointer (some ⟨z.1, 0, none⟩), intV (pathsE [p])]))) (hC := kinded_ok s k _ _ [p] hk h1 h2) (hp := fun u hu => ⟨hu.fact.2.1, hu.fact.2.2, Sl.own (B := B0) (hu.row (κ := kStr) (l := [p]) (id := 3) rfl) (by simp [hl])⟩) ?_
    rintro ⟨b, ⟨A, c⟩, ⟨B, c2⟩⟩ m1 hm1
    refine RunH.drop ?_
    refine RunH.toK k 4 5 6 (b := b) (A := A) (c := c) (B := B) (c2 := c2) (t := s.t.l) (y := s.y.l) rfl rfl rfl (by decide) (by decide) (by decide) ?_
    have ho1 : (kList k s.y.l s.t.l).length ≤ 1000000 := by unfold kList; split <;> assumption
    generalize hLL : kList k s.t.l s.y.l = L at *
    generalize hOO : kList k s.y.l s.t.l = O at *
    have hk12 := (kindE_rises hk).2.2.1
    generalize kA k A B = As at *
    generalize kA k B A = Ao at *
    generalize kA k c c2 = cs at *
    generalize kA k c2 c = co at *
    have hT0 : ∀ e l, e ≠ 0 → edT e k l O = [] ∧ edY e k l O = [] := fun e l h => ⟨if_neg h, if_neg h⟩
    by_cases hp : pathsE [p] = 0
    · have hask : askE s.t.l s.y.l k [p] = 0 := by unfold askE; rw [if_pos hk]; exact hp
      refine RunH.adv tb_ok [false] rfl rfl (by simp [hp] <;> omega) ?_
      have hE : e = if isAt L p = true then 5 else if 300 ≤ L.length then 12 else 0 := by rw [← hre]; unfold addE; rw [if_pos hask, hLL]
      refine RunH.gives (ho := rfl) (hw := rfl) (hd := rfl) (hf := rfl) (hes := rfl) (hc := Tryz.call105) (e := boolE (isAt L p)) (hC := fun w hst => has_K (hst.holds 4 _ rfl).2 (Sl.own (hst.row (κ := kEntry) (id := 5) rfl) (by omega)) (Sl.own (hst.row (κ := kEntry) (id := 6) rfl) (by omega)) hsub.1 p) ?_
      intro m2 hm2
      by_cases ha : isAt L p = true
      · rw [if_pos ha] at hE
        subst hE
        refine RunH.adv tb_ok [true] rfl rfl (by simp [ha] <;> omega) ?_
        refine RunH.nilrow 20 kEntry.T kEntry.sz 21 ?_
        refine RunH.nilrow 21 kEntry.T kEntry.sz 22 ?_
        refine RunH.retBoxT tb_ok nilSp Tryz.func46 rfl rfl rfl rfl rfl fun w hst => ⟨((none, 0), (none, 0)), by rw [(hT0 _ _ (by decide)).1, (hT0 _ _ (by decide)).2]; rfl, by rw [(hT0 _ _ (by decide)).1, (hT0 _ _ (by decide)).2]; exact hst.out [(0, 20), (1, 21)] rfl rfl fun u h => ⟨h.1, trivial⟩⟩
      · rw [if_neg ha] at hE
        refine RunH.adv tb_ok [false] rfl rfl (by simp [ha] <;> omega) ?_
        refine RunH.gives (ho := rfl) (hw := rfl) (hd := rfl) (hf := rfl) (hes := rfl) (hc := Tryz.call122) (e := boolE (decide (300 ≤ L.length))) (hC := fun w hst => full_K (hst.holds 4 _ rfl).2) ?_
        intro m3 hm3
        by_cases hf : 300 ≤ L.length
        · rw [if_pos hf] at hE
          subst hE
          refine RunH.adv tb_ok [true] rfl rfl (by simp [hf] <;> omega) ?_
          refine RunH.nilrow 20 kEntry.T kEntry.sz 21 ?_
          refine RunH.nilrow 21 kEntry.T kEntry.sz 22 ?_
          refine RunH.retBoxT tb_ok nilSp Tryz.func46 rfl rfl rfl rfl rfl fun w hst => ⟨((none, 0), (none, 0)), by rw [(hT0 _ _ (by decide)).1, (hT0 _ _ (by decide)).2]; rfl, by rw [(hT0 _ _ (by decide)).1, (hT0 _ _ (by decide)).2]; exact hst.out [(0, 20), (1, 21)] rfl rfl fun u h => ⟨h.1, trivial⟩⟩
        · rw [if_neg hf] at hE
          subst hE
          refine RunH.adv tb_ok [false] rfl rfl (by simp [hf] <;> omega) ?_
          refine RunH.doesB [(0, 4), (1, 5), (2, 6)] 10 (hc := Tryz.call106) (ho := rfl) (hw := rfl) (hd := rfl) (hf := rfl) (hes := rfl) (hσ := rfl) (hn := rfl) (hV := fun _ => rfl) (hG := fun _ => rfl) (e := fun _ : Option Addr × Nat => .av (.val (.tuple #[]))) (hC := set_spec k b L O (As, cs) (Ao, co) ⟨p, x⟩ (by omega) hsub.1) (hp := fun _ _ => trivial) ?_
          rintro ⟨A', c'⟩ m4 hm4
          refine RunH.drop ?_
          refine RunH.adv tb_ok [] rfl rfl (by simp <;> omega) ?_
          generalize hL' : setL L ⟨p, x⟩ = L' at *
          refine RunH.loadS (.st [.val (.slice (kA k A' Ao) (kA k L'.length O.length) (kA k c' co)), .val (.slice (kA k Ao A') (kA k O.length L'.length) (kA k co c'))]) rfl rfl rfl rfl (fun w hst => load_spaceK (hst.holds 4 _ rfl).2) ?_
          refine RunH.adv tb_ok [] rfl rfl (by simp <;> omega) ?_
          refine RunH.retBoxT tb_ok (.st [.val (.slice (kA k A' Ao) (kA k L'.length O.length) (kA k c' co)), .val (.slice (kA k Ao A') (kA k O.length L'.length) (kA k co c'))]) Tryz.func46 rfl rfl rfl rfl rfl fun w hst => ⟨((kA k A' Ao, kA k c' co), (kA k Ao A', kA k co c')), ?_, ?_⟩
          · rw [← kA_len, ← kA_len]; rfl
          · exact outK k hst (j := 5) (q := 6) rfl rfl (by decide) fun u h => ⟨h.1, trivial⟩
    · have hask : askE s.t.l s.y.l k [p] = pathsE [p] := if_pos hk
      have hE : e = pathsE [p] := by rw [← hre]; unfold addE; rw [hask, if_neg hp]
      subst hE
      refine RunH.adv tb_ok [true] rfl rfl (by simp [hp] <;> omega) ?_
      refine RunH.nilrow 20 kEntry.T kEntry.sz 21 ?_
      refine RunH.nilrow 21 kEntry.T kEntry.sz 22 ?_
      refine RunH.retBoxT tb_ok nilSp Tryz.func46 rfl rfl rfl rfl rfl fun w hst => ⟨((none, 0), (none, 0)), by rw [(hT0 _ _ (hp)).1, (hT0 _ _ (hp)).2]; rfl, by rw [(hT0 _ _ (hp)).1, (hT0 _ _ (hp)).2]; exact hst.out [(0, 20), (1, 21)] rfl rfl fun u h => ⟨h.1, trivial⟩⟩
  · have hask : askE s.t.l s.y.l k [p] = kindE s.t.l s.y.l k := if_neg hk
    have hE : e = kindE s.t.l s.y.l k := by rw [← hre]; unfold addE; rw [hask, if_neg hk]
    subst hE
    have hT0 : ∀ e l, e ≠ 0 → edT e k l (kList k s.y.l s.t.l) = [] ∧ edY e k l (kList k s.y.l s.t.l) = [] := fun e l h => ⟨if_neg h, if_neg h⟩
    refine RunH.gives (ho := rfl) (hw := rfl) (hd := rfl) (hf := rfl) (hes := rfl) (hc := Tryz.call88) (e := .av (.val (.tuple #[.pointer none, intV (kindE s.t.l s.y.l k)]))) (hC := fun w' hst => kinded_bad w' hst.fact.2.1 s hst.fact.2.2 k _ _ _ hk) ?_
    intro m1 hm1
    refine RunH.adv tb_ok [true] rfl rfl (by simp [hk] <;> omega) ?_
    refine RunH.nilrow 20 kEntry.T kEntry.sz 21 ?_
    refine RunH.nilrow 21 kEntry.T kEntry.sz 22 ?_
    refine RunH.retBoxT tb_ok nilSp Tryz.func46 rfl rfl rfl rfl rfl fun w hst => ⟨((none, 0), (none, 0)), by rw [(hT0 _ _ (hk)).1, (hT0 _ _ (hk)).2]; rfl, by rw [(hT0 _ _ (hk)).1, (hT0 _ _ (hk)).2]; exact hst.out [(0, 20), (1, 21)] rfl rfl fun u h => ⟨h.1, trivial⟩⟩
end Go.Proofs.YtagnkcdhenilbaaGreatDoor
