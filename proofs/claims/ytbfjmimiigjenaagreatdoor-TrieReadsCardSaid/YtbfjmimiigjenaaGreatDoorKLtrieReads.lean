/-
A part of the proof of TrieReads: for every input the law returns true, and what was passed in reads as before; the listed package variables hold what the program's text lays. No further condition.
-/
import Derived.Test.YtbfjmimiigjenaaGreatDoorRows
import Derived.Test.YtbfjmimiigjenaaGreatDoorCards
import Derived.KernelRfl
import Derived.Test.YtbfjmimiigjenaaGreatDoorTie
import Derived.SevenTiedAt
import Derived.Test.YtbfjmimiigjenaaGreatDoorKQ39
import Derived.Test.YtbfjmimiigjenaaGreatDoorKLtrieTogether
import Derived.Test.YtbfjmimiigjenaaGreatDoorKR1
set_option linter.unusedVariables false
set_option linter.unusedSectionVars false
set_option linter.unusedSimpArgs false
namespace Go.Proofs.YtbfjmimiigjenaaGreatDoor
open Go V RowKit
abbrev u16V (x : UInt16) : Value := .int .u16 x.toNat
theorem xor_raw (x y : UInt8) : IntKind.u8.wrap ((BitVec.ofInt IntKind.u8.bits (x.toNat : Int) ^^^ BitVec.ofInt IntKind.u8.bits (y.toNat : Int)).toNat : Int) = (((x ^^^ y).toNat : Nat) : Int) := by
  have hx := x.toNat_lt
  have hy := y.toNat_lt
  have h2 : (BitVec.ofInt IntKind.u8.bits (x.toNat : Int) ^^^ BitVec.ofInt IntKind.u8.bits (y.toNat : Int)).toNat = (x ^^^ y).toNat := by
    rw [BitVec.toNat_xor, BitVec.ofInt_natCast, BitVec.ofInt_natCast, BitVec.toNat_ofNat, BitVec.toNat_ofNat, UInt8.toNat_xor]
    simp only [IntKind.bits]
    rw [Nat.mod_eq_of_lt (by omega), Nat.mod_eq_of_lt (by omega)]
  rw [h2]
  have := (x ^^^ y).toNat_lt
  generalize (x ^^^ y).toNat = n at *
  simp [IntKind.wrap, IntKind.signed, IntKind.bits]
  omega
def chB (x : UInt8) : UInt8 := if x.toNat = 0 then 1 else x
theorem chB_ne (x : UInt8) : chB x ≠ 0 := by
  unfold chB
  split
  · decide
  · rename_i h
    intro e
    rw [e] at h
    exact h rfl
theorem xor_ne {x y : UInt8} (h : y ≠ 0) : x ^^^ y ≠ x := fun e => h (by
  have : x ^^^ (x ^^^ y) = x ^^^ x := by rw [e]
  simpa [← UInt8.xor_assoc] using this)
theorem set_ne {l : List UInt8} {k : Nat} (hk : k < l.length) {x : UInt8} (h : x ≠ l[k]) : l.set k x ≠ l := fun e => h (by
  have := congrArg (fun m => m[k]?) e
  simp [hk] at this
  exact this)
set_option maxRecDepth 10000 in
set_option maxHeartbeats 400000 in
theorem reads_walk (w : World) (hG : Glob w) (NA : Option Addr) (nc : Nat) (nl : List UInt8) (hnl : Sl kByte w NA nc nl) (at_ : UInt16) (by_ : UInt8) :
    Gives Tryz.prog 6 [.slice NA nl.length nc, u16V at_, u8V by_] w .tt := by
  have hlim : lim = 140737488351232 := rfl
  have hz31 : (Tryz.t31).size = 1 := by kernel_rfl
  refine enterH tb_ok [(0, slE NA nl.length nc), (1, .av (.val (u16V at_))), (2, .av (.val (u8V by_)))] Tryz.func6 rfl Tryz.ntmps6 rfl rfl ?_
  refine RunH.adv tb_ok [] rfl rfl (by simp <;> omega) ?_
  refine RunH.doesB [] 2 (hc := Tryz.call15) (ho := rfl) (hw := rfl) (hd := rfl) (hf := rfl) (hes := rfl) (hσ := rfl) (hn := rfl) (hV := fun _ => rfl) (hG := fun _ => rfl) (e := fun y : Nat × Option Addr × Nat => .av (.box 0 y.1 0)) (hC := OfK_spec NA nc nl) (hp := fun u hu => hnl.ext hu.fact) ?_
  rintro ⟨b, SA, sc⟩ m1 hm1
  refine RunH.drop ?_
  refine RunH.adv tb_ok [] rfl rfl (by simp <;> omega) ?_
  refine RunH.doesB [(0, 0)] 5 (hc := Tryz.call16) (ho := rfl) (hw := rfl) (hd := rfl) (hf := rfl) (hes := rfl) (hσ := rfl) (hn := rfl) (hV := fun _ => rfl) (hG := fun _ => rfl) (e := fun y : (Nat × Int) × (Option Addr × Nat) × (Option Addr × Nat) × List Str × List Sum => .av (.val (.tuple #[.slice y.2.1.1 y.2.2.2.1.length y.2.1.2, .slice y.2.2.1.1 y.2.2.2.2.length y.2.2.1.2]))) (hC := filled_spec b ⟨SA, sc, nl.take 300, 0, 88172645463325252⟩ (by rw [List.length_take]; omega) (Nat.zero_le _) 12 (by decide)) (hp := fun u hu => Sl.own (B := w.heap.size) (hu.row (κ := kByte) (l := nl.take 300) (id := 1) rfl) (by rw [List.length_take]; omega)) ?_
  rintro ⟨z1, ⟨A, c⟩, ⟨B, d⟩, names, sums⟩ m2 hm2
  refine RunH.pure (fun u h => h.2) fun ⟨⟨hnd, hnm, hn20⟩, hsl, _⟩ => ?_
  dsimp only at hnd hnm hn20 hsl
  refine RunH.drop ?_
  dsimp only
  refine RunH.tell [(1, .av (.val (u16V at_))), (2, .av (.val (u8V by_))), (22, .av (.val (.tuple #[.slice A names.length c, .slice B sums.length d])))] [(3, rowE kStr A c names), (4, rowE kSum B d sums)] [] rfl rfl rfl 5 ?_
  refine RunH.free (i := 3) rfl ?_
  refine RunH.free (i := 4) rfl ?_
  refine V.RunH.know (fun u => Ext w u ∧ Sl kStr u A c names ∧ Sl kSum u B d sums) (fun u h => ⟨h.1.1, Sl.own h.1.2 (by omega), Sl.own h.2 (by omega)⟩) ?_
  have hzf := zip_fst hsl
  generalize hP : names.zip sums = P at hzf
  have hPl : P.length = names.length := by rw [← hP, List.length_zip]; omega
  have hdP : (P.map Prod.fst).Nodup := hzf ▸ hnd
  have hP60 : ∀ e ∈ P, e.1.length ≤ 60 := fun e he => by
    have h1 : e.1 ∈ names := by rw [← hzf]; exact List.mem_map.2 ⟨e, he, rfl⟩
    have := (hnm _ h1).1; omega
  have hAll := from_all (N := 60) P (by decide) hP60 (by omega)
  have okP := hAll.1
  have lowP : lowO 1000 (fromO P) := fun n x hx => Nat.le_trans (hAll.2.1 n x hx) (by decide)
  have mnP : manyO (fromO P) ≤ 12 := Nat.le_trans hAll.2.2 (by omega)
  have hdec := dec_enc (wf_from P) hAll.2.1 (by omega)
  have hbl : (encL (fromO P)).length ≤ 2 + 1033 * 12 := by
    have h1 := encB_len (entsO (fromO P)) (ents_short okP lowP)
    rw [entsO_many] at h1
    unfold encL
    rw [List.length_append]
    show 2 + _ ≤ _
    have : 1033 * manyO (fromO P) ≤ 1033 * 12 := Nat.mul_le_mul_left _ mnP
    omega
  have hb2 : 2 ≤ (encL (fromO P)).length := by unfold encL twoL; simp
  have hFrom := From_spec A c names B d sums
  rw [from_ok hsl (by omega) hnd (fun n hn => by have := (hnm n hn).1; omega), if_pos rfl, hP] at hFrom
  refine RunH.adv tb_ok [] rfl rfl (by simp <;> omega) ?_
  refine RunH.doesB [] 5 (hc := Tryz.call17) (ho := rfl) (hw := rfl) (hd := rfl) (hf := rfl) (hes := rfl) (hσ := rfl) (hn := rfl) (hV := fun _ => rfl) (hG := fun _ => rfl) (e := fun o : Option Plot => .av (.val (.tuple #[.agg #[ptrO o], intV 0]))) (hC := hFrom) (hp := fun u hu => ⟨hG.ext hu.fact.1, hu.fact.2.1, hu.fact.2.2⟩) ?_
  intro pw m3 hm3
  refine V.RunH.know (fun u => (Ext w u ∧ Sl kStr u A c names ∧ Sl kSum u B d sums) ∧ IsO u pw (fromO P)) (fun u h => ⟨h.1, h.2.now trivial⟩) ?_
  refine RunH.adv tb_ok [] rfl rfl (by simp [hz31, Value.oneCell'] <;> omega) ?_
  refine V.RunH.slotE 29 (mapE pw) rfl rfl ?_
  refine RunH.adv tb_ok [] rfl rfl (by simp [hz31, Value.oneCell'] <;> omega) ?_
  refine RunH.doesB [] 7 (hc := Tryz.call44) (ho := rfl) (hw := rfl) (hd := rfl) (hf := rfl) (hes := rfl) (hσ := rfl) (hn := rfl) (hV := fun _ => rfl) (hG := fun _ => rfl) (e := fun y : Option Addr × Nat => slE y.1 (encL (fromO P)).length y.2) (hC := Encode_spec pw (fromO P) okP lowP (by omega)) (hp := fun u hu => hu.fact.2) ?_
  rintro ⟨EA, ec⟩ m4 hm4
  generalize hbs : encL (fromO P) = bs at *
  refine V.RunH.know (fun u => (((Ext w u ∧ Sl kStr u A c names ∧ Sl kSum u B d sums) ∧ IsO u pw (fromO P)) ∧ Sl kByte u EA ec bs)) (fun u h => ⟨h.1, h.2.now trivial⟩) ?_
  have hD1 := Decode_spec EA ec bs (by omega)
  rw [hdec] at hD1
  refine RunH.adv tb_ok [] rfl rfl (by simp [hz31, Value.oneCell'] <;> omega) ?_
  refine RunH.doesB [] 8 (hc := Tryz.call45) (ho := rfl) (hw := rfl) (hd := rfl) (hf := rfl) (hes := rfl) (hσ := rfl) (hn := rfl) (hV := fun _ => rfl) (hG := fun _ => rfl) (e := fun o : Option Plot => .av (.val (.tuple #[.agg #[ptrO o], intV 0, intV 0]))) (hC := hD1) (hp := fun u hu => ⟨hG.ext hu.fact.1.1.1, hu.fact.2⟩) ?_
  rintro pb m5 hm5
  refine V.RunH.know (fun u => ((((Ext w u ∧ Sl kStr u A c names ∧ Sl kSum u B d sums) ∧ IsO u pw (fromO P)) ∧ Sl kByte u EA ec bs)) ∧ IsO u pb (fromO P)) (fun u h => ⟨h.1, h.2.now trivial⟩) ?_
  refine RunH.adv tb_ok [] rfl rfl (by simp [hz31, Value.oneCell'] <;> omega) ?_
  refine V.RunH.slotE 36 (mapE pb) rfl rfl ?_
  refine RunH.adv tb_ok [false, false, false] rfl rfl (by simp [hz31, Value.oneCell'] <;> omega) ?_
  refine RunH.gives (ho := rfl) (hw := rfl) (hd := rfl) (hf := rfl) (hes := rfl) (hc := Tryz.call23) (e := boolE true) (hC := fun u hu => same_self u pb pw (fromO P) hu.fact.2 hu.fact.1.1.2 okP lowP) ?_
  intro m6 hm6
  refine RunH.adv tb_ok [false, false] rfl rfl (by simp; omega) ?_
  refine RunH.doesB [] 20 (hc := Tryz.call37) (ho := rfl) (hw := rfl) (hd := rfl) (hf := rfl) (hes := rfl) (hσ := rfl) (hn := rfl) (hV := fun _ => rfl) (hG := fun _ => rfl) (e := fun y : Option Addr × Nat => rowS 9 y.1 bs.length y.2) (hC := bClone_spec EA ec bs (by omega)) (hp := fun u hu => hu.fact.1.2) ?_
  rintro ⟨XA, xc⟩ m7 hm7
  refine RunH.drop ?_
  dsimp only
  have ha16 : at_.toNat < 65536 := at_.toNat_lt
  have hk : at_.toNat % bs.length < bs.length := Nat.mod_lt _ (by omega)
  have hr1 := rem_nat at_.toNat bs.length
  refine RunH.pureS (fun u hu => hu.ptr (id := 9) (κ := kByte) (l := bs) rfl (by intro e; rw [e] at hb2; simp at hb2)) fun pX => ?_
  refine RunH.adv tb_ok [] rfl rfl (by simp; exact ⟨pX, ⟨by omega, by omega⟩, ⟨by omega, by omega⟩, by omega⟩) ?_
  rw [hr1, Int.toNat_natCast]
  refine RunH.loadS (byE bs[at_.toNat % bs.length]) rfl rfl rfl rfl (fun u hu => (Sl.own (B := w.heap.size) (hu.row (κ := kByte) (l := bs) (id := 9) rfl) (by omega)).load hk) ?_
  refine RunH.adv tb_ok [] rfl rfl (by simp <;> omega) ?_
  refine RunH.read (byE (chB by_)) rfl rfl rfl rfl (fun u q _ ha => ?_) ?_
  · have e1 : q.eval (.tmp 70) = u8V by_ := ev_run (e := byE by_) ha rfl
    have e2 : q.eval (.const (.int .u8 1)) = .int .u8 1 := rfl
    have e3 : (Builtin.max_ #[5, 5] 5 #[u8V by_, .int .u8 1]).run Tryz.prog u = .ok (u8V (chB by_)) u := by
      unfold chB u8V
      by_cases h0 : by_.toNat = 0
      · simp [Builtin.max_, Builtin.max2, h0]
      · have : ¬ (1 : Int) > (by_.toNat : Int) := by omega
        simp [Builtin.max_, Builtin.max2, h0, this]
    simp only [execOp, resolve, invoke, builtin, Sem.run_bind, Sem.run_pure, Result.andThen_ok, List.map_toArray, List.map_cons, List.map_nil, e1, e2, e3]
    rfl
  refine RunH.adv tb_ok [] rfl rfl (by simp; exact ⟨pX, by omega⟩) ?_
  rw [xor_raw, Int.toNat_natCast]
  refine RunH.storeK (κ := kByte) (id := 9) (l := bs) (at_.toNat % bs.length) (bs[at_.toNat % bs.length] ^^^ chB by_) rfl rfl rfl rfl rfl rfl hk rfl rfl ?_
  intro m8 hm8
  have hxl : (bs.set (at_.toNat % bs.length) (bs[at_.toNat % bs.length] ^^^ chB by_)).length = bs.length := List.length_set
  have hxn := set_ne hk (xor_ne (x := bs[at_.toNat % bs.length]) (chB_ne by_))
  generalize bs.set (at_.toNat % bs.length) (bs[at_.toNat % bs.length] ^^^ chB by_) = xs at *
  have hD2 := Decode_spec XA xc xs (by omega)
  rw [hxl] at hD2
  refine RunH.adv tb_ok [] rfl rfl (by simp <;> omega) ?_
  refine RunH.doesB [] 20 (hc := Tryz.call45) (ho := rfl) (hw := rfl) (hd := rfl) (hf := rfl) (hes := rfl) (hσ := rfl) (hn := rfl) (hV := fun _ => rfl) (hG := fun _ => rfl) (e := fun o : Option Plot => .av (.val (.tuple #[.agg #[ptrO o], intV (decL xs).2.1, intV (decL xs).2.2]))) (hC := hD2) (hp := fun u hu => ⟨hG.ext hu.fact.1.1.1.1, Sl.own (B := w.heap.size) (hu.row (κ := kByte) (l := xs) (id := 9) rfl) (by omega)⟩) ?_
  rintro po m9 hm9
  refine V.RunH.know (fun u => (((((Ext w u ∧ Sl kStr u A c names ∧ Sl kSum u B d sums) ∧ IsO u pw (fromO P)) ∧ Sl kByte u EA ec bs) ∧ IsO u pb (fromO P)) ∧ IsO u po (decL xs).1)) (fun u h => ⟨h.1, h.2.now trivial⟩) ?_
  obtain ⟨o, kk, er, hdx⟩ : ∃ o kk er, decL xs = (o, kk, er) := ⟨_, _, _, rfl⟩
  rw [hdx]
  dsimp only
  refine RunH.adv tb_ok [] rfl rfl (by simp [hz31, Value.oneCell'] <;> omega) ?_
  refine V.RunH.slotE 77 (mapE po) rfl rfl ?_
  by_cases he : er = 0
  · subst he
    obtain ⟨rfl, henc, wfo, lowo, mno, es, hes, hesl, hes60⟩ := dec_ok hdx
    have hAo := from_all (N := 60) es (by decide) hes60 (by omega)
    rw [← hes] at hAo
    have oko := hAo.1
    have low1 : lowO 1000 o := fun n x hx => Nat.le_trans (lowo n x hx) (by decide)
    have hne : ¬ entsO o = entsO (fromO P) := fun e => hxn (by
      have h1 : o = fromO P := entsO_inj wfo (wf_from P) e
      rw [← henc, h1, hbs])
    refine RunH.adv tb_ok [false, true, true] rfl rfl (by simp [hz31, Value.oneCell'] <;> omega) ?_
    refine RunH.gives (ho := rfl) (hw := rfl) (hd := rfl) (hf := rfl) (hes := rfl) (hc := Tryz.call23) (e := boolE false) (hC := fun u hu => by
      have h := TSame_spec u po o pw (fromO P) hu.fact.2 oko low1 hu.fact.1.1.1.2 okP lowP
      rw [decide_eq_false hne] at h
      exact h) ?_
    intro n1 hn1
    refine RunH.adv tb_ok [true, true] rfl rfl (by simp [hz31, Value.oneCell'] <;> omega) ?_
    refine RunH.doesB [] 30 (hc := Tryz.call44) (ho := rfl) (hw := rfl) (hd := rfl) (hf := rfl) (hes := rfl) (hσ := rfl) (hn := rfl) (hV := fun _ => rfl) (hG := fun _ => rfl) (e := fun y : Option Addr × Nat => slE y.1 (encL o).length y.2) (hC := Encode_spec po o oko low1 (by omega)) (hp := fun u hu => hu.fact.2) ?_
    rintro ⟨FA, fc⟩ n2 hn2
    rw [henc, hxl]
    refine V.RunH.know (fun u => ((((((Ext w u ∧ Sl kStr u A c names ∧ Sl kSum u B d sums) ∧ IsO u pw (fromO P)) ∧ Sl kByte u EA ec bs) ∧ IsO u pb (fromO P)) ∧ IsO u po o) ∧ Sl kByte u FA fc xs)) (fun u h => ⟨h.1, h.2.now trivial⟩) ?_
    refine RunH.pure (fun u h => (h.2.ptr (i := 0) (by omega) : Ptr FA)) fun pF => ?_
    refine RunH.adv tb_ok [] rfl rfl (by simp [hz31, Value.oneCell'] <;> omega) ?_
    refine RunH.gives (ho := rfl) (hw := rfl) (hd := rfl) (hf := rfl) (hes := rfl) (hc := Tryz.call46) (e := boolE true) (hC := fun u hu => by
      have h := bEqual_spec u FA XA fc xc xs xs hu.fact.2 (Sl.own (B := w.heap.size) (hu.row (κ := kByte) (l := xs) (id := 9) rfl) (by omega)) pF pX
      rw [decide_eq_true rfl] at h
      rw [hxl] at h
      exact h) ?_
    intro n3 hn3
    refine RunH.adv tb_ok [true] rfl rfl (by simp [hz31, Value.oneCell'] <;> omega) ?_
    refine RunH.gives (ho := rfl) (hw := rfl) (hd := rfl) (hf := rfl) (hes := rfl) (hc := Tryz.call30) (e := .tt) (hC := fun u hu => awake_spec u (hG.ext hu.fact.1.1.1.1.1.1)) ?_
    intro n4 hn4
    refine RunH.adv tb_ok [] rfl rfl (by simp <;> omega) ?_
    refine RunH.ret1 Tryz.func6 rfl rfl fun w hst => ⟨rfl, hst.fact.1.1.1.1.1.1⟩
  · obtain ⟨rfl, hk0, hk1⟩ := dec_bad hdx he
    rw [hxl] at hk1
    refine RunH.adv tb_ok [true, true, true] rfl rfl (by simp [hz31, Value.oneCell', he, hk0] <;> omega) ?_
    refine RunH.gives (ho := rfl) (hw := rfl) (hd := rfl) (hf := rfl) (hes := rfl) (hc := Tryz.call25) (e := intE 0) (hC := fun u hu => Many_spec u po none hu.fact.2) ?_
    intro n1 hn1
    refine RunH.adv tb_ok [true] rfl rfl (by simp [hz31, Value.oneCell'] <;> omega) ?_
    refine RunH.gives (ho := rfl) (hw := rfl) (hd := rfl) (hf := rfl) (hes := rfl) (hc := Tryz.call30) (e := .tt) (hC := fun u hu => awake_spec u (hG.ext hu.fact.1.1.1.1.1)) ?_
    intro n4 hn4
    refine RunH.adv tb_ok [] rfl rfl (by simp <;> omega) ?_
    refine RunH.ret1 Tryz.func6 rfl rfl fun w hst => ⟨rfl, hst.fact.1.1.1.1.1⟩
end Go.Proofs.YtbfjmimiigjenaaGreatDoor
namespace Go.Proofs.YtbfjmimiigjenaaGreatDoor
open Go V RowKit Go.ChangeShapes Go.WideShapes Go.ChangeAt
set_option maxRecDepth 100000 in
theorem trieReads_lifted (os : Os) (started : os.Started) (H : Type) (enc : TypeId × Value → H) :
    ReturnsInHanded {} Tryz.checked os 6 .any (fun w args => (Rows.trieReadsSpec.pre enc Tryz.prog Tryz.f6 [] false w args ∧ laidMetH Tryz.prog Rows.trieReadsRow.laid w) ∧ sizedMet enc Tryz.prog Tryz.f6 (OpenSpec.ofChange Rows.trieReadsSpec) false w args)
      (Rows.trieReadsSpec.post enc Tryz.prog Tryz.f6 false true false false) := by
  refine wrap (C := Tryz.checked) (X := fun w _ => laidMetH Tryz.prog Rows.trieReadsRow.laid w) (fun _ _ _ hh h => h.of_heap hh) ownKnobs started (by kernel_rfl) Tryz.func6
    (ChangeSpec.witness_shaped (enc := enc) (C := Tryz.checked) (os := os) (X := fun w _ => laidMetH Tryz.prog Rows.trieReadsRow.laid w) false (World.laidAll Tryz.prog os Rows.trieReadsRow.laid)
      #[.slice none 0 0, .int .u16 0, .int .u8 0] 8 (World.laidAll_os _ _ _)
      (World.shaped_of_ZipB (by kernel_rfl) (by kernel_rfl)) (by kernel_rfl) (by kernel_rfl) (by kernel_rfl)
      (by rw [MakeChecks.laidMetH_plain _ _ _ (by kernel_rfl)]; exact laidMet_laidAll _ (by kernel_rfl) (by kernel_rfl))) ?_
  intro W base args ds gs before hval0 hW hsz0 hL hS
  have hval : ∀ (j : Nat) t v, Tryz.f6.params[j]? = some t → args[j]? = some v → Value.okWide Tryz.prog W .any base t v := hval0
  have hsz : (DataW.weightsEach Tryz.prog (Tryz.f6.params.toList ++ Rows.trieReadsSpec.plain.varTypes Tryz.prog) (ds ++ gs)).all (· ≤ reachBytes) = true := hsz0
  have hW' := hW
  obtain ⟨p, q, hA0, hV, rfl, _, _⟩ := hW
  have hA : DataW.TrodAll enc Tryz.prog W 0 (fun _ => true) true Tryz.f6.params.toList args.toList ds p := hA0
  rw [Tryz.params6] at hA hval hsz
  obtain ⟨v0, v1, v2, d0, d1, d2, p0, p1, p2, rfl, rfl, rfl, h0, h1, h2⟩ := trodAll_three hA
  obtain ⟨rfl, rfl⟩ := trodVars_none hV
  have wt : ∀ {j : Nat} {t : TypeId} {d : DataW H}, [22, 74, 5][j]? = some t → [d0, d1, d2][j]? = some d → ∀ n ∈ d.weights Tryz.prog t, n ≤ reachBytes := by
    intro j t d ht hd n hn
    exact of_decide_eq_true (List.all_eq_true.1 hsz _ (DataW.weights_mem_each ht hd n hn))
  obtain ⟨x0, rfl, hx0⟩ := open_bytes h0 (wt (j := 0) rfl rfl) (hval 0 _ v0 rfl rfl)
  obtain ⟨x1, rfl⟩ := open_u16 (hval 1 _ v1 rfl rfl) h1
  obtain ⟨x2, rfl⟩ := open_u8 (hval 2 _ v2 rfl rfl) h2
  refine (reads_walk W (glob_of hS (show laidMetH Tryz.prog Rows.trieShapeRow.laid W from hL)) x0.A x0.c x0.l hx0 x1 x2).mono fun e W' ⟨he, hb⟩ => ?_
  subst he
  exact ⟨_, rfl, _, _, _, [], _, [], hW', trodAll_mk1 (shut_bool Tryz.underlying4 _),
    trodAll_mk3 (Below.trod laidOuts (by kernel_rfl) (of_decide_eq_true (by kernel_rfl)) h0 hb (fun y hy => hW'.lt y (by simp [hy]))) (Below.trod laidOuts (by kernel_rfl) (of_decide_eq_true (by kernel_rfl)) h1 hb (fun y hy => hW'.lt y (by simp [hy]))) (Below.trod laidOuts (by kernel_rfl) (of_decide_eq_true (by kernel_rfl)) h2 hb (fun y hy => hW'.lt y (by simp [hy]))), rfl, hb.frame _, fun h => by cases h⟩
end Go.Proofs.YtbfjmimiigjenaaGreatDoor
namespace Go.Proofs.YtbfjmimiigjenaaGreatDoor
open Go
theorem trieReads_c0 : (Rows.trieReadsRow.wf (OpenSpec.ofChange Rows.trieReadsSpec) : Bool) = true := by kernel_rfl
theorem trieReads_c1 : (laidOutB Tryz.prog : Bool) = true := by kernel_rfl
theorem trieReads_c2 : (mapsRowed Tryz.prog : Bool) = true := by kernel_rfl
theorem trieReads_c3 : (Tryz.f6.params.all (Tryz.prog.readableRec ·) : Bool) = true := by kernel_rfl
theorem trieReads_c4 : (namedTie Tryz.prog Rows.trieReadsRow.named Rows.trieReadsSpec.vars : Bool) = true := by kernel_rfl
theorem trieReads_c5 : (Rows.trieReadsRow.stops == [] : Bool) = true := by kernel_rfl
theorem trieReads_c6 : (Tryz.prog.stops == [] : Bool) = true := by kernel_rfl
theorem trieReads_c7 : (Rows.trieReadsRow.knobs == [] : Bool) = true := by kernel_rfl
theorem trieReads_c8 : (Tryz.prog.stopKnobs == [] : Bool) = true := by kernel_rfl
theorem trieReads_c9 : (Rows.trieReadsRow.inPlace == Tryz.prog.inPlace 6 : Bool) = true := by kernel_rfl
theorem trieReads_c10 : (Rows.trieReadsRow.unfollowed == Tryz.prog.unfollowed 6 : Bool) = true := by kernel_rfl
theorem trieReads_c11 : (Rows.trieReadsRow.recurses == Tryz.prog.recurses 6 : Bool) = true := by kernel_rfl
theorem trieReads_c12 : (Rows.trieReadsRow.named == Tryz.prog.varsNamed 6 : Bool) = true := by kernel_rfl
theorem trieReads_c13 : (Rows.trieReadsRow.maps == (Tryz.f6.params.toList ++ Rows.trieReadsSpec.plain.varTypes Tryz.prog).any (Tryz.prog.mapsRec ·) : Bool) = true := by kernel_rfl
theorem trieReads_c14 : (Rows.trieReadsRow.ifaces == (Tryz.f6.params.toList ++ Rows.trieReadsSpec.plain.varTypes Tryz.prog).any (Tryz.prog.ifacesRec ·) : Bool) = true := by kernel_rfl
theorem trieReads_c15 : (Rows.trieReadsRow.mapsOut == Tryz.prog.mapsAmong Tryz.f6.resultTypes.toList : Bool) = true := by kernel_rfl
theorem trieReads_c16 : (Rows.trieReadsRow.loops == (Tryz.f6.params.toList ++ Rows.trieReadsSpec.plain.varTypes Tryz.prog).any (Tryz.prog.loopsFrom ·) : Bool) = true := by kernel_rfl
theorem trieReads_c17 : (Rows.trieReadsRow.wideKeys == (Tryz.f6.params.toList ++ Rows.trieReadsSpec.plain.varTypes Tryz.prog ++ Tryz.f6.resultTypes.toList).any (Tryz.prog.wideKeysFrom ·) : Bool) = true := by kernel_rfl
theorem trieReads_c18 : (Rows.trieReadsSpec.vars.all (Tryz.prog.varReadable ·) : Bool) = true := by kernel_rfl
theorem trieReads_c19 : (Tryz.f6.resultTypes.all (fun t => Tryz.prog.readableRec t && decide (t < Tryz.prog.types.size)) : Bool) = true := by kernel_rfl
theorem trieReads_c20 : (Rows.trieReadsRow.ifacesOut == Tryz.f6.resultTypes.toList.any (Tryz.prog.ifacesRec ·) : Bool) = true := by kernel_rfl
theorem trieReads_c21 : (Rows.trieReadsRow.loopsOut == Tryz.f6.resultTypes.toList.any (Tryz.prog.loopsFrom ·) : Bool) = true := by kernel_rfl
theorem trieReads_c22 : (Rows.trieReadsRow.plainKeys == Tryz.prog.plainKeys : Bool) = true := by kernel_rfl
theorem trieReads_c23 : (Rows.trieReadsRow.shortTexts.isNone : Bool) = true := by kernel_rfl
theorem trieReads_c24 : (Tryz.prog.stopsHeard : Bool) = true := by kernel_rfl
theorem trieReads_c25 : (Tryz.prog.mayEnter : Bool) = true := by kernel_rfl
theorem trieReads_c26 : (Rows.trieReadsRow.lifted == Tryz.prog.liftsFinal : Bool) = true := by kernel_rfl
theorem trieReads_c27 : (Tryz.prog.make == some Rows.trieReadsRow.make : Bool) = true := by kernel_rfl
theorem trieReads_c28 : (Rows.trieReadsRow.kinds == (if Rows.trieReadsRow.domain.isEmpty then [] else Tryz.f6.params.toList.map fun t => match Tryz.prog.underlying t with | some (.int k) => some k | _ => none) : Bool) = true := by kernel_rfl
theorem trieReads_c29 : (Rows.trieReadsRow.pinned == Rows.trieReadsRow.pinnedBy : Bool) = true := by kernel_rfl
theorem trieReads_c30 : (Rows.trieReadsRow.veiled == (Tryz.f6.params.toList ++ Rows.trieReadsSpec.plain.varTypes Tryz.prog ++ Tryz.f6.resultTypes.toList).any (Tryz.prog.veiledRec ·) : Bool) = true := by kernel_rfl
theorem trieReads_c31 : (Rows.trieReadsRow.veiledFits Tryz.prog Tryz.f6.params.toList (Tryz.f6.params.toList ++ Rows.trieReadsSpec.plain.varTypes Tryz.prog ++ Tryz.f6.resultTypes.toList) : Bool) = true := by kernel_rfl
set_option maxRecDepth 100000 in
theorem trieReads_joined : joinedFacts Tryz.prog 6 Tryz.f6 Rows.trieReadsSpec Rows.trieReadsRow = true :=
  joined_of trieReads_c0 trieReads_c1 trieReads_c2 trieReads_c3 trieReads_c4 trieReads_c5 trieReads_c6 trieReads_c7 trieReads_c8 trieReads_c9 trieReads_c10 trieReads_c11 trieReads_c12 trieReads_c13 trieReads_c14 trieReads_c15 trieReads_c16 trieReads_c17 trieReads_c18 trieReads_c19 trieReads_c20 trieReads_c21 trieReads_c22 trieReads_c23 trieReads_c24 trieReads_c25 trieReads_c26 trieReads_c27 trieReads_c28 trieReads_c29 trieReads_c30 trieReads_c31
theorem trieReads_named : Tryz.prog.funcNamed "hoarstone/hoarstonelaw03.TrieReads" = some 6 := by kernel_rfl
theorem trieReads_inst : decide (Tryz.f6.isInstance Tryz.prog Rows.trieReadsRow.origin Rows.trieReadsRow.targs) = true := by kernel_rfl
theorem trieReads_wfText : Rows.trieReadsRow.wfByText (OpenSpec.ofChange Rows.trieReadsSpec) = true := by kernel_rfl
theorem trieReads_goes : (false = Rows.trieReadsRow.goesBy Tryz.prog) := by kernel_rfl
end Go.Proofs.YtbfjmimiigjenaaGreatDoor
namespace Go.Proofs.YtbfjmimiigjenaaGreatDoor
open Go
theorem trieReads_wrapped : Tryz.f6.isWrapper Tryz.prog Rows.trieReadsRow.wrapper Rows.trieReadsRow.mainSum := by
  unfold Func.isWrapper; first | (rw [if_pos (by decide +kernel)]; kernel_rfl) | (rw [if_neg (by decide +kernel)]; exact ⟨rfl, rfl⟩)
theorem trieReads_prog : Rows.trieReadsRow.program = Tryz.pinned.name := by kernel_rfl
theorem trieReads_sum : Rows.trieReadsRow.sum = Tryz.pinned.sum := by kernel_rfl
theorem trieReads_spec : Rows.trieReadsRow.spec = Rows.trieReadsSpec.name := by kernel_rfl
theorem trieReads_holds : Rows.TrieReadsSaid :=
  OpenClaim.holds_of_wide 6 Tryz.f6 trieReads_prog trieReads_sum trieReads_spec rfl rfl rfl rfl ⟨rfl, rfl, rfl, rfl, rfl⟩ rfl rfl rfl rfl rfl trieReads_named Tryz.func6 trieReads_joined
    (of_decide_eq_true trieReads_inst) trieReads_wrapped (fun os started H enc _ => trieReads_lifted os started H enc)
theorem trieReads_main : Tryz.prog.mainIs = some (Rows.trieReadsCard.stood.harness.1, Rows.trieReadsCard.stood.harness.2.toList) := by kernel_rfl
theorem trieReads_har : (!Rows.trieReadsCard.stood.harness.1 && Rows.trieReadsCard.stood.harness.2.isEmpty && !false) = false := by kernel_rfl
theorem trieReads_looks : false = Tryz.prog.looks [] := by kernel_rfl
theorem trieReads_plain : ([22, 74, 5].all fun u => !Tryz.prog.wantsStandIn u) = true := by kernel_rfl
theorem trieReads_card_holds : Rows.TrieReadsCardSaid :=
  Claim7.holds_tied_plain_at .later [] [.data, .data, .sentinel] true Rows.trieReadsCard.stood.harness false
    trieReads_holds (fun _ h => by cases h) trieReads_wfText (fun _ h => by cases h) trieReads_row_tie rfl ⟨rfl, rfl⟩ trieReads_main trieReads_har
    (fun f fn hf hfn => by
      obtain rfl : f = 6 := (Option.some.inj (trieReads_named.symm.trans hf)).symm
      obtain rfl : fn = Tryz.f6 := (Option.some.inj (Tryz.func6.symm.trans hfn)).symm
      exact ⟨trieReads_looks, fun j t ht => by
        rw [Tryz.params6] at ht
        have hm : t ∈ [22, 74, 5] := by simpa using Array.mem_of_getElem? ht
        exact (show Tryz.prog.wantsStandIn t = false by simpa using List.all_eq_true.1 trieReads_plain t hm)⟩)
    trieReads_goes
#print axioms trieReads_card_holds
end Go.Proofs.YtbfjmimiigjenaaGreatDoor
