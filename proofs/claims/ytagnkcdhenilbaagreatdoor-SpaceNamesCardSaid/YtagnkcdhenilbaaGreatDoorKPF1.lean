/-
A part of the proofs of the laws of a seat: contracts of functions and lemmas on them; the listed package variables hold what the program's text lays. No further condition.
-/
import Derived.Test.YtagnkcdhenilbaaGreatDoorKPC6
set_option linter.unusedVariables false
set_option linter.unusedSectionVars false
set_option linter.unusedSimpArgs false
namespace Go.Proofs.YtagnkcdhenilbaaGreatDoor
open Go V

def sA : Sum := ⟨[186, 15, 11, 134, 203, 67, 253, 82, 130, 71, 196, 239, 186, 12, 98, 183, 56, 213, 121, 44, 36, 150, 83, 146, 142, 193, 11, 21, 75, 149, 26, 226], rfl⟩
def sB : Sum := ⟨[38, 240, 161, 158, 224, 94, 252, 222, 104, 221, 87, 61, 158, 216, 149, 167, 50, 181, 222, 217, 164, 37, 248, 234, 174, 91, 154, 30, 212, 198, 168, 99], rfl⟩
def sC : Sum := ⟨[125, 254, 7, 251, 140, 118, 9, 54, 117, 102, 60, 80, 73, 141, 42, 24, 76, 231, 131, 66, 31, 97, 215, 124, 221, 152, 246, 159, 21, 113, 179, 11], rfl⟩
def sD : Sum := ⟨[159, 204, 255, 15, 144, 85, 186, 254, 81, 183, 126, 198, 24, 170, 5, 255, 4, 45, 75, 100, 51, 232, 67, 200, 135, 112, 233, 132, 127, 170, 177, 46], rfl⟩

theorem sum_ext {x y : Sum} (h : x.l = y.l) : x = y := by
  cases x; cases y; cases h; rfl

theorem comA : comS Sum.zero [] [49] = sA := sum_ext (by kernel_rfl)
theorem comBe : comS Sum.zero [sA] [50] = sB := sum_ext (by kernel_rfl)
theorem comCe : comS Sum.zero [sA] [51] = sC := sum_ext (by kernel_rfl)
theorem comDe : comS Sum.zero [sB, sC] [52] = sD := sum_ext (by kernel_rfl)
theorem ceA : comE [] [49] = 0 := by kernel_rfl
theorem ceB : comE [sA] [50] = 0 := by kernel_rfl
theorem ceC : comE [sA] [51] = 0 := by kernel_rfl
theorem ceD : comE [sB, sC] [52] = 0 := by kernel_rfl
theorem ceT : comE [sA, sA] [] = 5 := by kernel_rfl

def cs4 (A1 A2 A3 A4 : Option Addr) (n1 n2 n3 n4 : Nat) : List Com := [⟨Sum.zero, ⟨A1, n1, []⟩, [49]⟩, ⟨Sum.zero, ⟨A2, n2, [sA]⟩, [50]⟩, ⟨Sum.zero, ⟨A3, n3, [sA]⟩, [51]⟩, ⟨Sum.zero, ⟨A4, n4, [sB, sC]⟩, [52]⟩]

theorem hist4 (A1 A2 A3 A4 : Option Addr) (n1 n2 n3 n4 : Nat) : hist (cs4 A1 A2 A3 A4 n1 n2 n3 n4) = (0, [sA, sB, sC, sD]) := by
  have hb : ¬ 60 < (cs4 A1 A2 A3 A4 n1 n2 n3 n4).length := by show ¬ 60 < 4; decide
  unfold hist
  rw [if_neg hb]
  unfold cs4
  rw [hist_step, if_pos ceA]
  dsimp only
  rw [comA, if_neg (by simp), if_neg (by simp [hasD])]
  rw [hist_step, if_pos ceB]
  dsimp only
  rw [comBe, if_neg (by decide), if_neg (by decide)]
  rw [hist_step, if_pos ceC]
  dsimp only
  rw [comCe, if_neg (by decide), if_neg (by decide)]
  rw [hist_step, if_pos ceD]
  dsimp only
  rw [comDe, if_neg (by decide), if_neg (by decide)]
  rfl

theorem base1 (A1 A2 A3 A4 : Option Addr) (n1 n2 n3 n4 : Nat) : bases (cs4 A1 A2 A3 A4 n1 n2 n3 n4) sB sC = (0, [sA]) := by
  unfold bases
  rw [hist4]
  kernel_rfl
theorem base2 (A1 A2 A3 A4 : Option Addr) (n1 n2 n3 n4 : Nat) : bases (cs4 A1 A2 A3 A4 n1 n2 n3 n4) sB sD = (0, [sB]) := by
  unfold bases
  rw [hist4]
  kernel_rfl
end Go.Proofs.YtagnkcdhenilbaaGreatDoor

namespace Go.Proofs.YtagnkcdhenilbaaGreatDoor
open Go V RowKit

abbrev spcOf (z : Option Addr × Nat) (l : List Entry) : Spc := ⟨⟨z.1, z.2, l⟩, ⟨none, 0, []⟩⟩
abbrev spc2 (z : (Option Addr × Nat) × (Option Addr × Nat)) (l : List Entry) : Spc := ⟨⟨z.1.1, z.1.2, l⟩, ⟨z.2.1, z.2.2, []⟩⟩
theorem nil_ok (w : World) : Sl kEntry w none 0 [] := ⟨Nat.le_refl _, Nat.zero_le _, fun h => absurd rfl h, fun j v h => by simp at h, fun _ => ⟨rfl, rfl⟩⟩

theorem Does_none {P : Program} {tb : TT} {g : FuncId} {xs : List Value} {Gi : Heap} {pre : World → Prop} {α : Type} {V : α → Value} {G' : α → Heap} {J : α → Nat → World → Prop} (h : Does P tb g xs Gi pre V G' J) : Does P tb g xs Gi pre V (fun _ => []) J := by
  intro B0 w K hst hp
  refine (h B0 w K hst hp).mono ?_
  rintro e w' ⟨x, rfl, hx⟩
  exact ⟨x, rfl, hx.congr fun k y hy => by cases hy⟩

theorem wFind (z : Option Addr × Nat) : Does Tryz.prog tb 24 [(spcOf z t1).ev.v, intV 1, strV [109, 97, 112]] [] (fun u => MaxLen u ∧ (spcOf z t1).ok u) (fun y : Option Addr × Nat => .tuple #[.slice y.1 3 y.2, intV 0]) (fun _ => []) (fun _ _ _ => True) := by
  have h := Does_none (Find_spec (spcOf z t1) 1 [109, 97, 112] (by show 4 ≤ _; decide) (by show 0 ≤ _; decide))
  dsimp only [spcOf] at h
  rw [f1, f1l] at h
  exact h

theorem wPlain1 (w : World) (z : Option Addr × Nat) (hM : MaxLen w) (hs : (spcOf z t1).ok w) : Gives Tryz.prog 26 [(spcOf z t1).ev.v, intV 1, strV [109, 97, 112]] w (.av (.val (.tuple #[sumV (plainS t1 [] 1 [109, 97, 112]), intV 7]))) := by
  have h := Plain_spec w (spcOf z t1) 1 [109, 97, 112] hM hs (by show t1.length ≤ _; decide) (by show 0 ≤ _; decide)
  dsimp only [spcOf] at h
  rw [f2] at h
  exact h

theorem wPlain2 (w : World) (z : Option Addr × Nat) (hM : MaxLen w) (hs : (spcOf z t1).ok w) : Gives Tryz.prog 26 [(spcOf z t1).ev.v, intV 1, strV [97, 46, 109, 97, 112]] w (.av (.val (.tuple #[sumV (sumN 1), intV 0]))) := by
  have h := Plain_spec w (spcOf z t1) 1 [97, 46, 109, 97, 112] hM hs (by show t1.length ≤ _; decide) (by show 0 ≤ _; decide)
  dsimp only [spcOf] at h
  rw [f3, sum_ext f3s] at h
  exact h

theorem wPlain3 (w : World) (z : Option Addr × Nat) (hM : MaxLen w) (hs : (spcOf z t2).ok w) : Gives Tryz.prog 26 [(spcOf z t2).ev.v, intV 1, strV [109, 97, 112]] w (.av (.val (.tuple #[sumV (sumN 1), intV 0]))) := by
  have h := Plain_spec w (spcOf z t2) 1 [109, 97, 112] hM hs (by show t2.length ≤ _; decide) (by show 0 ≤ _; decide)
  dsimp only [spcOf] at h
  rw [f6, sum_ext f6s] at h
  exact h

theorem wName1 (w : World) (z : Option Addr × Nat) (hM : MaxLen w) (hs : (spcOf z t1).ok w) : Gives Tryz.prog 31 [(spcOf z t1).ev.v, intV 1, sumV (sumN 2)] w (.av (.val (.tuple #[strV [105, 100], intV 0]))) := by
  have h := Name_spec w (spcOf z t1) 1 (sumN 2) hM hs (by show t1.length ≤ _; decide) (by show 0 ≤ _; decide)
  dsimp only [spcOf] at h
  rw [f4, f4s] at h
  exact h

theorem wName2 (w : World) (z : Option Addr × Nat) (hM : MaxLen w) (hs : (spcOf z t1).ok w) : Gives Tryz.prog 31 [(spcOf z t1).ev.v, intV 1, sumV (sumN 1)] w (.av (.val (.tuple #[strV [97, 46, 109, 97, 112], intV 0]))) := by
  have h := Name_spec w (spcOf z t1) 1 (sumN 1) hM hs (by show t1.length ≤ _; decide) (by show 0 ≤ _; decide)
  dsimp only [spcOf] at h
  rw [f5, f5s] at h
  exact h

theorem wName3 (w : World) (z : Option Addr × Nat) (hM : MaxLen w) (hs : (spcOf z t2).ok w) : Gives Tryz.prog 31 [(spcOf z t2).ev.v, intV 1, sumV (sumN 2)] w (.av (.val (.tuple #[strV [108, 105, 115, 116, 46, 109, 97, 112], intV 0]))) := by
  have h := Name_spec w (spcOf z t2) 1 (sumN 2) hM hs (by show t2.length ≤ _; decide) (by show 0 ≤ _; decide)
  dsimp only [spcOf] at h
  rw [f7, f7s] at h
  exact h

theorem f8t : underL [97] t3 = t4 := of_decide_eq_true f8l

theorem wUnder (z : Option Addr × Nat) : Does Tryz.prog tb 33 [(spcOf z t3).ev.v, strV [97]] [] (fun u => MaxLen u ∧ (spcOf z t3).ok u) (fun y : (Option Addr × Nat) × (Option Addr × Nat) => .tuple #[.agg #[.slice y.1.1 t4.length y.1.2, .slice y.2.1 0 y.2.2], intV 0])
    (fun y => [(0, rowE kEntry y.1.1 y.1.2 t4), (1, rowE kEntry y.2.1 y.2.2 [])]) (fun _ _ _ => True) := by
  have h := Under_ok (spcOf z t3) [97] f8 (by show t3.length ≤ _; decide) (by show 0 ≤ _; decide) (by decide)
  dsimp only [spcOf] at h
  rw [f8t, f8n] at h
  exact h

theorem wInto1 (z : Option Addr × Nat) (y : (Option Addr × Nat) × (Option Addr × Nat)) : Does Tryz.prog tb 35 [(spcOf z t3).ev.v, strV [100], (spc2 y t4).ev.v] [] (fun u => MaxLen u ∧ (spcOf z t3).ok u ∧ (spc2 y t4).ok u) (fun q : (Option Addr × Nat) × (Option Addr × Nat) => .tuple #[.agg #[.slice q.1.1 5 q.1.2, .slice q.2.1 (putL [100] [] []).length q.2.2], intV 0]) (fun _ => []) (fun _ _ _ => True) := by
  have h := Does_none (Into_spec (spcOf z t3) (spc2 y t4) [100] (by show t3.length ≤ _; decide) (by show 0 ≤ _; decide) (by show t4.length ≤ _; decide) (by show 0 ≤ _; decide))
  dsimp only [spcOf, spc2] at h
  rw [f9] at h
  unfold inT at h
  rw [if_pos rfl, if_pos rfl, f9l] at h
  exact h

theorem wInto2 (z : Option Addr × Nat) (y : (Option Addr × Nat) × (Option Addr × Nat)) : Does Tryz.prog tb 35 [(spcOf z t3).ev.v, strV [97], (spc2 y t4).ev.v] [] (fun u => MaxLen u ∧ (spcOf z t3).ok u ∧ (spc2 y t4).ok u) (fun q : (Option Addr × Nat) × (Option Addr × Nat) => .tuple #[.agg #[.slice q.1.1 0 q.1.2, .slice q.2.1 0 q.2.2], intV 5]) (fun _ => []) (fun _ _ _ => True) := by
  have h := Does_none (Into_spec (spcOf z t3) (spc2 y t4) [97] (by show t3.length ≤ _; decide) (by show 0 ≤ _; decide) (by show t4.length ≤ _; decide) (by show 0 ≤ _; decide))
  dsimp only [spcOf, spc2] at h
  rw [f10] at h
  unfold inT at h
  rw [if_neg (by decide), if_neg (by decide)] at h
  exact h

theorem wAdd1 (z : Option Addr × Nat) (x : Sum) : Does Tryz.prog tb 46 [(spcOf z t3).ev.v, intV 1, strV [65], sumV x] [] (fun u => MaxLen u ∧ (spcOf z t3).ok u) (fun q : (Option Addr × Nat) × (Option Addr × Nat) => .tuple #[.agg #[.slice q.1.1 0 q.1.2, .slice q.2.1 0 q.2.2], intV 4]) (fun _ => []) (fun _ _ _ => True) := by
  have h := Does_none (Add_spec (spcOf z t3) 1 [65] x (by show t3.length ≤ _; decide) (by show 0 ≤ _; decide))
  dsimp only [spcOf] at h
  rw [f11a] at h
  unfold edT edY at h
  rw [if_neg (by decide), if_neg (by decide)] at h
  exact h

theorem wAdd2 (z : Option Addr × Nat) (x : Sum) : Does Tryz.prog tb 46 [(spcOf z t3).ev.v, intV 1, strV [97, 46, 98, 46, 99, 46, 100, 46, 101, 46, 102], sumV x] [] (fun u => MaxLen u ∧ (spcOf z t3).ok u) (fun q : (Option Addr × Nat) × (Option Addr × Nat) => .tuple #[.agg #[.slice q.1.1 0 q.1.2, .slice q.2.1 0 q.2.2], intV 4]) (fun _ => []) (fun _ _ _ => True) := by
  have h := Does_none (Add_spec (spcOf z t3) 1 [97, 46, 98, 46, 99, 46, 100, 46, 101, 46, 102] x (by show t3.length ≤ _; decide) (by show 0 ≤ _; decide))
  dsimp only [spcOf] at h
  rw [f11b] at h
  unfold edT edY at h
  rw [if_neg (by decide), if_neg (by decide)] at h
  exact h

theorem wMove (z : Option Addr × Nat) : Does Tryz.prog tb 51 [(spcOf z t3).ev.v, intV 1, strV [97, 98], strV [97, 98]] [] (fun u => MaxLen u ∧ (spcOf z t3).ok u) (fun q : (Option Addr × Nat) × (Option Addr × Nat) => .tuple #[.agg #[.slice q.1.1 0 q.1.2, .slice q.2.1 0 q.2.2], intV 5]) (fun _ => []) (fun _ _ _ => True) := by
  have h := Does_none (Move_all (spcOf z t3) 1 [97, 98] [97, 98] (by show t3.length ≤ _; decide) (by show 0 ≤ _; decide))
  dsimp only [spcOf] at h
  rw [f11c] at h
  unfold edT edY at h
  rw [if_neg (by decide), if_neg (by decide)] at h
  exact h

theorem wDrop (z : Option Addr × Nat) : Does Tryz.prog tb 45 [(spcOf z t3).ev.v, intV 3, strV [97, 98]] [] (fun u => MaxLen u ∧ (spcOf z t3).ok u) (fun q : (Option Addr × Nat) × (Option Addr × Nat) => .tuple #[.agg #[.slice q.1.1 0 q.1.2, .slice q.2.1 0 q.2.2], intV 3]) (fun _ => []) (fun _ _ _ => True) := by
  have h := Does_none (Drop_all (spcOf z t3) 3 [97, 98] (by show t3.length ≤ _; decide) (by show 0 ≤ _; decide))
  dsimp only [spcOf] at h
  rw [f11d] at h
  unfold edT edY at h
  rw [if_neg (by decide), if_neg (by decide)] at h
  exact h
end Go.Proofs.YtagnkcdhenilbaaGreatDoor
