/-
Lemmas. No condition.
-/
import Derived.Test.YtbfjmimiigjenaaGreatDoorKQ38
import Derived.Test.YtbfjmimiigjenaaGreatDoorKVConv
set_option linter.unusedVariables false
set_option linter.unusedSectionVars false
set_option linter.unusedSimpArgs false
namespace Go.Proofs.YtbfjmimiigjenaaGreatDoor
open Go V RowKit
abbrev noE : Str × Sum := ([], Sum.zero)
section
variable {n : Nat} {B0 : Nat} {I : World → Prop} {H : Heap} {m : Nat} {env : SEnv}
theorem V.OpGo.byteStrP {d : Nat} {x : Operand} {ty : TypeId} {ps : String} {af : Array Edge} {gd : Option (Nat × Bool)} {ex : EV} {A : Option Addr} {c : Nat} {l : List UInt8}
  (hd : Nat.blt d n = true) (hx : evE env x = some ex) (hxv : ex.v = .slice A l.length c) (hp : Ptr A) (hl : ∀ w, St tb B0 H I w → Sl kBy w A c l) :
  OpGo Tryz.prog tb B0 n ⟨some d, .convert 22 9 x, ty, ps, af, gd⟩ env H m I (fun _ : Unit => (d, strE l) :: env) (fun _ => H) (fun _ => I) := by
 intro w a hm hst ha
 have hdn : d < n := Nat.lt_of_lt_of_le (Nat.lt_succ_self d) (Nat.le_of_ble_eq_true hd)
 have hs := hl w hst
 have hxv' : a.eval x = .slice A l.length c := (ev_run ha hx).trans hxv
 unfold Ptr at hp
 have h := run_convert_bytes_back (P := Tryz.prog) w 22 9 5 ⟨blkA A, offA A, none⟩ c l (tk.und rfl) (tk.und rfl) (tk.und rfl) (fun j hj => by
  rw [Addr.add_lit]
  refine hs.cells j _ ?_
  rw [← map_flat, List.getElem?_map, List.getElem?_eq_getElem hj]
  rfl)
 unfold Oper.wp
 have : (execOp a.eval ⟨some d, .convert 22 9 x, ty, ps, af, gd⟩).run Tryz.prog w = .ok (.value (strV l)) w := by
  simp only [execOp, hxv']
  rw [hp, Sem.run_bind, h]
  rfl
 rw [this]
 refine ⟨(), ?_, by rw [← hm]; exact Nat.le_refl _, hst⟩
 rw [kn_cons]; exact ha.put hdn _
end
theorem bClone_spec (A : Option Addr) (c : Nat) (l : List UInt8) (hb : l.length ≤ 1000000) : Does Tryz.prog tb 37 [.slice A l.length c] [] (fun u => Sl kBy u A c l) (fun y : Option Addr × Nat => .slice y.1 l.length y.2) (fun y => [(0, rowE kBy y.1 y.2 l)]) (fun _ _ _ => True) := by
 refine Does.enter tk [(0, slE A l.length c)] Tryz.func37 rfl Tryz.ntmps37 rfl rfl 0 ?_
 intro B0 m K
 refine RH.pure (fun u h => And.intro h.2.nil h.2.small) fun ⟨hnil, hsm⟩ => ?_
 cases hA : A.isNone with
 | true =>
  have hn : A = none := Option.isNone_iff_eq_none.1 hA
  obtain ⟨rfl, rfl⟩ := hnil hn
  subst hn
  refine RH.adv tk [true] rfl rfl (by simp <;> omega) ?_
  refine RH.ret1 Tryz.func37 rfl rfl fun w hst => ⟨(none, 0), rfl, (hst.nilrow 0 kBy).out [] rfl rfl fun u h => ⟨h.1, trivial⟩⟩
 | false =>
  refine RH.adv tk [false] rfl rfl (by simp [hA]) ?_
  refine RH.apK (κ := kBy) (id := 0) (l := []) (r := l) rfl rfl rfl rfl rfl rfl elt_byte rfl rfl (fun w hst => hst.fact.2.lies) (by simp; omega) (by simp; omega) ?_
  intro A' c' m' hm'
  refine RH.adv tk [] rfl rfl (by simp <;> omega) ?_
  refine RH.ret1 Tryz.func37 rfl rfl fun w hst => ⟨(A', c'), rfl, hst.out [] rfl rfl fun u h => ⟨h.1, trivial⟩⟩
mutual
def Tree.all : Tree → List Tree
 | .node s v k => .node s v k :: k.all
def Kids.all : Kids → List Tree
 | .nil => []
 | .cons _ t r => t.all ++ r.all
end
def Tree.stem : Tree → Str | .node s _ _ => s
structure Deed where
 had : Bool
 has : Bool
 g : FuncId
abbrev deedF (d : Deed) : List AV := [.val (.bool d.had), .val (.bool d.has), .val (.func (.func d.g) #[] #[])]
abbrev deedsL : List Deed := [⟨true, true, 200⟩, ⟨false, true, 200⟩, ⟨true, false, 201⟩, ⟨false, false, 202⟩]
end Go.Proofs.YtbfjmimiigjenaaGreatDoor
