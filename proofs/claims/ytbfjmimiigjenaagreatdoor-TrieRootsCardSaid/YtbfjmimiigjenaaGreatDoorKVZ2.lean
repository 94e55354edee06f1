/-
Lemmas. No condition.
-/
import Derived.Test.YtbfjmimiigjenaaGreatDoorKR1
import Derived.Test.YtbfjmimiigjenaaGreatDoorKVZ
set_option linter.unusedVariables false
set_option linter.unusedSectionVars false
set_option linter.unusedSimpArgs false
namespace Go.Proofs.YtbfjmimiigjenaaGreatDoor.V
open Go Go.RowKit
section
variable {f:Fr} {n:Nat} {S:Stops} {R:Ending->World->Prop} {B0:Nat} {I:World->Prop} {H:Heap} {nx m:Nat} {env:SEnv} {todo k:List Item} {env':SEnv} {H':Heap} {nx' m':Nat} {todo':List Item} {ob:List Ob} {eq:List Eqn} {G:Heap} {I0:World->Prop} {fuel fuel':Nat} {l l':List Bool} {ops:Array Oper} {d:Nat} {ty:TypeId} {ps:String} {af:Array Edge} {gd:Option (Nat × Bool)}
theorem RD.z {o:Oper} {v:Option EV} (i:Nat) (h:∀ m1,m ≤ m1->RH Tryz.prog f n tb B0 S R k env' H' nx' m1 I) (ho:ops.toList[i]? = some o:=by exact rfl) (hr:Region.ready .any ops l.toArray=[i]:=by kernel_rfl) (hw:wantE env ops o.guard = .yes:=by exact rfl) (hf:finB ops i=true:=by kernel_rfl) (hl:Region.ready .any ops (l.set i true).toArray=[]:=by kernel_rfl)
  (hs:stepOp tb env H nx m [] [] o.op=some (v,H',nx',m',ob,eq):=by exact rfl) (heq:AllEqn eq:=by exact rfl) (hob:AllOb ob:=by first|trivial|(simp;done)) (hm:m ≤ m':=by exact Nat.le_refl _) (hv:OutOk n v o.dst env env':=by first|exact rfl|exact ⟨rfl,rfl⟩):RD Tryz.prog f n tb B0 S R k ops G I0 (0+1) l env H nx m I :=
 RD.lastOp tk ho hr hw hf hl hs heq hob hm hv h
theorem RD.lg {T:TypeId} {x:Operand} {p:Addr} (i:Nat) (e:EV) (ho:ops.toList[i]? = some ⟨some d,.load T x,ty,ps,af,gd⟩) (hx:ptrE (evE env x)=some p) (hv:∀ w,St tb B0 G I0 w->(loadVar T p).run Tryz.prog w = .ok e.v w)
  (h:RD Tryz.prog f n tb B0 S R k ops G I0 fuel (l.set i true) ((d,e) :: env) H nx m I) (hp:pairOk ops=true:=by kernel_rfl) (hdn:Nat.blt d n=true:=by exact rfl) (hw:wantE env ops gd = .yes:=by exact rfl)
  (hl:l[i]? = some false:=by exact rfl) (hr:readyE l ⟨some d,.load T x,ty,ps,af,gd⟩=true:=by exact rfl):RD Tryz.prog f n tb B0 S R k ops G I0 (fuel+1) l env H nx m I :=
 RD.loadG hp e ho hdn hw hl hr hx hv h
end
end Go.Proofs.YtbfjmimiigjenaaGreatDoor.V
