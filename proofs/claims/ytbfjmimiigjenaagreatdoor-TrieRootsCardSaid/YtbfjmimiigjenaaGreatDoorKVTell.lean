/-
Lemmas. No condition.
-/
import Derived.Test.YtbfjmimiigjenaaGreatDoorKVDoes
set_option linter.unusedVariables false
set_option linter.unusedSectionVars false
set_option linter.unusedSimpArgs false
namespace Go.Proofs.YtbfjmimiigjenaaGreatDoor.V
open Go Go.RowKit
section
variable {P:Program} {f:Fr} {n:Nat} {S:Stops} {R:Ending->World->Prop} {tb:TT} {B0:Nat} {I:World->Prop} {H:Heap} {nx m:Nat} {env:SEnv} {todo k:List Item} {ops:Array Oper} {G0:Heap} {I0:World->Prop} {fuel:Nat} {l:List Bool}
theorem kn_same {t:Nat} {e0 e:EV} (h:lookE env t=some e0) (hv:e0.v=e.v):kn ((t,e) :: env)=kn env:=by
 rw [kn_cons]
 funext t'
 unfold Env.upd
 by_cases h1:t=t'
 ·subst h1
  rw [if_pos rfl,kn_some h,hv]
 ·rw [if_neg h1]
theorem RH.slotE {e0:EV} (t:Nat) (e:EV) (h:lookE env t=some e0) (hv:e0.v=e.v) (hr:RH P f n tb B0 S R todo ((t,e) :: env) H nx m I):RH P f n tb B0 S R todo env H nx m I:=by
 unfold RH at hr ⊢
 rw [kn_same h hv] at hr
 exact hr
theorem RD.slotE {e0:EV} (t:Nat) (e:EV) (h:lookE env t=some e0) (hv:e0.v=e.v) (hr:RD P f n tb B0 S R k ops G0 I0 fuel l ((t,e) :: env) H nx m I):RD P f n tb B0 S R k ops G0 I0 fuel l env H nx m I:=by
 unfold RD at hr ⊢
 rw [kn_same h hv] at hr
 exact hr
theorem RH.know (I':World->Prop) (h:∀ u,I u->I' u) (hr:RH P f n tb B0 S R todo env H nx m I'):RH P f n tb B0 S R todo env H nx m I :=
 λw hm hst=>hr w hm (hst.mono λu _ hu=>h u hu)
end
end Go.Proofs.YtbfjmimiigjenaaGreatDoor.V
