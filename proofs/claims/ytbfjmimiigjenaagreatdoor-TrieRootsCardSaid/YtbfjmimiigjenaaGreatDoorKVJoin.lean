/-
Lemmas. No condition.
-/
import Derived.Test.YtbfjmimiigjenaaGreatDoorKVDoes
set_option linter.unusedVariables false
set_option linter.unusedSimpArgs false
namespace Go.Proofs.YtbfjmimiigjenaaGreatDoor
open Go V
theorem V.RH.mtS {P:Program} {f:Fr} {n:Nat} {S:Stops} {R:Ending->World->Prop} {tb:TT} {B0:Nat} {I:World->Prop} {H:Heap} {nx m:Nat} {env:SEnv} {todo:List Item} {α:Type} {E:α->SEnv} {G:α->Heap} {F:α->World->Prop} (y:α) (σ:List (Nat × Nat)) (hm:(todo,λds K w=>∃ y,ds=f.ds/\V.Sub (E y) K/\St tb B0 (G y) (F y) w) ∈ S)
  (hs:V.Sub (E y) (kn env)) (hG:SelEq (G y) H σ) (hn:nodupN ((G y).map λp=>ren σ p.1)=true) (hF:∀ w,I w->F y w):RH P f n tb B0 S R todo env H nx m I :=
 λ_ _ hst=>Run.stop hm ⟨y,rfl,hs,(hst.sel (Sel.of σ hG hn)).mono λu _ hu=>hF u hu⟩
theorem V.RH.joinK {P:Program} {f:Fr} {n:Nat} {S:Stops} {R:Ending->World->Prop} {tb:TT} {B0:Nat} {I:World->Prop} {H:Heap} {nx m:Nat} {env:SEnv} {todo:List Item} {α:Type} {k:List Item} (E:α->SEnv) (G:α->Heap) (F:α->World->Prop)
  (h1:RH P f n tb B0 ((k,λds K w=>∃ y,ds=f.ds/\V.Sub (E y) K/\St tb B0 (G y) (F y) w) :: S) R todo env H nx m I)
  (h2:∀ y m',RH P f n tb B0 S R k (E y) (G y) nx m' (F y)):RH P f n tb B0 S R todo env H nx m I:=RH.join k E G F h1 h2
theorem V.RH.toNx {P:Program} {f:Fr} {n:Nat} {S:Stops} {R:Ending->World->Prop} {tb:TT} {B0:Nat} {I:World->Prop} {H:Heap} {nx m:Nat} {env:SEnv} {todo:List Item} (nx':Nat) (h:RH P f n tb B0 S R todo env H nx' m I):RH P f n tb B0 S R todo env H nx m I:=h
end Go.Proofs.YtbfjmimiigjenaaGreatDoor
