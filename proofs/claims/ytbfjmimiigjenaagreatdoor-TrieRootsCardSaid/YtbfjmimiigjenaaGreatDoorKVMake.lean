/-
Lemmas. No condition.
-/
import Derived.Test.YtbfjmimiigjenaaGreatDoorKVRaw
set_option linter.unusedVariables false
set_option linter.unusedSectionVars false
set_option linter.unusedSimpArgs false
namespace Go.Proofs.YtbfjmimiigjenaaGreatDoor.V
open Go Go.RowKit
theorem run_append_make {P:Program} (w:World) (t tx ty e:TypeId) (i:TypeInfo) (z:Value) (ht:P.underlying t=some (.slice e)) (htx:P.underlying tx=some (.int .i64)) (hi:P.info? e=some i) (hz:i.zero=some z) (hsz:0 < i.size)
  (b:Addr) (sLen sCap:Nat) (olds:List Value) (hlo:olds.length=sLen*i.size) (holds:∀ j v,olds[j]? = some v->w.cell? (b.add j)=some v)
  (n:Nat) (hn0:0 < n) (hg:sCap < sLen+n) (h63:((sLen+n:Nat):Int) ≤ 9223372036854775807) (hfit:Builtin.nextslicecap (sLen+n) sCap*i.bytes ≤ 281474976710656) (hby:n*i.bytes ≤ 281474976710656) :
  (Builtin.append_ #[t,tx] ty #[.slice (some b) sLen sCap,.int .i64 n]).run P w =
   .ok (.slice (some ⟨w.heap.size,0,none⟩) (sLen+n) (grownCap w (sLen+n) sCap e))
    (w.drew.alloc (.cells (olds.toArray ++ Builtin.zeroCells z.cells n ++ Builtin.zeroCells z.cells (grownCap w (sLen+n) sCap e - (sLen+n))) e)):=by
 have hn:¬ (sLen+n ≤ sCap):=by omega
 have h63':¬ (9223372036854775807 < ((sLen:Int)+(n:Int))):=by omega
 have h48':¬ (281474976710656 < Builtin.nextslicecap (sLen+n) sCap*i.bytes):=by omega
 have hfo:=run_firstCells_some (P:=P) w.drew i.size sLen b sLen sCap olds hlo (by simpa using holds)
 have hw:IntKind.i64.wrap (n:Int)=n:=wrap64_of (by omega)
 have hneg:¬ ((n:Int) < 0):=by omega
 have hbig:¬ (281474976710656 < (n:Int)*(i.bytes:Int)):=by
  have:(n:Int)*(i.bytes:Int)=((n*i.bytes:Nat):Int):=by simp
  omega
 have hns:¬ (n=0 ∨ i.size=0):=by omega
 simp [Builtin.append_,run_underlying ht,run_underlying htx,sizeOf,typeInfo,zeroValue,hi,hz,asInt,asIntOf,hw,hneg,hbig,hn,h63',h48',hns,Question.forced,hfo,newRow,grownCap]
 intro h0
 have:=Nat.mul_pos hn0 hsz
 omega
section
variable {P:Program} {n:Nat} {tb:TT} {B0:Nat} {I:World->Prop} {H:Heap} {m:Nat} {env:SEnv}
end
end Go.Proofs.YtbfjmimiigjenaaGreatDoor.V
