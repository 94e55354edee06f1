/-
Lemmas. No condition.
-/
import Derived.Test.YtbfjmimiigjenaaGreatDoorKVMap
set_option linter.unusedVariables false
set_option linter.unusedSimpArgs false
namespace Go.Proofs.YtbfjmimiigjenaaGreatDoor.V
open Go Go.RowKit
theorem check_one {P:Program} (b:Bool) (n:Nat) {T:TypeId} {d:TypeDesc} (hd:P.underlying T=some d) (h:d.isRow=false) (hi:∀ m,d ≠ .interface m) (v:Value) (w:World):(Instr.checkKey b (n+1) T v).run P w = .ok () w:=by
 rw [Instr.checkKey,Sem.run_bind,run_underlying hd w,Result.andThen_ok]
 cases d<;>first|rfl|(exact absurd rfl (hi _))|cases h
theorem tb_str:tb.und 9=some .string:=by kernel_rfl
theorem und_str:Tryz.prog.underlying 9=some .string:=tk.und tb_str
theorem bytes_beq (a b:Str):((⟨⟨a⟩⟩:ByteArray) == ⟨⟨b⟩⟩)=decide (a=b):=by
 rw [Bool.eq_iff_iff,decide_eq_true_iff]
 constructor
 ·intro h
  have h2:(⟨a⟩:Array UInt8)=⟨b⟩:=by simpa using (show ((⟨a⟩:Array UInt8) == ⟨b⟩)=true from h)
  injection h2
 ·rintro rfl
  show ((⟨a⟩:Array UInt8) == ⟨a⟩)=true
  simp
theorem key_str:MKey Tryz.prog 9 strV where
 check b w k:=check_one b 9999 (tk.und (d:=.string) rfl) rfl (λ_=>nofun) _ w
 eq w a b:=eq_str w 9999 a b
 stays k:=by
  have:((⟨⟨k⟩⟩:ByteArray) == ⟨⟨k⟩⟩)=true:=by rw [bytes_beq];simp
  exact this
 now d hd a b r h:=by
  have:d = .string:=Option.some.inj (hd.symm.trans und_str)
  subst this
  have h1:((⟨⟨a⟩⟩:ByteArray) == ⟨⟨b⟩⟩)=r:=by injection h
  rw [← h1,bytes_beq]
 und:=⟨_,und_str⟩
end Go.Proofs.YtbfjmimiigjenaaGreatDoor.V
