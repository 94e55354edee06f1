/-
Lemmas. No condition.
-/
import Derived.Lib.ConvBytes
import Derived.Test.YtbfjmimiigjenaaGreatDoorKPC1
set_option linter.unusedVariables false
set_option linter.unusedSectionVars false
set_option linter.unusedSimpArgs false
namespace Go.Proofs.YtbfjmimiigjenaaGreatDoor
open Go V RowKit
theorem ext_bytes (w:World) (e:TypeId) (s:ByteArray):Ext w (Go.Lib.bytesWorld w e s):=by
 refine ⟨rfl,rfl,rfl,?_,?_⟩
 ·rw [Go.Lib.bytesWorld_size];omega
 ·intro k hk;exact Go.Lib.bytesWorld_at_old w e s k hk
section
variable {n:Nat} {B0:Nat} {I:World->Prop} {H:Heap} {m:Nat} {env:SEnv}
theorem V.OpGo.strBytes {d:Nat} {x:Operand} {ty:TypeId} {ps:String} {af:Array Edge} {gd:Option (Nat × Bool)} {s:Str}
  (hd:Nat.blt d n=true) (hx:evE env x=some (strE s)) (hs:s.length ≤ lim) :
  OpGo Tryz.prog tb B0 n ⟨some d,.convert 9 22 x,ty,ps,af,gd⟩ env H m I (λc:Nat=>(d,slE (some ⟨m,0,none⟩) s.length c) :: env) (λ_=>H) (λc u=>I u/\Sl kBy u (some ⟨m,0,none⟩) c s):=by
 intro w a hm hst ha
 have hdn:d < n:=Nat.lt_of_lt_of_le (Nat.lt_succ_self d) (Nat.le_of_ble_eq_true hd)
 have hxv:a.eval x = .string ⟨⟨s⟩⟩:=ev_run ha hx
 have h:=Go.Lib.run_convert_string_bytes (P:=Tryz.prog) w 9 22 5 ⟨⟨s⟩⟩ (tk.und rfl) (tk.und rfl) (tk.und rfl)
 unfold Oper.wp
 have:(execOp a.eval ⟨some d,.convert 9 22 x,ty,ps,af,gd⟩).run Tryz.prog w = .ok (.value (.slice (some ⟨w.heap.size,0,none⟩) s.length (grownCap w s.length 0 5))) (Go.Lib.bytesWorld w 5 ⟨⟨s⟩⟩):=by
  simp only [execOp,hxv,Sem.run_bind,h]
  rfl
 rw [this]
 subst hm
 have he:=ext_bytes w 5 ⟨⟨s⟩⟩
 have hst':=hst.ext he
 refine ⟨grownCap w s.length 0 5,?_,he.size,hst'.mono λu hag hu=>⟨hu,?_⟩⟩
 ·rw [kn_cons];exact ha.put hdn _
 ·have hnew:=Go.Lib.bytesWorld_at_new w 5 ⟨⟨s⟩⟩
  have hlt:w.heap.size < (Go.Lib.bytesWorld w 5 ⟨⟨s⟩⟩).heap.size:=by rw [Go.Lib.bytesWorld_size];omega
  have hu2:u.heap[w.heap.size]? = _:=(hag.block w.heap.size hlt (by
   rintro ⟨j,y,hy,hb⟩
   have:=(HE.lt (hst.holds j y hy) hb).2
   omega)).trans hnew
  have hge:=grownCap_ge w s.length 0 5
  refine ⟨by omega,hs,λ_=>rfl,range_of_blk hu2 λj v hv=>?_,nofun⟩
  rw [← map_flat,List.getElem?_map] at hv
  rw [show offA (some (⟨w.heap.size,0,none⟩:Addr))=0 from rfl,Nat.zero_add]
  unfold Go.Lib.bytesCells
  rw [Array.toList_append,List.getElem?_append]
  cases hj:s[j]? with
  | none=>rw [hj] at hv;cases hv
  | some b =>
   rw [hj] at hv
   have hjl:j < s.length:=by
    rcases Nat.lt_or_ge j s.length with h1|h1
    ·exact h1
    ·rw [List.getElem?_eq_none h1] at hj;cases hj
   rw [if_pos (by simpa using hjl)]
   simp [hj]
   simpa [u8V] using hv
end
end Go.Proofs.YtbfjmimiigjenaaGreatDoor
