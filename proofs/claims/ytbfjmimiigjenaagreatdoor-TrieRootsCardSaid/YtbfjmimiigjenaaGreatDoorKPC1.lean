/-
Lemmas. No condition.
-/
import Derived.Lib.AppendStr
import Derived.Room.AppendFits
import Derived.Laws.MakeOwn
import Derived.Test.YtbfjmimiigjenaaGreatDoorKSW
set_option linter.unusedVariables false
set_option linter.unusedSectionVars false
set_option linter.unusedSimpArgs false
namespace Go.Proofs.YtbfjmimiigjenaaGreatDoor
open Go V RowKit
section
variable {n:Nat} {B0:Nat} {I:World->Prop} {H:Heap} {m:Nat} {env:SEnv}
theorem strCells_flat (t:Str):Lib.strCells ⟨⟨t⟩⟩=t.flatMap kBy.cs:=by
 unfold Lib.strCells
 show t.map (λb=>Value.int .u8 b.toNat)=_
 induction t with
 | nil=>rfl
 | cons x r ih=>rw [List.map_cons,List.flatMap_cons,ih];rfl
theorem V.OpGo.appendStr {d id:Nat} {s x:Operand} {ty:TypeId} {ps:String} {af:Array Edge} {gd:Option (Nat × Bool)} {A:Option Addr} {c:Nat} {l:List UInt8} {t:Str}
  (hd:Nat.blt d n=true) (hs:evE env s=some (rowS id A l.length c)) (hH:loH H id=rowE kBy A c l) (hx:evE env x=some (strE t)) (hp:l ≠ []) (hb:l.length+t.length ≤ 1000000) :
  OpGo Tryz.prog tb B0 n ⟨some d,.call ⟨.builtin .append,#[s,x],#[22,9]⟩,ty,ps,af,gd⟩ env H m I (λy:Option Addr × Nat=>(d,rowS id y.1 (l ++ t).length y.2) :: env)
   (λy=>(id,rowE kBy y.1 y.2 (l ++ t)) :: H) (λ_=>I):=by
 intro w a hm hst ha
 have hdn:d < n:=Nat.lt_of_lt_of_le (Nat.lt_succ_self d) (Nat.le_of_ble_eq_true hd)
 have ht:Tryz.prog.underlying 22=some (.slice 5):=tk.und rfl
 have hu:Tryz.prog.underlying 9=some .string:=tk.und rfl
 have hi:Tryz.prog.info? 5=some Tryz.t5:=tk.get (by kernel_rfl)
 have hz:(Tryz.t5).zero=some (.int .u8 0):=by kernel_rfl
 have hown:w.ownsRow B0 5 1 (.slice A l.length c) l.length (l.flatMap kBy.cs):=hst.row (κ:=kBy) hH
 have hlen:((l ++ t).flatMap kBy.cs)=l.flatMap kBy.cs ++ Lib.strCells ⟨⟨t⟩⟩:=by rw [List.flatMap_append,strCells_flat]
 have hfl:(l.flatMap kBy.cs).length=l.length:=by rw [kBy.flL,show kBy.sz=1 from rfl,Nat.mul_one]
 have hsz:(⟨⟨t⟩⟩:ByteArray).size=t.length:=rfl
 have key:∃ A' c' w',(Builtin.append_ #[22,9] ty #[.slice A l.length c,.string ⟨⟨t⟩⟩]).run Tryz.prog w = .ok (.slice A' (l ++ t).length c') w'/\w'.ownsRow B0 5 1 (.slice A' (l ++ t).length c') (l ++ t).length ((l ++ t).flatMap kBy.cs)/\w.grownBy w' (Value.slice A l.length c).ownBlock/\((Value.slice A' (l ++ t).length c').ownBlock=(Value.slice A l.length c).ownBlock ∨ (Value.slice A' (l ++ t).length c').ownBlock=some w.heap.size):=by
  rw [hlen,List.length_append]
  rcases hown.2 with ⟨h1,h2⟩|⟨g,cap,cur,hv,hg,hh,hc,hmx,hcs,htk⟩
  ·exact absurd (List.length_eq_zero_iff.1 h2) hp
  ·injection hv with h3 h4 h5
   subst h3;subst h5
   have hpos:0 < l.length:=List.length_pos_iff.2 hp
   by_cases hroom:l.length+t.length ≤ c
   ·obtain ⟨w',q1,q2,q3⟩:=Lib.run_append_fits_string (P:=Tryz.prog) w B0 22 9 ty 5 Tryz.t5 ht hu hi rfl (some ⟨g,0,none⟩) l.length c (l.flatMap kBy.cs) hown ⟨⟨t⟩⟩ (by omega) hroom
    exact ⟨_,_,w',q1,q2,q3,.inl rfl⟩
   ·have holds:∀ j u,(l.flatMap kBy.cs)[j]? = some u->w.cell? ((⟨g,0,none⟩:Addr).add j)=some u:=hown.cells (g:=g) rfl
    have hr:=Lib.run_append_grow_string (P:=Tryz.prog) w 22 9 ty 5 Tryz.t5 (.int .u8 0) ht hu hi hz ⟨g,0,none⟩ l.length c (l.flatMap kBy.cs) (by rw [hfl];exact (Nat.mul_one _).symm) holds ⟨⟨t⟩⟩ (by rw [hsz];omega) (by rw [hsz];omega) (growslice_fits (by rw [hsz];omega) (by rw [hsz,show (Tryz.t5).bytes=1 from rfl];omega))
    rw [hsz] at hr
    refine ⟨_,_,_,hr,⟨by rw [List.length_append,hfl,Lib.strCells_length,hsz,Nat.mul_one],.inr ⟨w.heap.size,_,_,rfl,hst.base,heap_alloc_new w.drew _,grownCap_ge w _ c _,grownCap_le_maxLen w _ c _ (by simp only [maxLen];omega),?_,?_⟩⟩,⟨rfl,rfl,rfl,by simp,λk hk _=>heap_alloc_old w.drew _ (h:=hk)⟩,.inr rfl⟩
    ·have hge:=grownCap_ge w (l.length+t.length) c 5
     have hz1:(Value.int IntKind.u8 0).cells.size=1:=rfl
     simp only [Array.size_append,List.size_toArray,size_zeroCells,hz1,hfl,Lib.strCells_length,hsz]
     omega
    ·simp only [Array.toList_append,List.append_assoc]
     rw [← List.append_assoc]
     exact List.take_left' (by rw [List.length_append,hfl,Lib.strCells_length,hsz,Nat.mul_one])
 obtain ⟨A',c',w',hr,h2,h3,h5⟩:=key
 unfold Oper.wp
 have:(execOp a.eval ⟨some d,.call ⟨.builtin .append,#[s,x],#[22,9]⟩,ty,ps,af,gd⟩).run Tryz.prog w = .ok (.value (.slice A' (l ++ t).length c')) w':=by
  have hsv:a.eval s = .slice A l.length c:=ev_run ha hs
  have hxv:a.eval x = .string ⟨⟨t⟩⟩:=ev_run ha hx
  simp only [execOp,resolve,invoke,builtin,Sem.run_bind,Sem.run_pure,Result.andThen_ok,List.map_toArray,List.map_cons,List.map_nil,hsv,hxv,hr]
 rw [this]
 refine ⟨(A',c'),?_,by rw [← hm];exact h3.size,?_⟩
 ·rw [kn_cons];exact ha.put hdn _
 ·refine hst.turn id (.row (.slice A l.length c) kBy.T kBy.sz l.length (l.flatMap kBy.cs)) (.row (.slice A' (l ++ t).length c') kBy.T kBy.sz (l ++ t).length ((l ++ t).flatMap kBy.cs)) hH (agr_grown h3) h2 λk hk'=>?_
  rcases h5 with h5|h5
  ·exact .inl (h5.symm.trans hk')
  ·right
   have:some k=some w.heap.size:=hk'.symm.trans h5
   injection this with this
   omega
end
structure Com where
 root:Sum
 ps:Row Sum
 note:Str
def Com.ev (x:Com):EV:=.st [.val (sumV x.root),x.ps.av,.val (strV x.note)]
theorem map_flat (l:List UInt8):l.map u8V=l.flatMap kBy.cs:=by
 induction l with
 | nil=>rfl
 | cons x r ih=>rw [List.map_cons,List.flatMap_cons,ih];rfl
theorem slice_all (w:World) (a o:Nat):(Instr.sliceAt 40 (.pointer (some ⟨a,o,none⟩)) none none none).run Tryz.prog w = .ok (.slice (some ⟨a,o,none⟩) 32 32) w:=by
 have h1:(underlying 40).run Tryz.prog w = .ok (.array 32 5) w:=run_underlying (tk.und rfl) w
 have h2:(sizeOf 5).run Tryz.prog w = .ok 1 w:=run_tsize tk (i:=Tryz.t5) rfl
 simp [Instr.sliceAt,Instr.sliceBounds,Instr.sliceBound,h1,h2,asIntOf,Instr.sureAddr,Addr.add_lit]
end Go.Proofs.YtbfjmimiigjenaaGreatDoor
