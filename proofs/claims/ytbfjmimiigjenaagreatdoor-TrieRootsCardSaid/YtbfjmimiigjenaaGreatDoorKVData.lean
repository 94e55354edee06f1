/-
Lemmas. No condition.
-/
import Derived.Test.YtbfjmimiigjenaaGreatDoorKVTab
import Derived.Test.YtbfjmimiigjenaaGreatDoorKVCall
set_option linter.unusedVariables false
set_option linter.unusedSectionVars false
set_option linter.unusedSimpArgs false
namespace Go.Proofs.YtbfjmimiigjenaaGreatDoor.V
open Go Go.RowKit
abbrev Str:=List UInt8
abbrev strV (s:Str):Value:=.string ⟨⟨s⟩⟩
abbrev intV (n:Int):Value:=.int .i64 n
def u8V (b:UInt8):Value:=.int .u8 b.toNat
structure Sum where
 l:List UInt8
 h:l.length=32
deriving DecidableEq
def sumV (s:Sum):Value:=.agg (s.l.map u8V).toArray
theorem sumV_ok (s:Sum):(s.l.map u8V).toArray.size=32/\∀ u ∈ (s.l.map u8V).toArray.toList,u.oneCell'=true:=by
 refine ⟨by simp [s.h],λu hu=>?_⟩
 simp only [List.mem_map] at hu
 obtain ⟨b,_,rfl⟩:=hu
 rfl
def Sum.zero:Sum:=⟨List.replicate 32 0,by simp⟩
structure Kd (α:Type) where
 T:TypeId
 sz:Nat
 ev:α->EV
 ok:∀ x,VOk tb T (ev x).v
 size:∀ x,(ev x).v.cells.size=sz
def Kd.cs {α:Type} (κ:Kd α) (x:α):List Value:=(κ.ev x).v.cells.toList
theorem Kd.cs_len {α:Type} (κ:Kd α) (x:α):(κ.cs x).length=κ.sz:=by simp [Kd.cs,κ.size]
theorem Kd.flL {α:Type} (κ:Kd α) (l:List α):(l.flatMap κ.cs).length=l.length*κ.sz:=by
 induction l with
 | nil=>simp
 | cons x r ih=>simp [ih,κ.cs_len,Nat.succ_mul,Nat.add_comm]
theorem Kd.one {α:Type} (κ:Kd α) (l:List α):∀ u ∈ l.flatMap κ.cs,u.oneCell'=true:=by
 intro u hu
 obtain ⟨x,_,hx⟩:=List.mem_flatMap.1 hu
 exact (κ.ok x).one u hx
theorem Kd.get {α:Type} (κ:Kd α):∀ (l:List α) (i:Nat) (h:i < l.length),((l.flatMap κ.cs).drop (i*κ.sz)).take κ.sz=κ.cs l[i]
 | [],i,h=>by cases h
 | x :: r,0,_=>by
  simp only [Nat.zero_mul,List.drop_zero,List.flatMap_cons,List.getElem_cons_zero]
  exact List.take_left' (κ.cs_len x)
 | x :: r,i+1,h=>by
  simp only [List.flatMap_cons,List.getElem_cons_succ]
  rw [Nat.succ_mul,Nat.add_comm,← κ.cs_len x,List.drop_length_add_append,κ.cs_len]
  exact Kd.get κ r i (by simpa using h)
def lim:Nat:=140737488351232
structure Sl {α:Type} (κ:Kd α) (w:World) (A:Option Addr) (c:Nat) (l:List α):Prop where
 cap:l.length ≤ c
 small:l.length ≤ lim
 addr:l ≠ []->Ptr A
 cells:w.rangeAt (blkA A) (offA A) (l.flatMap κ.cs)
 nil:A=none->l=[]/\c=0
theorem range_ext {w w':World} (he:Ext w w') {b o:Nat} {cs:List Value} (h:w.rangeAt b o cs):w'.rangeAt b o cs:=by
 intro j v hv
 have h1:=h j v hv
 have hlt:b < w.heap.size:=World.block_lt_of_cell? w ⟨b,o+j,none⟩ h1
 rw [← h1]
 exact World.cell?_of_block (he.block b hlt)
section
variable {α:Type} {κ:Kd α} {w w':World} {A:Option Addr} {c:Nat} {l:List α}
theorem Sl.ext (h:Sl κ w A c l) (he:Ext w w'):Sl κ w' A c l:=⟨h.cap,h.small,h.addr,range_ext he h.cells,h.nil⟩
theorem Sl.void (w:World):Sl κ w none 0 []:=⟨Nat.le_refl _,Nat.zero_le _,λh=>absurd rfl h,λj v hv=>by simp at hv,λ_=>⟨rfl,rfl⟩⟩
theorem Sl.load (h:Sl κ w A c l) {i:Nat} (hi:i < l.length):(loadVar κ.T ⟨blkA A,offA A+i*κ.sz,none⟩).run Tryz.prog w = .ok (κ.ev l[i]).v w:=by
 refine run_load tk (κ.ok _) λj v hv=>?_
 have hg:=κ.get l i hi
 have hj:j < κ.sz:=by
  have:=(List.getElem?_eq_some_iff.1 hv).1
  rw [← κ.size l[i]];simpa using this
 have:(l.flatMap κ.cs)[i*κ.sz+j]? = some v:=by
  have h1:(((l.flatMap κ.cs).drop (i*κ.sz)).take κ.sz)[j]? = some v:=by rw [hg];exact hv
  rw [List.getElem?_take,if_pos hj,List.getElem?_drop] at h1
  exact h1
 have h2:=h.cells _ _ this
 rw [← Nat.add_assoc] at h2
 exact h2
theorem Sl.ptr (h:Sl κ w A c l) {i:Nat} (hi:i < l.length):Ptr A:=h.addr λe=>by rw [e] at hi;cases hi
end
theorem und_sum:tb.und 40=some (.array 32 5):=rfl
theorem vok_sum (s:Sum):VOk tb 40 (sumV s):=⟨_,Tryz.t40,rfl,rfl,(sumV_ok s).1,(sumV_ok s).2⟩
theorem vok_str (s:Str):VOk tb 9 (strV s):=⟨rfl,Tryz.t9,rfl,rfl⟩
theorem vok_int (n:Int):VOk tb 3 (intV n):=⟨rfl,Tryz.t3,rfl,rfl⟩
structure Entry where
 path:Str
 sum:Sum
deriving DecidableEq
def entryF (e:Entry):List AV:=[.val (strV e.path),.val (sumV e.sum)]
theorem vok_entry (e:Entry):VOk tb 235 (EV.st (entryF e)).v:=by
 refine ⟨_,Tryz.t235,rfl,rfl,?_,?_⟩
 ·have:(sumV e.sum).cells.size=32:=(sumV_ok e.sum).1
  simp only [entryF,List.map_cons,List.map_nil,flat_cons,flat_nil,AV.v,List.append_nil,List.size_toArray,List.length_append,Array.length_toList,this]
  rfl
 ·intro u hu
  simp only [entryF,List.map_cons,List.map_nil,flat_cons,flat_nil,AV.v,List.append_nil,List.mem_append] at hu
  rcases hu with hu|hu
  ·exact (vok_str e.path).one u hu
  ·exact (vok_sum e.sum).one u hu
def kStr:Kd Str where
 T:=9
 sz:=1
 ev s:=.av (.val (strV s))
 ok s:=vok_str s
 size s:=rfl
def kSum:Kd Sum where
 T:=40
 sz:=32
 ev s:=.av (.val (sumV s))
 ok s:=vok_sum s
 size s:=(sumV_ok s).1
def kEntry:Kd Entry where
 T:=235
 sz:=33
 ev e:=.st (entryF e)
 ok e:=vok_entry e
 size e:=by
  obtain ⟨i,hi,hs⟩:=(vok_entry e).size
  rw [hs]
  have:tb.get 235=some Tryz.t235:=rfl
  rw [this] at hi;injection hi with hi;subst hi;rfl
end Go.Proofs.YtbfjmimiigjenaaGreatDoor.V
namespace Go.Proofs.YtbfjmimiigjenaaGreatDoor.V
open Go
abbrev slE (A:Option Addr) (n c:Nat):EV:=.av (.val (.slice A n c))
abbrev intE (n:Int):EV:=.av (.val (intV n))
abbrev strE (s:Str):EV:=.av (.val (strV s))
abbrev boE (b:Bool):EV:=.av (.val (.bool b))
abbrev sumE (s:Sum):EV:=.av (.val (sumV s))
end Go.Proofs.YtbfjmimiigjenaaGreatDoor.V
