/-
Lemmas. No condition.
-/
import Derived.Lib.Join
import Derived.Lib.Overlaps
import Derived.Test.YtbfjmimiigjenaaGreatDoorKSPath
import Derived.Test.YtbfjmimiigjenaaGreatDoorKVKey
import Derived.Test.YtbfjmimiigjenaaGreatDoorKVMake
set_option linter.unusedVariables false
set_option linter.unusedSimpArgs false
namespace Go.Proofs.YtbfjmimiigjenaaGreatDoor
open Go V
abbrev nilSp:EV:=.st [.val (.slice none 0 0),.val (.slice none 0 0)]
theorem V.Sl.drop {α:Type} {κ:Kd α} {w:World} {A:Option Addr} {c:Nat} {l:List α} (h:Sl κ w A c l) (i:Nat) (hi:i ≤ l.length):Sl κ w (subA A i c κ.sz) (c - i) (l.drop i):=by
 have hcap:=h.cap
 have hsm:=h.small
 refine ⟨by rw [List.length_drop];omega,by rw [List.length_drop];omega,λhn=>?_,?_,λe=>?_⟩
 ·have hlt:i < l.length:=by
   rcases Nat.lt_or_ge i l.length with h1|h1
   ·exact h1
   ·exact absurd (List.drop_eq_nil_of_le h1) hn
  have hp:=h.ptr hlt
  unfold Ptr at hp
  obtain ⟨bk,o,hA⟩:∃ bk o,A=some ⟨bk,o,none⟩:=⟨_,_,hp⟩
  subst hA
  unfold subA
  rw [if_neg (by omega),Option.map_some,Addr.add_lit];rfl
 ·by_cases hc:c=i
  ·have:l.drop i=[]:=List.drop_eq_nil_of_le (by omega)
   rw [this]
   intro j v hj
   simp at hj
  ·unfold subA
   rw [if_neg hc]
   intro j v hj
   have hne:l ≠ []:=by rintro rfl;simp at hj
   have hp:=h.addr hne
   unfold Ptr at hp
   obtain ⟨bk,o,hA⟩:∃ bk o,A=some ⟨bk,o,none⟩:=⟨_,_,hp⟩
   subst hA
   rw [Option.map_some,Addr.add_lit]
   show w.cell? ⟨bk,o+i*κ.sz+j,none⟩=some v
   rw [Nat.add_assoc]
   refine h.cells _ v ?_
   have e:l.flatMap κ.cs=(l.take i).flatMap κ.cs ++ (l.drop i).flatMap κ.cs:=by rw [← List.flatMap_append,List.take_append_drop]
   have hl:((l.take i).flatMap κ.cs).length=i*κ.sz:=by rw [κ.flL,List.length_take];congr 1;omega
   rw [e,List.getElem?_append_right (by omega),hl,Nat.add_sub_cancel_left]
   exact hj
 ·unfold subA at e
  split at e
  ·obtain ⟨rfl,h2⟩:=h.nil e
   exact ⟨List.drop_nil,by omega⟩
  ·have:A=none:=by cases A with
    | none=>rfl
    | some a=>cases e
   obtain ⟨rfl,h2⟩:=h.nil this
   exact ⟨List.drop_nil,by omega⟩
def joinD:List Str->Str
 | []=>[]
 | [x]=>x
 | x :: y :: r=>x ++ 46 :: joinD (y :: r)
def endsOf (p:Str):List Str:=(List.range (words p).length).map λj=>joinD ((words p).drop ((words p).length - 1 - j))
structure Wk (w:World) (b:Nat) (A:Option Addr) (c:Nat) (B:Option Addr) (c2:Nat) (t y:List Entry):Prop where
 hb:w.heap[b]? = some (.cells #[.slice A t.length c,.slice B y.length c2] 266)
 ht:Sl kEntry w A c t
 hy:Sl kEntry w B c2 y
def kA {α:Type} (k:Int) (a b:α):α:=if k=1 then a else b
theorem kV (k:Int) (A B:Option Addr) (c c2:Nat) (t y:List Entry):(if k=1 then Value.slice A t.length c else .slice B y.length c2) = .slice (kA k A B) (kList k t y).length (kA k c c2):=by
 unfold kA kList;split<;>rfl
theorem Wk.sl {w:World} {b c c2:Nat} {A B:Option Addr} {t y:List Entry} (h:Wk w b A c B c2 t y) (k:Int):Sl kEntry w (kA k A B) (kA k c c2) (kList k t y):=by
 unfold kA kList;split
 ·exact h.ht
 ·exact h.hy
theorem Wk.ext {w w':World} {b c c2:Nat} {A B:Option Addr} {t y:List Entry} (h:Wk w b A c B c2 t y) (he:Ext w w'):Wk w' b A c B c2 t y :=
 ⟨by rw [he.block b (Array.getElem?_eq_some_iff.1 h.hb).1];exact h.hb,h.ht.ext he,h.hy.ext he⟩
theorem Wk.load {w:World} {b c c2:Nat} {A B:Option Addr} {t y:List Entry} (h:Wk w b A c B c2 t y) (k:Int) :
  (loadVar 129 ⟨b,kOff k,none⟩).run Tryz.prog w = .ok (slE (kA k A B) (kList k t y).length (kA k c c2)).v w:=by
 have:=load_wk h.hb k
 rw [kV] at this;exact this
def found1 (text:Str) (x:Entry):List Entry:=((endsOf x.path).filter λe=>decide (e=text)).map λ_=>x
def foundL (l:List Entry) (text:Str):List Entry:=if isAt l text=true then [l.getD (posOf l text) zeroE] else l.flatMap (found1 text)
theorem flL {α β:Type} (f:α->List β) (q:Nat):∀ (l:List α),(∀ x ∈ l,(f x).length ≤ q)->(l.flatMap f).length ≤ l.length*q
 | [],_=>by simp
 | x :: r,h=>by
  have ih:=flL f q r λy hy=>h y (List.mem_cons_of_mem _ hy)
  have:=h x (by simp)
  rw [List.flatMap_cons,List.length_append,List.length_cons,Nat.succ_mul]
  omega
def askE (t y:List Entry) (k:Int) (l:List Str):Int:=if kindE t y k=0 then pathsE l else kindE t y k
def findE (t y:List Entry) (k:Int) (x:Str):Int:=if askE t y k [x]=0 then (if foundL (kList k t y) x=[] then 6 else 0) else askE t y k [x]
def findL (t y:List Entry) (k:Int) (x:Str):List Entry:=if askE t y k [x]=0 then foundL (kList k t y) x else []
def plainE (t y:List Entry) (k:Int) (x:Str):Int:=if findE t y k x=0 then (if oneB (findL t y k x)=true then 0 else 7) else findE t y k x
abbrev Zr:=List (Sum × (Option Addr × Nat))
theorem V.RH.free {P:Program} {f:Fr} {n:Nat} {S:Stops} {R:Ending->World->Prop} {tb:TT} {B0:Nat} {I:World->Prop} {H:Heap} {nx m:Nat} {env:SEnv} {todo:List Item} {i:Nat} {x:HE} (hx:loH H i=some x)
  (h:RH P f n tb B0 S R todo env ((i,none) :: H) nx m (λu=>I u/\x.holds tb B0 u)):RH P f n tb B0 S R todo env H nx m I :=
 λw hm hst=>h w hm (hst.free hx)
theorem op_cap {P:Program} {n:Nat} {env:SEnv} {a:Act} (ha:Agree n a (kn env)) {d:Option Nat} {x:Operand} {T ty e:TypeId} {ps:String} {af:Array Edge} {gd:Option (Nat × Bool)} {ex:EV} {A:Option Addr} {n_ c:Nat} {w:World}
  (hx:evE env x=some ex) (hv:ex.v = .slice A n_ c) (hT:P.underlying T=some (.slice e)) :
  (execOp a.eval ⟨d,.call ⟨.builtin .cap,#[x],#[T]⟩,ty,ps,af,gd⟩).run P w = .ok (.value (intE c).v) w:=by
 have hxv:a.eval x = .slice A n_ c:=(ev_run ha hx).trans hv
 simp only [execOp,resolve,invoke,builtin,Sem.run_bind,Sem.run_pure,Result.andThen_ok,List.map_toArray,List.map_cons,List.map_nil,hxv,Builtin.cap_]
 simp [run_underlying hT,goInt]
 rfl
theorem V.RD.loadG {P:Program} {f:Fr} {n:Nat} {tb:TT} {B0:Nat} {S:Stops} {R:Ending->World->Prop} {k:List Item} {ops:Array Oper} {G:Heap} {I0:World->Prop} {fuel:Nat} {l:List Bool} {env:SEnv} {H:Heap} {nx m:Nat} {I:World->Prop} (hp:pairOk ops=true) {i d:Nat} {T:TypeId} {x:Operand} {ty:TypeId} {ps:String} {af:Array Edge} {gd:Option (Nat × Bool)} {p:Addr} (e:EV) (ho:ops.toList[i]? = some ⟨some d,.load T x,ty,ps,af,gd⟩) (hdn:Nat.blt d n=true) (hw:wantE env ops gd = .yes)
  (hl:l[i]? = some false) (hr:readyE l ⟨some d,.load T x,ty,ps,af,gd⟩=true) (hx:ptrE (evE env x)=some p) (hv:∀ w,St tb B0 G I0 w->(loadVar T p).run P w = .ok e.v w)
  (h:RD P f n tb B0 S R k ops G I0 fuel (l.set i true) ((d,e) :: env) H nx m I):RD P f n tb B0 S R k ops G I0 (fuel+1) l env H nx m I:=by
 obtain ⟨ex,h1,h2⟩:=ptrE_ok hx
 rw [Array.getElem?_toList] at ho
 exact RD.take hp ho rfl (Nat.lt_of_lt_of_le (Nat.lt_succ_self d) (Nat.le_of_ble_eq_true hdn)) hl hr (λa ha=>.inl ⟨wantE_yes (o:=⟨some d,.load T x,ty,ps,af,gd⟩) hw ha,λw hst=>by simp [execOp,Instr.loadAt,ev_run ha h1,h2,Instr.sureAddr,hv w hst]⟩) h
abbrev wkK (k:Int) (b:Nat) (vs vo:Value):Option HE:=wkE b (kA k vs vo) (kA k vo vs)
abbrev wkKG (k:Int) (b:Nat) (ls lo:List Entry) (zs zo:Option Addr × Nat):Heap :=
 [(0,wkK k b (slV zs.1 ls.length zs.2) (slV zo.1 lo.length zo.2)),(1,rowE kEntry zs.1 zs.2 ls),(2,rowE kEntry zo.1 zo.2 lo)]
end Go.Proofs.YtbfjmimiigjenaaGreatDoor
