/-
Lemmas. No condition.
-/
import Derived.Test.YtbfjmimiigjenaaGreatDoorKVMem
set_option linter.unusedVariables false
set_option linter.unusedSectionVars false
set_option linter.unusedSimpArgs false
namespace Go.Proofs.YtbfjmimiigjenaaGreatDoor.V
open Go Go.RowKit
inductive Ob where
  | dec (t b:Bool)
  | rng (x:Int)
  | idx (i:Int) (n:Nat)
  | bnd (lo hi:Int) (n:Nat)
  | div (x y:Int)
  | agg (cs:Array Value) (n:Nat)
  | ptr (A:Option Addr)
def blkA:Option Addr->Nat
  | some p=>p.block
  | none=>0
def offA:Option Addr->Nat
  | some p=>p.off
  | none=>0
def Ptr (A:Option Addr):Prop:=A=some ⟨blkA A,offA A,none⟩
def Ob.P:Ob->Prop
  | .dec t b=>t=b
  | .rng x=>-9223372036854775808 ≤ x/\x ≤ 9223372036854775807
  | .idx i n=>0 ≤ i/\i < n
  | .bnd lo hi n=>0 ≤ lo/\lo ≤ hi/\hi ≤ n
  | .div x y=>0 ≤ x/\x ≤ 9223372036854775807/\0 < y
  | .agg cs n=>cs.size=n/\∀ u ∈ cs.toList,u.oneCell'=true
  | .ptr A=>Ptr A
def AllOb:List Ob->Prop
  | []=>True
  | o :: r=>o.P/\AllOb r
inductive Eqn where
  | nat (a b:Nat)
  | val (a b:Value)
def Eqn.l:Eqn->Value
  | .nat a _=>.int .u64 a
  | .val a _=>a
def Eqn.r:Eqn->Value
  | .nat _ b=>.int .u64 b
  | .val _ b=>b
def AllEqn (l:List Eqn):Prop:=l.map Eqn.l=l.map Eqn.r
theorem AllEqn.cons {e:Eqn} {l:List Eqn} (h:AllEqn (e :: l)):e.l=e.r/\AllEqn l:=by
  unfold AllEqn at h
  simp only [List.map_cons,List.cons.injEq] at h
  exact h
theorem Eqn.nat_eq {a b:Nat} (h:(Eqn.nat a b).l=(Eqn.nat a b).r):a=b:=by
  simp only [Eqn.l,Eqn.r,Value.int.injEq] at h
  omega
def cmpI (op:BinOp) (a b:Int):Option Value :=
  match op with
  | .eql=>some (.bool (decide (a=b)))
  | .neq=>some (.bool (!decide (a=b)))
  | .lss=>some (.bool (decide (a < b)))
  | .leq=>some (.bool (decide (a ≤ b)))
  | .gtr=>some (.bool (decide (b < a)))
  | .geq=>some (.bool (decide (b ≤ a)))
  | _=>none
def cmpS (op:BinOp) (a b:List UInt8):Option Value :=
  match op with
  | .eql=>some (.bool (decide (a=b)))
  | .neq=>some (.bool (!decide (a=b)))
  | .lss=>some (.bool (Op.bytesLess a b))
  | .leq=>some (.bool (Op.bytesLess a b || decide (a=b)))
  | .gtr=>some (.bool (!(Op.bytesLess a b || decide (a=b))))
  | .geq=>some (.bool (!Op.bytesLess a b))
  | _=>none
def sameK:IntKind->IntKind->Bool
  | .i64,.i64|.i32,.i32|.u8,.u8|.u32,.u32|.u64,.u64|.i8,.i8|.i16,.i16|.u16,.u16=>true
  | _,_=>false
theorem sameK_eq {j k:IntKind} (h:sameK j k=true):j=k:=by cases j<;>cases k<;>first|rfl|cases h
def arith (op:BinOp) (k:IntKind) (a b:Int) (ob:List Ob):Option (Value × List Ob) :=
  match k,op with
  | .i64,.add=>some (.int .i64 (a+b),.rng (a+b) :: ob)
  | .i64,.sub=>some (.int .i64 (a - b),.rng (a - b) :: ob)
  | .i64,.mul=>some (.int .i64 (a*b),.rng (a*b) :: ob)
  | .i64,.quo=>some (.int .i64 (a / b),.div a b :: ob)
  | .i64,.rem=>some (.int .i64 (a % b),.div a b :: ob)
  | .u8,.add=>some (.int .u8 ((a+b) % 256),ob)
  | .u8,.sub=>some (.int .u8 ((a - b) % 256),ob)
  | .u32,.add=>some (.int .u32 ((a+b) % 4294967296),ob)
  | .u64,.add=>some (.int .u64 ((a+b) % 18446744073709551616),ob)
  | .u64,.mul=>some (.int .u64 ((a*b) % 18446744073709551616),ob)
  | k,op=>match cmpI op a b with
    | some v=>some (v,ob)
    | none=>none
def bitsI (op:BinOp) (k:IntKind) (a b:Int):Option Value :=
  match op with
  | .and=>some (.int k (k.wrap (BitVec.ofInt k.bits a &&& BitVec.ofInt k.bits b).toNat))
  | .or=>some (.int k (k.wrap (BitVec.ofInt k.bits a ||| BitVec.ofInt k.bits b).toNat))
  | .xor=>some (.int k (k.wrap (BitVec.ofInt k.bits a ^^^ BitVec.ofInt k.bits b).toNat))
  | .andNot=>some (.int k (k.wrap (BitVec.ofInt k.bits a &&& ~~~(BitVec.ofInt k.bits b)).toNat))
  | _=>none
def shiftI (op:BinOp) (k:IntKind) (a b:Int):Option Value :=
  match op with
  | .shr=>some (.int k (a.fdiv (2 ^ (min b.toNat k.bits))))
  | .shl=>some (.int k (k.wrap (a*2 ^ (min b.toNat k.bits))))
  | _=>none
def pureBin (tb:TT) (op:BinOp) (t:TypeId) (u v:Value) (ob:List Ob):Option (Value × List Ob) :=
  match u,v with
  | .int k a,.int k' b=>match shiftI op k a b with
    | some v=>some (v,.idx b 9223372036854775808 :: ob)
    | none=>bif sameK k k' then (match bitsI op k a b with
      | some v=>some (v,ob)
      | none=>arith op k a b ob) else none
  | .string ⟨⟨a⟩⟩,.string ⟨⟨b⟩⟩=>match op with
    | .add=>some (.string ⟨⟨a ++ b⟩⟩,.rng ((a.length+b.length:Nat):Int) :: ob)
    | _=>match cmpS op a b with
      | some v=>some (v,ob)
      | none=>none
  | .bool a,.bool b=>match tb.und t with
    | some .bool=>match op with
      | .eql=>some (.bool (a == b),ob)
      | .neq=>some (.bool (!(a == b)),ob)
      | _=>none
    | _=>none
  | .slice A _ _,.slice none _ _=>match tb.und t with
    | some (.slice _)=>match op with
      | .eql=>some (.bool A.isNone,ob)
      | .neq=>some (.bool (!A.isNone),ob)
      | _=>none
    | _=>none
  | _,_=>none
def evE (env:SEnv):Operand->Option EV
  | .tmp t=>lookE env t
  | .const (.bool true)=>some .tt
  | .const (.bool false)=>some .ff
  | .const v=>some (.av (.val v))
  | .global g=>some (.av (.val (.pointer (some ⟨g,0,none⟩))))
  | .func f=>some (.av (.val (.func (.func f) #[] #[])))
theorem evE_eq {env:SEnv} {x:Operand} {e:EV} (h:evE env x=some e):evalK (kn env) x=some e.v:=by
  unfold evE at h
  split at h
  · exact kn_some h
  all_goals (injection h with h;subst h;rfl)
def valE (env:SEnv) (x:Operand):Option Value :=
  match evE env x with
  | some (.av (.val v))=>some v
  | some (.av (.row _ v))=>some v
  | _=>none
theorem valE_eq {env:SEnv} {x:Operand} {v:Value} (h:valE env x=some v):evalK (kn env) x=some v:=by
  unfold valE at h
  split at h
  · rename_i u hu;injection h with h;subst h;exact evE_eq hu
  · rename_i u hu;injection h with h;subst h;exact evE_eq hu
  · cases h
def plainE:EV->Option Value
  | .av (.val v)=>some v
  | .av (.row _ v)=>some v
  | .tt=>some (.bool true)
  | .ff=>some (.bool false)
  | _=>none
theorem plainE_eq {e:EV} {v:Value} (h:plainE e=some v):e.v=v:=by
  unfold plainE at h
  split at h
  · injection h
  · injection h
  · injection h
  · injection h
  · cases h
def cvE:EV->Option CV
  | .av (.val v)=>some (.val v)
  | .tt=>some (.val (.bool true))
  | .ff=>some (.val (.bool false))
  | .av (.box id b 0)=>some (.box id b)
  | _=>none
theorem cvE_eq {e:EV} {c:CV} (h:cvE e=some c):c.v=e.v:=by
  unfold cvE at h
  split at h<;>first|(injection h with h;subst h;rfl)|cases h
def cvsE (env:SEnv):List Operand->Option (List CV)
  | []=>some []
  | x :: r=>match evE env x with
    | some e=>match cvE e with
      | some c=>match cvsE env r with
        | some cs=>some (c :: cs)
        | none=>none
      | none=>none
    | none=>none
def atomE:EV->Option AV
  | .av a=>some a
  | .tt=>some (.val (.bool true))
  | .ff=>some (.val (.bool false))
  | .st _=>none
theorem atomE_eq {e:EV} {a:AV} (h:atomE e=some a):a.v=e.v:=by
  unfold atomE at h
  split at h<;>first|(injection h with h;subst h;rfl)|cases h
def offE (o:Nat):Nat->Nat
  | 0=>o
  | n+1=>o+(n+1)
theorem offE_eq (o n:Nat):offE o n=o+n:=by cases n<;>rfl
def subA (a:Option Addr) (lo cap sz:Nat):Option Addr:=if cap=lo then a else a.map (·.add (lo*sz))
def boundE (env:SEnv):Option Operand->Option (Option Int)
  | none=>some none
  | some x=>match valE env x with
    | some (.int _ j)=>some (some j)
    | _=>none
def pureOp (tb:TT) (env:SEnv) (H:Heap) (ob:List Ob) (eq:List Eqn) (o:Op):Option (EV × List Ob × List Eqn) :=
  match o with
  | .move x=>match evE env x with
    | some e=>some (e,ob,eq)
    | none=>none
  | .assign x=>match evE env x with
    | some e=>some (e,ob,eq)
    | none=>none
  | .pick c a b=>match evE env c with
    | some .tt=>match evE env a with
      | some e=>some (e,ob,eq)
      | none=>none
    | some .ff=>match evE env b with
      | some e=>some (e,ob,eq)
      | none=>none
    | _=>none
  | .binOp op t x y _=>match evE env x with
    | some u=>match evE env y with
      | some v=>match plainE u with
        | some u'=>match plainE v with
          | some v'=>match pureBin tb op t u' v' ob with
            | some (r,ob')=>some (.av (.val r),ob',eq)
            | none=>none
          | none=>none
        | none=>none
      | none=>none
    | none=>none
  | .unOp .not _ x=>match evE env x with
    | some .tt=>some (.ff,ob,eq)
    | some .ff=>some (.tt,ob,eq)
    | some (.av (.val (.bool b)))=>some (.av (.val (.bool !b)),ob,eq)
    | _=>none
  | .extract x i=>match valE env x with
    | some (.tuple vs)=>match vs.toList[i]? with
      | some v=>some (.av (.val v),ob,eq)
      | none=>none
    | _=>none
  | .nilCheck x=>match evE env x with
    | some (.av (.box id b off))=>some (.av (.box id b off),ob,eq)
    | some (.av (.fn (.func g) y z))=>some (.av (.fn (.func g) y z),ob,eq)
    | some (.av (.val (.pointer (some a))))=>some (.av (.val (.pointer (some a))),ob,eq)
    | some (.av (.val (.func (.func g) y z)))=>some (.av (.val (.func (.func g) y z)),ob,eq)
    | some (.av (.val (.slice a n c)))=>some (.av (.val (.slice a n c)),ob,eq)
    | _=>none
  | .makeFunc fn first cap=>match cvsE env first.toList with
    | some a=>match cvsE env cap.toList with
      | some b=>some (.av (.fn fn a b),ob,eq)
      | none=>none
    | none=>none
  | .call { callee:=.builtin .len,args,argTypes }=>match args.toList,argTypes.toList with
    | [x],[t]=>match evE env x with
      | some (.av (.val (.slice _ n _)))=>match tb.und t with
        | some (.slice _)=>some (.av (.val (.int .i64 n)),ob,eq)
        | _=>none
      | some (.av (.val (.string ⟨⟨s⟩⟩)))=>match tb.und t with
        | some .string=>some (.av (.val (.int .i64 s.length)),ob,eq)
        | _=>none
      | some (.av (.row _ (.slice _ n _)))=>match tb.und t with
        | some (.slice _)=>some (.av (.val (.int .i64 n)),ob,eq)
        | _=>none
      | _=>none
    | _,_=>none
  | .fieldAddr s x f=>match tb.und s with
    | some (.struct fs)=>match fs.toList[f]? with
      | some fd=>match tb.get fd.type with
        | some i=>bif Nat.beq i.size 0 then none else match evE env x with
          | some (.av (.box id b o))=>some (.av (.box id b (offE o fd.offset)),ob,eq)
          | some (.av (.val (.pointer (some ⟨b,o,none⟩))))=>some (.av (.val (.pointer (some ⟨b,offE o fd.offset,none⟩))),ob,eq)
          | _=>none
        | none=>none
      | none=>none
    | _=>none
  | .convert s d x=>match tb.und s with
    | some _=>match tb.und d with
      | some .string=>match valE env x with
        | some (.string u)=>some (.av (.val (.string u)),ob,eq)
        | _=>none
      | some (.int .i64)=>match valE env x with
        | some (.int _ n)=>some (.av (.val (.int .i64 n)),.rng n :: ob,eq)
        | _=>none
      | some (.int .u8)=>match valE env x with
        | some (.int _ n)=>some (.av (.val (.int .u8 (n % 256))),ob,eq)
        | _=>none
      | some (.int .u32)=>match valE env x with
        | some (.int _ n)=>some (.av (.val (.int .u32 (n % 4294967296))),ob,eq)
        | _=>none
      | some (.int .u64)=>match valE env x with
        | some (.int _ n)=>some (.av (.val (.int .u64 (n % 18446744073709551616))),ob,eq)
        | _=>none
      | _=>none
    | none=>none
  | .index t x i=>match tb.und t with
    | some .string=>match valE env x with
      | some (.string ⟨⟨s⟩⟩)=>match valE env i with
        | some (.int _ j)=>some (.av (.val (.int .u8 (s.getD j.toNat 0).toNat)),.idx j s.length :: ob,eq)
        | _=>none
      | _=>none
    | _=>none
  | .indexAddr t x i=>match tb.und t with
    | some (.slice e)=>match tb.get e with
      | some ei=>match valE env x with
        | some (.slice A n _)=>match valE env i with
          | some (.int _ j)=>some (.av (.val (.pointer (some ⟨blkA A,offA A+j.toNat*ei.size,none⟩))),.ptr A :: .idx j n :: ob,eq)
          | _=>none
        | _=>none
      | none=>none
    | some (.array n e)=>match tb.get e with
      | some ei=>match evE env x with
        | some (.av (.box _ b o))=>match valE env i with
          | some (.int _ j)=>some (.av (.val (.pointer (some ⟨b,offE (j.toNat*ei.size) o,none⟩))),.idx j n :: ob,eq)
          | _=>none
        | some (.av (.val (.pointer (some ⟨b,o,none⟩))))=>match valE env i with
          | some (.int _ j)=>some (.av (.val (.pointer (some ⟨b,offE (j.toNat*ei.size) o,none⟩))),.idx j n :: ob,eq)
          | _=>none
        | _=>none
      | none=>none
    | _=>none
  | .slice t x lo hi none=>match tb.und t with
    | some .string=>match valE env x with
      | some (.string ⟨⟨s⟩⟩)=>match boundE env lo with
        | some none=>match boundE env hi with
          | some none=>none
          | some (some h)=>some (.av (.val (.string ⟨⟨s.take h.toNat⟩⟩)),.bnd 0 h s.length :: ob,eq)
          | none=>none
        | some (some l)=>match boundE env hi with
          | some none=>some (.av (.val (.string ⟨⟨s.drop l.toNat⟩⟩)),.bnd l s.length s.length :: ob,eq)
          | some (some h)=>some (.av (.val (.string ⟨⟨(s.take h.toNat).drop l.toNat⟩⟩)),.bnd l h s.length :: ob,eq)
          | none=>none
        | none=>none
      | _=>none
    | some (.slice e)=>match tb.get e with
      | some ei=>match valE env x with
        | some (.slice A n c)=>match boundE env lo with
          | some none=>match boundE env hi with
            | some none=>none
            | some (some h)=>some (.av (.val (.slice A h.toNat c)),.bnd 0 h c :: ob,eq)
            | none=>none
          | some (some l)=>match boundE env hi with
            | some none=>some (.av (.val (.slice (subA A l.toNat c ei.size) (n - l.toNat) (c - l.toNat))),.bnd l n c :: ob,eq)
            | some (some h)=>some (.av (.val (.slice (subA A l.toNat c ei.size) (h.toNat - l.toNat) (c - l.toNat))),.bnd l h c :: ob,eq)
            | none=>none
          | none=>none
        | _=>none
      | none=>none
    | _=>none
  | .unOp .xor _ x=>match valE env x with
    | some (.int k n)=>match bitsI .xor k (if k.signed then -1 else k.max) n with
      | some v=>some (.av (.val v),ob,eq)
      | none=>none
    | _=>none
  | _=>none
theorem bytes_toList (l:List UInt8):(ByteArray.mk ⟨l⟩).toList=l:=by
  have key:∀ (m i:Nat) (r:List UInt8),l.length - i=m->i ≤ l.length->ByteArray.toList.loop (ByteArray.mk ⟨l⟩) i r=r.reverse ++ l.drop i:=by
    intro m
    induction m with
    | zero =>
      intro i r hm hi
      rw [ByteArray.toList.loop]
      have hsz:(ByteArray.mk ⟨l⟩).size=l.length:=rfl
      rw [if_neg (by rw [hsz];omega),List.drop_eq_nil_of_le (by omega)]
      simp
    | succ m ih =>
      intro i r hm hi
      rw [ByteArray.toList.loop]
      have hsz:(ByteArray.mk ⟨l⟩).size=l.length:=rfl
      rw [if_pos (by rw [hsz];omega),ih (i+1) _ (by omega) (by omega)]
      have hlt:i < l.length:=by omega
      have hget:(ByteArray.mk ⟨l⟩).get! i=l[i]:=by
        show (Array.mk l)[i]! = _
        simp [hlt]
      rw [hget,List.drop_eq_getElem_cons hlt,List.reverse_cons,List.append_assoc]
      rfl
  have:=key (l.length - 0) 0 [] rfl (Nat.zero_le _)
  simpa [ByteArray.toList] using this
section
variable {P:Program} {n:Nat} {a:Act} {env:SEnv} {w:World} {tb:TT} {H:Heap} {B0:Nat} {I:World->Prop}
theorem run_und {t:Nat} {d:TypeDesc} (h:P.underlying t=some d):(underlying t).run P w = .ok d w:=run_underlying h w
theorem ev_run (ha:Agree n a (kn env)) {x:Operand} {e:EV} (h:evE env x=some e):a.eval x=e.v:=ha.eval (evE_eq h)
theorem val_run (ha:Agree n a (kn env)) {x:Operand} {v:Value} (h:valE env x=some v):a.eval x=v:=ha.eval (valE_eq h)
theorem cvsE_eq (ha:Agree n a (kn env)):∀ {l:List Operand} {cs:List CV},cvsE env l=some cs->l.map a.eval=cs.map CV.v
  | [],cs,h=>by cases h;rfl
  | x :: r,cs,h=>by
    simp only [cvsE] at h
    split at h
    · rename_i e he
      split at h
      · rename_i c hc
        split at h
        · rename_i us hu
          injection h with h;subst h
          rw [List.map_cons,List.map_cons,ev_run ha he,cvsE_eq ha hu,cvE_eq hc]
        · cases h
      · cases h
    · cases h
theorem guard_int {op:BinOp} {t:TypeId} {x y:Operand} {k k':IntKind} {a b:Int}:(eqGuard op t x y (.int k a) (.int k' b)).run P w = .ok () w:=by cases op<;>rfl
theorem guard_str {op:BinOp} {t:TypeId} {x y:Operand} {a b:ByteArray}:(eqGuard op t x y (.string a) (.string b)).run P w = .ok () w:=by cases op<;>rfl
theorem guard_bool {op:BinOp} {t:TypeId} {x y:Operand} {a b:Bool}:(eqGuard op t x y (.bool a) (.bool b)).run P w = .ok () w:=by cases op<;>rfl
theorem equal_bool {t:TypeId} (ht:P.underlying t=some .bool) (a b:Bool):(Op.equal t (.bool a) (.bool b)).run P w = .ok (a == b) w:=by
  unfold Op.equal Op.maxDepth
  rw [show (10000:Nat)=9999+1 from rfl,Op.equalIn,Sem.run_bind,run_und ht]
  rfl
theorem beq_dec {α:Type} [DecidableEq α] (a b:α):(a == b)=decide (a=b):=by rw [Bool.eq_iff_iff];simp
theorem beq_bytes (a b:List UInt8):(a == b)=decide (a=b):=by rw [Bool.eq_iff_iff];simp
theorem run_str (op:BinOp) (t:TypeId) (a b:List UInt8):binOp op t (.string ⟨⟨a⟩⟩) (.string ⟨⟨b⟩⟩)=Op.stringOp op ⟨⟨a⟩⟩ ⟨⟨b⟩⟩:=by cases op<;>rfl
theorem run_intc (op:BinOp) (t:TypeId) (k:IntKind) (a b:Int) {r:Value} (h:cmpI op a b=some r):(binOp op t (.int k a) (.int k b)).run P w = .ok r w:=by
  have hb:∀ op',(op' = .eql ∨ op' = .neq ∨ op' = .lss ∨ op' = .leq ∨ op' = .gtr ∨ op' = .geq)->binOp op' t (.int k a) (.int k b)=Op.intCmp op' a b:=by
    intro op' ho
    rcases ho with rfl|rfl|rfl|rfl|rfl|rfl<;>exact if_neg (by simp)
  cases op<;>simp only [cmpI] at h<;>first
    | (injection h with h
       subst h
       rw [hb _ (by simp)]
       unfold Op.intCmp
       simp only [beq_dec,bne]
       rfl)
    | cases h
theorem wrap64_of {x:Int} (h:-9223372036854775808 ≤ x/\x ≤ 9223372036854775807):IntKind.i64.wrap x=x:=by rw [IntKind.wrap_i64];omega
theorem wrap_u8 (x:Int):IntKind.u8.wrap x=x % 256:=by simp [IntKind.wrap,IntKind.bits,IntKind.signed]
theorem wrap_u32 (x:Int):IntKind.u32.wrap x=x % 4294967296:=by simp [IntKind.wrap,IntKind.bits,IntKind.signed]
theorem wrap_u64 (x:Int):IntKind.u64.wrap x=x % 18446744073709551616:=by simp [IntKind.wrap,IntKind.bits,IntKind.signed]
theorem run_ar (op:BinOp) (ho:op = .add ∨ op = .sub ∨ op = .mul) (t:TypeId) (k:IntKind) (a b:Int):binOp op t (.int k a) (.int k b)=Op.intArith op k a b:=by
  rcases ho with rfl|rfl|rfl<;>exact if_neg (by simp)
theorem run_dv (op:BinOp) (ho:op = .quo ∨ op = .rem) (t:TypeId) (k:IntKind) (a b:Int):binOp op t (.int k a) (.int k b)=Op.intDiv op k a b:=by
  rcases ho with rfl|rfl<;>exact if_neg (by simp)
theorem run_bits (op:BinOp) (ho:op = .and ∨ op = .or ∨ op = .xor ∨ op = .andNot) (t:TypeId) (k:IntKind) (a b:Int):binOp op t (.int k a) (.int k b)=Op.intBits op k a b:=by
  rcases ho with rfl|rfl|rfl|rfl<;>exact if_neg (by simp)
theorem equal_nil {t e:TypeId} (ht:P.underlying t=some (.slice e)) (A:Option Addr) (n c n' c':Nat):(Op.equal t (.slice A n c) (.slice none n' c')).run P w = .ok A.isNone w:=by
  have h1:(underlying t).run P w = .ok (.slice e) w:=run_underlying ht w
  unfold Op.equal Op.equalIn Op.maxDepth
  rw [Sem.run_bind,h1]
  cases A<;>rfl
theorem guard_slice {op:BinOp} {t:TypeId} {x y:Operand} {A B:Option Addr} {n c n' c':Nat}:(eqGuard op t x y (.slice A n c) (.slice B n' c')).run P w = .ok () w:=by cases op<;>rfl
theorem arith_ok {op:BinOp} {t:TypeId} {k:IntKind} {a b:Int} {r:Value} {ob ob':List Ob} (h:arith op k a b ob=some (r,ob')) (ho:AllOb ob') :
    (binOp op t (.int k a) (.int k b)).run P w = .ok r w/\AllOb ob:=by
  unfold arith at h
  split at h
  · injection h with h;injection h with h1 h2;subst h1;subst h2
    refine ⟨?_,ho.2⟩
    rw [run_ar _ (by simp)];unfold Op.intArith;simp only [wrap64_of ho.1];rfl
  · injection h with h;injection h with h1 h2;subst h1;subst h2
    refine ⟨?_,ho.2⟩
    rw [run_ar _ (by simp)];unfold Op.intArith;simp only [wrap64_of ho.1];rfl
  · injection h with h;injection h with h1 h2;subst h1;subst h2
    refine ⟨?_,ho.2⟩
    rw [run_ar _ (by simp)];unfold Op.intArith;simp only [wrap64_of ho.1];rfl
  · injection h with h;injection h with h1 h2;subst h1;subst h2
    refine ⟨?_,ho.2⟩
    obtain ⟨h0,h1,h2⟩:=ho.1
    have hne:b ≠ 0:=by omega
    have hq:a.tdiv b=a / b:=Int.tdiv_eq_ediv_of_nonneg h0
    have hle:a / b ≤ a:=Int.ediv_le_self _ h0
    have hge:0 ≤ a / b:=Int.ediv_nonneg h0 (by omega)
    rw [run_dv _ (by simp)];unfold Op.intDiv;rw [if_neg hne];simp only [hq,wrap64_of (x:=a / b) (by omega)];rfl
  · injection h with h;injection h with h1 h2;subst h1;subst h2
    refine ⟨?_,ho.2⟩
    obtain ⟨h0,h1,h2⟩:=ho.1
    have hne:b ≠ 0:=by omega
    have hq:a.tmod b=a % b:=Int.tmod_eq_emod_of_nonneg h0
    rw [run_dv _ (by simp)];unfold Op.intDiv;rw [if_neg hne];simp only [hq];rfl
  · injection h with h;injection h with h1 h2;subst h1;subst h2
    refine ⟨?_,ho⟩
    rw [run_ar _ (by simp)];unfold Op.intArith;simp only [wrap_u8];rfl
  · injection h with h;injection h with h1 h2;subst h1;subst h2
    refine ⟨?_,ho⟩
    rw [run_ar _ (by simp)];unfold Op.intArith;simp only [wrap_u8];rfl
  · injection h with h;injection h with h1 h2;subst h1;subst h2
    refine ⟨?_,ho⟩
    rw [run_ar _ (by simp)];unfold Op.intArith;simp only [wrap_u32];rfl
  · injection h with h;injection h with h1 h2;subst h1;subst h2
    refine ⟨?_,ho⟩
    rw [run_ar _ (by simp)];unfold Op.intArith;simp only [wrap_u64];rfl
  · injection h with h;injection h with h1 h2;subst h1;subst h2
    refine ⟨?_,ho⟩
    rw [run_ar _ (by simp)];unfold Op.intArith;simp only [wrap_u64];rfl
  · split at h
    · rename_i v hv
      injection h with h;injection h with h1 h2;subst h1;subst h2
      exact ⟨run_intc op t _ a b hv,ho⟩
    · cases h
theorem pureBin_ok (hk:tb.Ok P) {op:BinOp} {t:TypeId} {u v r:Value} {ob ob':List Ob} (h:pureBin tb op t u v ob=some (r,ob')) (ho:AllOb ob') {x y:Operand} :
    (do eqGuard op t x y u v;binOp op t u v:Sem Value).run P w = .ok r w/\AllOb ob:=by
  unfold pureBin at h
  split at h
  · rename_i k a k' b
    rw [Sem.run_bind,guard_int,Result.andThen_ok]
    split at h
    · rename_i v hv
      injection h with h;injection h with h1 h2;subst h1;subst h2
      refine ⟨?_,ho.2⟩
      obtain ⟨h0,_⟩:=ho.1
      unfold shiftI at hv
      split at hv
      · injection hv with hv;subst hv
        show (Op.shift .shr k a k' b).run P w=_
        unfold Op.shift
        rw [if_neg (by omega)];rfl
      · injection hv with hv;subst hv
        show (Op.shift .shl k a k' b).run P w=_
        unfold Op.shift
        rw [if_neg (by omega)];rfl
      · cases hv
    · cases hs:sameK k k'
      · rw [hs] at h;cases h
      · rw [hs] at h
        obtain rfl:=sameK_eq hs
        simp only [cond_true] at h
        split at h
        · rename_i v hv
          injection h with h;injection h with h1 h2;subst h1;subst h2
          refine ⟨?_,ho⟩
          unfold bitsI at hv
          split at hv
          all_goals first
            | (injection hv with hv;subst hv
               rw [run_bits _ (by simp)];rfl)
            | cases hv
        · exact arith_ok h ho
  · rename_i a b
    rw [Sem.run_bind,guard_str,Result.andThen_ok,run_str]
    split at h
    · injection h with h;injection h with h1 h2;subst h1;subst h2
      refine ⟨?_,ho.2⟩
      unfold Op.stringOp
      have hsz:¬ (((ByteArray.mk ⟨a⟩).size+(ByteArray.mk ⟨b⟩).size:Nat):Int) > IntKind.i64.max:=by
        have h1:(ByteArray.mk ⟨a⟩).size=a.length:=rfl
        have h2:(ByteArray.mk ⟨b⟩).size=b.length:=rfl
        have h3:=ho.1.2
        rw [h1,h2]
        simp only [IntKind.max,IntKind.signed,IntKind.bits]
        simp
        omega
      simp only [if_neg hsz]
      have happ:(ByteArray.mk ⟨a⟩) ++ (ByteArray.mk ⟨b⟩)=ByteArray.mk ⟨a ++ b⟩:=by
        apply ByteArray.ext
        simp
      rw [happ]
      rfl
    · split at h
      · rename_i v hv
        injection h with h;injection h with h1 h2;subst h1;subst h2
        refine ⟨?_,ho⟩
        cases op<;>simp only [cmpS] at hv<;>first
          | (injection hv with hv
             subst hv
             unfold Op.stringOp
             rw [bytes_toList,bytes_toList]
             simp only [beq_bytes]
             rfl)
          | cases hv
      · cases h
  · rename_i a b
    split at h
    · rename_i hu
      rw [Sem.run_bind,guard_bool,Result.andThen_ok]
      split at h
      · injection h with h;injection h with h1 h2;subst h1;subst h2
        refine ⟨?_,ho⟩
        show (do pure (Value.bool (← Op.equal t (.bool a) (.bool b))):Sem Value).run P w=_
        rw [Sem.run_bind,equal_bool (hk.und hu)]
        rfl
      · injection h with h;injection h with h1 h2;subst h1;subst h2
        refine ⟨?_,ho⟩
        show (do pure (Value.bool (!(← Op.equal t (.bool a) (.bool b)))):Sem Value).run P w=_
        rw [Sem.run_bind,equal_bool (hk.und hu)]
        rfl
      · cases h
    · cases h
  · rename_i A n c n' c'
    split at h
    · rename_i hu
      rw [Sem.run_bind,guard_slice,Result.andThen_ok]
      split at h
      · injection h with h;injection h with h1 h2;subst h1;subst h2
        refine ⟨?_,ho⟩
        show (do pure (Value.bool (← Op.equal t (.slice A n c) (.slice none n' c'))):Sem Value).run P w=_
        rw [Sem.run_bind,equal_nil (hk.und hu)]
        rfl
      · injection h with h;injection h with h1 h2;subst h1;subst h2
        refine ⟨?_,ho⟩
        show (do pure (Value.bool (!(← Op.equal t (.slice A n c) (.slice none n' c')))):Sem Value).run P w=_
        rw [Sem.run_bind,equal_nil (hk.und hu)]
        rfl
      · cases h
    · cases h
  · cases h
theorem run_ti {t:TypeId} {i:TypeInfo} (h:P.info? t=some i):(typeInfo t).run P w = .ok i w:=by
  simp [typeInfo,program,Sem.run,h]
theorem ownsRow_len {base:Nat} {e:TypeId} {sz k:Nat} {v:Value} {xs:List Value} (h:w.ownsRow base e sz v k xs):∃ A c,v = .slice A k c:=by
  rcases h.2 with ⟨rfl,rfl⟩|⟨g,cap,cur,rfl,_⟩
  · exact ⟨_,_,rfl⟩
  · exact ⟨_,_,rfl⟩
theorem boundE_none {lo:Option Operand} (h:boundE env lo=some none):lo=none:=by
  cases lo with
  | none=>rfl
  | some x=>simp only [boundE] at h;split at h<;>cases h
theorem boundE_some (ha:Agree n a (kn env)) {lo:Option Operand} {j:Int} (h:boundE env lo=some (some j)):∃ x k,lo=some x/\a.eval x = .int k j:=by
  cases lo with
  | none=>cases h
  | some x =>
    simp only [boundE] at h
    split at h
    · rename_i k i hx
      injection h with h;injection h with h;subst h
      exact ⟨x,k,rfl,val_run ha hx⟩
    · cases h
theorem bytes_extract (s:List UInt8) (lo hi:Nat):(ByteArray.mk ⟨s⟩).extract lo hi=ByteArray.mk ⟨(s.take hi).drop lo⟩:=by
  apply ByteArray.ext
  rw [ByteArray.data_extract]
  apply Array.ext'
  simp [List.extract,List.drop_take]
theorem pureOp_ok (hk:tb.Ok P) (ha:Agree n a (kn env)) (hst:St tb B0 H I w) {o:Oper} {v:EV} {ob ob':List Ob} {eq eq':List Eqn} (h:pureOp tb env H ob eq o.op=some (v,ob',eq')) (hob:AllOb ob') (heq:AllEqn eq') :
    (execOp a.eval o).run P w = .ok (.value v.v) w/\AllOb ob/\AllEqn eq:=by
  obtain ⟨dst,op,type,pos,after,guard⟩:=o
  dsimp only at h
  unfold pureOp at h
  split at h
  · -- move
    split at h
    · rename_i e he;injection h with h;injection h with h1 h2;injection h2 with h2 h3;subst h1;subst h2;subst h3
      exact ⟨by simp [execOp,ev_run ha he],hob,heq⟩
    · cases h
  · split at h
    · rename_i e he;injection h with h;injection h with h1 h2;injection h2 with h2 h3;subst h1;subst h2;subst h3
      exact ⟨by simp [execOp,ev_run ha he],hob,heq⟩
    · cases h
  · -- pick
    split at h
    · rename_i hc
      split at h
      · rename_i e he;injection h with h;injection h with h1 h2;injection h2 with h2 h3;subst h1;subst h2;subst h3
        exact ⟨by simp [execOp,ev_run ha hc,ev_run ha he,asBool,EV.v],hob,heq⟩
      · cases h
    · rename_i hc
      split at h
      · rename_i e he;injection h with h;injection h with h1 h2;injection h2 with h2 h3;subst h1;subst h2;subst h3
        exact ⟨by simp [execOp,ev_run ha hc,ev_run ha he,asBool,EV.v],hob,heq⟩
      · cases h
    · cases h
  · -- binOp
    split at h
    · rename_i u hx
      split at h
      · rename_i y hy
        split at h
        · rename_i u' hu
          split at h
          · rename_i v' hv
            split at h
            · rename_i r ob'' hr
              injection h with h;injection h with h1 h2;injection h2 with h2 h3;subst h1;subst h2;subst h3
              simp only [execOp,ev_run ha hx,ev_run ha hy,plainE_eq hu,plainE_eq hv]
              obtain ⟨h1,h2⟩:=pureBin_ok (w:=w) hk hr hob
              refine ⟨?_,h2,heq⟩
              rw [Sem.run_bind,h1]
              rfl
            · cases h
          · cases h
        · cases h
      · cases h
    · cases h
  · -- not
    split at h
    · rename_i hx;injection h with h;injection h with h1 h2;injection h2 with h2 h3;subst h1;subst h2;subst h3
      exact ⟨by simp [execOp,ev_run ha hx,Op.unary,EV.v],hob,heq⟩
    · rename_i hx;injection h with h;injection h with h1 h2;injection h2 with h2 h3;subst h1;subst h2;subst h3
      exact ⟨by simp [execOp,ev_run ha hx,Op.unary,EV.v],hob,heq⟩
    · rename_i hx;injection h with h;injection h with h1 h2;injection h2 with h2 h3;subst h1;subst h2;subst h3
      exact ⟨by simp [execOp,ev_run ha hx,Op.unary,EV.v,AV.v],hob,heq⟩
    · cases h
  · -- extract
    split at h
    · rename_i vs hx
      split at h
      · rename_i u hu
        injection h with h;injection h with h1 h2;injection h2 with h2 h3;subst h1;subst h2;subst h3
        rw [Array.getElem?_toList] at hu
        exact ⟨by simp [execOp,val_run ha hx,Instr.extract,hu,EV.v,AV.v],hob,heq⟩
      · cases h
    · cases h
  · -- nilCheck
    split at h
    · rename_i hx;injection h with h;injection h with h1 h2;injection h2 with h2 h3;subst h1;subst h2;subst h3
      exact ⟨by simp [execOp,ev_run ha hx,EV.v,AV.v],hob,heq⟩
    · rename_i hx;injection h with h;injection h with h1 h2;injection h2 with h2 h3;subst h1;subst h2;subst h3
      exact ⟨by simp [execOp,ev_run ha hx,EV.v,AV.v],hob,heq⟩
    · rename_i hx;injection h with h;injection h with h1 h2;injection h2 with h2 h3;subst h1;subst h2;subst h3
      exact ⟨by simp [execOp,ev_run ha hx,EV.v,AV.v],hob,heq⟩
    · rename_i hx;injection h with h;injection h with h1 h2;injection h2 with h2 h3;subst h1;subst h2;subst h3
      exact ⟨by simp [execOp,ev_run ha hx,EV.v,AV.v],hob,heq⟩
    · rename_i hx;injection h with h;injection h with h1 h2;injection h2 with h2 h3;subst h1;subst h2;subst h3
      exact ⟨by simp [execOp,ev_run ha hx,EV.v,AV.v],hob,heq⟩
    · cases h
  · -- makeFunc
    split at h
    · rename_i x hx
      split at h
      · rename_i y hy
        injection h with h;injection h with h1 h2;injection h2 with h2 h3;subst h1;subst h2;subst h3
        have h1:=cvsE_eq ha hx
        have h2:=cvsE_eq ha hy
        refine ⟨?_,hob,heq⟩
        simp only [execOp,Instr.makeFunc,Sem.run_bind,Sem.run_pure,Result.andThen_ok,EV.v,AV.v,← h1,← h2]
        rw [← List.map_toArray,← List.map_toArray]
      · cases h
    · cases h
  · -- len
    rename_i args argTypes
    split at h
    · rename_i x t hargs htys
      have e1:args = #[x]:=by cases args;simp at hargs;subst hargs;rfl
      have e2:argTypes = #[t]:=by cases argTypes;simp at htys;subst htys;rfl
      subst e1;subst e2
      split at h
      · rename_i hx
        split at h
        · rename_i hu
          have hu':=run_und (w:=w) (hk.und hu)
          injection h with h;injection h with h1 h2;injection h2 with h2 h3;subst h1;subst h2;subst h3
          exact ⟨by simp [execOp,resolve,invoke,builtin,Builtin.len_,ev_run ha hx,hu',goInt,EV.v,AV.v],hob,heq⟩
        · cases h
      · rename_i s hx
        split at h
        · rename_i hu
          have hu':=run_und (w:=w) (hk.und hu)
          injection h with h;injection h with h1 h2;injection h2 with h2 h3;subst h1;subst h2;subst h3
          refine ⟨?_,hob,heq⟩
          simp [execOp,resolve,invoke,builtin,Builtin.len_,ev_run ha hx,hu',goInt,EV.v,AV.v]
          rfl
        · cases h
      · rename_i hx
        split at h
        · rename_i hu
          have hu':=run_und (w:=w) (hk.und hu)
          injection h with h;injection h with h1 h2;injection h2 with h2 h3;subst h1;subst h2;subst h3
          exact ⟨by simp [execOp,resolve,invoke,builtin,Builtin.len_,ev_run ha hx,hu',goInt,EV.v,AV.v],hob,heq⟩
        · cases h
      · cases h
    · cases h
  · -- fieldAddr
    split at h
    · rename_i fs hs
      split at h
      · rename_i fd hfd
        split at h
        · rename_i i hi
          cases hz:Nat.beq i.size 0
          · simp only [hz,cond_false] at h
            have hs':=run_und (w:=w) (hk.und hs)
            have hne:i.size ≠ 0:=λe=>by rw [e] at hz;cases hz
            have hsz:=run_tsize (w:=w) hk hi
            rw [Array.getElem?_toList] at hfd
            split at h
            · rename_i id b o hx
              injection h with h;injection h with h1 h2;injection h2 with h2 h3;subst h1;subst h2;subst h3
              refine ⟨?_,hob,heq⟩
              simp [execOp,Instr.fieldAt,ev_run ha hx,hs',hfd,Instr.sureAddr,fieldPlace,hsz,hne,Addr.add,EV.v,AV.v]
              cases fd.offset<;>simp [offE]
            · rename_i b o hx
              injection h with h;injection h with h1 h2;injection h2 with h2 h3;subst h1;subst h2;subst h3
              refine ⟨?_,hob,heq⟩
              simp [execOp,Instr.fieldAt,ev_run ha hx,hs',hfd,Instr.sureAddr,fieldPlace,hsz,hne,Addr.add,EV.v,AV.v]
              cases fd.offset<;>simp [offE]
            · cases h
          · simp only [hz,cond_true] at h;cases h
        · cases h
      · cases h
    · cases h
  · -- convert
    split at h
    · rename_i ds hs
      have hs':=run_und (w:=w) (hk.und hs)
      split at h
      · rename_i hd
        split at h
        · rename_i u hx
          injection h with h;injection h with h1 h2;injection h2 with h2 h3;subst h1;subst h2;subst h3
          have hd':=run_und (w:=w) (hk.und hd)
          exact ⟨by simp [execOp,convert,val_run ha hx,hs',hd',EV.v,AV.v],hob,heq⟩
        · cases h
      · rename_i hd
        split at h
        · rename_i k u hx
          injection h with h;injection h with h1 h2;injection h2 with h2 h3;subst h1;subst h2;subst h3
          have hd':=run_und (w:=w) (hk.und hd)
          exact ⟨by simp [execOp,convert,val_run ha hx,hs',hd',EV.v,AV.v,Conv.intToInt,wrap64_of hob.1],hob.2,heq⟩
        · cases h
      · rename_i hd
        split at h
        · rename_i k u hx
          injection h with h;injection h with h1 h2;injection h2 with h2 h3;subst h1;subst h2;subst h3
          have hd':=run_und (w:=w) (hk.und hd)
          exact ⟨by simp [execOp,convert,val_run ha hx,hs',hd',EV.v,AV.v,Conv.intToInt,wrap_u8],hob,heq⟩
        · cases h
      · rename_i hd
        split at h
        · rename_i k u hx
          injection h with h;injection h with h1 h2;injection h2 with h2 h3;subst h1;subst h2;subst h3
          have hd':=run_und (w:=w) (hk.und hd)
          exact ⟨by simp [execOp,convert,val_run ha hx,hs',hd',EV.v,AV.v,Conv.intToInt,wrap_u32],hob,heq⟩
        · cases h
      · rename_i hd
        split at h
        · rename_i k u hx
          injection h with h;injection h with h1 h2;injection h2 with h2 h3;subst h1;subst h2;subst h3
          have hd':=run_und (w:=w) (hk.und hd)
          exact ⟨by simp [execOp,convert,val_run ha hx,hs',hd',EV.v,AV.v,Conv.intToInt,wrap_u64],hob,heq⟩
        · cases h
      · cases h
    · cases h
  · -- index
    split at h
    · rename_i hu
      have hu':=run_und (w:=w) (hk.und hu)
      split at h
      · rename_i s hx
        split at h
        · rename_i k j hj
          injection h with h;injection h with h1 h2;injection h2 with h2 h3;subst h1;subst h2;subst h3
          refine ⟨?_,hob.2,heq⟩
          obtain ⟨h0,h1⟩:=hob.1
          have hlt:j.toNat < s.length:=by omega
          have hget:(ByteArray.mk ⟨s⟩)[j.toNat]? = some s[j.toNat]:=by
            have hsz:j.toNat < (ByteArray.mk ⟨s⟩).size:=hlt
            rw [getElem?_pos (ByteArray.mk ⟨s⟩) j.toNat hsz]
            rfl
          simp [execOp,Instr.index,val_run ha hx,val_run ha hj,hu',asIntOf,h0,hget,hlt,EV.v,AV.v]
        · cases h
      · cases h
    · cases h
  · -- indexAddr
    split at h
    · rename_i e hu
      have hu':=run_und (w:=w) (hk.und hu)
      split at h
      · rename_i ei hei
        have hsz:=run_tsize (w:=w) hk hei
        split at h
        · rename_i A k c hx
          split at h
          · rename_i kk j hj
            injection h with h;injection h with h1 h2;injection h2 with h2 h3;subst h1;subst h2;subst h3
            refine ⟨?_,hob.2.2,heq⟩
            obtain ⟨h0,h1⟩:=hob.2.1
            have hA:A=some ⟨blkA A,offA A,none⟩:=hob.1
            rw [hA] at hx
            simp [execOp,Instr.indexAt,val_run ha hx,val_run ha hj,hu',asIntOf,h0,h1,hsz,EV.v,AV.v,Addr.add_mid]
          · cases h
        · cases h
      · cases h
    · rename_i nn e hu
      have hu':=run_und (w:=w) (hk.und hu)
      split at h
      · rename_i ei hei
        have hsz:=run_tsize (w:=w) hk hei
        split at h
        · rename_i id b o hx
          split at h
          · rename_i kk j hj
            injection h with h;injection h with h1 h2;injection h2 with h2 h3;subst h1;subst h2;subst h3
            refine ⟨?_,hob.2,heq⟩
            obtain ⟨h0,h1⟩:=hob.1
            have hx':a.eval _=Value.pointer (some ⟨b,o,none⟩):=ev_run ha hx
            simp [execOp,Instr.indexAt,hx',val_run ha hj,hu',asIntOf,h0,h1,hsz,EV.v,AV.v,Addr.add_lit,Instr.sureAddr,offE_eq,Nat.add_comm]
          · cases h
        · rename_i b o hx
          split at h
          · rename_i kk j hj
            injection h with h;injection h with h1 h2;injection h2 with h2 h3;subst h1;subst h2;subst h3
            refine ⟨?_,hob.2,heq⟩
            obtain ⟨h0,h1⟩:=hob.1
            have hx':a.eval _=Value.pointer (some ⟨b,o,none⟩):=ev_run ha hx
            simp [execOp,Instr.indexAt,hx',val_run ha hj,hu',asIntOf,h0,h1,hsz,EV.v,AV.v,Addr.add_lit,Instr.sureAddr,offE_eq,Nat.add_comm]
          · cases h
        · cases h
      · cases h
    · cases h
  · -- slice
    rename_i t x lo hi
    split at h
    · rename_i hu
      have hu':=run_und (w:=w) (hk.und hu)
      split at h
      · rename_i s hx
        have hsz:(ByteArray.mk ⟨s⟩).size=s.length:=rfl
        split at h
        · rename_i hlo
          split at h
          · cases h
          · rename_i h' hhi
            obtain ⟨y,k,rfl,hy⟩:=boundE_some ha hhi
            obtain rfl:=boundE_none hlo
            injection h with h;injection h with h1 h2;injection h2 with h2 h3;subst h1;subst h2;subst h3
            refine ⟨?_,hob.2,heq⟩
            obtain ⟨h0,h1,h2⟩:=hob.1
            simp [execOp,Instr.sliceAt,Instr.slice,Instr.sliceBounds,Instr.sliceBound,val_run ha hx,hy,hu',asIntOf,h1,hsz,h2,EV.v,AV.v,bytes_extract]
          · cases h
        · rename_i l hlo
          obtain ⟨y,k,rfl,hy⟩:=boundE_some ha hlo
          split at h
          · rename_i hhi
            obtain rfl:=boundE_none hhi
            injection h with h;injection h with h1 h2;injection h2 with h2 h3;subst h1;subst h2;subst h3
            refine ⟨?_,hob.2,heq⟩
            obtain ⟨h0,h1,h2⟩:=hob.1
            simp [execOp,Instr.sliceAt,Instr.slice,Instr.sliceBounds,Instr.sliceBound,val_run ha hx,hy,hu',asIntOf,h0,h1,hsz,EV.v,AV.v,bytes_extract]
          · rename_i h' hhi
            obtain ⟨y2,k2,rfl,hy2⟩:=boundE_some ha hhi
            injection h with h;injection h with h1 h2;injection h2 with h2 h3;subst h1;subst h2;subst h3
            refine ⟨?_,hob.2,heq⟩
            obtain ⟨h0,h1,h2⟩:=hob.1
            have h3:0 ≤ h':=by omega
            have h4:max h' 0=h':=by omega
            simp [execOp,Instr.sliceAt,Instr.slice,Instr.sliceBounds,Instr.sliceBound,val_run ha hx,hy,hy2,hu',asIntOf,h0,h1,h2,h3,h4,hsz,EV.v,AV.v,bytes_extract]
          · cases h
        · cases h
      · cases h
    · rename_i e hu
      have hu':=run_und (w:=w) (hk.und hu)
      split at h
      · rename_i ei hei
        have hsz:=run_tsize (w:=w) hk hei
        split at h
        · rename_i A nn c hx
          split at h
          · rename_i hlo
            split at h
            · cases h
            · rename_i h' hhi
              obtain ⟨y,k,rfl,hy⟩:=boundE_some ha hhi
              obtain rfl:=boundE_none hlo
              injection h with h;injection h with h1 h2;injection h2 with h2 h3;subst h1;subst h2;subst h3
              refine ⟨?_,hob.2,heq⟩
              obtain ⟨h0,h1,h2⟩:=hob.1
              have hmap:A.map (·.add 0)=A:=by cases A<;>simp [Addr.add]
              simp [execOp,Instr.sliceAt,Instr.slice,Instr.sliceBounds,Instr.sliceBound,val_run ha hx,hy,hu',asIntOf,h1,h2,hsz,hmap,EV.v,AV.v]
            · cases h
          · rename_i l hlo
            obtain ⟨y,k,rfl,hy⟩:=boundE_some ha hlo
            split at h
            · rename_i hhi
              obtain rfl:=boundE_none hhi
              injection h with h;injection h with h1 h2;injection h2 with h2 h3;subst h1;subst h2;subst h3
              refine ⟨?_,hob.2,heq⟩
              obtain ⟨h0,h1,h2⟩:=hob.1
              simp [execOp,Instr.sliceAt,Instr.slice,Instr.sliceBounds,Instr.sliceBound,val_run ha hx,hy,hu',asIntOf,h0,h1,hsz,EV.v,AV.v,subA]
            · rename_i h' hhi
              obtain ⟨y2,k2,rfl,hy2⟩:=boundE_some ha hhi
              injection h with h;injection h with h1 h2;injection h2 with h2 h3;subst h1;subst h2;subst h3
              refine ⟨?_,hob.2,heq⟩
              obtain ⟨h0,h1,h2⟩:=hob.1
              have h3:0 ≤ h':=by omega
              have h4:max h' 0=h':=by omega
              simp [execOp,Instr.sliceAt,Instr.slice,Instr.sliceBounds,Instr.sliceBound,val_run ha hx,hy,hy2,hu',asIntOf,h0,h1,h2,h3,h4,hsz,EV.v,AV.v,subA]
            · cases h
          · cases h
        · cases h
      · cases h
    · cases h
  · -- unary xor
    split at h
    · rename_i k u hx
      split at h
      · rename_i v hv
        injection h with h;injection h with h1 h2;injection h2 with h2 h3;subst h1;subst h2;subst h3
        refine ⟨?_,hob,heq⟩
        unfold bitsI at hv
        injection hv with hv;subst hv
        simp only [execOp,val_run ha hx,Op.unary,Op.intBits,EV.v,AV.v]
        rfl
      · cases h
    · cases h
  · cases h
end
end Go.Proofs.YtbfjmimiigjenaaGreatDoor.V
