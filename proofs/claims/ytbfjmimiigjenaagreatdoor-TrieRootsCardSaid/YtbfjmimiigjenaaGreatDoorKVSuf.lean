/-
Lemmas. No condition.
-/
import Derived.Test.YtbfjmimiigjenaaGreatDoorKVStep
set_option linter.unusedVariables false
set_option linter.unusedSectionVars false
set_option linter.unusedSimpArgs false
namespace Go.Proofs.YtbfjmimiigjenaaGreatDoor.V
open Go Go.RowKit
theorem AllOb.suf {l l':List Ob} (h:l <:+ l') (ho:AllOb l'):AllOb l:=by
 obtain ⟨t,rfl⟩:=h
 induction t with
 | nil=>exact ho
 | cons x r ih=>exact ih ho.2
theorem AllEqn.suf {l l':List Eqn} (h:l <:+ l') (ho:AllEqn l'):AllEqn l:=by
 obtain ⟨t,rfl⟩:=h
 induction t with
 | nil=>exact ho
 | cons x r ih=>exact ih ho.cons.2
section
variable {tb:TT} {env:SEnv} {H:Heap}
theorem arith_suf {op:BinOp} {k:IntKind} {a b:Int} {r:Value} {ob ob':List Ob} (h:arith op k a b ob=some (r,ob')):ob <:+ ob':=by
 unfold arith at h
 split at h
 all_goals first
  | (injection h with h;injection h with h1 h2;subst h2;first|exact List.suffix_refl _|exact List.suffix_cons _ _)
  | skip
 split at h
 ·injection h with h;injection h with h1 h2;subst h2;exact List.suffix_refl _
 ·cases h
theorem pureBin_suf {op:BinOp} {t:TypeId} {u v r:Value} {ob ob':List Ob} (h:pureBin tb op t u v ob=some (r,ob')):ob <:+ ob':=by
 unfold pureBin at h
 split at h
 ·rename_i k a k' b
  split at h
  ·injection h with h;injection h with h1 h2;subst h2;exact List.suffix_cons _ _
  ·cases hs:sameK k k'
   ·rw [hs] at h;cases h
   ·rw [hs] at h
    simp only [cond_true] at h
    split at h
    ·injection h with h;injection h with h1 h2;subst h2;exact List.suffix_refl _
    ·exact arith_suf h
 ·split at h
  ·injection h with h;injection h with h1 h2;subst h2;exact List.suffix_cons _ _
  ·split at h
   ·injection h with h;injection h with h1 h2;subst h2;exact List.suffix_refl _
   ·cases h
 ·split at h
  ·split at h
   ·injection h with h;injection h with h1 h2;subst h2;exact List.suffix_refl _
   ·injection h with h;injection h with h1 h2;subst h2;exact List.suffix_refl _
   ·cases h
  ·cases h
 ·split at h
  ·split at h
   ·injection h with h;injection h with h1 h2;subst h2;exact List.suffix_refl _
   ·injection h with h;injection h with h1 h2;subst h2;exact List.suffix_refl _
   ·cases h
  ·cases h
 ·cases h
theorem suf_of {α:Type} {x y:α} {ob ob1 ob':List Ob} {eq eq1 eq':List Eqn} (h:some (x,ob1,eq1)=some (y,ob',eq')) (h1:ob <:+ ob1) (h2:eq <:+ eq1):ob <:+ ob'/\eq <:+ eq':=by
 injection h with h;injection h with h3 h4;injection h4 with h4 h5;subst h4;subst h5;exact ⟨h1,h2⟩
theorem pureOp_suf {o:Op} {v:EV} {ob ob':List Ob} {eq eq':List Eqn} (h:pureOp tb env H ob eq o=some (v,ob',eq')):ob <:+ ob'/\eq <:+ eq':=by
 unfold pureOp at h
 split at h
 case h_4 =>
  repeat' (split at h)
  all_goals first
   | exact suf_of h (pureBin_suf (by assumption)) (List.suffix_refl _)
   | cases h
 case h_10 =>
  split at h
  ·split at h
   ·split at h
    ·rename_i i hi
     cases hz:Nat.beq i.size 0
     ·rw [hz] at h
      simp only [cond_false] at h
      split at h
      ·exact suf_of h (List.suffix_refl _) (List.suffix_refl _)
      ·exact suf_of h (List.suffix_refl _) (List.suffix_refl _)
      ·cases h
     ·rw [hz] at h;cases h
    ·cases h
   ·cases h
  ·cases h
 all_goals
  repeat' (split at h)
  all_goals first
   | exact suf_of h (List.suffix_refl _) (List.suffix_refl _)
   | exact suf_of h (List.suffix_cons _ _) (List.suffix_refl _)
   | exact suf_of h ((List.suffix_cons _ _).trans (List.suffix_cons _ _)) (List.suffix_refl _)
   | exact suf_of h (List.suffix_refl _) (List.suffix_cons _ _)
   | cases h
theorem vokE_suf {T:TypeId} {a:AV} {ob ob':List Ob} (h:vokE tb T a ob=some ob'):ob <:+ ob':=by
 unfold vokE at h
 split at h
 ·split at h
  ·split at h
   ·injection h with h;subst h;exact List.suffix_cons _ _
   ·cases h
  ·cases h
 ·split at h
  ·split at h
   ·injection h with h;subst h;exact List.suffix_cons _ _
   ·cases h
  ·cases h
 ·split at h
  ·rename_i i _
   cases hb:Nat.beq i.size 1
   ·rw [hb] at h;cases h
   ·rw [hb] at h
    simp only [cond_true] at h
    cases hc:oneE a.v
    ·rw [hc] at h;cases h
    ·rw [hc] at h
     simp only [cond_true] at h
     injection h with h;subst h;exact List.suffix_refl _
  ·cases h
 ·cases h
theorem voksE_suf:∀ {fds:List Field} {fs:List AV} {off:Nat} {ob ob':List Ob} {len:Nat},voksE tb fds fs off ob=some (ob',len)->ob <:+ ob'
 | [],[],_,_,_,_,h=>by
  simp only [voksE] at h
  injection h with h;injection h with h1 h2;subst h1;exact List.suffix_refl _
 | [],_ :: _,_,_,_,_,h=>by cases h
 | _ :: _,[],_,_,_,_,h=>by cases h
 | fd :: r,a :: s,off,ob,ob',len,h=>by
  simp only [voksE] at h
  cases hb:Nat.beq fd.offset off
  ·rw [hb] at h;cases h
  ·rw [hb] at h
   simp only [cond_true] at h
   split at h
   ·rename_i h1
    split at h
    ·exact (vokE_suf h1).trans (voksE_suf h)
    ·cases h
   ·cases h
theorem fitE_suf {T:TypeId} {fs:List AV} {ob ob':List Ob} (h:fitE tb T fs ob=some ob'):ob <:+ ob':=by
 unfold fitE at h
 split at h
 ·split at h
  ·rename_i ob1 len h1
   split at h
   ·rename_i i _
    cases hb:Nat.beq len i.size
    ·rw [hb] at h;cases h
    ·rw [hb] at h
     simp only [cond_true] at h
     injection h with h;subst h;exact voksE_suf h1
   ·cases h
  ·cases h
 ·split at h
  ·exact vokE_suf h
  ·cases h
 ·cases h
theorem partsE_suf {fds:List Field}:∀ {parts:List (Nat × Operand)} {fs fs':List AV} {ob ob':List Ob},partsE env tb fds parts fs ob=some (fs',ob')->ob <:+ ob'
 | [],_,_,_,_,h=>by
  simp only [partsE] at h
  injection h with h;injection h with h1 h2;subst h2;exact List.suffix_refl _
 | (i,x) :: r,fs,fs',ob,ob',h=>by
  simp only [partsE] at h
  split at h
  ·split at h
   ·split at h
    ·split at h
     ·rename_i h1
      exact (vokE_suf h1).trans (partsE_suf h)
     ·cases h
    ·cases h
   ·cases h
  ·cases h
theorem elemsE_suf {T:TypeId}:∀ {parts:List (Nat × Operand)} {k:Nat} {vs:List Value} {ob ob':List Ob},elemsE env tb T parts k ob=some (vs,ob')->ob <:+ ob'
 | [],_,_,_,_,h=>by
  simp only [elemsE] at h
  injection h with h;injection h with h1 h2;subst h2;exact List.suffix_refl _
 | (i,x) :: r,k,vs,ob,ob',h=>by
  simp only [elemsE] at h
  cases hb:Nat.beq i k
  ·rw [hb] at h;cases h
  ·rw [hb] at h
   simp only [cond_true] at h
   split at h
   ·split at h
    ·split at h
     ·rename_i h1
      split at h
      ·rename_i h2
       injection h with h;injection h with h3 h4;subst h4
       exact (fitE_suf h1).trans (elemsE_suf h2)
      ·cases h
     ·cases h
    ·cases h
   ·cases h
theorem suf6 {a a':Option EV} {b b':Heap} {c c' d d':Nat} {ob ob1 ob':List Ob} {eq eq1 eq':List Eqn} (h:some (a,b,c,d,ob1,eq1)=some (a',b',c',d',ob',eq')) (h1:ob <:+ ob1) (h2:eq <:+ eq1):ob <:+ ob'/\eq <:+ eq':=by
 injection h with h;injection h with _ h;injection h with _ h;injection h with _ h;injection h with _ h;injection h with h4 h5;subst h4;subst h5;exact ⟨h1,h2⟩
theorem stepOp_suf {nx m:Nat} {o:Op} {v:Option EV} {H':Heap} {nx' m':Nat} {ob ob':List Ob} {eq eq':List Eqn} (h:stepOp tb env H nx m ob eq o=some (v,H',nx',m',ob',eq')):ob <:+ ob'/\eq <:+ eq':=by
 unfold stepOp at h
 split at h
 all_goals
  repeat' (split at h)
  all_goals first
   | exact suf6 h (List.suffix_refl _) (List.suffix_refl _)
   | exact suf6 h (List.suffix_refl _) (List.suffix_cons _ _)
   | exact suf6 h (fitE_suf (by assumption)) (List.suffix_refl _)
   | exact suf6 h (fitE_suf (by assumption)) (List.suffix_cons _ _)
   | exact suf6 h (vokE_suf (by assumption)) (List.suffix_cons _ _)
   | exact suf6 h (voksE_suf (by assumption)) (List.suffix_refl _)
   | exact suf6 h (elemsE_suf (by assumption)) (List.suffix_refl _)
   | exact suf6 h ((fitE_suf (by assumption)).trans (partsE_suf (by assumption))) (List.suffix_cons _ _)
   | exact suf6 h (pureOp_suf (by assumption)).1 (pureOp_suf (by assumption)).2
   | cases h
end
end Go.Proofs.YtbfjmimiigjenaaGreatDoor.V
