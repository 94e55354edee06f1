/-
Lemmas. No condition.
-/
import Derived.Test.YtbfjmimiigjenaaGreatDoorKQ32
import Derived.Test.YtbfjmimiigjenaaGreatDoorKVTell
import Derived.Test.YtbfjmimiigjenaaGreatDoorKVZ
set_option linter.unusedVariables false
set_option linter.unusedSectionVars false
set_option linter.unusedSimpArgs false
namespace Go.Proofs.YtbfjmimiigjenaaGreatDoor
open Go V RowKit
def sum1 (n:UInt8):Sum:=⟨n :: List.replicate 31 0,by simp⟩
theorem build_one (w:World) (n:UInt8):(Instr.build 40 #[(0,u8V n)]).run Tryz.prog w = .ok (sumV (sum1 n)) w:=by
 refine run_build w _ _ _ ?_
 kernel_rfl
theorem one3_spec (w:World) (n:UInt8):Gives Tryz.prog 21 [u8V n] w (sumE (sum1 n)):=by
 refine enterH tk [(0,byE n)] Tryz.func21 rfl Tryz.ntmps21 rfl rfl ?_
 refine RH.a [] ?_
 refine RH.read (sumE (sum1 n)) rfl rfl rfl rfl (λu a _ hag=>?_) ?_
 ·have e1:a.eval (.tmp 3)=u8V n:=ev_run (e:=byE n) hag rfl
  simp only [execOp,List.map_toArray,List.map_cons,List.map_nil,e1,build_one,Sem.run_bind,Result.andThen_ok,Sem.run_pure]
  rfl
 refine RH.a [] ?_
 exact RH.retBox tk (sumE (sum1 n)) Tryz.func21 rfl rfl rfl rfl λw' hst=>⟨rfl,hst.fact⟩
def onesL (n:Nat):List Sum:=(List.range n).map λi=>sum1 (UInt8.ofNat (i+1))
theorem onesL_len (n:Nat):(onesL n).length=n:=by simp [onesL]
theorem onesL_succ (n:Nat):onesL (n+1)=onesL n ++ [sum1 (UInt8.ofNat (n+1))]:=by
 unfold onesL;rw [List.range_succ,List.map_append];rfl
set_option maxRecDepth 10000 in
theorem lmade_spec (A:Option Addr) (c:Nat) (names:List Str) (hn:names.length ≤ 100) (he:fromE names (onesL names.length)=0) :
  Does Tryz.prog tb 100 [.slice A names.length c] [] (λu=>Glob u/\Sl kStr u A c names) (λo:Option Plot=>.agg #[ptrO o]) (λ_=>[]) (λo=>Late (λ_=>True) (λu=>IsO u o (fromO (names.zip (onesL names.length))))):=by
 have hlim:lim=140737488351232:=rfl
 have hz31:(Tryz.t31).size=1:=by kernel_rfl
 refine V.Does.enter0 [(0,slE A names.length c)] Tryz.func100 rfl Tryz.ntmps100 rfl rfl 0 ?_
 intro m0 K
 refine RH.adv tk [] rfl rfl (by simp [hz31]<;>omega) ?_
 refine RH.nilrow 50 kSum.T kSum.sz 51 ?_
 refine RH.loop (α:=Nat × (Option Addr × Nat)) (λy=>[(0,slE A names.length c),(2,.av (.box 0 m0 0)),(8,intE names.length),(9,intE y.1),(3,rowS 50 y.2.1 (onesL y.1).length y.2.2)]) (λy=>[(0,some (.box m0 [.val (.pointer none)] 31)),(50,rowE kSum y.2.1 y.2.2 (onesL y.1))]) (λy u=>(K u/\Glob u/\Sl kStr u A c names)/\y.1 ≤ names.length) (λy=>names.length - y.1) (0,(none,0)) rfl rfl (λu hu=>⟨hu,Nat.zero_le _⟩) ?_
 rintro ⟨i,A2,c2⟩ m2
 refine RH.pure (λu hu=>hu.2) λhi=>?_
 refine RH.above (id:=0) rfl rfl λhz1 hz2=>?_
 refine RH.toNx 60 ?_
 dsimp only at hi ⊢
 have hol:=onesL_len i
 by_cases hlt:i < names.length
 ·refine RH.a [true] ?_
  have hb:(((i:Int)+1) % 256)=((UInt8.ofNat (i+1)).toNat:Int):=by
   rw [UInt8.toNat_ofNat'];omega
  rw [hb]
  refine RH.gv (sumE (sum1 (UInt8.ofNat (i+1)))) rfl rfl rfl Tryz.call21 (λu hu=>one3_spec u _) ?_
  intro m3 hm3
  refine RH.a [] ?_
  refine RH.apK (κ:=kSum) (id:=50) (l:=onesL i) (r:=[sum1 (UInt8.ofNat (i+1))]) rfl rfl rfl rfl rfl rfl elt_sum rfl rfl (λu hu=>hu.liR (κ:=kSum) (l:=[sum1 (UInt8.ofNat (i+1))]) (id:=60) rfl (by simp [hlim])) (by simp only [List.length_singleton];omega) (by simp only [List.length_singleton];simp [hol];omega) ?_
  intro A3 c3 m4 hm4
  rw [← onesL_succ]
  refine RH.a [] ?_
  exact RH.again (i+1,(A3,c3)) (.head _) rfl rfl (by show names.length - (i+1) < names.length - i;omega) λu hu=>⟨hu.1,hlt⟩
 ·have hi':i=names.length:=by omega
  subst hi'
  refine RH.a [false] ?_
  refine RH.dd [] 70 (λo:Option Plot=>.av (.val (.tuple #[.agg #[ptrO o],intV (fromE names (onesL names.length))]))) rfl rfl rfl Tryz.call17 (From_spec A c names A2 c2 (onesL names.length)) (λu hu=>⟨hu.fact.1.2.1,hu.fact.1.2.2,Sl.own (B:=m0) (hu.row (κ:=kSum) (l:=onesL names.length) (id:=50) rfl) (by omega)⟩) ?_
  rintro o m3 hm3
  refine RH.adv tk [] rfl rfl (by simp [hz31,Value.oneCell']<;>omega) ?_
  refine V.RH.slotE 24 (mapE o) rfl rfl ?_
  refine RH.adv tk [] rfl rfl (by simp [hz31,Value.oneCell']<;>omega) ?_
  exact RH.retBox tk (mapE o) Tryz.func100 rfl rfl rfl rfl λw' hst=>⟨o,rfl,hst.out [] rfl rfl λu h=>⟨h.1.1.1,λv hv hp=>by
   have:=h.2.up (m:=m0) (by omega) hv hp
   rw [if_pos he] at this
   exact this⟩⟩
def sA:Sum:=sum1 1
def sB:Sum:=sum1 2
def tM:Tree:=.node [97] none (.cons 98 (.node [] (some sA) .nil) (.cons 99 (.node [] (some sB) .nil) .nil))
def lM:Tree:=.node [] (some sA) .nil
def lMB:Tree:=.node [] (some sB) .nil
theorem made_ab:fromO ([[97,98],[97,99]].zip (onesL 2))=some tM:=rfl
theorem made_e:fromO ([([]:Str)].zip (onesL 1))=some lM:=rfl
theorem made_a:fromO ([[97]].zip (onesL 1))=some (leaf [97] sA):=rfl
theorem made_b:fromO ([[98]].zip (onesL 1))=some (leaf [98] sA):=rfl
theorem fe_ab:fromE [[97,98],[97,99]] (onesL 2)=0:=by decide
theorem fe_e:fromE [[]] (onesL 1)=0:=by decide
theorem fe_a:fromE [[97]] (onesL 1)=0:=by decide
theorem fe_b:fromE [[98]] (onesL 1)=0:=by decide
theorem from_all {N:Nat} (l:List (Str × Sum)) (hN:N ≤ 1000) (h:∀ e ∈ l,e.1.length ≤ N) (hm:l.length ≤ 900000000):okO (fromO l)/\lowO N (fromO l)/\maO (fromO l) ≤ l.length:=by
 have h1:=from_step (N:=N) l none trivial (λn x hx=>by cases hx) h
 have h0:maO none=0:=rfl
 have h3:=h1.2.2
 rw [h0,Nat.zero_add] at h3
 exact ⟨okO_of h1.1 h1.2.1 hN (Nat.le_trans h3 hm),h1.2.1,h3⟩
theorem okO_put {t:Option Tree} (ht:okO t) (hl:lowO 1000 t) (hm:maO t ≤ 800000000) (n:Str) (x:Sum) (hn:n.length ≤ 1000):okO (some (putO t n x))/\lowO 1000 (some (putO t n x))/\maO (some (putO t n x)) ≤ maO t+1:=by
 have hw:wfO t:=by
  cases t with
  | none=>trivial
  | some t=>exact ht.1
 have h1:=putO_many hw n x
 have h2:=putO_low hw hl hn x
 have h3:maO (some (putO t n x)) ≤ maO t+1:=by split at h1<;>omega
 exact ⟨okO_of (putO_wf hw n x) h2 (Nat.le_refl _) (by omega),h2,h3⟩
theorem okO_wf {t:Option Tree} (ht:okO t):wfO t:=by
 cases t with
 | none=>trivial
 | some t=>exact ht.1
theorem okO_drop {t:Option Tree} (ht:okO t) (hl:lowO 1000 t) {n:Str} (hn:(getO t n).isSome=true):okO (dropO t n)/\lowO 1000 (dropO t n)/\maO (dropO t n) ≤ maO t:=by
 have hw:=okO_wf ht
 have h1:=dropO_many hw hn
 have h2:=dropO_low hw hl hn
 have hm:maO t ≤ 900000000:=by
  cases t with
  | none=>simp [maO]
  | some t=>exact ht.2.2
 exact ⟨okO_of (dropO_wf hw hn) h2 (Nat.le_refl _) (by omega),h2,by omega⟩
theorem put_drop_same {t:Option Tree} (ht:okO t) {n:Str} {x:Sum} (hn:getO t n=some x):some (putO (dropO t n) n x)=t:=by
 have hw:=okO_wf ht
 have hs:(getO t n).isSome=true:=by rw [hn];rfl
 refine canonO (putO_wf (dropO_wf hw hs) n x) hw λm=>?_
 rw [putO_get (dropO_wf hw hs),dropO_get hw hs]
 by_cases e:m=n
 ·subst e;rw [if_pos rfl,hn]
 ·rw [if_neg e,if_neg e]
theorem sortN_eq {l l':List Str} (h:l'.Perm l) (hs:l'.Pairwise λx y=>decide (x ≤ y)=true):sortN l=l':=by
 have htr:∀ x y z:Str,decide (x ≤ y)=true->decide (y ≤ z)=true->decide (x ≤ z)=true:=λx y z h1 h2=>by
  simp only [decide_eq_true_eq] at *
  exact List.le_trans h1 h2
 have hto:∀ x y:Str,(decide (x ≤ y) || decide (y ≤ x))=true:=λx y=>by
  simp only [Bool.or_eq_true,decide_eq_true_eq]
  exact List.le_total x y
 refine List.Perm.eq_of_pairwise (le:=λx y=>decide (x ≤ y)=true) (λx y _ _ h1 h2=>?_) (List.pairwise_mergeSort htr hto l) hs ?_
 ·simp only [decide_eq_true_eq] at h1 h2
  exact List.le_antisymm h1 h2
 ·exact (List.mergeSort_perm l _).trans h.symm
def tb1:Option Tree:=some (putO none [98] sB)
def tboth:Option Tree:=some (putO tb1 [97] sA)
def tfew:Option Tree:=dropO tboth [98]
def tagain:Option Tree:=some (putO tfew [98] sB)
theorem ok_tM:okO (some tM)/\lowO 1000 (some tM)/\maO (some tM) ≤ 2:=by
 have:=from_all (N:=1000) ([[97,98],[97,99]].zip (onesL 2)) (Nat.le_refl _) (by decide) (by decide)
 rw [made_ab] at this
 exact this
theorem ok_lM:okO (some lM)/\lowO 1000 (some lM)/\maO (some lM) ≤ 1:=by
 have:=from_all (N:=1000) ([([]:Str)].zip (onesL 1)) (Nat.le_refl _) (by decide) (by decide)
 rw [made_e] at this
 exact this
theorem ok_la:okO (some (leaf [97] sA))/\lowO 1000 (some (leaf [97] sA))/\maO (some (leaf [97] sA)) ≤ 1:=by
 have:=from_all (N:=1000) ([[97]].zip (onesL 1)) (Nat.le_refl _) (by decide) (by decide)
 rw [made_a] at this
 exact this
theorem ok_lb:okO (some (leaf [98] sA))/\lowO 1000 (some (leaf [98] sA))/\maO (some (leaf [98] sA)) ≤ 1:=by
 have:=from_all (N:=1000) ([[98]].zip (onesL 1)) (Nat.le_refl _) (by decide) (by decide)
 rw [made_b] at this
 exact this
theorem ok_none:okO none/\lowO 1000 none/\maO none=0:=⟨trivial,(λn x hx=>by cases hx),rfl⟩
theorem ok_tb1:okO tb1/\lowO 1000 tb1/\maO tb1 ≤ 1:=okO_put ok_none.1 ok_none.2.1 (by decide) [98] sB (by decide)
theorem ok_tboth:okO tboth/\lowO 1000 tboth/\maO tboth ≤ 2:=by
 have h1:=ok_tb1
 have:=okO_put h1.1 h1.2.1 (by omega) [97] sA (by decide)
 exact ⟨this.1,this.2.1,by have:=this.2.2;unfold tboth;omega⟩
theorem get_b:getO tboth [98]=some sB:=rfl
theorem get_c:getO tboth [99]=none:=rfl
theorem ok_tfew:okO tfew/\lowO 1000 tfew/\maO tfew ≤ 2:=by
 have h1:=ok_tboth
 have:=okO_drop h1.1 h1.2.1 (n:=[98]) (by rw [get_b];rfl)
 exact ⟨this.1,this.2.1,by have:=this.2.2;unfold tfew;omega⟩
theorem again_both:tagain=tboth:=put_drop_same ok_tboth.1 get_b
theorem names_both:(enO tboth).map Prod.fst=[[97],[98]]:=rfl
theorem below_a:belowL [97] (enO (some tM))=[([98],sA),([99],sB)]:=rfl
theorem names_below:(enO (fromO [([98],sA),([99],sB)])).map Prod.fst=[[98],[99]]:=rfl
def dA:TChg:=⟨[97],true,false,sA,Sum.zero⟩
def dB:TChg:=⟨[98],false,true,Sum.zero,sA⟩
theorem diff_ab:diffL (some (leaf [97] sA)) (some (leaf [98] sA))=[dA,dB]:=by
 have h1:diffM (some (leaf [97] sA)) (some (leaf [98] sA))=[([97],dA),([98],dB)]:=rfl
 unfold diffL
 rw [h1]
 have h2:sortN ([([97],dA),([98],dB)].map Prod.fst)=[[97],[98]]:=sortN_eq (List.Perm.refl _) (by decide)
 rw [h2]
 rfl
def oA:Sum:=lM.own
def oB:Sum:=lMB.own
def st0:StD:=([97],false,Sum.zero,[98,99],[oA,oB])
def st1:StD:=([],true,sA,[],[])
theorem way_ab:(wayO (some tM) [97,98]).map Tree.dat=[st0,st1]:=rfl
theorem way_ad:(wayO (some tM) [97,100]).map Tree.dat=[st0]:=rfl
theorem way_0:(wayO (some tM) []).map Tree.dat=[st0]:=rfl
theorem way_e:(wayO (some lM) []).map Tree.dat=[st1]:=rfl
theorem own0:stOwn st0=tM.own:=rfl
theorem own1e:stOwn st1=oA:=rfl
theorem right0:rightD st0=true:=by
 unfold rightD st0
 decide
theorem right1:rightD st1=true:=by
 unfold rightD st1
 decide
theorem ver_ab:verifyR tM.own [97,98] [st0,st1]=(sA,true,0):=by
 unfold verifyR
 rw [if_neg (by decide),if_neg (by simp [right0,right1]),if_neg (by simp)]
 have h1:verGo [st0,st1] tM.own [97,98] Sum.zero false true=verGo [st1] oA [] Sum.zero false true:=ver_go own0 rfl rfl rfl _ _ _
 have h2:verGo [st1] oA [] Sum.zero false true=verGo [] oA [] (if st1.2.1=true then st1.2.2.1 else Sum.zero) st1.2.1 false:=ver_end own1e rfl rfl _ _ _
 rw [h1,h2]
 rfl
theorem ver_ad:verifyR tM.own [97,100] [st0]=(Sum.zero,false,0):=by
 unfold verifyR
 rw [if_neg (by decide),if_neg (by simp [right0]),if_neg (by simp)]
 have h1:verGo [st0] tM.own [97,100] Sum.zero false true=verGo [] tM.own [97,100] Sum.zero false false:=ver_stop own0 rfl rfl rfl _ _ _
 rw [h1]
 rfl
theorem own_e:lM.own=shaW ([0,1,1] ++ List.replicate 31 0 ++ [0,0]):=rfl
theorem Sl.field {α:Type} {κ:Kd α} {w:World} {A:Option Addr} {c:Nat} {l:List α} (h:V.Sl κ w A c l) {i:Nat} (hi:i < l.length) (o:Nat) {T:TypeId} {v:Value} (hv:VOk tb T v) (hc:∀ j x,v.cells.toList[j]? = some x->(κ.cs l[i])[o+j]? = some x) :
  (loadVar T ⟨blkA A,offA A+i*κ.sz+o,none⟩).run Tryz.prog w = .ok v w:=by
 refine V.run_load tk hv λj x hx=>?_
 have hg:=κ.get l i hi
 have h0:=hc j x hx
 have h1:(((l.flatMap κ.cs).drop (i*κ.sz)).take κ.sz)[o+j]? = some x:=by rw [hg];exact h0
 rw [List.getElem?_take] at h1
 split at h1
 ·rw [List.getElem?_drop] at h1
  have:=h.cells _ _ h1
  rw [show offA A+(i*κ.sz+(o+j))=offA A+i*κ.sz+o+j by omega] at this
  exact this
 ·cases h1
theorem stp_cs (s:Stp):kStp.cs s=[strV s.stem,Value.bool s.has] ++ (s.sum.l.map u8V ++ [Value.slice s.A s.bytes.length s.c,Value.slice s.B s.nodes.length s.d]):=by
 show (EV.st (stpF s)).v.cells.toList=_
 rw [stp_cells];rfl
theorem tch_cs (c:TChg):kTCh.cs c=(strV c.name :: .bool c.had :: .bool c.has :: (c.old.l.map u8V ++ c.new.l.map u8V)):=by
 show (EV.st (tchF c)).v.cells.toList=_
 rw [tch_cells];rfl
section
variable {w:World} {A:Option Addr} {c:Nat} {l:List Stp}
theorem stp_stem (h:Sl kStp w A c l) {i:Nat} (hi:i < l.length):(loadVar 9 ⟨blkA A,offA A+i*36+0,none⟩).run Tryz.prog w = .ok (strV l[i].stem) w :=
 YtbfjmimiigjenaaGreatDoor.Sl.field h hi 0 ⟨rfl,Tryz.t9,rfl,rfl⟩ λj x hx=>by
  cases j with
  | zero=>rw [stp_cs];exact hx
  | succ j=>simp [strV,Value.cells] at hx
theorem stp_has (h:Sl kStp w A c l) {i:Nat} (hi:i < l.length):(loadVar 4 ⟨blkA A,offA A+i*36+1,none⟩).run Tryz.prog w = .ok (.bool l[i].has) w :=
 YtbfjmimiigjenaaGreatDoor.Sl.field h hi 1 ⟨rfl,Tryz.t4,rfl,rfl⟩ λj x hx=>by
  cases j with
  | zero=>rw [stp_cs];exact hx
  | succ j=>simp [Value.cells] at hx
theorem stp_sum (h:Sl kStp w A c l) {i:Nat} (hi:i < l.length):(loadVar 40 ⟨blkA A,offA A+i*36+2,none⟩).run Tryz.prog w = .ok (sumV l[i].sum) w :=
 YtbfjmimiigjenaaGreatDoor.Sl.field h hi 2 (vok_sum _) λj x hx=>by
  have hcs:(sumV l[i].sum).cells.toList=l[i].sum.l.map u8V:=by simp [sumV,Value.cells]
  rw [hcs] at hx
  rw [stp_cs,List.getElem?_append_right (by simp),List.getElem?_append_left (by have:=(List.getElem?_eq_some_iff.1 hx).1;simpa using this)]
  simpa using hx
theorem stp_bytes (h:Sl kStp w A c l) {i:Nat} (hi:i < l.length):(loadVar 22 ⟨blkA A,offA A+i*36+34,none⟩).run Tryz.prog w = .ok (.slice l[i].A l[i].bytes.length l[i].c) w :=
 YtbfjmimiigjenaaGreatDoor.Sl.field h hi 34 ⟨rfl,Tryz.t22,rfl,rfl⟩ λj x hx=>by
  cases j with
  | zero =>
   have hl:=l[i].sum.h
   rw [stp_cs,List.getElem?_append_right (by simp),List.getElem?_append_right (by simp [hl])]
   simp [hl]
   exact (Option.some.inj hx)
  | succ j=>simp [Value.cells] at hx
theorem stp_nodes (h:Sl kStp w A c l) {i:Nat} (hi:i < l.length):(loadVar 26 ⟨blkA A,offA A+i*36+35,none⟩).run Tryz.prog w = .ok (.slice l[i].B l[i].nodes.length l[i].d) w :=
 YtbfjmimiigjenaaGreatDoor.Sl.field h hi 35 ⟨rfl,Tryz.t26,rfl,rfl⟩ λj x hx=>by
  cases j with
  | zero =>
   have hl:=l[i].sum.h
   rw [stp_cs,List.getElem?_append_right (by simp),List.getElem?_append_right (by simp [hl])]
   simp [hl]
   exact (Option.some.inj hx)
  | succ j=>simp [Value.cells] at hx
end
theorem tch_had {w:World} {A:Option Addr} {c:Nat} {l:List TChg} (h:Sl kTCh w A c l) {i:Nat} (hi:i < l.length):(loadVar 4 ⟨blkA A,offA A+i*67+1,none⟩).run Tryz.prog w = .ok (.bool l[i].had) w :=
 YtbfjmimiigjenaaGreatDoor.Sl.field h hi 1 ⟨rfl,Tryz.t4,rfl,rfl⟩ λj x hx=>by
  cases j with
  | zero=>rw [tch_cs];exact hx
  | succ j=>simp [Value.cells] at hx
theorem tch_has {w:World} {A:Option Addr} {c:Nat} {l:List TChg} (h:Sl kTCh w A c l) {i:Nat} (hi:i < l.length):(loadVar 4 ⟨blkA A,offA A+i*67+2,none⟩).run Tryz.prog w = .ok (.bool l[i].has) w :=
 YtbfjmimiigjenaaGreatDoor.Sl.field h hi 2 ⟨rfl,Tryz.t4,rfl,rfl⟩ λj x hx=>by
  cases j with
  | zero=>rw [tch_cs];exact hx
  | succ j=>simp [Value.cells] at hx
end Go.Proofs.YtbfjmimiigjenaaGreatDoor
