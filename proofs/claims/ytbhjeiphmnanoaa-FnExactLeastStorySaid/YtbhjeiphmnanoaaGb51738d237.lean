/- Joined by a program of this session's: XW, X0, X21, X22, X1, X5, X6. -/
import Derived.Test.YtbhjeiphmnanoaaProg
import Derived.Test.YtbhjeiphmnanoaaV0f9e3d478c
import Derived.Lib.SliceRun
import Derived.Lib.SmallJoins
import Derived.Deep.SlicePairs
import Derived.ChangeSame
import Derived.ChangeSlices
import Derived.Below
import Derived.Deep.Draws
import Derived.Deep.AppendLies
import Derived.Maps.AppendAt
import Derived.OwnWalk
import Derived.Laws.BytesArg
import Derived.Laws.MakeOwn
import Derived.Laws.OwnMore
import Derived.Deep.OwnRows
import Derived.Tactics
import Derived.Lib.ConvBytes
import Derived.Laws.Slices
import Derived.WalkKit
import Derived.KernelRfl
import Derived.RowKit3
import Derived.Deep.LoopGhost
import Derived.Deep.QuietTactic
import Derived.BigQuiet
import Derived.WideLaws
import Derived.Deep.DeepCutAuto
import Derived.Deep.CutBlock
import Derived.Deep.RegionHeld3
import Derived.Laws.Rows
import Derived.Lib.AppendStr
import Derived.ArgAppend
import Derived.Laws.IdiomCopy
import Derived.OrdersHeld
import Derived.Laws.BitsLemmas
import Derived.RowKit

/- Words of this session's own, beside the print's: a call through a function value; rows of rows appended to each other, told by types; slices of structs that come in, opened. -/
namespace Go.Proofs.Ytbhjeiphmnanoaa.X
open Go.RowKit Go.Proofs.YtbhjeiphmnanoaaW.PrintWords Go.Proofs.YtbhjeiphmnanoaaW.PrintLast Go.Proofs.YtbhjeiphmnanoaaW.PrintMore
open Go.Proofs.YtbhjeiphmnanoaaW.PrintWords renaming Aside0.mk → mA, pw_below_drewN → bN, below_drew1 → bD, below_alloc → bA, below_set → bS, blk_alloc → kA, blk_drewN → kN, blk_drew → kD, blk_cell → kC, blk_frozen → kF, below_size → bZ, below_step → bT, blk_put → kP
open List renaming setIfInBounds_toArray → sA, set_cons_zero → sZ, set_cons_succ → sS, length_take → lT, length_drop → lD, map_toArray → mT, map_cons → mC, map_nil → mN
set_option linter.unusedVariables false
set_option linter.unusedSimpArgs false
theorem shl_u64_nonneg (x y:Int):0≤shl .u64 x y:=by
 show 0≤IntKind.u64.wrap _
 generalize x*2^min y.toNat IntKind.u64.bits=z
 unfold IntKind.wrap
 simp only [IntKind.signed,Bool.false_and,Bool.false_eq_true,if_false]
 exact Int.emod_nonneg _ (by decide)

section
variable {P:Program} {ops:Array Oper} {Q:Exit→Act→World→Prop}
end

section
variable {α β:Type} {d:Kd α} {d':Kd β} {e e' base base' n c:Nat} {ok ok':Nat→Prop} {w:World} {v v':Value} {xs:List α} {ys:List β} {A A':Option Addr}
end

/-- Whatever reads at type t is of this kind, and well formed. -/
def Opens {α:Type} (P:Program) (t:TypeId) (d:Kd α) (wf:α→Prop):Prop :=
 ∀ {H:Type} {enc:TypeId×Value→H} {W:World} {base:Nat} {spare:Nat→Bool} {held:Bool} {fuel:Nat} {cs:List Value} {x:DataW H×List MemPlace},DataW.trod enc P W base spare held fuel t cs=some x → ∃ a:α,d.K W a cs∧wf a
theorem opens_int {P:Program} {t:TypeId} (ht:P.underlying t=some (.int .i64)):Opens P t (Kd.int .i64) (fun x=>(Lit.int .i64 x).wf=true):=by
 intro H enc W base spare held fuel cs x h
 obtain ⟨n,rfl,_,hw⟩:=DataW.trod_int ht h
 exact ⟨n,rfl,hw⟩
theorem opens_slice {α:Type} {P:Program} {t e:TypeId} {d:Kd α} {wf:α→Prop} (ht:P.underlying t=some (.slice e)) (hc:P.cellsOf e=d.sz) (hd:Opens P e d wf):Opens P t (Kd.slice e d) (fun xs=>∀ x∈xs,wf x):=by
 intro H enc W base spare held fuel cs x h
 rcases Go.Deep.open_slice ht h with ⟨rfl,_⟩|⟨a,len,cap,m,n,D,Pl,rfl,hb,hl,hm,hmm,_,hx⟩
 ·exact ⟨[],⟨none,0,rfl,Nat.le_refl _,Kd.C_nil _ _⟩,fun x hx=>by cases hx⟩
 ·have hlm:len≤m:=by rw [hmm];split<;>omega
  have each : ∀ i,i<len → ∃ q:α×List Value,W.cells? base (a.add (i*d.sz)) d.sz=some q.2∧d.K W q.1 q.2∧wf q.1:=fun i hi=>by
   obtain ⟨cs',h1,h2⟩:=hx i (by omega)
   rw [hc] at h1
   obtain ⟨v,h3,h4⟩:=hd h2
   exact ⟨(v,cs'),h1,h3,h4⟩
  rcases Nat.eq_zero_or_pos len with h0|h0
  ·subst h0
   exact ⟨[],⟨some a,cap,rfl,Nat.zero_le _,rfl,by simp,fun hp=>absurd hp (by simp)⟩,fun x hx=>by cases hx⟩
  obtain ⟨q0,_⟩:=each 0 h0
  have pick : ∃ q:Nat→α×List Value, ∀ i,i<len→W.cells? base (a.add (i*d.sz)) d.sz=some (q i).2∧d.K W (q i).1 (q i).2∧wf (q i).1 :=
   ⟨fun i=>if hi:i<len then Classical.choose (each i hi) else q0,fun i hi=>by
    simp only [dif_pos hi]
    exact Classical.choose_spec (each i hi)⟩
  obtain ⟨q,hq⟩:=pick
  have hm':len≤9223372036854775807:=by unfold maxLen at hm;omega
  refine ⟨(List.range len).map fun i=>(q i).1,⟨some a,cap,by simp,by simpa using hl,by simp,by simpa using hm',fun _=>⟨a,rfl,fun j p hj=>?_⟩⟩,fun x hx=>?_⟩
  ·obtain ⟨hjl,hjp⟩:=List.getElem?_eq_some_iff.1 hj
   simp at hjl hjp
   subst hjp
   obtain ⟨h1,h2,_⟩:=hq j hjl
   obtain ⟨_,h3,h4⟩:=World.cells?_some h1
   refine ⟨(q j).2,d.K_len h2,h2,fun i u hu=>?_⟩
   have hi:i<(q j).2.length:=(List.getElem?_eq_some_iff.1 hu).1
   have h5:=h4 i (by omega)
   rw [Go.Deep.add_add,hu] at h5
   exact h5
  ·obtain ⟨i,hi,rfl⟩:=List.mem_map.1 hx
   exact (hq i (by simpa using hi)).2.2
theorem opens_struct2 {α β:Type} {P:Program} {t:TypeId} {f0 f1:Field} {d0:Kd α} {d1:Kd β} {wf0:α→Prop} {wf1:β→Prop} (ht:P.underlying t=some (.struct #[f0,f1])) (o0:f0.offset=0) (o1:f1.offset=1) (c0:P.cellsOf f0.type=1) (c1:P.cellsOf f1.type=1) (ct:P.cellsOf t=2) (s0:d0.sz=1) (s1:d1.sz=1)
  (h0:Opens P f0.type d0 wf0) (h1:Opens P f1.type d1 wf1):Opens P t (Kd.pair d0 d1) (fun p=>wf0 p.1∧wf1 p.2):=by
 intro H enc W base spare held fuel cs x h
 obtain ⟨y0,y1,n,_,hl,g0,g1⟩:=Go.ChangeShapes.trod_struct2 ht h
 obtain ⟨a,ka,wa⟩:=h0 g0
 obtain ⟨b,kb,wb⟩:=h1 g1
 rw [ct] at hl
 match cs,hl with
 | [u,v],_ =>
  rw [o0,c0] at ka
  rw [o1,c1] at kb
  exact ⟨(a,b),⟨[u],[v],rfl,by simpa using ka,by simpa using kb⟩,wa,wb⟩
theorem opens_iso {α β:Type} {P:Program} {t:TypeId} {d:Kd α} {f:β→α} {wf:α→Prop} (g:α→β) (hg : ∀ a,f (g a)=a) (h:Opens P t d wf):Opens P t (Kd.iso d f) (fun b=>wf (f b)):=by
 intro H enc W base spare held fuel cs x hx
 obtain ⟨a,ka,wa⟩:=h hx
 exact ⟨g a,show d.K W (f (g a)) cs by rw [hg];exact ka,show wf (f (g a)) by rw [hg];exact wa⟩
theorem reads_none {α:Type} {d:Kd α} {W:World} {n:Nat} {xs:List α} (h:d.C W none n xs):n=0:=by
 rcases Nat.eq_zero_or_pos n with h0|h0
 ·exact h0
 ·obtain ⟨ad,he,_⟩:=h.2.2 h0
  cases he
end Go.Proofs.Ytbhjeiphmnanoaa.X
namespace Go.Proofs.Ytbhjeiphmnanoaa.X
open Go.RowKit Go.Proofs.YtbhjeiphmnanoaaW.PrintWords Go.Proofs.YtbhjeiphmnanoaaW.PrintLast Go.Proofs.YtbhjeiphmnanoaaW.PrintMore
open Go.Proofs.YtbhjeiphmnanoaaW.PrintWords renaming Aside0.mk → mA, pw_below_drewN → bN, below_drew1 → bD, below_alloc → bA, below_set → bS, blk_alloc → kA, blk_drewN → kN, blk_drew → kD, blk_cell → kC, blk_frozen → kF, below_size → bZ, below_step → bT, blk_put → kP
open List renaming setIfInBounds_toArray → sA, set_cons_zero → sZ, set_cons_succ → sS, length_take → lT, length_drop → lD, map_toArray → mT, map_cons → mC, map_nil → mN
attribute [local go_sem] max2_int min2_int max_two min_two max_three min_three max_four min_four   -- for this text's walks alone
set_option linter.unusedVariables false
set_option linter.unusedSimpArgs false
def errW:Option Int→Value
 | none=>.nilIface
 | some c=>.iface 0 (.int .i64 c)
theorem errW_none:errW none = .nilIface:=rfl
theorem errW_some (c:Int):errW (some c) = .iface 0 (.int .i64 c):=rfl

theorem info4:(Try.prog.info? 4).map (fun i=>(i.zero,i.size,i.bytes))=some (some (.bool false),1,1):=by kernel_rfl
theorem info42:(Try.prog.info? 42).map (fun i=>(i.zero,i.size,i.bytes))=some (some (.agg #[(.int .i64 0),(.slice none 0 0)]),2,32):=by kernel_rfl
theorem info59:(Try.prog.info? 59).map (fun i=>(i.zero,i.size,i.bytes))=some (some (.agg #[(.int .i64 0),(.int .i64 0)]),2,16):=by kernel_rfl
structure S65 where
 f0:Int
 f1:Int
def z65:S65:=⟨(0:Int),(0:Int)⟩
def k65:Kd S65:=Kd.iso (Kd.pair (Kd.int .i64) (Kd.int .i64)) (fun x:S65=>(x.f0,x.f1))
theorem k65_open {w:World} {x:S65} {cs:List Value} (h:k65.K w x cs):cs=[.int .i64 x.f0,.int .i64 x.f1]:=by
 obtain ⟨_,_,rfl,rfl,rfl⟩:=h
 exact rfl
def rd_T65 (xs:List S65) (i:Int):S65:=xs.getD i.toNat z65
theorem at_T65 {w:World} {A:Option Addr} {n:Nat} {xs:List S65} (h:Kd.C k65 w A n xs) (i:Int) (h0:0≤i) (h1:i<n) : ∃ ad , A=some ad∧w.cell? (ad.add (i.toNat*2))=some (.int .i64 (rd_T65 xs i).f0)∧w.cell? ⟨(ad.add (i.toNat*2)).block,(ad.add (i.toNat*2)).off+1,none⟩=some (.int .i64 (rd_T65 xs i).f1):=by
 obtain ⟨ad,c,e,_,hK,hc0⟩:=Kd.C_get h z65 i h0 h1
 have hc : ∀ j u,c[j]?=some u→w.cell? (ad.add (i.toNat*2+j))=some u:=hc0
 obtain rfl:=k65_open hK
 exact ⟨ad,e,hc 0 _ rfl,by rw [←add_field _ _ 1 (by omega)];exact hc 1 _ rfl⟩

structure S38 where
 f0:Int
 f1:(List S65)
def z38:S38:=⟨(0:Int),([]:List S65)⟩
def k38:Kd S38:=Kd.iso (Kd.pair (Kd.int .i64) (Kd.slice 65 k65)) (fun x:S38=>(x.f0,x.f1))
theorem k38_open {w:World} {x:S38} {cs:List Value} (h:k38.K w x cs) : ∃ A1 c1,cs=[.int .i64 x.f0,.slice A1 x.f1.length c1]∧x.f1.length≤c1∧k65.C w A1 x.f1.length x.f1:=by
 obtain ⟨_,_,rfl,rfl,⟨A1,c1,rfl,l1,g1⟩⟩:=h
 exact ⟨A1,c1,rfl,l1,g1⟩
def rd_T38 (xs:List S38) (i:Int):S38:=xs.getD i.toNat z38
theorem at_T38 {w:World} {A:Option Addr} {n:Nat} {xs:List S38} (h:Kd.C k38 w A n xs) (i:Int) (h0:0≤i) (h1:i<n) : ∃ ad A1 c1,A=some ad∧w.cell? (ad.add (i.toNat*2))=some (.int .i64 (rd_T38 xs i).f0)∧w.cell? ⟨(ad.add (i.toNat*2)).block,(ad.add (i.toNat*2)).off+1,none⟩=some (.slice A1 (rd_T38 xs i).f1.length c1)∧(rd_T38 xs i).f1.length≤c1∧k65.C w A1 (rd_T38 xs i).f1.length (rd_T38 xs i).f1:=by
 obtain ⟨ad,c,e,_,hK,hc0⟩:=Kd.C_get h z38 i h0 h1
 have hc : ∀ j u,c[j]?=some u→w.cell? (ad.add (i.toNat*2+j))=some u:=hc0
 obtain ⟨A1,c1,rfl,l1,g1⟩:=k38_open hK
 exact ⟨ad,A1,c1,e,hc 0 _ rfl,by rw [←add_field _ _ 1 (by omega)];exact hc 1 _ rfl,l1,g1⟩

structure S59 where
 f0:Int
 f1:Int
def z59:S59:=⟨(0:Int),(0:Int)⟩
def k59:Kd S59:=Kd.iso (Kd.pair (Kd.int .i64) (Kd.int .i64)) (fun x:S59=>(x.f0,x.f1))
theorem k59_open {w:World} {x:S59} {cs:List Value} (h:k59.K w x cs):cs=[.int .i64 x.f0,.int .i64 x.f1]:=by
 obtain ⟨_,_,rfl,rfl,rfl⟩:=h
 exact rfl
theorem k59_openM {w:World} {base:Nat} {ok:Nat→Prop} {x:S59} {cs:List Value} (h:k59.M w base ok x cs):cs=[.int .i64 x.f0,.int .i64 x.f1]:=by
 obtain ⟨_,_,rfl,rfl,rfl⟩:=h
 exact rfl
theorem k59_mkM (w:World) (base:Nat) (ok:Nat→Prop) (x:S59)  : k59.M w base ok x [.int .i64 x.f0,.int .i64 x.f1]:=⟨[.int .i64 x.f0],[.int .i64 x.f1],rfl,rfl,rfl⟩
def rd_T59 (xs:List S59) (i:Int):S59:=xs.getD i.toNat z59
theorem at_T59 {w:World} {A:Option Addr} {n:Nat} {xs:List S59} (h:Kd.C k59 w A n xs) (i:Int) (h0:0≤i) (h1:i<n) : ∃ ad , A=some ad∧w.cell? (ad.add (i.toNat*2))=some (.int .i64 (rd_T59 xs i).f0)∧w.cell? ⟨(ad.add (i.toNat*2)).block,(ad.add (i.toNat*2)).off+1,none⟩=some (.int .i64 (rd_T59 xs i).f1):=by
 obtain ⟨ad,c,e,_,hK,hc0⟩:=Kd.C_get h z59 i h0 h1
 have hc : ∀ j u,c[j]?=some u→w.cell? (ad.add (i.toNat*2+j))=some u:=hc0
 obtain rfl:=k59_open hK
 exact ⟨ad,e,hc 0 _ rfl,by rw [←add_field _ _ 1 (by omega)];exact hc 1 _ rfl⟩

structure S42 where
 f0:Int
 f1:(List S59)
def z42:S42:=⟨(0:Int),([]:List S59)⟩
def k42:Kd S42:=Kd.iso (Kd.pair (Kd.int .i64) (Kd.slice 59 k59)) (fun x:S42=>(x.f0,x.f1))
theorem k42_open {w:World} {x:S42} {cs:List Value} (h:k42.K w x cs) : ∃ A1 c1,cs=[.int .i64 x.f0,.slice A1 x.f1.length c1]∧x.f1.length≤c1∧k59.C w A1 x.f1.length x.f1:=by
 obtain ⟨_,_,rfl,rfl,⟨A1,c1,rfl,l1,g1⟩⟩:=h
 exact ⟨A1,c1,rfl,l1,g1⟩
theorem k42_openM {w:World} {base:Nat} {ok:Nat→Prop} {x:S42} {cs:List Value} (h:k42.M w base ok x cs) : ∃ v1,cs=[.int .i64 x.f0,v1]∧k59.R 59 w base ok v1 x.f1:=by
 obtain ⟨_,_,rfl,rfl,⟨v1,rfl,g1⟩⟩:=h
 exact ⟨v1,rfl,g1⟩
theorem k42_mk (w:World) (x:S42) {A1:Option Addr} {c1:Nat} (l1:x.f1.length≤c1) (g1:k59.C w A1 x.f1.length x.f1):k42.K w x [.int .i64 x.f0,.slice A1 x.f1.length c1]:=⟨[.int .i64 x.f0],[.slice A1 x.f1.length c1],rfl,rfl,⟨A1,c1,rfl,l1,g1⟩⟩
theorem k42_mkM (w:World) (base:Nat) (ok:Nat→Prop) (x:S42) {v1:Value} (g1:k59.R 59 w base ok v1 x.f1):k42.M w base ok x [.int .i64 x.f0,v1]:=⟨[.int .i64 x.f0],[v1],rfl,rfl,⟨v1,rfl,g1⟩⟩
theorem k42_mkF (W:World) (ok:Nat→Prop) (x:S42) {A1:Option Addr} {c1:Nat} (l1:x.f1.length≤c1) (g1:Kd.F k59 W ok A1 x.f1.length x.f1):Kd.FK k42 W ok x [.int .i64 x.f0,.slice A1 x.f1.length c1]:=fun W2 hW=>k42_mk W2 x l1 (g1 W2 hW)
def rd_T42 (xs:List S42) (i:Int):S42:=xs.getD i.toNat z42
theorem at_T42 {w:World} {A:Option Addr} {n:Nat} {xs:List S42} (h:Kd.C k42 w A n xs) (i:Int) (h0:0≤i) (h1:i<n) : ∃ ad A1 c1,A=some ad∧w.cell? (ad.add (i.toNat*2))=some (.int .i64 (rd_T42 xs i).f0)∧w.cell? ⟨(ad.add (i.toNat*2)).block,(ad.add (i.toNat*2)).off+1,none⟩=some (.slice A1 (rd_T42 xs i).f1.length c1)∧(rd_T42 xs i).f1.length≤c1∧k59.C w A1 (rd_T42 xs i).f1.length (rd_T42 xs i).f1:=by
 obtain ⟨ad,c,e,_,hK,hc0⟩:=Kd.C_get h z42 i h0 h1
 have hc : ∀ j u,c[j]?=some u→w.cell? (ad.add (i.toNat*2+j))=some u:=hc0
 obtain ⟨A1,c1,rfl,l1,g1⟩:=k42_open hK
 exact ⟨ad,A1,c1,e,hc 0 _ rfl,by rw [←add_field _ _ 1 (by omega)];exact hc 1 _ rfl,l1,g1⟩

def wf65 (x:S65):Prop:=(Lit.int .i64 x.f0).wf=true∧(Lit.int .i64 x.f1).wf=true
theorem opens65:Opens Try.prog 65 k65 wf65 :=
 opens_iso (d:=Kd.pair (Kd.int .i64) (Kd.int .i64)) (f:=fun x:S65=>(x.f0,x.f1)) (fun p=>⟨p.1,p.2⟩) (fun _=>rfl) (opens_struct2 Try.underlying65 rfl rfl (by kernel_rfl) (by kernel_rfl) (by kernel_rfl) rfl rfl (opens_int Try.underlying3) (opens_int Try.underlying3))
def wf38 (x:S38):Prop:=(Lit.int .i64 x.f0).wf=true∧(∀ y∈x.f1,wf65 y)
theorem opens38:Opens Try.prog 38 k38 wf38 :=
 opens_iso (d:=Kd.pair (Kd.int .i64) (Kd.slice 65 k65)) (f:=fun x:S38=>(x.f0,x.f1)) (fun p=>⟨p.1,p.2⟩) (fun _=>rfl) (opens_struct2 Try.underlying38 rfl rfl (by kernel_rfl) (by kernel_rfl) (by kernel_rfl) rfl rfl (opens_int Try.underlying3) (opens_slice Try.underlying36 (by kernel_rfl) opens65))
/-! ### impl_peopleOk: function 42 -/
def impl_peopleOk.f (a0:Int):Option (Bool):=if a0≥1 then (some (decide (a0≤4))) else (some false)
set_option maxHeartbeats 8000000 in
set_option maxRecDepth 100000 in
theorem impl_peopleOk.calls (a0:Int) (r:Bool) (w:World) (h:impl_peopleOk.f a0=some r) :
  Calls Try.prog 42 #[.int .i64 a0] w fun e w'=>e = .returned (.bool r)∧Drawn0 w w':=by
 have H:(if a0≥1 then (some (decide (a0≤4))) else (some false))=some r:=h
 clear h
 by_cases c2:a0≥1
 ·rw [if_pos c2] at H
  have c2b0:decide (1≤a0)=true:=decide_eq_true c2
  clear c2
  obtain rfl:=Option.some.inj H
  go_enter Try.func42,Try.ntmps42
  go_wp2
  go_ret
  exact ⟨by first|rfl|(simp;done)|(simp [*];done),by repeat (first|exact Drawn0.refl _|apply Drawn0.step)⟩
 ·rw [if_neg c2] at H
  have c2b0:decide (1≤a0)=false:=decide_eq_false c2
  clear c2
  obtain rfl:=Option.some.inj H
  go_enter Try.func42,Try.ntmps42
  go_wp2
  go_ret
  exact ⟨by first|rfl|(simp;done)|(simp [*];done),by repeat (first|exact Drawn0.refl _|apply Drawn0.step)⟩
/-! ### impl_TermOk: function 52 -/
mutual
def impl_TermOk.j0:Nat→Int→List (S59)→Bool→Option (Bool)
 | 0,_,_,_=>none
 | k+1,x0,x1,x20=>if x20=true then (some false) else (impl_TermOk.l0 k x0 0 x1 (x1.length:Int) 0)
def impl_TermOk.l0:Nat→Int→Int→List (S59)→Int→Int→Option (Bool)
 | 0,_,_,_,_,_=>none
 | k+1,x0,x5,x21,x22,x23=>if x23<x22 then (if 0≤x23 then (if x23<(x21.length:Int) then (if ((rd_T59 x21 x23).f0)=0 then (if ((rd_T59 x21 x23).f1)<0 then (some false) else (if ((rd_T59 x21 x23).f1)≥x0 then (some false) else (impl_TermOk.l0 k x0 (wrap64 (x5+1)) x21 x22 (wrap64 (x23+1))))) else (if ((rd_T59 x21 x23).f0)=1 then (if ((rd_T59 x21 x23).f1)<0 then (some false) else (if ((rd_T59 x21 x23).f1)>(wrap64 (x0+1)) then (some false) else (impl_TermOk.l0 k x0 (wrap64 (x5+1)) x21 x22 (wrap64 (x23+1))))) else (if ((rd_T59 x21 x23).f0)=2 then (if ((rd_T59 x21 x23).f1)=0 then (if x5<1 then (some false) else (impl_TermOk.l0 k x0 x5 x21 x22 (wrap64 (x23+1)))) else (some false)) else (if ((rd_T59 x21 x23).f0)=3 then (impl_TermOk.j2 k x0 x5 x21 x22 x23 (((rd_T59 x21 x23).f0)==3) ((rd_T59 x21 x23).f0) ((rd_T59 x21 x23).f1)) else (if ((rd_T59 x21 x23).f0)=4 then (impl_TermOk.j2 k x0 x5 x21 x22 x23 (((rd_T59 x21 x23).f0)==4) ((rd_T59 x21 x23).f0) ((rd_T59 x21 x23).f1)) else (impl_TermOk.j2 k x0 x5 x21 x22 x23 (((rd_T59 x21 x23).f0)==5) ((rd_T59 x21 x23).f0) ((rd_T59 x21 x23).f1))))))) else (none)) else (none)) else (some (x5==1))
def impl_TermOk.j2:Nat→Int→Int→List (S59)→Int→Int→Bool→Int→Int→Option (Bool)
 | 0,_,_,_,_,_,_,_,_=>none
 | k+1,x0,x5,x21,x22,x23,x65,x104000,x104001=>if x65=true then (if x104001=0 then (if x5<2 then (some false) else (impl_TermOk.l0 k x0 (wrap64 (x5-1)) x21 x22 (wrap64 (x23+1)))) else (some false)) else (some false)
end
def impl_TermOk.f (k:Nat) (a0:Int) (l1:List (S59)):Option (Bool):=(impl_peopleOk.f a0).bind fun t101=>(if t101=true then (if (l1.length:Int)<1 then (impl_TermOk.j0 k a0 l1 true) else (impl_TermOk.j0 k a0 l1 (decide ((l1.length:Int)>15)))) else (impl_TermOk.j0 k a0 l1 true))
theorem impl_TermOk.mono_l : ∀ k,(∀ y0 y1 y2,LeO (impl_TermOk.j0 k y0 y1 y2) (impl_TermOk.j0 (k+1) y0 y1 y2))∧(∀ y0 y1 y2 y3 y4,LeO (impl_TermOk.l0 k y0 y1 y2 y3 y4) (impl_TermOk.l0 (k+1) y0 y1 y2 y3 y4))∧(∀ y0 y1 y2 y3 y4 y5 y6 y7,LeO (impl_TermOk.j2 k y0 y1 y2 y3 y4 y5 y6 y7) (impl_TermOk.j2 (k+1) y0 y1 y2 y3 y4 y5 y6 y7))
 | 0=>⟨fun _ _ _ r h=>by simp [impl_TermOk.j0] at h,fun _ _ _ _ _ r h=>by simp [impl_TermOk.l0] at h,fun _ _ _ _ _ _ _ _ r h=>by simp [impl_TermOk.j2] at h⟩
 | k+1=>by
  obtain ⟨ih0,ih1,ih2⟩:=impl_TermOk.mono_l k
  refine ⟨?_,?_,?_⟩
  ·intro y0 y1 y2
   unfold impl_TermOk.j0
   repeat' first
   | (with_reducible exact ih0 _ _ _)
   | (with_reducible exact ih1 _ _ _ _ _)
   | (with_reducible exact ih2 _ _ _ _ _ _ _ _)
   | (with_reducible exact LeO.refl _)
   | (with_reducible exact LeO.none _)
   | (with_reducible refine LeO.ite ?_ ?_)
   | (with_reducible refine LeO.bind ?_ (fun _=>?_))
   | exact ih0 _ _ _
   | exact ih1 _ _ _ _ _
   | exact ih2 _ _ _ _ _ _ _ _
   | exact LeO.none _
   | refine LeO.ite ?_ ?_
   | refine LeO.bind ?_ (fun _=>?_)
  ·intro y0 y1 y2 y3 y4
   unfold impl_TermOk.l0
   repeat' first
   | (with_reducible exact ih0 _ _ _)
   | (with_reducible exact ih1 _ _ _ _ _)
   | (with_reducible exact ih2 _ _ _ _ _ _ _ _)
   | (with_reducible exact LeO.refl _)
   | (with_reducible exact LeO.none _)
   | (with_reducible refine LeO.ite ?_ ?_)
   | (with_reducible refine LeO.bind ?_ (fun _=>?_))
   | exact ih0 _ _ _
   | exact ih1 _ _ _ _ _
   | exact ih2 _ _ _ _ _ _ _ _
   | exact LeO.none _
   | refine LeO.ite ?_ ?_
   | refine LeO.bind ?_ (fun _=>?_)
  ·intro y0 y1 y2 y3 y4 y5 y6 y7
   unfold impl_TermOk.j2
   repeat' first
   | (with_reducible exact ih0 _ _ _)
   | (with_reducible exact ih1 _ _ _ _ _)
   | (with_reducible exact ih2 _ _ _ _ _ _ _ _)
   | (with_reducible exact LeO.refl _)
   | (with_reducible exact LeO.none _)
   | (with_reducible refine LeO.ite ?_ ?_)
   | (with_reducible refine LeO.bind ?_ (fun _=>?_))
   | exact ih0 _ _ _
   | exact ih1 _ _ _ _ _
   | exact ih2 _ _ _ _ _ _ _ _
   | exact LeO.none _
   | refine LeO.ite ?_ ?_
   | refine LeO.bind ?_ (fun _=>?_)
theorem impl_TermOk.mono : ∀ a0 a1 k,LeO (impl_TermOk.f k a0 a1) (impl_TermOk.f (k+1) a0 a1):=by
 intro a0 a1 k
 obtain ⟨ih0,ih1,ih2⟩:=impl_TermOk.mono_l k
 unfold impl_TermOk.f
 repeat' first
   | (with_reducible exact ih0 _ _ _)
   | (with_reducible exact ih1 _ _ _ _ _)
   | (with_reducible exact ih2 _ _ _ _ _ _ _ _)
   | (with_reducible exact LeO.refl _)
   | (with_reducible exact LeO.none _)
   | (with_reducible refine LeO.ite ?_ ?_)
   | (with_reducible refine LeO.bind ?_ (fun _=>?_))
   | exact ih0 _ _ _
   | exact ih1 _ _ _ _ _
   | exact ih2 _ _ _ _ _ _ _ _
   | exact LeO.none _
   | refine LeO.ite ?_ ?_
   | refine LeO.bind ?_ (fun _=>?_)
set_option maxHeartbeats 8000000 in
set_option maxRecDepth 100000 in
theorem impl_TermOk.calls (k:Nat) (a0:Int) (A1:Option Addr) (c1:Nat) (l1:List (S59)) (r:Bool) (w:World) (hr1:Kd.C k59 w A1 l1.length l1) (hc1:l1.length≤c1) (h:impl_TermOk.f k a0 l1=some r) :
  Calls Try.prog 52 #[.int .i64 a0,.slice A1 l1.length c1] w fun e w'=>e = .returned (.bool r)∧Below w.heap.size w w':=by
 have hu59:=Try.underlying59
 have HR1:=mA hr1
 have HC1:=mA hc1
 clear hr1 hc1
 have HB:=mA (Below.refl w.heap.size w)
 have H:((impl_peopleOk.f a0).bind fun t101=>(if t101=true then (if (l1.length:Int)<1 then (impl_TermOk.j0 k a0 l1 true) else (impl_TermOk.j0 k a0 l1 (decide ((l1.length:Int)>15)))) else (impl_TermOk.j0 k a0 l1 true)))=some r:=h
 clear h
 have HC3:=mA H
 clear H
 go_enter Try.func52,Try.ntmps52
 go_upto_region 1 with (fail)
 go_cut [20] (fun v20 wc=>∃ (kq:Nat) (x20_2:Bool),v20 = .bool x20_2∧Aside0 (impl_TermOk.j0 kq a0 l1 x20_2=some r)∧Aside0 (kq≤k)∧Aside0 (Below w.heap.size w wc))
 case first =>
  have H:=HC3.out
  clear HC3
  replace H:=Option.bind_eq_some_iff.mp H
  obtain ⟨t101,A40,H⟩:=H
  replace H:(if t101=true then (if (l1.length:Int)<1 then (impl_TermOk.j0 k a0 l1 true) else (impl_TermOk.j0 k a0 l1 (decide ((l1.length:Int)>15)))) else (impl_TermOk.j0 k a0 l1 true))=some r:=H
  have A4:=mA A40
  clear A40
  by_cases c5:t101=true
  ·subst c5
   have H1:(if (l1.length:Int)<1 then (impl_TermOk.j0 k a0 l1 true) else (impl_TermOk.j0 k a0 l1 (decide ((l1.length:Int)>15))))=some r:=by rw [if_pos rfl] at H;exact H
   clear H
   have H:=H1
   clear H1
   by_cases c6:(l1.length:Int)<1
   ·rw [if_pos c6] at H
    have c6b0:decide ((l1.length:Int)<1)=true:=decide_eq_true c6
    have c6b1:decide (l1.length<1)=true:=decide_eq_true (by omega)
    clear c6
    (first|rw [c6b0]|(simp only [i64_w,i32_w];rw [c6b0])|skip)
    have H':=mA H
    clear H
    go_wp2_with (first|((with_reducible refine gate_callee (f:=42) rfl ?_);refine goesL_ (some 9) rfl rfl Try.func42 (by kernel_rfl) rfl #[.int .i64 a0] rfl (by (try simp only [mT,mC,mN]);first|done|rfl|(simp only [lD,lT];rfl)) ?_;(with_reducible refine (impl_peopleOk.calls a0 true _ A4.out).mono ?_);rintro e w' ⟨rfl,⟨nd,rfl⟩⟩;refine ⟨_,rfl,?_⟩))
    go_meet
    case rel=>exact ⟨_,(true),(by first|rfl|(simp;done)|(simp [*];done)),H',⟨by first|omega|exact Nat.le_refl _⟩,⟨by repeat (first|(with_reducible first|exact HB.out|apply bA|apply bN|apply bD)|exact HB.out)⟩⟩
   ·rw [if_neg c6] at H
    have c6b0:decide ((l1.length:Int)<1)=false:=decide_eq_false c6
    have c6b1:decide (l1.length<1)=false:=decide_eq_false (by omega)
    clear c6
    (first|rw [c6b0]|(simp only [i64_w,i32_w];rw [c6b0])|skip)
    have H':=mA H
    clear H
    go_wp2_with (first|((with_reducible refine gate_callee (f:=42) rfl ?_);refine goesL_ (some 9) rfl rfl Try.func42 (by kernel_rfl) rfl #[.int .i64 a0] rfl (by (try simp only [mT,mC,mN]);first|done|rfl|(simp only [lD,lT];rfl)) ?_;(with_reducible refine (impl_peopleOk.calls a0 true _ A4.out).mono ?_);rintro e w' ⟨rfl,⟨nd,rfl⟩⟩;refine ⟨_,rfl,?_⟩))
    go_meet
    case rel=>exact ⟨_,(decide ((l1.length:Int)>15)),(by first|rfl|(simp;done)|(simp [*];done)),H',⟨by first|omega|exact Nat.le_refl _⟩,⟨by repeat (first|(with_reducible first|exact HB.out|apply bA|apply bN|apply bD)|exact HB.out)⟩⟩
  ·replace c5:=Bool.eq_false_iff.mpr c5
   subst c5
   have H1:(impl_TermOk.j0 k a0 l1 true)=some r:=by rw [if_neg (show ¬ (false=true) by decide)] at H;exact H
   clear H
   have H:=H1
   clear H1
   have H':=mA H
   clear H
   go_wp2_with (first|((with_reducible refine gate_callee (f:=42) rfl ?_);refine goesL_ (some 9) rfl rfl Try.func42 (by kernel_rfl) rfl #[.int .i64 a0] rfl (by (try simp only [mT,mC,mN]);first|done|rfl|(simp only [lD,lT];rfl)) ?_;(with_reducible refine (impl_peopleOk.calls a0 false _ A4.out).mono ?_);rintro e w' ⟨rfl,⟨nd,rfl⟩⟩;refine ⟨_,rfl,?_⟩))
   go_meet
   case rel=>exact ⟨_,(true),(by first|rfl|(simp;done)|(simp [*];done)),H',⟨by first|omega|exact Nat.le_refl _⟩,⟨by repeat (first|(with_reducible first|exact HB.out|apply bA|apply bN|apply bD)|exact HB.out)⟩⟩
 case rest =>
  clear HC3
  try clear c1
  try clear p2
  try clear c4
  try clear c5
  try clear c6
  try clear c6b0
  try clear c6b1
  obtain ⟨kq,x20_2,rfl,HA,HJ2,HB⟩:=hcut
  cases kq with
  | zero=>exact absurd HA.out (by simp [impl_TermOk.j0])
  | succ kj2 =>
   have H:=HA.out
   clear HA
   simp only [impl_TermOk.j0] at H
   by_cases c7:x20_2=true
   ·subst c7
    have H1:(some false)=some r:=by rw [if_pos rfl] at H;exact H
    clear H
    have H:=H1
    clear H1
    obtain rfl:=Option.some.inj H
    go_wp2
    go_ret
    exact ⟨by first|rfl|(simp [errW_none,errW_some]<;>rfl)|(simp [*, errW_none,errW_some]<;>rfl),by repeat (first|(with_reducible first|exact HB.out|apply bA|apply bN|apply bD)|exact HB.out)⟩
   ·replace c7:=Bool.eq_false_iff.mpr c7
    subst c7
    have H1:(impl_TermOk.l0 kj2 a0 0 l1 (l1.length:Int) 0)=some r:=by rw [if_neg (show ¬ (false=true) by decide)] at H;exact H
    clear H
    have H:=H1
    clear H1
    have H':=mA H
    clear H
    go_wp2
    go_loopg [5,23] kj2 (fun kq v5 v23 w'=>∃ (x5_2:Int) (x23_2:Int),v5 = .int .i64 x5_2∧v23 = .int .i64 x23_2∧Aside0 (impl_TermOk.l0 kq a0 x5_2 l1 (l1.length:Int) x23_2=some r)∧Aside0 (kq≤kj2)∧Aside0 (Below w.heap.size w w'))
    case atStart=>exact ⟨(0),(0),(by first|rfl|(simp;done)|(simp [*];done)),(by first|rfl|(simp;done)|(simp [*];done)),H',⟨Nat.le_refl _⟩,⟨by repeat (first|(with_reducible first|exact HB.out|apply bA|apply bN|apply bD)|exact HB.out)⟩⟩
    case round =>
     clear H'
     try clear c1
     try clear p2
     try clear c4
     try clear c5
     try clear c6
     try clear c6b0
     try clear c6b1
     try clear c7
     try clear p2
     obtain ⟨x5_2,x23_2,rfl,rfl,HA,HK2,HB⟩:=hrel
     cases gk with
     | zero=>exact absurd HA.out (by simp [impl_TermOk.l0])
     | succ k2 =>
      have H:=HA.out
      clear HA
      simp only [impl_TermOk.l0] at H
      by_cases c8:x23_2<(l1.length:Int)
      ·rw [if_pos c8] at H
       have c8b0:decide (x23_2<(l1.length:Int))=true:=decide_eq_true c8
       clear c8
       by_cases c9:0≤x23_2
       ·rw [if_pos c9] at H
        have c9b0:decide (0≤x23_2)=true:=decide_eq_true c9
        clear c9
        by_cases c10:x23_2<(l1.length:Int)
        ·rw [if_pos c10] at H
         have c10b0:decide (x23_2<(l1.length:Int))=true:=decide_eq_true c10
         clear c10
         by_cases c11:((rd_T59 l1 x23_2).f0)=0
         ·rw [if_pos c11] at H
          have c11b0:(((rd_T59 l1 x23_2).f0)==0)=true:=beq_iff_eq.mpr c11
          have c11b1:(((rd_T59 l1 x23_2).f0) != 0)=false:=bne_eq_false_iff_eq.mpr c11
          clear c11
          by_cases c12:((rd_T59 l1 x23_2).f1)<0
          ·rw [if_pos c12] at H
           have c12b0:decide (((rd_T59 l1 x23_2).f1)<0)=true:=decide_eq_true c12
           clear c12
           obtain rfl:=Option.some.inj H
           have p102:0≤(x23_2:Int):=of_decide_eq_true (by first|with_reducible assumption|assumption)
           have q102:x23_2<(l1.length:Int):=of_decide_eq_true (by first|with_reducible assumption|assumption)
           obtain ⟨ad102,e102,hx102_0,hx102_1⟩:=at_T59 HR1.out x23_2 p102 q102
           cases e102
           replace hx102_0:=(HB.out.cell (World.block_lt_of_cell? w _ hx102_0)).trans hx102_0
           replace hx102_1:=(HB.out.cell (World.block_lt_of_cell? w _ hx102_1)).trans hx102_1
           replace p102:=eq_true p102
           replace q102:=eq_true q102
           go_wp2_with (first|((with_reducible refine gate_dst (N:=7) rfl ?_);(try (refine gate_guard (by rfl) ?_;dsimp only));refine box_event ?hg (N:=7) ?hd (cs:=#[.int .i64 0,.int .i64 0]) (t:=59) ?hr ?_;(case hd=>rfl);(case hg=>rfl);(case hr=>first|(go_simp;done)|(go_simp;rfl));intro gb103 hg w13 hbox hb;have n0_:=mA (bT (by repeat first|(with_reducible first|exact HB.out|apply bA|apply bN|apply bD)|exact HB.out) hb);have n1_:=mA (hbox);have n2_:=mA ((by rw [hg];exact (bZ (by repeat first|(with_reducible first|exact HB.out|apply bA|apply bN|apply bD)|exact HB.out)):w.heap.size≤gb103));have n3_:=mA ((by rw [hg];exact (bZ (by repeat first|(with_reducible first|exact HB.out|apply bA|apply bN|apply bD)|exact HB.out)):w.heap.size≤gb103));clear HB;have HB:=n0_;have BK103:=n1_;have GW103:=n2_;have GE103:=n3_;clear n0_ n1_ n2_ n3_ hb hbox hg;have hcz14_0:w13.cell? ⟨gb103,0,none⟩=some (.int .i64 0):=(kC BK103.out 0).trans rfl;have hcz14_1:w13.cell? ⟨gb103,1,none⟩=some (.int .i64 0):=(kC BK103.out 1).trans rfl;have hfz14_0:=kF BK103.out 0;have hfz14_1:=kF BK103.out 1))
           go_ret
           exact ⟨by first|rfl|(simp [errW_none,errW_some]<;>rfl)|(simp [*, errW_none,errW_some]<;>rfl),by repeat (first|(with_reducible first|exact HB.out|apply bA|apply bN|apply bD|refine bS ?_ GE103.out)|exact HB.out)⟩
          ·rw [if_neg c12] at H
           have c12b0:decide (((rd_T59 l1 x23_2).f1)<0)=false:=decide_eq_false c12
           clear c12
           by_cases c15:((rd_T59 l1 x23_2).f1)≥a0
           ·rw [if_pos c15] at H
            have c15b0:decide (a0≤((rd_T59 l1 x23_2).f1))=true:=decide_eq_true c15
            clear c15
            obtain rfl:=Option.some.inj H
            have p102:0≤(x23_2:Int):=of_decide_eq_true (by first|with_reducible assumption|assumption)
            have q102:x23_2<(l1.length:Int):=of_decide_eq_true (by first|with_reducible assumption|assumption)
            obtain ⟨ad102,e102,hx102_0,hx102_1⟩:=at_T59 HR1.out x23_2 p102 q102
            cases e102
            replace hx102_0:=(HB.out.cell (World.block_lt_of_cell? w _ hx102_0)).trans hx102_0
            replace hx102_1:=(HB.out.cell (World.block_lt_of_cell? w _ hx102_1)).trans hx102_1
            replace p102:=eq_true p102
            replace q102:=eq_true q102
            go_wp2_with (first|((with_reducible refine gate_dst (N:=7) rfl ?_);(try (refine gate_guard (by rfl) ?_;dsimp only));refine box_event ?hg (N:=7) ?hd (cs:=#[.int .i64 0,.int .i64 0]) (t:=59) ?hr ?_;(case hd=>rfl);(case hg=>rfl);(case hr=>first|(go_simp;done)|(go_simp;rfl));intro gb103 hg w16 hbox hb;have n0_:=mA (bT (by repeat first|(with_reducible first|exact HB.out|apply bA|apply bN|apply bD)|exact HB.out) hb);have n1_:=mA (hbox);have n2_:=mA ((by rw [hg];exact (bZ (by repeat first|(with_reducible first|exact HB.out|apply bA|apply bN|apply bD)|exact HB.out)):w.heap.size≤gb103));have n3_:=mA ((by rw [hg];exact (bZ (by repeat first|(with_reducible first|exact HB.out|apply bA|apply bN|apply bD)|exact HB.out)):w.heap.size≤gb103));clear HB;have HB:=n0_;have BK103:=n1_;have GW103:=n2_;have GE103:=n3_;clear n0_ n1_ n2_ n3_ hb hbox hg;have hcz17_0:w16.cell? ⟨gb103,0,none⟩=some (.int .i64 0):=(kC BK103.out 0).trans rfl;have hcz17_1:w16.cell? ⟨gb103,1,none⟩=some (.int .i64 0):=(kC BK103.out 1).trans rfl;have hfz17_0:=kF BK103.out 0;have hfz17_1:=kF BK103.out 1))
            go_ret
            exact ⟨by first|rfl|(simp [errW_none,errW_some]<;>rfl)|(simp [*, errW_none,errW_some]<;>rfl),by repeat (first|(with_reducible first|exact HB.out|apply bA|apply bN|apply bD|refine bS ?_ GE103.out)|exact HB.out)⟩
           ·rw [if_neg c15] at H
            have c15b0:decide (a0≤((rd_T59 l1 x23_2).f1))=false:=decide_eq_false c15
            clear c15
            have H':=mA H
            clear H
            have p102:0≤(x23_2:Int):=of_decide_eq_true (by first|with_reducible assumption|assumption)
            have q102:x23_2<(l1.length:Int):=of_decide_eq_true (by first|with_reducible assumption|assumption)
            obtain ⟨ad102,e102,hx102_0,hx102_1⟩:=at_T59 HR1.out x23_2 p102 q102
            cases e102
            replace hx102_0:=(HB.out.cell (World.block_lt_of_cell? w _ hx102_0)).trans hx102_0
            replace hx102_1:=(HB.out.cell (World.block_lt_of_cell? w _ hx102_1)).trans hx102_1
            replace p102:=eq_true p102
            replace q102:=eq_true q102
            go_wp2_with (first|((with_reducible refine gate_dst (N:=7) rfl ?_);(try (refine gate_guard (by rfl) ?_;dsimp only));refine box_event ?hg (N:=7) ?hd (cs:=#[.int .i64 0,.int .i64 0]) (t:=59) ?hr ?_;(case hd=>rfl);(case hg=>rfl);(case hr=>first|(go_simp;done)|(go_simp;rfl));intro gb103 hg w18 hbox hb;have n0_:=mA (bT (by repeat first|(with_reducible first|exact HB.out|apply bA|apply bN|apply bD)|exact HB.out) hb);have n1_:=mA (hbox);have n2_:=mA ((by rw [hg];exact (bZ (by repeat first|(with_reducible first|exact HB.out|apply bA|apply bN|apply bD)|exact HB.out)):w.heap.size≤gb103));have n3_:=mA ((by rw [hg];exact (bZ (by repeat first|(with_reducible first|exact HB.out|apply bA|apply bN|apply bD)|exact HB.out)):w.heap.size≤gb103));clear HB;have HB:=n0_;have BK103:=n1_;have GW103:=n2_;have GE103:=n3_;clear n0_ n1_ n2_ n3_ hb hbox hg;have hcz19_0:w18.cell? ⟨gb103,0,none⟩=some (.int .i64 0):=(kC BK103.out 0).trans rfl;have hcz19_1:w18.cell? ⟨gb103,1,none⟩=some (.int .i64 0):=(kC BK103.out 1).trans rfl;have hfz19_0:=kF BK103.out 0;have hfz19_1:=kF BK103.out 1))
            go_roundg k2
            case measure=>have:=HJ2.out;have:=HK2.out;omega
            case rel=>exact ⟨(wrap64 (x5_2+1)),(wrap64 (x23_2+1)),(by first|rfl|(simp;done)|(simp [*];done)),(by first|rfl|(simp;done)|(simp [*];done)),H',⟨by have:=HJ2.out;have:=HK2.out;omega⟩,⟨by repeat (first|(with_reducible first|exact HB.out|apply bA|apply bN|apply bD|refine bS ?_ GE103.out)|exact HB.out)⟩⟩
         ·rw [if_neg c11] at H
          have c11b0:(((rd_T59 l1 x23_2).f0)==0)=false:=beq_eq_false_iff_ne.mpr c11
          have c11b1:(((rd_T59 l1 x23_2).f0) != 0)=true:=bne_iff_ne.mpr c11
          by_cases c20:((rd_T59 l1 x23_2).f0)=1
          ·rw [if_pos c20] at H
           have c20b0:(((rd_T59 l1 x23_2).f0)==1)=true:=beq_iff_eq.mpr c20
           have c20b1:(((rd_T59 l1 x23_2).f0) != 1)=false:=bne_eq_false_iff_eq.mpr c20
           clear c20
           by_cases c21:((rd_T59 l1 x23_2).f1)<0
           ·rw [if_pos c21] at H
            have c21b0:decide (((rd_T59 l1 x23_2).f1)<0)=true:=decide_eq_true c21
            clear c21
            obtain rfl:=Option.some.inj H
            have p102:0≤(x23_2:Int):=of_decide_eq_true (by first|with_reducible assumption|assumption)
            have q102:x23_2<(l1.length:Int):=of_decide_eq_true (by first|with_reducible assumption|assumption)
            obtain ⟨ad102,e102,hx102_0,hx102_1⟩:=at_T59 HR1.out x23_2 p102 q102
            cases e102
            replace hx102_0:=(HB.out.cell (World.block_lt_of_cell? w _ hx102_0)).trans hx102_0
            replace hx102_1:=(HB.out.cell (World.block_lt_of_cell? w _ hx102_1)).trans hx102_1
            replace p102:=eq_true p102
            replace q102:=eq_true q102
            go_wp2_with (first|((with_reducible refine gate_dst (N:=7) rfl ?_);(try (refine gate_guard (by rfl) ?_;dsimp only));refine box_event ?hg (N:=7) ?hd (cs:=#[.int .i64 0,.int .i64 0]) (t:=59) ?hr ?_;(case hd=>rfl);(case hg=>rfl);(case hr=>first|(go_simp;done)|(go_simp;rfl));intro gb103 hg w22 hbox hb;have n0_:=mA (bT (by repeat first|(with_reducible first|exact HB.out|apply bA|apply bN|apply bD)|exact HB.out) hb);have n1_:=mA (hbox);have n2_:=mA ((by rw [hg];exact (bZ (by repeat first|(with_reducible first|exact HB.out|apply bA|apply bN|apply bD)|exact HB.out)):w.heap.size≤gb103));have n3_:=mA ((by rw [hg];exact (bZ (by repeat first|(with_reducible first|exact HB.out|apply bA|apply bN|apply bD)|exact HB.out)):w.heap.size≤gb103));clear HB;have HB:=n0_;have BK103:=n1_;have GW103:=n2_;have GE103:=n3_;clear n0_ n1_ n2_ n3_ hb hbox hg;have hcz23_0:w22.cell? ⟨gb103,0,none⟩=some (.int .i64 0):=(kC BK103.out 0).trans rfl;have hcz23_1:w22.cell? ⟨gb103,1,none⟩=some (.int .i64 0):=(kC BK103.out 1).trans rfl;have hfz23_0:=kF BK103.out 0;have hfz23_1:=kF BK103.out 1))
            go_ret
            exact ⟨by first|rfl|(simp [errW_none,errW_some]<;>rfl)|(simp [*, errW_none,errW_some]<;>rfl),by repeat (first|(with_reducible first|exact HB.out|apply bA|apply bN|apply bD|refine bS ?_ GE103.out)|exact HB.out)⟩
           ·rw [if_neg c21] at H
            have c21b0:decide (((rd_T59 l1 x23_2).f1)<0)=false:=decide_eq_false c21
            clear c21
            by_cases c24:((rd_T59 l1 x23_2).f1)>(wrap64 (a0+1))
            ·rw [if_pos c24] at H
             have c24b0:decide ((wrap64 (a0+1))<((rd_T59 l1 x23_2).f1))=true:=decide_eq_true c24
             clear c24
             obtain rfl:=Option.some.inj H
             have p102:0≤(x23_2:Int):=of_decide_eq_true (by first|with_reducible assumption|assumption)
             have q102:x23_2<(l1.length:Int):=of_decide_eq_true (by first|with_reducible assumption|assumption)
             obtain ⟨ad102,e102,hx102_0,hx102_1⟩:=at_T59 HR1.out x23_2 p102 q102
             cases e102
             replace hx102_0:=(HB.out.cell (World.block_lt_of_cell? w _ hx102_0)).trans hx102_0
             replace hx102_1:=(HB.out.cell (World.block_lt_of_cell? w _ hx102_1)).trans hx102_1
             replace p102:=eq_true p102
             replace q102:=eq_true q102
             go_wp2_with (first|((with_reducible refine gate_dst (N:=7) rfl ?_);(try (refine gate_guard (by rfl) ?_;dsimp only));refine box_event ?hg (N:=7) ?hd (cs:=#[.int .i64 0,.int .i64 0]) (t:=59) ?hr ?_;(case hd=>rfl);(case hg=>rfl);(case hr=>first|(go_simp;done)|(go_simp;rfl));intro gb103 hg w25 hbox hb;have n0_:=mA (bT (by repeat first|(with_reducible first|exact HB.out|apply bA|apply bN|apply bD)|exact HB.out) hb);have n1_:=mA (hbox);have n2_:=mA ((by rw [hg];exact (bZ (by repeat first|(with_reducible first|exact HB.out|apply bA|apply bN|apply bD)|exact HB.out)):w.heap.size≤gb103));have n3_:=mA ((by rw [hg];exact (bZ (by repeat first|(with_reducible first|exact HB.out|apply bA|apply bN|apply bD)|exact HB.out)):w.heap.size≤gb103));clear HB;have HB:=n0_;have BK103:=n1_;have GW103:=n2_;have GE103:=n3_;clear n0_ n1_ n2_ n3_ hb hbox hg;have hcz26_0:w25.cell? ⟨gb103,0,none⟩=some (.int .i64 0):=(kC BK103.out 0).trans rfl;have hcz26_1:w25.cell? ⟨gb103,1,none⟩=some (.int .i64 0):=(kC BK103.out 1).trans rfl;have hfz26_0:=kF BK103.out 0;have hfz26_1:=kF BK103.out 1))
             go_ret
             exact ⟨by first|rfl|(simp [errW_none,errW_some]<;>rfl)|(simp [*, errW_none,errW_some]<;>rfl),by repeat (first|(with_reducible first|exact HB.out|apply bA|apply bN|apply bD|refine bS ?_ GE103.out)|exact HB.out)⟩
            ·rw [if_neg c24] at H
             have c24b0:decide ((wrap64 (a0+1))<((rd_T59 l1 x23_2).f1))=false:=decide_eq_false c24
             clear c24
             have H':=mA H
             clear H
             have p102:0≤(x23_2:Int):=of_decide_eq_true (by first|with_reducible assumption|assumption)
             have q102:x23_2<(l1.length:Int):=of_decide_eq_true (by first|with_reducible assumption|assumption)
             obtain ⟨ad102,e102,hx102_0,hx102_1⟩:=at_T59 HR1.out x23_2 p102 q102
             cases e102
             replace hx102_0:=(HB.out.cell (World.block_lt_of_cell? w _ hx102_0)).trans hx102_0
             replace hx102_1:=(HB.out.cell (World.block_lt_of_cell? w _ hx102_1)).trans hx102_1
             replace p102:=eq_true p102
             replace q102:=eq_true q102
             go_wp2_with (first|((with_reducible refine gate_dst (N:=7) rfl ?_);(try (refine gate_guard (by rfl) ?_;dsimp only));refine box_event ?hg (N:=7) ?hd (cs:=#[.int .i64 0,.int .i64 0]) (t:=59) ?hr ?_;(case hd=>rfl);(case hg=>rfl);(case hr=>first|(go_simp;done)|(go_simp;rfl));intro gb103 hg w27 hbox hb;have n0_:=mA (bT (by repeat first|(with_reducible first|exact HB.out|apply bA|apply bN|apply bD)|exact HB.out) hb);have n1_:=mA (hbox);have n2_:=mA ((by rw [hg];exact (bZ (by repeat first|(with_reducible first|exact HB.out|apply bA|apply bN|apply bD)|exact HB.out)):w.heap.size≤gb103));have n3_:=mA ((by rw [hg];exact (bZ (by repeat first|(with_reducible first|exact HB.out|apply bA|apply bN|apply bD)|exact HB.out)):w.heap.size≤gb103));clear HB;have HB:=n0_;have BK103:=n1_;have GW103:=n2_;have GE103:=n3_;clear n0_ n1_ n2_ n3_ hb hbox hg;have hcz28_0:w27.cell? ⟨gb103,0,none⟩=some (.int .i64 0):=(kC BK103.out 0).trans rfl;have hcz28_1:w27.cell? ⟨gb103,1,none⟩=some (.int .i64 0):=(kC BK103.out 1).trans rfl;have hfz28_0:=kF BK103.out 0;have hfz28_1:=kF BK103.out 1))
             go_roundg k2
             case measure=>have:=HJ2.out;have:=HK2.out;omega
             case rel=>exact ⟨(wrap64 (x5_2+1)),(wrap64 (x23_2+1)),(by first|rfl|(simp;done)|(simp [*];done)),(by first|rfl|(simp;done)|(simp [*];done)),H',⟨by have:=HJ2.out;have:=HK2.out;omega⟩,⟨by repeat (first|(with_reducible first|exact HB.out|apply bA|apply bN|apply bD|refine bS ?_ GE103.out)|exact HB.out)⟩⟩
          ·rw [if_neg c20] at H
           have c20b0:(((rd_T59 l1 x23_2).f0)==1)=false:=beq_eq_false_iff_ne.mpr c20
           have c20b1:(((rd_T59 l1 x23_2).f0) != 1)=true:=bne_iff_ne.mpr c20
           by_cases c29:((rd_T59 l1 x23_2).f0)=2
           ·rw [if_pos c29] at H
            have c29b0:(((rd_T59 l1 x23_2).f0)==2)=true:=beq_iff_eq.mpr c29
            have c29b1:(((rd_T59 l1 x23_2).f0) != 2)=false:=bne_eq_false_iff_eq.mpr c29
            clear c29
            by_cases c30:((rd_T59 l1 x23_2).f1)=0
            ·rw [if_pos c30] at H
             have c30b0:(((rd_T59 l1 x23_2).f1)==0)=true:=beq_iff_eq.mpr c30
             have c30b1:(((rd_T59 l1 x23_2).f1) != 0)=false:=bne_eq_false_iff_eq.mpr c30
             clear c30
             by_cases c31:x5_2<1
             ·rw [if_pos c31] at H
              have c31b0:decide (x5_2<1)=true:=decide_eq_true c31
              clear c31
              obtain rfl:=Option.some.inj H
              have p102:0≤(x23_2:Int):=of_decide_eq_true (by first|with_reducible assumption|assumption)
              have q102:x23_2<(l1.length:Int):=of_decide_eq_true (by first|with_reducible assumption|assumption)
              obtain ⟨ad102,e102,hx102_0,hx102_1⟩:=at_T59 HR1.out x23_2 p102 q102
              cases e102
              replace hx102_0:=(HB.out.cell (World.block_lt_of_cell? w _ hx102_0)).trans hx102_0
              replace hx102_1:=(HB.out.cell (World.block_lt_of_cell? w _ hx102_1)).trans hx102_1
              replace p102:=eq_true p102
              replace q102:=eq_true q102
              go_wp2_with (first|((with_reducible refine gate_dst (N:=7) rfl ?_);(try (refine gate_guard (by rfl) ?_;dsimp only));refine box_event ?hg (N:=7) ?hd (cs:=#[.int .i64 0,.int .i64 0]) (t:=59) ?hr ?_;(case hd=>rfl);(case hg=>rfl);(case hr=>first|(go_simp;done)|(go_simp;rfl));intro gb103 hg w32 hbox hb;have n0_:=mA (bT (by repeat first|(with_reducible first|exact HB.out|apply bA|apply bN|apply bD)|exact HB.out) hb);have n1_:=mA (hbox);have n2_:=mA ((by rw [hg];exact (bZ (by repeat first|(with_reducible first|exact HB.out|apply bA|apply bN|apply bD)|exact HB.out)):w.heap.size≤gb103));have n3_:=mA ((by rw [hg];exact (bZ (by repeat first|(with_reducible first|exact HB.out|apply bA|apply bN|apply bD)|exact HB.out)):w.heap.size≤gb103));clear HB;have HB:=n0_;have BK103:=n1_;have GW103:=n2_;have GE103:=n3_;clear n0_ n1_ n2_ n3_ hb hbox hg;have hcz33_0:w32.cell? ⟨gb103,0,none⟩=some (.int .i64 0):=(kC BK103.out 0).trans rfl;have hcz33_1:w32.cell? ⟨gb103,1,none⟩=some (.int .i64 0):=(kC BK103.out 1).trans rfl;have hfz33_0:=kF BK103.out 0;have hfz33_1:=kF BK103.out 1))
              go_ret
              exact ⟨by first|rfl|(simp [errW_none,errW_some]<;>rfl)|(simp [*, errW_none,errW_some]<;>rfl),by repeat (first|(with_reducible first|exact HB.out|apply bA|apply bN|apply bD|refine bS ?_ GE103.out)|exact HB.out)⟩
             ·rw [if_neg c31] at H
              have c31b0:decide (x5_2<1)=false:=decide_eq_false c31
              clear c31
              have H':=mA H
              clear H
              have p102:0≤(x23_2:Int):=of_decide_eq_true (by first|with_reducible assumption|assumption)
              have q102:x23_2<(l1.length:Int):=of_decide_eq_true (by first|with_reducible assumption|assumption)
              obtain ⟨ad102,e102,hx102_0,hx102_1⟩:=at_T59 HR1.out x23_2 p102 q102
              cases e102
              replace hx102_0:=(HB.out.cell (World.block_lt_of_cell? w _ hx102_0)).trans hx102_0
              replace hx102_1:=(HB.out.cell (World.block_lt_of_cell? w _ hx102_1)).trans hx102_1
              replace p102:=eq_true p102
              replace q102:=eq_true q102
              go_wp2_with (first|((with_reducible refine gate_dst (N:=7) rfl ?_);(try (refine gate_guard (by rfl) ?_;dsimp only));refine box_event ?hg (N:=7) ?hd (cs:=#[.int .i64 0,.int .i64 0]) (t:=59) ?hr ?_;(case hd=>rfl);(case hg=>rfl);(case hr=>first|(go_simp;done)|(go_simp;rfl));intro gb103 hg w34 hbox hb;have n0_:=mA (bT (by repeat first|(with_reducible first|exact HB.out|apply bA|apply bN|apply bD)|exact HB.out) hb);have n1_:=mA (hbox);have n2_:=mA ((by rw [hg];exact (bZ (by repeat first|(with_reducible first|exact HB.out|apply bA|apply bN|apply bD)|exact HB.out)):w.heap.size≤gb103));have n3_:=mA ((by rw [hg];exact (bZ (by repeat first|(with_reducible first|exact HB.out|apply bA|apply bN|apply bD)|exact HB.out)):w.heap.size≤gb103));clear HB;have HB:=n0_;have BK103:=n1_;have GW103:=n2_;have GE103:=n3_;clear n0_ n1_ n2_ n3_ hb hbox hg;have hcz35_0:w34.cell? ⟨gb103,0,none⟩=some (.int .i64 0):=(kC BK103.out 0).trans rfl;have hcz35_1:w34.cell? ⟨gb103,1,none⟩=some (.int .i64 0):=(kC BK103.out 1).trans rfl;have hfz35_0:=kF BK103.out 0;have hfz35_1:=kF BK103.out 1))
              go_roundg k2
              case measure=>have:=HJ2.out;have:=HK2.out;omega
              case rel=>exact ⟨(x5_2),(wrap64 (x23_2+1)),(by first|rfl|(simp;done)|(simp [*];done)),(by first|rfl|(simp;done)|(simp [*];done)),H',⟨by have:=HJ2.out;have:=HK2.out;omega⟩,⟨by repeat (first|(with_reducible first|exact HB.out|apply bA|apply bN|apply bD|refine bS ?_ GE103.out)|exact HB.out)⟩⟩
            ·rw [if_neg c30] at H
             have c30b0:(((rd_T59 l1 x23_2).f1)==0)=false:=beq_eq_false_iff_ne.mpr c30
             have c30b1:(((rd_T59 l1 x23_2).f1) != 0)=true:=bne_iff_ne.mpr c30
             obtain rfl:=Option.some.inj H
             have p102:0≤(x23_2:Int):=of_decide_eq_true (by first|with_reducible assumption|assumption)
             have q102:x23_2<(l1.length:Int):=of_decide_eq_true (by first|with_reducible assumption|assumption)
             obtain ⟨ad102,e102,hx102_0,hx102_1⟩:=at_T59 HR1.out x23_2 p102 q102
             cases e102
             replace hx102_0:=(HB.out.cell (World.block_lt_of_cell? w _ hx102_0)).trans hx102_0
             replace hx102_1:=(HB.out.cell (World.block_lt_of_cell? w _ hx102_1)).trans hx102_1
             replace p102:=eq_true p102
             replace q102:=eq_true q102
             go_wp2_with (first|((with_reducible refine gate_dst (N:=7) rfl ?_);(try (refine gate_guard (by rfl) ?_;dsimp only));refine box_event ?hg (N:=7) ?hd (cs:=#[.int .i64 0,.int .i64 0]) (t:=59) ?hr ?_;(case hd=>rfl);(case hg=>rfl);(case hr=>first|(go_simp;done)|(go_simp;rfl));intro gb103 hg w36 hbox hb;have n0_:=mA (bT (by repeat first|(with_reducible first|exact HB.out|apply bA|apply bN|apply bD)|exact HB.out) hb);have n1_:=mA (hbox);have n2_:=mA ((by rw [hg];exact (bZ (by repeat first|(with_reducible first|exact HB.out|apply bA|apply bN|apply bD)|exact HB.out)):w.heap.size≤gb103));have n3_:=mA ((by rw [hg];exact (bZ (by repeat first|(with_reducible first|exact HB.out|apply bA|apply bN|apply bD)|exact HB.out)):w.heap.size≤gb103));clear HB;have HB:=n0_;have BK103:=n1_;have GW103:=n2_;have GE103:=n3_;clear n0_ n1_ n2_ n3_ hb hbox hg;have hcz37_0:w36.cell? ⟨gb103,0,none⟩=some (.int .i64 0):=(kC BK103.out 0).trans rfl;have hcz37_1:w36.cell? ⟨gb103,1,none⟩=some (.int .i64 0):=(kC BK103.out 1).trans rfl;have hfz37_0:=kF BK103.out 0;have hfz37_1:=kF BK103.out 1))
             go_ret
             exact ⟨by first|rfl|(simp [errW_none,errW_some]<;>rfl)|(simp [*, errW_none,errW_some]<;>rfl),by repeat (first|(with_reducible first|exact HB.out|apply bA|apply bN|apply bD|refine bS ?_ GE103.out)|exact HB.out)⟩
           ·rw [if_neg c29] at H
            have c29b0:(((rd_T59 l1 x23_2).f0)==2)=false:=beq_eq_false_iff_ne.mpr c29
            have c29b1:(((rd_T59 l1 x23_2).f0) != 2)=true:=bne_iff_ne.mpr c29
            have HC38:=mA H
            clear H
            have p102:0≤(x23_2:Int):=of_decide_eq_true (by first|with_reducible assumption|assumption)
            have q102:x23_2<(l1.length:Int):=of_decide_eq_true (by first|with_reducible assumption|assumption)
            obtain ⟨ad102,e102,hx102_0,hx102_1⟩:=at_T59 HR1.out x23_2 p102 q102
            cases e102
            replace hx102_0:=(HB.out.cell (World.block_lt_of_cell? w _ hx102_0)).trans hx102_0
            replace hx102_1:=(HB.out.cell (World.block_lt_of_cell? w _ hx102_1)).trans hx102_1
            replace p102:=eq_true p102
            replace q102:=eq_true q102
            go_upto_if 65 with (first|((with_reducible refine gate_dst (N:=7) rfl ?_);(try (refine gate_guard (by rfl) ?_;dsimp only));refine box_event ?hg (N:=7) ?hd (cs:=#[.int .i64 0,.int .i64 0]) (t:=59) ?hr ?_;(case hd=>rfl);(case hg=>rfl);(case hr=>first|(go_simp;done)|(go_simp;rfl));intro gb103 hg w39 hbox hb;have n0_:=mA (bT (by repeat first|(with_reducible first|exact HB.out|apply bA|apply bN|apply bD)|exact HB.out) hb);have n1_:=mA (hbox);have n2_:=mA ((by rw [hg];exact (bZ (by repeat first|(with_reducible first|exact HB.out|apply bA|apply bN|apply bD)|exact HB.out)):w.heap.size≤gb103));have n3_:=mA ((by rw [hg];exact (bZ (by repeat first|(with_reducible first|exact HB.out|apply bA|apply bN|apply bD)|exact HB.out)):w.heap.size≤gb103));clear HB;have HB:=n0_;have BK103:=n1_;have GW103:=n2_;have GE103:=n3_;clear n0_ n1_ n2_ n3_ hb hbox hg;have hcz40_0:w39.cell? ⟨gb103,0,none⟩=some (.int .i64 0):=(kC BK103.out 0).trans rfl;have hcz40_1:w39.cell? ⟨gb103,1,none⟩=some (.int .i64 0):=(kC BK103.out 1).trans rfl;have hfz40_0:=kF BK103.out 0;have hfz40_1:=kF BK103.out 1))
            (try simp only [Act.put,sA,sZ,sS])
            go_cut [65] (fun v65 wc=>∃ (kq:Nat) (x65_37:Bool),v65 = .bool x65_37∧Aside0 (impl_TermOk.j2 kq a0 x5_2 l1 (l1.length:Int) x23_2 x65_37 ((rd_T59 l1 x23_2).f0) ((rd_T59 l1 x23_2).f1)=some r)∧Aside0 (kq≤k2)∧Aside0 (wc.heap[gb103]?=some (.cells #[.int .i64 ((rd_T59 l1 x23_2).f0),.int .i64 ((rd_T59 l1 x23_2).f1)] 59 (0,0)))∧Aside0 (Below w.heap.size w wc))
            case first =>
             have H:=HC38.out
             clear HC38
             by_cases c41:((rd_T59 l1 x23_2).f0)=3
             ·rw [if_pos c41] at H
              have c41b0:(((rd_T59 l1 x23_2).f0)==3)=true:=beq_iff_eq.mpr c41
              have c41b1:(((rd_T59 l1 x23_2).f0) != 3)=false:=bne_eq_false_iff_eq.mpr c41
              clear c41
              (first|rw [c41b0]|(simp only [i64_w,i32_w];rw [c41b0])|skip)
              have H':=mA H
              clear H
              go_wp2
              go_meet
              case rel=>exact ⟨_,((((rd_T59 l1 x23_2).f0)==3)),(by first|rfl|(simp;done)|(simp [*];done)),H',⟨by have:=HJ2.out;have:=HK2.out;first|omega|exact Nat.le_refl _⟩,⟨by (with_reducible repeat first|refine kN ?_ _|refine kD ?_|refine kA ?_ _);refine kP (cs:=#[.int .i64 ((rd_T59 l1 x23_2).f0),.int .i64 0]) ?_ 1 _ rfl;(with_reducible repeat first|refine kN ?_ _|refine kD ?_|refine kA ?_ _);refine kP (cs:=#[.int .i64 0,.int .i64 0]) ?_ 0 _ rfl;(with_reducible repeat first|refine kN ?_ _|refine kD ?_|refine kA ?_ _);exact BK103.out⟩,⟨by repeat (first|(with_reducible first|exact HB.out|apply bA|apply bN|apply bD|refine bS ?_ GE103.out)|exact HB.out)⟩⟩
             ·rw [if_neg c41] at H
              have c41b0:(((rd_T59 l1 x23_2).f0)==3)=false:=beq_eq_false_iff_ne.mpr c41
              have c41b1:(((rd_T59 l1 x23_2).f0) != 3)=true:=bne_iff_ne.mpr c41
              (first|rw [c41b0]|(simp only [i64_w,i32_w];rw [c41b0])|skip)
              by_cases c42:((rd_T59 l1 x23_2).f0)=4
              ·rw [if_pos c42] at H
               have c42b0:(((rd_T59 l1 x23_2).f0)==4)=true:=beq_iff_eq.mpr c42
               have c42b1:(((rd_T59 l1 x23_2).f0) != 4)=false:=bne_eq_false_iff_eq.mpr c42
               clear c42
               have H':=mA H
               clear H
               go_wp2
               go_meet
               case rel=>exact ⟨_,((((rd_T59 l1 x23_2).f0)==4)),(by first|rfl|(simp;done)|(simp [*];done)),H',⟨by have:=HJ2.out;have:=HK2.out;first|omega|exact Nat.le_refl _⟩,⟨by (with_reducible repeat first|refine kN ?_ _|refine kD ?_|refine kA ?_ _);refine kP (cs:=#[.int .i64 ((rd_T59 l1 x23_2).f0),.int .i64 0]) ?_ 1 _ rfl;(with_reducible repeat first|refine kN ?_ _|refine kD ?_|refine kA ?_ _);refine kP (cs:=#[.int .i64 0,.int .i64 0]) ?_ 0 _ rfl;(with_reducible repeat first|refine kN ?_ _|refine kD ?_|refine kA ?_ _);exact BK103.out⟩,⟨by repeat (first|(with_reducible first|exact HB.out|apply bA|apply bN|apply bD|refine bS ?_ GE103.out)|exact HB.out)⟩⟩
              ·rw [if_neg c42] at H
               have c42b0:(((rd_T59 l1 x23_2).f0)==4)=false:=beq_eq_false_iff_ne.mpr c42
               have c42b1:(((rd_T59 l1 x23_2).f0) != 4)=true:=bne_iff_ne.mpr c42
               have H':=mA H
               clear H
               go_wp2
               go_meet
               case rel=>exact ⟨_,((((rd_T59 l1 x23_2).f0)==5)),(by first|rfl|(simp;done)|(simp [*];done)),H',⟨by have:=HJ2.out;have:=HK2.out;first|omega|exact Nat.le_refl _⟩,⟨by (with_reducible repeat first|refine kN ?_ _|refine kD ?_|refine kA ?_ _);refine kP (cs:=#[.int .i64 ((rd_T59 l1 x23_2).f0),.int .i64 0]) ?_ 1 _ rfl;(with_reducible repeat first|refine kN ?_ _|refine kD ?_|refine kA ?_ _);refine kP (cs:=#[.int .i64 0,.int .i64 0]) ?_ 0 _ rfl;(with_reducible repeat first|refine kN ?_ _|refine kD ?_|refine kA ?_ _);exact BK103.out⟩,⟨by repeat (first|(with_reducible first|exact HB.out|apply bA|apply bN|apply bD|refine bS ?_ GE103.out)|exact HB.out)⟩⟩
            case rest =>
             clear HC38
             try clear c1
             try clear p1
             try clear q1
             try clear hx1
             try clear c2
             try clear p2
             try clear c3
             try clear c4
             try clear c5
             try clear c6
             try clear c6b0
             try clear c6b1
             try clear p6
             try clear c7
             try clear c8
             try clear c8b0
             try clear c9
             try clear c9b0
             try clear c10
             try clear c10b0
             try clear p10
             try clear q10
             try clear hx10
             try clear c11
             try clear c11b0
             try clear c11b1
             try clear c12
             try clear c12b0
             try clear c15
             try clear c15b0
             try clear c20
             try clear c20b0
             try clear c20b1
             try clear c21
             try clear c21b0
             try clear c24
             try clear c24b0
             try clear c29
             try clear c29b0
             try clear c29b1
             try clear c30
             try clear c30b0
             try clear c30b1
             try clear c31
             try clear c31b0
             try clear c41
             try clear c41b0
             try clear c41b1
             try clear c42
             try clear c42b0
             try clear c42b1
             try clear hcz14_0
             try clear hcz14_1
             try clear hcz17_0
             try clear hcz17_1
             try clear hcz19_0
             try clear hcz19_1
             try clear hcz23_0
             try clear hcz23_1
             try clear hcz26_0
             try clear hcz26_1
             try clear hcz28_0
             try clear hcz28_1
             try clear hcz33_0
             try clear hcz33_1
             try clear hcz35_0
             try clear hcz35_1
             try clear hcz37_0
             try clear hcz37_1
             try clear hcz40_0
             try clear hcz40_1
             try clear hfz14_0
             try clear hfz14_1
             try clear hfz17_0
             try clear hfz17_1
             try clear hfz19_0
             try clear hfz19_1
             try clear hfz23_0
             try clear hfz23_1
             try clear hfz26_0
             try clear hfz26_1
             try clear hfz28_0
             try clear hfz28_1
             try clear hfz33_0
             try clear hfz33_1
             try clear hfz35_0
             try clear hfz35_1
             try clear hfz37_0
             try clear hfz37_1
             try clear hfz40_0
             try clear hfz40_1
             try clear hx102_0
             try clear hx102_1
             try clear p102
             try clear p2
             try clear q102
             obtain ⟨kq,x65_37,rfl,HA,HJ37,BK103,HB⟩:=hcut
             cases kq with
             | zero=>exact absurd HA.out (by simp [impl_TermOk.j2])
             | succ kj37 =>
              have H:=HA.out
              clear HA
              simp only [impl_TermOk.j2] at H
              by_cases c43:x65_37=true
              ·subst c43
               have H1:(if ((rd_T59 l1 x23_2).f1)=0 then (if x5_2<2 then (some false) else (impl_TermOk.l0 kj37 a0 (wrap64 (x5_2-1)) l1 (l1.length:Int) (wrap64 (x23_2+1)))) else (some false))=some r:=by rw [if_pos rfl] at H;exact H
               clear H
               have H:=H1
               clear H1
               by_cases c44:((rd_T59 l1 x23_2).f1)=0
               ·rw [if_pos c44] at H
                have c44b0:(((rd_T59 l1 x23_2).f1)==0)=true:=beq_iff_eq.mpr c44
                have c44b1:(((rd_T59 l1 x23_2).f1) != 0)=false:=bne_eq_false_iff_eq.mpr c44
                clear c44
                by_cases c45:x5_2<2
                ·rw [if_pos c45] at H
                 have c45b0:decide (x5_2<2)=true:=decide_eq_true c45
                 clear c45
                 obtain rfl:=Option.some.inj H
                 have hcz46_0:wc.cell? ⟨gb103,0,none⟩=some (.int .i64 ((rd_T59 l1 x23_2).f0)):=(kC BK103.out 0).trans rfl
                 have hcz46_1:wc.cell? ⟨gb103,1,none⟩=some (.int .i64 ((rd_T59 l1 x23_2).f1)):=(kC BK103.out 1).trans rfl
                 have hfz46_0:=kF BK103.out 0
                 have hfz46_1:=kF BK103.out 1
                 go_wp2
                 go_ret
                 exact ⟨by first|rfl|(simp [errW_none,errW_some]<;>rfl)|(simp [*, errW_none,errW_some]<;>rfl),by repeat (first|(with_reducible first|exact HB.out|apply bA|apply bN|apply bD|refine bS ?_ GE103.out)|exact HB.out)⟩
                ·rw [if_neg c45] at H
                 have c45b0:decide (x5_2<2)=false:=decide_eq_false c45
                 clear c45
                 have H':=mA H
                 clear H
                 have hcz47_0:wc.cell? ⟨gb103,0,none⟩=some (.int .i64 ((rd_T59 l1 x23_2).f0)):=(kC BK103.out 0).trans rfl
                 have hcz47_1:wc.cell? ⟨gb103,1,none⟩=some (.int .i64 ((rd_T59 l1 x23_2).f1)):=(kC BK103.out 1).trans rfl
                 have hfz47_0:=kF BK103.out 0
                 have hfz47_1:=kF BK103.out 1
                 go_wp2
                 go_roundg kj37
                 case measure=>have:=HJ2.out;have:=HK2.out;have:=HJ37.out;omega
                 case rel=>exact ⟨(wrap64 (x5_2-1)),(wrap64 (x23_2+1)),(by first|rfl|(simp;done)|(simp [*];done)),(by first|rfl|(simp;done)|(simp [*];done)),H',⟨by have:=HJ2.out;have:=HK2.out;have:=HJ37.out;omega⟩,⟨by repeat (first|(with_reducible first|exact HB.out|apply bA|apply bN|apply bD|refine bS ?_ GE103.out)|exact HB.out)⟩⟩
               ·rw [if_neg c44] at H
                have c44b0:(((rd_T59 l1 x23_2).f1)==0)=false:=beq_eq_false_iff_ne.mpr c44
                have c44b1:(((rd_T59 l1 x23_2).f1) != 0)=true:=bne_iff_ne.mpr c44
                obtain rfl:=Option.some.inj H
                have hcz48_0:wc.cell? ⟨gb103,0,none⟩=some (.int .i64 ((rd_T59 l1 x23_2).f0)):=(kC BK103.out 0).trans rfl
                have hcz48_1:wc.cell? ⟨gb103,1,none⟩=some (.int .i64 ((rd_T59 l1 x23_2).f1)):=(kC BK103.out 1).trans rfl
                have hfz48_0:=kF BK103.out 0
                have hfz48_1:=kF BK103.out 1
                go_wp2
                go_ret
                exact ⟨by first|rfl|(simp [errW_none,errW_some]<;>rfl)|(simp [*, errW_none,errW_some]<;>rfl),by repeat (first|(with_reducible first|exact HB.out|apply bA|apply bN|apply bD|refine bS ?_ GE103.out)|exact HB.out)⟩
              ·replace c43:=Bool.eq_false_iff.mpr c43
               subst c43
               have H1:(some false)=some r:=by rw [if_neg (show ¬ (false=true) by decide)] at H;exact H
               clear H
               have H:=H1
               clear H1
               obtain rfl:=Option.some.inj H
               go_wp2
               go_ret
               exact ⟨by first|rfl|(simp [errW_none,errW_some]<;>rfl)|(simp [*, errW_none,errW_some]<;>rfl),by repeat (first|(with_reducible first|exact HB.out|apply bA|apply bN|apply bD|refine bS ?_ GE103.out)|exact HB.out)⟩
        ·rw [if_neg c10] at H
         exact absurd H (by simp)
       ·rw [if_neg c9] at H
        exact absurd H (by simp)
      ·rw [if_neg c8] at H
       have c8b0:decide (x23_2<(l1.length:Int))=false:=decide_eq_false c8
       clear c8
       obtain rfl:=Option.some.inj H
       go_wp2
       go_ret
       exact ⟨by first|rfl|(simp [errW_none,errW_some]<;>rfl)|(simp [*, errW_none,errW_some]<;>rfl),by repeat (first|(with_reducible first|exact HB.out|apply bA|apply bN|apply bD)|exact HB.out)⟩
theorem eqA59 (d:Nat) (w:World) (x0 y0:Int) (x1 y1:Int) :
  (Op.equalIn (d+2) 59 (.agg #[.int .i64 x0,.int .i64 x1]) (.agg #[.int .i64 y0,.int .i64 y1])).run Try.prog w = .ok (x0==y0&&(x1==y1)) w:=by
 refine eqA_of Try.underlying59 (by kernel_rfl) ?_
 refine eqf_cons (by rfl) (by go_simp;rfl) (by go_simp;rfl) (by go_simp) ?_
 exact eqf_last (by rfl) (by go_simp;rfl) (by go_simp;rfl) (by go_simp)
/-! ### spec_l1In: function 38 -/
def spec_l1In.f (a0:Int) (a1:Int) (a2:Int):Option (Bool):=if a0≥a1 then (some (decide (a0≤a2))) else (some false)
set_option maxHeartbeats 8000000 in
set_option maxRecDepth 100000 in
theorem spec_l1In.calls (a0:Int) (a1:Int) (a2:Int) (r:Bool) (w:World) (h:spec_l1In.f a0 a1 a2=some r) :
  Calls Try.prog 38 #[.int .i64 a0,.int .i64 a1,.int .i64 a2] w fun e w'=>e = .returned (.bool r)∧Drawn0 w w':=by
 have H:(if a0≥a1 then (some (decide (a0≤a2))) else (some false))=some r:=h
 clear h
 by_cases c4:a0≥a1
 ·rw [if_pos c4] at H
  have c4b0:decide (a1≤a0)=true:=decide_eq_true c4
  clear c4
  obtain rfl:=Option.some.inj H
  go_enter Try.func38,Try.ntmps38
  go_wp2
  go_ret
  exact ⟨by first|rfl|(simp;done)|(simp [*];done),by repeat (first|exact Drawn0.refl _|apply Drawn0.step)⟩
 ·rw [if_neg c4] at H
  have c4b0:decide (a1≤a0)=false:=decide_eq_false c4
  clear c4
  obtain rfl:=Option.some.inj H
  go_enter Try.func38,Try.ntmps38
  go_wp2
  go_ret
  exact ⟨by first|rfl|(simp;done)|(simp [*];done),by repeat (first|exact Drawn0.refl _|apply Drawn0.step)⟩
end Go.Proofs.Ytbhjeiphmnanoaa.X
namespace Go.Proofs.Ytbhjeiphmnanoaa.X
open Go.RowKit Go.Proofs.YtbhjeiphmnanoaaW.PrintWords Go.Proofs.YtbhjeiphmnanoaaW.PrintLast Go.Proofs.YtbhjeiphmnanoaaW.PrintMore
open Go.Proofs.YtbhjeiphmnanoaaW.PrintWords renaming Aside0.mk → mA, pw_below_drewN → bN, below_drew1 → bD, below_alloc → bA, below_set → bS, blk_alloc → kA, blk_drewN → kN, blk_drew → kD, blk_cell → kC, blk_frozen → kF, below_size → bZ, below_step → bT, blk_put → kP
open List renaming setIfInBounds_toArray → sA, set_cons_zero → sZ, set_cons_succ → sS, length_take → lT, length_drop → lD, map_toArray → mT, map_cons → mC, map_nil → mN
attribute [local go_sem] max2_int min2_int max_two min_two max_three min_three max_four min_four   -- for this text's walks alone
set_option linter.unusedVariables false
set_option linter.unusedSimpArgs false

attribute [local go_sem high] eqA59
/-! ### spec_TermOk: function 49 -/
mutual
def spec_TermOk.l0:Nat→Int→List (S59)→Int→Int→Option (Bool)
 | 0,_,_,_,_=>none
 | k+1,x0,x1,x5,x6=>if x6<(x1.length:Int) then (if 0≤x6 then (if ((rd_T59 x1 x6).f0)=0 then (if ((rd_T59 x1 x6).f1)≥0 then (spec_TermOk.j1 k x0 x1 x5 x6 (decide (((rd_T59 x1 x6).f1)<x0))) else (spec_TermOk.j1 k x0 x1 x5 x6 false)) else (spec_TermOk.j1 k x0 x1 x5 x6 false)) else (none)) else ((spec_l1In.f x0 1 4).bind fun t101=>(if t101=true then (if x5=1 then (some (decide ((x1.length:Int)≤15))) else (some false)) else (some false)))
def spec_TermOk.j1:Nat→Int→List (S59)→Int→Int→Bool→Option (Bool)
 | 0,_,_,_,_,_=>none
 | k+1,x0,x1,x5,x6,x13=>if x13=true then (spec_TermOk.l0 k x0 x1 (wrap64 (x5+1)) (wrap64 (x6+1))) else (if 0≤x6 then (if x6<(x1.length:Int) then (if ((rd_T59 x1 x6).f0)=1 then (if ((rd_T59 x1 x6).f1)≥0 then (if ((rd_T59 x1 x6).f1)≤x0 then (spec_TermOk.j2 k x0 x1 x5 x6 true) else (spec_TermOk.j2 k x0 x1 x5 x6 ((wrap64 (((rd_T59 x1 x6).f1)-1))==x0))) else (spec_TermOk.j2 k x0 x1 x5 x6 false)) else (spec_TermOk.j2 k x0 x1 x5 x6 false)) else (none)) else (none))
def spec_TermOk.j2:Nat→Int→List (S59)→Int→Int→Bool→Option (Bool)
 | 0,_,_,_,_,_=>none
 | k+1,x0,x1,x5,x6,x39=>if x39=true then (spec_TermOk.l0 k x0 x1 (wrap64 (x5+1)) (wrap64 (x6+1))) else (if 0≤x6 then (if x6<(x1.length:Int) then (if (((rd_T59 x1 x6).f0)==2&&(((rd_T59 x1 x6).f1)==0))=true then (spec_TermOk.j3 k x0 x1 x5 x6 (decide (x5≥1))) else (spec_TermOk.j3 k x0 x1 x5 x6 false)) else (none)) else (none))
def spec_TermOk.j3:Nat→Int→List (S59)→Int→Int→Bool→Option (Bool)
 | 0,_,_,_,_,_=>none
 | k+1,x0,x1,x5,x6,x75=>if x75=true then (spec_TermOk.l0 k x0 x1 x5 (wrap64 (x6+1))) else (if 0≤x6 then (if x6<(x1.length:Int) then ((spec_l1In.f ((rd_T59 x1 x6).f0) 3 5).bind fun t111=>(if t111=true then (if ((rd_T59 x1 x6).f1)=0 then (if x5≥2 then (spec_TermOk.l0 k x0 x1 (wrap64 (x5-1)) (wrap64 (x6+1))) else (some false)) else (some false)) else (some false))) else (none)) else (none))
end
def spec_TermOk.f (k:Nat) (a0:Int) (l1:List (S59)):Option (Bool):=spec_TermOk.l0 k a0 l1 0 0
theorem spec_TermOk.mono_l : ∀ k,(∀ y0 y1 y2 y3,LeO (spec_TermOk.l0 k y0 y1 y2 y3) (spec_TermOk.l0 (k+1) y0 y1 y2 y3))∧(∀ y0 y1 y2 y3 y4,LeO (spec_TermOk.j1 k y0 y1 y2 y3 y4) (spec_TermOk.j1 (k+1) y0 y1 y2 y3 y4))∧(∀ y0 y1 y2 y3 y4,LeO (spec_TermOk.j2 k y0 y1 y2 y3 y4) (spec_TermOk.j2 (k+1) y0 y1 y2 y3 y4))∧(∀ y0 y1 y2 y3 y4,LeO (spec_TermOk.j3 k y0 y1 y2 y3 y4) (spec_TermOk.j3 (k+1) y0 y1 y2 y3 y4))
 | 0=>⟨fun _ _ _ _ r h=>by simp [spec_TermOk.l0] at h,fun _ _ _ _ _ r h=>by simp [spec_TermOk.j1] at h,fun _ _ _ _ _ r h=>by simp [spec_TermOk.j2] at h,fun _ _ _ _ _ r h=>by simp [spec_TermOk.j3] at h⟩
 | k+1=>by
  obtain ⟨ih0,ih1,ih2,ih3⟩:=spec_TermOk.mono_l k
  refine ⟨?_,?_,?_,?_⟩
  ·intro y0 y1 y2 y3
   unfold spec_TermOk.l0
   repeat' first
   | (with_reducible exact ih0 _ _ _ _)
   | (with_reducible exact ih1 _ _ _ _ _)
   | (with_reducible exact ih2 _ _ _ _ _)
   | (with_reducible exact ih3 _ _ _ _ _)
   | (with_reducible exact LeO.refl _)
   | (with_reducible exact LeO.none _)
   | (with_reducible refine LeO.ite ?_ ?_)
   | (with_reducible refine LeO.bind ?_ (fun _=>?_))
   | exact ih0 _ _ _ _
   | exact ih1 _ _ _ _ _
   | exact ih2 _ _ _ _ _
   | exact ih3 _ _ _ _ _
   | exact LeO.none _
   | refine LeO.ite ?_ ?_
   | refine LeO.bind ?_ (fun _=>?_)
  ·intro y0 y1 y2 y3 y4
   unfold spec_TermOk.j1
   repeat' first
   | (with_reducible exact ih0 _ _ _ _)
   | (with_reducible exact ih1 _ _ _ _ _)
   | (with_reducible exact ih2 _ _ _ _ _)
   | (with_reducible exact ih3 _ _ _ _ _)
   | (with_reducible exact LeO.refl _)
   | (with_reducible exact LeO.none _)
   | (with_reducible refine LeO.ite ?_ ?_)
   | (with_reducible refine LeO.bind ?_ (fun _=>?_))
   | exact ih0 _ _ _ _
   | exact ih1 _ _ _ _ _
   | exact ih2 _ _ _ _ _
   | exact ih3 _ _ _ _ _
   | exact LeO.none _
   | refine LeO.ite ?_ ?_
   | refine LeO.bind ?_ (fun _=>?_)
  ·intro y0 y1 y2 y3 y4
   unfold spec_TermOk.j2
   repeat' first
   | (with_reducible exact ih0 _ _ _ _)
   | (with_reducible exact ih1 _ _ _ _ _)
   | (with_reducible exact ih2 _ _ _ _ _)
   | (with_reducible exact ih3 _ _ _ _ _)
   | (with_reducible exact LeO.refl _)
   | (with_reducible exact LeO.none _)
   | (with_reducible refine LeO.ite ?_ ?_)
   | (with_reducible refine LeO.bind ?_ (fun _=>?_))
   | exact ih0 _ _ _ _
   | exact ih1 _ _ _ _ _
   | exact ih2 _ _ _ _ _
   | exact ih3 _ _ _ _ _
   | exact LeO.none _
   | refine LeO.ite ?_ ?_
   | refine LeO.bind ?_ (fun _=>?_)
  ·intro y0 y1 y2 y3 y4
   unfold spec_TermOk.j3
   repeat' first
   | (with_reducible exact ih0 _ _ _ _)
   | (with_reducible exact ih1 _ _ _ _ _)
   | (with_reducible exact ih2 _ _ _ _ _)
   | (with_reducible exact ih3 _ _ _ _ _)
   | (with_reducible exact LeO.refl _)
   | (with_reducible exact LeO.none _)
   | (with_reducible refine LeO.ite ?_ ?_)
   | (with_reducible refine LeO.bind ?_ (fun _=>?_))
   | exact ih0 _ _ _ _
   | exact ih1 _ _ _ _ _
   | exact ih2 _ _ _ _ _
   | exact ih3 _ _ _ _ _
   | exact LeO.none _
   | refine LeO.ite ?_ ?_
   | refine LeO.bind ?_ (fun _=>?_)
theorem spec_TermOk.mono : ∀ a0 a1 k,LeO (spec_TermOk.f k a0 a1) (spec_TermOk.f (k+1) a0 a1):=by
 intro a0 a1 k
 obtain ⟨ih0,ih1,ih2,ih3⟩:=spec_TermOk.mono_l k
 unfold spec_TermOk.f
 repeat' first
   | (with_reducible exact ih0 _ _ _ _)
   | (with_reducible exact ih1 _ _ _ _ _)
   | (with_reducible exact ih2 _ _ _ _ _)
   | (with_reducible exact ih3 _ _ _ _ _)
   | (with_reducible exact LeO.refl _)
   | (with_reducible exact LeO.none _)
   | (with_reducible refine LeO.ite ?_ ?_)
   | (with_reducible refine LeO.bind ?_ (fun _=>?_))
   | exact ih0 _ _ _ _
   | exact ih1 _ _ _ _ _
   | exact ih2 _ _ _ _ _
   | exact ih3 _ _ _ _ _
   | exact LeO.none _
   | refine LeO.ite ?_ ?_
   | refine LeO.bind ?_ (fun _=>?_)
set_option maxHeartbeats 8000000 in
set_option maxRecDepth 100000 in
theorem spec_TermOk.calls (k:Nat) (a0:Int) (A1:Option Addr) (c1:Nat) (l1:List (S59)) (r:Bool) (w:World) (hr1:Kd.C k59 w A1 l1.length l1) (hc1:l1.length≤c1) (h:spec_TermOk.f k a0 l1=some r) :
  Calls Try.prog 49 #[.int .i64 a0,.slice A1 l1.length c1] w fun e w'=>e = .returned (.bool r)∧Drawn0 w w':=by
 have hu59:=Try.underlying59
 have HR1:=mA hr1
 have HC1:=mA hc1
 clear hr1 hc1
 have H:(spec_TermOk.l0 k a0 l1 0 0)=some r:=h
 clear h
 have H':=mA H
 clear H
 go_enter Try.func49,Try.ntmps49
 go_wp2
 go_loopg [5,6] k (fun kq v5 v6 w'=>∃ (x5_1:Int) (x6_1:Int),v5 = .int .i64 x5_1∧v6 = .int .i64 x6_1∧Aside0 (spec_TermOk.l0 kq a0 l1 x5_1 x6_1=some r)∧Aside0 (kq≤k)∧Drawn0 w w')
 case atStart=>exact ⟨(0),(0),(by first|rfl|(simp;done)|(simp [*];done)),(by first|rfl|(simp;done)|(simp [*];done)),H',⟨Nat.le_refl _⟩,by repeat (first|exact Drawn0.refl _|apply Drawn0.step)⟩
 case round =>
  clear H'
  try clear c1
  try clear p2
  obtain ⟨x5_1,x6_1,rfl,rfl,HA,HK1,⟨m1,rfl⟩⟩:=hrel
  cases gk with
  | zero=>exact absurd HA.out (by simp [spec_TermOk.l0])
  | succ k1 =>
   have H:=HA.out
   clear HA
   simp only [spec_TermOk.l0] at H
   by_cases c3:x6_1<(l1.length:Int)
   ·rw [if_pos c3] at H
    have c3b0:decide (x6_1<(l1.length:Int))=true:=decide_eq_true c3
    clear c3
    have HC4:=mA H
    clear H
    go_upto_region 6 with (fail)
    go_cut [13] (fun v13 wc=>∃ (kq:Nat) (x13_3:Bool),v13 = .bool x13_3∧Aside0 (spec_TermOk.j1 kq a0 l1 x5_1 x6_1 x13_3=some r)∧Aside0 (kq≤k1)∧Drawn0 w wc)
    case first =>
     have H:=HC4.out
     clear HC4
     by_cases c5:0≤x6_1
     ·rw [if_pos c5] at H
      have c5b0:decide (0≤x6_1)=true:=decide_eq_true c5
      clear c5
      (first|rw [c5b0]|(simp only [i64_w,i32_w];rw [c5b0])|skip)
      by_cases c6:((rd_T59 l1 x6_1).f0)=0
      ·rw [if_pos c6] at H
       have c6b0:(((rd_T59 l1 x6_1).f0)==0)=true:=beq_iff_eq.mpr c6
       have c6b1:(((rd_T59 l1 x6_1).f0) != 0)=false:=bne_eq_false_iff_eq.mpr c6
       clear c6
       by_cases c7:((rd_T59 l1 x6_1).f1)≥0
       ·rw [if_pos c7] at H
        have c7b0:decide (0≤((rd_T59 l1 x6_1).f1))=true:=decide_eq_true c7
        clear c7
        have H':=mA H
        clear H
        have p102:0≤(x6_1:Int):=of_decide_eq_true (by first|with_reducible assumption|assumption)
        have q102:x6_1<(l1.length:Int):=of_decide_eq_true (by first|with_reducible assumption|assumption)
        obtain ⟨ad102,e102,hx102_0,hx102_1⟩:=at_T59 HR1.out x6_1 p102 q102
        cases e102
        replace p102:=eq_true p102
        replace q102:=eq_true q102
        have p103:0≤(x6_1:Int):=of_decide_eq_true (by first|with_reducible assumption|assumption)
        have q103:x6_1<(l1.length:Int):=of_decide_eq_true (by first|with_reducible assumption|assumption)
        obtain ⟨ad103,e103,hx103_0,hx103_1⟩:=at_T59 HR1.out x6_1 p103 q103
        obtain rfl:ad102=ad103:=(by injection e103)
        replace p103:=eq_true p103
        replace q103:=eq_true q103
        have p104:0≤(x6_1:Int):=of_decide_eq_true (by first|with_reducible assumption|assumption)
        have q104:x6_1<(l1.length:Int):=of_decide_eq_true (by first|with_reducible assumption|assumption)
        obtain ⟨ad104,e104,hx104_0,hx104_1⟩:=at_T59 HR1.out x6_1 p104 q104
        obtain rfl:ad102=ad104:=(by injection e104)
        replace p104:=eq_true p104
        replace q104:=eq_true q104
        go_wp2
        go_meet
        case rel=>exact ⟨_,(decide (((rd_T59 l1 x6_1).f1)<a0)),(by first|rfl|(simp;done)|(simp [*];done)),H',⟨by have:=HK1.out;first|omega|exact Nat.le_refl _⟩,by repeat (first|exact Drawn0.refl _|apply Drawn0.step)⟩
       ·rw [if_neg c7] at H
        have c7b0:decide (0≤((rd_T59 l1 x6_1).f1))=false:=decide_eq_false c7
        clear c7
        have H':=mA H
        clear H
        have p102:0≤(x6_1:Int):=of_decide_eq_true (by first|with_reducible assumption|assumption)
        have q102:x6_1<(l1.length:Int):=of_decide_eq_true (by first|with_reducible assumption|assumption)
        obtain ⟨ad102,e102,hx102_0,hx102_1⟩:=at_T59 HR1.out x6_1 p102 q102
        cases e102
        replace p102:=eq_true p102
        replace q102:=eq_true q102
        have p103:0≤(x6_1:Int):=of_decide_eq_true (by first|with_reducible assumption|assumption)
        have q103:x6_1<(l1.length:Int):=of_decide_eq_true (by first|with_reducible assumption|assumption)
        obtain ⟨ad103,e103,hx103_0,hx103_1⟩:=at_T59 HR1.out x6_1 p103 q103
        obtain rfl:ad102=ad103:=(by injection e103)
        replace p103:=eq_true p103
        replace q103:=eq_true q103
        go_wp2
        go_meet
        case rel=>exact ⟨_,(false),(by first|rfl|(simp;done)|(simp [*];done)),H',⟨by have:=HK1.out;first|omega|exact Nat.le_refl _⟩,by repeat (first|exact Drawn0.refl _|apply Drawn0.step)⟩
      ·rw [if_neg c6] at H
       have c6b0:(((rd_T59 l1 x6_1).f0)==0)=false:=beq_eq_false_iff_ne.mpr c6
       have c6b1:(((rd_T59 l1 x6_1).f0) != 0)=true:=bne_iff_ne.mpr c6
       have H':=mA H
       clear H
       have p102:0≤(x6_1:Int):=of_decide_eq_true (by first|with_reducible assumption|assumption)
       have q102:x6_1<(l1.length:Int):=of_decide_eq_true (by first|with_reducible assumption|assumption)
       obtain ⟨ad102,e102,hx102_0,hx102_1⟩:=at_T59 HR1.out x6_1 p102 q102
       cases e102
       replace p102:=eq_true p102
       replace q102:=eq_true q102
       go_wp2
       go_meet
       case rel=>exact ⟨_,(false),(by first|rfl|(simp;done)|(simp [*];done)),H',⟨by have:=HK1.out;first|omega|exact Nat.le_refl _⟩,by repeat (first|exact Drawn0.refl _|apply Drawn0.step)⟩
     ·rw [if_neg c5] at H
      exact absurd H (by simp)
    case rest =>
     clear HC4
     try clear c1
     try clear p1
     try clear q1
     try clear hx1
     try clear p2
     try clear c3
     try clear c3b0
     try clear c4
     try clear c5
     try clear c5b0
     try clear c6
     try clear c6b0
     try clear c6b1
     try clear c7
     try clear c7b0
     try clear hx102_0
     try clear hx102_1
     try clear hx103_0
     try clear hx103_1
     try clear hx104_0
     try clear hx104_1
     try clear p102
     try clear p103
     try clear p104
     try clear p2
     try clear q102
     try clear q103
     try clear q104
     obtain ⟨kq,x13_3,rfl,HA,HJ3,⟨mc3,rfl⟩⟩:=hcut
     cases kq with
     | zero=>exact absurd HA.out (by simp [spec_TermOk.j1])
     | succ kj3 =>
      have H:=HA.out
      clear HA
      simp only [spec_TermOk.j1] at H
      by_cases c8:x13_3=true
      ·subst c8
       have H1:(spec_TermOk.l0 kj3 a0 l1 (wrap64 (x5_1+1)) (wrap64 (x6_1+1)))=some r:=by rw [if_pos rfl] at H;exact H
       clear H
       have H:=H1
       clear H1
       have H':=mA H
       clear H
       go_wp2
       go_roundg kj3
       case measure=>have:=HK1.out;have:=HJ3.out;omega
       case rel=>exact ⟨(wrap64 (x5_1+1)),(wrap64 (x6_1+1)),(by first|rfl|(simp;done)|(simp [*];done)),(by first|rfl|(simp;done)|(simp [*];done)),H',⟨by have:=HK1.out;have:=HJ3.out;omega⟩,by repeat (first|exact Drawn0.refl _|apply Drawn0.step)⟩
      ·replace c8:=Bool.eq_false_iff.mpr c8
       subst c8
       have H1:(if 0≤x6_1 then (if x6_1<(l1.length:Int) then (if ((rd_T59 l1 x6_1).f0)=1 then (if ((rd_T59 l1 x6_1).f1)≥0 then (if ((rd_T59 l1 x6_1).f1)≤a0 then (spec_TermOk.j2 kj3 a0 l1 x5_1 x6_1 true) else (spec_TermOk.j2 kj3 a0 l1 x5_1 x6_1 ((wrap64 (((rd_T59 l1 x6_1).f1)-1))==a0))) else (spec_TermOk.j2 kj3 a0 l1 x5_1 x6_1 false)) else (spec_TermOk.j2 kj3 a0 l1 x5_1 x6_1 false)) else (none)) else (none))=some r:=by rw [if_neg (show ¬ (false=true) by decide)] at H;exact H
       clear H
       have H:=H1
       clear H1
       have HC9:=mA H
       clear H
       go_upto_region 8 with (fail)
       go_cut [39] (fun v39 wc=>∃ (kq:Nat) (x39_8:Bool),v39 = .bool x39_8∧Aside0 (spec_TermOk.j2 kq a0 l1 x5_1 x6_1 x39_8=some r)∧Aside0 (kq≤kj3)∧Drawn0 w wc)
       case first =>
        have H:=HC9.out
        clear HC9
        by_cases c10:0≤x6_1
        ·rw [if_pos c10] at H
         have c10b0:decide (0≤x6_1)=true:=decide_eq_true c10
         clear c10
         (first|rw [c10b0]|(simp only [i64_w,i32_w];rw [c10b0])|skip)
         by_cases c11:x6_1<(l1.length:Int)
         ·rw [if_pos c11] at H
          have c11b0:decide (x6_1<(l1.length:Int))=true:=decide_eq_true c11
          clear c11
          by_cases c12:((rd_T59 l1 x6_1).f0)=1
          ·rw [if_pos c12] at H
           have c12b0:(((rd_T59 l1 x6_1).f0)==1)=true:=beq_iff_eq.mpr c12
           have c12b1:(((rd_T59 l1 x6_1).f0) != 1)=false:=bne_eq_false_iff_eq.mpr c12
           clear c12
           by_cases c13:((rd_T59 l1 x6_1).f1)≥0
           ·rw [if_pos c13] at H
            have c13b0:decide (0≤((rd_T59 l1 x6_1).f1))=true:=decide_eq_true c13
            clear c13
            by_cases c14:((rd_T59 l1 x6_1).f1)≤a0
            ·rw [if_pos c14] at H
             have c14b0:decide (((rd_T59 l1 x6_1).f1)≤a0)=true:=decide_eq_true c14
             clear c14
             have H':=mA H
             clear H
             have p105:0≤(x6_1:Int):=of_decide_eq_true (by first|with_reducible assumption|assumption)
             have q105:x6_1<(l1.length:Int):=of_decide_eq_true (by first|with_reducible assumption|assumption)
             obtain ⟨ad105,e105,hx105_0,hx105_1⟩:=at_T59 HR1.out x6_1 p105 q105
             cases e105
             replace p105:=eq_true p105
             replace q105:=eq_true q105
             have p106:0≤(x6_1:Int):=of_decide_eq_true (by first|with_reducible assumption|assumption)
             have q106:x6_1<(l1.length:Int):=of_decide_eq_true (by first|with_reducible assumption|assumption)
             obtain ⟨ad106,e106,hx106_0,hx106_1⟩:=at_T59 HR1.out x6_1 p106 q106
             obtain rfl:ad105=ad106:=(by injection e106)
             replace p106:=eq_true p106
             replace q106:=eq_true q106
             have p107:0≤(x6_1:Int):=of_decide_eq_true (by first|with_reducible assumption|assumption)
             have q107:x6_1<(l1.length:Int):=of_decide_eq_true (by first|with_reducible assumption|assumption)
             obtain ⟨ad107,e107,hx107_0,hx107_1⟩:=at_T59 HR1.out x6_1 p107 q107
             obtain rfl:ad105=ad107:=(by injection e107)
             replace p107:=eq_true p107
             replace q107:=eq_true q107
             go_wp2
             go_meet
             case rel=>exact ⟨_,(true),(by first|rfl|(simp;done)|(simp [*];done)),H',⟨by have:=HK1.out;have:=HJ3.out;first|omega|exact Nat.le_refl _⟩,by repeat (first|exact Drawn0.refl _|apply Drawn0.step)⟩
            ·rw [if_neg c14] at H
             have c14b0:decide (((rd_T59 l1 x6_1).f1)≤a0)=false:=decide_eq_false c14
             clear c14
             have H':=mA H
             clear H
             have p105:0≤(x6_1:Int):=of_decide_eq_true (by first|with_reducible assumption|assumption)
             have q105:x6_1<(l1.length:Int):=of_decide_eq_true (by first|with_reducible assumption|assumption)
             obtain ⟨ad105,e105,hx105_0,hx105_1⟩:=at_T59 HR1.out x6_1 p105 q105
             cases e105
             replace p105:=eq_true p105
             replace q105:=eq_true q105
             have p106:0≤(x6_1:Int):=of_decide_eq_true (by first|with_reducible assumption|assumption)
             have q106:x6_1<(l1.length:Int):=of_decide_eq_true (by first|with_reducible assumption|assumption)
             obtain ⟨ad106,e106,hx106_0,hx106_1⟩:=at_T59 HR1.out x6_1 p106 q106
             obtain rfl:ad105=ad106:=(by injection e106)
             replace p106:=eq_true p106
             replace q106:=eq_true q106
             have p107:0≤(x6_1:Int):=of_decide_eq_true (by first|with_reducible assumption|assumption)
             have q107:x6_1<(l1.length:Int):=of_decide_eq_true (by first|with_reducible assumption|assumption)
             obtain ⟨ad107,e107,hx107_0,hx107_1⟩:=at_T59 HR1.out x6_1 p107 q107
             obtain rfl:ad105=ad107:=(by injection e107)
             replace p107:=eq_true p107
             replace q107:=eq_true q107
             have p108:0≤(x6_1:Int):=of_decide_eq_true (by first|with_reducible assumption|assumption)
             have q108:x6_1<(l1.length:Int):=of_decide_eq_true (by first|with_reducible assumption|assumption)
             obtain ⟨ad108,e108,hx108_0,hx108_1⟩:=at_T59 HR1.out x6_1 p108 q108
             obtain rfl:ad105=ad108:=(by injection e108)
             replace p108:=eq_true p108
             replace q108:=eq_true q108
             go_wp2
             go_meet
             case rel=>exact ⟨_,(((wrap64 (((rd_T59 l1 x6_1).f1)-1))==a0)),(by first|rfl|(simp;done)|(simp [*];done)),H',⟨by have:=HK1.out;have:=HJ3.out;first|omega|exact Nat.le_refl _⟩,by repeat (first|exact Drawn0.refl _|apply Drawn0.step)⟩
           ·rw [if_neg c13] at H
            have c13b0:decide (0≤((rd_T59 l1 x6_1).f1))=false:=decide_eq_false c13
            clear c13
            have H':=mA H
            clear H
            have p105:0≤(x6_1:Int):=of_decide_eq_true (by first|with_reducible assumption|assumption)
            have q105:x6_1<(l1.length:Int):=of_decide_eq_true (by first|with_reducible assumption|assumption)
            obtain ⟨ad105,e105,hx105_0,hx105_1⟩:=at_T59 HR1.out x6_1 p105 q105
            cases e105
            replace p105:=eq_true p105
            replace q105:=eq_true q105
            have p106:0≤(x6_1:Int):=of_decide_eq_true (by first|with_reducible assumption|assumption)
            have q106:x6_1<(l1.length:Int):=of_decide_eq_true (by first|with_reducible assumption|assumption)
            obtain ⟨ad106,e106,hx106_0,hx106_1⟩:=at_T59 HR1.out x6_1 p106 q106
            obtain rfl:ad105=ad106:=(by injection e106)
            replace p106:=eq_true p106
            replace q106:=eq_true q106
            go_wp2
            go_meet
            case rel=>exact ⟨_,(false),(by first|rfl|(simp;done)|(simp [*];done)),H',⟨by have:=HK1.out;have:=HJ3.out;first|omega|exact Nat.le_refl _⟩,by repeat (first|exact Drawn0.refl _|apply Drawn0.step)⟩
          ·rw [if_neg c12] at H
           have c12b0:(((rd_T59 l1 x6_1).f0)==1)=false:=beq_eq_false_iff_ne.mpr c12
           have c12b1:(((rd_T59 l1 x6_1).f0) != 1)=true:=bne_iff_ne.mpr c12
           have H':=mA H
           clear H
           have p105:0≤(x6_1:Int):=of_decide_eq_true (by first|with_reducible assumption|assumption)
           have q105:x6_1<(l1.length:Int):=of_decide_eq_true (by first|with_reducible assumption|assumption)
           obtain ⟨ad105,e105,hx105_0,hx105_1⟩:=at_T59 HR1.out x6_1 p105 q105
           cases e105
           replace p105:=eq_true p105
           replace q105:=eq_true q105
           go_wp2
           go_meet
           case rel=>exact ⟨_,(false),(by first|rfl|(simp;done)|(simp [*];done)),H',⟨by have:=HK1.out;have:=HJ3.out;first|omega|exact Nat.le_refl _⟩,by repeat (first|exact Drawn0.refl _|apply Drawn0.step)⟩
         ·rw [if_neg c11] at H
          exact absurd H (by simp)
        ·rw [if_neg c10] at H
         exact absurd H (by simp)
       case rest =>
        clear HC9
        try clear c1
        try clear p1
        try clear q1
        try clear hx1
        try clear p2
        try clear c3
        try clear c3b0
        try clear c4
        try clear c5
        try clear c5b0
        try clear c6
        try clear c6b0
        try clear c6b1
        try clear p6
        try clear c7
        try clear c7b0
        try clear c8
        try clear c10
        try clear c10b0
        try clear p10
        try clear q10
        try clear hx10
        try clear c11
        try clear c11b0
        try clear c12
        try clear c12b0
        try clear c12b1
        try clear c13
        try clear c13b0
        try clear c14
        try clear c14b0
        try clear hx102_0
        try clear hx102_1
        try clear hx103_0
        try clear hx103_1
        try clear hx104_0
        try clear hx104_1
        try clear hx105_0
        try clear hx105_1
        try clear hx106_0
        try clear hx106_1
        try clear hx107_0
        try clear hx107_1
        try clear hx108_0
        try clear hx108_1
        try clear p1
        try clear p102
        try clear p103
        try clear p104
        try clear p105
        try clear p106
        try clear p107
        try clear p108
        try clear p2
        try clear q1
        try clear q102
        try clear q103
        try clear q104
        try clear q105
        try clear q106
        try clear q107
        try clear q108
        obtain ⟨kq,x39_8,rfl,HA,HJ8,⟨mc8,rfl⟩⟩:=hcut
        cases kq with
        | zero=>exact absurd HA.out (by simp [spec_TermOk.j2])
        | succ kj8 =>
         have H:=HA.out
         clear HA
         simp only [spec_TermOk.j2] at H
         by_cases c15:x39_8=true
         ·subst c15
          have H1:(spec_TermOk.l0 kj8 a0 l1 (wrap64 (x5_1+1)) (wrap64 (x6_1+1)))=some r:=by rw [if_pos rfl] at H;exact H
          clear H
          have H:=H1
          clear H1
          have H':=mA H
          clear H
          go_wp2
          go_roundg kj8
          case measure=>have:=HK1.out;have:=HJ3.out;have:=HJ8.out;omega
          case rel=>exact ⟨(wrap64 (x5_1+1)),(wrap64 (x6_1+1)),(by first|rfl|(simp;done)|(simp [*];done)),(by first|rfl|(simp;done)|(simp [*];done)),H',⟨by have:=HK1.out;have:=HJ3.out;have:=HJ8.out;omega⟩,by repeat (first|exact Drawn0.refl _|apply Drawn0.step)⟩
         ·replace c15:=Bool.eq_false_iff.mpr c15
          subst c15
          have H1:(if 0≤x6_1 then (if x6_1<(l1.length:Int) then (if (((rd_T59 l1 x6_1).f0)==2&&(((rd_T59 l1 x6_1).f1)==0))=true then (spec_TermOk.j3 kj8 a0 l1 x5_1 x6_1 (decide (x5_1≥1))) else (spec_TermOk.j3 kj8 a0 l1 x5_1 x6_1 false)) else (none)) else (none))=some r:=by rw [if_neg (show ¬ (false=true) by decide)] at H;exact H
          clear H
          have H:=H1
          clear H1
          have HC16:=mA H
          clear H
          go_upto_region 10 with (fail)
          go_cut [75] (fun v75 wc=>∃ (kq:Nat) (x75_15:Bool),v75 = .bool x75_15∧Aside0 (spec_TermOk.j3 kq a0 l1 x5_1 x6_1 x75_15=some r)∧Aside0 (kq≤kj8)∧Drawn0 w wc)
          case first =>
           have H:=HC16.out
           clear HC16
           by_cases c17:0≤x6_1
           ·rw [if_pos c17] at H
            have c17b0:decide (0≤x6_1)=true:=decide_eq_true c17
            clear c17
            (first|rw [c17b0]|(simp only [i64_w,i32_w];rw [c17b0])|skip)
            by_cases c18:x6_1<(l1.length:Int)
            ·rw [if_pos c18] at H
             have c18b0:decide (x6_1<(l1.length:Int))=true:=decide_eq_true c18
             clear c18
             by_cases c19:(((rd_T59 l1 x6_1).f0)==2&&(((rd_T59 l1 x6_1).f1)==0))=true
             ·rw [if_pos c19] at H
              have c19b0:(((rd_T59 l1 x6_1).f0)==2&&(((rd_T59 l1 x6_1).f1)==0))=true:=c19
              (try (have c19b1:decide (((rd_T59 l1 x6_1).f0)=2&&(((rd_T59 l1 x6_1).f1)==0))=true:=by simpa using c19))
              (try (have c19b2:(((rd_T59 l1 x6_1).f0)==2&&(((rd_T59 l1 x6_1).f1)==0))=true:=by simpa using c19))
              clear c19
              have H':=mA H
              clear H
              have p109:0≤(x6_1:Int):=of_decide_eq_true (by first|with_reducible assumption|assumption)
              have q109:x6_1<(l1.length:Int):=of_decide_eq_true (by first|with_reducible assumption|assumption)
              obtain ⟨ad109,e109,hx109_0,hx109_1⟩:=at_T59 HR1.out x6_1 p109 q109
              cases e109
              replace p109:=eq_true p109
              replace q109:=eq_true q109
              go_wp2
              go_meet
              case rel=>exact ⟨_,(decide (x5_1≥1)),(by first|rfl|(simp;done)|(simp [*];done)),H',⟨by have:=HK1.out;have:=HJ3.out;have:=HJ8.out;first|omega|exact Nat.le_refl _⟩,by repeat (first|exact Drawn0.refl _|apply Drawn0.step)⟩
             ·rw [if_neg c19] at H
              have c19b0:(((rd_T59 l1 x6_1).f0)==2&&(((rd_T59 l1 x6_1).f1)==0))=false:=by simpa using c19
              (try (have c19b1:decide (((rd_T59 l1 x6_1).f0)=2&&(((rd_T59 l1 x6_1).f1)==0))=false:=by simpa using c19))
              (try (have c19b2:(((rd_T59 l1 x6_1).f0)==2&&(((rd_T59 l1 x6_1).f1)==0))=false:=by simpa using c19))
              (try (have c19b3 : ¬ (((rd_T59 l1 x6_1).f0)=2&&(((rd_T59 l1 x6_1).f1)==0)):=by simpa using c19))
              clear c19
              have H':=mA H
              clear H
              have p109:0≤(x6_1:Int):=of_decide_eq_true (by first|with_reducible assumption|assumption)
              have q109:x6_1<(l1.length:Int):=of_decide_eq_true (by first|with_reducible assumption|assumption)
              obtain ⟨ad109,e109,hx109_0,hx109_1⟩:=at_T59 HR1.out x6_1 p109 q109
              cases e109
              replace p109:=eq_true p109
              replace q109:=eq_true q109
              go_wp2
              go_meet
              case rel=>exact ⟨_,(false),(by first|rfl|(simp;done)|(simp [*];done)),H',⟨by have:=HK1.out;have:=HJ3.out;have:=HJ8.out;first|omega|exact Nat.le_refl _⟩,by repeat (first|exact Drawn0.refl _|apply Drawn0.step)⟩
            ·rw [if_neg c18] at H
             exact absurd H (by simp)
           ·rw [if_neg c17] at H
            exact absurd H (by simp)
          case rest =>
           clear HC16
           try clear c1
           try clear p1
           try clear q1
           try clear hx1
           try clear p2
           try clear c3
           try clear c3b0
           try clear c4
           try clear c5
           try clear c5b0
           try clear c6
           try clear c6b0
           try clear c6b1
           try clear p6
           try clear c7
           try clear c7b0
           try clear c8
           try clear c10
           try clear c10b0
           try clear p10
           try clear q10
           try clear hx10
           try clear c11
           try clear c11b0
           try clear c12
           try clear c12b0
           try clear c12b1
           try clear c13
           try clear c13b0
           try clear c14
           try clear c14b0
           try clear c15
           try clear c17
           try clear c17b0
           try clear c18
           try clear c18b0
           try clear c19
           try clear c19b0
           try clear c19b1
           try clear c19b2
           try clear hx102_0
           try clear hx102_1
           try clear hx103_0
           try clear hx103_1
           try clear hx104_0
           try clear hx104_1
           try clear hx105_0
           try clear hx105_1
           try clear hx106_0
           try clear hx106_1
           try clear hx107_0
           try clear hx107_1
           try clear hx108_0
           try clear hx108_1
           try clear hx109_0
           try clear hx109_1
           try clear p1
           try clear p10
           try clear p102
           try clear p103
           try clear p104
           try clear p105
           try clear p106
           try clear p107
           try clear p108
           try clear p109
           try clear p2
           try clear p6
           try clear q1
           try clear q10
           try clear q102
           try clear q103
           try clear q104
           try clear q105
           try clear q106
           try clear q107
           try clear q108
           try clear q109
           obtain ⟨kq,x75_15,rfl,HA,HJ15,⟨mc15,rfl⟩⟩:=hcut
           cases kq with
           | zero=>exact absurd HA.out (by simp [spec_TermOk.j3])
           | succ kj15 =>
            have H:=HA.out
            clear HA
            simp only [spec_TermOk.j3] at H
            by_cases c20:x75_15=true
            ·subst c20
             have H1:(spec_TermOk.l0 kj15 a0 l1 x5_1 (wrap64 (x6_1+1)))=some r:=by rw [if_pos rfl] at H;exact H
             clear H
             have H:=H1
             clear H1
             have H':=mA H
             clear H
             go_wp2
             go_roundg kj15
             case measure=>have:=HK1.out;have:=HJ3.out;have:=HJ8.out;have:=HJ15.out;omega
             case rel=>exact ⟨(x5_1),(wrap64 (x6_1+1)),(by first|rfl|(simp;done)|(simp [*];done)),(by first|rfl|(simp;done)|(simp [*];done)),H',⟨by have:=HK1.out;have:=HJ3.out;have:=HJ8.out;have:=HJ15.out;omega⟩,by repeat (first|exact Drawn0.refl _|apply Drawn0.step)⟩
            ·replace c20:=Bool.eq_false_iff.mpr c20
             subst c20
             have H1:(if 0≤x6_1 then (if x6_1<(l1.length:Int) then ((spec_l1In.f ((rd_T59 l1 x6_1).f0) 3 5).bind fun t111=>(if t111=true then (if ((rd_T59 l1 x6_1).f1)=0 then (if x5_1≥2 then (spec_TermOk.l0 kj15 a0 l1 (wrap64 (x5_1-1)) (wrap64 (x6_1+1))) else (some false)) else (some false)) else (some false))) else (none)) else (none))=some r:=by rw [if_neg (show ¬ (false=true) by decide)] at H;exact H
             clear H
             have H:=H1
             clear H1
             by_cases c21:0≤x6_1
             ·rw [if_pos c21] at H
              have c21b0:decide (0≤x6_1)=true:=decide_eq_true c21
              clear c21
              by_cases c22:x6_1<(l1.length:Int)
              ·rw [if_pos c22] at H
               have c22b0:decide (x6_1<(l1.length:Int))=true:=decide_eq_true c22
               clear c22
               replace H:=Option.bind_eq_some_iff.mp H
               obtain ⟨t111,A230,H⟩:=H
               replace H:(if t111=true then (if ((rd_T59 l1 x6_1).f1)=0 then (if x5_1≥2 then (spec_TermOk.l0 kj15 a0 l1 (wrap64 (x5_1-1)) (wrap64 (x6_1+1))) else (some false)) else (some false)) else (some false))=some r:=H
               have A23:=mA A230
               clear A230
               by_cases c24:t111=true
               ·subst c24
                have H1:(if ((rd_T59 l1 x6_1).f1)=0 then (if x5_1≥2 then (spec_TermOk.l0 kj15 a0 l1 (wrap64 (x5_1-1)) (wrap64 (x6_1+1))) else (some false)) else (some false))=some r:=by rw [if_pos rfl] at H;exact H
                clear H
                have H:=H1
                clear H1
                by_cases c25:((rd_T59 l1 x6_1).f1)=0
                ·rw [if_pos c25] at H
                 have c25b0:(((rd_T59 l1 x6_1).f1)==0)=true:=beq_iff_eq.mpr c25
                 have c25b1:(((rd_T59 l1 x6_1).f1) != 0)=false:=bne_eq_false_iff_eq.mpr c25
                 clear c25
                 by_cases c26:x5_1≥2
                 ·rw [if_pos c26] at H
                  have c26b0:decide (2≤x5_1)=true:=decide_eq_true c26
                  clear c26
                  have H':=mA H
                  clear H
                  have p110:0≤(x6_1:Int):=of_decide_eq_true (by first|with_reducible assumption|assumption)
                  have q110:x6_1<(l1.length:Int):=of_decide_eq_true (by first|with_reducible assumption|assumption)
                  obtain ⟨ad110,e110,hx110_0,hx110_1⟩:=at_T59 HR1.out x6_1 p110 q110
                  cases e110
                  replace p110:=eq_true p110
                  replace q110:=eq_true q110
                  go_wp2_with (first|((with_reducible refine gate_callee (f:=38) rfl ?_);refine goesL_ (some 92) rfl rfl Try.func38 (by kernel_rfl) rfl #[.int .i64 ((rd_T59 l1 x6_1).f0),.int .i64 3,.int .i64 5] rfl (by (try simp only [mT,mC,mN]);first|done|rfl|(simp only [lD,lT];rfl)) ?_;(with_reducible refine (spec_l1In.calls ((rd_T59 l1 x6_1).f0) 3 5 true _ A23.out).mono ?_);rintro e w' ⟨rfl,⟨nd,rfl⟩⟩;refine ⟨_,rfl,?_⟩;have p112:0≤(x6_1:Int):=of_decide_eq_true (by first|with_reducible assumption|assumption);have q112:x6_1<(l1.length:Int):=of_decide_eq_true (by first|with_reducible assumption|assumption);obtain ⟨ad112,e112,hx112_0,hx112_1⟩:=at_T59 HR1.out x6_1 p112 q112;obtain rfl:ad110=ad112:=(by injection e112);replace p112:=eq_true p112;replace q112:=eq_true q112))
                  go_roundg kj15
                  case measure=>have:=HK1.out;have:=HJ3.out;have:=HJ8.out;have:=HJ15.out;omega
                  case rel=>exact ⟨(wrap64 (x5_1-1)),(wrap64 (x6_1+1)),(by first|rfl|(simp;done)|(simp [*];done)),(by first|rfl|(simp;done)|(simp [*];done)),H',⟨by have:=HK1.out;have:=HJ3.out;have:=HJ8.out;have:=HJ15.out;omega⟩,by repeat (first|exact Drawn0.refl _|apply Drawn0.step)⟩
                 ·rw [if_neg c26] at H
                  have c26b0:decide (2≤x5_1)=false:=decide_eq_false c26
                  clear c26
                  obtain rfl:=Option.some.inj H
                  have p110:0≤(x6_1:Int):=of_decide_eq_true (by first|with_reducible assumption|assumption)
                  have q110:x6_1<(l1.length:Int):=of_decide_eq_true (by first|with_reducible assumption|assumption)
                  obtain ⟨ad110,e110,hx110_0,hx110_1⟩:=at_T59 HR1.out x6_1 p110 q110
                  cases e110
                  replace p110:=eq_true p110
                  replace q110:=eq_true q110
                  go_wp2_with (first|((with_reducible refine gate_callee (f:=38) rfl ?_);refine goesL_ (some 92) rfl rfl Try.func38 (by kernel_rfl) rfl #[.int .i64 ((rd_T59 l1 x6_1).f0),.int .i64 3,.int .i64 5] rfl (by (try simp only [mT,mC,mN]);first|done|rfl|(simp only [lD,lT];rfl)) ?_;(with_reducible refine (spec_l1In.calls ((rd_T59 l1 x6_1).f0) 3 5 true _ A23.out).mono ?_);rintro e w' ⟨rfl,⟨nd,rfl⟩⟩;refine ⟨_,rfl,?_⟩;have p112:0≤(x6_1:Int):=of_decide_eq_true (by first|with_reducible assumption|assumption);have q112:x6_1<(l1.length:Int):=of_decide_eq_true (by first|with_reducible assumption|assumption);obtain ⟨ad112,e112,hx112_0,hx112_1⟩:=at_T59 HR1.out x6_1 p112 q112;obtain rfl:ad110=ad112:=(by injection e112);replace p112:=eq_true p112;replace q112:=eq_true q112))
                  go_ret
                  exact ⟨by first|rfl|(simp;done)|(simp [*];done),by repeat (first|exact Drawn0.refl _|apply Drawn0.step)⟩
                ·rw [if_neg c25] at H
                 have c25b0:(((rd_T59 l1 x6_1).f1)==0)=false:=beq_eq_false_iff_ne.mpr c25
                 have c25b1:(((rd_T59 l1 x6_1).f1) != 0)=true:=bne_iff_ne.mpr c25
                 obtain rfl:=Option.some.inj H
                 have p110:0≤(x6_1:Int):=of_decide_eq_true (by first|with_reducible assumption|assumption)
                 have q110:x6_1<(l1.length:Int):=of_decide_eq_true (by first|with_reducible assumption|assumption)
                 obtain ⟨ad110,e110,hx110_0,hx110_1⟩:=at_T59 HR1.out x6_1 p110 q110
                 cases e110
                 replace p110:=eq_true p110
                 replace q110:=eq_true q110
                 go_wp2_with (first|((with_reducible refine gate_callee (f:=38) rfl ?_);refine goesL_ (some 92) rfl rfl Try.func38 (by kernel_rfl) rfl #[.int .i64 ((rd_T59 l1 x6_1).f0),.int .i64 3,.int .i64 5] rfl (by (try simp only [mT,mC,mN]);first|done|rfl|(simp only [lD,lT];rfl)) ?_;(with_reducible refine (spec_l1In.calls ((rd_T59 l1 x6_1).f0) 3 5 true _ A23.out).mono ?_);rintro e w' ⟨rfl,⟨nd,rfl⟩⟩;refine ⟨_,rfl,?_⟩;have p112:0≤(x6_1:Int):=of_decide_eq_true (by first|with_reducible assumption|assumption);have q112:x6_1<(l1.length:Int):=of_decide_eq_true (by first|with_reducible assumption|assumption);obtain ⟨ad112,e112,hx112_0,hx112_1⟩:=at_T59 HR1.out x6_1 p112 q112;obtain rfl:ad110=ad112:=(by injection e112);replace p112:=eq_true p112;replace q112:=eq_true q112))
                 go_ret
                 exact ⟨by first|rfl|(simp;done)|(simp [*];done),by repeat (first|exact Drawn0.refl _|apply Drawn0.step)⟩
               ·replace c24:=Bool.eq_false_iff.mpr c24
                subst c24
                have H1:(some false)=some r:=by rw [if_neg (show ¬ (false=true) by decide)] at H;exact H
                clear H
                have H:=H1
                clear H1
                obtain rfl:=Option.some.inj H
                have p110:0≤(x6_1:Int):=of_decide_eq_true (by first|with_reducible assumption|assumption)
                have q110:x6_1<(l1.length:Int):=of_decide_eq_true (by first|with_reducible assumption|assumption)
                obtain ⟨ad110,e110,hx110_0,hx110_1⟩:=at_T59 HR1.out x6_1 p110 q110
                cases e110
                replace p110:=eq_true p110
                replace q110:=eq_true q110
                go_wp2_with (first|((with_reducible refine gate_callee (f:=38) rfl ?_);refine goesL_ (some 92) rfl rfl Try.func38 (by kernel_rfl) rfl #[.int .i64 ((rd_T59 l1 x6_1).f0),.int .i64 3,.int .i64 5] rfl (by (try simp only [mT,mC,mN]);first|done|rfl|(simp only [lD,lT];rfl)) ?_;(with_reducible refine (spec_l1In.calls ((rd_T59 l1 x6_1).f0) 3 5 false _ A23.out).mono ?_);rintro e w' ⟨rfl,⟨nd,rfl⟩⟩;refine ⟨_,rfl,?_⟩))
                go_ret
                exact ⟨by first|rfl|(simp;done)|(simp [*];done),by repeat (first|exact Drawn0.refl _|apply Drawn0.step)⟩
              ·rw [if_neg c22] at H
               exact absurd H (by simp)
             ·rw [if_neg c21] at H
              exact absurd H (by simp)
   ·rw [if_neg c3] at H
    have c3b0:decide (x6_1<(l1.length:Int))=false:=decide_eq_false c3
    clear c3
    replace H:=Option.bind_eq_some_iff.mp H
    obtain ⟨t101,A270,H⟩:=H
    replace H:(if t101=true then (if x5_1=1 then (some (decide ((l1.length:Int)≤15))) else (some false)) else (some false))=some r:=H
    have A27:=mA A270
    clear A270
    by_cases c28:t101=true
    ·subst c28
     have H1:(if x5_1=1 then (some (decide ((l1.length:Int)≤15))) else (some false))=some r:=by rw [if_pos rfl] at H;exact H
     clear H
     have H:=H1
     clear H1
     by_cases c29:x5_1=1
     ·rw [if_pos c29] at H
      have c29b0:(x5_1==1)=true:=beq_iff_eq.mpr c29
      have c29b1:(x5_1 != 1)=false:=bne_eq_false_iff_eq.mpr c29
      clear c29
      obtain rfl:=Option.some.inj H
      go_wp2_with (first|((with_reducible refine gate_callee (f:=38) rfl ?_);refine goesL_ (some 108) rfl rfl Try.func38 (by kernel_rfl) rfl #[.int .i64 a0,.int .i64 1,.int .i64 4] rfl (by (try simp only [mT,mC,mN]);first|done|rfl|(simp only [lD,lT];rfl)) ?_;(with_reducible refine (spec_l1In.calls a0 1 4 true _ A27.out).mono ?_);rintro e w' ⟨rfl,⟨nd,rfl⟩⟩;refine ⟨_,rfl,?_⟩))
      go_ret
      exact ⟨by first|rfl|(simp;done)|(simp [*];done),by repeat (first|exact Drawn0.refl _|apply Drawn0.step)⟩
     ·rw [if_neg c29] at H
      have c29b0:(x5_1==1)=false:=beq_eq_false_iff_ne.mpr c29
      have c29b1:(x5_1 != 1)=true:=bne_iff_ne.mpr c29
      obtain rfl:=Option.some.inj H
      go_wp2_with (first|((with_reducible refine gate_callee (f:=38) rfl ?_);refine goesL_ (some 108) rfl rfl Try.func38 (by kernel_rfl) rfl #[.int .i64 a0,.int .i64 1,.int .i64 4] rfl (by (try simp only [mT,mC,mN]);first|done|rfl|(simp only [lD,lT];rfl)) ?_;(with_reducible refine (spec_l1In.calls a0 1 4 true _ A27.out).mono ?_);rintro e w' ⟨rfl,⟨nd,rfl⟩⟩;refine ⟨_,rfl,?_⟩))
      go_ret
      exact ⟨by first|rfl|(simp;done)|(simp [*];done),by repeat (first|exact Drawn0.refl _|apply Drawn0.step)⟩
    ·replace c28:=Bool.eq_false_iff.mpr c28
     subst c28
     have H1:(some false)=some r:=by rw [if_neg (show ¬ (false=true) by decide)] at H;exact H
     clear H
     have H:=H1
     clear H1
     obtain rfl:=Option.some.inj H
     go_wp2_with (first|((with_reducible refine gate_callee (f:=38) rfl ?_);refine goesL_ (some 108) rfl rfl Try.func38 (by kernel_rfl) rfl #[.int .i64 a0,.int .i64 1,.int .i64 4] rfl (by (try simp only [mT,mC,mN]);first|done|rfl|(simp only [lD,lT];rfl)) ?_;(with_reducible refine (spec_l1In.calls a0 1 4 false _ A27.out).mono ?_);rintro e w' ⟨rfl,⟨nd,rfl⟩⟩;refine ⟨_,rfl,?_⟩))
     go_ret
     exact ⟨by first|rfl|(simp;done)|(simp [*];done),by repeat (first|exact Drawn0.refl _|apply Drawn0.step)⟩

end Go.Proofs.Ytbhjeiphmnanoaa.X
