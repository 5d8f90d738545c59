/- The given statement FnSpySaysSaid: the law laws.FnSpySays returns true for all arguments (spies say each claim, and deny it: for every code). Conditions: none but those that the statement itself names. Joined by a program of this session's: PureFnSpySays, LawFnSpySays. -/
import Derived.Test.YtpampekijfjlkabG94e605f808
import Derived.Test.YtpampekijfjlkabG1304d234dc
import Derived.Test.YtpampekijfjlkabRows
import Derived.Test.YtpampekijfjlkabG8efdcf72bb
import Derived.WalkKit
import Derived.ProofKit
import Derived.OpenShut
import Derived.ShutString
import Derived.ChangeOld
import Derived.Below
import Derived.SizedLaws
import Derived.Test.YtpampekijfjlkabVf73ae70719

/- Spies say each claim, and deny it: for every code. -/
namespace Go.Proofs.Ytpampekijfjlkab.Pure
open Go.RowKit Go.Proofs.Ytpampekijfjlkab.X Go.Proofs.Ytpampekijfjlkab.L Go.Proofs.YtpampekijfjlkabW.PrintWords Go.Proofs.YtpampekijfjlkabW.PrintLast Go.Proofs.YtpampekijfjlkabW.PrintMore
theorem out_ (ks:List Int) (i:Int) (t:List M):Ev (fun k=>laws_FnSpySays.j0 k ks false true i t) true:=by
 refine Ev.step (fun k=>by simp only [laws_FnSpySays.j0];rfl) (Ev.yes trivial (Ev.no (by simp) ?_))
 rw [alive_eq']
 exact Ev.some _
theorem in_ {ks:List Int} {i:Int} {t:List M} (hl:ks.length≤101) (hk:kok ks=true) (hc:clok (ks.length:Int) i t=true):Ev (fun k=>laws_FnSpySays.j0 k ks (spySays ks i t) false i t) true:=by
 obtain ⟨hi0,hi1,htk,_⟩:=clok_iff.1 hc
 have hk4:=kok_iff.1 hk
 have hkw:=kw_lt hk
 have hkw16:=kw16 hk
 have e0:spySays ks i t=if rd ks i=2 then true else may i t (kw ks):=if_pos ⟨hk,hc⟩
 have hwk:wok (ks.length:Int) ((kw ks:Nat):Int)=true:=wok_iff.2 ⟨by omega,by omega,by omega,by rw [Int.toNat_natCast];omega⟩
 have hms:=impl_MaySay_ev (ks.length:Int) i t ((kw ks:Nat):Int)
 have ems:maySay (ks.length:Int) i t ((kw ks:Nat):Int)=may i t (kw ks):=if_pos ⟨hc,hwk⟩
 rw [ems] at hms
 have hwo:=impl_World_ev (ks:=ks) (by omega)
 rw [if_pos hk] at hwo
 refine Ev.step (fun k=>by simp only [laws_FnSpySays.j0];rfl) (Ev.no (by simp) (Ev.bind (impl_Deny_ev (ks.length:Int) i t) ?_))
 by_cases hn:clok (ks.length:Int) i (t++[⟨2,0⟩])=true
 ·have ed:denyR (ks.length:Int) i t=(i,t++[⟨2,0⟩],true):=by rw [denyR,if_pos hc,claimR,if_pos hn]
  have e1:spySays ks i (t++[⟨2,0⟩])=if rd ks i=2 then true else !may i t (kw ks):=by
   rw [←may_not htk hkw16]
   exact if_pos ⟨hk,hn⟩
  rw [ed]
  have hsp:=impl_SpySays_ev ks i (t++[⟨2,0⟩]) (by omega)
  refine Ev.bind hsp (Ev.yes hi0 (Ev.yes hi1 ?_))
  by_cases h2:rd ks i=2
  ·rw [if_pos h2] at e0 e1
   refine Ev.yes h2 (Ev.yes e0 (Ev.yes rfl (Ev.cast (Ev.some _) e1)))
  ·rw [if_neg h2] at e0 e1
   generalize spySays ks i (t++[⟨2,0⟩])=Z at *
   generalize spySays ks i t=Y at *
   subst e0 e1
   refine Ev.no h2 (Ev.yes rfl (Ev.yes (by cases may i t (kw ks)<;>rfl) (Ev.bind hwo (Ev.bind hms (Ev.cast (Ev.some _) ?_)))))
   exact beq_self_eq_true _
 ·have ed:denyR (ks.length:Int) i t=(0,[],false):=by rw [denyR,if_pos hc,claimR,if_neg hn]
  rw [ed]
  refine Ev.bind (impl_SpySays_ev ks 0 [] (by omega)) (Ev.yes hi0 (Ev.yes hi1 ?_))
  by_cases h2:rd ks i=2
  ·rw [if_pos h2] at e0
   exact Ev.yes h2 (Ev.yes e0 (Ev.no (by simp) (Ev.some _)))
  ·rw [if_neg h2] at e0
   rw [e0]
   refine Ev.no h2 (Ev.no (by simp) (Ev.bind hwo (Ev.bind hms (Ev.cast (Ev.some _) ?_))))
   exact beq_self_eq_true _
theorem FnSpySays:laws_FnSpySays.Pure:=by
 intro l h1 h2 h3
 refine Ev.rounds (r:=true) ?_
 unfold laws_FnSpySays.f
 by_cases h:(l.length:Int)>1048576
 ·exact Ev.yes h (Ev.some _)
 refine Ev.no h ?_
 obtain ⟨ks,i,t,hd,hkl,hi0,hi1,htl,hsm⟩:=DrawSpySays_ev h3
 refine Ev.bind hd (Ev.bind (impl_SpySays_ev ks i t (by omega)) (Ev.bind (spec_SpySays_ev ks i t (by omega) (by omega) hsm.wf) ?_))
 refine Ev.no (by simp) (Ev.bind (spec_KindsOk_ev ks (by omega)) ?_)
 by_cases hk:kok ks=true
 ·rw [hk]
  refine Ev.yes rfl (Ev.bind (spec_ClaimOk_ev (ks.length:Int) i t (by omega) hsm.wf) ?_)
  by_cases hc:clok (ks.length:Int) i t=true
  ·rw [hc]
   exact in_ hkl hk hc
  ·have e0:spySays ks i t=false:=if_neg (fun h=>hc h.2)
   rw [Bool.not_eq_true] at hc
   rw [hc,e0]
   exact out_ ks i t
 ·have e0:spySays ks i t=false:=if_neg (fun h=>hk h.1)
  rw [Bool.not_eq_true] at hk
  rw [hk,e0]
  exact Ev.no (by simp) (out_ ks i t)
end Go.Proofs.Ytpampekijfjlkab.Pure
namespace Go.Proofs.Ytpampekijfjlkab.fnSpySays
open Go.ChangeShapes Go.WideShapes Go.ChangeAt Go.RowKit
open Go.ChangeMaps (open_string shut_string)
set_option linter.unusedVariables false
theorem own:ownKnob Try.prog.godebug=none:=by kernel_rfl
theorem laidOut:laidOutB Try.prog=true:=by kernel_rfl
def IsRow (k:IntKind) (w:World) (a:Option Addr) (len cap:Nat) (zs:List Int):Prop :=
 (a=none∧len=0∧cap=0∧zs=[]) ∨
 ∃ x,a=some x∧len≤cap∧cap≤maxLen∧zs.length=cap∧(∀ i,i<zs.length→w.cell? (x.add i)=some (.int k (zs.getD i 0))) ∧ ∀ n∈zs,(Lit.int k n).wf=true
set_option maxRecDepth 100000 in
theorem lifted (os:Os) (started:os.Started) (H:Type) (enc:TypeId×Value→H) :
  ReturnsInHanded {} Try.checked os 16 .any (Rows.fnSpySaysSpec.pre6 enc Try.prog Try.f16 Rows.fnSpySaysRow.domain false) (Rows.fnSpySaysSpec.post enc Try.prog Try.f16 false true false false):=by
 refine returnsInHanded_of_change_sized (C:=Try.checked) own started (by kernel_rfl) Try.func16
  (ChangeSpec.witness6 (enc:=enc) (C:=Try.checked) false ⟨#[],#[.slice none 0 0],[]⟩ 8 (by kernel_rfl) (by kernel_rfl) (by kernel_rfl) (by kernel_rfl)) ?_
 intro W base args ds gs before hval0 hW hcnd hsz0 _
 have hsz:(DataW.weightsEach Try.prog (Try.f16.params.toList++Rows.fnSpySaysSpec.plain.varTypes Try.prog) (ds++gs)).all (· ≤ reachBytes)=true:=hsz0
 have hval : ∀ (j:Nat) t v,Try.f16.params[j]?=some t→args[j]?=some v→Value.okWide Try.prog W .any base t v:=hval0
 have hW':=hW
 obtain ⟨p,q,hA0,hV,rfl,hfz,hnd⟩:=hW
 have hA:DataW.TrodAll enc Try.prog W 0 (fun _=>true) true Try.f16.params.toList args.toList ds p:=hA0
 rw [Try.params16] at hA hval hsz
 obtain ⟨v0,vs0,d0,ds0,p0,q0,hargs,rfl,rfl,h0,r0⟩:=trodAll_cons hA
 obtain ⟨rfl,rfl,rfl⟩:=trodAll_nil r0
 obtain rfl:args = #[v0]:=by cases args;simp_all
 obtain ⟨rfl,rfl⟩:=trodVars_none hV
 obtain ⟨a0,len0,cap0,rfl⟩:=okWide_slice Try.underlying22 (hval 0 22 v0 rfl rfl)
 have k0:=h0
 have lt0 : ∀ x∈p0,x.block<W.heap.size:=by obtain ⟨m,hm⟩:=k0;exact DataW.trod_lt m _ _ _ hm
 obtain ⟨z0,w0⟩ : ∃ zs,IsRow .u8 W a0 len0 cap0 zs:=by
  obtain ⟨fuel,hf⟩:=h0
  rcases open_ints Try.underlying22 Try.underlying5 (by kernel_rfl) hf with ⟨hcs,_⟩|⟨x,l,c,zs,hcs,_,hl,hm,hz,_,hcell,hwz⟩
  ·simp [Value.cells] at hcs
   obtain ⟨rfl,rfl,rfl⟩:=hcs
   exact ⟨[],.inl ⟨rfl,rfl,rfl,rfl⟩⟩
  ·simp [Value.cells] at hcs
   obtain ⟨rfl,rfl,rfl⟩:=hcs
   exact ⟨zs,.inr ⟨_,rfl,hl,hm,by simpa using hz,hcell,hwz⟩⟩
 have y0:len0*1≤140737488351232:=Go.Proofs.YtpampekijfjlkabW.PrintWords.sized_ints hsz (j:=0) (t:=22) rfl rfl Try.underlying22 Try.underlying5 (by kernel_rfl) (by kernel_rfl) h0
 clear hA0 hval0 hsz0 hsz
 refine (X.laws_FnSpySays.walk Pure.FnSpySays a0 len0 cap0 z0 W w0 y0).mono fun e W' ⟨he,bel⟩=>?_
 subst he
 exact ⟨_,rfl,_,_,_,[],_,[],hW',trodAll_mk1 (shut_bool Try.underlying4 _),(trodAll_cons_mk (Below.trod laidOut (by kernel_rfl) (of_decide_eq_true (by kernel_rfl)) k0 bel lt0) trodAll_mk0),rfl,bel.frame _,fun h=>by cases h⟩
theorem closed_:joinedFacts Try.pinned.checked.prog 16 Try.f16 Rows.fnSpySaysSpec Rows.fnSpySaysRow=true:=by
 unfold joinedFacts
 rw [X.may_,X.fin_,X.make_]
 kernel_rfl
theorem over:Rows.fnSpySaysRow.holds Try.pinned (OpenSpec.ofChange Rows.fnSpySaysSpec) :=
 OpenClaim.holds_of_wide 16 Try.f16 rfl rfl rfl rfl rfl rfl rfl ⟨rfl,rfl,rfl,rfl,rfl⟩ rfl rfl rfl rfl rfl (by kernel_rfl) Try.func16 closed_
  (of_decide_eq_true (by kernel_rfl)) (by unfold Func.isWrapper;first|(rw [if_pos (by decide +kernel)];kernel_rfl)|(rw [if_neg (by decide +kernel)];exact ⟨rfl,rfl⟩))
  (fun os started H enc _=>lifted os started H enc)
theorem proved:Rows.FnSpySaysSaid:=over
#print axioms proved
end Go.Proofs.Ytpampekijfjlkab.fnSpySays
namespace Go.Proofs.Ytpampekijfjlkab
/-- The row, under a short name, for the claim. -/
theorem fnSpySays_holds:Rows.FnSpySaysSaid:=fnSpySays.proved
end Go.Proofs.Ytpampekijfjlkab
