/- The given statement FnMaySaySaid: the law laws.FnMaySay returns true for all arguments (either it is said, or it is denied: for every code). Conditions: none but those that the statement itself names. Joined by a program of this session's: PureFnMaySay, LawFnMaySay. -/
import Derived.Test.YtpampekijfjlkabG2034e7f473
import Derived.Test.YtpampekijfjlkabG11d55de028
import Derived.Test.YtpampekijfjlkabRows
import Derived.Test.YtpampekijfjlkabG5ff050bb90
import Derived.WalkKit
import Derived.ProofKit
import Derived.OpenShut
import Derived.ShutString
import Derived.ChangeOld
import Derived.Below
import Derived.SizedLaws
import Derived.Test.YtpampekijfjlkabVf73ae70719

/- Either it is said, or it is denied: for every code. -/
namespace Go.Proofs.Ytpampekijfjlkab.Pure
open Go.RowKit Go.Proofs.Ytpampekijfjlkab.X Go.Proofs.Ytpampekijfjlkab.L Go.Proofs.YtpampekijfjlkabW.PrintWords Go.Proofs.YtpampekijfjlkabW.PrintLast Go.Proofs.YtpampekijfjlkabW.PrintMore
theorem opp_eq {q v:Nat} (h1:1≤q) (h4:q≤4) (hv:v<2^q):impl_OppositeWorld.f (q:Int) (v:Int)=some ((2^q-1-v:Nat):Int):=by
 have hq2:(2:Nat)^q≤2^4:=Nat.pow_le_pow_right (by decide) h4
 have hw:wok (q:Int) (v:Int)=true:=wok_iff.2 ⟨by omega,by omega,by omega,by rw [Int.toNat_natCast];omega⟩
 unfold impl_OppositeWorld.f
 rw [impl_WorldOk_eq,hw]
 simp only [Option.bind_some,if_true]
 rw [if_pos (by omega),shl_nat (by omega),w64 (x:=((2^q:Nat):Int)-1) (by omega) (by omega),w64 (by omega) (by omega)]
 congr 1
 omega
theorem out_ (p:Int) (w:Int) (i:Int) (t:List M):Ev (fun k=>laws_FnMaySay.j0 k p w false true i t) true:=by
 refine Ev.step (fun k=>by simp only [laws_FnMaySay.j0];rfl) (Ev.yes trivial (Ev.no (by simp) ?_))
 rw [alive_eq']
 exact Ev.some _
theorem in_ {q v:Nat} {i:Int} {t:List M} (hc:clok (q:Int) i t=true) (hv:v<2^q):Ev (fun k=>laws_FnMaySay.j0 k (q:Int) (v:Int) (maySay (q:Int) i t (v:Int)) false i t) true:=by
 obtain ⟨hi0,hi1,hk,_⟩:=clok_iff.1 hc
 obtain ⟨h0,h1,_,h15,_⟩:=tok_iff.1 hk
 have hq2:(2:Nat)^q≤2^4:=Nat.pow_le_pow_right (by decide) (by omega)
 have wk : ∀ u:Nat,u<2^q→wok (q:Int) (u:Int)=true:=fun u hu=>wok_iff.2 ⟨by omega,by omega,by omega,by rw [Int.toNat_natCast];omega⟩
 have ems:maySay (q:Int) i t (v:Int)=may i t v:=if_pos ⟨hc,wk v hv⟩
 have hdeny:=impl_Deny_ev (q:Int) i t
 have hmir:=impl_Mirror_ev (q:Int) t
 -- the mirrored part, behind the denied one
 have mirror : ∀ (x:List M) (can:Bool),mirR (q:Int) t=(x,can)→Ev (fun k=>if can=true then ((spec_ClaimOk.f k (q:Int) i x).bind fun t622=>(if t622=true then ((impl_OppositeWorld.f (q:Int) (v:Int)).bind fun t623=>((impl_MaySay.f k (q:Int) i x t623).bind fun t624=>(if (t624 != may i t v)=true then ((laws_alive.f).bind fun t625=>(some t625)) else (some false)))) else ((laws_alive.f).bind fun t626=>(some t626)))) else ((laws_alive.f).bind fun t627=>(some t627))) true:=by
  intro x can hx
  rw [alive_eq']
  simp only [Option.bind_some]
  unfold mirR at hx
  rw [if_pos hk] at hx
  by_cases hl:15<(mirL (q:Int) t).length
  ·rw [if_pos hl] at hx
   obtain ⟨rfl,rfl⟩:=Prod.mk.inj hx
   exact Ev.no (by simp) (Ev.some _)
  ·rw [if_neg hl] at hx
   obtain ⟨rfl,rfl⟩:=Prod.mk.inj hx
   have hms:=mir_small hk
   refine Ev.yes rfl (Ev.bind (spec_ClaimOk_ev (q:Int) i (mirL (q:Int) t) (by omega) (fun m hm=>by have:=hms m hm;omega)) ?_)
   by_cases hcm:clok (q:Int) i (mirL (q:Int) t)=true
   ·refine Ev.yes hcm ?_
    rw [opp_eq (by omega) (by omega) hv]
    simp only [Option.bind_some]
    refine Ev.bind (impl_MaySay_ev (q:Int) i (mirL (q:Int) t) ((2^q-1-v:Nat):Int)) ?_
    have e2:maySay (q:Int) i (mirL (q:Int) t) ((2^q-1-v:Nat):Int) = !may i t v:=by
     rw [←may_mir hk hi0 hi1 hv]
     exact if_pos ⟨hcm,wk _ (by omega)⟩
    rw [e2]
    exact Ev.yes (by cases may i t v<;>rfl) (Ev.some _)
   ·exact Ev.no hcm (Ev.some _)
 rw [ems]
 have hM:=mirror (mirR (q:Int) t).1 (mirR (q:Int) t).2 rfl
 generalize mirR (q:Int) t=D at hmir hM
 obtain ⟨x,can⟩:=D
 refine Ev.step (fun k=>by simp only [laws_FnMaySay.j0];rfl) (Ev.no (by simp) ?_)
 by_cases hn:clok (q:Int) i (t++[⟨2,0⟩])=true
 ·have ed:denyR (q:Int) i t=(i,t++[⟨2,0⟩],true):=by rw [denyR,if_pos hc,claimR,if_pos hn]
  rw [ed] at hdeny
  have e1:maySay (q:Int) i (t++[⟨2,0⟩]) (v:Int) = !may i t v:=by
   rw [←may_not hk (show v<16 by omega)]
   exact if_pos ⟨hn,wk v hv⟩
  have hms2:=impl_MaySay_ev (q:Int) i (t++[⟨2,0⟩]) (v:Int)
  rw [e1] at hms2
  generalize t++[⟨2,0⟩]=u at hdeny hms2
  exact Ev.bind hdeny (Ev.bind hmir (Ev.yes rfl (Ev.bind hms2 (Ev.yes (by cases may i t v<;>rfl) hM))))
 ·have ed:denyR (q:Int) i t=(0,[],false):=by rw [denyR,if_pos hc,claimR,if_neg hn]
  rw [ed] at hdeny
  exact Ev.bind hdeny (Ev.bind hmir (Ev.no (by simp) hM))
theorem FnMaySay:laws_FnMaySay.Pure:=by
 intro l h1 h2 h3
 refine Ev.rounds (r:=true) ?_
 unfold laws_FnMaySay.f
 by_cases h:(l.length:Int)>1048576
 ·exact Ev.yes h (Ev.some _)
 refine Ev.no h ?_
 obtain ⟨p,i,t,w,hd,hp1,hp4,hi0,hi1,htl,hsm⟩:=DrawMaySay_ev h3
 refine Ev.bind hd (Ev.bind (impl_MaySay_ev p i t w) (Ev.bind (spec_MaySay_ev p i t w (by omega) hsm.wf) ?_))
 refine Ev.no (by simp) (Ev.bind (spec_ClaimOk_ev p i t (by omega) hsm.wf) ?_)
 by_cases hc:clok p i t=true
 ·rw [hc]
  refine Ev.yes rfl ?_
  rw [spec_WorldOk_eq]
  simp only [Option.bind_some]
  by_cases hw:wok p w=true
  ·obtain ⟨v,rfl,_,hv⟩:=wok_nat hw
   obtain ⟨q,rfl,hq1,hq4,hq2,e⟩:=people_nat hp1 hp4
   rw [hw]
   exact in_ hc (by rw [e] at hv;exact hv)
  ·have e0:maySay p i t w=false:=if_neg (fun h=>hw h.2)
   rw [Bool.not_eq_true] at hw
   rw [hw,e0]
   exact out_ p w i t
 ·have e0:maySay p i t w=false:=if_neg (fun h=>hc h.1)
  rw [Bool.not_eq_true] at hc
  rw [hc,e0]
  exact Ev.no (by simp) (out_ p w i t)
end Go.Proofs.Ytpampekijfjlkab.Pure
namespace Go.Proofs.Ytpampekijfjlkab.fnMaySay
open Go.ChangeShapes Go.WideShapes Go.ChangeAt Go.RowKit
open Go.ChangeMaps (open_string shut_string)
set_option linter.unusedVariables false
theorem own:ownKnob Try.prog.godebug=none:=by kernel_rfl
theorem laidOut:laidOutB Try.prog=true:=by kernel_rfl
def IsRow (k:IntKind) (w:World) (a:Option Addr) (len cap:Nat) (zs:List Int):Prop :=
 (a=none∧len=0∧cap=0∧zs=[]) ∨
 ∃ x,a=some x∧len≤cap∧cap≤maxLen∧zs.length=cap∧(∀ i,i<zs.length→w.cell? (x.add i)=some (.int k (zs.getD i 0))) ∧ ∀ n∈zs,(Lit.int k n).wf=true
set_option maxRecDepth 100000 in
theorem lifted (os:Os) (started:os.Started) (H:Type) (enc:TypeId×Value→H) :
  ReturnsInHanded {} Try.checked os 5 .any (Rows.fnMaySaySpec.pre6 enc Try.prog Try.f5 Rows.fnMaySayRow.domain false) (Rows.fnMaySaySpec.post enc Try.prog Try.f5 false true false false):=by
 refine returnsInHanded_of_change_sized (C:=Try.checked) own started (by kernel_rfl) Try.func5
  (ChangeSpec.witness6 (enc:=enc) (C:=Try.checked) false ⟨#[],#[.slice none 0 0],[]⟩ 8 (by kernel_rfl) (by kernel_rfl) (by kernel_rfl) (by kernel_rfl)) ?_
 intro W base args ds gs before hval0 hW hcnd hsz0 _
 have hsz:(DataW.weightsEach Try.prog (Try.f5.params.toList++Rows.fnMaySaySpec.plain.varTypes Try.prog) (ds++gs)).all (· ≤ reachBytes)=true:=hsz0
 have hval : ∀ (j:Nat) t v,Try.f5.params[j]?=some t→args[j]?=some v→Value.okWide Try.prog W .any base t v:=hval0
 have hW':=hW
 obtain ⟨p,q,hA0,hV,rfl,hfz,hnd⟩:=hW
 have hA:DataW.TrodAll enc Try.prog W 0 (fun _=>true) true Try.f5.params.toList args.toList ds p:=hA0
 rw [Try.params5] at hA hval hsz
 obtain ⟨v0,vs0,d0,ds0,p0,q0,hargs,rfl,rfl,h0,r0⟩:=trodAll_cons hA
 obtain ⟨rfl,rfl,rfl⟩:=trodAll_nil r0
 obtain rfl:args = #[v0]:=by cases args;simp_all
 obtain ⟨rfl,rfl⟩:=trodVars_none hV
 obtain ⟨a0,len0,cap0,rfl⟩:=okWide_slice Try.underlying22 (hval 0 22 v0 rfl rfl)
 have k0:=h0
 have lt0 : ∀ x∈p0,x.block<W.heap.size:=by obtain ⟨m,hm⟩:=k0;exact DataW.trod_lt m _ _ _ hm
 obtain ⟨z0,w0⟩ : ∃ zs,IsRow .u8 W a0 len0 cap0 zs:=by
  obtain ⟨fuel,hf⟩:=h0
  rcases open_ints Try.underlying22 Try.underlying5 (by kernel_rfl) hf with ⟨hcs,_⟩|⟨x,l,c,zs,hcs,_,hl,hm,hz,_,hcell,hwz⟩
  ·simp [Value.cells] at hcs
   obtain ⟨rfl,rfl,rfl⟩:=hcs
   exact ⟨[],.inl ⟨rfl,rfl,rfl,rfl⟩⟩
  ·simp [Value.cells] at hcs
   obtain ⟨rfl,rfl,rfl⟩:=hcs
   exact ⟨zs,.inr ⟨_,rfl,hl,hm,by simpa using hz,hcell,hwz⟩⟩
 have y0:len0*1≤140737488351232:=Go.Proofs.YtpampekijfjlkabW.PrintWords.sized_ints hsz (j:=0) (t:=22) rfl rfl Try.underlying22 Try.underlying5 (by kernel_rfl) (by kernel_rfl) h0
 clear hA0 hval0 hsz0 hsz
 refine (X.laws_FnMaySay.walk Pure.FnMaySay a0 len0 cap0 z0 W w0 y0).mono fun e W' ⟨he,bel⟩=>?_
 subst he
 exact ⟨_,rfl,_,_,_,[],_,[],hW',trodAll_mk1 (shut_bool Try.underlying4 _),(trodAll_cons_mk (Below.trod laidOut (by kernel_rfl) (of_decide_eq_true (by kernel_rfl)) k0 bel lt0) trodAll_mk0),rfl,bel.frame _,fun h=>by cases h⟩
theorem closed_:joinedFacts Try.pinned.checked.prog 5 Try.f5 Rows.fnMaySaySpec Rows.fnMaySayRow=true:=by
 unfold joinedFacts
 rw [X.may_,X.fin_,X.make_]
 kernel_rfl
theorem over:Rows.fnMaySayRow.holds Try.pinned (OpenSpec.ofChange Rows.fnMaySaySpec) :=
 OpenClaim.holds_of_wide 5 Try.f5 rfl rfl rfl rfl rfl rfl rfl ⟨rfl,rfl,rfl,rfl,rfl⟩ rfl rfl rfl rfl rfl (by kernel_rfl) Try.func5 closed_
  (of_decide_eq_true (by kernel_rfl)) (by unfold Func.isWrapper;first|(rw [if_pos (by decide +kernel)];kernel_rfl)|(rw [if_neg (by decide +kernel)];exact ⟨rfl,rfl⟩))
  (fun os started H enc _=>lifted os started H enc)
theorem proved:Rows.FnMaySaySaid:=over
#print axioms proved
end Go.Proofs.Ytpampekijfjlkab.fnMaySay
namespace Go.Proofs.Ytpampekijfjlkab
/-- The row, under a short name, for the claim. -/
theorem fnMaySay_holds:Rows.FnMaySaySaid:=fnMaySay.proved
end Go.Proofs.Ytpampekijfjlkab
