/- The given statement FnDenyClaimSaid: the law laws.FnDenyClaim returns true for all arguments (denied twice it is the same: for every code). Conditions: none but those that the statement itself names. Joined by a program of this session's: PureFnDenyClaim, LawFnDenyClaim. -/
import Derived.Test.YtpampekijfjlkaaG9138d3a7a9
import Derived.Test.YtpampekijfjlkaaG76417f5541
import Derived.Test.YtpampekijfjlkaaRows
import Derived.Test.YtpampekijfjlkaaG540b471955
import Derived.WalkKit
import Derived.ProofKit
import Derived.OpenShut
import Derived.ShutString
import Derived.ChangeOld
import Derived.Below
import Derived.SizedLaws
import Derived.Test.YtpampekijfjlkaaV49a62e1513

/- Denied twice it is the same: for every code. -/
namespace Go.Proofs.Ytpampekijfjlkaa.Pure
open Go.RowKit Go.Proofs.Ytpampekijfjlkaa.X Go.Proofs.Ytpampekijfjlkaa.L Go.Proofs.YtpampekijfjlkaaW.PrintWords Go.Proofs.YtpampekijfjlkaaW.PrintLast Go.Proofs.YtpampekijfjlkaaW.PrintMore
theorem FnDenyClaim:laws_FnDenyClaim.Pure:=by
 intro l h1 h2 h3
 refine Ev.rounds (r:=true) ?_
 unfold laws_FnDenyClaim.f
 by_cases h:(l.length:Int)>1048576
 ·exact Ev.yes h (Ev.some _)
 refine Ev.no h ?_
 obtain ⟨p,i,t,hd,hp1,hp4,hi0,hi1,htl,hsm⟩:=DrawDenyClaim_ev h3
 have hsame : ∀ (j:Int) (u:List M),u.length≤4611686018427387904→Ev (fun k=>laws_sameClaim.f k j u j u) true:=fun j u hu=>by
  unfold laws_sameClaim.f
  exact Ev.yes rfl (Ev.bind (sameMarks_ev u hu) (Ev.some _))
 have hdl:(denyR p i t).2.1.length≤4611686018427387904:=by
  unfold denyR
  split
  ·have:=claimR_length (p:=p) (i:=i) (t:=t++[⟨2,0⟩])
   omega
  ·simp
 refine Ev.bind hd (Ev.bind (impl_Deny_ev p i t) (Ev.bind (spec_Deny_ev p i t (by omega) hsm.wf) (Ev.bind (hsame _ _ hdl) ?_)))
 refine Ev.yes rfl ?_
 rw [bne_self_eq_false]
 refine Ev.step (fun k=>by simp only [laws_FnDenyClaim.j0];rfl) (Ev.no (by simp) ?_)
 by_cases hc:clok p i t=true∧clok p i (t++[⟨2,0⟩])=true
 ·obtain ⟨hc,hn⟩:=hc
  have ed:denyR p i t=(i,t++[⟨2,0⟩],true):=by rw [denyR,if_pos hc,claimR,if_pos hn]
  rw [ed]
  dsimp only
  have hd2:=impl_Deny_ev p i (t++[⟨2,0⟩])
  have hc2:=impl_ClaimOk_ev p i (t++[⟨2,0⟩])
  rw [hn] at hc2
  have hlen:((t++[(⟨2,0⟩:M)]).length:Int)=wrap64 ((t.length:Int)+1):=by rw [w64 (by omega) (by omega)];simp
  by_cases hnn:clok p i (t++[⟨2,0⟩]++[⟨2,0⟩])=true
  ·have ed2:denyR p i (t++[⟨2,0⟩])=(i,t++[⟨2,0⟩]++[⟨2,0⟩],true):=by rw [denyR,if_pos hn,claimR,if_pos hnn]
   rw [ed2] at hd2
   have c1:=impl_ClaimTable_ev p i (t++[⟨2,0⟩]++[⟨2,0⟩])
   rw [if_pos hnn] at c1
   have c2:=impl_ClaimTable_ev p i t
   rw [if_pos hc] at c2
   obtain ⟨q,rfl,hq1,hq4,hq2,e⟩:=people_nat hp1 hp4
   have hk:=(clok_iff.1 hc).2.2.1
   have hkn:=(clok_iff.1 hn).2.2.1
   have key:ctab (q:Int) i (t++[⟨2,0⟩]++[⟨2,0⟩])=ctab (q:Int) i t:=by
    unfold ctab
    rw [e]
    exact tabL_congr (fun w hw=>by rw [may_not hkn (by omega),may_not hk (by omega),Bool.not_not])
   rw [key] at c1
   generalize ((ctab (q:Int) i t:Nat):Int)=Z at c1 c2
   generalize t++[⟨2,0⟩]++[⟨2,0⟩]=u2 at hd2 c1
   generalize t++[⟨2,0⟩]=u1 at hd2 hc2 hlen ⊢
   exact Ev.yes rfl (Ev.bind hd2 (Ev.bind hc2 (Ev.yes rfl (Ev.yes rfl (Ev.yes hlen (Ev.yes rfl (Ev.bind c1 (Ev.bind c2 (Ev.cast (Ev.some _) (beq_self_eq_true Z))))))))))
  ·have ed2:denyR p i (t++[⟨2,0⟩])=(0,[],false):=by rw [denyR,if_pos hn,claimR,if_neg hnn]
   rw [ed2] at hd2
   generalize t++[⟨2,0⟩]=u1 at hd2 hc2 hlen ⊢
   exact Ev.yes rfl (Ev.bind hd2 (Ev.bind hc2 (Ev.yes rfl (Ev.yes rfl (Ev.yes hlen (Ev.no (by simp) (Ev.some _)))))))
 ·have ed:denyR p i t=(0,[],false):=by
   unfold denyR
   by_cases h1:clok p i t=true
   ·rw [if_pos h1,claimR,if_neg (fun h2=>hc ⟨h1,h2⟩)]
   ·rw [if_neg h1]
  rw [ed,alive_eq]
  exact Ev.no (by simp) (Ev.yes rfl (Ev.yes rfl (Ev.some _)))
end Go.Proofs.Ytpampekijfjlkaa.Pure
namespace Go.Proofs.Ytpampekijfjlkaa.fnDenyClaim
open Go.ChangeShapes Go.WideShapes Go.ChangeAt Go.RowKit
open Go.ChangeMaps (open_string shut_string)
set_option linter.unusedVariables false
theorem own:ownKnob Try.prog.godebug=none:=by kernel_rfl
theorem laidOut:laidOutB Try.prog=true:=by kernel_rfl
def IsRow (k:IntKind) (w:World) (a:Option Addr) (len cap:Nat) (zs:List Int):Prop :=
 (a=none∧len=0∧cap=0∧zs=[]) ∨
 ∃ x,a=some x∧len≤cap∧cap≤maxLen∧zs.length=cap∧(∀ i,i<zs.length→w.cell? (x.add i)=some (.int k (zs.getD i 0))) ∧ ∀ n∈zs,(Lit.int k n).wf=true
set_option maxRecDepth 100000 in
theorem lifted (os:Os) (started:os.Started) (H:Type) (enc:TypeId×Value→H) :
  ReturnsInHanded {} Try.checked os 17 .any (Rows.fnDenyClaimSpec.pre6 enc Try.prog Try.f17 Rows.fnDenyClaimRow.domain false) (Rows.fnDenyClaimSpec.post enc Try.prog Try.f17 false true false false):=by
 refine returnsInHanded_of_change_sized (C:=Try.checked) own started (by kernel_rfl) Try.func17
  (ChangeSpec.witness6 (enc:=enc) (C:=Try.checked) false ⟨#[],#[.slice none 0 0],[]⟩ 8 (by kernel_rfl) (by kernel_rfl) (by kernel_rfl) (by kernel_rfl)) ?_
 intro W base args ds gs before hval0 hW hcnd hsz0 _
 have hsz:(DataW.weightsEach Try.prog (Try.f17.params.toList++Rows.fnDenyClaimSpec.plain.varTypes Try.prog) (ds++gs)).all (· ≤ reachBytes)=true:=hsz0
 have hval : ∀ (j:Nat) t v,Try.f17.params[j]?=some t→args[j]?=some v→Value.okWide Try.prog W .any base t v:=hval0
 have hW':=hW
 obtain ⟨p,q,hA0,hV,rfl,hfz,hnd⟩:=hW
 have hA:DataW.TrodAll enc Try.prog W 0 (fun _=>true) true Try.f17.params.toList args.toList ds p:=hA0
 rw [Try.params17] at hA hval hsz
 obtain ⟨v0,vs0,d0,ds0,p0,q0,hargs,rfl,rfl,h0,r0⟩:=trodAll_cons hA
 obtain ⟨rfl,rfl,rfl⟩:=trodAll_nil r0
 obtain rfl:args = #[v0]:=by cases args;simp_all
 obtain ⟨rfl,rfl⟩:=trodVars_none hV
 obtain ⟨a0,len0,cap0,rfl⟩:=okWide_slice Try.underlying38 (hval 0 38 v0 rfl rfl)
 have k0:=h0
 have lt0 : ∀ x∈p0,x.block<W.heap.size:=by obtain ⟨m,hm⟩:=k0;exact DataW.trod_lt m _ _ _ hm
 obtain ⟨z0,w0⟩ : ∃ zs,IsRow .u8 W a0 len0 cap0 zs:=by
  obtain ⟨fuel,hf⟩:=h0
  rcases open_ints Try.underlying38 Try.underlying5 (by kernel_rfl) hf with ⟨hcs,_⟩|⟨x,l,c,zs,hcs,_,hl,hm,hz,_,hcell,hwz⟩
  ·simp [Value.cells] at hcs
   obtain ⟨rfl,rfl,rfl⟩:=hcs
   exact ⟨[],.inl ⟨rfl,rfl,rfl,rfl⟩⟩
  ·simp [Value.cells] at hcs
   obtain ⟨rfl,rfl,rfl⟩:=hcs
   exact ⟨zs,.inr ⟨_,rfl,hl,hm,by simpa using hz,hcell,hwz⟩⟩
 have y0:len0*1≤140737488351232:=Go.Proofs.YtpampekijfjlkaaW.PrintWords.sized_ints hsz (j:=0) (t:=38) rfl rfl Try.underlying38 Try.underlying5 (by kernel_rfl) (by kernel_rfl) h0
 clear hA0 hval0 hsz0 hsz
 refine (X.laws_FnDenyClaim.walk Pure.FnDenyClaim a0 len0 cap0 z0 W w0 y0).mono fun e W' ⟨he,bel⟩=>?_
 subst he
 exact ⟨_,rfl,_,_,_,[],_,[],hW',trodAll_mk1 (shut_bool Try.underlying4 _),(trodAll_cons_mk (Below.trod laidOut (by kernel_rfl) (of_decide_eq_true (by kernel_rfl)) k0 bel lt0) trodAll_mk0),rfl,bel.frame _,fun h=>by cases h⟩
theorem closed_:joinedFacts Try.pinned.checked.prog 17 Try.f17 Rows.fnDenyClaimSpec Rows.fnDenyClaimRow=true:=by
 unfold joinedFacts
 rw [X.may_,X.fin_,X.make_]
 kernel_rfl
theorem over:Rows.fnDenyClaimRow.holds Try.pinned (OpenSpec.ofChange Rows.fnDenyClaimSpec) :=
 OpenClaim.holds_of_wide 17 Try.f17 rfl rfl rfl rfl rfl rfl rfl ⟨rfl,rfl,rfl,rfl,rfl⟩ rfl rfl rfl rfl rfl (by kernel_rfl) Try.func17 closed_
  (of_decide_eq_true (by kernel_rfl)) (by unfold Func.isWrapper;first|(rw [if_pos (by decide +kernel)];kernel_rfl)|(rw [if_neg (by decide +kernel)];exact ⟨rfl,rfl⟩))
  (fun os started H enc _=>lifted os started H enc)
theorem proved:Rows.FnDenyClaimSaid:=over
#print axioms proved
end Go.Proofs.Ytpampekijfjlkaa.fnDenyClaim
namespace Go.Proofs.Ytpampekijfjlkaa
/-- The row, under a short name, for the claim. -/
theorem fnDenyClaim_holds:Rows.FnDenyClaimSaid:=fnDenyClaim.proved
end Go.Proofs.Ytpampekijfjlkaa
