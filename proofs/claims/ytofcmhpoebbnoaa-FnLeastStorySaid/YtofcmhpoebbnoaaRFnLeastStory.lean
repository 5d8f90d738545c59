/- The given statement FnLeastStorySaid: the law laws.FnLeastStory returns true for all arguments (least stories tell the same, and need all: for every code). Conditions: none but those that the statement itself names. Joined by a program of this session's: PureFnLeastStory, LawFnLeastStory. -/
import Derived.Test.YtofcmhpoebbnoaaG33492881f4
import Derived.Test.YtofcmhpoebbnoaaRows
import Derived.Test.YtofcmhpoebbnoaaGf54336cf5f
import Derived.WalkKit
import Derived.ProofKit
import Derived.OpenShut
import Derived.ShutString
import Derived.ChangeOld
import Derived.Below
import Derived.SizedLaws
import Derived.Test.YtofcmhpoebbnoaaV5473a6d108

/- Least stories tell the same, and need all: for every code. -/
namespace Go.Proofs.Ytofcmhpoebbnoaa.Pure
open Go.RowKit Go.Proofs.Ytofcmhpoebbnoaa.X Go.Proofs.Ytofcmhpoebbnoaa.L Go.Proofs.YtofcmhpoebbnoaaW.PrintWords Go.Proofs.YtofcmhpoebbnoaaW.PrintLast Go.Proofs.YtofcmhpoebbnoaaW.PrintMore
theorem FnLeastStory:laws_FnLeastStory.Pure:=by
 intro l h1 h2 h3
 refine Ev.rounds (r:=true) ?_
 unfold laws_FnLeastStory.f
 by_cases h:(l.length:Int)>1048576
 ·exact Ev.yes h (Ev.some _)
 refine Ev.no h ?_
 obtain ⟨p,c,hd,hp1,hp4,hcl,hsm⟩:=DrawLeastStory_ev h3
 have hi:=impl_Least_ev p c (by omega)
 have hsp:=spec_Least_ev p c (by omega) hsm.fitL
 refine Ev.bind hd ?_
 dsimp only
 by_cases hs:sok p c=true
 ·have e0:leastR p c=(lstOf p c,true):=if_pos hs
  rw [e0] at hi hsp
  have hx:=least_sok hs
  have hst:=least_stab p c.length 0 c
  change stab p (lstOf p c)=stab p c at hst
  have h6:=(sok_iff.1 hx).2.2.2
  have hlm : ∀ z∈lstOf p c,z.f1.length≤4611686018427387904:=fun z hz=>by have:=(clok_iff.1 ((sok_iff.1 hx).1 z hz)).2.2.2;omega
  have hi2:=impl_Least_ev p (lstOf p c) (by omega)
  rw [show leastR p (lstOf p c)=(lstOf p c,true) by rw [leastR,if_pos hx,least_again]] at hi2
  have ht1:=impl_StoryTable_ev p (lstOf p c) (by omega)
  rw [if_pos hx,hst] at ht1
  have ht2:=impl_StoryTable_ev p c (by omega)
  rw [if_pos hs] at ht2
  have hn:=impl_Need_ev p (lstOf p c) (by omega)
  rw [show needOf p (lstOf p c)=[] by rw [needOf,if_pos hx];exact needFrom_none p _ least_none _ 0 [] (Nat.add_zero _)] at hn
  have hss:=sameStory_ev (l:=lstOf p c) (by omega) hlm
  generalize lstOf p c=x at *
  generalize stab p c=Z at *
  refine Ev.bind hi (Ev.bind hsp (Ev.bind hss (Ev.yes rfl ?_)))
  refine Ev.step (fun k=>by simp only [laws_FnLeastStory.j0];rfl) (Ev.no (by simp) (Ev.yes trivial ?_))
  refine Ev.bind hi2 (Ev.bind ht1 (Ev.bind ht2 (Ev.yes rfl (Ev.bind hn ?_))))
  refine Ev.yes rfl ?_
  refine Ev.yes rfl ?_
  refine Ev.bind hss ?_
  refine Ev.yes rfl ?_
  refine Ev.bind ht1 (Ev.cast (Ev.some _) (decide_eq_true (by omega)))
 ·have e0:leastR p c=([],false):=if_neg hs
  rw [e0] at hi hsp
  have hss:=sameStory_ev (l:=[]) (by simp) (fun c hc=>by cases hc)
  have hok:=impl_StoryOk_ev p c (by omega)
  refine Ev.bind hi (Ev.bind hsp (Ev.bind hss (Ev.yes rfl ?_)))
  refine Ev.step (fun k=>by simp only [laws_FnLeastStory.j0];rfl) ?_
  refine Ev.no (by simp) (Ev.no (by simp) (Ev.yes rfl (Ev.bind hok (Ev.no hs ?_))))
  rw [alive_eq]
  exact Ev.some _
end Go.Proofs.Ytofcmhpoebbnoaa.Pure
namespace Go.Proofs.Ytofcmhpoebbnoaa.fnLeastStory
open Go.ChangeShapes Go.WideShapes Go.ChangeAt Go.RowKit
open Go.ChangeMaps (open_string shut_string)
set_option linter.unusedVariables false
theorem own:ownKnob Try.prog.godebug=none:=by kernel_rfl
theorem laidOut:laidOutB Try.prog=true:=by kernel_rfl
def IsRow (k:IntKind) (w:World) (a:Option Addr) (len cap:Nat) (zs:List Int):Prop :=
 (a=none∧len=0∧cap=0∧zs=[]) ∨
 ∃ x,a=some x∧len≤cap∧cap≤maxLen∧zs.length=cap∧(∀ i,i<zs.length→w.cell? (x.add i)=some (.int k (zs.getD i 0))) ∧ ∀ n∈zs,(Lit.int k n).wf=true
set_option maxRecDepth 100000 in
theorem lifted (os:Os) (started:os.Started) (H:Type) (enc:TypeId×Value→H) :
  ReturnsInHanded {} Try.checked os 9 .any (Rows.fnLeastStorySpec.pre6 enc Try.prog Try.f9 Rows.fnLeastStoryRow.domain false) (Rows.fnLeastStorySpec.post enc Try.prog Try.f9 false true false false):=by
 refine returnsInHanded_of_change_sized (C:=Try.checked) own started (by kernel_rfl) Try.func9
  (ChangeSpec.witness6 (enc:=enc) (C:=Try.checked) false ⟨#[],#[.slice none 0 0],[]⟩ 8 (by kernel_rfl) (by kernel_rfl) (by kernel_rfl) (by kernel_rfl)) ?_
 intro W base args ds gs before hval0 hW hcnd hsz0 _
 have hsz:(DataW.weightsEach Try.prog (Try.f9.params.toList++Rows.fnLeastStorySpec.plain.varTypes Try.prog) (ds++gs)).all (· ≤ reachBytes)=true:=hsz0
 have hval : ∀ (j:Nat) t v,Try.f9.params[j]?=some t→args[j]?=some v→Value.okWide Try.prog W .any base t v:=hval0
 have hW':=hW
 obtain ⟨p,q,hA0,hV,rfl,hfz,hnd⟩:=hW
 have hA:DataW.TrodAll enc Try.prog W 0 (fun _=>true) true Try.f9.params.toList args.toList ds p:=hA0
 rw [Try.params9] at hA hval hsz
 obtain ⟨v0,vs0,d0,ds0,p0,q0,hargs,rfl,rfl,h0,r0⟩:=trodAll_cons hA
 obtain ⟨rfl,rfl,rfl⟩:=trodAll_nil r0
 obtain rfl:args = #[v0]:=by cases args;simp_all
 obtain ⟨rfl,rfl⟩:=trodVars_none hV
 obtain ⟨a0,len0,cap0,rfl⟩:=okWide_slice Try.underlying26 (hval 0 26 v0 rfl rfl)
 have k0:=h0
 have lt0 : ∀ x∈p0,x.block<W.heap.size:=by obtain ⟨m,hm⟩:=k0;exact DataW.trod_lt m _ _ _ hm
 obtain ⟨z0,w0⟩ : ∃ zs,IsRow .u8 W a0 len0 cap0 zs:=by
  obtain ⟨fuel,hf⟩:=h0
  rcases open_ints Try.underlying26 Try.underlying5 (by kernel_rfl) hf with ⟨hcs,_⟩|⟨x,l,c,zs,hcs,_,hl,hm,hz,_,hcell,hwz⟩
  ·simp [Value.cells] at hcs
   obtain ⟨rfl,rfl,rfl⟩:=hcs
   exact ⟨[],.inl ⟨rfl,rfl,rfl,rfl⟩⟩
  ·simp [Value.cells] at hcs
   obtain ⟨rfl,rfl,rfl⟩:=hcs
   exact ⟨zs,.inr ⟨_,rfl,hl,hm,by simpa using hz,hcell,hwz⟩⟩
 have y0:len0*1≤140737488351232:=Go.Proofs.YtofcmhpoebbnoaaW.PrintWords.sized_ints hsz (j:=0) (t:=26) rfl rfl Try.underlying26 Try.underlying5 (by kernel_rfl) (by kernel_rfl) h0
 clear hA0 hval0 hsz0 hsz
 refine (X.laws_FnLeastStory.walk Pure.FnLeastStory a0 len0 cap0 z0 W w0 y0).mono fun e W' ⟨he,bel⟩=>?_
 subst he
 exact ⟨_,rfl,_,_,_,[],_,[],hW',trodAll_mk1 (shut_bool Try.underlying4 _),(trodAll_cons_mk (Below.trod laidOut (by kernel_rfl) (of_decide_eq_true (by kernel_rfl)) k0 bel lt0) trodAll_mk0),rfl,bel.frame _,fun h=>by cases h⟩
theorem closed_:joinedFacts Try.pinned.checked.prog 9 Try.f9 Rows.fnLeastStorySpec Rows.fnLeastStoryRow=true:=by
 unfold joinedFacts
 rw [X.may_,X.fin_,X.make_]
 kernel_rfl
theorem over:Rows.fnLeastStoryRow.holds Try.pinned (OpenSpec.ofChange Rows.fnLeastStorySpec) :=
 OpenClaim.holds_of_wide 9 Try.f9 rfl rfl rfl rfl rfl rfl rfl ⟨rfl,rfl,rfl,rfl,rfl⟩ rfl rfl rfl rfl rfl (by kernel_rfl) Try.func9 closed_
  (of_decide_eq_true (by kernel_rfl)) (by unfold Func.isWrapper;first|(rw [if_pos (by decide +kernel)];kernel_rfl)|(rw [if_neg (by decide +kernel)];exact ⟨rfl,rfl⟩))
  (fun os started H enc _=>lifted os started H enc)
theorem proved:Rows.FnLeastStorySaid:=over
#print axioms proved
end Go.Proofs.Ytofcmhpoebbnoaa.fnLeastStory
namespace Go.Proofs.Ytofcmhpoebbnoaa
/-- The row, under a short name, for the claim. -/
theorem fnLeastStory_holds:Rows.FnLeastStorySaid:=fnLeastStory.proved
end Go.Proofs.Ytofcmhpoebbnoaa
