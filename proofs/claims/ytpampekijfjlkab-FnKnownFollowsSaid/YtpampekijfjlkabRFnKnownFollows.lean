/- The given statement FnKnownFollowsSaid: the law laws.FnKnownFollows returns true for all arguments (what is known has been told: for every code). Conditions: none but those that the statement itself names. Joined by a program of this session's: PureFnKnownFollows, LawFnKnownFollows. -/
import Derived.Test.YtpampekijfjlkabG3f18b4aa42
import Derived.Test.YtpampekijfjlkabGc2593faa92
import Derived.Test.YtpampekijfjlkabRows
import Derived.Test.YtpampekijfjlkabG47e08af4a9
import Derived.WalkKit
import Derived.ProofKit
import Derived.OpenShut
import Derived.ShutString
import Derived.ChangeOld
import Derived.Below
import Derived.SizedLaws
import Derived.Test.YtpampekijfjlkabVf73ae70719

/- What is known has been told: for every code. -/
namespace Go.Proofs.Ytpampekijfjlkab.Pure
open Go.RowKit Go.Proofs.Ytpampekijfjlkab.X Go.Proofs.Ytpampekijfjlkab.L Go.Proofs.YtpampekijfjlkabW.PrintWords Go.Proofs.YtpampekijfjlkabW.PrintLast Go.Proofs.YtpampekijfjlkabW.PrintMore
theorem known_sub {W W':List Int} {j:Nat} (hs : ∀ y∈W',y∈W) (hn:W'≠[]) (h:knownOf W j≥0):knownOf W' j=knownOf W j:=by
 obtain ⟨y,hy⟩ : ∃ y,y∈W':=List.exists_mem_of_ne_nil W' hn
 unfold knownOf at h ⊢
 by_cases hA : ∀ x∈W,x.toNat.testBit j=true
 ·rw [if_pos hA,if_pos (fun x hx=>hA x (hs x hx))]
 rw [if_neg hA] at h ⊢
 by_cases hB : ∀ x∈W,x.toNat.testBit j=false
 ·have h2 : ¬ ∀ x∈W',x.toNat.testBit j=true:=fun h3=>by
   have e1:=h3 y hy
   have e2:=hB y (hs y hy)
   rw [e1] at e2
   cases e2
  rw [if_pos hB,if_neg h2,if_pos (fun x hx=>hB x (hs x hx))]
 ·rw [if_neg hB] at h
  omega
theorem fin_ (q:Int) (row more:List Int) (i:Int) (h:more.length=0∨(row.length:Int)=q):Ev (fun k=>laws_FnKnownFollows.j4 k q row more i false) true:=by
 refine Ev.step (fun k=>by simp only [laws_FnKnownFollows.j4];rfl) (Ev.no (by simp) ?_)
 rw [alive_eq']
 simp only [Option.bind_some]
 refine Ev.yes trivial ?_
 by_cases h0:(more.length:Int)=0
 ·exact Ev.yes h0 (Ev.some _)
 ·refine Ev.no h0 (Ev.cast (Ev.some _) ?_)
  rcases h with h|h
  ·omega
  ·rw [h];exact beq_self_eq_true q
theorem more_ {q:Int} {row more:List Int} (hl:more.length≤1000) (h:more.length=0∨(row.length:Int)=q) (hm : ∀ j:Nat,j<more.length→j<row.length→rd row (j:Int)≥0→rd more (j:Int)=rd row (j:Int)) : ∀ d i:Nat,d+i=more.length →
  Ev (fun k=>laws_FnKnownFollows.l1 k q row more (i:Int)) true:=by
 intro d
 induction d with
 | zero =>
  intro i hi
  exact Ev.step (fun k=>by simp only [laws_FnKnownFollows.l1];rfl) (Ev.no (by omega) (fin_ q row more _ h))
 | succ d ih =>
  intro i hi
  refine Ev.step (fun k=>by simp only [laws_FnKnownFollows.l1];rfl) (Ev.yes (by omega) ?_)
  by_cases hr:(i:Int)<(row.length:Int)
  ·rw [decide_eq_true hr]
   have hn:=ih (i+1) (by omega)
   refine Ev.step (fun k=>by simp only [laws_FnKnownFollows.j4];rfl) (Ev.yes trivial (Ev.yes (by omega) (Ev.yes hr ?_)))
   rw [w64 (by omega) (by omega),show ((i:Int)+1)=((i+1:Nat):Int) by omega]
   by_cases h0:rd row (i:Int)≥0
   ·exact Ev.yes h0 (Ev.yes (by omega) (Ev.yes (hm i (by omega) (by omega) h0) hn))
   ·exact Ev.no h0 hn
  ·rw [decide_eq_false hr]
   exact fin_ q row more _ h
theorem rest_ {q:Nat} {c:List C} (hq1:1≤q) (hq4:q≤4) (hcl:c.length≤7) (hsm:SmC c) (n:Int) (ok:Bool) (i:Int):Ev (fun k=>laws_FnKnownFollows.j1 k (q:Int) c (knownP (q:Int) c) n ok i false) true:=by
 refine Ev.step (fun k=>by simp only [laws_FnKnownFollows.j1];rfl) (Ev.no (by simp) (Ev.bind (spec_StoryOk_ev (q:Int) c (by omega) hsm.fit') ?_))
 have out:Ev (fun k=>laws_FnKnownFollows.j2 k (q:Int) c (knownP (q:Int) c) true) true:=by
  refine Ev.step (fun k=>by simp only [laws_FnKnownFollows.j2];rfl) (Ev.yes trivial ?_)
  rw [alive_eq']
  exact Ev.some _
 by_cases hs:sok (q:Int) c=true
 ·rw [hs]
  refine Ev.yes rfl ?_
  by_cases h6:(c.length:Int)≥6
  ·rw [decide_eq_true h6];exact out
  rw [decide_eq_false h6]
  refine Ev.step (fun k=>by simp only [laws_FnKnownFollows.j2];rfl) (Ev.no (by simp) ?_)
  simp only [Option.bind_some,List.nil_append,List.length_nil]
  refine Ev.yes (by omega) (Ev.yes (by omega) (Ev.bind (impl_Known_ev (q:Int) _ (by simp;omega)) ?_))
  generalize hc':c++[(⟨0,[(⟨1,0⟩:M)]⟩:C)]=c'
  have hsub : ∀ x∈c,x∈c':=fun x hx=>by rw [←hc'];exact List.mem_append_left _ hx
  by_cases hn:worldsIn (q:Int) (storyV (q:Int) c')=[]
  ·have hl0:(knownP (q:Int) c').length=0:=by rw [known_len,if_pos hn]
   exact more_ (by omega) (.inl hl0) (fun j h1=>by omega) _ 0 (Nat.add_zero _)
  ·have hl0:(knownP (q:Int) c').length=q:=by rw [known_len,if_neg hn,Int.toNat_natCast]
   obtain ⟨y,hy⟩:=List.exists_mem_of_ne_nil _ hn
   have hs':=story_in hy
   have hmem : ∀ y∈worldsIn (q:Int) (storyV (q:Int) c'),y∈worldsIn (q:Int) (storyV (q:Int) c):=by
    intro y hy
    obtain ⟨v,h1,h2,h3⟩:=(story_mem hs' y).1 hy
    exact (story_mem hs y).2 ⟨v,h1,h2,allMay_sub hsub h3⟩
   have hn0:worldsIn (q:Int) (storyV (q:Int) c)≠[]:=fun h=>by
    have:=hmem y hy
    rw [h] at this
    cases this
   have hl1:(knownP (q:Int) c).length=q:=by rw [known_len,if_neg hn0,Int.toNat_natCast]
   refine more_ (by omega) (.inr (by omega)) (fun j h1 h2 h3=>?_) _ 0 (Nat.add_zero _)
   rw [known_get hn0 (by omega)] at h3 ⊢
   rw [known_get hn (by omega)]
   exact known_sub hmem hn h3
 ·rw [Bool.not_eq_true] at hs
  rw [hs]
  exact Ev.no (by simp) out
theorem l0_ {q:Nat} {c:List C} {row:List Int} {n:Int} {ok:Bool} (hl:row.length≤1000) (hr : ∀ i:Int,Ev (fun k=>laws_FnKnownFollows.j1 k (q:Int) c row n ok i false) true) (ho:ok=true → ∀ i:Nat,i<row.length→Int.tmod (shr .i64 n (i:Int)) 2=rd row (i:Int)) : ∀ d i:Nat,d+i=row.length →
  Ev (fun k=>laws_FnKnownFollows.l0 k (q:Int) c row n ok (i:Int)) true:=by
 intro d
 induction d with
 | zero =>
  intro i hi
  exact Ev.step (fun k=>by simp only [laws_FnKnownFollows.l0];rfl) (Ev.no (by omega) (hr _))
 | succ d ih =>
  intro i hi
  refine Ev.step (fun k=>by simp only [laws_FnKnownFollows.l0];rfl) (Ev.yes (by omega) ?_)
  cases ok with
  | false=>exact hr _
  | true =>
   refine Ev.step (fun k=>by simp only [laws_FnKnownFollows.j1];rfl) (Ev.yes trivial (Ev.yes (by omega) (Ev.yes (by omega) (Ev.yes (ho rfl i (by omega)) ?_))))
   rw [w64 (by omega) (by omega),show ((i:Int)+1)=((i+1:Nat):Int) by omega]
   exact ih (i+1) (by omega)
theorem FnKnownFollows:laws_FnKnownFollows.Pure:=by
 intro l h1 h2 h3
 refine Ev.rounds (r:=true) ?_
 unfold laws_FnKnownFollows.f
 by_cases h:(l.length:Int)>1048576
 ·exact Ev.yes h (Ev.some _)
 refine Ev.no h ?_
 obtain ⟨p,c,hd,hp1,hp4,hcl,hsm⟩:=DrawKnownPeople_ev h3
 obtain ⟨q,rfl,hq1,hq4,hq2,e⟩:=people_nat hp1 hp4
 refine Ev.bind hd (Ev.bind (impl_Known_ev (q:Int) c (by omega)) (Ev.bind (impl_OnlyWorld_ev (q:Int) c (by omega)) ?_))
 have hkl:(knownP (q:Int) c).length≤1000:=by rw [known_len];split<;>omega
 refine l0_ hkl (fun i=>rest_ hq1 hq4 hcl hsm _ _ i) (fun ho i hi=>?_) _ 0 (Nat.add_zero _)
 have hov:onlyW (q:Int) c=onlyOf (worldsIn (q:Int) (storyV (q:Int) c)):=rfl
 rw [hov] at ho ⊢
 have hn0:worldsIn (q:Int) (storyV (q:Int) c)≠[]:=fun h=>by
  rw [known_len,if_pos h] at hi
  omega
 rw [known_len,if_neg hn0,e] at hi
 rw [known_get hn0 (by omega)]
 have hwl:=worldsIn_wl (q:Int) (storyV (q:Int) c)
 generalize worldsIn (q:Int) (storyV (q:Int) c)=W at *
 unfold onlyOf at ho ⊢
 by_cases hl1:W.length=1
 ·rw [if_pos hl1]
  obtain ⟨n,rfl⟩ : ∃ n,W=[n]:=List.length_eq_one_iff.1 hl1
  obtain ⟨v,rfl,hv⟩:=hwl n (by simp)
  rw [known_one,Int.toNat_natCast]
  exact bit_int hv (by omega)
 ·rw [if_neg hl1] at ho
  cases ho
end Go.Proofs.Ytpampekijfjlkab.Pure
namespace Go.Proofs.Ytpampekijfjlkab.fnKnownFollows
open Go.ChangeShapes Go.WideShapes Go.ChangeAt Go.RowKit
open Go.ChangeMaps (open_string shut_string)
set_option linter.unusedVariables false
theorem own:ownKnob Try.prog.godebug=none:=by kernel_rfl
theorem laidOut:laidOutB Try.prog=true:=by kernel_rfl
def IsRow (k:IntKind) (w:World) (a:Option Addr) (len cap:Nat) (zs:List Int):Prop :=
 (a=none∧len=0∧cap=0∧zs=[]) ∨
 ∃ x,a=some x∧len≤cap∧cap≤maxLen∧zs.length=cap∧(∀ i,i<zs.length→w.cell? (x.add i)=some (.int k (zs.getD i 0))) ∧ ∀ n∈zs,(Lit.int k n).wf=true
set_option maxRecDepth 100000 in
theorem lifted (os:Os) (started:os.Started) (H:Type) (enc:TypeId×Value→H) :
  ReturnsInHanded {} Try.checked os 3 .any (Rows.fnKnownFollowsSpec.pre6 enc Try.prog Try.f3 Rows.fnKnownFollowsRow.domain false) (Rows.fnKnownFollowsSpec.post enc Try.prog Try.f3 false true false false):=by
 refine returnsInHanded_of_change_sized (C:=Try.checked) own started (by kernel_rfl) Try.func3
  (ChangeSpec.witness6 (enc:=enc) (C:=Try.checked) false ⟨#[],#[.slice none 0 0],[]⟩ 8 (by kernel_rfl) (by kernel_rfl) (by kernel_rfl) (by kernel_rfl)) ?_
 intro W base args ds gs before hval0 hW hcnd hsz0 _
 have hsz:(DataW.weightsEach Try.prog (Try.f3.params.toList++Rows.fnKnownFollowsSpec.plain.varTypes Try.prog) (ds++gs)).all (· ≤ reachBytes)=true:=hsz0
 have hval : ∀ (j:Nat) t v,Try.f3.params[j]?=some t→args[j]?=some v→Value.okWide Try.prog W .any base t v:=hval0
 have hW':=hW
 obtain ⟨p,q,hA0,hV,rfl,hfz,hnd⟩:=hW
 have hA:DataW.TrodAll enc Try.prog W 0 (fun _=>true) true Try.f3.params.toList args.toList ds p:=hA0
 rw [Try.params3] at hA hval hsz
 obtain ⟨v0,vs0,d0,ds0,p0,q0,hargs,rfl,rfl,h0,r0⟩:=trodAll_cons hA
 obtain ⟨rfl,rfl,rfl⟩:=trodAll_nil r0
 obtain rfl:args = #[v0]:=by cases args;simp_all
 obtain ⟨rfl,rfl⟩:=trodVars_none hV
 obtain ⟨a0,len0,cap0,rfl⟩:=okWide_slice Try.underlying22 (hval 0 22 v0 rfl rfl)
 have k0:=h0
 have lt0 : ∀ x∈p0,x.block<W.heap.size:=by obtain ⟨m,hm⟩:=k0;exact DataW.trod_lt m _ _ _ hm
 obtain ⟨z0,w0⟩ : ∃ zs,IsRow .u8 W a0 len0 cap0 zs:=by
  obtain ⟨fuel,hf⟩:=h0
  rcases open_ints Try.underlying22 Try.underlying5 (by kernel_rfl) hf with ⟨hcs,_⟩|⟨x,l,c,zs,hcs,_,hl,hm,hz,_,hcell,hwz⟩
  ·simp [Value.cells] at hcs
   obtain ⟨rfl,rfl,rfl⟩:=hcs
   exact ⟨[],.inl ⟨rfl,rfl,rfl,rfl⟩⟩
  ·simp [Value.cells] at hcs
   obtain ⟨rfl,rfl,rfl⟩:=hcs
   exact ⟨zs,.inr ⟨_,rfl,hl,hm,by simpa using hz,hcell,hwz⟩⟩
 have y0:len0*1≤140737488351232:=Go.Proofs.YtpampekijfjlkabW.PrintWords.sized_ints hsz (j:=0) (t:=22) rfl rfl Try.underlying22 Try.underlying5 (by kernel_rfl) (by kernel_rfl) h0
 clear hA0 hval0 hsz0 hsz
 refine (X.laws_FnKnownFollows.walk Pure.FnKnownFollows a0 len0 cap0 z0 W w0 y0).mono fun e W' ⟨he,bel⟩=>?_
 subst he
 exact ⟨_,rfl,_,_,_,[],_,[],hW',trodAll_mk1 (shut_bool Try.underlying4 _),(trodAll_cons_mk (Below.trod laidOut (by kernel_rfl) (of_decide_eq_true (by kernel_rfl)) k0 bel lt0) trodAll_mk0),rfl,bel.frame _,fun h=>by cases h⟩
theorem closed_:joinedFacts Try.pinned.checked.prog 3 Try.f3 Rows.fnKnownFollowsSpec Rows.fnKnownFollowsRow=true:=by
 unfold joinedFacts
 rw [X.may_,X.fin_,X.make_]
 kernel_rfl
theorem over:Rows.fnKnownFollowsRow.holds Try.pinned (OpenSpec.ofChange Rows.fnKnownFollowsSpec) :=
 OpenClaim.holds_of_wide 3 Try.f3 rfl rfl rfl rfl rfl rfl rfl ⟨rfl,rfl,rfl,rfl,rfl⟩ rfl rfl rfl rfl rfl (by kernel_rfl) Try.func3 closed_
  (of_decide_eq_true (by kernel_rfl)) (by unfold Func.isWrapper;first|(rw [if_pos (by decide +kernel)];kernel_rfl)|(rw [if_neg (by decide +kernel)];exact ⟨rfl,rfl⟩))
  (fun os started H enc _=>lifted os started H enc)
theorem proved:Rows.FnKnownFollowsSaid:=over
#print axioms proved
end Go.Proofs.Ytpampekijfjlkab.fnKnownFollows
namespace Go.Proofs.Ytpampekijfjlkab
/-- The row, under a short name, for the claim. -/
theorem fnKnownFollows_holds:Rows.FnKnownFollowsSaid:=fnKnownFollows.proved
end Go.Proofs.Ytpampekijfjlkab
