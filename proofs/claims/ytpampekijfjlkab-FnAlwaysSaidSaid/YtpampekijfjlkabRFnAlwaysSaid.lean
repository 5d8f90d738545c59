/- The given statement FnAlwaysSaidSaid: the law laws.FnAlwaysSaid returns true for all arguments (what may always be said is what a truth-teller's claim of himself says: for every code). Conditions: none but those that the statement itself names. Joined by a program of this session's: PureFnAlwaysSaid, LawFnAlwaysSaid. -/
import Derived.Test.YtpampekijfjlkabG70a5df74bd
import Derived.Test.YtpampekijfjlkabRows
import Derived.Test.YtpampekijfjlkabG37845066d4
import Derived.WalkKit
import Derived.ProofKit
import Derived.OpenShut
import Derived.ShutString
import Derived.ChangeOld
import Derived.Below
import Derived.SizedLaws
import Derived.Test.YtpampekijfjlkabVf2f6a427a7

/- What may always be said is what a truth-teller's claim of himself says: for every code. -/
namespace Go.Proofs.Ytpampekijfjlkab.Pure
open Go.RowKit Go.Proofs.Ytpampekijfjlkab.X Go.Proofs.Ytpampekijfjlkab.L Go.Proofs.YtpampekijfjlkabW.PrintWords Go.Proofs.YtpampekijfjlkabW.PrintLast Go.Proofs.YtpampekijfjlkabW.PrintMore
theorem tabL_same {P Q:Nat→Bool} {n:Nat}:tabL P n=tabL Q n ↔ ∀ w,w<n→P w=Q w:=⟨tabL_inj,tabL_congr⟩
theorem always_iff {q i:Nat} {t:List M} (hq1:1≤q) (hq4:q≤4) (h:clok (q:Int) (i:Int) t=true):always (q:Int) (i:Int) t=true ↔ ∀ w,w<2^q→hv t w=w.testBit i:=by
 rw [always,if_pos h,full_eq hq1 hq4,ctab,Int.toNat_natCast,beq_iff_eq]
 have:(((tabL (may (i:Int) t) (2^q):Nat):Int)=((fullT q:Nat):Int)) ↔ tabL (may (i:Int) t) (2^q)=2^(2^q)-1:=by rw [fullT];omega
 rw [this,tabL_full]
 unfold may
 rw [Int.toNat_natCast]
 simp only [beq_iff_eq]
theorem FnAlwaysSaid:laws_FnAlwaysSaid.Pure:=by
 intro l h1 h2 h3
 refine Ev.rounds (r:=true) ?_
 unfold laws_FnAlwaysSaid.f
 by_cases h:(l.length:Int)>1048576
 ·exact Ev.yes h (Ev.some _)
 refine Ev.no h ?_
 obtain ⟨p,i,t,hd,hp1,hp4,htl,hw⟩:=DrawAlwaysSaid_ev h3
 refine Ev.bind hd ?_
 dsimp only
 refine Ev.bind (impl_Always_ev p i t) (Ev.bind (spec_Always_ev p i t (by omega) hw) (Ev.no (by simp) (Ev.bind (spec_ClaimOk_ev p i t (by omega) hw) ?_)))
 by_cases hc:clok p i t=true
 ·obtain ⟨hi0,hi1,hk,_⟩:=clok_iff.1 hc
  obtain ⟨q,rfl,hq1,hq4,hq2,e⟩:=people_nat hp1 hp4
  obtain ⟨i,rfl⟩:=Int.eq_ofNat_of_zero_le hi0
  have hc2:=kind_self true hc
  have hm:=impl_KindClaim_ev (q:Int) (i:Int) (i:Int) true
  rw [claimR,if_pos hc2] at hm
  have ha:always (q:Int) (i:Int) (kindT (i:Int) true)=true:=by
   rw [always_iff hq1 hq4 hc2]
   intro w hw'
   rw [kind_hv (by omega) true (by omega)]
   cases w.testBit i<;>rfl
  have hn:=impl_Always_ev (q:Int) (i:Int) (kindT (i:Int) true)
  rw [ha] at hn
  refine Ev.yes hc (Ev.bind hm (Ev.yes rfl (Ev.bind hn (Ev.yes rfl (Ev.bind (impl_SameOk_ev (q:Int) t (kindT (i:Int) true)) (Ev.cast (Ev.some _) ?_))))))
  rw [sameT,if_pos ⟨hk,(clok_iff.1 hc2).2.2.1⟩]
  have hiff:ttab (q:Int) t=ttab (q:Int) (kindT (i:Int) true) ↔ always (q:Int) (i:Int) t=true:=by
   rw [always_iff hq1 hq4 hc,ttab,ttab,Int.toNat_natCast,tabL_same]
   refine forall_congr' fun w=>forall_congr' fun hw'=>?_
   rw [kind_hv (by omega) true (by omega)]
   cases w.testBit i<;>simp
  cases hb:always (q:Int) (i:Int) t with
  | true=>rw [decide_eq_true (hiff.2 hb)];rfl
  | false=>rw [decide_eq_false (fun h=>by rw [hiff.1 h] at hb;cases hb)];rfl
 have e0:always p i t=false:=if_neg hc
 rw [e0,alive_eq']
 exact Ev.no hc (Ev.no (by simp) (Ev.some _))
end Go.Proofs.Ytpampekijfjlkab.Pure
namespace Go.Proofs.Ytpampekijfjlkab.fnAlwaysSaid
open Go.ChangeShapes Go.WideShapes Go.ChangeAt Go.RowKit
open Go.ChangeMaps (open_string shut_string)
set_option linter.unusedVariables false
theorem own:ownKnob Try.prog.godebug=none:=by kernel_rfl
theorem laidOut:laidOutB Try.prog=true:=by kernel_rfl
def IsRow (k:IntKind) (w:World) (a:Option Addr) (len cap:Nat) (zs:List Int):Prop :=
 (a=none∧len=0∧cap=0∧zs=[]) ∨
 ∃ x,a=some x∧len≤cap∧cap≤maxLen∧zs.length=cap∧(∀ i,i<zs.length→w.cell? (x.add i)=some (.int k (zs.getD i 0))) ∧ ∀ n∈zs,(Lit.int k n).wf=true
set_option maxRecDepth 100000 in
theorem lifted (os:Os) (started:os.Started) (H:Type) (enc:TypeId×Value→H) :
  ReturnsInHanded {} Try.checked os 14 .any (Rows.fnAlwaysSaidSpec.pre6 enc Try.prog Try.f14 Rows.fnAlwaysSaidRow.domain false) (Rows.fnAlwaysSaidSpec.post enc Try.prog Try.f14 false true false false):=by
 refine returnsInHanded_of_change_sized (C:=Try.checked) own started (by kernel_rfl) Try.func14
  (ChangeSpec.witness6 (enc:=enc) (C:=Try.checked) false ⟨#[],#[.slice none 0 0],[]⟩ 8 (by kernel_rfl) (by kernel_rfl) (by kernel_rfl) (by kernel_rfl)) ?_
 intro W base args ds gs before hval0 hW hcnd hsz0 _
 have hsz:(DataW.weightsEach Try.prog (Try.f14.params.toList++Rows.fnAlwaysSaidSpec.plain.varTypes Try.prog) (ds++gs)).all (· ≤ reachBytes)=true:=hsz0
 have hval : ∀ (j:Nat) t v,Try.f14.params[j]?=some t→args[j]?=some v→Value.okWide Try.prog W .any base t v:=hval0
 have hW':=hW
 obtain ⟨p,q,hA0,hV,rfl,hfz,hnd⟩:=hW
 have hA:DataW.TrodAll enc Try.prog W 0 (fun _=>true) true Try.f14.params.toList args.toList ds p:=hA0
 rw [Try.params14] at hA hval hsz
 obtain ⟨v0,vs0,d0,ds0,p0,q0,hargs,rfl,rfl,h0,r0⟩:=trodAll_cons hA
 obtain ⟨rfl,rfl,rfl⟩:=trodAll_nil r0
 obtain rfl:args = #[v0]:=by cases args;simp_all
 obtain ⟨rfl,rfl⟩:=trodVars_none hV
 obtain ⟨a0,len0,cap0,rfl⟩:=okWide_slice Try.underlying22 (hval 0 22 v0 rfl rfl)
 have k0:=h0
 have lt0 : ∀ x∈p0,x.block<W.heap.size:=by obtain ⟨m,hm⟩:=k0;exact DataW.trod_lt m _ _ _ hm
 obtain ⟨z0,w0⟩ : ∃ zs,IsRow .u8 W a0 len0 cap0 zs:=by
  obtain ⟨fuel,hf⟩:=h0
  rcases open_ints Try.underlying22 Try.underlying5 (by kernel_rfl) hf with ⟨hcs,_⟩|⟨x,l,c,zs,hcs,_,hl,hm,hz,_,hcell,hwz⟩
  ·simp [Value.cells] at hcs
   obtain ⟨rfl,rfl,rfl⟩:=hcs
   exact ⟨[],.inl ⟨rfl,rfl,rfl,rfl⟩⟩
  simp [Value.cells] at hcs
  obtain ⟨rfl,rfl,rfl⟩:=hcs
  exact ⟨zs,.inr ⟨_,rfl,hl,hm,by simpa using hz,hcell,hwz⟩⟩
 have y0:len0*1≤140737488351232:=Go.Proofs.YtpampekijfjlkabW.PrintWords.sized_ints hsz (j:=0) (t:=22) rfl rfl Try.underlying22 Try.underlying5 (by kernel_rfl) (by kernel_rfl) h0
 clear hA0 hval0 hsz0 hsz
 refine (X.laws_FnAlwaysSaid.walk Pure.FnAlwaysSaid a0 len0 cap0 z0 W w0 y0).mono fun e W' ⟨he,bel⟩=>?_
 subst he
 exact ⟨_,rfl,_,_,_,[],_,[],hW',trodAll_mk1 (shut_bool Try.underlying4 _),(trodAll_cons_mk (Below.trod laidOut (by kernel_rfl) (of_decide_eq_true (by kernel_rfl)) k0 bel lt0) trodAll_mk0),rfl,bel.frame _,fun h=>by cases h⟩
theorem closed_:joinedFacts Try.pinned.checked.prog 14 Try.f14 Rows.fnAlwaysSaidSpec Rows.fnAlwaysSaidRow=true:=by
 unfold joinedFacts
 rw [X.may_,X.fin_,X.make_]
 kernel_rfl
theorem over:Rows.fnAlwaysSaidRow.holds Try.pinned (OpenSpec.ofChange Rows.fnAlwaysSaidSpec) :=
 OpenClaim.holds_of_wide 14 Try.f14 rfl rfl rfl rfl rfl rfl rfl ⟨rfl,rfl,rfl,rfl,rfl⟩ rfl rfl rfl rfl rfl (by kernel_rfl) Try.func14 closed_
  (of_decide_eq_true (by kernel_rfl)) (by unfold Func.isWrapper;first|(rw [if_pos (by decide +kernel)];kernel_rfl)|(rw [if_neg (by decide +kernel)];exact ⟨rfl,rfl⟩))
  (fun os started H enc _=>lifted os started H enc)
theorem proved:Rows.FnAlwaysSaidSaid:=over
#print axioms proved
end Go.Proofs.Ytpampekijfjlkab.fnAlwaysSaid
namespace Go.Proofs.Ytpampekijfjlkab
/-- The row, under a short name, for the claim. -/
theorem fnAlwaysSaid_holds:Rows.FnAlwaysSaidSaid:=fnAlwaysSaid.proved
end Go.Proofs.Ytpampekijfjlkab
