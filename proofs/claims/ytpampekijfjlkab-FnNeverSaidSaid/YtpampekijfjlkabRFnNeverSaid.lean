/- The given statement FnNeverSaidSaid: the law laws.FnNeverSaid returns true for all arguments (what may never be said is what a liar's claim of himself says: for every code). Conditions: none but those that the statement itself names. Joined by a program of this session's: PureFnNeverSaid, LawFnNeverSaid. -/
import Derived.Test.YtpampekijfjlkabG2135d25f18
import Derived.Test.YtpampekijfjlkabG62456dfc06
import Derived.Test.YtpampekijfjlkabRows
import Derived.Test.YtpampekijfjlkabG6e1e7e47cc
import Derived.WalkKit
import Derived.ProofKit
import Derived.OpenShut
import Derived.ShutString
import Derived.ChangeOld
import Derived.Below
import Derived.SizedLaws
import Derived.Test.YtpampekijfjlkabVf2f6a427a7

/- What may never be said is what a liar's claim of himself says: for every code. -/
namespace Go.Proofs.Ytpampekijfjlkab.Pure
open Go.RowKit Go.Proofs.Ytpampekijfjlkab.X Go.Proofs.Ytpampekijfjlkab.L Go.Proofs.YtpampekijfjlkabW.PrintWords Go.Proofs.YtpampekijfjlkabW.PrintLast Go.Proofs.YtpampekijfjlkabW.PrintMore
theorem tabL_same {P Q:Nat→Bool} {n:Nat}:tabL P n=tabL Q n ↔ ∀ w,w<n→P w=Q w:=⟨tabL_inj,tabL_congr⟩
theorem never_iff {q i:Nat} {t:List M} (h:clok (q:Int) (i:Int) t=true):never (q:Int) (i:Int) t=true ↔ ∀ w,w<2^q→hv t w = !w.testBit i:=by
 rw [never,if_pos h,ctab,Int.toNat_natCast,beq_iff_eq]
 have:(((tabL (may (i:Int) t) (2^q):Nat):Int)=0) ↔ tabL (may (i:Int) t) (2^q)=0:=by omega
 rw [this,tabL_zero]
 unfold may
 rw [Int.toNat_natCast]
 refine forall_congr' fun w=>forall_congr' fun _=>?_
 cases hv t w<;>cases w.testBit i<;>simp
theorem FnNeverSaid:laws_FnNeverSaid.Pure:=by
 intro l h1 h2 h3
 refine Ev.rounds (r:=true) ?_
 unfold laws_FnNeverSaid.f
 by_cases h:(l.length:Int)>1048576
 ·exact Ev.yes h (Ev.some _)
 refine Ev.no h ?_
 obtain ⟨p,i,t,hd,hp1,hp4,htl,hw⟩:=DrawNeverSaid_ev h3
 refine Ev.bind hd ?_
 dsimp only
 refine Ev.bind (impl_Never_ev p i t) (Ev.bind (spec_Never_ev p i t (by omega) hw) (Ev.no (by simp) (Ev.bind (spec_ClaimOk_ev p i t (by omega) hw) ?_)))
 by_cases hc:clok p i t=true
 ·obtain ⟨hi0,hi1,hk,_⟩:=clok_iff.1 hc
  obtain ⟨q,rfl,hq1,hq4,hq2,e⟩:=people_nat hp1 hp4
  obtain ⟨i,rfl⟩:=Int.eq_ofNat_of_zero_le hi0
  have hc2:=kind_self false hc
  have hm:=impl_KindClaim_ev (q:Int) (i:Int) (i:Int) false
  rw [claimR,if_pos hc2] at hm
  have ha:never (q:Int) (i:Int) (kindT (i:Int) false)=true:=by
   rw [never_iff hc2]
   intro w hw'
   rw [kind_hv (by omega) false (by omega)]
   cases w.testBit i<;>rfl
  have hn:=impl_Never_ev (q:Int) (i:Int) (kindT (i:Int) false)
  rw [ha] at hn
  refine Ev.yes hc (Ev.bind hm (Ev.yes rfl (Ev.bind hn (Ev.yes rfl (Ev.bind (impl_SameOk_ev (q:Int) t (kindT (i:Int) false)) (Ev.cast (Ev.some _) ?_))))))
  rw [sameT,if_pos ⟨hk,(clok_iff.1 hc2).2.2.1⟩]
  have hiff:ttab (q:Int) t=ttab (q:Int) (kindT (i:Int) false) ↔ never (q:Int) (i:Int) t=true:=by
   rw [never_iff hc,ttab,ttab,Int.toNat_natCast,tabL_same]
   refine forall_congr' fun w=>forall_congr' fun hw'=>?_
   rw [kind_hv (by omega) false (by omega)]
   cases w.testBit i<;>simp
  cases hb:never (q:Int) (i:Int) t with
  | true=>rw [decide_eq_true (hiff.2 hb)];rfl
  | false=>rw [decide_eq_false (fun h=>by rw [hiff.1 h] at hb;cases hb)];rfl
 have e0:never p i t=false:=if_neg hc
 rw [e0,alive_eq']
 exact Ev.no hc (Ev.no (by simp) (Ev.some _))
end Go.Proofs.Ytpampekijfjlkab.Pure
namespace Go.Proofs.Ytpampekijfjlkab.fnNeverSaid
open Go.ChangeShapes Go.WideShapes Go.ChangeAt Go.RowKit
open Go.ChangeMaps (open_string shut_string)
set_option linter.unusedVariables false
theorem own:ownKnob Try.prog.godebug=none:=by kernel_rfl
theorem laidOut:laidOutB Try.prog=true:=by kernel_rfl
def IsRow (k:IntKind) (w:World) (a:Option Addr) (len cap:Nat) (zs:List Int):Prop :=
 (a=none∧len=0∧cap=0∧zs=[]) ∨
 ∃ x,a=some x∧len≤cap∧cap≤maxLen∧zs.length=cap∧(∀ i,i<zs.length→w.cell? (x.add i)=some (.int k (zs.getD i 0))) ∧ ∀ n∈zs,(Lit.int k n).wf=true
set_option maxRecDepth 100000 in
theorem lifted (os:Os) (started:os.Started) (H:Type) (enc:TypeId×Value→H) :
  ReturnsInHanded {} Try.checked os 15 .any (Rows.fnNeverSaidSpec.pre6 enc Try.prog Try.f15 Rows.fnNeverSaidRow.domain false) (Rows.fnNeverSaidSpec.post enc Try.prog Try.f15 false true false false):=by
 refine returnsInHanded_of_change_sized (C:=Try.checked) own started (by kernel_rfl) Try.func15
  (ChangeSpec.witness6 (enc:=enc) (C:=Try.checked) false ⟨#[],#[.slice none 0 0],[]⟩ 8 (by kernel_rfl) (by kernel_rfl) (by kernel_rfl) (by kernel_rfl)) ?_
 intro W base args ds gs before hval0 hW hcnd hsz0 _
 have hsz:(DataW.weightsEach Try.prog (Try.f15.params.toList++Rows.fnNeverSaidSpec.plain.varTypes Try.prog) (ds++gs)).all (· ≤ reachBytes)=true:=hsz0
 have hval : ∀ (j:Nat) t v,Try.f15.params[j]?=some t→args[j]?=some v→Value.okWide Try.prog W .any base t v:=hval0
 have hW':=hW
 obtain ⟨p,q,hA0,hV,rfl,hfz,hnd⟩:=hW
 have hA:DataW.TrodAll enc Try.prog W 0 (fun _=>true) true Try.f15.params.toList args.toList ds p:=hA0
 rw [Try.params15] at hA hval hsz
 obtain ⟨v0,vs0,d0,ds0,p0,q0,hargs,rfl,rfl,h0,r0⟩:=trodAll_cons hA
 obtain ⟨rfl,rfl,rfl⟩:=trodAll_nil r0
 obtain rfl:args = #[v0]:=by cases args;simp_all
 obtain ⟨rfl,rfl⟩:=trodVars_none hV
 obtain ⟨a0,len0,cap0,rfl⟩:=okWide_slice Try.underlying22 (hval 0 22 v0 rfl rfl)
 have k0:=h0
 have lt0 : ∀ x∈p0,x.block<W.heap.size:=by obtain ⟨m,hm⟩:=k0;exact DataW.trod_lt m _ _ _ hm
 obtain ⟨z0,w0⟩ : ∃ zs,IsRow .u8 W a0 len0 cap0 zs:=by
  obtain ⟨fuel,hf⟩:=h0
  rcases open_ints Try.underlying22 Try.underlying5 (by kernel_rfl) hf with ⟨hcs,_⟩|⟨x,l,c,zs,hcs,_,hl,hm,hz,_,hcell,hwz⟩
  ·simp [Value.cells] at hcs
   obtain ⟨rfl,rfl,rfl⟩:=hcs
   exact ⟨[],.inl ⟨rfl,rfl,rfl,rfl⟩⟩
  simp [Value.cells] at hcs
  obtain ⟨rfl,rfl,rfl⟩:=hcs
  exact ⟨zs,.inr ⟨_,rfl,hl,hm,by simpa using hz,hcell,hwz⟩⟩
 have y0:len0*1≤140737488351232:=Go.Proofs.YtpampekijfjlkabW.PrintWords.sized_ints hsz (j:=0) (t:=22) rfl rfl Try.underlying22 Try.underlying5 (by kernel_rfl) (by kernel_rfl) h0
 clear hA0 hval0 hsz0 hsz
 refine (X.laws_FnNeverSaid.walk Pure.FnNeverSaid a0 len0 cap0 z0 W w0 y0).mono fun e W' ⟨he,bel⟩=>?_
 subst he
 exact ⟨_,rfl,_,_,_,[],_,[],hW',trodAll_mk1 (shut_bool Try.underlying4 _),(trodAll_cons_mk (Below.trod laidOut (by kernel_rfl) (of_decide_eq_true (by kernel_rfl)) k0 bel lt0) trodAll_mk0),rfl,bel.frame _,fun h=>by cases h⟩
theorem closed_:joinedFacts Try.pinned.checked.prog 15 Try.f15 Rows.fnNeverSaidSpec Rows.fnNeverSaidRow=true:=by
 unfold joinedFacts
 rw [X.may_,X.fin_,X.make_]
 kernel_rfl
theorem over:Rows.fnNeverSaidRow.holds Try.pinned (OpenSpec.ofChange Rows.fnNeverSaidSpec) :=
 OpenClaim.holds_of_wide 15 Try.f15 rfl rfl rfl rfl rfl rfl rfl ⟨rfl,rfl,rfl,rfl,rfl⟩ rfl rfl rfl rfl rfl (by kernel_rfl) Try.func15 closed_
  (of_decide_eq_true (by kernel_rfl)) (by unfold Func.isWrapper;first|(rw [if_pos (by decide +kernel)];kernel_rfl)|(rw [if_neg (by decide +kernel)];exact ⟨rfl,rfl⟩))
  (fun os started H enc _=>lifted os started H enc)
theorem proved:Rows.FnNeverSaidSaid:=over
#print axioms proved
end Go.Proofs.Ytpampekijfjlkab.fnNeverSaid
namespace Go.Proofs.Ytpampekijfjlkab
/-- The row, under a short name, for the claim. -/
theorem fnNeverSaid_holds:Rows.FnNeverSaidSaid:=fnNeverSaid.proved
end Go.Proofs.Ytpampekijfjlkab
