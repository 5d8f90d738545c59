/- The given statement FnNeedlessClaimsSaid: the law laws.FnNeedlessClaims returns true for all arguments (needless claims are those that may be left out: for every code). Conditions: none but those that the statement itself names. Joined by a program of this session's: PureFnNeedlessClaims, LawFnNeedlessClaims. -/
import Derived.Test.YtpampekijfjlkabGd6c2515575
import Derived.Test.YtpampekijfjlkabGd9d73add00
import Derived.Test.YtpampekijfjlkabRows
import Derived.Test.YtpampekijfjlkabGed8af054f1
import Derived.WalkKit
import Derived.ProofKit
import Derived.OpenShut
import Derived.ShutString
import Derived.ChangeOld
import Derived.Below
import Derived.SizedLaws
import Derived.Test.YtpampekijfjlkabV7c21ae3986

/- Needless claims are those that may be left out: for every code. -/
namespace Go.Proofs.Ytpampekijfjlkab.Pure
open Go.RowKit Go.Proofs.Ytpampekijfjlkab.X Go.Proofs.Ytpampekijfjlkab.L Go.Proofs.YtpampekijfjlkabW.PrintWords Go.Proofs.YtpampekijfjlkabW.PrintLast Go.Proofs.YtpampekijfjlkabW.PrintMore
open List renaming length_take → lT, length_drop → lD
theorem sameInts_l0 (l:List Int) (hl:l.length≤4611686018427387904) : ∀ (suf pre:List Int),l=pre++suf→Ev (fun k=>laws_sameInts.l0 k l l ((pre.length:Nat):Int)) true:=by
 intro suf
 induction suf with
 | nil =>
  intro pre he
  have hle:l.length=pre.length:=by rw [he];simp
  exact Ev.step (fun k=>by simp only [laws_sameInts.l0];rfl) (Ev.no (by omega) (Ev.some _))
 | cons m suf ih =>
  intro pre he
  have hle:l.length=pre.length+(suf.length+1):=by rw [he];simp
  refine Ev.step (fun k=>by simp only [laws_sameInts.l0];rfl) ?_
  rw [w64 (by omega) (by omega),show (((pre.length:Nat):Int)+1)=(((pre++[m]).length:Nat):Int) by simp]
  exact Ev.yes (by omega) (Ev.yes (by omega) (Ev.yes (by omega) (Ev.yes trivial (ih (pre++[m]) (by rw [he];simp)))))
theorem sameInts_ev (l:List Int) (hl:l.length≤4611686018427387904):Ev (fun k=>laws_sameInts.f k l l) true:=by
 unfold laws_sameInts.f
 exact Ev.yes rfl (sameInts_l0 l hl l [] rfl)
theorem hasInt_l {l:List Int} (hl:l.length≤1000000) (x:Int) : ∀ (suf pre:List Int),l=pre++suf→Ev (fun k=>laws_hasInt.l0 k l x ((pre.length:Nat):Int)) (decide (x∈suf)):=by
 intro suf
 induction suf with
 | nil =>
  intro pre he
  have hle:l.length=pre.length:=by rw [he];simp
  exact Ev.step (fun k=>by simp only [laws_hasInt.l0];rfl) (Ev.no (by omega) (Ev.cast (Ev.some _) (by simp)))
 | cons m suf ih =>
  intro pre he
  have hle:l.length=pre.length+(suf.length+1):=by rw [he];simp
  have hx:rd l ((pre.length:Nat):Int)=m:=by rw [he];exact rdI_at pre m suf
  refine Ev.step (fun k=>by simp only [laws_hasInt.l0];rfl) ?_
  rw [hx,w64 (by omega) (by omega),show (((pre.length:Nat):Int)+1)=(((pre++[m]).length:Nat):Int) by simp]
  refine Ev.yes (by omega) (Ev.yes (by omega) ?_)
  by_cases e:m=x
  ·exact Ev.yes e (Ev.cast (Ev.some _) (decide_eq_true (by rw [e];simp)).symm)
  ·refine Ev.no e (Ev.cast (ih (pre++[m]) (by rw [he];simp)) ?_)
   have:(x∈m :: suf) ↔ x∈suf:=by rw [List.mem_cons];exact ⟨fun h=>h.resolve_left (fun h=>e h.symm),.inr⟩
   exact decide_eq_decide.2 this.symm
theorem hasInt_ev {l:List Int} (hl:l.length≤1000000) (x:Int):Ev (fun k=>laws_hasInt.f k l x) (decide (x∈l)):=by
 unfold laws_hasInt.f
 exact hasInt_l hl x l [] rfl
theorem rd_get_ {l:List Int} {i:Nat} (h:i<l.length):rd l (i:Int)=l[i]:=by
 unfold rd
 simp [List.getD,h]
theorem ascend_l {l:List Int} (hp:l.Pairwise (· < ·)) : ∀ d i:Nat,l.length≤d+i→i+d≤2000000→1≤i→Ev (fun k=>laws_ascend.l0 k l (i:Int)) true:=by
 intro d
 induction d with
 | zero =>
  intro i h1 _ _
  exact Ev.step (fun k=>by simp only [laws_ascend.l0];rfl) (Ev.no (by omega) (Ev.some _))
 | succ d ih =>
  intro i h1 h2 h3
  refine Ev.step (fun k=>by simp only [laws_ascend.l0];rfl) ?_
  by_cases hi:i<l.length
  ·rw [w64 (x:=(i:Int)-1) (by omega) (by omega),w64 (x:=(i:Int)+1) (by omega) (by omega),show ((i:Int)+1)=((i+1:Nat):Int) by omega,show ((i:Int)-1)=((i-1:Nat):Int) by omega]
   have hlt:rd l ((i-1:Nat):Int)<rd l (i:Int):=by
    rw [rd_get_ hi,rd_get_ (show i-1<l.length by omega)]
    exact List.pairwise_iff_getElem.1 hp (i-1) i (by omega) hi (by omega)
   exact Ev.yes (by omega) (Ev.yes (by omega) (Ev.yes (by omega) (Ev.yes (by omega) (Ev.no (by omega) (ih (i+1) (by omega) (by omega) (by omega))))))
  ·exact Ev.no (by omega) (Ev.some _)
theorem ascend_ev {l:List Int} (hl:l.length≤1000000) (hp:l.Pairwise (· < ·)):Ev (fun k=>laws_ascend.f k l) true:=by
 unfold laws_ascend.f
 exact ascend_l hp l.length 1 (by omega) (by omega) (by omega)
theorem end_ {p:Int} {c:List C} (hs:sok p c=true) (b:Bool) (hb:b=false→0<c.length∧c.length<6):Ev (fun k=>laws_FnNeedlessClaims.j1 k p c (needOf p c) b) true:=by
 have h6:=(sok_iff.1 hs).2.2.2
 have e0:needOf p c=needFrom p c c.length 0 []:=if_pos hs
 have hnl:(needOf p c).length≤6:=by have:=needFrom_len p c c.length 0 [];rw [e0];simp at this;omega
 have hna:(needOf p c).Pairwise (· < ·):=by rw [e0];exact need_asc _ _ _ (by simp) (by simp)
 have has:=ascend_ev (l:=needOf p c) (by omega) hna
 refine Ev.step (fun k=>by simp only [laws_FnNeedlessClaims.j1];rfl) ?_
 cases b with
 | true =>
  refine Ev.yes rfl (Ev.bind has (Ev.yes rfl ?_))
  rw [alive_eq']
  exact Ev.some _
 | false =>
  obtain ⟨h1,h2⟩:=hb rfl
  generalize needOf p c=n at *
  cases c with
  | nil=>simp at h1
  | cons a c =>
   have hx:rd_T36 (a :: c) 0=a:=rdC_at ([]:List C) a c
   have hl1:(a :: c).length=c.length+1:=by simp
   have hs2:sok p ((a :: c)++[a])=true:=by
    obtain ⟨k1,k2,k3,_⟩:=sok_iff.1 hs
    refine sok_iff.2 ⟨fun z hz=>?_,k2,k3,by simp;omega⟩
    rcases List.mem_append.1 hz with hz|hz
    ·exact k1 z hz
    ·rw [List.mem_singleton.1 hz];exact k1 a (by simp)
   have hm:=impl_Need_ev p ((a :: c)++[a]) (by simp;omega)
   have e2:needOf p ((a :: c)++[a])=needFrom p ((a :: c)++[a]) ((a :: c)++[a]).length 0 []:=if_pos hs2
   have h2_:((a :: c)++[a]).length=c.length+2:=by simp
   have h3_:([]:List Int).length=0:=rfl
   have h1_:=needFrom_len p ((a :: c)++[a]) ((a :: c)++[a]).length 0 []
   have hml:(needOf p ((a :: c)++[a])).length≤100:=by rw [e2];omega
   have m0:(0:Int)∈needOf p ((a :: c)++[a]):=by
    rw [e2,need_mem]
    refine .inr ⟨0,by omega,by simp,rfl,stab_same (dropAt_sub _ _) (fun x hx=>?_)⟩
    unfold dropAt
    simp at hx ⊢
    rcases hx with h|h|h
    ·exact .inr h
    ·exact .inl h
    ·exact .inr h
   have m1:(((a :: c).length:Nat):Int)∈needOf p ((a :: c)++[a]):=by
    rw [e2,need_mem]
    refine .inr ⟨(a :: c).length,by omega,by simp,rfl,stab_same (dropAt_sub _ _) (fun x hx=>?_)⟩
    have hx2:x∈a :: c:=by
     rcases List.mem_append.1 hx with h|h
     ·exact h
     ·rw [List.mem_singleton.1 h];simp
    unfold dropAt
    rw [List.take_append_of_le_length (Nat.le_refl _),List.take_length]
    exact List.mem_append_left _ hx2
   have g0:=hasInt_ev (l:=needOf p ((a :: c)++[a])) (by omega) 0
   have g1:=hasInt_ev (l:=needOf p ((a :: c)++[a])) (by omega) (((a :: c).length:Nat):Int)
   rw [decide_eq_true m0] at g0
   rw [decide_eq_true m1] at g1
   simp only [Option.bind_some,List.nil_append,List.length_nil,hx]
   refine Ev.no (by simp) (Ev.yes (by omega) (Ev.yes (by omega) (Ev.yes (by simp;omega) (Ev.bind hm (Ev.bind has (Ev.yes rfl (Ev.bind g0 (Ev.yes rfl (Ev.bind g1 (Ev.some _))))))))))
theorem places_ {p:Int} {c:List C} (hs:sok p c=true) : ∀ d i:Nat,d+i=c.length→Ev (fun k=>laws_FnNeedlessClaims.l0 k p c (needOf p c) (i:Int)) true:=by
 have h6:=(sok_iff.1 hs).2.2.2
 have e0:needOf p c=needFrom p c c.length 0 []:=if_pos hs
 have hnl:(needOf p c).length≤6:=by have:=needFrom_len p c c.length 0 [];rw [e0];simp at this;omega
 intro d
 induction d with
 | zero =>
  intro i hi
  refine Ev.step (fun k=>by simp only [laws_FnNeedlessClaims.l0];rfl) (Ev.no (by omega) ?_)
  by_cases h0:(c.length:Int)=0
  ·exact Ev.yes h0 (end_ hs true (fun h=>by cases h))
  ·exact Ev.no h0 (end_ hs _ (fun h=>⟨by omega,by have:=of_decide_eq_false h;omega⟩))
 | succ d ih =>
  intro i hi
  have ht:=impl_StoryTable_ev p (dropAt c i) (by have:=dropAt_length (l:=c) (i:=i) (by omega);omega)
  rw [if_pos (sok_dropAt hs)] at ht
  have ht2:=impl_StoryTable_ev p c (by omega)
  rw [if_pos hs] at ht2
  have hh:=hasInt_ev (l:=needOf p c) (by omega) (i:Int)
  have hmem:((i:Int)∈needOf p c) ↔ stab p (dropAt c i)=stab p c:=by
   rw [e0,need_mem]
   constructor
   ·rintro (h|⟨j,_,_,h3,h4⟩)
    ·cases h
    ·have:i=j:=by omega
     rw [this];exact h4
   ·exact fun h=>.inr ⟨i,by omega,by omega,rfl,h⟩
  refine Ev.step (fun k=>by simp only [laws_FnNeedlessClaims.l0];rfl) (Ev.yes (by omega) ?_)
  rw [w64 (by omega) (by omega),show ((i:Int)+1)=((i+1:Nat):Int) by omega]
  simp only [Option.bind_some,List.nil_append,List.length_nil,Int.toNat_natCast]
  rw [show c.take i++c.drop (i+1)=dropAt c i from rfl]
  refine Ev.yes (by omega) (Ev.yes (by omega) (Ev.yes (by rw [lT];omega) (Ev.yes (by omega) (Ev.yes (by omega) (Ev.yes (by rw [lT,lD];omega) (Ev.bind ht (Ev.bind ht2 (Ev.bind hh (Ev.no ?_ (ih (i+1) (by omega)))))))))))
  by_cases e:stab p (dropAt c i)=stab p c
  ·rw [decide_eq_true (hmem.2 e),e];simp
  ·rw [decide_eq_false (fun h=>e (hmem.1 h)),show ((((stab p (dropAt c i):Nat):Int))==((stab p c:Nat):Int))=false from beq_eq_false_iff_ne.2 (by omega)]
   simp
theorem FnNeedlessClaims:laws_FnNeedlessClaims.Pure:=by
 intro l h1 h2 h3
 refine Ev.rounds (r:=true) ?_
 unfold laws_FnNeedlessClaims.f
 by_cases h:(l.length:Int)>1048576
 ·exact Ev.yes h (Ev.some _)
 refine Ev.no h ?_
 obtain ⟨p,c,hd,hp1,hp4,hcl,hsm⟩:=DrawNeedlessClaims_ev h3
 have hnl:(needOf p c).length≤1000:=by
  unfold needOf
  split
  ·have:=needFrom_len p c c.length 0 [];simp at this;omega
  ·simp
 refine Ev.bind hd (Ev.bind (impl_Need_ev p c (by omega)) (Ev.bind (spec_Need_ev p c (by omega) hsm.fitN) (Ev.bind (sameInts_ev _ (by omega)) (Ev.yes rfl (Ev.bind (spec_StoryOk_ev p c (by omega) hsm.fitN) ?_)))))
 by_cases hs:sok p c=true
 ·exact Ev.yes hs (places_ hs c.length 0 (Nat.add_zero _))
 ·refine Ev.no hs ?_
  have e0:needOf p c=[]:=if_neg hs
  rw [e0,alive_eq']
  exact Ev.yes rfl (Ev.some _)
end Go.Proofs.Ytpampekijfjlkab.Pure
namespace Go.Proofs.Ytpampekijfjlkab.fnNeedlessClaims
open Go.ChangeShapes Go.WideShapes Go.ChangeAt Go.RowKit
open Go.ChangeMaps (open_string shut_string)
set_option linter.unusedVariables false
theorem own:ownKnob Try.prog.godebug=none:=by kernel_rfl
theorem laidOut:laidOutB Try.prog=true:=by kernel_rfl
def IsRow (k:IntKind) (w:World) (a:Option Addr) (len cap:Nat) (zs:List Int):Prop :=
 (a=none∧len=0∧cap=0∧zs=[]) ∨
 ∃ x,a=some x∧len≤cap∧cap≤maxLen∧zs.length=cap∧(∀ i,i<zs.length→w.cell? (x.add i)=some (.int k (zs.getD i 0))) ∧ ∀ n∈zs,(Lit.int k n).wf=true
set_option maxRecDepth 100000 in
theorem lifted (os:Os) (started:os.Started) (H:Type) (enc:TypeId×Value→H) :
  ReturnsInHanded {} Try.checked os 18 .any (Rows.fnNeedlessClaimsSpec.pre6 enc Try.prog Try.f18 Rows.fnNeedlessClaimsRow.domain false) (Rows.fnNeedlessClaimsSpec.post enc Try.prog Try.f18 false true false false):=by
 refine returnsInHanded_of_change_sized (C:=Try.checked) own started (by kernel_rfl) Try.func18
  (ChangeSpec.witness6 (enc:=enc) (C:=Try.checked) false ⟨#[],#[.slice none 0 0],[]⟩ 8 (by kernel_rfl) (by kernel_rfl) (by kernel_rfl) (by kernel_rfl)) ?_
 intro W base args ds gs before hval0 hW hcnd hsz0 _
 have hsz:(DataW.weightsEach Try.prog (Try.f18.params.toList++Rows.fnNeedlessClaimsSpec.plain.varTypes Try.prog) (ds++gs)).all (· ≤ reachBytes)=true:=hsz0
 have hval : ∀ (j:Nat) t v,Try.f18.params[j]?=some t→args[j]?=some v→Value.okWide Try.prog W .any base t v:=hval0
 have hW':=hW
 obtain ⟨p,q,hA0,hV,rfl,hfz,hnd⟩:=hW
 have hA:DataW.TrodAll enc Try.prog W 0 (fun _=>true) true Try.f18.params.toList args.toList ds p:=hA0
 rw [Try.params18] at hA hval hsz
 obtain ⟨v0,vs0,d0,ds0,p0,q0,hargs,rfl,rfl,h0,r0⟩:=trodAll_cons hA
 obtain ⟨rfl,rfl,rfl⟩:=trodAll_nil r0
 obtain rfl:args = #[v0]:=by cases args;simp_all
 obtain ⟨rfl,rfl⟩:=trodVars_none hV
 obtain ⟨a0,len0,cap0,rfl⟩:=okWide_slice Try.underlying22 (hval 0 22 v0 rfl rfl)
 have k0:=h0
 have lt0 : ∀ x∈p0,x.block<W.heap.size:=by obtain ⟨m,hm⟩:=k0;exact DataW.trod_lt m _ _ _ hm
 obtain ⟨z0,w0⟩ : ∃ zs,IsRow .u8 W a0 len0 cap0 zs:=by
  obtain ⟨fuel,hf⟩:=h0
  rcases open_ints Try.underlying22 Try.underlying5 (by kernel_rfl) hf with ⟨hcs,_⟩|⟨x,l,c,zs,hcs,_,hl,hm,hz,_,hcell,hwz⟩
  ·simp [Value.cells] at hcs
   obtain ⟨rfl,rfl,rfl⟩:=hcs
   exact ⟨[],.inl ⟨rfl,rfl,rfl,rfl⟩⟩
  ·simp [Value.cells] at hcs
   obtain ⟨rfl,rfl,rfl⟩:=hcs
   exact ⟨zs,.inr ⟨_,rfl,hl,hm,by simpa using hz,hcell,hwz⟩⟩
 have y0:len0*1≤140737488351232:=Go.Proofs.YtpampekijfjlkabW.PrintWords.sized_ints hsz (j:=0) (t:=22) rfl rfl Try.underlying22 Try.underlying5 (by kernel_rfl) (by kernel_rfl) h0
 clear hA0 hval0 hsz0 hsz
 refine (X.laws_FnNeedlessClaims.walk Pure.FnNeedlessClaims a0 len0 cap0 z0 W w0 y0).mono fun e W' ⟨he,bel⟩=>?_
 subst he
 exact ⟨_,rfl,_,_,_,[],_,[],hW',trodAll_mk1 (shut_bool Try.underlying4 _),(trodAll_cons_mk (Below.trod laidOut (by kernel_rfl) (of_decide_eq_true (by kernel_rfl)) k0 bel lt0) trodAll_mk0),rfl,bel.frame _,fun h=>by cases h⟩
theorem closed_:joinedFacts Try.pinned.checked.prog 18 Try.f18 Rows.fnNeedlessClaimsSpec Rows.fnNeedlessClaimsRow=true:=by
 unfold joinedFacts
 rw [X.may_,X.fin_,X.make_]
 kernel_rfl
theorem over:Rows.fnNeedlessClaimsRow.holds Try.pinned (OpenSpec.ofChange Rows.fnNeedlessClaimsSpec) :=
 OpenClaim.holds_of_wide 18 Try.f18 rfl rfl rfl rfl rfl rfl rfl ⟨rfl,rfl,rfl,rfl,rfl⟩ rfl rfl rfl rfl rfl (by kernel_rfl) Try.func18 closed_
  (of_decide_eq_true (by kernel_rfl)) (by unfold Func.isWrapper;first|(rw [if_pos (by decide +kernel)];kernel_rfl)|(rw [if_neg (by decide +kernel)];exact ⟨rfl,rfl⟩))
  (fun os started H enc _=>lifted os started H enc)
theorem proved:Rows.FnNeedlessClaimsSaid:=over
#print axioms proved
end Go.Proofs.Ytpampekijfjlkab.fnNeedlessClaims
namespace Go.Proofs.Ytpampekijfjlkab
/-- The row, under a short name, for the claim. -/
theorem fnNeedlessClaims_holds:Rows.FnNeedlessClaimsSaid:=fnNeedlessClaims.proved
end Go.Proofs.Ytpampekijfjlkab
