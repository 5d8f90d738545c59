/- Joined by a program of this session's: LDC, LDCC, LO, LOB, LH, LTB, LTY, LCB, X58, LTR, LHW, LDEN, LDED, LSA. -/
import Derived.Test.YtpampekijfjlkaaG727f3d7e37
import Derived.Test.YtpampekijfjlkaaG540b471955
import Derived.Test.YtpampekijfjlkaaGee73a0b65a
import Derived.Test.YtpampekijfjlkaaG066d820f08
import Derived.Test.YtpampekijfjlkaaGbc7d05305f
import Derived.Laws.BitsLemmas
import Derived.Test.YtpampekijfjlkaaGaa62ad0194
import Derived.Test.YtpampekijfjlkaaGb453cec127
import Derived.Test.YtpampekijfjlkaaGce74359127

/- Drawn claims. -/
namespace Go.Proofs.Ytpampekijfjlkaa.L
open Go.RowKit Go.Proofs.Ytpampekijfjlkaa.X Go.Proofs.YtpampekijfjlkaaW.PrintWords Go.Proofs.YtpampekijfjlkaaW.PrintLast Go.Proofs.YtpampekijfjlkaaW.PrintMore
open Go.Proofs.YtpampekijfjlkaaW.PrintWords renaming Aside0.mk → mA, pw_below_drewN → bN, below_drew1 → bD, below_alloc → bA, below_size → bZ, below_step → bT, Kd.R_alloc → rA, Kd.R_drewN → rN, Kd.R_drew → rD, Kd.C_alloc → cA, Kd.C_drewN → cN, Kd.C_drew → cD
theorem l20Claim_ev {s:List Int} (hs:Rd s) {n:Int} (h0:0≤n) (h1:n≤500000) (P m:Int) (hP:P≤1000) (hm0 : -1000≤m) (hm:m≤400) :
  ∃ (i:Int) (t:List M) (n':Int),Ev (fun k=>spec_l20Claim.f k s n P m) (i,t,n') ∧ -1≤i∧i≤1000∧t.length≤16∧Sm t∧n≤n'∧n'≤n+100:=by
 have hmx:1≤mx P 1∧mx P 1≤1000:=by unfold mx;split<;>omega
 obtain ⟨a,ha,ha0,ha1⟩:=pick_ev hs (p:=n) (by omega) (by omega) (mx P 1) (by omega)
 have ha2:=ha1 (by omega)
 obtain ⟨t,p',ht,h2,h3,h4,h5⟩:=l20Term_ev hs (p:=n+1) (by omega) (by omega) P (m*2) (by omega)
 obtain ⟨b,p2,hb,hb0,hb1⟩:=odd_ev hs (p:=p') (by omega) (by omega) m (by omega)
 cases b with
 | false =>
  refine ⟨a,t,p2,?_,by omega,by omega,h2,h3,by omega,by omega⟩
  unfold spec_l20Claim.f
  simp only [w64 (x:=m*2) (by omega) (by omega)]
  exact Ev.bind ha (Ev.bind ht (Ev.bind hb (Ev.no (by simp) (Ev.some _))))
 | true =>
  obtain ⟨c,hc,hc0,hc1⟩:=pick_ev hs (p:=p2) (by omega) (by omega) 2 (by omega)
  have hc2:=hc1 (by omega)
  refine ⟨rd [-1,4] c,t,p2+1,?_,?_,?_,h2,h3,by omega,by omega⟩
  ·unfold spec_l20Claim.f
   simp only [w64 (x:=m*2) (by omega) (by omega),Option.bind_some]
   exact Ev.bind ha (Ev.bind ht (Ev.bind hb (Ev.yes rfl (Ev.bind hc (Ev.yes hc0 (Ev.yes (by simpa using hc2) (Ev.some _)))))))
  ·obtain rfl|rfl:c=0∨c=1:=by omega
   ·decide
   ·decide
  ·obtain rfl|rfl:c=0∨c=1:=by omega
   ·decide
   ·decide
theorem l20Claimed_ev {s:List Int} (hs:Rd s) (m:Int) (hm0 : -1000≤m) (hm:m≤400) : ∃ (p i:Int) (t:List M) (n:Int),Ev (fun k=>spec_l20Claimed.f k s 0 m) (p,i,t,n)∧1≤p∧p≤4 ∧ -1≤i∧i≤1000∧t.length≤16∧Sm t∧0≤n∧n≤1000:=by
 obtain ⟨a,ha,ha0,ha1⟩:=pick_ev hs (p:=0) (by omega) (by omega) 4 (by omega)
 have ha2:=ha1 (by omega)
 obtain ⟨i,t,n',h,h2,h3,h4,h5,h6,h7⟩:=l20Claim_ev hs (n:=0+1) (by omega) (by omega) (1+a) m (by omega) hm0 hm
 refine ⟨1+a,i,t,n',?_,by omega,by omega,h2,h3,h4,h5,by omega,by omega⟩
 unfold spec_l20Claimed.f
 refine Ev.bind ha ?_
 simp only [w64 (x:=1+a) (by omega) (by omega)]
 exact Ev.bind h (Ev.some _)
/-- A claim by one of so many people. -/
def clok (p i:Int) (t:List M):Bool:=decide (0≤i∧i<p)&&(tok p t&&decide (t.length≤13))
theorem clok_iff {p i:Int} {t:List M}:clok p i t=true ↔ 0≤i∧i<p∧tok p t=true∧t.length≤13:=by
 unfold clok
 simp only [Bool.and_eq_true,decide_eq_true_eq]
 exact ⟨fun h=>⟨h.1.1,h.1.2,h.2.1,h.2.2⟩,fun h=>⟨⟨h.1,h.2.1⟩,h.2.2.1,h.2.2.2⟩⟩
theorem clok_false {p i:Int} {t:List M} (h : ¬ (0≤i∧i<p∧tok p t=true∧t.length≤13)):false=clok p i t:=by
 cases e:clok p i t with
 | false=>rfl
 | true=>exact absurd (clok_iff.1 e) h
theorem impl_ClaimOk_ev (p i:Int) (t:List M):Ev (fun k=>impl_ClaimOk.f k p i t) (clok p i t):=by
 unfold impl_ClaimOk.f
 simp only [peopleOk_eq,Option.bind_some]
 by_cases h0:1≤p∧p≤4
 ·refine Ev.yes (decide_eq_true h0) ?_
  by_cases h1:i≥0
  ·refine Ev.yes h1 ?_
   by_cases h2:i<p
   ·refine Ev.yes h2 (Ev.bind (impl_TermOk_ev p t) ?_)
    by_cases h3:tok p t=true
    ·refine Ev.yes h3 (Ev.cast (Ev.some _) ?_)
     by_cases h4:t.length≤13
     ·rw [clok_iff.2 ⟨h1,h2,h3,h4⟩];exact decide_eq_true (by omega)
     ·rw [←clok_false (fun h=>h4 h.2.2.2)];exact decide_eq_false (by omega)
    ·exact Ev.no h3 (Ev.cast (Ev.some _) (clok_false (fun h=>h3 h.2.2.1)))
   ·exact Ev.no h2 (Ev.cast (Ev.some _) (clok_false (fun h=>h2 h.2.1)))
  ·exact Ev.no h1 (Ev.cast (Ev.some _) (clok_false (fun h=>h1 h.1)))
 ·refine Ev.no (by simpa using h0) (Ev.cast (Ev.some _) (clok_false (fun h=>h0 ?_)))
  have:=tok_iff.1 h.2.2.1
  omega
theorem spec_ClaimOk_ev (p i:Int) (t:List M) (hl:t.length≤4611686018427387904) (hw : ∀ m∈t,m.f1≤9223372036854775807):Ev (fun k=>spec_ClaimOk.f k p i t) (clok p i t):=by
 unfold spec_ClaimOk.f
 by_cases h1:i≥0
 ·refine Ev.yes h1 ?_
  by_cases h2:i<p
  ·refine Ev.yes h2 (Ev.bind (spec_TermOk_ev p t hl hw) ?_)
   by_cases h3:tok p t=true
   ·refine Ev.yes h3 (Ev.cast (Ev.some _) ?_)
    by_cases h4:t.length≤13
    ·rw [clok_iff.2 ⟨h1,h2,h3,h4⟩];exact decide_eq_true (by omega)
    ·rw [←clok_false (fun h=>h4 h.2.2.2)];exact decide_eq_false (by omega)
   ·exact Ev.no h3 (Ev.cast (Ev.some _) (clok_false (fun h=>h3 h.2.2.1)))
  ·exact Ev.no h2 (Ev.cast (Ev.some _) (clok_false (fun h=>h2 h.2.1)))
 ·exact Ev.no h1 (Ev.cast (Ev.some _) (clok_false (fun h=>h1 h.1)))
/-- A claim, and whether it is one. -/
def claimR (p i:Int) (t:List M):Int×List M×Bool:=if clok p i t=true then (i,t,true) else (0,[],false)
theorem claimR_length {p i:Int} {t:List M}:(claimR p i t).2.1.length≤13:=by
 unfold claimR
 split
 ·rename_i h;exact (clok_iff.1 h).2.2.2
 ·simp
theorem clone_eq' (t:List M) (ht:t.length≤4611686018427):impl_Mark.f t=some t:=by
 unfold impl_Mark.f
 simp only [Option.bind_some,List.length_nil,List.nil_append]
 rw [if_pos (by omega)]
theorem claimBy_ev (p i:Int) (t:List M) (ht:t.length≤4611686018427):Ev (fun k=>impl_claimBy.f k p i t) (claimR p i t):=by
 unfold impl_claimBy.f
 rw [clone_eq' t ht]
 simp only [Option.bind_some]
 refine Ev.bind (impl_ClaimOk_ev p i t) ?_
 by_cases h:clok p i t=true
 ·exact Ev.yes h (Ev.cast (Ev.some _) (if_pos h).symm)
 ·exact Ev.no h (Ev.cast (Ev.some _) (if_neg h).symm)
theorem Tm.good_four {p:Int} (hp:p≤4) : ∀ a:Tm,a.good p→a.good 4
 | .tell i,h=>by have h':(i:Int)<p:=h;show (i:Int)<4;omega
 | .cnt n,h=>by have h':(n:Int)≤p+1:=h;show (n:Int)≤4+1;omega
 | .neg a,h=>good_four hp a h
 | .bin o a b,h=>⟨h.1,good_four hp a h.2.1,good_four hp b h.2.2⟩
open Classical in
/-- The tree of a row of marks. -/
noncomputable def tree (t:List M):Tm:=if h : ∃ a:Tm,a.good 4∧t=a.post then Classical.choose h else .tell 0
theorem tree_post {a:Tm} (h:a.good 4):(tree a.post).good 4∧a.post=(tree a.post).post:=by
 have h' : ∃ b:Tm,b.good 4∧a.post=b.post:=⟨a,h,rfl⟩
 unfold tree
 rw [dif_pos h']
 exact Classical.choose_spec h'
/-- Whether a row of marks holds in a world. -/
noncomputable def hv (t:List M) (w:Nat):Bool:=(tree t).ev w
theorem hv_post {a:Tm} (h:a.good 4) (hl:a.post.length≤500) {w:Nat} (hw:w<16):hv a.post w=a.ev w:=by
 obtain ⟨h1,h2⟩:=tree_post h
 have e1:=impl_holds_ev (by decide) hw h hl
 have e2:=impl_holds_ev (by decide) hw h1 (by rw [←h2];exact hl)
 rw [←h2] at e2
 exact Ev.uniq e2 e1
theorem tok_tree {p:Int} {t:List M} (h:tok p t=true) : ∃ a:Tm,a.good p∧t=a.post∧a.good 4∧t.length≤15:=by
 obtain ⟨a,h1,h2⟩:=parse h
 obtain ⟨_,h3,_,h4,_⟩:=tok_iff.1 h
 exact ⟨a,h1,h2,a.good_four h3 h1,h4⟩
theorem impl_holds_hv {p:Int} {t:List M} (h:tok p t=true) {w:Nat} (hw:w<16):Ev (fun k=>impl_holds.f k t (w:Int)) (hv t w):=by
 obtain ⟨a,_,rfl,h4,hl⟩:=tok_tree h
 rw [hv_post h4 (by omega) hw]
 exact impl_holds_ev (by decide) hw h4 (by omega)
/-- Whether a claim may be made in a world. -/
noncomputable def may (i:Int) (t:List M) (w:Nat):Bool:=hv t w==w.testBit i.toNat
/-- The worlds below n in which P holds, as bits. -/
def tabL (P:Nat→Bool):Nat→Nat
 | 0=>0
 | n+1=>tabL P n ||| (if P n=true then 2^n else 0)
theorem tabL_bit (P:Nat→Bool) : ∀ n w,(tabL P n).testBit w=(decide (w<n)&&P w)
 | 0,w=>by simp [tabL]
 | n+1,w=>by
  rw [tabL,Nat.testBit_or,tabL_bit P n w]
  by_cases e:w=n
  ·subst e
   by_cases h:P w=true
   ·rw [if_pos h,Nat.testBit_two_pow_self,h];simp
   ·rw [if_neg h,Nat.zero_testBit];simp at h;simp [h]
  ·have h1:(if P n=true then 2^n else 0).testBit w=false:=by
    by_cases h:P n=true
    ·rw [if_pos h,Nat.testBit_two_pow];simp;omega
    ·rw [if_neg h,Nat.zero_testBit]
   rw [h1,Bool.or_false]
   congr 1
   exact decide_eq_decide.mpr (by omega)
theorem lt_of_bits {x n:Nat} (h : ∀ w,n≤w→x.testBit w=false):x<2^n:=Nat.lt_pow_two_of_testBit x (fun w hw=>h w hw)
theorem tabL_lt (P:Nat→Bool) (n:Nat):tabL P n<2^n:=lt_of_bits (fun w hw=>by rw [tabL_bit];simp;omega)
theorem tabL_congr {P Q:Nat→Bool} {n:Nat} (h : ∀ w,w<n→P w=Q w):tabL P n=tabL Q n:=by
 apply Nat.eq_of_testBit_eq
 intro w
 rw [tabL_bit,tabL_bit]
 by_cases hw:w<n
 ·rw [h w hw]
 ·simp [hw]
theorem wrap_i64_small (n:Int) (h0:0≤n) (h1:n<2^32):IntKind.i64.wrap n=n:=by rw [IntKind.wrap_i64];omega
theorem or_nat {a b:Nat} (ha:a<2^32) (hb:b<2^32):Go.bits .or .i64 (a:Int) (b:Int)=((a ||| b:Nat):Int):=(bits_nat .i64 32 (by decide) wrap_i64_small a b ha hb).2
theorem shl_fin : ∀ i:Fin 31,shl .i64 1 ((i.val:Nat):Int)=((2^i.val:Nat):Int):=by decide +kernel
theorem shl_nat {i:Nat} (hi:i<31):shl .i64 1 (i:Int)=((2^i:Nat):Int):=shl_fin ⟨i,hi⟩
theorem or_step {P:Nat→Bool} {i:Nat} (hi:i<16) (h:P i=true):Go.bits .or .i64 ((tabL P i:Nat):Int) (shl .i64 1 (i:Int))=((tabL P (i+1):Nat):Int):=by
 have h1:=tabL_lt P i
 have h2:(2:Nat)^i<2^16:=Nat.pow_lt_pow_right (by decide) hi
 rw [shl_nat (by omega),or_nat (by omega) (by omega),tabL,if_pos h]
theorem not_step {P:Nat→Bool} {i:Nat} (h : ¬ P i=true):tabL P (i+1)=tabL P i:=by rw [tabL,if_neg h,Nat.or_zero]
theorem people_nat {p:Int} (h0:1≤p) (h1:p≤4) : ∃ q:Nat,p=(q:Int)∧1≤q∧q≤4∧2^q≤16∧p.toNat=q:=by
 obtain ⟨q,rfl⟩:=Int.eq_ofNat_of_zero_le (show 0≤p by omega)
 refine ⟨q,rfl,by omega,by omega,?_,by simp⟩
 have:(2:Nat)^q≤2^4:=Nat.pow_le_pow_right (by decide) (by omega)
 omega
theorem tableBy_l0 {F:Nat→Int→Option Bool} {P:Nat→Bool} {n:Nat} (hn:n≤16) (hF : ∀ w:Nat,w<n→Ev (fun k=>F k (w:Int)) (P w)) : ∀ d i,d+i=n →
  Ev (fun k=>impl_tableBy.l0 F k ((tabL P i:Nat):Int) (n:Int) (i:Int)) ((tabL P n:Nat):Int):=by
 intro d
 induction d with
 | zero =>
  intro i hi
  rw [Nat.zero_add] at hi
  subst hi
  exact Ev.step (fun k=>by simp only [impl_tableBy.l0];rfl) (Ev.no (by omega) (Ev.some _))
 | succ d ih =>
  intro i hi
  refine Ev.step (fun k=>by simp only [impl_tableBy.l0];rfl) ?_
  refine Ev.yes (by omega) (Ev.bind (hF i (by omega)) ?_)
  rw [w64 (by omega) (by omega),show ((i:Int)+1)=((i+1:Nat):Int) by omega]
  by_cases h:P i=true
  ·refine Ev.yes h (Ev.yes (by omega) ?_)
   rw [or_step (by omega) h]
   exact ih (i+1) (by omega)
  ·refine Ev.no h ?_
   have:=ih (i+1) (by omega)
   rwa [not_step h] at this
theorem tableBy_ev {F:Nat→Int→Option Bool} {P:Nat→Bool} {q:Nat} (hq:q≤4) (hF : ∀ w:Nat,w<2^q→Ev (fun k=>F k (w:Int)) (P w)):Ev (fun k=>impl_tableBy.f F k (q:Int)) ((tabL P (2^q):Nat):Int):=by
 unfold impl_tableBy.f
 refine Ev.yes (by omega) ?_
 rw [shl_nat (by omega)]
 have h16:(2:Nat)^q≤2^4:=Nat.pow_le_pow_right (by decide) hq
 exact tableBy_l0 (by omega) hF (2^q) 0 (by omega)
theorem impl_maySay_ev {p i:Int} {t:List M} (h:clok p i t=true) {w:Nat} (hw:w<16):Ev (fun k=>impl_maySay.f k i t (w:Int)) (may i t w):=by
 obtain ⟨h0,h1,h2,_⟩:=clok_iff.1 h
 have h4:=(tok_iff.1 h2).2.1
 obtain ⟨j,rfl⟩:=Int.eq_ofNat_of_zero_le h0
 unfold impl_maySay.f
 refine Ev.bind (impl_holds_hv h2 hw) (Ev.yes h0 (Ev.cast (Ev.some _) ?_))
 rw [bit_and' hw (show j<4 by omega)]
 rfl
/-- The table of a claim. -/
noncomputable def ctab (p i:Int) (t:List M):Nat:=tabL (may i t) (2^p.toNat)
theorem impl_ClaimTable_ev (p i:Int) (t:List M):Ev (fun k=>impl_ClaimTable.f k p i t) (if clok p i t=true then ((ctab p i t:Nat):Int) else -1):=by
 unfold impl_ClaimTable.f
 refine Ev.bind (impl_ClaimOk_ev p i t) ?_
 by_cases h:clok p i t=true
 ·rw [if_pos h]
  refine Ev.yes h ?_
  obtain ⟨hp0,hp1,_⟩:=tok_iff.1 (clok_iff.1 h).2.2.1
  obtain ⟨q,rfl,_,hq,hq2,_⟩:=people_nat hp0 hp1
  exact tableBy_ev hq (fun w hw=>impl_maySay_ev h (by omega))
 ·rw [if_neg h]
  exact Ev.no h (Ev.some _)
end Go.Proofs.Ytpampekijfjlkaa.L
namespace Go.Proofs.Ytpampekijfjlkaa.X
open Go.RowKit Go.Proofs.YtpampekijfjlkaaW.PrintWords Go.Proofs.YtpampekijfjlkaaW.PrintLast Go.Proofs.YtpampekijfjlkaaW.PrintMore
open Go.Proofs.YtpampekijfjlkaaW.PrintWords renaming Aside0.mk → mA, pw_below_drewN → bN, below_drew1 → bD, below_alloc → bA, below_size → bZ, below_step → bT, Kd.R_alloc → rA, Kd.R_drewN → rN, Kd.R_drew → rD, Kd.C_alloc → cA, Kd.C_drewN → cN, Kd.C_drew → cD
attribute [local go_sem] max2_int min2_int max_two min_two max_three min_three max_four min_four   -- for this text's walks alone
set_option linter.unusedVariables false
set_option linter.unusedSimpArgs false
/-! ### impl_trick: function 106 -/
def impl_trick.f (a0:Int) (l1:List (S52)):Option ((List (S52))):=(some (([(⟨0,a0⟩:S52)]:List (S52)):List (S52))).bind fun y101=>(if y101.length+l1.length<8796093022208 then ((some (y101++l1:List (S52))).bind fun y104=>(if y104.length<8796093022208 then (some (y104++[(⟨5,0⟩:S52)])) else (none))) else (none))
set_option maxHeartbeats 8000000 in
set_option maxRecDepth 100000 in
theorem impl_trick.calls (a0:Int) (A1:Option Addr) (c1:Nat) (l1:List (S52)) (r:List (S52)) (w:World) (hr1:Kd.C k52 w A1 l1.length l1) (hc1:l1.length≤c1) (h:impl_trick.f a0 l1=some r) :
  Calls Try.prog 106 #[.int .i64 a0,.slice A1 l1.length c1] w fun e w'=>∃ v0_:Value,e = .returned (v0_)∧Kd.R k52 52 w' w.heap.size (fun _=>True) v0_ r∧Below w.heap.size w w':=by
 have hu52:=Try.underlying52
 have HR1:=mA hr1
 have HC1:=mA hc1
 clear hr1 hc1
 have HB:=mA (Below.refl w.heap.size w)
 have H:((some (([(⟨0,a0⟩:S52)]:List (S52)):List (S52))).bind fun y101=>(if y101.length+l1.length<8796093022208 then ((some (y101++l1:List (S52))).bind fun y104=>(if y104.length<8796093022208 then (some (y104++[(⟨5,0⟩:S52)])) else (none))) else (none)))=some r:=h
 clear h
 obtain ⟨y101,hy101⟩ : ∃ y_:List (S52),y_=(([(⟨0,a0⟩:S52)]:List (S52))):=⟨_,rfl⟩
 replace H:(if y101.length+l1.length<8796093022208 then ((some (y101++l1:List (S52))).bind fun y104=>(if y104.length<8796093022208 then (some (y104++[(⟨5,0⟩:S52)])) else (none))) else (none))=some r:=by first|(rw [hy101];with_reducible exact H)|(have H2_:=(Option.bind_some _ _).symm.trans H;rw [hy101];with_reducible exact H2_)|(have H2_:=(Option.bind_some _ _).symm.trans H;with_reducible exact H2_)|with_reducible exact H|(rw [hy101];exact H)|exact H
 have Ny101:=mA hy101
 clear hy101
 by_cases c3:y101.length+l1.length<8796093022208
 ·rw [if_pos c3] at H
  have LMc3:=mA c3
  clear c3
  obtain ⟨y104,hy104⟩ : ∃ y_:List (S52),y_=(y101++l1):=⟨_,rfl⟩
  replace H:(if y104.length<8796093022208 then (some (y104++[(⟨5,0⟩:S52)])) else (none))=some r:=by first|(rw [hy104];with_reducible exact H)|(have H2_:=(Option.bind_some _ _).symm.trans H;rw [hy104];with_reducible exact H2_)|(have H2_:=(Option.bind_some _ _).symm.trans H;with_reducible exact H2_)|with_reducible exact H|(rw [hy104];exact H)|exact H
  have Ny104:=mA hy104
  clear hy104
  by_cases c4:y104.length<8796093022208
  ·rw [if_pos c4] at H
   have LMc4:=mA c4
   clear c4
   obtain ⟨y107,hy107⟩ : ∃ y_:List (S52),y_=(y104++[(⟨5,0⟩:S52)]):=⟨_,rfl⟩
   replace H:(some y107)=some r:=by first|(rw [hy107];with_reducible exact H)|(have H2_:=(Option.bind_some _ _).symm.trans H;rw [hy107];with_reducible exact H2_)|(have H2_:=(Option.bind_some _ _).symm.trans H;with_reducible exact H2_)|with_reducible exact H|(rw [hy107];exact H)|exact H
   have Ny107:=mA hy107
   clear hy107
   obtain rfl:=Option.some.inj H
   go_enter Try.func106,Try.ntmps106
   go_wp2_with (first|((with_reducible refine gate_dst (N:=8) rfl ?_);refine Kd.R_lit k52 _ 52 ?hg (N:=8) ?hd (xs:=([(⟨0,a0⟩:S52)]:List (S52))) (inner:=[.int .i64 0,.int .i64 a0]) (ok:=fun _=>True) (okp:=fun _=>True) ?hr ?hp (fun _ hk=>hk) trivial (Below.refl _ _) (Nat.le_refl _) (by simp) ?_;(case hd=>rfl);(case hg=>rfl);(case hr=>first|(go_simp;done)|(go_simp;rfl));(case hp=>exact (Reps.c2 (show Kd.M k52 _ _ _ (⟨0,a0⟩:S52) [.int .i64 0,.int .i64 a0] from (k52_mkM _ _ _ (⟨0,a0⟩:S52) )) (Reps.none _ _)));intro v102 w5 ho6 hb hg_ hnew_;clear hg_ hnew_;(first|rw [←Ny101.out] at ho6|(simp only [Int.reduceToNat] at ho6;rw [←Ny101.out] at ho6));have n0_:=mA (Kd.R_lower ho6 (bZ (by repeat (first|(with_reducible first|exact HB.out|apply bA|apply bN|apply bD)|exact HB.out))));have n1_:=mA (bT (by repeat (first|(with_reducible first|exact HB.out|apply bA|apply bN|apply bD)|exact HB.out)) hb);clear HB;have HO103:=n0_;have HB:=n1_;clear n0_ n1_ hb ho6)|((with_reducible refine gate_builtin (b:=.append) (xs:=#[.tmp 8,.tmp 9]) rfl ?_);at_builtin;refine Kd.R_append_rows k52 (w0:=w) w.heap.size rfl (.tmp 8) (.tmp 9) 34 52 (.agg #[(.int .i64 0),(.int .i64 0)]) 16 rfl Try.underlying34 info52 rfl (by decide) (by omega) v102 y101 l1 _ _ _ (fun _=>True) (fun _=>False) rfl rfl ?aO ?aR (fun _ _ h=>h) (fun _ h=>h.elim) ?aF ?aB ?aS ?aL ?_;(case aR=>repeat (first|exact (Kd.C_below HR1.out HB.out)|(with_reducible refine cA ?_ _)|(with_reducible refine cN ?_ _)|(with_reducible refine cD ?_)));(case aB=>exact (by repeat (first|(with_reducible first|exact HB.out|apply bA|apply bN|apply bD)|exact HB.out)));(case aF=>exact (fun _ _=>trivial));(case aO=>exact (by (with_reducible repeat (first|apply rA|apply rN|apply rD));exact HO103.out));(case aS=>exact (bZ (by repeat (first|(with_reducible first|exact HB.out|apply bA|apply bN|apply bD)|exact HB.out))));(case aL=>have:=LMc3.out;omega);intro v105 w7 ho hb hg hat;rw [←Ny104.out] at ho;have n0_:=mA (hb);have n1_:=mA (ho);clear HB HO103;have HB:=n0_;have HO106:=n1_;clear n0_ n1_ ho hb hg hat)|((with_reducible refine gate_builtin (b:=.append) (xs:=#[.tmp 11,.tmp 13]) rfl ?_);at_builtin;refine Kd.R_append k52 (w0:=w) w.heap.size rfl (.tmp 11) (.tmp 13) 34 52 (.agg #[(.int .i64 0),(.int .i64 0)]) 16 rfl Try.underlying34 info52 rfl (by decide) (by omega) v105 y104 (⟨5,0⟩:S52) [.int .i64 5,.int .i64 0] (fun _=>True) (fun _=>False) rfl rfl ?aP (fun _ hk=>hk.elim) ?aF ?aO ?aB ?aS ?aL ?_;(case aP=>exact k52_mkM _ _ _ (⟨5,0⟩:S52));(case aB=>exact (by repeat (first|(with_reducible first|exact HB.out|apply bA|apply bN|apply bD)|exact HB.out)));(case aF=>exact (fun _ _=>trivial));(case aO=>exact (by (with_reducible repeat (first|apply rA|apply rN|apply rD));exact HO106.out));(case aS=>exact (bZ (by repeat (first|(with_reducible first|exact HB.out|apply bA|apply bN|apply bD)|exact HB.out))));(case aL=>have:=LMc4.out;omega);intro v108 w8 ho hb hg hat;rw [←Ny107.out] at ho;have n0_:=mA (hb);have n1_:=mA (ho);clear HB HO106;have HB:=n0_;have HO109:=n1_;clear n0_ n1_ ho hb hg hat))
   go_ret
   exact ⟨_,by first|rfl|(simp [errW_none,errW_some]<;>rfl)|(simp [*, errW_none,errW_some]<;>rfl),by (with_reducible repeat (first|apply rA|apply rN|apply rD));exact HO109.out,by repeat (first|(with_reducible first|exact HB.out|apply bA|apply bN|apply bD)|exact HB.out)⟩
  ·rw [if_neg c4] at H
   exact absurd H (by simp)
 ·rw [if_neg c3] at H
  exact absurd H (by simp)
end Go.Proofs.Ytpampekijfjlkaa.X
/- Plain law of the trick: a mark of a person ahead, and the mark of sameness behind. -/
namespace Go.Proofs.Ytpampekijfjlkaa.L
open Go.RowKit Go.Proofs.Ytpampekijfjlkaa.X Go.Proofs.YtpampekijfjlkaaW.PrintWords Go.Proofs.YtpampekijfjlkaaW.PrintLast Go.Proofs.YtpampekijfjlkaaW.PrintMore
open Go.Proofs.YtpampekijfjlkaaW.PrintWords renaming Aside0.mk → mA, pw_below_drewN → bN, below_drew1 → bD, below_alloc → bA, below_size → bZ, below_step → bT, Kd.R_alloc → rA, Kd.R_drewN → rN, Kd.R_drew → rD, Kd.C_alloc → cA, Kd.C_drewN → cN, Kd.C_drew → cD

theorem hv_not {p:Int} {t:List M} (hk:tok p t=true) {w:Nat} (hw:w<16):hv (t++[⟨2,0⟩]) w = !hv t w:=by
 obtain ⟨a,hg,rfl,h4,hl⟩:=tok_tree hk
 have e:a.post++[⟨2,0⟩]=(Tm.neg a).post:=by simp [Tm.post]
 rw [e,hv_post (a:=.neg a) h4 (by rw [←e];simp;omega) hw,hv_post h4 (by omega) hw]
 simp [Tm.ev]
def denyR (p i:Int) (t:List M):Int×List M×Bool:=if clok p i t=true then claimR p i (t++[⟨2,0⟩]) else (0,[],false)
theorem impl_Deny_ev (p i:Int) (t:List M):Ev (fun k=>impl_DenyClaim.f k p i t) (denyR p i t):=by
 unfold impl_DenyClaim.f
 refine Ev.bind (impl_ClaimOk_ev p i t) ?_
 by_cases h:clok p i t=true
 ·refine Ev.yes h ?_
  have hl:=(clok_iff.1 h).2.2.2
  rw [clone_eq' t (by omega)]
  simp only [Option.bind_some,List.length_cons,List.length_nil]
  refine Ev.yes (by omega) (Ev.bind (claimBy_ev p i (t++[⟨2,0⟩]) (by simp;omega)) (Ev.cast (Ev.some _) ?_))
  exact (if_pos h).symm
 ·exact Ev.no h (Ev.cast (Ev.some _) (if_neg h).symm)
theorem may_not {p i:Int} {t:List M} (h:tok p t=true) {w:Nat} (hw:w<16):may i (t++[⟨2,0⟩]) w = !may i t w:=by
 unfold may
 rw [hv_not h hw]
 cases hv t w<;>cases w.testBit i.toNat<;>rfl
theorem DrawDenyClaim_ev {l:List Int} (hw : ∀ x∈l,(Lit.int .u8 x).wf=true) : ∃ (p i:Int) (t:List M),Ev (fun k=>spec_DrawDenyClaim.f k l) (p,i,t)∧1≤p∧p≤4 ∧ -1≤i∧i≤1000∧t.length≤16∧Sm t:=by
 obtain ⟨s,hs,ho⟩:=open_eq hw
 obtain ⟨p,i,t,n,h,h1,h2,h3,h4,h5,h6,_⟩:=l20Claimed_ev hs 9 (by omega) (by omega)
 refine ⟨p,i,t,?_,h1,h2,h3,h4,h5,h6⟩
 unfold spec_DrawDenyClaim.f
 rw [ho]
 simp only [Option.bind_some]
 exact Ev.bind h (Ev.some _)
theorem spec_Deny_ev (p i:Int) (t:List M) (hl:t.length≤1048576) (hw : ∀ m∈t,m.f1≤9223372036854775807):Ev (fun k=>spec_DenyClaim.f k p i t) (denyR p i t):=by
 unfold spec_DenyClaim.f
 simp only [Option.bind_some,List.nil_append,List.length_nil,List.length_cons]
 have hw2 : ∀ m∈t++[(⟨2,0⟩:M)],m.f1≤9223372036854775807:=by
  intro m hm
  rcases List.mem_append.1 hm with hm|hm
  ·exact hw m hm
  ·rw [List.mem_singleton.1 hm];decide
 refine Ev.yes (by omega) (Ev.yes (by omega) (Ev.bind (spec_ClaimOk_ev p i t (by omega) hw) ?_))
 by_cases h:clok p i t=true
 ·rw [h]
  refine Ev.yes rfl (Ev.bind (spec_ClaimOk_ev p i (t++[⟨2,0⟩]) (by simp;omega) hw2) ?_)
  refine Ev.step (fun k=>by simp only [spec_DenyClaim.j0];rfl) ?_
  rw [denyR,if_pos h,claimR]
  by_cases h2:clok p i (t++[⟨2,0⟩])=true
  ·rw [if_pos h2]
   exact Ev.no (by rw [h2];simp) (Ev.some _)
  ·rw [if_neg h2]
   rw [Bool.not_eq_true] at h2
   exact Ev.yes (by rw [h2];rfl) (Ev.some _)
 ·rw [denyR,if_neg h]
  rw [Bool.not_eq_true] at h
  rw [h]
  exact Ev.no (by simp) (Ev.step (fun k=>by simp only [spec_DenyClaim.j0];rfl) (Ev.yes trivial (Ev.some _)))
theorem sameMarks_l0 (l:List M) (hl:l.length≤4611686018427387904) : ∀ (suf pre:List M),l=pre++suf→Ev (fun k=>laws_sameMarks.l0 k l l ((pre.length:Nat):Int)) true:=by
 intro suf
 induction suf with
 | nil =>
  intro pre he
  have hle:l.length=pre.length:=by rw [he];simp
  refine Ev.step (fun k=>by simp only [laws_sameMarks.l0];rfl) ?_
  exact Ev.no (by omega) (Ev.some _)
 | cons m t ih =>
  intro pre he
  have hle:l.length=pre.length+(t.length+1):=by rw [he];simp
  have hnext:wrap64 (((pre.length:Nat):Int)+1)=(((pre++[m]).length:Nat):Int):=by rw [w64 (by omega) (by omega)];simp
  refine Ev.step (fun k=>by simp only [laws_sameMarks.l0];rfl) ?_
  refine Ev.yes (by omega) (Ev.yes (by omega) (Ev.yes (by omega) (Ev.no (by simp) ?_)))
  rw [hnext]
  exact ih (pre++[m]) (by rw [he];simp)
theorem sameMarks_ev (l:List M) (hl:l.length≤4611686018427387904):Ev (fun k=>laws_sameMarks.f k l l) true:=by
 unfold laws_sameMarks.f
 exact Ev.yes rfl (sameMarks_l0 l hl l [] rfl)
theorem alive_eq:laws_alive.f=some true:=by decide +kernel
end Go.Proofs.Ytpampekijfjlkaa.L
