/- Joined by a program of this session's: LDSTO, LH, LTB, LTY, LO, LCB, LST, LSM, LCBS, LSTS, LDNL, LSB, LWO, LNE, LWOS, LNES, LSTI, LSAB. -/
import Derived.Test.YtpampekijfjlkabGd9d73add00
import Derived.Test.YtpampekijfjlkabG72f6b3ff66
import Derived.Test.YtpampekijfjlkabG2176217a36
import Derived.Laws.BitsLemmas
import Derived.Test.YtpampekijfjlkabGed8af054f1
import Derived.Test.YtpampekijfjlkabG168499ca7f
import Derived.Test.YtpampekijfjlkabG9e0bf827be

/- Drawn stories. -/
namespace Go.Proofs.Ytpampekijfjlkab.L
open Go.RowKit Go.Proofs.Ytpampekijfjlkab.X Go.Proofs.YtpampekijfjlkabW.PrintWords Go.Proofs.YtpampekijfjlkabW.PrintLast Go.Proofs.YtpampekijfjlkabW.PrintMore
open List renaming length_take → lT, length_drop → lD
/-- Claims with small terms. -/
def SmC (l:List S36):Prop:=∀ c∈l,c.f1.length≤16∧Sm c.f1
theorem SmC.snoc {l:List S36} {c:S36} (h:SmC l) (h1:c.f1.length≤16) (h2:Sm c.f1):SmC (l++[c]):=by
 intro x hx
 rcases List.mem_append.1 hx with hx|hx
 ·exact h x hx
 ·rw [List.mem_singleton.1 hx];exact ⟨h1,h2⟩
theorem story_l1 {s:List Int} (P n:Int) : ∀ (d:Nat) (l:List S36),l.length+d=7→SmC l → ∃ l':List S36,Ev (fun k=>spec_l20Story.l1 k P l s n) (P,l',n)∧l'.length≤7∧SmC l':=by
 intro d
 induction d with
 | zero =>
  intro l hl hs
  exact ⟨l,Ev.step (fun k=>by simp only [spec_l20Story.l1];rfl) (Ev.no (by omega) (Ev.some _)),by omega,hs⟩
 | succ d ih =>
  intro l hl hs
  obtain ⟨l',h1,h2,h3⟩:=ih (l++[⟨0,[⟨0,0⟩]⟩]) (by simp;omega) (hs.snoc (by simp) (Sm.one (by simp)))
  exact ⟨l',Ev.step (fun k=>by simp only [spec_l20Story.l1];rfl) (Ev.yes (by omega) (Ev.yes (by omega) h1)),h2,h3⟩
theorem story_l0 {s:List Int} (hs:Rd s) (m P:Int) (hm0:0≤m) (hm:m≤100) (hP:P≤1000) : ∀ (d:Nat) (l:List S36) (n:Int),l.length+d≤6→SmC l→0≤n→n≤10000-200*d →
  ∃ (l':List S36) (n':Int),Ev (fun k=>spec_l20Story.l0 k m P l (d:Int) s n) (P,l',n')∧l'.length≤7∧SmC l'∧0≤n'∧n'≤20000:=by
 intro d
 induction d with
 | zero =>
  intro l n hl hsm h0 h1
  obtain ⟨b,p1,hb,hp1,hp2⟩:=odd_ev hs h0 (by omega) m (by omega)
  cases b with
  | false=>exact ⟨l,p1,Ev.step (fun k=>by simp only [spec_l20Story.l0];rfl) (Ev.no (by omega) (Ev.bind hb (Ev.no Bool.false_ne_true (Ev.some _)))),by omega,hsm,by omega,by omega⟩
  | true =>
   obtain ⟨l',h1',h2,h3⟩:=story_l1 (s:=s) P p1 (7-l.length) l (by omega) hsm
   exact ⟨l',p1,Ev.step (fun k=>by simp only [spec_l20Story.l0];rfl) (Ev.no (by omega) (Ev.bind hb (Ev.yes rfl h1'))),h2,h3,by omega,by omega⟩
 | succ d ih =>
  intro l n hl hsm h0 h1
  obtain ⟨i,t,n',hc,hi0,hi1,ht,hst,hn0,hn1⟩:=l20Claim_ev hs (n:=n) h0 (by omega) P (m*3) hP (by omega) (by omega)
  obtain ⟨l',n2,h1',h2,h3,h4,h5⟩:=ih (l++[⟨i,t⟩]) n' (by simp;omega) (hsm.snoc ht hst) (by omega) (by omega)
  refine ⟨l',n2,Ev.step (fun k=>by simp only [spec_l20Story.l0];rfl) ?_,h2,h3,h4,h5⟩
  rw [w64 (x:=m*3) (by omega) (by omega),w64 (by omega) (by omega),show (((d+1:Nat):Int)-1)=(d:Int) by omega]
  exact Ev.yes (by omega) (Ev.bind hc (Ev.yes (by omega) h1'))
theorem l20Story_ev {s:List Int} (hs:Rd s) (m:Int) (hm0:0≤m) (hm:m≤100) : ∃ (p:Int) (l:List S36) (n:Int),Ev (fun k=>spec_l20Story.f k s 0 m) (p,l,n)∧1≤p∧p≤4∧l.length≤7∧SmC l∧0≤n∧n≤20000:=by
 obtain ⟨a,ha,ha0,ha1⟩:=pick_ev hs (p:=0) (by omega) (by omega) 4 (by omega)
 have ha2:=ha1 (by omega)
 obtain ⟨b,hb,hb0,hb1⟩:=pick_ev hs (p:=0+1) (by omega) (by omega) 5 (by omega)
 have hb2:=hb1 (by omega)
 obtain ⟨d,rfl⟩:=Int.eq_ofNat_of_zero_le hb0
 obtain ⟨l,n,h1,h2,h3,h4,h5⟩:=story_l0 hs m (1+a) hm0 hm (by omega) d [] (0+1+1) (by simp;omega) (fun c hc=>by cases hc) (by omega) (by omega)
 refine ⟨1+a,l,n,?_,by omega,by omega,h2,h3,h4,h5⟩
 unfold spec_l20Story.f
 refine Ev.bind ha (Ev.bind hb ?_)
 simp only [w64 (x:=1+a) (by omega) (by omega)]
 exact h1
theorem Tm.good_four {p:Int} (hp:p≤4) : ∀ a:Tm,a.good p→a.good 4
 | .tell i,h=>by have h':(i:Int)<p:=h;show (i:Int)<4;omega
 | .cnt n,h=>by have h':(n:Int)≤p+1:=h;show (n:Int)≤4+1;omega
 | .neg a,h=>good_four hp a h
 | .bin o a b,h=>⟨h.1,good_four hp a h.2.1,good_four hp b h.2.2⟩
open Classical in
/-- The tree of a row of marks. -/
noncomputable def tree (t:List M):Tm:=if h : ∃ a:Tm,a.good 4∧t=a.post then Classical.choose h else .tell 0
theorem tree_post {a:Tm} (h:a.good 4):(tree a.post).good 4∧a.post=(tree a.post).post:=by
 have h' : ∃ b:Tm,b.good 4∧a.post=b.post:=⟨a,h,rfl⟩
 unfold tree
 rw [dif_pos h']
 exact Classical.choose_spec h'
/-- Whether a row of marks holds in a world. -/
noncomputable def hv (t:List M) (w:Nat):Bool:=(tree t).ev w
theorem hv_post {a:Tm} (h:a.good 4) (hl:a.post.length≤500) {w:Nat} (hw:w<16):hv a.post w=a.ev w:=by
 obtain ⟨h1,h2⟩:=tree_post h
 have e1:=impl_holds_ev (by decide) hw h hl
 have e2:=impl_holds_ev (by decide) hw h1 (by rw [←h2];exact hl)
 rw [←h2] at e2
 exact Ev.uniq e2 e1
theorem tok_tree {p:Int} {t:List M} (h:tok p t=true) : ∃ a:Tm,a.good p∧t=a.post∧a.good 4∧t.length≤15:=by
 obtain ⟨a,h1,h2⟩:=parse h
 obtain ⟨_,h3,_,h4,_⟩:=tok_iff.1 h
 exact ⟨a,h1,h2,a.good_four h3 h1,h4⟩
theorem impl_holds_hv {p:Int} {t:List M} (h:tok p t=true) {w:Nat} (hw:w<16):Ev (fun k=>impl_holds.f k t (w:Int)) (hv t w):=by
 obtain ⟨a,_,rfl,h4,hl⟩:=tok_tree h
 rw [hv_post h4 (by omega) hw]
 exact impl_holds_ev (by decide) hw h4 (by omega)
theorem spec_holds_hv {p:Int} {t:List M} (h:tok p t=true) {w:Nat} (hw:w<16):Ev (fun k=>spec_l3Holds.f k t (w:Int)) (hv t w):=by
 obtain ⟨a,_,rfl,h4,hl⟩:=tok_tree h
 rw [hv_post h4 (by omega) hw]
 exact l3Holds_ev (by decide) hw a h4 (by omega)
/-- Whether a claim may be made in a world. -/
noncomputable def may (i:Int) (t:List M) (w:Nat):Bool:=hv t w==w.testBit i.toNat
/-- The worlds below n in which P holds, as bits. -/
def tabL (P:Nat→Bool):Nat→Nat
 | 0=>0
 | n+1=>tabL P n ||| (if P n=true then 2^n else 0)
theorem tabL_bit (P:Nat→Bool) : ∀ n w,(tabL P n).testBit w=(decide (w<n)&&P w)
 | 0,w=>by simp [tabL]
 | n+1,w=>by
  rw [tabL,Nat.testBit_or,tabL_bit P n w]
  by_cases e:w=n
  ·subst e
   by_cases h:P w=true
   ·rw [if_pos h,Nat.testBit_two_pow_self,h];simp
   ·rw [if_neg h,Nat.zero_testBit];simp at h;simp [h]
  ·have h1:(if P n=true then 2^n else 0).testBit w=false:=by
    by_cases h:P n=true
    ·rw [if_pos h,Nat.testBit_two_pow];simp;omega
    ·rw [if_neg h,Nat.zero_testBit]
   rw [h1,Bool.or_false]
   congr 1
   exact decide_eq_decide.mpr (by omega)
theorem lt_of_bits {x n:Nat} (h : ∀ w,n≤w→x.testBit w=false):x<2^n:=Nat.lt_pow_two_of_testBit x (fun w hw=>h w hw)
theorem tabL_lt (P:Nat→Bool) (n:Nat):tabL P n<2^n:=lt_of_bits (fun w hw=>by rw [tabL_bit];simp;omega)
theorem tabL_congr {P Q:Nat→Bool} {n:Nat} (h : ∀ w,w<n→P w=Q w):tabL P n=tabL Q n:=by
 apply Nat.eq_of_testBit_eq
 intro w
 rw [tabL_bit,tabL_bit]
 by_cases hw:w<n
 ·rw [h w hw]
 ·simp [hw]
theorem tabL_inj {P Q:Nat→Bool} {n:Nat} (h:tabL P n=tabL Q n) : ∀ w,w<n→P w=Q w:=by
 intro w hw
 have:=tabL_bit P n w
 rw [h,tabL_bit] at this
 simpa [hw] using this.symm
theorem tabL_mono {P:Nat→Bool} {n:Nat} (hn:n≤16):tabL P n<65536:=by
 have:=tabL_lt P n
 have h:(2:Nat)^n≤2^16:=Nat.pow_le_pow_right (by decide) hn
 omega
theorem wrap_i64_small (n:Int) (h0:0≤n) (h1:n<2^32):IntKind.i64.wrap n=n:=by rw [IntKind.wrap_i64];omega
theorem or_nat {a b:Nat} (ha:a<2^32) (hb:b<2^32):Go.bits .or .i64 (a:Int) (b:Int)=((a ||| b:Nat):Int):=(bits_nat .i64 32 (by decide) wrap_i64_small a b ha hb).2
theorem and_nat {a b:Nat} (ha:a<2^32) (hb:b<2^32):Go.bits .and .i64 (a:Int) (b:Int)=((a &&& b:Nat):Int):=(bits_nat .i64 32 (by decide) wrap_i64_small a b ha hb).1
theorem shl_fin : ∀ i:Fin 31,shl .i64 1 ((i.val:Nat):Int)=((2^i.val:Nat):Int):=by decide +kernel
theorem shl_nat {i:Nat} (hi:i<31):shl .i64 1 (i:Int)=((2^i:Nat):Int):=shl_fin ⟨i,hi⟩
theorem or_step {P:Nat→Bool} {i:Nat} (hi:i<16) (h:P i=true):Go.bits .or .i64 ((tabL P i:Nat):Int) (shl .i64 1 (i:Int))=((tabL P (i+1):Nat):Int):=by
 have h1:=tabL_lt P i
 have h2:(2:Nat)^i<2^16:=Nat.pow_lt_pow_right (by decide) hi
 rw [shl_nat (by omega),or_nat (by omega) (by omega),tabL,if_pos h]
theorem not_step {P:Nat→Bool} {i:Nat} (h : ¬ P i=true):tabL P (i+1)=tabL P i:=by rw [tabL,if_neg h,Nat.or_zero]
theorem people_nat {p:Int} (h0:1≤p) (h1:p≤4) : ∃ q:Nat,p=(q:Int)∧1≤q∧q≤4∧2^q≤16∧p.toNat=q:=by
 obtain ⟨q,rfl⟩:=Int.eq_ofNat_of_zero_le (show 0≤p by omega)
 refine ⟨q,rfl,by omega,by omega,?_,by simp⟩
 have:(2:Nat)^q≤2^4:=Nat.pow_le_pow_right (by decide) (by omega)
 omega
theorem tableBy_l0 {F:Nat→Int→Option Bool} {P:Nat→Bool} {n:Nat} (hn:n≤16) (hF : ∀ w:Nat,w<n→Ev (fun k=>F k (w:Int)) (P w)) : ∀ d i,d+i=n →
  Ev (fun k=>impl_tableBy.l0 F k ((tabL P i:Nat):Int) (n:Int) (i:Int)) ((tabL P n:Nat):Int):=by
 intro d
 induction d with
 | zero =>
  intro i hi
  rw [Nat.zero_add] at hi
  subst hi
  exact Ev.step (fun k=>by simp only [impl_tableBy.l0];rfl) (Ev.no (by omega) (Ev.some _))
 | succ d ih =>
  intro i hi
  refine Ev.step (fun k=>by simp only [impl_tableBy.l0];rfl) ?_
  refine Ev.yes (by omega) (Ev.bind (hF i (by omega)) ?_)
  rw [w64 (by omega) (by omega),show ((i:Int)+1)=((i+1:Nat):Int) by omega]
  by_cases h:P i=true
  ·refine Ev.yes h (Ev.yes (by omega) ?_)
   rw [or_step (by omega) h]
   exact ih (i+1) (by omega)
  ·refine Ev.no h ?_
   have:=ih (i+1) (by omega)
   rwa [not_step h] at this
theorem tableBy_ev {F:Nat→Int→Option Bool} {P:Nat→Bool} {q:Nat} (hq:q≤4) (hF : ∀ w:Nat,w<2^q→Ev (fun k=>F k (w:Int)) (P w)):Ev (fun k=>impl_tableBy.f F k (q:Int)) ((tabL P (2^q):Nat):Int):=by
 unfold impl_tableBy.f
 refine Ev.yes (by omega) ?_
 rw [shl_nat (by omega)]
 have h16:(2:Nat)^q≤2^4:=Nat.pow_le_pow_right (by decide) hq
 exact tableBy_l0 (by omega) hF (2^q) 0 (by omega)
/-- A claim by one of so many people. -/
def clok (p i:Int) (t:List M):Bool:=decide (0≤i∧i<p)&&(tok p t&&decide (t.length≤13))
theorem clok_iff {p i:Int} {t:List M}:clok p i t=true ↔ 0≤i∧i<p∧tok p t=true∧t.length≤13:=by
 unfold clok
 simp only [Bool.and_eq_true,decide_eq_true_eq]
 exact ⟨fun h=>⟨h.1.1,h.1.2,h.2.1,h.2.2⟩,fun h=>⟨⟨h.1,h.2.1⟩,h.2.2.1,h.2.2.2⟩⟩
theorem clok_false {p i:Int} {t:List M} (h : ¬ (0≤i∧i<p∧tok p t=true∧t.length≤13)):false=clok p i t:=by
 cases e:clok p i t with
 | false=>rfl
 | true=>exact absurd (clok_iff.1 e) h
theorem impl_ClaimOk_ev (p i:Int) (t:List M):Ev (fun k=>impl_ClaimOk.f k p i t) (clok p i t):=by
 unfold impl_ClaimOk.f
 simp only [peopleOk_eq,Option.bind_some]
 by_cases h0:1≤p∧p≤4
 ·refine Ev.yes (decide_eq_true h0) ?_
  by_cases h1:i≥0
  ·refine Ev.yes h1 ?_
   by_cases h2:i<p
   ·refine Ev.yes h2 (Ev.bind (impl_TermOk_ev p t) ?_)
    by_cases h3:tok p t=true
    ·refine Ev.yes h3 (Ev.cast (Ev.some _) ?_)
     by_cases h4:t.length≤13
     ·rw [clok_iff.2 ⟨h1,h2,h3,h4⟩];exact decide_eq_true (by omega)
     ·rw [←clok_false (fun h=>h4 h.2.2.2)];exact decide_eq_false (by omega)
    ·exact Ev.no h3 (Ev.cast (Ev.some _) (clok_false (fun h=>h3 h.2.2.1)))
   ·exact Ev.no h2 (Ev.cast (Ev.some _) (clok_false (fun h=>h2 h.2.1)))
  ·exact Ev.no h1 (Ev.cast (Ev.some _) (clok_false (fun h=>h1 h.1)))
 ·refine Ev.no (by simpa using h0) (Ev.cast (Ev.some _) (clok_false (fun h=>h0 ?_)))
  have:=tok_iff.1 h.2.2.1
  omega
theorem spec_ClaimOk_ev (p i:Int) (t:List M) (hl:t.length≤4611686018427387904) (hw : ∀ m∈t,m.f1≤9223372036854775807):Ev (fun k=>spec_ClaimOk.f k p i t) (clok p i t):=by
 unfold spec_ClaimOk.f
 by_cases h1:i≥0
 ·refine Ev.yes h1 ?_
  by_cases h2:i<p
  ·refine Ev.yes h2 (Ev.bind (spec_TermOk_ev p t hl hw) ?_)
   by_cases h3:tok p t=true
   ·refine Ev.yes h3 (Ev.cast (Ev.some _) ?_)
    by_cases h4:t.length≤13
    ·rw [clok_iff.2 ⟨h1,h2,h3,h4⟩];exact decide_eq_true (by omega)
    ·rw [←clok_false (fun h=>h4 h.2.2.2)];exact decide_eq_false (by omega)
   ·exact Ev.no h3 (Ev.cast (Ev.some _) (clok_false (fun h=>h3 h.2.2.1)))
  ·exact Ev.no h2 (Ev.cast (Ev.some _) (clok_false (fun h=>h2 h.2.1)))
 ·exact Ev.no h1 (Ev.cast (Ev.some _) (clok_false (fun h=>h1 h.1)))
theorem impl_maySay_ev {p i:Int} {t:List M} (h:clok p i t=true) {w:Nat} (hw:w<16):Ev (fun k=>impl_maySay.f k i t (w:Int)) (may i t w):=by
 obtain ⟨h0,h1,h2,_⟩:=clok_iff.1 h
 have h4:=(tok_iff.1 h2).2.1
 obtain ⟨j,rfl⟩:=Int.eq_ofNat_of_zero_le h0
 unfold impl_maySay.f
 refine Ev.bind (impl_holds_hv h2 hw) (Ev.yes h0 (Ev.cast (Ev.some _) ?_))
 rw [bit_and' hw (show j<4 by omega)]
 rfl
/-- The table of a claim. -/
noncomputable def ctab (p i:Int) (t:List M):Nat:=tabL (may i t) (2^p.toNat)
theorem impl_ClaimTable_ev (p i:Int) (t:List M):Ev (fun k=>impl_ClaimTable.f k p i t) (if clok p i t=true then ((ctab p i t:Nat):Int) else -1):=by
 unfold impl_ClaimTable.f
 refine Ev.bind (impl_ClaimOk_ev p i t) ?_
 by_cases h:clok p i t=true
 ·rw [if_pos h]
  refine Ev.yes h ?_
  obtain ⟨hp0,hp1,_⟩:=tok_iff.1 (clok_iff.1 h).2.2.1
  obtain ⟨q,rfl,_,hq,hq2,_⟩:=people_nat hp0 hp1
  exact tableBy_ev hq (fun w hw=>impl_maySay_ev h (by omega))
 ·rw [if_neg h]
  exact Ev.no h (Ev.some _)
abbrev C:=S36
theorem rdC_at (pre:List C) (c:C) (suf:List C):rd_T36 (pre++c :: suf) ((pre.length:Nat):Int)=c:=by
 unfold rd_T36
 simp [List.getD]
/-- A story of so many people. -/
def sok (p:Int) (l:List C):Bool:=l.all (fun c=>clok p c.f0 c.f1)&&decide (1≤p∧p≤4∧l.length≤6)
theorem sok_iff {p:Int} {l:List C}:sok p l=true ↔ (∀ c∈l,clok p c.f0 c.f1=true)∧1≤p∧p≤4∧l.length≤6:=by
 unfold sok
 rw [Bool.and_eq_true,List.all_eq_true,decide_eq_true_eq]
theorem impl_StoryOk_l0 {p:Int} {l:List C} (hl:l.length≤4611686018427387904) : ∀ (suf pre:List C),l=pre++suf →
  Ev (fun k=>impl_StoryOk.l0 k p l l ((l.length:Nat):Int) ((pre.length:Nat):Int)) (suf.all (fun c=>clok p c.f0 c.f1)&&decide (1≤p∧p≤4∧l.length≤6)):=by
 intro suf
 induction suf with
 | nil =>
  intro pre he
  have hle:l.length=pre.length:=by rw [he];simp
  refine Ev.step (fun k=>by simp only [impl_StoryOk.l0];rfl) ?_
  refine Ev.no (by omega) ?_
  simp only [peopleOk_eq,Option.bind_some,List.all_nil,Bool.true_and]
  by_cases h:1≤p∧p≤4
  ·refine Ev.yes (decide_eq_true h) (Ev.cast (Ev.some _) ?_)
   exact decide_eq_decide.mpr (by omega)
  ·refine Ev.no (by simpa using h) (Ev.cast (Ev.some _) ?_)
   exact (decide_eq_false (fun hh=>h ⟨hh.1,hh.2.1⟩)).symm
 | cons c t ih =>
  intro pre he
  have hle:l.length=pre.length+(t.length+1):=by rw [he];simp
  have hc:rd_T36 l ((pre.length:Nat):Int)=c:=by rw [he];exact rdC_at pre c t
  refine Ev.step (fun k=>by simp only [impl_StoryOk.l0];rfl) ?_
  rw [hc,w64 (by omega) (by omega),show (((pre.length:Nat):Int)+1)=(((pre++[c]).length:Nat):Int) by simp]
  refine Ev.yes (by omega) (Ev.yes (by omega) (Ev.yes (by omega) (Ev.bind (impl_ClaimOk_ev p c.f0 c.f1) ?_)))
  by_cases h:clok p c.f0 c.f1=true
  ·exact Ev.yes h (Ev.cast (ih (pre++[c]) (by rw [he];simp)) (by rw [List.all_cons,h,Bool.true_and]))
  ·rw [Bool.not_eq_true] at h
   rw [h]
   exact Ev.no (by simp) (Ev.cast (Ev.some _) (by rw [List.all_cons,h];simp))
theorem impl_StoryOk_ev (p:Int) (l:List C) (hl:l.length≤4611686018427387904):Ev (fun k=>impl_StoryOk.f k p l) (sok p l):=by
 unfold impl_StoryOk.f
 exact impl_StoryOk_l0 hl l [] rfl
/-- All worlds, as bits. -/
def fullT (q:Nat):Nat:=2^(2^q)-1
theorem full_eq {q:Nat} (h1:1≤q) (h4:q≤4):wrap64 (shl .i64 1 (shl .u64 1 (q:Int))-1)=((fullT q:Nat):Int):=by
 have : ∀ q:Fin 5,1≤q.val→wrap64 (shl .i64 1 (shl .u64 1 ((q.val:Nat):Int))-1)=((fullT q.val:Nat):Int):=by decide +kernel
 exact this ⟨q,by omega⟩ h1
theorem full_lt {q:Nat} (h4:q≤4):fullT q<65536:=by
 have:(2:Nat)^q≤2^4:=Nat.pow_le_pow_right (by decide) h4
 have h2:(2:Nat)^(2^q)≤2^16:=Nat.pow_le_pow_right (by decide) (by omega)
 unfold fullT
 omega
/-- The table of a story, from some worlds on. -/
noncomputable def stabFrom (p:Int):Nat→List C→Nat
 | a,[]=>a
 | a,c :: l=>stabFrom p (a &&& ctab p c.f0 c.f1) l
noncomputable def stab (p:Int) (l:List C):Nat:=stabFrom p (fullT p.toNat) l
theorem and_lt {a b n:Nat} (h:a<n):a &&& b<n:=Nat.lt_of_le_of_lt Nat.and_le_left h
theorem ctab_lt' {p i:Int} {t:List M} (h:clok p i t=true):ctab p i t<65536:=by
 obtain ⟨hp0,hp1,_⟩:=tok_iff.1 (clok_iff.1 h).2.2.1
 obtain ⟨q,rfl,_,hq,hq2,e⟩:=people_nat hp0 hp1
 unfold ctab
 rw [e]
 exact tabL_mono hq2
theorem impl_storyTable_l0 {p:Int} {l:List C} (hl:l.length≤4611686018427387904) : ∀ (suf pre:List C) (a:Nat),l=pre++suf→(∀ c∈suf,clok p c.f0 c.f1=true)→a<65536 →
  Ev (fun k=>impl_storyTable.l0 k p (a:Int) l ((l.length:Nat):Int) ((pre.length:Nat):Int)) ((stabFrom p a suf:Nat):Int):=by
 intro suf
 induction suf with
 | nil =>
  intro pre a he _ _
  have hle:l.length=pre.length:=by rw [he];simp
  exact Ev.step (fun k=>by simp only [impl_storyTable.l0];rfl) (Ev.no (by omega) (Ev.some _))
 | cons c t ih =>
  intro pre a he hc0 ha
  have hle:l.length=pre.length+(t.length+1):=by rw [he];simp
  have hc:rd_T36 l ((pre.length:Nat):Int)=c:=by rw [he];exact rdC_at pre c t
  have hk:=hc0 c (by simp)
  refine Ev.step (fun k=>by simp only [impl_storyTable.l0];rfl) ?_
  rw [hc,w64 (by omega) (by omega),show (((pre.length:Nat):Int)+1)=(((pre++[c]).length:Nat):Int) by simp]
  refine Ev.yes (by omega) (Ev.yes (by omega) (Ev.yes (by omega) (Ev.bind (impl_ClaimTable_ev p c.f0 c.f1) ?_)))
  rw [if_pos hk]
  have hb:=ctab_lt' hk
  rw [and_nat (by omega) (by omega)]
  exact ih (pre++[c]) _ (by rw [he];simp) (fun x hx=>hc0 x (List.mem_cons_of_mem _ hx)) (and_lt ha)
theorem impl_storyTable_ev {p:Int} {l:List C} (h:sok p l=true):Ev (fun k=>impl_storyTable.f k p l) ((stab p l:Nat):Int):=by
 obtain ⟨h1,hp0,hp1,h6⟩:=sok_iff.1 h
 obtain ⟨q,rfl,hq1,hq,hq2,e⟩:=people_nat hp0 hp1
 unfold impl_storyTable.f stab
 rw [full_eq hq1 hq,e]
 exact Ev.yes (by omega) (impl_storyTable_l0 (by omega) l [] _ rfl h1 (full_lt hq))
theorem spec_may_ev {p i:Int} {t:List M} (h2:tok p t=true) (h0:0≤i) (h1:i<p) {w:Nat} (hw:w<16):Ev (fun k=>spec_l4May.f k i t (w:Int)) (may i t w):=by
 have h4:=(tok_iff.1 h2).2.1
 obtain ⟨j,rfl⟩:=Int.eq_ofNat_of_zero_le h0
 unfold spec_l4May.f
 refine Ev.yes h0 (Ev.bind (spec_holds_hv h2 hw) (Ev.cast (Ev.some _) ?_))
 rw [bit_mod' hw (show j<4 by omega)]
 unfold may
 exact Bool.beq_comm
theorem spec_l4May_ev {p i:Int} {t:List M} (h:clok p i t=true) {w:Nat} (hw:w<16):Ev (fun k=>spec_l4May.f k i t (w:Int)) (may i t w):=by
 obtain ⟨h0,h1,h2,_⟩:=clok_iff.1 h
 exact spec_may_ev h2 h0 h1 hw
theorem l4Table_l0 {q:Nat} {i:Int} {t:List M} (hq:q≤4) (hq2:2^q≤16) (h:clok (q:Int) i t=true) : ∀ d j,d+j=2^q →
  Ev (fun k=>spec_l4Table.l0 k (q:Int) ((tabL (may i t) j:Nat):Int) (j:Int) i t) ((tabL (may i t) (2^q):Nat):Int):=by
 intro d
 induction d with
 | zero =>
  intro j hj
  rw [Nat.zero_add] at hj
  refine Ev.step (fun k=>by simp only [spec_l4Table.l0];rfl) ?_
  rw [shl_nat (by omega)]
  refine Ev.yes (by omega) (Ev.no (by omega) (Ev.cast (Ev.some _) ?_))
  rw [hj]
 | succ d ih =>
  intro j hj
  refine Ev.step (fun k=>by simp only [spec_l4Table.l0];rfl) ?_
  rw [shl_nat (by omega)]
  refine Ev.yes (by omega) (Ev.yes (by omega) (Ev.bind (spec_l4May_ev h (by omega)) ?_))
  rw [w64 (by omega) (by omega),show ((j:Int)+1)=((j+1:Nat):Int) by omega]
  by_cases hb:may i t j=true
  ·refine Ev.yes hb (Ev.yes (by omega) ?_)
   rw [or_step (by omega) hb]
   exact ih (j+1) (by omega)
  ·refine Ev.no hb ?_
   have:=ih (j+1) (by omega)
   rwa [not_step hb] at this
theorem spec_l4Table_ev {p i:Int} {t:List M} (h:clok p i t=true):Ev (fun k=>spec_l4Table.f k p i t) ((ctab p i t:Nat):Int):=by
 unfold spec_l4Table.f
 obtain ⟨hp0,hp1,_⟩:=tok_iff.1 (clok_iff.1 h).2.2.1
 obtain ⟨q,rfl,_,hq,hq2,_⟩:=people_nat hp0 hp1
 exact l4Table_l0 hq hq2 h (2^q) 0 (by omega)
/-- Small enough for the reference's tests. -/
def Fit (l:List C):Prop:=∀ c∈l,c.f1.length≤4611686018427387904 ∧ ∀ m∈c.f1,m.f1≤9223372036854775807
theorem spec_StoryOk_l0 {p:Int} {l:List C} (hl:l.length≤4611686018427387904) : ∀ (suf pre:List C),l=pre++suf→Fit suf →
  Ev (fun k=>spec_StoryOk.l0 k p l ((pre.length:Nat):Int)) (suf.all (fun c=>clok p c.f0 c.f1)&&decide (1≤p∧p≤4∧l.length≤6)):=by
 intro suf
 induction suf with
 | nil =>
  intro pre he _
  have hle:l.length=pre.length:=by rw [he];simp
  refine Ev.step (fun k=>by simp only [spec_StoryOk.l0];rfl) ?_
  refine Ev.no (by omega) ?_
  simp only [l1In_eq,Option.bind_some,List.all_nil,Bool.true_and]
  by_cases h:1≤p∧p≤4
  ·refine Ev.yes (decide_eq_true h) (Ev.cast (Ev.some _) ?_)
   exact decide_eq_decide.mpr (by omega)
  ·refine Ev.no (by simpa using h) (Ev.cast (Ev.some _) ?_)
   exact (decide_eq_false (fun hh=>h ⟨hh.1,hh.2.1⟩)).symm
 | cons c t ih =>
  intro pre he hf
  have hle:l.length=pre.length+(t.length+1):=by rw [he];simp
  have hc:rd_T36 l ((pre.length:Nat):Int)=c:=by rw [he];exact rdC_at pre c t
  have hfc:=hf c (by simp)
  refine Ev.step (fun k=>by simp only [spec_StoryOk.l0];rfl) ?_
  rw [hc,w64 (by omega) (by omega),show (((pre.length:Nat):Int)+1)=(((pre++[c]).length:Nat):Int) by simp]
  refine Ev.yes (by omega) (Ev.yes (by omega) (Ev.bind (spec_ClaimOk_ev p c.f0 c.f1 hfc.1 hfc.2) ?_))
  by_cases h:clok p c.f0 c.f1=true
  ·exact Ev.yes h (Ev.cast (ih (pre++[c]) (by rw [he];simp) (fun x hx=>hf x (List.mem_cons_of_mem _ hx))) (by rw [List.all_cons,h,Bool.true_and]))
  ·rw [Bool.not_eq_true] at h
   rw [h]
   exact Ev.no (by simp) (Ev.cast (Ev.some _) (by rw [List.all_cons,h];simp))
theorem spec_StoryOk_ev (p:Int) (l:List C) (hl:l.length≤4611686018427387904) (hf:Fit l):Ev (fun k=>spec_StoryOk.f k p l) (sok p l):=by
 unfold spec_StoryOk.f
 exact spec_StoryOk_l0 hl l [] rfl hf
theorem spec_l4Story_l0 {p:Int} {l:List C} (hl:l.length≤4611686018427387904) : ∀ (suf pre:List C) (a:Nat),l=pre++suf→(∀ c∈suf,clok p c.f0 c.f1=true)→a<65536 →
  Ev (fun k=>spec_l4Story.l0 k p l (a:Int) ((pre.length:Nat):Int)) ((stabFrom p a suf:Nat):Int):=by
 intro suf
 induction suf with
 | nil =>
  intro pre a he _ _
  have hle:l.length=pre.length:=by rw [he];simp
  exact Ev.step (fun k=>by simp only [spec_l4Story.l0];rfl) (Ev.no (by omega) (Ev.some _))
 | cons c t ih =>
  intro pre a he hc0 ha
  have hle:l.length=pre.length+(t.length+1):=by rw [he];simp
  have hc:rd_T36 l ((pre.length:Nat):Int)=c:=by rw [he];exact rdC_at pre c t
  have hk:=hc0 c (by simp)
  refine Ev.step (fun k=>by simp only [spec_l4Story.l0];rfl) ?_
  rw [hc,w64 (by omega) (by omega),show (((pre.length:Nat):Int)+1)=(((pre++[c]).length:Nat):Int) by simp]
  refine Ev.yes (by omega) (Ev.yes (by omega) (Ev.bind (spec_l4Table_ev hk) ?_))
  have hb:=ctab_lt' hk
  rw [and_nat (by omega) (by omega)]
  exact ih (pre++[c]) _ (by rw [he];simp) (fun x hx=>hc0 x (List.mem_cons_of_mem _ hx)) (and_lt ha)
theorem spec_l4Story_ev {p:Int} {l:List C} (h:sok p l=true):Ev (fun k=>spec_l4Story.f k p l) ((stab p l:Nat):Int):=by
 obtain ⟨h1,hp0,hp1,h6⟩:=sok_iff.1 h
 obtain ⟨q,rfl,hq1,hq,hq2,e⟩:=people_nat hp0 hp1
 unfold spec_l4Story.f stab
 rw [full_eq hq1 hq,e]
 exact Ev.yes (by omega) (spec_l4Story_l0 (by omega) l [] _ rfl h1 (full_lt hq))
theorem DrawNeedlessClaims_ev {l:List Int} (hw : ∀ x∈l,(Lit.int .u8 x).wf=true) : ∃ (p:Int) (c:List S36),Ev (fun k=>spec_DrawNeedlessClaims.f k l) (p,c)∧1≤p∧p≤4∧c.length≤7∧SmC c:=by
 obtain ⟨s,hs,ho⟩:=open_eq hw
 obtain ⟨p,c,n,h,h1,h2,h3,h4,_⟩:=l20Story_ev hs 12 (by omega) (by omega)
 refine ⟨p,c,?_,h1,h2,h3,h4⟩
 unfold spec_DrawNeedlessClaims.f
 rw [ho]
 simp only [Option.bind_some]
 exact Ev.bind h (Ev.some _)
theorem SmC.fitN {c:List S36} (h:SmC c):Fit c:=fun x hx=>⟨by have:=(h x hx).1;omega,(h x hx).2.wf⟩
/-- All claims may be made in a world. -/
noncomputable def allMay (l:List C) (w:Nat):Bool:=l.all (fun c=>may c.f0 c.f1 w)
theorem allMay_sub {a b:List C} {w:Nat} (h : ∀ x∈a,x∈b) (hb:allMay b w=true):allMay a w=true:=by
 unfold allMay at hb ⊢
 rw [List.all_eq_true] at hb ⊢
 exact fun x hx=>hb x (h x hx)
theorem full_bit (q w:Nat):(fullT q).testBit w=decide (w<2^q):=by unfold fullT;rw [Nat.testBit_two_pow_sub_one]
theorem stabFrom_bits {p:Int} : ∀ (l:List C) (a w:Nat),(stabFrom p a l).testBit w=(a.testBit w&&l.all (fun c=>(ctab p c.f0 c.f1).testBit w))
 | [],a,w=>by simp [stabFrom]
 | c :: l,a,w=>by rw [stabFrom,stabFrom_bits l,Nat.testBit_and,List.all_cons,Bool.and_assoc]
theorem stab_tab (p:Int) (l:List C):stab p l=tabL (allMay l) (2^p.toNat):=by
 apply Nat.eq_of_testBit_eq
 intro w
 rw [stab,stabFrom_bits,full_bit,tabL_bit]
 by_cases h:w<2^p.toNat
 ·rw [decide_eq_true h,Bool.true_and,Bool.true_and]
  unfold allMay
  induction l with
  | nil=>rfl
  | cons c l ih=>rw [List.all_cons,List.all_cons,ih,ctab,tabL_bit,decide_eq_true h,Bool.true_and]
 ·rw [decide_eq_false h,Bool.false_and,Bool.false_and]
theorem stab_eq {p:Int} {a b:List C}:stab p a=stab p b ↔ ∀ w,w<2^p.toNat→allMay a w=allMay b w:=by
 rw [stab_tab,stab_tab]
 exact ⟨tabL_inj,tabL_congr⟩
/-- A story without the claim at a place. -/
def dropAt (l:List C) (i:Nat):List C:=l.take i++l.drop (i+1)
theorem dropAt_length {l:List C} {i:Nat} (h:i<l.length):(dropAt l i).length+1=l.length:=by
 unfold dropAt
 rw [List.length_append,lT,lD]
 omega
theorem dropAt_sub (l:List C) (i:Nat) : ∀ x∈dropAt l i,x∈l:=by
 intro x hx
 rcases List.mem_append.1 hx with hx|hx
 ·exact List.mem_of_mem_take hx
 ·exact List.mem_of_mem_drop hx
theorem sok_sub {p:Int} {a b:List C} (h : ∀ x∈a,x∈b) (hl:a.length≤b.length) (hb:sok p b=true):sok p a=true:=by
 obtain ⟨h1,h2,h3,h4⟩:=sok_iff.1 hb
 exact sok_iff.2 ⟨fun c hc=>h1 c (h c hc),h2,h3,by omega⟩
theorem sok_dropAt {p:Int} {l:List C} {i:Nat} (hs:sok p l=true):sok p (dropAt l i)=true :=
 sok_sub (dropAt_sub l i) (by unfold dropAt;rw [List.length_append,lT,lD];omega) hs
/-- The places of the needless claims. -/
noncomputable def needFrom (p:Int) (l:List C):Nat→Nat→List Int→List Int
 | 0,_,acc=>acc
 | d+1,i,acc=>needFrom p l d (i+1) (if stab p (dropAt l i)=stab p l then acc++[(i:Int)] else acc)
theorem needFrom_len (p:Int) (l:List C) : ∀ (d i:Nat) (acc:List Int),(needFrom p l d i acc).length≤acc.length+d
 | 0,_,_=>Nat.le_refl _
 | d+1,i,acc=>by
  rw [needFrom]
  have:=needFrom_len p l d (i+1) (if stab p (dropAt l i)=stab p l then acc++[(i:Int)] else acc)
  have h2:(if stab p (dropAt l i)=stab p l then acc++[(i:Int)] else acc).length≤acc.length+1:=by split<;>simp
  omega
noncomputable def needOf (p:Int) (l:List C):List Int:=if sok p l=true then needFrom p l l.length 0 [] else []
theorem cloneC_eq (u:List C) (h:u.length≤1000000):impl_Claim.f u=some u:=by
 unfold impl_Claim.f
 simp only [Option.bind_some,List.length_nil,List.nil_append]
 rw [if_pos (by omega)]
theorem impl_without_eq (l:List C) {i:Nat} (hi:i<l.length) (hl:l.length≤1000000):impl_without.f l (i:Int)=some (dropAt l i):=by
 unfold impl_without.f
 have h1:(0:Int)≤(i:Int):=by omega
 have h2:(i:Int)≤(l.length:Int):=by omega
 have h3:wrap64 ((i:Int)+1)=(i:Int)+1:=w64 (by omega) (by omega)
 have h4:(0:Int)≤(i:Int)+1:=by omega
 have h5:(i:Int)+1≤(l.length:Int):=by omega
 have h6:((i:Int)+1).toNat=i+1:=by omega
 have h7:(l.take i).length+(l.drop (i+1)).length<4398046511104:=by rw [lT,lD];omega
 have h8:impl_Claim.f (l.take i)=some (l.take i):=cloneC_eq _ (by rw [lT];omega)
 simp only [h3,h6,Int.toNat_natCast,if_pos h1,if_pos h2,if_pos h4,if_pos h5,h8,Option.bind_some,if_pos h7]
 rfl
theorem impl_Need_l {p:Int} {l:List C} (hs:sok p l=true) : ∀ (d i:Nat) (acc:List Int),d+i=l.length→acc.length≤i →
  Ev (fun k=>impl_NeedlessClaims.l0 k p l acc (l.length:Int) (i:Int)) (needFrom p l d i acc):=by
 have h6:=(sok_iff.1 hs).2.2.2
 intro d
 induction d with
 | zero=>intro i acc hd _;exact Ev.step (fun k=>by simp only [impl_NeedlessClaims.l0];rfl) (Ev.no (by omega) (Ev.some _))
 | succ d ih =>
  intro i acc hd ha
  refine Ev.step (fun k=>by simp only [impl_NeedlessClaims.l0];rfl) (Ev.yes (by omega) ?_)
  rw [impl_without_eq l (by omega) (by omega),w64 (by omega) (by omega),show ((i:Int)+1)=((i+1:Nat):Int) by omega,needFrom]
  simp only [Option.bind_some]
  refine Ev.bind (impl_storyTable_ev (sok_dropAt hs)) (Ev.bind (impl_storyTable_ev hs) ?_)
  by_cases h:stab p (dropAt l i)=stab p l
  ·rw [if_pos h]
   exact Ev.yes (by rw [h]) (Ev.yes (by omega) (ih (i+1) _ (by omega) (by simp;omega)))
  ·rw [if_neg h]
   exact Ev.no (by omega) (ih (i+1) acc (by omega) (by omega))
theorem impl_Need_ev (p:Int) (l:List C) (hl:l.length≤4611686018427387904):Ev (fun k=>impl_NeedlessClaims.f k p l) (needOf p l):=by
 unfold impl_NeedlessClaims.f needOf
 refine Ev.bind (impl_StoryOk_ev p l hl) ?_
 by_cases hs:sok p l=true
 ·rw [if_pos hs]
  exact Ev.yes hs (impl_Need_l hs l.length 0 [] (Nat.add_zero _) (Nat.le_refl _))
 ·rw [if_neg hs]
  exact Ev.no hs (Ev.some _)
theorem spec_without_eq (l:List C) {i:Nat} (hi:i<l.length) (hl:l.length≤1000000):spec_l5Without.f l (i:Int)=some (dropAt l i):=by
 unfold spec_l5Without.f
 have h1:(0:Int)≤(i:Int):=by omega
 have h2:(i:Int)≤(l.length:Int):=by omega
 have h3:wrap64 ((i:Int)+1)=(i:Int)+1:=w64 (by omega) (by omega)
 have h4:(0:Int)≤(i:Int)+1:=by omega
 have h5:(i:Int)+1≤(l.length:Int):=by omega
 have h6:((i:Int)+1).toNat=i+1:=by omega
 have h7:(l.take i).length+(l.drop (i+1)).length<4398046511104:=by rw [lT,lD];omega
 have h8:0+(l.take i).length<4398046511104:=by rw [lT];omega
 simp only [h3,h6,Int.toNat_natCast,Option.bind_some,List.length_nil,List.nil_append,if_pos h1,if_pos h2,if_pos h4,if_pos h5,if_pos h8,if_pos h7]
 rfl
theorem spec_Need_l {p:Int} {l:List C} (hs:sok p l=true) (hf:Fit l) : ∀ (d i:Nat) (acc:List Int),d+i=l.length→acc.length≤i →
  Ev (fun k=>spec_NeedlessClaims.l0 k p l acc (i:Int)) (needFrom p l d i acc):=by
 have h6:=(sok_iff.1 hs).2.2.2
 intro d
 induction d with
 | zero =>
  intro i acc hd _
  refine Ev.step (fun k=>by simp only [spec_NeedlessClaims.l0];rfl) (Ev.no (by omega) ?_)
  refine Ev.step (fun k=>by simp only [spec_NeedlessClaims.j1];rfl) ?_
  exact Ev.no (by simp) (Ev.some _)
 | succ d ih =>
  intro i acc hd ha
  refine Ev.step (fun k=>by simp only [spec_NeedlessClaims.l0];rfl) (Ev.yes (by omega) (Ev.bind (spec_StoryOk_ev p l (by omega) hf) ?_))
  rw [hs]
  refine Ev.step (fun k=>by simp only [spec_NeedlessClaims.j1];rfl) ?_
  rw [spec_without_eq l (by omega) (by omega),w64 (by omega) (by omega),show ((i:Int)+1)=((i+1:Nat):Int) by omega,needFrom]
  simp only [Option.bind_some]
  refine Ev.yes trivial (Ev.bind (spec_l4Story_ev (sok_dropAt hs)) (Ev.bind (spec_l4Story_ev hs) ?_))
  by_cases h:stab p (dropAt l i)=stab p l
  ·rw [if_pos h]
   exact Ev.yes (by rw [h]) (Ev.yes (by omega) (ih (i+1) _ (by omega) (by simp;omega)))
  ·rw [if_neg h]
   exact Ev.no (by omega) (ih (i+1) acc (by omega) (by omega))
theorem spec_Need_ev (p:Int) (l:List C) (hl:l.length≤4611686018427387904) (hf:Fit l):Ev (fun k=>spec_NeedlessClaims.f k p l) (needOf p l):=by
 unfold spec_NeedlessClaims.f needOf
 by_cases hs:sok p l=true
 ·rw [if_pos hs]
  exact spec_Need_l hs hf l.length 0 [] (Nat.add_zero _) (Nat.le_refl _)
 ·rw [if_neg hs]
  have hs':sok p l=false:=Bool.eq_false_iff.2 hs
  have out:Ev (fun k=>spec_NeedlessClaims.j1 k p l [] 0 false) []:=by
   refine Ev.step (fun k=>by simp only [spec_NeedlessClaims.j1];rfl) ?_
   exact Ev.no (by simp) (Ev.some _)
  refine Ev.step (fun k=>by simp only [spec_NeedlessClaims.l0];rfl) ?_
  by_cases h0:(0:Int)<(l.length:Int)
  ·refine Ev.yes h0 (Ev.bind (spec_StoryOk_ev p l hl hf) ?_)
   rw [hs']
   exact out
  ·exact Ev.no h0 out
theorem need_mem {p:Int} {l:List C} {x:Int} : ∀ (d i:Nat) (acc:List Int),x∈needFrom p l d i acc ↔ x∈acc ∨ ∃ j:Nat,i≤j∧j<i+d∧x=(j:Int)∧stab p (dropAt l j)=stab p l
 | 0,i,acc=>by
  rw [needFrom]
  constructor
  ·exact .inl
  ·rintro (h|⟨j,h1,h2,_⟩)
   ·exact h
   ·omega
 | d+1,i,acc=>by
  rw [needFrom,need_mem d (i+1)]
  constructor
  ·rintro (h|⟨j,h1,h2,h3,h4⟩)
   ·by_cases e:stab p (dropAt l i)=stab p l
    ·rw [if_pos e] at h
     rcases List.mem_append.1 h with h|h
     ·exact .inl h
     ·exact .inr ⟨i,by omega,by omega,List.mem_singleton.1 h,e⟩
    ·rw [if_neg e] at h;exact .inl h
   ·exact .inr ⟨j,by omega,by omega,h3,h4⟩
  ·rintro (h|⟨j,h1,h2,h3,h4⟩)
   ·refine .inl ?_
    split
    ·exact List.mem_append_left _ h
    ·exact h
   ·by_cases e:j=i
    ·subst e
     refine .inl ?_
     rw [if_pos h4,h3]
     simp
    ·exact .inr ⟨j,by omega,by omega,h3,h4⟩
theorem need_asc {p:Int} {l:List C} : ∀ (d i:Nat) (acc:List Int),acc.Pairwise (· < ·)→(∀ x∈acc,x<(i:Int))→(needFrom p l d i acc).Pairwise (· < ·)
 | 0,_,_,h,_=>h
 | d+1,i,acc,h,hi=>by
  rw [needFrom]
  by_cases e:stab p (dropAt l i)=stab p l
  ·rw [if_pos e]
   refine need_asc d (i+1) _ (List.pairwise_append.2 ⟨h,by simp,fun a ha b hb=>?_⟩) (fun x hx=>?_)
   ·rw [List.mem_singleton.1 hb];exact hi a ha
   ·rcases List.mem_append.1 hx with hx|hx
    ·have:=hi x hx;omega
    ·rw [List.mem_singleton.1 hx];omega
  ·rw [if_neg e]
   exact need_asc d (i+1) acc h (fun x hx=>by have:=hi x hx;omega)
/-- A story's worlds are those of the set of its claims. -/
theorem stab_same {p:Int} {a b:List C} (h1 : ∀ x∈a,x∈b) (h2 : ∀ x∈b,x∈a):stab p a=stab p b:=by
 rw [stab_eq]
 intro w _
 cases ha:allMay a w with
 | true=>exact (allMay_sub h2 ha).symm
 | false =>
  cases hb:allMay b w with
  | false=>rfl
  | true=>rw [allMay_sub h1 hb] at ha;cases ha
theorem impl_StoryTable_ev (p:Int) (l:List C) (hl:l.length≤4611686018427387904):Ev (fun k=>impl_StoryTable.f k p l) (if sok p l=true then ((stab p l:Nat):Int) else -1):=by
 unfold impl_StoryTable.f
 refine Ev.bind (impl_StoryOk_ev p l hl) ?_
 by_cases h:sok p l=true
 ·rw [if_pos h]
  exact Ev.yes h (Ev.bind (impl_storyTable_ev h) (Ev.some _))
 ·rw [if_neg h]
  exact Ev.no h (Ev.some _)
theorem alive_eq':laws_alive.f=some true:=by decide +kernel
end Go.Proofs.Ytpampekijfjlkab.L
