/- Joined by a program of this session's: LDC, LDCC, LH, LTB, LDMY, LW, X18, LTY, LO, X19, LCB, LMY, LSM, LMYS, LOB, X75, LTR, LHW, LDEN, LMR, LMRI, LSAB. -/
import Derived.Test.YtpampekijfjlkabG884ba293af
import Derived.Test.YtpampekijfjlkabG5ff050bb90
import Derived.Test.YtpampekijfjlkabG338a3a8524
import Derived.Laws.BitsLemmas
import Derived.Test.YtpampekijfjlkabGf66b3cdfb9
import Derived.Test.YtpampekijfjlkabG44e43c9cff
import Derived.Test.YtpampekijfjlkabGb8887b9914
import Derived.Test.YtpampekijfjlkabG1cea3182f4

/- Drawn claims. -/
namespace Go.Proofs.Ytpampekijfjlkab.L
open Go.RowKit Go.Proofs.Ytpampekijfjlkab.X Go.Proofs.YtpampekijfjlkabW.PrintWords Go.Proofs.YtpampekijfjlkabW.PrintLast Go.Proofs.YtpampekijfjlkabW.PrintMore
open Go.Proofs.YtpampekijfjlkabW.PrintWords renaming Aside0.mk → mA, pw_below_drewN → bN, below_drew1 → bD, below_alloc → bA, blk_cell → kC, blk_frozen → kF, below_size → bZ, below_step → bT, Kd.R_alloc → rA, Kd.R_drewN → rN, Kd.R_drew → rD, Kd.C_alloc → cA, Kd.C_drewN → cN, Kd.C_drew → cD
open List renaming map_toArray → mT, map_cons → mC, map_nil → mN
theorem l20Claim_ev {s:List Int} (hs:Rd s) {n:Int} (h0:0≤n) (h1:n≤500000) (P m:Int) (hP:P≤1000) (hm0 : -1000≤m) (hm:m≤400) :
  ∃ (i:Int) (t:List M) (n':Int),Ev (fun k=>spec_l20Claim.f k s n P m) (i,t,n') ∧ -1≤i∧i≤1000∧t.length≤16∧Sm t∧n≤n'∧n'≤n+100:=by
 have hmx:1≤mx P 1∧mx P 1≤1000:=by unfold mx;split<;>omega
 obtain ⟨a,ha,ha0,ha1⟩:=pick_ev hs (p:=n) (by omega) (by omega) (mx P 1) (by omega)
 have ha2:=ha1 (by omega)
 obtain ⟨t,p',ht,h2,h3,h4,h5⟩:=l20Term_ev hs (p:=n+1) (by omega) (by omega) P (m*2) (by omega)
 obtain ⟨b,p2,hb,hb0,hb1⟩:=odd_ev hs (p:=p') (by omega) (by omega) m (by omega)
 cases b with
 | false =>
  refine ⟨a,t,p2,?_,by omega,by omega,h2,h3,by omega,by omega⟩
  unfold spec_l20Claim.f
  simp only [w64 (x:=m*2) (by omega) (by omega)]
  exact Ev.bind ha (Ev.bind ht (Ev.bind hb (Ev.no (by simp) (Ev.some _))))
 | true =>
  obtain ⟨c,hc,hc0,hc1⟩:=pick_ev hs (p:=p2) (by omega) (by omega) 2 (by omega)
  have hc2:=hc1 (by omega)
  refine ⟨rd [-1,4] c,t,p2+1,?_,?_,?_,h2,h3,by omega,by omega⟩
  ·unfold spec_l20Claim.f
   simp only [w64 (x:=m*2) (by omega) (by omega),Option.bind_some]
   exact Ev.bind ha (Ev.bind ht (Ev.bind hb (Ev.yes rfl (Ev.bind hc (Ev.yes hc0 (Ev.yes (by simpa using hc2) (Ev.some _)))))))
  ·obtain rfl|rfl:c=0∨c=1:=by omega
   ·decide
   ·decide
  ·obtain rfl|rfl:c=0∨c=1:=by omega
   ·decide
   ·decide
theorem l20Claimed_ev {s:List Int} (hs:Rd s) (m:Int) (hm0 : -1000≤m) (hm:m≤400) : ∃ (p i:Int) (t:List M) (n:Int),Ev (fun k=>spec_l20Claimed.f k s 0 m) (p,i,t,n)∧1≤p∧p≤4 ∧ -1≤i∧i≤1000∧t.length≤16∧Sm t∧0≤n∧n≤1000:=by
 obtain ⟨a,ha,ha0,ha1⟩:=pick_ev hs (p:=0) (by omega) (by omega) 4 (by omega)
 have ha2:=ha1 (by omega)
 obtain ⟨i,t,n',h,h2,h3,h4,h5,h6,h7⟩:=l20Claim_ev hs (n:=0+1) (by omega) (by omega) (1+a) m (by omega) hm0 hm
 refine ⟨1+a,i,t,n',?_,by omega,by omega,h2,h3,h4,h5,by omega,by omega⟩
 unfold spec_l20Claimed.f
 refine Ev.bind ha ?_
 simp only [w64 (x:=1+a) (by omega) (by omega)]
 exact Ev.bind h (Ev.some _)
theorem Tm.good_four {p:Int} (hp:p≤4) : ∀ a:Tm,a.good p→a.good 4
 | .tell i,h=>by have h':(i:Int)<p:=h;show (i:Int)<4;omega
 | .cnt n,h=>by have h':(n:Int)≤p+1:=h;show (n:Int)≤4+1;omega
 | .neg a,h=>good_four hp a h
 | .bin o a b,h=>⟨h.1,good_four hp a h.2.1,good_four hp b h.2.2⟩
open Classical in
/-- The tree of a row of marks. -/
noncomputable def tree (t:List M):Tm:=if h : ∃ a:Tm,a.good 4∧t=a.post then Classical.choose h else .tell 0
theorem tree_post {a:Tm} (h:a.good 4):(tree a.post).good 4∧a.post=(tree a.post).post:=by
 have h' : ∃ b:Tm,b.good 4∧a.post=b.post:=⟨a,h,rfl⟩
 unfold tree
 rw [dif_pos h']
 exact Classical.choose_spec h'
/-- Whether a row of marks holds in a world. -/
noncomputable def hv (t:List M) (w:Nat):Bool:=(tree t).ev w
theorem hv_post {a:Tm} (h:a.good 4) (hl:a.post.length≤500) {w:Nat} (hw:w<16):hv a.post w=a.ev w:=by
 obtain ⟨h1,h2⟩:=tree_post h
 have e1:=impl_holds_ev (by decide) hw h hl
 have e2:=impl_holds_ev (by decide) hw h1 (by rw [←h2];exact hl)
 rw [←h2] at e2
 exact Ev.uniq e2 e1
theorem tok_tree {p:Int} {t:List M} (h:tok p t=true) : ∃ a:Tm,a.good p∧t=a.post∧a.good 4∧t.length≤15:=by
 obtain ⟨a,h1,h2⟩:=parse h
 obtain ⟨_,h3,_,h4,_⟩:=tok_iff.1 h
 exact ⟨a,h1,h2,a.good_four h3 h1,h4⟩
theorem impl_holds_hv {p:Int} {t:List M} (h:tok p t=true) {w:Nat} (hw:w<16):Ev (fun k=>impl_holds.f k t (w:Int)) (hv t w):=by
 obtain ⟨a,_,rfl,h4,hl⟩:=tok_tree h
 rw [hv_post h4 (by omega) hw]
 exact impl_holds_ev (by decide) hw h4 (by omega)
theorem spec_holds_hv {p:Int} {t:List M} (h:tok p t=true) {w:Nat} (hw:w<16):Ev (fun k=>spec_l3Holds.f k t (w:Int)) (hv t w):=by
 obtain ⟨a,_,rfl,h4,hl⟩:=tok_tree h
 rw [hv_post h4 (by omega) hw]
 exact l3Holds_ev (by decide) hw a h4 (by omega)
/-- Whether a claim may be made in a world. -/
noncomputable def may (i:Int) (t:List M) (w:Nat):Bool:=hv t w==w.testBit i.toNat
/-- The worlds below n in which P holds, as bits. -/
def tabL (P:Nat→Bool):Nat→Nat
 | 0=>0
 | n+1=>tabL P n ||| (if P n=true then 2^n else 0)
theorem tabL_bit (P:Nat→Bool) : ∀ n w,(tabL P n).testBit w=(decide (w<n)&&P w)
 | 0,w=>by simp [tabL]
 | n+1,w=>by
  rw [tabL,Nat.testBit_or,tabL_bit P n w]
  by_cases e:w=n
  ·subst e
   by_cases h:P w=true
   ·rw [if_pos h,Nat.testBit_two_pow_self,h];simp
   ·rw [if_neg h,Nat.zero_testBit];simp at h;simp [h]
  ·have h1:(if P n=true then 2^n else 0).testBit w=false:=by
    by_cases h:P n=true
    ·rw [if_pos h,Nat.testBit_two_pow];simp;omega
    ·rw [if_neg h,Nat.zero_testBit]
   rw [h1,Bool.or_false]
   congr 1
   exact decide_eq_decide.mpr (by omega)
theorem lt_of_bits {x n:Nat} (h : ∀ w,n≤w→x.testBit w=false):x<2^n:=Nat.lt_pow_two_of_testBit x (fun w hw=>h w hw)
theorem tabL_lt (P:Nat→Bool) (n:Nat):tabL P n<2^n:=lt_of_bits (fun w hw=>by rw [tabL_bit];simp;omega)
theorem tabL_mono {P:Nat→Bool} {n:Nat} (hn:n≤16):tabL P n<65536:=by
 have:=tabL_lt P n
 have h:(2:Nat)^n≤2^16:=Nat.pow_le_pow_right (by decide) hn
 omega
theorem wrap_i64_small (n:Int) (h0:0≤n) (h1:n<2^32):IntKind.i64.wrap n=n:=by rw [IntKind.wrap_i64];omega
theorem or_nat {a b:Nat} (ha:a<2^32) (hb:b<2^32):Go.bits .or .i64 (a:Int) (b:Int)=((a ||| b:Nat):Int):=(bits_nat .i64 32 (by decide) wrap_i64_small a b ha hb).2
theorem and_nat {a b:Nat} (ha:a<2^32) (hb:b<2^32):Go.bits .and .i64 (a:Int) (b:Int)=((a &&& b:Nat):Int):=(bits_nat .i64 32 (by decide) wrap_i64_small a b ha hb).1
theorem shl_fin : ∀ i:Fin 31,shl .i64 1 ((i.val:Nat):Int)=((2^i.val:Nat):Int):=by decide +kernel
theorem shl_nat {i:Nat} (hi:i<31):shl .i64 1 (i:Int)=((2^i:Nat):Int):=shl_fin ⟨i,hi⟩
theorem or_step {P:Nat→Bool} {i:Nat} (hi:i<16) (h:P i=true):Go.bits .or .i64 ((tabL P i:Nat):Int) (shl .i64 1 (i:Int))=((tabL P (i+1):Nat):Int):=by
 have h1:=tabL_lt P i
 have h2:(2:Nat)^i<2^16:=Nat.pow_lt_pow_right (by decide) hi
 rw [shl_nat (by omega),or_nat (by omega) (by omega),tabL,if_pos h]
theorem not_step {P:Nat→Bool} {i:Nat} (h : ¬ P i=true):tabL P (i+1)=tabL P i:=by rw [tabL,if_neg h,Nat.or_zero]
theorem people_nat {p:Int} (h0:1≤p) (h1:p≤4) : ∃ q:Nat,p=(q:Int)∧1≤q∧q≤4∧2^q≤16∧p.toNat=q:=by
 obtain ⟨q,rfl⟩:=Int.eq_ofNat_of_zero_le (show 0≤p by omega)
 refine ⟨q,rfl,by omega,by omega,?_,by simp⟩
 have:(2:Nat)^q≤2^4:=Nat.pow_le_pow_right (by decide) (by omega)
 omega
theorem DrawMaySay_ev {l:List Int} (hw : ∀ x∈l,(Lit.int .u8 x).wf=true) : ∃ (p i:Int) (t:List M) (w:Int),Ev (fun k=>spec_DrawMaySay.f k l) (p,i,t,w)∧1≤p∧p≤4 ∧ -1≤i∧i≤1000∧t.length≤16∧Sm t:=by
 obtain ⟨s,hs,ho⟩:=open_eq hw
 obtain ⟨p,i,t,n,h,h1,h2,h3,h4,h5,h6,h7,h8⟩:=l20Claimed_ev hs 14 (by omega) (by omega)
 obtain ⟨q,rfl,hq1,hq4,hq2,e⟩:=people_nat h1 h2
 obtain ⟨a,ha,ha0,ha1⟩:=pick_ev hs (p:=n) h7 (by omega) ((2^q:Nat):Int) (by omega)
 obtain ⟨b,hb,hb0,hb1⟩:=pick_ev hs (p:=n+1) (by omega) (by omega) 40 (by omega)
 refine ⟨(q:Int),i,t,wrap64 (a+(wrap64 ((wrap64 (Int.tdiv b 39))*16))),?_,h1,h2,h3,h4,h5,h6⟩
 unfold spec_DrawMaySay.f
 rw [ho]
 simp only [Option.bind_some]
 refine Ev.bind h (Ev.yes (by omega) ?_)
 rw [shl_nat (by omega)]
 exact Ev.bind ha (Ev.bind hb (Ev.some _))
/-- A world of so many people. -/
def wok (p w:Int):Bool:=decide (1≤p∧p≤4∧0≤w∧w<((2^p.toNat:Nat):Int))
theorem wok_iff {p w:Int}:wok p w=true ↔ 1≤p∧p≤4∧0≤w∧w<((2^p.toNat:Nat):Int):=by unfold wok;simp
theorem wok_nat {p w:Int} (h:wok p w=true) : ∃ v:Nat,w=(v:Int)∧v<16∧v<2^p.toNat:=by
 obtain ⟨h0,h1,h2,h3⟩:=wok_iff.1 h
 obtain ⟨q,rfl,_,_,hq,e⟩:=people_nat h0 h1
 obtain ⟨v,rfl⟩:=Int.eq_ofNat_of_zero_le h2
 rw [e] at h3 ⊢
 exact ⟨v,rfl,by omega,by omega⟩
theorem impl_WorldOk_eq (p w:Int):impl_WorldOk.f p w=some (wok p w):=by
 unfold impl_WorldOk.f
 simp only [peopleOk_eq,Option.bind_some]
 by_cases h:1≤p∧p≤4
 ·obtain ⟨q,rfl,_,hq4,hq,e⟩:=people_nat h.1 h.2
  rw [if_pos (decide_eq_true h)]
  by_cases h0:w≥0
  ·rw [if_pos h0,if_pos (by omega),shl_nat (by omega)]
   congr 1
   unfold wok
   rw [e]
   exact decide_eq_decide.mpr ⟨fun hw=>⟨h.1,h.2,h0,hw⟩,fun hw=>hw.2.2.2⟩
  ·rw [if_neg h0]
   congr 1
   exact (decide_eq_false (fun hw=>h0 hw.2.2.1)).symm
 ·rw [if_neg (by simpa using h)]
  congr 1
  exact (decide_eq_false (fun hw=>h ⟨hw.1,hw.2.1⟩)).symm
theorem spec_WorldOk_eq (p w:Int):spec_WorldOk.f p w=some (wok p w):=by
 unfold spec_WorldOk.f
 simp only [l1In_eq,Option.bind_some]
 by_cases h:1≤p∧p≤4
 ·obtain ⟨q,rfl,_,hq4,hq,e⟩:=people_nat h.1 h.2
  have hpos:1≤2^q:=Nat.one_le_two_pow
  rw [if_pos (decide_eq_true h),if_pos (by omega),shl_nat (by omega),w64 (by omega) (by omega)]
  congr 1
  unfold wok
  rw [e]
  exact decide_eq_decide.mpr ⟨fun hw=>⟨h.1,h.2,hw.1,by omega⟩,fun hw=>⟨hw.2.2.1,by omega⟩⟩
 ·rw [if_neg (by simpa using h)]
  congr 1
  exact (decide_eq_false (fun hw=>h ⟨hw.1,hw.2.1⟩)).symm
end Go.Proofs.Ytpampekijfjlkab.L
namespace Go.Proofs.Ytpampekijfjlkab.X
open Go.RowKit Go.Proofs.YtpampekijfjlkabW.PrintWords Go.Proofs.YtpampekijfjlkabW.PrintLast Go.Proofs.YtpampekijfjlkabW.PrintMore
open Go.Proofs.YtpampekijfjlkabW.PrintWords renaming Aside0.mk → mA, pw_below_drewN → bN, below_drew1 → bD, below_alloc → bA, blk_cell → kC, blk_frozen → kF, below_size → bZ, below_step → bT, Kd.R_alloc → rA, Kd.R_drewN → rN, Kd.R_drew → rD, Kd.C_alloc → cA, Kd.C_drewN → cN, Kd.C_drew → cD
open List renaming map_toArray → mT, map_cons → mC, map_nil → mN
attribute [local go_sem] max2_int min2_int max_two min_two max_three min_three max_four min_four   -- for this text's walks alone
set_option linter.unusedVariables false
set_option linter.unusedSimpArgs false
/-! ### impl_tableBy: function 116, over any function value -/
def impl_tableBy.l0 (F:Nat→Int→Option Bool):Nat→Int→Int→Int→Option (Int)
 | 0,_,_,_=>none
 | k+1,x5,x8,x9=>if x9<x8 then ((F k x9).bind fun t308=>(if t308=true then (if 0≤x9 then (impl_tableBy.l0 F k (Go.bits .or .i64 x5 (shl .i64 1 x9)) x8 (wrap64 (x9+1))) else (none)) else (impl_tableBy.l0 F k x5 x8 (wrap64 (x9+1))))) else (some x5)
def impl_tableBy.f (F:Nat→Int→Option Bool) (k:Nat) (a0:Int):Option (Int):=if 0≤a0 then (impl_tableBy.l0 F k 0 (shl .i64 1 a0) 0) else (none)
theorem impl_tableBy.mono_l {F:Nat→Int→Option Bool} (hF : ∀ k x,LeO (F k x) (F (k+1) x)) : ∀ k,(∀ y0 y1 y2,LeO (impl_tableBy.l0 F k y0 y1 y2) (impl_tableBy.l0 F (k+1) y0 y1 y2))
 | 0=>fun _ _ _ r h=>by simp [impl_tableBy.l0] at h
 | k+1=>by
  have ih0:=impl_tableBy.mono_l hF k
  ·intro y0 y1 y2
   unfold impl_tableBy.l0
   repeat' first
   | (with_reducible exact ih0 _ _ _)
   | (with_reducible exact hF _ _)
   | (with_reducible exact LeO.refl _)
   | (with_reducible exact LeO.none _)
   | (with_reducible refine LeO.ite ?_ ?_)
   | (with_reducible refine LeO.bind ?_ (fun _=>?_))
theorem impl_tableBy.mono {F:Nat→Int→Option Bool} (hF : ∀ k x,LeO (F k x) (F (k+1) x)) (a0:Int) (k:Nat):LeO (impl_tableBy.f F k a0) (impl_tableBy.f F (k+1) a0):=by
 have ih0:=impl_tableBy.mono_l hF k
 unfold impl_tableBy.f
 repeat' first
   | (with_reducible exact ih0 _ _ _)
   | (with_reducible exact LeO.none _)
   | (with_reducible refine LeO.ite ?_ ?_)
set_option maxHeartbeats 8000000 in
set_option maxRecDepth 100000 in
theorem impl_tableBy.calls (F : Nat → Int → Option Bool) {CF : FuncId} {fn : Func} (hf : Try.prog.funcs[CF]? = some fn) (hname : (fn.name == "runtime.NumGoroutine") = false) (hbody : fn.body.isSome = true) (CB : Array Value) (k : Nat) (a0 : Int) (r : Int) (w : World)
  (hF : ∀ (k:Nat) (x:Int) (b:Bool) (W:World),Below w.heap.size w W→F k x=some b→Calls Try.prog CF (#[.int .i64 x]++CB) W fun e w'=>e = .returned (.bool b)∧Below W.heap.size W w')
  (h:impl_tableBy.f F k a0=some r) :
  Calls Try.prog 116 #[.int .i64 a0,.func (.func CF) #[] CB] w fun e w'=>e = .returned (.int .i64 r)∧Below w.heap.size w w':=by
 have hcf : ∀ (args:Array Value) (W:World),(callFunc CF args).run Try.prog W = .ok (.enter CF args) W:=fun args W=>enters_ hf hname hbody args W
 have HB:=mA (Below.refl w.heap.size w)
 have H:(if 0≤a0 then (impl_tableBy.l0 F k 0 (shl .i64 1 a0) 0) else (none))=some r:=h
 clear h
 by_cases c3:0≤a0
 ·rw [if_pos c3] at H
  have c3b0:=eq_true c3
  have c3b1:decide (0≤a0)=true:=decide_eq_true c3
  clear c3
  obtain ⟨ji4,hji4⟩ : ∃ j_:Int,(shl .i64 1 a0)=j_:=⟨_,rfl⟩
  replace H:(impl_tableBy.l0 F k 0 ji4 0)=some r:=by rw [hji4] at H;exact H
  have hji4_:(IntKind.i64.wrap (1*2^min a0.toNat 64))=ji4:=hji4
  have hji4z:a0≤64→(IntKind.i64.wrap (1*2^a0.toNat))=ji4:=shl_small hji4
  have hji4u:(IntKind.i64.wrap (2^min a0.toNat 64))=ji4:=by have h_:=hji4_;rw [Int.one_mul] at h_;exact h_
  have hji4v:a0≤64→(IntKind.i64.wrap (2^a0.toNat))=ji4:=fun hle_=>by have h_:=hji4z hle_;rw [Int.one_mul] at h_;exact h_
  have hji4y:(wrap64 (1*2^min a0.toNat 64))=ji4:=(i64_w _).symm.trans hji4_
  have hji4x:a0≤64→(wrap64 (1*2^a0.toNat))=ji4:=fun h_=>(i64_w _).symm.trans (hji4z h_)
  have H':=mA H
  clear H
  go_enter Try.func116,Try.ntmps116
  go_wp2
  go_loopg [5,9] k (fun kq v5 v9 w'=>∃ (x5_1:Int) (x9_1:Int),v5 = .int .i64 x5_1∧v9 = .int .i64 x9_1∧Aside0 (impl_tableBy.l0 F kq x5_1 ji4 x9_1=some r)∧Aside0 (kq≤k)∧Aside0 (Below w.heap.size w w'))
  case atStart=>exact ⟨(0),(0),(by first|rfl|(simp;done)|(simp [*];done)),(by first|rfl|(simp;done)|(simp [*];done)),H',⟨Nat.le_refl _⟩,⟨(by repeat (first|(with_reducible first|exact HB.out|apply bA|apply bN|apply bD)|exact HB.out))⟩⟩
  case round =>
   clear H'
   try clear c1
   try clear p2
   try clear c3
   try clear c3b0
   try clear c3b1
   obtain ⟨x5_1,x9_1,rfl,rfl,HA,HK1,HB⟩:=hrel
   cases gk with
   | zero=>exact absurd HA.out (by simp [impl_tableBy.l0])
   | succ k1 =>
    have H:=HA.out
    clear HA
    simp only [impl_tableBy.l0] at H
    by_cases c5:x9_1<ji4
    ·rw [if_pos c5] at H
     have c5b0:decide (x9_1<ji4)=true:=decide_eq_true c5
     clear c5
     replace H:=Option.bind_eq_some_iff.mp H
     obtain ⟨t308,A60,H⟩:=H
     replace H:(if t308=true then (if 0≤x9_1 then (impl_tableBy.l0 F k1 (Go.bits .or .i64 x5_1 (shl .i64 1 x9_1)) ji4 (wrap64 (x9_1+1))) else (none)) else (impl_tableBy.l0 F k1 x5_1 ji4 (wrap64 (x9_1+1))))=some r:=H
     have A6:=mA A60
     clear A60
     by_cases c7:t308=true
     ·subst c7
      have H1:(if 0≤x9_1 then (impl_tableBy.l0 F k1 (Go.bits .or .i64 x5_1 (shl .i64 1 x9_1)) ji4 (wrap64 (x9_1+1))) else (none))=some r:=by rw [if_pos rfl] at H;exact H
      clear H
      have H:=H1
      clear H1
      by_cases c8:0≤x9_1
      ·rw [if_pos c8] at H
       have c8b0:=eq_true c8
       have c8b1:decide (0≤x9_1)=true:=decide_eq_true c8
       clear c8
       obtain ⟨ji9,hji9⟩ : ∃ j_:Int,(shl .i64 1 x9_1)=j_:=⟨_,rfl⟩
       replace H:(impl_tableBy.l0 F k1 (Go.bits .or .i64 x5_1 (ji9)) ji4 (wrap64 (x9_1+1)))=some r:=by first|(rw [hji9] at H;exact H)|(simp only [hji9] at H ⊢;exact H)
       have hji9_:(IntKind.i64.wrap (1*2^min x9_1.toNat 64))=ji9:=hji9
       have hji9z:x9_1≤64→(IntKind.i64.wrap (1*2^x9_1.toNat))=ji9:=shl_small hji9
       have hji9u:(IntKind.i64.wrap (2^min x9_1.toNat 64))=ji9:=by have h_:=hji9_;rw [Int.one_mul] at h_;exact h_
       have hji9v:x9_1≤64→(IntKind.i64.wrap (2^x9_1.toNat))=ji9:=fun hle_=>by have h_:=hji9z hle_;rw [Int.one_mul] at h_;exact h_
       have hji9y:(wrap64 (1*2^min x9_1.toNat 64))=ji9:=(i64_w _).symm.trans hji9_
       have hji9x:x9_1≤64→(wrap64 (1*2^x9_1.toNat))=ji9:=fun h_=>(i64_w _).symm.trans (hji9z h_)
       have H':=mA H
       clear H
       go_wp2_with (first|((with_reducible refine (hF k1 x9_1 true _ ?sideB A6.out).mono ?_);(case sideB=>exact (by repeat (first|(with_reducible first|exact HB.out|apply bA|apply bN|apply bD)|exact HB.out)));rintro e w10 ⟨rfl,hb⟩;have n0_:=mA (bT (by repeat (first|(with_reducible first|exact HB.out|apply bA|apply bN|apply bD)|exact HB.out)) hb);clear HB;have HB:=n0_;clear n0_;(try clear hb)))
       go_roundg k1
       case measure=>have:=HK1.out;omega
       case rel=>exact ⟨(Go.bits .or .i64 x5_1 (ji9)),(wrap64 (x9_1+1)),(by first|rfl|(simp;done)|(simp only [←hji9]<;>(first|rfl|simp))|(simp [*];done)),(by first|rfl|(simp;done)|(simp [*];done)),H',⟨by have:=HK1.out;omega⟩,⟨(by repeat (first|(with_reducible first|exact HB.out|apply bA|apply bN|apply bD)|exact HB.out))⟩⟩
      ·rw [if_neg c8] at H
       exact absurd H (by simp)
     ·replace c7:=Bool.eq_false_iff.mpr c7
      subst c7
      have H1:(impl_tableBy.l0 F k1 x5_1 ji4 (wrap64 (x9_1+1)))=some r:=by rw [if_neg (show ¬ (false=true) by decide)] at H;exact H
      clear H
      have H:=H1
      clear H1
      have H':=mA H
      clear H
      go_wp2_with (first|((with_reducible refine (hF k1 x9_1 false _ ?sideB A6.out).mono ?_);(case sideB=>exact (by repeat (first|(with_reducible first|exact HB.out|apply bA|apply bN|apply bD)|exact HB.out)));rintro e w10 ⟨rfl,hb⟩;have n0_:=mA (bT (by repeat (first|(with_reducible first|exact HB.out|apply bA|apply bN|apply bD)|exact HB.out)) hb);clear HB;have HB:=n0_;clear n0_;(try clear hb)))
      go_roundg k1
      case measure=>have:=HK1.out;omega
      case rel=>exact ⟨(x5_1),(wrap64 (x9_1+1)),(by first|rfl|(simp;done)|(simp [*];done)),(by first|rfl|(simp;done)|(simp [*];done)),H',⟨by have:=HK1.out;omega⟩,⟨(by repeat (first|(with_reducible first|exact HB.out|apply bA|apply bN|apply bD)|exact HB.out))⟩⟩
    ·rw [if_neg c5] at H
     have c5b0:decide (x9_1<ji4)=false:=decide_eq_false c5
     clear c5
     obtain rfl:=Option.some.inj H
     go_wp2
     go_ret
     exact ⟨by first|rfl|(simp;done)|(simp only [←hji4];rfl)|(simp [*];done),(by repeat (first|(with_reducible first|exact HB.out|apply bA|apply bN|apply bD)|exact HB.out))⟩
 ·rw [if_neg c3] at H
  exact absurd H (by simp)
end Go.Proofs.Ytpampekijfjlkab.X
/- Plain law of the program's maker of tables. -/
namespace Go.Proofs.Ytpampekijfjlkab.L
open Go.RowKit Go.Proofs.Ytpampekijfjlkab.X Go.Proofs.YtpampekijfjlkabW.PrintWords Go.Proofs.YtpampekijfjlkabW.PrintLast Go.Proofs.YtpampekijfjlkabW.PrintMore
open Go.Proofs.YtpampekijfjlkabW.PrintWords renaming Aside0.mk → mA, pw_below_drewN → bN, below_drew1 → bD, below_alloc → bA, blk_cell → kC, blk_frozen → kF, below_size → bZ, below_step → bT, Kd.R_alloc → rA, Kd.R_drewN → rN, Kd.R_drew → rD, Kd.C_alloc → cA, Kd.C_drewN → cN, Kd.C_drew → cD
open List renaming map_toArray → mT, map_cons → mC, map_nil → mN
theorem tableBy_l0 {F:Nat→Int→Option Bool} {P:Nat→Bool} {n:Nat} (hn:n≤16) (hF : ∀ w:Nat,w<n→Ev (fun k=>F k (w:Int)) (P w)) : ∀ d i,d+i=n →
  Ev (fun k=>impl_tableBy.l0 F k ((tabL P i:Nat):Int) (n:Int) (i:Int)) ((tabL P n:Nat):Int):=by
 intro d
 induction d with
 | zero =>
  intro i hi
  rw [Nat.zero_add] at hi
  subst hi
  exact Ev.step (fun k=>by simp only [impl_tableBy.l0];rfl) (Ev.no (by omega) (Ev.some _))
 | succ d ih =>
  intro i hi
  refine Ev.step (fun k=>by simp only [impl_tableBy.l0];rfl) ?_
  refine Ev.yes (by omega) (Ev.bind (hF i (by omega)) ?_)
  rw [w64 (by omega) (by omega),show ((i:Int)+1)=((i+1:Nat):Int) by omega]
  by_cases h:P i=true
  ·refine Ev.yes h (Ev.yes (by omega) ?_)
   rw [or_step (by omega) h]
   exact ih (i+1) (by omega)
  ·refine Ev.no h ?_
   have:=ih (i+1) (by omega)
   rwa [not_step h] at this
theorem tableBy_ev {F:Nat→Int→Option Bool} {P:Nat→Bool} {q:Nat} (hq:q≤4) (hF : ∀ w:Nat,w<2^q→Ev (fun k=>F k (w:Int)) (P w)):Ev (fun k=>impl_tableBy.f F k (q:Int)) ((tabL P (2^q):Nat):Int):=by
 unfold impl_tableBy.f
 refine Ev.yes (by omega) ?_
 rw [shl_nat (by omega)]
 have h16:(2:Nat)^q≤2^4:=Nat.pow_le_pow_right (by decide) hq
 exact tableBy_l0 (by omega) hF (2^q) 0 (by omega)
/-- A claim by one of so many people. -/
def clok (p i:Int) (t:List M):Bool:=decide (0≤i∧i<p)&&(tok p t&&decide (t.length≤13))
theorem clok_iff {p i:Int} {t:List M}:clok p i t=true ↔ 0≤i∧i<p∧tok p t=true∧t.length≤13:=by
 unfold clok
 simp only [Bool.and_eq_true,decide_eq_true_eq]
 exact ⟨fun h=>⟨h.1.1,h.1.2,h.2.1,h.2.2⟩,fun h=>⟨⟨h.1,h.2.1⟩,h.2.2.1,h.2.2.2⟩⟩
theorem clok_false {p i:Int} {t:List M} (h : ¬ (0≤i∧i<p∧tok p t=true∧t.length≤13)):false=clok p i t:=by
 cases e:clok p i t with
 | false=>rfl
 | true=>exact absurd (clok_iff.1 e) h
theorem impl_ClaimOk_ev (p i:Int) (t:List M):Ev (fun k=>impl_ClaimOk.f k p i t) (clok p i t):=by
 unfold impl_ClaimOk.f
 simp only [peopleOk_eq,Option.bind_some]
 by_cases h0:1≤p∧p≤4
 ·refine Ev.yes (decide_eq_true h0) ?_
  by_cases h1:i≥0
  ·refine Ev.yes h1 ?_
   by_cases h2:i<p
   ·refine Ev.yes h2 (Ev.bind (impl_TermOk_ev p t) ?_)
    by_cases h3:tok p t=true
    ·refine Ev.yes h3 (Ev.cast (Ev.some _) ?_)
     by_cases h4:t.length≤13
     ·rw [clok_iff.2 ⟨h1,h2,h3,h4⟩];exact decide_eq_true (by omega)
     ·rw [←clok_false (fun h=>h4 h.2.2.2)];exact decide_eq_false (by omega)
    ·exact Ev.no h3 (Ev.cast (Ev.some _) (clok_false (fun h=>h3 h.2.2.1)))
   ·exact Ev.no h2 (Ev.cast (Ev.some _) (clok_false (fun h=>h2 h.2.1)))
  ·exact Ev.no h1 (Ev.cast (Ev.some _) (clok_false (fun h=>h1 h.1)))
 ·refine Ev.no (by simpa using h0) (Ev.cast (Ev.some _) (clok_false (fun h=>h0 ?_)))
  have:=tok_iff.1 h.2.2.1
  omega
theorem spec_ClaimOk_ev (p i:Int) (t:List M) (hl:t.length≤4611686018427387904) (hw : ∀ m∈t,m.f1≤9223372036854775807):Ev (fun k=>spec_ClaimOk.f k p i t) (clok p i t):=by
 unfold spec_ClaimOk.f
 by_cases h1:i≥0
 ·refine Ev.yes h1 ?_
  by_cases h2:i<p
  ·refine Ev.yes h2 (Ev.bind (spec_TermOk_ev p t hl hw) ?_)
   by_cases h3:tok p t=true
   ·refine Ev.yes h3 (Ev.cast (Ev.some _) ?_)
    by_cases h4:t.length≤13
    ·rw [clok_iff.2 ⟨h1,h2,h3,h4⟩];exact decide_eq_true (by omega)
    ·rw [←clok_false (fun h=>h4 h.2.2.2)];exact decide_eq_false (by omega)
   ·exact Ev.no h3 (Ev.cast (Ev.some _) (clok_false (fun h=>h3 h.2.2.1)))
  ·exact Ev.no h2 (Ev.cast (Ev.some _) (clok_false (fun h=>h2 h.2.1)))
 ·exact Ev.no h1 (Ev.cast (Ev.some _) (clok_false (fun h=>h1 h.1)))
/-- A claim, and whether it is one. -/
def claimR (p i:Int) (t:List M):Int×List M×Bool:=if clok p i t=true then (i,t,true) else (0,[],false)
end Go.Proofs.Ytpampekijfjlkab.L
namespace Go.Proofs.Ytpampekijfjlkab.X
open Go.RowKit Go.Proofs.YtpampekijfjlkabW.PrintWords Go.Proofs.YtpampekijfjlkabW.PrintLast Go.Proofs.YtpampekijfjlkabW.PrintMore
open Go.Proofs.YtpampekijfjlkabW.PrintWords renaming Aside0.mk → mA, pw_below_drewN → bN, below_drew1 → bD, below_alloc → bA, blk_cell → kC, blk_frozen → kF, below_size → bZ, below_step → bT, Kd.R_alloc → rA, Kd.R_drewN → rN, Kd.R_drew → rD, Kd.C_alloc → cA, Kd.C_drewN → cN, Kd.C_drew → cD
open List renaming map_toArray → mT, map_cons → mC, map_nil → mN
attribute [local go_sem] max2_int min2_int max_two min_two max_three min_three max_four min_four   -- for this text's walks alone
set_option linter.unusedVariables false
set_option linter.unusedSimpArgs false
/-! ### impl_ClaimTable: function 49; what it hands to tableBy: function 117 -/
def impl_ClaimTable.f (k:Nat) (a0:Int) (a1_0:Int) (l1:List (S33)):Option (Int):=(impl_ClaimOk.f k a0 a1_0 l1).bind fun t=>(if t=true then (impl_tableBy.f (fun k_ x_=>impl_maySay.f k_ a1_0 l1 x_) k a0) else (some (-1)))
theorem impl_ClaimTable.mono : ∀ a0 a1_0 l1 k,LeO (impl_ClaimTable.f k a0 a1_0 l1) (impl_ClaimTable.f (k+1) a0 a1_0 l1):=by
 intro a0 a1_0 l1 k
 unfold impl_ClaimTable.f
 refine LeO.bind (impl_ClaimOk.mono _ _ _ _) (fun _=>?_)
 refine LeO.ite ?_ (LeO.refl _)
 exact impl_tableBy.mono (fun k x=>impl_maySay.mono _ _ _ _) _ _
set_option maxHeartbeats 8000000 in
set_option maxRecDepth 100000 in
theorem impl_ClaimTable.calls_1 (k:Nat) (a1_0:Int) (A1:Option Addr) (c1:Nat) (l1:List (S33)) (gb1:Nat) (x:Int) (b:Bool) (w:World) (hg:w.heap[gb1]?=some (.cells #[.int .i64 a1_0,.slice A1 l1.length c1] 36 (0,0))) (hr1:Kd.C k33 w A1 l1.length l1) (hc1:l1.length≤c1) (h:impl_maySay.f k a1_0 l1 x=some b) :
  Calls Try.prog 117 #[.int .i64 x,.pointer (some ⟨gb1,0,none⟩)] w fun e w'=>e = .returned (.bool b)∧Below w.heap.size w w':=by
 have hu36:=Try.underlying36
 have HR1:=mA hr1
 have HC1:=mA hc1
 clear hr1 hc1
 have HB:=mA (Below.refl w.heap.size w)
 have A6:=mA h
 clear h
 have hcz0:w.cell? ⟨gb1,0,none⟩=some (.int .i64 a1_0):=(kC hg 0).trans rfl
 have hfz0:=kF hg 0
 have hcz1:w.cell? ⟨gb1,1,none⟩=some (.slice A1 l1.length c1):=(kC hg 1).trans rfl
 have hfz1:=kF hg 1
 clear hg
 go_enter Try.func117,Try.ntmps117
 go_wp2_with (first|((with_reducible refine gate_callee (f:=105) rfl ?_);refine goesL_ (some 6) rfl rfl Try.func105 (by kernel_rfl) rfl #[.agg #[.int .i64 a1_0,.slice A1 l1.length c1],.int .i64 x] rfl (by (try simp only [mT,mC,mN]);first|done|rfl) ?_;(with_reducible refine (impl_maySay.calls k a1_0 _ _ l1 x b _ ?side1 ?side2 A6.out).mono ?_);(case side1=>repeat (first|exact (Kd.C_below HR1.out HB.out)|(with_reducible refine cA ?_ _)|(with_reducible refine cN ?_ _)|(with_reducible refine cD ?_)));(case side2=>exact HC1.out);  rintro e w12 ⟨rfl,hb⟩;refine ⟨_,rfl,?_⟩;have n0_:=mA (bT (by repeat (first|(with_reducible first|exact HB.out|apply bA|apply bN|apply bD)|exact HB.out)) hb);clear HB;have HB:=n0_;clear n0_;(try clear hb)))
 go_ret
 exact ⟨rfl,(by repeat (first|(with_reducible first|exact HB.out|apply bA|apply bN|apply bD)|exact HB.out))⟩
set_option maxHeartbeats 8000000 in
set_option maxRecDepth 100000 in
theorem impl_ClaimTable.calls (k:Nat) (a0:Int) (a1_0:Int) (A1:Option Addr) (c1:Nat) (l1:List (S33)) (r:Int) (w:World) (hr1:Kd.C k33 w A1 l1.length l1) (hc1:l1.length≤c1) (h:impl_ClaimTable.f k a0 a1_0 l1=some r) :
  Calls Try.prog 49 #[.int .i64 a0,.agg #[.int .i64 a1_0,.slice A1 l1.length c1]] w fun e w'=>e = .returned (.int .i64 r)∧Below w.heap.size w w':=by
 have hu36:=Try.underlying36
 have HR1:=mA hr1
 have HC1:=mA hc1
 clear hr1 hc1
 have HB:=mA (Below.refl w.heap.size w)
 have H:((impl_ClaimOk.f k a0 a1_0 l1).bind fun t=>(if t=true then (impl_tableBy.f (fun k_ x_=>impl_maySay.f k_ a1_0 l1 x_) k a0) else (some (-1))))=some r:=h
 clear h
 obtain ⟨t,A10,H⟩:=Option.bind_eq_some_iff.mp H
 have A1_:=mA A10
 clear A10
 have hmf : ∀ (fn:Fn) (first cap:Array Value) (w:World),(Instr.makeFunc fn first cap).run Try.prog w = .ok (.func fn first cap) w:=fun _ _ _ _=>rfl
 cases t with
 | false =>
  have hr_:r = -1:=by simpa using H.symm
  subst hr_
  clear H
  go_enter Try.func49,Try.ntmps49
  go_wp2_with (first|((with_reducible refine gate_dst (N:=3) rfl ?_);refine box_event ?hg (N:=3) ?hd (cs:=#[.int .i64 a1_0,.slice A1 l1.length c1]) (t:=36) ?hr ?_;(case hd=>rfl);(case hg=>rfl);(case hr=>first|(go_simp;done)|(go_simp;rfl));intro gb1 hg w3 hbox hb;have n0_:=mA (bT (by repeat (first|(with_reducible first|exact HB.out|apply bA|apply bN|apply bD)|exact HB.out)) hb);have n1_:=mA (hbox);clear HB;have HB:=n0_;have BK1:=n1_;clear n0_ n1_ hb hbox hg;have hcz0:w3.cell? ⟨gb1,0,none⟩=some (.int .i64 a1_0):=(kC BK1.out 0).trans rfl;have hfz0:=kF BK1.out 0;have hcz1:w3.cell? ⟨gb1,1,none⟩=some (.slice A1 l1.length c1):=(kC BK1.out 1).trans rfl;have hfz1:=kF BK1.out 1)|((with_reducible refine gate_callee (f:=45) rfl ?_);refine goesL_ (some 7) rfl rfl Try.func45 (by kernel_rfl) rfl #[.int .i64 a0,.agg #[.int .i64 a1_0,.slice A1 l1.length c1]] rfl (by (try simp only [mT,mC,mN]);first|done|rfl) ?_;(with_reducible refine (impl_ClaimOk.calls k a0 a1_0 _ _ l1 false _ ?side1 ?side2 A1_.out).mono ?_);(case side1=>repeat (first|exact (Kd.C_below HR1.out HB.out)|(with_reducible refine cA ?_ _)|(with_reducible refine cN ?_ _)|(with_reducible refine cD ?_)));(case side2=>exact HC1.out);  rintro e w12 ⟨rfl,hb⟩;refine ⟨_,rfl,?_⟩;have m0_:=mA (blk_below BK1.out hb);clear BK1;have BK1:=m0_;clear m0_;have n0_:=mA (bT (by repeat (first|(with_reducible first|exact HB.out|apply bA|apply bN|apply bD)|exact HB.out)) hb);clear HB;have HB:=n0_;clear n0_;(try clear hb)))
  go_ret
  exact ⟨rfl,(by repeat (first|(with_reducible first|exact HB.out|apply bA|apply bN|apply bD)|exact HB.out))⟩
 | true =>
  replace H:=mA (show impl_tableBy.f (fun k_ x_=>impl_maySay.f k_ a1_0 l1 x_) k a0=some r from H)
  go_enter Try.func49,Try.ntmps49
  go_wp2_with (first|((with_reducible refine gate_dst (N:=3) rfl ?_);refine box_event ?hg (N:=3) ?hd (cs:=#[.int .i64 a1_0,.slice A1 l1.length c1]) (t:=36) ?hr ?_;(case hd=>rfl);(case hg=>rfl);(case hr=>first|(go_simp;done)|(go_simp;rfl));intro gb1 hg w3 hbox hb;have n0_:=mA (bT (by repeat (first|(with_reducible first|exact HB.out|apply bA|apply bN|apply bD)|exact HB.out)) hb);have n1_:=mA (hbox);clear HB;have HB:=n0_;have BK1:=n1_;clear n0_ n1_ hb hbox hg;have hcz0:w3.cell? ⟨gb1,0,none⟩=some (.int .i64 a1_0):=(kC BK1.out 0).trans rfl;have hfz0:=kF BK1.out 0;have hcz1:w3.cell? ⟨gb1,1,none⟩=some (.slice A1 l1.length c1):=(kC BK1.out 1).trans rfl;have hfz1:=kF BK1.out 1)|((with_reducible refine gate_callee (f:=45) rfl ?_);refine goesL_ (some 7) rfl rfl Try.func45 (by kernel_rfl) rfl #[.int .i64 a0,.agg #[.int .i64 a1_0,.slice A1 l1.length c1]] rfl (by (try simp only [mT,mC,mN]);first|done|rfl) ?_;(with_reducible refine (impl_ClaimOk.calls k a0 a1_0 _ _ l1 true _ ?side1 ?side2 A1_.out).mono ?_);(case side1=>repeat (first|exact (Kd.C_below HR1.out HB.out)|(with_reducible refine cA ?_ _)|(with_reducible refine cN ?_ _)|(with_reducible refine cD ?_)));(case side2=>exact HC1.out);  rintro e w12 ⟨rfl,hb⟩;refine ⟨_,rfl,?_⟩;have m0_:=mA (blk_below BK1.out hb);clear BK1;have BK1:=m0_;clear m0_;have n0_:=mA (bT (by repeat (first|(with_reducible first|exact HB.out|apply bA|apply bN|apply bD)|exact HB.out)) hb);clear HB;have HB:=n0_;clear n0_;(try clear hb))|((with_reducible refine gate_callee (f:=116) rfl ?_);refine goesL_ (some 11) rfl rfl Try.func116 (by kernel_rfl) rfl #[.int .i64 a0,.func (.func 117) #[] #[.pointer (some ⟨gb1,0,none⟩)]] rfl (by (try simp only [mT,mC,mN]);first|done|rfl) ?_;(with_reducible refine (impl_tableBy.calls (fun k_ x_=>impl_maySay.f k_ a1_0 l1 x_) Try.func117 (by kernel_rfl) rfl #[.pointer (some ⟨gb1,0,none⟩)] k a0 r _ ?hF H.out).mono ?_);(case hF=>exact fun k x b W hb h=>impl_ClaimTable.calls_1 k a1_0 _ _ l1 gb1 x b W (blk_below BK1.out hb) (Kd.C_below (Kd.C_below HR1.out HB.out) hb) HC1.out h);  rintro e w12 ⟨rfl,hb⟩;refine ⟨_,rfl,?_⟩;have n0_:=mA (bT (by repeat (first|(with_reducible first|exact HB.out|apply bA|apply bN|apply bD)|exact HB.out)) hb);clear HB;have HB:=n0_;clear n0_;(try clear hb)))
  go_ret
  exact ⟨rfl,(by repeat (first|(with_reducible first|exact HB.out|apply bA|apply bN|apply bD)|exact HB.out))⟩
end Go.Proofs.Ytpampekijfjlkab.X
/- Plain laws of the tables of claims. -/
namespace Go.Proofs.Ytpampekijfjlkab.L
open Go.RowKit Go.Proofs.Ytpampekijfjlkab.X Go.Proofs.YtpampekijfjlkabW.PrintWords Go.Proofs.YtpampekijfjlkabW.PrintLast Go.Proofs.YtpampekijfjlkabW.PrintMore
open Go.Proofs.YtpampekijfjlkabW.PrintWords renaming Aside0.mk → mA, pw_below_drewN → bN, below_drew1 → bD, below_alloc → bA, blk_cell → kC, blk_frozen → kF, below_size → bZ, below_step → bT, Kd.R_alloc → rA, Kd.R_drewN → rN, Kd.R_drew → rD, Kd.C_alloc → cA, Kd.C_drewN → cN, Kd.C_drew → cD
open List renaming map_toArray → mT, map_cons → mC, map_nil → mN
theorem impl_maySay_ev {p i:Int} {t:List M} (h:clok p i t=true) {w:Nat} (hw:w<16):Ev (fun k=>impl_maySay.f k i t (w:Int)) (may i t w):=by
 obtain ⟨h0,h1,h2,_⟩:=clok_iff.1 h
 have h4:=(tok_iff.1 h2).2.1
 obtain ⟨j,rfl⟩:=Int.eq_ofNat_of_zero_le h0
 unfold impl_maySay.f
 refine Ev.bind (impl_holds_hv h2 hw) (Ev.yes h0 (Ev.cast (Ev.some _) ?_))
 rw [bit_and' hw (show j<4 by omega)]
 rfl
/-- The table of a claim. -/
noncomputable def ctab (p i:Int) (t:List M):Nat:=tabL (may i t) (2^p.toNat)
theorem impl_ClaimTable_ev (p i:Int) (t:List M):Ev (fun k=>impl_ClaimTable.f k p i t) (if clok p i t=true then ((ctab p i t:Nat):Int) else -1):=by
 unfold impl_ClaimTable.f
 refine Ev.bind (impl_ClaimOk_ev p i t) ?_
 by_cases h:clok p i t=true
 ·rw [if_pos h]
  refine Ev.yes h ?_
  obtain ⟨hp0,hp1,_⟩:=tok_iff.1 (clok_iff.1 h).2.2.1
  obtain ⟨q,rfl,_,hq,hq2,_⟩:=people_nat hp0 hp1
  exact tableBy_ev hq (fun w hw=>impl_maySay_ev h (by omega))
 ·rw [if_neg h]
  exact Ev.no h (Ev.some _)
noncomputable def maySay (p i:Int) (t:List M) (w:Int):Bool:=if clok p i t=true∧wok p w=true then may i t w.toNat else false
theorem impl_MaySay_ev (p i:Int) (t:List M) (w:Int):Ev (fun k=>impl_MaySay.f k p i t w) (maySay p i t w):=by
 unfold impl_MaySay.f
 refine Ev.bind (impl_ClaimOk_ev p i t) ?_
 by_cases hk:clok p i t=true
 ·refine Ev.yes hk ?_
  rw [impl_WorldOk_eq]
  simp only [Option.bind_some]
  by_cases hw:wok p w=true
  ·obtain ⟨v,rfl,hv',_⟩:=wok_nat hw
   refine Ev.yes hw (Ev.bind (impl_maySay_ev hk hv') (Ev.cast (Ev.some _) ?_))
   exact (if_pos ⟨hk,hw⟩).symm
  ·exact Ev.no hw (Ev.cast (Ev.some _) (if_neg (fun h=>hw h.2)).symm)
 ·exact Ev.no hk (Ev.cast (Ev.some _) (if_neg (fun h=>hk h.1)).symm)
theorem spec_may_ev {p i:Int} {t:List M} (h2:tok p t=true) (h0:0≤i) (h1:i<p) {w:Nat} (hw:w<16):Ev (fun k=>spec_l4May.f k i t (w:Int)) (may i t w):=by
 have h4:=(tok_iff.1 h2).2.1
 obtain ⟨j,rfl⟩:=Int.eq_ofNat_of_zero_le h0
 unfold spec_l4May.f
 refine Ev.yes h0 (Ev.bind (spec_holds_hv h2 hw) (Ev.cast (Ev.some _) ?_))
 rw [bit_mod' hw (show j<4 by omega)]
 unfold may
 exact Bool.beq_comm
theorem spec_MaySay_ev (p i:Int) (t:List M) (w:Int) (hl:t.length≤4611686018427387904) (hw : ∀ m∈t,m.f1≤9223372036854775807):Ev (fun k=>spec_MaySay.f k p i t w) (maySay p i t w):=by
 unfold spec_MaySay.f
 refine Ev.bind (spec_ClaimOk_ev p i t hl hw) ?_
 by_cases hk:clok p i t=true
 ·refine Ev.yes hk ?_
  rw [spec_WorldOk_eq]
  simp only [Option.bind_some]
  by_cases hw:wok p w=true
  ·obtain ⟨v,rfl,hv',_⟩:=wok_nat hw
   obtain ⟨h0,h1,h2,_⟩:=clok_iff.1 hk
   refine Ev.yes hw (Ev.bind (spec_may_ev h2 h0 h1 hv') (Ev.cast (Ev.some _) ?_))
   exact (if_pos ⟨hk,hw⟩).symm
  ·exact Ev.no hw (Ev.cast (Ev.some _) (if_neg (fun h=>hw h.2)).symm)
 ·exact Ev.no hk (Ev.cast (Ev.some _) (if_neg (fun h=>hk h.1)).symm)
theorem clone_eq' (t:List M) (ht:t.length≤4611686018427):impl_Mark.f t=some t:=by
 unfold impl_Mark.f
 simp only [Option.bind_some,List.length_nil,List.nil_append]
 rw [if_pos (by omega)]
theorem claimBy_ev (p i:Int) (t:List M) (ht:t.length≤4611686018427):Ev (fun k=>impl_claimBy.f k p i t) (claimR p i t):=by
 unfold impl_claimBy.f
 rw [clone_eq' t ht]
 simp only [Option.bind_some]
 refine Ev.bind (impl_ClaimOk_ev p i t) ?_
 by_cases h:clok p i t=true
 ·exact Ev.yes h (Ev.cast (Ev.some _) (if_pos h).symm)
 ·exact Ev.no h (Ev.cast (Ev.some _) (if_neg h).symm)
end Go.Proofs.Ytpampekijfjlkab.L
namespace Go.Proofs.Ytpampekijfjlkab.X
open Go.RowKit Go.Proofs.YtpampekijfjlkabW.PrintWords Go.Proofs.YtpampekijfjlkabW.PrintLast Go.Proofs.YtpampekijfjlkabW.PrintMore
open Go.Proofs.YtpampekijfjlkabW.PrintWords renaming Aside0.mk → mA, pw_below_drewN → bN, below_drew1 → bD, below_alloc → bA, blk_cell → kC, blk_frozen → kF, below_size → bZ, below_step → bT, Kd.R_alloc → rA, Kd.R_drewN → rN, Kd.R_drew → rD, Kd.C_alloc → cA, Kd.C_drewN → cN, Kd.C_drew → cD
open List renaming map_toArray → mT, map_cons → mC, map_nil → mN
attribute [local go_sem] max2_int min2_int max_two min_two max_three min_three max_four min_four   -- for this text's walks alone
set_option linter.unusedVariables false
set_option linter.unusedSimpArgs false
/-! ### impl_trick: function 120 -/
def impl_trick.f (a0:Int) (l1:List (S33)):Option ((List (S33))):=(some (([(⟨0,a0⟩:S33)]:List (S33)):List (S33))).bind fun y101=>(if y101.length+l1.length<8796093022208 then ((some (y101++l1:List (S33))).bind fun y104=>(if y104.length<8796093022208 then (some (y104++[(⟨5,0⟩:S33)])) else (none))) else (none))
set_option maxHeartbeats 8000000 in
set_option maxRecDepth 100000 in
theorem impl_trick.calls (a0:Int) (A1:Option Addr) (c1:Nat) (l1:List (S33)) (r:List (S33)) (w:World) (hr1:Kd.C k33 w A1 l1.length l1) (hc1:l1.length≤c1) (h:impl_trick.f a0 l1=some r) :
  Calls Try.prog 120 #[.int .i64 a0,.slice A1 l1.length c1] w fun e w'=>∃ v0_:Value,e = .returned (v0_)∧Kd.R k33 33 w' w.heap.size (fun _=>True) v0_ r∧Below w.heap.size w w':=by
 have hu33:=Try.underlying33
 have HR1:=mA hr1
 have HC1:=mA hc1
 clear hr1 hc1
 have HB:=mA (Below.refl w.heap.size w)
 have H:((some (([(⟨0,a0⟩:S33)]:List (S33)):List (S33))).bind fun y101=>(if y101.length+l1.length<8796093022208 then ((some (y101++l1:List (S33))).bind fun y104=>(if y104.length<8796093022208 then (some (y104++[(⟨5,0⟩:S33)])) else (none))) else (none)))=some r:=h
 clear h
 obtain ⟨y101,hy101⟩ : ∃ y_:List (S33),y_=(([(⟨0,a0⟩:S33)]:List (S33))):=⟨_,rfl⟩
 replace H:(if y101.length+l1.length<8796093022208 then ((some (y101++l1:List (S33))).bind fun y104=>(if y104.length<8796093022208 then (some (y104++[(⟨5,0⟩:S33)])) else (none))) else (none))=some r:=by first|(rw [hy101];with_reducible exact H)|(have H2_:=(Option.bind_some _ _).symm.trans H;rw [hy101];with_reducible exact H2_)|(have H2_:=(Option.bind_some _ _).symm.trans H;with_reducible exact H2_)|with_reducible exact H|(rw [hy101];exact H)|exact H
 have Ny101:=mA hy101
 clear hy101
 by_cases c3:y101.length+l1.length<8796093022208
 ·rw [if_pos c3] at H
  have LMc3:=mA c3
  clear c3
  obtain ⟨y104,hy104⟩ : ∃ y_:List (S33),y_=(y101++l1):=⟨_,rfl⟩
  replace H:(if y104.length<8796093022208 then (some (y104++[(⟨5,0⟩:S33)])) else (none))=some r:=by first|(rw [hy104];with_reducible exact H)|(have H2_:=(Option.bind_some _ _).symm.trans H;rw [hy104];with_reducible exact H2_)|(have H2_:=(Option.bind_some _ _).symm.trans H;with_reducible exact H2_)|with_reducible exact H|(rw [hy104];exact H)|exact H
  have Ny104:=mA hy104
  clear hy104
  by_cases c4:y104.length<8796093022208
  ·rw [if_pos c4] at H
   have LMc4:=mA c4
   clear c4
   obtain ⟨y107,hy107⟩ : ∃ y_:List (S33),y_=(y104++[(⟨5,0⟩:S33)]):=⟨_,rfl⟩
   replace H:(some y107)=some r:=by first|(rw [hy107];with_reducible exact H)|(have H2_:=(Option.bind_some _ _).symm.trans H;rw [hy107];with_reducible exact H2_)|(have H2_:=(Option.bind_some _ _).symm.trans H;with_reducible exact H2_)|with_reducible exact H|(rw [hy107];exact H)|exact H
   have Ny107:=mA hy107
   clear hy107
   obtain rfl:=Option.some.inj H
   go_enter Try.func120,Try.ntmps120
   go_wp2_with (first|((with_reducible refine gate_dst (N:=8) rfl ?_);refine Kd.R_lit k33 _ 33 ?hg (N:=8) ?hd (xs:=([(⟨0,a0⟩:S33)]:List (S33))) (inner:=[.int .i64 0,.int .i64 a0]) (ok:=fun _=>True) (okp:=fun _=>True) ?hr ?hp (fun _ hk=>hk) trivial (Below.refl _ _) (Nat.le_refl _) (by simp) ?_;(case hd=>rfl);(case hg=>rfl);(case hr=>first|(go_simp;done)|(go_simp;rfl));(case hp=>exact (Reps.c2 (show Kd.M k33 _ _ _ (⟨0,a0⟩:S33) [.int .i64 0,.int .i64 a0] from (k33_mkM _ _ _ (⟨0,a0⟩:S33) )) (Reps.none _ _)));intro v102 w5 ho6 hb hg_ hnew_;clear hg_ hnew_;(first|rw [←Ny101.out] at ho6|(simp only [Int.reduceToNat] at ho6;rw [←Ny101.out] at ho6));have n0_:=mA (Kd.R_lower ho6 (bZ (by repeat (first|(with_reducible first|exact HB.out|apply bA|apply bN|apply bD)|exact HB.out))));have n1_:=mA (bT (by repeat (first|(with_reducible first|exact HB.out|apply bA|apply bN|apply bD)|exact HB.out)) hb);clear HB;have HO103:=n0_;have HB:=n1_;clear n0_ n1_ hb ho6)|((with_reducible refine gate_builtin (b:=.append) (xs:=#[.tmp 8,.tmp 9]) rfl ?_);at_builtin;refine Kd.R_append_rows k33 (w0:=w) w.heap.size rfl (.tmp 8) (.tmp 9) 34 33 (.agg #[(.int .i64 0),(.int .i64 0)]) 16 rfl Try.underlying34 info33 rfl (by decide) (by omega) v102 y101 l1 _ _ _ (fun _=>True) (fun _=>False) rfl rfl ?aO ?aR (fun _ _ h=>h) (fun _ h=>h.elim) ?aF ?aB ?aS ?aL ?_;(case aR=>repeat (first|exact (Kd.C_below HR1.out HB.out)|(with_reducible refine cA ?_ _)|(with_reducible refine cN ?_ _)|(with_reducible refine cD ?_)));(case aB=>exact (by repeat (first|(with_reducible first|exact HB.out|apply bA|apply bN|apply bD)|exact HB.out)));(case aF=>exact (fun _ _=>trivial));(case aO=>exact (by (with_reducible repeat (first|apply rA|apply rN|apply rD));exact HO103.out));(case aS=>exact (bZ (by repeat (first|(with_reducible first|exact HB.out|apply bA|apply bN|apply bD)|exact HB.out))));(case aL=>have:=LMc3.out;omega);intro v105 w7 ho hb hg hat;rw [←Ny104.out] at ho;have n0_:=mA (hb);have n1_:=mA (ho);clear HB HO103;have HB:=n0_;have HO106:=n1_;clear n0_ n1_ ho hb hg hat)|((with_reducible refine gate_builtin (b:=.append) (xs:=#[.tmp 11,.tmp 13]) rfl ?_);at_builtin;refine Kd.R_append k33 (w0:=w) w.heap.size rfl (.tmp 11) (.tmp 13) 34 33 (.agg #[(.int .i64 0),(.int .i64 0)]) 16 rfl Try.underlying34 info33 rfl (by decide) (by omega) v105 y104 (⟨5,0⟩:S33) [.int .i64 5,.int .i64 0] (fun _=>True) (fun _=>False) rfl rfl ?aP (fun _ hk=>hk.elim) ?aF ?aO ?aB ?aS ?aL ?_;(case aP=>exact k33_mkM _ _ _ (⟨5,0⟩:S33));(case aB=>exact (by repeat (first|(with_reducible first|exact HB.out|apply bA|apply bN|apply bD)|exact HB.out)));(case aF=>exact (fun _ _=>trivial));(case aO=>exact (by (with_reducible repeat (first|apply rA|apply rN|apply rD));exact HO106.out));(case aS=>exact (bZ (by repeat (first|(with_reducible first|exact HB.out|apply bA|apply bN|apply bD)|exact HB.out))));(case aL=>have:=LMc4.out;omega);intro v108 w8 ho hb hg hat;rw [←Ny107.out] at ho;have n0_:=mA (hb);have n1_:=mA (ho);clear HB HO106;have HB:=n0_;have HO109:=n1_;clear n0_ n1_ ho hb hg hat))
   go_ret
   exact ⟨_,by first|rfl|(simp [errW_none,errW_some]<;>rfl)|(simp [*, errW_none,errW_some]<;>rfl),by (with_reducible repeat (first|apply rA|apply rN|apply rD));exact HO109.out,by repeat (first|(with_reducible first|exact HB.out|apply bA|apply bN|apply bD)|exact HB.out)⟩
  ·rw [if_neg c4] at H
   exact absurd H (by simp)
 ·rw [if_neg c3] at H
  exact absurd H (by simp)
end Go.Proofs.Ytpampekijfjlkab.X
/- Plain law of the trick: a mark of a person ahead, and the mark of sameness behind. -/
namespace Go.Proofs.Ytpampekijfjlkab.L
open Go.RowKit Go.Proofs.Ytpampekijfjlkab.X Go.Proofs.YtpampekijfjlkabW.PrintWords Go.Proofs.YtpampekijfjlkabW.PrintLast Go.Proofs.YtpampekijfjlkabW.PrintMore
open Go.Proofs.YtpampekijfjlkabW.PrintWords renaming Aside0.mk → mA, pw_below_drewN → bN, below_drew1 → bD, below_alloc → bA, blk_cell → kC, blk_frozen → kF, below_size → bZ, below_step → bT, Kd.R_alloc → rA, Kd.R_drewN → rN, Kd.R_drew → rD, Kd.C_alloc → cA, Kd.C_drewN → cN, Kd.C_drew → cD
open List renaming map_toArray → mT, map_cons → mC, map_nil → mN

theorem hv_not {p:Int} {t:List M} (hk:tok p t=true) {w:Nat} (hw:w<16):hv (t++[⟨2,0⟩]) w = !hv t w:=by
 obtain ⟨a,hg,rfl,h4,hl⟩:=tok_tree hk
 have e:a.post++[⟨2,0⟩]=(Tm.neg a).post:=by simp [Tm.post]
 rw [e,hv_post (a:=.neg a) h4 (by rw [←e];simp;omega) hw,hv_post h4 (by omega) hw]
 simp [Tm.ev]
def denyR (p i:Int) (t:List M):Int×List M×Bool:=if clok p i t=true then claimR p i (t++[⟨2,0⟩]) else (0,[],false)
theorem impl_Deny_ev (p i:Int) (t:List M):Ev (fun k=>impl_DenyClaim.f k p i t) (denyR p i t):=by
 unfold impl_DenyClaim.f
 refine Ev.bind (impl_ClaimOk_ev p i t) ?_
 by_cases h:clok p i t=true
 ·refine Ev.yes h ?_
  have hl:=(clok_iff.1 h).2.2.2
  rw [clone_eq' t (by omega)]
  simp only [Option.bind_some,List.length_cons,List.length_nil]
  refine Ev.yes (by omega) (Ev.bind (claimBy_ev p i (t++[⟨2,0⟩]) (by simp;omega)) (Ev.cast (Ev.some _) ?_))
  exact (if_pos h).symm
 ·exact Ev.no h (Ev.cast (Ev.some _) (if_neg h).symm)
theorem may_not {p i:Int} {t:List M} (h:tok p t=true) {w:Nat} (hw:w<16):may i (t++[⟨2,0⟩]) w = !may i t w:=by
 unfold may
 rw [hv_not h hw]
 cases hv t w<;>cases w.testBit i.toNat<;>rfl
/-- The marks that stand for a mark in the mirrored row. -/
def mirM (p:Int) (m:M):List M:=if m.f0=0 then [m,⟨2,0⟩] else if m.f0=1 then [⟨1,p+1-m.f1⟩,⟨2,0⟩] else [m]
def mirL (p:Int) (t:List M):List M:=t.flatMap (mirM p)
theorem mirL_app (p:Int) (a b:List M):mirL p (a++b)=mirL p a++mirL p b:=by unfold mirL;rw [List.flatMap_append]
theorem mirL_len (p:Int) : ∀ t:List M,(mirL p t).length≤2*t.length
 | []=>by simp [mirL]
 | m :: t=>by
  have ih:=mirL_len p t
  have e:mirL p (m :: t)=mirM p m++mirL p t:=by simp [mirL]
  rw [e,List.length_append,List.length_cons]
  have:(mirM p m).length≤2:=by
   unfold mirM
   split
   ·simp
   ·split<;>simp
  omega
/-- The mirrored tree. -/
def Tm.mir (q:Nat):Tm→Tm
 | .tell i=>.neg (.tell i)
 | .cnt n=>.neg (.cnt (q+1-n))
 | .neg a=>.neg (a.mir q)
 | .bin o a b=>.bin o (a.mir q) (b.mir q)
theorem mir_post {q:Nat} : ∀ a:Tm,a.good (q:Int)→mirL (q:Int) a.post=(a.mir q).post:=by
 intro a
 induction a with
 | tell i=>intro _;simp [mirL,mirM,Tm.post,Tm.mir]
 | cnt n =>
  intro h
  have h':(n:Int)≤(q:Int)+1:=h
  have e:(q:Int)+1-(n:Int)=((q+1-n:Nat):Int):=by omega
  simp [mirL,mirM,Tm.post,Tm.mir,e]
 | neg a ih=>intro h;rw [Tm.post,mirL_app,ih h,Tm.mir,Tm.post];simp [mirL,mirM]
 | bin o a b iha ihb =>
  intro h
  obtain ⟨ho,ha,hb⟩:=h
  rw [Tm.post,mirL_app,mirL_app,iha ha,ihb hb,Tm.mir,Tm.post]
  rcases ho with rfl|rfl|rfl<;>simp [mirL,mirM]
theorem mir_good {q:Nat} : ∀ a:Tm,a.good (q:Int)→(a.mir q).good (q:Int):=by
 intro a
 induction a with
 | tell i=>intro h;exact h
 | cnt n=>intro h;show ((q+1-n:Nat):Int)≤(q:Int)+1;omega
 | neg a ih=>intro h;exact ih h
 | bin o a b iha ihb=>intro h;exact ⟨h.1,iha h.2.1,ihb h.2.2⟩
theorem opp_bits : ∀ q:Fin 5, ∀ w:Fin 16,w.val<2^q.val→(∀ i:Fin 4,i.val<q.val→(2^q.val-1-w.val).testBit i.val = !w.val.testBit i.val)∧popN 4 (2^q.val-1-w.val)+popN 4 w.val=q.val:=by decide +kernel
theorem opp_bit {q w i:Nat} (hq:q≤4) (hw:w<2^q) (hi:i<q):(2^q-1-w).testBit i = !w.testBit i:=by
 have h16:(2:Nat)^q≤2^4:=Nat.pow_le_pow_right (by decide) hq
 exact (opp_bits ⟨q,by omega⟩ ⟨w,by omega⟩ hw).1 ⟨i,by omega⟩ hi
theorem opp_pop {q w:Nat} (hq:q≤4) (hw:w<2^q):popN 4 (2^q-1-w)+popN 4 w=q:=by
 have h16:(2:Nat)^q≤2^4:=Nat.pow_le_pow_right (by decide) hq
 exact (opp_bits ⟨q,by omega⟩ ⟨w,by omega⟩ hw).2
theorem mir_ev {q w:Nat} (hq:q≤4) (hw:w<2^q) : ∀ a:Tm,a.good (q:Int)→(a.mir q).ev (2^q-1-w)=a.ev w:=by
 intro a
 induction a with
 | tell i =>
  intro h
  have h':(i:Int)<(q:Int):=h
  rw [Tm.mir,Tm.ev,Tm.ev,Tm.ev,opp_bit hq hw (by omega),Bool.not_not]
 | cnt n =>
  intro h
  have h':(n:Int)≤(q:Int)+1:=h
  have hp:=opp_pop hq hw
  rw [Tm.mir,Tm.ev,Tm.ev,Tm.ev, ←decide_not]
  exact decide_eq_decide.mpr (by omega)
 | neg a ih=>intro h;rw [Tm.mir,Tm.ev,Tm.ev,ih h]
 | bin o a b iha ihb=>intro h;rw [Tm.mir,Tm.ev,Tm.ev,iha h.2.1,ihb h.2.2]
/-- What holds in a world, holds mirrored in the opposite one. -/
theorem hv_mir {q:Nat} {t:List M} (hk:tok (q:Int) t=true) {w:Nat} (hw:w<2^q):hv (mirL (q:Int) t) (2^q-1-w)=hv t w:=by
 obtain ⟨a,hg,rfl,h4,hl⟩:=tok_tree hk
 obtain ⟨h1,h2,_⟩:=tok_iff.1 hk
 have hq:q≤4:=by omega
 have h16:(2:Nat)^q≤2^4:=Nat.pow_le_pow_right (by decide) hq
 have hm:=mirL_len (q:Int) a.post
 rw [mir_post a hg] at hm ⊢
 rw [hv_post ((a.mir q).good_four (by omega) (mir_good a hg)) (by omega) (by omega),hv_post h4 (by omega) (by omega)]
 exact mir_ev hq hw a hg
theorem may_mir {q:Nat} {i:Int} {t:List M} (hk:tok (q:Int) t=true) (h0:0≤i) (h1:i<(q:Int)) {w:Nat} (hw:w<2^q):may i (mirL (q:Int) t) (2^q-1-w) = !may i t w:=by
 have hq:=(tok_iff.1 hk).2.1
 unfold may
 rw [hv_mir hk hw,opp_bit (by omega) hw (show i.toNat<q by omega)]
 cases hv t w<;>cases w.testBit i.toNat<;>rfl
theorem post_small {q:Nat} : ∀ a:Tm,a.good (q:Int) → ∀ m∈a.post,0≤m.f1∧m.f1≤(q:Int)+1:=by
 intro a
 induction a with
 | tell i =>
  intro h m hm
  have h':(i:Int)<(q:Int):=h
  rw [Tm.post,List.mem_singleton] at hm
  subst hm
  exact ⟨by show (0:Int)≤(i:Int);omega,by show (i:Int)≤(q:Int)+1;omega⟩
 | cnt n =>
  intro h m hm
  have h':(n:Int)≤(q:Int)+1:=h
  rw [Tm.post,List.mem_singleton] at hm
  subst hm
  exact ⟨by show (0:Int)≤(n:Int);omega,h'⟩
 | neg a ih =>
  intro h m hm
  rw [Tm.post] at hm
  rcases List.mem_append.1 hm with hm|hm
  ·exact ih h m hm
  ·rw [List.mem_singleton.1 hm];exact ⟨by decide,by show (0:Int)≤(q:Int)+1;omega⟩
 | bin o a b iha ihb =>
  intro h m hm
  rw [Tm.post] at hm
  rcases List.mem_append.1 hm with hm|hm
  ·exact iha h.2.1 m hm
  ·rcases List.mem_append.1 hm with hm|hm
   ·exact ihb h.2.2 m hm
   ·rw [List.mem_singleton.1 hm];exact ⟨by show (0:Int)≤0;omega,by show (0:Int)≤(q:Int)+1;omega⟩
theorem tok_small {q:Nat} {t:List M} (hk:tok (q:Int) t=true) : ∀ m∈t,0≤m.f1∧m.f1≤(q:Int)+1:=by
 obtain ⟨a,hg,rfl,_,_⟩:=tok_tree hk
 exact post_small a hg
theorem mir_small {q:Nat} {t:List M} (hk:tok (q:Int) t=true) : ∀ m∈mirL (q:Int) t,m.f1≤(q:Int)+1:=by
 obtain ⟨a,hg,rfl,_,_⟩:=tok_tree hk
 rw [mir_post a hg]
 exact fun m hm=>(post_small _ (mir_good a hg) m hm).2
def mirR (p:Int) (t:List M):List M×Bool:=if tok p t=true then (if 15<(mirL p t).length then ([],false) else (mirL p t,true)) else ([],false)
theorem impl_Mirror_l {q:Nat} (hq:q≤4) {t:List M} (hl:t.length≤15) (hs : ∀ m∈t,0≤m.f1∧m.f1≤(q:Int)+1) : ∀ (suf pre:List M),t=pre++suf →
  Ev (fun k=>impl_MirrorTerm.l0 k (q:Int) (mirL (q:Int) pre) t (t.length:Int) ((pre.length:Nat):Int)) (if 15<(mirL (q:Int) t).length then ([],false) else (mirL (q:Int) t,true)):=by
 intro suf
 induction suf with
 | nil =>
  intro pre he
  rw [List.append_nil] at he
  subst he
  refine Ev.step (fun k=>by simp only [impl_MirrorTerm.l0];rfl) (Ev.no (by omega) ?_)
  by_cases h:15<(mirL (q:Int) t).length
  ·rw [if_pos h]
   exact Ev.yes (by omega) (Ev.some _)
  ·rw [if_neg h]
   exact Ev.no (by omega) (Ev.some _)
 | cons m suf ih =>
  intro pre he
  have hle:t.length=pre.length+(suf.length+1):=by rw [he];simp
  have hx:rd_T33 t ((pre.length:Nat):Int)=m:=by rw [he];exact rdM_at pre m suf
  have hm:=hs m (by rw [he];simp)
  have h':=ih (pre++[m]) (by rw [he];simp)
  have hml:=mirL_len (q:Int) pre
  have e1:mirL (q:Int) (pre++[m])=mirL (q:Int) pre++mirM (q:Int) m:=by rw [mirL_app];simp [mirL]
  rw [e1,List.length_append,List.length_singleton] at h'
  refine Ev.step (fun k=>by simp only [impl_MirrorTerm.l0];rfl) ?_
  rw [hx,w64 (x:=((pre.length:Nat):Int)+1) (by omega) (by omega),w64 (x:=(q:Int)+1) (by omega) (by omega),w64 (by omega) (by omega),show (((pre.length:Nat):Int)+1)=((pre.length+1:Nat):Int) by omega]
  simp only [Option.bind_some]
  refine Ev.yes (by omega) (Ev.yes (by omega) (Ev.yes (by omega) ?_))
  obtain ⟨f0,f1⟩:=m
  by_cases h1:f0=1
  ·subst h1
   have e2:mirM (q:Int) ⟨1,f1⟩=[⟨1,(q:Int)+1-f1⟩,⟨2,0⟩]:=rfl
   rw [e2] at h'
   refine Ev.yes rfl (Ev.yes (by omega) (Ev.no (by show ¬ (1:Int)=0;decide) (Ev.yes (by simp;omega) ?_)))
   simpa using h'
  ·refine Ev.no h1 (Ev.yes (by omega) ?_)
   by_cases h0:f0=0
   ·subst h0
    have e2:mirM (q:Int) ⟨0,f1⟩=[⟨0,f1⟩,⟨2,0⟩]:=rfl
    rw [e2] at h'
    refine Ev.yes rfl (Ev.yes (by simp;omega) ?_)
    simpa using h'
   ·have e2:mirM (q:Int) ⟨f0,f1⟩=[⟨f0,f1⟩]:=by
     unfold mirM
     rw [if_neg h0,if_neg h1]
    rw [e2] at h'
    exact Ev.no h0 h'
theorem impl_Mirror_ev (p:Int) (t:List M):Ev (fun k=>impl_MirrorTerm.f k p t) (mirR p t):=by
 unfold impl_MirrorTerm.f mirR
 refine Ev.bind (impl_TermOk_ev p t) ?_
 by_cases hk:tok p t=true
 ·rw [if_pos hk]
  obtain ⟨h0,h1,_,h15,_⟩:=tok_iff.1 hk
  obtain ⟨q,rfl⟩:=Int.eq_ofNat_of_zero_le (show 0≤p by omega)
  exact Ev.yes hk (impl_Mirror_l (by omega) h15 (tok_small hk) t [] rfl)
 ·rw [if_neg hk]
  exact Ev.no hk (Ev.some _)
theorem alive_eq':laws_alive.f=some true:=by decide +kernel
end Go.Proofs.Ytpampekijfjlkab.L
