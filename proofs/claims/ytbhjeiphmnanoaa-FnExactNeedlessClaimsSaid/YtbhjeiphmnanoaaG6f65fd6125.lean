/- Joined by a program of this session's: X59, X23, X24, X27, X28, X29, X34, X35, X36, X60. -/
import Derived.Test.YtbhjeiphmnanoaaG9e55d0c896
import Derived.Test.YtbhjeiphmnanoaaGe9b93dff82
import Derived.Test.YtbhjeiphmnanoaaGafa11a416f

namespace Go.Proofs.Ytbhjeiphmnanoaa.X
open Go.RowKit Go.Proofs.YtbhjeiphmnanoaaW.PrintWords Go.Proofs.YtbhjeiphmnanoaaW.PrintLast Go.Proofs.YtbhjeiphmnanoaaW.PrintMore
open Go.Proofs.YtbhjeiphmnanoaaW.PrintWords renaming Aside0.mk → mA, pw_below_drewN → bN, below_drew1 → bD, below_alloc → bA, below_set → bS, blk_alloc → kA, blk_drewN → kN, blk_drew → kD, blk_cell → kC, blk_frozen → kF, below_size → bZ, below_step → bT, Kd.R_alloc → rA, Kd.R_drewN → rN, Kd.R_drew → rD, Kd.R_lt → rL, Kd.R_below → rB, Kd.R_lower → rW, blk_put → kP, blk_below → kB, Kd.N_alloc → nA, Kd.N_drewN → nN, Kd.N_drew → nD, Kd.C_alloc → cA, Kd.C_drewN → cN, Kd.C_drew → cD
open List renaming setIfInBounds_toArray → sA, set_cons_zero → sZ, set_cons_succ → sS, length_take → lT, length_drop → lD, map_toArray → mT, map_cons → mC, map_nil → mN
open Bool renaming true → I, false → O
attribute [local go_sem] max2_int min2_int max_two min_two max_three min_three max_four min_four   -- for this text's walks alone
set_option linter.unusedVariables false
set_option linter.unusedSimpArgs false
/-! ### spec_NeedlessClaims: function 18 -/
mutual
def spec_NeedlessClaims.l0:Nat→Int→List (S42)→List Int→Int→Option (List Int)
 | 0,_,_,_,_=>none
 | k+1,x0,x1,x5,x6=>if x6<(x1.length:Int) then ((spec_StoryOk.f k x0 x1).bind fun t104=>(spec_NeedlessClaims.j1 k x0 x1 x5 x6 t104)) else (spec_NeedlessClaims.j1 k x0 x1 x5 x6 false)
def spec_NeedlessClaims.j1:Nat→Int→List (S42)→List Int→Int→Bool→Option (List Int)
 | 0,_,_,_,_,_=>none
 | k+1,x0,x1,x5,x6,x16=>if x16=true then ((spec_l5Without.f x1 x6).bind fun t105=>((spec_l4Story.f k x0 t105).bind fun t108=>((spec_l4Story.f k x0 x1).bind fun t109=>(if t108=t109 then (if x5.length<17592186044416 then (spec_NeedlessClaims.l0 k x0 x1 (x5++[x6]) (wrap64 (x6+1))) else (none)) else (spec_NeedlessClaims.l0 k x0 x1 x5 (wrap64 (x6+1))))))) else (some x5)
end
def spec_NeedlessClaims.f (k:Nat) (a0:Int) (l1:List (S42)):Option (List Int):=spec_NeedlessClaims.l0 k a0 l1 (([]:List Int)) 0
theorem spec_NeedlessClaims.mono_l : ∀ k,(∀ y0 y1 y2 y3,LeO (spec_NeedlessClaims.l0 k y0 y1 y2 y3) (spec_NeedlessClaims.l0 (k+1) y0 y1 y2 y3))∧(∀ y0 y1 y2 y3 y4,LeO (spec_NeedlessClaims.j1 k y0 y1 y2 y3 y4) (spec_NeedlessClaims.j1 (k+1) y0 y1 y2 y3 y4))
 | 0=>⟨fun _ _ _ _ r h=>by simp [spec_NeedlessClaims.l0] at h,fun _ _ _ _ _ r h=>by simp [spec_NeedlessClaims.j1] at h⟩
 | k+1=>by
  obtain ⟨ih0,ih1⟩:=spec_NeedlessClaims.mono_l k
  refine ⟨?_,?_⟩
  ·intro y0 y1 y2 y3
   unfold spec_NeedlessClaims.l0
   repeat' first
   | (with_reducible exact ih0 _ _ _ _)
   | (with_reducible exact ih1 _ _ _ _ _)
   | (with_reducible exact spec_StoryOk.mono _ _ _)
   | (with_reducible exact spec_l4Story.mono _ _ _)
   | (with_reducible exact LeO.refl _)
   | (with_reducible exact LeO.none _)
   | (with_reducible refine LeO.ite ?_ ?_)
   | (with_reducible refine LeO.bind ?_ (fun _=>?_))
   | exact ih0 _ _ _ _
   | exact ih1 _ _ _ _ _
   | exact spec_StoryOk.mono _ _ _
   | exact spec_l4Story.mono _ _ _
   | exact LeO.none _
   | refine LeO.ite ?_ ?_
   | refine LeO.bind ?_ (fun _=>?_)
  ·intro y0 y1 y2 y3 y4
   unfold spec_NeedlessClaims.j1
   repeat' first
   | (with_reducible exact ih0 _ _ _ _)
   | (with_reducible exact ih1 _ _ _ _ _)
   | (with_reducible exact spec_StoryOk.mono _ _ _)
   | (with_reducible exact spec_l4Story.mono _ _ _)
   | (with_reducible exact LeO.refl _)
   | (with_reducible exact LeO.none _)
   | (with_reducible refine LeO.ite ?_ ?_)
   | (with_reducible refine LeO.bind ?_ (fun _=>?_))
   | exact ih0 _ _ _ _
   | exact ih1 _ _ _ _ _
   | exact spec_StoryOk.mono _ _ _
   | exact spec_l4Story.mono _ _ _
   | exact LeO.none _
   | refine LeO.ite ?_ ?_
   | refine LeO.bind ?_ (fun _=>?_)
theorem spec_NeedlessClaims.mono : ∀ a0 a1 k,LeO (spec_NeedlessClaims.f k a0 a1) (spec_NeedlessClaims.f (k+1) a0 a1):=by
 intro a0 a1 k
 obtain ⟨ih0,ih1⟩:=spec_NeedlessClaims.mono_l k
 unfold spec_NeedlessClaims.f
 repeat' first
   | (with_reducible exact ih0 _ _ _ _)
   | (with_reducible exact ih1 _ _ _ _ _)
   | (with_reducible exact spec_StoryOk.mono _ _ _)
   | (with_reducible exact spec_l4Story.mono _ _ _)
   | (with_reducible exact LeO.refl _)
   | (with_reducible exact LeO.none _)
   | (with_reducible refine LeO.ite ?_ ?_)
   | (with_reducible refine LeO.bind ?_ (fun _=>?_))
   | exact ih0 _ _ _ _
   | exact ih1 _ _ _ _ _
   | exact spec_StoryOk.mono _ _ _
   | exact spec_l4Story.mono _ _ _
   | exact LeO.none _
   | refine LeO.ite ?_ ?_
   | refine LeO.bind ?_ (fun _=>?_)
set_option maxHeartbeats 8000000 in
set_option maxRecDepth 100000 in
theorem spec_NeedlessClaims.calls (k:Nat) (a0:Int) (A1:Option Addr) (c1:Nat) (l1:List (S42)) (r:List Int) (w:World) (hr1:Kd.C k42 w A1 l1.length l1) (hc1:l1.length≤c1) (h:spec_NeedlessClaims.f k a0 l1=some r) :
  Calls Try.prog 18 #[.int .i64 a0,.slice A1 l1.length c1] w fun e w'=>∃ v0_:Value,e = .returned (v0_)∧Kd.R (Kd.int .i64) 3 w' w.heap.size (fun _=>True) v0_ r∧Below w.heap.size w w':=by
 have HR1:=mA hr1
 have HC1:=mA hc1
 clear hr1 hc1
 have HB:=mA (Below.refl w.heap.size w)
 have H:(spec_NeedlessClaims.l0 k a0 l1 (([]:List Int)) 0)=some r:=h
 clear h
 obtain ⟨y101,hy101⟩ : ∃ y_:List Int,y_=(([]:List Int)):=⟨_,rfl⟩
 replace H:(spec_NeedlessClaims.l0 k a0 l1 y101 0)=some r:=by first|(rw [hy101];with_reducible exact H)|(have H2_:=(Option.bind_some _ _).symm.trans H;rw [hy101];with_reducible exact H2_)|(have H2_:=(Option.bind_some _ _).symm.trans H;with_reducible exact H2_)|with_reducible exact H|(rw [hy101];exact H)|exact H
 have Ny101:=mA hy101
 clear hy101
 have H':=mA H
 clear H
 go_enter Try.func18,Try.ntmps18
 go_wp2_with (first|((with_reducible refine gate_dst (N:=7) rfl ?_);refine Kd.R_lit (Kd.int .i64) _ 3 ?hg (N:=7) ?hd (xs:=([]:List Int)) (inner:=[]) (ok:=fun _=>True) (okp:=fun _=>True) ?hr ?hp (fun _ hk=>hk) trivial (Below.refl _ _) (Nat.le_refl _) (by simp) ?_;(case hd=>rfl);(case hg=>rfl);(case hr=>first|(go_simp;done)|(go_simp;rfl));(case hp=>exact (Reps.none _ _));intro v102 w3 ho4 hb hg_ hnew_;clear hg_ hnew_;(first|rw [←Ny101.out] at ho4|(simp only [Int.reduceToNat] at ho4;rw [←Ny101.out] at ho4));have n0_:=mA (rW ho4 (bZ (by repeat first|(with_reducible first|exact HB.out|apply bA|apply bN|apply bD)|exact HB.out)));have n1_:=mA (bT (by repeat first|(with_reducible first|exact HB.out|apply bA|apply bN|apply bD)|exact HB.out) hb);clear HB;have HO103:=n0_;have HB:=n1_;clear n0_ n1_ hb ho4))
 go_loopg [5,6] k (fun kq v5 v6 w'=>∃ (x5_1:List Int) (x6_1:Int),v6 = .int .i64 x6_1∧Aside0 (spec_NeedlessClaims.l0 kq a0 l1 x5_1 x6_1=some r)∧Aside0 (kq≤k)∧Aside0 (Kd.R (Kd.int .i64) 3 w' w.heap.size (fun _=>True) v5 x5_1)∧Aside0 (Below w.heap.size w w'))
 case atStart=>exact ⟨(y101),(0),(by first|rfl|(simp;done)|(simp [*];done)),H',⟨Nat.le_refl _⟩,⟨by (with_reducible repeat first|apply rA|apply rN|apply rD);exact HO103.out⟩,⟨by repeat (first|(with_reducible first|exact HB.out|apply bA|apply bN|apply bD)|exact HB.out)⟩⟩
 case round =>
  clear H'
  try clear c1
  try clear p2
  obtain ⟨x5_1,x6_1,rfl,HA,HK1,HO_5,HB⟩:=hrel
  cases gk with
  | zero=>exact absurd HA.out (by simp [spec_NeedlessClaims.l0])
  | succ k1 =>
   have H:=HA.out
   clear HA
   simp only [spec_NeedlessClaims.l0] at H
   have HC5:=mA H
   clear H
   go_upto_region 3 with (fail)
   go_cut [16] (fun v16 wc=>∃ (kq:Nat) (x16_4:Bool),v16 = .bool x16_4∧Aside0 (spec_NeedlessClaims.j1 kq a0 l1 x5_1 x6_1 x16_4=some r)∧Aside0 (kq≤k1)∧Aside0 (Kd.R (Kd.int .i64) 3 wc w.heap.size (fun _=>True) u5 x5_1)∧Aside0 (Below w.heap.size w wc))
   case first =>
    have H:=HC5.out
    clear HC5
    by_cases c6:x6_1<(l1.length:Int)
    ·rw [if_pos c6] at H
     have c6b0:decide (x6_1<(l1.length:Int))=true:=decide_eq_true c6
     clear c6
     (first|rw [c6b0]|(simp only [i64_w,i32_w];rw [c6b0])|skip)
     replace H:=Option.bind_eq_some_iff.mp H
     obtain ⟨t104,A70,H⟩:=H
     replace H:(spec_NeedlessClaims.j1 k1 a0 l1 x5_1 x6_1 t104)=some r:=H
     have A7:=mA A70
     clear A70
     have H':=mA H
     clear H
     go_wp2_with (first|(go_at_call 21;(with_reducible refine (spec_StoryOk.calls k1 a0 _ _ l1 t104 _ ?side1 ?side2 A7.out).mono ?_);(case side1=>repeat first|exact (Kd.C_below HR1.out HB.out)|(with_reducible refine cA ?_ _)|(with_reducible refine cN ?_ _)|(with_reducible refine cD ?_));(case side2=>exact HC1.out);rintro e w8 ⟨rfl,hb⟩;have n0_:=mA (rB (by (with_reducible repeat first|apply rA|apply rN|apply rD);exact HO_5.out) hb);have n1_:=mA (bT (by repeat first|(with_reducible first|exact HB.out|apply bA|apply bN|apply bD)|exact HB.out) hb);clear HO_5 HB;have HO_5:=n0_;have HB:=n1_;clear n0_ n1_;(try clear hb);(try clear hb2);(try clear hk);(try clear hi)))
     go_meet
     case rel=>exact ⟨_,(t104),(by first|rfl|(simp;done)|(simp [*];done)),H',⟨by have:=HK1.out;first|omega|exact Nat.le_refl _⟩,⟨by (with_reducible repeat first|apply rA|apply rN|apply rD);exact HO_5.out⟩,⟨by repeat (first|(with_reducible first|exact HB.out|apply bA|apply bN|apply bD)|exact HB.out)⟩⟩
    ·rw [if_neg c6] at H
     have c6b0:decide (x6_1<(l1.length:Int))=false:=decide_eq_false c6
     clear c6
     (first|rw [c6b0]|(simp only [i64_w,i32_w];rw [c6b0])|skip)
     have H':=mA H
     clear H
     go_wp2
     go_meet
     case rel=>exact ⟨_,(false),(by first|rfl|(simp;done)|(simp [*];done)),H',⟨by have:=HK1.out;first|omega|exact Nat.le_refl _⟩,⟨by (with_reducible repeat first|apply rA|apply rN|apply rD);exact HO_5.out⟩,⟨by repeat (first|(with_reducible first|exact HB.out|apply bA|apply bN|apply bD)|exact HB.out)⟩⟩
   case rest =>
    clear HC5
    try clear c1
    try clear p2
    try clear c6
    try clear c6b0
    try clear p2
    obtain ⟨kq,x16_4,rfl,HA,HJ4,HO_5,HB⟩:=hcut
    cases kq with
    | zero=>exact absurd HA.out (by simp [spec_NeedlessClaims.j1])
    | succ kj4 =>
     have H:=HA.out
     clear HA
     simp only [spec_NeedlessClaims.j1] at H
     by_cases c9:x16_4=true
     ·subst c9
      have H1:((spec_l5Without.f l1 x6_1).bind fun t105=>((spec_l4Story.f kj4 a0 t105).bind fun t108=>((spec_l4Story.f kj4 a0 l1).bind fun t109=>(if t108=t109 then (if x5_1.length<17592186044416 then (spec_NeedlessClaims.l0 kj4 a0 l1 (x5_1++[x6_1]) (wrap64 (x6_1+1))) else (none)) else (spec_NeedlessClaims.l0 kj4 a0 l1 x5_1 (wrap64 (x6_1+1)))))))=some r:=by rw [if_pos rfl] at H;exact H
      clear H
      have H:=H1
      clear H1
      replace H:=Option.bind_eq_some_iff.mp H
      obtain ⟨t105,A100,H⟩:=H
      replace H:((spec_l4Story.f kj4 a0 t105).bind fun t108=>((spec_l4Story.f kj4 a0 l1).bind fun t109=>(if t108=t109 then (if x5_1.length<17592186044416 then (spec_NeedlessClaims.l0 kj4 a0 l1 (x5_1++[x6_1]) (wrap64 (x6_1+1))) else (none)) else (spec_NeedlessClaims.l0 kj4 a0 l1 x5_1 (wrap64 (x6_1+1))))))=some r:=H
      have A10:=mA A100
      clear A100
      replace H:=Option.bind_eq_some_iff.mp H
      obtain ⟨t108,A110,H⟩:=H
      replace H:((spec_l4Story.f kj4 a0 l1).bind fun t109=>(if t108=t109 then (if x5_1.length<17592186044416 then (spec_NeedlessClaims.l0 kj4 a0 l1 (x5_1++[x6_1]) (wrap64 (x6_1+1))) else (none)) else (spec_NeedlessClaims.l0 kj4 a0 l1 x5_1 (wrap64 (x6_1+1)))))=some r:=H
      have A11:=mA A110
      clear A110
      replace H:=Option.bind_eq_some_iff.mp H
      obtain ⟨t109,A120,H⟩:=H
      replace H:(if t108=t109 then (if x5_1.length<17592186044416 then (spec_NeedlessClaims.l0 kj4 a0 l1 (x5_1++[x6_1]) (wrap64 (x6_1+1))) else (none)) else (spec_NeedlessClaims.l0 kj4 a0 l1 x5_1 (wrap64 (x6_1+1))))=some r:=H
      have A12:=mA A120
      clear A120
      by_cases c13:t108=t109
      ·rw [if_pos c13] at H
       have c13b0:(t108==t109)=true:=beq_iff_eq.mpr c13
       have c13b1:(t108 != t109)=false:=bne_eq_false_iff_eq.mpr c13
       clear c13
       by_cases c14:x5_1.length<17592186044416
       ·rw [if_pos c14] at H
        have LMc14:=mA c14
        clear c14
        obtain ⟨y110,hy110⟩ : ∃ y_:List Int,y_=(x5_1++[x6_1]):=⟨_,rfl⟩
        replace H:(spec_NeedlessClaims.l0 kj4 a0 l1 y110 (wrap64 (x6_1+1)))=some r:=by first|(rw [hy110];with_reducible exact H)|(have H2_:=(Option.bind_some _ _).symm.trans H;rw [hy110];with_reducible exact H2_)|(have H2_:=(Option.bind_some _ _).symm.trans H;with_reducible exact H2_)|with_reducible exact H|(rw [hy110];exact H)|exact H
        have Ny110:=mA hy110
        clear hy110
        have H':=mA H
        clear H
        go_wp2_with (first|((with_reducible refine gate_callee (f:=22) rfl ?_);refine goesL_ (some 22) rfl rfl Try.func22 (by kernel_rfl) rfl #[.slice A1 l1.length c1,.int .i64 x6_1] rfl (by (try simp only [mT,mC,mN]);first|done|rfl|(simp only [lD,lT];rfl)) ?_;(with_reducible refine (spec_l5Without.calls (fun k_=>k_<w.heap.size) _ _ l1 x6_1 t105 _ ?side1 A10.out).mono ?_);(case side1=>exact Kd.V_mk HC1.out (Kd.F_below (Kd.C_F k42_heap HR1.out) (by repeat first|(with_reducible first|exact HB.out|apply bA|apply bN|apply bD)|exact HB.out)));rintro e w15 ⟨v106,rfl,ho0,hb⟩;refine ⟨_,rfl,?_⟩;have n0_:=mA (rB (by (with_reducible repeat first|apply rA|apply rN|apply rD);exact HO_5.out) hb);have n1_:=mA (Kd.N_lower (Kd.N_mono (ok':=fun k_=>some k_≠(u5:Value).ownBlock) ho0 (fun k_ hk_=>Or.elim hk_ (fun hs_=>fun e_=>Nat.not_le.2 hs_ (Kd.R_base HO_5.out k_ e_.symm)) (fun hn_=>(Kd.fresh' (rL (by (with_reducible repeat first|apply rA|apply rN|apply rD);exact HO_5.out)) k_ hn_)))) (bZ (by repeat first|(with_reducible first|exact HB.out|apply bA|apply bN|apply bD)|exact HB.out)));have n2_:=mA (bT (by repeat first|(with_reducible first|exact HB.out|apply bA|apply bN|apply bD)|exact HB.out) hb);clear HO_5 HB;have HO_5:=n0_;have HO107:=n1_;have HB:=n2_;clear n0_ n1_ n2_;(try clear hb);(try clear hb2);(try clear hk);(try clear hi);(try clear ho0);obtain ⟨Ao16,co16,eo16⟩:=Kd.N_slice HO107.out;subst eo16)|((with_reducible refine gate_callee (f:=23) rfl ?_);refine goesL_ (some 23) rfl rfl Try.func23 (by kernel_rfl) rfl #[.int .i64 a0,.slice Ao16 t105.length co16] rfl (by (try simp only [mT,mC,mN]);first|done|rfl|(simp only [lD,lT];rfl)) ?_;(with_reducible refine (spec_l4Story.calls kj4 a0 _ _ t105 t108 _ ?side1 ?side2 A11.out).mono ?_);(case side1=>repeat first|exact (Kd.N_reads' HO107.out).2.2|(with_reducible refine cA ?_ _)|(with_reducible refine cN ?_ _)|(with_reducible refine cD ?_));(case side2=>exact (Kd.N_reads' HO107.out).2.1);rintro e w17 ⟨rfl,hb⟩;refine ⟨_,rfl,?_⟩;have n0_:=mA (rB (by (with_reducible repeat first|apply rA|apply rN|apply rD);exact HO_5.out) hb);have n1_:=mA (Kd.N_below (by (with_reducible repeat first|apply nA|apply nN|apply nD);exact HO107.out) hb);have n2_:=mA (bT (by repeat first|(with_reducible first|exact HB.out|apply bA|apply bN|apply bD)|exact HB.out) hb);clear HO_5 HO107 HB;have HO_5:=n0_;have HO107:=n1_;have HB:=n2_;clear n0_ n1_ n2_;(try clear hb);(try clear hb2);(try clear hk);(try clear hi))|((with_reducible refine gate_callee (f:=23) rfl ?_);refine goesL_ (some 26) rfl rfl Try.func23 (by kernel_rfl) rfl #[.int .i64 a0,.slice A1 l1.length c1] rfl (by (try simp only [mT,mC,mN]);first|done|rfl|(simp only [lD,lT];rfl)) ?_;(with_reducible refine (spec_l4Story.calls kj4 a0 _ _ l1 t109 _ ?side1 ?side2 A12.out).mono ?_);(case side1=>repeat first|exact (Kd.C_below HR1.out HB.out)|(with_reducible refine cA ?_ _)|(with_reducible refine cN ?_ _)|(with_reducible refine cD ?_));(case side2=>exact HC1.out);rintro e w18 ⟨rfl,hb⟩;refine ⟨_,rfl,?_⟩;have n0_:=mA (rB (by (with_reducible repeat first|apply rA|apply rN|apply rD);exact HO_5.out) hb);have n1_:=mA (Kd.N_below (by (with_reducible repeat first|apply nA|apply nN|apply nD);exact HO107.out) hb);have n2_:=mA (bT (by repeat first|(with_reducible first|exact HB.out|apply bA|apply bN|apply bD)|exact HB.out) hb);clear HO_5 HO107 HB;have HO_5:=n0_;have HO107:=n1_;have HB:=n2_;clear n0_ n1_ n2_;(try clear hb);(try clear hb2);(try clear hk);(try clear hi))|((with_reducible refine gate_builtin (b:=.append) (xs:=#[.tmp 28,.tmp 30]) rfl ?_);at_builtin;refine Kd.R_append (Kd.int .i64) (w0:=w) w.heap.size rfl (.tmp 28) (.tmp 30) 31 3 (.int .i64 0) 8 rfl Try.underlying31 info3 rfl (by decide) (by omega) u5 x5_1 x6_1 [.int .i64 x6_1] (fun _=>True) (fun _=>False) rfl rfl ?aP (fun _ hk=>hk.elim) ?aF ?aO ?aB ?aS ?aL ?_;(case aP=>exact rfl);(case aB=>exact (by repeat first|(with_reducible first|exact HB.out|apply bA|apply bN|apply bD)|exact HB.out));(case aF=>exact (fun _ _=>trivial));(case aO=>exact (by (with_reducible repeat first|apply rA|apply rN|apply rD);exact HO_5.out));(case aS=>exact (bZ (by repeat first|(with_reducible first|exact HB.out|apply bA|apply bN|apply bD)|exact HB.out)));(case aL=>have:=LMc14.out;omega);intro v111 w19 ho hb hg hat;rw [←Ny110.out] at ho;have n0_:=mA (Kd.N_afterv (ok:=(fun _=>True)) (by (with_reducible repeat first|apply nA|apply nN|apply nD);exact Kd.N_mono HO107.out (fun _ hk=>⟨trivial,hk⟩)) hg hat);have n1_:=mA (hb);have n2_:=mA (ho);clear HO107 HB HO_5;have HO107:=n0_;have HB:=n1_;have HO112:=n2_;clear n0_ n1_ n2_ ho hb hg hat))
        go_roundg kj4
        case measure=>have:=HK1.out;have:=HJ4.out;omega
        case rel=>exact ⟨(y110),(wrap64 (x6_1+1)),(by first|rfl|(simp;done)|(simp [*];done)),H',⟨by have:=HK1.out;have:=HJ4.out;omega⟩,⟨by (with_reducible repeat first|apply rA|apply rN|apply rD);exact HO112.out⟩,⟨by repeat (first|(with_reducible first|exact HB.out|apply bA|apply bN|apply bD)|exact HB.out)⟩⟩
       ·rw [if_neg c14] at H
        exact absurd H (by simp)
      ·rw [if_neg c13] at H
       have c13b0:(t108==t109)=false:=beq_eq_false_iff_ne.mpr c13
       have c13b1:(t108 != t109)=true:=bne_iff_ne.mpr c13
       have H':=mA H
       clear H
       go_wp2_with (first|((with_reducible refine gate_callee (f:=22) rfl ?_);refine goesL_ (some 22) rfl rfl Try.func22 (by kernel_rfl) rfl #[.slice A1 l1.length c1,.int .i64 x6_1] rfl (by (try simp only [mT,mC,mN]);first|done|rfl|(simp only [lD,lT];rfl)) ?_;(with_reducible refine (spec_l5Without.calls (fun k_=>k_<w.heap.size) _ _ l1 x6_1 t105 _ ?side1 A10.out).mono ?_);(case side1=>exact Kd.V_mk HC1.out (Kd.F_below (Kd.C_F k42_heap HR1.out) (by repeat first|(with_reducible first|exact HB.out|apply bA|apply bN|apply bD)|exact HB.out)));rintro e w20 ⟨v106,rfl,ho0,hb⟩;refine ⟨_,rfl,?_⟩;have n0_:=mA (rB (by (with_reducible repeat first|apply rA|apply rN|apply rD);exact HO_5.out) hb);have n1_:=mA (Kd.N_lower (Kd.N_mono (ok':=fun k_=>some k_≠(u5:Value).ownBlock) ho0 (fun k_ hk_=>Or.elim hk_ (fun hs_=>fun e_=>Nat.not_le.2 hs_ (Kd.R_base HO_5.out k_ e_.symm)) (fun hn_=>(Kd.fresh' (rL (by (with_reducible repeat first|apply rA|apply rN|apply rD);exact HO_5.out)) k_ hn_)))) (bZ (by repeat first|(with_reducible first|exact HB.out|apply bA|apply bN|apply bD)|exact HB.out)));have n2_:=mA (bT (by repeat first|(with_reducible first|exact HB.out|apply bA|apply bN|apply bD)|exact HB.out) hb);clear HO_5 HB;have HO_5:=n0_;have HO107:=n1_;have HB:=n2_;clear n0_ n1_ n2_;(try clear hb);(try clear hb2);(try clear hk);(try clear hi);(try clear ho0);obtain ⟨Ao21,co21,eo21⟩:=Kd.N_slice HO107.out;subst eo21)|((with_reducible refine gate_callee (f:=23) rfl ?_);refine goesL_ (some 23) rfl rfl Try.func23 (by kernel_rfl) rfl #[.int .i64 a0,.slice Ao21 t105.length co21] rfl (by (try simp only [mT,mC,mN]);first|done|rfl|(simp only [lD,lT];rfl)) ?_;(with_reducible refine (spec_l4Story.calls kj4 a0 _ _ t105 t108 _ ?side1 ?side2 A11.out).mono ?_);(case side1=>repeat first|exact (Kd.N_reads' HO107.out).2.2|(with_reducible refine cA ?_ _)|(with_reducible refine cN ?_ _)|(with_reducible refine cD ?_));(case side2=>exact (Kd.N_reads' HO107.out).2.1);rintro e w22 ⟨rfl,hb⟩;refine ⟨_,rfl,?_⟩;have n0_:=mA (rB (by (with_reducible repeat first|apply rA|apply rN|apply rD);exact HO_5.out) hb);have n1_:=mA (Kd.N_below (by (with_reducible repeat first|apply nA|apply nN|apply nD);exact HO107.out) hb);have n2_:=mA (bT (by repeat first|(with_reducible first|exact HB.out|apply bA|apply bN|apply bD)|exact HB.out) hb);clear HO_5 HO107 HB;have HO_5:=n0_;have HO107:=n1_;have HB:=n2_;clear n0_ n1_ n2_;(try clear hb);(try clear hb2);(try clear hk);(try clear hi))|((with_reducible refine gate_callee (f:=23) rfl ?_);refine goesL_ (some 26) rfl rfl Try.func23 (by kernel_rfl) rfl #[.int .i64 a0,.slice A1 l1.length c1] rfl (by (try simp only [mT,mC,mN]);first|done|rfl|(simp only [lD,lT];rfl)) ?_;(with_reducible refine (spec_l4Story.calls kj4 a0 _ _ l1 t109 _ ?side1 ?side2 A12.out).mono ?_);(case side1=>repeat first|exact (Kd.C_below HR1.out HB.out)|(with_reducible refine cA ?_ _)|(with_reducible refine cN ?_ _)|(with_reducible refine cD ?_));(case side2=>exact HC1.out);rintro e w23 ⟨rfl,hb⟩;refine ⟨_,rfl,?_⟩;have n0_:=mA (rB (by (with_reducible repeat first|apply rA|apply rN|apply rD);exact HO_5.out) hb);have n1_:=mA (Kd.N_below (by (with_reducible repeat first|apply nA|apply nN|apply nD);exact HO107.out) hb);have n2_:=mA (bT (by repeat first|(with_reducible first|exact HB.out|apply bA|apply bN|apply bD)|exact HB.out) hb);clear HO_5 HO107 HB;have HO_5:=n0_;have HO107:=n1_;have HB:=n2_;clear n0_ n1_ n2_;(try clear hb);(try clear hb2);(try clear hk);(try clear hi)))
       go_roundg kj4
       case measure=>have:=HK1.out;have:=HJ4.out;omega
       case rel=>exact ⟨(x5_1),(wrap64 (x6_1+1)),(by first|rfl|(simp;done)|(simp [*];done)),H',⟨by have:=HK1.out;have:=HJ4.out;omega⟩,⟨by (with_reducible repeat first|apply rA|apply rN|apply rD);exact HO_5.out⟩,⟨by repeat (first|(with_reducible first|exact HB.out|apply bA|apply bN|apply bD)|exact HB.out)⟩⟩
     ·replace c9:=Bool.eq_false_iff.mpr c9
      subst c9
      have H1:(some x5_1)=some r:=by rw [if_neg (show ¬ (false=true) by decide)] at H;exact H
      clear H
      have H:=H1
      clear H1
      obtain rfl:=Option.some.inj H
      go_wp2
      go_ret
      exact ⟨_,by first|rfl|(simp [errW_none,errW_some]<;>rfl)|(simp [*, errW_none,errW_some]<;>rfl),by (with_reducible repeat first|apply rA|apply rN|apply rD);exact HO_5.out,by repeat (first|(with_reducible first|exact HB.out|apply bA|apply bN|apply bD)|exact HB.out)⟩
/-! ### impl_ClaimOk: function 41 -/
def impl_ClaimOk.f (k:Nat) (a0:Int) (a1_0:Int) (l1_1:List (S59)):Option (Bool):=(impl_peopleOk.f a0).bind fun t102=>(if t102=true then (if a1_0≥0 then (if a1_0<a0 then ((impl_TermOk.f k a0 l1_1).bind fun t103=>(if t103=true then (some (decide ((l1_1.length:Int)≤13))) else (some false))) else (some false)) else (some false)) else (some false))
theorem impl_ClaimOk.mono : ∀ a0 a1 a2 k,LeO (impl_ClaimOk.f k a0 a1 a2) (impl_ClaimOk.f (k+1) a0 a1 a2):=by
 intro a0 a1 a2 k
 unfold impl_ClaimOk.f
 repeat' first
   | (with_reducible exact impl_TermOk.mono _ _ _)
   | (with_reducible exact LeO.refl _)
   | (with_reducible exact LeO.none _)
   | (with_reducible refine LeO.ite ?_ ?_)
   | (with_reducible refine LeO.bind ?_ (fun _=>?_))
   | exact impl_TermOk.mono _ _ _
   | exact LeO.none _
   | refine LeO.ite ?_ ?_
   | refine LeO.bind ?_ (fun _=>?_)
set_option maxHeartbeats 8000000 in
set_option maxRecDepth 100000 in
theorem impl_ClaimOk.calls (k:Nat) (a0:Int) (a1_0:Int) (A1_1:Option Addr) (c1_1:Nat) (l1_1:List (S59)) (r:Bool) (w:World) (hr1_1:Kd.C k59 w A1_1 l1_1.length l1_1) (hc1_1:l1_1.length≤c1_1) (h:impl_ClaimOk.f k a0 a1_0 l1_1=some r) :
  Calls Try.prog 41 #[.int .i64 a0,.agg #[.int .i64 a1_0,.slice A1_1 l1_1.length c1_1]] w fun e w'=>e = .returned (.bool r)∧Below w.heap.size w w':=by
 have hu42:=Try.underlying42
 have HR1_1:=mA hr1_1
 have HC1_1:=mA hc1_1
 clear hr1_1 hc1_1
 have HB:=mA (Below.refl w.heap.size w)
 have H:((impl_peopleOk.f a0).bind fun t102=>(if t102=true then (if a1_0≥0 then (if a1_0<a0 then ((impl_TermOk.f k a0 l1_1).bind fun t103=>(if t103=true then (some (decide ((l1_1.length:Int)≤13))) else (some false))) else (some false)) else (some false)) else (some false)))=some r:=h
 clear h
 replace H:=Option.bind_eq_some_iff.mp H
 obtain ⟨t102,A30,H⟩:=H
 replace H:(if t102=true then (if a1_0≥0 then (if a1_0<a0 then ((impl_TermOk.f k a0 l1_1).bind fun t103=>(if t103=true then (some (decide ((l1_1.length:Int)≤13))) else (some false))) else (some false)) else (some false)) else (some false))=some r:=H
 have A3:=mA A30
 clear A30
 by_cases c4:t102=true
 ·subst c4
  have H1:(if a1_0≥0 then (if a1_0<a0 then ((impl_TermOk.f k a0 l1_1).bind fun t103=>(if t103=true then (some (decide ((l1_1.length:Int)≤13))) else (some false))) else (some false)) else (some false))=some r:=by rw [if_pos rfl] at H;exact H
  clear H
  have H:=H1
  clear H1
  by_cases c5:a1_0≥0
  ·rw [if_pos c5] at H
   have c5b0:decide (0≤a1_0)=true:=decide_eq_true c5
   clear c5
   by_cases c6:a1_0<a0
   ·rw [if_pos c6] at H
    have c6b0:decide (a1_0<a0)=true:=decide_eq_true c6
    clear c6
    replace H:=Option.bind_eq_some_iff.mp H
    obtain ⟨t103,A70,H⟩:=H
    replace H:(if t103=true then (some (decide ((l1_1.length:Int)≤13))) else (some false))=some r:=H
    have A7:=mA A70
    clear A70
    by_cases c8:t103=true
    ·subst c8
     have H1:(some (decide ((l1_1.length:Int)≤13)))=some r:=by rw [if_pos rfl] at H;exact H
     clear H
     have H:=H1
     clear H1
     obtain rfl:=Option.some.inj H
     go_enter Try.func41,Try.ntmps41
     go_wp2_with (first|((with_reducible refine gate_dst (N:=3) rfl ?_);(try (refine gate_guard (by rfl) ?_;dsimp only));refine box_event ?hg (N:=3) ?hd (cs:=#[.int .i64 a1_0,.slice A1_1 l1_1.length c1_1]) (t:=42) ?hr ?_;(case hd=>rfl);(case hg=>rfl);(case hr=>first|(go_simp;done)|(go_simp;rfl));intro gb101 hg w9 hbox hb;have n0_:=mA (bT (by repeat first|(with_reducible first|exact HB.out|apply bA|apply bN|apply bD)|exact HB.out) hb);have n1_:=mA (hbox);have n2_:=mA ((by rw [hg];exact (bZ (by repeat first|(with_reducible first|exact HB.out|apply bA|apply bN|apply bD)|exact HB.out)):w.heap.size≤gb101));have n3_:=mA ((by rw [hg];exact (bZ (by repeat first|(with_reducible first|exact HB.out|apply bA|apply bN|apply bD)|exact HB.out)):w.heap.size≤gb101));clear HB;have HB:=n0_;have BK101:=n1_;have GW101:=n2_;have GE101:=n3_;clear n0_ n1_ n2_ n3_ hb hbox hg)|((with_reducible refine gate_callee (f:=42) rfl ?_);refine goesL_ (some 6) rfl rfl Try.func42 (by kernel_rfl) rfl #[.int .i64 a0] rfl (by (try simp only [mT,mC,mN]);first|done|rfl|(simp only [lD,lT];rfl)) ?_;(with_reducible refine (impl_peopleOk.calls a0 true _ A3.out).mono ?_);rintro e w' ⟨rfl,⟨nd,rfl⟩⟩;refine ⟨_,rfl,?_⟩;have hcz10_0:w9.cell? ⟨gb101,0,none⟩=some (.int .i64 a1_0):=(kC BK101.out 0).trans rfl;have hcz10_1:w9.cell? ⟨gb101,1,none⟩=some (.slice A1_1 l1_1.length c1_1):=(kC BK101.out 1).trans rfl;have hfz10_0:=kF BK101.out 0;have hfz10_1:=kF BK101.out 1)|(go_at_call 52;(with_reducible refine (impl_TermOk.calls k a0 _ _ l1_1 true _ ?side1 ?side2 A7.out).mono ?_);(case side1=>repeat (first|exact (Kd.C_below HR1_1.out (by repeat first|(with_reducible first|exact HB.out|apply bA|apply bN|apply bD|refine bS ?_ GE101.out)|exact HB.out))|(with_reducible refine cA ?_ _)|(with_reducible refine cN ?_ _)|(with_reducible refine cD ?_)));(case side2=>exact HC1_1.out);rintro e w11 ⟨rfl,hb⟩;have n0_:=mA (kB (g:=gb101) (o:=.cells #[.int .i64 a1_0,.slice A1_1 l1_1.length c1_1] 42 (0,0)) (by (with_reducible repeat first|refine kN ?_ _|refine kD ?_|refine kA ?_ _);exact BK101.out) hb);have n1_:=mA (bT (by repeat first|(with_reducible first|exact HB.out|apply bA|apply bN|apply bD|refine bS ?_ GE101.out)|exact HB.out) hb);clear BK101 HB;have BK101:=n0_;have HB:=n1_;clear n0_ n1_;(try clear hb);(try clear hb2);(try clear hk);(try clear hi);have hcz12_0:w11.cell? ⟨gb101,0,none⟩=some (.int .i64 a1_0):=(kC BK101.out 0).trans rfl;have hcz12_1:w11.cell? ⟨gb101,1,none⟩=some (.slice A1_1 l1_1.length c1_1):=(kC BK101.out 1).trans rfl;have hfz12_0:=kF BK101.out 0;have hfz12_1:=kF BK101.out 1))
     go_ret
     exact ⟨by first|rfl|(simp [errW_none,errW_some]<;>rfl)|(simp [*, errW_none,errW_some]<;>rfl),by repeat (first|(with_reducible first|exact HB.out|apply bA|apply bN|apply bD|refine bS ?_ GE101.out)|exact HB.out)⟩
    ·replace c8:=Bool.eq_false_iff.mpr c8
     subst c8
     have H1:(some false)=some r:=by rw [if_neg (show ¬ (false=true) by decide)] at H;exact H
     clear H
     have H:=H1
     clear H1
     obtain rfl:=Option.some.inj H
     go_enter Try.func41,Try.ntmps41
     go_wp2_with (first|((with_reducible refine gate_dst (N:=3) rfl ?_);(try (refine gate_guard (by rfl) ?_;dsimp only));refine box_event ?hg (N:=3) ?hd (cs:=#[.int .i64 a1_0,.slice A1_1 l1_1.length c1_1]) (t:=42) ?hr ?_;(case hd=>rfl);(case hg=>rfl);(case hr=>first|(go_simp;done)|(go_simp;rfl));intro gb101 hg w13 hbox hb;have n0_:=mA (bT (by repeat first|(with_reducible first|exact HB.out|apply bA|apply bN|apply bD)|exact HB.out) hb);have n1_:=mA (hbox);have n2_:=mA ((by rw [hg];exact (bZ (by repeat first|(with_reducible first|exact HB.out|apply bA|apply bN|apply bD)|exact HB.out)):w.heap.size≤gb101));have n3_:=mA ((by rw [hg];exact (bZ (by repeat first|(with_reducible first|exact HB.out|apply bA|apply bN|apply bD)|exact HB.out)):w.heap.size≤gb101));clear HB;have HB:=n0_;have BK101:=n1_;have GW101:=n2_;have GE101:=n3_;clear n0_ n1_ n2_ n3_ hb hbox hg)|((with_reducible refine gate_callee (f:=42) rfl ?_);refine goesL_ (some 6) rfl rfl Try.func42 (by kernel_rfl) rfl #[.int .i64 a0] rfl (by (try simp only [mT,mC,mN]);first|done|rfl|(simp only [lD,lT];rfl)) ?_;(with_reducible refine (impl_peopleOk.calls a0 true _ A3.out).mono ?_);rintro e w' ⟨rfl,⟨nd,rfl⟩⟩;refine ⟨_,rfl,?_⟩;have hcz14_0:w13.cell? ⟨gb101,0,none⟩=some (.int .i64 a1_0):=(kC BK101.out 0).trans rfl;have hcz14_1:w13.cell? ⟨gb101,1,none⟩=some (.slice A1_1 l1_1.length c1_1):=(kC BK101.out 1).trans rfl;have hfz14_0:=kF BK101.out 0;have hfz14_1:=kF BK101.out 1)|(go_at_call 52;(with_reducible refine (impl_TermOk.calls k a0 _ _ l1_1 false _ ?side1 ?side2 A7.out).mono ?_);(case side1=>repeat (first|exact (Kd.C_below HR1_1.out (by repeat first|(with_reducible first|exact HB.out|apply bA|apply bN|apply bD|refine bS ?_ GE101.out)|exact HB.out))|(with_reducible refine cA ?_ _)|(with_reducible refine cN ?_ _)|(with_reducible refine cD ?_)));(case side2=>exact HC1_1.out);rintro e w15 ⟨rfl,hb⟩;have n0_:=mA (kB (g:=gb101) (o:=.cells #[.int .i64 a1_0,.slice A1_1 l1_1.length c1_1] 42 (0,0)) (by (with_reducible repeat first|refine kN ?_ _|refine kD ?_|refine kA ?_ _);exact BK101.out) hb);have n1_:=mA (bT (by repeat first|(with_reducible first|exact HB.out|apply bA|apply bN|apply bD|refine bS ?_ GE101.out)|exact HB.out) hb);clear BK101 HB;have BK101:=n0_;have HB:=n1_;clear n0_ n1_;(try clear hb);(try clear hb2);(try clear hk);(try clear hi)))
     go_ret
     exact ⟨by first|rfl|(simp [errW_none,errW_some]<;>rfl)|(simp [*, errW_none,errW_some]<;>rfl),by repeat (first|(with_reducible first|exact HB.out|apply bA|apply bN|apply bD|refine bS ?_ GE101.out)|exact HB.out)⟩
   ·rw [if_neg c6] at H
    have c6b0:decide (a1_0<a0)=false:=decide_eq_false c6
    clear c6
    obtain rfl:=Option.some.inj H
    go_enter Try.func41,Try.ntmps41
    go_wp2_with (first|((with_reducible refine gate_dst (N:=3) rfl ?_);(try (refine gate_guard (by rfl) ?_;dsimp only));refine box_event ?hg (N:=3) ?hd (cs:=#[.int .i64 a1_0,.slice A1_1 l1_1.length c1_1]) (t:=42) ?hr ?_;(case hd=>rfl);(case hg=>rfl);(case hr=>first|(go_simp;done)|(go_simp;rfl));intro gb101 hg w16 hbox hb;have n0_:=mA (bT (by repeat first|(with_reducible first|exact HB.out|apply bA|apply bN|apply bD)|exact HB.out) hb);have n1_:=mA (hbox);have n2_:=mA ((by rw [hg];exact (bZ (by repeat first|(with_reducible first|exact HB.out|apply bA|apply bN|apply bD)|exact HB.out)):w.heap.size≤gb101));have n3_:=mA ((by rw [hg];exact (bZ (by repeat first|(with_reducible first|exact HB.out|apply bA|apply bN|apply bD)|exact HB.out)):w.heap.size≤gb101));clear HB;have HB:=n0_;have BK101:=n1_;have GW101:=n2_;have GE101:=n3_;clear n0_ n1_ n2_ n3_ hb hbox hg)|((with_reducible refine gate_callee (f:=42) rfl ?_);refine goesL_ (some 6) rfl rfl Try.func42 (by kernel_rfl) rfl #[.int .i64 a0] rfl (by (try simp only [mT,mC,mN]);first|done|rfl|(simp only [lD,lT];rfl)) ?_;(with_reducible refine (impl_peopleOk.calls a0 true _ A3.out).mono ?_);rintro e w' ⟨rfl,⟨nd,rfl⟩⟩;refine ⟨_,rfl,?_⟩;have hcz17_0:w16.cell? ⟨gb101,0,none⟩=some (.int .i64 a1_0):=(kC BK101.out 0).trans rfl;have hcz17_1:w16.cell? ⟨gb101,1,none⟩=some (.slice A1_1 l1_1.length c1_1):=(kC BK101.out 1).trans rfl;have hfz17_0:=kF BK101.out 0;have hfz17_1:=kF BK101.out 1))
    go_ret
    exact ⟨by first|rfl|(simp [errW_none,errW_some]<;>rfl)|(simp [*, errW_none,errW_some]<;>rfl),by repeat (first|(with_reducible first|exact HB.out|apply bA|apply bN|apply bD|refine bS ?_ GE101.out)|exact HB.out)⟩
  ·rw [if_neg c5] at H
   have c5b0:decide (0≤a1_0)=false:=decide_eq_false c5
   clear c5
   obtain rfl:=Option.some.inj H
   go_enter Try.func41,Try.ntmps41
   go_wp2_with (first|((with_reducible refine gate_dst (N:=3) rfl ?_);(try (refine gate_guard (by rfl) ?_;dsimp only));refine box_event ?hg (N:=3) ?hd (cs:=#[.int .i64 a1_0,.slice A1_1 l1_1.length c1_1]) (t:=42) ?hr ?_;(case hd=>rfl);(case hg=>rfl);(case hr=>first|(go_simp;done)|(go_simp;rfl));intro gb101 hg w18 hbox hb;have n0_:=mA (bT (by repeat first|(with_reducible first|exact HB.out|apply bA|apply bN|apply bD)|exact HB.out) hb);have n1_:=mA (hbox);have n2_:=mA ((by rw [hg];exact (bZ (by repeat first|(with_reducible first|exact HB.out|apply bA|apply bN|apply bD)|exact HB.out)):w.heap.size≤gb101));have n3_:=mA ((by rw [hg];exact (bZ (by repeat first|(with_reducible first|exact HB.out|apply bA|apply bN|apply bD)|exact HB.out)):w.heap.size≤gb101));clear HB;have HB:=n0_;have BK101:=n1_;have GW101:=n2_;have GE101:=n3_;clear n0_ n1_ n2_ n3_ hb hbox hg)|((with_reducible refine gate_callee (f:=42) rfl ?_);refine goesL_ (some 6) rfl rfl Try.func42 (by kernel_rfl) rfl #[.int .i64 a0] rfl (by (try simp only [mT,mC,mN]);first|done|rfl|(simp only [lD,lT];rfl)) ?_;(with_reducible refine (impl_peopleOk.calls a0 true _ A3.out).mono ?_);rintro e w' ⟨rfl,⟨nd,rfl⟩⟩;refine ⟨_,rfl,?_⟩;have hcz19_0:w18.cell? ⟨gb101,0,none⟩=some (.int .i64 a1_0):=(kC BK101.out 0).trans rfl;have hcz19_1:w18.cell? ⟨gb101,1,none⟩=some (.slice A1_1 l1_1.length c1_1):=(kC BK101.out 1).trans rfl;have hfz19_0:=kF BK101.out 0;have hfz19_1:=kF BK101.out 1))
   go_ret
   exact ⟨by first|rfl|(simp [errW_none,errW_some]<;>rfl)|(simp [*, errW_none,errW_some]<;>rfl),by repeat (first|(with_reducible first|exact HB.out|apply bA|apply bN|apply bD|refine bS ?_ GE101.out)|exact HB.out)⟩
 ·replace c4:=Bool.eq_false_iff.mpr c4
  subst c4
  have H1:(some false)=some r:=by rw [if_neg (show ¬ (false=true) by decide)] at H;exact H
  clear H
  have H:=H1
  clear H1
  obtain rfl:=Option.some.inj H
  go_enter Try.func41,Try.ntmps41
  go_wp2_with (first|((with_reducible refine gate_dst (N:=3) rfl ?_);(try (refine gate_guard (by rfl) ?_;dsimp only));refine box_event ?hg (N:=3) ?hd (cs:=#[.int .i64 a1_0,.slice A1_1 l1_1.length c1_1]) (t:=42) ?hr ?_;(case hd=>rfl);(case hg=>rfl);(case hr=>first|(go_simp;done)|(go_simp;rfl));intro gb101 hg w20 hbox hb;have n0_:=mA (bT (by repeat first|(with_reducible first|exact HB.out|apply bA|apply bN|apply bD)|exact HB.out) hb);have n1_:=mA (hbox);have n2_:=mA ((by rw [hg];exact (bZ (by repeat first|(with_reducible first|exact HB.out|apply bA|apply bN|apply bD)|exact HB.out)):w.heap.size≤gb101));have n3_:=mA ((by rw [hg];exact (bZ (by repeat first|(with_reducible first|exact HB.out|apply bA|apply bN|apply bD)|exact HB.out)):w.heap.size≤gb101));clear HB;have HB:=n0_;have BK101:=n1_;have GW101:=n2_;have GE101:=n3_;clear n0_ n1_ n2_ n3_ hb hbox hg)|((with_reducible refine gate_callee (f:=42) rfl ?_);refine goesL_ (some 6) rfl rfl Try.func42 (by kernel_rfl) rfl #[.int .i64 a0] rfl (by (try simp only [mT,mC,mN]);first|done|rfl|(simp only [lD,lT];rfl)) ?_;(with_reducible refine (impl_peopleOk.calls a0 false _ A3.out).mono ?_);rintro e w' ⟨rfl,⟨nd,rfl⟩⟩;refine ⟨_,rfl,?_⟩))
  go_ret
  exact ⟨by first|rfl|(simp [errW_none,errW_some]<;>rfl)|(simp [*, errW_none,errW_some]<;>rfl),by repeat (first|(with_reducible first|exact HB.out|apply bA|apply bN|apply bD|refine bS ?_ GE101.out)|exact HB.out)⟩
/-! ### impl_StoryOk: function 25 -/
def impl_StoryOk.l0:Nat→Int→List (S42)→List (S42)→Int→Int→Option (Bool)
 | 0,_,_,_,_,_=>none
 | k+1,x0,x1,x7,x8,x9=>if x9<x8 then (if 0≤x9 then (if x9<(x7.length:Int) then ((impl_ClaimOk.f k x0 ((rd_T42 x7 x9).f0) ((rd_T42 x7 x9).f1)).bind fun t103=>(if t103=true then (impl_StoryOk.l0 k x0 x1 x7 x8 (wrap64 (x9+1))) else (some false))) else (none)) else (none)) else ((impl_peopleOk.f x0).bind fun t104=>(if t104=true then (some (decide ((x1.length:Int)≤6))) else (some false)))
def impl_StoryOk.f (k:Nat) (a0:Int) (l1:List (S42)):Option (Bool):=impl_StoryOk.l0 k a0 l1 l1 (l1.length:Int) 0
theorem impl_StoryOk.mono_l : ∀ k,(∀ y0 y1 y2 y3 y4,LeO (impl_StoryOk.l0 k y0 y1 y2 y3 y4) (impl_StoryOk.l0 (k+1) y0 y1 y2 y3 y4))
 | 0=>fun _ _ _ _ _ r h=>by simp [impl_StoryOk.l0] at h
 | k+1=>by
  have ih0:=impl_StoryOk.mono_l k
  ·intro y0 y1 y2 y3 y4
   unfold impl_StoryOk.l0
   repeat' first
   | (with_reducible exact ih0 _ _ _ _ _)
   | (with_reducible exact impl_ClaimOk.mono _ _ _ _)
   | (with_reducible exact LeO.refl _)
   | (with_reducible exact LeO.none _)
   | (with_reducible refine LeO.ite ?_ ?_)
   | (with_reducible refine LeO.bind ?_ (fun _=>?_))
   | exact ih0 _ _ _ _ _
   | exact impl_ClaimOk.mono _ _ _ _
   | exact LeO.none _
   | refine LeO.ite ?_ ?_
   | refine LeO.bind ?_ (fun _=>?_)
theorem impl_StoryOk.mono : ∀ a0 a1 k,LeO (impl_StoryOk.f k a0 a1) (impl_StoryOk.f (k+1) a0 a1):=by
 intro a0 a1 k
 have ih0:=impl_StoryOk.mono_l k
 unfold impl_StoryOk.f
 repeat' first
   | (with_reducible exact ih0 _ _ _ _ _)
   | (with_reducible exact impl_ClaimOk.mono _ _ _ _)
   | (with_reducible exact LeO.refl _)
   | (with_reducible exact LeO.none _)
   | (with_reducible refine LeO.ite ?_ ?_)
   | (with_reducible refine LeO.bind ?_ (fun _=>?_))
   | exact ih0 _ _ _ _ _
   | exact impl_ClaimOk.mono _ _ _ _
   | exact LeO.none _
   | refine LeO.ite ?_ ?_
   | refine LeO.bind ?_ (fun _=>?_)
set_option maxHeartbeats 8000000 in
set_option maxRecDepth 100000 in
theorem impl_StoryOk.calls (k:Nat) (a0:Int) (A1:Option Addr) (c1:Nat) (l1:List (S42)) (r:Bool) (w:World) (hr1:Kd.C k42 w A1 l1.length l1) (hc1:l1.length≤c1) (h:impl_StoryOk.f k a0 l1=some r) :
  Calls Try.prog 25 #[.int .i64 a0,.slice A1 l1.length c1] w fun e w'=>e = .returned (.bool r)∧Below w.heap.size w w':=by
 have hu42:=Try.underlying42
 have HR1:=mA hr1
 have HC1:=mA hc1
 clear hr1 hc1
 have HB:=mA (Below.refl w.heap.size w)
 have H:(impl_StoryOk.l0 k a0 l1 l1 (l1.length:Int) 0)=some r:=h
 clear h
 have H':=mA H
 clear H
 go_enter Try.func25,Try.ntmps25
 go_wp2
 go_loopg [9] k (fun kq v9 w'=>∃ (x9_1:Int),v9 = .int .i64 x9_1∧Aside0 (impl_StoryOk.l0 kq a0 l1 l1 (l1.length:Int) x9_1=some r)∧Aside0 (kq≤k)∧Aside0 (Below w.heap.size w w'))
 case atStart=>exact ⟨(0),(by first|rfl|(simp;done)|(simp [*];done)),H',⟨Nat.le_refl _⟩,⟨by repeat (first|(with_reducible first|exact HB.out|apply bA|apply bN|apply bD)|exact HB.out)⟩⟩
 case round =>
  clear H'
  try clear c1
  try clear c2
  try clear p2
  obtain ⟨x9_1,rfl,HA,HK1,HB⟩:=hrel
  cases gk with
  | zero=>exact absurd HA.out (by simp [impl_StoryOk.l0])
  | succ k1 =>
   have H:=HA.out
   clear HA
   simp only [impl_StoryOk.l0] at H
   by_cases c3:x9_1<(l1.length:Int)
   ·rw [if_pos c3] at H
    have c3b0:decide (x9_1<(l1.length:Int))=true:=decide_eq_true c3
    clear c3
    by_cases c4:0≤x9_1
    ·rw [if_pos c4] at H
     have c4b0:decide (0≤x9_1)=true:=decide_eq_true c4
     clear c4
     by_cases c5:x9_1<(l1.length:Int)
     ·rw [if_pos c5] at H
      have c5b0:decide (x9_1<(l1.length:Int))=true:=decide_eq_true c5
      clear c5
      replace H:=Option.bind_eq_some_iff.mp H
      obtain ⟨t103,A60,H⟩:=H
      replace H:(if t103=true then (impl_StoryOk.l0 k1 a0 l1 l1 (l1.length:Int) (wrap64 (x9_1+1))) else (some false))=some r:=H
      have A6:=mA A60
      clear A60
      by_cases c7:t103=true
      ·subst c7
       have H1:(impl_StoryOk.l0 k1 a0 l1 l1 (l1.length:Int) (wrap64 (x9_1+1)))=some r:=by rw [if_pos rfl] at H;exact H
       clear H
       have H:=H1
       clear H1
       have H':=mA H
       clear H
       have p101:0≤(x9_1:Int):=of_decide_eq_true (by first|with_reducible assumption|assumption)
       have q101:x9_1<(l1.length:Int):=of_decide_eq_true (by first|with_reducible assumption|assumption)
       obtain ⟨ad101,A101_1,c101_1,e101,hx101_0,hx101_1,hl101_1,hi101_1⟩:=at_T42 HR1.out x9_1 p101 q101
       cases e101
       replace hx101_0:=(HB.out.cell (World.block_lt_of_cell? w _ hx101_0)).trans hx101_0
       replace hx101_1:=(HB.out.cell (World.block_lt_of_cell? w _ hx101_1)).trans hx101_1
       have HR101_1:=mA hi101_1
       have HC101_1:=mA hl101_1
       clear hi101_1 hl101_1
       replace p101:=eq_true p101
       replace q101:=eq_true q101
       go_wp2_with (first|((with_reducible refine gate_dst (N:=6) rfl ?_);(try (refine gate_guard (by rfl) ?_;dsimp only));refine box_event ?hg (N:=6) ?hd (cs:=#[.int .i64 0,.slice none 0 0]) (t:=42) ?hr ?_;(case hd=>rfl);(case hg=>rfl);(case hr=>first|(go_simp;done)|(go_simp;rfl));intro gb102 hg w8 hbox hb;have n0_:=mA (bT (by repeat first|(with_reducible first|exact HB.out|apply bA|apply bN|apply bD)|exact HB.out) hb);have n1_:=mA (hbox);have n2_:=mA ((by rw [hg];exact (bZ (by repeat first|(with_reducible first|exact HB.out|apply bA|apply bN|apply bD)|exact HB.out)):w.heap.size≤gb102));have n3_:=mA ((by rw [hg];exact (bZ (by repeat first|(with_reducible first|exact HB.out|apply bA|apply bN|apply bD)|exact HB.out)):w.heap.size≤gb102));clear HB;have HB:=n0_;have BK102:=n1_;have GW102:=n2_;have GE102:=n3_;clear n0_ n1_ n2_ n3_ hb hbox hg;have hcz9_0:w8.cell? ⟨gb102,0,none⟩=some (.int .i64 0):=(kC BK102.out 0).trans rfl;have hcz9_1:w8.cell? ⟨gb102,1,none⟩=some (.slice none 0 0):=(kC BK102.out 1).trans rfl;have hfz9_0:=kF BK102.out 0;have hfz9_1:=kF BK102.out 1)|((with_reducible refine gate_callee (f:=41) rfl ?_);refine goesL_ (some 15) rfl rfl Try.func41 (by kernel_rfl) rfl #[.int .i64 a0,.agg #[.int .i64 ((rd_T42 l1 x9_1).f0),.slice A101_1 ((rd_T42 l1 x9_1).f1).length c101_1]] rfl (by (try simp only [mT,mC,mN]);first|done|rfl|(simp only [lD,lT];rfl)) ?_;(with_reducible refine (impl_ClaimOk.calls k1 a0 ((rd_T42 l1 x9_1).f0) _ _ ((rd_T42 l1 x9_1).f1) true _ ?side1 ?side2 A6.out).mono ?_);(case side1=>exact Kd.C_below HR101_1.out (by repeat first|(with_reducible first|exact HB.out|apply bA|apply bN|apply bD|refine bS ?_ GE102.out)|exact HB.out));(case side2=>exact HC101_1.out);rintro e w10 ⟨rfl,hb⟩;refine ⟨_,rfl,?_⟩;have n0_:=mA (kB (g:=gb102) (o:=.cells #[.int .i64 ((rd_T42 l1 x9_1).f0),.slice A101_1 ((rd_T42 l1 x9_1).f1).length c101_1] 42 (0,0)) (by (with_reducible repeat first|refine kN ?_ _|refine kD ?_|refine kA ?_ _);refine kP (cs:=#[.int .i64 ((rd_T42 l1 x9_1).f0),.slice none 0 0]) ?_ 1 _ rfl;(with_reducible repeat first|refine kN ?_ _|refine kD ?_|refine kA ?_ _);refine kP (cs:=#[.int .i64 0,.slice none 0 0]) ?_ 0 _ rfl;(with_reducible repeat first|refine kN ?_ _|refine kD ?_|refine kA ?_ _);exact BK102.out) hb);have n1_:=mA (bT (by repeat first|(with_reducible first|exact HB.out|apply bA|apply bN|apply bD|refine bS ?_ GE102.out)|exact HB.out) hb);clear BK102 HB;have BK102:=n0_;have HB:=n1_;clear n0_ n1_;(try clear hb);(try clear hb2);(try clear hk);(try clear hi)))
       go_roundg k1
       case measure=>have:=HK1.out;omega
       case rel=>exact ⟨(wrap64 (x9_1+1)),(by first|rfl|(simp;done)|(simp [*];done)),H',⟨by have:=HK1.out;omega⟩,⟨by repeat (first|(with_reducible first|exact HB.out|apply bA|apply bN|apply bD|refine bS ?_ GE102.out)|exact HB.out)⟩⟩
      ·replace c7:=Bool.eq_false_iff.mpr c7
       subst c7
       have H1:(some false)=some r:=by rw [if_neg (show ¬ (false=true) by decide)] at H;exact H
       clear H
       have H:=H1
       clear H1
       obtain rfl:=Option.some.inj H
       have p101:0≤(x9_1:Int):=of_decide_eq_true (by first|with_reducible assumption|assumption)
       have q101:x9_1<(l1.length:Int):=of_decide_eq_true (by first|with_reducible assumption|assumption)
       obtain ⟨ad101,A101_1,c101_1,e101,hx101_0,hx101_1,hl101_1,hi101_1⟩:=at_T42 HR1.out x9_1 p101 q101
       cases e101
       replace hx101_0:=(HB.out.cell (World.block_lt_of_cell? w _ hx101_0)).trans hx101_0
       replace hx101_1:=(HB.out.cell (World.block_lt_of_cell? w _ hx101_1)).trans hx101_1
       have HR101_1:=mA hi101_1
       have HC101_1:=mA hl101_1
       clear hi101_1 hl101_1
       replace p101:=eq_true p101
       replace q101:=eq_true q101
       go_wp2_with (first|((with_reducible refine gate_dst (N:=6) rfl ?_);(try (refine gate_guard (by rfl) ?_;dsimp only));refine box_event ?hg (N:=6) ?hd (cs:=#[.int .i64 0,.slice none 0 0]) (t:=42) ?hr ?_;(case hd=>rfl);(case hg=>rfl);(case hr=>first|(go_simp;done)|(go_simp;rfl));intro gb102 hg w11 hbox hb;have n0_:=mA (bT (by repeat first|(with_reducible first|exact HB.out|apply bA|apply bN|apply bD)|exact HB.out) hb);have n1_:=mA (hbox);have n2_:=mA ((by rw [hg];exact (bZ (by repeat first|(with_reducible first|exact HB.out|apply bA|apply bN|apply bD)|exact HB.out)):w.heap.size≤gb102));have n3_:=mA ((by rw [hg];exact (bZ (by repeat first|(with_reducible first|exact HB.out|apply bA|apply bN|apply bD)|exact HB.out)):w.heap.size≤gb102));clear HB;have HB:=n0_;have BK102:=n1_;have GW102:=n2_;have GE102:=n3_;clear n0_ n1_ n2_ n3_ hb hbox hg;have hcz12_0:w11.cell? ⟨gb102,0,none⟩=some (.int .i64 0):=(kC BK102.out 0).trans rfl;have hcz12_1:w11.cell? ⟨gb102,1,none⟩=some (.slice none 0 0):=(kC BK102.out 1).trans rfl;have hfz12_0:=kF BK102.out 0;have hfz12_1:=kF BK102.out 1)|((with_reducible refine gate_callee (f:=41) rfl ?_);refine goesL_ (some 15) rfl rfl Try.func41 (by kernel_rfl) rfl #[.int .i64 a0,.agg #[.int .i64 ((rd_T42 l1 x9_1).f0),.slice A101_1 ((rd_T42 l1 x9_1).f1).length c101_1]] rfl (by (try simp only [mT,mC,mN]);first|done|rfl|(simp only [lD,lT];rfl)) ?_;(with_reducible refine (impl_ClaimOk.calls k1 a0 ((rd_T42 l1 x9_1).f0) _ _ ((rd_T42 l1 x9_1).f1) false _ ?side1 ?side2 A6.out).mono ?_);(case side1=>exact Kd.C_below HR101_1.out (by repeat first|(with_reducible first|exact HB.out|apply bA|apply bN|apply bD|refine bS ?_ GE102.out)|exact HB.out));(case side2=>exact HC101_1.out);rintro e w13 ⟨rfl,hb⟩;refine ⟨_,rfl,?_⟩;have n0_:=mA (kB (g:=gb102) (o:=.cells #[.int .i64 ((rd_T42 l1 x9_1).f0),.slice A101_1 ((rd_T42 l1 x9_1).f1).length c101_1] 42 (0,0)) (by (with_reducible repeat first|refine kN ?_ _|refine kD ?_|refine kA ?_ _);refine kP (cs:=#[.int .i64 ((rd_T42 l1 x9_1).f0),.slice none 0 0]) ?_ 1 _ rfl;(with_reducible repeat first|refine kN ?_ _|refine kD ?_|refine kA ?_ _);refine kP (cs:=#[.int .i64 0,.slice none 0 0]) ?_ 0 _ rfl;(with_reducible repeat first|refine kN ?_ _|refine kD ?_|refine kA ?_ _);exact BK102.out) hb);have n1_:=mA (bT (by repeat first|(with_reducible first|exact HB.out|apply bA|apply bN|apply bD|refine bS ?_ GE102.out)|exact HB.out) hb);clear BK102 HB;have BK102:=n0_;have HB:=n1_;clear n0_ n1_;(try clear hb);(try clear hb2);(try clear hk);(try clear hi)))
       go_ret
       exact ⟨by first|rfl|(simp [errW_none,errW_some]<;>rfl)|(simp [*, errW_none,errW_some]<;>rfl),by repeat (first|(with_reducible first|exact HB.out|apply bA|apply bN|apply bD|refine bS ?_ GE102.out)|exact HB.out)⟩
     ·rw [if_neg c5] at H
      exact absurd H (by simp)
    ·rw [if_neg c4] at H
     exact absurd H (by simp)
   ·rw [if_neg c3] at H
    have c3b0:decide (x9_1<(l1.length:Int))=false:=decide_eq_false c3
    clear c3
    replace H:=Option.bind_eq_some_iff.mp H
    obtain ⟨t104,A140,H⟩:=H
    replace H:(if t104=true then (some (decide ((l1.length:Int)≤6))) else (some false))=some r:=H
    have A14:=mA A140
    clear A140
    by_cases c15:t104=true
    ·subst c15
     have H1:(some (decide ((l1.length:Int)≤6)))=some r:=by rw [if_pos rfl] at H;exact H
     clear H
     have H:=H1
     clear H1
     obtain rfl:=Option.some.inj H
     go_wp2_with (first|((with_reducible refine gate_callee (f:=42) rfl ?_);refine goesL_ (some 19) rfl rfl Try.func42 (by kernel_rfl) rfl #[.int .i64 a0] rfl (by (try simp only [mT,mC,mN]);first|done|rfl|(simp only [lD,lT];rfl)) ?_;(with_reducible refine (impl_peopleOk.calls a0 true _ A14.out).mono ?_);rintro e w' ⟨rfl,⟨nd,rfl⟩⟩;refine ⟨_,rfl,?_⟩))
     go_ret
     exact ⟨by first|rfl|(simp [errW_none,errW_some]<;>rfl)|(simp [*, errW_none,errW_some]<;>rfl),by repeat (first|(with_reducible first|exact HB.out|apply bA|apply bN|apply bD)|exact HB.out)⟩
    ·replace c15:=Bool.eq_false_iff.mpr c15
     subst c15
     have H1:(some false)=some r:=by rw [if_neg (show ¬ (false=true) by decide)] at H;exact H
     clear H
     have H:=H1
     clear H1
     obtain rfl:=Option.some.inj H
     go_wp2_with (first|((with_reducible refine gate_callee (f:=42) rfl ?_);refine goesL_ (some 19) rfl rfl Try.func42 (by kernel_rfl) rfl #[.int .i64 a0] rfl (by (try simp only [mT,mC,mN]);first|done|rfl|(simp only [lD,lT];rfl)) ?_;(with_reducible refine (impl_peopleOk.calls a0 false _ A14.out).mono ?_);rintro e w' ⟨rfl,⟨nd,rfl⟩⟩;refine ⟨_,rfl,?_⟩))
     go_ret
     exact ⟨by first|rfl|(simp [errW_none,errW_some]<;>rfl)|(simp [*, errW_none,errW_some]<;>rfl),by repeat (first|(with_reducible first|exact HB.out|apply bA|apply bN|apply bD)|exact HB.out)⟩
/-! ### impl_Claim: function 44 -/
def impl_Claim.f (l0:List (S42)):Option ((List (S42))):=(some (([]:List (S42)):List (S42))).bind fun y101=>(if y101.length+l0.length<4398046511104 then (some (y101++l0)) else (none))
set_option maxHeartbeats 8000000 in
set_option maxRecDepth 100000 in
theorem impl_Claim.calls (P0_:Nat→Prop) (A0:Option Addr) (c0:Nat) (l0:List (S42)) (r:List (S42)) (w:World) (hs0:Kd.V k42 42 w w.heap.size (fun k_=>P0_ k_) (.slice A0 l0.length c0) l0) (h:impl_Claim.f l0=some r) :
  Calls Try.prog 44 #[.slice A0 l0.length c0] w fun e w'=>∃ v0_:Value,e = .returned (v0_)∧Kd.N k42 42 w' w.heap.size (fun k_=>(P0_ k_∨w.heap.size≤k_)) v0_ r∧Below w.heap.size w w':=by
 have HO0:=mA (show Kd.V k42 42 w w.heap.size (fun k_=>(P0_ k_∨w.heap.size≤k_)) (.slice A0 l0.length c0) l0 from Kd.V_mono hs0 (fun k_ hk=>.inl hk))
 have HB:=mA (Below.refl w.heap.size w)
 have H:((some (([]:List (S42)):List (S42))).bind fun y101=>(if y101.length+l0.length<4398046511104 then (some (y101++l0)) else (none)))=some r:=h
 clear h
 by_cases hA0_:A0=none
 ·subst hA0_
  have hl0_:l0.length=0:=(by obtain ⟨A_,c_,e_,_,hF_⟩:=HO0.out;injection e_ with e1_ _ _;have h1_:=Kd.F_now hF_;rw [←e1_] at h1_;exact reads_none h1_)
  have hl1_:l0=[]:=List.eq_nil_of_length_eq_zero hl0_
  subst hl1_
  have hr_:r=[]:=by simpa using H.symm
  subst hr_
  have hq_ : ∀ (w_:World) (n_:Nat),(binOp .eql 24 (.slice none n_ c0) (.slice none 0 0)).run Try.prog w_ = .ok (.bool true) w_:=fun w_ n_=>Lib.run_eql_slice_nil (P:=Try.prog) w_ 24 42 none n_ c0 0 0 Try.underlying24
  clear H hl0_
  go_enter Try.func44,Try.ntmps44
  go_wp2
  go_ret
  exact ⟨_,rfl,Kd.N_nil _ _ _ _ _,(by repeat first|(with_reducible first|exact HB.out|apply bA|apply bN|apply bD)|exact HB.out)⟩
 ·obtain ⟨a0_,ha0_⟩ : ∃ a_,A0=some a_:=Option.ne_none_iff_exists'.mp hA0_
  subst ha0_
  have hq_ : ∀ (w_:World) (n_:Nat),(binOp .eql 24 (.slice (some a0_) n_ c0) (.slice none 0 0)).run Try.prog w_ = .ok (.bool false) w_:=fun w_ n_=>Lib.run_eql_slice_nil (P:=Try.prog) w_ 24 42 (some a0_) n_ c0 0 0 Try.underlying24
  clear hA0_
  obtain ⟨y101,hy101⟩ : ∃ y_:List (S42),y_=(([]:List (S42))):=⟨_,rfl⟩
  replace H:(if y101.length+l0.length<4398046511104 then (some (y101++l0)) else (none))=some r:=by first|(rw [hy101];with_reducible exact H)|(have H2_:=(Option.bind_some _ _).symm.trans H;rw [hy101];with_reducible exact H2_)|(have H2_:=(Option.bind_some _ _).symm.trans H;with_reducible exact H2_)|with_reducible exact H|(rw [hy101];exact H)|exact H
  have Ny101:=mA hy101
  clear hy101
  by_cases c2:y101.length+l0.length<4398046511104
  ·rw [if_pos c2] at H
   have LMc2:=mA c2
   clear c2
   obtain ⟨y104,hy104⟩ : ∃ y_:List (S42),y_=(y101++l0):=⟨_,rfl⟩
   replace H:(some y104)=some r:=by first|(rw [hy104];with_reducible exact H)|(have H2_:=(Option.bind_some _ _).symm.trans H;rw [hy104];with_reducible exact H2_)|(have H2_:=(Option.bind_some _ _).symm.trans H;with_reducible exact H2_)|with_reducible exact H|(rw [hy104];exact H)|exact H
   have Ny104:=mA hy104
   clear hy104
   obtain rfl:=Option.some.inj H
   go_enter Try.func44,Try.ntmps44
   go_wp2_with (first|((with_reducible refine gate_dst (N:=5) rfl ?_);refine Kd.N_lit k42 _ 42 ?hg (N':=5) ?hd (xs:=([]:List (S42))) (inner:=[]) (ok:=(fun k_=>(P0_ k_∨w.heap.size≤k_))) (okp:=(fun k_=>(P0_ k_∨w.heap.size≤k_))) ?hr ?hp (fun _ hk=>hk) ((show ∀ k_,w.heap.size≤k_→(fun k_=>(P0_ k_∨w.heap.size≤k_)) k_ from fun k_ hk=>(.inr (Nat.le_trans (bZ (by repeat first|(with_reducible first|exact HB.out|apply bA|apply bN|apply bD)|exact HB.out)) hk))) _ (Nat.le_refl _)) (Below.refl _ _) (Nat.le_refl _) (by simp) ?_;(case hd=>rfl);(case hg=>rfl);(case hr=>first|(go_simp;done)|(go_simp;rfl));(case hp=>exact (Reps.none _ _));intro v102 w3 ho4 hb hg_ hnew_;clear hg_ hnew_;(first|rw [←Ny101.out] at ho4|(simp only [Int.reduceToNat] at ho4;rw [←Ny101.out] at ho4));have n0_:=mA (Kd.V_elder' (by (with_reducible repeat first|apply Kd.V_alloc|apply Kd.V_drewN|apply Kd.V_drew);exact HO0.out) (Kd.N_base ho4) hb);have n1_:=mA (Kd.N_lower ho4 (bZ (by repeat first|(with_reducible first|exact HB.out|apply bA|apply bN|apply bD)|exact HB.out)));have n2_:=mA (bT (by repeat first|(with_reducible first|exact HB.out|apply bA|apply bN|apply bD)|exact HB.out) hb);clear HO0 HB;have HO0:=n0_;have HO103:=n1_;have HB:=n2_;clear n0_ n1_ n2_ hb ho4)|((with_reducible refine gate_builtin (b:=.append) (xs:=#[.tmp 5,.tmp 6]) rfl ?_);at_builtin;refine Kd.N_append_rows k42 (w0:=w) w.heap.size rfl (.tmp 5) (.tmp 6) 24 42 (.agg #[(.int .i64 0),(.slice none 0 0)]) 32 rfl Try.underlying24 info42 rfl (by decide) (by omega) v102 y101 l0 _ _ _ (fun k_=>(P0_ k_∨w.heap.size≤k_)) (fun k_=>((fun k_=>(P0_ k_∨w.heap.size≤k_))) k_∧some k_≠(v102:Value).ownBlock) rfl rfl ?aO ?aR (fun _ hk=>hk) ?aF ?aB ?aS ?aL ?_;(case aR=>exact (by skip;exact Kd.V_F (Kd.V_mono (ok':=(fun k_=>((fun k_=>(P0_ k_∨w.heap.size≤k_))) k_∧some k_≠(v102:Value).ownBlock)) (HO0.out) (fun k_ hk=>⟨hk.1,hk.2⟩))));(case aB=>exact (by repeat first|(with_reducible first|exact HB.out|apply bA|apply bN|apply bD)|exact HB.out));(case aF=>exact (fun k_ hk=>(.inr (Nat.le_trans (bZ (by repeat first|(with_reducible first|exact HB.out|apply bA|apply bN|apply bD)|exact HB.out)) hk))));(case aO=>exact (by (with_reducible repeat first|apply nA|apply nN|apply nD);exact HO103.out));(case aS=>exact (bZ (by repeat first|(with_reducible first|exact HB.out|apply bA|apply bN|apply bD)|exact HB.out)));(case aL=>have:=LMc2.out;omega);intro v105 w5 ho hb hg hat;rw [←Ny104.out] at ho;have n0_:=mA (Kd.V_afterv (ok:=(fun k_=>(P0_ k_∨w.heap.size≤k_))) (by (with_reducible repeat first|apply Kd.V_alloc|apply Kd.V_drewN|apply Kd.V_drew);exact HO0.out) hg hat);have n1_:=mA (hb);have n2_:=mA (ho);clear HO0 HB HO103;have HO0:=n0_;have HB:=n1_;have HO106:=n2_;clear n0_ n1_ n2_ ho hb hg hat))
   go_ret
   exact ⟨_,by first|rfl|(simp [errW_none,errW_some]<;>rfl)|(simp [*, errW_none,errW_some]<;>rfl),by (with_reducible repeat first|apply nA|apply nN|apply nD);exact HO106.out,by repeat (first|(with_reducible first|exact HB.out|apply bA|apply bN|apply bD)|exact HB.out)⟩
  ·rw [if_neg c2] at H
   exact absurd H (by simp)
/-! ### impl_without: function 27 -/
def impl_without.f (l0:List (S42)) (a1:Int):Option ((List (S42))):=if 0≤a1 then (if a1≤(l0.length:Int) then ((impl_Claim.f (l0.take (a1:Int).toNat)).bind fun t106=>(if 0≤(wrap64 (a1+1)) then (if (wrap64 (a1+1))≤(l0.length:Int) then ((some (l0.drop ((wrap64 (a1+1)):Int).toNat:List (S42))).bind fun y109=>(if t106.length+y109.length<4398046511104 then (some (t106++y109)) else (none))) else (none)) else (none))) else (none)) else (none)
def impl_without.T1:Bool×List (List Nat×List Nat):=(true,[([],[]),([],[]),([0,1],[0,1]),([2],[2]),([],[]),([],[]),([5],[5]),([4,6],[4,6]),([3,7,3],[3,7]),([8,8,0,1,2,3,4,5,6,7,8],[8])])
def impl_without.B1:List Nat:=[0,0,3,7,0,0,32,112,255,511]
theorem impl_without.tab1:rtab .any (opsOf Try.f27 1)=impl_without.T1:=by kernel_rfl
theorem impl_without.bits1:waitsOk impl_without.T1.2 impl_without.B1=true:=by kernel_rfl
set_option maxHeartbeats 8000000 in
set_option maxRecDepth 100000 in
theorem impl_without.calls (P0_:Nat→Prop) (A0:Option Addr) (c0:Nat) (l0:List (S42)) (a1:Int) (r:List (S42)) (w:World) (hs0:Kd.V k42 42 w w.heap.size (fun k_=>P0_ k_) (.slice A0 l0.length c0) l0) (h:impl_without.f l0 a1=some r) :
  Calls Try.prog 27 #[.slice A0 l0.length c0,.int .i64 a1] w fun e w'=>∃ v0_:Value,e = .returned (v0_)∧Kd.N k42 42 w' w.heap.size (fun k_=>(P0_ k_∨w.heap.size≤k_)) v0_ r∧Below w.heap.size w w':=by
 have HO0:=mA (show Kd.V k42 42 w w.heap.size (fun k_=>(P0_ k_∨w.heap.size≤k_)) (.slice A0 l0.length c0) l0 from Kd.V_mono hs0 (fun k_ hk=>.inl hk))
 have HB:=mA (Below.refl w.heap.size w)
 have H:(if 0≤a1 then (if a1≤(l0.length:Int) then ((impl_Claim.f (l0.take (a1:Int).toNat)).bind fun t106=>(if 0≤(wrap64 (a1+1)) then (if (wrap64 (a1+1))≤(l0.length:Int) then ((some (l0.drop ((wrap64 (a1+1)):Int).toNat:List (S42))).bind fun y109=>(if t106.length+y109.length<4398046511104 then (some (t106++y109)) else (none))) else (none)) else (none))) else (none)) else (none))=some r:=h
 clear h
 by_cases c3:0≤a1
 ·rw [if_pos c3] at H
  have c3b0:=eq_true c3
  have c3b1:decide (0≤a1)=true:=decide_eq_true c3
  clear c3
  by_cases c4:a1≤(l0.length:Int)
  ·rw [if_pos c4] at H
   have c4b0:=eq_true c4
   have c4b1:decide (a1≤(l0.length:Int))=true:=decide_eq_true c4
   clear c4
   obtain ⟨y101,hy101⟩ : ∃ y_:List (S42),y_=(l0.take (a1:Int).toNat):=⟨_,rfl⟩
   replace H:((impl_Claim.f y101).bind fun t106=>(if 0≤(wrap64 (a1+1)) then (if (wrap64 (a1+1))≤(l0.length:Int) then ((some (l0.drop ((wrap64 (a1+1)):Int).toNat:List (S42))).bind fun y109=>(if t106.length+y109.length<4398046511104 then (some (t106++y109)) else (none))) else (none)) else (none)))=some r:=by first|(rw [hy101];with_reducible exact H)|(have H2_:=(Option.bind_some _ _).symm.trans H;rw [hy101];with_reducible exact H2_)|(have H2_:=(Option.bind_some _ _).symm.trans H;with_reducible exact H2_)|with_reducible exact H|(rw [hy101];exact H)|exact H
   have Ny101:=mA hy101
   clear hy101
   replace H:=Option.bind_eq_some_iff.mp H
   obtain ⟨t106,A50,H⟩:=H
   replace H:(if 0≤(wrap64 (a1+1)) then (if (wrap64 (a1+1))≤(l0.length:Int) then ((some (l0.drop ((wrap64 (a1+1)):Int).toNat:List (S42))).bind fun y109=>(if t106.length+y109.length<4398046511104 then (some (t106++y109)) else (none))) else (none)) else (none))=some r:=H
   have A5:=mA A50
   clear A50
   obtain ⟨ji6,hji6⟩ : ∃ j_:Int,(wrap64 (a1+1))=j_:=⟨_,rfl⟩
   replace H:(if 0≤(ji6) then (if (ji6)≤(l0.length:Int) then ((some (l0.drop ((ji6):Int).toNat:List (S42))).bind fun y109=>(if t106.length+y109.length<4398046511104 then (some (t106++y109)) else (none))) else (none)) else (none))=some r:=by first|(rw [hji6] at H;exact H)|(simp only [hji6] at H ⊢;exact H)
   (try rw [hji6] at A5)
   have hji6w:(IntKind.i64.wrap (a1+1))=ji6:=(i64_w _).trans hji6
   by_cases c7:0≤(ji6)
   ·rw [if_pos c7] at H
    have c7b0:=eq_true c7
    have c7b1:decide (0≤(ji6))=true:=decide_eq_true c7
    clear c7
    by_cases c8:(ji6)≤(l0.length:Int)
    ·rw [if_pos c8] at H
     have c8b0:=eq_true c8
     have c8b1:decide ((ji6)≤(l0.length:Int))=true:=decide_eq_true c8
     clear c8
     obtain ⟨y109,hy109⟩ : ∃ y_:List (S42),y_=(l0.drop ((ji6):Int).toNat):=⟨_,rfl⟩
     replace H:(if t106.length+y109.length<4398046511104 then (some (t106++y109)) else (none))=some r:=by first|(rw [hy109];with_reducible exact H)|(have H2_:=(Option.bind_some _ _).symm.trans H;rw [hy109];with_reducible exact H2_)|(have H2_:=(Option.bind_some _ _).symm.trans H;with_reducible exact H2_)|with_reducible exact H|(rw [hy109];exact H)|exact H
     have Ny109:=mA hy109
     clear hy109
     by_cases c9:t106.length+y109.length<4398046511104
     ·rw [if_pos c9] at H
      have LMc9:=mA c9
      clear c9
      obtain ⟨y114,hy114⟩ : ∃ y_:List (S42),y_=(t106++y109):=⟨_,rfl⟩
      replace H:(some y114)=some r:=by first|(rw [hy114];with_reducible exact H)|(have H2_:=(Option.bind_some _ _).symm.trans H;rw [hy114];with_reducible exact H2_)|(have H2_:=(Option.bind_some _ _).symm.trans H;with_reducible exact H2_)|with_reducible exact H|(rw [hy114];exact H)|exact H
      have Ny114:=mA hy114
      clear hy114
      obtain rfl:=Option.some.inj H
      go_enter Try.func27,Try.ntmps27
      try go_wp2
      have n0_:=mA (Kd.V_drew HO0.out)
      have n1_:=mA (bD HB.out)
      clear HO0
      clear HB
      have HO0:=n0_
      have HB:=n1_
      clear n0_ n1_
      have q11:(a1:Int)≤((l0.length:Int):Int):=of_decide_eq_true (by first|with_reducible assumption|assumption)
      obtain ⟨i011,hi011,_,hsz11,_⟩:=info_parts info42
      have hroom11:l0.length≤c0:=(Kd.V_reads' HO0.out).2.1
      have hC11:Kd.F k42 _ _ A0 l0.length l0:=(Kd.V_at (base:=w.heap.size) HO0.out).2.2
      have hcut11:=cut_to (P:=Try.prog) 24 42 .i64 Try.underlying24 hi011 A0 l0.length c0 a1 (of_decide_eq_true (by first|with_reducible assumption|assumption)) q11 hroom11
      have hr11:=Kd.F_take (m:=(a1:Int).toNat) hC11 (by omega)
      have hy11:y101.length=(a1:Int).toNat:=(by rw [Ny101.out,lT];omega)
      rw [←Ny101.out] at hr11
      rw [←hy11] at hcut11
      have HO105:=mA (show Kd.V k42 42 _ w.heap.size _ (.slice A0 y101.length c0) y101 from Kd.V_mk (by omega) hr11)
      have HC105:=mA (show y101.length≤c0 from by omega)
      clear hr11 hC11 hroom11 hi011 hsz11
      have KY11:=mA hy11
      clear hy11
      replace q11:=eq_true q11
      have q12:((ji6):Int)≤((l0.length:Int):Int):=of_decide_eq_true (by first|with_reducible assumption|assumption)
      obtain ⟨i012,hi012,_,hsz12,_⟩:=info_parts info42
      have hroom12:l0.length≤c0:=(Kd.V_reads' HO0.out).2.1
      have hC12:Kd.F k42 _ _ A0 l0.length l0:=(Kd.V_at (base:=w.heap.size) HO0.out).2.2
      have q012:(0:Int)≤((ji6):Int):=of_decide_eq_true (by first|with_reducible assumption|assumption)
      have hcut12:=cut_from (P:=Try.prog) 24 42 .i64 Try.underlying24 hi012 2 hsz12 A0 l0.length c0 (ji6) q012 q12
      have hr12:=Kd.F_cut (m:=((ji6):Int).toNat) (c:=c0) hC12 (by omega) hroom12
      obtain ⟨A12,hA12⟩ : ∃ A1,A1=(if c0=((ji6):Int).toNat then A0 else (A0:Option Addr).map (·.add (((ji6):Int).toNat*2))):=⟨_,rfl⟩
      obtain ⟨c12,hc12⟩ : ∃ c1,c1=c0-((ji6):Int).toNat:=⟨_,rfl⟩
      have hy12:y109.length=l0.length-((ji6):Int).toNat:=(by rw [Ny109.out,lD]<;>omega)
      rw [show (l0).drop ((ji6):Int).toNat=y109 from Ny109.out.symm] at hr12
      replace hr12:Kd.F k42 _ _ A12 y109.length y109:=(by rw [hA12];exact hr12)
      rw [←hy12, ←hA12, ←hc12] at hcut12
      have HO113:=mA (show Kd.V k42 42 _ w.heap.size _ (.slice A12 y109.length c12) y109 from Kd.V_mk (by rw [hy12,hc12];exact Nat.sub_le_sub_right hroom12 _) hr12)
      have HC113:=mA (show y109.length≤c12 from by rw [hy12,hc12];exact Nat.sub_le_sub_right hroom12 _)
      clear hr12 hC12 hroom12 hi012 hsz12 hc12
      have KY12:=mA hy12
      have KA12:=mA hA12
      clear hy12 hA12
      replace q12:=eq_true q12
      refine start_ (n:=10) (S:=fun w'=>True) (ds:=[]) #[O,O,O,O,O,O,O,O,O,O] (by kernel_rfl) rfl rfl trivial (fun hHeld=>?_);refine with_tabW impl_without.tab1 impl_without.bits1 (fun HT_ HW_=>?_)
      generalize w.drew=w10 at HO0 HB HO105 HO113 hHeld ⊢
      refine pure_ (i:=0) (N:=some 5) (v:=?_) (a':=?_) #[I,O,O,O,O,O,O,O,O,O] rfl rfl (any_of HT_.out (by kernel_rfl)) (fun _ _ _ h=>h) (Or.inl ⟨by rfl,?_⟩) ?_ ?_
      rotate_left
      ·intro w'
       go_simp
       with_reducible rfl
      rotate_left
      ·simp only [Act.put,sA,sZ,sS,i64_w,i32_w]
       rfl
      refine pure_ (i:=1) (N:=some 6) (v:=?_) (a':=?_) #[I,I,O,O,O,O,O,O,O,O] rfl rfl (any_of HT_.out (by kernel_rfl)) (fun _ _ _ h=>h) (Or.inl ⟨by rfl,?_⟩) ?_ ?_
      rotate_left
      ·intro w'
       go_simp
       with_reducible rfl
      rotate_left
      ·simp only [Act.put,sA,sZ,sS,i64_w,i32_w]
       rfl
      refine pure_ (i:=2) (N:=some 7) (v:=?_) (a':=?_) #[I,I,I,O,O,O,O,O,O,O] rfl rfl (any_of HT_.out (by kernel_rfl)) (fun _ _ _ h=>h) (Or.inl ⟨by rfl,?_⟩) ?_ ?_
      rotate_left
      ·intro w'
       go_simp
       with_reducible rfl
      rotate_left
      ·simp only [Act.put,sA,sZ,sS,i64_w,i32_w]
       rfl
      refine pure_ (i:=4) (N:=some 9) (v:=?_) (a':=?_) #[I,I,I,O,I,O,O,O,O,O] rfl rfl (any_of HT_.out (by kernel_rfl)) (fun _ _ _ h=>h) (Or.inl ⟨by rfl,?_⟩) ?_ ?_
      rotate_left
      ·intro w'
       go_simp
       with_reducible rfl
      rotate_left
      ·simp only [Act.put,sA,sZ,sS,i64_w,i32_w]
       rfl
      refine pure_ (i:=5) (N:=some 10) (v:=?_) (a':=?_) #[I,I,I,O,I,I,O,O,O,O] rfl rfl (any_of HT_.out (by kernel_rfl)) (fun _ _ _ h=>h) (Or.inl ⟨by rfl,?_⟩) ?_ ?_
      rotate_left
      ·intro w'
       go_simp
       with_reducible rfl
      rotate_left
      ·simp only [Act.put,sA,sZ,sS,i64_w,i32_w]
       rfl
      refine pure_ (i:=6) (N:=some 11) (v:=?_) (a':=?_) #[I,I,I,O,I,I,I,O,O,O] rfl rfl (any_of HT_.out (by kernel_rfl)) (fun _ _ _ h=>h) (Or.inl ⟨by rfl,?_⟩) ?_ ?_
      rotate_left
      ·intro w'
       go_simp
       with_reducible rfl
      rotate_left
      ·simp only [Act.put,sA,sZ,sS,i64_w,i32_w]
       rfl
      refine pure_ (i:=7) (N:=some 12) (v:=?_) (a':=?_) #[I,I,I,O,I,I,I,I,O,O] rfl rfl (any_of HT_.out (by kernel_rfl)) (fun _ _ _ h=>h) (Or.inl ⟨by rfl,?_⟩) ?_ ?_
      rotate_left
      ·intro w'
       go_simp
       with_reducible rfl
      rotate_left
      ·simp only [Act.put,sA,sZ,sS,i64_w,i32_w]
       rfl
      refine one_ (i:=3) (N:=some 8) #[I,I,I,I,I,I,I,I,O,O] rfl rfl (one_of HT_.out (by kernel_rfl)) (by decide) (fun K hK=>?_)
      refine goes_ Try.func44 (by kernel_rfl) rfl #[.slice A0 y101.length c0] (by rfl) rfl rfl (by (try simp only [mT,mC,mN]);first|done|rfl|(simp only [lD,lT];rfl)) ?_
      with_reducible refine (impl_Claim.calls (fun k_=>(P0_ k_∨w.heap.size≤k_)) _ _ y101 t106 _ ?side1 A5.out).mono ?_
      (case side1=>exact HO105.out)
      rintro e w13 ⟨v107,rfl,ho0,hb⟩
      refine ⟨_,rfl,?_⟩
      have n0_:=mA (Kd.V_elder' (by (with_reducible repeat first|apply Kd.V_alloc|apply Kd.V_drewN|apply Kd.V_drew);exact HO0.out) (Kd.N_base ho0) hb)
      have n1_:=mA (Kd.V_elder' (by (with_reducible repeat first|apply Kd.V_alloc|apply Kd.V_drewN|apply Kd.V_drew);exact HO105.out) (Kd.N_base ho0) hb)
      have n2_:=mA (Kd.V_elder' (by (with_reducible repeat first|apply Kd.V_alloc|apply Kd.V_drewN|apply Kd.V_drew);exact HO113.out) (Kd.N_base ho0) hb)
      have n3_:=mA (Kd.N_lower (Kd.N_mono (ok':=fun k_=>(P0_ k_∨w.heap.size≤k_)) ho0 (fun k_ hk_=>Or.elim hk_ (fun hs_=>hs_) (fun hn_=>(.inr (Nat.le_trans (bZ (by repeat first|(with_reducible first|exact HB.out|apply bA|apply bN|apply bD)|exact HB.out)) hn_))))) (bZ (by repeat first|(with_reducible first|exact HB.out|apply bA|apply bN|apply bD)|exact HB.out)))
      have n4_:=mA (bT (by repeat first|(with_reducible first|exact HB.out|apply bA|apply bN|apply bD)|exact HB.out) hb)
      clear HO0
      clear HO105
      clear HO113
      clear HB
      have HO0:=n0_
      have HO105:=n1_
      have HO113:=n2_
      have HO108:=n3_
      have HB:=n4_
      clear n0_ n1_ n2_ n3_ n4_
      (try clear hb)
      (try clear hb2)
      (try clear hk)
      (try clear hi)
      (try clear ho0)
      refine hK.out _ _ trivial (fun hHeld=>?_)
      clear hK K
      refine norm_ (a':=?_) ?_ ?_
      rotate_left
      ·show Act.put _ (some 8) _=_
       simp only [Act.put,sA,sZ,sS,i64_w,i32_w]
       rfl
      refine one_ (i:=8) (N:=some 13) #[I,I,I,I,I,I,I,I,I,O] rfl rfl (one_of HT_.out (by kernel_rfl)) (by decide) (fun K hK=>?_)
      refine Kd.N_append_rows_step k42 (w0:=w) w.heap.size (by rfl) (.tmp 8) (.tmp 12) 24 42 (.agg #[(.int .i64 0),(.slice none 0 0)]) 32 rfl Try.underlying24 info42 rfl (by decide) (by omega) v107 t106 y109 _ _ _ (fun k_=>(P0_ k_∨w.heap.size≤k_)) (fun k_=>((fun k_=>(P0_ k_∨w.heap.size≤k_))) k_∧some k_≠(v107:Value).ownBlock) rfl rfl ?aO ?aR (fun _ hk=>hk) ?aF ?aB ?aS ?aL ?_
      (case aR=>exact (by skip;exact Kd.V_F (Kd.V_mono (ok':=(fun k_=>((fun k_=>(P0_ k_∨w.heap.size≤k_))) k_∧some k_≠(v107:Value).ownBlock)) (HO113.out) (fun k_ hk=>⟨hk.1,hk.2⟩))))
      (case aB=>exact (by repeat first|(with_reducible first|exact HB.out|apply bA|apply bN|apply bD)|exact HB.out))
      (case aF=>exact (fun k_ hk=>(.inr (Nat.le_trans (bZ (by repeat first|(with_reducible first|exact HB.out|apply bA|apply bN|apply bD)|exact HB.out)) hk))))
      (case aO=>exact (by (with_reducible repeat first|apply nA|apply nN|apply nD);exact HO108.out))
      (case aS=>exact (bZ (by repeat first|(with_reducible first|exact HB.out|apply bA|apply bN|apply bD)|exact HB.out)))
      (case aL=>have:=LMc9.out;omega)
      intro v115 w14 ho hb hg hat
      rw [←Ny114.out] at ho
      have n0_:=mA (Kd.V_afterv (ok:=(fun k_=>(P0_ k_∨w.heap.size≤k_))) (by (with_reducible repeat first|apply Kd.V_alloc|apply Kd.V_drewN|apply Kd.V_drew);exact HO0.out) hg hat)
      have n1_:=mA (Kd.V_afterv (ok:=(fun k_=>(P0_ k_∨w.heap.size≤k_))) (by (with_reducible repeat first|apply Kd.V_alloc|apply Kd.V_drewN|apply Kd.V_drew);exact HO105.out) hg hat)
      have n2_:=mA (Kd.V_afterv (ok:=(fun k_=>(P0_ k_∨w.heap.size≤k_))) (by (with_reducible repeat first|apply Kd.V_alloc|apply Kd.V_drewN|apply Kd.V_drew);exact HO113.out) hg hat)
      have n3_:=mA (hb)
      have n4_:=mA (ho)
      clear HO0
      clear HO105
      clear HO113
      clear HB
      clear HO108
      have HO0:=n0_
      have HO105:=n1_
      have HO113:=n2_
      have HB:=n3_
      have HO116:=n4_
      clear n0_ n1_ n2_ n3_ n4_
      clear ho hb hg hat
      refine hK.out _ _ trivial (fun hHeld=>?_)
      clear hK K
      refine norm_ (a':=?_) ?_ ?_
      rotate_left
      ·show Act.put _ (some 13) _=_
       simp only [Act.put,sA,sZ,sS,i64_w,i32_w]
       rfl
      refine pure_ (i:=9) (N:=some 4) (v:=?_) (a':=?_) #[I,I,I,I,I,I,I,I,I,I] rfl rfl (any_of HT_.out (by kernel_rfl)) (fun _ _ _ h=>h) (Or.inl ⟨by rfl,?_⟩) ?_ ?_
      rotate_left
      ·intro w'
       go_simp
       with_reducible rfl
      rotate_left
      ·simp only [Act.put,sA,sZ,sS,i64_w,i32_w]
       rfl
      refine done_ (done_of HT_.out (by kernel_rfl)) ?_
      try go_wp2
      go_ret
      exact ⟨_,by first|rfl|(simp [errW_none,errW_some]<;>rfl)|(simp only [←hji6];first|rfl|(simp [errW_none,errW_some]<;>rfl))|(simp [*, errW_none,errW_some]<;>rfl),by (with_reducible repeat first|apply nA|apply nN|apply nD);exact HO116.out,by repeat (first|(with_reducible first|exact HB.out|apply bA|apply bN|apply bD)|exact HB.out)⟩
     ·rw [if_neg c9] at H
      exact absurd H (by simp)
    ·rw [if_neg c8] at H
     exact absurd H (by simp)
   ·rw [if_neg c7] at H
    exact absurd H (by simp)
  ·rw [if_neg c4] at H
   exact absurd H (by simp)
 ·rw [if_neg c3] at H
  exact absurd H (by simp)
/-! ### impl_tableBy: function 53, over any function value -/
def impl_tableBy.l0 (F:Nat→Int→Option Bool):Nat→Int→Int→Int→Option (Int)
 | 0,_,_,_=>none
 | k+1,x5,x8,x9=>if x9<x8 then ((F k x9).bind fun t308=>(if t308=true then (if 0≤x9 then (impl_tableBy.l0 F k (Go.bits .or .i64 x5 (shl .i64 1 x9)) x8 (wrap64 (x9+1))) else (none)) else (impl_tableBy.l0 F k x5 x8 (wrap64 (x9+1))))) else (some x5)
def impl_tableBy.f (F:Nat→Int→Option Bool) (k:Nat) (a0:Int):Option (Int):=if 0≤a0 then (impl_tableBy.l0 F k 0 (shl .i64 1 a0) 0) else (none)
theorem impl_tableBy.mono_l {F:Nat→Int→Option Bool} (hF : ∀ k x,LeO (F k x) (F (k+1) x)) : ∀ k,(∀ y0 y1 y2,LeO (impl_tableBy.l0 F k y0 y1 y2) (impl_tableBy.l0 F (k+1) y0 y1 y2))
 | 0=>fun _ _ _ r h=>by simp [impl_tableBy.l0] at h
 | k+1=>by
  have ih0:=impl_tableBy.mono_l hF k
  ·intro y0 y1 y2
   unfold impl_tableBy.l0
   repeat' first
   | (with_reducible exact ih0 _ _ _)
   | (with_reducible exact hF _ _)
   | (with_reducible exact LeO.refl _)
   | (with_reducible exact LeO.none _)
   | (with_reducible refine LeO.ite ?_ ?_)
   | (with_reducible refine LeO.bind ?_ (fun _=>?_))
theorem impl_tableBy.mono {F:Nat→Int→Option Bool} (hF : ∀ k x,LeO (F k x) (F (k+1) x)) (a0:Int) (k:Nat):LeO (impl_tableBy.f F k a0) (impl_tableBy.f F (k+1) a0):=by
 have ih0:=impl_tableBy.mono_l hF k
 unfold impl_tableBy.f
 repeat' first
   | (with_reducible exact ih0 _ _ _)
   | (with_reducible exact LeO.none _)
   | (with_reducible refine LeO.ite ?_ ?_)
set_option maxHeartbeats 8000000 in
set_option maxRecDepth 100000 in
theorem impl_tableBy.calls (F : Nat → Int → Option Bool) {CF : FuncId} {fn : Func} (hf : Try.prog.funcs[CF]? = some fn) (hname : (fn.name == "runtime.NumGoroutine") = false) (hbody : fn.body.isSome = true) (CB : Array Value) (k : Nat) (a0 : Int) (r : Int) (w : World)
  (hF : ∀ (k:Nat) (x:Int) (b:Bool) (W:World),Below w.heap.size w W→F k x=some b→Calls Try.prog CF (#[.int .i64 x]++CB) W fun e w'=>e = .returned (.bool b)∧Below W.heap.size W w')
  (h:impl_tableBy.f F k a0=some r) :
  Calls Try.prog 53 #[.int .i64 a0,.func (.func CF) #[] CB] w fun e w'=>e = .returned (.int .i64 r)∧Below w.heap.size w w':=by
 have hcf : ∀ (args:Array Value) (W:World),(callFunc CF args).run Try.prog W = .ok (.enter CF args) W:=fun args W=>enters_ hf hname hbody args W
 have HB:=mA (Below.refl w.heap.size w)
 have H:(if 0≤a0 then (impl_tableBy.l0 F k 0 (shl .i64 1 a0) 0) else (none))=some r:=h
 clear h
 by_cases c3:0≤a0
 ·rw [if_pos c3] at H
  have c3b0:=eq_true c3
  have c3b1:decide (0≤a0)=true:=decide_eq_true c3
  clear c3
  obtain ⟨ji4,hji4⟩ : ∃ j_:Int,(shl .i64 1 a0)=j_:=⟨_,rfl⟩
  replace H:(impl_tableBy.l0 F k 0 ji4 0)=some r:=by rw [hji4] at H;exact H
  have hji4_:(IntKind.i64.wrap (1*2^min a0.toNat 64))=ji4:=hji4
  have hji4z:a0≤64→(IntKind.i64.wrap (1*2^a0.toNat))=ji4:=shl_small hji4
  have hji4u:(IntKind.i64.wrap (2^min a0.toNat 64))=ji4:=by have h_:=hji4_;rw [Int.one_mul] at h_;exact h_
  have hji4v:a0≤64→(IntKind.i64.wrap (2^a0.toNat))=ji4:=fun hle_=>by have h_:=hji4z hle_;rw [Int.one_mul] at h_;exact h_
  have hji4y:(wrap64 (1*2^min a0.toNat 64))=ji4:=(i64_w _).symm.trans hji4_
  have hji4x:a0≤64→(wrap64 (1*2^a0.toNat))=ji4:=fun h_=>(i64_w _).symm.trans (hji4z h_)
  have H':=mA H
  clear H
  go_enter Try.func53,Try.ntmps53
  go_wp2
  go_loopg [5,9] k (fun kq v5 v9 w'=>∃ (x5_1:Int) (x9_1:Int),v5 = .int .i64 x5_1∧v9 = .int .i64 x9_1∧Aside0 (impl_tableBy.l0 F kq x5_1 ji4 x9_1=some r)∧Aside0 (kq≤k)∧Aside0 (Below w.heap.size w w'))
  case atStart=>exact ⟨(0),(0),(by first|rfl|(simp;done)|(simp [*];done)),(by first|rfl|(simp;done)|(simp [*];done)),H',⟨Nat.le_refl _⟩,⟨(by repeat first|(with_reducible first|exact HB.out|apply bA|apply bN|apply bD)|exact HB.out)⟩⟩
  case round =>
   clear H'
   try clear c1
   try clear p2
   try clear c3
   try clear c3b0
   try clear c3b1
   obtain ⟨x5_1,x9_1,rfl,rfl,HA,HK1,HB⟩:=hrel
   cases gk with
   | zero=>exact absurd HA.out (by simp [impl_tableBy.l0])
   | succ k1 =>
    have H:=HA.out
    clear HA
    simp only [impl_tableBy.l0] at H
    by_cases c5:x9_1<ji4
    ·rw [if_pos c5] at H
     have c5b0:decide (x9_1<ji4)=true:=decide_eq_true c5
     clear c5
     replace H:=Option.bind_eq_some_iff.mp H
     obtain ⟨t308,A60,H⟩:=H
     replace H:(if t308=true then (if 0≤x9_1 then (impl_tableBy.l0 F k1 (Go.bits .or .i64 x5_1 (shl .i64 1 x9_1)) ji4 (wrap64 (x9_1+1))) else (none)) else (impl_tableBy.l0 F k1 x5_1 ji4 (wrap64 (x9_1+1))))=some r:=H
     have A6:=mA A60
     clear A60
     by_cases c7:t308=true
     ·subst c7
      have H1:(if 0≤x9_1 then (impl_tableBy.l0 F k1 (Go.bits .or .i64 x5_1 (shl .i64 1 x9_1)) ji4 (wrap64 (x9_1+1))) else (none))=some r:=by rw [if_pos rfl] at H;exact H
      clear H
      have H:=H1
      clear H1
      by_cases c8:0≤x9_1
      ·rw [if_pos c8] at H
       have c8b0:=eq_true c8
       have c8b1:decide (0≤x9_1)=true:=decide_eq_true c8
       clear c8
       obtain ⟨ji9,hji9⟩ : ∃ j_:Int,(shl .i64 1 x9_1)=j_:=⟨_,rfl⟩
       replace H:(impl_tableBy.l0 F k1 (Go.bits .or .i64 x5_1 (ji9)) ji4 (wrap64 (x9_1+1)))=some r:=by first|(rw [hji9] at H;exact H)|(simp only [hji9] at H ⊢;exact H)
       have hji9_:(IntKind.i64.wrap (1*2^min x9_1.toNat 64))=ji9:=hji9
       have hji9z:x9_1≤64→(IntKind.i64.wrap (1*2^x9_1.toNat))=ji9:=shl_small hji9
       have hji9u:(IntKind.i64.wrap (2^min x9_1.toNat 64))=ji9:=by have h_:=hji9_;rw [Int.one_mul] at h_;exact h_
       have hji9v:x9_1≤64→(IntKind.i64.wrap (2^x9_1.toNat))=ji9:=fun hle_=>by have h_:=hji9z hle_;rw [Int.one_mul] at h_;exact h_
       have hji9y:(wrap64 (1*2^min x9_1.toNat 64))=ji9:=(i64_w _).symm.trans hji9_
       have hji9x:x9_1≤64→(wrap64 (1*2^x9_1.toNat))=ji9:=fun h_=>(i64_w _).symm.trans (hji9z h_)
       have H':=mA H
       clear H
       go_wp2_with (first|((with_reducible refine (hF k1 x9_1 true _ ?sideB A6.out).mono ?_);(case sideB=>exact (by repeat first|(with_reducible first|exact HB.out|apply bA|apply bN|apply bD)|exact HB.out));rintro e w10 ⟨rfl,hb⟩;have n0_:=mA (bT (by repeat first|(with_reducible first|exact HB.out|apply bA|apply bN|apply bD)|exact HB.out) hb);clear HB;have HB:=n0_;clear n0_;(try clear hb)))
       go_roundg k1
       case measure=>have:=HK1.out;omega
       case rel=>exact ⟨(Go.bits .or .i64 x5_1 (ji9)),(wrap64 (x9_1+1)),(by first|rfl|(simp;done)|(simp only [←hji9]<;>(first|rfl|simp))|(simp [*];done)),(by first|rfl|(simp;done)|(simp [*];done)),H',⟨by have:=HK1.out;omega⟩,⟨(by repeat first|(with_reducible first|exact HB.out|apply bA|apply bN|apply bD)|exact HB.out)⟩⟩
      ·rw [if_neg c8] at H
       exact absurd H (by simp)
     ·replace c7:=Bool.eq_false_iff.mpr c7
      subst c7
      have H1:(impl_tableBy.l0 F k1 x5_1 ji4 (wrap64 (x9_1+1)))=some r:=by rw [if_neg (show ¬ (false=true) by decide)] at H;exact H
      clear H
      have H:=H1
      clear H1
      have H':=mA H
      clear H
      go_wp2_with (first|((with_reducible refine (hF k1 x9_1 false _ ?sideB A6.out).mono ?_);(case sideB=>exact (by repeat first|(with_reducible first|exact HB.out|apply bA|apply bN|apply bD)|exact HB.out));rintro e w10 ⟨rfl,hb⟩;have n0_:=mA (bT (by repeat first|(with_reducible first|exact HB.out|apply bA|apply bN|apply bD)|exact HB.out) hb);clear HB;have HB:=n0_;clear n0_;(try clear hb)))
      go_roundg k1
      case measure=>have:=HK1.out;omega
      case rel=>exact ⟨(x5_1),(wrap64 (x9_1+1)),(by first|rfl|(simp;done)|(simp [*];done)),(by first|rfl|(simp;done)|(simp [*];done)),H',⟨by have:=HK1.out;omega⟩,⟨(by repeat first|(with_reducible first|exact HB.out|apply bA|apply bN|apply bD)|exact HB.out)⟩⟩
    ·rw [if_neg c5] at H
     have c5b0:decide (x9_1<ji4)=false:=decide_eq_false c5
     clear c5
     obtain rfl:=Option.some.inj H
     go_wp2
     go_ret
     exact ⟨by first|rfl|(simp;done)|(simp only [←hji4];rfl)|(simp [*];done),(by repeat first|(with_reducible first|exact HB.out|apply bA|apply bN|apply bD)|exact HB.out)⟩
 ·rw [if_neg c3] at H
  exact absurd H (by simp)
/-! ### impl_maySay: function 55 -/
def impl_maySay.f (k:Nat) (a0_0:Int) (l0_1:List (S59)) (a1:Int):Option (Bool):=(impl_holds.f k l0_1 a1).bind fun t102=>(if 0≤a0_0 then (some (t102==((Go.bits .and .i64 (shr .i64 a1 a0_0) 1)==1))) else (none))
theorem impl_maySay.mono : ∀ a0 a1 a2 k,LeO (impl_maySay.f k a0 a1 a2) (impl_maySay.f (k+1) a0 a1 a2):=by
 intro a0 a1 a2 k
 unfold impl_maySay.f
 repeat' first
   | (with_reducible exact impl_holds.mono _ _ _)
   | (with_reducible exact LeO.refl _)
   | (with_reducible exact LeO.none _)
   | (with_reducible refine LeO.ite ?_ ?_)
   | (with_reducible refine LeO.bind ?_ (fun _=>?_))
   | exact impl_holds.mono _ _ _
   | exact LeO.none _
   | refine LeO.ite ?_ ?_
   | refine LeO.bind ?_ (fun _=>?_)
def impl_maySay.T1:Bool×List (List Nat×List Nat):=(true,[([],[]),([0],[0]),([],[]),([1,2],[1,2]),([],[]),([],[]),([5],[5]),([4,6],[4,6]),([7],[7]),([8],[8]),([3,9],[3,9]),([10,3,0,1,2,3,4,5,6,7,8,9,10],[10])])
def impl_maySay.B1:List Nat:=[0,1,0,7,0,0,32,112,240,496,1023,2047]
theorem impl_maySay.tab1:rtab .any (opsOf Try.f55 1)=impl_maySay.T1:=by kernel_rfl
theorem impl_maySay.bits1:waitsOk impl_maySay.T1.2 impl_maySay.B1=true:=by kernel_rfl
set_option maxHeartbeats 8000000 in
set_option maxRecDepth 100000 in
theorem impl_maySay.calls (k:Nat) (a0_0:Int) (A0_1:Option Addr) (c0_1:Nat) (l0_1:List (S59)) (a1:Int) (r:Bool) (w:World) (hr0_1:Kd.C k59 w A0_1 l0_1.length l0_1) (hc0_1:l0_1.length≤c0_1) (h:impl_maySay.f k a0_0 l0_1 a1=some r) :
  Calls Try.prog 55 #[.agg #[.int .i64 a0_0,.slice A0_1 l0_1.length c0_1],.int .i64 a1] w fun e w'=>e = .returned (.bool r)∧Below w.heap.size w w':=by
 have hu42:=Try.underlying42
 have HR0_1:=mA hr0_1
 have HC0_1:=mA hc0_1
 clear hr0_1 hc0_1
 have HB:=mA (Below.refl w.heap.size w)
 have H:((impl_holds.f k l0_1 a1).bind fun t102=>(if 0≤a0_0 then (some (t102==((Go.bits .and .i64 (shr .i64 a1 a0_0) 1)==1))) else (none)))=some r:=h
 clear h
 replace H:=Option.bind_eq_some_iff.mp H
 obtain ⟨t102,A30,H⟩:=H
 replace H:(if 0≤a0_0 then (some (t102==((Go.bits .and .i64 (shr .i64 a1 a0_0) 1)==1))) else (none))=some r:=H
 have A3:=mA A30
 clear A30
 by_cases c4:0≤a0_0
 ·rw [if_pos c4] at H
  have c4b0:=eq_true c4
  have c4b1:decide (0≤a0_0)=true:=decide_eq_true c4
  clear c4
  obtain ⟨ji5,hji5⟩ : ∃ j_:Int,(shr .i64 a1 a0_0)=j_:=⟨_,rfl⟩
  replace H:(some (t102==((Go.bits .and .i64 (ji5) 1)==1)))=some r:=by first|(rw [hji5] at H;exact H)|(simp only [hji5] at H ⊢;exact H)
  (try rw [hji5] at A3)
  have hji5_:(a1 / 2^min a0_0.toNat 64)=ji5:=hji5
  have hji5z:a0_0≤64→(a1 / 2^a0_0.toNat)=ji5:=shr_small hji5
  obtain rfl:=Option.some.inj H
  go_enter Try.func55,Try.ntmps55
  try go_wp2_with (first|((with_reducible refine gate_dst (N:=2) rfl ?_);refine box_event ?hg (N:=2) ?hd (cs:=#[.int .i64 a0_0,.slice A0_1 l0_1.length c0_1]) (t:=42) ?hr ?_;(case hd=>rfl);(case hg=>rfl);(case hr=>first|(go_simp;done)|(go_simp;rfl));intro gb101 hg w6 hbox hb;have n0_:=mA (bT (by repeat first|(with_reducible first|exact HB.out|apply bA|apply bN|apply bD)|exact HB.out) hb);have n1_:=mA (hbox);have n2_:=mA ((by rw [hg];exact (bZ (by repeat first|(with_reducible first|exact HB.out|apply bA|apply bN|apply bD)|exact HB.out)):w.heap.size≤gb101));have n3_:=mA ((by rw [hg];exact (bZ (by repeat first|(with_reducible first|exact HB.out|apply bA|apply bN|apply bD)|exact HB.out)):w.heap.size≤gb101));clear HB;have HB:=n0_;have BK101:=n1_;have GW101:=n2_;have GE101:=n3_;clear n0_ n1_ n2_ n3_ hb hbox hg))
  have n0_:=mA (kD BK101.out)
  have n1_:=mA (bD HB.out)
  clear BK101
  clear HB
  have BK101:=n0_
  have HB:=n1_
  clear n0_ n1_
  refine start_ (n:=12) (S:=fun w'=>w'.cell? ⟨gb101,0,none⟩=some (.int .i64 a0_0)∧w'.cell? ⟨gb101,1,none⟩=some (.slice A0_1 l0_1.length c0_1)) (ds:=[]) #[O,O,O,O,O,O,O,O,O,O,O,O] (by kernel_rfl) rfl rfl ⟨(kC BK101.out 0).trans rfl,(kC BK101.out 1).trans rfl⟩ (fun hHeld=>?_);refine with_tabW impl_maySay.tab1 impl_maySay.bits1 (fun HT_ HW_=>?_)
  generalize w6.drew=w7 at BK101 HB hHeld ⊢
  refine pure_ (i:=0) (N:=some 5) (v:=?_) (a':=?_) #[I,O,O,O,O,O,O,O,O,O,O,O] rfl rfl (any_of HT_.out (by kernel_rfl)) (fun _ _ _ h=>h) (Or.inl ⟨by rfl,?_⟩) ?_ ?_
  rotate_left
  ·intro w'
   go_simp
   with_reducible rfl
  rotate_left
  ·simp only [Act.put,sA,sZ,sS,i64_w,i32_w]
   rfl
  refine pure_ (i:=2) (N:=some 7) (v:=?_) (a':=?_) #[I,O,I,O,O,O,O,O,O,O,O,O] rfl rfl (any_of HT_.out (by kernel_rfl)) (fun _ _ _ h=>h) (Or.inl ⟨by rfl,?_⟩) ?_ ?_
  rotate_left
  ·intro w'
   go_simp
   with_reducible rfl
  rotate_left
  ·simp only [Act.put,sA,sZ,sS,i64_w,i32_w]
   rfl
  refine pure_ (i:=4) (N:=some 9) (v:=?_) (a':=?_) #[I,O,I,O,I,O,O,O,O,O,O,O] rfl rfl (any_of HT_.out (by kernel_rfl)) (fun _ _ _ h=>h) (Or.inl ⟨by rfl,?_⟩) ?_ ?_
  rotate_left
  ·intro w'
   go_simp
   with_reducible rfl
  rotate_left
  ·simp only [Act.put,sA,sZ,sS,i64_w,i32_w]
   rfl
  refine pure_ (i:=5) (N:=some 10) (v:=?_) (a':=?_) #[I,O,I,O,I,I,O,O,O,O,O,O] rfl rfl (any_of HT_.out (by kernel_rfl)) (fun _ _ _ h=>h) (Or.inl ⟨by rfl,?_⟩) ?_ ?_
  rotate_left
  ·intro w'
   go_simp
   with_reducible rfl
  rotate_left
  ·simp only [Act.put,sA,sZ,sS,i64_w,i32_w]
   rfl
  refine take_ (i:=1) (N:=some 6) (v:=?_) (a':=?_) #[I,I,I,O,I,I,O,O,O,O,O,O] rfl rfl (take_ofW HT_.out HW_.out (by kernel_rfl)) (fun _ _ _ h=>h) (Or.inl ⟨by rfl,?_⟩) hHeld ?_ ?_
  rotate_left
  ·rintro w' ⟨s0,s1⟩
   go_simp
   with_reducible rfl
  rotate_left
  ·simp only [Act.put,sA,sZ,sS,i64_w,i32_w]
   rfl
  refine take_ (i:=6) (N:=some 11) (v:=?_) (a':=?_) #[I,I,I,O,I,I,I,O,O,O,O,O] rfl rfl (take_ofW HT_.out HW_.out (by kernel_rfl)) (fun _ _ _ h=>h) (Or.inl ⟨by rfl,?_⟩) hHeld ?_ ?_
  rotate_left
  ·rintro w' ⟨s0,s1⟩
   go_simp
   with_reducible rfl
  rotate_left
  ·simp only [Act.put,sA,sZ,sS,i64_w,i32_w]
   rfl
  refine pure_ (i:=7) (N:=some 12) (v:=?_) (a':=?_) #[I,I,I,O,I,I,I,I,O,O,O,O] rfl rfl (any_of HT_.out (by kernel_rfl)) (fun _ _ _ h=>h) (Or.inl ⟨by rfl,?_⟩) ?_ ?_
  rotate_left
  ·intro w'
   go_simp
   with_reducible rfl
  rotate_left
  ·simp only [Act.put,sA,sZ,sS,i64_w,i32_w]
   rfl
  refine pure_ (i:=8) (N:=some 13) (v:=?_) (a':=?_) #[I,I,I,O,I,I,I,I,I,O,O,O] rfl rfl (any_of HT_.out (by kernel_rfl)) (fun _ _ _ h=>h) (Or.inl ⟨by rfl,?_⟩) ?_ ?_
  rotate_left
  ·intro w'
   go_simp
   with_reducible rfl
  rotate_left
  ·simp only [Act.put,sA,sZ,sS,i64_w,i32_w]
   rfl
  refine pure_ (i:=9) (N:=some 14) (v:=?_) (a':=?_) #[I,I,I,O,I,I,I,I,I,I,O,O] rfl rfl (any_of HT_.out (by kernel_rfl)) (fun _ _ _ h=>h) (Or.inl ⟨by rfl,?_⟩) ?_ ?_
  rotate_left
  ·intro w'
   go_simp
   with_reducible rfl
  rotate_left
  ·simp only [Act.put,sA,sZ,sS,i64_w,i32_w]
   rfl
  refine one_ (i:=3) (N:=some 8) #[I,I,I,I,I,I,I,I,I,I,O,O] rfl rfl (one_of HT_.out (by kernel_rfl)) (by decide) (fun K hK=>?_)
  refine goes_ Try.func58 (by kernel_rfl) rfl #[.slice A0_1 l0_1.length c0_1,.int .i64 a1] (by rfl) rfl rfl (by (try simp only [mT,mC,mN]);first|done|rfl|(simp only [lD,lT];rfl)) ?_
  with_reducible refine (impl_holds.calls k _ _ l0_1 a1 t102 _ ?side1 ?side2 A3.out).mono ?_
  (case side1=>repeat first|exact (Kd.C_below HR0_1.out HB.out)|(with_reducible refine cA ?_ _)|(with_reducible refine cN ?_ _)|(with_reducible refine cD ?_))
  (case side2=>exact HC0_1.out)
  rintro e w8 ⟨rfl,hb⟩
  refine ⟨_,rfl,?_⟩
  have n0_:=mA (kB (g:=gb101) (o:=.cells #[.int .i64 a0_0,.slice A0_1 l0_1.length c0_1] 42 (0,0)) (by (with_reducible repeat first|refine kN ?_ _|refine kD ?_|refine kA ?_ _);exact BK101.out) hb)
  have n1_:=mA (bT (by repeat first|(with_reducible first|exact HB.out|apply bA|apply bN|apply bD|refine bS ?_ GE101.out)|exact HB.out) hb)
  clear BK101
  clear HB
  have BK101:=n0_
  have HB:=n1_
  clear n0_ n1_
  (try clear hb)
  (try clear hb2)
  (try clear hk)
  (try clear hi)
  refine hK.out _ _ ⟨(kC BK101.out 0).trans rfl,(kC BK101.out 1).trans rfl⟩ (fun hHeld=>?_)
  clear hK K
  refine norm_ (a':=?_) ?_ ?_
  rotate_left
  ·show Act.put _ (some 8) _=_
   simp only [Act.put,sA,sZ,sS,i64_w,i32_w]
   rfl
  refine pure_ (i:=10) (N:=some 15) (v:=?_) (a':=?_) #[I,I,I,I,I,I,I,I,I,I,I,O] rfl rfl (any_of HT_.out (by kernel_rfl)) (fun _ _ _ h=>h) (Or.inl ⟨by rfl,?_⟩) ?_ ?_
  rotate_left
  ·intro w'
   go_simp
   with_reducible rfl
  rotate_left
  ·simp only [Act.put,sA,sZ,sS,i64_w,i32_w]
   rfl
  refine pure_ (i:=11) (N:=some 4) (v:=?_) (a':=?_) #[I,I,I,I,I,I,I,I,I,I,I,I] rfl rfl (any_of HT_.out (by kernel_rfl)) (fun _ _ _ h=>h) (Or.inl ⟨by rfl,?_⟩) ?_ ?_
  rotate_left
  ·intro w'
   go_simp
   with_reducible rfl
  rotate_left
  ·simp only [Act.put,sA,sZ,sS,i64_w,i32_w]
   rfl
  refine done_ (done_of HT_.out (by kernel_rfl)) ?_
  try go_wp2
  go_ret
  exact ⟨by first|rfl|(simp [errW_none,errW_some]<;>rfl)|(simp only [←hji5];first|rfl|(simp [errW_none,errW_some]<;>rfl))|(simp [*, errW_none,errW_some]<;>rfl),by repeat (first|(with_reducible first|exact HB.out|apply bA|apply bN|apply bD|refine bS ?_ GE101.out)|exact HB.out)⟩
 ·rw [if_neg c4] at H
  exact absurd H (by simp)
/-! ### impl_ClaimTable: function 45; what it hands to tableBy: function 54 -/
def impl_ClaimTable.f (k:Nat) (a0:Int) (a1_0:Int) (l1:List (S59)):Option (Int):=(impl_ClaimOk.f k a0 a1_0 l1).bind fun t=>(if t=true then (impl_tableBy.f (fun k_ x_=>impl_maySay.f k_ a1_0 l1 x_) k a0) else (some (-1)))
theorem impl_ClaimTable.mono : ∀ a0 a1_0 l1 k,LeO (impl_ClaimTable.f k a0 a1_0 l1) (impl_ClaimTable.f (k+1) a0 a1_0 l1):=by
 intro a0 a1_0 l1 k
 unfold impl_ClaimTable.f
 refine LeO.bind (impl_ClaimOk.mono _ _ _ _) (fun _=>?_)
 refine LeO.ite ?_ (LeO.refl _)
 exact impl_tableBy.mono (fun k x=>impl_maySay.mono _ _ _ _) _ _
set_option maxHeartbeats 8000000 in
set_option maxRecDepth 100000 in
theorem impl_ClaimTable.calls_1 (k:Nat) (a1_0:Int) (A1:Option Addr) (c1:Nat) (l1:List (S59)) (gb1:Nat) (x:Int) (b:Bool) (w:World) (hg:w.heap[gb1]?=some (.cells #[.int .i64 a1_0,.slice A1 l1.length c1] 42 (0,0))) (hr1:Kd.C k59 w A1 l1.length l1) (hc1:l1.length≤c1) (h:impl_maySay.f k a1_0 l1 x=some b) :
  Calls Try.prog 54 #[.int .i64 x,.pointer (some ⟨gb1,0,none⟩)] w fun e w'=>e = .returned (.bool b)∧Below w.heap.size w w':=by
 have hu42:=Try.underlying42
 have HR1:=mA hr1
 have HC1:=mA hc1
 clear hr1 hc1
 have HB:=mA (Below.refl w.heap.size w)
 have A6:=mA h
 clear h
 have hcz0:w.cell? ⟨gb1,0,none⟩=some (.int .i64 a1_0):=(kC hg 0).trans rfl
 have hfz0:=kF hg 0
 have hcz1:w.cell? ⟨gb1,1,none⟩=some (.slice A1 l1.length c1):=(kC hg 1).trans rfl
 have hfz1:=kF hg 1
 clear hg
 go_enter Try.func54,Try.ntmps54
 go_wp2_with (first|((with_reducible refine gate_callee (f:=55) rfl ?_);refine goesL_ (some 6) rfl rfl Try.func55 (by kernel_rfl) rfl #[.agg #[.int .i64 a1_0,.slice A1 l1.length c1],.int .i64 x] rfl (by (try simp only [mT,mC,mN]);first|done|rfl) ?_;(with_reducible refine (impl_maySay.calls k a1_0 _ _ l1 x b _ ?side1 ?side2 A6.out).mono ?_);(case side1=>repeat first|exact (Kd.C_below HR1.out HB.out)|(with_reducible refine cA ?_ _)|(with_reducible refine cN ?_ _)|(with_reducible refine cD ?_));(case side2=>exact HC1.out);  rintro e w12 ⟨rfl,hb⟩;refine ⟨_,rfl,?_⟩;have n0_:=mA (bT (by repeat first|(with_reducible first|exact HB.out|apply bA|apply bN|apply bD)|exact HB.out) hb);clear HB;have HB:=n0_;clear n0_;(try clear hb)))
 go_ret
 exact ⟨rfl,(by repeat first|(with_reducible first|exact HB.out|apply bA|apply bN|apply bD)|exact HB.out)⟩
set_option maxHeartbeats 8000000 in
set_option maxRecDepth 100000 in
theorem impl_ClaimTable.calls (k:Nat) (a0:Int) (a1_0:Int) (A1:Option Addr) (c1:Nat) (l1:List (S59)) (r:Int) (w:World) (hr1:Kd.C k59 w A1 l1.length l1) (hc1:l1.length≤c1) (h:impl_ClaimTable.f k a0 a1_0 l1=some r) :
  Calls Try.prog 45 #[.int .i64 a0,.agg #[.int .i64 a1_0,.slice A1 l1.length c1]] w fun e w'=>e = .returned (.int .i64 r)∧Below w.heap.size w w':=by
 have hu42:=Try.underlying42
 have HR1:=mA hr1
 have HC1:=mA hc1
 clear hr1 hc1
 have HB:=mA (Below.refl w.heap.size w)
 have H:((impl_ClaimOk.f k a0 a1_0 l1).bind fun t=>(if t=true then (impl_tableBy.f (fun k_ x_=>impl_maySay.f k_ a1_0 l1 x_) k a0) else (some (-1))))=some r:=h
 clear h
 obtain ⟨t,A10,H⟩:=Option.bind_eq_some_iff.mp H
 have A1_:=mA A10
 clear A10
 have hmf : ∀ (fn:Fn) (first cap:Array Value) (w:World),(Instr.makeFunc fn first cap).run Try.prog w = .ok (.func fn first cap) w:=fun _ _ _ _=>rfl
 cases t with
 | false =>
  have hr_:r = -1:=by simpa using H.symm
  subst hr_
  clear H
  go_enter Try.func45,Try.ntmps45
  go_wp2_with (first|((with_reducible refine gate_dst (N:=3) rfl ?_);refine box_event ?hg (N:=3) ?hd (cs:=#[.int .i64 a1_0,.slice A1 l1.length c1]) (t:=42) ?hr ?_;(case hd=>rfl);(case hg=>rfl);(case hr=>first|(go_simp;done)|(go_simp;rfl));intro gb1 hg w3 hbox hb;have n0_:=mA (bT (by repeat first|(with_reducible first|exact HB.out|apply bA|apply bN|apply bD)|exact HB.out) hb);have n1_:=mA (hbox);clear HB;have HB:=n0_;have BK1:=n1_;clear n0_ n1_ hb hbox hg;have hcz0:w3.cell? ⟨gb1,0,none⟩=some (.int .i64 a1_0):=(kC BK1.out 0).trans rfl;have hfz0:=kF BK1.out 0;have hcz1:w3.cell? ⟨gb1,1,none⟩=some (.slice A1 l1.length c1):=(kC BK1.out 1).trans rfl;have hfz1:=kF BK1.out 1)|((with_reducible refine gate_callee (f:=41) rfl ?_);refine goesL_ (some 7) rfl rfl Try.func41 (by kernel_rfl) rfl #[.int .i64 a0,.agg #[.int .i64 a1_0,.slice A1 l1.length c1]] rfl (by (try simp only [mT,mC,mN]);first|done|rfl) ?_;(with_reducible refine (impl_ClaimOk.calls k a0 a1_0 _ _ l1 false _ ?side1 ?side2 A1_.out).mono ?_);(case side1=>repeat first|exact (Kd.C_below HR1.out HB.out)|(with_reducible refine cA ?_ _)|(with_reducible refine cN ?_ _)|(with_reducible refine cD ?_));(case side2=>exact HC1.out);  rintro e w12 ⟨rfl,hb⟩;refine ⟨_,rfl,?_⟩;have m0_:=mA (kB BK1.out hb);clear BK1;have BK1:=m0_;clear m0_;have n0_:=mA (bT (by repeat first|(with_reducible first|exact HB.out|apply bA|apply bN|apply bD)|exact HB.out) hb);clear HB;have HB:=n0_;clear n0_;(try clear hb)))
  go_ret
  exact ⟨rfl,(by repeat first|(with_reducible first|exact HB.out|apply bA|apply bN|apply bD)|exact HB.out)⟩
 | true =>
  replace H:=mA (show impl_tableBy.f (fun k_ x_=>impl_maySay.f k_ a1_0 l1 x_) k a0=some r from H)
  go_enter Try.func45,Try.ntmps45
  go_wp2_with (first|((with_reducible refine gate_dst (N:=3) rfl ?_);refine box_event ?hg (N:=3) ?hd (cs:=#[.int .i64 a1_0,.slice A1 l1.length c1]) (t:=42) ?hr ?_;(case hd=>rfl);(case hg=>rfl);(case hr=>first|(go_simp;done)|(go_simp;rfl));intro gb1 hg w3 hbox hb;have n0_:=mA (bT (by repeat first|(with_reducible first|exact HB.out|apply bA|apply bN|apply bD)|exact HB.out) hb);have n1_:=mA (hbox);clear HB;have HB:=n0_;have BK1:=n1_;clear n0_ n1_ hb hbox hg;have hcz0:w3.cell? ⟨gb1,0,none⟩=some (.int .i64 a1_0):=(kC BK1.out 0).trans rfl;have hfz0:=kF BK1.out 0;have hcz1:w3.cell? ⟨gb1,1,none⟩=some (.slice A1 l1.length c1):=(kC BK1.out 1).trans rfl;have hfz1:=kF BK1.out 1)|((with_reducible refine gate_callee (f:=41) rfl ?_);refine goesL_ (some 7) rfl rfl Try.func41 (by kernel_rfl) rfl #[.int .i64 a0,.agg #[.int .i64 a1_0,.slice A1 l1.length c1]] rfl (by (try simp only [mT,mC,mN]);first|done|rfl) ?_;(with_reducible refine (impl_ClaimOk.calls k a0 a1_0 _ _ l1 true _ ?side1 ?side2 A1_.out).mono ?_);(case side1=>repeat first|exact (Kd.C_below HR1.out HB.out)|(with_reducible refine cA ?_ _)|(with_reducible refine cN ?_ _)|(with_reducible refine cD ?_));(case side2=>exact HC1.out);  rintro e w12 ⟨rfl,hb⟩;refine ⟨_,rfl,?_⟩;have m0_:=mA (kB BK1.out hb);clear BK1;have BK1:=m0_;clear m0_;have n0_:=mA (bT (by repeat first|(with_reducible first|exact HB.out|apply bA|apply bN|apply bD)|exact HB.out) hb);clear HB;have HB:=n0_;clear n0_;(try clear hb))|((with_reducible refine gate_callee (f:=53) rfl ?_);refine goesL_ (some 11) rfl rfl Try.func53 (by kernel_rfl) rfl #[.int .i64 a0,.func (.func 54) #[] #[.pointer (some ⟨gb1,0,none⟩)]] rfl (by (try simp only [mT,mC,mN]);first|done|rfl) ?_;(with_reducible refine (impl_tableBy.calls (fun k_ x_=>impl_maySay.f k_ a1_0 l1 x_) Try.func54 (by kernel_rfl) rfl #[.pointer (some ⟨gb1,0,none⟩)] k a0 r _ ?hF H.out).mono ?_);(case hF=>exact fun k x b W hb h=>impl_ClaimTable.calls_1 k a1_0 _ _ l1 gb1 x b W (kB BK1.out hb) (Kd.C_below (Kd.C_below HR1.out HB.out) hb) HC1.out h);  rintro e w12 ⟨rfl,hb⟩;refine ⟨_,rfl,?_⟩;have n0_:=mA (bT (by repeat first|(with_reducible first|exact HB.out|apply bA|apply bN|apply bD)|exact HB.out) hb);clear HB;have HB:=n0_;clear n0_;(try clear hb)))
  go_ret
  exact ⟨rfl,(by repeat first|(with_reducible first|exact HB.out|apply bA|apply bN|apply bD)|exact HB.out)⟩
/-! ### impl_storyTable: function 28 -/
def impl_storyTable.l0:Nat→Int→Int→List (S42)→Int→Int→Option (Int)
 | 0,_,_,_,_,_=>none
 | k+1,x0,x5,x12,x13,x14=>if x14<x13 then (if 0≤x14 then (if x14<(x12.length:Int) then ((impl_ClaimTable.f k x0 ((rd_T42 x12 x14).f0) ((rd_T42 x12 x14).f1)).bind fun t103=>(impl_storyTable.l0 k x0 (Go.bits .and .i64 x5 t103) x12 x13 (wrap64 (x14+1)))) else (none)) else (none)) else (some x5)
def impl_storyTable.f (k:Nat) (a0:Int) (l1:List (S42)):Option (Int):=if 0≤a0 then (impl_storyTable.l0 k a0 (wrap64 ((shl .i64 1 (shl .u64 1 a0))-1)) l1 (l1.length:Int) 0) else (none)
theorem impl_storyTable.mono_l : ∀ k,(∀ y0 y1 y2 y3 y4,LeO (impl_storyTable.l0 k y0 y1 y2 y3 y4) (impl_storyTable.l0 (k+1) y0 y1 y2 y3 y4))
 | 0=>fun _ _ _ _ _ r h=>by simp [impl_storyTable.l0] at h
 | k+1=>by
  have ih0:=impl_storyTable.mono_l k
  ·intro y0 y1 y2 y3 y4
   unfold impl_storyTable.l0
   repeat' first
   | (with_reducible exact ih0 _ _ _ _ _)
   | (with_reducible exact impl_ClaimTable.mono _ _ _ _)
   | (with_reducible exact LeO.refl _)
   | (with_reducible exact LeO.none _)
   | (with_reducible refine LeO.ite ?_ ?_)
   | (with_reducible refine LeO.bind ?_ (fun _=>?_))
   | exact ih0 _ _ _ _ _
   | exact impl_ClaimTable.mono _ _ _ _
   | exact LeO.none _
   | refine LeO.ite ?_ ?_
   | refine LeO.bind ?_ (fun _=>?_)
theorem impl_storyTable.mono : ∀ a0 a1 k,LeO (impl_storyTable.f k a0 a1) (impl_storyTable.f (k+1) a0 a1):=by
 intro a0 a1 k
 have ih0:=impl_storyTable.mono_l k
 unfold impl_storyTable.f
 repeat' first
   | (with_reducible exact ih0 _ _ _ _ _)
   | (with_reducible exact impl_ClaimTable.mono _ _ _ _)
   | (with_reducible exact LeO.refl _)
   | (with_reducible exact LeO.none _)
   | (with_reducible refine LeO.ite ?_ ?_)
   | (with_reducible refine LeO.bind ?_ (fun _=>?_))
   | exact ih0 _ _ _ _ _
   | exact impl_ClaimTable.mono _ _ _ _
   | exact LeO.none _
   | refine LeO.ite ?_ ?_
   | refine LeO.bind ?_ (fun _=>?_)
set_option maxHeartbeats 8000000 in
set_option maxRecDepth 100000 in
theorem impl_storyTable.calls (k:Nat) (a0:Int) (A1:Option Addr) (c1:Nat) (l1:List (S42)) (r:Int) (w:World) (hr1:Kd.C k42 w A1 l1.length l1) (hc1:l1.length≤c1) (h:impl_storyTable.f k a0 l1=some r) :
  Calls Try.prog 28 #[.int .i64 a0,.slice A1 l1.length c1] w fun e w'=>e = .returned (.int .i64 r)∧Below w.heap.size w w':=by
 have hu42:=Try.underlying42
 have HR1:=mA hr1
 have HC1:=mA hc1
 clear hr1 hc1
 have HB:=mA (Below.refl w.heap.size w)
 have H:(if 0≤a0 then (impl_storyTable.l0 k a0 (wrap64 ((shl .i64 1 (shl .u64 1 a0))-1)) l1 (l1.length:Int) 0) else (none))=some r:=h
 clear h
 by_cases c3:0≤a0
 ·rw [if_pos c3] at H
  have c3b0:=eq_true c3
  have c3b1:decide (0≤a0)=true:=decide_eq_true c3
  clear c3
  obtain ⟨ji4,hji4⟩ : ∃ j_:Int,(shl .u64 1 a0)=j_:=⟨_,rfl⟩
  have hji4_n:(0≤ji4)=True:=eq_true (by rw [←hji4];exact shl_u64_nonneg _ _)
  replace H:(impl_storyTable.l0 k a0 (wrap64 ((shl .i64 1 (ji4))-1)) l1 (l1.length:Int) 0)=some r:=by first|(rw [hji4] at H;exact H)|(simp only [hji4] at H ⊢;exact H)
  have hji4_:(IntKind.u64.wrap (1*2^min a0.toNat 64))=ji4:=hji4
  have hji4z:a0≤64→(IntKind.u64.wrap (1*2^a0.toNat))=ji4:=shl_small hji4
  have hji4u:(IntKind.u64.wrap (2^min a0.toNat 64))=ji4:=by have h_:=hji4_;rw [Int.one_mul] at h_;exact h_
  have hji4v:a0≤64→(IntKind.u64.wrap (2^a0.toNat))=ji4:=fun hle_=>by have h_:=hji4z hle_;rw [Int.one_mul] at h_;exact h_
  obtain ⟨ji5,hji5⟩ : ∃ j_:Int,(shl .i64 1 (ji4))=j_:=⟨_,rfl⟩
  replace H:(impl_storyTable.l0 k a0 (wrap64 ((ji5)-1)) l1 (l1.length:Int) 0)=some r:=by first|(rw [hji5] at H;exact H)|(simp only [hji5] at H ⊢;exact H)
  have hji5_:(IntKind.i64.wrap (1*2^min (ji4).toNat 64))=ji5:=hji5
  have hji5z:(ji4)≤64→(IntKind.i64.wrap (1*2^(ji4).toNat))=ji5:=shl_small hji5
  have hji5u:(IntKind.i64.wrap (2^min (ji4).toNat 64))=ji5:=by have h_:=hji5_;rw [Int.one_mul] at h_;exact h_
  have hji5v:(ji4)≤64→(IntKind.i64.wrap (2^(ji4).toNat))=ji5:=fun hle_=>by have h_:=hji5z hle_;rw [Int.one_mul] at h_;exact h_
  have hji5y:(wrap64 (1*2^min (ji4).toNat 64))=ji5:=(i64_w _).symm.trans hji5_
  have hji5x:(ji4)≤64→(wrap64 (1*2^(ji4).toNat))=ji5:=fun h_=>(i64_w _).symm.trans (hji5z h_)
  have H':=mA H
  clear H
  go_enter Try.func28,Try.ntmps28
  go_wp2
  go_loopg [5,14] k (fun kq v5 v14 w'=>∃ (x5_1:Int) (x14_1:Int),v5 = .int .i64 x5_1∧v14 = .int .i64 x14_1∧Aside0 (impl_storyTable.l0 kq a0 x5_1 l1 (l1.length:Int) x14_1=some r)∧Aside0 (kq≤k)∧Aside0 (Below w.heap.size w w'))
  case atStart=>exact ⟨(wrap64 ((ji5)-1)),(0),(by first|rfl|(simp;done)|(simp only [←hji5]<;>(first|rfl|simp))|(simp [*];done)),(by first|rfl|(simp;done)|(simp [*];done)),H',⟨Nat.le_refl _⟩,⟨by repeat (first|(with_reducible first|exact HB.out|apply bA|apply bN|apply bD)|exact HB.out)⟩⟩
  case round =>
   clear H'
   try clear c1
   try clear c2
   try clear p2
   try clear c3
   try clear c3b0
   try clear c3b1
   obtain ⟨x5_1,x14_1,rfl,rfl,HA,HK1,HB⟩:=hrel
   cases gk with
   | zero=>exact absurd HA.out (by simp [impl_storyTable.l0])
   | succ k1 =>
    have H:=HA.out
    clear HA
    simp only [impl_storyTable.l0] at H
    by_cases c6:x14_1<(l1.length:Int)
    ·rw [if_pos c6] at H
     have c6b0:decide (x14_1<(l1.length:Int))=true:=decide_eq_true c6
     clear c6
     by_cases c7:0≤x14_1
     ·rw [if_pos c7] at H
      have c7b0:decide (0≤x14_1)=true:=decide_eq_true c7
      clear c7
      by_cases c8:x14_1<(l1.length:Int)
      ·rw [if_pos c8] at H
       have c8b0:decide (x14_1<(l1.length:Int))=true:=decide_eq_true c8
       clear c8
       replace H:=Option.bind_eq_some_iff.mp H
       obtain ⟨t103,A90,H⟩:=H
       replace H:(impl_storyTable.l0 k1 a0 (Go.bits .and .i64 x5_1 t103) l1 (l1.length:Int) (wrap64 (x14_1+1)))=some r:=H
       have A9:=mA A90
       clear A90
       have H':=mA H
       clear H
       have p101:0≤(x14_1:Int):=of_decide_eq_true (by first|with_reducible assumption|assumption)
       have q101:x14_1<(l1.length:Int):=of_decide_eq_true (by first|with_reducible assumption|assumption)
       obtain ⟨ad101,A101_1,c101_1,e101,hx101_0,hx101_1,hl101_1,hi101_1⟩:=at_T42 HR1.out x14_1 p101 q101
       cases e101
       replace hx101_0:=(HB.out.cell (World.block_lt_of_cell? w _ hx101_0)).trans hx101_0
       replace hx101_1:=(HB.out.cell (World.block_lt_of_cell? w _ hx101_1)).trans hx101_1
       have HR101_1:=mA hi101_1
       have HC101_1:=mA hl101_1
       clear hi101_1 hl101_1
       replace p101:=eq_true p101
       replace q101:=eq_true q101
       go_wp2_with (first|((with_reducible refine gate_dst (N:=7) rfl ?_);refine box_event ?hg (N:=7) ?hd (cs:=#[.int .i64 0,.slice none 0 0]) (t:=42) ?hr ?_;(case hd=>rfl);(case hg=>rfl);(case hr=>first|(go_simp;done)|(go_simp;rfl));intro gb102 hg w10 hbox hb;have n0_:=mA (bT (by repeat first|(with_reducible first|exact HB.out|apply bA|apply bN|apply bD)|exact HB.out) hb);have n1_:=mA (hbox);have n2_:=mA ((by rw [hg];exact (bZ (by repeat first|(with_reducible first|exact HB.out|apply bA|apply bN|apply bD)|exact HB.out)):w.heap.size≤gb102));have n3_:=mA ((by rw [hg];exact (bZ (by repeat first|(with_reducible first|exact HB.out|apply bA|apply bN|apply bD)|exact HB.out)):w.heap.size≤gb102));clear HB;have HB:=n0_;have BK102:=n1_;have GW102:=n2_;have GE102:=n3_;clear n0_ n1_ n2_ n3_ hb hbox hg;have hcz11_0:w10.cell? ⟨gb102,0,none⟩=some (.int .i64 0):=(kC BK102.out 0).trans rfl;have hcz11_1:w10.cell? ⟨gb102,1,none⟩=some (.slice none 0 0):=(kC BK102.out 1).trans rfl;have hfz11_0:=kF BK102.out 0;have hfz11_1:=kF BK102.out 1)|((with_reducible refine gate_callee (f:=45) rfl ?_);refine goesL_ (some 21) rfl rfl Try.func45 (by kernel_rfl) rfl #[.int .i64 a0,.agg #[.int .i64 ((rd_T42 l1 x14_1).f0),.slice A101_1 ((rd_T42 l1 x14_1).f1).length c101_1]] rfl (by (try simp only [mT,mC,mN]);first|done|rfl|(simp only [lD,lT];rfl)) ?_;(with_reducible refine (impl_ClaimTable.calls k1 a0 ((rd_T42 l1 x14_1).f0) _ _ ((rd_T42 l1 x14_1).f1) t103 _ ?side1 ?side2 A9.out).mono ?_);(case side1=>exact Kd.C_below HR101_1.out (by repeat first|(with_reducible first|exact HB.out|apply bA|apply bN|apply bD|refine bS ?_ GE102.out)|exact HB.out));(case side2=>exact HC101_1.out);rintro e w12 ⟨rfl,hb⟩;refine ⟨_,rfl,?_⟩;have n0_:=mA (kB (g:=gb102) (o:=.cells #[.int .i64 ((rd_T42 l1 x14_1).f0),.slice A101_1 ((rd_T42 l1 x14_1).f1).length c101_1] 42 (0,0)) (by (with_reducible repeat first|refine kN ?_ _|refine kD ?_|refine kA ?_ _);refine kP (cs:=#[.int .i64 ((rd_T42 l1 x14_1).f0),.slice none 0 0]) ?_ 1 _ rfl;(with_reducible repeat first|refine kN ?_ _|refine kD ?_|refine kA ?_ _);refine kP (cs:=#[.int .i64 0,.slice none 0 0]) ?_ 0 _ rfl;(with_reducible repeat first|refine kN ?_ _|refine kD ?_|refine kA ?_ _);exact BK102.out) hb);have n1_:=mA (bT (by repeat first|(with_reducible first|exact HB.out|apply bA|apply bN|apply bD|refine bS ?_ GE102.out)|exact HB.out) hb);clear BK102 HB;have BK102:=n0_;have HB:=n1_;clear n0_ n1_;(try clear hb);(try clear hb2);(try clear hk);(try clear hi)))
       go_roundg k1
       case measure=>have:=HK1.out;omega
       case rel=>exact ⟨(Go.bits .and .i64 x5_1 t103),(wrap64 (x14_1+1)),(by first|rfl|(simp;done)|(simp [*];done)),(by first|rfl|(simp;done)|(simp [*];done)),H',⟨by have:=HK1.out;omega⟩,⟨by repeat (first|(with_reducible first|exact HB.out|apply bA|apply bN|apply bD|refine bS ?_ GE102.out)|exact HB.out)⟩⟩
      ·rw [if_neg c8] at H
       exact absurd H (by simp)
     ·rw [if_neg c7] at H
      exact absurd H (by simp)
    ·rw [if_neg c6] at H
     have c6b0:decide (x14_1<(l1.length:Int))=false:=decide_eq_false c6
     clear c6
     obtain rfl:=Option.some.inj H
     go_wp2
     go_ret
     exact ⟨by first|rfl|(simp [errW_none,errW_some]<;>rfl)|(simp only [←hji4, ←hji5];first|rfl|(simp [errW_none,errW_some]<;>rfl))|(simp [*, errW_none,errW_some]<;>rfl),by repeat (first|(with_reducible first|exact HB.out|apply bA|apply bN|apply bD)|exact HB.out)⟩
 ·rw [if_neg c3] at H
  exact absurd H (by simp)
/-! ### impl_NeedlessClaims: function 19 -/
def impl_NeedlessClaims.l0:Nat→Int→List (S42)→List Int→Int→Int→Option (List Int)
 | 0,_,_,_,_,_=>none
 | k+1,x0,x1,x5,x13,x14=>if x14<x13 then ((impl_without.f x1 x14).bind fun t105=>((impl_storyTable.f k x0 t105).bind fun t108=>((impl_storyTable.f k x0 x1).bind fun t109=>(if t108=t109 then (if x5.length<17592186044416 then (impl_NeedlessClaims.l0 k x0 x1 (x5++[x14]) x13 (wrap64 (x14+1))) else (none)) else (impl_NeedlessClaims.l0 k x0 x1 x5 x13 (wrap64 (x14+1))))))) else (some x5)
def impl_NeedlessClaims.f (k:Nat) (a0:Int) (l1:List (S42)):Option (List Int):=(impl_StoryOk.f k a0 l1).bind fun t101=>(if t101=true then (impl_NeedlessClaims.l0 k a0 l1 (([]:List Int)) (l1.length:Int) 0) else (some ([]:List Int)))
theorem impl_NeedlessClaims.mono_l : ∀ k,(∀ y0 y1 y2 y3 y4,LeO (impl_NeedlessClaims.l0 k y0 y1 y2 y3 y4) (impl_NeedlessClaims.l0 (k+1) y0 y1 y2 y3 y4))
 | 0=>fun _ _ _ _ _ r h=>by simp [impl_NeedlessClaims.l0] at h
 | k+1=>by
  have ih0:=impl_NeedlessClaims.mono_l k
  ·intro y0 y1 y2 y3 y4
   unfold impl_NeedlessClaims.l0
   repeat' first
   | (with_reducible exact ih0 _ _ _ _ _)
   | (with_reducible exact impl_StoryOk.mono _ _ _)
   | (with_reducible exact impl_storyTable.mono _ _ _)
   | (with_reducible exact LeO.refl _)
   | (with_reducible exact LeO.none _)
   | (with_reducible refine LeO.ite ?_ ?_)
   | (with_reducible refine LeO.bind ?_ (fun _=>?_))
   | exact ih0 _ _ _ _ _
   | exact impl_StoryOk.mono _ _ _
   | exact impl_storyTable.mono _ _ _
   | exact LeO.none _
   | refine LeO.ite ?_ ?_
   | refine LeO.bind ?_ (fun _=>?_)
theorem impl_NeedlessClaims.mono : ∀ a0 a1 k,LeO (impl_NeedlessClaims.f k a0 a1) (impl_NeedlessClaims.f (k+1) a0 a1):=by
 intro a0 a1 k
 have ih0:=impl_NeedlessClaims.mono_l k
 unfold impl_NeedlessClaims.f
 repeat' first
   | (with_reducible exact ih0 _ _ _ _ _)
   | (with_reducible exact impl_StoryOk.mono _ _ _)
   | (with_reducible exact impl_storyTable.mono _ _ _)
   | (with_reducible exact LeO.refl _)
   | (with_reducible exact LeO.none _)
   | (with_reducible refine LeO.ite ?_ ?_)
   | (with_reducible refine LeO.bind ?_ (fun _=>?_))
   | exact ih0 _ _ _ _ _
   | exact impl_StoryOk.mono _ _ _
   | exact impl_storyTable.mono _ _ _
   | exact LeO.none _
   | refine LeO.ite ?_ ?_
   | refine LeO.bind ?_ (fun _=>?_)
set_option maxHeartbeats 8000000 in
set_option maxRecDepth 100000 in
theorem impl_NeedlessClaims.calls (k:Nat) (a0:Int) (A1:Option Addr) (c1:Nat) (l1:List (S42)) (r:List Int) (w:World) (hr1:Kd.C k42 w A1 l1.length l1) (hc1:l1.length≤c1) (h:impl_NeedlessClaims.f k a0 l1=some r) :
  Calls Try.prog 19 #[.int .i64 a0,.slice A1 l1.length c1] w fun e w'=>∃ v0_:Value,e = .returned (v0_)∧Kd.R (Kd.int .i64) 3 w' w.heap.size (fun _=>True) v0_ r∧Below w.heap.size w w':=by
 have HR1:=mA hr1
 have HC1:=mA hc1
 clear hr1 hc1
 have HB:=mA (Below.refl w.heap.size w)
 have H:((impl_StoryOk.f k a0 l1).bind fun t101=>(if t101=true then (impl_NeedlessClaims.l0 k a0 l1 (([]:List Int)) (l1.length:Int) 0) else (some ([]:List Int))))=some r:=h
 clear h
 replace H:=Option.bind_eq_some_iff.mp H
 obtain ⟨t101,A30,H⟩:=H
 replace H:(if t101=true then (impl_NeedlessClaims.l0 k a0 l1 (([]:List Int)) (l1.length:Int) 0) else (some ([]:List Int)))=some r:=H
 have A3:=mA A30
 clear A30
 by_cases c4:t101=true
 ·subst c4
  have H1:(impl_NeedlessClaims.l0 k a0 l1 (([]:List Int)) (l1.length:Int) 0)=some r:=by rw [if_pos rfl] at H;exact H
  clear H
  have H:=H1
  clear H1
  obtain ⟨y102,hy102⟩ : ∃ y_:List Int,y_=(([]:List Int)):=⟨_,rfl⟩
  replace H:(impl_NeedlessClaims.l0 k a0 l1 y102 (l1.length:Int) 0)=some r:=by first|(rw [hy102];with_reducible exact H)|(have H2_:=(Option.bind_some _ _).symm.trans H;rw [hy102];with_reducible exact H2_)|(have H2_:=(Option.bind_some _ _).symm.trans H;with_reducible exact H2_)|with_reducible exact H|(rw [hy102];exact H)|exact H
  have Ny102:=mA hy102
  clear hy102
  have H':=mA H
  clear H
  go_enter Try.func19,Try.ntmps19
  go_wp2_with (first|((with_reducible refine gate_callee (f:=25) rfl ?_);refine goesL_ (some 9) rfl rfl Try.func25 (by kernel_rfl) rfl #[.int .i64 a0,.slice A1 l1.length c1] rfl (by (try simp only [mT,mC,mN]);first|done|rfl|(simp only [lD,lT];rfl)) ?_;(with_reducible refine (impl_StoryOk.calls k a0 _ _ l1 true _ ?side1 ?side2 A3.out).mono ?_);(case side1=>repeat first|exact HR1.out|(with_reducible refine cA ?_ _)|(with_reducible refine cN ?_ _)|(with_reducible refine cD ?_));(case side2=>exact HC1.out);rintro e w5 ⟨rfl,hb⟩;refine ⟨_,rfl,?_⟩;have n0_:=mA (bT (by repeat first|(with_reducible first|exact HB.out|apply bA|apply bN|apply bD)|exact HB.out) hb);clear HB;have HB:=n0_;clear n0_;(try clear hb);(try clear hb2);(try clear hk);(try clear hi))|((with_reducible refine gate_dst (N:=11) rfl ?_);refine Kd.R_lit (Kd.int .i64) _ 3 ?hg (N:=11) ?hd (xs:=([]:List Int)) (inner:=[]) (ok:=fun _=>True) (okp:=fun _=>True) ?hr ?hp (fun _ hk=>hk) trivial (Below.refl _ _) (Nat.le_refl _) (by simp) ?_;(case hd=>rfl);(case hg=>rfl);(case hr=>first|(go_simp;done)|(go_simp;rfl));(case hp=>exact (Reps.none _ _));intro v103 w6 ho7 hb hg_ hnew_;clear hg_ hnew_;(first|rw [←Ny102.out] at ho7|(simp only [Int.reduceToNat] at ho7;rw [←Ny102.out] at ho7));have n0_:=mA (rW ho7 (bZ (by repeat first|(with_reducible first|exact HB.out|apply bA|apply bN|apply bD)|exact HB.out)));have n1_:=mA (bT (by repeat first|(with_reducible first|exact HB.out|apply bA|apply bN|apply bD)|exact HB.out) hb);clear HB;have HO104:=n0_;have HB:=n1_;clear n0_ n1_ hb ho7))
  go_loopg [5,14] k (fun kq v5 v14 w'=>∃ (x5_1:List Int) (x14_1:Int),v14 = .int .i64 x14_1∧Aside0 (impl_NeedlessClaims.l0 kq a0 l1 x5_1 (l1.length:Int) x14_1=some r)∧Aside0 (kq≤k)∧Aside0 (Kd.R (Kd.int .i64) 3 w' w.heap.size (fun _=>True) v5 x5_1)∧Aside0 (Below w.heap.size w w'))
  case atStart=>exact ⟨(y102),(0),(by first|rfl|(simp;done)|(simp [*];done)),H',⟨Nat.le_refl _⟩,⟨by (with_reducible repeat first|apply rA|apply rN|apply rD);exact HO104.out⟩,⟨by repeat (first|(with_reducible first|exact HB.out|apply bA|apply bN|apply bD)|exact HB.out)⟩⟩
  case round =>
   clear H'
   try clear c1
   try clear c2
   try clear p2
   try clear c4
   obtain ⟨x5_1,x14_1,rfl,HA,HK1,HO_5,HB⟩:=hrel
   cases gk with
   | zero=>exact absurd HA.out (by simp [impl_NeedlessClaims.l0])
   | succ k1 =>
    have H:=HA.out
    clear HA
    simp only [impl_NeedlessClaims.l0] at H
    by_cases c8:x14_1<(l1.length:Int)
    ·rw [if_pos c8] at H
     have c8b0:decide (x14_1<(l1.length:Int))=true:=decide_eq_true c8
     clear c8
     replace H:=Option.bind_eq_some_iff.mp H
     obtain ⟨t105,A90,H⟩:=H
     replace H:((impl_storyTable.f k1 a0 t105).bind fun t108=>((impl_storyTable.f k1 a0 l1).bind fun t109=>(if t108=t109 then (if x5_1.length<17592186044416 then (impl_NeedlessClaims.l0 k1 a0 l1 (x5_1++[x14_1]) (l1.length:Int) (wrap64 (x14_1+1))) else (none)) else (impl_NeedlessClaims.l0 k1 a0 l1 x5_1 (l1.length:Int) (wrap64 (x14_1+1))))))=some r:=H
     have A9:=mA A90
     clear A90
     replace H:=Option.bind_eq_some_iff.mp H
     obtain ⟨t108,A100,H⟩:=H
     replace H:((impl_storyTable.f k1 a0 l1).bind fun t109=>(if t108=t109 then (if x5_1.length<17592186044416 then (impl_NeedlessClaims.l0 k1 a0 l1 (x5_1++[x14_1]) (l1.length:Int) (wrap64 (x14_1+1))) else (none)) else (impl_NeedlessClaims.l0 k1 a0 l1 x5_1 (l1.length:Int) (wrap64 (x14_1+1)))))=some r:=H
     have A10:=mA A100
     clear A100
     replace H:=Option.bind_eq_some_iff.mp H
     obtain ⟨t109,A110,H⟩:=H
     replace H:(if t108=t109 then (if x5_1.length<17592186044416 then (impl_NeedlessClaims.l0 k1 a0 l1 (x5_1++[x14_1]) (l1.length:Int) (wrap64 (x14_1+1))) else (none)) else (impl_NeedlessClaims.l0 k1 a0 l1 x5_1 (l1.length:Int) (wrap64 (x14_1+1))))=some r:=H
     have A11:=mA A110
     clear A110
     by_cases c12:t108=t109
     ·rw [if_pos c12] at H
      have c12b0:(t108==t109)=true:=beq_iff_eq.mpr c12
      have c12b1:(t108 != t109)=false:=bne_eq_false_iff_eq.mpr c12
      clear c12
      by_cases c13:x5_1.length<17592186044416
      ·rw [if_pos c13] at H
       have LMc13:=mA c13
       clear c13
       obtain ⟨y110,hy110⟩ : ∃ y_:List Int,y_=(x5_1++[x14_1]):=⟨_,rfl⟩
       replace H:(impl_NeedlessClaims.l0 k1 a0 l1 y110 (l1.length:Int) (wrap64 (x14_1+1)))=some r:=by first|(rw [hy110];with_reducible exact H)|(have H2_:=(Option.bind_some _ _).symm.trans H;rw [hy110];with_reducible exact H2_)|(have H2_:=(Option.bind_some _ _).symm.trans H;with_reducible exact H2_)|with_reducible exact H|(rw [hy110];exact H)|exact H
       have Ny110:=mA hy110
       clear hy110
       have H':=mA H
       clear H
       go_wp2_with (first|((with_reducible refine gate_callee (f:=27) rfl ?_);refine goesL_ (some 20) rfl rfl Try.func27 (by kernel_rfl) rfl #[.slice A1 l1.length c1,.int .i64 x14_1] rfl (by (try simp only [mT,mC,mN]);first|done|rfl|(simp only [lD,lT];rfl)) ?_;(with_reducible refine (impl_without.calls (fun k_=>k_<w.heap.size) _ _ l1 x14_1 t105 _ ?side1 A9.out).mono ?_);(case side1=>exact Kd.V_mk HC1.out (Kd.F_below (Kd.C_F k42_heap HR1.out) (by repeat first|(with_reducible first|exact HB.out|apply bA|apply bN|apply bD)|exact HB.out)));rintro e w14 ⟨v106,rfl,ho0,hb⟩;refine ⟨_,rfl,?_⟩;have n0_:=mA (rB (by (with_reducible repeat first|apply rA|apply rN|apply rD);exact HO_5.out) hb);have n1_:=mA (Kd.N_lower (Kd.N_mono (ok':=fun k_=>some k_≠(u5:Value).ownBlock) ho0 (fun k_ hk_=>Or.elim hk_ (fun hs_=>fun e_=>Nat.not_le.2 hs_ (Kd.R_base HO_5.out k_ e_.symm)) (fun hn_=>(Kd.fresh' (rL (by (with_reducible repeat first|apply rA|apply rN|apply rD);exact HO_5.out)) k_ hn_)))) (bZ (by repeat first|(with_reducible first|exact HB.out|apply bA|apply bN|apply bD)|exact HB.out)));have n2_:=mA (bT (by repeat first|(with_reducible first|exact HB.out|apply bA|apply bN|apply bD)|exact HB.out) hb);clear HO_5 HB;have HO_5:=n0_;have HO107:=n1_;have HB:=n2_;clear n0_ n1_ n2_;(try clear hb);(try clear hb2);(try clear hk);(try clear hi);(try clear ho0);obtain ⟨Ao15,co15,eo15⟩:=Kd.N_slice HO107.out;subst eo15)|((with_reducible refine gate_callee (f:=28) rfl ?_);refine goesL_ (some 21) rfl rfl Try.func28 (by kernel_rfl) rfl #[.int .i64 a0,.slice Ao15 t105.length co15] rfl (by (try simp only [mT,mC,mN]);first|done|rfl|(simp only [lD,lT];rfl)) ?_;(with_reducible refine (impl_storyTable.calls k1 a0 _ _ t105 t108 _ ?side1 ?side2 A10.out).mono ?_);(case side1=>repeat first|exact (Kd.N_reads' HO107.out).2.2|(with_reducible refine cA ?_ _)|(with_reducible refine cN ?_ _)|(with_reducible refine cD ?_));(case side2=>exact (Kd.N_reads' HO107.out).2.1);rintro e w16 ⟨rfl,hb⟩;refine ⟨_,rfl,?_⟩;have n0_:=mA (rB (by (with_reducible repeat first|apply rA|apply rN|apply rD);exact HO_5.out) hb);have n1_:=mA (Kd.N_below (by (with_reducible repeat first|apply nA|apply nN|apply nD);exact HO107.out) hb);have n2_:=mA (bT (by repeat first|(with_reducible first|exact HB.out|apply bA|apply bN|apply bD)|exact HB.out) hb);clear HO_5 HO107 HB;have HO_5:=n0_;have HO107:=n1_;have HB:=n2_;clear n0_ n1_ n2_;(try clear hb);(try clear hb2);(try clear hk);(try clear hi))|((with_reducible refine gate_callee (f:=28) rfl ?_);refine goesL_ (some 24) rfl rfl Try.func28 (by kernel_rfl) rfl #[.int .i64 a0,.slice A1 l1.length c1] rfl (by (try simp only [mT,mC,mN]);first|done|rfl|(simp only [lD,lT];rfl)) ?_;(with_reducible refine (impl_storyTable.calls k1 a0 _ _ l1 t109 _ ?side1 ?side2 A11.out).mono ?_);(case side1=>repeat first|exact (Kd.C_below HR1.out HB.out)|(with_reducible refine cA ?_ _)|(with_reducible refine cN ?_ _)|(with_reducible refine cD ?_));(case side2=>exact HC1.out);rintro e w17 ⟨rfl,hb⟩;refine ⟨_,rfl,?_⟩;have n0_:=mA (rB (by (with_reducible repeat first|apply rA|apply rN|apply rD);exact HO_5.out) hb);have n1_:=mA (Kd.N_below (by (with_reducible repeat first|apply nA|apply nN|apply nD);exact HO107.out) hb);have n2_:=mA (bT (by repeat first|(with_reducible first|exact HB.out|apply bA|apply bN|apply bD)|exact HB.out) hb);clear HO_5 HO107 HB;have HO_5:=n0_;have HO107:=n1_;have HB:=n2_;clear n0_ n1_ n2_;(try clear hb);(try clear hb2);(try clear hk);(try clear hi))|((with_reducible refine gate_builtin (b:=.append) (xs:=#[.tmp 26,.tmp 28]) rfl ?_);at_builtin;refine Kd.R_append (Kd.int .i64) (w0:=w) w.heap.size rfl (.tmp 26) (.tmp 28) 31 3 (.int .i64 0) 8 rfl Try.underlying31 info3 rfl (by decide) (by omega) u5 x5_1 x14_1 [.int .i64 x14_1] (fun _=>True) (fun _=>False) rfl rfl ?aP (fun _ hk=>hk.elim) ?aF ?aO ?aB ?aS ?aL ?_;(case aP=>exact rfl);(case aB=>exact (by repeat first|(with_reducible first|exact HB.out|apply bA|apply bN|apply bD)|exact HB.out));(case aF=>exact (fun _ _=>trivial));(case aO=>exact (by (with_reducible repeat first|apply rA|apply rN|apply rD);exact HO_5.out));(case aS=>exact (bZ (by repeat first|(with_reducible first|exact HB.out|apply bA|apply bN|apply bD)|exact HB.out)));(case aL=>have:=LMc13.out;omega);intro v111 w18 ho hb hg hat;rw [←Ny110.out] at ho;have n0_:=mA (Kd.N_afterv (ok:=(fun _=>True)) (by (with_reducible repeat first|apply nA|apply nN|apply nD);exact Kd.N_mono HO107.out (fun _ hk=>⟨trivial,hk⟩)) hg hat);have n1_:=mA (hb);have n2_:=mA (ho);clear HO107 HB HO_5;have HO107:=n0_;have HB:=n1_;have HO112:=n2_;clear n0_ n1_ n2_ ho hb hg hat))
       go_roundg k1
       case measure=>have:=HK1.out;omega
       case rel=>exact ⟨(y110),(wrap64 (x14_1+1)),(by first|rfl|(simp;done)|(simp [*];done)),H',⟨by have:=HK1.out;omega⟩,⟨by (with_reducible repeat first|apply rA|apply rN|apply rD);exact HO112.out⟩,⟨by repeat (first|(with_reducible first|exact HB.out|apply bA|apply bN|apply bD)|exact HB.out)⟩⟩
      ·rw [if_neg c13] at H
       exact absurd H (by simp)
     ·rw [if_neg c12] at H
      have c12b0:(t108==t109)=false:=beq_eq_false_iff_ne.mpr c12
      have c12b1:(t108 != t109)=true:=bne_iff_ne.mpr c12
      have H':=mA H
      clear H
      go_wp2_with (first|((with_reducible refine gate_callee (f:=27) rfl ?_);refine goesL_ (some 20) rfl rfl Try.func27 (by kernel_rfl) rfl #[.slice A1 l1.length c1,.int .i64 x14_1] rfl (by (try simp only [mT,mC,mN]);first|done|rfl|(simp only [lD,lT];rfl)) ?_;(with_reducible refine (impl_without.calls (fun k_=>k_<w.heap.size) _ _ l1 x14_1 t105 _ ?side1 A9.out).mono ?_);(case side1=>exact Kd.V_mk HC1.out (Kd.F_below (Kd.C_F k42_heap HR1.out) (by repeat first|(with_reducible first|exact HB.out|apply bA|apply bN|apply bD)|exact HB.out)));rintro e w19 ⟨v106,rfl,ho0,hb⟩;refine ⟨_,rfl,?_⟩;have n0_:=mA (rB (by (with_reducible repeat first|apply rA|apply rN|apply rD);exact HO_5.out) hb);have n1_:=mA (Kd.N_lower (Kd.N_mono (ok':=fun k_=>some k_≠(u5:Value).ownBlock) ho0 (fun k_ hk_=>Or.elim hk_ (fun hs_=>fun e_=>Nat.not_le.2 hs_ (Kd.R_base HO_5.out k_ e_.symm)) (fun hn_=>(Kd.fresh' (rL (by (with_reducible repeat first|apply rA|apply rN|apply rD);exact HO_5.out)) k_ hn_)))) (bZ (by repeat first|(with_reducible first|exact HB.out|apply bA|apply bN|apply bD)|exact HB.out)));have n2_:=mA (bT (by repeat first|(with_reducible first|exact HB.out|apply bA|apply bN|apply bD)|exact HB.out) hb);clear HO_5 HB;have HO_5:=n0_;have HO107:=n1_;have HB:=n2_;clear n0_ n1_ n2_;(try clear hb);(try clear hb2);(try clear hk);(try clear hi);(try clear ho0);obtain ⟨Ao20,co20,eo20⟩:=Kd.N_slice HO107.out;subst eo20)|((with_reducible refine gate_callee (f:=28) rfl ?_);refine goesL_ (some 21) rfl rfl Try.func28 (by kernel_rfl) rfl #[.int .i64 a0,.slice Ao20 t105.length co20] rfl (by (try simp only [mT,mC,mN]);first|done|rfl|(simp only [lD,lT];rfl)) ?_;(with_reducible refine (impl_storyTable.calls k1 a0 _ _ t105 t108 _ ?side1 ?side2 A10.out).mono ?_);(case side1=>repeat first|exact (Kd.N_reads' HO107.out).2.2|(with_reducible refine cA ?_ _)|(with_reducible refine cN ?_ _)|(with_reducible refine cD ?_));(case side2=>exact (Kd.N_reads' HO107.out).2.1);rintro e w21 ⟨rfl,hb⟩;refine ⟨_,rfl,?_⟩;have n0_:=mA (rB (by (with_reducible repeat first|apply rA|apply rN|apply rD);exact HO_5.out) hb);have n1_:=mA (Kd.N_below (by (with_reducible repeat first|apply nA|apply nN|apply nD);exact HO107.out) hb);have n2_:=mA (bT (by repeat first|(with_reducible first|exact HB.out|apply bA|apply bN|apply bD)|exact HB.out) hb);clear HO_5 HO107 HB;have HO_5:=n0_;have HO107:=n1_;have HB:=n2_;clear n0_ n1_ n2_;(try clear hb);(try clear hb2);(try clear hk);(try clear hi))|((with_reducible refine gate_callee (f:=28) rfl ?_);refine goesL_ (some 24) rfl rfl Try.func28 (by kernel_rfl) rfl #[.int .i64 a0,.slice A1 l1.length c1] rfl (by (try simp only [mT,mC,mN]);first|done|rfl|(simp only [lD,lT];rfl)) ?_;(with_reducible refine (impl_storyTable.calls k1 a0 _ _ l1 t109 _ ?side1 ?side2 A11.out).mono ?_);(case side1=>repeat first|exact (Kd.C_below HR1.out HB.out)|(with_reducible refine cA ?_ _)|(with_reducible refine cN ?_ _)|(with_reducible refine cD ?_));(case side2=>exact HC1.out);rintro e w22 ⟨rfl,hb⟩;refine ⟨_,rfl,?_⟩;have n0_:=mA (rB (by (with_reducible repeat first|apply rA|apply rN|apply rD);exact HO_5.out) hb);have n1_:=mA (Kd.N_below (by (with_reducible repeat first|apply nA|apply nN|apply nD);exact HO107.out) hb);have n2_:=mA (bT (by repeat first|(with_reducible first|exact HB.out|apply bA|apply bN|apply bD)|exact HB.out) hb);clear HO_5 HO107 HB;have HO_5:=n0_;have HO107:=n1_;have HB:=n2_;clear n0_ n1_ n2_;(try clear hb);(try clear hb2);(try clear hk);(try clear hi)))
      go_roundg k1
      case measure=>have:=HK1.out;omega
      case rel=>exact ⟨(x5_1),(wrap64 (x14_1+1)),(by first|rfl|(simp;done)|(simp [*];done)),H',⟨by have:=HK1.out;omega⟩,⟨by (with_reducible repeat first|apply rA|apply rN|apply rD);exact HO_5.out⟩,⟨by repeat (first|(with_reducible first|exact HB.out|apply bA|apply bN|apply bD)|exact HB.out)⟩⟩
    ·rw [if_neg c8] at H
     have c8b0:decide (x14_1<(l1.length:Int))=false:=decide_eq_false c8
     clear c8
     obtain rfl:=Option.some.inj H
     go_wp2
     go_ret
     exact ⟨_,by first|rfl|(simp [errW_none,errW_some]<;>rfl)|(simp [*, errW_none,errW_some]<;>rfl),by (with_reducible repeat first|apply rA|apply rN|apply rD);exact HO_5.out,by repeat (first|(with_reducible first|exact HB.out|apply bA|apply bN|apply bD)|exact HB.out)⟩
 ·replace c4:=Bool.eq_false_iff.mpr c4
  subst c4
  have H1:(some ([]:List Int))=some r:=by rw [if_neg (show ¬ (false=true) by decide)] at H;exact H
  clear H
  have H:=H1
  clear H1
  obtain rfl:=Option.some.inj H
  go_enter Try.func19,Try.ntmps19
  go_wp2_with (first|((with_reducible refine gate_callee (f:=25) rfl ?_);refine goesL_ (some 9) rfl rfl Try.func25 (by kernel_rfl) rfl #[.int .i64 a0,.slice A1 l1.length c1] rfl (by (try simp only [mT,mC,mN]);first|done|rfl|(simp only [lD,lT];rfl)) ?_;(with_reducible refine (impl_StoryOk.calls k a0 _ _ l1 false _ ?side1 ?side2 A3.out).mono ?_);(case side1=>repeat first|exact HR1.out|(with_reducible refine cA ?_ _)|(with_reducible refine cN ?_ _)|(with_reducible refine cD ?_));(case side2=>exact HC1.out);rintro e w23 ⟨rfl,hb⟩;refine ⟨_,rfl,?_⟩;have n0_:=mA (bT (by repeat first|(with_reducible first|exact HB.out|apply bA|apply bN|apply bD)|exact HB.out) hb);clear HB;have HB:=n0_;clear n0_;(try clear hb);(try clear hb2);(try clear hk);(try clear hi)))
  go_ret
  exact ⟨_,by first|rfl|(simp [errW_none,errW_some]<;>rfl)|(simp [*, errW_none,errW_some]<;>rfl),by first|exact Kd.R_nil _ _ _ _ _|exact Kd.N_nil _ _ _ _ _|exact Kd.V_nil _ _ _ _ _|exact Kd.Q_nil _ _ _ _ _|exact Kd.S_nil _ _ _ _ _,by repeat (first|(with_reducible first|exact HB.out|apply bA|apply bN|apply bD)|exact HB.out)⟩
end Go.Proofs.Ytbhjeiphmnanoaa.X
