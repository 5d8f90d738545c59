/- Joined by a program of this session's: X4. -/
import Derived.Test.YtpampekijfjlkabGa4ed4a3048
import Derived.Test.YtpampekijfjlkabGe4d161c943

namespace Go.Proofs.Ytpampekijfjlkab.X
open Go.RowKit Go.Proofs.YtpampekijfjlkabW.PrintWords Go.Proofs.YtpampekijfjlkabW.PrintLast Go.Proofs.YtpampekijfjlkabW.PrintMore
open Go.Proofs.YtpampekijfjlkabW.PrintWords renaming Aside0.mk → mA, pw_below_drewN → bN, below_drew1 → bD, below_alloc → bA, below_set → bS, below_step → bT, Kd.R_alloc → rA, Kd.R_drewN → rN, Kd.R_drew → rD, Kd.R_mono → rM, Kd.R_reads' → rR, Kd.R_lt → rL, Kd.R_typed → rT, Kd.R_below → rB, KeepBut.set_ → eS, keep_drewN → eN, keep_alloc → eA, keep_drew → eD, KeepBut.trans → eT, KeepBut.of_below → eB, KeepBut.of_grown → eG, keep_size → eZ, Kd.R_elder' → rE, Kd.R_lower → rW, Kd.R_new' → rQ, Kd.R_after → rJ, Kd.R_over' → rO, Kd.R_apart' → rP, below_weaken → bW, Kd.C_alloc → cA, Kd.C_drewN → cN, Kd.C_drew → cD
open Go.Proofs.Ytpampekijfjlkab.X renaming IsS113.alloc → iA, IsS113.drewN → iN, IsS113.drew → iD, IsS113.set_1 → iS, IsS113.ge → iG, IsS113.below → iB, IsS113.apart → iP, IsS113.grown → iW, IsS113.own_ne → iO
open List renaming setIfInBounds_toArray → sA, set_cons_zero → sZ, set_cons_succ → sS, length_take → lT, length_drop → lD, map_toArray → mT, map_cons → mC, map_nil → mN
open Bool renaming true → I, false → O
attribute [local go_sem] max2_int min2_int max_two min_two max_three min_three max_four min_four   -- for this text's walks alone
set_option linter.unusedVariables false
set_option linter.unusedSimpArgs false
/-! ### spec_l20Term: function 128 -/
mutual
def spec_l20Term.l0:Nat→Int→Int→List (List (S33))→Int→List Int→Int→Option ((List (S33))×Int)
 | 0,_,_,_,_,_,_=>none
 | k+1,x1,x2,x7,x8,x1000,x1001=>if x8>0 then ((spec_l20Rd_pick.f k x1000 x1001 4).bind fun bt106=>(if bt106.1=0 then ((spec_l20Rd_pick.f k x1000 bt106.2 (wrap64 (x1+2))).bind fun bt108=>(if x7.length<5864062014805 then (spec_l20Term.l0 k x1 x2 (x7++[(([(⟨1,bt108.1⟩:S33)]:List (S33)))]) (wrap64 (x8-1)) x1000 bt108.2) else (none))) else ((spec_l20Rd_pick.f k x1000 bt106.2 x1).bind fun bt116=>(if x7.length<5864062014805 then (spec_l20Term.l0 k x1 x2 (x7++[(([(⟨0,bt116.1⟩:S33)]:List (S33)))]) (wrap64 (x8-1)) x1000 bt116.2) else (none))))) else (spec_l20Term.l1 k x2 x7 3 x1000 x1001)
def spec_l20Term.l1:Nat→Int→List (List (S33))→Int→List Int→Int→Option ((List (S33))×Int)
 | 0,_,_,_,_,_=>none
 | k+1,x2,x7,x9,x1000,x1001=>if (x7.length:Int)>1 then ((spec_l20Rd_pick.f k x1000 x1001 (wrap64 ((x7.length:Int)-1))).bind fun bt124=>(if x9>0 then ((spec_l20Rd_pick.f k x1000 bt124.2 4).bind fun bt126=>(if bt126.1=0 then ((some (([]:List (S33)):List (S33))).bind fun y128=>(if 0≤bt124.1 then (if bt124.1<(x7.length:Int) then (if y128.length+(rd_L3 x7 bt124.1).length<8796093022208 then ((some (y128++(rd_L3 x7 bt124.1):List (S33))).bind fun y132=>(if y132.length<8796093022208 then (spec_l20Term.l1 k x2 (x7.set (bt124.1:Int).toNat (y132++[(⟨2,0⟩:S33)])) (wrap64 (x9-1)) x1000 bt126.2) else (none))) else (none)) else (none)) else (none))) else ((some (([]:List (S33)):List (S33))).bind fun y139=>(if 0≤bt124.1 then (if bt124.1<(x7.length:Int) then (if y139.length+(rd_L3 x7 bt124.1).length<8796093022208 then ((some (y139++(rd_L3 x7 bt124.1):List (S33))).bind fun y143=>(if 0≤(wrap64 (bt124.1+1)) then (if (wrap64 (bt124.1+1))<(x7.length:Int) then (if y143.length+(rd_L3 x7 (wrap64 (bt124.1+1))).length<8796093022208 then ((some (y143++(rd_L3 x7 (wrap64 (bt124.1+1))):List (S33))).bind fun y147=>((spec_l20Rd_pick.f k x1000 bt126.2 3).bind fun bt150=>(if y147.length<8796093022208 then ((some (([]:List (List (S33))):List (List (S33)))).bind fun y155=>(if bt124.1≤(x7.length:Int) then ((some (x7.take (bt124.1:Int).toNat:List (List (S33)))).bind fun y158=>(if y155.length+y158.length<5864062014805 then ((some (y155++y158:List (List (S33)))).bind fun y162=>(if y162.length<5864062014805 then ((some (y162++[(y147++[(⟨wrap64 (3+bt150.1),0⟩:S33)])]:List (List (S33)))).bind fun y165=>(if 0≤(wrap64 (bt124.1+2)) then (if (wrap64 (bt124.1+2))≤(x7.length:Int) then ((some (x7.drop ((wrap64 (bt124.1+2)):Int).toNat:List (List (S33)))).bind fun y168=>(if y165.length+y168.length<5864062014805 then (spec_l20Term.l1 k x2 (y165++y168) x9 x1000 bt150.2) else (none))) else (none)) else (none))) else (none))) else (none))) else (none))) else (none)))) else (none)) else (none)) else (none))) else (none)) else (none)) else (none))))) else ((some (([]:List (S33)):List (S33))).bind fun y175=>(if 0≤bt124.1 then (if bt124.1<(x7.length:Int) then (if y175.length+(rd_L3 x7 bt124.1).length<8796093022208 then ((some (y175++(rd_L3 x7 bt124.1):List (S33))).bind fun y179=>(if 0≤(wrap64 (bt124.1+1)) then (if (wrap64 (bt124.1+1))<(x7.length:Int) then (if y179.length+(rd_L3 x7 (wrap64 (bt124.1+1))).length<8796093022208 then ((some (y179++(rd_L3 x7 (wrap64 (bt124.1+1))):List (S33))).bind fun y183=>((spec_l20Rd_pick.f k x1000 bt124.2 3).bind fun bt186=>(if y183.length<8796093022208 then ((some (([]:List (List (S33))):List (List (S33)))).bind fun y191=>(if bt124.1≤(x7.length:Int) then ((some (x7.take (bt124.1:Int).toNat:List (List (S33)))).bind fun y194=>(if y191.length+y194.length<5864062014805 then ((some (y191++y194:List (List (S33)))).bind fun y198=>(if y198.length<5864062014805 then ((some (y198++[(y183++[(⟨wrap64 (3+bt186.1),0⟩:S33)])]:List (List (S33)))).bind fun y201=>(if 0≤(wrap64 (bt124.1+2)) then (if (wrap64 (bt124.1+2))≤(x7.length:Int) then ((some (x7.drop ((wrap64 (bt124.1+2)):Int).toNat:List (List (S33)))).bind fun y204=>(if y201.length+y204.length<5864062014805 then (spec_l20Term.l1 k x2 (y201++y204) x9 x1000 bt186.2) else (none))) else (none)) else (none))) else (none))) else (none))) else (none))) else (none)))) else (none)) else (none)) else (none))) else (none)) else (none)) else (none))))) else (if 0<(x7.length:Int) then ((spec_l20Rd_pick.f k x1000 x1001 5).bind fun bt213=>(if bt213.1=0 then (if (rd_L3 x7 0).length<8796093022208 then (spec_l20Term.j2 k x2 ((rd_L3 x7 0)++[(⟨2,0⟩:S33)]) x1000 bt213.2) else (none)) else (spec_l20Term.j2 k x2 (rd_L3 x7 0) x1000 bt213.2))) else (none))
def spec_l20Term.j2:Nat→Int→List (S33)→List Int→Int→Option ((List (S33))×Int)
 | 0,_,_,_,_=>none
 | k+1,x2,x13,x1000,x1001=>(spec_l20Rd_odd.f k x1000 x1001 x2).bind fun bt218=>(if bt218.1=true then ((spec_l20Rd_pick.f k x1000 bt218.2 3).bind fun bt220=>(if bt220.1=0 then (some ((([]:List (S33))),bt220.2)) else (if bt220.1=1 then (if x13.length<8796093022208 then (some ((x13++[(⟨5,0⟩:S33)]),bt220.2)) else (none)) else ((spec_l20Rd_pick.f k x1000 bt220.2 2).bind fun bt228=>(if 0<(x13.length:Int) then (some ((x13.set (0:Int).toNat (⟨bt228.1,6⟩:S33)),bt228.2)) else (none)))))) else (some (x13,bt218.2)))
end
def spec_l20Term.f (k:Nat) (s0_0:List Int) (s0_1:Int) (a1:Int) (a2:Int):Option ((List (S33))×Int):=(spec_l20Rd_pick.f k s0_0 s0_1 4).bind fun bt104=>(spec_l20Term.l0 k (mn (mx a1 1) 4) a2 (([]:List (List (S33)))) (wrap64 (1+bt104.1)) s0_0 bt104.2)
theorem spec_l20Term.mono_l : ∀ k,(∀ y0 y1 y2 y3 y4 y5,LeO (spec_l20Term.l0 k y0 y1 y2 y3 y4 y5) (spec_l20Term.l0 (k+1) y0 y1 y2 y3 y4 y5))∧(∀ y0 y1 y2 y3 y4,LeO (spec_l20Term.l1 k y0 y1 y2 y3 y4) (spec_l20Term.l1 (k+1) y0 y1 y2 y3 y4))∧(∀ y0 y1 y2 y3,LeO (spec_l20Term.j2 k y0 y1 y2 y3) (spec_l20Term.j2 (k+1) y0 y1 y2 y3))
 | 0=>⟨fun _ _ _ _ _ _ r h=>by simp [spec_l20Term.l0] at h,fun _ _ _ _ _ r h=>by simp [spec_l20Term.l1] at h,fun _ _ _ _ r h=>by simp [spec_l20Term.j2] at h⟩
 | k+1=>by
  obtain ⟨ih0,ih1,ih2⟩:=spec_l20Term.mono_l k
  refine ⟨?_,?_,?_⟩
  ·intro y0 y1 y2 y3 y4 y5
   unfold spec_l20Term.l0
   repeat' first
   | (with_reducible exact ih0 _ _ _ _ _ _)
   | (with_reducible exact ih1 _ _ _ _ _)
   | (with_reducible exact ih2 _ _ _ _)
   | (with_reducible exact spec_l20Rd_odd.mono _ _ _ _)
   | (with_reducible exact spec_l20Rd_pick.mono _ _ _ _)
   | (with_reducible exact LeO.refl _)
   | (with_reducible exact LeO.none _)
   | (with_reducible refine LeO.ite ?_ ?_)
   | (with_reducible refine LeO.bind ?_ (fun _=>?_))
   | exact ih0 _ _ _ _ _ _
   | exact ih1 _ _ _ _ _
   | exact ih2 _ _ _ _
   | exact spec_l20Rd_odd.mono _ _ _ _
   | exact spec_l20Rd_pick.mono _ _ _ _
   | exact LeO.none _
   | refine LeO.ite ?_ ?_
   | refine LeO.bind ?_ (fun _=>?_)
  ·intro y0 y1 y2 y3 y4
   unfold spec_l20Term.l1
   repeat' first
   | (with_reducible exact ih0 _ _ _ _ _ _)
   | (with_reducible exact ih1 _ _ _ _ _)
   | (with_reducible exact ih2 _ _ _ _)
   | (with_reducible exact spec_l20Rd_odd.mono _ _ _ _)
   | (with_reducible exact spec_l20Rd_pick.mono _ _ _ _)
   | (with_reducible exact LeO.refl _)
   | (with_reducible exact LeO.none _)
   | (with_reducible refine LeO.ite ?_ ?_)
   | (with_reducible refine LeO.bind ?_ (fun _=>?_))
   | exact ih0 _ _ _ _ _ _
   | exact ih1 _ _ _ _ _
   | exact ih2 _ _ _ _
   | exact spec_l20Rd_odd.mono _ _ _ _
   | exact spec_l20Rd_pick.mono _ _ _ _
   | exact LeO.none _
   | refine LeO.ite ?_ ?_
   | refine LeO.bind ?_ (fun _=>?_)
  intro y0 y1 y2 y3
  unfold spec_l20Term.j2
  repeat' first
  | (with_reducible exact ih0 _ _ _ _ _ _)
  | (with_reducible exact ih1 _ _ _ _ _)
  | (with_reducible exact ih2 _ _ _ _)
  | (with_reducible exact spec_l20Rd_odd.mono _ _ _ _)
  | (with_reducible exact spec_l20Rd_pick.mono _ _ _ _)
  | (with_reducible exact LeO.refl _)
  | (with_reducible exact LeO.none _)
  | (with_reducible refine LeO.ite ?_ ?_)
  | (with_reducible refine LeO.bind ?_ (fun _=>?_))
  | exact ih0 _ _ _ _ _ _
  | exact ih1 _ _ _ _ _
  | exact ih2 _ _ _ _
  | exact spec_l20Rd_odd.mono _ _ _ _
  | exact spec_l20Rd_pick.mono _ _ _ _
  | exact LeO.none _
  | refine LeO.ite ?_ ?_
  | refine LeO.bind ?_ (fun _=>?_)
theorem spec_l20Term.mono : ∀ a0 a1 a2 a3 k,LeO (spec_l20Term.f k a0 a1 a2 a3) (spec_l20Term.f (k+1) a0 a1 a2 a3):=by
 intro a0 a1 a2 a3 k
 obtain ⟨ih0,ih1,ih2⟩:=spec_l20Term.mono_l k
 unfold spec_l20Term.f
 repeat' first
   | (with_reducible exact ih0 _ _ _ _ _ _)
   | (with_reducible exact ih1 _ _ _ _ _)
   | (with_reducible exact ih2 _ _ _ _)
   | (with_reducible exact spec_l20Rd_odd.mono _ _ _ _)
   | (with_reducible exact spec_l20Rd_pick.mono _ _ _ _)
   | (with_reducible exact LeO.refl _)
   | (with_reducible exact LeO.none _)
   | (with_reducible refine LeO.ite ?_ ?_)
   | (with_reducible refine LeO.bind ?_ (fun _=>?_))
   | exact ih0 _ _ _ _ _ _
   | exact ih1 _ _ _ _ _
   | exact ih2 _ _ _ _
   | exact spec_l20Rd_odd.mono _ _ _ _
   | exact spec_l20Rd_pick.mono _ _ _ _
   | exact LeO.none _
   | refine LeO.ite ?_ ?_
   | refine LeO.bind ?_ (fun _=>?_)
def spec_l20Term.T15:Bool×List (List Nat×List Nat):=(true,[([],[]),([],[]),([],[]),([1,2],[1,2]),([3],[3]),([0,4],[0,4]),([],[]),([],[]),([7],[7]),([6,8],[6,8]),([9],[9]),([5,10,5],[5,10]),([],[]),([12,11],[12]),([13],[13]),([14],[14]),([15],[15]),([11,16,13],[11,16]),([17,17,0,1,2,3,4,5,6,7,8,9,10,11,12,13,14,15,16,17],[17])])
def spec_l20Term.B15:List Nat:=[0,0,0,6,14,31,0,0,128,448,960,2047,0,8191,16383,32767,65535,131071,262143]
theorem spec_l20Term.tab15:rtab .any (opsOf Try.f128 15)=spec_l20Term.T15:=by kernel_rfl
theorem spec_l20Term.bits15:waitsOk spec_l20Term.T15.2 spec_l20Term.B15=true:=by kernel_rfl
set_option maxHeartbeats 8000000 in
set_option maxRecDepth 100000 in
theorem spec_l20Term.calls (k:Nat) (g:Nat) (s0_0:List Int) (s0_1:Int) (a1:Int) (a2:Int) (r1:List (S33)) (r2:Int) (w0 w:World) (hI:IsS113 w0 w g s0_0 s0_1) (hB:Below w0.heap.size w0 w) (h:spec_l20Term.f k s0_0 s0_1 a1 a2=some (r1,r2)) :
  Calls Try.prog 128 #[.pointer (some ⟨g,0,none⟩),.int .i64 a1,.int .i64 a2] w fun e w'=>∃ v0_:Value,e = .returned (v0_)∧Kd.R k33 33 w' w.heap.size (fun _=>True) v0_ r1∧IsS113 w0 w' g s0_0 r2∧Below w0.heap.size w0 w'∧KeepBut w w' g none:=by
 have hu33:=Try.underlying33
 have HI0:=mA hI
 have HK:=mA (KeepBut.refl w g none)
 have HL:=mA hB.size
 clear hI
 have HW0:=mA hB.size
 have HB:=mA hB
 clear hB
 have H:((spec_l20Rd_pick.f k s0_0 s0_1 4).bind fun bt104=>(spec_l20Term.l0 k (mn (mx a1 1) 4) a2 (([]:List (List (S33)))) (wrap64 (1+bt104.1)) s0_0 bt104.2))=some (r1,r2):=h
 clear h
 obtain ⟨ji4,hji4⟩ : ∃ j_:Int,(mx a1 1)=j_:=⟨_,rfl⟩
 replace H:((spec_l20Rd_pick.f k s0_0 s0_1 4).bind fun bt104=>(spec_l20Term.l0 k (mn (ji4) 4) a2 (([]:List (List (S33)))) (wrap64 (1+bt104.1)) s0_0 bt104.2))=some (r1,r2):=by first|(rw [hji4] at H;exact H)|(simp only [hji4] at H ⊢;exact H)
 (try (have hji4l:1≤ji4:=by (rw [←hji4];unfold mx;(repeat' split)<;>omega)))
 (try (have hji4m:0≤ji4:=by omega))
 have hji4_:(if a1<1 then 1 else a1)=ji4:=hji4
 obtain ⟨ji5,hji5⟩ : ∃ j_:Int,(mn (ji4) 4)=j_:=⟨_,rfl⟩
 replace H:((spec_l20Rd_pick.f k s0_0 s0_1 4).bind fun bt104=>(spec_l20Term.l0 k ji5 a2 (([]:List (List (S33)))) (wrap64 (1+bt104.1)) s0_0 bt104.2))=some (r1,r2):=by first|(rw [hji5] at H;exact H)|(simp only [hji5] at H ⊢;exact H)
 have hji5_:(if 4<(ji4) then 4 else (ji4))=ji5:=hji5
 obtain ⟨y101,hy101⟩ : ∃ y_:List (List (S33)),y_=(([]:List (List (S33)))):=⟨_,rfl⟩
 replace H:((spec_l20Rd_pick.f k s0_0 s0_1 4).bind fun bt104=>(spec_l20Term.l0 k ji5 a2 y101 (wrap64 (1+bt104.1)) s0_0 bt104.2))=some (r1,r2):=by first|(rw [hy101];with_reducible exact H)|(have H2_:=(Option.bind_some _ _).symm.trans H;rw [hy101];with_reducible exact H2_)|(have H2_:=(Option.bind_some _ _).symm.trans H;with_reducible exact H2_)|with_reducible exact H|(rw [hy101];exact H)|exact H
 have Ny101:=mA hy101
 clear hy101
 replace H:=Option.bind_eq_some_iff.mp H
 obtain ⟨⟨t104,t105⟩,A60,H⟩:=H
 replace H:(spec_l20Term.l0 k ji5 a2 y101 (wrap64 (1+t104)) s0_0 t105)=some (r1,r2):=H
 have A6:=mA A60
 clear A60
 have H':=mA H
 clear H
 go_enter Try.func128,Try.ntmps128
 go_wp2_with (first|((with_reducible refine gate_dst (N:=17) rfl ?_);refine Kd.R_lit (Kd.slice 33 k33) _ 34 ?hg (N:=17) ?hd (xs:=([]:List (List (S33)))) (inner:=[]) (ok:=fun _=>True) (okp:=fun _=>True) ?hr ?hp (fun _ hk=>hk) trivial (Below.refl _ _) (Nat.le_refl _) (by simp) ?_;(case hd=>rfl);(case hg=>rfl);(case hr=>first|(go_simp;done)|(go_simp;rfl));(case hp=>exact (Reps.none _ _));intro v102 w7 ho8 hb hg_ hnew_;clear hg_ hnew_;(first|rw [←Ny101.out] at ho8|(simp only [Int.reduceToNat] at ho8;rw [←Ny101.out] at ho8));have n0_:=mA (rW ho8 (eZ (w:=w) (g:=g) (row:=none) (by repeat first|(with_reducible first|exact HK.out|apply eS|apply eN|apply eD|apply eA)|exact HK.out)));have n1_:=mA (iB (by repeat first|(with_reducible first|exact HI0.out|apply iA|apply iN|apply iD|apply iS)|exact HI0.out) hb);have n2_:=mA (eT (by repeat first|(with_reducible first|exact HK.out|apply eS|apply eN|apply eD|apply eA)|exact HK.out) (eB hb g none) (.inl rfl));have n3_:=mA (bT (by repeat first|(with_reducible first|exact HB.out|apply bA|apply bN|apply bD|refine bS ?_ (iG HI0.out))|exact HB.out) hb);clear HI0 HK HB;have HO103:=n0_;have HI0:=n1_;have HK:=n2_;have HB:=n3_;clear n0_ n1_ n2_ n3_ hb ho8)|((with_reducible refine gate_callee (f:=108) rfl ?_);refine goesL_ (some 19) rfl rfl Try.func108 (by kernel_rfl) rfl #[.pointer (some ⟨g,0,none⟩),.int .i64 4] rfl (by (try simp only [mT,mC,mN]);first|done|rfl|(simp only [lD,lT];rfl)) ?_;(with_reducible refine (spec_l20Rd_pick.calls k g s0_0 s0_1 4 t104 t105 w0 _ ?side1 ?side2 A6.out).mono ?_);(case side1=>repeat first|(with_reducible first|exact HI0.out|apply iA|apply iN|apply iD|apply iS)|exact HI0.out);(case side2=>repeat first|(with_reducible first|exact HB.out|apply bA|apply bN|apply bD|refine bS ?_ (iG HI0.out))|exact HB.out);rintro e w9 ⟨rfl,hi,hb,hk⟩;refine ⟨_,rfl,?_⟩;have n0_:=mA (rM (Kd.R_keep (iP (show IsS113 w0 _ g s0_0 s0_1 from by repeat first|(with_reducible first|exact HI0.out|apply iA|apply iN|apply iD|apply iS)|exact HI0.out) (by (with_reducible repeat first|apply rA|apply rN|apply rD);exact HO103.out) (by decide)) hk (fun _ h=>h.2)) (fun _ h=>h.1));have n1_:=mA (eT (by repeat first|(with_reducible first|exact HK.out|apply eS|apply eN|apply eD|apply eA)|exact HK.out) hk (.inl rfl));have n2_:=mA (hb);have n3_:=mA (hi);clear HO103 HK HB HI0;have HO103:=n0_;have HK:=n1_;have HB:=n2_;have HI0:=n3_;clear n0_ n1_ n2_ n3_;(try clear hb);(try clear hb2);(try clear hk);(try clear hi)))
 go_loopg [7,8] k (fun kq v7 v8 w'=>∃ (x7_1:List (List (S33))) (x8_1:Int) (x1001_1:Int),v8 = .int .i64 x8_1∧Aside0 (spec_l20Term.l0 kq ji5 a2 x7_1 x8_1 s0_0 x1001_1=some (r1,r2))∧Aside0 (kq≤k)∧Aside0 (Kd.R (Kd.slice 33 k33) 34 w' w.heap.size (fun _=>True) v7 x7_1)∧Aside0 (IsS113 w0 w' g s0_0 x1001_1)∧Aside0 (KeepBut w w' g none)∧Aside0 (Below w0.heap.size w0 w'))
 case atStart=>exact ⟨(y101),(wrap64 (1+t104)),(t105),(by first|rfl|(simp;done)|(simp [*];done)),H',⟨Nat.le_refl _⟩,⟨by (with_reducible repeat first|apply rA|apply rN|apply rD);exact HO103.out⟩,⟨by repeat (first|(with_reducible first|exact HI0.out|apply iA|apply iN|apply iD|apply iS)|exact HI0.out)⟩,⟨by repeat (first|(with_reducible first|exact HK.out|apply eS|apply eN|apply eD|apply eA)|exact HK.out)⟩,⟨by repeat (first|(with_reducible first|exact HB.out|apply bA|apply bN|apply bD|refine bS ?_ (iG HI0.out))|exact HB.out)⟩⟩
 case round =>
  try clear hji4_ hji5_
  clear H'
  try clear c1
  try clear p2
  try clear p6
  obtain ⟨x7_1,x8_1,x1001_1,rfl,HA,HK1,HO_7,HI0,HK,HB⟩:=hrel
  cases gk with
  | zero=>exact absurd HA.out (by simp [spec_l20Term.l0])
  | succ k1 =>
   have H:=HA.out
   clear HA
   simp only [spec_l20Term.l0] at H
   by_cases c10:x8_1>0
   ·rw [if_pos c10] at H
    have c10b0:decide (0<x8_1)=true:=decide_eq_true c10
    clear c10
    replace H:=Option.bind_eq_some_iff.mp H
    obtain ⟨⟨t106,t107⟩,A110,H⟩:=H
    replace H:(if t106=0 then ((spec_l20Rd_pick.f k1 s0_0 t107 (wrap64 (ji5+2))).bind fun bt108=>(if x7_1.length<5864062014805 then (spec_l20Term.l0 k1 ji5 a2 (x7_1++[(([(⟨1,bt108.1⟩:S33)]:List (S33)))]) (wrap64 (x8_1-1)) s0_0 bt108.2) else (none))) else ((spec_l20Rd_pick.f k1 s0_0 t107 ji5).bind fun bt116=>(if x7_1.length<5864062014805 then (spec_l20Term.l0 k1 ji5 a2 (x7_1++[(([(⟨0,bt116.1⟩:S33)]:List (S33)))]) (wrap64 (x8_1-1)) s0_0 bt116.2) else (none))))=some (r1,r2):=H
    have A11:=mA A110
    clear A110
    by_cases c12:t106=0
    ·rw [if_pos c12] at H
     have c12b0:(t106==0)=true:=beq_iff_eq.mpr c12
     have c12b1:(t106 != 0)=false:=bne_eq_false_iff_eq.mpr c12
     clear c12
     replace H:=Option.bind_eq_some_iff.mp H
     obtain ⟨⟨t108,t109⟩,A130,H⟩:=H
     replace H:(if x7_1.length<5864062014805 then (spec_l20Term.l0 k1 ji5 a2 (x7_1++[(([(⟨1,t108⟩:S33)]:List (S33)))]) (wrap64 (x8_1-1)) s0_0 t109) else (none))=some (r1,r2):=H
     have A13:=mA A130
     clear A130
     obtain ⟨y110,hy110⟩ : ∃ y_:List (S33),y_=(([(⟨1,t108⟩:S33)]:List (S33))):=⟨_,rfl⟩
     replace H:(if x7_1.length<5864062014805 then (spec_l20Term.l0 k1 ji5 a2 (x7_1++[y110]) (wrap64 (x8_1-1)) s0_0 t109) else (none))=some (r1,r2):=by first|(rw [hy110];with_reducible exact H)|(have H2_:=(Option.bind_some _ _).symm.trans H;rw [hy110];with_reducible exact H2_)|(have H2_:=(Option.bind_some _ _).symm.trans H;with_reducible exact H2_)|with_reducible exact H|(rw [hy110];exact H)|exact H
     have Ny110:=mA hy110
     clear hy110
     by_cases c14:x7_1.length<5864062014805
     ·rw [if_pos c14] at H
      have LMc14:=mA c14
      clear c14
      obtain ⟨y113,hy113⟩ : ∃ y_:List (List (S33)),y_=(x7_1++[y110]):=⟨_,rfl⟩
      replace H:(spec_l20Term.l0 k1 ji5 a2 y113 (wrap64 (x8_1-1)) s0_0 t109)=some (r1,r2):=by first|(rw [hy113];with_reducible exact H)|(have H2_:=(Option.bind_some _ _).symm.trans H;rw [hy113];with_reducible exact H2_)|(have H2_:=(Option.bind_some _ _).symm.trans H;with_reducible exact H2_)|with_reducible exact H|(rw [hy113];exact H)|exact H
      have Ny113:=mA hy113
      clear hy113
      have H':=mA H
      clear H
      go_wp2_with (first|((with_reducible refine gate_callee (f:=108) rfl ?_);refine goesL_ (some 26) rfl rfl Try.func108 (by kernel_rfl) rfl #[.pointer (some ⟨g,0,none⟩),.int .i64 4] rfl (by (try simp only [mT,mC,mN]);first|done|rfl|(simp only [lD,lT];rfl)) ?_;(with_reducible refine (spec_l20Rd_pick.calls k1 g s0_0 x1001_1 4 t106 t107 w0 _ ?side1 ?side2 A11.out).mono ?_);(case side1=>repeat first|(with_reducible first|exact HI0.out|apply iA|apply iN|apply iD|apply iS)|exact HI0.out);(case side2=>repeat first|(with_reducible first|exact HB.out|apply bA|apply bN|apply bD|refine bS ?_ (iG HI0.out))|exact HB.out);rintro e w15 ⟨rfl,hi,hb,hk⟩;refine ⟨_,rfl,?_⟩;have n0_:=mA (rM (Kd.R_keep (iP (show IsS113 w0 _ g s0_0 x1001_1 from by repeat first|(with_reducible first|exact HI0.out|apply iA|apply iN|apply iD|apply iS)|exact HI0.out) (by (with_reducible repeat first|apply rA|apply rN|apply rD);exact HO_7.out) (by decide)) hk (fun _ h=>h.2)) (fun _ h=>h.1));have n1_:=mA (eT (by repeat first|(with_reducible first|exact HK.out|apply eS|apply eN|apply eD|apply eA)|exact HK.out) hk (.inl rfl));have n2_:=mA (hb);have n3_:=mA (hi);clear HO_7 HK HB HI0;have HO_7:=n0_;have HK:=n1_;have HB:=n2_;have HI0:=n3_;clear n0_ n1_ n2_ n3_;(try clear hb);(try clear hb2);(try clear hk);(try clear hi))|((with_reducible refine gate_callee (f:=108) rfl ?_);refine goesL_ (some 32) rfl rfl Try.func108 (by kernel_rfl) rfl #[.pointer (some ⟨g,0,none⟩),.int .i64 (wrap64 (ji5+2))] rfl (by (try simp only [mT,mC,mN]);first|done|(simp only [hji5];rfl)|rfl|(simp only [lD,lT];rfl)) ?_;(with_reducible refine (spec_l20Rd_pick.calls k1 g s0_0 t107 (wrap64 (ji5+2)) t108 t109 w0 _ ?side1 ?side2 A13.out).mono ?_);(case side1=>repeat first|(with_reducible first|exact HI0.out|apply iA|apply iN|apply iD|apply iS)|exact HI0.out);(case side2=>repeat first|(with_reducible first|exact HB.out|apply bA|apply bN|apply bD|refine bS ?_ (iG HI0.out))|exact HB.out);rintro e w16 ⟨rfl,hi,hb,hk⟩;refine ⟨_,rfl,?_⟩;have n0_:=mA (rM (Kd.R_keep (iP (show IsS113 w0 _ g s0_0 t107 from by repeat first|(with_reducible first|exact HI0.out|apply iA|apply iN|apply iD|apply iS)|exact HI0.out) (by (with_reducible repeat first|apply rA|apply rN|apply rD);exact HO_7.out) (by decide)) hk (fun _ h=>h.2)) (fun _ h=>h.1));have n1_:=mA (eT (by repeat first|(with_reducible first|exact HK.out|apply eS|apply eN|apply eD|apply eA)|exact HK.out) hk (.inl rfl));have n2_:=mA (hb);have n3_:=mA (hi);clear HO_7 HK HB HI0;have HO_7:=n0_;have HK:=n1_;have HB:=n2_;have HI0:=n3_;clear n0_ n1_ n2_ n3_;(try clear hb);(try clear hb2);(try clear hk);(try clear hi))|((with_reducible refine gate_dst (N:=34) rfl ?_);refine Kd.R_lit k33 _ 33 ?hg (N:=34) ?hd (xs:=([(⟨1,t108⟩:S33)]:List (S33))) (inner:=[.int .i64 1,.int .i64 t108]) (ok:=fun _=>True) (okp:=fun _=>True) ?hr ?hp (fun _ hk=>hk) trivial (Below.refl _ _) (Nat.le_refl _) (by simp) ?_;(case hd=>rfl);(case hg=>rfl);(case hr=>first|(go_simp;done)|(go_simp;rfl));(case hp=>exact (Reps.c2 (show Kd.M k33 _ _ _ (⟨1,t108⟩:S33) [.int .i64 1,.int .i64 t108] from (k33_mkM _ _ _ (⟨1,t108⟩:S33) )) (Reps.none _ _)));intro v111 w17 ho18 hb hg_ hnew_;clear hg_ hnew_;(first|rw [←Ny110.out] at ho18|(simp only [Int.reduceToNat] at ho18;rw [←Ny110.out] at ho18));have n0_:=mA (rE (by (with_reducible repeat first|apply rA|apply rN|apply rD);exact HO_7.out) (Kd.R_base ho18) hb);have n1_:=mA (rW ho18 (eZ (w:=w) (g:=g) (row:=none) (by repeat first|(with_reducible first|exact HK.out|apply eS|apply eN|apply eD|apply eA)|exact HK.out)));have n2_:=mA (iB (by repeat first|(with_reducible first|exact HI0.out|apply iA|apply iN|apply iD|apply iS)|exact HI0.out) hb);have n3_:=mA (eT (by repeat first|(with_reducible first|exact HK.out|apply eS|apply eN|apply eD|apply eA)|exact HK.out) (eB hb g none) (.inl rfl));have n4_:=mA (bT (by repeat first|(with_reducible first|exact HB.out|apply bA|apply bN|apply bD|refine bS ?_ (iG HI0.out))|exact HB.out) hb);clear HO_7 HI0 HK HB;have HO_7:=n0_;have HO112:=n1_;have HI0:=n2_;have HK:=n3_;have HB:=n4_;clear n0_ n1_ n2_ n3_ n4_ hb ho18;obtain ⟨Ao20,co20,eo20⟩:=Kd.R_slice HO112.out;subst eo20)|((with_reducible refine gate_builtin (b:=.append) (xs:=#[.tmp 28,.tmp 35]) rfl ?_);at_builtin;refine Kd.R_append (Kd.slice 33 k33) w.heap.size rfl (.tmp 28) (.tmp 35) 122 34 (.slice none 0 0) 24 rfl Try.underlying122 info34 rfl (by decide) (by omega) u7 x7_1 y110 [.slice Ao20 y110.length co20] (fun _=>True) (fun k_=>((fun _=>True)) k_∧some k_≠(u7:Value).ownBlock) rfl rfl ?aP (fun _ hk=>hk) ?aF ?aO (Below.refl _ _) ?aS ?aL ?_;(case aP=>exact Kd.M_row (rM (rP (HO112.out) (rT HO_7.out) (by decide)) (fun k_ hk=>⟨trivial,hk.2⟩)));(case aF=>exact (fun _ _=>trivial));(case aO=>exact (by (with_reducible repeat first|apply rA|apply rN|apply rD);exact rM HO_7.out (fun _ hk=>trivial)));(case aS=>exact (eZ (w:=w) (g:=g) (row:=none) (by repeat first|(with_reducible first|exact HK.out|apply eS|apply eN|apply eD|apply eA)|exact HK.out)));(case aL=>have:=LMc14.out;omega);intro v114 w19 ho hb hg hat;rw [←Ny113.out] at ho;have n0_:=mA (iW (by repeat first|(with_reducible first|exact HI0.out|apply iA|apply iN|apply iD|apply iS)|exact HI0.out) hg (iO HI0.out HO_7.out (by decide)));have n1_:=mA (bW (by repeat first|(with_reducible first|exact HB.out|apply bA|apply bN|apply bD|refine bS ?_ (iG HI0.out))|exact HB.out) HL.out hb);have n2_:=mA (eT (by repeat first|(with_reducible first|exact HK.out|apply eS|apply eN|apply eD|apply eA)|exact HK.out) (eG hg g) (Kd.R_base2 HO_7.out));have n3_:=mA (ho);clear HI0 HB HK HO_7 HO112;have HI0:=n0_;have HB:=n1_;have HK:=n2_;have HO115:=n3_;clear n0_ n1_ n2_ n3_ ho hb hg hat))
      go_roundg k1
      case measure=>have:=HK1.out;omega
      case rel=>exact ⟨(y113),(wrap64 (x8_1-1)),(t109),(by first|rfl|(simp;done)|(simp [*];done)),H',⟨by have:=HK1.out;omega⟩,⟨by (with_reducible repeat first|apply rA|apply rN|apply rD);exact HO115.out⟩,⟨by repeat (first|(with_reducible first|exact HI0.out|apply iA|apply iN|apply iD|apply iS)|exact HI0.out)⟩,⟨by repeat (first|(with_reducible first|exact HK.out|apply eS|apply eN|apply eD|apply eA)|exact HK.out)⟩,⟨by repeat (first|(with_reducible first|exact HB.out|apply bA|apply bN|apply bD|refine bS ?_ (iG HI0.out))|exact HB.out)⟩⟩
     rw [if_neg c14] at H
     exact absurd H (by simp)
    rw [if_neg c12] at H
    have c12b0:(t106==0)=false:=beq_eq_false_iff_ne.mpr c12
    have c12b1:(t106 != 0)=true:=bne_iff_ne.mpr c12
    replace H:=Option.bind_eq_some_iff.mp H
    obtain ⟨⟨t116,t117⟩,A210,H⟩:=H
    replace H:(if x7_1.length<5864062014805 then (spec_l20Term.l0 k1 ji5 a2 (x7_1++[(([(⟨0,t116⟩:S33)]:List (S33)))]) (wrap64 (x8_1-1)) s0_0 t117) else (none))=some (r1,r2):=H
    have A21:=mA A210
    clear A210
    obtain ⟨y118,hy118⟩ : ∃ y_:List (S33),y_=(([(⟨0,t116⟩:S33)]:List (S33))):=⟨_,rfl⟩
    replace H:(if x7_1.length<5864062014805 then (spec_l20Term.l0 k1 ji5 a2 (x7_1++[y118]) (wrap64 (x8_1-1)) s0_0 t117) else (none))=some (r1,r2):=by first|(rw [hy118];with_reducible exact H)|(have H2_:=(Option.bind_some _ _).symm.trans H;rw [hy118];with_reducible exact H2_)|(have H2_:=(Option.bind_some _ _).symm.trans H;with_reducible exact H2_)|with_reducible exact H|(rw [hy118];exact H)|exact H
    have Ny118:=mA hy118
    clear hy118
    by_cases c22:x7_1.length<5864062014805
    ·rw [if_pos c22] at H
     have LMc22:=mA c22
     clear c22
     obtain ⟨y121,hy121⟩ : ∃ y_:List (List (S33)),y_=(x7_1++[y118]):=⟨_,rfl⟩
     replace H:(spec_l20Term.l0 k1 ji5 a2 y121 (wrap64 (x8_1-1)) s0_0 t117)=some (r1,r2):=by first|(rw [hy121];with_reducible exact H)|(have H2_:=(Option.bind_some _ _).symm.trans H;rw [hy121];with_reducible exact H2_)|(have H2_:=(Option.bind_some _ _).symm.trans H;with_reducible exact H2_)|with_reducible exact H|(rw [hy121];exact H)|exact H
     have Ny121:=mA hy121
     clear hy121
     have H':=mA H
     clear H
     go_wp2_with (first|((with_reducible refine gate_callee (f:=108) rfl ?_);refine goesL_ (some 26) rfl rfl Try.func108 (by kernel_rfl) rfl #[.pointer (some ⟨g,0,none⟩),.int .i64 4] rfl (by (try simp only [mT,mC,mN]);first|done|rfl|(simp only [lD,lT];rfl)) ?_;(with_reducible refine (spec_l20Rd_pick.calls k1 g s0_0 x1001_1 4 t106 t107 w0 _ ?side1 ?side2 A11.out).mono ?_);(case side1=>repeat first|(with_reducible first|exact HI0.out|apply iA|apply iN|apply iD|apply iS)|exact HI0.out);(case side2=>repeat first|(with_reducible first|exact HB.out|apply bA|apply bN|apply bD|refine bS ?_ (iG HI0.out))|exact HB.out);rintro e w23 ⟨rfl,hi,hb,hk⟩;refine ⟨_,rfl,?_⟩;have n0_:=mA (rM (Kd.R_keep (iP (show IsS113 w0 _ g s0_0 x1001_1 from by repeat first|(with_reducible first|exact HI0.out|apply iA|apply iN|apply iD|apply iS)|exact HI0.out) (by (with_reducible repeat first|apply rA|apply rN|apply rD);exact HO_7.out) (by decide)) hk (fun _ h=>h.2)) (fun _ h=>h.1));have n1_:=mA (eT (by repeat first|(with_reducible first|exact HK.out|apply eS|apply eN|apply eD|apply eA)|exact HK.out) hk (.inl rfl));have n2_:=mA (hb);have n3_:=mA (hi);clear HO_7 HK HB HI0;have HO_7:=n0_;have HK:=n1_;have HB:=n2_;have HI0:=n3_;clear n0_ n1_ n2_ n3_;(try clear hb);(try clear hb2);(try clear hk);(try clear hi))|((with_reducible refine gate_callee (f:=108) rfl ?_);refine goesL_ (some 40) rfl rfl Try.func108 (by kernel_rfl) rfl #[.pointer (some ⟨g,0,none⟩),.int .i64 ji5] rfl (by (try simp only [mT,mC,mN]);first|done|(simp only [hji5];rfl)|rfl|(simp only [lD,lT];rfl)) ?_;(with_reducible refine (spec_l20Rd_pick.calls k1 g s0_0 t107 ji5 t116 t117 w0 _ ?side1 ?side2 A21.out).mono ?_);(case side1=>repeat first|(with_reducible first|exact HI0.out|apply iA|apply iN|apply iD|apply iS)|exact HI0.out);(case side2=>repeat first|(with_reducible first|exact HB.out|apply bA|apply bN|apply bD|refine bS ?_ (iG HI0.out))|exact HB.out);rintro e w24 ⟨rfl,hi,hb,hk⟩;refine ⟨_,rfl,?_⟩;have n0_:=mA (rM (Kd.R_keep (iP (show IsS113 w0 _ g s0_0 t107 from by repeat first|(with_reducible first|exact HI0.out|apply iA|apply iN|apply iD|apply iS)|exact HI0.out) (by (with_reducible repeat first|apply rA|apply rN|apply rD);exact HO_7.out) (by decide)) hk (fun _ h=>h.2)) (fun _ h=>h.1));have n1_:=mA (eT (by repeat first|(with_reducible first|exact HK.out|apply eS|apply eN|apply eD|apply eA)|exact HK.out) hk (.inl rfl));have n2_:=mA (hb);have n3_:=mA (hi);clear HO_7 HK HB HI0;have HO_7:=n0_;have HK:=n1_;have HB:=n2_;have HI0:=n3_;clear n0_ n1_ n2_ n3_;(try clear hb);(try clear hb2);(try clear hk);(try clear hi))|((with_reducible refine gate_dst (N:=42) rfl ?_);refine Kd.R_lit k33 _ 33 ?hg (N:=42) ?hd (xs:=([(⟨0,t116⟩:S33)]:List (S33))) (inner:=[.int .i64 0,.int .i64 t116]) (ok:=fun _=>True) (okp:=fun _=>True) ?hr ?hp (fun _ hk=>hk) trivial (Below.refl _ _) (Nat.le_refl _) (by simp) ?_;(case hd=>rfl);(case hg=>rfl);(case hr=>first|(go_simp;done)|(go_simp;rfl));(case hp=>exact (Reps.c2 (show Kd.M k33 _ _ _ (⟨0,t116⟩:S33) [.int .i64 0,.int .i64 t116] from (k33_mkM _ _ _ (⟨0,t116⟩:S33) )) (Reps.none _ _)));intro v119 w25 ho26 hb hg_ hnew_;clear hg_ hnew_;(first|rw [←Ny118.out] at ho26|(simp only [Int.reduceToNat] at ho26;rw [←Ny118.out] at ho26));have n0_:=mA (rE (by (with_reducible repeat first|apply rA|apply rN|apply rD);exact HO_7.out) (Kd.R_base ho26) hb);have n1_:=mA (rW ho26 (eZ (w:=w) (g:=g) (row:=none) (by repeat first|(with_reducible first|exact HK.out|apply eS|apply eN|apply eD|apply eA)|exact HK.out)));have n2_:=mA (iB (by repeat first|(with_reducible first|exact HI0.out|apply iA|apply iN|apply iD|apply iS)|exact HI0.out) hb);have n3_:=mA (eT (by repeat first|(with_reducible first|exact HK.out|apply eS|apply eN|apply eD|apply eA)|exact HK.out) (eB hb g none) (.inl rfl));have n4_:=mA (bT (by repeat first|(with_reducible first|exact HB.out|apply bA|apply bN|apply bD|refine bS ?_ (iG HI0.out))|exact HB.out) hb);clear HO_7 HI0 HK HB;have HO_7:=n0_;have HO120:=n1_;have HI0:=n2_;have HK:=n3_;have HB:=n4_;clear n0_ n1_ n2_ n3_ n4_ hb ho26;obtain ⟨Ao28,co28,eo28⟩:=Kd.R_slice HO120.out;subst eo28)|((with_reducible refine gate_builtin (b:=.append) (xs:=#[.tmp 37,.tmp 43]) rfl ?_);at_builtin;refine Kd.R_append (Kd.slice 33 k33) w.heap.size rfl (.tmp 37) (.tmp 43) 122 34 (.slice none 0 0) 24 rfl Try.underlying122 info34 rfl (by decide) (by omega) u7 x7_1 y118 [.slice Ao28 y118.length co28] (fun _=>True) (fun k_=>((fun _=>True)) k_∧some k_≠(u7:Value).ownBlock) rfl rfl ?aP (fun _ hk=>hk) ?aF ?aO (Below.refl _ _) ?aS ?aL ?_;(case aP=>exact Kd.M_row (rM (rP (HO120.out) (rT HO_7.out) (by decide)) (fun k_ hk=>⟨trivial,hk.2⟩)));(case aF=>exact (fun _ _=>trivial));(case aO=>exact (by (with_reducible repeat first|apply rA|apply rN|apply rD);exact rM HO_7.out (fun _ hk=>trivial)));(case aS=>exact (eZ (w:=w) (g:=g) (row:=none) (by repeat first|(with_reducible first|exact HK.out|apply eS|apply eN|apply eD|apply eA)|exact HK.out)));(case aL=>have:=LMc22.out;omega);intro v122 w27 ho hb hg hat;rw [←Ny121.out] at ho;have n0_:=mA (iW (by repeat first|(with_reducible first|exact HI0.out|apply iA|apply iN|apply iD|apply iS)|exact HI0.out) hg (iO HI0.out HO_7.out (by decide)));have n1_:=mA (bW (by repeat first|(with_reducible first|exact HB.out|apply bA|apply bN|apply bD|refine bS ?_ (iG HI0.out))|exact HB.out) HL.out hb);have n2_:=mA (eT (by repeat first|(with_reducible first|exact HK.out|apply eS|apply eN|apply eD|apply eA)|exact HK.out) (eG hg g) (Kd.R_base2 HO_7.out));have n3_:=mA (ho);clear HI0 HB HK HO_7 HO120;have HI0:=n0_;have HB:=n1_;have HK:=n2_;have HO123:=n3_;clear n0_ n1_ n2_ n3_ ho hb hg hat))
     go_roundg k1
     case measure=>have:=HK1.out;omega
     case rel=>exact ⟨(y121),(wrap64 (x8_1-1)),(t117),(by first|rfl|(simp;done)|(simp [*];done)),H',⟨by have:=HK1.out;omega⟩,⟨by (with_reducible repeat first|apply rA|apply rN|apply rD);exact HO123.out⟩,⟨by repeat (first|(with_reducible first|exact HI0.out|apply iA|apply iN|apply iD|apply iS)|exact HI0.out)⟩,⟨by repeat (first|(with_reducible first|exact HK.out|apply eS|apply eN|apply eD|apply eA)|exact HK.out)⟩,⟨by repeat (first|(with_reducible first|exact HB.out|apply bA|apply bN|apply bD|refine bS ?_ (iG HI0.out))|exact HB.out)⟩⟩
    rw [if_neg c22] at H
    exact absurd H (by simp)
   rw [if_neg c10] at H
   have c10b0:decide (0<x8_1)=false:=decide_eq_false c10
   clear c10
   have H':=mA H
   clear H
   go_wp2
   go_loopg [7,9] k1 (fun kq v7 v9 w'=>∃ (x7_2:List (List (S33))) (x9_2:Int) (x1001_2:Int),v9 = .int .i64 x9_2∧Aside0 (spec_l20Term.l1 kq a2 x7_2 x9_2 s0_0 x1001_2=some (r1,r2))∧Aside0 (kq≤k1)∧Aside0 (Kd.R (Kd.slice 33 k33) 34 w' w.heap.size (fun _=>True) v7 x7_2)∧Aside0 (IsS113 w0 w' g s0_0 x1001_2)∧Aside0 (KeepBut w w' g none)∧Aside0 (Below w0.heap.size w0 w'))
   case atStart=>exact ⟨(x7_1),(3),(x1001_1),(by first|rfl|(simp;done)|(simp [*];done)),H',⟨Nat.le_refl _⟩,⟨by (with_reducible repeat first|apply rA|apply rN|apply rD);exact HO_7.out⟩,⟨by repeat (first|(with_reducible first|exact HI0.out|apply iA|apply iN|apply iD|apply iS)|exact HI0.out)⟩,⟨by repeat (first|(with_reducible first|exact HK.out|apply eS|apply eN|apply eD|apply eA)|exact HK.out)⟩,⟨by repeat (first|(with_reducible first|exact HB.out|apply bA|apply bN|apply bD|refine bS ?_ (iG HI0.out))|exact HB.out)⟩⟩
   case round =>
    try clear hji4_ hji5_
    clear H'
    try clear c1
    try clear c2
    try clear p2
    try clear p6
    try clear c10
    try clear c10b0
    try clear c12
    try clear c12b0
    try clear c12b1
    try clear c14
    try clear c22
    try clear p2
    try clear p6
    obtain ⟨x7_2,x9_2,x1001_2,rfl,HA,HK2,HO_7,HI0,HK,HB⟩:=hrel
    cases gk with
    | zero=>exact absurd HA.out (by simp [spec_l20Term.l1])
    | succ k2 =>
     have H:=HA.out
     clear HA
     simp only [spec_l20Term.l1] at H
     by_cases c29:(x7_2.length:Int)>1
     ·rw [if_pos c29] at H
      have c29b0:decide (1<(x7_2.length:Int))=true:=decide_eq_true c29
      have c29b1:decide (1<x7_2.length)=true:=decide_eq_true (by omega)
      clear c29
      replace H:=Option.bind_eq_some_iff.mp H
      obtain ⟨⟨t124,t125⟩,A300,H⟩:=H
      replace H:(if x9_2>0 then ((spec_l20Rd_pick.f k2 s0_0 t125 4).bind fun bt126=>(if bt126.1=0 then ((some (([]:List (S33)):List (S33))).bind fun y128=>(if 0≤t124 then (if t124<(x7_2.length:Int) then (if y128.length+(rd_L3 x7_2 t124).length<8796093022208 then ((some (y128++(rd_L3 x7_2 t124):List (S33))).bind fun y132=>(if y132.length<8796093022208 then (spec_l20Term.l1 k2 a2 (x7_2.set (t124:Int).toNat (y132++[(⟨2,0⟩:S33)])) (wrap64 (x9_2-1)) s0_0 bt126.2) else (none))) else (none)) else (none)) else (none))) else ((some (([]:List (S33)):List (S33))).bind fun y139=>(if 0≤t124 then (if t124<(x7_2.length:Int) then (if y139.length+(rd_L3 x7_2 t124).length<8796093022208 then ((some (y139++(rd_L3 x7_2 t124):List (S33))).bind fun y143=>(if 0≤(wrap64 (t124+1)) then (if (wrap64 (t124+1))<(x7_2.length:Int) then (if y143.length+(rd_L3 x7_2 (wrap64 (t124+1))).length<8796093022208 then ((some (y143++(rd_L3 x7_2 (wrap64 (t124+1))):List (S33))).bind fun y147=>((spec_l20Rd_pick.f k2 s0_0 bt126.2 3).bind fun bt150=>(if y147.length<8796093022208 then ((some (([]:List (List (S33))):List (List (S33)))).bind fun y155=>(if t124≤(x7_2.length:Int) then ((some (x7_2.take (t124:Int).toNat:List (List (S33)))).bind fun y158=>(if y155.length+y158.length<5864062014805 then ((some (y155++y158:List (List (S33)))).bind fun y162=>(if y162.length<5864062014805 then ((some (y162++[(y147++[(⟨wrap64 (3+bt150.1),0⟩:S33)])]:List (List (S33)))).bind fun y165=>(if 0≤(wrap64 (t124+2)) then (if (wrap64 (t124+2))≤(x7_2.length:Int) then ((some (x7_2.drop ((wrap64 (t124+2)):Int).toNat:List (List (S33)))).bind fun y168=>(if y165.length+y168.length<5864062014805 then (spec_l20Term.l1 k2 a2 (y165++y168) x9_2 s0_0 bt150.2) else (none))) else (none)) else (none))) else (none))) else (none))) else (none))) else (none)))) else (none)) else (none)) else (none))) else (none)) else (none)) else (none))))) else ((some (([]:List (S33)):List (S33))).bind fun y175=>(if 0≤t124 then (if t124<(x7_2.length:Int) then (if y175.length+(rd_L3 x7_2 t124).length<8796093022208 then ((some (y175++(rd_L3 x7_2 t124):List (S33))).bind fun y179=>(if 0≤(wrap64 (t124+1)) then (if (wrap64 (t124+1))<(x7_2.length:Int) then (if y179.length+(rd_L3 x7_2 (wrap64 (t124+1))).length<8796093022208 then ((some (y179++(rd_L3 x7_2 (wrap64 (t124+1))):List (S33))).bind fun y183=>((spec_l20Rd_pick.f k2 s0_0 t125 3).bind fun bt186=>(if y183.length<8796093022208 then ((some (([]:List (List (S33))):List (List (S33)))).bind fun y191=>(if t124≤(x7_2.length:Int) then ((some (x7_2.take (t124:Int).toNat:List (List (S33)))).bind fun y194=>(if y191.length+y194.length<5864062014805 then ((some (y191++y194:List (List (S33)))).bind fun y198=>(if y198.length<5864062014805 then ((some (y198++[(y183++[(⟨wrap64 (3+bt186.1),0⟩:S33)])]:List (List (S33)))).bind fun y201=>(if 0≤(wrap64 (t124+2)) then (if (wrap64 (t124+2))≤(x7_2.length:Int) then ((some (x7_2.drop ((wrap64 (t124+2)):Int).toNat:List (List (S33)))).bind fun y204=>(if y201.length+y204.length<5864062014805 then (spec_l20Term.l1 k2 a2 (y201++y204) x9_2 s0_0 bt186.2) else (none))) else (none)) else (none))) else (none))) else (none))) else (none))) else (none)))) else (none)) else (none)) else (none))) else (none)) else (none)) else (none))))=some (r1,r2):=H
      have A30:=mA A300
      clear A300
      by_cases c31:x9_2>0
      ·rw [if_pos c31] at H
       have c31b0:decide (0<x9_2)=true:=decide_eq_true c31
       clear c31
       replace H:=Option.bind_eq_some_iff.mp H
       obtain ⟨⟨t126,t127⟩,A320,H⟩:=H
       replace H:(if t126=0 then ((some (([]:List (S33)):List (S33))).bind fun y128=>(if 0≤t124 then (if t124<(x7_2.length:Int) then (if y128.length+(rd_L3 x7_2 t124).length<8796093022208 then ((some (y128++(rd_L3 x7_2 t124):List (S33))).bind fun y132=>(if y132.length<8796093022208 then (spec_l20Term.l1 k2 a2 (x7_2.set (t124:Int).toNat (y132++[(⟨2,0⟩:S33)])) (wrap64 (x9_2-1)) s0_0 t127) else (none))) else (none)) else (none)) else (none))) else ((some (([]:List (S33)):List (S33))).bind fun y139=>(if 0≤t124 then (if t124<(x7_2.length:Int) then (if y139.length+(rd_L3 x7_2 t124).length<8796093022208 then ((some (y139++(rd_L3 x7_2 t124):List (S33))).bind fun y143=>(if 0≤(wrap64 (t124+1)) then (if (wrap64 (t124+1))<(x7_2.length:Int) then (if y143.length+(rd_L3 x7_2 (wrap64 (t124+1))).length<8796093022208 then ((some (y143++(rd_L3 x7_2 (wrap64 (t124+1))):List (S33))).bind fun y147=>((spec_l20Rd_pick.f k2 s0_0 t127 3).bind fun bt150=>(if y147.length<8796093022208 then ((some (([]:List (List (S33))):List (List (S33)))).bind fun y155=>(if t124≤(x7_2.length:Int) then ((some (x7_2.take (t124:Int).toNat:List (List (S33)))).bind fun y158=>(if y155.length+y158.length<5864062014805 then ((some (y155++y158:List (List (S33)))).bind fun y162=>(if y162.length<5864062014805 then ((some (y162++[(y147++[(⟨wrap64 (3+bt150.1),0⟩:S33)])]:List (List (S33)))).bind fun y165=>(if 0≤(wrap64 (t124+2)) then (if (wrap64 (t124+2))≤(x7_2.length:Int) then ((some (x7_2.drop ((wrap64 (t124+2)):Int).toNat:List (List (S33)))).bind fun y168=>(if y165.length+y168.length<5864062014805 then (spec_l20Term.l1 k2 a2 (y165++y168) x9_2 s0_0 bt150.2) else (none))) else (none)) else (none))) else (none))) else (none))) else (none))) else (none)))) else (none)) else (none)) else (none))) else (none)) else (none)) else (none))))=some (r1,r2):=H
       have A32:=mA A320
       clear A320
       by_cases c33:t126=0
       ·rw [if_pos c33] at H
        have c33b0:(t126==0)=true:=beq_iff_eq.mpr c33
        have c33b1:(t126 != 0)=false:=bne_eq_false_iff_eq.mpr c33
        clear c33
        obtain ⟨y128,hy128⟩ : ∃ y_:List (S33),y_=(([]:List (S33))):=⟨_,rfl⟩
        replace H:(if 0≤t124 then (if t124<(x7_2.length:Int) then (if y128.length+(rd_L3 x7_2 t124).length<8796093022208 then ((some (y128++(rd_L3 x7_2 t124):List (S33))).bind fun y132=>(if y132.length<8796093022208 then (spec_l20Term.l1 k2 a2 (x7_2.set (t124:Int).toNat (y132++[(⟨2,0⟩:S33)])) (wrap64 (x9_2-1)) s0_0 t127) else (none))) else (none)) else (none)) else (none))=some (r1,r2):=by first|(rw [hy128];with_reducible exact H)|(have H2_:=(Option.bind_some _ _).symm.trans H;rw [hy128];with_reducible exact H2_)|(have H2_:=(Option.bind_some _ _).symm.trans H;with_reducible exact H2_)|with_reducible exact H|(rw [hy128];exact H)|exact H
        have Ny128:=mA hy128
        clear hy128
        by_cases c34:0≤t124
        ·rw [if_pos c34] at H
         have c34b0:decide (0≤t124)=true:=decide_eq_true c34
         clear c34
         by_cases c35:t124<(x7_2.length:Int)
         ·rw [if_pos c35] at H
          have c35b0:decide (t124<(x7_2.length:Int))=true:=decide_eq_true c35
          clear c35
          by_cases c36:y128.length+(rd_L3 x7_2 t124).length<8796093022208
          ·rw [if_pos c36] at H
           have LMc36:=mA c36
           clear c36
           obtain ⟨y132,hy132⟩ : ∃ y_:List (S33),y_=(y128++(rd_L3 x7_2 t124)):=⟨_,rfl⟩
           replace H:(if y132.length<8796093022208 then (spec_l20Term.l1 k2 a2 (x7_2.set (t124:Int).toNat (y132++[(⟨2,0⟩:S33)])) (wrap64 (x9_2-1)) s0_0 t127) else (none))=some (r1,r2):=by first|(rw [hy132];with_reducible exact H)|(have H2_:=(Option.bind_some _ _).symm.trans H;rw [hy132];with_reducible exact H2_)|(have H2_:=(Option.bind_some _ _).symm.trans H;with_reducible exact H2_)|with_reducible exact H|(rw [hy132];exact H)|exact H
           have Ny132:=mA hy132
           clear hy132
           by_cases c37:y132.length<8796093022208
           ·rw [if_pos c37] at H
            have LMc37:=mA c37
            clear c37
            obtain ⟨y135,hy135⟩ : ∃ y_:List (S33),y_=(y132++[(⟨2,0⟩:S33)]):=⟨_,rfl⟩
            replace H:(spec_l20Term.l1 k2 a2 (x7_2.set (t124:Int).toNat y135) (wrap64 (x9_2-1)) s0_0 t127)=some (r1,r2):=by first|(rw [hy135];with_reducible exact H)|(have H2_:=(Option.bind_some _ _).symm.trans H;rw [hy135];with_reducible exact H2_)|(have H2_:=(Option.bind_some _ _).symm.trans H;with_reducible exact H2_)|with_reducible exact H|(rw [hy135];exact H)|exact H
            have Ny135:=mA hy135
            clear hy135
            obtain ⟨y138,hy138⟩ : ∃ y_:List (List (S33)),y_=(x7_2.set (t124:Int).toNat y135):=⟨_,rfl⟩
            replace H:(spec_l20Term.l1 k2 a2 y138 (wrap64 (x9_2-1)) s0_0 t127)=some (r1,r2):=by first|(rw [hy138];with_reducible exact H)|(have H2_:=(Option.bind_some _ _).symm.trans H;rw [hy138];with_reducible exact H2_)|(have H2_:=(Option.bind_some _ _).symm.trans H;with_reducible exact H2_)|with_reducible exact H|(rw [hy138];exact H)|exact H
            have Ny138:=mA hy138
            clear hy138
            have H':=mA H
            clear H
            obtain ⟨Ao39,co39,eo39⟩:=Kd.R_slice HO_7.out
            subst eo39
            go_wp2_with (first|((with_reducible refine gate_callee (f:=108) rfl ?_);refine goesL_ (some 52) rfl rfl Try.func108 (by kernel_rfl) rfl #[.pointer (some ⟨g,0,none⟩),.int .i64 (wrap64 ((x7_2.length:Int)-1))] rfl (by (try simp only [mT,mC,mN]);first|done|rfl|(simp only [lD,lT];rfl)) ?_;(with_reducible refine (spec_l20Rd_pick.calls k2 g s0_0 x1001_2 (wrap64 ((x7_2.length:Int)-1)) t124 t125 w0 _ ?side1 ?side2 A30.out).mono ?_);(case side1=>repeat first|(with_reducible first|exact HI0.out|apply iA|apply iN|apply iD|apply iS)|exact HI0.out);(case side2=>repeat first|(with_reducible first|exact HB.out|apply bA|apply bN|apply bD|refine bS ?_ (iG HI0.out))|exact HB.out);rintro e w40 ⟨rfl,hi,hb,hk⟩;refine ⟨_,rfl,?_⟩;have n0_:=mA (rM (Kd.R_keep (iP (show IsS113 w0 _ g s0_0 x1001_2 from by repeat first|(with_reducible first|exact HI0.out|apply iA|apply iN|apply iD|apply iS)|exact HI0.out) (by (with_reducible repeat first|apply rA|apply rN|apply rD);exact HO_7.out) (by decide)) hk (fun _ h=>h.2)) (fun _ h=>h.1));have n1_:=mA (eT (by repeat first|(with_reducible first|exact HK.out|apply eS|apply eN|apply eD|apply eA)|exact HK.out) hk (.inl rfl));have n2_:=mA (hb);have n3_:=mA (hi);clear HO_7 HK HB HI0;have HO_7:=n0_;have HK:=n1_;have HB:=n2_;have HI0:=n3_;clear n0_ n1_ n2_ n3_;(try clear hb);(try clear hb2);(try clear hk);(try clear hi))|(go_at_call 108;(with_reducible refine (spec_l20Rd_pick.calls k2 g s0_0 t125 4 t126 t127 w0 _ ?side1 ?side2 A32.out).mono ?_);(case side1=>repeat first|(with_reducible first|exact HI0.out|apply iA|apply iN|apply iD|apply iS)|exact HI0.out);(case side2=>repeat first|(with_reducible first|exact HB.out|apply bA|apply bN|apply bD|refine bS ?_ (iG HI0.out))|exact HB.out);rintro e w41 ⟨rfl,hi,hb,hk⟩;have n0_:=mA (rM (Kd.R_keep (iP (show IsS113 w0 _ g s0_0 t125 from by repeat first|(with_reducible first|exact HI0.out|apply iA|apply iN|apply iD|apply iS)|exact HI0.out) (by (with_reducible repeat first|apply rA|apply rN|apply rD);exact HO_7.out) (by decide)) hk (fun _ h=>h.2)) (fun _ h=>h.1));have n1_:=mA (eT (by repeat first|(with_reducible first|exact HK.out|apply eS|apply eN|apply eD|apply eA)|exact HK.out) hk (.inl rfl));have n2_:=mA (hb);have n3_:=mA (hi);clear HO_7 HK HB HI0;have HO_7:=n0_;have HK:=n1_;have HB:=n2_;have HI0:=n3_;clear n0_ n1_ n2_ n3_;(try clear hb);(try clear hb2);(try clear hk);(try clear hi))|((with_reducible refine gate_dst (N:=64) rfl ?_);refine Kd.R_lit k33 _ 33 ?hg (N:=64) ?hd (xs:=([]:List (S33))) (inner:=[]) (ok:=fun _=>True) (okp:=fun _=>True) ?hr ?hp (fun _ hk=>hk) trivial (Below.refl _ _) (Nat.le_refl _) (by simp) ?_;(case hd=>rfl);(case hg=>rfl);(case hr=>first|(go_simp;done)|(go_simp;rfl));(case hp=>exact (Reps.none _ _));intro v129 w42 ho43 hb hg_ hnew_;clear hg_ hnew_;(first|rw [←Ny128.out] at ho43|(simp only [Int.reduceToNat] at ho43;rw [←Ny128.out] at ho43));have n0_:=mA (rE (by (with_reducible repeat first|apply rA|apply rN|apply rD);exact HO_7.out) (Kd.R_base ho43) hb);have n1_:=mA (rW ho43 (eZ (w:=w) (g:=g) (row:=none) (by repeat first|(with_reducible first|exact HK.out|apply eS|apply eN|apply eD|apply eA)|exact HK.out)));have n2_:=mA (iB (by repeat first|(with_reducible first|exact HI0.out|apply iA|apply iN|apply iD|apply iS)|exact HI0.out) hb);have n3_:=mA (eT (by repeat first|(with_reducible first|exact HK.out|apply eS|apply eN|apply eD|apply eA)|exact HK.out) (eB hb g none) (.inl rfl));have n4_:=mA (bT (by repeat first|(with_reducible first|exact HB.out|apply bA|apply bN|apply bD|refine bS ?_ (iG HI0.out))|exact HB.out) hb);clear HO_7 HI0 HK HB;have HO_7:=n0_;have HO130:=n1_;have HI0:=n2_;have HK:=n3_;have HB:=n4_;clear n0_ n1_ n2_ n3_ n4_ hb ho43;have p131:0≤(t124:Int):=of_decide_eq_true (by first|with_reducible assumption|assumption);have q131:t124<(x7_2.length:Int):=of_decide_eq_true (by first|with_reducible assumption|assumption);obtain ⟨ad131,A131_0,c131_0,e131,hx131_0,hl131_0,hi131_0⟩:=at_L3 (rR HO_7.out).2.2 t124 p131 q131;cases e131;obtain ⟨ce131,hce131,hMe131,hcc131⟩:=Kd.R_get HO_7.out [] t124 p131 (by first|exact q131|exact of_decide_eq_true (by first|with_reducible assumption|assumption)|(have e_:=(rR HO_7.out).1;omega));obtain ⟨ve131_0,rfl,ge131_0⟩:=hMe131;have hv131_0:=hcc131 0 _ rfl;rw [Nat.add_zero,show ((Kd.slice 33 k33)).sz=1 from rfl,Nat.mul_one] at hv131_0;replace hv131_0:=Option.some.inj (hv131_0.symm.trans hx131_0);rw [hv131_0] at ge131_0;have HL131_0:=mA (show Kd.R k33 33 _ _ _ _ (rd_L3 x7_2 t124) from ge131_0);clear hv131_0 ge131_0 hcc131 hce131;have HR131_0:=mA hi131_0;have HC131_0:=mA hl131_0;clear hi131_0 hl131_0;replace p131:=eq_true p131;replace q131:=eq_true q131)|((with_reducible refine gate_builtin (b:=.append) (xs:=#[.tmp 64,.tmp 68]) rfl ?_);at_builtin;refine Kd.R_append_rows k33 w.heap.size rfl (.tmp 64) (.tmp 68) 34 33 (.agg #[(.int .i64 0),(.int .i64 0)]) 16 rfl Try.underlying34 info33 rfl (by decide) (by omega) v129 y128 (rd_L3 x7_2 t124) _ _ _ (fun _=>True) (fun _=>False) rfl rfl ?aO ?aR (fun _ _ h=>h) (fun _ h=>h.elim) ?aF (Below.refl _ _) ?aS ?aL ?_;(case aR=>repeat first|exact (by repeat (first|(with_reducible exact HR131_0.out)|(with_reducible refine cA ?_ _)|(with_reducible refine cN ?_ _)|(with_reducible refine cD ?_)|exact HR131_0.out))|(with_reducible refine cA ?_ _)|(with_reducible refine cN ?_ _)|(with_reducible refine cD ?_));(case aF=>exact (fun _ _=>trivial));(case aO=>exact (by (with_reducible repeat first|apply rA|apply rN|apply rD);exact HO130.out));(case aS=>exact (eZ (w:=w) (g:=g) (row:=none) (by repeat first|(with_reducible first|exact HK.out|apply eS|apply eN|apply eD|apply eA)|exact HK.out)));(case aL=>have:=LMc36.out;omega);intro v133 w44 ho hb hg hat;rw [←Ny132.out] at ho;have n0_:=mA (rJ (ok:=(fun _=>True)) (by (with_reducible repeat first|apply rA|apply rN|apply rD);exact HO_7.out) hg hat);have n1_:=mA (iW (by repeat first|(with_reducible first|exact HI0.out|apply iA|apply iN|apply iD|apply iS)|exact HI0.out) hg (iO HI0.out HO130.out (by decide)));have n2_:=mA (rJ (ok:=(fun k_=>some k_≠(.slice (some ad131) x7_2.length co39:Value).ownBlock)) (by (with_reducible repeat first|apply rA|apply rN|apply rD);exact rM HL131_0.out (fun _ hk=>⟨hk.2,hk.1.2⟩)) hg hat);have n3_:=mA (bW (by repeat first|(with_reducible first|exact HB.out|apply bA|apply bN|apply bD|refine bS ?_ (iG HI0.out))|exact HB.out) HL.out hb);have n4_:=mA (eT (by repeat first|(with_reducible first|exact HK.out|apply eS|apply eN|apply eD|apply eA)|exact HK.out) (eG hg g) (Kd.R_base2 HO130.out));have n5_:=mA (ho);clear HO_7 HI0 HL131_0 HB HK HO130;have HO_7:=n0_;have HI0:=n1_;have HL131_0:=n2_;have HB:=n3_;have HK:=n4_;have HO134:=n5_;clear n0_ n1_ n2_ n3_ n4_ n5_ ho hb hg hat)|((with_reducible refine gate_builtin (b:=.append) (xs:=#[.tmp 69,.tmp 71]) rfl ?_);at_builtin;refine Kd.R_append k33 w.heap.size rfl (.tmp 69) (.tmp 71) 34 33 (.agg #[(.int .i64 0),(.int .i64 0)]) 16 rfl Try.underlying34 info33 rfl (by decide) (by omega) v133 y132 (⟨2,0⟩:S33) [.int .i64 2,.int .i64 0] (fun _=>True) (fun _=>False) rfl rfl ?aP (fun _ hk=>hk.elim) ?aF ?aO (Below.refl _ _) ?aS ?aL ?_;(case aP=>exact k33_mkM _ _ _ (⟨2,0⟩:S33));(case aF=>exact (fun _ _=>trivial));(case aO=>exact (by (with_reducible repeat first|apply rA|apply rN|apply rD);exact HO134.out));(case aS=>exact (eZ (w:=w) (g:=g) (row:=none) (by repeat first|(with_reducible first|exact HK.out|apply eS|apply eN|apply eD|apply eA)|exact HK.out)));(case aL=>have:=LMc37.out;omega);intro v136 w45 ho hb hg hat;rw [←Ny135.out] at ho;have n0_:=mA (rJ (ok:=(fun _=>True)) (by (with_reducible repeat first|apply rA|apply rN|apply rD);exact HO_7.out) hg hat);have n1_:=mA (iW (by repeat first|(with_reducible first|exact HI0.out|apply iA|apply iN|apply iD|apply iS)|exact HI0.out) hg (iO HI0.out HO134.out (by decide)));have n2_:=mA (rJ (ok:=(fun k_=>some k_≠(.slice (some ad131) x7_2.length co39:Value).ownBlock)) (by (with_reducible repeat first|apply rA|apply rN|apply rD);exact HL131_0.out) hg hat);have n3_:=mA (bW (by repeat first|(with_reducible first|exact HB.out|apply bA|apply bN|apply bD|refine bS ?_ (iG HI0.out))|exact HB.out) HL.out hb);have n4_:=mA (eT (by repeat first|(with_reducible first|exact HK.out|apply eS|apply eN|apply eD|apply eA)|exact HK.out) (eG hg g) (Kd.R_base2 HO134.out));have n5_:=mA (ho);clear HO_7 HI0 HL131_0 HB HK HO134;have HO_7:=n0_;have HI0:=n1_;have HL131_0:=n2_;have HB:=n3_;have HK:=n4_;have HO137:=n5_;clear n0_ n1_ n2_ n3_ n4_ n5_ ho hb hg hat;have p38:0≤(t124:Int):=of_decide_eq_true (by first|with_reducible assumption|assumption);have q38:(t124:Int)<((x7_2.length:Int):Int):=of_decide_eq_true (by first|with_reducible assumption|assumption);obtain ⟨go38,co38,eo38,gb38,gl38,cl38,HG38⟩:=Kd.R_form HO_7.out (by omega);(first|cases eo38|(injection eo38 with ea_ en_ ec_;(first|subst ea_|(injection ea_ with ea_;subst ea_));subst ec_;clear en_));have GB38:=mA gb38;have GG38:=mA HG38;clear gb38 gl38 HG38;(first|simp only [add_plain] at hx131_0|skip);obtain ⟨ce38,hcl38,hM38,hcc38,hfr38⟩:=Kd.R_elem HO_7.out [] (t124:Int) p38 q38;obtain ⟨ve38_0,rfl,ge38_0⟩:=hM38;have hx38_0:=hcc38 0 _ rfl;have hf38_0:=hfr38 0;(try simp only [show ((Kd.slice 33 k33)).sz=1 from rfl,Nat.mul_one,Nat.add_zero] at hx38_0);(try simp only [show ((Kd.slice 33 k33)).sz=1 from rfl,Nat.mul_one,Nat.add_zero] at hf38_0);clear hcl38 hcc38 hfr38;(try clear hM38);replace p38:=eq_true p38;replace q38:=eq_true q38;have n_:=mA (rM (ok':=(fun k_=>some k_≠(v136:Value).ownBlock)) HO_7.out (fun k_ hk=>hk.2));clear HO_7;have HO_7:=n_;clear n_;have HX46:=mA (show Kd.R (Kd.slice 33 k33) 34 w45 w.heap.size (fun _=>True) (.slice (some ⟨go38,0,none⟩) x7_2.length co39) x7_2 from (by (with_reducible repeat first|apply rA|apply rN|apply rD);exact rM HO_7.out (fun _ hk=>trivial)));obtain ⟨ce46,hcl46,hM46,hcc46,hfr46⟩:=Kd.R_elem HX46.out [] (t124:Int) (of_decide_eq_true (by first|with_reducible assumption|assumption)) (by have h_:(t124:Int)<((x7_2.length:Int):Int):=of_decide_eq_true (by first|with_reducible assumption|assumption);first|exact h_|(have e_:=(rR HO_7.out).1;omega)|simpa using h_);obtain ⟨ve46_0,rfl,ge46_0⟩:=hM46;have HP46:=Kd.R_seg HX46.out (t124:Int) (of_decide_eq_true (by first|with_reducible assumption|assumption)) (by have h_:(t124:Int)<((x7_2.length:Int):Int):=of_decide_eq_true (by first|with_reducible assumption|assumption);first|exact h_|(have e_:=(rR HO_7.out).1;omega)|simpa using h_) (seg:=[v136]) (j:=0) hcl46 hcc46 (show 1≤1 from by decide) (x':=y135) (Kd.M_row (rM (rP (HO137.out) (rT HO_7.out) (by decide)) (fun k_ hk=>⟨trivial,fun e_=>(hk.2) (by rw [e_];rfl)⟩))) (fun _ hk=>hk);have hx46_0:=hcc46 0 _ rfl;(try simp only [show ((Kd.slice 33 k33)).sz=1 from rfl,Nat.mul_one,Nat.add_zero] at hx46_0);have hf46_0:=hfr46 0;(try simp only [show ((Kd.slice 33 k33)).sz=1 from rfl,Nat.mul_one,Nat.add_zero] at hf46_0);clear hcl46 hcc46 hfr46;(try clear hM46);(try simp only [show ((Kd.slice 33 k33)).sz=1 from rfl,Nat.mul_one,Nat.add_zero] at HP46))|((with_reducible refine gate_store (t:=34) (p:=73) rfl ?_);refine store_event (t:=34) (p:=73) (v:=?vo_w47) (w1:=(w45.setCell ⟨go38,(t124:Int).toNat,none⟩ (v136))) ?hg ?ho ?hn ?hr ?_;(case ho=>rfl);(case hg=>rfl);(case hn=>rfl);(case hr=>first|(go_simp;done)|(go_simp;rfl)|(obtain ⟨As_,cs_,es_⟩:=Kd.R_slice HO137.out;rw [es_];first|(go_simp;done)|(go_simp;rfl)));intro w47 hw;have hg:w45.grownBy w47 (some go38):=(by rw [hw];exact HP46.2);have hp_:Kd.R (Kd.slice 33 k33) 34 w47 w.heap.size (fun _=>True) (.slice (some ⟨go38,0,none⟩) x7_2.length co39) y138:=(by rw [hw,Ny138.out];exact HP46.1);clear HP46;have n0_:=mA (hp_);have n1_:=mA (iW (by repeat first|(with_reducible first|exact HI0.out|apply iA|apply iN|apply iD|apply iS)|exact HI0.out) hg (iO HI0.out HO_7.out (by decide)));have n2_:=mA (rJ (v:=(.slice (some ⟨go38,0,none⟩) x7_2.length co39)) (v1:=(.slice (some ⟨go38,0,none⟩) x7_2.length co39)) (ok:=(fun k_=>some k_≠(v136:Value).ownBlock)) (by (with_reducible repeat first|apply rA|apply rN|apply rD);exact rM HL131_0.out (fun _ hk=>⟨hk.2,hk.1⟩)) hg (.inl rfl));have n3_:=mA ((by rw [hw];exact bS (HB.out) (Nat.le_trans HL.out GB38.out):Below w0.heap.size w0 w47));have n4_:=mA (eT (by repeat first|(with_reducible first|exact HK.out|apply eS|apply eN|apply eD|apply eA)|exact HK.out) (eG hg g) (Kd.R_base2 HO_7.out));clear HO_7 HI0 HL131_0 HB HK HO137;have HO_7:=n0_;have HI0:=n1_;have HL131_0:=n2_;have HB:=n3_;have HK:=n4_;clear n0_ n1_ n2_ n3_ n4_ hg hw hp_))
            go_roundg k2
            case measure=>have:=HK1.out;have:=HK2.out;omega
            case rel=>exact ⟨(y138),(wrap64 (x9_2-1)),(t127),(by first|rfl|(simp;done)|(simp [*];done)),H',⟨by have:=HK1.out;have:=HK2.out;omega⟩,⟨by (with_reducible repeat first|apply rA|apply rN|apply rD);exact HO_7.out⟩,⟨by repeat (first|(with_reducible first|exact HI0.out|apply iA|apply iN|apply iD|apply iS)|exact HI0.out)⟩,⟨by repeat (first|(with_reducible first|exact HK.out|apply eS|apply eN|apply eD|apply eA)|exact HK.out)⟩,⟨by repeat (first|(with_reducible first|exact HB.out|apply bA|apply bN|apply bD|refine bS ?_ (iG HI0.out))|exact HB.out)⟩⟩
           rw [if_neg c37] at H
           exact absurd H (by simp)
          rw [if_neg c36] at H
          exact absurd H (by simp)
         rw [if_neg c35] at H
         exact absurd H (by simp)
        rw [if_neg c34] at H
        exact absurd H (by simp)
       rw [if_neg c33] at H
       have c33b0:(t126==0)=false:=beq_eq_false_iff_ne.mpr c33
       have c33b1:(t126 != 0)=true:=bne_iff_ne.mpr c33
       obtain ⟨y139,hy139⟩ : ∃ y_:List (S33),y_=(([]:List (S33))):=⟨_,rfl⟩
       replace H:(if 0≤t124 then (if t124<(x7_2.length:Int) then (if y139.length+(rd_L3 x7_2 t124).length<8796093022208 then ((some (y139++(rd_L3 x7_2 t124):List (S33))).bind fun y143=>(if 0≤(wrap64 (t124+1)) then (if (wrap64 (t124+1))<(x7_2.length:Int) then (if y143.length+(rd_L3 x7_2 (wrap64 (t124+1))).length<8796093022208 then ((some (y143++(rd_L3 x7_2 (wrap64 (t124+1))):List (S33))).bind fun y147=>((spec_l20Rd_pick.f k2 s0_0 t127 3).bind fun bt150=>(if y147.length<8796093022208 then ((some (([]:List (List (S33))):List (List (S33)))).bind fun y155=>(if t124≤(x7_2.length:Int) then ((some (x7_2.take (t124:Int).toNat:List (List (S33)))).bind fun y158=>(if y155.length+y158.length<5864062014805 then ((some (y155++y158:List (List (S33)))).bind fun y162=>(if y162.length<5864062014805 then ((some (y162++[(y147++[(⟨wrap64 (3+bt150.1),0⟩:S33)])]:List (List (S33)))).bind fun y165=>(if 0≤(wrap64 (t124+2)) then (if (wrap64 (t124+2))≤(x7_2.length:Int) then ((some (x7_2.drop ((wrap64 (t124+2)):Int).toNat:List (List (S33)))).bind fun y168=>(if y165.length+y168.length<5864062014805 then (spec_l20Term.l1 k2 a2 (y165++y168) x9_2 s0_0 bt150.2) else (none))) else (none)) else (none))) else (none))) else (none))) else (none))) else (none)))) else (none)) else (none)) else (none))) else (none)) else (none)) else (none))=some (r1,r2):=by first|(rw [hy139];with_reducible exact H)|(have H2_:=(Option.bind_some _ _).symm.trans H;rw [hy139];with_reducible exact H2_)|(have H2_:=(Option.bind_some _ _).symm.trans H;with_reducible exact H2_)|with_reducible exact H|(rw [hy139];exact H)|exact H
       have Ny139:=mA hy139
       clear hy139
       by_cases c48:0≤t124
       ·rw [if_pos c48] at H
        have c48b0:decide (0≤t124)=true:=decide_eq_true c48
        clear c48
        by_cases c49:t124<(x7_2.length:Int)
        ·rw [if_pos c49] at H
         have c49b0:decide (t124<(x7_2.length:Int))=true:=decide_eq_true c49
         clear c49
         by_cases c50:y139.length+(rd_L3 x7_2 t124).length<8796093022208
         ·rw [if_pos c50] at H
          have LMc50:=mA c50
          clear c50
          obtain ⟨y143,hy143⟩ : ∃ y_:List (S33),y_=(y139++(rd_L3 x7_2 t124)):=⟨_,rfl⟩
          replace H:(if 0≤(wrap64 (t124+1)) then (if (wrap64 (t124+1))<(x7_2.length:Int) then (if y143.length+(rd_L3 x7_2 (wrap64 (t124+1))).length<8796093022208 then ((some (y143++(rd_L3 x7_2 (wrap64 (t124+1))):List (S33))).bind fun y147=>((spec_l20Rd_pick.f k2 s0_0 t127 3).bind fun bt150=>(if y147.length<8796093022208 then ((some (([]:List (List (S33))):List (List (S33)))).bind fun y155=>(if t124≤(x7_2.length:Int) then ((some (x7_2.take (t124:Int).toNat:List (List (S33)))).bind fun y158=>(if y155.length+y158.length<5864062014805 then ((some (y155++y158:List (List (S33)))).bind fun y162=>(if y162.length<5864062014805 then ((some (y162++[(y147++[(⟨wrap64 (3+bt150.1),0⟩:S33)])]:List (List (S33)))).bind fun y165=>(if 0≤(wrap64 (t124+2)) then (if (wrap64 (t124+2))≤(x7_2.length:Int) then ((some (x7_2.drop ((wrap64 (t124+2)):Int).toNat:List (List (S33)))).bind fun y168=>(if y165.length+y168.length<5864062014805 then (spec_l20Term.l1 k2 a2 (y165++y168) x9_2 s0_0 bt150.2) else (none))) else (none)) else (none))) else (none))) else (none))) else (none))) else (none)))) else (none)) else (none)) else (none))=some (r1,r2):=by first|(rw [hy143];with_reducible exact H)|(have H2_:=(Option.bind_some _ _).symm.trans H;rw [hy143];with_reducible exact H2_)|(have H2_:=(Option.bind_some _ _).symm.trans H;with_reducible exact H2_)|with_reducible exact H|(rw [hy143];exact H)|exact H
          have Ny143:=mA hy143
          clear hy143
          obtain ⟨ji51,hji51⟩ : ∃ j_:Int,(wrap64 (t124+1))=j_:=⟨_,rfl⟩
          replace H:(if 0≤(ji51) then (if (ji51)<(x7_2.length:Int) then (if y143.length+(rd_L3 x7_2 (ji51)).length<8796093022208 then ((some (y143++(rd_L3 x7_2 (ji51)):List (S33))).bind fun y147=>((spec_l20Rd_pick.f k2 s0_0 t127 3).bind fun bt150=>(if y147.length<8796093022208 then ((some (([]:List (List (S33))):List (List (S33)))).bind fun y155=>(if t124≤(x7_2.length:Int) then ((some (x7_2.take (t124:Int).toNat:List (List (S33)))).bind fun y158=>(if y155.length+y158.length<5864062014805 then ((some (y155++y158:List (List (S33)))).bind fun y162=>(if y162.length<5864062014805 then ((some (y162++[(y147++[(⟨wrap64 (3+bt150.1),0⟩:S33)])]:List (List (S33)))).bind fun y165=>(if 0≤(wrap64 (t124+2)) then (if (wrap64 (t124+2))≤(x7_2.length:Int) then ((some (x7_2.drop ((wrap64 (t124+2)):Int).toNat:List (List (S33)))).bind fun y168=>(if y165.length+y168.length<5864062014805 then (spec_l20Term.l1 k2 a2 (y165++y168) x9_2 s0_0 bt150.2) else (none))) else (none)) else (none))) else (none))) else (none))) else (none))) else (none)))) else (none)) else (none)) else (none))=some (r1,r2):=by first|(rw [hji51] at H;exact H)|(simp only [hji51] at H ⊢;exact H)
          (try rw [hji51] at A30)
          (try rw [hji51] at A32)
          have hji51w:(IntKind.i64.wrap (t124+1))=ji51:=(i64_w _).trans hji51
          by_cases c52:0≤(ji51)
          ·rw [if_pos c52] at H
           have c52b0:decide (0≤(ji51))=true:=decide_eq_true c52
           clear c52
           by_cases c53:(ji51)<(x7_2.length:Int)
           ·rw [if_pos c53] at H
            have c53b0:decide ((ji51)<(x7_2.length:Int))=true:=decide_eq_true c53
            clear c53
            by_cases c54:y143.length+(rd_L3 x7_2 (ji51)).length<8796093022208
            ·rw [if_pos c54] at H
             have LMc54:=mA c54
             clear c54
             obtain ⟨y147,hy147⟩ : ∃ y_:List (S33),y_=(y143++(rd_L3 x7_2 (ji51))):=⟨_,rfl⟩
             replace H:((spec_l20Rd_pick.f k2 s0_0 t127 3).bind fun bt150=>(if y147.length<8796093022208 then ((some (([]:List (List (S33))):List (List (S33)))).bind fun y155=>(if t124≤(x7_2.length:Int) then ((some (x7_2.take (t124:Int).toNat:List (List (S33)))).bind fun y158=>(if y155.length+y158.length<5864062014805 then ((some (y155++y158:List (List (S33)))).bind fun y162=>(if y162.length<5864062014805 then ((some (y162++[(y147++[(⟨wrap64 (3+bt150.1),0⟩:S33)])]:List (List (S33)))).bind fun y165=>(if 0≤(wrap64 (t124+2)) then (if (wrap64 (t124+2))≤(x7_2.length:Int) then ((some (x7_2.drop ((wrap64 (t124+2)):Int).toNat:List (List (S33)))).bind fun y168=>(if y165.length+y168.length<5864062014805 then (spec_l20Term.l1 k2 a2 (y165++y168) x9_2 s0_0 bt150.2) else (none))) else (none)) else (none))) else (none))) else (none))) else (none))) else (none)))=some (r1,r2):=by first|(rw [hy147];with_reducible exact H)|(have H2_:=(Option.bind_some _ _).symm.trans H;rw [hy147];with_reducible exact H2_)|(have H2_:=(Option.bind_some _ _).symm.trans H;with_reducible exact H2_)|with_reducible exact H|(rw [hy147];exact H)|exact H
             have Ny147:=mA hy147
             clear hy147
             replace H:=Option.bind_eq_some_iff.mp H
             obtain ⟨⟨t150,t151⟩,A550,H⟩:=H
             replace H:(if y147.length<8796093022208 then ((some (([]:List (List (S33))):List (List (S33)))).bind fun y155=>(if t124≤(x7_2.length:Int) then ((some (x7_2.take (t124:Int).toNat:List (List (S33)))).bind fun y158=>(if y155.length+y158.length<5864062014805 then ((some (y155++y158:List (List (S33)))).bind fun y162=>(if y162.length<5864062014805 then ((some (y162++[(y147++[(⟨wrap64 (3+t150),0⟩:S33)])]:List (List (S33)))).bind fun y165=>(if 0≤(wrap64 (t124+2)) then (if (wrap64 (t124+2))≤(x7_2.length:Int) then ((some (x7_2.drop ((wrap64 (t124+2)):Int).toNat:List (List (S33)))).bind fun y168=>(if y165.length+y168.length<5864062014805 then (spec_l20Term.l1 k2 a2 (y165++y168) x9_2 s0_0 t151) else (none))) else (none)) else (none))) else (none))) else (none))) else (none))) else (none))=some (r1,r2):=H
             have A55:=mA A550
             clear A550
             by_cases c56:y147.length<8796093022208
             ·rw [if_pos c56] at H
              have LMc56:=mA c56
              clear c56
              obtain ⟨y152,hy152⟩ : ∃ y_:List (S33),y_=(y147++[(⟨wrap64 (3+t150),0⟩:S33)]):=⟨_,rfl⟩
              replace H:((some (([]:List (List (S33))):List (List (S33)))).bind fun y155=>(if t124≤(x7_2.length:Int) then ((some (x7_2.take (t124:Int).toNat:List (List (S33)))).bind fun y158=>(if y155.length+y158.length<5864062014805 then ((some (y155++y158:List (List (S33)))).bind fun y162=>(if y162.length<5864062014805 then ((some (y162++[y152]:List (List (S33)))).bind fun y165=>(if 0≤(wrap64 (t124+2)) then (if (wrap64 (t124+2))≤(x7_2.length:Int) then ((some (x7_2.drop ((wrap64 (t124+2)):Int).toNat:List (List (S33)))).bind fun y168=>(if y165.length+y168.length<5864062014805 then (spec_l20Term.l1 k2 a2 (y165++y168) x9_2 s0_0 t151) else (none))) else (none)) else (none))) else (none))) else (none))) else (none)))=some (r1,r2):=by first|(rw [hy152];with_reducible exact H)|(have H2_:=(Option.bind_some _ _).symm.trans H;rw [hy152];with_reducible exact H2_)|(have H2_:=(Option.bind_some _ _).symm.trans H;with_reducible exact H2_)|with_reducible exact H|(rw [hy152];exact H)|exact H
              have Ny152:=mA hy152
              clear hy152
              obtain ⟨y155,hy155⟩ : ∃ y_:List (List (S33)),y_=(([]:List (List (S33)))):=⟨_,rfl⟩
              replace H:(if t124≤(x7_2.length:Int) then ((some (x7_2.take (t124:Int).toNat:List (List (S33)))).bind fun y158=>(if y155.length+y158.length<5864062014805 then ((some (y155++y158:List (List (S33)))).bind fun y162=>(if y162.length<5864062014805 then ((some (y162++[y152]:List (List (S33)))).bind fun y165=>(if 0≤(wrap64 (t124+2)) then (if (wrap64 (t124+2))≤(x7_2.length:Int) then ((some (x7_2.drop ((wrap64 (t124+2)):Int).toNat:List (List (S33)))).bind fun y168=>(if y165.length+y168.length<5864062014805 then (spec_l20Term.l1 k2 a2 (y165++y168) x9_2 s0_0 t151) else (none))) else (none)) else (none))) else (none))) else (none))) else (none))=some (r1,r2):=by first|(rw [hy155];with_reducible exact H)|(have H2_:=(Option.bind_some _ _).symm.trans H;rw [hy155];with_reducible exact H2_)|(have H2_:=(Option.bind_some _ _).symm.trans H;with_reducible exact H2_)|with_reducible exact H|(rw [hy155];exact H)|exact H
              have Ny155:=mA hy155
              clear hy155
              have c57b0:=eq_true (of_decide_eq_true (by first|with_reducible assumption|assumption):0≤t124)
              by_cases c58:t124≤(x7_2.length:Int)
              ·rw [if_pos c58] at H
               have c58b0:=eq_true c58
               have c58b1:decide (t124≤(x7_2.length:Int))=true:=decide_eq_true c58
               clear c58
               obtain ⟨y158,hy158⟩ : ∃ y_:List (List (S33)),y_=(x7_2.take (t124:Int).toNat):=⟨_,rfl⟩
               replace H:(if y155.length+y158.length<5864062014805 then ((some (y155++y158:List (List (S33)))).bind fun y162=>(if y162.length<5864062014805 then ((some (y162++[y152]:List (List (S33)))).bind fun y165=>(if 0≤(wrap64 (t124+2)) then (if (wrap64 (t124+2))≤(x7_2.length:Int) then ((some (x7_2.drop ((wrap64 (t124+2)):Int).toNat:List (List (S33)))).bind fun y168=>(if y165.length+y168.length<5864062014805 then (spec_l20Term.l1 k2 a2 (y165++y168) x9_2 s0_0 t151) else (none))) else (none)) else (none))) else (none))) else (none))=some (r1,r2):=by first|(rw [hy158];with_reducible exact H)|(have H2_:=(Option.bind_some _ _).symm.trans H;rw [hy158];with_reducible exact H2_)|(have H2_:=(Option.bind_some _ _).symm.trans H;with_reducible exact H2_)|with_reducible exact H|(rw [hy158];exact H)|exact H
               have Ny158:=mA hy158
               clear hy158
               by_cases c59:y155.length+y158.length<5864062014805
               ·rw [if_pos c59] at H
                have LMc59:=mA c59
                clear c59
                obtain ⟨y162,hy162⟩ : ∃ y_:List (List (S33)),y_=(y155++y158):=⟨_,rfl⟩
                replace H:(if y162.length<5864062014805 then ((some (y162++[y152]:List (List (S33)))).bind fun y165=>(if 0≤(wrap64 (t124+2)) then (if (wrap64 (t124+2))≤(x7_2.length:Int) then ((some (x7_2.drop ((wrap64 (t124+2)):Int).toNat:List (List (S33)))).bind fun y168=>(if y165.length+y168.length<5864062014805 then (spec_l20Term.l1 k2 a2 (y165++y168) x9_2 s0_0 t151) else (none))) else (none)) else (none))) else (none))=some (r1,r2):=by first|(rw [hy162];with_reducible exact H)|(have H2_:=(Option.bind_some _ _).symm.trans H;rw [hy162];with_reducible exact H2_)|(have H2_:=(Option.bind_some _ _).symm.trans H;with_reducible exact H2_)|with_reducible exact H|(rw [hy162];exact H)|exact H
                have Ny162:=mA hy162
                clear hy162
                by_cases c60:y162.length<5864062014805
                ·rw [if_pos c60] at H
                 have LMc60:=mA c60
                 clear c60
                 obtain ⟨y165,hy165⟩ : ∃ y_:List (List (S33)),y_=(y162++[y152]):=⟨_,rfl⟩
                 replace H:(if 0≤(wrap64 (t124+2)) then (if (wrap64 (t124+2))≤(x7_2.length:Int) then ((some (x7_2.drop ((wrap64 (t124+2)):Int).toNat:List (List (S33)))).bind fun y168=>(if y165.length+y168.length<5864062014805 then (spec_l20Term.l1 k2 a2 (y165++y168) x9_2 s0_0 t151) else (none))) else (none)) else (none))=some (r1,r2):=by first|(rw [hy165];with_reducible exact H)|(have H2_:=(Option.bind_some _ _).symm.trans H;rw [hy165];with_reducible exact H2_)|(have H2_:=(Option.bind_some _ _).symm.trans H;with_reducible exact H2_)|with_reducible exact H|(rw [hy165];exact H)|exact H
                 have Ny165:=mA hy165
                 clear hy165
                 obtain ⟨ji61,hji61⟩ : ∃ j_:Int,(wrap64 (t124+2))=j_:=⟨_,rfl⟩
                 replace H:(if 0≤(ji61) then (if (ji61)≤(x7_2.length:Int) then ((some (x7_2.drop ((ji61):Int).toNat:List (List (S33)))).bind fun y168=>(if y165.length+y168.length<5864062014805 then (spec_l20Term.l1 k2 a2 (y165++y168) x9_2 s0_0 t151) else (none))) else (none)) else (none))=some (r1,r2):=by first|(rw [hji61] at H;exact H)|(simp only [hji61] at H ⊢;exact H)
                 (try rw [hji61] at A30)
                 (try rw [hji61] at A32)
                 (try rw [hji61] at A55)
                 have hji61w:(IntKind.i64.wrap (t124+2))=ji61:=(i64_w _).trans hji61
                 by_cases c62:0≤(ji61)
                 ·rw [if_pos c62] at H
                  have c62b0:=eq_true c62
                  have c62b1:decide (0≤(ji61))=true:=decide_eq_true c62
                  clear c62
                  by_cases c63:(ji61)≤(x7_2.length:Int)
                  ·rw [if_pos c63] at H
                   have c63b0:=eq_true c63
                   have c63b1:decide ((ji61)≤(x7_2.length:Int))=true:=decide_eq_true c63
                   clear c63
                   obtain ⟨y168,hy168⟩ : ∃ y_:List (List (S33)),y_=(x7_2.drop ((ji61):Int).toNat):=⟨_,rfl⟩
                   replace H:(if y165.length+y168.length<5864062014805 then (spec_l20Term.l1 k2 a2 (y165++y168) x9_2 s0_0 t151) else (none))=some (r1,r2):=by first|(rw [hy168];with_reducible exact H)|(have H2_:=(Option.bind_some _ _).symm.trans H;rw [hy168];with_reducible exact H2_)|(have H2_:=(Option.bind_some _ _).symm.trans H;with_reducible exact H2_)|with_reducible exact H|(rw [hy168];exact H)|exact H
                   have Ny168:=mA hy168
                   clear hy168
                   by_cases c64:y165.length+y168.length<5864062014805
                   ·rw [if_pos c64] at H
                    have LMc64:=mA c64
                    clear c64
                    obtain ⟨y172,hy172⟩ : ∃ y_:List (List (S33)),y_=(y165++y168):=⟨_,rfl⟩
                    replace H:(spec_l20Term.l1 k2 a2 y172 x9_2 s0_0 t151)=some (r1,r2):=by first|(rw [hy172];with_reducible exact H)|(have H2_:=(Option.bind_some _ _).symm.trans H;rw [hy172];with_reducible exact H2_)|(have H2_:=(Option.bind_some _ _).symm.trans H;with_reducible exact H2_)|with_reducible exact H|(rw [hy172];exact H)|exact H
                    have Ny172:=mA hy172
                    clear hy172
                    have H':=mA H
                    clear H
                    obtain ⟨Ao65,co65,eo65⟩:=Kd.R_slice HO_7.out
                    subst eo65
                    try go_wp2_with (first|((with_reducible refine gate_callee (f:=108) rfl ?_);refine goesL_ (some 52) rfl rfl Try.func108 (by kernel_rfl) rfl #[.pointer (some ⟨g,0,none⟩),.int .i64 (wrap64 ((x7_2.length:Int)-1))] rfl (by (try simp only [mT,mC,mN]);first|done|rfl|(simp only [lD,lT];rfl)) ?_;(with_reducible refine (spec_l20Rd_pick.calls k2 g s0_0 x1001_2 (wrap64 ((x7_2.length:Int)-1)) t124 t125 w0 _ ?side1 ?side2 A30.out).mono ?_);(case side1=>repeat first|(with_reducible first|exact HI0.out|apply iA|apply iN|apply iD|apply iS)|exact HI0.out);(case side2=>repeat first|(with_reducible first|exact HB.out|apply bA|apply bN|apply bD|refine bS ?_ (iG HI0.out))|exact HB.out);rintro e w66 ⟨rfl,hi,hb,hk⟩;refine ⟨_,rfl,?_⟩;have n0_:=mA (rM (Kd.R_keep (iP (show IsS113 w0 _ g s0_0 x1001_2 from by repeat first|(with_reducible first|exact HI0.out|apply iA|apply iN|apply iD|apply iS)|exact HI0.out) (by (with_reducible repeat first|apply rA|apply rN|apply rD);exact HO_7.out) (by decide)) hk (fun _ h=>h.2)) (fun _ h=>h.1));have n1_:=mA (eT (by repeat first|(with_reducible first|exact HK.out|apply eS|apply eN|apply eD|apply eA)|exact HK.out) hk (.inl rfl));have n2_:=mA (hb);have n3_:=mA (hi);clear HO_7 HK HB HI0;have HO_7:=n0_;have HK:=n1_;have HB:=n2_;have HI0:=n3_;clear n0_ n1_ n2_ n3_;(try clear hb);(try clear hb2);(try clear hk);(try clear hi))|(go_at_call 108;(with_reducible refine (spec_l20Rd_pick.calls k2 g s0_0 t125 4 t126 t127 w0 _ ?side1 ?side2 A32.out).mono ?_);(case side1=>repeat first|(with_reducible first|exact HI0.out|apply iA|apply iN|apply iD|apply iS)|exact HI0.out);(case side2=>repeat first|(with_reducible first|exact HB.out|apply bA|apply bN|apply bD|refine bS ?_ (iG HI0.out))|exact HB.out);rintro e w67 ⟨rfl,hi,hb,hk⟩;have n0_:=mA (rM (Kd.R_keep (iP (show IsS113 w0 _ g s0_0 t125 from by repeat first|(with_reducible first|exact HI0.out|apply iA|apply iN|apply iD|apply iS)|exact HI0.out) (by (with_reducible repeat first|apply rA|apply rN|apply rD);exact HO_7.out) (by decide)) hk (fun _ h=>h.2)) (fun _ h=>h.1));have n1_:=mA (eT (by repeat first|(with_reducible first|exact HK.out|apply eS|apply eN|apply eD|apply eA)|exact HK.out) hk (.inl rfl));have n2_:=mA (hb);have n3_:=mA (hi);clear HO_7 HK HB HI0;have HO_7:=n0_;have HK:=n1_;have HB:=n2_;have HI0:=n3_;clear n0_ n1_ n2_ n3_;(try clear hb);(try clear hb2);(try clear hk);(try clear hi)))
                    have n0_:=mA (rD HO_7.out)
                    have n1_:=mA (iD HI0.out)
                    have n2_:=mA (eD HK.out)
                    have n3_:=mA (bD HB.out)
                    clear HO_7
                    clear HI0
                    clear HK
                    clear HB
                    have HO_7:=n0_
                    have HI0:=n1_
                    have HK:=n2_
                    have HB:=n3_
                    clear n0_ n1_ n2_ n3_
                    have p142:0≤(t124:Int):=of_decide_eq_true (by first|with_reducible assumption|assumption)
                    have q142:t124<(x7_2.length:Int):=of_decide_eq_true (by first|with_reducible assumption|assumption)
                    obtain ⟨ad142,A142_0,c142_0,e142,hx142_0,hl142_0,hi142_0⟩:=at_L3 (rR HO_7.out).2.2 t124 p142 q142
                    cases e142
                    obtain ⟨ce142,hce142,hMe142,hcc142⟩:=Kd.R_get HO_7.out [] t124 p142 (by first|exact q142|exact of_decide_eq_true (by first|with_reducible assumption|assumption)|(have e_:=(rR HO_7.out).1;omega))
                    obtain ⟨ve142_0,rfl,ge142_0⟩:=hMe142
                    have hv142_0:=hcc142 0 _ rfl
                    rw [Nat.add_zero,show ((Kd.slice 33 k33)).sz=1 from rfl,Nat.mul_one] at hv142_0
                    replace hv142_0:=Option.some.inj (hv142_0.symm.trans hx142_0)
                    rw [hv142_0] at ge142_0
                    have HL142_0:=mA (show Kd.R k33 33 _ _ _ _ (rd_L3 x7_2 t124) from ge142_0)
                    clear hv142_0 ge142_0
                    clear hcc142 hce142
                    have HR142_0:=mA hi142_0
                    have HC142_0:=mA hl142_0
                    clear hi142_0 hl142_0
                    replace p142:=eq_true p142
                    replace q142:=eq_true q142
                    have p146:0≤((ji51):Int):=of_decide_eq_true (by first|with_reducible assumption|assumption)
                    have q146:(ji51)<(x7_2.length:Int):=of_decide_eq_true (by first|with_reducible assumption|assumption)
                    obtain ⟨ad146,A146_0,c146_0,e146,hx146_0,hl146_0,hi146_0⟩:=at_L3 (rR HO_7.out).2.2 (ji51) p146 q146
                    obtain rfl:ad142=ad146:=(by injection e146)
                    obtain ⟨ce146,hce146,hMe146,hcc146⟩:=Kd.R_get HO_7.out [] (ji51) p146 (by first|exact q146|exact of_decide_eq_true (by first|with_reducible assumption|assumption)|(have e_:=(rR HO_7.out).1;omega))
                    obtain ⟨ve146_0,rfl,ge146_0⟩:=hMe146
                    have hv146_0:=hcc146 0 _ rfl
                    rw [Nat.add_zero,show ((Kd.slice 33 k33)).sz=1 from rfl,Nat.mul_one] at hv146_0
                    replace hv146_0:=Option.some.inj (hv146_0.symm.trans hx146_0)
                    rw [hv146_0] at ge146_0
                    have HL146_0:=mA (show Kd.R k33 33 _ _ _ _ (rd_L3 x7_2 (ji51)) from ge146_0)
                    clear hv146_0 ge146_0
                    clear hcc146 hce146
                    have HR146_0:=mA hi146_0
                    have HC146_0:=mA hl146_0
                    clear hi146_0 hl146_0
                    replace p146:=eq_true p146
                    replace q146:=eq_true q146
                    refine start_ (n:=19) (S:=fun w'=>w'.cell? (ad142.add (t124).toNat)=some (.slice A142_0 (rd_L3 x7_2 t124).length c142_0)∧w'.cell? (ad142.add ((ji51)).toNat)=some (.slice A146_0 (rd_L3 x7_2 (ji51)).length c146_0)) (ds:=[16,17]) #[O,O,O,O,O,O,O,O,O,O,O,O,O,O,O,O,O,O,O] (by kernel_rfl) rfl rfl ⟨hx142_0,hx146_0⟩ (fun hHeld=>?_);refine with_tabW spec_l20Term.tab15 spec_l20Term.bits15 (fun HT_ HW_=>?_)
                    generalize w67.drew=w68 at HO_7 HI0 HK HB HL142_0 HL146_0 HR142_0 HR146_0 hx142_0 hx146_0 hHeld ⊢
                    refine pure_ (i:=1) (N:=some 75) (v:=?_) (a':=?_) #[O,I,O,O,O,O,O,O,O,O,O,O,O,O,O,O,O,O,O] rfl rfl (any_of HT_.out (by kernel_rfl)) (fun _ _ _ h=>h) (Or.inl ⟨by rfl,?_⟩) ?_ ?_
                    rotate_left
                    ·intro w'
                     go_simp
                     with_reducible rfl
                    rotate_left
                    ·simp only [Act.put,sA,sZ,sS,i64_w,i32_w]
                     rfl
                    refine pure_ (i:=2) (N:=some 76) (v:=?_) (a':=?_) #[O,I,I,O,O,O,O,O,O,O,O,O,O,O,O,O,O,O,O] rfl rfl (any_of HT_.out (by kernel_rfl)) (fun _ _ _ h=>h) (Or.inl ⟨by rfl,?_⟩) ?_ ?_
                    rotate_left
                    ·intro w'
                     go_simp
                     with_reducible rfl
                    rotate_left
                    ·simp only [Act.put,sA,sZ,sS,i64_w,i32_w]
                     rfl
                    refine pure_ (i:=3) (N:=some 77) (v:=?_) (a':=?_) #[O,I,I,I,O,O,O,O,O,O,O,O,O,O,O,O,O,O,O] rfl rfl (any_of HT_.out (by kernel_rfl)) (fun _ _ _ h=>h) (Or.inl ⟨by rfl,?_⟩) ?_ ?_
                    rotate_left
                    ·intro w'
                     go_simp
                     with_reducible rfl
                    rotate_left
                    ·simp only [Act.put,sA,sZ,sS,i64_w,i32_w]
                     rfl
                    refine pure_ (i:=6) (N:=some 80) (v:=?_) (a':=?_) #[O,I,I,I,O,O,I,O,O,O,O,O,O,O,O,O,O,O,O] rfl rfl (any_of HT_.out (by kernel_rfl)) (fun _ _ _ h=>h) (Or.inl ⟨by rfl,?_⟩) ?_ ?_
                    rotate_left
                    ·intro w'
                     go_simp
                     with_reducible rfl
                    rotate_left
                    ·simp only [Act.put,sA,sZ,sS,i64_w,i32_w]
                     rfl
                    refine pure_ (i:=7) (N:=some 81) (v:=?_) (a':=?_) #[O,I,I,I,O,O,I,I,O,O,O,O,O,O,O,O,O,O,O] rfl rfl (any_of HT_.out (by kernel_rfl)) (fun _ _ _ h=>h) (Or.inl ⟨by rfl,?_⟩) ?_ ?_
                    rotate_left
                    ·intro w'
                     go_simp
                     with_reducible rfl
                    rotate_left
                    ·simp only [Act.put,sA,sZ,sS,i64_w,i32_w]
                     rfl
                    refine pure_ (i:=8) (N:=some 82) (v:=?_) (a':=?_) #[O,I,I,I,O,O,I,I,I,O,O,O,O,O,O,O,O,O,O] rfl rfl (any_of HT_.out (by kernel_rfl)) (fun _ _ _ h=>h) (Or.inl ⟨by rfl,?_⟩) ?_ ?_
                    rotate_left
                    ·intro w'
                     go_simp
                     with_reducible rfl
                    rotate_left
                    ·simp only [Act.put,sA,sZ,sS,i64_w,i32_w]
                     rfl
                    refine pure_ (i:=9) (N:=some 83) (v:=?_) (a':=?_) #[O,I,I,I,O,O,I,I,I,I,O,O,O,O,O,O,O,O,O] rfl rfl (any_of HT_.out (by kernel_rfl)) (fun _ _ _ h=>h) (Or.inl ⟨by rfl,?_⟩) ?_ ?_
                    rotate_left
                    ·intro w'
                     go_simp
                     with_reducible rfl
                    rotate_left
                    ·simp only [Act.put,sA,sZ,sS,i64_w,i32_w]
                     rfl
                    refine pure_ (i:=12) (N:=some 86) (v:=?_) (a':=?_) #[O,I,I,I,O,O,I,I,I,I,O,O,I,O,O,O,O,O,O] rfl rfl (any_of HT_.out (by kernel_rfl)) (fun _ _ _ h=>h) (Or.inl ⟨by rfl,?_⟩) ?_ ?_
                    rotate_left
                    ·intro w'
                     go_simp
                     with_reducible rfl
                    rotate_left
                    ·simp only [Act.put,sA,sZ,sS,i64_w,i32_w]
                     rfl
                    refine take_ (i:=4) (N:=some 78) (v:=?_) (a':=?_) #[O,I,I,I,I,O,I,I,I,I,O,O,I,O,O,O,O,O,O] rfl rfl (take_ofW HT_.out HW_.out (by kernel_rfl)) (fun _ _ _ h=>h) (Or.inl ⟨by rfl,?_⟩) hHeld ?_ ?_
                    rotate_left
                    ·rintro w' ⟨s0,s1⟩
                     go_simp
                     with_reducible rfl
                    rotate_left
                    ·simp only [Act.put,sA,sZ,sS,i64_w,i32_w]
                     rfl
                    refine take_ (i:=10) (N:=some 84) (v:=?_) (a':=?_) #[O,I,I,I,I,O,I,I,I,I,I,O,I,O,O,O,O,O,O] rfl rfl (take_ofW HT_.out HW_.out (by kernel_rfl)) (fun _ _ _ h=>h) (Or.inl ⟨by rfl,?_⟩) hHeld ?_ ?_
                    rotate_left
                    ·rintro w' ⟨s0,s1⟩
                     go_simp
                     with_reducible rfl
                    rotate_left
                    ·simp only [Act.put,sA,sZ,sS,i64_w,i32_w]
                     rfl
                    refine one_ (i:=0) (N:=some 74) #[I,I,I,I,I,O,I,I,I,I,I,O,I,O,O,O,O,O,O] rfl rfl (one_of HT_.out (by kernel_rfl)) (by decide) (fun K hK=>?_)
                    refine Kd.R_lit_step k33 _ 33 ?hg (N:=74) ?hd (xs:=([]:List (S33))) (inner:=[]) (ok:=fun _=>True) (okp:=fun _=>True) ?hr ?hp (fun _ hk=>hk) trivial (Below.refl _ _) (Nat.le_refl _) (by simp) ?_;(case hd=>rfl);(case hg=>rfl);(case hr=>first|(go_simp;done)|(go_simp;rfl));(case hp=>exact (Reps.none _ _))
                    intro v140 w69 ho70 hb hg_ hnew_
                    have HS0_:=(hb.cell (World.block_lt_of_cell? _ _ (hHeld.1))).trans (hHeld.1)
                    have HS1_:=(hb.cell (World.block_lt_of_cell? _ _ (hHeld.2))).trans (hHeld.2)
                    clear hg_ hnew_
                    (first|rw [←Ny139.out] at ho70|(simp only [Int.reduceToNat] at ho70;rw [←Ny139.out] at ho70))
                    have n0_:=mA (rE (by (with_reducible repeat first|apply rA|apply rN|apply rD);exact HO_7.out) (Kd.R_base ho70) hb)
                    have n1_:=mA (rE (by (with_reducible repeat first|apply rA|apply rN|apply rD);exact HL142_0.out) (Kd.R_base ho70) hb)
                    have n2_:=mA (rE (by (with_reducible repeat first|apply rA|apply rN|apply rD);exact HL146_0.out) (Kd.R_base ho70) hb)
                    have n3_:=mA (rW (rQ (rQ ho70 (rL (by (with_reducible repeat first|apply rA|apply rN|apply rD);exact HL142_0.out))) (rL (by (with_reducible repeat first|apply rA|apply rN|apply rD);exact HL146_0.out))) (eZ (w:=w) (g:=g) (row:=none) (by repeat first|(with_reducible first|exact HK.out|apply eS|apply eN|apply eD|apply eA)|exact HK.out)))
                    have n4_:=mA (iB (by repeat first|(with_reducible first|exact HI0.out|apply iA|apply iN|apply iD|apply iS)|exact HI0.out) hb)
                    have n5_:=mA (Kd.C_below (by repeat first|(with_reducible exact HR142_0.out)|(with_reducible refine cA ?_ _)|(with_reducible refine cN ?_ _)|(with_reducible refine cD ?_)|exact HR142_0.out) hb)
                    have n6_:=mA (Kd.C_below (by repeat first|(with_reducible exact HR146_0.out)|(with_reducible refine cA ?_ _)|(with_reducible refine cN ?_ _)|(with_reducible refine cD ?_)|exact HR146_0.out) hb)
                    have n7_:=mA (eT (by repeat first|(with_reducible first|exact HK.out|apply eS|apply eN|apply eD|apply eA)|exact HK.out) (eB hb g none) (.inl rfl))
                    have n8_:=mA (bT (by repeat first|(with_reducible first|exact HB.out|apply bA|apply bN|apply bD|refine bS ?_ (iG HI0.out))|exact HB.out) hb)
                    clear HO_7
                    clear HL142_0
                    clear HL146_0
                    clear HI0
                    clear HR142_0
                    clear HR146_0
                    clear HK
                    clear HB
                    have HO_7:=n0_
                    have HL142_0:=n1_
                    have HL146_0:=n2_
                    have HO141:=n3_
                    have HI0:=n4_
                    have HR142_0:=n5_
                    have HR146_0:=n6_
                    have HK:=n7_
                    have HB:=n8_
                    clear n0_ n1_ n2_ n3_ n4_ n5_ n6_ n7_ n8_
                    clear hb ho70
                    refine hK.out _ _ ⟨HS0_,HS1_⟩ (fun hHeld=>?_)
                    clear hK K
                    refine norm_ (a':=?_) ?_ ?_
                    rotate_left
                    ·show Act.put _ (some 74) _=_
                     simp only [Act.put,sA,sZ,sS,i64_w,i32_w]
                     rfl
                    refine one_ (i:=5) (N:=some 79) #[I,I,I,I,I,I,I,I,I,I,I,O,I,O,O,O,O,O,O] rfl rfl (one_of HT_.out (by kernel_rfl)) (by decide) (fun K hK=>?_)
                    refine Kd.R_append_rows_step k33 w.heap.size (by rfl) (.tmp 74) (.tmp 78) 34 33 (.agg #[(.int .i64 0),(.int .i64 0)]) 16 rfl Try.underlying34 info33 rfl (by decide) (by omega) v140 y139 (rd_L3 x7_2 t124) _ _ _ (fun k_=>some k_≠(.slice A142_0 (rd_L3 x7_2 t124).length c142_0:Value).ownBlock∧some k_≠(.slice A146_0 (rd_L3 x7_2 (ji51)).length c146_0:Value).ownBlock) (fun _=>False) rfl rfl ?aO ?aR (fun _ _ h=>h) (fun _ h=>h.elim) ?aF (Below.refl _ _) ?aS ?aL ?_
                    (case aR=>repeat first|exact (by repeat (first|(with_reducible exact HR142_0.out)|(with_reducible refine cA ?_ _)|(with_reducible refine cN ?_ _)|(with_reducible refine cD ?_)|exact HR142_0.out))|(with_reducible refine cA ?_ _)|(with_reducible refine cN ?_ _)|(with_reducible refine cD ?_))
                    (case aF=>exact (fun k_ hk=>⟨Kd.fresh' (rL (by (with_reducible repeat first|apply rA|apply rN|apply rD);exact HL142_0.out)) k_ hk,Kd.fresh' (rL (by (with_reducible repeat first|apply rA|apply rN|apply rD);exact HL146_0.out)) k_ hk⟩))
                    (case aO=>exact (by (with_reducible repeat first|apply rA|apply rN|apply rD);exact rM HO141.out (fun _ hk=>⟨hk.1.2,hk.2⟩)))
                    (case aS=>exact (eZ (w:=w) (g:=g) (row:=none) (by repeat first|(with_reducible first|exact HK.out|apply eS|apply eN|apply eD|apply eA)|exact HK.out)))
                    (case aL=>have:=LMc50.out;omega)
                    intro v144 w71 ho hb hg hat
                    have HS0_:=cell_grown hg (hHeld.1) (by first|(rw [add_block];exact row_ne HO_7.out HO141.out (by decide) _ rfl)|(show some (Addr.add _ _).block≠_;rw [add_block];exact row_ne HO_7.out HO141.out (by decide) _ rfl)|exact row_ne HO_7.out HO141.out (by decide) _ rfl)
                    have HS1_:=cell_grown hg (hHeld.2) (by first|(rw [add_block];exact row_ne HO_7.out HO141.out (by decide) _ rfl)|(show some (Addr.add _ _).block≠_;rw [add_block];exact row_ne HO_7.out HO141.out (by decide) _ rfl)|exact row_ne HO_7.out HO141.out (by decide) _ rfl)
                    rw [←Ny143.out] at ho
                    have n0_:=mA (rJ (ok:=(fun _=>True)) (by (with_reducible repeat first|apply rA|apply rN|apply rD);exact HO_7.out) hg hat)
                    have n1_:=mA (iW (by repeat first|(with_reducible first|exact HI0.out|apply iA|apply iN|apply iD|apply iS)|exact HI0.out) hg (iO HI0.out HO141.out (by decide)))
                    have n2_:=mA (rJ (ok:=(fun k_=>some k_≠(.slice (some ad142) x7_2.length co65:Value).ownBlock)) (by (with_reducible repeat first|apply rA|apply rN|apply rD);exact rM HL142_0.out (fun _ hk=>⟨hk.1.2,hk.2⟩)) hg hat)
                    have n3_:=mA (rJ (ok:=(fun k_=>some k_≠(.slice (some ad142) x7_2.length co65:Value).ownBlock)) (by (with_reducible repeat first|apply rA|apply rN|apply rD);exact rM HL146_0.out (fun _ hk=>⟨hk.1.2,hk.2⟩)) hg hat)
                    have n4_:=mA (bW (by repeat first|(with_reducible first|exact HB.out|apply bA|apply bN|apply bD|refine bS ?_ (iG HI0.out))|exact HB.out) HL.out hb)
                    have n5_:=mA (eT (by repeat first|(with_reducible first|exact HK.out|apply eS|apply eN|apply eD|apply eA)|exact HK.out) (eG hg g) (Kd.R_base2 HO141.out))
                    have n6_:=mA (ho)
                    clear HO_7
                    clear HI0
                    clear HL142_0
                    clear HL146_0
                    clear HB
                    clear HK
                    clear HO141
                    have HO_7:=n0_
                    have HI0:=n1_
                    have HL142_0:=n2_
                    have HL146_0:=n3_
                    have HB:=n4_
                    have HK:=n5_
                    have HO145:=n6_
                    clear n0_ n1_ n2_ n3_ n4_ n5_ n6_
                    clear ho hb hg hat
                    refine hK.out _ _ ⟨HS0_,HS1_⟩ (fun hHeld=>?_)
                    clear hK K
                    refine norm_ (a':=?_) ?_ ?_
                    rotate_left
                    ·show Act.put _ (some 79) _=_
                     simp only [Act.put,sA,sZ,sS,i64_w,i32_w]
                     rfl
                    refine one_ (i:=11) (N:=some 85) #[I,I,I,I,I,I,I,I,I,I,I,I,I,O,O,O,O,O,O] rfl rfl (one_of HT_.out (by kernel_rfl)) (by decide) (fun K hK=>?_)
                    refine Kd.R_append_rows_step k33 w.heap.size (by rfl) (.tmp 79) (.tmp 84) 34 33 (.agg #[(.int .i64 0),(.int .i64 0)]) 16 rfl Try.underlying34 info33 rfl (by decide) (by omega) v144 y143 (rd_L3 x7_2 (ji51)) _ _ _ (fun k_=>some k_≠(.slice A142_0 (rd_L3 x7_2 t124).length c142_0:Value).ownBlock∧some k_≠(.slice A146_0 (rd_L3 x7_2 (ji51)).length c146_0:Value).ownBlock) (fun _=>False) rfl rfl ?aO ?aR (fun _ _ h=>h) (fun _ h=>h.elim) ?aF (Below.refl _ _) ?aS ?aL ?_
                    (case aR=>repeat (first|exact ((rR (by (with_reducible repeat first|apply rA|apply rN|apply rD);exact HL146_0.out)).2.2)|(with_reducible refine cA ?_ _)|(with_reducible refine cN ?_ _)|(with_reducible refine cD ?_)))
                    (case aF=>exact (fun k_ hk=>⟨Kd.fresh' (rL (by (with_reducible repeat first|apply rA|apply rN|apply rD);exact HL142_0.out)) k_ hk,Kd.fresh' (rL (by (with_reducible repeat first|apply rA|apply rN|apply rD);exact HL146_0.out)) k_ hk⟩))
                    (case aO=>exact (by (with_reducible repeat first|apply rA|apply rN|apply rD);exact HO145.out))
                    (case aS=>exact (eZ (w:=w) (g:=g) (row:=none) (by repeat first|(with_reducible first|exact HK.out|apply eS|apply eN|apply eD|apply eA)|exact HK.out)))
                    (case aL=>have:=LMc54.out;omega)
                    intro v148 w72 ho hb hg hat
                    have HS0_:=cell_grown hg (hHeld.1) (by first|(rw [add_block];exact row_ne HO_7.out HO145.out (by decide) _ rfl)|(show some (Addr.add _ _).block≠_;rw [add_block];exact row_ne HO_7.out HO145.out (by decide) _ rfl)|exact row_ne HO_7.out HO145.out (by decide) _ rfl)
                    have HS1_:=cell_grown hg (hHeld.2) (by first|(rw [add_block];exact row_ne HO_7.out HO145.out (by decide) _ rfl)|(show some (Addr.add _ _).block≠_;rw [add_block];exact row_ne HO_7.out HO145.out (by decide) _ rfl)|exact row_ne HO_7.out HO145.out (by decide) _ rfl)
                    rw [←Ny147.out] at ho
                    have n0_:=mA (rJ (ok:=(fun _=>True)) (by (with_reducible repeat first|apply rA|apply rN|apply rD);exact HO_7.out) hg hat)
                    have n1_:=mA (iW (by repeat first|(with_reducible first|exact HI0.out|apply iA|apply iN|apply iD|apply iS)|exact HI0.out) hg (iO HI0.out HO145.out (by decide)))
                    have n2_:=mA (rJ (ok:=(fun k_=>some k_≠(.slice (some ad142) x7_2.length co65:Value).ownBlock)) (by (with_reducible repeat first|apply rA|apply rN|apply rD);exact HL142_0.out) hg hat)
                    have n3_:=mA (rJ (ok:=(fun k_=>some k_≠(.slice (some ad142) x7_2.length co65:Value).ownBlock)) (by (with_reducible repeat first|apply rA|apply rN|apply rD);exact HL146_0.out) hg hat)
                    have n4_:=mA (bW (by repeat first|(with_reducible first|exact HB.out|apply bA|apply bN|apply bD|refine bS ?_ (iG HI0.out))|exact HB.out) HL.out hb)
                    have n5_:=mA (eT (by repeat first|(with_reducible first|exact HK.out|apply eS|apply eN|apply eD|apply eA)|exact HK.out) (eG hg g) (Kd.R_base2 HO145.out))
                    have n6_:=mA (ho)
                    clear HO_7
                    clear HI0
                    clear HL142_0
                    clear HL146_0
                    clear HB
                    clear HK
                    clear HO145
                    have HO_7:=n0_
                    have HI0:=n1_
                    have HL142_0:=n2_
                    have HL146_0:=n3_
                    have HB:=n4_
                    have HK:=n5_
                    have HO149:=n6_
                    clear n0_ n1_ n2_ n3_ n4_ n5_ n6_
                    clear ho hb hg hat
                    refine hK.out _ _ ⟨HS0_,HS1_⟩ (fun hHeld=>?_)
                    clear hK K
                    refine norm_ (a':=?_) ?_ ?_
                    rotate_left
                    ·show Act.put _ (some 85) _=_
                     simp only [Act.put,sA,sZ,sS,i64_w,i32_w]
                     rfl
                    refine one_ (i:=13) (N:=some 87) #[I,I,I,I,I,I,I,I,I,I,I,I,I,I,O,O,O,O,O] rfl rfl (one_of HT_.out (by kernel_rfl)) (by decide) (fun K hK=>?_)
                    refine goes_ Try.func108 (by kernel_rfl) rfl #[.pointer (some ⟨g,0,none⟩),.int .i64 3] (by rfl) rfl rfl (by (try simp only [mT,mC,mN]);first|done|rfl|(simp only [lD,lT];rfl)) ?_
                    with_reducible refine (spec_l20Rd_pick.calls k2 g s0_0 t127 3 t150 t151 w0 _ ?side1 ?side2 A55.out).mono ?_
                    (case side1=>repeat first|(with_reducible first|exact HI0.out|apply iA|apply iN|apply iD|apply iS)|exact HI0.out)
                    (case side2=>repeat first|(with_reducible first|exact HB.out|apply bA|apply bN|apply bD|refine bS ?_ (iG HI0.out))|exact HB.out)
                    rintro e w73 ⟨rfl,hi,hb,hk⟩
                    have HS0_:=keep_cell hk (hHeld.1) (by first|(rw [add_block];exact Kd.own_blk (iO HI0.out HO_7.out (by decide)))|(show (Addr.add _ _).block≠_;rw [add_block];exact Kd.own_blk (iO HI0.out HO_7.out (by decide)))|exact Kd.own_blk (iO HI0.out HO_7.out (by decide)))
                    have HS1_:=keep_cell hk (hHeld.2) (by first|(rw [add_block];exact Kd.own_blk (iO HI0.out HO_7.out (by decide)))|(show (Addr.add _ _).block≠_;rw [add_block];exact Kd.own_blk (iO HI0.out HO_7.out (by decide)))|exact Kd.own_blk (iO HI0.out HO_7.out (by decide)))
                    refine ⟨_,rfl,?_⟩
                    have n0_:=mA (rM (Kd.R_keep (iP (show IsS113 w0 _ g s0_0 t127 from by repeat first|(with_reducible first|exact HI0.out|apply iA|apply iN|apply iD|apply iS)|exact HI0.out) (by (with_reducible repeat first|apply rA|apply rN|apply rD);exact HO_7.out) (by decide)) hk (fun _ h=>h.2)) (fun _ h=>h.1))
                    have n1_:=mA (rM (Kd.R_keep (iP (show IsS113 w0 _ g s0_0 t127 from by repeat first|(with_reducible first|exact HI0.out|apply iA|apply iN|apply iD|apply iS)|exact HI0.out) (by (with_reducible repeat first|apply rA|apply rN|apply rD);exact HL142_0.out) (by decide)) hk (fun _ h=>h.2)) (fun _ h=>h.1))
                    have n2_:=mA (rM (Kd.R_keep (iP (show IsS113 w0 _ g s0_0 t127 from by repeat first|(with_reducible first|exact HI0.out|apply iA|apply iN|apply iD|apply iS)|exact HI0.out) (by (with_reducible repeat first|apply rA|apply rN|apply rD);exact HL146_0.out) (by decide)) hk (fun _ h=>h.2)) (fun _ h=>h.1))
                    have n3_:=mA (rM (Kd.R_keep (iP (show IsS113 w0 _ g s0_0 t127 from by repeat first|(with_reducible first|exact HI0.out|apply iA|apply iN|apply iD|apply iS)|exact HI0.out) (by (with_reducible repeat first|apply rA|apply rN|apply rD);exact HO149.out) (by decide)) hk (fun _ h=>h.2)) (fun _ h=>h.1))
                    have n4_:=mA (eT (by repeat first|(with_reducible first|exact HK.out|apply eS|apply eN|apply eD|apply eA)|exact HK.out) hk (.inl rfl))
                    have n5_:=mA (hb)
                    have n6_:=mA (hi)
                    clear HO_7
                    clear HL142_0
                    clear HL146_0
                    clear HO149
                    clear HK
                    clear HB
                    clear HI0
                    have HO_7:=n0_
                    have HL142_0:=n1_
                    have HL146_0:=n2_
                    have HO149:=n3_
                    have HK:=n4_
                    have HB:=n5_
                    have HI0:=n6_
                    clear n0_ n1_ n2_ n3_ n4_ n5_ n6_
                    (try clear hb)
                    (try clear hb2)
                    (try clear hk)
                    (try clear hi)
                    refine hK.out _ _ ⟨HS0_,HS1_⟩ (fun hHeld=>?_)
                    clear hK K
                    refine norm_ (a':=?_) ?_ ?_
                    rotate_left
                    ·show Act.put _ (some 87) _=_
                     simp only [Act.put,sA,sZ,sS,i64_w,i32_w]
                     rfl
                    refine pure_ (i:=14) (N:=some 88) (v:=?_) (a':=?_) #[I,I,I,I,I,I,I,I,I,I,I,I,I,I,I,O,O,O,O] rfl rfl (any_of HT_.out (by kernel_rfl)) (fun _ _ _ h=>h) (Or.inl ⟨by rfl,?_⟩) ?_ ?_
                    rotate_left
                    ·intro w'
                     go_simp
                     with_reducible rfl
                    rotate_left
                    ·simp only [Act.put,sA,sZ,sS,i64_w,i32_w]
                     rfl
                    refine pure_ (i:=15) (N:=some 89) (v:=?_) (a':=?_) #[I,I,I,I,I,I,I,I,I,I,I,I,I,I,I,I,O,O,O] rfl rfl (any_of HT_.out (by kernel_rfl)) (fun _ _ _ h=>h) (Or.inl ⟨by rfl,?_⟩) ?_ ?_
                    rotate_left
                    ·intro w'
                     go_simp
                     with_reducible rfl
                    rotate_left
                    ·simp only [Act.put,sA,sZ,sS,i64_w,i32_w]
                     rfl
                    refine last_ (i:=16) (N:=some 90) #[I,I,I,I,I,I,I,I,I,I,I,I,I,I,I,I,I,O,O] rfl rfl (one_of HT_.out (by kernel_rfl)) (by decide) (fun K hK=>?_)
                    refine value_ (w1:=?_) (v:=?_) (by rfl) rfl ?_ ?_
                    rotate_left 2
                    ·go_simp
                     constructor
                     ·rfl
                     rfl
                    refine hK.out _ _ ?_
                    clear hK K
                    refine norm_ (a':=?_) ?_ ?_
                    rotate_left
                    ·show Act.put _ (some 90) _=_
                     simp only [Act.put,sA,sZ,sS,i64_w,i32_w]
                     rfl
                    refine last_ (i:=17) (N:=some 91) #[I,I,I,I,I,I,I,I,I,I,I,I,I,I,I,I,I,I,O] rfl rfl (one_of HT_.out (by kernel_rfl)) (by decide) (fun K hK=>?_)
                    refine Kd.R_append_step k33 w.heap.size (by rfl) (.tmp 85) (.tmp 90) 34 33 (.agg #[(.int .i64 0),(.int .i64 0)]) 16 rfl Try.underlying34 info33 rfl (by decide) (by omega) v148 y147 (⟨wrap64 (3+t150),0⟩:S33) [.int .i64 (wrap64 (3+t150)),.int .i64 0] (fun k_=>some k_≠(.slice A142_0 (rd_L3 x7_2 t124).length c142_0:Value).ownBlock∧some k_≠(.slice A146_0 (rd_L3 x7_2 (ji51)).length c146_0:Value).ownBlock) (fun _=>False) rfl rfl ?aP (fun _ hk=>hk.elim) ?aF ?aO (Below.refl _ _) ?aS ?aL ?_
                    (case aP=>exact k33_mkM _ _ _ (⟨wrap64 (3+t150),0⟩:S33))
                    (case aF=>exact (fun k_ hk=>⟨Kd.fresh' (rL (by (with_reducible repeat first|apply rA|apply rN|apply rD);exact HL142_0.out)) k_ hk,Kd.fresh' (rL (by (with_reducible repeat first|apply rA|apply rN|apply rD);exact HL146_0.out)) k_ hk⟩))
                    (case aO=>exact (by (with_reducible repeat first|apply rA|apply rN|apply rD);exact HO149.out))
                    (case aS=>exact (eZ (w:=w) (g:=g) (row:=none) (by repeat first|(with_reducible first|exact HK.out|apply eS|apply eN|apply eD|apply eA)|exact HK.out)))
                    (case aL=>have:=LMc56.out;omega)
                    intro v153 w74 ho hb hg hat
                    rw [←Ny152.out] at ho
                    have n0_:=mA (rJ (ok:=(fun _=>True)) (by (with_reducible repeat first|apply rA|apply rN|apply rD);exact HO_7.out) hg hat)
                    have n1_:=mA (iW (by repeat first|(with_reducible first|exact HI0.out|apply iA|apply iN|apply iD|apply iS)|exact HI0.out) hg (iO HI0.out HO149.out (by decide)))
                    have n2_:=mA (rJ (ok:=(fun k_=>some k_≠(.slice (some ad142) x7_2.length co65:Value).ownBlock)) (by (with_reducible repeat first|apply rA|apply rN|apply rD);exact HL142_0.out) hg hat)
                    have n3_:=mA (rJ (ok:=(fun k_=>some k_≠(.slice (some ad142) x7_2.length co65:Value).ownBlock)) (by (with_reducible repeat first|apply rA|apply rN|apply rD);exact HL146_0.out) hg hat)
                    have n4_:=mA (bW (by repeat first|(with_reducible first|exact HB.out|apply bA|apply bN|apply bD|refine bS ?_ (iG HI0.out))|exact HB.out) HL.out hb)
                    have n5_:=mA (eT (by repeat first|(with_reducible first|exact HK.out|apply eS|apply eN|apply eD|apply eA)|exact HK.out) (eG hg g) (Kd.R_base2 HO149.out))
                    have n6_:=mA (ho)
                    clear HO_7
                    clear HI0
                    clear HL142_0
                    clear HL146_0
                    clear HB
                    clear HK
                    clear HO149
                    have HO_7:=n0_
                    have HI0:=n1_
                    have HL142_0:=n2_
                    have HL146_0:=n3_
                    have HB:=n4_
                    have HK:=n5_
                    have HO154:=n6_
                    clear n0_ n1_ n2_ n3_ n4_ n5_ n6_
                    clear ho hb hg hat
                    refine hK.out _ _ ?_
                    clear hK K
                    refine norm_ (a':=?_) ?_ ?_
                    rotate_left
                    ·show Act.put _ (some 91) _=_
                     simp only [Act.put,sA,sZ,sS,i64_w,i32_w]
                     rfl
                    refine pure_ (i:=18) (N:=some 11) (v:=?_) (a':=?_) #[I,I,I,I,I,I,I,I,I,I,I,I,I,I,I,I,I,I,I] rfl rfl (any_of HT_.out (by kernel_rfl)) (fun _ _ _ h=>h) (Or.inl ⟨by rfl,?_⟩) ?_ ?_
                    rotate_left
                    ·intro w'
                     go_simp
                     with_reducible rfl
                    rotate_left
                    ·simp only [Act.put,sA,sZ,sS,i64_w,i32_w]
                     rfl
                    refine done_ (done_of HT_.out (by kernel_rfl)) ?_
                    try go_wp2_with (first|((with_reducible refine gate_dst (N:=92) rfl ?_);refine Kd.R_lit (Kd.slice 33 k33) _ 34 ?hg (N:=92) ?hd (xs:=([]:List (List (S33)))) (inner:=[]) (ok:=fun _=>True) (okp:=fun _=>True) ?hr ?hp (fun _ hk=>hk) trivial (Below.refl _ _) (Nat.le_refl _) (by simp) ?_;(case hd=>rfl);(case hg=>rfl);(case hr=>first|(go_simp;done)|(go_simp;rfl));(case hp=>exact (Reps.none _ _));intro v156 w75 ho76 hb hg_ hnew_;clear hg_ hnew_;(first|rw [←Ny155.out] at ho76|(simp only [Int.reduceToNat] at ho76;rw [←Ny155.out] at ho76));have n0_:=mA (rE (by (with_reducible repeat first|apply rA|apply rN|apply rD);exact HO_7.out) (Kd.R_base ho76) hb);have n1_:=mA (rB (by (with_reducible repeat first|apply rA|apply rN|apply rD);exact HL142_0.out) hb);have n2_:=mA (rB (by (with_reducible repeat first|apply rA|apply rN|apply rD);exact HL146_0.out) hb);have n3_:=mA (rB (by (with_reducible repeat first|apply rA|apply rN|apply rD);exact HO154.out) hb);have n4_:=mA (rW (rQ (rQ (rQ (rQ ho76 (rL (by (with_reducible repeat first|apply rA|apply rN|apply rD);exact HO_7.out))) (rL (by (with_reducible repeat first|apply rA|apply rN|apply rD);exact HL142_0.out))) (rL (by (with_reducible repeat first|apply rA|apply rN|apply rD);exact HL146_0.out))) (rL (by (with_reducible repeat first|apply rA|apply rN|apply rD);exact HO154.out))) (eZ (w:=w) (g:=g) (row:=none) (by repeat first|(with_reducible first|exact HK.out|apply eS|apply eN|apply eD|apply eA)|exact HK.out)));have n5_:=mA (iB (by repeat first|(with_reducible first|exact HI0.out|apply iA|apply iN|apply iD|apply iS)|exact HI0.out) hb);have n6_:=mA (eT (by repeat first|(with_reducible first|exact HK.out|apply eS|apply eN|apply eD|apply eA)|exact HK.out) (eB hb g none) (.inl rfl));have n7_:=mA (bT (by repeat first|(with_reducible first|exact HB.out|apply bA|apply bN|apply bD|refine bS ?_ (iG HI0.out))|exact HB.out) hb);clear HO_7 HL142_0 HL146_0 HO154 HI0 HK HB;have HO_7:=n0_;have HL142_0:=n1_;have HL146_0:=n2_;have HO154:=n3_;have HO157:=n4_;have HI0:=n5_;have HK:=n6_;have HB:=n7_;clear n0_ n1_ n2_ n3_ n4_ n5_ n6_ n7_ hb ho76;have q77:(t124:Int)≤((x7_2.length:Int):Int):=of_decide_eq_true (by first|with_reducible assumption|assumption);obtain ⟨i077,hi077,_,hsz77,_⟩:=info_parts info34;have hroom77:x7_2.length≤co65:=(rR HO_7.out).2.1;have hC77:Kd.C (Kd.slice 33 k33) _ (some ad142) x7_2.length x7_2:=(rR HO_7.out).2.2;have hcut77:=cut_to (P:=Try.prog) 122 34 .i64 Try.underlying122 hi077 (some ad142) x7_2.length co65 t124 (of_decide_eq_true (by first|with_reducible assumption|assumption)) q77 hroom77;have hr77:=Kd.C_take (m:=(t124:Int).toNat) hC77 (by omega);have hy77:y158.length=(t124:Int).toNat:=(by rw [Ny158.out,lT];omega);rw [←Ny158.out] at hr77;rw [←hy77] at hcut77;have HR161:=mA hr77;have HC161:=mA (show y158.length≤co65 from by omega);clear hr77 hC77 hroom77 hi077 hsz77;have KY77:=mA hy77;clear hy77;have KL77:=mA (show (t124:Int).toNat≤x7_2.length from by omega);replace q77:=eq_true q77)|((with_reducible refine gate_builtin (b:=.append) (xs:=#[.tmp 92,.tmp 95]) rfl ?_);at_builtin;refine Kd.R_append_rows (Kd.slice 33 k33) w.heap.size rfl (.tmp 92) (.tmp 95) 122 34 (.slice none 0 0) 24 rfl Try.underlying122 info34 rfl (by decide) (by omega) v156 y155 y158 _ _ _ (fun k_=>some k_≠(.slice (some ad142) x7_2.length co65:Value).ownBlock∧some k_≠(v153:Value).ownBlock) (fun k_=>(((fun k_=>some k_≠(v153:Value).ownBlock)) k_∧some k_≠(.slice (some ad142) x7_2.length co65:Value).ownBlock)∧some k_≠(v156:Value).ownBlock) rfl rfl ?aO ?aR (fun _ _ h_=>h_) (fun k_ hk=>⟨⟨hk.1.2,hk.1.1⟩,hk.2⟩) ?aF (Below.refl _ _) ?aS ?aL ?_;(case aR=>exact (rowsTake (R_rowsT (rM (ok':=(fun k_=>some k_≠(v153:Value).ownBlock)) (HO_7.out) (fun k_ hk=>hk.1.2)) (rT (by (with_reducible repeat first|apply rA|apply rN|apply rD);exact HO157.out)) (by decide)) Ny158.out));(case aF=>exact (fun k_ hk=>⟨Kd.fresh' (rL (by (with_reducible repeat first|apply rA|apply rN|apply rD);exact HO_7.out)) k_ hk,Kd.fresh' (rL (by (with_reducible repeat first|apply rA|apply rN|apply rD);exact HO154.out)) k_ hk⟩));(case aO=>exact (by (with_reducible repeat first|apply rA|apply rN|apply rD);exact rM HO157.out (fun _ hk=>⟨hk.1.1.1.2,hk.2⟩)));(case aS=>exact (eZ (w:=w) (g:=g) (row:=none) (by repeat first|(with_reducible first|exact HK.out|apply eS|apply eN|apply eD|apply eA)|exact HK.out)));(case aL=>have:=LMc59.out;omega);intro v163 w78 ho hb hg hat;rw [←Ny162.out] at ho;have n0_:=mA (rJ (ok:=(fun k_=>some k_≠(v153:Value).ownBlock)) (by (with_reducible repeat first|apply rA|apply rN|apply rD);exact rM HO_7.out (fun _ hk=>⟨hk.1.2,hk.2⟩)) hg hat);have n1_:=mA (iW (by repeat first|(with_reducible first|exact HI0.out|apply iA|apply iN|apply iD|apply iS)|exact HI0.out) hg (iO HI0.out HO157.out (by decide)));have n2_:=mA (rO (by (with_reducible repeat first|apply rA|apply rN|apply rD);exact HL142_0.out) (rT (by (with_reducible repeat first|apply rA|apply rN|apply rD);exact HO157.out)) (by decide) hg);have n3_:=mA (rO (by (with_reducible repeat first|apply rA|apply rN|apply rD);exact HL146_0.out) (rT (by (with_reducible repeat first|apply rA|apply rN|apply rD);exact HO157.out)) (by decide) hg);have n4_:=mA (rO (by (with_reducible repeat first|apply rA|apply rN|apply rD);exact HO154.out) (rT (by (with_reducible repeat first|apply rA|apply rN|apply rD);exact HO157.out)) (by decide) hg);have n5_:=mA (bW (by repeat first|(with_reducible first|exact HB.out|apply bA|apply bN|apply bD|refine bS ?_ (iG HI0.out))|exact HB.out) HL.out hb);have n6_:=mA (eT (by repeat first|(with_reducible first|exact HK.out|apply eS|apply eN|apply eD|apply eA)|exact HK.out) (eG hg g) (Kd.R_base2 HO157.out));have n7_:=mA ((show Kd.C (Kd.slice 33 k33) w78 (some ad142) y158.length y158 from by rw [Ny158.out];exact Kd.C_take (m:=(t124:Int).toNat) ((rR (rJ (ok:=(fun k_=>some k_≠(v153:Value).ownBlock)) (by (with_reducible repeat first|apply rA|apply rN|apply rD);exact rM HO_7.out (fun _ hk=>⟨hk.1.2,hk.2⟩)) hg hat)).2.2) KL77.out));have n8_:=mA (ho);clear HO_7 HI0 HL142_0 HL146_0 HO154 HB HK HR161 HO157;have HO_7:=n0_;have HI0:=n1_;have HL142_0:=n2_;have HL146_0:=n3_;have HO154:=n4_;have HB:=n5_;have HK:=n6_;have HR161:=n7_;have HO164:=n8_;clear n0_ n1_ n2_ n3_ n4_ n5_ n6_ n7_ n8_ ho hb hg hat;obtain ⟨Ao80,co80,eo80⟩:=Kd.R_slice HO154.out;subst eo80)|((with_reducible refine gate_builtin (b:=.append) (xs:=#[.tmp 97,.tmp 99]) rfl ?_);at_builtin;refine Kd.R_append (Kd.slice 33 k33) w.heap.size rfl (.tmp 97) (.tmp 99) 122 34 (.slice none 0 0) 24 rfl Try.underlying122 info34 rfl (by decide) (by omega) v163 y162 y152 [.slice Ao80 y152.length co80] (fun k_=>some k_≠(.slice (some ad142) x7_2.length co65:Value).ownBlock) (fun k_=>((fun k_=>some k_≠(.slice (some ad142) x7_2.length co65:Value).ownBlock)) k_∧some k_≠(v163:Value).ownBlock) rfl rfl ?aP (fun _ hk=>hk) ?aF ?aO (Below.refl _ _) ?aS ?aL ?_;(case aP=>exact Kd.M_row (rM (rP (rP (HO154.out) (rT HO_7.out) (by decide)) (rT HO164.out) (by decide)) (fun k_ hk=>⟨hk.1.2,hk.2⟩)));(case aF=>exact (fun k_ hk=>Kd.fresh' (rL (by (with_reducible repeat first|apply rA|apply rN|apply rD);exact HO_7.out)) k_ hk));(case aO=>exact (by (with_reducible repeat first|apply rA|apply rN|apply rD);exact rM HO164.out (fun _ hk=>hk.1)));(case aS=>exact (eZ (w:=w) (g:=g) (row:=none) (by repeat first|(with_reducible first|exact HK.out|apply eS|apply eN|apply eD|apply eA)|exact HK.out)));(case aL=>have:=LMc60.out;omega);intro v166 w79 ho hb hg hat;rw [←Ny165.out] at ho;have n0_:=mA (rJ (ok:=(fun k_=>some k_≠(.slice Ao80 y152.length co80:Value).ownBlock)) (by (with_reducible repeat first|apply rA|apply rN|apply rD);exact HO_7.out) hg hat);have n1_:=mA (iW (by repeat first|(with_reducible first|exact HI0.out|apply iA|apply iN|apply iD|apply iS)|exact HI0.out) hg (iO HI0.out HO164.out (by decide)));have n2_:=mA (rO (by (with_reducible repeat first|apply rA|apply rN|apply rD);exact HL142_0.out) (rT (by (with_reducible repeat first|apply rA|apply rN|apply rD);exact HO164.out)) (by decide) hg);have n3_:=mA (rO (by (with_reducible repeat first|apply rA|apply rN|apply rD);exact HL146_0.out) (rT (by (with_reducible repeat first|apply rA|apply rN|apply rD);exact HO164.out)) (by decide) hg);have n4_:=mA (bW (by repeat first|(with_reducible first|exact HB.out|apply bA|apply bN|apply bD|refine bS ?_ (iG HI0.out))|exact HB.out) HL.out hb);have n5_:=mA (eT (by repeat first|(with_reducible first|exact HK.out|apply eS|apply eN|apply eD|apply eA)|exact HK.out) (eG hg g) (Kd.R_base2 HO164.out));have n6_:=mA ((show Kd.C (Kd.slice 33 k33) w79 (some ad142) y158.length y158 from by rw [Ny158.out];exact Kd.C_take (m:=(t124:Int).toNat) ((rR (rJ (ok:=(fun k_=>some k_≠(.slice Ao80 y152.length co80:Value).ownBlock)) (by (with_reducible repeat first|apply rA|apply rN|apply rD);exact HO_7.out) hg hat)).2.2) KL77.out));have n7_:=mA (ho);clear HO_7 HI0 HL142_0 HL146_0 HB HK HR161 HO164 HO154;have HO_7:=n0_;have HI0:=n1_;have HL142_0:=n2_;have HL146_0:=n3_;have HB:=n4_;have HK:=n5_;have HR161:=n6_;have HO167:=n7_;clear n0_ n1_ n2_ n3_ n4_ n5_ n6_ n7_ ho hb hg hat;have q81:((ji61):Int)≤((x7_2.length:Int):Int):=of_decide_eq_true (by first|with_reducible assumption|assumption);obtain ⟨i081,hi081,_,hsz81,_⟩:=info_parts info34;have hroom81:x7_2.length≤co65:=(rR HO_7.out).2.1;have hC81:Kd.C (Kd.slice 33 k33) _ (some ad142) x7_2.length x7_2:=(rR HO_7.out).2.2;have q081:(0:Int)≤((ji61):Int):=of_decide_eq_true (by first|with_reducible assumption|assumption);have hcut81:=cut_from (P:=Try.prog) 122 34 .i64 Try.underlying122 hi081 1 hsz81 (some ad142) x7_2.length co65 (ji61) q081 q81;have hr81:=Kd.C_drop (m:=((ji61):Int).toNat) (c:=co65) hC81 (by omega) hroom81;obtain ⟨A81,hA81⟩ : ∃ A1,A1=(if co65=((ji61):Int).toNat then (some ad142) else ((some ad142):Option Addr).map (·.add (((ji61):Int).toNat*1))):=⟨_,rfl⟩;obtain ⟨c81,hc81⟩ : ∃ c1,c1=co65-((ji61):Int).toNat:=⟨_,rfl⟩;have hy81:y168.length=x7_2.length-((ji61):Int).toNat:=(by rw [Ny168.out,lD]<;>omega);rw [show (x7_2).drop ((ji61):Int).toNat=y168 from Ny168.out.symm] at hr81;replace hr81:Kd.C (Kd.slice 33 k33) _ A81 y168.length y168:=(by rw [hA81];exact hr81);rw [←hy81, ←hA81, ←hc81] at hcut81;have HR171:=mA hr81;have HC171:=mA (show y168.length≤c81 from by rw [hy81,hc81];exact Nat.sub_le_sub_right hroom81 _);clear hr81 hC81 hroom81 hi081 hsz81 hc81;have KY81:=mA hy81;have KA81:=mA hA81;clear hy81 hA81;have KL81:=mA (show ((ji61):Int).toNat≤x7_2.length from by omega);replace q81:=eq_true q81)|((with_reducible refine gate_builtin (b:=.append) (xs:=#[.tmp 101,.tmp 105]) rfl ?_);at_builtin;refine Kd.R_append_rows (Kd.slice 33 k33) w.heap.size rfl (.tmp 101) (.tmp 105) 122 34 (.slice none 0 0) 24 rfl Try.underlying122 info34 rfl (by decide) (by omega) v166 y165 y168 _ _ _ (fun k_=>some k_≠(.slice (some ad142) x7_2.length co65:Value).ownBlock) (fun k_=>(((fun _=>True)) k_∧some k_≠(.slice (some ad142) x7_2.length co65:Value).ownBlock)∧some k_≠(v166:Value).ownBlock) rfl rfl ?aO ?aR (fun _ _ h_=>h_) (fun k_ hk=>⟨hk.1.2,hk.2⟩) ?aF (Below.refl _ _) ?aS ?aL ?_;(case aR=>exact (rowsDrop (R_rowsT (rM (ok':=(fun _=>True)) (HO_7.out) (fun k_ hk=>trivial)) (rT (by (with_reducible repeat first|apply rA|apply rN|apply rD);exact HO167.out)) (by decide)) (rR (rM (ok':=(fun _=>True)) (HO_7.out) (fun k_ hk=>trivial))).2.1 Ny168.out KA81.out));(case aF=>exact (fun k_ hk=>Kd.fresh' (rL (by (with_reducible repeat first|apply rA|apply rN|apply rD);exact HO_7.out)) k_ hk));(case aO=>exact (by (with_reducible repeat first|apply rA|apply rN|apply rD);exact HO167.out));(case aS=>exact (eZ (w:=w) (g:=g) (row:=none) (by repeat first|(with_reducible first|exact HK.out|apply eS|apply eN|apply eD|apply eA)|exact HK.out)));(case aL=>have:=LMc64.out;omega);intro v173 w82 ho hb hg hat;rw [←Ny172.out] at ho;have n0_:=mA (rJ (ok:=(fun _=>True)) (by (with_reducible repeat first|apply rA|apply rN|apply rD);exact rM HO_7.out (fun _ hk=>⟨trivial,hk.2⟩)) hg hat);have n1_:=mA (iW (by repeat first|(with_reducible first|exact HI0.out|apply iA|apply iN|apply iD|apply iS)|exact HI0.out) hg (iO HI0.out HO167.out (by decide)));have n2_:=mA (rO (by (with_reducible repeat first|apply rA|apply rN|apply rD);exact HL142_0.out) (rT (by (with_reducible repeat first|apply rA|apply rN|apply rD);exact HO167.out)) (by decide) hg);have n3_:=mA (rO (by (with_reducible repeat first|apply rA|apply rN|apply rD);exact HL146_0.out) (rT (by (with_reducible repeat first|apply rA|apply rN|apply rD);exact HO167.out)) (by decide) hg);have n4_:=mA (bW (by repeat first|(with_reducible first|exact HB.out|apply bA|apply bN|apply bD|refine bS ?_ (iG HI0.out))|exact HB.out) HL.out hb);have n5_:=mA (eT (by repeat first|(with_reducible first|exact HK.out|apply eS|apply eN|apply eD|apply eA)|exact HK.out) (eG hg g) (Kd.R_base2 HO167.out));have n6_:=mA ((show Kd.C (Kd.slice 33 k33) w82 (some ad142) y158.length y158 from by rw [Ny158.out];exact Kd.C_take (m:=(t124:Int).toNat) ((rR (rJ (ok:=(fun _=>True)) (by (with_reducible repeat first|apply rA|apply rN|apply rD);exact rM HO_7.out (fun _ hk=>⟨trivial,hk.2⟩)) hg hat)).2.2) KL77.out));have n7_:=mA ((show Kd.C (Kd.slice 33 k33) w82 A81 y168.length y168 from by rw [Ny168.out,KA81.out];exact Kd.C_drop (m:=((ji61):Int).toNat) (c:=co65) ((rR (rJ (ok:=(fun _=>True)) (by (with_reducible repeat first|apply rA|apply rN|apply rD);exact rM HO_7.out (fun _ hk=>⟨trivial,hk.2⟩)) hg hat)).2.2) KL81.out ((rR (rJ (ok:=(fun _=>True)) (by (with_reducible repeat first|apply rA|apply rN|apply rD);exact rM HO_7.out (fun _ hk=>⟨trivial,hk.2⟩)) hg hat)).2.1)));have n8_:=mA (ho);clear HO_7 HI0 HL142_0 HL146_0 HB HK HR161 HR171 HO167;have HO_7:=n0_;have HI0:=n1_;have HL142_0:=n2_;have HL146_0:=n3_;have HB:=n4_;have HK:=n5_;have HR161:=n6_;have HR171:=n7_;have HO174:=n8_;clear n0_ n1_ n2_ n3_ n4_ n5_ n6_ n7_ n8_ ho hb hg hat))
                    go_roundg k2
                    case measure=>have:=HK1.out;have:=HK2.out;omega
                    case rel=>exact ⟨(y172),(x9_2),(t151),(by first|rfl|(simp;done)|(simp [*];done)),H',⟨by have:=HK1.out;have:=HK2.out;omega⟩,⟨by (with_reducible repeat first|apply rA|apply rN|apply rD);exact rM HO174.out (fun _ hk=>trivial)⟩,⟨by repeat (first|(with_reducible first|exact HI0.out|apply iA|apply iN|apply iD|apply iS)|exact HI0.out)⟩,⟨by repeat (first|(with_reducible first|exact HK.out|apply eS|apply eN|apply eD|apply eA)|exact HK.out)⟩,⟨by repeat (first|(with_reducible first|exact HB.out|apply bA|apply bN|apply bD|refine bS ?_ (iG HI0.out))|exact HB.out)⟩⟩
                   rw [if_neg c64] at H
                   exact absurd H (by simp)
                  rw [if_neg c63] at H
                  exact absurd H (by simp)
                 rw [if_neg c62] at H
                 exact absurd H (by simp)
                rw [if_neg c60] at H
                exact absurd H (by simp)
               rw [if_neg c59] at H
               exact absurd H (by simp)
              rw [if_neg c58] at H
              exact absurd H (by simp)
             rw [if_neg c56] at H
             exact absurd H (by simp)
            rw [if_neg c54] at H
            exact absurd H (by simp)
           rw [if_neg c53] at H
           exact absurd H (by simp)
          rw [if_neg c52] at H
          exact absurd H (by simp)
         rw [if_neg c50] at H
         exact absurd H (by simp)
        rw [if_neg c49] at H
        exact absurd H (by simp)
       rw [if_neg c48] at H
       exact absurd H (by simp)
      rw [if_neg c31] at H
      have c31b0:decide (0<x9_2)=false:=decide_eq_false c31
      clear c31
      obtain ⟨y175,hy175⟩ : ∃ y_:List (S33),y_=(([]:List (S33))):=⟨_,rfl⟩
      replace H:(if 0≤t124 then (if t124<(x7_2.length:Int) then (if y175.length+(rd_L3 x7_2 t124).length<8796093022208 then ((some (y175++(rd_L3 x7_2 t124):List (S33))).bind fun y179=>(if 0≤(wrap64 (t124+1)) then (if (wrap64 (t124+1))<(x7_2.length:Int) then (if y179.length+(rd_L3 x7_2 (wrap64 (t124+1))).length<8796093022208 then ((some (y179++(rd_L3 x7_2 (wrap64 (t124+1))):List (S33))).bind fun y183=>((spec_l20Rd_pick.f k2 s0_0 t125 3).bind fun bt186=>(if y183.length<8796093022208 then ((some (([]:List (List (S33))):List (List (S33)))).bind fun y191=>(if t124≤(x7_2.length:Int) then ((some (x7_2.take (t124:Int).toNat:List (List (S33)))).bind fun y194=>(if y191.length+y194.length<5864062014805 then ((some (y191++y194:List (List (S33)))).bind fun y198=>(if y198.length<5864062014805 then ((some (y198++[(y183++[(⟨wrap64 (3+bt186.1),0⟩:S33)])]:List (List (S33)))).bind fun y201=>(if 0≤(wrap64 (t124+2)) then (if (wrap64 (t124+2))≤(x7_2.length:Int) then ((some (x7_2.drop ((wrap64 (t124+2)):Int).toNat:List (List (S33)))).bind fun y204=>(if y201.length+y204.length<5864062014805 then (spec_l20Term.l1 k2 a2 (y201++y204) x9_2 s0_0 bt186.2) else (none))) else (none)) else (none))) else (none))) else (none))) else (none))) else (none)))) else (none)) else (none)) else (none))) else (none)) else (none)) else (none))=some (r1,r2):=by first|(rw [hy175];with_reducible exact H)|(have H2_:=(Option.bind_some _ _).symm.trans H;rw [hy175];with_reducible exact H2_)|(have H2_:=(Option.bind_some _ _).symm.trans H;with_reducible exact H2_)|with_reducible exact H|(rw [hy175];exact H)|exact H
      have Ny175:=mA hy175
      clear hy175
      by_cases c83:0≤t124
      ·rw [if_pos c83] at H
       have c83b0:decide (0≤t124)=true:=decide_eq_true c83
       clear c83
       by_cases c84:t124<(x7_2.length:Int)
       ·rw [if_pos c84] at H
        have c84b0:decide (t124<(x7_2.length:Int))=true:=decide_eq_true c84
        clear c84
        by_cases c85:y175.length+(rd_L3 x7_2 t124).length<8796093022208
        ·rw [if_pos c85] at H
         have LMc85:=mA c85
         clear c85
         obtain ⟨y179,hy179⟩ : ∃ y_:List (S33),y_=(y175++(rd_L3 x7_2 t124)):=⟨_,rfl⟩
         replace H:(if 0≤(wrap64 (t124+1)) then (if (wrap64 (t124+1))<(x7_2.length:Int) then (if y179.length+(rd_L3 x7_2 (wrap64 (t124+1))).length<8796093022208 then ((some (y179++(rd_L3 x7_2 (wrap64 (t124+1))):List (S33))).bind fun y183=>((spec_l20Rd_pick.f k2 s0_0 t125 3).bind fun bt186=>(if y183.length<8796093022208 then ((some (([]:List (List (S33))):List (List (S33)))).bind fun y191=>(if t124≤(x7_2.length:Int) then ((some (x7_2.take (t124:Int).toNat:List (List (S33)))).bind fun y194=>(if y191.length+y194.length<5864062014805 then ((some (y191++y194:List (List (S33)))).bind fun y198=>(if y198.length<5864062014805 then ((some (y198++[(y183++[(⟨wrap64 (3+bt186.1),0⟩:S33)])]:List (List (S33)))).bind fun y201=>(if 0≤(wrap64 (t124+2)) then (if (wrap64 (t124+2))≤(x7_2.length:Int) then ((some (x7_2.drop ((wrap64 (t124+2)):Int).toNat:List (List (S33)))).bind fun y204=>(if y201.length+y204.length<5864062014805 then (spec_l20Term.l1 k2 a2 (y201++y204) x9_2 s0_0 bt186.2) else (none))) else (none)) else (none))) else (none))) else (none))) else (none))) else (none)))) else (none)) else (none)) else (none))=some (r1,r2):=by first|(rw [hy179];with_reducible exact H)|(have H2_:=(Option.bind_some _ _).symm.trans H;rw [hy179];with_reducible exact H2_)|(have H2_:=(Option.bind_some _ _).symm.trans H;with_reducible exact H2_)|with_reducible exact H|(rw [hy179];exact H)|exact H
         have Ny179:=mA hy179
         clear hy179
         obtain ⟨ji86,hji86⟩ : ∃ j_:Int,(wrap64 (t124+1))=j_:=⟨_,rfl⟩
         replace H:(if 0≤(ji86) then (if (ji86)<(x7_2.length:Int) then (if y179.length+(rd_L3 x7_2 (ji86)).length<8796093022208 then ((some (y179++(rd_L3 x7_2 (ji86)):List (S33))).bind fun y183=>((spec_l20Rd_pick.f k2 s0_0 t125 3).bind fun bt186=>(if y183.length<8796093022208 then ((some (([]:List (List (S33))):List (List (S33)))).bind fun y191=>(if t124≤(x7_2.length:Int) then ((some (x7_2.take (t124:Int).toNat:List (List (S33)))).bind fun y194=>(if y191.length+y194.length<5864062014805 then ((some (y191++y194:List (List (S33)))).bind fun y198=>(if y198.length<5864062014805 then ((some (y198++[(y183++[(⟨wrap64 (3+bt186.1),0⟩:S33)])]:List (List (S33)))).bind fun y201=>(if 0≤(wrap64 (t124+2)) then (if (wrap64 (t124+2))≤(x7_2.length:Int) then ((some (x7_2.drop ((wrap64 (t124+2)):Int).toNat:List (List (S33)))).bind fun y204=>(if y201.length+y204.length<5864062014805 then (spec_l20Term.l1 k2 a2 (y201++y204) x9_2 s0_0 bt186.2) else (none))) else (none)) else (none))) else (none))) else (none))) else (none))) else (none)))) else (none)) else (none)) else (none))=some (r1,r2):=by first|(rw [hji86] at H;exact H)|(simp only [hji86] at H ⊢;exact H)
         (try rw [hji86] at A30)
         have hji86w:(IntKind.i64.wrap (t124+1))=ji86:=(i64_w _).trans hji86
         by_cases c87:0≤(ji86)
         ·rw [if_pos c87] at H
          have c87b0:decide (0≤(ji86))=true:=decide_eq_true c87
          clear c87
          by_cases c88:(ji86)<(x7_2.length:Int)
          ·rw [if_pos c88] at H
           have c88b0:decide ((ji86)<(x7_2.length:Int))=true:=decide_eq_true c88
           clear c88
           by_cases c89:y179.length+(rd_L3 x7_2 (ji86)).length<8796093022208
           ·rw [if_pos c89] at H
            have LMc89:=mA c89
            clear c89
            obtain ⟨y183,hy183⟩ : ∃ y_:List (S33),y_=(y179++(rd_L3 x7_2 (ji86))):=⟨_,rfl⟩
            replace H:((spec_l20Rd_pick.f k2 s0_0 t125 3).bind fun bt186=>(if y183.length<8796093022208 then ((some (([]:List (List (S33))):List (List (S33)))).bind fun y191=>(if t124≤(x7_2.length:Int) then ((some (x7_2.take (t124:Int).toNat:List (List (S33)))).bind fun y194=>(if y191.length+y194.length<5864062014805 then ((some (y191++y194:List (List (S33)))).bind fun y198=>(if y198.length<5864062014805 then ((some (y198++[(y183++[(⟨wrap64 (3+bt186.1),0⟩:S33)])]:List (List (S33)))).bind fun y201=>(if 0≤(wrap64 (t124+2)) then (if (wrap64 (t124+2))≤(x7_2.length:Int) then ((some (x7_2.drop ((wrap64 (t124+2)):Int).toNat:List (List (S33)))).bind fun y204=>(if y201.length+y204.length<5864062014805 then (spec_l20Term.l1 k2 a2 (y201++y204) x9_2 s0_0 bt186.2) else (none))) else (none)) else (none))) else (none))) else (none))) else (none))) else (none)))=some (r1,r2):=by first|(rw [hy183];with_reducible exact H)|(have H2_:=(Option.bind_some _ _).symm.trans H;rw [hy183];with_reducible exact H2_)|(have H2_:=(Option.bind_some _ _).symm.trans H;with_reducible exact H2_)|with_reducible exact H|(rw [hy183];exact H)|exact H
            have Ny183:=mA hy183
            clear hy183
            replace H:=Option.bind_eq_some_iff.mp H
            obtain ⟨⟨t186,t187⟩,A900,H⟩:=H
            replace H:(if y183.length<8796093022208 then ((some (([]:List (List (S33))):List (List (S33)))).bind fun y191=>(if t124≤(x7_2.length:Int) then ((some (x7_2.take (t124:Int).toNat:List (List (S33)))).bind fun y194=>(if y191.length+y194.length<5864062014805 then ((some (y191++y194:List (List (S33)))).bind fun y198=>(if y198.length<5864062014805 then ((some (y198++[(y183++[(⟨wrap64 (3+t186),0⟩:S33)])]:List (List (S33)))).bind fun y201=>(if 0≤(wrap64 (t124+2)) then (if (wrap64 (t124+2))≤(x7_2.length:Int) then ((some (x7_2.drop ((wrap64 (t124+2)):Int).toNat:List (List (S33)))).bind fun y204=>(if y201.length+y204.length<5864062014805 then (spec_l20Term.l1 k2 a2 (y201++y204) x9_2 s0_0 t187) else (none))) else (none)) else (none))) else (none))) else (none))) else (none))) else (none))=some (r1,r2):=H
            have A90:=mA A900
            clear A900
            by_cases c91:y183.length<8796093022208
            ·rw [if_pos c91] at H
             have LMc91:=mA c91
             clear c91
             obtain ⟨y188,hy188⟩ : ∃ y_:List (S33),y_=(y183++[(⟨wrap64 (3+t186),0⟩:S33)]):=⟨_,rfl⟩
             replace H:((some (([]:List (List (S33))):List (List (S33)))).bind fun y191=>(if t124≤(x7_2.length:Int) then ((some (x7_2.take (t124:Int).toNat:List (List (S33)))).bind fun y194=>(if y191.length+y194.length<5864062014805 then ((some (y191++y194:List (List (S33)))).bind fun y198=>(if y198.length<5864062014805 then ((some (y198++[y188]:List (List (S33)))).bind fun y201=>(if 0≤(wrap64 (t124+2)) then (if (wrap64 (t124+2))≤(x7_2.length:Int) then ((some (x7_2.drop ((wrap64 (t124+2)):Int).toNat:List (List (S33)))).bind fun y204=>(if y201.length+y204.length<5864062014805 then (spec_l20Term.l1 k2 a2 (y201++y204) x9_2 s0_0 t187) else (none))) else (none)) else (none))) else (none))) else (none))) else (none)))=some (r1,r2):=by first|(rw [hy188];with_reducible exact H)|(have H2_:=(Option.bind_some _ _).symm.trans H;rw [hy188];with_reducible exact H2_)|(have H2_:=(Option.bind_some _ _).symm.trans H;with_reducible exact H2_)|with_reducible exact H|(rw [hy188];exact H)|exact H
             have Ny188:=mA hy188
             clear hy188
             obtain ⟨y191,hy191⟩ : ∃ y_:List (List (S33)),y_=(([]:List (List (S33)))):=⟨_,rfl⟩
             replace H:(if t124≤(x7_2.length:Int) then ((some (x7_2.take (t124:Int).toNat:List (List (S33)))).bind fun y194=>(if y191.length+y194.length<5864062014805 then ((some (y191++y194:List (List (S33)))).bind fun y198=>(if y198.length<5864062014805 then ((some (y198++[y188]:List (List (S33)))).bind fun y201=>(if 0≤(wrap64 (t124+2)) then (if (wrap64 (t124+2))≤(x7_2.length:Int) then ((some (x7_2.drop ((wrap64 (t124+2)):Int).toNat:List (List (S33)))).bind fun y204=>(if y201.length+y204.length<5864062014805 then (spec_l20Term.l1 k2 a2 (y201++y204) x9_2 s0_0 t187) else (none))) else (none)) else (none))) else (none))) else (none))) else (none))=some (r1,r2):=by first|(rw [hy191];with_reducible exact H)|(have H2_:=(Option.bind_some _ _).symm.trans H;rw [hy191];with_reducible exact H2_)|(have H2_:=(Option.bind_some _ _).symm.trans H;with_reducible exact H2_)|with_reducible exact H|(rw [hy191];exact H)|exact H
             have Ny191:=mA hy191
             clear hy191
             have c92b0:=eq_true (of_decide_eq_true (by first|with_reducible assumption|assumption):0≤t124)
             by_cases c93:t124≤(x7_2.length:Int)
             ·rw [if_pos c93] at H
              have c93b0:=eq_true c93
              have c93b1:decide (t124≤(x7_2.length:Int))=true:=decide_eq_true c93
              clear c93
              obtain ⟨y194,hy194⟩ : ∃ y_:List (List (S33)),y_=(x7_2.take (t124:Int).toNat):=⟨_,rfl⟩
              replace H:(if y191.length+y194.length<5864062014805 then ((some (y191++y194:List (List (S33)))).bind fun y198=>(if y198.length<5864062014805 then ((some (y198++[y188]:List (List (S33)))).bind fun y201=>(if 0≤(wrap64 (t124+2)) then (if (wrap64 (t124+2))≤(x7_2.length:Int) then ((some (x7_2.drop ((wrap64 (t124+2)):Int).toNat:List (List (S33)))).bind fun y204=>(if y201.length+y204.length<5864062014805 then (spec_l20Term.l1 k2 a2 (y201++y204) x9_2 s0_0 t187) else (none))) else (none)) else (none))) else (none))) else (none))=some (r1,r2):=by first|(rw [hy194];with_reducible exact H)|(have H2_:=(Option.bind_some _ _).symm.trans H;rw [hy194];with_reducible exact H2_)|(have H2_:=(Option.bind_some _ _).symm.trans H;with_reducible exact H2_)|with_reducible exact H|(rw [hy194];exact H)|exact H
              have Ny194:=mA hy194
              clear hy194
              by_cases c94:y191.length+y194.length<5864062014805
              ·rw [if_pos c94] at H
               have LMc94:=mA c94
               clear c94
               obtain ⟨y198,hy198⟩ : ∃ y_:List (List (S33)),y_=(y191++y194):=⟨_,rfl⟩
               replace H:(if y198.length<5864062014805 then ((some (y198++[y188]:List (List (S33)))).bind fun y201=>(if 0≤(wrap64 (t124+2)) then (if (wrap64 (t124+2))≤(x7_2.length:Int) then ((some (x7_2.drop ((wrap64 (t124+2)):Int).toNat:List (List (S33)))).bind fun y204=>(if y201.length+y204.length<5864062014805 then (spec_l20Term.l1 k2 a2 (y201++y204) x9_2 s0_0 t187) else (none))) else (none)) else (none))) else (none))=some (r1,r2):=by first|(rw [hy198];with_reducible exact H)|(have H2_:=(Option.bind_some _ _).symm.trans H;rw [hy198];with_reducible exact H2_)|(have H2_:=(Option.bind_some _ _).symm.trans H;with_reducible exact H2_)|with_reducible exact H|(rw [hy198];exact H)|exact H
               have Ny198:=mA hy198
               clear hy198
               by_cases c95:y198.length<5864062014805
               ·rw [if_pos c95] at H
                have LMc95:=mA c95
                clear c95
                obtain ⟨y201,hy201⟩ : ∃ y_:List (List (S33)),y_=(y198++[y188]):=⟨_,rfl⟩
                replace H:(if 0≤(wrap64 (t124+2)) then (if (wrap64 (t124+2))≤(x7_2.length:Int) then ((some (x7_2.drop ((wrap64 (t124+2)):Int).toNat:List (List (S33)))).bind fun y204=>(if y201.length+y204.length<5864062014805 then (spec_l20Term.l1 k2 a2 (y201++y204) x9_2 s0_0 t187) else (none))) else (none)) else (none))=some (r1,r2):=by first|(rw [hy201];with_reducible exact H)|(have H2_:=(Option.bind_some _ _).symm.trans H;rw [hy201];with_reducible exact H2_)|(have H2_:=(Option.bind_some _ _).symm.trans H;with_reducible exact H2_)|with_reducible exact H|(rw [hy201];exact H)|exact H
                have Ny201:=mA hy201
                clear hy201
                obtain ⟨ji96,hji96⟩ : ∃ j_:Int,(wrap64 (t124+2))=j_:=⟨_,rfl⟩
                replace H:(if 0≤(ji96) then (if (ji96)≤(x7_2.length:Int) then ((some (x7_2.drop ((ji96):Int).toNat:List (List (S33)))).bind fun y204=>(if y201.length+y204.length<5864062014805 then (spec_l20Term.l1 k2 a2 (y201++y204) x9_2 s0_0 t187) else (none))) else (none)) else (none))=some (r1,r2):=by first|(rw [hji96] at H;exact H)|(simp only [hji96] at H ⊢;exact H)
                (try rw [hji96] at A30)
                (try rw [hji96] at A90)
                have hji96w:(IntKind.i64.wrap (t124+2))=ji96:=(i64_w _).trans hji96
                by_cases c97:0≤(ji96)
                ·rw [if_pos c97] at H
                 have c97b0:=eq_true c97
                 have c97b1:decide (0≤(ji96))=true:=decide_eq_true c97
                 clear c97
                 by_cases c98:(ji96)≤(x7_2.length:Int)
                 ·rw [if_pos c98] at H
                  have c98b0:=eq_true c98
                  have c98b1:decide ((ji96)≤(x7_2.length:Int))=true:=decide_eq_true c98
                  clear c98
                  obtain ⟨y204,hy204⟩ : ∃ y_:List (List (S33)),y_=(x7_2.drop ((ji96):Int).toNat):=⟨_,rfl⟩
                  replace H:(if y201.length+y204.length<5864062014805 then (spec_l20Term.l1 k2 a2 (y201++y204) x9_2 s0_0 t187) else (none))=some (r1,r2):=by first|(rw [hy204];with_reducible exact H)|(have H2_:=(Option.bind_some _ _).symm.trans H;rw [hy204];with_reducible exact H2_)|(have H2_:=(Option.bind_some _ _).symm.trans H;with_reducible exact H2_)|with_reducible exact H|(rw [hy204];exact H)|exact H
                  have Ny204:=mA hy204
                  clear hy204
                  by_cases c99:y201.length+y204.length<5864062014805
                  ·rw [if_pos c99] at H
                   have LMc99:=mA c99
                   clear c99
                   obtain ⟨y208,hy208⟩ : ∃ y_:List (List (S33)),y_=(y201++y204):=⟨_,rfl⟩
                   replace H:(spec_l20Term.l1 k2 a2 y208 x9_2 s0_0 t187)=some (r1,r2):=by first|(rw [hy208];with_reducible exact H)|(have H2_:=(Option.bind_some _ _).symm.trans H;rw [hy208];with_reducible exact H2_)|(have H2_:=(Option.bind_some _ _).symm.trans H;with_reducible exact H2_)|with_reducible exact H|(rw [hy208];exact H)|exact H
                   have Ny208:=mA hy208
                   clear hy208
                   have H':=mA H
                   clear H
                   obtain ⟨Ao100,co100,eo100⟩:=Kd.R_slice HO_7.out
                   subst eo100
                   try go_wp2_with (first|((with_reducible refine gate_callee (f:=108) rfl ?_);refine goesL_ (some 52) rfl rfl Try.func108 (by kernel_rfl) rfl #[.pointer (some ⟨g,0,none⟩),.int .i64 (wrap64 ((x7_2.length:Int)-1))] rfl (by (try simp only [mT,mC,mN]);first|done|rfl|(simp only [lD,lT];rfl)) ?_;(with_reducible refine (spec_l20Rd_pick.calls k2 g s0_0 x1001_2 (wrap64 ((x7_2.length:Int)-1)) t124 t125 w0 _ ?side1 ?side2 A30.out).mono ?_);(case side1=>repeat first|(with_reducible first|exact HI0.out|apply iA|apply iN|apply iD|apply iS)|exact HI0.out);(case side2=>repeat first|(with_reducible first|exact HB.out|apply bA|apply bN|apply bD|refine bS ?_ (iG HI0.out))|exact HB.out);rintro e w101 ⟨rfl,hi,hb,hk⟩;refine ⟨_,rfl,?_⟩;have n0_:=mA (rM (Kd.R_keep (iP (show IsS113 w0 _ g s0_0 x1001_2 from by repeat first|(with_reducible first|exact HI0.out|apply iA|apply iN|apply iD|apply iS)|exact HI0.out) (by (with_reducible repeat first|apply rA|apply rN|apply rD);exact HO_7.out) (by decide)) hk (fun _ h=>h.2)) (fun _ h=>h.1));have n1_:=mA (eT (by repeat first|(with_reducible first|exact HK.out|apply eS|apply eN|apply eD|apply eA)|exact HK.out) hk (.inl rfl));have n2_:=mA (hb);have n3_:=mA (hi);clear HO_7 HK HB HI0;have HO_7:=n0_;have HK:=n1_;have HB:=n2_;have HI0:=n3_;clear n0_ n1_ n2_ n3_;(try clear hb);(try clear hb2);(try clear hk);(try clear hi)))
                   have n0_:=mA (rD HO_7.out)
                   have n1_:=mA (iD HI0.out)
                   have n2_:=mA (eD HK.out)
                   have n3_:=mA (bD HB.out)
                   clear HO_7
                   clear HI0
                   clear HK
                   clear HB
                   have HO_7:=n0_
                   have HI0:=n1_
                   have HK:=n2_
                   have HB:=n3_
                   clear n0_ n1_ n2_ n3_
                   have p178:0≤(t124:Int):=of_decide_eq_true (by first|with_reducible assumption|assumption)
                   have q178:t124<(x7_2.length:Int):=of_decide_eq_true (by first|with_reducible assumption|assumption)
                   obtain ⟨ad178,A178_0,c178_0,e178,hx178_0,hl178_0,hi178_0⟩:=at_L3 (rR HO_7.out).2.2 t124 p178 q178
                   cases e178
                   obtain ⟨ce178,hce178,hMe178,hcc178⟩:=Kd.R_get HO_7.out [] t124 p178 (by first|exact q178|exact of_decide_eq_true (by first|with_reducible assumption|assumption)|(have e_:=(rR HO_7.out).1;omega))
                   obtain ⟨ve178_0,rfl,ge178_0⟩:=hMe178
                   have hv178_0:=hcc178 0 _ rfl
                   rw [Nat.add_zero,show ((Kd.slice 33 k33)).sz=1 from rfl,Nat.mul_one] at hv178_0
                   replace hv178_0:=Option.some.inj (hv178_0.symm.trans hx178_0)
                   rw [hv178_0] at ge178_0
                   have HL178_0:=mA (show Kd.R k33 33 _ _ _ _ (rd_L3 x7_2 t124) from ge178_0)
                   clear hv178_0 ge178_0
                   clear hcc178 hce178
                   have HR178_0:=mA hi178_0
                   have HC178_0:=mA hl178_0
                   clear hi178_0 hl178_0
                   replace p178:=eq_true p178
                   replace q178:=eq_true q178
                   have p182:0≤((ji86):Int):=of_decide_eq_true (by first|with_reducible assumption|assumption)
                   have q182:(ji86)<(x7_2.length:Int):=of_decide_eq_true (by first|with_reducible assumption|assumption)
                   obtain ⟨ad182,A182_0,c182_0,e182,hx182_0,hl182_0,hi182_0⟩:=at_L3 (rR HO_7.out).2.2 (ji86) p182 q182
                   obtain rfl:ad178=ad182:=(by injection e182)
                   obtain ⟨ce182,hce182,hMe182,hcc182⟩:=Kd.R_get HO_7.out [] (ji86) p182 (by first|exact q182|exact of_decide_eq_true (by first|with_reducible assumption|assumption)|(have e_:=(rR HO_7.out).1;omega))
                   obtain ⟨ve182_0,rfl,ge182_0⟩:=hMe182
                   have hv182_0:=hcc182 0 _ rfl
                   rw [Nat.add_zero,show ((Kd.slice 33 k33)).sz=1 from rfl,Nat.mul_one] at hv182_0
                   replace hv182_0:=Option.some.inj (hv182_0.symm.trans hx182_0)
                   rw [hv182_0] at ge182_0
                   have HL182_0:=mA (show Kd.R k33 33 _ _ _ _ (rd_L3 x7_2 (ji86)) from ge182_0)
                   clear hv182_0 ge182_0
                   clear hcc182 hce182
                   have HR182_0:=mA hi182_0
                   have HC182_0:=mA hl182_0
                   clear hi182_0 hl182_0
                   replace p182:=eq_true p182
                   replace q182:=eq_true q182
                   refine start_ (n:=19) (S:=fun w'=>w'.cell? (ad178.add (t124).toNat)=some (.slice A178_0 (rd_L3 x7_2 t124).length c178_0)∧w'.cell? (ad178.add ((ji86)).toNat)=some (.slice A182_0 (rd_L3 x7_2 (ji86)).length c182_0)) (ds:=[16,17]) #[O,O,O,O,O,O,O,O,O,O,O,O,O,O,O,O,O,O,O] (by kernel_rfl) rfl rfl ⟨hx178_0,hx182_0⟩ (fun hHeld=>?_);refine with_tabW spec_l20Term.tab15 spec_l20Term.bits15 (fun HT_ HW_=>?_)
                   generalize w101.drew=w102 at HO_7 HI0 HK HB HL178_0 HL182_0 HR178_0 HR182_0 hx178_0 hx182_0 hHeld ⊢
                   refine pure_ (i:=1) (N:=some 75) (v:=?_) (a':=?_) #[O,I,O,O,O,O,O,O,O,O,O,O,O,O,O,O,O,O,O] rfl rfl (any_of HT_.out (by kernel_rfl)) (fun _ _ _ h=>h) (Or.inl ⟨by rfl,?_⟩) ?_ ?_
                   rotate_left
                   ·intro w'
                    go_simp
                    with_reducible rfl
                   rotate_left
                   ·simp only [Act.put,sA,sZ,sS,i64_w,i32_w]
                    rfl
                   refine pure_ (i:=2) (N:=some 76) (v:=?_) (a':=?_) #[O,I,I,O,O,O,O,O,O,O,O,O,O,O,O,O,O,O,O] rfl rfl (any_of HT_.out (by kernel_rfl)) (fun _ _ _ h=>h) (Or.inl ⟨by rfl,?_⟩) ?_ ?_
                   rotate_left
                   ·intro w'
                    go_simp
                    with_reducible rfl
                   rotate_left
                   ·simp only [Act.put,sA,sZ,sS,i64_w,i32_w]
                    rfl
                   refine pure_ (i:=3) (N:=some 77) (v:=?_) (a':=?_) #[O,I,I,I,O,O,O,O,O,O,O,O,O,O,O,O,O,O,O] rfl rfl (any_of HT_.out (by kernel_rfl)) (fun _ _ _ h=>h) (Or.inl ⟨by rfl,?_⟩) ?_ ?_
                   rotate_left
                   ·intro w'
                    go_simp
                    with_reducible rfl
                   rotate_left
                   ·simp only [Act.put,sA,sZ,sS,i64_w,i32_w]
                    rfl
                   refine pure_ (i:=6) (N:=some 80) (v:=?_) (a':=?_) #[O,I,I,I,O,O,I,O,O,O,O,O,O,O,O,O,O,O,O] rfl rfl (any_of HT_.out (by kernel_rfl)) (fun _ _ _ h=>h) (Or.inl ⟨by rfl,?_⟩) ?_ ?_
                   rotate_left
                   ·intro w'
                    go_simp
                    with_reducible rfl
                   rotate_left
                   ·simp only [Act.put,sA,sZ,sS,i64_w,i32_w]
                    rfl
                   refine pure_ (i:=7) (N:=some 81) (v:=?_) (a':=?_) #[O,I,I,I,O,O,I,I,O,O,O,O,O,O,O,O,O,O,O] rfl rfl (any_of HT_.out (by kernel_rfl)) (fun _ _ _ h=>h) (Or.inl ⟨by rfl,?_⟩) ?_ ?_
                   rotate_left
                   ·intro w'
                    go_simp
                    with_reducible rfl
                   rotate_left
                   ·simp only [Act.put,sA,sZ,sS,i64_w,i32_w]
                    rfl
                   refine pure_ (i:=8) (N:=some 82) (v:=?_) (a':=?_) #[O,I,I,I,O,O,I,I,I,O,O,O,O,O,O,O,O,O,O] rfl rfl (any_of HT_.out (by kernel_rfl)) (fun _ _ _ h=>h) (Or.inl ⟨by rfl,?_⟩) ?_ ?_
                   rotate_left
                   ·intro w'
                    go_simp
                    with_reducible rfl
                   rotate_left
                   ·simp only [Act.put,sA,sZ,sS,i64_w,i32_w]
                    rfl
                   refine pure_ (i:=9) (N:=some 83) (v:=?_) (a':=?_) #[O,I,I,I,O,O,I,I,I,I,O,O,O,O,O,O,O,O,O] rfl rfl (any_of HT_.out (by kernel_rfl)) (fun _ _ _ h=>h) (Or.inl ⟨by rfl,?_⟩) ?_ ?_
                   rotate_left
                   ·intro w'
                    go_simp
                    with_reducible rfl
                   rotate_left
                   ·simp only [Act.put,sA,sZ,sS,i64_w,i32_w]
                    rfl
                   refine pure_ (i:=12) (N:=some 86) (v:=?_) (a':=?_) #[O,I,I,I,O,O,I,I,I,I,O,O,I,O,O,O,O,O,O] rfl rfl (any_of HT_.out (by kernel_rfl)) (fun _ _ _ h=>h) (Or.inl ⟨by rfl,?_⟩) ?_ ?_
                   rotate_left
                   ·intro w'
                    go_simp
                    with_reducible rfl
                   rotate_left
                   ·simp only [Act.put,sA,sZ,sS,i64_w,i32_w]
                    rfl
                   refine take_ (i:=4) (N:=some 78) (v:=?_) (a':=?_) #[O,I,I,I,I,O,I,I,I,I,O,O,I,O,O,O,O,O,O] rfl rfl (take_ofW HT_.out HW_.out (by kernel_rfl)) (fun _ _ _ h=>h) (Or.inl ⟨by rfl,?_⟩) hHeld ?_ ?_
                   rotate_left
                   ·rintro w' ⟨s0,s1⟩
                    go_simp
                    with_reducible rfl
                   rotate_left
                   ·simp only [Act.put,sA,sZ,sS,i64_w,i32_w]
                    rfl
                   refine take_ (i:=10) (N:=some 84) (v:=?_) (a':=?_) #[O,I,I,I,I,O,I,I,I,I,I,O,I,O,O,O,O,O,O] rfl rfl (take_ofW HT_.out HW_.out (by kernel_rfl)) (fun _ _ _ h=>h) (Or.inl ⟨by rfl,?_⟩) hHeld ?_ ?_
                   rotate_left
                   ·rintro w' ⟨s0,s1⟩
                    go_simp
                    with_reducible rfl
                   rotate_left
                   ·simp only [Act.put,sA,sZ,sS,i64_w,i32_w]
                    rfl
                   refine one_ (i:=0) (N:=some 74) #[I,I,I,I,I,O,I,I,I,I,I,O,I,O,O,O,O,O,O] rfl rfl (one_of HT_.out (by kernel_rfl)) (by decide) (fun K hK=>?_)
                   refine Kd.R_lit_step k33 _ 33 ?hg (N:=74) ?hd (xs:=([]:List (S33))) (inner:=[]) (ok:=fun _=>True) (okp:=fun _=>True) ?hr ?hp (fun _ hk=>hk) trivial (Below.refl _ _) (Nat.le_refl _) (by simp) ?_;(case hd=>rfl);(case hg=>rfl);(case hr=>first|(go_simp;done)|(go_simp;rfl));(case hp=>exact (Reps.none _ _))
                   intro v176 w103 ho104 hb hg_ hnew_
                   have HS0_:=(hb.cell (World.block_lt_of_cell? _ _ (hHeld.1))).trans (hHeld.1)
                   have HS1_:=(hb.cell (World.block_lt_of_cell? _ _ (hHeld.2))).trans (hHeld.2)
                   clear hg_ hnew_
                   (first|rw [←Ny175.out] at ho104|(simp only [Int.reduceToNat] at ho104;rw [←Ny175.out] at ho104))
                   have n0_:=mA (rE (by (with_reducible repeat first|apply rA|apply rN|apply rD);exact HO_7.out) (Kd.R_base ho104) hb)
                   have n1_:=mA (rE (by (with_reducible repeat first|apply rA|apply rN|apply rD);exact HL178_0.out) (Kd.R_base ho104) hb)
                   have n2_:=mA (rE (by (with_reducible repeat first|apply rA|apply rN|apply rD);exact HL182_0.out) (Kd.R_base ho104) hb)
                   have n3_:=mA (rW (rQ (rQ ho104 (rL (by (with_reducible repeat first|apply rA|apply rN|apply rD);exact HL178_0.out))) (rL (by (with_reducible repeat first|apply rA|apply rN|apply rD);exact HL182_0.out))) (eZ (w:=w) (g:=g) (row:=none) (by repeat first|(with_reducible first|exact HK.out|apply eS|apply eN|apply eD|apply eA)|exact HK.out)))
                   have n4_:=mA (iB (by repeat first|(with_reducible first|exact HI0.out|apply iA|apply iN|apply iD|apply iS)|exact HI0.out) hb)
                   have n5_:=mA (Kd.C_below (by repeat first|(with_reducible exact HR178_0.out)|(with_reducible refine cA ?_ _)|(with_reducible refine cN ?_ _)|(with_reducible refine cD ?_)|exact HR178_0.out) hb)
                   have n6_:=mA (Kd.C_below (by repeat first|(with_reducible exact HR182_0.out)|(with_reducible refine cA ?_ _)|(with_reducible refine cN ?_ _)|(with_reducible refine cD ?_)|exact HR182_0.out) hb)
                   have n7_:=mA (eT (by repeat first|(with_reducible first|exact HK.out|apply eS|apply eN|apply eD|apply eA)|exact HK.out) (eB hb g none) (.inl rfl))
                   have n8_:=mA (bT (by repeat first|(with_reducible first|exact HB.out|apply bA|apply bN|apply bD|refine bS ?_ (iG HI0.out))|exact HB.out) hb)
                   clear HO_7
                   clear HL178_0
                   clear HL182_0
                   clear HI0
                   clear HR178_0
                   clear HR182_0
                   clear HK
                   clear HB
                   have HO_7:=n0_
                   have HL178_0:=n1_
                   have HL182_0:=n2_
                   have HO177:=n3_
                   have HI0:=n4_
                   have HR178_0:=n5_
                   have HR182_0:=n6_
                   have HK:=n7_
                   have HB:=n8_
                   clear n0_ n1_ n2_ n3_ n4_ n5_ n6_ n7_ n8_
                   clear hb ho104
                   refine hK.out _ _ ⟨HS0_,HS1_⟩ (fun hHeld=>?_)
                   clear hK K
                   refine norm_ (a':=?_) ?_ ?_
                   rotate_left
                   ·show Act.put _ (some 74) _=_
                    simp only [Act.put,sA,sZ,sS,i64_w,i32_w]
                    rfl
                   refine one_ (i:=5) (N:=some 79) #[I,I,I,I,I,I,I,I,I,I,I,O,I,O,O,O,O,O,O] rfl rfl (one_of HT_.out (by kernel_rfl)) (by decide) (fun K hK=>?_)
                   refine Kd.R_append_rows_step k33 w.heap.size (by rfl) (.tmp 74) (.tmp 78) 34 33 (.agg #[(.int .i64 0),(.int .i64 0)]) 16 rfl Try.underlying34 info33 rfl (by decide) (by omega) v176 y175 (rd_L3 x7_2 t124) _ _ _ (fun k_=>some k_≠(.slice A178_0 (rd_L3 x7_2 t124).length c178_0:Value).ownBlock∧some k_≠(.slice A182_0 (rd_L3 x7_2 (ji86)).length c182_0:Value).ownBlock) (fun _=>False) rfl rfl ?aO ?aR (fun _ _ h=>h) (fun _ h=>h.elim) ?aF (Below.refl _ _) ?aS ?aL ?_
                   (case aR=>repeat first|exact (by repeat (first|(with_reducible exact HR178_0.out)|(with_reducible refine cA ?_ _)|(with_reducible refine cN ?_ _)|(with_reducible refine cD ?_)|exact HR178_0.out))|(with_reducible refine cA ?_ _)|(with_reducible refine cN ?_ _)|(with_reducible refine cD ?_))
                   (case aF=>exact (fun k_ hk=>⟨Kd.fresh' (rL (by (with_reducible repeat first|apply rA|apply rN|apply rD);exact HL178_0.out)) k_ hk,Kd.fresh' (rL (by (with_reducible repeat first|apply rA|apply rN|apply rD);exact HL182_0.out)) k_ hk⟩))
                   (case aO=>exact (by (with_reducible repeat first|apply rA|apply rN|apply rD);exact rM HO177.out (fun _ hk=>⟨hk.1.2,hk.2⟩)))
                   (case aS=>exact (eZ (w:=w) (g:=g) (row:=none) (by repeat first|(with_reducible first|exact HK.out|apply eS|apply eN|apply eD|apply eA)|exact HK.out)))
                   (case aL=>have:=LMc85.out;omega)
                   intro v180 w105 ho hb hg hat
                   have HS0_:=cell_grown hg (hHeld.1) (by first|(rw [add_block];exact row_ne HO_7.out HO177.out (by decide) _ rfl)|(show some (Addr.add _ _).block≠_;rw [add_block];exact row_ne HO_7.out HO177.out (by decide) _ rfl)|exact row_ne HO_7.out HO177.out (by decide) _ rfl)
                   have HS1_:=cell_grown hg (hHeld.2) (by first|(rw [add_block];exact row_ne HO_7.out HO177.out (by decide) _ rfl)|(show some (Addr.add _ _).block≠_;rw [add_block];exact row_ne HO_7.out HO177.out (by decide) _ rfl)|exact row_ne HO_7.out HO177.out (by decide) _ rfl)
                   rw [←Ny179.out] at ho
                   have n0_:=mA (rJ (ok:=(fun _=>True)) (by (with_reducible repeat first|apply rA|apply rN|apply rD);exact HO_7.out) hg hat)
                   have n1_:=mA (iW (by repeat first|(with_reducible first|exact HI0.out|apply iA|apply iN|apply iD|apply iS)|exact HI0.out) hg (iO HI0.out HO177.out (by decide)))
                   have n2_:=mA (rJ (ok:=(fun k_=>some k_≠(.slice (some ad178) x7_2.length co100:Value).ownBlock)) (by (with_reducible repeat first|apply rA|apply rN|apply rD);exact rM HL178_0.out (fun _ hk=>⟨hk.1.2,hk.2⟩)) hg hat)
                   have n3_:=mA (rJ (ok:=(fun k_=>some k_≠(.slice (some ad178) x7_2.length co100:Value).ownBlock)) (by (with_reducible repeat first|apply rA|apply rN|apply rD);exact rM HL182_0.out (fun _ hk=>⟨hk.1.2,hk.2⟩)) hg hat)
                   have n4_:=mA (bW (by repeat first|(with_reducible first|exact HB.out|apply bA|apply bN|apply bD|refine bS ?_ (iG HI0.out))|exact HB.out) HL.out hb)
                   have n5_:=mA (eT (by repeat first|(with_reducible first|exact HK.out|apply eS|apply eN|apply eD|apply eA)|exact HK.out) (eG hg g) (Kd.R_base2 HO177.out))
                   have n6_:=mA (ho)
                   clear HO_7
                   clear HI0
                   clear HL178_0
                   clear HL182_0
                   clear HB
                   clear HK
                   clear HO177
                   have HO_7:=n0_
                   have HI0:=n1_
                   have HL178_0:=n2_
                   have HL182_0:=n3_
                   have HB:=n4_
                   have HK:=n5_
                   have HO181:=n6_
                   clear n0_ n1_ n2_ n3_ n4_ n5_ n6_
                   clear ho hb hg hat
                   refine hK.out _ _ ⟨HS0_,HS1_⟩ (fun hHeld=>?_)
                   clear hK K
                   refine norm_ (a':=?_) ?_ ?_
                   rotate_left
                   ·show Act.put _ (some 79) _=_
                    simp only [Act.put,sA,sZ,sS,i64_w,i32_w]
                    rfl
                   refine one_ (i:=11) (N:=some 85) #[I,I,I,I,I,I,I,I,I,I,I,I,I,O,O,O,O,O,O] rfl rfl (one_of HT_.out (by kernel_rfl)) (by decide) (fun K hK=>?_)
                   refine Kd.R_append_rows_step k33 w.heap.size (by rfl) (.tmp 79) (.tmp 84) 34 33 (.agg #[(.int .i64 0),(.int .i64 0)]) 16 rfl Try.underlying34 info33 rfl (by decide) (by omega) v180 y179 (rd_L3 x7_2 (ji86)) _ _ _ (fun k_=>some k_≠(.slice A178_0 (rd_L3 x7_2 t124).length c178_0:Value).ownBlock∧some k_≠(.slice A182_0 (rd_L3 x7_2 (ji86)).length c182_0:Value).ownBlock) (fun _=>False) rfl rfl ?aO ?aR (fun _ _ h=>h) (fun _ h=>h.elim) ?aF (Below.refl _ _) ?aS ?aL ?_
                   (case aR=>repeat (first|exact ((rR (by (with_reducible repeat first|apply rA|apply rN|apply rD);exact HL182_0.out)).2.2)|(with_reducible refine cA ?_ _)|(with_reducible refine cN ?_ _)|(with_reducible refine cD ?_)))
                   (case aF=>exact (fun k_ hk=>⟨Kd.fresh' (rL (by (with_reducible repeat first|apply rA|apply rN|apply rD);exact HL178_0.out)) k_ hk,Kd.fresh' (rL (by (with_reducible repeat first|apply rA|apply rN|apply rD);exact HL182_0.out)) k_ hk⟩))
                   (case aO=>exact (by (with_reducible repeat first|apply rA|apply rN|apply rD);exact HO181.out))
                   (case aS=>exact (eZ (w:=w) (g:=g) (row:=none) (by repeat first|(with_reducible first|exact HK.out|apply eS|apply eN|apply eD|apply eA)|exact HK.out)))
                   (case aL=>have:=LMc89.out;omega)
                   intro v184 w106 ho hb hg hat
                   have HS0_:=cell_grown hg (hHeld.1) (by first|(rw [add_block];exact row_ne HO_7.out HO181.out (by decide) _ rfl)|(show some (Addr.add _ _).block≠_;rw [add_block];exact row_ne HO_7.out HO181.out (by decide) _ rfl)|exact row_ne HO_7.out HO181.out (by decide) _ rfl)
                   have HS1_:=cell_grown hg (hHeld.2) (by first|(rw [add_block];exact row_ne HO_7.out HO181.out (by decide) _ rfl)|(show some (Addr.add _ _).block≠_;rw [add_block];exact row_ne HO_7.out HO181.out (by decide) _ rfl)|exact row_ne HO_7.out HO181.out (by decide) _ rfl)
                   rw [←Ny183.out] at ho
                   have n0_:=mA (rJ (ok:=(fun _=>True)) (by (with_reducible repeat first|apply rA|apply rN|apply rD);exact HO_7.out) hg hat)
                   have n1_:=mA (iW (by repeat first|(with_reducible first|exact HI0.out|apply iA|apply iN|apply iD|apply iS)|exact HI0.out) hg (iO HI0.out HO181.out (by decide)))
                   have n2_:=mA (rJ (ok:=(fun k_=>some k_≠(.slice (some ad178) x7_2.length co100:Value).ownBlock)) (by (with_reducible repeat first|apply rA|apply rN|apply rD);exact HL178_0.out) hg hat)
                   have n3_:=mA (rJ (ok:=(fun k_=>some k_≠(.slice (some ad178) x7_2.length co100:Value).ownBlock)) (by (with_reducible repeat first|apply rA|apply rN|apply rD);exact HL182_0.out) hg hat)
                   have n4_:=mA (bW (by repeat first|(with_reducible first|exact HB.out|apply bA|apply bN|apply bD|refine bS ?_ (iG HI0.out))|exact HB.out) HL.out hb)
                   have n5_:=mA (eT (by repeat first|(with_reducible first|exact HK.out|apply eS|apply eN|apply eD|apply eA)|exact HK.out) (eG hg g) (Kd.R_base2 HO181.out))
                   have n6_:=mA (ho)
                   clear HO_7
                   clear HI0
                   clear HL178_0
                   clear HL182_0
                   clear HB
                   clear HK
                   clear HO181
                   have HO_7:=n0_
                   have HI0:=n1_
                   have HL178_0:=n2_
                   have HL182_0:=n3_
                   have HB:=n4_
                   have HK:=n5_
                   have HO185:=n6_
                   clear n0_ n1_ n2_ n3_ n4_ n5_ n6_
                   clear ho hb hg hat
                   refine hK.out _ _ ⟨HS0_,HS1_⟩ (fun hHeld=>?_)
                   clear hK K
                   refine norm_ (a':=?_) ?_ ?_
                   rotate_left
                   ·show Act.put _ (some 85) _=_
                    simp only [Act.put,sA,sZ,sS,i64_w,i32_w]
                    rfl
                   refine one_ (i:=13) (N:=some 87) #[I,I,I,I,I,I,I,I,I,I,I,I,I,I,O,O,O,O,O] rfl rfl (one_of HT_.out (by kernel_rfl)) (by decide) (fun K hK=>?_)
                   refine goes_ Try.func108 (by kernel_rfl) rfl #[.pointer (some ⟨g,0,none⟩),.int .i64 3] (by rfl) rfl rfl (by (try simp only [mT,mC,mN]);first|done|rfl|(simp only [lD,lT];rfl)) ?_
                   with_reducible refine (spec_l20Rd_pick.calls k2 g s0_0 t125 3 t186 t187 w0 _ ?side1 ?side2 A90.out).mono ?_
                   (case side1=>repeat first|(with_reducible first|exact HI0.out|apply iA|apply iN|apply iD|apply iS)|exact HI0.out)
                   (case side2=>repeat first|(with_reducible first|exact HB.out|apply bA|apply bN|apply bD|refine bS ?_ (iG HI0.out))|exact HB.out)
                   rintro e w107 ⟨rfl,hi,hb,hk⟩
                   have HS0_:=keep_cell hk (hHeld.1) (by first|(rw [add_block];exact Kd.own_blk (iO HI0.out HO_7.out (by decide)))|(show (Addr.add _ _).block≠_;rw [add_block];exact Kd.own_blk (iO HI0.out HO_7.out (by decide)))|exact Kd.own_blk (iO HI0.out HO_7.out (by decide)))
                   have HS1_:=keep_cell hk (hHeld.2) (by first|(rw [add_block];exact Kd.own_blk (iO HI0.out HO_7.out (by decide)))|(show (Addr.add _ _).block≠_;rw [add_block];exact Kd.own_blk (iO HI0.out HO_7.out (by decide)))|exact Kd.own_blk (iO HI0.out HO_7.out (by decide)))
                   refine ⟨_,rfl,?_⟩
                   have n0_:=mA (rM (Kd.R_keep (iP (show IsS113 w0 _ g s0_0 t125 from by repeat first|(with_reducible first|exact HI0.out|apply iA|apply iN|apply iD|apply iS)|exact HI0.out) (by (with_reducible repeat first|apply rA|apply rN|apply rD);exact HO_7.out) (by decide)) hk (fun _ h=>h.2)) (fun _ h=>h.1))
                   have n1_:=mA (rM (Kd.R_keep (iP (show IsS113 w0 _ g s0_0 t125 from by repeat first|(with_reducible first|exact HI0.out|apply iA|apply iN|apply iD|apply iS)|exact HI0.out) (by (with_reducible repeat first|apply rA|apply rN|apply rD);exact HL178_0.out) (by decide)) hk (fun _ h=>h.2)) (fun _ h=>h.1))
                   have n2_:=mA (rM (Kd.R_keep (iP (show IsS113 w0 _ g s0_0 t125 from by repeat first|(with_reducible first|exact HI0.out|apply iA|apply iN|apply iD|apply iS)|exact HI0.out) (by (with_reducible repeat first|apply rA|apply rN|apply rD);exact HL182_0.out) (by decide)) hk (fun _ h=>h.2)) (fun _ h=>h.1))
                   have n3_:=mA (rM (Kd.R_keep (iP (show IsS113 w0 _ g s0_0 t125 from by repeat first|(with_reducible first|exact HI0.out|apply iA|apply iN|apply iD|apply iS)|exact HI0.out) (by (with_reducible repeat first|apply rA|apply rN|apply rD);exact HO185.out) (by decide)) hk (fun _ h=>h.2)) (fun _ h=>h.1))
                   have n4_:=mA (eT (by repeat first|(with_reducible first|exact HK.out|apply eS|apply eN|apply eD|apply eA)|exact HK.out) hk (.inl rfl))
                   have n5_:=mA (hb)
                   have n6_:=mA (hi)
                   clear HO_7
                   clear HL178_0
                   clear HL182_0
                   clear HO185
                   clear HK
                   clear HB
                   clear HI0
                   have HO_7:=n0_
                   have HL178_0:=n1_
                   have HL182_0:=n2_
                   have HO185:=n3_
                   have HK:=n4_
                   have HB:=n5_
                   have HI0:=n6_
                   clear n0_ n1_ n2_ n3_ n4_ n5_ n6_
                   (try clear hb)
                   (try clear hb2)
                   (try clear hk)
                   (try clear hi)
                   refine hK.out _ _ ⟨HS0_,HS1_⟩ (fun hHeld=>?_)
                   clear hK K
                   refine norm_ (a':=?_) ?_ ?_
                   rotate_left
                   ·show Act.put _ (some 87) _=_
                    simp only [Act.put,sA,sZ,sS,i64_w,i32_w]
                    rfl
                   refine pure_ (i:=14) (N:=some 88) (v:=?_) (a':=?_) #[I,I,I,I,I,I,I,I,I,I,I,I,I,I,I,O,O,O,O] rfl rfl (any_of HT_.out (by kernel_rfl)) (fun _ _ _ h=>h) (Or.inl ⟨by rfl,?_⟩) ?_ ?_
                   rotate_left
                   ·intro w'
                    go_simp
                    with_reducible rfl
                   rotate_left
                   ·simp only [Act.put,sA,sZ,sS,i64_w,i32_w]
                    rfl
                   refine pure_ (i:=15) (N:=some 89) (v:=?_) (a':=?_) #[I,I,I,I,I,I,I,I,I,I,I,I,I,I,I,I,O,O,O] rfl rfl (any_of HT_.out (by kernel_rfl)) (fun _ _ _ h=>h) (Or.inl ⟨by rfl,?_⟩) ?_ ?_
                   rotate_left
                   ·intro w'
                    go_simp
                    with_reducible rfl
                   rotate_left
                   ·simp only [Act.put,sA,sZ,sS,i64_w,i32_w]
                    rfl
                   refine last_ (i:=16) (N:=some 90) #[I,I,I,I,I,I,I,I,I,I,I,I,I,I,I,I,I,O,O] rfl rfl (one_of HT_.out (by kernel_rfl)) (by decide) (fun K hK=>?_)
                   refine value_ (w1:=?_) (v:=?_) (by rfl) rfl ?_ ?_
                   rotate_left 2
                   ·go_simp
                    constructor
                    ·rfl
                    rfl
                   refine hK.out _ _ ?_
                   clear hK K
                   refine norm_ (a':=?_) ?_ ?_
                   rotate_left
                   ·show Act.put _ (some 90) _=_
                    simp only [Act.put,sA,sZ,sS,i64_w,i32_w]
                    rfl
                   refine last_ (i:=17) (N:=some 91) #[I,I,I,I,I,I,I,I,I,I,I,I,I,I,I,I,I,I,O] rfl rfl (one_of HT_.out (by kernel_rfl)) (by decide) (fun K hK=>?_)
                   refine Kd.R_append_step k33 w.heap.size (by rfl) (.tmp 85) (.tmp 90) 34 33 (.agg #[(.int .i64 0),(.int .i64 0)]) 16 rfl Try.underlying34 info33 rfl (by decide) (by omega) v184 y183 (⟨wrap64 (3+t186),0⟩:S33) [.int .i64 (wrap64 (3+t186)),.int .i64 0] (fun k_=>some k_≠(.slice A178_0 (rd_L3 x7_2 t124).length c178_0:Value).ownBlock∧some k_≠(.slice A182_0 (rd_L3 x7_2 (ji86)).length c182_0:Value).ownBlock) (fun _=>False) rfl rfl ?aP (fun _ hk=>hk.elim) ?aF ?aO (Below.refl _ _) ?aS ?aL ?_
                   (case aP=>exact k33_mkM _ _ _ (⟨wrap64 (3+t186),0⟩:S33))
                   (case aF=>exact (fun k_ hk=>⟨Kd.fresh' (rL (by (with_reducible repeat first|apply rA|apply rN|apply rD);exact HL178_0.out)) k_ hk,Kd.fresh' (rL (by (with_reducible repeat first|apply rA|apply rN|apply rD);exact HL182_0.out)) k_ hk⟩))
                   (case aO=>exact (by (with_reducible repeat first|apply rA|apply rN|apply rD);exact HO185.out))
                   (case aS=>exact (eZ (w:=w) (g:=g) (row:=none) (by repeat first|(with_reducible first|exact HK.out|apply eS|apply eN|apply eD|apply eA)|exact HK.out)))
                   (case aL=>have:=LMc91.out;omega)
                   intro v189 w108 ho hb hg hat
                   rw [←Ny188.out] at ho
                   have n0_:=mA (rJ (ok:=(fun _=>True)) (by (with_reducible repeat first|apply rA|apply rN|apply rD);exact HO_7.out) hg hat)
                   have n1_:=mA (iW (by repeat first|(with_reducible first|exact HI0.out|apply iA|apply iN|apply iD|apply iS)|exact HI0.out) hg (iO HI0.out HO185.out (by decide)))
                   have n2_:=mA (rJ (ok:=(fun k_=>some k_≠(.slice (some ad178) x7_2.length co100:Value).ownBlock)) (by (with_reducible repeat first|apply rA|apply rN|apply rD);exact HL178_0.out) hg hat)
                   have n3_:=mA (rJ (ok:=(fun k_=>some k_≠(.slice (some ad178) x7_2.length co100:Value).ownBlock)) (by (with_reducible repeat first|apply rA|apply rN|apply rD);exact HL182_0.out) hg hat)
                   have n4_:=mA (bW (by repeat first|(with_reducible first|exact HB.out|apply bA|apply bN|apply bD|refine bS ?_ (iG HI0.out))|exact HB.out) HL.out hb)
                   have n5_:=mA (eT (by repeat first|(with_reducible first|exact HK.out|apply eS|apply eN|apply eD|apply eA)|exact HK.out) (eG hg g) (Kd.R_base2 HO185.out))
                   have n6_:=mA (ho)
                   clear HO_7
                   clear HI0
                   clear HL178_0
                   clear HL182_0
                   clear HB
                   clear HK
                   clear HO185
                   have HO_7:=n0_
                   have HI0:=n1_
                   have HL178_0:=n2_
                   have HL182_0:=n3_
                   have HB:=n4_
                   have HK:=n5_
                   have HO190:=n6_
                   clear n0_ n1_ n2_ n3_ n4_ n5_ n6_
                   clear ho hb hg hat
                   refine hK.out _ _ ?_
                   clear hK K
                   refine norm_ (a':=?_) ?_ ?_
                   rotate_left
                   ·show Act.put _ (some 91) _=_
                    simp only [Act.put,sA,sZ,sS,i64_w,i32_w]
                    rfl
                   refine pure_ (i:=18) (N:=some 11) (v:=?_) (a':=?_) #[I,I,I,I,I,I,I,I,I,I,I,I,I,I,I,I,I,I,I] rfl rfl (any_of HT_.out (by kernel_rfl)) (fun _ _ _ h=>h) (Or.inl ⟨by rfl,?_⟩) ?_ ?_
                   rotate_left
                   ·intro w'
                    go_simp
                    with_reducible rfl
                   rotate_left
                   ·simp only [Act.put,sA,sZ,sS,i64_w,i32_w]
                    rfl
                   refine done_ (done_of HT_.out (by kernel_rfl)) ?_
                   try go_wp2_with (first|((with_reducible refine gate_dst (N:=92) rfl ?_);refine Kd.R_lit (Kd.slice 33 k33) _ 34 ?hg (N:=92) ?hd (xs:=([]:List (List (S33)))) (inner:=[]) (ok:=fun _=>True) (okp:=fun _=>True) ?hr ?hp (fun _ hk=>hk) trivial (Below.refl _ _) (Nat.le_refl _) (by simp) ?_;(case hd=>rfl);(case hg=>rfl);(case hr=>first|(go_simp;done)|(go_simp;rfl));(case hp=>exact (Reps.none _ _));intro v192 w109 ho110 hb hg_ hnew_;clear hg_ hnew_;(first|rw [←Ny191.out] at ho110|(simp only [Int.reduceToNat] at ho110;rw [←Ny191.out] at ho110));have n0_:=mA (rE (by (with_reducible repeat first|apply rA|apply rN|apply rD);exact HO_7.out) (Kd.R_base ho110) hb);have n1_:=mA (rB (by (with_reducible repeat first|apply rA|apply rN|apply rD);exact HL178_0.out) hb);have n2_:=mA (rB (by (with_reducible repeat first|apply rA|apply rN|apply rD);exact HL182_0.out) hb);have n3_:=mA (rB (by (with_reducible repeat first|apply rA|apply rN|apply rD);exact HO190.out) hb);have n4_:=mA (rW (rQ (rQ (rQ (rQ ho110 (rL (by (with_reducible repeat first|apply rA|apply rN|apply rD);exact HO_7.out))) (rL (by (with_reducible repeat first|apply rA|apply rN|apply rD);exact HL178_0.out))) (rL (by (with_reducible repeat first|apply rA|apply rN|apply rD);exact HL182_0.out))) (rL (by (with_reducible repeat first|apply rA|apply rN|apply rD);exact HO190.out))) (eZ (w:=w) (g:=g) (row:=none) (by repeat first|(with_reducible first|exact HK.out|apply eS|apply eN|apply eD|apply eA)|exact HK.out)));have n5_:=mA (iB (by repeat first|(with_reducible first|exact HI0.out|apply iA|apply iN|apply iD|apply iS)|exact HI0.out) hb);have n6_:=mA (eT (by repeat first|(with_reducible first|exact HK.out|apply eS|apply eN|apply eD|apply eA)|exact HK.out) (eB hb g none) (.inl rfl));have n7_:=mA (bT (by repeat first|(with_reducible first|exact HB.out|apply bA|apply bN|apply bD|refine bS ?_ (iG HI0.out))|exact HB.out) hb);clear HO_7 HL178_0 HL182_0 HO190 HI0 HK HB;have HO_7:=n0_;have HL178_0:=n1_;have HL182_0:=n2_;have HO190:=n3_;have HO193:=n4_;have HI0:=n5_;have HK:=n6_;have HB:=n7_;clear n0_ n1_ n2_ n3_ n4_ n5_ n6_ n7_ hb ho110;have q111:(t124:Int)≤((x7_2.length:Int):Int):=of_decide_eq_true (by first|with_reducible assumption|assumption);obtain ⟨i0111,hi0111,_,hsz111,_⟩:=info_parts info34;have hroom111:x7_2.length≤co100:=(rR HO_7.out).2.1;have hC111:Kd.C (Kd.slice 33 k33) _ (some ad178) x7_2.length x7_2:=(rR HO_7.out).2.2;have hcut111:=cut_to (P:=Try.prog) 122 34 .i64 Try.underlying122 hi0111 (some ad178) x7_2.length co100 t124 (of_decide_eq_true (by first|with_reducible assumption|assumption)) q111 hroom111;have hr111:=Kd.C_take (m:=(t124:Int).toNat) hC111 (by omega);have hy111:y194.length=(t124:Int).toNat:=(by rw [Ny194.out,lT];omega);rw [←Ny194.out] at hr111;rw [←hy111] at hcut111;have HR197:=mA hr111;have HC197:=mA (show y194.length≤co100 from by omega);clear hr111 hC111 hroom111 hi0111 hsz111;have KY111:=mA hy111;clear hy111;have KL111:=mA (show (t124:Int).toNat≤x7_2.length from by omega);replace q111:=eq_true q111)|((with_reducible refine gate_builtin (b:=.append) (xs:=#[.tmp 92,.tmp 95]) rfl ?_);at_builtin;refine Kd.R_append_rows (Kd.slice 33 k33) w.heap.size rfl (.tmp 92) (.tmp 95) 122 34 (.slice none 0 0) 24 rfl Try.underlying122 info34 rfl (by decide) (by omega) v192 y191 y194 _ _ _ (fun k_=>some k_≠(.slice (some ad178) x7_2.length co100:Value).ownBlock∧some k_≠(v189:Value).ownBlock) (fun k_=>(((fun k_=>some k_≠(v189:Value).ownBlock)) k_∧some k_≠(.slice (some ad178) x7_2.length co100:Value).ownBlock)∧some k_≠(v192:Value).ownBlock) rfl rfl ?aO ?aR (fun _ _ h_=>h_) (fun k_ hk=>⟨⟨hk.1.2,hk.1.1⟩,hk.2⟩) ?aF (Below.refl _ _) ?aS ?aL ?_;(case aR=>exact (rowsTake (R_rowsT (rM (ok':=(fun k_=>some k_≠(v189:Value).ownBlock)) (HO_7.out) (fun k_ hk=>hk.1.2)) (rT (by (with_reducible repeat first|apply rA|apply rN|apply rD);exact HO193.out)) (by decide)) Ny194.out));(case aF=>exact (fun k_ hk=>⟨Kd.fresh' (rL (by (with_reducible repeat first|apply rA|apply rN|apply rD);exact HO_7.out)) k_ hk,Kd.fresh' (rL (by (with_reducible repeat first|apply rA|apply rN|apply rD);exact HO190.out)) k_ hk⟩));(case aO=>exact (by (with_reducible repeat first|apply rA|apply rN|apply rD);exact rM HO193.out (fun _ hk=>⟨hk.1.1.1.2,hk.2⟩)));(case aS=>exact (eZ (w:=w) (g:=g) (row:=none) (by repeat first|(with_reducible first|exact HK.out|apply eS|apply eN|apply eD|apply eA)|exact HK.out)));(case aL=>have:=LMc94.out;omega);intro v199 w112 ho hb hg hat;rw [←Ny198.out] at ho;have n0_:=mA (rJ (ok:=(fun k_=>some k_≠(v189:Value).ownBlock)) (by (with_reducible repeat first|apply rA|apply rN|apply rD);exact rM HO_7.out (fun _ hk=>⟨hk.1.2,hk.2⟩)) hg hat);have n1_:=mA (iW (by repeat first|(with_reducible first|exact HI0.out|apply iA|apply iN|apply iD|apply iS)|exact HI0.out) hg (iO HI0.out HO193.out (by decide)));have n2_:=mA (rO (by (with_reducible repeat first|apply rA|apply rN|apply rD);exact HL178_0.out) (rT (by (with_reducible repeat first|apply rA|apply rN|apply rD);exact HO193.out)) (by decide) hg);have n3_:=mA (rO (by (with_reducible repeat first|apply rA|apply rN|apply rD);exact HL182_0.out) (rT (by (with_reducible repeat first|apply rA|apply rN|apply rD);exact HO193.out)) (by decide) hg);have n4_:=mA (rO (by (with_reducible repeat first|apply rA|apply rN|apply rD);exact HO190.out) (rT (by (with_reducible repeat first|apply rA|apply rN|apply rD);exact HO193.out)) (by decide) hg);have n5_:=mA (bW (by repeat first|(with_reducible first|exact HB.out|apply bA|apply bN|apply bD|refine bS ?_ (iG HI0.out))|exact HB.out) HL.out hb);have n6_:=mA (eT (by repeat first|(with_reducible first|exact HK.out|apply eS|apply eN|apply eD|apply eA)|exact HK.out) (eG hg g) (Kd.R_base2 HO193.out));have n7_:=mA ((show Kd.C (Kd.slice 33 k33) w112 (some ad178) y194.length y194 from by rw [Ny194.out];exact Kd.C_take (m:=(t124:Int).toNat) ((rR (rJ (ok:=(fun k_=>some k_≠(v189:Value).ownBlock)) (by (with_reducible repeat first|apply rA|apply rN|apply rD);exact rM HO_7.out (fun _ hk=>⟨hk.1.2,hk.2⟩)) hg hat)).2.2) KL111.out));have n8_:=mA (ho);clear HO_7 HI0 HL178_0 HL182_0 HO190 HB HK HR197 HO193;have HO_7:=n0_;have HI0:=n1_;have HL178_0:=n2_;have HL182_0:=n3_;have HO190:=n4_;have HB:=n5_;have HK:=n6_;have HR197:=n7_;have HO200:=n8_;clear n0_ n1_ n2_ n3_ n4_ n5_ n6_ n7_ n8_ ho hb hg hat;obtain ⟨Ao114,co114,eo114⟩:=Kd.R_slice HO190.out;subst eo114)|((with_reducible refine gate_builtin (b:=.append) (xs:=#[.tmp 97,.tmp 99]) rfl ?_);at_builtin;refine Kd.R_append (Kd.slice 33 k33) w.heap.size rfl (.tmp 97) (.tmp 99) 122 34 (.slice none 0 0) 24 rfl Try.underlying122 info34 rfl (by decide) (by omega) v199 y198 y188 [.slice Ao114 y188.length co114] (fun k_=>some k_≠(.slice (some ad178) x7_2.length co100:Value).ownBlock) (fun k_=>((fun k_=>some k_≠(.slice (some ad178) x7_2.length co100:Value).ownBlock)) k_∧some k_≠(v199:Value).ownBlock) rfl rfl ?aP (fun _ hk=>hk) ?aF ?aO (Below.refl _ _) ?aS ?aL ?_;(case aP=>exact Kd.M_row (rM (rP (rP (HO190.out) (rT HO_7.out) (by decide)) (rT HO200.out) (by decide)) (fun k_ hk=>⟨hk.1.2,hk.2⟩)));(case aF=>exact (fun k_ hk=>Kd.fresh' (rL (by (with_reducible repeat first|apply rA|apply rN|apply rD);exact HO_7.out)) k_ hk));(case aO=>exact (by (with_reducible repeat first|apply rA|apply rN|apply rD);exact rM HO200.out (fun _ hk=>hk.1)));(case aS=>exact (eZ (w:=w) (g:=g) (row:=none) (by repeat first|(with_reducible first|exact HK.out|apply eS|apply eN|apply eD|apply eA)|exact HK.out)));(case aL=>have:=LMc95.out;omega);intro v202 w113 ho hb hg hat;rw [←Ny201.out] at ho;have n0_:=mA (rJ (ok:=(fun k_=>some k_≠(.slice Ao114 y188.length co114:Value).ownBlock)) (by (with_reducible repeat first|apply rA|apply rN|apply rD);exact HO_7.out) hg hat);have n1_:=mA (iW (by repeat first|(with_reducible first|exact HI0.out|apply iA|apply iN|apply iD|apply iS)|exact HI0.out) hg (iO HI0.out HO200.out (by decide)));have n2_:=mA (rO (by (with_reducible repeat first|apply rA|apply rN|apply rD);exact HL178_0.out) (rT (by (with_reducible repeat first|apply rA|apply rN|apply rD);exact HO200.out)) (by decide) hg);have n3_:=mA (rO (by (with_reducible repeat first|apply rA|apply rN|apply rD);exact HL182_0.out) (rT (by (with_reducible repeat first|apply rA|apply rN|apply rD);exact HO200.out)) (by decide) hg);have n4_:=mA (bW (by repeat first|(with_reducible first|exact HB.out|apply bA|apply bN|apply bD|refine bS ?_ (iG HI0.out))|exact HB.out) HL.out hb);have n5_:=mA (eT (by repeat first|(with_reducible first|exact HK.out|apply eS|apply eN|apply eD|apply eA)|exact HK.out) (eG hg g) (Kd.R_base2 HO200.out));have n6_:=mA ((show Kd.C (Kd.slice 33 k33) w113 (some ad178) y194.length y194 from by rw [Ny194.out];exact Kd.C_take (m:=(t124:Int).toNat) ((rR (rJ (ok:=(fun k_=>some k_≠(.slice Ao114 y188.length co114:Value).ownBlock)) (by (with_reducible repeat first|apply rA|apply rN|apply rD);exact HO_7.out) hg hat)).2.2) KL111.out));have n7_:=mA (ho);clear HO_7 HI0 HL178_0 HL182_0 HB HK HR197 HO200 HO190;have HO_7:=n0_;have HI0:=n1_;have HL178_0:=n2_;have HL182_0:=n3_;have HB:=n4_;have HK:=n5_;have HR197:=n6_;have HO203:=n7_;clear n0_ n1_ n2_ n3_ n4_ n5_ n6_ n7_ ho hb hg hat;have q115:((ji96):Int)≤((x7_2.length:Int):Int):=of_decide_eq_true (by first|with_reducible assumption|assumption);obtain ⟨i0115,hi0115,_,hsz115,_⟩:=info_parts info34;have hroom115:x7_2.length≤co100:=(rR HO_7.out).2.1;have hC115:Kd.C (Kd.slice 33 k33) _ (some ad178) x7_2.length x7_2:=(rR HO_7.out).2.2;have q0115:(0:Int)≤((ji96):Int):=of_decide_eq_true (by first|with_reducible assumption|assumption);have hcut115:=cut_from (P:=Try.prog) 122 34 .i64 Try.underlying122 hi0115 1 hsz115 (some ad178) x7_2.length co100 (ji96) q0115 q115;have hr115:=Kd.C_drop (m:=((ji96):Int).toNat) (c:=co100) hC115 (by omega) hroom115;obtain ⟨A115,hA115⟩ : ∃ A1,A1=(if co100=((ji96):Int).toNat then (some ad178) else ((some ad178):Option Addr).map (·.add (((ji96):Int).toNat*1))):=⟨_,rfl⟩;obtain ⟨c115,hc115⟩ : ∃ c1,c1=co100-((ji96):Int).toNat:=⟨_,rfl⟩;have hy115:y204.length=x7_2.length-((ji96):Int).toNat:=(by rw [Ny204.out,lD]<;>omega);rw [show (x7_2).drop ((ji96):Int).toNat=y204 from Ny204.out.symm] at hr115;replace hr115:Kd.C (Kd.slice 33 k33) _ A115 y204.length y204:=(by rw [hA115];exact hr115);rw [←hy115, ←hA115, ←hc115] at hcut115;have HR207:=mA hr115;have HC207:=mA (show y204.length≤c115 from by rw [hy115,hc115];exact Nat.sub_le_sub_right hroom115 _);clear hr115 hC115 hroom115 hi0115 hsz115 hc115;have KY115:=mA hy115;have KA115:=mA hA115;clear hy115 hA115;have KL115:=mA (show ((ji96):Int).toNat≤x7_2.length from by omega);replace q115:=eq_true q115)|((with_reducible refine gate_builtin (b:=.append) (xs:=#[.tmp 101,.tmp 105]) rfl ?_);at_builtin;refine Kd.R_append_rows (Kd.slice 33 k33) w.heap.size rfl (.tmp 101) (.tmp 105) 122 34 (.slice none 0 0) 24 rfl Try.underlying122 info34 rfl (by decide) (by omega) v202 y201 y204 _ _ _ (fun k_=>some k_≠(.slice (some ad178) x7_2.length co100:Value).ownBlock) (fun k_=>(((fun _=>True)) k_∧some k_≠(.slice (some ad178) x7_2.length co100:Value).ownBlock)∧some k_≠(v202:Value).ownBlock) rfl rfl ?aO ?aR (fun _ _ h_=>h_) (fun k_ hk=>⟨hk.1.2,hk.2⟩) ?aF (Below.refl _ _) ?aS ?aL ?_;(case aR=>exact (rowsDrop (R_rowsT (rM (ok':=(fun _=>True)) (HO_7.out) (fun k_ hk=>trivial)) (rT (by (with_reducible repeat first|apply rA|apply rN|apply rD);exact HO203.out)) (by decide)) (rR (rM (ok':=(fun _=>True)) (HO_7.out) (fun k_ hk=>trivial))).2.1 Ny204.out KA115.out));(case aF=>exact (fun k_ hk=>Kd.fresh' (rL (by (with_reducible repeat first|apply rA|apply rN|apply rD);exact HO_7.out)) k_ hk));(case aO=>exact (by (with_reducible repeat first|apply rA|apply rN|apply rD);exact HO203.out));(case aS=>exact (eZ (w:=w) (g:=g) (row:=none) (by repeat first|(with_reducible first|exact HK.out|apply eS|apply eN|apply eD|apply eA)|exact HK.out)));(case aL=>have:=LMc99.out;omega);intro v209 w116 ho hb hg hat;rw [←Ny208.out] at ho;have n0_:=mA (rJ (ok:=(fun _=>True)) (by (with_reducible repeat first|apply rA|apply rN|apply rD);exact rM HO_7.out (fun _ hk=>⟨trivial,hk.2⟩)) hg hat);have n1_:=mA (iW (by repeat first|(with_reducible first|exact HI0.out|apply iA|apply iN|apply iD|apply iS)|exact HI0.out) hg (iO HI0.out HO203.out (by decide)));have n2_:=mA (rO (by (with_reducible repeat first|apply rA|apply rN|apply rD);exact HL178_0.out) (rT (by (with_reducible repeat first|apply rA|apply rN|apply rD);exact HO203.out)) (by decide) hg);have n3_:=mA (rO (by (with_reducible repeat first|apply rA|apply rN|apply rD);exact HL182_0.out) (rT (by (with_reducible repeat first|apply rA|apply rN|apply rD);exact HO203.out)) (by decide) hg);have n4_:=mA (bW (by repeat first|(with_reducible first|exact HB.out|apply bA|apply bN|apply bD|refine bS ?_ (iG HI0.out))|exact HB.out) HL.out hb);have n5_:=mA (eT (by repeat first|(with_reducible first|exact HK.out|apply eS|apply eN|apply eD|apply eA)|exact HK.out) (eG hg g) (Kd.R_base2 HO203.out));have n6_:=mA ((show Kd.C (Kd.slice 33 k33) w116 (some ad178) y194.length y194 from by rw [Ny194.out];exact Kd.C_take (m:=(t124:Int).toNat) ((rR (rJ (ok:=(fun _=>True)) (by (with_reducible repeat first|apply rA|apply rN|apply rD);exact rM HO_7.out (fun _ hk=>⟨trivial,hk.2⟩)) hg hat)).2.2) KL111.out));have n7_:=mA ((show Kd.C (Kd.slice 33 k33) w116 A115 y204.length y204 from by rw [Ny204.out,KA115.out];exact Kd.C_drop (m:=((ji96):Int).toNat) (c:=co100) ((rR (rJ (ok:=(fun _=>True)) (by (with_reducible repeat first|apply rA|apply rN|apply rD);exact rM HO_7.out (fun _ hk=>⟨trivial,hk.2⟩)) hg hat)).2.2) KL115.out ((rR (rJ (ok:=(fun _=>True)) (by (with_reducible repeat first|apply rA|apply rN|apply rD);exact rM HO_7.out (fun _ hk=>⟨trivial,hk.2⟩)) hg hat)).2.1)));have n8_:=mA (ho);clear HO_7 HI0 HL178_0 HL182_0 HB HK HR197 HR207 HO203;have HO_7:=n0_;have HI0:=n1_;have HL178_0:=n2_;have HL182_0:=n3_;have HB:=n4_;have HK:=n5_;have HR197:=n6_;have HR207:=n7_;have HO210:=n8_;clear n0_ n1_ n2_ n3_ n4_ n5_ n6_ n7_ n8_ ho hb hg hat))
                   go_roundg k2
                   case measure=>have:=HK1.out;have:=HK2.out;omega
                   case rel=>exact ⟨(y208),(x9_2),(t187),(by first|rfl|(simp;done)|(simp [*];done)),H',⟨by have:=HK1.out;have:=HK2.out;omega⟩,⟨by (with_reducible repeat first|apply rA|apply rN|apply rD);exact rM HO210.out (fun _ hk=>trivial)⟩,⟨by repeat (first|(with_reducible first|exact HI0.out|apply iA|apply iN|apply iD|apply iS)|exact HI0.out)⟩,⟨by repeat (first|(with_reducible first|exact HK.out|apply eS|apply eN|apply eD|apply eA)|exact HK.out)⟩,⟨by repeat (first|(with_reducible first|exact HB.out|apply bA|apply bN|apply bD|refine bS ?_ (iG HI0.out))|exact HB.out)⟩⟩
                  rw [if_neg c99] at H
                  exact absurd H (by simp)
                 rw [if_neg c98] at H
                 exact absurd H (by simp)
                rw [if_neg c97] at H
                exact absurd H (by simp)
               rw [if_neg c95] at H
               exact absurd H (by simp)
              rw [if_neg c94] at H
              exact absurd H (by simp)
             rw [if_neg c93] at H
             exact absurd H (by simp)
            rw [if_neg c91] at H
            exact absurd H (by simp)
           rw [if_neg c89] at H
           exact absurd H (by simp)
          rw [if_neg c88] at H
          exact absurd H (by simp)
         rw [if_neg c87] at H
         exact absurd H (by simp)
        rw [if_neg c85] at H
        exact absurd H (by simp)
       rw [if_neg c84] at H
       exact absurd H (by simp)
      rw [if_neg c83] at H
      exact absurd H (by simp)
     rw [if_neg c29] at H
     have c29b0:decide (1<(x7_2.length:Int))=false:=decide_eq_false c29
     have c29b1:decide (1<x7_2.length)=false:=decide_eq_false (by omega)
     clear c29
     by_cases c117:0<(x7_2.length:Int)
     ·rw [if_pos c117] at H
      have c117b0:decide (0<(x7_2.length:Int))=true:=decide_eq_true c117
      have c117b1:decide (0<x7_2.length)=true:=decide_eq_true (by omega)
      clear c117
      replace H:=Option.bind_eq_some_iff.mp H
      obtain ⟨⟨t213,t214⟩,A1180,H⟩:=H
      replace H:(if t213=0 then (if (rd_L3 x7_2 0).length<8796093022208 then (spec_l20Term.j2 k2 a2 ((rd_L3 x7_2 0)++[(⟨2,0⟩:S33)]) s0_0 t214) else (none)) else (spec_l20Term.j2 k2 a2 (rd_L3 x7_2 0) s0_0 t214))=some (r1,r2):=H
      have A118:=mA A1180
      clear A1180
      have HC119:=mA H
      clear H
      obtain ⟨Ao120,co120,eo120⟩:=Kd.R_slice HO_7.out
      subst eo120
      have p211:0≤(0:Int):=(by omega)
      have q211:0<(x7_2.length:Int):=of_decide_eq_true (by first|with_reducible assumption|assumption)
      obtain ⟨ad211,A211_0,c211_0,e211,hx211_0,hl211_0,hi211_0⟩:=at_L3 (rR HO_7.out).2.2 0 p211 q211
      cases e211
      obtain ⟨ce211,hce211,hMe211,hcc211⟩:=Kd.R_get HO_7.out [] 0 p211 (by first|exact q211|exact of_decide_eq_true (by first|with_reducible assumption|assumption)|(have e_:=(rR HO_7.out).1;omega))
      obtain ⟨ve211_0,rfl,ge211_0⟩:=hMe211
      have hv211_0:=hcc211 0 _ rfl
      rw [Nat.add_zero,show ((Kd.slice 33 k33)).sz=1 from rfl,Nat.mul_one] at hv211_0
      replace hv211_0:=Option.some.inj (hv211_0.symm.trans hx211_0)
      rw [hv211_0] at ge211_0
      have HL211_0:=mA (show Kd.R k33 33 _ _ _ _ (rd_L3 x7_2 0) from ge211_0)
      clear hv211_0 ge211_0
      clear hcc211 hce211
      have qi211:(0<x7_2.length)=True:=eq_true (by omega)
      (try rw [show ((0:Int)).toNat=0 from rfl] at hx211_0)
      (try rw [Addr.add_zero'] at hx211_0)
      have HR211_0:=mA hi211_0
      have HC211_0:=mA hl211_0
      clear hi211_0 hl211_0
      replace p211:=eq_true p211
      replace q211:=eq_true q211
      have HO212:=mA (rM (ok':=(fun _=>True)) HL211_0.out (fun k_ hk=>trivial))
      clear HO_7
      go_upto_if 112 with (first|((with_reducible refine gate_callee (f:=108) rfl ?_);refine goesL_ (some 111) rfl rfl Try.func108 (by kernel_rfl) rfl #[.pointer (some ⟨g,0,none⟩),.int .i64 5] rfl (by (try simp only [mT,mC,mN]);first|done|rfl|(simp only [lD,lT];rfl)) ?_;(with_reducible refine (spec_l20Rd_pick.calls k2 g s0_0 x1001_2 5 t213 t214 w0 _ ?side1 ?side2 A118.out).mono ?_);(case side1=>repeat first|(with_reducible first|exact HI0.out|apply iA|apply iN|apply iD|apply iS)|exact HI0.out);(case side2=>repeat first|(with_reducible first|exact HB.out|apply bA|apply bN|apply bD|refine bS ?_ (iG HI0.out))|exact HB.out);rintro e w121 ⟨rfl,hi,hb,hk⟩;refine ⟨_,rfl,?_⟩;have n0_:=mA (rM (Kd.R_keep (iP (show IsS113 w0 _ g s0_0 x1001_2 from by repeat first|(with_reducible first|exact HI0.out|apply iA|apply iN|apply iD|apply iS)|exact HI0.out) (by (with_reducible repeat first|apply rA|apply rN|apply rD);exact HO212.out) (by decide)) hk (fun _ h=>h.2)) (fun _ h=>h.1));have n1_:=mA (eT (by repeat first|(with_reducible first|exact HK.out|apply eS|apply eN|apply eD|apply eA)|exact HK.out) hk (.inl rfl));have n2_:=mA (hb);have n3_:=mA (hi);clear HO212 HK HB HI0;have HO212:=n0_;have HK:=n1_;have HB:=n2_;have HI0:=n3_;clear n0_ n1_ n2_ n3_;(try clear hb);(try clear hb2);(try clear hk);(try clear hi)))
      (try simp only [Act.put,sA,sZ,sS])
      go_cut [13] (fun v13 wc=>∃ (kq:Nat) (x13_118:List (S33)),Aside0 (spec_l20Term.j2 kq a2 x13_118 s0_0 t214=some (r1,r2))∧Aside0 (kq≤k2)∧Aside0 (Kd.R k33 33 wc w.heap.size (fun _=>True) v13 x13_118)∧Aside0 (IsS113 w0 wc g s0_0 t214)∧Aside0 (KeepBut w wc g none)∧Aside0 (Below w0.heap.size w0 wc))
      case first =>
       have H:=HC119.out
       clear HC119
       by_cases c122:t213=0
       ·rw [if_pos c122] at H
        have c122b0:(t213==0)=true:=beq_iff_eq.mpr c122
        have c122b1:(t213 != 0)=false:=bne_eq_false_iff_eq.mpr c122
        clear c122
        (first|rw [c122b0]|(simp only [i64_w,i32_w];rw [c122b0])|skip)
        by_cases c123:(rd_L3 x7_2 0).length<8796093022208
        ·rw [if_pos c123] at H
         have LMc123:=mA c123
         clear c123
         obtain ⟨y215,hy215⟩ : ∃ y_:List (S33),y_=((rd_L3 x7_2 0)++[(⟨2,0⟩:S33)]):=⟨_,rfl⟩
         replace H:(spec_l20Term.j2 k2 a2 y215 s0_0 t214)=some (r1,r2):=by first|(rw [hy215];with_reducible exact H)|(have H2_:=(Option.bind_some _ _).symm.trans H;rw [hy215];with_reducible exact H2_)|(have H2_:=(Option.bind_some _ _).symm.trans H;with_reducible exact H2_)|with_reducible exact H|(rw [hy215];exact H)|exact H
         have Ny215:=mA hy215
         clear hy215
         have H':=mA H
         clear H
         go_wp2_with (first|((with_reducible refine gate_builtin (b:=.append) (xs:=#[.tmp 113,.tmp 115]) rfl ?_);at_builtin;refine Kd.R_append k33 w.heap.size rfl (.tmp 113) (.tmp 115) 34 33 (.agg #[(.int .i64 0),(.int .i64 0)]) 16 rfl Try.underlying34 info33 rfl (by decide) (by omega) (.slice A211_0 (rd_L3 x7_2 0).length c211_0) (rd_L3 x7_2 0) (⟨2,0⟩:S33) [.int .i64 2,.int .i64 0] (fun _=>True) (fun _=>False) rfl rfl ?aP (fun _ hk=>hk.elim) ?aF ?aO (Below.refl _ _) ?aS ?aL ?_;(case aP=>exact k33_mkM _ _ _ (⟨2,0⟩:S33));(case aF=>exact (fun _ _=>trivial));(case aO=>exact (by (with_reducible repeat first|apply rA|apply rN|apply rD);exact HO212.out));(case aS=>exact (eZ (w:=w) (g:=g) (row:=none) (by repeat first|(with_reducible first|exact HK.out|apply eS|apply eN|apply eD|apply eA)|exact HK.out)));(case aL=>have:=LMc123.out;omega);intro v216 w124 ho hb hg hat;rw [←Ny215.out] at ho;have n0_:=mA (iW (by repeat first|(with_reducible first|exact HI0.out|apply iA|apply iN|apply iD|apply iS)|exact HI0.out) hg (iO HI0.out HO212.out (by decide)));have n1_:=mA (bW (by repeat first|(with_reducible first|exact HB.out|apply bA|apply bN|apply bD|refine bS ?_ (iG HI0.out))|exact HB.out) HL.out hb);have n2_:=mA (eT (by repeat first|(with_reducible first|exact HK.out|apply eS|apply eN|apply eD|apply eA)|exact HK.out) (eG hg g) (Kd.R_base2 HO212.out));have n3_:=mA (ho);clear HI0 HB HK HO212;have HI0:=n0_;have HB:=n1_;have HK:=n2_;have HO217:=n3_;clear n0_ n1_ n2_ n3_ ho hb hg hat))
         go_meet
         case rel=>exact ⟨_,(y215),H',⟨by have:=HK1.out;have:=HK2.out;first|omega|exact Nat.le_refl _⟩,⟨by (with_reducible repeat first|apply rA|apply rN|apply rD);exact HO217.out⟩,⟨by repeat (first|(with_reducible first|exact HI0.out|apply iA|apply iN|apply iD|apply iS)|exact HI0.out)⟩,⟨by repeat (first|(with_reducible first|exact HK.out|apply eS|apply eN|apply eD|apply eA)|exact HK.out)⟩,⟨by repeat (first|(with_reducible first|exact HB.out|apply bA|apply bN|apply bD|refine bS ?_ (iG HI0.out))|exact HB.out)⟩⟩
        rw [if_neg c123] at H
        exact absurd H (by simp)
       rw [if_neg c122] at H
       have c122b0:(t213==0)=false:=beq_eq_false_iff_ne.mpr c122
       have c122b1:(t213 != 0)=true:=bne_iff_ne.mpr c122
       (first|rw [c122b0]|(simp only [i64_w,i32_w];rw [c122b0])|skip)
       have H':=mA H
       clear H
       go_wp2
       go_meet
       case rel=>exact ⟨_,(rd_L3 x7_2 0),H',⟨by have:=HK1.out;have:=HK2.out;first|omega|exact Nat.le_refl _⟩,⟨by (with_reducible repeat first|apply rA|apply rN|apply rD);exact HO212.out⟩,⟨by repeat (first|(with_reducible first|exact HI0.out|apply iA|apply iN|apply iD|apply iS)|exact HI0.out)⟩,⟨by repeat (first|(with_reducible first|exact HK.out|apply eS|apply eN|apply eD|apply eA)|exact HK.out)⟩,⟨by repeat (first|(with_reducible first|exact HB.out|apply bA|apply bN|apply bD|refine bS ?_ (iG HI0.out))|exact HB.out)⟩⟩
      case rest =>
       clear HC119
       try clear c1
       try clear p1
       try clear q1
       try clear hx1
       try clear c2
       try clear p2
       try clear q2
       try clear hx2
       try clear qi2
       try clear c3
       try clear p6
       try clear c8
       try clear c9
       try clear c10
       try clear c11
       try clear q11
       try clear c12
       try clear c17
       try clear p17
       try clear q17
       try clear hx17
       try clear c18
       try clear p18
       try clear q18
       try clear hx18
       try clear c21
       try clear p21
       try clear q21
       try clear hx21
       try clear qi21
       try clear c29
       try clear c29b0
       try clear c29b1
       try clear c31
       try clear p64
       try clear c83
       try clear c83b0
       try clear c84
       try clear c84b0
       try clear c85
       try clear c87
       try clear c87b0
       try clear c88
       try clear c88b0
       try clear c89
       try clear c91
       try clear c92
       try clear c92b0
       try clear c93
       try clear c93b0
       try clear c93b1
       try clear c94
       try clear c95
       try clear c97
       try clear c97b0
       try clear c97b1
       try clear c98
       try clear c98b0
       try clear c98b1
       try clear c99
       try clear c108
       try clear q111
       try clear c115
       try clear q115
       try clear c117
       try clear c117b0
       try clear c117b1
       try clear c122
       try clear c122b0
       try clear c122b1
       try clear c123
       try clear hx178_0
       try clear hx182_0
       try clear hx211_0
       try clear p178
       try clear p182
       try clear p211
       try clear q0115
       try clear q111
       try clear q115
       try clear q178
       try clear q182
       try clear q211
       obtain ⟨kq,x13_118,HA,HJ118,HO_13,HI0,HK,HB⟩:=hcut
       cases kq with
       | zero=>exact absurd HA.out (by simp [spec_l20Term.j2])
       | succ kj118 =>
        have H:=HA.out
        clear HA
        simp only [spec_l20Term.j2] at H
        replace H:=Option.bind_eq_some_iff.mp H
        obtain ⟨⟨t218,t219⟩,A1250,H⟩:=H
        replace H:(if t218=true then ((spec_l20Rd_pick.f kj118 s0_0 t219 3).bind fun bt220=>(if bt220.1=0 then (some ((([]:List (S33))),bt220.2)) else (if bt220.1=1 then (if x13_118.length<8796093022208 then (some ((x13_118++[(⟨5,0⟩:S33)]),bt220.2)) else (none)) else ((spec_l20Rd_pick.f kj118 s0_0 bt220.2 2).bind fun bt228=>(if 0<(x13_118.length:Int) then (some ((x13_118.set (0:Int).toNat (⟨bt228.1,6⟩:S33)),bt228.2)) else (none)))))) else (some (x13_118,t219)))=some (r1,r2):=H
        have A125:=mA A1250
        clear A1250
        by_cases c126:t218=true
        ·subst c126
         have H1:((spec_l20Rd_pick.f kj118 s0_0 t219 3).bind fun bt220=>(if bt220.1=0 then (some ((([]:List (S33))),bt220.2)) else (if bt220.1=1 then (if x13_118.length<8796093022208 then (some ((x13_118++[(⟨5,0⟩:S33)]),bt220.2)) else (none)) else ((spec_l20Rd_pick.f kj118 s0_0 bt220.2 2).bind fun bt228=>(if 0<(x13_118.length:Int) then (some ((x13_118.set (0:Int).toNat (⟨bt228.1,6⟩:S33)),bt228.2)) else (none))))))=some (r1,r2):=by rw [if_pos rfl] at H;exact H
         clear H
         have H:=H1
         clear H1
         replace H:=Option.bind_eq_some_iff.mp H
         obtain ⟨⟨t220,t221⟩,A1270,H⟩:=H
         replace H:(if t220=0 then (some ((([]:List (S33))),t221)) else (if t220=1 then (if x13_118.length<8796093022208 then (some ((x13_118++[(⟨5,0⟩:S33)]),t221)) else (none)) else ((spec_l20Rd_pick.f kj118 s0_0 t221 2).bind fun bt228=>(if 0<(x13_118.length:Int) then (some ((x13_118.set (0:Int).toNat (⟨bt228.1,6⟩:S33)),bt228.2)) else (none)))))=some (r1,r2):=H
         have A127:=mA A1270
         clear A1270
         by_cases c128:t220=0
         ·rw [if_pos c128] at H
          have c128b0:(t220==0)=true:=beq_iff_eq.mpr c128
          have c128b1:(t220 != 0)=false:=bne_eq_false_iff_eq.mpr c128
          clear c128
          obtain ⟨y222,hy222⟩ : ∃ y_:List (S33),y_=(([]:List (S33))):=⟨_,rfl⟩
          replace H:(some (y222,t221))=some (r1,r2):=by first|(rw [hy222];with_reducible exact H)|(have H2_:=(Option.bind_some _ _).symm.trans H;rw [hy222];with_reducible exact H2_)|(have H2_:=(Option.bind_some _ _).symm.trans H;with_reducible exact H2_)|with_reducible exact H|(rw [hy222];exact H)|exact H
          have Ny222:=mA hy222
          clear hy222
          simp only [Option.some.injEq,Prod.mk.injEq] at H
          obtain ⟨rfl,rfl⟩:=H
          go_wp2_with (first|((with_reducible refine gate_callee (f:=139) rfl ?_);refine goesL_ (some 119) rfl rfl Try.func139 (by kernel_rfl) rfl #[.pointer (some ⟨g,0,none⟩),.int .i64 a2] rfl (by (try simp only [mT,mC,mN]);first|done|rfl|(simp only [lD,lT];rfl)) ?_;(with_reducible refine (spec_l20Rd_odd.calls kj118 g s0_0 t214 a2 true t219 w0 _ ?side1 ?side2 A125.out).mono ?_);(case side1=>repeat first|(with_reducible first|exact HI0.out|apply iA|apply iN|apply iD|apply iS)|exact HI0.out);(case side2=>repeat first|(with_reducible first|exact HB.out|apply bA|apply bN|apply bD|refine bS ?_ (iG HI0.out))|exact HB.out);rintro e w129 ⟨rfl,hi,hb,hk⟩;refine ⟨_,rfl,?_⟩;have n0_:=mA (rM (Kd.R_keep (iP (show IsS113 w0 _ g s0_0 t214 from by repeat first|(with_reducible first|exact HI0.out|apply iA|apply iN|apply iD|apply iS)|exact HI0.out) (by (with_reducible repeat first|apply rA|apply rN|apply rD);exact HO_13.out) (by decide)) hk (fun _ h=>h.2)) (fun _ h=>h.1));have n1_:=mA (eT (by repeat first|(with_reducible first|exact HK.out|apply eS|apply eN|apply eD|apply eA)|exact HK.out) hk (.inl rfl));have n2_:=mA (hb);have n3_:=mA (hi);clear HO_13 HK HB HI0;have HO_13:=n0_;have HK:=n1_;have HB:=n2_;have HI0:=n3_;clear n0_ n1_ n2_ n3_;(try clear hb);(try clear hb2);(try clear hk);(try clear hi))|((with_reducible refine gate_callee (f:=108) rfl ?_);refine goesL_ (some 121) rfl rfl Try.func108 (by kernel_rfl) rfl #[.pointer (some ⟨g,0,none⟩),.int .i64 3] rfl (by (try simp only [mT,mC,mN]);first|done|rfl|(simp only [lD,lT];rfl)) ?_;(with_reducible refine (spec_l20Rd_pick.calls kj118 g s0_0 t219 3 t220 t221 w0 _ ?side1 ?side2 A127.out).mono ?_);(case side1=>repeat first|(with_reducible first|exact HI0.out|apply iA|apply iN|apply iD|apply iS)|exact HI0.out);(case side2=>repeat first|(with_reducible first|exact HB.out|apply bA|apply bN|apply bD|refine bS ?_ (iG HI0.out))|exact HB.out);rintro e w130 ⟨rfl,hi,hb,hk⟩;refine ⟨_,rfl,?_⟩;have n0_:=mA (rM (Kd.R_keep (iP (show IsS113 w0 _ g s0_0 t219 from by repeat first|(with_reducible first|exact HI0.out|apply iA|apply iN|apply iD|apply iS)|exact HI0.out) (by (with_reducible repeat first|apply rA|apply rN|apply rD);exact HO_13.out) (by decide)) hk (fun _ h=>h.2)) (fun _ h=>h.1));have n1_:=mA (eT (by repeat first|(with_reducible first|exact HK.out|apply eS|apply eN|apply eD|apply eA)|exact HK.out) hk (.inl rfl));have n2_:=mA (hb);have n3_:=mA (hi);clear HO_13 HK HB HI0;have HO_13:=n0_;have HK:=n1_;have HB:=n2_;have HI0:=n3_;clear n0_ n1_ n2_ n3_;(try clear hb);(try clear hb2);(try clear hk);(try clear hi))|((with_reducible refine gate_dst (N:=129) rfl ?_);refine Kd.R_lit k33 _ 33 ?hg (N:=129) ?hd (xs:=([]:List (S33))) (inner:=[]) (ok:=fun _=>True) (okp:=fun _=>True) ?hr ?hp (fun _ hk=>hk) trivial (Below.refl _ _) (Nat.le_refl _) (by simp) ?_;(case hd=>rfl);(case hg=>rfl);(case hr=>first|(go_simp;done)|(go_simp;rfl));(case hp=>exact (Reps.none _ _));intro v223 w131 ho132 hb hg_ hnew_;clear hg_ hnew_;(first|rw [←Ny222.out] at ho132|(simp only [Int.reduceToNat] at ho132;rw [←Ny222.out] at ho132));have n0_:=mA (rE (by (with_reducible repeat first|apply rA|apply rN|apply rD);exact HO_13.out) (Kd.R_base ho132) hb);have n1_:=mA (rW (rQ ho132 (rL (by (with_reducible repeat first|apply rA|apply rN|apply rD);exact HO_13.out))) (eZ (w:=w) (g:=g) (row:=none) (by repeat first|(with_reducible first|exact HK.out|apply eS|apply eN|apply eD|apply eA)|exact HK.out)));have n2_:=mA (iB (by repeat first|(with_reducible first|exact HI0.out|apply iA|apply iN|apply iD|apply iS)|exact HI0.out) hb);have n3_:=mA (eT (by repeat first|(with_reducible first|exact HK.out|apply eS|apply eN|apply eD|apply eA)|exact HK.out) (eB hb g none) (.inl rfl));have n4_:=mA (bT (by repeat first|(with_reducible first|exact HB.out|apply bA|apply bN|apply bD|refine bS ?_ (iG HI0.out))|exact HB.out) hb);clear HO_13 HI0 HK HB;have HO_13:=n0_;have HO224:=n1_;have HI0:=n2_;have HK:=n3_;have HB:=n4_;clear n0_ n1_ n2_ n3_ n4_ hb ho132))
          go_ret
          exact ⟨_,by first|rfl|(simp [errW_none,errW_some]<;>rfl)|(simp only [←hji4, ←hji5];first|rfl|(simp [errW_none,errW_some]<;>rfl))|(simp [*, errW_none,errW_some]<;>rfl),by (with_reducible repeat first|apply rA|apply rN|apply rD);exact rM HO224.out (fun _ hk=>trivial),by repeat (first|(with_reducible first|exact HI0.out|apply iA|apply iN|apply iD|apply iS)|exact HI0.out),by repeat (first|(with_reducible first|exact HB.out|apply bA|apply bN|apply bD|refine bS ?_ (iG HI0.out))|exact HB.out),by repeat (first|(with_reducible first|exact HK.out|apply eS|apply eN|apply eD|apply eA)|exact HK.out)⟩
         rw [if_neg c128] at H
         have c128b0:(t220==0)=false:=beq_eq_false_iff_ne.mpr c128
         have c128b1:(t220 != 0)=true:=bne_iff_ne.mpr c128
         by_cases c133:t220=1
         ·rw [if_pos c133] at H
          have c133b0:(t220==1)=true:=beq_iff_eq.mpr c133
          have c133b1:(t220 != 1)=false:=bne_eq_false_iff_eq.mpr c133
          clear c133
          by_cases c134:x13_118.length<8796093022208
          ·rw [if_pos c134] at H
           have LMc134:=mA c134
           clear c134
           obtain ⟨y225,hy225⟩ : ∃ y_:List (S33),y_=(x13_118++[(⟨5,0⟩:S33)]):=⟨_,rfl⟩
           replace H:(some (y225,t221))=some (r1,r2):=by first|(rw [hy225];with_reducible exact H)|(have H2_:=(Option.bind_some _ _).symm.trans H;rw [hy225];with_reducible exact H2_)|(have H2_:=(Option.bind_some _ _).symm.trans H;with_reducible exact H2_)|with_reducible exact H|(rw [hy225];exact H)|exact H
           have Ny225:=mA hy225
           clear hy225
           simp only [Option.some.injEq,Prod.mk.injEq] at H
           obtain ⟨rfl,rfl⟩:=H
           go_wp2_with (first|((with_reducible refine gate_callee (f:=139) rfl ?_);refine goesL_ (some 119) rfl rfl Try.func139 (by kernel_rfl) rfl #[.pointer (some ⟨g,0,none⟩),.int .i64 a2] rfl (by (try simp only [mT,mC,mN]);first|done|rfl|(simp only [lD,lT];rfl)) ?_;(with_reducible refine (spec_l20Rd_odd.calls kj118 g s0_0 t214 a2 true t219 w0 _ ?side1 ?side2 A125.out).mono ?_);(case side1=>repeat first|(with_reducible first|exact HI0.out|apply iA|apply iN|apply iD|apply iS)|exact HI0.out);(case side2=>repeat first|(with_reducible first|exact HB.out|apply bA|apply bN|apply bD|refine bS ?_ (iG HI0.out))|exact HB.out);rintro e w135 ⟨rfl,hi,hb,hk⟩;refine ⟨_,rfl,?_⟩;have n0_:=mA (rM (Kd.R_keep (iP (show IsS113 w0 _ g s0_0 t214 from by repeat first|(with_reducible first|exact HI0.out|apply iA|apply iN|apply iD|apply iS)|exact HI0.out) (by (with_reducible repeat first|apply rA|apply rN|apply rD);exact HO_13.out) (by decide)) hk (fun _ h=>h.2)) (fun _ h=>h.1));have n1_:=mA (eT (by repeat first|(with_reducible first|exact HK.out|apply eS|apply eN|apply eD|apply eA)|exact HK.out) hk (.inl rfl));have n2_:=mA (hb);have n3_:=mA (hi);clear HO_13 HK HB HI0;have HO_13:=n0_;have HK:=n1_;have HB:=n2_;have HI0:=n3_;clear n0_ n1_ n2_ n3_;(try clear hb);(try clear hb2);(try clear hk);(try clear hi))|((with_reducible refine gate_callee (f:=108) rfl ?_);refine goesL_ (some 121) rfl rfl Try.func108 (by kernel_rfl) rfl #[.pointer (some ⟨g,0,none⟩),.int .i64 3] rfl (by (try simp only [mT,mC,mN]);first|done|rfl|(simp only [lD,lT];rfl)) ?_;(with_reducible refine (spec_l20Rd_pick.calls kj118 g s0_0 t219 3 t220 t221 w0 _ ?side1 ?side2 A127.out).mono ?_);(case side1=>repeat first|(with_reducible first|exact HI0.out|apply iA|apply iN|apply iD|apply iS)|exact HI0.out);(case side2=>repeat first|(with_reducible first|exact HB.out|apply bA|apply bN|apply bD|refine bS ?_ (iG HI0.out))|exact HB.out);rintro e w136 ⟨rfl,hi,hb,hk⟩;refine ⟨_,rfl,?_⟩;have n0_:=mA (rM (Kd.R_keep (iP (show IsS113 w0 _ g s0_0 t219 from by repeat first|(with_reducible first|exact HI0.out|apply iA|apply iN|apply iD|apply iS)|exact HI0.out) (by (with_reducible repeat first|apply rA|apply rN|apply rD);exact HO_13.out) (by decide)) hk (fun _ h=>h.2)) (fun _ h=>h.1));have n1_:=mA (eT (by repeat first|(with_reducible first|exact HK.out|apply eS|apply eN|apply eD|apply eA)|exact HK.out) hk (.inl rfl));have n2_:=mA (hb);have n3_:=mA (hi);clear HO_13 HK HB HI0;have HO_13:=n0_;have HK:=n1_;have HB:=n2_;have HI0:=n3_;clear n0_ n1_ n2_ n3_;(try clear hb);(try clear hb2);(try clear hk);(try clear hi))|((with_reducible refine gate_builtin (b:=.append) (xs:=#[.tmp 132,.tmp 134]) rfl ?_);at_builtin;refine Kd.R_append k33 w.heap.size rfl (.tmp 132) (.tmp 134) 34 33 (.agg #[(.int .i64 0),(.int .i64 0)]) 16 rfl Try.underlying34 info33 rfl (by decide) (by omega) u13 x13_118 (⟨5,0⟩:S33) [.int .i64 5,.int .i64 0] (fun _=>True) (fun _=>False) rfl rfl ?aP (fun _ hk=>hk.elim) ?aF ?aO (Below.refl _ _) ?aS ?aL ?_;(case aP=>exact k33_mkM _ _ _ (⟨5,0⟩:S33));(case aF=>exact (fun _ _=>trivial));(case aO=>exact (by (with_reducible repeat first|apply rA|apply rN|apply rD);exact HO_13.out));(case aS=>exact (eZ (w:=w) (g:=g) (row:=none) (by repeat first|(with_reducible first|exact HK.out|apply eS|apply eN|apply eD|apply eA)|exact HK.out)));(case aL=>have:=LMc134.out;omega);intro v226 w137 ho hb hg hat;rw [←Ny225.out] at ho;have n0_:=mA (iW (by repeat first|(with_reducible first|exact HI0.out|apply iA|apply iN|apply iD|apply iS)|exact HI0.out) hg (iO HI0.out HO_13.out (by decide)));have n1_:=mA (bW (by repeat first|(with_reducible first|exact HB.out|apply bA|apply bN|apply bD|refine bS ?_ (iG HI0.out))|exact HB.out) HL.out hb);have n2_:=mA (eT (by repeat first|(with_reducible first|exact HK.out|apply eS|apply eN|apply eD|apply eA)|exact HK.out) (eG hg g) (Kd.R_base2 HO_13.out));have n3_:=mA (ho);clear HI0 HB HK HO_13;have HI0:=n0_;have HB:=n1_;have HK:=n2_;have HO227:=n3_;clear n0_ n1_ n2_ n3_ ho hb hg hat))
           go_ret
           exact ⟨_,by first|rfl|(simp [errW_none,errW_some]<;>rfl)|(simp only [←hji4, ←hji5];first|rfl|(simp [errW_none,errW_some]<;>rfl))|(simp [*, errW_none,errW_some]<;>rfl),by (with_reducible repeat first|apply rA|apply rN|apply rD);exact HO227.out,by repeat (first|(with_reducible first|exact HI0.out|apply iA|apply iN|apply iD|apply iS)|exact HI0.out),by repeat (first|(with_reducible first|exact HB.out|apply bA|apply bN|apply bD|refine bS ?_ (iG HI0.out))|exact HB.out),by repeat (first|(with_reducible first|exact HK.out|apply eS|apply eN|apply eD|apply eA)|exact HK.out)⟩
          rw [if_neg c134] at H
          exact absurd H (by simp)
         rw [if_neg c133] at H
         have c133b0:(t220==1)=false:=beq_eq_false_iff_ne.mpr c133
         have c133b1:(t220 != 1)=true:=bne_iff_ne.mpr c133
         replace H:=Option.bind_eq_some_iff.mp H
         obtain ⟨⟨t228,t229⟩,A1380,H⟩:=H
         replace H:(if 0<(x13_118.length:Int) then (some ((x13_118.set (0:Int).toNat (⟨t228,6⟩:S33)),t229)) else (none))=some (r1,r2):=H
         have A138:=mA A1380
         clear A1380
         by_cases c139:0<(x13_118.length:Int)
         ·rw [if_pos c139] at H
          have c139b0:decide (0<(x13_118.length:Int))=true:=decide_eq_true c139
          have c139b1:decide (0<x13_118.length)=true:=decide_eq_true (by omega)
          clear c139
          obtain ⟨y230,hy230⟩ : ∃ y_:List (S33),y_=(x13_118.set (0:Int).toNat (⟨t228,6⟩:S33)):=⟨_,rfl⟩
          replace H:(some (y230,t229))=some (r1,r2):=by first|(rw [hy230];with_reducible exact H)|(have H2_:=(Option.bind_some _ _).symm.trans H;rw [hy230];with_reducible exact H2_)|(have H2_:=(Option.bind_some _ _).symm.trans H;with_reducible exact H2_)|with_reducible exact H|(rw [hy230];exact H)|exact H
          have Ny230:=mA hy230
          clear hy230
          simp only [Option.some.injEq,Prod.mk.injEq] at H
          obtain ⟨rfl,rfl⟩:=H
          go_wp2_with (first|((with_reducible refine gate_callee (f:=139) rfl ?_);refine goesL_ (some 119) rfl rfl Try.func139 (by kernel_rfl) rfl #[.pointer (some ⟨g,0,none⟩),.int .i64 a2] rfl (by (try simp only [mT,mC,mN]);first|done|rfl|(simp only [lD,lT];rfl)) ?_;(with_reducible refine (spec_l20Rd_odd.calls kj118 g s0_0 t214 a2 true t219 w0 _ ?side1 ?side2 A125.out).mono ?_);(case side1=>repeat first|(with_reducible first|exact HI0.out|apply iA|apply iN|apply iD|apply iS)|exact HI0.out);(case side2=>repeat first|(with_reducible first|exact HB.out|apply bA|apply bN|apply bD|refine bS ?_ (iG HI0.out))|exact HB.out);rintro e w141 ⟨rfl,hi,hb,hk⟩;refine ⟨_,rfl,?_⟩;have n0_:=mA (rM (Kd.R_keep (iP (show IsS113 w0 _ g s0_0 t214 from by repeat first|(with_reducible first|exact HI0.out|apply iA|apply iN|apply iD|apply iS)|exact HI0.out) (by (with_reducible repeat first|apply rA|apply rN|apply rD);exact HO_13.out) (by decide)) hk (fun _ h=>h.2)) (fun _ h=>h.1));have n1_:=mA (eT (by repeat first|(with_reducible first|exact HK.out|apply eS|apply eN|apply eD|apply eA)|exact HK.out) hk (.inl rfl));have n2_:=mA (hb);have n3_:=mA (hi);clear HO_13 HK HB HI0;have HO_13:=n0_;have HK:=n1_;have HB:=n2_;have HI0:=n3_;clear n0_ n1_ n2_ n3_;(try clear hb);(try clear hb2);(try clear hk);(try clear hi))|((with_reducible refine gate_callee (f:=108) rfl ?_);refine goesL_ (some 121) rfl rfl Try.func108 (by kernel_rfl) rfl #[.pointer (some ⟨g,0,none⟩),.int .i64 3] rfl (by (try simp only [mT,mC,mN]);first|done|rfl|(simp only [lD,lT];rfl)) ?_;(with_reducible refine (spec_l20Rd_pick.calls kj118 g s0_0 t219 3 t220 t221 w0 _ ?side1 ?side2 A127.out).mono ?_);(case side1=>repeat first|(with_reducible first|exact HI0.out|apply iA|apply iN|apply iD|apply iS)|exact HI0.out);(case side2=>repeat first|(with_reducible first|exact HB.out|apply bA|apply bN|apply bD|refine bS ?_ (iG HI0.out))|exact HB.out);rintro e w142 ⟨rfl,hi,hb,hk⟩;refine ⟨_,rfl,?_⟩;have n0_:=mA (rM (Kd.R_keep (iP (show IsS113 w0 _ g s0_0 t219 from by repeat first|(with_reducible first|exact HI0.out|apply iA|apply iN|apply iD|apply iS)|exact HI0.out) (by (with_reducible repeat first|apply rA|apply rN|apply rD);exact HO_13.out) (by decide)) hk (fun _ h=>h.2)) (fun _ h=>h.1));have n1_:=mA (eT (by repeat first|(with_reducible first|exact HK.out|apply eS|apply eN|apply eD|apply eA)|exact HK.out) hk (.inl rfl));have n2_:=mA (hb);have n3_:=mA (hi);clear HO_13 HK HB HI0;have HO_13:=n0_;have HK:=n1_;have HB:=n2_;have HI0:=n3_;clear n0_ n1_ n2_ n3_;(try clear hb);(try clear hb2);(try clear hk);(try clear hi))|((with_reducible refine gate_callee (f:=108) rfl ?_);refine goesL_ (some 124) rfl rfl Try.func108 (by kernel_rfl) rfl #[.pointer (some ⟨g,0,none⟩),.int .i64 2] rfl (by (try simp only [mT,mC,mN]);first|done|rfl|(simp only [lD,lT];rfl)) ?_;(with_reducible refine (spec_l20Rd_pick.calls kj118 g s0_0 t221 2 t228 t229 w0 _ ?side1 ?side2 A138.out).mono ?_);(case side1=>repeat first|(with_reducible first|exact HI0.out|apply iA|apply iN|apply iD|apply iS)|exact HI0.out);(case side2=>repeat first|(with_reducible first|exact HB.out|apply bA|apply bN|apply bD|refine bS ?_ (iG HI0.out))|exact HB.out);rintro e w143 ⟨rfl,hi,hb,hk⟩;refine ⟨_,rfl,?_⟩;have n0_:=mA (rM (Kd.R_keep (iP (show IsS113 w0 _ g s0_0 t221 from by repeat first|(with_reducible first|exact HI0.out|apply iA|apply iN|apply iD|apply iS)|exact HI0.out) (by (with_reducible repeat first|apply rA|apply rN|apply rD);exact HO_13.out) (by decide)) hk (fun _ h=>h.2)) (fun _ h=>h.1));have n1_:=mA (eT (by repeat first|(with_reducible first|exact HK.out|apply eS|apply eN|apply eD|apply eA)|exact HK.out) hk (.inl rfl));have n2_:=mA (hb);have n3_:=mA (hi);clear HO_13 HK HB HI0;have HO_13:=n0_;have HK:=n1_;have HB:=n2_;have HI0:=n3_;clear n0_ n1_ n2_ n3_;(try clear hb);(try clear hb2);(try clear hk);(try clear hi);have p140:0≤(0:Int):=(by omega);have q140:(0:Int)<((x13_118.length:Int):Int):=of_decide_eq_true (by first|with_reducible assumption|assumption);have qi140:(0<x13_118.length)=True:=eq_true (by omega);obtain ⟨go140,co140,eo140,gb140,gl140,cl140,HG140⟩:=Kd.R_form HO_13.out (by omega);(first|cases eo140|(injection eo140 with ea_ en_ ec_;(first|subst ea_|(injection ea_ with ea_;subst ea_));subst ec_;clear en_));have GB140:=mA gb140;have GG140:=mA HG140;clear gb140 gl140 HG140;obtain ⟨ce140,hcl140,hM140,hcc140,hfr140⟩:=Kd.R_elem HO_13.out z33 (0:Int) p140 q140;obtain rfl:=k33_openM hM140;have hx140_0:w143.cell? ⟨go140,(0:Int).toNat*2,none⟩=some (.int .i64 ((rd_T33 x13_118 0).f0)):=hcc140 0 _ rfl;have hx140_1:w143.cell? ⟨go140,(0:Int).toNat*2+1,none⟩=some (.int .i64 ((rd_T33 x13_118 0).f1)):=hcc140 1 _ rfl;have hf140_0:w143.frozen? ⟨go140,(0:Int).toNat*2,none⟩=false:=hfr140 0;have hf140_1:w143.frozen? ⟨go140,(0:Int).toNat*2+1,none⟩=false:=hfr140 1;clear hcl140 hcc140 hfr140;(try clear hM140);(try rw [show ((0:Int)).toNat=0 from rfl] at hx140_0);(try simp only [Nat.reduceMul,Nat.zero_mul,Nat.zero_add,Nat.reduceAdd] at hx140_0);(try rw [show ((0:Int)).toNat=0 from rfl] at hf140_0);(try simp only [Nat.reduceMul,Nat.zero_mul,Nat.zero_add,Nat.reduceAdd] at hf140_0);(try rw [show ((0:Int)).toNat=0 from rfl] at hx140_1);(try simp only [Nat.reduceMul,Nat.zero_mul,Nat.zero_add,Nat.reduceAdd] at hx140_1);(try rw [show ((0:Int)).toNat=0 from rfl] at hf140_1);(try simp only [Nat.reduceMul,Nat.zero_mul,Nat.zero_add,Nat.reduceAdd] at hf140_1);replace p140:=eq_true p140;replace q140:=eq_true q140;have HX144:=mA (show Kd.R k33 33 w143 w.heap.size (fun _=>True) (.slice (some ⟨go140,0,none⟩) x13_118.length co140) x13_118 from (by (with_reducible repeat first|apply rA|apply rN|apply rD);exact HO_13.out));obtain ⟨ce144,hcl144,hM144,hcc144,hfr144⟩:=Kd.R_elem HX144.out z33 (0:Int) (by omega) (by have h_:(0:Int)<((x13_118.length:Int):Int):=of_decide_eq_true (by first|with_reducible assumption|assumption);first|exact h_|(have e_:=(rR HO_13.out).1;omega)|simpa using h_);obtain rfl:=k33_openM hM144;have HP144:=Kd.R_seg HX144.out (0:Int) (by omega) (by have h_:(0:Int)<((x13_118.length:Int):Int):=of_decide_eq_true (by first|with_reducible assumption|assumption);first|exact h_|(have e_:=(rR HO_13.out).1;omega)|simpa using h_) (seg:=[.int .i64 t228,.int .i64 6]) (j:=0) hcl144 hcc144 (show 2≤2 from by decide) (x':=(⟨t228,6⟩:S33)) (k33_mkM _ _ _ (⟨t228,6⟩:S33) ) (fun _ hk=>hk);have hx144_0:=hcc144 0 _ rfl;(try simp only [show (k33).sz=2 from rfl,Nat.mul_one,Nat.add_zero] at hx144_0);(try rw [show ((0:Int)).toNat=0 from rfl] at hx144_0);(try simp only [Nat.reduceMul,Nat.zero_mul,Nat.zero_add,Nat.reduceAdd] at hx144_0);have hf144_0:=hfr144 0;(try simp only [show (k33).sz=2 from rfl,Nat.mul_one,Nat.add_zero] at hf144_0);(try rw [show ((0:Int)).toNat=0 from rfl] at hf144_0);(try simp only [Nat.reduceMul,Nat.zero_mul,Nat.zero_add,Nat.reduceAdd] at hf144_0);have hx144_1:=hcc144 1 _ rfl;(try simp only [show (k33).sz=2 from rfl,Nat.mul_one,Nat.add_zero] at hx144_1);(try rw [show ((0:Int)).toNat=0 from rfl] at hx144_1);(try simp only [Nat.reduceMul,Nat.zero_mul,Nat.zero_add,Nat.reduceAdd] at hx144_1);have hf144_1:=hfr144 1;(try simp only [show (k33).sz=2 from rfl,Nat.mul_one,Nat.add_zero] at hf144_1);(try rw [show ((0:Int)).toNat=0 from rfl] at hf144_1);(try simp only [Nat.reduceMul,Nat.zero_mul,Nat.zero_add,Nat.reduceAdd] at hf144_1);clear hcl144 hcc144 hfr144;(try clear hM144))|((with_reducible refine gate_store (t:=33) (p:=126) rfl ?_);refine store_event (t:=33) (p:=126) (v:=?vo_w145) (w1:=((w143.setCell ⟨go140,0,none⟩ (.int .i64 t228)).setCell ⟨go140,1,none⟩ (.int .i64 6))) ?hg ?ho ?hn ?hr ?_;(case ho=>rfl);(case hg=>rfl);(case hn=>rfl);(case hr=>first|(go_simp;done)|(go_simp;rfl));intro w145 hw;have hg:w143.grownBy w145 (some go140):=(by rw [hw];exact HP144.2);have hp_:Kd.R k33 33 w145 w.heap.size (fun _=>True) (.slice (some ⟨go140,0,none⟩) x13_118.length co140) y230:=(by rw [hw,Ny230.out];exact HP144.1);clear HP144;have n0_:=mA (hp_);have n1_:=mA (iW (by repeat first|(with_reducible first|exact HI0.out|apply iA|apply iN|apply iD|apply iS)|exact HI0.out) hg (iO HI0.out HO_13.out (by decide)));have n2_:=mA ((by rw [hw];exact bS (bS (HB.out) (Nat.le_trans HL.out GB140.out)) (Nat.le_trans HL.out GB140.out):Below w0.heap.size w0 w145));have n3_:=mA (eT (by repeat first|(with_reducible first|exact HK.out|apply eS|apply eN|apply eD|apply eA)|exact HK.out) (eG hg g) (Kd.R_base2 HO_13.out));clear HO_13 HI0 HB HK;have HO_13:=n0_;have HI0:=n1_;have HB:=n2_;have HK:=n3_;clear n0_ n1_ n2_ n3_ hg hw hp_))
          go_ret
          exact ⟨_,by first|rfl|(simp [errW_none,errW_some]<;>rfl)|(simp only [←hji4, ←hji5];first|rfl|(simp [errW_none,errW_some]<;>rfl))|(simp [*, errW_none,errW_some]<;>rfl),by (with_reducible repeat first|apply rA|apply rN|apply rD);exact HO_13.out,by repeat (first|(with_reducible first|exact HI0.out|apply iA|apply iN|apply iD|apply iS)|exact HI0.out),by repeat (first|(with_reducible first|exact HB.out|apply bA|apply bN|apply bD|refine bS ?_ (iG HI0.out))|exact HB.out),by repeat (first|(with_reducible first|exact HK.out|apply eS|apply eN|apply eD|apply eA)|exact HK.out)⟩
         rw [if_neg c139] at H
         exact absurd H (by simp)
        replace c126:=Bool.eq_false_iff.mpr c126
        subst c126
        have H1:(some (x13_118,t219))=some (r1,r2):=by rw [if_neg (show ¬ (false=true) by decide)] at H;exact H
        clear H
        have H:=H1
        clear H1
        simp only [Option.some.injEq,Prod.mk.injEq] at H
        obtain ⟨rfl,rfl⟩:=H
        go_wp2_with (first|((with_reducible refine gate_callee (f:=139) rfl ?_);refine goesL_ (some 119) rfl rfl Try.func139 (by kernel_rfl) rfl #[.pointer (some ⟨g,0,none⟩),.int .i64 a2] rfl (by (try simp only [mT,mC,mN]);first|done|rfl|(simp only [lD,lT];rfl)) ?_;(with_reducible refine (spec_l20Rd_odd.calls kj118 g s0_0 t214 a2 false t219 w0 _ ?side1 ?side2 A125.out).mono ?_);(case side1=>repeat first|(with_reducible first|exact HI0.out|apply iA|apply iN|apply iD|apply iS)|exact HI0.out);(case side2=>repeat first|(with_reducible first|exact HB.out|apply bA|apply bN|apply bD|refine bS ?_ (iG HI0.out))|exact HB.out);rintro e w146 ⟨rfl,hi,hb,hk⟩;refine ⟨_,rfl,?_⟩;have n0_:=mA (rM (Kd.R_keep (iP (show IsS113 w0 _ g s0_0 t214 from by repeat first|(with_reducible first|exact HI0.out|apply iA|apply iN|apply iD|apply iS)|exact HI0.out) (by (with_reducible repeat first|apply rA|apply rN|apply rD);exact HO_13.out) (by decide)) hk (fun _ h=>h.2)) (fun _ h=>h.1));have n1_:=mA (eT (by repeat first|(with_reducible first|exact HK.out|apply eS|apply eN|apply eD|apply eA)|exact HK.out) hk (.inl rfl));have n2_:=mA (hb);have n3_:=mA (hi);clear HO_13 HK HB HI0;have HO_13:=n0_;have HK:=n1_;have HB:=n2_;have HI0:=n3_;clear n0_ n1_ n2_ n3_;(try clear hb);(try clear hb2);(try clear hk);(try clear hi)))
        go_ret
        exact ⟨_,by first|rfl|(simp [errW_none,errW_some]<;>rfl)|(simp only [←hji4, ←hji5];first|rfl|(simp [errW_none,errW_some]<;>rfl))|(simp [*, errW_none,errW_some]<;>rfl),by (with_reducible repeat first|apply rA|apply rN|apply rD);exact HO_13.out,by repeat (first|(with_reducible first|exact HI0.out|apply iA|apply iN|apply iD|apply iS)|exact HI0.out),by repeat (first|(with_reducible first|exact HB.out|apply bA|apply bN|apply bD|refine bS ?_ (iG HI0.out))|exact HB.out),by repeat (first|(with_reducible first|exact HK.out|apply eS|apply eN|apply eD|apply eA)|exact HK.out)⟩
     rw [if_neg c117] at H
     exact absurd H (by simp)
end Go.Proofs.Ytpampekijfjlkab.X
