/- Joined by a program of this session's: X307. -/
import Derived.Test.YtpampekijfjlkabGa4ed4a3048
import Derived.Test.YtpampekijfjlkabGe4d161c943
import Derived.Test.YtpampekijfjlkabG37845066d4
import Derived.Test.YtpampekijfjlkabG852afbd604

namespace Go.Proofs.Ytpampekijfjlkab.X
open Go.RowKit Go.Proofs.YtpampekijfjlkabW.PrintWords Go.Proofs.YtpampekijfjlkabW.PrintLast Go.Proofs.YtpampekijfjlkabW.PrintMore
open Go.Proofs.YtpampekijfjlkabW.PrintWords renaming Aside0.mk → mA, pw_below_drewN → bN, below_drew1 → bD, below_alloc → bA, below_set → bS, blk_alloc → kA, blk_drewN → kN, blk_drew → kD, blk_cell → kC, blk_frozen → kF, below_step → bT, Kd.R_alloc → rA, Kd.R_drewN → rN, Kd.R_drew → rD, Kd.R_mono → rM, Kd.R_reads' → rR, Kd.R_far → rF, Kd.R_lt → rL, Kd.R_below → rB, KeepBut.set_ → eS, keep_drewN → eN, keep_alloc → eA, keep_drew → eD, keep_far → eF, KeepBut.trans → eT, KeepBut.of_below → eB, KeepBut.of_grown → eG, keep_size → eZ, Kd.R_elder' → rE, Kd.R_lower → rW, Kd.R_new' → rQ, Kd.R_after → rJ, Kd.R_types → rY, blk_put → kP, blk_far → kZ, blk_below → kB, blk_lt → kL, below_weaken → bW, Kd.C_alloc → cA, Kd.C_drewN → cN, Kd.C_drew → cD
open Go.Proofs.Ytpampekijfjlkab.X renaming IsS113.alloc → iA, IsS113.drewN → iN, IsS113.drew → iD, IsS113.set_1 → iS, IsS113.far → iF, IsS113.ge → iG, IsS113.below → iB, IsS113.lt → iL, IsS113.apart → iP, IsS113.grown → iW, IsS113.own_ne → iO
open List renaming setIfInBounds_toArray → sA, set_cons_zero → sZ, set_cons_succ → sS, length_take → lT, length_drop → lD, map_toArray → mT, map_cons → mC, map_nil → mN
open Bool renaming true → I, false → O
attribute [local go_sem] max2_int min2_int max_two min_two max_three min_three max_four min_four   -- for this text's walks alone
set_option linter.unusedVariables false
set_option linter.unusedSimpArgs false
set_option maxHeartbeats 8000000 in
set_option maxRecDepth 100000 in
theorem spec_l20Odd.way34 (k:Nat) (g:Nat) (s0_0:List Int) (s0_1:Int) (t102 t103:Int) (t104:List (S33)) (t107 t109 t110:Int) (y119 y122 y125 y128:List (S33)) (bq:Bool) (z2:Int) (z3:List (S33)) (w0 w:World) (hI:IsS113 w0 w g s0_0 s0_1) (hB:Below w0.heap.size w0 w) (A20:spec_l20Claimed.f k s0_0 s0_1 12=some (t102,t103,t104,t107)) (A30:spec_l20Rd_pick.f k s0_0 t107 4=some (t109,t110)) (c4 : ¬ t109=0) (c48:t109=1) (hy119:y119=(([]:List (S33)))) (hy122:y122=(y119++t104)) (hy125:y125=(([(⟨0,t103⟩:S33),(⟨5,0⟩:S33)]:List (S33)))) (hy128:y128=(y122++y125)) (c49:y119.length+t104.length<8796093022208) (c50:y122.length+y125.length<8796093022208) (A510:spec_ClaimOk.f k t102 t103 y128=some bq) (hz2:(if bq=true then t103 else t103)=z2) (hz3:(if bq=true then y128 else t104)=z3) :
  Calls Try.prog 132 #[.pointer (some ⟨g,0,none⟩)] w fun e w'=>∃ v2_:Value,e = .returned (.tuple #[.int .i64 t102,.agg #[.int .i64 z2,v2_]])∧Kd.R k33 33 w' w.heap.size (fun _=>True) v2_ z3∧IsS113 w0 w' g s0_0 t110∧Below w0.heap.size w0 w'∧KeepBut w w' g none:=by
 have hu36:=Try.underlying36
 have hu33:=Try.underlying33
 have HI0:=mA hI
 have HK:=mA (KeepBut.refl w g none)
 have HL:=mA hB.size
 clear hI
 have HW0:=mA hB.size
 have HB:=mA hB
 clear hB
 have A2:=mA A20
 clear A20
 have A3:=mA A30
 clear A30
 have c4b0:(t109==0)=false:=beq_eq_false_iff_ne.mpr c4
 have c4b1:(t109 != 0)=true:=bne_iff_ne.mpr c4
 have c48b0:(t109==1)=true:=beq_iff_eq.mpr c48
 have c48b1:(t109 != 1)=false:=bne_eq_false_iff_eq.mpr c48
 clear c48
 have Ny119:=mA hy119
 clear hy119
 have Ny122:=mA hy122
 clear hy122
 have Ny125:=mA hy125
 clear hy125
 have Ny128:=mA hy128
 clear hy128
 have LMc49:=mA c49
 clear c49
 have LMc50:=mA c50
 clear c50
 have A51:=mA A510
 clear A510
 have HZ2:=mA hz2
 clear hz2
 have HZ3:=mA hz3
 clear hz3
 go_enter Try.func132,Try.ntmps132
 try go_wp2_with (first|((with_reducible refine gate_dst (N:=3) rfl ?_);refine box_event ?hg (N:=3) ?hd (cs:=#[.int .i64 0,.slice none 0 0]) (t:=36) ?hr ?_;(case hd=>rfl);(case hg=>rfl);(case hr=>first|(go_simp;done)|(go_simp;rfl));intro gb101 hg w53 hbox hb;have n0_:=mA (iB (by repeat first|(with_reducible first|exact HI0.out|apply iA|apply iN|apply iD|apply iS)|exact HI0.out) hb);have n1_:=mA (eT (by repeat first|(with_reducible first|exact HK.out|apply eS|apply eN|apply eD|apply eA)|exact HK.out) (eB hb g none) (.inl rfl));have n2_:=mA (bT (by repeat first|(with_reducible first|exact HB.out|apply bA|apply bN|apply bD|refine bS ?_ (iG HI0.out))|exact HB.out) hb);have n3_:=mA (hbox);have n4_:=mA ((by rw [hg];exact (eZ (w:=w) (g:=g) (row:=none) (by repeat first|(with_reducible first|exact HK.out|apply eS|apply eN|apply eD|apply eA)|exact HK.out)):w.heap.size≤gb101));have n5_:=mA ((Nat.le_trans HW0.out (by rw [hg];exact (eZ (w:=w) (g:=g) (row:=none) (by repeat first|(with_reducible first|exact HK.out|apply eS|apply eN|apply eD|apply eA)|exact HK.out)):w.heap.size≤gb101):w0.heap.size≤gb101));have n6_:=mA ((by rw [hg];exact Nat.ne_of_lt (iL (show IsS113 w0 _ g s0_0 s0_1 from by repeat first|(with_reducible first|exact HI0.out|apply iA|apply iN|apply iD|apply iS)|exact HI0.out)):g≠gb101));have n7_:=mA ((by rw [hg];exact Nat.ne_of_gt (iL (show IsS113 w0 _ g s0_0 s0_1 from by repeat first|(with_reducible first|exact HI0.out|apply iA|apply iN|apply iD|apply iS)|exact HI0.out)):gb101≠g));clear HI0 HK HB;have HI0:=n0_;have HK:=n1_;have HB:=n2_;have BK101:=n3_;have GW101:=n4_;have GE101:=n5_;have NB0_101:=n6_;have NB101_0:=n7_;clear n0_ n1_ n2_ n3_ n4_ n5_ n6_ n7_ hb hbox hg)|((with_reducible refine gate_callee (f:=107) rfl ?_);refine goesL_ (some 11) rfl rfl Try.func107 (by kernel_rfl) rfl #[.pointer (some ⟨g,0,none⟩),.int .i64 12] rfl (by (try simp only [mT,mC,mN]);first|done|rfl|(simp only [lD,lT];rfl)) ?_;(with_reducible refine (spec_l20Claimed.calls k g s0_0 s0_1 12 t102 t103 t104 t107 w0 _ ?side1 ?side2 A2.out).mono ?_);(case side1=>repeat first|(with_reducible first|exact HI0.out|apply iA|apply iN|apply iD|apply iS|refine iF ?_ NB0_101.out _)|exact HI0.out);(case side2=>repeat first|(with_reducible first|exact HB.out|apply bA|apply bN|apply bD|refine bS ?_ (iG HI0.out)|refine bS ?_ GE101.out)|exact HB.out);rintro e w54 ⟨v105,rfl,ho0,hi,hb,hk⟩;refine ⟨_,rfl,?_⟩;have n0_:=mA (KeepBut.blk hk (g':=gb101) (o:=.cells #[.int .i64 0,.slice none 0 0] 36 (0,0)) (by (with_reducible repeat first|refine kN ?_ _|refine kD ?_|refine kA ?_ _);exact BK101.out) NB101_0.out (by simp));have n1_:=mA (rW ho0 (eZ (w:=w) (g:=g) (row:=none) (by repeat first|(with_reducible first|exact HK.out|apply eS|apply eN|apply eD|apply eA|refine eF ?_ GW101.out _)|exact HK.out)));have n2_:=mA (eT (by repeat first|(with_reducible first|exact HK.out|apply eS|apply eN|apply eD|apply eA|refine eF ?_ GW101.out _)|exact HK.out) hk (.inl rfl));have n3_:=mA (hb);have n4_:=mA (hi);clear BK101 HK HB HI0;have BK101:=n0_;have HO106:=n1_;have HK:=n2_;have HB:=n3_;have HI0:=n4_;clear n0_ n1_ n2_ n3_ n4_;(try clear hb);(try clear hb2);(try clear hk);(try clear hi);(try clear ho0))|((with_reducible refine gate_dst (N:=5) rfl ?_);refine box_event ?hg (N:=5) ?hd (cs:=#[.int .i64 0,.slice none 0 0]) (t:=36) ?hr ?_;(case hd=>rfl);(case hg=>rfl);(case hr=>first|(go_simp;done)|(go_simp;rfl));intro gb108 hg w55 hbox hb;have n0_:=mA (rB (by (with_reducible repeat first|apply rA|apply rN|apply rD);exact HO106.out) hb);have n1_:=mA (iB (by repeat first|(with_reducible first|exact HI0.out|apply iA|apply iN|apply iD|apply iS|refine iF ?_ NB0_101.out _)|exact HI0.out) hb);have n2_:=mA (kB (g:=gb101) (o:=.cells #[.int .i64 0,.slice none 0 0] 36 (0,0)) (by (with_reducible repeat first|refine kN ?_ _|refine kD ?_|refine kA ?_ _);exact BK101.out) hb);have n3_:=mA (eT (by repeat first|(with_reducible first|exact HK.out|apply eS|apply eN|apply eD|apply eA|refine eF ?_ GW101.out _)|exact HK.out) (eB hb g none) (.inl rfl));have n4_:=mA (bT (by repeat first|(with_reducible first|exact HB.out|apply bA|apply bN|apply bD|refine bS ?_ (iG HI0.out)|refine bS ?_ GE101.out)|exact HB.out) hb);have n5_:=mA (hbox);have n6_:=mA ((by rw [hg];exact (eZ (w:=w) (g:=g) (row:=none) (by repeat first|(with_reducible first|exact HK.out|apply eS|apply eN|apply eD|apply eA|refine eF ?_ GW101.out _)|exact HK.out)):w.heap.size≤gb108));have n7_:=mA ((Nat.le_trans HW0.out (by rw [hg];exact (eZ (w:=w) (g:=g) (row:=none) (by repeat first|(with_reducible first|exact HK.out|apply eS|apply eN|apply eD|apply eA|refine eF ?_ GW101.out _)|exact HK.out)):w.heap.size≤gb108):w0.heap.size≤gb108));have n8_:=mA ((by rw [hg];exact Nat.ne_of_lt (kL (g:=gb101) (o:=.cells #[.int .i64 0,.slice none 0 0] 36 (0,0)) (by (with_reducible repeat first|refine kN ?_ _|refine kD ?_|refine kA ?_ _);exact BK101.out)):gb101≠gb108));have n9_:=mA ((by rw [hg];exact Nat.ne_of_gt (kL (g:=gb101) (o:=.cells #[.int .i64 0,.slice none 0 0] 36 (0,0)) (by (with_reducible repeat first|refine kN ?_ _|refine kD ?_|refine kA ?_ _);exact BK101.out)):gb108≠gb101));have n10_:=mA ((by rw [hg];exact Nat.ne_of_lt (iL (show IsS113 w0 _ g s0_0 t107 from by repeat first|(with_reducible first|exact HI0.out|apply iA|apply iN|apply iD|apply iS|refine iF ?_ NB0_101.out _)|exact HI0.out)):g≠gb108));have n11_:=mA ((by rw [hg];exact Nat.ne_of_gt (iL (show IsS113 w0 _ g s0_0 t107 from by repeat first|(with_reducible first|exact HI0.out|apply iA|apply iN|apply iD|apply iS|refine iF ?_ NB0_101.out _)|exact HI0.out)):gb108≠g));clear HO106 HI0 BK101 HK HB;have HO106:=n0_;have HI0:=n1_;have BK101:=n2_;have HK:=n3_;have HB:=n4_;have BK108:=n5_;have GW108:=n6_;have GE108:=n7_;have NB101_108:=n8_;have NB108_101:=n9_;have NB0_108:=n10_;have NB108_0:=n11_;clear n0_ n1_ n2_ n3_ n4_ n5_ n6_ n7_ n8_ n9_ n10_ n11_ hb hbox hg;have hnb56:=NB108_101.out;have hnc56:=NB101_108.out;have hnb57:=NB108_0.out;have hnc57:=NB0_108.out;have hcz58_0:w55.cell? ⟨gb108,0,none⟩=some (.int .i64 0):=(kC BK108.out 0).trans rfl;have hcz58_1:w55.cell? ⟨gb108,1,none⟩=some (.slice none 0 0):=(kC BK108.out 1).trans rfl;have hfz58_0:=kF BK108.out 0;have hfz58_1:=kF BK108.out 1;obtain ⟨Ao59,co59,eo59⟩:=Kd.R_slice HO106.out;subst eo59)|((with_reducible refine gate_callee (f:=108) rfl ?_);refine goesL_ (some 15) rfl rfl Try.func108 (by kernel_rfl) rfl #[.pointer (some ⟨g,0,none⟩),.int .i64 4] rfl (by (try simp only [mT,mC,mN]);first|done|rfl|(simp only [lD,lT];rfl)) ?_;(with_reducible refine (spec_l20Rd_pick.calls k g s0_0 t107 4 t109 t110 w0 _ ?side1 ?side2 A3.out).mono ?_);(case side1=>repeat first|(with_reducible first|exact HI0.out|apply iA|apply iN|apply iD|apply iS|refine iF ?_ NB0_101.out _|refine iF ?_ NB0_108.out _)|exact HI0.out);(case side2=>repeat first|(with_reducible first|exact HB.out|apply bA|apply bN|apply bD|refine bS ?_ (iG HI0.out)|refine bS ?_ GE101.out|refine bS ?_ GE108.out)|exact HB.out);rintro e w60 ⟨rfl,hi,hb,hk⟩;refine ⟨_,rfl,?_⟩;have n0_:=mA (KeepBut.blk hk (g':=gb101) (o:=.cells #[.int .i64 0,.slice none 0 0] 36 (0,0)) (by (with_reducible repeat first|refine kN ?_ _|refine kD ?_|refine kA ?_ _);refine kZ ?_ NB101_108.out _;(with_reducible repeat first|refine kN ?_ _|refine kD ?_|refine kA ?_ _);refine kZ ?_ NB101_108.out _;(with_reducible repeat first|refine kN ?_ _|refine kD ?_|refine kA ?_ _);exact BK101.out) NB101_0.out (by simp));have n1_:=mA (rM (Kd.R_keep (iP (show IsS113 w0 _ g s0_0 t107 from by repeat first|(with_reducible first|exact HI0.out|apply iA|apply iN|apply iD|apply iS|refine iF ?_ NB0_101.out _|refine iF ?_ NB0_108.out _)|exact HI0.out) (by (with_reducible repeat first|apply rA|apply rN|apply rD);exact (rM (rF (p:=⟨gb108,1,none⟩) (rF (p:=⟨gb108,0,none⟩) (rY HO106.out BK108.out (by decide)) (fun _ hk=>hk.2) (.int .i64 t103)) (fun _ hk=>hk.2) (.slice Ao59 t104.length co59)) (fun _ h_=>h_.1))) (by decide)) hk (fun _ h=>h.2)) (fun _ h=>h.1));have n2_:=mA (KeepBut.blk hk (g':=gb108) (o:=.cells #[.int .i64 t103,.slice Ao59 t104.length co59] 36 (0,0)) (by (with_reducible repeat first|refine kN ?_ _|refine kD ?_|refine kA ?_ _);refine kP (cs:=#[.int .i64 t103,.slice none 0 0]) ?_ 1 _ rfl;(with_reducible repeat first|refine kN ?_ _|refine kD ?_|refine kA ?_ _);refine kP (cs:=#[.int .i64 0,.slice none 0 0]) ?_ 0 _ rfl;(with_reducible repeat first|refine kN ?_ _|refine kD ?_|refine kA ?_ _);exact BK108.out) NB108_0.out (by simp));have n3_:=mA (eT (by repeat first|(with_reducible first|exact HK.out|apply eS|apply eN|apply eD|apply eA|refine eF ?_ GW101.out _|refine eF ?_ GW108.out _)|exact HK.out) hk (.inl rfl));have n4_:=mA (hb);have n5_:=mA (hi);clear BK101 HO106 BK108 HK HB HI0;have BK101:=n0_;have HO106:=n1_;have BK108:=n2_;have HK:=n3_;have HB:=n4_;have HI0:=n5_;clear n0_ n1_ n2_ n3_ n4_ n5_;(try clear hb);(try clear hb2);(try clear hk);(try clear hi)))
 have n0_:=mA (rD HO106.out)
 have n1_:=mA (kD BK101.out)
 have n2_:=mA (kD BK108.out)
 have n3_:=mA (iD HI0.out)
 have n4_:=mA (eD HK.out)
 have n5_:=mA (bD HB.out)
 clear HO106 BK101 BK108 HI0 HK HB
 have HO106:=n0_;have BK101:=n1_;have BK108:=n2_;have HI0:=n3_;have HK:=n4_;have HB:=n5_
 clear n0_ n1_ n2_ n3_ n4_ n5_
 refine start_ (n:=15) (S:=fun w'=>w'.cell? ⟨gb108,0,none⟩=some (.int .i64 t103)∧w'.cell? ⟨gb108,1,none⟩=some (.slice Ao59 t104.length co59)) (ds:=[]) #[O,O,O,O,O,O,O,O,O,O,O,O,O,O,O] (by kernel_rfl) rfl rfl ⟨(kC BK108.out 0).trans rfl,(kC BK108.out 1).trans rfl⟩ (fun hHeld=>?_);refine with_tabW spec_l20Odd.tab8 spec_l20Odd.bits8 (fun HT_ HW_=>?_)
 generalize w60.drew=w61 at HO106 BK101 BK108 HI0 HK HB hHeld ⊢
 refine pure_ (i:=0) (N:=some 35) (v:=?_) (a':=?_) #[I,O,O,O,O,O,O,O,O,O,O,O,O,O,O] rfl rfl (any_of HT_.out (by kernel_rfl)) (fun _ _ _ h=>h) (Or.inl ⟨by rfl,?_⟩) ?_ ?_
 rotate_left
 ·intro w'
  go_simp
  with_reducible rfl
 rotate_left
 ·simp only [Act.put,sA,sZ,sS,i64_w,i32_w]
  rfl
 refine pure_ (i:=3) (N:=some 38) (v:=?_) (a':=?_) #[I,O,O,I,O,O,O,O,O,O,O,O,O,O,O] rfl rfl (any_of HT_.out (by kernel_rfl)) (fun _ _ _ h=>h) (Or.inl ⟨by rfl,?_⟩) ?_ ?_
 rotate_left
 ·intro w'
  go_simp
  with_reducible rfl
 rotate_left
 ·simp only [Act.put,sA,sZ,sS,i64_w,i32_w]
  rfl
 refine pure_ (i:=6) (N:=some 41) (v:=?_) (a':=?_) #[I,O,O,I,O,O,I,O,O,O,O,O,O,O,O] rfl rfl (any_of HT_.out (by kernel_rfl)) (fun _ _ _ h=>h) (Or.inl ⟨by rfl,?_⟩) ?_ ?_
 rotate_left
 ·intro w'
  go_simp
  with_reducible rfl
 rotate_left
 ·simp only [Act.put,sA,sZ,sS,i64_w,i32_w]
  rfl
 refine pure_ (i:=9) (N:=some 44) (v:=?_) (a':=?_) #[I,O,O,I,O,O,I,O,O,I,O,O,O,O,O] rfl rfl (any_of HT_.out (by kernel_rfl)) (fun _ _ _ h=>h) (Or.inl ⟨by rfl,?_⟩) ?_ ?_
 rotate_left
 ·intro w'
  go_simp
  with_reducible rfl
 rotate_left
 ·simp only [Act.put,sA,sZ,sS,i64_w,i32_w]
  rfl
 refine take_ (i:=1) (N:=some 36) (v:=?_) (a':=?_) #[I,I,O,I,O,O,I,O,O,I,O,O,O,O,O] rfl rfl (take_ofW HT_.out HW_.out (by kernel_rfl)) (fun _ _ _ h=>h) (Or.inl ⟨by rfl,?_⟩) hHeld ?_ ?_
 rotate_left
 ·rintro w' ⟨s0,s1⟩
  go_simp
  with_reducible rfl
 rotate_left
 ·simp only [Act.put,sA,sZ,sS,i64_w,i32_w]
  rfl
 refine take_ (i:=4) (N:=some 39) (v:=?_) (a':=?_) #[I,I,O,I,I,O,I,O,O,I,O,O,O,O,O] rfl rfl (take_ofW HT_.out HW_.out (by kernel_rfl)) (fun _ _ _ h=>h) (Or.inl ⟨by rfl,?_⟩) hHeld ?_ ?_
 rotate_left
 ·rintro w' ⟨s0,s1⟩
  go_simp
  with_reducible rfl
 rotate_left
 ·simp only [Act.put,sA,sZ,sS,i64_w,i32_w]
  rfl
 refine take_ (i:=7) (N:=some 42) (v:=?_) (a':=?_) #[I,I,O,I,I,O,I,I,O,I,O,O,O,O,O] rfl rfl (take_ofW HT_.out HW_.out (by kernel_rfl)) (fun _ _ _ h=>h) (Or.inl ⟨by rfl,?_⟩) hHeld ?_ ?_
 rotate_left
 ·rintro w' ⟨s0,s1⟩
  go_simp
  with_reducible rfl
 rotate_left
 ·simp only [Act.put,sA,sZ,sS,i64_w,i32_w]
  rfl
 refine pure_ (i:=8) (N:=some 43) (v:=?_) (a':=?_) #[I,I,O,I,I,O,I,I,I,I,O,O,O,O,O] rfl rfl (any_of HT_.out (by kernel_rfl)) (fun _ _ _ h=>h) (Or.inl ⟨by rfl,?_⟩) ?_ ?_
 rotate_left
 ·intro w'
  go_simp
  with_reducible rfl
 rotate_left
 ·simp only [Act.put,sA,sZ,sS,i64_w,i32_w]
  rfl
 refine join_ (σ:=Value×Value×Value×Value×Nat) 1 #[I,I,I,I,I,I,I,I,I,I,I,I,I,I,O] (fun s_=>[(37,s_.1),(40,s_.2.1),(45,s_.2.2.1),(46,s_.2.2.2.1),(8,.pointer (some ⟨s_.2.2.2.2,0,none⟩)),(47,.agg #[.int .i64 t103,s_.2.2.2.1])]) (fun s_ w'=>(w'.cell? ⟨gb108,0,none⟩=some (.int .i64 t103)∧w'.cell? ⟨gb108,1,none⟩=some (.slice Ao59 t104.length co59))∧(Kd.R k33 33 w' w.heap.size (fun k_=>some k_≠(s_.2.2.1:Value).ownBlock∧some k_≠(s_.2.2.2.1:Value).ownBlock) (.slice Ao59 t104.length co59) t104)∧(Kd.R k33 33 w' w.heap.size (fun k_=>some k_≠(.slice Ao59 t104.length co59:Value).ownBlock∧some k_≠(s_.2.2.2.1:Value).ownBlock) s_.2.2.1 y125)∧(Kd.R k33 33 w' w.heap.size (fun k_=>some k_≠(.slice Ao59 t104.length co59:Value).ownBlock∧some k_≠(s_.2.2.1:Value).ownBlock) s_.2.2.2.1 y128)∧(w'.heap[gb101]?=some (.cells #[.int .i64 0,.slice none 0 0] 36 (0,0)))∧(w'.heap[gb108]?=some (.cells #[.int .i64 t103,.slice Ao59 t104.length co59] 36 (0,0)))∧(w'.heap[s_.2.2.2.2]?=some (.cells #[.int .i64 0,.slice none 0 0] 36 (0,0)))∧(w.heap.size≤s_.2.2.2.2)∧(w0.heap.size≤s_.2.2.2.2)∧(g≠s_.2.2.2.2)∧(s_.2.2.2.2≠g)∧(gb101≠s_.2.2.2.2)∧(s_.2.2.2.2≠gb101)∧(gb108≠s_.2.2.2.2)∧(s_.2.2.2.2≠gb108)∧(IsS113 w0 w' g s0_0 t110)∧(KeepBut w w' g none)∧(Below w0.heap.size w0 w')) ?_ ?_
 rotate_left
 ·intro hJ2_5_10_11_13
  refine join_ (σ:=Value×Value×Value×Value) 2 #[I,I,I,I,I,I,I,I,I,I,I,I,I,O,O] (fun s_=>[(37,s_.1),(40,s_.2.1),(45,s_.2.2.1),(46,s_.2.2.2),(47,.agg #[.int .i64 t103,s_.2.2.2])]) (fun s_ w'=>(w'.cell? ⟨gb108,0,none⟩=some (.int .i64 t103)∧w'.cell? ⟨gb108,1,none⟩=some (.slice Ao59 t104.length co59))∧(Kd.R k33 33 w' w.heap.size (fun k_=>some k_≠(s_.2.2.1:Value).ownBlock∧some k_≠(s_.2.2.2:Value).ownBlock) (.slice Ao59 t104.length co59) t104)∧(Kd.R k33 33 w' w.heap.size (fun k_=>some k_≠(.slice Ao59 t104.length co59:Value).ownBlock∧some k_≠(s_.2.2.2:Value).ownBlock) s_.2.2.1 y125)∧(Kd.R k33 33 w' w.heap.size (fun k_=>some k_≠(.slice Ao59 t104.length co59:Value).ownBlock∧some k_≠(s_.2.2.1:Value).ownBlock) s_.2.2.2 y128)∧(w'.heap[gb101]?=some (.cells #[.int .i64 0,.slice none 0 0] 36 (0,0)))∧(w'.heap[gb108]?=some (.cells #[.int .i64 t103,.slice Ao59 t104.length co59] 36 (0,0)))∧(IsS113 w0 w' g s0_0 t110)∧(KeepBut w w' g none)∧(Below w0.heap.size w0 w')) ?_ ?_
  rotate_left
  ·intro hJ2_5_10_11
   refine join_ (σ:=Value×Value×Value×Nat) 3 #[I,I,I,I,I,I,I,I,I,I,I,O,O,I,O] (fun s_=>[(37,s_.1),(40,s_.2.1),(45,s_.2.2.1),(8,.pointer (some ⟨s_.2.2.2,0,none⟩))]) (fun s_ w'=>(w'.cell? ⟨gb108,0,none⟩=some (.int .i64 t103)∧w'.cell? ⟨gb108,1,none⟩=some (.slice Ao59 t104.length co59))∧(Kd.R k33 33 w' w.heap.size (fun k_=>some k_≠(s_.2.1:Value).ownBlock∧some k_≠(s_.2.2.1:Value).ownBlock) (.slice Ao59 t104.length co59) t104)∧(Kd.R k33 33 w' w.heap.size (fun k_=>some k_≠(.slice Ao59 t104.length co59:Value).ownBlock∧some k_≠(s_.2.2.1:Value).ownBlock) s_.2.1 y122)∧(Kd.R k33 33 w' w.heap.size (fun k_=>some k_≠(.slice Ao59 t104.length co59:Value).ownBlock∧some k_≠(s_.2.1:Value).ownBlock) s_.2.2.1 y125)∧(w'.heap[gb101]?=some (.cells #[.int .i64 0,.slice none 0 0] 36 (0,0)))∧(w'.heap[gb108]?=some (.cells #[.int .i64 t103,.slice Ao59 t104.length co59] 36 (0,0)))∧(w'.heap[s_.2.2.2]?=some (.cells #[.int .i64 0,.slice none 0 0] 36 (0,0)))∧(w.heap.size≤s_.2.2.2)∧(w0.heap.size≤s_.2.2.2)∧(g≠s_.2.2.2)∧(s_.2.2.2≠g)∧(gb101≠s_.2.2.2)∧(s_.2.2.2≠gb101)∧(gb108≠s_.2.2.2)∧(s_.2.2.2≠gb108)∧(IsS113 w0 w' g s0_0 t110)∧(KeepBut w w' g none)∧(Below w0.heap.size w0 w')) ?_ ?_
   rotate_left
   ·intro hJ2_5_10_13
    refine join_ (σ:=Value×Value×Value) 4 #[I,I,I,I,I,I,I,I,I,I,I,O,O,O,O] (fun s_=>[(37,s_.1),(40,s_.2.1),(45,s_.2.2)]) (fun s_ w'=>(w'.cell? ⟨gb108,0,none⟩=some (.int .i64 t103)∧w'.cell? ⟨gb108,1,none⟩=some (.slice Ao59 t104.length co59))∧(Kd.R k33 33 w' w.heap.size (fun k_=>some k_≠(s_.2.1:Value).ownBlock∧some k_≠(s_.2.2:Value).ownBlock) (.slice Ao59 t104.length co59) t104)∧(Kd.R k33 33 w' w.heap.size (fun k_=>some k_≠(.slice Ao59 t104.length co59:Value).ownBlock∧some k_≠(s_.2.2:Value).ownBlock) s_.2.1 y122)∧(Kd.R k33 33 w' w.heap.size (fun k_=>some k_≠(.slice Ao59 t104.length co59:Value).ownBlock∧some k_≠(s_.2.1:Value).ownBlock) s_.2.2 y125)∧(w'.heap[gb101]?=some (.cells #[.int .i64 0,.slice none 0 0] 36 (0,0)))∧(w'.heap[gb108]?=some (.cells #[.int .i64 t103,.slice Ao59 t104.length co59] 36 (0,0)))∧(IsS113 w0 w' g s0_0 t110)∧(KeepBut w w' g none)∧(Below w0.heap.size w0 w')) ?_ ?_
    rotate_left
    ·intro hJ2_5_10
     refine join_ (σ:=Value×Value×Nat) 4 #[I,I,I,I,I,I,I,I,I,I,O,O,O,I,O] (fun s_=>[(37,s_.1),(40,s_.2.1),(8,.pointer (some ⟨s_.2.2,0,none⟩))]) (fun s_ w'=>(w'.cell? ⟨gb108,0,none⟩=some (.int .i64 t103)∧w'.cell? ⟨gb108,1,none⟩=some (.slice Ao59 t104.length co59))∧(Kd.R k33 33 w' w.heap.size (fun k_=>some k_≠(s_.2.1:Value).ownBlock) (.slice Ao59 t104.length co59) t104)∧(Kd.R k33 33 w' w.heap.size (fun k_=>some k_≠(.slice Ao59 t104.length co59:Value).ownBlock) s_.2.1 y122)∧(w'.heap[gb101]?=some (.cells #[.int .i64 0,.slice none 0 0] 36 (0,0)))∧(w'.heap[gb108]?=some (.cells #[.int .i64 t103,.slice Ao59 t104.length co59] 36 (0,0)))∧(w'.heap[s_.2.2]?=some (.cells #[.int .i64 0,.slice none 0 0] 36 (0,0)))∧(w.heap.size≤s_.2.2)∧(w0.heap.size≤s_.2.2)∧(g≠s_.2.2)∧(s_.2.2≠g)∧(gb101≠s_.2.2)∧(s_.2.2≠gb101)∧(gb108≠s_.2.2)∧(s_.2.2≠gb108)∧(IsS113 w0 w' g s0_0 t110)∧(KeepBut w w' g none)∧(Below w0.heap.size w0 w')) ?_ ?_
     rotate_left
     ·intro hJ2_5_13
      refine join_ (σ:=Value×Value×Nat) 4 #[I,I,I,I,I,O,I,I,I,I,I,O,O,I,O] (fun s_=>[(37,s_.1),(45,s_.2.1),(8,.pointer (some ⟨s_.2.2,0,none⟩))]) (fun s_ w'=>(w'.cell? ⟨gb108,0,none⟩=some (.int .i64 t103)∧w'.cell? ⟨gb108,1,none⟩=some (.slice Ao59 t104.length co59))∧(Kd.R k33 33 w' w.heap.size (fun k_=>some k_≠(s_.1:Value).ownBlock∧some k_≠(s_.2.1:Value).ownBlock) (.slice Ao59 t104.length co59) t104)∧(Kd.R k33 33 w' w.heap.size (fun k_=>some k_≠(.slice Ao59 t104.length co59:Value).ownBlock∧some k_≠(s_.2.1:Value).ownBlock) s_.1 y119)∧(Kd.R k33 33 w' w.heap.size (fun k_=>some k_≠(.slice Ao59 t104.length co59:Value).ownBlock∧some k_≠(s_.1:Value).ownBlock) s_.2.1 y125)∧(w'.heap[gb101]?=some (.cells #[.int .i64 0,.slice none 0 0] 36 (0,0)))∧(w'.heap[gb108]?=some (.cells #[.int .i64 t103,.slice Ao59 t104.length co59] 36 (0,0)))∧(w'.heap[s_.2.2]?=some (.cells #[.int .i64 0,.slice none 0 0] 36 (0,0)))∧(w.heap.size≤s_.2.2)∧(w0.heap.size≤s_.2.2)∧(g≠s_.2.2)∧(s_.2.2≠g)∧(gb101≠s_.2.2)∧(s_.2.2≠gb101)∧(gb108≠s_.2.2)∧(s_.2.2≠gb108)∧(IsS113 w0 w' g s0_0 t110)∧(KeepBut w w' g none)∧(Below w0.heap.size w0 w')) ?_ ?_
      rotate_left
      ·intro hJ2_10_13
       refine join_ (σ:=Value×Value) 5 #[I,I,I,I,I,I,I,I,I,I,O,O,O,O,O] (fun s_=>[(37,s_.1),(40,s_.2)]) (fun s_ w'=>(w'.cell? ⟨gb108,0,none⟩=some (.int .i64 t103)∧w'.cell? ⟨gb108,1,none⟩=some (.slice Ao59 t104.length co59))∧(Kd.R k33 33 w' w.heap.size (fun k_=>some k_≠(s_.2:Value).ownBlock) (.slice Ao59 t104.length co59) t104)∧(Kd.R k33 33 w' w.heap.size (fun k_=>some k_≠(.slice Ao59 t104.length co59:Value).ownBlock) s_.2 y122)∧(w'.heap[gb101]?=some (.cells #[.int .i64 0,.slice none 0 0] 36 (0,0)))∧(w'.heap[gb108]?=some (.cells #[.int .i64 t103,.slice Ao59 t104.length co59] 36 (0,0)))∧(IsS113 w0 w' g s0_0 t110)∧(KeepBut w w' g none)∧(Below w0.heap.size w0 w')) ?_ ?_
       rotate_left
       ·intro hJ2_5
        refine join_ (σ:=Value×Value) 5 #[I,I,I,I,I,O,I,I,I,I,I,O,O,O,O] (fun s_=>[(37,s_.1),(45,s_.2)]) (fun s_ w'=>(w'.cell? ⟨gb108,0,none⟩=some (.int .i64 t103)∧w'.cell? ⟨gb108,1,none⟩=some (.slice Ao59 t104.length co59))∧(Kd.R k33 33 w' w.heap.size (fun k_=>some k_≠(s_.1:Value).ownBlock∧some k_≠(s_.2:Value).ownBlock) (.slice Ao59 t104.length co59) t104)∧(Kd.R k33 33 w' w.heap.size (fun k_=>some k_≠(.slice Ao59 t104.length co59:Value).ownBlock∧some k_≠(s_.2:Value).ownBlock) s_.1 y119)∧(Kd.R k33 33 w' w.heap.size (fun k_=>some k_≠(.slice Ao59 t104.length co59:Value).ownBlock∧some k_≠(s_.1:Value).ownBlock) s_.2 y125)∧(w'.heap[gb101]?=some (.cells #[.int .i64 0,.slice none 0 0] 36 (0,0)))∧(w'.heap[gb108]?=some (.cells #[.int .i64 t103,.slice Ao59 t104.length co59] 36 (0,0)))∧(IsS113 w0 w' g s0_0 t110)∧(KeepBut w w' g none)∧(Below w0.heap.size w0 w')) ?_ ?_
        rotate_left
        ·intro hJ2_10
         refine join_ (σ:=Value×Nat) 5 #[I,I,I,I,I,O,I,I,I,I,O,O,O,I,O] (fun s_=>[(37,s_.1),(8,.pointer (some ⟨s_.2,0,none⟩))]) (fun s_ w'=>(w'.cell? ⟨gb108,0,none⟩=some (.int .i64 t103)∧w'.cell? ⟨gb108,1,none⟩=some (.slice Ao59 t104.length co59))∧(Kd.R k33 33 w' w.heap.size (fun k_=>some k_≠(s_.1:Value).ownBlock) (.slice Ao59 t104.length co59) t104)∧(Kd.R k33 33 w' w.heap.size (fun k_=>some k_≠(.slice Ao59 t104.length co59:Value).ownBlock) s_.1 y119)∧(w'.heap[gb101]?=some (.cells #[.int .i64 0,.slice none 0 0] 36 (0,0)))∧(w'.heap[gb108]?=some (.cells #[.int .i64 t103,.slice Ao59 t104.length co59] 36 (0,0)))∧(w'.heap[s_.2]?=some (.cells #[.int .i64 0,.slice none 0 0] 36 (0,0)))∧(w.heap.size≤s_.2)∧(w0.heap.size≤s_.2)∧(g≠s_.2)∧(s_.2≠g)∧(gb101≠s_.2)∧(s_.2≠gb101)∧(gb108≠s_.2)∧(s_.2≠gb108)∧(IsS113 w0 w' g s0_0 t110)∧(KeepBut w w' g none)∧(Below w0.heap.size w0 w')) ?_ ?_
         rotate_left
         ·intro hJ2_13
          refine join_ (σ:=Value×Nat) 5 #[I,I,O,I,I,O,I,I,I,I,I,O,O,I,O] (fun s_=>[(45,s_.1),(8,.pointer (some ⟨s_.2,0,none⟩))]) (fun s_ w'=>(w'.cell? ⟨gb108,0,none⟩=some (.int .i64 t103)∧w'.cell? ⟨gb108,1,none⟩=some (.slice Ao59 t104.length co59))∧(Kd.R k33 33 w' w.heap.size (fun k_=>some k_≠(s_.1:Value).ownBlock) (.slice Ao59 t104.length co59) t104)∧(Kd.R k33 33 w' w.heap.size (fun k_=>some k_≠(.slice Ao59 t104.length co59:Value).ownBlock) s_.1 y125)∧(w'.heap[gb101]?=some (.cells #[.int .i64 0,.slice none 0 0] 36 (0,0)))∧(w'.heap[gb108]?=some (.cells #[.int .i64 t103,.slice Ao59 t104.length co59] 36 (0,0)))∧(w'.heap[s_.2]?=some (.cells #[.int .i64 0,.slice none 0 0] 36 (0,0)))∧(w.heap.size≤s_.2)∧(w0.heap.size≤s_.2)∧(g≠s_.2)∧(s_.2≠g)∧(gb101≠s_.2)∧(s_.2≠gb101)∧(gb108≠s_.2)∧(s_.2≠gb108)∧(IsS113 w0 w' g s0_0 t110)∧(KeepBut w w' g none)∧(Below w0.heap.size w0 w')) ?_ ?_
          rotate_left
          ·intro hJ10_13
           refine join_ (σ:=Value) 6 #[I,I,I,I,I,O,I,I,I,I,O,O,O,O,O] (fun s_=>[(37,s_)]) (fun s_ w'=>(w'.cell? ⟨gb108,0,none⟩=some (.int .i64 t103)∧w'.cell? ⟨gb108,1,none⟩=some (.slice Ao59 t104.length co59))∧(Kd.R k33 33 w' w.heap.size (fun k_=>some k_≠(s_:Value).ownBlock) (.slice Ao59 t104.length co59) t104)∧(Kd.R k33 33 w' w.heap.size (fun k_=>some k_≠(.slice Ao59 t104.length co59:Value).ownBlock) s_ y119)∧(w'.heap[gb101]?=some (.cells #[.int .i64 0,.slice none 0 0] 36 (0,0)))∧(w'.heap[gb108]?=some (.cells #[.int .i64 t103,.slice Ao59 t104.length co59] 36 (0,0)))∧(IsS113 w0 w' g s0_0 t110)∧(KeepBut w w' g none)∧(Below w0.heap.size w0 w')) ?_ ?_
           rotate_left
           ·intro hJ2
            refine join_ (σ:=Value) 6 #[I,I,O,I,I,O,I,I,I,I,I,O,O,O,O] (fun s_=>[(45,s_)]) (fun s_ w'=>(w'.cell? ⟨gb108,0,none⟩=some (.int .i64 t103)∧w'.cell? ⟨gb108,1,none⟩=some (.slice Ao59 t104.length co59))∧(Kd.R k33 33 w' w.heap.size (fun k_=>some k_≠(s_:Value).ownBlock) (.slice Ao59 t104.length co59) t104)∧(Kd.R k33 33 w' w.heap.size (fun k_=>some k_≠(.slice Ao59 t104.length co59:Value).ownBlock) s_ y125)∧(w'.heap[gb101]?=some (.cells #[.int .i64 0,.slice none 0 0] 36 (0,0)))∧(w'.heap[gb108]?=some (.cells #[.int .i64 t103,.slice Ao59 t104.length co59] 36 (0,0)))∧(IsS113 w0 w' g s0_0 t110)∧(KeepBut w w' g none)∧(Below w0.heap.size w0 w')) ?_ ?_
            rotate_left
            ·intro hJ10
             refine join_ (σ:=Nat) 6 #[I,I,O,I,I,O,I,I,I,I,O,O,O,I,O] (fun s_=>[(8,.pointer (some ⟨s_,0,none⟩))]) (fun s_ w'=>(w'.cell? ⟨gb108,0,none⟩=some (.int .i64 t103)∧w'.cell? ⟨gb108,1,none⟩=some (.slice Ao59 t104.length co59))∧(Kd.R k33 33 w' w.heap.size (fun _=>True) (.slice Ao59 t104.length co59) t104)∧(w'.heap[gb101]?=some (.cells #[.int .i64 0,.slice none 0 0] 36 (0,0)))∧(w'.heap[gb108]?=some (.cells #[.int .i64 t103,.slice Ao59 t104.length co59] 36 (0,0)))∧(w'.heap[s_]?=some (.cells #[.int .i64 0,.slice none 0 0] 36 (0,0)))∧(w.heap.size≤s_)∧(w0.heap.size≤s_)∧(g≠s_)∧(s_≠g)∧(gb101≠s_)∧(s_≠gb101)∧(gb108≠s_)∧(s_≠gb108)∧(IsS113 w0 w' g s0_0 t110)∧(KeepBut w w' g none)∧(Below w0.heap.size w0 w')) ?_ ?_
             rotate_left
             ·intro hJ13
              refine three_ (i:=2) (j:=10) (k:=13) (Ni:=some 37) (Nj:=some 45) (Nk:=some 8) #[I,I,I,I,I,O,I,I,I,I,O,O,O,O,O] #[I,I,O,I,I,O,I,I,I,I,I,O,O,O,O] #[I,I,O,I,I,O,I,I,I,I,O,O,O,I,O] rfl rfl rfl rfl rfl rfl (three_of HT_.out (by kernel_rfl)) (by decide) (by decide) (by decide) (fun K hK=>?_) (fun K hK=>?_) (fun K hK=>?_)
              ·skip
               refine Kd.R_lit_step k33 _ 33 ?hg (N:=37) ?hd (xs:=([]:List (S33))) (inner:=[]) (ok:=fun _=>True) (okp:=fun _=>True) ?hr ?hp (fun _ hk=>hk) trivial (Below.refl _ _) (Nat.le_refl _) (by simp) ?_;(case hd=>rfl);(case hg=>rfl);(case hr=>first|(go_simp;done)|(go_simp;rfl));(case hp=>exact (Reps.none _ _))
               intro v120 w62 ho63 hb hg_ hnew_
               clear hg_ hnew_
               (first|rw [←Ny119.out] at ho63|(simp only [Int.reduceToNat] at ho63;rw [←Ny119.out] at ho63))
               have n0_:=mA (rE (by (with_reducible repeat first|apply rA|apply rN|apply rD);exact HO106.out) (Kd.R_base ho63) hb)
               have n1_:=mA (rW (rQ ho63 (rL (by (with_reducible repeat first|apply rA|apply rN|apply rD);exact HO106.out))) (eZ (w:=w) (g:=g) (row:=none) (by repeat first|(with_reducible first|exact HK.out|apply eS|apply eN|apply eD|apply eA|refine eF ?_ GW101.out _|refine eF ?_ GW108.out _)|exact HK.out)))
               have n2_:=mA (iB (by repeat first|(with_reducible first|exact HI0.out|apply iA|apply iN|apply iD|apply iS|refine iF ?_ NB0_101.out _|refine iF ?_ NB0_108.out _)|exact HI0.out) hb)
               have n3_:=mA (kB (g:=gb101) (o:=.cells #[.int .i64 0,.slice none 0 0] 36 (0,0)) (by (with_reducible repeat first|refine kN ?_ _|refine kD ?_|refine kA ?_ _);exact BK101.out) hb)
               have n4_:=mA (kB (g:=gb108) (o:=.cells #[.int .i64 t103,.slice Ao59 t104.length co59] 36 (0,0)) (by (with_reducible repeat first|refine kN ?_ _|refine kD ?_|refine kA ?_ _);exact BK108.out) hb)
               have n5_:=mA (eT (by repeat first|(with_reducible first|exact HK.out|apply eS|apply eN|apply eD|apply eA|refine eF ?_ GW101.out _|refine eF ?_ GW108.out _)|exact HK.out) (eB hb g none) (.inl rfl))
               have n6_:=mA (bT (by repeat first|(with_reducible first|exact HB.out|apply bA|apply bN|apply bD|refine bS ?_ (iG HI0.out)|refine bS ?_ GE101.out|refine bS ?_ GE108.out)|exact HB.out) hb)
               clear HO106 HI0 BK101 BK108 HK HB
               have HO106:=n0_;have HO121:=n1_;have HI0:=n2_;have BK101:=n3_;have BK108:=n4_;have HK:=n5_;have HB:=n6_
               clear n0_ n1_ n2_ n3_ n4_ n5_ n6_ hb ho63
               refine hK.out _ _ ⟨(kC BK108.out 0).trans rfl,(kC BK108.out 1).trans rfl⟩ (fun hHeld=>?_)
               clear hK K
               refine norm_ (a':=?_) ?_ ?_
               rotate_left
               ·show Act.put _ (some 37) _=_
                simp only [Act.put,sA,sZ,sS,i64_w,i32_w]
                rfl
               exact norm_ (by first|(simp only [putAll,Act.put,sA,sZ,sS];done)|(simp only [putAll,Act.put,sA,sZ,sS];rfl)) (hJ2 (v120) _ ⟨hHeld,(by (with_reducible repeat first|apply rA|apply rN|apply rD);exact rM HO106.out (fun _ hk=>hk.2)),(by (with_reducible repeat first|apply rA|apply rN|apply rD);exact rM HO121.out (fun _ hk=>hk.2)),(by (with_reducible repeat first|refine kN ?_ _|refine kD ?_|refine kA ?_ _);exact BK101.out),(by (with_reducible repeat first|refine kN ?_ _|refine kD ?_|refine kA ?_ _);exact BK108.out),(by repeat first|(with_reducible first|exact HI0.out|apply iA|apply iN|apply iD|apply iS|refine iF ?_ NB0_101.out _|refine iF ?_ NB0_108.out _)|exact HI0.out),(by repeat first|(with_reducible first|exact HK.out|apply eS|apply eN|apply eD|apply eA|refine eF ?_ GW101.out _|refine eF ?_ GW108.out _)|exact HK.out),(by repeat first|(with_reducible first|exact HB.out|apply bA|apply bN|apply bD|refine bS ?_ (iG HI0.out)|refine bS ?_ GE101.out|refine bS ?_ GE108.out)|exact HB.out)⟩)
              ·skip
               refine Kd.R_lit_step k33 _ 33 ?hg (N:=45) ?hd (xs:=([(⟨0,t103⟩:S33),(⟨5,0⟩:S33)]:List (S33))) (inner:=[.int .i64 0,.int .i64 t103,.int .i64 5,.int .i64 0]) (ok:=fun _=>True) (okp:=fun _=>True) ?hr ?hp (fun _ hk=>hk) trivial (Below.refl _ _) (Nat.le_refl _) (by simp) ?_;(case hd=>rfl);(case hg=>rfl);(case hr=>first|(go_simp;done)|(go_simp;rfl));(case hp=>exact (Reps.c2 (show Kd.M k33 _ _ _ (⟨0,t103⟩:S33) [.int .i64 0,.int .i64 t103] from (k33_mkM _ _ _ (⟨0,t103⟩:S33) )) (Reps.c2 (show Kd.M k33 _ _ _ (⟨5,0⟩:S33) [.int .i64 5,.int .i64 0] from (k33_mkM _ _ _ (⟨5,0⟩:S33) )) (Reps.none _ _))))
               intro v126 w62 ho63 hb hg_ hnew_
               clear hg_ hnew_
               (first|rw [←Ny125.out] at ho63|(simp only [Int.reduceToNat] at ho63;rw [←Ny125.out] at ho63))
               have n0_:=mA (rE (by (with_reducible repeat first|apply rA|apply rN|apply rD);exact HO106.out) (Kd.R_base ho63) hb)
               have n1_:=mA (rW (rQ ho63 (rL (by (with_reducible repeat first|apply rA|apply rN|apply rD);exact HO106.out))) (eZ (w:=w) (g:=g) (row:=none) (by repeat first|(with_reducible first|exact HK.out|apply eS|apply eN|apply eD|apply eA|refine eF ?_ GW101.out _|refine eF ?_ GW108.out _)|exact HK.out)))
               have n2_:=mA (iB (by repeat first|(with_reducible first|exact HI0.out|apply iA|apply iN|apply iD|apply iS|refine iF ?_ NB0_101.out _|refine iF ?_ NB0_108.out _)|exact HI0.out) hb)
               have n3_:=mA (kB (g:=gb101) (o:=.cells #[.int .i64 0,.slice none 0 0] 36 (0,0)) (by (with_reducible repeat first|refine kN ?_ _|refine kD ?_|refine kA ?_ _);exact BK101.out) hb)
               have n4_:=mA (kB (g:=gb108) (o:=.cells #[.int .i64 t103,.slice Ao59 t104.length co59] 36 (0,0)) (by (with_reducible repeat first|refine kN ?_ _|refine kD ?_|refine kA ?_ _);exact BK108.out) hb)
               have n5_:=mA (eT (by repeat first|(with_reducible first|exact HK.out|apply eS|apply eN|apply eD|apply eA|refine eF ?_ GW101.out _|refine eF ?_ GW108.out _)|exact HK.out) (eB hb g none) (.inl rfl))
               have n6_:=mA (bT (by repeat first|(with_reducible first|exact HB.out|apply bA|apply bN|apply bD|refine bS ?_ (iG HI0.out)|refine bS ?_ GE101.out|refine bS ?_ GE108.out)|exact HB.out) hb)
               clear HO106 HI0 BK101 BK108 HK HB
               have HO106:=n0_;have HO127:=n1_;have HI0:=n2_;have BK101:=n3_;have BK108:=n4_;have HK:=n5_;have HB:=n6_
               clear n0_ n1_ n2_ n3_ n4_ n5_ n6_ hb ho63
               refine hK.out _ _ ⟨(kC BK108.out 0).trans rfl,(kC BK108.out 1).trans rfl⟩ (fun hHeld=>?_)
               clear hK K
               refine norm_ (a':=?_) ?_ ?_
               rotate_left
               ·show Act.put _ (some 45) _=_
                simp only [Act.put,sA,sZ,sS,i64_w,i32_w]
                rfl
               exact norm_ (by first|(simp only [putAll,Act.put,sA,sZ,sS];done)|(simp only [putAll,Act.put,sA,sZ,sS];rfl)) (hJ10 (v126) _ ⟨hHeld,(by (with_reducible repeat first|apply rA|apply rN|apply rD);exact rM HO106.out (fun _ hk=>hk.2)),(by (with_reducible repeat first|apply rA|apply rN|apply rD);exact rM HO127.out (fun _ hk=>hk.2)),(by (with_reducible repeat first|refine kN ?_ _|refine kD ?_|refine kA ?_ _);exact BK101.out),(by (with_reducible repeat first|refine kN ?_ _|refine kD ?_|refine kA ?_ _);exact BK108.out),(by repeat first|(with_reducible first|exact HI0.out|apply iA|apply iN|apply iD|apply iS|refine iF ?_ NB0_101.out _|refine iF ?_ NB0_108.out _)|exact HI0.out),(by repeat first|(with_reducible first|exact HK.out|apply eS|apply eN|apply eD|apply eA|refine eF ?_ GW101.out _|refine eF ?_ GW108.out _)|exact HK.out),(by repeat first|(with_reducible first|exact HB.out|apply bA|apply bN|apply bD|refine bS ?_ (iG HI0.out)|refine bS ?_ GE101.out|refine bS ?_ GE108.out)|exact HB.out)⟩)
              skip
              refine box_step ?hg (N:=8) ?hd (cs:=#[.int .i64 0,.slice none 0 0]) (t:=36) ?hr ?_;(case hd=>rfl);(case hg=>rfl);(case hr=>first|(go_simp;done)|(go_simp;rfl))
              intro gb131 hg w62 hbox hb
              have n0_:=mA (rB (by (with_reducible repeat first|apply rA|apply rN|apply rD);exact HO106.out) hb)
              have n1_:=mA (iB (by repeat first|(with_reducible first|exact HI0.out|apply iA|apply iN|apply iD|apply iS|refine iF ?_ NB0_101.out _|refine iF ?_ NB0_108.out _)|exact HI0.out) hb)
              have n2_:=mA (kB (g:=gb101) (o:=.cells #[.int .i64 0,.slice none 0 0] 36 (0,0)) (by (with_reducible repeat first|refine kN ?_ _|refine kD ?_|refine kA ?_ _);exact BK101.out) hb)
              have n3_:=mA (kB (g:=gb108) (o:=.cells #[.int .i64 t103,.slice Ao59 t104.length co59] 36 (0,0)) (by (with_reducible repeat first|refine kN ?_ _|refine kD ?_|refine kA ?_ _);exact BK108.out) hb)
              have n4_:=mA (eT (by repeat first|(with_reducible first|exact HK.out|apply eS|apply eN|apply eD|apply eA|refine eF ?_ GW101.out _|refine eF ?_ GW108.out _)|exact HK.out) (eB hb g none) (.inl rfl))
              have n5_:=mA (bT (by repeat first|(with_reducible first|exact HB.out|apply bA|apply bN|apply bD|refine bS ?_ (iG HI0.out)|refine bS ?_ GE101.out|refine bS ?_ GE108.out)|exact HB.out) hb)
              have n6_:=mA (hbox)
              have n7_:=mA ((by rw [hg];exact (eZ (w:=w) (g:=g) (row:=none) (by repeat first|(with_reducible first|exact HK.out|apply eS|apply eN|apply eD|apply eA|refine eF ?_ GW101.out _|refine eF ?_ GW108.out _)|exact HK.out)):w.heap.size≤gb131))
              have n8_:=mA ((Nat.le_trans HW0.out (by rw [hg];exact (eZ (w:=w) (g:=g) (row:=none) (by repeat first|(with_reducible first|exact HK.out|apply eS|apply eN|apply eD|apply eA|refine eF ?_ GW101.out _|refine eF ?_ GW108.out _)|exact HK.out)):w.heap.size≤gb131):w0.heap.size≤gb131))
              have n9_:=mA ((by rw [hg];exact Nat.ne_of_lt (kL (g:=gb101) (o:=.cells #[.int .i64 0,.slice none 0 0] 36 (0,0)) (by (with_reducible repeat first|refine kN ?_ _|refine kD ?_|refine kA ?_ _);exact BK101.out)):gb101≠gb131))
              have n10_:=mA ((by rw [hg];exact Nat.ne_of_gt (kL (g:=gb101) (o:=.cells #[.int .i64 0,.slice none 0 0] 36 (0,0)) (by (with_reducible repeat first|refine kN ?_ _|refine kD ?_|refine kA ?_ _);exact BK101.out)):gb131≠gb101))
              have n11_:=mA ((by rw [hg];exact Nat.ne_of_lt (kL (g:=gb108) (o:=.cells #[.int .i64 t103,.slice Ao59 t104.length co59] 36 (0,0)) (by (with_reducible repeat first|refine kN ?_ _|refine kD ?_|refine kA ?_ _);exact BK108.out)):gb108≠gb131))
              have n12_:=mA ((by rw [hg];exact Nat.ne_of_gt (kL (g:=gb108) (o:=.cells #[.int .i64 t103,.slice Ao59 t104.length co59] 36 (0,0)) (by (with_reducible repeat first|refine kN ?_ _|refine kD ?_|refine kA ?_ _);exact BK108.out)):gb131≠gb108))
              have n13_:=mA ((by rw [hg];exact Nat.ne_of_lt (iL (show IsS113 w0 _ g s0_0 t110 from by repeat first|(with_reducible first|exact HI0.out|apply iA|apply iN|apply iD|apply iS|refine iF ?_ NB0_101.out _|refine iF ?_ NB0_108.out _)|exact HI0.out)):g≠gb131))
              have n14_:=mA ((by rw [hg];exact Nat.ne_of_gt (iL (show IsS113 w0 _ g s0_0 t110 from by repeat first|(with_reducible first|exact HI0.out|apply iA|apply iN|apply iD|apply iS|refine iF ?_ NB0_101.out _|refine iF ?_ NB0_108.out _)|exact HI0.out)):gb131≠g))
              clear HO106 HI0 BK101 BK108 HK HB
              have HO106:=n0_;have HI0:=n1_;have BK101:=n2_;have BK108:=n3_;have HK:=n4_;have HB:=n5_;have BK131:=n6_;have GW131:=n7_;have GE131:=n8_;have NB101_131:=n9_;have NB131_101:=n10_;have NB108_131:=n11_;have NB131_108:=n12_;have NB0_131:=n13_;have NB131_0:=n14_
              clear n0_ n1_ n2_ n3_ n4_ n5_ n6_ n7_ n8_ n9_ n10_ n11_ n12_ n13_ n14_ hb hbox hg
              refine hK.out _ _ ⟨(kC BK108.out 0).trans rfl,(kC BK108.out 1).trans rfl⟩ (fun hHeld=>?_)
              clear hK K
              refine norm_ (a':=?_) ?_ ?_
              rotate_left
              ·show Act.put _ (some 8) _=_
               simp only [Act.put,sA,sZ,sS,i64_w,i32_w]
               rfl
              exact norm_ (by first|(simp only [putAll,Act.put,sA,sZ,sS];done)|(simp only [putAll,Act.put,sA,sZ,sS];rfl)) (hJ13 (gb131) _ ⟨hHeld,(by (with_reducible repeat first|apply rA|apply rN|apply rD);exact HO106.out),(by (with_reducible repeat first|refine kN ?_ _|refine kD ?_|refine kA ?_ _);exact BK101.out),(by (with_reducible repeat first|refine kN ?_ _|refine kD ?_|refine kA ?_ _);exact BK108.out),(by (with_reducible repeat first|refine kN ?_ _|refine kD ?_|refine kA ?_ _);exact BK131.out),GW131.out,GE131.out,NB0_131.out,NB131_0.out,NB101_131.out,NB131_101.out,NB108_131.out,NB131_108.out,(by repeat first|(with_reducible first|exact HI0.out|apply iA|apply iN|apply iD|apply iS|refine iF ?_ NB0_101.out _|refine iF ?_ NB0_108.out _|refine iF ?_ NB0_131.out _)|exact HI0.out),(by repeat first|(with_reducible first|exact HK.out|apply eS|apply eN|apply eD|apply eA|refine eF ?_ GW101.out _|refine eF ?_ GW108.out _|refine eF ?_ GW131.out _)|exact HK.out),(by repeat first|(with_reducible first|exact HB.out|apply bA|apply bN|apply bD|refine bS ?_ (iG HI0.out)|refine bS ?_ GE101.out|refine bS ?_ GE108.out|refine bS ?_ GE131.out)|exact HB.out)⟩)
             skip
             rintro gb131 w63 ⟨hS_,h0_,h1_,h2_,h3_,h4_,h5_,h6_,h7_,h8_,h9_,h10_,h11_,h12_,h13_,h14_⟩
             have n0_:Aside0 (Kd.R k33 33 w63 w.heap.size (fun _=>True) (.slice Ao59 t104.length co59) t104):=⟨h0_⟩
             have n1_:Aside0 (w63.heap[gb101]?=some (.cells #[.int .i64 0,.slice none 0 0] 36 (0,0))):=⟨h1_⟩
             have n2_:Aside0 (w63.heap[gb108]?=some (.cells #[.int .i64 t103,.slice Ao59 t104.length co59] 36 (0,0))):=⟨h2_⟩
             have n3_:Aside0 (w63.heap[gb131]?=some (.cells #[.int .i64 0,.slice none 0 0] 36 (0,0))):=⟨h3_⟩
             have n4_:Aside0 (w.heap.size≤gb131):=⟨h4_⟩
             have n5_:Aside0 (w0.heap.size≤gb131):=⟨h5_⟩
             have n6_:Aside0 (g≠gb131):=⟨h6_⟩
             have n7_:Aside0 (gb131≠g):=⟨h7_⟩
             have n8_:Aside0 (gb101≠gb131):=⟨h8_⟩
             have n9_:Aside0 (gb131≠gb101):=⟨h9_⟩
             have n10_:Aside0 (gb108≠gb131):=⟨h10_⟩
             have n11_:Aside0 (gb131≠gb108):=⟨h11_⟩
             have n12_:Aside0 (IsS113 w0 w63 g s0_0 t110):=⟨h12_⟩
             have n13_:Aside0 (KeepBut w w63 g none):=⟨h13_⟩
             have n14_:Aside0 (Below w0.heap.size w0 w63):=⟨h14_⟩
             clear HO106 BK101 BK108 HI0 HK HB h0_ h1_ h2_ h3_ h4_ h5_ h6_ h7_ h8_ h9_ h10_ h11_ h12_ h13_ h14_
             have HO106:=n0_;have BK101:=n1_;have BK108:=n2_;have BK131:=n3_;have GW131:=n4_;have GE131:=n5_;have NB0_131:=n6_;have NB131_0:=n7_;have NB101_131:=n8_;have NB131_101:=n9_;have NB108_131:=n10_;have NB131_108:=n11_;have HI0:=n12_;have HK:=n13_;have HB:=n14_
             clear n0_ n1_ n2_ n3_ n4_ n5_ n6_ n7_ n8_ n9_ n10_ n11_ n12_ n13_ n14_
             have hHeld:w63.cell? ⟨gb108,0,none⟩=some (.int .i64 t103)∧w63.cell? ⟨gb108,1,none⟩=some (.slice Ao59 t104.length co59):=hS_
             refine norm_ (a':=?_) ?_ ?_
             rotate_left
             ·simp only [putAll,Act.put,sA,sZ,sS]
              rfl
             refine two_ (i:=2) (j:=10) (Ni:=some 37) (Nj:=some 45) #[I,I,I,I,I,O,I,I,I,I,O,O,O,I,O] #[I,I,O,I,I,O,I,I,I,I,I,O,O,I,O] rfl rfl rfl rfl (two_of HT_.out (by kernel_rfl)) (by decide) (by decide) (fun K hK=>?_) (fun K hK=>?_)
             ·skip
              refine Kd.R_lit_step k33 _ 33 ?hg (N:=37) ?hd (xs:=([]:List (S33))) (inner:=[]) (ok:=fun _=>True) (okp:=fun _=>True) ?hr ?hp (fun _ hk=>hk) trivial (Below.refl _ _) (Nat.le_refl _) (by simp) ?_;(case hd=>rfl);(case hg=>rfl);(case hr=>first|(go_simp;done)|(go_simp;rfl));(case hp=>exact (Reps.none _ _))
              intro v120 w64 ho65 hb hg_ hnew_
              clear hg_ hnew_
              (first|rw [←Ny119.out] at ho65|(simp only [Int.reduceToNat] at ho65;rw [←Ny119.out] at ho65))
              have n0_:=mA (rE (by (with_reducible repeat first|apply rA|apply rN|apply rD);exact HO106.out) (Kd.R_base ho65) hb)
              have n1_:=mA (rW (rQ ho65 (rL (by (with_reducible repeat first|apply rA|apply rN|apply rD);exact HO106.out))) (eZ (w:=w) (g:=g) (row:=none) (by repeat first|(with_reducible first|exact HK.out|apply eS|apply eN|apply eD|apply eA|refine eF ?_ GW101.out _|refine eF ?_ GW108.out _|refine eF ?_ GW131.out _)|exact HK.out)))
              have n2_:=mA (iB (by repeat first|(with_reducible first|exact HI0.out|apply iA|apply iN|apply iD|apply iS|refine iF ?_ NB0_101.out _|refine iF ?_ NB0_108.out _|refine iF ?_ NB0_131.out _)|exact HI0.out) hb)
              have n3_:=mA (kB (g:=gb101) (o:=.cells #[.int .i64 0,.slice none 0 0] 36 (0,0)) (by (with_reducible repeat first|refine kN ?_ _|refine kD ?_|refine kA ?_ _);exact BK101.out) hb)
              have n4_:=mA (kB (g:=gb108) (o:=.cells #[.int .i64 t103,.slice Ao59 t104.length co59] 36 (0,0)) (by (with_reducible repeat first|refine kN ?_ _|refine kD ?_|refine kA ?_ _);exact BK108.out) hb)
              have n5_:=mA (kB (g:=gb131) (o:=.cells #[.int .i64 0,.slice none 0 0] 36 (0,0)) (by (with_reducible repeat first|refine kN ?_ _|refine kD ?_|refine kA ?_ _);exact BK131.out) hb)
              have n6_:=mA (eT (by repeat first|(with_reducible first|exact HK.out|apply eS|apply eN|apply eD|apply eA|refine eF ?_ GW101.out _|refine eF ?_ GW108.out _|refine eF ?_ GW131.out _)|exact HK.out) (eB hb g none) (.inl rfl))
              have n7_:=mA (bT (by repeat first|(with_reducible first|exact HB.out|apply bA|apply bN|apply bD|refine bS ?_ (iG HI0.out)|refine bS ?_ GE101.out|refine bS ?_ GE108.out|refine bS ?_ GE131.out)|exact HB.out) hb)
              clear HO106 HI0 BK101 BK108 BK131 HK HB
              have HO106:=n0_;have HO121:=n1_;have HI0:=n2_;have BK101:=n3_;have BK108:=n4_;have BK131:=n5_;have HK:=n6_;have HB:=n7_
              clear n0_ n1_ n2_ n3_ n4_ n5_ n6_ n7_ hb ho65
              refine hK.out _ _ ⟨(kC BK108.out 0).trans rfl,(kC BK108.out 1).trans rfl⟩ (fun hHeld=>?_)
              clear hK K
              refine norm_ (a':=?_) ?_ ?_
              rotate_left
              ·show Act.put _ (some 37) _=_
               simp only [Act.put,sA,sZ,sS,i64_w,i32_w]
               rfl
              exact norm_ (by first|(simp only [putAll,Act.put,sA,sZ,sS];done)|(simp only [putAll,Act.put,sA,sZ,sS];rfl)) (hJ2_13 (v120,gb131) _ ⟨hHeld,(by (with_reducible repeat first|apply rA|apply rN|apply rD);exact rM HO106.out (fun _ hk=>hk.2)),(by (with_reducible repeat first|apply rA|apply rN|apply rD);exact rM HO121.out (fun _ hk=>hk.2)),(by (with_reducible repeat first|refine kN ?_ _|refine kD ?_|refine kA ?_ _);exact BK101.out),(by (with_reducible repeat first|refine kN ?_ _|refine kD ?_|refine kA ?_ _);exact BK108.out),(by (with_reducible repeat first|refine kN ?_ _|refine kD ?_|refine kA ?_ _);exact BK131.out),GW131.out,GE131.out,NB0_131.out,NB131_0.out,NB101_131.out,NB131_101.out,NB108_131.out,NB131_108.out,(by repeat first|(with_reducible first|exact HI0.out|apply iA|apply iN|apply iD|apply iS|refine iF ?_ NB0_101.out _|refine iF ?_ NB0_108.out _|refine iF ?_ NB0_131.out _)|exact HI0.out),(by repeat first|(with_reducible first|exact HK.out|apply eS|apply eN|apply eD|apply eA|refine eF ?_ GW101.out _|refine eF ?_ GW108.out _|refine eF ?_ GW131.out _)|exact HK.out),(by repeat first|(with_reducible first|exact HB.out|apply bA|apply bN|apply bD|refine bS ?_ (iG HI0.out)|refine bS ?_ GE101.out|refine bS ?_ GE108.out|refine bS ?_ GE131.out)|exact HB.out)⟩)
             skip
             refine Kd.R_lit_step k33 _ 33 ?hg (N:=45) ?hd (xs:=([(⟨0,t103⟩:S33),(⟨5,0⟩:S33)]:List (S33))) (inner:=[.int .i64 0,.int .i64 t103,.int .i64 5,.int .i64 0]) (ok:=fun _=>True) (okp:=fun _=>True) ?hr ?hp (fun _ hk=>hk) trivial (Below.refl _ _) (Nat.le_refl _) (by simp) ?_;(case hd=>rfl);(case hg=>rfl);(case hr=>first|(go_simp;done)|(go_simp;rfl));(case hp=>exact (Reps.c2 (show Kd.M k33 _ _ _ (⟨0,t103⟩:S33) [.int .i64 0,.int .i64 t103] from (k33_mkM _ _ _ (⟨0,t103⟩:S33) )) (Reps.c2 (show Kd.M k33 _ _ _ (⟨5,0⟩:S33) [.int .i64 5,.int .i64 0] from (k33_mkM _ _ _ (⟨5,0⟩:S33) )) (Reps.none _ _))))
             intro v126 w64 ho65 hb hg_ hnew_
             clear hg_ hnew_
             (first|rw [←Ny125.out] at ho65|(simp only [Int.reduceToNat] at ho65;rw [←Ny125.out] at ho65))
             have n0_:=mA (rE (by (with_reducible repeat first|apply rA|apply rN|apply rD);exact HO106.out) (Kd.R_base ho65) hb)
             have n1_:=mA (rW (rQ ho65 (rL (by (with_reducible repeat first|apply rA|apply rN|apply rD);exact HO106.out))) (eZ (w:=w) (g:=g) (row:=none) (by repeat first|(with_reducible first|exact HK.out|apply eS|apply eN|apply eD|apply eA|refine eF ?_ GW101.out _|refine eF ?_ GW108.out _|refine eF ?_ GW131.out _)|exact HK.out)))
             have n2_:=mA (iB (by repeat first|(with_reducible first|exact HI0.out|apply iA|apply iN|apply iD|apply iS|refine iF ?_ NB0_101.out _|refine iF ?_ NB0_108.out _|refine iF ?_ NB0_131.out _)|exact HI0.out) hb)
             have n3_:=mA (kB (g:=gb101) (o:=.cells #[.int .i64 0,.slice none 0 0] 36 (0,0)) (by (with_reducible repeat first|refine kN ?_ _|refine kD ?_|refine kA ?_ _);exact BK101.out) hb)
             have n4_:=mA (kB (g:=gb108) (o:=.cells #[.int .i64 t103,.slice Ao59 t104.length co59] 36 (0,0)) (by (with_reducible repeat first|refine kN ?_ _|refine kD ?_|refine kA ?_ _);exact BK108.out) hb)
             have n5_:=mA (kB (g:=gb131) (o:=.cells #[.int .i64 0,.slice none 0 0] 36 (0,0)) (by (with_reducible repeat first|refine kN ?_ _|refine kD ?_|refine kA ?_ _);exact BK131.out) hb)
             have n6_:=mA (eT (by repeat first|(with_reducible first|exact HK.out|apply eS|apply eN|apply eD|apply eA|refine eF ?_ GW101.out _|refine eF ?_ GW108.out _|refine eF ?_ GW131.out _)|exact HK.out) (eB hb g none) (.inl rfl))
             have n7_:=mA (bT (by repeat first|(with_reducible first|exact HB.out|apply bA|apply bN|apply bD|refine bS ?_ (iG HI0.out)|refine bS ?_ GE101.out|refine bS ?_ GE108.out|refine bS ?_ GE131.out)|exact HB.out) hb)
             clear HO106 HI0 BK101 BK108 BK131 HK HB
             have HO106:=n0_;have HO127:=n1_;have HI0:=n2_;have BK101:=n3_;have BK108:=n4_;have BK131:=n5_;have HK:=n6_;have HB:=n7_
             clear n0_ n1_ n2_ n3_ n4_ n5_ n6_ n7_ hb ho65
             refine hK.out _ _ ⟨(kC BK108.out 0).trans rfl,(kC BK108.out 1).trans rfl⟩ (fun hHeld=>?_)
             clear hK K
             refine norm_ (a':=?_) ?_ ?_
             rotate_left
             ·show Act.put _ (some 45) _=_
              simp only [Act.put,sA,sZ,sS,i64_w,i32_w]
              rfl
             exact norm_ (by first|(simp only [putAll,Act.put,sA,sZ,sS];done)|(simp only [putAll,Act.put,sA,sZ,sS];rfl)) (hJ10_13 (v126,gb131) _ ⟨hHeld,(by (with_reducible repeat first|apply rA|apply rN|apply rD);exact rM HO106.out (fun _ hk=>hk.2)),(by (with_reducible repeat first|apply rA|apply rN|apply rD);exact rM HO127.out (fun _ hk=>hk.2)),(by (with_reducible repeat first|refine kN ?_ _|refine kD ?_|refine kA ?_ _);exact BK101.out),(by (with_reducible repeat first|refine kN ?_ _|refine kD ?_|refine kA ?_ _);exact BK108.out),(by (with_reducible repeat first|refine kN ?_ _|refine kD ?_|refine kA ?_ _);exact BK131.out),GW131.out,GE131.out,NB0_131.out,NB131_0.out,NB101_131.out,NB131_101.out,NB108_131.out,NB131_108.out,(by repeat first|(with_reducible first|exact HI0.out|apply iA|apply iN|apply iD|apply iS|refine iF ?_ NB0_101.out _|refine iF ?_ NB0_108.out _|refine iF ?_ NB0_131.out _)|exact HI0.out),(by repeat first|(with_reducible first|exact HK.out|apply eS|apply eN|apply eD|apply eA|refine eF ?_ GW101.out _|refine eF ?_ GW108.out _|refine eF ?_ GW131.out _)|exact HK.out),(by repeat first|(with_reducible first|exact HB.out|apply bA|apply bN|apply bD|refine bS ?_ (iG HI0.out)|refine bS ?_ GE101.out|refine bS ?_ GE108.out|refine bS ?_ GE131.out)|exact HB.out)⟩)
            skip
            rintro v126 w64 ⟨hS_,h0_,h1_,h2_,h3_,h4_,h5_,h6_⟩
            have n0_:Aside0 (Kd.R k33 33 w64 w.heap.size (fun k_=>some k_≠(v126:Value).ownBlock) (.slice Ao59 t104.length co59) t104):=⟨h0_⟩
            have n1_:Aside0 (Kd.R k33 33 w64 w.heap.size (fun k_=>some k_≠(.slice Ao59 t104.length co59:Value).ownBlock) v126 y125):=⟨h1_⟩
            have n2_:Aside0 (w64.heap[gb101]?=some (.cells #[.int .i64 0,.slice none 0 0] 36 (0,0))):=⟨h2_⟩
            have n3_:Aside0 (w64.heap[gb108]?=some (.cells #[.int .i64 t103,.slice Ao59 t104.length co59] 36 (0,0))):=⟨h3_⟩
            have n4_:Aside0 (IsS113 w0 w64 g s0_0 t110):=⟨h4_⟩
            have n5_:Aside0 (KeepBut w w64 g none):=⟨h5_⟩
            have n6_:Aside0 (Below w0.heap.size w0 w64):=⟨h6_⟩
            clear HO106 BK101 BK108 HI0 HK HB h0_ h1_ h2_ h3_ h4_ h5_ h6_
            have HO106:=n0_;have HO127:=n1_;have BK101:=n2_;have BK108:=n3_;have HI0:=n4_;have HK:=n5_;have HB:=n6_
            clear n0_ n1_ n2_ n3_ n4_ n5_ n6_
            have hHeld:w64.cell? ⟨gb108,0,none⟩=some (.int .i64 t103)∧w64.cell? ⟨gb108,1,none⟩=some (.slice Ao59 t104.length co59):=hS_
            refine norm_ (a':=?_) ?_ ?_
            rotate_left
            ·simp only [putAll,Act.put,sA,sZ,sS]
             rfl
            refine two_ (i:=2) (j:=13) (Ni:=some 37) (Nj:=some 8) #[I,I,I,I,I,O,I,I,I,I,I,O,O,O,O] #[I,I,O,I,I,O,I,I,I,I,I,O,O,I,O] rfl rfl rfl rfl (two_of HT_.out (by kernel_rfl)) (by decide) (by decide) (fun K hK=>?_) (fun K hK=>?_)
            ·skip
             refine Kd.R_lit_step k33 _ 33 ?hg (N:=37) ?hd (xs:=([]:List (S33))) (inner:=[]) (ok:=fun _=>True) (okp:=fun _=>True) ?hr ?hp (fun _ hk=>hk) trivial (Below.refl _ _) (Nat.le_refl _) (by simp) ?_;(case hd=>rfl);(case hg=>rfl);(case hr=>first|(go_simp;done)|(go_simp;rfl));(case hp=>exact (Reps.none _ _))
             intro v120 w65 ho66 hb hg_ hnew_
             clear hg_ hnew_
             (first|rw [←Ny119.out] at ho66|(simp only [Int.reduceToNat] at ho66;rw [←Ny119.out] at ho66))
             have n0_:=mA (rE (by (with_reducible repeat first|apply rA|apply rN|apply rD);exact HO106.out) (Kd.R_base ho66) hb)
             have n1_:=mA (rE (by (with_reducible repeat first|apply rA|apply rN|apply rD);exact HO127.out) (Kd.R_base ho66) hb)
             have n2_:=mA (rW (rQ (rQ ho66 (rL (by (with_reducible repeat first|apply rA|apply rN|apply rD);exact HO106.out))) (rL (by (with_reducible repeat first|apply rA|apply rN|apply rD);exact HO127.out))) (eZ (w:=w) (g:=g) (row:=none) (by repeat first|(with_reducible first|exact HK.out|apply eS|apply eN|apply eD|apply eA|refine eF ?_ GW101.out _|refine eF ?_ GW108.out _)|exact HK.out)))
             have n3_:=mA (iB (by repeat first|(with_reducible first|exact HI0.out|apply iA|apply iN|apply iD|apply iS|refine iF ?_ NB0_101.out _|refine iF ?_ NB0_108.out _)|exact HI0.out) hb)
             have n4_:=mA (kB (g:=gb101) (o:=.cells #[.int .i64 0,.slice none 0 0] 36 (0,0)) (by (with_reducible repeat first|refine kN ?_ _|refine kD ?_|refine kA ?_ _);exact BK101.out) hb)
             have n5_:=mA (kB (g:=gb108) (o:=.cells #[.int .i64 t103,.slice Ao59 t104.length co59] 36 (0,0)) (by (with_reducible repeat first|refine kN ?_ _|refine kD ?_|refine kA ?_ _);exact BK108.out) hb)
             have n6_:=mA (eT (by repeat first|(with_reducible first|exact HK.out|apply eS|apply eN|apply eD|apply eA|refine eF ?_ GW101.out _|refine eF ?_ GW108.out _)|exact HK.out) (eB hb g none) (.inl rfl))
             have n7_:=mA (bT (by repeat first|(with_reducible first|exact HB.out|apply bA|apply bN|apply bD|refine bS ?_ (iG HI0.out)|refine bS ?_ GE101.out|refine bS ?_ GE108.out)|exact HB.out) hb)
             clear HO106 HO127 HI0 BK101 BK108 HK HB
             have HO106:=n0_;have HO127:=n1_;have HO121:=n2_;have HI0:=n3_;have BK101:=n4_;have BK108:=n5_;have HK:=n6_;have HB:=n7_
             clear n0_ n1_ n2_ n3_ n4_ n5_ n6_ n7_ hb ho66
             refine hK.out _ _ ⟨(kC BK108.out 0).trans rfl,(kC BK108.out 1).trans rfl⟩ (fun hHeld=>?_)
             clear hK K
             refine norm_ (a':=?_) ?_ ?_
             rotate_left
             ·show Act.put _ (some 37) _=_
              simp only [Act.put,sA,sZ,sS,i64_w,i32_w]
              rfl
             exact norm_ (by first|(simp only [putAll,Act.put,sA,sZ,sS];done)|(simp only [putAll,Act.put,sA,sZ,sS];rfl)) (hJ2_10 (v120,v126) _ ⟨hHeld,(by (with_reducible repeat first|apply rA|apply rN|apply rD);exact rM HO106.out (fun _ hk=>⟨hk.2,hk.1⟩)),(by (with_reducible repeat first|apply rA|apply rN|apply rD);exact rM HO121.out (fun _ hk=>⟨hk.1.2,hk.2⟩)),(by (with_reducible repeat first|apply rA|apply rN|apply rD);exact HO127.out),(by (with_reducible repeat first|refine kN ?_ _|refine kD ?_|refine kA ?_ _);exact BK101.out),(by (with_reducible repeat first|refine kN ?_ _|refine kD ?_|refine kA ?_ _);exact BK108.out),(by repeat first|(with_reducible first|exact HI0.out|apply iA|apply iN|apply iD|apply iS|refine iF ?_ NB0_101.out _|refine iF ?_ NB0_108.out _)|exact HI0.out),(by repeat first|(with_reducible first|exact HK.out|apply eS|apply eN|apply eD|apply eA|refine eF ?_ GW101.out _|refine eF ?_ GW108.out _)|exact HK.out),(by repeat first|(with_reducible first|exact HB.out|apply bA|apply bN|apply bD|refine bS ?_ (iG HI0.out)|refine bS ?_ GE101.out|refine bS ?_ GE108.out)|exact HB.out)⟩)
            skip
            refine box_step ?hg (N:=8) ?hd (cs:=#[.int .i64 0,.slice none 0 0]) (t:=36) ?hr ?_;(case hd=>rfl);(case hg=>rfl);(case hr=>first|(go_simp;done)|(go_simp;rfl))
            intro gb131 hg w65 hbox hb
            have n0_:=mA (rB (by (with_reducible repeat first|apply rA|apply rN|apply rD);exact HO106.out) hb)
            have n1_:=mA (rB (by (with_reducible repeat first|apply rA|apply rN|apply rD);exact HO127.out) hb)
            have n2_:=mA (iB (by repeat first|(with_reducible first|exact HI0.out|apply iA|apply iN|apply iD|apply iS|refine iF ?_ NB0_101.out _|refine iF ?_ NB0_108.out _)|exact HI0.out) hb)
            have n3_:=mA (kB (g:=gb101) (o:=.cells #[.int .i64 0,.slice none 0 0] 36 (0,0)) (by (with_reducible repeat first|refine kN ?_ _|refine kD ?_|refine kA ?_ _);exact BK101.out) hb)
            have n4_:=mA (kB (g:=gb108) (o:=.cells #[.int .i64 t103,.slice Ao59 t104.length co59] 36 (0,0)) (by (with_reducible repeat first|refine kN ?_ _|refine kD ?_|refine kA ?_ _);exact BK108.out) hb)
            have n5_:=mA (eT (by repeat first|(with_reducible first|exact HK.out|apply eS|apply eN|apply eD|apply eA|refine eF ?_ GW101.out _|refine eF ?_ GW108.out _)|exact HK.out) (eB hb g none) (.inl rfl))
            have n6_:=mA (bT (by repeat first|(with_reducible first|exact HB.out|apply bA|apply bN|apply bD|refine bS ?_ (iG HI0.out)|refine bS ?_ GE101.out|refine bS ?_ GE108.out)|exact HB.out) hb)
            have n7_:=mA (hbox)
            have n8_:=mA ((by rw [hg];exact (eZ (w:=w) (g:=g) (row:=none) (by repeat first|(with_reducible first|exact HK.out|apply eS|apply eN|apply eD|apply eA|refine eF ?_ GW101.out _|refine eF ?_ GW108.out _)|exact HK.out)):w.heap.size≤gb131))
            have n9_:=mA ((Nat.le_trans HW0.out (by rw [hg];exact (eZ (w:=w) (g:=g) (row:=none) (by repeat first|(with_reducible first|exact HK.out|apply eS|apply eN|apply eD|apply eA|refine eF ?_ GW101.out _|refine eF ?_ GW108.out _)|exact HK.out)):w.heap.size≤gb131):w0.heap.size≤gb131))
            have n10_:=mA ((by rw [hg];exact Nat.ne_of_lt (kL (g:=gb101) (o:=.cells #[.int .i64 0,.slice none 0 0] 36 (0,0)) (by (with_reducible repeat first|refine kN ?_ _|refine kD ?_|refine kA ?_ _);exact BK101.out)):gb101≠gb131))
            have n11_:=mA ((by rw [hg];exact Nat.ne_of_gt (kL (g:=gb101) (o:=.cells #[.int .i64 0,.slice none 0 0] 36 (0,0)) (by (with_reducible repeat first|refine kN ?_ _|refine kD ?_|refine kA ?_ _);exact BK101.out)):gb131≠gb101))
            have n12_:=mA ((by rw [hg];exact Nat.ne_of_lt (kL (g:=gb108) (o:=.cells #[.int .i64 t103,.slice Ao59 t104.length co59] 36 (0,0)) (by (with_reducible repeat first|refine kN ?_ _|refine kD ?_|refine kA ?_ _);exact BK108.out)):gb108≠gb131))
            have n13_:=mA ((by rw [hg];exact Nat.ne_of_gt (kL (g:=gb108) (o:=.cells #[.int .i64 t103,.slice Ao59 t104.length co59] 36 (0,0)) (by (with_reducible repeat first|refine kN ?_ _|refine kD ?_|refine kA ?_ _);exact BK108.out)):gb131≠gb108))
            have n14_:=mA ((by rw [hg];exact Nat.ne_of_lt (iL (show IsS113 w0 _ g s0_0 t110 from by repeat first|(with_reducible first|exact HI0.out|apply iA|apply iN|apply iD|apply iS|refine iF ?_ NB0_101.out _|refine iF ?_ NB0_108.out _)|exact HI0.out)):g≠gb131))
            have n15_:=mA ((by rw [hg];exact Nat.ne_of_gt (iL (show IsS113 w0 _ g s0_0 t110 from by repeat first|(with_reducible first|exact HI0.out|apply iA|apply iN|apply iD|apply iS|refine iF ?_ NB0_101.out _|refine iF ?_ NB0_108.out _)|exact HI0.out)):gb131≠g))
            clear HO106 HO127 HI0 BK101 BK108 HK HB
            have HO106:=n0_;have HO127:=n1_;have HI0:=n2_;have BK101:=n3_;have BK108:=n4_;have HK:=n5_;have HB:=n6_;have BK131:=n7_;have GW131:=n8_;have GE131:=n9_;have NB101_131:=n10_;have NB131_101:=n11_;have NB108_131:=n12_;have NB131_108:=n13_;have NB0_131:=n14_;have NB131_0:=n15_
            clear n0_ n1_ n2_ n3_ n4_ n5_ n6_ n7_ n8_ n9_ n10_ n11_ n12_ n13_ n14_ n15_ hb hbox hg
            refine hK.out _ _ ⟨(kC BK108.out 0).trans rfl,(kC BK108.out 1).trans rfl⟩ (fun hHeld=>?_)
            clear hK K
            refine norm_ (a':=?_) ?_ ?_
            rotate_left
            ·show Act.put _ (some 8) _=_
             simp only [Act.put,sA,sZ,sS,i64_w,i32_w]
             rfl
            exact norm_ (by first|(simp only [putAll,Act.put,sA,sZ,sS];done)|(simp only [putAll,Act.put,sA,sZ,sS];rfl)) (hJ10_13 (v126,gb131) _ ⟨hHeld,(by (with_reducible repeat first|apply rA|apply rN|apply rD);exact HO106.out),(by (with_reducible repeat first|apply rA|apply rN|apply rD);exact HO127.out),(by (with_reducible repeat first|refine kN ?_ _|refine kD ?_|refine kA ?_ _);exact BK101.out),(by (with_reducible repeat first|refine kN ?_ _|refine kD ?_|refine kA ?_ _);exact BK108.out),(by (with_reducible repeat first|refine kN ?_ _|refine kD ?_|refine kA ?_ _);exact BK131.out),GW131.out,GE131.out,NB0_131.out,NB131_0.out,NB101_131.out,NB131_101.out,NB108_131.out,NB131_108.out,(by repeat first|(with_reducible first|exact HI0.out|apply iA|apply iN|apply iD|apply iS|refine iF ?_ NB0_101.out _|refine iF ?_ NB0_108.out _|refine iF ?_ NB0_131.out _)|exact HI0.out),(by repeat first|(with_reducible first|exact HK.out|apply eS|apply eN|apply eD|apply eA|refine eF ?_ GW101.out _|refine eF ?_ GW108.out _|refine eF ?_ GW131.out _)|exact HK.out),(by repeat first|(with_reducible first|exact HB.out|apply bA|apply bN|apply bD|refine bS ?_ (iG HI0.out)|refine bS ?_ GE101.out|refine bS ?_ GE108.out|refine bS ?_ GE131.out)|exact HB.out)⟩)
           skip
           rintro v120 w64 ⟨hS_,h0_,h1_,h2_,h3_,h4_,h5_,h6_⟩
           have n0_:Aside0 (Kd.R k33 33 w64 w.heap.size (fun k_=>some k_≠(v120:Value).ownBlock) (.slice Ao59 t104.length co59) t104):=⟨h0_⟩
           have n1_:Aside0 (Kd.R k33 33 w64 w.heap.size (fun k_=>some k_≠(.slice Ao59 t104.length co59:Value).ownBlock) v120 y119):=⟨h1_⟩
           have n2_:Aside0 (w64.heap[gb101]?=some (.cells #[.int .i64 0,.slice none 0 0] 36 (0,0))):=⟨h2_⟩
           have n3_:Aside0 (w64.heap[gb108]?=some (.cells #[.int .i64 t103,.slice Ao59 t104.length co59] 36 (0,0))):=⟨h3_⟩
           have n4_:Aside0 (IsS113 w0 w64 g s0_0 t110):=⟨h4_⟩
           have n5_:Aside0 (KeepBut w w64 g none):=⟨h5_⟩
           have n6_:Aside0 (Below w0.heap.size w0 w64):=⟨h6_⟩
           clear HO106 BK101 BK108 HI0 HK HB h0_ h1_ h2_ h3_ h4_ h5_ h6_
           have HO106:=n0_;have HO121:=n1_;have BK101:=n2_;have BK108:=n3_;have HI0:=n4_;have HK:=n5_;have HB:=n6_
           clear n0_ n1_ n2_ n3_ n4_ n5_ n6_
           have hHeld:w64.cell? ⟨gb108,0,none⟩=some (.int .i64 t103)∧w64.cell? ⟨gb108,1,none⟩=some (.slice Ao59 t104.length co59):=hS_
           refine norm_ (a':=?_) ?_ ?_
           rotate_left
           ·simp only [putAll,Act.put,sA,sZ,sS]
            rfl
           refine three_ (i:=5) (j:=10) (k:=13) (Ni:=some 40) (Nj:=some 45) (Nk:=some 8) #[I,I,I,I,I,I,I,I,I,I,O,O,O,O,O] #[I,I,I,I,I,O,I,I,I,I,I,O,O,O,O] #[I,I,I,I,I,O,I,I,I,I,O,O,O,I,O] rfl rfl rfl rfl rfl rfl (three_of HT_.out (by kernel_rfl)) (by decide) (by decide) (by decide) (fun K hK=>?_) (fun K hK=>?_) (fun K hK=>?_)
           ·skip
            refine Kd.R_append_rows_step k33 w.heap.size (by rfl) (.tmp 37) (.tmp 39) 34 33 (.agg #[(.int .i64 0),(.int .i64 0)]) 16 rfl Try.underlying34 info33 rfl (by decide) (by omega) v120 y119 t104 _ _ _ (fun k_=>some k_≠(.slice Ao59 t104.length co59:Value).ownBlock) (fun _=>False) rfl rfl ?aO ?aR (fun _ _ h=>h) (fun _ h=>h.elim) ?aF (Below.refl _ _) ?aS ?aL ?_
            (case aR=>repeat first|exact (rR HO106.out).2.2|(with_reducible refine cA ?_ _)|(with_reducible refine cN ?_ _)|(with_reducible refine cD ?_))
            (case aF=>exact (fun k_ hk=>Kd.fresh' (rL (by (with_reducible repeat first|apply rA|apply rN|apply rD);exact HO106.out)) k_ hk))
            (case aO=>exact (by (with_reducible repeat first|apply rA|apply rN|apply rD);exact HO121.out))
            (case aS=>exact (eZ (w:=w) (g:=g) (row:=none) (by repeat first|(with_reducible first|exact HK.out|apply eS|apply eN|apply eD|apply eA|refine eF ?_ GW101.out _|refine eF ?_ GW108.out _)|exact HK.out)))
            (case aL=>have:=LMc49.out;omega)
            intro v123 w65 ho hb hg hat
            rw [←Ny122.out] at ho
            have n0_:=mA (iW (by repeat first|(with_reducible first|exact HI0.out|apply iA|apply iN|apply iD|apply iS|refine iF ?_ NB0_101.out _|refine iF ?_ NB0_108.out _)|exact HI0.out) hg (iO HI0.out HO121.out (by decide)))
            have n1_:=mA (blk_grown (g:=gb101) (o:=.cells #[.int .i64 0,.slice none 0 0] 36 (0,0)) (by (with_reducible repeat first|refine kN ?_ _|refine kD ?_|refine kA ?_ _);exact BK101.out) hg (Kd.R_ne HO121.out BK101.out (by decide)))
            have n2_:=mA (rJ (ok:=(fun _=>True)) (by (with_reducible repeat first|apply rA|apply rN|apply rD);exact rM HO106.out (fun _ hk=>⟨trivial,hk⟩)) hg hat)
            have n3_:=mA (blk_grown (g:=gb108) (o:=.cells #[.int .i64 t103,.slice Ao59 t104.length co59] 36 (0,0)) (by (with_reducible repeat first|refine kN ?_ _|refine kD ?_|refine kA ?_ _);exact BK108.out) hg (Kd.R_ne HO121.out BK108.out (by decide)))
            have n4_:=mA (bW (by repeat first|(with_reducible first|exact HB.out|apply bA|apply bN|apply bD|refine bS ?_ (iG HI0.out)|refine bS ?_ GE101.out|refine bS ?_ GE108.out)|exact HB.out) HL.out hb)
            have n5_:=mA (eT (by repeat first|(with_reducible first|exact HK.out|apply eS|apply eN|apply eD|apply eA|refine eF ?_ GW101.out _|refine eF ?_ GW108.out _)|exact HK.out) (eG hg g) (Kd.R_base2 HO121.out))
            have n6_:=mA (ho)
            clear HI0 BK101 HO106 BK108 HB HK HO121
            have HI0:=n0_;have BK101:=n1_;have HO106:=n2_;have BK108:=n3_;have HB:=n4_;have HK:=n5_;have HO124:=n6_
            clear n0_ n1_ n2_ n3_ n4_ n5_ n6_ ho hb hg hat
            refine hK.out _ _ ⟨(kC BK108.out 0).trans rfl,(kC BK108.out 1).trans rfl⟩ (fun hHeld=>?_)
            clear hK K
            refine norm_ (a':=?_) ?_ ?_
            rotate_left
            ·show Act.put _ (some 40) _=_
             simp only [Act.put,sA,sZ,sS,i64_w,i32_w]
             rfl
            exact norm_ (by first|(simp only [putAll,Act.put,sA,sZ,sS];done)|(simp only [putAll,Act.put,sA,sZ,sS];rfl)) (hJ2_5 (v120,v123) _ ⟨hHeld,(by (with_reducible repeat first|apply rA|apply rN|apply rD);exact rM HO106.out (fun _ hk=>hk.2)),(by (with_reducible repeat first|apply rA|apply rN|apply rD);exact HO124.out),(by (with_reducible repeat first|refine kN ?_ _|refine kD ?_|refine kA ?_ _);exact BK101.out),(by (with_reducible repeat first|refine kN ?_ _|refine kD ?_|refine kA ?_ _);exact BK108.out),(by repeat first|(with_reducible first|exact HI0.out|apply iA|apply iN|apply iD|apply iS|refine iF ?_ NB0_101.out _|refine iF ?_ NB0_108.out _)|exact HI0.out),(by repeat first|(with_reducible first|exact HK.out|apply eS|apply eN|apply eD|apply eA|refine eF ?_ GW101.out _|refine eF ?_ GW108.out _)|exact HK.out),(by repeat first|(with_reducible first|exact HB.out|apply bA|apply bN|apply bD|refine bS ?_ (iG HI0.out)|refine bS ?_ GE101.out|refine bS ?_ GE108.out)|exact HB.out)⟩)
           ·skip
            refine Kd.R_lit_step k33 _ 33 ?hg (N:=45) ?hd (xs:=([(⟨0,t103⟩:S33),(⟨5,0⟩:S33)]:List (S33))) (inner:=[.int .i64 0,.int .i64 t103,.int .i64 5,.int .i64 0]) (ok:=fun _=>True) (okp:=fun _=>True) ?hr ?hp (fun _ hk=>hk) trivial (Below.refl _ _) (Nat.le_refl _) (by simp) ?_;(case hd=>rfl);(case hg=>rfl);(case hr=>first|(go_simp;done)|(go_simp;rfl));(case hp=>exact (Reps.c2 (show Kd.M k33 _ _ _ (⟨0,t103⟩:S33) [.int .i64 0,.int .i64 t103] from (k33_mkM _ _ _ (⟨0,t103⟩:S33) )) (Reps.c2 (show Kd.M k33 _ _ _ (⟨5,0⟩:S33) [.int .i64 5,.int .i64 0] from (k33_mkM _ _ _ (⟨5,0⟩:S33) )) (Reps.none _ _))))
            intro v126 w65 ho66 hb hg_ hnew_
            clear hg_ hnew_
            (first|rw [←Ny125.out] at ho66|(simp only [Int.reduceToNat] at ho66;rw [←Ny125.out] at ho66))
            have n0_:=mA (rE (by (with_reducible repeat first|apply rA|apply rN|apply rD);exact HO106.out) (Kd.R_base ho66) hb)
            have n1_:=mA (rE (by (with_reducible repeat first|apply rA|apply rN|apply rD);exact HO121.out) (Kd.R_base ho66) hb)
            have n2_:=mA (rW (rQ (rQ ho66 (rL (by (with_reducible repeat first|apply rA|apply rN|apply rD);exact HO106.out))) (rL (by (with_reducible repeat first|apply rA|apply rN|apply rD);exact HO121.out))) (eZ (w:=w) (g:=g) (row:=none) (by repeat first|(with_reducible first|exact HK.out|apply eS|apply eN|apply eD|apply eA|refine eF ?_ GW101.out _|refine eF ?_ GW108.out _)|exact HK.out)))
            have n3_:=mA (iB (by repeat first|(with_reducible first|exact HI0.out|apply iA|apply iN|apply iD|apply iS|refine iF ?_ NB0_101.out _|refine iF ?_ NB0_108.out _)|exact HI0.out) hb)
            have n4_:=mA (kB (g:=gb101) (o:=.cells #[.int .i64 0,.slice none 0 0] 36 (0,0)) (by (with_reducible repeat first|refine kN ?_ _|refine kD ?_|refine kA ?_ _);exact BK101.out) hb)
            have n5_:=mA (kB (g:=gb108) (o:=.cells #[.int .i64 t103,.slice Ao59 t104.length co59] 36 (0,0)) (by (with_reducible repeat first|refine kN ?_ _|refine kD ?_|refine kA ?_ _);exact BK108.out) hb)
            have n6_:=mA (eT (by repeat first|(with_reducible first|exact HK.out|apply eS|apply eN|apply eD|apply eA|refine eF ?_ GW101.out _|refine eF ?_ GW108.out _)|exact HK.out) (eB hb g none) (.inl rfl))
            have n7_:=mA (bT (by repeat first|(with_reducible first|exact HB.out|apply bA|apply bN|apply bD|refine bS ?_ (iG HI0.out)|refine bS ?_ GE101.out|refine bS ?_ GE108.out)|exact HB.out) hb)
            clear HO106 HO121 HI0 BK101 BK108 HK HB
            have HO106:=n0_;have HO121:=n1_;have HO127:=n2_;have HI0:=n3_;have BK101:=n4_;have BK108:=n5_;have HK:=n6_;have HB:=n7_
            clear n0_ n1_ n2_ n3_ n4_ n5_ n6_ n7_ hb ho66
            refine hK.out _ _ ⟨(kC BK108.out 0).trans rfl,(kC BK108.out 1).trans rfl⟩ (fun hHeld=>?_)
            clear hK K
            refine norm_ (a':=?_) ?_ ?_
            rotate_left
            ·show Act.put _ (some 45) _=_
             simp only [Act.put,sA,sZ,sS,i64_w,i32_w]
             rfl
            exact norm_ (by first|(simp only [putAll,Act.put,sA,sZ,sS];done)|(simp only [putAll,Act.put,sA,sZ,sS];rfl)) (hJ2_10 (v120,v126) _ ⟨hHeld,(by (with_reducible repeat first|apply rA|apply rN|apply rD);exact HO106.out),(by (with_reducible repeat first|apply rA|apply rN|apply rD);exact HO121.out),(by (with_reducible repeat first|apply rA|apply rN|apply rD);exact rM HO127.out (fun _ hk=>⟨hk.1.2,hk.2⟩)),(by (with_reducible repeat first|refine kN ?_ _|refine kD ?_|refine kA ?_ _);exact BK101.out),(by (with_reducible repeat first|refine kN ?_ _|refine kD ?_|refine kA ?_ _);exact BK108.out),(by repeat first|(with_reducible first|exact HI0.out|apply iA|apply iN|apply iD|apply iS|refine iF ?_ NB0_101.out _|refine iF ?_ NB0_108.out _)|exact HI0.out),(by repeat first|(with_reducible first|exact HK.out|apply eS|apply eN|apply eD|apply eA|refine eF ?_ GW101.out _|refine eF ?_ GW108.out _)|exact HK.out),(by repeat first|(with_reducible first|exact HB.out|apply bA|apply bN|apply bD|refine bS ?_ (iG HI0.out)|refine bS ?_ GE101.out|refine bS ?_ GE108.out)|exact HB.out)⟩)
           skip
           refine box_step ?hg (N:=8) ?hd (cs:=#[.int .i64 0,.slice none 0 0]) (t:=36) ?hr ?_;(case hd=>rfl);(case hg=>rfl);(case hr=>first|(go_simp;done)|(go_simp;rfl))
           intro gb131 hg w65 hbox hb
           have n0_:=mA (rB (by (with_reducible repeat first|apply rA|apply rN|apply rD);exact HO106.out) hb)
           have n1_:=mA (rB (by (with_reducible repeat first|apply rA|apply rN|apply rD);exact HO121.out) hb)
           have n2_:=mA (iB (by repeat first|(with_reducible first|exact HI0.out|apply iA|apply iN|apply iD|apply iS|refine iF ?_ NB0_101.out _|refine iF ?_ NB0_108.out _)|exact HI0.out) hb)
           have n3_:=mA (kB (g:=gb101) (o:=.cells #[.int .i64 0,.slice none 0 0] 36 (0,0)) (by (with_reducible repeat first|refine kN ?_ _|refine kD ?_|refine kA ?_ _);exact BK101.out) hb)
           have n4_:=mA (kB (g:=gb108) (o:=.cells #[.int .i64 t103,.slice Ao59 t104.length co59] 36 (0,0)) (by (with_reducible repeat first|refine kN ?_ _|refine kD ?_|refine kA ?_ _);exact BK108.out) hb)
           have n5_:=mA (eT (by repeat first|(with_reducible first|exact HK.out|apply eS|apply eN|apply eD|apply eA|refine eF ?_ GW101.out _|refine eF ?_ GW108.out _)|exact HK.out) (eB hb g none) (.inl rfl))
           have n6_:=mA (bT (by repeat first|(with_reducible first|exact HB.out|apply bA|apply bN|apply bD|refine bS ?_ (iG HI0.out)|refine bS ?_ GE101.out|refine bS ?_ GE108.out)|exact HB.out) hb)
           have n7_:=mA (hbox)
           have n8_:=mA ((by rw [hg];exact (eZ (w:=w) (g:=g) (row:=none) (by repeat first|(with_reducible first|exact HK.out|apply eS|apply eN|apply eD|apply eA|refine eF ?_ GW101.out _|refine eF ?_ GW108.out _)|exact HK.out)):w.heap.size≤gb131))
           have n9_:=mA ((Nat.le_trans HW0.out (by rw [hg];exact (eZ (w:=w) (g:=g) (row:=none) (by repeat first|(with_reducible first|exact HK.out|apply eS|apply eN|apply eD|apply eA|refine eF ?_ GW101.out _|refine eF ?_ GW108.out _)|exact HK.out)):w.heap.size≤gb131):w0.heap.size≤gb131))
           have n10_:=mA ((by rw [hg];exact Nat.ne_of_lt (kL (g:=gb101) (o:=.cells #[.int .i64 0,.slice none 0 0] 36 (0,0)) (by (with_reducible repeat first|refine kN ?_ _|refine kD ?_|refine kA ?_ _);exact BK101.out)):gb101≠gb131))
           have n11_:=mA ((by rw [hg];exact Nat.ne_of_gt (kL (g:=gb101) (o:=.cells #[.int .i64 0,.slice none 0 0] 36 (0,0)) (by (with_reducible repeat first|refine kN ?_ _|refine kD ?_|refine kA ?_ _);exact BK101.out)):gb131≠gb101))
           have n12_:=mA ((by rw [hg];exact Nat.ne_of_lt (kL (g:=gb108) (o:=.cells #[.int .i64 t103,.slice Ao59 t104.length co59] 36 (0,0)) (by (with_reducible repeat first|refine kN ?_ _|refine kD ?_|refine kA ?_ _);exact BK108.out)):gb108≠gb131))
           have n13_:=mA ((by rw [hg];exact Nat.ne_of_gt (kL (g:=gb108) (o:=.cells #[.int .i64 t103,.slice Ao59 t104.length co59] 36 (0,0)) (by (with_reducible repeat first|refine kN ?_ _|refine kD ?_|refine kA ?_ _);exact BK108.out)):gb131≠gb108))
           have n14_:=mA ((by rw [hg];exact Nat.ne_of_lt (iL (show IsS113 w0 _ g s0_0 t110 from by repeat first|(with_reducible first|exact HI0.out|apply iA|apply iN|apply iD|apply iS|refine iF ?_ NB0_101.out _|refine iF ?_ NB0_108.out _)|exact HI0.out)):g≠gb131))
           have n15_:=mA ((by rw [hg];exact Nat.ne_of_gt (iL (show IsS113 w0 _ g s0_0 t110 from by repeat first|(with_reducible first|exact HI0.out|apply iA|apply iN|apply iD|apply iS|refine iF ?_ NB0_101.out _|refine iF ?_ NB0_108.out _)|exact HI0.out)):gb131≠g))
           clear HO106 HO121 HI0 BK101 BK108 HK HB
           have HO106:=n0_;have HO121:=n1_;have HI0:=n2_;have BK101:=n3_;have BK108:=n4_;have HK:=n5_;have HB:=n6_;have BK131:=n7_;have GW131:=n8_;have GE131:=n9_;have NB101_131:=n10_;have NB131_101:=n11_;have NB108_131:=n12_;have NB131_108:=n13_;have NB0_131:=n14_;have NB131_0:=n15_
           clear n0_ n1_ n2_ n3_ n4_ n5_ n6_ n7_ n8_ n9_ n10_ n11_ n12_ n13_ n14_ n15_ hb hbox hg
           refine hK.out _ _ ⟨(kC BK108.out 0).trans rfl,(kC BK108.out 1).trans rfl⟩ (fun hHeld=>?_)
           clear hK K
           refine norm_ (a':=?_) ?_ ?_
           rotate_left
           ·show Act.put _ (some 8) _=_
            simp only [Act.put,sA,sZ,sS,i64_w,i32_w]
            rfl
           exact norm_ (by first|(simp only [putAll,Act.put,sA,sZ,sS];done)|(simp only [putAll,Act.put,sA,sZ,sS];rfl)) (hJ2_13 (v120,gb131) _ ⟨hHeld,(by (with_reducible repeat first|apply rA|apply rN|apply rD);exact HO106.out),(by (with_reducible repeat first|apply rA|apply rN|apply rD);exact HO121.out),(by (with_reducible repeat first|refine kN ?_ _|refine kD ?_|refine kA ?_ _);exact BK101.out),(by (with_reducible repeat first|refine kN ?_ _|refine kD ?_|refine kA ?_ _);exact BK108.out),(by (with_reducible repeat first|refine kN ?_ _|refine kD ?_|refine kA ?_ _);exact BK131.out),GW131.out,GE131.out,NB0_131.out,NB131_0.out,NB101_131.out,NB131_101.out,NB108_131.out,NB131_108.out,(by repeat first|(with_reducible first|exact HI0.out|apply iA|apply iN|apply iD|apply iS|refine iF ?_ NB0_101.out _|refine iF ?_ NB0_108.out _|refine iF ?_ NB0_131.out _)|exact HI0.out),(by repeat first|(with_reducible first|exact HK.out|apply eS|apply eN|apply eD|apply eA|refine eF ?_ GW101.out _|refine eF ?_ GW108.out _|refine eF ?_ GW131.out _)|exact HK.out),(by repeat first|(with_reducible first|exact HB.out|apply bA|apply bN|apply bD|refine bS ?_ (iG HI0.out)|refine bS ?_ GE101.out|refine bS ?_ GE108.out|refine bS ?_ GE131.out)|exact HB.out)⟩)
          skip
          rintro ⟨v126,gb131⟩ w65 ⟨hS_,h0_,h1_,h2_,h3_,h4_,h5_,h6_,h7_,h8_,h9_,h10_,h11_,h12_,h13_,h14_,h15_⟩
          have n0_:Aside0 (Kd.R k33 33 w65 w.heap.size (fun k_=>some k_≠(v126:Value).ownBlock) (.slice Ao59 t104.length co59) t104):=⟨h0_⟩
          have n1_:Aside0 (Kd.R k33 33 w65 w.heap.size (fun k_=>some k_≠(.slice Ao59 t104.length co59:Value).ownBlock) v126 y125):=⟨h1_⟩
          have n2_:Aside0 (w65.heap[gb101]?=some (.cells #[.int .i64 0,.slice none 0 0] 36 (0,0))):=⟨h2_⟩
          have n3_:Aside0 (w65.heap[gb108]?=some (.cells #[.int .i64 t103,.slice Ao59 t104.length co59] 36 (0,0))):=⟨h3_⟩
          have n4_:Aside0 (w65.heap[gb131]?=some (.cells #[.int .i64 0,.slice none 0 0] 36 (0,0))):=⟨h4_⟩
          have n5_:Aside0 (w.heap.size≤gb131):=⟨h5_⟩
          have n6_:Aside0 (w0.heap.size≤gb131):=⟨h6_⟩
          have n7_:Aside0 (g≠gb131):=⟨h7_⟩
          have n8_:Aside0 (gb131≠g):=⟨h8_⟩
          have n9_:Aside0 (gb101≠gb131):=⟨h9_⟩
          have n10_:Aside0 (gb131≠gb101):=⟨h10_⟩
          have n11_:Aside0 (gb108≠gb131):=⟨h11_⟩
          have n12_:Aside0 (gb131≠gb108):=⟨h12_⟩
          have n13_:Aside0 (IsS113 w0 w65 g s0_0 t110):=⟨h13_⟩
          have n14_:Aside0 (KeepBut w w65 g none):=⟨h14_⟩
          have n15_:Aside0 (Below w0.heap.size w0 w65):=⟨h15_⟩
          clear HO106 BK101 BK108 HI0 HK HB h0_ h1_ h2_ h3_ h4_ h5_ h6_ h7_ h8_ h9_ h10_ h11_ h12_ h13_ h14_ h15_
          have HO106:=n0_;have HO127:=n1_;have BK101:=n2_;have BK108:=n3_;have BK131:=n4_;have GW131:=n5_;have GE131:=n6_;have NB0_131:=n7_;have NB131_0:=n8_;have NB101_131:=n9_;have NB131_101:=n10_;have NB108_131:=n11_;have NB131_108:=n12_;have HI0:=n13_;have HK:=n14_;have HB:=n15_
          clear n0_ n1_ n2_ n3_ n4_ n5_ n6_ n7_ n8_ n9_ n10_ n11_ n12_ n13_ n14_ n15_
          have hHeld:w65.cell? ⟨gb108,0,none⟩=some (.int .i64 t103)∧w65.cell? ⟨gb108,1,none⟩=some (.slice Ao59 t104.length co59):=hS_
          refine norm_ (a':=?_) ?_ ?_
          rotate_left
          ·simp only [putAll,Act.put,sA,sZ,sS]
           rfl
          refine one_ (i:=2) (N:=some 37) #[I,I,I,I,I,O,I,I,I,I,I,O,O,I,O] rfl rfl (one_of HT_.out (by kernel_rfl)) (by decide) (fun K hK=>?_)
          refine Kd.R_lit_step k33 _ 33 ?hg (N:=37) ?hd (xs:=([]:List (S33))) (inner:=[]) (ok:=fun _=>True) (okp:=fun _=>True) ?hr ?hp (fun _ hk=>hk) trivial (Below.refl _ _) (Nat.le_refl _) (by simp) ?_;(case hd=>rfl);(case hg=>rfl);(case hr=>first|(go_simp;done)|(go_simp;rfl));(case hp=>exact (Reps.none _ _))
          intro v120 w66 ho67 hb hg_ hnew_
          clear hg_ hnew_
          (first|rw [←Ny119.out] at ho67|(simp only [Int.reduceToNat] at ho67;rw [←Ny119.out] at ho67))
          have n0_:=mA (rE (by (with_reducible repeat first|apply rA|apply rN|apply rD);exact HO106.out) (Kd.R_base ho67) hb)
          have n1_:=mA (rE (by (with_reducible repeat first|apply rA|apply rN|apply rD);exact HO127.out) (Kd.R_base ho67) hb)
          have n2_:=mA (rW (rQ (rQ ho67 (rL (by (with_reducible repeat first|apply rA|apply rN|apply rD);exact HO106.out))) (rL (by (with_reducible repeat first|apply rA|apply rN|apply rD);exact HO127.out))) (eZ (w:=w) (g:=g) (row:=none) (by repeat first|(with_reducible first|exact HK.out|apply eS|apply eN|apply eD|apply eA|refine eF ?_ GW101.out _|refine eF ?_ GW108.out _|refine eF ?_ GW131.out _)|exact HK.out)))
          have n3_:=mA (iB (by repeat first|(with_reducible first|exact HI0.out|apply iA|apply iN|apply iD|apply iS|refine iF ?_ NB0_101.out _|refine iF ?_ NB0_108.out _|refine iF ?_ NB0_131.out _)|exact HI0.out) hb)
          have n4_:=mA (kB (g:=gb101) (o:=.cells #[.int .i64 0,.slice none 0 0] 36 (0,0)) (by (with_reducible repeat first|refine kN ?_ _|refine kD ?_|refine kA ?_ _);exact BK101.out) hb)
          have n5_:=mA (kB (g:=gb108) (o:=.cells #[.int .i64 t103,.slice Ao59 t104.length co59] 36 (0,0)) (by (with_reducible repeat first|refine kN ?_ _|refine kD ?_|refine kA ?_ _);exact BK108.out) hb)
          have n6_:=mA (kB (g:=gb131) (o:=.cells #[.int .i64 0,.slice none 0 0] 36 (0,0)) (by (with_reducible repeat first|refine kN ?_ _|refine kD ?_|refine kA ?_ _);exact BK131.out) hb)
          have n7_:=mA (eT (by repeat first|(with_reducible first|exact HK.out|apply eS|apply eN|apply eD|apply eA|refine eF ?_ GW101.out _|refine eF ?_ GW108.out _|refine eF ?_ GW131.out _)|exact HK.out) (eB hb g none) (.inl rfl))
          have n8_:=mA (bT (by repeat first|(with_reducible first|exact HB.out|apply bA|apply bN|apply bD|refine bS ?_ (iG HI0.out)|refine bS ?_ GE101.out|refine bS ?_ GE108.out|refine bS ?_ GE131.out)|exact HB.out) hb)
          clear HO106 HO127 HI0 BK101 BK108 BK131 HK HB
          have HO106:=n0_;have HO127:=n1_;have HO121:=n2_;have HI0:=n3_;have BK101:=n4_;have BK108:=n5_;have BK131:=n6_;have HK:=n7_;have HB:=n8_
          clear n0_ n1_ n2_ n3_ n4_ n5_ n6_ n7_ n8_ hb ho67
          refine hK.out _ _ ⟨(kC BK108.out 0).trans rfl,(kC BK108.out 1).trans rfl⟩ (fun hHeld=>?_)
          clear hK K
          refine norm_ (a':=?_) ?_ ?_
          rotate_left
          ·show Act.put _ (some 37) _=_
           simp only [Act.put,sA,sZ,sS,i64_w,i32_w]
           rfl
          exact norm_ (by first|(simp only [putAll,Act.put,sA,sZ,sS];done)|(simp only [putAll,Act.put,sA,sZ,sS];rfl)) (hJ2_10_13 (v120,v126,gb131) _ ⟨hHeld,(by (with_reducible repeat first|apply rA|apply rN|apply rD);exact rM HO106.out (fun _ hk=>⟨hk.2,hk.1⟩)),(by (with_reducible repeat first|apply rA|apply rN|apply rD);exact rM HO121.out (fun _ hk=>⟨hk.1.2,hk.2⟩)),(by (with_reducible repeat first|apply rA|apply rN|apply rD);exact HO127.out),(by (with_reducible repeat first|refine kN ?_ _|refine kD ?_|refine kA ?_ _);exact BK101.out),(by (with_reducible repeat first|refine kN ?_ _|refine kD ?_|refine kA ?_ _);exact BK108.out),(by (with_reducible repeat first|refine kN ?_ _|refine kD ?_|refine kA ?_ _);exact BK131.out),GW131.out,GE131.out,NB0_131.out,NB131_0.out,NB101_131.out,NB131_101.out,NB108_131.out,NB131_108.out,(by repeat first|(with_reducible first|exact HI0.out|apply iA|apply iN|apply iD|apply iS|refine iF ?_ NB0_101.out _|refine iF ?_ NB0_108.out _|refine iF ?_ NB0_131.out _)|exact HI0.out),(by repeat first|(with_reducible first|exact HK.out|apply eS|apply eN|apply eD|apply eA|refine eF ?_ GW101.out _|refine eF ?_ GW108.out _|refine eF ?_ GW131.out _)|exact HK.out),(by repeat first|(with_reducible first|exact HB.out|apply bA|apply bN|apply bD|refine bS ?_ (iG HI0.out)|refine bS ?_ GE101.out|refine bS ?_ GE108.out|refine bS ?_ GE131.out)|exact HB.out)⟩)
         skip
         rintro ⟨v120,gb131⟩ w65 ⟨hS_,h0_,h1_,h2_,h3_,h4_,h5_,h6_,h7_,h8_,h9_,h10_,h11_,h12_,h13_,h14_,h15_⟩
         have n0_:Aside0 (Kd.R k33 33 w65 w.heap.size (fun k_=>some k_≠(v120:Value).ownBlock) (.slice Ao59 t104.length co59) t104):=⟨h0_⟩
         have n1_:Aside0 (Kd.R k33 33 w65 w.heap.size (fun k_=>some k_≠(.slice Ao59 t104.length co59:Value).ownBlock) v120 y119):=⟨h1_⟩
         have n2_:Aside0 (w65.heap[gb101]?=some (.cells #[.int .i64 0,.slice none 0 0] 36 (0,0))):=⟨h2_⟩
         have n3_:Aside0 (w65.heap[gb108]?=some (.cells #[.int .i64 t103,.slice Ao59 t104.length co59] 36 (0,0))):=⟨h3_⟩
         have n4_:Aside0 (w65.heap[gb131]?=some (.cells #[.int .i64 0,.slice none 0 0] 36 (0,0))):=⟨h4_⟩
         have n5_:Aside0 (w.heap.size≤gb131):=⟨h5_⟩
         have n6_:Aside0 (w0.heap.size≤gb131):=⟨h6_⟩
         have n7_:Aside0 (g≠gb131):=⟨h7_⟩
         have n8_:Aside0 (gb131≠g):=⟨h8_⟩
         have n9_:Aside0 (gb101≠gb131):=⟨h9_⟩
         have n10_:Aside0 (gb131≠gb101):=⟨h10_⟩
         have n11_:Aside0 (gb108≠gb131):=⟨h11_⟩
         have n12_:Aside0 (gb131≠gb108):=⟨h12_⟩
         have n13_:Aside0 (IsS113 w0 w65 g s0_0 t110):=⟨h13_⟩
         have n14_:Aside0 (KeepBut w w65 g none):=⟨h14_⟩
         have n15_:Aside0 (Below w0.heap.size w0 w65):=⟨h15_⟩
         clear HO106 BK101 BK108 HI0 HK HB h0_ h1_ h2_ h3_ h4_ h5_ h6_ h7_ h8_ h9_ h10_ h11_ h12_ h13_ h14_ h15_
         have HO106:=n0_;have HO121:=n1_;have BK101:=n2_;have BK108:=n3_;have BK131:=n4_;have GW131:=n5_;have GE131:=n6_;have NB0_131:=n7_;have NB131_0:=n8_;have NB101_131:=n9_;have NB131_101:=n10_;have NB108_131:=n11_;have NB131_108:=n12_;have HI0:=n13_;have HK:=n14_;have HB:=n15_
         clear n0_ n1_ n2_ n3_ n4_ n5_ n6_ n7_ n8_ n9_ n10_ n11_ n12_ n13_ n14_ n15_
         have hHeld:w65.cell? ⟨gb108,0,none⟩=some (.int .i64 t103)∧w65.cell? ⟨gb108,1,none⟩=some (.slice Ao59 t104.length co59):=hS_
         refine norm_ (a':=?_) ?_ ?_
         rotate_left
         ·simp only [putAll,Act.put,sA,sZ,sS]
          rfl
         refine two_ (i:=5) (j:=10) (Ni:=some 40) (Nj:=some 45) #[I,I,I,I,I,I,I,I,I,I,O,O,O,I,O] #[I,I,I,I,I,O,I,I,I,I,I,O,O,I,O] rfl rfl rfl rfl (two_of HT_.out (by kernel_rfl)) (by decide) (by decide) (fun K hK=>?_) (fun K hK=>?_)
         ·skip
          refine Kd.R_append_rows_step k33 w.heap.size (by rfl) (.tmp 37) (.tmp 39) 34 33 (.agg #[(.int .i64 0),(.int .i64 0)]) 16 rfl Try.underlying34 info33 rfl (by decide) (by omega) v120 y119 t104 _ _ _ (fun k_=>some k_≠(.slice Ao59 t104.length co59:Value).ownBlock) (fun _=>False) rfl rfl ?aO ?aR (fun _ _ h=>h) (fun _ h=>h.elim) ?aF (Below.refl _ _) ?aS ?aL ?_
          (case aR=>repeat first|exact (rR HO106.out).2.2|(with_reducible refine cA ?_ _)|(with_reducible refine cN ?_ _)|(with_reducible refine cD ?_))
          (case aF=>exact (fun k_ hk=>Kd.fresh' (rL (by (with_reducible repeat first|apply rA|apply rN|apply rD);exact HO106.out)) k_ hk))
          (case aO=>exact (by (with_reducible repeat first|apply rA|apply rN|apply rD);exact HO121.out))
          (case aS=>exact (eZ (w:=w) (g:=g) (row:=none) (by repeat first|(with_reducible first|exact HK.out|apply eS|apply eN|apply eD|apply eA|refine eF ?_ GW101.out _|refine eF ?_ GW108.out _|refine eF ?_ GW131.out _)|exact HK.out)))
          (case aL=>have:=LMc49.out;omega)
          intro v123 w66 ho hb hg hat
          rw [←Ny122.out] at ho
          have n0_:=mA (iW (by repeat first|(with_reducible first|exact HI0.out|apply iA|apply iN|apply iD|apply iS|refine iF ?_ NB0_101.out _|refine iF ?_ NB0_108.out _|refine iF ?_ NB0_131.out _)|exact HI0.out) hg (iO HI0.out HO121.out (by decide)))
          have n1_:=mA (blk_grown (g:=gb101) (o:=.cells #[.int .i64 0,.slice none 0 0] 36 (0,0)) (by (with_reducible repeat first|refine kN ?_ _|refine kD ?_|refine kA ?_ _);exact BK101.out) hg (Kd.R_ne HO121.out BK101.out (by decide)))
          have n2_:=mA (rJ (ok:=(fun _=>True)) (by (with_reducible repeat first|apply rA|apply rN|apply rD);exact rM HO106.out (fun _ hk=>⟨trivial,hk⟩)) hg hat)
          have n3_:=mA (blk_grown (g:=gb108) (o:=.cells #[.int .i64 t103,.slice Ao59 t104.length co59] 36 (0,0)) (by (with_reducible repeat first|refine kN ?_ _|refine kD ?_|refine kA ?_ _);exact BK108.out) hg (Kd.R_ne HO121.out BK108.out (by decide)))
          have n4_:=mA (blk_grown (g:=gb131) (o:=.cells #[.int .i64 0,.slice none 0 0] 36 (0,0)) (by (with_reducible repeat first|refine kN ?_ _|refine kD ?_|refine kA ?_ _);exact BK131.out) hg (Kd.R_ne HO121.out BK131.out (by decide)))
          have n5_:=mA (bW (by repeat first|(with_reducible first|exact HB.out|apply bA|apply bN|apply bD|refine bS ?_ (iG HI0.out)|refine bS ?_ GE101.out|refine bS ?_ GE108.out|refine bS ?_ GE131.out)|exact HB.out) HL.out hb)
          have n6_:=mA (eT (by repeat first|(with_reducible first|exact HK.out|apply eS|apply eN|apply eD|apply eA|refine eF ?_ GW101.out _|refine eF ?_ GW108.out _|refine eF ?_ GW131.out _)|exact HK.out) (eG hg g) (Kd.R_base2 HO121.out))
          have n7_:=mA (ho)
          clear HI0 BK101 HO106 BK108 BK131 HB HK HO121
          have HI0:=n0_;have BK101:=n1_;have HO106:=n2_;have BK108:=n3_;have BK131:=n4_;have HB:=n5_;have HK:=n6_;have HO124:=n7_
          clear n0_ n1_ n2_ n3_ n4_ n5_ n6_ n7_ ho hb hg hat
          refine hK.out _ _ ⟨(kC BK108.out 0).trans rfl,(kC BK108.out 1).trans rfl⟩ (fun hHeld=>?_)
          clear hK K
          refine norm_ (a':=?_) ?_ ?_
          rotate_left
          ·show Act.put _ (some 40) _=_
           simp only [Act.put,sA,sZ,sS,i64_w,i32_w]
           rfl
          exact norm_ (by first|(simp only [putAll,Act.put,sA,sZ,sS];done)|(simp only [putAll,Act.put,sA,sZ,sS];rfl)) (hJ2_5_13 (v120,v123,gb131) _ ⟨hHeld,(by (with_reducible repeat first|apply rA|apply rN|apply rD);exact rM HO106.out (fun _ hk=>hk.2)),(by (with_reducible repeat first|apply rA|apply rN|apply rD);exact HO124.out),(by (with_reducible repeat first|refine kN ?_ _|refine kD ?_|refine kA ?_ _);exact BK101.out),(by (with_reducible repeat first|refine kN ?_ _|refine kD ?_|refine kA ?_ _);exact BK108.out),(by (with_reducible repeat first|refine kN ?_ _|refine kD ?_|refine kA ?_ _);exact BK131.out),GW131.out,GE131.out,NB0_131.out,NB131_0.out,NB101_131.out,NB131_101.out,NB108_131.out,NB131_108.out,(by repeat first|(with_reducible first|exact HI0.out|apply iA|apply iN|apply iD|apply iS|refine iF ?_ NB0_101.out _|refine iF ?_ NB0_108.out _|refine iF ?_ NB0_131.out _)|exact HI0.out),(by repeat first|(with_reducible first|exact HK.out|apply eS|apply eN|apply eD|apply eA|refine eF ?_ GW101.out _|refine eF ?_ GW108.out _|refine eF ?_ GW131.out _)|exact HK.out),(by repeat first|(with_reducible first|exact HB.out|apply bA|apply bN|apply bD|refine bS ?_ (iG HI0.out)|refine bS ?_ GE101.out|refine bS ?_ GE108.out|refine bS ?_ GE131.out)|exact HB.out)⟩)
         skip
         refine Kd.R_lit_step k33 _ 33 ?hg (N:=45) ?hd (xs:=([(⟨0,t103⟩:S33),(⟨5,0⟩:S33)]:List (S33))) (inner:=[.int .i64 0,.int .i64 t103,.int .i64 5,.int .i64 0]) (ok:=fun _=>True) (okp:=fun _=>True) ?hr ?hp (fun _ hk=>hk) trivial (Below.refl _ _) (Nat.le_refl _) (by simp) ?_;(case hd=>rfl);(case hg=>rfl);(case hr=>first|(go_simp;done)|(go_simp;rfl));(case hp=>exact (Reps.c2 (show Kd.M k33 _ _ _ (⟨0,t103⟩:S33) [.int .i64 0,.int .i64 t103] from (k33_mkM _ _ _ (⟨0,t103⟩:S33) )) (Reps.c2 (show Kd.M k33 _ _ _ (⟨5,0⟩:S33) [.int .i64 5,.int .i64 0] from (k33_mkM _ _ _ (⟨5,0⟩:S33) )) (Reps.none _ _))))
         intro v126 w66 ho67 hb hg_ hnew_
         clear hg_ hnew_
         (first|rw [←Ny125.out] at ho67|(simp only [Int.reduceToNat] at ho67;rw [←Ny125.out] at ho67))
         have n0_:=mA (rE (by (with_reducible repeat first|apply rA|apply rN|apply rD);exact HO106.out) (Kd.R_base ho67) hb)
         have n1_:=mA (rE (by (with_reducible repeat first|apply rA|apply rN|apply rD);exact HO121.out) (Kd.R_base ho67) hb)
         have n2_:=mA (rW (rQ (rQ ho67 (rL (by (with_reducible repeat first|apply rA|apply rN|apply rD);exact HO106.out))) (rL (by (with_reducible repeat first|apply rA|apply rN|apply rD);exact HO121.out))) (eZ (w:=w) (g:=g) (row:=none) (by repeat first|(with_reducible first|exact HK.out|apply eS|apply eN|apply eD|apply eA|refine eF ?_ GW101.out _|refine eF ?_ GW108.out _|refine eF ?_ GW131.out _)|exact HK.out)))
         have n3_:=mA (iB (by repeat first|(with_reducible first|exact HI0.out|apply iA|apply iN|apply iD|apply iS|refine iF ?_ NB0_101.out _|refine iF ?_ NB0_108.out _|refine iF ?_ NB0_131.out _)|exact HI0.out) hb)
         have n4_:=mA (kB (g:=gb101) (o:=.cells #[.int .i64 0,.slice none 0 0] 36 (0,0)) (by (with_reducible repeat first|refine kN ?_ _|refine kD ?_|refine kA ?_ _);exact BK101.out) hb)
         have n5_:=mA (kB (g:=gb108) (o:=.cells #[.int .i64 t103,.slice Ao59 t104.length co59] 36 (0,0)) (by (with_reducible repeat first|refine kN ?_ _|refine kD ?_|refine kA ?_ _);exact BK108.out) hb)
         have n6_:=mA (kB (g:=gb131) (o:=.cells #[.int .i64 0,.slice none 0 0] 36 (0,0)) (by (with_reducible repeat first|refine kN ?_ _|refine kD ?_|refine kA ?_ _);exact BK131.out) hb)
         have n7_:=mA (eT (by repeat first|(with_reducible first|exact HK.out|apply eS|apply eN|apply eD|apply eA|refine eF ?_ GW101.out _|refine eF ?_ GW108.out _|refine eF ?_ GW131.out _)|exact HK.out) (eB hb g none) (.inl rfl))
         have n8_:=mA (bT (by repeat first|(with_reducible first|exact HB.out|apply bA|apply bN|apply bD|refine bS ?_ (iG HI0.out)|refine bS ?_ GE101.out|refine bS ?_ GE108.out|refine bS ?_ GE131.out)|exact HB.out) hb)
         clear HO106 HO121 HI0 BK101 BK108 BK131 HK HB
         have HO106:=n0_;have HO121:=n1_;have HO127:=n2_;have HI0:=n3_;have BK101:=n4_;have BK108:=n5_;have BK131:=n6_;have HK:=n7_;have HB:=n8_
         clear n0_ n1_ n2_ n3_ n4_ n5_ n6_ n7_ n8_ hb ho67
         refine hK.out _ _ ⟨(kC BK108.out 0).trans rfl,(kC BK108.out 1).trans rfl⟩ (fun hHeld=>?_)
         clear hK K
         refine norm_ (a':=?_) ?_ ?_
         rotate_left
         ·show Act.put _ (some 45) _=_
          simp only [Act.put,sA,sZ,sS,i64_w,i32_w]
          rfl
         exact norm_ (by first|(simp only [putAll,Act.put,sA,sZ,sS];done)|(simp only [putAll,Act.put,sA,sZ,sS];rfl)) (hJ2_10_13 (v120,v126,gb131) _ ⟨hHeld,(by (with_reducible repeat first|apply rA|apply rN|apply rD);exact HO106.out),(by (with_reducible repeat first|apply rA|apply rN|apply rD);exact HO121.out),(by (with_reducible repeat first|apply rA|apply rN|apply rD);exact rM HO127.out (fun _ hk=>⟨hk.1.2,hk.2⟩)),(by (with_reducible repeat first|refine kN ?_ _|refine kD ?_|refine kA ?_ _);exact BK101.out),(by (with_reducible repeat first|refine kN ?_ _|refine kD ?_|refine kA ?_ _);exact BK108.out),(by (with_reducible repeat first|refine kN ?_ _|refine kD ?_|refine kA ?_ _);exact BK131.out),GW131.out,GE131.out,NB0_131.out,NB131_0.out,NB101_131.out,NB131_101.out,NB108_131.out,NB131_108.out,(by repeat first|(with_reducible first|exact HI0.out|apply iA|apply iN|apply iD|apply iS|refine iF ?_ NB0_101.out _|refine iF ?_ NB0_108.out _|refine iF ?_ NB0_131.out _)|exact HI0.out),(by repeat first|(with_reducible first|exact HK.out|apply eS|apply eN|apply eD|apply eA|refine eF ?_ GW101.out _|refine eF ?_ GW108.out _|refine eF ?_ GW131.out _)|exact HK.out),(by repeat first|(with_reducible first|exact HB.out|apply bA|apply bN|apply bD|refine bS ?_ (iG HI0.out)|refine bS ?_ GE101.out|refine bS ?_ GE108.out|refine bS ?_ GE131.out)|exact HB.out)⟩)
        skip
        rintro ⟨v120,v126⟩ w66 ⟨hS_,h0_,h1_,h2_,h3_,h4_,h5_,h6_,h7_⟩
        have n0_:Aside0 (Kd.R k33 33 w66 w.heap.size (fun k_=>some k_≠(v120:Value).ownBlock∧some k_≠(v126:Value).ownBlock) (.slice Ao59 t104.length co59) t104):=⟨h0_⟩
        have n1_:Aside0 (Kd.R k33 33 w66 w.heap.size (fun k_=>some k_≠(.slice Ao59 t104.length co59:Value).ownBlock∧some k_≠(v126:Value).ownBlock) v120 y119):=⟨h1_⟩
        have n2_:Aside0 (Kd.R k33 33 w66 w.heap.size (fun k_=>some k_≠(.slice Ao59 t104.length co59:Value).ownBlock∧some k_≠(v120:Value).ownBlock) v126 y125):=⟨h2_⟩
        have n3_:Aside0 (w66.heap[gb101]?=some (.cells #[.int .i64 0,.slice none 0 0] 36 (0,0))):=⟨h3_⟩
        have n4_:Aside0 (w66.heap[gb108]?=some (.cells #[.int .i64 t103,.slice Ao59 t104.length co59] 36 (0,0))):=⟨h4_⟩
        have n5_:Aside0 (IsS113 w0 w66 g s0_0 t110):=⟨h5_⟩
        have n6_:Aside0 (KeepBut w w66 g none):=⟨h6_⟩
        have n7_:Aside0 (Below w0.heap.size w0 w66):=⟨h7_⟩
        clear HO106 BK101 BK108 HI0 HK HB h0_ h1_ h2_ h3_ h4_ h5_ h6_ h7_
        have HO106:=n0_;have HO121:=n1_;have HO127:=n2_;have BK101:=n3_;have BK108:=n4_;have HI0:=n5_;have HK:=n6_;have HB:=n7_
        clear n0_ n1_ n2_ n3_ n4_ n5_ n6_ n7_
        have hHeld:w66.cell? ⟨gb108,0,none⟩=some (.int .i64 t103)∧w66.cell? ⟨gb108,1,none⟩=some (.slice Ao59 t104.length co59):=hS_
        refine norm_ (a':=?_) ?_ ?_
        rotate_left
        ·simp only [putAll,Act.put,sA,sZ,sS]
         rfl
        refine two_ (i:=5) (j:=13) (Ni:=some 40) (Nj:=some 8) #[I,I,I,I,I,I,I,I,I,I,I,O,O,O,O] #[I,I,I,I,I,O,I,I,I,I,I,O,O,I,O] rfl rfl rfl rfl (two_of HT_.out (by kernel_rfl)) (by decide) (by decide) (fun K hK=>?_) (fun K hK=>?_)
        ·skip
         refine Kd.R_append_rows_step k33 w.heap.size (by rfl) (.tmp 37) (.tmp 39) 34 33 (.agg #[(.int .i64 0),(.int .i64 0)]) 16 rfl Try.underlying34 info33 rfl (by decide) (by omega) v120 y119 t104 _ _ _ (fun k_=>some k_≠(.slice Ao59 t104.length co59:Value).ownBlock∧some k_≠(v126:Value).ownBlock) (fun _=>False) rfl rfl ?aO ?aR (fun _ _ h=>h) (fun _ h=>h.elim) ?aF (Below.refl _ _) ?aS ?aL ?_
         (case aR=>repeat first|exact (rR HO106.out).2.2|(with_reducible refine cA ?_ _)|(with_reducible refine cN ?_ _)|(with_reducible refine cD ?_))
         (case aF=>exact (fun k_ hk=>⟨Kd.fresh' (rL (by (with_reducible repeat first|apply rA|apply rN|apply rD);exact HO106.out)) k_ hk,Kd.fresh' (rL (by (with_reducible repeat first|apply rA|apply rN|apply rD);exact HO127.out)) k_ hk⟩))
         (case aO=>exact (by (with_reducible repeat first|apply rA|apply rN|apply rD);exact HO121.out))
         (case aS=>exact (eZ (w:=w) (g:=g) (row:=none) (by repeat first|(with_reducible first|exact HK.out|apply eS|apply eN|apply eD|apply eA|refine eF ?_ GW101.out _|refine eF ?_ GW108.out _)|exact HK.out)))
         (case aL=>have:=LMc49.out;omega)
         intro v123 w67 ho hb hg hat
         rw [←Ny122.out] at ho
         have n0_:=mA (iW (by repeat first|(with_reducible first|exact HI0.out|apply iA|apply iN|apply iD|apply iS|refine iF ?_ NB0_101.out _|refine iF ?_ NB0_108.out _)|exact HI0.out) hg (iO HI0.out HO121.out (by decide)))
         have n1_:=mA (blk_grown (g:=gb101) (o:=.cells #[.int .i64 0,.slice none 0 0] 36 (0,0)) (by (with_reducible repeat first|refine kN ?_ _|refine kD ?_|refine kA ?_ _);exact BK101.out) hg (Kd.R_ne HO121.out BK101.out (by decide)))
         have n2_:=mA (rJ (ok:=(fun k_=>some k_≠(v126:Value).ownBlock)) (by (with_reducible repeat first|apply rA|apply rN|apply rD);exact rM HO106.out (fun _ hk=>⟨hk.2,hk.1⟩)) hg hat)
         have n3_:=mA (blk_grown (g:=gb108) (o:=.cells #[.int .i64 t103,.slice Ao59 t104.length co59] 36 (0,0)) (by (with_reducible repeat first|refine kN ?_ _|refine kD ?_|refine kA ?_ _);exact BK108.out) hg (Kd.R_ne HO121.out BK108.out (by decide)))
         have n4_:=mA (rJ (ok:=(fun k_=>some k_≠(.slice Ao59 t104.length co59:Value).ownBlock)) (by (with_reducible repeat first|apply rA|apply rN|apply rD);exact HO127.out) hg hat)
         have n5_:=mA (bW (by repeat first|(with_reducible first|exact HB.out|apply bA|apply bN|apply bD|refine bS ?_ (iG HI0.out)|refine bS ?_ GE101.out|refine bS ?_ GE108.out)|exact HB.out) HL.out hb)
         have n6_:=mA (eT (by repeat first|(with_reducible first|exact HK.out|apply eS|apply eN|apply eD|apply eA|refine eF ?_ GW101.out _|refine eF ?_ GW108.out _)|exact HK.out) (eG hg g) (Kd.R_base2 HO121.out))
         have n7_:=mA (ho)
         clear HI0 BK101 HO106 BK108 HO127 HB HK HO121
         have HI0:=n0_;have BK101:=n1_;have HO106:=n2_;have BK108:=n3_;have HO127:=n4_;have HB:=n5_;have HK:=n6_;have HO124:=n7_
         clear n0_ n1_ n2_ n3_ n4_ n5_ n6_ n7_ ho hb hg hat
         refine hK.out _ _ ⟨(kC BK108.out 0).trans rfl,(kC BK108.out 1).trans rfl⟩ (fun hHeld=>?_)
         clear hK K
         refine norm_ (a':=?_) ?_ ?_
         rotate_left
         ·show Act.put _ (some 40) _=_
          simp only [Act.put,sA,sZ,sS,i64_w,i32_w]
          rfl
         exact norm_ (by first|(simp only [putAll,Act.put,sA,sZ,sS];done)|(simp only [putAll,Act.put,sA,sZ,sS];rfl)) (hJ2_5_10 (v120,v123,v126) _ ⟨hHeld,(by (with_reducible repeat first|apply rA|apply rN|apply rD);exact rM HO106.out (fun _ hk=>⟨hk.2,hk.1⟩)),(by (with_reducible repeat first|apply rA|apply rN|apply rD);exact HO124.out),(by (with_reducible repeat first|apply rA|apply rN|apply rD);exact HO127.out),(by (with_reducible repeat first|refine kN ?_ _|refine kD ?_|refine kA ?_ _);exact BK101.out),(by (with_reducible repeat first|refine kN ?_ _|refine kD ?_|refine kA ?_ _);exact BK108.out),(by repeat first|(with_reducible first|exact HI0.out|apply iA|apply iN|apply iD|apply iS|refine iF ?_ NB0_101.out _|refine iF ?_ NB0_108.out _)|exact HI0.out),(by repeat first|(with_reducible first|exact HK.out|apply eS|apply eN|apply eD|apply eA|refine eF ?_ GW101.out _|refine eF ?_ GW108.out _)|exact HK.out),(by repeat first|(with_reducible first|exact HB.out|apply bA|apply bN|apply bD|refine bS ?_ (iG HI0.out)|refine bS ?_ GE101.out|refine bS ?_ GE108.out)|exact HB.out)⟩)
        skip
        refine box_step ?hg (N:=8) ?hd (cs:=#[.int .i64 0,.slice none 0 0]) (t:=36) ?hr ?_;(case hd=>rfl);(case hg=>rfl);(case hr=>first|(go_simp;done)|(go_simp;rfl))
        intro gb131 hg w67 hbox hb
        have n0_:=mA (rB (by (with_reducible repeat first|apply rA|apply rN|apply rD);exact HO106.out) hb)
        have n1_:=mA (rB (by (with_reducible repeat first|apply rA|apply rN|apply rD);exact HO121.out) hb)
        have n2_:=mA (rB (by (with_reducible repeat first|apply rA|apply rN|apply rD);exact HO127.out) hb)
        have n3_:=mA (iB (by repeat first|(with_reducible first|exact HI0.out|apply iA|apply iN|apply iD|apply iS|refine iF ?_ NB0_101.out _|refine iF ?_ NB0_108.out _)|exact HI0.out) hb)
        have n4_:=mA (kB (g:=gb101) (o:=.cells #[.int .i64 0,.slice none 0 0] 36 (0,0)) (by (with_reducible repeat first|refine kN ?_ _|refine kD ?_|refine kA ?_ _);exact BK101.out) hb)
        have n5_:=mA (kB (g:=gb108) (o:=.cells #[.int .i64 t103,.slice Ao59 t104.length co59] 36 (0,0)) (by (with_reducible repeat first|refine kN ?_ _|refine kD ?_|refine kA ?_ _);exact BK108.out) hb)
        have n6_:=mA (eT (by repeat first|(with_reducible first|exact HK.out|apply eS|apply eN|apply eD|apply eA|refine eF ?_ GW101.out _|refine eF ?_ GW108.out _)|exact HK.out) (eB hb g none) (.inl rfl))
        have n7_:=mA (bT (by repeat first|(with_reducible first|exact HB.out|apply bA|apply bN|apply bD|refine bS ?_ (iG HI0.out)|refine bS ?_ GE101.out|refine bS ?_ GE108.out)|exact HB.out) hb)
        have n8_:=mA (hbox)
        have n9_:=mA ((by rw [hg];exact (eZ (w:=w) (g:=g) (row:=none) (by repeat first|(with_reducible first|exact HK.out|apply eS|apply eN|apply eD|apply eA|refine eF ?_ GW101.out _|refine eF ?_ GW108.out _)|exact HK.out)):w.heap.size≤gb131))
        have n10_:=mA ((Nat.le_trans HW0.out (by rw [hg];exact (eZ (w:=w) (g:=g) (row:=none) (by repeat first|(with_reducible first|exact HK.out|apply eS|apply eN|apply eD|apply eA|refine eF ?_ GW101.out _|refine eF ?_ GW108.out _)|exact HK.out)):w.heap.size≤gb131):w0.heap.size≤gb131))
        have n11_:=mA ((by rw [hg];exact Nat.ne_of_lt (kL (g:=gb101) (o:=.cells #[.int .i64 0,.slice none 0 0] 36 (0,0)) (by (with_reducible repeat first|refine kN ?_ _|refine kD ?_|refine kA ?_ _);exact BK101.out)):gb101≠gb131))
        have n12_:=mA ((by rw [hg];exact Nat.ne_of_gt (kL (g:=gb101) (o:=.cells #[.int .i64 0,.slice none 0 0] 36 (0,0)) (by (with_reducible repeat first|refine kN ?_ _|refine kD ?_|refine kA ?_ _);exact BK101.out)):gb131≠gb101))
        have n13_:=mA ((by rw [hg];exact Nat.ne_of_lt (kL (g:=gb108) (o:=.cells #[.int .i64 t103,.slice Ao59 t104.length co59] 36 (0,0)) (by (with_reducible repeat first|refine kN ?_ _|refine kD ?_|refine kA ?_ _);exact BK108.out)):gb108≠gb131))
        have n14_:=mA ((by rw [hg];exact Nat.ne_of_gt (kL (g:=gb108) (o:=.cells #[.int .i64 t103,.slice Ao59 t104.length co59] 36 (0,0)) (by (with_reducible repeat first|refine kN ?_ _|refine kD ?_|refine kA ?_ _);exact BK108.out)):gb131≠gb108))
        have n15_:=mA ((by rw [hg];exact Nat.ne_of_lt (iL (show IsS113 w0 _ g s0_0 t110 from by repeat first|(with_reducible first|exact HI0.out|apply iA|apply iN|apply iD|apply iS|refine iF ?_ NB0_101.out _|refine iF ?_ NB0_108.out _)|exact HI0.out)):g≠gb131))
        have n16_:=mA ((by rw [hg];exact Nat.ne_of_gt (iL (show IsS113 w0 _ g s0_0 t110 from by repeat first|(with_reducible first|exact HI0.out|apply iA|apply iN|apply iD|apply iS|refine iF ?_ NB0_101.out _|refine iF ?_ NB0_108.out _)|exact HI0.out)):gb131≠g))
        clear HO106 HO121 HO127 HI0 BK101 BK108 HK HB
        have HO106:=n0_;have HO121:=n1_;have HO127:=n2_;have HI0:=n3_;have BK101:=n4_;have BK108:=n5_;have HK:=n6_;have HB:=n7_;have BK131:=n8_;have GW131:=n9_;have GE131:=n10_;have NB101_131:=n11_;have NB131_101:=n12_;have NB108_131:=n13_;have NB131_108:=n14_;have NB0_131:=n15_;have NB131_0:=n16_
        clear n0_ n1_ n2_ n3_ n4_ n5_ n6_ n7_ n8_ n9_ n10_ n11_ n12_ n13_ n14_ n15_ n16_ hb hbox hg
        refine hK.out _ _ ⟨(kC BK108.out 0).trans rfl,(kC BK108.out 1).trans rfl⟩ (fun hHeld=>?_)
        clear hK K
        refine norm_ (a':=?_) ?_ ?_
        rotate_left
        ·show Act.put _ (some 8) _=_
         simp only [Act.put,sA,sZ,sS,i64_w,i32_w]
         rfl
        exact norm_ (by first|(simp only [putAll,Act.put,sA,sZ,sS];done)|(simp only [putAll,Act.put,sA,sZ,sS];rfl)) (hJ2_10_13 (v120,v126,gb131) _ ⟨hHeld,(by (with_reducible repeat first|apply rA|apply rN|apply rD);exact HO106.out),(by (with_reducible repeat first|apply rA|apply rN|apply rD);exact HO121.out),(by (with_reducible repeat first|apply rA|apply rN|apply rD);exact HO127.out),(by (with_reducible repeat first|refine kN ?_ _|refine kD ?_|refine kA ?_ _);exact BK101.out),(by (with_reducible repeat first|refine kN ?_ _|refine kD ?_|refine kA ?_ _);exact BK108.out),(by (with_reducible repeat first|refine kN ?_ _|refine kD ?_|refine kA ?_ _);exact BK131.out),GW131.out,GE131.out,NB0_131.out,NB131_0.out,NB101_131.out,NB131_101.out,NB108_131.out,NB131_108.out,(by repeat first|(with_reducible first|exact HI0.out|apply iA|apply iN|apply iD|apply iS|refine iF ?_ NB0_101.out _|refine iF ?_ NB0_108.out _|refine iF ?_ NB0_131.out _)|exact HI0.out),(by repeat first|(with_reducible first|exact HK.out|apply eS|apply eN|apply eD|apply eA|refine eF ?_ GW101.out _|refine eF ?_ GW108.out _|refine eF ?_ GW131.out _)|exact HK.out),(by repeat first|(with_reducible first|exact HB.out|apply bA|apply bN|apply bD|refine bS ?_ (iG HI0.out)|refine bS ?_ GE101.out|refine bS ?_ GE108.out|refine bS ?_ GE131.out)|exact HB.out)⟩)
       skip
       rintro ⟨v120,v123⟩ w65 ⟨hS_,h0_,h1_,h2_,h3_,h4_,h5_,h6_⟩
       have n0_:Aside0 (Kd.R k33 33 w65 w.heap.size (fun k_=>some k_≠(v123:Value).ownBlock) (.slice Ao59 t104.length co59) t104):=⟨h0_⟩
       have n1_:Aside0 (Kd.R k33 33 w65 w.heap.size (fun k_=>some k_≠(.slice Ao59 t104.length co59:Value).ownBlock) v123 y122):=⟨h1_⟩
       have n2_:Aside0 (w65.heap[gb101]?=some (.cells #[.int .i64 0,.slice none 0 0] 36 (0,0))):=⟨h2_⟩
       have n3_:Aside0 (w65.heap[gb108]?=some (.cells #[.int .i64 t103,.slice Ao59 t104.length co59] 36 (0,0))):=⟨h3_⟩
       have n4_:Aside0 (IsS113 w0 w65 g s0_0 t110):=⟨h4_⟩
       have n5_:Aside0 (KeepBut w w65 g none):=⟨h5_⟩
       have n6_:Aside0 (Below w0.heap.size w0 w65):=⟨h6_⟩
       clear HO106 BK101 BK108 HI0 HK HB h0_ h1_ h2_ h3_ h4_ h5_ h6_
       have HO106:=n0_;have HO124:=n1_;have BK101:=n2_;have BK108:=n3_;have HI0:=n4_;have HK:=n5_;have HB:=n6_
       clear n0_ n1_ n2_ n3_ n4_ n5_ n6_
       have hHeld:w65.cell? ⟨gb108,0,none⟩=some (.int .i64 t103)∧w65.cell? ⟨gb108,1,none⟩=some (.slice Ao59 t104.length co59):=hS_
       refine norm_ (a':=?_) ?_ ?_
       rotate_left
       ·simp only [putAll,Act.put,sA,sZ,sS]
        rfl
       refine two_ (i:=10) (j:=13) (Ni:=some 45) (Nj:=some 8) #[I,I,I,I,I,I,I,I,I,I,I,O,O,O,O] #[I,I,I,I,I,I,I,I,I,I,O,O,O,I,O] rfl rfl rfl rfl (two_of HT_.out (by kernel_rfl)) (by decide) (by decide) (fun K hK=>?_) (fun K hK=>?_)
       ·skip
        refine Kd.R_lit_step k33 _ 33 ?hg (N:=45) ?hd (xs:=([(⟨0,t103⟩:S33),(⟨5,0⟩:S33)]:List (S33))) (inner:=[.int .i64 0,.int .i64 t103,.int .i64 5,.int .i64 0]) (ok:=fun _=>True) (okp:=fun _=>True) ?hr ?hp (fun _ hk=>hk) trivial (Below.refl _ _) (Nat.le_refl _) (by simp) ?_;(case hd=>rfl);(case hg=>rfl);(case hr=>first|(go_simp;done)|(go_simp;rfl));(case hp=>exact (Reps.c2 (show Kd.M k33 _ _ _ (⟨0,t103⟩:S33) [.int .i64 0,.int .i64 t103] from (k33_mkM _ _ _ (⟨0,t103⟩:S33) )) (Reps.c2 (show Kd.M k33 _ _ _ (⟨5,0⟩:S33) [.int .i64 5,.int .i64 0] from (k33_mkM _ _ _ (⟨5,0⟩:S33) )) (Reps.none _ _))))
        intro v126 w66 ho67 hb hg_ hnew_
        clear hg_ hnew_
        (first|rw [←Ny125.out] at ho67|(simp only [Int.reduceToNat] at ho67;rw [←Ny125.out] at ho67))
        have n0_:=mA (rE (by (with_reducible repeat first|apply rA|apply rN|apply rD);exact HO106.out) (Kd.R_base ho67) hb)
        have n1_:=mA (rE (by (with_reducible repeat first|apply rA|apply rN|apply rD);exact HO124.out) (Kd.R_base ho67) hb)
        have n2_:=mA (rW (rQ (rQ ho67 (rL (by (with_reducible repeat first|apply rA|apply rN|apply rD);exact HO106.out))) (rL (by (with_reducible repeat first|apply rA|apply rN|apply rD);exact HO124.out))) (eZ (w:=w) (g:=g) (row:=none) (by repeat first|(with_reducible first|exact HK.out|apply eS|apply eN|apply eD|apply eA|refine eF ?_ GW101.out _|refine eF ?_ GW108.out _)|exact HK.out)))
        have n3_:=mA (iB (by repeat first|(with_reducible first|exact HI0.out|apply iA|apply iN|apply iD|apply iS|refine iF ?_ NB0_101.out _|refine iF ?_ NB0_108.out _)|exact HI0.out) hb)
        have n4_:=mA (kB (g:=gb101) (o:=.cells #[.int .i64 0,.slice none 0 0] 36 (0,0)) (by (with_reducible repeat first|refine kN ?_ _|refine kD ?_|refine kA ?_ _);exact BK101.out) hb)
        have n5_:=mA (kB (g:=gb108) (o:=.cells #[.int .i64 t103,.slice Ao59 t104.length co59] 36 (0,0)) (by (with_reducible repeat first|refine kN ?_ _|refine kD ?_|refine kA ?_ _);exact BK108.out) hb)
        have n6_:=mA (eT (by repeat first|(with_reducible first|exact HK.out|apply eS|apply eN|apply eD|apply eA|refine eF ?_ GW101.out _|refine eF ?_ GW108.out _)|exact HK.out) (eB hb g none) (.inl rfl))
        have n7_:=mA (bT (by repeat first|(with_reducible first|exact HB.out|apply bA|apply bN|apply bD|refine bS ?_ (iG HI0.out)|refine bS ?_ GE101.out|refine bS ?_ GE108.out)|exact HB.out) hb)
        clear HO106 HO124 HI0 BK101 BK108 HK HB
        have HO106:=n0_;have HO124:=n1_;have HO127:=n2_;have HI0:=n3_;have BK101:=n4_;have BK108:=n5_;have HK:=n6_;have HB:=n7_
        clear n0_ n1_ n2_ n3_ n4_ n5_ n6_ n7_ hb ho67
        refine hK.out _ _ ⟨(kC BK108.out 0).trans rfl,(kC BK108.out 1).trans rfl⟩ (fun hHeld=>?_)
        clear hK K
        refine norm_ (a':=?_) ?_ ?_
        rotate_left
        ·show Act.put _ (some 45) _=_
         simp only [Act.put,sA,sZ,sS,i64_w,i32_w]
         rfl
        exact norm_ (by first|(simp only [putAll,Act.put,sA,sZ,sS];done)|(simp only [putAll,Act.put,sA,sZ,sS];rfl)) (hJ2_5_10 (v120,v123,v126) _ ⟨hHeld,(by (with_reducible repeat first|apply rA|apply rN|apply rD);exact HO106.out),(by (with_reducible repeat first|apply rA|apply rN|apply rD);exact HO124.out),(by (with_reducible repeat first|apply rA|apply rN|apply rD);exact rM HO127.out (fun _ hk=>⟨hk.1.2,hk.2⟩)),(by (with_reducible repeat first|refine kN ?_ _|refine kD ?_|refine kA ?_ _);exact BK101.out),(by (with_reducible repeat first|refine kN ?_ _|refine kD ?_|refine kA ?_ _);exact BK108.out),(by repeat first|(with_reducible first|exact HI0.out|apply iA|apply iN|apply iD|apply iS|refine iF ?_ NB0_101.out _|refine iF ?_ NB0_108.out _)|exact HI0.out),(by repeat first|(with_reducible first|exact HK.out|apply eS|apply eN|apply eD|apply eA|refine eF ?_ GW101.out _|refine eF ?_ GW108.out _)|exact HK.out),(by repeat first|(with_reducible first|exact HB.out|apply bA|apply bN|apply bD|refine bS ?_ (iG HI0.out)|refine bS ?_ GE101.out|refine bS ?_ GE108.out)|exact HB.out)⟩)
       skip
       refine box_step ?hg (N:=8) ?hd (cs:=#[.int .i64 0,.slice none 0 0]) (t:=36) ?hr ?_;(case hd=>rfl);(case hg=>rfl);(case hr=>first|(go_simp;done)|(go_simp;rfl))
       intro gb131 hg w66 hbox hb
       have n0_:=mA (rB (by (with_reducible repeat first|apply rA|apply rN|apply rD);exact HO106.out) hb)
       have n1_:=mA (rB (by (with_reducible repeat first|apply rA|apply rN|apply rD);exact HO124.out) hb)
       have n2_:=mA (iB (by repeat first|(with_reducible first|exact HI0.out|apply iA|apply iN|apply iD|apply iS|refine iF ?_ NB0_101.out _|refine iF ?_ NB0_108.out _)|exact HI0.out) hb)
       have n3_:=mA (kB (g:=gb101) (o:=.cells #[.int .i64 0,.slice none 0 0] 36 (0,0)) (by (with_reducible repeat first|refine kN ?_ _|refine kD ?_|refine kA ?_ _);exact BK101.out) hb)
       have n4_:=mA (kB (g:=gb108) (o:=.cells #[.int .i64 t103,.slice Ao59 t104.length co59] 36 (0,0)) (by (with_reducible repeat first|refine kN ?_ _|refine kD ?_|refine kA ?_ _);exact BK108.out) hb)
       have n5_:=mA (eT (by repeat first|(with_reducible first|exact HK.out|apply eS|apply eN|apply eD|apply eA|refine eF ?_ GW101.out _|refine eF ?_ GW108.out _)|exact HK.out) (eB hb g none) (.inl rfl))
       have n6_:=mA (bT (by repeat first|(with_reducible first|exact HB.out|apply bA|apply bN|apply bD|refine bS ?_ (iG HI0.out)|refine bS ?_ GE101.out|refine bS ?_ GE108.out)|exact HB.out) hb)
       have n7_:=mA (hbox)
       have n8_:=mA ((by rw [hg];exact (eZ (w:=w) (g:=g) (row:=none) (by repeat first|(with_reducible first|exact HK.out|apply eS|apply eN|apply eD|apply eA|refine eF ?_ GW101.out _|refine eF ?_ GW108.out _)|exact HK.out)):w.heap.size≤gb131))
       have n9_:=mA ((Nat.le_trans HW0.out (by rw [hg];exact (eZ (w:=w) (g:=g) (row:=none) (by repeat first|(with_reducible first|exact HK.out|apply eS|apply eN|apply eD|apply eA|refine eF ?_ GW101.out _|refine eF ?_ GW108.out _)|exact HK.out)):w.heap.size≤gb131):w0.heap.size≤gb131))
       have n10_:=mA ((by rw [hg];exact Nat.ne_of_lt (kL (g:=gb101) (o:=.cells #[.int .i64 0,.slice none 0 0] 36 (0,0)) (by (with_reducible repeat first|refine kN ?_ _|refine kD ?_|refine kA ?_ _);exact BK101.out)):gb101≠gb131))
       have n11_:=mA ((by rw [hg];exact Nat.ne_of_gt (kL (g:=gb101) (o:=.cells #[.int .i64 0,.slice none 0 0] 36 (0,0)) (by (with_reducible repeat first|refine kN ?_ _|refine kD ?_|refine kA ?_ _);exact BK101.out)):gb131≠gb101))
       have n12_:=mA ((by rw [hg];exact Nat.ne_of_lt (kL (g:=gb108) (o:=.cells #[.int .i64 t103,.slice Ao59 t104.length co59] 36 (0,0)) (by (with_reducible repeat first|refine kN ?_ _|refine kD ?_|refine kA ?_ _);exact BK108.out)):gb108≠gb131))
       have n13_:=mA ((by rw [hg];exact Nat.ne_of_gt (kL (g:=gb108) (o:=.cells #[.int .i64 t103,.slice Ao59 t104.length co59] 36 (0,0)) (by (with_reducible repeat first|refine kN ?_ _|refine kD ?_|refine kA ?_ _);exact BK108.out)):gb131≠gb108))
       have n14_:=mA ((by rw [hg];exact Nat.ne_of_lt (iL (show IsS113 w0 _ g s0_0 t110 from by repeat first|(with_reducible first|exact HI0.out|apply iA|apply iN|apply iD|apply iS|refine iF ?_ NB0_101.out _|refine iF ?_ NB0_108.out _)|exact HI0.out)):g≠gb131))
       have n15_:=mA ((by rw [hg];exact Nat.ne_of_gt (iL (show IsS113 w0 _ g s0_0 t110 from by repeat first|(with_reducible first|exact HI0.out|apply iA|apply iN|apply iD|apply iS|refine iF ?_ NB0_101.out _|refine iF ?_ NB0_108.out _)|exact HI0.out)):gb131≠g))
       clear HO106 HO124 HI0 BK101 BK108 HK HB
       have HO106:=n0_;have HO124:=n1_;have HI0:=n2_;have BK101:=n3_;have BK108:=n4_;have HK:=n5_;have HB:=n6_;have BK131:=n7_;have GW131:=n8_;have GE131:=n9_;have NB101_131:=n10_;have NB131_101:=n11_;have NB108_131:=n12_;have NB131_108:=n13_;have NB0_131:=n14_;have NB131_0:=n15_
       clear n0_ n1_ n2_ n3_ n4_ n5_ n6_ n7_ n8_ n9_ n10_ n11_ n12_ n13_ n14_ n15_ hb hbox hg
       refine hK.out _ _ ⟨(kC BK108.out 0).trans rfl,(kC BK108.out 1).trans rfl⟩ (fun hHeld=>?_)
       clear hK K
       refine norm_ (a':=?_) ?_ ?_
       rotate_left
       ·show Act.put _ (some 8) _=_
        simp only [Act.put,sA,sZ,sS,i64_w,i32_w]
        rfl
       exact norm_ (by first|(simp only [putAll,Act.put,sA,sZ,sS];done)|(simp only [putAll,Act.put,sA,sZ,sS];rfl)) (hJ2_5_13 (v120,v123,gb131) _ ⟨hHeld,(by (with_reducible repeat first|apply rA|apply rN|apply rD);exact HO106.out),(by (with_reducible repeat first|apply rA|apply rN|apply rD);exact HO124.out),(by (with_reducible repeat first|refine kN ?_ _|refine kD ?_|refine kA ?_ _);exact BK101.out),(by (with_reducible repeat first|refine kN ?_ _|refine kD ?_|refine kA ?_ _);exact BK108.out),(by (with_reducible repeat first|refine kN ?_ _|refine kD ?_|refine kA ?_ _);exact BK131.out),GW131.out,GE131.out,NB0_131.out,NB131_0.out,NB101_131.out,NB131_101.out,NB108_131.out,NB131_108.out,(by repeat first|(with_reducible first|exact HI0.out|apply iA|apply iN|apply iD|apply iS|refine iF ?_ NB0_101.out _|refine iF ?_ NB0_108.out _|refine iF ?_ NB0_131.out _)|exact HI0.out),(by repeat first|(with_reducible first|exact HK.out|apply eS|apply eN|apply eD|apply eA|refine eF ?_ GW101.out _|refine eF ?_ GW108.out _|refine eF ?_ GW131.out _)|exact HK.out),(by repeat first|(with_reducible first|exact HB.out|apply bA|apply bN|apply bD|refine bS ?_ (iG HI0.out)|refine bS ?_ GE101.out|refine bS ?_ GE108.out|refine bS ?_ GE131.out)|exact HB.out)⟩)
      skip
      rintro ⟨v120,v126,gb131⟩ w67 ⟨hS_,h0_,h1_,h2_,h3_,h4_,h5_,h6_,h7_,h8_,h9_,h10_,h11_,h12_,h13_,h14_,h15_,h16_⟩
      have n0_:Aside0 (Kd.R k33 33 w67 w.heap.size (fun k_=>some k_≠(v120:Value).ownBlock∧some k_≠(v126:Value).ownBlock) (.slice Ao59 t104.length co59) t104):=⟨h0_⟩
      have n1_:Aside0 (Kd.R k33 33 w67 w.heap.size (fun k_=>some k_≠(.slice Ao59 t104.length co59:Value).ownBlock∧some k_≠(v126:Value).ownBlock) v120 y119):=⟨h1_⟩
      have n2_:Aside0 (Kd.R k33 33 w67 w.heap.size (fun k_=>some k_≠(.slice Ao59 t104.length co59:Value).ownBlock∧some k_≠(v120:Value).ownBlock) v126 y125):=⟨h2_⟩
      have n3_:Aside0 (w67.heap[gb101]?=some (.cells #[.int .i64 0,.slice none 0 0] 36 (0,0))):=⟨h3_⟩
      have n4_:Aside0 (w67.heap[gb108]?=some (.cells #[.int .i64 t103,.slice Ao59 t104.length co59] 36 (0,0))):=⟨h4_⟩
      have n5_:Aside0 (w67.heap[gb131]?=some (.cells #[.int .i64 0,.slice none 0 0] 36 (0,0))):=⟨h5_⟩
      have n6_:Aside0 (w.heap.size≤gb131):=⟨h6_⟩
      have n7_:Aside0 (w0.heap.size≤gb131):=⟨h7_⟩
      have n8_:Aside0 (g≠gb131):=⟨h8_⟩
      have n9_:Aside0 (gb131≠g):=⟨h9_⟩
      have n10_:Aside0 (gb101≠gb131):=⟨h10_⟩
      have n11_:Aside0 (gb131≠gb101):=⟨h11_⟩
      have n12_:Aside0 (gb108≠gb131):=⟨h12_⟩
      have n13_:Aside0 (gb131≠gb108):=⟨h13_⟩
      have n14_:Aside0 (IsS113 w0 w67 g s0_0 t110):=⟨h14_⟩
      have n15_:Aside0 (KeepBut w w67 g none):=⟨h15_⟩
      have n16_:Aside0 (Below w0.heap.size w0 w67):=⟨h16_⟩
      clear HO106 BK101 BK108 HI0 HK HB h0_ h1_ h2_ h3_ h4_ h5_ h6_ h7_ h8_ h9_ h10_ h11_ h12_ h13_ h14_ h15_ h16_
      have HO106:=n0_;have HO121:=n1_;have HO127:=n2_;have BK101:=n3_;have BK108:=n4_;have BK131:=n5_;have GW131:=n6_;have GE131:=n7_;have NB0_131:=n8_;have NB131_0:=n9_;have NB101_131:=n10_;have NB131_101:=n11_;have NB108_131:=n12_;have NB131_108:=n13_;have HI0:=n14_;have HK:=n15_;have HB:=n16_
      clear n0_ n1_ n2_ n3_ n4_ n5_ n6_ n7_ n8_ n9_ n10_ n11_ n12_ n13_ n14_ n15_ n16_
      have hHeld:w67.cell? ⟨gb108,0,none⟩=some (.int .i64 t103)∧w67.cell? ⟨gb108,1,none⟩=some (.slice Ao59 t104.length co59):=hS_
      refine norm_ (a':=?_) ?_ ?_
      rotate_left
      ·simp only [putAll,Act.put,sA,sZ,sS]
       rfl
      refine one_ (i:=5) (N:=some 40) #[I,I,I,I,I,I,I,I,I,I,I,O,O,I,O] rfl rfl (one_of HT_.out (by kernel_rfl)) (by decide) (fun K hK=>?_)
      refine Kd.R_append_rows_step k33 w.heap.size (by rfl) (.tmp 37) (.tmp 39) 34 33 (.agg #[(.int .i64 0),(.int .i64 0)]) 16 rfl Try.underlying34 info33 rfl (by decide) (by omega) v120 y119 t104 _ _ _ (fun k_=>some k_≠(.slice Ao59 t104.length co59:Value).ownBlock∧some k_≠(v126:Value).ownBlock) (fun _=>False) rfl rfl ?aO ?aR (fun _ _ h=>h) (fun _ h=>h.elim) ?aF (Below.refl _ _) ?aS ?aL ?_
      (case aR=>repeat first|exact (rR HO106.out).2.2|(with_reducible refine cA ?_ _)|(with_reducible refine cN ?_ _)|(with_reducible refine cD ?_))
      (case aF=>exact (fun k_ hk=>⟨Kd.fresh' (rL (by (with_reducible repeat first|apply rA|apply rN|apply rD);exact HO106.out)) k_ hk,Kd.fresh' (rL (by (with_reducible repeat first|apply rA|apply rN|apply rD);exact HO127.out)) k_ hk⟩))
      (case aO=>exact (by (with_reducible repeat first|apply rA|apply rN|apply rD);exact HO121.out))
      (case aS=>exact (eZ (w:=w) (g:=g) (row:=none) (by repeat first|(with_reducible first|exact HK.out|apply eS|apply eN|apply eD|apply eA|refine eF ?_ GW101.out _|refine eF ?_ GW108.out _|refine eF ?_ GW131.out _)|exact HK.out)))
      (case aL=>have:=LMc49.out;omega)
      intro v123 w68 ho hb hg hat
      rw [←Ny122.out] at ho
      have n0_:=mA (iW (by repeat first|(with_reducible first|exact HI0.out|apply iA|apply iN|apply iD|apply iS|refine iF ?_ NB0_101.out _|refine iF ?_ NB0_108.out _|refine iF ?_ NB0_131.out _)|exact HI0.out) hg (iO HI0.out HO121.out (by decide)))
      have n1_:=mA (blk_grown (g:=gb101) (o:=.cells #[.int .i64 0,.slice none 0 0] 36 (0,0)) (by (with_reducible repeat first|refine kN ?_ _|refine kD ?_|refine kA ?_ _);exact BK101.out) hg (Kd.R_ne HO121.out BK101.out (by decide)))
      have n2_:=mA (rJ (ok:=(fun k_=>some k_≠(v126:Value).ownBlock)) (by (with_reducible repeat first|apply rA|apply rN|apply rD);exact rM HO106.out (fun _ hk=>⟨hk.2,hk.1⟩)) hg hat)
      have n3_:=mA (blk_grown (g:=gb108) (o:=.cells #[.int .i64 t103,.slice Ao59 t104.length co59] 36 (0,0)) (by (with_reducible repeat first|refine kN ?_ _|refine kD ?_|refine kA ?_ _);exact BK108.out) hg (Kd.R_ne HO121.out BK108.out (by decide)))
      have n4_:=mA (rJ (ok:=(fun k_=>some k_≠(.slice Ao59 t104.length co59:Value).ownBlock)) (by (with_reducible repeat first|apply rA|apply rN|apply rD);exact HO127.out) hg hat)
      have n5_:=mA (blk_grown (g:=gb131) (o:=.cells #[.int .i64 0,.slice none 0 0] 36 (0,0)) (by (with_reducible repeat first|refine kN ?_ _|refine kD ?_|refine kA ?_ _);exact BK131.out) hg (Kd.R_ne HO121.out BK131.out (by decide)))
      have n6_:=mA (bW (by repeat first|(with_reducible first|exact HB.out|apply bA|apply bN|apply bD|refine bS ?_ (iG HI0.out)|refine bS ?_ GE101.out|refine bS ?_ GE108.out|refine bS ?_ GE131.out)|exact HB.out) HL.out hb)
      have n7_:=mA (eT (by repeat first|(with_reducible first|exact HK.out|apply eS|apply eN|apply eD|apply eA|refine eF ?_ GW101.out _|refine eF ?_ GW108.out _|refine eF ?_ GW131.out _)|exact HK.out) (eG hg g) (Kd.R_base2 HO121.out))
      have n8_:=mA (ho)
      clear HI0 BK101 HO106 BK108 HO127 BK131 HB HK HO121
      have HI0:=n0_;have BK101:=n1_;have HO106:=n2_;have BK108:=n3_;have HO127:=n4_;have BK131:=n5_;have HB:=n6_;have HK:=n7_;have HO124:=n8_
      clear n0_ n1_ n2_ n3_ n4_ n5_ n6_ n7_ n8_ ho hb hg hat
      refine hK.out _ _ ⟨(kC BK108.out 0).trans rfl,(kC BK108.out 1).trans rfl⟩ (fun hHeld=>?_)
      clear hK K
      refine norm_ (a':=?_) ?_ ?_
      rotate_left
      ·show Act.put _ (some 40) _=_
       simp only [Act.put,sA,sZ,sS,i64_w,i32_w]
       rfl
      exact norm_ (by first|(simp only [putAll,Act.put,sA,sZ,sS];done)|(simp only [putAll,Act.put,sA,sZ,sS];rfl)) (hJ2_5_10_13 (v120,v123,v126,gb131) _ ⟨hHeld,(by (with_reducible repeat first|apply rA|apply rN|apply rD);exact rM HO106.out (fun _ hk=>⟨hk.2,hk.1⟩)),(by (with_reducible repeat first|apply rA|apply rN|apply rD);exact HO124.out),(by (with_reducible repeat first|apply rA|apply rN|apply rD);exact HO127.out),(by (with_reducible repeat first|refine kN ?_ _|refine kD ?_|refine kA ?_ _);exact BK101.out),(by (with_reducible repeat first|refine kN ?_ _|refine kD ?_|refine kA ?_ _);exact BK108.out),(by (with_reducible repeat first|refine kN ?_ _|refine kD ?_|refine kA ?_ _);exact BK131.out),GW131.out,GE131.out,NB0_131.out,NB131_0.out,NB101_131.out,NB131_101.out,NB108_131.out,NB131_108.out,(by repeat first|(with_reducible first|exact HI0.out|apply iA|apply iN|apply iD|apply iS|refine iF ?_ NB0_101.out _|refine iF ?_ NB0_108.out _|refine iF ?_ NB0_131.out _)|exact HI0.out),(by repeat first|(with_reducible first|exact HK.out|apply eS|apply eN|apply eD|apply eA|refine eF ?_ GW101.out _|refine eF ?_ GW108.out _|refine eF ?_ GW131.out _)|exact HK.out),(by repeat first|(with_reducible first|exact HB.out|apply bA|apply bN|apply bD|refine bS ?_ (iG HI0.out)|refine bS ?_ GE101.out|refine bS ?_ GE108.out|refine bS ?_ GE131.out)|exact HB.out)⟩)
     skip
     rintro ⟨v120,v123,gb131⟩ w66 ⟨hS_,h0_,h1_,h2_,h3_,h4_,h5_,h6_,h7_,h8_,h9_,h10_,h11_,h12_,h13_,h14_,h15_⟩
     have n0_:Aside0 (Kd.R k33 33 w66 w.heap.size (fun k_=>some k_≠(v123:Value).ownBlock) (.slice Ao59 t104.length co59) t104):=⟨h0_⟩
     have n1_:Aside0 (Kd.R k33 33 w66 w.heap.size (fun k_=>some k_≠(.slice Ao59 t104.length co59:Value).ownBlock) v123 y122):=⟨h1_⟩
     have n2_:Aside0 (w66.heap[gb101]?=some (.cells #[.int .i64 0,.slice none 0 0] 36 (0,0))):=⟨h2_⟩
     have n3_:Aside0 (w66.heap[gb108]?=some (.cells #[.int .i64 t103,.slice Ao59 t104.length co59] 36 (0,0))):=⟨h3_⟩
     have n4_:Aside0 (w66.heap[gb131]?=some (.cells #[.int .i64 0,.slice none 0 0] 36 (0,0))):=⟨h4_⟩
     have n5_:Aside0 (w.heap.size≤gb131):=⟨h5_⟩
     have n6_:Aside0 (w0.heap.size≤gb131):=⟨h6_⟩
     have n7_:Aside0 (g≠gb131):=⟨h7_⟩
     have n8_:Aside0 (gb131≠g):=⟨h8_⟩
     have n9_:Aside0 (gb101≠gb131):=⟨h9_⟩
     have n10_:Aside0 (gb131≠gb101):=⟨h10_⟩
     have n11_:Aside0 (gb108≠gb131):=⟨h11_⟩
     have n12_:Aside0 (gb131≠gb108):=⟨h12_⟩
     have n13_:Aside0 (IsS113 w0 w66 g s0_0 t110):=⟨h13_⟩
     have n14_:Aside0 (KeepBut w w66 g none):=⟨h14_⟩
     have n15_:Aside0 (Below w0.heap.size w0 w66):=⟨h15_⟩
     clear HO106 BK101 BK108 HI0 HK HB h0_ h1_ h2_ h3_ h4_ h5_ h6_ h7_ h8_ h9_ h10_ h11_ h12_ h13_ h14_ h15_
     have HO106:=n0_;have HO124:=n1_;have BK101:=n2_;have BK108:=n3_;have BK131:=n4_;have GW131:=n5_;have GE131:=n6_;have NB0_131:=n7_;have NB131_0:=n8_;have NB101_131:=n9_;have NB131_101:=n10_;have NB108_131:=n11_;have NB131_108:=n12_;have HI0:=n13_;have HK:=n14_;have HB:=n15_
     clear n0_ n1_ n2_ n3_ n4_ n5_ n6_ n7_ n8_ n9_ n10_ n11_ n12_ n13_ n14_ n15_
     have hHeld:w66.cell? ⟨gb108,0,none⟩=some (.int .i64 t103)∧w66.cell? ⟨gb108,1,none⟩=some (.slice Ao59 t104.length co59):=hS_
     refine norm_ (a':=?_) ?_ ?_
     rotate_left
     ·simp only [putAll,Act.put,sA,sZ,sS]
      rfl
     refine one_ (i:=10) (N:=some 45) #[I,I,I,I,I,I,I,I,I,I,I,O,O,I,O] rfl rfl (one_of HT_.out (by kernel_rfl)) (by decide) (fun K hK=>?_)
     refine Kd.R_lit_step k33 _ 33 ?hg (N:=45) ?hd (xs:=([(⟨0,t103⟩:S33),(⟨5,0⟩:S33)]:List (S33))) (inner:=[.int .i64 0,.int .i64 t103,.int .i64 5,.int .i64 0]) (ok:=fun _=>True) (okp:=fun _=>True) ?hr ?hp (fun _ hk=>hk) trivial (Below.refl _ _) (Nat.le_refl _) (by simp) ?_;(case hd=>rfl);(case hg=>rfl);(case hr=>first|(go_simp;done)|(go_simp;rfl));(case hp=>exact (Reps.c2 (show Kd.M k33 _ _ _ (⟨0,t103⟩:S33) [.int .i64 0,.int .i64 t103] from (k33_mkM _ _ _ (⟨0,t103⟩:S33) )) (Reps.c2 (show Kd.M k33 _ _ _ (⟨5,0⟩:S33) [.int .i64 5,.int .i64 0] from (k33_mkM _ _ _ (⟨5,0⟩:S33) )) (Reps.none _ _))))
     intro v126 w67 ho68 hb hg_ hnew_
     clear hg_ hnew_
     (first|rw [←Ny125.out] at ho68|(simp only [Int.reduceToNat] at ho68;rw [←Ny125.out] at ho68))
     have n0_:=mA (rE (by (with_reducible repeat first|apply rA|apply rN|apply rD);exact HO106.out) (Kd.R_base ho68) hb)
     have n1_:=mA (rE (by (with_reducible repeat first|apply rA|apply rN|apply rD);exact HO124.out) (Kd.R_base ho68) hb)
     have n2_:=mA (rW (rQ (rQ ho68 (rL (by (with_reducible repeat first|apply rA|apply rN|apply rD);exact HO106.out))) (rL (by (with_reducible repeat first|apply rA|apply rN|apply rD);exact HO124.out))) (eZ (w:=w) (g:=g) (row:=none) (by repeat first|(with_reducible first|exact HK.out|apply eS|apply eN|apply eD|apply eA|refine eF ?_ GW101.out _|refine eF ?_ GW108.out _|refine eF ?_ GW131.out _)|exact HK.out)))
     have n3_:=mA (iB (by repeat first|(with_reducible first|exact HI0.out|apply iA|apply iN|apply iD|apply iS|refine iF ?_ NB0_101.out _|refine iF ?_ NB0_108.out _|refine iF ?_ NB0_131.out _)|exact HI0.out) hb)
     have n4_:=mA (kB (g:=gb101) (o:=.cells #[.int .i64 0,.slice none 0 0] 36 (0,0)) (by (with_reducible repeat first|refine kN ?_ _|refine kD ?_|refine kA ?_ _);exact BK101.out) hb)
     have n5_:=mA (kB (g:=gb108) (o:=.cells #[.int .i64 t103,.slice Ao59 t104.length co59] 36 (0,0)) (by (with_reducible repeat first|refine kN ?_ _|refine kD ?_|refine kA ?_ _);exact BK108.out) hb)
     have n6_:=mA (kB (g:=gb131) (o:=.cells #[.int .i64 0,.slice none 0 0] 36 (0,0)) (by (with_reducible repeat first|refine kN ?_ _|refine kD ?_|refine kA ?_ _);exact BK131.out) hb)
     have n7_:=mA (eT (by repeat first|(with_reducible first|exact HK.out|apply eS|apply eN|apply eD|apply eA|refine eF ?_ GW101.out _|refine eF ?_ GW108.out _|refine eF ?_ GW131.out _)|exact HK.out) (eB hb g none) (.inl rfl))
     have n8_:=mA (bT (by repeat first|(with_reducible first|exact HB.out|apply bA|apply bN|apply bD|refine bS ?_ (iG HI0.out)|refine bS ?_ GE101.out|refine bS ?_ GE108.out|refine bS ?_ GE131.out)|exact HB.out) hb)
     clear HO106 HO124 HI0 BK101 BK108 BK131 HK HB
     have HO106:=n0_;have HO124:=n1_;have HO127:=n2_;have HI0:=n3_;have BK101:=n4_;have BK108:=n5_;have BK131:=n6_;have HK:=n7_;have HB:=n8_
     clear n0_ n1_ n2_ n3_ n4_ n5_ n6_ n7_ n8_ hb ho68
     refine hK.out _ _ ⟨(kC BK108.out 0).trans rfl,(kC BK108.out 1).trans rfl⟩ (fun hHeld=>?_)
     clear hK K
     refine norm_ (a':=?_) ?_ ?_
     rotate_left
     ·show Act.put _ (some 45) _=_
      simp only [Act.put,sA,sZ,sS,i64_w,i32_w]
      rfl
     exact norm_ (by first|(simp only [putAll,Act.put,sA,sZ,sS];done)|(simp only [putAll,Act.put,sA,sZ,sS];rfl)) (hJ2_5_10_13 (v120,v123,v126,gb131) _ ⟨hHeld,(by (with_reducible repeat first|apply rA|apply rN|apply rD);exact HO106.out),(by (with_reducible repeat first|apply rA|apply rN|apply rD);exact HO124.out),(by (with_reducible repeat first|apply rA|apply rN|apply rD);exact rM HO127.out (fun _ hk=>⟨hk.1.2,hk.2⟩)),(by (with_reducible repeat first|refine kN ?_ _|refine kD ?_|refine kA ?_ _);exact BK101.out),(by (with_reducible repeat first|refine kN ?_ _|refine kD ?_|refine kA ?_ _);exact BK108.out),(by (with_reducible repeat first|refine kN ?_ _|refine kD ?_|refine kA ?_ _);exact BK131.out),GW131.out,GE131.out,NB0_131.out,NB131_0.out,NB101_131.out,NB131_101.out,NB108_131.out,NB131_108.out,(by repeat first|(with_reducible first|exact HI0.out|apply iA|apply iN|apply iD|apply iS|refine iF ?_ NB0_101.out _|refine iF ?_ NB0_108.out _|refine iF ?_ NB0_131.out _)|exact HI0.out),(by repeat first|(with_reducible first|exact HK.out|apply eS|apply eN|apply eD|apply eA|refine eF ?_ GW101.out _|refine eF ?_ GW108.out _|refine eF ?_ GW131.out _)|exact HK.out),(by repeat first|(with_reducible first|exact HB.out|apply bA|apply bN|apply bD|refine bS ?_ (iG HI0.out)|refine bS ?_ GE101.out|refine bS ?_ GE108.out|refine bS ?_ GE131.out)|exact HB.out)⟩)
    skip
    rintro ⟨v120,v123,v126⟩ w67 ⟨hS_,h0_,h1_,h2_,h3_,h4_,h5_,h6_,h7_⟩
    have n0_:Aside0 (Kd.R k33 33 w67 w.heap.size (fun k_=>some k_≠(v123:Value).ownBlock∧some k_≠(v126:Value).ownBlock) (.slice Ao59 t104.length co59) t104):=⟨h0_⟩
    have n1_:Aside0 (Kd.R k33 33 w67 w.heap.size (fun k_=>some k_≠(.slice Ao59 t104.length co59:Value).ownBlock∧some k_≠(v126:Value).ownBlock) v123 y122):=⟨h1_⟩
    have n2_:Aside0 (Kd.R k33 33 w67 w.heap.size (fun k_=>some k_≠(.slice Ao59 t104.length co59:Value).ownBlock∧some k_≠(v123:Value).ownBlock) v126 y125):=⟨h2_⟩
    have n3_:Aside0 (w67.heap[gb101]?=some (.cells #[.int .i64 0,.slice none 0 0] 36 (0,0))):=⟨h3_⟩
    have n4_:Aside0 (w67.heap[gb108]?=some (.cells #[.int .i64 t103,.slice Ao59 t104.length co59] 36 (0,0))):=⟨h4_⟩
    have n5_:Aside0 (IsS113 w0 w67 g s0_0 t110):=⟨h5_⟩
    have n6_:Aside0 (KeepBut w w67 g none):=⟨h6_⟩
    have n7_:Aside0 (Below w0.heap.size w0 w67):=⟨h7_⟩
    clear HO106 BK101 BK108 HI0 HK HB h0_ h1_ h2_ h3_ h4_ h5_ h6_ h7_
    have HO106:=n0_;have HO124:=n1_;have HO127:=n2_;have BK101:=n3_;have BK108:=n4_;have HI0:=n5_;have HK:=n6_;have HB:=n7_
    clear n0_ n1_ n2_ n3_ n4_ n5_ n6_ n7_
    have hHeld:w67.cell? ⟨gb108,0,none⟩=some (.int .i64 t103)∧w67.cell? ⟨gb108,1,none⟩=some (.slice Ao59 t104.length co59):=hS_
    obtain ⟨Ao69,co69,eo69⟩:=Kd.R_slice HO127.out
    (first|subst eo69|(injection eo69 with f1_ f2_ f3_;have f4_:=f1_.symm;have f5_:=f3_.symm;clear f1_ f2_ f3_;subst f4_;subst f5_))
    refine norm_ (a':=?_) ?_ ?_
    rotate_left
    ·simp only [putAll,Act.put,sA,sZ,sS]
     rfl
    refine two_ (i:=11) (j:=13) (Ni:=some 46) (Nj:=some 8) #[I,I,I,I,I,I,I,I,I,I,I,I,O,O,O] #[I,I,I,I,I,I,I,I,I,I,I,O,O,I,O] rfl rfl rfl rfl (two_of HT_.out (by kernel_rfl)) (by decide) (by decide) (fun K hK=>?_) (fun K hK=>?_)
    ·skip
     refine Kd.R_append_rows_step k33 w.heap.size (by rfl) (.tmp 40) (.tmp 45) 34 33 (.agg #[(.int .i64 0),(.int .i64 0)]) 16 rfl Try.underlying34 info33 rfl (by decide) (by omega) v123 y122 y125 _ _ _ (fun k_=>some k_≠(.slice Ao59 t104.length co59:Value).ownBlock∧some k_≠(.slice Ao69 y125.length co69:Value).ownBlock) (fun _=>False) rfl rfl ?aO ?aR (fun _ _ h=>h) (fun _ h=>h.elim) ?aF (Below.refl _ _) ?aS ?aL ?_
     (case aR=>repeat first|exact (rR HO127.out).2.2|(with_reducible refine cA ?_ _)|(with_reducible refine cN ?_ _)|(with_reducible refine cD ?_))
     (case aF=>exact (fun k_ hk=>⟨Kd.fresh' (rL (by (with_reducible repeat first|apply rA|apply rN|apply rD);exact HO106.out)) k_ hk,Kd.fresh' (rL (by (with_reducible repeat first|apply rA|apply rN|apply rD);exact HO127.out)) k_ hk⟩))
     (case aO=>exact (by (with_reducible repeat first|apply rA|apply rN|apply rD);exact HO124.out))
     (case aS=>exact (eZ (w:=w) (g:=g) (row:=none) (by repeat first|(with_reducible first|exact HK.out|apply eS|apply eN|apply eD|apply eA|refine eF ?_ GW101.out _|refine eF ?_ GW108.out _)|exact HK.out)))
     (case aL=>have:=LMc50.out;omega)
     intro v129 w68 ho hb hg hat
     rw [←Ny128.out] at ho
     have n0_:=mA (iW (by repeat first|(with_reducible first|exact HI0.out|apply iA|apply iN|apply iD|apply iS|refine iF ?_ NB0_101.out _|refine iF ?_ NB0_108.out _)|exact HI0.out) hg (iO HI0.out HO124.out (by decide)))
     have n1_:=mA (blk_grown (g:=gb101) (o:=.cells #[.int .i64 0,.slice none 0 0] 36 (0,0)) (by (with_reducible repeat first|refine kN ?_ _|refine kD ?_|refine kA ?_ _);exact BK101.out) hg (Kd.R_ne HO124.out BK101.out (by decide)))
     have n2_:=mA (rJ (ok:=(fun k_=>some k_≠(.slice Ao69 y125.length co69:Value).ownBlock)) (by (with_reducible repeat first|apply rA|apply rN|apply rD);exact rM HO106.out (fun _ hk=>⟨hk.2,hk.1⟩)) hg hat)
     have n3_:=mA (blk_grown (g:=gb108) (o:=.cells #[.int .i64 t103,.slice Ao59 t104.length co59] 36 (0,0)) (by (with_reducible repeat first|refine kN ?_ _|refine kD ?_|refine kA ?_ _);exact BK108.out) hg (Kd.R_ne HO124.out BK108.out (by decide)))
     have n4_:=mA (rJ (ok:=(fun k_=>some k_≠(.slice Ao59 t104.length co59:Value).ownBlock)) (by (with_reducible repeat first|apply rA|apply rN|apply rD);exact HO127.out) hg hat)
     have n5_:=mA (bW (by repeat first|(with_reducible first|exact HB.out|apply bA|apply bN|apply bD|refine bS ?_ (iG HI0.out)|refine bS ?_ GE101.out|refine bS ?_ GE108.out)|exact HB.out) HL.out hb)
     have n6_:=mA (eT (by repeat first|(with_reducible first|exact HK.out|apply eS|apply eN|apply eD|apply eA|refine eF ?_ GW101.out _|refine eF ?_ GW108.out _)|exact HK.out) (eG hg g) (Kd.R_base2 HO124.out))
     have n7_:=mA (ho)
     clear HI0 BK101 HO106 BK108 HO127 HB HK HO124
     have HI0:=n0_;have BK101:=n1_;have HO106:=n2_;have BK108:=n3_;have HO127:=n4_;have HB:=n5_;have HK:=n6_;have HO130:=n7_
     clear n0_ n1_ n2_ n3_ n4_ n5_ n6_ n7_ ho hb hg hat
     obtain ⟨Ao70,co70,eo70⟩:=Kd.R_slice HO130.out
     (first|subst eo70|(injection eo70 with f1_ f2_ f3_;have f4_:=f1_.symm;have f5_:=f3_.symm;clear f1_ f2_ f3_;subst f4_;subst f5_))
     refine hK.out _ _ ⟨(kC BK108.out 0).trans rfl,(kC BK108.out 1).trans rfl⟩ (fun hHeld=>?_)
     clear hK K
     refine norm_ (a':=?_) ?_ ?_
     rotate_left
     ·show Act.put _ (some 46) _=_
      simp only [Act.put,sA,sZ,sS,i64_w,i32_w]
      rfl
     refine pure_ (i:=12) (N:=some 47) (v:=?_) (a':=?_) #[I,I,I,I,I,I,I,I,I,I,I,I,I,O,O] rfl rfl (any_of HT_.out (by kernel_rfl)) (fun _ _ _ h=>h) (Or.inl ⟨by rfl,?_⟩) ?_ ?_
     rotate_left
     ·intro w'
      go_simp
      with_reducible rfl
     rotate_left
     ·simp only [Act.put,sA,sZ,sS,i64_w,i32_w]
      rfl
     exact norm_ (by first|(simp only [putAll,Act.put,sA,sZ,sS];done)|(simp only [putAll,Act.put,sA,sZ,sS];rfl)) (hJ2_5_10_11 (v120,v123,.slice Ao69 y125.length co69,.slice Ao70 y128.length co70) _ ⟨hHeld,(by (with_reducible repeat first|apply rA|apply rN|apply rD);exact HO106.out),(by (with_reducible repeat first|apply rA|apply rN|apply rD);exact HO127.out),(by (with_reducible repeat first|apply rA|apply rN|apply rD);exact HO130.out),(by (with_reducible repeat first|refine kN ?_ _|refine kD ?_|refine kA ?_ _);exact BK101.out),(by (with_reducible repeat first|refine kN ?_ _|refine kD ?_|refine kA ?_ _);exact BK108.out),(by repeat first|(with_reducible first|exact HI0.out|apply iA|apply iN|apply iD|apply iS|refine iF ?_ NB0_101.out _|refine iF ?_ NB0_108.out _)|exact HI0.out),(by repeat first|(with_reducible first|exact HK.out|apply eS|apply eN|apply eD|apply eA|refine eF ?_ GW101.out _|refine eF ?_ GW108.out _)|exact HK.out),(by repeat first|(with_reducible first|exact HB.out|apply bA|apply bN|apply bD|refine bS ?_ (iG HI0.out)|refine bS ?_ GE101.out|refine bS ?_ GE108.out)|exact HB.out)⟩)
    skip
    refine box_step ?hg (N:=8) ?hd (cs:=#[.int .i64 0,.slice none 0 0]) (t:=36) ?hr ?_;(case hd=>rfl);(case hg=>rfl);(case hr=>first|(go_simp;done)|(go_simp;rfl))
    intro gb131 hg w68 hbox hb
    have n0_:=mA (rB (by (with_reducible repeat first|apply rA|apply rN|apply rD);exact HO106.out) hb)
    have n1_:=mA (rB (by (with_reducible repeat first|apply rA|apply rN|apply rD);exact HO124.out) hb)
    have n2_:=mA (rB (by (with_reducible repeat first|apply rA|apply rN|apply rD);exact HO127.out) hb)
    have n3_:=mA (iB (by repeat first|(with_reducible first|exact HI0.out|apply iA|apply iN|apply iD|apply iS|refine iF ?_ NB0_101.out _|refine iF ?_ NB0_108.out _)|exact HI0.out) hb)
    have n4_:=mA (kB (g:=gb101) (o:=.cells #[.int .i64 0,.slice none 0 0] 36 (0,0)) (by (with_reducible repeat first|refine kN ?_ _|refine kD ?_|refine kA ?_ _);exact BK101.out) hb)
    have n5_:=mA (kB (g:=gb108) (o:=.cells #[.int .i64 t103,.slice Ao59 t104.length co59] 36 (0,0)) (by (with_reducible repeat first|refine kN ?_ _|refine kD ?_|refine kA ?_ _);exact BK108.out) hb)
    have n6_:=mA (eT (by repeat first|(with_reducible first|exact HK.out|apply eS|apply eN|apply eD|apply eA|refine eF ?_ GW101.out _|refine eF ?_ GW108.out _)|exact HK.out) (eB hb g none) (.inl rfl))
    have n7_:=mA (bT (by repeat first|(with_reducible first|exact HB.out|apply bA|apply bN|apply bD|refine bS ?_ (iG HI0.out)|refine bS ?_ GE101.out|refine bS ?_ GE108.out)|exact HB.out) hb)
    have n8_:=mA (hbox)
    have n9_:=mA ((by rw [hg];exact (eZ (w:=w) (g:=g) (row:=none) (by repeat first|(with_reducible first|exact HK.out|apply eS|apply eN|apply eD|apply eA|refine eF ?_ GW101.out _|refine eF ?_ GW108.out _)|exact HK.out)):w.heap.size≤gb131))
    have n10_:=mA ((Nat.le_trans HW0.out (by rw [hg];exact (eZ (w:=w) (g:=g) (row:=none) (by repeat first|(with_reducible first|exact HK.out|apply eS|apply eN|apply eD|apply eA|refine eF ?_ GW101.out _|refine eF ?_ GW108.out _)|exact HK.out)):w.heap.size≤gb131):w0.heap.size≤gb131))
    have n11_:=mA ((by rw [hg];exact Nat.ne_of_lt (kL (g:=gb101) (o:=.cells #[.int .i64 0,.slice none 0 0] 36 (0,0)) (by (with_reducible repeat first|refine kN ?_ _|refine kD ?_|refine kA ?_ _);exact BK101.out)):gb101≠gb131))
    have n12_:=mA ((by rw [hg];exact Nat.ne_of_gt (kL (g:=gb101) (o:=.cells #[.int .i64 0,.slice none 0 0] 36 (0,0)) (by (with_reducible repeat first|refine kN ?_ _|refine kD ?_|refine kA ?_ _);exact BK101.out)):gb131≠gb101))
    have n13_:=mA ((by rw [hg];exact Nat.ne_of_lt (kL (g:=gb108) (o:=.cells #[.int .i64 t103,.slice Ao59 t104.length co59] 36 (0,0)) (by (with_reducible repeat first|refine kN ?_ _|refine kD ?_|refine kA ?_ _);exact BK108.out)):gb108≠gb131))
    have n14_:=mA ((by rw [hg];exact Nat.ne_of_gt (kL (g:=gb108) (o:=.cells #[.int .i64 t103,.slice Ao59 t104.length co59] 36 (0,0)) (by (with_reducible repeat first|refine kN ?_ _|refine kD ?_|refine kA ?_ _);exact BK108.out)):gb131≠gb108))
    have n15_:=mA ((by rw [hg];exact Nat.ne_of_lt (iL (show IsS113 w0 _ g s0_0 t110 from by repeat first|(with_reducible first|exact HI0.out|apply iA|apply iN|apply iD|apply iS|refine iF ?_ NB0_101.out _|refine iF ?_ NB0_108.out _)|exact HI0.out)):g≠gb131))
    have n16_:=mA ((by rw [hg];exact Nat.ne_of_gt (iL (show IsS113 w0 _ g s0_0 t110 from by repeat first|(with_reducible first|exact HI0.out|apply iA|apply iN|apply iD|apply iS|refine iF ?_ NB0_101.out _|refine iF ?_ NB0_108.out _)|exact HI0.out)):gb131≠g))
    clear HO106 HO124 HO127 HI0 BK101 BK108 HK HB
    have HO106:=n0_;have HO124:=n1_;have HO127:=n2_;have HI0:=n3_;have BK101:=n4_;have BK108:=n5_;have HK:=n6_;have HB:=n7_;have BK131:=n8_;have GW131:=n9_;have GE131:=n10_;have NB101_131:=n11_;have NB131_101:=n12_;have NB108_131:=n13_;have NB131_108:=n14_;have NB0_131:=n15_;have NB131_0:=n16_
    clear n0_ n1_ n2_ n3_ n4_ n5_ n6_ n7_ n8_ n9_ n10_ n11_ n12_ n13_ n14_ n15_ n16_ hb hbox hg
    refine hK.out _ _ ⟨(kC BK108.out 0).trans rfl,(kC BK108.out 1).trans rfl⟩ (fun hHeld=>?_)
    clear hK K
    refine norm_ (a':=?_) ?_ ?_
    rotate_left
    ·show Act.put _ (some 8) _=_
     simp only [Act.put,sA,sZ,sS,i64_w,i32_w]
     rfl
    exact norm_ (by first|(simp only [putAll,Act.put,sA,sZ,sS];done)|(simp only [putAll,Act.put,sA,sZ,sS];rfl)) (hJ2_5_10_13 (v120,v123,(.slice Ao69 y125.length co69),gb131) _ ⟨hHeld,(by (with_reducible repeat first|apply rA|apply rN|apply rD);exact HO106.out),(by (with_reducible repeat first|apply rA|apply rN|apply rD);exact HO124.out),(by (with_reducible repeat first|apply rA|apply rN|apply rD);exact HO127.out),(by (with_reducible repeat first|refine kN ?_ _|refine kD ?_|refine kA ?_ _);exact BK101.out),(by (with_reducible repeat first|refine kN ?_ _|refine kD ?_|refine kA ?_ _);exact BK108.out),(by (with_reducible repeat first|refine kN ?_ _|refine kD ?_|refine kA ?_ _);exact BK131.out),GW131.out,GE131.out,NB0_131.out,NB131_0.out,NB101_131.out,NB131_101.out,NB108_131.out,NB131_108.out,(by repeat first|(with_reducible first|exact HI0.out|apply iA|apply iN|apply iD|apply iS|refine iF ?_ NB0_101.out _|refine iF ?_ NB0_108.out _|refine iF ?_ NB0_131.out _)|exact HI0.out),(by repeat first|(with_reducible first|exact HK.out|apply eS|apply eN|apply eD|apply eA|refine eF ?_ GW101.out _|refine eF ?_ GW108.out _|refine eF ?_ GW131.out _)|exact HK.out),(by repeat first|(with_reducible first|exact HB.out|apply bA|apply bN|apply bD|refine bS ?_ (iG HI0.out)|refine bS ?_ GE101.out|refine bS ?_ GE108.out|refine bS ?_ GE131.out)|exact HB.out)⟩)
   skip
   rintro ⟨v120,v123,v126,gb131⟩ w68 ⟨hS_,h0_,h1_,h2_,h3_,h4_,h5_,h6_,h7_,h8_,h9_,h10_,h11_,h12_,h13_,h14_,h15_,h16_⟩
   have n0_:Aside0 (Kd.R k33 33 w68 w.heap.size (fun k_=>some k_≠(v123:Value).ownBlock∧some k_≠(v126:Value).ownBlock) (.slice Ao59 t104.length co59) t104):=⟨h0_⟩
   have n1_:Aside0 (Kd.R k33 33 w68 w.heap.size (fun k_=>some k_≠(.slice Ao59 t104.length co59:Value).ownBlock∧some k_≠(v126:Value).ownBlock) v123 y122):=⟨h1_⟩
   have n2_:Aside0 (Kd.R k33 33 w68 w.heap.size (fun k_=>some k_≠(.slice Ao59 t104.length co59:Value).ownBlock∧some k_≠(v123:Value).ownBlock) v126 y125):=⟨h2_⟩
   have n3_:Aside0 (w68.heap[gb101]?=some (.cells #[.int .i64 0,.slice none 0 0] 36 (0,0))):=⟨h3_⟩
   have n4_:Aside0 (w68.heap[gb108]?=some (.cells #[.int .i64 t103,.slice Ao59 t104.length co59] 36 (0,0))):=⟨h4_⟩
   have n5_:Aside0 (w68.heap[gb131]?=some (.cells #[.int .i64 0,.slice none 0 0] 36 (0,0))):=⟨h5_⟩
   have n6_:Aside0 (w.heap.size≤gb131):=⟨h6_⟩
   have n7_:Aside0 (w0.heap.size≤gb131):=⟨h7_⟩
   have n8_:Aside0 (g≠gb131):=⟨h8_⟩
   have n9_:Aside0 (gb131≠g):=⟨h9_⟩
   have n10_:Aside0 (gb101≠gb131):=⟨h10_⟩
   have n11_:Aside0 (gb131≠gb101):=⟨h11_⟩
   have n12_:Aside0 (gb108≠gb131):=⟨h12_⟩
   have n13_:Aside0 (gb131≠gb108):=⟨h13_⟩
   have n14_:Aside0 (IsS113 w0 w68 g s0_0 t110):=⟨h14_⟩
   have n15_:Aside0 (KeepBut w w68 g none):=⟨h15_⟩
   have n16_:Aside0 (Below w0.heap.size w0 w68):=⟨h16_⟩
   clear HO106 BK101 BK108 HI0 HK HB h0_ h1_ h2_ h3_ h4_ h5_ h6_ h7_ h8_ h9_ h10_ h11_ h12_ h13_ h14_ h15_ h16_
   have HO106:=n0_;have HO124:=n1_;have HO127:=n2_;have BK101:=n3_;have BK108:=n4_;have BK131:=n5_;have GW131:=n6_;have GE131:=n7_;have NB0_131:=n8_;have NB131_0:=n9_;have NB101_131:=n10_;have NB131_101:=n11_;have NB108_131:=n12_;have NB131_108:=n13_;have HI0:=n14_;have HK:=n15_;have HB:=n16_
   clear n0_ n1_ n2_ n3_ n4_ n5_ n6_ n7_ n8_ n9_ n10_ n11_ n12_ n13_ n14_ n15_ n16_
   have hHeld:w68.cell? ⟨gb108,0,none⟩=some (.int .i64 t103)∧w68.cell? ⟨gb108,1,none⟩=some (.slice Ao59 t104.length co59):=hS_
   obtain ⟨Ao70,co70,eo70⟩:=Kd.R_slice HO127.out
   (first|subst eo70|(injection eo70 with f1_ f2_ f3_;have f4_:=f1_.symm;have f5_:=f3_.symm;clear f1_ f2_ f3_;subst f4_;subst f5_))
   refine norm_ (a':=?_) ?_ ?_
   rotate_left
   ·simp only [putAll,Act.put,sA,sZ,sS]
    rfl
   refine one_ (i:=11) (N:=some 46) #[I,I,I,I,I,I,I,I,I,I,I,I,O,I,O] rfl rfl (one_of HT_.out (by kernel_rfl)) (by decide) (fun K hK=>?_)
   refine Kd.R_append_rows_step k33 w.heap.size (by rfl) (.tmp 40) (.tmp 45) 34 33 (.agg #[(.int .i64 0),(.int .i64 0)]) 16 rfl Try.underlying34 info33 rfl (by decide) (by omega) v123 y122 y125 _ _ _ (fun k_=>some k_≠(.slice Ao59 t104.length co59:Value).ownBlock∧some k_≠(.slice Ao70 y125.length co70:Value).ownBlock) (fun _=>False) rfl rfl ?aO ?aR (fun _ _ h=>h) (fun _ h=>h.elim) ?aF (Below.refl _ _) ?aS ?aL ?_
   (case aR=>repeat first|exact (rR HO127.out).2.2|(with_reducible refine cA ?_ _)|(with_reducible refine cN ?_ _)|(with_reducible refine cD ?_))
   (case aF=>exact (fun k_ hk=>⟨Kd.fresh' (rL (by (with_reducible repeat first|apply rA|apply rN|apply rD);exact HO106.out)) k_ hk,Kd.fresh' (rL (by (with_reducible repeat first|apply rA|apply rN|apply rD);exact HO127.out)) k_ hk⟩))
   (case aO=>exact (by (with_reducible repeat first|apply rA|apply rN|apply rD);exact HO124.out))
   (case aS=>exact (eZ (w:=w) (g:=g) (row:=none) (by repeat first|(with_reducible first|exact HK.out|apply eS|apply eN|apply eD|apply eA|refine eF ?_ GW101.out _|refine eF ?_ GW108.out _|refine eF ?_ GW131.out _)|exact HK.out)))
   (case aL=>have:=LMc50.out;omega)
   intro v129 w69 ho hb hg hat
   rw [←Ny128.out] at ho
   have n0_:=mA (iW (by repeat first|(with_reducible first|exact HI0.out|apply iA|apply iN|apply iD|apply iS|refine iF ?_ NB0_101.out _|refine iF ?_ NB0_108.out _|refine iF ?_ NB0_131.out _)|exact HI0.out) hg (iO HI0.out HO124.out (by decide)))
   have n1_:=mA (blk_grown (g:=gb101) (o:=.cells #[.int .i64 0,.slice none 0 0] 36 (0,0)) (by (with_reducible repeat first|refine kN ?_ _|refine kD ?_|refine kA ?_ _);exact BK101.out) hg (Kd.R_ne HO124.out BK101.out (by decide)))
   have n2_:=mA (rJ (ok:=(fun k_=>some k_≠(.slice Ao70 y125.length co70:Value).ownBlock)) (by (with_reducible repeat first|apply rA|apply rN|apply rD);exact rM HO106.out (fun _ hk=>⟨hk.2,hk.1⟩)) hg hat)
   have n3_:=mA (blk_grown (g:=gb108) (o:=.cells #[.int .i64 t103,.slice Ao59 t104.length co59] 36 (0,0)) (by (with_reducible repeat first|refine kN ?_ _|refine kD ?_|refine kA ?_ _);exact BK108.out) hg (Kd.R_ne HO124.out BK108.out (by decide)))
   have n4_:=mA (rJ (ok:=(fun k_=>some k_≠(.slice Ao59 t104.length co59:Value).ownBlock)) (by (with_reducible repeat first|apply rA|apply rN|apply rD);exact HO127.out) hg hat)
   have n5_:=mA (blk_grown (g:=gb131) (o:=.cells #[.int .i64 0,.slice none 0 0] 36 (0,0)) (by (with_reducible repeat first|refine kN ?_ _|refine kD ?_|refine kA ?_ _);exact BK131.out) hg (Kd.R_ne HO124.out BK131.out (by decide)))
   have n6_:=mA (bW (by repeat first|(with_reducible first|exact HB.out|apply bA|apply bN|apply bD|refine bS ?_ (iG HI0.out)|refine bS ?_ GE101.out|refine bS ?_ GE108.out|refine bS ?_ GE131.out)|exact HB.out) HL.out hb)
   have n7_:=mA (eT (by repeat first|(with_reducible first|exact HK.out|apply eS|apply eN|apply eD|apply eA|refine eF ?_ GW101.out _|refine eF ?_ GW108.out _|refine eF ?_ GW131.out _)|exact HK.out) (eG hg g) (Kd.R_base2 HO124.out))
   have n8_:=mA (ho)
   clear HI0 BK101 HO106 BK108 HO127 BK131 HB HK HO124
   have HI0:=n0_;have BK101:=n1_;have HO106:=n2_;have BK108:=n3_;have HO127:=n4_;have BK131:=n5_;have HB:=n6_;have HK:=n7_;have HO130:=n8_
   clear n0_ n1_ n2_ n3_ n4_ n5_ n6_ n7_ n8_ ho hb hg hat
   obtain ⟨Ao71,co71,eo71⟩:=Kd.R_slice HO130.out
   (first|subst eo71|(injection eo71 with f1_ f2_ f3_;have f4_:=f1_.symm;have f5_:=f3_.symm;clear f1_ f2_ f3_;subst f4_;subst f5_))
   refine hK.out _ _ ⟨(kC BK108.out 0).trans rfl,(kC BK108.out 1).trans rfl⟩ (fun hHeld=>?_)
   clear hK K
   refine norm_ (a':=?_) ?_ ?_
   rotate_left
   ·show Act.put _ (some 46) _=_
    simp only [Act.put,sA,sZ,sS,i64_w,i32_w]
    rfl
   refine pure_ (i:=12) (N:=some 47) (v:=?_) (a':=?_) #[I,I,I,I,I,I,I,I,I,I,I,I,I,I,O] rfl rfl (any_of HT_.out (by kernel_rfl)) (fun _ _ _ h=>h) (Or.inl ⟨by rfl,?_⟩) ?_ ?_
   rotate_left
   ·intro w'
    go_simp
    with_reducible rfl
   rotate_left
   ·simp only [Act.put,sA,sZ,sS,i64_w,i32_w]
    rfl
   exact norm_ (by first|(simp only [putAll,Act.put,sA,sZ,sS];done)|(simp only [putAll,Act.put,sA,sZ,sS];rfl)) (hJ2_5_10_11_13 (v120,v123,.slice Ao70 y125.length co70,.slice Ao71 y128.length co71,gb131) _ ⟨hHeld,(by (with_reducible repeat first|apply rA|apply rN|apply rD);exact HO106.out),(by (with_reducible repeat first|apply rA|apply rN|apply rD);exact HO127.out),(by (with_reducible repeat first|apply rA|apply rN|apply rD);exact HO130.out),(by (with_reducible repeat first|refine kN ?_ _|refine kD ?_|refine kA ?_ _);exact BK101.out),(by (with_reducible repeat first|refine kN ?_ _|refine kD ?_|refine kA ?_ _);exact BK108.out),(by (with_reducible repeat first|refine kN ?_ _|refine kD ?_|refine kA ?_ _);exact BK131.out),GW131.out,GE131.out,NB0_131.out,NB131_0.out,NB101_131.out,NB131_101.out,NB108_131.out,NB131_108.out,(by repeat first|(with_reducible first|exact HI0.out|apply iA|apply iN|apply iD|apply iS|refine iF ?_ NB0_101.out _|refine iF ?_ NB0_108.out _|refine iF ?_ NB0_131.out _)|exact HI0.out),(by repeat first|(with_reducible first|exact HK.out|apply eS|apply eN|apply eD|apply eA|refine eF ?_ GW101.out _|refine eF ?_ GW108.out _|refine eF ?_ GW131.out _)|exact HK.out),(by repeat first|(with_reducible first|exact HB.out|apply bA|apply bN|apply bD|refine bS ?_ (iG HI0.out)|refine bS ?_ GE101.out|refine bS ?_ GE108.out|refine bS ?_ GE131.out)|exact HB.out)⟩)
  skip
  rintro ⟨v120,v123,v126,v129⟩ w70 ⟨hS_,h0_,h1_,h2_,h3_,h4_,h5_,h6_,h7_⟩
  have n0_:Aside0 (Kd.R k33 33 w70 w.heap.size (fun k_=>some k_≠(v126:Value).ownBlock∧some k_≠(v129:Value).ownBlock) (.slice Ao59 t104.length co59) t104):=⟨h0_⟩
  have n1_:Aside0 (Kd.R k33 33 w70 w.heap.size (fun k_=>some k_≠(.slice Ao59 t104.length co59:Value).ownBlock∧some k_≠(v129:Value).ownBlock) v126 y125):=⟨h1_⟩
  have n2_:Aside0 (Kd.R k33 33 w70 w.heap.size (fun k_=>some k_≠(.slice Ao59 t104.length co59:Value).ownBlock∧some k_≠(v126:Value).ownBlock) v129 y128):=⟨h2_⟩
  have n3_:Aside0 (w70.heap[gb101]?=some (.cells #[.int .i64 0,.slice none 0 0] 36 (0,0))):=⟨h3_⟩
  have n4_:Aside0 (w70.heap[gb108]?=some (.cells #[.int .i64 t103,.slice Ao59 t104.length co59] 36 (0,0))):=⟨h4_⟩
  have n5_:Aside0 (IsS113 w0 w70 g s0_0 t110):=⟨h5_⟩
  have n6_:Aside0 (KeepBut w w70 g none):=⟨h6_⟩
  have n7_:Aside0 (Below w0.heap.size w0 w70):=⟨h7_⟩
  clear HO106 BK101 BK108 HI0 HK HB h0_ h1_ h2_ h3_ h4_ h5_ h6_ h7_
  have HO106:=n0_;have HO127:=n1_;have HO130:=n2_;have BK101:=n3_;have BK108:=n4_;have HI0:=n5_;have HK:=n6_;have HB:=n7_
  clear n0_ n1_ n2_ n3_ n4_ n5_ n6_ n7_
  have hHeld:w70.cell? ⟨gb108,0,none⟩=some (.int .i64 t103)∧w70.cell? ⟨gb108,1,none⟩=some (.slice Ao59 t104.length co59):=hS_
  obtain ⟨Ao71,co71,eo71⟩:=Kd.R_slice HO130.out
  (first|subst eo71|(injection eo71 with f1_ f2_ f3_;have f4_:=f1_.symm;have f5_:=f3_.symm;clear f1_ f2_ f3_;subst f4_;subst f5_))
  refine norm_ (a':=?_) ?_ ?_
  rotate_left
  ·simp only [putAll,Act.put,sA,sZ,sS]
   rfl
  refine one_ (i:=13) (N:=some 8) #[I,I,I,I,I,I,I,I,I,I,I,I,I,I,O] rfl rfl (one_of HT_.out (by kernel_rfl)) (by decide) (fun K hK=>?_)
  refine box_step ?hg (N:=8) ?hd (cs:=#[.int .i64 0,.slice none 0 0]) (t:=36) ?hr ?_;(case hd=>rfl);(case hg=>rfl);(case hr=>first|(go_simp;done)|(go_simp;rfl))
  intro gb131 hg w72 hbox hb
  have n0_:=mA (rB (by (with_reducible repeat first|apply rA|apply rN|apply rD);exact HO106.out) hb)
  have n1_:=mA (rB (by (with_reducible repeat first|apply rA|apply rN|apply rD);exact HO127.out) hb)
  have n2_:=mA (rB (by (with_reducible repeat first|apply rA|apply rN|apply rD);exact HO130.out) hb)
  have n3_:=mA (iB (by repeat first|(with_reducible first|exact HI0.out|apply iA|apply iN|apply iD|apply iS|refine iF ?_ NB0_101.out _|refine iF ?_ NB0_108.out _)|exact HI0.out) hb)
  have n4_:=mA (kB (g:=gb101) (o:=.cells #[.int .i64 0,.slice none 0 0] 36 (0,0)) (by (with_reducible repeat first|refine kN ?_ _|refine kD ?_|refine kA ?_ _);exact BK101.out) hb)
  have n5_:=mA (kB (g:=gb108) (o:=.cells #[.int .i64 t103,.slice Ao59 t104.length co59] 36 (0,0)) (by (with_reducible repeat first|refine kN ?_ _|refine kD ?_|refine kA ?_ _);exact BK108.out) hb)
  have n6_:=mA (eT (by repeat first|(with_reducible first|exact HK.out|apply eS|apply eN|apply eD|apply eA|refine eF ?_ GW101.out _|refine eF ?_ GW108.out _)|exact HK.out) (eB hb g none) (.inl rfl))
  have n7_:=mA (bT (by repeat first|(with_reducible first|exact HB.out|apply bA|apply bN|apply bD|refine bS ?_ (iG HI0.out)|refine bS ?_ GE101.out|refine bS ?_ GE108.out)|exact HB.out) hb)
  have n8_:=mA (hbox)
  have n9_:=mA ((by rw [hg];exact (eZ (w:=w) (g:=g) (row:=none) (by repeat first|(with_reducible first|exact HK.out|apply eS|apply eN|apply eD|apply eA|refine eF ?_ GW101.out _|refine eF ?_ GW108.out _)|exact HK.out)):w.heap.size≤gb131))
  have n10_:=mA ((Nat.le_trans HW0.out (by rw [hg];exact (eZ (w:=w) (g:=g) (row:=none) (by repeat first|(with_reducible first|exact HK.out|apply eS|apply eN|apply eD|apply eA|refine eF ?_ GW101.out _|refine eF ?_ GW108.out _)|exact HK.out)):w.heap.size≤gb131):w0.heap.size≤gb131))
  have n11_:=mA ((by rw [hg];exact Nat.ne_of_lt (kL (g:=gb101) (o:=.cells #[.int .i64 0,.slice none 0 0] 36 (0,0)) (by (with_reducible repeat first|refine kN ?_ _|refine kD ?_|refine kA ?_ _);exact BK101.out)):gb101≠gb131))
  have n12_:=mA ((by rw [hg];exact Nat.ne_of_gt (kL (g:=gb101) (o:=.cells #[.int .i64 0,.slice none 0 0] 36 (0,0)) (by (with_reducible repeat first|refine kN ?_ _|refine kD ?_|refine kA ?_ _);exact BK101.out)):gb131≠gb101))
  have n13_:=mA ((by rw [hg];exact Nat.ne_of_lt (kL (g:=gb108) (o:=.cells #[.int .i64 t103,.slice Ao59 t104.length co59] 36 (0,0)) (by (with_reducible repeat first|refine kN ?_ _|refine kD ?_|refine kA ?_ _);exact BK108.out)):gb108≠gb131))
  have n14_:=mA ((by rw [hg];exact Nat.ne_of_gt (kL (g:=gb108) (o:=.cells #[.int .i64 t103,.slice Ao59 t104.length co59] 36 (0,0)) (by (with_reducible repeat first|refine kN ?_ _|refine kD ?_|refine kA ?_ _);exact BK108.out)):gb131≠gb108))
  have n15_:=mA ((by rw [hg];exact Nat.ne_of_lt (iL (show IsS113 w0 _ g s0_0 t110 from by repeat first|(with_reducible first|exact HI0.out|apply iA|apply iN|apply iD|apply iS|refine iF ?_ NB0_101.out _|refine iF ?_ NB0_108.out _)|exact HI0.out)):g≠gb131))
  have n16_:=mA ((by rw [hg];exact Nat.ne_of_gt (iL (show IsS113 w0 _ g s0_0 t110 from by repeat first|(with_reducible first|exact HI0.out|apply iA|apply iN|apply iD|apply iS|refine iF ?_ NB0_101.out _|refine iF ?_ NB0_108.out _)|exact HI0.out)):gb131≠g))
  clear HO106 HO127 HO130 HI0 BK101 BK108 HK HB
  have HO106:=n0_;have HO127:=n1_;have HO130:=n2_;have HI0:=n3_;have BK101:=n4_;have BK108:=n5_;have HK:=n6_;have HB:=n7_;have BK131:=n8_;have GW131:=n9_;have GE131:=n10_;have NB101_131:=n11_;have NB131_101:=n12_;have NB108_131:=n13_;have NB131_108:=n14_;have NB0_131:=n15_;have NB131_0:=n16_
  clear n0_ n1_ n2_ n3_ n4_ n5_ n6_ n7_ n8_ n9_ n10_ n11_ n12_ n13_ n14_ n15_ n16_ hb hbox hg
  refine hK.out _ _ ⟨(kC BK108.out 0).trans rfl,(kC BK108.out 1).trans rfl⟩ (fun hHeld=>?_)
  clear hK K
  refine norm_ (a':=?_) ?_ ?_
  rotate_left
  ·show Act.put _ (some 8) _=_
   simp only [Act.put,sA,sZ,sS,i64_w,i32_w]
   rfl
  exact norm_ (by first|(simp only [putAll,Act.put,sA,sZ,sS];done)|(simp only [putAll,Act.put,sA,sZ,sS];rfl)) (hJ2_5_10_11_13 (v120,v123,v126,.slice Ao71 y128.length co71,gb131) _ ⟨hHeld,(by (with_reducible repeat first|apply rA|apply rN|apply rD);exact HO106.out),(by (with_reducible repeat first|apply rA|apply rN|apply rD);exact HO127.out),(by (with_reducible repeat first|apply rA|apply rN|apply rD);exact HO130.out),(by (with_reducible repeat first|refine kN ?_ _|refine kD ?_|refine kA ?_ _);exact BK101.out),(by (with_reducible repeat first|refine kN ?_ _|refine kD ?_|refine kA ?_ _);exact BK108.out),(by (with_reducible repeat first|refine kN ?_ _|refine kD ?_|refine kA ?_ _);exact BK131.out),GW131.out,GE131.out,NB0_131.out,NB131_0.out,NB101_131.out,NB131_101.out,NB108_131.out,NB131_108.out,(by repeat first|(with_reducible first|exact HI0.out|apply iA|apply iN|apply iD|apply iS|refine iF ?_ NB0_101.out _|refine iF ?_ NB0_108.out _|refine iF ?_ NB0_131.out _)|exact HI0.out),(by repeat first|(with_reducible first|exact HK.out|apply eS|apply eN|apply eD|apply eA|refine eF ?_ GW101.out _|refine eF ?_ GW108.out _|refine eF ?_ GW131.out _)|exact HK.out),(by repeat first|(with_reducible first|exact HB.out|apply bA|apply bN|apply bD|refine bS ?_ (iG HI0.out)|refine bS ?_ GE101.out|refine bS ?_ GE108.out|refine bS ?_ GE131.out)|exact HB.out)⟩)
 rintro ⟨v120,v123,v126,v129,gb131⟩ w71 ⟨hS_,h0_,h1_,h2_,h3_,h4_,h5_,h6_,h7_,h8_,h9_,h10_,h11_,h12_,h13_,h14_,h15_,h16_⟩
 have n0_:Aside0 (Kd.R k33 33 w71 w.heap.size (fun k_=>some k_≠(v126:Value).ownBlock∧some k_≠(v129:Value).ownBlock) (.slice Ao59 t104.length co59) t104):=⟨h0_⟩
 have n1_:Aside0 (Kd.R k33 33 w71 w.heap.size (fun k_=>some k_≠(.slice Ao59 t104.length co59:Value).ownBlock∧some k_≠(v129:Value).ownBlock) v126 y125):=⟨h1_⟩
 have n2_:Aside0 (Kd.R k33 33 w71 w.heap.size (fun k_=>some k_≠(.slice Ao59 t104.length co59:Value).ownBlock∧some k_≠(v126:Value).ownBlock) v129 y128):=⟨h2_⟩
 have n3_:Aside0 (w71.heap[gb101]?=some (.cells #[.int .i64 0,.slice none 0 0] 36 (0,0))):=⟨h3_⟩
 have n4_:Aside0 (w71.heap[gb108]?=some (.cells #[.int .i64 t103,.slice Ao59 t104.length co59] 36 (0,0))):=⟨h4_⟩
 have n5_:Aside0 (w71.heap[gb131]?=some (.cells #[.int .i64 0,.slice none 0 0] 36 (0,0))):=⟨h5_⟩
 have n6_:Aside0 (w.heap.size≤gb131):=⟨h6_⟩
 have n7_:Aside0 (w0.heap.size≤gb131):=⟨h7_⟩
 have n8_:Aside0 (g≠gb131):=⟨h8_⟩
 have n9_:Aside0 (gb131≠g):=⟨h9_⟩
 have n10_:Aside0 (gb101≠gb131):=⟨h10_⟩
 have n11_:Aside0 (gb131≠gb101):=⟨h11_⟩
 have n12_:Aside0 (gb108≠gb131):=⟨h12_⟩
 have n13_:Aside0 (gb131≠gb108):=⟨h13_⟩
 have n14_:Aside0 (IsS113 w0 w71 g s0_0 t110):=⟨h14_⟩
 have n15_:Aside0 (KeepBut w w71 g none):=⟨h15_⟩
 have n16_:Aside0 (Below w0.heap.size w0 w71):=⟨h16_⟩
 clear HO106 BK101 BK108 HI0 HK HB h0_ h1_ h2_ h3_ h4_ h5_ h6_ h7_ h8_ h9_ h10_ h11_ h12_ h13_ h14_ h15_ h16_
 have HO106:=n0_;have HO127:=n1_;have HO130:=n2_;have BK101:=n3_;have BK108:=n4_;have BK131:=n5_;have GW131:=n6_;have GE131:=n7_;have NB0_131:=n8_;have NB131_0:=n9_;have NB101_131:=n10_;have NB131_101:=n11_;have NB108_131:=n12_;have NB131_108:=n13_;have HI0:=n14_;have HK:=n15_;have HB:=n16_
 clear n0_ n1_ n2_ n3_ n4_ n5_ n6_ n7_ n8_ n9_ n10_ n11_ n12_ n13_ n14_ n15_ n16_
 have hHeld:w71.cell? ⟨gb108,0,none⟩=some (.int .i64 t103)∧w71.cell? ⟨gb108,1,none⟩=some (.slice Ao59 t104.length co59):=hS_
 obtain ⟨Ao72,co72,eo72⟩:=Kd.R_slice HO130.out
 (first|subst eo72|(injection eo72 with f1_ f2_ f3_;have f4_:=f1_.symm;have f5_:=f3_.symm;clear f1_ f2_ f3_;subst f4_;subst f5_))
 refine norm_ (a':=?_) ?_ ?_
 rotate_left
 ·simp only [putAll,Act.put,sA,sZ,sS]
  rfl
 refine one_ (i:=14) (N:=none) #[I,I,I,I,I,I,I,I,I,I,I,I,I,I,I] rfl rfl (one_of HT_.out (by kernel_rfl)) (by decide) (fun K hK=>?_)
 have hs73:w71.cell? ⟨gb131,0,none⟩=some (.int .i64 0):=(kC BK131.out 0).trans rfl
 have hfs73:=kF BK131.out 0
 have hns73_0:=NB101_131.out
 have hns73_1:=NB108_131.out
 have hms73_0:=NB131_101.out
 have hms73_1:=NB131_108.out
 have hs74:w71.cell? ⟨gb131,1,none⟩=some (.slice none 0 0):=(kC BK131.out 1).trans rfl
 have hfs74:=kF BK131.out 1
 have hns74_0:=NB101_131.out
 have hns74_1:=NB108_131.out
 have hms74_0:=NB131_101.out
 have hms74_1:=NB131_108.out
 refine skip_ (w1:=?_) (by rfl) rfl ?_ ?_
 rotate_left
 ·go_simp
  rfl
 refine hK.out _ _ ⟨((cell_far (p:=⟨gb131,_,none⟩) NB108_131.out _).trans (((cell_far (p:=⟨gb131,_,none⟩) NB108_131.out _).trans (hHeld.1)))),((cell_far (p:=⟨gb131,_,none⟩) NB108_131.out _).trans (((cell_far (p:=⟨gb131,_,none⟩) NB108_131.out _).trans (hHeld.2))))⟩ (fun hHeld=>?_)
 clear hK K
 refine done_ (done_of HT_.out (by kernel_rfl)) ?_
 have hnb75:=NB131_101.out
 have hnc75:=NB101_131.out
 have hnb76:=NB131_108.out
 have hnc76:=NB108_131.out
 have hnb77:=NB131_0.out
 have hnc77:=NB0_131.out
 have hcz78_0:w71.cell? ⟨gb131,0,none⟩=some (.int .i64 0):=(kC BK131.out 0).trans rfl
 have hcz78_1:w71.cell? ⟨gb131,1,none⟩=some (.slice none 0 0):=(kC BK131.out 1).trans rfl
 have hfz78_0:=kF BK131.out 0
 have hfz78_1:=kF BK131.out 1
 cases bq with
 | true =>
  have hz2:=HZ2.out
  have hz3:=HZ3.out
  clear HZ2 HZ3
  replace hz2:=(if_pos rfl).symm.trans hz2
  replace hz3:=(if_pos rfl).symm.trans hz3
  subst hz2
  subst hz3
  try go_wp2_with (first|((with_reducible refine gate_callee (f:=37) rfl ?_);refine goesL_ (some 50) rfl rfl Try.func37 (by kernel_rfl) rfl #[.int .i64 t102,.agg #[.int .i64 t103,.slice Ao72 y128.length co72]] rfl (by (try simp only [mT,mC,mN]);first|done|rfl|(simp only [lD,lT];rfl)) ?_;(with_reducible refine (spec_ClaimOk.calls k t102 t103 _ _ y128 true _ ?side1 ?side2 A51.out).mono ?_);(case side1=>refine (rR (e:=33) (base:=w.heap.size) (ok:=fun k_=>(some k_≠(.slice Ao59 t104.length co59:Value).ownBlock∧some k_≠(v126:Value).ownBlock)) (n:=y128.length) (c:=co72) ?_).2.2;exact (by (with_reducible repeat first|apply rA|apply rN|apply rD);exact (rM (rF (p:=⟨gb131,1,none⟩) (rF (p:=⟨gb131,0,none⟩) (rY HO130.out BK131.out (by decide)) (fun _ hk=>hk.2) (.int .i64 t103)) (fun _ hk=>hk.2) (.slice Ao72 y128.length co72)) (fun _ h_=>h_.1))));(case side2=>exact (rR HO130.out).2.1);rintro e w79 ⟨rfl,hb⟩;refine ⟨_,rfl,?_⟩;have n0_:=mA (rB (by (with_reducible repeat first|apply rA|apply rN|apply rD);exact (rM (rF (p:=⟨gb131,1,none⟩) (rF (p:=⟨gb131,0,none⟩) (rY HO106.out BK131.out (by decide)) (fun _ hk=>hk.2) (.int .i64 t103)) (fun _ hk=>hk.2) (.slice Ao72 y128.length co72)) (fun _ h_=>h_.1))) hb);have n1_:=mA (rB (by (with_reducible repeat first|apply rA|apply rN|apply rD);exact (rM (rF (p:=⟨gb131,1,none⟩) (rF (p:=⟨gb131,0,none⟩) (rY HO127.out BK131.out (by decide)) (fun _ hk=>hk.2) (.int .i64 t103)) (fun _ hk=>hk.2) (.slice Ao72 y128.length co72)) (fun _ h_=>h_.1))) hb);have n2_:=mA (rB (by (with_reducible repeat first|apply rA|apply rN|apply rD);exact (rM (rF (p:=⟨gb131,1,none⟩) (rF (p:=⟨gb131,0,none⟩) (rY HO130.out BK131.out (by decide)) (fun _ hk=>hk.2) (.int .i64 t103)) (fun _ hk=>hk.2) (.slice Ao72 y128.length co72)) (fun _ h_=>h_.1))) hb);have n3_:=mA (iB (show IsS113 w0 ((w71.setCell ⟨gb131,0,none⟩ (.int .i64 t103)).setCell ⟨gb131,1,none⟩ (.slice Ao72 y128.length co72)) g s0_0 t110 from by repeat first|(with_reducible first|exact HI0.out|apply iA|apply iN|apply iD|apply iS|refine iF ?_ NB0_101.out _|refine iF ?_ NB0_108.out _|refine iF ?_ NB0_131.out _)|exact HI0.out) hb);have n4_:=mA (kB (g:=gb101) (o:=.cells #[.int .i64 0,.slice none 0 0] 36 (0,0)) (by (with_reducible repeat first|refine kN ?_ _|refine kD ?_|refine kA ?_ _);refine kZ ?_ NB101_131.out _;(with_reducible repeat first|refine kN ?_ _|refine kD ?_|refine kA ?_ _);refine kZ ?_ NB101_131.out _;(with_reducible repeat first|refine kN ?_ _|refine kD ?_|refine kA ?_ _);exact BK101.out) hb);have n5_:=mA (kB (g:=gb108) (o:=.cells #[.int .i64 t103,.slice Ao59 t104.length co59] 36 (0,0)) (by (with_reducible repeat first|refine kN ?_ _|refine kD ?_|refine kA ?_ _);refine kZ ?_ NB108_131.out _;(with_reducible repeat first|refine kN ?_ _|refine kD ?_|refine kA ?_ _);refine kZ ?_ NB108_131.out _;(with_reducible repeat first|refine kN ?_ _|refine kD ?_|refine kA ?_ _);exact BK108.out) hb);have n6_:=mA (kB (g:=gb131) (o:=.cells #[.int .i64 t103,.slice Ao72 y128.length co72] 36 (0,0)) (by (with_reducible repeat first|refine kN ?_ _|refine kD ?_|refine kA ?_ _);refine kP (cs:=#[.int .i64 t103,.slice none 0 0]) ?_ 1 _ rfl;(with_reducible repeat first|refine kN ?_ _|refine kD ?_|refine kA ?_ _);refine kP (cs:=#[.int .i64 0,.slice none 0 0]) ?_ 0 _ rfl;(with_reducible repeat first|refine kN ?_ _|refine kD ?_|refine kA ?_ _);exact BK131.out) hb);have n7_:=mA (eT (by repeat first|(with_reducible first|exact HK.out|apply eS|apply eN|apply eD|apply eA|refine eF ?_ GW101.out _|refine eF ?_ GW108.out _|refine eF ?_ GW131.out _)|exact HK.out) (eB hb g none) (.inl rfl));have n8_:=mA (bT (by repeat first|(with_reducible first|exact HB.out|apply bA|apply bN|apply bD|refine bS ?_ (iG HI0.out)|refine bS ?_ GE101.out|refine bS ?_ GE108.out|refine bS ?_ GE131.out)|exact HB.out) hb);clear HO106 HO127 HO130 HI0 BK101 BK108 BK131 HK HB;have HO106:=n0_;have HO127:=n1_;have HO130:=n2_;have HI0:=n3_;have BK101:=n4_;have BK108:=n5_;have BK131:=n6_;have HK:=n7_;have HB:=n8_;clear n0_ n1_ n2_ n3_ n4_ n5_ n6_ n7_ n8_;(try clear hb);(try clear hb2);(try clear hk);(try clear hi)))
  have n0_:=mA (rD HO106.out)
  have n1_:=mA (rD HO127.out)
  have n2_:=mA (rD HO130.out)
  have n3_:=mA (kD BK101.out)
  have n4_:=mA (kD BK108.out)
  have n5_:=mA (kD BK131.out)
  have n6_:=mA (iD HI0.out)
  have n7_:=mA (eD HK.out)
  have n8_:=mA (bD HB.out)
  clear HO106 HO127 HO130 BK101 BK108 BK131 HI0 HK HB
  have HO106:=n0_;have HO127:=n1_;have HO130:=n2_;have BK101:=n3_;have BK108:=n4_;have BK131:=n5_;have HI0:=n6_;have HK:=n7_;have HB:=n8_
  clear n0_ n1_ n2_ n3_ n4_ n5_ n6_ n7_ n8_
  refine start_ (n:=4) (S:=fun w'=>w'.cell? ⟨gb131,0,none⟩=some (.int .i64 t103)∧w'.cell? ⟨gb131,1,none⟩=some (.slice Ao72 y128.length co72)) (ds:=[]) #[O,O,O,O] (by kernel_rfl) rfl rfl ⟨(kC BK131.out 0).trans rfl,(kC BK131.out 1).trans rfl⟩ (fun hHeld=>?_)
  generalize w79.drew=w80 at HO106 HO127 HO130 BK101 BK108 BK131 HI0 HK HB hHeld ⊢
  refine pure_ (i:=0) (N:=some 51) (v:=?_) (a':=?_) #[I,O,O,O] rfl rfl (by kernel_rfl) (fun _ _ _ h=>h) (Or.inl ⟨by rfl,?_⟩) ?_ ?_
  rotate_left
  ·intro w'
   go_simp
   with_reducible rfl
  rotate_left
  ·simp only [Act.put,sA,sZ,sS,i64_w,i32_w]
   rfl
  refine pure_ (i:=2) (N:=some 2) (v:=?_) (a':=?_) #[I,O,I,O] rfl rfl (by kernel_rfl) (fun _ _ _ h=>h) (Or.inl ⟨by rfl,?_⟩) ?_ ?_
  rotate_left
  ·intro w'
   go_simp
   with_reducible rfl
  rotate_left
  ·simp only [Act.put,sA,sZ,sS,i64_w,i32_w]
   rfl
  refine take_ (i:=1) (N:=some 52) (v:=?_) (a':=?_) #[I,I,I,O] rfl rfl (by kernel_rfl) (fun _ _ _ h=>h) (Or.inl ⟨by rfl,?_⟩) hHeld ?_ ?_
  rotate_left
  ·rintro w' ⟨s0,s1⟩
   go_simp
   with_reducible rfl
  rotate_left
  ·simp only [Act.put,sA,sZ,sS,i64_w,i32_w]
   rfl
  refine one_ (i:=3) (N:=none) #[I,I,I,I] rfl rfl (by kernel_rfl) (by decide) (fun K hK=>?_)
  have hs81:w80.cell? ⟨gb101,0,none⟩=some (.int .i64 0):=(kC BK101.out 0).trans rfl
  have hfs81:=kF BK101.out 0
  have hns81_1:=NB108_101.out
  have hns81_2:=NB131_101.out
  have hms81_1:=NB101_108.out
  have hms81_2:=NB101_131.out
  have hs82:w80.cell? ⟨gb101,1,none⟩=some (.slice none 0 0):=(kC BK101.out 1).trans rfl
  have hfs82:=kF BK101.out 1
  have hns82_1:=NB108_101.out
  have hns82_2:=NB131_101.out
  have hms82_1:=NB101_108.out
  have hms82_2:=NB101_131.out
  refine skip_ (w1:=?_) (by rfl) rfl ?_ ?_
  rotate_left
  ·go_simp
   rfl
  refine hK.out _ _ ⟨((cell_far (p:=⟨gb101,_,none⟩) NB131_101.out _).trans (((cell_far (p:=⟨gb101,_,none⟩) NB131_101.out _).trans (hHeld.1)))),((cell_far (p:=⟨gb101,_,none⟩) NB131_101.out _).trans (((cell_far (p:=⟨gb101,_,none⟩) NB131_101.out _).trans (hHeld.2))))⟩ (fun hHeld=>?_)
  clear hK K
  refine done_ (by kernel_rfl) ?_
  try go_wp2
  refine bodyPost_ret (results_tc rfl _ _ gb101 36 #[.int .i64 t103,.slice Ao72 y128.length co72] (0,0) _ rfl (by (with_reducible repeat first|refine kN ?_ _|refine kD ?_|refine kA ?_ _);refine kP (cs:=#[.int .i64 t103,.slice none 0 0]) ?_ 1 _ rfl;(with_reducible repeat first|refine kN ?_ _|refine kD ?_|refine kA ?_ _);refine kP (cs:=#[.int .i64 0,.slice none 0 0]) ?_ 0 _ rfl;(with_reducible repeat first|refine kN ?_ _|refine kD ?_|refine kA ?_ _);exact BK101.out) Try.underlying36 rfl (by kernel_rfl)) rfl ?_
  exact ⟨_,by first|rfl|(simp [errW_none,errW_some]<;>rfl)|(simp [*, errW_none,errW_some]<;>rfl),by (with_reducible repeat first|apply rA|apply rN|apply rD);exact rM (rF (p:=⟨gb101,1,none⟩) (rF (p:=⟨gb101,0,none⟩) (rY HO130.out BK101.out (by decide)) (fun _ hk=>hk.2) (.int .i64 t103)) (fun _ hk=>hk.2) (.slice Ao72 y128.length co72)) (fun _ hk=>trivial),by repeat (first|(with_reducible first|exact HI0.out|apply iA|apply iN|apply iD|apply iS|refine iF ?_ NB0_101.out _|refine iF ?_ NB0_108.out _|refine iF ?_ NB0_131.out _)|exact HI0.out),by repeat (first|(with_reducible first|exact HB.out|apply bA|apply bN|apply bD|refine bS ?_ (iG HI0.out)|refine bS ?_ GE101.out|refine bS ?_ GE108.out|refine bS ?_ GE131.out)|exact HB.out),by repeat (first|(with_reducible first|exact HK.out|apply eS|apply eN|apply eD|apply eA|refine eF ?_ GW101.out _|refine eF ?_ GW108.out _|refine eF ?_ GW131.out _)|exact HK.out)⟩
 | false =>
  have hz2:=HZ2.out
  have hz3:=HZ3.out
  clear HZ2 HZ3
  replace hz2:=(if_neg (show ¬ (false=true) by decide)).symm.trans hz2
  replace hz3:=(if_neg (show ¬ (false=true) by decide)).symm.trans hz3
  subst hz2
  subst hz3
  try go_wp2_with (first|((with_reducible refine gate_callee (f:=37) rfl ?_);refine goesL_ (some 50) rfl rfl Try.func37 (by kernel_rfl) rfl #[.int .i64 t102,.agg #[.int .i64 t103,.slice Ao72 y128.length co72]] rfl (by (try simp only [mT,mC,mN]);first|done|rfl|(simp only [lD,lT];rfl)) ?_;(with_reducible refine (spec_ClaimOk.calls k t102 t103 _ _ y128 false _ ?side1 ?side2 A51.out).mono ?_);(case side1=>refine (rR (e:=33) (base:=w.heap.size) (ok:=fun k_=>(some k_≠(.slice Ao59 t104.length co59:Value).ownBlock∧some k_≠(v126:Value).ownBlock)) (n:=y128.length) (c:=co72) ?_).2.2;exact (by (with_reducible repeat first|apply rA|apply rN|apply rD);exact (rM (rF (p:=⟨gb131,1,none⟩) (rF (p:=⟨gb131,0,none⟩) (rY HO130.out BK131.out (by decide)) (fun _ hk=>hk.2) (.int .i64 t103)) (fun _ hk=>hk.2) (.slice Ao72 y128.length co72)) (fun _ h_=>h_.1))));(case side2=>exact (rR HO130.out).2.1);rintro e w109 ⟨rfl,hb⟩;refine ⟨_,rfl,?_⟩;have n0_:=mA (rB (by (with_reducible repeat first|apply rA|apply rN|apply rD);exact (rM (rF (p:=⟨gb131,1,none⟩) (rF (p:=⟨gb131,0,none⟩) (rY HO106.out BK131.out (by decide)) (fun _ hk=>hk.2) (.int .i64 t103)) (fun _ hk=>hk.2) (.slice Ao72 y128.length co72)) (fun _ h_=>h_.1))) hb);have n1_:=mA (rB (by (with_reducible repeat first|apply rA|apply rN|apply rD);exact (rM (rF (p:=⟨gb131,1,none⟩) (rF (p:=⟨gb131,0,none⟩) (rY HO127.out BK131.out (by decide)) (fun _ hk=>hk.2) (.int .i64 t103)) (fun _ hk=>hk.2) (.slice Ao72 y128.length co72)) (fun _ h_=>h_.1))) hb);have n2_:=mA (rB (by (with_reducible repeat first|apply rA|apply rN|apply rD);exact (rM (rF (p:=⟨gb131,1,none⟩) (rF (p:=⟨gb131,0,none⟩) (rY HO130.out BK131.out (by decide)) (fun _ hk=>hk.2) (.int .i64 t103)) (fun _ hk=>hk.2) (.slice Ao72 y128.length co72)) (fun _ h_=>h_.1))) hb);have n3_:=mA (iB (show IsS113 w0 ((w71.setCell ⟨gb131,0,none⟩ (.int .i64 t103)).setCell ⟨gb131,1,none⟩ (.slice Ao72 y128.length co72)) g s0_0 t110 from by repeat first|(with_reducible first|exact HI0.out|apply iA|apply iN|apply iD|apply iS|refine iF ?_ NB0_101.out _|refine iF ?_ NB0_108.out _|refine iF ?_ NB0_131.out _)|exact HI0.out) hb);have n4_:=mA (kB (g:=gb101) (o:=.cells #[.int .i64 0,.slice none 0 0] 36 (0,0)) (by (with_reducible repeat first|refine kN ?_ _|refine kD ?_|refine kA ?_ _);refine kZ ?_ NB101_131.out _;(with_reducible repeat first|refine kN ?_ _|refine kD ?_|refine kA ?_ _);refine kZ ?_ NB101_131.out _;(with_reducible repeat first|refine kN ?_ _|refine kD ?_|refine kA ?_ _);exact BK101.out) hb);have n5_:=mA (kB (g:=gb108) (o:=.cells #[.int .i64 t103,.slice Ao59 t104.length co59] 36 (0,0)) (by (with_reducible repeat first|refine kN ?_ _|refine kD ?_|refine kA ?_ _);refine kZ ?_ NB108_131.out _;(with_reducible repeat first|refine kN ?_ _|refine kD ?_|refine kA ?_ _);refine kZ ?_ NB108_131.out _;(with_reducible repeat first|refine kN ?_ _|refine kD ?_|refine kA ?_ _);exact BK108.out) hb);have n6_:=mA (kB (g:=gb131) (o:=.cells #[.int .i64 t103,.slice Ao72 y128.length co72] 36 (0,0)) (by (with_reducible repeat first|refine kN ?_ _|refine kD ?_|refine kA ?_ _);refine kP (cs:=#[.int .i64 t103,.slice none 0 0]) ?_ 1 _ rfl;(with_reducible repeat first|refine kN ?_ _|refine kD ?_|refine kA ?_ _);refine kP (cs:=#[.int .i64 0,.slice none 0 0]) ?_ 0 _ rfl;(with_reducible repeat first|refine kN ?_ _|refine kD ?_|refine kA ?_ _);exact BK131.out) hb);have n7_:=mA (eT (by repeat first|(with_reducible first|exact HK.out|apply eS|apply eN|apply eD|apply eA|refine eF ?_ GW101.out _|refine eF ?_ GW108.out _|refine eF ?_ GW131.out _)|exact HK.out) (eB hb g none) (.inl rfl));have n8_:=mA (bT (by repeat first|(with_reducible first|exact HB.out|apply bA|apply bN|apply bD|refine bS ?_ (iG HI0.out)|refine bS ?_ GE101.out|refine bS ?_ GE108.out|refine bS ?_ GE131.out)|exact HB.out) hb);clear HO106 HO127 HO130 HI0 BK101 BK108 BK131 HK HB;have HO106:=n0_;have HO127:=n1_;have HO130:=n2_;have HI0:=n3_;have BK101:=n4_;have BK108:=n5_;have BK131:=n6_;have HK:=n7_;have HB:=n8_;clear n0_ n1_ n2_ n3_ n4_ n5_ n6_ n7_ n8_;(try clear hb);(try clear hb2);(try clear hk);(try clear hi)))
  have n0_:=mA (rD HO106.out)
  have n1_:=mA (rD HO127.out)
  have n2_:=mA (rD HO130.out)
  have n3_:=mA (kD BK101.out)
  have n4_:=mA (kD BK108.out)
  have n5_:=mA (kD BK131.out)
  have n6_:=mA (iD HI0.out)
  have n7_:=mA (eD HK.out)
  have n8_:=mA (bD HB.out)
  clear HO106 HO127 HO130 BK101 BK108 BK131 HI0 HK HB
  have HO106:=n0_;have HO127:=n1_;have HO130:=n2_;have BK101:=n3_;have BK108:=n4_;have BK131:=n5_;have HI0:=n6_;have HK:=n7_;have HB:=n8_
  clear n0_ n1_ n2_ n3_ n4_ n5_ n6_ n7_ n8_
  refine start_ (n:=4) (S:=fun w'=>w'.cell? ⟨gb108,0,none⟩=some (.int .i64 t103)∧w'.cell? ⟨gb108,1,none⟩=some (.slice Ao59 t104.length co59)) (ds:=[]) #[O,O,O,O] (by kernel_rfl) rfl rfl ⟨(kC BK108.out 0).trans rfl,(kC BK108.out 1).trans rfl⟩ (fun hHeld=>?_)
  generalize w109.drew=w110 at HO106 HO127 HO130 BK101 BK108 BK131 HI0 HK HB hHeld ⊢
  refine pure_ (i:=0) (N:=some 53) (v:=?_) (a':=?_) #[I,O,O,O] rfl rfl (by kernel_rfl) (fun _ _ _ h=>h) (Or.inl ⟨by rfl,?_⟩) ?_ ?_
  rotate_left
  ·intro w'
   go_simp
   with_reducible rfl
  rotate_left
  ·simp only [Act.put,sA,sZ,sS,i64_w,i32_w]
   rfl
  refine pure_ (i:=2) (N:=some 2) (v:=?_) (a':=?_) #[I,O,I,O] rfl rfl (by kernel_rfl) (fun _ _ _ h=>h) (Or.inl ⟨by rfl,?_⟩) ?_ ?_
  rotate_left
  ·intro w'
   go_simp
   with_reducible rfl
  rotate_left
  ·simp only [Act.put,sA,sZ,sS,i64_w,i32_w]
   rfl
  refine take_ (i:=1) (N:=some 54) (v:=?_) (a':=?_) #[I,I,I,O] rfl rfl (by kernel_rfl) (fun _ _ _ h=>h) (Or.inl ⟨by rfl,?_⟩) hHeld ?_ ?_
  rotate_left
  ·rintro w' ⟨s0,s1⟩
   go_simp
   with_reducible rfl
  rotate_left
  ·simp only [Act.put,sA,sZ,sS,i64_w,i32_w]
   rfl
  refine one_ (i:=3) (N:=none) #[I,I,I,I] rfl rfl (by kernel_rfl) (by decide) (fun K hK=>?_)
  have hs111:w110.cell? ⟨gb101,0,none⟩=some (.int .i64 0):=(kC BK101.out 0).trans rfl
  have hfs111:=kF BK101.out 0
  have hns111_1:=NB108_101.out
  have hns111_2:=NB131_101.out
  have hms111_1:=NB101_108.out
  have hms111_2:=NB101_131.out
  have hs112:w110.cell? ⟨gb101,1,none⟩=some (.slice none 0 0):=(kC BK101.out 1).trans rfl
  have hfs112:=kF BK101.out 1
  have hns112_1:=NB108_101.out
  have hns112_2:=NB131_101.out
  have hms112_1:=NB101_108.out
  have hms112_2:=NB101_131.out
  refine skip_ (w1:=?_) (by rfl) rfl ?_ ?_
  rotate_left
  ·go_simp
   rfl
  refine hK.out _ _ ⟨((cell_far (p:=⟨gb101,_,none⟩) NB108_101.out _).trans (((cell_far (p:=⟨gb101,_,none⟩) NB108_101.out _).trans (hHeld.1)))),((cell_far (p:=⟨gb101,_,none⟩) NB108_101.out _).trans (((cell_far (p:=⟨gb101,_,none⟩) NB108_101.out _).trans (hHeld.2))))⟩ (fun hHeld=>?_)
  clear hK K
  refine done_ (by kernel_rfl) ?_
  try go_wp2
  refine bodyPost_ret (results_tc rfl _ _ gb101 36 #[.int .i64 t103,.slice Ao59 t104.length co59] (0,0) _ rfl (by (with_reducible repeat first|refine kN ?_ _|refine kD ?_|refine kA ?_ _);refine kP (cs:=#[.int .i64 t103,.slice none 0 0]) ?_ 1 _ rfl;(with_reducible repeat first|refine kN ?_ _|refine kD ?_|refine kA ?_ _);refine kP (cs:=#[.int .i64 0,.slice none 0 0]) ?_ 0 _ rfl;(with_reducible repeat first|refine kN ?_ _|refine kD ?_|refine kA ?_ _);exact BK101.out) Try.underlying36 rfl (by kernel_rfl)) rfl ?_
  exact ⟨_,by first|rfl|(simp [errW_none,errW_some]<;>rfl)|(simp [*, errW_none,errW_some]<;>rfl),by (with_reducible repeat first|apply rA|apply rN|apply rD);exact rM (rF (p:=⟨gb101,1,none⟩) (rF (p:=⟨gb101,0,none⟩) (rY HO106.out BK101.out (by decide)) (fun _ hk=>hk.2) (.int .i64 t103)) (fun _ hk=>hk.2) (.slice Ao59 t104.length co59)) (fun _ hk=>trivial),by repeat (first|(with_reducible first|exact HI0.out|apply iA|apply iN|apply iD|apply iS|refine iF ?_ NB0_101.out _|refine iF ?_ NB0_108.out _|refine iF ?_ NB0_131.out _)|exact HI0.out),by repeat (first|(with_reducible first|exact HB.out|apply bA|apply bN|apply bD|refine bS ?_ (iG HI0.out)|refine bS ?_ GE101.out|refine bS ?_ GE108.out|refine bS ?_ GE131.out)|exact HB.out),by repeat (first|(with_reducible first|exact HK.out|apply eS|apply eN|apply eD|apply eA|refine eF ?_ GW101.out _|refine eF ?_ GW108.out _|refine eF ?_ GW131.out _)|exact HK.out)⟩
end Go.Proofs.Ytpampekijfjlkab.X
