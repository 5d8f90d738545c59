/- Joined by a program of this session's: X306. -/
import Derived.Test.YtpampekijfjlkabGa4ed4a3048
import Derived.Test.YtpampekijfjlkabGe4d161c943
import Derived.Test.YtpampekijfjlkabG37845066d4
import Derived.Test.YtpampekijfjlkabG852afbd604

namespace Go.Proofs.Ytpampekijfjlkab.X
open Go.RowKit Go.Proofs.YtpampekijfjlkabW.PrintWords Go.Proofs.YtpampekijfjlkabW.PrintLast Go.Proofs.YtpampekijfjlkabW.PrintMore
open Go.Proofs.YtpampekijfjlkabW.PrintWords renaming Aside0.mk → mA, pw_below_drewN → bN, below_drew1 → bD, below_alloc → bA, below_set → bS, blk_alloc → kA, blk_drewN → kN, blk_drew → kD, blk_cell → kC, blk_frozen → kF, below_step → bT, Kd.R_alloc → rA, Kd.R_drewN → rN, Kd.R_drew → rD, Kd.R_mono → rM, Kd.R_far → rF, Kd.R_lt → rL, Kd.R_below → rB, KeepBut.set_ → eS, keep_drewN → eN, keep_alloc → eA, keep_drew → eD, keep_far → eF, KeepBut.trans → eT, KeepBut.of_below → eB, keep_size → eZ, Kd.R_elder' → rE, Kd.R_lower → rW, Kd.R_new' → rQ, Kd.R_types → rY, blk_put → kP, blk_far → kZ, blk_below → kB, blk_lt → kL
open Go.Proofs.Ytpampekijfjlkab.X renaming IsS113.alloc → iA, IsS113.drewN → iN, IsS113.drew → iD, IsS113.set_1 → iS, IsS113.far → iF, IsS113.ge → iG, IsS113.below → iB, IsS113.lt → iL, IsS113.apart → iP
open List renaming setIfInBounds_toArray → sA, set_cons_zero → sZ, set_cons_succ → sS, length_take → lT, length_drop → lD, map_toArray → mT, map_cons → mC, map_nil → mN
open Bool renaming true → I, false → O
attribute [local go_sem] max2_int min2_int max_two min_two max_three min_three max_four min_four   -- for this text's walks alone
set_option linter.unusedVariables false
set_option linter.unusedSimpArgs false
set_option maxHeartbeats 8000000 in
set_option maxRecDepth 100000 in
theorem spec_l20Odd.way12 (k:Nat) (g:Nat) (s0_0:List Int) (s0_1:Int) (t102 t103:Int) (t104:List (S33)) (t107 t109 t110:Int) (t111 t112 t113:Int) (t114:List (S33)) (bq:Bool) (z2:Int) (z3:List (S33)) (w0 w:World) (hI:IsS113 w0 w g s0_0 s0_1) (hB:Below w0.heap.size w0 w) (A20:spec_l20Claimed.f k s0_0 s0_1 12=some (t102,t103,t104,t107)) (A30:spec_l20Rd_pick.f k s0_0 t107 4=some (t109,t110)) (c4:t109=0) (A50:spec_l20Rd_pick.f k s0_0 t110 2=some (t111,t112)) (A60:spec_KindClaim.f k t102 t103 t103 (t111==0)=some (t113,t114,bq)) (hz2:(if bq=true then t113 else t103)=z2) (hz3:(if bq=true then t114 else t104)=z3) :
  Calls Try.prog 132 #[.pointer (some ⟨g,0,none⟩)] w fun e w'=>∃ v2_:Value,e = .returned (.tuple #[.int .i64 t102,.agg #[.int .i64 z2,v2_]])∧Kd.R k33 33 w' w.heap.size (fun _=>True) v2_ z3∧IsS113 w0 w' g s0_0 t112∧Below w0.heap.size w0 w'∧KeepBut w w' g none:=by
 have hu36:=Try.underlying36
 have hu33:=Try.underlying33
 have HI0:=mA hI
 have HK:=mA (KeepBut.refl w g none)
 have HL:=mA hB.size
 clear hI
 have HW0:=mA hB.size
 have HB:=mA hB
 clear hB
 have A2:=mA A20
 clear A20
 have A3:=mA A30
 clear A30
 have c4b0:(t109==0)=true:=beq_iff_eq.mpr c4
 have c4b1:(t109 != 0)=false:=bne_eq_false_iff_eq.mpr c4
 clear c4
 have A5:=mA A50
 clear A50
 have A6:=mA A60
 clear A60
 have HZ2:=mA hz2
 clear hz2
 have HZ3:=mA hz3
 clear hz3
 go_enter Try.func132,Try.ntmps132
 try go_wp2_with (first|((with_reducible refine gate_dst (N:=3) rfl ?_);refine box_event ?hg (N:=3) ?hd (cs:=#[.int .i64 0,.slice none 0 0]) (t:=36) ?hr ?_;(case hd=>rfl);(case hg=>rfl);(case hr=>first|(go_simp;done)|(go_simp;rfl));intro gb101 hg w8 hbox hb;have n0_:=mA (iB (by repeat first|(with_reducible first|exact HI0.out|apply iA|apply iN|apply iD|apply iS)|exact HI0.out) hb);have n1_:=mA (eT (by repeat first|(with_reducible first|exact HK.out|apply eS|apply eN|apply eD|apply eA)|exact HK.out) (eB hb g none) (.inl rfl));have n2_:=mA (bT (by repeat first|(with_reducible first|exact HB.out|apply bA|apply bN|apply bD|refine bS ?_ (iG HI0.out))|exact HB.out) hb);have n3_:=mA (hbox);have n4_:=mA ((by rw [hg];exact (eZ (w:=w) (g:=g) (row:=none) (by repeat first|(with_reducible first|exact HK.out|apply eS|apply eN|apply eD|apply eA)|exact HK.out)):w.heap.size≤gb101));have n5_:=mA ((Nat.le_trans HW0.out (by rw [hg];exact (eZ (w:=w) (g:=g) (row:=none) (by repeat first|(with_reducible first|exact HK.out|apply eS|apply eN|apply eD|apply eA)|exact HK.out)):w.heap.size≤gb101):w0.heap.size≤gb101));have n6_:=mA ((by rw [hg];exact Nat.ne_of_lt (iL (show IsS113 w0 _ g s0_0 s0_1 from by repeat first|(with_reducible first|exact HI0.out|apply iA|apply iN|apply iD|apply iS)|exact HI0.out)):g≠gb101));have n7_:=mA ((by rw [hg];exact Nat.ne_of_gt (iL (show IsS113 w0 _ g s0_0 s0_1 from by repeat first|(with_reducible first|exact HI0.out|apply iA|apply iN|apply iD|apply iS)|exact HI0.out)):gb101≠g));clear HI0 HK HB;have HI0:=n0_;have HK:=n1_;have HB:=n2_;have BK101:=n3_;have GW101:=n4_;have GE101:=n5_;have NB0_101:=n6_;have NB101_0:=n7_;clear n0_ n1_ n2_ n3_ n4_ n5_ n6_ n7_ hb hbox hg)|((with_reducible refine gate_callee (f:=107) rfl ?_);refine goesL_ (some 11) rfl rfl Try.func107 (by kernel_rfl) rfl #[.pointer (some ⟨g,0,none⟩),.int .i64 12] rfl (by (try simp only [mT,mC,mN]);first|done|rfl|(simp only [lD,lT];rfl)) ?_;(with_reducible refine (spec_l20Claimed.calls k g s0_0 s0_1 12 t102 t103 t104 t107 w0 _ ?side1 ?side2 A2.out).mono ?_);(case side1=>repeat first|(with_reducible first|exact HI0.out|apply iA|apply iN|apply iD|apply iS|refine iF ?_ NB0_101.out _)|exact HI0.out);(case side2=>repeat first|(with_reducible first|exact HB.out|apply bA|apply bN|apply bD|refine bS ?_ (iG HI0.out)|refine bS ?_ GE101.out)|exact HB.out);rintro e w9 ⟨v105,rfl,ho0,hi,hb,hk⟩;refine ⟨_,rfl,?_⟩;have n0_:=mA (KeepBut.blk hk (g':=gb101) (o:=.cells #[.int .i64 0,.slice none 0 0] 36 (0,0)) (by (with_reducible repeat first|refine kN ?_ _|refine kD ?_|refine kA ?_ _);exact BK101.out) NB101_0.out (by simp));have n1_:=mA (rW ho0 (eZ (w:=w) (g:=g) (row:=none) (by repeat first|(with_reducible first|exact HK.out|apply eS|apply eN|apply eD|apply eA|refine eF ?_ GW101.out _)|exact HK.out)));have n2_:=mA (eT (by repeat first|(with_reducible first|exact HK.out|apply eS|apply eN|apply eD|apply eA|refine eF ?_ GW101.out _)|exact HK.out) hk (.inl rfl));have n3_:=mA (hb);have n4_:=mA (hi);clear BK101 HK HB HI0;have BK101:=n0_;have HO106:=n1_;have HK:=n2_;have HB:=n3_;have HI0:=n4_;clear n0_ n1_ n2_ n3_ n4_;(try clear hb);(try clear hb2);(try clear hk);(try clear hi);(try clear ho0))|((with_reducible refine gate_dst (N:=5) rfl ?_);refine box_event ?hg (N:=5) ?hd (cs:=#[.int .i64 0,.slice none 0 0]) (t:=36) ?hr ?_;(case hd=>rfl);(case hg=>rfl);(case hr=>first|(go_simp;done)|(go_simp;rfl));intro gb108 hg w10 hbox hb;have n0_:=mA (rB (by (with_reducible repeat first|apply rA|apply rN|apply rD);exact HO106.out) hb);have n1_:=mA (iB (by repeat first|(with_reducible first|exact HI0.out|apply iA|apply iN|apply iD|apply iS|refine iF ?_ NB0_101.out _)|exact HI0.out) hb);have n2_:=mA (kB (g:=gb101) (o:=.cells #[.int .i64 0,.slice none 0 0] 36 (0,0)) (by (with_reducible repeat first|refine kN ?_ _|refine kD ?_|refine kA ?_ _);exact BK101.out) hb);have n3_:=mA (eT (by repeat first|(with_reducible first|exact HK.out|apply eS|apply eN|apply eD|apply eA|refine eF ?_ GW101.out _)|exact HK.out) (eB hb g none) (.inl rfl));have n4_:=mA (bT (by repeat first|(with_reducible first|exact HB.out|apply bA|apply bN|apply bD|refine bS ?_ (iG HI0.out)|refine bS ?_ GE101.out)|exact HB.out) hb);have n5_:=mA (hbox);have n6_:=mA ((by rw [hg];exact (eZ (w:=w) (g:=g) (row:=none) (by repeat first|(with_reducible first|exact HK.out|apply eS|apply eN|apply eD|apply eA|refine eF ?_ GW101.out _)|exact HK.out)):w.heap.size≤gb108));have n7_:=mA ((Nat.le_trans HW0.out (by rw [hg];exact (eZ (w:=w) (g:=g) (row:=none) (by repeat first|(with_reducible first|exact HK.out|apply eS|apply eN|apply eD|apply eA|refine eF ?_ GW101.out _)|exact HK.out)):w.heap.size≤gb108):w0.heap.size≤gb108));have n8_:=mA ((by rw [hg];exact Nat.ne_of_lt (kL (g:=gb101) (o:=.cells #[.int .i64 0,.slice none 0 0] 36 (0,0)) (by (with_reducible repeat first|refine kN ?_ _|refine kD ?_|refine kA ?_ _);exact BK101.out)):gb101≠gb108));have n9_:=mA ((by rw [hg];exact Nat.ne_of_gt (kL (g:=gb101) (o:=.cells #[.int .i64 0,.slice none 0 0] 36 (0,0)) (by (with_reducible repeat first|refine kN ?_ _|refine kD ?_|refine kA ?_ _);exact BK101.out)):gb108≠gb101));have n10_:=mA ((by rw [hg];exact Nat.ne_of_lt (iL (show IsS113 w0 _ g s0_0 t107 from by repeat first|(with_reducible first|exact HI0.out|apply iA|apply iN|apply iD|apply iS|refine iF ?_ NB0_101.out _)|exact HI0.out)):g≠gb108));have n11_:=mA ((by rw [hg];exact Nat.ne_of_gt (iL (show IsS113 w0 _ g s0_0 t107 from by repeat first|(with_reducible first|exact HI0.out|apply iA|apply iN|apply iD|apply iS|refine iF ?_ NB0_101.out _)|exact HI0.out)):gb108≠g));clear HO106 HI0 BK101 HK HB;have HO106:=n0_;have HI0:=n1_;have BK101:=n2_;have HK:=n3_;have HB:=n4_;have BK108:=n5_;have GW108:=n6_;have GE108:=n7_;have NB101_108:=n8_;have NB108_101:=n9_;have NB0_108:=n10_;have NB108_0:=n11_;clear n0_ n1_ n2_ n3_ n4_ n5_ n6_ n7_ n8_ n9_ n10_ n11_ hb hbox hg;have hnb11:=NB108_101.out;have hnc11:=NB101_108.out;have hnb12:=NB108_0.out;have hnc12:=NB0_108.out;have hcz13_0:w10.cell? ⟨gb108,0,none⟩=some (.int .i64 0):=(kC BK108.out 0).trans rfl;have hcz13_1:w10.cell? ⟨gb108,1,none⟩=some (.slice none 0 0):=(kC BK108.out 1).trans rfl;have hfz13_0:=kF BK108.out 0;have hfz13_1:=kF BK108.out 1;obtain ⟨Ao14,co14,eo14⟩:=Kd.R_slice HO106.out;subst eo14)|((with_reducible refine gate_callee (f:=108) rfl ?_);refine goesL_ (some 15) rfl rfl Try.func108 (by kernel_rfl) rfl #[.pointer (some ⟨g,0,none⟩),.int .i64 4] rfl (by (try simp only [mT,mC,mN]);first|done|rfl|(simp only [lD,lT];rfl)) ?_;(with_reducible refine (spec_l20Rd_pick.calls k g s0_0 t107 4 t109 t110 w0 _ ?side1 ?side2 A3.out).mono ?_);(case side1=>repeat first|(with_reducible first|exact HI0.out|apply iA|apply iN|apply iD|apply iS|refine iF ?_ NB0_101.out _|refine iF ?_ NB0_108.out _)|exact HI0.out);(case side2=>repeat first|(with_reducible first|exact HB.out|apply bA|apply bN|apply bD|refine bS ?_ (iG HI0.out)|refine bS ?_ GE101.out|refine bS ?_ GE108.out)|exact HB.out);rintro e w15 ⟨rfl,hi,hb,hk⟩;refine ⟨_,rfl,?_⟩;have n0_:=mA (KeepBut.blk hk (g':=gb101) (o:=.cells #[.int .i64 0,.slice none 0 0] 36 (0,0)) (by (with_reducible repeat first|refine kN ?_ _|refine kD ?_|refine kA ?_ _);refine kZ ?_ NB101_108.out _;(with_reducible repeat first|refine kN ?_ _|refine kD ?_|refine kA ?_ _);refine kZ ?_ NB101_108.out _;(with_reducible repeat first|refine kN ?_ _|refine kD ?_|refine kA ?_ _);exact BK101.out) NB101_0.out (by simp));have n1_:=mA (rM (Kd.R_keep (iP (show IsS113 w0 _ g s0_0 t107 from by repeat first|(with_reducible first|exact HI0.out|apply iA|apply iN|apply iD|apply iS|refine iF ?_ NB0_101.out _|refine iF ?_ NB0_108.out _)|exact HI0.out) (by (with_reducible repeat first|apply rA|apply rN|apply rD);exact (rM (rF (p:=⟨gb108,1,none⟩) (rF (p:=⟨gb108,0,none⟩) (rY HO106.out BK108.out (by decide)) (fun _ hk=>hk.2) (.int .i64 t103)) (fun _ hk=>hk.2) (.slice Ao14 t104.length co14)) (fun _ h_=>h_.1))) (by decide)) hk (fun _ h=>h.2)) (fun _ h=>h.1));have n2_:=mA (KeepBut.blk hk (g':=gb108) (o:=.cells #[.int .i64 t103,.slice Ao14 t104.length co14] 36 (0,0)) (by (with_reducible repeat first|refine kN ?_ _|refine kD ?_|refine kA ?_ _);refine kP (cs:=#[.int .i64 t103,.slice none 0 0]) ?_ 1 _ rfl;(with_reducible repeat first|refine kN ?_ _|refine kD ?_|refine kA ?_ _);refine kP (cs:=#[.int .i64 0,.slice none 0 0]) ?_ 0 _ rfl;(with_reducible repeat first|refine kN ?_ _|refine kD ?_|refine kA ?_ _);exact BK108.out) NB108_0.out (by simp));have n3_:=mA (eT (by repeat first|(with_reducible first|exact HK.out|apply eS|apply eN|apply eD|apply eA|refine eF ?_ GW101.out _|refine eF ?_ GW108.out _)|exact HK.out) hk (.inl rfl));have n4_:=mA (hb);have n5_:=mA (hi);clear BK101 HO106 BK108 HK HB HI0;have BK101:=n0_;have HO106:=n1_;have BK108:=n2_;have HK:=n3_;have HB:=n4_;have HI0:=n5_;clear n0_ n1_ n2_ n3_ n4_ n5_;(try clear hb);(try clear hb2);(try clear hk);(try clear hi)))
 have n0_:=mA (rD HO106.out)
 have n1_:=mA (kD BK101.out)
 have n2_:=mA (kD BK108.out)
 have n3_:=mA (iD HI0.out)
 have n4_:=mA (eD HK.out)
 have n5_:=mA (bD HB.out)
 clear HO106 BK101 BK108 HI0 HK HB
 have HO106:=n0_;have BK101:=n1_;have BK108:=n2_;have HI0:=n3_;have HK:=n4_;have HB:=n5_
 clear n0_ n1_ n2_ n3_ n4_ n5_
 refine start_ (n:=15) (S:=fun w'=>w'.cell? ⟨gb108,0,none⟩=some (.int .i64 t103)∧w'.cell? ⟨gb108,1,none⟩=some (.slice Ao14 t104.length co14)) (ds:=[]) #[O,O,O,O,O,O,O,O,O,O,O,O,O,O,O] (by kernel_rfl) rfl rfl ⟨(kC BK108.out 0).trans rfl,(kC BK108.out 1).trans rfl⟩ (fun hHeld=>?_);refine with_tabW spec_l20Odd.tab4 spec_l20Odd.bits4 (fun HT_ HW_=>?_)
 generalize w15.drew=w16 at HO106 BK101 BK108 HI0 HK HB hHeld ⊢
 refine pure_ (i:=0) (N:=some 19) (v:=?_) (a':=?_) #[I,O,O,O,O,O,O,O,O,O,O,O,O,O,O] rfl rfl (any_of HT_.out (by kernel_rfl)) (fun _ _ _ h=>h) (Or.inl ⟨by rfl,?_⟩) ?_ ?_
 rotate_left
 ·intro w'
  go_simp
  with_reducible rfl
 rotate_left
 ·simp only [Act.put,sA,sZ,sS,i64_w,i32_w]
  rfl
 refine pure_ (i:=1) (N:=some 20) (v:=?_) (a':=?_) #[I,I,O,O,O,O,O,O,O,O,O,O,O,O,O] rfl rfl (any_of HT_.out (by kernel_rfl)) (fun _ _ _ h=>h) (Or.inl ⟨by rfl,?_⟩) ?_ ?_
 rotate_left
 ·intro w'
  go_simp
  with_reducible rfl
 rotate_left
 ·simp only [Act.put,sA,sZ,sS,i64_w,i32_w]
  rfl
 refine pure_ (i:=3) (N:=some 22) (v:=?_) (a':=?_) #[I,I,O,I,O,O,O,O,O,O,O,O,O,O,O] rfl rfl (any_of HT_.out (by kernel_rfl)) (fun _ _ _ h=>h) (Or.inl ⟨by rfl,?_⟩) ?_ ?_
 rotate_left
 ·intro w'
  go_simp
  with_reducible rfl
 rotate_left
 ·simp only [Act.put,sA,sZ,sS,i64_w,i32_w]
  rfl
 refine pure_ (i:=5) (N:=some 24) (v:=?_) (a':=?_) #[I,I,O,I,O,I,O,O,O,O,O,O,O,O,O] rfl rfl (any_of HT_.out (by kernel_rfl)) (fun _ _ _ h=>h) (Or.inl ⟨by rfl,?_⟩) ?_ ?_
 rotate_left
 ·intro w'
  go_simp
  with_reducible rfl
 rotate_left
 ·simp only [Act.put,sA,sZ,sS,i64_w,i32_w]
  rfl
 refine take_ (i:=2) (N:=some 21) (v:=?_) (a':=?_) #[I,I,I,I,O,I,O,O,O,O,O,O,O,O,O] rfl rfl (take_ofW HT_.out HW_.out (by kernel_rfl)) (fun _ _ _ h=>h) (Or.inl ⟨by rfl,?_⟩) hHeld ?_ ?_
 rotate_left
 ·rintro w' ⟨s0,s1⟩
  go_simp
  with_reducible rfl
 rotate_left
 ·simp only [Act.put,sA,sZ,sS,i64_w,i32_w]
  rfl
 refine take_ (i:=4) (N:=some 23) (v:=?_) (a':=?_) #[I,I,I,I,I,I,O,O,O,O,O,O,O,O,O] rfl rfl (take_ofW HT_.out HW_.out (by kernel_rfl)) (fun _ _ _ h=>h) (Or.inl ⟨by rfl,?_⟩) hHeld ?_ ?_
 rotate_left
 ·rintro w' ⟨s0,s1⟩
  go_simp
  with_reducible rfl
 rotate_left
 ·simp only [Act.put,sA,sZ,sS,i64_w,i32_w]
  rfl
 refine join_ (σ:=Value×Nat) 2 #[I,I,I,I,I,I,I,I,I,I,I,I,I,O,O] (fun s_=>[(25,.int .i64 t111),(27,.tuple #[.agg #[.int .i64 t113,s_.1],.bool bq]),(6,.pointer (some ⟨s_.2,0,none⟩)),(26,.bool (t111==0)),(18,.tuple #[.agg #[.int .i64 t113,s_.1],.bool bq]),(28,.agg #[.int .i64 t113,s_.1]),(29,.bool bq)]) (fun s_ w'=>(w'.cell? ⟨gb108,0,none⟩=some (.int .i64 t103)∧w'.cell? ⟨gb108,1,none⟩=some (.slice Ao14 t104.length co14))∧(Kd.R k33 33 w' w.heap.size (fun k_=>some k_≠(s_.1:Value).ownBlock) (.slice Ao14 t104.length co14) t104)∧(Kd.R k33 33 w' w.heap.size (fun k_=>some k_≠(.slice Ao14 t104.length co14:Value).ownBlock) s_.1 t114)∧(w'.heap[gb101]?=some (.cells #[.int .i64 0,.slice none 0 0] 36 (0,0)))∧(w'.heap[gb108]?=some (.cells #[.int .i64 t103,.slice Ao14 t104.length co14] 36 (0,0)))∧(w'.heap[s_.2]?=some (.cells #[.int .i64 0,.slice none 0 0] 36 (0,0)))∧(w.heap.size≤s_.2)∧(w0.heap.size≤s_.2)∧(g≠s_.2)∧(s_.2≠g)∧(gb101≠s_.2)∧(s_.2≠gb101)∧(gb108≠s_.2)∧(s_.2≠gb108)∧(IsS113 w0 w' g s0_0 t112)∧(KeepBut w w' g none)∧(Below w0.heap.size w0 w')) ?_ ?_
 rotate_left
 ·intro hCont
  refine two_ (i:=6) (j:=12) (Ni:=some 25) (Nj:=some 6) #[I,I,I,I,I,I,I,O,O,O,O,O,O,O,O] #[I,I,I,I,I,I,O,O,O,O,O,O,I,O,O] rfl rfl rfl rfl (two_of HT_.out (by kernel_rfl)) (by decide) (by decide) (fun K hK=>?_) (fun K hK=>?_)
  ·skip
   refine goes_ Try.func108 (by kernel_rfl) rfl #[.pointer (some ⟨g,0,none⟩),.int .i64 2] (by rfl) rfl rfl (by (try simp only [mT,mC,mN]);first|done|rfl|(simp only [lD,lT];rfl)) ?_
   with_reducible refine (spec_l20Rd_pick.calls k g s0_0 t110 2 t111 t112 w0 _ ?side1 ?side2 A5.out).mono ?_
   (case side1=>repeat first|(with_reducible first|exact HI0.out|apply iA|apply iN|apply iD|apply iS|refine iF ?_ NB0_101.out _|refine iF ?_ NB0_108.out _)|exact HI0.out)
   (case side2=>repeat first|(with_reducible first|exact HB.out|apply bA|apply bN|apply bD|refine bS ?_ (iG HI0.out)|refine bS ?_ GE101.out|refine bS ?_ GE108.out)|exact HB.out)
   rintro e w17 ⟨rfl,hi,hb,hk⟩
   refine ⟨_,rfl,?_⟩
   have n0_:=mA (KeepBut.blk hk (g':=gb101) (o:=.cells #[.int .i64 0,.slice none 0 0] 36 (0,0)) (by (with_reducible repeat first|refine kN ?_ _|refine kD ?_|refine kA ?_ _);exact BK101.out) NB101_0.out (by simp))
   have n1_:=mA (rM (Kd.R_keep (iP (show IsS113 w0 _ g s0_0 t110 from by repeat first|(with_reducible first|exact HI0.out|apply iA|apply iN|apply iD|apply iS|refine iF ?_ NB0_101.out _|refine iF ?_ NB0_108.out _)|exact HI0.out) (by (with_reducible repeat first|apply rA|apply rN|apply rD);exact HO106.out) (by decide)) hk (fun _ h=>h.2)) (fun _ h=>h.1))
   have n2_:=mA (KeepBut.blk hk (g':=gb108) (o:=.cells #[.int .i64 t103,.slice Ao14 t104.length co14] 36 (0,0)) (by (with_reducible repeat first|refine kN ?_ _|refine kD ?_|refine kA ?_ _);exact BK108.out) NB108_0.out (by simp))
   have n3_:=mA (eT (by repeat first|(with_reducible first|exact HK.out|apply eS|apply eN|apply eD|apply eA|refine eF ?_ GW101.out _|refine eF ?_ GW108.out _)|exact HK.out) hk (.inl rfl))
   have n4_:=mA (hb)
   have n5_:=mA (hi)
   clear BK101 HO106 BK108 HK HB HI0
   have BK101:=n0_;have HO106:=n1_;have BK108:=n2_;have HK:=n3_;have HB:=n4_;have HI0:=n5_
   clear n0_ n1_ n2_ n3_ n4_ n5_
   (try clear hb);(try clear hb2);(try clear hk);(try clear hi)
   refine hK.out _ _ ⟨(kC BK108.out 0).trans rfl,(kC BK108.out 1).trans rfl⟩ (fun hHeld=>?_)
   clear hK K
   refine norm_ (a':=?_) ?_ ?_
   rotate_left
   ·show Act.put _ (some 25) _=_
    simp only [Act.put,sA,sZ,sS,i64_w,i32_w]
    rfl
   refine pure_ (i:=7) (N:=some 26) (v:=?_) (a':=?_) #[I,I,I,I,I,I,I,I,O,O,O,O,O,O,O] rfl rfl (any_of HT_.out (by kernel_rfl)) (fun _ _ _ h=>h) (Or.inl ⟨by rfl,?_⟩) ?_ ?_
   rotate_left
   ·intro w'
    go_simp
    with_reducible rfl
   rotate_left
   ·simp only [Act.put,sA,sZ,sS,i64_w,i32_w]
    rfl
   refine two_ (i:=8) (j:=12) (Ni:=some 27) (Nj:=some 6) #[I,I,I,I,I,I,I,I,I,O,O,O,O,O,O] #[I,I,I,I,I,I,I,I,O,O,O,O,I,O,O] rfl rfl rfl rfl (two_of HT_.out (by kernel_rfl)) (by decide) (by decide) (fun K hK=>?_) (fun K hK=>?_)
   ·skip
    refine goes_ Try.func145 (by kernel_rfl) rfl #[.int .i64 t102,.int .i64 t103,.int .i64 t103,.bool (t111==0)] (by rfl) rfl rfl (by (try simp only [mT,mC,mN]);first|done|rfl|(simp only [lD,lT];rfl)) ?_
    with_reducible refine (spec_KindClaim.calls k t102 t103 t103 (t111==0) t113 t114 bq _ A6.out).mono ?_
    rintro e w18 ⟨v115,rfl,ho0,hb⟩
    refine ⟨_,rfl,?_⟩
    have n0_:=mA (rE (by (with_reducible repeat first|apply rA|apply rN|apply rD);exact HO106.out) (Kd.R_base ho0) hb)
    have n1_:=mA (rW (rQ ho0 (rL (by (with_reducible repeat first|apply rA|apply rN|apply rD);exact HO106.out))) (eZ (w:=w) (g:=g) (row:=none) (by repeat first|(with_reducible first|exact HK.out|apply eS|apply eN|apply eD|apply eA|refine eF ?_ GW101.out _|refine eF ?_ GW108.out _)|exact HK.out)))
    have n2_:=mA (iB (by repeat first|(with_reducible first|exact HI0.out|apply iA|apply iN|apply iD|apply iS|refine iF ?_ NB0_101.out _|refine iF ?_ NB0_108.out _)|exact HI0.out) hb)
    have n3_:=mA (kB (g:=gb101) (o:=.cells #[.int .i64 0,.slice none 0 0] 36 (0,0)) (by (with_reducible repeat first|refine kN ?_ _|refine kD ?_|refine kA ?_ _);exact BK101.out) hb)
    have n4_:=mA (kB (g:=gb108) (o:=.cells #[.int .i64 t103,.slice Ao14 t104.length co14] 36 (0,0)) (by (with_reducible repeat first|refine kN ?_ _|refine kD ?_|refine kA ?_ _);exact BK108.out) hb)
    have n5_:=mA (eT (by repeat first|(with_reducible first|exact HK.out|apply eS|apply eN|apply eD|apply eA|refine eF ?_ GW101.out _|refine eF ?_ GW108.out _)|exact HK.out) (eB hb g none) (.inl rfl))
    have n6_:=mA (bT (by repeat first|(with_reducible first|exact HB.out|apply bA|apply bN|apply bD|refine bS ?_ (iG HI0.out)|refine bS ?_ GE101.out|refine bS ?_ GE108.out)|exact HB.out) hb)
    clear HO106 HI0 BK101 BK108 HK HB
    have HO106:=n0_;have HO116:=n1_;have HI0:=n2_;have BK101:=n3_;have BK108:=n4_;have HK:=n5_;have HB:=n6_
    clear n0_ n1_ n2_ n3_ n4_ n5_ n6_
    (try clear hb);(try clear hb2);(try clear hk);(try clear hi);(try clear ho0)
    refine hK.out _ _ ⟨(kC BK108.out 0).trans rfl,(kC BK108.out 1).trans rfl⟩ (fun hHeld=>?_)
    clear hK K
    refine norm_ (a':=?_) ?_ ?_
    rotate_left
    ·show Act.put _ (some 27) _=_
     simp only [Act.put,sA,sZ,sS,i64_w,i32_w]
     rfl
    refine pure_ (i:=9) (N:=some 18) (v:=?_) (a':=?_) #[I,I,I,I,I,I,I,I,I,I,O,O,O,O,O] rfl rfl (any_of HT_.out (by kernel_rfl)) (fun _ _ _ h=>h) (Or.inl ⟨by rfl,?_⟩) ?_ ?_
    rotate_left
    ·intro w'
     go_simp
     with_reducible rfl
    rotate_left
    ·simp only [Act.put,sA,sZ,sS,i64_w,i32_w]
     rfl
    refine pure_ (i:=10) (N:=some 28) (v:=?_) (a':=?_) #[I,I,I,I,I,I,I,I,I,I,I,O,O,O,O] rfl rfl (any_of HT_.out (by kernel_rfl)) (fun _ _ _ h=>h) (Or.inl ⟨by rfl,?_⟩) ?_ ?_
    rotate_left
    ·intro w'
     go_simp
     with_reducible rfl
    rotate_left
    ·simp only [Act.put,sA,sZ,sS,i64_w,i32_w]
     rfl
    refine pure_ (i:=11) (N:=some 29) (v:=?_) (a':=?_) #[I,I,I,I,I,I,I,I,I,I,I,I,O,O,O] rfl rfl (any_of HT_.out (by kernel_rfl)) (fun _ _ _ h=>h) (Or.inl ⟨by rfl,?_⟩) ?_ ?_
    rotate_left
    ·intro w'
     go_simp
     with_reducible rfl
    rotate_left
    ·simp only [Act.put,sA,sZ,sS,i64_w,i32_w]
     rfl
    refine one_ (i:=12) (N:=some 6) #[I,I,I,I,I,I,I,I,I,I,I,I,I,O,O] rfl rfl (one_of HT_.out (by kernel_rfl)) (by decide) (fun K hK=>?_)
    refine box_step ?hg (N:=6) ?hd (cs:=#[.int .i64 0,.slice none 0 0]) (t:=36) ?hr ?_;(case hd=>rfl);(case hg=>rfl);(case hr=>first|(go_simp;done)|(go_simp;rfl))
    intro gb118 hg w19 hbox hb
    have n0_:=mA (rB (by (with_reducible repeat first|apply rA|apply rN|apply rD);exact HO106.out) hb)
    have n1_:=mA (rB (by (with_reducible repeat first|apply rA|apply rN|apply rD);exact HO116.out) hb)
    have n2_:=mA (iB (by repeat first|(with_reducible first|exact HI0.out|apply iA|apply iN|apply iD|apply iS|refine iF ?_ NB0_101.out _|refine iF ?_ NB0_108.out _)|exact HI0.out) hb)
    have n3_:=mA (kB (g:=gb101) (o:=.cells #[.int .i64 0,.slice none 0 0] 36 (0,0)) (by (with_reducible repeat first|refine kN ?_ _|refine kD ?_|refine kA ?_ _);exact BK101.out) hb)
    have n4_:=mA (kB (g:=gb108) (o:=.cells #[.int .i64 t103,.slice Ao14 t104.length co14] 36 (0,0)) (by (with_reducible repeat first|refine kN ?_ _|refine kD ?_|refine kA ?_ _);exact BK108.out) hb)
    have n5_:=mA (eT (by repeat first|(with_reducible first|exact HK.out|apply eS|apply eN|apply eD|apply eA|refine eF ?_ GW101.out _|refine eF ?_ GW108.out _)|exact HK.out) (eB hb g none) (.inl rfl))
    have n6_:=mA (bT (by repeat first|(with_reducible first|exact HB.out|apply bA|apply bN|apply bD|refine bS ?_ (iG HI0.out)|refine bS ?_ GE101.out|refine bS ?_ GE108.out)|exact HB.out) hb)
    have n7_:=mA (hbox)
    have n8_:=mA ((by rw [hg];exact (eZ (w:=w) (g:=g) (row:=none) (by repeat first|(with_reducible first|exact HK.out|apply eS|apply eN|apply eD|apply eA|refine eF ?_ GW101.out _|refine eF ?_ GW108.out _)|exact HK.out)):w.heap.size≤gb118))
    have n9_:=mA ((Nat.le_trans HW0.out (by rw [hg];exact (eZ (w:=w) (g:=g) (row:=none) (by repeat first|(with_reducible first|exact HK.out|apply eS|apply eN|apply eD|apply eA|refine eF ?_ GW101.out _|refine eF ?_ GW108.out _)|exact HK.out)):w.heap.size≤gb118):w0.heap.size≤gb118))
    have n10_:=mA ((by rw [hg];exact Nat.ne_of_lt (kL (g:=gb101) (o:=.cells #[.int .i64 0,.slice none 0 0] 36 (0,0)) (by (with_reducible repeat first|refine kN ?_ _|refine kD ?_|refine kA ?_ _);exact BK101.out)):gb101≠gb118))
    have n11_:=mA ((by rw [hg];exact Nat.ne_of_gt (kL (g:=gb101) (o:=.cells #[.int .i64 0,.slice none 0 0] 36 (0,0)) (by (with_reducible repeat first|refine kN ?_ _|refine kD ?_|refine kA ?_ _);exact BK101.out)):gb118≠gb101))
    have n12_:=mA ((by rw [hg];exact Nat.ne_of_lt (kL (g:=gb108) (o:=.cells #[.int .i64 t103,.slice Ao14 t104.length co14] 36 (0,0)) (by (with_reducible repeat first|refine kN ?_ _|refine kD ?_|refine kA ?_ _);exact BK108.out)):gb108≠gb118))
    have n13_:=mA ((by rw [hg];exact Nat.ne_of_gt (kL (g:=gb108) (o:=.cells #[.int .i64 t103,.slice Ao14 t104.length co14] 36 (0,0)) (by (with_reducible repeat first|refine kN ?_ _|refine kD ?_|refine kA ?_ _);exact BK108.out)):gb118≠gb108))
    have n14_:=mA ((by rw [hg];exact Nat.ne_of_lt (iL (show IsS113 w0 _ g s0_0 t112 from by repeat first|(with_reducible first|exact HI0.out|apply iA|apply iN|apply iD|apply iS|refine iF ?_ NB0_101.out _|refine iF ?_ NB0_108.out _)|exact HI0.out)):g≠gb118))
    have n15_:=mA ((by rw [hg];exact Nat.ne_of_gt (iL (show IsS113 w0 _ g s0_0 t112 from by repeat first|(with_reducible first|exact HI0.out|apply iA|apply iN|apply iD|apply iS|refine iF ?_ NB0_101.out _|refine iF ?_ NB0_108.out _)|exact HI0.out)):gb118≠g))
    clear HO106 HO116 HI0 BK101 BK108 HK HB
    have HO106:=n0_;have HO116:=n1_;have HI0:=n2_;have BK101:=n3_;have BK108:=n4_;have HK:=n5_;have HB:=n6_;have BK118:=n7_;have GW118:=n8_;have GE118:=n9_;have NB101_118:=n10_;have NB118_101:=n11_;have NB108_118:=n12_;have NB118_108:=n13_;have NB0_118:=n14_;have NB118_0:=n15_
    clear n0_ n1_ n2_ n3_ n4_ n5_ n6_ n7_ n8_ n9_ n10_ n11_ n12_ n13_ n14_ n15_ hb hbox hg
    refine hK.out _ _ ⟨(kC BK108.out 0).trans rfl,(kC BK108.out 1).trans rfl⟩ (fun hHeld=>?_)
    clear hK K
    refine norm_ (a':=?_) ?_ ?_
    rotate_left
    ·show Act.put _ (some 6) _=_
     simp only [Act.put,sA,sZ,sS,i64_w,i32_w]
     rfl
    exact norm_ (by simp only [putAll,Act.put,sA,sZ,sS]) (hCont (v115,gb118) _ ⟨hHeld,(by (with_reducible repeat first|apply rA|apply rN|apply rD);exact rM HO106.out (fun _ hk=>hk.2)),(by (with_reducible repeat first|apply rA|apply rN|apply rD);exact rM HO116.out (fun _ hk=>hk.2)),(by (with_reducible repeat first|refine kN ?_ _|refine kD ?_|refine kA ?_ _);exact BK101.out),(by (with_reducible repeat first|refine kN ?_ _|refine kD ?_|refine kA ?_ _);exact BK108.out),(by (with_reducible repeat first|refine kN ?_ _|refine kD ?_|refine kA ?_ _);exact BK118.out),GW118.out,GE118.out,NB0_118.out,NB118_0.out,NB101_118.out,NB118_101.out,NB108_118.out,NB118_108.out,(by repeat first|(with_reducible first|exact HI0.out|apply iA|apply iN|apply iD|apply iS|refine iF ?_ NB0_101.out _|refine iF ?_ NB0_108.out _|refine iF ?_ NB0_118.out _)|exact HI0.out),(by repeat first|(with_reducible first|exact HK.out|apply eS|apply eN|apply eD|apply eA|refine eF ?_ GW101.out _|refine eF ?_ GW108.out _|refine eF ?_ GW118.out _)|exact HK.out),(by repeat first|(with_reducible first|exact HB.out|apply bA|apply bN|apply bD|refine bS ?_ (iG HI0.out)|refine bS ?_ GE101.out|refine bS ?_ GE108.out|refine bS ?_ GE118.out)|exact HB.out)⟩)
   skip
   refine box_step ?hg (N:=6) ?hd (cs:=#[.int .i64 0,.slice none 0 0]) (t:=36) ?hr ?_;(case hd=>rfl);(case hg=>rfl);(case hr=>first|(go_simp;done)|(go_simp;rfl))
   intro gb118 hg w18 hbox hb
   have n0_:=mA (rB (by (with_reducible repeat first|apply rA|apply rN|apply rD);exact HO106.out) hb)
   have n1_:=mA (iB (by repeat first|(with_reducible first|exact HI0.out|apply iA|apply iN|apply iD|apply iS|refine iF ?_ NB0_101.out _|refine iF ?_ NB0_108.out _)|exact HI0.out) hb)
   have n2_:=mA (kB (g:=gb101) (o:=.cells #[.int .i64 0,.slice none 0 0] 36 (0,0)) (by (with_reducible repeat first|refine kN ?_ _|refine kD ?_|refine kA ?_ _);exact BK101.out) hb)
   have n3_:=mA (kB (g:=gb108) (o:=.cells #[.int .i64 t103,.slice Ao14 t104.length co14] 36 (0,0)) (by (with_reducible repeat first|refine kN ?_ _|refine kD ?_|refine kA ?_ _);exact BK108.out) hb)
   have n4_:=mA (eT (by repeat first|(with_reducible first|exact HK.out|apply eS|apply eN|apply eD|apply eA|refine eF ?_ GW101.out _|refine eF ?_ GW108.out _)|exact HK.out) (eB hb g none) (.inl rfl))
   have n5_:=mA (bT (by repeat first|(with_reducible first|exact HB.out|apply bA|apply bN|apply bD|refine bS ?_ (iG HI0.out)|refine bS ?_ GE101.out|refine bS ?_ GE108.out)|exact HB.out) hb)
   have n6_:=mA (hbox)
   have n7_:=mA ((by rw [hg];exact (eZ (w:=w) (g:=g) (row:=none) (by repeat first|(with_reducible first|exact HK.out|apply eS|apply eN|apply eD|apply eA|refine eF ?_ GW101.out _|refine eF ?_ GW108.out _)|exact HK.out)):w.heap.size≤gb118))
   have n8_:=mA ((Nat.le_trans HW0.out (by rw [hg];exact (eZ (w:=w) (g:=g) (row:=none) (by repeat first|(with_reducible first|exact HK.out|apply eS|apply eN|apply eD|apply eA|refine eF ?_ GW101.out _|refine eF ?_ GW108.out _)|exact HK.out)):w.heap.size≤gb118):w0.heap.size≤gb118))
   have n9_:=mA ((by rw [hg];exact Nat.ne_of_lt (kL (g:=gb101) (o:=.cells #[.int .i64 0,.slice none 0 0] 36 (0,0)) (by (with_reducible repeat first|refine kN ?_ _|refine kD ?_|refine kA ?_ _);exact BK101.out)):gb101≠gb118))
   have n10_:=mA ((by rw [hg];exact Nat.ne_of_gt (kL (g:=gb101) (o:=.cells #[.int .i64 0,.slice none 0 0] 36 (0,0)) (by (with_reducible repeat first|refine kN ?_ _|refine kD ?_|refine kA ?_ _);exact BK101.out)):gb118≠gb101))
   have n11_:=mA ((by rw [hg];exact Nat.ne_of_lt (kL (g:=gb108) (o:=.cells #[.int .i64 t103,.slice Ao14 t104.length co14] 36 (0,0)) (by (with_reducible repeat first|refine kN ?_ _|refine kD ?_|refine kA ?_ _);exact BK108.out)):gb108≠gb118))
   have n12_:=mA ((by rw [hg];exact Nat.ne_of_gt (kL (g:=gb108) (o:=.cells #[.int .i64 t103,.slice Ao14 t104.length co14] 36 (0,0)) (by (with_reducible repeat first|refine kN ?_ _|refine kD ?_|refine kA ?_ _);exact BK108.out)):gb118≠gb108))
   have n13_:=mA ((by rw [hg];exact Nat.ne_of_lt (iL (show IsS113 w0 _ g s0_0 t112 from by repeat first|(with_reducible first|exact HI0.out|apply iA|apply iN|apply iD|apply iS|refine iF ?_ NB0_101.out _|refine iF ?_ NB0_108.out _)|exact HI0.out)):g≠gb118))
   have n14_:=mA ((by rw [hg];exact Nat.ne_of_gt (iL (show IsS113 w0 _ g s0_0 t112 from by repeat first|(with_reducible first|exact HI0.out|apply iA|apply iN|apply iD|apply iS|refine iF ?_ NB0_101.out _|refine iF ?_ NB0_108.out _)|exact HI0.out)):gb118≠g))
   clear HO106 HI0 BK101 BK108 HK HB
   have HO106:=n0_;have HI0:=n1_;have BK101:=n2_;have BK108:=n3_;have HK:=n4_;have HB:=n5_;have BK118:=n6_;have GW118:=n7_;have GE118:=n8_;have NB101_118:=n9_;have NB118_101:=n10_;have NB108_118:=n11_;have NB118_108:=n12_;have NB0_118:=n13_;have NB118_0:=n14_
   clear n0_ n1_ n2_ n3_ n4_ n5_ n6_ n7_ n8_ n9_ n10_ n11_ n12_ n13_ n14_ hb hbox hg
   refine hK.out _ _ ⟨(kC BK108.out 0).trans rfl,(kC BK108.out 1).trans rfl⟩ (fun hHeld=>?_)
   clear hK K
   refine norm_ (a':=?_) ?_ ?_
   rotate_left
   ·show Act.put _ (some 6) _=_
    simp only [Act.put,sA,sZ,sS,i64_w,i32_w]
    rfl
   refine one_ (i:=8) (N:=some 27) #[I,I,I,I,I,I,I,I,I,O,O,O,I,O,O] rfl rfl (one_of HT_.out (by kernel_rfl)) (by decide) (fun K hK=>?_)
   refine goes_ Try.func145 (by kernel_rfl) rfl #[.int .i64 t102,.int .i64 t103,.int .i64 t103,.bool (t111==0)] (by rfl) rfl rfl (by (try simp only [mT,mC,mN]);first|done|rfl|(simp only [lD,lT];rfl)) ?_
   with_reducible refine (spec_KindClaim.calls k t102 t103 t103 (t111==0) t113 t114 bq _ A6.out).mono ?_
   rintro e w19 ⟨v115,rfl,ho0,hb⟩
   refine ⟨_,rfl,?_⟩
   have n0_:=mA (rE (by (with_reducible repeat first|apply rA|apply rN|apply rD);exact HO106.out) (Kd.R_base ho0) hb)
   have n1_:=mA (rW (rQ ho0 (rL (by (with_reducible repeat first|apply rA|apply rN|apply rD);exact HO106.out))) (eZ (w:=w) (g:=g) (row:=none) (by repeat first|(with_reducible first|exact HK.out|apply eS|apply eN|apply eD|apply eA|refine eF ?_ GW101.out _|refine eF ?_ GW108.out _|refine eF ?_ GW118.out _)|exact HK.out)))
   have n2_:=mA (iB (by repeat first|(with_reducible first|exact HI0.out|apply iA|apply iN|apply iD|apply iS|refine iF ?_ NB0_101.out _|refine iF ?_ NB0_108.out _|refine iF ?_ NB0_118.out _)|exact HI0.out) hb)
   have n3_:=mA (kB (g:=gb101) (o:=.cells #[.int .i64 0,.slice none 0 0] 36 (0,0)) (by (with_reducible repeat first|refine kN ?_ _|refine kD ?_|refine kA ?_ _);exact BK101.out) hb)
   have n4_:=mA (kB (g:=gb108) (o:=.cells #[.int .i64 t103,.slice Ao14 t104.length co14] 36 (0,0)) (by (with_reducible repeat first|refine kN ?_ _|refine kD ?_|refine kA ?_ _);exact BK108.out) hb)
   have n5_:=mA (kB (g:=gb118) (o:=.cells #[.int .i64 0,.slice none 0 0] 36 (0,0)) (by (with_reducible repeat first|refine kN ?_ _|refine kD ?_|refine kA ?_ _);exact BK118.out) hb)
   have n6_:=mA (eT (by repeat first|(with_reducible first|exact HK.out|apply eS|apply eN|apply eD|apply eA|refine eF ?_ GW101.out _|refine eF ?_ GW108.out _|refine eF ?_ GW118.out _)|exact HK.out) (eB hb g none) (.inl rfl))
   have n7_:=mA (bT (by repeat first|(with_reducible first|exact HB.out|apply bA|apply bN|apply bD|refine bS ?_ (iG HI0.out)|refine bS ?_ GE101.out|refine bS ?_ GE108.out|refine bS ?_ GE118.out)|exact HB.out) hb)
   clear HO106 HI0 BK101 BK108 BK118 HK HB
   have HO106:=n0_;have HO116:=n1_;have HI0:=n2_;have BK101:=n3_;have BK108:=n4_;have BK118:=n5_;have HK:=n6_;have HB:=n7_
   clear n0_ n1_ n2_ n3_ n4_ n5_ n6_ n7_
   (try clear hb);(try clear hb2);(try clear hk);(try clear hi);(try clear ho0)
   refine hK.out _ _ ⟨(kC BK108.out 0).trans rfl,(kC BK108.out 1).trans rfl⟩ (fun hHeld=>?_)
   clear hK K
   refine norm_ (a':=?_) ?_ ?_
   rotate_left
   ·show Act.put _ (some 27) _=_
    simp only [Act.put,sA,sZ,sS,i64_w,i32_w]
    rfl
   refine pure_ (i:=9) (N:=some 18) (v:=?_) (a':=?_) #[I,I,I,I,I,I,I,I,I,I,O,O,I,O,O] rfl rfl (any_of HT_.out (by kernel_rfl)) (fun _ _ _ h=>h) (Or.inl ⟨by rfl,?_⟩) ?_ ?_
   rotate_left
   ·intro w'
    go_simp
    with_reducible rfl
   rotate_left
   ·simp only [Act.put,sA,sZ,sS,i64_w,i32_w]
    rfl
   refine pure_ (i:=10) (N:=some 28) (v:=?_) (a':=?_) #[I,I,I,I,I,I,I,I,I,I,I,O,I,O,O] rfl rfl (any_of HT_.out (by kernel_rfl)) (fun _ _ _ h=>h) (Or.inl ⟨by rfl,?_⟩) ?_ ?_
   rotate_left
   ·intro w'
    go_simp
    with_reducible rfl
   rotate_left
   ·simp only [Act.put,sA,sZ,sS,i64_w,i32_w]
    rfl
   refine pure_ (i:=11) (N:=some 29) (v:=?_) (a':=?_) #[I,I,I,I,I,I,I,I,I,I,I,I,I,O,O] rfl rfl (any_of HT_.out (by kernel_rfl)) (fun _ _ _ h=>h) (Or.inl ⟨by rfl,?_⟩) ?_ ?_
   rotate_left
   ·intro w'
    go_simp
    with_reducible rfl
   rotate_left
   ·simp only [Act.put,sA,sZ,sS,i64_w,i32_w]
    rfl
   exact norm_ (by simp only [putAll,Act.put,sA,sZ,sS]) (hCont (v115,gb118) _ ⟨hHeld,(by (with_reducible repeat first|apply rA|apply rN|apply rD);exact rM HO106.out (fun _ hk=>hk.2)),(by (with_reducible repeat first|apply rA|apply rN|apply rD);exact rM HO116.out (fun _ hk=>hk.2)),(by (with_reducible repeat first|refine kN ?_ _|refine kD ?_|refine kA ?_ _);exact BK101.out),(by (with_reducible repeat first|refine kN ?_ _|refine kD ?_|refine kA ?_ _);exact BK108.out),(by (with_reducible repeat first|refine kN ?_ _|refine kD ?_|refine kA ?_ _);exact BK118.out),GW118.out,GE118.out,NB0_118.out,NB118_0.out,NB101_118.out,NB118_101.out,NB108_118.out,NB118_108.out,(by repeat first|(with_reducible first|exact HI0.out|apply iA|apply iN|apply iD|apply iS|refine iF ?_ NB0_101.out _|refine iF ?_ NB0_108.out _|refine iF ?_ NB0_118.out _)|exact HI0.out),(by repeat first|(with_reducible first|exact HK.out|apply eS|apply eN|apply eD|apply eA|refine eF ?_ GW101.out _|refine eF ?_ GW108.out _|refine eF ?_ GW118.out _)|exact HK.out),(by repeat first|(with_reducible first|exact HB.out|apply bA|apply bN|apply bD|refine bS ?_ (iG HI0.out)|refine bS ?_ GE101.out|refine bS ?_ GE108.out|refine bS ?_ GE118.out)|exact HB.out)⟩)
  skip
  refine box_step ?hg (N:=6) ?hd (cs:=#[.int .i64 0,.slice none 0 0]) (t:=36) ?hr ?_;(case hd=>rfl);(case hg=>rfl);(case hr=>first|(go_simp;done)|(go_simp;rfl))
  intro gb118 hg w17 hbox hb
  have n0_:=mA (rB (by (with_reducible repeat first|apply rA|apply rN|apply rD);exact HO106.out) hb)
  have n1_:=mA (iB (by repeat first|(with_reducible first|exact HI0.out|apply iA|apply iN|apply iD|apply iS|refine iF ?_ NB0_101.out _|refine iF ?_ NB0_108.out _)|exact HI0.out) hb)
  have n2_:=mA (kB (g:=gb101) (o:=.cells #[.int .i64 0,.slice none 0 0] 36 (0,0)) (by (with_reducible repeat first|refine kN ?_ _|refine kD ?_|refine kA ?_ _);exact BK101.out) hb)
  have n3_:=mA (kB (g:=gb108) (o:=.cells #[.int .i64 t103,.slice Ao14 t104.length co14] 36 (0,0)) (by (with_reducible repeat first|refine kN ?_ _|refine kD ?_|refine kA ?_ _);exact BK108.out) hb)
  have n4_:=mA (eT (by repeat first|(with_reducible first|exact HK.out|apply eS|apply eN|apply eD|apply eA|refine eF ?_ GW101.out _|refine eF ?_ GW108.out _)|exact HK.out) (eB hb g none) (.inl rfl))
  have n5_:=mA (bT (by repeat first|(with_reducible first|exact HB.out|apply bA|apply bN|apply bD|refine bS ?_ (iG HI0.out)|refine bS ?_ GE101.out|refine bS ?_ GE108.out)|exact HB.out) hb)
  have n6_:=mA (hbox)
  have n7_:=mA ((by rw [hg];exact (eZ (w:=w) (g:=g) (row:=none) (by repeat first|(with_reducible first|exact HK.out|apply eS|apply eN|apply eD|apply eA|refine eF ?_ GW101.out _|refine eF ?_ GW108.out _)|exact HK.out)):w.heap.size≤gb118))
  have n8_:=mA ((Nat.le_trans HW0.out (by rw [hg];exact (eZ (w:=w) (g:=g) (row:=none) (by repeat first|(with_reducible first|exact HK.out|apply eS|apply eN|apply eD|apply eA|refine eF ?_ GW101.out _|refine eF ?_ GW108.out _)|exact HK.out)):w.heap.size≤gb118):w0.heap.size≤gb118))
  have n9_:=mA ((by rw [hg];exact Nat.ne_of_lt (kL (g:=gb101) (o:=.cells #[.int .i64 0,.slice none 0 0] 36 (0,0)) (by (with_reducible repeat first|refine kN ?_ _|refine kD ?_|refine kA ?_ _);exact BK101.out)):gb101≠gb118))
  have n10_:=mA ((by rw [hg];exact Nat.ne_of_gt (kL (g:=gb101) (o:=.cells #[.int .i64 0,.slice none 0 0] 36 (0,0)) (by (with_reducible repeat first|refine kN ?_ _|refine kD ?_|refine kA ?_ _);exact BK101.out)):gb118≠gb101))
  have n11_:=mA ((by rw [hg];exact Nat.ne_of_lt (kL (g:=gb108) (o:=.cells #[.int .i64 t103,.slice Ao14 t104.length co14] 36 (0,0)) (by (with_reducible repeat first|refine kN ?_ _|refine kD ?_|refine kA ?_ _);exact BK108.out)):gb108≠gb118))
  have n12_:=mA ((by rw [hg];exact Nat.ne_of_gt (kL (g:=gb108) (o:=.cells #[.int .i64 t103,.slice Ao14 t104.length co14] 36 (0,0)) (by (with_reducible repeat first|refine kN ?_ _|refine kD ?_|refine kA ?_ _);exact BK108.out)):gb118≠gb108))
  have n13_:=mA ((by rw [hg];exact Nat.ne_of_lt (iL (show IsS113 w0 _ g s0_0 t110 from by repeat first|(with_reducible first|exact HI0.out|apply iA|apply iN|apply iD|apply iS|refine iF ?_ NB0_101.out _|refine iF ?_ NB0_108.out _)|exact HI0.out)):g≠gb118))
  have n14_:=mA ((by rw [hg];exact Nat.ne_of_gt (iL (show IsS113 w0 _ g s0_0 t110 from by repeat first|(with_reducible first|exact HI0.out|apply iA|apply iN|apply iD|apply iS|refine iF ?_ NB0_101.out _|refine iF ?_ NB0_108.out _)|exact HI0.out)):gb118≠g))
  clear HO106 HI0 BK101 BK108 HK HB
  have HO106:=n0_;have HI0:=n1_;have BK101:=n2_;have BK108:=n3_;have HK:=n4_;have HB:=n5_;have BK118:=n6_;have GW118:=n7_;have GE118:=n8_;have NB101_118:=n9_;have NB118_101:=n10_;have NB108_118:=n11_;have NB118_108:=n12_;have NB0_118:=n13_;have NB118_0:=n14_
  clear n0_ n1_ n2_ n3_ n4_ n5_ n6_ n7_ n8_ n9_ n10_ n11_ n12_ n13_ n14_ hb hbox hg
  refine hK.out _ _ ⟨(kC BK108.out 0).trans rfl,(kC BK108.out 1).trans rfl⟩ (fun hHeld=>?_)
  clear hK K
  refine norm_ (a':=?_) ?_ ?_
  rotate_left
  ·show Act.put _ (some 6) _=_
   simp only [Act.put,sA,sZ,sS,i64_w,i32_w]
   rfl
  refine one_ (i:=6) (N:=some 25) #[I,I,I,I,I,I,I,O,O,O,O,O,I,O,O] rfl rfl (one_of HT_.out (by kernel_rfl)) (by decide) (fun K hK=>?_)
  refine goes_ Try.func108 (by kernel_rfl) rfl #[.pointer (some ⟨g,0,none⟩),.int .i64 2] (by rfl) rfl rfl (by (try simp only [mT,mC,mN]);first|done|rfl|(simp only [lD,lT];rfl)) ?_
  with_reducible refine (spec_l20Rd_pick.calls k g s0_0 t110 2 t111 t112 w0 _ ?side1 ?side2 A5.out).mono ?_
  (case side1=>repeat first|(with_reducible first|exact HI0.out|apply iA|apply iN|apply iD|apply iS|refine iF ?_ NB0_101.out _|refine iF ?_ NB0_108.out _|refine iF ?_ NB0_118.out _)|exact HI0.out)
  (case side2=>repeat first|(with_reducible first|exact HB.out|apply bA|apply bN|apply bD|refine bS ?_ (iG HI0.out)|refine bS ?_ GE101.out|refine bS ?_ GE108.out|refine bS ?_ GE118.out)|exact HB.out)
  rintro e w18 ⟨rfl,hi,hb,hk⟩
  refine ⟨_,rfl,?_⟩
  have n0_:=mA (KeepBut.blk hk (g':=gb101) (o:=.cells #[.int .i64 0,.slice none 0 0] 36 (0,0)) (by (with_reducible repeat first|refine kN ?_ _|refine kD ?_|refine kA ?_ _);exact BK101.out) NB101_0.out (by simp))
  have n1_:=mA (rM (Kd.R_keep (iP (show IsS113 w0 _ g s0_0 t110 from by repeat first|(with_reducible first|exact HI0.out|apply iA|apply iN|apply iD|apply iS|refine iF ?_ NB0_101.out _|refine iF ?_ NB0_108.out _|refine iF ?_ NB0_118.out _)|exact HI0.out) (by (with_reducible repeat first|apply rA|apply rN|apply rD);exact HO106.out) (by decide)) hk (fun _ h=>h.2)) (fun _ h=>h.1))
  have n2_:=mA (KeepBut.blk hk (g':=gb108) (o:=.cells #[.int .i64 t103,.slice Ao14 t104.length co14] 36 (0,0)) (by (with_reducible repeat first|refine kN ?_ _|refine kD ?_|refine kA ?_ _);exact BK108.out) NB108_0.out (by simp))
  have n3_:=mA (KeepBut.blk hk (g':=gb118) (o:=.cells #[.int .i64 0,.slice none 0 0] 36 (0,0)) (by (with_reducible repeat first|refine kN ?_ _|refine kD ?_|refine kA ?_ _);exact BK118.out) NB118_0.out (by simp))
  have n4_:=mA (eT (by repeat first|(with_reducible first|exact HK.out|apply eS|apply eN|apply eD|apply eA|refine eF ?_ GW101.out _|refine eF ?_ GW108.out _|refine eF ?_ GW118.out _)|exact HK.out) hk (.inl rfl))
  have n5_:=mA (hb)
  have n6_:=mA (hi)
  clear BK101 HO106 BK108 BK118 HK HB HI0
  have BK101:=n0_;have HO106:=n1_;have BK108:=n2_;have BK118:=n3_;have HK:=n4_;have HB:=n5_;have HI0:=n6_
  clear n0_ n1_ n2_ n3_ n4_ n5_ n6_
  (try clear hb);(try clear hb2);(try clear hk);(try clear hi)
  refine hK.out _ _ ⟨(kC BK108.out 0).trans rfl,(kC BK108.out 1).trans rfl⟩ (fun hHeld=>?_)
  clear hK K
  refine norm_ (a':=?_) ?_ ?_
  rotate_left
  ·show Act.put _ (some 25) _=_
   simp only [Act.put,sA,sZ,sS,i64_w,i32_w]
   rfl
  refine pure_ (i:=7) (N:=some 26) (v:=?_) (a':=?_) #[I,I,I,I,I,I,I,I,O,O,O,O,I,O,O] rfl rfl (any_of HT_.out (by kernel_rfl)) (fun _ _ _ h=>h) (Or.inl ⟨by rfl,?_⟩) ?_ ?_
  rotate_left
  ·intro w'
   go_simp
   with_reducible rfl
  rotate_left
  ·simp only [Act.put,sA,sZ,sS,i64_w,i32_w]
   rfl
  refine one_ (i:=8) (N:=some 27) #[I,I,I,I,I,I,I,I,I,O,O,O,I,O,O] rfl rfl (one_of HT_.out (by kernel_rfl)) (by decide) (fun K hK=>?_)
  refine goes_ Try.func145 (by kernel_rfl) rfl #[.int .i64 t102,.int .i64 t103,.int .i64 t103,.bool (t111==0)] (by rfl) rfl rfl (by (try simp only [mT,mC,mN]);first|done|rfl|(simp only [lD,lT];rfl)) ?_
  with_reducible refine (spec_KindClaim.calls k t102 t103 t103 (t111==0) t113 t114 bq _ A6.out).mono ?_
  rintro e w19 ⟨v115,rfl,ho0,hb⟩
  refine ⟨_,rfl,?_⟩
  have n0_:=mA (rE (by (with_reducible repeat first|apply rA|apply rN|apply rD);exact HO106.out) (Kd.R_base ho0) hb)
  have n1_:=mA (rW (rQ ho0 (rL (by (with_reducible repeat first|apply rA|apply rN|apply rD);exact HO106.out))) (eZ (w:=w) (g:=g) (row:=none) (by repeat first|(with_reducible first|exact HK.out|apply eS|apply eN|apply eD|apply eA|refine eF ?_ GW101.out _|refine eF ?_ GW108.out _|refine eF ?_ GW118.out _)|exact HK.out)))
  have n2_:=mA (iB (by repeat first|(with_reducible first|exact HI0.out|apply iA|apply iN|apply iD|apply iS|refine iF ?_ NB0_101.out _|refine iF ?_ NB0_108.out _|refine iF ?_ NB0_118.out _)|exact HI0.out) hb)
  have n3_:=mA (kB (g:=gb101) (o:=.cells #[.int .i64 0,.slice none 0 0] 36 (0,0)) (by (with_reducible repeat first|refine kN ?_ _|refine kD ?_|refine kA ?_ _);exact BK101.out) hb)
  have n4_:=mA (kB (g:=gb108) (o:=.cells #[.int .i64 t103,.slice Ao14 t104.length co14] 36 (0,0)) (by (with_reducible repeat first|refine kN ?_ _|refine kD ?_|refine kA ?_ _);exact BK108.out) hb)
  have n5_:=mA (kB (g:=gb118) (o:=.cells #[.int .i64 0,.slice none 0 0] 36 (0,0)) (by (with_reducible repeat first|refine kN ?_ _|refine kD ?_|refine kA ?_ _);exact BK118.out) hb)
  have n6_:=mA (eT (by repeat first|(with_reducible first|exact HK.out|apply eS|apply eN|apply eD|apply eA|refine eF ?_ GW101.out _|refine eF ?_ GW108.out _|refine eF ?_ GW118.out _)|exact HK.out) (eB hb g none) (.inl rfl))
  have n7_:=mA (bT (by repeat first|(with_reducible first|exact HB.out|apply bA|apply bN|apply bD|refine bS ?_ (iG HI0.out)|refine bS ?_ GE101.out|refine bS ?_ GE108.out|refine bS ?_ GE118.out)|exact HB.out) hb)
  clear HO106 HI0 BK101 BK108 BK118 HK HB
  have HO106:=n0_;have HO116:=n1_;have HI0:=n2_;have BK101:=n3_;have BK108:=n4_;have BK118:=n5_;have HK:=n6_;have HB:=n7_
  clear n0_ n1_ n2_ n3_ n4_ n5_ n6_ n7_
  (try clear hb);(try clear hb2);(try clear hk);(try clear hi);(try clear ho0)
  refine hK.out _ _ ⟨(kC BK108.out 0).trans rfl,(kC BK108.out 1).trans rfl⟩ (fun hHeld=>?_)
  clear hK K
  refine norm_ (a':=?_) ?_ ?_
  rotate_left
  ·show Act.put _ (some 27) _=_
   simp only [Act.put,sA,sZ,sS,i64_w,i32_w]
   rfl
  refine pure_ (i:=9) (N:=some 18) (v:=?_) (a':=?_) #[I,I,I,I,I,I,I,I,I,I,O,O,I,O,O] rfl rfl (any_of HT_.out (by kernel_rfl)) (fun _ _ _ h=>h) (Or.inl ⟨by rfl,?_⟩) ?_ ?_
  rotate_left
  ·intro w'
   go_simp
   with_reducible rfl
  rotate_left
  ·simp only [Act.put,sA,sZ,sS,i64_w,i32_w]
   rfl
  refine pure_ (i:=10) (N:=some 28) (v:=?_) (a':=?_) #[I,I,I,I,I,I,I,I,I,I,I,O,I,O,O] rfl rfl (any_of HT_.out (by kernel_rfl)) (fun _ _ _ h=>h) (Or.inl ⟨by rfl,?_⟩) ?_ ?_
  rotate_left
  ·intro w'
   go_simp
   with_reducible rfl
  rotate_left
  ·simp only [Act.put,sA,sZ,sS,i64_w,i32_w]
   rfl
  refine pure_ (i:=11) (N:=some 29) (v:=?_) (a':=?_) #[I,I,I,I,I,I,I,I,I,I,I,I,I,O,O] rfl rfl (any_of HT_.out (by kernel_rfl)) (fun _ _ _ h=>h) (Or.inl ⟨by rfl,?_⟩) ?_ ?_
  rotate_left
  ·intro w'
   go_simp
   with_reducible rfl
  rotate_left
  ·simp only [Act.put,sA,sZ,sS,i64_w,i32_w]
   rfl
  exact norm_ (by simp only [putAll,Act.put,sA,sZ,sS]) (hCont (v115,gb118) _ ⟨hHeld,(by (with_reducible repeat first|apply rA|apply rN|apply rD);exact rM HO106.out (fun _ hk=>hk.2)),(by (with_reducible repeat first|apply rA|apply rN|apply rD);exact rM HO116.out (fun _ hk=>hk.2)),(by (with_reducible repeat first|refine kN ?_ _|refine kD ?_|refine kA ?_ _);exact BK101.out),(by (with_reducible repeat first|refine kN ?_ _|refine kD ?_|refine kA ?_ _);exact BK108.out),(by (with_reducible repeat first|refine kN ?_ _|refine kD ?_|refine kA ?_ _);exact BK118.out),GW118.out,GE118.out,NB0_118.out,NB118_0.out,NB101_118.out,NB118_101.out,NB108_118.out,NB118_108.out,(by repeat first|(with_reducible first|exact HI0.out|apply iA|apply iN|apply iD|apply iS|refine iF ?_ NB0_101.out _|refine iF ?_ NB0_108.out _|refine iF ?_ NB0_118.out _)|exact HI0.out),(by repeat first|(with_reducible first|exact HK.out|apply eS|apply eN|apply eD|apply eA|refine eF ?_ GW101.out _|refine eF ?_ GW108.out _|refine eF ?_ GW118.out _)|exact HK.out),(by repeat first|(with_reducible first|exact HB.out|apply bA|apply bN|apply bD|refine bS ?_ (iG HI0.out)|refine bS ?_ GE101.out|refine bS ?_ GE108.out|refine bS ?_ GE118.out)|exact HB.out)⟩)
 rintro ⟨v115,gb118⟩ w20 ⟨hS_,h0_,h1_,h2_,h3_,h4_,h5_,h6_,h7_,h8_,h9_,h10_,h11_,h12_,h13_,h14_,h15_⟩
 have n0_:Aside0 (Kd.R k33 33 w20 w.heap.size (fun k_=>some k_≠(v115:Value).ownBlock) (.slice Ao14 t104.length co14) t104):=⟨h0_⟩
 have n1_:Aside0 (Kd.R k33 33 w20 w.heap.size (fun k_=>some k_≠(.slice Ao14 t104.length co14:Value).ownBlock) v115 t114):=⟨h1_⟩
 have n2_:Aside0 (w20.heap[gb101]?=some (.cells #[.int .i64 0,.slice none 0 0] 36 (0,0))):=⟨h2_⟩
 have n3_:Aside0 (w20.heap[gb108]?=some (.cells #[.int .i64 t103,.slice Ao14 t104.length co14] 36 (0,0))):=⟨h3_⟩
 have n4_:Aside0 (w20.heap[gb118]?=some (.cells #[.int .i64 0,.slice none 0 0] 36 (0,0))):=⟨h4_⟩
 have n5_:Aside0 (w.heap.size≤gb118):=⟨h5_⟩
 have n6_:Aside0 (w0.heap.size≤gb118):=⟨h6_⟩
 have n7_:Aside0 (g≠gb118):=⟨h7_⟩
 have n8_:Aside0 (gb118≠g):=⟨h8_⟩
 have n9_:Aside0 (gb101≠gb118):=⟨h9_⟩
 have n10_:Aside0 (gb118≠gb101):=⟨h10_⟩
 have n11_:Aside0 (gb108≠gb118):=⟨h11_⟩
 have n12_:Aside0 (gb118≠gb108):=⟨h12_⟩
 have n13_:Aside0 (IsS113 w0 w20 g s0_0 t112):=⟨h13_⟩
 have n14_:Aside0 (KeepBut w w20 g none):=⟨h14_⟩
 have n15_:Aside0 (Below w0.heap.size w0 w20):=⟨h15_⟩
 clear HO106 BK101 BK108 HI0 HK HB h0_ h1_ h2_ h3_ h4_ h5_ h6_ h7_ h8_ h9_ h10_ h11_ h12_ h13_ h14_ h15_
 have HO106:=n0_;have HO116:=n1_;have BK101:=n2_;have BK108:=n3_;have BK118:=n4_;have GW118:=n5_;have GE118:=n6_;have NB0_118:=n7_;have NB118_0:=n8_;have NB101_118:=n9_;have NB118_101:=n10_;have NB108_118:=n11_;have NB118_108:=n12_;have HI0:=n13_;have HK:=n14_;have HB:=n15_
 clear n0_ n1_ n2_ n3_ n4_ n5_ n6_ n7_ n8_ n9_ n10_ n11_ n12_ n13_ n14_ n15_
 have hHeld:w20.cell? ⟨gb108,0,none⟩=some (.int .i64 t103)∧w20.cell? ⟨gb108,1,none⟩=some (.slice Ao14 t104.length co14):=hS_
 obtain ⟨Ao22,co22,eo22⟩:=Kd.R_slice HO116.out
 (first|subst eo22|(injection eo22 with f1_ f2_ f3_;have f4_:=f1_.symm;have f5_:=f3_.symm;clear f1_ f2_ f3_;subst f4_;subst f5_))
 refine norm_ (a':=?_) ?_ ?_
 rotate_left
 ·simp only [putAll,Act.put,sA,sZ,sS]
  rfl
 refine one_ (i:=13) (N:=none) #[I,I,I,I,I,I,I,I,I,I,I,I,I,I,O] rfl rfl (one_of HT_.out (by kernel_rfl)) (by decide) (fun K hK=>?_)
 have hs21:w20.cell? ⟨gb118,0,none⟩=some (.int .i64 0):=(kC BK118.out 0).trans rfl
 have hfs21:=kF BK118.out 0
 have hns21_0:=NB101_118.out
 have hns21_1:=NB108_118.out
 have hms21_0:=NB118_101.out
 have hms21_1:=NB118_108.out
 have hs23:w20.cell? ⟨gb118,1,none⟩=some (.slice none 0 0):=(kC BK118.out 1).trans rfl
 have hfs23:=kF BK118.out 1
 have hns23_0:=NB101_118.out
 have hns23_1:=NB108_118.out
 have hms23_0:=NB118_101.out
 have hms23_1:=NB118_108.out
 refine skip_ (w1:=?_) (by rfl) rfl ?_ ?_
 rotate_left
 ·go_simp
  rfl
 refine hK.out _ _ ⟨((cell_far (p:=⟨gb118,_,none⟩) NB108_118.out _).trans (((cell_far (p:=⟨gb118,_,none⟩) NB108_118.out _).trans (hHeld.1)))),((cell_far (p:=⟨gb118,_,none⟩) NB108_118.out _).trans (((cell_far (p:=⟨gb118,_,none⟩) NB108_118.out _).trans (hHeld.2))))⟩ (fun hHeld=>?_)
 clear hK K
 refine pure_ (i:=14) (N:=some 7) (v:=?_) (a':=?_) #[I,I,I,I,I,I,I,I,I,I,I,I,I,I,I] rfl rfl (any_of HT_.out (by kernel_rfl)) (fun _ _ _ h=>h) (Or.inl ⟨by rfl,?_⟩) ?_ ?_
 rotate_left
 ·intro w'
  go_simp
  with_reducible rfl
 rotate_left
 ·simp only [Act.put,sA,sZ,sS,i64_w,i32_w]
  rfl
 refine done_ (done_of HT_.out (by kernel_rfl)) ?_
 cases bq with
 | true =>
  have hz2:=HZ2.out
  have hz3:=HZ3.out
  clear HZ2 HZ3
  replace hz2:=(if_pos rfl).symm.trans hz2
  replace hz3:=(if_pos rfl).symm.trans hz3
  subst hz2
  subst hz3
  try go_wp2
  have n0_:Aside0 (Kd.R k33 33 ((w20.setCell ⟨gb118,0,none⟩ (.int .i64 t113)).setCell ⟨gb118,1,none⟩ (.slice Ao22 t114.length co22)) w.heap.size (fun k_=>some k_≠(.slice Ao22 t114.length co22:Value).ownBlock) (.slice Ao14 t104.length co14) t104):=⟨by (with_reducible repeat first|apply rA|apply rN|apply rD);exact rM (rF (p:=⟨gb118,1,none⟩) (rF (p:=⟨gb118,0,none⟩) (rY HO106.out BK118.out (by decide)) (fun _ hk=>hk.2) (.int .i64 t113)) (fun _ hk=>hk.2) (.slice Ao22 t114.length co22)) (fun _ hk=>hk.1)⟩
  have n1_:Aside0 (Kd.R k33 33 ((w20.setCell ⟨gb118,0,none⟩ (.int .i64 t113)).setCell ⟨gb118,1,none⟩ (.slice Ao22 t114.length co22)) w.heap.size (fun k_=>some k_≠(.slice Ao14 t104.length co14:Value).ownBlock) (.slice Ao22 t114.length co22) t114):=⟨by (with_reducible repeat first|apply rA|apply rN|apply rD);exact rM (rF (p:=⟨gb118,1,none⟩) (rF (p:=⟨gb118,0,none⟩) (rY HO116.out BK118.out (by decide)) (fun _ hk=>hk.2) (.int .i64 t113)) (fun _ hk=>hk.2) (.slice Ao22 t114.length co22)) (fun _ hk=>hk.1)⟩
  have n2_:Aside0 (((w20.setCell ⟨gb118,0,none⟩ (.int .i64 t113)).setCell ⟨gb118,1,none⟩ (.slice Ao22 t114.length co22)).heap[gb101]?=some (.cells #[.int .i64 0,.slice none 0 0] 36 (0,0))):=⟨by (with_reducible repeat first|refine kN ?_ _|refine kD ?_|refine kA ?_ _);refine kZ ?_ NB101_118.out _;(with_reducible repeat first|refine kN ?_ _|refine kD ?_|refine kA ?_ _);refine kZ ?_ NB101_118.out _;(with_reducible repeat first|refine kN ?_ _|refine kD ?_|refine kA ?_ _);exact BK101.out⟩
  have n3_:Aside0 (((w20.setCell ⟨gb118,0,none⟩ (.int .i64 t113)).setCell ⟨gb118,1,none⟩ (.slice Ao22 t114.length co22)).heap[gb108]?=some (.cells #[.int .i64 t103,.slice Ao14 t104.length co14] 36 (0,0))):=⟨by (with_reducible repeat first|refine kN ?_ _|refine kD ?_|refine kA ?_ _);refine kZ ?_ NB108_118.out _;(with_reducible repeat first|refine kN ?_ _|refine kD ?_|refine kA ?_ _);refine kZ ?_ NB108_118.out _;(with_reducible repeat first|refine kN ?_ _|refine kD ?_|refine kA ?_ _);exact BK108.out⟩
  have n4_:Aside0 (((w20.setCell ⟨gb118,0,none⟩ (.int .i64 t113)).setCell ⟨gb118,1,none⟩ (.slice Ao22 t114.length co22)).heap[gb118]?=some (.cells #[.int .i64 t113,.slice Ao22 t114.length co22] 36 (0,0))):=⟨by (with_reducible repeat first|refine kN ?_ _|refine kD ?_|refine kA ?_ _);refine kP (cs:=#[.int .i64 t113,.slice none 0 0]) ?_ 1 _ rfl;(with_reducible repeat first|refine kN ?_ _|refine kD ?_|refine kA ?_ _);refine kP (cs:=#[.int .i64 0,.slice none 0 0]) ?_ 0 _ rfl;(with_reducible repeat first|refine kN ?_ _|refine kD ?_|refine kA ?_ _);exact BK118.out⟩
  have n5_:Aside0 (IsS113 w0 ((w20.setCell ⟨gb118,0,none⟩ (.int .i64 t113)).setCell ⟨gb118,1,none⟩ (.slice Ao22 t114.length co22)) g s0_0 t112):=⟨by repeat (first|(with_reducible first|exact HI0.out|apply iA|apply iN|apply iD|apply iS|refine iF ?_ NB0_101.out _|refine iF ?_ NB0_108.out _|refine iF ?_ NB0_118.out _)|exact HI0.out)⟩
  have n6_:Aside0 (KeepBut w ((w20.setCell ⟨gb118,0,none⟩ (.int .i64 t113)).setCell ⟨gb118,1,none⟩ (.slice Ao22 t114.length co22)) g none):=⟨by repeat (first|(with_reducible first|exact HK.out|apply eS|apply eN|apply eD|apply eA|refine eF ?_ GW101.out _|refine eF ?_ GW108.out _|refine eF ?_ GW118.out _)|exact HK.out)⟩
  have n7_:Aside0 (Below w0.heap.size w0 ((w20.setCell ⟨gb118,0,none⟩ (.int .i64 t113)).setCell ⟨gb118,1,none⟩ (.slice Ao22 t114.length co22))):=⟨by repeat (first|(with_reducible first|exact HB.out|apply bA|apply bN|apply bD|refine bS ?_ (iG HI0.out)|refine bS ?_ GE101.out|refine bS ?_ GE108.out|refine bS ?_ GE118.out)|exact HB.out)⟩
  (try clear HO106);(try clear HO116);(try clear BK101);(try clear BK108);(try clear BK118);(try clear HI0);(try clear HK);(try clear HB)
  generalize ((w20.setCell ⟨gb118,0,none⟩ (.int .i64 t113)).setCell ⟨gb118,1,none⟩ (.slice Ao22 t114.length co22))=w24 at n0_ n1_ n2_ n3_ n4_ n5_ n6_ n7_ ⊢
  have HO106:=n0_;have HO116:=n1_;have BK101:=n2_;have BK108:=n3_;have BK118:=n4_;have HI0:=n5_;have HK:=n6_;have HB:=n7_
  clear n0_ n1_ n2_ n3_ n4_ n5_ n6_ n7_
  have n0_:=mA (rD HO106.out)
  have n1_:=mA (rD HO116.out)
  have n2_:=mA (kD BK101.out)
  have n3_:=mA (kD BK108.out)
  have n4_:=mA (kD BK118.out)
  have n5_:=mA (iD HI0.out)
  have n6_:=mA (eD HK.out)
  have n7_:=mA (bD HB.out)
  clear HO106 HO116 BK101 BK108 BK118 HI0 HK HB
  have HO106:=n0_;have HO116:=n1_;have BK101:=n2_;have BK108:=n3_;have BK118:=n4_;have HI0:=n5_;have HK:=n6_;have HB:=n7_
  clear n0_ n1_ n2_ n3_ n4_ n5_ n6_ n7_
  refine start_ (n:=4) (S:=fun w'=>w'.cell? ⟨gb118,0,none⟩=some (.int .i64 t113)∧w'.cell? ⟨gb118,1,none⟩=some (.slice Ao22 t114.length co22)) (ds:=[]) #[O,O,O,O] (by kernel_rfl) rfl rfl ⟨(kC BK118.out 0).trans rfl,(kC BK118.out 1).trans rfl⟩ (fun hHeld=>?_)
  generalize w24.drew=w25 at HO106 HO116 BK101 BK108 BK118 HI0 HK HB hHeld ⊢
  refine pure_ (i:=0) (N:=some 31) (v:=?_) (a':=?_) #[I,O,O,O] rfl rfl (by kernel_rfl) (fun _ _ _ h=>h) (Or.inl ⟨by rfl,?_⟩) ?_ ?_
  rotate_left
  ·intro w'
   go_simp
   with_reducible rfl
  rotate_left
  ·simp only [Act.put,sA,sZ,sS,i64_w,i32_w]
   rfl
  refine pure_ (i:=2) (N:=some 2) (v:=?_) (a':=?_) #[I,O,I,O] rfl rfl (by kernel_rfl) (fun _ _ _ h=>h) (Or.inl ⟨by rfl,?_⟩) ?_ ?_
  rotate_left
  ·intro w'
   go_simp
   with_reducible rfl
  rotate_left
  ·simp only [Act.put,sA,sZ,sS,i64_w,i32_w]
   rfl
  refine take_ (i:=1) (N:=some 32) (v:=?_) (a':=?_) #[I,I,I,O] rfl rfl (by kernel_rfl) (fun _ _ _ h=>h) (Or.inl ⟨by rfl,?_⟩) hHeld ?_ ?_
  rotate_left
  ·rintro w' ⟨s0,s1⟩
   go_simp
   with_reducible rfl
  rotate_left
  ·simp only [Act.put,sA,sZ,sS,i64_w,i32_w]
   rfl
  refine one_ (i:=3) (N:=none) #[I,I,I,I] rfl rfl (by kernel_rfl) (by decide) (fun K hK=>?_)
  have hs26:w25.cell? ⟨gb101,0,none⟩=some (.int .i64 0):=(kC BK101.out 0).trans rfl
  have hfs26:=kF BK101.out 0
  have hns26_1:=NB108_101.out
  have hns26_2:=NB118_101.out
  have hms26_1:=NB101_108.out
  have hms26_2:=NB101_118.out
  have hs27:w25.cell? ⟨gb101,1,none⟩=some (.slice none 0 0):=(kC BK101.out 1).trans rfl
  have hfs27:=kF BK101.out 1
  have hns27_1:=NB108_101.out
  have hns27_2:=NB118_101.out
  have hms27_1:=NB101_108.out
  have hms27_2:=NB101_118.out
  refine skip_ (w1:=?_) (by rfl) rfl ?_ ?_
  rotate_left
  ·go_simp
   rfl
  refine hK.out _ _ ⟨((cell_far (p:=⟨gb101,_,none⟩) NB118_101.out _).trans (((cell_far (p:=⟨gb101,_,none⟩) NB118_101.out _).trans (hHeld.1)))),((cell_far (p:=⟨gb101,_,none⟩) NB118_101.out _).trans (((cell_far (p:=⟨gb101,_,none⟩) NB118_101.out _).trans (hHeld.2))))⟩ (fun hHeld=>?_)
  clear hK K
  refine done_ (by kernel_rfl) ?_
  try go_wp2
  refine bodyPost_ret (results_tc rfl _ _ gb101 36 #[.int .i64 t113,.slice Ao22 t114.length co22] (0,0) _ rfl (by (with_reducible repeat first|refine kN ?_ _|refine kD ?_|refine kA ?_ _);refine kP (cs:=#[.int .i64 t113,.slice none 0 0]) ?_ 1 _ rfl;(with_reducible repeat first|refine kN ?_ _|refine kD ?_|refine kA ?_ _);refine kP (cs:=#[.int .i64 0,.slice none 0 0]) ?_ 0 _ rfl;(with_reducible repeat first|refine kN ?_ _|refine kD ?_|refine kA ?_ _);exact BK101.out) Try.underlying36 rfl (by kernel_rfl)) rfl ?_
  exact ⟨_,by first|rfl|(simp [errW_none,errW_some]<;>rfl)|(simp [*, errW_none,errW_some]<;>rfl),by (with_reducible repeat first|apply rA|apply rN|apply rD);exact rM (rF (p:=⟨gb101,1,none⟩) (rF (p:=⟨gb101,0,none⟩) (rY HO116.out BK101.out (by decide)) (fun _ hk=>hk.2) (.int .i64 t113)) (fun _ hk=>hk.2) (.slice Ao22 t114.length co22)) (fun _ hk=>trivial),by repeat (first|(with_reducible first|exact HI0.out|apply iA|apply iN|apply iD|apply iS|refine iF ?_ NB0_101.out _|refine iF ?_ NB0_108.out _|refine iF ?_ NB0_118.out _)|exact HI0.out),by repeat (first|(with_reducible first|exact HB.out|apply bA|apply bN|apply bD|refine bS ?_ (iG HI0.out)|refine bS ?_ GE101.out|refine bS ?_ GE108.out|refine bS ?_ GE118.out)|exact HB.out),by repeat (first|(with_reducible first|exact HK.out|apply eS|apply eN|apply eD|apply eA|refine eF ?_ GW101.out _|refine eF ?_ GW108.out _|refine eF ?_ GW118.out _)|exact HK.out)⟩
 | false =>
  have hz2:=HZ2.out
  have hz3:=HZ3.out
  clear HZ2 HZ3
  replace hz2:=(if_neg (show ¬ (false=true) by decide)).symm.trans hz2
  replace hz3:=(if_neg (show ¬ (false=true) by decide)).symm.trans hz3
  subst hz2
  subst hz3
  try go_wp2
  have n0_:Aside0 (Kd.R k33 33 ((w20.setCell ⟨gb118,0,none⟩ (.int .i64 t113)).setCell ⟨gb118,1,none⟩ (.slice Ao22 t114.length co22)) w.heap.size (fun k_=>some k_≠(.slice Ao22 t114.length co22:Value).ownBlock) (.slice Ao14 t104.length co14) t104):=⟨by (with_reducible repeat first|apply rA|apply rN|apply rD);exact rM (rF (p:=⟨gb118,1,none⟩) (rF (p:=⟨gb118,0,none⟩) (rY HO106.out BK118.out (by decide)) (fun _ hk=>hk.2) (.int .i64 t113)) (fun _ hk=>hk.2) (.slice Ao22 t114.length co22)) (fun _ hk=>hk.1)⟩
  have n1_:Aside0 (Kd.R k33 33 ((w20.setCell ⟨gb118,0,none⟩ (.int .i64 t113)).setCell ⟨gb118,1,none⟩ (.slice Ao22 t114.length co22)) w.heap.size (fun k_=>some k_≠(.slice Ao14 t104.length co14:Value).ownBlock) (.slice Ao22 t114.length co22) t114):=⟨by (with_reducible repeat first|apply rA|apply rN|apply rD);exact rM (rF (p:=⟨gb118,1,none⟩) (rF (p:=⟨gb118,0,none⟩) (rY HO116.out BK118.out (by decide)) (fun _ hk=>hk.2) (.int .i64 t113)) (fun _ hk=>hk.2) (.slice Ao22 t114.length co22)) (fun _ hk=>hk.1)⟩
  have n2_:Aside0 (((w20.setCell ⟨gb118,0,none⟩ (.int .i64 t113)).setCell ⟨gb118,1,none⟩ (.slice Ao22 t114.length co22)).heap[gb101]?=some (.cells #[.int .i64 0,.slice none 0 0] 36 (0,0))):=⟨by (with_reducible repeat first|refine kN ?_ _|refine kD ?_|refine kA ?_ _);refine kZ ?_ NB101_118.out _;(with_reducible repeat first|refine kN ?_ _|refine kD ?_|refine kA ?_ _);refine kZ ?_ NB101_118.out _;(with_reducible repeat first|refine kN ?_ _|refine kD ?_|refine kA ?_ _);exact BK101.out⟩
  have n3_:Aside0 (((w20.setCell ⟨gb118,0,none⟩ (.int .i64 t113)).setCell ⟨gb118,1,none⟩ (.slice Ao22 t114.length co22)).heap[gb108]?=some (.cells #[.int .i64 t103,.slice Ao14 t104.length co14] 36 (0,0))):=⟨by (with_reducible repeat first|refine kN ?_ _|refine kD ?_|refine kA ?_ _);refine kZ ?_ NB108_118.out _;(with_reducible repeat first|refine kN ?_ _|refine kD ?_|refine kA ?_ _);refine kZ ?_ NB108_118.out _;(with_reducible repeat first|refine kN ?_ _|refine kD ?_|refine kA ?_ _);exact BK108.out⟩
  have n4_:Aside0 (((w20.setCell ⟨gb118,0,none⟩ (.int .i64 t113)).setCell ⟨gb118,1,none⟩ (.slice Ao22 t114.length co22)).heap[gb118]?=some (.cells #[.int .i64 t113,.slice Ao22 t114.length co22] 36 (0,0))):=⟨by (with_reducible repeat first|refine kN ?_ _|refine kD ?_|refine kA ?_ _);refine kP (cs:=#[.int .i64 t113,.slice none 0 0]) ?_ 1 _ rfl;(with_reducible repeat first|refine kN ?_ _|refine kD ?_|refine kA ?_ _);refine kP (cs:=#[.int .i64 0,.slice none 0 0]) ?_ 0 _ rfl;(with_reducible repeat first|refine kN ?_ _|refine kD ?_|refine kA ?_ _);exact BK118.out⟩
  have n5_:Aside0 (IsS113 w0 ((w20.setCell ⟨gb118,0,none⟩ (.int .i64 t113)).setCell ⟨gb118,1,none⟩ (.slice Ao22 t114.length co22)) g s0_0 t112):=⟨by repeat (first|(with_reducible first|exact HI0.out|apply iA|apply iN|apply iD|apply iS|refine iF ?_ NB0_101.out _|refine iF ?_ NB0_108.out _|refine iF ?_ NB0_118.out _)|exact HI0.out)⟩
  have n6_:Aside0 (KeepBut w ((w20.setCell ⟨gb118,0,none⟩ (.int .i64 t113)).setCell ⟨gb118,1,none⟩ (.slice Ao22 t114.length co22)) g none):=⟨by repeat (first|(with_reducible first|exact HK.out|apply eS|apply eN|apply eD|apply eA|refine eF ?_ GW101.out _|refine eF ?_ GW108.out _|refine eF ?_ GW118.out _)|exact HK.out)⟩
  have n7_:Aside0 (Below w0.heap.size w0 ((w20.setCell ⟨gb118,0,none⟩ (.int .i64 t113)).setCell ⟨gb118,1,none⟩ (.slice Ao22 t114.length co22))):=⟨by repeat (first|(with_reducible first|exact HB.out|apply bA|apply bN|apply bD|refine bS ?_ (iG HI0.out)|refine bS ?_ GE101.out|refine bS ?_ GE108.out|refine bS ?_ GE118.out)|exact HB.out)⟩
  (try clear HO106);(try clear HO116);(try clear BK101);(try clear BK108);(try clear BK118);(try clear HI0);(try clear HK);(try clear HB)
  generalize ((w20.setCell ⟨gb118,0,none⟩ (.int .i64 t113)).setCell ⟨gb118,1,none⟩ (.slice Ao22 t114.length co22))=w44 at n0_ n1_ n2_ n3_ n4_ n5_ n6_ n7_ ⊢
  have HO106:=n0_;have HO116:=n1_;have BK101:=n2_;have BK108:=n3_;have BK118:=n4_;have HI0:=n5_;have HK:=n6_;have HB:=n7_
  clear n0_ n1_ n2_ n3_ n4_ n5_ n6_ n7_
  have n0_:=mA (rD HO106.out)
  have n1_:=mA (rD HO116.out)
  have n2_:=mA (kD BK101.out)
  have n3_:=mA (kD BK108.out)
  have n4_:=mA (kD BK118.out)
  have n5_:=mA (iD HI0.out)
  have n6_:=mA (eD HK.out)
  have n7_:=mA (bD HB.out)
  clear HO106 HO116 BK101 BK108 BK118 HI0 HK HB
  have HO106:=n0_;have HO116:=n1_;have BK101:=n2_;have BK108:=n3_;have BK118:=n4_;have HI0:=n5_;have HK:=n6_;have HB:=n7_
  clear n0_ n1_ n2_ n3_ n4_ n5_ n6_ n7_
  refine start_ (n:=4) (S:=fun w'=>w'.cell? ⟨gb108,0,none⟩=some (.int .i64 t103)∧w'.cell? ⟨gb108,1,none⟩=some (.slice Ao14 t104.length co14)) (ds:=[]) #[O,O,O,O] (by kernel_rfl) rfl rfl ⟨(kC BK108.out 0).trans rfl,(kC BK108.out 1).trans rfl⟩ (fun hHeld=>?_)
  generalize w44.drew=w45 at HO106 HO116 BK101 BK108 BK118 HI0 HK HB hHeld ⊢
  refine pure_ (i:=0) (N:=some 53) (v:=?_) (a':=?_) #[I,O,O,O] rfl rfl (by kernel_rfl) (fun _ _ _ h=>h) (Or.inl ⟨by rfl,?_⟩) ?_ ?_
  rotate_left
  ·intro w'
   go_simp
   with_reducible rfl
  rotate_left
  ·simp only [Act.put,sA,sZ,sS,i64_w,i32_w]
   rfl
  refine pure_ (i:=2) (N:=some 2) (v:=?_) (a':=?_) #[I,O,I,O] rfl rfl (by kernel_rfl) (fun _ _ _ h=>h) (Or.inl ⟨by rfl,?_⟩) ?_ ?_
  rotate_left
  ·intro w'
   go_simp
   with_reducible rfl
  rotate_left
  ·simp only [Act.put,sA,sZ,sS,i64_w,i32_w]
   rfl
  refine take_ (i:=1) (N:=some 54) (v:=?_) (a':=?_) #[I,I,I,O] rfl rfl (by kernel_rfl) (fun _ _ _ h=>h) (Or.inl ⟨by rfl,?_⟩) hHeld ?_ ?_
  rotate_left
  ·rintro w' ⟨s0,s1⟩
   go_simp
   with_reducible rfl
  rotate_left
  ·simp only [Act.put,sA,sZ,sS,i64_w,i32_w]
   rfl
  refine one_ (i:=3) (N:=none) #[I,I,I,I] rfl rfl (by kernel_rfl) (by decide) (fun K hK=>?_)
  have hs46:w45.cell? ⟨gb101,0,none⟩=some (.int .i64 0):=(kC BK101.out 0).trans rfl
  have hfs46:=kF BK101.out 0
  have hns46_1:=NB108_101.out
  have hns46_2:=NB118_101.out
  have hms46_1:=NB101_108.out
  have hms46_2:=NB101_118.out
  have hs47:w45.cell? ⟨gb101,1,none⟩=some (.slice none 0 0):=(kC BK101.out 1).trans rfl
  have hfs47:=kF BK101.out 1
  have hns47_1:=NB108_101.out
  have hns47_2:=NB118_101.out
  have hms47_1:=NB101_108.out
  have hms47_2:=NB101_118.out
  refine skip_ (w1:=?_) (by rfl) rfl ?_ ?_
  rotate_left
  ·go_simp
   rfl
  refine hK.out _ _ ⟨((cell_far (p:=⟨gb101,_,none⟩) NB108_101.out _).trans (((cell_far (p:=⟨gb101,_,none⟩) NB108_101.out _).trans (hHeld.1)))),((cell_far (p:=⟨gb101,_,none⟩) NB108_101.out _).trans (((cell_far (p:=⟨gb101,_,none⟩) NB108_101.out _).trans (hHeld.2))))⟩ (fun hHeld=>?_)
  clear hK K
  refine done_ (by kernel_rfl) ?_
  try go_wp2
  refine bodyPost_ret (results_tc rfl _ _ gb101 36 #[.int .i64 t103,.slice Ao14 t104.length co14] (0,0) _ rfl (by (with_reducible repeat first|refine kN ?_ _|refine kD ?_|refine kA ?_ _);refine kP (cs:=#[.int .i64 t103,.slice none 0 0]) ?_ 1 _ rfl;(with_reducible repeat first|refine kN ?_ _|refine kD ?_|refine kA ?_ _);refine kP (cs:=#[.int .i64 0,.slice none 0 0]) ?_ 0 _ rfl;(with_reducible repeat first|refine kN ?_ _|refine kD ?_|refine kA ?_ _);exact BK101.out) Try.underlying36 rfl (by kernel_rfl)) rfl ?_
  exact ⟨_,by first|rfl|(simp [errW_none,errW_some]<;>rfl)|(simp [*, errW_none,errW_some]<;>rfl),by (with_reducible repeat first|apply rA|apply rN|apply rD);exact rM (rF (p:=⟨gb101,1,none⟩) (rF (p:=⟨gb101,0,none⟩) (rY HO106.out BK101.out (by decide)) (fun _ hk=>hk.2) (.int .i64 t103)) (fun _ hk=>hk.2) (.slice Ao14 t104.length co14)) (fun _ hk=>trivial),by repeat (first|(with_reducible first|exact HI0.out|apply iA|apply iN|apply iD|apply iS|refine iF ?_ NB0_101.out _|refine iF ?_ NB0_108.out _|refine iF ?_ NB0_118.out _)|exact HI0.out),by repeat (first|(with_reducible first|exact HB.out|apply bA|apply bN|apply bD|refine bS ?_ (iG HI0.out)|refine bS ?_ GE101.out|refine bS ?_ GE108.out|refine bS ?_ GE118.out)|exact HB.out),by repeat (first|(with_reducible first|exact HK.out|apply eS|apply eN|apply eD|apply eA|refine eF ?_ GW101.out _|refine eF ?_ GW108.out _|refine eF ?_ GW118.out _)|exact HK.out)⟩
end Go.Proofs.Ytpampekijfjlkab.X
