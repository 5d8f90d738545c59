/- Joined by a program of this session's: X41, X42, X43, X44, X45, X46, LH, LTB, LTY. -/
import Derived.Test.YtbhjeiphmnanoaaGb51738d237
import Derived.Test.YtbhjeiphmnanoaaGdb2d9c8475
import Derived.Test.YtbhjeiphmnanoaaGee5dae9bce
import Derived.Test.YtbhjeiphmnanoaaG33f55002db
import Derived.Test.YtbhjeiphmnanoaaG1df18d9ee4
import Derived.Laws.BitsLemmas

namespace Go.Proofs.Ytbhjeiphmnanoaa.X
open Go.RowKit Go.Proofs.YtbhjeiphmnanoaaW.PrintWords Go.Proofs.YtbhjeiphmnanoaaW.PrintLast Go.Proofs.YtbhjeiphmnanoaaW.PrintMore
open Go.Proofs.YtbhjeiphmnanoaaW.PrintWords renaming Aside0.mk → mA, pw_below_drewN → bN, below_drew1 → bD, below_alloc → bA, below_set → bS, below_size → bZ, below_step → bT, Kd.R_alloc → rA, Kd.R_drewN → rN, Kd.R_drew → rD, Kd.R_mono → rM, Kd.R_reads' → rR, Kd.N_alloc → nA, Kd.N_drewN → nN, Kd.N_drew → nD, Kd.C_alloc → cA, Kd.C_drewN → cN, Kd.C_drew → cD
open List renaming setIfInBounds_toArray → sA, set_cons_zero → sZ, set_cons_succ → sS, length_take → lT, length_drop → lD, map_toArray → mT, map_cons → mC, map_nil → mN
open Bool renaming true → I, false → O
attribute [local go_sem] max2_int min2_int max_two min_two max_three min_three max_four min_four   -- for this text's walks alone
set_option linter.unusedVariables false
set_option linter.unusedSimpArgs false
/-! ### laws_eqClaimS: function 10 -/
def laws_eqClaimS.l0:Nat→List (S42)→List (S42)→Int→Option (Bool)
 | 0,_,_,_=>none
 | k+1,x0,x1,x5=>if x5<(x0.length:Int) then (if 0≤x5 then (if x5<(x1.length:Int) then ((laws_eqClaim.f k ((rd_T42 x0 x5).f0) ((rd_T42 x0 x5).f1) ((rd_T42 x1 x5).f0) ((rd_T42 x1 x5).f1)).bind fun t103=>(if t103=true then (laws_eqClaimS.l0 k x0 x1 (wrap64 (x5+1))) else (some false))) else (none)) else (none)) else (some true)
def laws_eqClaimS.f (k:Nat) (l0:List (S42)) (l1:List (S42)):Option (Bool):=if (l0.length:Int)=(l1.length:Int) then (laws_eqClaimS.l0 k l0 l1 0) else (some false)
theorem laws_eqClaimS.mono_l : ∀ k,(∀ y0 y1 y2,LeO (laws_eqClaimS.l0 k y0 y1 y2) (laws_eqClaimS.l0 (k+1) y0 y1 y2))
 | 0=>fun _ _ _ r h=>by simp [laws_eqClaimS.l0] at h
 | k+1=>by
  have ih0:=laws_eqClaimS.mono_l k
  ·intro y0 y1 y2
   unfold laws_eqClaimS.l0
   repeat' first
   | (with_reducible exact ih0 _ _ _)
   | (with_reducible exact laws_eqClaim.mono _ _ _ _ _)
   | (with_reducible exact LeO.refl _)
   | (with_reducible exact LeO.none _)
   | (with_reducible refine LeO.ite ?_ ?_)
   | (with_reducible refine LeO.bind ?_ (fun _=>?_))
   | exact ih0 _ _ _
   | exact laws_eqClaim.mono _ _ _ _ _
   | exact LeO.none _
   | refine LeO.ite ?_ ?_
   | refine LeO.bind ?_ (fun _=>?_)
theorem laws_eqClaimS.mono : ∀ a0 a1 k,LeO (laws_eqClaimS.f k a0 a1) (laws_eqClaimS.f (k+1) a0 a1):=by
 intro a0 a1 k
 have ih0:=laws_eqClaimS.mono_l k
 unfold laws_eqClaimS.f
 repeat' first
   | (with_reducible exact ih0 _ _ _)
   | (with_reducible exact laws_eqClaim.mono _ _ _ _ _)
   | (with_reducible exact LeO.refl _)
   | (with_reducible exact LeO.none _)
   | (with_reducible refine LeO.ite ?_ ?_)
   | (with_reducible refine LeO.bind ?_ (fun _=>?_))
   | exact ih0 _ _ _
   | exact laws_eqClaim.mono _ _ _ _ _
   | exact LeO.none _
   | refine LeO.ite ?_ ?_
   | refine LeO.bind ?_ (fun _=>?_)
def laws_eqClaimS.T6:Bool×List (List Nat×List Nat):=(true,[([],[]),([],[]),([0,1],[0,1]),([2],[2]),([],[]),([],[]),([4,5],[4,5]),([6],[6]),([3,7],[3,7]),([8],[8])])
def laws_eqClaimS.B6:List Nat:=[0,0,3,7,0,0,48,112,255,511]
theorem laws_eqClaimS.tab6:rtab .any (opsOf Try.f10 6)=laws_eqClaimS.T6:=by kernel_rfl
theorem laws_eqClaimS.bits6:waitsOk laws_eqClaimS.T6.2 laws_eqClaimS.B6=true:=by kernel_rfl
set_option maxHeartbeats 8000000 in
set_option maxRecDepth 100000 in
theorem laws_eqClaimS.calls (k:Nat) (A0:Option Addr) (c0:Nat) (l0:List (S42)) (A1:Option Addr) (c1:Nat) (l1:List (S42)) (r:Bool) (w:World) (hr0:Kd.C k42 w A0 l0.length l0) (hc0:l0.length≤c0) (hr1:Kd.C k42 w A1 l1.length l1) (hc1:l1.length≤c1) (h:laws_eqClaimS.f k l0 l1=some r) :
  Calls Try.prog 10 #[.slice A0 l0.length c0,.slice A1 l1.length c1] w fun e w'=>e = .returned (.bool r)∧Below w.heap.size w w':=by
 have hu42:=Try.underlying42
 have HR0:=mA hr0
 have HC0:=mA hc0
 clear hr0 hc0
 have HR1:=mA hr1
 have HC1:=mA hc1
 clear hr1 hc1
 have HB:=mA (Below.refl w.heap.size w)
 have H:(if (l0.length:Int)=(l1.length:Int) then (laws_eqClaimS.l0 k l0 l1 0) else (some false))=some r:=h
 clear h
 by_cases c3:(l0.length:Int)=(l1.length:Int)
 ·rw [if_pos c3] at H
  have c3b0:((l0.length:Int)==(l1.length:Int))=true:=beq_iff_eq.mpr c3
  have c3b1:((l0.length:Int) != (l1.length:Int))=false:=bne_eq_false_iff_eq.mpr c3
  have c3b2:(l0.length==l1.length)=true:=by first|simpa using c3|(simp at c3 ⊢;omega)
  clear c3
  have H':=mA H
  clear H
  go_enter Try.func10,Try.ntmps10
  go_wp2
  go_loopg [5] k (fun kq v5 w'=>∃ (x5_1:Int),v5 = .int .i64 x5_1∧Aside0 (laws_eqClaimS.l0 kq l0 l1 x5_1=some r)∧Aside0 (kq≤k)∧Aside0 (Below w.heap.size w w'))
  case atStart=>exact ⟨(0),(by first|rfl|(simp;done)|(simp [*];done)),H',⟨Nat.le_refl _⟩,⟨by repeat (first|(with_reducible first|exact HB.out|apply bA|apply bN|apply bD)|exact HB.out)⟩⟩
  case round =>
   clear H'
   try clear c1
   try clear p2
   try clear c3
   try clear c3b0
   try clear c3b1
   try clear c3b2
   obtain ⟨x5_1,rfl,HA,HK1,HB⟩:=hrel
   cases gk with
   | zero=>exact absurd HA.out (by simp [laws_eqClaimS.l0])
   | succ k1 =>
    have H:=HA.out
    clear HA
    simp only [laws_eqClaimS.l0] at H
    by_cases c4:x5_1<(l0.length:Int)
    ·rw [if_pos c4] at H
     have c4b0:decide (x5_1<(l0.length:Int))=true:=decide_eq_true c4
     clear c4
     by_cases c5:0≤x5_1
     ·rw [if_pos c5] at H
      have c5b0:decide (0≤x5_1)=true:=decide_eq_true c5
      clear c5
      by_cases c6:x5_1<(l1.length:Int)
      ·rw [if_pos c6] at H
       have c6b0:decide (x5_1<(l1.length:Int))=true:=decide_eq_true c6
       clear c6
       replace H:=Option.bind_eq_some_iff.mp H
       obtain ⟨t103,A70,H⟩:=H
       replace H:(if t103=true then (laws_eqClaimS.l0 k1 l0 l1 (wrap64 (x5_1+1))) else (some false))=some r:=H
       have A7:=mA A70
       clear A70
       by_cases c8:t103=true
       ·subst c8
        have H1:(laws_eqClaimS.l0 k1 l0 l1 (wrap64 (x5_1+1)))=some r:=by rw [if_pos rfl] at H;exact H
        clear H
        have H:=H1
        clear H1
        have H':=mA H
        clear H
        try go_wp2
        have n0_:=mA (bD HB.out)
        clear HB
        have HB:=n0_
        clear n0_
        have p101:0≤(x5_1:Int):=of_decide_eq_true (by first|with_reducible assumption|assumption)
        have q101:x5_1<(l0.length:Int):=of_decide_eq_true (by first|with_reducible assumption|assumption)
        obtain ⟨ad101,A101_1,c101_1,e101,hx101_0,hx101_1,hl101_1,hi101_1⟩:=at_T42 HR0.out x5_1 p101 q101
        have hw101_1:=hx101_1
        have hw101_0:=hx101_0
        cases e101
        replace hx101_0:=(HB.out.cell (World.block_lt_of_cell? w _ hx101_0)).trans hx101_0
        replace hx101_1:=(HB.out.cell (World.block_lt_of_cell? w _ hx101_1)).trans hx101_1
        have HR101_1:=mA hi101_1
        have HC101_1:=mA hl101_1
        clear hi101_1 hl101_1
        replace p101:=eq_true p101
        replace q101:=eq_true q101
        have p102:0≤(x5_1:Int):=of_decide_eq_true (by first|with_reducible assumption|assumption)
        have q102:x5_1<(l1.length:Int):=of_decide_eq_true (by first|with_reducible assumption|assumption)
        obtain ⟨ad102,A102_1,c102_1,e102,hx102_0,hx102_1,hl102_1,hi102_1⟩:=at_T42 HR1.out x5_1 p102 q102
        have hw102_1:=hx102_1
        have hw102_0:=hx102_0
        cases e102
        replace hx102_0:=(HB.out.cell (World.block_lt_of_cell? w _ hx102_0)).trans hx102_0
        replace hx102_1:=(HB.out.cell (World.block_lt_of_cell? w _ hx102_1)).trans hx102_1
        have HR102_1:=mA hi102_1
        have HC102_1:=mA hl102_1
        clear hi102_1 hl102_1
        replace p102:=eq_true p102
        replace q102:=eq_true q102
        refine start_ (n:=10) (S:=fun w'=>w'.cell? (ad101.add ((x5_1).toNat*2))=some (.int .i64 ((rd_T42 l0 x5_1).f0))∧w'.cell? ⟨(ad101.add ((x5_1).toNat*2)).block,(ad101.add ((x5_1).toNat*2)).off+1,none⟩=some (.slice A101_1 ((rd_T42 l0 x5_1).f1).length c101_1)∧w'.cell? (ad102.add ((x5_1).toNat*2))=some (.int .i64 ((rd_T42 l1 x5_1).f0))∧w'.cell? ⟨(ad102.add ((x5_1).toNat*2)).block,(ad102.add ((x5_1).toNat*2)).off+1,none⟩=some (.slice A102_1 ((rd_T42 l1 x5_1).f1).length c102_1)) (ds:=[]) #[O,O,O,O,O,O,O,O,O,O] (by kernel_rfl) rfl rfl ⟨((HB.out.cell (World.block_lt_of_cell? w _ hw101_0)).trans hw101_0),((HB.out.cell (World.block_lt_of_cell? w _ hw101_1)).trans hw101_1),((HB.out.cell (World.block_lt_of_cell? w _ hw102_0)).trans hw102_0),((HB.out.cell (World.block_lt_of_cell? w _ hw102_1)).trans hw102_1)⟩ (fun hHeld=>?_);refine with_tabW laws_eqClaimS.tab6 laws_eqClaimS.bits6 (fun HT_ HW_=>?_)
        generalize wr.drew=w9 at HB HR101_1 HR102_1 hx101_0 hx101_1 hx102_0 hx102_1 hHeld ⊢
        refine pure_ (i:=0) (N:=some 17) (v:=?_) (a':=?_) #[I,O,O,O,O,O,O,O,O,O] rfl rfl (any_of HT_.out (by kernel_rfl)) (fun _ _ _ h=>h) (Or.inl ⟨by rfl,?_⟩) ?_ ?_
        rotate_left
        ·intro w'
         go_simp
         with_reducible rfl
        rotate_left
        ·simp only [Act.put,sA,sZ,sS,i64_w,i32_w]
         rfl
        refine pure_ (i:=1) (N:=some 18) (v:=?_) (a':=?_) #[I,I,O,O,O,O,O,O,O,O] rfl rfl (any_of HT_.out (by kernel_rfl)) (fun _ _ _ h=>h) (Or.inl ⟨by rfl,?_⟩) ?_ ?_
        rotate_left
        ·intro w'
         go_simp
         with_reducible rfl
        rotate_left
        ·simp only [Act.put,sA,sZ,sS,i64_w,i32_w]
         rfl
        refine pure_ (i:=2) (N:=some 19) (v:=?_) (a':=?_) #[I,I,I,O,O,O,O,O,O,O] rfl rfl (any_of HT_.out (by kernel_rfl)) (fun _ _ _ h=>h) (Or.inl ⟨by rfl,?_⟩) ?_ ?_
        rotate_left
        ·intro w'
         go_simp
         with_reducible rfl
        rotate_left
        ·simp only [Act.put,sA,sZ,sS,i64_w,i32_w]
         rfl
        refine pure_ (i:=4) (N:=some 21) (v:=?_) (a':=?_) #[I,I,I,O,I,O,O,O,O,O] rfl rfl (any_of HT_.out (by kernel_rfl)) (fun _ _ _ h=>h) (Or.inl ⟨by rfl,?_⟩) ?_ ?_
        rotate_left
        ·intro w'
         go_simp
         with_reducible rfl
        rotate_left
        ·simp only [Act.put,sA,sZ,sS,i64_w,i32_w]
         rfl
        refine pure_ (i:=5) (N:=some 22) (v:=?_) (a':=?_) #[I,I,I,O,I,I,O,O,O,O] rfl rfl (any_of HT_.out (by kernel_rfl)) (fun _ _ _ h=>h) (Or.inl ⟨by rfl,?_⟩) ?_ ?_
        rotate_left
        ·intro w'
         go_simp
         with_reducible rfl
        rotate_left
        ·simp only [Act.put,sA,sZ,sS,i64_w,i32_w]
         rfl
        refine pure_ (i:=6) (N:=some 23) (v:=?_) (a':=?_) #[I,I,I,O,I,I,I,O,O,O] rfl rfl (any_of HT_.out (by kernel_rfl)) (fun _ _ _ h=>h) (Or.inl ⟨by rfl,?_⟩) ?_ ?_
        rotate_left
        ·intro w'
         go_simp
         with_reducible rfl
        rotate_left
        ·simp only [Act.put,sA,sZ,sS,i64_w,i32_w]
         rfl
        refine take_ (i:=3) (N:=some 20) (v:=?_) (a':=?_) #[I,I,I,I,I,I,I,O,O,O] rfl rfl (take_ofW HT_.out HW_.out (by kernel_rfl)) (fun _ _ _ h=>h) (Or.inl ⟨by rfl,?_⟩) hHeld ?_ ?_
        rotate_left
        ·rintro w' ⟨s0,s1,s2,s3⟩
         go_simp
         with_reducible rfl
        rotate_left
        ·simp only [Act.put,sA,sZ,sS,i64_w,i32_w]
         rfl
        refine take_ (i:=7) (N:=some 24) (v:=?_) (a':=?_) #[I,I,I,I,I,I,I,I,O,O] rfl rfl (take_ofW HT_.out HW_.out (by kernel_rfl)) (fun _ _ _ h=>h) (Or.inl ⟨by rfl,?_⟩) hHeld ?_ ?_
        rotate_left
        ·rintro w' ⟨s0,s1,s2,s3⟩
         go_simp
         with_reducible rfl
        rotate_left
        ·simp only [Act.put,sA,sZ,sS,i64_w,i32_w]
         rfl
        refine one_ (i:=8) (N:=some 25) #[I,I,I,I,I,I,I,I,I,O] rfl rfl (one_of HT_.out (by kernel_rfl)) (by decide) (fun K hK=>?_)
        refine goes_ Try.func29 (by kernel_rfl) rfl #[.agg #[.int .i64 ((rd_T42 l0 x5_1).f0),.slice A101_1 ((rd_T42 l0 x5_1).f1).length c101_1],.agg #[.int .i64 ((rd_T42 l1 x5_1).f0),.slice A102_1 ((rd_T42 l1 x5_1).f1).length c102_1]] (by rfl) rfl rfl (by (try simp only [mT,mC,mN]);first|done|rfl|(simp only [lD,lT];rfl)) ?_
        with_reducible refine (laws_eqClaim.calls k1 ((rd_T42 l0 x5_1).f0) _ _ ((rd_T42 l0 x5_1).f1) ((rd_T42 l1 x5_1).f0) _ _ ((rd_T42 l1 x5_1).f1) true _ ?side1 ?side2 ?side3 ?side4 A7.out).mono ?_
        (case side1=>repeat first|exact (Kd.C_below HR101_1.out HB.out)|(with_reducible refine cA ?_ _)|(with_reducible refine cN ?_ _)|(with_reducible refine cD ?_))
        (case side2=>exact HC101_1.out)
        (case side3=>repeat first|exact (Kd.C_below HR102_1.out HB.out)|(with_reducible refine cA ?_ _)|(with_reducible refine cN ?_ _)|(with_reducible refine cD ?_))
        (case side4=>exact HC102_1.out)
        rintro e w10 ⟨rfl,hb⟩
        refine ⟨_,rfl,?_⟩
        have n0_:=mA (bT (by repeat first|(with_reducible first|exact HB.out|apply bA|apply bN|apply bD)|exact HB.out) hb)
        clear HB
        have HB:=n0_
        clear n0_
        (try clear hb)
        (try clear hb2)
        (try clear hk)
        (try clear hi)
        refine hK.out _ _ ⟨((HB.out.cell (World.block_lt_of_cell? w _ hw101_0)).trans hw101_0),((HB.out.cell (World.block_lt_of_cell? w _ hw101_1)).trans hw101_1),((HB.out.cell (World.block_lt_of_cell? w _ hw102_0)).trans hw102_0),((HB.out.cell (World.block_lt_of_cell? w _ hw102_1)).trans hw102_1)⟩ (fun hHeld=>?_)
        clear hK K
        refine norm_ (a':=?_) ?_ ?_
        rotate_left
        ·show Act.put _ (some 25) _=_
         simp only [Act.put,sA,sZ,sS,i64_w,i32_w]
         rfl
        refine pure_ (i:=9) (N:=some 26) (v:=?_) (a':=?_) #[I,I,I,I,I,I,I,I,I,I] rfl rfl (any_of HT_.out (by kernel_rfl)) (fun _ _ _ h=>h) (Or.inl ⟨by rfl,?_⟩) ?_ ?_
        rotate_left
        ·intro w'
         go_simp
         with_reducible rfl
        rotate_left
        ·simp only [Act.put,sA,sZ,sS,i64_w,i32_w]
         rfl
        refine done_ (done_of HT_.out (by kernel_rfl)) ?_
        try go_wp2
        go_roundg k1
        case measure=>have:=HK1.out;omega
        case rel=>exact ⟨(wrap64 (x5_1+1)),(by first|rfl|(simp;done)|(simp [*];done)),H',⟨by have:=HK1.out;omega⟩,⟨by repeat (first|(with_reducible first|exact HB.out|apply bA|apply bN|apply bD)|exact HB.out)⟩⟩
       ·replace c8:=Bool.eq_false_iff.mpr c8
        subst c8
        have H1:(some false)=some r:=by rw [if_neg (show ¬ (false=true) by decide)] at H;exact H
        clear H
        have H:=H1
        clear H1
        obtain rfl:=Option.some.inj H
        try go_wp2
        have n0_:=mA (bD HB.out)
        clear HB
        have HB:=n0_
        clear n0_
        have p101:0≤(x5_1:Int):=of_decide_eq_true (by first|with_reducible assumption|assumption)
        have q101:x5_1<(l0.length:Int):=of_decide_eq_true (by first|with_reducible assumption|assumption)
        obtain ⟨ad101,A101_1,c101_1,e101,hx101_0,hx101_1,hl101_1,hi101_1⟩:=at_T42 HR0.out x5_1 p101 q101
        have hw101_1:=hx101_1
        have hw101_0:=hx101_0
        cases e101
        replace hx101_0:=(HB.out.cell (World.block_lt_of_cell? w _ hx101_0)).trans hx101_0
        replace hx101_1:=(HB.out.cell (World.block_lt_of_cell? w _ hx101_1)).trans hx101_1
        have HR101_1:=mA hi101_1
        have HC101_1:=mA hl101_1
        clear hi101_1 hl101_1
        replace p101:=eq_true p101
        replace q101:=eq_true q101
        have p102:0≤(x5_1:Int):=of_decide_eq_true (by first|with_reducible assumption|assumption)
        have q102:x5_1<(l1.length:Int):=of_decide_eq_true (by first|with_reducible assumption|assumption)
        obtain ⟨ad102,A102_1,c102_1,e102,hx102_0,hx102_1,hl102_1,hi102_1⟩:=at_T42 HR1.out x5_1 p102 q102
        have hw102_1:=hx102_1
        have hw102_0:=hx102_0
        cases e102
        replace hx102_0:=(HB.out.cell (World.block_lt_of_cell? w _ hx102_0)).trans hx102_0
        replace hx102_1:=(HB.out.cell (World.block_lt_of_cell? w _ hx102_1)).trans hx102_1
        have HR102_1:=mA hi102_1
        have HC102_1:=mA hl102_1
        clear hi102_1 hl102_1
        replace p102:=eq_true p102
        replace q102:=eq_true q102
        refine start_ (n:=10) (S:=fun w'=>w'.cell? (ad101.add ((x5_1).toNat*2))=some (.int .i64 ((rd_T42 l0 x5_1).f0))∧w'.cell? ⟨(ad101.add ((x5_1).toNat*2)).block,(ad101.add ((x5_1).toNat*2)).off+1,none⟩=some (.slice A101_1 ((rd_T42 l0 x5_1).f1).length c101_1)∧w'.cell? (ad102.add ((x5_1).toNat*2))=some (.int .i64 ((rd_T42 l1 x5_1).f0))∧w'.cell? ⟨(ad102.add ((x5_1).toNat*2)).block,(ad102.add ((x5_1).toNat*2)).off+1,none⟩=some (.slice A102_1 ((rd_T42 l1 x5_1).f1).length c102_1)) (ds:=[]) #[O,O,O,O,O,O,O,O,O,O] (by kernel_rfl) rfl rfl ⟨((HB.out.cell (World.block_lt_of_cell? w _ hw101_0)).trans hw101_0),((HB.out.cell (World.block_lt_of_cell? w _ hw101_1)).trans hw101_1),((HB.out.cell (World.block_lt_of_cell? w _ hw102_0)).trans hw102_0),((HB.out.cell (World.block_lt_of_cell? w _ hw102_1)).trans hw102_1)⟩ (fun hHeld=>?_);refine with_tabW laws_eqClaimS.tab6 laws_eqClaimS.bits6 (fun HT_ HW_=>?_)
        generalize wr.drew=w11 at HB HR101_1 HR102_1 hx101_0 hx101_1 hx102_0 hx102_1 hHeld ⊢
        refine pure_ (i:=0) (N:=some 17) (v:=?_) (a':=?_) #[I,O,O,O,O,O,O,O,O,O] rfl rfl (any_of HT_.out (by kernel_rfl)) (fun _ _ _ h=>h) (Or.inl ⟨by rfl,?_⟩) ?_ ?_
        rotate_left
        ·intro w'
         go_simp
         with_reducible rfl
        rotate_left
        ·simp only [Act.put,sA,sZ,sS,i64_w,i32_w]
         rfl
        refine pure_ (i:=1) (N:=some 18) (v:=?_) (a':=?_) #[I,I,O,O,O,O,O,O,O,O] rfl rfl (any_of HT_.out (by kernel_rfl)) (fun _ _ _ h=>h) (Or.inl ⟨by rfl,?_⟩) ?_ ?_
        rotate_left
        ·intro w'
         go_simp
         with_reducible rfl
        rotate_left
        ·simp only [Act.put,sA,sZ,sS,i64_w,i32_w]
         rfl
        refine pure_ (i:=2) (N:=some 19) (v:=?_) (a':=?_) #[I,I,I,O,O,O,O,O,O,O] rfl rfl (any_of HT_.out (by kernel_rfl)) (fun _ _ _ h=>h) (Or.inl ⟨by rfl,?_⟩) ?_ ?_
        rotate_left
        ·intro w'
         go_simp
         with_reducible rfl
        rotate_left
        ·simp only [Act.put,sA,sZ,sS,i64_w,i32_w]
         rfl
        refine pure_ (i:=4) (N:=some 21) (v:=?_) (a':=?_) #[I,I,I,O,I,O,O,O,O,O] rfl rfl (any_of HT_.out (by kernel_rfl)) (fun _ _ _ h=>h) (Or.inl ⟨by rfl,?_⟩) ?_ ?_
        rotate_left
        ·intro w'
         go_simp
         with_reducible rfl
        rotate_left
        ·simp only [Act.put,sA,sZ,sS,i64_w,i32_w]
         rfl
        refine pure_ (i:=5) (N:=some 22) (v:=?_) (a':=?_) #[I,I,I,O,I,I,O,O,O,O] rfl rfl (any_of HT_.out (by kernel_rfl)) (fun _ _ _ h=>h) (Or.inl ⟨by rfl,?_⟩) ?_ ?_
        rotate_left
        ·intro w'
         go_simp
         with_reducible rfl
        rotate_left
        ·simp only [Act.put,sA,sZ,sS,i64_w,i32_w]
         rfl
        refine pure_ (i:=6) (N:=some 23) (v:=?_) (a':=?_) #[I,I,I,O,I,I,I,O,O,O] rfl rfl (any_of HT_.out (by kernel_rfl)) (fun _ _ _ h=>h) (Or.inl ⟨by rfl,?_⟩) ?_ ?_
        rotate_left
        ·intro w'
         go_simp
         with_reducible rfl
        rotate_left
        ·simp only [Act.put,sA,sZ,sS,i64_w,i32_w]
         rfl
        refine take_ (i:=3) (N:=some 20) (v:=?_) (a':=?_) #[I,I,I,I,I,I,I,O,O,O] rfl rfl (take_ofW HT_.out HW_.out (by kernel_rfl)) (fun _ _ _ h=>h) (Or.inl ⟨by rfl,?_⟩) hHeld ?_ ?_
        rotate_left
        ·rintro w' ⟨s0,s1,s2,s3⟩
         go_simp
         with_reducible rfl
        rotate_left
        ·simp only [Act.put,sA,sZ,sS,i64_w,i32_w]
         rfl
        refine take_ (i:=7) (N:=some 24) (v:=?_) (a':=?_) #[I,I,I,I,I,I,I,I,O,O] rfl rfl (take_ofW HT_.out HW_.out (by kernel_rfl)) (fun _ _ _ h=>h) (Or.inl ⟨by rfl,?_⟩) hHeld ?_ ?_
        rotate_left
        ·rintro w' ⟨s0,s1,s2,s3⟩
         go_simp
         with_reducible rfl
        rotate_left
        ·simp only [Act.put,sA,sZ,sS,i64_w,i32_w]
         rfl
        refine one_ (i:=8) (N:=some 25) #[I,I,I,I,I,I,I,I,I,O] rfl rfl (one_of HT_.out (by kernel_rfl)) (by decide) (fun K hK=>?_)
        refine goes_ Try.func29 (by kernel_rfl) rfl #[.agg #[.int .i64 ((rd_T42 l0 x5_1).f0),.slice A101_1 ((rd_T42 l0 x5_1).f1).length c101_1],.agg #[.int .i64 ((rd_T42 l1 x5_1).f0),.slice A102_1 ((rd_T42 l1 x5_1).f1).length c102_1]] (by rfl) rfl rfl (by (try simp only [mT,mC,mN]);first|done|rfl|(simp only [lD,lT];rfl)) ?_
        with_reducible refine (laws_eqClaim.calls k1 ((rd_T42 l0 x5_1).f0) _ _ ((rd_T42 l0 x5_1).f1) ((rd_T42 l1 x5_1).f0) _ _ ((rd_T42 l1 x5_1).f1) false _ ?side1 ?side2 ?side3 ?side4 A7.out).mono ?_
        (case side1=>repeat first|exact (Kd.C_below HR101_1.out HB.out)|(with_reducible refine cA ?_ _)|(with_reducible refine cN ?_ _)|(with_reducible refine cD ?_))
        (case side2=>exact HC101_1.out)
        (case side3=>repeat first|exact (Kd.C_below HR102_1.out HB.out)|(with_reducible refine cA ?_ _)|(with_reducible refine cN ?_ _)|(with_reducible refine cD ?_))
        (case side4=>exact HC102_1.out)
        rintro e w12 ⟨rfl,hb⟩
        refine ⟨_,rfl,?_⟩
        have n0_:=mA (bT (by repeat first|(with_reducible first|exact HB.out|apply bA|apply bN|apply bD)|exact HB.out) hb)
        clear HB
        have HB:=n0_
        clear n0_
        (try clear hb)
        (try clear hb2)
        (try clear hk)
        (try clear hi)
        refine hK.out _ _ ⟨((HB.out.cell (World.block_lt_of_cell? w _ hw101_0)).trans hw101_0),((HB.out.cell (World.block_lt_of_cell? w _ hw101_1)).trans hw101_1),((HB.out.cell (World.block_lt_of_cell? w _ hw102_0)).trans hw102_0),((HB.out.cell (World.block_lt_of_cell? w _ hw102_1)).trans hw102_1)⟩ (fun hHeld=>?_)
        clear hK K
        refine norm_ (a':=?_) ?_ ?_
        rotate_left
        ·show Act.put _ (some 25) _=_
         simp only [Act.put,sA,sZ,sS,i64_w,i32_w]
         rfl
        refine pure_ (i:=9) (N:=some 26) (v:=?_) (a':=?_) #[I,I,I,I,I,I,I,I,I,I] rfl rfl (any_of HT_.out (by kernel_rfl)) (fun _ _ _ h=>h) (Or.inl ⟨by rfl,?_⟩) ?_ ?_
        rotate_left
        ·intro w'
         go_simp
         with_reducible rfl
        rotate_left
        ·simp only [Act.put,sA,sZ,sS,i64_w,i32_w]
         rfl
        refine done_ (done_of HT_.out (by kernel_rfl)) ?_
        try go_wp2
        go_ret
        exact ⟨by first|rfl|(simp [errW_none,errW_some]<;>rfl)|(simp [*, errW_none,errW_some]<;>rfl),by repeat (first|(with_reducible first|exact HB.out|apply bA|apply bN|apply bD)|exact HB.out)⟩
      ·rw [if_neg c6] at H
       exact absurd H (by simp)
     ·rw [if_neg c5] at H
      exact absurd H (by simp)
    ·rw [if_neg c4] at H
     have c4b0:decide (x5_1<(l0.length:Int))=false:=decide_eq_false c4
     clear c4
     obtain rfl:=Option.some.inj H
     go_wp2
     go_ret
     exact ⟨by first|rfl|(simp [errW_none,errW_some]<;>rfl)|(simp [*, errW_none,errW_some]<;>rfl),by repeat (first|(with_reducible first|exact HB.out|apply bA|apply bN|apply bD)|exact HB.out)⟩
 ·rw [if_neg c3] at H
  have c3b0:((l0.length:Int)==(l1.length:Int))=false:=beq_eq_false_iff_ne.mpr c3
  have c3b1:((l0.length:Int) != (l1.length:Int))=true:=bne_iff_ne.mpr c3
  have c3b2:(l0.length==l1.length)=false:=by first|simpa using c3|(simp at c3 ⊢;omega)
  obtain rfl:=Option.some.inj H
  go_enter Try.func10,Try.ntmps10
  go_wp2
  go_ret
  exact ⟨by first|rfl|(simp [errW_none,errW_some]<;>rfl)|(simp [*, errW_none,errW_some]<;>rfl),by repeat (first|(with_reducible first|exact HB.out|apply bA|apply bN|apply bD)|exact HB.out)⟩
/-! ### laws_markMarkS: function 30 -/
def laws_markMarkS.l0:Nat→List (S59)→Int→Int→Option (Int×(List (S59)))
 | 0,_,_,_=>none
 | k+1,x0,x1,x5=>if x5<(x0.length:Int) then (if 0≤x5 then ((some (x0.set (x5:Int).toNat (⟨x1,(rd_T59 x0 x5).f1⟩:S59):List (S59))).bind fun y101=>(laws_markMarkS.l0 k (y101.set (x5:Int).toNat (⟨(rd_T59 y101 x5).f0,wrap64 (x1+1)⟩:S59)) (wrap64 ((wrap64 (x1+1))+1)) (wrap64 (x5+1)))) else (none)) else (some (x1,x0))
def laws_markMarkS.f (k:Nat) (l0:List (S59)) (a1:Int):Option (Int×(List (S59))):=laws_markMarkS.l0 k l0 a1 0
theorem laws_markMarkS.mono_l : ∀ k,(∀ y0 y1 y2,LeO (laws_markMarkS.l0 k y0 y1 y2) (laws_markMarkS.l0 (k+1) y0 y1 y2))
 | 0=>fun _ _ _ r h=>by simp [laws_markMarkS.l0] at h
 | k+1=>by
  have ih0:=laws_markMarkS.mono_l k
  ·intro y0 y1 y2
   unfold laws_markMarkS.l0
   repeat' first
   | (with_reducible exact ih0 _ _ _)
   | (with_reducible exact LeO.refl _)
   | (with_reducible exact LeO.none _)
   | (with_reducible refine LeO.ite ?_ ?_)
   | (with_reducible refine LeO.bind ?_ (fun _=>?_))
   | exact ih0 _ _ _
   | exact LeO.none _
   | refine LeO.ite ?_ ?_
   | refine LeO.bind ?_ (fun _=>?_)
theorem laws_markMarkS.mono : ∀ a0 a1 k,LeO (laws_markMarkS.f k a0 a1) (laws_markMarkS.f (k+1) a0 a1):=by
 intro a0 a1 k
 have ih0:=laws_markMarkS.mono_l k
 unfold laws_markMarkS.f
 repeat' first
   | (with_reducible exact ih0 _ _ _)
   | (with_reducible exact LeO.refl _)
   | (with_reducible exact LeO.none _)
   | (with_reducible refine LeO.ite ?_ ?_)
   | (with_reducible refine LeO.bind ?_ (fun _=>?_))
   | exact ih0 _ _ _
   | exact LeO.none _
   | refine LeO.ite ?_ ?_
   | refine LeO.bind ?_ (fun _=>?_)
set_option maxHeartbeats 8000000 in
set_option maxRecDepth 100000 in
theorem laws_markMarkS.calls (k:Nat) (P0_:Nat→Prop) (u9000_:Value) (l0:List (S59)) (a1:Int) (r1:Int) (r2:List (S59)) (w0 w:World) (hB:Below w0.heap.size w0 w) (ho0:Kd.R k59 59 w w0.heap.size P0_ u9000_ l0) (h:laws_markMarkS.f k l0 a1=some (r1,r2)) :
  Calls Try.prog 30 #[u9000_,.int .i64 a1] w fun e w'=>e = .returned (.int .i64 r1)∧Kd.R k59 59 w' w0.heap.size (fun k_=>(P0_ k_∨w.heap.size≤k_)) u9000_ r2∧Below w0.heap.size w0 w'∧Kept w w' (fun k_=>P0_ k_):=by
 have HO0:=mA (show Kd.R k59 59 w w0.heap.size (fun k_=>(P0_ k_∨w.heap.size≤k_)) u9000_ l0 from rM ho0 (fun k_ hk=>(.inl hk)))
 have HK:=mA (Kept.refl w (fun k_=>P0_ k_))
 have HW0:=mA hB.size
 have HB:=mA hB
 clear hB
 have H:(laws_markMarkS.l0 k l0 a1 0)=some (r1,r2):=h
 clear h
 have H':=mA H
 clear H
 go_enter Try.func30,Try.ntmps30
 go_wp2
 go_loopg [1,5] k (fun kq v1 v5 w'=>∃ (x0_1:List (S59)) (x1_1:Int) (x5_1:Int),v1 = .int .i64 x1_1∧v5 = .int .i64 x5_1∧Aside0 (laws_markMarkS.l0 kq x0_1 x1_1 x5_1=some (r1,r2))∧Aside0 (kq≤k)∧Aside0 (Kd.R k59 59 w' w0.heap.size (fun k_=>(P0_ k_∨w.heap.size≤k_)) u9000_ x0_1)∧Aside0 (Kept w w' (fun k_=>P0_ k_))∧Aside0 (Below w0.heap.size w0 w'))
 case atStart=>exact ⟨(l0),(a1),(0),(by first|rfl|(simp;done)|(simp [*];done)),(by first|rfl|(simp;done)|(simp [*];done)),H',⟨Nat.le_refl _⟩,⟨by (with_reducible repeat first|apply rA|apply rN|apply rD);exact HO0.out⟩,⟨by repeat (first|(with_reducible first|exact HK.out|apply Kept.alloc|apply Kept.drewN|apply Kept.drew)|exact HK.out)⟩,⟨by repeat (first|(with_reducible first|exact HB.out|apply bA|apply bN|apply bD)|exact HB.out)⟩⟩
 case round =>
  clear H'
  try clear p2
  obtain ⟨x0_1,x1_1,x5_1,rfl,rfl,HA,HK1,HO_0,HK,HB⟩:=hrel
  cases gk with
  | zero=>exact absurd HA.out (by simp [laws_markMarkS.l0])
  | succ k1 =>
   have H:=HA.out
   clear HA
   simp only [laws_markMarkS.l0] at H
   by_cases c3:x5_1<(x0_1.length:Int)
   ·rw [if_pos c3] at H
    have c3b0:decide (x5_1<(x0_1.length:Int))=true:=decide_eq_true c3
    clear c3
    by_cases c4:0≤x5_1
    ·rw [if_pos c4] at H
     have c4b0:decide (0≤x5_1)=true:=decide_eq_true c4
     clear c4
     obtain ⟨y101,hy101⟩ : ∃ y_:List (S59),y_=(x0_1.set (x5_1:Int).toNat (⟨x1_1,(rd_T59 x0_1 x5_1).f1⟩:S59)):=⟨_,rfl⟩
     replace H:(laws_markMarkS.l0 k1 (y101.set (x5_1:Int).toNat (⟨(rd_T59 y101 x5_1).f0,wrap64 (x1_1+1)⟩:S59)) (wrap64 ((wrap64 (x1_1+1))+1)) (wrap64 (x5_1+1)))=some (r1,r2):=by first|(rw [hy101];with_reducible exact H)|(have H2_:=(Option.bind_some _ _).symm.trans H;rw [hy101];with_reducible exact H2_)|(have H2_:=(Option.bind_some _ _).symm.trans H;with_reducible exact H2_)|with_reducible exact H|(rw [hy101];exact H)|exact H
     have Ny101:=mA hy101
     clear hy101
     obtain ⟨y102,hy102⟩ : ∃ y_:List (S59),y_=(y101.set (x5_1:Int).toNat (⟨(rd_T59 y101 x5_1).f0,wrap64 (x1_1+1)⟩:S59)):=⟨_,rfl⟩
     replace H:(laws_markMarkS.l0 k1 y102 (wrap64 ((wrap64 (x1_1+1))+1)) (wrap64 (x5_1+1)))=some (r1,r2):=by first|(rw [hy102];with_reducible exact H)|(have H2_:=(Option.bind_some _ _).symm.trans H;rw [hy102];with_reducible exact H2_)|(have H2_:=(Option.bind_some _ _).symm.trans H;with_reducible exact H2_)|with_reducible exact H|(rw [hy102];exact H)|exact H
     have Ny102:=mA hy102
     clear hy102
     have H':=mA H
     clear H
     obtain ⟨Ao7,co7,eo7⟩:=Kd.R_slice HO_0.out
     subst eo7
     have p5:0≤(x5_1:Int):=of_decide_eq_true (by first|with_reducible assumption|assumption)
     have q5:(x5_1:Int)<((x0_1.length:Int):Int):=of_decide_eq_true (by first|with_reducible assumption|assumption)
     obtain ⟨go5,co5,eo5,gb5,gl5,cl5,HG5⟩:=Kd.R_form HO_0.out (by omega)
     (first|cases eo5|(injection eo5 with ea_ en_ ec_;(first|subst ea_|(injection ea_ with ea_;subst ea_));subst ec_;clear en_))
     have GB5:=mA gb5
     have GG5:=mA HG5
     clear gb5 gl5 HG5
     have HMgo5:=mA (show (P0_ go5∨w.heap.size≤go5) from (HO_0.out.1 _ rfl))
     obtain ⟨ce5,hcl5,hM5,hcc5,hfr5⟩:=Kd.R_elem HO_0.out z59 (x5_1:Int) p5 q5
     obtain rfl:=k59_openM hM5
     have hx5_0:wr.cell? ⟨go5,(x5_1:Int).toNat*2,none⟩=some (.int .i64 ((rd_T59 x0_1 x5_1).f0)):=hcc5 0 _ rfl
     have hx5_1:wr.cell? ⟨go5,(x5_1:Int).toNat*2+1,none⟩=some (.int .i64 ((rd_T59 x0_1 x5_1).f1)):=hcc5 1 _ rfl
     have hf5_0:wr.frozen? ⟨go5,(x5_1:Int).toNat*2,none⟩=false:=hfr5 0
     have hf5_1:wr.frozen? ⟨go5,(x5_1:Int).toNat*2+1,none⟩=false:=hfr5 1
     clear hcl5 hcc5 hfr5 hM5
     replace p5:=eq_true p5
     replace q5:=eq_true q5
     have HX8:=mA (show Kd.R k59 59 wr w0.heap.size (fun k_=>(P0_ k_∨w.heap.size≤k_)) (.slice (some ⟨go5,0,none⟩) x0_1.length co7) x0_1 from (by (with_reducible repeat first|apply rA|apply rN|apply rD);exact HO_0.out))
     obtain ⟨ce8,hcl8,hM8,hcc8,hfr8⟩:=Kd.R_elem HX8.out z59 (x5_1:Int) (of_decide_eq_true (by first|with_reducible assumption|assumption)) (by have h_:(x5_1:Int)<((x0_1.length:Int):Int):=of_decide_eq_true (by first|with_reducible assumption|assumption);first|exact h_|(have e_:=(rR HO_0.out).1;omega)|simpa using h_)
     obtain rfl:=k59_openM hM8
     have HP8:=Kd.R_seg HX8.out (x5_1:Int) (of_decide_eq_true (by first|with_reducible assumption|assumption)) (by have h_:(x5_1:Int)<((x0_1.length:Int):Int):=of_decide_eq_true (by first|with_reducible assumption|assumption);first|exact h_|(have e_:=(rR HO_0.out).1;omega)|simpa using h_) (seg:=[.int .i64 x1_1]) (j:=0) hcl8 hcc8 (show 1≤2 from by decide) (x':=(⟨x1_1,(rd_T59 x0_1 x5_1).f1⟩:S59)) (k59_mkM _ _ _ (⟨x1_1,(rd_T59 x0_1 x5_1).f1⟩:S59) ) (fun _ hk=>hk)
     have hx8_0:=hcc8 0 _ rfl
     (try simp only [show (k59).sz=2 from rfl,Nat.mul_one,Nat.add_zero] at hx8_0)
     have hf8_0:=hfr8 0
     (try simp only [show (k59).sz=2 from rfl,Nat.mul_one,Nat.add_zero] at hf8_0)
     clear hcl8 hcc8 hfr8 hM8
     go_wp2_with (first|((with_reducible refine gate_store (t:=3) (p:=16) rfl ?_);refine store_event (t:=3) (p:=16) (v:=?vo_w9) (w1:=(wr.setCell ⟨go5,(x5_1:Int).toNat*2,none⟩ (.int .i64 x1_1))) ?hg ?ho ?hn ?hr ?_;(case ho=>rfl);(case hg=>rfl);(case hn=>rfl);(case hr=>first|(go_simp;done)|(go_simp;rfl));intro w9 hw;have hg:wr.grownBy w9 (some go5):=(by rw [hw];exact HP8.2);have hp_:Kd.R k59 59 w9 w0.heap.size (fun k_=>(P0_ k_∨w.heap.size≤k_)) (.slice (some ⟨go5,0,none⟩) x0_1.length co7) y101:=(by rw [hw,Ny101.out];exact HP8.1);clear HP8;have n0_:=mA (hp_);have n1_:=mA ((by rw [hw];exact bS (HB.out) GB5.out:Below w0.heap.size w0 w9));have n2_:=mA (Kept.of_grown (S:=(fun k_=>P0_ k_)) hg (by repeat first|(with_reducible first|exact HK.out|apply Kept.alloc|apply Kept.drewN|apply Kept.drew)|exact HK.out) (fun k_ e_=>(HO_0.out.1 k_ e_)));clear HO_0 HB HK;have HO_0:=n0_;have HB:=n1_;have HK:=n2_;clear n0_ n1_ n2_ hg hw hp_;have p6:0≤(x5_1:Int):=of_decide_eq_true (by first|with_reducible assumption|assumption);have q6:(x5_1:Int)<((x0_1.length:Int):Int):=of_decide_eq_true (by first|with_reducible assumption|assumption);obtain ⟨ce6,hcl6,hM6,hcc6,hfr6⟩:=Kd.R_elem HO_0.out z59 (x5_1:Int) p6 q6;obtain rfl:=k59_openM hM6;have hx6_0:w9.cell? ⟨go5,(x5_1:Int).toNat*2,none⟩=some (.int .i64 ((rd_T59 y101 x5_1).f0)):=hcc6 0 _ rfl;have hx6_1:w9.cell? ⟨go5,(x5_1:Int).toNat*2+1,none⟩=some (.int .i64 ((rd_T59 y101 x5_1).f1)):=hcc6 1 _ rfl;have hf6_0:w9.frozen? ⟨go5,(x5_1:Int).toNat*2,none⟩=false:=hfr6 0;have hf6_1:w9.frozen? ⟨go5,(x5_1:Int).toNat*2+1,none⟩=false:=hfr6 1;clear hcl6 hcc6 hfr6 hM6;replace p6:=eq_true p6;replace q6:=eq_true q6;have HX10:=mA (show Kd.R k59 59 w9 w0.heap.size (fun k_=>(P0_ k_∨w.heap.size≤k_)) (.slice (some ⟨go5,0,none⟩) x0_1.length co7) y101 from (by (with_reducible repeat first|apply rA|apply rN|apply rD);exact HO_0.out));obtain ⟨ce10,hcl10,hM10,hcc10,hfr10⟩:=Kd.R_elem HX10.out z59 (x5_1:Int) (of_decide_eq_true (by first|with_reducible assumption|assumption)) (by have h_:(x5_1:Int)<((x0_1.length:Int):Int):=of_decide_eq_true (by first|with_reducible assumption|assumption);first|exact h_|(have e_:=(rR HO_0.out).1;omega)|simpa using h_);obtain rfl:=k59_openM hM10;have HP10:=Kd.R_seg HX10.out (x5_1:Int) (of_decide_eq_true (by first|with_reducible assumption|assumption)) (by have h_:(x5_1:Int)<((x0_1.length:Int):Int):=of_decide_eq_true (by first|with_reducible assumption|assumption);first|exact h_|(have e_:=(rR HO_0.out).1;omega)|simpa using h_) (seg:=[.int .i64 (wrap64 (x1_1+1))]) (j:=1) hcl10 hcc10 (show 2≤2 from by decide) (x':=(⟨(rd_T59 y101 x5_1).f0,wrap64 (x1_1+1)⟩:S59)) (k59_mkM _ _ _ (⟨(rd_T59 y101 x5_1).f0,wrap64 (x1_1+1)⟩:S59) ) (fun _ hk=>hk);have hx10_1:=hcc10 1 _ rfl;(try simp only [show (k59).sz=2 from rfl,Nat.mul_one,Nat.add_zero] at hx10_1);have hf10_1:=hfr10 1;(try simp only [show (k59).sz=2 from rfl,Nat.mul_one,Nat.add_zero] at hf10_1);clear hcl10 hcc10 hfr10 hM10)|((with_reducible refine gate_store (t:=3) (p:=23) rfl ?_);refine store_event (t:=3) (p:=23) (v:=?vo_w11) (w1:=(w9.setCell ⟨go5,(x5_1:Int).toNat*2+1,none⟩ (.int .i64 (wrap64 (x1_1+1))))) ?hg ?ho ?hn ?hr ?_;(case ho=>rfl);(case hg=>rfl);(case hn=>rfl);(case hr=>first|(go_simp;done)|(go_simp;rfl));intro w11 hw;have hg:w9.grownBy w11 (some go5):=(by rw [hw];exact HP10.2);have hp_:Kd.R k59 59 w11 w0.heap.size (fun k_=>(P0_ k_∨w.heap.size≤k_)) (.slice (some ⟨go5,0,none⟩) x0_1.length co7) y102:=(by rw [hw,Ny102.out];exact HP10.1);clear HP10;have n0_:=mA (hp_);have n1_:=mA ((by rw [hw];exact bS (HB.out) GB5.out:Below w0.heap.size w0 w11));have n2_:=mA (Kept.of_grown (S:=(fun k_=>P0_ k_)) hg (by repeat first|(with_reducible first|exact HK.out|apply Kept.alloc|apply Kept.drewN|apply Kept.drew)|exact HK.out) (fun k_ e_=>(HO_0.out.1 k_ e_)));clear HO_0 HB HK;have HO_0:=n0_;have HB:=n1_;have HK:=n2_;clear n0_ n1_ n2_ hg hw hp_))
     go_roundg k1
     case measure=>have:=HK1.out;omega
     case rel=>exact ⟨(y102),(wrap64 ((wrap64 (x1_1+1))+1)),(wrap64 (x5_1+1)),(by first|rfl|(simp;done)|(simp [*];done)),(by first|rfl|(simp;done)|(simp [*];done)),H',⟨by have:=HK1.out;omega⟩,⟨by (with_reducible repeat first|apply rA|apply rN|apply rD);exact HO_0.out⟩,⟨by repeat (first|(with_reducible first|exact HK.out|apply Kept.alloc|apply Kept.drewN|apply Kept.drew)|exact HK.out)⟩,⟨by repeat (first|(with_reducible first|exact HB.out|apply bA|apply bN|apply bD)|exact HB.out)⟩⟩
    ·rw [if_neg c4] at H
     exact absurd H (by simp)
   ·rw [if_neg c3] at H
    have c3b0:decide (x5_1<(x0_1.length:Int))=false:=decide_eq_false c3
    clear c3
    simp only [Option.some.injEq,Prod.mk.injEq] at H
    obtain ⟨rfl,rfl⟩:=H
    obtain ⟨Ao12,co12,eo12⟩:=Kd.R_slice HO_0.out
    subst eo12
    go_wp2
    go_ret
    exact ⟨by first|rfl|(simp [errW_none,errW_some]<;>rfl)|(simp [*, errW_none,errW_some]<;>rfl),by (with_reducible repeat first|apply rA|apply rN|apply rD);exact HO_0.out,by repeat (first|(with_reducible first|exact HB.out|apply bA|apply bN|apply bD)|exact HB.out),by repeat (first|(with_reducible first|exact HK.out|apply Kept.alloc|apply Kept.drewN|apply Kept.drew)|exact HK.out)⟩
def laws_markClaimS.l0:Nat→List (S42)→Int→Int→Option (Int×(List (S42)))
 | 0,_,_,_=>none
 | k+1,x0,x1,x5=>if x5<(x0.length:Int) then (if 0≤x5 then ((laws_markMarkS.f k (rd_T42 x0 x5).f1 (wrap64 (x1+1))).bind fun bt=>(laws_markClaimS.l0 k (x0.set (x5:Int).toNat (⟨x1,bt.2⟩:S42)) bt.1 (wrap64 (x5+1)))) else (none)) else (some (x1,x0))
def laws_markClaimS.p (k:Nat) (l0:List (S42)) (a1:Int):Option (Int×(List (S42))):=laws_markClaimS.l0 k l0 a1 0
theorem laws_markClaimS.mono_l : ∀ k,(∀ y0 y1 y2,LeO (laws_markClaimS.l0 k y0 y1 y2) (laws_markClaimS.l0 (k+1) y0 y1 y2))
 | 0=>fun _ _ _ r h=>by simp [laws_markClaimS.l0] at h
 | k+1=>by
  have ih0:=laws_markClaimS.mono_l k
  ·intro y0 y1 y2
   unfold laws_markClaimS.l0
   repeat' first
   | (with_reducible exact ih0 _ _ _)
   | (with_reducible exact laws_markMarkS.mono _ _ _)
   | (with_reducible exact LeO.refl _)
   | (with_reducible exact LeO.none _)
   | (with_reducible refine LeO.ite ?_ ?_)
   | (with_reducible refine LeO.bind ?_ (fun _=>?_))
   | exact ih0 _ _ _
   | exact laws_markMarkS.mono _ _ _
   | exact LeO.none _
   | refine LeO.ite ?_ ?_
   | refine LeO.bind ?_ (fun _=>?_)
theorem laws_markClaimS.monoP : ∀ a0 a1 k,LeO (laws_markClaimS.p k a0 a1) (laws_markClaimS.p (k+1) a0 a1):=by
 intro a0 a1 k
 unfold laws_markClaimS.p
 exact laws_markClaimS.mono_l k _ _ _
set_option maxHeartbeats 8000000 in
set_option maxRecDepth 100000 in
theorem laws_markClaimS.callsP (k:Nat) (P0_:Nat→Prop) (u9000_:Value) (l0:List (S42)) (a1:Int) (r1:Int) (r2:List (S42)) (w0 w:World) (hB:Below w0.heap.size w0 w) (ho0:Kd.S k42 42 w w0.heap.size P0_ u9000_ l0) (h:laws_markClaimS.p k l0 a1=some (r1,r2)) :
  Calls Try.prog 11 #[u9000_,.int .i64 a1] w fun e w'=>e = .returned (.int .i64 r1)∧Kd.S k42 42 w' w0.heap.size (fun k_=>(P0_ k_∨w.heap.size≤k_)) u9000_ r2∧Below w0.heap.size w0 w'∧Kept w w' (fun k_=>P0_ k_):=by
 have HO0:=mA (show Kd.S k42 42 w w0.heap.size (fun k_=>(P0_ k_∨w.heap.size≤k_)) u9000_ l0 from Kd.S_mono ho0 (fun k_ hk=>(.inl hk)))
 have HK:=mA (Kept.refl w (fun k_=>P0_ k_))
 have HW0:=mA hB.size
 have HB:=mA hB
 clear hB
 have H:(laws_markClaimS.l0 k l0 a1 0)=some (r1,r2):=h
 clear h
 have H':=mA H
 clear H
 go_enter Try.func11,Try.ntmps11
 go_wp2
 go_loopg [1,5] k (fun kq v1 v5 w'=>∃ (x0_1:List (S42)) (x1_1:Int) (x5_1:Int),v1 = .int .i64 x1_1∧v5 = .int .i64 x5_1∧Aside0 (laws_markClaimS.l0 kq x0_1 x1_1 x5_1=some (r1,r2))∧Aside0 (kq≤k)∧Aside0 (Kd.S k42 42 w' w0.heap.size (fun k_=>(P0_ k_∨w.heap.size≤k_)) u9000_ x0_1)∧Aside0 (Kept w w' (fun k_=>P0_ k_))∧Aside0 (Below w0.heap.size w0 w'))
 case atStart=>exact ⟨(l0),(a1),(0),(by first|rfl|(simp;done)|(simp [*];done)),(by first|rfl|(simp;done)|(simp [*];done)),H',⟨Nat.le_refl _⟩,⟨by (with_reducible repeat first|apply Kd.S_alloc|apply Kd.S_drewN|apply Kd.S_drew);exact HO0.out⟩,⟨by repeat (first|(with_reducible first|exact HK.out|apply Kept.alloc|apply Kept.drewN|apply Kept.drew)|exact HK.out)⟩,⟨by repeat (first|(with_reducible first|exact HB.out|apply bA|apply bN|apply bD)|exact HB.out)⟩⟩
 case round =>
  clear H'
  try clear p2
  obtain ⟨x0_1,x1_1,x5_1,rfl,rfl,HA,HK1,HO_0,HK,HB⟩:=hrel
  cases gk with
  | zero=>exact absurd HA.out (by simp [laws_markClaimS.l0])
  | succ k1 =>
   have H:=HA.out
   clear HA
   simp only [laws_markClaimS.l0] at H
   by_cases c3:x5_1<(x0_1.length:Int)
   ·rw [if_pos c3] at H
    have c3b0:decide (x5_1<(x0_1.length:Int))=true:=decide_eq_true c3
    clear c3
    by_cases c4:0≤x5_1
    ·rw [if_pos c4] at H
     have c4b0:decide (0≤x5_1)=true:=decide_eq_true c4
     clear c4
     replace H:=Option.bind_eq_some_iff.mp H
     obtain ⟨⟨t1,t2⟩,A10,H⟩:=H
     obtain ⟨y102,hy102⟩ : ∃ y_:List (S42),y_=(x0_1.set (x5_1:Int).toNat (⟨x1_1,t2⟩:S42)):=⟨_,rfl⟩
     replace H:(laws_markClaimS.l0 k1 y102 t1 (wrap64 (x5_1+1)))=some (r1,r2):=by rw [hy102];exact H
     have Ny102:=mA hy102
     clear hy102
     have A1:=mA A10
     clear A10
     have H':=mA H
     clear H
     obtain ⟨Ao7,co7,eo7⟩:=Kd.S_slice HO_0.out
     subst eo7
     have p5:0≤(x5_1:Int):=of_decide_eq_true (by first|with_reducible assumption|assumption)
     have q5:(x5_1:Int)<((x0_1.length:Int):Int):=of_decide_eq_true (by first|with_reducible assumption|assumption)
     obtain ⟨go5,co5,eo5,gb5,gl5,HG5⟩:=Kd.S_form HO_0.out (by omega)
     (first|cases eo5|(injection eo5 with ea_ en_ ec_;(first|subst ea_|(injection ea_ with ea_;subst ea_));subst ec_;clear en_))
     have GB5:=mA gb5
     have GG5:=mA HG5
     clear gb5 gl5 HG5
     have HMgo5:=mA (show (P0_ go5∨w.heap.size≤go5) from ((Kd.S_R HO_0.out).1 _ rfl))
     obtain ⟨oki,ce5,hcl5,hM5,hcc5,hfr5,hoki,hH⟩:=Kd.S_elem HO_0.out z42 (x5_1:Int) p5 q5
     obtain ⟨ve,rfl,gR0⟩:=k42_openM hM5
     obtain ⟨Av,cv,ev⟩:=Kd.R_slice gR0
     subst ev
     have gR:=mA (show Kd.R k59 59 wr w0.heap.size oki (.slice Av ((rd_T42 x0_1 x5_1).f1).length cv) (rd_T42 x0_1 x5_1).f1 from gR0)
     clear gR0
     have hx5_0:wr.cell? ⟨go5,(x5_1:Int).toNat*2,none⟩=some (.int .i64 ((rd_T42 x0_1 x5_1).f0)):=hcc5 0 _ rfl
     have hf5_0:wr.frozen? ⟨go5,(x5_1:Int).toNat*2,none⟩=false:=hfr5 0
     clear hcl5 hcc5 hfr5 hM5
     have HOK:=mA hoki
     clear hoki
     have HP:=Kd.H_seg hH p5 q5 (seg:=[.int .i64 x1_1]) (j:=0) (show 0+1≤2 from by decide) (by intro q hq;rw [List.mem_singleton.1 hq];rfl)
     clear hH
     replace p5:=eq_true p5
     replace q5:=eq_true q5
     clear HO_0
     go_wp2_with (first|((with_reducible refine gate_store (t:=3) (p:=16) rfl ?_);refine store_event (t:=3) (p:=16) (v:=?vo_w9) (w1:=(wr.setCell ⟨go5,(x5_1:Int).toNat*2,none⟩ (.int .i64 x1_1))) ?hg ?ho ?hn ?hr ?_;(case ho=>rfl);(case hg=>rfl);(case hn=>rfl);(case hr=>first|(go_simp;done)|(go_simp;rfl));intro w9 hw;have hg:wr.grownBy w9 (some go5):=(by rw [hw];exact HP.2);have hH9:Kd.H k42 42 w9 w0.heap.size (fun k_=>(P0_ k_∨w.heap.size≤k_)) (.slice (some ⟨go5,0,none⟩) x0_1.length co7) x0_1 x5_1 oki [.int .i64 x1_1,.slice Av ((rd_T42 x0_1 x5_1).f1).length cv]:=(by rw [hw];exact HP.1);clear HP;have n0_:=mA (Kd.R_grown gR.out hg (fun k_ hk_ e_=>(HOK.out k_ hk_).2 (Option.some.inj e_)));have n1_:=mA ((by rw [hw];exact bS (HB.out) GB5.out:Below w0.heap.size w0 w9));have n2_:=mA (Kept.of_grown (S:=(fun k_=>P0_ k_)) hg HK.out (fun k_ e_=>by have e2_:=Option.some.inj e_;rw [←e2_];exact HMgo5.out));clear gR HB HK hx5_0 hf5_0;have gR:=n0_;have HB:=n1_;have HK:=n2_;clear n0_ n1_ n2_;have hat:=Kd.H_at hH9 (of_eq_true p5) (of_eq_true q5);have hx6_1:w9.cell? ⟨go5,(x5_1:Int).toNat*2+1,none⟩=some (.slice Av ((rd_T42 x0_1 x5_1).f1).length cv):=hat.1 1 _ rfl;have hf6_1:w9.frozen? ⟨go5,(x5_1:Int).toNat*2+1,none⟩=false:=hat.2 1;have HH:=mA hH9;clear hat hH9 hg hw)|((with_reducible refine gate_callee (f:=30) rfl ?_);refine goesL_ (some 25) rfl rfl Try.func30 (by kernel_rfl) rfl #[.slice Av ((rd_T42 x0_1 x5_1).f1).length cv,.int .i64 (wrap64 (x1_1+1))] rfl (by (try simp only [mT,mC,mN]);first|done|rfl|(simp only [lD,lT];rfl)) ?_;(with_reducible refine (laws_markMarkS.calls k1 oki (.slice Av ((rd_T42 x0_1 x5_1).f1).length cv) (rd_T42 x0_1 x5_1).f1 (wrap64 (x1_1+1)) t1 t2 w0 _ ?side1 ?side2 A1.out).mono ?_);(case side1=>repeat first|(with_reducible first|exact HB.out|apply bA|apply bN|apply bD)|exact HB.out);(case side2=>(with_reducible repeat first|apply rA|apply rN|apply rD);exact gR.out);rintro e w10 ⟨rfl,hR,hb,hk⟩;refine ⟨_,rfl,?_⟩;have HR10:=mA hR;have HB10:=mA hb;have HK10:=mA hk;clear hR hb hk))
     go_roundg k1
     case measure=>have:=HK1.out;omega
     case rel=>exact ⟨(y102),(t1),(wrap64 (x5_1+1)),rfl,rfl,H',⟨by have:=HK1.out;omega⟩,⟨by rw [Ny102.out];exact Kd.H_back (Kd.H_kept (Kd.H_widen HH.out) HK10.out (fun k_ _ hn hs=>hn (.inl hs))) (x':=(⟨x1_1,t2⟩:S42)) (k42_mkM _ _ _ (⟨x1_1,t2⟩:S42) HR10.out) (fun k_ hk=>hk.elim .inl (fun h2=>.inr ⟨.inr (Nat.le_trans HK.out.1 h2),h2⟩))⟩,⟨HK.out.then_ HK10.out (fun k_ hk=>(HOK.out k_ hk).1)⟩,HB10⟩
    ·rw [if_neg c4] at H
     exact absurd H (by simp)
   ·rw [if_neg c3] at H
    have c3b0:decide (x5_1<(x0_1.length:Int))=false:=decide_eq_false c3
    clear c3
    simp only [Option.some.injEq,Prod.mk.injEq] at H
    obtain ⟨rfl,rfl⟩:=H
    obtain ⟨Ao12,co12,eo12⟩:=Kd.S_slice HO_0.out
    subst eo12
    go_wp2
    go_ret
    exact ⟨by first|rfl|(simp [errW_none,errW_some]<;>rfl)|(simp [*, errW_none,errW_some]<;>rfl),by (with_reducible repeat first|apply Kd.S_alloc|apply Kd.S_drewN|apply Kd.S_drew);exact HO_0.out,by repeat (first|(with_reducible first|exact HB.out|apply bA|apply bN|apply bD)|exact HB.out),by repeat (first|(with_reducible first|exact HK.out|apply Kept.alloc|apply Kept.drewN|apply Kept.drew)|exact HK.out)⟩
def laws_markClaimS.f (k:Nat) (l0:List (S42)) (a1:Int):Option (Int):=(laws_markClaimS.p k l0 a1).bind fun b=>some b.1
theorem laws_markClaimS.mono : ∀ a0 a1 k,LeO (laws_markClaimS.f k a0 a1) (laws_markClaimS.f (k+1) a0 a1):=by
 intro a0 a1 k
 unfold laws_markClaimS.f
 exact LeO.bind (laws_markClaimS.monoP _ _ _) (fun _=>LeO.refl _)
theorem laws_markClaimS.reads (k:Nat) (P0_:Nat→Prop) (u9000_:Value) (l0:List (S42)) (a1:Int) (r1:Int) (w0 w:World) (hB:Below w0.heap.size w0 w) (ho0:Kd.S k42 42 w w0.heap.size P0_ u9000_ l0) (h:laws_markClaimS.f k l0 a1=some r1) :
  Calls Try.prog 11 #[u9000_,.int .i64 a1] w fun e w'=>e = .returned (.int .i64 r1)∧Below w0.heap.size w0 w'∧Kept w w' (fun k_=>∃ q,q∈42 :: k42.E ∧ ∃ cells,w.heap[k_]?=some (.cells cells q (0,0))):=by
 obtain ⟨⟨b1,b2⟩,hb,he⟩:=Option.bind_eq_some_iff.mp h
 have e1:b1=r1:=Option.some.inj he
 subst e1
 refine (laws_markClaimS.callsP k _ u9000_ l0 a1 b1 b2 w0 w hB (Kd.S_bound ho0) hb).mono ?_
 rintro e w' ⟨h1,_,h3,h4⟩
 exact ⟨h1,h3,h4.mono (fun k_ hk=>hk.2.2.2)⟩
/-- Rows of another type stay. -/
theorem laws_markClaimS.row {α:Type} {d:Kd α} {e base:Nat} {ok:Nat→Prop} {w w':World} {v:Value} {xs:List α} (h:d.R e w base ok v xs) (hk:Kept w w' (fun k_=>∃ q,q∈42 :: k42.E ∧ ∃ cells,w.heap[k_]?=some (.cells cells q (0,0)))) (ht : ∀ q,q∈42 :: k42.E→q∉e :: d.E):d.R e w' base ok v xs:=by
 refine rM (Kd.R_kept (Kd.R_bound h) hk (fun k_ h1 h2=>?_)) (fun k_ h1=>h1.1)
 obtain ⟨q,hq,c,hc⟩:=h2
 obtain ⟨q2,hq2,c2,hc2⟩:=h1.2.2.2
 rw [hc] at hc2
 have e_:q=q2:=by injection Option.some.inj hc2
 subst e_
 exact ht q hq hq2
/-! ### laws_heldMarkS: function 31 -/
def laws_heldMarkS.l0:Nat→List (S59)→Int→Int→Option (Int)
 | 0,_,_,_=>none
 | k+1,x0,x1,x5=>if x5<(x0.length:Int) then (if 0≤x5 then (if ((rd_T59 x0 x5).f0)=x1 then (if ((rd_T59 x0 x5).f1)=(wrap64 (x1+1)) then (laws_heldMarkS.l0 k x0 (wrap64 ((wrap64 (x1+1))+1)) (wrap64 (x5+1))) else (some (-1))) else (some (-1))) else (none)) else (some x1)
def laws_heldMarkS.f (k:Nat) (l0:List (S59)) (a1:Int):Option (Int):=laws_heldMarkS.l0 k l0 a1 0
theorem laws_heldMarkS.mono_l : ∀ k,(∀ y0 y1 y2,LeO (laws_heldMarkS.l0 k y0 y1 y2) (laws_heldMarkS.l0 (k+1) y0 y1 y2))
 | 0=>fun _ _ _ r h=>by simp [laws_heldMarkS.l0] at h
 | k+1=>by
  have ih0:=laws_heldMarkS.mono_l k
  ·intro y0 y1 y2
   unfold laws_heldMarkS.l0
   repeat' first
   | (with_reducible exact ih0 _ _ _)
   | (with_reducible exact LeO.refl _)
   | (with_reducible exact LeO.none _)
   | (with_reducible refine LeO.ite ?_ ?_)
   | (with_reducible refine LeO.bind ?_ (fun _=>?_))
   | exact ih0 _ _ _
   | exact LeO.none _
   | refine LeO.ite ?_ ?_
   | refine LeO.bind ?_ (fun _=>?_)
theorem laws_heldMarkS.mono : ∀ a0 a1 k,LeO (laws_heldMarkS.f k a0 a1) (laws_heldMarkS.f (k+1) a0 a1):=by
 intro a0 a1 k
 have ih0:=laws_heldMarkS.mono_l k
 unfold laws_heldMarkS.f
 repeat' first
   | (with_reducible exact ih0 _ _ _)
   | (with_reducible exact LeO.refl _)
   | (with_reducible exact LeO.none _)
   | (with_reducible refine LeO.ite ?_ ?_)
   | (with_reducible refine LeO.bind ?_ (fun _=>?_))
   | exact ih0 _ _ _
   | exact LeO.none _
   | refine LeO.ite ?_ ?_
   | refine LeO.bind ?_ (fun _=>?_)
set_option maxHeartbeats 8000000 in
set_option maxRecDepth 100000 in
theorem laws_heldMarkS.calls (k:Nat) (A0:Option Addr) (c0:Nat) (l0:List (S59)) (a1:Int) (r:Int) (w:World) (hr0:Kd.C k59 w A0 l0.length l0) (hc0:l0.length≤c0) (h:laws_heldMarkS.f k l0 a1=some r) :
  Calls Try.prog 31 #[.slice A0 l0.length c0,.int .i64 a1] w fun e w'=>e = .returned (.int .i64 r)∧Drawn0 w w':=by
 have HR0:=mA hr0
 have HC0:=mA hc0
 clear hr0 hc0
 have H:(laws_heldMarkS.l0 k l0 a1 0)=some r:=h
 clear h
 have H':=mA H
 clear H
 go_enter Try.func31,Try.ntmps31
 go_wp2
 go_loopg [1,5] k (fun kq v1 v5 w'=>∃ (x1_1:Int) (x5_1:Int),v1 = .int .i64 x1_1∧v5 = .int .i64 x5_1∧Aside0 (laws_heldMarkS.l0 kq l0 x1_1 x5_1=some r)∧Aside0 (kq≤k)∧Drawn0 w w')
 case atStart=>exact ⟨(a1),(0),(by first|rfl|(simp;done)|(simp [*];done)),(by first|rfl|(simp;done)|(simp [*];done)),H',⟨Nat.le_refl _⟩,by repeat (first|exact Drawn0.refl _|apply Drawn0.step)⟩
 case round =>
  clear H'
  try clear p2
  obtain ⟨x1_1,x5_1,rfl,rfl,HA,HK1,⟨m1,rfl⟩⟩:=hrel
  cases gk with
  | zero=>exact absurd HA.out (by simp [laws_heldMarkS.l0])
  | succ k1 =>
   have H:=HA.out
   clear HA
   simp only [laws_heldMarkS.l0] at H
   by_cases c3:x5_1<(l0.length:Int)
   ·rw [if_pos c3] at H
    have c3b0:decide (x5_1<(l0.length:Int))=true:=decide_eq_true c3
    clear c3
    by_cases c4:0≤x5_1
    ·rw [if_pos c4] at H
     have c4b0:decide (0≤x5_1)=true:=decide_eq_true c4
     clear c4
     by_cases c5:((rd_T59 l0 x5_1).f0)=x1_1
     ·rw [if_pos c5] at H
      have c5b0:(((rd_T59 l0 x5_1).f0)==x1_1)=true:=beq_iff_eq.mpr c5
      have c5b1:(((rd_T59 l0 x5_1).f0) != x1_1)=false:=bne_eq_false_iff_eq.mpr c5
      clear c5
      by_cases c6:((rd_T59 l0 x5_1).f1)=(wrap64 (x1_1+1))
      ·rw [if_pos c6] at H
       have c6b0:(((rd_T59 l0 x5_1).f1)==(wrap64 (x1_1+1)))=true:=beq_iff_eq.mpr c6
       have c6b1:(((rd_T59 l0 x5_1).f1) != (wrap64 (x1_1+1)))=false:=bne_eq_false_iff_eq.mpr c6
       clear c6
       have H':=mA H
       clear H
       have p101:0≤(x5_1:Int):=of_decide_eq_true (by first|with_reducible assumption|assumption)
       have q101:x5_1<(l0.length:Int):=of_decide_eq_true (by first|with_reducible assumption|assumption)
       obtain ⟨ad101,e101,hx101_0,hx101_1⟩:=at_T59 HR0.out x5_1 p101 q101
       cases e101
       replace p101:=eq_true p101
       replace q101:=eq_true q101
       have p102:0≤(x5_1:Int):=of_decide_eq_true (by first|with_reducible assumption|assumption)
       have q102:x5_1<(l0.length:Int):=of_decide_eq_true (by first|with_reducible assumption|assumption)
       obtain ⟨ad102,e102,hx102_0,hx102_1⟩:=at_T59 HR0.out x5_1 p102 q102
       obtain rfl:ad101=ad102:=(by injection e102)
       replace p102:=eq_true p102
       replace q102:=eq_true q102
       go_wp2
       go_roundg k1
       case measure=>have:=HK1.out;omega
       case rel=>exact ⟨(wrap64 ((wrap64 (x1_1+1))+1)),(wrap64 (x5_1+1)),(by first|rfl|(simp;done)|(simp [*];done)),(by first|rfl|(simp;done)|(simp [*];done)),H',⟨by have:=HK1.out;omega⟩,by repeat (first|exact Drawn0.refl _|apply Drawn0.step)⟩
      ·rw [if_neg c6] at H
       have c6b0:(((rd_T59 l0 x5_1).f1)==(wrap64 (x1_1+1)))=false:=beq_eq_false_iff_ne.mpr c6
       have c6b1:(((rd_T59 l0 x5_1).f1) != (wrap64 (x1_1+1)))=true:=bne_iff_ne.mpr c6
       obtain rfl:=Option.some.inj H
       have p101:0≤(x5_1:Int):=of_decide_eq_true (by first|with_reducible assumption|assumption)
       have q101:x5_1<(l0.length:Int):=of_decide_eq_true (by first|with_reducible assumption|assumption)
       obtain ⟨ad101,e101,hx101_0,hx101_1⟩:=at_T59 HR0.out x5_1 p101 q101
       cases e101
       replace p101:=eq_true p101
       replace q101:=eq_true q101
       have p102:0≤(x5_1:Int):=of_decide_eq_true (by first|with_reducible assumption|assumption)
       have q102:x5_1<(l0.length:Int):=of_decide_eq_true (by first|with_reducible assumption|assumption)
       obtain ⟨ad102,e102,hx102_0,hx102_1⟩:=at_T59 HR0.out x5_1 p102 q102
       obtain rfl:ad101=ad102:=(by injection e102)
       replace p102:=eq_true p102
       replace q102:=eq_true q102
       go_wp2
       go_ret
       exact ⟨by first|rfl|(simp;done)|(simp [*];done),by repeat (first|exact Drawn0.refl _|apply Drawn0.step)⟩
     ·rw [if_neg c5] at H
      have c5b0:(((rd_T59 l0 x5_1).f0)==x1_1)=false:=beq_eq_false_iff_ne.mpr c5
      have c5b1:(((rd_T59 l0 x5_1).f0) != x1_1)=true:=bne_iff_ne.mpr c5
      obtain rfl:=Option.some.inj H
      have p101:0≤(x5_1:Int):=of_decide_eq_true (by first|with_reducible assumption|assumption)
      have q101:x5_1<(l0.length:Int):=of_decide_eq_true (by first|with_reducible assumption|assumption)
      obtain ⟨ad101,e101,hx101_0,hx101_1⟩:=at_T59 HR0.out x5_1 p101 q101
      cases e101
      replace p101:=eq_true p101
      replace q101:=eq_true q101
      go_wp2
      go_ret
      exact ⟨by first|rfl|(simp;done)|(simp [*];done),by repeat (first|exact Drawn0.refl _|apply Drawn0.step)⟩
    ·rw [if_neg c4] at H
     exact absurd H (by simp)
   ·rw [if_neg c3] at H
    have c3b0:decide (x5_1<(l0.length:Int))=false:=decide_eq_false c3
    clear c3
    obtain rfl:=Option.some.inj H
    go_wp2
    go_ret
    exact ⟨by first|rfl|(simp;done)|(simp [*];done),by repeat (first|exact Drawn0.refl _|apply Drawn0.step)⟩
/-! ### laws_heldClaimS: function 12 -/
def laws_heldClaimS.l0:Nat→List (S42)→Int→Int→Option (Int)
 | 0,_,_,_=>none
 | k+1,x0,x1,x5=>if x5<(x0.length:Int) then (if 0≤x5 then (if ((rd_T42 x0 x5).f0)=x1 then ((laws_heldMarkS.f k ((rd_T42 x0 x5).f1) (wrap64 (x1+1))).bind fun t103=>(if t103<0 then (some (-1)) else (laws_heldClaimS.l0 k x0 t103 (wrap64 (x5+1))))) else (some (-1))) else (none)) else (some x1)
def laws_heldClaimS.f (k:Nat) (l0:List (S42)) (a1:Int):Option (Int):=laws_heldClaimS.l0 k l0 a1 0
theorem laws_heldClaimS.mono_l : ∀ k,(∀ y0 y1 y2,LeO (laws_heldClaimS.l0 k y0 y1 y2) (laws_heldClaimS.l0 (k+1) y0 y1 y2))
 | 0=>fun _ _ _ r h=>by simp [laws_heldClaimS.l0] at h
 | k+1=>by
  have ih0:=laws_heldClaimS.mono_l k
  ·intro y0 y1 y2
   unfold laws_heldClaimS.l0
   repeat' first
   | (with_reducible exact ih0 _ _ _)
   | (with_reducible exact laws_heldMarkS.mono _ _ _)
   | (with_reducible exact LeO.refl _)
   | (with_reducible exact LeO.none _)
   | (with_reducible refine LeO.ite ?_ ?_)
   | (with_reducible refine LeO.bind ?_ (fun _=>?_))
   | exact ih0 _ _ _
   | exact laws_heldMarkS.mono _ _ _
   | exact LeO.none _
   | refine LeO.ite ?_ ?_
   | refine LeO.bind ?_ (fun _=>?_)
theorem laws_heldClaimS.mono : ∀ a0 a1 k,LeO (laws_heldClaimS.f k a0 a1) (laws_heldClaimS.f (k+1) a0 a1):=by
 intro a0 a1 k
 have ih0:=laws_heldClaimS.mono_l k
 unfold laws_heldClaimS.f
 repeat' first
   | (with_reducible exact ih0 _ _ _)
   | (with_reducible exact laws_heldMarkS.mono _ _ _)
   | (with_reducible exact LeO.refl _)
   | (with_reducible exact LeO.none _)
   | (with_reducible refine LeO.ite ?_ ?_)
   | (with_reducible refine LeO.bind ?_ (fun _=>?_))
   | exact ih0 _ _ _
   | exact laws_heldMarkS.mono _ _ _
   | exact LeO.none _
   | refine LeO.ite ?_ ?_
   | refine LeO.bind ?_ (fun _=>?_)
set_option maxHeartbeats 8000000 in
set_option maxRecDepth 100000 in
theorem laws_heldClaimS.calls (k:Nat) (A0:Option Addr) (c0:Nat) (l0:List (S42)) (a1:Int) (r:Int) (w:World) (hr0:Kd.C k42 w A0 l0.length l0) (hc0:l0.length≤c0) (h:laws_heldClaimS.f k l0 a1=some r) :
  Calls Try.prog 12 #[.slice A0 l0.length c0,.int .i64 a1] w fun e w'=>e = .returned (.int .i64 r)∧Drawn0 w w':=by
 have HR0:=mA hr0
 have HC0:=mA hc0
 clear hr0 hc0
 have H:(laws_heldClaimS.l0 k l0 a1 0)=some r:=h
 clear h
 have H':=mA H
 clear H
 go_enter Try.func12,Try.ntmps12
 go_wp2
 go_loopg [1,5] k (fun kq v1 v5 w'=>∃ (x1_1:Int) (x5_1:Int),v1 = .int .i64 x1_1∧v5 = .int .i64 x5_1∧Aside0 (laws_heldClaimS.l0 kq l0 x1_1 x5_1=some r)∧Aside0 (kq≤k)∧Drawn0 w w')
 case atStart=>exact ⟨(a1),(0),(by first|rfl|(simp;done)|(simp [*];done)),(by first|rfl|(simp;done)|(simp [*];done)),H',⟨Nat.le_refl _⟩,by repeat (first|exact Drawn0.refl _|apply Drawn0.step)⟩
 case round =>
  clear H'
  try clear c1
  try clear p2
  obtain ⟨x1_1,x5_1,rfl,rfl,HA,HK1,⟨m1,rfl⟩⟩:=hrel
  cases gk with
  | zero=>exact absurd HA.out (by simp [laws_heldClaimS.l0])
  | succ k1 =>
   have H:=HA.out
   clear HA
   simp only [laws_heldClaimS.l0] at H
   by_cases c3:x5_1<(l0.length:Int)
   ·rw [if_pos c3] at H
    have c3b0:decide (x5_1<(l0.length:Int))=true:=decide_eq_true c3
    clear c3
    by_cases c4:0≤x5_1
    ·rw [if_pos c4] at H
     have c4b0:decide (0≤x5_1)=true:=decide_eq_true c4
     clear c4
     by_cases c5:((rd_T42 l0 x5_1).f0)=x1_1
     ·rw [if_pos c5] at H
      have c5b0:(((rd_T42 l0 x5_1).f0)==x1_1)=true:=beq_iff_eq.mpr c5
      have c5b1:(((rd_T42 l0 x5_1).f0) != x1_1)=false:=bne_eq_false_iff_eq.mpr c5
      clear c5
      replace H:=Option.bind_eq_some_iff.mp H
      obtain ⟨t103,A60,H⟩:=H
      replace H:(if t103<0 then (some (-1)) else (laws_heldClaimS.l0 k1 l0 t103 (wrap64 (x5_1+1))))=some r:=H
      have A6:=mA A60
      clear A60
      by_cases c7:t103<0
      ·rw [if_pos c7] at H
       have c7b0:decide (t103<0)=true:=decide_eq_true c7
       clear c7
       obtain rfl:=Option.some.inj H
       have p101:0≤(x5_1:Int):=of_decide_eq_true (by first|with_reducible assumption|assumption)
       have q101:x5_1<(l0.length:Int):=of_decide_eq_true (by first|with_reducible assumption|assumption)
       obtain ⟨ad101,A101_1,c101_1,e101,hx101_0,hx101_1,hl101_1,hi101_1⟩:=at_T42 HR0.out x5_1 p101 q101
       cases e101
       have HR101_1:=mA hi101_1
       have HC101_1:=mA hl101_1
       clear hi101_1 hl101_1
       replace p101:=eq_true p101
       replace q101:=eq_true q101
       have p102:0≤(x5_1:Int):=of_decide_eq_true (by first|with_reducible assumption|assumption)
       have q102:x5_1<(l0.length:Int):=of_decide_eq_true (by first|with_reducible assumption|assumption)
       obtain ⟨ad102,A102_1,c102_1,e102,hx102_0,hx102_1,hl102_1,hi102_1⟩:=at_T42 HR0.out x5_1 p102 q102
       obtain rfl:ad101=ad102:=(by injection e102)
       have HR102_1:=mA hi102_1
       have HC102_1:=mA hl102_1
       clear hi102_1 hl102_1
       replace p102:=eq_true p102
       replace q102:=eq_true q102
       have ea_:=Option.some.inj (hx101_1.symm.trans hx102_1)
       injection ea_ with ea_ en_ ec_
       subst ea_
       subst ec_
       clear en_
       go_wp2_with (first|((with_reducible refine gate_callee (f:=31) rfl ?_);refine goesL_ (some 27) rfl rfl Try.func31 (by kernel_rfl) rfl #[.slice A101_1 ((rd_T42 l0 x5_1).f1).length c101_1,.int .i64 (wrap64 (x1_1+1))] rfl (by (try simp only [mT,mC,mN]);first|done|rfl|(simp only [lD,lT];rfl)) ?_;(with_reducible refine (laws_heldMarkS.calls k1 _ _ ((rd_T42 l0 x5_1).f1) (wrap64 (x1_1+1)) t103 _ ?side1 ?side2 A6.out).mono ?_);(case side1=>repeat first|exact HR102_1.out|(with_reducible refine cA ?_ _)|(with_reducible refine cN ?_ _)|(with_reducible refine cD ?_));(case side2=>exact HC102_1.out);rintro e w' ⟨rfl,⟨nd,rfl⟩⟩;refine ⟨_,rfl,?_⟩))
       go_ret
       exact ⟨by first|rfl|(simp;done)|(simp [*];done),by repeat (first|exact Drawn0.refl _|apply Drawn0.step)⟩
      ·rw [if_neg c7] at H
       have c7b0:decide (t103<0)=false:=decide_eq_false c7
       clear c7
       have H':=mA H
       clear H
       have p101:0≤(x5_1:Int):=of_decide_eq_true (by first|with_reducible assumption|assumption)
       have q101:x5_1<(l0.length:Int):=of_decide_eq_true (by first|with_reducible assumption|assumption)
       obtain ⟨ad101,A101_1,c101_1,e101,hx101_0,hx101_1,hl101_1,hi101_1⟩:=at_T42 HR0.out x5_1 p101 q101
       cases e101
       have HR101_1:=mA hi101_1
       have HC101_1:=mA hl101_1
       clear hi101_1 hl101_1
       replace p101:=eq_true p101
       replace q101:=eq_true q101
       have p102:0≤(x5_1:Int):=of_decide_eq_true (by first|with_reducible assumption|assumption)
       have q102:x5_1<(l0.length:Int):=of_decide_eq_true (by first|with_reducible assumption|assumption)
       obtain ⟨ad102,A102_1,c102_1,e102,hx102_0,hx102_1,hl102_1,hi102_1⟩:=at_T42 HR0.out x5_1 p102 q102
       obtain rfl:ad101=ad102:=(by injection e102)
       have HR102_1:=mA hi102_1
       have HC102_1:=mA hl102_1
       clear hi102_1 hl102_1
       replace p102:=eq_true p102
       replace q102:=eq_true q102
       have ea_:=Option.some.inj (hx101_1.symm.trans hx102_1)
       injection ea_ with ea_ en_ ec_
       subst ea_
       subst ec_
       clear en_
       go_wp2_with (first|((with_reducible refine gate_callee (f:=31) rfl ?_);refine goesL_ (some 27) rfl rfl Try.func31 (by kernel_rfl) rfl #[.slice A101_1 ((rd_T42 l0 x5_1).f1).length c101_1,.int .i64 (wrap64 (x1_1+1))] rfl (by (try simp only [mT,mC,mN]);first|done|rfl|(simp only [lD,lT];rfl)) ?_;(with_reducible refine (laws_heldMarkS.calls k1 _ _ ((rd_T42 l0 x5_1).f1) (wrap64 (x1_1+1)) t103 _ ?side1 ?side2 A6.out).mono ?_);(case side1=>repeat first|exact HR102_1.out|(with_reducible refine cA ?_ _)|(with_reducible refine cN ?_ _)|(with_reducible refine cD ?_));(case side2=>exact HC102_1.out);rintro e w' ⟨rfl,⟨nd,rfl⟩⟩;refine ⟨_,rfl,?_⟩))
       go_roundg k1
       case measure=>have:=HK1.out;omega
       case rel=>exact ⟨(t103),(wrap64 (x5_1+1)),(by first|rfl|(simp;done)|(simp [*];done)),(by first|rfl|(simp;done)|(simp [*];done)),H',⟨by have:=HK1.out;omega⟩,by repeat (first|exact Drawn0.refl _|apply Drawn0.step)⟩
     ·rw [if_neg c5] at H
      have c5b0:(((rd_T42 l0 x5_1).f0)==x1_1)=false:=beq_eq_false_iff_ne.mpr c5
      have c5b1:(((rd_T42 l0 x5_1).f0) != x1_1)=true:=bne_iff_ne.mpr c5
      obtain rfl:=Option.some.inj H
      have p101:0≤(x5_1:Int):=of_decide_eq_true (by first|with_reducible assumption|assumption)
      have q101:x5_1<(l0.length:Int):=of_decide_eq_true (by first|with_reducible assumption|assumption)
      obtain ⟨ad101,A101_1,c101_1,e101,hx101_0,hx101_1,hl101_1,hi101_1⟩:=at_T42 HR0.out x5_1 p101 q101
      cases e101
      have HR101_1:=mA hi101_1
      have HC101_1:=mA hl101_1
      clear hi101_1 hl101_1
      replace p101:=eq_true p101
      replace q101:=eq_true q101
      go_wp2
      go_ret
      exact ⟨by first|rfl|(simp;done)|(simp [*];done),by repeat (first|exact Drawn0.refl _|apply Drawn0.step)⟩
    ·rw [if_neg c4] at H
     exact absurd H (by simp)
   ·rw [if_neg c3] at H
    have c3b0:decide (x5_1<(l0.length:Int))=false:=decide_eq_false c3
    clear c3
    obtain rfl:=Option.some.inj H
    go_wp2
    go_ret
    exact ⟨by first|rfl|(simp;done)|(simp [*];done),by repeat (first|exact Drawn0.refl _|apply Drawn0.step)⟩
/-! ### laws_FnExactLeastStory: function 3 -/
mutual
def laws_FnExactLeastStory.j0:Nat→Int→List (S38)→List (S42)→Bool→List (S42)→List (S42)→Bool→Bool→Option (Bool)
 | 0,_,_,_,_,_,_,_,_=>none
 | k+1,x0,x1,x6,x7,x8,x9,x10,x44=>if x44=true then (some false) else ((laws_toClaimS.f k x1).bind fun t117=>((laws_eqClaimS.f k x8 t117).bind fun t120=>(if t120=true then ((laws_markClaimS.f k x8 1).bind fun t121=>(if t121<0 then (laws_FnExactLeastStory.j1 k x0 x1 x6 x7 x9 true) else ((laws_eqClaimS.f k x9 x6).bind fun t122=>(if t122=true then (laws_FnExactLeastStory.j1 k x0 x1 x6 x7 x9 (x10 != x7)) else (laws_FnExactLeastStory.j1 k x0 x1 x6 x7 x9 true))))) else (some false))))
def laws_FnExactLeastStory.j1:Nat→Int→List (S38)→List (S42)→Bool→List (S42)→Bool→Option (Bool)
 | 0,_,_,_,_,_,_=>none
 | k+1,x0,x1,x6,x7,x9,x65=>if x65=true then (some false) else ((laws_markClaimS.p k x9 1).bind fun bt123=>((laws_heldClaimS.f k bt123.2 1).bind fun t124=>(if t124<0 then (some false) else (if t124=bt123.1 then ((laws_toClaimS.f k x1).bind fun t125=>((impl_LeastStory.f k x0 t125).bind fun bt128=>((laws_eqClaimS.f k bt128.1 x6).bind fun t132=>(if t132=true then (laws_FnExactLeastStory.j2 k bt123.2 bt123.1 (bt128.2 != x7)) else (laws_FnExactLeastStory.j2 k bt123.2 bt123.1 true))))) else (some false)))))
def laws_FnExactLeastStory.j2:Nat→List (S42)→Int→Bool→Option (Bool)
 | 0,_,_,_=>none
 | k+1,x9,x12,x92=>if x92=true then (some false) else ((laws_heldClaimS.f k x9 1).bind fun t133=>(if t133<0 then (some false) else (if t133=x12 then (some true) else (some false))))
end
def laws_FnExactLeastStory.f (k:Nat) (a0:Int) (l1:List (S38)):Option (Bool):=(laws_szClaimS.f k l1 1048576).bind fun t101=>(if t101<0 then (some true) else ((laws_toClaimS.f k l1).bind fun t102=>((spec_LeastStory.f k a0 t102).bind fun bt105=>((laws_toClaimS.f k l1).bind fun t109=>((impl_LeastStory.f k a0 t109).bind fun bt112=>((laws_eqClaimS.f k bt112.1 bt105.1).bind fun t116=>(if t116=true then (laws_FnExactLeastStory.j0 k a0 l1 bt105.1 bt105.2 t109 bt112.1 bt112.2 (bt112.2 != bt105.2)) else (laws_FnExactLeastStory.j0 k a0 l1 bt105.1 bt105.2 t109 bt112.1 bt112.2 true))))))))
theorem laws_FnExactLeastStory.mono_l : ∀ k,(∀ y0 y1 y2 y3 y4 y5 y6 y7,LeO (laws_FnExactLeastStory.j0 k y0 y1 y2 y3 y4 y5 y6 y7) (laws_FnExactLeastStory.j0 (k+1) y0 y1 y2 y3 y4 y5 y6 y7))∧(∀ y0 y1 y2 y3 y4 y5,LeO (laws_FnExactLeastStory.j1 k y0 y1 y2 y3 y4 y5) (laws_FnExactLeastStory.j1 (k+1) y0 y1 y2 y3 y4 y5))∧(∀ y0 y1 y2,LeO (laws_FnExactLeastStory.j2 k y0 y1 y2) (laws_FnExactLeastStory.j2 (k+1) y0 y1 y2))
 | 0=>⟨fun _ _ _ _ _ _ _ _ r h=>by simp [laws_FnExactLeastStory.j0] at h,fun _ _ _ _ _ _ r h=>by simp [laws_FnExactLeastStory.j1] at h,fun _ _ _ r h=>by simp [laws_FnExactLeastStory.j2] at h⟩
 | k+1=>by
  obtain ⟨ih0,ih1,ih2⟩:=laws_FnExactLeastStory.mono_l k
  refine ⟨?_,?_,?_⟩
  ·intro y0 y1 y2 y3 y4 y5 y6 y7
   unfold laws_FnExactLeastStory.j0
   repeat' first
   | (with_reducible exact ih0 _ _ _ _ _ _ _ _)
   | (with_reducible exact ih1 _ _ _ _ _ _)
   | (with_reducible exact ih2 _ _ _)
   | (with_reducible exact impl_LeastStory.mono _ _ _)
   | (with_reducible exact laws_eqClaimS.mono _ _ _)
   | (with_reducible exact laws_heldClaimS.mono _ _ _)
   | (with_reducible exact laws_markClaimS.mono _ _ _)
   | (with_reducible exact laws_markClaimS.monoP _ _ _)
   | (with_reducible exact laws_szClaimS.mono _ _ _)
   | (with_reducible exact laws_toClaimS.mono _ _)
   | (with_reducible exact spec_LeastStory.mono _ _ _)
   | (with_reducible exact LeO.refl _)
   | (with_reducible exact LeO.none _)
   | (with_reducible refine LeO.ite ?_ ?_)
   | (with_reducible refine LeO.bind ?_ (fun _=>?_))
   | exact ih0 _ _ _ _ _ _ _ _
   | exact ih1 _ _ _ _ _ _
   | exact ih2 _ _ _
   | exact impl_LeastStory.mono _ _ _
   | exact laws_eqClaimS.mono _ _ _
   | exact laws_heldClaimS.mono _ _ _
   | exact laws_markClaimS.mono _ _ _
   | exact laws_markClaimS.monoP _ _ _
   | exact laws_szClaimS.mono _ _ _
   | exact laws_toClaimS.mono _ _
   | exact spec_LeastStory.mono _ _ _
   | exact LeO.none _
   | refine LeO.ite ?_ ?_
   | refine LeO.bind ?_ (fun _=>?_)
  ·intro y0 y1 y2 y3 y4 y5
   unfold laws_FnExactLeastStory.j1
   repeat' first
   | (with_reducible exact ih0 _ _ _ _ _ _ _ _)
   | (with_reducible exact ih1 _ _ _ _ _ _)
   | (with_reducible exact ih2 _ _ _)
   | (with_reducible exact impl_LeastStory.mono _ _ _)
   | (with_reducible exact laws_eqClaimS.mono _ _ _)
   | (with_reducible exact laws_heldClaimS.mono _ _ _)
   | (with_reducible exact laws_markClaimS.mono _ _ _)
   | (with_reducible exact laws_markClaimS.monoP _ _ _)
   | (with_reducible exact laws_szClaimS.mono _ _ _)
   | (with_reducible exact laws_toClaimS.mono _ _)
   | (with_reducible exact spec_LeastStory.mono _ _ _)
   | (with_reducible exact LeO.refl _)
   | (with_reducible exact LeO.none _)
   | (with_reducible refine LeO.ite ?_ ?_)
   | (with_reducible refine LeO.bind ?_ (fun _=>?_))
   | exact ih0 _ _ _ _ _ _ _ _
   | exact ih1 _ _ _ _ _ _
   | exact ih2 _ _ _
   | exact impl_LeastStory.mono _ _ _
   | exact laws_eqClaimS.mono _ _ _
   | exact laws_heldClaimS.mono _ _ _
   | exact laws_markClaimS.mono _ _ _
   | exact laws_markClaimS.monoP _ _ _
   | exact laws_szClaimS.mono _ _ _
   | exact laws_toClaimS.mono _ _
   | exact spec_LeastStory.mono _ _ _
   | exact LeO.none _
   | refine LeO.ite ?_ ?_
   | refine LeO.bind ?_ (fun _=>?_)
  ·intro y0 y1 y2
   unfold laws_FnExactLeastStory.j2
   repeat' first
   | (with_reducible exact ih0 _ _ _ _ _ _ _ _)
   | (with_reducible exact ih1 _ _ _ _ _ _)
   | (with_reducible exact ih2 _ _ _)
   | (with_reducible exact impl_LeastStory.mono _ _ _)
   | (with_reducible exact laws_eqClaimS.mono _ _ _)
   | (with_reducible exact laws_heldClaimS.mono _ _ _)
   | (with_reducible exact laws_markClaimS.mono _ _ _)
   | (with_reducible exact laws_markClaimS.monoP _ _ _)
   | (with_reducible exact laws_szClaimS.mono _ _ _)
   | (with_reducible exact laws_toClaimS.mono _ _)
   | (with_reducible exact spec_LeastStory.mono _ _ _)
   | (with_reducible exact LeO.refl _)
   | (with_reducible exact LeO.none _)
   | (with_reducible refine LeO.ite ?_ ?_)
   | (with_reducible refine LeO.bind ?_ (fun _=>?_))
   | exact ih0 _ _ _ _ _ _ _ _
   | exact ih1 _ _ _ _ _ _
   | exact ih2 _ _ _
   | exact impl_LeastStory.mono _ _ _
   | exact laws_eqClaimS.mono _ _ _
   | exact laws_heldClaimS.mono _ _ _
   | exact laws_markClaimS.mono _ _ _
   | exact laws_markClaimS.monoP _ _ _
   | exact laws_szClaimS.mono _ _ _
   | exact laws_toClaimS.mono _ _
   | exact spec_LeastStory.mono _ _ _
   | exact LeO.none _
   | refine LeO.ite ?_ ?_
   | refine LeO.bind ?_ (fun _=>?_)
theorem laws_FnExactLeastStory.mono : ∀ a0 a1 k,LeO (laws_FnExactLeastStory.f k a0 a1) (laws_FnExactLeastStory.f (k+1) a0 a1):=by
 intro a0 a1 k
 obtain ⟨ih0,ih1,ih2⟩:=laws_FnExactLeastStory.mono_l k
 unfold laws_FnExactLeastStory.f
 repeat' first
   | (with_reducible exact ih0 _ _ _ _ _ _ _ _)
   | (with_reducible exact ih1 _ _ _ _ _ _)
   | (with_reducible exact ih2 _ _ _)
   | (with_reducible exact impl_LeastStory.mono _ _ _)
   | (with_reducible exact laws_eqClaimS.mono _ _ _)
   | (with_reducible exact laws_heldClaimS.mono _ _ _)
   | (with_reducible exact laws_markClaimS.mono _ _ _)
   | (with_reducible exact laws_markClaimS.monoP _ _ _)
   | (with_reducible exact laws_szClaimS.mono _ _ _)
   | (with_reducible exact laws_toClaimS.mono _ _)
   | (with_reducible exact spec_LeastStory.mono _ _ _)
   | (with_reducible exact LeO.refl _)
   | (with_reducible exact LeO.none _)
   | (with_reducible refine LeO.ite ?_ ?_)
   | (with_reducible refine LeO.bind ?_ (fun _=>?_))
   | exact ih0 _ _ _ _ _ _ _ _
   | exact ih1 _ _ _ _ _ _
   | exact ih2 _ _ _
   | exact impl_LeastStory.mono _ _ _
   | exact laws_eqClaimS.mono _ _ _
   | exact laws_heldClaimS.mono _ _ _
   | exact laws_markClaimS.mono _ _ _
   | exact laws_markClaimS.monoP _ _ _
   | exact laws_szClaimS.mono _ _ _
   | exact laws_toClaimS.mono _ _
   | exact spec_LeastStory.mono _ _ _
   | exact LeO.none _
   | refine LeO.ite ?_ ?_
   | refine LeO.bind ?_ (fun _=>?_)
theorem laws_markClaimS.readsN (k:Nat) (P0_:Nat→Prop) (u9000_:Value) (l0:List (S42)) (a1:Int) (r1:Int) (w0 w:World) (hB:Below w0.heap.size w0 w) (ho0:Kd.S k42 42 w w0.heap.size P0_ u9000_ l0) (h:laws_markClaimS.f k l0 a1=some r1) :
  Calls Try.prog 11 #[u9000_,.int .i64 a1] w fun e w'=>e = .returned (.int .i64 r1)∧Below w0.heap.size w0 w'∧Kept w w' (fun k_=>P0_ k_):=by
 obtain ⟨⟨b1,b2⟩,hb,he⟩:=Option.bind_eq_some_iff.mp h
 have e1:b1=r1:=Option.some.inj he
 subst e1
 refine (laws_markClaimS.callsP k P0_ u9000_ l0 a1 b1 b2 w0 w hB ho0 hb).mono ?_
 rintro e w' ⟨h1,_,h3,h4⟩
 exact ⟨h1,h3,h4⟩
set_option maxHeartbeats 8000000 in
set_option maxRecDepth 100000 in
theorem laws_FnExactLeastStory.calls (k:Nat) (a0:Int) (A1:Option Addr) (c1:Nat) (l1:List (S38)) (r:Bool) (w:World) (hr1:Kd.C k38 w A1 l1.length l1) (hc1:l1.length≤c1) (hr_:Aside0 (r=true)) (h:laws_FnExactLeastStory.f k a0 l1=some r) :
  Calls Try.prog 3 #[.int .i64 a0,.slice A1 l1.length c1] w fun e w'=>e = .returned (.bool r)∧Below w.heap.size w w':=by
 have HR1:=mA hr1
 have HC1:=mA hc1
 clear hr1 hc1
 have HB:=mA (Below.refl w.heap.size w)
 have H:((laws_szClaimS.f k l1 1048576).bind fun t101=>(if t101<0 then (some true) else ((laws_toClaimS.f k l1).bind fun t102=>((spec_LeastStory.f k a0 t102).bind fun bt105=>((laws_toClaimS.f k l1).bind fun t109=>((impl_LeastStory.f k a0 t109).bind fun bt112=>((laws_eqClaimS.f k bt112.1 bt105.1).bind fun t116=>(if t116=true then (laws_FnExactLeastStory.j0 k a0 l1 bt105.1 bt105.2 t109 bt112.1 bt112.2 (bt112.2 != bt105.2)) else (laws_FnExactLeastStory.j0 k a0 l1 bt105.1 bt105.2 t109 bt112.1 bt112.2 true)))))))))=some r:=h
 clear h
 replace H:=Option.bind_eq_some_iff.mp H
 obtain ⟨t101,A30,H⟩:=H
 replace H:(if t101<0 then (some true) else ((laws_toClaimS.f k l1).bind fun t102=>((spec_LeastStory.f k a0 t102).bind fun bt105=>((laws_toClaimS.f k l1).bind fun t109=>((impl_LeastStory.f k a0 t109).bind fun bt112=>((laws_eqClaimS.f k bt112.1 bt105.1).bind fun t116=>(if t116=true then (laws_FnExactLeastStory.j0 k a0 l1 bt105.1 bt105.2 t109 bt112.1 bt112.2 (bt112.2 != bt105.2)) else (laws_FnExactLeastStory.j0 k a0 l1 bt105.1 bt105.2 t109 bt112.1 bt112.2 true))))))))=some r:=H
 have A3:=mA A30
 clear A30
 by_cases c4:t101<0
 ·rw [if_pos c4] at H
  have c4b0:decide (t101<0)=true:=decide_eq_true c4
  clear c4
  obtain rfl:=Option.some.inj H
  go_enter Try.func3,Try.ntmps3
  go_wp2_with (first|((with_reducible refine gate_callee (f:=6) rfl ?_);refine goesL_ (some 18) rfl rfl Try.func6 (by kernel_rfl) rfl #[.slice A1 l1.length c1,.int .i64 1048576] rfl (by (try simp only [mT,mC,mN]);first|done|rfl|(simp only [lD,lT];rfl)) ?_;(with_reducible refine (laws_szClaimS.calls k _ _ l1 1048576 t101 _ ?side1 ?side2 A3.out).mono ?_);(case side1=>repeat first|exact HR1.out|(with_reducible refine cA ?_ _)|(with_reducible refine cN ?_ _)|(with_reducible refine cD ?_));(case side2=>exact HC1.out);rintro e w5 ⟨rfl,hb⟩;refine ⟨_,rfl,?_⟩;have n0_:=mA (bT (by repeat first|(with_reducible first|exact HB.out|apply bA|apply bN|apply bD)|exact HB.out) hb);clear HB;have HB:=n0_;clear n0_;(try clear hb);(try clear hb2);(try clear hk);(try clear hi)))
  go_ret
  exact ⟨by first|rfl|(simp [errW_none,errW_some]<;>rfl)|(simp [*, errW_none,errW_some]<;>rfl),by repeat (first|(with_reducible first|exact HB.out|apply bA|apply bN|apply bD)|exact HB.out)⟩
 ·rw [if_neg c4] at H
  have c4b0:decide (t101<0)=false:=decide_eq_false c4
  clear c4
  replace H:=Option.bind_eq_some_iff.mp H
  obtain ⟨t102,A60,H⟩:=H
  replace H:((spec_LeastStory.f k a0 t102).bind fun bt105=>((laws_toClaimS.f k l1).bind fun t109=>((impl_LeastStory.f k a0 t109).bind fun bt112=>((laws_eqClaimS.f k bt112.1 bt105.1).bind fun t116=>(if t116=true then (laws_FnExactLeastStory.j0 k a0 l1 bt105.1 bt105.2 t109 bt112.1 bt112.2 (bt112.2 != bt105.2)) else (laws_FnExactLeastStory.j0 k a0 l1 bt105.1 bt105.2 t109 bt112.1 bt112.2 true))))))=some r:=H
  have A6:=mA A60
  clear A60
  replace H:=Option.bind_eq_some_iff.mp H
  obtain ⟨⟨t105,t108⟩,A70,H⟩:=H
  replace H:((laws_toClaimS.f k l1).bind fun t109=>((impl_LeastStory.f k a0 t109).bind fun bt112=>((laws_eqClaimS.f k bt112.1 t105).bind fun t116=>(if t116=true then (laws_FnExactLeastStory.j0 k a0 l1 t105 t108 t109 bt112.1 bt112.2 (bt112.2 != t108)) else (laws_FnExactLeastStory.j0 k a0 l1 t105 t108 t109 bt112.1 bt112.2 true)))))=some r:=H
  have A7:=mA A70
  clear A70
  replace H:=Option.bind_eq_some_iff.mp H
  obtain ⟨t109,A80,H⟩:=H
  replace H:((impl_LeastStory.f k a0 t109).bind fun bt112=>((laws_eqClaimS.f k bt112.1 t105).bind fun t116=>(if t116=true then (laws_FnExactLeastStory.j0 k a0 l1 t105 t108 t109 bt112.1 bt112.2 (bt112.2 != t108)) else (laws_FnExactLeastStory.j0 k a0 l1 t105 t108 t109 bt112.1 bt112.2 true))))=some r:=H
  have A8:=mA A80
  clear A80
  replace H:=Option.bind_eq_some_iff.mp H
  obtain ⟨⟨t112,t115⟩,A90,H⟩:=H
  replace H:((laws_eqClaimS.f k t112 t105).bind fun t116=>(if t116=true then (laws_FnExactLeastStory.j0 k a0 l1 t105 t108 t109 t112 t115 (t115 != t108)) else (laws_FnExactLeastStory.j0 k a0 l1 t105 t108 t109 t112 t115 true)))=some r:=H
  have A9:=mA A90
  clear A90
  have HC10:=mA H
  clear H
  go_enter Try.func3,Try.ntmps3
  go_upto_region 8 with (first|((with_reducible refine gate_callee (f:=6) rfl ?_);refine goesL_ (some 18) rfl rfl Try.func6 (by kernel_rfl) rfl #[.slice A1 l1.length c1,.int .i64 1048576] rfl (by (try simp only [mT,mC,mN]);first|done|rfl|(simp only [lD,lT];rfl)) ?_;(with_reducible refine (laws_szClaimS.calls k _ _ l1 1048576 t101 _ ?side1 ?side2 A3.out).mono ?_);(case side1=>repeat first|exact HR1.out|(with_reducible refine cA ?_ _)|(with_reducible refine cN ?_ _)|(with_reducible refine cD ?_));(case side2=>exact HC1.out);rintro e w11 ⟨rfl,hb⟩;refine ⟨_,rfl,?_⟩;have HB2_:=mA (bT (by repeat first|(with_reducible first|exact HB.out|apply bA|apply bN|apply bD)|exact HB.out) hb);clear HB;have HB:=HB2_;clear  HB2_;(try clear hb);(try clear ho0))|((with_reducible refine gate_callee (f:=8) rfl ?_);refine goesL_ (some 24) rfl rfl Try.func8 (by kernel_rfl) rfl #[.slice A1 l1.length c1] rfl (by (try simp only [mT,mC,mN]);first|done|rfl|(simp only [lD,lT];rfl)) ?_;(with_reducible refine (laws_toClaimS.calls k _ _ l1 t102 _ ?side1 ?side2 A6.out).mono ?_);(case side1=>repeat first|exact (Kd.C_below HR1.out HB.out)|(with_reducible refine cA ?_ _)|(with_reducible refine cN ?_ _)|(with_reducible refine cD ?_));(case side2=>exact HC1.out);rintro e w12 ⟨v103,rfl,ho0,hb⟩;refine ⟨_,rfl,?_⟩;have nn_:=mA (Kd.N_lower (Kd.N_mono (ok':=fun _=>True) (Kd.S_N ho0) (fun _ _=>trivial)) (bZ (by repeat first|(with_reducible first|exact HB.out|apply bA|apply bN|apply bD)|exact HB.out)));have HB2_:=mA (bT (by repeat first|(with_reducible first|exact HB.out|apply bA|apply bN|apply bD)|exact HB.out) hb);clear HB;have HO104:=nn_;have HB:=HB2_;clear  HB2_ nn_;(try clear hb);(try clear ho0);obtain ⟨Ao13,co13,eo13⟩:=Kd.N_slice HO104.out;subst eo13)|((with_reducible refine gate_callee (f:=7) rfl ?_);refine goesL_ (some 25) rfl rfl Try.func7 (by kernel_rfl) rfl #[.int .i64 a0,.slice Ao13 t102.length co13] rfl (by (try simp only [mT,mC,mN]);first|done|rfl|(simp only [lD,lT];rfl)) ?_;(with_reducible refine (spec_LeastStory.calls k a0 _ _ t102 t105 t108 _ ?side1 ?side2 A7.out).mono ?_);(case side1=>repeat first|exact (Kd.N_reads' HO104.out).2.2|(with_reducible refine cA ?_ _)|(with_reducible refine cN ?_ _)|(with_reducible refine cD ?_));(case side2=>exact (Kd.N_reads' HO104.out).2.1);rintro e w14 ⟨v106,rfl,ho0,hb⟩;refine ⟨_,rfl,?_⟩;obtain ⟨b0,hb0_⟩ : ∃ b_:Nat,b_=w14.heap.size:=⟨_,rfl⟩;have HE0:=mA hb0_;clear hb0_;have nn_:=mA (Kd.N_lower (Kd.N_mono (ok':=fun k_=>k_<b0) (Kd.N_bound ho0) (fun k_ hk_=>Nat.lt_of_lt_of_le hk_.2 (Nat.le_of_eq HE0.out.symm))) (bZ (by repeat first|(with_reducible first|exact HB.out|apply bA|apply bN|apply bD)|exact HB.out)));have HB2_:=mA (bT (by repeat first|(with_reducible first|exact HB.out|apply bA|apply bN|apply bD)|exact HB.out) hb);clear HB;have HO107:=nn_;have HB:=HB2_;clear  HB2_ nn_;(try clear hb);(try clear ho0))|((with_reducible refine gate_callee (f:=8) rfl ?_);refine goesL_ (some 29) rfl rfl Try.func8 (by kernel_rfl) rfl #[.slice A1 l1.length c1] rfl (by (try simp only [mT,mC,mN]);first|done|rfl|(simp only [lD,lT];rfl)) ?_;(with_reducible refine (laws_toClaimS.calls k _ _ l1 t109 _ ?side1 ?side2 A8.out).mono ?_);(case side1=>repeat first|exact (Kd.C_below HR1.out HB.out)|(with_reducible refine cA ?_ _)|(with_reducible refine cN ?_ _)|(with_reducible refine cD ?_));(case side2=>exact HC1.out);rintro e w15 ⟨v110,rfl,ho0,hb⟩;refine ⟨_,rfl,?_⟩;obtain ⟨b1,hb1_⟩ : ∃ b_:Nat,b_=w15.heap.size:=⟨_,rfl⟩;have HE1:=mA hb1_;clear hb1_;have hbb_:=mA (show b0≤b1 from Nat.le_trans (Nat.le_of_eq HE0.out) (Nat.le_trans (bZ hb) (Nat.le_of_eq HE1.out.symm)));have nn_:=mA (Kd.S_lower (Kd.S_mono (ok':=fun k_=>b0≤k_∧k_<b1) (Kd.S_bound ho0) (fun k_ hk_=>⟨Nat.le_trans (Nat.le_of_eq HE0.out) hk_.2.1,Nat.lt_of_lt_of_le hk_.2.2.1 (Nat.le_of_eq HE1.out.symm)⟩)) (bZ (by repeat first|(with_reducible first|exact HB.out|apply bA|apply bN|apply bD)|exact HB.out)));have n0_:=mA (Kd.N_below (by (with_reducible repeat first|apply nA|apply nN|apply nD);exact HO107.out) hb);have HB2_:=mA (bT (by repeat first|(with_reducible first|exact HB.out|apply bA|apply bN|apply bD)|exact HB.out) hb);clear HO107 HB;have HO107:=n0_;have HO111:=nn_;have HB:=HB2_;clear n0_ HB2_ nn_;(try clear hb);(try clear ho0);obtain ⟨Ao16,co16,eo16⟩:=Kd.S_slice HO111.out;subst eo16)|((with_reducible refine gate_callee (f:=9) rfl ?_);refine goesL_ (some 33) rfl rfl Try.func9 (by kernel_rfl) rfl #[.int .i64 a0,.slice Ao16 t109.length co16] rfl (by (try simp only [mT,mC,mN]);first|done|rfl|(simp only [lD,lT];rfl)) ?_;(with_reducible refine (impl_LeastStory.callsS k a0 _ _ t109 t112 t115 _ ?side1 ?side2 A9.out).mono ?_);(case side1=>repeat first|exact (Kd.S_reads' HO111.out).2.2|(with_reducible refine cA ?_ _)|(with_reducible refine cN ?_ _)|(with_reducible refine cD ?_));(case side2=>exact (Kd.S_reads' HO111.out).2.1);rintro e w17 ⟨v113,rfl,ho0,hb⟩;refine ⟨_,rfl,?_⟩;have nn_:=mA (Kd.S_lower (Kd.S_mono (ok':=fun k_=>b1≤k_) (Kd.S_bound ho0) (fun k_ hk_=>Nat.le_trans (Nat.le_of_eq HE1.out) hk_.2.1)) (bZ (by repeat first|(with_reducible first|exact HB.out|apply bA|apply bN|apply bD)|exact HB.out)));have n0_:=mA (Kd.N_below (by (with_reducible repeat first|apply nA|apply nN|apply nD);exact HO107.out) hb);have n1_:=mA (Kd.S_below (by (with_reducible repeat first|apply Kd.S_alloc|apply Kd.S_drewN|apply Kd.S_drew);exact HO111.out) hb);have HB2_:=mA (bT (by repeat first|(with_reducible first|exact HB.out|apply bA|apply bN|apply bD)|exact HB.out) hb);clear HO107 HO111 HB;have HO107:=n0_;have HO111:=n1_;have HO114:=nn_;have HB:=HB2_;clear n0_ n1_ HB2_ nn_;(try clear hb);(try clear ho0)))
  (try simp only [Act.put,sA,sZ,sS])
  go_cut [44] (fun v44 wc=>∃ (kq:Nat) (x44_9:Bool),v44 = .bool x44_9∧Aside0 (laws_FnExactLeastStory.j0 kq a0 l1 t105 t108 t109 t112 t115 x44_9=some r)∧Aside0 (kq≤k)∧Aside0 (Kd.N k42 42 wc w.heap.size (fun k_=>k_<b0) v106 t105)∧Aside0 (Kd.S k42 42 wc w.heap.size (fun k_=>b0≤k_∧k_<b1) (.slice Ao16 t109.length co16) t109)∧Aside0 (Kd.S k42 42 wc w.heap.size (fun k_=>b1≤k_) v113 t112)∧Aside0 (Below w.heap.size w wc))
  case first =>
   have H:=HC10.out
   clear HC10
   replace H:=Option.bind_eq_some_iff.mp H
   obtain ⟨t116,A180,H⟩:=H
   replace H:(if t116=true then (laws_FnExactLeastStory.j0 k a0 l1 t105 t108 t109 t112 t115 (t115 != t108)) else (laws_FnExactLeastStory.j0 k a0 l1 t105 t108 t109 t112 t115 true))=some r:=H
   have A18:=mA A180
   clear A180
   by_cases c19:t116=true
   ·subst c19
    have H1:(laws_FnExactLeastStory.j0 k a0 l1 t105 t108 t109 t112 t115 (t115 != t108))=some r:=by rw [if_pos rfl] at H;exact H
    clear H
    have H:=H1
    clear H1
    have H':=mA H
    clear H
    obtain ⟨Ao20,co20,eo20⟩:=Kd.S_slice HO114.out
    subst eo20
    obtain ⟨Ao21,co21,eo21⟩:=Kd.N_slice HO107.out
    subst eo21
    go_wp2_with (first|((with_reducible refine gate_callee (f:=10) rfl ?_);refine goesL_ (some 38) rfl rfl Try.func10 (by kernel_rfl) rfl #[.slice Ao20 t112.length co20,.slice Ao21 t105.length co21] rfl (by (try simp only [mT,mC,mN]);first|done|rfl|(simp only [lD,lT];rfl)) ?_;(with_reducible refine (laws_eqClaimS.calls k _ _ t112 _ _ t105 true _ ?side1 ?side2 ?side3 ?side4 A18.out).mono ?_);(case side1=>repeat first|exact (Kd.S_reads' HO114.out).2.2|(with_reducible refine cA ?_ _)|(with_reducible refine cN ?_ _)|(with_reducible refine cD ?_));(case side2=>exact (Kd.S_reads' HO114.out).2.1);(case side3=>repeat first|exact (Kd.N_reads' HO107.out).2.2|(with_reducible refine cA ?_ _)|(with_reducible refine cN ?_ _)|(with_reducible refine cD ?_));(case side4=>exact (Kd.N_reads' HO107.out).2.1);rintro e w22 ⟨rfl,hb⟩;refine ⟨_,rfl,?_⟩;have n0_:=mA (Kd.N_below (by (with_reducible repeat first|apply nA|apply nN|apply nD);exact HO107.out) hb);have n1_:=mA (Kd.S_below (by (with_reducible repeat first|apply Kd.S_alloc|apply Kd.S_drewN|apply Kd.S_drew);exact HO111.out) hb);have n2_:=mA (Kd.S_below (by (with_reducible repeat first|apply Kd.S_alloc|apply Kd.S_drewN|apply Kd.S_drew);exact HO114.out) hb);have HB2_:=mA (bT (by repeat first|(with_reducible first|exact HB.out|apply bA|apply bN|apply bD)|exact HB.out) hb);clear HO107 HO111 HO114 HB;have HO107:=n0_;have HO111:=n1_;have HO114:=n2_;have HB:=HB2_;clear n0_ n1_ n2_ HB2_;(try clear hb);(try clear ho0)))
    go_meet
    case rel=>exact ⟨_,((t115 != t108)),(by first|rfl|(simp;done)|(simp [*];done)),H',⟨by first|omega|exact Nat.le_refl _⟩,⟨by (with_reducible repeat first|apply nA|apply nN|apply nD);exact HO107.out⟩,⟨by (with_reducible repeat first|apply Kd.S_alloc|apply Kd.S_drewN|apply Kd.S_drew);exact HO111.out⟩,⟨by (with_reducible repeat first|apply Kd.S_alloc|apply Kd.S_drewN|apply Kd.S_drew);exact HO114.out⟩,⟨by repeat (first|(with_reducible first|exact HB.out|apply bA|apply bN|apply bD)|exact HB.out)⟩⟩
   ·replace c19:=Bool.eq_false_iff.mpr c19
    subst c19
    have H1:(laws_FnExactLeastStory.j0 k a0 l1 t105 t108 t109 t112 t115 true)=some r:=by rw [if_neg (show ¬ (false=true) by decide)] at H;exact H
    clear H
    have H:=H1
    clear H1
    have H':=mA H
    clear H
    obtain ⟨Ao23,co23,eo23⟩:=Kd.S_slice HO114.out
    subst eo23
    obtain ⟨Ao24,co24,eo24⟩:=Kd.N_slice HO107.out
    subst eo24
    go_wp2_with (first|((with_reducible refine gate_callee (f:=10) rfl ?_);refine goesL_ (some 38) rfl rfl Try.func10 (by kernel_rfl) rfl #[.slice Ao23 t112.length co23,.slice Ao24 t105.length co24] rfl (by (try simp only [mT,mC,mN]);first|done|rfl|(simp only [lD,lT];rfl)) ?_;(with_reducible refine (laws_eqClaimS.calls k _ _ t112 _ _ t105 false _ ?side1 ?side2 ?side3 ?side4 A18.out).mono ?_);(case side1=>repeat first|exact (Kd.S_reads' HO114.out).2.2|(with_reducible refine cA ?_ _)|(with_reducible refine cN ?_ _)|(with_reducible refine cD ?_));(case side2=>exact (Kd.S_reads' HO114.out).2.1);(case side3=>repeat first|exact (Kd.N_reads' HO107.out).2.2|(with_reducible refine cA ?_ _)|(with_reducible refine cN ?_ _)|(with_reducible refine cD ?_));(case side4=>exact (Kd.N_reads' HO107.out).2.1);rintro e w25 ⟨rfl,hb⟩;refine ⟨_,rfl,?_⟩;have n0_:=mA (Kd.N_below (by (with_reducible repeat first|apply nA|apply nN|apply nD);exact HO107.out) hb);have n1_:=mA (Kd.S_below (by (with_reducible repeat first|apply Kd.S_alloc|apply Kd.S_drewN|apply Kd.S_drew);exact HO111.out) hb);have n2_:=mA (Kd.S_below (by (with_reducible repeat first|apply Kd.S_alloc|apply Kd.S_drewN|apply Kd.S_drew);exact HO114.out) hb);have HB2_:=mA (bT (by repeat first|(with_reducible first|exact HB.out|apply bA|apply bN|apply bD)|exact HB.out) hb);clear HO107 HO111 HO114 HB;have HO107:=n0_;have HO111:=n1_;have HO114:=n2_;have HB:=HB2_;clear n0_ n1_ n2_ HB2_;(try clear hb);(try clear ho0)))
    go_meet
    case rel=>exact ⟨_,(true),(by first|rfl|(simp;done)|(simp [*];done)),H',⟨by first|omega|exact Nat.le_refl _⟩,⟨by (with_reducible repeat first|apply nA|apply nN|apply nD);exact HO107.out⟩,⟨by (with_reducible repeat first|apply Kd.S_alloc|apply Kd.S_drewN|apply Kd.S_drew);exact HO111.out⟩,⟨by (with_reducible repeat first|apply Kd.S_alloc|apply Kd.S_drewN|apply Kd.S_drew);exact HO114.out⟩,⟨by repeat (first|(with_reducible first|exact HB.out|apply bA|apply bN|apply bD)|exact HB.out)⟩⟩
  case rest =>
   clear HC10
   try clear c1
   try clear p2
   try clear c3
   try clear c4
   try clear c4b0
   try clear c6
   try clear c7
   try clear c8
   try clear c9
   try clear c10
   try clear c19
   obtain ⟨kq,x44_9,rfl,HA,HJ9,HO_6,HO_8,HO_9,HB⟩:=hcut
   cases kq with
   | zero=>exact absurd HA.out (by simp [laws_FnExactLeastStory.j0])
   | succ kj9 =>
    have H:=HA.out
    clear HA
    simp only [laws_FnExactLeastStory.j0] at H
    by_cases c26:x44_9=true
    ·subst c26
     have H1:(some false)=some r:=by rw [if_pos rfl] at H;exact H
     clear H
     have H:=H1
     clear H1
     exact absurd ((Option.some.inj H).trans hr_.out) (by decide)
    ·replace c26:=Bool.eq_false_iff.mpr c26
     subst c26
     have H1:((laws_toClaimS.f kj9 l1).bind fun t117=>((laws_eqClaimS.f kj9 t109 t117).bind fun t120=>(if t120=true then ((laws_markClaimS.f kj9 t109 1).bind fun t121=>(if t121<0 then (laws_FnExactLeastStory.j1 kj9 a0 l1 t105 t108 t112 true) else ((laws_eqClaimS.f kj9 t112 t105).bind fun t122=>(if t122=true then (laws_FnExactLeastStory.j1 kj9 a0 l1 t105 t108 t112 (t115 != t108)) else (laws_FnExactLeastStory.j1 kj9 a0 l1 t105 t108 t112 true))))) else (some false))))=some r:=by rw [if_neg (show ¬ (false=true) by decide)] at H;exact H
     clear H
     have H:=H1
     clear H1
     replace H:=Option.bind_eq_some_iff.mp H
     obtain ⟨t117,A270,H⟩:=H
     replace H:((laws_eqClaimS.f kj9 t109 t117).bind fun t120=>(if t120=true then ((laws_markClaimS.f kj9 t109 1).bind fun t121=>(if t121<0 then (laws_FnExactLeastStory.j1 kj9 a0 l1 t105 t108 t112 true) else ((laws_eqClaimS.f kj9 t112 t105).bind fun t122=>(if t122=true then (laws_FnExactLeastStory.j1 kj9 a0 l1 t105 t108 t112 (t115 != t108)) else (laws_FnExactLeastStory.j1 kj9 a0 l1 t105 t108 t112 true))))) else (some false)))=some r:=H
     have A27:=mA A270
     clear A270
     replace H:=Option.bind_eq_some_iff.mp H
     obtain ⟨t120,A280,H⟩:=H
     replace H:(if t120=true then ((laws_markClaimS.f kj9 t109 1).bind fun t121=>(if t121<0 then (laws_FnExactLeastStory.j1 kj9 a0 l1 t105 t108 t112 true) else ((laws_eqClaimS.f kj9 t112 t105).bind fun t122=>(if t122=true then (laws_FnExactLeastStory.j1 kj9 a0 l1 t105 t108 t112 (t115 != t108)) else (laws_FnExactLeastStory.j1 kj9 a0 l1 t105 t108 t112 true))))) else (some false))=some r:=H
     have A28:=mA A280
     clear A280
     by_cases c29:t120=true
     ·subst c29
      have H1:((laws_markClaimS.f kj9 t109 1).bind fun t121=>(if t121<0 then (laws_FnExactLeastStory.j1 kj9 a0 l1 t105 t108 t112 true) else ((laws_eqClaimS.f kj9 t112 t105).bind fun t122=>(if t122=true then (laws_FnExactLeastStory.j1 kj9 a0 l1 t105 t108 t112 (t115 != t108)) else (laws_FnExactLeastStory.j1 kj9 a0 l1 t105 t108 t112 true)))))=some r:=by rw [if_pos rfl] at H;exact H
      clear H
      have H:=H1
      clear H1
      replace H:=Option.bind_eq_some_iff.mp H
      obtain ⟨t121,A300,H⟩:=H
      replace H:(if t121<0 then (laws_FnExactLeastStory.j1 kj9 a0 l1 t105 t108 t112 true) else ((laws_eqClaimS.f kj9 t112 t105).bind fun t122=>(if t122=true then (laws_FnExactLeastStory.j1 kj9 a0 l1 t105 t108 t112 (t115 != t108)) else (laws_FnExactLeastStory.j1 kj9 a0 l1 t105 t108 t112 true))))=some r:=H
      have A30:=mA A300
      clear A300
      have HC31:=mA H
      clear H
      go_upto_region 14 with (first|((with_reducible refine gate_callee (f:=8) rfl ?_);refine goesL_ (some 47) rfl rfl Try.func8 (by kernel_rfl) rfl #[.slice A1 l1.length c1] rfl (by (try simp only [mT,mC,mN]);first|done|rfl|(simp only [lD,lT];rfl)) ?_;(with_reducible refine (laws_toClaimS.calls kj9 _ _ l1 t117 _ ?side1 ?side2 A27.out).mono ?_);(case side1=>repeat first|exact (Kd.C_below HR1.out HB.out)|(with_reducible refine cA ?_ _)|(with_reducible refine cN ?_ _)|(with_reducible refine cD ?_));(case side2=>exact HC1.out);rintro e w32 ⟨v118,rfl,ho0,hb⟩;refine ⟨_,rfl,?_⟩;have nn_:=mA (Kd.N_lower (Kd.N_mono (ok':=fun _=>True) (Kd.S_N ho0) (fun _ _=>trivial)) (bZ (by repeat first|(with_reducible first|exact HB.out|apply bA|apply bN|apply bD)|exact HB.out)));have n0_:=mA (Kd.N_below (by (with_reducible repeat first|apply nA|apply nN|apply nD);exact HO_6.out) hb);have n1_:=mA (Kd.S_below (by (with_reducible repeat first|apply Kd.S_alloc|apply Kd.S_drewN|apply Kd.S_drew);exact HO_8.out) hb);have n2_:=mA (Kd.S_below (by (with_reducible repeat first|apply Kd.S_alloc|apply Kd.S_drewN|apply Kd.S_drew);exact HO_9.out) hb);have HB2_:=mA (bT (by repeat first|(with_reducible first|exact HB.out|apply bA|apply bN|apply bD)|exact HB.out) hb);clear HO_6 HO_8 HO_9 HB;have HO_6:=n0_;have HO_8:=n1_;have HO_9:=n2_;have HO119:=nn_;have HB:=HB2_;clear n0_ n1_ n2_ HB2_ nn_;(try clear hb);(try clear ho0);obtain ⟨Ao33,co33,eo33⟩:=Kd.N_slice HO119.out;subst eo33)|((with_reducible refine gate_callee (f:=10) rfl ?_);refine goesL_ (some 48) rfl rfl Try.func10 (by kernel_rfl) rfl #[.slice Ao16 t109.length co16,.slice Ao33 t117.length co33] rfl (by (try simp only [mT,mC,mN]);first|done|rfl|(simp only [lD,lT];rfl)) ?_;(with_reducible refine (laws_eqClaimS.calls kj9 _ _ t109 _ _ t117 true _ ?side1 ?side2 ?side3 ?side4 A28.out).mono ?_);(case side1=>repeat first|exact (Kd.S_reads' HO_8.out).2.2|(with_reducible refine cA ?_ _)|(with_reducible refine cN ?_ _)|(with_reducible refine cD ?_));(case side2=>exact (Kd.S_reads' HO_8.out).2.1);(case side3=>repeat first|exact (Kd.N_reads' HO119.out).2.2|(with_reducible refine cA ?_ _)|(with_reducible refine cN ?_ _)|(with_reducible refine cD ?_));(case side4=>exact (Kd.N_reads' HO119.out).2.1);rintro e w34 ⟨rfl,hb⟩;refine ⟨_,rfl,?_⟩;have n0_:=mA (Kd.N_below (by (with_reducible repeat first|apply nA|apply nN|apply nD);exact HO_6.out) hb);have n1_:=mA (Kd.S_below (by (with_reducible repeat first|apply Kd.S_alloc|apply Kd.S_drewN|apply Kd.S_drew);exact HO_8.out) hb);have n2_:=mA (Kd.S_below (by (with_reducible repeat first|apply Kd.S_alloc|apply Kd.S_drewN|apply Kd.S_drew);exact HO_9.out) hb);have HB2_:=mA (bT (by repeat first|(with_reducible first|exact HB.out|apply bA|apply bN|apply bD)|exact HB.out) hb);clear HO_6 HO_8 HO_9 HB;have HO_6:=n0_;have HO_8:=n1_;have HO_9:=n2_;have HB:=HB2_;clear n0_ n1_ n2_ HB2_;(try clear hb);(try clear ho0))|((with_reducible refine gate_callee (f:=11) rfl ?_);refine goesL_ (some 52) rfl rfl Try.func11 (by kernel_rfl) rfl #[.slice Ao16 t109.length co16,.int .i64 1] rfl (by (try simp only [mT,mC,mN]);first|done|rfl|(simp only [lD,lT];rfl)) ?_;have hY_:=laws_markClaimS.readsN kj9 _ _ t109 1 t121 w _ HB.out HO_8.out A30.out;refine hY_.mono ?_;clear hY_;rintro e w35 ⟨rfl,hb,hk⟩;refine ⟨_,rfl,?_⟩;have n0_:=mA (Kd.N_kept HO_6.out hk (fun k_ h1 h2=>absurd h1 (Nat.not_lt.mpr h2.1)));have n1_:=mA (Kd.S_kept HO_9.out hk (fun k_ h1 h2=>absurd h2.2 (Nat.not_lt.mpr h1)));have n2_:=mA hb;clear HO_6 HO_8 HO_9 HO119 HB;have HO_6:=n0_;have HO_9:=n1_;have HB:=n2_;clear n0_ n1_ n2_ hb hk))
      (try simp only [Act.put,sA,sZ,sS])
      go_cut [65] (fun v65 wc=>∃ (kq:Nat) (x65_30:Bool),v65 = .bool x65_30∧Aside0 (laws_FnExactLeastStory.j1 kq a0 l1 t105 t108 t112 x65_30=some r)∧Aside0 (kq≤kj9)∧Aside0 (Kd.N k42 42 wc w.heap.size (fun k_=>k_<b0) v106 t105)∧Aside0 (Kd.S k42 42 wc w.heap.size (fun k_=>b1≤k_) v113 t112)∧Aside0 (Below w.heap.size w wc))
      case first =>
       have H:=HC31.out
       clear HC31
       by_cases c36:t121<0
       ·rw [if_pos c36] at H
        have c36b0:decide (t121<0)=true:=decide_eq_true c36
        clear c36
        (first|rw [c36b0]|(simp only [i64_w,i32_w];rw [c36b0])|skip)
        have H':=mA H
        clear H
        go_wp2
        go_meet
        case rel=>exact ⟨_,(true),(by first|rfl|(simp;done)|(simp [*];done)),H',⟨by have:=HJ9.out;first|omega|exact Nat.le_refl _⟩,⟨by (with_reducible repeat first|apply nA|apply nN|apply nD);exact HO_6.out⟩,⟨by (with_reducible repeat first|apply Kd.S_alloc|apply Kd.S_drewN|apply Kd.S_drew);exact HO_9.out⟩,⟨by repeat (first|(with_reducible first|exact HB.out|apply bA|apply bN|apply bD)|exact HB.out)⟩⟩
       ·rw [if_neg c36] at H
        have c36b0:decide (t121<0)=false:=decide_eq_false c36
        clear c36
        (first|rw [c36b0]|(simp only [i64_w,i32_w];rw [c36b0])|skip)
        replace H:=Option.bind_eq_some_iff.mp H
        obtain ⟨t122,A370,H⟩:=H
        replace H:(if t122=true then (laws_FnExactLeastStory.j1 kj9 a0 l1 t105 t108 t112 (t115 != t108)) else (laws_FnExactLeastStory.j1 kj9 a0 l1 t105 t108 t112 true))=some r:=H
        have A37:=mA A370
        clear A370
        by_cases c38:t122=true
        ·subst c38
         have H1:(laws_FnExactLeastStory.j1 kj9 a0 l1 t105 t108 t112 (t115 != t108))=some r:=by rw [if_pos rfl] at H;exact H
         clear H
         have H:=H1
         clear H1
         have H':=mA H
         clear H
         obtain ⟨Ao39,co39,eo39⟩:=Kd.S_slice HO_9.out
         subst eo39
         obtain ⟨Ao40,co40,eo40⟩:=Kd.N_slice HO_6.out
         subst eo40
         go_wp2_with (first|(go_at_call 10;(with_reducible refine (laws_eqClaimS.calls kj9 _ _ t112 _ _ t105 true _ ?side1 ?side2 ?side3 ?side4 A37.out).mono ?_);(case side1=>repeat first|exact (Kd.S_reads' HO_9.out).2.2|(with_reducible refine cA ?_ _)|(with_reducible refine cN ?_ _)|(with_reducible refine cD ?_));(case side2=>exact (Kd.S_reads' HO_9.out).2.1);(case side3=>repeat first|exact (Kd.N_reads' HO_6.out).2.2|(with_reducible refine cA ?_ _)|(with_reducible refine cN ?_ _)|(with_reducible refine cD ?_));(case side4=>exact (Kd.N_reads' HO_6.out).2.1);rintro e w41 ⟨rfl,hb⟩;have n0_:=mA (Kd.N_below (by (with_reducible repeat first|apply nA|apply nN|apply nD);exact HO_6.out) hb);have n1_:=mA (Kd.S_below (by (with_reducible repeat first|apply Kd.S_alloc|apply Kd.S_drewN|apply Kd.S_drew);exact HO_9.out) hb);have HB2_:=mA (bT (by repeat first|(with_reducible first|exact HB.out|apply bA|apply bN|apply bD)|exact HB.out) hb);clear HO_6 HO_9 HB;have HO_6:=n0_;have HO_9:=n1_;have HB:=HB2_;clear n0_ n1_ HB2_;(try clear hb);(try clear ho0)))
         go_meet
         case rel=>exact ⟨_,((t115 != t108)),(by first|rfl|(simp;done)|(simp [*];done)),H',⟨by have:=HJ9.out;first|omega|exact Nat.le_refl _⟩,⟨by (with_reducible repeat first|apply nA|apply nN|apply nD);exact HO_6.out⟩,⟨by (with_reducible repeat first|apply Kd.S_alloc|apply Kd.S_drewN|apply Kd.S_drew);exact HO_9.out⟩,⟨by repeat (first|(with_reducible first|exact HB.out|apply bA|apply bN|apply bD)|exact HB.out)⟩⟩
        ·replace c38:=Bool.eq_false_iff.mpr c38
         subst c38
         have H1:(laws_FnExactLeastStory.j1 kj9 a0 l1 t105 t108 t112 true)=some r:=by rw [if_neg (show ¬ (false=true) by decide)] at H;exact H
         clear H
         have H:=H1
         clear H1
         have H':=mA H
         clear H
         obtain ⟨Ao42,co42,eo42⟩:=Kd.S_slice HO_9.out
         subst eo42
         obtain ⟨Ao43,co43,eo43⟩:=Kd.N_slice HO_6.out
         subst eo43
         go_wp2_with (first|(go_at_call 10;(with_reducible refine (laws_eqClaimS.calls kj9 _ _ t112 _ _ t105 false _ ?side1 ?side2 ?side3 ?side4 A37.out).mono ?_);(case side1=>repeat first|exact (Kd.S_reads' HO_9.out).2.2|(with_reducible refine cA ?_ _)|(with_reducible refine cN ?_ _)|(with_reducible refine cD ?_));(case side2=>exact (Kd.S_reads' HO_9.out).2.1);(case side3=>repeat first|exact (Kd.N_reads' HO_6.out).2.2|(with_reducible refine cA ?_ _)|(with_reducible refine cN ?_ _)|(with_reducible refine cD ?_));(case side4=>exact (Kd.N_reads' HO_6.out).2.1);rintro e w44 ⟨rfl,hb⟩;have n0_:=mA (Kd.N_below (by (with_reducible repeat first|apply nA|apply nN|apply nD);exact HO_6.out) hb);have n1_:=mA (Kd.S_below (by (with_reducible repeat first|apply Kd.S_alloc|apply Kd.S_drewN|apply Kd.S_drew);exact HO_9.out) hb);have HB2_:=mA (bT (by repeat first|(with_reducible first|exact HB.out|apply bA|apply bN|apply bD)|exact HB.out) hb);clear HO_6 HO_9 HB;have HO_6:=n0_;have HO_9:=n1_;have HB:=HB2_;clear n0_ n1_ HB2_;(try clear hb);(try clear ho0)))
         go_meet
         case rel=>exact ⟨_,(true),(by first|rfl|(simp;done)|(simp [*];done)),H',⟨by have:=HJ9.out;first|omega|exact Nat.le_refl _⟩,⟨by (with_reducible repeat first|apply nA|apply nN|apply nD);exact HO_6.out⟩,⟨by (with_reducible repeat first|apply Kd.S_alloc|apply Kd.S_drewN|apply Kd.S_drew);exact HO_9.out⟩,⟨by repeat (first|(with_reducible first|exact HB.out|apply bA|apply bN|apply bD)|exact HB.out)⟩⟩
      case rest =>
       clear HC31
       try clear c1
       try clear c2
       try clear p2
       try clear c3
       try clear c4
       try clear c4b0
       try clear c6
       try clear c7
       try clear c8
       try clear c9
       try clear c10
       try clear c11
       try clear c19
       try clear c26
       try clear c29
       try clear c36
       try clear c36b0
       try clear c38
       try clear p2
       obtain ⟨kq,x65_30,rfl,HA,HJ30,HO_6,HO_9,HB⟩:=hcut
       cases kq with
       | zero=>exact absurd HA.out (by simp [laws_FnExactLeastStory.j1])
       | succ kj30 =>
        have H:=HA.out
        clear HA
        simp only [laws_FnExactLeastStory.j1] at H
        by_cases c45:x65_30=true
        ·subst c45
         have H1:(some false)=some r:=by rw [if_pos rfl] at H;exact H
         clear H
         have H:=H1
         clear H1
         exact absurd ((Option.some.inj H).trans hr_.out) (by decide)
        ·replace c45:=Bool.eq_false_iff.mpr c45
         subst c45
         have H1:((laws_markClaimS.p kj30 t112 1).bind fun bt123=>((laws_heldClaimS.f kj30 bt123.2 1).bind fun t124=>(if t124<0 then (some false) else (if t124=bt123.1 then ((laws_toClaimS.f kj30 l1).bind fun t125=>((impl_LeastStory.f kj30 a0 t125).bind fun bt128=>((laws_eqClaimS.f kj30 bt128.1 t105).bind fun t132=>(if t132=true then (laws_FnExactLeastStory.j2 kj30 bt123.2 bt123.1 (bt128.2 != t108)) else (laws_FnExactLeastStory.j2 kj30 bt123.2 bt123.1 true))))) else (some false)))))=some r:=by rw [if_neg (show ¬ (false=true) by decide)] at H;exact H
         clear H
         have H:=H1
         clear H1
         replace H:=Option.bind_eq_some_iff.mp H
         obtain ⟨⟨t123,t123b⟩,A460,H⟩:=H
         replace H:((laws_heldClaimS.f kj30 t123b 1).bind fun t124=>(if t124<0 then (some false) else (if t124=t123 then ((laws_toClaimS.f kj30 l1).bind fun t125=>((impl_LeastStory.f kj30 a0 t125).bind fun bt128=>((laws_eqClaimS.f kj30 bt128.1 t105).bind fun t132=>(if t132=true then (laws_FnExactLeastStory.j2 kj30 t123b t123 (bt128.2 != t108)) else (laws_FnExactLeastStory.j2 kj30 t123b t123 true))))) else (some false))))=some r:=H
         have A46:=mA A460
         clear A460
         replace H:=Option.bind_eq_some_iff.mp H
         obtain ⟨t124,A470,H⟩:=H
         replace H:(if t124<0 then (some false) else (if t124=t123 then ((laws_toClaimS.f kj30 l1).bind fun t125=>((impl_LeastStory.f kj30 a0 t125).bind fun bt128=>((laws_eqClaimS.f kj30 bt128.1 t105).bind fun t132=>(if t132=true then (laws_FnExactLeastStory.j2 kj30 t123b t123 (bt128.2 != t108)) else (laws_FnExactLeastStory.j2 kj30 t123b t123 true))))) else (some false)))=some r:=H
         have A47:=mA A470
         clear A470
         by_cases c48:t124<0
         ·rw [if_pos c48] at H
          have c48b0:decide (t124<0)=true:=decide_eq_true c48
          clear c48
          exact absurd ((Option.some.inj H).trans hr_.out) (by decide)
         ·rw [if_neg c48] at H
          have c48b0:decide (t124<0)=false:=decide_eq_false c48
          clear c48
          by_cases c49:t124=t123
          ·rw [if_pos c49] at H
           have c49b0:(t124==t123)=true:=beq_iff_eq.mpr c49
           have c49b1:(t124 != t123)=false:=bne_eq_false_iff_eq.mpr c49
           clear c49
           replace H:=Option.bind_eq_some_iff.mp H
           obtain ⟨t125,A500,H⟩:=H
           replace H:((impl_LeastStory.f kj30 a0 t125).bind fun bt128=>((laws_eqClaimS.f kj30 bt128.1 t105).bind fun t132=>(if t132=true then (laws_FnExactLeastStory.j2 kj30 t123b t123 (bt128.2 != t108)) else (laws_FnExactLeastStory.j2 kj30 t123b t123 true))))=some r:=H
           have A50:=mA A500
           clear A500
           replace H:=Option.bind_eq_some_iff.mp H
           obtain ⟨⟨t128,t131⟩,A510,H⟩:=H
           replace H:((laws_eqClaimS.f kj30 t128 t105).bind fun t132=>(if t132=true then (laws_FnExactLeastStory.j2 kj30 t123b t123 (t131 != t108)) else (laws_FnExactLeastStory.j2 kj30 t123b t123 true)))=some r:=H
           have A51:=mA A510
           clear A510
           have HC52:=mA H
           clear H
           obtain ⟨Ao53,co53,eo53⟩:=Kd.S_slice HO_9.out
           subst eo53
           go_upto_region 25 with (first|((with_reducible refine gate_callee (f:=11) rfl ?_);refine goesL_ (some 68) rfl rfl Try.func11 (by kernel_rfl) rfl #[.slice Ao53 t112.length co53,.int .i64 1] rfl (by (try simp only [mT,mC,mN]);first|done|rfl|(simp only [lD,lT];rfl)) ?_;have hY_:=laws_markClaimS.callsP kj30 _ _ t112 1 t123 t123b w _ HB.out HO_9.out A46.out;refine hY_.mono ?_;clear hY_;rintro e w54 ⟨rfl,ho0,hb,hk⟩;refine ⟨_,rfl,?_⟩;have n0_:=mA (Kd.N_kept HO_6.out hk (fun k_ h1 h2=>absurd (Nat.lt_of_lt_of_le h1 hbb_.out) (Nat.not_lt.mpr h2)));have n1_:=mA (Kd.S_mono (ok':=fun _=>True) ho0 (fun _ _=>trivial));have n2_:=mA hb;clear HO_6 HO_9 HB;have HO_6:=n0_;have HO_9:=n1_;have HB:=n2_;clear n0_ n1_ n2_ hb hk ho0)|((with_reducible refine gate_callee (f:=12) rfl ?_);refine goesL_ (some 71) rfl rfl Try.func12 (by kernel_rfl) rfl #[.slice Ao53 t123b.length co53,.int .i64 1] rfl (by (try simp only [mT,mC,mN]);first|done|(rw [show t123b.length=t112.length from (Kd.S_reads' HO_9.out).1.symm]<;>rfl)|rfl|(simp only [lD,lT];rfl)) ?_;(with_reducible refine (laws_heldClaimS.calls kj30 _ _ t123b 1 t124 _ ?side1 ?side2 A47.out).mono ?_);(case side1=>repeat first|exact (Kd.S_reads' HO_9.out).2.2|(with_reducible refine cA ?_ _)|(with_reducible refine cN ?_ _)|(with_reducible refine cD ?_));(case side2=>rw [show t123b.length=t112.length from (Kd.S_reads' HO_9.out).1.symm];exact (Kd.S_reads' HO_9.out).2.1);rintro e w' ⟨rfl,⟨nd,rfl⟩⟩;refine ⟨_,rfl,?_⟩)|((with_reducible refine gate_callee (f:=8) rfl ?_);refine goesL_ (some 80) rfl rfl Try.func8 (by kernel_rfl) rfl #[.slice A1 l1.length c1] rfl (by (try simp only [mT,mC,mN]);first|done|rfl|(simp only [lD,lT];rfl)) ?_;(with_reducible refine (laws_toClaimS.calls kj30 _ _ l1 t125 _ ?side1 ?side2 A50.out).mono ?_);(case side1=>repeat (first|exact (Kd.C_below HR1.out (by repeat first|(with_reducible first|exact HB.out|apply bA|apply bN|apply bD)|exact HB.out))|(with_reducible refine cA ?_ _)|(with_reducible refine cN ?_ _)|(with_reducible refine cD ?_)));(case side2=>exact HC1.out);rintro e w55 ⟨v126,rfl,ho0,hb⟩;refine ⟨_,rfl,?_⟩;have nn_:=mA (Kd.N_lower (Kd.N_mono (ok':=fun _=>True) (Kd.S_N ho0) (fun _ _=>trivial)) (bZ (by repeat first|(with_reducible first|exact HB.out|apply bA|apply bN|apply bD)|exact HB.out)));have n0_:=mA (Kd.N_below (by (with_reducible repeat first|apply nA|apply nN|apply nD);exact HO_6.out) hb);have n1_:=mA (Kd.S_below (by (with_reducible repeat first|apply Kd.S_alloc|apply Kd.S_drewN|apply Kd.S_drew);exact HO_9.out) hb);have HB2_:=mA (bT (by repeat first|(with_reducible first|exact HB.out|apply bA|apply bN|apply bD)|exact HB.out) hb);clear HO_6 HO_9 HB;have HO_6:=n0_;have HO_9:=n1_;have HO127:=nn_;have HB:=HB2_;clear n0_ n1_ HB2_ nn_;(try clear hb);(try clear ho0);obtain ⟨Ao56,co56,eo56⟩:=Kd.N_slice HO127.out;subst eo56)|((with_reducible refine gate_callee (f:=9) rfl ?_);refine goesL_ (some 81) rfl rfl Try.func9 (by kernel_rfl) rfl #[.int .i64 a0,.slice Ao56 t125.length co56] rfl (by (try simp only [mT,mC,mN]);first|done|rfl|(simp only [lD,lT];rfl)) ?_;(with_reducible refine (impl_LeastStory.calls kj30 a0 _ _ t125 t128 t131 _ ?side1 ?side2 A51.out).mono ?_);(case side1=>repeat first|exact (Kd.N_reads' HO127.out).2.2|(with_reducible refine cA ?_ _)|(with_reducible refine cN ?_ _)|(with_reducible refine cD ?_));(case side2=>exact (Kd.N_reads' HO127.out).2.1);rintro e w57 ⟨v129,rfl,ho0,hb⟩;refine ⟨_,rfl,?_⟩;have nn_:=mA (Kd.N_lower (Kd.N_mono (ok':=fun _=>True) ho0 (fun _ _=>trivial)) (bZ (by repeat first|(with_reducible first|exact HB.out|apply bA|apply bN|apply bD)|exact HB.out)));have n0_:=mA (Kd.N_below (by (with_reducible repeat first|apply nA|apply nN|apply nD);exact HO_6.out) hb);have n1_:=mA (Kd.S_below (by (with_reducible repeat first|apply Kd.S_alloc|apply Kd.S_drewN|apply Kd.S_drew);exact HO_9.out) hb);have HB2_:=mA (bT (by repeat first|(with_reducible first|exact HB.out|apply bA|apply bN|apply bD)|exact HB.out) hb);clear HO_6 HO_9 HB;have HO_6:=n0_;have HO_9:=n1_;have HO130:=nn_;have HB:=HB2_;clear n0_ n1_ HB2_ nn_;(try clear hb);(try clear ho0)))
           (try simp only [Act.put,sA,sZ,sS])
           go_cut [92] (fun v92 wc=>∃ (kq:Nat) (x92_51:Bool),v92 = .bool x92_51∧Aside0 (laws_FnExactLeastStory.j2 kq t123b t123 x92_51=some r)∧Aside0 (kq≤kj30)∧Aside0 (Kd.S k42 42 wc w.heap.size (fun _=>True) (.slice Ao53 t112.length co53) t123b)∧Aside0 (Below w.heap.size w wc))
           case first =>
            have H:=HC52.out
            clear HC52
            replace H:=Option.bind_eq_some_iff.mp H
            obtain ⟨t132,A580,H⟩:=H
            replace H:(if t132=true then (laws_FnExactLeastStory.j2 kj30 t123b t123 (t131 != t108)) else (laws_FnExactLeastStory.j2 kj30 t123b t123 true))=some r:=H
            have A58:=mA A580
            clear A580
            by_cases c59:t132=true
            ·subst c59
             have H1:(laws_FnExactLeastStory.j2 kj30 t123b t123 (t131 != t108))=some r:=by rw [if_pos rfl] at H;exact H
             clear H
             have H:=H1
             clear H1
             have H':=mA H
             clear H
             obtain ⟨Ao60,co60,eo60⟩:=Kd.N_slice HO130.out
             subst eo60
             obtain ⟨Ao61,co61,eo61⟩:=Kd.N_slice HO_6.out
             subst eo61
             go_wp2_with (first|((with_reducible refine gate_callee (f:=10) rfl ?_);refine goesL_ (some 86) rfl rfl Try.func10 (by kernel_rfl) rfl #[.slice Ao60 t128.length co60,.slice Ao61 t105.length co61] rfl (by (try simp only [mT,mC,mN]);first|done|rfl|(simp only [lD,lT];rfl)) ?_;(with_reducible refine (laws_eqClaimS.calls kj30 _ _ t128 _ _ t105 true _ ?side1 ?side2 ?side3 ?side4 A58.out).mono ?_);(case side1=>repeat first|exact (Kd.N_reads' HO130.out).2.2|(with_reducible refine cA ?_ _)|(with_reducible refine cN ?_ _)|(with_reducible refine cD ?_));(case side2=>exact (Kd.N_reads' HO130.out).2.1);(case side3=>repeat first|exact (Kd.N_reads' HO_6.out).2.2|(with_reducible refine cA ?_ _)|(with_reducible refine cN ?_ _)|(with_reducible refine cD ?_));(case side4=>exact (Kd.N_reads' HO_6.out).2.1);rintro e w62 ⟨rfl,hb⟩;refine ⟨_,rfl,?_⟩;have n0_:=mA (Kd.S_below (by (with_reducible repeat first|apply Kd.S_alloc|apply Kd.S_drewN|apply Kd.S_drew);exact HO_9.out) hb);have HB2_:=mA (bT (by repeat first|(with_reducible first|exact HB.out|apply bA|apply bN|apply bD)|exact HB.out) hb);clear HO_9 HB;have HO_9:=n0_;have HB:=HB2_;clear n0_ HB2_;(try clear hb);(try clear ho0)))
             go_meet
             case rel=>exact ⟨_,((t131 != t108)),(by first|rfl|(simp;done)|(simp [*];done)),H',⟨by have:=HJ9.out;have:=HJ30.out;first|omega|exact Nat.le_refl _⟩,⟨by (with_reducible repeat first|apply Kd.S_alloc|apply Kd.S_drewN|apply Kd.S_drew);exact HO_9.out⟩,⟨by repeat (first|(with_reducible first|exact HB.out|apply bA|apply bN|apply bD)|exact HB.out)⟩⟩
            ·replace c59:=Bool.eq_false_iff.mpr c59
             subst c59
             have H1:(laws_FnExactLeastStory.j2 kj30 t123b t123 true)=some r:=by rw [if_neg (show ¬ (false=true) by decide)] at H;exact H
             clear H
             have H:=H1
             clear H1
             have H':=mA H
             clear H
             obtain ⟨Ao63,co63,eo63⟩:=Kd.N_slice HO130.out
             subst eo63
             obtain ⟨Ao64,co64,eo64⟩:=Kd.N_slice HO_6.out
             subst eo64
             go_wp2_with (first|((with_reducible refine gate_callee (f:=10) rfl ?_);refine goesL_ (some 86) rfl rfl Try.func10 (by kernel_rfl) rfl #[.slice Ao63 t128.length co63,.slice Ao64 t105.length co64] rfl (by (try simp only [mT,mC,mN]);first|done|rfl|(simp only [lD,lT];rfl)) ?_;(with_reducible refine (laws_eqClaimS.calls kj30 _ _ t128 _ _ t105 false _ ?side1 ?side2 ?side3 ?side4 A58.out).mono ?_);(case side1=>repeat first|exact (Kd.N_reads' HO130.out).2.2|(with_reducible refine cA ?_ _)|(with_reducible refine cN ?_ _)|(with_reducible refine cD ?_));(case side2=>exact (Kd.N_reads' HO130.out).2.1);(case side3=>repeat first|exact (Kd.N_reads' HO_6.out).2.2|(with_reducible refine cA ?_ _)|(with_reducible refine cN ?_ _)|(with_reducible refine cD ?_));(case side4=>exact (Kd.N_reads' HO_6.out).2.1);rintro e w65 ⟨rfl,hb⟩;refine ⟨_,rfl,?_⟩;have n0_:=mA (Kd.S_below (by (with_reducible repeat first|apply Kd.S_alloc|apply Kd.S_drewN|apply Kd.S_drew);exact HO_9.out) hb);have HB2_:=mA (bT (by repeat first|(with_reducible first|exact HB.out|apply bA|apply bN|apply bD)|exact HB.out) hb);clear HO_9 HB;have HO_9:=n0_;have HB:=HB2_;clear n0_ HB2_;(try clear hb);(try clear ho0)))
             go_meet
             case rel=>exact ⟨_,(true),(by first|rfl|(simp;done)|(simp [*];done)),H',⟨by have:=HJ9.out;have:=HJ30.out;first|omega|exact Nat.le_refl _⟩,⟨by (with_reducible repeat first|apply Kd.S_alloc|apply Kd.S_drewN|apply Kd.S_drew);exact HO_9.out⟩,⟨by repeat (first|(with_reducible first|exact HB.out|apply bA|apply bN|apply bD)|exact HB.out)⟩⟩
           case rest =>
            clear HC52
            try clear c1
            try clear c2
            try clear p2
            try clear c3
            try clear c4
            try clear c4b0
            try clear c5
            try clear c6
            try clear c7
            try clear c8
            try clear c9
            try clear c10
            try clear c11
            try clear c12
            try clear c19
            try clear c26
            try clear c29
            try clear c36
            try clear c36b0
            try clear c38
            try clear c45
            try clear c48
            try clear c48b0
            try clear c49
            try clear c49b0
            try clear c49b1
            try clear c59
            try clear p2
            obtain ⟨kq,x92_51,rfl,HA,HJ51,HO_9,HB⟩:=hcut
            cases kq with
            | zero=>exact absurd HA.out (by simp [laws_FnExactLeastStory.j2])
            | succ kj51 =>
             have H:=HA.out
             clear HA
             simp only [laws_FnExactLeastStory.j2] at H
             by_cases c66:x92_51=true
             ·subst c66
              have H1:(some false)=some r:=by rw [if_pos rfl] at H;exact H
              clear H
              have H:=H1
              clear H1
              exact absurd ((Option.some.inj H).trans hr_.out) (by decide)
             ·replace c66:=Bool.eq_false_iff.mpr c66
              subst c66
              have H1:((laws_heldClaimS.f kj51 t123b 1).bind fun t133=>(if t133<0 then (some false) else (if t133=t123 then (some true) else (some false))))=some r:=by rw [if_neg (show ¬ (false=true) by decide)] at H;exact H
              clear H
              have H:=H1
              clear H1
              replace H:=Option.bind_eq_some_iff.mp H
              obtain ⟨t133,A670,H⟩:=H
              replace H:(if t133<0 then (some false) else (if t133=t123 then (some true) else (some false)))=some r:=H
              have A67:=mA A670
              clear A670
              by_cases c68:t133<0
              ·rw [if_pos c68] at H
               have c68b0:decide (t133<0)=true:=decide_eq_true c68
               clear c68
               exact absurd ((Option.some.inj H).trans hr_.out) (by decide)
              ·rw [if_neg c68] at H
               have c68b0:decide (t133<0)=false:=decide_eq_false c68
               clear c68
               by_cases c69:t133=t123
               ·rw [if_pos c69] at H
                have c69b0:(t133==t123)=true:=beq_iff_eq.mpr c69
                have c69b1:(t133 != t123)=false:=bne_eq_false_iff_eq.mpr c69
                clear c69
                obtain rfl:=Option.some.inj H
                go_wp2_with (first|((with_reducible refine gate_callee (f:=12) rfl ?_);refine goesL_ (some 95) rfl rfl Try.func12 (by kernel_rfl) rfl #[.slice Ao53 t123b.length co53,.int .i64 1] rfl (by (try simp only [mT,mC,mN]);first|done|(rw [show t123b.length=t112.length from (Kd.S_reads' HO_9.out).1.symm]<;>rfl)|rfl|(simp only [lD,lT];rfl)) ?_;(with_reducible refine (laws_heldClaimS.calls kj51 _ _ t123b 1 t133 _ ?side1 ?side2 A67.out).mono ?_);(case side1=>repeat first|exact (Kd.S_reads' HO_9.out).2.2|(with_reducible refine cA ?_ _)|(with_reducible refine cN ?_ _)|(with_reducible refine cD ?_));(case side2=>rw [show t123b.length=t112.length from (Kd.S_reads' HO_9.out).1.symm];exact (Kd.S_reads' HO_9.out).2.1);rintro e w' ⟨rfl,⟨nd,rfl⟩⟩;refine ⟨_,rfl,?_⟩))
                go_ret
                exact ⟨by first|rfl|(simp [errW_none,errW_some]<;>rfl)|(simp [*, errW_none,errW_some]<;>rfl),by repeat (first|(with_reducible first|exact HB.out|apply bA|apply bN|apply bD)|exact HB.out)⟩
               ·rw [if_neg c69] at H
                have c69b0:(t133==t123)=false:=beq_eq_false_iff_ne.mpr c69
                have c69b1:(t133 != t123)=true:=bne_iff_ne.mpr c69
                exact absurd ((Option.some.inj H).trans hr_.out) (by decide)
          ·rw [if_neg c49] at H
           have c49b0:(t124==t123)=false:=beq_eq_false_iff_ne.mpr c49
           have c49b1:(t124 != t123)=true:=bne_iff_ne.mpr c49
           exact absurd ((Option.some.inj H).trans hr_.out) (by decide)
     ·replace c29:=Bool.eq_false_iff.mpr c29
      subst c29
      have H1:(some false)=some r:=by rw [if_neg (show ¬ (false=true) by decide)] at H;exact H
      clear H
      have H:=H1
      clear H1
      exact absurd ((Option.some.inj H).trans hr_.out) (by decide)

/-- THE ONE PURE STATEMENT of laws_FnExactLeastStory: this session's. -/
def laws_FnExactLeastStory.Pure:Prop:=∀ (a0:Int) (l1:List (S38)),(Lit.int .i64 a0).wf=true→l1.length≤9223372036854775807→(∀ y∈l1,wf38 y)→(∀ y∈l1,y.f1.length≤9223372036854775807) → ∃ k,laws_FnExactLeastStory.f k a0 l1=some true
theorem laws_FnExactLeastStory.walk (P:laws_FnExactLeastStory.Pure) (a0:Int) (A1:Option Addr) (c1:Nat) (l1:List (S38)) (w:World) (hw0:(Lit.int .i64 a0).wf=true) (hr1:Kd.C k38 w A1 l1.length l1) (hc1:l1.length≤c1) (hw1:(∀ y∈l1,wf38 y)) :
  Calls Try.prog 3 #[.int .i64 a0,.slice A1 l1.length c1] w fun e w'=>e = .returned (.bool true)∧Below w.heap.size w w':=by
 obtain ⟨k,h⟩:=P a0 l1 hw0 hr1.2.1 hw1 (fun y hy=>by obtain ⟨i_,hi_,rfl⟩:=List.mem_iff_getElem.1 hy;obtain ⟨_,_,_,_,_,_,_,hC_⟩:=at_T38 hr1 (i_:Int) (by omega) (by omega);have h_:=hC_.2.1;simpa [rd_T38,List.getD,hi_] using h_)
 refine (laws_FnExactLeastStory.calls k a0 A1 c1 l1 true w hr1 hc1 ⟨rfl⟩ h).mono ?_
 rintro e w' ⟨rfl,hd⟩
 exact ⟨rfl,hd⟩
end Go.Proofs.Ytbhjeiphmnanoaa.X
/- Plain laws of terms, third text: what a valid row of marks says in a world, as a function of the row alone. -/
namespace Go.Proofs.Ytbhjeiphmnanoaa.L
open Go.RowKit Go.Proofs.Ytbhjeiphmnanoaa.X Go.Proofs.YtbhjeiphmnanoaaW.PrintWords Go.Proofs.YtbhjeiphmnanoaaW.PrintLast Go.Proofs.YtbhjeiphmnanoaaW.PrintMore
open Go.Proofs.YtbhjeiphmnanoaaW.PrintWords renaming Aside0.mk → mA, pw_below_drewN → bN, below_drew1 → bD, below_alloc → bA, below_set → bS, below_size → bZ, below_step → bT, Kd.R_alloc → rA, Kd.R_drewN → rN, Kd.R_drew → rD, Kd.R_mono → rM, Kd.R_reads' → rR, Kd.N_alloc → nA, Kd.N_drewN → nN, Kd.N_drew → nD, Kd.C_alloc → cA, Kd.C_drewN → cN, Kd.C_drew → cD
open List renaming setIfInBounds_toArray → sA, set_cons_zero → sZ, set_cons_succ → sS, length_take → lT, length_drop → lD, map_toArray → mT, map_cons → mC, map_nil → mN
open Bool renaming true → I, false → O
theorem Tm.good_four {p:Int} (hp:p≤4) : ∀ a:Tm,a.good p→a.good 4
 | .tell i,h=>by have h':(i:Int)<p:=h;show (i:Int)<4;omega
 | .cnt n,h=>by have h':(n:Int)≤p+1:=h;show (n:Int)≤4+1;omega
 | .neg a,h=>good_four hp a h
 | .bin o a b,h=>⟨h.1,good_four hp a h.2.1,good_four hp b h.2.2⟩
open Classical in
/-- The tree of a row of marks. -/
noncomputable def tree (t:List M):Tm:=if h : ∃ a:Tm,a.good 4∧t=a.post then Classical.choose h else .tell 0
theorem tree_post {a:Tm} (h:a.good 4):(tree a.post).good 4∧a.post=(tree a.post).post:=by
 have h' : ∃ b:Tm,b.good 4∧a.post=b.post:=⟨a,h,rfl⟩
 unfold tree
 rw [dif_pos h']
 exact Classical.choose_spec h'
/-- Whether a row of marks holds in a world. -/
noncomputable def hv (t:List M) (w:Nat):Bool:=(tree t).ev w
theorem hv_post {a:Tm} (h:a.good 4) (hl:a.post.length≤500) {w:Nat} (hw:w<16):hv a.post w=a.ev w:=by
 obtain ⟨h1,h2⟩:=tree_post h
 have e1:=impl_holds_ev (by decide) hw h hl
 have e2:=impl_holds_ev (by decide) hw h1 (by rw [←h2];exact hl)
 rw [←h2] at e2
 exact Ev.uniq e2 e1
theorem tok_tree {p:Int} {t:List M} (h:tok p t=true) : ∃ a:Tm,a.good p∧t=a.post∧a.good 4∧t.length≤15:=by
 obtain ⟨a,h1,h2⟩:=parse h
 obtain ⟨_,h3,_,h4,_⟩:=tok_iff.1 h
 exact ⟨a,h1,h2,a.good_four h3 h1,h4⟩
theorem impl_holds_hv {p:Int} {t:List M} (h:tok p t=true) {w:Nat} (hw:w<16):Ev (fun k=>impl_holds.f k t (w:Int)) (hv t w):=by
 obtain ⟨a,_,rfl,h4,hl⟩:=tok_tree h
 rw [hv_post h4 (by omega) hw]
 exact impl_holds_ev (by decide) hw h4 (by omega)
theorem spec_holds_hv {p:Int} {t:List M} (h:tok p t=true) {w:Nat} (hw:w<16):Ev (fun k=>spec_l3Holds.f k t (w:Int)) (hv t w):=by
 obtain ⟨a,_,rfl,h4,hl⟩:=tok_tree h
 rw [hv_post h4 (by omega) hw]
 exact l3Holds_ev (by decide) hw a h4 (by omega)
/-- Whether a claim may be made in a world. -/
noncomputable def may (i:Int) (t:List M) (w:Nat):Bool:=hv t w==w.testBit i.toNat
/-- The worlds below n in which P holds, as bits. -/
def tabL (P:Nat→Bool):Nat→Nat
 | 0=>0
 | n+1=>tabL P n ||| (if P n=true then 2^n else 0)
theorem tabL_bit (P:Nat→Bool) : ∀ n w,(tabL P n).testBit w=(decide (w<n)&&P w)
 | 0,w=>by simp [tabL]
 | n+1,w=>by
  rw [tabL,Nat.testBit_or,tabL_bit P n w]
  by_cases e:w=n
  ·subst e
   by_cases h:P w=true
   ·rw [if_pos h,Nat.testBit_two_pow_self,h];simp
   ·rw [if_neg h,Nat.zero_testBit];simp at h;simp [h]
  ·have h1:(if P n=true then 2^n else 0).testBit w=false:=by
    by_cases h:P n=true
    ·rw [if_pos h,Nat.testBit_two_pow];simp;omega
    ·rw [if_neg h,Nat.zero_testBit]
   rw [h1,Bool.or_false]
   congr 1
   exact decide_eq_decide.mpr (by omega)
theorem lt_of_bits {x n:Nat} (h : ∀ w,n≤w→x.testBit w=false):x<2^n:=Nat.lt_pow_two_of_testBit x (fun w hw=>h w hw)
theorem tabL_lt (P:Nat→Bool) (n:Nat):tabL P n<2^n:=lt_of_bits (fun w hw=>by rw [tabL_bit];simp;omega)
theorem tabL_mono {P:Nat→Bool} {n:Nat} (hn:n≤16):tabL P n<65536:=by
 have:=tabL_lt P n
 have h:(2:Nat)^n≤2^16:=Nat.pow_le_pow_right (by decide) hn
 omega
theorem wrap_i64_small (n:Int) (h0:0≤n) (h1:n<2^32):IntKind.i64.wrap n=n:=by rw [IntKind.wrap_i64];omega
theorem or_nat {a b:Nat} (ha:a<2^32) (hb:b<2^32):Go.bits .or .i64 (a:Int) (b:Int)=((a ||| b:Nat):Int):=(bits_nat .i64 32 (by decide) wrap_i64_small a b ha hb).2
theorem and_nat {a b:Nat} (ha:a<2^32) (hb:b<2^32):Go.bits .and .i64 (a:Int) (b:Int)=((a &&& b:Nat):Int):=(bits_nat .i64 32 (by decide) wrap_i64_small a b ha hb).1
theorem shl_fin : ∀ i:Fin 31,shl .i64 1 ((i.val:Nat):Int)=((2^i.val:Nat):Int):=by decide +kernel
theorem shl_nat {i:Nat} (hi:i<31):shl .i64 1 (i:Int)=((2^i:Nat):Int):=shl_fin ⟨i,hi⟩
theorem or_step {P:Nat→Bool} {i:Nat} (hi:i<16) (h:P i=true):Go.bits .or .i64 ((tabL P i:Nat):Int) (shl .i64 1 (i:Int))=((tabL P (i+1):Nat):Int):=by
 have h1:=tabL_lt P i
 have h2:(2:Nat)^i<2^16:=Nat.pow_lt_pow_right (by decide) hi
 rw [shl_nat (by omega),or_nat (by omega) (by omega),tabL,if_pos h]
theorem not_step {P:Nat→Bool} {i:Nat} (h : ¬ P i=true):tabL P (i+1)=tabL P i:=by rw [tabL,if_neg h,Nat.or_zero]
theorem people_nat {p:Int} (h0:1≤p) (h1:p≤4) : ∃ q:Nat,p=(q:Int)∧1≤q∧q≤4∧2^q≤16∧p.toNat=q:=by
 obtain ⟨q,rfl⟩:=Int.eq_ofNat_of_zero_le (show 0≤p by omega)
 refine ⟨q,rfl,by omega,by omega,?_,by simp⟩
 have:(2:Nat)^q≤2^4:=Nat.pow_le_pow_right (by decide) (by omega)
 omega
theorem tableBy_l0 {F:Nat→Int→Option Bool} {P:Nat→Bool} {n:Nat} (hn:n≤16) (hF : ∀ w:Nat,w<n→Ev (fun k=>F k (w:Int)) (P w)) : ∀ d i,d+i=n →
  Ev (fun k=>impl_tableBy.l0 F k ((tabL P i:Nat):Int) (n:Int) (i:Int)) ((tabL P n:Nat):Int):=by
 intro d
 induction d with
 | zero =>
  intro i hi
  rw [Nat.zero_add] at hi
  subst hi
  exact Ev.step (fun k=>by simp only [impl_tableBy.l0];rfl) (Ev.no (by omega) (Ev.some _))
 | succ d ih =>
  intro i hi
  refine Ev.step (fun k=>by simp only [impl_tableBy.l0];rfl) ?_
  refine Ev.yes (by omega) (Ev.bind (hF i (by omega)) ?_)
  rw [w64 (by omega) (by omega),show ((i:Int)+1)=((i+1:Nat):Int) by omega]
  by_cases h:P i=true
  ·refine Ev.yes h (Ev.yes (by omega) ?_)
   rw [or_step (by omega) h]
   exact ih (i+1) (by omega)
  ·refine Ev.no h ?_
   have:=ih (i+1) (by omega)
   rwa [not_step h] at this
theorem tableBy_ev {F:Nat→Int→Option Bool} {P:Nat→Bool} {q:Nat} (hq:q≤4) (hF : ∀ w:Nat,w<2^q→Ev (fun k=>F k (w:Int)) (P w)):Ev (fun k=>impl_tableBy.f F k (q:Int)) ((tabL P (2^q):Nat):Int):=by
 unfold impl_tableBy.f
 refine Ev.yes (by omega) ?_
 rw [shl_nat (by omega)]
 have h16:(2:Nat)^q≤2^4:=Nat.pow_le_pow_right (by decide) hq
 exact tableBy_l0 (by omega) hF (2^q) 0 (by omega)
end Go.Proofs.Ytbhjeiphmnanoaa.L
