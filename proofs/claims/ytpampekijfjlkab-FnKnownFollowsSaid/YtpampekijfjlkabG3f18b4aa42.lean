/- Joined by a program of this session's: LCBS, X89, LSTS, LDKP, X122, X123, LWS, LBI, LSTI, LKP, X90, LSTT, X143, LKPS, LKPW, LSB, LWM, X124, LOW, LSAB. -/
import Derived.Test.YtpampekijfjlkabGc2593faa92
import Derived.Test.YtpampekijfjlkabG44e43c9cff
import Derived.Test.YtpampekijfjlkabG84f2d8842f
import Derived.Test.YtpampekijfjlkabG47e08af4a9
import Derived.Test.YtpampekijfjlkabGb8887b9914

/- Plain laws of the reference's tables of claims. -/
namespace Go.Proofs.Ytpampekijfjlkab.L
open Go.RowKit Go.Proofs.Ytpampekijfjlkab.X Go.Proofs.YtpampekijfjlkabW.PrintWords Go.Proofs.YtpampekijfjlkabW.PrintLast Go.Proofs.YtpampekijfjlkabW.PrintMore
open Go.Proofs.YtpampekijfjlkabW.PrintWords renaming Aside0.mk → mA, pw_below_drewN → bN, below_drew1 → bD, below_alloc → bA, below_size → bZ, below_step → bT, Kd.R_alloc → rA, Kd.R_drewN → rN, Kd.R_drew → rD, Kd.R_mono → rM, Kd.R_reads' → rR, Kd.R_lt → rL, Kd.R_below → rB, Kd.C_alloc → cA, Kd.C_drewN → cN, Kd.C_drew → cD
open List renaming length_take → lT, length_drop → lD, map_toArray → mT, map_cons → mC, map_nil → mN

end Go.Proofs.Ytpampekijfjlkab.L
namespace Go.Proofs.Ytpampekijfjlkab.X
open Go.RowKit Go.Proofs.YtpampekijfjlkabW.PrintWords Go.Proofs.YtpampekijfjlkabW.PrintLast Go.Proofs.YtpampekijfjlkabW.PrintMore
open Go.Proofs.YtpampekijfjlkabW.PrintWords renaming Aside0.mk → mA, pw_below_drewN → bN, below_drew1 → bD, below_alloc → bA, below_size → bZ, below_step → bT, Kd.R_alloc → rA, Kd.R_drewN → rN, Kd.R_drew → rD, Kd.R_mono → rM, Kd.R_reads' → rR, Kd.R_lt → rL, Kd.R_below → rB, Kd.C_alloc → cA, Kd.C_drewN → cN, Kd.C_drew → cD
open List renaming length_take → lT, length_drop → lD, map_toArray → mT, map_cons → mC, map_nil → mN
attribute [local go_sem] max2_int min2_int max_two min_two max_three min_three max_four min_four   -- for this text's walks alone
set_option linter.unusedVariables false
set_option linter.unusedSimpArgs false
/-! ### spec_l4Story: function 127 -/
def spec_l4Story.l0:Nat→Int→List (S36)→Int→Int→Option (Int)
 | 0,_,_,_,_=>none
 | k+1,x0,x1,x5,x6=>if x6<(x1.length:Int) then (if 0≤x6 then ((spec_l4Table.f k x0 ((rd_T36 x1 x6).f0) ((rd_T36 x1 x6).f1)).bind fun t102=>(spec_l4Story.l0 k x0 x1 (Go.bits .and .i64 x5 t102) (wrap64 (x6+1)))) else (none)) else (some x5)
def spec_l4Story.f (k:Nat) (a0:Int) (l1:List (S36)):Option (Int):=if 0≤a0 then (spec_l4Story.l0 k a0 l1 (wrap64 ((shl .i64 1 (shl .u64 1 a0))-1)) 0) else (none)
theorem spec_l4Story.mono_l : ∀ k,(∀ y0 y1 y2 y3,LeO (spec_l4Story.l0 k y0 y1 y2 y3) (spec_l4Story.l0 (k+1) y0 y1 y2 y3))
 | 0=>fun _ _ _ _ r h=>by simp [spec_l4Story.l0] at h
 | k+1=>by
  have ih0:=spec_l4Story.mono_l k
  ·intro y0 y1 y2 y3
   unfold spec_l4Story.l0
   repeat' first
   | (with_reducible exact ih0 _ _ _ _)
   | (with_reducible exact spec_l4Table.mono _ _ _ _)
   | (with_reducible exact LeO.refl _)
   | (with_reducible exact LeO.none _)
   | (with_reducible refine LeO.ite ?_ ?_)
   | (with_reducible refine LeO.bind ?_ (fun _=>?_))
   | exact ih0 _ _ _ _
   | exact spec_l4Table.mono _ _ _ _
   | exact LeO.none _
   | refine LeO.ite ?_ ?_
   | refine LeO.bind ?_ (fun _=>?_)
theorem spec_l4Story.mono : ∀ a0 a1 k,LeO (spec_l4Story.f k a0 a1) (spec_l4Story.f (k+1) a0 a1):=by
 intro a0 a1 k
 have ih0:=spec_l4Story.mono_l k
 unfold spec_l4Story.f
 repeat' first
   | (with_reducible exact ih0 _ _ _ _)
   | (with_reducible exact spec_l4Table.mono _ _ _ _)
   | (with_reducible exact LeO.refl _)
   | (with_reducible exact LeO.none _)
   | (with_reducible refine LeO.ite ?_ ?_)
   | (with_reducible refine LeO.bind ?_ (fun _=>?_))
   | exact ih0 _ _ _ _
   | exact spec_l4Table.mono _ _ _ _
   | exact LeO.none _
   | refine LeO.ite ?_ ?_
   | refine LeO.bind ?_ (fun _=>?_)
set_option maxHeartbeats 8000000 in
set_option maxRecDepth 100000 in
theorem spec_l4Story.calls (k:Nat) (a0:Int) (A1:Option Addr) (c1:Nat) (l1:List (S36)) (r:Int) (w:World) (hr1:Kd.C k36 w A1 l1.length l1) (hc1:l1.length≤c1) (h:spec_l4Story.f k a0 l1=some r) :
  Calls Try.prog 127 #[.int .i64 a0,.slice A1 l1.length c1] w fun e w'=>e = .returned (.int .i64 r)∧Below w.heap.size w w':=by
 have hu36:=Try.underlying36
 have HR1:=mA hr1
 have HC1:=mA hc1
 clear hr1 hc1
 have HB:=mA (Below.refl w.heap.size w)
 have H:(if 0≤a0 then (spec_l4Story.l0 k a0 l1 (wrap64 ((shl .i64 1 (shl .u64 1 a0))-1)) 0) else (none))=some r:=h
 clear h
 by_cases c3:0≤a0
 ·rw [if_pos c3] at H
  have c3b0:=eq_true c3
  have c3b1:decide (0≤a0)=true:=decide_eq_true c3
  clear c3
  obtain ⟨ji4,hji4⟩ : ∃ j_:Int,(shl .u64 1 a0)=j_:=⟨_,rfl⟩
  have hji4_n:(0≤ji4)=True:=eq_true (by rw [←hji4];exact shl_u64_nonneg _ _)
  replace H:(spec_l4Story.l0 k a0 l1 (wrap64 ((shl .i64 1 (ji4))-1)) 0)=some r:=by first|(rw [hji4] at H;exact H)|(simp only [hji4] at H ⊢;exact H)
  have hji4_:(IntKind.u64.wrap (1*2^min a0.toNat 64))=ji4:=hji4
  have hji4z:a0≤64→(IntKind.u64.wrap (1*2^a0.toNat))=ji4:=shl_small hji4
  have hji4u:(IntKind.u64.wrap (2^min a0.toNat 64))=ji4:=by have h_:=hji4_;rw [Int.one_mul] at h_;exact h_
  have hji4v:a0≤64→(IntKind.u64.wrap (2^a0.toNat))=ji4:=fun hle_=>by have h_:=hji4z hle_;rw [Int.one_mul] at h_;exact h_
  obtain ⟨ji5,hji5⟩ : ∃ j_:Int,(shl .i64 1 (ji4))=j_:=⟨_,rfl⟩
  replace H:(spec_l4Story.l0 k a0 l1 (wrap64 ((ji5)-1)) 0)=some r:=by first|(rw [hji5] at H;exact H)|(simp only [hji5] at H ⊢;exact H)
  have hji5_:(IntKind.i64.wrap (1*2^min (ji4).toNat 64))=ji5:=hji5
  have hji5z:(ji4)≤64→(IntKind.i64.wrap (1*2^(ji4).toNat))=ji5:=shl_small hji5
  have hji5u:(IntKind.i64.wrap (2^min (ji4).toNat 64))=ji5:=by have h_:=hji5_;rw [Int.one_mul] at h_;exact h_
  have hji5v:(ji4)≤64→(IntKind.i64.wrap (2^(ji4).toNat))=ji5:=fun hle_=>by have h_:=hji5z hle_;rw [Int.one_mul] at h_;exact h_
  have hji5y:(wrap64 (1*2^min (ji4).toNat 64))=ji5:=(i64_w _).symm.trans hji5_
  have hji5x:(ji4)≤64→(wrap64 (1*2^(ji4).toNat))=ji5:=fun h_=>(i64_w _).symm.trans (hji5z h_)
  have H':=mA H
  clear H
  go_enter Try.func127,Try.ntmps127
  go_wp2
  go_loopg [5,6] k (fun kq v5 v6 w'=>∃ (x5_1:Int) (x6_1:Int),v5 = .int .i64 x5_1∧v6 = .int .i64 x6_1∧Aside0 (spec_l4Story.l0 kq a0 l1 x5_1 x6_1=some r)∧Aside0 (kq≤k)∧Aside0 (Below w.heap.size w w'))
  case atStart=>exact ⟨(wrap64 ((ji5)-1)),(0),(by first|rfl|(simp;done)|(simp only [←hji5]<;>(first|rfl|simp))|(simp [*];done)),(by first|rfl|(simp;done)|(simp [*];done)),H',⟨Nat.le_refl _⟩,⟨by repeat (first|(with_reducible first|exact HB.out|apply bA|apply bN|apply bD)|exact HB.out)⟩⟩
  case round =>
   clear H'
   try clear c1
   try clear p2
   try clear c3
   try clear c3b0
   try clear c3b1
   obtain ⟨x5_1,x6_1,rfl,rfl,HA,HK1,HB⟩:=hrel
   cases gk with
   | zero=>exact absurd HA.out (by simp [spec_l4Story.l0])
   | succ k1 =>
    have H:=HA.out
    clear HA
    simp only [spec_l4Story.l0] at H
    by_cases c6:x6_1<(l1.length:Int)
    ·rw [if_pos c6] at H
     have c6b0:decide (x6_1<(l1.length:Int))=true:=decide_eq_true c6
     clear c6
     by_cases c7:0≤x6_1
     ·rw [if_pos c7] at H
      have c7b0:decide (0≤x6_1)=true:=decide_eq_true c7
      clear c7
      replace H:=Option.bind_eq_some_iff.mp H
      obtain ⟨t102,A80,H⟩:=H
      replace H:(spec_l4Story.l0 k1 a0 l1 (Go.bits .and .i64 x5_1 t102) (wrap64 (x6_1+1)))=some r:=H
      have A8:=mA A80
      clear A80
      have H':=mA H
      clear H
      have p101:0≤(x6_1:Int):=of_decide_eq_true (by first|(with_reducible assumption)|assumption)
      have q101:x6_1<(l1.length:Int):=of_decide_eq_true (by first|(with_reducible assumption)|assumption)
      obtain ⟨ad101,A101_1,c101_1,e101,hx101_0,hx101_1,hl101_1,hi101_1⟩:=at_T36 HR1.out x6_1 p101 q101
      cases e101
      replace hx101_0:=(HB.out.cell (World.block_lt_of_cell? w _ hx101_0)).trans hx101_0
      replace hx101_1:=(HB.out.cell (World.block_lt_of_cell? w _ hx101_1)).trans hx101_1
      have HR101_1:=mA hi101_1
      have HC101_1:=mA hl101_1
      clear hi101_1 hl101_1
      replace p101:=eq_true p101
      replace q101:=eq_true q101
      go_wp2_with (first|((with_reducible refine gate_callee (f:=114) rfl ?_);refine goesL_ (some 23) rfl rfl Try.func114 (by kernel_rfl) rfl #[.int .i64 a0,.agg #[.int .i64 ((rd_T36 l1 x6_1).f0),.slice A101_1 ((rd_T36 l1 x6_1).f1).length c101_1]] rfl (by (try simp only [mT,mC,mN]);first|done|rfl|(simp only [lD,lT];rfl)) ?_;(with_reducible refine (spec_l4Table.calls k1 a0 ((rd_T36 l1 x6_1).f0) _ _ ((rd_T36 l1 x6_1).f1) t102 _ ?side1 ?side2 A8.out).mono ?_);(case side1=>repeat (first|exact (Kd.C_below HR101_1.out HB.out)|(with_reducible refine cA ?_ _)|(with_reducible refine cN ?_ _)|(with_reducible refine cD ?_)));(case side2=>exact HC101_1.out);rintro e w9 ⟨rfl,hb⟩;refine ⟨_,rfl,?_⟩;have n0_:=mA (bT (by repeat (first|(with_reducible first|exact HB.out|apply bA|apply bN|apply bD)|exact HB.out)) hb);clear HB;have HB:=n0_;clear n0_;(try clear hb);(try clear hb2);(try clear hk);(try clear hi)))
      go_roundg k1
      case measure=>have:=HK1.out;omega
      case rel=>exact ⟨(Go.bits .and .i64 x5_1 t102),(wrap64 (x6_1+1)),(by first|rfl|(simp;done)|(simp [*];done)),(by first|rfl|(simp;done)|(simp [*];done)),H',⟨by have:=HK1.out;omega⟩,⟨by repeat (first|(with_reducible first|exact HB.out|apply bA|apply bN|apply bD)|exact HB.out)⟩⟩
     ·rw [if_neg c7] at H
      exact absurd H (by simp)
    ·rw [if_neg c6] at H
     have c6b0:decide (x6_1<(l1.length:Int))=false:=decide_eq_false c6
     clear c6
     obtain rfl:=Option.some.inj H
     go_wp2
     go_ret
     exact ⟨by first|rfl|(simp [errW_none,errW_some]<;>rfl)|(simp only [←hji4, ←hji5];first|rfl|(simp [errW_none,errW_some]<;>rfl))|(simp [*, errW_none,errW_some]<;>rfl),by repeat (first|(with_reducible first|exact HB.out|apply bA|apply bN|apply bD)|exact HB.out)⟩
 ·rw [if_neg c3] at H
  exact absurd H (by simp)
end Go.Proofs.Ytpampekijfjlkab.X
/- Plain laws of the reference's stories and their tables. -/
namespace Go.Proofs.Ytpampekijfjlkab.L
open Go.RowKit Go.Proofs.Ytpampekijfjlkab.X Go.Proofs.YtpampekijfjlkabW.PrintWords Go.Proofs.YtpampekijfjlkabW.PrintLast Go.Proofs.YtpampekijfjlkabW.PrintMore
open Go.Proofs.YtpampekijfjlkabW.PrintWords renaming Aside0.mk → mA, pw_below_drewN → bN, below_drew1 → bD, below_alloc → bA, below_size → bZ, below_step → bT, Kd.R_alloc → rA, Kd.R_drewN → rN, Kd.R_drew → rD, Kd.R_mono → rM, Kd.R_reads' → rR, Kd.R_lt → rL, Kd.R_below → rB, Kd.C_alloc → cA, Kd.C_drewN → cN, Kd.C_drew → cD
open List renaming length_take → lT, length_drop → lD, map_toArray → mT, map_cons → mC, map_nil → mN
/-- Small enough for the reference's tests. -/
def Fit (l:List C):Prop:=∀ c∈l,c.f1.length≤4611686018427387904 ∧ ∀ m∈c.f1,m.f1≤9223372036854775807
theorem spec_StoryOk_l0 {p:Int} {l:List C} (hl:l.length≤4611686018427387904) : ∀ (suf pre:List C),l=pre++suf→Fit suf →
  Ev (fun k=>spec_StoryOk.l0 k p l ((pre.length:Nat):Int)) (suf.all (fun c=>clok p c.f0 c.f1)&&decide (1≤p∧p≤4∧l.length≤6)):=by
 intro suf
 induction suf with
 | nil =>
  intro pre he _
  have hle:l.length=pre.length:=by rw [he];simp
  refine Ev.step (fun k=>by simp only [spec_StoryOk.l0];rfl) ?_
  refine Ev.no (by omega) ?_
  simp only [l1In_eq,Option.bind_some,List.all_nil,Bool.true_and]
  by_cases h:1≤p∧p≤4
  ·refine Ev.yes (decide_eq_true h) (Ev.cast (Ev.some _) ?_)
   exact decide_eq_decide.mpr (by omega)
  ·refine Ev.no (by simpa using h) (Ev.cast (Ev.some _) ?_)
   exact (decide_eq_false (fun hh=>h ⟨hh.1,hh.2.1⟩)).symm
 | cons c t ih =>
  intro pre he hf
  have hle:l.length=pre.length+(t.length+1):=by rw [he];simp
  have hc:rd_T36 l ((pre.length:Nat):Int)=c:=by rw [he];exact rdC_at pre c t
  have hfc:=hf c (by simp)
  refine Ev.step (fun k=>by simp only [spec_StoryOk.l0];rfl) ?_
  rw [hc,w64 (by omega) (by omega),show (((pre.length:Nat):Int)+1)=(((pre++[c]).length:Nat):Int) by simp]
  refine Ev.yes (by omega) (Ev.yes (by omega) (Ev.bind (spec_ClaimOk_ev p c.f0 c.f1 hfc.1 hfc.2) ?_))
  by_cases h:clok p c.f0 c.f1=true
  ·exact Ev.yes h (Ev.cast (ih (pre++[c]) (by rw [he];simp) (fun x hx=>hf x (List.mem_cons_of_mem _ hx))) (by rw [List.all_cons,h,Bool.true_and]))
  ·rw [Bool.not_eq_true] at h
   rw [h]
   exact Ev.no (by simp) (Ev.cast (Ev.some _) (by rw [List.all_cons,h];simp))
theorem spec_StoryOk_ev (p:Int) (l:List C) (hl:l.length≤4611686018427387904) (hf:Fit l):Ev (fun k=>spec_StoryOk.f k p l) (sok p l):=by
 unfold spec_StoryOk.f
 exact spec_StoryOk_l0 hl l [] rfl hf
theorem DrawKnownPeople_ev {l:List Int} (hw : ∀ x∈l,(Lit.int .u8 x).wf=true) : ∃ (p:Int) (c:List S36),Ev (fun k=>spec_DrawKnownPeople.f k l) (p,c)∧1≤p∧p≤4∧c.length≤7∧SmC c:=by
 obtain ⟨s,hs,ho⟩:=open_eq hw
 obtain ⟨p,c,n,h,h1,h2,h3,h4,_⟩:=l20Story_ev hs 12 (by omega) (by omega)
 refine ⟨p,c,?_,h1,h2,h3,h4⟩
 unfold spec_DrawKnownPeople.f
 rw [ho]
 simp only [Option.bind_some]
 exact Ev.bind h (Ev.some _)
theorem SmC.fit' {c:List S36} (h:SmC c):Fit c:=fun x hx=>⟨by have:=(h x hx).1;omega,(h x hx).2.wf⟩
end Go.Proofs.Ytpampekijfjlkab.L
namespace Go.Proofs.Ytpampekijfjlkab.X
open Go.RowKit Go.Proofs.YtpampekijfjlkabW.PrintWords Go.Proofs.YtpampekijfjlkabW.PrintLast Go.Proofs.YtpampekijfjlkabW.PrintMore
open Go.Proofs.YtpampekijfjlkabW.PrintWords renaming Aside0.mk → mA, pw_below_drewN → bN, below_drew1 → bD, below_alloc → bA, below_size → bZ, below_step → bT, Kd.R_alloc → rA, Kd.R_drewN → rN, Kd.R_drew → rD, Kd.R_mono → rM, Kd.R_reads' → rR, Kd.R_lt → rL, Kd.R_below → rB, Kd.C_alloc → cA, Kd.C_drewN → cN, Kd.C_drew → cD
open List renaming length_take → lT, length_drop → lD, map_toArray → mT, map_cons → mC, map_nil → mN
attribute [local go_sem] max2_int min2_int max_two min_two max_three min_three max_four min_four   -- for this text's walks alone
set_option linter.unusedVariables false
set_option linter.unusedSimpArgs false
/-! ### spec_TableOk: function 146 -/
def spec_TableOk.f (a0:Int) (a1:Int):Option (Bool):=(spec_l1In.f a0 1 4).bind fun t101=>(if t101=true then (if 0≤a0 then ((spec_l1In.f a1 0 (wrap64 ((shl .i64 1 (shl .u64 1 a0))-1))).bind fun t102=>(some t102)) else (none)) else (some false))
set_option maxHeartbeats 8000000 in
set_option maxRecDepth 100000 in
theorem spec_TableOk.calls (a0:Int) (a1:Int) (r:Bool) (w:World) (h:spec_TableOk.f a0 a1=some r) :
  Calls Try.prog 146 #[.int .i64 a0,.int .i64 a1] w fun e w'=>e = .returned (.bool r)∧Drawn0 w w':=by
 have H:((spec_l1In.f a0 1 4).bind fun t101=>(if t101=true then (if 0≤a0 then ((spec_l1In.f a1 0 (wrap64 ((shl .i64 1 (shl .u64 1 a0))-1))).bind fun t102=>(some t102)) else (none)) else (some false)))=some r:=h
 clear h
 replace H:=Option.bind_eq_some_iff.mp H
 obtain ⟨t101,A30,H⟩:=H
 replace H:(if t101=true then (if 0≤a0 then ((spec_l1In.f a1 0 (wrap64 ((shl .i64 1 (shl .u64 1 a0))-1))).bind fun t102=>(some t102)) else (none)) else (some false))=some r:=H
 have A3:=mA A30
 clear A30
 by_cases c4:t101=true
 ·subst c4
  have H1:(if 0≤a0 then ((spec_l1In.f a1 0 (wrap64 ((shl .i64 1 (shl .u64 1 a0))-1))).bind fun t102=>(some t102)) else (none))=some r:=by rw [if_pos rfl] at H;exact H
  clear H
  have H:=H1
  clear H1
  by_cases c5:0≤a0
  ·rw [if_pos c5] at H
   have c5b0:=eq_true c5
   have c5b1:decide (0≤a0)=true:=decide_eq_true c5
   clear c5
   obtain ⟨ji6,hji6⟩ : ∃ j_:Int,(shl .u64 1 a0)=j_:=⟨_,rfl⟩
   have hji6_n:(0≤ji6)=True:=eq_true (by rw [←hji6];exact shl_u64_nonneg _ _)
   replace H:((spec_l1In.f a1 0 (wrap64 ((shl .i64 1 (ji6))-1))).bind fun t102=>(some t102))=some r:=by first|(rw [hji6] at H;exact H)|(simp only [hji6] at H ⊢;exact H)
   (try rw [hji6] at A3)
   have hji6_:(IntKind.u64.wrap (1*2^min a0.toNat 64))=ji6:=hji6
   have hji6z:a0≤64→(IntKind.u64.wrap (1*2^a0.toNat))=ji6:=shl_small hji6
   have hji6u:(IntKind.u64.wrap (2^min a0.toNat 64))=ji6:=by have h_:=hji6_;rw [Int.one_mul] at h_;exact h_
   have hji6v:a0≤64→(IntKind.u64.wrap (2^a0.toNat))=ji6:=fun hle_=>by have h_:=hji6z hle_;rw [Int.one_mul] at h_;exact h_
   obtain ⟨ji7,hji7⟩ : ∃ j_:Int,(shl .i64 1 (ji6))=j_:=⟨_,rfl⟩
   replace H:((spec_l1In.f a1 0 (wrap64 ((ji7)-1))).bind fun t102=>(some t102))=some r:=by first|(rw [hji7] at H;exact H)|(simp only [hji7] at H ⊢;exact H)
   (try rw [hji7] at A3)
   have hji7_:(IntKind.i64.wrap (1*2^min (ji6).toNat 64))=ji7:=hji7
   have hji7z:(ji6)≤64→(IntKind.i64.wrap (1*2^(ji6).toNat))=ji7:=shl_small hji7
   have hji7u:(IntKind.i64.wrap (2^min (ji6).toNat 64))=ji7:=by have h_:=hji7_;rw [Int.one_mul] at h_;exact h_
   have hji7v:(ji6)≤64→(IntKind.i64.wrap (2^(ji6).toNat))=ji7:=fun hle_=>by have h_:=hji7z hle_;rw [Int.one_mul] at h_;exact h_
   have hji7y:(wrap64 (1*2^min (ji6).toNat 64))=ji7:=(i64_w _).symm.trans hji7_
   have hji7x:(ji6)≤64→(wrap64 (1*2^(ji6).toNat))=ji7:=fun h_=>(i64_w _).symm.trans (hji7z h_)
   replace H:=Option.bind_eq_some_iff.mp H
   obtain ⟨t102,A80,H⟩:=H
   replace H:(some t102)=some r:=H
   have A8:=mA A80
   clear A80
   obtain rfl:=Option.some.inj H
   go_enter Try.func146,Try.ntmps146
   go_wp2_with (first|((with_reducible refine gate_callee (f:=98) rfl ?_);refine goesL_ (some 6) rfl rfl Try.func98 (by kernel_rfl) rfl #[.int .i64 a0,.int .i64 1,.int .i64 4] rfl (by (try simp only [mT,mC,mN]);first|done|rfl|(simp only [lD,lT];rfl)) ?_;(with_reducible refine (spec_l1In.calls a0 1 4 true _ A3.out).mono ?_);rintro e w' ⟨rfl,⟨nd,rfl⟩⟩;refine ⟨_,rfl,?_⟩)|(go_at_call 98;(with_reducible refine (spec_l1In.calls a1 0 (wrap64 ((ji7)-1)) t102 _ A8.out).mono ?_);rintro e w' ⟨rfl,⟨nd,rfl⟩⟩))
   go_ret
   exact ⟨by first|rfl|(simp;done)|(simp only [←hji6, ←hji7]<;>(first|rfl|simp))|(simp [*];done),by repeat (first|exact Drawn0.refl _|apply Drawn0.step)⟩
  ·rw [if_neg c5] at H
   exact absurd H (by simp)
 ·replace c4:=Bool.eq_false_iff.mpr c4
  subst c4
  have H1:(some false)=some r:=by rw [if_neg (show ¬ (false=true) by decide)] at H;exact H
  clear H
  have H:=H1
  clear H1
  obtain rfl:=Option.some.inj H
  go_enter Try.func146,Try.ntmps146
  go_wp2_with (first|((with_reducible refine gate_callee (f:=98) rfl ?_);refine goesL_ (some 6) rfl rfl Try.func98 (by kernel_rfl) rfl #[.int .i64 a0,.int .i64 1,.int .i64 4] rfl (by (try simp only [mT,mC,mN]);first|done|rfl|(simp only [lD,lT];rfl)) ?_;(with_reducible refine (spec_l1In.calls a0 1 4 false _ A3.out).mono ?_);rintro e w' ⟨rfl,⟨nd,rfl⟩⟩;refine ⟨_,rfl,?_⟩))
  go_ret
  exact ⟨by first|rfl|(simp;done)|(simp [*];done),by repeat (first|exact Drawn0.refl _|apply Drawn0.step)⟩
/-! ### spec_WorldsIn: function 134 -/
mutual
def spec_WorldsIn.l0:Nat→Int→Int→List Int→Int→Option (List Int)
 | 0,_,_,_,_=>none
 | k+1,x0,x1,x5,x6=>(spec_TableOk.f x0 x1).bind fun t104=>(if t104=true then (if 0≤x0 then (spec_WorldsIn.j1 k x0 x1 x5 x6 (decide (x6<(shl .i64 1 x0)))) else (none)) else (spec_WorldsIn.j1 k x0 x1 x5 x6 false))
def spec_WorldsIn.j1:Nat→Int→Int→List Int→Int→Bool→Option (List Int)
 | 0,_,_,_,_,_=>none
 | k+1,x0,x1,x5,x6,x16=>if x16=true then (if 0≤x6 then (if (Int.tmod (shr .i64 x1 x6) 2)=1 then (if x5.length<17592186044416 then (spec_WorldsIn.l0 k x0 x1 (x5++[x6]) (wrap64 (x6+1))) else (none)) else (spec_WorldsIn.l0 k x0 x1 x5 (wrap64 (x6+1)))) else (none)) else (some x5)
end
def spec_WorldsIn.f (k:Nat) (a0:Int) (a1:Int):Option (List Int):=spec_WorldsIn.l0 k a0 a1 (([]:List Int)) 0
theorem spec_WorldsIn.mono_l : ∀ k,(∀ y0 y1 y2 y3,LeO (spec_WorldsIn.l0 k y0 y1 y2 y3) (spec_WorldsIn.l0 (k+1) y0 y1 y2 y3))∧(∀ y0 y1 y2 y3 y4,LeO (spec_WorldsIn.j1 k y0 y1 y2 y3 y4) (spec_WorldsIn.j1 (k+1) y0 y1 y2 y3 y4))
 | 0=>⟨fun _ _ _ _ r h=>by simp [spec_WorldsIn.l0] at h,fun _ _ _ _ _ r h=>by simp [spec_WorldsIn.j1] at h⟩
 | k+1=>by
  obtain ⟨ih0,ih1⟩:=spec_WorldsIn.mono_l k
  refine ⟨?_,?_⟩
  ·intro y0 y1 y2 y3
   unfold spec_WorldsIn.l0
   repeat' first
   | (with_reducible exact ih0 _ _ _ _)
   | (with_reducible exact ih1 _ _ _ _ _)
   | (with_reducible exact LeO.refl _)
   | (with_reducible exact LeO.none _)
   | (with_reducible refine LeO.ite ?_ ?_)
   | (with_reducible refine LeO.bind ?_ (fun _=>?_))
   | exact ih0 _ _ _ _
   | exact ih1 _ _ _ _ _
   | exact LeO.none _
   | refine LeO.ite ?_ ?_
   | refine LeO.bind ?_ (fun _=>?_)
  ·intro y0 y1 y2 y3 y4
   unfold spec_WorldsIn.j1
   repeat' first
   | (with_reducible exact ih0 _ _ _ _)
   | (with_reducible exact ih1 _ _ _ _ _)
   | (with_reducible exact LeO.refl _)
   | (with_reducible exact LeO.none _)
   | (with_reducible refine LeO.ite ?_ ?_)
   | (with_reducible refine LeO.bind ?_ (fun _=>?_))
   | exact ih0 _ _ _ _
   | exact ih1 _ _ _ _ _
   | exact LeO.none _
   | refine LeO.ite ?_ ?_
   | refine LeO.bind ?_ (fun _=>?_)
theorem spec_WorldsIn.mono : ∀ a0 a1 k,LeO (spec_WorldsIn.f k a0 a1) (spec_WorldsIn.f (k+1) a0 a1):=by
 intro a0 a1 k
 obtain ⟨ih0,ih1⟩:=spec_WorldsIn.mono_l k
 unfold spec_WorldsIn.f
 repeat' first
   | (with_reducible exact ih0 _ _ _ _)
   | (with_reducible exact ih1 _ _ _ _ _)
   | (with_reducible exact LeO.refl _)
   | (with_reducible exact LeO.none _)
   | (with_reducible refine LeO.ite ?_ ?_)
   | (with_reducible refine LeO.bind ?_ (fun _=>?_))
   | exact ih0 _ _ _ _
   | exact ih1 _ _ _ _ _
   | exact LeO.none _
   | refine LeO.ite ?_ ?_
   | refine LeO.bind ?_ (fun _=>?_)
set_option maxHeartbeats 8000000 in
set_option maxRecDepth 100000 in
theorem spec_WorldsIn.calls (k:Nat) (a0:Int) (a1:Int) (r:List Int) (w:World) (h:spec_WorldsIn.f k a0 a1=some r) :
  Calls Try.prog 134 #[.int .i64 a0,.int .i64 a1] w fun e w'=>∃ v0_:Value,e = .returned (v0_)∧Kd.R (Kd.int .i64) 3 w' w.heap.size (fun _=>True) v0_ r∧Below w.heap.size w w':=by
 have HB:=mA (Below.refl w.heap.size w)
 have H:(spec_WorldsIn.l0 k a0 a1 (([]:List Int)) 0)=some r:=h
 clear h
 obtain ⟨y101,hy101⟩ : ∃ y_:List Int,y_=(([]:List Int)):=⟨_,rfl⟩
 replace H:(spec_WorldsIn.l0 k a0 a1 y101 0)=some r:=by first|(rw [hy101];with_reducible exact H)|(have H2_:=(Option.bind_some _ _).symm.trans H;rw [hy101];with_reducible exact H2_)|(have H2_:=(Option.bind_some _ _).symm.trans H;with_reducible exact H2_)|with_reducible exact H|(rw [hy101];exact H)|exact H
 have Ny101:=mA hy101
 clear hy101
 have H':=mA H
 clear H
 go_enter Try.func134,Try.ntmps134
 go_wp2_with (first|((with_reducible refine gate_dst (N:=7) rfl ?_);refine Kd.R_lit (Kd.int .i64) _ 3 ?hg (N:=7) ?hd (xs:=([]:List Int)) (inner:=[]) (ok:=fun _=>True) (okp:=fun _=>True) ?hr ?hp (fun _ hk=>hk) trivial (Below.refl _ _) (Nat.le_refl _) (by simp) ?_;(case hd=>rfl);(case hg=>rfl);(case hr=>first|(go_simp;done)|(go_simp;rfl));(case hp=>exact (Reps.none _ _));intro v102 w3 ho4 hb hg_ hnew_;clear hg_ hnew_;(first|rw [←Ny101.out] at ho4|(simp only [Int.reduceToNat] at ho4;rw [←Ny101.out] at ho4));have n0_:=mA (Kd.R_lower ho4 (bZ (by repeat (first|(with_reducible first|exact HB.out|apply bA|apply bN|apply bD)|exact HB.out))));have n1_:=mA (bT (by repeat (first|(with_reducible first|exact HB.out|apply bA|apply bN|apply bD)|exact HB.out)) hb);clear HB;have HO103:=n0_;have HB:=n1_;clear n0_ n1_ hb ho4))
 go_loopg [5,6] k (fun kq v5 v6 w'=>∃ (x5_1:List Int) (x6_1:Int),v6 = .int .i64 x6_1∧Aside0 (spec_WorldsIn.l0 kq a0 a1 x5_1 x6_1=some r)∧Aside0 (kq≤k)∧Aside0 (Kd.R (Kd.int .i64) 3 w' w.heap.size (fun _=>True) v5 x5_1)∧Aside0 (Below w.heap.size w w'))
 case atStart=>exact ⟨(y101),(0),(by first|rfl|(simp;done)|(simp [*];done)),H',⟨Nat.le_refl _⟩,⟨by (with_reducible repeat (first|apply rA|apply rN|apply rD));exact HO103.out⟩,⟨by repeat (first|(with_reducible first|exact HB.out|apply bA|apply bN|apply bD)|exact HB.out)⟩⟩
 case round =>
  clear H'
  try clear c1
  try clear p2
  obtain ⟨x5_1,x6_1,rfl,HA,HK1,HO_5,HB⟩:=hrel
  cases gk with
  | zero=>exact absurd HA.out (by simp [spec_WorldsIn.l0])
  | succ k1 =>
   have H:=HA.out
   clear HA
   simp only [spec_WorldsIn.l0] at H
   have HC5:=mA H
   clear H
   go_upto_region 3 with (fail)
   go_cut [16] (fun v16 wc=>∃ (kq:Nat) (x16_4:Bool),v16 = .bool x16_4∧Aside0 (spec_WorldsIn.j1 kq a0 a1 x5_1 x6_1 x16_4=some r)∧Aside0 (kq≤k1)∧Aside0 (Kd.R (Kd.int .i64) 3 wc w.heap.size (fun _=>True) u5 x5_1)∧Aside0 (Below w.heap.size w wc))
   case first =>
    have H:=HC5.out
    clear HC5
    replace H:=Option.bind_eq_some_iff.mp H
    obtain ⟨t104,A60,H⟩:=H
    replace H:(if t104=true then (if 0≤a0 then (spec_WorldsIn.j1 k1 a0 a1 x5_1 x6_1 (decide (x6_1<(shl .i64 1 a0)))) else (none)) else (spec_WorldsIn.j1 k1 a0 a1 x5_1 x6_1 false))=some r:=H
    have A6:=mA A60
    clear A60
    by_cases c7:t104=true
    ·subst c7
     have H1:(if 0≤a0 then (spec_WorldsIn.j1 k1 a0 a1 x5_1 x6_1 (decide (x6_1<(shl .i64 1 a0)))) else (none))=some r:=by rw [if_pos rfl] at H;exact H
     clear H
     have H:=H1
     clear H1
     by_cases c8:0≤a0
     ·rw [if_pos c8] at H
      have c8b0:=eq_true c8
      have c8b1:decide (0≤a0)=true:=decide_eq_true c8
      clear c8
      obtain ⟨ji9,hji9⟩ : ∃ j_:Int,(shl .i64 1 a0)=j_:=⟨_,rfl⟩
      replace H:(spec_WorldsIn.j1 k1 a0 a1 x5_1 x6_1 (decide (x6_1<(ji9))))=some r:=by first|(rw [hji9] at H;exact H)|(simp only [hji9] at H ⊢;exact H)
      (try rw [hji9] at A6)
      have hji9_:(IntKind.i64.wrap (1*2^min a0.toNat 64))=ji9:=hji9
      have hji9z:a0≤64→(IntKind.i64.wrap (1*2^a0.toNat))=ji9:=shl_small hji9
      have hji9u:(IntKind.i64.wrap (2^min a0.toNat 64))=ji9:=by have h_:=hji9_;rw [Int.one_mul] at h_;exact h_
      have hji9v:a0≤64→(IntKind.i64.wrap (2^a0.toNat))=ji9:=fun hle_=>by have h_:=hji9z hle_;rw [Int.one_mul] at h_;exact h_
      have hji9y:(wrap64 (1*2^min a0.toNat 64))=ji9:=(i64_w _).symm.trans hji9_
      have hji9x:a0≤64→(wrap64 (1*2^a0.toNat))=ji9:=fun h_=>(i64_w _).symm.trans (hji9z h_)
      have H':=mA H
      clear H
      go_wp2_with (first|((with_reducible refine gate_callee (f:=146) rfl ?_);refine goesL_ (some 10) rfl rfl Try.func146 (by kernel_rfl) rfl #[.int .i64 a0,.int .i64 a1] rfl (by (try simp only [mT,mC,mN]);first|done|rfl|(simp only [lD,lT];rfl)) ?_;(with_reducible refine (spec_TableOk.calls a0 a1 true _ A6.out).mono ?_);rintro e w' ⟨rfl,⟨nd,rfl⟩⟩;refine ⟨_,rfl,?_⟩))
      go_meet
      case rel=>exact ⟨_,(decide (x6_1<(ji9))),(by first|rfl|(simp;done)|(simp only [←hji9]<;>(first|rfl|simp))|(simp [*];done)),H',⟨by have:=HK1.out;first|omega|exact Nat.le_refl _⟩,⟨by (with_reducible repeat (first|apply rA|apply rN|apply rD));exact HO_5.out⟩,⟨by repeat (first|(with_reducible first|exact HB.out|apply bA|apply bN|apply bD)|exact HB.out)⟩⟩
     ·rw [if_neg c8] at H
      exact absurd H (by simp)
    ·replace c7:=Bool.eq_false_iff.mpr c7
     subst c7
     have H1:(spec_WorldsIn.j1 k1 a0 a1 x5_1 x6_1 false)=some r:=by rw [if_neg (show ¬ (false=true) by decide)] at H;exact H
     clear H
     have H:=H1
     clear H1
     have H':=mA H
     clear H
     go_wp2_with (first|((with_reducible refine gate_callee (f:=146) rfl ?_);refine goesL_ (some 10) rfl rfl Try.func146 (by kernel_rfl) rfl #[.int .i64 a0,.int .i64 a1] rfl (by (try simp only [mT,mC,mN]);first|done|rfl|(simp only [lD,lT];rfl)) ?_;(with_reducible refine (spec_TableOk.calls a0 a1 false _ A6.out).mono ?_);rintro e w' ⟨rfl,⟨nd,rfl⟩⟩;refine ⟨_,rfl,?_⟩))
     go_meet
     case rel=>exact ⟨_,(false),(by first|rfl|(simp;done)|(simp [*];done)),H',⟨by have:=HK1.out;first|omega|exact Nat.le_refl _⟩,⟨by (with_reducible repeat (first|apply rA|apply rN|apply rD));exact HO_5.out⟩,⟨by repeat (first|(with_reducible first|exact HB.out|apply bA|apply bN|apply bD)|exact HB.out)⟩⟩
   case rest =>
    clear HC5
    try clear c1
    try clear p2
    try clear p6
    try clear c7
    try clear c8
    try clear c8b0
    try clear c8b1
    try clear p2
    obtain ⟨kq,x16_4,rfl,HA,HJ4,HO_5,HB⟩:=hcut
    cases kq with
    | zero=>exact absurd HA.out (by simp [spec_WorldsIn.j1])
    | succ kj4 =>
     have H:=HA.out
     clear HA
     simp only [spec_WorldsIn.j1] at H
     by_cases c10:x16_4=true
     ·subst c10
      have H1:(if 0≤x6_1 then (if (Int.tmod (shr .i64 a1 x6_1) 2)=1 then (if x5_1.length<17592186044416 then (spec_WorldsIn.l0 kj4 a0 a1 (x5_1++[x6_1]) (wrap64 (x6_1+1))) else (none)) else (spec_WorldsIn.l0 kj4 a0 a1 x5_1 (wrap64 (x6_1+1)))) else (none))=some r:=by rw [if_pos rfl] at H;exact H
      clear H
      have H:=H1
      clear H1
      by_cases c11:0≤x6_1
      ·rw [if_pos c11] at H
       have c11b0:=eq_true c11
       have c11b1:decide (0≤x6_1)=true:=decide_eq_true c11
       clear c11
       obtain ⟨ji12,hji12⟩ : ∃ j_:Int,(shr .i64 a1 x6_1)=j_:=⟨_,rfl⟩
       replace H:(if (Int.tmod (ji12) 2)=1 then (if x5_1.length<17592186044416 then (spec_WorldsIn.l0 kj4 a0 a1 (x5_1++[x6_1]) (wrap64 (x6_1+1))) else (none)) else (spec_WorldsIn.l0 kj4 a0 a1 x5_1 (wrap64 (x6_1+1))))=some r:=by first|(rw [hji12] at H;exact H)|(simp only [hji12] at H ⊢;exact H)
       have hji12_:(a1 / 2^min x6_1.toNat 64)=ji12:=hji12
       have hji12z:x6_1≤64→(a1 / 2^x6_1.toNat)=ji12:=shr_small hji12
       by_cases c13:(Int.tmod (ji12) 2)=1
       ·rw [if_pos c13] at H
        have c13b0:((Int.tmod (ji12) 2)==1)=true:=beq_iff_eq.mpr c13
        have c13b1:((Int.tmod (ji12) 2) != 1)=false:=bne_eq_false_iff_eq.mpr c13
        clear c13
        by_cases c14:x5_1.length<17592186044416
        ·rw [if_pos c14] at H
         have LMc14:=mA c14
         clear c14
         obtain ⟨y105,hy105⟩ : ∃ y_:List Int,y_=(x5_1++[x6_1]):=⟨_,rfl⟩
         replace H:(spec_WorldsIn.l0 kj4 a0 a1 y105 (wrap64 (x6_1+1)))=some r:=by first|(rw [hy105];with_reducible exact H)|(have H2_:=(Option.bind_some _ _).symm.trans H;rw [hy105];with_reducible exact H2_)|(have H2_:=(Option.bind_some _ _).symm.trans H;with_reducible exact H2_)|with_reducible exact H|(rw [hy105];exact H)|exact H
         have Ny105:=mA hy105
         clear hy105
         have H':=mA H
         clear H
         go_wp2_with (first|((with_reducible refine gate_builtin (b:=.append) (xs:=#[.tmp 24,.tmp 26]) rfl ?_);at_builtin;refine Kd.R_append (Kd.int .i64) (w0:=w) w.heap.size rfl (.tmp 24) (.tmp 26) 26 3 (.int .i64 0) 8 rfl Try.underlying26 info3 rfl (by decide) (by omega) u5 x5_1 x6_1 [.int .i64 x6_1] (fun _=>True) (fun _=>False) rfl rfl ?aP (fun _ hk=>hk.elim) ?aF ?aO ?aB ?aS ?aL ?_;(case aP=>exact rfl);(case aB=>exact (by repeat (first|(with_reducible first|exact HB.out|apply bA|apply bN|apply bD)|exact HB.out)));(case aF=>exact (fun _ _=>trivial));(case aO=>exact (by (with_reducible repeat (first|apply rA|apply rN|apply rD));exact HO_5.out));(case aS=>exact (bZ (by repeat (first|(with_reducible first|exact HB.out|apply bA|apply bN|apply bD)|exact HB.out))));(case aL=>have:=LMc14.out;omega);intro v106 w15 ho hb hg hat;rw [←Ny105.out] at ho;have n0_:=mA (hb);have n1_:=mA (ho);clear HB HO_5;have HB:=n0_;have HO107:=n1_;clear n0_ n1_ ho hb hg hat))
         go_roundg kj4
         case measure=>have:=HK1.out;have:=HJ4.out;omega
         case rel=>exact ⟨(y105),(wrap64 (x6_1+1)),(by first|rfl|(simp;done)|(simp [*];done)),H',⟨by have:=HK1.out;have:=HJ4.out;omega⟩,⟨by (with_reducible repeat (first|apply rA|apply rN|apply rD));exact HO107.out⟩,⟨by repeat (first|(with_reducible first|exact HB.out|apply bA|apply bN|apply bD)|exact HB.out)⟩⟩
        ·rw [if_neg c14] at H
         exact absurd H (by simp)
       ·rw [if_neg c13] at H
        have c13b0:((Int.tmod (ji12) 2)==1)=false:=beq_eq_false_iff_ne.mpr c13
        have c13b1:((Int.tmod (ji12) 2) != 1)=true:=bne_iff_ne.mpr c13
        have H':=mA H
        clear H
        go_wp2
        go_roundg kj4
        case measure=>have:=HK1.out;have:=HJ4.out;omega
        case rel=>exact ⟨(x5_1),(wrap64 (x6_1+1)),(by first|rfl|(simp;done)|(simp [*];done)),H',⟨by have:=HK1.out;have:=HJ4.out;omega⟩,⟨by (with_reducible repeat (first|apply rA|apply rN|apply rD));exact HO_5.out⟩,⟨by repeat (first|(with_reducible first|exact HB.out|apply bA|apply bN|apply bD)|exact HB.out)⟩⟩
      ·rw [if_neg c11] at H
       exact absurd H (by simp)
     ·replace c10:=Bool.eq_false_iff.mpr c10
      subst c10
      have H1:(some x5_1)=some r:=by rw [if_neg (show ¬ (false=true) by decide)] at H;exact H
      clear H
      have H:=H1
      clear H1
      obtain rfl:=Option.some.inj H
      go_wp2
      go_ret
      exact ⟨_,by first|rfl|(simp [errW_none,errW_some]<;>rfl)|(simp [*, errW_none,errW_some]<;>rfl),by (with_reducible repeat (first|apply rA|apply rN|apply rD));exact HO_5.out,by repeat (first|(with_reducible first|exact HB.out|apply bA|apply bN|apply bD)|exact HB.out)⟩
end Go.Proofs.Ytpampekijfjlkab.X
/- Plain laws of the worlds in a table. -/
namespace Go.Proofs.Ytpampekijfjlkab.L
open Go.RowKit Go.Proofs.Ytpampekijfjlkab.X Go.Proofs.YtpampekijfjlkabW.PrintWords Go.Proofs.YtpampekijfjlkabW.PrintLast Go.Proofs.YtpampekijfjlkabW.PrintMore
open Go.Proofs.YtpampekijfjlkabW.PrintWords renaming Aside0.mk → mA, pw_below_drewN → bN, below_drew1 → bD, below_alloc → bA, below_size → bZ, below_step → bT, Kd.R_alloc → rA, Kd.R_drewN → rN, Kd.R_drew → rD, Kd.R_mono → rM, Kd.R_reads' → rR, Kd.R_lt → rL, Kd.R_below → rB, Kd.C_alloc → cA, Kd.C_drewN → cN, Kd.C_drew → cD
open List renaming length_take → lT, length_drop → lD, map_toArray → mT, map_cons → mC, map_nil → mN
/-- A table of worlds of so many people. -/
def tabok (p x:Int):Bool:=decide (1≤p∧p≤4∧0≤x∧x<((2^(2^p.toNat):Nat):Int))
theorem tabok_iff {p x:Int}:tabok p x=true ↔ 1≤p∧p≤4∧0≤x∧x<((2^(2^p.toNat):Nat):Int):=by unfold tabok;simp
theorem two_pow {q:Nat} (h1:1≤q) (h4:q≤4):shl .i64 1 (shl .u64 1 (q:Int))=((2^(2^q):Nat):Int)∧2^(2^q)≤65536:=by
 have : ∀ q:Fin 5,1≤q.val→shl .i64 1 (shl .u64 1 ((q.val:Nat):Int))=((2^(2^q.val):Nat):Int)∧2^(2^q.val)≤65536:=by decide +kernel
 exact this ⟨q,by omega⟩ h1
theorem impl_TableOk_eq (p x:Int):impl_TableOk.f p x=some (tabok p x):=by
 unfold impl_TableOk.f
 simp only [peopleOk_eq,Option.bind_some]
 by_cases h:1≤p∧p≤4
 ·obtain ⟨q,rfl,hq1,hq4,hq,e⟩:=people_nat h.1 h.2
  rw [if_pos (decide_eq_true h)]
  by_cases h0:x≥0
  ·rw [if_pos h0,if_pos (by omega),(two_pow hq1 hq4).1]
   congr 1
   unfold tabok
   rw [e]
   exact decide_eq_decide.mpr ⟨fun hw=>⟨h.1,h.2,h0,hw⟩,fun hw=>hw.2.2.2⟩
  ·rw [if_neg h0]
   congr 1
   exact (decide_eq_false (fun hw=>h0 hw.2.2.1)).symm
 ·rw [if_neg (by simpa using h)]
  congr 1
  exact (decide_eq_false (fun hw=>h ⟨hw.1,hw.2.1⟩)).symm
theorem shr_nat {x j:Nat} (hj:j≤63):shr .i64 (x:Int) (j:Int)=((x / 2^j:Nat):Int):=by
 show (x:Int) / 2^min ((j:Int)).toNat 64=_
 rw [Int.toNat_natCast,Nat.min_eq_left (by omega)]
 simp
theorem bit_one {x j:Nat} (hx:x<65536) (hj:j<16):Go.bits .and .i64 (shr .i64 (x:Int) (j:Int)) 1=if x.testBit j then 1 else 0:=by
 have hle:x / 2^j≤x:=Nat.div_le_self _ _
 rw [shr_nat (by omega),show (1:Int)=((1:Nat):Int) from rfl,and_nat (by omega) (by decide),Nat.and_one_is_mod,Nat.testBit_eq_decide_div_mod_eq]
 rcases Nat.mod_two_eq_zero_or_one (x / 2^j) with e|e<;>simp [e]
/-- The worlds in a table, from one on. -/
def wls (x:Nat):Nat→Nat→List Int→List Int
 | 0,_,acc=>acc
 | d+1,j,acc=>wls x d (j+1) (if x.testBit j then acc++[(j:Int)] else acc)
def worldsIn (p x:Int):List Int:=if tabok p x=true then wls x.toNat (2^p.toNat) 0 [] else []
theorem impl_WorldsIn_l0 {x q:Nat} (hx:x<65536) (hq2:2^q≤16) : ∀ (d j:Nat) (acc:List Int),d+j=2^q→acc.length≤j→Ev (fun k=>impl_WorldsIn.l0 k (x:Int) acc ((2^q:Nat):Int) (j:Int)) (wls x d j acc):=by
 intro d
 induction d with
 | zero=>intro j acc hj _;exact Ev.step (fun k=>by simp only [impl_WorldsIn.l0];rfl) (Ev.no (by omega) (Ev.some _))
 | succ d ih =>
  intro j acc hj ha
  refine Ev.step (fun k=>by simp only [impl_WorldsIn.l0];rfl) ?_
  rw [bit_one hx (by omega),w64 (by omega) (by omega),show ((j:Int)+1)=((j+1:Nat):Int) by omega,wls]
  refine Ev.yes (by omega) (Ev.yes (by omega) ?_)
  by_cases h:x.testBit j=true
  ·have e1:(if x.testBit j=true then (1:Int) else 0)=1:=if_pos h
   rw [e1,if_pos h]
   exact Ev.yes rfl (Ev.yes (by omega) (ih (j+1) _ (by omega) (by simp;omega)))
  ·have e1:(if x.testBit j=true then (1:Int) else 0)=0:=if_neg h
   rw [e1,if_neg h]
   exact Ev.no (by decide) (ih (j+1) _ (by omega) (by omega))
theorem impl_WorldsIn_ev (p x:Int):Ev (fun k=>impl_WorldsIn.f k p x) (worldsIn p x):=by
 unfold impl_WorldsIn.f
 rw [impl_TableOk_eq]
 simp only [Option.bind_some]
 by_cases h:tabok p x=true
 ·obtain ⟨h0,h1,h2,h3⟩:=tabok_iff.1 h
  rw [worldsIn,if_pos h]
  obtain ⟨q,rfl,hq1,hq4,hq,e⟩:=people_nat h0 h1
  obtain ⟨v,rfl⟩:=Int.eq_ofNat_of_zero_le h2
  have:=(two_pow hq1 hq4).2
  rw [e] at h3 ⊢
  refine Ev.yes h (Ev.yes (by omega) ?_)
  rw [shl_nat (by omega),Int.toNat_natCast]
  exact impl_WorldsIn_l0 (by omega) hq (2^q) 0 [] (by omega) (by simp)
 ·rw [worldsIn,if_neg h]
  exact Ev.no h (Ev.some _)
theorem bit_int {w i:Nat} (hw:w<16) (hi:i<4):Int.tmod (shr .i64 (w:Int) (i:Int)) 2=if w.testBit i then 1 else 0:=by
 have : ∀ w:Fin 16, ∀ i:Fin 4,Int.tmod (shr .i64 ((w.val:Nat):Int) ((i.val:Nat):Int)) 2=if w.val.testBit i.val then 1 else 0:=by decide +kernel
 exact this ⟨w,hw⟩ ⟨i,hi⟩
theorem impl_StoryTable_ev (p:Int) (l:List C) (hl:l.length≤4611686018427387904):Ev (fun k=>impl_StoryTable.f k p l) (if sok p l=true then ((stab p l:Nat):Int) else -1):=by
 unfold impl_StoryTable.f
 refine Ev.bind (impl_StoryOk_ev p l hl) ?_
 by_cases h:sok p l=true
 ·rw [if_pos h]
  exact Ev.yes h (Ev.bind (impl_storyTable_ev h) (Ev.some _))
 ·rw [if_neg h]
  exact Ev.no h (Ev.some _)
/-- Worlds, as numbers below 16. -/
def Wl (W:List Int):Prop:=∀ x∈W, ∃ v:Nat,x=(v:Int)∧v<16
/-- What is known of a person in some worlds. -/
def knownOf (W:List Int) (i:Nat):Int:=if (∀ x∈W,x.toNat.testBit i=true) then 1 else if (∀ x∈W,x.toNat.testBit i=false) then 0 else -1
theorem wls_wl (x:Nat) : ∀ (d j:Nat) (acc:List Int),d+j≤16→Wl acc→Wl (wls x d j acc)
 | 0,_,_,_,h=>h
 | d+1,j,acc,hj,h=>by
  rw [wls]
  refine wls_wl x d (j+1) _ (by omega) ?_
  split
  ·intro y hy
   rcases List.mem_append.1 hy with hy|hy
   ·exact h y hy
   ·exact ⟨j,List.mem_singleton.1 hy,by omega⟩
  ·exact h
theorem worldsIn_wl (p x:Int):Wl (worldsIn p x):=by
 unfold worldsIn
 split
 ·rename_i h
  obtain ⟨h0,h1,_⟩:=tabok_iff.1 h
  obtain ⟨q,rfl,_,hq4,hq2,e⟩:=people_nat h0 h1
  rw [e]
  exact wls_wl _ _ 0 [] (by omega) (fun y hy=>by cases hy)
 ·exact fun y hy=>by cases hy
theorem bit_and1 {w i:Nat} (hw:w<16) (hi:i<4):Go.bits .and .i64 (shr .i64 (w:Int) (i:Int)) 1=if w.testBit i then 1 else 0:=by
 have : ∀ w:Fin 16, ∀ i:Fin 4,Go.bits .and .i64 (shr .i64 ((w.val:Nat):Int) ((i.val:Nat):Int)) 1=if w.val.testBit i.val then 1 else 0:=by decide +kernel
 exact this ⟨w,hw⟩ ⟨i,hi⟩
/-- The row of what is known. -/
def knownRow (W:List Int):Nat→Nat→List Int→List Int
 | 0,_,acc=>acc
 | d+1,i,acc=>knownRow W d (i+1) (acc++[knownOf W i])
theorem knownRow_length (W:List Int) : ∀ (d i:Nat) (acc:List Int),(knownRow W d i acc).length=acc.length+d
 | 0,_,_=>rfl
 | d+1,i,acc=>by rw [knownRow,knownRow_length W d];simp;omega
theorem rdW (pre:List Int) (x:Int) (suf:List Int):rd (pre++x :: suf) ((pre.length:Nat):Int)=x:=by
 unfold rd
 simp [List.getD]
theorem impl_Known_l {q:Nat} (hq4:q≤4) {W:List Int} (hW:Wl W) (hne:0<W.length) (hlen:W.length≤100000) : ∀ (d i:Nat) (acc:List Int),d+i=q→acc.length≤i →
  Ev (fun k=>impl_KnownPeople.l0 k W acc (q:Int) (i:Int)) (knownRow W d i acc):=by
 intro d
 induction d with
 | zero=>intro i acc hi _;exact Ev.step (fun k=>by simp only [impl_KnownPeople.l0];rfl) (Ev.no (by omega) (Ev.some _))
 | succ d ih =>
  intro i acc hi ha
  obtain ⟨x0,W',rfl⟩ : ∃ x0 W',W=x0 :: W':=by cases W with|nil=>simp at hne|cons a b=>exact ⟨a,b,rfl⟩
  obtain ⟨v0,rfl,hv0⟩:=hW x0 (by simp)
  have h0:rd ((v0:Int) :: W') 0=(v0:Int):=rdW [] _ _
  have hnx:=fun y:Int=>ih (i+1) (acc++[y]) (by omega) (by simp;omega)
  refine Ev.step (fun k=>by simp only [impl_KnownPeople.l0];rfl) ?_
  rw [h0,bit_and1 hv0 (by omega)]
  refine Ev.yes (by omega) (Ev.yes (by simp<;>omega) (Ev.yes (by omega) ?_))
  generalize hb:(if v0.testBit i then (1:Int) else 0)=b
  have inner : ∀ (suf pre:List Int),((v0:Int) :: W')=pre++suf→(∀ x∈pre,(if x.toNat.testBit i then (1:Int) else 0)=b) →
    Ev (fun k=>impl_KnownPeople.l1 k ((v0:Int) :: W') acc (i:Int) b (q:Int) (i:Int) ((v0:Int) :: W') ((((v0:Int) :: W').length:Nat):Int) ((pre.length:Nat):Int)) (knownRow ((v0:Int) :: W') (d+1) i acc):=by
   intro suf
   induction suf with
   | nil =>
    intro pre he hp
    rw [List.append_nil] at he
    have hle:((v0:Int) :: W').length=pre.length:=by rw [he]
    refine Ev.step (fun k=>by simp only [impl_KnownPeople.l1];rfl) (Ev.no (by omega) (Ev.yes (by omega) ?_))
    rw [w64 (by omega) (by omega),show ((i:Int)+1)=((i+1:Nat):Int) by omega,knownRow]
    have hk:knownOf ((v0:Int) :: W') i=b:=by
     rw [he]
     unfold knownOf
     by_cases hvb:v0.testBit i=true
     ·rw [if_pos hvb] at hb
      rw [if_pos (fun x hx=>by have:=hp x hx;rw [←hb] at this;by_cases e:x.toNat.testBit i=true;exact e;rw [if_neg e] at this;omega)]
      exact hb
     ·rw [if_neg hvb] at hb
      have hall : ∀ x∈pre,x.toNat.testBit i=false:=fun x hx=>by have:=hp x hx;rw [←hb] at this;cases e:x.toNat.testBit i with|false=>rfl|true=>rw [e] at this;simp at this
      have hv:(v0:Int)∈pre:=by rw [←he];simp
      rw [if_neg (fun h=>by have h1:=h _ hv;rw [hall _ hv] at h1;cases h1),if_pos hall]
      exact hb
    rw [hk]
    exact hnx b
   | cons x suf ihs =>
    intro pre he hp
    have hle:((v0:Int) :: W').length=pre.length+(suf.length+1):=by rw [he];simp
    have hx:rd ((v0:Int) :: W') ((pre.length:Nat):Int)=x:=by rw [he];exact rdW pre x suf
    obtain ⟨v,rfl,hv⟩:=hW x (by rw [he];simp)
    refine Ev.step (fun k=>by simp only [impl_KnownPeople.l1];rfl) ?_
    rw [hx,bit_and1 hv (by omega)]
    refine Ev.yes (by omega) (Ev.yes (by omega) (Ev.yes (by omega) (Ev.yes (by omega) ?_)))
    by_cases e:(if v.testBit i then (1:Int) else 0)=b
    ·refine Ev.yes e ?_
     rw [w64 (by omega) (by omega),show (((pre.length:Nat):Int)+1)=(((pre++[(v:Int)]).length:Nat):Int) by simp]
     exact ihs (pre++[(v:Int)]) (by rw [he];simp) (fun y hy=>by
      rcases List.mem_append.1 hy with hy|hy
      ·exact hp y hy
      ·rw [List.mem_singleton.1 hy,Int.toNat_natCast];exact e)
    ·refine Ev.no e (Ev.yes (by omega) ?_)
     rw [w64 (by omega) (by omega),show ((i:Int)+1)=((i+1:Nat):Int) by omega,knownRow]
     have hk:knownOf ((v0:Int) :: W') i = -1:=by
      have m0:(v0:Int)∈((v0:Int) :: W'):=by simp
      have m1:(v:Int)∈((v0:Int) :: W'):=by rw [he];simp
      unfold knownOf
      rw [if_neg (fun h=>e (by have h0:=h _ m0;have h1:=h _ m1;rw [Int.toNat_natCast] at h0 h1;rw [←hb,h0,h1])),if_neg (fun h=>e (by have h0:=h _ m0;have h1:=h _ m1;rw [Int.toNat_natCast] at h0 h1;rw [←hb,h0,h1]))]
     rw [hk]
     exact hnx (-1)
  exact inner ((v0:Int) :: W') [] rfl (fun x hx=>by cases hx)
end Go.Proofs.Ytpampekijfjlkab.L
namespace Go.Proofs.Ytpampekijfjlkab.X
open Go.RowKit Go.Proofs.YtpampekijfjlkabW.PrintWords Go.Proofs.YtpampekijfjlkabW.PrintLast Go.Proofs.YtpampekijfjlkabW.PrintMore
open Go.Proofs.YtpampekijfjlkabW.PrintWords renaming Aside0.mk → mA, pw_below_drewN → bN, below_drew1 → bD, below_alloc → bA, below_size → bZ, below_step → bT, Kd.R_alloc → rA, Kd.R_drewN → rN, Kd.R_drew → rD, Kd.R_mono → rM, Kd.R_reads' → rR, Kd.R_lt → rL, Kd.R_below → rB, Kd.C_alloc → cA, Kd.C_drewN → cN, Kd.C_drew → cD
open List renaming length_take → lT, length_drop → lD, map_toArray → mT, map_cons → mC, map_nil → mN
attribute [local go_sem] max2_int min2_int max_two min_two max_three min_three max_four min_four   -- for this text's walks alone
set_option linter.unusedVariables false
set_option linter.unusedSimpArgs false
/-! ### spec_StoryTable: function 60 -/
def spec_StoryTable.f (k:Nat) (a0:Int) (l1:List (S36)):Option (Int):=(spec_StoryOk.f k a0 l1).bind fun t101=>(if t101=true then ((spec_l4Story.f k a0 l1).bind fun t102=>(some t102)) else (some (-1)))
theorem spec_StoryTable.mono : ∀ a0 a1 k,LeO (spec_StoryTable.f k a0 a1) (spec_StoryTable.f (k+1) a0 a1):=by
 intro a0 a1 k
 unfold spec_StoryTable.f
 repeat' first
   | (with_reducible exact spec_StoryOk.mono _ _ _)
   | (with_reducible exact spec_l4Story.mono _ _ _)
   | (with_reducible exact LeO.refl _)
   | (with_reducible exact LeO.none _)
   | (with_reducible refine LeO.ite ?_ ?_)
   | (with_reducible refine LeO.bind ?_ (fun _=>?_))
   | exact spec_StoryOk.mono _ _ _
   | exact spec_l4Story.mono _ _ _
   | exact LeO.none _
   | refine LeO.ite ?_ ?_
   | refine LeO.bind ?_ (fun _=>?_)
set_option maxHeartbeats 8000000 in
set_option maxRecDepth 100000 in
theorem spec_StoryTable.calls (k:Nat) (a0:Int) (A1:Option Addr) (c1:Nat) (l1:List (S36)) (r:Int) (w:World) (hr1:Kd.C k36 w A1 l1.length l1) (hc1:l1.length≤c1) (h:spec_StoryTable.f k a0 l1=some r) :
  Calls Try.prog 60 #[.int .i64 a0,.slice A1 l1.length c1] w fun e w'=>e = .returned (.int .i64 r)∧Below w.heap.size w w':=by
 have HR1:=mA hr1
 have HC1:=mA hc1
 clear hr1 hc1
 have HB:=mA (Below.refl w.heap.size w)
 have H:((spec_StoryOk.f k a0 l1).bind fun t101=>(if t101=true then ((spec_l4Story.f k a0 l1).bind fun t102=>(some t102)) else (some (-1))))=some r:=h
 clear h
 replace H:=Option.bind_eq_some_iff.mp H
 obtain ⟨t101,A30,H⟩:=H
 replace H:(if t101=true then ((spec_l4Story.f k a0 l1).bind fun t102=>(some t102)) else (some (-1)))=some r:=H
 have A3:=mA A30
 clear A30
 by_cases c4:t101=true
 ·subst c4
  have H1:((spec_l4Story.f k a0 l1).bind fun t102=>(some t102))=some r:=by rw [if_pos rfl] at H;exact H
  clear H
  have H:=H1
  clear H1
  replace H:=Option.bind_eq_some_iff.mp H
  obtain ⟨t102,A50,H⟩:=H
  replace H:(some t102)=some r:=H
  have A5:=mA A50
  clear A50
  obtain rfl:=Option.some.inj H
  go_enter Try.func60,Try.ntmps60
  go_wp2_with (first|((with_reducible refine gate_callee (f:=25) rfl ?_);refine goesL_ (some 7) rfl rfl Try.func25 (by kernel_rfl) rfl #[.int .i64 a0,.slice A1 l1.length c1] rfl (by (try simp only [mT,mC,mN]);first|done|rfl|(simp only [lD,lT];rfl)) ?_;(with_reducible refine (spec_StoryOk.calls k a0 _ _ l1 true _ ?side1 ?side2 A3.out).mono ?_);(case side1=>repeat (first|exact HR1.out|(with_reducible refine cA ?_ _)|(with_reducible refine cN ?_ _)|(with_reducible refine cD ?_)));(case side2=>exact HC1.out);rintro e w6 ⟨rfl,hb⟩;refine ⟨_,rfl,?_⟩;have n0_:=mA (bT (by repeat (first|(with_reducible first|exact HB.out|apply bA|apply bN|apply bD)|exact HB.out)) hb);clear HB;have HB:=n0_;clear n0_;(try clear hb);(try clear hb2);(try clear hk);(try clear hi))|((with_reducible refine gate_callee (f:=127) rfl ?_);refine goesL_ (some 11) rfl rfl Try.func127 (by kernel_rfl) rfl #[.int .i64 a0,.slice A1 l1.length c1] rfl (by (try simp only [mT,mC,mN]);first|done|rfl|(simp only [lD,lT];rfl)) ?_;(with_reducible refine (spec_l4Story.calls k a0 _ _ l1 t102 _ ?side1 ?side2 A5.out).mono ?_);(case side1=>repeat (first|exact (Kd.C_below HR1.out HB.out)|(with_reducible refine cA ?_ _)|(with_reducible refine cN ?_ _)|(with_reducible refine cD ?_)));(case side2=>exact HC1.out);rintro e w7 ⟨rfl,hb⟩;refine ⟨_,rfl,?_⟩;have n0_:=mA (bT (by repeat (first|(with_reducible first|exact HB.out|apply bA|apply bN|apply bD)|exact HB.out)) hb);clear HB;have HB:=n0_;clear n0_;(try clear hb);(try clear hb2);(try clear hk);(try clear hi)))
  go_ret
  exact ⟨by first|rfl|(simp [errW_none,errW_some]<;>rfl)|(simp [*, errW_none,errW_some]<;>rfl),by repeat (first|(with_reducible first|exact HB.out|apply bA|apply bN|apply bD)|exact HB.out)⟩
 ·replace c4:=Bool.eq_false_iff.mpr c4
  subst c4
  have H1:(some (-1))=some r:=by rw [if_neg (show ¬ (false=true) by decide)] at H;exact H
  clear H
  have H:=H1
  clear H1
  obtain rfl:=Option.some.inj H
  go_enter Try.func60,Try.ntmps60
  go_wp2_with (first|((with_reducible refine gate_callee (f:=25) rfl ?_);refine goesL_ (some 7) rfl rfl Try.func25 (by kernel_rfl) rfl #[.int .i64 a0,.slice A1 l1.length c1] rfl (by (try simp only [mT,mC,mN]);first|done|rfl|(simp only [lD,lT];rfl)) ?_;(with_reducible refine (spec_StoryOk.calls k a0 _ _ l1 false _ ?side1 ?side2 A3.out).mono ?_);(case side1=>repeat (first|exact HR1.out|(with_reducible refine cA ?_ _)|(with_reducible refine cN ?_ _)|(with_reducible refine cD ?_)));(case side2=>exact HC1.out);rintro e w8 ⟨rfl,hb⟩;refine ⟨_,rfl,?_⟩;have n0_:=mA (bT (by repeat (first|(with_reducible first|exact HB.out|apply bA|apply bN|apply bD)|exact HB.out)) hb);clear HB;have HB:=n0_;clear n0_;(try clear hb);(try clear hb2);(try clear hk);(try clear hi)))
  go_ret
  exact ⟨by first|rfl|(simp [errW_none,errW_some]<;>rfl)|(simp [*, errW_none,errW_some]<;>rfl),by repeat (first|(with_reducible first|exact HB.out|apply bA|apply bN|apply bD)|exact HB.out)⟩
end Go.Proofs.Ytpampekijfjlkab.X
/- Plain law of the reference's table of a story, whole. -/
namespace Go.Proofs.Ytpampekijfjlkab.L
open Go.RowKit Go.Proofs.Ytpampekijfjlkab.X Go.Proofs.YtpampekijfjlkabW.PrintWords Go.Proofs.YtpampekijfjlkabW.PrintLast Go.Proofs.YtpampekijfjlkabW.PrintMore
open Go.Proofs.YtpampekijfjlkabW.PrintWords renaming Aside0.mk → mA, pw_below_drewN → bN, below_drew1 → bD, below_alloc → bA, below_size → bZ, below_step → bT, Kd.R_alloc → rA, Kd.R_drewN → rN, Kd.R_drew → rD, Kd.R_mono → rM, Kd.R_reads' → rR, Kd.R_lt → rL, Kd.R_below → rB, Kd.C_alloc → cA, Kd.C_drewN → cN, Kd.C_drew → cD
open List renaming length_take → lT, length_drop → lD, map_toArray → mT, map_cons → mC, map_nil → mN

end Go.Proofs.Ytpampekijfjlkab.L
namespace Go.Proofs.Ytpampekijfjlkab.X
open Go.RowKit Go.Proofs.YtpampekijfjlkabW.PrintWords Go.Proofs.YtpampekijfjlkabW.PrintLast Go.Proofs.YtpampekijfjlkabW.PrintMore
open Go.Proofs.YtpampekijfjlkabW.PrintWords renaming Aside0.mk → mA, pw_below_drewN → bN, below_drew1 → bD, below_alloc → bA, below_size → bZ, below_step → bT, Kd.R_alloc → rA, Kd.R_drewN → rN, Kd.R_drew → rD, Kd.R_mono → rM, Kd.R_reads' → rR, Kd.R_lt → rL, Kd.R_below → rB, Kd.C_alloc → cA, Kd.C_drewN → cN, Kd.C_drew → cD
open List renaming length_take → lT, length_drop → lD, map_toArray → mT, map_cons → mC, map_nil → mN
attribute [local go_sem] max2_int min2_int max_two min_two max_three min_three max_four min_four   -- for this text's walks alone
set_option linter.unusedVariables false
set_option linter.unusedSimpArgs false
/-! ### spec_KnownPeople: function 94 -/
mutual
def spec_KnownPeople.l0:Nat→Int→List Int→List Int→Int→Option (List Int)
 | 0,_,_,_,_=>none
 | k+1,x0,x5,x6,x7=>if x7<x0 then (spec_KnownPeople.j1 k x0 x5 x6 x7 (decide ((x6.length:Int)>0))) else (spec_KnownPeople.j1 k x0 x5 x6 x7 false)
def spec_KnownPeople.j1:Nat→Int→List Int→List Int→Int→Bool→Option (List Int)
 | 0,_,_,_,_,_=>none
 | k+1,x0,x5,x6,x7,x23=>if x23=true then (spec_KnownPeople.l1 k x0 x5 x6 x7 0 0) else (some x5)
def spec_KnownPeople.l1:Nat→Int→List Int→List Int→Int→Int→Int→Option (List Int)
 | 0,_,_,_,_,_,_=>none
 | k+1,x0,x5,x6,x7,x8,x9=>if x9<(x6.length:Int) then (if 0≤x9 then (if 0≤x7 then (spec_KnownPeople.l1 k x0 x5 x6 x7 (wrap64 (x8+(Int.tmod (shr .i64 (rd x6 x9) x7) 2))) (wrap64 (x9+1))) else (none)) else (none)) else (if x8=0 then (if x5.length<17592186044416 then (spec_KnownPeople.l0 k x0 (x5++[0]) x6 (wrap64 (x7+1))) else (none)) else (if x8=(x6.length:Int) then (if x5.length<17592186044416 then (spec_KnownPeople.l0 k x0 (x5++[1]) x6 (wrap64 (x7+1))) else (none)) else (if x5.length<17592186044416 then (spec_KnownPeople.l0 k x0 (x5++[(-1)]) x6 (wrap64 (x7+1))) else (none))))
end
def spec_KnownPeople.f (k:Nat) (a0:Int) (l1:List (S36)):Option (List Int):=(spec_StoryTable.f k a0 l1).bind fun t104=>((spec_WorldsIn.f k a0 t104).bind fun t105=>(spec_KnownPeople.l0 k a0 (([]:List Int)) t105 0))
theorem spec_KnownPeople.mono_l : ∀ k,(∀ y0 y1 y2 y3,LeO (spec_KnownPeople.l0 k y0 y1 y2 y3) (spec_KnownPeople.l0 (k+1) y0 y1 y2 y3))∧(∀ y0 y1 y2 y3 y4,LeO (spec_KnownPeople.j1 k y0 y1 y2 y3 y4) (spec_KnownPeople.j1 (k+1) y0 y1 y2 y3 y4))∧(∀ y0 y1 y2 y3 y4 y5,LeO (spec_KnownPeople.l1 k y0 y1 y2 y3 y4 y5) (spec_KnownPeople.l1 (k+1) y0 y1 y2 y3 y4 y5))
 | 0=>⟨fun _ _ _ _ r h=>by simp [spec_KnownPeople.l0] at h,fun _ _ _ _ _ r h=>by simp [spec_KnownPeople.j1] at h,fun _ _ _ _ _ _ r h=>by simp [spec_KnownPeople.l1] at h⟩
 | k+1=>by
  obtain ⟨ih0,ih1,ih2⟩:=spec_KnownPeople.mono_l k
  refine ⟨?_,?_,?_⟩
  ·intro y0 y1 y2 y3
   unfold spec_KnownPeople.l0
   repeat' first
   | (with_reducible exact ih0 _ _ _ _)
   | (with_reducible exact ih1 _ _ _ _ _)
   | (with_reducible exact ih2 _ _ _ _ _ _)
   | (with_reducible exact spec_StoryTable.mono _ _ _)
   | (with_reducible exact spec_WorldsIn.mono _ _ _)
   | (with_reducible exact LeO.refl _)
   | (with_reducible exact LeO.none _)
   | (with_reducible refine LeO.ite ?_ ?_)
   | (with_reducible refine LeO.bind ?_ (fun _=>?_))
   | exact ih0 _ _ _ _
   | exact ih1 _ _ _ _ _
   | exact ih2 _ _ _ _ _ _
   | exact spec_StoryTable.mono _ _ _
   | exact spec_WorldsIn.mono _ _ _
   | exact LeO.none _
   | refine LeO.ite ?_ ?_
   | refine LeO.bind ?_ (fun _=>?_)
  ·intro y0 y1 y2 y3 y4
   unfold spec_KnownPeople.j1
   repeat' first
   | (with_reducible exact ih0 _ _ _ _)
   | (with_reducible exact ih1 _ _ _ _ _)
   | (with_reducible exact ih2 _ _ _ _ _ _)
   | (with_reducible exact spec_StoryTable.mono _ _ _)
   | (with_reducible exact spec_WorldsIn.mono _ _ _)
   | (with_reducible exact LeO.refl _)
   | (with_reducible exact LeO.none _)
   | (with_reducible refine LeO.ite ?_ ?_)
   | (with_reducible refine LeO.bind ?_ (fun _=>?_))
   | exact ih0 _ _ _ _
   | exact ih1 _ _ _ _ _
   | exact ih2 _ _ _ _ _ _
   | exact spec_StoryTable.mono _ _ _
   | exact spec_WorldsIn.mono _ _ _
   | exact LeO.none _
   | refine LeO.ite ?_ ?_
   | refine LeO.bind ?_ (fun _=>?_)
  ·intro y0 y1 y2 y3 y4 y5
   unfold spec_KnownPeople.l1
   repeat' first
   | (with_reducible exact ih0 _ _ _ _)
   | (with_reducible exact ih1 _ _ _ _ _)
   | (with_reducible exact ih2 _ _ _ _ _ _)
   | (with_reducible exact spec_StoryTable.mono _ _ _)
   | (with_reducible exact spec_WorldsIn.mono _ _ _)
   | (with_reducible exact LeO.refl _)
   | (with_reducible exact LeO.none _)
   | (with_reducible refine LeO.ite ?_ ?_)
   | (with_reducible refine LeO.bind ?_ (fun _=>?_))
   | exact ih0 _ _ _ _
   | exact ih1 _ _ _ _ _
   | exact ih2 _ _ _ _ _ _
   | exact spec_StoryTable.mono _ _ _
   | exact spec_WorldsIn.mono _ _ _
   | exact LeO.none _
   | refine LeO.ite ?_ ?_
   | refine LeO.bind ?_ (fun _=>?_)
theorem spec_KnownPeople.mono : ∀ a0 a1 k,LeO (spec_KnownPeople.f k a0 a1) (spec_KnownPeople.f (k+1) a0 a1):=by
 intro a0 a1 k
 obtain ⟨ih0,ih1,ih2⟩:=spec_KnownPeople.mono_l k
 unfold spec_KnownPeople.f
 repeat' first
   | (with_reducible exact ih0 _ _ _ _)
   | (with_reducible exact ih1 _ _ _ _ _)
   | (with_reducible exact ih2 _ _ _ _ _ _)
   | (with_reducible exact spec_StoryTable.mono _ _ _)
   | (with_reducible exact spec_WorldsIn.mono _ _ _)
   | (with_reducible exact LeO.refl _)
   | (with_reducible exact LeO.none _)
   | (with_reducible refine LeO.ite ?_ ?_)
   | (with_reducible refine LeO.bind ?_ (fun _=>?_))
   | exact ih0 _ _ _ _
   | exact ih1 _ _ _ _ _
   | exact ih2 _ _ _ _ _ _
   | exact spec_StoryTable.mono _ _ _
   | exact spec_WorldsIn.mono _ _ _
   | exact LeO.none _
   | refine LeO.ite ?_ ?_
   | refine LeO.bind ?_ (fun _=>?_)
set_option maxHeartbeats 8000000 in
set_option maxRecDepth 100000 in
theorem spec_KnownPeople.calls (k:Nat) (a0:Int) (A1:Option Addr) (c1:Nat) (l1:List (S36)) (r:List Int) (w:World) (hr1:Kd.C k36 w A1 l1.length l1) (hc1:l1.length≤c1) (h:spec_KnownPeople.f k a0 l1=some r) :
  Calls Try.prog 94 #[.int .i64 a0,.slice A1 l1.length c1] w fun e w'=>∃ v0_:Value,e = .returned (v0_)∧Kd.R (Kd.int .i64) 3 w' w.heap.size (fun _=>True) v0_ r∧Below w.heap.size w w':=by
 have HR1:=mA hr1
 have HC1:=mA hc1
 clear hr1 hc1
 have HB:=mA (Below.refl w.heap.size w)
 have H:((spec_StoryTable.f k a0 l1).bind fun t104=>((spec_WorldsIn.f k a0 t104).bind fun t105=>(spec_KnownPeople.l0 k a0 (([]:List Int)) t105 0)))=some r:=h
 clear h
 obtain ⟨y101,hy101⟩ : ∃ y_:List Int,y_=(([]:List Int)):=⟨_,rfl⟩
 replace H:((spec_StoryTable.f k a0 l1).bind fun t104=>((spec_WorldsIn.f k a0 t104).bind fun t105=>(spec_KnownPeople.l0 k a0 y101 t105 0)))=some r:=by first|(rw [hy101];with_reducible exact H)|(have H2_:=(Option.bind_some _ _).symm.trans H;rw [hy101];with_reducible exact H2_)|(have H2_:=(Option.bind_some _ _).symm.trans H;with_reducible exact H2_)|with_reducible exact H|(rw [hy101];exact H)|exact H
 have Ny101:=mA hy101
 clear hy101
 replace H:=Option.bind_eq_some_iff.mp H
 obtain ⟨t104,A30,H⟩:=H
 replace H:((spec_WorldsIn.f k a0 t104).bind fun t105=>(spec_KnownPeople.l0 k a0 y101 t105 0))=some r:=H
 have A3:=mA A30
 clear A30
 replace H:=Option.bind_eq_some_iff.mp H
 obtain ⟨t105,A40,H⟩:=H
 replace H:(spec_KnownPeople.l0 k a0 y101 t105 0)=some r:=H
 have A4:=mA A40
 clear A40
 have H':=mA H
 clear H
 go_enter Try.func94,Try.ntmps94
 go_wp2_with (first|((with_reducible refine gate_dst (N:=10) rfl ?_);(try (refine gate_guard (by rfl) ?_;dsimp only));refine Kd.R_lit (Kd.int .i64) _ 3 ?hg (N:=10) ?hd (xs:=([]:List Int)) (inner:=[]) (ok:=fun _=>True) (okp:=fun _=>True) ?hr ?hp (fun _ hk=>hk) trivial (Below.refl _ _) (Nat.le_refl _) (by simp) ?_;(case hd=>rfl);(case hg=>rfl);(case hr=>first|(go_simp;done)|(go_simp;rfl));(case hp=>exact (Reps.none _ _));intro v102 w5 ho6 hb hg_ hnew_;clear hg_ hnew_;(first|rw [←Ny101.out] at ho6|(simp only [Int.reduceToNat] at ho6;rw [←Ny101.out] at ho6));have n0_:=mA (Kd.R_lower ho6 (bZ (by repeat (first|(with_reducible first|exact HB.out|apply bA|apply bN|apply bD)|exact HB.out))));have n1_:=mA (bT (by repeat (first|(with_reducible first|exact HB.out|apply bA|apply bN|apply bD)|exact HB.out)) hb);clear HB;have HO103:=n0_;have HB:=n1_;clear n0_ n1_ hb ho6)|((with_reducible refine gate_callee (f:=60) rfl ?_);refine goesL_ (some 14) rfl rfl Try.func60 (by kernel_rfl) rfl #[.int .i64 a0,.slice A1 l1.length c1] rfl (by (try simp only [mT,mC,mN]);first|done|rfl|(simp only [lD,lT];rfl)) ?_;(with_reducible refine (spec_StoryTable.calls k a0 _ _ l1 t104 _ ?side1 ?side2 A3.out).mono ?_);(case side1=>repeat (first|exact (Kd.C_below HR1.out HB.out)|(with_reducible refine cA ?_ _)|(with_reducible refine cN ?_ _)|(with_reducible refine cD ?_)));(case side2=>exact HC1.out);rintro e w7 ⟨rfl,hb⟩;refine ⟨_,rfl,?_⟩;have n0_:=mA (rB (by (with_reducible repeat (first|apply rA|apply rN|apply rD));exact HO103.out) hb);have n1_:=mA (bT (by repeat (first|(with_reducible first|exact HB.out|apply bA|apply bN|apply bD)|exact HB.out)) hb);clear HO103 HB;have HO103:=n0_;have HB:=n1_;clear n0_ n1_;(try clear hb);(try clear hb2);(try clear hk);(try clear hi))|((with_reducible refine gate_callee (f:=134) rfl ?_);refine goesL_ (some 15) rfl rfl Try.func134 (by kernel_rfl) rfl #[.int .i64 a0,.int .i64 t104] rfl (by (try simp only [mT,mC,mN]);first|done|rfl|(simp only [lD,lT];rfl)) ?_;(with_reducible refine (spec_WorldsIn.calls k a0 t104 t105 _ A4.out).mono ?_);rintro e w8 ⟨v106,rfl,ho0,hb⟩;refine ⟨_,rfl,?_⟩;have n0_:=mA (Kd.R_elder' (by (with_reducible repeat (first|apply rA|apply rN|apply rD));exact HO103.out) (Kd.R_base ho0) hb);have n1_:=mA (Kd.R_lower (Kd.R_new' ho0 (rL (by (with_reducible repeat (first|apply rA|apply rN|apply rD));exact HO103.out))) (bZ (by repeat (first|(with_reducible first|exact HB.out|apply bA|apply bN|apply bD)|exact HB.out))));have n2_:=mA (bT (by repeat (first|(with_reducible first|exact HB.out|apply bA|apply bN|apply bD)|exact HB.out)) hb);clear HO103 HB;have HO103:=n0_;have HO107:=n1_;have HB:=n2_;clear n0_ n1_ n2_;(try clear hb);(try clear hb2);(try clear hk);(try clear hi);(try clear ho0)))
 go_loopg [5,7] k (fun kq v5 v7 w'=>∃ (x5_1:List Int) (x7_1:Int),v7 = .int .i64 x7_1∧Aside0 (spec_KnownPeople.l0 kq a0 x5_1 t105 x7_1=some r)∧Aside0 (kq≤k)∧Aside0 (Kd.R (Kd.int .i64) 3 w' w.heap.size (fun k_=>some k_≠(v106:Value).ownBlock) v5 x5_1)∧Aside0 (Kd.R (Kd.int .i64) 3 w' w.heap.size (fun k_=>some k_≠(v5:Value).ownBlock) v106 t105)∧Aside0 (Below w.heap.size w w'))
 case atStart=>exact ⟨(y101),(0),(by first|rfl|(simp;done)|(simp [*];done)),H',⟨Nat.le_refl _⟩,⟨by (with_reducible repeat (first|apply rA|apply rN|apply rD));exact rM HO103.out (fun _ hk=>hk.2)⟩,⟨by (with_reducible repeat (first|apply rA|apply rN|apply rD));exact rM HO107.out (fun _ hk=>hk.2)⟩,⟨by repeat (first|(with_reducible first|exact HB.out|apply bA|apply bN|apply bD)|exact HB.out)⟩⟩
 case round =>
  clear H'
  try clear c1
  try clear p2
  try clear c6
  obtain ⟨x5_1,x7_1,rfl,HA,HK1,HO_5,HO_6,HB⟩:=hrel
  cases gk with
  | zero=>exact absurd HA.out (by simp [spec_KnownPeople.l0])
  | succ k1 =>
   have H:=HA.out
   clear HA
   simp only [spec_KnownPeople.l0] at H
   have HC9:=mA H
   clear H
   go_upto_region 4 with (fail)
   go_cut [23] (fun v23 wc=>∃ (kq:Nat) (x23_8:Bool),v23 = .bool x23_8∧Aside0 (spec_KnownPeople.j1 kq a0 x5_1 t105 x7_1 x23_8=some r)∧Aside0 (kq≤k1)∧Aside0 (Kd.R (Kd.int .i64) 3 wc w.heap.size (fun k_=>some k_≠(v106:Value).ownBlock) u5 x5_1)∧Aside0 (Kd.R (Kd.int .i64) 3 wc w.heap.size (fun k_=>some k_≠(u5:Value).ownBlock) v106 t105)∧Aside0 (Below w.heap.size w wc))
   case first =>
    have H:=HC9.out
    clear HC9
    by_cases c10:x7_1<a0
    ·rw [if_pos c10] at H
     have c10b0:decide (x7_1<a0)=true:=decide_eq_true c10
     clear c10
     (first|rw [c10b0]|(simp only [i64_w,i32_w];rw [c10b0])|skip)
     have H':=mA H
     clear H
     obtain ⟨Ao11,co11,eo11⟩:=Kd.R_slice HO_6.out
     subst eo11
     go_wp2
     go_meet
     case rel=>exact ⟨_,(decide ((t105.length:Int)>0)),(by first|rfl|(simp;done)|(simp [*];done)),H',⟨by have:=HK1.out;first|omega|exact Nat.le_refl _⟩,⟨by (with_reducible repeat (first|apply rA|apply rN|apply rD));exact HO_5.out⟩,⟨by (with_reducible repeat (first|apply rA|apply rN|apply rD));exact HO_6.out⟩,⟨by repeat (first|(with_reducible first|exact HB.out|apply bA|apply bN|apply bD)|exact HB.out)⟩⟩
    ·rw [if_neg c10] at H
     have c10b0:decide (x7_1<a0)=false:=decide_eq_false c10
     clear c10
     (first|rw [c10b0]|(simp only [i64_w,i32_w];rw [c10b0])|skip)
     have H':=mA H
     clear H
     go_wp2
     go_meet
     case rel=>exact ⟨_,(false),(by first|rfl|(simp;done)|(simp [*];done)),H',⟨by have:=HK1.out;first|omega|exact Nat.le_refl _⟩,⟨by (with_reducible repeat (first|apply rA|apply rN|apply rD));exact HO_5.out⟩,⟨by (with_reducible repeat (first|apply rA|apply rN|apply rD));exact HO_6.out⟩,⟨by repeat (first|(with_reducible first|exact HB.out|apply bA|apply bN|apply bD)|exact HB.out)⟩⟩
   case rest =>
    clear HC9
    try clear c1
    try clear p2
    try clear c6
    try clear c9
    try clear c10
    try clear c10b0
    try clear p2
    obtain ⟨kq,x23_8,rfl,HA,HJ8,HO_5,HO_6,HB⟩:=hcut
    cases kq with
    | zero=>exact absurd HA.out (by simp [spec_KnownPeople.j1])
    | succ kj8 =>
     have H:=HA.out
     clear HA
     simp only [spec_KnownPeople.j1] at H
     by_cases c12:x23_8=true
     ·subst c12
      have H1:(spec_KnownPeople.l1 kj8 a0 x5_1 t105 x7_1 0 0)=some r:=by rw [if_pos rfl] at H;exact H
      clear H
      have H:=H1
      clear H1
      have H':=mA H
      clear H
      go_wp2
      go_loopg [8,9] kj8 (fun kq v8 v9 w'=>∃ (x8_3:Int) (x9_3:Int),v8 = .int .i64 x8_3∧v9 = .int .i64 x9_3∧Aside0 (spec_KnownPeople.l1 kq a0 x5_1 t105 x7_1 x8_3 x9_3=some r)∧Aside0 (kq≤kj8)∧Aside0 (Kd.R (Kd.int .i64) 3 w' w.heap.size (fun k_=>some k_≠(v106:Value).ownBlock) u5 x5_1)∧Aside0 (Kd.R (Kd.int .i64) 3 w' w.heap.size (fun k_=>some k_≠(u5:Value).ownBlock) v106 t105)∧Aside0 (Below w.heap.size w w'))
      case atStart=>exact ⟨(0),(0),(by first|rfl|(simp;done)|(simp [*];done)),(by first|rfl|(simp;done)|(simp [*];done)),H',⟨Nat.le_refl _⟩,⟨by (with_reducible repeat (first|apply rA|apply rN|apply rD));exact HO_5.out⟩,⟨by (with_reducible repeat (first|apply rA|apply rN|apply rD));exact HO_6.out⟩,⟨by repeat (first|(with_reducible first|exact HB.out|apply bA|apply bN|apply bD)|exact HB.out)⟩⟩
      case round =>
       clear H'
       try clear c1
       try clear p2
       try clear c6
       try clear c9
       try clear c10
       try clear c10b0
       try clear c12
       try clear p2
       obtain ⟨x8_3,x9_3,rfl,rfl,HA,HK3,HO_5,HO_6,HB⟩:=hrel
       cases gk with
       | zero=>exact absurd HA.out (by simp [spec_KnownPeople.l1])
       | succ k3 =>
        have H:=HA.out
        clear HA
        simp only [spec_KnownPeople.l1] at H
        by_cases c13:x9_3<(t105.length:Int)
        ·rw [if_pos c13] at H
         have c13b0:decide (x9_3<(t105.length:Int))=true:=decide_eq_true c13
         clear c13
         by_cases c14:0≤x9_3
         ·rw [if_pos c14] at H
          have c14b0:decide (0≤x9_3)=true:=decide_eq_true c14
          clear c14
          by_cases c15:0≤x7_1
          ·rw [if_pos c15] at H
           have c15b0:=eq_true c15
           have c15b1:decide (0≤x7_1)=true:=decide_eq_true c15
           clear c15
           obtain ⟨ji16,hji16⟩ : ∃ j_:Int,(shr .i64 (rd t105 x9_3) x7_1)=j_:=⟨_,rfl⟩
           replace H:(spec_KnownPeople.l1 k3 a0 x5_1 t105 x7_1 (wrap64 (x8_3+(Int.tmod (ji16) 2))) (wrap64 (x9_3+1)))=some r:=by first|(rw [hji16] at H;exact H)|(simp only [hji16] at H ⊢;exact H)
           have hji16_:((rd t105 x9_3) / 2^min x7_1.toNat 64)=ji16:=hji16
           have hji16z:x7_1≤64→((rd t105 x9_3) / 2^x7_1.toNat)=ji16:=shr_small hji16
           have H':=mA H
           clear H
           obtain ⟨Ao17,co17,eo17⟩:=Kd.R_slice HO_6.out
           subst eo17
           have p108:0≤(x9_3:Int):=of_decide_eq_true (by first|(with_reducible assumption)|assumption)
           have q108:x9_3<(t105.length:Int):=of_decide_eq_true (by first|(with_reducible assumption)|assumption)
           obtain ⟨ad108,e108,hx108_0⟩:=Kd.at_int (rR HO_6.out).2.2 x9_3 p108 q108
           cases e108
           replace p108:=eq_true p108
           replace q108:=eq_true q108
           go_wp2
           go_roundg k3
           case measure=>have:=HK1.out;have:=HJ8.out;have:=HK3.out;omega
           case rel=>exact ⟨(wrap64 (x8_3+(Int.tmod (ji16) 2))),(wrap64 (x9_3+1)),(by first|rfl|(simp;done)|(simp only [←hji16]<;>(first|rfl|simp))|(simp [*];done)),(by first|rfl|(simp;done)|(simp [*];done)),H',⟨by have:=HK1.out;have:=HJ8.out;have:=HK3.out;omega⟩,⟨by (with_reducible repeat (first|apply rA|apply rN|apply rD));exact HO_5.out⟩,⟨by (with_reducible repeat (first|apply rA|apply rN|apply rD));exact HO_6.out⟩,⟨by repeat (first|(with_reducible first|exact HB.out|apply bA|apply bN|apply bD)|exact HB.out)⟩⟩
          ·rw [if_neg c15] at H
           exact absurd H (by simp)
         ·rw [if_neg c14] at H
          exact absurd H (by simp)
        ·rw [if_neg c13] at H
         have c13b0:decide (x9_3<(t105.length:Int))=false:=decide_eq_false c13
         clear c13
         by_cases c18:x8_3=0
         ·rw [if_pos c18] at H
          have c18b0:(x8_3==0)=true:=beq_iff_eq.mpr c18
          have c18b1:(x8_3 != 0)=false:=bne_eq_false_iff_eq.mpr c18
          clear c18
          by_cases c19:x5_1.length<17592186044416
          ·rw [if_pos c19] at H
           have LMc19:=mA c19
           clear c19
           obtain ⟨y109,hy109⟩ : ∃ y_:List Int,y_=(x5_1++[0]):=⟨_,rfl⟩
           replace H:(spec_KnownPeople.l0 k3 a0 y109 t105 (wrap64 (x7_1+1)))=some r:=by first|(rw [hy109];with_reducible exact H)|(have H2_:=(Option.bind_some _ _).symm.trans H;rw [hy109];with_reducible exact H2_)|(have H2_:=(Option.bind_some _ _).symm.trans H;with_reducible exact H2_)|with_reducible exact H|(rw [hy109];exact H)|exact H
           have Ny109:=mA hy109
           clear hy109
           have H':=mA H
           clear H
           obtain ⟨Ao20,co20,eo20⟩:=Kd.R_slice HO_6.out
           subst eo20
           go_wp2_with (first|((with_reducible refine gate_builtin (b:=.append) (xs:=#[.tmp 47,.tmp 48]) rfl ?_);(try (refine gate_guard (by rfl) ?_;dsimp only));at_builtin;refine Kd.R_append (Kd.int .i64) (w0:=w) w.heap.size rfl (.tmp 47) (.tmp 48) 26 3 (.int .i64 0) 8 rfl Try.underlying26 info3 rfl (by decide) (by omega) u5 x5_1 0 [.int .i64 0] (fun k_=>some k_≠(.slice Ao20 t105.length co20:Value).ownBlock) (fun _=>False) rfl rfl ?aP (fun _ hk=>hk.elim) ?aF ?aO ?aB ?aS ?aL ?_;(case aP=>exact rfl);(case aB=>exact (by repeat (first|(with_reducible first|exact HB.out|apply bA|apply bN|apply bD)|exact HB.out)));(case aF=>exact (fun k_ hk=>Kd.fresh' (rL (by (with_reducible repeat (first|apply rA|apply rN|apply rD));exact HO_6.out)) k_ hk));(case aO=>exact (by (with_reducible repeat (first|apply rA|apply rN|apply rD));exact HO_5.out));(case aS=>exact (bZ (by repeat (first|(with_reducible first|exact HB.out|apply bA|apply bN|apply bD)|exact HB.out))));(case aL=>have:=LMc19.out;omega);intro v110 w21 ho hb hg hat;rw [←Ny109.out] at ho;have n0_:=mA (Kd.R_after (ok:=(fun _=>True)) (by (with_reducible repeat (first|apply rA|apply rN|apply rD));exact rM HO_6.out (fun _ hk=>⟨trivial,hk⟩)) hg hat);have n1_:=mA (hb);have n2_:=mA (ho);clear HO_6 HB HO_5;have HO_6:=n0_;have HB:=n1_;have HO111:=n2_;clear n0_ n1_ n2_ ho hb hg hat))
           go_roundg k3
           case measure=>have:=HK1.out;have:=HJ8.out;have:=HK3.out;omega
           case rel=>exact ⟨(y109),(wrap64 (x7_1+1)),(by first|rfl|(simp;done)|(simp [*];done)),H',⟨by have:=HK1.out;have:=HJ8.out;have:=HK3.out;omega⟩,⟨by (with_reducible repeat (first|apply rA|apply rN|apply rD));exact HO111.out⟩,⟨by (with_reducible repeat (first|apply rA|apply rN|apply rD));exact rM HO_6.out (fun _ hk=>hk.2)⟩,⟨by repeat (first|(with_reducible first|exact HB.out|apply bA|apply bN|apply bD)|exact HB.out)⟩⟩
          ·rw [if_neg c19] at H
           exact absurd H (by simp)
         ·rw [if_neg c18] at H
          have c18b0:(x8_3==0)=false:=beq_eq_false_iff_ne.mpr c18
          have c18b1:(x8_3 != 0)=true:=bne_iff_ne.mpr c18
          by_cases c22:x8_3=(t105.length:Int)
          ·rw [if_pos c22] at H
           have c22b0:(x8_3==(t105.length:Int))=true:=beq_iff_eq.mpr c22
           have c22b1:(x8_3 != (t105.length:Int))=false:=bne_eq_false_iff_eq.mpr c22
           clear c22
           by_cases c23:x5_1.length<17592186044416
           ·rw [if_pos c23] at H
            have LMc23:=mA c23
            clear c23
            obtain ⟨y112,hy112⟩ : ∃ y_:List Int,y_=(x5_1++[1]):=⟨_,rfl⟩
            replace H:(spec_KnownPeople.l0 k3 a0 y112 t105 (wrap64 (x7_1+1)))=some r:=by first|(rw [hy112];with_reducible exact H)|(have H2_:=(Option.bind_some _ _).symm.trans H;rw [hy112];with_reducible exact H2_)|(have H2_:=(Option.bind_some _ _).symm.trans H;with_reducible exact H2_)|with_reducible exact H|(rw [hy112];exact H)|exact H
            have Ny112:=mA hy112
            clear hy112
            have H':=mA H
            clear H
            obtain ⟨Ao24,co24,eo24⟩:=Kd.R_slice HO_6.out
            subst eo24
            go_wp2_with (first|((with_reducible refine gate_builtin (b:=.append) (xs:=#[.tmp 54,.tmp 55]) rfl ?_);(try (refine gate_guard (by rfl) ?_;dsimp only));at_builtin;refine Kd.R_append (Kd.int .i64) (w0:=w) w.heap.size rfl (.tmp 54) (.tmp 55) 26 3 (.int .i64 0) 8 rfl Try.underlying26 info3 rfl (by decide) (by omega) u5 x5_1 1 [.int .i64 1] (fun k_=>some k_≠(.slice Ao24 t105.length co24:Value).ownBlock) (fun _=>False) rfl rfl ?aP (fun _ hk=>hk.elim) ?aF ?aO ?aB ?aS ?aL ?_;(case aP=>exact rfl);(case aB=>exact (by repeat (first|(with_reducible first|exact HB.out|apply bA|apply bN|apply bD)|exact HB.out)));(case aF=>exact (fun k_ hk=>Kd.fresh' (rL (by (with_reducible repeat (first|apply rA|apply rN|apply rD));exact HO_6.out)) k_ hk));(case aO=>exact (by (with_reducible repeat (first|apply rA|apply rN|apply rD));exact HO_5.out));(case aS=>exact (bZ (by repeat (first|(with_reducible first|exact HB.out|apply bA|apply bN|apply bD)|exact HB.out))));(case aL=>have:=LMc23.out;omega);intro v113 w25 ho hb hg hat;rw [←Ny112.out] at ho;have n0_:=mA (Kd.R_after (ok:=(fun _=>True)) (by (with_reducible repeat (first|apply rA|apply rN|apply rD));exact rM HO_6.out (fun _ hk=>⟨trivial,hk⟩)) hg hat);have n1_:=mA (hb);have n2_:=mA (ho);clear HO_6 HB HO_5;have HO_6:=n0_;have HB:=n1_;have HO114:=n2_;clear n0_ n1_ n2_ ho hb hg hat))
            go_roundg k3
            case measure=>have:=HK1.out;have:=HJ8.out;have:=HK3.out;omega
            case rel=>exact ⟨(y112),(wrap64 (x7_1+1)),(by first|rfl|(simp;done)|(simp [*];done)),H',⟨by have:=HK1.out;have:=HJ8.out;have:=HK3.out;omega⟩,⟨by (with_reducible repeat (first|apply rA|apply rN|apply rD));exact HO114.out⟩,⟨by (with_reducible repeat (first|apply rA|apply rN|apply rD));exact rM HO_6.out (fun _ hk=>hk.2)⟩,⟨by repeat (first|(with_reducible first|exact HB.out|apply bA|apply bN|apply bD)|exact HB.out)⟩⟩
           ·rw [if_neg c23] at H
            exact absurd H (by simp)
          ·rw [if_neg c22] at H
           have c22b0:(x8_3==(t105.length:Int))=false:=beq_eq_false_iff_ne.mpr c22
           have c22b1:(x8_3 != (t105.length:Int))=true:=bne_iff_ne.mpr c22
           by_cases c26:x5_1.length<17592186044416
           ·rw [if_pos c26] at H
            have LMc26:=mA c26
            clear c26
            obtain ⟨y115,hy115⟩ : ∃ y_:List Int,y_=(x5_1++[(-1)]):=⟨_,rfl⟩
            replace H:(spec_KnownPeople.l0 k3 a0 y115 t105 (wrap64 (x7_1+1)))=some r:=by first|(rw [hy115];with_reducible exact H)|(have H2_:=(Option.bind_some _ _).symm.trans H;rw [hy115];with_reducible exact H2_)|(have H2_:=(Option.bind_some _ _).symm.trans H;with_reducible exact H2_)|with_reducible exact H|(rw [hy115];exact H)|exact H
            have Ny115:=mA hy115
            clear hy115
            have H':=mA H
            clear H
            obtain ⟨Ao27,co27,eo27⟩:=Kd.R_slice HO_6.out
            subst eo27
            go_wp2_with (first|((with_reducible refine gate_builtin (b:=.append) (xs:=#[.tmp 42,.tmp 43]) rfl ?_);(try (refine gate_guard (by rfl) ?_;dsimp only));at_builtin;refine Kd.R_append (Kd.int .i64) (w0:=w) w.heap.size rfl (.tmp 42) (.tmp 43) 26 3 (.int .i64 0) 8 rfl Try.underlying26 info3 rfl (by decide) (by omega) u5 x5_1 (-1) [.int .i64 (-1)] (fun k_=>some k_≠(.slice Ao27 t105.length co27:Value).ownBlock) (fun _=>False) rfl rfl ?aP (fun _ hk=>hk.elim) ?aF ?aO ?aB ?aS ?aL ?_;(case aP=>exact rfl);(case aB=>exact (by repeat (first|(with_reducible first|exact HB.out|apply bA|apply bN|apply bD)|exact HB.out)));(case aF=>exact (fun k_ hk=>Kd.fresh' (rL (by (with_reducible repeat (first|apply rA|apply rN|apply rD));exact HO_6.out)) k_ hk));(case aO=>exact (by (with_reducible repeat (first|apply rA|apply rN|apply rD));exact HO_5.out));(case aS=>exact (bZ (by repeat (first|(with_reducible first|exact HB.out|apply bA|apply bN|apply bD)|exact HB.out))));(case aL=>have:=LMc26.out;omega);intro v116 w28 ho hb hg hat;rw [←Ny115.out] at ho;have n0_:=mA (Kd.R_after (ok:=(fun _=>True)) (by (with_reducible repeat (first|apply rA|apply rN|apply rD));exact rM HO_6.out (fun _ hk=>⟨trivial,hk⟩)) hg hat);have n1_:=mA (hb);have n2_:=mA (ho);clear HO_6 HB HO_5;have HO_6:=n0_;have HB:=n1_;have HO117:=n2_;clear n0_ n1_ n2_ ho hb hg hat))
            go_roundg k3
            case measure=>have:=HK1.out;have:=HJ8.out;have:=HK3.out;omega
            case rel=>exact ⟨(y115),(wrap64 (x7_1+1)),(by first|rfl|(simp;done)|(simp [*];done)),H',⟨by have:=HK1.out;have:=HJ8.out;have:=HK3.out;omega⟩,⟨by (with_reducible repeat (first|apply rA|apply rN|apply rD));exact HO117.out⟩,⟨by (with_reducible repeat (first|apply rA|apply rN|apply rD));exact rM HO_6.out (fun _ hk=>hk.2)⟩,⟨by repeat (first|(with_reducible first|exact HB.out|apply bA|apply bN|apply bD)|exact HB.out)⟩⟩
           ·rw [if_neg c26] at H
            exact absurd H (by simp)
     ·replace c12:=Bool.eq_false_iff.mpr c12
      subst c12
      have H1:(some x5_1)=some r:=by rw [if_neg (show ¬ (false=true) by decide)] at H;exact H
      clear H
      have H:=H1
      clear H1
      obtain rfl:=Option.some.inj H
      go_wp2
      go_ret
      exact ⟨_,by first|rfl|(simp [errW_none,errW_some]<;>rfl)|(simp [*, errW_none,errW_some]<;>rfl),by (with_reducible repeat (first|apply rA|apply rN|apply rD));exact rM HO_5.out (fun _ hk=>trivial),by repeat (first|(with_reducible first|exact HB.out|apply bA|apply bN|apply bD)|exact HB.out)⟩
end Go.Proofs.Ytpampekijfjlkab.X
/- Plain laws of what is known of people: the reference's row. -/
namespace Go.Proofs.Ytpampekijfjlkab.L
open Go.RowKit Go.Proofs.Ytpampekijfjlkab.X Go.Proofs.YtpampekijfjlkabW.PrintWords Go.Proofs.YtpampekijfjlkabW.PrintLast Go.Proofs.YtpampekijfjlkabW.PrintMore
open Go.Proofs.YtpampekijfjlkabW.PrintWords renaming Aside0.mk → mA, pw_below_drewN → bN, below_drew1 → bD, below_alloc → bA, below_size → bZ, below_step → bT, Kd.R_alloc → rA, Kd.R_drewN → rN, Kd.R_drew → rD, Kd.R_mono → rM, Kd.R_reads' → rR, Kd.R_lt → rL, Kd.R_below → rB, Kd.C_alloc → cA, Kd.C_drewN → cN, Kd.C_drew → cD
open List renaming length_take → lT, length_drop → lD, map_toArray → mT, map_cons → mC, map_nil → mN

noncomputable def storyV (p:Int) (l:List C):Int:=if sok p l=true then ((stab p l:Nat):Int) else -1
noncomputable def knownP (p:Int) (l:List C):List Int:=if worldsIn p (storyV p l)=[] then [] else knownRow (worldsIn p (storyV p l)) p.toNat 0 []
theorem wls_len (x:Nat) : ∀ (d j:Nat) (acc:List Int),(wls x d j acc).length≤acc.length+d
 | 0,_,_=>Nat.le_refl _
 | d+1,j,acc=>by
  rw [wls]
  have:=wls_len x d (j+1) (if x.testBit j then acc++[(j:Int)] else acc)
  have h2:(if x.testBit j then acc++[(j:Int)] else acc).length≤acc.length+1:=by split<;>simp
  omega
theorem worldsIn_len (p x:Int):(worldsIn p x).length≤16:=by
 unfold worldsIn
 split
 ·rename_i h
  obtain ⟨h0,h1,_⟩:=tabok_iff.1 h
  obtain ⟨q,rfl,_,hq4,hq2,e⟩:=people_nat h0 h1
  rw [e]
  have:=wls_len x.toNat (2^q) 0 []
  simp at this
  omega
 ·simp
theorem worldsIn_people {p x:Int} (h:worldsIn p x≠[]):1≤p∧p≤4:=by
 unfold worldsIn at h
 by_cases hh:tabok p x=true
 ·have:=tabok_iff.1 hh
  exact ⟨this.1,this.2.1⟩
 ·rw [if_neg hh] at h
  exact absurd rfl h
theorem impl_Known_ev (p:Int) (l:List C) (hl:l.length≤4611686018427387904):Ev (fun k=>impl_KnownPeople.f k p l) (knownP p l):=by
 unfold impl_KnownPeople.f
 have hs:=impl_StoryTable_ev p l hl
 change Ev _ (storyV p l) at hs
 refine Ev.bind hs (Ev.bind (impl_WorldsIn_ev p _) ?_)
 have hwl:=worldsIn_wl p (storyV p l)
 have hlen:=worldsIn_len p (storyV p l)
 have hpp:=@worldsIn_people p (storyV p l)
 unfold knownP
 generalize worldsIn p (storyV p l)=W at *
 by_cases h:W=[]
 ·rw [if_pos h,h]
  exact Ev.yes (by simp) (Ev.some _)
 ·rw [if_neg h]
  have hne:0<W.length:=List.length_pos_iff.2 h
  obtain ⟨h0,h1⟩:=hpp h
  obtain ⟨q,rfl,_,hq4,hq2,e⟩:=people_nat h0 h1
  rw [e]
  exact Ev.no (by omega) (impl_Known_l hq4 hwl hne (by omega) q 0 [] (by omega) (by simp))
/-- All claims may be made in a world. -/
noncomputable def allMay (l:List C) (w:Nat):Bool:=l.all (fun c=>may c.f0 c.f1 w)
theorem allMay_sub {a b:List C} {w:Nat} (h : ∀ x∈a,x∈b) (hb:allMay b w=true):allMay a w=true:=by
 unfold allMay at hb ⊢
 rw [List.all_eq_true] at hb ⊢
 exact fun x hx=>hb x (h x hx)
theorem full_bit (q w:Nat):(fullT q).testBit w=decide (w<2^q):=by unfold fullT;rw [Nat.testBit_two_pow_sub_one]
theorem stabFrom_bits {p:Int} : ∀ (l:List C) (a w:Nat),(stabFrom p a l).testBit w=(a.testBit w&&l.all (fun c=>(ctab p c.f0 c.f1).testBit w))
 | [],a,w=>by simp [stabFrom]
 | c :: l,a,w=>by rw [stabFrom,stabFrom_bits l,Nat.testBit_and,List.all_cons,Bool.and_assoc]
theorem stab_tab (p:Int) (l:List C):stab p l=tabL (allMay l) (2^p.toNat):=by
 apply Nat.eq_of_testBit_eq
 intro w
 rw [stab,stabFrom_bits,full_bit,tabL_bit]
 by_cases h:w<2^p.toNat
 ·rw [decide_eq_true h,Bool.true_and,Bool.true_and]
  unfold allMay
  induction l with
  | nil=>rfl
  | cons c l ih=>rw [List.all_cons,List.all_cons,ih,ctab,tabL_bit,decide_eq_true h,Bool.true_and]
 ·rw [decide_eq_false h,Bool.false_and,Bool.false_and]
theorem wls_mem (x:Nat) : ∀ (d j:Nat) (acc:List Int) (y:Int),y∈wls x d j acc ↔ y∈acc ∨ ∃ v:Nat,y=(v:Int)∧j≤v∧v<j+d∧x.testBit v=true
 | 0,j,acc,y=>by
  rw [wls]
  exact ⟨fun h=>.inl h,fun h=>by rcases h with h|⟨v,_,h1,h2,_⟩;exact h;omega⟩
 | d+1,j,acc,y=>by
  rw [wls,wls_mem x d (j+1)]
  by_cases hb:x.testBit j=true
  ·rw [if_pos hb,List.mem_append,List.mem_singleton]
   constructor
   ·rintro ((h|h)|⟨v,h1,h2,h3,h4⟩)
    ·exact .inl h
    ·exact .inr ⟨j,h,Nat.le_refl _,by omega,hb⟩
    ·exact .inr ⟨v,h1,by omega,by omega,h4⟩
   ·rintro (h|⟨v,h1,h2,h3,h4⟩)
    ·exact .inl (.inl h)
    ·by_cases e:v=j
     ·subst e;exact .inl (.inr h1)
     ·exact .inr ⟨v,h1,by omega,by omega,h4⟩
  ·rw [if_neg hb]
   constructor
   ·rintro (h|⟨v,h1,h2,h3,h4⟩)
    ·exact .inl h
    ·exact .inr ⟨v,h1,by omega,by omega,h4⟩
   ·rintro (h|⟨v,h1,h2,h3,h4⟩)
    ·exact .inl h
    ·by_cases e:v=j
     ·subst e;exact absurd h4 hb
     ·exact .inr ⟨v,h1,by omega,by omega,h4⟩
theorem story_none {p:Int} {l:List C} (hs : ¬ sok p l=true):worldsIn p (storyV p l)=[]:=by
 rw [storyV,if_neg hs,worldsIn,if_neg (fun h=>by have:=(tabok_iff.1 h).2.2.1;omega)]
theorem story_mem {q:Nat} {l:List C} (hs:sok (q:Int) l=true) (y:Int):y∈worldsIn (q:Int) (storyV (q:Int) l) ↔ ∃ v:Nat,y=(v:Int)∧v<2^q∧allMay l v=true:=by
 obtain ⟨_,h0,h1,_⟩:=sok_iff.1 hs
 have hlt:stab (q:Int) l<2^(2^q):=by rw [stab_tab,Int.toNat_natCast];exact tabL_lt _ _
 have hok:tabok (q:Int) ((stab (q:Int) l:Nat):Int)=true:=tabok_iff.2 ⟨h0,h1,by omega,by rw [Int.toNat_natCast];omega⟩
 rw [storyV,if_pos hs,worldsIn,if_pos hok,wls_mem,Int.toNat_natCast,Int.toNat_natCast]
 constructor
 ·rintro (h|⟨v,h1,_,h3,h4⟩)
  ·cases h
  ·rw [stab_tab,tabL_bit,Bool.and_eq_true,decide_eq_true_eq,Int.toNat_natCast] at h4
   exact ⟨v,h1,h4.1,h4.2⟩
 ·rintro ⟨v,h1,h3,h4⟩
  refine .inr ⟨v,h1,Nat.zero_le _,by omega,?_⟩
  rw [stab_tab,tabL_bit,Bool.and_eq_true,decide_eq_true_eq,Int.toNat_natCast]
  exact ⟨h3,h4⟩
theorem story_in {p:Int} {l:List C} {y:Int} (h:y∈worldsIn p (storyV p l)):sok p l=true:=by
 cases hs:sok p l with
 | true=>rfl
 | false=>rw [story_none (by rw [hs];exact Bool.false_ne_true)] at h;cases h
theorem knownRow_pre (W:List Int) : ∀ (d i:Nat) (acc:List Int), ∃ z,knownRow W d i acc=acc++z
 | 0,_,acc=>⟨[],by simp [knownRow]⟩
 | d+1,i,acc=>by
  obtain ⟨z,hz⟩:=knownRow_pre W d (i+1) (acc++[knownOf W i])
  exact ⟨knownOf W i :: z,by rw [knownRow,hz];simp⟩
theorem knownRow_get (W:List Int) : ∀ (d i:Nat) (acc:List Int) (j:Nat),j<d→rd (knownRow W d i acc) ((acc.length+j:Nat):Int)=knownOf W (i+j)
 | 0,_,_,_,h=>by omega
 | d+1,i,acc,0,_=>by
  obtain ⟨z,hz⟩:=knownRow_pre W d (i+1) (acc++[knownOf W i])
  rw [knownRow,hz,List.append_assoc]
  exact rdW acc _ z
 | d+1,i,acc,j+1,h=>by
  rw [knownRow]
  have:=knownRow_get W d (i+1) (acc++[knownOf W i]) j (by omega)
  rw [List.length_append,List.length_singleton] at this
  rw [show acc.length+(j+1)=acc.length+1+j by omega,this,show i+1+j=i+(j+1) by omega]
theorem known_get {p:Int} {l:List C} (h:worldsIn p (storyV p l)≠[]) {j:Nat} (hj:j<p.toNat):rd (knownP p l) (j:Int)=knownOf (worldsIn p (storyV p l)) j:=by
 rw [knownP,if_neg h]
 have:=knownRow_get (worldsIn p (storyV p l)) p.toNat 0 [] j hj
 simpa using this
theorem known_len {p:Int} {l:List C}:(knownP p l).length=if worldsIn p (storyV p l)=[] then 0 else p.toNat:=by
 rw [knownP]
 split
 ·rfl
 ·rw [knownRow_length];simp
theorem known_one (n:Int) (i:Nat):knownOf [n] i=if n.toNat.testBit i=true then 1 else 0:=by
 unfold knownOf
 by_cases h:n.toNat.testBit i=true
 ·rw [if_pos (by simpa using h),if_pos h]
 ·rw [if_neg (by simpa using h),if_pos (by simpa using h),if_neg h]
end Go.Proofs.Ytpampekijfjlkab.L
namespace Go.Proofs.Ytpampekijfjlkab.X
open Go.RowKit Go.Proofs.YtpampekijfjlkabW.PrintWords Go.Proofs.YtpampekijfjlkabW.PrintLast Go.Proofs.YtpampekijfjlkabW.PrintMore
open Go.Proofs.YtpampekijfjlkabW.PrintWords renaming Aside0.mk → mA, pw_below_drewN → bN, below_drew1 → bD, below_alloc → bA, below_size → bZ, below_step → bT, Kd.R_alloc → rA, Kd.R_drewN → rN, Kd.R_drew → rD, Kd.R_mono → rM, Kd.R_reads' → rR, Kd.R_lt → rL, Kd.R_below → rB, Kd.C_alloc → cA, Kd.C_drewN → cN, Kd.C_drew → cD
open List renaming length_take → lT, length_drop → lD, map_toArray → mT, map_cons → mC, map_nil → mN
attribute [local go_sem] max2_int min2_int max_two min_two max_three min_three max_four min_four   -- for this text's walks alone
set_option linter.unusedVariables false
set_option linter.unusedSimpArgs false
/-! ### spec_OnlyWorld: function 83 -/
def spec_OnlyWorld.f (k:Nat) (a0:Int) (l1:List (S36)):Option (Int×Bool):=(spec_StoryTable.f k a0 l1).bind fun t101=>((spec_WorldsIn.f k a0 t101).bind fun t102=>(if (t102.length:Int)=1 then (if 0<(t102.length:Int) then (some (rd t102 0,true)) else (none)) else (some ((-1),false))))
theorem spec_OnlyWorld.mono : ∀ a0 a1 k,LeO (spec_OnlyWorld.f k a0 a1) (spec_OnlyWorld.f (k+1) a0 a1):=by
 intro a0 a1 k
 unfold spec_OnlyWorld.f
 repeat' first
   | (with_reducible exact spec_StoryTable.mono _ _ _)
   | (with_reducible exact spec_WorldsIn.mono _ _ _)
   | (with_reducible exact LeO.refl _)
   | (with_reducible exact LeO.none _)
   | (with_reducible refine LeO.ite ?_ ?_)
   | (with_reducible refine LeO.bind ?_ (fun _=>?_))
   | exact spec_StoryTable.mono _ _ _
   | exact spec_WorldsIn.mono _ _ _
   | exact LeO.none _
   | refine LeO.ite ?_ ?_
   | refine LeO.bind ?_ (fun _=>?_)
set_option maxHeartbeats 8000000 in
set_option maxRecDepth 100000 in
theorem spec_OnlyWorld.calls (k:Nat) (a0:Int) (A1:Option Addr) (c1:Nat) (l1:List (S36)) (r1:Int) (r2:Bool) (w:World) (hr1:Kd.C k36 w A1 l1.length l1) (hc1:l1.length≤c1) (h:spec_OnlyWorld.f k a0 l1=some (r1,r2)) :
  Calls Try.prog 83 #[.int .i64 a0,.slice A1 l1.length c1] w fun e w'=>e = .returned (.tuple #[.int .i64 r1,.bool r2])∧Below w.heap.size w w':=by
 have HR1:=mA hr1
 have HC1:=mA hc1
 clear hr1 hc1
 have HB:=mA (Below.refl w.heap.size w)
 have H:((spec_StoryTable.f k a0 l1).bind fun t101=>((spec_WorldsIn.f k a0 t101).bind fun t102=>(if (t102.length:Int)=1 then (if 0<(t102.length:Int) then (some (rd t102 0,true)) else (none)) else (some ((-1),false)))))=some (r1,r2):=h
 clear h
 replace H:=Option.bind_eq_some_iff.mp H
 obtain ⟨t101,A30,H⟩:=H
 replace H:((spec_WorldsIn.f k a0 t101).bind fun t102=>(if (t102.length:Int)=1 then (if 0<(t102.length:Int) then (some (rd t102 0,true)) else (none)) else (some ((-1),false))))=some (r1,r2):=H
 have A3:=mA A30
 clear A30
 replace H:=Option.bind_eq_some_iff.mp H
 obtain ⟨t102,A40,H⟩:=H
 replace H:(if (t102.length:Int)=1 then (if 0<(t102.length:Int) then (some (rd t102 0,true)) else (none)) else (some ((-1),false)))=some (r1,r2):=H
 have A4:=mA A40
 clear A40
 by_cases c5:(t102.length:Int)=1
 ·rw [if_pos c5] at H
  have c5b0:((t102.length:Int)==1)=true:=beq_iff_eq.mpr c5
  have c5b1:((t102.length:Int) != 1)=false:=bne_eq_false_iff_eq.mpr c5
  clear c5
  by_cases c6:0<(t102.length:Int)
  ·rw [if_pos c6] at H
   have c6b0:decide (0<(t102.length:Int))=true:=decide_eq_true c6
   have c6b1:decide (0<t102.length)=true:=decide_eq_true (by omega)
   clear c6
   simp only [Option.some.injEq,Prod.mk.injEq] at H
   obtain ⟨rfl,rfl⟩:=H
   go_enter Try.func83,Try.ntmps83
   go_wp2_with (first|((with_reducible refine gate_callee (f:=60) rfl ?_);refine goesL_ (some 10) rfl rfl Try.func60 (by kernel_rfl) rfl #[.int .i64 a0,.slice A1 l1.length c1] rfl (by (try simp only [mT,mC,mN]);first|done|rfl|(simp only [lD,lT];rfl)) ?_;(with_reducible refine (spec_StoryTable.calls k a0 _ _ l1 t101 _ ?side1 ?side2 A3.out).mono ?_);(case side1=>repeat (first|exact HR1.out|(with_reducible refine cA ?_ _)|(with_reducible refine cN ?_ _)|(with_reducible refine cD ?_)));(case side2=>exact HC1.out);rintro e w7 ⟨rfl,hb⟩;refine ⟨_,rfl,?_⟩;have n0_:=mA (bT (by repeat (first|(with_reducible first|exact HB.out|apply bA|apply bN|apply bD)|exact HB.out)) hb);clear HB;have HB:=n0_;clear n0_;(try clear hb);(try clear hb2);(try clear hk);(try clear hi))|((with_reducible refine gate_callee (f:=134) rfl ?_);refine goesL_ (some 11) rfl rfl Try.func134 (by kernel_rfl) rfl #[.int .i64 a0,.int .i64 t101] rfl (by (try simp only [mT,mC,mN]);first|done|rfl|(simp only [lD,lT];rfl)) ?_;(with_reducible refine (spec_WorldsIn.calls k a0 t101 t102 _ A4.out).mono ?_);rintro e w8 ⟨v103,rfl,ho0,hb⟩;refine ⟨_,rfl,?_⟩;have n0_:=mA (Kd.R_lower ho0 (bZ (by repeat (first|(with_reducible first|exact HB.out|apply bA|apply bN|apply bD)|exact HB.out))));have n1_:=mA (bT (by repeat (first|(with_reducible first|exact HB.out|apply bA|apply bN|apply bD)|exact HB.out)) hb);clear HB;have HO104:=n0_;have HB:=n1_;clear n0_ n1_;(try clear hb);(try clear hb2);(try clear hk);(try clear hi);(try clear ho0);obtain ⟨Ao9,co9,eo9⟩:=Kd.R_slice HO104.out;subst eo9;have p105:0≤(0:Int):=(by omega);have q105:0<(t102.length:Int):=of_decide_eq_true (by first|(with_reducible assumption)|assumption);obtain ⟨ad105,e105,hx105_0⟩:=Kd.at_int (rR HO104.out).2.2 0 p105 q105;cases e105;have qi105:(0<t102.length)=True:=eq_true (by omega);(try rw [show ((0:Int)).toNat=0 from rfl] at hx105_0);(try rw [Addr.add_zero'] at hx105_0);replace p105:=eq_true p105;replace q105:=eq_true q105))
   go_ret2
   exact ⟨by first|rfl|(simp [errW_none,errW_some]<;>rfl)|(simp [*, errW_none,errW_some]<;>rfl),by repeat (first|(with_reducible first|exact HB.out|apply bA|apply bN|apply bD)|exact HB.out)⟩
  ·rw [if_neg c6] at H
   exact absurd H (by simp)
 ·rw [if_neg c5] at H
  have c5b0:((t102.length:Int)==1)=false:=beq_eq_false_iff_ne.mpr c5
  have c5b1:((t102.length:Int) != 1)=true:=bne_iff_ne.mpr c5
  simp only [Option.some.injEq,Prod.mk.injEq] at H
  obtain ⟨rfl,rfl⟩:=H
  go_enter Try.func83,Try.ntmps83
  go_wp2_with (first|((with_reducible refine gate_callee (f:=60) rfl ?_);refine goesL_ (some 10) rfl rfl Try.func60 (by kernel_rfl) rfl #[.int .i64 a0,.slice A1 l1.length c1] rfl (by (try simp only [mT,mC,mN]);first|done|rfl|(simp only [lD,lT];rfl)) ?_;(with_reducible refine (spec_StoryTable.calls k a0 _ _ l1 t101 _ ?side1 ?side2 A3.out).mono ?_);(case side1=>repeat (first|exact HR1.out|(with_reducible refine cA ?_ _)|(with_reducible refine cN ?_ _)|(with_reducible refine cD ?_)));(case side2=>exact HC1.out);rintro e w10 ⟨rfl,hb⟩;refine ⟨_,rfl,?_⟩;have n0_:=mA (bT (by repeat (first|(with_reducible first|exact HB.out|apply bA|apply bN|apply bD)|exact HB.out)) hb);clear HB;have HB:=n0_;clear n0_;(try clear hb);(try clear hb2);(try clear hk);(try clear hi))|((with_reducible refine gate_callee (f:=134) rfl ?_);refine goesL_ (some 11) rfl rfl Try.func134 (by kernel_rfl) rfl #[.int .i64 a0,.int .i64 t101] rfl (by (try simp only [mT,mC,mN]);first|done|rfl|(simp only [lD,lT];rfl)) ?_;(with_reducible refine (spec_WorldsIn.calls k a0 t101 t102 _ A4.out).mono ?_);rintro e w11 ⟨v103,rfl,ho0,hb⟩;refine ⟨_,rfl,?_⟩;have n0_:=mA (Kd.R_lower ho0 (bZ (by repeat (first|(with_reducible first|exact HB.out|apply bA|apply bN|apply bD)|exact HB.out))));have n1_:=mA (bT (by repeat (first|(with_reducible first|exact HB.out|apply bA|apply bN|apply bD)|exact HB.out)) hb);clear HB;have HO104:=n0_;have HB:=n1_;clear n0_ n1_;(try clear hb);(try clear hb2);(try clear hk);(try clear hi);(try clear ho0);obtain ⟨Ao12,co12,eo12⟩:=Kd.R_slice HO104.out;subst eo12))
  go_ret2
  exact ⟨by first|rfl|(simp [errW_none,errW_some]<;>rfl)|(simp [*, errW_none,errW_some]<;>rfl),by repeat (first|(with_reducible first|exact HB.out|apply bA|apply bN|apply bD)|exact HB.out)⟩
end Go.Proofs.Ytpampekijfjlkab.X
/- Plain laws of the only world. -/
namespace Go.Proofs.Ytpampekijfjlkab.L
open Go.RowKit Go.Proofs.Ytpampekijfjlkab.X Go.Proofs.YtpampekijfjlkabW.PrintWords Go.Proofs.YtpampekijfjlkabW.PrintLast Go.Proofs.YtpampekijfjlkabW.PrintMore
open Go.Proofs.YtpampekijfjlkabW.PrintWords renaming Aside0.mk → mA, pw_below_drewN → bN, below_drew1 → bD, below_alloc → bA, below_size → bZ, below_step → bT, Kd.R_alloc → rA, Kd.R_drewN → rN, Kd.R_drew → rD, Kd.R_mono → rM, Kd.R_reads' → rR, Kd.R_lt → rL, Kd.R_below → rB, Kd.C_alloc → cA, Kd.C_drewN → cN, Kd.C_drew → cD
open List renaming length_take → lT, length_drop → lD, map_toArray → mT, map_cons → mC, map_nil → mN
noncomputable def storyT (p:Int) (l:List C):Int:=if sok p l=true then ((stab p l:Nat):Int) else -1
def onlyOf (l:List Int):Int×Bool:=if l.length=1 then (rd l 0,true) else (-1,false)
noncomputable def onlyW (p:Int) (l:List C):Int×Bool:=onlyOf (worldsIn p (storyT p l))
theorem impl_OnlyWorld_ev (p:Int) (l:List C) (hl:l.length≤4611686018427387904):Ev (fun k=>impl_OnlyWorld.f k p l) (onlyW p l):=by
 unfold impl_OnlyWorld.f
 refine Ev.bind (impl_StoryTable_ev p l hl) (Ev.bind (impl_WorldsIn_ev p _) ?_)
 show Ev (fun _=>if ((worldsIn p (storyT p l)).length:Int)=1 then _ else _) _
 unfold onlyW onlyOf
 by_cases h:(worldsIn p (storyT p l)).length=1
 ·exact Ev.yes (by omega) (Ev.yes (by show (0:Int)<((worldsIn p (storyT p l)).length:Int);omega) (Ev.cast (Ev.some _) (if_pos h).symm))
 ·exact Ev.no (by omega) (Ev.cast (Ev.some _) (if_neg h).symm)
theorem alive_eq':laws_alive.f=some true:=by decide +kernel
end Go.Proofs.Ytpampekijfjlkab.L
