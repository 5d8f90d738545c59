/- Joined by a program of this session's: X2, X3, X119. -/
import Derived.Test.YtpampekijfjlkabG44e43c9cff

namespace Go.Proofs.Ytpampekijfjlkab.X
open Go.RowKit Go.Proofs.YtpampekijfjlkabW.PrintWords Go.Proofs.YtpampekijfjlkabW.PrintLast Go.Proofs.YtpampekijfjlkabW.PrintMore
open Go.Proofs.YtpampekijfjlkabW.PrintWords renaming Aside0.mk → mA, pw_below_drewN → bN, below_drew1 → bD, below_alloc → bA, below_set → bS, blk_cell → kC, blk_frozen → kF, below_step → bT, Kd.R_alloc → rA, Kd.R_drewN → rN, Kd.R_drew → rD, Kd.R_mono → rM, Kd.R_reads' → rR, Kd.R_lt → rL, KeepBut.set_ → eS, keep_drewN → eN, keep_alloc → eA, keep_drew → eD
open List renaming length_take → lT, length_drop → lD, map_toArray → mT, map_cons → mC, map_nil → mN
attribute [local go_sem] max2_int min2_int max_two min_two max_three min_three max_four min_four   -- for this text's walks alone
set_option linter.unusedVariables false
set_option linter.unusedSimpArgs false
/-- A state of type 113 at block g of W; what its slices lead to came in by w0. -/
def IsS113 (w0 W:World) (g:Nat) (f0:List Int) (f1:Int):Prop:=∃ A0 c0,W.heap[g]?=some (.cells #[.slice A0 f0.length c0,.int .i64 f1] 113 (0,0))∧w0.heap.size≤g∧Kd.C (Kd.int .u8) w0 A0 f0.length f0
theorem IsS113.grown {w0 W:World} {g:Nat} {f0:List Int} {f1:Int} {W1:World} {row:Option Nat} (h:IsS113 w0 W g f0 f1) (hw:W.grownBy W1 row) (hne:some g≠row):IsS113 w0 W1 g f0 f1:=by
 obtain ⟨A0,c0,hb,hg,hr0⟩:=h
 exact ⟨A0,c0,blk_grown hb hw hne,hg,hr0⟩
theorem IsS113.own_neN {w0 W:World} {g:Nat} {f0:List Int} {f1:Int} {α:Type} {d:Kd α} {e:Nat} {base:Nat} {ok:Nat→Prop} {v:Value} {xs:List α} (h:IsS113 w0 W g f0 f1) (ho:Kd.N d e W base ok v xs) (ht:e≠113):some g≠v.ownBlock:=by
 obtain ⟨A0,c0,hb,hg,hr0⟩:=h
 exact Kd.N_ne ho hb ht
theorem IsS113.fresh {w0 W:World} {g:Nat} {f0:List Int} {f1:Int} (h:IsS113 w0 W g f0 f1) : ∀ k,W.heap.size≤k→k≠g:=by
 obtain ⟨A0,c0,hb,hg,hr0⟩:=h
 exact Kd.freshB hb
theorem IsS113.kept {w0 W:World} {g:Nat} {f0:List Int} {f1:Int} {W1:World} {S:Nat→Prop} (h:IsS113 w0 W g f0 f1) (hk:Kept W W1 S) (hne : ¬ S g):IsS113 w0 W1 g f0 f1:=by
 obtain ⟨A0,c0,hb,hg,hr0⟩:=h
 exact ⟨A0,c0,blk_kept hb hk hne,hg,hr0⟩
theorem IsS113.below {w0 W:World} {g:Nat} {f0:List Int} {f1:Int} {W1:World} (h:IsS113 w0 W g f0 f1) (hw:Below W.heap.size W W1):IsS113 w0 W1 g f0 f1:=h.grown (grown_of_below hw none) (by simp)
theorem IsS113.alloc {w0 W:World} {g:Nat} {f0:List Int} {f1:Int} (h:IsS113 w0 W g f0 f1) (o:Obj):IsS113 w0 (W.alloc o) g f0 f1:=h.below (below_alloc (Below.refl _ _) o)
theorem IsS113.drewN {w0 W:World} {g:Nat} {f0:List Int} {f1:Int} (h:IsS113 w0 W g f0 f1) (m:Nat):IsS113 w0 (W.drewN m) g f0 f1:=h
theorem IsS113.drew {w0 W:World} {g:Nat} {f0:List Int} {f1:Int} (h:IsS113 w0 W g f0 f1):IsS113 w0 W.drew g f0 f1:=h
theorem IsS113.at_ {w0 W:World} {g:Nat} {f0:List Int} {f1:Int} {w':World} {m:Nat} (hq:W.drewN m=w') (h:IsS113 w0 W g f0 f1):IsS113 w0 w' g f0 f1:=by subst hq;exact IsS113.drewN h m
theorem IsS113.apart {w0 W:World} {g:Nat} {f0:List Int} {f1:Int} {α:Type} {d:Kd α} {e:Nat} {base:Nat} {ok:Nat→Prop} {v:Value} {xs:List α} (h:IsS113 w0 W g f0 f1) (ho:d.R e W base ok v xs) (ht : ∀ q,q∈e :: d.E→q≠113):d.R e W base (fun k=>ok k∧k≠g) v xs:=by
 obtain ⟨A0,c0,hb,hg,hr0⟩:=h
 exact Kd.R_types ho hb ht
theorem IsS113.own_ne {w0 W:World} {g:Nat} {f0:List Int} {f1:Int} {α:Type} {d:Kd α} {e:Nat} {base:Nat} {ok:Nat→Prop} {v:Value} {xs:List α} (h:IsS113 w0 W g f0 f1) (ho:d.R e W base ok v xs) (ht:e≠113):some g≠v.ownBlock:=by
 obtain ⟨A0,c0,hb,hg,hr0⟩:=h
 exact Kd.R_ne ho hb ht
theorem IsS113.apartQ {w0 W:World} {g:Nat} {f0:List Int} {f1:Int} {α:Type} {d:Kd α} {e:Nat} {base:Nat} {ok:Nat→Prop} {v:Value} {xs:List α} (h:IsS113 w0 W g f0 f1) (ho:d.Q e W base ok v xs) (ht : ∀ q,q∈e :: d.E→q≠113):d.Q e W base (fun k=>ok k∧k≠g) v xs:=by
 obtain ⟨A0,c0,hb,hg,hr0⟩:=h
 exact Kd.Q_types ho hb ht
theorem IsS113.own_neQ {w0 W:World} {g:Nat} {f0:List Int} {f1:Int} {α:Type} {d:Kd α} {e:Nat} {base:Nat} {ok:Nat→Prop} {v:Value} {xs:List α} (h:IsS113 w0 W g f0 f1) (ho:d.Q e W base ok v xs) (ht:e≠113):some g≠v.ownBlock:=by
 obtain ⟨A0,c0,hb,hg,hr0⟩:=h
 exact Kd.Q_ne ho hb ht
theorem IsS113.apartS {w0 W:World} {g:Nat} {f0:List Int} {f1:Int} {α:Type} {d:Kd α} {e:Nat} {base:Nat} {ok:Nat→Prop} {v:Value} {xs:List α} (h:IsS113 w0 W g f0 f1) (ho:d.S e W base ok v xs) (ht : ∀ q,q∈e :: d.E→q≠113):d.S e W base (fun k=>ok k∧k≠g) v xs:=by
 obtain ⟨A0,c0,hb,hg,hr0⟩:=h
 exact Kd.S_types ho hb ht
theorem IsS113.own_neS {w0 W:World} {g:Nat} {f0:List Int} {f1:Int} {α:Type} {d:Kd α} {e:Nat} {base:Nat} {ok:Nat→Prop} {v:Value} {xs:List α} (h:IsS113 w0 W g f0 f1) (ho:d.S e W base ok v xs) (ht:e≠113):some g≠v.ownBlock:=by
 obtain ⟨A0,c0,hb,hg,hr0⟩:=h
 exact Kd.S_ne ho hb ht
theorem IsS113.lt {w0 W:World} {g:Nat} {f0:List Int} {f1:Int} (h:IsS113 w0 W g f0 f1):g<W.heap.size:=by
 obtain ⟨A0,c0,hb,hg,hr0⟩:=h
 exact blk_lt hb
theorem IsS113.ge {w0 W:World} {g:Nat} {f0:List Int} {f1:Int} (h:IsS113 w0 W g f0 f1):w0.heap.size≤g:=by
 obtain ⟨A0,c0,hb,hg,hr0⟩:=h
 exact hg
theorem IsS113.ne_blk {w0 W:World} {g:Nat} {f0:List Int} {f1:Int} {a:Nat} {cs:Array Value} {t:TypeId} {fr:Nat×Nat} (h:IsS113 w0 W g f0 f1) (hb2:W.heap[a]?=some (.cells cs t fr)) (ht:t≠113):g≠a:=by
 obtain ⟨A0,c0,hb,hg,hr0⟩:=h
 rintro rfl
 rw [hb] at hb2
 injection hb2 with hb2
 injection hb2 with _ ht2
 exact ht ht2.symm
theorem IsS113.far {w0 W:World} {g:Nat} {f0:List Int} {f1:Int} {p:Addr} (h:IsS113 w0 W g f0 f1) (hne:g≠p.block) (u:Value):IsS113 w0 (W.setCell p u) g f0 f1:=by
 obtain ⟨A0,c0,hb,hg,hr0⟩:=h
 exact ⟨A0,c0,blk_far hb hne u,hg,hr0⟩
theorem cellS113_0 {W:World} {g:Nat} {A0:Option Addr} {c0:Nat} {f0:List Int} {f1:Int} (h:W.heap[g]?=some (.cells #[.slice A0 f0.length c0,.int .i64 f1] 113 (0,0))):W.cell? ⟨g,0,none⟩=some (.slice A0 f0.length c0):=(blk_cell h 0).trans rfl
theorem cellS113_1 {W:World} {g:Nat} {A0:Option Addr} {c0:Nat} {f0:List Int} {f1:Int} (h:W.heap[g]?=some (.cells #[.slice A0 f0.length c0,.int .i64 f1] 113 (0,0))):W.cell? ⟨g,1,none⟩=some (.int .i64 f1):=(blk_cell h 1).trans rfl
theorem IsS113.set_1 {w0 W:World} {g:Nat} {f0:List Int} {f1:Int} (h:IsS113 w0 W g f0 f1) (x:Int):IsS113 w0 (W.setCell ⟨g,1,none⟩ (.int .i64 x)) g f0 x:=by
 obtain ⟨A0,c0,hb,hg,hr0⟩:=h
 exact ⟨A0,c0,by simpa using blk_set hb 1 (.int .i64 x),hg,hr0⟩
theorem IsS113.new (w0 W:World) (A0:Option Addr) (c0:Nat) (f0:List Int) (f1:Int) (hB:Below w0.heap.size w0 W) (hr0:Kd.C (Kd.int .u8) w0 A0 f0.length f0):IsS113 w0 (W.alloc (.cells #[.slice A0 f0.length c0,.int .i64 f1] 113)) W.heap.size f0 f1:=⟨A0,c0,by simpa using heap_alloc_new W _,hB.size,hr0⟩

/-! ### spec_l20Rd_pick: function 108 -/
def spec_l20Rd_pick.j0:Nat→Int→Bool→List Int→Int→Option (Int×Int)
 | 0,_,_,_,_=>none
 | k+1,x1,x24,x1000,x1001=>if x24=true then (some (0,x1001)) else (if (wrap64 (x1001-1))<(x1000.length:Int) then (if 0≤(wrap64 (x1001-1)) then (if x1=0 then (none) else (some (Int.tmod (wrap64 (rd x1000 (wrap64 (x1001-1)))) x1,x1001))) else (none)) else (if (x1000.length:Int)=0 then (none) else (if 0≤(Int.tmod (wrap64 (x1001-1)) (x1000.length:Int)) then (if (Int.tmod (wrap64 (x1001-1)) (x1000.length:Int))<(x1000.length:Int) then (if 0≤(Int.tmod (wrap64 ((wrap64 ((wrap64 (x1001-1))*7))+3)) (x1000.length:Int)) then (if (Int.tmod (wrap64 ((wrap64 ((wrap64 (x1001-1))*7))+3)) (x1000.length:Int))<(x1000.length:Int) then (if x1=0 then (none) else (some (Int.tmod (Go.bits .xor .i64 (wrap64 ((wrap64 ((wrap64 ((wrap64 ((wrap64 (rd x1000 (Int.tmod (wrap64 (x1001-1)) (x1000.length:Int))))*131))+(wrap64 ((wrap64 (rd x1000 (Int.tmod (wrap64 ((wrap64 ((wrap64 (x1001-1))*7))+3)) (x1000.length:Int))))*1117))))+(wrap64 ((wrap64 (x1001-1))*29))))+(wrap64 ((wrap64 (Int.tdiv (wrap64 (x1001-1)) (x1000.length:Int)))*53)))) (wrap64 (Int.tdiv (wrap64 ((wrap64 ((wrap64 ((wrap64 ((wrap64 (rd x1000 (Int.tmod (wrap64 (x1001-1)) (x1000.length:Int))))*131))+(wrap64 ((wrap64 (rd x1000 (Int.tmod (wrap64 ((wrap64 ((wrap64 (x1001-1))*7))+3)) (x1000.length:Int))))*1117))))+(wrap64 ((wrap64 (x1001-1))*29))))+(wrap64 ((wrap64 (Int.tdiv (wrap64 (x1001-1)) (x1000.length:Int)))*53)))) 64))) x1,x1001))) else (none)) else (none)) else (none)) else (none))))
def spec_l20Rd_pick.f (k:Nat) (s0_0:List Int) (s0_1:Int) (a1:Int):Option (Int×Int):=if a1<1 then (spec_l20Rd_pick.j0 k a1 true s0_0 (wrap64 (s0_1+1))) else (spec_l20Rd_pick.j0 k a1 ((s0_0.length:Int)==0) s0_0 (wrap64 (s0_1+1)))
theorem spec_l20Rd_pick.mono_l : ∀ k,(∀ y0 y1 y2 y3,LeO (spec_l20Rd_pick.j0 k y0 y1 y2 y3) (spec_l20Rd_pick.j0 (k+1) y0 y1 y2 y3))
 | 0=>fun _ _ _ _ r h=>by simp [spec_l20Rd_pick.j0] at h
 | k+1=>by
  have ih0:=spec_l20Rd_pick.mono_l k
  ·intro y0 y1 y2 y3
   unfold spec_l20Rd_pick.j0
   repeat' first
   | (with_reducible exact ih0 _ _ _ _)
   | (with_reducible exact LeO.refl _)
   | (with_reducible exact LeO.none _)
   | (with_reducible refine LeO.ite ?_ ?_)
   | (with_reducible refine LeO.bind ?_ (fun _=>?_))
   | exact ih0 _ _ _ _
   | exact LeO.none _
   | refine LeO.ite ?_ ?_
   | refine LeO.bind ?_ (fun _=>?_)
theorem spec_l20Rd_pick.mono : ∀ a0 a1 a2 k,LeO (spec_l20Rd_pick.f k a0 a1 a2) (spec_l20Rd_pick.f (k+1) a0 a1 a2):=by
 intro a0 a1 a2 k
 have ih0:=spec_l20Rd_pick.mono_l k
 unfold spec_l20Rd_pick.f
 repeat' first
   | (with_reducible exact ih0 _ _ _ _)
   | (with_reducible exact LeO.refl _)
   | (with_reducible exact LeO.none _)
   | (with_reducible refine LeO.ite ?_ ?_)
   | (with_reducible refine LeO.bind ?_ (fun _=>?_))
   | exact ih0 _ _ _ _
   | exact LeO.none _
   | refine LeO.ite ?_ ?_
   | refine LeO.bind ?_ (fun _=>?_)
set_option maxHeartbeats 8000000 in
set_option maxRecDepth 100000 in
theorem spec_l20Rd_pick.calls (k:Nat) (g:Nat) (s0_0:List Int) (s0_1:Int) (a1:Int) (r1:Int) (r2:Int) (w0 w:World) (hI:IsS113 w0 w g s0_0 s0_1) (hB:Below w0.heap.size w0 w) (h:spec_l20Rd_pick.f k s0_0 s0_1 a1=some (r1,r2)) :
  Calls Try.prog 108 #[.pointer (some ⟨g,0,none⟩),.int .i64 a1] w fun e w'=>e = .returned (.int .i64 r1)∧IsS113 w0 w' g s0_0 r2∧Below w0.heap.size w0 w'∧KeepBut w w' g none:=by
 have HI0:=mA hI
 have HK:=mA (KeepBut.refl w g none)
 have HL:=mA hB.size
 clear hI
 have HW0:=mA hB.size
 have HB:=mA hB
 clear hB
 have H:(if a1<1 then (spec_l20Rd_pick.j0 k a1 true s0_0 (wrap64 (s0_1+1))) else (spec_l20Rd_pick.j0 k a1 ((s0_0.length:Int)==0) s0_0 (wrap64 (s0_1+1))))=some (r1,r2):=h
 clear h
 have HC3:=mA H
 clear H
 obtain ⟨ASz4_0,cSz4_0,HGz4,hgz4,HSz4_0⟩:=HI0.out
 have hcz4_0:=cellS113_0 HGz4
 have hcz4_1:=cellS113_1 HGz4
 have hfz4_1:=kF HGz4 1
 clear HGz4 hgz4
 go_enter Try.func108,Try.ntmps108
 go_upto_region 2 with (fail)
 repeat (go_quiet (fail);go_upto_region 2 with (fail))
 go_cut [24] (fun v24 wc=>∃ (kq:Nat) (x24_2:Bool),v24 = .bool x24_2∧Aside0 (spec_l20Rd_pick.j0 kq a1 x24_2 s0_0 (wrap64 (s0_1+1))=some (r1,r2))∧Aside0 (kq≤k)∧Aside0 (IsS113 w0 wc g s0_0 (wrap64 (s0_1+1)))∧Aside0 (KeepBut w wc g none)∧Aside0 (Below w0.heap.size w0 wc))
 case first =>
  have H:=HC3.out
  clear HC3
  by_cases c5:a1<1
  ·rw [if_pos c5] at H
   have c5b0:decide (a1<1)=true:=decide_eq_true c5
   clear c5
   (first|rw [c5b0]|(simp only [i64_w,i32_w];rw [c5b0])|skip)
   have H':=mA H
   clear H
   go_wp2
   repeat (go_quiet (fail);try go_wp2)
   go_meet
   case rel=>exact ⟨_,(true),(by first|rfl|(simp;done)|(simp [*];done)),H',⟨by first|omega|exact Nat.le_refl _⟩,⟨by repeat (first|(with_reducible first|exact HI0.out|apply IsS113.alloc|apply IsS113.drewN|apply IsS113.drew|apply IsS113.set_1)|exact HI0.out)⟩,⟨by repeat (first|(with_reducible first|exact HK.out|apply eS|apply eN|apply eD|apply eA)|exact HK.out)⟩,⟨by repeat (first|(with_reducible first|exact HB.out|apply bA|apply bN|apply bD|refine bS ?_ (IsS113.ge HI0.out))|exact HB.out)⟩⟩
  ·rw [if_neg c5] at H
   have c5b0:decide (a1<1)=false:=decide_eq_false c5
   clear c5
   (first|rw [c5b0]|(simp only [i64_w,i32_w];rw [c5b0])|skip)
   have H':=mA H
   clear H
   obtain ⟨ASz6_0,cSz6_0,HGz6,hgz6,HSz6_0⟩:=HI0.out
   have hcz6_0:=cellS113_0 HGz6
   have hcz6_1:=cellS113_1 HGz6
   have hfz6_1:=kF HGz6 1
   clear HGz6 hgz6
   go_wp2
   repeat (go_quiet (fail);try go_wp2)
   go_meet
   case rel=>exact ⟨_,(((s0_0.length:Int)==0)),(by first|rfl|(simp;done)|(simp [*];done)),H',⟨by first|omega|exact Nat.le_refl _⟩,⟨by repeat (first|(with_reducible first|exact HI0.out|apply IsS113.alloc|apply IsS113.drewN|apply IsS113.drew|apply IsS113.set_1)|exact HI0.out)⟩,⟨by repeat (first|(with_reducible first|exact HK.out|apply eS|apply eN|apply eD|apply eA)|exact HK.out)⟩,⟨by repeat (first|(with_reducible first|exact HB.out|apply bA|apply bN|apply bD|refine bS ?_ (IsS113.ge HI0.out))|exact HB.out)⟩⟩
 case rest =>
  clear HC3
  try clear c1
  try clear p2
  try clear c5
  try clear c5b0
  try clear p6
  try clear hcz4_0
  try clear hcz4_1
  try clear hcz6_0
  try clear hcz6_1
  try clear hfz4_1
  try clear hfz6_1
  obtain ⟨kq,x24_2,rfl,HA,HJ2,HI0,HK,HB⟩:=hcut
  cases kq with
  | zero=>exact absurd HA.out (by simp [spec_l20Rd_pick.j0])
  | succ kj2 =>
   have H:=HA.out
   clear HA
   simp only [spec_l20Rd_pick.j0] at H
   by_cases c7:x24_2=true
   ·subst c7
    have H1:(some (0,(wrap64 (s0_1+1))))=some (r1,r2):=by rw [if_pos rfl] at H;exact H
    clear H
    have H:=H1
    clear H1
    simp only [Option.some.injEq,Prod.mk.injEq] at H
    obtain ⟨rfl,rfl⟩:=H
    go_wp2
    repeat (go_quiet (fail);try go_wp2)
    go_ret
    exact ⟨by first|rfl|(simp [errW_none,errW_some]<;>rfl)|(simp [*, errW_none,errW_some]<;>rfl),by repeat (first|(with_reducible first|exact HI0.out|apply IsS113.alloc|apply IsS113.drewN|apply IsS113.drew|apply IsS113.set_1)|exact HI0.out),by repeat (first|(with_reducible first|exact HB.out|apply bA|apply bN|apply bD|refine bS ?_ (IsS113.ge HI0.out))|exact HB.out),by repeat (first|(with_reducible first|exact HK.out|apply eS|apply eN|apply eD|apply eA)|exact HK.out)⟩
   ·replace c7:=Bool.eq_false_iff.mpr c7
    subst c7
    have H1:(if (wrap64 ((wrap64 (s0_1+1))-1))<(s0_0.length:Int) then (if 0≤(wrap64 ((wrap64 (s0_1+1))-1)) then (if a1=0 then (none) else (some (Int.tmod (wrap64 (rd s0_0 (wrap64 ((wrap64 (s0_1+1))-1)))) a1,(wrap64 (s0_1+1))))) else (none)) else (if (s0_0.length:Int)=0 then (none) else (if 0≤(Int.tmod (wrap64 ((wrap64 (s0_1+1))-1)) (s0_0.length:Int)) then (if (Int.tmod (wrap64 ((wrap64 (s0_1+1))-1)) (s0_0.length:Int))<(s0_0.length:Int) then (if 0≤(Int.tmod (wrap64 ((wrap64 ((wrap64 ((wrap64 (s0_1+1))-1))*7))+3)) (s0_0.length:Int)) then (if (Int.tmod (wrap64 ((wrap64 ((wrap64 ((wrap64 (s0_1+1))-1))*7))+3)) (s0_0.length:Int))<(s0_0.length:Int) then (if a1=0 then (none) else (some (Int.tmod (Go.bits .xor .i64 (wrap64 ((wrap64 ((wrap64 ((wrap64 ((wrap64 (rd s0_0 (Int.tmod (wrap64 ((wrap64 (s0_1+1))-1)) (s0_0.length:Int))))*131))+(wrap64 ((wrap64 (rd s0_0 (Int.tmod (wrap64 ((wrap64 ((wrap64 ((wrap64 (s0_1+1))-1))*7))+3)) (s0_0.length:Int))))*1117))))+(wrap64 ((wrap64 ((wrap64 (s0_1+1))-1))*29))))+(wrap64 ((wrap64 (Int.tdiv (wrap64 ((wrap64 (s0_1+1))-1)) (s0_0.length:Int)))*53)))) (wrap64 (Int.tdiv (wrap64 ((wrap64 ((wrap64 ((wrap64 ((wrap64 (rd s0_0 (Int.tmod (wrap64 ((wrap64 (s0_1+1))-1)) (s0_0.length:Int))))*131))+(wrap64 ((wrap64 (rd s0_0 (Int.tmod (wrap64 ((wrap64 ((wrap64 ((wrap64 (s0_1+1))-1))*7))+3)) (s0_0.length:Int))))*1117))))+(wrap64 ((wrap64 ((wrap64 (s0_1+1))-1))*29))))+(wrap64 ((wrap64 (Int.tdiv (wrap64 ((wrap64 (s0_1+1))-1)) (s0_0.length:Int)))*53)))) 64))) a1,(wrap64 (s0_1+1))))) else (none)) else (none)) else (none)) else (none))))=some (r1,r2):=by rw [if_neg (show ¬ (false=true) by decide)] at H;exact H
    clear H
    have H:=H1
    clear H1
    by_cases c8:(wrap64 ((wrap64 (s0_1+1))-1))<(s0_0.length:Int)
    ·rw [if_pos c8] at H
     have c8b0:decide ((wrap64 ((wrap64 (s0_1+1))-1))<(s0_0.length:Int))=true:=decide_eq_true c8
     clear c8
     obtain ⟨ji9,hji9⟩ : ∃ j_:Int,(wrap64 ((wrap64 (s0_1+1))-1))=j_:=⟨_,rfl⟩
     replace H:(if 0≤(ji9) then (if a1=0 then (none) else (some (Int.tmod (wrap64 (rd s0_0 (ji9))) a1,(wrap64 (s0_1+1))))) else (none))=some (r1,r2):=by first|(rw [hji9] at H;exact H)|(simp only [hji9] at H ⊢;exact H)
     (try rw [hji9] at c8b0)
     have hji9w:(IntKind.i64.wrap ((wrap64 (s0_1+1))-1))=ji9:=(i64_w _).trans hji9
     by_cases c10:0≤(ji9)
     ·rw [if_pos c10] at H
      have c10b0:decide (0≤(ji9))=true:=decide_eq_true c10
      clear c10
      by_cases c11:a1=0
      ·rw [if_pos c11] at H
       exact absurd H (by simp)
      ·rw [if_neg c11] at H
       have c11b0:(a1==0)=false:=beq_eq_false_iff_ne.mpr c11
       have c11b1:(a1 != 0)=true:=bne_iff_ne.mpr c11
       simp only [Option.some.injEq,Prod.mk.injEq] at H
       obtain ⟨rfl,rfl⟩:=H
       obtain ⟨ASz12_0,cSz12_0,HGz12,hgz12,HSz12_0⟩:=HI0.out
       have hcz12_0:=cellS113_0 HGz12
       have hcz12_1:=cellS113_1 HGz12
       have hfz12_1:=kF HGz12 1
       clear HGz12 hgz12
       have p101:0≤((ji9):Int):=of_decide_eq_true (by first|(with_reducible assumption)|assumption)
       have q101:(ji9)<(s0_0.length:Int):=of_decide_eq_true (by first|(with_reducible assumption)|assumption)
       obtain ⟨ad101,e101,hx101_0⟩:=Kd.at_int HSz12_0 (ji9) p101 q101
       cases e101
       replace hx101_0:=pw_cell_below HB.out hx101_0
       replace p101:=eq_true p101
       replace q101:=eq_true q101
       go_wp2
       repeat (go_quiet (fail);try go_wp2)
       go_ret
       exact ⟨by first|rfl|(simp [errW_none,errW_some]<;>rfl)|(simp only [←hji9];first|rfl|(simp [errW_none,errW_some]<;>rfl))|(simp [*, errW_none,errW_some]<;>rfl),by repeat (first|(with_reducible first|exact HI0.out|apply IsS113.alloc|apply IsS113.drewN|apply IsS113.drew|apply IsS113.set_1)|exact HI0.out),by repeat (first|(with_reducible first|exact HB.out|apply bA|apply bN|apply bD|refine bS ?_ (IsS113.ge HI0.out))|exact HB.out),by repeat (first|(with_reducible first|exact HK.out|apply eS|apply eN|apply eD|apply eA)|exact HK.out)⟩
     ·rw [if_neg c10] at H
      exact absurd H (by simp)
    ·rw [if_neg c8] at H
     have c8b0:decide ((wrap64 ((wrap64 (s0_1+1))-1))<(s0_0.length:Int))=false:=decide_eq_false c8
     clear c8
     by_cases c13:(s0_0.length:Int)=0
     ·rw [if_pos c13] at H
      exact absurd H (by simp)
     ·rw [if_neg c13] at H
      have c13b0:((s0_0.length:Int)==0)=false:=beq_eq_false_iff_ne.mpr c13
      have c13b1:((s0_0.length:Int) != 0)=true:=bne_iff_ne.mpr c13
      have c13b2 : ¬ (s0_0=[]):=fun h_=>c13 (by rw [h_];rfl)
      obtain ⟨ji14,hji14⟩ : ∃ j_:Int,(Int.tmod (wrap64 ((wrap64 (s0_1+1))-1)) (s0_0.length:Int))=j_:=⟨_,rfl⟩
      replace H:(if 0≤(ji14) then (if (ji14)<(s0_0.length:Int) then (if 0≤(Int.tmod (wrap64 ((wrap64 ((wrap64 ((wrap64 (s0_1+1))-1))*7))+3)) (s0_0.length:Int)) then (if (Int.tmod (wrap64 ((wrap64 ((wrap64 ((wrap64 (s0_1+1))-1))*7))+3)) (s0_0.length:Int))<(s0_0.length:Int) then (if a1=0 then (none) else (some (Int.tmod (Go.bits .xor .i64 (wrap64 ((wrap64 ((wrap64 ((wrap64 ((wrap64 (rd s0_0 (ji14)))*131))+(wrap64 ((wrap64 (rd s0_0 (Int.tmod (wrap64 ((wrap64 ((wrap64 ((wrap64 (s0_1+1))-1))*7))+3)) (s0_0.length:Int))))*1117))))+(wrap64 ((wrap64 ((wrap64 (s0_1+1))-1))*29))))+(wrap64 ((wrap64 (Int.tdiv (wrap64 ((wrap64 (s0_1+1))-1)) (s0_0.length:Int)))*53)))) (wrap64 (Int.tdiv (wrap64 ((wrap64 ((wrap64 ((wrap64 ((wrap64 (rd s0_0 (ji14)))*131))+(wrap64 ((wrap64 (rd s0_0 (Int.tmod (wrap64 ((wrap64 ((wrap64 ((wrap64 (s0_1+1))-1))*7))+3)) (s0_0.length:Int))))*1117))))+(wrap64 ((wrap64 ((wrap64 (s0_1+1))-1))*29))))+(wrap64 ((wrap64 (Int.tdiv (wrap64 ((wrap64 (s0_1+1))-1)) (s0_0.length:Int)))*53)))) 64))) a1,(wrap64 (s0_1+1))))) else (none)) else (none)) else (none)) else (none))=some (r1,r2):=by first|(rw [hji14] at H;exact H)|(simp only [hji14] at H ⊢;exact H)
      by_cases c15:0≤(ji14)
      ·rw [if_pos c15] at H
       have c15b0:decide (0≤(ji14))=true:=decide_eq_true c15
       clear c15
       by_cases c16:(ji14)<(s0_0.length:Int)
       ·rw [if_pos c16] at H
        have c16b0:decide ((ji14)<(s0_0.length:Int))=true:=decide_eq_true c16
        clear c16
        obtain ⟨ji17,hji17⟩ : ∃ j_:Int,(Int.tmod (wrap64 ((wrap64 ((wrap64 ((wrap64 (s0_1+1))-1))*7))+3)) (s0_0.length:Int))=j_:=⟨_,rfl⟩
        replace H:(if 0≤(ji17) then (if (ji17)<(s0_0.length:Int) then (if a1=0 then (none) else (some (Int.tmod (Go.bits .xor .i64 (wrap64 ((wrap64 ((wrap64 ((wrap64 ((wrap64 (rd s0_0 (ji14)))*131))+(wrap64 ((wrap64 (rd s0_0 (ji17)))*1117))))+(wrap64 ((wrap64 ((wrap64 (s0_1+1))-1))*29))))+(wrap64 ((wrap64 (Int.tdiv (wrap64 ((wrap64 (s0_1+1))-1)) (s0_0.length:Int)))*53)))) (wrap64 (Int.tdiv (wrap64 ((wrap64 ((wrap64 ((wrap64 ((wrap64 (rd s0_0 (ji14)))*131))+(wrap64 ((wrap64 (rd s0_0 (ji17)))*1117))))+(wrap64 ((wrap64 ((wrap64 (s0_1+1))-1))*29))))+(wrap64 ((wrap64 (Int.tdiv (wrap64 ((wrap64 (s0_1+1))-1)) (s0_0.length:Int)))*53)))) 64))) a1,(wrap64 (s0_1+1))))) else (none)) else (none))=some (r1,r2):=by first|(rw [hji17] at H;exact H)|(simp only [hji17] at H ⊢;exact H)
        by_cases c18:0≤(ji17)
        ·rw [if_pos c18] at H
         have c18b0:decide (0≤(ji17))=true:=decide_eq_true c18
         clear c18
         by_cases c19:(ji17)<(s0_0.length:Int)
         ·rw [if_pos c19] at H
          have c19b0:decide ((ji17)<(s0_0.length:Int))=true:=decide_eq_true c19
          clear c19
          by_cases c20:a1=0
          ·rw [if_pos c20] at H
           exact absurd H (by simp)
          ·rw [if_neg c20] at H
           have c20b0:(a1==0)=false:=beq_eq_false_iff_ne.mpr c20
           have c20b1:(a1 != 0)=true:=bne_iff_ne.mpr c20
           simp only [Option.some.injEq,Prod.mk.injEq] at H
           obtain ⟨rfl,rfl⟩:=H
           obtain ⟨ASz21_0,cSz21_0,HGz21,hgz21,HSz21_0⟩:=HI0.out
           have hcz21_0:=cellS113_0 HGz21
           have hcz21_1:=cellS113_1 HGz21
           have hfz21_1:=kF HGz21 1
           clear HGz21 hgz21
           have p102:0≤((ji14):Int):=of_decide_eq_true (by first|(with_reducible assumption)|assumption)
           have q102:(ji14)<(s0_0.length:Int):=of_decide_eq_true (by first|(with_reducible assumption)|assumption)
           obtain ⟨ad102,e102,hx102_0⟩:=Kd.at_int HSz21_0 (ji14) p102 q102
           cases e102
           replace hx102_0:=pw_cell_below HB.out hx102_0
           replace p102:=eq_true p102
           replace q102:=eq_true q102
           have p103:0≤((ji17):Int):=of_decide_eq_true (by first|(with_reducible assumption)|assumption)
           have q103:(ji17)<(s0_0.length:Int):=of_decide_eq_true (by first|(with_reducible assumption)|assumption)
           obtain ⟨ad103,e103,hx103_0⟩:=Kd.at_int HSz21_0 (ji17) p103 q103
           obtain rfl:ad102=ad103:=(by injection e103)
           replace hx103_0:=pw_cell_below HB.out hx103_0
           replace p103:=eq_true p103
           replace q103:=eq_true q103
           go_wp2
           repeat (go_quiet (fail);try go_wp2)
           go_ret
           exact ⟨by first|rfl|(simp [errW_none,errW_some]<;>rfl)|(simp only [←hji14, ←hji17];first|rfl|(simp [errW_none,errW_some]<;>rfl))|(simp [*, errW_none,errW_some]<;>rfl),by repeat (first|(with_reducible first|exact HI0.out|apply IsS113.alloc|apply IsS113.drewN|apply IsS113.drew|apply IsS113.set_1)|exact HI0.out),by repeat (first|(with_reducible first|exact HB.out|apply bA|apply bN|apply bD|refine bS ?_ (IsS113.ge HI0.out))|exact HB.out),by repeat (first|(with_reducible first|exact HK.out|apply eS|apply eN|apply eD|apply eA)|exact HK.out)⟩
         ·rw [if_neg c19] at H
          exact absurd H (by simp)
        ·rw [if_neg c18] at H
         exact absurd H (by simp)
       ·rw [if_neg c16] at H
        exact absurd H (by simp)
      ·rw [if_neg c15] at H
       exact absurd H (by simp)
/-! ### spec_l20Rd_odd: function 139 -/
def spec_l20Rd_odd.f (k:Nat) (s0_0:List Int) (s0_1:Int) (a1:Int):Option (Bool×Int):=if a1>0 then ((spec_l20Rd_pick.f k s0_0 s0_1 a1).bind fun bt101=>(some ((bt101.1==(wrap64 (a1-1))),bt101.2))) else (some (false,s0_1))
theorem spec_l20Rd_odd.mono : ∀ a0 a1 a2 k,LeO (spec_l20Rd_odd.f k a0 a1 a2) (spec_l20Rd_odd.f (k+1) a0 a1 a2):=by
 intro a0 a1 a2 k
 unfold spec_l20Rd_odd.f
 repeat' first
   | (with_reducible exact spec_l20Rd_pick.mono _ _ _ _)
   | (with_reducible exact LeO.refl _)
   | (with_reducible exact LeO.none _)
   | (with_reducible refine LeO.ite ?_ ?_)
   | (with_reducible refine LeO.bind ?_ (fun _=>?_))
   | exact spec_l20Rd_pick.mono _ _ _ _
   | exact LeO.none _
   | refine LeO.ite ?_ ?_
   | refine LeO.bind ?_ (fun _=>?_)
set_option maxHeartbeats 8000000 in
set_option maxRecDepth 100000 in
theorem spec_l20Rd_odd.calls (k:Nat) (g:Nat) (s0_0:List Int) (s0_1:Int) (a1:Int) (r1:Bool) (r2:Int) (w0 w:World) (hI:IsS113 w0 w g s0_0 s0_1) (hB:Below w0.heap.size w0 w) (h:spec_l20Rd_odd.f k s0_0 s0_1 a1=some (r1,r2)) :
  Calls Try.prog 139 #[.pointer (some ⟨g,0,none⟩),.int .i64 a1] w fun e w'=>e = .returned (.bool r1)∧IsS113 w0 w' g s0_0 r2∧Below w0.heap.size w0 w'∧KeepBut w w' g none:=by
 have HI0:=mA hI
 have HK:=mA (KeepBut.refl w g none)
 have HL:=mA hB.size
 clear hI
 have HW0:=mA hB.size
 have HB:=mA hB
 clear hB
 have H:(if a1>0 then ((spec_l20Rd_pick.f k s0_0 s0_1 a1).bind fun bt101=>(some ((bt101.1==(wrap64 (a1-1))),bt101.2))) else (some (false,s0_1)))=some (r1,r2):=h
 clear h
 by_cases c3:a1>0
 ·rw [if_pos c3] at H
  have c3b0:decide (0<a1)=true:=decide_eq_true c3
  clear c3
  replace H:=Option.bind_eq_some_iff.mp H
  obtain ⟨⟨t101,t102⟩,A40,H⟩:=H
  replace H:(some ((t101==(wrap64 (a1-1))),t102))=some (r1,r2):=H
  have A4:=mA A40
  clear A40
  simp only [Option.some.injEq,Prod.mk.injEq] at H
  obtain ⟨rfl,rfl⟩:=H
  go_enter Try.func139,Try.ntmps139
  go_wp2_with (first|(go_at_call 108;(with_reducible refine (spec_l20Rd_pick.calls k g s0_0 s0_1 a1 t101 t102 w0 _ ?side1 ?side2 A4.out).mono ?_);(case side1=>repeat (first|(with_reducible first|exact HI0.out|apply IsS113.alloc|apply IsS113.drewN|apply IsS113.drew|apply IsS113.set_1)|exact HI0.out));(case side2=>repeat (first|(with_reducible first|exact HB.out|apply bA|apply bN|apply bD|refine bS ?_ (IsS113.ge HI0.out))|exact HB.out));rintro e w5 ⟨rfl,hi,hb,hk⟩;have n0_:=mA (KeepBut.trans (by repeat (first|(with_reducible first|exact HK.out|apply eS|apply eN|apply eD|apply eA)|exact HK.out)) hk (.inl rfl));have n1_:=mA (hb);have n2_:=mA (hi);clear HK HB HI0;have HK:=n0_;have HB:=n1_;have HI0:=n2_;clear n0_ n1_ n2_;(try clear hb);(try clear hb2);(try clear hk);(try clear hi)))
  go_ret
  exact ⟨by first|rfl|(simp [errW_none,errW_some]<;>rfl)|(simp [*, errW_none,errW_some]<;>rfl),by repeat (first|(with_reducible first|exact HI0.out|apply IsS113.alloc|apply IsS113.drewN|apply IsS113.drew|apply IsS113.set_1)|exact HI0.out),by repeat (first|(with_reducible first|exact HB.out|apply bA|apply bN|apply bD|refine bS ?_ (IsS113.ge HI0.out))|exact HB.out),by repeat (first|(with_reducible first|exact HK.out|apply eS|apply eN|apply eD|apply eA)|exact HK.out)⟩
 ·rw [if_neg c3] at H
  have c3b0:decide (0<a1)=false:=decide_eq_false c3
  clear c3
  simp only [Option.some.injEq,Prod.mk.injEq] at H
  obtain ⟨rfl,rfl⟩:=H
  go_enter Try.func139,Try.ntmps139
  go_wp2
  go_ret
  exact ⟨by first|rfl|(simp [errW_none,errW_some]<;>rfl)|(simp [*, errW_none,errW_some]<;>rfl),by repeat (first|(with_reducible first|exact HI0.out|apply IsS113.alloc|apply IsS113.drewN|apply IsS113.drew|apply IsS113.set_1)|exact HI0.out),by repeat (first|(with_reducible first|exact HB.out|apply bA|apply bN|apply bD|refine bS ?_ (IsS113.ge HI0.out))|exact HB.out),by repeat (first|(with_reducible first|exact HK.out|apply eS|apply eN|apply eD|apply eA)|exact HK.out)⟩
/-! ### spec_l20Kinds: function 133 -/
def spec_l20Kinds.l0:Nat→Int→Int→List Int→Int→List Int→Int→Option (List Int×Int)
 | 0,_,_,_,_,_,_=>none
 | k+1,x1,x2,x7,x8,x1000,x1001=>if x8<x1 then ((some (([0,1,0,1,2]:List Int):List Int)).bind fun y104=>((spec_l20Rd_pick.f k x1000 x1001 5).bind fun bt107=>(if 0≤bt107.1 then (if bt107.1<(y104.length:Int) then (if x7.length<17592186044416 then (spec_l20Kinds.l0 k x1 x2 (x7++[rd y104 bt107.1]) (wrap64 (x8+1)) x1000 bt107.2) else (none)) else (none)) else (none)))) else ((spec_l20Rd_odd.f k x1000 x1001 x2).bind fun bt113=>(if bt113.1=true then ((spec_l20Rd_pick.f k x1000 bt113.2 2).bind fun bt115=>(if bt115.1=0 then (some ((([]:List Int)),bt115.2)) else (if x7.length<17592186044416 then (some ((x7++[3]),bt115.2)) else (none)))) else (some (x7,bt113.2))))
def spec_l20Kinds.f (k:Nat) (s0_0:List Int) (s0_1:Int) (a1:Int) (a2:Int):Option (List Int×Int):=spec_l20Kinds.l0 k a1 a2 (([]:List Int)) 0 s0_0 s0_1
theorem spec_l20Kinds.mono_l : ∀ k,(∀ y0 y1 y2 y3 y4 y5,LeO (spec_l20Kinds.l0 k y0 y1 y2 y3 y4 y5) (spec_l20Kinds.l0 (k+1) y0 y1 y2 y3 y4 y5))
 | 0=>fun _ _ _ _ _ _ r h=>by simp [spec_l20Kinds.l0] at h
 | k+1=>by
  have ih0:=spec_l20Kinds.mono_l k
  ·intro y0 y1 y2 y3 y4 y5
   unfold spec_l20Kinds.l0
   repeat' first
   | (with_reducible exact ih0 _ _ _ _ _ _)
   | (with_reducible exact spec_l20Rd_odd.mono _ _ _ _)
   | (with_reducible exact spec_l20Rd_pick.mono _ _ _ _)
   | (with_reducible exact LeO.refl _)
   | (with_reducible exact LeO.none _)
   | (with_reducible refine LeO.ite ?_ ?_)
   | (with_reducible refine LeO.bind ?_ (fun _=>?_))
   | exact ih0 _ _ _ _ _ _
   | exact spec_l20Rd_odd.mono _ _ _ _
   | exact spec_l20Rd_pick.mono _ _ _ _
   | exact LeO.none _
   | refine LeO.ite ?_ ?_
   | refine LeO.bind ?_ (fun _=>?_)
theorem spec_l20Kinds.mono : ∀ a0 a1 a2 a3 k,LeO (spec_l20Kinds.f k a0 a1 a2 a3) (spec_l20Kinds.f (k+1) a0 a1 a2 a3):=by
 intro a0 a1 a2 a3 k
 have ih0:=spec_l20Kinds.mono_l k
 unfold spec_l20Kinds.f
 repeat' first
   | (with_reducible exact ih0 _ _ _ _ _ _)
   | (with_reducible exact spec_l20Rd_odd.mono _ _ _ _)
   | (with_reducible exact spec_l20Rd_pick.mono _ _ _ _)
   | (with_reducible exact LeO.refl _)
   | (with_reducible exact LeO.none _)
   | (with_reducible refine LeO.ite ?_ ?_)
   | (with_reducible refine LeO.bind ?_ (fun _=>?_))
   | exact ih0 _ _ _ _ _ _
   | exact spec_l20Rd_odd.mono _ _ _ _
   | exact spec_l20Rd_pick.mono _ _ _ _
   | exact LeO.none _
   | refine LeO.ite ?_ ?_
   | refine LeO.bind ?_ (fun _=>?_)
set_option maxHeartbeats 8000000 in
set_option maxRecDepth 100000 in
theorem spec_l20Kinds.calls (k:Nat) (g:Nat) (s0_0:List Int) (s0_1:Int) (a1:Int) (a2:Int) (r1:List Int) (r2:Int) (w0 w:World) (hI:IsS113 w0 w g s0_0 s0_1) (hB:Below w0.heap.size w0 w) (h:spec_l20Kinds.f k s0_0 s0_1 a1 a2=some (r1,r2)) :
  Calls Try.prog 133 #[.pointer (some ⟨g,0,none⟩),.int .i64 a1,.int .i64 a2] w fun e w'=>∃ v0_:Value,e = .returned (v0_)∧Kd.R (Kd.int .i64) 3 w' w.heap.size (fun _=>True) v0_ r1∧IsS113 w0 w' g s0_0 r2∧Below w0.heap.size w0 w'∧KeepBut w w' g none:=by
 have HI0:=mA hI
 have HK:=mA (KeepBut.refl w g none)
 have HL:=mA hB.size
 clear hI
 have HW0:=mA hB.size
 have HB:=mA hB
 clear hB
 have H:(spec_l20Kinds.l0 k a1 a2 (([]:List Int)) 0 s0_0 s0_1)=some (r1,r2):=h
 clear h
 obtain ⟨y101,hy101⟩ : ∃ y_:List Int,y_=(([]:List Int)):=⟨_,rfl⟩
 replace H:(spec_l20Kinds.l0 k a1 a2 y101 0 s0_0 s0_1)=some (r1,r2):=by first|(rw [hy101];with_reducible exact H)|(have H2_:=(Option.bind_some _ _).symm.trans H;rw [hy101];with_reducible exact H2_)|(have H2_:=(Option.bind_some _ _).symm.trans H;with_reducible exact H2_)|with_reducible exact H|(rw [hy101];exact H)|exact H
 have Ny101:=mA hy101
 clear hy101
 have H':=mA H
 clear H
 go_enter Try.func133,Try.ntmps133
 go_wp2_with (first|((with_reducible refine gate_dst (N:=9) rfl ?_);refine Kd.R_lit (Kd.int .i64) _ 3 ?hg (N:=9) ?hd (xs:=([]:List Int)) (inner:=[]) (ok:=fun _=>True) (okp:=fun _=>True) ?hr ?hp (fun _ hk=>hk) trivial (Below.refl _ _) (Nat.le_refl _) (by simp) ?_;(case hd=>rfl);(case hg=>rfl);(case hr=>first|(go_simp;done)|(go_simp;rfl));(case hp=>exact (Reps.none _ _));intro v102 w4 ho5 hb hg_ hnew_;clear hg_ hnew_;(first|rw [←Ny101.out] at ho5|(simp only [Int.reduceToNat] at ho5;rw [←Ny101.out] at ho5));have n0_:=mA (Kd.R_lower ho5 (keep_size (w:=w) (g:=g) (row:=none) (by repeat (first|(with_reducible first|exact HK.out|apply eS|apply eN|apply eD|apply eA)|exact HK.out))));have n1_:=mA (IsS113.below (by repeat (first|(with_reducible first|exact HI0.out|apply IsS113.alloc|apply IsS113.drewN|apply IsS113.drew|apply IsS113.set_1)|exact HI0.out)) hb);have n2_:=mA (KeepBut.trans (by repeat (first|(with_reducible first|exact HK.out|apply eS|apply eN|apply eD|apply eA)|exact HK.out)) (KeepBut.of_below hb g none) (.inl rfl));have n3_:=mA (bT (by repeat (first|(with_reducible first|exact HB.out|apply bA|apply bN|apply bD|refine bS ?_ (IsS113.ge HI0.out))|exact HB.out)) hb);clear HI0 HK HB;have HO103:=n0_;have HI0:=n1_;have HK:=n2_;have HB:=n3_;clear n0_ n1_ n2_ n3_ hb ho5))
 go_loopg [7,8] k (fun kq v7 v8 w'=>∃ (x7_1:List Int) (x8_1:Int) (x1001_1:Int),v8 = .int .i64 x8_1∧Aside0 (spec_l20Kinds.l0 kq a1 a2 x7_1 x8_1 s0_0 x1001_1=some (r1,r2))∧Aside0 (kq≤k)∧Aside0 (Kd.R (Kd.int .i64) 3 w' w.heap.size (fun _=>True) v7 x7_1)∧Aside0 (IsS113 w0 w' g s0_0 x1001_1)∧Aside0 (KeepBut w w' g none)∧Aside0 (Below w0.heap.size w0 w'))
 case atStart=>exact ⟨(y101),(0),(s0_1),(by first|rfl|(simp;done)|(simp [*];done)),H',⟨Nat.le_refl _⟩,⟨by (with_reducible repeat (first|apply rA|apply rN|apply rD));exact HO103.out⟩,⟨by repeat (first|(with_reducible first|exact HI0.out|apply IsS113.alloc|apply IsS113.drewN|apply IsS113.drew|apply IsS113.set_1)|exact HI0.out)⟩,⟨by repeat (first|(with_reducible first|exact HK.out|apply eS|apply eN|apply eD|apply eA)|exact HK.out)⟩,⟨by repeat (first|(with_reducible first|exact HB.out|apply bA|apply bN|apply bD|refine bS ?_ (IsS113.ge HI0.out))|exact HB.out)⟩⟩
 case round =>
  clear H'
  try clear c1
  try clear p2
  obtain ⟨x7_1,x8_1,x1001_1,rfl,HA,HK1,HO_7,HI0,HK,HB⟩:=hrel
  cases gk with
  | zero=>exact absurd HA.out (by simp [spec_l20Kinds.l0])
  | succ k1 =>
   have H:=HA.out
   clear HA
   simp only [spec_l20Kinds.l0] at H
   by_cases c6:x8_1<a1
   ·rw [if_pos c6] at H
    have c6b0:decide (x8_1<a1)=true:=decide_eq_true c6
    clear c6
    obtain ⟨y104,hy104⟩ : ∃ y_:List Int,y_=(([0,1,0,1,2]:List Int)):=⟨_,rfl⟩
    replace H:((spec_l20Rd_pick.f k1 s0_0 x1001_1 5).bind fun bt107=>(if 0≤bt107.1 then (if bt107.1<(y104.length:Int) then (if x7_1.length<17592186044416 then (spec_l20Kinds.l0 k1 a1 a2 (x7_1++[rd y104 bt107.1]) (wrap64 (x8_1+1)) s0_0 bt107.2) else (none)) else (none)) else (none)))=some (r1,r2):=by first|(rw [hy104];with_reducible exact H)|(have H2_:=(Option.bind_some _ _).symm.trans H;rw [hy104];with_reducible exact H2_)|(have H2_:=(Option.bind_some _ _).symm.trans H;with_reducible exact H2_)|with_reducible exact H|(rw [hy104];exact H)|exact H
    have Ny104:=mA hy104
    clear hy104
    replace H:=Option.bind_eq_some_iff.mp H
    obtain ⟨⟨t107,t108⟩,A70,H⟩:=H
    replace H:(if 0≤t107 then (if t107<(y104.length:Int) then (if x7_1.length<17592186044416 then (spec_l20Kinds.l0 k1 a1 a2 (x7_1++[rd y104 t107]) (wrap64 (x8_1+1)) s0_0 t108) else (none)) else (none)) else (none))=some (r1,r2):=H
    have A7:=mA A70
    clear A70
    by_cases c8:0≤t107
    ·rw [if_pos c8] at H
     have c8b0:decide (0≤t107)=true:=decide_eq_true c8
     clear c8
     by_cases c9:t107<(y104.length:Int)
     ·rw [if_pos c9] at H
      have c9b0:decide (t107<(y104.length:Int))=true:=decide_eq_true c9
      clear c9
      by_cases c10:x7_1.length<17592186044416
      ·rw [if_pos c10] at H
       have LMc10:=mA c10
       clear c10
       obtain ⟨y110,hy110⟩ : ∃ y_:List Int,y_=(x7_1++[rd y104 t107]):=⟨_,rfl⟩
       replace H:(spec_l20Kinds.l0 k1 a1 a2 y110 (wrap64 (x8_1+1)) s0_0 t108)=some (r1,r2):=by first|(rw [hy110];with_reducible exact H)|(have H2_:=(Option.bind_some _ _).symm.trans H;rw [hy110];with_reducible exact H2_)|(have H2_:=(Option.bind_some _ _).symm.trans H;with_reducible exact H2_)|with_reducible exact H|(rw [hy110];exact H)|exact H
       have Ny110:=mA hy110
       clear hy110
       have H':=mA H
       clear H
       go_wp2_with (first|((with_reducible refine gate_dst (N:=16) rfl ?_);refine Kd.R_lit (Kd.int .i64) _ 3 ?hg (N:=16) ?hd (xs:=([0,1,0,1,2]:List Int)) (inner:=[.int .i64 0,.int .i64 1,.int .i64 0,.int .i64 1,.int .i64 2]) (ok:=fun _=>True) (okp:=fun _=>True) ?hr ?hp (fun _ hk=>hk) trivial (Below.refl _ _) (Nat.le_refl _) (by simp) ?_;(case hd=>rfl);(case hg=>rfl);(case hr=>first|(go_simp;done)|(go_simp;rfl));(case hp=>exact (Reps.one (show Kd.M (Kd.int .i64) _ _ _ 0 [.int .i64 0] from rfl) (Reps.one (show Kd.M (Kd.int .i64) _ _ _ 1 [.int .i64 1] from rfl) (Reps.one (show Kd.M (Kd.int .i64) _ _ _ 0 [.int .i64 0] from rfl) (Reps.one (show Kd.M (Kd.int .i64) _ _ _ 1 [.int .i64 1] from rfl) (Reps.one (show Kd.M (Kd.int .i64) _ _ _ 2 [.int .i64 2] from rfl) (Reps.none _ _)))))));intro v105 w11 ho12 hb hg_ hnew_;clear hg_ hnew_;(first|rw [←Ny104.out] at ho12|(simp only [Int.reduceToNat] at ho12;rw [←Ny104.out] at ho12));have n0_:=mA (Kd.R_elder' (by (with_reducible repeat (first|apply rA|apply rN|apply rD));exact HO_7.out) (Kd.R_base ho12) hb);have n1_:=mA (Kd.R_lower (Kd.R_new' ho12 (rL (by (with_reducible repeat (first|apply rA|apply rN|apply rD));exact HO_7.out))) (keep_size (w:=w) (g:=g) (row:=none) (by repeat (first|(with_reducible first|exact HK.out|apply eS|apply eN|apply eD|apply eA)|exact HK.out))));have n2_:=mA (IsS113.below (by repeat (first|(with_reducible first|exact HI0.out|apply IsS113.alloc|apply IsS113.drewN|apply IsS113.drew|apply IsS113.set_1)|exact HI0.out)) hb);have n3_:=mA (KeepBut.trans (by repeat (first|(with_reducible first|exact HK.out|apply eS|apply eN|apply eD|apply eA)|exact HK.out)) (KeepBut.of_below hb g none) (.inl rfl));have n4_:=mA (bT (by repeat (first|(with_reducible first|exact HB.out|apply bA|apply bN|apply bD|refine bS ?_ (IsS113.ge HI0.out))|exact HB.out)) hb);clear HO_7 HI0 HK HB;have HO_7:=n0_;have HO106:=n1_;have HI0:=n2_;have HK:=n3_;have HB:=n4_;clear n0_ n1_ n2_ n3_ n4_ hb ho12)|((with_reducible refine gate_callee (f:=108) rfl ?_);refine goesL_ (some 18) rfl rfl Try.func108 (by kernel_rfl) rfl #[.pointer (some ⟨g,0,none⟩),.int .i64 5] rfl (by (try simp only [mT,mC,mN]);first|done|rfl|(simp only [lD,lT];rfl)) ?_;(with_reducible refine (spec_l20Rd_pick.calls k1 g s0_0 x1001_1 5 t107 t108 w0 _ ?side1 ?side2 A7.out).mono ?_);(case side1=>repeat (first|(with_reducible first|exact HI0.out|apply IsS113.alloc|apply IsS113.drewN|apply IsS113.drew|apply IsS113.set_1)|exact HI0.out));(case side2=>repeat (first|(with_reducible first|exact HB.out|apply bA|apply bN|apply bD|refine bS ?_ (IsS113.ge HI0.out))|exact HB.out));rintro e w13 ⟨rfl,hi,hb,hk⟩;refine ⟨_,rfl,?_⟩;have n0_:=mA (rM (Kd.R_keep (IsS113.apart (show IsS113 w0 _ g s0_0 x1001_1 from by repeat (first|(with_reducible first|exact HI0.out|apply IsS113.alloc|apply IsS113.drewN|apply IsS113.drew|apply IsS113.set_1)|exact HI0.out)) (by (with_reducible repeat (first|apply rA|apply rN|apply rD));exact HO_7.out) (by decide)) hk (fun _ h=>h.2)) (fun _ h=>h.1));have n1_:=mA (rM (Kd.R_keep (IsS113.apart (show IsS113 w0 _ g s0_0 x1001_1 from by repeat (first|(with_reducible first|exact HI0.out|apply IsS113.alloc|apply IsS113.drewN|apply IsS113.drew|apply IsS113.set_1)|exact HI0.out)) (by (with_reducible repeat (first|apply rA|apply rN|apply rD));exact HO106.out) (by decide)) hk (fun _ h=>h.2)) (fun _ h=>h.1));have n2_:=mA (KeepBut.trans (by repeat (first|(with_reducible first|exact HK.out|apply eS|apply eN|apply eD|apply eA)|exact HK.out)) hk (.inl rfl));have n3_:=mA (hb);have n4_:=mA (hi);clear HO_7 HO106 HK HB HI0;have HO_7:=n0_;have HO106:=n1_;have HK:=n2_;have HB:=n3_;have HI0:=n4_;clear n0_ n1_ n2_ n3_ n4_;(try clear hb);(try clear hb2);(try clear hk);(try clear hi);obtain ⟨Ao14,co14,eo14⟩:=Kd.R_slice HO106.out;subst eo14;have p109:0≤(t107:Int):=of_decide_eq_true (by first|(with_reducible assumption)|assumption);have q109:t107<(y104.length:Int):=of_decide_eq_true (by first|(with_reducible assumption)|assumption);obtain ⟨ad109,e109,hx109_0⟩:=Kd.at_int (rR HO106.out).2.2 t107 p109 q109;cases e109;replace p109:=eq_true p109;replace q109:=eq_true q109)|((with_reducible refine gate_builtin (b:=.append) (xs:=#[.tmp 15,.tmp 21]) rfl ?_);at_builtin;refine Kd.R_append (Kd.int .i64) w.heap.size rfl (.tmp 15) (.tmp 21) 26 3 (.int .i64 0) 8 rfl Try.underlying26 info3 rfl (by decide) (by omega) u7 x7_1 (rd y104 t107) [.int .i64 (rd y104 t107)] (fun k_=>some k_≠(.slice (some ad109) y104.length co14:Value).ownBlock) (fun _=>False) rfl rfl ?aP (fun _ hk=>hk.elim) ?aF ?aO (Below.refl _ _) ?aS ?aL ?_;(case aP=>exact rfl);(case aF=>exact (fun k_ hk=>Kd.fresh' (rL (by (with_reducible repeat (first|apply rA|apply rN|apply rD));exact HO106.out)) k_ hk));(case aO=>exact (by (with_reducible repeat (first|apply rA|apply rN|apply rD));exact rM HO_7.out (fun _ hk=>hk.2)));(case aS=>exact (keep_size (w:=w) (g:=g) (row:=none) (by repeat (first|(with_reducible first|exact HK.out|apply eS|apply eN|apply eD|apply eA)|exact HK.out))));(case aL=>have:=LMc10.out;omega);intro v111 w15 ho hb hg hat;rw [←Ny110.out] at ho;have n0_:=mA (IsS113.grown (by repeat (first|(with_reducible first|exact HI0.out|apply IsS113.alloc|apply IsS113.drewN|apply IsS113.drew|apply IsS113.set_1)|exact HI0.out)) hg (IsS113.own_ne HI0.out HO_7.out (by decide)));have n1_:=mA (Kd.R_after (ok:=(fun _=>True)) (by (with_reducible repeat (first|apply rA|apply rN|apply rD));exact HO106.out) hg hat);have n2_:=mA (below_weaken (by repeat (first|(with_reducible first|exact HB.out|apply bA|apply bN|apply bD|refine bS ?_ (IsS113.ge HI0.out))|exact HB.out)) HL.out hb);have n3_:=mA (KeepBut.trans (by repeat (first|(with_reducible first|exact HK.out|apply eS|apply eN|apply eD|apply eA)|exact HK.out)) (KeepBut.of_grown hg g) (Kd.R_base2 HO_7.out));have n4_:=mA (ho);clear HI0 HO106 HB HK HO_7;have HI0:=n0_;have HO106:=n1_;have HB:=n2_;have HK:=n3_;have HO112:=n4_;clear n0_ n1_ n2_ n3_ n4_ ho hb hg hat))
       go_roundg k1
       case measure=>have:=HK1.out;omega
       case rel=>exact ⟨(y110),(wrap64 (x8_1+1)),(t108),(by first|rfl|(simp;done)|(simp [*];done)),H',⟨by have:=HK1.out;omega⟩,⟨by (with_reducible repeat (first|apply rA|apply rN|apply rD));exact rM HO112.out (fun _ hk=>trivial)⟩,⟨by repeat (first|(with_reducible first|exact HI0.out|apply IsS113.alloc|apply IsS113.drewN|apply IsS113.drew|apply IsS113.set_1)|exact HI0.out)⟩,⟨by repeat (first|(with_reducible first|exact HK.out|apply eS|apply eN|apply eD|apply eA)|exact HK.out)⟩,⟨by repeat (first|(with_reducible first|exact HB.out|apply bA|apply bN|apply bD|refine bS ?_ (IsS113.ge HI0.out))|exact HB.out)⟩⟩
      ·rw [if_neg c10] at H
       exact absurd H (by simp)
     ·rw [if_neg c9] at H
      exact absurd H (by simp)
    ·rw [if_neg c8] at H
     exact absurd H (by simp)
   ·rw [if_neg c6] at H
    have c6b0:decide (x8_1<a1)=false:=decide_eq_false c6
    clear c6
    replace H:=Option.bind_eq_some_iff.mp H
    obtain ⟨⟨t113,t114⟩,A160,H⟩:=H
    replace H:(if t113=true then ((spec_l20Rd_pick.f k1 s0_0 t114 2).bind fun bt115=>(if bt115.1=0 then (some ((([]:List Int)),bt115.2)) else (if x7_1.length<17592186044416 then (some ((x7_1++[3]),bt115.2)) else (none)))) else (some (x7_1,t114)))=some (r1,r2):=H
    have A16:=mA A160
    clear A160
    by_cases c17:t113=true
    ·subst c17
     have H1:((spec_l20Rd_pick.f k1 s0_0 t114 2).bind fun bt115=>(if bt115.1=0 then (some ((([]:List Int)),bt115.2)) else (if x7_1.length<17592186044416 then (some ((x7_1++[3]),bt115.2)) else (none))))=some (r1,r2):=by rw [if_pos rfl] at H;exact H
     clear H
     have H:=H1
     clear H1
     replace H:=Option.bind_eq_some_iff.mp H
     obtain ⟨⟨t115,t116⟩,A180,H⟩:=H
     replace H:(if t115=0 then (some ((([]:List Int)),t116)) else (if x7_1.length<17592186044416 then (some ((x7_1++[3]),t116)) else (none)))=some (r1,r2):=H
     have A18:=mA A180
     clear A180
     by_cases c19:t115=0
     ·rw [if_pos c19] at H
      have c19b0:(t115==0)=true:=beq_iff_eq.mpr c19
      have c19b1:(t115 != 0)=false:=bne_eq_false_iff_eq.mpr c19
      clear c19
      obtain ⟨y117,hy117⟩ : ∃ y_:List Int,y_=(([]:List Int)):=⟨_,rfl⟩
      replace H:(some (y117,t116))=some (r1,r2):=by first|(rw [hy117];with_reducible exact H)|(have H2_:=(Option.bind_some _ _).symm.trans H;rw [hy117];with_reducible exact H2_)|(have H2_:=(Option.bind_some _ _).symm.trans H;with_reducible exact H2_)|with_reducible exact H|(rw [hy117];exact H)|exact H
      have Ny117:=mA hy117
      clear hy117
      simp only [Option.some.injEq,Prod.mk.injEq] at H
      obtain ⟨rfl,rfl⟩:=H
      go_wp2_with (first|((with_reducible refine gate_callee (f:=139) rfl ?_);refine goesL_ (some 25) rfl rfl Try.func139 (by kernel_rfl) rfl #[.pointer (some ⟨g,0,none⟩),.int .i64 a2] rfl (by (try simp only [mT,mC,mN]);first|done|rfl|(simp only [lD,lT];rfl)) ?_;(with_reducible refine (spec_l20Rd_odd.calls k1 g s0_0 x1001_1 a2 true t114 w0 _ ?side1 ?side2 A16.out).mono ?_);(case side1=>repeat (first|(with_reducible first|exact HI0.out|apply IsS113.alloc|apply IsS113.drewN|apply IsS113.drew|apply IsS113.set_1)|exact HI0.out));(case side2=>repeat (first|(with_reducible first|exact HB.out|apply bA|apply bN|apply bD|refine bS ?_ (IsS113.ge HI0.out))|exact HB.out));rintro e w20 ⟨rfl,hi,hb,hk⟩;refine ⟨_,rfl,?_⟩;have n0_:=mA (rM (Kd.R_keep (IsS113.apart (show IsS113 w0 _ g s0_0 x1001_1 from by repeat (first|(with_reducible first|exact HI0.out|apply IsS113.alloc|apply IsS113.drewN|apply IsS113.drew|apply IsS113.set_1)|exact HI0.out)) (by (with_reducible repeat (first|apply rA|apply rN|apply rD));exact HO_7.out) (by decide)) hk (fun _ h=>h.2)) (fun _ h=>h.1));have n1_:=mA (KeepBut.trans (by repeat (first|(with_reducible first|exact HK.out|apply eS|apply eN|apply eD|apply eA)|exact HK.out)) hk (.inl rfl));have n2_:=mA (hb);have n3_:=mA (hi);clear HO_7 HK HB HI0;have HO_7:=n0_;have HK:=n1_;have HB:=n2_;have HI0:=n3_;clear n0_ n1_ n2_ n3_;(try clear hb);(try clear hb2);(try clear hk);(try clear hi))|((with_reducible refine gate_callee (f:=108) rfl ?_);refine goesL_ (some 27) rfl rfl Try.func108 (by kernel_rfl) rfl #[.pointer (some ⟨g,0,none⟩),.int .i64 2] rfl (by (try simp only [mT,mC,mN]);first|done|rfl|(simp only [lD,lT];rfl)) ?_;(with_reducible refine (spec_l20Rd_pick.calls k1 g s0_0 t114 2 t115 t116 w0 _ ?side1 ?side2 A18.out).mono ?_);(case side1=>repeat (first|(with_reducible first|exact HI0.out|apply IsS113.alloc|apply IsS113.drewN|apply IsS113.drew|apply IsS113.set_1)|exact HI0.out));(case side2=>repeat (first|(with_reducible first|exact HB.out|apply bA|apply bN|apply bD|refine bS ?_ (IsS113.ge HI0.out))|exact HB.out));rintro e w21 ⟨rfl,hi,hb,hk⟩;refine ⟨_,rfl,?_⟩;have n0_:=mA (rM (Kd.R_keep (IsS113.apart (show IsS113 w0 _ g s0_0 t114 from by repeat (first|(with_reducible first|exact HI0.out|apply IsS113.alloc|apply IsS113.drewN|apply IsS113.drew|apply IsS113.set_1)|exact HI0.out)) (by (with_reducible repeat (first|apply rA|apply rN|apply rD));exact HO_7.out) (by decide)) hk (fun _ h=>h.2)) (fun _ h=>h.1));have n1_:=mA (KeepBut.trans (by repeat (first|(with_reducible first|exact HK.out|apply eS|apply eN|apply eD|apply eA)|exact HK.out)) hk (.inl rfl));have n2_:=mA (hb);have n3_:=mA (hi);clear HO_7 HK HB HI0;have HO_7:=n0_;have HK:=n1_;have HB:=n2_;have HI0:=n3_;clear n0_ n1_ n2_ n3_;(try clear hb);(try clear hb2);(try clear hk);(try clear hi))|((with_reducible refine gate_dst (N:=33) rfl ?_);refine Kd.R_lit (Kd.int .i64) _ 3 ?hg (N:=33) ?hd (xs:=([]:List Int)) (inner:=[]) (ok:=fun _=>True) (okp:=fun _=>True) ?hr ?hp (fun _ hk=>hk) trivial (Below.refl _ _) (Nat.le_refl _) (by simp) ?_;(case hd=>rfl);(case hg=>rfl);(case hr=>first|(go_simp;done)|(go_simp;rfl));(case hp=>exact (Reps.none _ _));intro v118 w22 ho23 hb hg_ hnew_;clear hg_ hnew_;(first|rw [←Ny117.out] at ho23|(simp only [Int.reduceToNat] at ho23;rw [←Ny117.out] at ho23));have n0_:=mA (Kd.R_elder' (by (with_reducible repeat (first|apply rA|apply rN|apply rD));exact HO_7.out) (Kd.R_base ho23) hb);have n1_:=mA (Kd.R_lower (Kd.R_new' ho23 (rL (by (with_reducible repeat (first|apply rA|apply rN|apply rD));exact HO_7.out))) (keep_size (w:=w) (g:=g) (row:=none) (by repeat (first|(with_reducible first|exact HK.out|apply eS|apply eN|apply eD|apply eA)|exact HK.out))));have n2_:=mA (IsS113.below (by repeat (first|(with_reducible first|exact HI0.out|apply IsS113.alloc|apply IsS113.drewN|apply IsS113.drew|apply IsS113.set_1)|exact HI0.out)) hb);have n3_:=mA (KeepBut.trans (by repeat (first|(with_reducible first|exact HK.out|apply eS|apply eN|apply eD|apply eA)|exact HK.out)) (KeepBut.of_below hb g none) (.inl rfl));have n4_:=mA (bT (by repeat (first|(with_reducible first|exact HB.out|apply bA|apply bN|apply bD|refine bS ?_ (IsS113.ge HI0.out))|exact HB.out)) hb);clear HO_7 HI0 HK HB;have HO_7:=n0_;have HO119:=n1_;have HI0:=n2_;have HK:=n3_;have HB:=n4_;clear n0_ n1_ n2_ n3_ n4_ hb ho23))
      go_ret
      exact ⟨_,by first|rfl|(simp [errW_none,errW_some]<;>rfl)|(simp [*, errW_none,errW_some]<;>rfl),by (with_reducible repeat (first|apply rA|apply rN|apply rD));exact rM HO119.out (fun _ hk=>trivial),by repeat (first|(with_reducible first|exact HI0.out|apply IsS113.alloc|apply IsS113.drewN|apply IsS113.drew|apply IsS113.set_1)|exact HI0.out),by repeat (first|(with_reducible first|exact HB.out|apply bA|apply bN|apply bD|refine bS ?_ (IsS113.ge HI0.out))|exact HB.out),by repeat (first|(with_reducible first|exact HK.out|apply eS|apply eN|apply eD|apply eA)|exact HK.out)⟩
     ·rw [if_neg c19] at H
      have c19b0:(t115==0)=false:=beq_eq_false_iff_ne.mpr c19
      have c19b1:(t115 != 0)=true:=bne_iff_ne.mpr c19
      by_cases c24:x7_1.length<17592186044416
      ·rw [if_pos c24] at H
       have LMc24:=mA c24
       clear c24
       obtain ⟨y120,hy120⟩ : ∃ y_:List Int,y_=(x7_1++[3]):=⟨_,rfl⟩
       replace H:(some (y120,t116))=some (r1,r2):=by first|(rw [hy120];with_reducible exact H)|(have H2_:=(Option.bind_some _ _).symm.trans H;rw [hy120];with_reducible exact H2_)|(have H2_:=(Option.bind_some _ _).symm.trans H;with_reducible exact H2_)|with_reducible exact H|(rw [hy120];exact H)|exact H
       have Ny120:=mA hy120
       clear hy120
       simp only [Option.some.injEq,Prod.mk.injEq] at H
       obtain ⟨rfl,rfl⟩:=H
       go_wp2_with (first|((with_reducible refine gate_callee (f:=139) rfl ?_);refine goesL_ (some 25) rfl rfl Try.func139 (by kernel_rfl) rfl #[.pointer (some ⟨g,0,none⟩),.int .i64 a2] rfl (by (try simp only [mT,mC,mN]);first|done|rfl|(simp only [lD,lT];rfl)) ?_;(with_reducible refine (spec_l20Rd_odd.calls k1 g s0_0 x1001_1 a2 true t114 w0 _ ?side1 ?side2 A16.out).mono ?_);(case side1=>repeat (first|(with_reducible first|exact HI0.out|apply IsS113.alloc|apply IsS113.drewN|apply IsS113.drew|apply IsS113.set_1)|exact HI0.out));(case side2=>repeat (first|(with_reducible first|exact HB.out|apply bA|apply bN|apply bD|refine bS ?_ (IsS113.ge HI0.out))|exact HB.out));rintro e w25 ⟨rfl,hi,hb,hk⟩;refine ⟨_,rfl,?_⟩;have n0_:=mA (rM (Kd.R_keep (IsS113.apart (show IsS113 w0 _ g s0_0 x1001_1 from by repeat (first|(with_reducible first|exact HI0.out|apply IsS113.alloc|apply IsS113.drewN|apply IsS113.drew|apply IsS113.set_1)|exact HI0.out)) (by (with_reducible repeat (first|apply rA|apply rN|apply rD));exact HO_7.out) (by decide)) hk (fun _ h=>h.2)) (fun _ h=>h.1));have n1_:=mA (KeepBut.trans (by repeat (first|(with_reducible first|exact HK.out|apply eS|apply eN|apply eD|apply eA)|exact HK.out)) hk (.inl rfl));have n2_:=mA (hb);have n3_:=mA (hi);clear HO_7 HK HB HI0;have HO_7:=n0_;have HK:=n1_;have HB:=n2_;have HI0:=n3_;clear n0_ n1_ n2_ n3_;(try clear hb);(try clear hb2);(try clear hk);(try clear hi))|((with_reducible refine gate_callee (f:=108) rfl ?_);refine goesL_ (some 27) rfl rfl Try.func108 (by kernel_rfl) rfl #[.pointer (some ⟨g,0,none⟩),.int .i64 2] rfl (by (try simp only [mT,mC,mN]);first|done|rfl|(simp only [lD,lT];rfl)) ?_;(with_reducible refine (spec_l20Rd_pick.calls k1 g s0_0 t114 2 t115 t116 w0 _ ?side1 ?side2 A18.out).mono ?_);(case side1=>repeat (first|(with_reducible first|exact HI0.out|apply IsS113.alloc|apply IsS113.drewN|apply IsS113.drew|apply IsS113.set_1)|exact HI0.out));(case side2=>repeat (first|(with_reducible first|exact HB.out|apply bA|apply bN|apply bD|refine bS ?_ (IsS113.ge HI0.out))|exact HB.out));rintro e w26 ⟨rfl,hi,hb,hk⟩;refine ⟨_,rfl,?_⟩;have n0_:=mA (rM (Kd.R_keep (IsS113.apart (show IsS113 w0 _ g s0_0 t114 from by repeat (first|(with_reducible first|exact HI0.out|apply IsS113.alloc|apply IsS113.drewN|apply IsS113.drew|apply IsS113.set_1)|exact HI0.out)) (by (with_reducible repeat (first|apply rA|apply rN|apply rD));exact HO_7.out) (by decide)) hk (fun _ h=>h.2)) (fun _ h=>h.1));have n1_:=mA (KeepBut.trans (by repeat (first|(with_reducible first|exact HK.out|apply eS|apply eN|apply eD|apply eA)|exact HK.out)) hk (.inl rfl));have n2_:=mA (hb);have n3_:=mA (hi);clear HO_7 HK HB HI0;have HO_7:=n0_;have HK:=n1_;have HB:=n2_;have HI0:=n3_;clear n0_ n1_ n2_ n3_;(try clear hb);(try clear hb2);(try clear hk);(try clear hi))|((with_reducible refine gate_builtin (b:=.append) (xs:=#[.tmp 28,.tmp 29]) rfl ?_);at_builtin;refine Kd.R_append (Kd.int .i64) w.heap.size rfl (.tmp 28) (.tmp 29) 26 3 (.int .i64 0) 8 rfl Try.underlying26 info3 rfl (by decide) (by omega) u7 x7_1 3 [.int .i64 3] (fun _=>True) (fun _=>False) rfl rfl ?aP (fun _ hk=>hk.elim) ?aF ?aO (Below.refl _ _) ?aS ?aL ?_;(case aP=>exact rfl);(case aF=>exact (fun _ _=>trivial));(case aO=>exact (by (with_reducible repeat (first|apply rA|apply rN|apply rD));exact HO_7.out));(case aS=>exact (keep_size (w:=w) (g:=g) (row:=none) (by repeat (first|(with_reducible first|exact HK.out|apply eS|apply eN|apply eD|apply eA)|exact HK.out))));(case aL=>have:=LMc24.out;omega);intro v121 w27 ho hb hg hat;rw [←Ny120.out] at ho;have n0_:=mA (IsS113.grown (by repeat (first|(with_reducible first|exact HI0.out|apply IsS113.alloc|apply IsS113.drewN|apply IsS113.drew|apply IsS113.set_1)|exact HI0.out)) hg (IsS113.own_ne HI0.out HO_7.out (by decide)));have n1_:=mA (below_weaken (by repeat (first|(with_reducible first|exact HB.out|apply bA|apply bN|apply bD|refine bS ?_ (IsS113.ge HI0.out))|exact HB.out)) HL.out hb);have n2_:=mA (KeepBut.trans (by repeat (first|(with_reducible first|exact HK.out|apply eS|apply eN|apply eD|apply eA)|exact HK.out)) (KeepBut.of_grown hg g) (Kd.R_base2 HO_7.out));have n3_:=mA (ho);clear HI0 HB HK HO_7;have HI0:=n0_;have HB:=n1_;have HK:=n2_;have HO122:=n3_;clear n0_ n1_ n2_ n3_ ho hb hg hat))
       go_ret
       exact ⟨_,by first|rfl|(simp [errW_none,errW_some]<;>rfl)|(simp [*, errW_none,errW_some]<;>rfl),by (with_reducible repeat (first|apply rA|apply rN|apply rD));exact HO122.out,by repeat (first|(with_reducible first|exact HI0.out|apply IsS113.alloc|apply IsS113.drewN|apply IsS113.drew|apply IsS113.set_1)|exact HI0.out),by repeat (first|(with_reducible first|exact HB.out|apply bA|apply bN|apply bD|refine bS ?_ (IsS113.ge HI0.out))|exact HB.out),by repeat (first|(with_reducible first|exact HK.out|apply eS|apply eN|apply eD|apply eA)|exact HK.out)⟩
      ·rw [if_neg c24] at H
       exact absurd H (by simp)
    ·replace c17:=Bool.eq_false_iff.mpr c17
     subst c17
     have H1:(some (x7_1,t114))=some (r1,r2):=by rw [if_neg (show ¬ (false=true) by decide)] at H;exact H
     clear H
     have H:=H1
     clear H1
     simp only [Option.some.injEq,Prod.mk.injEq] at H
     obtain ⟨rfl,rfl⟩:=H
     go_wp2_with (first|((with_reducible refine gate_callee (f:=139) rfl ?_);refine goesL_ (some 25) rfl rfl Try.func139 (by kernel_rfl) rfl #[.pointer (some ⟨g,0,none⟩),.int .i64 a2] rfl (by (try simp only [mT,mC,mN]);first|done|rfl|(simp only [lD,lT];rfl)) ?_;(with_reducible refine (spec_l20Rd_odd.calls k1 g s0_0 x1001_1 a2 false t114 w0 _ ?side1 ?side2 A16.out).mono ?_);(case side1=>repeat (first|(with_reducible first|exact HI0.out|apply IsS113.alloc|apply IsS113.drewN|apply IsS113.drew|apply IsS113.set_1)|exact HI0.out));(case side2=>repeat (first|(with_reducible first|exact HB.out|apply bA|apply bN|apply bD|refine bS ?_ (IsS113.ge HI0.out))|exact HB.out));rintro e w28 ⟨rfl,hi,hb,hk⟩;refine ⟨_,rfl,?_⟩;have n0_:=mA (rM (Kd.R_keep (IsS113.apart (show IsS113 w0 _ g s0_0 x1001_1 from by repeat (first|(with_reducible first|exact HI0.out|apply IsS113.alloc|apply IsS113.drewN|apply IsS113.drew|apply IsS113.set_1)|exact HI0.out)) (by (with_reducible repeat (first|apply rA|apply rN|apply rD));exact HO_7.out) (by decide)) hk (fun _ h=>h.2)) (fun _ h=>h.1));have n1_:=mA (KeepBut.trans (by repeat (first|(with_reducible first|exact HK.out|apply eS|apply eN|apply eD|apply eA)|exact HK.out)) hk (.inl rfl));have n2_:=mA (hb);have n3_:=mA (hi);clear HO_7 HK HB HI0;have HO_7:=n0_;have HK:=n1_;have HB:=n2_;have HI0:=n3_;clear n0_ n1_ n2_ n3_;(try clear hb);(try clear hb2);(try clear hk);(try clear hi)))
     go_ret
     exact ⟨_,by first|rfl|(simp [errW_none,errW_some]<;>rfl)|(simp [*, errW_none,errW_some]<;>rfl),by (with_reducible repeat (first|apply rA|apply rN|apply rD));exact HO_7.out,by repeat (first|(with_reducible first|exact HI0.out|apply IsS113.alloc|apply IsS113.drewN|apply IsS113.drew|apply IsS113.set_1)|exact HI0.out),by repeat (first|(with_reducible first|exact HB.out|apply bA|apply bN|apply bD|refine bS ?_ (IsS113.ge HI0.out))|exact HB.out),by repeat (first|(with_reducible first|exact HK.out|apply eS|apply eN|apply eD|apply eA)|exact HK.out)⟩
end Go.Proofs.Ytpampekijfjlkab.X
