/- Joined by a program of this session's: X10, X11, X12. -/
import Derived.Test.YtbhjeiphmnanoaaGb51738d237

namespace Go.Proofs.Ytbhjeiphmnanoaa.X
open Go.RowKit Go.Proofs.YtbhjeiphmnanoaaW.PrintWords Go.Proofs.YtbhjeiphmnanoaaW.PrintLast Go.Proofs.YtbhjeiphmnanoaaW.PrintMore
open Go.Proofs.YtbhjeiphmnanoaaW.PrintWords renaming Aside0.mk → mA, Kd.C_alloc → cA, Kd.C_drewN → cN, Kd.C_drew → cD
open List renaming length_take → lT, length_drop → lD
attribute [local go_sem] max2_int min2_int max_two min_two max_three min_three max_four min_four   -- for this text's walks alone
set_option linter.unusedVariables false
set_option linter.unusedSimpArgs false
/-! ### spec_l1Heads: function 59 -/
def spec_l1Heads.l0:Nat→Int→Int→Option (Int)
 | 0,_,_=>none
 | k+1,x0,x3=>if x0>0 then (spec_l1Heads.l0 k (wrap64 (Int.tdiv x0 2)) (wrap64 (x3+(Int.tmod x0 2)))) else (some x3)
def spec_l1Heads.f (k:Nat) (a0:Int):Option (Int):=spec_l1Heads.l0 k a0 0
theorem spec_l1Heads.mono_l : ∀ k,(∀ y0 y1,LeO (spec_l1Heads.l0 k y0 y1) (spec_l1Heads.l0 (k+1) y0 y1))
 | 0=>fun _ _ r h=>by simp [spec_l1Heads.l0] at h
 | k+1=>by
  have ih0:=spec_l1Heads.mono_l k
  ·intro y0 y1
   unfold spec_l1Heads.l0
   repeat' first
   | (with_reducible exact ih0 _ _)
   | (with_reducible exact LeO.refl _)
   | (with_reducible exact LeO.none _)
   | (with_reducible refine LeO.ite ?_ ?_)
   | (with_reducible refine LeO.bind ?_ (fun _=>?_))
   | exact ih0 _ _
   | exact LeO.none _
   | refine LeO.ite ?_ ?_
   | refine LeO.bind ?_ (fun _=>?_)
theorem spec_l1Heads.mono : ∀ a0 k,LeO (spec_l1Heads.f k a0) (spec_l1Heads.f (k+1) a0):=by
 intro a0 k
 have ih0:=spec_l1Heads.mono_l k
 unfold spec_l1Heads.f
 repeat' first
   | (with_reducible exact ih0 _ _)
   | (with_reducible exact LeO.refl _)
   | (with_reducible exact LeO.none _)
   | (with_reducible refine LeO.ite ?_ ?_)
   | (with_reducible refine LeO.bind ?_ (fun _=>?_))
   | exact ih0 _ _
   | exact LeO.none _
   | refine LeO.ite ?_ ?_
   | refine LeO.bind ?_ (fun _=>?_)
set_option maxHeartbeats 8000000 in
set_option maxRecDepth 100000 in
theorem spec_l1Heads.calls (k:Nat) (a0:Int) (r:Int) (w:World) (h:spec_l1Heads.f k a0=some r) :
  Calls Try.prog 59 #[.int .i64 a0] w fun e w'=>e = .returned (.int .i64 r)∧Drawn0 w w':=by
 have H:(spec_l1Heads.l0 k a0 0)=some r:=h
 clear h
 have H':=mA H
 clear H
 go_enter Try.func59,Try.ntmps59
 go_wp2
 go_loopg [0,3] k (fun kq v0 v3 w'=>∃ (x0_1:Int) (x3_1:Int),v0 = .int .i64 x0_1∧v3 = .int .i64 x3_1∧Aside0 (spec_l1Heads.l0 kq x0_1 x3_1=some r)∧Aside0 (kq≤k)∧Drawn0 w w')
 case atStart=>exact ⟨(a0),(0),(by first|rfl|(simp;done)|(simp [*];done)),(by first|rfl|(simp;done)|(simp [*];done)),H',⟨Nat.le_refl _⟩,by repeat (first|exact Drawn0.refl _|apply Drawn0.step)⟩
 case round =>
  clear H'
  obtain ⟨x0_1,x3_1,rfl,rfl,HA,HK1,⟨m1,rfl⟩⟩:=hrel
  cases gk with
  | zero=>exact absurd HA.out (by simp [spec_l1Heads.l0])
  | succ k1 =>
   have H:=HA.out
   clear HA
   simp only [spec_l1Heads.l0] at H
   by_cases c2:x0_1>0
   ·rw [if_pos c2] at H
    have c2b0:decide (0<x0_1)=true:=decide_eq_true c2
    clear c2
    have H':=mA H
    clear H
    go_wp2
    go_roundg k1
    case measure=>have:=HK1.out;omega
    case rel=>exact ⟨(wrap64 (Int.tdiv x0_1 2)),(wrap64 (x3_1+(Int.tmod x0_1 2))),(by first|rfl|(simp;done)|(simp [*];done)),(by first|rfl|(simp;done)|(simp [*];done)),H',⟨by have:=HK1.out;omega⟩,by repeat (first|exact Drawn0.refl _|apply Drawn0.step)⟩
   ·rw [if_neg c2] at H
    have c2b0:decide (0<x0_1)=false:=decide_eq_false c2
    clear c2
    obtain rfl:=Option.some.inj H
    go_wp2
    go_ret
    exact ⟨by first|rfl|(simp;done)|(simp [*];done),by repeat (first|exact Drawn0.refl _|apply Drawn0.step)⟩
/-! ### spec_l2Starts: function 60 -/
def spec_l2Starts.l0:Nat→List (S59)→Int→Int→Option (Int)
 | 0,_,_,_=>none
 | k+1,x0,x5,x6=>if x5>0 then (if 0≤x6 then (if x6<(x0.length:Int) then (if ((rd_T59 x0 x6).f0)≤1 then (spec_l2Starts.l0 k x0 (wrap64 (x5-1)) (wrap64 (x6-1))) else (if ((rd_T59 x0 x6).f0)>2 then (spec_l2Starts.l0 k x0 (wrap64 (x5+1)) (wrap64 (x6-1))) else (spec_l2Starts.l0 k x0 x5 (wrap64 (x6-1))))) else (none)) else (none)) else (some (wrap64 (x6+1)))
def spec_l2Starts.f (k:Nat) (l0:List (S59)) (a1:Int):Option (Int):=spec_l2Starts.l0 k l0 1 a1
theorem spec_l2Starts.mono_l : ∀ k,(∀ y0 y1 y2,LeO (spec_l2Starts.l0 k y0 y1 y2) (spec_l2Starts.l0 (k+1) y0 y1 y2))
 | 0=>fun _ _ _ r h=>by simp [spec_l2Starts.l0] at h
 | k+1=>by
  have ih0:=spec_l2Starts.mono_l k
  ·intro y0 y1 y2
   unfold spec_l2Starts.l0
   repeat' first
   | (with_reducible exact ih0 _ _ _)
   | (with_reducible exact LeO.refl _)
   | (with_reducible exact LeO.none _)
   | (with_reducible refine LeO.ite ?_ ?_)
   | (with_reducible refine LeO.bind ?_ (fun _=>?_))
   | exact ih0 _ _ _
   | exact LeO.none _
   | refine LeO.ite ?_ ?_
   | refine LeO.bind ?_ (fun _=>?_)
theorem spec_l2Starts.mono : ∀ a0 a1 k,LeO (spec_l2Starts.f k a0 a1) (spec_l2Starts.f (k+1) a0 a1):=by
 intro a0 a1 k
 have ih0:=spec_l2Starts.mono_l k
 unfold spec_l2Starts.f
 repeat' first
   | (with_reducible exact ih0 _ _ _)
   | (with_reducible exact LeO.refl _)
   | (with_reducible exact LeO.none _)
   | (with_reducible refine LeO.ite ?_ ?_)
   | (with_reducible refine LeO.bind ?_ (fun _=>?_))
   | exact ih0 _ _ _
   | exact LeO.none _
   | refine LeO.ite ?_ ?_
   | refine LeO.bind ?_ (fun _=>?_)
set_option maxHeartbeats 8000000 in
set_option maxRecDepth 100000 in
theorem spec_l2Starts.calls (k:Nat) (A0:Option Addr) (c0:Nat) (l0:List (S59)) (a1:Int) (r:Int) (w:World) (hr0:Kd.C k59 w A0 l0.length l0) (hc0:l0.length≤c0) (h:spec_l2Starts.f k l0 a1=some r) :
  Calls Try.prog 60 #[.slice A0 l0.length c0,.int .i64 a1] w fun e w'=>e = .returned (.int .i64 r)∧Drawn0 w w':=by
 have HR0:=mA hr0
 have HC0:=mA hc0
 clear hr0 hc0
 have H:(spec_l2Starts.l0 k l0 1 a1)=some r:=h
 clear h
 have H':=mA H
 clear H
 go_enter Try.func60,Try.ntmps60
 go_wp2
 go_loopg [5,6] k (fun kq v5 v6 w'=>∃ (x5_1:Int) (x6_1:Int),v5 = .int .i64 x5_1∧v6 = .int .i64 x6_1∧Aside0 (spec_l2Starts.l0 kq l0 x5_1 x6_1=some r)∧Aside0 (kq≤k)∧Drawn0 w w')
 case atStart=>exact ⟨(1),(a1),(by first|rfl|(simp;done)|(simp [*];done)),(by first|rfl|(simp;done)|(simp [*];done)),H',⟨Nat.le_refl _⟩,by repeat (first|exact Drawn0.refl _|apply Drawn0.step)⟩
 case round =>
  clear H'
  try clear p2
  obtain ⟨x5_1,x6_1,rfl,rfl,HA,HK1,⟨m1,rfl⟩⟩:=hrel
  cases gk with
  | zero=>exact absurd HA.out (by simp [spec_l2Starts.l0])
  | succ k1 =>
   have H:=HA.out
   clear HA
   simp only [spec_l2Starts.l0] at H
   by_cases c3:x5_1>0
   ·rw [if_pos c3] at H
    have c3b0:decide (0<x5_1)=true:=decide_eq_true c3
    clear c3
    by_cases c4:0≤x6_1
    ·rw [if_pos c4] at H
     have c4b0:decide (0≤x6_1)=true:=decide_eq_true c4
     clear c4
     by_cases c5:x6_1<(l0.length:Int)
     ·rw [if_pos c5] at H
      have c5b0:decide (x6_1<(l0.length:Int))=true:=decide_eq_true c5
      clear c5
      by_cases c6:((rd_T59 l0 x6_1).f0)≤1
      ·rw [if_pos c6] at H
       have c6b0:decide (((rd_T59 l0 x6_1).f0)≤1)=true:=decide_eq_true c6
       clear c6
       have H':=mA H
       clear H
       have p101:0≤(x6_1:Int):=of_decide_eq_true (by first|with_reducible assumption|assumption)
       have q101:x6_1<(l0.length:Int):=of_decide_eq_true (by first|with_reducible assumption|assumption)
       obtain ⟨ad101,e101,hx101_0,hx101_1⟩:=at_T59 HR0.out x6_1 p101 q101
       cases e101
       replace p101:=eq_true p101
       replace q101:=eq_true q101
       go_wp2
       go_roundg k1
       case measure=>have:=HK1.out;omega
       case rel=>exact ⟨(wrap64 (x5_1-1)),(wrap64 (x6_1-1)),(by first|rfl|(simp;done)|(simp [*];done)),(by first|rfl|(simp;done)|(simp [*];done)),H',⟨by have:=HK1.out;omega⟩,by repeat (first|exact Drawn0.refl _|apply Drawn0.step)⟩
      ·rw [if_neg c6] at H
       have c6b0:decide (((rd_T59 l0 x6_1).f0)≤1)=false:=decide_eq_false c6
       clear c6
       by_cases c7:((rd_T59 l0 x6_1).f0)>2
       ·rw [if_pos c7] at H
        have c7b0:decide (2<((rd_T59 l0 x6_1).f0))=true:=decide_eq_true c7
        clear c7
        have H':=mA H
        clear H
        have p101:0≤(x6_1:Int):=of_decide_eq_true (by first|with_reducible assumption|assumption)
        have q101:x6_1<(l0.length:Int):=of_decide_eq_true (by first|with_reducible assumption|assumption)
        obtain ⟨ad101,e101,hx101_0,hx101_1⟩:=at_T59 HR0.out x6_1 p101 q101
        cases e101
        replace p101:=eq_true p101
        replace q101:=eq_true q101
        have p102:0≤(x6_1:Int):=of_decide_eq_true (by first|with_reducible assumption|assumption)
        have q102:x6_1<(l0.length:Int):=of_decide_eq_true (by first|with_reducible assumption|assumption)
        obtain ⟨ad102,e102,hx102_0,hx102_1⟩:=at_T59 HR0.out x6_1 p102 q102
        obtain rfl:ad101=ad102:=(by injection e102)
        replace p102:=eq_true p102
        replace q102:=eq_true q102
        go_wp2
        go_roundg k1
        case measure=>have:=HK1.out;omega
        case rel=>exact ⟨(wrap64 (x5_1+1)),(wrap64 (x6_1-1)),(by first|rfl|(simp;done)|(simp [*];done)),(by first|rfl|(simp;done)|(simp [*];done)),H',⟨by have:=HK1.out;omega⟩,by repeat (first|exact Drawn0.refl _|apply Drawn0.step)⟩
       ·rw [if_neg c7] at H
        have c7b0:decide (2<((rd_T59 l0 x6_1).f0))=false:=decide_eq_false c7
        clear c7
        have H':=mA H
        clear H
        have p101:0≤(x6_1:Int):=of_decide_eq_true (by first|with_reducible assumption|assumption)
        have q101:x6_1<(l0.length:Int):=of_decide_eq_true (by first|with_reducible assumption|assumption)
        obtain ⟨ad101,e101,hx101_0,hx101_1⟩:=at_T59 HR0.out x6_1 p101 q101
        cases e101
        replace p101:=eq_true p101
        replace q101:=eq_true q101
        have p102:0≤(x6_1:Int):=of_decide_eq_true (by first|with_reducible assumption|assumption)
        have q102:x6_1<(l0.length:Int):=of_decide_eq_true (by first|with_reducible assumption|assumption)
        obtain ⟨ad102,e102,hx102_0,hx102_1⟩:=at_T59 HR0.out x6_1 p102 q102
        obtain rfl:ad101=ad102:=(by injection e102)
        replace p102:=eq_true p102
        replace q102:=eq_true q102
        go_wp2
        go_roundg k1
        case measure=>have:=HK1.out;omega
        case rel=>exact ⟨(x5_1),(wrap64 (x6_1-1)),(by first|rfl|(simp;done)|(simp [*];done)),(by first|rfl|(simp;done)|(simp [*];done)),H',⟨by have:=HK1.out;omega⟩,by repeat (first|exact Drawn0.refl _|apply Drawn0.step)⟩
     ·rw [if_neg c5] at H
      exact absurd H (by simp)
    ·rw [if_neg c4] at H
     exact absurd H (by simp)
   ·rw [if_neg c3] at H
    have c3b0:decide (0<x5_1)=false:=decide_eq_false c3
    clear c3
    obtain rfl:=Option.some.inj H
    go_wp2
    go_ret
    exact ⟨by first|rfl|(simp;done)|(simp [*];done),by repeat (first|exact Drawn0.refl _|apply Drawn0.step)⟩
/-! ### spec_l3Holds: function 57 -/
def spec_l3Holds.f:Nat→List (S59)→Int→Option (Bool)
 | 0,_,_=>none
 | k+1,l0,a1=>if 0≤(wrap64 ((l0.length:Int)-1)) then (if (wrap64 ((l0.length:Int)-1))<(l0.length:Int) then (if ((rd_T59 l0 (wrap64 ((l0.length:Int)-1))).f0)=0 then (if 0≤((rd_T59 l0 (wrap64 ((l0.length:Int)-1))).f1) then (some ((Int.tmod (shr .i64 a1 ((rd_T59 l0 (wrap64 ((l0.length:Int)-1))).f1)) 2)==1)) else (none)) else (if ((rd_T59 l0 (wrap64 ((l0.length:Int)-1))).f0)=1 then ((spec_l1Heads.f k a1).bind fun t103=>(some (decide (t103≥((rd_T59 l0 (wrap64 ((l0.length:Int)-1))).f1))))) else (if ((rd_T59 l0 (wrap64 ((l0.length:Int)-1))).f0)=2 then (if (wrap64 ((l0.length:Int)-1))≤(l0.length:Int) then ((spec_l3Holds.f k (l0.take ((wrap64 ((l0.length:Int)-1)):Int).toNat) a1).bind fun t109=>(some (!t109))) else (none)) else ((spec_l2Starts.f k l0 (wrap64 ((wrap64 ((l0.length:Int)-1))-1))).bind fun t110=>(if 0≤t110 then (if t110≤(l0.length:Int) then ((spec_l3Holds.f k (l0.take (t110:Int).toNat) a1).bind fun t115=>(if t110≤(wrap64 ((l0.length:Int)-1)) then (if (wrap64 ((l0.length:Int)-1))≤(l0.length:Int) then ((spec_l3Holds.f k ((l0.take ((wrap64 ((l0.length:Int)-1)):Int).toNat).drop (t110:Int).toNat) a1).bind fun t120=>(if ((rd_T59 l0 (wrap64 ((l0.length:Int)-1))).f0)=3 then (if t115=true then (some t120) else (some false)) else (if ((rd_T59 l0 (wrap64 ((l0.length:Int)-1))).f0)=4 then (if t115=true then (some true) else (some t120)) else (some (t115==t120))))) else (none)) else (none))) else (none)) else (none)))))) else (none)) else (none)
theorem spec_l3Holds.mono_l : ∀ k,(∀ y0 y1,LeO (spec_l3Holds.f k y0 y1) (spec_l3Holds.f (k+1) y0 y1))
 | 0=>fun _ _ r h=>by simp [spec_l3Holds.f] at h
 | k+1=>by
  have ih0:=spec_l3Holds.mono_l k
  ·intro y0 y1
   unfold spec_l3Holds.f
   repeat' first
   | (with_reducible exact ih0 _ _)
   | (with_reducible exact spec_l1Heads.mono _ _)
   | (with_reducible exact spec_l2Starts.mono _ _ _)
   | (with_reducible exact LeO.refl _)
   | (with_reducible exact LeO.none _)
   | (with_reducible refine LeO.ite ?_ ?_)
   | (with_reducible refine LeO.bind ?_ (fun _=>?_))
   | exact ih0 _ _
   | exact spec_l1Heads.mono _ _
   | exact spec_l2Starts.mono _ _ _
   | exact LeO.none _
   | refine LeO.ite ?_ ?_
   | refine LeO.bind ?_ (fun _=>?_)
theorem spec_l3Holds.mono : ∀ a0 a1 k,LeO (spec_l3Holds.f k a0 a1) (spec_l3Holds.f (k+1) a0 a1):=by
 intro a0 a1 k
 have ih0:=spec_l3Holds.mono_l k
 exact ih0 a0 a1
set_option maxHeartbeats 8000000 in
set_option maxRecDepth 100000 in
theorem spec_l3Holds.calls (k:Nat) : ∀ (A0:Option Addr) (c0:Nat) (l0:List (S59)) (a1:Int) (r:Bool) (w:World) (hr0:Kd.C k59 w A0 l0.length l0) (hc0:l0.length≤c0) (h:spec_l3Holds.f k l0 a1=some r),
  Calls Try.prog 57 #[.slice A0 l0.length c0,.int .i64 a1] w fun e w'=>e = .returned (.bool r)∧Drawn0 w w':=by
 induction k using Nat.strongRecOn with
 | _ k ih =>
 intro A0 c0 l0 a1 r w hr0 hc0 h
 cases k with
 | zero=>exact absurd h (by simp [spec_l3Holds.f])
 | succ k =>
 simp only [spec_l3Holds.f] at h
 have HR0:=mA hr0
 have HC0:=mA hc0
 clear hr0 hc0
 have H:(if 0≤(wrap64 ((l0.length:Int)-1)) then (if (wrap64 ((l0.length:Int)-1))<(l0.length:Int) then (if ((rd_T59 l0 (wrap64 ((l0.length:Int)-1))).f0)=0 then (if 0≤((rd_T59 l0 (wrap64 ((l0.length:Int)-1))).f1) then (some ((Int.tmod (shr .i64 a1 ((rd_T59 l0 (wrap64 ((l0.length:Int)-1))).f1)) 2)==1)) else (none)) else (if ((rd_T59 l0 (wrap64 ((l0.length:Int)-1))).f0)=1 then ((spec_l1Heads.f k a1).bind fun t103=>(some (decide (t103≥((rd_T59 l0 (wrap64 ((l0.length:Int)-1))).f1))))) else (if ((rd_T59 l0 (wrap64 ((l0.length:Int)-1))).f0)=2 then (if (wrap64 ((l0.length:Int)-1))≤(l0.length:Int) then ((spec_l3Holds.f k (l0.take ((wrap64 ((l0.length:Int)-1)):Int).toNat) a1).bind fun t109=>(some (!t109))) else (none)) else ((spec_l2Starts.f k l0 (wrap64 ((wrap64 ((l0.length:Int)-1))-1))).bind fun t110=>(if 0≤t110 then (if t110≤(l0.length:Int) then ((spec_l3Holds.f k (l0.take (t110:Int).toNat) a1).bind fun t115=>(if t110≤(wrap64 ((l0.length:Int)-1)) then (if (wrap64 ((l0.length:Int)-1))≤(l0.length:Int) then ((spec_l3Holds.f k ((l0.take ((wrap64 ((l0.length:Int)-1)):Int).toNat).drop (t110:Int).toNat) a1).bind fun t120=>(if ((rd_T59 l0 (wrap64 ((l0.length:Int)-1))).f0)=3 then (if t115=true then (some t120) else (some false)) else (if ((rd_T59 l0 (wrap64 ((l0.length:Int)-1))).f0)=4 then (if t115=true then (some true) else (some t120)) else (some (t115==t120))))) else (none)) else (none))) else (none)) else (none)))))) else (none)) else (none))=some r:=h
 clear h
 obtain ⟨ji3,hji3⟩ : ∃ j_:Int,(wrap64 ((l0.length:Int)-1))=j_:=⟨_,rfl⟩
 replace H:(if 0≤(ji3) then (if (ji3)<(l0.length:Int) then (if ((rd_T59 l0 (ji3)).f0)=0 then (if 0≤((rd_T59 l0 (ji3)).f1) then (some ((Int.tmod (shr .i64 a1 ((rd_T59 l0 (ji3)).f1)) 2)==1)) else (none)) else (if ((rd_T59 l0 (ji3)).f0)=1 then ((spec_l1Heads.f k a1).bind fun t103=>(some (decide (t103≥((rd_T59 l0 (ji3)).f1))))) else (if ((rd_T59 l0 (ji3)).f0)=2 then (if (ji3)≤(l0.length:Int) then ((spec_l3Holds.f k (l0.take ((ji3):Int).toNat) a1).bind fun t109=>(some (!t109))) else (none)) else ((spec_l2Starts.f k l0 (wrap64 ((ji3)-1))).bind fun t110=>(if 0≤t110 then (if t110≤(l0.length:Int) then ((spec_l3Holds.f k (l0.take (t110:Int).toNat) a1).bind fun t115=>(if t110≤(ji3) then (if (ji3)≤(l0.length:Int) then ((spec_l3Holds.f k ((l0.take ((ji3):Int).toNat).drop (t110:Int).toNat) a1).bind fun t120=>(if ((rd_T59 l0 (ji3)).f0)=3 then (if t115=true then (some t120) else (some false)) else (if ((rd_T59 l0 (ji3)).f0)=4 then (if t115=true then (some true) else (some t120)) else (some (t115==t120))))) else (none)) else (none))) else (none)) else (none)))))) else (none)) else (none))=some r:=by first|(rw [hji3] at H;exact H)|(simp only [hji3] at H ⊢;exact H)
 have hji3w:(IntKind.i64.wrap ((l0.length:Int)-1))=ji3:=(i64_w _).trans hji3
 by_cases c4:0≤(ji3)
 ·rw [if_pos c4] at H
  have c4b0:decide (0≤(ji3))=true:=decide_eq_true c4
  clear c4
  by_cases c5:(ji3)<(l0.length:Int)
  ·rw [if_pos c5] at H
   have c5b0:decide ((ji3)<(l0.length:Int))=true:=decide_eq_true c5
   clear c5
   by_cases c6:((rd_T59 l0 (ji3)).f0)=0
   ·rw [if_pos c6] at H
    have c6b0:(((rd_T59 l0 (ji3)).f0)==0)=true:=beq_iff_eq.mpr c6
    have c6b1:(((rd_T59 l0 (ji3)).f0) != 0)=false:=bne_eq_false_iff_eq.mpr c6
    clear c6
    by_cases c7:0≤((rd_T59 l0 (ji3)).f1)
    ·rw [if_pos c7] at H
     have c7b0:=eq_true c7
     have c7b1:decide (0≤((rd_T59 l0 (ji3)).f1))=true:=decide_eq_true c7
     clear c7
     obtain ⟨ji8,hji8⟩ : ∃ j_:Int,(shr .i64 a1 ((rd_T59 l0 (ji3)).f1))=j_:=⟨_,rfl⟩
     replace H:(some ((Int.tmod (ji8) 2)==1))=some r:=by first|(rw [hji8] at H;exact H)|(simp only [hji8] at H ⊢;exact H)
     have hji8_:(a1 / 2^min ((rd_T59 l0 (ji3)).f1).toNat 64)=ji8:=hji8
     have hji8z:((rd_T59 l0 (ji3)).f1)≤64→(a1 / 2^((rd_T59 l0 (ji3)).f1).toNat)=ji8:=shr_small hji8
     obtain rfl:=Option.some.inj H
     have p101:0≤((ji3):Int):=of_decide_eq_true (by first|with_reducible assumption|assumption)
     have q101:(ji3)<(l0.length:Int):=of_decide_eq_true (by first|with_reducible assumption|assumption)
     obtain ⟨ad101,e101,hx101_0,hx101_1⟩:=at_T59 HR0.out (ji3) p101 q101
     cases e101
     replace p101:=eq_true p101
     replace q101:=eq_true q101
     have p102:0≤((ji3):Int):=of_decide_eq_true (by first|with_reducible assumption|assumption)
     have q102:(ji3)<(l0.length:Int):=of_decide_eq_true (by first|with_reducible assumption|assumption)
     obtain ⟨ad102,e102,hx102_0,hx102_1⟩:=at_T59 HR0.out (ji3) p102 q102
     obtain rfl:ad101=ad102:=(by injection e102)
     replace p102:=eq_true p102
     replace q102:=eq_true q102
     go_enter Try.func57,Try.ntmps57
     go_wp2
     repeat (go_quiet (fail);try go_wp2)
     go_ret
     exact ⟨by first|rfl|(simp;done)|(simp only [←hji3, ←hji8]<;>(first|rfl|simp))|(simp [*];done),by repeat (first|exact Drawn0.refl _|apply Drawn0.step)⟩
    ·rw [if_neg c7] at H
     exact absurd H (by simp)
   ·rw [if_neg c6] at H
    have c6b0:(((rd_T59 l0 (ji3)).f0)==0)=false:=beq_eq_false_iff_ne.mpr c6
    have c6b1:(((rd_T59 l0 (ji3)).f0) != 0)=true:=bne_iff_ne.mpr c6
    by_cases c9:((rd_T59 l0 (ji3)).f0)=1
    ·rw [if_pos c9] at H
     have c9b0:(((rd_T59 l0 (ji3)).f0)==1)=true:=beq_iff_eq.mpr c9
     have c9b1:(((rd_T59 l0 (ji3)).f0) != 1)=false:=bne_eq_false_iff_eq.mpr c9
     clear c9
     replace H:=Option.bind_eq_some_iff.mp H
     obtain ⟨t103,A100,H⟩:=H
     replace H:(some (decide (t103≥((rd_T59 l0 (ji3)).f1))))=some r:=H
     have A10:=mA A100
     clear A100
     obtain rfl:=Option.some.inj H
     have p101:0≤((ji3):Int):=of_decide_eq_true (by first|with_reducible assumption|assumption)
     have q101:(ji3)<(l0.length:Int):=of_decide_eq_true (by first|with_reducible assumption|assumption)
     obtain ⟨ad101,e101,hx101_0,hx101_1⟩:=at_T59 HR0.out (ji3) p101 q101
     cases e101
     replace p101:=eq_true p101
     replace q101:=eq_true q101
     go_enter Try.func57,Try.ntmps57
     go_wp2_with (first|(go_at_call 59;(with_reducible refine (spec_l1Heads.calls k a1 t103 _ A10.out).mono ?_);rintro e w' ⟨rfl,⟨nd,rfl⟩⟩;(try first|exact ⟨rfl,_,World.drewN_drewN _ _ _⟩|exact ⟨rfl,_,Eq.trans (World.drewN_drewN _ _ _) (congrArg (World.drewN _) (Nat.add_assoc _ _ _))⟩);have p104:0≤((ji3):Int):=of_decide_eq_true (by first|with_reducible assumption|assumption);have q104:(ji3)<(l0.length:Int):=of_decide_eq_true (by first|with_reducible assumption|assumption);obtain ⟨ad104,e104,hx104_0,hx104_1⟩:=at_T59 HR0.out (ji3) p104 q104;obtain rfl:ad101=ad104:=(by injection e104);replace p104:=eq_true p104;replace q104:=eq_true q104))
     repeat (go_quiet (first|(go_at_call 59;(with_reducible refine (spec_l1Heads.calls k a1 t103 _ A10.out).mono ?_);rintro e w' ⟨rfl,⟨nd,rfl⟩⟩;(try first|exact ⟨rfl,_,World.drewN_drewN _ _ _⟩|exact ⟨rfl,_,Eq.trans (World.drewN_drewN _ _ _) (congrArg (World.drewN _) (Nat.add_assoc _ _ _))⟩);have p104:0≤((ji3):Int):=of_decide_eq_true (by first|with_reducible assumption|assumption);have q104:(ji3)<(l0.length:Int):=of_decide_eq_true (by first|with_reducible assumption|assumption);obtain ⟨ad104,e104,hx104_0,hx104_1⟩:=at_T59 HR0.out (ji3) p104 q104;obtain rfl:ad101=ad104:=(by injection e104);replace p104:=eq_true p104;replace q104:=eq_true q104));try go_wp2_with (first|(go_at_call 59;(with_reducible refine (spec_l1Heads.calls k a1 t103 _ A10.out).mono ?_);rintro e w' ⟨rfl,⟨nd,rfl⟩⟩;(try first|exact ⟨rfl,_,World.drewN_drewN _ _ _⟩|exact ⟨rfl,_,Eq.trans (World.drewN_drewN _ _ _) (congrArg (World.drewN _) (Nat.add_assoc _ _ _))⟩);have p104:0≤((ji3):Int):=of_decide_eq_true (by first|with_reducible assumption|assumption);have q104:(ji3)<(l0.length:Int):=of_decide_eq_true (by first|with_reducible assumption|assumption);obtain ⟨ad104,e104,hx104_0,hx104_1⟩:=at_T59 HR0.out (ji3) p104 q104;obtain rfl:ad101=ad104:=(by injection e104);replace p104:=eq_true p104;replace q104:=eq_true q104)))
     go_ret
     exact ⟨by first|rfl|(simp;done)|(simp only [←hji3]<;>(first|rfl|simp))|(simp [*];done),by repeat (first|exact Drawn0.refl _|apply Drawn0.step)⟩
    ·rw [if_neg c9] at H
     have c9b0:(((rd_T59 l0 (ji3)).f0)==1)=false:=beq_eq_false_iff_ne.mpr c9
     have c9b1:(((rd_T59 l0 (ji3)).f0) != 1)=true:=bne_iff_ne.mpr c9
     by_cases c11:((rd_T59 l0 (ji3)).f0)=2
     ·rw [if_pos c11] at H
      have c11b0:(((rd_T59 l0 (ji3)).f0)==2)=true:=beq_iff_eq.mpr c11
      have c11b1:(((rd_T59 l0 (ji3)).f0) != 2)=false:=bne_eq_false_iff_eq.mpr c11
      clear c11
      have c12b0:=eq_true (of_decide_eq_true (by first|with_reducible assumption|assumption):0≤(ji3))
      by_cases c13:(ji3)≤(l0.length:Int)
      ·rw [if_pos c13] at H
       have c13b0:=eq_true c13
       have c13b1:decide ((ji3)≤(l0.length:Int))=true:=decide_eq_true c13
       clear c13
       obtain ⟨y105,hy105⟩ : ∃ y_:List (S59),y_=(l0.take ((ji3):Int).toNat):=⟨_,rfl⟩
       replace H:((spec_l3Holds.f k y105 a1).bind fun t109=>(some (!t109)))=some r:=by first|(rw [hy105];with_reducible exact H)|(have H2_:=(Option.bind_some _ _).symm.trans H;rw [hy105];with_reducible exact H2_)|(have H2_:=(Option.bind_some _ _).symm.trans H;with_reducible exact H2_)|with_reducible exact H|(rw [hy105];exact H)|exact H
       have Ny105:=mA hy105
       clear hy105
       replace H:=Option.bind_eq_some_iff.mp H
       obtain ⟨t109,A140,H⟩:=H
       replace H:(some (!t109))=some r:=H
       have A14:=mA A140
       clear A140
       obtain rfl:=Option.some.inj H
       have p101:0≤((ji3):Int):=of_decide_eq_true (by first|with_reducible assumption|assumption)
       have q101:(ji3)<(l0.length:Int):=of_decide_eq_true (by first|with_reducible assumption|assumption)
       obtain ⟨ad101,e101,hx101_0,hx101_1⟩:=at_T59 HR0.out (ji3) p101 q101
       cases e101
       replace p101:=eq_true p101
       replace q101:=eq_true q101
       have q15:((ji3):Int)≤((l0.length:Int):Int):=of_decide_eq_true (by first|with_reducible assumption|assumption)
       obtain ⟨i015,hi015,_,hsz15,_⟩:=info_parts info59
       have hroom15:l0.length≤c0:=HC0.out
       have hC15:Kd.C k59 _ (some ad101) l0.length l0:=HR0.out
       have hcut15:=cut_to (P:=Try.prog) 40 59 .i64 Try.underlying40 hi015 (some ad101) l0.length c0 (ji3) (of_decide_eq_true (by first|with_reducible assumption|assumption)) q15 hroom15
       have hr15:=Kd.C_take (m:=((ji3):Int).toNat) hC15 (by omega)
       have hy15:y105.length=((ji3):Int).toNat:=(by rw [Ny105.out,lT];omega)
       rw [←Ny105.out] at hr15
       rw [←hy15] at hcut15
       have HR108:=mA hr15
       have HC108:=mA (show y105.length≤c0 from by omega)
       clear hr15 hC15 hroom15 hi015 hsz15
       have KY15:=mA hy15
       clear hy15
       replace q15:=eq_true q15
       go_enter Try.func57,Try.ntmps57
       go_wp2_with (first|(go_at_call 57;(with_reducible refine (ih k (by omega) _ _ y105 a1 t109 _ ?side1 ?side2 A14.out).mono ?_);(case side1=>repeat first|exact HR108.out|(with_reducible refine cA ?_ _)|(with_reducible refine cN ?_ _)|(with_reducible refine cD ?_));(case side2=>exact HC108.out);rintro e w' ⟨rfl,⟨nd,rfl⟩⟩;(try first|exact ⟨rfl,_,World.drewN_drewN _ _ _⟩|exact ⟨rfl,_,Eq.trans (World.drewN_drewN _ _ _) (congrArg (World.drewN _) (Nat.add_assoc _ _ _))⟩)))
       repeat (go_quiet (first|(go_at_call 57;(with_reducible refine (ih k (by omega) _ _ y105 a1 t109 _ ?side1 ?side2 A14.out).mono ?_);(case side1=>repeat first|exact HR108.out|(with_reducible refine cA ?_ _)|(with_reducible refine cN ?_ _)|(with_reducible refine cD ?_));(case side2=>exact HC108.out);rintro e w' ⟨rfl,⟨nd,rfl⟩⟩;(try first|exact ⟨rfl,_,World.drewN_drewN _ _ _⟩|exact ⟨rfl,_,Eq.trans (World.drewN_drewN _ _ _) (congrArg (World.drewN _) (Nat.add_assoc _ _ _))⟩)));try go_wp2_with (first|(go_at_call 57;(with_reducible refine (ih k (by omega) _ _ y105 a1 t109 _ ?side1 ?side2 A14.out).mono ?_);(case side1=>repeat first|exact HR108.out|(with_reducible refine cA ?_ _)|(with_reducible refine cN ?_ _)|(with_reducible refine cD ?_));(case side2=>exact HC108.out);rintro e w' ⟨rfl,⟨nd,rfl⟩⟩;(try first|exact ⟨rfl,_,World.drewN_drewN _ _ _⟩|exact ⟨rfl,_,Eq.trans (World.drewN_drewN _ _ _) (congrArg (World.drewN _) (Nat.add_assoc _ _ _))⟩))))
       go_ret
       exact ⟨by first|rfl|(simp;done)|(simp only [←hji3]<;>(first|rfl|simp))|(simp [*];done),by repeat (first|exact Drawn0.refl _|apply Drawn0.step)⟩
      ·rw [if_neg c13] at H
       exact absurd H (by simp)
     ·rw [if_neg c11] at H
      have c11b0:(((rd_T59 l0 (ji3)).f0)==2)=false:=beq_eq_false_iff_ne.mpr c11
      have c11b1:(((rd_T59 l0 (ji3)).f0) != 2)=true:=bne_iff_ne.mpr c11
      replace H:=Option.bind_eq_some_iff.mp H
      obtain ⟨t110,A160,H⟩:=H
      replace H:(if 0≤t110 then (if t110≤(l0.length:Int) then ((spec_l3Holds.f k (l0.take (t110:Int).toNat) a1).bind fun t115=>(if t110≤(ji3) then (if (ji3)≤(l0.length:Int) then ((spec_l3Holds.f k ((l0.take ((ji3):Int).toNat).drop (t110:Int).toNat) a1).bind fun t120=>(if ((rd_T59 l0 (ji3)).f0)=3 then (if t115=true then (some t120) else (some false)) else (if ((rd_T59 l0 (ji3)).f0)=4 then (if t115=true then (some true) else (some t120)) else (some (t115==t120))))) else (none)) else (none))) else (none)) else (none))=some r:=H
      have A16:=mA A160
      clear A160
      by_cases c17:0≤t110
      ·rw [if_pos c17] at H
       have c17b0:=eq_true c17
       have c17b1:decide (0≤t110)=true:=decide_eq_true c17
       clear c17
       by_cases c18:t110≤(l0.length:Int)
       ·rw [if_pos c18] at H
        have c18b0:=eq_true c18
        have c18b1:decide (t110≤(l0.length:Int))=true:=decide_eq_true c18
        clear c18
        obtain ⟨y111,hy111⟩ : ∃ y_:List (S59),y_=(l0.take (t110:Int).toNat):=⟨_,rfl⟩
        replace H:((spec_l3Holds.f k y111 a1).bind fun t115=>(if t110≤(ji3) then (if (ji3)≤(l0.length:Int) then ((spec_l3Holds.f k ((l0.take ((ji3):Int).toNat).drop (t110:Int).toNat) a1).bind fun t120=>(if ((rd_T59 l0 (ji3)).f0)=3 then (if t115=true then (some t120) else (some false)) else (if ((rd_T59 l0 (ji3)).f0)=4 then (if t115=true then (some true) else (some t120)) else (some (t115==t120))))) else (none)) else (none)))=some r:=by first|(rw [hy111];with_reducible exact H)|(have H2_:=(Option.bind_some _ _).symm.trans H;rw [hy111];with_reducible exact H2_)|(have H2_:=(Option.bind_some _ _).symm.trans H;with_reducible exact H2_)|with_reducible exact H|(rw [hy111];exact H)|exact H
        have Ny111:=mA hy111
        clear hy111
        replace H:=Option.bind_eq_some_iff.mp H
        obtain ⟨t115,A190,H⟩:=H
        replace H:(if t110≤(ji3) then (if (ji3)≤(l0.length:Int) then ((spec_l3Holds.f k ((l0.take ((ji3):Int).toNat).drop (t110:Int).toNat) a1).bind fun t120=>(if ((rd_T59 l0 (ji3)).f0)=3 then (if t115=true then (some t120) else (some false)) else (if ((rd_T59 l0 (ji3)).f0)=4 then (if t115=true then (some true) else (some t120)) else (some (t115==t120))))) else (none)) else (none))=some r:=H
        have A19:=mA A190
        clear A190
        have c20b0:=eq_true (of_decide_eq_true (by first|with_reducible assumption|assumption):0≤t110)
        by_cases c21:t110≤(ji3)
        ·rw [if_pos c21] at H
         have c21b0:=eq_true c21
         have c21b1:decide (t110≤(ji3))=true:=decide_eq_true c21
         clear c21
         by_cases c22:(ji3)≤(l0.length:Int)
         ·rw [if_pos c22] at H
          have c22b0:=eq_true c22
          have c22b1:decide ((ji3)≤(l0.length:Int))=true:=decide_eq_true c22
          clear c22
          obtain ⟨y116,hy116⟩ : ∃ y_:List (S59),y_=((l0.take ((ji3):Int).toNat).drop (t110:Int).toNat):=⟨_,rfl⟩
          replace H:((spec_l3Holds.f k y116 a1).bind fun t120=>(if ((rd_T59 l0 (ji3)).f0)=3 then (if t115=true then (some t120) else (some false)) else (if ((rd_T59 l0 (ji3)).f0)=4 then (if t115=true then (some true) else (some t120)) else (some (t115==t120)))))=some r:=by first|(rw [hy116];with_reducible exact H)|(have H2_:=(Option.bind_some _ _).symm.trans H;rw [hy116];with_reducible exact H2_)|(have H2_:=(Option.bind_some _ _).symm.trans H;with_reducible exact H2_)|with_reducible exact H|(rw [hy116];exact H)|exact H
          have Ny116:=mA hy116
          clear hy116
          replace H:=Option.bind_eq_some_iff.mp H
          obtain ⟨t120,A230,H⟩:=H
          replace H:(if ((rd_T59 l0 (ji3)).f0)=3 then (if t115=true then (some t120) else (some false)) else (if ((rd_T59 l0 (ji3)).f0)=4 then (if t115=true then (some true) else (some t120)) else (some (t115==t120))))=some r:=H
          have A23:=mA A230
          clear A230
          by_cases c24:((rd_T59 l0 (ji3)).f0)=3
          ·rw [if_pos c24] at H
           have c24b0:(((rd_T59 l0 (ji3)).f0)==3)=true:=beq_iff_eq.mpr c24
           have c24b1:(((rd_T59 l0 (ji3)).f0) != 3)=false:=bne_eq_false_iff_eq.mpr c24
           clear c24
           by_cases c25:t115=true
           ·subst c25
            have H1:(some t120)=some r:=by rw [if_pos rfl] at H;exact H
            clear H
            have H:=H1
            clear H1
            obtain rfl:=Option.some.inj H
            have p101:0≤((ji3):Int):=of_decide_eq_true (by first|with_reducible assumption|assumption)
            have q101:(ji3)<(l0.length:Int):=of_decide_eq_true (by first|with_reducible assumption|assumption)
            obtain ⟨ad101,e101,hx101_0,hx101_1⟩:=at_T59 HR0.out (ji3) p101 q101
            cases e101
            replace p101:=eq_true p101
            replace q101:=eq_true q101
            go_enter Try.func57,Try.ntmps57
            go_wp2_with (first|(go_at_call 60;(with_reducible refine (spec_l2Starts.calls k _ _ l0 (wrap64 ((ji3)-1)) t110 _ ?side1 ?side2 A16.out).mono ?_);(case side1=>repeat first|exact HR0.out|(with_reducible refine cA ?_ _)|(with_reducible refine cN ?_ _)|(with_reducible refine cD ?_));(case side2=>exact HC0.out);rintro e w' ⟨rfl,⟨nd,rfl⟩⟩;(try first|exact ⟨rfl,_,World.drewN_drewN _ _ _⟩|exact ⟨rfl,_,Eq.trans (World.drewN_drewN _ _ _) (congrArg (World.drewN _) (Nat.add_assoc _ _ _))⟩);have q26:(t110:Int)≤((l0.length:Int):Int):=of_decide_eq_true (by first|with_reducible assumption|assumption);obtain ⟨i026,hi026,_,hsz26,_⟩:=info_parts info59;have hroom26:l0.length≤c0:=HC0.out;have hC26:Kd.C k59 _ (some ad101) l0.length l0:=HR0.out;have hcut26:=cut_to (P:=Try.prog) 40 59 .i64 Try.underlying40 hi026 (some ad101) l0.length c0 t110 (of_decide_eq_true (by first|with_reducible assumption|assumption)) q26 hroom26;have hr26:=Kd.C_take (m:=(t110:Int).toNat) hC26 (by omega);have hy26:y111.length=(t110:Int).toNat:=(by rw [Ny111.out,lT];omega);rw [←Ny111.out] at hr26;rw [←hy26] at hcut26;have HR114:=mA hr26;have HC114:=mA (show y111.length≤c0 from by omega);clear hr26 hC26 hroom26 hi026 hsz26;have KY26:=mA hy26;clear hy26;replace q26:=eq_true q26)|(go_at_call 57;(with_reducible refine (ih k (by omega) _ _ y111 a1 true _ ?side1 ?side2 A19.out).mono ?_);(case side1=>repeat first|exact HR114.out|(with_reducible refine cA ?_ _)|(with_reducible refine cN ?_ _)|(with_reducible refine cD ?_));(case side2=>exact HC114.out);rintro e w' ⟨rfl,⟨nd,rfl⟩⟩;(try first|exact ⟨rfl,_,World.drewN_drewN _ _ _⟩|exact ⟨rfl,_,Eq.trans (World.drewN_drewN _ _ _) (congrArg (World.drewN _) (Nat.add_assoc _ _ _))⟩);have q27:((ji3):Int)≤((l0.length:Int):Int):=of_decide_eq_true (by first|with_reducible assumption|assumption);obtain ⟨i027,hi027,_,hsz27,_⟩:=info_parts info59;have hroom27:l0.length≤c0:=HC0.out;have hC27:Kd.C k59 _ (some ad101) l0.length l0:=HR0.out;have ql27:(t110:Int)≤((ji3):Int):=of_decide_eq_true (by first|with_reducible assumption|assumption);have q027:(0:Int)≤(t110:Int):=of_decide_eq_true (by first|with_reducible assumption|assumption);have hcut27:=cut_mid (P:=Try.prog) 40 59 .i64 .i64 Try.underlying40 hi027 2 hsz27 (some ad101) l0.length c0 t110 (ji3) q027 ql27 q27 hroom27;have hr27:=Kd.C_mid (lo:=(t110:Int).toNat) (hi:=((ji3):Int).toNat) (c:=c0) hC27 (by omega) (by omega) hroom27;obtain ⟨A27,hA27⟩ : ∃ A1,A1=(if c0=(t110:Int).toNat then (some ad101) else ((some ad101):Option Addr).map (·.add ((t110:Int).toNat*2))):=⟨_,rfl⟩;obtain ⟨c27,hc27⟩ : ∃ c1,c1=c0-(t110:Int).toNat:=⟨_,rfl⟩;have hy27:y116.length=((ji3):Int).toNat-(t110:Int).toNat:=(by rw [Ny116.out,lD,lT]<;>omega);rw [show ((l0).take ((ji3):Int).toNat).drop (t110:Int).toNat=y116 from Ny116.out.symm] at hr27;replace hr27:Kd.C k59 _ A27 y116.length y116:=(by rw [hA27];exact hr27);rw [←hy27, ←hA27, ←hc27] at hcut27;have HR119:=mA hr27;have HC119:=mA (show y116.length≤c27 from by rw [hy27,hc27];exact Nat.sub_le_sub_right (Nat.le_trans (by omega) hroom27) _);clear hr27 hC27 hroom27 hi027 hsz27 hc27;have KY27:=mA hy27;have KA27:=mA hA27;clear hy27 hA27;replace q27:=eq_true q27)|(go_at_call 57;(with_reducible refine (ih k (by omega) _ _ y116 a1 t120 _ ?side1 ?side2 A23.out).mono ?_);(case side1=>repeat first|exact HR119.out|(with_reducible refine cA ?_ _)|(with_reducible refine cN ?_ _)|(with_reducible refine cD ?_));(case side2=>exact HC119.out);rintro e w' ⟨rfl,⟨nd,rfl⟩⟩;(try first|exact ⟨rfl,_,World.drewN_drewN _ _ _⟩|exact ⟨rfl,_,Eq.trans (World.drewN_drewN _ _ _) (congrArg (World.drewN _) (Nat.add_assoc _ _ _))⟩);have p121:0≤((ji3):Int):=of_decide_eq_true (by first|with_reducible assumption|assumption);have q121:(ji3)<(l0.length:Int):=of_decide_eq_true (by first|with_reducible assumption|assumption);obtain ⟨ad121,e121,hx121_0,hx121_1⟩:=at_T59 HR0.out (ji3) p121 q121;obtain rfl:ad101=ad121:=(by injection e121);replace p121:=eq_true p121;replace q121:=eq_true q121))
            repeat (go_quiet (first|(go_at_call 60;(with_reducible refine (spec_l2Starts.calls k _ _ l0 (wrap64 ((ji3)-1)) t110 _ ?side1 ?side2 A16.out).mono ?_);(case side1=>repeat first|exact HR0.out|(with_reducible refine cA ?_ _)|(with_reducible refine cN ?_ _)|(with_reducible refine cD ?_));(case side2=>exact HC0.out);rintro e w' ⟨rfl,⟨nd,rfl⟩⟩;(try first|exact ⟨rfl,_,World.drewN_drewN _ _ _⟩|exact ⟨rfl,_,Eq.trans (World.drewN_drewN _ _ _) (congrArg (World.drewN _) (Nat.add_assoc _ _ _))⟩);have q26:(t110:Int)≤((l0.length:Int):Int):=of_decide_eq_true (by first|with_reducible assumption|assumption);obtain ⟨i026,hi026,_,hsz26,_⟩:=info_parts info59;have hroom26:l0.length≤c0:=HC0.out;have hC26:Kd.C k59 _ (some ad101) l0.length l0:=HR0.out;have hcut26:=cut_to (P:=Try.prog) 40 59 .i64 Try.underlying40 hi026 (some ad101) l0.length c0 t110 (of_decide_eq_true (by first|with_reducible assumption|assumption)) q26 hroom26;have hr26:=Kd.C_take (m:=(t110:Int).toNat) hC26 (by omega);have hy26:y111.length=(t110:Int).toNat:=(by rw [Ny111.out,lT];omega);rw [←Ny111.out] at hr26;rw [←hy26] at hcut26;have HR114:=mA hr26;have HC114:=mA (show y111.length≤c0 from by omega);clear hr26 hC26 hroom26 hi026 hsz26;have KY26:=mA hy26;clear hy26;replace q26:=eq_true q26)|(go_at_call 57;(with_reducible refine (ih k (by omega) _ _ y111 a1 true _ ?side1 ?side2 A19.out).mono ?_);(case side1=>repeat first|exact HR114.out|(with_reducible refine cA ?_ _)|(with_reducible refine cN ?_ _)|(with_reducible refine cD ?_));(case side2=>exact HC114.out);rintro e w' ⟨rfl,⟨nd,rfl⟩⟩;(try first|exact ⟨rfl,_,World.drewN_drewN _ _ _⟩|exact ⟨rfl,_,Eq.trans (World.drewN_drewN _ _ _) (congrArg (World.drewN _) (Nat.add_assoc _ _ _))⟩);have q27:((ji3):Int)≤((l0.length:Int):Int):=of_decide_eq_true (by first|with_reducible assumption|assumption);obtain ⟨i027,hi027,_,hsz27,_⟩:=info_parts info59;have hroom27:l0.length≤c0:=HC0.out;have hC27:Kd.C k59 _ (some ad101) l0.length l0:=HR0.out;have ql27:(t110:Int)≤((ji3):Int):=of_decide_eq_true (by first|with_reducible assumption|assumption);have q027:(0:Int)≤(t110:Int):=of_decide_eq_true (by first|with_reducible assumption|assumption);have hcut27:=cut_mid (P:=Try.prog) 40 59 .i64 .i64 Try.underlying40 hi027 2 hsz27 (some ad101) l0.length c0 t110 (ji3) q027 ql27 q27 hroom27;have hr27:=Kd.C_mid (lo:=(t110:Int).toNat) (hi:=((ji3):Int).toNat) (c:=c0) hC27 (by omega) (by omega) hroom27;obtain ⟨A27,hA27⟩ : ∃ A1,A1=(if c0=(t110:Int).toNat then (some ad101) else ((some ad101):Option Addr).map (·.add ((t110:Int).toNat*2))):=⟨_,rfl⟩;obtain ⟨c27,hc27⟩ : ∃ c1,c1=c0-(t110:Int).toNat:=⟨_,rfl⟩;have hy27:y116.length=((ji3):Int).toNat-(t110:Int).toNat:=(by rw [Ny116.out,lD,lT]<;>omega);rw [show ((l0).take ((ji3):Int).toNat).drop (t110:Int).toNat=y116 from Ny116.out.symm] at hr27;replace hr27:Kd.C k59 _ A27 y116.length y116:=(by rw [hA27];exact hr27);rw [←hy27, ←hA27, ←hc27] at hcut27;have HR119:=mA hr27;have HC119:=mA (show y116.length≤c27 from by rw [hy27,hc27];exact Nat.sub_le_sub_right (Nat.le_trans (by omega) hroom27) _);clear hr27 hC27 hroom27 hi027 hsz27 hc27;have KY27:=mA hy27;have KA27:=mA hA27;clear hy27 hA27;replace q27:=eq_true q27)|(go_at_call 57;(with_reducible refine (ih k (by omega) _ _ y116 a1 t120 _ ?side1 ?side2 A23.out).mono ?_);(case side1=>repeat first|exact HR119.out|(with_reducible refine cA ?_ _)|(with_reducible refine cN ?_ _)|(with_reducible refine cD ?_));(case side2=>exact HC119.out);rintro e w' ⟨rfl,⟨nd,rfl⟩⟩;(try first|exact ⟨rfl,_,World.drewN_drewN _ _ _⟩|exact ⟨rfl,_,Eq.trans (World.drewN_drewN _ _ _) (congrArg (World.drewN _) (Nat.add_assoc _ _ _))⟩);have p121:0≤((ji3):Int):=of_decide_eq_true (by first|with_reducible assumption|assumption);have q121:(ji3)<(l0.length:Int):=of_decide_eq_true (by first|with_reducible assumption|assumption);obtain ⟨ad121,e121,hx121_0,hx121_1⟩:=at_T59 HR0.out (ji3) p121 q121;obtain rfl:ad101=ad121:=(by injection e121);replace p121:=eq_true p121;replace q121:=eq_true q121));try go_wp2_with (first|(go_at_call 60;(with_reducible refine (spec_l2Starts.calls k _ _ l0 (wrap64 ((ji3)-1)) t110 _ ?side1 ?side2 A16.out).mono ?_);(case side1=>repeat first|exact HR0.out|(with_reducible refine cA ?_ _)|(with_reducible refine cN ?_ _)|(with_reducible refine cD ?_));(case side2=>exact HC0.out);rintro e w' ⟨rfl,⟨nd,rfl⟩⟩;(try first|exact ⟨rfl,_,World.drewN_drewN _ _ _⟩|exact ⟨rfl,_,Eq.trans (World.drewN_drewN _ _ _) (congrArg (World.drewN _) (Nat.add_assoc _ _ _))⟩);have q26:(t110:Int)≤((l0.length:Int):Int):=of_decide_eq_true (by first|with_reducible assumption|assumption);obtain ⟨i026,hi026,_,hsz26,_⟩:=info_parts info59;have hroom26:l0.length≤c0:=HC0.out;have hC26:Kd.C k59 _ (some ad101) l0.length l0:=HR0.out;have hcut26:=cut_to (P:=Try.prog) 40 59 .i64 Try.underlying40 hi026 (some ad101) l0.length c0 t110 (of_decide_eq_true (by first|with_reducible assumption|assumption)) q26 hroom26;have hr26:=Kd.C_take (m:=(t110:Int).toNat) hC26 (by omega);have hy26:y111.length=(t110:Int).toNat:=(by rw [Ny111.out,lT];omega);rw [←Ny111.out] at hr26;rw [←hy26] at hcut26;have HR114:=mA hr26;have HC114:=mA (show y111.length≤c0 from by omega);clear hr26 hC26 hroom26 hi026 hsz26;have KY26:=mA hy26;clear hy26;replace q26:=eq_true q26)|(go_at_call 57;(with_reducible refine (ih k (by omega) _ _ y111 a1 true _ ?side1 ?side2 A19.out).mono ?_);(case side1=>repeat first|exact HR114.out|(with_reducible refine cA ?_ _)|(with_reducible refine cN ?_ _)|(with_reducible refine cD ?_));(case side2=>exact HC114.out);rintro e w' ⟨rfl,⟨nd,rfl⟩⟩;(try first|exact ⟨rfl,_,World.drewN_drewN _ _ _⟩|exact ⟨rfl,_,Eq.trans (World.drewN_drewN _ _ _) (congrArg (World.drewN _) (Nat.add_assoc _ _ _))⟩);have q27:((ji3):Int)≤((l0.length:Int):Int):=of_decide_eq_true (by first|with_reducible assumption|assumption);obtain ⟨i027,hi027,_,hsz27,_⟩:=info_parts info59;have hroom27:l0.length≤c0:=HC0.out;have hC27:Kd.C k59 _ (some ad101) l0.length l0:=HR0.out;have ql27:(t110:Int)≤((ji3):Int):=of_decide_eq_true (by first|with_reducible assumption|assumption);have q027:(0:Int)≤(t110:Int):=of_decide_eq_true (by first|with_reducible assumption|assumption);have hcut27:=cut_mid (P:=Try.prog) 40 59 .i64 .i64 Try.underlying40 hi027 2 hsz27 (some ad101) l0.length c0 t110 (ji3) q027 ql27 q27 hroom27;have hr27:=Kd.C_mid (lo:=(t110:Int).toNat) (hi:=((ji3):Int).toNat) (c:=c0) hC27 (by omega) (by omega) hroom27;obtain ⟨A27,hA27⟩ : ∃ A1,A1=(if c0=(t110:Int).toNat then (some ad101) else ((some ad101):Option Addr).map (·.add ((t110:Int).toNat*2))):=⟨_,rfl⟩;obtain ⟨c27,hc27⟩ : ∃ c1,c1=c0-(t110:Int).toNat:=⟨_,rfl⟩;have hy27:y116.length=((ji3):Int).toNat-(t110:Int).toNat:=(by rw [Ny116.out,lD,lT]<;>omega);rw [show ((l0).take ((ji3):Int).toNat).drop (t110:Int).toNat=y116 from Ny116.out.symm] at hr27;replace hr27:Kd.C k59 _ A27 y116.length y116:=(by rw [hA27];exact hr27);rw [←hy27, ←hA27, ←hc27] at hcut27;have HR119:=mA hr27;have HC119:=mA (show y116.length≤c27 from by rw [hy27,hc27];exact Nat.sub_le_sub_right (Nat.le_trans (by omega) hroom27) _);clear hr27 hC27 hroom27 hi027 hsz27 hc27;have KY27:=mA hy27;have KA27:=mA hA27;clear hy27 hA27;replace q27:=eq_true q27)|(go_at_call 57;(with_reducible refine (ih k (by omega) _ _ y116 a1 t120 _ ?side1 ?side2 A23.out).mono ?_);(case side1=>repeat first|exact HR119.out|(with_reducible refine cA ?_ _)|(with_reducible refine cN ?_ _)|(with_reducible refine cD ?_));(case side2=>exact HC119.out);rintro e w' ⟨rfl,⟨nd,rfl⟩⟩;(try first|exact ⟨rfl,_,World.drewN_drewN _ _ _⟩|exact ⟨rfl,_,Eq.trans (World.drewN_drewN _ _ _) (congrArg (World.drewN _) (Nat.add_assoc _ _ _))⟩);have p121:0≤((ji3):Int):=of_decide_eq_true (by first|with_reducible assumption|assumption);have q121:(ji3)<(l0.length:Int):=of_decide_eq_true (by first|with_reducible assumption|assumption);obtain ⟨ad121,e121,hx121_0,hx121_1⟩:=at_T59 HR0.out (ji3) p121 q121;obtain rfl:ad101=ad121:=(by injection e121);replace p121:=eq_true p121;replace q121:=eq_true q121)))
            go_ret
            exact ⟨by first|rfl|(simp;done)|(simp only [←hji3]<;>(first|rfl|simp))|(simp [*];done),by repeat (first|exact Drawn0.refl _|apply Drawn0.step)⟩
           ·replace c25:=Bool.eq_false_iff.mpr c25
            subst c25
            have H1:(some false)=some r:=by rw [if_neg (show ¬ (false=true) by decide)] at H;exact H
            clear H
            have H:=H1
            clear H1
            obtain rfl:=Option.some.inj H
            have p101:0≤((ji3):Int):=of_decide_eq_true (by first|with_reducible assumption|assumption)
            have q101:(ji3)<(l0.length:Int):=of_decide_eq_true (by first|with_reducible assumption|assumption)
            obtain ⟨ad101,e101,hx101_0,hx101_1⟩:=at_T59 HR0.out (ji3) p101 q101
            cases e101
            replace p101:=eq_true p101
            replace q101:=eq_true q101
            go_enter Try.func57,Try.ntmps57
            go_wp2_with (first|(go_at_call 60;(with_reducible refine (spec_l2Starts.calls k _ _ l0 (wrap64 ((ji3)-1)) t110 _ ?side1 ?side2 A16.out).mono ?_);(case side1=>repeat first|exact HR0.out|(with_reducible refine cA ?_ _)|(with_reducible refine cN ?_ _)|(with_reducible refine cD ?_));(case side2=>exact HC0.out);rintro e w' ⟨rfl,⟨nd,rfl⟩⟩;(try first|exact ⟨rfl,_,World.drewN_drewN _ _ _⟩|exact ⟨rfl,_,Eq.trans (World.drewN_drewN _ _ _) (congrArg (World.drewN _) (Nat.add_assoc _ _ _))⟩);have q28:(t110:Int)≤((l0.length:Int):Int):=of_decide_eq_true (by first|with_reducible assumption|assumption);obtain ⟨i028,hi028,_,hsz28,_⟩:=info_parts info59;have hroom28:l0.length≤c0:=HC0.out;have hC28:Kd.C k59 _ (some ad101) l0.length l0:=HR0.out;have hcut28:=cut_to (P:=Try.prog) 40 59 .i64 Try.underlying40 hi028 (some ad101) l0.length c0 t110 (of_decide_eq_true (by first|with_reducible assumption|assumption)) q28 hroom28;have hr28:=Kd.C_take (m:=(t110:Int).toNat) hC28 (by omega);have hy28:y111.length=(t110:Int).toNat:=(by rw [Ny111.out,lT];omega);rw [←Ny111.out] at hr28;rw [←hy28] at hcut28;have HR114:=mA hr28;have HC114:=mA (show y111.length≤c0 from by omega);clear hr28 hC28 hroom28 hi028 hsz28;have KY28:=mA hy28;clear hy28;replace q28:=eq_true q28)|(go_at_call 57;(with_reducible refine (ih k (by omega) _ _ y111 a1 false _ ?side1 ?side2 A19.out).mono ?_);(case side1=>repeat first|exact HR114.out|(with_reducible refine cA ?_ _)|(with_reducible refine cN ?_ _)|(with_reducible refine cD ?_));(case side2=>exact HC114.out);rintro e w' ⟨rfl,⟨nd,rfl⟩⟩;(try first|exact ⟨rfl,_,World.drewN_drewN _ _ _⟩|exact ⟨rfl,_,Eq.trans (World.drewN_drewN _ _ _) (congrArg (World.drewN _) (Nat.add_assoc _ _ _))⟩);have q29:((ji3):Int)≤((l0.length:Int):Int):=of_decide_eq_true (by first|with_reducible assumption|assumption);obtain ⟨i029,hi029,_,hsz29,_⟩:=info_parts info59;have hroom29:l0.length≤c0:=HC0.out;have hC29:Kd.C k59 _ (some ad101) l0.length l0:=HR0.out;have ql29:(t110:Int)≤((ji3):Int):=of_decide_eq_true (by first|with_reducible assumption|assumption);have q029:(0:Int)≤(t110:Int):=of_decide_eq_true (by first|with_reducible assumption|assumption);have hcut29:=cut_mid (P:=Try.prog) 40 59 .i64 .i64 Try.underlying40 hi029 2 hsz29 (some ad101) l0.length c0 t110 (ji3) q029 ql29 q29 hroom29;have hr29:=Kd.C_mid (lo:=(t110:Int).toNat) (hi:=((ji3):Int).toNat) (c:=c0) hC29 (by omega) (by omega) hroom29;obtain ⟨A29,hA29⟩ : ∃ A1,A1=(if c0=(t110:Int).toNat then (some ad101) else ((some ad101):Option Addr).map (·.add ((t110:Int).toNat*2))):=⟨_,rfl⟩;obtain ⟨c29,hc29⟩ : ∃ c1,c1=c0-(t110:Int).toNat:=⟨_,rfl⟩;have hy29:y116.length=((ji3):Int).toNat-(t110:Int).toNat:=(by rw [Ny116.out,lD,lT]<;>omega);rw [show ((l0).take ((ji3):Int).toNat).drop (t110:Int).toNat=y116 from Ny116.out.symm] at hr29;replace hr29:Kd.C k59 _ A29 y116.length y116:=(by rw [hA29];exact hr29);rw [←hy29, ←hA29, ←hc29] at hcut29;have HR119:=mA hr29;have HC119:=mA (show y116.length≤c29 from by rw [hy29,hc29];exact Nat.sub_le_sub_right (Nat.le_trans (by omega) hroom29) _);clear hr29 hC29 hroom29 hi029 hsz29 hc29;have KY29:=mA hy29;have KA29:=mA hA29;clear hy29 hA29;replace q29:=eq_true q29)|(go_at_call 57;(with_reducible refine (ih k (by omega) _ _ y116 a1 t120 _ ?side1 ?side2 A23.out).mono ?_);(case side1=>repeat first|exact HR119.out|(with_reducible refine cA ?_ _)|(with_reducible refine cN ?_ _)|(with_reducible refine cD ?_));(case side2=>exact HC119.out);rintro e w' ⟨rfl,⟨nd,rfl⟩⟩;(try first|exact ⟨rfl,_,World.drewN_drewN _ _ _⟩|exact ⟨rfl,_,Eq.trans (World.drewN_drewN _ _ _) (congrArg (World.drewN _) (Nat.add_assoc _ _ _))⟩);have p121:0≤((ji3):Int):=of_decide_eq_true (by first|with_reducible assumption|assumption);have q121:(ji3)<(l0.length:Int):=of_decide_eq_true (by first|with_reducible assumption|assumption);obtain ⟨ad121,e121,hx121_0,hx121_1⟩:=at_T59 HR0.out (ji3) p121 q121;obtain rfl:ad101=ad121:=(by injection e121);replace p121:=eq_true p121;replace q121:=eq_true q121))
            repeat (go_quiet (first|(go_at_call 60;(with_reducible refine (spec_l2Starts.calls k _ _ l0 (wrap64 ((ji3)-1)) t110 _ ?side1 ?side2 A16.out).mono ?_);(case side1=>repeat first|exact HR0.out|(with_reducible refine cA ?_ _)|(with_reducible refine cN ?_ _)|(with_reducible refine cD ?_));(case side2=>exact HC0.out);rintro e w' ⟨rfl,⟨nd,rfl⟩⟩;(try first|exact ⟨rfl,_,World.drewN_drewN _ _ _⟩|exact ⟨rfl,_,Eq.trans (World.drewN_drewN _ _ _) (congrArg (World.drewN _) (Nat.add_assoc _ _ _))⟩);have q28:(t110:Int)≤((l0.length:Int):Int):=of_decide_eq_true (by first|with_reducible assumption|assumption);obtain ⟨i028,hi028,_,hsz28,_⟩:=info_parts info59;have hroom28:l0.length≤c0:=HC0.out;have hC28:Kd.C k59 _ (some ad101) l0.length l0:=HR0.out;have hcut28:=cut_to (P:=Try.prog) 40 59 .i64 Try.underlying40 hi028 (some ad101) l0.length c0 t110 (of_decide_eq_true (by first|with_reducible assumption|assumption)) q28 hroom28;have hr28:=Kd.C_take (m:=(t110:Int).toNat) hC28 (by omega);have hy28:y111.length=(t110:Int).toNat:=(by rw [Ny111.out,lT];omega);rw [←Ny111.out] at hr28;rw [←hy28] at hcut28;have HR114:=mA hr28;have HC114:=mA (show y111.length≤c0 from by omega);clear hr28 hC28 hroom28 hi028 hsz28;have KY28:=mA hy28;clear hy28;replace q28:=eq_true q28)|(go_at_call 57;(with_reducible refine (ih k (by omega) _ _ y111 a1 false _ ?side1 ?side2 A19.out).mono ?_);(case side1=>repeat first|exact HR114.out|(with_reducible refine cA ?_ _)|(with_reducible refine cN ?_ _)|(with_reducible refine cD ?_));(case side2=>exact HC114.out);rintro e w' ⟨rfl,⟨nd,rfl⟩⟩;(try first|exact ⟨rfl,_,World.drewN_drewN _ _ _⟩|exact ⟨rfl,_,Eq.trans (World.drewN_drewN _ _ _) (congrArg (World.drewN _) (Nat.add_assoc _ _ _))⟩);have q29:((ji3):Int)≤((l0.length:Int):Int):=of_decide_eq_true (by first|with_reducible assumption|assumption);obtain ⟨i029,hi029,_,hsz29,_⟩:=info_parts info59;have hroom29:l0.length≤c0:=HC0.out;have hC29:Kd.C k59 _ (some ad101) l0.length l0:=HR0.out;have ql29:(t110:Int)≤((ji3):Int):=of_decide_eq_true (by first|with_reducible assumption|assumption);have q029:(0:Int)≤(t110:Int):=of_decide_eq_true (by first|with_reducible assumption|assumption);have hcut29:=cut_mid (P:=Try.prog) 40 59 .i64 .i64 Try.underlying40 hi029 2 hsz29 (some ad101) l0.length c0 t110 (ji3) q029 ql29 q29 hroom29;have hr29:=Kd.C_mid (lo:=(t110:Int).toNat) (hi:=((ji3):Int).toNat) (c:=c0) hC29 (by omega) (by omega) hroom29;obtain ⟨A29,hA29⟩ : ∃ A1,A1=(if c0=(t110:Int).toNat then (some ad101) else ((some ad101):Option Addr).map (·.add ((t110:Int).toNat*2))):=⟨_,rfl⟩;obtain ⟨c29,hc29⟩ : ∃ c1,c1=c0-(t110:Int).toNat:=⟨_,rfl⟩;have hy29:y116.length=((ji3):Int).toNat-(t110:Int).toNat:=(by rw [Ny116.out,lD,lT]<;>omega);rw [show ((l0).take ((ji3):Int).toNat).drop (t110:Int).toNat=y116 from Ny116.out.symm] at hr29;replace hr29:Kd.C k59 _ A29 y116.length y116:=(by rw [hA29];exact hr29);rw [←hy29, ←hA29, ←hc29] at hcut29;have HR119:=mA hr29;have HC119:=mA (show y116.length≤c29 from by rw [hy29,hc29];exact Nat.sub_le_sub_right (Nat.le_trans (by omega) hroom29) _);clear hr29 hC29 hroom29 hi029 hsz29 hc29;have KY29:=mA hy29;have KA29:=mA hA29;clear hy29 hA29;replace q29:=eq_true q29)|(go_at_call 57;(with_reducible refine (ih k (by omega) _ _ y116 a1 t120 _ ?side1 ?side2 A23.out).mono ?_);(case side1=>repeat first|exact HR119.out|(with_reducible refine cA ?_ _)|(with_reducible refine cN ?_ _)|(with_reducible refine cD ?_));(case side2=>exact HC119.out);rintro e w' ⟨rfl,⟨nd,rfl⟩⟩;(try first|exact ⟨rfl,_,World.drewN_drewN _ _ _⟩|exact ⟨rfl,_,Eq.trans (World.drewN_drewN _ _ _) (congrArg (World.drewN _) (Nat.add_assoc _ _ _))⟩);have p121:0≤((ji3):Int):=of_decide_eq_true (by first|with_reducible assumption|assumption);have q121:(ji3)<(l0.length:Int):=of_decide_eq_true (by first|with_reducible assumption|assumption);obtain ⟨ad121,e121,hx121_0,hx121_1⟩:=at_T59 HR0.out (ji3) p121 q121;obtain rfl:ad101=ad121:=(by injection e121);replace p121:=eq_true p121;replace q121:=eq_true q121));try go_wp2_with (first|(go_at_call 60;(with_reducible refine (spec_l2Starts.calls k _ _ l0 (wrap64 ((ji3)-1)) t110 _ ?side1 ?side2 A16.out).mono ?_);(case side1=>repeat first|exact HR0.out|(with_reducible refine cA ?_ _)|(with_reducible refine cN ?_ _)|(with_reducible refine cD ?_));(case side2=>exact HC0.out);rintro e w' ⟨rfl,⟨nd,rfl⟩⟩;(try first|exact ⟨rfl,_,World.drewN_drewN _ _ _⟩|exact ⟨rfl,_,Eq.trans (World.drewN_drewN _ _ _) (congrArg (World.drewN _) (Nat.add_assoc _ _ _))⟩);have q28:(t110:Int)≤((l0.length:Int):Int):=of_decide_eq_true (by first|with_reducible assumption|assumption);obtain ⟨i028,hi028,_,hsz28,_⟩:=info_parts info59;have hroom28:l0.length≤c0:=HC0.out;have hC28:Kd.C k59 _ (some ad101) l0.length l0:=HR0.out;have hcut28:=cut_to (P:=Try.prog) 40 59 .i64 Try.underlying40 hi028 (some ad101) l0.length c0 t110 (of_decide_eq_true (by first|with_reducible assumption|assumption)) q28 hroom28;have hr28:=Kd.C_take (m:=(t110:Int).toNat) hC28 (by omega);have hy28:y111.length=(t110:Int).toNat:=(by rw [Ny111.out,lT];omega);rw [←Ny111.out] at hr28;rw [←hy28] at hcut28;have HR114:=mA hr28;have HC114:=mA (show y111.length≤c0 from by omega);clear hr28 hC28 hroom28 hi028 hsz28;have KY28:=mA hy28;clear hy28;replace q28:=eq_true q28)|(go_at_call 57;(with_reducible refine (ih k (by omega) _ _ y111 a1 false _ ?side1 ?side2 A19.out).mono ?_);(case side1=>repeat first|exact HR114.out|(with_reducible refine cA ?_ _)|(with_reducible refine cN ?_ _)|(with_reducible refine cD ?_));(case side2=>exact HC114.out);rintro e w' ⟨rfl,⟨nd,rfl⟩⟩;(try first|exact ⟨rfl,_,World.drewN_drewN _ _ _⟩|exact ⟨rfl,_,Eq.trans (World.drewN_drewN _ _ _) (congrArg (World.drewN _) (Nat.add_assoc _ _ _))⟩);have q29:((ji3):Int)≤((l0.length:Int):Int):=of_decide_eq_true (by first|with_reducible assumption|assumption);obtain ⟨i029,hi029,_,hsz29,_⟩:=info_parts info59;have hroom29:l0.length≤c0:=HC0.out;have hC29:Kd.C k59 _ (some ad101) l0.length l0:=HR0.out;have ql29:(t110:Int)≤((ji3):Int):=of_decide_eq_true (by first|with_reducible assumption|assumption);have q029:(0:Int)≤(t110:Int):=of_decide_eq_true (by first|with_reducible assumption|assumption);have hcut29:=cut_mid (P:=Try.prog) 40 59 .i64 .i64 Try.underlying40 hi029 2 hsz29 (some ad101) l0.length c0 t110 (ji3) q029 ql29 q29 hroom29;have hr29:=Kd.C_mid (lo:=(t110:Int).toNat) (hi:=((ji3):Int).toNat) (c:=c0) hC29 (by omega) (by omega) hroom29;obtain ⟨A29,hA29⟩ : ∃ A1,A1=(if c0=(t110:Int).toNat then (some ad101) else ((some ad101):Option Addr).map (·.add ((t110:Int).toNat*2))):=⟨_,rfl⟩;obtain ⟨c29,hc29⟩ : ∃ c1,c1=c0-(t110:Int).toNat:=⟨_,rfl⟩;have hy29:y116.length=((ji3):Int).toNat-(t110:Int).toNat:=(by rw [Ny116.out,lD,lT]<;>omega);rw [show ((l0).take ((ji3):Int).toNat).drop (t110:Int).toNat=y116 from Ny116.out.symm] at hr29;replace hr29:Kd.C k59 _ A29 y116.length y116:=(by rw [hA29];exact hr29);rw [←hy29, ←hA29, ←hc29] at hcut29;have HR119:=mA hr29;have HC119:=mA (show y116.length≤c29 from by rw [hy29,hc29];exact Nat.sub_le_sub_right (Nat.le_trans (by omega) hroom29) _);clear hr29 hC29 hroom29 hi029 hsz29 hc29;have KY29:=mA hy29;have KA29:=mA hA29;clear hy29 hA29;replace q29:=eq_true q29)|(go_at_call 57;(with_reducible refine (ih k (by omega) _ _ y116 a1 t120 _ ?side1 ?side2 A23.out).mono ?_);(case side1=>repeat first|exact HR119.out|(with_reducible refine cA ?_ _)|(with_reducible refine cN ?_ _)|(with_reducible refine cD ?_));(case side2=>exact HC119.out);rintro e w' ⟨rfl,⟨nd,rfl⟩⟩;(try first|exact ⟨rfl,_,World.drewN_drewN _ _ _⟩|exact ⟨rfl,_,Eq.trans (World.drewN_drewN _ _ _) (congrArg (World.drewN _) (Nat.add_assoc _ _ _))⟩);have p121:0≤((ji3):Int):=of_decide_eq_true (by first|with_reducible assumption|assumption);have q121:(ji3)<(l0.length:Int):=of_decide_eq_true (by first|with_reducible assumption|assumption);obtain ⟨ad121,e121,hx121_0,hx121_1⟩:=at_T59 HR0.out (ji3) p121 q121;obtain rfl:ad101=ad121:=(by injection e121);replace p121:=eq_true p121;replace q121:=eq_true q121)))
            go_ret
            exact ⟨by first|rfl|(simp;done)|(simp only [←hji3]<;>(first|rfl|simp))|(simp [*];done),by repeat (first|exact Drawn0.refl _|apply Drawn0.step)⟩
          ·rw [if_neg c24] at H
           have c24b0:(((rd_T59 l0 (ji3)).f0)==3)=false:=beq_eq_false_iff_ne.mpr c24
           have c24b1:(((rd_T59 l0 (ji3)).f0) != 3)=true:=bne_iff_ne.mpr c24
           by_cases c30:((rd_T59 l0 (ji3)).f0)=4
           ·rw [if_pos c30] at H
            have c30b0:(((rd_T59 l0 (ji3)).f0)==4)=true:=beq_iff_eq.mpr c30
            have c30b1:(((rd_T59 l0 (ji3)).f0) != 4)=false:=bne_eq_false_iff_eq.mpr c30
            clear c30
            by_cases c31:t115=true
            ·subst c31
             have H1:(some true)=some r:=by rw [if_pos rfl] at H;exact H
             clear H
             have H:=H1
             clear H1
             obtain rfl:=Option.some.inj H
             have p101:0≤((ji3):Int):=of_decide_eq_true (by first|with_reducible assumption|assumption)
             have q101:(ji3)<(l0.length:Int):=of_decide_eq_true (by first|with_reducible assumption|assumption)
             obtain ⟨ad101,e101,hx101_0,hx101_1⟩:=at_T59 HR0.out (ji3) p101 q101
             cases e101
             replace p101:=eq_true p101
             replace q101:=eq_true q101
             go_enter Try.func57,Try.ntmps57
             go_wp2_with (first|(go_at_call 60;(with_reducible refine (spec_l2Starts.calls k _ _ l0 (wrap64 ((ji3)-1)) t110 _ ?side1 ?side2 A16.out).mono ?_);(case side1=>repeat first|exact HR0.out|(with_reducible refine cA ?_ _)|(with_reducible refine cN ?_ _)|(with_reducible refine cD ?_));(case side2=>exact HC0.out);rintro e w' ⟨rfl,⟨nd,rfl⟩⟩;(try first|exact ⟨rfl,_,World.drewN_drewN _ _ _⟩|exact ⟨rfl,_,Eq.trans (World.drewN_drewN _ _ _) (congrArg (World.drewN _) (Nat.add_assoc _ _ _))⟩);have q32:(t110:Int)≤((l0.length:Int):Int):=of_decide_eq_true (by first|with_reducible assumption|assumption);obtain ⟨i032,hi032,_,hsz32,_⟩:=info_parts info59;have hroom32:l0.length≤c0:=HC0.out;have hC32:Kd.C k59 _ (some ad101) l0.length l0:=HR0.out;have hcut32:=cut_to (P:=Try.prog) 40 59 .i64 Try.underlying40 hi032 (some ad101) l0.length c0 t110 (of_decide_eq_true (by first|with_reducible assumption|assumption)) q32 hroom32;have hr32:=Kd.C_take (m:=(t110:Int).toNat) hC32 (by omega);have hy32:y111.length=(t110:Int).toNat:=(by rw [Ny111.out,lT];omega);rw [←Ny111.out] at hr32;rw [←hy32] at hcut32;have HR114:=mA hr32;have HC114:=mA (show y111.length≤c0 from by omega);clear hr32 hC32 hroom32 hi032 hsz32;have KY32:=mA hy32;clear hy32;replace q32:=eq_true q32)|(go_at_call 57;(with_reducible refine (ih k (by omega) _ _ y111 a1 true _ ?side1 ?side2 A19.out).mono ?_);(case side1=>repeat first|exact HR114.out|(with_reducible refine cA ?_ _)|(with_reducible refine cN ?_ _)|(with_reducible refine cD ?_));(case side2=>exact HC114.out);rintro e w' ⟨rfl,⟨nd,rfl⟩⟩;(try first|exact ⟨rfl,_,World.drewN_drewN _ _ _⟩|exact ⟨rfl,_,Eq.trans (World.drewN_drewN _ _ _) (congrArg (World.drewN _) (Nat.add_assoc _ _ _))⟩);have q33:((ji3):Int)≤((l0.length:Int):Int):=of_decide_eq_true (by first|with_reducible assumption|assumption);obtain ⟨i033,hi033,_,hsz33,_⟩:=info_parts info59;have hroom33:l0.length≤c0:=HC0.out;have hC33:Kd.C k59 _ (some ad101) l0.length l0:=HR0.out;have ql33:(t110:Int)≤((ji3):Int):=of_decide_eq_true (by first|with_reducible assumption|assumption);have q033:(0:Int)≤(t110:Int):=of_decide_eq_true (by first|with_reducible assumption|assumption);have hcut33:=cut_mid (P:=Try.prog) 40 59 .i64 .i64 Try.underlying40 hi033 2 hsz33 (some ad101) l0.length c0 t110 (ji3) q033 ql33 q33 hroom33;have hr33:=Kd.C_mid (lo:=(t110:Int).toNat) (hi:=((ji3):Int).toNat) (c:=c0) hC33 (by omega) (by omega) hroom33;obtain ⟨A33,hA33⟩ : ∃ A1,A1=(if c0=(t110:Int).toNat then (some ad101) else ((some ad101):Option Addr).map (·.add ((t110:Int).toNat*2))):=⟨_,rfl⟩;obtain ⟨c33,hc33⟩ : ∃ c1,c1=c0-(t110:Int).toNat:=⟨_,rfl⟩;have hy33:y116.length=((ji3):Int).toNat-(t110:Int).toNat:=(by rw [Ny116.out,lD,lT]<;>omega);rw [show ((l0).take ((ji3):Int).toNat).drop (t110:Int).toNat=y116 from Ny116.out.symm] at hr33;replace hr33:Kd.C k59 _ A33 y116.length y116:=(by rw [hA33];exact hr33);rw [←hy33, ←hA33, ←hc33] at hcut33;have HR119:=mA hr33;have HC119:=mA (show y116.length≤c33 from by rw [hy33,hc33];exact Nat.sub_le_sub_right (Nat.le_trans (by omega) hroom33) _);clear hr33 hC33 hroom33 hi033 hsz33 hc33;have KY33:=mA hy33;have KA33:=mA hA33;clear hy33 hA33;replace q33:=eq_true q33)|(go_at_call 57;(with_reducible refine (ih k (by omega) _ _ y116 a1 t120 _ ?side1 ?side2 A23.out).mono ?_);(case side1=>repeat first|exact HR119.out|(with_reducible refine cA ?_ _)|(with_reducible refine cN ?_ _)|(with_reducible refine cD ?_));(case side2=>exact HC119.out);rintro e w' ⟨rfl,⟨nd,rfl⟩⟩;(try first|exact ⟨rfl,_,World.drewN_drewN _ _ _⟩|exact ⟨rfl,_,Eq.trans (World.drewN_drewN _ _ _) (congrArg (World.drewN _) (Nat.add_assoc _ _ _))⟩);have p121:0≤((ji3):Int):=of_decide_eq_true (by first|with_reducible assumption|assumption);have q121:(ji3)<(l0.length:Int):=of_decide_eq_true (by first|with_reducible assumption|assumption);obtain ⟨ad121,e121,hx121_0,hx121_1⟩:=at_T59 HR0.out (ji3) p121 q121;obtain rfl:ad101=ad121:=(by injection e121);replace p121:=eq_true p121;replace q121:=eq_true q121))
             repeat (go_quiet (first|(go_at_call 60;(with_reducible refine (spec_l2Starts.calls k _ _ l0 (wrap64 ((ji3)-1)) t110 _ ?side1 ?side2 A16.out).mono ?_);(case side1=>repeat first|exact HR0.out|(with_reducible refine cA ?_ _)|(with_reducible refine cN ?_ _)|(with_reducible refine cD ?_));(case side2=>exact HC0.out);rintro e w' ⟨rfl,⟨nd,rfl⟩⟩;(try first|exact ⟨rfl,_,World.drewN_drewN _ _ _⟩|exact ⟨rfl,_,Eq.trans (World.drewN_drewN _ _ _) (congrArg (World.drewN _) (Nat.add_assoc _ _ _))⟩);have q32:(t110:Int)≤((l0.length:Int):Int):=of_decide_eq_true (by first|with_reducible assumption|assumption);obtain ⟨i032,hi032,_,hsz32,_⟩:=info_parts info59;have hroom32:l0.length≤c0:=HC0.out;have hC32:Kd.C k59 _ (some ad101) l0.length l0:=HR0.out;have hcut32:=cut_to (P:=Try.prog) 40 59 .i64 Try.underlying40 hi032 (some ad101) l0.length c0 t110 (of_decide_eq_true (by first|with_reducible assumption|assumption)) q32 hroom32;have hr32:=Kd.C_take (m:=(t110:Int).toNat) hC32 (by omega);have hy32:y111.length=(t110:Int).toNat:=(by rw [Ny111.out,lT];omega);rw [←Ny111.out] at hr32;rw [←hy32] at hcut32;have HR114:=mA hr32;have HC114:=mA (show y111.length≤c0 from by omega);clear hr32 hC32 hroom32 hi032 hsz32;have KY32:=mA hy32;clear hy32;replace q32:=eq_true q32)|(go_at_call 57;(with_reducible refine (ih k (by omega) _ _ y111 a1 true _ ?side1 ?side2 A19.out).mono ?_);(case side1=>repeat first|exact HR114.out|(with_reducible refine cA ?_ _)|(with_reducible refine cN ?_ _)|(with_reducible refine cD ?_));(case side2=>exact HC114.out);rintro e w' ⟨rfl,⟨nd,rfl⟩⟩;(try first|exact ⟨rfl,_,World.drewN_drewN _ _ _⟩|exact ⟨rfl,_,Eq.trans (World.drewN_drewN _ _ _) (congrArg (World.drewN _) (Nat.add_assoc _ _ _))⟩);have q33:((ji3):Int)≤((l0.length:Int):Int):=of_decide_eq_true (by first|with_reducible assumption|assumption);obtain ⟨i033,hi033,_,hsz33,_⟩:=info_parts info59;have hroom33:l0.length≤c0:=HC0.out;have hC33:Kd.C k59 _ (some ad101) l0.length l0:=HR0.out;have ql33:(t110:Int)≤((ji3):Int):=of_decide_eq_true (by first|with_reducible assumption|assumption);have q033:(0:Int)≤(t110:Int):=of_decide_eq_true (by first|with_reducible assumption|assumption);have hcut33:=cut_mid (P:=Try.prog) 40 59 .i64 .i64 Try.underlying40 hi033 2 hsz33 (some ad101) l0.length c0 t110 (ji3) q033 ql33 q33 hroom33;have hr33:=Kd.C_mid (lo:=(t110:Int).toNat) (hi:=((ji3):Int).toNat) (c:=c0) hC33 (by omega) (by omega) hroom33;obtain ⟨A33,hA33⟩ : ∃ A1,A1=(if c0=(t110:Int).toNat then (some ad101) else ((some ad101):Option Addr).map (·.add ((t110:Int).toNat*2))):=⟨_,rfl⟩;obtain ⟨c33,hc33⟩ : ∃ c1,c1=c0-(t110:Int).toNat:=⟨_,rfl⟩;have hy33:y116.length=((ji3):Int).toNat-(t110:Int).toNat:=(by rw [Ny116.out,lD,lT]<;>omega);rw [show ((l0).take ((ji3):Int).toNat).drop (t110:Int).toNat=y116 from Ny116.out.symm] at hr33;replace hr33:Kd.C k59 _ A33 y116.length y116:=(by rw [hA33];exact hr33);rw [←hy33, ←hA33, ←hc33] at hcut33;have HR119:=mA hr33;have HC119:=mA (show y116.length≤c33 from by rw [hy33,hc33];exact Nat.sub_le_sub_right (Nat.le_trans (by omega) hroom33) _);clear hr33 hC33 hroom33 hi033 hsz33 hc33;have KY33:=mA hy33;have KA33:=mA hA33;clear hy33 hA33;replace q33:=eq_true q33)|(go_at_call 57;(with_reducible refine (ih k (by omega) _ _ y116 a1 t120 _ ?side1 ?side2 A23.out).mono ?_);(case side1=>repeat first|exact HR119.out|(with_reducible refine cA ?_ _)|(with_reducible refine cN ?_ _)|(with_reducible refine cD ?_));(case side2=>exact HC119.out);rintro e w' ⟨rfl,⟨nd,rfl⟩⟩;(try first|exact ⟨rfl,_,World.drewN_drewN _ _ _⟩|exact ⟨rfl,_,Eq.trans (World.drewN_drewN _ _ _) (congrArg (World.drewN _) (Nat.add_assoc _ _ _))⟩);have p121:0≤((ji3):Int):=of_decide_eq_true (by first|with_reducible assumption|assumption);have q121:(ji3)<(l0.length:Int):=of_decide_eq_true (by first|with_reducible assumption|assumption);obtain ⟨ad121,e121,hx121_0,hx121_1⟩:=at_T59 HR0.out (ji3) p121 q121;obtain rfl:ad101=ad121:=(by injection e121);replace p121:=eq_true p121;replace q121:=eq_true q121));try go_wp2_with (first|(go_at_call 60;(with_reducible refine (spec_l2Starts.calls k _ _ l0 (wrap64 ((ji3)-1)) t110 _ ?side1 ?side2 A16.out).mono ?_);(case side1=>repeat first|exact HR0.out|(with_reducible refine cA ?_ _)|(with_reducible refine cN ?_ _)|(with_reducible refine cD ?_));(case side2=>exact HC0.out);rintro e w' ⟨rfl,⟨nd,rfl⟩⟩;(try first|exact ⟨rfl,_,World.drewN_drewN _ _ _⟩|exact ⟨rfl,_,Eq.trans (World.drewN_drewN _ _ _) (congrArg (World.drewN _) (Nat.add_assoc _ _ _))⟩);have q32:(t110:Int)≤((l0.length:Int):Int):=of_decide_eq_true (by first|with_reducible assumption|assumption);obtain ⟨i032,hi032,_,hsz32,_⟩:=info_parts info59;have hroom32:l0.length≤c0:=HC0.out;have hC32:Kd.C k59 _ (some ad101) l0.length l0:=HR0.out;have hcut32:=cut_to (P:=Try.prog) 40 59 .i64 Try.underlying40 hi032 (some ad101) l0.length c0 t110 (of_decide_eq_true (by first|with_reducible assumption|assumption)) q32 hroom32;have hr32:=Kd.C_take (m:=(t110:Int).toNat) hC32 (by omega);have hy32:y111.length=(t110:Int).toNat:=(by rw [Ny111.out,lT];omega);rw [←Ny111.out] at hr32;rw [←hy32] at hcut32;have HR114:=mA hr32;have HC114:=mA (show y111.length≤c0 from by omega);clear hr32 hC32 hroom32 hi032 hsz32;have KY32:=mA hy32;clear hy32;replace q32:=eq_true q32)|(go_at_call 57;(with_reducible refine (ih k (by omega) _ _ y111 a1 true _ ?side1 ?side2 A19.out).mono ?_);(case side1=>repeat first|exact HR114.out|(with_reducible refine cA ?_ _)|(with_reducible refine cN ?_ _)|(with_reducible refine cD ?_));(case side2=>exact HC114.out);rintro e w' ⟨rfl,⟨nd,rfl⟩⟩;(try first|exact ⟨rfl,_,World.drewN_drewN _ _ _⟩|exact ⟨rfl,_,Eq.trans (World.drewN_drewN _ _ _) (congrArg (World.drewN _) (Nat.add_assoc _ _ _))⟩);have q33:((ji3):Int)≤((l0.length:Int):Int):=of_decide_eq_true (by first|with_reducible assumption|assumption);obtain ⟨i033,hi033,_,hsz33,_⟩:=info_parts info59;have hroom33:l0.length≤c0:=HC0.out;have hC33:Kd.C k59 _ (some ad101) l0.length l0:=HR0.out;have ql33:(t110:Int)≤((ji3):Int):=of_decide_eq_true (by first|with_reducible assumption|assumption);have q033:(0:Int)≤(t110:Int):=of_decide_eq_true (by first|with_reducible assumption|assumption);have hcut33:=cut_mid (P:=Try.prog) 40 59 .i64 .i64 Try.underlying40 hi033 2 hsz33 (some ad101) l0.length c0 t110 (ji3) q033 ql33 q33 hroom33;have hr33:=Kd.C_mid (lo:=(t110:Int).toNat) (hi:=((ji3):Int).toNat) (c:=c0) hC33 (by omega) (by omega) hroom33;obtain ⟨A33,hA33⟩ : ∃ A1,A1=(if c0=(t110:Int).toNat then (some ad101) else ((some ad101):Option Addr).map (·.add ((t110:Int).toNat*2))):=⟨_,rfl⟩;obtain ⟨c33,hc33⟩ : ∃ c1,c1=c0-(t110:Int).toNat:=⟨_,rfl⟩;have hy33:y116.length=((ji3):Int).toNat-(t110:Int).toNat:=(by rw [Ny116.out,lD,lT]<;>omega);rw [show ((l0).take ((ji3):Int).toNat).drop (t110:Int).toNat=y116 from Ny116.out.symm] at hr33;replace hr33:Kd.C k59 _ A33 y116.length y116:=(by rw [hA33];exact hr33);rw [←hy33, ←hA33, ←hc33] at hcut33;have HR119:=mA hr33;have HC119:=mA (show y116.length≤c33 from by rw [hy33,hc33];exact Nat.sub_le_sub_right (Nat.le_trans (by omega) hroom33) _);clear hr33 hC33 hroom33 hi033 hsz33 hc33;have KY33:=mA hy33;have KA33:=mA hA33;clear hy33 hA33;replace q33:=eq_true q33)|(go_at_call 57;(with_reducible refine (ih k (by omega) _ _ y116 a1 t120 _ ?side1 ?side2 A23.out).mono ?_);(case side1=>repeat first|exact HR119.out|(with_reducible refine cA ?_ _)|(with_reducible refine cN ?_ _)|(with_reducible refine cD ?_));(case side2=>exact HC119.out);rintro e w' ⟨rfl,⟨nd,rfl⟩⟩;(try first|exact ⟨rfl,_,World.drewN_drewN _ _ _⟩|exact ⟨rfl,_,Eq.trans (World.drewN_drewN _ _ _) (congrArg (World.drewN _) (Nat.add_assoc _ _ _))⟩);have p121:0≤((ji3):Int):=of_decide_eq_true (by first|with_reducible assumption|assumption);have q121:(ji3)<(l0.length:Int):=of_decide_eq_true (by first|with_reducible assumption|assumption);obtain ⟨ad121,e121,hx121_0,hx121_1⟩:=at_T59 HR0.out (ji3) p121 q121;obtain rfl:ad101=ad121:=(by injection e121);replace p121:=eq_true p121;replace q121:=eq_true q121)))
             go_ret
             exact ⟨by first|rfl|(simp;done)|(simp only [←hji3]<;>(first|rfl|simp))|(simp [*];done),by repeat (first|exact Drawn0.refl _|apply Drawn0.step)⟩
            ·replace c31:=Bool.eq_false_iff.mpr c31
             subst c31
             have H1:(some t120)=some r:=by rw [if_neg (show ¬ (false=true) by decide)] at H;exact H
             clear H
             have H:=H1
             clear H1
             obtain rfl:=Option.some.inj H
             have p101:0≤((ji3):Int):=of_decide_eq_true (by first|with_reducible assumption|assumption)
             have q101:(ji3)<(l0.length:Int):=of_decide_eq_true (by first|with_reducible assumption|assumption)
             obtain ⟨ad101,e101,hx101_0,hx101_1⟩:=at_T59 HR0.out (ji3) p101 q101
             cases e101
             replace p101:=eq_true p101
             replace q101:=eq_true q101
             go_enter Try.func57,Try.ntmps57
             go_wp2_with (first|(go_at_call 60;(with_reducible refine (spec_l2Starts.calls k _ _ l0 (wrap64 ((ji3)-1)) t110 _ ?side1 ?side2 A16.out).mono ?_);(case side1=>repeat first|exact HR0.out|(with_reducible refine cA ?_ _)|(with_reducible refine cN ?_ _)|(with_reducible refine cD ?_));(case side2=>exact HC0.out);rintro e w' ⟨rfl,⟨nd,rfl⟩⟩;(try first|exact ⟨rfl,_,World.drewN_drewN _ _ _⟩|exact ⟨rfl,_,Eq.trans (World.drewN_drewN _ _ _) (congrArg (World.drewN _) (Nat.add_assoc _ _ _))⟩);have q34:(t110:Int)≤((l0.length:Int):Int):=of_decide_eq_true (by first|with_reducible assumption|assumption);obtain ⟨i034,hi034,_,hsz34,_⟩:=info_parts info59;have hroom34:l0.length≤c0:=HC0.out;have hC34:Kd.C k59 _ (some ad101) l0.length l0:=HR0.out;have hcut34:=cut_to (P:=Try.prog) 40 59 .i64 Try.underlying40 hi034 (some ad101) l0.length c0 t110 (of_decide_eq_true (by first|with_reducible assumption|assumption)) q34 hroom34;have hr34:=Kd.C_take (m:=(t110:Int).toNat) hC34 (by omega);have hy34:y111.length=(t110:Int).toNat:=(by rw [Ny111.out,lT];omega);rw [←Ny111.out] at hr34;rw [←hy34] at hcut34;have HR114:=mA hr34;have HC114:=mA (show y111.length≤c0 from by omega);clear hr34 hC34 hroom34 hi034 hsz34;have KY34:=mA hy34;clear hy34;replace q34:=eq_true q34)|(go_at_call 57;(with_reducible refine (ih k (by omega) _ _ y111 a1 false _ ?side1 ?side2 A19.out).mono ?_);(case side1=>repeat first|exact HR114.out|(with_reducible refine cA ?_ _)|(with_reducible refine cN ?_ _)|(with_reducible refine cD ?_));(case side2=>exact HC114.out);rintro e w' ⟨rfl,⟨nd,rfl⟩⟩;(try first|exact ⟨rfl,_,World.drewN_drewN _ _ _⟩|exact ⟨rfl,_,Eq.trans (World.drewN_drewN _ _ _) (congrArg (World.drewN _) (Nat.add_assoc _ _ _))⟩);have q35:((ji3):Int)≤((l0.length:Int):Int):=of_decide_eq_true (by first|with_reducible assumption|assumption);obtain ⟨i035,hi035,_,hsz35,_⟩:=info_parts info59;have hroom35:l0.length≤c0:=HC0.out;have hC35:Kd.C k59 _ (some ad101) l0.length l0:=HR0.out;have ql35:(t110:Int)≤((ji3):Int):=of_decide_eq_true (by first|with_reducible assumption|assumption);have q035:(0:Int)≤(t110:Int):=of_decide_eq_true (by first|with_reducible assumption|assumption);have hcut35:=cut_mid (P:=Try.prog) 40 59 .i64 .i64 Try.underlying40 hi035 2 hsz35 (some ad101) l0.length c0 t110 (ji3) q035 ql35 q35 hroom35;have hr35:=Kd.C_mid (lo:=(t110:Int).toNat) (hi:=((ji3):Int).toNat) (c:=c0) hC35 (by omega) (by omega) hroom35;obtain ⟨A35,hA35⟩ : ∃ A1,A1=(if c0=(t110:Int).toNat then (some ad101) else ((some ad101):Option Addr).map (·.add ((t110:Int).toNat*2))):=⟨_,rfl⟩;obtain ⟨c35,hc35⟩ : ∃ c1,c1=c0-(t110:Int).toNat:=⟨_,rfl⟩;have hy35:y116.length=((ji3):Int).toNat-(t110:Int).toNat:=(by rw [Ny116.out,lD,lT]<;>omega);rw [show ((l0).take ((ji3):Int).toNat).drop (t110:Int).toNat=y116 from Ny116.out.symm] at hr35;replace hr35:Kd.C k59 _ A35 y116.length y116:=(by rw [hA35];exact hr35);rw [←hy35, ←hA35, ←hc35] at hcut35;have HR119:=mA hr35;have HC119:=mA (show y116.length≤c35 from by rw [hy35,hc35];exact Nat.sub_le_sub_right (Nat.le_trans (by omega) hroom35) _);clear hr35 hC35 hroom35 hi035 hsz35 hc35;have KY35:=mA hy35;have KA35:=mA hA35;clear hy35 hA35;replace q35:=eq_true q35)|(go_at_call 57;(with_reducible refine (ih k (by omega) _ _ y116 a1 t120 _ ?side1 ?side2 A23.out).mono ?_);(case side1=>repeat first|exact HR119.out|(with_reducible refine cA ?_ _)|(with_reducible refine cN ?_ _)|(with_reducible refine cD ?_));(case side2=>exact HC119.out);rintro e w' ⟨rfl,⟨nd,rfl⟩⟩;(try first|exact ⟨rfl,_,World.drewN_drewN _ _ _⟩|exact ⟨rfl,_,Eq.trans (World.drewN_drewN _ _ _) (congrArg (World.drewN _) (Nat.add_assoc _ _ _))⟩);have p121:0≤((ji3):Int):=of_decide_eq_true (by first|with_reducible assumption|assumption);have q121:(ji3)<(l0.length:Int):=of_decide_eq_true (by first|with_reducible assumption|assumption);obtain ⟨ad121,e121,hx121_0,hx121_1⟩:=at_T59 HR0.out (ji3) p121 q121;obtain rfl:ad101=ad121:=(by injection e121);replace p121:=eq_true p121;replace q121:=eq_true q121))
             repeat (go_quiet (first|(go_at_call 60;(with_reducible refine (spec_l2Starts.calls k _ _ l0 (wrap64 ((ji3)-1)) t110 _ ?side1 ?side2 A16.out).mono ?_);(case side1=>repeat first|exact HR0.out|(with_reducible refine cA ?_ _)|(with_reducible refine cN ?_ _)|(with_reducible refine cD ?_));(case side2=>exact HC0.out);rintro e w' ⟨rfl,⟨nd,rfl⟩⟩;(try first|exact ⟨rfl,_,World.drewN_drewN _ _ _⟩|exact ⟨rfl,_,Eq.trans (World.drewN_drewN _ _ _) (congrArg (World.drewN _) (Nat.add_assoc _ _ _))⟩);have q34:(t110:Int)≤((l0.length:Int):Int):=of_decide_eq_true (by first|with_reducible assumption|assumption);obtain ⟨i034,hi034,_,hsz34,_⟩:=info_parts info59;have hroom34:l0.length≤c0:=HC0.out;have hC34:Kd.C k59 _ (some ad101) l0.length l0:=HR0.out;have hcut34:=cut_to (P:=Try.prog) 40 59 .i64 Try.underlying40 hi034 (some ad101) l0.length c0 t110 (of_decide_eq_true (by first|with_reducible assumption|assumption)) q34 hroom34;have hr34:=Kd.C_take (m:=(t110:Int).toNat) hC34 (by omega);have hy34:y111.length=(t110:Int).toNat:=(by rw [Ny111.out,lT];omega);rw [←Ny111.out] at hr34;rw [←hy34] at hcut34;have HR114:=mA hr34;have HC114:=mA (show y111.length≤c0 from by omega);clear hr34 hC34 hroom34 hi034 hsz34;have KY34:=mA hy34;clear hy34;replace q34:=eq_true q34)|(go_at_call 57;(with_reducible refine (ih k (by omega) _ _ y111 a1 false _ ?side1 ?side2 A19.out).mono ?_);(case side1=>repeat first|exact HR114.out|(with_reducible refine cA ?_ _)|(with_reducible refine cN ?_ _)|(with_reducible refine cD ?_));(case side2=>exact HC114.out);rintro e w' ⟨rfl,⟨nd,rfl⟩⟩;(try first|exact ⟨rfl,_,World.drewN_drewN _ _ _⟩|exact ⟨rfl,_,Eq.trans (World.drewN_drewN _ _ _) (congrArg (World.drewN _) (Nat.add_assoc _ _ _))⟩);have q35:((ji3):Int)≤((l0.length:Int):Int):=of_decide_eq_true (by first|with_reducible assumption|assumption);obtain ⟨i035,hi035,_,hsz35,_⟩:=info_parts info59;have hroom35:l0.length≤c0:=HC0.out;have hC35:Kd.C k59 _ (some ad101) l0.length l0:=HR0.out;have ql35:(t110:Int)≤((ji3):Int):=of_decide_eq_true (by first|with_reducible assumption|assumption);have q035:(0:Int)≤(t110:Int):=of_decide_eq_true (by first|with_reducible assumption|assumption);have hcut35:=cut_mid (P:=Try.prog) 40 59 .i64 .i64 Try.underlying40 hi035 2 hsz35 (some ad101) l0.length c0 t110 (ji3) q035 ql35 q35 hroom35;have hr35:=Kd.C_mid (lo:=(t110:Int).toNat) (hi:=((ji3):Int).toNat) (c:=c0) hC35 (by omega) (by omega) hroom35;obtain ⟨A35,hA35⟩ : ∃ A1,A1=(if c0=(t110:Int).toNat then (some ad101) else ((some ad101):Option Addr).map (·.add ((t110:Int).toNat*2))):=⟨_,rfl⟩;obtain ⟨c35,hc35⟩ : ∃ c1,c1=c0-(t110:Int).toNat:=⟨_,rfl⟩;have hy35:y116.length=((ji3):Int).toNat-(t110:Int).toNat:=(by rw [Ny116.out,lD,lT]<;>omega);rw [show ((l0).take ((ji3):Int).toNat).drop (t110:Int).toNat=y116 from Ny116.out.symm] at hr35;replace hr35:Kd.C k59 _ A35 y116.length y116:=(by rw [hA35];exact hr35);rw [←hy35, ←hA35, ←hc35] at hcut35;have HR119:=mA hr35;have HC119:=mA (show y116.length≤c35 from by rw [hy35,hc35];exact Nat.sub_le_sub_right (Nat.le_trans (by omega) hroom35) _);clear hr35 hC35 hroom35 hi035 hsz35 hc35;have KY35:=mA hy35;have KA35:=mA hA35;clear hy35 hA35;replace q35:=eq_true q35)|(go_at_call 57;(with_reducible refine (ih k (by omega) _ _ y116 a1 t120 _ ?side1 ?side2 A23.out).mono ?_);(case side1=>repeat first|exact HR119.out|(with_reducible refine cA ?_ _)|(with_reducible refine cN ?_ _)|(with_reducible refine cD ?_));(case side2=>exact HC119.out);rintro e w' ⟨rfl,⟨nd,rfl⟩⟩;(try first|exact ⟨rfl,_,World.drewN_drewN _ _ _⟩|exact ⟨rfl,_,Eq.trans (World.drewN_drewN _ _ _) (congrArg (World.drewN _) (Nat.add_assoc _ _ _))⟩);have p121:0≤((ji3):Int):=of_decide_eq_true (by first|with_reducible assumption|assumption);have q121:(ji3)<(l0.length:Int):=of_decide_eq_true (by first|with_reducible assumption|assumption);obtain ⟨ad121,e121,hx121_0,hx121_1⟩:=at_T59 HR0.out (ji3) p121 q121;obtain rfl:ad101=ad121:=(by injection e121);replace p121:=eq_true p121;replace q121:=eq_true q121));try go_wp2_with (first|(go_at_call 60;(with_reducible refine (spec_l2Starts.calls k _ _ l0 (wrap64 ((ji3)-1)) t110 _ ?side1 ?side2 A16.out).mono ?_);(case side1=>repeat first|exact HR0.out|(with_reducible refine cA ?_ _)|(with_reducible refine cN ?_ _)|(with_reducible refine cD ?_));(case side2=>exact HC0.out);rintro e w' ⟨rfl,⟨nd,rfl⟩⟩;(try first|exact ⟨rfl,_,World.drewN_drewN _ _ _⟩|exact ⟨rfl,_,Eq.trans (World.drewN_drewN _ _ _) (congrArg (World.drewN _) (Nat.add_assoc _ _ _))⟩);have q34:(t110:Int)≤((l0.length:Int):Int):=of_decide_eq_true (by first|with_reducible assumption|assumption);obtain ⟨i034,hi034,_,hsz34,_⟩:=info_parts info59;have hroom34:l0.length≤c0:=HC0.out;have hC34:Kd.C k59 _ (some ad101) l0.length l0:=HR0.out;have hcut34:=cut_to (P:=Try.prog) 40 59 .i64 Try.underlying40 hi034 (some ad101) l0.length c0 t110 (of_decide_eq_true (by first|with_reducible assumption|assumption)) q34 hroom34;have hr34:=Kd.C_take (m:=(t110:Int).toNat) hC34 (by omega);have hy34:y111.length=(t110:Int).toNat:=(by rw [Ny111.out,lT];omega);rw [←Ny111.out] at hr34;rw [←hy34] at hcut34;have HR114:=mA hr34;have HC114:=mA (show y111.length≤c0 from by omega);clear hr34 hC34 hroom34 hi034 hsz34;have KY34:=mA hy34;clear hy34;replace q34:=eq_true q34)|(go_at_call 57;(with_reducible refine (ih k (by omega) _ _ y111 a1 false _ ?side1 ?side2 A19.out).mono ?_);(case side1=>repeat first|exact HR114.out|(with_reducible refine cA ?_ _)|(with_reducible refine cN ?_ _)|(with_reducible refine cD ?_));(case side2=>exact HC114.out);rintro e w' ⟨rfl,⟨nd,rfl⟩⟩;(try first|exact ⟨rfl,_,World.drewN_drewN _ _ _⟩|exact ⟨rfl,_,Eq.trans (World.drewN_drewN _ _ _) (congrArg (World.drewN _) (Nat.add_assoc _ _ _))⟩);have q35:((ji3):Int)≤((l0.length:Int):Int):=of_decide_eq_true (by first|with_reducible assumption|assumption);obtain ⟨i035,hi035,_,hsz35,_⟩:=info_parts info59;have hroom35:l0.length≤c0:=HC0.out;have hC35:Kd.C k59 _ (some ad101) l0.length l0:=HR0.out;have ql35:(t110:Int)≤((ji3):Int):=of_decide_eq_true (by first|with_reducible assumption|assumption);have q035:(0:Int)≤(t110:Int):=of_decide_eq_true (by first|with_reducible assumption|assumption);have hcut35:=cut_mid (P:=Try.prog) 40 59 .i64 .i64 Try.underlying40 hi035 2 hsz35 (some ad101) l0.length c0 t110 (ji3) q035 ql35 q35 hroom35;have hr35:=Kd.C_mid (lo:=(t110:Int).toNat) (hi:=((ji3):Int).toNat) (c:=c0) hC35 (by omega) (by omega) hroom35;obtain ⟨A35,hA35⟩ : ∃ A1,A1=(if c0=(t110:Int).toNat then (some ad101) else ((some ad101):Option Addr).map (·.add ((t110:Int).toNat*2))):=⟨_,rfl⟩;obtain ⟨c35,hc35⟩ : ∃ c1,c1=c0-(t110:Int).toNat:=⟨_,rfl⟩;have hy35:y116.length=((ji3):Int).toNat-(t110:Int).toNat:=(by rw [Ny116.out,lD,lT]<;>omega);rw [show ((l0).take ((ji3):Int).toNat).drop (t110:Int).toNat=y116 from Ny116.out.symm] at hr35;replace hr35:Kd.C k59 _ A35 y116.length y116:=(by rw [hA35];exact hr35);rw [←hy35, ←hA35, ←hc35] at hcut35;have HR119:=mA hr35;have HC119:=mA (show y116.length≤c35 from by rw [hy35,hc35];exact Nat.sub_le_sub_right (Nat.le_trans (by omega) hroom35) _);clear hr35 hC35 hroom35 hi035 hsz35 hc35;have KY35:=mA hy35;have KA35:=mA hA35;clear hy35 hA35;replace q35:=eq_true q35)|(go_at_call 57;(with_reducible refine (ih k (by omega) _ _ y116 a1 t120 _ ?side1 ?side2 A23.out).mono ?_);(case side1=>repeat first|exact HR119.out|(with_reducible refine cA ?_ _)|(with_reducible refine cN ?_ _)|(with_reducible refine cD ?_));(case side2=>exact HC119.out);rintro e w' ⟨rfl,⟨nd,rfl⟩⟩;(try first|exact ⟨rfl,_,World.drewN_drewN _ _ _⟩|exact ⟨rfl,_,Eq.trans (World.drewN_drewN _ _ _) (congrArg (World.drewN _) (Nat.add_assoc _ _ _))⟩);have p121:0≤((ji3):Int):=of_decide_eq_true (by first|with_reducible assumption|assumption);have q121:(ji3)<(l0.length:Int):=of_decide_eq_true (by first|with_reducible assumption|assumption);obtain ⟨ad121,e121,hx121_0,hx121_1⟩:=at_T59 HR0.out (ji3) p121 q121;obtain rfl:ad101=ad121:=(by injection e121);replace p121:=eq_true p121;replace q121:=eq_true q121)))
             go_ret
             exact ⟨by first|rfl|(simp;done)|(simp only [←hji3]<;>(first|rfl|simp))|(simp [*];done),by repeat (first|exact Drawn0.refl _|apply Drawn0.step)⟩
           ·rw [if_neg c30] at H
            have c30b0:(((rd_T59 l0 (ji3)).f0)==4)=false:=beq_eq_false_iff_ne.mpr c30
            have c30b1:(((rd_T59 l0 (ji3)).f0) != 4)=true:=bne_iff_ne.mpr c30
            obtain rfl:=Option.some.inj H
            have p101:0≤((ji3):Int):=of_decide_eq_true (by first|with_reducible assumption|assumption)
            have q101:(ji3)<(l0.length:Int):=of_decide_eq_true (by first|with_reducible assumption|assumption)
            obtain ⟨ad101,e101,hx101_0,hx101_1⟩:=at_T59 HR0.out (ji3) p101 q101
            cases e101
            replace p101:=eq_true p101
            replace q101:=eq_true q101
            go_enter Try.func57,Try.ntmps57
            go_wp2_with (first|(go_at_call 60;(with_reducible refine (spec_l2Starts.calls k _ _ l0 (wrap64 ((ji3)-1)) t110 _ ?side1 ?side2 A16.out).mono ?_);(case side1=>repeat first|exact HR0.out|(with_reducible refine cA ?_ _)|(with_reducible refine cN ?_ _)|(with_reducible refine cD ?_));(case side2=>exact HC0.out);rintro e w' ⟨rfl,⟨nd,rfl⟩⟩;(try first|exact ⟨rfl,_,World.drewN_drewN _ _ _⟩|exact ⟨rfl,_,Eq.trans (World.drewN_drewN _ _ _) (congrArg (World.drewN _) (Nat.add_assoc _ _ _))⟩);have q36:(t110:Int)≤((l0.length:Int):Int):=of_decide_eq_true (by first|with_reducible assumption|assumption);obtain ⟨i036,hi036,_,hsz36,_⟩:=info_parts info59;have hroom36:l0.length≤c0:=HC0.out;have hC36:Kd.C k59 _ (some ad101) l0.length l0:=HR0.out;have hcut36:=cut_to (P:=Try.prog) 40 59 .i64 Try.underlying40 hi036 (some ad101) l0.length c0 t110 (of_decide_eq_true (by first|with_reducible assumption|assumption)) q36 hroom36;have hr36:=Kd.C_take (m:=(t110:Int).toNat) hC36 (by omega);have hy36:y111.length=(t110:Int).toNat:=(by rw [Ny111.out,lT];omega);rw [←Ny111.out] at hr36;rw [←hy36] at hcut36;have HR114:=mA hr36;have HC114:=mA (show y111.length≤c0 from by omega);clear hr36 hC36 hroom36 hi036 hsz36;have KY36:=mA hy36;clear hy36;replace q36:=eq_true q36)|(go_at_call 57;(with_reducible refine (ih k (by omega) _ _ y111 a1 t115 _ ?side1 ?side2 A19.out).mono ?_);(case side1=>repeat first|exact HR114.out|(with_reducible refine cA ?_ _)|(with_reducible refine cN ?_ _)|(with_reducible refine cD ?_));(case side2=>exact HC114.out);rintro e w' ⟨rfl,⟨nd,rfl⟩⟩;(try first|exact ⟨rfl,_,World.drewN_drewN _ _ _⟩|exact ⟨rfl,_,Eq.trans (World.drewN_drewN _ _ _) (congrArg (World.drewN _) (Nat.add_assoc _ _ _))⟩);have q37:((ji3):Int)≤((l0.length:Int):Int):=of_decide_eq_true (by first|with_reducible assumption|assumption);obtain ⟨i037,hi037,_,hsz37,_⟩:=info_parts info59;have hroom37:l0.length≤c0:=HC0.out;have hC37:Kd.C k59 _ (some ad101) l0.length l0:=HR0.out;have ql37:(t110:Int)≤((ji3):Int):=of_decide_eq_true (by first|with_reducible assumption|assumption);have q037:(0:Int)≤(t110:Int):=of_decide_eq_true (by first|with_reducible assumption|assumption);have hcut37:=cut_mid (P:=Try.prog) 40 59 .i64 .i64 Try.underlying40 hi037 2 hsz37 (some ad101) l0.length c0 t110 (ji3) q037 ql37 q37 hroom37;have hr37:=Kd.C_mid (lo:=(t110:Int).toNat) (hi:=((ji3):Int).toNat) (c:=c0) hC37 (by omega) (by omega) hroom37;obtain ⟨A37,hA37⟩ : ∃ A1,A1=(if c0=(t110:Int).toNat then (some ad101) else ((some ad101):Option Addr).map (·.add ((t110:Int).toNat*2))):=⟨_,rfl⟩;obtain ⟨c37,hc37⟩ : ∃ c1,c1=c0-(t110:Int).toNat:=⟨_,rfl⟩;have hy37:y116.length=((ji3):Int).toNat-(t110:Int).toNat:=(by rw [Ny116.out,lD,lT]<;>omega);rw [show ((l0).take ((ji3):Int).toNat).drop (t110:Int).toNat=y116 from Ny116.out.symm] at hr37;replace hr37:Kd.C k59 _ A37 y116.length y116:=(by rw [hA37];exact hr37);rw [←hy37, ←hA37, ←hc37] at hcut37;have HR119:=mA hr37;have HC119:=mA (show y116.length≤c37 from by rw [hy37,hc37];exact Nat.sub_le_sub_right (Nat.le_trans (by omega) hroom37) _);clear hr37 hC37 hroom37 hi037 hsz37 hc37;have KY37:=mA hy37;have KA37:=mA hA37;clear hy37 hA37;replace q37:=eq_true q37)|(go_at_call 57;(with_reducible refine (ih k (by omega) _ _ y116 a1 t120 _ ?side1 ?side2 A23.out).mono ?_);(case side1=>repeat first|exact HR119.out|(with_reducible refine cA ?_ _)|(with_reducible refine cN ?_ _)|(with_reducible refine cD ?_));(case side2=>exact HC119.out);rintro e w' ⟨rfl,⟨nd,rfl⟩⟩;(try first|exact ⟨rfl,_,World.drewN_drewN _ _ _⟩|exact ⟨rfl,_,Eq.trans (World.drewN_drewN _ _ _) (congrArg (World.drewN _) (Nat.add_assoc _ _ _))⟩);have p121:0≤((ji3):Int):=of_decide_eq_true (by first|with_reducible assumption|assumption);have q121:(ji3)<(l0.length:Int):=of_decide_eq_true (by first|with_reducible assumption|assumption);obtain ⟨ad121,e121,hx121_0,hx121_1⟩:=at_T59 HR0.out (ji3) p121 q121;obtain rfl:ad101=ad121:=(by injection e121);replace p121:=eq_true p121;replace q121:=eq_true q121))
            repeat (go_quiet (first|(go_at_call 60;(with_reducible refine (spec_l2Starts.calls k _ _ l0 (wrap64 ((ji3)-1)) t110 _ ?side1 ?side2 A16.out).mono ?_);(case side1=>repeat first|exact HR0.out|(with_reducible refine cA ?_ _)|(with_reducible refine cN ?_ _)|(with_reducible refine cD ?_));(case side2=>exact HC0.out);rintro e w' ⟨rfl,⟨nd,rfl⟩⟩;(try first|exact ⟨rfl,_,World.drewN_drewN _ _ _⟩|exact ⟨rfl,_,Eq.trans (World.drewN_drewN _ _ _) (congrArg (World.drewN _) (Nat.add_assoc _ _ _))⟩);have q36:(t110:Int)≤((l0.length:Int):Int):=of_decide_eq_true (by first|with_reducible assumption|assumption);obtain ⟨i036,hi036,_,hsz36,_⟩:=info_parts info59;have hroom36:l0.length≤c0:=HC0.out;have hC36:Kd.C k59 _ (some ad101) l0.length l0:=HR0.out;have hcut36:=cut_to (P:=Try.prog) 40 59 .i64 Try.underlying40 hi036 (some ad101) l0.length c0 t110 (of_decide_eq_true (by first|with_reducible assumption|assumption)) q36 hroom36;have hr36:=Kd.C_take (m:=(t110:Int).toNat) hC36 (by omega);have hy36:y111.length=(t110:Int).toNat:=(by rw [Ny111.out,lT];omega);rw [←Ny111.out] at hr36;rw [←hy36] at hcut36;have HR114:=mA hr36;have HC114:=mA (show y111.length≤c0 from by omega);clear hr36 hC36 hroom36 hi036 hsz36;have KY36:=mA hy36;clear hy36;replace q36:=eq_true q36)|(go_at_call 57;(with_reducible refine (ih k (by omega) _ _ y111 a1 t115 _ ?side1 ?side2 A19.out).mono ?_);(case side1=>repeat first|exact HR114.out|(with_reducible refine cA ?_ _)|(with_reducible refine cN ?_ _)|(with_reducible refine cD ?_));(case side2=>exact HC114.out);rintro e w' ⟨rfl,⟨nd,rfl⟩⟩;(try first|exact ⟨rfl,_,World.drewN_drewN _ _ _⟩|exact ⟨rfl,_,Eq.trans (World.drewN_drewN _ _ _) (congrArg (World.drewN _) (Nat.add_assoc _ _ _))⟩);have q37:((ji3):Int)≤((l0.length:Int):Int):=of_decide_eq_true (by first|with_reducible assumption|assumption);obtain ⟨i037,hi037,_,hsz37,_⟩:=info_parts info59;have hroom37:l0.length≤c0:=HC0.out;have hC37:Kd.C k59 _ (some ad101) l0.length l0:=HR0.out;have ql37:(t110:Int)≤((ji3):Int):=of_decide_eq_true (by first|with_reducible assumption|assumption);have q037:(0:Int)≤(t110:Int):=of_decide_eq_true (by first|with_reducible assumption|assumption);have hcut37:=cut_mid (P:=Try.prog) 40 59 .i64 .i64 Try.underlying40 hi037 2 hsz37 (some ad101) l0.length c0 t110 (ji3) q037 ql37 q37 hroom37;have hr37:=Kd.C_mid (lo:=(t110:Int).toNat) (hi:=((ji3):Int).toNat) (c:=c0) hC37 (by omega) (by omega) hroom37;obtain ⟨A37,hA37⟩ : ∃ A1,A1=(if c0=(t110:Int).toNat then (some ad101) else ((some ad101):Option Addr).map (·.add ((t110:Int).toNat*2))):=⟨_,rfl⟩;obtain ⟨c37,hc37⟩ : ∃ c1,c1=c0-(t110:Int).toNat:=⟨_,rfl⟩;have hy37:y116.length=((ji3):Int).toNat-(t110:Int).toNat:=(by rw [Ny116.out,lD,lT]<;>omega);rw [show ((l0).take ((ji3):Int).toNat).drop (t110:Int).toNat=y116 from Ny116.out.symm] at hr37;replace hr37:Kd.C k59 _ A37 y116.length y116:=(by rw [hA37];exact hr37);rw [←hy37, ←hA37, ←hc37] at hcut37;have HR119:=mA hr37;have HC119:=mA (show y116.length≤c37 from by rw [hy37,hc37];exact Nat.sub_le_sub_right (Nat.le_trans (by omega) hroom37) _);clear hr37 hC37 hroom37 hi037 hsz37 hc37;have KY37:=mA hy37;have KA37:=mA hA37;clear hy37 hA37;replace q37:=eq_true q37)|(go_at_call 57;(with_reducible refine (ih k (by omega) _ _ y116 a1 t120 _ ?side1 ?side2 A23.out).mono ?_);(case side1=>repeat first|exact HR119.out|(with_reducible refine cA ?_ _)|(with_reducible refine cN ?_ _)|(with_reducible refine cD ?_));(case side2=>exact HC119.out);rintro e w' ⟨rfl,⟨nd,rfl⟩⟩;(try first|exact ⟨rfl,_,World.drewN_drewN _ _ _⟩|exact ⟨rfl,_,Eq.trans (World.drewN_drewN _ _ _) (congrArg (World.drewN _) (Nat.add_assoc _ _ _))⟩);have p121:0≤((ji3):Int):=of_decide_eq_true (by first|with_reducible assumption|assumption);have q121:(ji3)<(l0.length:Int):=of_decide_eq_true (by first|with_reducible assumption|assumption);obtain ⟨ad121,e121,hx121_0,hx121_1⟩:=at_T59 HR0.out (ji3) p121 q121;obtain rfl:ad101=ad121:=(by injection e121);replace p121:=eq_true p121;replace q121:=eq_true q121));try go_wp2_with (first|(go_at_call 60;(with_reducible refine (spec_l2Starts.calls k _ _ l0 (wrap64 ((ji3)-1)) t110 _ ?side1 ?side2 A16.out).mono ?_);(case side1=>repeat first|exact HR0.out|(with_reducible refine cA ?_ _)|(with_reducible refine cN ?_ _)|(with_reducible refine cD ?_));(case side2=>exact HC0.out);rintro e w' ⟨rfl,⟨nd,rfl⟩⟩;(try first|exact ⟨rfl,_,World.drewN_drewN _ _ _⟩|exact ⟨rfl,_,Eq.trans (World.drewN_drewN _ _ _) (congrArg (World.drewN _) (Nat.add_assoc _ _ _))⟩);have q36:(t110:Int)≤((l0.length:Int):Int):=of_decide_eq_true (by first|with_reducible assumption|assumption);obtain ⟨i036,hi036,_,hsz36,_⟩:=info_parts info59;have hroom36:l0.length≤c0:=HC0.out;have hC36:Kd.C k59 _ (some ad101) l0.length l0:=HR0.out;have hcut36:=cut_to (P:=Try.prog) 40 59 .i64 Try.underlying40 hi036 (some ad101) l0.length c0 t110 (of_decide_eq_true (by first|with_reducible assumption|assumption)) q36 hroom36;have hr36:=Kd.C_take (m:=(t110:Int).toNat) hC36 (by omega);have hy36:y111.length=(t110:Int).toNat:=(by rw [Ny111.out,lT];omega);rw [←Ny111.out] at hr36;rw [←hy36] at hcut36;have HR114:=mA hr36;have HC114:=mA (show y111.length≤c0 from by omega);clear hr36 hC36 hroom36 hi036 hsz36;have KY36:=mA hy36;clear hy36;replace q36:=eq_true q36)|(go_at_call 57;(with_reducible refine (ih k (by omega) _ _ y111 a1 t115 _ ?side1 ?side2 A19.out).mono ?_);(case side1=>repeat first|exact HR114.out|(with_reducible refine cA ?_ _)|(with_reducible refine cN ?_ _)|(with_reducible refine cD ?_));(case side2=>exact HC114.out);rintro e w' ⟨rfl,⟨nd,rfl⟩⟩;(try first|exact ⟨rfl,_,World.drewN_drewN _ _ _⟩|exact ⟨rfl,_,Eq.trans (World.drewN_drewN _ _ _) (congrArg (World.drewN _) (Nat.add_assoc _ _ _))⟩);have q37:((ji3):Int)≤((l0.length:Int):Int):=of_decide_eq_true (by first|with_reducible assumption|assumption);obtain ⟨i037,hi037,_,hsz37,_⟩:=info_parts info59;have hroom37:l0.length≤c0:=HC0.out;have hC37:Kd.C k59 _ (some ad101) l0.length l0:=HR0.out;have ql37:(t110:Int)≤((ji3):Int):=of_decide_eq_true (by first|with_reducible assumption|assumption);have q037:(0:Int)≤(t110:Int):=of_decide_eq_true (by first|with_reducible assumption|assumption);have hcut37:=cut_mid (P:=Try.prog) 40 59 .i64 .i64 Try.underlying40 hi037 2 hsz37 (some ad101) l0.length c0 t110 (ji3) q037 ql37 q37 hroom37;have hr37:=Kd.C_mid (lo:=(t110:Int).toNat) (hi:=((ji3):Int).toNat) (c:=c0) hC37 (by omega) (by omega) hroom37;obtain ⟨A37,hA37⟩ : ∃ A1,A1=(if c0=(t110:Int).toNat then (some ad101) else ((some ad101):Option Addr).map (·.add ((t110:Int).toNat*2))):=⟨_,rfl⟩;obtain ⟨c37,hc37⟩ : ∃ c1,c1=c0-(t110:Int).toNat:=⟨_,rfl⟩;have hy37:y116.length=((ji3):Int).toNat-(t110:Int).toNat:=(by rw [Ny116.out,lD,lT]<;>omega);rw [show ((l0).take ((ji3):Int).toNat).drop (t110:Int).toNat=y116 from Ny116.out.symm] at hr37;replace hr37:Kd.C k59 _ A37 y116.length y116:=(by rw [hA37];exact hr37);rw [←hy37, ←hA37, ←hc37] at hcut37;have HR119:=mA hr37;have HC119:=mA (show y116.length≤c37 from by rw [hy37,hc37];exact Nat.sub_le_sub_right (Nat.le_trans (by omega) hroom37) _);clear hr37 hC37 hroom37 hi037 hsz37 hc37;have KY37:=mA hy37;have KA37:=mA hA37;clear hy37 hA37;replace q37:=eq_true q37)|(go_at_call 57;(with_reducible refine (ih k (by omega) _ _ y116 a1 t120 _ ?side1 ?side2 A23.out).mono ?_);(case side1=>repeat first|exact HR119.out|(with_reducible refine cA ?_ _)|(with_reducible refine cN ?_ _)|(with_reducible refine cD ?_));(case side2=>exact HC119.out);rintro e w' ⟨rfl,⟨nd,rfl⟩⟩;(try first|exact ⟨rfl,_,World.drewN_drewN _ _ _⟩|exact ⟨rfl,_,Eq.trans (World.drewN_drewN _ _ _) (congrArg (World.drewN _) (Nat.add_assoc _ _ _))⟩);have p121:0≤((ji3):Int):=of_decide_eq_true (by first|with_reducible assumption|assumption);have q121:(ji3)<(l0.length:Int):=of_decide_eq_true (by first|with_reducible assumption|assumption);obtain ⟨ad121,e121,hx121_0,hx121_1⟩:=at_T59 HR0.out (ji3) p121 q121;obtain rfl:ad101=ad121:=(by injection e121);replace p121:=eq_true p121;replace q121:=eq_true q121)))
            go_ret
            exact ⟨by first|rfl|(simp;done)|(simp only [←hji3]<;>(first|rfl|simp))|(simp [*];done),by repeat (first|exact Drawn0.refl _|apply Drawn0.step)⟩
         ·rw [if_neg c22] at H
          exact absurd H (by simp)
        ·rw [if_neg c21] at H
         exact absurd H (by simp)
       ·rw [if_neg c18] at H
        exact absurd H (by simp)
      ·rw [if_neg c17] at H
       exact absurd H (by simp)
  ·rw [if_neg c5] at H
   exact absurd H (by simp)
 ·rw [if_neg c4] at H
  exact absurd H (by simp)
end Go.Proofs.Ytbhjeiphmnanoaa.X
