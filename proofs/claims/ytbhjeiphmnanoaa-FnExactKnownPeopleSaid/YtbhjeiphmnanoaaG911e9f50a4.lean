/- Joined by a program of this session's: LKPW, LIS, LM, X44, LMM, LME, LMD, LMS, LMSF, LMCS. -/
import Derived.Test.YtbhjeiphmnanoaaG91edfa380f
import Derived.Test.YtbhjeiphmnanoaaGd275c85a69
import Derived.Test.YtbhjeiphmnanoaaGf9406156f7
import Derived.Test.YtbhjeiphmnanoaaG96c12aded1
import Derived.Test.YtbhjeiphmnanoaaG9d29a8dfd8

/- What is known of people, whole: both functions. -/
namespace Go.Proofs.Ytbhjeiphmnanoaa.L
open Go.RowKit Go.Proofs.Ytbhjeiphmnanoaa.X Go.Proofs.YtbhjeiphmnanoaaW.PrintWords Go.Proofs.YtbhjeiphmnanoaaW.PrintLast Go.Proofs.YtbhjeiphmnanoaaW.PrintMore
open Go.Proofs.YtbhjeiphmnanoaaW.PrintWords renaming Aside0.mk → mA
open List renaming set_cons_zero → sZ
noncomputable def storyV (p:Int) (l:List C):Int:=if sok p l=true then ((stab p l:Nat):Int) else -1
noncomputable def knownP (p:Int) (l:List C):List Int:=if worldsIn p (storyV p l)=[] then [] else knownRow (worldsIn p (storyV p l)) p.toNat 0 []
theorem wls_len (x:Nat) : ∀ (d j:Nat) (acc:List Int),(wls x d j acc).length≤acc.length+d
 | 0,_,_=>Nat.le_refl _
 | d+1,j,acc=>by
  rw [wls]
  have:=wls_len x d (j+1) (if x.testBit j then acc++[(j:Int)] else acc)
  have h2:(if x.testBit j then acc++[(j:Int)] else acc).length≤acc.length+1:=by split<;>simp
  omega
theorem worldsIn_len (p x:Int):(worldsIn p x).length≤16:=by
 unfold worldsIn
 split
 ·rename_i h
  obtain ⟨h0,h1,_⟩:=tabok_iff.1 h
  obtain ⟨q,rfl,_,hq4,hq2,e⟩:=people_nat h0 h1
  rw [e]
  have:=wls_len x.toNat (2^q) 0 []
  simp at this
  omega
 ·simp
theorem worldsIn_people {p x:Int} (h:worldsIn p x≠[]):1≤p∧p≤4:=by
 unfold worldsIn at h
 by_cases hh:tabok p x=true
 ·have:=tabok_iff.1 hh
  exact ⟨this.1,this.2.1⟩
 ·rw [if_neg hh] at h
  exact absurd rfl h
theorem impl_Known_ev (p:Int) (l:List C) (hl:l.length≤4611686018427387904):Ev (fun k=>impl_KnownPeople.f k p l) (knownP p l):=by
 unfold impl_KnownPeople.f
 have hs:=impl_StoryTable_ev p l hl
 change Ev _ (storyV p l) at hs
 refine Ev.bind hs (Ev.bind (impl_WorldsIn_ev p _) ?_)
 have hwl:=worldsIn_wl p (storyV p l)
 have hlen:=worldsIn_len p (storyV p l)
 have hpp:=@worldsIn_people p (storyV p l)
 unfold knownP
 generalize worldsIn p (storyV p l)=W at *
 by_cases h:W=[]
 ·rw [if_pos h,h]
  exact Ev.yes (by simp) (Ev.some _)
 ·rw [if_neg h]
  have hne:0<W.length:=List.length_pos_iff.2 h
  obtain ⟨h0,h1⟩:=hpp h
  obtain ⟨q,rfl,_,hq4,hq2,e⟩:=people_nat h0 h1
  rw [e]
  exact Ev.no (by omega) (impl_Known_l hq4 hwl hne (by omega) q 0 [] (by omega) (by simp))
theorem spec_Known_ev (p:Int) (l:List C) (hl:l.length≤4611686018427387904) (hf:Fit l):Ev (fun k=>spec_KnownPeople.f k p l) (knownP p l):=by
 unfold spec_KnownPeople.f
 have hs:=spec_StoryTable_ev p l hl hf
 change Ev _ (storyV p l) at hs
 refine Ev.bind hs (Ev.bind (spec_WorldsIn_ev p _) ?_)
 have hwl:=worldsIn_wl p (storyV p l)
 have hlen:=worldsIn_len p (storyV p l)
 have hpp:=@worldsIn_people p (storyV p l)
 unfold knownP
 generalize worldsIn p (storyV p l)=W at *
 by_cases h:W=[]
 ·rw [if_pos h,h]
  refine Ev.step (fun k=>by simp only [spec_KnownPeople.l0];rfl) ?_
  have hj:Ev (fun k=>spec_KnownPeople.j1 k p [] [] 0 false) []:=Ev.step (fun k=>by simp only [spec_KnownPeople.j1];rfl) (Ev.no (by simp) (Ev.some _))
  exact Ev.ite (fun _=>by simpa using hj) (fun _=>hj)
 ·rw [if_neg h]
  have hne:0<W.length:=List.length_pos_iff.2 h
  obtain ⟨h0,h1⟩:=hpp h
  obtain ⟨q,rfl,_,hq4,hq2,e⟩:=people_nat h0 h1
  rw [e]
  exact spec_Known_l hq4 hwl hne (by omega) q 0 [] (by omega) (by simp)
theorem rdI_at (pre:List Int) (x:Int) (suf:List Int):rd (pre++x :: suf) ((pre.length:Nat):Int)=x:=by
 unfold rd
 simp [List.getD]
theorem eqIntS_l0 (l:List Int) (hl:l.length≤4611686018427387904) : ∀ (suf pre:List Int),l=pre++suf→Ev (fun k=>laws_eqIntS.l0 k l l ((pre.length:Nat):Int)) true:=by
 intro suf
 induction suf with
 | nil =>
  intro pre he
  have hle:l.length=pre.length:=by rw [he];simp
  exact Ev.step (fun k=>by simp only [laws_eqIntS.l0];rfl) (Ev.no (by omega) (Ev.some _))
 | cons m t ih =>
  intro pre he
  have hle:l.length=pre.length+(t.length+1):=by rw [he];simp
  refine Ev.step (fun k=>by simp only [laws_eqIntS.l0];rfl) ?_
  rw [w64 (by omega) (by omega),show (((pre.length:Nat):Int)+1)=(((pre++[m]).length:Nat):Int) by simp]
  exact Ev.yes (by omega) (Ev.yes (by omega) (Ev.yes (by omega) (Ev.yes trivial (ih (pre++[m]) (by rw [he];simp)))))
theorem eqIntS_ev (l:List Int) (hl:l.length≤4611686018427387904):Ev (fun k=>laws_eqIntS.f k l l) true:=by
 unfold laws_eqIntS.f
 exact Ev.yes rfl (eqIntS_l0 l hl l [] rfl)
/-- So many numbers one behind the other. -/
def mki:Nat→Int→List Int
 | 0,_=>[]
 | d+1,n=>n :: mki d (n+1)
theorem mki_length : ∀ (d:Nat) (n:Int),(mki d n).length=d
 | 0,_=>rfl
 | d+1,n=>by simp [mki,mki_length d]
theorem markIntS_row : ∀ (suf pre:List Int) (n:Int),pre.length+suf.length≤2000000→0≤n→n≤1000000000000-suf.length →
  Ev (fun k=>laws_markIntS.l0 k (pre++suf) n ((pre.length:Nat):Int)) (n+suf.length,pre++mki suf.length n):=by
 intro suf
 induction suf with
 | nil =>
  intro pre n hl h0 h1
  refine Ev.step (fun k=>by simp only [laws_markIntS.l0];rfl) ?_
  exact Ev.no (by simp) (Ev.cast (Ev.some _) (by simp [mki]))
 | cons m t ih =>
  intro pre n hl h0 h1
  simp only [List.length_cons] at hl h1
  refine Ev.step (fun k=>by simp only [laws_markIntS.l0];rfl) ?_
  refine Ev.yes (by simp;omega) (Ev.yes (by omega) ?_)
  rw [w64 (by omega) (by omega),w64 (by omega) (by omega)]
  have e:(pre++m :: t).set ((pre.length:Nat):Int).toNat n=pre++[n]++t:=by simp
  have e2:(((pre.length:Nat):Int)+1)=(((pre++[n]).length:Nat):Int):=by simp
  rw [e,e2]
  refine Ev.cast (ih (pre++[n]) (n+1) (by simp;omega) (by omega) (by omega)) ?_
  simp [mki]
  omega
theorem markIntS_one (l:List Int) (hl:l.length≤2000000):Ev (fun k=>laws_markIntS.f k l 1) (1+(l.length:Int),mki l.length 1):=by
 have:=markIntS_row l [] 1 (by simpa using hl) (by omega) (by omega)
 unfold laws_markIntS.f
 simpa using this
theorem heldIntS_row : ∀ (d:Nat) (pre:List Int) (n:Int),pre.length+d≤2000000→0≤n→n≤1000000000000-d →
  Ev (fun k=>laws_heldIntS.l0 k (pre++mki d n) n ((pre.length:Nat):Int)) (n+d):=by
 intro d
 induction d with
 | zero =>
  intro pre n hl h0 h1
  refine Ev.step (fun k=>by simp only [laws_heldIntS.l0];rfl) ?_
  exact Ev.no (by simp [mki]) (Ev.cast (Ev.some _) (by simp))
 | succ d ih =>
  intro pre n hl h0 h1
  have hm:rd (pre++mki (d+1) n) ((pre.length:Nat):Int)=n:=rdI_at pre _ _
  refine Ev.step (fun k=>by simp only [laws_heldIntS.l0];rfl) ?_
  rw [w64 (by omega) (by omega),w64 (by omega) (by omega),hm]
  refine Ev.yes (by simp [mki_length];omega) (Ev.yes (by omega) (Ev.yes rfl ?_))
  have e:pre++mki (d+1) n=(pre++[n])++mki d (n+1):=by simp [mki]
  rw [e,show (((pre.length:Nat):Int)+1)=(((pre++[n]).length:Nat):Int) by simp]
  exact Ev.cast (ih (pre++[n]) (n+1) (by simp;omega) (by omega) (by omega)) (by omega)
theorem heldIntS_one (d:Nat) (hd:d≤2000000):Ev (fun k=>laws_heldIntS.f k (mki d 1) 1) (1+(d:Int)):=by
 have:=heldIntS_row d [] 1 (by simpa using hd) (by omega) (by omega)
 unfold laws_heldIntS.f
 simpa using this
/-- A row of the law's marks as one of the program's. -/
def conv (l:List S65):List M:=l.map fun m=>⟨m.f0,m.f1⟩
theorem conv_length (l:List S65):(conv l).length=l.length:=by simp [conv]
theorem i64_wf {x:Int} (h:(Lit.int .i64 x).wf=true) : -9223372036854775808≤x∧x≤9223372036854775807:=by
 simp only [Lit.wf,IntKind.min,IntKind.max,IntKind.signed,IntKind.bits,Bool.and_eq_true,decide_eq_true_eq,if_true] at h
 simp at h
 omega
theorem conv_wf {l:List S65} (h : ∀ y∈l,wf65 y) : ∀ m∈conv l,m.f1≤9223372036854775807:=by
 intro m hm
 obtain ⟨y,hy,rfl⟩:=List.mem_map.1 hm
 exact (i64_wf (h y hy).2).2
theorem rdLM_at (pre:List S65) (m:S65) (suf:List S65):rd_T65 (pre++m :: suf) ((pre.length:Nat):Int)=m:=by
 unfold rd_T65
 simp [List.getD]
theorem szMarkS_eq (l:List S65) (n:Nat) (hn:n≤1048576) (hl:l.length≤9223372036854775807):laws_szMarkS.f l (n:Int)=some (if (n:Int)-l.length<0 then -1 else (n:Int)-l.length):=by
 unfold laws_szMarkS.f
 rw [w64 (by omega) (by omega)]
 by_cases h:(n:Int)-l.length<0
 ·rw [if_pos h,if_pos h]
 ·rw [if_neg h,if_neg h]
theorem toMarkS_l0 (l:List S65) (hl:l.length≤4611686018427387904) : ∀ (suf pre:List S65),l=pre++suf →
  Ev (fun k=>laws_toMarkS.l0 k l (conv pre++List.replicate suf.length z59) ((pre.length:Nat):Int)) (conv l):=by
 intro suf
 induction suf with
 | nil =>
  intro pre he
  have hle:l.length=pre.length:=by rw [he];simp
  refine Ev.step (fun k=>by simp only [laws_toMarkS.l0];rfl) ?_
  exact Ev.no (by omega) (Ev.cast (Ev.some _) (by rw [he];simp))
 | cons m t ih =>
  intro pre he
  have hle:l.length=pre.length+(t.length+1):=by rw [he];simp
  have hm:rd_T65 l ((pre.length:Nat):Int)=m:=by rw [he];exact rdLM_at pre m t
  have hnext:wrap64 (((pre.length:Nat):Int)+1)=(((pre++[m]).length:Nat):Int):=by rw [w64 (by omega) (by omega)];simp
  refine Ev.step (fun k=>by simp only [laws_toMarkS.l0];rfl) ?_
  refine Ev.yes (by omega) (Ev.yes (by omega) ?_)
  simp only [laws_toMark.f,Option.bind_some,hm,hnext]
  refine Ev.yes (by simp [conv];omega) ?_
  have e:(conv pre++List.replicate (m :: t).length z59).set ((pre.length:Nat):Int).toNat ⟨m.f0,m.f1⟩=conv (pre++[m])++List.replicate t.length z59:=by
   have:pre.length=(conv pre).length:=by simp [conv]
   rw [Int.toNat_natCast,this,List.set_append_right _ _ (Nat.le_refl _)]
   simp [List.replicate_succ,conv]
  rw [e]
  exact ih (pre++[m]) (by rw [he];simp)
theorem toMarkS_ev (l:List S65) (hl:l.length≤1048576):Ev (fun k=>laws_toMarkS.f k l) (conv l):=by
 unfold laws_toMarkS.f
 refine Ev.yes (by omega) (Ev.yes (by omega) ?_)
 have:=toMarkS_l0 l (by omega) l [] rfl
 simpa [conv] using this
theorem eqMarkS_l0 (l:List M) (hl:l.length≤4611686018427387904) : ∀ (suf pre:List M),l=pre++suf→Ev (fun k=>laws_eqMarkS.l0 k l l ((pre.length:Nat):Int)) true:=by
 intro suf
 induction suf with
 | nil =>
  intro pre he
  have hle:l.length=pre.length:=by rw [he];simp
  refine Ev.step (fun k=>by simp only [laws_eqMarkS.l0];rfl) ?_
  exact Ev.no (by omega) (Ev.some _)
 | cons m t ih =>
  intro pre he
  have hle:l.length=pre.length+(t.length+1):=by rw [he];simp
  have hnext:wrap64 (((pre.length:Nat):Int)+1)=(((pre++[m]).length:Nat):Int):=by rw [w64 (by omega) (by omega)];simp
  refine Ev.step (fun k=>by simp only [laws_eqMarkS.l0];rfl) ?_
  refine Ev.yes (by omega) (Ev.yes (by omega) (Ev.yes (by omega) ?_))
  simp only [laws_eqMark.f,if_true,Option.bind_some]
  rw [hnext]
  exact ih (pre++[m]) (by rw [he];simp)
theorem eqMarkS_ev (l:List M) (hl:l.length≤4611686018427387904):Ev (fun k=>laws_eqMarkS.f k l l) true:=by
 unfold laws_eqMarkS.f
 exact Ev.yes rfl (eqMarkS_l0 l hl l [] rfl)
end Go.Proofs.Ytbhjeiphmnanoaa.L
namespace Go.Proofs.Ytbhjeiphmnanoaa.X
open Go.RowKit Go.Proofs.YtbhjeiphmnanoaaW.PrintWords Go.Proofs.YtbhjeiphmnanoaaW.PrintLast Go.Proofs.YtbhjeiphmnanoaaW.PrintMore
open Go.Proofs.YtbhjeiphmnanoaaW.PrintWords renaming Aside0.mk → mA
open List renaming set_cons_zero → sZ
attribute [local go_sem] max2_int min2_int max_two min_two max_three min_three max_four min_four   -- for this text's walks alone
set_option linter.unusedVariables false
set_option linter.unusedSimpArgs false
/-! ### laws_heldMarkS: function 31 -/
def laws_heldMarkS.l0:Nat→List (S59)→Int→Int→Option (Int)
 | 0,_,_,_=>none
 | k+1,x0,x1,x5=>if x5<(x0.length:Int) then (if 0≤x5 then (if ((rd_T59 x0 x5).f0)=x1 then (if ((rd_T59 x0 x5).f1)=(wrap64 (x1+1)) then (laws_heldMarkS.l0 k x0 (wrap64 ((wrap64 (x1+1))+1)) (wrap64 (x5+1))) else (some (-1))) else (some (-1))) else (none)) else (some x1)
def laws_heldMarkS.f (k:Nat) (l0:List (S59)) (a1:Int):Option (Int):=laws_heldMarkS.l0 k l0 a1 0
theorem laws_heldMarkS.mono_l : ∀ k,(∀ y0 y1 y2,LeO (laws_heldMarkS.l0 k y0 y1 y2) (laws_heldMarkS.l0 (k+1) y0 y1 y2))
 | 0=>fun _ _ _ r h=>by simp [laws_heldMarkS.l0] at h
 | k+1=>by
  have ih0:=laws_heldMarkS.mono_l k
  ·intro y0 y1 y2
   unfold laws_heldMarkS.l0
   repeat' first
   | (with_reducible exact ih0 _ _ _)
   | (with_reducible exact LeO.refl _)
   | (with_reducible exact LeO.none _)
   | (with_reducible refine LeO.ite ?_ ?_)
   | (with_reducible refine LeO.bind ?_ (fun _=>?_))
   | exact ih0 _ _ _
   | exact LeO.none _
   | refine LeO.ite ?_ ?_
   | refine LeO.bind ?_ (fun _=>?_)
theorem laws_heldMarkS.mono : ∀ a0 a1 k,LeO (laws_heldMarkS.f k a0 a1) (laws_heldMarkS.f (k+1) a0 a1):=by
 intro a0 a1 k
 have ih0:=laws_heldMarkS.mono_l k
 unfold laws_heldMarkS.f
 repeat' first
   | (with_reducible exact ih0 _ _ _)
   | (with_reducible exact LeO.refl _)
   | (with_reducible exact LeO.none _)
   | (with_reducible refine LeO.ite ?_ ?_)
   | (with_reducible refine LeO.bind ?_ (fun _=>?_))
   | exact ih0 _ _ _
   | exact LeO.none _
   | refine LeO.ite ?_ ?_
   | refine LeO.bind ?_ (fun _=>?_)
set_option maxHeartbeats 8000000 in
set_option maxRecDepth 100000 in
theorem laws_heldMarkS.calls (k:Nat) (A0:Option Addr) (c0:Nat) (l0:List (S59)) (a1:Int) (r:Int) (w:World) (hr0:Kd.C k59 w A0 l0.length l0) (hc0:l0.length≤c0) (h:laws_heldMarkS.f k l0 a1=some r) :
  Calls Try.prog 31 #[.slice A0 l0.length c0,.int .i64 a1] w fun e w'=>e = .returned (.int .i64 r)∧Drawn0 w w':=by
 have HR0:=mA hr0
 have HC0:=mA hc0
 clear hr0 hc0
 have H:(laws_heldMarkS.l0 k l0 a1 0)=some r:=h
 clear h
 have H':=mA H
 clear H
 go_enter Try.func31,Try.ntmps31
 go_wp2
 go_loopg [1,5] k (fun kq v1 v5 w'=>∃ (x1_1:Int) (x5_1:Int),v1 = .int .i64 x1_1∧v5 = .int .i64 x5_1∧Aside0 (laws_heldMarkS.l0 kq l0 x1_1 x5_1=some r)∧Aside0 (kq≤k)∧Drawn0 w w')
 case atStart=>exact ⟨(a1),(0),(by first|rfl|(simp;done)|(simp [*];done)),(by first|rfl|(simp;done)|(simp [*];done)),H',⟨Nat.le_refl _⟩,by repeat (first|exact Drawn0.refl _|apply Drawn0.step)⟩
 case round =>
  clear H'
  try clear p2
  obtain ⟨x1_1,x5_1,rfl,rfl,HA,HK1,⟨m1,rfl⟩⟩:=hrel
  cases gk with
  | zero=>exact absurd HA.out (by simp [laws_heldMarkS.l0])
  | succ k1 =>
   have H:=HA.out
   clear HA
   simp only [laws_heldMarkS.l0] at H
   by_cases c3:x5_1<(l0.length:Int)
   ·rw [if_pos c3] at H
    have c3b0:decide (x5_1<(l0.length:Int))=true:=decide_eq_true c3
    clear c3
    by_cases c4:0≤x5_1
    ·rw [if_pos c4] at H
     have c4b0:decide (0≤x5_1)=true:=decide_eq_true c4
     clear c4
     by_cases c5:((rd_T59 l0 x5_1).f0)=x1_1
     ·rw [if_pos c5] at H
      have c5b0:(((rd_T59 l0 x5_1).f0)==x1_1)=true:=beq_iff_eq.mpr c5
      have c5b1:(((rd_T59 l0 x5_1).f0) != x1_1)=false:=bne_eq_false_iff_eq.mpr c5
      clear c5
      by_cases c6:((rd_T59 l0 x5_1).f1)=(wrap64 (x1_1+1))
      ·rw [if_pos c6] at H
       have c6b0:(((rd_T59 l0 x5_1).f1)==(wrap64 (x1_1+1)))=true:=beq_iff_eq.mpr c6
       have c6b1:(((rd_T59 l0 x5_1).f1) != (wrap64 (x1_1+1)))=false:=bne_eq_false_iff_eq.mpr c6
       clear c6
       have H':=mA H
       clear H
       have p101:0≤(x5_1:Int):=of_decide_eq_true (by first|with_reducible assumption|assumption)
       have q101:x5_1<(l0.length:Int):=of_decide_eq_true (by first|with_reducible assumption|assumption)
       obtain ⟨ad101,e101,hx101_0,hx101_1⟩:=at_T59 HR0.out x5_1 p101 q101
       cases e101
       replace p101:=eq_true p101
       replace q101:=eq_true q101
       have p102:0≤(x5_1:Int):=of_decide_eq_true (by first|with_reducible assumption|assumption)
       have q102:x5_1<(l0.length:Int):=of_decide_eq_true (by first|with_reducible assumption|assumption)
       obtain ⟨ad102,e102,hx102_0,hx102_1⟩:=at_T59 HR0.out x5_1 p102 q102
       obtain rfl:ad101=ad102:=(by injection e102)
       replace p102:=eq_true p102
       replace q102:=eq_true q102
       go_wp2
       go_roundg k1
       case measure=>have:=HK1.out;omega
       case rel=>exact ⟨(wrap64 ((wrap64 (x1_1+1))+1)),(wrap64 (x5_1+1)),(by first|rfl|(simp;done)|(simp [*];done)),(by first|rfl|(simp;done)|(simp [*];done)),H',⟨by have:=HK1.out;omega⟩,by repeat (first|exact Drawn0.refl _|apply Drawn0.step)⟩
      ·rw [if_neg c6] at H
       have c6b0:(((rd_T59 l0 x5_1).f1)==(wrap64 (x1_1+1)))=false:=beq_eq_false_iff_ne.mpr c6
       have c6b1:(((rd_T59 l0 x5_1).f1) != (wrap64 (x1_1+1)))=true:=bne_iff_ne.mpr c6
       obtain rfl:=Option.some.inj H
       have p101:0≤(x5_1:Int):=of_decide_eq_true (by first|with_reducible assumption|assumption)
       have q101:x5_1<(l0.length:Int):=of_decide_eq_true (by first|with_reducible assumption|assumption)
       obtain ⟨ad101,e101,hx101_0,hx101_1⟩:=at_T59 HR0.out x5_1 p101 q101
       cases e101
       replace p101:=eq_true p101
       replace q101:=eq_true q101
       have p102:0≤(x5_1:Int):=of_decide_eq_true (by first|with_reducible assumption|assumption)
       have q102:x5_1<(l0.length:Int):=of_decide_eq_true (by first|with_reducible assumption|assumption)
       obtain ⟨ad102,e102,hx102_0,hx102_1⟩:=at_T59 HR0.out x5_1 p102 q102
       obtain rfl:ad101=ad102:=(by injection e102)
       replace p102:=eq_true p102
       replace q102:=eq_true q102
       go_wp2
       go_ret
       exact ⟨by first|rfl|(simp;done)|(simp [*];done),by repeat (first|exact Drawn0.refl _|apply Drawn0.step)⟩
     ·rw [if_neg c5] at H
      have c5b0:(((rd_T59 l0 x5_1).f0)==x1_1)=false:=beq_eq_false_iff_ne.mpr c5
      have c5b1:(((rd_T59 l0 x5_1).f0) != x1_1)=true:=bne_iff_ne.mpr c5
      obtain rfl:=Option.some.inj H
      have p101:0≤(x5_1:Int):=of_decide_eq_true (by first|with_reducible assumption|assumption)
      have q101:x5_1<(l0.length:Int):=of_decide_eq_true (by first|with_reducible assumption|assumption)
      obtain ⟨ad101,e101,hx101_0,hx101_1⟩:=at_T59 HR0.out x5_1 p101 q101
      cases e101
      replace p101:=eq_true p101
      replace q101:=eq_true q101
      go_wp2
      go_ret
      exact ⟨by first|rfl|(simp;done)|(simp [*];done),by repeat (first|exact Drawn0.refl _|apply Drawn0.step)⟩
    ·rw [if_neg c4] at H
     exact absurd H (by simp)
   ·rw [if_neg c3] at H
    have c3b0:decide (x5_1<(l0.length:Int))=false:=decide_eq_false c3
    clear c3
    obtain rfl:=Option.some.inj H
    go_wp2
    go_ret
    exact ⟨by first|rfl|(simp;done)|(simp [*];done),by repeat (first|exact Drawn0.refl _|apply Drawn0.step)⟩
end Go.Proofs.Ytbhjeiphmnanoaa.X
/- Plain laws of marking and holding rows of marks. -/
namespace Go.Proofs.Ytbhjeiphmnanoaa.L
open Go.RowKit Go.Proofs.Ytbhjeiphmnanoaa.X Go.Proofs.YtbhjeiphmnanoaaW.PrintWords Go.Proofs.YtbhjeiphmnanoaaW.PrintLast Go.Proofs.YtbhjeiphmnanoaaW.PrintMore
open Go.Proofs.YtbhjeiphmnanoaaW.PrintWords renaming Aside0.mk → mA
open List renaming set_cons_zero → sZ
/-- So many marks with numbers one behind the other. -/
def mkd:Nat→Int→List M
 | 0,_=>[]
 | d+1,n=>⟨n,n+1⟩ :: mkd d (n+1+1)
theorem eqClaim_ev (i:Int) (l:List M) (hl:l.length≤4611686018427387904):Ev (fun k=>laws_eqClaim.f k i l i l) true:=by
 unfold laws_eqClaim.f
 exact Ev.yes rfl (Ev.bind (eqMarkS_ev l hl) (Ev.yes rfl (Ev.some _)))
theorem toClaim_ev (i:Int) (l:List S65) (hl:l.length≤1048576):Ev (fun k=>laws_toClaim.f k i l) (i,conv l):=by
 unfold laws_toClaim.f
 exact Ev.bind (toMarkS_ev l hl) (Ev.some _)
/-- A row of the law's claims as one of the program's. -/
def convC (l:List S38):List C:=l.map fun c=>⟨c.f0,conv c.f1⟩
theorem convC_length (l:List S38):(convC l).length=l.length:=by simp [convC]
theorem rdLC_at (pre:List S38) (m:S38) (suf:List S38):rd_T38 (pre++m :: suf) ((pre.length:Nat):Int)=m:=by
 unfold rd_T38
 simp [List.getD]
theorem szClaimS_l0 {l:List S38} (hl:l.length≤4611686018427387904) (hb : ∀ y∈l,y.f1.length≤9223372036854775807) : ∀ (suf pre:List S38) (n:Nat),l=pre++suf→n≤1048576 →
  ∃ r:Int,Ev (fun k=>laws_szClaimS.l0 k l (n:Int) ((pre.length:Nat):Int)) r∧(r<0 ∨ ∀ y∈suf,y.f1.length≤1048576):=by
 intro suf
 induction suf with
 | nil =>
  intro pre n he hn
  have hle:l.length=pre.length:=by rw [he];simp
  exact ⟨(n:Int),Ev.step (fun k=>by simp only [laws_szClaimS.l0];rfl) (Ev.no (by omega) (Ev.some _)),.inr (fun y hy=>by cases hy)⟩
 | cons c t ih =>
  intro pre n he hn
  have hle:l.length=pre.length+(t.length+1):=by rw [he];simp
  have hc:rd_T38 l ((pre.length:Nat):Int)=c:=by rw [he];exact rdLC_at pre c t
  have hcb:=hb c (by rw [he];simp)
  have hsz:laws_szClaim.f c.f0 c.f1 (n:Int)=some (if (n:Int)-c.f1.length<0 then (-1:Int) else (n:Int)-c.f1.length):=by
   unfold laws_szClaim.f
   rw [szMarkS_eq c.f1 n hn hcb,Option.bind_some]
   by_cases h:(n:Int)-c.f1.length<0
   ·rw [if_pos h,if_pos (by omega)]
   ·rw [if_neg h,if_neg h]
  by_cases h:(n:Int)-c.f1.length<0
  ·refine ⟨-1,Ev.step (fun k=>by simp only [laws_szClaimS.l0];rfl) ?_,.inl (by omega)⟩
   rw [hc,hsz,if_pos h]
   simp only [Option.bind_some]
   exact Ev.yes (by omega) (Ev.yes (by omega) (Ev.yes (by omega) (Ev.some _)))
  ·obtain ⟨m,hm⟩:=Int.eq_ofNat_of_zero_le (show 0≤(n:Int)-c.f1.length by omega)
   obtain ⟨r,hr,hx⟩:=ih (pre++[c]) m (by rw [he];simp) (by omega)
   refine ⟨r,Ev.step (fun k=>by simp only [laws_szClaimS.l0];rfl) ?_,?_⟩
   ·rw [hc,hsz,if_neg h,w64 (by omega) (by omega),show (((pre.length:Nat):Int)+1)=(((pre++[c]).length:Nat):Int) by simp]
    simp only [Option.bind_some]
    rw [hm]
    exact Ev.yes (by omega) (Ev.yes (by omega) (Ev.no (by omega) hr))
   ·rcases hx with hx|hx
    ·exact .inl hx
    ·refine .inr (fun y hy=>?_)
     rcases List.mem_cons.1 hy with rfl|hy
     ·omega
     ·exact hx y hy
theorem szClaimS_ev (l:List S38) (hl:l.length≤9223372036854775807) (hb : ∀ y∈l,y.f1.length≤9223372036854775807) : ∃ r:Int,Ev (fun k=>laws_szClaimS.f k l 1048576) r∧(r<0∨(l.length≤1048576 ∧ ∀ y∈l,y.f1.length≤1048576)):=by
 unfold laws_szClaimS.f
 rw [w64 (by omega) (by omega)]
 by_cases h:(1048576:Int)-(l.length:Int)<0
 ·exact ⟨-1,Ev.yes h (Ev.some _),.inl (by omega)⟩
 ·obtain ⟨n,hn⟩:=Int.eq_ofNat_of_zero_le (show 0≤(1048576:Int)-(l.length:Int) by omega)
  obtain ⟨r,hr,hx⟩:=szClaimS_l0 (l:=l) (by omega) hb l [] n rfl (by omega)
  refine ⟨r,Ev.no h ?_,?_⟩
  ·rw [hn];exact hr
  ·rcases hx with hx|hx
   ·exact .inl hx
   ·exact .inr ⟨by omega,hx⟩
theorem toClaimS_l0 {l:List S38} (hl:l.length≤1048576) (hb : ∀ y∈l,y.f1.length≤1048576) : ∀ (suf pre:List S38),l=pre++suf →
  Ev (fun k=>laws_toClaimS.l0 k l (convC pre++List.replicate suf.length z42) ((pre.length:Nat):Int)) (convC l):=by
 intro suf
 induction suf with
 | nil =>
  intro pre he
  have hle:l.length=pre.length:=by rw [he];simp
  refine Ev.step (fun k=>by simp only [laws_toClaimS.l0];rfl) (Ev.no (by omega) (Ev.cast (Ev.some _) ?_))
  rw [he];simp
 | cons c t ih =>
  intro pre he
  have hle:l.length=pre.length+(t.length+1):=by rw [he];simp
  have hc:rd_T38 l ((pre.length:Nat):Int)=c:=by rw [he];exact rdLC_at pre c t
  have hcb:=hb c (by rw [he];simp)
  refine Ev.step (fun k=>by simp only [laws_toClaimS.l0];rfl) ?_
  rw [hc,w64 (by omega) (by omega),show (((pre.length:Nat):Int)+1)=(((pre++[c]).length:Nat):Int) by simp]
  refine Ev.yes (by omega) (Ev.yes (by omega) (Ev.bind (toClaim_ev c.f0 c.f1 hcb) (Ev.yes ?_ ?_)))
  ·rw [List.length_append,convC_length,List.length_replicate,List.length_cons];omega
  ·have e:(convC pre++List.replicate (c :: t).length z42).set ((pre.length:Nat):Int).toNat ⟨c.f0,conv c.f1⟩=convC (pre++[c])++List.replicate t.length z42:=by
    have e1:(convC pre++List.replicate (c :: t).length z42)=convC pre++z42 :: List.replicate t.length z42:=by simp [List.replicate_succ]
    rw [e1,Int.toNat_natCast, ←convC_length pre,List.set_append_right _ _ (Nat.le_refl _),Nat.sub_self,sZ]
    simp [convC]
   rw [e]
   exact ih (pre++[c]) (by rw [he];simp)
theorem toClaimS_ev (l:List S38) (hl:l.length≤1048576) (hb : ∀ y∈l,y.f1.length≤1048576):Ev (fun k=>laws_toClaimS.f k l) (convC l):=by
 unfold laws_toClaimS.f
 refine Ev.yes (by omega) (Ev.yes (by omega) ?_)
 rw [Int.toNat_natCast]
 exact toClaimS_l0 hl hb l [] rfl
theorem eqClaimS_l0 {l:List C} (hl:l.length≤4611686018427387904) (hb : ∀ c∈l,c.f1.length≤4611686018427387904) : ∀ (suf pre:List C),l=pre++suf→Ev (fun k=>laws_eqClaimS.l0 k l l ((pre.length:Nat):Int)) true:=by
 intro suf
 induction suf with
 | nil =>
  intro pre he
  have hle:l.length=pre.length:=by rw [he];simp
  exact Ev.step (fun k=>by simp only [laws_eqClaimS.l0];rfl) (Ev.no (by omega) (Ev.some _))
 | cons c t ih =>
  intro pre he
  have hle:l.length=pre.length+(t.length+1):=by rw [he];simp
  have hc:rd_T42 l ((pre.length:Nat):Int)=c:=by rw [he];exact rdC_at pre c t
  refine Ev.step (fun k=>by simp only [laws_eqClaimS.l0];rfl) ?_
  rw [hc,w64 (by omega) (by omega),show (((pre.length:Nat):Int)+1)=(((pre++[c]).length:Nat):Int) by simp]
  exact Ev.yes (by omega) (Ev.yes (by omega) (Ev.yes (by omega) (Ev.bind (eqClaim_ev c.f0 c.f1 (hb c (by rw [he];simp))) (Ev.yes rfl (ih (pre++[c]) (by rw [he];simp))))))
theorem eqClaimS_ev (l:List C) (hl:l.length≤4611686018427387904) (hb : ∀ c∈l,c.f1.length≤4611686018427387904):Ev (fun k=>laws_eqClaimS.f k l l) true:=by
 unfold laws_eqClaimS.f
 exact Ev.yes rfl (eqClaimS_l0 hl hb l [] rfl)
theorem convC_fit {l:List S38} (hw : ∀ y∈l,wf38 y) (hb : ∀ y∈l,y.f1.length≤1048576):Fit (convC l):=by
 intro c hc
 obtain ⟨y,hy,rfl⟩:=List.mem_map.1 hc
 exact ⟨by show (conv y.f1).length≤_;rw [conv_length];have:=hb y hy;omega,conv_wf (hw y hy).2⟩
theorem convC_len {l:List S38} (hb : ∀ y∈l,y.f1.length≤1048576) : ∀ c∈convC l,c.f1.length≤4611686018427387904:=by
 intro c hc
 obtain ⟨y,hy,rfl⟩:=List.mem_map.1 hc
 show (conv y.f1).length≤_
 rw [conv_length]
 have:=hb y hy
 omega
theorem markMarkS_far : ∀ (suf pre:List M) (n:Int),pre.length+suf.length≤2000000→0≤n→n≤1000000000000000000-2*suf.length →
  Ev (fun k=>laws_markMarkS.l0 k (pre++suf) n ((pre.length:Nat):Int)) (n+2*suf.length,pre++mkd suf.length n):=by
 intro suf
 induction suf with
 | nil =>
  intro pre n hl h0 h1
  refine Ev.step (fun k=>by simp only [laws_markMarkS.l0];rfl) ?_
  exact Ev.no (by simp) (Ev.cast (Ev.some _) (by simp [mkd]))
 | cons m t ih =>
  intro pre n hl h0 h1
  simp only [List.length_cons] at hl h1
  have hnext:wrap64 (((pre.length:Nat):Int)+1)=(((pre++[(⟨n,n+1⟩:M)]).length:Nat):Int):=by rw [w64 (by omega) (by omega)];simp
  refine Ev.step (fun k=>by simp only [laws_markMarkS.l0];rfl) ?_
  refine Ev.yes (by simp;omega) (Ev.yes (by omega) ?_)
  have hw:wrap64 (n+1)=n+1:=w64 (by omega) (by omega)
  have hw2:wrap64 (n+1+1)=n+1+1:=w64 (by omega) (by omega)
  have e1:(pre++m :: t).set ((pre.length:Nat):Int).toNat (⟨n,(rd_T59 (pre++m :: t) ((pre.length:Nat):Int)).f1⟩:M)=pre++⟨n,m.f1⟩ :: t:=by rw [rdM_at];simp
  have e2:(pre++(⟨n,m.f1⟩:M) :: t).set ((pre.length:Nat):Int).toNat (⟨(rd_T59 (pre++(⟨n,m.f1⟩:M) :: t) ((pre.length:Nat):Int)).f0,n+1⟩:M)=(pre++[⟨n,n+1⟩])++t:=by rw [rdM_at];simp
  simp only [Option.bind_some,hw,hw2,e1,e2,hnext]
  refine Ev.cast (ih (pre++[⟨n,n+1⟩]) (n+1+1) (by simp;omega) (by omega) (by omega)) ?_
  simp [mkd]
  omega
theorem markMarkS_at (l:List M) (n:Int) (hl:l.length≤2000000) (h0:0≤n) (h1:n≤100000000000000000):Ev (fun k=>laws_markMarkS.f k l n) (n+2*(l.length:Int),mkd l.length n):=by
 have:=markMarkS_far l [] n (by simpa using hl) h0 (by omega)
 unfold laws_markMarkS.f
 simpa using this
/-- Claims of so many marks with numbers one behind the other, and the number behind them. -/
def mkC:List Nat→Int→List C
 | [],_=>[]
 | d :: t,n=>⟨n,mkd d (n+1)⟩ :: mkC t (n+1+2*(d:Int))
def mkN:List Nat→Int→Int
 | [],n=>n
 | d :: t,n=>mkN t (n+1+2*(d:Int))
theorem mkN_ge : ∀ (ds:List Nat) (n:Int),n≤mkN ds n
 | [],_=>Int.le_refl _
 | d :: t,n=>by rw [mkN];have:=mkN_ge t (n+1+2*(d:Int));omega
def lens (l:List C):List Nat:=l.map fun c=>c.f1.length
theorem markClaimS_l0 : ∀ (suf pre:List C) (n:Int),pre.length+suf.length≤1100000→(∀ c∈suf,c.f1.length≤1048576)→0≤n→n≤10000000000000-3000000*suf.length →
  Ev (fun k=>laws_markClaimS.l0 k (pre++suf) n ((pre.length:Nat):Int)) (mkN (lens suf) n,pre++mkC (lens suf) n):=by
 intro suf
 induction suf with
 | nil =>
  intro pre n hl hc h0 h1
  refine Ev.step (fun k=>by simp only [laws_markClaimS.l0];rfl) ?_
  exact Ev.no (by simp) (Ev.cast (Ev.some _) (by simp [lens,mkC,mkN]))
 | cons c t ih =>
  intro pre n hl hc h0 h1
  simp only [List.length_cons] at hl h1
  have hcl:=hc c List.mem_cons_self
  have hx:rd_T42 (pre++c :: t) ((pre.length:Nat):Int)=c:=rdC_at pre c t
  refine Ev.step (fun k=>by simp only [laws_markClaimS.l0];rfl) ?_
  rw [hx,w64 (x:=n+1) (by omega) (by omega),w64 (by omega) (by omega)]
  refine Ev.yes (by simp;omega) (Ev.yes (by omega) (Ev.bind (markMarkS_at c.f1 (n+1) (by omega) (by omega) (by omega)) ?_))
  have e:(pre++c :: t).set ((pre.length:Nat):Int).toNat (⟨n,mkd c.f1.length (n+1)⟩:C)=pre++[⟨n,mkd c.f1.length (n+1)⟩]++t:=by simp
  have e2:(((pre.length:Nat):Int)+1)=(((pre++[(⟨n,mkd c.f1.length (n+1)⟩:C)]).length:Nat):Int):=by simp
  simp only [e,e2]
  refine Ev.cast (ih (pre++[⟨n,mkd c.f1.length (n+1)⟩]) (n+1+2*(c.f1.length:Int)) (by simp;omega) (fun y hy=>hc y (List.mem_cons_of_mem _ hy)) (by omega) (by omega)) ?_
  simp [lens,mkC,mkN]
theorem markClaimS_p (l:List C) (hl:l.length≤1048576) (hc : ∀ c∈l,c.f1.length≤1048576):Ev (fun k=>laws_markClaimS.p k l 1) (mkN (lens l) 1,mkC (lens l) 1):=by
 have:=markClaimS_l0 l [] 1 (by simp;omega) hc (by omega) (by omega)
 unfold laws_markClaimS.p
 simpa using this
theorem markClaimS_ev (l:List C) (hl:l.length≤1048576) (hc : ∀ c∈l,c.f1.length≤1048576):Ev (fun k=>laws_markClaimS.f k l 1) (mkN (lens l) 1):=by
 unfold laws_markClaimS.f
 exact Ev.bind (markClaimS_p l hl hc) (Ev.some _)
theorem convC_len' {l:List S38} (hb : ∀ y∈l,y.f1.length≤1048576) : ∀ c∈convC l,c.f1.length≤1048576:=by
 intro c hc
 obtain ⟨y,hy,rfl⟩:=List.mem_map.1 hc
 show (conv y.f1).length≤_
 rw [conv_length]
 exact hb y hy
end Go.Proofs.Ytbhjeiphmnanoaa.L
