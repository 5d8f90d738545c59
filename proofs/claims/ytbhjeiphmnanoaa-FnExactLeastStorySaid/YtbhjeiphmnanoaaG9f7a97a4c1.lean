/- Joined by a program of this session's: LO, LCB, LST, LSB, LWO, LWOS, LSM, LCBS, LSTS, LCQ, LLE, LM, LMM, LME, LMD, LMS, LMSF, LMCS, LHCS. -/
import Derived.Test.YtbhjeiphmnanoaaG6caa4eab2b
import Derived.Test.YtbhjeiphmnanoaaG33f55002db
import Derived.Test.YtbhjeiphmnanoaaGee5dae9bce
import Derived.Test.YtbhjeiphmnanoaaG4ad4e54ee5
import Derived.Test.YtbhjeiphmnanoaaGdb2d9c8475

/- Plain laws of claims: which are ones. -/
namespace Go.Proofs.Ytbhjeiphmnanoaa.L
open Go.RowKit Go.Proofs.Ytbhjeiphmnanoaa.X Go.Proofs.YtbhjeiphmnanoaaW.PrintWords Go.Proofs.YtbhjeiphmnanoaaW.PrintLast Go.Proofs.YtbhjeiphmnanoaaW.PrintMore
open List renaming set_cons_zero → sZ, length_take → lT, length_drop → lD
/-- A claim by one of so many people. -/
def clok (p i:Int) (t:List M):Bool:=decide (0≤i∧i<p)&&(tok p t&&decide (t.length≤13))
theorem clok_iff {p i:Int} {t:List M}:clok p i t=true ↔ 0≤i∧i<p∧tok p t=true∧t.length≤13:=by
 unfold clok
 simp only [Bool.and_eq_true,decide_eq_true_eq]
 exact ⟨fun h=>⟨h.1.1,h.1.2,h.2.1,h.2.2⟩,fun h=>⟨⟨h.1,h.2.1⟩,h.2.2.1,h.2.2.2⟩⟩
theorem clok_false {p i:Int} {t:List M} (h : ¬ (0≤i∧i<p∧tok p t=true∧t.length≤13)):false=clok p i t:=by
 cases e:clok p i t with
 | false=>rfl
 | true=>exact absurd (clok_iff.1 e) h
theorem impl_ClaimOk_ev (p i:Int) (t:List M):Ev (fun k=>impl_ClaimOk.f k p i t) (clok p i t):=by
 unfold impl_ClaimOk.f
 simp only [peopleOk_eq,Option.bind_some]
 by_cases h0:1≤p∧p≤4
 ·refine Ev.yes (decide_eq_true h0) ?_
  by_cases h1:i≥0
  ·refine Ev.yes h1 ?_
   by_cases h2:i<p
   ·refine Ev.yes h2 (Ev.bind (impl_TermOk_ev p t) ?_)
    by_cases h3:tok p t=true
    ·refine Ev.yes h3 (Ev.cast (Ev.some _) ?_)
     by_cases h4:t.length≤13
     ·rw [clok_iff.2 ⟨h1,h2,h3,h4⟩];exact decide_eq_true (by omega)
     ·rw [←clok_false (fun h=>h4 h.2.2.2)];exact decide_eq_false (by omega)
    ·exact Ev.no h3 (Ev.cast (Ev.some _) (clok_false (fun h=>h3 h.2.2.1)))
   ·exact Ev.no h2 (Ev.cast (Ev.some _) (clok_false (fun h=>h2 h.2.1)))
  ·exact Ev.no h1 (Ev.cast (Ev.some _) (clok_false (fun h=>h1 h.1)))
 ·refine Ev.no (by simpa using h0) (Ev.cast (Ev.some _) (clok_false (fun h=>h0 ?_)))
  have:=tok_iff.1 h.2.2.1
  omega
theorem spec_ClaimOk_ev (p i:Int) (t:List M) (hl:t.length≤4611686018427387904) (hw : ∀ m∈t,m.f1≤9223372036854775807):Ev (fun k=>spec_ClaimOk.f k p i t) (clok p i t):=by
 unfold spec_ClaimOk.f
 by_cases h1:i≥0
 ·refine Ev.yes h1 ?_
  by_cases h2:i<p
  ·refine Ev.yes h2 (Ev.bind (spec_TermOk_ev p t hl hw) ?_)
   by_cases h3:tok p t=true
   ·refine Ev.yes h3 (Ev.cast (Ev.some _) ?_)
    by_cases h4:t.length≤13
    ·rw [clok_iff.2 ⟨h1,h2,h3,h4⟩];exact decide_eq_true (by omega)
    ·rw [←clok_false (fun h=>h4 h.2.2.2)];exact decide_eq_false (by omega)
   ·exact Ev.no h3 (Ev.cast (Ev.some _) (clok_false (fun h=>h3 h.2.2.1)))
  ·exact Ev.no h2 (Ev.cast (Ev.some _) (clok_false (fun h=>h2 h.2.1)))
 ·exact Ev.no h1 (Ev.cast (Ev.some _) (clok_false (fun h=>h1 h.1)))
theorem impl_maySay_ev {p i:Int} {t:List M} (h:clok p i t=true) {w:Nat} (hw:w<16):Ev (fun k=>impl_maySay.f k i t (w:Int)) (may i t w):=by
 obtain ⟨h0,h1,h2,_⟩:=clok_iff.1 h
 have h4:=(tok_iff.1 h2).2.1
 obtain ⟨j,rfl⟩:=Int.eq_ofNat_of_zero_le h0
 unfold impl_maySay.f
 refine Ev.bind (impl_holds_hv h2 hw) (Ev.yes h0 (Ev.cast (Ev.some _) ?_))
 rw [bit_and' hw (show j<4 by omega)]
 rfl
/-- The table of a claim. -/
noncomputable def ctab (p i:Int) (t:List M):Nat:=tabL (may i t) (2^p.toNat)
theorem impl_ClaimTable_ev (p i:Int) (t:List M):Ev (fun k=>impl_ClaimTable.f k p i t) (if clok p i t=true then ((ctab p i t:Nat):Int) else -1):=by
 unfold impl_ClaimTable.f
 refine Ev.bind (impl_ClaimOk_ev p i t) ?_
 by_cases h:clok p i t=true
 ·rw [if_pos h]
  refine Ev.yes h ?_
  obtain ⟨hp0,hp1,_⟩:=tok_iff.1 (clok_iff.1 h).2.2.1
  obtain ⟨q,rfl,_,hq,hq2,_⟩:=people_nat hp0 hp1
  exact tableBy_ev hq (fun w hw=>impl_maySay_ev h (by omega))
 ·rw [if_neg h]
  exact Ev.no h (Ev.some _)
abbrev C:=S42
theorem rdC_at (pre:List C) (c:C) (suf:List C):rd_T42 (pre++c :: suf) ((pre.length:Nat):Int)=c:=by
 unfold rd_T42
 simp [List.getD]
/-- A story of so many people. -/
def sok (p:Int) (l:List C):Bool:=l.all (fun c=>clok p c.f0 c.f1)&&decide (1≤p∧p≤4∧l.length≤6)
theorem sok_iff {p:Int} {l:List C}:sok p l=true ↔ (∀ c∈l,clok p c.f0 c.f1=true)∧1≤p∧p≤4∧l.length≤6:=by
 unfold sok
 rw [Bool.and_eq_true,List.all_eq_true,decide_eq_true_eq]
theorem impl_StoryOk_l0 {p:Int} {l:List C} (hl:l.length≤4611686018427387904) : ∀ (suf pre:List C),l=pre++suf →
  Ev (fun k=>impl_StoryOk.l0 k p l l ((l.length:Nat):Int) ((pre.length:Nat):Int)) (suf.all (fun c=>clok p c.f0 c.f1)&&decide (1≤p∧p≤4∧l.length≤6)):=by
 intro suf
 induction suf with
 | nil =>
  intro pre he
  have hle:l.length=pre.length:=by rw [he];simp
  refine Ev.step (fun k=>by simp only [impl_StoryOk.l0];rfl) ?_
  refine Ev.no (by omega) ?_
  simp only [peopleOk_eq,Option.bind_some,List.all_nil,Bool.true_and]
  by_cases h:1≤p∧p≤4
  ·refine Ev.yes (decide_eq_true h) (Ev.cast (Ev.some _) ?_)
   exact decide_eq_decide.mpr (by omega)
  ·refine Ev.no (by simpa using h) (Ev.cast (Ev.some _) ?_)
   exact (decide_eq_false (fun hh=>h ⟨hh.1,hh.2.1⟩)).symm
 | cons c t ih =>
  intro pre he
  have hle:l.length=pre.length+(t.length+1):=by rw [he];simp
  have hc:rd_T42 l ((pre.length:Nat):Int)=c:=by rw [he];exact rdC_at pre c t
  refine Ev.step (fun k=>by simp only [impl_StoryOk.l0];rfl) ?_
  rw [hc,w64 (by omega) (by omega),show (((pre.length:Nat):Int)+1)=(((pre++[c]).length:Nat):Int) by simp]
  refine Ev.yes (by omega) (Ev.yes (by omega) (Ev.yes (by omega) (Ev.bind (impl_ClaimOk_ev p c.f0 c.f1) ?_)))
  by_cases h:clok p c.f0 c.f1=true
  ·exact Ev.yes h (Ev.cast (ih (pre++[c]) (by rw [he];simp)) (by rw [List.all_cons,h,Bool.true_and]))
  ·rw [Bool.not_eq_true] at h
   rw [h]
   exact Ev.no (by simp) (Ev.cast (Ev.some _) (by rw [List.all_cons,h];simp))
theorem impl_StoryOk_ev (p:Int) (l:List C) (hl:l.length≤4611686018427387904):Ev (fun k=>impl_StoryOk.f k p l) (sok p l):=by
 unfold impl_StoryOk.f
 exact impl_StoryOk_l0 hl l [] rfl
/-- All worlds, as bits. -/
def fullT (q:Nat):Nat:=2^(2^q)-1
theorem full_eq {q:Nat} (h1:1≤q) (h4:q≤4):wrap64 (shl .i64 1 (shl .u64 1 (q:Int))-1)=((fullT q:Nat):Int):=by
 have : ∀ q:Fin 5,1≤q.val→wrap64 (shl .i64 1 (shl .u64 1 ((q.val:Nat):Int))-1)=((fullT q.val:Nat):Int):=by decide +kernel
 exact this ⟨q,by omega⟩ h1
theorem full_lt {q:Nat} (h4:q≤4):fullT q<65536:=by
 have:(2:Nat)^q≤2^4:=Nat.pow_le_pow_right (by decide) h4
 have h2:(2:Nat)^(2^q)≤2^16:=Nat.pow_le_pow_right (by decide) (by omega)
 unfold fullT
 omega
/-- The table of a story, from some worlds on. -/
noncomputable def stabFrom (p:Int):Nat→List C→Nat
 | a,[]=>a
 | a,c :: l=>stabFrom p (a &&& ctab p c.f0 c.f1) l
noncomputable def stab (p:Int) (l:List C):Nat:=stabFrom p (fullT p.toNat) l
theorem and_lt {a b n:Nat} (h:a<n):a &&& b<n:=Nat.lt_of_le_of_lt Nat.and_le_left h
theorem ctab_lt' {p i:Int} {t:List M} (h:clok p i t=true):ctab p i t<65536:=by
 obtain ⟨hp0,hp1,_⟩:=tok_iff.1 (clok_iff.1 h).2.2.1
 obtain ⟨q,rfl,_,hq,hq2,e⟩:=people_nat hp0 hp1
 unfold ctab
 rw [e]
 exact tabL_mono hq2
theorem impl_storyTable_l0 {p:Int} {l:List C} (hl:l.length≤4611686018427387904) : ∀ (suf pre:List C) (a:Nat),l=pre++suf→(∀ c∈suf,clok p c.f0 c.f1=true)→a<65536 →
  Ev (fun k=>impl_storyTable.l0 k p (a:Int) l ((l.length:Nat):Int) ((pre.length:Nat):Int)) ((stabFrom p a suf:Nat):Int):=by
 intro suf
 induction suf with
 | nil =>
  intro pre a he _ _
  have hle:l.length=pre.length:=by rw [he];simp
  exact Ev.step (fun k=>by simp only [impl_storyTable.l0];rfl) (Ev.no (by omega) (Ev.some _))
 | cons c t ih =>
  intro pre a he hc0 ha
  have hle:l.length=pre.length+(t.length+1):=by rw [he];simp
  have hc:rd_T42 l ((pre.length:Nat):Int)=c:=by rw [he];exact rdC_at pre c t
  have hk:=hc0 c (by simp)
  refine Ev.step (fun k=>by simp only [impl_storyTable.l0];rfl) ?_
  rw [hc,w64 (by omega) (by omega),show (((pre.length:Nat):Int)+1)=(((pre++[c]).length:Nat):Int) by simp]
  refine Ev.yes (by omega) (Ev.yes (by omega) (Ev.yes (by omega) (Ev.bind (impl_ClaimTable_ev p c.f0 c.f1) ?_)))
  rw [if_pos hk]
  have hb:=ctab_lt' hk
  rw [and_nat (by omega) (by omega)]
  exact ih (pre++[c]) _ (by rw [he];simp) (fun x hx=>hc0 x (List.mem_cons_of_mem _ hx)) (and_lt ha)
theorem impl_storyTable_ev {p:Int} {l:List C} (h:sok p l=true):Ev (fun k=>impl_storyTable.f k p l) ((stab p l:Nat):Int):=by
 obtain ⟨h1,hp0,hp1,h6⟩:=sok_iff.1 h
 obtain ⟨q,rfl,hq1,hq,hq2,e⟩:=people_nat hp0 hp1
 unfold impl_storyTable.f stab
 rw [full_eq hq1 hq,e]
 exact Ev.yes (by omega) (impl_storyTable_l0 (by omega) l [] _ rfl h1 (full_lt hq))
/-- A story without the claim at a place. -/
def dropAt (l:List C) (i:Nat):List C:=l.take i++l.drop (i+1)
theorem dropAt_length {l:List C} {i:Nat} (h:i<l.length):(dropAt l i).length+1=l.length:=by
 unfold dropAt
 rw [List.length_append,lT,lD]
 omega
theorem dropAt_sub (l:List C) (i:Nat) : ∀ x∈dropAt l i,x∈l:=by
 intro x hx
 rcases List.mem_append.1 hx with hx|hx
 ·exact List.mem_of_mem_take hx
 ·exact List.mem_of_mem_drop hx
theorem sok_sub {p:Int} {a b:List C} (h : ∀ x∈a,x∈b) (hl:a.length≤b.length) (hb:sok p b=true):sok p a=true:=by
 obtain ⟨h1,h2,h3,h4⟩:=sok_iff.1 hb
 exact sok_iff.2 ⟨fun c hc=>h1 c (h c hc),h2,h3,by omega⟩
theorem sok_dropAt {p:Int} {l:List C} {i:Nat} (hs:sok p l=true):sok p (dropAt l i)=true :=
 sok_sub (dropAt_sub l i) (by unfold dropAt;rw [List.length_append,lT,lD];omega) hs
/-- What is left if each claim is left out that is needless then. -/
noncomputable def leastFrom (p:Int):Nat→Nat→List C→List C
 | 0,_,l=>l
 | d+1,i,l=>if stab p (dropAt l i)=stab p l then leastFrom p d i (dropAt l i) else leastFrom p d (i+1) l
theorem least_sub (p:Int) : ∀ (d i:Nat) (l:List C),(∀ x∈leastFrom p d i l,x∈l)∧(leastFrom p d i l).length≤l.length
 | 0,_,_=>⟨fun _ h=>h,Nat.le_refl _⟩
 | d+1,i,l=>by
  rw [leastFrom]
  by_cases h:stab p (dropAt l i)=stab p l
  ·rw [if_pos h]
   have ih:=least_sub p d i (dropAt l i)
   refine ⟨fun x hx=>dropAt_sub l i x (ih.1 x hx),Nat.le_trans ih.2 ?_⟩
   unfold dropAt
   rw [List.length_append,lT,lD]
   omega
  ·rw [if_neg h]
   exact least_sub p d (i+1) l
noncomputable def lstOf (p:Int) (l:List C):List C:=leastFrom p l.length 0 l
theorem cloneC_eq (u:List C) (h:u.length≤1000000):impl_Claim.f u=some u:=by
 unfold impl_Claim.f
 simp only [Option.bind_some,List.length_nil,List.nil_append]
 rw [if_pos (by omega)]
theorem impl_without_eq (l:List C) {i:Nat} (hi:i<l.length) (hl:l.length≤1000000):impl_without.f l (i:Int)=some (dropAt l i):=by
 unfold impl_without.f
 have h1:(0:Int)≤(i:Int):=by omega
 have h2:(i:Int)≤(l.length:Int):=by omega
 have h3:wrap64 ((i:Int)+1)=(i:Int)+1:=w64 (by omega) (by omega)
 have h4:(0:Int)≤(i:Int)+1:=by omega
 have h5:(i:Int)+1≤(l.length:Int):=by omega
 have h6:((i:Int)+1).toNat=i+1:=by omega
 have h7:(l.take i).length+(l.drop (i+1)).length<4398046511104:=by rw [lT,lD];omega
 have h8:impl_Claim.f (l.take i)=some (l.take i):=cloneC_eq _ (by rw [lT];omega)
 simp only [h3,h6,Int.toNat_natCast,if_pos h1,if_pos h2,if_pos h4,if_pos h5,h8,Option.bind_some,if_pos h7]
 rfl
theorem spec_without_eq (l:List C) {i:Nat} (hi:i<l.length) (hl:l.length≤1000000):spec_l5Without.f l (i:Int)=some (dropAt l i):=by
 unfold spec_l5Without.f
 have h1:(0:Int)≤(i:Int):=by omega
 have h2:(i:Int)≤(l.length:Int):=by omega
 have h3:wrap64 ((i:Int)+1)=(i:Int)+1:=w64 (by omega) (by omega)
 have h4:(0:Int)≤(i:Int)+1:=by omega
 have h5:(i:Int)+1≤(l.length:Int):=by omega
 have h6:((i:Int)+1).toNat=i+1:=by omega
 have h7:(l.take i).length+(l.drop (i+1)).length<4398046511104:=by rw [lT,lD];omega
 have h8:0+(l.take i).length<4398046511104:=by rw [lT];omega
 simp only [h3,h6,Int.toNat_natCast,Option.bind_some,List.length_nil,List.nil_append,if_pos h1,if_pos h2,if_pos h4,if_pos h5,if_pos h8,if_pos h7]
 rfl
theorem spec_may_ev {p i:Int} {t:List M} (h2:tok p t=true) (h0:0≤i) (h1:i<p) {w:Nat} (hw:w<16):Ev (fun k=>spec_l4May.f k i t (w:Int)) (may i t w):=by
 have h4:=(tok_iff.1 h2).2.1
 obtain ⟨j,rfl⟩:=Int.eq_ofNat_of_zero_le h0
 unfold spec_l4May.f
 refine Ev.yes h0 (Ev.bind (spec_holds_hv h2 hw) (Ev.cast (Ev.some _) ?_))
 rw [bit_mod' hw (show j<4 by omega)]
 unfold may
 exact Bool.beq_comm
theorem spec_l4May_ev {p i:Int} {t:List M} (h:clok p i t=true) {w:Nat} (hw:w<16):Ev (fun k=>spec_l4May.f k i t (w:Int)) (may i t w):=by
 obtain ⟨h0,h1,h2,_⟩:=clok_iff.1 h
 exact spec_may_ev h2 h0 h1 hw
theorem l4Table_l0 {q:Nat} {i:Int} {t:List M} (hq:q≤4) (hq2:2^q≤16) (h:clok (q:Int) i t=true) : ∀ d j,d+j=2^q →
  Ev (fun k=>spec_l4Table.l0 k (q:Int) ((tabL (may i t) j:Nat):Int) (j:Int) i t) ((tabL (may i t) (2^q):Nat):Int):=by
 intro d
 induction d with
 | zero =>
  intro j hj
  rw [Nat.zero_add] at hj
  refine Ev.step (fun k=>by simp only [spec_l4Table.l0];rfl) ?_
  rw [shl_nat (by omega)]
  refine Ev.yes (by omega) (Ev.no (by omega) (Ev.cast (Ev.some _) ?_))
  rw [hj]
 | succ d ih =>
  intro j hj
  refine Ev.step (fun k=>by simp only [spec_l4Table.l0];rfl) ?_
  rw [shl_nat (by omega)]
  refine Ev.yes (by omega) (Ev.yes (by omega) (Ev.bind (spec_l4May_ev h (by omega)) ?_))
  rw [w64 (by omega) (by omega),show ((j:Int)+1)=((j+1:Nat):Int) by omega]
  by_cases hb:may i t j=true
  ·refine Ev.yes hb (Ev.yes (by omega) ?_)
   rw [or_step (by omega) hb]
   exact ih (j+1) (by omega)
  ·refine Ev.no hb ?_
   have:=ih (j+1) (by omega)
   rwa [not_step hb] at this
theorem spec_l4Table_ev {p i:Int} {t:List M} (h:clok p i t=true):Ev (fun k=>spec_l4Table.f k p i t) ((ctab p i t:Nat):Int):=by
 unfold spec_l4Table.f
 obtain ⟨hp0,hp1,_⟩:=tok_iff.1 (clok_iff.1 h).2.2.1
 obtain ⟨q,rfl,_,hq,hq2,_⟩:=people_nat hp0 hp1
 exact l4Table_l0 hq hq2 h (2^q) 0 (by omega)
/-- Small enough for the reference's tests. -/
def Fit (l:List C):Prop:=∀ c∈l,c.f1.length≤4611686018427387904 ∧ ∀ m∈c.f1,m.f1≤9223372036854775807
theorem spec_StoryOk_l0 {p:Int} {l:List C} (hl:l.length≤4611686018427387904) : ∀ (suf pre:List C),l=pre++suf→Fit suf →
  Ev (fun k=>spec_StoryOk.l0 k p l ((pre.length:Nat):Int)) (suf.all (fun c=>clok p c.f0 c.f1)&&decide (1≤p∧p≤4∧l.length≤6)):=by
 intro suf
 induction suf with
 | nil =>
  intro pre he _
  have hle:l.length=pre.length:=by rw [he];simp
  refine Ev.step (fun k=>by simp only [spec_StoryOk.l0];rfl) ?_
  refine Ev.no (by omega) ?_
  simp only [l1In_eq,Option.bind_some,List.all_nil,Bool.true_and]
  by_cases h:1≤p∧p≤4
  ·refine Ev.yes (decide_eq_true h) (Ev.cast (Ev.some _) ?_)
   exact decide_eq_decide.mpr (by omega)
  ·refine Ev.no (by simpa using h) (Ev.cast (Ev.some _) ?_)
   exact (decide_eq_false (fun hh=>h ⟨hh.1,hh.2.1⟩)).symm
 | cons c t ih =>
  intro pre he hf
  have hle:l.length=pre.length+(t.length+1):=by rw [he];simp
  have hc:rd_T42 l ((pre.length:Nat):Int)=c:=by rw [he];exact rdC_at pre c t
  have hfc:=hf c (by simp)
  refine Ev.step (fun k=>by simp only [spec_StoryOk.l0];rfl) ?_
  rw [hc,w64 (by omega) (by omega),show (((pre.length:Nat):Int)+1)=(((pre++[c]).length:Nat):Int) by simp]
  refine Ev.yes (by omega) (Ev.yes (by omega) (Ev.bind (spec_ClaimOk_ev p c.f0 c.f1 hfc.1 hfc.2) ?_))
  by_cases h:clok p c.f0 c.f1=true
  ·exact Ev.yes h (Ev.cast (ih (pre++[c]) (by rw [he];simp) (fun x hx=>hf x (List.mem_cons_of_mem _ hx))) (by rw [List.all_cons,h,Bool.true_and]))
  ·rw [Bool.not_eq_true] at h
   rw [h]
   exact Ev.no (by simp) (Ev.cast (Ev.some _) (by rw [List.all_cons,h];simp))
theorem spec_StoryOk_ev (p:Int) (l:List C) (hl:l.length≤4611686018427387904) (hf:Fit l):Ev (fun k=>spec_StoryOk.f k p l) (sok p l):=by
 unfold spec_StoryOk.f
 exact spec_StoryOk_l0 hl l [] rfl hf
theorem spec_l4Story_l0 {p:Int} {l:List C} (hl:l.length≤4611686018427387904) : ∀ (suf pre:List C) (a:Nat),l=pre++suf→(∀ c∈suf,clok p c.f0 c.f1=true)→a<65536 →
  Ev (fun k=>spec_l4Story.l0 k p l (a:Int) ((pre.length:Nat):Int)) ((stabFrom p a suf:Nat):Int):=by
 intro suf
 induction suf with
 | nil =>
  intro pre a he _ _
  have hle:l.length=pre.length:=by rw [he];simp
  exact Ev.step (fun k=>by simp only [spec_l4Story.l0];rfl) (Ev.no (by omega) (Ev.some _))
 | cons c t ih =>
  intro pre a he hc0 ha
  have hle:l.length=pre.length+(t.length+1):=by rw [he];simp
  have hc:rd_T42 l ((pre.length:Nat):Int)=c:=by rw [he];exact rdC_at pre c t
  have hk:=hc0 c (by simp)
  refine Ev.step (fun k=>by simp only [spec_l4Story.l0];rfl) ?_
  rw [hc,w64 (by omega) (by omega),show (((pre.length:Nat):Int)+1)=(((pre++[c]).length:Nat):Int) by simp]
  refine Ev.yes (by omega) (Ev.yes (by omega) (Ev.bind (spec_l4Table_ev hk) ?_))
  have hb:=ctab_lt' hk
  rw [and_nat (by omega) (by omega)]
  exact ih (pre++[c]) _ (by rw [he];simp) (fun x hx=>hc0 x (List.mem_cons_of_mem _ hx)) (and_lt ha)
theorem spec_l4Story_ev {p:Int} {l:List C} (h:sok p l=true):Ev (fun k=>spec_l4Story.f k p l) ((stab p l:Nat):Int):=by
 obtain ⟨h1,hp0,hp1,h6⟩:=sok_iff.1 h
 obtain ⟨q,rfl,hq1,hq,hq2,e⟩:=people_nat hp0 hp1
 unfold spec_l4Story.f stab
 rw [full_eq hq1 hq,e]
 exact Ev.yes (by omega) (spec_l4Story_l0 (by omega) l [] _ rfl h1 (full_lt hq))
theorem clone_eq' (t:List M) (ht:t.length≤4611686018427):impl_Mark.f t=some t:=by
 unfold impl_Mark.f
 simp only [Option.bind_some,List.length_nil,List.nil_append]
 rw [if_pos (by omega)]
theorem copy_l {l:List C} (hl:l.length≤1000) (hc : ∀ c∈l,c.f1.length≤1000) : ∀ (suf pre:List C),l=pre++suf →
  Ev (fun k=>impl_copyStory.l0 k pre l (l.length:Int) ((pre.length:Nat):Int)) l:=by
 intro suf
 induction suf with
 | nil =>
  intro pre he
  rw [List.append_nil] at he
  subst he
  exact Ev.step (fun k=>by simp only [impl_copyStory.l0];rfl) (Ev.no (by omega) (Ev.some _))
 | cons c suf ih =>
  intro pre he
  have hle:l.length=pre.length+(suf.length+1):=by rw [he];simp
  have hx:rd_T42 l ((pre.length:Nat):Int)=c:=by rw [he];exact rdC_at pre c suf
  have hcl:=hc c (by rw [he];simp)
  refine Ev.step (fun k=>by simp only [impl_copyStory.l0];rfl) ?_
  rw [hx,clone_eq' c.f1 (by omega),w64 (by omega) (by omega),show (((pre.length:Nat):Int)+1)=(((pre++[c]).length:Nat):Int) by simp]
  simp only [Option.bind_some]
  exact Ev.yes (by omega) (Ev.yes (by omega) (Ev.yes (by omega) (Ev.yes (by omega) (ih (pre++[c]) (by rw [he];simp)))))
theorem copy_ev {p:Int} {l:List C} (hs:sok p l=true):Ev (fun k=>impl_copyStory.f k l) l:=by
 obtain ⟨h1,_,_,h6⟩:=sok_iff.1 hs
 unfold impl_copyStory.f
 exact copy_l (by omega) (fun c hc=>by have:=(clok_iff.1 (h1 c hc)).2.2.2;omega) l [] rfl
noncomputable def leastR (p:Int) (l:List C):List C×Bool:=if sok p l=true then (lstOf p l,true) else ([],false)
theorem impl_Least_l {p:Int} : ∀ (d i:Nat) (l:List C),sok p l=true→d+i=l.length→Ev (fun k=>impl_LeastStory.l0 k p l (i:Int)) (leastFrom p d i l,true):=by
 intro d
 induction d with
 | zero =>
  intro i l hs hd
  exact Ev.step (fun k=>by simp only [impl_LeastStory.l0];rfl) (Ev.no (by omega) (Ev.bind (copy_ev hs) (Ev.some _)))
 | succ d ih =>
  intro i l hs hd
  have h6:=(sok_iff.1 hs).2.2.2
  refine Ev.step (fun k=>by simp only [impl_LeastStory.l0];rfl) (Ev.yes (by omega) ?_)
  rw [impl_without_eq l (by omega) (by omega),w64 (by omega) (by omega),show ((i:Int)+1)=((i+1:Nat):Int) by omega,leastFrom]
  simp only [Option.bind_some]
  refine Ev.bind (impl_storyTable_ev (sok_dropAt hs)) (Ev.bind (impl_storyTable_ev hs) ?_)
  by_cases h:stab p (dropAt l i)=stab p l
  ·rw [if_pos h]
   have:=dropAt_length (l:=l) (i:=i) (by omega)
   exact Ev.yes (by rw [h]) (ih i (dropAt l i) (sok_dropAt hs) (by omega))
  ·rw [if_neg h]
   exact Ev.no (by omega) (ih (i+1) l hs (by omega))
theorem impl_Least_ev (p:Int) (l:List C) (hl:l.length≤4611686018427387904):Ev (fun k=>impl_LeastStory.f k p l) (leastR p l):=by
 unfold impl_LeastStory.f leastR
 refine Ev.bind (impl_StoryOk_ev p l hl) ?_
 by_cases hs:sok p l=true
 ·rw [if_pos hs]
  exact Ev.yes hs (Ev.bind (copy_ev hs) (impl_Least_l l.length 0 l hs (Nat.add_zero _)))
 ·rw [if_neg hs]
  exact Ev.no hs (Ev.some _)
theorem spec_Least_l1 {p:Int} : ∀ (d i:Nat) (l:List C),sok p l=true→d+i=l.length→Ev (fun k=>spec_LeastStory.l1 k p l (i:Int)) (leastFrom p d i l,true):=by
 intro d
 induction d with
 | zero =>
  intro i l hs hd
  exact Ev.step (fun k=>by simp only [spec_LeastStory.l1];rfl) (Ev.no (by omega) (Ev.some _))
 | succ d ih =>
  intro i l hs hd
  have h6:=(sok_iff.1 hs).2.2.2
  refine Ev.step (fun k=>by simp only [spec_LeastStory.l1];rfl) (Ev.yes (by omega) ?_)
  rw [spec_without_eq l (by omega) (by omega),w64 (by omega) (by omega),show ((i:Int)+1)=((i+1:Nat):Int) by omega,leastFrom]
  simp only [Option.bind_some]
  refine Ev.bind (spec_l4Story_ev (sok_dropAt hs)) (Ev.bind (spec_l4Story_ev hs) ?_)
  by_cases h:stab p (dropAt l i)=stab p l
  ·rw [if_pos h]
   have:=dropAt_length (l:=l) (i:=i) (by omega)
   exact Ev.yes (by rw [h]) (ih i (dropAt l i) (sok_dropAt hs) (by omega))
  ·rw [if_neg h]
   exact Ev.no (by omega) (ih (i+1) l hs (by omega))
theorem spec_Least_l0 {p:Int} {l:List C} (hs:sok p l=true) : ∀ (suf pre:List C),l=pre++suf→Ev (fun k=>spec_LeastStory.l0 k p l pre ((pre.length:Nat):Int)) (lstOf p l,true):=by
 obtain ⟨h1,_,_,h6⟩:=sok_iff.1 hs
 intro suf
 induction suf with
 | nil =>
  intro pre he
  rw [List.append_nil] at he
  subst he
  exact Ev.step (fun k=>by simp only [spec_LeastStory.l0];rfl) (Ev.no (by omega) (spec_Least_l1 l.length 0 l hs (Nat.add_zero _)))
 | cons c suf ih =>
  intro pre he
  have hle:l.length=pre.length+(suf.length+1):=by rw [he];simp
  have hx:rd_T42 l ((pre.length:Nat):Int)=c:=by rw [he];exact rdC_at pre c suf
  have hcl:=(clok_iff.1 (h1 c (by rw [he];simp))).2.2.2
  refine Ev.step (fun k=>by simp only [spec_LeastStory.l0];rfl) ?_
  rw [hx,w64 (by omega) (by omega),show (((pre.length:Nat):Int)+1)=(((pre++[c]).length:Nat):Int) by simp]
  simp only [Option.bind_some,List.nil_append,List.length_nil]
  exact Ev.yes (by omega) (Ev.yes (by omega) (Ev.yes (by omega) (Ev.yes (by omega) (ih (pre++[c]) (by rw [he];simp)))))
theorem spec_Least_ev (p:Int) (l:List C) (hl:l.length≤4611686018427387904) (hf:Fit l):Ev (fun k=>spec_LeastStory.f k p l) (leastR p l):=by
 unfold spec_LeastStory.f leastR
 refine Ev.bind (spec_StoryOk_ev p l hl hf) ?_
 by_cases hs:sok p l=true
 ·rw [if_pos hs]
  exact Ev.yes hs (spec_Least_l0 hs l [] rfl)
 ·rw [if_neg hs]
  exact Ev.no hs (Ev.some _)
theorem least_sok {p:Int} {l:List C} (hs:sok p l=true):sok p (lstOf p l)=true:=by
 have h:=least_sub p l.length 0 l
 exact sok_sub h.1 h.2 hs
/-- A row of the law's marks as one of the program's. -/
def conv (l:List S65):List M:=l.map fun m=>⟨m.f0,m.f1⟩
theorem conv_length (l:List S65):(conv l).length=l.length:=by simp [conv]
theorem i64_wf {x:Int} (h:(Lit.int .i64 x).wf=true) : -9223372036854775808≤x∧x≤9223372036854775807:=by
 simp only [Lit.wf,IntKind.min,IntKind.max,IntKind.signed,IntKind.bits,Bool.and_eq_true,decide_eq_true_eq,if_true] at h
 simp at h
 omega
theorem conv_wf {l:List S65} (h : ∀ y∈l,wf65 y) : ∀ m∈conv l,m.f1≤9223372036854775807:=by
 intro m hm
 obtain ⟨y,hy,rfl⟩:=List.mem_map.1 hm
 exact (i64_wf (h y hy).2).2
theorem rdLM_at (pre:List S65) (m:S65) (suf:List S65):rd_T65 (pre++m :: suf) ((pre.length:Nat):Int)=m:=by
 unfold rd_T65
 simp [List.getD]
theorem szMarkS_eq (l:List S65) (n:Nat) (hn:n≤1048576) (hl:l.length≤9223372036854775807):laws_szMarkS.f l (n:Int)=some (if (n:Int)-l.length<0 then -1 else (n:Int)-l.length):=by
 unfold laws_szMarkS.f
 rw [w64 (by omega) (by omega)]
 by_cases h:(n:Int)-l.length<0
 ·rw [if_pos h,if_pos h]
 ·rw [if_neg h,if_neg h]
theorem toMarkS_l0 (l:List S65) (hl:l.length≤4611686018427387904) : ∀ (suf pre:List S65),l=pre++suf →
  Ev (fun k=>laws_toMarkS.l0 k l (conv pre++List.replicate suf.length z59) ((pre.length:Nat):Int)) (conv l):=by
 intro suf
 induction suf with
 | nil =>
  intro pre he
  have hle:l.length=pre.length:=by rw [he];simp
  refine Ev.step (fun k=>by simp only [laws_toMarkS.l0];rfl) ?_
  exact Ev.no (by omega) (Ev.cast (Ev.some _) (by rw [he];simp))
 | cons m t ih =>
  intro pre he
  have hle:l.length=pre.length+(t.length+1):=by rw [he];simp
  have hm:rd_T65 l ((pre.length:Nat):Int)=m:=by rw [he];exact rdLM_at pre m t
  have hnext:wrap64 (((pre.length:Nat):Int)+1)=(((pre++[m]).length:Nat):Int):=by rw [w64 (by omega) (by omega)];simp
  refine Ev.step (fun k=>by simp only [laws_toMarkS.l0];rfl) ?_
  refine Ev.yes (by omega) (Ev.yes (by omega) ?_)
  simp only [laws_toMark.f,Option.bind_some,hm,hnext]
  refine Ev.yes (by simp [conv];omega) ?_
  have e:(conv pre++List.replicate (m :: t).length z59).set ((pre.length:Nat):Int).toNat ⟨m.f0,m.f1⟩=conv (pre++[m])++List.replicate t.length z59:=by
   have:pre.length=(conv pre).length:=by simp [conv]
   rw [Int.toNat_natCast,this,List.set_append_right _ _ (Nat.le_refl _)]
   simp [List.replicate_succ,conv]
  rw [e]
  exact ih (pre++[m]) (by rw [he];simp)
theorem toMarkS_ev (l:List S65) (hl:l.length≤1048576):Ev (fun k=>laws_toMarkS.f k l) (conv l):=by
 unfold laws_toMarkS.f
 refine Ev.yes (by omega) (Ev.yes (by omega) ?_)
 have:=toMarkS_l0 l (by omega) l [] rfl
 simpa [conv] using this
theorem eqMarkS_l0 (l:List M) (hl:l.length≤4611686018427387904) : ∀ (suf pre:List M),l=pre++suf→Ev (fun k=>laws_eqMarkS.l0 k l l ((pre.length:Nat):Int)) true:=by
 intro suf
 induction suf with
 | nil =>
  intro pre he
  have hle:l.length=pre.length:=by rw [he];simp
  refine Ev.step (fun k=>by simp only [laws_eqMarkS.l0];rfl) ?_
  exact Ev.no (by omega) (Ev.some _)
 | cons m t ih =>
  intro pre he
  have hle:l.length=pre.length+(t.length+1):=by rw [he];simp
  have hnext:wrap64 (((pre.length:Nat):Int)+1)=(((pre++[m]).length:Nat):Int):=by rw [w64 (by omega) (by omega)];simp
  refine Ev.step (fun k=>by simp only [laws_eqMarkS.l0];rfl) ?_
  refine Ev.yes (by omega) (Ev.yes (by omega) (Ev.yes (by omega) ?_))
  simp only [laws_eqMark.f,if_true,Option.bind_some]
  rw [hnext]
  exact ih (pre++[m]) (by rw [he];simp)
theorem eqMarkS_ev (l:List M) (hl:l.length≤4611686018427387904):Ev (fun k=>laws_eqMarkS.f k l l) true:=by
 unfold laws_eqMarkS.f
 exact Ev.yes rfl (eqMarkS_l0 l hl l [] rfl)
/-- So many marks with numbers one behind the other. -/
def mkd:Nat→Int→List M
 | 0,_=>[]
 | d+1,n=>⟨n,n+1⟩ :: mkd d (n+1+1)
theorem mkd_length : ∀ (d:Nat) (n:Int),(mkd d n).length=d
 | 0,_=>rfl
 | d+1,n=>by simp [mkd,mkd_length d]
theorem heldMarkS_l0 : ∀ (d:Nat) (pre:List M) (n:Int),pre.length+d≤2000000→0≤n→n≤1000000000000-2*d →
  Ev (fun k=>laws_heldMarkS.l0 k (pre++mkd d n) n ((pre.length:Nat):Int)) (n+2*d):=by
 intro d
 induction d with
 | zero =>
  intro pre n hl h0 h1
  refine Ev.step (fun k=>by simp only [laws_heldMarkS.l0];rfl) ?_
  exact Ev.no (by simp [mkd]) (Ev.cast (Ev.some _) (by simp))
 | succ d ih =>
  intro pre n hl h0 h1
  have hnext:wrap64 (((pre.length:Nat):Int)+1)=(((pre++[(⟨n,n+1⟩:M)]).length:Nat):Int):=by rw [w64 (by omega) (by omega)];simp
  have hm:rd_T59 (pre++mkd (d+1) n) ((pre.length:Nat):Int)=⟨n,n+1⟩:=rdM_at pre _ _
  have hw:wrap64 (n+1)=n+1:=w64 (by omega) (by omega)
  have hw2:wrap64 (n+1+1)=n+1+1:=w64 (by omega) (by omega)
  refine Ev.step (fun k=>by simp only [laws_heldMarkS.l0];rfl) ?_
  refine Ev.yes (by simp [mkd_length];omega) (Ev.yes (by omega) ?_)
  simp only [hm,hw,hw2,hnext]
  refine Ev.yes trivial (Ev.yes trivial ?_)
  have e:pre++mkd (d+1) n=(pre++[⟨n,n+1⟩])++mkd d (n+1+1):=by simp [mkd]
  rw [e]
  refine Ev.cast (ih (pre++[⟨n,n+1⟩]) (n+1+1) (by simp;omega) (by omega) (by omega)) (by omega)
theorem eqClaim_ev (i:Int) (l:List M) (hl:l.length≤4611686018427387904):Ev (fun k=>laws_eqClaim.f k i l i l) true:=by
 unfold laws_eqClaim.f
 exact Ev.yes rfl (Ev.bind (eqMarkS_ev l hl) (Ev.yes rfl (Ev.some _)))
theorem toClaim_ev (i:Int) (l:List S65) (hl:l.length≤1048576):Ev (fun k=>laws_toClaim.f k i l) (i,conv l):=by
 unfold laws_toClaim.f
 exact Ev.bind (toMarkS_ev l hl) (Ev.some _)
/-- A row of the law's claims as one of the program's. -/
def convC (l:List S38):List C:=l.map fun c=>⟨c.f0,conv c.f1⟩
theorem convC_length (l:List S38):(convC l).length=l.length:=by simp [convC]
theorem rdLC_at (pre:List S38) (m:S38) (suf:List S38):rd_T38 (pre++m :: suf) ((pre.length:Nat):Int)=m:=by
 unfold rd_T38
 simp [List.getD]
theorem szClaimS_l0 {l:List S38} (hl:l.length≤4611686018427387904) (hb : ∀ y∈l,y.f1.length≤9223372036854775807) : ∀ (suf pre:List S38) (n:Nat),l=pre++suf→n≤1048576 →
  ∃ r:Int,Ev (fun k=>laws_szClaimS.l0 k l (n:Int) ((pre.length:Nat):Int)) r∧(r<0 ∨ ∀ y∈suf,y.f1.length≤1048576):=by
 intro suf
 induction suf with
 | nil =>
  intro pre n he hn
  have hle:l.length=pre.length:=by rw [he];simp
  exact ⟨(n:Int),Ev.step (fun k=>by simp only [laws_szClaimS.l0];rfl) (Ev.no (by omega) (Ev.some _)),.inr (fun y hy=>by cases hy)⟩
 | cons c t ih =>
  intro pre n he hn
  have hle:l.length=pre.length+(t.length+1):=by rw [he];simp
  have hc:rd_T38 l ((pre.length:Nat):Int)=c:=by rw [he];exact rdLC_at pre c t
  have hcb:=hb c (by rw [he];simp)
  have hsz:laws_szClaim.f c.f0 c.f1 (n:Int)=some (if (n:Int)-c.f1.length<0 then (-1:Int) else (n:Int)-c.f1.length):=by
   unfold laws_szClaim.f
   rw [szMarkS_eq c.f1 n hn hcb,Option.bind_some]
   by_cases h:(n:Int)-c.f1.length<0
   ·rw [if_pos h,if_pos (by omega)]
   ·rw [if_neg h,if_neg h]
  by_cases h:(n:Int)-c.f1.length<0
  ·refine ⟨-1,Ev.step (fun k=>by simp only [laws_szClaimS.l0];rfl) ?_,.inl (by omega)⟩
   rw [hc,hsz,if_pos h]
   simp only [Option.bind_some]
   exact Ev.yes (by omega) (Ev.yes (by omega) (Ev.yes (by omega) (Ev.some _)))
  ·obtain ⟨m,hm⟩:=Int.eq_ofNat_of_zero_le (show 0≤(n:Int)-c.f1.length by omega)
   obtain ⟨r,hr,hx⟩:=ih (pre++[c]) m (by rw [he];simp) (by omega)
   refine ⟨r,Ev.step (fun k=>by simp only [laws_szClaimS.l0];rfl) ?_,?_⟩
   ·rw [hc,hsz,if_neg h,w64 (by omega) (by omega),show (((pre.length:Nat):Int)+1)=(((pre++[c]).length:Nat):Int) by simp]
    simp only [Option.bind_some]
    rw [hm]
    exact Ev.yes (by omega) (Ev.yes (by omega) (Ev.no (by omega) hr))
   ·rcases hx with hx|hx
    ·exact .inl hx
    ·refine .inr (fun y hy=>?_)
     rcases List.mem_cons.1 hy with rfl|hy
     ·omega
     ·exact hx y hy
theorem szClaimS_ev (l:List S38) (hl:l.length≤9223372036854775807) (hb : ∀ y∈l,y.f1.length≤9223372036854775807) : ∃ r:Int,Ev (fun k=>laws_szClaimS.f k l 1048576) r∧(r<0∨(l.length≤1048576 ∧ ∀ y∈l,y.f1.length≤1048576)):=by
 unfold laws_szClaimS.f
 rw [w64 (by omega) (by omega)]
 by_cases h:(1048576:Int)-(l.length:Int)<0
 ·exact ⟨-1,Ev.yes h (Ev.some _),.inl (by omega)⟩
 ·obtain ⟨n,hn⟩:=Int.eq_ofNat_of_zero_le (show 0≤(1048576:Int)-(l.length:Int) by omega)
  obtain ⟨r,hr,hx⟩:=szClaimS_l0 (l:=l) (by omega) hb l [] n rfl (by omega)
  refine ⟨r,Ev.no h ?_,?_⟩
  ·rw [hn];exact hr
  ·rcases hx with hx|hx
   ·exact .inl hx
   ·exact .inr ⟨by omega,hx⟩
theorem toClaimS_l0 {l:List S38} (hl:l.length≤1048576) (hb : ∀ y∈l,y.f1.length≤1048576) : ∀ (suf pre:List S38),l=pre++suf →
  Ev (fun k=>laws_toClaimS.l0 k l (convC pre++List.replicate suf.length z42) ((pre.length:Nat):Int)) (convC l):=by
 intro suf
 induction suf with
 | nil =>
  intro pre he
  have hle:l.length=pre.length:=by rw [he];simp
  refine Ev.step (fun k=>by simp only [laws_toClaimS.l0];rfl) (Ev.no (by omega) (Ev.cast (Ev.some _) ?_))
  rw [he];simp
 | cons c t ih =>
  intro pre he
  have hle:l.length=pre.length+(t.length+1):=by rw [he];simp
  have hc:rd_T38 l ((pre.length:Nat):Int)=c:=by rw [he];exact rdLC_at pre c t
  have hcb:=hb c (by rw [he];simp)
  refine Ev.step (fun k=>by simp only [laws_toClaimS.l0];rfl) ?_
  rw [hc,w64 (by omega) (by omega),show (((pre.length:Nat):Int)+1)=(((pre++[c]).length:Nat):Int) by simp]
  refine Ev.yes (by omega) (Ev.yes (by omega) (Ev.bind (toClaim_ev c.f0 c.f1 hcb) (Ev.yes ?_ ?_)))
  ·rw [List.length_append,convC_length,List.length_replicate,List.length_cons];omega
  ·have e:(convC pre++List.replicate (c :: t).length z42).set ((pre.length:Nat):Int).toNat ⟨c.f0,conv c.f1⟩=convC (pre++[c])++List.replicate t.length z42:=by
    have e1:(convC pre++List.replicate (c :: t).length z42)=convC pre++z42 :: List.replicate t.length z42:=by simp [List.replicate_succ]
    rw [e1,Int.toNat_natCast, ←convC_length pre,List.set_append_right _ _ (Nat.le_refl _),Nat.sub_self,sZ]
    simp [convC]
   rw [e]
   exact ih (pre++[c]) (by rw [he];simp)
theorem toClaimS_ev (l:List S38) (hl:l.length≤1048576) (hb : ∀ y∈l,y.f1.length≤1048576):Ev (fun k=>laws_toClaimS.f k l) (convC l):=by
 unfold laws_toClaimS.f
 refine Ev.yes (by omega) (Ev.yes (by omega) ?_)
 rw [Int.toNat_natCast]
 exact toClaimS_l0 hl hb l [] rfl
theorem eqClaimS_l0 {l:List C} (hl:l.length≤4611686018427387904) (hb : ∀ c∈l,c.f1.length≤4611686018427387904) : ∀ (suf pre:List C),l=pre++suf→Ev (fun k=>laws_eqClaimS.l0 k l l ((pre.length:Nat):Int)) true:=by
 intro suf
 induction suf with
 | nil =>
  intro pre he
  have hle:l.length=pre.length:=by rw [he];simp
  exact Ev.step (fun k=>by simp only [laws_eqClaimS.l0];rfl) (Ev.no (by omega) (Ev.some _))
 | cons c t ih =>
  intro pre he
  have hle:l.length=pre.length+(t.length+1):=by rw [he];simp
  have hc:rd_T42 l ((pre.length:Nat):Int)=c:=by rw [he];exact rdC_at pre c t
  refine Ev.step (fun k=>by simp only [laws_eqClaimS.l0];rfl) ?_
  rw [hc,w64 (by omega) (by omega),show (((pre.length:Nat):Int)+1)=(((pre++[c]).length:Nat):Int) by simp]
  exact Ev.yes (by omega) (Ev.yes (by omega) (Ev.yes (by omega) (Ev.bind (eqClaim_ev c.f0 c.f1 (hb c (by rw [he];simp))) (Ev.yes rfl (ih (pre++[c]) (by rw [he];simp))))))
theorem eqClaimS_ev (l:List C) (hl:l.length≤4611686018427387904) (hb : ∀ c∈l,c.f1.length≤4611686018427387904):Ev (fun k=>laws_eqClaimS.f k l l) true:=by
 unfold laws_eqClaimS.f
 exact Ev.yes rfl (eqClaimS_l0 hl hb l [] rfl)
theorem convC_fit {l:List S38} (hw : ∀ y∈l,wf38 y) (hb : ∀ y∈l,y.f1.length≤1048576):Fit (convC l):=by
 intro c hc
 obtain ⟨y,hy,rfl⟩:=List.mem_map.1 hc
 exact ⟨by show (conv y.f1).length≤_;rw [conv_length];have:=hb y hy;omega,conv_wf (hw y hy).2⟩
theorem convC_len {l:List S38} (hb : ∀ y∈l,y.f1.length≤1048576) : ∀ c∈convC l,c.f1.length≤4611686018427387904:=by
 intro c hc
 obtain ⟨y,hy,rfl⟩:=List.mem_map.1 hc
 show (conv y.f1).length≤_
 rw [conv_length]
 have:=hb y hy
 omega
theorem markMarkS_far : ∀ (suf pre:List M) (n:Int),pre.length+suf.length≤2000000→0≤n→n≤1000000000000000000-2*suf.length →
  Ev (fun k=>laws_markMarkS.l0 k (pre++suf) n ((pre.length:Nat):Int)) (n+2*suf.length,pre++mkd suf.length n):=by
 intro suf
 induction suf with
 | nil =>
  intro pre n hl h0 h1
  refine Ev.step (fun k=>by simp only [laws_markMarkS.l0];rfl) ?_
  exact Ev.no (by simp) (Ev.cast (Ev.some _) (by simp [mkd]))
 | cons m t ih =>
  intro pre n hl h0 h1
  simp only [List.length_cons] at hl h1
  have hnext:wrap64 (((pre.length:Nat):Int)+1)=(((pre++[(⟨n,n+1⟩:M)]).length:Nat):Int):=by rw [w64 (by omega) (by omega)];simp
  refine Ev.step (fun k=>by simp only [laws_markMarkS.l0];rfl) ?_
  refine Ev.yes (by simp;omega) (Ev.yes (by omega) ?_)
  have hw:wrap64 (n+1)=n+1:=w64 (by omega) (by omega)
  have hw2:wrap64 (n+1+1)=n+1+1:=w64 (by omega) (by omega)
  have e1:(pre++m :: t).set ((pre.length:Nat):Int).toNat (⟨n,(rd_T59 (pre++m :: t) ((pre.length:Nat):Int)).f1⟩:M)=pre++⟨n,m.f1⟩ :: t:=by rw [rdM_at];simp
  have e2:(pre++(⟨n,m.f1⟩:M) :: t).set ((pre.length:Nat):Int).toNat (⟨(rd_T59 (pre++(⟨n,m.f1⟩:M) :: t) ((pre.length:Nat):Int)).f0,n+1⟩:M)=(pre++[⟨n,n+1⟩])++t:=by rw [rdM_at];simp
  simp only [Option.bind_some,hw,hw2,e1,e2,hnext]
  refine Ev.cast (ih (pre++[⟨n,n+1⟩]) (n+1+1) (by simp;omega) (by omega) (by omega)) ?_
  simp [mkd]
  omega
theorem markMarkS_at (l:List M) (n:Int) (hl:l.length≤2000000) (h0:0≤n) (h1:n≤100000000000000000):Ev (fun k=>laws_markMarkS.f k l n) (n+2*(l.length:Int),mkd l.length n):=by
 have:=markMarkS_far l [] n (by simpa using hl) h0 (by omega)
 unfold laws_markMarkS.f
 simpa using this
/-- Claims of so many marks with numbers one behind the other, and the number behind them. -/
def mkC:List Nat→Int→List C
 | [],_=>[]
 | d :: t,n=>⟨n,mkd d (n+1)⟩ :: mkC t (n+1+2*(d:Int))
def mkN:List Nat→Int→Int
 | [],n=>n
 | d :: t,n=>mkN t (n+1+2*(d:Int))
theorem mkN_ge : ∀ (ds:List Nat) (n:Int),n≤mkN ds n
 | [],_=>Int.le_refl _
 | d :: t,n=>by rw [mkN];have:=mkN_ge t (n+1+2*(d:Int));omega
def lens (l:List C):List Nat:=l.map fun c=>c.f1.length
theorem markClaimS_l0 : ∀ (suf pre:List C) (n:Int),pre.length+suf.length≤1100000→(∀ c∈suf,c.f1.length≤1048576)→0≤n→n≤10000000000000-3000000*suf.length →
  Ev (fun k=>laws_markClaimS.l0 k (pre++suf) n ((pre.length:Nat):Int)) (mkN (lens suf) n,pre++mkC (lens suf) n):=by
 intro suf
 induction suf with
 | nil =>
  intro pre n hl hc h0 h1
  refine Ev.step (fun k=>by simp only [laws_markClaimS.l0];rfl) ?_
  exact Ev.no (by simp) (Ev.cast (Ev.some _) (by simp [lens,mkC,mkN]))
 | cons c t ih =>
  intro pre n hl hc h0 h1
  simp only [List.length_cons] at hl h1
  have hcl:=hc c List.mem_cons_self
  have hx:rd_T42 (pre++c :: t) ((pre.length:Nat):Int)=c:=rdC_at pre c t
  refine Ev.step (fun k=>by simp only [laws_markClaimS.l0];rfl) ?_
  rw [hx,w64 (x:=n+1) (by omega) (by omega),w64 (by omega) (by omega)]
  refine Ev.yes (by simp;omega) (Ev.yes (by omega) (Ev.bind (markMarkS_at c.f1 (n+1) (by omega) (by omega) (by omega)) ?_))
  have e:(pre++c :: t).set ((pre.length:Nat):Int).toNat (⟨n,mkd c.f1.length (n+1)⟩:C)=pre++[⟨n,mkd c.f1.length (n+1)⟩]++t:=by simp
  have e2:(((pre.length:Nat):Int)+1)=(((pre++[(⟨n,mkd c.f1.length (n+1)⟩:C)]).length:Nat):Int):=by simp
  simp only [e,e2]
  refine Ev.cast (ih (pre++[⟨n,mkd c.f1.length (n+1)⟩]) (n+1+2*(c.f1.length:Int)) (by simp;omega) (fun y hy=>hc y (List.mem_cons_of_mem _ hy)) (by omega) (by omega)) ?_
  simp [lens,mkC,mkN]
theorem markClaimS_p (l:List C) (hl:l.length≤1048576) (hc : ∀ c∈l,c.f1.length≤1048576):Ev (fun k=>laws_markClaimS.p k l 1) (mkN (lens l) 1,mkC (lens l) 1):=by
 have:=markClaimS_l0 l [] 1 (by simp;omega) hc (by omega) (by omega)
 unfold laws_markClaimS.p
 simpa using this
theorem markClaimS_ev (l:List C) (hl:l.length≤1048576) (hc : ∀ c∈l,c.f1.length≤1048576):Ev (fun k=>laws_markClaimS.f k l 1) (mkN (lens l) 1):=by
 unfold laws_markClaimS.f
 exact Ev.bind (markClaimS_p l hl hc) (Ev.some _)
theorem convC_len' {l:List S38} (hb : ∀ y∈l,y.f1.length≤1048576) : ∀ c∈convC l,c.f1.length≤1048576:=by
 intro c hc
 obtain ⟨y,hy,rfl⟩:=List.mem_map.1 hc
 show (conv y.f1).length≤_
 rw [conv_length]
 exact hb y hy
theorem heldMarkS_at (d:Nat) (n:Int) (hd:d≤2000000) (h0:0≤n) (h1:n≤100000000000):Ev (fun k=>laws_heldMarkS.f k (mkd d n) n) (n+2*(d:Int)):=by
 have:=heldMarkS_l0 d [] n (by simpa using hd) h0 (by omega)
 unfold laws_heldMarkS.f
 simpa using this
theorem heldClaimS_l0 : ∀ (ds:List Nat) (pre:List C) (n:Int),pre.length+ds.length≤1000→(∀ d∈ds,d≤1000)→0≤n→n≤1000000000-3000*ds.length →
  Ev (fun k=>laws_heldClaimS.l0 k (pre++mkC ds n) n ((pre.length:Nat):Int)) (mkN ds n):=by
 intro ds
 induction ds with
 | nil =>
  intro pre n hl hc h0 h1
  refine Ev.step (fun k=>by simp only [laws_heldClaimS.l0];rfl) ?_
  exact Ev.no (by simp [mkC]) (Ev.cast (Ev.some _) (by simp [mkN]))
 | cons d t ih =>
  intro pre n hl hc h0 h1
  simp only [List.length_cons] at hl h1
  have hd:=hc d List.mem_cons_self
  have hx:rd_T42 (pre++mkC (d :: t) n) ((pre.length:Nat):Int)=⟨n,mkd d (n+1)⟩:=rdC_at pre _ _
  refine Ev.step (fun k=>by simp only [laws_heldClaimS.l0];rfl) ?_
  rw [hx,w64 (x:=n+1) (by omega) (by omega),w64 (by omega) (by omega)]
  refine Ev.yes (by simp [mkC];omega) (Ev.yes (by omega) (Ev.yes rfl (Ev.bind (heldMarkS_at d (n+1) (by omega) (by omega) (by omega)) (Ev.no (by omega) ?_))))
  have e:pre++mkC (d :: t) n=(pre++[⟨n,mkd d (n+1)⟩])++mkC t (n+1+2*(d:Int)):=by simp [mkC]
  rw [e,show (((pre.length:Nat):Int)+1)=(((pre++[(⟨n,mkd d (n+1)⟩:C)]).length:Nat):Int) by simp]
  refine Ev.cast (ih (pre++[⟨n,mkd d (n+1)⟩]) (n+1+2*(d:Int)) (by simp;omega) (fun y hy=>hc y (List.mem_cons_of_mem _ hy)) (by omega) (by omega)) ?_
  simp [mkN]
theorem heldClaimS_ev (ds:List Nat) (hl:ds.length≤1000) (hc : ∀ d∈ds,d≤1000):Ev (fun k=>laws_heldClaimS.f k (mkC ds 1) 1) (mkN ds 1):=by
 have:=heldClaimS_l0 ds [] 1 (by simpa using hl) hc (by omega) (by omega)
 unfold laws_heldClaimS.f
 simpa using this
end Go.Proofs.Ytbhjeiphmnanoaa.L
