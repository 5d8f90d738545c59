/- Joined by a program of this session's: LA. -/
import Derived.Test.YtbhjeiphmnanoaaGb51738d237

/- Plain laws of terms: what is a term, its tree, and what holds in a world; the program's and the reference's functions come to these. -/
namespace Go.Proofs.Ytbhjeiphmnanoaa.L
open Go.RowKit Go.Proofs.Ytbhjeiphmnanoaa.X Go.Proofs.YtbhjeiphmnanoaaW.PrintWords Go.Proofs.YtbhjeiphmnanoaaW.PrintLast Go.Proofs.YtbhjeiphmnanoaaW.PrintMore
abbrev M:=S59

theorem w64 {x:Int} (h0 : -9223372036854775808≤x) (h1:x≤9223372036854775807):wrap64 x=x:=by unfold wrap64;omega
theorem rdM_at (pre:List M) (m:M) (suf:List M):rd_T59 (pre++m :: suf) ((pre.length:Nat):Int)=m:=by
 unfold rd_T59
 simp [List.getD]
theorem rdM_at' {l pre:List M} {m:M} {suf:List M} (h:l=pre++m :: suf):rd_T59 l ((pre.length:Nat):Int)=m:=by rw [h];exact rdM_at pre m suf

theorem Ev.some {α:Type} (r:α):Ev (fun _=>Option.some r) r:=Ev.now r
theorem Ev.ite {α:Type} {c:Prop} [Decidable c] {g h:Nat→Option α} {r:α} (h1:c→Ev g r) (h2 : ¬ c→Ev h r):Ev (fun k=>if c then g k else h k) r:=by
 by_cases hc:c
 ·simp only [if_pos hc];exact h1 hc
 ·simp only [if_neg hc];exact h2 hc
theorem Ev.yes {α:Type} {c:Prop} [Decidable c] {g h:Nat→Option α} {r:α} (hc:c) (h1:Ev g r):Ev (fun k=>if c then g k else h k) r:=by simp only [if_pos hc];exact h1
theorem Ev.no {α:Type} {c:Prop} [Decidable c] {g h:Nat→Option α} {r:α} (hc : ¬ c) (h1:Ev h r):Ev (fun k=>if c then g k else h k) r:=by simp only [if_neg hc];exact h1
theorem Ev.cast {α:Type} {g:Nat→Option α} {r r':α} (h:Ev g r) (e:r=r'):Ev g r':=e ▸ h
theorem Ev.uniq {α:Type} {g:Nat→Option α} {r r':α} (h:Ev g r) (h':Ev g r'):r=r':=by
 obtain ⟨K,h⟩:=h
 obtain ⟨K',h'⟩:=h'
 have h1:=h (max K K') (Nat.le_max_left _ _)
 have h2:=h' (max K K') (Nat.le_max_right _ _)
 rw [h1] at h2
 exact Option.some.inj h2

theorem peopleOk_eq (p:Int):impl_peopleOk.f p=some (decide (1≤p∧p≤4)):=by
 unfold impl_peopleOk.f
 by_cases h:p≥1
 ·rw [if_pos h];congr 1;simp;omega
 ·rw [if_neg h];congr 1;simp;omega
theorem l1In_eq (n a b:Int):spec_l1In.f n a b=some (decide (a≤n∧n≤b)):=by
 unfold spec_l1In.f
 by_cases h:n≥a
 ·rw [if_pos h];congr 1;simp;omega
 ·rw [if_neg h];congr 1;simp;omega

/-- How many parts are left of a row of marks, if each mark finds its parts. -/
def scan (p:Int):List M→Nat→Option Nat
 | [],n=>some n
 | m :: t,n =>
  if m.f0=0 then (if 0≤m.f1∧m.f1<p then scan p t (n+1) else none)
  else if m.f0=1 then (if 0≤m.f1∧m.f1≤p+1 then scan p t (n+1) else none)
  else if m.f0=2 then (if m.f1=0∧1≤n then scan p t n else none)
  else if m.f0=3∨m.f0=4∨m.f0=5 then (if m.f1=0∧2≤n then scan p t (n-1) else none)
  else none
/-- A term for so many people. -/
def tok (p:Int) (t:List M):Bool:=decide (1≤p∧p≤4∧1≤t.length∧t.length≤15∧scan p t 0=some 1)
theorem tok_iff {p:Int} {t:List M}:tok p t=true ↔ 1≤p∧p≤4∧1≤t.length∧t.length≤15∧scan p t 0=some 1:=by unfold tok;simp

theorem impl_TermOk_l0 (p:Int) (hp0:1≤p) (hp1:p≤4) : ∀ (suf pre:List M) (n:Nat),n≤pre.length→pre.length+suf.length≤15 →
  Ev (fun k=>impl_TermOk.l0 k p (n:Int) (pre++suf) (((pre++suf).length:Nat):Int) ((pre.length:Nat):Int)) (decide (scan p suf n=some 1)):=by
 intro suf
 induction suf with
 | nil =>
  intro pre n hn hl
  refine Ev.step (fun k=>by simp only [impl_TermOk.l0];rfl) ?_
  refine Ev.no (by simp) ?_
  refine Ev.cast (Ev.some _) ?_
  simp only [scan]
  by_cases h:n=1
  ·subst h;simp
  ·simp [h];omega
 | cons m t ih =>
  intro pre n hn hl
  have hl':pre.length+(t.length+1)≤15:=by simpa using hl
  have hm:rd_T59 (pre++m :: t) ((pre.length:Nat):Int)=m:=rdM_at pre m t
  have hlen:(((pre++m :: t).length:Nat):Int)=(pre.length:Int)+t.length+1:=by simp;omega
  have hnext:wrap64 (((pre.length:Nat):Int)+1)=(((pre++[m]).length:Nat):Int):=by rw [w64 (by omega) (by omega)];simp
  have ih':=fun n' hn'=>ih (pre++[m]) n' hn' (by simp;omega)
  have happ:pre++[m]++t=pre++m :: t:=by simp
  rw [happ] at ih'
  refine Ev.step (fun k=>by simp only [impl_TermOk.l0];rfl) ?_
  refine Ev.yes (by rw [hlen];omega) (Ev.yes (by omega) (Ev.yes (by rw [hlen];omega) ?_))
  simp only [hm,hnext]
  by_cases h0:m.f0=0
  ·refine Ev.yes h0 ?_
   simp only [scan,if_pos h0]
   by_cases h1:0≤m.f1∧m.f1<p
   ·rw [if_pos h1]
    refine Ev.no (by omega) (Ev.no (by omega) ?_)
    rw [w64 (by omega) (by omega),show ((n:Int)+1)=((n+1:Nat):Int) by simp]
    exact ih' (n+1) (by simp;omega)
   ·rw [if_neg h1]
    refine Ev.ite (fun _=>Ev.cast (Ev.some _) (by simp)) (fun h2=>Ev.yes (by omega) (Ev.cast (Ev.some _) (by simp)))
  refine Ev.no h0 ?_
  by_cases h1:m.f0=1
  ·refine Ev.yes h1 ?_
   simp only [scan,if_neg h0,if_pos h1]
   rw [w64 (by omega) (by omega)]
   by_cases h2:0≤m.f1∧m.f1≤p+1
   ·rw [if_pos h2]
    refine Ev.no (by omega) (Ev.no (by omega) ?_)
    rw [w64 (by omega) (by omega),show ((n:Int)+1)=((n+1:Nat):Int) by simp]
    exact ih' (n+1) (by simp;omega)
   ·rw [if_neg h2]
    refine Ev.ite (fun _=>Ev.cast (Ev.some _) (by simp)) (fun h3=>Ev.yes (by omega) (Ev.cast (Ev.some _) (by simp)))
  refine Ev.no h1 ?_
  by_cases h2:m.f0=2
  ·refine Ev.yes h2 ?_
   simp only [scan,if_neg h0,if_neg h1,if_pos h2]
   by_cases h3:m.f1=0
   ·refine Ev.yes h3 ?_
    by_cases h4:1≤n
    ·rw [if_pos ⟨h3,h4⟩]
     refine Ev.no (by omega) ?_
     exact ih' n (by simp;omega)
    ·rw [if_neg (fun h=>h4 h.2)]
     exact Ev.yes (by omega) (Ev.cast (Ev.some _) (by simp))
   ·rw [if_neg (fun h=>h3 h.1)]
    exact Ev.no h3 (Ev.cast (Ev.some _) (by simp))
  refine Ev.no h2 ?_
  have hj2 : ∀ b:Bool,b=decide (m.f0=3∨m.f0=4∨m.f0=5) →
    Ev (fun k=>impl_TermOk.j2 k p (n:Int) (pre++m :: t) (((pre++m :: t).length:Nat):Int) ((pre.length:Nat):Int) b m.f0 m.f1) (decide (scan p (m :: t) n=some 1)):=by
   intro b hb
   refine Ev.step (fun k=>by simp only [impl_TermOk.j2];rfl) ?_
   simp only [scan,if_neg h0,if_neg h1,if_neg h2,hnext]
   by_cases h3:m.f0=3∨m.f0=4∨m.f0=5
   ·rw [if_pos h3]
    refine Ev.yes (by rw [hb];simp [h3]) ?_
    by_cases h4:m.f1=0
    ·refine Ev.yes h4 ?_
     by_cases h5:2≤n
     ·rw [if_pos ⟨h4,h5⟩]
      refine Ev.no (by omega) ?_
      rw [w64 (by omega) (by omega),show ((n:Int)-1)=((n-1:Nat):Int) by omega]
      exact ih' (n-1) (by simp;omega)
     ·rw [if_neg (fun h=>h5 h.2)]
      exact Ev.yes (by omega) (Ev.cast (Ev.some _) (by simp))
    ·rw [if_neg (fun h=>h4 h.1)]
     exact Ev.no h4 (Ev.cast (Ev.some _) (by simp))
   ·rw [if_neg h3]
    exact Ev.no (by rw [hb];simp [h3]) (Ev.cast (Ev.some _) (by simp))
  by_cases h3:m.f0=3
  ·exact Ev.yes h3 (hj2 _ (by simp [h3]))
  refine Ev.no h3 ?_
  by_cases h4:m.f0=4
  ·exact Ev.yes h4 (hj2 _ (by simp [h4]))
  ·exact Ev.no h4 (hj2 _ (by
    by_cases h5:m.f0=5
    ·simp [h5]
    ·simp [h3,h4,h5]))

theorem impl_TermOk_ev (p:Int) (t:List M):Ev (fun k=>impl_TermOk.f k p t) (tok p t):=by
 have hj : ∀ b:Bool,(b=false→1≤p∧p≤4∧1≤t.length∧t.length≤15)→(b=true→tok p t=false)→Ev (fun k=>impl_TermOk.j0 k p t b) (tok p t):=by
  intro b hb1 hb2
  refine Ev.step (fun k=>by simp only [impl_TermOk.j0];rfl) ?_
  cases b with
  | true=>exact Ev.yes rfl (Ev.cast (Ev.some _) (hb2 rfl).symm)
  | false =>
   refine Ev.no (by simp) ?_
   obtain ⟨h1,h2,h3,h4⟩:=hb1 rfl
   have h:=impl_TermOk_l0 p h1 h2 t [] 0 (Nat.zero_le _) (by simpa using h4)
   refine Ev.cast h ?_
   unfold tok
   simp [h1,h2,h3,h4]
 have hno : ¬ (1≤p∧p≤4∧1≤t.length∧t.length≤15)→tok p t=false:=by
  intro h
  unfold tok
  exact decide_eq_false (fun ⟨a,b,c,d,_⟩=>h ⟨a,b,c,d⟩)
 unfold impl_TermOk.f
 simp only [peopleOk_eq,Option.bind_some]
 by_cases hp:1≤p∧p≤4
 ·refine Ev.yes (by simp [hp]) ?_
  by_cases h1:(t.length:Int)<1
  ·exact Ev.yes h1 (hj true (by simp) (fun _=>hno (by omega)))
  ·refine Ev.no h1 (hj _ (fun h=>?_) (fun h=>hno ?_))
   ·have:=of_decide_eq_false h;omega
   ·have:=of_decide_eq_true h;omega
 ·exact Ev.no (by simp [hp]) (hj true (by simp) (fun _=>hno (fun h=>hp ⟨h.1,h.2.1⟩)))

theorem spec_TermOk_l0 (p:Int) : ∀ (suf pre:List M) (n:Nat),n≤pre.length→pre.length+suf.length≤4611686018427387904→(∀ m∈suf,m.f1≤9223372036854775807) →
  Ev (fun k=>spec_TermOk.l0 k p (pre++suf) (n:Int) ((pre.length:Nat):Int)) (decide (1≤p∧p≤4∧(pre++suf).length≤15∧scan p suf n=some 1)):=by
 intro suf
 induction suf with
 | nil =>
  intro pre n hn hl hw
  refine Ev.step (fun k=>by simp only [spec_TermOk.l0];rfl) ?_
  refine Ev.no (by simp) ?_
  simp only [l1In_eq,Option.bind_some,scan]
  by_cases hp:1≤p∧p≤4
  ·refine Ev.yes (by simp [hp]) ?_
   by_cases h:n=1
   ·subst h
    refine Ev.yes (by simp) (Ev.cast (Ev.some _) ?_)
    simp [hp];omega
   ·refine Ev.no (by omega) (Ev.cast (Ev.some _) ?_)
    simp [h]
  ·refine Ev.no (by simpa using fun h=>by omega) (Ev.cast (Ev.some _) ?_)
   exact (decide_eq_false (fun h=>hp ⟨h.1,h.2.1⟩)).symm
 | cons m t ih =>
  intro pre n hn hl hw
  have hl':pre.length+(t.length+1)≤4611686018427387904:=by simpa using hl
  have hm:rd_T59 (pre++m :: t) ((pre.length:Nat):Int)=m:=rdM_at pre m t
  have hlen:(((pre++m :: t).length:Nat):Int)=(pre.length:Int)+t.length+1:=by simp;omega
  have hnext:wrap64 (((pre.length:Nat):Int)+1)=(((pre++[m]).length:Nat):Int):=by rw [w64 (by omega) (by omega)];simp
  have ih':=fun n' hn'=>ih (pre++[m]) n' hn' (by simp;omega) (fun m' hm'=>hw m' (List.mem_cons_of_mem _ hm'))
  have happ:pre++[m]++t=pre++m :: t:=by simp
  rw [happ] at ih'
  have hwm:=hw m List.mem_cons_self
  have hin:(pre.length:Int)<(((pre++m :: t).length:Nat):Int):=by rw [hlen];omega
  have hno:scan p (m :: t) n=none→(false=decide (1≤p∧p≤4∧(pre++m :: t).length≤15∧scan p (m :: t) n=some 1)):=by intro h;rw [h];simp
  have hj3 : ∀ b:Bool,b=decide (m.f0=2∧m.f1=0∧1≤n)→m.f0≠0 ∨ ¬ (0≤m.f1∧m.f1<p)→m.f0≠1 ∨ ¬ (0≤m.f1∧m.f1≤p+1) →
    Ev (fun k=>spec_TermOk.j3 k p (pre++m :: t) (n:Int) ((pre.length:Nat):Int) b) (decide (1≤p∧p≤4∧(pre++m :: t).length≤15∧scan p (m :: t) n=some 1)):=by
   intro b hb h0 h1
   refine Ev.step (fun k=>by simp only [spec_TermOk.j3];rfl) ?_
   by_cases h2:m.f0=2∧m.f1=0∧1≤n
   ·refine Ev.yes (by rw [hb];simp [h2]) ?_
    rw [hnext]
    have hs:scan p (m :: t) n=scan p t n:=by simp [scan,h2.1,h2.2.1,h2.2.2]
    rw [hs]
    exact ih' n (by simp;omega)
   ·refine Ev.no (by rw [hb];simpa using fun a b=>by have:=fun c=>h2 ⟨a,b,c⟩;omega) (Ev.yes (by omega) (Ev.yes hin ?_))
    simp only [hm,l1In_eq,Option.bind_some]
    by_cases h3:m.f0=3∨m.f0=4∨m.f0=5
    ·refine Ev.yes (by simp;omega) ?_
     have e0:m.f0≠0:=by omega
     have e1:m.f0≠1:=by omega
     have e2:m.f0≠2:=by omega
     by_cases h4:m.f1=0
     ·refine Ev.yes h4 ?_
      by_cases h5:2≤n
      ·refine Ev.yes (by omega) ?_
       have hs:scan p (m :: t) n=scan p t (n-1):=by simp only [scan,if_neg e0,if_neg e1,if_neg e2,if_pos h3,if_pos (show m.f1=0∧2≤n from ⟨h4,h5⟩)]
       rw [hs,hnext,w64 (by omega) (by omega),show ((n:Int)-1)=((n-1:Nat):Int) by omega]
       exact ih' (n-1) (by simp;omega)
      ·refine Ev.no (by omega) (Ev.cast (Ev.some _) (hno ?_))
       simp only [scan,if_neg e0,if_neg e1,if_neg e2,if_pos h3,if_neg (show ¬ (m.f1=0∧2≤n) from fun h=>h5 h.2)]
     ·refine Ev.no h4 (Ev.cast (Ev.some _) (hno ?_))
      simp only [scan,if_neg e0,if_neg e1,if_neg e2,if_pos h3,if_neg (show ¬ (m.f1=0∧2≤n) from fun h=>h4 h.1)]
    ·refine Ev.no (by simp;omega) (Ev.cast (Ev.some _) (hno ?_))
     unfold scan
     by_cases e0:m.f0=0
     ·rw [if_pos e0,if_neg (h0.resolve_left (fun h=>h e0))]
     rw [if_neg e0]
     by_cases e1:m.f0=1
     ·rw [if_pos e1,if_neg (h1.resolve_left (fun h=>h e1))]
     rw [if_neg e1]
     by_cases e2:m.f0=2
     ·rw [if_pos e2,if_neg (fun h=>h2 ⟨e2,h⟩)]
     rw [if_neg e2,if_neg h3]
  have hj2 : ∀ b:Bool,b=decide (m.f0=1∧0≤m.f1∧m.f1≤p+1)→m.f0≠0 ∨ ¬ (0≤m.f1∧m.f1<p) →
    Ev (fun k=>spec_TermOk.j2 k p (pre++m :: t) (n:Int) ((pre.length:Nat):Int) b) (decide (1≤p∧p≤4∧(pre++m :: t).length≤15∧scan p (m :: t) n=some 1)):=by
   intro b hb h0
   refine Ev.step (fun k=>by simp only [spec_TermOk.j2];rfl) ?_
   by_cases h1:m.f0=1∧0≤m.f1∧m.f1≤p+1
   ·refine Ev.yes (by rw [hb];simp [h1]) ?_
    have hs:scan p (m :: t) n=scan p t (n+1):=by simp [scan,h1.1,h1.2.1,h1.2.2]
    rw [hs,hnext,w64 (by omega) (by omega),show ((n:Int)+1)=((n+1:Nat):Int) by simp]
    exact ih' (n+1) (by simp;omega)
   ·refine Ev.no (by rw [hb];simpa using fun a b=>by have:=fun c=>h1 ⟨a,b,c⟩;omega) (Ev.yes (by omega) (Ev.yes hin ?_))
    simp only [hm]
    have h1':m.f0≠1 ∨ ¬ (0≤m.f1∧m.f1≤p+1):=by
     by_cases e:m.f0=1
     ·exact .inr fun h=>h1 ⟨e,h⟩
     ·exact .inl e
    by_cases h2:m.f0=2∧m.f1=0
    ·refine Ev.yes (by simp [h2]) (hj3 _ ?_ h0 h1')
     simp [h2]
     omega
    ·refine Ev.no (by simpa using fun a b=>h2 ⟨a,b⟩) (hj3 _ ?_ h0 h1')
     exact (decide_eq_false (fun h=>h2 ⟨h.1,h.2.1⟩)).symm
  have hj1 : ∀ b:Bool,b=decide (m.f0=0∧0≤m.f1∧m.f1<p) →
    Ev (fun k=>spec_TermOk.j1 k p (pre++m :: t) (n:Int) ((pre.length:Nat):Int) b) (decide (1≤p∧p≤4∧(pre++m :: t).length≤15∧scan p (m :: t) n=some 1)):=by
   intro b hb
   refine Ev.step (fun k=>by simp only [spec_TermOk.j1];rfl) ?_
   by_cases h0:m.f0=0∧0≤m.f1∧m.f1<p
   ·refine Ev.yes (by rw [hb];simp [h0]) ?_
    have hs:scan p (m :: t) n=scan p t (n+1):=by simp [scan,h0.1,h0.2.1,h0.2.2]
    rw [hs,hnext,w64 (by omega) (by omega),show ((n:Int)+1)=((n+1:Nat):Int) by simp]
    exact ih' (n+1) (by simp;omega)
   ·refine Ev.no (by rw [hb];simpa using fun a b=>by have:=fun c=>h0 ⟨a,b,c⟩;omega) (Ev.yes (by omega) (Ev.yes hin ?_))
    simp only [hm]
    have h0':m.f0≠0 ∨ ¬ (0≤m.f1∧m.f1<p):=by
     by_cases e:m.f0=0
     ·exact .inr fun h=>h0 ⟨e,h⟩
     ·exact .inl e
    by_cases h1:m.f0=1
    ·refine Ev.yes h1 ?_
     by_cases h2:0≤m.f1
     ·refine Ev.yes (by omega) ?_
      by_cases h3:m.f1≤p
      ·refine Ev.yes h3 (hj2 _ ?_ h0')
       simp [h1,h2];omega
      ·refine Ev.no h3 (hj2 _ ?_ h0')
       rw [w64 (by omega) (by omega)]
       by_cases h4:m.f1=p+1
       ·rw [show (m.f1-1==p)=true from beq_iff_eq.2 (by omega)]
        exact (decide_eq_true ⟨h1,h2,by omega⟩).symm
       ·rw [show (m.f1-1==p)=false from beq_eq_false_iff_ne.2 (by omega)]
        exact (decide_eq_false (fun h=>by omega)).symm
     ·refine Ev.no (by omega) (hj2 _ ?_ h0')
      simp [h2]
    ·refine Ev.no h1 (hj2 _ ?_ h0')
     simp [h1]
  refine Ev.step (fun k=>by simp only [spec_TermOk.l0];rfl) ?_
  refine Ev.yes hin (Ev.yes (by omega) ?_)
  simp only [hm]
  by_cases h0:m.f0=0
  ·refine Ev.yes h0 ?_
   by_cases h1:0≤m.f1
   ·refine Ev.yes (by omega) (hj1 _ ?_)
    simp [h0,h1]
   ·refine Ev.no (by omega) (hj1 _ ?_)
    simp [h1]
  ·refine Ev.no h0 (hj1 _ ?_)
   simp [h0]

theorem scan_le {p:Int} : ∀ {t:List M} {n m:Nat},scan p t n=some m→m≤n+t.length:=by
 intro t
 induction t with
 | nil=>intro n m h;simp [scan] at h;omega
 | cons a t ih =>
  intro n m h
  unfold scan at h
  simp only [List.length_cons]
  repeat' split at h
  all_goals first|(cases h;done)|(have:=ih h;omega)

theorem spec_TermOk_ev (p:Int) (t:List M) (hl:t.length≤4611686018427387904) (hw : ∀ m∈t,m.f1≤9223372036854775807):Ev (fun k=>spec_TermOk.f k p t) (tok p t):=by
 unfold spec_TermOk.f
 have h:=spec_TermOk_l0 p t [] 0 (Nat.zero_le _) (by simpa using hl) hw
 refine Ev.cast h ?_
 unfold tok
 simp only [List.nil_append,decide_eq_decide]
 constructor
 ·rintro ⟨a,b,c,d⟩
  have:=scan_le d
  exact ⟨a,b,by omega,c,d⟩
 ·rintro ⟨a,b,_,c,d⟩
  exact ⟨a,b,c,d⟩
end Go.Proofs.Ytbhjeiphmnanoaa.L
