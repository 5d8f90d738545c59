/- Joined by a program of this session's: LB. -/
import Derived.Test.YtbhjeiphmnanoaaG6caa4eab2b
import Derived.Test.YtbhjeiphmnanoaaG852bf05f1a
import Derived.Test.YtbhjeiphmnanoaaGe9a64f74d5
import Derived.Laws.BitsLemmas

/- Plain laws of terms, second text: a term is a tree's marks; what holds in a world, by the program's stack and by the reference's parts. -/
namespace Go.Proofs.Ytbhjeiphmnanoaa.L
open Go.RowKit Go.Proofs.Ytbhjeiphmnanoaa.X Go.Proofs.YtbhjeiphmnanoaaW.PrintWords Go.Proofs.YtbhjeiphmnanoaaW.PrintLast Go.Proofs.YtbhjeiphmnanoaaW.PrintMore
inductive Tm where
 | tell (i:Nat)
 | cnt (n:Nat)
 | neg (a:Tm)
 | bin (o:Nat) (a b:Tm)
def Tm.post:Tm→List M
 | .tell i=>[⟨0,i⟩]
 | .cnt n=>[⟨1,n⟩]
 | .neg a=>a.post++[⟨2,0⟩]
 | .bin o a b=>a.post++(b.post++[⟨o,0⟩])
def Tm.good (p:Int):Tm→Prop
 | .tell i=>(i:Int)<p
 | .cnt n=>(n:Int)≤p+1
 | .neg a=>a.good p
 | .bin o a b=>(o=3∨o=4∨o=5)∧a.good p∧b.good p
/-- How many of the lowest bits of a number are 1. -/
def popN:Nat→Nat→Nat
 | 0,_=>0
 | n+1,w=>popN n w+(w.testBit n).toNat
def bop (o:Nat) (x y:Bool):Bool:=if o=3 then x&&y else if o=4 then x||y else x==y
def Tm.ev (w:Nat):Tm→Bool
 | .tell i=>w.testBit i
 | .cnt n=>decide (n≤popN 4 w)
 | .neg a => !a.ev w
 | .bin o a b=>bop o (a.ev w) (b.ev w)
theorem Tm.post_pos : ∀ t:Tm,1≤t.post.length
 | .tell _=>by simp [Tm.post]
 | .cnt _=>by simp [Tm.post]
 | .neg a=>by simp [Tm.post]
 | .bin o a b=>by simp [Tm.post];omega

/-- What the parts left by scan are. -/
theorem scan_parse {p:Int} : ∀ (t:List M) (st:List Tm) (m:Nat),(∀ a∈st,a.good p)→scan p t st.length=some m →
  ∃ st':List Tm,st'.length=m∧(∀ a∈st',a.good p)∧(st.reverse.flatMap Tm.post)++t=st'.reverse.flatMap Tm.post:=by
 intro t
 induction t with
 | nil =>
  intro st m hg h
  simp only [scan] at h
  cases h
  exact ⟨st,rfl,hg,by simp⟩
 | cons a t ih =>
  intro st m hg h
  obtain ⟨f0,f1⟩:=a
  simp only [scan] at h
  have leaf : ∀ x:Tm,x.good p→x.post=[⟨f0,f1⟩]→scan p t (st.length+1)=some m → ∃ st':List Tm,st'.length=m∧(∀ a∈st',a.good p)∧(st.reverse.flatMap Tm.post)++(⟨f0,f1⟩ :: t)=st'.reverse.flatMap Tm.post:=by
   intro x hx hp hs
   obtain ⟨st',h1,h2,h3⟩:=ih (x :: st) m (by intro y hy;rcases List.mem_cons.1 hy with rfl|hy;exact hx;exact hg y hy) (by simpa using hs)
   refine ⟨st',h1,h2,?_⟩
   rw [←h3]
   simp [hp]
  by_cases h0:f0=0
  ·rw [if_pos h0] at h
   by_cases h1:0≤f1∧f1<p
   ·rw [if_pos h1] at h
    obtain ⟨i,rfl⟩:=Int.eq_ofNat_of_zero_le h1.1
    exact leaf (.tell i) h1.2 (by rw [h0];rfl) h
   ·rw [if_neg h1] at h;cases h
  rw [if_neg h0] at h
  by_cases h1:f0=1
  ·rw [if_pos h1] at h
   by_cases h2:0≤f1∧f1≤p+1
   ·rw [if_pos h2] at h
    obtain ⟨i,rfl⟩:=Int.eq_ofNat_of_zero_le h2.1
    exact leaf (.cnt i) h2.2 (by rw [h1];rfl) h
   ·rw [if_neg h2] at h;cases h
  rw [if_neg h1] at h
  by_cases h2:f0=2
  ·rw [if_pos h2] at h
   by_cases h3:f1=0∧1≤st.length
   ·rw [if_pos h3] at h
    match st,h3,hg,h with
    | x :: st,h3,hg,h =>
     obtain ⟨st',e1,e2,e3⟩:=ih (.neg x :: st) m (by intro y hy;rcases List.mem_cons.1 hy with rfl|hy;exact hg x List.mem_cons_self;exact hg y (List.mem_cons_of_mem _ hy)) (by simpa using h)
     refine ⟨st',e1,e2,?_⟩
     rw [←e3,h2,h3.1]
     simp [Tm.post]
   ·rw [if_neg h3] at h;cases h
  rw [if_neg h2] at h
  by_cases h3:f0=3∨f0=4∨f0=5
  ·rw [if_pos h3] at h
   by_cases h4:f1=0∧2≤st.length
   ·rw [if_pos h4] at h
    match st,h4,hg,h with
    | y :: x :: st,h4,hg,h =>
     obtain ⟨o,rfl⟩:=Int.eq_ofNat_of_zero_le (show (0:Int)≤f0 by omega)
     obtain ⟨st',e1,e2,e3⟩:=ih (.bin o x y :: st) m (by
      intro z hz
      rcases List.mem_cons.1 hz with rfl|hz
      ·exact ⟨by omega,hg x (by simp),hg y (by simp)⟩
      ·exact hg z (List.mem_cons_of_mem _ (List.mem_cons_of_mem _ hz))) (by simpa using h)
     refine ⟨st',e1,e2,?_⟩
     rw [←e3,h4.1]
     simp [Tm.post]
   ·rw [if_neg h4] at h;cases h
  ·rw [if_neg h3] at h;cases h
theorem parse {p:Int} {t:List M} (h:tok p t=true) : ∃ a:Tm,a.good p∧t=a.post:=by
 obtain ⟨_,_,_,_,hs⟩:=tok_iff.1 h
 obtain ⟨st',h1,h2,h3⟩:=scan_parse t [] 1 (by simp) hs
 match st',h1,h2,h3 with
 | [a],_,h2,h3=>exact ⟨a,h2 a (by simp),by simpa using h3⟩
theorem bit_and : ∀ w:Fin 16, ∀ i:Fin 4,(Go.bits .and .i64 (shr .i64 ((w.val:Nat):Int) ((i.val:Nat):Int)) 1==1)=w.val.testBit i.val:=by decide +kernel
theorem bit_mod : ∀ w:Fin 16, ∀ i:Fin 4,((Int.tmod (shr .i64 ((w.val:Nat):Int) ((i.val:Nat):Int)) 2)==1)=w.val.testBit i.val:=by decide +kernel
theorem ones16 : ∀ w:Fin 16,bits_OnesCount.f (IntKind.u64.wrap ((w.val:Nat):Int))=some ((popN 4 w.val:Nat):Int):=by decide +kernel
theorem bit_and' {w i:Nat} (hw:w<16) (hi:i<4):(Go.bits .and .i64 (shr .i64 (w:Int) (i:Int)) 1==1)=w.testBit i:=bit_and ⟨w,hw⟩ ⟨i,hi⟩
theorem bit_mod' {w i:Nat} (hw:w<16) (hi:i<4):((Int.tmod (shr .i64 (w:Int) (i:Int)) 2)==1)=w.testBit i:=bit_mod ⟨w,hw⟩ ⟨i,hi⟩
theorem ones' {w:Nat} (hw:w<16):bits_OnesCount.f (IntKind.u64.wrap (w:Int))=some ((popN 4 w:Nat):Int):=ones16 ⟨w,hw⟩

theorem rdB_at (s:List Bool) (x:Bool) (t:List Bool):rdOf false (s++x :: t) ((s.length:Nat):Int)=x:=by
 unfold rdOf
 simp [List.getD]
theorem holds_post {p:Int} (hp:p≤4) {w:Nat} (hw:w<16) : ∀ (a:Tm),a.good p → ∀ (l pre suf:List M) (s:List Bool) (r:Bool),l=pre++(a.post++suf)→l.length≤1000→s.length+a.post.length≤1000 →
  Ev (fun k=>impl_holds.l0 k (w:Int) (s++[a.ev w]) l ((l.length:Nat):Int) ((pre.length+a.post.length:Nat):Int)) r →
  Ev (fun k=>impl_holds.l0 k (w:Int) s l ((l.length:Nat):Int) ((pre.length:Nat):Int)) r:=by
 intro a
 induction a with
 | tell i =>
  intro hg l pre suf s r hl hn hs h
  have hg':(i:Int)<p:=hg
  have hm:rd_T59 l ((pre.length:Nat):Int)=⟨0,i⟩:=rdM_at' (suf:=suf) (by rw [hl];rfl)
  have hlen:l.length=pre.length+(suf.length+1):=by rw [hl];simp [Tm.post];try omega
  refine Ev.step (fun k=>by simp only [impl_holds.l0];rfl) ?_
  refine Ev.yes (by omega) (Ev.yes (by omega) (Ev.yes (by omega) ?_))
  simp only [hm,bit_and' hw (show i<4 by omega)]
  refine Ev.yes (by simp) (Ev.yes (by omega) (Ev.yes (by omega) ?_))
  rw [w64 (by omega) (by omega),show (((pre.length:Nat):Int)+1)=((pre.length+(Tm.tell i).post.length:Nat):Int) by simp [Tm.post]]
  exact h
 | cnt n =>
  intro hg l pre suf s r hl hn hs h
  have hm:rd_T59 l ((pre.length:Nat):Int)=⟨1,n⟩:=rdM_at' (suf:=suf) (by rw [hl];rfl)
  have hlen:l.length=pre.length+(suf.length+1):=by rw [hl];simp [Tm.post];try omega
  refine Ev.step (fun k=>by simp only [impl_holds.l0];rfl) ?_
  refine Ev.yes (by omega) (Ev.yes (by omega) (Ev.yes (by omega) ?_))
  simp only [hm,ones' hw,Option.bind_some]
  refine Ev.no (by omega) (Ev.yes (by simp) (Ev.yes (by omega) ?_))
  rw [w64 (by omega) (by omega),show (((pre.length:Nat):Int)+1)=((pre.length+(Tm.cnt n).post.length:Nat):Int) by simp [Tm.post]]
  have e:decide (((popN 4 w:Nat):Int)≥(n:Int))=Tm.ev w (.cnt n):=by simp [Tm.ev]
  rw [e]
  exact h
 | neg a ih =>
  intro hg l pre suf s r hl hn hs h
  have hlp:(Tm.neg a).post.length=a.post.length+1:=by simp [Tm.post]
  refine ih hg l pre (⟨2,0⟩ :: suf) s r (by rw [hl];simp [Tm.post]) hn (by omega) ?_
  have hm:rd_T59 l ((pre.length+a.post.length:Nat):Int)=⟨2,0⟩:=by
   have:=rdM_at' (l:=l) (pre:=pre++a.post) (m:=⟨2,0⟩) (suf:=suf) (by rw [hl];simp [Tm.post])
   rwa [List.length_append] at this
  have hlen:l.length=pre.length+a.post.length+(suf.length+1):=by rw [hl];simp [Tm.post];try omega
  refine Ev.step (fun k=>by simp only [impl_holds.l0];rfl) ?_
  refine Ev.yes (by omega) (Ev.yes (by omega) (Ev.yes (by omega) ?_))
  simp only [hm]
  have hi:wrap64 ((((s++[a.ev w]).length:Nat):Int)-1)=((s.length:Nat):Int):=by rw [List.length_append];rw [w64 (by simp;try omega) (by simp;try omega)];simp
  rw [hi]
  refine Ev.no (by omega) (Ev.no (by omega) (Ev.yes (by simp) (Ev.yes (by omega) (Ev.yes (by simp;omega) ?_))))
  rw [rdB_at s (a.ev w) [],w64 (by omega) (by omega),show (((pre.length+a.post.length:Nat):Int)+1)=((pre.length+(Tm.neg a).post.length:Nat):Int) by rw [hlp];omega]
  have e:(s++[a.ev w]).set ((s.length:Nat):Int).toNat (!a.ev w)=s++[(Tm.neg a).ev w]:=by simp [Tm.ev]
  rw [e]
  exact h
 | bin o a b iha ihb =>
  intro hg l pre suf s r hl hn hs h
  obtain ⟨ho,ha,hb⟩:=hg
  have hlp:(Tm.bin o a b).post.length=a.post.length+(b.post.length+1):=by simp [Tm.post]
  refine iha ha l pre (b.post++⟨o,0⟩ :: suf) s r (by rw [hl];simp [Tm.post]) hn (by omega) ?_
  have h2:=ihb hb l (pre++a.post) (⟨o,0⟩ :: suf) (s++[a.ev w]) r (by rw [hl];simp [Tm.post]) hn (by simp;have:=a.post_pos;omega)
  rw [List.length_append] at h2
  refine h2 ?_
  have hm:rd_T59 l ((pre.length+a.post.length+b.post.length:Nat):Int)=⟨o,0⟩:=by
   have:=rdM_at' (l:=l) (pre:=pre++a.post++b.post) (m:=⟨o,0⟩) (suf:=suf) (by rw [hl];simp [Tm.post])
   rwa [List.length_append,List.length_append] at this
  have hlen:l.length=pre.length+a.post.length+b.post.length+(suf.length+1):=by rw [hl];simp [Tm.post];try omega
  have hsl:(s++[a.ev w]++[b.ev w]).length=s.length+2:=by simp
  have hi:wrap64 (((s.length+2:Nat):Int)-1)=((s.length+1:Nat):Int):=by rw [w64 (by omega) (by omega)];omega
  have hi2:wrap64 (((s.length+1:Nat):Int)-1)=((s.length:Nat):Int):=by rw [w64 (by omega) (by omega)];omega
  have hx:rdOf false (s++[a.ev w]++[b.ev w]) ((s.length:Nat):Int)=a.ev w:=by rw [List.append_assoc];exact rdB_at s (a.ev w) [b.ev w]
  have hy:rdOf false (s++[a.ev w]++[b.ev w]) ((s.length+1:Nat):Int)=b.ev w:=by
   have:=rdB_at (s++[a.ev w]) (b.ev w) []
   rwa [show (s++[a.ev w]).length=s.length+1 by simp] at this
  have ht:(s++[a.ev w]++[b.ev w]).take ((s.length+1:Nat):Int).toNat=s++[a.ev w]:=by
   rw [Int.toNat_natCast,show s.length+1=(s++[a.ev w]).length by simp,List.take_left]
  have hset : ∀ x:Bool,(s++[a.ev w]).set ((s.length:Nat):Int).toNat x=s++[x]:=fun x=>by simp
  refine Ev.step (fun k=>by simp only [impl_holds.l0];rfl) ?_
  refine Ev.yes (by omega) (Ev.yes (by omega) (Ev.yes (by omega) ?_))
  simp only [hm,hi,hi2,hx,hy,ht,hset,hsl,Option.bind_some]
  rw [show wrap64 (((pre.length+a.post.length+b.post.length:Nat):Int)+1)=((pre.length+(Tm.bin o a b).post.length:Nat):Int) by rw [hlp,w64 (by omega) (by omega)];omega]
  have hlt:((s.length:Nat):Int)<(((s++[a.ev w]).length:Nat):Int):=by simp;omega
  refine Ev.no (by omega) (Ev.no (by omega) (Ev.no (by omega) (Ev.yes (by omega) (Ev.yes (by omega) (Ev.yes (by omega) (Ev.yes (by omega) (Ev.yes (by omega) ?_)))))))
  have hfin : ∀ x:Bool,x=(Tm.bin o a b).ev w→Ev (fun k=>impl_holds.l0 k (w:Int) (s++[x]) l ((l.length:Nat):Int) ((pre.length+(Tm.bin o a b).post.length:Nat):Int)) r:=fun x hx=>by rw [hx];exact h
  by_cases h3:(o:Int)=3
  ·refine Ev.yes h3 ?_
   have ho3:o=3:=by omega
   cases hA:a.ev w with
   | true=>exact Ev.yes (by simp) (Ev.yes (by simp;try omega) (hfin _ (by simp [Tm.ev,bop,ho3,hA])))
   | false=>exact Ev.no (by simp) (Ev.yes (by simp;try omega) (hfin _ (by simp [Tm.ev,bop,ho3,hA])))
  refine Ev.no h3 ?_
  by_cases h4:(o:Int)=4
  ·refine Ev.yes h4 ?_
   have ho4:o=4:=by omega
   cases hA:a.ev w with
   | true=>exact Ev.yes (by simp) (Ev.yes (by simp;try omega) (hfin _ (by simp [Tm.ev,bop,ho4,hA])))
   | false=>exact Ev.no (by simp) (Ev.yes (by simp;try omega) (hfin _ (by simp [Tm.ev,bop,ho4,hA])))
  refine Ev.no h4 (Ev.yes hlt (hfin _ ?_))
  have ho5:o=5:=by omega
  simp [Tm.ev,bop,ho5]
theorem impl_holds_ev {p:Int} (hp:p≤4) {w:Nat} (hw:w<16) {a:Tm} (hg:a.good p) (hl:a.post.length≤500):Ev (fun k=>impl_holds.f k a.post (w:Int)) (a.ev w):=by
 unfold impl_holds.f
 refine holds_post hp hw a hg a.post [] [] [] _ (by simp) (by omega) (by simp;omega) ?_
 refine Ev.step (fun k=>by simp only [impl_holds.l0];rfl) ?_
 refine Ev.no (by simp) (Ev.yes (by simp) (Ev.cast (Ev.some _) ?_))
 exact rdB_at [] (a.ev w) []

theorem starts_post {p:Int} : ∀ (a:Tm),a.good p → ∀ (l pre suf:List M) (n:Nat) (r:Int),l=pre++(a.post++suf)→l.length≤1000→n≤1000 →
  Ev (fun k=>spec_l2Starts.l0 k l (n:Int) (((pre.length:Nat):Int)-1)) r→n+a.post.length≤1000 →
  Ev (fun k=>spec_l2Starts.l0 k l ((n+1:Nat):Int) (((pre.length+a.post.length:Nat):Int)-1)) r:=by
 intro a
 induction a with
 | tell i =>
  intro hg l pre suf n r hl hn hk h hk2
  have e1:(((pre.length+(Tm.tell i).post.length:Nat):Int)-1)=((pre.length:Nat):Int):=by simp [Tm.post]
  have hm:rd_T59 l ((pre.length:Nat):Int)=⟨0,i⟩:=rdM_at' (suf:=suf) (by rw [hl];rfl)
  have hlen:l.length=pre.length+(suf.length+1):=by rw [hl];simp [Tm.post];try omega
  rw [e1]
  refine Ev.step (fun k=>by simp only [spec_l2Starts.l0];rfl) ?_
  refine Ev.yes (by omega) (Ev.yes (by omega) (Ev.yes (by omega) ?_))
  simp only [hm]
  refine Ev.yes (by omega) ?_
  rw [w64 (by omega) (by omega),w64 (by omega) (by omega),show (((n+1:Nat):Int)-1)=(n:Int) by omega]
  exact h
 | cnt i =>
  intro hg l pre suf n r hl hn hk h hk2
  have e1:(((pre.length+(Tm.cnt i).post.length:Nat):Int)-1)=((pre.length:Nat):Int):=by simp [Tm.post]
  have hm:rd_T59 l ((pre.length:Nat):Int)=⟨1,i⟩:=rdM_at' (suf:=suf) (by rw [hl];rfl)
  have hlen:l.length=pre.length+(suf.length+1):=by rw [hl];simp [Tm.post];try omega
  rw [e1]
  refine Ev.step (fun k=>by simp only [spec_l2Starts.l0];rfl) ?_
  refine Ev.yes (by omega) (Ev.yes (by omega) (Ev.yes (by omega) ?_))
  simp only [hm]
  refine Ev.yes (by omega) ?_
  rw [w64 (by omega) (by omega),w64 (by omega) (by omega),show (((n+1:Nat):Int)-1)=(n:Int) by omega]
  exact h
 | neg a ih =>
  intro hg l pre suf n r hl hn hk h hk2
  have hlp:(Tm.neg a).post.length=a.post.length+1:=by simp [Tm.post]
  have e1:(((pre.length+(Tm.neg a).post.length:Nat):Int)-1)=((pre.length+a.post.length:Nat):Int):=by rw [hlp];omega
  have hm:rd_T59 l ((pre.length+a.post.length:Nat):Int)=⟨2,0⟩:=by
   have:=rdM_at' (l:=l) (pre:=pre++a.post) (m:=⟨2,0⟩) (suf:=suf) (by rw [hl];simp [Tm.post])
   rwa [List.length_append] at this
  have hlen:l.length=pre.length+a.post.length+(suf.length+1):=by rw [hl];simp [Tm.post];try omega
  rw [e1]
  refine Ev.step (fun k=>by simp only [spec_l2Starts.l0];rfl) ?_
  refine Ev.yes (by omega) (Ev.yes (by omega) (Ev.yes (by omega) ?_))
  simp only [hm]
  refine Ev.no (by omega) (Ev.no (by omega) ?_)
  rw [w64 (by omega) (by omega)]
  exact ih hg l pre (⟨2,0⟩ :: suf) n r (by rw [hl];simp [Tm.post]) hn hk h (by omega)
 | bin o a b iha ihb =>
  intro hg l pre suf n r hl hn hk h hk2
  obtain ⟨ho,ha,hb⟩:=hg
  have hlp:(Tm.bin o a b).post.length=a.post.length+(b.post.length+1):=by simp [Tm.post]
  have e1:(((pre.length+(Tm.bin o a b).post.length:Nat):Int)-1)=((pre.length+a.post.length+b.post.length:Nat):Int):=by rw [hlp];omega
  have hm:rd_T59 l ((pre.length+a.post.length+b.post.length:Nat):Int)=⟨o,0⟩:=by
   have:=rdM_at' (l:=l) (pre:=pre++a.post++b.post) (m:=⟨o,0⟩) (suf:=suf) (by rw [hl];simp [Tm.post])
   rwa [List.length_append,List.length_append] at this
  have hlen:l.length=pre.length+a.post.length+b.post.length+(suf.length+1):=by rw [hl];simp [Tm.post];try omega
  have hap:=a.post_pos
  rw [e1]
  refine Ev.step (fun k=>by simp only [spec_l2Starts.l0];rfl) ?_
  refine Ev.yes (by omega) (Ev.yes (by omega) (Ev.yes (by omega) ?_))
  simp only [hm]
  refine Ev.no (by omega) (Ev.yes (by omega) ?_)
  rw [w64 (by omega) (by omega),w64 (by omega) (by omega),show (((n+1:Nat):Int)+1)=((n+1+1:Nat):Int) by omega]
  have h1:=iha ha l pre (b.post++⟨o,0⟩ :: suf) n r (by rw [hl];simp [Tm.post]) hn hk h (by omega)
  have h2:=ihb hb l (pre++a.post) (⟨o,0⟩ :: suf) (n+1) r (by rw [hl];simp [Tm.post]) hn (by omega)
  rw [List.length_append] at h2
  exact h2 h1 (by omega)
theorem starts_ev {p:Int} {a b:Tm} {suf:List M} (hb:b.good p) (hl:(a.post++(b.post++suf)).length≤900) :
  Ev (fun k=>spec_l2Starts.f k (a.post++(b.post++suf)) (((a.post.length+b.post.length:Nat):Int)-1)) ((a.post.length:Nat):Int):=by
 unfold spec_l2Starts.f
 have hl':a.post.length+(b.post.length+suf.length)≤900:=by simpa using hl
 refine starts_post b hb _ a.post suf 0 _ rfl (by omega) (by omega) ?_ (by omega)
 refine Ev.step (fun k=>by simp only [spec_l2Starts.l0];rfl) ?_
 refine Ev.no (by omega) (Ev.cast (Ev.some _) ?_)
 rw [w64 (by omega) (by omega)]
 omega
theorem heads_l0 : ∀ (w:Fin 16),spec_l1Heads.l0 6 ((w.val:Nat):Int) 0=some ((popN 4 w.val:Nat):Int):=by decide +kernel
theorem heads_ev {w:Nat} (hw:w<16):Ev (fun k=>spec_l1Heads.f k (w:Int)) ((popN 4 w:Nat):Int) :=
 Ev.of (fun k=>spec_l1Heads.mono _ k) (k:=6) (heads_l0 ⟨w,hw⟩)
theorem rdM_last (l:List M) (m:M):rd_T59 (l++[m]) ((l.length:Nat):Int)=m:=rdM_at l m []
theorem l3Holds_ev {p:Int} (hp:p≤4) {w:Nat} (hw:w<16) : ∀ (a:Tm),a.good p→a.post.length≤800→Ev (fun k=>spec_l3Holds.f k a.post (w:Int)) (a.ev w):=by
 intro a
 induction a with
 | tell i =>
  intro hg hl
  have hg':(i:Int)<p:=hg
  refine Ev.step (fun k=>by simp only [spec_l3Holds.f];rfl) ?_
  have hi:wrap64 ((((Tm.tell i).post.length:Nat):Int)-1)=0:=by rw [w64 (by simp [Tm.post]) (by simp [Tm.post])];simp [Tm.post]
  have hm:rd_T59 (Tm.tell i).post 0=⟨0,i⟩:=rdM_last [] ⟨0,i⟩
  simp only [hi,hm]
  refine Ev.yes (by omega) (Ev.yes (by simp [Tm.post]) (Ev.yes (by simp) (Ev.yes (by omega) (Ev.cast (Ev.some _) ?_))))
  exact bit_mod' hw (show i<4 by omega)
 | cnt n =>
  intro hg hl
  refine Ev.step (fun k=>by simp only [spec_l3Holds.f];rfl) ?_
  have hi:wrap64 ((((Tm.cnt n).post.length:Nat):Int)-1)=0:=by rw [w64 (by simp [Tm.post]) (by simp [Tm.post])];simp [Tm.post]
  have hm:rd_T59 (Tm.cnt n).post 0=⟨1,n⟩:=rdM_last [] ⟨1,n⟩
  simp only [hi,hm]
  refine Ev.yes (by omega) (Ev.yes (by simp [Tm.post]) (Ev.no (by omega) (Ev.yes (by simp) ?_)))
  refine Ev.bind (heads_ev hw) (Ev.cast (Ev.some _) ?_)
  simp [Tm.ev]
 | neg a ih =>
  intro hg hl
  have hlp:(Tm.neg a).post.length=a.post.length+1:=by simp [Tm.post]
  refine Ev.step (fun k=>by simp only [spec_l3Holds.f];rfl) ?_
  have hi:wrap64 ((((Tm.neg a).post.length:Nat):Int)-1)=((a.post.length:Nat):Int):=by rw [hlp,w64 (by omega) (by omega)];omega
  have hm:rd_T59 (Tm.neg a).post ((a.post.length:Nat):Int)=⟨2,0⟩:=rdM_last a.post ⟨2,0⟩
  have ht:(Tm.neg a).post.take ((a.post.length:Nat):Int).toNat=a.post:=by simp [Tm.post]
  simp only [hi,hm,ht]
  refine Ev.yes (by omega) (Ev.yes (by omega) (Ev.no (by omega) (Ev.no (by omega) (Ev.yes (by simp) (Ev.yes (by omega) ?_)))))
  exact Ev.bind (ih hg (by omega)) (Ev.some _)
 | bin o a b iha ihb =>
  intro hg hl
  obtain ⟨ho,ha,hb⟩:=hg
  have hlp:(Tm.bin o a b).post.length=a.post.length+(b.post.length+1):=by simp [Tm.post]
  have hap:=a.post_pos
  have hbp:=b.post_pos
  refine Ev.step (fun k=>by simp only [spec_l3Holds.f];rfl) ?_
  have hi:wrap64 ((((Tm.bin o a b).post.length:Nat):Int)-1)=((a.post.length+b.post.length:Nat):Int):=by rw [hlp,w64 (by omega) (by omega)];omega
  have hi2:wrap64 (((a.post.length+b.post.length:Nat):Int)-1)=(((a.post.length+b.post.length:Nat):Int)-1):=w64 (by omega) (by omega)
  have hm:rd_T59 (Tm.bin o a b).post ((a.post.length+b.post.length:Nat):Int)=⟨o,0⟩:=by
   have:=rdM_last (a.post++b.post) ⟨o,0⟩
   rwa [List.length_append,List.append_assoc] at this
  simp only [hi,hm,hi2]
  refine Ev.yes (by omega) (Ev.yes (by omega) (Ev.no (by omega) (Ev.no (by omega) (Ev.no (by omega) ?_))))
  refine Ev.bind (a:=((a.post.length:Nat):Int)) (starts_ev (suf:=[⟨o,0⟩]) hb (by simpa [Tm.post] using (show (Tm.bin o a b).post.length≤900 by omega))) ?_
  have ht:(Tm.bin o a b).post.take ((a.post.length:Nat):Int).toNat=a.post:=by simp [Tm.post]
  have ht2:((Tm.bin o a b).post.take ((a.post.length+b.post.length:Nat):Int).toNat).drop ((a.post.length:Nat):Int).toNat=b.post:=by
   have:(Tm.bin o a b).post=(a.post++b.post)++[⟨o,0⟩]:=by simp [Tm.post]
   rw [this,Int.toNat_natCast,Int.toNat_natCast,show a.post.length+b.post.length=(a.post++b.post).length by simp,List.take_left,List.drop_left]
  simp only [ht,ht2]
  refine Ev.yes (by omega) (Ev.yes (by omega) ?_)
  refine Ev.bind (iha ha (by omega)) ?_
  refine Ev.yes (by omega) (Ev.yes (by omega) ?_)
  refine Ev.bind (ihb hb (by omega)) ?_
  by_cases h3:(o:Int)=3
  ·refine Ev.yes h3 ?_
   have ho3:o=3:=by omega
   cases hA:a.ev w with
   | true=>exact Ev.yes (by simp) (Ev.cast (Ev.some _) (by simp [Tm.ev,bop,ho3,hA]))
   | false=>exact Ev.no (by simp) (Ev.cast (Ev.some _) (by simp [Tm.ev,bop,ho3,hA]))
  refine Ev.no h3 ?_
  by_cases h4:(o:Int)=4
  ·refine Ev.yes h4 ?_
   have ho4:o=4:=by omega
   cases hA:a.ev w with
   | true=>exact Ev.yes (by simp) (Ev.cast (Ev.some _) (by simp [Tm.ev,bop,ho4,hA]))
   | false=>exact Ev.no (by simp) (Ev.cast (Ev.some _) (by simp [Tm.ev,bop,ho4,hA]))
  refine Ev.no h4 (Ev.cast (Ev.some _) ?_)
  have ho5:o=5:=by omega
  simp [Tm.ev,bop,ho5]
end Go.Proofs.Ytbhjeiphmnanoaa.L
