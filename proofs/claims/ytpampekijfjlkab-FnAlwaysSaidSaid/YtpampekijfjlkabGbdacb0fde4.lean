/- Joined by a program of this session's: X7, LP, LT. -/
import Derived.Test.YtpampekijfjlkabGa4ed4a3048
import Derived.Test.YtpampekijfjlkabGe4d161c943
import Derived.Test.YtpampekijfjlkabG6bab2e187a
import Derived.Laws.BitsLemmas
import Derived.Test.YtpampekijfjlkabGd67afe6957

namespace Go.Proofs.Ytpampekijfjlkab.X
open Go.RowKit Go.Proofs.YtpampekijfjlkabW.PrintWords Go.Proofs.YtpampekijfjlkabW.PrintLast Go.Proofs.YtpampekijfjlkabW.PrintMore
open Go.Proofs.YtpampekijfjlkabW.PrintWords renaming Aside0.mk → mA, pw_below_drewN → bN, below_drew1 → bD, below_alloc → bA, below_set → bS, blk_alloc → kA, blk_drewN → kN, blk_drew → kD, below_size → bZ, below_step → bT
open List renaming length_take → lT
attribute [local go_sem] max2_int min2_int max_two min_two max_three min_three max_four min_four   -- for this text's walks alone
set_option linter.unusedVariables false
set_option linter.unusedSimpArgs false
/-! ### spec_l20Open: function 97 -/
def spec_l20Open.f (l0:List Int):Option (List Int×Int):=if (l0.length:Int)>2000 then (if 2000≤(l0.length:Int) then (some (l0.take 2000,0)) else (none)) else (some (l0,0))
set_option maxHeartbeats 8000000 in
set_option maxRecDepth 100000 in
theorem spec_l20Open.calls (A0:Option Addr) (c0:Nat) (l0:List Int) (r1:List Int) (r2:Int) (w0 w:World) (hB:Below w0.heap.size w0 w) (hr0:Kd.C (Kd.int .u8) w0 A0 l0.length l0) (hc0:l0.length≤c0) (h:spec_l20Open.f l0=some (r1,r2)) :
  Calls Try.prog 97 #[.slice A0 l0.length c0] w fun e w'=>∃ g_:Nat,e = .returned (.pointer (some ⟨g_,0,none⟩))∧IsS113 w0 w' g_ r1 r2∧Below w0.heap.size w0 w'∧Below w.heap.size w w':=by
 have hu113:=Try.underlying113
 have HR0:=mA hr0
 have HC0:=mA hc0
 clear hr0 hc0
 have HBW:=mA (Below.refl w.heap.size w)
 have HW0:=mA hB.size
 have HB:=mA hB
 clear hB
 have H:(if (l0.length:Int)>2000 then (if 2000≤(l0.length:Int) then (some (l0.take 2000,0)) else (none)) else (some (l0,0)))=some (r1,r2):=h
 clear h
 by_cases c2:(l0.length:Int)>2000
 ·rw [if_pos c2] at H
  have c2b0:decide (2000<(l0.length:Int))=true:=decide_eq_true c2
  have c2b1:decide (2000<l0.length)=true:=decide_eq_true (by omega)
  clear c2
  by_cases c3:2000≤(l0.length:Int)
  ·rw [if_pos c3] at H
   have c3b0:=eq_true c3
   have c3b1:decide (2000≤(l0.length:Int))=true:=decide_eq_true c3
   clear c3
   simp only [Option.some.injEq,Prod.mk.injEq] at H
   obtain ⟨rfl,rfl⟩:=H
   obtain ⟨i04,hi04,_,hsz4,_⟩:=info_parts info5
   obtain ⟨hcut4,hA4,hC4⟩:=print_take_of (P:=Try.prog) (Value.int .u8) 0 22 5 .i64 Try.underlying22 hi04 hsz4 A0 c0 l0 2000 (by omega) (of_decide_eq_true (by first|with_reducible assumption|assumption)) HC0.out
   have HR101:=mA (Kd.C_of_reads (h1:=fun _=>rfl) (hA4 _ (Kd.reads_of_C HR0.out)))
   have HC101:=mA hC4
   clear hA4 hC4 hi04 hsz4
   go_enter Try.func97,Try.ntmps97
   go_wp2_with (first|((with_reducible refine gate_dst (N:=10) rfl ?_);refine box_event ?hg (N:=10) ?hd (cs:=#[.slice A0 (l0.take 2000).length c0,.int .i64 0]) (t:=113) ?hr ?_;(case hd=>rfl);(case hg=>rfl);(case hr=>first|(go_simp;done)|(go_simp;rfl));intro gb102 hg w5 hbox hb;have n0_:=mA (bT HBW.out hb);have n1_:=mA (bT (by repeat first|(with_reducible first|exact HB.out|apply bA|apply bN|apply bD)|exact HB.out) hb);have n2_:=mA (hbox);have n3_:=mA ((by rw [hg];exact (bZ (by repeat first|(with_reducible first|exact HBW.out|apply bA|apply bN|apply bD)|exact HBW.out)):w.heap.size≤gb102));have n4_:=mA ((Nat.le_trans HW0.out (by rw [hg];exact (bZ (by repeat first|(with_reducible first|exact HBW.out|apply bA|apply bN|apply bD)|exact HBW.out)):w.heap.size≤gb102):w0.heap.size≤gb102));clear HBW HB;have HBW:=n0_;have HB:=n1_;have BK102:=n2_;have GW102:=n3_;have GE102:=n4_;clear n0_ n1_ n2_ n3_ n4_ hb hbox hg))
   go_ret
   exact ⟨_,rfl,(show IsS113 w0 _ gb102 (l0.take 2000) 0 from ⟨_,_,by (with_reducible repeat first|refine kN ?_ _|refine kD ?_|refine kA ?_ _);exact BK102.out,GE102.out,HR101.out⟩),by repeat (first|(with_reducible first|exact HB.out|apply bA|apply bN|apply bD|refine bS ?_ GE102.out)|exact HB.out),by repeat (first|(with_reducible first|exact HBW.out|apply bA|apply bN|apply bD|refine bS ?_ GW102.out)|exact HBW.out)⟩
  rw [if_neg c3] at H
  exact absurd H (by simp)
 rw [if_neg c2] at H
 have c2b0:decide (2000<(l0.length:Int))=false:=decide_eq_false c2
 have c2b1:decide (2000<l0.length)=false:=decide_eq_false (by omega)
 clear c2
 simp only [Option.some.injEq,Prod.mk.injEq] at H
 obtain ⟨rfl,rfl⟩:=H
 go_enter Try.func97,Try.ntmps97
 go_wp2_with (first|((with_reducible refine gate_dst (N:=10) rfl ?_);refine box_event ?hg (N:=10) ?hd (cs:=#[.slice A0 l0.length c0,.int .i64 0]) (t:=113) ?hr ?_;(case hd=>rfl);(case hg=>rfl);(case hr=>first|(go_simp;done)|(go_simp;rfl));intro gb103 hg w6 hbox hb;have n0_:=mA (bT HBW.out hb);have n1_:=mA (bT (by repeat first|(with_reducible first|exact HB.out|apply bA|apply bN|apply bD)|exact HB.out) hb);have n2_:=mA (hbox);have n3_:=mA ((by rw [hg];exact (bZ (by repeat first|(with_reducible first|exact HBW.out|apply bA|apply bN|apply bD)|exact HBW.out)):w.heap.size≤gb103));have n4_:=mA ((Nat.le_trans HW0.out (by rw [hg];exact (bZ (by repeat first|(with_reducible first|exact HBW.out|apply bA|apply bN|apply bD)|exact HBW.out)):w.heap.size≤gb103):w0.heap.size≤gb103));clear HBW HB;have HBW:=n0_;have HB:=n1_;have BK103:=n2_;have GW103:=n3_;have GE103:=n4_;clear n0_ n1_ n2_ n3_ n4_ hb hbox hg))
 go_ret
 exact ⟨_,rfl,(show IsS113 w0 _ gb103 l0 0 from ⟨_,_,by (with_reducible repeat first|refine kN ?_ _|refine kD ?_|refine kA ?_ _);exact BK103.out,GE103.out,HR0.out⟩),by repeat (first|(with_reducible first|exact HB.out|apply bA|apply bN|apply bD|refine bS ?_ GE103.out)|exact HB.out),by repeat (first|(with_reducible first|exact HBW.out|apply bA|apply bN|apply bD|refine bS ?_ GW103.out)|exact HBW.out)⟩
end Go.Proofs.Ytpampekijfjlkab.X
/- Plain laws of the reader of draws: whatever the code, it answers, with a number in its range. -/
namespace Go.Proofs.Ytpampekijfjlkab.L
open Go.RowKit Go.Proofs.Ytpampekijfjlkab.X Go.Proofs.YtpampekijfjlkabW.PrintWords Go.Proofs.YtpampekijfjlkabW.PrintLast Go.Proofs.YtpampekijfjlkabW.PrintMore
open Go.Proofs.YtpampekijfjlkabW.PrintWords renaming Aside0.mk → mA, pw_below_drewN → bN, below_drew1 → bD, below_alloc → bA, below_set → bS, blk_alloc → kA, blk_drewN → kN, blk_drew → kD, below_size → bZ, below_step → bT
open List renaming length_take → lT
theorem rdI_mem {s:List Int} {i:Int} (h0:0≤i) (h1:i<(s.length:Int)):rd s i∈s:=by
 unfold rd
 rw [List.getD_eq_getElem?_getD,List.getElem?_eq_getElem (by omega)]
 exact List.getElem_mem _
theorem xor_nat (a b:Nat) (ha:a<2^62) (hb:b<2^62):Go.bits .xor .i64 (a:Int) (b:Int)=((a ^^^ b:Nat):Int):=by
 have ha':a % 2^IntKind.i64.bits=a:=Nat.mod_eq_of_lt (by show a<2^64;omega)
 have hb':b % 2^IntKind.i64.bits=b:=Nat.mod_eq_of_lt (by show b<2^64;omega)
 have hx:a ^^^ b<2^62:=Nat.xor_lt_two_pow ha hb
 simp only [Go.bits,BitVec.ofInt_natCast,BitVec.toNat_xor,BitVec.toNat_ofNat,ha',hb']
 rw [IntKind.wrap_i64]
 omega
/-- A reader of draws, in bounds. -/
def Rd (s:List Int):Prop:=s.length≤2000 ∧ ∀ x∈s,0≤x∧x<256
theorem pick_ev {s:List Int} (hs:Rd s) {p:Int} (h0:0≤p) (h1:p≤1000000) (n:Int) (hn:n≤1000000) :
  ∃ r:Int,Ev (fun k=>spec_l20Rd_pick.f k s p n) (r,p+1)∧0≤r∧(1≤n→r<n):=by
 have hp:wrap64 (p+1)=p+1:=w64 (by omega) (by omega)
 have hj : ∀ b:Bool,(b=false→1≤n∧0<s.length) → ∃ r:Int,Ev (fun k=>spec_l20Rd_pick.j0 k n b s (p+1)) (r,p+1)∧0≤r∧(1≤n→r<n):=by
  intro b hb
  cases b with
  | true =>
   refine ⟨0,(by refine Ev.step (fun k=>by simp only [spec_l20Rd_pick.j0];rfl) ?_;exact Ev.yes trivial (Ev.some _)),by omega,fun h=>by omega⟩
  | false =>
   obtain ⟨hn1,hl⟩:=hb rfl
   have hq:wrap64 (p+1-1)=p:=by rw [w64 (by omega) (by omega)];omega
   by_cases hlt:p<(s.length:Int)
   ·have hm:=hs.2 _ (rdI_mem h0 hlt)
    refine ⟨Int.tmod (wrap64 (rd s p)) n,?_,?_,?_⟩
    ·refine Ev.step (fun k=>by simp only [spec_l20Rd_pick.j0];rfl) ?_
     refine Ev.no (by simp) ?_
     simp only [hq]
     exact Ev.yes hlt (Ev.yes h0 (Ev.no (by omega) (Ev.some _)))
    ·rw [w64 (by omega) (by omega)];exact Int.tmod_nonneg _ hm.1
    intro _;exact Int.tmod_lt_of_pos _ (by omega)
   have hl2:=hs.1
   have e1:Int.tmod p (s.length:Int)=p % (s.length:Int):=Int.tmod_eq_emod_of_nonneg h0
   have b1:0≤p % (s.length:Int):=Int.emod_nonneg _ (by omega)
   have b2:p % (s.length:Int)<(s.length:Int):=Int.emod_lt_of_pos _ (by omega)
   have e2:wrap64 (wrap64 (p*7)+3)=p*7+3:=by rw [w64 (x:=p*7) (by omega) (by omega),w64 (by omega) (by omega)]
   have e3:Int.tmod (p*7+3) (s.length:Int)=(p*7+3) % (s.length:Int):=Int.tmod_eq_emod_of_nonneg (by omega)
   have b3:0≤(p*7+3) % (s.length:Int):=Int.emod_nonneg _ (by omega)
   have b4:(p*7+3) % (s.length:Int)<(s.length:Int):=Int.emod_lt_of_pos _ (by omega)
   have m1:=hs.2 _ (rdI_mem b1 b2)
   have m2:=hs.2 _ (rdI_mem b3 b4)
   have e4:Int.tdiv p (s.length:Int)=p / (s.length:Int):=Int.tdiv_eq_ediv_of_nonneg h0
   have b5:0≤p / (s.length:Int):=Int.ediv_nonneg h0 (by omega)
   have b6:p / (s.length:Int)≤p:=Int.ediv_le_self _ h0
   obtain ⟨x,hx0,hx1,hx⟩ : ∃ x:Int,0≤x∧x≤200000000∧wrap64 ((wrap64 ((wrap64 ((wrap64 ((wrap64 (rd s (Int.tmod p (s.length:Int))))*131))+(wrap64 ((wrap64 (rd s (Int.tmod (wrap64 ((wrap64 (p*7))+3)) (s.length:Int))))*1117))))+(wrap64 (p*29))))+(wrap64 ((wrap64 (Int.tdiv p (s.length:Int)))*53)))=x:=by
    refine ⟨_,?_,?_,rfl⟩
    all_goals
     rw [e1,e2,e3,e4,w64 (x:=rd s (p % (s.length:Int))) (by omega) (by omega),w64 (x:=rd s ((p*7+3) % (s.length:Int))) (by omega) (by omega),w64 (x:=p / (s.length:Int)) (by omega) (by omega),w64 (x:=p*29) (by omega) (by omega),w64 (x:=rd s (p % (s.length:Int))*131) (by omega) (by omega),w64 (x:=rd s ((p*7+3) % (s.length:Int))*1117) (by omega) (by omega),w64 (x:=p / (s.length:Int)*53) (by omega) (by omega),
      w64 (x:=rd s (p % (s.length:Int))*131+rd s ((p*7+3) % (s.length:Int))*1117) (by omega) (by omega),w64 (x:=rd s (p % (s.length:Int))*131+rd s ((p*7+3) % (s.length:Int))*1117+p*29) (by omega) (by omega),w64 (by omega) (by omega)]
     omega
   have e5:Int.tdiv x 64=x / 64:=Int.tdiv_eq_ediv_of_nonneg hx0
   obtain ⟨y,hy⟩ : ∃ y:Nat,Go.bits .xor .i64 x (wrap64 (Int.tdiv x 64))=(y:Int):=by
    rw [e5,w64 (x:=x / 64) (by omega) (by omega)]
    obtain ⟨a,rfl⟩:=Int.eq_ofNat_of_zero_le hx0
    refine ⟨a ^^^ (a / 64),?_⟩
    rw [show ((a:Int) / 64)=((a / 64:Nat):Int) by omega]
    exact xor_nat a (a / 64) (by omega) (by omega)
   refine ⟨Int.tmod (y:Int) n,?_,Int.tmod_nonneg _ (by omega),fun _=>Int.tmod_lt_of_pos _ (by omega)⟩
   refine Ev.step (fun k=>by simp only [spec_l20Rd_pick.j0];rfl) ?_
   refine Ev.no (by simp) ?_
   simp only [hq]
   refine Ev.no hlt (Ev.no (by omega) (Ev.yes (by rw [e1];exact b1) (Ev.yes (by rw [e1];exact b2) (Ev.yes (by rw [e2,e3];exact b3) (Ev.yes (by rw [e2,e3];exact b4) (Ev.no (by omega) ?_))))))
   rw [hx,hy]
   exact Ev.some _
 unfold spec_l20Rd_pick.f
 rw [hp]
 by_cases h2:n<1
 ·obtain ⟨r,hr,h3⟩:=hj true (by simp)
  exact ⟨r,Ev.yes h2 hr,h3⟩
 obtain ⟨r,hr,h3⟩:=hj ((s.length:Int)==0) (fun h=>⟨by omega,by have:=beq_eq_false_iff_ne.1 h;omega⟩)
 exact ⟨r,Ev.no h2 hr,h3⟩
theorem odd_ev {s:List Int} (hs:Rd s) {p:Int} (h0:0≤p) (h1:p≤1000000) (n:Int) (hn:n≤1000000) :
  ∃ (b:Bool) (p':Int),Ev (fun k=>spec_l20Rd_odd.f k s p n) (b,p')∧p≤p'∧p'≤p+1:=by
 unfold spec_l20Rd_odd.f
 by_cases h:n>0
 ·obtain ⟨r,hr,_⟩:=pick_ev hs h0 h1 n hn
  exact ⟨_,_,Ev.yes h (Ev.bind hr (Ev.some _)),by omega,by omega⟩
 exact ⟨_,_,Ev.no h (Ev.some _),by omega,by omega⟩
theorem open_eq {l:List Int} (hw : ∀ x∈l,(Lit.int .u8 x).wf=true) : ∃ s,Rd s∧spec_l20Open.f l=some (s,0):=by
 have hb : ∀ x∈l,0≤x∧x<256:=by
  intro x hx
  have:=hw x hx
  simp only [Lit.wf,IntKind.min,IntKind.max,IntKind.signed,IntKind.bits,Bool.and_eq_true] at this
  simp at this
  omega
 unfold spec_l20Open.f
 by_cases h:(l.length:Int)>2000
 ·rw [if_pos h,if_pos (by omega)]
  refine ⟨l.take 2000,⟨by rw [lT];omega,fun x hx=>hb x (List.mem_of_mem_take hx)⟩,rfl⟩
 rw [if_neg h]
 exact ⟨l,⟨by omega,hb⟩,rfl⟩
/-- Small numbers in all marks. -/
def Sm (t:List M):Prop:=∀ m∈t,m.f1≤1000
theorem Sm.app {a b:List M} (ha:Sm a) (hb:Sm b):Sm (a++b):=by
 intro m hm
 rcases List.mem_append.1 hm with h|h
 ·exact ha m h
 exact hb m h
theorem Sm.one {m:M} (h:m.f1≤1000):Sm [m]:=by
 intro x hx
 rw [List.mem_singleton.1 hx]
 exact h
theorem Sm.nil:Sm []:=fun m hm=>by cases hm
theorem Sm.cons {m:M} {t:List M} (h:m.f1≤1000) (ht:Sm t):Sm (m :: t):=Sm.app (Sm.one h) ht
theorem Sm.wf {t:List M} (h:Sm t) : ∀ m∈t,m.f1≤9223372036854775807:=fun m hm=>by have:=h m hm;omega
def tot (l:List (List M)):Nat:=(l.map List.length).sum
theorem tot_app (a b:List (List M)):tot (a++b)=tot a+tot b:=by simp [tot]
theorem tot_cons (a:List M) (b:List (List M)):tot (a :: b)=a.length+tot b:=by simp [tot]
/-- Parts of a term that is being drawn. -/
def Pts (l:List (List M)):Prop:=∀ x∈l,1≤x.length∧Sm x
theorem Pts.app {a b:List (List M)} (ha:Pts a) (hb:Pts b):Pts (a++b):=by
 intro x hx
 rcases List.mem_append.1 hx with h|h
 ·exact ha x h
 exact hb x h
theorem len_le_tot {x:List M} {l:List (List M)} (h:x∈l):x.length≤tot l:=by
 obtain ⟨a,b,rfl⟩:=List.append_of_mem h
 rw [tot_app,tot_cons]
 omega
theorem rdL_split {l:List (List M)} {q:Nat} (h:q<l.length):rd_L3 l (q:Int)=l[q]∧l=l.take q++l[q] :: l.drop (q+1):=by
 refine ⟨by unfold rd_L3;simp [List.getD,h],?_⟩
 rw [List.getElem_cons_drop,List.take_append_drop]
/-- The end of a drawn term. -/
theorem l20Term_j2 {s:List Int} (hs:Rd s) {p:Int} (h0:0≤p) (h1:p≤900000) (n:Int) (hn:n≤1000) (t:List M) (ht0:1≤t.length) (ht1:t.length≤15) (hsm:Sm t) :
  ∃ (r:List M) (p':Int),Ev (fun k=>spec_l20Term.j2 k n t s p) (r,p')∧r.length≤16∧Sm r∧p≤p'∧p'≤p+3:=by
 obtain ⟨b,p1,hb,hp1,hp2⟩:=odd_ev hs h0 (by omega) n (by omega)
 have st : ∀ {r:List M} {p':Int},Ev (fun k=>(spec_l20Rd_odd.f k s p n).bind fun bt258=>(if bt258.1=true then ((spec_l20Rd_pick.f k s bt258.2 3).bind fun bt260=>(if bt260.1=0 then (some ((([]:List (S33))),bt260.2)) else (if bt260.1=1 then (if t.length<8796093022208 then (some ((t++[(⟨5,0⟩:S33)]),bt260.2)) else (none)) else ((spec_l20Rd_pick.f k s bt260.2 2).bind fun bt268=>(if 0<(t.length:Int) then (some ((t.set (0:Int).toNat (⟨bt268.1,6⟩:S33)),bt268.2)) else (none)))))) else (some (t,bt258.2)))) (r,p')→Ev (fun k=>spec_l20Term.j2 k n t s p) (r,p'):=fun h=>Ev.step (fun k=>by simp only [spec_l20Term.j2]) h
 cases b with
 | false=>exact ⟨t,p1,st (Ev.bind hb (Ev.no (by simp) (Ev.some _))),by omega,hsm,by omega,by omega⟩
 | true =>
  obtain ⟨q,hq,hq0,hq1⟩:=pick_ev hs (p:=p1) (by omega) (by omega) 3 (by omega)
  by_cases e0:q=0
  ·exact ⟨[],p1+1,st (Ev.bind hb (Ev.yes rfl (Ev.bind hq (Ev.yes e0 (Ev.some _))))),by simp,Sm.nil,by omega,by omega⟩
  by_cases e1:q=1
  ·exact ⟨t++[⟨5,0⟩],p1+1,st (Ev.bind hb (Ev.yes rfl (Ev.bind hq (Ev.no e0 (Ev.yes e1 (Ev.yes (by omega) (Ev.some _))))))),by simp<;>omega,hsm.app (Sm.one (by simp)),by omega,by omega⟩
  obtain ⟨u,hu,hu0,hu1⟩:=pick_ev hs (p:=p1+1) (by omega) (by omega) 2 (by omega)
  refine ⟨t.set (0:Int).toNat ⟨u,6⟩,p1+1+1,st (Ev.bind hb (Ev.yes rfl (Ev.bind hq (Ev.no e0 (Ev.no e1 (Ev.bind hu (Ev.yes (by omega) (Ev.some _)))))))),by simp<;>omega,?_,by omega,by omega⟩
  intro m hm
  rcases List.mem_or_eq_of_mem_set hm with h|h
  ·exact hsm m h
  rw [h];simp
theorem l20Term_l1 {s:List Int} (hs:Rd s) (n:Int) (hn:n≤1000) : ∀ (d:Nat) (l:List (List M)) (left:Nat) (p:Int),l.length+left=d→1≤l.length→l.length+left+tot l≤12→Pts l→0≤p→p≤800000-10*d →
  ∃ (r:List M) (p':Int),Ev (fun k=>spec_l20Term.l1 k n l (left:Int) s p) (r,p')∧r.length≤16∧Sm r∧p≤p'∧p'≤p+3*d+10:=by
 intro d
 induction d using Nat.strongRecOn with
 | _ d ih =>
 intro l left p hd hl ht hP h0 h1
 by_cases hlen:(l.length:Int)>1
 ·obtain ⟨qi,hq,hq0,hq1⟩:=pick_ev hs h0 (by omega) ((l.length:Int)-1) (by omega)
  have hq2:=hq1 (by omega)
  obtain ⟨q,rfl⟩:=Int.eq_ofNat_of_zero_le hq0
  have hql:q+1<l.length:=by omega
  obtain ⟨ex,hx⟩:=rdL_split (l:=l) (q:=q) (by omega)
  obtain ⟨ey,hy⟩:=rdL_split (l:=l) (q:=q+1) hql
  have hw1:wrap64 ((l.length:Int)-1)=(l.length:Int)-1:=w64 (by omega) (by omega)
  have hwq1:wrap64 ((q:Int)+1)=((q+1:Nat):Int):=by rw [w64 (by omega) (by omega)];omega
  have hwq2:wrap64 ((q:Int)+2)=((q+2:Nat):Int):=by rw [w64 (by omega) (by omega)];omega
  have hPx:=hP l[q] (List.getElem_mem _)
  have hPy:=hP l[q+1] (List.getElem_mem _)
  have hxl:=len_le_tot (show l[q]∈l from List.getElem_mem _)
  have hyl:=len_le_tot (show l[q+1]∈l from List.getElem_mem _)
  have hdrop:l.drop (q+1)=l[q+1] :: l.drop (q+2):=(List.getElem_cons_drop (h:=hql)).symm
  have htot:tot l=tot (l.take q)+(l[q].length+(l[q+1].length+tot (l.drop (q+2)))):=by
   conv=>lhs;rw [hx]
   rw [tot_app,tot_cons,hdrop,tot_cons]
  have hPt:Pts (l.take q):=fun x hx=>hP x (List.mem_of_mem_take hx)
  have hPd:Pts (l.drop (q+2)):=fun x hx=>hP x (List.mem_of_mem_drop hx)
  -- two parts become one
  have both : ∀ p2:Int,p+1≤p2→p2≤p+2 → ∃ (r:List M) (p':Int),Ev (fun k=>(spec_l20Rd_pick.f k s p2 3).bind fun bt=>spec_l20Term.l1 k n (l.take q++[l[q]++l[q+1]++[(⟨wrap64 (3+bt.1),0⟩:S33)]]++l.drop (q+2)) (left:Int) s bt.2) (r,p')∧r.length≤16∧Sm r∧p≤p'∧p'≤p+3*d+10:=by
   intro p2 ha hb
   obtain ⟨u,hu,hu0,hu1⟩:=pick_ev hs (p:=p2) (by omega) (by omega) 3 (by omega)
   have hlen2:(l.take q++[l[q]++l[q+1]++[(⟨wrap64 (3+u),0⟩:S33)]]++l.drop (q+2)).length=l.length-1:=by simp<;>omega
   have htot2:tot (l.take q++[l[q]++l[q+1]++[(⟨wrap64 (3+u),0⟩:S33)]]++l.drop (q+2))=tot l+1:=by
    rw [htot,tot_app,tot_app,tot_cons]
    simp [tot]
    omega
   obtain ⟨r,p',hr,h2,h3,h4,h5⟩:=ih (d-1) (by omega) _ left (p2+1) (by rw [hlen2];omega) (by rw [hlen2];omega) (by rw [hlen2,htot2];omega)
    ((hPt.app (fun x hx=>by rw [List.mem_singleton.1 hx];exact ⟨by simp<;>omega,(hPx.2.app hPy.2).app (Sm.one (by simp))⟩)).app hPd) (by omega) (by omega)
   exact ⟨r,p',Ev.bind hu hr,h2,h3,by omega,by omega⟩
  have bothS : ∀ p2:Int,p+1≤p2→p2≤p+2 → ∃ (r:List M) (p':Int),Ev (fun k=>(spec_l20Rd_pick.f k s p2 3).bind fun bt=>spec_l20Term.l1 k n (([]++l.take (q:Int).toNat)++[([]++rd_L3 l (q:Int))++rd_L3 l ((q+1:Nat):Int)++[(⟨wrap64 (3+bt.1),0⟩:S33)]]++l.drop ((q+2:Nat):Int).toNat) (left:Int) s bt.2) (r,p')∧r.length≤16∧Sm r∧p≤p'∧p'≤p+3*d+10:=by
   intro p2 ha hb
   have:=both p2 ha hb
   simpa only [ex,ey,List.nil_append,Int.toNat_natCast] using this
  have hsz1:([]++rd_L3 l (q:Int)).length<8796093022208:=by rw [ex];simp<;>omega
  have hdr:((([]:List (List M))++l.take (q:Int).toNat).length)<1000:=by simp<;>omega
  -- a part is denied
  have deny : ∀ p2:Int,p+1≤p2→p2≤p+2→1≤left → ∃ (r:List M) (p':Int),Ev (fun k=>spec_l20Term.l1 k n (l.set (q:Int).toNat (([]++rd_L3 l (q:Int))++[(⟨2,0⟩:S33)])) ((left:Int)-1) s p2) (r,p')∧r.length≤16∧Sm r∧p≤p'∧p'≤p+3*d+10:=by
   intro p2 ha hb hle
   have hset:l.set (q:Int).toNat (([]++rd_L3 l (q:Int))++[(⟨2,0⟩:S33)])=l.take q++(l[q]++[(⟨2,0⟩:S33)]) :: l.drop (q+1):=by
    rw [ex,Int.toNat_natCast,List.nil_append,List.set_eq_take_append_cons_drop,if_pos (by omega)]
   rw [hset,show ((left:Int)-1)=((left-1:Nat):Int) by omega]
   have hlen2:(l.take q++(l[q]++[(⟨2,0⟩:S33)]) :: l.drop (q+1)).length=l.length:=by simp<;>omega
   have htot2:tot (l.take q++(l[q]++[(⟨2,0⟩:S33)]) :: l.drop (q+1))=tot l+1:=by
    rw [htot,tot_app,tot_cons,hdrop,tot_cons]
    simp
    omega
   obtain ⟨r,p',hr,h2,h3,h4,h5⟩:=ih (d-1) (by omega) _ (left-1) p2 (by rw [hlen2];omega) (by rw [hlen2];omega) (by rw [hlen2,htot2];omega)
    (hPt.app (fun x hx=>by
     rcases List.mem_cons.1 hx with rfl|hx
     ·exact ⟨by simp,hPx.2.app (Sm.one (by simp))⟩
     exact hP x (List.mem_of_mem_drop hx))) (by omega) (by omega)
   exact ⟨r,p',hr,h2,h3,by omega,by omega⟩
  by_cases hleft:(left:Int)>0
  ·obtain ⟨v,hv,hv0,hv1⟩:=pick_ev hs (p:=p+1) (by omega) (by omega) 4 (by omega)
   by_cases e0:v=0
   ·obtain ⟨r,p',hr,h2,h3,h4,h5⟩:=deny (p+1+1) (by omega) (by omega) (by omega)
    refine ⟨r,p',?_,h2,h3,h4,h5⟩
    refine Ev.step (fun k=>by simp only [spec_l20Term.l1];rfl) ?_
    refine Ev.yes hlen ?_
    rw [hw1]
    refine Ev.bind hq (Ev.yes hleft (Ev.bind hv (Ev.yes e0 ?_)))
    simp only [Option.bind_some]
    refine Ev.yes (by omega) (Ev.yes (by omega) (Ev.yes (by rw [ex];simp<;>omega) (Ev.yes hsz1 ?_)))
    rw [w64 (x:=(left:Int)-1) (by omega) (by omega)]
    exact hr
   obtain ⟨r,p',hr,h2,h3,h4,h5⟩:=bothS (p+1+1) (by omega) (by omega)
   refine ⟨r,p',?_,h2,h3,h4,h5⟩
   refine Ev.step (fun k=>by simp only [spec_l20Term.l1];rfl) ?_
   refine Ev.yes hlen ?_
   rw [hw1]
   refine Ev.bind hq (Ev.yes hleft (Ev.bind hv (Ev.no e0 ?_)))
   simp only [Option.bind_some,hwq1,hwq2]
   refine Ev.yes (by omega) (Ev.yes (by omega) (Ev.yes (by rw [ex];simp<;>omega) (Ev.yes (by omega) (Ev.yes (by omega) (Ev.yes (by rw [ex,ey];simp<;>omega) ?_)))))
   refine Ev.congr (fun k=>?_) hr
   refine Option.bind_congr fun bt _=>?_
   rw [if_pos (by rw [ex,ey];simp<;>omega),if_pos (by omega),if_pos (by simp<;>omega),if_pos (by simp<;>omega),if_pos (by omega),if_pos (by omega),if_pos (by simp<;>omega)]
  obtain ⟨r,p',hr,h2,h3,h4,h5⟩:=bothS (p+1) (by omega) (by omega)
  refine ⟨r,p',?_,h2,h3,h4,h5⟩
  refine Ev.step (fun k=>by simp only [spec_l20Term.l1];rfl) ?_
  refine Ev.yes hlen ?_
  rw [hw1]
  refine Ev.bind hq (Ev.no hleft ?_)
  simp only [Option.bind_some,hwq1,hwq2]
  refine Ev.yes (by omega) (Ev.yes (by omega) (Ev.yes (by rw [ex];simp<;>omega) (Ev.yes (by omega) (Ev.yes (by omega) (Ev.yes (by rw [ex,ey];simp<;>omega) ?_)))))
  refine Ev.congr (fun k=>?_) hr
  refine Option.bind_congr fun bt _=>?_
  rw [if_pos (by rw [ex,ey];simp<;>omega),if_pos (by omega),if_pos (by simp<;>omega),if_pos (by simp<;>omega),if_pos (by omega),if_pos (by omega),if_pos (by simp<;>omega)]
 obtain ⟨ex,_⟩:=rdL_split (l:=l) (q:=0) (by omega)
 have hPx:=hP l[0] (List.getElem_mem _)
 have hxl:=len_le_tot (show l[0]∈l from List.getElem_mem _)
 obtain ⟨v,hv,hv0,hv1⟩:=pick_ev hs h0 (by omega) 5 (by omega)
 have ex':rd_L3 l 0=l[0]:=ex
 by_cases e0:v=0
 ·obtain ⟨r,p',hr,h2,h3,h4,h5⟩:=l20Term_j2 hs (p:=p+1) (by omega) (by omega) n hn (l[0]++[⟨2,0⟩]) (by simp) (by simp<;>omega) (hPx.2.app (Sm.one (by simp)))
  refine ⟨r,p',?_,h2,h3,by omega,by omega⟩
  refine Ev.step (fun k=>by simp only [spec_l20Term.l1];rfl) ?_
  refine Ev.no hlen (Ev.yes (by omega) ?_)
  rw [ex']
  exact Ev.bind hv (Ev.yes e0 (Ev.yes (by omega) hr))
 obtain ⟨r,p',hr,h2,h3,h4,h5⟩:=l20Term_j2 hs (p:=p+1) (by omega) (by omega) n hn l[0] hPx.1 (by omega) hPx.2
 refine ⟨r,p',?_,h2,h3,by omega,by omega⟩
 refine Ev.step (fun k=>by simp only [spec_l20Term.l1];rfl) ?_
 refine Ev.no hlen (Ev.yes (by omega) ?_)
 rw [ex']
 exact Ev.bind hv (Ev.no e0 hr)
theorem l20Term_l0 {s:List Int} (hs:Rd s) (P n:Int) (hP0:1≤P) (hP1:P≤4) (hn:n≤1000) : ∀ (d:Nat) (l:List (List M)) (p:Int),1≤l.length+d→l.length+d≤4→tot l≤l.length→Pts l→0≤p→p≤700000-10*d →
  ∃ (r:List M) (p':Int),Ev (fun k=>spec_l20Term.l0 k P n l (d:Int) s p) (r,p')∧r.length≤16∧Sm r∧p≤p'∧p'≤p+2*d+40:=by
 intro d
 induction d with
 | zero =>
  intro l p hl1 hl2 ht hPt h0 h1
  obtain ⟨r,p',hr,h2,h3,h4,h5⟩:=l20Term_l1 hs n hn (l.length+3) l 3 p rfl (by omega) (by omega) hPt h0 (by omega)
  exact ⟨r,p',(by refine Ev.step (fun k=>by simp only [spec_l20Term.l0];rfl) ?_;exact Ev.no (by omega) hr),h2,h3,by omega,by omega⟩
 | succ d ih =>
  intro l p hl1 hl2 ht hPt h0 h1
  obtain ⟨v,hv,hv0,hv1⟩:=pick_ev hs h0 (by omega) 4 (by omega)
  have one : ∀ (m:M) (p2:Int),m.f1≤1000→p+2≤p2→p2≤p+2 → ∃ (r:List M) (p':Int),Ev (fun k=>spec_l20Term.l0 k P n (l++[[m]]) (wrap64 (((d+1:Nat):Int)-1)) s p2) (r,p')∧r.length≤16∧Sm r∧p≤p'∧p'≤p+2*(d+1)+40:=by
   intro m p2 hm ha hb
   obtain ⟨r,p',hr,h2,h3,h4,h5⟩:=ih (l++[[m]]) p2 (by simp<;>omega) (by simp<;>omega) (by rw [tot_app];simp [tot];exact ht) (hPt.app (fun x hx=>by rw [List.mem_singleton.1 hx];exact ⟨by simp,Sm.one hm⟩)) (by omega) (by omega)
   refine ⟨r,p',?_,h2,h3,by omega,by omega⟩
   rw [w64 (by omega) (by omega),show (((d+1:Nat):Int)-1)=(d:Int) by omega]
   exact hr
  by_cases e0:v=0
  ·obtain ⟨u,hu,hu0,hu1⟩:=pick_ev hs (p:=p+1) (by omega) (by omega) (P+2) (by omega)
   have hu2:=hu1 (by omega)
   obtain ⟨r,p',hr,h2,h3,h4,h5⟩:=one ⟨1,u⟩ (p+1+1) (by show u≤1000;omega) (by omega) (by omega)
   refine ⟨r,p',?_,h2,h3,h4,by omega⟩
   refine Ev.step (fun k=>by simp only [spec_l20Term.l0];rfl) ?_
   refine Ev.yes (by omega) (Ev.bind hv (Ev.yes e0 ?_))
   rw [w64 (x:=P+2) (by omega) (by omega)]
   exact Ev.bind hu (Ev.yes (by omega) hr)
  obtain ⟨u,hu,hu0,hu1⟩:=pick_ev hs (p:=p+1) (by omega) (by omega) P (by omega)
  have hu2:=hu1 (by omega)
  obtain ⟨r,p',hr,h2,h3,h4,h5⟩:=one ⟨0,u⟩ (p+1+1) (by show u≤1000;omega) (by omega) (by omega)
  exact ⟨r,p',(by refine Ev.step (fun k=>by simp only [spec_l20Term.l0];rfl) ?_;exact Ev.yes (by omega) (Ev.bind hv (Ev.no e0 (Ev.bind hu (Ev.yes (by omega) hr))))),h2,h3,h4,by omega⟩
theorem l20Term_ev {s:List Int} (hs:Rd s) {p:Int} (h0:0≤p) (h1:p≤600000) (P n:Int) (hn:n≤1000) :
  ∃ (r:List M) (p':Int),Ev (fun k=>spec_l20Term.f k s p P n) (r,p')∧r.length≤16∧Sm r∧p≤p'∧p'≤p+60:=by
 obtain ⟨v,hv,hv0,hv1⟩:=pick_ev hs h0 (by omega) 4 (by omega)
 have hv2:=hv1 (by omega)
 obtain ⟨d,hd⟩:=Int.eq_ofNat_of_zero_le (show 0≤1+v by omega)
 have hP:1≤mn (mx P 1) 4∧mn (mx P 1) 4≤4:=by unfold mn mx;constructor<;>(repeat' split)<;>omega
 obtain ⟨r,p',hr,h2,h3,h4,h5⟩:=l20Term_l0 hs (mn (mx P 1) 4) n hP.1 hP.2 hn d [] (p+1) (by simp<;>omega) (by simp<;>omega) (by simp [tot]) (fun x hx=>by cases hx) (by omega) (by omega)
 refine ⟨r,p',?_,h2,h3,by omega,by omega⟩
 unfold spec_l20Term.f
 refine Ev.bind hv ?_
 rw [w64 (by omega) (by omega),hd]
 exact hr
end Go.Proofs.Ytpampekijfjlkab.L
