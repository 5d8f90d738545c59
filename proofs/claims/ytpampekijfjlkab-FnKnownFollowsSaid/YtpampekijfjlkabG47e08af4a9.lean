/- Joined by a program of this session's: XO, X5, X6, X8, X11, X12, X17. -/
import Derived.Test.YtpampekijfjlkabRows
import Derived.KernelRfl
import Derived.Test.YtpampekijfjlkabG44e43c9cff
import Derived.Test.YtpampekijfjlkabGa182fd2e43
import Derived.Test.YtpampekijfjlkabGec7189ddfd
import Derived.Test.YtpampekijfjlkabG884ba293af
import Derived.Test.YtpampekijfjlkabG088fa9cd7c

/- The program's own row of starts, word by word. -/
namespace Go.Proofs.Ytpampekijfjlkab.X
open Go
set_option maxRecDepth 100000
set_option linter.unusedSimpArgs false
theorem words_step : ∀ (w r:List Char),w.all (fun c=>c != ' ')=true→wordsSigns (w ++ ' ' :: r)=w :: wordsSigns r
 | [],r,_=>by simp [wordsSigns]
 | c :: w,r,h=>by
  simp only [List.all_cons,Bool.and_eq_true,bne_iff_ne,ne_eq] at h
  have ih:=words_step w r h.2
  have h1:=h.1
  rw [List.cons_append,wordsSigns,ih]
  ·intro e;exact h1 e
theorem words_last : ∀ (w:List Char),w.all (fun c=>c != ' ')=true→wordsSigns w=[w]
 | [],_=>by simp [wordsSigns]
 | c :: w,h=>by
  simp only [List.all_cons,Bool.and_eq_true,bne_iff_ne,ne_eq] at h
  have ih:=words_last w h.2
  have h1:=h.1
  rw [wordsSigns,ih]
  ·intro e;exact h1 e
def ow0:List Char:=['h', 'a', 'r', 'n', 'e', 's', 's']
def ow1:List Char:=['8', '9', 'f', 'b', 'f', '7', '5', '9', '6', '6', '0', 'e', '1', '7', '1', '5', '0', 'c', '1', 'e', '0', '5', 'e', '8', 'd', '7', '3', 'b', 'e', 'e', 'e', '7', '2', 'b', 'c', 'b', 'd', 'f', 'e', 'd', '4', '4', 'a', 'a', '8', 'c', '8', 'f', '6', '0', '6', '1', '9', '2', 'c', 'c', '8', '7', '1', '1', '2', 'c', '7', 'f']
def ow2:List Char:=['c', 'u', 't']
def ow3:List Char:=['a', 't']
def ow4:List Char:=['l', 'o', 'o', 'p', '.', 'e', 'x', 'a', 'm', 'p', 'l', 'e', '/', 't', 'e', 'l', 'l', 'e', 'r', 's', 'a', 'n', 'd', 'l', 'i', 'a', 'r', 's', '/', 'l', 'a', 'w', 's', '.', 'F', 'n', 'K', 'n', 'o', 'w', 'n', 'F', 'o', 'l', 'l', 'o', 'w', 's']
def ow5:List Char:=['l', 'o', 'o', 'p', '.', 'e', 'x', 'a', 'm', 'p', 'l', 'e', '/', 't', 'e', 'l', 'l', 'e', 'r', 's', 'a', 'n', 'd', 'l', 'i', 'a', 'r', 's', '/', 'l', 'a', 'w', 's', '.', 'F', 'n', 'E', 'x', 'a', 'c', 't', 'S', 'p', 'y', 'S', 'a', 'y', 's']
def ow6:List Char:=['l', 'o', 'o', 'p', '.', 'e', 'x', 'a', 'm', 'p', 'l', 'e', '/', 't', 'e', 'l', 'l', 'e', 'r', 's', 'a', 'n', 'd', 'l', 'i', 'a', 'r', 's', '/', 'l', 'a', 'w', 's', '.', 'F', 'n', 'M', 'a', 'y', 'S', 'a', 'y']
def ow7:List Char:=['l', 'o', 'o', 'p', '.', 'e', 'x', 'a', 'm', 'p', 'l', 'e', '/', 't', 'e', 'l', 'l', 'e', 'r', 's', 'a', 'n', 'd', 'l', 'i', 'a', 'r', 's', '/', 'l', 'a', 'w', 's', '.', 'F', 'n', 'S', 'a', 'y', 'C', 'o', 'u', 'n', 't']
def ow8:List Char:=['l', 'o', 'o', 'p', '.', 'e', 'x', 'a', 'm', 'p', 'l', 'e', '/', 't', 'e', 'l', 'l', 'e', 'r', 's', 'a', 'n', 'd', 'l', 'i', 'a', 'r', 's', '/', 'l', 'a', 'w', 's', '.', 'F', 'n', 'C', 'l', 'a', 'i', 'm', 'T', 'a', 'b', 'l', 'e']
def ow9:List Char:=['l', 'o', 'o', 'p', '.', 'e', 'x', 'a', 'm', 'p', 'l', 'e', '/', 't', 'e', 'l', 'l', 'e', 'r', 's', 'a', 'n', 'd', 'l', 'i', 'a', 'r', 's', '/', 'l', 'a', 'w', 's', '.', 'F', 'n', 'W', 'o', 'r', 'd', 'T', 'a', 'b', 'l', 'e']
def ow10:List Char:=['l', 'o', 'o', 'p', '.', 'e', 'x', 'a', 'm', 'p', 'l', 'e', '/', 't', 'e', 'l', 'l', 'e', 'r', 's', 'a', 'n', 'd', 'l', 'i', 'a', 'r', 's', '/', 'l', 'a', 'w', 's', '.', 'F', 'n', 'S', 't', 'o', 'r', 'y', 'T', 'a', 'b', 'l', 'e']
def ow11:List Char:=['l', 'o', 'o', 'p', '.', 'e', 'x', 'a', 'm', 'p', 'l', 'e', '/', 't', 'e', 'l', 'l', 'e', 'r', 's', 'a', 'n', 'd', 'l', 'i', 'a', 'r', 's', '/', 'l', 'a', 'w', 's', '.', 'F', 'n', 'C', 'l', 'a', 's', 'h', 'O', 'k']
def ow12:List Char:=['l', 'o', 'o', 'p', '.', 'e', 'x', 'a', 'm', 'p', 'l', 'e', '/', 't', 'e', 'l', 'l', 'e', 'r', 's', 'a', 'n', 'd', 'l', 'i', 'a', 'r', 's', '/', 'l', 'a', 'w', 's', '.', 'F', 'n', 'A', 'l', 'i', 'k', 'e', 'O', 'k']
def ow13:List Char:=['l', 'o', 'o', 'p', '.', 'e', 'x', 'a', 'm', 'p', 'l', 'e', '/', 't', 'e', 'l', 'l', 'e', 'r', 's', 'a', 'n', 'd', 'l', 'i', 'a', 'r', 's', '/', 'l', 'a', 'w', 's', '.', 'F', 'n', 'E', 'x', 'a', 'c', 't', 'S', 't', 'o', 'r', 'y', 'T', 'a', 'b', 'l', 'e']
def ow14:List Char:=['l', 'o', 'o', 'p', '.', 'e', 'x', 'a', 'm', 'p', 'l', 'e', '/', 't', 'e', 'l', 'l', 'e', 'r', 's', 'a', 'n', 'd', 'l', 'i', 'a', 'r', 's', '/', 'l', 'a', 'w', 's', '.', 'F', 'n', 'E', 'x', 'a', 'c', 't', 'C', 'l', 'a', 's', 'h', 'O', 'k']
def ow15:List Char:=['l', 'o', 'o', 'p', '.', 'e', 'x', 'a', 'm', 'p', 'l', 'e', '/', 't', 'e', 'l', 'l', 'e', 'r', 's', 'a', 'n', 'd', 'l', 'i', 'a', 'r', 's', '/', 'l', 'a', 'w', 's', '.', 'F', 'n', 'A', 'l', 'w', 'a', 'y', 's', 'S', 'a', 'i', 'd']
def ow16:List Char:=['l', 'o', 'o', 'p', '.', 'e', 'x', 'a', 'm', 'p', 'l', 'e', '/', 't', 'e', 'l', 'l', 'e', 'r', 's', 'a', 'n', 'd', 'l', 'i', 'a', 'r', 's', '/', 'l', 'a', 'w', 's', '.', 'F', 'n', 'N', 'e', 'v', 'e', 'r', 'S', 'a', 'i', 'd']
def ow17:List Char:=['l', 'o', 'o', 'p', '.', 'e', 'x', 'a', 'm', 'p', 'l', 'e', '/', 't', 'e', 'l', 'l', 'e', 'r', 's', 'a', 'n', 'd', 'l', 'i', 'a', 'r', 's', '/', 'l', 'a', 'w', 's', '.', 'F', 'n', 'S', 'p', 'y', 'S', 'a', 'y', 's']
def ow18:List Char:=['l', 'o', 'o', 'p', '.', 'e', 'x', 'a', 'm', 'p', 'l', 'e', '/', 't', 'e', 'l', 'l', 'e', 'r', 's', 'a', 'n', 'd', 'l', 'i', 'a', 'r', 's', '/', 'l', 'a', 'w', 's', '.', 'F', 'n', 'E', 'x', 'a', 'c', 't', 'O', 'n', 'l', 'y', 'W', 'o', 'r', 'l', 'd']
def ow19:List Char:=['l', 'o', 'o', 'p', '.', 'e', 'x', 'a', 'm', 'p', 'l', 'e', '/', 't', 'e', 'l', 'l', 'e', 'r', 's', 'a', 'n', 'd', 'l', 'i', 'a', 'r', 's', '/', 'l', 'a', 'w', 's', '.', 'F', 'n', 'N', 'e', 'e', 'd', 'l', 'e', 's', 's', 'C', 'l', 'a', 'i', 'm', 's']
def ow20:List Char:=['l', 'o', 'o', 'p', '.', 'e', 'x', 'a', 'm', 'p', 'l', 'e', '/', 't', 'e', 'l', 'l', 'e', 'r', 's', 'a', 'n', 'd', 'l', 'i', 'a', 'r', 's', '/', 'l', 'a', 'w', 's', '.', 'F', 'n', 'O', 'n', 'l', 'y', 'W', 'o', 'r', 'l', 'd']
def ow21:List Char:=['l', 'o', 'o', 'p', '.', 'e', 'x', 'a', 'm', 'p', 'l', 'e', '/', 't', 'e', 'l', 'l', 'e', 'r', 's', 'a', 'n', 'd', 'l', 'i', 'a', 'r', 's', '/', 'l', 'a', 'w', 's', '.', 'F', 'n', 'E', 'x', 'a', 'c', 't', 'N', 'e', 'e', 'd', 'l', 'e', 's', 's', 'C', 'l', 'a', 'i', 'm', 's']
def ow22:List Char:=['l', 'o', 'o', 'p', '.', 'e', 'x', 'a', 'm', 'p', 'l', 'e', '/', 't', 'e', 'l', 'l', 'e', 'r', 's', 'a', 'n', 'd', 'l', 'i', 'a', 'r', 's', '/', 'l', 'a', 'w', 's', '.', 'F', 'n', 'K', 'n', 'o', 'w', 'n', 'P', 'e', 'o', 'p', 'l', 'e']
theorem lit_:Try.pinned.checked.prog.initOrder=String.ofList (ow0 ++ ' ' :: (ow1 ++ ' ' :: (ow2 ++ ' ' :: (ow3 ++ ' ' :: (ow4 ++ ' ' :: (ow5 ++ ' ' :: (ow6 ++ ' ' :: (ow7 ++ ' ' :: (ow8 ++ ' ' :: (ow9 ++ ' ' :: (ow10 ++ ' ' :: (ow11 ++ ' ' :: (ow12 ++ ' ' :: (ow13 ++ ' ' :: (ow14 ++ ' ' :: (ow15 ++ ' ' :: (ow16 ++ ' ' :: (ow17 ++ ' ' :: (ow18 ++ ' ' :: (ow19 ++ ' ' :: (ow20 ++ ' ' :: (ow21 ++ ' ' :: (ow22))))))))))))))))))))))):=by kernel_rfl
theorem order_:Try.pinned.checked.prog.initOrder.toList=ow0 ++ ' ' :: (ow1 ++ ' ' :: (ow2 ++ ' ' :: (ow3 ++ ' ' :: (ow4 ++ ' ' :: (ow5 ++ ' ' :: (ow6 ++ ' ' :: (ow7 ++ ' ' :: (ow8 ++ ' ' :: (ow9 ++ ' ' :: (ow10 ++ ' ' :: (ow11 ++ ' ' :: (ow12 ++ ' ' :: (ow13 ++ ' ' :: (ow14 ++ ' ' :: (ow15 ++ ' ' :: (ow16 ++ ' ' :: (ow17 ++ ' ' :: (ow18 ++ ' ' :: (ow19 ++ ' ' :: (ow20 ++ ' ' :: (ow21 ++ ' ' :: (ow22)))))))))))))))))))))):=by rw [lit_];exact String.toList_ofList
theorem words_:wordsSigns Try.pinned.checked.prog.initOrder.toList=[ow0,ow1,ow2,ow3,ow4,ow5,ow6,ow7,ow8,ow9,ow10,ow11,ow12,ow13,ow14,ow15,ow16,ow17,ow18,ow19,ow20,ow21,ow22]:=by
 rw [order_,words_step _ _ (by kernel_rfl),words_step _ _ (by kernel_rfl),words_step _ _ (by kernel_rfl),words_step _ _ (by kernel_rfl),words_step _ _ (by kernel_rfl),words_step _ _ (by kernel_rfl),words_step _ _ (by kernel_rfl),words_step _ _ (by kernel_rfl),words_step _ _ (by kernel_rfl),words_step _ _ (by kernel_rfl),words_step _ _ (by kernel_rfl),words_step _ _ (by kernel_rfl),words_step _ _ (by kernel_rfl),words_step _ _ (by kernel_rfl),words_step _ _ (by kernel_rfl),words_step _ _ (by kernel_rfl),words_step _ _ (by kernel_rfl),words_step _ _ (by kernel_rfl),words_step _ _ (by kernel_rfl),words_step _ _ (by kernel_rfl),words_step _ _ (by kernel_rfl),words_step _ _ (by kernel_rfl),words_last _ (by kernel_rfl)]
theorem behind_:behindMainWord (wordsSigns Try.pinned.checked.prog.initOrder.toList)=['c', 'u', 't'] :: [ow3,ow4,ow5,ow6,ow7,ow8,ow9,ow10,ow11,ow12,ow13,ow14,ow15,ow16,ow17,ow18,ow19,ow20,ow21,ow22]:=by
 rw [words_]
 kernel_rfl
theorem lw0 : "finals".toList = ['f', 'i', 'n', 'a', 'l', 's'] := (show (String.ofList ['f', 'i', 'n', 'a', 'l', 's']).toList = ['f', 'i', 'n', 'a', 'l', 's'] from String.toList_ofList)
theorem lw1 : "reflectrows".toList = ['r', 'e', 'f', 'l', 'e', 'c', 't', 'r', 'o', 'w', 's'] := (show (String.ofList ['r', 'e', 'f', 'l', 'e', 'c', 't', 'r', 'o', 'w', 's']).toList = ['r', 'e', 'f', 'l', 'e', 'c', 't', 'r', 'o', 'w', 's'] from String.toList_ofList)
theorem lw2 : "leanrows".toList = ['l', 'e', 'a', 'n', 'r', 'o', 'w', 's'] := (show (String.ofList ['l', 'e', 'a', 'n', 'r', 'o', 'w', 's']).toList = ['l', 'e', 'a', 'n', 'r', 'o', 'w', 's'] from String.toList_ofList)
theorem lw3 : "onebuild".toList = ['o', 'n', 'e', 'b', 'u', 'i', 'l', 'd'] := (show (String.ofList ['o', 'n', 'e', 'b', 'u', 'i', 'l', 'd']).toList = ['o', 'n', 'e', 'b', 'u', 'i', 'l', 'd'] from String.toList_ofList)
theorem lw4 : "publicsums".toList = ['p', 'u', 'b', 'l', 'i', 'c', 's', 'u', 'm', 's'] := (show (String.ofList ['p', 'u', 'b', 'l', 'i', 'c', 's', 'u', 'm', 's']).toList = ['p', 'u', 'b', 'l', 'i', 'c', 's', 'u', 'm', 's'] from String.toList_ofList)
theorem lw5 : "eqguard".toList = ['e', 'q', 'g', 'u', 'a', 'r', 'd'] := (show (String.ofList ['e', 'q', 'g', 'u', 'a', 'r', 'd']).toList = ['e', 'q', 'g', 'u', 'a', 'r', 'd'] from String.toList_ofList)
theorem lw6 : "ownunsafe".toList = ['o', 'w', 'n', 'u', 'n', 's', 'a', 'f', 'e'] := (show (String.ofList ['o', 'w', 'n', 'u', 'n', 's', 'a', 'f', 'e']).toList = ['o', 'w', 'n', 'u', 'n', 's', 'a', 'f', 'e'] from String.toList_ofList)
theorem lw7 : "libbeside".toList = ['l', 'i', 'b', 'b', 'e', 's', 'i', 'd', 'e'] := (show (String.ofList ['l', 'i', 'b', 'b', 'e', 's', 'i', 'd', 'e']).toList = ['l', 'i', 'b', 'b', 'e', 's', 'i', 'd', 'e'] from String.toList_ofList)
theorem lw8 : "ownbeside".toList = ['o', 'w', 'n', 'b', 'e', 's', 'i', 'd', 'e'] := (show (String.ofList ['o', 'w', 'n', 'b', 'e', 's', 'i', 'd', 'e']).toList = ['o', 'w', 'n', 'b', 'e', 's', 'i', 'd', 'e'] from String.toList_ofList)
theorem lw9 : "reflbeside".toList = ['r', 'e', 'f', 'l', 'b', 'e', 's', 'i', 'd', 'e'] := (show (String.ofList ['r', 'e', 'f', 'l', 'b', 'e', 's', 'i', 'd', 'e']).toList = ['r', 'e', 'f', 'l', 'b', 'e', 's', 'i', 'd', 'e'] from String.toList_ofList)
theorem lw10 : "aliases".toList = ['a', 'l', 'i', 'a', 's', 'e', 's'] := (show (String.ofList ['a', 'l', 'i', 'a', 's', 'e', 's']).toList = ['a', 'l', 'i', 'a', 's', 'e', 's'] from String.toList_ofList)
theorem lw11 : "afterinit".toList = ['a', 'f', 't', 'e', 'r', 'i', 'n', 'i', 't'] := (show (String.ofList ['a', 'f', 't', 'e', 'r', 'i', 'n', 'i', 't']).toList = ['a', 'f', 't', 'e', 'r', 'i', 'n', 'i', 't'] from String.toList_ofList)
theorem lw12 : "crcplain".toList = ['c', 'r', 'c', 'p', 'l', 'a', 'i', 'n'] := (show (String.ofList ['c', 'r', 'c', 'p', 'l', 'a', 'i', 'n']).toList = ['c', 'r', 'c', 'p', 'l', 'a', 'i', 'n'] from String.toList_ofList)
theorem lw13 : "roadunsafe".toList = ['r', 'o', 'a', 'd', 'u', 'n', 's', 'a', 'f', 'e'] := (show (String.ofList ['r', 'o', 'a', 'd', 'u', 'n', 's', 'a', 'f', 'e']).toList = ['r', 'o', 'a', 'd', 'u', 'n', 's', 'a', 'f', 'e'] from String.toList_ofList)
theorem lw14 : "fmthandon".toList = ['f', 'm', 't', 'h', 'a', 'n', 'd', 'o', 'n'] := (show (String.ofList ['f', 'm', 't', 'h', 'a', 'n', 'd', 'o', 'n']).toList = ['f', 'm', 't', 'h', 'a', 'n', 'd', 'o', 'n'] from String.toList_ofList)
theorem lw15 : "gc".toList = ['g', 'c'] := (show (String.ofList ['g', 'c']).toList = ['g', 'c'] from String.toList_ofList)
theorem lw16 : "spec".toList = ['s', 'p', 'e', 'c'] := (show (String.ofList ['s', 'p', 'e', 'c']).toList = ['s', 'p', 'e', 'c'] from String.toList_ofList)
theorem lw17 : "stop".toList = ['s', 't', 'o', 'p'] := (show (String.ofList ['s', 't', 'o', 'p']).toList = ['s', 't', 'o', 'p'] from String.toList_ofList)
theorem lw18 : "carried".toList = ['c', 'a', 'r', 'r', 'i', 'e', 'd'] := (show (String.ofList ['c', 'a', 'r', 'r', 'i', 'e', 'd']).toList = ['c', 'a', 'r', 'r', 'i', 'e', 'd'] from String.toList_ofList)
theorem lw19 : "cut".toList = ['c', 'u', 't'] := (show (String.ofList ['c', 'u', 't']).toList = ['c', 'u', 't'] from String.toList_ofList)
theorem strip_ (r:List (List Char)):stripLifts liftWords (['c', 'u', 't'] :: r)=([],['c', 'u', 't'] :: r):=by
 unfold liftWords
 simp [stripLifts,lw0,lw1,lw2,lw3,lw4,lw5,lw6,lw7,lw8,lw9,lw10,lw11,lw12,lw13,lw14,lw15,lw16,lw17,lw18,lw19]
theorem may_of {P:Program} {r:List (List Char)} (hb:behindMainWord (wordsSigns P.initOrder.toList)=['c', 'u', 't'] :: r) (h1:P.laysLater=false) (h2:P.bearsReflect=false) (h3:P.doorRows=[]):P.mayEnter=true:=by
 unfold Program.mayEnter
 rw [hb]
 simp [strip_,lw0,lw1,lw2,lw3,lw4,lw5,lw6,lw7,lw8,lw9,lw10,lw11,lw12,lw13,lw14,lw15,lw16,lw17,lw18,lw19,Program.doorFits,h1,h2,h3]
theorem fin_of {P:Program} {r:List (List Char)} (hb:behindMainWord (wordsSigns P.initOrder.toList)=['c', 'u', 't'] :: r):P.liftsFinal=false:=by
 unfold Program.liftsFinal Program.headLifts
 rw [hb]
 simp [strip_,lw0,lw1,lw2,lw3,lw4,lw5,lw6,lw7,lw8,lw9,lw10,lw11,lw12,lw13,lw14,lw15,lw16,lw17,lw18,lw19]
theorem make_of {P:Program} {r:List (List Char)} (hb:behindMainWord (wordsSigns P.initOrder.toList)=['c', 'u', 't'] :: r):P.make=some .cut:=by
 unfold Program.make
 rw [hb]
 simp [lw0,lw1,lw2,lw3,lw4,lw5,lw6,lw7,lw8,lw9,lw10,lw11,lw12,lw13,lw14,lw15,lw16,lw17,lw18,lw19]
theorem lays_:Try.pinned.checked.prog.laysLater=false:=by kernel_rfl
theorem refl_:Try.pinned.checked.prog.bearsReflect=false:=by kernel_rfl
theorem door_:Try.pinned.checked.prog.doorRows=[]:=by kernel_rfl
theorem may_:Try.pinned.checked.prog.mayEnter=true:=may_of behind_ lays_ refl_ door_
theorem make_:Try.pinned.checked.prog.make=some .cut:=make_of behind_
theorem fin_:Try.pinned.checked.prog.liftsFinal=false:=fin_of behind_
end Go.Proofs.Ytpampekijfjlkab.X
namespace Go.Proofs.Ytpampekijfjlkab.X
open Go.RowKit Go.Proofs.YtpampekijfjlkabW.PrintWords Go.Proofs.YtpampekijfjlkabW.PrintLast Go.Proofs.YtpampekijfjlkabW.PrintMore
open Go.Proofs.YtpampekijfjlkabW.PrintWords renaming Aside0.mk → mA, pw_below_drewN → bN, below_drew1 → bD, below_alloc → bA, below_set → bS, blk_alloc → kA, blk_drewN → kN, blk_drew → kD, blk_cell → kC, blk_frozen → kF, below_size → bZ, below_step → bT, Kd.R_alloc → rA, Kd.R_drewN → rN, Kd.R_drew → rD, Kd.R_mono → rM, Kd.R_reads' → rR, Kd.R_far → rF, Kd.R_below → rB, KeepBut.set_ → eS, keep_drewN → eN, keep_alloc → eA, keep_drew → eD, Kd.C_alloc → cA, Kd.C_drewN → cN, Kd.C_drew → cD
open List renaming setIfInBounds_toArray → sA, set_cons_zero → sZ, set_cons_succ → sS, length_take → lT, length_drop → lD, map_toArray → mT, map_cons → mC, map_nil → mN
open Bool renaming true → I, false → O
attribute [local go_sem] max2_int min2_int max_two min_two max_three min_three max_four min_four   -- for this text's walks alone
set_option linter.unusedVariables false
set_option linter.unusedSimpArgs false
/-! ### spec_l20Claim: function 138 -/
def spec_l20Claim.f (k:Nat) (s0_0:List Int) (s0_1:Int) (a1:Int) (a2:Int):Option (Int×(List (S33))×Int):=(spec_l20Rd_pick.f k s0_0 s0_1 (mx a1 1)).bind fun bt102=>((spec_l20Term.f k s0_0 bt102.2 a1 (wrap64 (a2*2))).bind fun bt104=>((spec_l20Rd_odd.f k s0_0 bt104.2 a2).bind fun bt109=>(if bt109.1=true then ((some (([(-1),4]:List Int):List Int)).bind fun y111=>((spec_l20Rd_pick.f k s0_0 bt109.2 2).bind fun bt114=>(if 0≤bt114.1 then (if bt114.1<(y111.length:Int) then (some (rd y111 bt114.1,bt104.1,bt114.2)) else (none)) else (none)))) else (some (bt102.1,bt104.1,bt109.2)))))
theorem spec_l20Claim.mono : ∀ a0 a1 a2 a3 k,LeO (spec_l20Claim.f k a0 a1 a2 a3) (spec_l20Claim.f (k+1) a0 a1 a2 a3):=by
 intro a0 a1 a2 a3 k
 unfold spec_l20Claim.f
 repeat' first
   | (with_reducible exact spec_l20Rd_odd.mono _ _ _ _)
   | (with_reducible exact spec_l20Rd_pick.mono _ _ _ _)
   | (with_reducible exact spec_l20Term.mono _ _ _ _ _)
   | (with_reducible exact LeO.refl _)
   | (with_reducible exact LeO.none _)
   | (with_reducible refine LeO.ite ?_ ?_)
   | (with_reducible refine LeO.bind ?_ (fun _=>?_))
   | exact spec_l20Rd_odd.mono _ _ _ _
   | exact spec_l20Rd_pick.mono _ _ _ _
   | exact spec_l20Term.mono _ _ _ _ _
   | exact LeO.none _
   | refine LeO.ite ?_ ?_
   | refine LeO.bind ?_ (fun _=>?_)
set_option maxHeartbeats 8000000 in
set_option maxRecDepth 100000 in
theorem spec_l20Claim.calls (k:Nat) (g:Nat) (s0_0:List Int) (s0_1:Int) (a1:Int) (a2:Int) (r1:Int) (r2:List (S33)) (r3:Int) (w0 w:World) (hI:IsS113 w0 w g s0_0 s0_1) (hB:Below w0.heap.size w0 w) (h:spec_l20Claim.f k s0_0 s0_1 a1 a2=some (r1,r2,r3)) :
  Calls Try.prog 138 #[.pointer (some ⟨g,0,none⟩),.int .i64 a1,.int .i64 a2] w fun e w'=>∃ v1_:Value,e = .returned (.agg #[.int .i64 r1,v1_])∧Kd.R k33 33 w' w.heap.size (fun _=>True) v1_ r2∧IsS113 w0 w' g s0_0 r3∧Below w0.heap.size w0 w'∧KeepBut w w' g none:=by
 have hu36:=Try.underlying36
 have HI0:=mA hI
 have HK:=mA (KeepBut.refl w g none)
 have HL:=mA hB.size
 clear hI
 have HW0:=mA hB.size
 have HB:=mA hB
 clear hB
 have H:((spec_l20Rd_pick.f k s0_0 s0_1 (mx a1 1)).bind fun bt102=>((spec_l20Term.f k s0_0 bt102.2 a1 (wrap64 (a2*2))).bind fun bt104=>((spec_l20Rd_odd.f k s0_0 bt104.2 a2).bind fun bt109=>(if bt109.1=true then ((some (([(-1),4]:List Int):List Int)).bind fun y111=>((spec_l20Rd_pick.f k s0_0 bt109.2 2).bind fun bt114=>(if 0≤bt114.1 then (if bt114.1<(y111.length:Int) then (some (rd y111 bt114.1,bt104.1,bt114.2)) else (none)) else (none)))) else (some (bt102.1,bt104.1,bt109.2))))))=some (r1,r2,r3):=h
 clear h
 obtain ⟨ji4,hji4⟩ : ∃ j_:Int,(mx a1 1)=j_:=⟨_,rfl⟩
 replace H:((spec_l20Rd_pick.f k s0_0 s0_1 (ji4)).bind fun bt102=>((spec_l20Term.f k s0_0 bt102.2 a1 (wrap64 (a2*2))).bind fun bt104=>((spec_l20Rd_odd.f k s0_0 bt104.2 a2).bind fun bt109=>(if bt109.1=true then ((some (([(-1),4]:List Int):List Int)).bind fun y111=>((spec_l20Rd_pick.f k s0_0 bt109.2 2).bind fun bt114=>(if 0≤bt114.1 then (if bt114.1<(y111.length:Int) then (some (rd y111 bt114.1,bt104.1,bt114.2)) else (none)) else (none)))) else (some (bt102.1,bt104.1,bt109.2))))))=some (r1,r2,r3):=by first|(rw [hji4] at H;exact H)|(simp only [hji4] at H ⊢;exact H)
 (try (have hji4l:1≤ji4:=by (rw [←hji4];unfold mx;(repeat' split)<;>omega)))
 (try (have hji4m:0≤ji4:=by omega))
 have hji4_:(if a1<1 then 1 else a1)=ji4:=hji4
 replace H:=Option.bind_eq_some_iff.mp H
 obtain ⟨⟨t102,t103⟩,A50,H⟩:=H
 replace H:((spec_l20Term.f k s0_0 t103 a1 (wrap64 (a2*2))).bind fun bt104=>((spec_l20Rd_odd.f k s0_0 bt104.2 a2).bind fun bt109=>(if bt109.1=true then ((some (([(-1),4]:List Int):List Int)).bind fun y111=>((spec_l20Rd_pick.f k s0_0 bt109.2 2).bind fun bt114=>(if 0≤bt114.1 then (if bt114.1<(y111.length:Int) then (some (rd y111 bt114.1,bt104.1,bt114.2)) else (none)) else (none)))) else (some (t102,bt104.1,bt109.2)))))=some (r1,r2,r3):=H
 have A5:=mA A50
 clear A50
 replace H:=Option.bind_eq_some_iff.mp H
 obtain ⟨⟨t104,t107⟩,A60,H⟩:=H
 replace H:((spec_l20Rd_odd.f k s0_0 t107 a2).bind fun bt109=>(if bt109.1=true then ((some (([(-1),4]:List Int):List Int)).bind fun y111=>((spec_l20Rd_pick.f k s0_0 bt109.2 2).bind fun bt114=>(if 0≤bt114.1 then (if bt114.1<(y111.length:Int) then (some (rd y111 bt114.1,t104,bt114.2)) else (none)) else (none)))) else (some (t102,t104,bt109.2))))=some (r1,r2,r3):=H
 have A6:=mA A60
 clear A60
 replace H:=Option.bind_eq_some_iff.mp H
 obtain ⟨⟨t109,t110⟩,A70,H⟩:=H
 replace H:(if t109=true then ((some (([(-1),4]:List Int):List Int)).bind fun y111=>((spec_l20Rd_pick.f k s0_0 t110 2).bind fun bt114=>(if 0≤bt114.1 then (if bt114.1<(y111.length:Int) then (some (rd y111 bt114.1,t104,bt114.2)) else (none)) else (none)))) else (some (t102,t104,t110)))=some (r1,r2,r3):=H
 have A7:=mA A70
 clear A70
 by_cases c8:t109=true
 ·subst c8
  have H1:((some (([(-1),4]:List Int):List Int)).bind fun y111=>((spec_l20Rd_pick.f k s0_0 t110 2).bind fun bt114=>(if 0≤bt114.1 then (if bt114.1<(y111.length:Int) then (some (rd y111 bt114.1,t104,bt114.2)) else (none)) else (none))))=some (r1,r2,r3):=by rw [if_pos rfl] at H;exact H
  clear H
  have H:=H1
  clear H1
  obtain ⟨y111,hy111⟩ : ∃ y_:List Int,y_=(([(-1),4]:List Int)):=⟨_,rfl⟩
  replace H:((spec_l20Rd_pick.f k s0_0 t110 2).bind fun bt114=>(if 0≤bt114.1 then (if bt114.1<(y111.length:Int) then (some (rd y111 bt114.1,t104,bt114.2)) else (none)) else (none)))=some (r1,r2,r3):=by first|(rw [hy111];with_reducible exact H)|(have H2_:=(Option.bind_some _ _).symm.trans H;rw [hy111];with_reducible exact H2_)|(have H2_:=(Option.bind_some _ _).symm.trans H;with_reducible exact H2_)|with_reducible exact H|(rw [hy111];exact H)|exact H
  have Ny111:=mA hy111
  clear hy111
  replace H:=Option.bind_eq_some_iff.mp H
  obtain ⟨⟨t114,t115⟩,A90,H⟩:=H
  replace H:(if 0≤t114 then (if t114<(y111.length:Int) then (some (rd y111 t114,t104,t115)) else (none)) else (none))=some (r1,r2,r3):=H
  have A9:=mA A90
  clear A90
  by_cases c10:0≤t114
  ·rw [if_pos c10] at H
   have c10b0:decide (0≤t114)=true:=decide_eq_true c10
   clear c10
   by_cases c11:t114<(y111.length:Int)
   ·rw [if_pos c11] at H
    have c11b0:decide (t114<(y111.length:Int))=true:=decide_eq_true c11
    clear c11
    simp only [Option.some.injEq,Prod.mk.injEq] at H
    obtain ⟨rfl,rfl,rfl⟩:=H
    go_enter Try.func138,Try.ntmps138
    go_wp2_with (first|((with_reducible refine gate_dst (N:=6) rfl ?_);refine box_event ?hg (N:=6) ?hd (cs:=#[.int .i64 0,.slice none 0 0]) (t:=36) ?hr ?_;(case hd=>rfl);(case hg=>rfl);(case hr=>first|(go_simp;done)|(go_simp;rfl));intro gb101 hg w12 hbox hb;have n0_:=mA (IsS113.below (by repeat (first|(with_reducible first|exact HI0.out|apply IsS113.alloc|apply IsS113.drewN|apply IsS113.drew|apply IsS113.set_1)|exact HI0.out)) hb);have n1_:=mA (KeepBut.trans (by repeat (first|(with_reducible first|exact HK.out|apply eS|apply eN|apply eD|apply eA)|exact HK.out)) (KeepBut.of_below hb g none) (.inl rfl));have n2_:=mA (bT (by repeat (first|(with_reducible first|exact HB.out|apply bA|apply bN|apply bD|refine bS ?_ (IsS113.ge HI0.out))|exact HB.out)) hb);have n3_:=mA (hbox);have n4_:=mA ((by rw [hg];exact (keep_size (w:=w) (g:=g) (row:=none) (by repeat (first|(with_reducible first|exact HK.out|apply eS|apply eN|apply eD|apply eA)|exact HK.out))):w.heap.size≤gb101));have n5_:=mA ((Nat.le_trans HW0.out (by rw [hg];exact (keep_size (w:=w) (g:=g) (row:=none) (by repeat (first|(with_reducible first|exact HK.out|apply eS|apply eN|apply eD|apply eA)|exact HK.out))):w.heap.size≤gb101):w0.heap.size≤gb101));have n6_:=mA ((by rw [hg];exact Nat.ne_of_lt (IsS113.lt (show IsS113 w0 _ g s0_0 s0_1 from by repeat (first|(with_reducible first|exact HI0.out|apply IsS113.alloc|apply IsS113.drewN|apply IsS113.drew|apply IsS113.set_1)|exact HI0.out))):g≠gb101));have n7_:=mA ((by rw [hg];exact Nat.ne_of_gt (IsS113.lt (show IsS113 w0 _ g s0_0 s0_1 from by repeat (first|(with_reducible first|exact HI0.out|apply IsS113.alloc|apply IsS113.drewN|apply IsS113.drew|apply IsS113.set_1)|exact HI0.out))):gb101≠g));clear HI0 HK HB;have HI0:=n0_;have HK:=n1_;have HB:=n2_;have BK101:=n3_;have GW101:=n4_;have GE101:=n5_;have NB0_101:=n6_;have NB101_0:=n7_;clear n0_ n1_ n2_ n3_ n4_ n5_ n6_ n7_ hb hbox hg)|((with_reducible refine gate_callee (f:=108) rfl ?_);refine goesL_ (some 11) rfl rfl Try.func108 (by kernel_rfl) rfl #[.pointer (some ⟨g,0,none⟩),.int .i64 ji4] rfl (by (try simp only [mT,mC,mN]);first|done|(simp only [hji4];rfl)|rfl|(simp only [lD,lT];rfl)) ?_;(with_reducible refine (spec_l20Rd_pick.calls k g s0_0 s0_1 ji4 t102 t103 w0 _ ?side1 ?side2 A5.out).mono ?_);(case side1=>repeat (first|(with_reducible first|exact HI0.out|apply IsS113.alloc|apply IsS113.drewN|apply IsS113.drew|apply IsS113.set_1|refine IsS113.far ?_ NB0_101.out _)|exact HI0.out));(case side2=>repeat (first|(with_reducible first|exact HB.out|apply bA|apply bN|apply bD|refine bS ?_ (IsS113.ge HI0.out)|refine bS ?_ GE101.out)|exact HB.out));rintro e w13 ⟨rfl,hi,hb,hk⟩;refine ⟨_,rfl,?_⟩;have n0_:=mA (KeepBut.blk hk (g':=gb101) (o:=.cells #[.int .i64 0,.slice none 0 0] 36 (0,0)) (by (with_reducible repeat (first|refine kN ?_ _|refine kD ?_|refine kA ?_ _));exact BK101.out) NB101_0.out (by simp));have n1_:=mA (KeepBut.trans (by repeat (first|(with_reducible first|exact HK.out|apply eS|apply eN|apply eD|apply eA|refine keep_far ?_ GW101.out _)|exact HK.out)) hk (.inl rfl));have n2_:=mA (hb);have n3_:=mA (hi);clear BK101 HK HB HI0;have BK101:=n0_;have HK:=n1_;have HB:=n2_;have HI0:=n3_;clear n0_ n1_ n2_ n3_;(try clear hb);(try clear hb2);(try clear hk);(try clear hi))|((with_reducible refine gate_callee (f:=128) rfl ?_);refine goesL_ (some 16) rfl rfl Try.func128 (by kernel_rfl) rfl #[.pointer (some ⟨g,0,none⟩),.int .i64 a1,.int .i64 (wrap64 (a2*2))] rfl (by (try simp only [mT,mC,mN]);first|done|rfl|(simp only [lD,lT];rfl)) ?_;(with_reducible refine (spec_l20Term.calls k g s0_0 t103 a1 (wrap64 (a2*2)) t104 t107 w0 _ ?side1 ?side2 A6.out).mono ?_);(case side1=>repeat (first|(with_reducible first|exact HI0.out|apply IsS113.alloc|apply IsS113.drewN|apply IsS113.drew|apply IsS113.set_1|refine IsS113.far ?_ NB0_101.out _)|exact HI0.out));(case side2=>repeat (first|(with_reducible first|exact HB.out|apply bA|apply bN|apply bD|refine bS ?_ (IsS113.ge HI0.out)|refine bS ?_ GE101.out)|exact HB.out));rintro e w14 ⟨v105,rfl,ho0,hi,hb,hk⟩;refine ⟨_,rfl,?_⟩;have n0_:=mA (KeepBut.blk hk (g':=gb101) (o:=.cells #[.int .i64 0,.slice none 0 0] 36 (0,0)) (by (with_reducible repeat (first|refine kN ?_ _|refine kD ?_|refine kA ?_ _));exact BK101.out) NB101_0.out (by simp));have n1_:=mA (Kd.R_lower ho0 (keep_size (w:=w) (g:=g) (row:=none) (by repeat (first|(with_reducible first|exact HK.out|apply eS|apply eN|apply eD|apply eA|refine keep_far ?_ GW101.out _)|exact HK.out))));have n2_:=mA (KeepBut.trans (by repeat (first|(with_reducible first|exact HK.out|apply eS|apply eN|apply eD|apply eA|refine keep_far ?_ GW101.out _)|exact HK.out)) hk (.inl rfl));have n3_:=mA (hb);have n4_:=mA (hi);clear BK101 HK HB HI0;have BK101:=n0_;have HO106:=n1_;have HK:=n2_;have HB:=n3_;have HI0:=n4_;clear n0_ n1_ n2_ n3_ n4_;(try clear hb);(try clear hb2);(try clear hk);(try clear hi);(try clear ho0);obtain ⟨Ao15,co15,eo15⟩:=Kd.R_slice HO106.out;subst eo15)|((with_reducible refine gate_dst (N:=7) rfl ?_);refine box_event ?hg (N:=7) ?hd (cs:=#[.int .i64 0,.slice none 0 0]) (t:=36) ?hr ?_;(case hd=>rfl);(case hg=>rfl);(case hr=>first|(go_simp;done)|(go_simp;rfl));intro gb108 hg w16 hbox hb;have n0_:=mA (rB (by (with_reducible repeat (first|apply rA|apply rN|apply rD));exact HO106.out) hb);have n1_:=mA (IsS113.below (by repeat (first|(with_reducible first|exact HI0.out|apply IsS113.alloc|apply IsS113.drewN|apply IsS113.drew|apply IsS113.set_1|refine IsS113.far ?_ NB0_101.out _)|exact HI0.out)) hb);have n2_:=mA (blk_below (g:=gb101) (o:=.cells #[.int .i64 0,.slice none 0 0] 36 (0,0)) (by (with_reducible repeat (first|refine kN ?_ _|refine kD ?_|refine kA ?_ _));exact BK101.out) hb);have n3_:=mA (KeepBut.trans (by repeat (first|(with_reducible first|exact HK.out|apply eS|apply eN|apply eD|apply eA|refine keep_far ?_ GW101.out _)|exact HK.out)) (KeepBut.of_below hb g none) (.inl rfl));have n4_:=mA (bT (by repeat (first|(with_reducible first|exact HB.out|apply bA|apply bN|apply bD|refine bS ?_ (IsS113.ge HI0.out)|refine bS ?_ GE101.out)|exact HB.out)) hb);have n5_:=mA (hbox);have n6_:=mA ((by rw [hg];exact (keep_size (w:=w) (g:=g) (row:=none) (by repeat (first|(with_reducible first|exact HK.out|apply eS|apply eN|apply eD|apply eA|refine keep_far ?_ GW101.out _)|exact HK.out))):w.heap.size≤gb108));have n7_:=mA ((Nat.le_trans HW0.out (by rw [hg];exact (keep_size (w:=w) (g:=g) (row:=none) (by repeat (first|(with_reducible first|exact HK.out|apply eS|apply eN|apply eD|apply eA|refine keep_far ?_ GW101.out _)|exact HK.out))):w.heap.size≤gb108):w0.heap.size≤gb108));have n8_:=mA ((by rw [hg];exact Nat.ne_of_lt (blk_lt (g:=gb101) (o:=.cells #[.int .i64 0,.slice none 0 0] 36 (0,0)) (by (with_reducible repeat (first|refine kN ?_ _|refine kD ?_|refine kA ?_ _));exact BK101.out)):gb101≠gb108));have n9_:=mA ((by rw [hg];exact Nat.ne_of_gt (blk_lt (g:=gb101) (o:=.cells #[.int .i64 0,.slice none 0 0] 36 (0,0)) (by (with_reducible repeat (first|refine kN ?_ _|refine kD ?_|refine kA ?_ _));exact BK101.out)):gb108≠gb101));have n10_:=mA ((by rw [hg];exact Nat.ne_of_lt (IsS113.lt (show IsS113 w0 _ g s0_0 t107 from by repeat (first|(with_reducible first|exact HI0.out|apply IsS113.alloc|apply IsS113.drewN|apply IsS113.drew|apply IsS113.set_1|refine IsS113.far ?_ NB0_101.out _)|exact HI0.out))):g≠gb108));have n11_:=mA ((by rw [hg];exact Nat.ne_of_gt (IsS113.lt (show IsS113 w0 _ g s0_0 t107 from by repeat (first|(with_reducible first|exact HI0.out|apply IsS113.alloc|apply IsS113.drewN|apply IsS113.drew|apply IsS113.set_1|refine IsS113.far ?_ NB0_101.out _)|exact HI0.out))):gb108≠g));clear HO106 HI0 BK101 HK HB;have HO106:=n0_;have HI0:=n1_;have BK101:=n2_;have HK:=n3_;have HB:=n4_;have BK108:=n5_;have GW108:=n6_;have GE108:=n7_;have NB101_108:=n8_;have NB108_101:=n9_;have NB0_108:=n10_;have NB108_0:=n11_;clear n0_ n1_ n2_ n3_ n4_ n5_ n6_ n7_ n8_ n9_ n10_ n11_ hb hbox hg;have hnb17:=NB108_101.out;have hnc17:=NB101_108.out;have hnb18:=NB108_0.out;have hnc18:=NB0_108.out;have hcz19_0:w16.cell? ⟨gb108,0,none⟩=some (.int .i64 0):=(kC BK108.out 0).trans rfl;have hcz19_1:w16.cell? ⟨gb108,1,none⟩=some (.slice none 0 0):=(kC BK108.out 1).trans rfl;have hfz19_0:=kF BK108.out 0;have hfz19_1:=kF BK108.out 1)|((with_reducible refine gate_callee (f:=139) rfl ?_);refine goesL_ (some 20) rfl rfl Try.func139 (by kernel_rfl) rfl #[.pointer (some ⟨g,0,none⟩),.int .i64 a2] rfl (by (try simp only [mT,mC,mN]);first|done|rfl|(simp only [lD,lT];rfl)) ?_;(with_reducible refine (spec_l20Rd_odd.calls k g s0_0 t107 a2 true t110 w0 _ ?side1 ?side2 A7.out).mono ?_);(case side1=>repeat (first|(with_reducible first|exact HI0.out|apply IsS113.alloc|apply IsS113.drewN|apply IsS113.drew|apply IsS113.set_1|refine IsS113.far ?_ NB0_101.out _|refine IsS113.far ?_ NB0_108.out _)|exact HI0.out));(case side2=>repeat (first|(with_reducible first|exact HB.out|apply bA|apply bN|apply bD|refine bS ?_ (IsS113.ge HI0.out)|refine bS ?_ GE101.out|refine bS ?_ GE108.out)|exact HB.out));rintro e w20 ⟨rfl,hi,hb,hk⟩;refine ⟨_,rfl,?_⟩;have n0_:=mA (KeepBut.blk hk (g':=gb101) (o:=.cells #[.int .i64 0,.slice none 0 0] 36 (0,0)) (by (with_reducible repeat (first|refine kN ?_ _|refine kD ?_|refine kA ?_ _));refine blk_far ?_ NB101_108.out _;(with_reducible repeat (first|refine kN ?_ _|refine kD ?_|refine kA ?_ _));refine blk_far ?_ NB101_108.out _;(with_reducible repeat (first|refine kN ?_ _|refine kD ?_|refine kA ?_ _));exact BK101.out) NB101_0.out (by simp));have n1_:=mA (rM (Kd.R_keep (IsS113.apart (show IsS113 w0 _ g s0_0 t107 from by repeat (first|(with_reducible first|exact HI0.out|apply IsS113.alloc|apply IsS113.drewN|apply IsS113.drew|apply IsS113.set_1|refine IsS113.far ?_ NB0_101.out _|refine IsS113.far ?_ NB0_108.out _)|exact HI0.out)) (by (with_reducible repeat (first|apply rA|apply rN|apply rD));exact (rM (rF (p:=⟨gb108,1,none⟩) (rF (p:=⟨gb108,0,none⟩) (Kd.R_types HO106.out BK108.out (by decide)) (fun _ hk=>hk.2) (.int .i64 t102)) (fun _ hk=>hk.2) (.slice Ao15 t104.length co15)) (fun _ h_=>h_.1))) (by decide)) hk (fun _ h=>h.2)) (fun _ h=>h.1));have n2_:=mA (KeepBut.blk hk (g':=gb108) (o:=.cells #[.int .i64 t102,.slice Ao15 t104.length co15] 36 (0,0)) (by (with_reducible repeat (first|refine kN ?_ _|refine kD ?_|refine kA ?_ _));refine blk_put (cs:=#[.int .i64 t102,.slice none 0 0]) ?_ 1 _ rfl;(with_reducible repeat (first|refine kN ?_ _|refine kD ?_|refine kA ?_ _));refine blk_put (cs:=#[.int .i64 0,.slice none 0 0]) ?_ 0 _ rfl;(with_reducible repeat (first|refine kN ?_ _|refine kD ?_|refine kA ?_ _));exact BK108.out) NB108_0.out (by simp));have n3_:=mA (KeepBut.trans (by repeat (first|(with_reducible first|exact HK.out|apply eS|apply eN|apply eD|apply eA|refine keep_far ?_ GW101.out _|refine keep_far ?_ GW108.out _)|exact HK.out)) hk (.inl rfl));have n4_:=mA (hb);have n5_:=mA (hi);clear BK101 HO106 BK108 HK HB HI0;have BK101:=n0_;have HO106:=n1_;have BK108:=n2_;have HK:=n3_;have HB:=n4_;have HI0:=n5_;clear n0_ n1_ n2_ n3_ n4_ n5_;(try clear hb);(try clear hb2);(try clear hk);(try clear hi))|((with_reducible refine gate_dst (N:=21) rfl ?_);refine Kd.R_lit (Kd.int .i64) _ 3 ?hg (N:=21) ?hd (xs:=([(-1),4]:List Int)) (inner:=[.int .i64 (-1),.int .i64 4]) (ok:=fun _=>True) (okp:=fun _=>True) ?hr ?hp (fun _ hk=>hk) trivial (Below.refl _ _) (Nat.le_refl _) (by simp) ?_;(case hd=>rfl);(case hg=>rfl);(case hr=>first|(go_simp;done)|(go_simp;rfl));(case hp=>exact (Reps.one (show Kd.M (Kd.int .i64) _ _ _ (-1) [.int .i64 (-1)] from rfl) (Reps.one (show Kd.M (Kd.int .i64) _ _ _ 4 [.int .i64 4] from rfl) (Reps.none _ _))));intro v112 w21 ho22 hb hg_ hnew_;clear hg_ hnew_;(first|rw [←Ny111.out] at ho22|(simp only [Int.reduceToNat] at ho22;rw [←Ny111.out] at ho22));have n0_:=mA (rB (by (with_reducible repeat (first|apply rA|apply rN|apply rD));exact HO106.out) hb);have n1_:=mA (Kd.R_lower ho22 (keep_size (w:=w) (g:=g) (row:=none) (by repeat (first|(with_reducible first|exact HK.out|apply eS|apply eN|apply eD|apply eA|refine keep_far ?_ GW101.out _|refine keep_far ?_ GW108.out _)|exact HK.out))));have n2_:=mA (IsS113.below (by repeat (first|(with_reducible first|exact HI0.out|apply IsS113.alloc|apply IsS113.drewN|apply IsS113.drew|apply IsS113.set_1|refine IsS113.far ?_ NB0_101.out _|refine IsS113.far ?_ NB0_108.out _)|exact HI0.out)) hb);have n3_:=mA (blk_below (g:=gb101) (o:=.cells #[.int .i64 0,.slice none 0 0] 36 (0,0)) (by (with_reducible repeat (first|refine kN ?_ _|refine kD ?_|refine kA ?_ _));exact BK101.out) hb);have n4_:=mA (blk_below (g:=gb108) (o:=.cells #[.int .i64 t102,.slice Ao15 t104.length co15] 36 (0,0)) (by (with_reducible repeat (first|refine kN ?_ _|refine kD ?_|refine kA ?_ _));exact BK108.out) hb);have n5_:=mA (KeepBut.trans (by repeat (first|(with_reducible first|exact HK.out|apply eS|apply eN|apply eD|apply eA|refine keep_far ?_ GW101.out _|refine keep_far ?_ GW108.out _)|exact HK.out)) (KeepBut.of_below hb g none) (.inl rfl));have n6_:=mA (bT (by repeat (first|(with_reducible first|exact HB.out|apply bA|apply bN|apply bD|refine bS ?_ (IsS113.ge HI0.out)|refine bS ?_ GE101.out|refine bS ?_ GE108.out)|exact HB.out)) hb);clear HO106 HI0 BK101 BK108 HK HB;have HO106:=n0_;have HO113:=n1_;have HI0:=n2_;have BK101:=n3_;have BK108:=n4_;have HK:=n5_;have HB:=n6_;clear n0_ n1_ n2_ n3_ n4_ n5_ n6_ hb ho22)|((with_reducible refine gate_callee (f:=108) rfl ?_);refine goesL_ (some 23) rfl rfl Try.func108 (by kernel_rfl) rfl #[.pointer (some ⟨g,0,none⟩),.int .i64 2] rfl (by (try simp only [mT,mC,mN]);first|done|rfl|(simp only [lD,lT];rfl)) ?_;(with_reducible refine (spec_l20Rd_pick.calls k g s0_0 t110 2 t114 t115 w0 _ ?side1 ?side2 A9.out).mono ?_);(case side1=>repeat (first|(with_reducible first|exact HI0.out|apply IsS113.alloc|apply IsS113.drewN|apply IsS113.drew|apply IsS113.set_1|refine IsS113.far ?_ NB0_101.out _|refine IsS113.far ?_ NB0_108.out _)|exact HI0.out));(case side2=>repeat (first|(with_reducible first|exact HB.out|apply bA|apply bN|apply bD|refine bS ?_ (IsS113.ge HI0.out)|refine bS ?_ GE101.out|refine bS ?_ GE108.out)|exact HB.out));rintro e w23 ⟨rfl,hi,hb,hk⟩;refine ⟨_,rfl,?_⟩;have n0_:=mA (KeepBut.blk hk (g':=gb101) (o:=.cells #[.int .i64 0,.slice none 0 0] 36 (0,0)) (by (with_reducible repeat (first|refine kN ?_ _|refine kD ?_|refine kA ?_ _));exact BK101.out) NB101_0.out (by simp));have n1_:=mA (rM (Kd.R_keep (IsS113.apart (show IsS113 w0 _ g s0_0 t110 from by repeat (first|(with_reducible first|exact HI0.out|apply IsS113.alloc|apply IsS113.drewN|apply IsS113.drew|apply IsS113.set_1|refine IsS113.far ?_ NB0_101.out _|refine IsS113.far ?_ NB0_108.out _)|exact HI0.out)) (by (with_reducible repeat (first|apply rA|apply rN|apply rD));exact HO106.out) (by decide)) hk (fun _ h=>h.2)) (fun _ h=>h.1));have n2_:=mA (KeepBut.blk hk (g':=gb108) (o:=.cells #[.int .i64 t102,.slice Ao15 t104.length co15] 36 (0,0)) (by (with_reducible repeat (first|refine kN ?_ _|refine kD ?_|refine kA ?_ _));exact BK108.out) NB108_0.out (by simp));have n3_:=mA (rM (Kd.R_keep (IsS113.apart (show IsS113 w0 _ g s0_0 t110 from by repeat (first|(with_reducible first|exact HI0.out|apply IsS113.alloc|apply IsS113.drewN|apply IsS113.drew|apply IsS113.set_1|refine IsS113.far ?_ NB0_101.out _|refine IsS113.far ?_ NB0_108.out _)|exact HI0.out)) (by (with_reducible repeat (first|apply rA|apply rN|apply rD));exact HO113.out) (by decide)) hk (fun _ h=>h.2)) (fun _ h=>h.1));have n4_:=mA (KeepBut.trans (by repeat (first|(with_reducible first|exact HK.out|apply eS|apply eN|apply eD|apply eA|refine keep_far ?_ GW101.out _|refine keep_far ?_ GW108.out _)|exact HK.out)) hk (.inl rfl));have n5_:=mA (hb);have n6_:=mA (hi);clear BK101 HO106 BK108 HO113 HK HB HI0;have BK101:=n0_;have HO106:=n1_;have BK108:=n2_;have HO113:=n3_;have HK:=n4_;have HB:=n5_;have HI0:=n6_;clear n0_ n1_ n2_ n3_ n4_ n5_ n6_;(try clear hb);(try clear hb2);(try clear hk);(try clear hi);obtain ⟨Ao24,co24,eo24⟩:=Kd.R_slice HO113.out;subst eo24;have p116:0≤(t114:Int):=of_decide_eq_true (by first|(with_reducible assumption)|assumption);have q116:t114<(y111.length:Int):=of_decide_eq_true (by first|(with_reducible assumption)|assumption);obtain ⟨ad116,e116,hx116_0⟩:=Kd.at_int (rR HO113.out).2.2 t114 p116 q116;cases e116;replace p116:=eq_true p116;replace q116:=eq_true q116;have hcz25_0:w23.cell? ⟨gb108,0,none⟩=some (.int .i64 t102):=(kC BK108.out 0).trans rfl;have hcz25_1:w23.cell? ⟨gb108,1,none⟩=some (.slice Ao15 t104.length co15):=(kC BK108.out 1).trans rfl;have hfz25_0:=kF BK108.out 0;have hfz25_1:=kF BK108.out 1;have hnb26:=NB101_0.out;have hnc26:=NB0_101.out;have hcz27_0:w23.cell? ⟨gb101,0,none⟩=some (.int .i64 0):=(kC BK101.out 0).trans rfl;have hcz27_1:w23.cell? ⟨gb101,1,none⟩=some (.slice none 0 0):=(kC BK101.out 1).trans rfl;have hfz27_0:=kF BK101.out 0;have hfz27_1:=kF BK101.out 1))
    refine bodyPost_ret (results_cell_row rfl _ _ gb101 36 #[.int .i64 (rd y111 t114),.slice Ao15 t104.length co15] (0,0) _ rfl (by (with_reducible repeat (first|refine kN ?_ _|refine kD ?_|refine kA ?_ _));refine blk_put (cs:=#[.int .i64 (rd y111 t114),.slice none 0 0]) ?_ 1 _ rfl;(with_reducible repeat (first|refine kN ?_ _|refine kD ?_|refine kA ?_ _));refine blk_put (cs:=#[.int .i64 0,.slice none 0 0]) ?_ 0 _ rfl;(with_reducible repeat (first|refine kN ?_ _|refine kD ?_|refine kA ?_ _));refine blk_far ?_ NB101_108.out _;(with_reducible repeat (first|refine kN ?_ _|refine kD ?_|refine kA ?_ _));exact BK101.out) Try.underlying36 rfl (by kernel_rfl)) rfl ?_
    exact ⟨_,by first|rfl|(simp [errW_none,errW_some]<;>rfl)|(simp only [←hji4];first|rfl|(simp [errW_none,errW_some]<;>rfl))|(simp [*, errW_none,errW_some]<;>rfl),by (with_reducible repeat (first|apply rA|apply rN|apply rD));exact rM (rF (p:=⟨gb101,1,none⟩) (rF (p:=⟨gb101,0,none⟩) (rF (p:=⟨gb108,0,none⟩) (Kd.R_types (Kd.R_types HO106.out BK108.out (by decide)) BK101.out (by decide)) (fun _ hk=>hk.1.2) (.int .i64 (rd y111 t114))) (fun _ hk=>hk.2) (.int .i64 (rd y111 t114))) (fun _ hk=>hk.2) (.slice Ao15 t104.length co15)) (fun _ hk=>trivial),by repeat (first|(with_reducible first|exact HI0.out|apply IsS113.alloc|apply IsS113.drewN|apply IsS113.drew|apply IsS113.set_1|refine IsS113.far ?_ NB0_101.out _|refine IsS113.far ?_ NB0_108.out _)|exact HI0.out),by repeat (first|(with_reducible first|exact HB.out|apply bA|apply bN|apply bD|refine bS ?_ (IsS113.ge HI0.out)|refine bS ?_ GE101.out|refine bS ?_ GE108.out)|exact HB.out),by repeat (first|(with_reducible first|exact HK.out|apply eS|apply eN|apply eD|apply eA|refine keep_far ?_ GW101.out _|refine keep_far ?_ GW108.out _)|exact HK.out)⟩
   ·rw [if_neg c11] at H
    exact absurd H (by simp)
  ·rw [if_neg c10] at H
   exact absurd H (by simp)
 ·replace c8:=Bool.eq_false_iff.mpr c8
  subst c8
  have H1:(some (t102,t104,t110))=some (r1,r2,r3):=by rw [if_neg (show ¬ (false=true) by decide)] at H;exact H
  clear H
  have H:=H1
  clear H1
  simp only [Option.some.injEq,Prod.mk.injEq] at H
  obtain ⟨rfl,rfl,rfl⟩:=H
  go_enter Try.func138,Try.ntmps138
  go_wp2_with (first|((with_reducible refine gate_dst (N:=6) rfl ?_);refine box_event ?hg (N:=6) ?hd (cs:=#[.int .i64 0,.slice none 0 0]) (t:=36) ?hr ?_;(case hd=>rfl);(case hg=>rfl);(case hr=>first|(go_simp;done)|(go_simp;rfl));intro gb101 hg w28 hbox hb;have n0_:=mA (IsS113.below (by repeat (first|(with_reducible first|exact HI0.out|apply IsS113.alloc|apply IsS113.drewN|apply IsS113.drew|apply IsS113.set_1)|exact HI0.out)) hb);have n1_:=mA (KeepBut.trans (by repeat (first|(with_reducible first|exact HK.out|apply eS|apply eN|apply eD|apply eA)|exact HK.out)) (KeepBut.of_below hb g none) (.inl rfl));have n2_:=mA (bT (by repeat (first|(with_reducible first|exact HB.out|apply bA|apply bN|apply bD|refine bS ?_ (IsS113.ge HI0.out))|exact HB.out)) hb);have n3_:=mA (hbox);have n4_:=mA ((by rw [hg];exact (keep_size (w:=w) (g:=g) (row:=none) (by repeat (first|(with_reducible first|exact HK.out|apply eS|apply eN|apply eD|apply eA)|exact HK.out))):w.heap.size≤gb101));have n5_:=mA ((Nat.le_trans HW0.out (by rw [hg];exact (keep_size (w:=w) (g:=g) (row:=none) (by repeat (first|(with_reducible first|exact HK.out|apply eS|apply eN|apply eD|apply eA)|exact HK.out))):w.heap.size≤gb101):w0.heap.size≤gb101));have n6_:=mA ((by rw [hg];exact Nat.ne_of_lt (IsS113.lt (show IsS113 w0 _ g s0_0 s0_1 from by repeat (first|(with_reducible first|exact HI0.out|apply IsS113.alloc|apply IsS113.drewN|apply IsS113.drew|apply IsS113.set_1)|exact HI0.out))):g≠gb101));have n7_:=mA ((by rw [hg];exact Nat.ne_of_gt (IsS113.lt (show IsS113 w0 _ g s0_0 s0_1 from by repeat (first|(with_reducible first|exact HI0.out|apply IsS113.alloc|apply IsS113.drewN|apply IsS113.drew|apply IsS113.set_1)|exact HI0.out))):gb101≠g));clear HI0 HK HB;have HI0:=n0_;have HK:=n1_;have HB:=n2_;have BK101:=n3_;have GW101:=n4_;have GE101:=n5_;have NB0_101:=n6_;have NB101_0:=n7_;clear n0_ n1_ n2_ n3_ n4_ n5_ n6_ n7_ hb hbox hg)|((with_reducible refine gate_callee (f:=108) rfl ?_);refine goesL_ (some 11) rfl rfl Try.func108 (by kernel_rfl) rfl #[.pointer (some ⟨g,0,none⟩),.int .i64 ji4] rfl (by (try simp only [mT,mC,mN]);first|done|(simp only [hji4];rfl)|rfl|(simp only [lD,lT];rfl)) ?_;(with_reducible refine (spec_l20Rd_pick.calls k g s0_0 s0_1 ji4 t102 t103 w0 _ ?side1 ?side2 A5.out).mono ?_);(case side1=>repeat (first|(with_reducible first|exact HI0.out|apply IsS113.alloc|apply IsS113.drewN|apply IsS113.drew|apply IsS113.set_1|refine IsS113.far ?_ NB0_101.out _)|exact HI0.out));(case side2=>repeat (first|(with_reducible first|exact HB.out|apply bA|apply bN|apply bD|refine bS ?_ (IsS113.ge HI0.out)|refine bS ?_ GE101.out)|exact HB.out));rintro e w29 ⟨rfl,hi,hb,hk⟩;refine ⟨_,rfl,?_⟩;have n0_:=mA (KeepBut.blk hk (g':=gb101) (o:=.cells #[.int .i64 0,.slice none 0 0] 36 (0,0)) (by (with_reducible repeat (first|refine kN ?_ _|refine kD ?_|refine kA ?_ _));exact BK101.out) NB101_0.out (by simp));have n1_:=mA (KeepBut.trans (by repeat (first|(with_reducible first|exact HK.out|apply eS|apply eN|apply eD|apply eA|refine keep_far ?_ GW101.out _)|exact HK.out)) hk (.inl rfl));have n2_:=mA (hb);have n3_:=mA (hi);clear BK101 HK HB HI0;have BK101:=n0_;have HK:=n1_;have HB:=n2_;have HI0:=n3_;clear n0_ n1_ n2_ n3_;(try clear hb);(try clear hb2);(try clear hk);(try clear hi))|((with_reducible refine gate_callee (f:=128) rfl ?_);refine goesL_ (some 16) rfl rfl Try.func128 (by kernel_rfl) rfl #[.pointer (some ⟨g,0,none⟩),.int .i64 a1,.int .i64 (wrap64 (a2*2))] rfl (by (try simp only [mT,mC,mN]);first|done|rfl|(simp only [lD,lT];rfl)) ?_;(with_reducible refine (spec_l20Term.calls k g s0_0 t103 a1 (wrap64 (a2*2)) t104 t107 w0 _ ?side1 ?side2 A6.out).mono ?_);(case side1=>repeat (first|(with_reducible first|exact HI0.out|apply IsS113.alloc|apply IsS113.drewN|apply IsS113.drew|apply IsS113.set_1|refine IsS113.far ?_ NB0_101.out _)|exact HI0.out));(case side2=>repeat (first|(with_reducible first|exact HB.out|apply bA|apply bN|apply bD|refine bS ?_ (IsS113.ge HI0.out)|refine bS ?_ GE101.out)|exact HB.out));rintro e w30 ⟨v105,rfl,ho0,hi,hb,hk⟩;refine ⟨_,rfl,?_⟩;have n0_:=mA (KeepBut.blk hk (g':=gb101) (o:=.cells #[.int .i64 0,.slice none 0 0] 36 (0,0)) (by (with_reducible repeat (first|refine kN ?_ _|refine kD ?_|refine kA ?_ _));exact BK101.out) NB101_0.out (by simp));have n1_:=mA (Kd.R_lower ho0 (keep_size (w:=w) (g:=g) (row:=none) (by repeat (first|(with_reducible first|exact HK.out|apply eS|apply eN|apply eD|apply eA|refine keep_far ?_ GW101.out _)|exact HK.out))));have n2_:=mA (KeepBut.trans (by repeat (first|(with_reducible first|exact HK.out|apply eS|apply eN|apply eD|apply eA|refine keep_far ?_ GW101.out _)|exact HK.out)) hk (.inl rfl));have n3_:=mA (hb);have n4_:=mA (hi);clear BK101 HK HB HI0;have BK101:=n0_;have HO106:=n1_;have HK:=n2_;have HB:=n3_;have HI0:=n4_;clear n0_ n1_ n2_ n3_ n4_;(try clear hb);(try clear hb2);(try clear hk);(try clear hi);(try clear ho0);obtain ⟨Ao31,co31,eo31⟩:=Kd.R_slice HO106.out;subst eo31)|((with_reducible refine gate_dst (N:=7) rfl ?_);refine box_event ?hg (N:=7) ?hd (cs:=#[.int .i64 0,.slice none 0 0]) (t:=36) ?hr ?_;(case hd=>rfl);(case hg=>rfl);(case hr=>first|(go_simp;done)|(go_simp;rfl));intro gb108 hg w32 hbox hb;have n0_:=mA (rB (by (with_reducible repeat (first|apply rA|apply rN|apply rD));exact HO106.out) hb);have n1_:=mA (IsS113.below (by repeat (first|(with_reducible first|exact HI0.out|apply IsS113.alloc|apply IsS113.drewN|apply IsS113.drew|apply IsS113.set_1|refine IsS113.far ?_ NB0_101.out _)|exact HI0.out)) hb);have n2_:=mA (blk_below (g:=gb101) (o:=.cells #[.int .i64 0,.slice none 0 0] 36 (0,0)) (by (with_reducible repeat (first|refine kN ?_ _|refine kD ?_|refine kA ?_ _));exact BK101.out) hb);have n3_:=mA (KeepBut.trans (by repeat (first|(with_reducible first|exact HK.out|apply eS|apply eN|apply eD|apply eA|refine keep_far ?_ GW101.out _)|exact HK.out)) (KeepBut.of_below hb g none) (.inl rfl));have n4_:=mA (bT (by repeat (first|(with_reducible first|exact HB.out|apply bA|apply bN|apply bD|refine bS ?_ (IsS113.ge HI0.out)|refine bS ?_ GE101.out)|exact HB.out)) hb);have n5_:=mA (hbox);have n6_:=mA ((by rw [hg];exact (keep_size (w:=w) (g:=g) (row:=none) (by repeat (first|(with_reducible first|exact HK.out|apply eS|apply eN|apply eD|apply eA|refine keep_far ?_ GW101.out _)|exact HK.out))):w.heap.size≤gb108));have n7_:=mA ((Nat.le_trans HW0.out (by rw [hg];exact (keep_size (w:=w) (g:=g) (row:=none) (by repeat (first|(with_reducible first|exact HK.out|apply eS|apply eN|apply eD|apply eA|refine keep_far ?_ GW101.out _)|exact HK.out))):w.heap.size≤gb108):w0.heap.size≤gb108));have n8_:=mA ((by rw [hg];exact Nat.ne_of_lt (blk_lt (g:=gb101) (o:=.cells #[.int .i64 0,.slice none 0 0] 36 (0,0)) (by (with_reducible repeat (first|refine kN ?_ _|refine kD ?_|refine kA ?_ _));exact BK101.out)):gb101≠gb108));have n9_:=mA ((by rw [hg];exact Nat.ne_of_gt (blk_lt (g:=gb101) (o:=.cells #[.int .i64 0,.slice none 0 0] 36 (0,0)) (by (with_reducible repeat (first|refine kN ?_ _|refine kD ?_|refine kA ?_ _));exact BK101.out)):gb108≠gb101));have n10_:=mA ((by rw [hg];exact Nat.ne_of_lt (IsS113.lt (show IsS113 w0 _ g s0_0 t107 from by repeat (first|(with_reducible first|exact HI0.out|apply IsS113.alloc|apply IsS113.drewN|apply IsS113.drew|apply IsS113.set_1|refine IsS113.far ?_ NB0_101.out _)|exact HI0.out))):g≠gb108));have n11_:=mA ((by rw [hg];exact Nat.ne_of_gt (IsS113.lt (show IsS113 w0 _ g s0_0 t107 from by repeat (first|(with_reducible first|exact HI0.out|apply IsS113.alloc|apply IsS113.drewN|apply IsS113.drew|apply IsS113.set_1|refine IsS113.far ?_ NB0_101.out _)|exact HI0.out))):gb108≠g));clear HO106 HI0 BK101 HK HB;have HO106:=n0_;have HI0:=n1_;have BK101:=n2_;have HK:=n3_;have HB:=n4_;have BK108:=n5_;have GW108:=n6_;have GE108:=n7_;have NB101_108:=n8_;have NB108_101:=n9_;have NB0_108:=n10_;have NB108_0:=n11_;clear n0_ n1_ n2_ n3_ n4_ n5_ n6_ n7_ n8_ n9_ n10_ n11_ hb hbox hg;have hnb33:=NB108_101.out;have hnc33:=NB101_108.out;have hnb34:=NB108_0.out;have hnc34:=NB0_108.out;have hcz35_0:w32.cell? ⟨gb108,0,none⟩=some (.int .i64 0):=(kC BK108.out 0).trans rfl;have hcz35_1:w32.cell? ⟨gb108,1,none⟩=some (.slice none 0 0):=(kC BK108.out 1).trans rfl;have hfz35_0:=kF BK108.out 0;have hfz35_1:=kF BK108.out 1)|((with_reducible refine gate_callee (f:=139) rfl ?_);refine goesL_ (some 20) rfl rfl Try.func139 (by kernel_rfl) rfl #[.pointer (some ⟨g,0,none⟩),.int .i64 a2] rfl (by (try simp only [mT,mC,mN]);first|done|rfl|(simp only [lD,lT];rfl)) ?_;(with_reducible refine (spec_l20Rd_odd.calls k g s0_0 t107 a2 false t110 w0 _ ?side1 ?side2 A7.out).mono ?_);(case side1=>repeat (first|(with_reducible first|exact HI0.out|apply IsS113.alloc|apply IsS113.drewN|apply IsS113.drew|apply IsS113.set_1|refine IsS113.far ?_ NB0_101.out _|refine IsS113.far ?_ NB0_108.out _)|exact HI0.out));(case side2=>repeat (first|(with_reducible first|exact HB.out|apply bA|apply bN|apply bD|refine bS ?_ (IsS113.ge HI0.out)|refine bS ?_ GE101.out|refine bS ?_ GE108.out)|exact HB.out));rintro e w36 ⟨rfl,hi,hb,hk⟩;refine ⟨_,rfl,?_⟩;have n0_:=mA (KeepBut.blk hk (g':=gb101) (o:=.cells #[.int .i64 0,.slice none 0 0] 36 (0,0)) (by (with_reducible repeat (first|refine kN ?_ _|refine kD ?_|refine kA ?_ _));refine blk_far ?_ NB101_108.out _;(with_reducible repeat (first|refine kN ?_ _|refine kD ?_|refine kA ?_ _));refine blk_far ?_ NB101_108.out _;(with_reducible repeat (first|refine kN ?_ _|refine kD ?_|refine kA ?_ _));exact BK101.out) NB101_0.out (by simp));have n1_:=mA (rM (Kd.R_keep (IsS113.apart (show IsS113 w0 _ g s0_0 t107 from by repeat (first|(with_reducible first|exact HI0.out|apply IsS113.alloc|apply IsS113.drewN|apply IsS113.drew|apply IsS113.set_1|refine IsS113.far ?_ NB0_101.out _|refine IsS113.far ?_ NB0_108.out _)|exact HI0.out)) (by (with_reducible repeat (first|apply rA|apply rN|apply rD));exact (rM (rF (p:=⟨gb108,1,none⟩) (rF (p:=⟨gb108,0,none⟩) (Kd.R_types HO106.out BK108.out (by decide)) (fun _ hk=>hk.2) (.int .i64 t102)) (fun _ hk=>hk.2) (.slice Ao31 t104.length co31)) (fun _ h_=>h_.1))) (by decide)) hk (fun _ h=>h.2)) (fun _ h=>h.1));have n2_:=mA (KeepBut.blk hk (g':=gb108) (o:=.cells #[.int .i64 t102,.slice Ao31 t104.length co31] 36 (0,0)) (by (with_reducible repeat (first|refine kN ?_ _|refine kD ?_|refine kA ?_ _));refine blk_put (cs:=#[.int .i64 t102,.slice none 0 0]) ?_ 1 _ rfl;(with_reducible repeat (first|refine kN ?_ _|refine kD ?_|refine kA ?_ _));refine blk_put (cs:=#[.int .i64 0,.slice none 0 0]) ?_ 0 _ rfl;(with_reducible repeat (first|refine kN ?_ _|refine kD ?_|refine kA ?_ _));exact BK108.out) NB108_0.out (by simp));have n3_:=mA (KeepBut.trans (by repeat (first|(with_reducible first|exact HK.out|apply eS|apply eN|apply eD|apply eA|refine keep_far ?_ GW101.out _|refine keep_far ?_ GW108.out _)|exact HK.out)) hk (.inl rfl));have n4_:=mA (hb);have n5_:=mA (hi);clear BK101 HO106 BK108 HK HB HI0;have BK101:=n0_;have HO106:=n1_;have BK108:=n2_;have HK:=n3_;have HB:=n4_;have HI0:=n5_;clear n0_ n1_ n2_ n3_ n4_ n5_;(try clear hb);(try clear hb2);(try clear hk);(try clear hi);have hcz37_0:w36.cell? ⟨gb108,0,none⟩=some (.int .i64 t102):=(kC BK108.out 0).trans rfl;have hcz37_1:w36.cell? ⟨gb108,1,none⟩=some (.slice Ao31 t104.length co31):=(kC BK108.out 1).trans rfl;have hfz37_0:=kF BK108.out 0;have hfz37_1:=kF BK108.out 1;have hnb38:=NB101_0.out;have hnc38:=NB0_101.out;have hcz39_0:w36.cell? ⟨gb101,0,none⟩=some (.int .i64 0):=(kC BK101.out 0).trans rfl;have hcz39_1:w36.cell? ⟨gb101,1,none⟩=some (.slice none 0 0):=(kC BK101.out 1).trans rfl;have hfz39_0:=kF BK101.out 0;have hfz39_1:=kF BK101.out 1))
  refine bodyPost_ret (results_cell_row rfl _ _ gb101 36 #[.int .i64 t102,.slice Ao31 t104.length co31] (0,0) _ rfl (by (with_reducible repeat (first|refine kN ?_ _|refine kD ?_|refine kA ?_ _));refine blk_put (cs:=#[.int .i64 t102,.slice none 0 0]) ?_ 1 _ rfl;(with_reducible repeat (first|refine kN ?_ _|refine kD ?_|refine kA ?_ _));refine blk_put (cs:=#[.int .i64 0,.slice none 0 0]) ?_ 0 _ rfl;(with_reducible repeat (first|refine kN ?_ _|refine kD ?_|refine kA ?_ _));exact BK101.out) Try.underlying36 rfl (by kernel_rfl)) rfl ?_
  exact ⟨_,by first|rfl|(simp [errW_none,errW_some]<;>rfl)|(simp only [←hji4];first|rfl|(simp [errW_none,errW_some]<;>rfl))|(simp [*, errW_none,errW_some]<;>rfl),by (with_reducible repeat (first|apply rA|apply rN|apply rD));exact rM (rF (p:=⟨gb101,1,none⟩) (rF (p:=⟨gb101,0,none⟩) (Kd.R_types HO106.out BK101.out (by decide)) (fun _ hk=>hk.2) (.int .i64 t102)) (fun _ hk=>hk.2) (.slice Ao31 t104.length co31)) (fun _ hk=>trivial),by repeat (first|(with_reducible first|exact HI0.out|apply IsS113.alloc|apply IsS113.drewN|apply IsS113.drew|apply IsS113.set_1|refine IsS113.far ?_ NB0_101.out _|refine IsS113.far ?_ NB0_108.out _)|exact HI0.out),by repeat (first|(with_reducible first|exact HB.out|apply bA|apply bN|apply bD|refine bS ?_ (IsS113.ge HI0.out)|refine bS ?_ GE101.out|refine bS ?_ GE108.out)|exact HB.out),by repeat (first|(with_reducible first|exact HK.out|apply eS|apply eN|apply eD|apply eA|refine keep_far ?_ GW101.out _|refine keep_far ?_ GW108.out _)|exact HK.out)⟩
/-! ### spec_l20Story: function 96 -/
mutual
def spec_l20Story.l0:Nat→Int→Int→List (S36)→Int→List Int→Int→Option (Int×(List (S36))×Int)
 | 0,_,_,_,_,_,_=>none
 | k+1,x1,x6,x7,x8,x1000,x1001=>if x8>0 then ((spec_l20Claim.f k x1000 x1001 x6 (wrap64 (x1*3))).bind fun bt108=>(if x7.length<4398046511104 then (spec_l20Story.l0 k x1 x6 (x7++[(⟨bt108.1,bt108.2.1⟩:S36)]) (wrap64 (x8-1)) x1000 bt108.2.2) else (none))) else ((spec_l20Rd_odd.f k x1000 x1001 x1).bind fun bt116=>(if bt116.1=true then (spec_l20Story.l1 k x6 x7 x1000 bt116.2) else (some (x6,x7,bt116.2))))
def spec_l20Story.l1:Nat→Int→List (S36)→List Int→Int→Option (Int×(List (S36))×Int)
 | 0,_,_,_,_=>none
 | k+1,x6,x7,x1000,x1001=>if (x7.length:Int)<7 then (if x7.length<4398046511104 then (spec_l20Story.l1 k x6 (x7++[(⟨0,(([(⟨0,0⟩:S33)]:List (S33)))⟩:S36)]) x1000 x1001) else (none)) else (some (x6,x7,x1001))
end
def spec_l20Story.f (k:Nat) (s0_0:List Int) (s0_1:Int) (a1:Int):Option (Int×(List (S36))×Int):=(spec_l20Rd_pick.f k s0_0 s0_1 4).bind fun bt101=>((spec_l20Rd_pick.f k s0_0 bt101.2 5).bind fun bt106=>(spec_l20Story.l0 k a1 (wrap64 (1+bt101.1)) (([]:List (S36))) bt106.1 s0_0 bt106.2))
theorem spec_l20Story.mono_l : ∀ k,(∀ y0 y1 y2 y3 y4 y5,LeO (spec_l20Story.l0 k y0 y1 y2 y3 y4 y5) (spec_l20Story.l0 (k+1) y0 y1 y2 y3 y4 y5))∧(∀ y0 y1 y2 y3,LeO (spec_l20Story.l1 k y0 y1 y2 y3) (spec_l20Story.l1 (k+1) y0 y1 y2 y3))
 | 0=>⟨fun _ _ _ _ _ _ r h=>by simp [spec_l20Story.l0] at h,fun _ _ _ _ r h=>by simp [spec_l20Story.l1] at h⟩
 | k+1=>by
  obtain ⟨ih0,ih1⟩:=spec_l20Story.mono_l k
  refine ⟨?_,?_⟩
  ·intro y0 y1 y2 y3 y4 y5
   unfold spec_l20Story.l0
   repeat' first
   | (with_reducible exact ih0 _ _ _ _ _ _)
   | (with_reducible exact ih1 _ _ _ _)
   | (with_reducible exact spec_l20Claim.mono _ _ _ _ _)
   | (with_reducible exact spec_l20Rd_odd.mono _ _ _ _)
   | (with_reducible exact spec_l20Rd_pick.mono _ _ _ _)
   | (with_reducible exact LeO.refl _)
   | (with_reducible exact LeO.none _)
   | (with_reducible refine LeO.ite ?_ ?_)
   | (with_reducible refine LeO.bind ?_ (fun _=>?_))
   | exact ih0 _ _ _ _ _ _
   | exact ih1 _ _ _ _
   | exact spec_l20Claim.mono _ _ _ _ _
   | exact spec_l20Rd_odd.mono _ _ _ _
   | exact spec_l20Rd_pick.mono _ _ _ _
   | exact LeO.none _
   | refine LeO.ite ?_ ?_
   | refine LeO.bind ?_ (fun _=>?_)
  ·intro y0 y1 y2 y3
   unfold spec_l20Story.l1
   repeat' first
   | (with_reducible exact ih0 _ _ _ _ _ _)
   | (with_reducible exact ih1 _ _ _ _)
   | (with_reducible exact spec_l20Claim.mono _ _ _ _ _)
   | (with_reducible exact spec_l20Rd_odd.mono _ _ _ _)
   | (with_reducible exact spec_l20Rd_pick.mono _ _ _ _)
   | (with_reducible exact LeO.refl _)
   | (with_reducible exact LeO.none _)
   | (with_reducible refine LeO.ite ?_ ?_)
   | (with_reducible refine LeO.bind ?_ (fun _=>?_))
   | exact ih0 _ _ _ _ _ _
   | exact ih1 _ _ _ _
   | exact spec_l20Claim.mono _ _ _ _ _
   | exact spec_l20Rd_odd.mono _ _ _ _
   | exact spec_l20Rd_pick.mono _ _ _ _
   | exact LeO.none _
   | refine LeO.ite ?_ ?_
   | refine LeO.bind ?_ (fun _=>?_)
theorem spec_l20Story.mono : ∀ a0 a1 a2 k,LeO (spec_l20Story.f k a0 a1 a2) (spec_l20Story.f (k+1) a0 a1 a2):=by
 intro a0 a1 a2 k
 obtain ⟨ih0,ih1⟩:=spec_l20Story.mono_l k
 unfold spec_l20Story.f
 repeat' first
   | (with_reducible exact ih0 _ _ _ _ _ _)
   | (with_reducible exact ih1 _ _ _ _)
   | (with_reducible exact spec_l20Claim.mono _ _ _ _ _)
   | (with_reducible exact spec_l20Rd_odd.mono _ _ _ _)
   | (with_reducible exact spec_l20Rd_pick.mono _ _ _ _)
   | (with_reducible exact LeO.refl _)
   | (with_reducible exact LeO.none _)
   | (with_reducible refine LeO.ite ?_ ?_)
   | (with_reducible refine LeO.bind ?_ (fun _=>?_))
   | exact ih0 _ _ _ _ _ _
   | exact ih1 _ _ _ _
   | exact spec_l20Claim.mono _ _ _ _ _
   | exact spec_l20Rd_odd.mono _ _ _ _
   | exact spec_l20Rd_pick.mono _ _ _ _
   | exact LeO.none _
   | refine LeO.ite ?_ ?_
   | refine LeO.bind ?_ (fun _=>?_)
set_option maxHeartbeats 8000000 in
set_option maxRecDepth 100000 in
theorem spec_l20Story.calls (k:Nat) (g:Nat) (s0_0:List Int) (s0_1:Int) (a1:Int) (r1:Int) (r2:List (S36)) (r3:Int) (w0 w:World) (hI:IsS113 w0 w g s0_0 s0_1) (hB:Below w0.heap.size w0 w) (h:spec_l20Story.f k s0_0 s0_1 a1=some (r1,r2,r3)) :
  Calls Try.prog 96 #[.pointer (some ⟨g,0,none⟩),.int .i64 a1] w fun e w'=>∃ v1_:Value,e = .returned (.tuple #[.int .i64 r1,v1_])∧Kd.S k36 36 w' w.heap.size (fun _=>True) v1_ r2∧IsS113 w0 w' g s0_0 r3∧Below w0.heap.size w0 w'∧KeepBut w w' g none:=by
 have hu33:=Try.underlying33
 have hu36:=Try.underlying36
 have HI0:=mA hI
 have HK:=mA (KeepBut.refl w g none)
 have HL:=mA hB.size
 clear hI
 have HW0:=mA hB.size
 have HB:=mA hB
 clear hB
 have H:((spec_l20Rd_pick.f k s0_0 s0_1 4).bind fun bt101=>((spec_l20Rd_pick.f k s0_0 bt101.2 5).bind fun bt106=>(spec_l20Story.l0 k a1 (wrap64 (1+bt101.1)) (([]:List (S36))) bt106.1 s0_0 bt106.2)))=some (r1,r2,r3):=h
 clear h
 replace H:=Option.bind_eq_some_iff.mp H
 obtain ⟨⟨t101,t102⟩,A30,H⟩:=H
 replace H:((spec_l20Rd_pick.f k s0_0 t102 5).bind fun bt106=>(spec_l20Story.l0 k a1 (wrap64 (1+t101)) (([]:List (S36))) bt106.1 s0_0 bt106.2))=some (r1,r2,r3):=H
 have A3:=mA A30
 clear A30
 obtain ⟨y103,hy103⟩ : ∃ y_:List (S36),y_=(([]:List (S36))):=⟨_,rfl⟩
 replace H:((spec_l20Rd_pick.f k s0_0 t102 5).bind fun bt106=>(spec_l20Story.l0 k a1 (wrap64 (1+t101)) y103 bt106.1 s0_0 bt106.2))=some (r1,r2,r3):=by first|(rw [hy103];with_reducible exact H)|(have H2_:=(Option.bind_some _ _).symm.trans H;rw [hy103];with_reducible exact H2_)|(have H2_:=(Option.bind_some _ _).symm.trans H;with_reducible exact H2_)|with_reducible exact H|(rw [hy103];exact H)|exact H
 have Ny103:=mA hy103
 clear hy103
 replace H:=Option.bind_eq_some_iff.mp H
 obtain ⟨⟨t106,t107⟩,A40,H⟩:=H
 replace H:(spec_l20Story.l0 k a1 (wrap64 (1+t101)) y103 t106 s0_0 t107)=some (r1,r2,r3):=H
 have A4:=mA A40
 clear A40
 have H':=mA H
 clear H
 go_enter Try.func96,Try.ntmps96
 go_wp2_with (first|((with_reducible refine gate_callee (f:=108) rfl ?_);refine goesL_ (some 10) rfl rfl Try.func108 (by kernel_rfl) rfl #[.pointer (some ⟨g,0,none⟩),.int .i64 4] rfl (by (try simp only [mT,mC,mN]);first|done|rfl|(simp only [lD,lT];rfl)) ?_;(with_reducible refine (spec_l20Rd_pick.calls k g s0_0 s0_1 4 t101 t102 w0 _ ?side1 ?side2 A3.out).mono ?_);(case side1=>repeat (first|(with_reducible first|exact HI0.out|apply IsS113.alloc|apply IsS113.drewN|apply IsS113.drew|apply IsS113.set_1)|exact HI0.out));(case side2=>repeat (first|(with_reducible first|exact HB.out|apply bA|apply bN|apply bD|refine bS ?_ (IsS113.ge HI0.out))|exact HB.out));rintro e w5 ⟨rfl,hi,hb,hk⟩;refine ⟨_,rfl,?_⟩;have n0_:=mA (KeepBut.trans (by repeat (first|(with_reducible first|exact HK.out|apply eS|apply eN|apply eD|apply eA)|exact HK.out)) hk (.inl rfl));have n1_:=mA (hb);have n2_:=mA (hi);clear HK HB HI0;have HK:=n0_;have HB:=n1_;have HI0:=n2_;clear n0_ n1_ n2_;(try clear hb);(try clear hb2);(try clear hk);(try clear hi))|((with_reducible refine gate_dst (N:=12) rfl ?_);refine Kd.S_lit k36 _ 36 ?hg (N:=12) ?hd (xs:=([]:List (S36))) (inner:=[]) (ok:=fun _=>True) (okp:=fun _=>True) ?hr ?hp (fun _ hk=>hk) trivial (Below.refl _ _) (Nat.le_refl _) (by simp) ?_;(case hd=>rfl);(case hg=>rfl);(case hr=>first|(go_simp;done)|(go_simp;rfl));(case hp=>exact (Reps.none _ _));intro v104 w6 ho7 hb hg_ hnew_;clear hg_ hnew_;(first|rw [←Ny103.out] at ho7|(simp only [Int.reduceToNat] at ho7;rw [←Ny103.out] at ho7));have n0_:=mA (Kd.S_lower ho7 (keep_size (w:=w) (g:=g) (row:=none) (by repeat (first|(with_reducible first|exact HK.out|apply eS|apply eN|apply eD|apply eA)|exact HK.out))));have n1_:=mA (IsS113.below (by repeat (first|(with_reducible first|exact HI0.out|apply IsS113.alloc|apply IsS113.drewN|apply IsS113.drew|apply IsS113.set_1)|exact HI0.out)) hb);have n2_:=mA (KeepBut.trans (by repeat (first|(with_reducible first|exact HK.out|apply eS|apply eN|apply eD|apply eA)|exact HK.out)) (KeepBut.of_below hb g none) (.inl rfl));have n3_:=mA (bT (by repeat (first|(with_reducible first|exact HB.out|apply bA|apply bN|apply bD|refine bS ?_ (IsS113.ge HI0.out))|exact HB.out)) hb);clear HI0 HK HB;have HO105:=n0_;have HI0:=n1_;have HK:=n2_;have HB:=n3_;clear n0_ n1_ n2_ n3_ hb ho7)|((with_reducible refine gate_callee (f:=108) rfl ?_);refine goesL_ (some 14) rfl rfl Try.func108 (by kernel_rfl) rfl #[.pointer (some ⟨g,0,none⟩),.int .i64 5] rfl (by (try simp only [mT,mC,mN]);first|done|rfl|(simp only [lD,lT];rfl)) ?_;(with_reducible refine (spec_l20Rd_pick.calls k g s0_0 t102 5 t106 t107 w0 _ ?side1 ?side2 A4.out).mono ?_);(case side1=>repeat (first|(with_reducible first|exact HI0.out|apply IsS113.alloc|apply IsS113.drewN|apply IsS113.drew|apply IsS113.set_1)|exact HI0.out));(case side2=>repeat (first|(with_reducible first|exact HB.out|apply bA|apply bN|apply bD|refine bS ?_ (IsS113.ge HI0.out))|exact HB.out));rintro e w8 ⟨rfl,hi,hb,hk⟩;refine ⟨_,rfl,?_⟩;have n0_:=mA (Kd.S_mono (Kd.S_keep (IsS113.apartS (show IsS113 w0 _ g s0_0 t102 from by repeat (first|(with_reducible first|exact HI0.out|apply IsS113.alloc|apply IsS113.drewN|apply IsS113.drew|apply IsS113.set_1)|exact HI0.out)) (by (with_reducible repeat (first|apply Kd.S_alloc|apply Kd.S_drewN|apply Kd.S_drew));exact HO105.out) (by decide)) hk (fun _ h=>h.2)) (fun _ h=>h.1));have n1_:=mA (KeepBut.trans (by repeat (first|(with_reducible first|exact HK.out|apply eS|apply eN|apply eD|apply eA)|exact HK.out)) hk (.inl rfl));have n2_:=mA (hb);have n3_:=mA (hi);clear HO105 HK HB HI0;have HO105:=n0_;have HK:=n1_;have HB:=n2_;have HI0:=n3_;clear n0_ n1_ n2_ n3_;(try clear hb);(try clear hb2);(try clear hk);(try clear hi)))
 try simp only [Act.put,sA,sZ,sS]
 go_loopg [7,8] k (fun kq v7 v8 w'=>∃ (x7_1:List (S36)) (x8_1:Int) (x1001_1:Int),v8 = .int .i64 x8_1∧Aside0 (spec_l20Story.l0 kq a1 (wrap64 (1+t101)) x7_1 x8_1 s0_0 x1001_1=some (r1,r2,r3))∧Aside0 (kq≤k)∧Aside0 (Kd.S k36 36 w' w.heap.size (fun _=>True) v7 x7_1)∧Aside0 (IsS113 w0 w' g s0_0 x1001_1)∧Aside0 (KeepBut w w' g none)∧Aside0 (Below w0.heap.size w0 w'))
 case atStart=>exact ⟨(y103),(t106),(t107),(by first|rfl|(simp;done)|(simp [*];done)),H',⟨Nat.le_refl _⟩,⟨by (with_reducible repeat (first|apply Kd.S_alloc|apply Kd.S_drewN|apply Kd.S_drew));exact HO105.out⟩,⟨by repeat (first|(with_reducible first|exact HI0.out|apply IsS113.alloc|apply IsS113.drewN|apply IsS113.drew|apply IsS113.set_1)|exact HI0.out)⟩,⟨by repeat (first|(with_reducible first|exact HK.out|apply eS|apply eN|apply eD|apply eA)|exact HK.out)⟩,⟨by repeat (first|(with_reducible first|exact HB.out|apply bA|apply bN|apply bD|refine bS ?_ (IsS113.ge HI0.out))|exact HB.out)⟩⟩
 case round =>
  clear H'
  try clear c1
  try clear p2
  try clear p6
  obtain ⟨x7_1,x8_1,x1001_1,rfl,HA,HK1,HO_7,HI0,HK,HB⟩:=hrel
  cases gk with
  | zero=>exact absurd HA.out (by simp [spec_l20Story.l0])
  | succ k1 =>
   have H:=HA.out
   clear HA
   simp only [spec_l20Story.l0] at H
   by_cases c9:x8_1>0
   ·rw [if_pos c9] at H
    have c9b0:decide (0<x8_1)=true:=decide_eq_true c9
    clear c9
    replace H:=Option.bind_eq_some_iff.mp H
    obtain ⟨⟨t108,t109,t112⟩,A100,H⟩:=H
    replace H:(if x7_1.length<4398046511104 then (spec_l20Story.l0 k1 a1 (wrap64 (1+t101)) (x7_1++[(⟨t108,t109⟩:S36)]) (wrap64 (x8_1-1)) s0_0 t112) else (none))=some (r1,r2,r3):=H
    have A10:=mA A100
    clear A100
    by_cases c11:x7_1.length<4398046511104
    ·rw [if_pos c11] at H
     have LMc11:=mA c11
     clear c11
     obtain ⟨y113,hy113⟩ : ∃ y_:List (S36),y_=(x7_1++[(⟨t108,t109⟩:S36)]):=⟨_,rfl⟩
     replace H:(spec_l20Story.l0 k1 a1 (wrap64 (1+t101)) y113 (wrap64 (x8_1-1)) s0_0 t112)=some (r1,r2,r3):=by first|(rw [hy113];with_reducible exact H)|(have H2_:=(Option.bind_some _ _).symm.trans H;rw [hy113];with_reducible exact H2_)|(have H2_:=(Option.bind_some _ _).symm.trans H;with_reducible exact H2_)|with_reducible exact H|(rw [hy113];exact H)|exact H
     have Ny113:=mA hy113
     clear hy113
     have H':=mA H
     clear H
     go_wp2_with (first|((with_reducible refine gate_callee (f:=138) rfl ?_);refine goesL_ (some 24) rfl rfl Try.func138 (by kernel_rfl) rfl #[.pointer (some ⟨g,0,none⟩),.int .i64 (wrap64 (1+t101)),.int .i64 (wrap64 (a1*3))] rfl (by (try simp only [mT,mC,mN]);first|done|rfl|(simp only [lD,lT];rfl)) ?_;(with_reducible refine (spec_l20Claim.calls k1 g s0_0 x1001_1 (wrap64 (1+t101)) (wrap64 (a1*3)) t108 t109 t112 w0 _ ?side1 ?side2 A10.out).mono ?_);(case side1=>repeat (first|(with_reducible first|exact HI0.out|apply IsS113.alloc|apply IsS113.drewN|apply IsS113.drew|apply IsS113.set_1)|exact HI0.out));(case side2=>repeat (first|(with_reducible first|exact HB.out|apply bA|apply bN|apply bD|refine bS ?_ (IsS113.ge HI0.out))|exact HB.out));rintro e w12 ⟨v110,rfl,ho0,hi,hb,hk⟩;refine ⟨_,rfl,?_⟩;have n0_:=mA (Kd.S_mono (Kd.S_told (Kd.S_oldK (IsS113.apartS (show IsS113 w0 _ g s0_0 x1001_1 from by repeat (first|(with_reducible first|exact HI0.out|apply IsS113.alloc|apply IsS113.drewN|apply IsS113.drew|apply IsS113.set_1)|exact HI0.out)) (by (with_reducible repeat (first|apply Kd.S_alloc|apply Kd.S_drewN|apply Kd.S_drew));exact HO_7.out) (by decide)) hk) (Kd.R_base ho0)) (fun _ h_=>h_.1));have n1_:=mA (Kd.R_lower ho0 (keep_size (w:=w) (g:=g) (row:=none) (by repeat (first|(with_reducible first|exact HK.out|apply eS|apply eN|apply eD|apply eA)|exact HK.out))));have n2_:=mA (KeepBut.trans (by repeat (first|(with_reducible first|exact HK.out|apply eS|apply eN|apply eD|apply eA)|exact HK.out)) hk (.inl rfl));have n3_:=mA (hb);have n4_:=mA (hi);clear HO_7 HK HB HI0;have HO_7:=n0_;have HO111:=n1_;have HK:=n2_;have HB:=n3_;have HI0:=n4_;clear n0_ n1_ n2_ n3_ n4_;(try clear hb);(try clear hb2);(try clear hk);(try clear hi);(try clear ho0);obtain ⟨Ao14,co14,eo14⟩:=Kd.R_slice HO111.out;subst eo14)|((with_reducible refine gate_builtin (b:=.append) (xs:=#[.tmp 19,.tmp 25]) rfl ?_);at_builtin;refine Kd.S_append k36 w.heap.size rfl (.tmp 19) (.tmp 25) 23 36 (.agg #[(.int .i64 0),(.slice none 0 0)]) 32 rfl Try.underlying23 info36 rfl (by decide) (by omega) u7 x7_1 (⟨t108,t109⟩:S36) [.int .i64 t108,.slice Ao14 t109.length co14] (fun _=>True) (fun k_=>some k_=(.slice Ao14 t109.length co14:Value).ownBlock) rfl rfl ?aP (fun k_ hk_=>((rM (ok':=fun k_=>((fun _=>True)) k_∧some k_≠(u7:Value).ownBlock) (Kd.R_apart' (HO111.out) (Kd.S_typed HO_7.out) (by decide)) (fun k_ hk=>⟨trivial,hk.2⟩))).1 k_ hk_.symm) ?aF ?aO (Below.refl _ _) ?aS ?aL ?_;(case aP=>exact k36_mkM _ _ _ (⟨t108,t109⟩:S36) (rM (Kd.R_tight rfl (rM (ok':=fun k_=>((fun _=>True)) k_∧some k_≠(u7:Value).ownBlock) (Kd.R_apart' (HO111.out) (Kd.S_typed HO_7.out) (by decide)) (fun k_ hk=>⟨trivial,hk.2⟩))) (fun _ h_=>h_)));(case aF=>exact (fun _ _=>trivial));(case aO=>exact (by (with_reducible repeat (first|apply Kd.S_alloc|apply Kd.S_drewN|apply Kd.S_drew));exact Kd.S_mono HO_7.out (fun k_ hk=>⟨trivial,fun e_=>hk.2 e_⟩)));(case aS=>exact (keep_size (w:=w) (g:=g) (row:=none) (by repeat (first|(with_reducible first|exact HK.out|apply eS|apply eN|apply eD|apply eA)|exact HK.out))));(case aL=>have:=LMc11.out;omega);intro v114 w13 ho hb hg hat;rw [←Ny113.out] at ho;have n0_:=mA (IsS113.grown (by repeat (first|(with_reducible first|exact HI0.out|apply IsS113.alloc|apply IsS113.drewN|apply IsS113.drew|apply IsS113.set_1)|exact HI0.out)) hg (IsS113.own_neS HI0.out HO_7.out (by decide)));have n1_:=mA (below_weaken (by repeat (first|(with_reducible first|exact HB.out|apply bA|apply bN|apply bD|refine bS ?_ (IsS113.ge HI0.out))|exact HB.out)) HL.out hb);have n2_:=mA (KeepBut.trans (by repeat (first|(with_reducible first|exact HK.out|apply eS|apply eN|apply eD|apply eA)|exact HK.out)) (KeepBut.of_grown hg g) (Kd.S_base2 HO_7.out));have n3_:=mA (ho);clear HI0 HB HK HO_7 HO111;have HI0:=n0_;have HB:=n1_;have HK:=n2_;have HO115:=n3_;clear n0_ n1_ n2_ n3_ ho hb hg hat))
     go_roundg k1
     case measure=>have:=HK1.out;omega
     case rel=>exact ⟨(y113),(wrap64 (x8_1-1)),(t112),(by first|rfl|(simp;done)|(simp [*];done)),H',⟨by have:=HK1.out;omega⟩,⟨by (with_reducible repeat (first|apply Kd.S_alloc|apply Kd.S_drewN|apply Kd.S_drew));exact HO115.out⟩,⟨by repeat (first|(with_reducible first|exact HI0.out|apply IsS113.alloc|apply IsS113.drewN|apply IsS113.drew|apply IsS113.set_1)|exact HI0.out)⟩,⟨by repeat (first|(with_reducible first|exact HK.out|apply eS|apply eN|apply eD|apply eA)|exact HK.out)⟩,⟨by repeat (first|(with_reducible first|exact HB.out|apply bA|apply bN|apply bD|refine bS ?_ (IsS113.ge HI0.out))|exact HB.out)⟩⟩
    ·rw [if_neg c11] at H
     exact absurd H (by simp)
   ·rw [if_neg c9] at H
    have c9b0:decide (0<x8_1)=false:=decide_eq_false c9
    clear c9
    replace H:=Option.bind_eq_some_iff.mp H
    obtain ⟨⟨t116,t117⟩,A150,H⟩:=H
    replace H:(if t116=true then (spec_l20Story.l1 k1 (wrap64 (1+t101)) x7_1 s0_0 t117) else (some ((wrap64 (1+t101)),x7_1,t117)))=some (r1,r2,r3):=H
    have A15:=mA A150
    clear A150
    by_cases c16:t116=true
    ·subst c16
     have H1:(spec_l20Story.l1 k1 (wrap64 (1+t101)) x7_1 s0_0 t117)=some (r1,r2,r3):=by rw [if_pos rfl] at H;exact H
     clear H
     have H:=H1
     clear H1
     have H':=mA H
     clear H
     go_wp2_with (first|((with_reducible refine gate_callee (f:=139) rfl ?_);refine goesL_ (some 29) rfl rfl Try.func139 (by kernel_rfl) rfl #[.pointer (some ⟨g,0,none⟩),.int .i64 a1] rfl (by (try simp only [mT,mC,mN]);first|done|rfl|(simp only [lD,lT];rfl)) ?_;(with_reducible refine (spec_l20Rd_odd.calls k1 g s0_0 x1001_1 a1 true t117 w0 _ ?side1 ?side2 A15.out).mono ?_);(case side1=>repeat (first|(with_reducible first|exact HI0.out|apply IsS113.alloc|apply IsS113.drewN|apply IsS113.drew|apply IsS113.set_1)|exact HI0.out));(case side2=>repeat (first|(with_reducible first|exact HB.out|apply bA|apply bN|apply bD|refine bS ?_ (IsS113.ge HI0.out))|exact HB.out));rintro e w17 ⟨rfl,hi,hb,hk⟩;refine ⟨_,rfl,?_⟩;have n0_:=mA (Kd.S_mono (Kd.S_keep (IsS113.apartS (show IsS113 w0 _ g s0_0 x1001_1 from by repeat (first|(with_reducible first|exact HI0.out|apply IsS113.alloc|apply IsS113.drewN|apply IsS113.drew|apply IsS113.set_1)|exact HI0.out)) (by (with_reducible repeat (first|apply Kd.S_alloc|apply Kd.S_drewN|apply Kd.S_drew));exact HO_7.out) (by decide)) hk (fun _ h=>h.2)) (fun _ h=>h.1));have n1_:=mA (KeepBut.trans (by repeat (first|(with_reducible first|exact HK.out|apply eS|apply eN|apply eD|apply eA)|exact HK.out)) hk (.inl rfl));have n2_:=mA (hb);have n3_:=mA (hi);clear HO_7 HK HB HI0;have HO_7:=n0_;have HK:=n1_;have HB:=n2_;have HI0:=n3_;clear n0_ n1_ n2_ n3_;(try clear hb);(try clear hb2);(try clear hk);(try clear hi)))
     try simp only [Act.put,sA,sZ,sS]
     go_loopg [7] k1 (fun kq v7 w'=>∃ (x7_2:List (S36)),Aside0 (spec_l20Story.l1 kq (wrap64 (1+t101)) x7_2 s0_0 t117=some (r1,r2,r3))∧Aside0 (kq≤k1)∧Aside0 (Kd.S k36 36 w' w.heap.size (fun _=>True) v7 x7_2)∧Aside0 (IsS113 w0 w' g s0_0 t117)∧Aside0 (KeepBut w w' g none)∧Aside0 (Below w0.heap.size w0 w'))
     case atStart=>exact ⟨(x7_1),H',⟨Nat.le_refl _⟩,⟨by (with_reducible repeat (first|apply Kd.S_alloc|apply Kd.S_drewN|apply Kd.S_drew));exact HO_7.out⟩,⟨by repeat (first|(with_reducible first|exact HI0.out|apply IsS113.alloc|apply IsS113.drewN|apply IsS113.drew|apply IsS113.set_1)|exact HI0.out)⟩,⟨by repeat (first|(with_reducible first|exact HK.out|apply eS|apply eN|apply eD|apply eA)|exact HK.out)⟩,⟨by repeat (first|(with_reducible first|exact HB.out|apply bA|apply bN|apply bD|refine bS ?_ (IsS113.ge HI0.out))|exact HB.out)⟩⟩
     case round =>
      clear H'
      try clear c1
      try clear p2
      try clear p6
      try clear c9
      try clear c9b0
      try clear c10
      try clear c11
      try clear c13
      try clear c16
      try clear p2
      try clear p6
      obtain ⟨x7_2,HA,HK2,HO_7,HI0,HK,HB⟩:=hrel
      cases gk with
      | zero=>exact absurd HA.out (by simp [spec_l20Story.l1])
      | succ k2 =>
       have H:=HA.out
       clear HA
       simp only [spec_l20Story.l1] at H
       by_cases c18:(x7_2.length:Int)<7
       ·rw [if_pos c18] at H
        have c18b0:decide ((x7_2.length:Int)<7)=true:=decide_eq_true c18
        have c18b1:decide (x7_2.length<7)=true:=decide_eq_true (by omega)
        clear c18
        obtain ⟨y118,hy118⟩ : ∃ y_:List (S33),y_=(([(⟨0,0⟩:S33)]:List (S33))):=⟨_,rfl⟩
        replace H:(if x7_2.length<4398046511104 then (spec_l20Story.l1 k2 (wrap64 (1+t101)) (x7_2++[(⟨0,y118⟩:S36)]) s0_0 t117) else (none))=some (r1,r2,r3):=by first|(rw [hy118];with_reducible exact H)|(have H2_:=(Option.bind_some _ _).symm.trans H;rw [hy118];with_reducible exact H2_)|(have H2_:=(Option.bind_some _ _).symm.trans H;with_reducible exact H2_)|with_reducible exact H|(rw [hy118];exact H)|exact H
        have Ny118:=mA hy118
        clear hy118
        by_cases c19:x7_2.length<4398046511104
        ·rw [if_pos c19] at H
         have LMc19:=mA c19
         clear c19
         obtain ⟨y121,hy121⟩ : ∃ y_:List (S36),y_=(x7_2++[(⟨0,y118⟩:S36)]):=⟨_,rfl⟩
         replace H:(spec_l20Story.l1 k2 (wrap64 (1+t101)) y121 s0_0 t117)=some (r1,r2,r3):=by first|(rw [hy121];with_reducible exact H)|(have H2_:=(Option.bind_some _ _).symm.trans H;rw [hy121];with_reducible exact H2_)|(have H2_:=(Option.bind_some _ _).symm.trans H;with_reducible exact H2_)|with_reducible exact H|(rw [hy121];exact H)|exact H
         have Ny121:=mA hy121
         clear hy121
         have H':=mA H
         clear H
         obtain ⟨Ao20,co20,eo20⟩:=Kd.S_slice HO_7.out
         subst eo20
         go_wp2_with (first|((with_reducible refine gate_dst (N:=35) rfl ?_);refine Kd.R_lit k33 _ 33 ?hg (N:=35) ?hd (xs:=([(⟨0,0⟩:S33)]:List (S33))) (inner:=[.int .i64 0,.int .i64 0]) (ok:=fun _=>True) (okp:=fun _=>True) ?hr ?hp (fun _ hk=>hk) trivial (Below.refl _ _) (Nat.le_refl _) (by simp) ?_;(case hd=>rfl);(case hg=>rfl);(case hr=>first|(go_simp;done)|(go_simp;rfl));(case hp=>exact (Reps.c2 (show Kd.M k33 _ _ _ (⟨0,0⟩:S33) [.int .i64 0,.int .i64 0] from (k33_mkM _ _ _ (⟨0,0⟩:S33) )) (Reps.none _ _)));intro v119 w21 ho22 hb hg_ hnew_;clear hg_ hnew_;(first|rw [←Ny118.out] at ho22|(simp only [Int.reduceToNat] at ho22;rw [←Ny118.out] at ho22));have n0_:=mA (Kd.S_elder' (by (with_reducible repeat (first|apply Kd.S_alloc|apply Kd.S_drewN|apply Kd.S_drew));exact HO_7.out) (Kd.R_base ho22) hb);have n1_:=mA (Kd.R_lower ho22 (keep_size (w:=w) (g:=g) (row:=none) (by repeat (first|(with_reducible first|exact HK.out|apply eS|apply eN|apply eD|apply eA)|exact HK.out))));have n2_:=mA (IsS113.below (by repeat (first|(with_reducible first|exact HI0.out|apply IsS113.alloc|apply IsS113.drewN|apply IsS113.drew|apply IsS113.set_1)|exact HI0.out)) hb);have n3_:=mA (KeepBut.trans (by repeat (first|(with_reducible first|exact HK.out|apply eS|apply eN|apply eD|apply eA)|exact HK.out)) (KeepBut.of_below hb g none) (.inl rfl));have n4_:=mA (bT (by repeat (first|(with_reducible first|exact HB.out|apply bA|apply bN|apply bD|refine bS ?_ (IsS113.ge HI0.out))|exact HB.out)) hb);clear HO_7 HI0 HK HB;have HO_7:=n0_;have HO120:=n1_;have HI0:=n2_;have HK:=n3_;have HB:=n4_;clear n0_ n1_ n2_ n3_ n4_ hb ho22;obtain ⟨Ao23,co23,eo23⟩:=Kd.R_slice HO120.out;subst eo23)|((with_reducible refine gate_builtin (b:=.append) (xs:=#[.tmp 33,.tmp 37]) rfl ?_);at_builtin;refine Kd.S_append k36 w.heap.size rfl (.tmp 33) (.tmp 37) 23 36 (.agg #[(.int .i64 0),(.slice none 0 0)]) 32 rfl Try.underlying23 info36 rfl (by decide) (by omega) (.slice Ao20 x7_2.length co20) x7_2 (⟨0,y118⟩:S36) [.int .i64 0,.slice Ao23 y118.length co23] (fun _=>True) (fun k_=>some k_=(.slice Ao23 y118.length co23:Value).ownBlock) rfl rfl ?aP (fun k_ hk_=>((rM (ok':=fun k_=>((fun _=>True)) k_∧some k_≠(.slice Ao20 x7_2.length co20:Value).ownBlock) (Kd.R_apart' (HO120.out) (Kd.S_typed HO_7.out) (by decide)) (fun k_ hk=>⟨trivial,hk.2⟩))).1 k_ hk_.symm) ?aF ?aO (Below.refl _ _) ?aS ?aL ?_;(case aP=>exact k36_mkM _ _ _ (⟨0,y118⟩:S36) (rM (Kd.R_tight rfl (rM (ok':=fun k_=>((fun _=>True)) k_∧some k_≠(.slice Ao20 x7_2.length co20:Value).ownBlock) (Kd.R_apart' (HO120.out) (Kd.S_typed HO_7.out) (by decide)) (fun k_ hk=>⟨trivial,hk.2⟩))) (fun _ h_=>h_)));(case aF=>exact (fun _ _=>trivial));(case aO=>exact (by (with_reducible repeat (first|apply Kd.S_alloc|apply Kd.S_drewN|apply Kd.S_drew));exact Kd.S_mono HO_7.out (fun k_ hk=>⟨trivial,fun e_=>hk.2 e_⟩)));(case aS=>exact (keep_size (w:=w) (g:=g) (row:=none) (by repeat (first|(with_reducible first|exact HK.out|apply eS|apply eN|apply eD|apply eA)|exact HK.out))));(case aL=>have:=LMc19.out;omega);intro v122 w24 ho hb hg hat;rw [←Ny121.out] at ho;have n0_:=mA (IsS113.grown (by repeat (first|(with_reducible first|exact HI0.out|apply IsS113.alloc|apply IsS113.drewN|apply IsS113.drew|apply IsS113.set_1)|exact HI0.out)) hg (IsS113.own_neS HI0.out HO_7.out (by decide)));have n1_:=mA (below_weaken (by repeat (first|(with_reducible first|exact HB.out|apply bA|apply bN|apply bD|refine bS ?_ (IsS113.ge HI0.out))|exact HB.out)) HL.out hb);have n2_:=mA (KeepBut.trans (by repeat (first|(with_reducible first|exact HK.out|apply eS|apply eN|apply eD|apply eA)|exact HK.out)) (KeepBut.of_grown hg g) (Kd.S_base2 HO_7.out));have n3_:=mA (ho);clear HI0 HB HK HO_7 HO120;have HI0:=n0_;have HB:=n1_;have HK:=n2_;have HO123:=n3_;clear n0_ n1_ n2_ n3_ ho hb hg hat))
         go_roundg k2
         case measure=>have:=HK1.out;have:=HK2.out;omega
         case rel=>exact ⟨(y121),H',⟨by have:=HK1.out;have:=HK2.out;omega⟩,⟨by (with_reducible repeat (first|apply Kd.S_alloc|apply Kd.S_drewN|apply Kd.S_drew));exact HO123.out⟩,⟨by repeat (first|(with_reducible first|exact HI0.out|apply IsS113.alloc|apply IsS113.drewN|apply IsS113.drew|apply IsS113.set_1)|exact HI0.out)⟩,⟨by repeat (first|(with_reducible first|exact HK.out|apply eS|apply eN|apply eD|apply eA)|exact HK.out)⟩,⟨by repeat (first|(with_reducible first|exact HB.out|apply bA|apply bN|apply bD|refine bS ?_ (IsS113.ge HI0.out))|exact HB.out)⟩⟩
        ·rw [if_neg c19] at H
         exact absurd H (by simp)
       ·rw [if_neg c18] at H
        have c18b0:decide ((x7_2.length:Int)<7)=false:=decide_eq_false c18
        have c18b1:decide (x7_2.length<7)=false:=decide_eq_false (by omega)
        clear c18
        simp only [Option.some.injEq,Prod.mk.injEq] at H
        obtain ⟨rfl,rfl,rfl⟩:=H
        obtain ⟨Ao25,co25,eo25⟩:=Kd.S_slice HO_7.out
        subst eo25
        go_wp2
        go_ret2
        exact ⟨_,by first|rfl|(simp [errW_none,errW_some]<;>rfl)|(simp [*, errW_none,errW_some]<;>rfl),by (with_reducible repeat (first|apply Kd.S_alloc|apply Kd.S_drewN|apply Kd.S_drew));exact HO_7.out,by repeat (first|(with_reducible first|exact HI0.out|apply IsS113.alloc|apply IsS113.drewN|apply IsS113.drew|apply IsS113.set_1)|exact HI0.out),by repeat (first|(with_reducible first|exact HB.out|apply bA|apply bN|apply bD|refine bS ?_ (IsS113.ge HI0.out))|exact HB.out),by repeat (first|(with_reducible first|exact HK.out|apply eS|apply eN|apply eD|apply eA)|exact HK.out)⟩
    ·replace c16:=Bool.eq_false_iff.mpr c16
     subst c16
     have H1:(some ((wrap64 (1+t101)),x7_1,t117))=some (r1,r2,r3):=by rw [if_neg (show ¬ (false=true) by decide)] at H;exact H
     clear H
     have H:=H1
     clear H1
     simp only [Option.some.injEq,Prod.mk.injEq] at H
     obtain ⟨rfl,rfl,rfl⟩:=H
     go_wp2_with (first|((with_reducible refine gate_callee (f:=139) rfl ?_);refine goesL_ (some 29) rfl rfl Try.func139 (by kernel_rfl) rfl #[.pointer (some ⟨g,0,none⟩),.int .i64 a1] rfl (by (try simp only [mT,mC,mN]);first|done|rfl|(simp only [lD,lT];rfl)) ?_;(with_reducible refine (spec_l20Rd_odd.calls k1 g s0_0 x1001_1 a1 false t117 w0 _ ?side1 ?side2 A15.out).mono ?_);(case side1=>repeat (first|(with_reducible first|exact HI0.out|apply IsS113.alloc|apply IsS113.drewN|apply IsS113.drew|apply IsS113.set_1)|exact HI0.out));(case side2=>repeat (first|(with_reducible first|exact HB.out|apply bA|apply bN|apply bD|refine bS ?_ (IsS113.ge HI0.out))|exact HB.out));rintro e w26 ⟨rfl,hi,hb,hk⟩;refine ⟨_,rfl,?_⟩;have n0_:=mA (Kd.S_mono (Kd.S_keep (IsS113.apartS (show IsS113 w0 _ g s0_0 x1001_1 from by repeat (first|(with_reducible first|exact HI0.out|apply IsS113.alloc|apply IsS113.drewN|apply IsS113.drew|apply IsS113.set_1)|exact HI0.out)) (by (with_reducible repeat (first|apply Kd.S_alloc|apply Kd.S_drewN|apply Kd.S_drew));exact HO_7.out) (by decide)) hk (fun _ h=>h.2)) (fun _ h=>h.1));have n1_:=mA (KeepBut.trans (by repeat (first|(with_reducible first|exact HK.out|apply eS|apply eN|apply eD|apply eA)|exact HK.out)) hk (.inl rfl));have n2_:=mA (hb);have n3_:=mA (hi);clear HO_7 HK HB HI0;have HO_7:=n0_;have HK:=n1_;have HB:=n2_;have HI0:=n3_;clear n0_ n1_ n2_ n3_;(try clear hb);(try clear hb2);(try clear hk);(try clear hi)))
     go_ret2
     exact ⟨_,by first|rfl|(simp [errW_none,errW_some]<;>rfl)|(simp [*, errW_none,errW_some]<;>rfl),by (with_reducible repeat (first|apply Kd.S_alloc|apply Kd.S_drewN|apply Kd.S_drew));exact HO_7.out,by repeat (first|(with_reducible first|exact HI0.out|apply IsS113.alloc|apply IsS113.drewN|apply IsS113.drew|apply IsS113.set_1)|exact HI0.out),by repeat (first|(with_reducible first|exact HB.out|apply bA|apply bN|apply bD|refine bS ?_ (IsS113.ge HI0.out))|exact HB.out),by repeat (first|(with_reducible first|exact HK.out|apply eS|apply eN|apply eD|apply eA)|exact HK.out)⟩
/-! ### spec_DrawKnownPeople: function 22 -/
def spec_DrawKnownPeople.f (k:Nat) (l0:List Int):Option (Int×(List (S36))):=(spec_l20Open.f l0).bind fun bt101=>((spec_l20Story.f k bt101.1 bt101.2 12).bind fun bt104=>(some (bt104.1,bt104.2.1)))
theorem spec_DrawKnownPeople.mono : ∀ a0 k,LeO (spec_DrawKnownPeople.f k a0) (spec_DrawKnownPeople.f (k+1) a0):=by
 intro a0 k
 unfold spec_DrawKnownPeople.f
 repeat' first
   | (with_reducible exact spec_l20Story.mono _ _ _ _)
   | (with_reducible exact LeO.refl _)
   | (with_reducible exact LeO.none _)
   | (with_reducible refine LeO.ite ?_ ?_)
   | (with_reducible refine LeO.bind ?_ (fun _=>?_))
   | exact spec_l20Story.mono _ _ _ _
   | exact LeO.none _
   | refine LeO.ite ?_ ?_
   | refine LeO.bind ?_ (fun _=>?_)
set_option maxHeartbeats 8000000 in
set_option maxRecDepth 100000 in
theorem spec_DrawKnownPeople.calls (k:Nat) (A0:Option Addr) (c0:Nat) (l0:List Int) (r1:Int) (r2:List (S36)) (w:World) (hr0:Kd.C (Kd.int .u8) w A0 l0.length l0) (hc0:l0.length≤c0) (h:spec_DrawKnownPeople.f k l0=some (r1,r2)) :
  Calls Try.prog 22 #[.slice A0 l0.length c0] w fun e w'=>∃ v1_:Value,e = .returned (.tuple #[.int .i64 r1,v1_])∧Kd.S k36 36 w' w.heap.size (fun _=>True) v1_ r2∧Below w.heap.size w w':=by
 have HR0:=mA hr0
 have HC0:=mA hc0
 clear hr0 hc0
 have HB:=mA (Below.refl w.heap.size w)
 have H:((spec_l20Open.f l0).bind fun bt101=>((spec_l20Story.f k bt101.1 bt101.2 12).bind fun bt104=>(some (bt104.1,bt104.2.1))))=some (r1,r2):=h
 clear h
 replace H:=Option.bind_eq_some_iff.mp H
 obtain ⟨⟨t101,t102⟩,A20,H⟩:=H
 replace H:((spec_l20Story.f k t101 t102 12).bind fun bt104=>(some (bt104.1,bt104.2.1)))=some (r1,r2):=H
 have A2:=mA A20
 clear A20
 replace H:=Option.bind_eq_some_iff.mp H
 obtain ⟨⟨t104,t105,t108⟩,A30,H⟩:=H
 replace H:(some (t104,t105))=some (r1,r2):=H
 have A3:=mA A30
 clear A30
 simp only [Option.some.injEq,Prod.mk.injEq] at H
 obtain ⟨rfl,rfl⟩:=H
 go_enter Try.func22,Try.ntmps22
 go_wp2_with (first|((with_reducible refine gate_callee (f:=97) rfl ?_);refine goesL_ (some 5) rfl rfl Try.func97 (by kernel_rfl) rfl #[.slice A0 l0.length c0] rfl (by (try simp only [mT,mC,mN]);first|done|rfl|(simp only [lD,lT];rfl)) ?_;(with_reducible refine (spec_l20Open.calls _ _ l0 t101 t102 w _ ?side1 ?side2 ?side3 A2.out).mono ?_);(case side1=>repeat (first|(with_reducible first|exact HB.out|apply bA|apply bN|apply bD)|exact HB.out));(case side2=>exact HR0.out);(case side3=>exact HC0.out);rintro e w4 ⟨g103,rfl,hi,hb,hb2⟩;refine ⟨_,rfl,?_⟩;have n0_:=mA (hb);have n1_:=mA (hi);clear HB;have HB:=n0_;have HI103:=n1_;clear n0_ n1_;(try clear hb);(try clear hb2);(try clear hk);(try clear hi))|((with_reducible refine gate_callee (f:=96) rfl ?_);refine goesL_ (some 6) rfl rfl Try.func96 (by kernel_rfl) rfl #[.pointer (some ⟨g103,0,none⟩),.int .i64 12] rfl (by (try simp only [mT,mC,mN]);first|done|rfl|(simp only [lD,lT];rfl)) ?_;(with_reducible refine (spec_l20Story.calls k g103 t101 t102 12 t104 t105 t108 w _ ?side1 ?side2 A3.out).mono ?_);(case side1=>repeat (first|(with_reducible first|exact HI103.out|apply IsS113.alloc|apply IsS113.drewN|apply IsS113.drew|apply IsS113.set_1)|exact HI103.out));(case side2=>repeat (first|(with_reducible first|exact HB.out|apply bA|apply bN|apply bD|refine bS ?_ (IsS113.ge HI103.out))|exact HB.out));rintro e w5 ⟨v106,rfl,ho0,hi,hb,hk⟩;refine ⟨_,rfl,?_⟩;have n0_:=mA (Kd.S_lower ho0 (bZ (by repeat (first|(with_reducible first|exact HB.out|apply bA|apply bN|apply bD|refine bS ?_ (IsS113.ge HI103.out))|exact HB.out))));have n1_:=mA (hb);have n2_:=mA (hi);clear HB HI103;have HO107:=n0_;have HB:=n1_;have HI103:=n2_;clear n0_ n1_ n2_;(try clear hb);(try clear hb2);(try clear hk);(try clear hi);(try clear ho0)))
 go_ret2
 exact ⟨_,by first|rfl|(simp [errW_none,errW_some]<;>rfl)|(simp [*, errW_none,errW_some]<;>rfl),by (with_reducible repeat (first|apply Kd.S_alloc|apply Kd.S_drewN|apply Kd.S_drew));exact HO107.out,by repeat (first|(with_reducible first|exact HB.out|apply bA|apply bN|apply bD|refine bS ?_ (IsS113.ge HI103.out))|exact HB.out)⟩
/-! ### impl_ClaimOk: function 45 -/
def impl_ClaimOk.f (k:Nat) (a0:Int) (a1_0:Int) (l1_1:List (S33)):Option (Bool):=(impl_peopleOk.f a0).bind fun t102=>(if t102=true then (if a1_0≥0 then (if a1_0<a0 then ((impl_TermOk.f k a0 l1_1).bind fun t103=>(if t103=true then (some (decide ((l1_1.length:Int)≤13))) else (some false))) else (some false)) else (some false)) else (some false))
theorem impl_ClaimOk.mono : ∀ a0 a1 a2 k,LeO (impl_ClaimOk.f k a0 a1 a2) (impl_ClaimOk.f (k+1) a0 a1 a2):=by
 intro a0 a1 a2 k
 unfold impl_ClaimOk.f
 repeat' first
   | (with_reducible exact impl_TermOk.mono _ _ _)
   | (with_reducible exact LeO.refl _)
   | (with_reducible exact LeO.none _)
   | (with_reducible refine LeO.ite ?_ ?_)
   | (with_reducible refine LeO.bind ?_ (fun _=>?_))
   | exact impl_TermOk.mono _ _ _
   | exact LeO.none _
   | refine LeO.ite ?_ ?_
   | refine LeO.bind ?_ (fun _=>?_)
set_option maxHeartbeats 8000000 in
set_option maxRecDepth 100000 in
theorem impl_ClaimOk.calls (k:Nat) (a0:Int) (a1_0:Int) (A1_1:Option Addr) (c1_1:Nat) (l1_1:List (S33)) (r:Bool) (w:World) (hr1_1:Kd.C k33 w A1_1 l1_1.length l1_1) (hc1_1:l1_1.length≤c1_1) (h:impl_ClaimOk.f k a0 a1_0 l1_1=some r) :
  Calls Try.prog 45 #[.int .i64 a0,.agg #[.int .i64 a1_0,.slice A1_1 l1_1.length c1_1]] w fun e w'=>e = .returned (.bool r)∧Below w.heap.size w w':=by
 have hu36:=Try.underlying36
 have HR1_1:=mA hr1_1
 have HC1_1:=mA hc1_1
 clear hr1_1 hc1_1
 have HB:=mA (Below.refl w.heap.size w)
 have H:((impl_peopleOk.f a0).bind fun t102=>(if t102=true then (if a1_0≥0 then (if a1_0<a0 then ((impl_TermOk.f k a0 l1_1).bind fun t103=>(if t103=true then (some (decide ((l1_1.length:Int)≤13))) else (some false))) else (some false)) else (some false)) else (some false)))=some r:=h
 clear h
 replace H:=Option.bind_eq_some_iff.mp H
 obtain ⟨t102,A30,H⟩:=H
 replace H:(if t102=true then (if a1_0≥0 then (if a1_0<a0 then ((impl_TermOk.f k a0 l1_1).bind fun t103=>(if t103=true then (some (decide ((l1_1.length:Int)≤13))) else (some false))) else (some false)) else (some false)) else (some false))=some r:=H
 have A3:=mA A30
 clear A30
 by_cases c4:t102=true
 ·subst c4
  have H1:(if a1_0≥0 then (if a1_0<a0 then ((impl_TermOk.f k a0 l1_1).bind fun t103=>(if t103=true then (some (decide ((l1_1.length:Int)≤13))) else (some false))) else (some false)) else (some false))=some r:=by rw [if_pos rfl] at H;exact H
  clear H
  have H:=H1
  clear H1
  by_cases c5:a1_0≥0
  ·rw [if_pos c5] at H
   have c5b0:decide (0≤a1_0)=true:=decide_eq_true c5
   clear c5
   by_cases c6:a1_0<a0
   ·rw [if_pos c6] at H
    have c6b0:decide (a1_0<a0)=true:=decide_eq_true c6
    clear c6
    replace H:=Option.bind_eq_some_iff.mp H
    obtain ⟨t103,A70,H⟩:=H
    replace H:(if t103=true then (some (decide ((l1_1.length:Int)≤13))) else (some false))=some r:=H
    have A7:=mA A70
    clear A70
    by_cases c8:t103=true
    ·subst c8
     have H1:(some (decide ((l1_1.length:Int)≤13)))=some r:=by rw [if_pos rfl] at H;exact H
     clear H
     have H:=H1
     clear H1
     obtain rfl:=Option.some.inj H
     go_enter Try.func45,Try.ntmps45
     go_wp2_with (first|((with_reducible refine gate_dst (N:=3) rfl ?_);(try (refine gate_guard (by rfl) ?_;dsimp only));refine box_event ?hg (N:=3) ?hd (cs:=#[.int .i64 a1_0,.slice A1_1 l1_1.length c1_1]) (t:=36) ?hr ?_;(case hd=>rfl);(case hg=>rfl);(case hr=>first|(go_simp;done)|(go_simp;rfl));intro gb101 hg w9 hbox hb;have n0_:=mA (bT (by repeat (first|(with_reducible first|exact HB.out|apply bA|apply bN|apply bD)|exact HB.out)) hb);have n1_:=mA (hbox);have n2_:=mA ((by rw [hg];exact (bZ (by repeat (first|(with_reducible first|exact HB.out|apply bA|apply bN|apply bD)|exact HB.out))):w.heap.size≤gb101));have n3_:=mA ((by rw [hg];exact (bZ (by repeat (first|(with_reducible first|exact HB.out|apply bA|apply bN|apply bD)|exact HB.out))):w.heap.size≤gb101));clear HB;have HB:=n0_;have BK101:=n1_;have GW101:=n2_;have GE101:=n3_;clear n0_ n1_ n2_ n3_ hb hbox hg)|((with_reducible refine gate_callee (f:=115) rfl ?_);refine goesL_ (some 6) rfl rfl Try.func115 (by kernel_rfl) rfl #[.int .i64 a0] rfl (by (try simp only [mT,mC,mN]);first|done|rfl|(simp only [lD,lT];rfl)) ?_;(with_reducible refine (impl_peopleOk.calls a0 true _ A3.out).mono ?_);rintro e w' ⟨rfl,⟨nd,rfl⟩⟩;refine ⟨_,rfl,?_⟩;have hcz10_0:w9.cell? ⟨gb101,0,none⟩=some (.int .i64 a1_0):=(kC BK101.out 0).trans rfl;have hcz10_1:w9.cell? ⟨gb101,1,none⟩=some (.slice A1_1 l1_1.length c1_1):=(kC BK101.out 1).trans rfl;have hfz10_0:=kF BK101.out 0;have hfz10_1:=kF BK101.out 1)|(go_at_call 111;(with_reducible refine (impl_TermOk.calls k a0 _ _ l1_1 true _ ?side1 ?side2 A7.out).mono ?_);(case side1=>repeat (first|exact (Kd.C_below HR1_1.out (by repeat (first|(with_reducible first|exact HB.out|apply bA|apply bN|apply bD|refine bS ?_ GE101.out)|exact HB.out)))|(with_reducible refine cA ?_ _)|(with_reducible refine cN ?_ _)|(with_reducible refine cD ?_)));(case side2=>exact HC1_1.out);rintro e w11 ⟨rfl,hb⟩;have n0_:=mA (blk_below (g:=gb101) (o:=.cells #[.int .i64 a1_0,.slice A1_1 l1_1.length c1_1] 36 (0,0)) (by (with_reducible repeat (first|refine kN ?_ _|refine kD ?_|refine kA ?_ _));exact BK101.out) hb);have n1_:=mA (bT (by repeat (first|(with_reducible first|exact HB.out|apply bA|apply bN|apply bD|refine bS ?_ GE101.out)|exact HB.out)) hb);clear BK101 HB;have BK101:=n0_;have HB:=n1_;clear n0_ n1_;(try clear hb);(try clear hb2);(try clear hk);(try clear hi);have hcz12_0:w11.cell? ⟨gb101,0,none⟩=some (.int .i64 a1_0):=(kC BK101.out 0).trans rfl;have hcz12_1:w11.cell? ⟨gb101,1,none⟩=some (.slice A1_1 l1_1.length c1_1):=(kC BK101.out 1).trans rfl;have hfz12_0:=kF BK101.out 0;have hfz12_1:=kF BK101.out 1))
     go_ret
     exact ⟨by first|rfl|(simp [errW_none,errW_some]<;>rfl)|(simp [*, errW_none,errW_some]<;>rfl),by repeat (first|(with_reducible first|exact HB.out|apply bA|apply bN|apply bD|refine bS ?_ GE101.out)|exact HB.out)⟩
    ·replace c8:=Bool.eq_false_iff.mpr c8
     subst c8
     have H1:(some false)=some r:=by rw [if_neg (show ¬ (false=true) by decide)] at H;exact H
     clear H
     have H:=H1
     clear H1
     obtain rfl:=Option.some.inj H
     go_enter Try.func45,Try.ntmps45
     go_wp2_with (first|((with_reducible refine gate_dst (N:=3) rfl ?_);(try (refine gate_guard (by rfl) ?_;dsimp only));refine box_event ?hg (N:=3) ?hd (cs:=#[.int .i64 a1_0,.slice A1_1 l1_1.length c1_1]) (t:=36) ?hr ?_;(case hd=>rfl);(case hg=>rfl);(case hr=>first|(go_simp;done)|(go_simp;rfl));intro gb101 hg w13 hbox hb;have n0_:=mA (bT (by repeat (first|(with_reducible first|exact HB.out|apply bA|apply bN|apply bD)|exact HB.out)) hb);have n1_:=mA (hbox);have n2_:=mA ((by rw [hg];exact (bZ (by repeat (first|(with_reducible first|exact HB.out|apply bA|apply bN|apply bD)|exact HB.out))):w.heap.size≤gb101));have n3_:=mA ((by rw [hg];exact (bZ (by repeat (first|(with_reducible first|exact HB.out|apply bA|apply bN|apply bD)|exact HB.out))):w.heap.size≤gb101));clear HB;have HB:=n0_;have BK101:=n1_;have GW101:=n2_;have GE101:=n3_;clear n0_ n1_ n2_ n3_ hb hbox hg)|((with_reducible refine gate_callee (f:=115) rfl ?_);refine goesL_ (some 6) rfl rfl Try.func115 (by kernel_rfl) rfl #[.int .i64 a0] rfl (by (try simp only [mT,mC,mN]);first|done|rfl|(simp only [lD,lT];rfl)) ?_;(with_reducible refine (impl_peopleOk.calls a0 true _ A3.out).mono ?_);rintro e w' ⟨rfl,⟨nd,rfl⟩⟩;refine ⟨_,rfl,?_⟩;have hcz14_0:w13.cell? ⟨gb101,0,none⟩=some (.int .i64 a1_0):=(kC BK101.out 0).trans rfl;have hcz14_1:w13.cell? ⟨gb101,1,none⟩=some (.slice A1_1 l1_1.length c1_1):=(kC BK101.out 1).trans rfl;have hfz14_0:=kF BK101.out 0;have hfz14_1:=kF BK101.out 1)|(go_at_call 111;(with_reducible refine (impl_TermOk.calls k a0 _ _ l1_1 false _ ?side1 ?side2 A7.out).mono ?_);(case side1=>repeat (first|exact (Kd.C_below HR1_1.out (by repeat (first|(with_reducible first|exact HB.out|apply bA|apply bN|apply bD|refine bS ?_ GE101.out)|exact HB.out)))|(with_reducible refine cA ?_ _)|(with_reducible refine cN ?_ _)|(with_reducible refine cD ?_)));(case side2=>exact HC1_1.out);rintro e w15 ⟨rfl,hb⟩;have n0_:=mA (blk_below (g:=gb101) (o:=.cells #[.int .i64 a1_0,.slice A1_1 l1_1.length c1_1] 36 (0,0)) (by (with_reducible repeat (first|refine kN ?_ _|refine kD ?_|refine kA ?_ _));exact BK101.out) hb);have n1_:=mA (bT (by repeat (first|(with_reducible first|exact HB.out|apply bA|apply bN|apply bD|refine bS ?_ GE101.out)|exact HB.out)) hb);clear BK101 HB;have BK101:=n0_;have HB:=n1_;clear n0_ n1_;(try clear hb);(try clear hb2);(try clear hk);(try clear hi)))
     go_ret
     exact ⟨by first|rfl|(simp [errW_none,errW_some]<;>rfl)|(simp [*, errW_none,errW_some]<;>rfl),by repeat (first|(with_reducible first|exact HB.out|apply bA|apply bN|apply bD|refine bS ?_ GE101.out)|exact HB.out)⟩
   ·rw [if_neg c6] at H
    have c6b0:decide (a1_0<a0)=false:=decide_eq_false c6
    clear c6
    obtain rfl:=Option.some.inj H
    go_enter Try.func45,Try.ntmps45
    go_wp2_with (first|((with_reducible refine gate_dst (N:=3) rfl ?_);(try (refine gate_guard (by rfl) ?_;dsimp only));refine box_event ?hg (N:=3) ?hd (cs:=#[.int .i64 a1_0,.slice A1_1 l1_1.length c1_1]) (t:=36) ?hr ?_;(case hd=>rfl);(case hg=>rfl);(case hr=>first|(go_simp;done)|(go_simp;rfl));intro gb101 hg w16 hbox hb;have n0_:=mA (bT (by repeat (first|(with_reducible first|exact HB.out|apply bA|apply bN|apply bD)|exact HB.out)) hb);have n1_:=mA (hbox);have n2_:=mA ((by rw [hg];exact (bZ (by repeat (first|(with_reducible first|exact HB.out|apply bA|apply bN|apply bD)|exact HB.out))):w.heap.size≤gb101));have n3_:=mA ((by rw [hg];exact (bZ (by repeat (first|(with_reducible first|exact HB.out|apply bA|apply bN|apply bD)|exact HB.out))):w.heap.size≤gb101));clear HB;have HB:=n0_;have BK101:=n1_;have GW101:=n2_;have GE101:=n3_;clear n0_ n1_ n2_ n3_ hb hbox hg)|((with_reducible refine gate_callee (f:=115) rfl ?_);refine goesL_ (some 6) rfl rfl Try.func115 (by kernel_rfl) rfl #[.int .i64 a0] rfl (by (try simp only [mT,mC,mN]);first|done|rfl|(simp only [lD,lT];rfl)) ?_;(with_reducible refine (impl_peopleOk.calls a0 true _ A3.out).mono ?_);rintro e w' ⟨rfl,⟨nd,rfl⟩⟩;refine ⟨_,rfl,?_⟩;have hcz17_0:w16.cell? ⟨gb101,0,none⟩=some (.int .i64 a1_0):=(kC BK101.out 0).trans rfl;have hcz17_1:w16.cell? ⟨gb101,1,none⟩=some (.slice A1_1 l1_1.length c1_1):=(kC BK101.out 1).trans rfl;have hfz17_0:=kF BK101.out 0;have hfz17_1:=kF BK101.out 1))
    go_ret
    exact ⟨by first|rfl|(simp [errW_none,errW_some]<;>rfl)|(simp [*, errW_none,errW_some]<;>rfl),by repeat (first|(with_reducible first|exact HB.out|apply bA|apply bN|apply bD|refine bS ?_ GE101.out)|exact HB.out)⟩
  ·rw [if_neg c5] at H
   have c5b0:decide (0≤a1_0)=false:=decide_eq_false c5
   clear c5
   obtain rfl:=Option.some.inj H
   go_enter Try.func45,Try.ntmps45
   go_wp2_with (first|((with_reducible refine gate_dst (N:=3) rfl ?_);(try (refine gate_guard (by rfl) ?_;dsimp only));refine box_event ?hg (N:=3) ?hd (cs:=#[.int .i64 a1_0,.slice A1_1 l1_1.length c1_1]) (t:=36) ?hr ?_;(case hd=>rfl);(case hg=>rfl);(case hr=>first|(go_simp;done)|(go_simp;rfl));intro gb101 hg w18 hbox hb;have n0_:=mA (bT (by repeat (first|(with_reducible first|exact HB.out|apply bA|apply bN|apply bD)|exact HB.out)) hb);have n1_:=mA (hbox);have n2_:=mA ((by rw [hg];exact (bZ (by repeat (first|(with_reducible first|exact HB.out|apply bA|apply bN|apply bD)|exact HB.out))):w.heap.size≤gb101));have n3_:=mA ((by rw [hg];exact (bZ (by repeat (first|(with_reducible first|exact HB.out|apply bA|apply bN|apply bD)|exact HB.out))):w.heap.size≤gb101));clear HB;have HB:=n0_;have BK101:=n1_;have GW101:=n2_;have GE101:=n3_;clear n0_ n1_ n2_ n3_ hb hbox hg)|((with_reducible refine gate_callee (f:=115) rfl ?_);refine goesL_ (some 6) rfl rfl Try.func115 (by kernel_rfl) rfl #[.int .i64 a0] rfl (by (try simp only [mT,mC,mN]);first|done|rfl|(simp only [lD,lT];rfl)) ?_;(with_reducible refine (impl_peopleOk.calls a0 true _ A3.out).mono ?_);rintro e w' ⟨rfl,⟨nd,rfl⟩⟩;refine ⟨_,rfl,?_⟩;have hcz19_0:w18.cell? ⟨gb101,0,none⟩=some (.int .i64 a1_0):=(kC BK101.out 0).trans rfl;have hcz19_1:w18.cell? ⟨gb101,1,none⟩=some (.slice A1_1 l1_1.length c1_1):=(kC BK101.out 1).trans rfl;have hfz19_0:=kF BK101.out 0;have hfz19_1:=kF BK101.out 1))
   go_ret
   exact ⟨by first|rfl|(simp [errW_none,errW_some]<;>rfl)|(simp [*, errW_none,errW_some]<;>rfl),by repeat (first|(with_reducible first|exact HB.out|apply bA|apply bN|apply bD|refine bS ?_ GE101.out)|exact HB.out)⟩
 ·replace c4:=Bool.eq_false_iff.mpr c4
  subst c4
  have H1:(some false)=some r:=by rw [if_neg (show ¬ (false=true) by decide)] at H;exact H
  clear H
  have H:=H1
  clear H1
  obtain rfl:=Option.some.inj H
  go_enter Try.func45,Try.ntmps45
  go_wp2_with (first|((with_reducible refine gate_dst (N:=3) rfl ?_);(try (refine gate_guard (by rfl) ?_;dsimp only));refine box_event ?hg (N:=3) ?hd (cs:=#[.int .i64 a1_0,.slice A1_1 l1_1.length c1_1]) (t:=36) ?hr ?_;(case hd=>rfl);(case hg=>rfl);(case hr=>first|(go_simp;done)|(go_simp;rfl));intro gb101 hg w20 hbox hb;have n0_:=mA (bT (by repeat (first|(with_reducible first|exact HB.out|apply bA|apply bN|apply bD)|exact HB.out)) hb);have n1_:=mA (hbox);have n2_:=mA ((by rw [hg];exact (bZ (by repeat (first|(with_reducible first|exact HB.out|apply bA|apply bN|apply bD)|exact HB.out))):w.heap.size≤gb101));have n3_:=mA ((by rw [hg];exact (bZ (by repeat (first|(with_reducible first|exact HB.out|apply bA|apply bN|apply bD)|exact HB.out))):w.heap.size≤gb101));clear HB;have HB:=n0_;have BK101:=n1_;have GW101:=n2_;have GE101:=n3_;clear n0_ n1_ n2_ n3_ hb hbox hg)|((with_reducible refine gate_callee (f:=115) rfl ?_);refine goesL_ (some 6) rfl rfl Try.func115 (by kernel_rfl) rfl #[.int .i64 a0] rfl (by (try simp only [mT,mC,mN]);first|done|rfl|(simp only [lD,lT];rfl)) ?_;(with_reducible refine (impl_peopleOk.calls a0 false _ A3.out).mono ?_);rintro e w' ⟨rfl,⟨nd,rfl⟩⟩;refine ⟨_,rfl,?_⟩))
  go_ret
  exact ⟨by first|rfl|(simp [errW_none,errW_some]<;>rfl)|(simp [*, errW_none,errW_some]<;>rfl),by repeat (first|(with_reducible first|exact HB.out|apply bA|apply bN|apply bD|refine bS ?_ GE101.out)|exact HB.out)⟩
/-! ### impl_StoryOk: function 61 -/
def impl_StoryOk.l0:Nat→Int→List (S36)→List (S36)→Int→Int→Option (Bool)
 | 0,_,_,_,_,_=>none
 | k+1,x0,x1,x7,x8,x9=>if x9<x8 then (if 0≤x9 then (if x9<(x7.length:Int) then ((impl_ClaimOk.f k x0 ((rd_T36 x7 x9).f0) ((rd_T36 x7 x9).f1)).bind fun t103=>(if t103=true then (impl_StoryOk.l0 k x0 x1 x7 x8 (wrap64 (x9+1))) else (some false))) else (none)) else (none)) else ((impl_peopleOk.f x0).bind fun t104=>(if t104=true then (some (decide ((x1.length:Int)≤6))) else (some false)))
def impl_StoryOk.f (k:Nat) (a0:Int) (l1:List (S36)):Option (Bool):=impl_StoryOk.l0 k a0 l1 l1 (l1.length:Int) 0
theorem impl_StoryOk.mono_l : ∀ k,(∀ y0 y1 y2 y3 y4,LeO (impl_StoryOk.l0 k y0 y1 y2 y3 y4) (impl_StoryOk.l0 (k+1) y0 y1 y2 y3 y4))
 | 0=>fun _ _ _ _ _ r h=>by simp [impl_StoryOk.l0] at h
 | k+1=>by
  have ih0:=impl_StoryOk.mono_l k
  ·intro y0 y1 y2 y3 y4
   unfold impl_StoryOk.l0
   repeat' first
   | (with_reducible exact ih0 _ _ _ _ _)
   | (with_reducible exact impl_ClaimOk.mono _ _ _ _)
   | (with_reducible exact LeO.refl _)
   | (with_reducible exact LeO.none _)
   | (with_reducible refine LeO.ite ?_ ?_)
   | (with_reducible refine LeO.bind ?_ (fun _=>?_))
   | exact ih0 _ _ _ _ _
   | exact impl_ClaimOk.mono _ _ _ _
   | exact LeO.none _
   | refine LeO.ite ?_ ?_
   | refine LeO.bind ?_ (fun _=>?_)
theorem impl_StoryOk.mono : ∀ a0 a1 k,LeO (impl_StoryOk.f k a0 a1) (impl_StoryOk.f (k+1) a0 a1):=by
 intro a0 a1 k
 have ih0:=impl_StoryOk.mono_l k
 unfold impl_StoryOk.f
 repeat' first
   | (with_reducible exact ih0 _ _ _ _ _)
   | (with_reducible exact impl_ClaimOk.mono _ _ _ _)
   | (with_reducible exact LeO.refl _)
   | (with_reducible exact LeO.none _)
   | (with_reducible refine LeO.ite ?_ ?_)
   | (with_reducible refine LeO.bind ?_ (fun _=>?_))
   | exact ih0 _ _ _ _ _
   | exact impl_ClaimOk.mono _ _ _ _
   | exact LeO.none _
   | refine LeO.ite ?_ ?_
   | refine LeO.bind ?_ (fun _=>?_)
set_option maxHeartbeats 8000000 in
set_option maxRecDepth 100000 in
theorem impl_StoryOk.calls (k:Nat) (a0:Int) (A1:Option Addr) (c1:Nat) (l1:List (S36)) (r:Bool) (w:World) (hr1:Kd.C k36 w A1 l1.length l1) (hc1:l1.length≤c1) (h:impl_StoryOk.f k a0 l1=some r) :
  Calls Try.prog 61 #[.int .i64 a0,.slice A1 l1.length c1] w fun e w'=>e = .returned (.bool r)∧Below w.heap.size w w':=by
 have hu36:=Try.underlying36
 have HR1:=mA hr1
 have HC1:=mA hc1
 clear hr1 hc1
 have HB:=mA (Below.refl w.heap.size w)
 have H:(impl_StoryOk.l0 k a0 l1 l1 (l1.length:Int) 0)=some r:=h
 clear h
 have H':=mA H
 clear H
 go_enter Try.func61,Try.ntmps61
 go_wp2
 go_loopg [9] k (fun kq v9 w'=>∃ (x9_1:Int),v9 = .int .i64 x9_1∧Aside0 (impl_StoryOk.l0 kq a0 l1 l1 (l1.length:Int) x9_1=some r)∧Aside0 (kq≤k)∧Aside0 (Below w.heap.size w w'))
 case atStart=>exact ⟨(0),(by first|rfl|(simp;done)|(simp [*];done)),H',⟨Nat.le_refl _⟩,⟨by repeat (first|(with_reducible first|exact HB.out|apply bA|apply bN|apply bD)|exact HB.out)⟩⟩
 case round =>
  clear H'
  try clear c1
  try clear p2
  obtain ⟨x9_1,rfl,HA,HK1,HB⟩:=hrel
  cases gk with
  | zero=>exact absurd HA.out (by simp [impl_StoryOk.l0])
  | succ k1 =>
   have H:=HA.out
   clear HA
   simp only [impl_StoryOk.l0] at H
   by_cases c3:x9_1<(l1.length:Int)
   ·rw [if_pos c3] at H
    have c3b0:decide (x9_1<(l1.length:Int))=true:=decide_eq_true c3
    clear c3
    by_cases c4:0≤x9_1
    ·rw [if_pos c4] at H
     have c4b0:decide (0≤x9_1)=true:=decide_eq_true c4
     clear c4
     by_cases c5:x9_1<(l1.length:Int)
     ·rw [if_pos c5] at H
      have c5b0:decide (x9_1<(l1.length:Int))=true:=decide_eq_true c5
      clear c5
      replace H:=Option.bind_eq_some_iff.mp H
      obtain ⟨t103,A60,H⟩:=H
      replace H:(if t103=true then (impl_StoryOk.l0 k1 a0 l1 l1 (l1.length:Int) (wrap64 (x9_1+1))) else (some false))=some r:=H
      have A6:=mA A60
      clear A60
      by_cases c7:t103=true
      ·subst c7
       have H1:(impl_StoryOk.l0 k1 a0 l1 l1 (l1.length:Int) (wrap64 (x9_1+1)))=some r:=by rw [if_pos rfl] at H;exact H
       clear H
       have H:=H1
       clear H1
       have H':=mA H
       clear H
       have p101:0≤(x9_1:Int):=of_decide_eq_true (by first|(with_reducible assumption)|assumption)
       have q101:x9_1<(l1.length:Int):=of_decide_eq_true (by first|(with_reducible assumption)|assumption)
       obtain ⟨ad101,A101_1,c101_1,e101,hx101_0,hx101_1,hl101_1,hi101_1⟩:=at_T36 HR1.out x9_1 p101 q101
       cases e101
       replace hx101_0:=(HB.out.cell (World.block_lt_of_cell? w _ hx101_0)).trans hx101_0
       replace hx101_1:=(HB.out.cell (World.block_lt_of_cell? w _ hx101_1)).trans hx101_1
       have HR101_1:=mA hi101_1
       have HC101_1:=mA hl101_1
       clear hi101_1 hl101_1
       replace p101:=eq_true p101
       replace q101:=eq_true q101
       go_wp2_with (first|((with_reducible refine gate_dst (N:=6) rfl ?_);(try (refine gate_guard (by rfl) ?_;dsimp only));refine box_event ?hg (N:=6) ?hd (cs:=#[.int .i64 0,.slice none 0 0]) (t:=36) ?hr ?_;(case hd=>rfl);(case hg=>rfl);(case hr=>first|(go_simp;done)|(go_simp;rfl));intro gb102 hg w8 hbox hb;have n0_:=mA (bT (by repeat (first|(with_reducible first|exact HB.out|apply bA|apply bN|apply bD)|exact HB.out)) hb);have n1_:=mA (hbox);have n2_:=mA ((by rw [hg];exact (bZ (by repeat (first|(with_reducible first|exact HB.out|apply bA|apply bN|apply bD)|exact HB.out))):w.heap.size≤gb102));have n3_:=mA ((by rw [hg];exact (bZ (by repeat (first|(with_reducible first|exact HB.out|apply bA|apply bN|apply bD)|exact HB.out))):w.heap.size≤gb102));clear HB;have HB:=n0_;have BK102:=n1_;have GW102:=n2_;have GE102:=n3_;clear n0_ n1_ n2_ n3_ hb hbox hg;have hcz9_0:w8.cell? ⟨gb102,0,none⟩=some (.int .i64 0):=(kC BK102.out 0).trans rfl;have hcz9_1:w8.cell? ⟨gb102,1,none⟩=some (.slice none 0 0):=(kC BK102.out 1).trans rfl;have hfz9_0:=kF BK102.out 0;have hfz9_1:=kF BK102.out 1)|((with_reducible refine gate_callee (f:=45) rfl ?_);refine goesL_ (some 15) rfl rfl Try.func45 (by kernel_rfl) rfl #[.int .i64 a0,.agg #[.int .i64 ((rd_T36 l1 x9_1).f0),.slice A101_1 ((rd_T36 l1 x9_1).f1).length c101_1]] rfl (by (try simp only [mT,mC,mN]);first|done|rfl|(simp only [lD,lT];rfl)) ?_;(with_reducible refine (impl_ClaimOk.calls k1 a0 ((rd_T36 l1 x9_1).f0) _ _ ((rd_T36 l1 x9_1).f1) true _ ?side1 ?side2 A6.out).mono ?_);(case side1=>exact Kd.C_below HR101_1.out (by repeat (first|(with_reducible first|exact HB.out|apply bA|apply bN|apply bD|refine bS ?_ GE102.out)|exact HB.out)));(case side2=>exact HC101_1.out);rintro e w10 ⟨rfl,hb⟩;refine ⟨_,rfl,?_⟩;have n0_:=mA (blk_below (g:=gb102) (o:=.cells #[.int .i64 ((rd_T36 l1 x9_1).f0),.slice A101_1 ((rd_T36 l1 x9_1).f1).length c101_1] 36 (0,0)) (by (with_reducible repeat (first|refine kN ?_ _|refine kD ?_|refine kA ?_ _));refine blk_put (cs:=#[.int .i64 ((rd_T36 l1 x9_1).f0),.slice none 0 0]) ?_ 1 _ rfl;(with_reducible repeat (first|refine kN ?_ _|refine kD ?_|refine kA ?_ _));refine blk_put (cs:=#[.int .i64 0,.slice none 0 0]) ?_ 0 _ rfl;(with_reducible repeat (first|refine kN ?_ _|refine kD ?_|refine kA ?_ _));exact BK102.out) hb);have n1_:=mA (bT (by repeat (first|(with_reducible first|exact HB.out|apply bA|apply bN|apply bD|refine bS ?_ GE102.out)|exact HB.out)) hb);clear BK102 HB;have BK102:=n0_;have HB:=n1_;clear n0_ n1_;(try clear hb);(try clear hb2);(try clear hk);(try clear hi)))
       go_roundg k1
       case measure=>have:=HK1.out;omega
       case rel=>exact ⟨(wrap64 (x9_1+1)),(by first|rfl|(simp;done)|(simp [*];done)),H',⟨by have:=HK1.out;omega⟩,⟨by repeat (first|(with_reducible first|exact HB.out|apply bA|apply bN|apply bD|refine bS ?_ GE102.out)|exact HB.out)⟩⟩
      ·replace c7:=Bool.eq_false_iff.mpr c7
       subst c7
       have H1:(some false)=some r:=by rw [if_neg (show ¬ (false=true) by decide)] at H;exact H
       clear H
       have H:=H1
       clear H1
       obtain rfl:=Option.some.inj H
       have p101:0≤(x9_1:Int):=of_decide_eq_true (by first|(with_reducible assumption)|assumption)
       have q101:x9_1<(l1.length:Int):=of_decide_eq_true (by first|(with_reducible assumption)|assumption)
       obtain ⟨ad101,A101_1,c101_1,e101,hx101_0,hx101_1,hl101_1,hi101_1⟩:=at_T36 HR1.out x9_1 p101 q101
       cases e101
       replace hx101_0:=(HB.out.cell (World.block_lt_of_cell? w _ hx101_0)).trans hx101_0
       replace hx101_1:=(HB.out.cell (World.block_lt_of_cell? w _ hx101_1)).trans hx101_1
       have HR101_1:=mA hi101_1
       have HC101_1:=mA hl101_1
       clear hi101_1 hl101_1
       replace p101:=eq_true p101
       replace q101:=eq_true q101
       go_wp2_with (first|((with_reducible refine gate_dst (N:=6) rfl ?_);(try (refine gate_guard (by rfl) ?_;dsimp only));refine box_event ?hg (N:=6) ?hd (cs:=#[.int .i64 0,.slice none 0 0]) (t:=36) ?hr ?_;(case hd=>rfl);(case hg=>rfl);(case hr=>first|(go_simp;done)|(go_simp;rfl));intro gb102 hg w11 hbox hb;have n0_:=mA (bT (by repeat (first|(with_reducible first|exact HB.out|apply bA|apply bN|apply bD)|exact HB.out)) hb);have n1_:=mA (hbox);have n2_:=mA ((by rw [hg];exact (bZ (by repeat (first|(with_reducible first|exact HB.out|apply bA|apply bN|apply bD)|exact HB.out))):w.heap.size≤gb102));have n3_:=mA ((by rw [hg];exact (bZ (by repeat (first|(with_reducible first|exact HB.out|apply bA|apply bN|apply bD)|exact HB.out))):w.heap.size≤gb102));clear HB;have HB:=n0_;have BK102:=n1_;have GW102:=n2_;have GE102:=n3_;clear n0_ n1_ n2_ n3_ hb hbox hg;have hcz12_0:w11.cell? ⟨gb102,0,none⟩=some (.int .i64 0):=(kC BK102.out 0).trans rfl;have hcz12_1:w11.cell? ⟨gb102,1,none⟩=some (.slice none 0 0):=(kC BK102.out 1).trans rfl;have hfz12_0:=kF BK102.out 0;have hfz12_1:=kF BK102.out 1)|((with_reducible refine gate_callee (f:=45) rfl ?_);refine goesL_ (some 15) rfl rfl Try.func45 (by kernel_rfl) rfl #[.int .i64 a0,.agg #[.int .i64 ((rd_T36 l1 x9_1).f0),.slice A101_1 ((rd_T36 l1 x9_1).f1).length c101_1]] rfl (by (try simp only [mT,mC,mN]);first|done|rfl|(simp only [lD,lT];rfl)) ?_;(with_reducible refine (impl_ClaimOk.calls k1 a0 ((rd_T36 l1 x9_1).f0) _ _ ((rd_T36 l1 x9_1).f1) false _ ?side1 ?side2 A6.out).mono ?_);(case side1=>exact Kd.C_below HR101_1.out (by repeat (first|(with_reducible first|exact HB.out|apply bA|apply bN|apply bD|refine bS ?_ GE102.out)|exact HB.out)));(case side2=>exact HC101_1.out);rintro e w13 ⟨rfl,hb⟩;refine ⟨_,rfl,?_⟩;have n0_:=mA (blk_below (g:=gb102) (o:=.cells #[.int .i64 ((rd_T36 l1 x9_1).f0),.slice A101_1 ((rd_T36 l1 x9_1).f1).length c101_1] 36 (0,0)) (by (with_reducible repeat (first|refine kN ?_ _|refine kD ?_|refine kA ?_ _));refine blk_put (cs:=#[.int .i64 ((rd_T36 l1 x9_1).f0),.slice none 0 0]) ?_ 1 _ rfl;(with_reducible repeat (first|refine kN ?_ _|refine kD ?_|refine kA ?_ _));refine blk_put (cs:=#[.int .i64 0,.slice none 0 0]) ?_ 0 _ rfl;(with_reducible repeat (first|refine kN ?_ _|refine kD ?_|refine kA ?_ _));exact BK102.out) hb);have n1_:=mA (bT (by repeat (first|(with_reducible first|exact HB.out|apply bA|apply bN|apply bD|refine bS ?_ GE102.out)|exact HB.out)) hb);clear BK102 HB;have BK102:=n0_;have HB:=n1_;clear n0_ n1_;(try clear hb);(try clear hb2);(try clear hk);(try clear hi)))
       go_ret
       exact ⟨by first|rfl|(simp [errW_none,errW_some]<;>rfl)|(simp [*, errW_none,errW_some]<;>rfl),by repeat (first|(with_reducible first|exact HB.out|apply bA|apply bN|apply bD|refine bS ?_ GE102.out)|exact HB.out)⟩
     ·rw [if_neg c5] at H
      exact absurd H (by simp)
    ·rw [if_neg c4] at H
     exact absurd H (by simp)
   ·rw [if_neg c3] at H
    have c3b0:decide (x9_1<(l1.length:Int))=false:=decide_eq_false c3
    clear c3
    replace H:=Option.bind_eq_some_iff.mp H
    obtain ⟨t104,A140,H⟩:=H
    replace H:(if t104=true then (some (decide ((l1.length:Int)≤6))) else (some false))=some r:=H
    have A14:=mA A140
    clear A140
    by_cases c15:t104=true
    ·subst c15
     have H1:(some (decide ((l1.length:Int)≤6)))=some r:=by rw [if_pos rfl] at H;exact H
     clear H
     have H:=H1
     clear H1
     obtain rfl:=Option.some.inj H
     go_wp2_with (first|((with_reducible refine gate_callee (f:=115) rfl ?_);refine goesL_ (some 19) rfl rfl Try.func115 (by kernel_rfl) rfl #[.int .i64 a0] rfl (by (try simp only [mT,mC,mN]);first|done|rfl|(simp only [lD,lT];rfl)) ?_;(with_reducible refine (impl_peopleOk.calls a0 true _ A14.out).mono ?_);rintro e w' ⟨rfl,⟨nd,rfl⟩⟩;refine ⟨_,rfl,?_⟩))
     go_ret
     exact ⟨by first|rfl|(simp [errW_none,errW_some]<;>rfl)|(simp [*, errW_none,errW_some]<;>rfl),by repeat (first|(with_reducible first|exact HB.out|apply bA|apply bN|apply bD)|exact HB.out)⟩
    ·replace c15:=Bool.eq_false_iff.mpr c15
     subst c15
     have H1:(some false)=some r:=by rw [if_neg (show ¬ (false=true) by decide)] at H;exact H
     clear H
     have H:=H1
     clear H1
     obtain rfl:=Option.some.inj H
     go_wp2_with (first|((with_reducible refine gate_callee (f:=115) rfl ?_);refine goesL_ (some 19) rfl rfl Try.func115 (by kernel_rfl) rfl #[.int .i64 a0] rfl (by (try simp only [mT,mC,mN]);first|done|rfl|(simp only [lD,lT];rfl)) ?_;(with_reducible refine (impl_peopleOk.calls a0 false _ A14.out).mono ?_);rintro e w' ⟨rfl,⟨nd,rfl⟩⟩;refine ⟨_,rfl,?_⟩))
     go_ret
     exact ⟨by first|rfl|(simp [errW_none,errW_some]<;>rfl)|(simp [*, errW_none,errW_some]<;>rfl),by repeat (first|(with_reducible first|exact HB.out|apply bA|apply bN|apply bD)|exact HB.out)⟩
/-! ### impl_maySay: function 105 -/
def impl_maySay.f (k:Nat) (a0_0:Int) (l0_1:List (S33)) (a1:Int):Option (Bool):=(impl_holds.f k l0_1 a1).bind fun t102=>(if 0≤a0_0 then (some (t102==((Go.bits .and .i64 (shr .i64 a1 a0_0) 1)==1))) else (none))
theorem impl_maySay.mono : ∀ a0 a1 a2 k,LeO (impl_maySay.f k a0 a1 a2) (impl_maySay.f (k+1) a0 a1 a2):=by
 intro a0 a1 a2 k
 unfold impl_maySay.f
 repeat' first
   | (with_reducible exact impl_holds.mono _ _ _)
   | (with_reducible exact LeO.refl _)
   | (with_reducible exact LeO.none _)
   | (with_reducible refine LeO.ite ?_ ?_)
   | (with_reducible refine LeO.bind ?_ (fun _=>?_))
   | exact impl_holds.mono _ _ _
   | exact LeO.none _
   | refine LeO.ite ?_ ?_
   | refine LeO.bind ?_ (fun _=>?_)
def impl_maySay.T1:Bool×List (List Nat×List Nat):=(true,[([],[]),([0],[0]),([],[]),([1,2],[1,2]),([],[]),([],[]),([5],[5]),([4,6],[4,6]),([7],[7]),([8],[8]),([3,9],[3,9]),([10,3,0,1,2,3,4,5,6,7,8,9,10],[10])])
def impl_maySay.B1:List Nat:=[0,1,0,7,0,0,32,112,240,496,1023,2047]
theorem impl_maySay.tab1:rtab .any (opsOf Try.f105 1)=impl_maySay.T1:=by kernel_rfl
theorem impl_maySay.bits1:waitsOk impl_maySay.T1.2 impl_maySay.B1=true:=by kernel_rfl
set_option maxHeartbeats 8000000 in
set_option maxRecDepth 100000 in
theorem impl_maySay.calls (k:Nat) (a0_0:Int) (A0_1:Option Addr) (c0_1:Nat) (l0_1:List (S33)) (a1:Int) (r:Bool) (w:World) (hr0_1:Kd.C k33 w A0_1 l0_1.length l0_1) (hc0_1:l0_1.length≤c0_1) (h:impl_maySay.f k a0_0 l0_1 a1=some r) :
  Calls Try.prog 105 #[.agg #[.int .i64 a0_0,.slice A0_1 l0_1.length c0_1],.int .i64 a1] w fun e w'=>e = .returned (.bool r)∧Below w.heap.size w w':=by
 have hu36:=Try.underlying36
 have HR0_1:=mA hr0_1
 have HC0_1:=mA hc0_1
 clear hr0_1 hc0_1
 have HB:=mA (Below.refl w.heap.size w)
 have H:((impl_holds.f k l0_1 a1).bind fun t102=>(if 0≤a0_0 then (some (t102==((Go.bits .and .i64 (shr .i64 a1 a0_0) 1)==1))) else (none)))=some r:=h
 clear h
 replace H:=Option.bind_eq_some_iff.mp H
 obtain ⟨t102,A30,H⟩:=H
 replace H:(if 0≤a0_0 then (some (t102==((Go.bits .and .i64 (shr .i64 a1 a0_0) 1)==1))) else (none))=some r:=H
 have A3:=mA A30
 clear A30
 by_cases c4:0≤a0_0
 ·rw [if_pos c4] at H
  have c4b0:=eq_true c4
  have c4b1:decide (0≤a0_0)=true:=decide_eq_true c4
  clear c4
  obtain ⟨ji5,hji5⟩ : ∃ j_:Int,(shr .i64 a1 a0_0)=j_:=⟨_,rfl⟩
  replace H:(some (t102==((Go.bits .and .i64 (ji5) 1)==1)))=some r:=by first|(rw [hji5] at H;exact H)|(simp only [hji5] at H ⊢;exact H)
  (try rw [hji5] at A3)
  have hji5_:(a1 / 2^min a0_0.toNat 64)=ji5:=hji5
  have hji5z:a0_0≤64→(a1 / 2^a0_0.toNat)=ji5:=shr_small hji5
  obtain rfl:=Option.some.inj H
  go_enter Try.func105,Try.ntmps105
  try go_wp2_with (first|((with_reducible refine gate_dst (N:=2) rfl ?_);refine box_event ?hg (N:=2) ?hd (cs:=#[.int .i64 a0_0,.slice A0_1 l0_1.length c0_1]) (t:=36) ?hr ?_;(case hd=>rfl);(case hg=>rfl);(case hr=>first|(go_simp;done)|(go_simp;rfl));intro gb101 hg w6 hbox hb;have n0_:=mA (bT (by repeat (first|(with_reducible first|exact HB.out|apply bA|apply bN|apply bD)|exact HB.out)) hb);have n1_:=mA (hbox);have n2_:=mA ((by rw [hg];exact (bZ (by repeat (first|(with_reducible first|exact HB.out|apply bA|apply bN|apply bD)|exact HB.out))):w.heap.size≤gb101));have n3_:=mA ((by rw [hg];exact (bZ (by repeat (first|(with_reducible first|exact HB.out|apply bA|apply bN|apply bD)|exact HB.out))):w.heap.size≤gb101));clear HB;have HB:=n0_;have BK101:=n1_;have GW101:=n2_;have GE101:=n3_;clear n0_ n1_ n2_ n3_ hb hbox hg))
  have n0_:=mA (kD BK101.out)
  have n1_:=mA (bD HB.out)
  clear BK101
  clear HB
  have BK101:=n0_
  have HB:=n1_
  clear n0_ n1_
  refine start_ (n:=12) (S:=fun w'=>w'.cell? ⟨gb101,0,none⟩=some (.int .i64 a0_0)∧w'.cell? ⟨gb101,1,none⟩=some (.slice A0_1 l0_1.length c0_1)) (ds:=[]) #[O,O,O,O,O,O,O,O,O,O,O,O] (by kernel_rfl) rfl rfl ⟨(kC BK101.out 0).trans rfl,(kC BK101.out 1).trans rfl⟩ (fun hHeld=>?_);refine with_tabW impl_maySay.tab1 impl_maySay.bits1 (fun HT_ HW_=>?_)
  generalize w6.drew=w7 at BK101 HB hHeld ⊢
  refine pure_ (i:=0) (N:=some 5) (v:=?_) (a':=?_) #[I,O,O,O,O,O,O,O,O,O,O,O] rfl rfl (any_of HT_.out (by kernel_rfl)) (fun _ _ _ h=>h) (Or.inl ⟨by rfl,?_⟩) ?_ ?_
  rotate_left
  ·intro w'
   go_simp
   with_reducible rfl
  rotate_left
  ·simp only [Act.put,sA,sZ,sS,i64_w,i32_w]
   rfl
  refine pure_ (i:=2) (N:=some 7) (v:=?_) (a':=?_) #[I,O,I,O,O,O,O,O,O,O,O,O] rfl rfl (any_of HT_.out (by kernel_rfl)) (fun _ _ _ h=>h) (Or.inl ⟨by rfl,?_⟩) ?_ ?_
  rotate_left
  ·intro w'
   go_simp
   with_reducible rfl
  rotate_left
  ·simp only [Act.put,sA,sZ,sS,i64_w,i32_w]
   rfl
  refine pure_ (i:=4) (N:=some 9) (v:=?_) (a':=?_) #[I,O,I,O,I,O,O,O,O,O,O,O] rfl rfl (any_of HT_.out (by kernel_rfl)) (fun _ _ _ h=>h) (Or.inl ⟨by rfl,?_⟩) ?_ ?_
  rotate_left
  ·intro w'
   go_simp
   with_reducible rfl
  rotate_left
  ·simp only [Act.put,sA,sZ,sS,i64_w,i32_w]
   rfl
  refine pure_ (i:=5) (N:=some 10) (v:=?_) (a':=?_) #[I,O,I,O,I,I,O,O,O,O,O,O] rfl rfl (any_of HT_.out (by kernel_rfl)) (fun _ _ _ h=>h) (Or.inl ⟨by rfl,?_⟩) ?_ ?_
  rotate_left
  ·intro w'
   go_simp
   with_reducible rfl
  rotate_left
  ·simp only [Act.put,sA,sZ,sS,i64_w,i32_w]
   rfl
  refine take_ (i:=1) (N:=some 6) (v:=?_) (a':=?_) #[I,I,I,O,I,I,O,O,O,O,O,O] rfl rfl (take_ofW HT_.out HW_.out (by kernel_rfl)) (fun _ _ _ h=>h) (Or.inl ⟨by rfl,?_⟩) hHeld ?_ ?_
  rotate_left
  ·rintro w' ⟨s0,s1⟩
   go_simp
   with_reducible rfl
  rotate_left
  ·simp only [Act.put,sA,sZ,sS,i64_w,i32_w]
   rfl
  refine take_ (i:=6) (N:=some 11) (v:=?_) (a':=?_) #[I,I,I,O,I,I,I,O,O,O,O,O] rfl rfl (take_ofW HT_.out HW_.out (by kernel_rfl)) (fun _ _ _ h=>h) (Or.inl ⟨by rfl,?_⟩) hHeld ?_ ?_
  rotate_left
  ·rintro w' ⟨s0,s1⟩
   go_simp
   with_reducible rfl
  rotate_left
  ·simp only [Act.put,sA,sZ,sS,i64_w,i32_w]
   rfl
  refine pure_ (i:=7) (N:=some 12) (v:=?_) (a':=?_) #[I,I,I,O,I,I,I,I,O,O,O,O] rfl rfl (any_of HT_.out (by kernel_rfl)) (fun _ _ _ h=>h) (Or.inl ⟨by rfl,?_⟩) ?_ ?_
  rotate_left
  ·intro w'
   go_simp
   with_reducible rfl
  rotate_left
  ·simp only [Act.put,sA,sZ,sS,i64_w,i32_w]
   rfl
  refine pure_ (i:=8) (N:=some 13) (v:=?_) (a':=?_) #[I,I,I,O,I,I,I,I,I,O,O,O] rfl rfl (any_of HT_.out (by kernel_rfl)) (fun _ _ _ h=>h) (Or.inl ⟨by rfl,?_⟩) ?_ ?_
  rotate_left
  ·intro w'
   go_simp
   with_reducible rfl
  rotate_left
  ·simp only [Act.put,sA,sZ,sS,i64_w,i32_w]
   rfl
  refine pure_ (i:=9) (N:=some 14) (v:=?_) (a':=?_) #[I,I,I,O,I,I,I,I,I,I,O,O] rfl rfl (any_of HT_.out (by kernel_rfl)) (fun _ _ _ h=>h) (Or.inl ⟨by rfl,?_⟩) ?_ ?_
  rotate_left
  ·intro w'
   go_simp
   with_reducible rfl
  rotate_left
  ·simp only [Act.put,sA,sZ,sS,i64_w,i32_w]
   rfl
  refine one_ (i:=3) (N:=some 8) #[I,I,I,I,I,I,I,I,I,I,O,O] rfl rfl (one_of HT_.out (by kernel_rfl)) (by decide) (fun K hK=>?_)
  refine goes_ Try.func119 (by kernel_rfl) rfl #[.slice A0_1 l0_1.length c0_1,.int .i64 a1] (by rfl) rfl rfl (by (try simp only [mT,mC,mN]);first|done|rfl|(simp only [lD,lT];rfl)) ?_
  with_reducible refine (impl_holds.calls k _ _ l0_1 a1 t102 _ ?side1 ?side2 A3.out).mono ?_
  (case side1=>repeat (first|exact (Kd.C_below HR0_1.out HB.out)|(with_reducible refine cA ?_ _)|(with_reducible refine cN ?_ _)|(with_reducible refine cD ?_)))
  (case side2=>exact HC0_1.out)
  rintro e w8 ⟨rfl,hb⟩
  refine ⟨_,rfl,?_⟩
  have n0_:=mA (blk_below (g:=gb101) (o:=.cells #[.int .i64 a0_0,.slice A0_1 l0_1.length c0_1] 36 (0,0)) (by (with_reducible repeat (first|refine kN ?_ _|refine kD ?_|refine kA ?_ _));exact BK101.out) hb)
  have n1_:=mA (bT (by repeat (first|(with_reducible first|exact HB.out|apply bA|apply bN|apply bD|refine bS ?_ GE101.out)|exact HB.out)) hb)
  clear BK101
  clear HB
  have BK101:=n0_
  have HB:=n1_
  clear n0_ n1_
  (try clear hb)
  (try clear hb2)
  (try clear hk)
  (try clear hi)
  refine hK.out _ _ ⟨(kC BK101.out 0).trans rfl,(kC BK101.out 1).trans rfl⟩ (fun hHeld=>?_)
  clear hK K
  refine norm_ (a':=?_) ?_ ?_
  rotate_left
  ·show Act.put _ (some 8) _=_
   simp only [Act.put,sA,sZ,sS,i64_w,i32_w]
   rfl
  refine pure_ (i:=10) (N:=some 15) (v:=?_) (a':=?_) #[I,I,I,I,I,I,I,I,I,I,I,O] rfl rfl (any_of HT_.out (by kernel_rfl)) (fun _ _ _ h=>h) (Or.inl ⟨by rfl,?_⟩) ?_ ?_
  rotate_left
  ·intro w'
   go_simp
   with_reducible rfl
  rotate_left
  ·simp only [Act.put,sA,sZ,sS,i64_w,i32_w]
   rfl
  refine pure_ (i:=11) (N:=some 4) (v:=?_) (a':=?_) #[I,I,I,I,I,I,I,I,I,I,I,I] rfl rfl (any_of HT_.out (by kernel_rfl)) (fun _ _ _ h=>h) (Or.inl ⟨by rfl,?_⟩) ?_ ?_
  rotate_left
  ·intro w'
   go_simp
   with_reducible rfl
  rotate_left
  ·simp only [Act.put,sA,sZ,sS,i64_w,i32_w]
   rfl
  refine done_ (done_of HT_.out (by kernel_rfl)) ?_
  try go_wp2
  go_ret
  exact ⟨by first|rfl|(simp [errW_none,errW_some]<;>rfl)|(simp only [←hji5];first|rfl|(simp [errW_none,errW_some]<;>rfl))|(simp [*, errW_none,errW_some]<;>rfl),by repeat (first|(with_reducible first|exact HB.out|apply bA|apply bN|apply bD|refine bS ?_ GE101.out)|exact HB.out)⟩
 ·rw [if_neg c4] at H
  exact absurd H (by simp)
end Go.Proofs.Ytpampekijfjlkab.X
