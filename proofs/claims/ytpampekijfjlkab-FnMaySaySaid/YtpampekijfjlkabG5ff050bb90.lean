/- Joined by a program of this session's: XO, X28, X30, X31, X5, X54, X55, X11, X17. -/
import Derived.Test.YtpampekijfjlkabRows
import Derived.KernelRfl
import Derived.Test.YtpampekijfjlkabG44e43c9cff
import Derived.Test.YtpampekijfjlkabGa182fd2e43
import Derived.Test.YtpampekijfjlkabGec7189ddfd
import Derived.Test.YtpampekijfjlkabG884ba293af
import Derived.Test.YtpampekijfjlkabG088fa9cd7c

/- The program's own row of starts, word by word. -/
namespace Go.Proofs.Ytpampekijfjlkab.X
open Go
set_option maxRecDepth 100000
set_option linter.unusedSimpArgs false
theorem words_step : ∀ (w r:List Char),w.all (fun c=>c != ' ')=true→wordsSigns (w ++ ' ' :: r)=w :: wordsSigns r
 | [],r,_=>by simp [wordsSigns]
 | c :: w,r,h=>by
  simp only [List.all_cons,Bool.and_eq_true,bne_iff_ne,ne_eq] at h
  have ih:=words_step w r h.2
  have h1:=h.1
  rw [List.cons_append,wordsSigns,ih]
  ·intro e;exact h1 e
theorem words_last : ∀ (w:List Char),w.all (fun c=>c != ' ')=true→wordsSigns w=[w]
 | [],_=>by simp [wordsSigns]
 | c :: w,h=>by
  simp only [List.all_cons,Bool.and_eq_true,bne_iff_ne,ne_eq] at h
  have ih:=words_last w h.2
  have h1:=h.1
  rw [wordsSigns,ih]
  ·intro e;exact h1 e
def ow0:List Char:=['h', 'a', 'r', 'n', 'e', 's', 's']
def ow1:List Char:=['8', '9', 'f', 'b', 'f', '7', '5', '9', '6', '6', '0', 'e', '1', '7', '1', '5', '0', 'c', '1', 'e', '0', '5', 'e', '8', 'd', '7', '3', 'b', 'e', 'e', 'e', '7', '2', 'b', 'c', 'b', 'd', 'f', 'e', 'd', '4', '4', 'a', 'a', '8', 'c', '8', 'f', '6', '0', '6', '1', '9', '2', 'c', 'c', '8', '7', '1', '1', '2', 'c', '7', 'f']
def ow2:List Char:=['c', 'u', 't']
def ow3:List Char:=['a', 't']
def ow4:List Char:=['l', 'o', 'o', 'p', '.', 'e', 'x', 'a', 'm', 'p', 'l', 'e', '/', 't', 'e', 'l', 'l', 'e', 'r', 's', 'a', 'n', 'd', 'l', 'i', 'a', 'r', 's', '/', 'l', 'a', 'w', 's', '.', 'F', 'n', 'K', 'n', 'o', 'w', 'n', 'F', 'o', 'l', 'l', 'o', 'w', 's']
def ow5:List Char:=['l', 'o', 'o', 'p', '.', 'e', 'x', 'a', 'm', 'p', 'l', 'e', '/', 't', 'e', 'l', 'l', 'e', 'r', 's', 'a', 'n', 'd', 'l', 'i', 'a', 'r', 's', '/', 'l', 'a', 'w', 's', '.', 'F', 'n', 'E', 'x', 'a', 'c', 't', 'S', 'p', 'y', 'S', 'a', 'y', 's']
def ow6:List Char:=['l', 'o', 'o', 'p', '.', 'e', 'x', 'a', 'm', 'p', 'l', 'e', '/', 't', 'e', 'l', 'l', 'e', 'r', 's', 'a', 'n', 'd', 'l', 'i', 'a', 'r', 's', '/', 'l', 'a', 'w', 's', '.', 'F', 'n', 'M', 'a', 'y', 'S', 'a', 'y']
def ow7:List Char:=['l', 'o', 'o', 'p', '.', 'e', 'x', 'a', 'm', 'p', 'l', 'e', '/', 't', 'e', 'l', 'l', 'e', 'r', 's', 'a', 'n', 'd', 'l', 'i', 'a', 'r', 's', '/', 'l', 'a', 'w', 's', '.', 'F', 'n', 'S', 'a', 'y', 'C', 'o', 'u', 'n', 't']
def ow8:List Char:=['l', 'o', 'o', 'p', '.', 'e', 'x', 'a', 'm', 'p', 'l', 'e', '/', 't', 'e', 'l', 'l', 'e', 'r', 's', 'a', 'n', 'd', 'l', 'i', 'a', 'r', 's', '/', 'l', 'a', 'w', 's', '.', 'F', 'n', 'C', 'l', 'a', 'i', 'm', 'T', 'a', 'b', 'l', 'e']
def ow9:List Char:=['l', 'o', 'o', 'p', '.', 'e', 'x', 'a', 'm', 'p', 'l', 'e', '/', 't', 'e', 'l', 'l', 'e', 'r', 's', 'a', 'n', 'd', 'l', 'i', 'a', 'r', 's', '/', 'l', 'a', 'w', 's', '.', 'F', 'n', 'W', 'o', 'r', 'd', 'T', 'a', 'b', 'l', 'e']
def ow10:List Char:=['l', 'o', 'o', 'p', '.', 'e', 'x', 'a', 'm', 'p', 'l', 'e', '/', 't', 'e', 'l', 'l', 'e', 'r', 's', 'a', 'n', 'd', 'l', 'i', 'a', 'r', 's', '/', 'l', 'a', 'w', 's', '.', 'F', 'n', 'S', 't', 'o', 'r', 'y', 'T', 'a', 'b', 'l', 'e']
def ow11:List Char:=['l', 'o', 'o', 'p', '.', 'e', 'x', 'a', 'm', 'p', 'l', 'e', '/', 't', 'e', 'l', 'l', 'e', 'r', 's', 'a', 'n', 'd', 'l', 'i', 'a', 'r', 's', '/', 'l', 'a', 'w', 's', '.', 'F', 'n', 'C', 'l', 'a', 's', 'h', 'O', 'k']
def ow12:List Char:=['l', 'o', 'o', 'p', '.', 'e', 'x', 'a', 'm', 'p', 'l', 'e', '/', 't', 'e', 'l', 'l', 'e', 'r', 's', 'a', 'n', 'd', 'l', 'i', 'a', 'r', 's', '/', 'l', 'a', 'w', 's', '.', 'F', 'n', 'A', 'l', 'i', 'k', 'e', 'O', 'k']
def ow13:List Char:=['l', 'o', 'o', 'p', '.', 'e', 'x', 'a', 'm', 'p', 'l', 'e', '/', 't', 'e', 'l', 'l', 'e', 'r', 's', 'a', 'n', 'd', 'l', 'i', 'a', 'r', 's', '/', 'l', 'a', 'w', 's', '.', 'F', 'n', 'E', 'x', 'a', 'c', 't', 'S', 't', 'o', 'r', 'y', 'T', 'a', 'b', 'l', 'e']
def ow14:List Char:=['l', 'o', 'o', 'p', '.', 'e', 'x', 'a', 'm', 'p', 'l', 'e', '/', 't', 'e', 'l', 'l', 'e', 'r', 's', 'a', 'n', 'd', 'l', 'i', 'a', 'r', 's', '/', 'l', 'a', 'w', 's', '.', 'F', 'n', 'E', 'x', 'a', 'c', 't', 'C', 'l', 'a', 's', 'h', 'O', 'k']
def ow15:List Char:=['l', 'o', 'o', 'p', '.', 'e', 'x', 'a', 'm', 'p', 'l', 'e', '/', 't', 'e', 'l', 'l', 'e', 'r', 's', 'a', 'n', 'd', 'l', 'i', 'a', 'r', 's', '/', 'l', 'a', 'w', 's', '.', 'F', 'n', 'A', 'l', 'w', 'a', 'y', 's', 'S', 'a', 'i', 'd']
def ow16:List Char:=['l', 'o', 'o', 'p', '.', 'e', 'x', 'a', 'm', 'p', 'l', 'e', '/', 't', 'e', 'l', 'l', 'e', 'r', 's', 'a', 'n', 'd', 'l', 'i', 'a', 'r', 's', '/', 'l', 'a', 'w', 's', '.', 'F', 'n', 'N', 'e', 'v', 'e', 'r', 'S', 'a', 'i', 'd']
def ow17:List Char:=['l', 'o', 'o', 'p', '.', 'e', 'x', 'a', 'm', 'p', 'l', 'e', '/', 't', 'e', 'l', 'l', 'e', 'r', 's', 'a', 'n', 'd', 'l', 'i', 'a', 'r', 's', '/', 'l', 'a', 'w', 's', '.', 'F', 'n', 'S', 'p', 'y', 'S', 'a', 'y', 's']
def ow18:List Char:=['l', 'o', 'o', 'p', '.', 'e', 'x', 'a', 'm', 'p', 'l', 'e', '/', 't', 'e', 'l', 'l', 'e', 'r', 's', 'a', 'n', 'd', 'l', 'i', 'a', 'r', 's', '/', 'l', 'a', 'w', 's', '.', 'F', 'n', 'E', 'x', 'a', 'c', 't', 'O', 'n', 'l', 'y', 'W', 'o', 'r', 'l', 'd']
def ow19:List Char:=['l', 'o', 'o', 'p', '.', 'e', 'x', 'a', 'm', 'p', 'l', 'e', '/', 't', 'e', 'l', 'l', 'e', 'r', 's', 'a', 'n', 'd', 'l', 'i', 'a', 'r', 's', '/', 'l', 'a', 'w', 's', '.', 'F', 'n', 'N', 'e', 'e', 'd', 'l', 'e', 's', 's', 'C', 'l', 'a', 'i', 'm', 's']
def ow20:List Char:=['l', 'o', 'o', 'p', '.', 'e', 'x', 'a', 'm', 'p', 'l', 'e', '/', 't', 'e', 'l', 'l', 'e', 'r', 's', 'a', 'n', 'd', 'l', 'i', 'a', 'r', 's', '/', 'l', 'a', 'w', 's', '.', 'F', 'n', 'O', 'n', 'l', 'y', 'W', 'o', 'r', 'l', 'd']
def ow21:List Char:=['l', 'o', 'o', 'p', '.', 'e', 'x', 'a', 'm', 'p', 'l', 'e', '/', 't', 'e', 'l', 'l', 'e', 'r', 's', 'a', 'n', 'd', 'l', 'i', 'a', 'r', 's', '/', 'l', 'a', 'w', 's', '.', 'F', 'n', 'E', 'x', 'a', 'c', 't', 'N', 'e', 'e', 'd', 'l', 'e', 's', 's', 'C', 'l', 'a', 'i', 'm', 's']
def ow22:List Char:=['l', 'o', 'o', 'p', '.', 'e', 'x', 'a', 'm', 'p', 'l', 'e', '/', 't', 'e', 'l', 'l', 'e', 'r', 's', 'a', 'n', 'd', 'l', 'i', 'a', 'r', 's', '/', 'l', 'a', 'w', 's', '.', 'F', 'n', 'K', 'n', 'o', 'w', 'n', 'P', 'e', 'o', 'p', 'l', 'e']
theorem lit_:Try.pinned.checked.prog.initOrder=String.ofList (ow0 ++ ' ' :: (ow1 ++ ' ' :: (ow2 ++ ' ' :: (ow3 ++ ' ' :: (ow4 ++ ' ' :: (ow5 ++ ' ' :: (ow6 ++ ' ' :: (ow7 ++ ' ' :: (ow8 ++ ' ' :: (ow9 ++ ' ' :: (ow10 ++ ' ' :: (ow11 ++ ' ' :: (ow12 ++ ' ' :: (ow13 ++ ' ' :: (ow14 ++ ' ' :: (ow15 ++ ' ' :: (ow16 ++ ' ' :: (ow17 ++ ' ' :: (ow18 ++ ' ' :: (ow19 ++ ' ' :: (ow20 ++ ' ' :: (ow21 ++ ' ' :: (ow22))))))))))))))))))))))):=by kernel_rfl
theorem order_:Try.pinned.checked.prog.initOrder.toList=ow0 ++ ' ' :: (ow1 ++ ' ' :: (ow2 ++ ' ' :: (ow3 ++ ' ' :: (ow4 ++ ' ' :: (ow5 ++ ' ' :: (ow6 ++ ' ' :: (ow7 ++ ' ' :: (ow8 ++ ' ' :: (ow9 ++ ' ' :: (ow10 ++ ' ' :: (ow11 ++ ' ' :: (ow12 ++ ' ' :: (ow13 ++ ' ' :: (ow14 ++ ' ' :: (ow15 ++ ' ' :: (ow16 ++ ' ' :: (ow17 ++ ' ' :: (ow18 ++ ' ' :: (ow19 ++ ' ' :: (ow20 ++ ' ' :: (ow21 ++ ' ' :: (ow22)))))))))))))))))))))):=by rw [lit_];exact String.toList_ofList
theorem words_:wordsSigns Try.pinned.checked.prog.initOrder.toList=[ow0,ow1,ow2,ow3,ow4,ow5,ow6,ow7,ow8,ow9,ow10,ow11,ow12,ow13,ow14,ow15,ow16,ow17,ow18,ow19,ow20,ow21,ow22]:=by
 rw [order_,words_step _ _ (by kernel_rfl),words_step _ _ (by kernel_rfl),words_step _ _ (by kernel_rfl),words_step _ _ (by kernel_rfl),words_step _ _ (by kernel_rfl),words_step _ _ (by kernel_rfl),words_step _ _ (by kernel_rfl),words_step _ _ (by kernel_rfl),words_step _ _ (by kernel_rfl),words_step _ _ (by kernel_rfl),words_step _ _ (by kernel_rfl),words_step _ _ (by kernel_rfl),words_step _ _ (by kernel_rfl),words_step _ _ (by kernel_rfl),words_step _ _ (by kernel_rfl),words_step _ _ (by kernel_rfl),words_step _ _ (by kernel_rfl),words_step _ _ (by kernel_rfl),words_step _ _ (by kernel_rfl),words_step _ _ (by kernel_rfl),words_step _ _ (by kernel_rfl),words_step _ _ (by kernel_rfl),words_last _ (by kernel_rfl)]
theorem behind_:behindMainWord (wordsSigns Try.pinned.checked.prog.initOrder.toList)=['c', 'u', 't'] :: [ow3,ow4,ow5,ow6,ow7,ow8,ow9,ow10,ow11,ow12,ow13,ow14,ow15,ow16,ow17,ow18,ow19,ow20,ow21,ow22]:=by
 rw [words_]
 kernel_rfl
theorem lw0 : "finals".toList = ['f', 'i', 'n', 'a', 'l', 's'] := (show (String.ofList ['f', 'i', 'n', 'a', 'l', 's']).toList = ['f', 'i', 'n', 'a', 'l', 's'] from String.toList_ofList)
theorem lw1 : "reflectrows".toList = ['r', 'e', 'f', 'l', 'e', 'c', 't', 'r', 'o', 'w', 's'] := (show (String.ofList ['r', 'e', 'f', 'l', 'e', 'c', 't', 'r', 'o', 'w', 's']).toList = ['r', 'e', 'f', 'l', 'e', 'c', 't', 'r', 'o', 'w', 's'] from String.toList_ofList)
theorem lw2 : "leanrows".toList = ['l', 'e', 'a', 'n', 'r', 'o', 'w', 's'] := (show (String.ofList ['l', 'e', 'a', 'n', 'r', 'o', 'w', 's']).toList = ['l', 'e', 'a', 'n', 'r', 'o', 'w', 's'] from String.toList_ofList)
theorem lw3 : "onebuild".toList = ['o', 'n', 'e', 'b', 'u', 'i', 'l', 'd'] := (show (String.ofList ['o', 'n', 'e', 'b', 'u', 'i', 'l', 'd']).toList = ['o', 'n', 'e', 'b', 'u', 'i', 'l', 'd'] from String.toList_ofList)
theorem lw4 : "publicsums".toList = ['p', 'u', 'b', 'l', 'i', 'c', 's', 'u', 'm', 's'] := (show (String.ofList ['p', 'u', 'b', 'l', 'i', 'c', 's', 'u', 'm', 's']).toList = ['p', 'u', 'b', 'l', 'i', 'c', 's', 'u', 'm', 's'] from String.toList_ofList)
theorem lw5 : "eqguard".toList = ['e', 'q', 'g', 'u', 'a', 'r', 'd'] := (show (String.ofList ['e', 'q', 'g', 'u', 'a', 'r', 'd']).toList = ['e', 'q', 'g', 'u', 'a', 'r', 'd'] from String.toList_ofList)
theorem lw6 : "ownunsafe".toList = ['o', 'w', 'n', 'u', 'n', 's', 'a', 'f', 'e'] := (show (String.ofList ['o', 'w', 'n', 'u', 'n', 's', 'a', 'f', 'e']).toList = ['o', 'w', 'n', 'u', 'n', 's', 'a', 'f', 'e'] from String.toList_ofList)
theorem lw7 : "libbeside".toList = ['l', 'i', 'b', 'b', 'e', 's', 'i', 'd', 'e'] := (show (String.ofList ['l', 'i', 'b', 'b', 'e', 's', 'i', 'd', 'e']).toList = ['l', 'i', 'b', 'b', 'e', 's', 'i', 'd', 'e'] from String.toList_ofList)
theorem lw8 : "ownbeside".toList = ['o', 'w', 'n', 'b', 'e', 's', 'i', 'd', 'e'] := (show (String.ofList ['o', 'w', 'n', 'b', 'e', 's', 'i', 'd', 'e']).toList = ['o', 'w', 'n', 'b', 'e', 's', 'i', 'd', 'e'] from String.toList_ofList)
theorem lw9 : "reflbeside".toList = ['r', 'e', 'f', 'l', 'b', 'e', 's', 'i', 'd', 'e'] := (show (String.ofList ['r', 'e', 'f', 'l', 'b', 'e', 's', 'i', 'd', 'e']).toList = ['r', 'e', 'f', 'l', 'b', 'e', 's', 'i', 'd', 'e'] from String.toList_ofList)
theorem lw10 : "aliases".toList = ['a', 'l', 'i', 'a', 's', 'e', 's'] := (show (String.ofList ['a', 'l', 'i', 'a', 's', 'e', 's']).toList = ['a', 'l', 'i', 'a', 's', 'e', 's'] from String.toList_ofList)
theorem lw11 : "afterinit".toList = ['a', 'f', 't', 'e', 'r', 'i', 'n', 'i', 't'] := (show (String.ofList ['a', 'f', 't', 'e', 'r', 'i', 'n', 'i', 't']).toList = ['a', 'f', 't', 'e', 'r', 'i', 'n', 'i', 't'] from String.toList_ofList)
theorem lw12 : "crcplain".toList = ['c', 'r', 'c', 'p', 'l', 'a', 'i', 'n'] := (show (String.ofList ['c', 'r', 'c', 'p', 'l', 'a', 'i', 'n']).toList = ['c', 'r', 'c', 'p', 'l', 'a', 'i', 'n'] from String.toList_ofList)
theorem lw13 : "roadunsafe".toList = ['r', 'o', 'a', 'd', 'u', 'n', 's', 'a', 'f', 'e'] := (show (String.ofList ['r', 'o', 'a', 'd', 'u', 'n', 's', 'a', 'f', 'e']).toList = ['r', 'o', 'a', 'd', 'u', 'n', 's', 'a', 'f', 'e'] from String.toList_ofList)
theorem lw14 : "fmthandon".toList = ['f', 'm', 't', 'h', 'a', 'n', 'd', 'o', 'n'] := (show (String.ofList ['f', 'm', 't', 'h', 'a', 'n', 'd', 'o', 'n']).toList = ['f', 'm', 't', 'h', 'a', 'n', 'd', 'o', 'n'] from String.toList_ofList)
theorem lw15 : "gc".toList = ['g', 'c'] := (show (String.ofList ['g', 'c']).toList = ['g', 'c'] from String.toList_ofList)
theorem lw16 : "spec".toList = ['s', 'p', 'e', 'c'] := (show (String.ofList ['s', 'p', 'e', 'c']).toList = ['s', 'p', 'e', 'c'] from String.toList_ofList)
theorem lw17 : "stop".toList = ['s', 't', 'o', 'p'] := (show (String.ofList ['s', 't', 'o', 'p']).toList = ['s', 't', 'o', 'p'] from String.toList_ofList)
theorem lw18 : "carried".toList = ['c', 'a', 'r', 'r', 'i', 'e', 'd'] := (show (String.ofList ['c', 'a', 'r', 'r', 'i', 'e', 'd']).toList = ['c', 'a', 'r', 'r', 'i', 'e', 'd'] from String.toList_ofList)
theorem lw19 : "cut".toList = ['c', 'u', 't'] := (show (String.ofList ['c', 'u', 't']).toList = ['c', 'u', 't'] from String.toList_ofList)
theorem strip_ (r:List (List Char)):stripLifts liftWords (['c', 'u', 't'] :: r)=([],['c', 'u', 't'] :: r):=by
 unfold liftWords
 simp [stripLifts,lw0,lw1,lw2,lw3,lw4,lw5,lw6,lw7,lw8,lw9,lw10,lw11,lw12,lw13,lw14,lw15,lw16,lw17,lw18,lw19]
theorem may_of {P:Program} {r:List (List Char)} (hb:behindMainWord (wordsSigns P.initOrder.toList)=['c', 'u', 't'] :: r) (h1:P.laysLater=false) (h2:P.bearsReflect=false) (h3:P.doorRows=[]):P.mayEnter=true:=by
 unfold Program.mayEnter
 rw [hb]
 simp [strip_,lw0,lw1,lw2,lw3,lw4,lw5,lw6,lw7,lw8,lw9,lw10,lw11,lw12,lw13,lw14,lw15,lw16,lw17,lw18,lw19,Program.doorFits,h1,h2,h3]
theorem fin_of {P:Program} {r:List (List Char)} (hb:behindMainWord (wordsSigns P.initOrder.toList)=['c', 'u', 't'] :: r):P.liftsFinal=false:=by
 unfold Program.liftsFinal Program.headLifts
 rw [hb]
 simp [strip_,lw0,lw1,lw2,lw3,lw4,lw5,lw6,lw7,lw8,lw9,lw10,lw11,lw12,lw13,lw14,lw15,lw16,lw17,lw18,lw19]
theorem make_of {P:Program} {r:List (List Char)} (hb:behindMainWord (wordsSigns P.initOrder.toList)=['c', 'u', 't'] :: r):P.make=some .cut:=by
 unfold Program.make
 rw [hb]
 simp [lw0,lw1,lw2,lw3,lw4,lw5,lw6,lw7,lw8,lw9,lw10,lw11,lw12,lw13,lw14,lw15,lw16,lw17,lw18,lw19]
theorem lays_:Try.pinned.checked.prog.laysLater=false:=by kernel_rfl
theorem refl_:Try.pinned.checked.prog.bearsReflect=false:=by kernel_rfl
theorem door_:Try.pinned.checked.prog.doorRows=[]:=by kernel_rfl
theorem may_:Try.pinned.checked.prog.mayEnter=true:=may_of behind_ lays_ refl_ door_
theorem make_:Try.pinned.checked.prog.make=some .cut:=make_of behind_
theorem fin_:Try.pinned.checked.prog.liftsFinal=false:=fin_of behind_
end Go.Proofs.Ytpampekijfjlkab.X
namespace Go.Proofs.Ytpampekijfjlkab.X
open Go.RowKit Go.Proofs.YtpampekijfjlkabW.PrintWords Go.Proofs.YtpampekijfjlkabW.PrintLast Go.Proofs.YtpampekijfjlkabW.PrintMore
open Go.Proofs.YtpampekijfjlkabW.PrintWords renaming Aside0.mk → mA, pw_below_drewN → bN, below_drew1 → bD, below_alloc → bA, below_set → bS, blk_alloc → kA, blk_drewN → kN, blk_drew → kD, blk_cell → kC, blk_frozen → kF, below_size → bZ, below_step → bT, Kd.R_alloc → rA, Kd.R_drewN → rN, Kd.R_drew → rD, Kd.R_mono → rM, Kd.R_reads' → rR, Kd.R_far → rF, Kd.R_below → rB, KeepBut.set_ → eS, keep_drewN → eN, keep_alloc → eA, keep_drew → eD, Kd.C_alloc → cA, Kd.C_drewN → cN, Kd.C_drew → cD
open List renaming setIfInBounds_toArray → sA, set_cons_zero → sZ, set_cons_succ → sS, length_take → lT, length_drop → lD, map_toArray → mT, map_cons → mC, map_nil → mN
open Bool renaming true → I, false → O
attribute [local go_sem] max2_int min2_int max_two min_two max_three min_three max_four min_four   -- for this text's walks alone
set_option linter.unusedVariables false
set_option linter.unusedSimpArgs false
/-! ### spec_ClaimOk: function 37 -/
def spec_ClaimOk.f (k:Nat) (a0:Int) (a1_0:Int) (l1_1:List (S33)):Option (Bool):=if a1_0≥0 then (if a1_0<a0 then ((spec_TermOk.f k a0 l1_1).bind fun t102=>(if t102=true then (some (decide ((l1_1.length:Int)≤13))) else (some false))) else (some false)) else (some false)
theorem spec_ClaimOk.mono : ∀ a0 a1 a2 k,LeO (spec_ClaimOk.f k a0 a1 a2) (spec_ClaimOk.f (k+1) a0 a1 a2):=by
 intro a0 a1 a2 k
 unfold spec_ClaimOk.f
 repeat' first
   | (with_reducible exact spec_TermOk.mono _ _ _)
   | (with_reducible exact LeO.refl _)
   | (with_reducible exact LeO.none _)
   | (with_reducible refine LeO.ite ?_ ?_)
   | (with_reducible refine LeO.bind ?_ (fun _=>?_))
   | exact spec_TermOk.mono _ _ _
   | exact LeO.none _
   | refine LeO.ite ?_ ?_
   | refine LeO.bind ?_ (fun _=>?_)
set_option maxHeartbeats 8000000 in
set_option maxRecDepth 100000 in
theorem spec_ClaimOk.calls (k:Nat) (a0:Int) (a1_0:Int) (A1_1:Option Addr) (c1_1:Nat) (l1_1:List (S33)) (r:Bool) (w:World) (hr1_1:Kd.C k33 w A1_1 l1_1.length l1_1) (hc1_1:l1_1.length≤c1_1) (h:spec_ClaimOk.f k a0 a1_0 l1_1=some r) :
  Calls Try.prog 37 #[.int .i64 a0,.agg #[.int .i64 a1_0,.slice A1_1 l1_1.length c1_1]] w fun e w'=>e = .returned (.bool r)∧Below w.heap.size w w':=by
 have hu36:=Try.underlying36
 have HR1_1:=mA hr1_1
 have HC1_1:=mA hc1_1
 clear hr1_1 hc1_1
 have HB:=mA (Below.refl w.heap.size w)
 have H:(if a1_0≥0 then (if a1_0<a0 then ((spec_TermOk.f k a0 l1_1).bind fun t102=>(if t102=true then (some (decide ((l1_1.length:Int)≤13))) else (some false))) else (some false)) else (some false))=some r:=h
 clear h
 by_cases c3:a1_0≥0
 ·rw [if_pos c3] at H
  have c3b0:decide (0≤a1_0)=true:=decide_eq_true c3
  clear c3
  by_cases c4:a1_0<a0
  ·rw [if_pos c4] at H
   have c4b0:decide (a1_0<a0)=true:=decide_eq_true c4
   clear c4
   replace H:=Option.bind_eq_some_iff.mp H
   obtain ⟨t102,A50,H⟩:=H
   replace H:(if t102=true then (some (decide ((l1_1.length:Int)≤13))) else (some false))=some r:=H
   have A5:=mA A50
   clear A50
   by_cases c6:t102=true
   ·subst c6
    have H1:(some (decide ((l1_1.length:Int)≤13)))=some r:=by rw [if_pos rfl] at H;exact H
    clear H
    have H:=H1
    clear H1
    obtain rfl:=Option.some.inj H
    go_enter Try.func37,Try.ntmps37
    go_wp2_with (first|((with_reducible refine gate_dst (N:=3) rfl ?_);(try (refine gate_guard (by rfl) ?_;dsimp only));refine box_event ?hg (N:=3) ?hd (cs:=#[.int .i64 a1_0,.slice A1_1 l1_1.length c1_1]) (t:=36) ?hr ?_;(case hd=>rfl);(case hg=>rfl);(case hr=>first|(go_simp;done)|(go_simp;rfl));intro gb101 hg w7 hbox hb;have n0_:=mA (bT (by repeat (first|(with_reducible first|exact HB.out|apply bA|apply bN|apply bD)|exact HB.out)) hb);have n1_:=mA (hbox);have n2_:=mA ((by rw [hg];exact (bZ (by repeat (first|(with_reducible first|exact HB.out|apply bA|apply bN|apply bD)|exact HB.out))):w.heap.size≤gb101));have n3_:=mA ((by rw [hg];exact (bZ (by repeat (first|(with_reducible first|exact HB.out|apply bA|apply bN|apply bD)|exact HB.out))):w.heap.size≤gb101));clear HB;have HB:=n0_;have BK101:=n1_;have GW101:=n2_;have GE101:=n3_;clear n0_ n1_ n2_ n3_ hb hbox hg;have hcz8_0:w7.cell? ⟨gb101,0,none⟩=some (.int .i64 a1_0):=(kC BK101.out 0).trans rfl;have hcz8_1:w7.cell? ⟨gb101,1,none⟩=some (.slice A1_1 l1_1.length c1_1):=(kC BK101.out 1).trans rfl;have hfz8_0:=kF BK101.out 0;have hfz8_1:=kF BK101.out 1)|(go_at_call 68;(with_reducible refine (spec_TermOk.calls k a0 _ _ l1_1 true _ ?side1 ?side2 A5.out).mono ?_);(case side1=>repeat (first|exact (Kd.C_below HR1_1.out HB.out)|(with_reducible refine cA ?_ _)|(with_reducible refine cN ?_ _)|(with_reducible refine cD ?_)));(case side2=>exact HC1_1.out);rintro e w' ⟨rfl,⟨nd,rfl⟩⟩))
    go_ret
    exact ⟨by first|rfl|(simp [errW_none,errW_some]<;>rfl)|(simp [*, errW_none,errW_some]<;>rfl),by repeat (first|(with_reducible first|exact HB.out|apply bA|apply bN|apply bD|refine bS ?_ GE101.out)|exact HB.out)⟩
   ·replace c6:=Bool.eq_false_iff.mpr c6
    subst c6
    have H1:(some false)=some r:=by rw [if_neg (show ¬ (false=true) by decide)] at H;exact H
    clear H
    have H:=H1
    clear H1
    obtain rfl:=Option.some.inj H
    go_enter Try.func37,Try.ntmps37
    go_wp2_with (first|((with_reducible refine gate_dst (N:=3) rfl ?_);(try (refine gate_guard (by rfl) ?_;dsimp only));refine box_event ?hg (N:=3) ?hd (cs:=#[.int .i64 a1_0,.slice A1_1 l1_1.length c1_1]) (t:=36) ?hr ?_;(case hd=>rfl);(case hg=>rfl);(case hr=>first|(go_simp;done)|(go_simp;rfl));intro gb101 hg w9 hbox hb;have n0_:=mA (bT (by repeat (first|(with_reducible first|exact HB.out|apply bA|apply bN|apply bD)|exact HB.out)) hb);have n1_:=mA (hbox);have n2_:=mA ((by rw [hg];exact (bZ (by repeat (first|(with_reducible first|exact HB.out|apply bA|apply bN|apply bD)|exact HB.out))):w.heap.size≤gb101));have n3_:=mA ((by rw [hg];exact (bZ (by repeat (first|(with_reducible first|exact HB.out|apply bA|apply bN|apply bD)|exact HB.out))):w.heap.size≤gb101));clear HB;have HB:=n0_;have BK101:=n1_;have GW101:=n2_;have GE101:=n3_;clear n0_ n1_ n2_ n3_ hb hbox hg;have hcz10_0:w9.cell? ⟨gb101,0,none⟩=some (.int .i64 a1_0):=(kC BK101.out 0).trans rfl;have hcz10_1:w9.cell? ⟨gb101,1,none⟩=some (.slice A1_1 l1_1.length c1_1):=(kC BK101.out 1).trans rfl;have hfz10_0:=kF BK101.out 0;have hfz10_1:=kF BK101.out 1)|(go_at_call 68;(with_reducible refine (spec_TermOk.calls k a0 _ _ l1_1 false _ ?side1 ?side2 A5.out).mono ?_);(case side1=>repeat (first|exact (Kd.C_below HR1_1.out HB.out)|(with_reducible refine cA ?_ _)|(with_reducible refine cN ?_ _)|(with_reducible refine cD ?_)));(case side2=>exact HC1_1.out);rintro e w' ⟨rfl,⟨nd,rfl⟩⟩))
    go_ret
    exact ⟨by first|rfl|(simp [errW_none,errW_some]<;>rfl)|(simp [*, errW_none,errW_some]<;>rfl),by repeat (first|(with_reducible first|exact HB.out|apply bA|apply bN|apply bD|refine bS ?_ GE101.out)|exact HB.out)⟩
  ·rw [if_neg c4] at H
   have c4b0:decide (a1_0<a0)=false:=decide_eq_false c4
   clear c4
   obtain rfl:=Option.some.inj H
   go_enter Try.func37,Try.ntmps37
   go_wp2_with (first|((with_reducible refine gate_dst (N:=3) rfl ?_);(try (refine gate_guard (by rfl) ?_;dsimp only));refine box_event ?hg (N:=3) ?hd (cs:=#[.int .i64 a1_0,.slice A1_1 l1_1.length c1_1]) (t:=36) ?hr ?_;(case hd=>rfl);(case hg=>rfl);(case hr=>first|(go_simp;done)|(go_simp;rfl));intro gb101 hg w11 hbox hb;have n0_:=mA (bT (by repeat (first|(with_reducible first|exact HB.out|apply bA|apply bN|apply bD)|exact HB.out)) hb);have n1_:=mA (hbox);have n2_:=mA ((by rw [hg];exact (bZ (by repeat (first|(with_reducible first|exact HB.out|apply bA|apply bN|apply bD)|exact HB.out))):w.heap.size≤gb101));have n3_:=mA ((by rw [hg];exact (bZ (by repeat (first|(with_reducible first|exact HB.out|apply bA|apply bN|apply bD)|exact HB.out))):w.heap.size≤gb101));clear HB;have HB:=n0_;have BK101:=n1_;have GW101:=n2_;have GE101:=n3_;clear n0_ n1_ n2_ n3_ hb hbox hg;have hcz12_0:w11.cell? ⟨gb101,0,none⟩=some (.int .i64 a1_0):=(kC BK101.out 0).trans rfl;have hcz12_1:w11.cell? ⟨gb101,1,none⟩=some (.slice A1_1 l1_1.length c1_1):=(kC BK101.out 1).trans rfl;have hfz12_0:=kF BK101.out 0;have hfz12_1:=kF BK101.out 1))
   go_ret
   exact ⟨by first|rfl|(simp [errW_none,errW_some]<;>rfl)|(simp [*, errW_none,errW_some]<;>rfl),by repeat (first|(with_reducible first|exact HB.out|apply bA|apply bN|apply bD|refine bS ?_ GE101.out)|exact HB.out)⟩
 ·rw [if_neg c3] at H
  have c3b0:decide (0≤a1_0)=false:=decide_eq_false c3
  clear c3
  obtain rfl:=Option.some.inj H
  go_enter Try.func37,Try.ntmps37
  go_wp2_with (first|((with_reducible refine gate_dst (N:=3) rfl ?_);(try (refine gate_guard (by rfl) ?_;dsimp only));refine box_event ?hg (N:=3) ?hd (cs:=#[.int .i64 a1_0,.slice A1_1 l1_1.length c1_1]) (t:=36) ?hr ?_;(case hd=>rfl);(case hg=>rfl);(case hr=>first|(go_simp;done)|(go_simp;rfl));intro gb101 hg w13 hbox hb;have n0_:=mA (bT (by repeat (first|(with_reducible first|exact HB.out|apply bA|apply bN|apply bD)|exact HB.out)) hb);have n1_:=mA (hbox);have n2_:=mA ((by rw [hg];exact (bZ (by repeat (first|(with_reducible first|exact HB.out|apply bA|apply bN|apply bD)|exact HB.out))):w.heap.size≤gb101));have n3_:=mA ((by rw [hg];exact (bZ (by repeat (first|(with_reducible first|exact HB.out|apply bA|apply bN|apply bD)|exact HB.out))):w.heap.size≤gb101));clear HB;have HB:=n0_;have BK101:=n1_;have GW101:=n2_;have GE101:=n3_;clear n0_ n1_ n2_ n3_ hb hbox hg;have hcz14_0:w13.cell? ⟨gb101,0,none⟩=some (.int .i64 a1_0):=(kC BK101.out 0).trans rfl;have hcz14_1:w13.cell? ⟨gb101,1,none⟩=some (.slice A1_1 l1_1.length c1_1):=(kC BK101.out 1).trans rfl;have hfz14_0:=kF BK101.out 0;have hfz14_1:=kF BK101.out 1))
  go_ret
  exact ⟨by first|rfl|(simp [errW_none,errW_some]<;>rfl)|(simp [*, errW_none,errW_some]<;>rfl),by repeat (first|(with_reducible first|exact HB.out|apply bA|apply bN|apply bD|refine bS ?_ GE101.out)|exact HB.out)⟩
/-! ### impl_WorldOk: function 99 -/
def impl_WorldOk.f (a0:Int) (a1:Int):Option (Bool):=(impl_peopleOk.f a0).bind fun t101=>(if t101=true then (if a1≥0 then (if 0≤a0 then (some (decide (a1<(shl .i64 1 a0)))) else (none)) else (some false)) else (some false))
set_option maxHeartbeats 8000000 in
set_option maxRecDepth 100000 in
theorem impl_WorldOk.calls (a0:Int) (a1:Int) (r:Bool) (w:World) (h:impl_WorldOk.f a0 a1=some r) :
  Calls Try.prog 99 #[.int .i64 a0,.int .i64 a1] w fun e w'=>e = .returned (.bool r)∧Drawn0 w w':=by
 have H:((impl_peopleOk.f a0).bind fun t101=>(if t101=true then (if a1≥0 then (if 0≤a0 then (some (decide (a1<(shl .i64 1 a0)))) else (none)) else (some false)) else (some false)))=some r:=h
 clear h
 replace H:=Option.bind_eq_some_iff.mp H
 obtain ⟨t101,A30,H⟩:=H
 replace H:(if t101=true then (if a1≥0 then (if 0≤a0 then (some (decide (a1<(shl .i64 1 a0)))) else (none)) else (some false)) else (some false))=some r:=H
 have A3:=mA A30
 clear A30
 by_cases c4:t101=true
 ·subst c4
  have H1:(if a1≥0 then (if 0≤a0 then (some (decide (a1<(shl .i64 1 a0)))) else (none)) else (some false))=some r:=by rw [if_pos rfl] at H;exact H
  clear H
  have H:=H1
  clear H1
  by_cases c5:a1≥0
  ·rw [if_pos c5] at H
   have c5b0:decide (0≤a1)=true:=decide_eq_true c5
   clear c5
   by_cases c6:0≤a0
   ·rw [if_pos c6] at H
    have c6b0:=eq_true c6
    have c6b1:decide (0≤a0)=true:=decide_eq_true c6
    clear c6
    obtain ⟨ji7,hji7⟩ : ∃ j_:Int,(shl .i64 1 a0)=j_:=⟨_,rfl⟩
    replace H:(some (decide (a1<(ji7))))=some r:=by first|(rw [hji7] at H;exact H)|(simp only [hji7] at H ⊢;exact H)
    (try rw [hji7] at A3)
    have hji7_:(IntKind.i64.wrap (1*2^min a0.toNat 64))=ji7:=hji7
    have hji7z:a0≤64→(IntKind.i64.wrap (1*2^a0.toNat))=ji7:=shl_small hji7
    have hji7u:(IntKind.i64.wrap (2^min a0.toNat 64))=ji7:=by have h_:=hji7_;rw [Int.one_mul] at h_;exact h_
    have hji7v:a0≤64→(IntKind.i64.wrap (2^a0.toNat))=ji7:=fun hle_=>by have h_:=hji7z hle_;rw [Int.one_mul] at h_;exact h_
    have hji7y:(wrap64 (1*2^min a0.toNat 64))=ji7:=(i64_w _).symm.trans hji7_
    have hji7x:a0≤64→(wrap64 (1*2^a0.toNat))=ji7:=fun h_=>(i64_w _).symm.trans (hji7z h_)
    obtain rfl:=Option.some.inj H
    go_enter Try.func99,Try.ntmps99
    go_wp2_with (first|((with_reducible refine gate_callee (f:=115) rfl ?_);refine goesL_ (some 6) rfl rfl Try.func115 (by kernel_rfl) rfl #[.int .i64 a0] rfl (by (try simp only [mT,mC,mN]);first|done|rfl|(simp only [lD,lT];rfl)) ?_;(with_reducible refine (impl_peopleOk.calls a0 true _ A3.out).mono ?_);rintro e w' ⟨rfl,⟨nd,rfl⟩⟩;refine ⟨_,rfl,?_⟩))
    go_ret
    exact ⟨by first|rfl|(simp;done)|(simp only [←hji7]<;>(first|rfl|simp))|(simp [*];done),by repeat (first|exact Drawn0.refl _|apply Drawn0.step)⟩
   ·rw [if_neg c6] at H
    exact absurd H (by simp)
  ·rw [if_neg c5] at H
   have c5b0:decide (0≤a1)=false:=decide_eq_false c5
   clear c5
   obtain rfl:=Option.some.inj H
   go_enter Try.func99,Try.ntmps99
   go_wp2_with (first|((with_reducible refine gate_callee (f:=115) rfl ?_);refine goesL_ (some 6) rfl rfl Try.func115 (by kernel_rfl) rfl #[.int .i64 a0] rfl (by (try simp only [mT,mC,mN]);first|done|rfl|(simp only [lD,lT];rfl)) ?_;(with_reducible refine (impl_peopleOk.calls a0 true _ A3.out).mono ?_);rintro e w' ⟨rfl,⟨nd,rfl⟩⟩;refine ⟨_,rfl,?_⟩))
   go_ret
   exact ⟨by first|rfl|(simp;done)|(simp [*];done),by repeat (first|exact Drawn0.refl _|apply Drawn0.step)⟩
 ·replace c4:=Bool.eq_false_iff.mpr c4
  subst c4
  have H1:(some false)=some r:=by rw [if_neg (show ¬ (false=true) by decide)] at H;exact H
  clear H
  have H:=H1
  clear H1
  obtain rfl:=Option.some.inj H
  go_enter Try.func99,Try.ntmps99
  go_wp2_with (first|((with_reducible refine gate_callee (f:=115) rfl ?_);refine goesL_ (some 6) rfl rfl Try.func115 (by kernel_rfl) rfl #[.int .i64 a0] rfl (by (try simp only [mT,mC,mN]);first|done|rfl|(simp only [lD,lT];rfl)) ?_;(with_reducible refine (impl_peopleOk.calls a0 false _ A3.out).mono ?_);rintro e w' ⟨rfl,⟨nd,rfl⟩⟩;refine ⟨_,rfl,?_⟩))
  go_ret
  exact ⟨by first|rfl|(simp;done)|(simp [*];done),by repeat (first|exact Drawn0.refl _|apply Drawn0.step)⟩
/-! ### laws_alive: function 26 -/
def laws_alive.f  : Option (Bool):=(impl_WorldOk.f 1 1).bind fun t101=>(if t101=true then ((impl_WorldOk.f 1 2).bind fun t102=>(some (!t102))) else (some false))
set_option maxHeartbeats 8000000 in
set_option maxRecDepth 100000 in
theorem laws_alive.calls  (r:Bool) (w:World) (h:laws_alive.f  = some r) :
  Calls Try.prog 26 #[] w fun e w'=>e = .returned (.bool r)∧Drawn0 w w':=by
 have H:((impl_WorldOk.f 1 1).bind fun t101=>(if t101=true then ((impl_WorldOk.f 1 2).bind fun t102=>(some (!t102))) else (some false)))=some r:=h
 clear h
 replace H:=Option.bind_eq_some_iff.mp H
 obtain ⟨t101,A10,H⟩:=H
 replace H:(if t101=true then ((impl_WorldOk.f 1 2).bind fun t102=>(some (!t102))) else (some false))=some r:=H
 have A1:=mA A10
 clear A10
 by_cases c2:t101=true
 ·subst c2
  have H1:((impl_WorldOk.f 1 2).bind fun t102=>(some (!t102)))=some r:=by rw [if_pos rfl] at H;exact H
  clear H
  have H:=H1
  clear H1
  replace H:=Option.bind_eq_some_iff.mp H
  obtain ⟨t102,A30,H⟩:=H
  replace H:(some (!t102))=some r:=H
  have A3:=mA A30
  clear A30
  obtain rfl:=Option.some.inj H
  go_enter Try.func26,Try.ntmps26
  go_wp2_with (first|((with_reducible refine gate_callee (f:=99) rfl ?_);refine goesL_ (some 1) rfl rfl Try.func99 (by kernel_rfl) rfl #[.int .i64 1,.int .i64 1] rfl (by (try simp only [mT,mC,mN]);first|done|rfl|(simp only [lD,lT];rfl)) ?_;(with_reducible refine (impl_WorldOk.calls 1 1 true _ A1.out).mono ?_);rintro e w' ⟨rfl,⟨nd,rfl⟩⟩;refine ⟨_,rfl,?_⟩)|(go_at_call 99;(with_reducible refine (impl_WorldOk.calls 1 2 t102 _ A3.out).mono ?_);rintro e w' ⟨rfl,⟨nd,rfl⟩⟩))
  go_ret
  exact ⟨by first|rfl|(simp;done)|(simp [*];done),by repeat (first|exact Drawn0.refl _|apply Drawn0.step)⟩
 ·replace c2:=Bool.eq_false_iff.mpr c2
  subst c2
  have H1:(some false)=some r:=by rw [if_neg (show ¬ (false=true) by decide)] at H;exact H
  clear H
  have H:=H1
  clear H1
  obtain rfl:=Option.some.inj H
  go_enter Try.func26,Try.ntmps26
  go_wp2_with (first|((with_reducible refine gate_callee (f:=99) rfl ?_);refine goesL_ (some 1) rfl rfl Try.func99 (by kernel_rfl) rfl #[.int .i64 1,.int .i64 1] rfl (by (try simp only [mT,mC,mN]);first|done|rfl|(simp only [lD,lT];rfl)) ?_;(with_reducible refine (impl_WorldOk.calls 1 1 false _ A1.out).mono ?_);rintro e w' ⟨rfl,⟨nd,rfl⟩⟩;refine ⟨_,rfl,?_⟩))
  go_ret
  exact ⟨by first|rfl|(simp;done)|(simp [*];done),by repeat (first|exact Drawn0.refl _|apply Drawn0.step)⟩
/-! ### spec_l20Claim: function 138 -/
def spec_l20Claim.f (k:Nat) (s0_0:List Int) (s0_1:Int) (a1:Int) (a2:Int):Option (Int×(List (S33))×Int):=(spec_l20Rd_pick.f k s0_0 s0_1 (mx a1 1)).bind fun bt102=>((spec_l20Term.f k s0_0 bt102.2 a1 (wrap64 (a2*2))).bind fun bt104=>((spec_l20Rd_odd.f k s0_0 bt104.2 a2).bind fun bt109=>(if bt109.1=true then ((some (([(-1),4]:List Int):List Int)).bind fun y111=>((spec_l20Rd_pick.f k s0_0 bt109.2 2).bind fun bt114=>(if 0≤bt114.1 then (if bt114.1<(y111.length:Int) then (some (rd y111 bt114.1,bt104.1,bt114.2)) else (none)) else (none)))) else (some (bt102.1,bt104.1,bt109.2)))))
theorem spec_l20Claim.mono : ∀ a0 a1 a2 a3 k,LeO (spec_l20Claim.f k a0 a1 a2 a3) (spec_l20Claim.f (k+1) a0 a1 a2 a3):=by
 intro a0 a1 a2 a3 k
 unfold spec_l20Claim.f
 repeat' first
   | (with_reducible exact spec_l20Rd_odd.mono _ _ _ _)
   | (with_reducible exact spec_l20Rd_pick.mono _ _ _ _)
   | (with_reducible exact spec_l20Term.mono _ _ _ _ _)
   | (with_reducible exact LeO.refl _)
   | (with_reducible exact LeO.none _)
   | (with_reducible refine LeO.ite ?_ ?_)
   | (with_reducible refine LeO.bind ?_ (fun _=>?_))
   | exact spec_l20Rd_odd.mono _ _ _ _
   | exact spec_l20Rd_pick.mono _ _ _ _
   | exact spec_l20Term.mono _ _ _ _ _
   | exact LeO.none _
   | refine LeO.ite ?_ ?_
   | refine LeO.bind ?_ (fun _=>?_)
set_option maxHeartbeats 8000000 in
set_option maxRecDepth 100000 in
theorem spec_l20Claim.calls (k:Nat) (g:Nat) (s0_0:List Int) (s0_1:Int) (a1:Int) (a2:Int) (r1:Int) (r2:List (S33)) (r3:Int) (w0 w:World) (hI:IsS113 w0 w g s0_0 s0_1) (hB:Below w0.heap.size w0 w) (h:spec_l20Claim.f k s0_0 s0_1 a1 a2=some (r1,r2,r3)) :
  Calls Try.prog 138 #[.pointer (some ⟨g,0,none⟩),.int .i64 a1,.int .i64 a2] w fun e w'=>∃ v1_:Value,e = .returned (.agg #[.int .i64 r1,v1_])∧Kd.R k33 33 w' w.heap.size (fun _=>True) v1_ r2∧IsS113 w0 w' g s0_0 r3∧Below w0.heap.size w0 w'∧KeepBut w w' g none:=by
 have hu36:=Try.underlying36
 have HI0:=mA hI
 have HK:=mA (KeepBut.refl w g none)
 have HL:=mA hB.size
 clear hI
 have HW0:=mA hB.size
 have HB:=mA hB
 clear hB
 have H:((spec_l20Rd_pick.f k s0_0 s0_1 (mx a1 1)).bind fun bt102=>((spec_l20Term.f k s0_0 bt102.2 a1 (wrap64 (a2*2))).bind fun bt104=>((spec_l20Rd_odd.f k s0_0 bt104.2 a2).bind fun bt109=>(if bt109.1=true then ((some (([(-1),4]:List Int):List Int)).bind fun y111=>((spec_l20Rd_pick.f k s0_0 bt109.2 2).bind fun bt114=>(if 0≤bt114.1 then (if bt114.1<(y111.length:Int) then (some (rd y111 bt114.1,bt104.1,bt114.2)) else (none)) else (none)))) else (some (bt102.1,bt104.1,bt109.2))))))=some (r1,r2,r3):=h
 clear h
 obtain ⟨ji4,hji4⟩ : ∃ j_:Int,(mx a1 1)=j_:=⟨_,rfl⟩
 replace H:((spec_l20Rd_pick.f k s0_0 s0_1 (ji4)).bind fun bt102=>((spec_l20Term.f k s0_0 bt102.2 a1 (wrap64 (a2*2))).bind fun bt104=>((spec_l20Rd_odd.f k s0_0 bt104.2 a2).bind fun bt109=>(if bt109.1=true then ((some (([(-1),4]:List Int):List Int)).bind fun y111=>((spec_l20Rd_pick.f k s0_0 bt109.2 2).bind fun bt114=>(if 0≤bt114.1 then (if bt114.1<(y111.length:Int) then (some (rd y111 bt114.1,bt104.1,bt114.2)) else (none)) else (none)))) else (some (bt102.1,bt104.1,bt109.2))))))=some (r1,r2,r3):=by first|(rw [hji4] at H;exact H)|(simp only [hji4] at H ⊢;exact H)
 (try (have hji4l:1≤ji4:=by (rw [←hji4];unfold mx;(repeat' split)<;>omega)))
 (try (have hji4m:0≤ji4:=by omega))
 have hji4_:(if a1<1 then 1 else a1)=ji4:=hji4
 replace H:=Option.bind_eq_some_iff.mp H
 obtain ⟨⟨t102,t103⟩,A50,H⟩:=H
 replace H:((spec_l20Term.f k s0_0 t103 a1 (wrap64 (a2*2))).bind fun bt104=>((spec_l20Rd_odd.f k s0_0 bt104.2 a2).bind fun bt109=>(if bt109.1=true then ((some (([(-1),4]:List Int):List Int)).bind fun y111=>((spec_l20Rd_pick.f k s0_0 bt109.2 2).bind fun bt114=>(if 0≤bt114.1 then (if bt114.1<(y111.length:Int) then (some (rd y111 bt114.1,bt104.1,bt114.2)) else (none)) else (none)))) else (some (t102,bt104.1,bt109.2)))))=some (r1,r2,r3):=H
 have A5:=mA A50
 clear A50
 replace H:=Option.bind_eq_some_iff.mp H
 obtain ⟨⟨t104,t107⟩,A60,H⟩:=H
 replace H:((spec_l20Rd_odd.f k s0_0 t107 a2).bind fun bt109=>(if bt109.1=true then ((some (([(-1),4]:List Int):List Int)).bind fun y111=>((spec_l20Rd_pick.f k s0_0 bt109.2 2).bind fun bt114=>(if 0≤bt114.1 then (if bt114.1<(y111.length:Int) then (some (rd y111 bt114.1,t104,bt114.2)) else (none)) else (none)))) else (some (t102,t104,bt109.2))))=some (r1,r2,r3):=H
 have A6:=mA A60
 clear A60
 replace H:=Option.bind_eq_some_iff.mp H
 obtain ⟨⟨t109,t110⟩,A70,H⟩:=H
 replace H:(if t109=true then ((some (([(-1),4]:List Int):List Int)).bind fun y111=>((spec_l20Rd_pick.f k s0_0 t110 2).bind fun bt114=>(if 0≤bt114.1 then (if bt114.1<(y111.length:Int) then (some (rd y111 bt114.1,t104,bt114.2)) else (none)) else (none)))) else (some (t102,t104,t110)))=some (r1,r2,r3):=H
 have A7:=mA A70
 clear A70
 by_cases c8:t109=true
 ·subst c8
  have H1:((some (([(-1),4]:List Int):List Int)).bind fun y111=>((spec_l20Rd_pick.f k s0_0 t110 2).bind fun bt114=>(if 0≤bt114.1 then (if bt114.1<(y111.length:Int) then (some (rd y111 bt114.1,t104,bt114.2)) else (none)) else (none))))=some (r1,r2,r3):=by rw [if_pos rfl] at H;exact H
  clear H
  have H:=H1
  clear H1
  obtain ⟨y111,hy111⟩ : ∃ y_:List Int,y_=(([(-1),4]:List Int)):=⟨_,rfl⟩
  replace H:((spec_l20Rd_pick.f k s0_0 t110 2).bind fun bt114=>(if 0≤bt114.1 then (if bt114.1<(y111.length:Int) then (some (rd y111 bt114.1,t104,bt114.2)) else (none)) else (none)))=some (r1,r2,r3):=by first|(rw [hy111];with_reducible exact H)|(have H2_:=(Option.bind_some _ _).symm.trans H;rw [hy111];with_reducible exact H2_)|(have H2_:=(Option.bind_some _ _).symm.trans H;with_reducible exact H2_)|with_reducible exact H|(rw [hy111];exact H)|exact H
  have Ny111:=mA hy111
  clear hy111
  replace H:=Option.bind_eq_some_iff.mp H
  obtain ⟨⟨t114,t115⟩,A90,H⟩:=H
  replace H:(if 0≤t114 then (if t114<(y111.length:Int) then (some (rd y111 t114,t104,t115)) else (none)) else (none))=some (r1,r2,r3):=H
  have A9:=mA A90
  clear A90
  by_cases c10:0≤t114
  ·rw [if_pos c10] at H
   have c10b0:decide (0≤t114)=true:=decide_eq_true c10
   clear c10
   by_cases c11:t114<(y111.length:Int)
   ·rw [if_pos c11] at H
    have c11b0:decide (t114<(y111.length:Int))=true:=decide_eq_true c11
    clear c11
    simp only [Option.some.injEq,Prod.mk.injEq] at H
    obtain ⟨rfl,rfl,rfl⟩:=H
    go_enter Try.func138,Try.ntmps138
    go_wp2_with (first|((with_reducible refine gate_dst (N:=6) rfl ?_);refine box_event ?hg (N:=6) ?hd (cs:=#[.int .i64 0,.slice none 0 0]) (t:=36) ?hr ?_;(case hd=>rfl);(case hg=>rfl);(case hr=>first|(go_simp;done)|(go_simp;rfl));intro gb101 hg w12 hbox hb;have n0_:=mA (IsS113.below (by repeat (first|(with_reducible first|exact HI0.out|apply IsS113.alloc|apply IsS113.drewN|apply IsS113.drew|apply IsS113.set_1)|exact HI0.out)) hb);have n1_:=mA (KeepBut.trans (by repeat (first|(with_reducible first|exact HK.out|apply eS|apply eN|apply eD|apply eA)|exact HK.out)) (KeepBut.of_below hb g none) (.inl rfl));have n2_:=mA (bT (by repeat (first|(with_reducible first|exact HB.out|apply bA|apply bN|apply bD|refine bS ?_ (IsS113.ge HI0.out))|exact HB.out)) hb);have n3_:=mA (hbox);have n4_:=mA ((by rw [hg];exact (keep_size (w:=w) (g:=g) (row:=none) (by repeat (first|(with_reducible first|exact HK.out|apply eS|apply eN|apply eD|apply eA)|exact HK.out))):w.heap.size≤gb101));have n5_:=mA ((Nat.le_trans HW0.out (by rw [hg];exact (keep_size (w:=w) (g:=g) (row:=none) (by repeat (first|(with_reducible first|exact HK.out|apply eS|apply eN|apply eD|apply eA)|exact HK.out))):w.heap.size≤gb101):w0.heap.size≤gb101));have n6_:=mA ((by rw [hg];exact Nat.ne_of_lt (IsS113.lt (show IsS113 w0 _ g s0_0 s0_1 from by repeat (first|(with_reducible first|exact HI0.out|apply IsS113.alloc|apply IsS113.drewN|apply IsS113.drew|apply IsS113.set_1)|exact HI0.out))):g≠gb101));have n7_:=mA ((by rw [hg];exact Nat.ne_of_gt (IsS113.lt (show IsS113 w0 _ g s0_0 s0_1 from by repeat (first|(with_reducible first|exact HI0.out|apply IsS113.alloc|apply IsS113.drewN|apply IsS113.drew|apply IsS113.set_1)|exact HI0.out))):gb101≠g));clear HI0 HK HB;have HI0:=n0_;have HK:=n1_;have HB:=n2_;have BK101:=n3_;have GW101:=n4_;have GE101:=n5_;have NB0_101:=n6_;have NB101_0:=n7_;clear n0_ n1_ n2_ n3_ n4_ n5_ n6_ n7_ hb hbox hg)|((with_reducible refine gate_callee (f:=108) rfl ?_);refine goesL_ (some 11) rfl rfl Try.func108 (by kernel_rfl) rfl #[.pointer (some ⟨g,0,none⟩),.int .i64 ji4] rfl (by (try simp only [mT,mC,mN]);first|done|(simp only [hji4];rfl)|rfl|(simp only [lD,lT];rfl)) ?_;(with_reducible refine (spec_l20Rd_pick.calls k g s0_0 s0_1 ji4 t102 t103 w0 _ ?side1 ?side2 A5.out).mono ?_);(case side1=>repeat (first|(with_reducible first|exact HI0.out|apply IsS113.alloc|apply IsS113.drewN|apply IsS113.drew|apply IsS113.set_1|refine IsS113.far ?_ NB0_101.out _)|exact HI0.out));(case side2=>repeat (first|(with_reducible first|exact HB.out|apply bA|apply bN|apply bD|refine bS ?_ (IsS113.ge HI0.out)|refine bS ?_ GE101.out)|exact HB.out));rintro e w13 ⟨rfl,hi,hb,hk⟩;refine ⟨_,rfl,?_⟩;have n0_:=mA (KeepBut.blk hk (g':=gb101) (o:=.cells #[.int .i64 0,.slice none 0 0] 36 (0,0)) (by (with_reducible repeat (first|refine kN ?_ _|refine kD ?_|refine kA ?_ _));exact BK101.out) NB101_0.out (by simp));have n1_:=mA (KeepBut.trans (by repeat (first|(with_reducible first|exact HK.out|apply eS|apply eN|apply eD|apply eA|refine keep_far ?_ GW101.out _)|exact HK.out)) hk (.inl rfl));have n2_:=mA (hb);have n3_:=mA (hi);clear BK101 HK HB HI0;have BK101:=n0_;have HK:=n1_;have HB:=n2_;have HI0:=n3_;clear n0_ n1_ n2_ n3_;(try clear hb);(try clear hb2);(try clear hk);(try clear hi))|((with_reducible refine gate_callee (f:=128) rfl ?_);refine goesL_ (some 16) rfl rfl Try.func128 (by kernel_rfl) rfl #[.pointer (some ⟨g,0,none⟩),.int .i64 a1,.int .i64 (wrap64 (a2*2))] rfl (by (try simp only [mT,mC,mN]);first|done|rfl|(simp only [lD,lT];rfl)) ?_;(with_reducible refine (spec_l20Term.calls k g s0_0 t103 a1 (wrap64 (a2*2)) t104 t107 w0 _ ?side1 ?side2 A6.out).mono ?_);(case side1=>repeat (first|(with_reducible first|exact HI0.out|apply IsS113.alloc|apply IsS113.drewN|apply IsS113.drew|apply IsS113.set_1|refine IsS113.far ?_ NB0_101.out _)|exact HI0.out));(case side2=>repeat (first|(with_reducible first|exact HB.out|apply bA|apply bN|apply bD|refine bS ?_ (IsS113.ge HI0.out)|refine bS ?_ GE101.out)|exact HB.out));rintro e w14 ⟨v105,rfl,ho0,hi,hb,hk⟩;refine ⟨_,rfl,?_⟩;have n0_:=mA (KeepBut.blk hk (g':=gb101) (o:=.cells #[.int .i64 0,.slice none 0 0] 36 (0,0)) (by (with_reducible repeat (first|refine kN ?_ _|refine kD ?_|refine kA ?_ _));exact BK101.out) NB101_0.out (by simp));have n1_:=mA (Kd.R_lower ho0 (keep_size (w:=w) (g:=g) (row:=none) (by repeat (first|(with_reducible first|exact HK.out|apply eS|apply eN|apply eD|apply eA|refine keep_far ?_ GW101.out _)|exact HK.out))));have n2_:=mA (KeepBut.trans (by repeat (first|(with_reducible first|exact HK.out|apply eS|apply eN|apply eD|apply eA|refine keep_far ?_ GW101.out _)|exact HK.out)) hk (.inl rfl));have n3_:=mA (hb);have n4_:=mA (hi);clear BK101 HK HB HI0;have BK101:=n0_;have HO106:=n1_;have HK:=n2_;have HB:=n3_;have HI0:=n4_;clear n0_ n1_ n2_ n3_ n4_;(try clear hb);(try clear hb2);(try clear hk);(try clear hi);(try clear ho0);obtain ⟨Ao15,co15,eo15⟩:=Kd.R_slice HO106.out;subst eo15)|((with_reducible refine gate_dst (N:=7) rfl ?_);refine box_event ?hg (N:=7) ?hd (cs:=#[.int .i64 0,.slice none 0 0]) (t:=36) ?hr ?_;(case hd=>rfl);(case hg=>rfl);(case hr=>first|(go_simp;done)|(go_simp;rfl));intro gb108 hg w16 hbox hb;have n0_:=mA (rB (by (with_reducible repeat (first|apply rA|apply rN|apply rD));exact HO106.out) hb);have n1_:=mA (IsS113.below (by repeat (first|(with_reducible first|exact HI0.out|apply IsS113.alloc|apply IsS113.drewN|apply IsS113.drew|apply IsS113.set_1|refine IsS113.far ?_ NB0_101.out _)|exact HI0.out)) hb);have n2_:=mA (blk_below (g:=gb101) (o:=.cells #[.int .i64 0,.slice none 0 0] 36 (0,0)) (by (with_reducible repeat (first|refine kN ?_ _|refine kD ?_|refine kA ?_ _));exact BK101.out) hb);have n3_:=mA (KeepBut.trans (by repeat (first|(with_reducible first|exact HK.out|apply eS|apply eN|apply eD|apply eA|refine keep_far ?_ GW101.out _)|exact HK.out)) (KeepBut.of_below hb g none) (.inl rfl));have n4_:=mA (bT (by repeat (first|(with_reducible first|exact HB.out|apply bA|apply bN|apply bD|refine bS ?_ (IsS113.ge HI0.out)|refine bS ?_ GE101.out)|exact HB.out)) hb);have n5_:=mA (hbox);have n6_:=mA ((by rw [hg];exact (keep_size (w:=w) (g:=g) (row:=none) (by repeat (first|(with_reducible first|exact HK.out|apply eS|apply eN|apply eD|apply eA|refine keep_far ?_ GW101.out _)|exact HK.out))):w.heap.size≤gb108));have n7_:=mA ((Nat.le_trans HW0.out (by rw [hg];exact (keep_size (w:=w) (g:=g) (row:=none) (by repeat (first|(with_reducible first|exact HK.out|apply eS|apply eN|apply eD|apply eA|refine keep_far ?_ GW101.out _)|exact HK.out))):w.heap.size≤gb108):w0.heap.size≤gb108));have n8_:=mA ((by rw [hg];exact Nat.ne_of_lt (blk_lt (g:=gb101) (o:=.cells #[.int .i64 0,.slice none 0 0] 36 (0,0)) (by (with_reducible repeat (first|refine kN ?_ _|refine kD ?_|refine kA ?_ _));exact BK101.out)):gb101≠gb108));have n9_:=mA ((by rw [hg];exact Nat.ne_of_gt (blk_lt (g:=gb101) (o:=.cells #[.int .i64 0,.slice none 0 0] 36 (0,0)) (by (with_reducible repeat (first|refine kN ?_ _|refine kD ?_|refine kA ?_ _));exact BK101.out)):gb108≠gb101));have n10_:=mA ((by rw [hg];exact Nat.ne_of_lt (IsS113.lt (show IsS113 w0 _ g s0_0 t107 from by repeat (first|(with_reducible first|exact HI0.out|apply IsS113.alloc|apply IsS113.drewN|apply IsS113.drew|apply IsS113.set_1|refine IsS113.far ?_ NB0_101.out _)|exact HI0.out))):g≠gb108));have n11_:=mA ((by rw [hg];exact Nat.ne_of_gt (IsS113.lt (show IsS113 w0 _ g s0_0 t107 from by repeat (first|(with_reducible first|exact HI0.out|apply IsS113.alloc|apply IsS113.drewN|apply IsS113.drew|apply IsS113.set_1|refine IsS113.far ?_ NB0_101.out _)|exact HI0.out))):gb108≠g));clear HO106 HI0 BK101 HK HB;have HO106:=n0_;have HI0:=n1_;have BK101:=n2_;have HK:=n3_;have HB:=n4_;have BK108:=n5_;have GW108:=n6_;have GE108:=n7_;have NB101_108:=n8_;have NB108_101:=n9_;have NB0_108:=n10_;have NB108_0:=n11_;clear n0_ n1_ n2_ n3_ n4_ n5_ n6_ n7_ n8_ n9_ n10_ n11_ hb hbox hg;have hnb17:=NB108_101.out;have hnc17:=NB101_108.out;have hnb18:=NB108_0.out;have hnc18:=NB0_108.out;have hcz19_0:w16.cell? ⟨gb108,0,none⟩=some (.int .i64 0):=(kC BK108.out 0).trans rfl;have hcz19_1:w16.cell? ⟨gb108,1,none⟩=some (.slice none 0 0):=(kC BK108.out 1).trans rfl;have hfz19_0:=kF BK108.out 0;have hfz19_1:=kF BK108.out 1)|((with_reducible refine gate_callee (f:=139) rfl ?_);refine goesL_ (some 20) rfl rfl Try.func139 (by kernel_rfl) rfl #[.pointer (some ⟨g,0,none⟩),.int .i64 a2] rfl (by (try simp only [mT,mC,mN]);first|done|rfl|(simp only [lD,lT];rfl)) ?_;(with_reducible refine (spec_l20Rd_odd.calls k g s0_0 t107 a2 true t110 w0 _ ?side1 ?side2 A7.out).mono ?_);(case side1=>repeat (first|(with_reducible first|exact HI0.out|apply IsS113.alloc|apply IsS113.drewN|apply IsS113.drew|apply IsS113.set_1|refine IsS113.far ?_ NB0_101.out _|refine IsS113.far ?_ NB0_108.out _)|exact HI0.out));(case side2=>repeat (first|(with_reducible first|exact HB.out|apply bA|apply bN|apply bD|refine bS ?_ (IsS113.ge HI0.out)|refine bS ?_ GE101.out|refine bS ?_ GE108.out)|exact HB.out));rintro e w20 ⟨rfl,hi,hb,hk⟩;refine ⟨_,rfl,?_⟩;have n0_:=mA (KeepBut.blk hk (g':=gb101) (o:=.cells #[.int .i64 0,.slice none 0 0] 36 (0,0)) (by (with_reducible repeat (first|refine kN ?_ _|refine kD ?_|refine kA ?_ _));refine blk_far ?_ NB101_108.out _;(with_reducible repeat (first|refine kN ?_ _|refine kD ?_|refine kA ?_ _));refine blk_far ?_ NB101_108.out _;(with_reducible repeat (first|refine kN ?_ _|refine kD ?_|refine kA ?_ _));exact BK101.out) NB101_0.out (by simp));have n1_:=mA (rM (Kd.R_keep (IsS113.apart (show IsS113 w0 _ g s0_0 t107 from by repeat (first|(with_reducible first|exact HI0.out|apply IsS113.alloc|apply IsS113.drewN|apply IsS113.drew|apply IsS113.set_1|refine IsS113.far ?_ NB0_101.out _|refine IsS113.far ?_ NB0_108.out _)|exact HI0.out)) (by (with_reducible repeat (first|apply rA|apply rN|apply rD));exact (rM (rF (p:=⟨gb108,1,none⟩) (rF (p:=⟨gb108,0,none⟩) (Kd.R_types HO106.out BK108.out (by decide)) (fun _ hk=>hk.2) (.int .i64 t102)) (fun _ hk=>hk.2) (.slice Ao15 t104.length co15)) (fun _ h_=>h_.1))) (by decide)) hk (fun _ h=>h.2)) (fun _ h=>h.1));have n2_:=mA (KeepBut.blk hk (g':=gb108) (o:=.cells #[.int .i64 t102,.slice Ao15 t104.length co15] 36 (0,0)) (by (with_reducible repeat (first|refine kN ?_ _|refine kD ?_|refine kA ?_ _));refine blk_put (cs:=#[.int .i64 t102,.slice none 0 0]) ?_ 1 _ rfl;(with_reducible repeat (first|refine kN ?_ _|refine kD ?_|refine kA ?_ _));refine blk_put (cs:=#[.int .i64 0,.slice none 0 0]) ?_ 0 _ rfl;(with_reducible repeat (first|refine kN ?_ _|refine kD ?_|refine kA ?_ _));exact BK108.out) NB108_0.out (by simp));have n3_:=mA (KeepBut.trans (by repeat (first|(with_reducible first|exact HK.out|apply eS|apply eN|apply eD|apply eA|refine keep_far ?_ GW101.out _|refine keep_far ?_ GW108.out _)|exact HK.out)) hk (.inl rfl));have n4_:=mA (hb);have n5_:=mA (hi);clear BK101 HO106 BK108 HK HB HI0;have BK101:=n0_;have HO106:=n1_;have BK108:=n2_;have HK:=n3_;have HB:=n4_;have HI0:=n5_;clear n0_ n1_ n2_ n3_ n4_ n5_;(try clear hb);(try clear hb2);(try clear hk);(try clear hi))|((with_reducible refine gate_dst (N:=21) rfl ?_);refine Kd.R_lit (Kd.int .i64) _ 3 ?hg (N:=21) ?hd (xs:=([(-1),4]:List Int)) (inner:=[.int .i64 (-1),.int .i64 4]) (ok:=fun _=>True) (okp:=fun _=>True) ?hr ?hp (fun _ hk=>hk) trivial (Below.refl _ _) (Nat.le_refl _) (by simp) ?_;(case hd=>rfl);(case hg=>rfl);(case hr=>first|(go_simp;done)|(go_simp;rfl));(case hp=>exact (Reps.one (show Kd.M (Kd.int .i64) _ _ _ (-1) [.int .i64 (-1)] from rfl) (Reps.one (show Kd.M (Kd.int .i64) _ _ _ 4 [.int .i64 4] from rfl) (Reps.none _ _))));intro v112 w21 ho22 hb hg_ hnew_;clear hg_ hnew_;(first|rw [←Ny111.out] at ho22|(simp only [Int.reduceToNat] at ho22;rw [←Ny111.out] at ho22));have n0_:=mA (rB (by (with_reducible repeat (first|apply rA|apply rN|apply rD));exact HO106.out) hb);have n1_:=mA (Kd.R_lower ho22 (keep_size (w:=w) (g:=g) (row:=none) (by repeat (first|(with_reducible first|exact HK.out|apply eS|apply eN|apply eD|apply eA|refine keep_far ?_ GW101.out _|refine keep_far ?_ GW108.out _)|exact HK.out))));have n2_:=mA (IsS113.below (by repeat (first|(with_reducible first|exact HI0.out|apply IsS113.alloc|apply IsS113.drewN|apply IsS113.drew|apply IsS113.set_1|refine IsS113.far ?_ NB0_101.out _|refine IsS113.far ?_ NB0_108.out _)|exact HI0.out)) hb);have n3_:=mA (blk_below (g:=gb101) (o:=.cells #[.int .i64 0,.slice none 0 0] 36 (0,0)) (by (with_reducible repeat (first|refine kN ?_ _|refine kD ?_|refine kA ?_ _));exact BK101.out) hb);have n4_:=mA (blk_below (g:=gb108) (o:=.cells #[.int .i64 t102,.slice Ao15 t104.length co15] 36 (0,0)) (by (with_reducible repeat (first|refine kN ?_ _|refine kD ?_|refine kA ?_ _));exact BK108.out) hb);have n5_:=mA (KeepBut.trans (by repeat (first|(with_reducible first|exact HK.out|apply eS|apply eN|apply eD|apply eA|refine keep_far ?_ GW101.out _|refine keep_far ?_ GW108.out _)|exact HK.out)) (KeepBut.of_below hb g none) (.inl rfl));have n6_:=mA (bT (by repeat (first|(with_reducible first|exact HB.out|apply bA|apply bN|apply bD|refine bS ?_ (IsS113.ge HI0.out)|refine bS ?_ GE101.out|refine bS ?_ GE108.out)|exact HB.out)) hb);clear HO106 HI0 BK101 BK108 HK HB;have HO106:=n0_;have HO113:=n1_;have HI0:=n2_;have BK101:=n3_;have BK108:=n4_;have HK:=n5_;have HB:=n6_;clear n0_ n1_ n2_ n3_ n4_ n5_ n6_ hb ho22)|((with_reducible refine gate_callee (f:=108) rfl ?_);refine goesL_ (some 23) rfl rfl Try.func108 (by kernel_rfl) rfl #[.pointer (some ⟨g,0,none⟩),.int .i64 2] rfl (by (try simp only [mT,mC,mN]);first|done|rfl|(simp only [lD,lT];rfl)) ?_;(with_reducible refine (spec_l20Rd_pick.calls k g s0_0 t110 2 t114 t115 w0 _ ?side1 ?side2 A9.out).mono ?_);(case side1=>repeat (first|(with_reducible first|exact HI0.out|apply IsS113.alloc|apply IsS113.drewN|apply IsS113.drew|apply IsS113.set_1|refine IsS113.far ?_ NB0_101.out _|refine IsS113.far ?_ NB0_108.out _)|exact HI0.out));(case side2=>repeat (first|(with_reducible first|exact HB.out|apply bA|apply bN|apply bD|refine bS ?_ (IsS113.ge HI0.out)|refine bS ?_ GE101.out|refine bS ?_ GE108.out)|exact HB.out));rintro e w23 ⟨rfl,hi,hb,hk⟩;refine ⟨_,rfl,?_⟩;have n0_:=mA (KeepBut.blk hk (g':=gb101) (o:=.cells #[.int .i64 0,.slice none 0 0] 36 (0,0)) (by (with_reducible repeat (first|refine kN ?_ _|refine kD ?_|refine kA ?_ _));exact BK101.out) NB101_0.out (by simp));have n1_:=mA (rM (Kd.R_keep (IsS113.apart (show IsS113 w0 _ g s0_0 t110 from by repeat (first|(with_reducible first|exact HI0.out|apply IsS113.alloc|apply IsS113.drewN|apply IsS113.drew|apply IsS113.set_1|refine IsS113.far ?_ NB0_101.out _|refine IsS113.far ?_ NB0_108.out _)|exact HI0.out)) (by (with_reducible repeat (first|apply rA|apply rN|apply rD));exact HO106.out) (by decide)) hk (fun _ h=>h.2)) (fun _ h=>h.1));have n2_:=mA (KeepBut.blk hk (g':=gb108) (o:=.cells #[.int .i64 t102,.slice Ao15 t104.length co15] 36 (0,0)) (by (with_reducible repeat (first|refine kN ?_ _|refine kD ?_|refine kA ?_ _));exact BK108.out) NB108_0.out (by simp));have n3_:=mA (rM (Kd.R_keep (IsS113.apart (show IsS113 w0 _ g s0_0 t110 from by repeat (first|(with_reducible first|exact HI0.out|apply IsS113.alloc|apply IsS113.drewN|apply IsS113.drew|apply IsS113.set_1|refine IsS113.far ?_ NB0_101.out _|refine IsS113.far ?_ NB0_108.out _)|exact HI0.out)) (by (with_reducible repeat (first|apply rA|apply rN|apply rD));exact HO113.out) (by decide)) hk (fun _ h=>h.2)) (fun _ h=>h.1));have n4_:=mA (KeepBut.trans (by repeat (first|(with_reducible first|exact HK.out|apply eS|apply eN|apply eD|apply eA|refine keep_far ?_ GW101.out _|refine keep_far ?_ GW108.out _)|exact HK.out)) hk (.inl rfl));have n5_:=mA (hb);have n6_:=mA (hi);clear BK101 HO106 BK108 HO113 HK HB HI0;have BK101:=n0_;have HO106:=n1_;have BK108:=n2_;have HO113:=n3_;have HK:=n4_;have HB:=n5_;have HI0:=n6_;clear n0_ n1_ n2_ n3_ n4_ n5_ n6_;(try clear hb);(try clear hb2);(try clear hk);(try clear hi);obtain ⟨Ao24,co24,eo24⟩:=Kd.R_slice HO113.out;subst eo24;have p116:0≤(t114:Int):=of_decide_eq_true (by first|(with_reducible assumption)|assumption);have q116:t114<(y111.length:Int):=of_decide_eq_true (by first|(with_reducible assumption)|assumption);obtain ⟨ad116,e116,hx116_0⟩:=Kd.at_int (rR HO113.out).2.2 t114 p116 q116;cases e116;replace p116:=eq_true p116;replace q116:=eq_true q116;have hcz25_0:w23.cell? ⟨gb108,0,none⟩=some (.int .i64 t102):=(kC BK108.out 0).trans rfl;have hcz25_1:w23.cell? ⟨gb108,1,none⟩=some (.slice Ao15 t104.length co15):=(kC BK108.out 1).trans rfl;have hfz25_0:=kF BK108.out 0;have hfz25_1:=kF BK108.out 1;have hnb26:=NB101_0.out;have hnc26:=NB0_101.out;have hcz27_0:w23.cell? ⟨gb101,0,none⟩=some (.int .i64 0):=(kC BK101.out 0).trans rfl;have hcz27_1:w23.cell? ⟨gb101,1,none⟩=some (.slice none 0 0):=(kC BK101.out 1).trans rfl;have hfz27_0:=kF BK101.out 0;have hfz27_1:=kF BK101.out 1))
    refine bodyPost_ret (results_cell_row rfl _ _ gb101 36 #[.int .i64 (rd y111 t114),.slice Ao15 t104.length co15] (0,0) _ rfl (by (with_reducible repeat (first|refine kN ?_ _|refine kD ?_|refine kA ?_ _));refine blk_put (cs:=#[.int .i64 (rd y111 t114),.slice none 0 0]) ?_ 1 _ rfl;(with_reducible repeat (first|refine kN ?_ _|refine kD ?_|refine kA ?_ _));refine blk_put (cs:=#[.int .i64 0,.slice none 0 0]) ?_ 0 _ rfl;(with_reducible repeat (first|refine kN ?_ _|refine kD ?_|refine kA ?_ _));refine blk_far ?_ NB101_108.out _;(with_reducible repeat (first|refine kN ?_ _|refine kD ?_|refine kA ?_ _));exact BK101.out) Try.underlying36 rfl (by kernel_rfl)) rfl ?_
    exact ⟨_,by first|rfl|(simp [errW_none,errW_some]<;>rfl)|(simp only [←hji4];first|rfl|(simp [errW_none,errW_some]<;>rfl))|(simp [*, errW_none,errW_some]<;>rfl),by (with_reducible repeat (first|apply rA|apply rN|apply rD));exact rM (rF (p:=⟨gb101,1,none⟩) (rF (p:=⟨gb101,0,none⟩) (rF (p:=⟨gb108,0,none⟩) (Kd.R_types (Kd.R_types HO106.out BK108.out (by decide)) BK101.out (by decide)) (fun _ hk=>hk.1.2) (.int .i64 (rd y111 t114))) (fun _ hk=>hk.2) (.int .i64 (rd y111 t114))) (fun _ hk=>hk.2) (.slice Ao15 t104.length co15)) (fun _ hk=>trivial),by repeat (first|(with_reducible first|exact HI0.out|apply IsS113.alloc|apply IsS113.drewN|apply IsS113.drew|apply IsS113.set_1|refine IsS113.far ?_ NB0_101.out _|refine IsS113.far ?_ NB0_108.out _)|exact HI0.out),by repeat (first|(with_reducible first|exact HB.out|apply bA|apply bN|apply bD|refine bS ?_ (IsS113.ge HI0.out)|refine bS ?_ GE101.out|refine bS ?_ GE108.out)|exact HB.out),by repeat (first|(with_reducible first|exact HK.out|apply eS|apply eN|apply eD|apply eA|refine keep_far ?_ GW101.out _|refine keep_far ?_ GW108.out _)|exact HK.out)⟩
   ·rw [if_neg c11] at H
    exact absurd H (by simp)
  ·rw [if_neg c10] at H
   exact absurd H (by simp)
 ·replace c8:=Bool.eq_false_iff.mpr c8
  subst c8
  have H1:(some (t102,t104,t110))=some (r1,r2,r3):=by rw [if_neg (show ¬ (false=true) by decide)] at H;exact H
  clear H
  have H:=H1
  clear H1
  simp only [Option.some.injEq,Prod.mk.injEq] at H
  obtain ⟨rfl,rfl,rfl⟩:=H
  go_enter Try.func138,Try.ntmps138
  go_wp2_with (first|((with_reducible refine gate_dst (N:=6) rfl ?_);refine box_event ?hg (N:=6) ?hd (cs:=#[.int .i64 0,.slice none 0 0]) (t:=36) ?hr ?_;(case hd=>rfl);(case hg=>rfl);(case hr=>first|(go_simp;done)|(go_simp;rfl));intro gb101 hg w28 hbox hb;have n0_:=mA (IsS113.below (by repeat (first|(with_reducible first|exact HI0.out|apply IsS113.alloc|apply IsS113.drewN|apply IsS113.drew|apply IsS113.set_1)|exact HI0.out)) hb);have n1_:=mA (KeepBut.trans (by repeat (first|(with_reducible first|exact HK.out|apply eS|apply eN|apply eD|apply eA)|exact HK.out)) (KeepBut.of_below hb g none) (.inl rfl));have n2_:=mA (bT (by repeat (first|(with_reducible first|exact HB.out|apply bA|apply bN|apply bD|refine bS ?_ (IsS113.ge HI0.out))|exact HB.out)) hb);have n3_:=mA (hbox);have n4_:=mA ((by rw [hg];exact (keep_size (w:=w) (g:=g) (row:=none) (by repeat (first|(with_reducible first|exact HK.out|apply eS|apply eN|apply eD|apply eA)|exact HK.out))):w.heap.size≤gb101));have n5_:=mA ((Nat.le_trans HW0.out (by rw [hg];exact (keep_size (w:=w) (g:=g) (row:=none) (by repeat (first|(with_reducible first|exact HK.out|apply eS|apply eN|apply eD|apply eA)|exact HK.out))):w.heap.size≤gb101):w0.heap.size≤gb101));have n6_:=mA ((by rw [hg];exact Nat.ne_of_lt (IsS113.lt (show IsS113 w0 _ g s0_0 s0_1 from by repeat (first|(with_reducible first|exact HI0.out|apply IsS113.alloc|apply IsS113.drewN|apply IsS113.drew|apply IsS113.set_1)|exact HI0.out))):g≠gb101));have n7_:=mA ((by rw [hg];exact Nat.ne_of_gt (IsS113.lt (show IsS113 w0 _ g s0_0 s0_1 from by repeat (first|(with_reducible first|exact HI0.out|apply IsS113.alloc|apply IsS113.drewN|apply IsS113.drew|apply IsS113.set_1)|exact HI0.out))):gb101≠g));clear HI0 HK HB;have HI0:=n0_;have HK:=n1_;have HB:=n2_;have BK101:=n3_;have GW101:=n4_;have GE101:=n5_;have NB0_101:=n6_;have NB101_0:=n7_;clear n0_ n1_ n2_ n3_ n4_ n5_ n6_ n7_ hb hbox hg)|((with_reducible refine gate_callee (f:=108) rfl ?_);refine goesL_ (some 11) rfl rfl Try.func108 (by kernel_rfl) rfl #[.pointer (some ⟨g,0,none⟩),.int .i64 ji4] rfl (by (try simp only [mT,mC,mN]);first|done|(simp only [hji4];rfl)|rfl|(simp only [lD,lT];rfl)) ?_;(with_reducible refine (spec_l20Rd_pick.calls k g s0_0 s0_1 ji4 t102 t103 w0 _ ?side1 ?side2 A5.out).mono ?_);(case side1=>repeat (first|(with_reducible first|exact HI0.out|apply IsS113.alloc|apply IsS113.drewN|apply IsS113.drew|apply IsS113.set_1|refine IsS113.far ?_ NB0_101.out _)|exact HI0.out));(case side2=>repeat (first|(with_reducible first|exact HB.out|apply bA|apply bN|apply bD|refine bS ?_ (IsS113.ge HI0.out)|refine bS ?_ GE101.out)|exact HB.out));rintro e w29 ⟨rfl,hi,hb,hk⟩;refine ⟨_,rfl,?_⟩;have n0_:=mA (KeepBut.blk hk (g':=gb101) (o:=.cells #[.int .i64 0,.slice none 0 0] 36 (0,0)) (by (with_reducible repeat (first|refine kN ?_ _|refine kD ?_|refine kA ?_ _));exact BK101.out) NB101_0.out (by simp));have n1_:=mA (KeepBut.trans (by repeat (first|(with_reducible first|exact HK.out|apply eS|apply eN|apply eD|apply eA|refine keep_far ?_ GW101.out _)|exact HK.out)) hk (.inl rfl));have n2_:=mA (hb);have n3_:=mA (hi);clear BK101 HK HB HI0;have BK101:=n0_;have HK:=n1_;have HB:=n2_;have HI0:=n3_;clear n0_ n1_ n2_ n3_;(try clear hb);(try clear hb2);(try clear hk);(try clear hi))|((with_reducible refine gate_callee (f:=128) rfl ?_);refine goesL_ (some 16) rfl rfl Try.func128 (by kernel_rfl) rfl #[.pointer (some ⟨g,0,none⟩),.int .i64 a1,.int .i64 (wrap64 (a2*2))] rfl (by (try simp only [mT,mC,mN]);first|done|rfl|(simp only [lD,lT];rfl)) ?_;(with_reducible refine (spec_l20Term.calls k g s0_0 t103 a1 (wrap64 (a2*2)) t104 t107 w0 _ ?side1 ?side2 A6.out).mono ?_);(case side1=>repeat (first|(with_reducible first|exact HI0.out|apply IsS113.alloc|apply IsS113.drewN|apply IsS113.drew|apply IsS113.set_1|refine IsS113.far ?_ NB0_101.out _)|exact HI0.out));(case side2=>repeat (first|(with_reducible first|exact HB.out|apply bA|apply bN|apply bD|refine bS ?_ (IsS113.ge HI0.out)|refine bS ?_ GE101.out)|exact HB.out));rintro e w30 ⟨v105,rfl,ho0,hi,hb,hk⟩;refine ⟨_,rfl,?_⟩;have n0_:=mA (KeepBut.blk hk (g':=gb101) (o:=.cells #[.int .i64 0,.slice none 0 0] 36 (0,0)) (by (with_reducible repeat (first|refine kN ?_ _|refine kD ?_|refine kA ?_ _));exact BK101.out) NB101_0.out (by simp));have n1_:=mA (Kd.R_lower ho0 (keep_size (w:=w) (g:=g) (row:=none) (by repeat (first|(with_reducible first|exact HK.out|apply eS|apply eN|apply eD|apply eA|refine keep_far ?_ GW101.out _)|exact HK.out))));have n2_:=mA (KeepBut.trans (by repeat (first|(with_reducible first|exact HK.out|apply eS|apply eN|apply eD|apply eA|refine keep_far ?_ GW101.out _)|exact HK.out)) hk (.inl rfl));have n3_:=mA (hb);have n4_:=mA (hi);clear BK101 HK HB HI0;have BK101:=n0_;have HO106:=n1_;have HK:=n2_;have HB:=n3_;have HI0:=n4_;clear n0_ n1_ n2_ n3_ n4_;(try clear hb);(try clear hb2);(try clear hk);(try clear hi);(try clear ho0);obtain ⟨Ao31,co31,eo31⟩:=Kd.R_slice HO106.out;subst eo31)|((with_reducible refine gate_dst (N:=7) rfl ?_);refine box_event ?hg (N:=7) ?hd (cs:=#[.int .i64 0,.slice none 0 0]) (t:=36) ?hr ?_;(case hd=>rfl);(case hg=>rfl);(case hr=>first|(go_simp;done)|(go_simp;rfl));intro gb108 hg w32 hbox hb;have n0_:=mA (rB (by (with_reducible repeat (first|apply rA|apply rN|apply rD));exact HO106.out) hb);have n1_:=mA (IsS113.below (by repeat (first|(with_reducible first|exact HI0.out|apply IsS113.alloc|apply IsS113.drewN|apply IsS113.drew|apply IsS113.set_1|refine IsS113.far ?_ NB0_101.out _)|exact HI0.out)) hb);have n2_:=mA (blk_below (g:=gb101) (o:=.cells #[.int .i64 0,.slice none 0 0] 36 (0,0)) (by (with_reducible repeat (first|refine kN ?_ _|refine kD ?_|refine kA ?_ _));exact BK101.out) hb);have n3_:=mA (KeepBut.trans (by repeat (first|(with_reducible first|exact HK.out|apply eS|apply eN|apply eD|apply eA|refine keep_far ?_ GW101.out _)|exact HK.out)) (KeepBut.of_below hb g none) (.inl rfl));have n4_:=mA (bT (by repeat (first|(with_reducible first|exact HB.out|apply bA|apply bN|apply bD|refine bS ?_ (IsS113.ge HI0.out)|refine bS ?_ GE101.out)|exact HB.out)) hb);have n5_:=mA (hbox);have n6_:=mA ((by rw [hg];exact (keep_size (w:=w) (g:=g) (row:=none) (by repeat (first|(with_reducible first|exact HK.out|apply eS|apply eN|apply eD|apply eA|refine keep_far ?_ GW101.out _)|exact HK.out))):w.heap.size≤gb108));have n7_:=mA ((Nat.le_trans HW0.out (by rw [hg];exact (keep_size (w:=w) (g:=g) (row:=none) (by repeat (first|(with_reducible first|exact HK.out|apply eS|apply eN|apply eD|apply eA|refine keep_far ?_ GW101.out _)|exact HK.out))):w.heap.size≤gb108):w0.heap.size≤gb108));have n8_:=mA ((by rw [hg];exact Nat.ne_of_lt (blk_lt (g:=gb101) (o:=.cells #[.int .i64 0,.slice none 0 0] 36 (0,0)) (by (with_reducible repeat (first|refine kN ?_ _|refine kD ?_|refine kA ?_ _));exact BK101.out)):gb101≠gb108));have n9_:=mA ((by rw [hg];exact Nat.ne_of_gt (blk_lt (g:=gb101) (o:=.cells #[.int .i64 0,.slice none 0 0] 36 (0,0)) (by (with_reducible repeat (first|refine kN ?_ _|refine kD ?_|refine kA ?_ _));exact BK101.out)):gb108≠gb101));have n10_:=mA ((by rw [hg];exact Nat.ne_of_lt (IsS113.lt (show IsS113 w0 _ g s0_0 t107 from by repeat (first|(with_reducible first|exact HI0.out|apply IsS113.alloc|apply IsS113.drewN|apply IsS113.drew|apply IsS113.set_1|refine IsS113.far ?_ NB0_101.out _)|exact HI0.out))):g≠gb108));have n11_:=mA ((by rw [hg];exact Nat.ne_of_gt (IsS113.lt (show IsS113 w0 _ g s0_0 t107 from by repeat (first|(with_reducible first|exact HI0.out|apply IsS113.alloc|apply IsS113.drewN|apply IsS113.drew|apply IsS113.set_1|refine IsS113.far ?_ NB0_101.out _)|exact HI0.out))):gb108≠g));clear HO106 HI0 BK101 HK HB;have HO106:=n0_;have HI0:=n1_;have BK101:=n2_;have HK:=n3_;have HB:=n4_;have BK108:=n5_;have GW108:=n6_;have GE108:=n7_;have NB101_108:=n8_;have NB108_101:=n9_;have NB0_108:=n10_;have NB108_0:=n11_;clear n0_ n1_ n2_ n3_ n4_ n5_ n6_ n7_ n8_ n9_ n10_ n11_ hb hbox hg;have hnb33:=NB108_101.out;have hnc33:=NB101_108.out;have hnb34:=NB108_0.out;have hnc34:=NB0_108.out;have hcz35_0:w32.cell? ⟨gb108,0,none⟩=some (.int .i64 0):=(kC BK108.out 0).trans rfl;have hcz35_1:w32.cell? ⟨gb108,1,none⟩=some (.slice none 0 0):=(kC BK108.out 1).trans rfl;have hfz35_0:=kF BK108.out 0;have hfz35_1:=kF BK108.out 1)|((with_reducible refine gate_callee (f:=139) rfl ?_);refine goesL_ (some 20) rfl rfl Try.func139 (by kernel_rfl) rfl #[.pointer (some ⟨g,0,none⟩),.int .i64 a2] rfl (by (try simp only [mT,mC,mN]);first|done|rfl|(simp only [lD,lT];rfl)) ?_;(with_reducible refine (spec_l20Rd_odd.calls k g s0_0 t107 a2 false t110 w0 _ ?side1 ?side2 A7.out).mono ?_);(case side1=>repeat (first|(with_reducible first|exact HI0.out|apply IsS113.alloc|apply IsS113.drewN|apply IsS113.drew|apply IsS113.set_1|refine IsS113.far ?_ NB0_101.out _|refine IsS113.far ?_ NB0_108.out _)|exact HI0.out));(case side2=>repeat (first|(with_reducible first|exact HB.out|apply bA|apply bN|apply bD|refine bS ?_ (IsS113.ge HI0.out)|refine bS ?_ GE101.out|refine bS ?_ GE108.out)|exact HB.out));rintro e w36 ⟨rfl,hi,hb,hk⟩;refine ⟨_,rfl,?_⟩;have n0_:=mA (KeepBut.blk hk (g':=gb101) (o:=.cells #[.int .i64 0,.slice none 0 0] 36 (0,0)) (by (with_reducible repeat (first|refine kN ?_ _|refine kD ?_|refine kA ?_ _));refine blk_far ?_ NB101_108.out _;(with_reducible repeat (first|refine kN ?_ _|refine kD ?_|refine kA ?_ _));refine blk_far ?_ NB101_108.out _;(with_reducible repeat (first|refine kN ?_ _|refine kD ?_|refine kA ?_ _));exact BK101.out) NB101_0.out (by simp));have n1_:=mA (rM (Kd.R_keep (IsS113.apart (show IsS113 w0 _ g s0_0 t107 from by repeat (first|(with_reducible first|exact HI0.out|apply IsS113.alloc|apply IsS113.drewN|apply IsS113.drew|apply IsS113.set_1|refine IsS113.far ?_ NB0_101.out _|refine IsS113.far ?_ NB0_108.out _)|exact HI0.out)) (by (with_reducible repeat (first|apply rA|apply rN|apply rD));exact (rM (rF (p:=⟨gb108,1,none⟩) (rF (p:=⟨gb108,0,none⟩) (Kd.R_types HO106.out BK108.out (by decide)) (fun _ hk=>hk.2) (.int .i64 t102)) (fun _ hk=>hk.2) (.slice Ao31 t104.length co31)) (fun _ h_=>h_.1))) (by decide)) hk (fun _ h=>h.2)) (fun _ h=>h.1));have n2_:=mA (KeepBut.blk hk (g':=gb108) (o:=.cells #[.int .i64 t102,.slice Ao31 t104.length co31] 36 (0,0)) (by (with_reducible repeat (first|refine kN ?_ _|refine kD ?_|refine kA ?_ _));refine blk_put (cs:=#[.int .i64 t102,.slice none 0 0]) ?_ 1 _ rfl;(with_reducible repeat (first|refine kN ?_ _|refine kD ?_|refine kA ?_ _));refine blk_put (cs:=#[.int .i64 0,.slice none 0 0]) ?_ 0 _ rfl;(with_reducible repeat (first|refine kN ?_ _|refine kD ?_|refine kA ?_ _));exact BK108.out) NB108_0.out (by simp));have n3_:=mA (KeepBut.trans (by repeat (first|(with_reducible first|exact HK.out|apply eS|apply eN|apply eD|apply eA|refine keep_far ?_ GW101.out _|refine keep_far ?_ GW108.out _)|exact HK.out)) hk (.inl rfl));have n4_:=mA (hb);have n5_:=mA (hi);clear BK101 HO106 BK108 HK HB HI0;have BK101:=n0_;have HO106:=n1_;have BK108:=n2_;have HK:=n3_;have HB:=n4_;have HI0:=n5_;clear n0_ n1_ n2_ n3_ n4_ n5_;(try clear hb);(try clear hb2);(try clear hk);(try clear hi);have hcz37_0:w36.cell? ⟨gb108,0,none⟩=some (.int .i64 t102):=(kC BK108.out 0).trans rfl;have hcz37_1:w36.cell? ⟨gb108,1,none⟩=some (.slice Ao31 t104.length co31):=(kC BK108.out 1).trans rfl;have hfz37_0:=kF BK108.out 0;have hfz37_1:=kF BK108.out 1;have hnb38:=NB101_0.out;have hnc38:=NB0_101.out;have hcz39_0:w36.cell? ⟨gb101,0,none⟩=some (.int .i64 0):=(kC BK101.out 0).trans rfl;have hcz39_1:w36.cell? ⟨gb101,1,none⟩=some (.slice none 0 0):=(kC BK101.out 1).trans rfl;have hfz39_0:=kF BK101.out 0;have hfz39_1:=kF BK101.out 1))
  refine bodyPost_ret (results_cell_row rfl _ _ gb101 36 #[.int .i64 t102,.slice Ao31 t104.length co31] (0,0) _ rfl (by (with_reducible repeat (first|refine kN ?_ _|refine kD ?_|refine kA ?_ _));refine blk_put (cs:=#[.int .i64 t102,.slice none 0 0]) ?_ 1 _ rfl;(with_reducible repeat (first|refine kN ?_ _|refine kD ?_|refine kA ?_ _));refine blk_put (cs:=#[.int .i64 0,.slice none 0 0]) ?_ 0 _ rfl;(with_reducible repeat (first|refine kN ?_ _|refine kD ?_|refine kA ?_ _));exact BK101.out) Try.underlying36 rfl (by kernel_rfl)) rfl ?_
  exact ⟨_,by first|rfl|(simp [errW_none,errW_some]<;>rfl)|(simp only [←hji4];first|rfl|(simp [errW_none,errW_some]<;>rfl))|(simp [*, errW_none,errW_some]<;>rfl),by (with_reducible repeat (first|apply rA|apply rN|apply rD));exact rM (rF (p:=⟨gb101,1,none⟩) (rF (p:=⟨gb101,0,none⟩) (Kd.R_types HO106.out BK101.out (by decide)) (fun _ hk=>hk.2) (.int .i64 t102)) (fun _ hk=>hk.2) (.slice Ao31 t104.length co31)) (fun _ hk=>trivial),by repeat (first|(with_reducible first|exact HI0.out|apply IsS113.alloc|apply IsS113.drewN|apply IsS113.drew|apply IsS113.set_1|refine IsS113.far ?_ NB0_101.out _|refine IsS113.far ?_ NB0_108.out _)|exact HI0.out),by repeat (first|(with_reducible first|exact HB.out|apply bA|apply bN|apply bD|refine bS ?_ (IsS113.ge HI0.out)|refine bS ?_ GE101.out|refine bS ?_ GE108.out)|exact HB.out),by repeat (first|(with_reducible first|exact HK.out|apply eS|apply eN|apply eD|apply eA|refine keep_far ?_ GW101.out _|refine keep_far ?_ GW108.out _)|exact HK.out)⟩
/-! ### spec_l20Claimed: function 107 -/
def spec_l20Claimed.f (k:Nat) (s0_0:List Int) (s0_1:Int) (a1:Int):Option (Int×Int×(List (S33))×Int):=(spec_l20Rd_pick.f k s0_0 s0_1 4).bind fun bt102=>((spec_l20Claim.f k s0_0 bt102.2 (wrap64 (1+bt102.1)) a1).bind fun bt104=>(some (wrap64 (1+bt102.1),bt104.1,bt104.2.1,bt104.2.2)))
theorem spec_l20Claimed.mono : ∀ a0 a1 a2 k,LeO (spec_l20Claimed.f k a0 a1 a2) (spec_l20Claimed.f (k+1) a0 a1 a2):=by
 intro a0 a1 a2 k
 unfold spec_l20Claimed.f
 repeat' first
   | (with_reducible exact spec_l20Claim.mono _ _ _ _ _)
   | (with_reducible exact spec_l20Rd_pick.mono _ _ _ _)
   | (with_reducible exact LeO.refl _)
   | (with_reducible exact LeO.none _)
   | (with_reducible refine LeO.ite ?_ ?_)
   | (with_reducible refine LeO.bind ?_ (fun _=>?_))
   | exact spec_l20Claim.mono _ _ _ _ _
   | exact spec_l20Rd_pick.mono _ _ _ _
   | exact LeO.none _
   | refine LeO.ite ?_ ?_
   | refine LeO.bind ?_ (fun _=>?_)
set_option maxHeartbeats 8000000 in
set_option maxRecDepth 100000 in
theorem spec_l20Claimed.calls (k:Nat) (g:Nat) (s0_0:List Int) (s0_1:Int) (a1:Int) (r1:Int) (r2:Int) (r3:List (S33)) (r4:Int) (w0 w:World) (hI:IsS113 w0 w g s0_0 s0_1) (hB:Below w0.heap.size w0 w) (h:spec_l20Claimed.f k s0_0 s0_1 a1=some (r1,r2,r3,r4)) :
  Calls Try.prog 107 #[.pointer (some ⟨g,0,none⟩),.int .i64 a1] w fun e w'=>∃ v2_:Value,e = .returned (.tuple #[.int .i64 r1,.agg #[.int .i64 r2,v2_]])∧Kd.R k33 33 w' w.heap.size (fun _=>True) v2_ r3∧IsS113 w0 w' g s0_0 r4∧Below w0.heap.size w0 w'∧KeepBut w w' g none:=by
 have hu36:=Try.underlying36
 have HI0:=mA hI
 have HK:=mA (KeepBut.refl w g none)
 have HL:=mA hB.size
 clear hI
 have HW0:=mA hB.size
 have HB:=mA hB
 clear hB
 have H:((spec_l20Rd_pick.f k s0_0 s0_1 4).bind fun bt102=>((spec_l20Claim.f k s0_0 bt102.2 (wrap64 (1+bt102.1)) a1).bind fun bt104=>(some (wrap64 (1+bt102.1),bt104.1,bt104.2.1,bt104.2.2))))=some (r1,r2,r3,r4):=h
 clear h
 replace H:=Option.bind_eq_some_iff.mp H
 obtain ⟨⟨t102,t103⟩,A30,H⟩:=H
 replace H:((spec_l20Claim.f k s0_0 t103 (wrap64 (1+t102)) a1).bind fun bt104=>(some (wrap64 (1+t102),bt104.1,bt104.2.1,bt104.2.2)))=some (r1,r2,r3,r4):=H
 have A3:=mA A30
 clear A30
 replace H:=Option.bind_eq_some_iff.mp H
 obtain ⟨⟨t104,t105,t108⟩,A40,H⟩:=H
 replace H:(some (wrap64 (1+t102),t104,t105,t108))=some (r1,r2,r3,r4):=H
 have A4:=mA A40
 clear A40
 simp only [Option.some.injEq,Prod.mk.injEq] at H
 obtain ⟨rfl,rfl,rfl,rfl⟩:=H
 go_enter Try.func107,Try.ntmps107
 go_wp2_with (first|((with_reducible refine gate_dst (N:=5) rfl ?_);refine box_event ?hg (N:=5) ?hd (cs:=#[.int .i64 0,.slice none 0 0]) (t:=36) ?hr ?_;(case hd=>rfl);(case hg=>rfl);(case hr=>first|(go_simp;done)|(go_simp;rfl));intro gb101 hg w5 hbox hb;have n0_:=mA (IsS113.below (by repeat (first|(with_reducible first|exact HI0.out|apply IsS113.alloc|apply IsS113.drewN|apply IsS113.drew|apply IsS113.set_1)|exact HI0.out)) hb);have n1_:=mA (KeepBut.trans (by repeat (first|(with_reducible first|exact HK.out|apply eS|apply eN|apply eD|apply eA)|exact HK.out)) (KeepBut.of_below hb g none) (.inl rfl));have n2_:=mA (bT (by repeat (first|(with_reducible first|exact HB.out|apply bA|apply bN|apply bD|refine bS ?_ (IsS113.ge HI0.out))|exact HB.out)) hb);have n3_:=mA (hbox);have n4_:=mA ((by rw [hg];exact (keep_size (w:=w) (g:=g) (row:=none) (by repeat (first|(with_reducible first|exact HK.out|apply eS|apply eN|apply eD|apply eA)|exact HK.out))):w.heap.size≤gb101));have n5_:=mA ((Nat.le_trans HW0.out (by rw [hg];exact (keep_size (w:=w) (g:=g) (row:=none) (by repeat (first|(with_reducible first|exact HK.out|apply eS|apply eN|apply eD|apply eA)|exact HK.out))):w.heap.size≤gb101):w0.heap.size≤gb101));have n6_:=mA ((by rw [hg];exact Nat.ne_of_lt (IsS113.lt (show IsS113 w0 _ g s0_0 s0_1 from by repeat (first|(with_reducible first|exact HI0.out|apply IsS113.alloc|apply IsS113.drewN|apply IsS113.drew|apply IsS113.set_1)|exact HI0.out))):g≠gb101));have n7_:=mA ((by rw [hg];exact Nat.ne_of_gt (IsS113.lt (show IsS113 w0 _ g s0_0 s0_1 from by repeat (first|(with_reducible first|exact HI0.out|apply IsS113.alloc|apply IsS113.drewN|apply IsS113.drew|apply IsS113.set_1)|exact HI0.out))):gb101≠g));clear HI0 HK HB;have HI0:=n0_;have HK:=n1_;have HB:=n2_;have BK101:=n3_;have GW101:=n4_;have GE101:=n5_;have NB0_101:=n6_;have NB101_0:=n7_;clear n0_ n1_ n2_ n3_ n4_ n5_ n6_ n7_ hb hbox hg)|((with_reducible refine gate_callee (f:=108) rfl ?_);refine goesL_ (some 8) rfl rfl Try.func108 (by kernel_rfl) rfl #[.pointer (some ⟨g,0,none⟩),.int .i64 4] rfl (by (try simp only [mT,mC,mN]);first|done|rfl|(simp only [lD,lT];rfl)) ?_;(with_reducible refine (spec_l20Rd_pick.calls k g s0_0 s0_1 4 t102 t103 w0 _ ?side1 ?side2 A3.out).mono ?_);(case side1=>repeat (first|(with_reducible first|exact HI0.out|apply IsS113.alloc|apply IsS113.drewN|apply IsS113.drew|apply IsS113.set_1|refine IsS113.far ?_ NB0_101.out _)|exact HI0.out));(case side2=>repeat (first|(with_reducible first|exact HB.out|apply bA|apply bN|apply bD|refine bS ?_ (IsS113.ge HI0.out)|refine bS ?_ GE101.out)|exact HB.out));rintro e w6 ⟨rfl,hi,hb,hk⟩;refine ⟨_,rfl,?_⟩;have n0_:=mA (KeepBut.blk hk (g':=gb101) (o:=.cells #[.int .i64 0,.slice none 0 0] 36 (0,0)) (by (with_reducible repeat (first|refine kN ?_ _|refine kD ?_|refine kA ?_ _));exact BK101.out) NB101_0.out (by simp));have n1_:=mA (KeepBut.trans (by repeat (first|(with_reducible first|exact HK.out|apply eS|apply eN|apply eD|apply eA|refine keep_far ?_ GW101.out _)|exact HK.out)) hk (.inl rfl));have n2_:=mA (hb);have n3_:=mA (hi);clear BK101 HK HB HI0;have BK101:=n0_;have HK:=n1_;have HB:=n2_;have HI0:=n3_;clear n0_ n1_ n2_ n3_;(try clear hb);(try clear hb2);(try clear hk);(try clear hi))|((with_reducible refine gate_callee (f:=138) rfl ?_);refine goesL_ (some 14) rfl rfl Try.func138 (by kernel_rfl) rfl #[.pointer (some ⟨g,0,none⟩),.int .i64 (wrap64 (1+t102)),.int .i64 a1] rfl (by (try simp only [mT,mC,mN]);first|done|rfl|(simp only [lD,lT];rfl)) ?_;(with_reducible refine (spec_l20Claim.calls k g s0_0 t103 (wrap64 (1+t102)) a1 t104 t105 t108 w0 _ ?side1 ?side2 A4.out).mono ?_);(case side1=>repeat (first|(with_reducible first|exact HI0.out|apply IsS113.alloc|apply IsS113.drewN|apply IsS113.drew|apply IsS113.set_1|refine IsS113.far ?_ NB0_101.out _)|exact HI0.out));(case side2=>repeat (first|(with_reducible first|exact HB.out|apply bA|apply bN|apply bD|refine bS ?_ (IsS113.ge HI0.out)|refine bS ?_ GE101.out)|exact HB.out));rintro e w7 ⟨v106,rfl,ho0,hi,hb,hk⟩;refine ⟨_,rfl,?_⟩;have n0_:=mA (KeepBut.blk hk (g':=gb101) (o:=.cells #[.int .i64 0,.slice none 0 0] 36 (0,0)) (by (with_reducible repeat (first|refine kN ?_ _|refine kD ?_|refine kA ?_ _));exact BK101.out) NB101_0.out (by simp));have n1_:=mA (Kd.R_lower ho0 (keep_size (w:=w) (g:=g) (row:=none) (by repeat (first|(with_reducible first|exact HK.out|apply eS|apply eN|apply eD|apply eA|refine keep_far ?_ GW101.out _)|exact HK.out))));have n2_:=mA (KeepBut.trans (by repeat (first|(with_reducible first|exact HK.out|apply eS|apply eN|apply eD|apply eA|refine keep_far ?_ GW101.out _)|exact HK.out)) hk (.inl rfl));have n3_:=mA (hb);have n4_:=mA (hi);clear BK101 HK HB HI0;have BK101:=n0_;have HO107:=n1_;have HK:=n2_;have HB:=n3_;have HI0:=n4_;clear n0_ n1_ n2_ n3_ n4_;(try clear hb);(try clear hb2);(try clear hk);(try clear hi);(try clear ho0);have hnb8:=NB101_0.out;have hnc8:=NB0_101.out;have hcz9_0:w7.cell? ⟨gb101,0,none⟩=some (.int .i64 0):=(kC BK101.out 0).trans rfl;have hcz9_1:w7.cell? ⟨gb101,1,none⟩=some (.slice none 0 0):=(kC BK101.out 1).trans rfl;have hfz9_0:=kF BK101.out 0;have hfz9_1:=kF BK101.out 1;obtain ⟨Ao10,co10,eo10⟩:=Kd.R_slice HO107.out;subst eo10))
 refine bodyPost_ret (results_tc rfl _ _ gb101 36 #[.int .i64 t104,.slice Ao10 t105.length co10] (0,0) _ rfl (by (with_reducible repeat (first|refine kN ?_ _|refine kD ?_|refine kA ?_ _));refine blk_put (cs:=#[.int .i64 t104,.slice none 0 0]) ?_ 1 _ rfl;(with_reducible repeat (first|refine kN ?_ _|refine kD ?_|refine kA ?_ _));refine blk_put (cs:=#[.int .i64 0,.slice none 0 0]) ?_ 0 _ rfl;(with_reducible repeat (first|refine kN ?_ _|refine kD ?_|refine kA ?_ _));exact BK101.out) Try.underlying36 rfl (by kernel_rfl)) rfl ?_
 exact ⟨_,by first|rfl|(simp [errW_none,errW_some]<;>rfl)|(simp [*, errW_none,errW_some]<;>rfl),by (with_reducible repeat (first|apply rA|apply rN|apply rD));exact rM (rF (p:=⟨gb101,1,none⟩) (rF (p:=⟨gb101,0,none⟩) (Kd.R_types HO107.out BK101.out (by decide)) (fun _ hk=>hk.2) (.int .i64 t104)) (fun _ hk=>hk.2) (.slice Ao10 t105.length co10)) (fun _ hk=>trivial),by repeat (first|(with_reducible first|exact HI0.out|apply IsS113.alloc|apply IsS113.drewN|apply IsS113.drew|apply IsS113.set_1|refine IsS113.far ?_ NB0_101.out _)|exact HI0.out),by repeat (first|(with_reducible first|exact HB.out|apply bA|apply bN|apply bD|refine bS ?_ (IsS113.ge HI0.out)|refine bS ?_ GE101.out)|exact HB.out),by repeat (first|(with_reducible first|exact HK.out|apply eS|apply eN|apply eD|apply eA|refine keep_far ?_ GW101.out _)|exact HK.out)⟩
/-! ### spec_DrawMaySay: function 34 -/
def spec_DrawMaySay.f (k:Nat) (l0:List Int):Option (Int×Int×(List (S33))×Int):=(spec_l20Open.f l0).bind fun bt102=>((spec_l20Claimed.f k bt102.1 bt102.2 14).bind fun bt105=>(if 0≤bt105.1 then ((spec_l20Rd_pick.f k bt102.1 bt105.2.2.2 (shl .i64 1 bt105.1)).bind fun bt112=>((spec_l20Rd_pick.f k bt102.1 bt112.2 40).bind fun bt114=>(some (bt105.1,bt105.2.1,bt105.2.2.1,wrap64 (bt112.1+(wrap64 ((wrap64 (Int.tdiv bt114.1 39))*16))))))) else (none)))
theorem spec_DrawMaySay.mono : ∀ a0 k,LeO (spec_DrawMaySay.f k a0) (spec_DrawMaySay.f (k+1) a0):=by
 intro a0 k
 unfold spec_DrawMaySay.f
 repeat' first
   | (with_reducible exact spec_l20Claimed.mono _ _ _ _)
   | (with_reducible exact spec_l20Rd_pick.mono _ _ _ _)
   | (with_reducible exact LeO.refl _)
   | (with_reducible exact LeO.none _)
   | (with_reducible refine LeO.ite ?_ ?_)
   | (with_reducible refine LeO.bind ?_ (fun _=>?_))
   | exact spec_l20Claimed.mono _ _ _ _
   | exact spec_l20Rd_pick.mono _ _ _ _
   | exact LeO.none _
   | refine LeO.ite ?_ ?_
   | refine LeO.bind ?_ (fun _=>?_)
def spec_DrawMaySay.T3:Bool×List (List Nat×List Nat):=(true,[([],[]),([],[]),([],[]),([],[]),([3],[3]),([2,4],[2,4]),([],[]),([6,5],[6]),([7],[7]),([8],[8]),([5,9],[5,9]),([0,7,0],[0]),([1,11,0,1,11],[1]),([10,12,0,1,2,3,4,5,6,7,8,9,10,11,12],[10])])
def spec_DrawMaySay.B3:List Nat:=[0,0,0,0,8,28,0,124,252,508,1020,253,2303,8191]
theorem spec_DrawMaySay.tab3:rtab .any (opsOf Try.f34 3)=spec_DrawMaySay.T3:=by kernel_rfl
theorem spec_DrawMaySay.bits3:waitsOk spec_DrawMaySay.T3.2 spec_DrawMaySay.B3=true:=by kernel_rfl
set_option maxHeartbeats 8000000 in
set_option maxRecDepth 100000 in
theorem spec_DrawMaySay.calls (k:Nat) (A0:Option Addr) (c0:Nat) (l0:List Int) (r1:Int) (r2:Int) (r3:List (S33)) (r4:Int) (w:World) (hr0:Kd.C (Kd.int .u8) w A0 l0.length l0) (hc0:l0.length≤c0) (h:spec_DrawMaySay.f k l0=some (r1,r2,r3,r4)) :
  Calls Try.prog 34 #[.slice A0 l0.length c0] w fun e w'=>∃ v2_:Value,e = .returned (.tuple #[.int .i64 r1,.agg #[.int .i64 r2,v2_],.int .i64 r4])∧Kd.R k33 33 w' w.heap.size (fun _=>True) v2_ r3∧Below w.heap.size w w':=by
 have hu36:=Try.underlying36
 have HR0:=mA hr0
 have HC0:=mA hc0
 clear hr0 hc0
 have HB:=mA (Below.refl w.heap.size w)
 have H:((spec_l20Open.f l0).bind fun bt102=>((spec_l20Claimed.f k bt102.1 bt102.2 14).bind fun bt105=>(if 0≤bt105.1 then ((spec_l20Rd_pick.f k bt102.1 bt105.2.2.2 (shl .i64 1 bt105.1)).bind fun bt112=>((spec_l20Rd_pick.f k bt102.1 bt112.2 40).bind fun bt114=>(some (bt105.1,bt105.2.1,bt105.2.2.1,wrap64 (bt112.1+(wrap64 ((wrap64 (Int.tdiv bt114.1 39))*16))))))) else (none))))=some (r1,r2,r3,r4):=h
 clear h
 replace H:=Option.bind_eq_some_iff.mp H
 obtain ⟨⟨t102,t103⟩,A20,H⟩:=H
 replace H:((spec_l20Claimed.f k t102 t103 14).bind fun bt105=>(if 0≤bt105.1 then ((spec_l20Rd_pick.f k t102 bt105.2.2.2 (shl .i64 1 bt105.1)).bind fun bt112=>((spec_l20Rd_pick.f k t102 bt112.2 40).bind fun bt114=>(some (bt105.1,bt105.2.1,bt105.2.2.1,wrap64 (bt112.1+(wrap64 ((wrap64 (Int.tdiv bt114.1 39))*16))))))) else (none)))=some (r1,r2,r3,r4):=H
 have A2:=mA A20
 clear A20
 replace H:=Option.bind_eq_some_iff.mp H
 obtain ⟨⟨t105,t106,t107,t110⟩,A30,H⟩:=H
 replace H:(if 0≤t105 then ((spec_l20Rd_pick.f k t102 t110 (shl .i64 1 t105)).bind fun bt112=>((spec_l20Rd_pick.f k t102 bt112.2 40).bind fun bt114=>(some (t105,t106,t107,wrap64 (bt112.1+(wrap64 ((wrap64 (Int.tdiv bt114.1 39))*16))))))) else (none))=some (r1,r2,r3,r4):=H
 have A3:=mA A30
 clear A30
 by_cases c4:0≤t105
 ·rw [if_pos c4] at H
  have c4b0:=eq_true c4
  have c4b1:decide (0≤t105)=true:=decide_eq_true c4
  clear c4
  obtain ⟨ji5,hji5⟩ : ∃ j_:Int,(shl .i64 1 t105)=j_:=⟨_,rfl⟩
  replace H:((spec_l20Rd_pick.f k t102 t110 (ji5)).bind fun bt112=>((spec_l20Rd_pick.f k t102 bt112.2 40).bind fun bt114=>(some (t105,t106,t107,wrap64 (bt112.1+(wrap64 ((wrap64 (Int.tdiv bt114.1 39))*16)))))))=some (r1,r2,r3,r4):=by first|(rw [hji5] at H;exact H)|(simp only [hji5] at H ⊢;exact H)
  (try rw [hji5] at A2)
  (try rw [hji5] at A3)
  have hji5_:(IntKind.i64.wrap (1*2^min t105.toNat 64))=ji5:=hji5
  have hji5z:t105≤64→(IntKind.i64.wrap (1*2^t105.toNat))=ji5:=shl_small hji5
  have hji5u:(IntKind.i64.wrap (2^min t105.toNat 64))=ji5:=by have h_:=hji5_;rw [Int.one_mul] at h_;exact h_
  have hji5v:t105≤64→(IntKind.i64.wrap (2^t105.toNat))=ji5:=fun hle_=>by have h_:=hji5z hle_;rw [Int.one_mul] at h_;exact h_
  have hji5y:(wrap64 (1*2^min t105.toNat 64))=ji5:=(i64_w _).symm.trans hji5_
  have hji5x:t105≤64→(wrap64 (1*2^t105.toNat))=ji5:=fun h_=>(i64_w _).symm.trans (hji5z h_)
  replace H:=Option.bind_eq_some_iff.mp H
  obtain ⟨⟨t112,t113⟩,A60,H⟩:=H
  replace H:((spec_l20Rd_pick.f k t102 t113 40).bind fun bt114=>(some (t105,t106,t107,wrap64 (t112+(wrap64 ((wrap64 (Int.tdiv bt114.1 39))*16))))))=some (r1,r2,r3,r4):=H
  have A6:=mA A60
  clear A60
  replace H:=Option.bind_eq_some_iff.mp H
  obtain ⟨⟨t114,t115⟩,A70,H⟩:=H
  replace H:(some (t105,t106,t107,wrap64 (t112+(wrap64 ((wrap64 (Int.tdiv t114 39))*16)))))=some (r1,r2,r3,r4):=H
  have A7:=mA A70
  clear A70
  simp only [Option.some.injEq,Prod.mk.injEq] at H
  obtain ⟨rfl,rfl,rfl,rfl⟩:=H
  go_enter Try.func34,Try.ntmps34
  try go_wp2_with (first|((with_reducible refine gate_dst (N:=3) rfl ?_);refine box_event ?hg (N:=3) ?hd (cs:=#[.int .i64 0,.slice none 0 0]) (t:=36) ?hr ?_;(case hd=>rfl);(case hg=>rfl);(case hr=>first|(go_simp;done)|(go_simp;rfl));intro gb101 hg w8 hbox hb;have n0_:=mA (bT (by repeat (first|(with_reducible first|exact HB.out|apply bA|apply bN|apply bD)|exact HB.out)) hb);have n1_:=mA (hbox);have n2_:=mA ((by rw [hg];exact (bZ (by repeat (first|(with_reducible first|exact HB.out|apply bA|apply bN|apply bD)|exact HB.out))):w.heap.size≤gb101));have n3_:=mA ((by rw [hg];exact (bZ (by repeat (first|(with_reducible first|exact HB.out|apply bA|apply bN|apply bD)|exact HB.out))):w.heap.size≤gb101));clear HB;have HB:=n0_;have BK101:=n1_;have GW101:=n2_;have GE101:=n3_;clear n0_ n1_ n2_ n3_ hb hbox hg)|((with_reducible refine gate_callee (f:=97) rfl ?_);refine goesL_ (some 9) rfl rfl Try.func97 (by kernel_rfl) rfl #[.slice A0 l0.length c0] rfl (by (try simp only [mT,mC,mN]);first|done|rfl|(simp only [lD,lT];rfl)) ?_;(with_reducible refine (spec_l20Open.calls _ _ l0 t102 t103 w _ ?side1 ?side2 ?side3 A2.out).mono ?_);(case side1=>repeat (first|(with_reducible first|exact HB.out|apply bA|apply bN|apply bD|refine bS ?_ GE101.out)|exact HB.out));(case side2=>exact HR0.out);(case side3=>exact HC0.out);rintro e w9 ⟨g104,rfl,hi,hb,hb2⟩;refine ⟨_,rfl,?_⟩;have n0_:=mA (blk_below (g:=gb101) (o:=.cells #[.int .i64 0,.slice none 0 0] 36 (0,0)) (by (with_reducible repeat (first|refine kN ?_ _|refine kD ?_|refine kA ?_ _));exact BK101.out) hb2);have n1_:=mA (hb);have n2_:=mA (hi);have n3_:=mA (IsS113.ne_blk hi (blk_below (g:=gb101) (o:=.cells #[.int .i64 0,.slice none 0 0] 36 (0,0)) (by (with_reducible repeat (first|refine kN ?_ _|refine kD ?_|refine kA ?_ _));exact BK101.out) hb2) (by decide));have n4_:=mA (Ne.symm (IsS113.ne_blk hi (blk_below (g:=gb101) (o:=.cells #[.int .i64 0,.slice none 0 0] 36 (0,0)) (by (with_reducible repeat (first|refine kN ?_ _|refine kD ?_|refine kA ?_ _));exact BK101.out) hb2) (by decide)));clear BK101 HB;have BK101:=n0_;have HB:=n1_;have HI104:=n2_;have NB104_101:=n3_;have NB101_104:=n4_;clear n0_ n1_ n2_ n3_ n4_;(try clear hb);(try clear hb2);(try clear hk);(try clear hi))|((with_reducible refine gate_callee (f:=107) rfl ?_);refine goesL_ (some 12) rfl rfl Try.func107 (by kernel_rfl) rfl #[.pointer (some ⟨g104,0,none⟩),.int .i64 14] rfl (by (try simp only [mT,mC,mN]);first|done|rfl|(simp only [lD,lT];rfl)) ?_;(with_reducible refine (spec_l20Claimed.calls k g104 t102 t103 14 t105 t106 t107 t110 w _ ?side1 ?side2 A3.out).mono ?_);(case side1=>repeat (first|(with_reducible first|exact HI104.out|apply IsS113.alloc|apply IsS113.drewN|apply IsS113.drew|apply IsS113.set_1|refine IsS113.far ?_ NB104_101.out _)|exact HI104.out));(case side2=>repeat (first|(with_reducible first|exact HB.out|apply bA|apply bN|apply bD|refine bS ?_ (IsS113.ge HI104.out)|refine bS ?_ GE101.out)|exact HB.out));rintro e w10 ⟨v108,rfl,ho0,hi,hb,hk⟩;refine ⟨_,rfl,?_⟩;have n0_:=mA (KeepBut.blk hk (g':=gb101) (o:=.cells #[.int .i64 0,.slice none 0 0] 36 (0,0)) (by (with_reducible repeat (first|refine kN ?_ _|refine kD ?_|refine kA ?_ _));exact BK101.out) NB101_104.out (by simp));have n1_:=mA (Kd.R_lower ho0 (bZ (by repeat (first|(with_reducible first|exact HB.out|apply bA|apply bN|apply bD|refine bS ?_ (IsS113.ge HI104.out)|refine bS ?_ GE101.out)|exact HB.out))));have n2_:=mA (hb);have n3_:=mA (hi);clear BK101 HB HI104;have BK101:=n0_;have HO109:=n1_;have HB:=n2_;have HI104:=n3_;clear n0_ n1_ n2_ n3_;(try clear hb);(try clear hb2);(try clear hk);(try clear hi);(try clear ho0))|((with_reducible refine gate_dst (N:=7) rfl ?_);refine box_event ?hg (N:=7) ?hd (cs:=#[.int .i64 0,.slice none 0 0]) (t:=36) ?hr ?_;(case hd=>rfl);(case hg=>rfl);(case hr=>first|(go_simp;done)|(go_simp;rfl));intro gb111 hg w11 hbox hb;have n0_:=mA (rB (by (with_reducible repeat (first|apply rA|apply rN|apply rD));exact HO109.out) hb);have n1_:=mA (blk_below (g:=gb101) (o:=.cells #[.int .i64 0,.slice none 0 0] 36 (0,0)) (by (with_reducible repeat (first|refine kN ?_ _|refine kD ?_|refine kA ?_ _));exact BK101.out) hb);have n2_:=mA (IsS113.below (by repeat (first|(with_reducible first|exact HI104.out|apply IsS113.alloc|apply IsS113.drewN|apply IsS113.drew|apply IsS113.set_1|refine IsS113.far ?_ NB104_101.out _)|exact HI104.out)) hb);have n3_:=mA (bT (by repeat (first|(with_reducible first|exact HB.out|apply bA|apply bN|apply bD|refine bS ?_ (IsS113.ge HI104.out)|refine bS ?_ GE101.out)|exact HB.out)) hb);have n4_:=mA (hbox);have n5_:=mA ((by rw [hg];exact (bZ (by repeat (first|(with_reducible first|exact HB.out|apply bA|apply bN|apply bD|refine bS ?_ (IsS113.ge HI104.out)|refine bS ?_ GE101.out)|exact HB.out))):w.heap.size≤gb111));have n6_:=mA ((by rw [hg];exact (bZ (by repeat (first|(with_reducible first|exact HB.out|apply bA|apply bN|apply bD|refine bS ?_ (IsS113.ge HI104.out)|refine bS ?_ GE101.out)|exact HB.out))):w.heap.size≤gb111));have n7_:=mA ((by rw [hg];exact Nat.ne_of_lt (blk_lt (g:=gb101) (o:=.cells #[.int .i64 0,.slice none 0 0] 36 (0,0)) (by (with_reducible repeat (first|refine kN ?_ _|refine kD ?_|refine kA ?_ _));exact BK101.out)):gb101≠gb111));have n8_:=mA ((by rw [hg];exact Nat.ne_of_gt (blk_lt (g:=gb101) (o:=.cells #[.int .i64 0,.slice none 0 0] 36 (0,0)) (by (with_reducible repeat (first|refine kN ?_ _|refine kD ?_|refine kA ?_ _));exact BK101.out)):gb111≠gb101));have n9_:=mA ((by rw [hg];exact Nat.ne_of_lt (IsS113.lt (show IsS113 w _ g104 t102 t110 from by repeat (first|(with_reducible first|exact HI104.out|apply IsS113.alloc|apply IsS113.drewN|apply IsS113.drew|apply IsS113.set_1|refine IsS113.far ?_ NB104_101.out _)|exact HI104.out))):g104≠gb111));have n10_:=mA ((by rw [hg];exact Nat.ne_of_gt (IsS113.lt (show IsS113 w _ g104 t102 t110 from by repeat (first|(with_reducible first|exact HI104.out|apply IsS113.alloc|apply IsS113.drewN|apply IsS113.drew|apply IsS113.set_1|refine IsS113.far ?_ NB104_101.out _)|exact HI104.out))):gb111≠g104));clear HO109 BK101 HI104 HB;have HO109:=n0_;have BK101:=n1_;have HI104:=n2_;have HB:=n3_;have BK111:=n4_;have GW111:=n5_;have GE111:=n6_;have NB101_111:=n7_;have NB111_101:=n8_;have NB104_111:=n9_;have NB111_104:=n10_;clear n0_ n1_ n2_ n3_ n4_ n5_ n6_ n7_ n8_ n9_ n10_ hb hbox hg;have hnb12:=NB111_101.out;have hnc12:=NB101_111.out;have hnb13:=NB111_104.out;have hnc13:=NB104_111.out;have hcz14_0:w11.cell? ⟨gb111,0,none⟩=some (.int .i64 0):=(kC BK111.out 0).trans rfl;have hcz14_1:w11.cell? ⟨gb111,1,none⟩=some (.slice none 0 0):=(kC BK111.out 1).trans rfl;have hfz14_0:=kF BK111.out 0;have hfz14_1:=kF BK111.out 1;obtain ⟨Ao15,co15,eo15⟩:=Kd.R_slice HO109.out;subst eo15))
  have n0_:Aside0 (Kd.R k33 33 ((w11.setCell ⟨gb111,0,none⟩ (.int .i64 t106)).setCell ⟨gb111,1,none⟩ (.slice Ao15 t107.length co15)) w.heap.size (fun _=>True) (.slice Ao15 t107.length co15) t107):=⟨by (with_reducible repeat (first|apply rA|apply rN|apply rD));exact rM (rF (p:=⟨gb111,1,none⟩) (rF (p:=⟨gb111,0,none⟩) (Kd.R_types HO109.out BK111.out (by decide)) (fun _ hk=>hk.2) (.int .i64 t106)) (fun _ hk=>hk.2) (.slice Ao15 t107.length co15)) (fun _ hk=>trivial)⟩
  have n1_:Aside0 (((w11.setCell ⟨gb111,0,none⟩ (.int .i64 t106)).setCell ⟨gb111,1,none⟩ (.slice Ao15 t107.length co15)).heap[gb101]?=some (.cells #[.int .i64 0,.slice none 0 0] 36 (0,0))):=⟨by (with_reducible repeat (first|refine kN ?_ _|refine kD ?_|refine kA ?_ _));refine blk_far ?_ NB101_111.out _;(with_reducible repeat (first|refine kN ?_ _|refine kD ?_|refine kA ?_ _));refine blk_far ?_ NB101_111.out _;(with_reducible repeat (first|refine kN ?_ _|refine kD ?_|refine kA ?_ _));exact BK101.out⟩
  have n2_:Aside0 (((w11.setCell ⟨gb111,0,none⟩ (.int .i64 t106)).setCell ⟨gb111,1,none⟩ (.slice Ao15 t107.length co15)).heap[gb111]?=some (.cells #[.int .i64 t106,.slice Ao15 t107.length co15] 36 (0,0))):=⟨by (with_reducible repeat (first|refine kN ?_ _|refine kD ?_|refine kA ?_ _));refine blk_put (cs:=#[.int .i64 t106,.slice none 0 0]) ?_ 1 _ rfl;(with_reducible repeat (first|refine kN ?_ _|refine kD ?_|refine kA ?_ _));refine blk_put (cs:=#[.int .i64 0,.slice none 0 0]) ?_ 0 _ rfl;(with_reducible repeat (first|refine kN ?_ _|refine kD ?_|refine kA ?_ _));exact BK111.out⟩
  have n3_:Aside0 (IsS113 w ((w11.setCell ⟨gb111,0,none⟩ (.int .i64 t106)).setCell ⟨gb111,1,none⟩ (.slice Ao15 t107.length co15)) g104 t102 t110):=⟨by repeat (first|(with_reducible first|exact HI104.out|apply IsS113.alloc|apply IsS113.drewN|apply IsS113.drew|apply IsS113.set_1|refine IsS113.far ?_ NB104_101.out _|refine IsS113.far ?_ NB104_111.out _)|exact HI104.out)⟩
  have n4_:Aside0 (Below w.heap.size w ((w11.setCell ⟨gb111,0,none⟩ (.int .i64 t106)).setCell ⟨gb111,1,none⟩ (.slice Ao15 t107.length co15))):=⟨by repeat (first|(with_reducible first|exact HB.out|apply bA|apply bN|apply bD|refine bS ?_ (IsS113.ge HI104.out)|refine bS ?_ GE101.out|refine bS ?_ GE111.out)|exact HB.out)⟩
  (try clear HO109)
  (try clear BK101)
  (try clear BK111)
  (try clear HI104)
  (try clear HB)
  generalize ((w11.setCell ⟨gb111,0,none⟩ (.int .i64 t106)).setCell ⟨gb111,1,none⟩ (.slice Ao15 t107.length co15))=w16 at n0_ n1_ n2_ n3_ n4_ ⊢
  have HO109:=n0_
  have BK101:=n1_
  have BK111:=n2_
  have HI104:=n3_
  have HB:=n4_
  clear n0_ n1_ n2_ n3_ n4_
  have n0_:=mA (rD HO109.out)
  have n1_:=mA (kD BK101.out)
  have n2_:=mA (kD BK111.out)
  have n3_:=mA (IsS113.drew HI104.out)
  have n4_:=mA (bD HB.out)
  clear HO109
  clear BK101
  clear BK111
  clear HI104
  clear HB
  have HO109:=n0_
  have BK101:=n1_
  have BK111:=n2_
  have HI104:=n3_
  have HB:=n4_
  clear n0_ n1_ n2_ n3_ n4_
  refine start_ (n:=14) (S:=fun w'=>w'.cell? ⟨gb111,0,none⟩=some (.int .i64 t106)∧w'.cell? ⟨gb111,1,none⟩=some (.slice Ao15 t107.length co15)) (ds:=[]) #[O,O,O,O,O,O,O,O,O,O,O,O,O,O] (by kernel_rfl) rfl rfl ⟨(kC BK111.out 0).trans rfl,(kC BK111.out 1).trans rfl⟩ (fun hHeld=>?_);refine with_tabW spec_DrawMaySay.tab3 spec_DrawMaySay.bits3 (fun HT_ HW_=>?_)
  generalize w16.drew=w17 at HO109 BK101 BK111 HI104 HB hHeld ⊢
  refine pure_ (i:=0) (N:=some 15) (v:=?_) (a':=?_) #[I,O,O,O,O,O,O,O,O,O,O,O,O,O] rfl rfl (any_of HT_.out (by kernel_rfl)) (fun _ _ _ h=>h) (Or.inl ⟨by rfl,?_⟩) ?_ ?_
  rotate_left
  ·intro w'
   go_simp
   with_reducible rfl
  rotate_left
  ·simp only [Act.put,sA,sZ,sS,i64_w,i32_w]
   rfl
  refine pure_ (i:=2) (N:=some 17) (v:=?_) (a':=?_) #[I,O,I,O,O,O,O,O,O,O,O,O,O,O] rfl rfl (any_of HT_.out (by kernel_rfl)) (fun _ _ _ h=>h) (Or.inl ⟨by rfl,?_⟩) ?_ ?_
  rotate_left
  ·intro w'
   go_simp
   with_reducible rfl
  rotate_left
  ·simp only [Act.put,sA,sZ,sS,i64_w,i32_w]
   rfl
  refine pure_ (i:=3) (N:=some 18) (v:=?_) (a':=?_) #[I,O,I,I,O,O,O,O,O,O,O,O,O,O] rfl rfl (any_of HT_.out (by kernel_rfl)) (fun _ _ _ h=>h) (Or.inl ⟨by rfl,?_⟩) ?_ ?_
  rotate_left
  ·intro w'
   go_simp
   with_reducible rfl
  rotate_left
  ·simp only [Act.put,sA,sZ,sS,i64_w,i32_w]
   rfl
  refine pure_ (i:=4) (N:=some 19) (v:=?_) (a':=?_) #[I,O,I,I,I,O,O,O,O,O,O,O,O,O] rfl rfl (any_of HT_.out (by kernel_rfl)) (fun _ _ _ h=>h) (Or.inl ⟨by rfl,?_⟩) ?_ ?_
  rotate_left
  ·intro w'
   go_simp
   with_reducible rfl
  rotate_left
  ·simp only [Act.put,sA,sZ,sS,i64_w,i32_w]
   rfl
  refine pure_ (i:=6) (N:=some 21) (v:=?_) (a':=?_) #[I,O,I,I,I,O,I,O,O,O,O,O,O,O] rfl rfl (any_of HT_.out (by kernel_rfl)) (fun _ _ _ h=>h) (Or.inl ⟨by rfl,?_⟩) ?_ ?_
  rotate_left
  ·intro w'
   go_simp
   with_reducible rfl
  rotate_left
  ·simp only [Act.put,sA,sZ,sS,i64_w,i32_w]
   rfl
  refine take_ (i:=1) (N:=some 16) (v:=?_) (a':=?_) #[I,I,I,I,I,O,I,O,O,O,O,O,O,O] rfl rfl (take_ofW HT_.out HW_.out (by kernel_rfl)) (fun _ _ _ h=>h) (Or.inl ⟨by rfl,?_⟩) hHeld ?_ ?_
  rotate_left
  ·rintro w' ⟨s0,s1⟩
   go_simp
   with_reducible rfl
  rotate_left
  ·simp only [Act.put,sA,sZ,sS,i64_w,i32_w]
   rfl
  refine one_ (i:=5) (N:=some 20) #[I,I,I,I,I,I,I,O,O,O,O,O,O,O] rfl rfl (one_of HT_.out (by kernel_rfl)) (by decide) (fun K hK=>?_)
  refine goes_ Try.func108 (by kernel_rfl) rfl #[.pointer (some ⟨g104,0,none⟩),.int .i64 ji5] (by rfl) rfl rfl (by (try simp only [mT,mC,mN]);first|done|(simp only [hji5];rfl)|rfl|(simp only [lD,lT];rfl)) ?_
  with_reducible refine (spec_l20Rd_pick.calls k g104 t102 t110 ji5 t112 t113 w _ ?side1 ?side2 A6.out).mono ?_
  (case side1=>repeat (first|(with_reducible first|exact HI104.out|apply IsS113.alloc|apply IsS113.drewN|apply IsS113.drew|apply IsS113.set_1|refine IsS113.far ?_ NB104_101.out _|refine IsS113.far ?_ NB104_111.out _)|exact HI104.out))
  (case side2=>repeat (first|(with_reducible first|exact HB.out|apply bA|apply bN|apply bD|refine bS ?_ (IsS113.ge HI104.out)|refine bS ?_ GE101.out|refine bS ?_ GE111.out)|exact HB.out))
  rintro e w18 ⟨rfl,hi,hb,hk⟩
  refine ⟨_,rfl,?_⟩
  have n0_:=mA (KeepBut.blk hk (g':=gb101) (o:=.cells #[.int .i64 0,.slice none 0 0] 36 (0,0)) (by (with_reducible repeat (first|refine kN ?_ _|refine kD ?_|refine kA ?_ _));exact BK101.out) NB101_104.out (by simp))
  have n1_:=mA (rM (Kd.R_keep (IsS113.apart (show IsS113 w _ g104 t102 t110 from by repeat (first|(with_reducible first|exact HI104.out|apply IsS113.alloc|apply IsS113.drewN|apply IsS113.drew|apply IsS113.set_1|refine IsS113.far ?_ NB104_101.out _|refine IsS113.far ?_ NB104_111.out _)|exact HI104.out)) (by (with_reducible repeat (first|apply rA|apply rN|apply rD));exact HO109.out) (by decide)) hk (fun _ h=>h.2)) (fun _ h=>h.1))
  have n2_:=mA (KeepBut.blk hk (g':=gb111) (o:=.cells #[.int .i64 t106,.slice Ao15 t107.length co15] 36 (0,0)) (by (with_reducible repeat (first|refine kN ?_ _|refine kD ?_|refine kA ?_ _));exact BK111.out) NB111_104.out (by simp))
  have n3_:=mA (hb)
  have n4_:=mA (hi)
  clear BK101
  clear HO109
  clear BK111
  clear HB
  clear HI104
  have BK101:=n0_
  have HO109:=n1_
  have BK111:=n2_
  have HB:=n3_
  have HI104:=n4_
  clear n0_ n1_ n2_ n3_ n4_
  (try clear hb)
  (try clear hb2)
  (try clear hk)
  (try clear hi)
  refine hK.out _ _ ⟨(kC BK111.out 0).trans rfl,(kC BK111.out 1).trans rfl⟩ (fun hHeld=>?_)
  clear hK K
  refine norm_ (a':=?_) ?_ ?_
  rotate_left
  ·show Act.put _ (some 20) _=_
   simp only [Act.put,sA,sZ,sS,i64_w,i32_w]
   rfl
  refine one_ (i:=7) (N:=some 22) #[I,I,I,I,I,I,I,I,O,O,O,O,O,O] rfl rfl (one_of HT_.out (by kernel_rfl)) (by decide) (fun K hK=>?_)
  refine goes_ Try.func108 (by kernel_rfl) rfl #[.pointer (some ⟨g104,0,none⟩),.int .i64 40] (by rfl) rfl rfl (by (try simp only [mT,mC,mN]);first|done|rfl|(simp only [lD,lT];rfl)) ?_
  with_reducible refine (spec_l20Rd_pick.calls k g104 t102 t113 40 t114 t115 w _ ?side1 ?side2 A7.out).mono ?_
  (case side1=>repeat (first|(with_reducible first|exact HI104.out|apply IsS113.alloc|apply IsS113.drewN|apply IsS113.drew|apply IsS113.set_1|refine IsS113.far ?_ NB104_101.out _|refine IsS113.far ?_ NB104_111.out _)|exact HI104.out))
  (case side2=>repeat (first|(with_reducible first|exact HB.out|apply bA|apply bN|apply bD|refine bS ?_ (IsS113.ge HI104.out)|refine bS ?_ GE101.out|refine bS ?_ GE111.out)|exact HB.out))
  rintro e w19 ⟨rfl,hi,hb,hk⟩
  refine ⟨_,rfl,?_⟩
  have n0_:=mA (KeepBut.blk hk (g':=gb101) (o:=.cells #[.int .i64 0,.slice none 0 0] 36 (0,0)) (by (with_reducible repeat (first|refine kN ?_ _|refine kD ?_|refine kA ?_ _));exact BK101.out) NB101_104.out (by simp))
  have n1_:=mA (rM (Kd.R_keep (IsS113.apart (show IsS113 w _ g104 t102 t113 from by repeat (first|(with_reducible first|exact HI104.out|apply IsS113.alloc|apply IsS113.drewN|apply IsS113.drew|apply IsS113.set_1|refine IsS113.far ?_ NB104_101.out _|refine IsS113.far ?_ NB104_111.out _)|exact HI104.out)) (by (with_reducible repeat (first|apply rA|apply rN|apply rD));exact HO109.out) (by decide)) hk (fun _ h=>h.2)) (fun _ h=>h.1))
  have n2_:=mA (KeepBut.blk hk (g':=gb111) (o:=.cells #[.int .i64 t106,.slice Ao15 t107.length co15] 36 (0,0)) (by (with_reducible repeat (first|refine kN ?_ _|refine kD ?_|refine kA ?_ _));exact BK111.out) NB111_104.out (by simp))
  have n3_:=mA (hb)
  have n4_:=mA (hi)
  clear BK101
  clear HO109
  clear BK111
  clear HB
  clear HI104
  have BK101:=n0_
  have HO109:=n1_
  have BK111:=n2_
  have HB:=n3_
  have HI104:=n4_
  clear n0_ n1_ n2_ n3_ n4_
  (try clear hb)
  (try clear hb2)
  (try clear hk)
  (try clear hi)
  refine hK.out _ _ ⟨(kC BK111.out 0).trans rfl,(kC BK111.out 1).trans rfl⟩ (fun hHeld=>?_)
  clear hK K
  refine norm_ (a':=?_) ?_ ?_
  rotate_left
  ·show Act.put _ (some 22) _=_
   simp only [Act.put,sA,sZ,sS,i64_w,i32_w]
   rfl
  refine pure_ (i:=8) (N:=some 23) (v:=?_) (a':=?_) #[I,I,I,I,I,I,I,I,I,O,O,O,O,O] rfl rfl (any_of HT_.out (by kernel_rfl)) (fun _ _ _ h=>h) (Or.inl ⟨by rfl,?_⟩) ?_ ?_
  rotate_left
  ·intro w'
   go_simp
   with_reducible rfl
  rotate_left
  ·simp only [Act.put,sA,sZ,sS,i64_w,i32_w]
   rfl
  refine pure_ (i:=9) (N:=some 24) (v:=?_) (a':=?_) #[I,I,I,I,I,I,I,I,I,I,O,O,O,O] rfl rfl (any_of HT_.out (by kernel_rfl)) (fun _ _ _ h=>h) (Or.inl ⟨by rfl,?_⟩) ?_ ?_
  rotate_left
  ·intro w'
   go_simp
   with_reducible rfl
  rotate_left
  ·simp only [Act.put,sA,sZ,sS,i64_w,i32_w]
   rfl
  refine pure_ (i:=10) (N:=some 25) (v:=?_) (a':=?_) #[I,I,I,I,I,I,I,I,I,I,I,O,O,O] rfl rfl (any_of HT_.out (by kernel_rfl)) (fun _ _ _ h=>h) (Or.inl ⟨by rfl,?_⟩) ?_ ?_
  rotate_left
  ·intro w'
   go_simp
   with_reducible rfl
  rotate_left
  ·simp only [Act.put,sA,sZ,sS,i64_w,i32_w]
   rfl
  refine pure_ (i:=11) (N:=some 2) (v:=?_) (a':=?_) #[I,I,I,I,I,I,I,I,I,I,I,I,O,O] rfl rfl (any_of HT_.out (by kernel_rfl)) (fun _ _ _ h=>h) (Or.inl ⟨by rfl,?_⟩) ?_ ?_
  rotate_left
  ·intro w'
   go_simp
   with_reducible rfl
  rotate_left
  ·simp only [Act.put,sA,sZ,sS,i64_w,i32_w]
   rfl
  refine one_ (i:=12) (N:=none) #[I,I,I,I,I,I,I,I,I,I,I,I,I,O] rfl rfl (one_of HT_.out (by kernel_rfl)) (by decide) (fun K hK=>?_)
  have hs20:w19.cell? ⟨gb101,0,none⟩=some (.int .i64 0):=(kC BK101.out 0).trans rfl
  have hfs20:=kF BK101.out 0
  have hns20_1:=NB111_101.out
  have hms20_1:=NB101_111.out
  have hs21:w19.cell? ⟨gb101,1,none⟩=some (.slice none 0 0):=(kC BK101.out 1).trans rfl
  have hfs21:=kF BK101.out 1
  have hns21_1:=NB111_101.out
  have hms21_1:=NB101_111.out
  refine skip_ (w1:=?_) (by rfl) rfl ?_ ?_
  rotate_left
  ·go_simp
   rfl
  refine hK.out _ _ ⟨((cell_far (p:=⟨gb101,_,none⟩) NB111_101.out _).trans (((cell_far (p:=⟨gb101,_,none⟩) NB111_101.out _).trans (hHeld.1)))),((cell_far (p:=⟨gb101,_,none⟩) NB111_101.out _).trans (((cell_far (p:=⟨gb101,_,none⟩) NB111_101.out _).trans (hHeld.2))))⟩ (fun hHeld=>?_)
  clear hK K
  refine pure_ (i:=13) (N:=some 4) (v:=?_) (a':=?_) #[I,I,I,I,I,I,I,I,I,I,I,I,I,I] rfl rfl (any_of HT_.out (by kernel_rfl)) (fun _ _ _ h=>h) (Or.inl ⟨by rfl,?_⟩) ?_ ?_
  rotate_left
  ·intro w'
   go_simp
   with_reducible rfl
  rotate_left
  ·simp only [Act.put,sA,sZ,sS,i64_w,i32_w]
   rfl
  refine done_ (done_of HT_.out (by kernel_rfl)) ?_
  try go_wp2
  refine bodyPost_ret (results_list (rs:=[.tmp 2,.cell 3 36,.tmp 4]) rfl (by simp) (.tmp (.cell gb101 36 #[.int .i64 t106,.slice Ao15 t107.length co15] (0,0) _ rfl (by (with_reducible repeat (first|refine kN ?_ _|refine kD ?_|refine kA ?_ _));refine blk_put (cs:=#[.int .i64 t106,.slice none 0 0]) ?_ 1 _ rfl;(with_reducible repeat (first|refine kN ?_ _|refine kD ?_|refine kA ?_ _));refine blk_put (cs:=#[.int .i64 0,.slice none 0 0]) ?_ 0 _ rfl;(with_reducible repeat (first|refine kN ?_ _|refine kD ?_|refine kA ?_ _));exact BK101.out) Try.underlying36 rfl (by kernel_rfl) (.tmp .nil)))) rfl ?_
  exact ⟨_,by first|rfl|(simp [errW_none,errW_some]<;>rfl)|(simp only [←hji5];first|rfl|(simp [errW_none,errW_some]<;>rfl))|(simp [*, errW_none,errW_some]<;>rfl),by (with_reducible repeat (first|apply rA|apply rN|apply rD));exact rM (rF (p:=⟨gb101,1,none⟩) (rF (p:=⟨gb101,0,none⟩) (Kd.R_types HO109.out BK101.out (by decide)) (fun _ hk=>hk.2) (.int .i64 t106)) (fun _ hk=>hk.2) (.slice Ao15 t107.length co15)) (fun _ hk=>trivial),by repeat (first|(with_reducible first|exact HB.out|apply bA|apply bN|apply bD|refine bS ?_ (IsS113.ge HI104.out)|refine bS ?_ GE101.out|refine bS ?_ GE111.out)|exact HB.out)⟩
 ·rw [if_neg c4] at H
  exact absurd H (by simp)
/-! ### impl_ClaimOk: function 45 -/
def impl_ClaimOk.f (k:Nat) (a0:Int) (a1_0:Int) (l1_1:List (S33)):Option (Bool):=(impl_peopleOk.f a0).bind fun t102=>(if t102=true then (if a1_0≥0 then (if a1_0<a0 then ((impl_TermOk.f k a0 l1_1).bind fun t103=>(if t103=true then (some (decide ((l1_1.length:Int)≤13))) else (some false))) else (some false)) else (some false)) else (some false))
theorem impl_ClaimOk.mono : ∀ a0 a1 a2 k,LeO (impl_ClaimOk.f k a0 a1 a2) (impl_ClaimOk.f (k+1) a0 a1 a2):=by
 intro a0 a1 a2 k
 unfold impl_ClaimOk.f
 repeat' first
   | (with_reducible exact impl_TermOk.mono _ _ _)
   | (with_reducible exact LeO.refl _)
   | (with_reducible exact LeO.none _)
   | (with_reducible refine LeO.ite ?_ ?_)
   | (with_reducible refine LeO.bind ?_ (fun _=>?_))
   | exact impl_TermOk.mono _ _ _
   | exact LeO.none _
   | refine LeO.ite ?_ ?_
   | refine LeO.bind ?_ (fun _=>?_)
set_option maxHeartbeats 8000000 in
set_option maxRecDepth 100000 in
theorem impl_ClaimOk.calls (k:Nat) (a0:Int) (a1_0:Int) (A1_1:Option Addr) (c1_1:Nat) (l1_1:List (S33)) (r:Bool) (w:World) (hr1_1:Kd.C k33 w A1_1 l1_1.length l1_1) (hc1_1:l1_1.length≤c1_1) (h:impl_ClaimOk.f k a0 a1_0 l1_1=some r) :
  Calls Try.prog 45 #[.int .i64 a0,.agg #[.int .i64 a1_0,.slice A1_1 l1_1.length c1_1]] w fun e w'=>e = .returned (.bool r)∧Below w.heap.size w w':=by
 have hu36:=Try.underlying36
 have HR1_1:=mA hr1_1
 have HC1_1:=mA hc1_1
 clear hr1_1 hc1_1
 have HB:=mA (Below.refl w.heap.size w)
 have H:((impl_peopleOk.f a0).bind fun t102=>(if t102=true then (if a1_0≥0 then (if a1_0<a0 then ((impl_TermOk.f k a0 l1_1).bind fun t103=>(if t103=true then (some (decide ((l1_1.length:Int)≤13))) else (some false))) else (some false)) else (some false)) else (some false)))=some r:=h
 clear h
 replace H:=Option.bind_eq_some_iff.mp H
 obtain ⟨t102,A30,H⟩:=H
 replace H:(if t102=true then (if a1_0≥0 then (if a1_0<a0 then ((impl_TermOk.f k a0 l1_1).bind fun t103=>(if t103=true then (some (decide ((l1_1.length:Int)≤13))) else (some false))) else (some false)) else (some false)) else (some false))=some r:=H
 have A3:=mA A30
 clear A30
 by_cases c4:t102=true
 ·subst c4
  have H1:(if a1_0≥0 then (if a1_0<a0 then ((impl_TermOk.f k a0 l1_1).bind fun t103=>(if t103=true then (some (decide ((l1_1.length:Int)≤13))) else (some false))) else (some false)) else (some false))=some r:=by rw [if_pos rfl] at H;exact H
  clear H
  have H:=H1
  clear H1
  by_cases c5:a1_0≥0
  ·rw [if_pos c5] at H
   have c5b0:decide (0≤a1_0)=true:=decide_eq_true c5
   clear c5
   by_cases c6:a1_0<a0
   ·rw [if_pos c6] at H
    have c6b0:decide (a1_0<a0)=true:=decide_eq_true c6
    clear c6
    replace H:=Option.bind_eq_some_iff.mp H
    obtain ⟨t103,A70,H⟩:=H
    replace H:(if t103=true then (some (decide ((l1_1.length:Int)≤13))) else (some false))=some r:=H
    have A7:=mA A70
    clear A70
    by_cases c8:t103=true
    ·subst c8
     have H1:(some (decide ((l1_1.length:Int)≤13)))=some r:=by rw [if_pos rfl] at H;exact H
     clear H
     have H:=H1
     clear H1
     obtain rfl:=Option.some.inj H
     go_enter Try.func45,Try.ntmps45
     go_wp2_with (first|((with_reducible refine gate_dst (N:=3) rfl ?_);(try (refine gate_guard (by rfl) ?_;dsimp only));refine box_event ?hg (N:=3) ?hd (cs:=#[.int .i64 a1_0,.slice A1_1 l1_1.length c1_1]) (t:=36) ?hr ?_;(case hd=>rfl);(case hg=>rfl);(case hr=>first|(go_simp;done)|(go_simp;rfl));intro gb101 hg w9 hbox hb;have n0_:=mA (bT (by repeat (first|(with_reducible first|exact HB.out|apply bA|apply bN|apply bD)|exact HB.out)) hb);have n1_:=mA (hbox);have n2_:=mA ((by rw [hg];exact (bZ (by repeat (first|(with_reducible first|exact HB.out|apply bA|apply bN|apply bD)|exact HB.out))):w.heap.size≤gb101));have n3_:=mA ((by rw [hg];exact (bZ (by repeat (first|(with_reducible first|exact HB.out|apply bA|apply bN|apply bD)|exact HB.out))):w.heap.size≤gb101));clear HB;have HB:=n0_;have BK101:=n1_;have GW101:=n2_;have GE101:=n3_;clear n0_ n1_ n2_ n3_ hb hbox hg)|((with_reducible refine gate_callee (f:=115) rfl ?_);refine goesL_ (some 6) rfl rfl Try.func115 (by kernel_rfl) rfl #[.int .i64 a0] rfl (by (try simp only [mT,mC,mN]);first|done|rfl|(simp only [lD,lT];rfl)) ?_;(with_reducible refine (impl_peopleOk.calls a0 true _ A3.out).mono ?_);rintro e w' ⟨rfl,⟨nd,rfl⟩⟩;refine ⟨_,rfl,?_⟩;have hcz10_0:w9.cell? ⟨gb101,0,none⟩=some (.int .i64 a1_0):=(kC BK101.out 0).trans rfl;have hcz10_1:w9.cell? ⟨gb101,1,none⟩=some (.slice A1_1 l1_1.length c1_1):=(kC BK101.out 1).trans rfl;have hfz10_0:=kF BK101.out 0;have hfz10_1:=kF BK101.out 1)|(go_at_call 111;(with_reducible refine (impl_TermOk.calls k a0 _ _ l1_1 true _ ?side1 ?side2 A7.out).mono ?_);(case side1=>repeat (first|exact (Kd.C_below HR1_1.out (by repeat (first|(with_reducible first|exact HB.out|apply bA|apply bN|apply bD|refine bS ?_ GE101.out)|exact HB.out)))|(with_reducible refine cA ?_ _)|(with_reducible refine cN ?_ _)|(with_reducible refine cD ?_)));(case side2=>exact HC1_1.out);rintro e w11 ⟨rfl,hb⟩;have n0_:=mA (blk_below (g:=gb101) (o:=.cells #[.int .i64 a1_0,.slice A1_1 l1_1.length c1_1] 36 (0,0)) (by (with_reducible repeat (first|refine kN ?_ _|refine kD ?_|refine kA ?_ _));exact BK101.out) hb);have n1_:=mA (bT (by repeat (first|(with_reducible first|exact HB.out|apply bA|apply bN|apply bD|refine bS ?_ GE101.out)|exact HB.out)) hb);clear BK101 HB;have BK101:=n0_;have HB:=n1_;clear n0_ n1_;(try clear hb);(try clear hb2);(try clear hk);(try clear hi);have hcz12_0:w11.cell? ⟨gb101,0,none⟩=some (.int .i64 a1_0):=(kC BK101.out 0).trans rfl;have hcz12_1:w11.cell? ⟨gb101,1,none⟩=some (.slice A1_1 l1_1.length c1_1):=(kC BK101.out 1).trans rfl;have hfz12_0:=kF BK101.out 0;have hfz12_1:=kF BK101.out 1))
     go_ret
     exact ⟨by first|rfl|(simp [errW_none,errW_some]<;>rfl)|(simp [*, errW_none,errW_some]<;>rfl),by repeat (first|(with_reducible first|exact HB.out|apply bA|apply bN|apply bD|refine bS ?_ GE101.out)|exact HB.out)⟩
    ·replace c8:=Bool.eq_false_iff.mpr c8
     subst c8
     have H1:(some false)=some r:=by rw [if_neg (show ¬ (false=true) by decide)] at H;exact H
     clear H
     have H:=H1
     clear H1
     obtain rfl:=Option.some.inj H
     go_enter Try.func45,Try.ntmps45
     go_wp2_with (first|((with_reducible refine gate_dst (N:=3) rfl ?_);(try (refine gate_guard (by rfl) ?_;dsimp only));refine box_event ?hg (N:=3) ?hd (cs:=#[.int .i64 a1_0,.slice A1_1 l1_1.length c1_1]) (t:=36) ?hr ?_;(case hd=>rfl);(case hg=>rfl);(case hr=>first|(go_simp;done)|(go_simp;rfl));intro gb101 hg w13 hbox hb;have n0_:=mA (bT (by repeat (first|(with_reducible first|exact HB.out|apply bA|apply bN|apply bD)|exact HB.out)) hb);have n1_:=mA (hbox);have n2_:=mA ((by rw [hg];exact (bZ (by repeat (first|(with_reducible first|exact HB.out|apply bA|apply bN|apply bD)|exact HB.out))):w.heap.size≤gb101));have n3_:=mA ((by rw [hg];exact (bZ (by repeat (first|(with_reducible first|exact HB.out|apply bA|apply bN|apply bD)|exact HB.out))):w.heap.size≤gb101));clear HB;have HB:=n0_;have BK101:=n1_;have GW101:=n2_;have GE101:=n3_;clear n0_ n1_ n2_ n3_ hb hbox hg)|((with_reducible refine gate_callee (f:=115) rfl ?_);refine goesL_ (some 6) rfl rfl Try.func115 (by kernel_rfl) rfl #[.int .i64 a0] rfl (by (try simp only [mT,mC,mN]);first|done|rfl|(simp only [lD,lT];rfl)) ?_;(with_reducible refine (impl_peopleOk.calls a0 true _ A3.out).mono ?_);rintro e w' ⟨rfl,⟨nd,rfl⟩⟩;refine ⟨_,rfl,?_⟩;have hcz14_0:w13.cell? ⟨gb101,0,none⟩=some (.int .i64 a1_0):=(kC BK101.out 0).trans rfl;have hcz14_1:w13.cell? ⟨gb101,1,none⟩=some (.slice A1_1 l1_1.length c1_1):=(kC BK101.out 1).trans rfl;have hfz14_0:=kF BK101.out 0;have hfz14_1:=kF BK101.out 1)|(go_at_call 111;(with_reducible refine (impl_TermOk.calls k a0 _ _ l1_1 false _ ?side1 ?side2 A7.out).mono ?_);(case side1=>repeat (first|exact (Kd.C_below HR1_1.out (by repeat (first|(with_reducible first|exact HB.out|apply bA|apply bN|apply bD|refine bS ?_ GE101.out)|exact HB.out)))|(with_reducible refine cA ?_ _)|(with_reducible refine cN ?_ _)|(with_reducible refine cD ?_)));(case side2=>exact HC1_1.out);rintro e w15 ⟨rfl,hb⟩;have n0_:=mA (blk_below (g:=gb101) (o:=.cells #[.int .i64 a1_0,.slice A1_1 l1_1.length c1_1] 36 (0,0)) (by (with_reducible repeat (first|refine kN ?_ _|refine kD ?_|refine kA ?_ _));exact BK101.out) hb);have n1_:=mA (bT (by repeat (first|(with_reducible first|exact HB.out|apply bA|apply bN|apply bD|refine bS ?_ GE101.out)|exact HB.out)) hb);clear BK101 HB;have BK101:=n0_;have HB:=n1_;clear n0_ n1_;(try clear hb);(try clear hb2);(try clear hk);(try clear hi)))
     go_ret
     exact ⟨by first|rfl|(simp [errW_none,errW_some]<;>rfl)|(simp [*, errW_none,errW_some]<;>rfl),by repeat (first|(with_reducible first|exact HB.out|apply bA|apply bN|apply bD|refine bS ?_ GE101.out)|exact HB.out)⟩
   ·rw [if_neg c6] at H
    have c6b0:decide (a1_0<a0)=false:=decide_eq_false c6
    clear c6
    obtain rfl:=Option.some.inj H
    go_enter Try.func45,Try.ntmps45
    go_wp2_with (first|((with_reducible refine gate_dst (N:=3) rfl ?_);(try (refine gate_guard (by rfl) ?_;dsimp only));refine box_event ?hg (N:=3) ?hd (cs:=#[.int .i64 a1_0,.slice A1_1 l1_1.length c1_1]) (t:=36) ?hr ?_;(case hd=>rfl);(case hg=>rfl);(case hr=>first|(go_simp;done)|(go_simp;rfl));intro gb101 hg w16 hbox hb;have n0_:=mA (bT (by repeat (first|(with_reducible first|exact HB.out|apply bA|apply bN|apply bD)|exact HB.out)) hb);have n1_:=mA (hbox);have n2_:=mA ((by rw [hg];exact (bZ (by repeat (first|(with_reducible first|exact HB.out|apply bA|apply bN|apply bD)|exact HB.out))):w.heap.size≤gb101));have n3_:=mA ((by rw [hg];exact (bZ (by repeat (first|(with_reducible first|exact HB.out|apply bA|apply bN|apply bD)|exact HB.out))):w.heap.size≤gb101));clear HB;have HB:=n0_;have BK101:=n1_;have GW101:=n2_;have GE101:=n3_;clear n0_ n1_ n2_ n3_ hb hbox hg)|((with_reducible refine gate_callee (f:=115) rfl ?_);refine goesL_ (some 6) rfl rfl Try.func115 (by kernel_rfl) rfl #[.int .i64 a0] rfl (by (try simp only [mT,mC,mN]);first|done|rfl|(simp only [lD,lT];rfl)) ?_;(with_reducible refine (impl_peopleOk.calls a0 true _ A3.out).mono ?_);rintro e w' ⟨rfl,⟨nd,rfl⟩⟩;refine ⟨_,rfl,?_⟩;have hcz17_0:w16.cell? ⟨gb101,0,none⟩=some (.int .i64 a1_0):=(kC BK101.out 0).trans rfl;have hcz17_1:w16.cell? ⟨gb101,1,none⟩=some (.slice A1_1 l1_1.length c1_1):=(kC BK101.out 1).trans rfl;have hfz17_0:=kF BK101.out 0;have hfz17_1:=kF BK101.out 1))
    go_ret
    exact ⟨by first|rfl|(simp [errW_none,errW_some]<;>rfl)|(simp [*, errW_none,errW_some]<;>rfl),by repeat (first|(with_reducible first|exact HB.out|apply bA|apply bN|apply bD|refine bS ?_ GE101.out)|exact HB.out)⟩
  ·rw [if_neg c5] at H
   have c5b0:decide (0≤a1_0)=false:=decide_eq_false c5
   clear c5
   obtain rfl:=Option.some.inj H
   go_enter Try.func45,Try.ntmps45
   go_wp2_with (first|((with_reducible refine gate_dst (N:=3) rfl ?_);(try (refine gate_guard (by rfl) ?_;dsimp only));refine box_event ?hg (N:=3) ?hd (cs:=#[.int .i64 a1_0,.slice A1_1 l1_1.length c1_1]) (t:=36) ?hr ?_;(case hd=>rfl);(case hg=>rfl);(case hr=>first|(go_simp;done)|(go_simp;rfl));intro gb101 hg w18 hbox hb;have n0_:=mA (bT (by repeat (first|(with_reducible first|exact HB.out|apply bA|apply bN|apply bD)|exact HB.out)) hb);have n1_:=mA (hbox);have n2_:=mA ((by rw [hg];exact (bZ (by repeat (first|(with_reducible first|exact HB.out|apply bA|apply bN|apply bD)|exact HB.out))):w.heap.size≤gb101));have n3_:=mA ((by rw [hg];exact (bZ (by repeat (first|(with_reducible first|exact HB.out|apply bA|apply bN|apply bD)|exact HB.out))):w.heap.size≤gb101));clear HB;have HB:=n0_;have BK101:=n1_;have GW101:=n2_;have GE101:=n3_;clear n0_ n1_ n2_ n3_ hb hbox hg)|((with_reducible refine gate_callee (f:=115) rfl ?_);refine goesL_ (some 6) rfl rfl Try.func115 (by kernel_rfl) rfl #[.int .i64 a0] rfl (by (try simp only [mT,mC,mN]);first|done|rfl|(simp only [lD,lT];rfl)) ?_;(with_reducible refine (impl_peopleOk.calls a0 true _ A3.out).mono ?_);rintro e w' ⟨rfl,⟨nd,rfl⟩⟩;refine ⟨_,rfl,?_⟩;have hcz19_0:w18.cell? ⟨gb101,0,none⟩=some (.int .i64 a1_0):=(kC BK101.out 0).trans rfl;have hcz19_1:w18.cell? ⟨gb101,1,none⟩=some (.slice A1_1 l1_1.length c1_1):=(kC BK101.out 1).trans rfl;have hfz19_0:=kF BK101.out 0;have hfz19_1:=kF BK101.out 1))
   go_ret
   exact ⟨by first|rfl|(simp [errW_none,errW_some]<;>rfl)|(simp [*, errW_none,errW_some]<;>rfl),by repeat (first|(with_reducible first|exact HB.out|apply bA|apply bN|apply bD|refine bS ?_ GE101.out)|exact HB.out)⟩
 ·replace c4:=Bool.eq_false_iff.mpr c4
  subst c4
  have H1:(some false)=some r:=by rw [if_neg (show ¬ (false=true) by decide)] at H;exact H
  clear H
  have H:=H1
  clear H1
  obtain rfl:=Option.some.inj H
  go_enter Try.func45,Try.ntmps45
  go_wp2_with (first|((with_reducible refine gate_dst (N:=3) rfl ?_);(try (refine gate_guard (by rfl) ?_;dsimp only));refine box_event ?hg (N:=3) ?hd (cs:=#[.int .i64 a1_0,.slice A1_1 l1_1.length c1_1]) (t:=36) ?hr ?_;(case hd=>rfl);(case hg=>rfl);(case hr=>first|(go_simp;done)|(go_simp;rfl));intro gb101 hg w20 hbox hb;have n0_:=mA (bT (by repeat (first|(with_reducible first|exact HB.out|apply bA|apply bN|apply bD)|exact HB.out)) hb);have n1_:=mA (hbox);have n2_:=mA ((by rw [hg];exact (bZ (by repeat (first|(with_reducible first|exact HB.out|apply bA|apply bN|apply bD)|exact HB.out))):w.heap.size≤gb101));have n3_:=mA ((by rw [hg];exact (bZ (by repeat (first|(with_reducible first|exact HB.out|apply bA|apply bN|apply bD)|exact HB.out))):w.heap.size≤gb101));clear HB;have HB:=n0_;have BK101:=n1_;have GW101:=n2_;have GE101:=n3_;clear n0_ n1_ n2_ n3_ hb hbox hg)|((with_reducible refine gate_callee (f:=115) rfl ?_);refine goesL_ (some 6) rfl rfl Try.func115 (by kernel_rfl) rfl #[.int .i64 a0] rfl (by (try simp only [mT,mC,mN]);first|done|rfl|(simp only [lD,lT];rfl)) ?_;(with_reducible refine (impl_peopleOk.calls a0 false _ A3.out).mono ?_);rintro e w' ⟨rfl,⟨nd,rfl⟩⟩;refine ⟨_,rfl,?_⟩))
  go_ret
  exact ⟨by first|rfl|(simp [errW_none,errW_some]<;>rfl)|(simp [*, errW_none,errW_some]<;>rfl),by repeat (first|(with_reducible first|exact HB.out|apply bA|apply bN|apply bD|refine bS ?_ GE101.out)|exact HB.out)⟩
/-! ### impl_maySay: function 105 -/
def impl_maySay.f (k:Nat) (a0_0:Int) (l0_1:List (S33)) (a1:Int):Option (Bool):=(impl_holds.f k l0_1 a1).bind fun t102=>(if 0≤a0_0 then (some (t102==((Go.bits .and .i64 (shr .i64 a1 a0_0) 1)==1))) else (none))
theorem impl_maySay.mono : ∀ a0 a1 a2 k,LeO (impl_maySay.f k a0 a1 a2) (impl_maySay.f (k+1) a0 a1 a2):=by
 intro a0 a1 a2 k
 unfold impl_maySay.f
 repeat' first
   | (with_reducible exact impl_holds.mono _ _ _)
   | (with_reducible exact LeO.refl _)
   | (with_reducible exact LeO.none _)
   | (with_reducible refine LeO.ite ?_ ?_)
   | (with_reducible refine LeO.bind ?_ (fun _=>?_))
   | exact impl_holds.mono _ _ _
   | exact LeO.none _
   | refine LeO.ite ?_ ?_
   | refine LeO.bind ?_ (fun _=>?_)
def impl_maySay.T1:Bool×List (List Nat×List Nat):=(true,[([],[]),([0],[0]),([],[]),([1,2],[1,2]),([],[]),([],[]),([5],[5]),([4,6],[4,6]),([7],[7]),([8],[8]),([3,9],[3,9]),([10,3,0,1,2,3,4,5,6,7,8,9,10],[10])])
def impl_maySay.B1:List Nat:=[0,1,0,7,0,0,32,112,240,496,1023,2047]
theorem impl_maySay.tab1:rtab .any (opsOf Try.f105 1)=impl_maySay.T1:=by kernel_rfl
theorem impl_maySay.bits1:waitsOk impl_maySay.T1.2 impl_maySay.B1=true:=by kernel_rfl
set_option maxHeartbeats 8000000 in
set_option maxRecDepth 100000 in
theorem impl_maySay.calls (k:Nat) (a0_0:Int) (A0_1:Option Addr) (c0_1:Nat) (l0_1:List (S33)) (a1:Int) (r:Bool) (w:World) (hr0_1:Kd.C k33 w A0_1 l0_1.length l0_1) (hc0_1:l0_1.length≤c0_1) (h:impl_maySay.f k a0_0 l0_1 a1=some r) :
  Calls Try.prog 105 #[.agg #[.int .i64 a0_0,.slice A0_1 l0_1.length c0_1],.int .i64 a1] w fun e w'=>e = .returned (.bool r)∧Below w.heap.size w w':=by
 have hu36:=Try.underlying36
 have HR0_1:=mA hr0_1
 have HC0_1:=mA hc0_1
 clear hr0_1 hc0_1
 have HB:=mA (Below.refl w.heap.size w)
 have H:((impl_holds.f k l0_1 a1).bind fun t102=>(if 0≤a0_0 then (some (t102==((Go.bits .and .i64 (shr .i64 a1 a0_0) 1)==1))) else (none)))=some r:=h
 clear h
 replace H:=Option.bind_eq_some_iff.mp H
 obtain ⟨t102,A30,H⟩:=H
 replace H:(if 0≤a0_0 then (some (t102==((Go.bits .and .i64 (shr .i64 a1 a0_0) 1)==1))) else (none))=some r:=H
 have A3:=mA A30
 clear A30
 by_cases c4:0≤a0_0
 ·rw [if_pos c4] at H
  have c4b0:=eq_true c4
  have c4b1:decide (0≤a0_0)=true:=decide_eq_true c4
  clear c4
  obtain ⟨ji5,hji5⟩ : ∃ j_:Int,(shr .i64 a1 a0_0)=j_:=⟨_,rfl⟩
  replace H:(some (t102==((Go.bits .and .i64 (ji5) 1)==1)))=some r:=by first|(rw [hji5] at H;exact H)|(simp only [hji5] at H ⊢;exact H)
  (try rw [hji5] at A3)
  have hji5_:(a1 / 2^min a0_0.toNat 64)=ji5:=hji5
  have hji5z:a0_0≤64→(a1 / 2^a0_0.toNat)=ji5:=shr_small hji5
  obtain rfl:=Option.some.inj H
  go_enter Try.func105,Try.ntmps105
  try go_wp2_with (first|((with_reducible refine gate_dst (N:=2) rfl ?_);refine box_event ?hg (N:=2) ?hd (cs:=#[.int .i64 a0_0,.slice A0_1 l0_1.length c0_1]) (t:=36) ?hr ?_;(case hd=>rfl);(case hg=>rfl);(case hr=>first|(go_simp;done)|(go_simp;rfl));intro gb101 hg w6 hbox hb;have n0_:=mA (bT (by repeat (first|(with_reducible first|exact HB.out|apply bA|apply bN|apply bD)|exact HB.out)) hb);have n1_:=mA (hbox);have n2_:=mA ((by rw [hg];exact (bZ (by repeat (first|(with_reducible first|exact HB.out|apply bA|apply bN|apply bD)|exact HB.out))):w.heap.size≤gb101));have n3_:=mA ((by rw [hg];exact (bZ (by repeat (first|(with_reducible first|exact HB.out|apply bA|apply bN|apply bD)|exact HB.out))):w.heap.size≤gb101));clear HB;have HB:=n0_;have BK101:=n1_;have GW101:=n2_;have GE101:=n3_;clear n0_ n1_ n2_ n3_ hb hbox hg))
  have n0_:=mA (kD BK101.out)
  have n1_:=mA (bD HB.out)
  clear BK101
  clear HB
  have BK101:=n0_
  have HB:=n1_
  clear n0_ n1_
  refine start_ (n:=12) (S:=fun w'=>w'.cell? ⟨gb101,0,none⟩=some (.int .i64 a0_0)∧w'.cell? ⟨gb101,1,none⟩=some (.slice A0_1 l0_1.length c0_1)) (ds:=[]) #[O,O,O,O,O,O,O,O,O,O,O,O] (by kernel_rfl) rfl rfl ⟨(kC BK101.out 0).trans rfl,(kC BK101.out 1).trans rfl⟩ (fun hHeld=>?_);refine with_tabW impl_maySay.tab1 impl_maySay.bits1 (fun HT_ HW_=>?_)
  generalize w6.drew=w7 at BK101 HB hHeld ⊢
  refine pure_ (i:=0) (N:=some 5) (v:=?_) (a':=?_) #[I,O,O,O,O,O,O,O,O,O,O,O] rfl rfl (any_of HT_.out (by kernel_rfl)) (fun _ _ _ h=>h) (Or.inl ⟨by rfl,?_⟩) ?_ ?_
  rotate_left
  ·intro w'
   go_simp
   with_reducible rfl
  rotate_left
  ·simp only [Act.put,sA,sZ,sS,i64_w,i32_w]
   rfl
  refine pure_ (i:=2) (N:=some 7) (v:=?_) (a':=?_) #[I,O,I,O,O,O,O,O,O,O,O,O] rfl rfl (any_of HT_.out (by kernel_rfl)) (fun _ _ _ h=>h) (Or.inl ⟨by rfl,?_⟩) ?_ ?_
  rotate_left
  ·intro w'
   go_simp
   with_reducible rfl
  rotate_left
  ·simp only [Act.put,sA,sZ,sS,i64_w,i32_w]
   rfl
  refine pure_ (i:=4) (N:=some 9) (v:=?_) (a':=?_) #[I,O,I,O,I,O,O,O,O,O,O,O] rfl rfl (any_of HT_.out (by kernel_rfl)) (fun _ _ _ h=>h) (Or.inl ⟨by rfl,?_⟩) ?_ ?_
  rotate_left
  ·intro w'
   go_simp
   with_reducible rfl
  rotate_left
  ·simp only [Act.put,sA,sZ,sS,i64_w,i32_w]
   rfl
  refine pure_ (i:=5) (N:=some 10) (v:=?_) (a':=?_) #[I,O,I,O,I,I,O,O,O,O,O,O] rfl rfl (any_of HT_.out (by kernel_rfl)) (fun _ _ _ h=>h) (Or.inl ⟨by rfl,?_⟩) ?_ ?_
  rotate_left
  ·intro w'
   go_simp
   with_reducible rfl
  rotate_left
  ·simp only [Act.put,sA,sZ,sS,i64_w,i32_w]
   rfl
  refine take_ (i:=1) (N:=some 6) (v:=?_) (a':=?_) #[I,I,I,O,I,I,O,O,O,O,O,O] rfl rfl (take_ofW HT_.out HW_.out (by kernel_rfl)) (fun _ _ _ h=>h) (Or.inl ⟨by rfl,?_⟩) hHeld ?_ ?_
  rotate_left
  ·rintro w' ⟨s0,s1⟩
   go_simp
   with_reducible rfl
  rotate_left
  ·simp only [Act.put,sA,sZ,sS,i64_w,i32_w]
   rfl
  refine take_ (i:=6) (N:=some 11) (v:=?_) (a':=?_) #[I,I,I,O,I,I,I,O,O,O,O,O] rfl rfl (take_ofW HT_.out HW_.out (by kernel_rfl)) (fun _ _ _ h=>h) (Or.inl ⟨by rfl,?_⟩) hHeld ?_ ?_
  rotate_left
  ·rintro w' ⟨s0,s1⟩
   go_simp
   with_reducible rfl
  rotate_left
  ·simp only [Act.put,sA,sZ,sS,i64_w,i32_w]
   rfl
  refine pure_ (i:=7) (N:=some 12) (v:=?_) (a':=?_) #[I,I,I,O,I,I,I,I,O,O,O,O] rfl rfl (any_of HT_.out (by kernel_rfl)) (fun _ _ _ h=>h) (Or.inl ⟨by rfl,?_⟩) ?_ ?_
  rotate_left
  ·intro w'
   go_simp
   with_reducible rfl
  rotate_left
  ·simp only [Act.put,sA,sZ,sS,i64_w,i32_w]
   rfl
  refine pure_ (i:=8) (N:=some 13) (v:=?_) (a':=?_) #[I,I,I,O,I,I,I,I,I,O,O,O] rfl rfl (any_of HT_.out (by kernel_rfl)) (fun _ _ _ h=>h) (Or.inl ⟨by rfl,?_⟩) ?_ ?_
  rotate_left
  ·intro w'
   go_simp
   with_reducible rfl
  rotate_left
  ·simp only [Act.put,sA,sZ,sS,i64_w,i32_w]
   rfl
  refine pure_ (i:=9) (N:=some 14) (v:=?_) (a':=?_) #[I,I,I,O,I,I,I,I,I,I,O,O] rfl rfl (any_of HT_.out (by kernel_rfl)) (fun _ _ _ h=>h) (Or.inl ⟨by rfl,?_⟩) ?_ ?_
  rotate_left
  ·intro w'
   go_simp
   with_reducible rfl
  rotate_left
  ·simp only [Act.put,sA,sZ,sS,i64_w,i32_w]
   rfl
  refine one_ (i:=3) (N:=some 8) #[I,I,I,I,I,I,I,I,I,I,O,O] rfl rfl (one_of HT_.out (by kernel_rfl)) (by decide) (fun K hK=>?_)
  refine goes_ Try.func119 (by kernel_rfl) rfl #[.slice A0_1 l0_1.length c0_1,.int .i64 a1] (by rfl) rfl rfl (by (try simp only [mT,mC,mN]);first|done|rfl|(simp only [lD,lT];rfl)) ?_
  with_reducible refine (impl_holds.calls k _ _ l0_1 a1 t102 _ ?side1 ?side2 A3.out).mono ?_
  (case side1=>repeat (first|exact (Kd.C_below HR0_1.out HB.out)|(with_reducible refine cA ?_ _)|(with_reducible refine cN ?_ _)|(with_reducible refine cD ?_)))
  (case side2=>exact HC0_1.out)
  rintro e w8 ⟨rfl,hb⟩
  refine ⟨_,rfl,?_⟩
  have n0_:=mA (blk_below (g:=gb101) (o:=.cells #[.int .i64 a0_0,.slice A0_1 l0_1.length c0_1] 36 (0,0)) (by (with_reducible repeat (first|refine kN ?_ _|refine kD ?_|refine kA ?_ _));exact BK101.out) hb)
  have n1_:=mA (bT (by repeat (first|(with_reducible first|exact HB.out|apply bA|apply bN|apply bD|refine bS ?_ GE101.out)|exact HB.out)) hb)
  clear BK101
  clear HB
  have BK101:=n0_
  have HB:=n1_
  clear n0_ n1_
  (try clear hb)
  (try clear hb2)
  (try clear hk)
  (try clear hi)
  refine hK.out _ _ ⟨(kC BK101.out 0).trans rfl,(kC BK101.out 1).trans rfl⟩ (fun hHeld=>?_)
  clear hK K
  refine norm_ (a':=?_) ?_ ?_
  rotate_left
  ·show Act.put _ (some 8) _=_
   simp only [Act.put,sA,sZ,sS,i64_w,i32_w]
   rfl
  refine pure_ (i:=10) (N:=some 15) (v:=?_) (a':=?_) #[I,I,I,I,I,I,I,I,I,I,I,O] rfl rfl (any_of HT_.out (by kernel_rfl)) (fun _ _ _ h=>h) (Or.inl ⟨by rfl,?_⟩) ?_ ?_
  rotate_left
  ·intro w'
   go_simp
   with_reducible rfl
  rotate_left
  ·simp only [Act.put,sA,sZ,sS,i64_w,i32_w]
   rfl
  refine pure_ (i:=11) (N:=some 4) (v:=?_) (a':=?_) #[I,I,I,I,I,I,I,I,I,I,I,I] rfl rfl (any_of HT_.out (by kernel_rfl)) (fun _ _ _ h=>h) (Or.inl ⟨by rfl,?_⟩) ?_ ?_
  rotate_left
  ·intro w'
   go_simp
   with_reducible rfl
  rotate_left
  ·simp only [Act.put,sA,sZ,sS,i64_w,i32_w]
   rfl
  refine done_ (done_of HT_.out (by kernel_rfl)) ?_
  try go_wp2
  go_ret
  exact ⟨by first|rfl|(simp [errW_none,errW_some]<;>rfl)|(simp only [←hji5];first|rfl|(simp [errW_none,errW_some]<;>rfl))|(simp [*, errW_none,errW_some]<;>rfl),by repeat (first|(with_reducible first|exact HB.out|apply bA|apply bN|apply bD|refine bS ?_ GE101.out)|exact HB.out)⟩
 ·rw [if_neg c4] at H
  exact absurd H (by simp)
end Go.Proofs.Ytpampekijfjlkab.X
