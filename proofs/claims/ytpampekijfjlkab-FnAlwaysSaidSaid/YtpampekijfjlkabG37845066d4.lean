/- Joined by a program of this session's: XO, X28, X30, X31, X11, X17, X18, X19, X70. -/
import Derived.Test.YtpampekijfjlkabRows
import Derived.KernelRfl
import Derived.Test.YtpampekijfjlkabGa4ed4a3048
import Derived.Test.YtpampekijfjlkabG2dda78d225

/- The program's own row of starts, word by word. -/
namespace Go.Proofs.Ytpampekijfjlkab.X
open Go
set_option maxRecDepth 100000
set_option linter.unusedSimpArgs false
theorem words_step : ∀ (w r:List Char),w.all (fun c=>c != ' ')=true→wordsSigns (w ++ ' ' :: r)=w :: wordsSigns r
 | [],r,_=>by simp [wordsSigns]
 | c :: w,r,h=>by
  simp only [List.all_cons,Bool.and_eq_true,bne_iff_ne,ne_eq] at h
  have ih:=words_step w r h.2
  have h1:=h.1
  rw [List.cons_append,wordsSigns,ih]
  intro e;exact h1 e
theorem words_last : ∀ (w:List Char),w.all (fun c=>c != ' ')=true→wordsSigns w=[w]
 | [],_=>by simp [wordsSigns]
 | c :: w,h=>by
  simp only [List.all_cons,Bool.and_eq_true,bne_iff_ne,ne_eq] at h
  have ih:=words_last w h.2
  have h1:=h.1
  rw [wordsSigns,ih]
  intro e;exact h1 e
def ow0:List Char:=['h', 'a', 'r', 'n', 'e', 's', 's']
def ow1:List Char:=['8', '9', 'f', 'b', 'f', '7', '5', '9', '6', '6', '0', 'e', '1', '7', '1', '5', '0', 'c', '1', 'e', '0', '5', 'e', '8', 'd', '7', '3', 'b', 'e', 'e', 'e', '7', '2', 'b', 'c', 'b', 'd', 'f', 'e', 'd', '4', '4', 'a', 'a', '8', 'c', '8', 'f', '6', '0', '6', '1', '9', '2', 'c', 'c', '8', '7', '1', '1', '2', 'c', '7', 'f']
def ow2:List Char:=['c', 'u', 't']
def ow3:List Char:=['a', 't']
def ow4:List Char:=['l', 'o', 'o', 'p', '.', 'e', 'x', 'a', 'm', 'p', 'l', 'e', '/', 't', 'e', 'l', 'l', 'e', 'r', 's', 'a', 'n', 'd', 'l', 'i', 'a', 'r', 's', '/', 'l', 'a', 'w', 's', '.', 'F', 'n', 'K', 'n', 'o', 'w', 'n', 'F', 'o', 'l', 'l', 'o', 'w', 's']
def ow5:List Char:=['l', 'o', 'o', 'p', '.', 'e', 'x', 'a', 'm', 'p', 'l', 'e', '/', 't', 'e', 'l', 'l', 'e', 'r', 's', 'a', 'n', 'd', 'l', 'i', 'a', 'r', 's', '/', 'l', 'a', 'w', 's', '.', 'F', 'n', 'E', 'x', 'a', 'c', 't', 'S', 'p', 'y', 'S', 'a', 'y', 's']
def ow6:List Char:=['l', 'o', 'o', 'p', '.', 'e', 'x', 'a', 'm', 'p', 'l', 'e', '/', 't', 'e', 'l', 'l', 'e', 'r', 's', 'a', 'n', 'd', 'l', 'i', 'a', 'r', 's', '/', 'l', 'a', 'w', 's', '.', 'F', 'n', 'M', 'a', 'y', 'S', 'a', 'y']
def ow7:List Char:=['l', 'o', 'o', 'p', '.', 'e', 'x', 'a', 'm', 'p', 'l', 'e', '/', 't', 'e', 'l', 'l', 'e', 'r', 's', 'a', 'n', 'd', 'l', 'i', 'a', 'r', 's', '/', 'l', 'a', 'w', 's', '.', 'F', 'n', 'S', 'a', 'y', 'C', 'o', 'u', 'n', 't']
def ow8:List Char:=['l', 'o', 'o', 'p', '.', 'e', 'x', 'a', 'm', 'p', 'l', 'e', '/', 't', 'e', 'l', 'l', 'e', 'r', 's', 'a', 'n', 'd', 'l', 'i', 'a', 'r', 's', '/', 'l', 'a', 'w', 's', '.', 'F', 'n', 'C', 'l', 'a', 'i', 'm', 'T', 'a', 'b', 'l', 'e']
def ow9:List Char:=['l', 'o', 'o', 'p', '.', 'e', 'x', 'a', 'm', 'p', 'l', 'e', '/', 't', 'e', 'l', 'l', 'e', 'r', 's', 'a', 'n', 'd', 'l', 'i', 'a', 'r', 's', '/', 'l', 'a', 'w', 's', '.', 'F', 'n', 'W', 'o', 'r', 'd', 'T', 'a', 'b', 'l', 'e']
def ow10:List Char:=['l', 'o', 'o', 'p', '.', 'e', 'x', 'a', 'm', 'p', 'l', 'e', '/', 't', 'e', 'l', 'l', 'e', 'r', 's', 'a', 'n', 'd', 'l', 'i', 'a', 'r', 's', '/', 'l', 'a', 'w', 's', '.', 'F', 'n', 'S', 't', 'o', 'r', 'y', 'T', 'a', 'b', 'l', 'e']
def ow11:List Char:=['l', 'o', 'o', 'p', '.', 'e', 'x', 'a', 'm', 'p', 'l', 'e', '/', 't', 'e', 'l', 'l', 'e', 'r', 's', 'a', 'n', 'd', 'l', 'i', 'a', 'r', 's', '/', 'l', 'a', 'w', 's', '.', 'F', 'n', 'C', 'l', 'a', 's', 'h', 'O', 'k']
def ow12:List Char:=['l', 'o', 'o', 'p', '.', 'e', 'x', 'a', 'm', 'p', 'l', 'e', '/', 't', 'e', 'l', 'l', 'e', 'r', 's', 'a', 'n', 'd', 'l', 'i', 'a', 'r', 's', '/', 'l', 'a', 'w', 's', '.', 'F', 'n', 'A', 'l', 'i', 'k', 'e', 'O', 'k']
def ow13:List Char:=['l', 'o', 'o', 'p', '.', 'e', 'x', 'a', 'm', 'p', 'l', 'e', '/', 't', 'e', 'l', 'l', 'e', 'r', 's', 'a', 'n', 'd', 'l', 'i', 'a', 'r', 's', '/', 'l', 'a', 'w', 's', '.', 'F', 'n', 'E', 'x', 'a', 'c', 't', 'S', 't', 'o', 'r', 'y', 'T', 'a', 'b', 'l', 'e']
def ow14:List Char:=['l', 'o', 'o', 'p', '.', 'e', 'x', 'a', 'm', 'p', 'l', 'e', '/', 't', 'e', 'l', 'l', 'e', 'r', 's', 'a', 'n', 'd', 'l', 'i', 'a', 'r', 's', '/', 'l', 'a', 'w', 's', '.', 'F', 'n', 'E', 'x', 'a', 'c', 't', 'C', 'l', 'a', 's', 'h', 'O', 'k']
def ow15:List Char:=['l', 'o', 'o', 'p', '.', 'e', 'x', 'a', 'm', 'p', 'l', 'e', '/', 't', 'e', 'l', 'l', 'e', 'r', 's', 'a', 'n', 'd', 'l', 'i', 'a', 'r', 's', '/', 'l', 'a', 'w', 's', '.', 'F', 'n', 'A', 'l', 'w', 'a', 'y', 's', 'S', 'a', 'i', 'd']
def ow16:List Char:=['l', 'o', 'o', 'p', '.', 'e', 'x', 'a', 'm', 'p', 'l', 'e', '/', 't', 'e', 'l', 'l', 'e', 'r', 's', 'a', 'n', 'd', 'l', 'i', 'a', 'r', 's', '/', 'l', 'a', 'w', 's', '.', 'F', 'n', 'N', 'e', 'v', 'e', 'r', 'S', 'a', 'i', 'd']
def ow17:List Char:=['l', 'o', 'o', 'p', '.', 'e', 'x', 'a', 'm', 'p', 'l', 'e', '/', 't', 'e', 'l', 'l', 'e', 'r', 's', 'a', 'n', 'd', 'l', 'i', 'a', 'r', 's', '/', 'l', 'a', 'w', 's', '.', 'F', 'n', 'S', 'p', 'y', 'S', 'a', 'y', 's']
def ow18:List Char:=['l', 'o', 'o', 'p', '.', 'e', 'x', 'a', 'm', 'p', 'l', 'e', '/', 't', 'e', 'l', 'l', 'e', 'r', 's', 'a', 'n', 'd', 'l', 'i', 'a', 'r', 's', '/', 'l', 'a', 'w', 's', '.', 'F', 'n', 'E', 'x', 'a', 'c', 't', 'O', 'n', 'l', 'y', 'W', 'o', 'r', 'l', 'd']
def ow19:List Char:=['l', 'o', 'o', 'p', '.', 'e', 'x', 'a', 'm', 'p', 'l', 'e', '/', 't', 'e', 'l', 'l', 'e', 'r', 's', 'a', 'n', 'd', 'l', 'i', 'a', 'r', 's', '/', 'l', 'a', 'w', 's', '.', 'F', 'n', 'N', 'e', 'e', 'd', 'l', 'e', 's', 's', 'C', 'l', 'a', 'i', 'm', 's']
def ow20:List Char:=['l', 'o', 'o', 'p', '.', 'e', 'x', 'a', 'm', 'p', 'l', 'e', '/', 't', 'e', 'l', 'l', 'e', 'r', 's', 'a', 'n', 'd', 'l', 'i', 'a', 'r', 's', '/', 'l', 'a', 'w', 's', '.', 'F', 'n', 'O', 'n', 'l', 'y', 'W', 'o', 'r', 'l', 'd']
def ow21:List Char:=['l', 'o', 'o', 'p', '.', 'e', 'x', 'a', 'm', 'p', 'l', 'e', '/', 't', 'e', 'l', 'l', 'e', 'r', 's', 'a', 'n', 'd', 'l', 'i', 'a', 'r', 's', '/', 'l', 'a', 'w', 's', '.', 'F', 'n', 'E', 'x', 'a', 'c', 't', 'N', 'e', 'e', 'd', 'l', 'e', 's', 's', 'C', 'l', 'a', 'i', 'm', 's']
def ow22:List Char:=['l', 'o', 'o', 'p', '.', 'e', 'x', 'a', 'm', 'p', 'l', 'e', '/', 't', 'e', 'l', 'l', 'e', 'r', 's', 'a', 'n', 'd', 'l', 'i', 'a', 'r', 's', '/', 'l', 'a', 'w', 's', '.', 'F', 'n', 'K', 'n', 'o', 'w', 'n', 'P', 'e', 'o', 'p', 'l', 'e']
theorem lit_:Try.pinned.checked.prog.initOrder=String.ofList (ow0 ++ ' ' :: (ow1 ++ ' ' :: (ow2 ++ ' ' :: (ow3 ++ ' ' :: (ow4 ++ ' ' :: (ow5 ++ ' ' :: (ow6 ++ ' ' :: (ow7 ++ ' ' :: (ow8 ++ ' ' :: (ow9 ++ ' ' :: (ow10 ++ ' ' :: (ow11 ++ ' ' :: (ow12 ++ ' ' :: (ow13 ++ ' ' :: (ow14 ++ ' ' :: (ow15 ++ ' ' :: (ow16 ++ ' ' :: (ow17 ++ ' ' :: (ow18 ++ ' ' :: (ow19 ++ ' ' :: (ow20 ++ ' ' :: (ow21 ++ ' ' :: (ow22))))))))))))))))))))))):=by kernel_rfl
theorem order_:Try.pinned.checked.prog.initOrder.toList=ow0 ++ ' ' :: (ow1 ++ ' ' :: (ow2 ++ ' ' :: (ow3 ++ ' ' :: (ow4 ++ ' ' :: (ow5 ++ ' ' :: (ow6 ++ ' ' :: (ow7 ++ ' ' :: (ow8 ++ ' ' :: (ow9 ++ ' ' :: (ow10 ++ ' ' :: (ow11 ++ ' ' :: (ow12 ++ ' ' :: (ow13 ++ ' ' :: (ow14 ++ ' ' :: (ow15 ++ ' ' :: (ow16 ++ ' ' :: (ow17 ++ ' ' :: (ow18 ++ ' ' :: (ow19 ++ ' ' :: (ow20 ++ ' ' :: (ow21 ++ ' ' :: (ow22)))))))))))))))))))))):=by rw [lit_];exact String.toList_ofList
theorem words_:wordsSigns Try.pinned.checked.prog.initOrder.toList=[ow0,ow1,ow2,ow3,ow4,ow5,ow6,ow7,ow8,ow9,ow10,ow11,ow12,ow13,ow14,ow15,ow16,ow17,ow18,ow19,ow20,ow21,ow22]:=by
 rw [order_,words_step _ _ (by kernel_rfl),words_step _ _ (by kernel_rfl),words_step _ _ (by kernel_rfl),words_step _ _ (by kernel_rfl),words_step _ _ (by kernel_rfl),words_step _ _ (by kernel_rfl),words_step _ _ (by kernel_rfl),words_step _ _ (by kernel_rfl),words_step _ _ (by kernel_rfl),words_step _ _ (by kernel_rfl),words_step _ _ (by kernel_rfl),words_step _ _ (by kernel_rfl),words_step _ _ (by kernel_rfl),words_step _ _ (by kernel_rfl),words_step _ _ (by kernel_rfl),words_step _ _ (by kernel_rfl),words_step _ _ (by kernel_rfl),words_step _ _ (by kernel_rfl),words_step _ _ (by kernel_rfl),words_step _ _ (by kernel_rfl),words_step _ _ (by kernel_rfl),words_step _ _ (by kernel_rfl),words_last _ (by kernel_rfl)]
theorem behind_:behindMainWord (wordsSigns Try.pinned.checked.prog.initOrder.toList)=['c', 'u', 't'] :: [ow3,ow4,ow5,ow6,ow7,ow8,ow9,ow10,ow11,ow12,ow13,ow14,ow15,ow16,ow17,ow18,ow19,ow20,ow21,ow22]:=by
 rw [words_]
 kernel_rfl
theorem lw0 : "finals".toList = ['f', 'i', 'n', 'a', 'l', 's'] := (show (String.ofList ['f', 'i', 'n', 'a', 'l', 's']).toList = ['f', 'i', 'n', 'a', 'l', 's'] from String.toList_ofList)
theorem lw1 : "reflectrows".toList = ['r', 'e', 'f', 'l', 'e', 'c', 't', 'r', 'o', 'w', 's'] := (show (String.ofList ['r', 'e', 'f', 'l', 'e', 'c', 't', 'r', 'o', 'w', 's']).toList = ['r', 'e', 'f', 'l', 'e', 'c', 't', 'r', 'o', 'w', 's'] from String.toList_ofList)
theorem lw2 : "leanrows".toList = ['l', 'e', 'a', 'n', 'r', 'o', 'w', 's'] := (show (String.ofList ['l', 'e', 'a', 'n', 'r', 'o', 'w', 's']).toList = ['l', 'e', 'a', 'n', 'r', 'o', 'w', 's'] from String.toList_ofList)
theorem lw3 : "onebuild".toList = ['o', 'n', 'e', 'b', 'u', 'i', 'l', 'd'] := (show (String.ofList ['o', 'n', 'e', 'b', 'u', 'i', 'l', 'd']).toList = ['o', 'n', 'e', 'b', 'u', 'i', 'l', 'd'] from String.toList_ofList)
theorem lw4 : "publicsums".toList = ['p', 'u', 'b', 'l', 'i', 'c', 's', 'u', 'm', 's'] := (show (String.ofList ['p', 'u', 'b', 'l', 'i', 'c', 's', 'u', 'm', 's']).toList = ['p', 'u', 'b', 'l', 'i', 'c', 's', 'u', 'm', 's'] from String.toList_ofList)
theorem lw5 : "eqguard".toList = ['e', 'q', 'g', 'u', 'a', 'r', 'd'] := (show (String.ofList ['e', 'q', 'g', 'u', 'a', 'r', 'd']).toList = ['e', 'q', 'g', 'u', 'a', 'r', 'd'] from String.toList_ofList)
theorem lw6 : "ownunsafe".toList = ['o', 'w', 'n', 'u', 'n', 's', 'a', 'f', 'e'] := (show (String.ofList ['o', 'w', 'n', 'u', 'n', 's', 'a', 'f', 'e']).toList = ['o', 'w', 'n', 'u', 'n', 's', 'a', 'f', 'e'] from String.toList_ofList)
theorem lw7 : "libbeside".toList = ['l', 'i', 'b', 'b', 'e', 's', 'i', 'd', 'e'] := (show (String.ofList ['l', 'i', 'b', 'b', 'e', 's', 'i', 'd', 'e']).toList = ['l', 'i', 'b', 'b', 'e', 's', 'i', 'd', 'e'] from String.toList_ofList)
theorem lw8 : "ownbeside".toList = ['o', 'w', 'n', 'b', 'e', 's', 'i', 'd', 'e'] := (show (String.ofList ['o', 'w', 'n', 'b', 'e', 's', 'i', 'd', 'e']).toList = ['o', 'w', 'n', 'b', 'e', 's', 'i', 'd', 'e'] from String.toList_ofList)
theorem lw9 : "reflbeside".toList = ['r', 'e', 'f', 'l', 'b', 'e', 's', 'i', 'd', 'e'] := (show (String.ofList ['r', 'e', 'f', 'l', 'b', 'e', 's', 'i', 'd', 'e']).toList = ['r', 'e', 'f', 'l', 'b', 'e', 's', 'i', 'd', 'e'] from String.toList_ofList)
theorem lw10 : "aliases".toList = ['a', 'l', 'i', 'a', 's', 'e', 's'] := (show (String.ofList ['a', 'l', 'i', 'a', 's', 'e', 's']).toList = ['a', 'l', 'i', 'a', 's', 'e', 's'] from String.toList_ofList)
theorem lw11 : "afterinit".toList = ['a', 'f', 't', 'e', 'r', 'i', 'n', 'i', 't'] := (show (String.ofList ['a', 'f', 't', 'e', 'r', 'i', 'n', 'i', 't']).toList = ['a', 'f', 't', 'e', 'r', 'i', 'n', 'i', 't'] from String.toList_ofList)
theorem lw12 : "crcplain".toList = ['c', 'r', 'c', 'p', 'l', 'a', 'i', 'n'] := (show (String.ofList ['c', 'r', 'c', 'p', 'l', 'a', 'i', 'n']).toList = ['c', 'r', 'c', 'p', 'l', 'a', 'i', 'n'] from String.toList_ofList)
theorem lw13 : "roadunsafe".toList = ['r', 'o', 'a', 'd', 'u', 'n', 's', 'a', 'f', 'e'] := (show (String.ofList ['r', 'o', 'a', 'd', 'u', 'n', 's', 'a', 'f', 'e']).toList = ['r', 'o', 'a', 'd', 'u', 'n', 's', 'a', 'f', 'e'] from String.toList_ofList)
theorem lw14 : "fmthandon".toList = ['f', 'm', 't', 'h', 'a', 'n', 'd', 'o', 'n'] := (show (String.ofList ['f', 'm', 't', 'h', 'a', 'n', 'd', 'o', 'n']).toList = ['f', 'm', 't', 'h', 'a', 'n', 'd', 'o', 'n'] from String.toList_ofList)
theorem lw15 : "gc".toList = ['g', 'c'] := (show (String.ofList ['g', 'c']).toList = ['g', 'c'] from String.toList_ofList)
theorem lw16 : "spec".toList = ['s', 'p', 'e', 'c'] := (show (String.ofList ['s', 'p', 'e', 'c']).toList = ['s', 'p', 'e', 'c'] from String.toList_ofList)
theorem lw17 : "stop".toList = ['s', 't', 'o', 'p'] := (show (String.ofList ['s', 't', 'o', 'p']).toList = ['s', 't', 'o', 'p'] from String.toList_ofList)
theorem lw18 : "carried".toList = ['c', 'a', 'r', 'r', 'i', 'e', 'd'] := (show (String.ofList ['c', 'a', 'r', 'r', 'i', 'e', 'd']).toList = ['c', 'a', 'r', 'r', 'i', 'e', 'd'] from String.toList_ofList)
theorem lw19 : "cut".toList = ['c', 'u', 't'] := (show (String.ofList ['c', 'u', 't']).toList = ['c', 'u', 't'] from String.toList_ofList)
theorem strip_ (r:List (List Char)):stripLifts liftWords (['c', 'u', 't'] :: r)=([],['c', 'u', 't'] :: r):=by
 unfold liftWords
 simp [stripLifts,lw0,lw1,lw2,lw3,lw4,lw5,lw6,lw7,lw8,lw9,lw10,lw11,lw12,lw13,lw14,lw15,lw16,lw17,lw18,lw19]
theorem may_of {P:Program} {r:List (List Char)} (hb:behindMainWord (wordsSigns P.initOrder.toList)=['c', 'u', 't'] :: r) (h1:P.laysLater=false) (h2:P.bearsReflect=false) (h3:P.doorRows=[]):P.mayEnter=true:=by
 unfold Program.mayEnter
 rw [hb]
 simp [strip_,lw0,lw1,lw2,lw3,lw4,lw5,lw6,lw7,lw8,lw9,lw10,lw11,lw12,lw13,lw14,lw15,lw16,lw17,lw18,lw19,Program.doorFits,h1,h2,h3]
theorem fin_of {P:Program} {r:List (List Char)} (hb:behindMainWord (wordsSigns P.initOrder.toList)=['c', 'u', 't'] :: r):P.liftsFinal=false:=by
 unfold Program.liftsFinal Program.headLifts
 rw [hb]
 simp [strip_,lw0,lw1,lw2,lw3,lw4,lw5,lw6,lw7,lw8,lw9,lw10,lw11,lw12,lw13,lw14,lw15,lw16,lw17,lw18,lw19]
theorem make_of {P:Program} {r:List (List Char)} (hb:behindMainWord (wordsSigns P.initOrder.toList)=['c', 'u', 't'] :: r):P.make=some .cut:=by
 unfold Program.make
 rw [hb]
 simp [lw0,lw1,lw2,lw3,lw4,lw5,lw6,lw7,lw8,lw9,lw10,lw11,lw12,lw13,lw14,lw15,lw16,lw17,lw18,lw19]
theorem lays_:Try.pinned.checked.prog.laysLater=false:=by kernel_rfl
theorem refl_:Try.pinned.checked.prog.bearsReflect=false:=by kernel_rfl
theorem door_:Try.pinned.checked.prog.doorRows=[]:=by kernel_rfl
theorem may_:Try.pinned.checked.prog.mayEnter=true:=may_of behind_ lays_ refl_ door_
theorem make_:Try.pinned.checked.prog.make=some .cut:=make_of behind_
theorem fin_:Try.pinned.checked.prog.liftsFinal=false:=fin_of behind_
end Go.Proofs.Ytpampekijfjlkab.X
namespace Go.Proofs.Ytpampekijfjlkab.X
open Go.RowKit Go.Proofs.YtpampekijfjlkabW.PrintWords Go.Proofs.YtpampekijfjlkabW.PrintLast Go.Proofs.YtpampekijfjlkabW.PrintMore
open Go.Proofs.YtpampekijfjlkabW.PrintWords renaming Aside0.mk → mA, pw_below_drewN → bN, below_drew1 → bD, below_alloc → bA, below_set → bS, blk_alloc → kA, blk_drewN → kN, blk_drew → kD, blk_cell → kC, blk_frozen → kF, below_size → bZ, below_step → bT, blk_below → kB, Kd.C_alloc → cA, Kd.C_drewN → cN, Kd.C_drew → cD
open Option renaming bind_eq_some_iff → oB
open List renaming setIfInBounds_toArray → sA, set_cons_zero → sZ, set_cons_succ → sS, length_take → lT, length_drop → lD, map_toArray → mT, map_cons → mC, map_nil → mN
open Bool renaming true → I, false → O
attribute [local go_sem] max2_int min2_int max_two min_two max_three min_three max_four min_four   -- for this text's walks alone
set_option linter.unusedVariables false
set_option linter.unusedSimpArgs false
/-! ### spec_ClaimOk: function 37 -/
def spec_ClaimOk.f (k:Nat) (a0:Int) (a1_0:Int) (l1_1:List (S33)):Option (Bool):=if a1_0≥0 then (if a1_0<a0 then ((spec_TermOk.f k a0 l1_1).bind fun t102=>(if t102=true then (some (decide ((l1_1.length:Int)≤13))) else (some false))) else (some false)) else (some false)
theorem spec_ClaimOk.mono : ∀ a0 a1 a2 k,LeO (spec_ClaimOk.f k a0 a1 a2) (spec_ClaimOk.f (k+1) a0 a1 a2):=by
 intro a0 a1 a2 k
 unfold spec_ClaimOk.f
 repeat' first
   | (with_reducible exact spec_TermOk.mono _ _ _)
   | (with_reducible exact LeO.refl _)
   | (with_reducible exact LeO.none _)
   | (with_reducible refine LeO.ite ?_ ?_)
   | (with_reducible refine LeO.bind ?_ (fun _=>?_))
   | exact spec_TermOk.mono _ _ _
   | exact LeO.none _
   | refine LeO.ite ?_ ?_
   | refine LeO.bind ?_ (fun _=>?_)
set_option maxHeartbeats 8000000 in
set_option maxRecDepth 100000 in
theorem spec_ClaimOk.calls (k:Nat) (a0:Int) (a1_0:Int) (A1_1:Option Addr) (c1_1:Nat) (l1_1:List (S33)) (r:Bool) (w:World) (hr1_1:Kd.C k33 w A1_1 l1_1.length l1_1) (hc1_1:l1_1.length≤c1_1) (h:spec_ClaimOk.f k a0 a1_0 l1_1=some r) :
  Calls Try.prog 37 #[.int .i64 a0,.agg #[.int .i64 a1_0,.slice A1_1 l1_1.length c1_1]] w fun e w'=>e = .returned (.bool r)∧Below w.heap.size w w':=by
 have hu36:=Try.underlying36
 have HR1_1:=mA hr1_1
 have HC1_1:=mA hc1_1
 clear hr1_1 hc1_1
 have HB:=mA (Below.refl w.heap.size w)
 have H:(if a1_0≥0 then (if a1_0<a0 then ((spec_TermOk.f k a0 l1_1).bind fun t102=>(if t102=true then (some (decide ((l1_1.length:Int)≤13))) else (some false))) else (some false)) else (some false))=some r:=h
 clear h
 by_cases c3:a1_0≥0
 ·rw [if_pos c3] at H
  have c3b0:decide (0≤a1_0)=true:=decide_eq_true c3
  clear c3
  by_cases c4:a1_0<a0
  ·rw [if_pos c4] at H
   have c4b0:decide (a1_0<a0)=true:=decide_eq_true c4
   clear c4
   replace H:=oB.mp H
   obtain ⟨t102,A50,H⟩:=H
   replace H:(if t102=true then (some (decide ((l1_1.length:Int)≤13))) else (some false))=some r:=H
   have A5:=mA A50
   clear A50
   by_cases c6:t102=true
   ·subst c6
    have H1:(some (decide ((l1_1.length:Int)≤13)))=some r:=by rw [if_pos rfl] at H;exact H
    clear H
    have H:=H1
    clear H1
    obtain rfl:=Option.some.inj H
    go_enter Try.func37,Try.ntmps37
    go_wp2_with (first|((with_reducible refine gate_dst (N:=3) rfl ?_);(try (refine gate_guard (by rfl) ?_;dsimp only));refine box_event ?hg (N:=3) ?hd (cs:=#[.int .i64 a1_0,.slice A1_1 l1_1.length c1_1]) (t:=36) ?hr ?_;(case hd=>rfl);(case hg=>rfl);(case hr=>first|(go_simp;done)|(go_simp;rfl));intro gb101 hg w7 hbox hb;have n0_:=mA (bT (by repeat first|(with_reducible first|exact HB.out|apply bA|apply bN|apply bD)|exact HB.out) hb);have n1_:=mA (hbox);have n2_:=mA ((by rw [hg];exact (bZ (by repeat first|(with_reducible first|exact HB.out|apply bA|apply bN|apply bD)|exact HB.out)):w.heap.size≤gb101));have n3_:=mA ((by rw [hg];exact (bZ (by repeat first|(with_reducible first|exact HB.out|apply bA|apply bN|apply bD)|exact HB.out)):w.heap.size≤gb101));clear HB;have HB:=n0_;have BK101:=n1_;have GW101:=n2_;have GE101:=n3_;clear n0_ n1_ n2_ n3_ hb hbox hg;have hcz8_0:w7.cell? ⟨gb101,0,none⟩=some (.int .i64 a1_0):=(kC BK101.out 0).trans rfl;have hcz8_1:w7.cell? ⟨gb101,1,none⟩=some (.slice A1_1 l1_1.length c1_1):=(kC BK101.out 1).trans rfl;have hfz8_0:=kF BK101.out 0;have hfz8_1:=kF BK101.out 1)|(go_at_call 68;(with_reducible refine (spec_TermOk.calls k a0 _ _ l1_1 true _ ?side1 ?side2 A5.out).mono ?_);(case side1=>repeat first|exact (Kd.C_below HR1_1.out HB.out)|(with_reducible refine cA ?_ _)|(with_reducible refine cN ?_ _)|(with_reducible refine cD ?_));(case side2=>exact HC1_1.out);rintro e w' ⟨rfl,⟨nd,rfl⟩⟩))
    go_ret
    exact ⟨by first|rfl|(simp [errW_none,errW_some]<;>rfl)|(simp [*, errW_none,errW_some]<;>rfl),by repeat (first|(with_reducible first|exact HB.out|apply bA|apply bN|apply bD|refine bS ?_ GE101.out)|exact HB.out)⟩
   replace c6:=Bool.eq_false_iff.mpr c6
   subst c6
   have H1:(some false)=some r:=by rw [if_neg (show ¬ (false=true) by decide)] at H;exact H
   clear H
   have H:=H1
   clear H1
   obtain rfl:=Option.some.inj H
   go_enter Try.func37,Try.ntmps37
   go_wp2_with (first|((with_reducible refine gate_dst (N:=3) rfl ?_);(try (refine gate_guard (by rfl) ?_;dsimp only));refine box_event ?hg (N:=3) ?hd (cs:=#[.int .i64 a1_0,.slice A1_1 l1_1.length c1_1]) (t:=36) ?hr ?_;(case hd=>rfl);(case hg=>rfl);(case hr=>first|(go_simp;done)|(go_simp;rfl));intro gb101 hg w9 hbox hb;have n0_:=mA (bT (by repeat first|(with_reducible first|exact HB.out|apply bA|apply bN|apply bD)|exact HB.out) hb);have n1_:=mA (hbox);have n2_:=mA ((by rw [hg];exact (bZ (by repeat first|(with_reducible first|exact HB.out|apply bA|apply bN|apply bD)|exact HB.out)):w.heap.size≤gb101));have n3_:=mA ((by rw [hg];exact (bZ (by repeat first|(with_reducible first|exact HB.out|apply bA|apply bN|apply bD)|exact HB.out)):w.heap.size≤gb101));clear HB;have HB:=n0_;have BK101:=n1_;have GW101:=n2_;have GE101:=n3_;clear n0_ n1_ n2_ n3_ hb hbox hg;have hcz10_0:w9.cell? ⟨gb101,0,none⟩=some (.int .i64 a1_0):=(kC BK101.out 0).trans rfl;have hcz10_1:w9.cell? ⟨gb101,1,none⟩=some (.slice A1_1 l1_1.length c1_1):=(kC BK101.out 1).trans rfl;have hfz10_0:=kF BK101.out 0;have hfz10_1:=kF BK101.out 1)|(go_at_call 68;(with_reducible refine (spec_TermOk.calls k a0 _ _ l1_1 false _ ?side1 ?side2 A5.out).mono ?_);(case side1=>repeat first|exact (Kd.C_below HR1_1.out HB.out)|(with_reducible refine cA ?_ _)|(with_reducible refine cN ?_ _)|(with_reducible refine cD ?_));(case side2=>exact HC1_1.out);rintro e w' ⟨rfl,⟨nd,rfl⟩⟩))
   go_ret
   exact ⟨by first|rfl|(simp [errW_none,errW_some]<;>rfl)|(simp [*, errW_none,errW_some]<;>rfl),by repeat (first|(with_reducible first|exact HB.out|apply bA|apply bN|apply bD|refine bS ?_ GE101.out)|exact HB.out)⟩
  rw [if_neg c4] at H
  have c4b0:decide (a1_0<a0)=false:=decide_eq_false c4
  clear c4
  obtain rfl:=Option.some.inj H
  go_enter Try.func37,Try.ntmps37
  go_wp2_with (first|((with_reducible refine gate_dst (N:=3) rfl ?_);(try (refine gate_guard (by rfl) ?_;dsimp only));refine box_event ?hg (N:=3) ?hd (cs:=#[.int .i64 a1_0,.slice A1_1 l1_1.length c1_1]) (t:=36) ?hr ?_;(case hd=>rfl);(case hg=>rfl);(case hr=>first|(go_simp;done)|(go_simp;rfl));intro gb101 hg w11 hbox hb;have n0_:=mA (bT (by repeat first|(with_reducible first|exact HB.out|apply bA|apply bN|apply bD)|exact HB.out) hb);have n1_:=mA (hbox);have n2_:=mA ((by rw [hg];exact (bZ (by repeat first|(with_reducible first|exact HB.out|apply bA|apply bN|apply bD)|exact HB.out)):w.heap.size≤gb101));have n3_:=mA ((by rw [hg];exact (bZ (by repeat first|(with_reducible first|exact HB.out|apply bA|apply bN|apply bD)|exact HB.out)):w.heap.size≤gb101));clear HB;have HB:=n0_;have BK101:=n1_;have GW101:=n2_;have GE101:=n3_;clear n0_ n1_ n2_ n3_ hb hbox hg;have hcz12_0:w11.cell? ⟨gb101,0,none⟩=some (.int .i64 a1_0):=(kC BK101.out 0).trans rfl;have hcz12_1:w11.cell? ⟨gb101,1,none⟩=some (.slice A1_1 l1_1.length c1_1):=(kC BK101.out 1).trans rfl;have hfz12_0:=kF BK101.out 0;have hfz12_1:=kF BK101.out 1))
  go_ret
  exact ⟨by first|rfl|(simp [errW_none,errW_some]<;>rfl)|(simp [*, errW_none,errW_some]<;>rfl),by repeat (first|(with_reducible first|exact HB.out|apply bA|apply bN|apply bD|refine bS ?_ GE101.out)|exact HB.out)⟩
 rw [if_neg c3] at H
 have c3b0:decide (0≤a1_0)=false:=decide_eq_false c3
 clear c3
 obtain rfl:=Option.some.inj H
 go_enter Try.func37,Try.ntmps37
 go_wp2_with (first|((with_reducible refine gate_dst (N:=3) rfl ?_);(try (refine gate_guard (by rfl) ?_;dsimp only));refine box_event ?hg (N:=3) ?hd (cs:=#[.int .i64 a1_0,.slice A1_1 l1_1.length c1_1]) (t:=36) ?hr ?_;(case hd=>rfl);(case hg=>rfl);(case hr=>first|(go_simp;done)|(go_simp;rfl));intro gb101 hg w13 hbox hb;have n0_:=mA (bT (by repeat first|(with_reducible first|exact HB.out|apply bA|apply bN|apply bD)|exact HB.out) hb);have n1_:=mA (hbox);have n2_:=mA ((by rw [hg];exact (bZ (by repeat first|(with_reducible first|exact HB.out|apply bA|apply bN|apply bD)|exact HB.out)):w.heap.size≤gb101));have n3_:=mA ((by rw [hg];exact (bZ (by repeat first|(with_reducible first|exact HB.out|apply bA|apply bN|apply bD)|exact HB.out)):w.heap.size≤gb101));clear HB;have HB:=n0_;have BK101:=n1_;have GW101:=n2_;have GE101:=n3_;clear n0_ n1_ n2_ n3_ hb hbox hg;have hcz14_0:w13.cell? ⟨gb101,0,none⟩=some (.int .i64 a1_0):=(kC BK101.out 0).trans rfl;have hcz14_1:w13.cell? ⟨gb101,1,none⟩=some (.slice A1_1 l1_1.length c1_1):=(kC BK101.out 1).trans rfl;have hfz14_0:=kF BK101.out 0;have hfz14_1:=kF BK101.out 1))
 go_ret
 exact ⟨by first|rfl|(simp [errW_none,errW_some]<;>rfl)|(simp [*, errW_none,errW_some]<;>rfl),by repeat (first|(with_reducible first|exact HB.out|apply bA|apply bN|apply bD|refine bS ?_ GE101.out)|exact HB.out)⟩
/-! ### impl_WorldOk: function 99 -/
def impl_WorldOk.f (a0:Int) (a1:Int):Option (Bool):=(impl_peopleOk.f a0).bind fun t101=>(if t101=true then (if a1≥0 then (if 0≤a0 then (some (decide (a1<(shl .i64 1 a0)))) else (none)) else (some false)) else (some false))
set_option maxHeartbeats 8000000 in
set_option maxRecDepth 100000 in
theorem impl_WorldOk.calls (a0:Int) (a1:Int) (r:Bool) (w:World) (h:impl_WorldOk.f a0 a1=some r) :
  Calls Try.prog 99 #[.int .i64 a0,.int .i64 a1] w fun e w'=>e = .returned (.bool r)∧Drawn0 w w':=by
 have H:((impl_peopleOk.f a0).bind fun t101=>(if t101=true then (if a1≥0 then (if 0≤a0 then (some (decide (a1<(shl .i64 1 a0)))) else (none)) else (some false)) else (some false)))=some r:=h
 clear h
 replace H:=oB.mp H
 obtain ⟨t101,A30,H⟩:=H
 replace H:(if t101=true then (if a1≥0 then (if 0≤a0 then (some (decide (a1<(shl .i64 1 a0)))) else (none)) else (some false)) else (some false))=some r:=H
 have A3:=mA A30
 clear A30
 by_cases c4:t101=true
 ·subst c4
  have H1:(if a1≥0 then (if 0≤a0 then (some (decide (a1<(shl .i64 1 a0)))) else (none)) else (some false))=some r:=by rw [if_pos rfl] at H;exact H
  clear H
  have H:=H1
  clear H1
  by_cases c5:a1≥0
  ·rw [if_pos c5] at H
   have c5b0:decide (0≤a1)=true:=decide_eq_true c5
   clear c5
   by_cases c6:0≤a0
   ·rw [if_pos c6] at H
    have c6b0:=eq_true c6
    have c6b1:decide (0≤a0)=true:=decide_eq_true c6
    clear c6
    obtain ⟨ji7,hji7⟩ : ∃ j_:Int,(shl .i64 1 a0)=j_:=⟨_,rfl⟩
    replace H:(some (decide (a1<(ji7))))=some r:=by first|(rw [hji7] at H;exact H)|(simp only [hji7] at H ⊢;exact H)
    (try rw [hji7] at A3)
    have hji7_:(IntKind.i64.wrap (1*2^min a0.toNat 64))=ji7:=hji7
    have hji7z:a0≤64→(IntKind.i64.wrap (1*2^a0.toNat))=ji7:=shl_small hji7
    have hji7u:(IntKind.i64.wrap (2^min a0.toNat 64))=ji7:=by have h_:=hji7_;rw [Int.one_mul] at h_;exact h_
    have hji7v:a0≤64→(IntKind.i64.wrap (2^a0.toNat))=ji7:=fun hle_=>by have h_:=hji7z hle_;rw [Int.one_mul] at h_;exact h_
    have hji7y:(wrap64 (1*2^min a0.toNat 64))=ji7:=(i64_w _).symm.trans hji7_
    have hji7x:a0≤64→(wrap64 (1*2^a0.toNat))=ji7:=fun h_=>(i64_w _).symm.trans (hji7z h_)
    obtain rfl:=Option.some.inj H
    go_enter Try.func99,Try.ntmps99
    go_wp2_with (first|((with_reducible refine gate_callee (f:=115) rfl ?_);refine goesL_ (some 6) rfl rfl Try.func115 (by kernel_rfl) rfl #[.int .i64 a0] rfl (by (try simp only [mT,mC,mN]);first|done|rfl|(simp only [lD,lT];rfl)) ?_;(with_reducible refine (impl_peopleOk.calls a0 true _ A3.out).mono ?_);rintro e w' ⟨rfl,⟨nd,rfl⟩⟩;refine ⟨_,rfl,?_⟩))
    go_ret
    exact ⟨by first|rfl|(simp;done)|(simp only [←hji7]<;>(first|rfl|simp))|(simp [*];done),by repeat (first|exact Drawn0.refl _|apply Drawn0.step)⟩
   rw [if_neg c6] at H
   exact absurd H (by simp)
  rw [if_neg c5] at H
  have c5b0:decide (0≤a1)=false:=decide_eq_false c5
  clear c5
  obtain rfl:=Option.some.inj H
  go_enter Try.func99,Try.ntmps99
  go_wp2_with (first|((with_reducible refine gate_callee (f:=115) rfl ?_);refine goesL_ (some 6) rfl rfl Try.func115 (by kernel_rfl) rfl #[.int .i64 a0] rfl (by (try simp only [mT,mC,mN]);first|done|rfl|(simp only [lD,lT];rfl)) ?_;(with_reducible refine (impl_peopleOk.calls a0 true _ A3.out).mono ?_);rintro e w' ⟨rfl,⟨nd,rfl⟩⟩;refine ⟨_,rfl,?_⟩))
  go_ret
  exact ⟨by first|rfl|(simp;done)|(simp [*];done),by repeat (first|exact Drawn0.refl _|apply Drawn0.step)⟩
 replace c4:=Bool.eq_false_iff.mpr c4
 subst c4
 have H1:(some false)=some r:=by rw [if_neg (show ¬ (false=true) by decide)] at H;exact H
 clear H
 have H:=H1
 clear H1
 obtain rfl:=Option.some.inj H
 go_enter Try.func99,Try.ntmps99
 go_wp2_with (first|((with_reducible refine gate_callee (f:=115) rfl ?_);refine goesL_ (some 6) rfl rfl Try.func115 (by kernel_rfl) rfl #[.int .i64 a0] rfl (by (try simp only [mT,mC,mN]);first|done|rfl|(simp only [lD,lT];rfl)) ?_;(with_reducible refine (impl_peopleOk.calls a0 false _ A3.out).mono ?_);rintro e w' ⟨rfl,⟨nd,rfl⟩⟩;refine ⟨_,rfl,?_⟩))
 go_ret
 exact ⟨by first|rfl|(simp;done)|(simp [*];done),by repeat (first|exact Drawn0.refl _|apply Drawn0.step)⟩
/-! ### laws_alive: function 26 -/
def laws_alive.f  : Option (Bool):=(impl_WorldOk.f 1 1).bind fun t101=>(if t101=true then ((impl_WorldOk.f 1 2).bind fun t102=>(some (!t102))) else (some false))
set_option maxHeartbeats 8000000 in
set_option maxRecDepth 100000 in
theorem laws_alive.calls  (r:Bool) (w:World) (h:laws_alive.f  = some r) :
  Calls Try.prog 26 #[] w fun e w'=>e = .returned (.bool r)∧Drawn0 w w':=by
 have H:((impl_WorldOk.f 1 1).bind fun t101=>(if t101=true then ((impl_WorldOk.f 1 2).bind fun t102=>(some (!t102))) else (some false)))=some r:=h
 clear h
 replace H:=oB.mp H
 obtain ⟨t101,A10,H⟩:=H
 replace H:(if t101=true then ((impl_WorldOk.f 1 2).bind fun t102=>(some (!t102))) else (some false))=some r:=H
 have A1:=mA A10
 clear A10
 by_cases c2:t101=true
 ·subst c2
  have H1:((impl_WorldOk.f 1 2).bind fun t102=>(some (!t102)))=some r:=by rw [if_pos rfl] at H;exact H
  clear H
  have H:=H1
  clear H1
  replace H:=oB.mp H
  obtain ⟨t102,A30,H⟩:=H
  replace H:(some (!t102))=some r:=H
  have A3:=mA A30
  clear A30
  obtain rfl:=Option.some.inj H
  go_enter Try.func26,Try.ntmps26
  go_wp2_with (first|((with_reducible refine gate_callee (f:=99) rfl ?_);refine goesL_ (some 1) rfl rfl Try.func99 (by kernel_rfl) rfl #[.int .i64 1,.int .i64 1] rfl (by (try simp only [mT,mC,mN]);first|done|rfl|(simp only [lD,lT];rfl)) ?_;(with_reducible refine (impl_WorldOk.calls 1 1 true _ A1.out).mono ?_);rintro e w' ⟨rfl,⟨nd,rfl⟩⟩;refine ⟨_,rfl,?_⟩)|(go_at_call 99;(with_reducible refine (impl_WorldOk.calls 1 2 t102 _ A3.out).mono ?_);rintro e w' ⟨rfl,⟨nd,rfl⟩⟩))
  go_ret
  exact ⟨by first|rfl|(simp;done)|(simp [*];done),by repeat (first|exact Drawn0.refl _|apply Drawn0.step)⟩
 replace c2:=Bool.eq_false_iff.mpr c2
 subst c2
 have H1:(some false)=some r:=by rw [if_neg (show ¬ (false=true) by decide)] at H;exact H
 clear H
 have H:=H1
 clear H1
 obtain rfl:=Option.some.inj H
 go_enter Try.func26,Try.ntmps26
 go_wp2_with (first|((with_reducible refine gate_callee (f:=99) rfl ?_);refine goesL_ (some 1) rfl rfl Try.func99 (by kernel_rfl) rfl #[.int .i64 1,.int .i64 1] rfl (by (try simp only [mT,mC,mN]);first|done|rfl|(simp only [lD,lT];rfl)) ?_;(with_reducible refine (impl_WorldOk.calls 1 1 false _ A1.out).mono ?_);rintro e w' ⟨rfl,⟨nd,rfl⟩⟩;refine ⟨_,rfl,?_⟩))
 go_ret
 exact ⟨by first|rfl|(simp;done)|(simp [*];done),by repeat (first|exact Drawn0.refl _|apply Drawn0.step)⟩
/-! ### impl_ClaimOk: function 45 -/
def impl_ClaimOk.f (k:Nat) (a0:Int) (a1_0:Int) (l1_1:List (S33)):Option (Bool):=(impl_peopleOk.f a0).bind fun t102=>(if t102=true then (if a1_0≥0 then (if a1_0<a0 then ((impl_TermOk.f k a0 l1_1).bind fun t103=>(if t103=true then (some (decide ((l1_1.length:Int)≤13))) else (some false))) else (some false)) else (some false)) else (some false))
theorem impl_ClaimOk.mono : ∀ a0 a1 a2 k,LeO (impl_ClaimOk.f k a0 a1 a2) (impl_ClaimOk.f (k+1) a0 a1 a2):=by
 intro a0 a1 a2 k
 unfold impl_ClaimOk.f
 repeat' first
   | (with_reducible exact impl_TermOk.mono _ _ _)
   | (with_reducible exact LeO.refl _)
   | (with_reducible exact LeO.none _)
   | (with_reducible refine LeO.ite ?_ ?_)
   | (with_reducible refine LeO.bind ?_ (fun _=>?_))
   | exact impl_TermOk.mono _ _ _
   | exact LeO.none _
   | refine LeO.ite ?_ ?_
   | refine LeO.bind ?_ (fun _=>?_)
set_option maxHeartbeats 8000000 in
set_option maxRecDepth 100000 in
theorem impl_ClaimOk.calls (k:Nat) (a0:Int) (a1_0:Int) (A1_1:Option Addr) (c1_1:Nat) (l1_1:List (S33)) (r:Bool) (w:World) (hr1_1:Kd.C k33 w A1_1 l1_1.length l1_1) (hc1_1:l1_1.length≤c1_1) (h:impl_ClaimOk.f k a0 a1_0 l1_1=some r) :
  Calls Try.prog 45 #[.int .i64 a0,.agg #[.int .i64 a1_0,.slice A1_1 l1_1.length c1_1]] w fun e w'=>e = .returned (.bool r)∧Below w.heap.size w w':=by
 have hu36:=Try.underlying36
 have HR1_1:=mA hr1_1
 have HC1_1:=mA hc1_1
 clear hr1_1 hc1_1
 have HB:=mA (Below.refl w.heap.size w)
 have H:((impl_peopleOk.f a0).bind fun t102=>(if t102=true then (if a1_0≥0 then (if a1_0<a0 then ((impl_TermOk.f k a0 l1_1).bind fun t103=>(if t103=true then (some (decide ((l1_1.length:Int)≤13))) else (some false))) else (some false)) else (some false)) else (some false)))=some r:=h
 clear h
 replace H:=oB.mp H
 obtain ⟨t102,A30,H⟩:=H
 replace H:(if t102=true then (if a1_0≥0 then (if a1_0<a0 then ((impl_TermOk.f k a0 l1_1).bind fun t103=>(if t103=true then (some (decide ((l1_1.length:Int)≤13))) else (some false))) else (some false)) else (some false)) else (some false))=some r:=H
 have A3:=mA A30
 clear A30
 by_cases c4:t102=true
 ·subst c4
  have H1:(if a1_0≥0 then (if a1_0<a0 then ((impl_TermOk.f k a0 l1_1).bind fun t103=>(if t103=true then (some (decide ((l1_1.length:Int)≤13))) else (some false))) else (some false)) else (some false))=some r:=by rw [if_pos rfl] at H;exact H
  clear H
  have H:=H1
  clear H1
  by_cases c5:a1_0≥0
  ·rw [if_pos c5] at H
   have c5b0:decide (0≤a1_0)=true:=decide_eq_true c5
   clear c5
   by_cases c6:a1_0<a0
   ·rw [if_pos c6] at H
    have c6b0:decide (a1_0<a0)=true:=decide_eq_true c6
    clear c6
    replace H:=oB.mp H
    obtain ⟨t103,A70,H⟩:=H
    replace H:(if t103=true then (some (decide ((l1_1.length:Int)≤13))) else (some false))=some r:=H
    have A7:=mA A70
    clear A70
    by_cases c8:t103=true
    ·subst c8
     have H1:(some (decide ((l1_1.length:Int)≤13)))=some r:=by rw [if_pos rfl] at H;exact H
     clear H
     have H:=H1
     clear H1
     obtain rfl:=Option.some.inj H
     go_enter Try.func45,Try.ntmps45
     go_wp2_with (first|((with_reducible refine gate_dst (N:=3) rfl ?_);(try (refine gate_guard (by rfl) ?_;dsimp only));refine box_event ?hg (N:=3) ?hd (cs:=#[.int .i64 a1_0,.slice A1_1 l1_1.length c1_1]) (t:=36) ?hr ?_;(case hd=>rfl);(case hg=>rfl);(case hr=>first|(go_simp;done)|(go_simp;rfl));intro gb101 hg w9 hbox hb;have n0_:=mA (bT (by repeat first|(with_reducible first|exact HB.out|apply bA|apply bN|apply bD)|exact HB.out) hb);have n1_:=mA (hbox);have n2_:=mA ((by rw [hg];exact (bZ (by repeat first|(with_reducible first|exact HB.out|apply bA|apply bN|apply bD)|exact HB.out)):w.heap.size≤gb101));have n3_:=mA ((by rw [hg];exact (bZ (by repeat first|(with_reducible first|exact HB.out|apply bA|apply bN|apply bD)|exact HB.out)):w.heap.size≤gb101));clear HB;have HB:=n0_;have BK101:=n1_;have GW101:=n2_;have GE101:=n3_;clear n0_ n1_ n2_ n3_ hb hbox hg)|((with_reducible refine gate_callee (f:=115) rfl ?_);refine goesL_ (some 6) rfl rfl Try.func115 (by kernel_rfl) rfl #[.int .i64 a0] rfl (by (try simp only [mT,mC,mN]);first|done|rfl|(simp only [lD,lT];rfl)) ?_;(with_reducible refine (impl_peopleOk.calls a0 true _ A3.out).mono ?_);rintro e w' ⟨rfl,⟨nd,rfl⟩⟩;refine ⟨_,rfl,?_⟩;have hcz10_0:w9.cell? ⟨gb101,0,none⟩=some (.int .i64 a1_0):=(kC BK101.out 0).trans rfl;have hcz10_1:w9.cell? ⟨gb101,1,none⟩=some (.slice A1_1 l1_1.length c1_1):=(kC BK101.out 1).trans rfl;have hfz10_0:=kF BK101.out 0;have hfz10_1:=kF BK101.out 1)|(go_at_call 111;(with_reducible refine (impl_TermOk.calls k a0 _ _ l1_1 true _ ?side1 ?side2 A7.out).mono ?_);(case side1=>repeat (first|exact (Kd.C_below HR1_1.out (by repeat first|(with_reducible first|exact HB.out|apply bA|apply bN|apply bD|refine bS ?_ GE101.out)|exact HB.out))|(with_reducible refine cA ?_ _)|(with_reducible refine cN ?_ _)|(with_reducible refine cD ?_)));(case side2=>exact HC1_1.out);rintro e w11 ⟨rfl,hb⟩;have n0_:=mA (kB (g:=gb101) (o:=.cells #[.int .i64 a1_0,.slice A1_1 l1_1.length c1_1] 36 (0,0)) (by (with_reducible repeat first|refine kN ?_ _|refine kD ?_|refine kA ?_ _);exact BK101.out) hb);have n1_:=mA (bT (by repeat first|(with_reducible first|exact HB.out|apply bA|apply bN|apply bD|refine bS ?_ GE101.out)|exact HB.out) hb);clear BK101 HB;have BK101:=n0_;have HB:=n1_;clear n0_ n1_;(try clear hb);(try clear hb2);(try clear hk);(try clear hi);have hcz12_0:w11.cell? ⟨gb101,0,none⟩=some (.int .i64 a1_0):=(kC BK101.out 0).trans rfl;have hcz12_1:w11.cell? ⟨gb101,1,none⟩=some (.slice A1_1 l1_1.length c1_1):=(kC BK101.out 1).trans rfl;have hfz12_0:=kF BK101.out 0;have hfz12_1:=kF BK101.out 1))
     go_ret
     exact ⟨by first|rfl|(simp [errW_none,errW_some]<;>rfl)|(simp [*, errW_none,errW_some]<;>rfl),by repeat (first|(with_reducible first|exact HB.out|apply bA|apply bN|apply bD|refine bS ?_ GE101.out)|exact HB.out)⟩
    replace c8:=Bool.eq_false_iff.mpr c8
    subst c8
    have H1:(some false)=some r:=by rw [if_neg (show ¬ (false=true) by decide)] at H;exact H
    clear H
    have H:=H1
    clear H1
    obtain rfl:=Option.some.inj H
    go_enter Try.func45,Try.ntmps45
    go_wp2_with (first|((with_reducible refine gate_dst (N:=3) rfl ?_);(try (refine gate_guard (by rfl) ?_;dsimp only));refine box_event ?hg (N:=3) ?hd (cs:=#[.int .i64 a1_0,.slice A1_1 l1_1.length c1_1]) (t:=36) ?hr ?_;(case hd=>rfl);(case hg=>rfl);(case hr=>first|(go_simp;done)|(go_simp;rfl));intro gb101 hg w13 hbox hb;have n0_:=mA (bT (by repeat first|(with_reducible first|exact HB.out|apply bA|apply bN|apply bD)|exact HB.out) hb);have n1_:=mA (hbox);have n2_:=mA ((by rw [hg];exact (bZ (by repeat first|(with_reducible first|exact HB.out|apply bA|apply bN|apply bD)|exact HB.out)):w.heap.size≤gb101));have n3_:=mA ((by rw [hg];exact (bZ (by repeat first|(with_reducible first|exact HB.out|apply bA|apply bN|apply bD)|exact HB.out)):w.heap.size≤gb101));clear HB;have HB:=n0_;have BK101:=n1_;have GW101:=n2_;have GE101:=n3_;clear n0_ n1_ n2_ n3_ hb hbox hg)|((with_reducible refine gate_callee (f:=115) rfl ?_);refine goesL_ (some 6) rfl rfl Try.func115 (by kernel_rfl) rfl #[.int .i64 a0] rfl (by (try simp only [mT,mC,mN]);first|done|rfl|(simp only [lD,lT];rfl)) ?_;(with_reducible refine (impl_peopleOk.calls a0 true _ A3.out).mono ?_);rintro e w' ⟨rfl,⟨nd,rfl⟩⟩;refine ⟨_,rfl,?_⟩;have hcz14_0:w13.cell? ⟨gb101,0,none⟩=some (.int .i64 a1_0):=(kC BK101.out 0).trans rfl;have hcz14_1:w13.cell? ⟨gb101,1,none⟩=some (.slice A1_1 l1_1.length c1_1):=(kC BK101.out 1).trans rfl;have hfz14_0:=kF BK101.out 0;have hfz14_1:=kF BK101.out 1)|(go_at_call 111;(with_reducible refine (impl_TermOk.calls k a0 _ _ l1_1 false _ ?side1 ?side2 A7.out).mono ?_);(case side1=>repeat (first|exact (Kd.C_below HR1_1.out (by repeat first|(with_reducible first|exact HB.out|apply bA|apply bN|apply bD|refine bS ?_ GE101.out)|exact HB.out))|(with_reducible refine cA ?_ _)|(with_reducible refine cN ?_ _)|(with_reducible refine cD ?_)));(case side2=>exact HC1_1.out);rintro e w15 ⟨rfl,hb⟩;have n0_:=mA (kB (g:=gb101) (o:=.cells #[.int .i64 a1_0,.slice A1_1 l1_1.length c1_1] 36 (0,0)) (by (with_reducible repeat first|refine kN ?_ _|refine kD ?_|refine kA ?_ _);exact BK101.out) hb);have n1_:=mA (bT (by repeat first|(with_reducible first|exact HB.out|apply bA|apply bN|apply bD|refine bS ?_ GE101.out)|exact HB.out) hb);clear BK101 HB;have BK101:=n0_;have HB:=n1_;clear n0_ n1_;(try clear hb);(try clear hb2);(try clear hk);(try clear hi)))
    go_ret
    exact ⟨by first|rfl|(simp [errW_none,errW_some]<;>rfl)|(simp [*, errW_none,errW_some]<;>rfl),by repeat (first|(with_reducible first|exact HB.out|apply bA|apply bN|apply bD|refine bS ?_ GE101.out)|exact HB.out)⟩
   rw [if_neg c6] at H
   have c6b0:decide (a1_0<a0)=false:=decide_eq_false c6
   clear c6
   obtain rfl:=Option.some.inj H
   go_enter Try.func45,Try.ntmps45
   go_wp2_with (first|((with_reducible refine gate_dst (N:=3) rfl ?_);(try (refine gate_guard (by rfl) ?_;dsimp only));refine box_event ?hg (N:=3) ?hd (cs:=#[.int .i64 a1_0,.slice A1_1 l1_1.length c1_1]) (t:=36) ?hr ?_;(case hd=>rfl);(case hg=>rfl);(case hr=>first|(go_simp;done)|(go_simp;rfl));intro gb101 hg w16 hbox hb;have n0_:=mA (bT (by repeat first|(with_reducible first|exact HB.out|apply bA|apply bN|apply bD)|exact HB.out) hb);have n1_:=mA (hbox);have n2_:=mA ((by rw [hg];exact (bZ (by repeat first|(with_reducible first|exact HB.out|apply bA|apply bN|apply bD)|exact HB.out)):w.heap.size≤gb101));have n3_:=mA ((by rw [hg];exact (bZ (by repeat first|(with_reducible first|exact HB.out|apply bA|apply bN|apply bD)|exact HB.out)):w.heap.size≤gb101));clear HB;have HB:=n0_;have BK101:=n1_;have GW101:=n2_;have GE101:=n3_;clear n0_ n1_ n2_ n3_ hb hbox hg)|((with_reducible refine gate_callee (f:=115) rfl ?_);refine goesL_ (some 6) rfl rfl Try.func115 (by kernel_rfl) rfl #[.int .i64 a0] rfl (by (try simp only [mT,mC,mN]);first|done|rfl|(simp only [lD,lT];rfl)) ?_;(with_reducible refine (impl_peopleOk.calls a0 true _ A3.out).mono ?_);rintro e w' ⟨rfl,⟨nd,rfl⟩⟩;refine ⟨_,rfl,?_⟩;have hcz17_0:w16.cell? ⟨gb101,0,none⟩=some (.int .i64 a1_0):=(kC BK101.out 0).trans rfl;have hcz17_1:w16.cell? ⟨gb101,1,none⟩=some (.slice A1_1 l1_1.length c1_1):=(kC BK101.out 1).trans rfl;have hfz17_0:=kF BK101.out 0;have hfz17_1:=kF BK101.out 1))
   go_ret
   exact ⟨by first|rfl|(simp [errW_none,errW_some]<;>rfl)|(simp [*, errW_none,errW_some]<;>rfl),by repeat (first|(with_reducible first|exact HB.out|apply bA|apply bN|apply bD|refine bS ?_ GE101.out)|exact HB.out)⟩
  rw [if_neg c5] at H
  have c5b0:decide (0≤a1_0)=false:=decide_eq_false c5
  clear c5
  obtain rfl:=Option.some.inj H
  go_enter Try.func45,Try.ntmps45
  go_wp2_with (first|((with_reducible refine gate_dst (N:=3) rfl ?_);(try (refine gate_guard (by rfl) ?_;dsimp only));refine box_event ?hg (N:=3) ?hd (cs:=#[.int .i64 a1_0,.slice A1_1 l1_1.length c1_1]) (t:=36) ?hr ?_;(case hd=>rfl);(case hg=>rfl);(case hr=>first|(go_simp;done)|(go_simp;rfl));intro gb101 hg w18 hbox hb;have n0_:=mA (bT (by repeat first|(with_reducible first|exact HB.out|apply bA|apply bN|apply bD)|exact HB.out) hb);have n1_:=mA (hbox);have n2_:=mA ((by rw [hg];exact (bZ (by repeat first|(with_reducible first|exact HB.out|apply bA|apply bN|apply bD)|exact HB.out)):w.heap.size≤gb101));have n3_:=mA ((by rw [hg];exact (bZ (by repeat first|(with_reducible first|exact HB.out|apply bA|apply bN|apply bD)|exact HB.out)):w.heap.size≤gb101));clear HB;have HB:=n0_;have BK101:=n1_;have GW101:=n2_;have GE101:=n3_;clear n0_ n1_ n2_ n3_ hb hbox hg)|((with_reducible refine gate_callee (f:=115) rfl ?_);refine goesL_ (some 6) rfl rfl Try.func115 (by kernel_rfl) rfl #[.int .i64 a0] rfl (by (try simp only [mT,mC,mN]);first|done|rfl|(simp only [lD,lT];rfl)) ?_;(with_reducible refine (impl_peopleOk.calls a0 true _ A3.out).mono ?_);rintro e w' ⟨rfl,⟨nd,rfl⟩⟩;refine ⟨_,rfl,?_⟩;have hcz19_0:w18.cell? ⟨gb101,0,none⟩=some (.int .i64 a1_0):=(kC BK101.out 0).trans rfl;have hcz19_1:w18.cell? ⟨gb101,1,none⟩=some (.slice A1_1 l1_1.length c1_1):=(kC BK101.out 1).trans rfl;have hfz19_0:=kF BK101.out 0;have hfz19_1:=kF BK101.out 1))
  go_ret
  exact ⟨by first|rfl|(simp [errW_none,errW_some]<;>rfl)|(simp [*, errW_none,errW_some]<;>rfl),by repeat (first|(with_reducible first|exact HB.out|apply bA|apply bN|apply bD|refine bS ?_ GE101.out)|exact HB.out)⟩
 replace c4:=Bool.eq_false_iff.mpr c4
 subst c4
 have H1:(some false)=some r:=by rw [if_neg (show ¬ (false=true) by decide)] at H;exact H
 clear H
 have H:=H1
 clear H1
 obtain rfl:=Option.some.inj H
 go_enter Try.func45,Try.ntmps45
 go_wp2_with (first|((with_reducible refine gate_dst (N:=3) rfl ?_);(try (refine gate_guard (by rfl) ?_;dsimp only));refine box_event ?hg (N:=3) ?hd (cs:=#[.int .i64 a1_0,.slice A1_1 l1_1.length c1_1]) (t:=36) ?hr ?_;(case hd=>rfl);(case hg=>rfl);(case hr=>first|(go_simp;done)|(go_simp;rfl));intro gb101 hg w20 hbox hb;have n0_:=mA (bT (by repeat first|(with_reducible first|exact HB.out|apply bA|apply bN|apply bD)|exact HB.out) hb);have n1_:=mA (hbox);have n2_:=mA ((by rw [hg];exact (bZ (by repeat first|(with_reducible first|exact HB.out|apply bA|apply bN|apply bD)|exact HB.out)):w.heap.size≤gb101));have n3_:=mA ((by rw [hg];exact (bZ (by repeat first|(with_reducible first|exact HB.out|apply bA|apply bN|apply bD)|exact HB.out)):w.heap.size≤gb101));clear HB;have HB:=n0_;have BK101:=n1_;have GW101:=n2_;have GE101:=n3_;clear n0_ n1_ n2_ n3_ hb hbox hg)|((with_reducible refine gate_callee (f:=115) rfl ?_);refine goesL_ (some 6) rfl rfl Try.func115 (by kernel_rfl) rfl #[.int .i64 a0] rfl (by (try simp only [mT,mC,mN]);first|done|rfl|(simp only [lD,lT];rfl)) ?_;(with_reducible refine (impl_peopleOk.calls a0 false _ A3.out).mono ?_);rintro e w' ⟨rfl,⟨nd,rfl⟩⟩;refine ⟨_,rfl,?_⟩))
 go_ret
 exact ⟨by first|rfl|(simp [errW_none,errW_some]<;>rfl)|(simp [*, errW_none,errW_some]<;>rfl),by repeat (first|(with_reducible first|exact HB.out|apply bA|apply bN|apply bD|refine bS ?_ GE101.out)|exact HB.out)⟩
/-! ### impl_maySay: function 105 -/
def impl_maySay.f (k:Nat) (a0_0:Int) (l0_1:List (S33)) (a1:Int):Option (Bool):=(impl_holds.f k l0_1 a1).bind fun t102=>(if 0≤a0_0 then (some (t102==((Go.bits .and .i64 (shr .i64 a1 a0_0) 1)==1))) else (none))
theorem impl_maySay.mono : ∀ a0 a1 a2 k,LeO (impl_maySay.f k a0 a1 a2) (impl_maySay.f (k+1) a0 a1 a2):=by
 intro a0 a1 a2 k
 unfold impl_maySay.f
 repeat' first
   | (with_reducible exact impl_holds.mono _ _ _)
   | (with_reducible exact LeO.refl _)
   | (with_reducible exact LeO.none _)
   | (with_reducible refine LeO.ite ?_ ?_)
   | (with_reducible refine LeO.bind ?_ (fun _=>?_))
   | exact impl_holds.mono _ _ _
   | exact LeO.none _
   | refine LeO.ite ?_ ?_
   | refine LeO.bind ?_ (fun _=>?_)
def impl_maySay.T1:Bool×List (List Nat×List Nat):=(true,[([],[]),([0],[0]),([],[]),([1,2],[1,2]),([],[]),([],[]),([5],[5]),([4,6],[4,6]),([7],[7]),([8],[8]),([3,9],[3,9]),([10,3,0,1,2,3,4,5,6,7,8,9,10],[10])])
def impl_maySay.B1:List Nat:=[0,1,0,7,0,0,32,112,240,496,1023,2047]
theorem impl_maySay.tab1:rtab .any (opsOf Try.f105 1)=impl_maySay.T1:=by kernel_rfl
theorem impl_maySay.bits1:waitsOk impl_maySay.T1.2 impl_maySay.B1=true:=by kernel_rfl
set_option maxHeartbeats 8000000 in
set_option maxRecDepth 100000 in
theorem impl_maySay.calls (k:Nat) (a0_0:Int) (A0_1:Option Addr) (c0_1:Nat) (l0_1:List (S33)) (a1:Int) (r:Bool) (w:World) (hr0_1:Kd.C k33 w A0_1 l0_1.length l0_1) (hc0_1:l0_1.length≤c0_1) (h:impl_maySay.f k a0_0 l0_1 a1=some r) :
  Calls Try.prog 105 #[.agg #[.int .i64 a0_0,.slice A0_1 l0_1.length c0_1],.int .i64 a1] w fun e w'=>e = .returned (.bool r)∧Below w.heap.size w w':=by
 have hu36:=Try.underlying36
 have HR0_1:=mA hr0_1
 have HC0_1:=mA hc0_1
 clear hr0_1 hc0_1
 have HB:=mA (Below.refl w.heap.size w)
 have H:((impl_holds.f k l0_1 a1).bind fun t102=>(if 0≤a0_0 then (some (t102==((Go.bits .and .i64 (shr .i64 a1 a0_0) 1)==1))) else (none)))=some r:=h
 clear h
 replace H:=oB.mp H
 obtain ⟨t102,A30,H⟩:=H
 replace H:(if 0≤a0_0 then (some (t102==((Go.bits .and .i64 (shr .i64 a1 a0_0) 1)==1))) else (none))=some r:=H
 have A3:=mA A30
 clear A30
 by_cases c4:0≤a0_0
 ·rw [if_pos c4] at H
  have c4b0:=eq_true c4
  have c4b1:decide (0≤a0_0)=true:=decide_eq_true c4
  clear c4
  obtain ⟨ji5,hji5⟩ : ∃ j_:Int,(shr .i64 a1 a0_0)=j_:=⟨_,rfl⟩
  replace H:(some (t102==((Go.bits .and .i64 (ji5) 1)==1)))=some r:=by first|(rw [hji5] at H;exact H)|(simp only [hji5] at H ⊢;exact H)
  (try rw [hji5] at A3)
  have hji5_:(a1 / 2^min a0_0.toNat 64)=ji5:=hji5
  have hji5z:a0_0≤64→(a1 / 2^a0_0.toNat)=ji5:=shr_small hji5
  obtain rfl:=Option.some.inj H
  go_enter Try.func105,Try.ntmps105
  try go_wp2_with (first|((with_reducible refine gate_dst (N:=2) rfl ?_);refine box_event ?hg (N:=2) ?hd (cs:=#[.int .i64 a0_0,.slice A0_1 l0_1.length c0_1]) (t:=36) ?hr ?_;(case hd=>rfl);(case hg=>rfl);(case hr=>first|(go_simp;done)|(go_simp;rfl));intro gb101 hg w6 hbox hb;have n0_:=mA (bT (by repeat first|(with_reducible first|exact HB.out|apply bA|apply bN|apply bD)|exact HB.out) hb);have n1_:=mA (hbox);have n2_:=mA ((by rw [hg];exact (bZ (by repeat first|(with_reducible first|exact HB.out|apply bA|apply bN|apply bD)|exact HB.out)):w.heap.size≤gb101));have n3_:=mA ((by rw [hg];exact (bZ (by repeat first|(with_reducible first|exact HB.out|apply bA|apply bN|apply bD)|exact HB.out)):w.heap.size≤gb101));clear HB;have HB:=n0_;have BK101:=n1_;have GW101:=n2_;have GE101:=n3_;clear n0_ n1_ n2_ n3_ hb hbox hg))
  have n0_:=mA (kD BK101.out)
  have n1_:=mA (bD HB.out)
  clear BK101 HB
  have BK101:=n0_;have HB:=n1_
  clear n0_ n1_
  refine start_ (n:=12) (S:=fun w'=>w'.cell? ⟨gb101,0,none⟩=some (.int .i64 a0_0)∧w'.cell? ⟨gb101,1,none⟩=some (.slice A0_1 l0_1.length c0_1)) (ds:=[]) #[O,O,O,O,O,O,O,O,O,O,O,O] (by kernel_rfl) rfl rfl ⟨(kC BK101.out 0).trans rfl,(kC BK101.out 1).trans rfl⟩ (fun hHeld=>?_);refine with_tabW impl_maySay.tab1 impl_maySay.bits1 (fun HT_ HW_=>?_)
  generalize w6.drew=w7 at BK101 HB hHeld ⊢
  refine pure_ (i:=0) (N:=some 5) (v:=?_) (a':=?_) #[I,O,O,O,O,O,O,O,O,O,O,O] rfl rfl (any_of HT_.out (by kernel_rfl)) (fun _ _ _ h=>h) (Or.inl ⟨by rfl,?_⟩) ?_ ?_
  rotate_left
  ·intro w'
   go_simp
   with_reducible rfl
  rotate_left
  ·simp only [Act.put,sA,sZ,sS,i64_w,i32_w]
   rfl
  refine pure_ (i:=2) (N:=some 7) (v:=?_) (a':=?_) #[I,O,I,O,O,O,O,O,O,O,O,O] rfl rfl (any_of HT_.out (by kernel_rfl)) (fun _ _ _ h=>h) (Or.inl ⟨by rfl,?_⟩) ?_ ?_
  rotate_left
  ·intro w'
   go_simp
   with_reducible rfl
  rotate_left
  ·simp only [Act.put,sA,sZ,sS,i64_w,i32_w]
   rfl
  refine pure_ (i:=4) (N:=some 9) (v:=?_) (a':=?_) #[I,O,I,O,I,O,O,O,O,O,O,O] rfl rfl (any_of HT_.out (by kernel_rfl)) (fun _ _ _ h=>h) (Or.inl ⟨by rfl,?_⟩) ?_ ?_
  rotate_left
  ·intro w'
   go_simp
   with_reducible rfl
  rotate_left
  ·simp only [Act.put,sA,sZ,sS,i64_w,i32_w]
   rfl
  refine pure_ (i:=5) (N:=some 10) (v:=?_) (a':=?_) #[I,O,I,O,I,I,O,O,O,O,O,O] rfl rfl (any_of HT_.out (by kernel_rfl)) (fun _ _ _ h=>h) (Or.inl ⟨by rfl,?_⟩) ?_ ?_
  rotate_left
  ·intro w'
   go_simp
   with_reducible rfl
  rotate_left
  ·simp only [Act.put,sA,sZ,sS,i64_w,i32_w]
   rfl
  refine take_ (i:=1) (N:=some 6) (v:=?_) (a':=?_) #[I,I,I,O,I,I,O,O,O,O,O,O] rfl rfl (take_ofW HT_.out HW_.out (by kernel_rfl)) (fun _ _ _ h=>h) (Or.inl ⟨by rfl,?_⟩) hHeld ?_ ?_
  rotate_left
  ·rintro w' ⟨s0,s1⟩
   go_simp
   with_reducible rfl
  rotate_left
  ·simp only [Act.put,sA,sZ,sS,i64_w,i32_w]
   rfl
  refine take_ (i:=6) (N:=some 11) (v:=?_) (a':=?_) #[I,I,I,O,I,I,I,O,O,O,O,O] rfl rfl (take_ofW HT_.out HW_.out (by kernel_rfl)) (fun _ _ _ h=>h) (Or.inl ⟨by rfl,?_⟩) hHeld ?_ ?_
  rotate_left
  ·rintro w' ⟨s0,s1⟩
   go_simp
   with_reducible rfl
  rotate_left
  ·simp only [Act.put,sA,sZ,sS,i64_w,i32_w]
   rfl
  refine pure_ (i:=7) (N:=some 12) (v:=?_) (a':=?_) #[I,I,I,O,I,I,I,I,O,O,O,O] rfl rfl (any_of HT_.out (by kernel_rfl)) (fun _ _ _ h=>h) (Or.inl ⟨by rfl,?_⟩) ?_ ?_
  rotate_left
  ·intro w'
   go_simp
   with_reducible rfl
  rotate_left
  ·simp only [Act.put,sA,sZ,sS,i64_w,i32_w]
   rfl
  refine pure_ (i:=8) (N:=some 13) (v:=?_) (a':=?_) #[I,I,I,O,I,I,I,I,I,O,O,O] rfl rfl (any_of HT_.out (by kernel_rfl)) (fun _ _ _ h=>h) (Or.inl ⟨by rfl,?_⟩) ?_ ?_
  rotate_left
  ·intro w'
   go_simp
   with_reducible rfl
  rotate_left
  ·simp only [Act.put,sA,sZ,sS,i64_w,i32_w]
   rfl
  refine pure_ (i:=9) (N:=some 14) (v:=?_) (a':=?_) #[I,I,I,O,I,I,I,I,I,I,O,O] rfl rfl (any_of HT_.out (by kernel_rfl)) (fun _ _ _ h=>h) (Or.inl ⟨by rfl,?_⟩) ?_ ?_
  rotate_left
  ·intro w'
   go_simp
   with_reducible rfl
  rotate_left
  ·simp only [Act.put,sA,sZ,sS,i64_w,i32_w]
   rfl
  refine one_ (i:=3) (N:=some 8) #[I,I,I,I,I,I,I,I,I,I,O,O] rfl rfl (one_of HT_.out (by kernel_rfl)) (by decide) (fun K hK=>?_)
  refine goes_ Try.func119 (by kernel_rfl) rfl #[.slice A0_1 l0_1.length c0_1,.int .i64 a1] (by rfl) rfl rfl (by (try simp only [mT,mC,mN]);first|done|rfl|(simp only [lD,lT];rfl)) ?_
  with_reducible refine (impl_holds.calls k _ _ l0_1 a1 t102 _ ?side1 ?side2 A3.out).mono ?_
  (case side1=>repeat first|exact (Kd.C_below HR0_1.out HB.out)|(with_reducible refine cA ?_ _)|(with_reducible refine cN ?_ _)|(with_reducible refine cD ?_))
  (case side2=>exact HC0_1.out)
  rintro e w8 ⟨rfl,hb⟩
  refine ⟨_,rfl,?_⟩
  have n0_:=mA (kB (g:=gb101) (o:=.cells #[.int .i64 a0_0,.slice A0_1 l0_1.length c0_1] 36 (0,0)) (by (with_reducible repeat first|refine kN ?_ _|refine kD ?_|refine kA ?_ _);exact BK101.out) hb)
  have n1_:=mA (bT (by repeat first|(with_reducible first|exact HB.out|apply bA|apply bN|apply bD|refine bS ?_ GE101.out)|exact HB.out) hb)
  clear BK101 HB
  have BK101:=n0_;have HB:=n1_
  clear n0_ n1_
  (try clear hb);(try clear hb2);(try clear hk);(try clear hi)
  refine hK.out _ _ ⟨(kC BK101.out 0).trans rfl,(kC BK101.out 1).trans rfl⟩ (fun hHeld=>?_)
  clear hK K
  refine norm_ (a':=?_) ?_ ?_
  rotate_left
  ·show Act.put _ (some 8) _=_
   simp only [Act.put,sA,sZ,sS,i64_w,i32_w]
   rfl
  refine pure_ (i:=10) (N:=some 15) (v:=?_) (a':=?_) #[I,I,I,I,I,I,I,I,I,I,I,O] rfl rfl (any_of HT_.out (by kernel_rfl)) (fun _ _ _ h=>h) (Or.inl ⟨by rfl,?_⟩) ?_ ?_
  rotate_left
  ·intro w'
   go_simp
   with_reducible rfl
  rotate_left
  ·simp only [Act.put,sA,sZ,sS,i64_w,i32_w]
   rfl
  refine pure_ (i:=11) (N:=some 4) (v:=?_) (a':=?_) #[I,I,I,I,I,I,I,I,I,I,I,I] rfl rfl (any_of HT_.out (by kernel_rfl)) (fun _ _ _ h=>h) (Or.inl ⟨by rfl,?_⟩) ?_ ?_
  rotate_left
  ·intro w'
   go_simp
   with_reducible rfl
  rotate_left
  ·simp only [Act.put,sA,sZ,sS,i64_w,i32_w]
   rfl
  refine done_ (done_of HT_.out (by kernel_rfl)) ?_
  try go_wp2
  go_ret
  exact ⟨by first|rfl|(simp [errW_none,errW_some]<;>rfl)|(simp only [←hji5];first|rfl|(simp [errW_none,errW_some]<;>rfl))|(simp [*, errW_none,errW_some]<;>rfl),by repeat (first|(with_reducible first|exact HB.out|apply bA|apply bN|apply bD|refine bS ?_ GE101.out)|exact HB.out)⟩
 rw [if_neg c4] at H
 exact absurd H (by simp)
/-! ### impl_tableBy: function 116, over any function value -/
def impl_tableBy.l0 (F:Nat→Int→Option Bool):Nat→Int→Int→Int→Option (Int)
 | 0,_,_,_=>none
 | k+1,x5,x8,x9=>if x9<x8 then ((F k x9).bind fun t308=>(if t308=true then (if 0≤x9 then (impl_tableBy.l0 F k (Go.bits .or .i64 x5 (shl .i64 1 x9)) x8 (wrap64 (x9+1))) else (none)) else (impl_tableBy.l0 F k x5 x8 (wrap64 (x9+1))))) else (some x5)
def impl_tableBy.f (F:Nat→Int→Option Bool) (k:Nat) (a0:Int):Option (Int):=if 0≤a0 then (impl_tableBy.l0 F k 0 (shl .i64 1 a0) 0) else (none)
theorem impl_tableBy.mono_l {F:Nat→Int→Option Bool} (hF : ∀ k x,LeO (F k x) (F (k+1) x)) : ∀ k,(∀ y0 y1 y2,LeO (impl_tableBy.l0 F k y0 y1 y2) (impl_tableBy.l0 F (k+1) y0 y1 y2))
 | 0=>fun _ _ _ r h=>by simp [impl_tableBy.l0] at h
 | k+1=>by
  have ih0:=impl_tableBy.mono_l hF k
  intro y0 y1 y2
  unfold impl_tableBy.l0
  repeat' first
  | (with_reducible exact ih0 _ _ _)
  | (with_reducible exact hF _ _)
  | (with_reducible exact LeO.refl _)
  | (with_reducible exact LeO.none _)
  | (with_reducible refine LeO.ite ?_ ?_)
  | (with_reducible refine LeO.bind ?_ (fun _=>?_))
theorem impl_tableBy.mono {F:Nat→Int→Option Bool} (hF : ∀ k x,LeO (F k x) (F (k+1) x)) (a0:Int) (k:Nat):LeO (impl_tableBy.f F k a0) (impl_tableBy.f F (k+1) a0):=by
 have ih0:=impl_tableBy.mono_l hF k
 unfold impl_tableBy.f
 repeat' first
   | (with_reducible exact ih0 _ _ _)
   | (with_reducible exact LeO.none _)
   | (with_reducible refine LeO.ite ?_ ?_)
set_option maxHeartbeats 8000000 in
set_option maxRecDepth 100000 in
theorem impl_tableBy.calls (F : Nat → Int → Option Bool) {CF : FuncId} {fn : Func} (hf : Try.prog.funcs[CF]? = some fn) (hname : (fn.name == "runtime.NumGoroutine") = false) (hbody : fn.body.isSome = true) (CB : Array Value) (k : Nat) (a0 : Int) (r : Int) (w : World)
  (hF : ∀ (k:Nat) (x:Int) (b:Bool) (W:World),Below w.heap.size w W→F k x=some b→Calls Try.prog CF (#[.int .i64 x]++CB) W fun e w'=>e = .returned (.bool b)∧Below W.heap.size W w')
  (h:impl_tableBy.f F k a0=some r) :
  Calls Try.prog 116 #[.int .i64 a0,.func (.func CF) #[] CB] w fun e w'=>e = .returned (.int .i64 r)∧Below w.heap.size w w':=by
 have hcf : ∀ (args:Array Value) (W:World),(callFunc CF args).run Try.prog W = .ok (.enter CF args) W:=fun args W=>enters_ hf hname hbody args W
 have HB:=mA (Below.refl w.heap.size w)
 have H:(if 0≤a0 then (impl_tableBy.l0 F k 0 (shl .i64 1 a0) 0) else (none))=some r:=h
 clear h
 by_cases c3:0≤a0
 ·rw [if_pos c3] at H
  have c3b0:=eq_true c3
  have c3b1:decide (0≤a0)=true:=decide_eq_true c3
  clear c3
  obtain ⟨ji4,hji4⟩ : ∃ j_:Int,(shl .i64 1 a0)=j_:=⟨_,rfl⟩
  replace H:(impl_tableBy.l0 F k 0 ji4 0)=some r:=by rw [hji4] at H;exact H
  have hji4_:(IntKind.i64.wrap (1*2^min a0.toNat 64))=ji4:=hji4
  have hji4z:a0≤64→(IntKind.i64.wrap (1*2^a0.toNat))=ji4:=shl_small hji4
  have hji4u:(IntKind.i64.wrap (2^min a0.toNat 64))=ji4:=by have h_:=hji4_;rw [Int.one_mul] at h_;exact h_
  have hji4v:a0≤64→(IntKind.i64.wrap (2^a0.toNat))=ji4:=fun hle_=>by have h_:=hji4z hle_;rw [Int.one_mul] at h_;exact h_
  have hji4y:(wrap64 (1*2^min a0.toNat 64))=ji4:=(i64_w _).symm.trans hji4_
  have hji4x:a0≤64→(wrap64 (1*2^a0.toNat))=ji4:=fun h_=>(i64_w _).symm.trans (hji4z h_)
  have H':=mA H
  clear H
  go_enter Try.func116,Try.ntmps116
  go_wp2
  go_loopg [5,9] k (fun kq v5 v9 w'=>∃ (x5_1:Int) (x9_1:Int),v5 = .int .i64 x5_1∧v9 = .int .i64 x9_1∧Aside0 (impl_tableBy.l0 F kq x5_1 ji4 x9_1=some r)∧Aside0 (kq≤k)∧Aside0 (Below w.heap.size w w'))
  case atStart=>exact ⟨(0),(0),(by first|rfl|(simp;done)|(simp [*];done)),(by first|rfl|(simp;done)|(simp [*];done)),H',⟨Nat.le_refl _⟩,⟨(by repeat first|(with_reducible first|exact HB.out|apply bA|apply bN|apply bD)|exact HB.out)⟩⟩
  case round =>
   clear H'
   try clear c1
   try clear p2
   try clear c3
   try clear c3b0
   try clear c3b1
   obtain ⟨x5_1,x9_1,rfl,rfl,HA,HK1,HB⟩:=hrel
   cases gk with
   | zero=>exact absurd HA.out (by simp [impl_tableBy.l0])
   | succ k1 =>
    have H:=HA.out
    clear HA
    simp only [impl_tableBy.l0] at H
    by_cases c5:x9_1<ji4
    ·rw [if_pos c5] at H
     have c5b0:decide (x9_1<ji4)=true:=decide_eq_true c5
     clear c5
     replace H:=oB.mp H
     obtain ⟨t308,A60,H⟩:=H
     replace H:(if t308=true then (if 0≤x9_1 then (impl_tableBy.l0 F k1 (Go.bits .or .i64 x5_1 (shl .i64 1 x9_1)) ji4 (wrap64 (x9_1+1))) else (none)) else (impl_tableBy.l0 F k1 x5_1 ji4 (wrap64 (x9_1+1))))=some r:=H
     have A6:=mA A60
     clear A60
     by_cases c7:t308=true
     ·subst c7
      have H1:(if 0≤x9_1 then (impl_tableBy.l0 F k1 (Go.bits .or .i64 x5_1 (shl .i64 1 x9_1)) ji4 (wrap64 (x9_1+1))) else (none))=some r:=by rw [if_pos rfl] at H;exact H
      clear H
      have H:=H1
      clear H1
      by_cases c8:0≤x9_1
      ·rw [if_pos c8] at H
       have c8b0:=eq_true c8
       have c8b1:decide (0≤x9_1)=true:=decide_eq_true c8
       clear c8
       obtain ⟨ji9,hji9⟩ : ∃ j_:Int,(shl .i64 1 x9_1)=j_:=⟨_,rfl⟩
       replace H:(impl_tableBy.l0 F k1 (Go.bits .or .i64 x5_1 (ji9)) ji4 (wrap64 (x9_1+1)))=some r:=by first|(rw [hji9] at H;exact H)|(simp only [hji9] at H ⊢;exact H)
       have hji9_:(IntKind.i64.wrap (1*2^min x9_1.toNat 64))=ji9:=hji9
       have hji9z:x9_1≤64→(IntKind.i64.wrap (1*2^x9_1.toNat))=ji9:=shl_small hji9
       have hji9u:(IntKind.i64.wrap (2^min x9_1.toNat 64))=ji9:=by have h_:=hji9_;rw [Int.one_mul] at h_;exact h_
       have hji9v:x9_1≤64→(IntKind.i64.wrap (2^x9_1.toNat))=ji9:=fun hle_=>by have h_:=hji9z hle_;rw [Int.one_mul] at h_;exact h_
       have hji9y:(wrap64 (1*2^min x9_1.toNat 64))=ji9:=(i64_w _).symm.trans hji9_
       have hji9x:x9_1≤64→(wrap64 (1*2^x9_1.toNat))=ji9:=fun h_=>(i64_w _).symm.trans (hji9z h_)
       have H':=mA H
       clear H
       go_wp2_with (first|((with_reducible refine (hF k1 x9_1 true _ ?sideB A6.out).mono ?_);(case sideB=>exact (by repeat first|(with_reducible first|exact HB.out|apply bA|apply bN|apply bD)|exact HB.out));rintro e w10 ⟨rfl,hb⟩;have n0_:=mA (bT (by repeat first|(with_reducible first|exact HB.out|apply bA|apply bN|apply bD)|exact HB.out) hb);clear HB;have HB:=n0_;clear n0_;(try clear hb)))
       go_roundg k1
       case measure=>have:=HK1.out;omega
       case rel=>exact ⟨(Go.bits .or .i64 x5_1 (ji9)),(wrap64 (x9_1+1)),(by first|rfl|(simp;done)|(simp only [←hji9]<;>(first|rfl|simp))|(simp [*];done)),(by first|rfl|(simp;done)|(simp [*];done)),H',⟨by have:=HK1.out;omega⟩,⟨(by repeat first|(with_reducible first|exact HB.out|apply bA|apply bN|apply bD)|exact HB.out)⟩⟩
      rw [if_neg c8] at H
      exact absurd H (by simp)
     replace c7:=Bool.eq_false_iff.mpr c7
     subst c7
     have H1:(impl_tableBy.l0 F k1 x5_1 ji4 (wrap64 (x9_1+1)))=some r:=by rw [if_neg (show ¬ (false=true) by decide)] at H;exact H
     clear H
     have H:=H1
     clear H1
     have H':=mA H
     clear H
     go_wp2_with (first|((with_reducible refine (hF k1 x9_1 false _ ?sideB A6.out).mono ?_);(case sideB=>exact (by repeat first|(with_reducible first|exact HB.out|apply bA|apply bN|apply bD)|exact HB.out));rintro e w10 ⟨rfl,hb⟩;have n0_:=mA (bT (by repeat first|(with_reducible first|exact HB.out|apply bA|apply bN|apply bD)|exact HB.out) hb);clear HB;have HB:=n0_;clear n0_;(try clear hb)))
     go_roundg k1
     case measure=>have:=HK1.out;omega
     case rel=>exact ⟨(x5_1),(wrap64 (x9_1+1)),(by first|rfl|(simp;done)|(simp [*];done)),(by first|rfl|(simp;done)|(simp [*];done)),H',⟨by have:=HK1.out;omega⟩,⟨(by repeat first|(with_reducible first|exact HB.out|apply bA|apply bN|apply bD)|exact HB.out)⟩⟩
    rw [if_neg c5] at H
    have c5b0:decide (x9_1<ji4)=false:=decide_eq_false c5
    clear c5
    obtain rfl:=Option.some.inj H
    go_wp2
    go_ret
    exact ⟨by first|rfl|(simp;done)|(simp only [←hji4];rfl)|(simp [*];done),(by repeat first|(with_reducible first|exact HB.out|apply bA|apply bN|apply bD)|exact HB.out)⟩
 rw [if_neg c3] at H
 exact absurd H (by simp)
/-! ### impl_ClaimTable: function 49; what it hands to tableBy: function 117 -/
def impl_ClaimTable.f (k:Nat) (a0:Int) (a1_0:Int) (l1:List (S33)):Option (Int):=(impl_ClaimOk.f k a0 a1_0 l1).bind fun t=>(if t=true then (impl_tableBy.f (fun k_ x_=>impl_maySay.f k_ a1_0 l1 x_) k a0) else (some (-1)))
theorem impl_ClaimTable.mono : ∀ a0 a1_0 l1 k,LeO (impl_ClaimTable.f k a0 a1_0 l1) (impl_ClaimTable.f (k+1) a0 a1_0 l1):=by
 intro a0 a1_0 l1 k
 unfold impl_ClaimTable.f
 refine LeO.bind (impl_ClaimOk.mono _ _ _ _) (fun _=>?_)
 refine LeO.ite ?_ (LeO.refl _)
 exact impl_tableBy.mono (fun k x=>impl_maySay.mono _ _ _ _) _ _
set_option maxHeartbeats 8000000 in
set_option maxRecDepth 100000 in
theorem impl_ClaimTable.calls_1 (k:Nat) (a1_0:Int) (A1:Option Addr) (c1:Nat) (l1:List (S33)) (gb1:Nat) (x:Int) (b:Bool) (w:World) (hg:w.heap[gb1]?=some (.cells #[.int .i64 a1_0,.slice A1 l1.length c1] 36 (0,0))) (hr1:Kd.C k33 w A1 l1.length l1) (hc1:l1.length≤c1) (h:impl_maySay.f k a1_0 l1 x=some b) :
  Calls Try.prog 117 #[.int .i64 x,.pointer (some ⟨gb1,0,none⟩)] w fun e w'=>e = .returned (.bool b)∧Below w.heap.size w w':=by
 have hu36:=Try.underlying36
 have HR1:=mA hr1
 have HC1:=mA hc1
 clear hr1 hc1
 have HB:=mA (Below.refl w.heap.size w)
 have A6:=mA h
 clear h
 have hcz0:w.cell? ⟨gb1,0,none⟩=some (.int .i64 a1_0):=(kC hg 0).trans rfl
 have hfz0:=kF hg 0
 have hcz1:w.cell? ⟨gb1,1,none⟩=some (.slice A1 l1.length c1):=(kC hg 1).trans rfl
 have hfz1:=kF hg 1
 clear hg
 go_enter Try.func117,Try.ntmps117
 go_wp2_with (first|((with_reducible refine gate_callee (f:=105) rfl ?_);refine goesL_ (some 6) rfl rfl Try.func105 (by kernel_rfl) rfl #[.agg #[.int .i64 a1_0,.slice A1 l1.length c1],.int .i64 x] rfl (by (try simp only [mT,mC,mN]);first|done|rfl) ?_;(with_reducible refine (impl_maySay.calls k a1_0 _ _ l1 x b _ ?side1 ?side2 A6.out).mono ?_);(case side1=>repeat first|exact (Kd.C_below HR1.out HB.out)|(with_reducible refine cA ?_ _)|(with_reducible refine cN ?_ _)|(with_reducible refine cD ?_));(case side2=>exact HC1.out);  rintro e w12 ⟨rfl,hb⟩;refine ⟨_,rfl,?_⟩;have n0_:=mA (bT (by repeat first|(with_reducible first|exact HB.out|apply bA|apply bN|apply bD)|exact HB.out) hb);clear HB;have HB:=n0_;clear n0_;(try clear hb)))
 go_ret
 exact ⟨rfl,(by repeat first|(with_reducible first|exact HB.out|apply bA|apply bN|apply bD)|exact HB.out)⟩
set_option maxHeartbeats 8000000 in
set_option maxRecDepth 100000 in
theorem impl_ClaimTable.calls (k:Nat) (a0:Int) (a1_0:Int) (A1:Option Addr) (c1:Nat) (l1:List (S33)) (r:Int) (w:World) (hr1:Kd.C k33 w A1 l1.length l1) (hc1:l1.length≤c1) (h:impl_ClaimTable.f k a0 a1_0 l1=some r) :
  Calls Try.prog 49 #[.int .i64 a0,.agg #[.int .i64 a1_0,.slice A1 l1.length c1]] w fun e w'=>e = .returned (.int .i64 r)∧Below w.heap.size w w':=by
 have hu36:=Try.underlying36
 have HR1:=mA hr1
 have HC1:=mA hc1
 clear hr1 hc1
 have HB:=mA (Below.refl w.heap.size w)
 have H:((impl_ClaimOk.f k a0 a1_0 l1).bind fun t=>(if t=true then (impl_tableBy.f (fun k_ x_=>impl_maySay.f k_ a1_0 l1 x_) k a0) else (some (-1))))=some r:=h
 clear h
 obtain ⟨t,A10,H⟩:=oB.mp H
 have A1_:=mA A10
 clear A10
 have hmf : ∀ (fn:Fn) (first cap:Array Value) (w:World),(Instr.makeFunc fn first cap).run Try.prog w = .ok (.func fn first cap) w:=fun _ _ _ _=>rfl
 cases t with
 | false =>
  have hr_:r = -1:=by simpa using H.symm
  subst hr_
  clear H
  go_enter Try.func49,Try.ntmps49
  go_wp2_with (first|((with_reducible refine gate_dst (N:=3) rfl ?_);refine box_event ?hg (N:=3) ?hd (cs:=#[.int .i64 a1_0,.slice A1 l1.length c1]) (t:=36) ?hr ?_;(case hd=>rfl);(case hg=>rfl);(case hr=>first|(go_simp;done)|(go_simp;rfl));intro gb1 hg w3 hbox hb;have n0_:=mA (bT (by repeat first|(with_reducible first|exact HB.out|apply bA|apply bN|apply bD)|exact HB.out) hb);have n1_:=mA (hbox);clear HB;have HB:=n0_;have BK1:=n1_;clear n0_ n1_ hb hbox hg;have hcz0:w3.cell? ⟨gb1,0,none⟩=some (.int .i64 a1_0):=(kC BK1.out 0).trans rfl;have hfz0:=kF BK1.out 0;have hcz1:w3.cell? ⟨gb1,1,none⟩=some (.slice A1 l1.length c1):=(kC BK1.out 1).trans rfl;have hfz1:=kF BK1.out 1)|((with_reducible refine gate_callee (f:=45) rfl ?_);refine goesL_ (some 7) rfl rfl Try.func45 (by kernel_rfl) rfl #[.int .i64 a0,.agg #[.int .i64 a1_0,.slice A1 l1.length c1]] rfl (by (try simp only [mT,mC,mN]);first|done|rfl) ?_;(with_reducible refine (impl_ClaimOk.calls k a0 a1_0 _ _ l1 false _ ?side1 ?side2 A1_.out).mono ?_);(case side1=>repeat first|exact (Kd.C_below HR1.out HB.out)|(with_reducible refine cA ?_ _)|(with_reducible refine cN ?_ _)|(with_reducible refine cD ?_));(case side2=>exact HC1.out);  rintro e w12 ⟨rfl,hb⟩;refine ⟨_,rfl,?_⟩;have m0_:=mA (kB BK1.out hb);clear BK1;have BK1:=m0_;clear m0_;have n0_:=mA (bT (by repeat first|(with_reducible first|exact HB.out|apply bA|apply bN|apply bD)|exact HB.out) hb);clear HB;have HB:=n0_;clear n0_;(try clear hb)))
  go_ret
  exact ⟨rfl,(by repeat first|(with_reducible first|exact HB.out|apply bA|apply bN|apply bD)|exact HB.out)⟩
 | true =>
  replace H:=mA (show impl_tableBy.f (fun k_ x_=>impl_maySay.f k_ a1_0 l1 x_) k a0=some r from H)
  go_enter Try.func49,Try.ntmps49
  go_wp2_with (first|((with_reducible refine gate_dst (N:=3) rfl ?_);refine box_event ?hg (N:=3) ?hd (cs:=#[.int .i64 a1_0,.slice A1 l1.length c1]) (t:=36) ?hr ?_;(case hd=>rfl);(case hg=>rfl);(case hr=>first|(go_simp;done)|(go_simp;rfl));intro gb1 hg w3 hbox hb;have n0_:=mA (bT (by repeat first|(with_reducible first|exact HB.out|apply bA|apply bN|apply bD)|exact HB.out) hb);have n1_:=mA (hbox);clear HB;have HB:=n0_;have BK1:=n1_;clear n0_ n1_ hb hbox hg;have hcz0:w3.cell? ⟨gb1,0,none⟩=some (.int .i64 a1_0):=(kC BK1.out 0).trans rfl;have hfz0:=kF BK1.out 0;have hcz1:w3.cell? ⟨gb1,1,none⟩=some (.slice A1 l1.length c1):=(kC BK1.out 1).trans rfl;have hfz1:=kF BK1.out 1)|((with_reducible refine gate_callee (f:=45) rfl ?_);refine goesL_ (some 7) rfl rfl Try.func45 (by kernel_rfl) rfl #[.int .i64 a0,.agg #[.int .i64 a1_0,.slice A1 l1.length c1]] rfl (by (try simp only [mT,mC,mN]);first|done|rfl) ?_;(with_reducible refine (impl_ClaimOk.calls k a0 a1_0 _ _ l1 true _ ?side1 ?side2 A1_.out).mono ?_);(case side1=>repeat first|exact (Kd.C_below HR1.out HB.out)|(with_reducible refine cA ?_ _)|(with_reducible refine cN ?_ _)|(with_reducible refine cD ?_));(case side2=>exact HC1.out);  rintro e w12 ⟨rfl,hb⟩;refine ⟨_,rfl,?_⟩;have m0_:=mA (kB BK1.out hb);clear BK1;have BK1:=m0_;clear m0_;have n0_:=mA (bT (by repeat first|(with_reducible first|exact HB.out|apply bA|apply bN|apply bD)|exact HB.out) hb);clear HB;have HB:=n0_;clear n0_;(try clear hb))|((with_reducible refine gate_callee (f:=116) rfl ?_);refine goesL_ (some 11) rfl rfl Try.func116 (by kernel_rfl) rfl #[.int .i64 a0,.func (.func 117) #[] #[.pointer (some ⟨gb1,0,none⟩)]] rfl (by (try simp only [mT,mC,mN]);first|done|rfl) ?_;(with_reducible refine (impl_tableBy.calls (fun k_ x_=>impl_maySay.f k_ a1_0 l1 x_) Try.func117 (by kernel_rfl) rfl #[.pointer (some ⟨gb1,0,none⟩)] k a0 r _ ?hF H.out).mono ?_);(case hF=>exact fun k x b W hb h=>impl_ClaimTable.calls_1 k a1_0 _ _ l1 gb1 x b W (kB BK1.out hb) (Kd.C_below (Kd.C_below HR1.out HB.out) hb) HC1.out h);  rintro e w12 ⟨rfl,hb⟩;refine ⟨_,rfl,?_⟩;have n0_:=mA (bT (by repeat first|(with_reducible first|exact HB.out|apply bA|apply bN|apply bD)|exact HB.out) hb);clear HB;have HB:=n0_;clear n0_;(try clear hb)))
  go_ret
  exact ⟨rfl,(by repeat first|(with_reducible first|exact HB.out|apply bA|apply bN|apply bD)|exact HB.out)⟩
/-! ### impl_AlwaysSaid: function 47 -/
def impl_AlwaysSaid.f (k:Nat) (a0:Int) (a1_0:Int) (l1_1:List (S33)):Option (Bool):=(impl_ClaimOk.f k a0 a1_0 l1_1).bind fun t102=>(if t102=true then ((impl_ClaimTable.f k a0 a1_0 l1_1).bind fun t103=>(if 0≤a0 then (some (t103==(wrap64 ((shl .i64 1 (shl .u64 1 a0))-1)))) else (none))) else (some false))
theorem impl_AlwaysSaid.mono : ∀ a0 a1 a2 k,LeO (impl_AlwaysSaid.f k a0 a1 a2) (impl_AlwaysSaid.f (k+1) a0 a1 a2):=by
 intro a0 a1 a2 k
 unfold impl_AlwaysSaid.f
 repeat' first
   | (with_reducible exact impl_ClaimOk.mono _ _ _ _)
   | (with_reducible exact impl_ClaimTable.mono _ _ _ _)
   | (with_reducible exact LeO.refl _)
   | (with_reducible exact LeO.none _)
   | (with_reducible refine LeO.ite ?_ ?_)
   | (with_reducible refine LeO.bind ?_ (fun _=>?_))
   | exact impl_ClaimOk.mono _ _ _ _
   | exact impl_ClaimTable.mono _ _ _ _
   | exact LeO.none _
   | refine LeO.ite ?_ ?_
   | refine LeO.bind ?_ (fun _=>?_)
def impl_AlwaysSaid.T1:Bool×List (List Nat×List Nat):=(true,[([],[]),([],[]),([0,1],[0,1]),([2,2],[2]),([3],[3]),([3],[3]),([4,5,3,3],[3,4,5]),([3],[3]),([7,3],[3,7]),([8,3],[3,8]),([9,3],[3,9]),([6,10,3],[3,6,10]),([3,11],[3,11]),([12,6,0,1,2,3,4,5,6,7,8,9,10,11,12],[12])])
def impl_AlwaysSaid.B1:List Nat:=[0,0,3,7,15,15,63,15,143,399,911,2047,4095,8191]
theorem impl_AlwaysSaid.tab1:rtab .any (opsOf Try.f47 1)=impl_AlwaysSaid.T1:=by kernel_rfl
theorem impl_AlwaysSaid.bits1:waitsOk impl_AlwaysSaid.T1.2 impl_AlwaysSaid.B1=true:=by kernel_rfl
set_option maxHeartbeats 8000000 in
set_option maxRecDepth 100000 in
theorem impl_AlwaysSaid.calls (k:Nat) (a0:Int) (a1_0:Int) (A1_1:Option Addr) (c1_1:Nat) (l1_1:List (S33)) (r:Bool) (w:World) (hr1_1:Kd.C k33 w A1_1 l1_1.length l1_1) (hc1_1:l1_1.length≤c1_1) (h:impl_AlwaysSaid.f k a0 a1_0 l1_1=some r) :
  Calls Try.prog 47 #[.int .i64 a0,.agg #[.int .i64 a1_0,.slice A1_1 l1_1.length c1_1]] w fun e w'=>e = .returned (.bool r)∧Below w.heap.size w w':=by
 have hu36:=Try.underlying36
 have HR1_1:=mA hr1_1
 have HC1_1:=mA hc1_1
 clear hr1_1 hc1_1
 have HB:=mA (Below.refl w.heap.size w)
 have H:((impl_ClaimOk.f k a0 a1_0 l1_1).bind fun t102=>(if t102=true then ((impl_ClaimTable.f k a0 a1_0 l1_1).bind fun t103=>(if 0≤a0 then (some (t103==(wrap64 ((shl .i64 1 (shl .u64 1 a0))-1)))) else (none))) else (some false)))=some r:=h
 clear h
 replace H:=oB.mp H
 obtain ⟨t102,A30,H⟩:=H
 replace H:(if t102=true then ((impl_ClaimTable.f k a0 a1_0 l1_1).bind fun t103=>(if 0≤a0 then (some (t103==(wrap64 ((shl .i64 1 (shl .u64 1 a0))-1)))) else (none))) else (some false))=some r:=H
 have A3:=mA A30
 clear A30
 by_cases c4:t102=true
 ·subst c4
  have H1:((impl_ClaimTable.f k a0 a1_0 l1_1).bind fun t103=>(if 0≤a0 then (some (t103==(wrap64 ((shl .i64 1 (shl .u64 1 a0))-1)))) else (none)))=some r:=by rw [if_pos rfl] at H;exact H
  clear H
  have H:=H1
  clear H1
  replace H:=oB.mp H
  obtain ⟨t103,A50,H⟩:=H
  replace H:(if 0≤a0 then (some (t103==(wrap64 ((shl .i64 1 (shl .u64 1 a0))-1)))) else (none))=some r:=H
  have A5:=mA A50
  clear A50
  by_cases c6:0≤a0
  ·rw [if_pos c6] at H
   have c6b0:=eq_true c6
   have c6b1:decide (0≤a0)=true:=decide_eq_true c6
   clear c6
   obtain ⟨ji7,hji7⟩ : ∃ j_:Int,(shl .u64 1 a0)=j_:=⟨_,rfl⟩
   have hji7_n:(0≤ji7)=True:=eq_true (by rw [←hji7];exact shl_u64_nonneg _ _)
   replace H:(some (t103==(wrap64 ((shl .i64 1 (ji7))-1))))=some r:=by first|(rw [hji7] at H;exact H)|(simp only [hji7] at H ⊢;exact H)
   (try rw [hji7] at A3)
   (try rw [hji7] at A5)
   have hji7_:(IntKind.u64.wrap (1*2^min a0.toNat 64))=ji7:=hji7
   have hji7z:a0≤64→(IntKind.u64.wrap (1*2^a0.toNat))=ji7:=shl_small hji7
   have hji7u:(IntKind.u64.wrap (2^min a0.toNat 64))=ji7:=by have h_:=hji7_;rw [Int.one_mul] at h_;exact h_
   have hji7v:a0≤64→(IntKind.u64.wrap (2^a0.toNat))=ji7:=fun hle_=>by have h_:=hji7z hle_;rw [Int.one_mul] at h_;exact h_
   obtain ⟨ji8,hji8⟩ : ∃ j_:Int,(shl .i64 1 (ji7))=j_:=⟨_,rfl⟩
   replace H:(some (t103==(wrap64 ((ji8)-1))))=some r:=by first|(rw [hji8] at H;exact H)|(simp only [hji8] at H ⊢;exact H)
   (try rw [hji8] at A3)
   (try rw [hji8] at A5)
   have hji8_:(IntKind.i64.wrap (1*2^min (ji7).toNat 64))=ji8:=hji8
   have hji8z:(ji7)≤64→(IntKind.i64.wrap (1*2^(ji7).toNat))=ji8:=shl_small hji8
   have hji8u:(IntKind.i64.wrap (2^min (ji7).toNat 64))=ji8:=by have h_:=hji8_;rw [Int.one_mul] at h_;exact h_
   have hji8v:(ji7)≤64→(IntKind.i64.wrap (2^(ji7).toNat))=ji8:=fun hle_=>by have h_:=hji8z hle_;rw [Int.one_mul] at h_;exact h_
   have hji8y:(wrap64 (1*2^min (ji7).toNat 64))=ji8:=(i64_w _).symm.trans hji8_
   have hji8x:(ji7)≤64→(wrap64 (1*2^(ji7).toNat))=ji8:=fun h_=>(i64_w _).symm.trans (hji8z h_)
   obtain rfl:=Option.some.inj H
   go_enter Try.func47,Try.ntmps47
   try go_wp2_with (first|((with_reducible refine gate_dst (N:=3) rfl ?_);refine box_event ?hg (N:=3) ?hd (cs:=#[.int .i64 a1_0,.slice A1_1 l1_1.length c1_1]) (t:=36) ?hr ?_;(case hd=>rfl);(case hg=>rfl);(case hr=>first|(go_simp;done)|(go_simp;rfl));intro gb101 hg w9 hbox hb;have n0_:=mA (bT (by repeat first|(with_reducible first|exact HB.out|apply bA|apply bN|apply bD)|exact HB.out) hb);have n1_:=mA (hbox);have n2_:=mA ((by rw [hg];exact (bZ (by repeat first|(with_reducible first|exact HB.out|apply bA|apply bN|apply bD)|exact HB.out)):w.heap.size≤gb101));have n3_:=mA ((by rw [hg];exact (bZ (by repeat first|(with_reducible first|exact HB.out|apply bA|apply bN|apply bD)|exact HB.out)):w.heap.size≤gb101));clear HB;have HB:=n0_;have BK101:=n1_;have GW101:=n2_;have GE101:=n3_;clear n0_ n1_ n2_ n3_ hb hbox hg))
   have n0_:=mA (kD BK101.out)
   have n1_:=mA (bD HB.out)
   clear BK101 HB
   have BK101:=n0_;have HB:=n1_
   clear n0_ n1_
   refine start_ (n:=14) (S:=fun w'=>w'.cell? ⟨gb101,0,none⟩=some (.int .i64 a1_0)∧w'.cell? ⟨gb101,1,none⟩=some (.slice A1_1 l1_1.length c1_1)) (ds:=[]) #[O,O,O,O,O,O,O,O,O,O,O,O,O,O] (by kernel_rfl) rfl rfl ⟨(kC BK101.out 0).trans rfl,(kC BK101.out 1).trans rfl⟩ (fun hHeld=>?_);refine with_tabW impl_AlwaysSaid.tab1 impl_AlwaysSaid.bits1 (fun HT_ HW_=>?_)
   generalize w9.drew=w10 at BK101 HB hHeld ⊢
   refine pure_ (i:=0) (N:=some 5) (v:=?_) (a':=?_) #[I,O,O,O,O,O,O,O,O,O,O,O,O,O] rfl rfl (any_of HT_.out (by kernel_rfl)) (fun _ _ _ h=>h) (Or.inl ⟨by rfl,?_⟩) ?_ ?_
   rotate_left
   ·intro w'
    go_simp
    with_reducible rfl
   rotate_left
   ·simp only [Act.put,sA,sZ,sS,i64_w,i32_w]
    rfl
   refine take_ (i:=1) (N:=some 6) (v:=?_) (a':=?_) #[I,I,O,O,O,O,O,O,O,O,O,O,O,O] rfl rfl (take_ofW HT_.out HW_.out (by kernel_rfl)) (fun _ _ _ h=>h) (Or.inl ⟨by rfl,?_⟩) hHeld ?_ ?_
   rotate_left
   ·rintro w' ⟨s0,s1⟩
    go_simp
    with_reducible rfl
   rotate_left
   ·simp only [Act.put,sA,sZ,sS,i64_w,i32_w]
    rfl
   refine one_ (i:=2) (N:=some 7) #[I,I,I,O,O,O,O,O,O,O,O,O,O,O] rfl rfl (one_of HT_.out (by kernel_rfl)) (by decide) (fun K hK=>?_)
   refine goes_ Try.func45 (by kernel_rfl) rfl #[.int .i64 a0,.agg #[.int .i64 a1_0,.slice A1_1 l1_1.length c1_1]] (by rfl) rfl rfl (by (try simp only [mT,mC,mN]);first|done|rfl|(simp only [lD,lT];rfl)) ?_
   with_reducible refine (impl_ClaimOk.calls k a0 a1_0 _ _ l1_1 true _ ?side1 ?side2 A3.out).mono ?_
   (case side1=>repeat first|exact (Kd.C_below HR1_1.out HB.out)|(with_reducible refine cA ?_ _)|(with_reducible refine cN ?_ _)|(with_reducible refine cD ?_))
   (case side2=>exact HC1_1.out)
   rintro e w11 ⟨rfl,hb⟩
   refine ⟨_,rfl,?_⟩
   have n0_:=mA (kB (g:=gb101) (o:=.cells #[.int .i64 a1_0,.slice A1_1 l1_1.length c1_1] 36 (0,0)) (by (with_reducible repeat first|refine kN ?_ _|refine kD ?_|refine kA ?_ _);exact BK101.out) hb)
   have n1_:=mA (bT (by repeat first|(with_reducible first|exact HB.out|apply bA|apply bN|apply bD|refine bS ?_ GE101.out)|exact HB.out) hb)
   clear BK101 HB
   have BK101:=n0_;have HB:=n1_
   clear n0_ n1_
   (try clear hb);(try clear hb2);(try clear hk);(try clear hi)
   refine hK.out _ _ ⟨(kC BK101.out 0).trans rfl,(kC BK101.out 1).trans rfl⟩ (fun hHeld=>?_)
   clear hK K
   refine norm_ (a':=?_) ?_ ?_
   rotate_left
   ·show Act.put _ (some 7) _=_
    simp only [Act.put,sA,sZ,sS,i64_w,i32_w]
    rfl
   refine pure_ (i:=3) (N:=some 8) (v:=?_) (a':=?_) #[I,I,I,I,O,O,O,O,O,O,O,O,O,O] rfl rfl (any_of HT_.out (by kernel_rfl)) (fun _ _ _ h=>h) (Or.inl ⟨by rfl,?_⟩) ?_ ?_
   rotate_left
   ·intro w'
    go_simp
    with_reducible rfl
   rotate_left
   ·simp only [Act.put,sA,sZ,sS,i64_w,i32_w]
    rfl
   refine pure_ (i:=4) (N:=some 9) (v:=?_) (a':=?_) #[I,I,I,I,I,O,O,O,O,O,O,O,O,O] rfl rfl (any_of HT_.out (by kernel_rfl)) (fun _ _ _ h=>h) (Or.inl ⟨by rfl,?_⟩) ?_ ?_
   rotate_left
   ·intro w'
    go_simp
    with_reducible rfl
   rotate_left
   ·simp only [Act.put,sA,sZ,sS,i64_w,i32_w]
    rfl
   refine pure_ (i:=7) (N:=some 12) (v:=?_) (a':=?_) #[I,I,I,I,I,O,O,I,O,O,O,O,O,O] rfl rfl (any_of HT_.out (by kernel_rfl)) (fun _ _ _ h=>h) (Or.inl ⟨by rfl,?_⟩) ?_ ?_
   rotate_left
   ·intro w'
    go_simp
    with_reducible rfl
   rotate_left
   ·simp only [Act.put,sA,sZ,sS,i64_w,i32_w]
    rfl
   refine pure_ (i:=8) (N:=some 13) (v:=?_) (a':=?_) #[I,I,I,I,I,O,O,I,I,O,O,O,O,O] rfl rfl (any_of HT_.out (by kernel_rfl)) (fun _ _ _ h=>h) (Or.inl ⟨by rfl,?_⟩) ?_ ?_
   rotate_left
   ·intro w'
    go_simp
    with_reducible rfl
   rotate_left
   ·simp only [Act.put,sA,sZ,sS,i64_w,i32_w]
    rfl
   refine pure_ (i:=9) (N:=some 14) (v:=?_) (a':=?_) #[I,I,I,I,I,O,O,I,I,I,O,O,O,O] rfl rfl (any_of HT_.out (by kernel_rfl)) (fun _ _ _ h=>h) (Or.inl ⟨by rfl,?_⟩) ?_ ?_
   rotate_left
   ·intro w'
    go_simp
    with_reducible rfl
   rotate_left
   ·simp only [Act.put,sA,sZ,sS,i64_w,i32_w]
    rfl
   refine pure_ (i:=10) (N:=some 15) (v:=?_) (a':=?_) #[I,I,I,I,I,O,O,I,I,I,I,O,O,O] rfl rfl (any_of HT_.out (by kernel_rfl)) (fun _ _ _ h=>h) (Or.inl ⟨by rfl,?_⟩) ?_ ?_
   rotate_left
   ·intro w'
    go_simp
    with_reducible rfl
   rotate_left
   ·simp only [Act.put,sA,sZ,sS,i64_w,i32_w]
    rfl
   refine take_ (i:=5) (N:=some 10) (v:=?_) (a':=?_) #[I,I,I,I,I,I,O,I,I,I,I,O,O,O] rfl rfl (take_ofW HT_.out HW_.out (by kernel_rfl)) (fun _ _ _ h=>h) (Or.inl ⟨by rfl,?_⟩) hHeld ?_ ?_
   rotate_left
   ·rintro w' ⟨s0,s1⟩
    go_simp
    with_reducible rfl
   rotate_left
   ·simp only [Act.put,sA,sZ,sS,i64_w,i32_w]
    rfl
   refine one_ (i:=6) (N:=some 11) #[I,I,I,I,I,I,I,I,I,I,I,O,O,O] rfl rfl (one_of HT_.out (by kernel_rfl)) (by decide) (fun K hK=>?_)
   refine goes_ Try.func49 (by kernel_rfl) rfl #[.int .i64 a0,.agg #[.int .i64 a1_0,.slice A1_1 l1_1.length c1_1]] (by rfl) rfl rfl (by (try simp only [mT,mC,mN]);first|done|rfl|(simp only [lD,lT];rfl)) ?_
   with_reducible refine (impl_ClaimTable.calls k a0 a1_0 _ _ l1_1 t103 _ ?side1 ?side2 A5.out).mono ?_
   (case side1=>repeat first|exact (Kd.C_below HR1_1.out HB.out)|(with_reducible refine cA ?_ _)|(with_reducible refine cN ?_ _)|(with_reducible refine cD ?_))
   (case side2=>exact HC1_1.out)
   rintro e w12 ⟨rfl,hb⟩
   refine ⟨_,rfl,?_⟩
   have n0_:=mA (kB (g:=gb101) (o:=.cells #[.int .i64 a1_0,.slice A1_1 l1_1.length c1_1] 36 (0,0)) (by (with_reducible repeat first|refine kN ?_ _|refine kD ?_|refine kA ?_ _);exact BK101.out) hb)
   have n1_:=mA (bT (by repeat first|(with_reducible first|exact HB.out|apply bA|apply bN|apply bD|refine bS ?_ GE101.out)|exact HB.out) hb)
   clear BK101 HB
   have BK101:=n0_;have HB:=n1_
   clear n0_ n1_
   (try clear hb);(try clear hb2);(try clear hk);(try clear hi)
   refine hK.out _ _ ⟨(kC BK101.out 0).trans rfl,(kC BK101.out 1).trans rfl⟩ (fun hHeld=>?_)
   clear hK K
   refine norm_ (a':=?_) ?_ ?_
   rotate_left
   ·show Act.put _ (some 11) _=_
    simp only [Act.put,sA,sZ,sS,i64_w,i32_w]
    rfl
   refine pure_ (i:=11) (N:=some 16) (v:=?_) (a':=?_) #[I,I,I,I,I,I,I,I,I,I,I,I,O,O] rfl rfl (any_of HT_.out (by kernel_rfl)) (fun _ _ _ h=>h) (Or.inl ⟨by rfl,?_⟩) ?_ ?_
   rotate_left
   ·intro w'
    go_simp
    with_reducible rfl
   rotate_left
   ·simp only [Act.put,sA,sZ,sS,i64_w,i32_w]
    rfl
   refine pure_ (i:=12) (N:=some 17) (v:=?_) (a':=?_) #[I,I,I,I,I,I,I,I,I,I,I,I,I,O] rfl rfl (any_of HT_.out (by kernel_rfl)) (fun _ _ _ h=>h) (Or.inl ⟨by rfl,?_⟩) ?_ ?_
   rotate_left
   ·intro w'
    go_simp
    with_reducible rfl
   rotate_left
   ·simp only [Act.put,sA,sZ,sS,i64_w,i32_w]
    rfl
   refine pure_ (i:=13) (N:=some 4) (v:=?_) (a':=?_) #[I,I,I,I,I,I,I,I,I,I,I,I,I,I] rfl rfl (any_of HT_.out (by kernel_rfl)) (fun _ _ _ h=>h) (Or.inl ⟨by rfl,?_⟩) ?_ ?_
   rotate_left
   ·intro w'
    go_simp
    with_reducible rfl
   rotate_left
   ·simp only [Act.put,sA,sZ,sS,i64_w,i32_w]
    rfl
   refine done_ (done_of HT_.out (by kernel_rfl)) ?_
   try go_wp2
   go_ret
   exact ⟨by first|rfl|(simp [errW_none,errW_some]<;>rfl)|(simp only [←hji7, ←hji8];first|rfl|(simp [errW_none,errW_some]<;>rfl))|(simp [*, errW_none,errW_some]<;>rfl),by repeat (first|(with_reducible first|exact HB.out|apply bA|apply bN|apply bD|refine bS ?_ GE101.out)|exact HB.out)⟩
  rw [if_neg c6] at H
  exact absurd H (by simp)
 replace c4:=Bool.eq_false_iff.mpr c4
 subst c4
 have H1:(some false)=some r:=by rw [if_neg (show ¬ (false=true) by decide)] at H;exact H
 clear H
 have H:=H1
 clear H1
 obtain rfl:=Option.some.inj H
 go_enter Try.func47,Try.ntmps47
 try go_wp2_with (first|((with_reducible refine gate_dst (N:=3) rfl ?_);refine box_event ?hg (N:=3) ?hd (cs:=#[.int .i64 a1_0,.slice A1_1 l1_1.length c1_1]) (t:=36) ?hr ?_;(case hd=>rfl);(case hg=>rfl);(case hr=>first|(go_simp;done)|(go_simp;rfl));intro gb101 hg w13 hbox hb;have n0_:=mA (bT (by repeat first|(with_reducible first|exact HB.out|apply bA|apply bN|apply bD)|exact HB.out) hb);have n1_:=mA (hbox);have n2_:=mA ((by rw [hg];exact (bZ (by repeat first|(with_reducible first|exact HB.out|apply bA|apply bN|apply bD)|exact HB.out)):w.heap.size≤gb101));have n3_:=mA ((by rw [hg];exact (bZ (by repeat first|(with_reducible first|exact HB.out|apply bA|apply bN|apply bD)|exact HB.out)):w.heap.size≤gb101));clear HB;have HB:=n0_;have BK101:=n1_;have GW101:=n2_;have GE101:=n3_;clear n0_ n1_ n2_ n3_ hb hbox hg))
 have n0_:=mA (kD BK101.out)
 have n1_:=mA (bD HB.out)
 clear BK101 HB
 have BK101:=n0_;have HB:=n1_
 clear n0_ n1_
 refine start_ (n:=14) (S:=fun w'=>w'.cell? ⟨gb101,0,none⟩=some (.int .i64 a1_0)∧w'.cell? ⟨gb101,1,none⟩=some (.slice A1_1 l1_1.length c1_1)) (ds:=[]) #[O,O,O,O,O,O,O,O,O,O,O,O,O,O] (by kernel_rfl) rfl rfl ⟨(kC BK101.out 0).trans rfl,(kC BK101.out 1).trans rfl⟩ (fun hHeld=>?_);refine with_tabW impl_AlwaysSaid.tab1 impl_AlwaysSaid.bits1 (fun HT_ HW_=>?_)
 generalize w13.drew=w14 at BK101 HB hHeld ⊢
 refine pure_ (i:=0) (N:=some 5) (v:=?_) (a':=?_) #[I,O,O,O,O,O,O,O,O,O,O,O,O,O] rfl rfl (any_of HT_.out (by kernel_rfl)) (fun _ _ _ h=>h) (Or.inl ⟨by rfl,?_⟩) ?_ ?_
 rotate_left
 ·intro w'
  go_simp
  with_reducible rfl
 rotate_left
 ·simp only [Act.put,sA,sZ,sS,i64_w,i32_w]
  rfl
 refine take_ (i:=1) (N:=some 6) (v:=?_) (a':=?_) #[I,I,O,O,O,O,O,O,O,O,O,O,O,O] rfl rfl (take_ofW HT_.out HW_.out (by kernel_rfl)) (fun _ _ _ h=>h) (Or.inl ⟨by rfl,?_⟩) hHeld ?_ ?_
 rotate_left
 ·rintro w' ⟨s0,s1⟩
  go_simp
  with_reducible rfl
 rotate_left
 ·simp only [Act.put,sA,sZ,sS,i64_w,i32_w]
  rfl
 refine one_ (i:=2) (N:=some 7) #[I,I,I,O,O,O,O,O,O,O,O,O,O,O] rfl rfl (one_of HT_.out (by kernel_rfl)) (by decide) (fun K hK=>?_)
 refine goes_ Try.func45 (by kernel_rfl) rfl #[.int .i64 a0,.agg #[.int .i64 a1_0,.slice A1_1 l1_1.length c1_1]] (by rfl) rfl rfl (by (try simp only [mT,mC,mN]);first|done|rfl|(simp only [lD,lT];rfl)) ?_
 with_reducible refine (impl_ClaimOk.calls k a0 a1_0 _ _ l1_1 false _ ?side1 ?side2 A3.out).mono ?_
 (case side1=>repeat first|exact (Kd.C_below HR1_1.out HB.out)|(with_reducible refine cA ?_ _)|(with_reducible refine cN ?_ _)|(with_reducible refine cD ?_))
 (case side2=>exact HC1_1.out)
 rintro e w15 ⟨rfl,hb⟩
 refine ⟨_,rfl,?_⟩
 have n0_:=mA (kB (g:=gb101) (o:=.cells #[.int .i64 a1_0,.slice A1_1 l1_1.length c1_1] 36 (0,0)) (by (with_reducible repeat first|refine kN ?_ _|refine kD ?_|refine kA ?_ _);exact BK101.out) hb)
 have n1_:=mA (bT (by repeat first|(with_reducible first|exact HB.out|apply bA|apply bN|apply bD|refine bS ?_ GE101.out)|exact HB.out) hb)
 clear BK101 HB
 have BK101:=n0_;have HB:=n1_
 clear n0_ n1_
 (try clear hb);(try clear hb2);(try clear hk);(try clear hi)
 refine hK.out _ _ ⟨(kC BK101.out 0).trans rfl,(kC BK101.out 1).trans rfl⟩ (fun hHeld=>?_)
 clear hK K
 refine norm_ (a':=?_) ?_ ?_
 rotate_left
 ·show Act.put _ (some 7) _=_
  simp only [Act.put,sA,sZ,sS,i64_w,i32_w]
  rfl
 refine pure_ (i:=3) (N:=some 8) (v:=?_) (a':=?_) #[I,I,I,I,O,O,O,O,O,O,O,O,O,O] rfl rfl (any_of HT_.out (by kernel_rfl)) (fun _ _ _ h=>h) (Or.inl ⟨by rfl,?_⟩) ?_ ?_
 rotate_left
 ·intro w'
  go_simp
  with_reducible rfl
 rotate_left
 ·simp only [Act.put,sA,sZ,sS,i64_w,i32_w]
  rfl
 refine pure_ (i:=4) (N:=some 9) (v:=undef) (a':=?_) #[I,I,I,I,I,O,O,O,O,O,O,O,O,O] rfl rfl (any_of HT_.out (by kernel_rfl)) (fun _ _ _ h=>h) (Or.inr ⟨by rfl,rfl⟩) ?_ ?_
 rotate_left
 ·simp only [Act.put,sA,sZ,sS,i64_w,i32_w]
  rfl
 refine pure_ (i:=5) (N:=some 10) (v:=undef) (a':=?_) #[I,I,I,I,I,I,O,O,O,O,O,O,O,O] rfl rfl (any_of HT_.out (by kernel_rfl)) (fun _ _ _ h=>h) (Or.inr ⟨by rfl,rfl⟩) ?_ ?_
 rotate_left
 ·simp only [Act.put,sA,sZ,sS,i64_w,i32_w]
  rfl
 refine pure_ (i:=6) (N:=some 11) (v:=undef) (a':=?_) #[I,I,I,I,I,I,I,O,O,O,O,O,O,O] rfl rfl (any_of HT_.out (by kernel_rfl)) (fun _ _ _ h=>h) (Or.inr ⟨by rfl,rfl⟩) ?_ ?_
 rotate_left
 ·simp only [Act.put,sA,sZ,sS,i64_w,i32_w]
  rfl
 refine pure_ (i:=7) (N:=some 12) (v:=undef) (a':=?_) #[I,I,I,I,I,I,I,I,O,O,O,O,O,O] rfl rfl (any_of HT_.out (by kernel_rfl)) (fun _ _ _ h=>h) (Or.inr ⟨by rfl,rfl⟩) ?_ ?_
 rotate_left
 ·simp only [Act.put,sA,sZ,sS,i64_w,i32_w]
  rfl
 refine pure_ (i:=8) (N:=some 13) (v:=undef) (a':=?_) #[I,I,I,I,I,I,I,I,I,O,O,O,O,O] rfl rfl (any_of HT_.out (by kernel_rfl)) (fun _ _ _ h=>h) (Or.inr ⟨by rfl,rfl⟩) ?_ ?_
 rotate_left
 ·simp only [Act.put,sA,sZ,sS,i64_w,i32_w]
  rfl
 refine pure_ (i:=9) (N:=some 14) (v:=undef) (a':=?_) #[I,I,I,I,I,I,I,I,I,I,O,O,O,O] rfl rfl (any_of HT_.out (by kernel_rfl)) (fun _ _ _ h=>h) (Or.inr ⟨by rfl,rfl⟩) ?_ ?_
 rotate_left
 ·simp only [Act.put,sA,sZ,sS,i64_w,i32_w]
  rfl
 refine pure_ (i:=10) (N:=some 15) (v:=undef) (a':=?_) #[I,I,I,I,I,I,I,I,I,I,I,O,O,O] rfl rfl (any_of HT_.out (by kernel_rfl)) (fun _ _ _ h=>h) (Or.inr ⟨by rfl,rfl⟩) ?_ ?_
 rotate_left
 ·simp only [Act.put,sA,sZ,sS,i64_w,i32_w]
  rfl
 refine pure_ (i:=11) (N:=some 16) (v:=undef) (a':=?_) #[I,I,I,I,I,I,I,I,I,I,I,I,O,O] rfl rfl (any_of HT_.out (by kernel_rfl)) (fun _ _ _ h=>h) (Or.inr ⟨by rfl,rfl⟩) ?_ ?_
 rotate_left
 ·simp only [Act.put,sA,sZ,sS,i64_w,i32_w]
  rfl
 refine pure_ (i:=12) (N:=some 17) (v:=?_) (a':=?_) #[I,I,I,I,I,I,I,I,I,I,I,I,I,O] rfl rfl (any_of HT_.out (by kernel_rfl)) (fun _ _ _ h=>h) (Or.inl ⟨by rfl,?_⟩) ?_ ?_
 rotate_left
 ·intro w'
  go_simp
  with_reducible rfl
 rotate_left
 ·simp only [Act.put,sA,sZ,sS,i64_w,i32_w]
  rfl
 refine pure_ (i:=13) (N:=some 4) (v:=?_) (a':=?_) #[I,I,I,I,I,I,I,I,I,I,I,I,I,I] rfl rfl (any_of HT_.out (by kernel_rfl)) (fun _ _ _ h=>h) (Or.inl ⟨by rfl,?_⟩) ?_ ?_
 rotate_left
 ·intro w'
  go_simp
  with_reducible rfl
 rotate_left
 ·simp only [Act.put,sA,sZ,sS,i64_w,i32_w]
  rfl
 refine done_ (done_of HT_.out (by kernel_rfl)) ?_
 try go_wp2
 go_ret
 exact ⟨by first|rfl|(simp [errW_none,errW_some]<;>rfl)|(simp [*, errW_none,errW_some]<;>rfl),by repeat (first|(with_reducible first|exact HB.out|apply bA|apply bN|apply bD|refine bS ?_ GE101.out)|exact HB.out)⟩
end Go.Proofs.Ytpampekijfjlkab.X
