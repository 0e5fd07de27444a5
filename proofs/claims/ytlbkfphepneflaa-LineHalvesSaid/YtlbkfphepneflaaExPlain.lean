/- The examples of the chapter, reckoned. -/
import Derived.Test.YtlbkfphepneflaaSame
namespace Go.Proofs.Ytlbkfphepneflaa
open Go.RowKit

def mkOp (c : UInt8) (m : Int) (q : List Int) : Opn := ⟨⟨#[c]⟩, 0, m, q, []⟩
def exL : List Opn := [mkOp 97 5 [], mkOp 98 3 [0], mkOp 99 4 [1]]
def exM : List Opn := [mkOp 97 4 [], mkOp 98 4 [], mkOp 99 4 []]
def exN : List Opn := [mkOp 97 3 [2], mkOp 98 3 [], mkOp 99 2 []]
theorem ex1 : bndErr exL 8 = 0 := by kernel_rfl
theorem ex2 : bndErr exL 7 = 0 := by kernel_rfl
theorem ex3 : bndErr exL 4 = 18 := by kernel_rfl
theorem ex4 : bndErr exM 6 = 0 := by kernel_rfl
theorem ex5 : bndMax exM 6 = 3 := by kernel_rfl
theorem ex6 : bndErr exN 4 = 0 := by kernel_rfl
theorem ex7 : balSt exL 8 = [[0, 1], [2]] := by kernel_rfl
theorem ex8 : balSt exL 7 = [[0], [1, 2]] := by kernel_rfl
theorem ex9 : balSt exN 4 = [[2], [0], [1]] := by kernel_rfl
theorem ex10 : chkErr exL 7 [[1, 2], [0]] = 21 := by kernel_rfl
theorem ex11 : chkErr exL 7 [[0], [1, 2]] = 0 := by kernel_rfl
theorem ex12 : chkErr exL 7 [[0, 1], [1]] = 7 := by kernel_rfl
end Go.Proofs.Ytlbkfphepneflaa
