/- The document's answer for floors, walked: the nearest one. -/
import Derived.Test.YtbgbnaicbfakoaaDoorRef3
namespace Go.Proofs.YtbgbnaicbfakoaaDoor
open Go.RowKit Go.Shelf
attribute [local go_sem ↓ high] zero34

def nearAt (s a d : Nat) : Option Nat := if d ≤ a ∧ s.testBit (a - d) = true then some (a - d) else if a + d < 64 ∧ s.testBit (a + d) = true then some (a + d) else none
def nearR (s a : Nat) : Int := match (List.range 64).findSome? (nearAt s a) with
  | some x => (x : Int)
  | none => -1
theorem nearR_some (s a k : Nat) (hk : k < 64) (hno : ∀ j, j < k → nearAt s a j = none) (x : Nat) (hx : nearAt s a k = some x) : nearR s a = x := by
  unfold nearR
  rw [show (List.range 64).findSome? (nearAt s a) = some x from ?_]
  rw [show 64 = k + (64 - k) by omega, List.range_add, List.findSome?_append, List.findSome?_eq_none_iff.2 (by intro j hj; exact hno j (by simpa using hj))]
  rw [show 64 - k = (63 - k) + 1 by omega, List.range_succ_eq_map]
  simp [hx]
theorem nearR_none (s a : Nat) (hno : ∀ j, j < 64 → nearAt s a j = none) : nearR s a = -1 := by
  unfold nearR
  rw [List.findSome?_eq_none_iff.2 (by intro j hj; exact hno j (by simpa using hj))]

end Go.Proofs.YtbgbnaicbfakoaaDoor
