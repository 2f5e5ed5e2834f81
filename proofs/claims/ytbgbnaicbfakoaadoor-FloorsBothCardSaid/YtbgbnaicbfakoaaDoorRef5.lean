/- The document's answer for floors: the nearest one. -/
import Derived.Test.YtbgbnaicbfakoaaDoorNlo
import Derived.Test.YtbgbnaicbfakoaaDoorNhi
import Derived.Test.YtbgbnaicbfakoaaDoorNmid
namespace Go.Proofs.YtbgbnaicbfakoaaDoor
open Go.RowKit Go.Shelf
theorem rnear_calls (s : Nat) (hs : s < 2 ^ 64) (f : Int) (w : World) :
    Calls Tryd.prog 11 #[.int .u64 s, .int .i64 f] w fun e w' => e = .returned (.int .i64 (nearR s (max (min f 63) 0).toNat)) ∧ Below w.heap.size w w' := by
  by_cases h1 : f < 0
  · rw [show (max (min f 63) 0).toNat = 0 by omega]; exact rnear_lo s hs f h1 w
  · by_cases h2 : 63 < f
    · rw [show (max (min f 63) 0).toNat = 63 by omega]; exact rnear_hi s hs f h2 w
    · obtain ⟨a, rfl⟩ : ∃ a : Nat, f = a := ⟨f.toNat, by omega⟩
      rw [show (max (min (a : Int) 63) 0).toNat = a by omega]; exact rnear_mid s hs a (by omega) w
end Go.Proofs.YtbgbnaicbfakoaaDoor
