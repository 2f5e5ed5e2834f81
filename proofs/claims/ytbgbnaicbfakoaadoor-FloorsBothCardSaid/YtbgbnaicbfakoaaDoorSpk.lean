/- The example of the document holds. -/
import Derived.Test.YtbgbnaicbfakoaaDoorRef5
namespace Go.Proofs.YtbgbnaicbfakoaaDoor
open Go.RowKit Go.Shelf

theorem tab_below {w w' : World} (hT : TabAt 0 Lib.deBruijn64tab w) (hb : Below w.heap.size w w') (h0 : 0 < w.heap.size) : TabAt 0 Lib.deBruijn64tab w' := fun j hj => (hb.cell (p := ⟨0, j, none⟩) h0).trans (hT j hj)
theorem near_ex : nearN (ofN [3, 7]) 5 = (3, true) := by decide +kernel
theorem to_ex : toN 3 = 7 := by decide +kernel

set_option maxRecDepth 100000 in
set_option maxHeartbeats 2000000 in
theorem speaks_calls (w : World) (hT : TabAt 0 Lib.deBruijn64tab w) (h0 : 0 < w.heap.size) :
    Calls Tryd.prog 6 #[] w fun e w' => e = .returned (.bool true) ∧ Below w.heap.size w w' := by
  have hB : Below w.heap.size w (w.alloc (.cells #[.int .i64 3, .int .i64 7] 3)) := d_balloc (Below.refl _ _) (Nat.le_refl _) _
  have hl : IntsAt (w.alloc (.cells #[.int .i64 3, .int .i64 7] 3)) (some ⟨w.heap.size, 0, none⟩) [3, 7] := by
    intro j hj
    refine ⟨_, _, rfl, ?_⟩
    rw [Nat.zero_add, d_cell (heap_alloc_new w _) j]
    match j, hj with
    | 0, _ => rfl
    | 1, _ => rfl
  have hof := of_calls [3, 7] _ 2 _ hl (by decide)
  have hT2 := tab_below hT hB h0
  have hs2 : 0 < (w.alloc (.cells #[.int .i64 3, .int .i64 7] 3)).heap.size := by simp
  have hnr := near_calls (ofN [3, 7]) (ofN_lt _) 5 _ hT2 hs2
  rw [near_ex] at hnr
  have hto := to_calls 3
  rw [to_ex] at hto
  have HOF := Lib.hid hof
  have HNR := Lib.hid hnr
  have HTO := Lib.hid hto
  clear hof hnr hto hl hT hT2
  go_enter Tryd.func6, Tryd.ntmps6
  go_wp2_with (first
    | (go_at_call 13; refine HOF.out.mono ?_; rintro e w1 ⟨rfl, hw1⟩; subst hw1)
    | (go_at_call 10; refine HNR.out.mono ?_; rintro e w1 ⟨rfl, hb1⟩)
    | (go_at_call 15; refine (HTO.out _).mono ?_; rintro e w2 ⟨rfl, hw2⟩; subst hw2))
  go_ret
  exact ⟨rfl, d_then hB (by simp) hb1⟩
end Go.Proofs.YtbgbnaicbfakoaaDoor
