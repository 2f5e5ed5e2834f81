/- The end of FloorsBoth: its result behind the two marks. -/
import Derived.Test.YtbgbnaicbfakoaaDoorBoth1
import Derived.Test.YtbgbnaicbfakoaaDoorIter1
namespace Go.Proofs.YtbgbnaicbfakoaaDoor
open Go.RowKit Go.Shelf Go.Proofs.YtbgbnaicbfakoaaDoor.Iter
attribute [local go_sem] Oper.semAt_some
theorem d_oth {w : World} {g b : Nat} {o : Obj} (h : w.heap[g]? = some o) (u : Value) (hne : g ≠ b) : (w.setCell ⟨b, 0, none⟩ u).heap[g]? = some o := d_other h _ u hne
theorem fin_both {N D E : Nat} {w w6 : World} {tmps : Array Value} (ht : tmps.getD 4 undef = .pointer (some ⟨N + 1, 0, none⟩)) (k4 : w6.heap[N + 1]? = some (.cells #[.bool false] 4 (0, 0))) (kD : w6.heap[D]? = some (.deferred (some []))) (kE : w6.heap[E]? = some (.deferred (some [])))
    (hB : Below N w w6) (hDE : D ≠ E) (hD : D ≠ N + 1) (hE : E ≠ N + 1) (hN : w.heap.size = N) (hDN : N ≤ D) (hEN : N ≤ E) :
    bodyPostM Fence.wide 3 Tryd.prog Tryd.f5 (fun e w' => e = Ending.returned (Value.bool true) ∧ Below w.heap.size w w') .ret
      { tmps := tmps, defers := [{ target := .collected E, args := #[] }, { target := .collected D, args := #[] }] } (w6.drew.setCell ⟨N + 1, 0, none⟩ (.bool true)) := by
  subst hN
  have j4 : (w6.drew.setCell ⟨w.heap.size + 1, 0, none⟩ (.bool true)).heap[w.heap.size + 1]? = some (.cells #[.bool true] 4 (0, 0)) := d_put (w := w6.drew) k4 0 _ rfl
  have jD : (w6.drew.setCell ⟨w.heap.size + 1, 0, none⟩ (.bool true)).heap[D]? = _ := d_oth (w := w6.drew) kD _ hD
  have jE : (w6.drew.setCell ⟨w.heap.size + 1, 0, none⟩ (.bool true)).heap[E]? = _ := d_oth (w := w6.drew) kE _ hE
  have jB : Below w.heap.size w (w6.drew.setCell ⟨w.heap.size + 1, 0, none⟩ (.bool true)) := (d_drew hB).setCell (by simp) _
  generalize w6.drew.setCell ⟨w.heap.size + 1, 0, none⟩ (.bool true) = W at *
  have c : ((W.putObj E (.deferred none)).putObj D (.deferred none)).cell? ⟨w.heap.size + 1, 0, none⟩ = some (.bool true) :=
    (d_cell ((World.putObj_heap_other (fun e => hD e.symm)).trans ((World.putObj_heap_other (fun e => hE e.symm)).trans j4)) 0).trans rfl
  have ht' : tmps[4]?.getD undef = .pointer (some ⟨w.heap.size + 1, 0, none⟩) := by simpa using ht
  refine ret_mark2 (v := .bool true) jE jD hDE (by simp [results, Tryd.f5, go_sem, ht', asAddr, c]) ⟨rfl, below_put (below_put jB hEN _) hDN _⟩
end Go.Proofs.YtbgbnaicbfakoaaDoor
