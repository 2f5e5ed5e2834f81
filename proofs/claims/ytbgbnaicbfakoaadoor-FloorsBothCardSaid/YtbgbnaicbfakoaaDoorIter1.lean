/- A range over a function that hands out one value a round: the frame of a round written by its two slots. -/
import Derived.Test.YtbgbnaicbfakoaaDoorIter
namespace Go.Proofs.YtbgbnaicbfakoaaDoor.Iter
open Go.RowKit
theorem law1 {n : Nat} {P : Program} {g : Operand} {p q : Tmp} {assign body : Code} {Q : Exit → Act → World → Prop} {a : Act} {w : World}
    (h1 : 1 ≤ n) {gf : Nat} {lb : Array Value} (hg : a.eval g = .func (.func gf) #[] lb) (eg : ∀ args w, (callFunc gf args).run P w = .ok (.enter gf args) w)
    {S T : Nat → Prop} {xs : List (Array Value)} (hseq : Iter (n - 1) P gf lb S T xs w) (hS : ∀ b, S b → b < w.heap.size) (hps : ∀ x ∈ xs, x.size = 1)
    (I : Nat → World → Prop) (Ix : Code → World → Prop) (hIA : Abide w.heap.size T I) (hIx : OwnFrom w.heap.size Ix) (h0 : I 0 w)
    (hassign : ∀ (l : Nat) (x : Value) (W : World) (K : Act → World → Prop), K { tmps := (a.tmps.setIfInBounds p x).setIfInBounds q x, defers := [] } W →
      assign.wpIn (Fence.wide.inRound l) (n - 1 - 1) P (Exit.then K (fun _ _ _ => False)) { tmps := a.tmps.setIfInBounds p x, defers := [] } W)
    (hbody : ∀ (l : Nat) (i : Nat) (_ : i < xs.length) (x : Value) (_ : xs[i]? = some #[x]) (W : World), w.heap.size ≤ l → (∃ r, W.heap[l]? = some (.loop r)) → I i W →
      body.wpIn (Fence.wide.inRound l) (n - 1 - 1) P (roundPost w.heap.size S T I Ix i W) { tmps := (a.tmps.setIfInBounds p x).setIfInBounds q x, defers := [] } W)
    (hdone : ∀ (D : Nat) (W : World), w.heap.size ≤ D → I xs.length W → W.heap[D]? = some (.deferred (some [])) → Q .normal { a with defers := { target := .collected D, args := #[] } :: a.defers } W)
    (hstop : ∀ (D : Nat) (c : Code) (W : World), w.heap.size ≤ D → Ix c W → W.heap[D]? = some (.deferred (some [])) → c.wpIn Fence.wide n P Q { a with defers := { target := .collected D, args := #[] } :: a.defers } W) :
    (Code.rangeFunc g #[p] assign body).wpIn Fence.wide n P Q a w := by
  refine law h1 hg eg hseq hS hps I Ix hIA hIx h0 (fun i a' _ => ∃ x, xs[i]? = some #[x] ∧ a' = { tmps := (a.tmps.setIfInBounds p x).setIfInBounds q x, defers := [] }) (fun i a' => ownFrom_pure' _ _) ?_ ?_ hdone hstop
  · intro l i hi W K hIW _ hK
    obtain ⟨x, hx⟩ : ∃ x, xs[i] = #[x] := by
      have := hps _ (List.getElem_mem hi)
      exact ⟨xs[i][0], by apply Array.ext <;> simp [this]; intro j hj; subst hj; rfl⟩
    rw [hx]
    have e : ((#[p] : Array Tmp).zip #[x]).foldl (fun t (p, v) => t.setIfInBounds p v) a.tmps = a.tmps.setIfInBounds p x := by simp
    rw [e]
    exact hassign l x W K (hK _ _ (KeepsFrom.refl _ _) (Keeps.refl _ _ _) hIW ⟨x, by rw [List.getElem?_eq_getElem hi, hx], rfl⟩)
  · rintro l i hi a' W hl hr hI ⟨x, hx, rfl⟩
    exact hbody l i hi x hx W hl hr hI
theorem ret_mark2 {n : Nat} {P : Program} {fn : Func} {R : Ending → World → Prop} {tmps : Array Value} {D E : Nat} {v : Value} {W : World} (hE : W.heap[E]? = some (.deferred (some []))) (hD : W.heap[D]? = some (.deferred (some []))) (hne : D ≠ E)
    (hres : (results fn tmps).run P ((W.putObj E (.deferred none)).putObj D (.deferred none)) = .ok v ((W.putObj E (.deferred none)).putObj D (.deferred none))) (hR : R (.returned v) ((W.putObj E (.deferred none)).putObj D (.deferred none))) :
    bodyPostM Fence.wide n P fn R .ret { tmps := tmps, defers := [{ target := .collected E, args := #[] }, { target := .collected D, args := #[] }] } W :=
  ⟨by simp, .inl ⟨_, _, rfl, run_takeDeferred hE, ⟨by simp, .inl ⟨_, _, rfl, run_takeDeferred ((World.putObj_heap_other hne).trans hD), ⟨v, hres, hR⟩⟩⟩⟩⟩
end Go.Proofs.YtbgbnaicbfakoaaDoor.Iter
