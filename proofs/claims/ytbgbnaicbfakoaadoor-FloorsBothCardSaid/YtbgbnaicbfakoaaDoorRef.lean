/- The document's answer for floors, walked. -/
import Derived.Test.YtbgbnaicbfakoaaDoorNear
import Derived.Deep.WholeRow
namespace Go.Proofs.YtbgbnaicbfakoaaDoor
open Go.RowKit Go.Shelf

/-- Sixty-four truths as an array. -/
def bA (f : Nat → Bool) : Array Value := ((List.range 64).map fun i => Value.bool (f i)).toArray
theorem bA_size (f : Nat → Bool) : (bA f).size = 64 := by simp [bA]
theorem bA_one (f : Nat → Bool) : ∀ v ∈ (bA f).toList, v.oneCell' = true := by
  intro v hv; simp [bA] at hv; obtain ⟨i, _, rfl⟩ := hv; rfl
theorem bA_get (f : Nat → Bool) (i : Nat) (h : i < 64) : (bA f)[i]? = some (.bool (f i)) := by simp [bA, h]
theorem bA_set (f : Nat → Bool) (k : Nat) (v : Bool) : (bA f).setIfInBounds k (.bool v) = bA (fun i => if i = k then v else f i) := by
  apply Array.ext_getElem?
  intro i
  by_cases hi : i < 64
  · rw [bA_get _ _ hi, Array.getElem?_setIfInBounds]
    by_cases e : k = i
    · subst e; simp [bA_size, hi]
    · rw [if_neg e, bA_get _ _ hi, if_neg (fun h => e h.symm)]
  · rw [Array.getElem?_eq_none (by simp [bA_size]; omega), Array.getElem?_eq_none (by simp [bA_size]; omega)]
theorem bA_congr {f g : Nat → Bool} (h : ∀ i, i < 64 → f i = g i) : bA f = bA g := by
  unfold bA; congr 1; apply List.map_congr_left; intro i hi; simp at hi; rw [h i hi]
theorem zero34 (w : World) : (zeroValue 34).run Tryd.prog w = .ok (.agg (bA fun _ => false)) w := Tryd.zeroValue34 w
attribute [local go_sem ↓ high] zero34

theorem store64 {P : Program} {w : World} {g : Nat} {c : Array Value} {t : TypeId} (hg : w.heap[g]? = some (.cells c t (0, 0))) (hc : c.size = 64) (f : Nat → Bool) :
    (storeCells ⟨g, 0, none⟩ (bA f).toList 0).run P w = .ok () (w.setRow g (bA f)) := by
  have := run_storeCells_from (P := P) g t (bA f).toList 0 c w hg (by simp [bA_size, hc]) (bA_one f)
  simpa using this
theorem info34 (f : Nat → Bool) : (Tryd.prog.info? 34).map (·.size) = some (bA f).size := by rw [bA_size]; kernel_rfl
theorem row_put {w : World} {g : Nat} {t : TypeId} {c c' : Array Value} (h : w.heap[g]? = some (.cells c t (0, 0))) : (w.setRow g c').heap[g]? = some (.cells c' t (0, 0)) := setRow_heap w g c c' t _ h
theorem row_other {w : World} {g k : Nat} {c' : Array Value} {o : Obj} (h : w.heap[k]? = some o) (hne : k ≠ g) : (w.setRow g c').heap[k]? = some o := by
  simp only [World.setRow]
  rw [Array.getElem?_modify, if_neg (fun e => hne e.symm)]
  exact h
theorem row_below {B : Nat} {w W : World} (h : Below B w W) {g : Nat} (hg : B ≤ g) (c' : Array Value) : Below B w (W.setRow g c') :=
  ⟨h.os, h.tape, h.output, by simpa [World.setRow] using h.size, fun k hk => (by
    simp only [World.setRow]
    rw [Array.getElem?_modify, if_neg (by omega)]
    exact h.block k hk)⟩

set_option maxRecDepth 100000 in
set_option maxHeartbeats 2000000 in
theorem all_calls (s : Nat) (hs : s < 2 ^ 64) (w : World) :
    Calls Tryd.prog 24 #[.int .u64 s] w fun e w' => e = .returned (.agg (bA s.testBit)) ∧ Below w.heap.size w w' := by
  have hst : Sem.run Tryd.prog (storeCells ⟨w.heap.size + 1, 0, none⟩ (bA fun _ => false).toList) ((w.alloc (.cells (bA fun _ => false) 34)).alloc (.cells (bA fun _ => false) 34)) = .ok () (((w.alloc (.cells (bA fun _ => false) 34)).alloc (.cells (bA fun _ => false) 34)).setRow (w.heap.size + 1) (bA fun _ => false)) :=
    store64 (by simpa using heap_alloc_new (w.alloc (.cells (bA fun _ => false) 34)) _) (bA_size _) _
  go_enter Tryd.func24, Tryd.ntmps24
  go_wp2
  obtain ⟨w1, hw1⟩ : ∃ w1, ((w.alloc (.cells (bA fun _ => false) 34)).alloc (.cells (bA fun _ => false) 34)).setRow (w.heap.size + 1) (bA fun _ => false) = w1 := ⟨_, rfl⟩
  have h1 : w1.heap[w.heap.size]? = some (.cells (bA fun _ => false) 34 (0, 0)) := by rw [← hw1]; exact row_other (d_alloc (heap_alloc_new w _) _) (by omega)
  have h2 : w1.heap[w.heap.size + 1]? = some (.cells (bA fun i => decide (i < 0) && s.testBit i) 34 (0, 0)) := by rw [← hw1]; refine (row_put (by simpa using heap_alloc_new (w.alloc (.cells (bA fun _ => false) 34)) _)).trans ?_; congr 2
  have h3 : Below w.heap.size w w1 := by rw [← hw1]; exact row_below (d_balloc (d_balloc (Below.refl _ _) (Nat.le_refl _) _) (by simp) _) (by omega) _
  rw [hw1]
  clear hw1 hst
  go_loopw [0, 4] (fun v i wr => ∃ k : Nat, k ≤ 64 ∧ v = .int .u64 (s / 2 ^ k : Nat) ∧ i = .int .i64 k ∧ wr.heap[w.heap.size]? = some (.cells (bA fun _ => false) 34 (0, 0)) ∧ wr.heap[w.heap.size + 1]? = some (.cells (bA fun i => decide (i < k) && s.testBit i) 34 (0, 0)) ∧ Below w.heap.size w wr) (fun _ i _ => 64 - (intOf i).toNat)
  case atStart => exact ⟨0, by omega, by simp, rfl, h1, h2, h3⟩
  case round =>
    obtain ⟨k, hk, rfl, rfl, g1, g2, g3⟩ := hrel
    by_cases h : k < 64
    · have c1 : wr.cell? ⟨w.heap.size + 1, k, none⟩ = some (.bool (decide (k < k) && s.testBit k)) := (d_cell g2 k).trans (bA_get _ _ h)
      have f1 := d_frozen g2 k
      have hq : s / 2 ^ k < 2 ^ 64 := Nat.lt_of_le_of_lt (Nat.div_le_self _ _) hs
      have hq2 : s / 2 ^ (k + 1) = s / 2 ^ k / 2 := by rw [Nat.pow_succ, Nat.div_div_eq_div_mul]
      have hb : s.testBit k = decide (s / 2 ^ k % 2 = 1) := by rw [Nat.testBit_eq_decide_div_mod_eq]
      have HQ := Lib.hid hq2
      have HB := Lib.hid hb
      clear hq2 hb
      generalize s / 2 ^ k = q at *
      go_wp2
      go_roundw
      case rel =>
        refine ⟨k + 1, by omega, by rw [HQ.out]; rfl, by go_num, d_other g1 _ _ (by simp), ?_, g3.setCell (by simp) _⟩
        refine (d_put g2 k _ (bA_set _ _ _)).trans ?_
        congr 2
        apply bA_congr
        intro i hi
        by_cases e : i = k
        · subst e
          simp only [if_pos, HB.out]
          rw [Bool.eq_iff_iff]; simp; omega
        · rw [if_neg e, Bool.eq_iff_iff]; simp; omega
      case measure => simp [intOf]; omega
    · obtain rfl : k = 64 := by omega
      clear h3 h1 h2
      have s1 := store64 (P := Tryd.prog) g1 (bA_size _) (fun i => decide (i < 64) && s.testBit i)
      go_wp2_with (refine wpList_load_row rfl 34 _ rfl (w.heap.size + 1) rfl 34 _ (0, 0) _ g2 Tryd.underlying34 rfl (info34 _) ?_)
      refine ⟨rfl, _, results_cell_row rfl _ _ w.heap.size 34 _ (0, 0) _ rfl (row_put g1) Tryd.underlying34 rfl (info34 _), ?_, row_below g3 (Nat.le_refl _) _⟩
      rw [bA_congr (g := s.testBit) (fun i hi => by simp [hi])]
end Go.Proofs.YtbgbnaicbfakoaaDoor
