/- The document's answer for floors, walked: the number of a set, the list of its floors. -/
import Derived.Test.YtbgbnaicbfakoaaDoorRef
import Derived.Test.YtbgbnaicbfakoaaDoorOwn
import Derived.BigQuiet
namespace Go.Proofs.YtbgbnaicbfakoaaDoor
open Go.RowKit Go.Shelf

/-- The number of the j last truths. -/
def numV (f : Nat → Bool) : Nat → Nat
  | 0 => 0
  | j + 1 => 2 * numV f j + (if f (63 - j) then 1 else 0)
theorem numV_lt (f : Nat → Bool) : ∀ j, numV f j < 2 ^ j
  | 0 => by simp [numV]
  | j + 1 => by have := numV_lt f j; rw [numV, Nat.pow_succ]; split <;> omega
theorem numV_bit (f : Nat → Bool) : ∀ j, j ≤ 64 → ∀ i, i < j → (numV f j).testBit i = f (64 - j + i)
  | 0, _, i, h => by omega
  | j + 1, hj, 0, _ => by
    rw [numV, show 64 - (j + 1) + 0 = 63 - j from by omega, Nat.testBit_zero]
    cases f (63 - j) <;> simp <;> omega
  | j + 1, hj, i + 1, h => by
    rw [numV, Nat.testBit_succ, show (2 * numV f j + if f (63 - j) = true then 1 else 0) / 2 = numV f j from by split <;> omega, numV_bit f j (by omega) i (by omega)]
    congr 1; omega
def numB (f : Nat → Bool) : Nat := numV f 64
theorem numB_lt (f : Nat → Bool) : numB f < 2 ^ 64 := numV_lt f 64
theorem numB_bit (f : Nat → Bool) (i : Nat) (h : i < 64) : (numB f).testBit i = f i := by
  unfold numB; rw [numV_bit f 64 (Nat.le_refl _) i h]; simp
theorem numB_eq {f : Nat → Bool} {x : Nat} (hx : x < 2 ^ 64) (h : ∀ i, i < 64 → x.testBit i = f i) : numB f = x :=
  ext64 (numB_lt f) hx fun i hi => by rw [numB_bit f i hi, h i hi]

set_option maxRecDepth 100000 in
set_option maxHeartbeats 2000000 in
theorem number_calls (f : Nat → Bool) (w : World) :
    Calls Tryd.prog 14 #[.agg (bA f)] w fun e w' => e = .returned (.int .u64 (numB f)) ∧ Below w.heap.size w w' := by
  have hb : w.heap.size < (w.alloc (.cells (bA f) 34)).heap.size := by simp
  have hx : (w.alloc (.cells (bA f) 34)).heap[w.heap.size]? = some (.cells (bA f) 34 (0, 0)) := heap_alloc_new w _
  go_enter Tryd.func14, Tryd.ntmps14
  go_wp2
  go_loopw [3, 4] (fun v i wr => ∃ j : Nat, j ≤ 64 ∧ v = .int .u64 (numV f j : Nat) ∧ i = .int .i64 (63 - (j : Int)) ∧ wr = w.alloc (.cells (bA f) 34)) (fun _ i _ => (intOf i + 1).toNat)
  case atStart => exact ⟨0, by omega, rfl, rfl, rfl⟩
  case round =>
    obtain ⟨j, hj, rfl, rfl, rfl⟩ := hrel
    by_cases h : j < 64
    · have c1 : (w.alloc (.cells (bA f) 34)).cell? ⟨w.heap.size, 63 - j, none⟩ = some (.bool (f (63 - j))) := (d_cell hx (63 - j)).trans (bA_get _ _ (by omega))
      have hj2 : ((63 : Int) - (j : Int)).toNat = 63 - j := by omega
      have hlt := numV_lt f j
      have hl2 : (2 : Nat) ^ j ≤ 2 ^ 63 := Nat.pow_le_pow_right (by omega) (by omega)
      have hnx : numV f (j + 1) = 2 * numV f j + (if f (63 - j) then 1 else 0) := rfl
      have HN := Lib.hid hnx
      clear hnx
      generalize numV f j = x at *
      cases hq : f (63 - j) with
      | true =>
        rw [hq] at c1
        have HN2 := Lib.hid (show numV f (j + 1) = 2 * x + 1 by rw [HN.out, hq]; rfl)
        clear hq
        go_wp2
        go_roundw
        case rel => exact ⟨j + 1, by omega, by rw [HN2.out]; congr 1, by congr 1; omega, trivial⟩
        case measure => simp [intOf]; omega
      | false =>
        rw [hq] at c1
        have HN2 := Lib.hid (show numV f (j + 1) = 2 * x by rw [HN.out, hq]; rfl)
        clear hq
        go_wp2
        go_roundw
        case rel => exact ⟨j + 1, by omega, by rw [HN2.out]; congr 1, by congr 1; omega, trivial⟩
        case measure => simp [intOf]; omega
    · obtain rfl : j = 64 := by omega
      go_wp2
      go_ret
      exact ⟨rfl, d_balloc (Below.refl _ _) (Nat.le_refl _) _⟩

set_option maxRecDepth 100000 in
set_option maxHeartbeats 2000000 in
theorem same_calls (xs ys : List Int) (p q : Option Addr) (c d : Nat) (w : World) (hx : IntsAt w p xs) (hy : IntsAt w q ys) (hm : xs.length < 2 ^ 60) (hn : ys.length < 2 ^ 60) :
    Calls Tryd.prog 12 #[.slice p xs.length c, .slice q ys.length d] w fun e w' => e = .returned (.bool (decide (xs = ys))) ∧ Below w.heap.size w w' := by
  by_cases hl : ¬ xs.length = ys.length
  · have hne : ¬ ((xs.length : Int) = ys.length) := by omega
    have hxy : xs ≠ ys := fun e => hl (by rw [e])
    go_enter Tryd.func12, Tryd.ntmps12
    go_wp2
    all_goals (first | (exfalso; omega) | (go_ret; exact ⟨by rw [decide_eq_false hxy]; rfl, Below.refl _ _⟩))
  · replace hl : xs.length = ys.length := Classical.not_not.1 hl
    obtain ⟨n, hn'⟩ : ∃ n, n = xs.length := ⟨_, rfl⟩
    rw [← hl, ← hn']
    have hxl := Lib.hid hn'
    have hyl := Lib.hid (hn'.trans hl)
    have hm' : n < 2 ^ 60 := by omega
    clear hn' hl hm hn
    go_enter Tryd.func12, Tryd.ntmps12
    go_wp2
    go_loopw [5] (fun i wr => ∃ k : Nat, k ≤ n ∧ i = .int .i64 k ∧ xs.take k = ys.take k ∧ Below w.heap.size w wr) (fun i _ => n - (intOf i).toNat)
    case atStart => exact ⟨0, Nat.zero_le _, rfl, by simp, Below.refl _ _⟩
    case round =>
      obtain ⟨k, hk, rfl, he, hb⟩ := hrel
      by_cases h : k < n
      · have hkx : k < xs.length := by have := hxl.out; omega
        have hky : k < ys.length := by have := hyl.out; omega
        obtain ⟨b1, o1, rfl, c1⟩ := hx k hkx
        obtain ⟨b2, o2, rfl, c2⟩ := hy k hky
        replace c1 := d_cell_below hb c1
        replace c2 := d_cell_below hb c2
        have he2 : ∀ (e : xs[k] = ys[k]), xs.take (k + 1) = ys.take (k + 1) := fun e => by rw [List.take_succ_eq_append_getElem hkx, List.take_succ_eq_append_getElem hky, he, e]
        have hne2 : xs[k] ≠ ys[k] → xs ≠ ys := fun h1 h2 => h1 (by simp [h2])
        have HE := Lib.hid he2
        have HNE := Lib.hid hne2
        generalize xs[k] = x at *
        generalize ys[k] = y at *
        clear he2 hne2 he hkx hky
        by_cases hxy : x = y
        · subst hxy
          go_wp2
          repeat (go_quiet (fail); try go_wp2)
          go_roundw
          case rel => exact ⟨k + 1, by omega, by go_num, HE.out trivial, d_drewN hb _⟩
          case measure => simp [intOf]; omega
        · go_wp2
          repeat (go_quiet (fail); try go_wp2)
          go_ret
          exact ⟨by rw [decide_eq_false (HNE.out hxy)]; rfl, d_drewN hb _⟩
      · obtain rfl : k = n := by omega
        have hxy : xs = ys := by have h1 := hxl.out; have h2 := hyl.out; rwa [List.take_of_length_le (by omega), List.take_of_length_le (by omega)] at he
        have HXY := Lib.hid hxy
        clear hxy he
        go_wp2
        go_ret
        exact ⟨by rw [decide_eq_true HXY.out]; rfl, hb⟩
end Go.Proofs.YtbgbnaicbfakoaaDoor
