/- The document's answer for floors, walked: the nearest one (a floor below them). -/
import Derived.Test.YtbgbnaicbfakoaaDoorRef4
namespace Go.Proofs.YtbgbnaicbfakoaaDoor
open Go.RowKit Go.Shelf
attribute [local go_sem ↓ high] zero34
set_option maxRecDepth 100000 in
set_option maxHeartbeats 4000000 in
theorem rnear_lo (s : Nat) (hs : s < 2 ^ 64) (f : Int) (hf : f < 0) (w : World) :
    Calls Tryd.prog 11 #[.int .u64 s, .int .i64 f] w fun e w' => e = .returned (.int .i64 (nearR s 0)) ∧ Below w.heap.size w w' := by
  go_enter Tryd.func11, Tryd.ntmps11
  go_wp2_with fail
  refine (all_calls s hs w).mono ?_
  rintro e w1 ⟨rfl, hb1⟩
  have hst := store64 (P := Tryd.prog) (w := w1.alloc (.cells (bA fun _ => false) 34)) (g := w1.heap.size) (t := 34) (heap_alloc_new w1 _) (bA_size _) s.testBit
  go_wp2
  obtain ⟨w2, hw2⟩ : ∃ w2, (w1.alloc (.cells (bA fun _ => false) 34)).setRow w1.heap.size (bA s.testBit) = w2 := ⟨_, rfl⟩
  have h1 : w2.heap[w1.heap.size]? = some (.cells (bA s.testBit) 34 (0, 0)) := by rw [← hw2]; exact row_put (heap_alloc_new _ _)
  have h3 : Below w.heap.size w w2 := by rw [← hw2]; exact row_below (d_balloc hb1 hb1.size _) hb1.size _
  rw [hw2]
  clear hw2 hst hb1
  generalize w1.heap.size = N at *
  go_loopw [6] (fun i wr => ∃ k : Nat, k ≤ 64 ∧ i = .int .i64 k ∧ (∀ j, j < k → nearAt s 0 j = none) ∧ wr.heap[N]? = some (.cells (bA s.testBit) 34 (0, 0)) ∧ Below w.heap.size w wr) (fun i _ => 64 - (intOf i).toNat)
  case atStart => exact ⟨0, by omega, rfl, fun j hj => by omega, h1, h3⟩
  case round =>
    obtain ⟨k, hk, rfl, hno, hN, hB⟩ := hrel
    clear h1 h3
    have HNO := Lib.hid hno
    clear hno
    by_cases h : k < 64
    · have c1 : ∀ i, i < 64 → wr.cell? ⟨N, i, none⟩ = some (.bool (s.testBit i)) := fun i hi => (d_cell hN i).trans (bA_get _ _ hi)
      have HC := Lib.hid c1
      have HNN := Lib.hid hN
      have HBB := Lib.hid hB
      clear c1 hN hB
      have hdef := Lib.hid (show nearAt s 0 k = if k ≤ 0 ∧ s.testBit (0) = true then some 0 else if k < 64 ∧ s.testBit (k) = true then some (k) else none by unfold nearAt; simp only [Nat.zero_sub, Nat.zero_add])
      have hfind := Lib.hid (fun (x : Nat) (hx : nearAt s 0 k = some x) => nearR_some s 0 k h HNO.out x hx)
      by_cases hd : k ≤ 0 ∧ s.testBit (0) = true
      · obtain ⟨hd1, hd2⟩ := hd
        obtain rfl : k = 0 := by omega
        have e1 := HC.out (0) (by omega)
        rw [hd2] at e1
        have HF := Lib.hid (hfind.out (0) (by rw [hdef.out, if_pos ⟨hd1, hd2⟩]))
        clear hd2
        go_wp2
        go_ret
        exact ⟨congrArg (fun v => Ending.returned (.int .i64 v)) (by have := HF.out; omega), HBB.out⟩
      · by_cases hd4 : k < 64 ∧ s.testBit (k) = true
        · obtain ⟨hd1, hd2⟩ := hd4
          have e1 := HC.out (k) (by omega)
          rw [hd2] at e1
          have HF := Lib.hid (hfind.out (k) (by rw [hdef.out, if_neg hd, if_pos ⟨hd1, hd2⟩]))
          by_cases hd3 : k = 0
          · exact absurd ⟨Nat.le_of_eq hd3, by rw [hd3] at hd2; exact hd2⟩ hd
          · clear hd hd2
            go_wp2
            go_ret
            exact ⟨congrArg (fun v => Ending.returned (.int .i64 v)) (by have := HF.out; omega), HBB.out⟩
        · have hnn : ∀ j, j < k + 1 → nearAt s 0 j = none := fun j hj => by
            rcases Nat.lt_or_ge j k with hjk | hjk
            · exact HNO.out j hjk
            · obtain rfl : j = k := by omega
              rw [hdef.out, if_neg hd, if_neg hd4]
          have HNN2 := Lib.hid hnn
          clear hnn
          have r1 : k ≤ 0 → s.testBit (0) = false := fun h1 => by simpa using fun e => hd ⟨h1, e⟩
          have r2 : k < 64 → s.testBit (k) = false := fun h1 => by simpa using fun e => hd4 ⟨h1, e⟩
          clear hd hd4
          by_cases hd3 : k = 0
          · have e3 := HC.out 0 (by omega)
            rw [r1 (Nat.le_of_eq hd3)] at e3
            by_cases hd6 : k < 64
            · have e5 := HC.out (k) (by omega)
              rw [r2 hd6] at e5
              clear r1 r2
              go_wp2
              go_roundw
              case rel => exact ⟨k + 1, by omega, by go_num, HNN2.out, HNN.out, HBB.out⟩
              case measure => simp [intOf]; omega
            · exact absurd h hd6
          · by_cases hd6 : k < 64
            · have e5 := HC.out (k) (by omega)
              rw [r2 hd6] at e5
              clear r1 r2
              go_wp2
              go_roundw
              case rel => exact ⟨k + 1, by omega, by go_num, HNN2.out, HNN.out, HBB.out⟩
              case measure => simp [intOf]; omega
            · exact absurd h hd6
    · obtain rfl : k = 64 := by omega
      have HF := Lib.hid (nearR_none s 0 HNO.out)
      go_wp2
      go_ret
      exact ⟨by rw [HF.out]; rfl, hB⟩

end Go.Proofs.YtbgbnaicbfakoaaDoor
