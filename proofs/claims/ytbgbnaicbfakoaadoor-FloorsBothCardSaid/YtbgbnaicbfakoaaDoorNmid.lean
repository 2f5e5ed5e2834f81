/- The document's answer for floors, walked: the nearest one (a floor of them). -/
import Derived.Test.YtbgbnaicbfakoaaDoorRef4
namespace Go.Proofs.YtbgbnaicbfakoaaDoor
open Go.RowKit Go.Shelf
attribute [local go_sem ↓ high] zero34
set_option maxRecDepth 100000 in
set_option maxHeartbeats 4000000 in
theorem rnear_mid (s : Nat) (hs : s < 2 ^ 64) (a : Nat) (ha : a ≤ 63) (w : World) :
    Calls Tryd.prog 11 #[.int .u64 s, .int .i64 (a : Int)] w fun e w' => e = .returned (.int .i64 (nearR s a)) ∧ Below w.heap.size w w' := by
  go_enter Tryd.func11, Tryd.ntmps11
  go_wp2_with fail
  refine (all_calls s hs w).mono ?_
  rintro e w1 ⟨rfl, hb1⟩
  have hst := store64 (P := Tryd.prog) (w := w1.alloc (.cells (bA fun _ => false) 34)) (g := w1.heap.size) (t := 34) (heap_alloc_new w1 _) (bA_size _) s.testBit
  go_wp2
  obtain ⟨w2, hw2⟩ : ∃ w2, (w1.alloc (.cells (bA fun _ => false) 34)).setRow w1.heap.size (bA s.testBit) = w2 := ⟨_, rfl⟩
  have h1 : w2.heap[w1.heap.size]? = some (.cells (bA s.testBit) 34 (0, 0)) := by rw [← hw2]; exact row_put (heap_alloc_new _ _)
  have h3 : Below w.heap.size w w2 := by rw [← hw2]; exact row_below (d_balloc hb1 hb1.size _) hb1.size _
  rw [hw2]
  clear hw2 hst hb1
  generalize w1.heap.size = N at *
  go_loopw [6] (fun i wr => ∃ k : Nat, k ≤ 64 ∧ i = .int .i64 k ∧ (∀ j, j < k → nearAt s a j = none) ∧ wr.heap[N]? = some (.cells (bA s.testBit) 34 (0, 0)) ∧ Below w.heap.size w wr) (fun i _ => 64 - (intOf i).toNat)
  case atStart => exact ⟨0, by omega, rfl, fun j hj => by omega, h1, h3⟩
  case round =>
    obtain ⟨k, hk, rfl, hno, hN, hB⟩ := hrel
    clear h1 h3
    have HNO := Lib.hid hno
    clear hno
    by_cases h : k < 64
    · have c1 : ∀ i, i < 64 → wr.cell? ⟨N, i, none⟩ = some (.bool (s.testBit i)) := fun i hi => (d_cell hN i).trans (bA_get _ _ hi)
      have HC := Lib.hid c1
      have HNN := Lib.hid hN
      have HBB := Lib.hid hB
      clear c1 hN hB
      have hdef := Lib.hid (show nearAt s a k = if k ≤ a ∧ s.testBit (a - k) = true then some (a - k) else if a + k < 64 ∧ s.testBit (a + k) = true then some (a + k) else none from rfl)
      have hfind := Lib.hid (fun (x : Nat) (hx : nearAt s a k = some x) => nearR_some s a k h HNO.out x hx)
      obtain ⟨P, hP⟩ : ∃ P : Int, (a : Int) - k = P := ⟨_, rfl⟩
      obtain ⟨Q, hQ⟩ : ∃ P : Int, (a : Int) + k = P := ⟨_, rfl⟩
      have p1 : P ≤ 63 := by omega
      have p2 : -64 ≤ P := by omega
      have p3 : 0 ≤ Q := by omega
      have p4 : Q ≤ 127 := by omega
      by_cases hd : k ≤ a ∧ s.testBit (a - k) = true
      · obtain ⟨hd1, hd2⟩ := hd
        have p5 : 0 ≤ P := by omega
        have e1 := HC.out P.toNat (by omega)
        rw [show P.toNat = a - k by omega, hd2, show a - k = P.toNat by omega] at e1
        have HF := Lib.hid (show P = nearR s a by have := hfind.out (a - k) (by rw [hdef.out, if_pos ⟨hd1, hd2⟩]); omega)
        clear hd2 hd1
        go_wp2
        go_ret
        exact ⟨congrArg (fun v => Ending.returned (.int .i64 v)) HF.out, HBB.out⟩
      · have r1 : 0 ≤ P → s.testBit P.toNat = false := fun h1 => Bool.eq_false_iff.2 fun e => hd ⟨by omega, by rw [show a - k = P.toNat by omega]; exact e⟩
        by_cases hd4 : a + k < 64 ∧ s.testBit (a + k) = true
        · obtain ⟨hd1, hd2⟩ := hd4
          have p6 : Q < 64 := by omega
          have e1 := HC.out Q.toNat (by omega)
          rw [show Q.toNat = a + k by omega, hd2, show a + k = Q.toNat by omega] at e1
          have HF := Lib.hid (show Q = nearR s a by have := hfind.out (a + k) (by rw [hdef.out, if_neg hd, if_pos ⟨hd1, hd2⟩]); omega)
          clear hd2 hd1 hd
          by_cases p5 : 0 ≤ P
          · have e3 := HC.out P.toNat (by omega)
            rw [r1 p5] at e3
            clear r1
            go_wp2
            go_ret
            exact ⟨congrArg (fun v => Ending.returned (.int .i64 v)) HF.out, HBB.out⟩
          · clear r1
            go_wp2
            go_ret
            exact ⟨congrArg (fun v => Ending.returned (.int .i64 v)) HF.out, HBB.out⟩
        · have hnn : ∀ j, j < k + 1 → nearAt s a j = none := fun j hj => by
            rcases Nat.lt_or_ge j k with hjk | hjk
            · exact HNO.out j hjk
            · obtain rfl : j = k := by omega
              rw [hdef.out, if_neg hd, if_neg hd4]
          have HNN2 := Lib.hid hnn
          clear hnn
          have r2 : Q < 64 → s.testBit Q.toNat = false := fun h1 => Bool.eq_false_iff.2 fun e => hd4 ⟨by omega, by rw [show a + k = Q.toNat by omega]; exact e⟩
          clear hd hd4
          by_cases p5 : 0 ≤ P
          · have e3 := HC.out P.toNat (by omega)
            rw [r1 p5] at e3
            by_cases p6 : Q < 64
            · have e5 := HC.out Q.toNat (by omega)
              rw [r2 p6] at e5
              clear r1 r2
              go_wp2
              go_roundw
              case rel => exact ⟨k + 1, by omega, by go_num, HNN2.out, HNN.out, HBB.out⟩
              case measure => simp [intOf]; omega
            · clear r1 r2
              go_wp2
              go_roundw
              case rel => exact ⟨k + 1, by omega, by go_num, HNN2.out, HNN.out, HBB.out⟩
              case measure => simp [intOf]; omega
          · by_cases p6 : Q < 64
            · have e5 := HC.out Q.toNat (by omega)
              rw [r2 p6] at e5
              clear r1 r2
              go_wp2
              go_roundw
              case rel => exact ⟨k + 1, by omega, by go_num, HNN2.out, HNN.out, HBB.out⟩
              case measure => simp [intOf]; omega
            · clear r1 r2
              go_wp2
              go_roundw
              case rel => exact ⟨k + 1, by omega, by go_num, HNN2.out, HNN.out, HBB.out⟩
              case measure => simp [intOf]; omega
    · obtain rfl : k = 64 := by omega
      have HF := Lib.hid (nearR_none s a HNO.out)
      go_wp2
      go_ret
      exact ⟨congrArg (fun v => Ending.returned (.int .i64 v)) HF.out.symm, hB⟩
end Go.Proofs.YtbgbnaicbfakoaaDoor
