/- The document's answer for floors, walked: the list of the floors, the nearest one. -/
import Derived.Test.YtbgbnaicbfakoaaDoorRef2
namespace Go.Proofs.YtbgbnaicbfakoaaDoor
open Go.RowKit Go.Shelf
attribute [local go_sem ↓ high] zero34

def stepL (s : Nat) (fr : Int) (up : Bool) (i : Nat) : List Nat :=
  (if s.testBit i && up && decide (fr ≤ i) then [i] else []) ++ (if s.testBit (63 - i) && !up && decide (((63 - i : Nat) : Int) ≤ fr) then [63 - i] else [])
def listK (s : Nat) (fr : Int) (up : Bool) (k : Nat) : List Nat := (List.range k).flatMap (stepL s fr up)
def toI (l : List Nat) : List Int := l.map fun (x : Nat) => (x : Int)
theorem listK_succ (s : Nat) (fr : Int) (up : Bool) (k : Nat) : listK s fr up (k + 1) = listK s fr up k ++ stepL s fr up k := by
  unfold listK; rw [List.range_succ, List.flatMap_append]; simp
theorem stepL_len (s : Nat) (fr : Int) (up : Bool) (k : Nat) : (stepL s fr up k).length ≤ 2 := by
  unfold stepL; rw [List.length_append]; split <;> split <;> simp
theorem listK_len (s : Nat) (fr : Int) (up : Bool) : ∀ k, (listK s fr up k).length ≤ 2 * k
  | 0 => by simp [listK]
  | k + 1 => by have := listK_len s fr up k; have := stepL_len s fr up k; rw [listK_succ, List.length_append]; omega

theorem OI.cast {w : World} {base : Nat} {ok : Nat → Prop} {v : Value} {l l' : List Int} (h : OI w base ok v l) (e : l = l') : OI w base ok v l' := e ▸ h
theorem below_own {w wr w4 : World} {ok : Nat → Prop} {v : Value} {l : List Int} {o : Obj} (hB : Below w.heap.size w wr) (ho : OI wr w.heap.size ok v l) (hg : (wr.alloc o).grownBy w4 v.ownBlock) : Below w.heap.size w w4 :=
  (d_balloc hB hB.size o).grown hg (by have := hB.size; simp; omega) fun k hk => (ho.cells k hk).1

set_option maxRecDepth 100000 in
set_option maxHeartbeats 4000000 in
theorem list_calls (s : Nat) (hs : s < 2 ^ 64) (fr : Int) (up : Bool) (w : World) :
    Calls Tryd.prog 9 #[.int .u64 s, .int .i64 fr, .bool up] w fun e w' => ∃ v, e = .returned v ∧ OI w' w.heap.size (fun k => w.heap.size ≤ k) v (toI (listK s fr up 64)) ∧ Below w.heap.size w w' := by
  go_enter Tryd.func9, Tryd.ntmps9
  go_wp2_with fail
  refine (all_calls s hs w).mono ?_
  rintro e w1 ⟨rfl, hb1⟩
  have hst := store64 (P := Tryd.prog) (w := w1.alloc (.cells (bA fun _ => false) 34)) (g := w1.heap.size) (t := 34) (heap_alloc_new w1 _) (bA_size _) s.testBit
  go_wp2
  obtain ⟨w2, hw2⟩ : ∃ w2, (w1.alloc (.cells (bA fun _ => false) 34)).setRow w1.heap.size (bA s.testBit) = w2 := ⟨_, rfl⟩
  have h1 : w2.heap[w1.heap.size]? = some (.cells (bA s.testBit) 34 (0, 0)) := by rw [← hw2]; exact row_put (heap_alloc_new _ _)
  have h2 : w2.heap.size = w1.heap.size + 1 := by rw [← hw2]; simp [World.setRow]
  have h3 : Below w.heap.size w w2 := by rw [← hw2]; exact row_below (d_balloc hb1 hb1.size _) hb1.size _
  have hs1 : w.heap.size ≤ w1.heap.size := hb1.size
  rw [hw2]
  clear hw2 hst
  have ho0 : OI (w2.alloc (.cells #[] 3)) w.heap.size (fun k => w.heap.size ≤ k) (.slice (some ⟨w2.heap.size, 0, none⟩) 0 0) (toI (listK s fr up 0)) := OI.empty w2 _ _ h3.size h3.size
  have h1' : (w2.alloc (.cells #[] 3)).heap[w1.heap.size]? = some (.cells (bA s.testBit) 34 (0, 0)) := d_alloc h1 _
  have h3' : Below w.heap.size w (w2.alloc (.cells #[] 3)) := d_balloc h3 h3.size _
  rw [h2] at ho0
  generalize w2.alloc (.cells #[] 3) = w3 at *
  clear h1 h2 h3 hb1
  generalize w1.heap.size = N at *
  go_loopw [8, 9] (fun v i wr => ∃ k : Nat, k ≤ 64 ∧ i = .int .i64 k ∧ OI wr w.heap.size (fun k => w.heap.size ≤ k) v (toI (listK s fr up k)) ∧ wr.heap[N]? = some (.cells (bA s.testBit) 34 (0, 0)) ∧ Below w.heap.size w wr) (fun _ i _ => 64 - (intOf i).toNat)
  case atStart => exact ⟨0, by omega, rfl, ho0, h1', h3'⟩
  case round =>
    obtain ⟨k, hk, rfl, ho, hN, hB⟩ := hrel
    clear ho0 h1' h3'
    by_cases h : k < 64
    · have c1 : wr.cell? ⟨N, k, none⟩ = some (.bool (s.testBit k)) := (d_cell hN k).trans (bA_get _ _ h)
      have c2 : wr.cell? ⟨N, 63 - k, none⟩ = some (.bool (s.testBit (63 - k))) := (d_cell hN (63 - k)).trans (bA_get _ _ (by omega))
      have hj2 : ((63 : Int) - (k : Int)).toNat = 63 - k := by omega
      have hlen : (toI (listK s fr up k)).length < 2 ^ 40 := by have := listK_len s fr up k; simp [toI]; omega
      have hbs := hB.size
      have HS := Lib.hid (listK_succ s fr up k)
      have HST := Lib.hid (show stepL s fr up k = (if s.testBit k && up && decide (fr ≤ k) then [k] else []) ++ (if s.testBit (63 - k) && !up && decide (((63 - k : Nat) : Int) ≤ fr) then [63 - k] else []) from rfl)
      have hle2 : (((63 - k : Nat) : Int) ≤ fr) = ((63 : Int) - k ≤ fr) := by rw [show ((63 - k : Nat) : Int) = 63 - (k : Int) by omega]
      have HLE := Lib.hid hle2
      clear hle2
      have HO := Lib.hid ho
      have HNN := Lib.hid hN
      have HBB := Lib.hid hB
      have HL := Lib.hid hlen
      clear ho hN hB hlen
      cases up with
      | true =>
        generalize s.testBit k = x at *
        generalize s.testBit (63 - k) = y at *
        by_cases hc : x = true ∧ fr ≤ k
        · obtain ⟨rfl, hc⟩ := hc
          have he : stepL s fr true k = [k] := by rw [HST.out]; simp [hc]
          have HE := Lib.hid he
          clear he HST
          cases y
          all_goals
            go_wp2_with (at_builtin; refine app_one rfl (.tmp 28) (.tmp 30) rfl w.heap.size _ u8 _ (HO.out.alloc (.cells #[.int .i64 (k : Int)] 3)) (by exact rfl) wr.heap.size (k : Int) (by exact rfl) (heap_alloc_new wr _) HL.out (by simp; omega) (by simp; omega) ?_; intro g cap w4 ho4 hg4 hlie; have hN4 := (hg4.block N (by have := d_lt HNN.out; simp; omega) (fun e => (HO.out.alloc _).ne (d_alloc HNN.out (.cells #[.int .i64 (k : Int)] 3)) (by decide) e.symm)).trans ((Below.heap_alloc wr _ N (d_lt HNN.out)).trans HNN.out); have hB4 := below_own HBB.out HO.out hg4; have c4 : w4.cell? ⟨N, 63 - k, none⟩ = some (.bool _) := (d_cell hN4 (63 - k)).trans ((d_cell HNN.out (63 - k)).symm.trans c2))
            go_roundw
            case rel => exact ⟨k + 1, by omega, by go_num, by rw [HS.out, HE.out]; simpa [toI] using ho4, hN4, hB4⟩
            case measure => simp [intOf]; omega
        · have he : stepL s fr true k = [] := by
            rw [HST.out]
            by_cases hx : x = true
            · have : ¬ fr ≤ (k : Int) := fun e => hc ⟨hx, e⟩
              simp [this]
            · simp [hx]
          have HE := Lib.hid he
          clear he HST
          cases x
          all_goals cases y
          all_goals try (have hc2 : ¬ fr ≤ (k : Int) := fun e => hc ⟨rfl, e⟩)
          all_goals
            clear hc
            go_wp2
            go_roundw
            case rel => exact ⟨k + 1, by omega, by go_num, HO.out.cast (by rw [HS.out, HE.out]; simp), HNN.out, HBB.out⟩
            case measure => simp [intOf]; omega
      | false =>
        generalize s.testBit k = x at *
        generalize s.testBit (63 - k) = y at *
        by_cases hc : y = true ∧ (63 : Int) - k ≤ fr
        · obtain ⟨rfl, hc⟩ := hc
          have he : stepL s fr false k = [63 - k] := by rw [HST.out]; simp [HLE.out, hc]
          have HE := Lib.hid he
          clear he HST
          cases x
          all_goals
            go_wp2_with (at_builtin; refine app_one rfl (.tmp 46) (.tmp 49) rfl w.heap.size _ u8 _ (HO.out.alloc (.cells #[.int .i64 (63 - (k : Int))] 3)) (by exact rfl) wr.heap.size (63 - (k : Int)) (by exact rfl) (heap_alloc_new wr _) HL.out (by simp; omega) (by simp; omega) ?_; intro g cap w4 ho4 hg4 hlie; have hN4 := (hg4.block N (by have := d_lt HNN.out; simp; omega) (fun e => (HO.out.alloc _).ne (d_alloc HNN.out (.cells #[.int .i64 (63 - (k : Int))] 3)) (by decide) e.symm)).trans ((Below.heap_alloc wr _ N (d_lt HNN.out)).trans HNN.out); have hB4 := below_own HBB.out HO.out hg4)
            go_roundw
            case rel => exact ⟨k + 1, by omega, by go_num, by rw [HS.out, HE.out]; refine ho4.cast ?_; simp [toI]; omega, hN4, hB4⟩
            case measure => simp [intOf]; omega
        · have he : stepL s fr false k = [] := by
            rw [HST.out]
            by_cases hx : y = true
            · have : ¬ (63 : Int) - k ≤ fr := fun e => hc ⟨hx, e⟩
              simp [HLE.out, this]
            · simp [hx]
          have HE := Lib.hid he
          clear he HST
          cases x
          all_goals cases y
          all_goals try (have hc2 : ¬ (63 : Int) - k ≤ fr := fun e => hc ⟨rfl, e⟩)
          all_goals
            clear hc
            go_wp2
            go_roundw
            case rel => exact ⟨k + 1, by omega, by go_num, HO.out.cast (by rw [HS.out, HE.out]; simp), HNN.out, HBB.out⟩
            case measure => simp [intOf]; omega
    · obtain rfl : k = 64 := by omega
      go_wp2
      go_ret
      exact ⟨_, rfl, ho, hB⟩
end Go.Proofs.YtbgbnaicbfakoaaDoor
