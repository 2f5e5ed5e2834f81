/- The two iterators of a set hand out its floors from one on, rising, and falling, for whatever body. -/
import Derived.Test.YtbgbnaicbfakoaaDoorB1
import Derived.Test.YtbgbnaicbfakoaaDoorIter
import Derived.Test.YtbgbnaicbfakoaaDoorW0
import Derived.OwnWalkIn
import Derived.TacticsInMore
import Derived.LoopNIn
import Derived.LoopIn
import Derived.StillTailTactics
import Derived.Deep.QuietTactic
namespace Go.Proofs.YtbgbnaicbfakoaaDoor
open Go.RowKit Go.Shelf Go.Proofs.YtbgbnaicbfakoaaDoor.Iter
attribute [local go_sem] Oper.semAt_some

def upN (s : Nat) (from_ : Int) : Nat := andn s (toN from_)
def downN (s : Nat) (from_ : Int) : Nat := if from_ < 64 then s &&& toN (from_ + 1) else s
def upX (s : Nat) (from_ : Int) : List Nat := elems (upN s from_)
def downX (s : Nat) (from_ : Int) : List Nat := (elems (downN s from_)).reverse
def vals (l : List Nat) : List (Array Value) := l.map fun (f : Nat) => #[.int .i64 (f : Int)]
theorem upN_lt {s : Nat} (h : s < 2 ^ 64) (f : Int) : upN s f < 2 ^ 64 := andn_lt h
theorem downN_lt {s : Nat} (h : s < 2 ^ 64) (f : Int) : downN s f < 2 ^ 64 := by unfold downN; split; exact Nat.lt_of_le_of_lt Nat.and_le_left h; exact h

theorem tab_keeps {S T : Nat → Prop} {W W' : World} (h : Keeps S T W W') (h0 : S 0) (ht : TabAt 0 Lib.deBruijn64tab W) : TabAt 0 Lib.deBruijn64tab W' := fun j hj => (h.cell (p := ⟨0, j, none⟩) h0).trans (ht j hj)

set_option maxRecDepth 100000 in
set_option maxHeartbeats 4000000 in
theorem up_iter (n : Nat) (s : Nat) (hs : s < 2 ^ 64) (fr : Int) (b1 b2 : Nat) (w : World) (S T : Nat → Prop) (hS0 : S 0) (hS1 : S b1) (hS2 : S b2)
    (hb1 : w.heap[b1]? = some (.cells #[.int .u64 s] 26 (0, 0))) (hb2 : w.heap[b2]? = some (.cells #[.int .i64 fr] 3 (0, 0))) (hT : TabAt 0 Lib.deBruijn64tab w) :
    Iter (n + 1) Tryd.prog 20 #[.pointer (some ⟨b1, 0, none⟩), .pointer (some ⟨b2, 0, none⟩)] S T (vals (upX s fr)) w := by
  intro l J Jx W hW hJ hY h0
  have hTW := Lib.hid (tab_keeps hW hS0 hT)
  have k1 : W.cell? ⟨b1, 0, none⟩ = some (.int .u64 s) := (d_cell ((hW.same b1 hS1).trans hb1) 0).trans rfl
  have k2 : W.cell? ⟨b2, 0, none⟩ = some (.int .i64 fr) := (d_cell ((hW.same b2 hS2).trans hb2) 0).trans rfl
  have hu := bits_andNot_u64_nat s (toN fr) (by omega) (by have := toN_lt fr; omega)
  have hul := upN_lt hs fr
  refine callsIn_of_wp Tryd.func20 rfl trivial ?_ rfl
  simp only [Tryd.ntmps20, List.size_toArray, List.length_cons, List.length_nil, Nat.reduceAdd, Nat.reduceSub, Array.replicate_succ, Array.replicate_zero, List.push_toArray, List.append_toArray, List.nil_append, List.cons_append]
  gi_wp2
  refine wpIn_wide.2 ?_
  go_quiet ((go_at_call 15; exact Calls.quiet_of_same (to_calls fr _)))
  gi_wp2
  gi_loopw [4] (fun v wr => ∃ k x : Nat, v = .int .u64 x ∧ x < 2 ^ 64 ∧ k ≤ (upX s fr).length ∧ elems x = (upX s fr).drop k ∧ J k wr ∧ Keeps S T0 W wr) (fun v _ => (elems (intOf v).toNat).length)
  case atStart => exact ⟨0, upN s fr, rfl, hul, Nat.zero_le _, rfl, hJ _ _ _ none h0 (d_grown (d_drewN (Below.refl _ _) _) none) (by simp), ⟨rfl, rfl, rfl, Nat.le_refl _, fun _ _ => rfl, fun _ _ _ _ _ h => h⟩⟩
  case round =>
    obtain ⟨k, x, rfl, hx, hk, he, hJk, hkw⟩ := hrel
    clear k1 k2 hu hul
    by_cases hx0 : x = 0
    · subst hx0
      have hkl : k = (upX s fr).length := by
        rw [elems_zero] at he; have := congrArg List.length he; simp at this; omega
      clear he
      gi_wp2
      go_end0
      exact ⟨⟨_, rfl⟩, .inl (by rw [show (vals (upX s fr)).length = (upX s fr).length from by simp [vals], ← hkl]; exact hJk)⟩
    · have hfr := elems_front x (x &&& (x - 1)) hx0 hx (fun i _ => low_out x hx0 hx i)
      have hkl : k < (upX s fr).length := by
        rw [hfr] at he; have := congrArg List.length he; simp at this; omega
      have hkv : k < (vals (upX s fr)).length := by simpa [vals] using hkl
      have hd : (upX s fr).drop k = (upX s fr)[k] :: (upX s fr).drop (k + 1) := List.drop_eq_getElem_cons hkl
      rw [hfr, hd] at he
      injection he with e1 e2
      obtain ⟨fn, tmps, assign, body, hy, hR⟩ := hY k hkv wr hJk
      have ev : (vals (upX s fr))[k] = #[.int .i64 (Lib.ctz 64 x : Nat)] := by simp only [vals, List.getElem_map]; rw [← e1]
      rw [ev] at hy
      have hct := (ctz_spec x hx0 hx).1
      have htab := tab_keeps hkw hS0 hTW.out
      have hx1 : ((x : Int) == 0) = false := by simp; omega
      have hx2 : ((x : Int) != 0) = true := by simp; omega
      have E2 := Lib.hid e2
      have HF := Lib.hid hfr
      clear e1 e2 hfr hd ev
      gi_wp2_with (refine ⟨trivial, ?_⟩; gi_at_call 21; refine (callsIn_wide.2 (tz_calls x hx _ (fun _ => htab))).mono ?_; rintro e w1 ⟨rfl, rfl⟩)
      refine hR.mono ?_
      clear hR hy
      have hxl : x &&& (x - 1) < 2 ^ 64 := Nat.lt_of_le_of_lt Nat.and_le_left hx
      have ha := and_int (x : Int) ((x : Int) - 1) x (x - 1) rfl (by omega) hx (by omega)
      have HA := Lib.hid ha
      clear ha
      rintro e W4 (⟨rfl, hJ6, hk6⟩ | ⟨rfl, hJx6⟩)
      · gi_wp2
        go_roundw
        case rel => exact ⟨k + 1, x &&& (x - 1), by rw [HA.out], hxl, by omega, E2.out, hJ6, hkw.trans hk6.weak⟩
        case measure =>
          rw [HA.out]
          show (elems (x &&& (x - 1))).length < (elems x).length
          rw [HF.out]; simp
      · gi_wp2
        exact ⟨rfl, .tuple #[], by simp [results, Tryd.f20, go_sem], ⟨_, rfl⟩, .inr hJx6⟩

theorem down_step (x : Nat) (hx0 : x ≠ 0) (hx : x < 2 ^ 64) : ∃ t, Lib.bitLen x = t + 1 ∧ t < 64 ∧ (elems x).reverse = t :: (elems (andn x (bitN (t : Int)))).reverse := by
  obtain ⟨t, h1, h2, h3, h4⟩ := top_spec x hx0 hx
  refine ⟨t, h1, h2, ?_⟩
  rw [elems_back x (andn x (bitN t)) t h2 h3 h4 (fun i hi => by rw [testBit_andn, testBit_bitN]; congr 1; rw [Bool.eq_iff_iff]; simp; omega)]
  simp

set_option maxRecDepth 100000 in
set_option maxHeartbeats 4000000 in
theorem down_iter (n : Nat) (s : Nat) (hs : s < 2 ^ 64) (fr : Int) (hfr : -9223372036854775808 ≤ fr ∧ fr < 9223372036854775808) (b1 b2 : Nat) (w : World) (S T : Nat → Prop) (hS1 : S b1) (hS2 : S b2)
    (hb1 : w.heap[b1]? = some (.cells #[.int .u64 s] 26 (0, 0))) (hb2 : w.heap[b2]? = some (.cells #[.int .i64 fr] 3 (0, 0))) :
    Iter (n + 1) Tryd.prog 22 #[.pointer (some ⟨b1, 0, none⟩), .pointer (some ⟨b2, 0, none⟩)] S T (vals (downX s fr)) w := by
  intro l J Jx W hW hJ hY h0
  have k1 : W.cell? ⟨b1, 0, none⟩ = some (.int .u64 s) := (d_cell ((hW.same b1 hS1).trans hb1) 0).trans rfl
  have k2 : W.cell? ⟨b2, 0, none⟩ = some (.int .i64 fr) := (d_cell ((hW.same b2 hS2).trans hb2) 0).trans rfl
  have hu := bits_and_u64_nat s (toN (fr + 1)) (by omega) (by have := toN_lt (fr + 1); omega)
  have hul := downN_lt hs fr
  refine callsIn_of_wp Tryd.func22 rfl trivial ?_ rfl
  simp only [Tryd.ntmps22, List.size_toArray, List.length_cons, List.length_nil, Nat.reduceAdd, Nat.reduceSub, Array.replicate_succ, Array.replicate_zero, List.push_toArray, List.append_toArray, List.nil_append, List.cons_append]
  by_cases h64 : fr < 64
  · gi_wp2_with (refine ⟨trivial, ?_⟩; gi_at_call 15; refine (callsIn_wide.2 (to_calls (fr + 1) _)).mono ?_; rintro e w1 ⟨rfl, hw1⟩; replace hw1 := hw1.symm; subst hw1)
    gi_loopw [4] (fun v wr => ∃ k x : Nat, v = .int .u64 x ∧ x < 2 ^ 64 ∧ k ≤ (downX s fr).length ∧ (elems x).reverse = (downX s fr).drop k ∧ J k wr ∧ Keeps S T0 W wr) (fun v _ => (elems (intOf v).toNat).length)
    case atStart => exact ⟨0, downN s fr, by unfold downN; rw [if_pos h64], hul, Nat.zero_le _, rfl, h0, Keeps.refl _ _ _⟩
    case round =>
      obtain ⟨k, x, rfl, hx, hk, he, hJk, hkw⟩ := hrel
      clear k1 k2 hu hul
      by_cases hx0 : x = 0
      · subst hx0
        have hkl : k = (downX s fr).length := by
          rw [elems_zero] at he; have := congrArg List.length he; simp at this; omega
        clear he
        gi_wp2
        go_end0
        exact ⟨⟨_, rfl⟩, .inl (by rw [show (vals (downX s fr)).length = (downX s fr).length from by simp [vals], ← hkl]; exact hJk)⟩
      · obtain ⟨t, ht, ht64, hfr'⟩ := down_step x hx0 hx
        have hkl : k < (downX s fr).length := by
          rw [hfr'] at he; have := congrArg List.length he; simp at this; omega
        have hkv : k < (vals (downX s fr)).length := by simpa [vals] using hkl
        have hd : (downX s fr).drop k = (downX s fr)[k] :: (downX s fr).drop (k + 1) := List.drop_eq_getElem_cons hkl
        rw [hfr', hd] at he
        injection he with e1 e2
        obtain ⟨fn, tmps, assign, body, hy, hR⟩ := hY k hkv wr hJk
        have ev : (vals (downX s fr))[k] = #[.int .i64 (t : Nat)] := by simp only [vals, List.getElem_map]; rw [← e1]
        rw [ev] at hy
        have hx1 : ((x : Int) == 0) = false := by simp; omega
        have hx2 : ((x : Int) != 0) = true := by simp; omega
        have hlen := len64_calls x hx
        rw [ht] at hlen
        have E2 := Lib.hid e2
        have HF := Lib.hid hfr'
        have HL := Lib.hid hlen
        have HT := Lib.hid ht
        have hwo := Lib.hid (without_calls x hx t)
        have hxl : andn x (bitN t) < 2 ^ 64 := andn_lt hx
        clear e1 e2 hfr' hd ev hlen ht
        gi_wp2_with (refine ⟨trivial, ?_⟩; gi_at_call 23; refine (callsIn_wide.2 (HL.out _)).mono ?_; rintro e w1 ⟨rfl, rfl⟩)
        refine hR.mono ?_
        clear hR hy
        rintro e W4 (⟨rfl, hJ6, hk6⟩ | ⟨rfl, hJx6⟩)
        · gi_wp2_with (refine ⟨trivial, ?_⟩; gi_at_call 19; refine (callsIn_wide.2 (hwo.out _)).mono ?_; rintro e w1 ⟨rfl, rfl⟩)
          go_roundw
          case rel => exact ⟨k + 1, andn x (bitN t), rfl, hxl, by omega, E2.out, hJ6, hkw.trans hk6.weak⟩
          case measure =>
            show (elems (andn x (bitN t))).length < (elems x).length
            have := congrArg List.length HF.out
            simp at this; omega
        · gi_wp2
          exact ⟨rfl, .tuple #[], by simp [results, Tryd.f22, go_sem], ⟨_, rfl⟩, .inr hJx6⟩
  · gi_wp2
    gi_loopw [4] (fun v wr => ∃ k x : Nat, v = .int .u64 x ∧ x < 2 ^ 64 ∧ k ≤ (downX s fr).length ∧ (elems x).reverse = (downX s fr).drop k ∧ J k wr ∧ Keeps S T0 W wr) (fun v _ => (elems (intOf v).toNat).length)
    case atStart => exact ⟨0, downN s fr, by unfold downN; rw [if_neg (by omega)], hul, Nat.zero_le _, rfl, h0, Keeps.refl _ _ _⟩
    case round =>
      obtain ⟨k, x, rfl, hx, hk, he, hJk, hkw⟩ := hrel
      clear k1 k2 hu hul
      by_cases hx0 : x = 0
      · subst hx0
        have hkl : k = (downX s fr).length := by
          rw [elems_zero] at he; have := congrArg List.length he; simp at this; omega
        clear he
        gi_wp2
        go_end0
        exact ⟨⟨_, rfl⟩, .inl (by rw [show (vals (downX s fr)).length = (downX s fr).length from by simp [vals], ← hkl]; exact hJk)⟩
      · obtain ⟨t, ht, ht64, hfr'⟩ := down_step x hx0 hx
        have hkl : k < (downX s fr).length := by
          rw [hfr'] at he; have := congrArg List.length he; simp at this; omega
        have hkv : k < (vals (downX s fr)).length := by simpa [vals] using hkl
        have hd : (downX s fr).drop k = (downX s fr)[k] :: (downX s fr).drop (k + 1) := List.drop_eq_getElem_cons hkl
        rw [hfr', hd] at he
        injection he with e1 e2
        obtain ⟨fn, tmps, assign, body, hy, hR⟩ := hY k hkv wr hJk
        have ev : (vals (downX s fr))[k] = #[.int .i64 (t : Nat)] := by simp only [vals, List.getElem_map]; rw [← e1]
        rw [ev] at hy
        have hx1 : ((x : Int) == 0) = false := by simp; omega
        have hx2 : ((x : Int) != 0) = true := by simp; omega
        have hlen := len64_calls x hx
        rw [ht] at hlen
        have E2 := Lib.hid e2
        have HF := Lib.hid hfr'
        have HL := Lib.hid hlen
        have HT := Lib.hid ht
        have hwo := Lib.hid (without_calls x hx t)
        have hxl : andn x (bitN t) < 2 ^ 64 := andn_lt hx
        clear e1 e2 hfr' hd ev hlen ht
        gi_wp2_with (refine ⟨trivial, ?_⟩; gi_at_call 23; refine (callsIn_wide.2 (HL.out _)).mono ?_; rintro e w1 ⟨rfl, rfl⟩)
        refine hR.mono ?_
        clear hR hy
        rintro e W4 (⟨rfl, hJ6, hk6⟩ | ⟨rfl, hJx6⟩)
        · gi_wp2_with (refine ⟨trivial, ?_⟩; gi_at_call 19; refine (callsIn_wide.2 (hwo.out _)).mono ?_; rintro e w1 ⟨rfl, rfl⟩)
          go_roundw
          case rel => exact ⟨k + 1, andn x (bitN t), rfl, hxl, by omega, E2.out, hJ6, hkw.trans hk6.weak⟩
          case measure =>
            show (elems (andn x (bitN t))).length < (elems x).length
            have := congrArg List.length HF.out
            simp at this; omega
        · gi_wp2
          exact ⟨rfl, .tuple #[], by simp [results, Tryd.f22, go_sem], ⟨_, rfl⟩, .inr hJx6⟩
end Go.Proofs.YtbgbnaicbfakoaaDoor
