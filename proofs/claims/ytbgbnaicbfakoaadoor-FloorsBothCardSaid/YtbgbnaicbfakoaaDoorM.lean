/- Plain facts on sets of floors as numbers below 2^64: bits, beginnings, differences, the list of the members. -/
import Derived.Lib.TrailingZeros
import Derived.Lib.BitFns
import Derived.Laws.Bits64b
import Derived.Lib.EndianBits
namespace Go.Proofs.YtbgbnaicbfakoaaDoor
open Go

def bitN (f : Int) : Nat := if 0 ≤ f ∧ f < 64 then 2 ^ f.toNat else 0
def toN (n : Int) : Nat := 2 ^ (max (min n 64) 0).toNat - 1
def andn (a b : Nat) : Nat := a ^^^ (a &&& b)
def hasN (s : Nat) (f : Int) : Bool := decide (0 ≤ f ∧ f < 64) && s.testBit f.toNat

theorem ext64 {a b : Nat} (ha : a < 2 ^ 64) (hb : b < 2 ^ 64) (h : ∀ i, i < 64 → a.testBit i = b.testBit i) : a = b := by
  apply Nat.eq_of_testBit_eq
  intro i
  by_cases hi : i < 64
  · exact h i hi
  · rw [Nat.testBit_lt_two_pow (Nat.lt_of_lt_of_le ha (Nat.pow_le_pow_right (by omega) (by omega))), Nat.testBit_lt_two_pow (Nat.lt_of_lt_of_le hb (Nat.pow_le_pow_right (by omega) (by omega)))]
theorem bitN_lt (f : Int) : bitN f < 2 ^ 64 := by
  unfold bitN; split
  · exact Nat.pow_lt_pow_right (by omega) (by omega)
  · decide
theorem toN_lt (n : Int) : toN n < 2 ^ 64 := by
  have h : 2 ^ (max (min n 64) 0).toNat ≤ 2 ^ 64 := Nat.pow_le_pow_right (by omega) (by omega)
  have h0 : 0 < 2 ^ (max (min n 64) 0).toNat := Nat.two_pow_pos _
  unfold toN; omega
theorem andn_lt {a b : Nat} (ha : a < 2 ^ 64) : andn a b < 2 ^ 64 := Nat.xor_lt_two_pow ha (Nat.lt_of_le_of_lt Nat.and_le_left ha)
theorem testBit_bitN (f : Int) (i : Nat) : (bitN f).testBit i = decide (f = i ∧ i < 64) := by
  unfold bitN; split
  · rw [Nat.testBit_two_pow]; rw [Bool.eq_iff_iff]; simp; omega
  · simp; omega
theorem testBit_toN (n : Int) (i : Nat) : (toN n).testBit i = decide (i < 64 ∧ (i : Int) < n) := by
  unfold toN; rw [Nat.testBit_two_pow_sub_one]; rw [Bool.eq_iff_iff]; simp; omega
theorem testBit_andn (a b i : Nat) : (andn a b).testBit i = (a.testBit i && !b.testBit i) := by
  unfold andn; rw [Nat.testBit_xor, Nat.testBit_and]; cases a.testBit i <;> cases b.testBit i <;> rfl
theorem hasN_eq (s : Nat) (f : Int) : (s &&& bitN f != 0) = hasN s f := by
  unfold hasN
  by_cases h : 0 ≤ f ∧ f < 64
  · have hb : (s &&& bitN f).testBit f.toNat = s.testBit f.toNat := by rw [Nat.testBit_and, testBit_bitN]; simp; omega
    simp only [h, and_self, decide_true, Bool.true_and]
    cases ht : s.testBit f.toNat
    · have : s &&& bitN f = 0 := by
        apply Nat.eq_of_testBit_eq; intro i
        rw [Nat.testBit_and, testBit_bitN, Nat.zero_testBit]
        by_cases e : f = i
        · subst e; simp at ht; simp [ht]
        · simp [e]
      simp [this]
    · have : s &&& bitN f ≠ 0 := by intro e; rw [e, Nat.zero_testBit, ht] at hb; cases hb
      simp [this]
  · have : bitN f = 0 := by unfold bitN; rw [if_neg h]
    simp [this, h]

theorem u64_pow (k : Nat) (h : k < 64) : IntKind.u64.wrap (2 ^ k) = ((2 ^ k : Nat) : Int) := by
  have : (2 : Nat) ^ k < 2 ^ 64 := Nat.pow_lt_pow_right (by omega) h
  rw [show ((2 : Int) ^ k) = ((2 ^ k : Nat) : Int) from by simp, IntKind.wrap_u64]
  generalize (2 : Nat) ^ k = q at *
  omega
theorem u64_to (n : Int) : IntKind.u64.wrap (IntKind.u64.wrap (2 ^ (max (min n 64) 0).toNat) - 1) = (toN n : Int) := by
  unfold toN
  have hk : (max (min n 64) 0).toNat ≤ 64 := by omega
  generalize (max (min n 64) 0).toNat = k at *
  rcases Nat.lt_or_ge k 64 with h | h
  · have h0 : 0 < 2 ^ k := Nat.two_pow_pos _
    have : (2 : Nat) ^ k < 2 ^ 64 := Nat.pow_lt_pow_right (by omega) h
    rw [u64_pow k h, IntKind.wrap_u64]
    generalize (2 : Nat) ^ k = q at *
    omega
  · obtain rfl : k = 64 := by omega
    decide
theorem bits_andNot_u64_nat (a b : Nat) (ha : a < 18446744073709551616) (hb : b < 18446744073709551616) :
    bits .andNot .u64 (a : Int) (b : Int) = ((andn a b : Nat) : Int) := by
  have hx : andn a b < 2 ^ 64 := andn_lt (by omega)
  have h1 : (BitVec.ofInt 64 (a : Int)).toNat = a := by
    rw [BitVec.ofInt_natCast, BitVec.toNat_ofNat]; exact Nat.mod_eq_of_lt (by omega)
  have h2 : (BitVec.ofInt 64 (b : Int)).toNat = b := by
    rw [BitVec.ofInt_natCast, BitVec.toNat_ofNat]; exact Nat.mod_eq_of_lt (by omega)
  show IntKind.u64.wrap ((BitVec.ofInt 64 (a : Int) &&& ~~~ BitVec.ofInt 64 (b : Int)).toNat : Int) = _
  have : (BitVec.ofInt 64 (a : Int) &&& ~~~ BitVec.ofInt 64 (b : Int)).toNat = andn a b := by
    apply ext64 (BitVec.isLt _) hx
    intro i hi
    rw [testBit_andn, BitVec.toNat_and, Nat.testBit_and, h1]
    congr 1
    rw [BitVec.testBit_toNat, BitVec.getLsbD_not, ← BitVec.testBit_toNat, h2]; simp [hi]
  rw [this, IntKind.wrap_u64]
  omega

/-- The members of a set, rising. -/
def elems (s : Nat) : List Nat := (List.range 64).filter fun i => s.testBit i
theorem mem_elems {s i : Nat} : i ∈ elems s ↔ i < 64 ∧ s.testBit i = true := by simp [elems]
theorem elems_zero : elems 0 = [] := by simp [elems]
theorem ctz_spec (x : Nat) (h0 : x ≠ 0) (h : x < 2 ^ 64) : Lib.ctz 64 x < 64 ∧ x.testBit (Lib.ctz 64 x) = true ∧ ∀ i, i < Lib.ctz 64 x → x.testBit i = false := by
  obtain ⟨m, hm, hk⟩ := Lib.ctzFrom_spec 64 x (by omega) h
  have e : Lib.ctz 64 x = Lib.ctzFrom 64 x := by unfold Lib.ctz; rw [if_neg h0]
  rw [e]
  generalize Lib.ctzFrom 64 x = k at *
  subst hm
  refine ⟨hk, ?_, ?_⟩
  · rw [Nat.testBit_two_pow_mul]; simp
  · intro i hi; rw [Nat.testBit_two_pow_mul]; simp; omega
theorem range_split (k : Nat) (h : k < 64) : List.range 64 = List.range k ++ k :: (List.range (63 - k)).map (fun i => k + 1 + i) := by
  have : 64 = k + 1 + (63 - k) := by omega
  conv => lhs; rw [this, List.range_add, List.range_succ]
  simp
theorem elems_step (x k : Nat) (hk : k < 64) (h1 : x.testBit k = true) (h2 : ∀ i, i < k → x.testBit i = false) : elems x = k :: ((List.range (63 - k)).map (fun i => k + 1 + i)).filter fun i => x.testBit i := by
  unfold elems
  rw [range_split k hk, List.filter_append, List.filter_cons_of_pos h1, List.filter_eq_nil_iff.2 (by intro a ha; simp at ha; simp [h2 a ha]), List.nil_append]
theorem elems_front (x y : Nat) (h0 : x ≠ 0) (h : x < 2 ^ 64) (hy : ∀ i, i < 64 → y.testBit i = (x.testBit i && decide (i ≠ Lib.ctz 64 x))) : elems x = Lib.ctz 64 x :: elems y := by
  obtain ⟨hk, h1, h2⟩ := ctz_spec x h0 h
  rw [elems_step x _ hk h1 h2]
  congr 1
  generalize Lib.ctz 64 x = k at *
  unfold elems
  rw [range_split k hk, List.filter_append, List.filter_eq_nil_iff.2 (show ∀ a ∈ List.range k, ¬ y.testBit a = true from by intro a ha; simp at ha; rw [hy a (by omega), h2 a ha]; simp), List.nil_append, List.filter_cons_of_neg (by rw [hy k hk]; simp)]
  apply List.filter_congr
  intro a ha
  simp at ha
  obtain ⟨j, hj, rfl⟩ := ha
  rw [hy _ (by omega)]
  have : k + 1 + j ≠ k := by omega
  simp [this]
/-- x with its lowest member taken out. -/
theorem low_out (x : Nat) (h0 : x ≠ 0) (h : x < 2 ^ 64) : ∀ i, (x &&& (x - 1)).testBit i = (x.testBit i && decide (i ≠ Lib.ctz 64 x)) := by
  obtain ⟨m, hm, hk⟩ := Lib.ctzFrom_spec 64 x (by omega) h
  have e : Lib.ctz 64 x = Lib.ctzFrom 64 x := by unfold Lib.ctz; rw [if_neg h0]
  rw [e]
  generalize Lib.ctzFrom 64 x = k at *
  subst hm
  intro i
  have h1 : 2 ^ k * (2 * m + 1) - 1 = 2 ^ k * (2 * m) + (2 ^ k - 1) := by
    have := Nat.two_pow_pos k; rw [Nat.mul_add]; omega
  have hlt : 2 ^ k - 1 < 2 ^ k := by have := Nat.two_pow_pos k; omega
  rw [Nat.testBit_and, h1, Nat.testBit_two_pow_mul_add _ hlt, Nat.testBit_two_pow_mul]
  by_cases hik : i < k
  · have : ¬ k ≤ i := by omega
    simp [this]
  · have hki : k ≤ i := by omega
    simp only [hik, hki, decide_true, Bool.true_and, if_false]
    obtain ⟨j, rfl⟩ := Nat.exists_eq_add_of_le hki
    rw [Nat.add_sub_cancel_left]
    cases j with
    | zero => simp
    | succ j => 
      rw [Nat.testBit_succ, Nat.testBit_succ, show (2 * m + 1) / 2 = m from by omega, show (2 * m) / 2 = m from by omega]
      simp

theorem bitLen_spec : ∀ (f x : Nat), x ≠ 0 → x < 2 ^ f → ∃ t, Lib.bitLenAux f x = t + 1 ∧ t < f ∧ x.testBit t = true ∧ ∀ i, t < i → x.testBit i = false
  | 0, x, h0, h => by simp at h; omega
  | f + 1, x, h0, h => by
    unfold Lib.bitLenAux
    rw [if_neg (by omega)]
    by_cases h2 : x / 2 = 0
    · have hx : x = 1 := by omega
      subst hx
      refine ⟨0, ?_, by omega, by decide, ?_⟩
      · cases f <;> simp [Lib.bitLenAux]
      · intro i hi; obtain ⟨j, rfl⟩ := Nat.exists_eq_add_of_le hi; rw [show 0 + 1 + j = j + 1 from by omega, Nat.testBit_succ]; simp
    · obtain ⟨t, h3, h4, h5, h6⟩ := bitLen_spec f (x / 2) h2 (by rw [Nat.pow_succ] at h; omega)
      refine ⟨t + 1, by omega, by omega, by rw [Nat.testBit_succ]; exact h5, ?_⟩
      intro i hi
      obtain ⟨j, rfl⟩ := Nat.exists_eq_add_of_le hi
      rw [show t + 1 + 1 + j = (t + 1 + j) + 1 from by omega, Nat.testBit_succ]
      exact h6 _ (by omega)
theorem top_spec (x : Nat) (h0 : x ≠ 0) (h : x < 2 ^ 64) : ∃ t, Lib.bitLen x = t + 1 ∧ t < 64 ∧ x.testBit t = true ∧ ∀ i, t < i → x.testBit i = false := bitLen_spec 64 x h0 h
theorem elems_back (x y t : Nat) (ht : t < 64) (h1 : x.testBit t = true) (h2 : ∀ i, t < i → x.testBit i = false) (hy : ∀ i, i < 64 → y.testBit i = (x.testBit i && decide (i ≠ t))) : elems x = elems y ++ [t] := by
  unfold elems
  rw [range_split t ht, List.filter_append, List.filter_append, List.filter_cons_of_pos h1, List.filter_cons_of_neg (by rw [hy t ht]; simp)]
  rw [List.filter_eq_nil_iff.2 (show ∀ a ∈ (List.range (63 - t)).map (fun i => t + 1 + i), ¬ x.testBit a = true from by intro a ha; simp at ha; obtain ⟨j, hj, rfl⟩ := ha; rw [h2 _ (by omega)]; simp)]
  rw [List.filter_eq_nil_iff.2 (show ∀ a ∈ (List.range (63 - t)).map (fun i => t + 1 + i), ¬ y.testBit a = true from by intro a ha; simp at ha; obtain ⟨j, hj, rfl⟩ := ha; rw [hy _ (by omega), h2 _ (by omega)]; simp)]
  rw [List.append_nil]
  congr 1
  apply List.filter_congr
  intro a ha
  simp at ha
  have : a ≠ t := by omega
  rw [hy _ (by omega)]; simp [this]
theorem elems_ne {x : Nat} (h0 : x ≠ 0) (h : x < 2 ^ 64) : elems x ≠ [] := by rw [elems_front x (x &&& (x - 1)) h0 h (fun i _ => low_out x h0 h i)]; simp
end Go.Proofs.YtbgbnaicbfakoaaDoor
