/- How many floors a set has: the sum over the bytes of a word, as math/bits.OnesCount64 forms it. -/
import Derived.Test.YtbgbnaicbfakoaaDoorM
namespace Go.Proofs.YtbgbnaicbfakoaaDoor
open Go

theorem and_bytes (a c y z : Nat) (ha : a < 256) (hc : c < 256) : (a + 256 * y) &&& (c + 256 * z) = (a &&& c) + 256 * (y &&& z) := by
  have h1 : ((a + 256 * y) &&& (c + 256 * z)) % 2 ^ 8 = (a &&& c) := by
    rw [Nat.and_mod_two_pow]; congr 1 <;> omega
  have h2 : ((a + 256 * y) &&& (c + 256 * z)) / 2 ^ 8 = (y &&& z) := by
    rw [Nat.and_div_two_pow]; congr 1 <;> omega
  omega
def rep (m : Nat) : Nat → Nat
  | 0 => 0
  | n + 1 => m + 256 * rep m n
def over (g : Nat → Nat) : Nat → Nat → Nat
  | 0, _ => 0
  | n + 1, x => g (x % 256) + 256 * over g n (x / 256)
def g1 (a : Nat) : Nat := (a / 2 &&& 85) + (a &&& 85)
def g2 (a : Nat) : Nat := (g1 a / 4 &&& 51) + (g1 a &&& 51)
def g3 (a : Nat) : Nat := g2 a / 16 + g2 a &&& 15

theorem g1_dec : ∀ a : Fin 256, ∀ b : Fin 2, ((a.val / 2 + 128 * b.val) &&& 85) + (a.val &&& 85) = g1 a.val ∧ g1 a.val < 256 := by decide +kernel
theorem g2_dec : ∀ a : Fin 256, ∀ b : Fin 4, ((g1 a.val / 4 + 64 * b.val) &&& 51) + (g1 a.val &&& 51) = g2 a.val ∧ g2 a.val < 80 ∧ g2 a.val % 16 ≤ 4 := by decide +kernel
theorem g3_dec : ∀ a : Fin 256, ∀ b : Fin 5, ((g2 a.val / 16 + 16 * b.val) + g2 a.val) < 256 ∧ (((g2 a.val / 16 + 16 * b.val) + g2 a.val) &&& 15) = g3 a.val ∧ g3 a.val ≤ 8 := by decide +kernel
theorem g3_cnt : ∀ a : Fin 256, g3 a.val = ((List.range 8).filter fun i => a.val.testBit i).length := by decide +kernel

theorem over1 : ∀ (n x : Nat), x < 256 ^ n → (x / 2 &&& rep 85 n) + (x &&& rep 85 n) = over g1 n x
  | 0, x, h => by simp [rep, over]
  | n + 1, x, h => by
    have hy : x / 256 < 256 ^ n := by rw [Nat.pow_succ] at h; omega
    have ih := over1 n (x / 256) hy
    obtain ⟨d1, d2⟩ := g1_dec ⟨x % 256, by omega⟩ ⟨x / 256 % 2, by omega⟩
    simp only at d1 d2
    have e1 : x = x % 256 + 256 * (x / 256) := by omega
    have e2 : x / 2 = (x % 256 / 2 + 128 * (x / 256 % 2)) + 256 * (x / 256 / 2) := by omega
    rw [rep, over, e2]
    conv => lhs; arg 2; rw [e1]
    rw [and_bytes _ _ _ _ (by omega) (by omega), and_bytes _ _ _ _ (by omega) (by omega)]
    omega
theorem over_lt (g : Nat → Nat) (hg : ∀ a, a < 256 → g a < 256) : ∀ (n x : Nat), over g n x < 256 ^ n
  | 0, x => by simp [over]
  | n + 1, x => by have := over_lt g hg n (x / 256); have := hg (x % 256) (by omega); rw [over, Nat.pow_succ]; omega
theorem over2 : ∀ (n x : Nat), (over g1 n x / 4 &&& rep 51 n) + (over g1 n x &&& rep 51 n) = over g2 n x
  | 0, x => by simp [rep, over]
  | n + 1, x => by
    have ih := over2 n (x / 256)
    obtain ⟨d1, d2⟩ := g2_dec ⟨x % 256, by omega⟩ ⟨over g1 n (x / 256) % 4, by omega⟩
    obtain ⟨_, d3⟩ := g1_dec ⟨x % 256, by omega⟩ 0
    simp only at d1 d2 d3
    rw [rep, over, over]
    generalize over g1 n (x / 256) = y at *
    have e2 : (g1 (x % 256) + 256 * y) / 4 = (g1 (x % 256) / 4 + 64 * (y % 4)) + 256 * (y / 4) := by omega
    rw [e2, and_bytes _ _ _ _ (by omega) (by omega), and_bytes _ _ _ _ (by omega) (by omega)]
    omega
theorem over2_low : ∀ (n x : Nat), over g2 n x % 16 ≤ 4
  | 0, x => by simp [over]
  | n + 1, x => by
    obtain ⟨_, _, d2⟩ := g2_dec ⟨x % 256, by omega⟩ 0
    simp only at d2
    rw [over]; omega
theorem over3 : ∀ (n x : Nat), (over g2 n x / 16 + over g2 n x &&& rep 15 n) = over g3 n x
  | 0, x => by simp [rep, over]
  | n + 1, x => by
    have ih := over3 n (x / 256)
    have hl := over2_low n (x / 256)
    obtain ⟨d1, d2, d3⟩ := g3_dec ⟨x % 256, by omega⟩ ⟨over g2 n (x / 256) % 16, by omega⟩
    simp only at d1 d2 d3
    rw [rep, over, over]
    generalize over g2 n (x / 256) = y at *
    have e2 : (g2 (x % 256) + 256 * y) / 16 + (g2 (x % 256) + 256 * y) = ((g2 (x % 256) / 16 + 16 * (y % 16)) + g2 (x % 256)) + 256 * (y / 16 + y) := by omega
    rw [e2, and_bytes _ _ _ _ (by omega) (by omega)]
    omega
theorem count_bytes : ∀ (n x : Nat), ((List.range (8 * n)).filter fun i => x.testBit i).length = ((List.range n).map fun k => g3 (x / 256 ^ k % 256)).sum
  | 0, x => by simp
  | n + 1, x => by
    have ih := count_bytes n (x / 256)
    rw [show 8 * (n + 1) = 8 + 8 * n from by omega, List.range_add, List.filter_append, List.length_append, List.filter_map, List.length_map]
    have e1 : ((List.range 8).filter fun i => x.testBit i) = (List.range 8).filter fun i => (x % 256).testBit i := by
      apply List.filter_congr
      intro i hi
      simp at hi
      rw [show (256 : Nat) = 2 ^ 8 from rfl, Nat.testBit_mod_two_pow]; simp [hi]
    have e2 : ((List.range (8 * n)).filter ((fun i => x.testBit i) ∘ fun i => 8 + i)) = (List.range (8 * n)).filter fun i => (x / 256).testBit i := by
      apply List.filter_congr
      intro i _
      show x.testBit (8 + i) = _
      rw [show (256 : Nat) = 2 ^ 8 from rfl, Nat.testBit_div_two_pow, Nat.add_comm]
    rw [e1, e2, ih, ← g3_cnt ⟨x % 256, by omega⟩, show n + 1 = 1 + n from by omega, List.range_add, List.map_append, List.sum_append, List.map_map]
    simp only [List.range_succ, List.range_zero, List.nil_append, List.map_cons, List.map_nil, List.sum_cons, List.sum_nil, Nat.pow_zero, Nat.div_one, Nat.add_zero]
    congr 2
    apply List.map_congr_left
    intro k _
    show _ = g3 (x / 256 ^ (1 + k) % 256)
    rw [Nat.div_div_eq_div_mul, show 256 ^ (1 + k) = 256 * 256 ^ k from by rw [Nat.pow_add]]

def popN (x : Nat) : Nat := (elems x).length
def stage1 (x : Nat) : Nat := (x / 2 &&& 6148914691236517205) + (x &&& 6148914691236517205)
def stage2 (x : Nat) : Nat := (x / 4 &&& 3689348814741910323) + (x &&& 3689348814741910323)
def stage3 (x : Nat) : Nat := x / 16 + x &&& 1085102592571150095
theorem stages (x : Nat) (h : x < 2 ^ 64) : stage3 (stage2 (stage1 x)) = over g3 8 x := by
  have h1 : stage1 x = over g1 8 x := over1 8 x h
  have h2 : stage2 (over g1 8 x) = over g2 8 x := over2 8 x
  have h3 : stage3 (over g2 8 x) = over g3 8 x := over3 8 x
  rw [h1, h2, h3]
theorem stage1_lt (x : Nat) (h : x < 2 ^ 64) : stage1 x < 2 ^ 64 := by
  have h1 : stage1 x = over g1 8 x := over1 8 x h
  rw [h1]; exact over_lt g1 (fun a ha => (g1_dec ⟨a, ha⟩ 0).2) 8 x
theorem stage2_lt (x : Nat) (h : x < 2 ^ 64) : stage2 (stage1 x) / 16 + stage2 (stage1 x) < 2 ^ 64 := by
  have h1 : stage1 x = over g1 8 x := over1 8 x h
  have h2 : stage2 (over g1 8 x) = over g2 8 x := over2 8 x
  rw [h1, h2]
  have hl : over g2 8 x < 80 * 2 ^ 56 := by
    have := over_lt g2 (fun a ha => by have := (g2_dec ⟨a, ha⟩ 0).2.1; simp only at this; omega) 7 x
    have key : ∀ (n y : Nat), over g2 (n + 1) y < 80 * 256 ^ n := by
      intro n
      induction n with
      | zero => intro y; have := (g2_dec ⟨y % 256, by omega⟩ 0).2.1; simp only at this; simp [over]; omega
      | succ n ih => intro y; have := ih (y / 256); have h3 := (g2_dec ⟨y % 256, by omega⟩ 0).2.1; simp only at h3; rw [over, Nat.pow_succ]; omega
    have := key 7 x
    omega
  omega
theorem g3_le (a : Nat) : g3 (a % 256) ≤ 8 := (g3_dec ⟨a % 256, by omega⟩ 0).2.2
/-- The last three steps and the cut. -/
theorem last (x : Nat) : popN x = (let y := over g3 8 x; let y4 := y + y / 256; let y5 := y4 + y4 / 65536; let y6 := y5 + y5 / 4294967296; y6 % 128) ∧ popN x ≤ 64 ∧
    (let y := over g3 8 x; let y4 := y + y / 256; let y5 := y4 + y4 / 65536; let y6 := y5 + y5 / 4294967296; y < 2 ^ 60 ∧ y4 < 2 ^ 61 ∧ y5 < 2 ^ 62 ∧ y6 < 2 ^ 63) := by
  have hp : popN x = ((List.range 8).map fun k => g3 (x / 256 ^ k % 256)).sum := count_bytes 8 x
  rw [hp]
  simp only [over, List.range_succ, List.range_zero, List.nil_append, List.cons_append, List.map_cons, List.map_nil, List.sum_cons, List.sum_nil, Nat.pow_zero, Nat.div_one, Nat.div_div_eq_div_mul, Nat.reduceMul, Nat.reducePow]
  have b0 := g3_le x
  have b1 := g3_le (x / 256)
  have b2 := g3_le (x / 65536)
  have b3 := g3_le (x / 16777216)
  have b4 := g3_le (x / 4294967296)
  have b5 := g3_le (x / 1099511627776)
  have b6 := g3_le (x / 281474976710656)
  have b7 := g3_le (x / 72057594037927936)
  generalize g3 (x % 256) = p0 at *
  generalize g3 (x / 256 % 256) = p1 at *
  generalize g3 (x / 65536 % 256) = p2 at *
  generalize g3 (x / 16777216 % 256) = p3 at *
  generalize g3 (x / 4294967296 % 256) = p4 at *
  generalize g3 (x / 1099511627776 % 256) = p5 at *
  generalize g3 (x / 281474976710656 % 256) = p6 at *
  generalize g3 (x / 72057594037927936 % 256) = p7 at *
  have e4 : (p0 + 256 * (p1 + 256 * (p2 + 256 * (p3 + 256 * (p4 + 256 * (p5 + 256 * (p6 + 256 * (p7 + 256 * 0)))))))) + (p0 + 256 * (p1 + 256 * (p2 + 256 * (p3 + 256 * (p4 + 256 * (p5 + 256 * (p6 + 256 * (p7 + 256 * 0)))))))) / 256 =
    (p0 + p1) + 256 * ((p1 + p2) + 256 * ((p2 + p3) + 256 * ((p3 + p4) + 256 * ((p4 + p5) + 256 * ((p5 + p6) + 256 * ((p6 + p7) + 256 * p7)))))) := by omega
  rw [e4]
  have e5 : ((p0 + p1) + 256 * ((p1 + p2) + 256 * ((p2 + p3) + 256 * ((p3 + p4) + 256 * ((p4 + p5) + 256 * ((p5 + p6) + 256 * ((p6 + p7) + 256 * p7))))))) + ((p0 + p1) + 256 * ((p1 + p2) + 256 * ((p2 + p3) + 256 * ((p3 + p4) + 256 * ((p4 + p5) + 256 * ((p5 + p6) + 256 * ((p6 + p7) + 256 * p7))))))) / 65536 =
    (p0 + p1 + p2 + p3) + 256 * ((p1 + p2 + p3 + p4) + 256 * ((p2 + p3 + p4 + p5) + 256 * ((p3 + p4 + p5 + p6) + 256 * ((p4 + p5 + p6 + p7) + 256 * ((p5 + p6 + p7) + 256 * ((p6 + p7) + 256 * p7)))))) := by omega
  rw [e5]
  have e6 : ((p0 + p1 + p2 + p3) + 256 * ((p1 + p2 + p3 + p4) + 256 * ((p2 + p3 + p4 + p5) + 256 * ((p3 + p4 + p5 + p6) + 256 * ((p4 + p5 + p6 + p7) + 256 * ((p5 + p6 + p7) + 256 * ((p6 + p7) + 256 * p7))))))) + ((p0 + p1 + p2 + p3) + 256 * ((p1 + p2 + p3 + p4) + 256 * ((p2 + p3 + p4 + p5) + 256 * ((p3 + p4 + p5 + p6) + 256 * ((p4 + p5 + p6 + p7) + 256 * ((p5 + p6 + p7) + 256 * ((p6 + p7) + 256 * p7))))))) / 4294967296 =
    (p0 + p1 + p2 + p3 + p4 + p5 + p6 + p7) + 256 * ((p1 + p2 + p3 + p4) + (p5 + p6 + p7) + 256 * ((p2 + p3 + p4 + p5) + (p6 + p7) + 256 * ((p3 + p4 + p5 + p6) + p7 + 256 * ((p4 + p5 + p6 + p7) + 256 * ((p5 + p6 + p7) + 256 * ((p6 + p7) + 256 * p7)))))) := by clear e4 e5 hp; omega
  rw [e6]
  clear e4 e5 e6 hp
  refine ⟨by omega, by omega, by omega, by omega, by omega, by omega⟩
end Go.Proofs.YtbgbnaicbfakoaaDoor
