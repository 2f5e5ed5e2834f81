/- The small functions of floors, walked. -/
import Derived.Test.YtbgbnaicbfakoaaDoorChecked
import Derived.Test.YtbgbnaicbfakoaaDoorPop
import Derived.Shelf.Spec.TrailingZeros
import Derived.Shelf.Strconv.Itoa0
import Derived.Shelf.Abstract
import Derived.WalkKit
import Derived.Lib.Hide
namespace Go.Proofs.YtbgbnaicbfakoaaDoor
open Go.RowKit Go.Shelf

def Tryd.ltz_ren : Go.Shelf.Ren := ⟨fun | 29 => 21 | n => n, fun | 22 => 22 | 3 => 3 | 4 => 4 | 25 => 46 | 54 => 45 | 0 => 0 | 5 => 5 | n => n, fun | 1 => 0 | n => n⟩
theorem Tryd.ltz : Go.Proofs.Lays7.n29 Tryd.prog Tryd.ltz_ren := {
  mixed := by kernel_rfl
  f29 := Tryd.func21.trans (congrArg some (by kernel_rfl))
  t0 := Tryd.underlying0
  a0 := Tryd.isAgg0
  z0 := Tryd.sizeOf0
  v0 := Tryd.zeroValue0
  i0 := by kernel_rfl
  t3 := Tryd.underlying3
  a3 := Tryd.isAgg3
  z3 := Tryd.sizeOf3
  v3 := Tryd.zeroValue3
  i3 := by kernel_rfl
  t4 := Tryd.underlying4
  a4 := Tryd.isAgg4
  z4 := Tryd.sizeOf4
  v4 := Tryd.zeroValue4
  i4 := by kernel_rfl
  t5 := Tryd.underlying5
  a5 := Tryd.isAgg5
  z5 := Tryd.sizeOf5
  v5 := Tryd.zeroValue5
  i5 := by kernel_rfl
  t22 := Tryd.underlying22
  a22 := Tryd.isAgg22
  z22 := Tryd.sizeOf22
  v22 := Tryd.zeroValue22
  i22 := by kernel_rfl
  t25 := Tryd.underlying46
  a25 := Tryd.isAgg46
  z25 := Tryd.sizeOf46
  v25 := Tryd.zeroValue46
  i25 := by kernel_rfl
  t54 := Tryd.underlying45
  a54 := Tryd.isAgg45
  z54 := Tryd.sizeOf45
  g1 := by kernel_rfl }
def Tryd.ll64_ren : Go.Shelf.Ren := ⟨fun | 129 => 23 | n => n, fun | 53 => 22 | 3 => 3 | 4 => 4 | 46 => 46 | 5 => 5 | 9 => 9 | n => n, fun | n => n⟩
theorem Tryd.ll64 : Go.Proofs.Lays.n129 Tryd.prog Tryd.ll64_ren := {
  mixed := by kernel_rfl
  f129 := Tryd.func23.trans (congrArg some (by kernel_rfl))
  t3 := Tryd.underlying3
  a3 := Tryd.isAgg3
  z3 := Tryd.sizeOf3
  v3 := Tryd.zeroValue3
  t4 := Tryd.underlying4
  a4 := Tryd.isAgg4
  z4 := Tryd.sizeOf4
  v4 := Tryd.zeroValue4
  t5 := Tryd.underlying5
  a5 := Tryd.isAgg5
  z5 := Tryd.sizeOf5
  v5 := Tryd.zeroValue5
  t9 := Tryd.underlying9
  a9 := Tryd.isAgg9
  z9 := Tryd.sizeOf9
  v9 := Tryd.zeroValue9
  t46 := Tryd.underlying46
  a46 := Tryd.isAgg46
  z46 := Tryd.sizeOf46
  v46 := Tryd.zeroValue46
  t53 := Tryd.underlying22
  a53 := Tryd.isAgg22
  z53 := Tryd.sizeOf22
  v53 := Tryd.zeroValue22 }

theorem tz_calls (x : Nat) (hx : x < 2 ^ 64) (w : World) (hT : x ≠ 0 → TabAt 0 Lib.deBruijn64tab w) :
    Calls Tryd.prog 21 #[.int .u64 x] w fun e w' => e = .returned (.int .i64 (Lib.ctz 64 x)) ∧ w' = w := Any7.bits_TrailingZeros64 Tryd.ltz x (by omega) w hT
theorem len64_calls (x : Nat) (hx : x < 2 ^ 64) (w : World) :
    Calls Tryd.prog 23 #[.int .u64 x] w fun e w' => e = .returned (.int .i64 (Lib.bitLen x)) ∧ w' = w := by
  have h : Calls Tryd.prog 23 #[.int .u64 x] w fun e w' => e = .returned (.int .i64 (Lib.bitLen (x : Int).toNat)) ∧ w' = w := Any.bits_Len64 Tryd.ll64 x w (by omega) (by omega)
  simpa using h

theorem bit_calls (f : Int) (w : World) : Calls Tryd.prog 26 #[.int .i64 f] w fun e w' => e = .returned (.int .u64 (bitN f)) ∧ w' = w := by
  go_enter Tryd.func26, Tryd.ntmps26
  go_wp2
  all_goals go_ret
  · exact ⟨by unfold bitN; rw [if_neg (by omega)]; rfl, rfl⟩
  · exact ⟨congrArg (fun v => Ending.returned (.int .u64 v)) (by unfold bitN; rw [if_pos (by omega), u64_pow _ (by omega)]), rfl⟩
  · exact ⟨by unfold bitN; rw [if_neg (by omega)]; rfl, rfl⟩
theorem to_calls (n : Int) (w : World) : Calls Tryd.prog 15 #[.int .i64 n] w fun e w' => e = .returned (.int .u64 (toN n)) ∧ w' = w := by
  go_enter Tryd.func15, Tryd.ntmps15
  go_wp2
  go_ret
  exact ⟨congrArg (fun v => Ending.returned (.int .u64 v)) (u64_to n), rfl⟩
theorem has_calls (s : Nat) (hs : s < 2 ^ 64) (f : Int) (w : World) : Calls Tryd.prog 17 #[.int .u64 s, .int .i64 f] w fun e w' => e = .returned (.bool (hasN s f)) ∧ w' = w := by
  have hb := bitN_lt f
  go_enter Tryd.func17, Tryd.ntmps17
  go_wp2_with (go_at_call 26; refine (bit_calls f _).mono ?_; rintro e w' ⟨rfl, rfl⟩)
  go_ret
  exact ⟨congrArg (fun v => Ending.returned (.bool v)) (by rw [bits_and_u64_nat _ _ (by omega) (by omega), ← hasN_eq]; rw [Bool.eq_iff_iff]; simp), rfl⟩
theorem with_calls (s : Nat) (hs : s < 2 ^ 64) (f : Int) (w : World) : Calls Tryd.prog 18 #[.int .u64 s, .int .i64 f] w fun e w' => e = .returned (.int .u64 (s ||| bitN f : Nat)) ∧ w' = w := by
  have hb := bitN_lt f
  go_enter Tryd.func18, Tryd.ntmps18
  go_wp2_with (go_at_call 26; refine (bit_calls f _).mono ?_; rintro e w' ⟨rfl, rfl⟩)
  go_ret
  exact ⟨congrArg (fun v => Ending.returned (.int .u64 v)) (bits_or_u64_nat _ _ (by omega) (by omega)), rfl⟩
theorem without_calls (s : Nat) (hs : s < 2 ^ 64) (f : Int) (w : World) : Calls Tryd.prog 19 #[.int .u64 s, .int .i64 f] w fun e w' => e = .returned (.int .u64 (andn s (bitN f) : Nat)) ∧ w' = w := by
  have hb := bitN_lt f
  go_enter Tryd.func19, Tryd.ntmps19
  go_wp2_with (go_at_call 26; refine (bit_calls f _).mono ?_; rintro e w' ⟨rfl, rfl⟩)
  go_ret
  exact ⟨congrArg (fun v => Ending.returned (.int .u64 v)) (bits_andNot_u64_nat _ _ (by omega) (by omega)), rfl⟩

/-- Integers in memory. -/
def IntsAt (w : World) (p : Option Addr) (l : List Int) : Prop := ∀ j (h : j < l.length), ∃ b off, p = some ⟨b, off, none⟩ ∧ w.cell? ⟨b, off + j, none⟩ = some (.int .i64 l[j])
def ofN (l : List Int) : Nat := l.foldl (fun s f => s ||| bitN f) 0
theorem ofN_take (l : List Int) (k : Nat) (h : k < l.length) : ofN (l.take (k + 1)) = ofN (l.take k) ||| bitN l[k] := by
  unfold ofN; rw [List.take_succ_eq_append_getElem h, List.foldl_append]; rfl
theorem or_fold_lt : ∀ (l : List Int) (s : Nat), s < 2 ^ 64 → l.foldl (fun s f => s ||| bitN f) s < 2 ^ 64
  | [], _, h => h
  | f :: l, s, h => or_fold_lt l _ (Nat.or_lt_two_pow h (bitN_lt f))
theorem ofN_lt (l : List Int) : ofN l < 2 ^ 64 := or_fold_lt l 0 (by decide)
theorem of_calls (l : List Int) (p : Option Addr) (c : Nat) (w : World) (hl : IntsAt w p l) (hm : l.length < 2 ^ 60) :
    Calls Tryd.prog 13 #[.slice p l.length c] w fun e w' => e = .returned (.int .u64 (ofN l)) ∧ w' = w := by
  go_enter Tryd.func13, Tryd.ntmps13
  go_wp2
  go_loopw [2, 7] (fun s i wr => ∃ k : Nat, k ≤ l.length ∧ s = .int .u64 (ofN (l.take k)) ∧ i = .int .i64 k ∧ wr = w) (fun _ i _ => l.length - (intOf i).toNat)
  case atStart => exact ⟨0, Nat.zero_le _, rfl, rfl, rfl⟩
  case round =>
    obtain ⟨k, hk, rfl, rfl, rfl⟩ := hrel
    by_cases h : k < l.length
    · obtain ⟨b, off, rfl, hc⟩ := hl k h
      have hb := bitN_lt l[k]
      have ho := ofN_lt (l.take k)
      go_wp2_with (go_at_call 26; refine (bit_calls l[k] _).mono ?_; rintro e w' ⟨rfl, rfl⟩)
      go_roundw
      case rel => exact ⟨k + 1, by omega, by rw [ofN_take _ _ h, bits_or_u64_nat _ _ (by omega) (by omega)], by go_num, trivial⟩
      case measure => simp [intOf]; omega
    · obtain rfl : k = l.length := by omega
      go_wp2
      go_ret
      exact ⟨congrArg (fun v => Ending.returned (.int .u64 v)) (by rw [List.take_length]), rfl⟩

theorem and_int (a b : Int) (x y : Nat) (ha : a = x) (hb : b = y) (hx : x < 2 ^ 64) (hy : y < 2 ^ 64) : bits .and .u64 a b = ((x &&& y : Nat) : Int) := by subst ha; subst hb; exact bits_and_u64_nat _ _ (by omega) (by omega)
theorem and_i64 (a b : Nat) (ha : a < 2 ^ 63) (hb : b < 2 ^ 63) : bits .and .i64 (a : Int) (b : Int) = ((a &&& b : Nat) : Int) := by
  have hx : a &&& b < 2 ^ 63 := Nat.and_lt_two_pow _ hb
  have h1 : (BitVec.ofInt 64 (a : Int)).toNat = a := by
    rw [BitVec.ofInt_natCast, BitVec.toNat_ofNat]; exact Nat.mod_eq_of_lt (by omega)
  have h2 : (BitVec.ofInt 64 (b : Int)).toNat = b := by
    rw [BitVec.ofInt_natCast, BitVec.toNat_ofNat]; exact Nat.mod_eq_of_lt (by omega)
  show IntKind.i64.wrap ((BitVec.ofInt 64 (a : Int) &&& BitVec.ofInt 64 (b : Int)).toNat : Int) = _
  rw [BitVec.toNat_and, h1, h2]
  simp only [IntKind.wrap, IntKind.bits, IntKind.signed]
  simp
  omega
theorem ones_calls (x : Nat) (hx : x < 2 ^ 64) (w : World) : Calls Tryd.prog 27 #[.int .u64 x] w fun e w' => e = .returned (.int .i64 (popN x)) ∧ w' = w := by
  have h1 := stage1_lt x hx
  have h2 := stage2_lt x hx
  have h3 := stages x hx
  obtain ⟨h4, h5, h6, h7, h8, h9⟩ := last x
  have s1 : IntKind.u64.wrap (bits .and .u64 ((x : Int) / 2) 6148914691236517205 + bits .and .u64 x 6148914691236517205) = (stage1 x : Int) := by
    have e1 := and_int ((x : Int) / 2) 6148914691236517205 (x / 2) 6148914691236517205 (by omega) rfl (by omega) (by decide)
    have e2 := and_int (x : Int) 6148914691236517205 x 6148914691236517205 rfl rfl hx (by decide)
    rw [e1, e2, IntKind.wrap_u64]
    unfold stage1 at h1 ⊢; omega
  have s2 : IntKind.u64.wrap (bits .and .u64 ((stage1 x : Int) / 4) 3689348814741910323 + bits .and .u64 (stage1 x : Int) 3689348814741910323) = (stage2 (stage1 x) : Int) := by
    generalize stage1 x = y at *
    have e1 := and_int ((y : Int) / 4) 3689348814741910323 (y / 4) 3689348814741910323 (by omega) rfl (by omega) (by decide)
    have e2 := and_int (y : Int) 3689348814741910323 y 3689348814741910323 rfl rfl h1 (by decide)
    rw [e1, e2, IntKind.wrap_u64]
    unfold stage2 at h2 ⊢; omega
  have s3 : bits .and .u64 (IntKind.u64.wrap ((stage2 (stage1 x) : Int) / 16 + (stage2 (stage1 x) : Int))) 1085102592571150095 = (over g3 8 x : Int) := by
    rw [← h3]
    generalize stage2 (stage1 x) = y at *
    have e1 := and_int (IntKind.u64.wrap ((y : Int) / 16 + (y : Int))) 1085102592571150095 (y / 16 + y) 1085102592571150095 (by rw [IntKind.wrap_u64]; omega) rfl h2 (by decide)
    rw [e1]
    rfl
  have s4 : IntKind.u64.wrap ((over g3 8 x : Int) + (over g3 8 x : Int) / 256) = ((over g3 8 x + over g3 8 x / 256 : Nat) : Int) := by rw [IntKind.wrap_u64]; omega
  generalize over g3 8 x = y at *
  clear h1 h2 h3
  have s5 : IntKind.u64.wrap (((y + y / 256 : Nat) : Int) + ((y + y / 256 : Nat) : Int) / 65536) = (((y + y / 256) + (y + y / 256) / 65536 : Nat) : Int) := by rw [IntKind.wrap_u64]; omega
  dsimp only at h4 h6 h7 h8 h9
  generalize y + y / 256 = y4 at *
  have s6 : IntKind.u64.wrap (((y4 + y4 / 65536 : Nat) : Int) + ((y4 + y4 / 65536 : Nat) : Int) / 4294967296) = (((y4 + y4 / 65536) + (y4 + y4 / 65536) / 4294967296 : Nat) : Int) := by rw [IntKind.wrap_u64]; omega
  generalize y4 + y4 / 65536 = y5 at *
  generalize y5 + y5 / 4294967296 = y6 at *
  go_enter Tryd.func27, Tryd.ntmps27
  go_wp2
  go_ret
  have e := and_i64 y6 127 h9 (by decide)
  rw [show y6 &&& 127 = y6 % 128 from Nat.and_two_pow_sub_one_eq_mod y6 7, ← h4] at e
  exact ⟨congrArg (fun v => Ending.returned (.int .i64 v)) e, rfl⟩
theorem len_calls (x : Nat) (hx : x < 2 ^ 64) (w : World) : Calls Tryd.prog 16 #[.int .u64 x] w fun e w' => e = .returned (.int .i64 (popN x)) ∧ w' = w := by
  go_enter Tryd.func16, Tryd.ntmps16
  go_wp2_with (go_at_call 27; refine (ones_calls x hx _).mono ?_; rintro e w' ⟨rfl, rfl⟩)
  go_ret
  exact ⟨rfl, rfl⟩
end Go.Proofs.YtbgbnaicbfakoaaDoor
