/- Rising from a floor and falling from the one below it: the plain facts. -/
import Derived.Test.YtbgbnaicbfakoaaDoorTold1
namespace Go.Proofs.YtbgbnaicbfakoaaDoor

theorem upN_bit (s : Nat) (fr : Int) (i : Nat) (hi : i < 64) : (upN s fr).testBit i = (s.testBit i && decide (fr ≤ i)) := by
  unfold upN; rw [testBit_andn, testBit_toN]; congr 1; rw [Bool.eq_iff_iff]; simp; omega
theorem downN_bit (s : Nat) (fr : Int) (i : Nat) (hi : i < 64) : (downN s fr).testBit i = (s.testBit i && decide ((i : Int) ≤ fr)) := by
  unfold downN; split
  · rw [Nat.testBit_and, testBit_toN]; congr 1; rw [Bool.eq_iff_iff]; simp; omega
  · have : (i : Int) ≤ fr := by omega
    simp [this]
theorem upX_eq (s : Nat) (fr : Int) : upX s fr = (elems s).filter (fun (i : Nat) => decide (fr ≤ (i : Int))) := by
  unfold upX elems
  rw [List.filter_filter]
  apply List.filter_congr
  intro i hi
  simp at hi
  rw [upN_bit s fr i hi, Bool.and_comm]
theorem downX_eq (s : Nat) (fr : Int) : downX s fr = ((elems s).filter (fun (i : Nat) => decide ((i : Int) ≤ fr))).reverse := by
  unfold downX elems
  rw [List.filter_filter]
  congr 1
  apply List.filter_congr
  intro i hi
  simp at hi
  rw [downN_bit s fr i hi, Bool.and_comm]
theorem mem_upX {s : Nat} {fr : Int} {i : Nat} : i ∈ upX s fr ↔ i < 64 ∧ s.testBit i = true ∧ fr ≤ i := by
  rw [upX_eq, List.mem_filter, mem_elems]; simp [and_assoc]
theorem mem_downX {s : Nat} {fr : Int} {i : Nat} : i ∈ downX s fr ↔ i < 64 ∧ s.testBit i = true ∧ (i : Int) ≤ fr := by
  rw [downX_eq, List.mem_reverse, List.mem_filter, mem_elems]; simp [and_assoc]
theorem nodup_elems (s : Nat) : (elems s).Nodup := List.Pairwise.filter _ List.nodup_range
theorem nodup_up (s : Nat) (fr : Int) : (upX s fr).Nodup := by rw [upX_eq]; exact List.Pairwise.filter _ (nodup_elems s)
theorem nodup_down (s : Nat) (fr : Int) : (downX s fr).Nodup := by rw [downX_eq]; exact List.pairwise_reverse.2 ((List.Pairwise.filter _ (nodup_elems s)).imp fun h e => h e.symm)
/-- All floors, rising from one, then falling from the one below. -/
def both (s : Nat) (fr : Int) : List Nat := upX s fr ++ downX s (fr - 1)
theorem nodup_both (s : Nat) (fr : Int) : (both s fr).Nodup := by
  unfold both
  rw [List.nodup_append]
  exact ⟨nodup_up s fr, nodup_down s _, fun a ha b hb e => by subst e; have := (mem_upX.1 ha).2.2; have := (mem_downX.1 hb).2.2; omega⟩
theorem mem_both {s : Nat} {fr : Int} {i : Nat} : i ∈ both s fr ↔ i < 64 ∧ s.testBit i = true := by
  unfold both
  rw [List.mem_append, mem_upX, mem_downX]
  constructor
  · rintro (h | h)
    · exact ⟨h.1, h.2.1⟩
    · exact ⟨h.1, h.2.1⟩
  · intro h
    by_cases e : fr ≤ (i : Int)
    · exact .inl ⟨h.1, h.2, e⟩
    · exact .inr ⟨h.1, h.2, by omega⟩
theorem seen_bit (l : List Nat) (i : Nat) (hi : i < 64) : (ofN (toI l)).testBit i = decide (i ∈ l) := by
  rw [ofN_bit _ i hi]; unfold inL toI; rw [Bool.eq_iff_iff]; simp only [List.mem_map, decide_eq_true_eq]; constructor
  · rintro ⟨a, h, e⟩
    obtain rfl : a = i := by omega
    exact h
  · exact fun h => ⟨i, h, rfl⟩
theorem seen_both (s : Nat) (hs : s < 2 ^ 64) (fr : Int) : ofN (toI (both s fr)) = s :=
  ext64 (ofN_lt _) hs fun i hi => by
    rw [seen_bit _ i hi, Bool.eq_iff_iff]; simp [mem_both, hi]
theorem filter_len (p : Nat → Bool) : ∀ l : List Nat, (l.filter p).length + (l.filter fun a => !p a).length = l.length
  | [] => rfl
  | a :: l => by
    have := filter_len p l
    cases h : p a <;> simp [List.filter, h] <;> omega
theorem len_both (s : Nat) (fr : Int) : (both s fr).length = popN s := by
  unfold both popN
  rw [List.length_append, upX_eq, downX_eq, List.length_reverse]
  rw [← filter_len (fun (i : Nat) => decide (fr ≤ (i : Int))) (elems s)]
  congr 2
  apply List.filter_congr
  intro i _
  rw [Bool.eq_iff_iff]; simp; omega
theorem seen_step (l : List Nat) (k : Nat) (h : k < l.length) : ofN (toI (l.take k)) ||| bitN (l[k] : Int) = ofN (toI (l.take (k + 1))) := by
  have := ofN_take (toI l) k (by simpa [toI] using h)
  rw [show toI (l.take k) = (toI l).take k from by simp [toI], show toI (l.take (k + 1)) = (toI l).take (k + 1) from by simp [toI], this]
  simp [toI]
theorem has_not (l : List Nat) (hn : l.Nodup) (k : Nat) (h : k < l.length) : hasN (ofN (toI (l.take k))) (l[k] : Int) = false := by
  unfold hasN
  by_cases h64 : l[k] < 64
  · rw [show ((l[k] : Nat) : Int).toNat = l[k] from by simp, seen_bit _ _ h64]
    have : l[k] ∉ l.take k := by
      intro hm
      obtain ⟨j, hj, e⟩ := List.mem_iff_getElem.1 hm
      rw [List.getElem_take] at e
      have hjk : j < k := by simp at hj; omega
      exact List.pairwise_iff_getElem.1 hn j k (by omega) h hjk e
    simp [this]
  · have : ¬ (0 ≤ ((l[k] : Nat) : Int) ∧ ((l[k] : Nat) : Int) < 64) := by omega
    rw [decide_eq_false this]; rfl
theorem has_in {s i : Nat} (h : i < 64) (h2 : s.testBit i = true) : hasN s (i : Int) = true := by
  unfold hasN; rw [decide_eq_true (show 0 ≤ (i : Int) ∧ (i : Int) < 64 by omega)]; simp [h2]

theorem near_both (s : Nat) (hs : s < 2 ^ 64) (fr : Int) (h0 : 0 ≤ fr) (h1 : fr ≤ 63) :
    (nearN s fr).2 = decide (0 < (both s fr).length) ∧ ((nearN s fr).2 = true → (nearN s fr).1 = (((upX s fr).head?.map fun (x : Nat) => (x : Int)).getD (-1)) ∨ (nearN s fr).1 = (((downX s (fr - 1)).head?.map fun (x : Nat) => (x : Int)).getD (-1))) := by
  have hc : clampN fr = fr := by unfold clampN; omega
  have hcase : (downX s fr = downX s (fr - 1)) ∨ ((downX s fr).head? = some fr.toNat ∧ (upX s fr).head? = some fr.toNat) := by
    by_cases hb : s.testBit fr.toNat = true
    · right
      constructor
      · unfold downX
        have ht : (downN s fr).testBit fr.toNat = true := by rw [downN_bit s fr _ (by omega), hb]; simp; omega
        rw [elems_back (downN s fr) (andn (downN s fr) (bitN fr)) fr.toNat (by omega) ht (fun i hi => by
          by_cases h64 : i < 64
          · rw [downN_bit s fr i h64]
            have : ¬ ((i : Int) ≤ fr) := by omega
            simp [this]
          · exact Nat.testBit_lt_two_pow (Nat.lt_of_lt_of_le (downN_lt hs fr) (Nat.pow_le_pow_right (by omega) (by omega)))) (fun i hi => by
          rw [testBit_andn, testBit_bitN]; congr 1; rw [Bool.eq_iff_iff]; simp; omega)]
        simp
      · unfold upX
        have ht : (upN s fr).testBit fr.toNat = true := by rw [upN_bit s fr _ (by omega), hb]; simp; omega
        rw [elems_step (upN s fr) fr.toNat (by omega) ht (fun i hi => by
          rw [upN_bit s fr i (by omega)]
          have : ¬ (fr ≤ (i : Int)) := by omega
          simp [this])]
        simp
    · left
      rw [downX_eq, downX_eq]
      congr 1
      apply List.filter_congr
      intro i hi
      have h1 := (mem_elems.1 hi).2
      rw [Bool.eq_iff_iff]
      simp only [decide_eq_true_eq]
      constructor
      · intro h
        rcases Int.lt_or_eq_of_le h with h' | h'
        · omega
        · exfalso; apply hb; rw [show fr.toNat = i by omega]; exact h1
      · intro h; omega
  have hlen : decide (0 < (both s fr).length) = ((upX s fr).head?.isSome || (downX s (fr - 1)).head?.isSome) := by
    unfold both
    cases upX s fr <;> cases downX s (fr - 1) <;> simp
  rw [hlen]
  unfold nearN
  rw [hc]
  rcases hcase with h | ⟨h1, h2⟩
  · rw [h]
    cases hu : (upX s fr).head? with
    | none => cases hd : (downX s (fr - 1)).head? <;> simp
    | some x =>
      cases hd : (downX s (fr - 1)).head? with
      | none => simp
      | some y =>
        simp only [Option.isSome_some, Bool.not_true, Bool.false_or, Bool.true_and, Option.getD_some, Option.map_some]
        by_cases hlt : (x : Int) - fr < fr - (y : Int)
        · simp [hlt]
        · simp [hlt]
  · rw [h1, h2]
    have : (max fr 0 - fr < fr - max fr 0) = False := by simp; omega
    simp
theorem elems_len (s : Nat) : (elems s).length ≤ 64 := Nat.le_trans (List.length_filter_le _ _) (by simp)
theorem upX_len (s : Nat) (fr : Int) : (upX s fr).length ≤ 64 := elems_len _
theorem both_len (s : Nat) (fr : Int) : (both s fr).length ≤ 64 := by rw [len_both]; exact elems_len s
end Go.Proofs.YtbgbnaicbfakoaaDoor
