/- FloorsBoth, walked: whatever the set and the floor, it returns true. -/
import Derived.Test.YtbgbnaicbfakoaaDoorBoth1
import Derived.Test.YtbgbnaicbfakoaaDoorFin
import Derived.StillTailTactics
namespace Go.Proofs.YtbgbnaicbfakoaaDoor
open Go.RowKit Go.Shelf Go.Proofs.YtbgbnaicbfakoaaDoor.Iter
attribute [local go_sem] Oper.semAt_some

theorem kf {B : Nat} (W : World) (b : Nat) (u : Value) : KeepsFrom B W (W.setCell ⟨b, 0, none⟩ u) := (KeepsOthers.setCell _ _ _).from _

set_option maxRecDepth 100000 in
set_option maxHeartbeats 4000000 in
theorem both_calls (s : Nat) (hs : s < 2 ^ 64) (fr : Int) (hfr : -9223372036854775808 ≤ fr ∧ fr < 9223372036854775808) (w : World) (hT : TabAt 0 Lib.deBruijn64tab w) (h0 : 0 < w.heap.size) :
    Calls Tryd.prog 5 #[.int .u64 s, .int .i64 fr] w fun e w' => e = .returned (.bool true) ∧ Below w.heap.size w w' := by
  refine (callsIn_wide (n := 3)).1 ?_
  refine callsIn_of_wp_marks Tryd.func5 rfl trivial ?_ rfl
  simp only [Tryd.ntmps5, List.size_toArray, List.length_cons, List.length_nil, Nat.reduceAdd, Nat.reduceSub, Array.replicate_succ, Array.replicate_zero, List.push_toArray, List.append_toArray, List.nil_append, List.cons_append]
  have hB0 : Below w.heap.size w ((w.alloc (.cells #[.int .i64 fr] 3)).alloc (.cells #[.bool false] 4)) := d_balloc (d_balloc (Below.refl _ _) (Nat.le_refl _) _) (by simp) _
  have hsp := Lib.hid (speaks_calls ((w.alloc (.cells #[.int .i64 fr] 3)).alloc (.cells #[.bool false] 4)) (tab_below hT hB0 h0) (by simp))
  have HT := Lib.hid hT
  have HB0 := Lib.hid hB0
  clear hT hB0
  gi_wp2
  refine ⟨trivial, ?_⟩
  refine (callsIn_wide.2 hsp.out).mono ?_
  rintro e w1 ⟨rfl, hb1⟩
  have k3 : w1.heap[w.heap.size]? = some (.cells #[.int .i64 fr] 3 (0, 0)) := d_below (d_alloc (heap_alloc_new w _) _) hb1
  have k4 : w1.heap[w.heap.size + 1]? = some (.cells #[.bool false] 4 (0, 0)) := d_below (by simpa using heap_alloc_new (w.alloc (.cells #[.int .i64 fr] 3)) _) hb1
  have hB1 : Below w.heap.size w w1 := d_then HB0.out (by simp; omega) hb1
  clear hb1 hsp HB0
  have c3 : w1.cell? ⟨w.heap.size, 0, none⟩ = some (.int .i64 fr) := (d_cell k3 0).trans rfl
  have c4 : w1.cell? ⟨w.heap.size + 1, 0, none⟩ = some (.bool false) := (d_cell k4 0).trans rfl
  have f4 : w1.frozen? ⟨w.heap.size + 1, 0, none⟩ = false := d_frozen k4 0
  have K3 := Lib.hid k3
  have K4 := Lib.hid k4
  clear k3 k4
  by_cases hr : ¬ (0 ≤ fr ∧ fr ≤ 63)
  · have e4 := (d_cell (d_put K4.out 0 (.bool true) rfl) 0)
    by_cases hr0 : fr < 0
    · clear hr
      gi_wp2
      have e5 : ((w1.setCell ⟨w.heap.size + 1, 0, none⟩ (.bool true))).cell? ⟨w.heap.size + 1, 0, none⟩ = some (.bool true) := e4.trans rfl
      exact ret_plain (v := .bool true) (by simp [results, Tryd.f5, go_sem, e5]) ⟨rfl, hB1.setCell (by simp) _⟩
    · have hr1 : 63 < fr := by omega
      clear hr
      gi_wp2
      have e5 : ((w1.setCell ⟨w.heap.size + 1, 0, none⟩ (.bool true))).cell? ⟨w.heap.size + 1, 0, none⟩ = some (.bool true) := e4.trans rfl
      exact ret_plain (v := .bool true) (by simp [results, Tryd.f5, go_sem, e5]) ⟨rfl, hB1.setCell (by simp) _⟩
  have hr2 : 0 ≤ fr ∧ fr ≤ 63 := Classical.not_not.1 hr
  clear hr
  obtain ⟨r0, r1⟩ := hr2
  have c3' : (((((w1.alloc (.cells #[.int .u64 s] 26)).alloc (.cells #[.int .u64 0] 26)).alloc (.cells #[.int .i64 0] 3)).alloc (.cells #[.int .i64 (-1)] 3)).alloc (.cells #[.int .i64 (-1)] 3)).cell? ⟨w.heap.size, 0, none⟩ = some (.int .i64 fr) := d_cell_below (d_balloc (d_balloc (d_balloc (d_balloc (d_balloc (Below.refl _ _) (Nat.le_refl _) _) (by simp) _) (by simp; omega) _) (by simp; omega) _) (by simp; omega) _) c3
  gi_wp2_with (refine ⟨trivial, ?_⟩; gi_at_call 7; refine (callsIn_wide.2 (up_calls s fr _)).mono ?_; rintro e w2 ⟨rfl, rfl⟩)
  obtain ⟨w3, hw3⟩ : ∃ w3, (((((((w1.alloc (.cells #[.int .u64 s] 26)).alloc (.cells #[.int .u64 0] 26)).alloc (.cells #[.int .i64 0] 3)).alloc (.cells #[.int .i64 (-1)] 3)).alloc (.cells #[.int .i64 (-1)] 3)).alloc (.cells #[.int .u64 s] 26)).alloc (.cells #[.int .i64 fr] 3)) = w3 := ⟨_, rfl⟩
  have hsz : w3.heap.size = w1.heap.size + 7 := by rw [← hw3]; simp
  have hB3 : Below w1.heap.size w1 w3 := by rw [← hw3]; exact d_balloc (d_balloc (d_balloc (d_balloc (d_balloc (d_balloc (d_balloc (Below.refl _ _) (Nat.le_refl _) _) (by simp) _) (by simp; omega) _) (by simp; omega) _) (by simp; omega) _) (by simp; omega) _) (by simp; omega) _
  have q5 : w3.heap[w1.heap.size]? = some (.cells #[.int .u64 s] 26 (0, 0)) := by rw [← hw3]; exact d_alloc (d_alloc (d_alloc (d_alloc (d_alloc (d_alloc (heap_alloc_new _ _) _) _) _) _) _) _
  have q6 : w3.heap[w1.heap.size + 1]? = some (.cells #[.int .u64 0] 26 (0, 0)) := by rw [← hw3]; exact d_alloc (d_alloc (d_alloc (d_alloc (d_alloc (by simpa using heap_alloc_new (w1.alloc (.cells #[.int .u64 s] 26)) _) _) _) _) _) _
  have q7 : w3.heap[w1.heap.size + 1 + 1]? = some (.cells #[.int .i64 0] 3 (0, 0)) := by rw [← hw3]; exact d_alloc (d_alloc (d_alloc (d_alloc (by simpa using heap_alloc_new ((w1.alloc (.cells #[.int .u64 s] 26)).alloc (.cells #[.int .u64 0] 26)) _) _) _) _) _
  have q8 : w3.heap[w1.heap.size + 1 + 1 + 1]? = some (.cells #[.int .i64 (-1)] 3 (0, 0)) := by rw [← hw3]; exact d_alloc (d_alloc (d_alloc (by simpa using heap_alloc_new (((w1.alloc (.cells #[.int .u64 s] 26)).alloc (.cells #[.int .u64 0] 26)).alloc (.cells #[.int .i64 0] 3)) _) _) _) _
  have q9 : w3.heap[w1.heap.size + 1 + 1 + 1 + 1]? = some (.cells #[.int .i64 (-1)] 3 (0, 0)) := by rw [← hw3]; exact d_alloc (d_alloc (by simpa using heap_alloc_new ((((w1.alloc (.cells #[.int .u64 s] 26)).alloc (.cells #[.int .u64 0] 26)).alloc (.cells #[.int .i64 0] 3)).alloc (.cells #[.int .i64 (-1)] 3)) _) _) _
  have qa : w3.heap[w1.heap.size + 5]? = some (.cells #[.int .u64 s] 26 (0, 0)) := by rw [← hw3]; exact d_alloc (by simpa using heap_alloc_new (((((w1.alloc (.cells #[.int .u64 s] 26)).alloc (.cells #[.int .u64 0] 26)).alloc (.cells #[.int .i64 0] 3)).alloc (.cells #[.int .i64 (-1)] 3)).alloc (.cells #[.int .i64 (-1)] 3)) _) _
  have qb : w3.heap[w1.heap.size + 6]? = some (.cells #[.int .i64 fr] 3 (0, 0)) := by rw [← hw3]; simpa using heap_alloc_new ((((((w1.alloc (.cells #[.int .u64 s] 26)).alloc (.cells #[.int .u64 0] 26)).alloc (.cells #[.int .i64 0] 3)).alloc (.cells #[.int .i64 (-1)] 3)).alloc (.cells #[.int .i64 (-1)] 3)).alloc (.cells #[.int .u64 s] 26)) _
  have K33 := d_below K3.out hB3
  have K43 := d_below K4.out hB3
  have hBw3 : Below w.heap.size w w3 := d_then hB1 hB1.size hB3
  rw [hw3]
  have hM : w.heap.size + 2 ≤ w1.heap.size := by have h1 := d_lt K4.out; omega
  clear hw3 c3' hB3 hB1 K3 K4 c3 c4 f4
  have hT3 := tab_below HT.out hBw3 h0
  generalize w1.heap.size = M at *
  generalize hN : w.heap.size = N at *
  have hub : upX s fr ++ downX s (fr - 1) = both s fr := rfl
  have hlu : (upX s fr).length + (downX s (fr - 1)).length = (both s fr).length := by rw [← hub, List.length_append]
  obtain ⟨U, hU⟩ : ∃ U : Int, (((upX s fr).head?.map fun (x : Nat) => (x : Int)).getD (-1)) = U := ⟨_, rfl⟩
  refine Iter.law1 (n := 3) (q := 10) (by omega) (gf := 20) (lb := #[.pointer (some ⟨M + 5, 0, none⟩), .pointer (some ⟨M + 6, 0, none⟩)]) rfl (enters_of Tryd.func20 (by kernel_rfl) rfl)
    (S := fun b => b = 0 ∨ b = M + 5 ∨ b = M + 6) (T := T0) (xs := vals (upX s fr)) (up_iter 1 s hs fr (M + 5) (M + 6) w3 _ _ (.inl rfl) (.inr (.inl rfl)) (.inr (.inr rfl)) qa qb hT3)
    (fun b hb => by omega) (fun x hx => by simp [vals] at hx; obtain ⟨i, _, rfl⟩ := hx; rfl)
    (fun k W => (W.heap[N]? = some (.cells #[.int .i64 fr] 3 (0, 0)) ∧ W.heap[N + 1]? = some (.cells #[.bool false] 4 (0, 0)) ∧ W.heap[M]? = some (.cells #[.int .u64 s] 26 (0, 0)) ∧ W.heap[M + 1]? = some (.cells #[.int .u64 (ofN (toI ((both s fr).take k)) : Nat)] 26 (0, 0)) ∧ W.heap[M + 1 + 1]? = some (.cells #[.int .i64 k] 3 (0, 0)) ∧ W.heap[M + 1 + 1 + 1]? = some (.cells #[.int .i64 (if k = 0 then -1 else U)] 3 (0, 0)) ∧ W.heap[M + 1 + 1 + 1 + 1]? = some (.cells #[.int .i64 (-1)] 3 (0, 0))) ∧ Below N w W)
    (fun _ _ => False)
    ?hI ?hIx ⟨⟨K33, K43, q5, q6, q7, q8, q9⟩, hBw3⟩ ?hassign ?hbody ?hdone ?hstop
  case hI =>
    have hNs : N < w3.heap.size := by omega
    exact Abide.and (Abide.and (Abide.old _ hNs _) (Abide.and (Abide.old _ (by omega) _) (Abide.and (Abide.old _ (by omega) _) (Abide.and (Abide.old _ (by omega) _) (Abide.and (Abide.old _ (by omega) _) (Abide.and (Abide.old _ (by omega) _) (Abide.old _ (by omega) _))))))) (Abide.below _ (by omega) (by omega))
  case hIx => exact fun _ _ _ _ h _ _ => h.elim
  case hassign =>
    intro l x W K hK
    gi_wp2
    exact hK
  case hbody =>
    rintro l i hi x hx W hl ⟨r0, hr0⟩ ⟨⟨g3, g4, g5, g6, g7, g8, g9⟩, gB⟩
    clear hr0 q5 q6 q7 q8 q9 qa qb K33 K43 hBw3 hT3
    have hi' : i < (upX s fr).length := by simpa [vals] using hi
    have hib : i < (both s fr).length := by omega
    have hi64 : i < 64 := Nat.lt_of_lt_of_le hi' (upX_len s fr)
    have hgx : (both s fr)[i] = (upX s fr)[i] := by simp only [← hub]; exact List.getElem_append_left hi'
    have hxv : x = .int .i64 ((upX s fr)[i] : Nat) := by
      simp only [vals, List.getElem?_map, List.getElem?_eq_getElem hi', Option.map_some, Option.some.injEq] at hx
      injection hx with hx; injection hx with hx; exact hx.symm
    have hmem := mem_upX.1 (List.getElem_mem hi')
    have hh0 := has_not (both s fr) (nodup_both s fr) i hib
    have hst := seen_step (both s fr) i hib
    rw [hgx] at hh0 hst
    have hU0 : i = 0 → U = ((upX s fr)[i] : Nat) := fun e => by subst e; rw [← hU, List.head?_eq_getElem?, List.getElem?_eq_getElem hi']; rfl
    have hU1 : 0 ≤ U := by
      rw [← hU]
      cases hq : upX s fr with
      | nil => rw [hq] at hi'; simp at hi'
      | cons a l => simp
    subst hxv
    clear hx hgx
    generalize (upX s fr)[i] = y at *
    obtain ⟨hy1, hy2, hy3⟩ := hmem
    have hsl := ofN_lt (toI ((both s fr).take i))
    have HA := has_calls (ofN (toI ((both s fr).take i))) hsl y
    rw [hh0] at HA
    have HB := has_calls s hs y
    rw [has_in hy1 hy2] at HB
    have HW := with_calls (ofN (toI ((both s fr).take i))) hsl y
    rw [hst] at HW
    have HA2 := Lib.hid HA
    have HB2 := Lib.hid HB
    have HW2 := Lib.hid HW
    clear HA HB HW hh0 hst hsl hU hlu hub
    generalize ofN (toI ((both s fr).take i)) = se at *
    generalize hse' : ofN (toI ((both s fr).take (i + 1))) = se' at *
    have HSE := Lib.hid hse'
    clear hse'
    have c3 : W.cell? ⟨N, 0, none⟩ = some (.int .i64 fr) := (d_cell g3 0).trans rfl
    have c5 : W.cell? ⟨M, 0, none⟩ = some (.int .u64 s) := (d_cell g5 0).trans rfl
    have c6 : W.cell? ⟨M + 1, 0, none⟩ = some (.int .u64 se) := (d_cell g6 0).trans rfl
    have c7 : W.cell? ⟨M + 1 + 1, 0, none⟩ = some (.int .i64 i) := (d_cell g7 0).trans rfl
    have c8 : W.cell? ⟨M + 1 + 1 + 1, 0, none⟩ = some (.int .i64 (if i = 0 then -1 else U)) := (d_cell g8 0).trans rfl
    have f6 : W.frozen? ⟨M + 1, 0, none⟩ = false := d_frozen g6 0
    have f7 : W.frozen? ⟨M + 1 + 1, 0, none⟩ = false := d_frozen g7 0
    have f8 : W.frozen? ⟨M + 1 + 1 + 1, 0, none⟩ = false := d_frozen g8 0
    have G := Lib.hid (And.intro g3 (And.intro g4 (And.intro g5 (And.intro g6 (And.intro g7 (And.intro g8 g9))))))
    clear g3 g4 g5 g6 g7 g8 g9
    by_cases hi0 : i = 0
    · have hUy := hU0 hi0
      subst hi0
      clear hU0
      gi_wp2_with (first
        | (refine ⟨trivial, ?_⟩; gi_at_call 17; refine (CallsIn.inRound l (callsIn_wide.2 (HA2.out _))).mono ?_; rintro e wa ⟨rfl, hwa⟩; replace hwa := hwa.symm; subst hwa)
        | (refine ⟨trivial, ?_⟩; gi_at_call 17; refine (CallsIn.inRound l (callsIn_wide.2 (HB2.out _))).mono ?_; rintro e wa ⟨rfl, hwa⟩; replace hwa := hwa.symm; subst hwa)
        | (refine ⟨trivial, ?_⟩; gi_at_call 18; refine (CallsIn.inRound l (callsIn_wide.2 (HW2.out _))).mono ?_; rintro e wa ⟨rfl, hwa⟩; replace hwa := hwa.symm; subst hwa))
      obtain ⟨g3, g4, g5, g6, g7, g8, g9⟩ := G.out
      have s1 := d_put g8 0 (.int .i64 (y : Int)) rfl
      have s2 := d_put (d_oth g6 (.int .i64 (y : Int)) (b := M + 1 + 1 + 1) (by omega)) 0 (.int .u64 (se' : Int)) rfl
      refine ⟨((kf _ _ _).trans (kf _ _ _)).trans (kf _ _ _), ((Keeps.setCell g8 (by omega) (fun h => h) 0 _).trans (Keeps.setCell (d_oth g6 _ (by omega)) (by omega) (fun h => h) 0 _)).trans (Keeps.setCell (d_oth (d_oth g7 _ (by omega)) _ (by omega)) (by omega) (fun h => h) 0 _),
        ⟨d_oth (d_oth (d_oth g3 _ (by omega)) _ (by omega)) _ (by omega), d_oth (d_oth (d_oth g4 _ (by omega)) _ (by omega)) _ (by omega), d_oth (d_oth (d_oth g5 _ (by omega)) _ (by omega)) _ (by omega), ?_, d_put (d_oth (d_oth g7 _ (by omega)) _ (by omega)) 0 _ rfl, ?_, d_oth (d_oth (d_oth g9 _ (by omega)) _ (by omega)) _ (by omega)⟩, ((gB.setCell (by show N ≤ M + 1 + 1 + 1; omega) _).setCell (by show N ≤ M + 1; omega) _).setCell (by show N ≤ M + 1 + 1; omega) _⟩
      · rw [HSE.out]; exact d_oth s2 _ (by omega)
      · rw [if_neg (by omega), hUy]; exact d_oth (d_oth s1 _ (by omega)) _ (by omega)
    · rw [if_neg hi0] at c8
      gi_wp2_with (first
        | (refine ⟨trivial, ?_⟩; gi_at_call 17; refine (CallsIn.inRound l (callsIn_wide.2 (HA2.out _))).mono ?_; rintro e wa ⟨rfl, hwa⟩; replace hwa := hwa.symm; subst hwa)
        | (refine ⟨trivial, ?_⟩; gi_at_call 17; refine (CallsIn.inRound l (callsIn_wide.2 (HB2.out _))).mono ?_; rintro e wa ⟨rfl, hwa⟩; replace hwa := hwa.symm; subst hwa)
        | (refine ⟨trivial, ?_⟩; gi_at_call 18; refine (CallsIn.inRound l (callsIn_wide.2 (HW2.out _))).mono ?_; rintro e wa ⟨rfl, hwa⟩; replace hwa := hwa.symm; subst hwa))
      obtain ⟨g3, g4, g5, g6, g7, g8, g9⟩ := G.out
      rw [if_neg hi0] at g8
      have s2 := d_put g6 0 (.int .u64 (se' : Int)) rfl
      refine ⟨(kf _ _ _).trans (kf _ _ _), (Keeps.setCell g6 (by omega) (fun h => h) 0 _).trans (Keeps.setCell (d_oth g7 _ (by omega)) (by omega) (fun h => h) 0 _),
        ⟨d_oth (d_oth g3 _ (by omega)) _ (by omega), d_oth (d_oth g4 _ (by omega)) _ (by omega), d_oth (d_oth g5 _ (by omega)) _ (by omega), ?_, ?_, ?_, d_oth (d_oth g9 _ (by omega)) _ (by omega)⟩, (gB.setCell (by show N ≤ M + 1; omega) _).setCell (by show N ≤ M + 1 + 1; omega) _⟩
      · rw [HSE.out]; exact d_oth s2 _ (by omega)
      · exact d_put (d_oth g7 _ (by omega)) 0 _ rfl
      · rw [if_neg (by omega)]; exact d_oth (d_oth g8 _ (by omega)) _ (by omega)
  case hstop => exact fun _ _ _ _ h _ => h.elim
  case hdone =>
    rintro D W hD ⟨⟨g3, g4, g5, g6, g7, g8, g9⟩, gB⟩ hK
    clear q5 q6 q7 q8 q9 qa qb K33 K43 hBw3 hT3
    have hvl : (vals (upX s fr)).length = (upX s fr).length := by simp [vals]
    rw [hvl] at g6 g7 g8
    obtain ⟨L, hL⟩ : ∃ L, (upX s fr).length = L := ⟨_, rfl⟩
    have hUL : (if L = 0 then -1 else U) = U := by
      by_cases h : L = 0
      · rw [if_pos h, ← hU]
        cases hq : upX s fr with
        | nil => rfl
        | cons a l => rw [hq] at hL; simp at hL; omega
      · rw [if_neg h]
    rw [hL] at g6 g7 g8 hlu
    rw [hUL] at g8
    obtain ⟨V, hV⟩ : ∃ V : Int, (((downX s (fr - 1)).head?.map fun (x : Nat) => (x : Int)).getD (-1)) = V := ⟨_, rfl⟩
    have c3 : W.cell? ⟨N, 0, none⟩ = some (.int .i64 fr) := (d_cell g3 0).trans rfl
    have c5 : W.cell? ⟨M, 0, none⟩ = some (.int .u64 s) := (d_cell g5 0).trans rfl
    have hNW : N < W.heap.size := d_lt g3
    have hMW : M + 4 < W.heap.size := d_lt g9
    have hWB : Below W.heap.size W ((W.alloc (.cells #[.int .u64 s] 26)).alloc (.cells #[.int .i64 (fr - 1)] 3)) := d_balloc (d_balloc (Below.refl _ _) (Nat.le_refl _) _) (by simp) _
    have G := Lib.hid (And.intro (d_below g3 hWB) (And.intro (d_below g4 hWB) (And.intro (d_below g5 hWB) (And.intro (d_below g6 hWB) (And.intro (d_below g7 hWB) (And.intro (d_below g8 hWB) (And.intro (d_below g9 hWB) (And.intro (d_below hK hWB) (d_then gB (by omega) hWB)))))))))
    have qa : ((W.alloc (.cells #[.int .u64 s] 26)).alloc (.cells #[.int .i64 (fr - 1)] 3)).heap[W.heap.size]? = some (.cells #[.int .u64 s] 26 (0, 0)) := d_alloc (heap_alloc_new W _) _
    have qb : ((W.alloc (.cells #[.int .u64 s] 26)).alloc (.cells #[.int .i64 (fr - 1)] 3)).heap[W.heap.size + 1]? = some (.cells #[.int .i64 (fr - 1)] 3 (0, 0)) := by simpa using heap_alloc_new (W.alloc (.cells #[.int .u64 s] 26)) _
    have hsz2 : ((W.alloc (.cells #[.int .u64 s] 26)).alloc (.cells #[.int .i64 (fr - 1)] 3)).heap.size = W.heap.size + 2 := by simp
    have QA := Lib.hid qa
    have QB := Lib.hid qb
    have HSZ := Lib.hid hsz2
    clear qa qb hsz2 hWB g3 g4 g5 g6 g7 g8 g9 hK gB hUL hvl
    gi_wp2_with (refine ⟨trivial, ?_⟩; gi_at_call 8; refine (callsIn_wide.2 (down_calls s (fr - 1) _)).mono ?_; rintro e w2 ⟨rfl, rfl⟩)
    generalize hw4 : (W.alloc (.cells #[.int .u64 s] 26)).alloc (.cells #[.int .i64 (fr - 1)] 3) = w4 at *
    obtain ⟨g3, g4, g5, g6, g7, g8, g9, gD, gB⟩ := G.out
    have hsz4 := HSZ.out
    have hDW : D < w4.heap.size := d_lt gD
    clear hw4 G
    refine Iter.law1 (n := 3) (q := 11) (by omega) (gf := 22) (lb := #[.pointer (some ⟨W.heap.size, 0, none⟩), .pointer (some ⟨W.heap.size + 1, 0, none⟩)]) rfl (enters_of Tryd.func22 (by kernel_rfl) rfl)
      (S := fun b => b = W.heap.size ∨ b = W.heap.size + 1) (T := T0) (xs := vals (downX s (fr - 1))) (down_iter 1 s hs (fr - 1) (by omega) (W.heap.size) (W.heap.size + 1) w4 _ _ (.inl rfl) (.inr rfl) QA.out QB.out)
      (fun b hb => by omega) (fun x hx => by simp [vals] at hx; obtain ⟨i, _, rfl⟩ := hx; rfl)
      (fun k W' => (W'.heap[N]? = some (.cells #[.int .i64 fr] 3 (0, 0)) ∧ W'.heap[N + 1]? = some (.cells #[.bool false] 4 (0, 0)) ∧ W'.heap[M]? = some (.cells #[.int .u64 s] 26 (0, 0)) ∧ W'.heap[M + 1]? = some (.cells #[.int .u64 (ofN (toI ((both s fr).take (L + k))) : Nat)] 26 (0, 0)) ∧ W'.heap[M + 1 + 1]? = some (.cells #[.int .i64 ((L + k : Nat) : Int)] 3 (0, 0)) ∧ W'.heap[M + 1 + 1 + 1]? = some (.cells #[.int .i64 U] 3 (0, 0)) ∧ W'.heap[M + 1 + 1 + 1 + 1]? = some (.cells #[.int .i64 (if k = 0 then -1 else V)] 3 (0, 0)) ∧ W'.heap[D]? = some (.deferred (some []))) ∧ Below N w W')
      (fun _ _ => False)
      ?hI ?hIx ⟨⟨g3, g4, g5, g6, g7, g8, g9, gD⟩, gB⟩ ?hassign ?hbody ?hdone ?hstop
    case hI =>
      exact Abide.and (Abide.and (Abide.old _ (by omega) _) (Abide.and (Abide.old _ (by omega) _) (Abide.and (Abide.old _ (by omega) _) (Abide.and (Abide.old _ (by omega) _) (Abide.and (Abide.old _ (by omega) _) (Abide.and (Abide.old _ (by omega) _) (Abide.and (Abide.old _ (by omega) _) (Abide.old _ hDW _)))))))) (Abide.below _ (by omega) (by omega))
    case hIx => exact fun _ _ _ _ h _ _ => h.elim
    case hassign =>
      intro l x W K hK
      gi_wp2
      exact hK
    case hstop => exact fun _ _ _ _ h _ => h.elim
    case hbody =>
      rintro l i hi x hx W5 hl ⟨r0, hr0⟩ ⟨⟨g3, g4, g5, g6, g7, g8, g9, gD⟩, gB⟩
      clear hr0 QA QB HSZ
      have hi' : i < (downX s (fr - 1)).length := by simpa [vals] using hi
      have hib : L + i < (both s fr).length := by omega
      have hi64 : L + i < 64 := Nat.lt_of_lt_of_le hib (both_len s fr)
      have hgx : (both s fr)[L + i] = (downX s (fr - 1))[i] := by
        have e : ∀ (l : List Nat) (h : L + i < l.length), l = upX s fr ++ downX s (fr - 1) → l[L + i] = (downX s (fr - 1))[i] := by
          intro l h e; subst e
          rw [List.getElem_append_right (by omega)]
          congr 1; omega
        exact e _ hib rfl
      have hxv : x = .int .i64 ((downX s (fr - 1))[i] : Nat) := by
        simp only [vals, List.getElem?_map, List.getElem?_eq_getElem hi', Option.map_some, Option.some.injEq] at hx
        injection hx with hx; injection hx with hx; exact hx.symm
      have hmem := mem_downX.1 (List.getElem_mem hi')
      have hh0 := has_not (both s fr) (nodup_both s fr) (L + i) hib
      have hst := seen_step (both s fr) (L + i) hib
      rw [hgx] at hh0 hst
      have hV0 : i = 0 → V = ((downX s (fr - 1))[i] : Nat) := fun e => by subst e; rw [← hV, List.head?_eq_getElem?, List.getElem?_eq_getElem hi']; rfl
      have hV1 : 0 ≤ V := by
        rw [← hV]
        cases hq : downX s (fr - 1) with
        | nil => rw [hq] at hi'; simp at hi'
        | cons a l => simp
      subst hxv
      clear hx hgx
      generalize (downX s (fr - 1))[i] = y at *
      obtain ⟨hy1, hy2, hy3⟩ := hmem
      have hy4 : (y : Int) < fr := by omega
      have hsl := ofN_lt (toI ((both s fr).take (L + i)))
      have HA := has_calls (ofN (toI ((both s fr).take (L + i)))) hsl y
      rw [hh0] at HA
      have HB := has_calls s hs y
      rw [has_in hy1 hy2] at HB
      have HW := with_calls (ofN (toI ((both s fr).take (L + i)))) hsl y
      rw [hst] at HW
      have HA2 := Lib.hid HA
      have HB2 := Lib.hid HB
      have HW2 := Lib.hid HW
      clear HA HB HW hh0 hst hsl hU hV hlu hub hL hy3
      generalize ofN (toI ((both s fr).take (L + i))) = se at *
      generalize hse' : ofN (toI ((both s fr).take (L + i + 1))) = se' at *
      have HSE := Lib.hid hse'
      clear hse'
      obtain ⟨q, hq⟩ : ∃ q : Nat, L + i = q := ⟨_, rfl⟩
      rw [hq] at g7 hi64
      have HQ := Lib.hid hq
      clear hq hib
      have c3 : W5.cell? ⟨N, 0, none⟩ = some (.int .i64 fr) := (d_cell g3 0).trans rfl
      have c5 : W5.cell? ⟨M, 0, none⟩ = some (.int .u64 s) := (d_cell g5 0).trans rfl
      have c6 : W5.cell? ⟨M + 1, 0, none⟩ = some (.int .u64 se) := (d_cell g6 0).trans rfl
      have c7 : W5.cell? ⟨M + 1 + 1, 0, none⟩ = some (.int .i64 q) := (d_cell g7 0).trans rfl
      have c9 : W5.cell? ⟨M + 1 + 1 + 1 + 1, 0, none⟩ = some (.int .i64 (if i = 0 then -1 else V)) := (d_cell g9 0).trans rfl
      have f6 : W5.frozen? ⟨M + 1, 0, none⟩ = false := d_frozen g6 0
      have f7 : W5.frozen? ⟨M + 1 + 1, 0, none⟩ = false := d_frozen g7 0
      have f9 : W5.frozen? ⟨M + 1 + 1 + 1 + 1, 0, none⟩ = false := d_frozen g9 0
      have hDs : ∀ b, b ≤ M + 4 → D ≠ b := fun b hb => by omega
      have G := Lib.hid (And.intro g3 (And.intro g4 (And.intro g5 (And.intro g6 (And.intro g7 (And.intro g8 (And.intro g9 gD)))))))
      clear g3 g4 g5 g6 g7 g8 g9 gD
      by_cases hi0 : i = 0
      · have hVy := hV0 hi0
        subst hi0
        clear hV0
        gi_wp2_with (first
          | (refine ⟨trivial, ?_⟩; gi_at_call 17; refine (CallsIn.inRound l (callsIn_wide.2 (HA2.out _))).mono ?_; rintro e wa ⟨rfl, hwa⟩; replace hwa := hwa.symm; subst hwa)
          | (refine ⟨trivial, ?_⟩; gi_at_call 17; refine (CallsIn.inRound l (callsIn_wide.2 (HB2.out _))).mono ?_; rintro e wa ⟨rfl, hwa⟩; replace hwa := hwa.symm; subst hwa)
          | (refine ⟨trivial, ?_⟩; gi_at_call 18; refine (CallsIn.inRound l (callsIn_wide.2 (HW2.out _))).mono ?_; rintro e wa ⟨rfl, hwa⟩; replace hwa := hwa.symm; subst hwa))
        obtain ⟨g3, g4, g5, g6, g7, g8, g9, gD⟩ := G.out
        have s1 := d_put g9 0 (.int .i64 (y : Int)) rfl
        have s2 := d_put (d_oth g6 (.int .i64 (y : Int)) (b := M + 1 + 1 + 1 + 1) (by omega)) 0 (.int .u64 (se' : Int)) rfl
        refine ⟨((kf _ _ _).trans (kf _ _ _)).trans (kf _ _ _), ((Keeps.setCell g9 (by omega) (fun h => h) 0 _).trans (Keeps.setCell (d_oth g6 _ (by omega)) (by omega) (fun h => h) 0 _)).trans (Keeps.setCell (d_oth (d_oth g7 _ (by omega)) _ (by omega)) (by omega) (fun h => h) 0 _),
          ⟨d_oth (d_oth (d_oth g3 _ (by omega)) _ (by omega)) _ (by omega), d_oth (d_oth (d_oth g4 _ (by omega)) _ (by omega)) _ (by omega), d_oth (d_oth (d_oth g5 _ (by omega)) _ (by omega)) _ (by omega), ?_, ?_, d_oth (d_oth (d_oth g8 _ (by omega)) _ (by omega)) _ (by omega), ?_, d_oth (d_oth (d_oth gD _ (hDs _ (by omega))) _ (hDs _ (by omega))) _ (hDs _ (by omega))⟩, ((gB.setCell (by show N ≤ M + 1 + 1 + 1 + 1; omega) _).setCell (by show N ≤ M + 1; omega) _).setCell (by show N ≤ M + 1 + 1; omega) _⟩
        · rw [show L + (0 + 1) = L + 0 + 1 by omega, HSE.out]; exact d_oth s2 _ (by omega)
        · rw [show ((L + (0 + 1) : Nat) : Int) = (q : Int) + 1 by have := HQ.out; omega]; exact d_put (d_oth (d_oth g7 _ (by omega)) _ (by omega)) 0 _ rfl
        · rw [if_neg (by omega), hVy]; exact d_oth (d_oth s1 _ (by omega)) _ (by omega)
      · rw [if_neg hi0] at c9
        gi_wp2_with (first
          | (refine ⟨trivial, ?_⟩; gi_at_call 17; refine (CallsIn.inRound l (callsIn_wide.2 (HA2.out _))).mono ?_; rintro e wa ⟨rfl, hwa⟩; replace hwa := hwa.symm; subst hwa)
          | (refine ⟨trivial, ?_⟩; gi_at_call 17; refine (CallsIn.inRound l (callsIn_wide.2 (HB2.out _))).mono ?_; rintro e wa ⟨rfl, hwa⟩; replace hwa := hwa.symm; subst hwa)
          | (refine ⟨trivial, ?_⟩; gi_at_call 18; refine (CallsIn.inRound l (callsIn_wide.2 (HW2.out _))).mono ?_; rintro e wa ⟨rfl, hwa⟩; replace hwa := hwa.symm; subst hwa))
        obtain ⟨g3, g4, g5, g6, g7, g8, g9, gD⟩ := G.out
        rw [if_neg hi0] at g9
        have s2 := d_put g6 0 (.int .u64 (se' : Int)) rfl
        refine ⟨(kf _ _ _).trans (kf _ _ _), (Keeps.setCell g6 (by omega) (fun h => h) 0 _).trans (Keeps.setCell (d_oth g7 _ (by omega)) (by omega) (fun h => h) 0 _),
          ⟨d_oth (d_oth g3 _ (by omega)) _ (by omega), d_oth (d_oth g4 _ (by omega)) _ (by omega), d_oth (d_oth g5 _ (by omega)) _ (by omega), ?_, ?_, d_oth (d_oth g8 _ (by omega)) _ (by omega), ?_, d_oth (d_oth gD _ (hDs _ (by omega))) _ (hDs _ (by omega))⟩, (gB.setCell (by show N ≤ M + 1; omega) _).setCell (by show N ≤ M + 1 + 1; omega) _⟩
        · rw [show L + (i + 1) = L + i + 1 by omega, HSE.out]; exact d_oth s2 _ (by omega)
        · rw [show ((L + (i + 1) : Nat) : Int) = (q : Int) + 1 by have := HQ.out; omega]; exact d_put (d_oth g7 _ (by omega)) 0 _ rfl
        · rw [if_neg (by omega)]; exact d_oth (d_oth g9 _ (by omega)) _ (by omega)
    case hdone =>
      rintro E W5 hE ⟨⟨g3, g4, g5, g6, g7, g8, g9, gD⟩, gB⟩ hKE
      have hvl : (vals (downX s (fr - 1))).length = (downX s (fr - 1)).length := by simp [vals]
      have hVL : (if (downX s (fr - 1)).length = 0 then -1 else V) = V := by
        by_cases h : (downX s (fr - 1)).length = 0
        · rw [if_pos h, ← hV]
          cases hq : downX s (fr - 1) with
          | nil => rfl
          | cons a l => rw [hq] at h; simp at h
        · rw [if_neg h]
      rw [hvl, hlu, List.take_length, seen_both s hs] at g6
      rw [hvl, hlu, len_both] at g7
      rw [hvl, hVL] at g9
      have c3 : W5.cell? ⟨N, 0, none⟩ = some (.int .i64 fr) := (d_cell g3 0).trans rfl
      have c5 : W5.cell? ⟨M, 0, none⟩ = some (.int .u64 s) := (d_cell g5 0).trans rfl
      have hT5 := tab_below HT.out (by rw [hN]; exact gB) (by rw [hN]; exact h0)
      have hnear := Lib.hid (near_calls s hs fr W5 hT5 (by have := d_lt g3; omega))
      obtain ⟨hn1, hn2⟩ := near_both s hs fr r0 r1
      rw [hU, hV] at hn2
      rw [len_both] at hn1
      have HN1 := Lib.hid hn1
      have HN2 := Lib.hid hn2
      clear hn1 hn2
      have G := Lib.hid (And.intro g3 (And.intro g4 (And.intro g5 (And.intro g6 (And.intro g7 (And.intro g8 (And.intro g9 (And.intro gD hKE))))))))
      have GB := Lib.hid gB
      clear g3 g4 g5 g6 g7 g8 g9 gD gB hKE QA QB HSZ hvl hVL hT5 hU hV hL hlu hub
      generalize hnr : nearN s fr = nr at *
      obtain ⟨nv, nb⟩ := nr
      have HNR := Lib.hid hnr
      clear hnr
      gi_wp2_with (refine ⟨trivial, ?_⟩; gi_at_call 10; refine (callsIn_wide.2 hnear.out).mono ?_; rintro e w6 ⟨rfl, hb6⟩)
      obtain ⟨g3, g4, g5, g6, g7, g8, g9, gD, gE⟩ := G.out
      have hDE : D ≠ E := by have := d_lt gD; omega
      have hD4 : D ≠ N + 1 := by omega
      have hE4 : E ≠ N + 1 := by omega
      have c5' : w6.cell? ⟨M, 0, none⟩ = some (.int .u64 s) := (d_cell (d_below g5 hb6) 0).trans rfl
      have c6' : w6.cell? ⟨M + 1, 0, none⟩ = some (.int .u64 s) := (d_cell (d_below g6 hb6) 0).trans rfl
      have c7' : w6.cell? ⟨M + 1 + 1, 0, none⟩ = some (.int .i64 (popN s)) := (d_cell (d_below g7 hb6) 0).trans rfl
      have c8' : w6.cell? ⟨M + 1 + 1 + 1, 0, none⟩ = some (.int .i64 U) := (d_cell (d_below g8 hb6) 0).trans rfl
      have c9' : w6.cell? ⟨M + 1 + 1 + 1 + 1, 0, none⟩ = some (.int .i64 V) := (d_cell (d_below g9 hb6) 0).trans rfl
      have k4 := d_below g4 hb6
      have kD := d_below gD hb6
      have kE := d_below gE hb6
      have c4' : w6.cell? ⟨N + 1, 0, none⟩ = some (.bool false) := (d_cell k4 0).trans rfl
      have f4' : w6.frozen? ⟨N + 1, 0, none⟩ = false := d_frozen k4 0
      have hB6 : Below N w w6 := d_then GB.out (by have := d_lt g3; omega) hb6
      have hend : bodyPostM Fence.wide 3 Tryd.prog Tryd.f5 (fun e w' => e = Ending.returned (Value.bool true) ∧ Below w.heap.size w w') .ret
          { tmps := #[], defers := [] } w6 → True := fun _ => trivial
      have K4 := Lib.hid (And.intro k4 (And.intro kD (And.intro kE hB6)))
      clear g3 g4 g5 g6 g7 g8 g9 gD gE k4 kD kE hB6 hb6 c3 c5 hend G GB
      cases nb with
      | false =>
        have hn1 := HN1.out
        have hp0 : popN s = 0 := by simpa using hn1
        rw [hp0] at c7'
        have hlen := len_calls s hs
        rw [hp0] at hlen
        clear hn1 hp0 HN1 HN2
        refine wpIn_wide.2 ?_
        go_still_tail 29, (by kernel_rfl)
        still_call (hlen _)
        repeat still_step
        refine wpStill_nil ?_
        change wpList _ _ _ _ _ w6.drew
        go_wp2
        gi_wp2
        exact fin_both rfl K4.out.1 K4.out.2.1 K4.out.2.2.1 K4.out.2.2.2 hDE hD4 hE4 hN (by omega) (by omega)
      | true =>
        have hn1 := HN1.out
        have hn2 := HN2.out
        have hp0 : 0 < popN s := by simpa using hn1.symm
        have hp1 : (0 : Int) < (popN s : Int) := by omega
        have hlen := len_calls s hs
        have hor := hn2 rfl
        clear hn1 hn2
        by_cases hnu : nv = U
        · subst hnu
          clear hor
          refine wpIn_wide.2 ?_
          go_still_tail 29, (by kernel_rfl)
          still_call (hlen _)
          repeat still_step
          refine wpStill_nil ?_
          change wpList _ _ _ _ _ w6.drew
          go_wp2
          gi_wp2
          exact fin_both rfl K4.out.1 K4.out.2.1 K4.out.2.2.1 K4.out.2.2.2 hDE hD4 hE4 hN (by omega) (by omega)
        · have hnd : nv = V := hor.resolve_left hnu
          have hnb : (nv == U) = false := by simpa using hnu
          subst hnd
          clear hor
          refine wpIn_wide.2 ?_
          go_still_tail 29, (by kernel_rfl)
          still_call (hlen _)
          repeat still_step
          refine wpStill_nil ?_
          change wpList _ _ _ _ _ w6.drew
          go_wp2
          gi_wp2
          exact fin_both rfl K4.out.1 K4.out.2.1 K4.out.2.2.1 K4.out.2.2.2 hDE hD4 hE4 hN (by omega) (by omega)
end Go.Proofs.YtbgbnaicbfakoaaDoor
