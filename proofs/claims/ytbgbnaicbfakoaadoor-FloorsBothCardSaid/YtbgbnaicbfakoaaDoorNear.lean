/- floors.first, Set.Up, Set.Down and Set.Nearest, walked. -/
import Derived.Test.YtbgbnaicbfakoaaDoorUp
namespace Go.Proofs.YtbgbnaicbfakoaaDoor
open Go.RowKit Go.Shelf Go.Proofs.YtbgbnaicbfakoaaDoor.Iter
attribute [local go_sem] Oper.semAt_some

theorem up_calls (s : Nat) (fr : Int) (w : World) : Calls Tryd.prog 7 #[.int .u64 s, .int .i64 fr] w fun e w' =>
    e = .returned (.func (.func 20) #[] #[.pointer (some ⟨w.heap.size, 0, none⟩), .pointer (some ⟨w.heap.size + 1, 0, none⟩)]) ∧ w' = (w.alloc (.cells #[.int .u64 s] 26)).alloc (.cells #[.int .i64 fr] 3) := by
  go_enter Tryd.func7, Tryd.ntmps7
  go_wp2
  go_ret
  exact ⟨by simp, rfl⟩
theorem down_calls (s : Nat) (fr : Int) (w : World) : Calls Tryd.prog 8 #[.int .u64 s, .int .i64 fr] w fun e w' =>
    e = .returned (.func (.func 22) #[] #[.pointer (some ⟨w.heap.size, 0, none⟩), .pointer (some ⟨w.heap.size + 1, 0, none⟩)]) ∧ w' = (w.alloc (.cells #[.int .u64 s] 26)).alloc (.cells #[.int .i64 fr] 3) := by
  go_enter Tryd.func8, Tryd.ntmps8
  go_wp2
  go_ret
  exact ⟨by simp, rfl⟩

set_option maxRecDepth 100000 in
set_option maxHeartbeats 2000000 in
theorem first_calls (xs : List Nat) (gf : Nat) (lb : Array Value) (eg : ∀ args w, (callFunc gf args).run Tryd.prog w = .ok (.enter gf args) w) (w : World) (S : Nat → Prop) (hS : ∀ b, S b → b < w.heap.size) (hseq : Iter 2 Tryd.prog gf lb S T0 (vals xs) w) :
    Calls Tryd.prog 25 #[.func (.func gf) #[] lb] w fun e w' => e = .returned (.tuple #[.int .i64 (xs.head?.getD 0 : Nat), .bool (xs.head?.isSome)]) ∧ Below w.heap.size w w' := by
  refine (callsIn_wide (n := 3)).1 ?_
  refine callsIn_of_wp_marks Tryd.func25 rfl trivial ?_ rfl
  simp only [Tryd.ntmps25, List.size_toArray, List.length_cons, List.length_nil, Nat.reduceAdd, Nat.reduceSub, Array.replicate_succ, Array.replicate_zero, List.push_toArray, List.append_toArray, List.nil_append, List.cons_append]
  gi_wp2
  obtain ⟨w1, hw1⟩ : ∃ w1, (w.alloc (.cells #[.int .i64 0] 3)).alloc (.cells #[.bool false] 4) = w1 := ⟨_, rfl⟩
  have hsz : w1.heap.size = w.heap.size + 2 := by rw [← hw1]; simp
  have hr1 : w1.heap[w.heap.size]? = some (.cells #[.int .i64 0] 3 (0, 0)) := by rw [← hw1]; exact d_alloc (heap_alloc_new w _) _
  have hr2 : w1.heap[w.heap.size + 1]? = some (.cells #[.bool false] 4 (0, 0)) := by rw [← hw1]; simpa using heap_alloc_new (w.alloc (.cells #[.int .i64 0] 3)) _
  have hB : Below w.heap.size w w1 := by rw [← hw1]; exact d_balloc (d_balloc (Below.refl _ _) (Nat.le_refl _) _) (by simp) _
  have hK : Keeps S T0 w w1 := Keeps.below hB hS
  rw [hw1]
  clear hw1
  refine Iter.law (n := 3) (by omega) (gf := gf) (lb := lb) rfl eg (S := S) (T := T0) (xs := vals xs) (hseq.later hK) (fun b hb => by have := hS b hb; omega)
    (fun x hx => by simp [vals] at hx; obtain ⟨i, _, rfl⟩ := hx; rfl)
    (fun k W => (W.heap[w.heap.size]? = some (.cells #[.int .i64 0] 3 (0, 0)) ∧ W.heap[w.heap.size + 1]? = some (.cells #[.bool false] 4 (0, 0)) ∧ k = 0) ∧ Below w.heap.size w W)
    (fun c W => (c = .ret ∧ W.heap[w.heap.size]? = some (.cells #[.int .i64 (xs.head?.getD 0 : Nat)] 3 (0, 0)) ∧ W.heap[w.heap.size + 1]? = some (.cells #[.bool true] 4 (0, 0)) ∧ xs ≠ []) ∧ Below w.heap.size w W)
    ?hI ?hIx ⟨⟨hr1, hr2, rfl⟩, hB⟩
    (fun i a' W => ∃ n : Nat, xs[i]? = some n ∧ a' = { tmps := #[.func (.func gf) #[] lb, undef, .pointer (some ⟨w.heap.size, 0, none⟩), .pointer (some ⟨w.heap.size + 1, 0, none⟩), .int .i64 n, .func (.func gf) #[] lb, .int .i64 n, undef], defers := [] })
    ?hAx ?hassign ?hbody ?hdone ?hstop
  case hI => exact Abide.and (Abide.and (Abide.old _ (by omega) _) (Abide.and (Abide.old _ (by omega) _) (Abide.pure _ _ _))) (Abide.below _ (by omega) (Nat.le_refl _))
  case hIx => exact OwnFrom.and (OwnFrom.and (ownFrom_pure _ _) (OwnFrom.and ((own_blk _ _ _ _).from _) (OwnFrom.and ((own_blk _ _ _ _).from _) (ownFrom_pure _ _)))) (ownFrom_below (Nat.le_refl _) (by omega))
  case hAx => exact fun i a' => own_ex fun n => ownFrom_pure _ _
  case hassign =>
    rintro l i hi W K ⟨⟨g1, g2, rfl⟩, g3⟩ hlt hK
    have hi' : 0 < xs.length := by simpa [vals] using hi
    have ev : (vals xs)[0] = #[.int .i64 (xs[0] : Nat)] := by simp [vals]
    rw [ev]
    gi_wp2
    exact hK _ _ (KeepsFrom.refl _ _) (Keeps.refl _ _ _) ⟨⟨g1, g2, trivial⟩, g3⟩ ⟨xs[0], by simp, rfl⟩
  case hbody =>
    rintro l i hi a' W hl ⟨r0, hr0⟩ ⟨⟨h1, h2, rfl⟩, h3⟩ ⟨n, hn, rfl⟩
    have f1 : W.frozen? ⟨w.heap.size, 0, none⟩ = false := d_frozen h1 0
    have f2 : W.frozen? ⟨w.heap.size + 1, 0, none⟩ = false := d_frozen h2 0
    have c1 : W.cell? ⟨w.heap.size, 0, none⟩ = some (.int .i64 0) := (d_cell h1 0).trans rfl
    have c2 : W.cell? ⟨w.heap.size + 1, 0, none⟩ = some (.bool false) := (d_cell h2 0).trans rfl
    have hn0 : xs.head? = some n := by rw [List.head?_eq_getElem?]; exact hn
    have HN := Lib.hid hn0
    clear hr0 hn hn0
    gi_wp2
    refine ⟨((KeepsOthers.setCell _ _ _).from _).trans ((KeepsOthers.setCell _ _ _).from _), ⟨rfl, ?_, ?_, ?_⟩, (h3.setCell (by simp) _).setCell (by simp) _⟩
    · rw [HN.out]; exact d_other (d_put h1 0 _ rfl) _ _ (by simp)
    · exact d_put (d_other h2 _ _ (by simp)) 0 _ rfl
    · intro e; have := HN.out; rw [e] at this; simp at this
  case hdone =>
    rintro D W hD ⟨⟨h1, h2, h4⟩, h3⟩ hK
    have f1 : W.frozen? ⟨w.heap.size, 0, none⟩ = false := d_frozen h1 0
    have f2 : W.frozen? ⟨w.heap.size + 1, 0, none⟩ = false := d_frozen h2 0
    have c1 : W.cell? ⟨w.heap.size, 0, none⟩ = some (.int .i64 0) := (d_cell h1 0).trans rfl
    have c2 : W.cell? ⟨w.heap.size + 1, 0, none⟩ = some (.bool false) := (d_cell h2 0).trans rfl
    have hxs : xs = [] := by simpa [vals] using h4
    clear h4
    gi_wp2
    have hD4 : ((W.setCell ⟨w.heap.size, 0, none⟩ (.int .i64 0)).setCell ⟨w.heap.size + 1, 0, none⟩ (.bool false)).heap[D]? = some (.deferred (some [])) := d_other (d_other hK _ _ (by show D ≠ w.heap.size; omega)) _ _ (by show D ≠ w.heap.size + 1; omega)
    have e1 : ((W.setCell ⟨w.heap.size, 0, none⟩ (.int .i64 0)).setCell ⟨w.heap.size + 1, 0, none⟩ (.bool false)).heap[w.heap.size]? = some (.cells #[.int .i64 0] 3 (0, 0)) := d_other (d_put h1 0 _ rfl) _ _ (by simp)
    have e2 : ((W.setCell ⟨w.heap.size, 0, none⟩ (.int .i64 0)).setCell ⟨w.heap.size + 1, 0, none⟩ (.bool false)).heap[w.heap.size + 1]? = some (.cells #[.bool false] 4 (0, 0)) := d_put (d_other h2 _ _ (by simp)) 0 _ rfl
    have e3 : Below w.heap.size w ((W.setCell ⟨w.heap.size, 0, none⟩ (.int .i64 0)).setCell ⟨w.heap.size + 1, 0, none⟩ (.bool false)) := (h3.setCell (by simp) _).setCell (by simp) _
    generalize (W.setCell ⟨w.heap.size, 0, none⟩ (.int .i64 0)).setCell ⟨w.heap.size + 1, 0, none⟩ (.bool false) = W5 at *
    have c5 : (W5.putObj D (.deferred none)).cell? ⟨w.heap.size, 0, none⟩ = some (.int .i64 0) := (d_cell ((World.putObj_heap_other (by omega)).trans e1) 0).trans rfl
    have c6 : (W5.putObj D (.deferred none)).cell? ⟨w.heap.size + 1, 0, none⟩ = some (.bool false) := (d_cell ((World.putObj_heap_other (by omega)).trans e2) 0).trans rfl
    exact ret_mark (v := .tuple #[.int .i64 0, .bool false]) hD4 (by simp [results, Tryd.f25, go_sem, c5, c6]) ⟨by rw [hxs]; rfl, below_put e3 (by omega) _⟩
  case hstop =>
    rintro D c W hD ⟨⟨rfl, h1, h2, h4⟩, h3⟩ hK
    gi_wp2
    have c5 : (W.putObj D (.deferred none)).cell? ⟨w.heap.size, 0, none⟩ = some (.int .i64 (xs.head?.getD 0 : Nat)) := (d_cell ((World.putObj_heap_other (by omega)).trans h1) 0).trans rfl
    have c6 : (W.putObj D (.deferred none)).cell? ⟨w.heap.size + 1, 0, none⟩ = some (.bool true) := (d_cell ((World.putObj_heap_other (by omega)).trans h2) 0).trans rfl
    exact ret_mark (v := .tuple #[.int .i64 (xs.head?.getD 0 : Nat), .bool true]) hK (by simp [results, Tryd.f25, go_sem, c5, c6]) ⟨by cases xs with | nil => exact absurd rfl h4 | cons a l => rfl, below_put h3 (by omega) _⟩

def clampN (f : Int) : Int := max (min f 63) 0
def nearN (s : Nat) (f : Int) : Int × Bool :=
  let lo := (downX s (clampN f)).head?
  let hi := (upX s (clampN f)).head?
  if !lo.isSome || (hi.isSome && decide (((hi.getD 0 : Nat) : Int) - clampN f < clampN f - ((lo.getD 0 : Nat) : Int))) then (((hi.getD 0 : Nat) : Int), hi.isSome) else (((lo.getD 0 : Nat) : Int), true)
theorem head_lt {x : Nat} : ∀ l : List Nat, (∀ a ∈ l, a < x) → 0 < x → l.head?.getD 0 < x
  | [], _, h => h
  | a :: _, h, _ => h a (by simp)
theorem upX_lt (s : Nat) (f : Int) : (upX s f).head?.getD 0 < 64 := head_lt _ (fun a h => (mem_elems.1 h).1) (by omega)
theorem downX_lt (s : Nat) (f : Int) : (downX s f).head?.getD 0 < 64 := head_lt _ (fun a h => (mem_elems.1 (List.mem_reverse.1 h)).1) (by omega)

set_option maxRecDepth 100000 in
set_option maxHeartbeats 2000000 in
theorem near_calls (s : Nat) (hs : s < 2 ^ 64) (f : Int) (w : World) (hT : TabAt 0 Lib.deBruijn64tab w) (h0 : 0 < w.heap.size) :
    Calls Tryd.prog 10 #[.int .u64 s, .int .i64 f] w fun e w' => e = .returned (.tuple #[.int .i64 (nearN s f).1, .bool (nearN s f).2]) ∧ Below w.heap.size w w' := by
  have hc : clampN f = max (min f 63) 0 := rfl
  have c0 : 0 ≤ clampN f := by unfold clampN; omega
  have c1 : clampN f ≤ 63 := by unfold clampN; omega
  have hdn := downX_lt s (clampN f)
  have hup := upX_lt s (clampN f)
  have E20 : ∀ args w, (callFunc 20 args).run Tryd.prog w = .ok (.enter 20 args) w := enters_of Tryd.func20 (by kernel_rfl) rfl
  have E22 : ∀ args w, (callFunc 22 args).run Tryd.prog w = .ok (.enter 22 args) w := enters_of Tryd.func22 (by kernel_rfl) rfl
  have hD : ∀ W : World, Below w.heap.size w W → Calls Tryd.prog 25 #[.func (.func 22) #[] #[.pointer (some ⟨W.heap.size, 0, none⟩), .pointer (some ⟨W.heap.size + 1, 0, none⟩)]] ((W.alloc (.cells #[.int .u64 s] 26)).alloc (.cells #[.int .i64 (clampN f)] 3)) fun e w' =>
      e = .returned (.tuple #[.int .i64 ((downX s (clampN f)).head?.getD 0 : Nat), .bool ((downX s (clampN f)).head?.isSome)]) ∧ Below w.heap.size w w' := fun W hB =>
    (first_calls (downX s (clampN f)) 22 _ E22 _ (fun b => b < W.heap.size + 2) (fun b hb => by simpa using hb)
      (down_iter 1 s hs (clampN f) (by omega) W.heap.size (W.heap.size + 1) _ _ _ (by omega) (by omega) (d_alloc (heap_alloc_new W _) _) (by simpa using heap_alloc_new (W.alloc (.cells #[.int .u64 s] 26)) _))).mono
      fun e w' ⟨he, hb⟩ => ⟨he, Below.trans (d_balloc (d_balloc hB hB.size _) (by have := hB.size; simp; omega) _) ⟨hb.os, hb.tape, hb.output, hb.size, fun k hk => hb.block k (by have := hB.size; simp; omega)⟩⟩
  have hU : ∀ W : World, Below w.heap.size w W → Calls Tryd.prog 25 #[.func (.func 20) #[] #[.pointer (some ⟨W.heap.size, 0, none⟩), .pointer (some ⟨W.heap.size + 1, 0, none⟩)]] ((W.alloc (.cells #[.int .u64 s] 26)).alloc (.cells #[.int .i64 (clampN f)] 3)) fun e w' =>
      e = .returned (.tuple #[.int .i64 ((upX s (clampN f)).head?.getD 0 : Nat), .bool ((upX s (clampN f)).head?.isSome)]) ∧ Below w.heap.size w w' := fun W hB =>
    (first_calls (upX s (clampN f)) 20 _ E20 _ (fun b => b < W.heap.size + 2) (fun b hb => by simpa using hb)
      (up_iter 1 s hs (clampN f) W.heap.size (W.heap.size + 1) _ _ _ (by have := hB.size; omega) (by omega) (by omega) (d_alloc (heap_alloc_new W _) _) (by simpa using heap_alloc_new (W.alloc (.cells #[.int .u64 s] 26)) _)
        (fun j hj => by
          have hB2 : Below w.heap.size w ((W.alloc (.cells #[.int .u64 s] 26)).alloc (.cells #[.int .i64 (clampN f)] 3)) := d_balloc (d_balloc hB hB.size _) (by have := hB.size; simp; omega) _
          exact (hB2.cell (p := ⟨0, j, none⟩) h0).trans (hT j hj)))).mono
      fun e w' ⟨he, hb⟩ => ⟨he, Below.trans (d_balloc (d_balloc hB hB.size _) (by have := hB.size; simp; omega) _) ⟨hb.os, hb.tape, hb.output, hb.size, fun k hk => hb.block k (by have := hB.size; simp; omega)⟩⟩
  have hn : nearN s f = if !(downX s (clampN f)).head?.isSome || ((upX s (clampN f)).head?.isSome && decide ((((upX s (clampN f)).head?.getD 0 : Nat) : Int) - clampN f < clampN f - (((downX s (clampN f)).head?.getD 0 : Nat) : Int))) then ((((upX s (clampN f)).head?.getD 0 : Nat) : Int), (upX s (clampN f)).head?.isSome) else ((((downX s (clampN f)).head?.getD 0 : Nat) : Int), true) := rfl
  rw [hn]
  generalize (downX s (clampN f)).head?.getD 0 = lo at *
  generalize (upX s (clampN f)).head?.getD 0 = hi at *
  generalize (downX s (clampN f)).head?.isSome = bl at *
  generalize (upX s (clampN f)).head?.isSome = bh at *
  generalize clampN f = at_ at *
  clear hn
  have HC := Lib.hid hc
  have hc2 := hc.symm
  have HD := Lib.hid hD
  have HU := Lib.hid hU
  clear hc hD hU hT h0 E20 E22
  go_enter Tryd.func10, Tryd.ntmps10
  go_wp2_with (first
    | (go_at_call 8; refine (down_calls s at_ _).mono ?_; rintro e w1 ⟨rfl, rfl⟩)
    | (go_at_call 7; refine (up_calls s at_ _).mono ?_; rintro e w1 ⟨rfl, rfl⟩)
    | (go_at_call 25; refine (HD.out _ (Below.refl _ _)).mono ?_; rintro e w1 ⟨rfl, hb1⟩)
    | (go_at_call 25; refine (HU.out _ hb1).mono ?_; rintro e w2 ⟨rfl, hb2⟩))
  all_goals (go_ret2; exact ⟨rfl, hb2⟩)
end Go.Proofs.YtbgbnaicbfakoaaDoor
