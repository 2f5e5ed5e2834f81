/- A range over a function, told by places: the iterator hands out a list that is known when its loop begins; the blocks that it reads are told by a predicate S. -/
import Derived.RangeFuncNested
import Derived.RangeFuncFrom
import Derived.RangeFuncWrites
import Derived.RangeFuncBound
import Derived.RangeFuncCalls
import Derived.RangeFuncLeaves
import Derived.WalkKit
namespace Go.Proofs.YtbgbnaicbfakoaaDoor.Iter
open Go.RowKit

/-- What S names lies as it lay, and all cells of a type that T names; the streams are as they were. -/
structure Keeps (S T : Nat → Prop) (W W' : World) : Prop where
  os : W'.os = W.os
  tape : W'.tape = W.tape
  output : W'.output = W.output
  size : W.heap.size ≤ W'.heap.size
  same : ∀ b, S b → W'.heap[b]? = W.heap[b]?
  mine : ∀ (b : Nat) (c : Array Value) (t : Nat) (f : Nat × Nat), T t → W.heap[b]? = some (.cells c t f) → W'.heap[b]? = some (.cells c t f)
theorem Keeps.refl (S T : Nat → Prop) (W : World) : Keeps S T W W := ⟨rfl, rfl, rfl, Nat.le_refl _, fun _ _ => rfl, fun _ _ _ _ _ h => h⟩
theorem Keeps.trans {S T : Nat → Prop} {A B C : World} (h : Keeps S T A B) (k : Keeps S T B C) : Keeps S T A C :=
  ⟨k.os.trans h.os, k.tape.trans h.tape, k.output.trans h.output, Nat.le_trans h.size k.size, fun b hb => (k.same b hb).trans (h.same b hb), fun _ _ _ _ ht hb => k.mine _ _ _ _ ht (h.mine _ _ _ _ ht hb)⟩
theorem Keeps.grown {S T : Nat → Prop} {W W' : World} {row : Option Nat} (hg : W.grownBy W' row) (hS : ∀ b, S b → b < W.heap.size) (hr : ∀ r, row = some r → ¬ S r) (hT : ∀ (r : Nat) (c : Array Value) (t : Nat) (f : Nat × Nat), row = some r → W.heap[r]? = some (.cells c t f) → ¬ T t) : Keeps S T W W' :=
  ⟨hg.os, hg.tape, hg.output, hg.size, fun b hb => hg.block b (hS b hb) (fun e => hr b e.symm hb), fun b c t f ht hb => (hg.block b (Array.getElem?_eq_some_iff.1 hb).1 (fun e => hT b c t f e.symm hb ht)).trans hb⟩
theorem Keeps.below {S T : Nat → Prop} {W W' : World} (h : Below W.heap.size W W') (hS : ∀ b, S b → b < W.heap.size) : Keeps S T W W' :=
  ⟨h.os, h.tape, h.output, h.size, fun b hb => h.block b (hS b hb), fun b _ _ _ _ hb => (h.block b (Array.getElem?_eq_some_iff.1 hb).1).trans hb⟩
theorem Keeps.setCell {S T : Nat → Prop} {W : World} {b : Nat} {c : Array Value} {t : TypeId} {f : Nat × Nat} (hb : W.heap[b]? = some (.cells c t f)) (hS : ¬ S b) (hT : ¬ T t) (j : Nat) (v : Value) : Keeps S T W (W.setCell ⟨b, j, none⟩ v) :=
  ⟨rfl, rfl, rfl, by simp [World.setCell], fun k hk => Below.heap_setCell W _ v k (fun e => hS (by have e2 : k = b := e; exact e2 ▸ hk)), fun k _ _ _ ht hk => (Below.heap_setCell W _ v k (fun e => by
    have e2 : k = b := e
    subst e2
    have e3 := Option.some.inj (hb.symm.trans hk)
    injection e3 with _ e4
    exact hT (e4 ▸ ht))).trans hk⟩
theorem Keeps.alloc {S T : Nat → Prop} (W : World) (o : Obj) (hS : ∀ b, S b → b < W.heap.size) : Keeps S T W (W.alloc o) :=
  ⟨rfl, rfl, rfl, by simp, fun b hb => Below.heap_alloc W o b (hS b hb), fun b _ _ _ _ hb => (Below.heap_alloc W o b (Array.getElem?_eq_some_iff.1 hb).1).trans hb⟩
theorem Keeps.putObj {S T : Nat → Prop} {W : World} {l : Nat} {o : Obj} (hl : W.heap[l]? = some o) (ho : o.isCells = false) (hS : ¬ S l) (o' : Obj) : Keeps S T W (W.putObj l o') :=
  ⟨rfl, rfl, rfl, by simp, fun b hb => World.putObj_heap_other (fun e => hS (e ▸ hb)), fun b _ _ _ _ hb => (World.putObj_heap_other (fun e => by
    subst e
    have e3 := Option.some.inj (hl.symm.trans hb)
    subst e3
    simp [Obj.isCells] at ho)).trans hb⟩
theorem Keeps.cell {S T : Nat → Prop} {W W' : World} (h : Keeps S T W W') {p : Addr} (hp : S p.block) : W'.cell? p = W.cell? p := World.cell?_of_block (w := W) (h.same p.block hp)
theorem Keeps.toBelow {S T : Nat → Prop} {W W' : World} {n : Nat} (h : Keeps S T W W') (hn : ∀ b, b < n → S b) : Below n W W' := ⟨h.os, h.tape, h.output, h.size, fun k hk => h.same k (hn k hk)⟩
def T0 (_ : Nat) : Prop := False
theorem Keeps.weak {S T : Nat → Prop} {W W' : World} (h : Keeps S T W W') : Keeps S T0 W W' := ⟨h.os, h.tape, h.output, h.size, h.same, fun _ _ _ _ h => h.elim⟩
theorem grownBy_set (W : World) (a : Addr) (v : Value) : W.grownBy (W.setCell a v) (some a.block) :=
  ⟨rfl, rfl, rfl, by simp [World.setCell], fun k _ hk => Below.heap_setCell W a v k (fun e => hk (by rw [e]))⟩

/-- What is said abides the turn of a block at or behind B that holds no cells, or cells of a type that T names. -/
def Abide {β : Type} (B : Nat) (T : Nat → Prop) (I : β → World → Prop) : Prop :=
  ∀ s W W' row, I s W → W.grownBy W' row →
    (∀ r, row = some r → B ≤ r ∧ ((∃ o : Obj, W.heap[r]? = some o ∧ o.isCells = false) ∨ ∃ c t f, W.heap[r]? = some (.cells c t f) ∧ T t)) → I s W'
theorem Abide.own {β : Type} {B : Nat} {T : Nat → Prop} {I : β → World → Prop} (h : Abide B T I) : OwnFrom B I := fun s W W' row hs hg hr => h s W W' row hs hg (fun r e => ⟨(hr r e).1, .inl (hr r e).2⟩)
theorem Abide.and {β : Type} {B : Nat} {T : Nat → Prop} {I I' : β → World → Prop} (h : Abide B T I) (h' : Abide B T I') : Abide B T (fun s W => I s W ∧ I' s W) := fun s W W' row hs hg hr => ⟨h s W W' row hs.1 hg hr, h' s W W' row hs.2 hg hr⟩
theorem Abide.pure {β : Type} (B : Nat) (T : Nat → Prop) (p : β → Prop) : Abide B T (fun s (_ : World) => p s) := fun _ _ _ _ hs _ _ => hs
theorem Abide.ex {β γ : Type} {B : Nat} {T : Nat → Prop} {I : γ → β → World → Prop} (h : ∀ c, Abide B T (I c)) : Abide B T (fun s W => ∃ c, I c s W) := fun s W W' row ⟨c, hc⟩ hg hr => ⟨c, h c s W W' row hc hg hr⟩
theorem Abide.old {β : Type} {B : Nat} (T : Nat → Prop) {b : Nat} (hb : b < B) (f : β → Obj) : Abide B T (fun s W => W.heap[b]? = some (f s)) := fun _ _ _ _ hs hg hr =>
  (hg.block b (Array.getElem?_eq_some_iff.1 hs).1 (fun e => by have := (hr b e.symm).1; omega)).trans hs
theorem Abide.blk {β : Type} {B : Nat} {T : Nat → Prop} (b : β → Nat) (f : β → Array Value) (t : TypeId) (fz : Nat × Nat) (ht : ¬ T t) : Abide B T (fun s W => W.heap[b s]? = some (.cells (f s) t fz)) := fun s _ _ _ hs hg hr => by
  refine (hg.block (b s) (Array.getElem?_eq_some_iff.1 hs).1 (fun e => ?_)).trans hs
  rcases (hr (b s) e.symm).2 with ⟨o, ho, hc⟩ | ⟨c, t', f', ho, hT⟩
  · have e2 : o = .cells (f s) t fz := Option.some.inj (ho.symm.trans hs)
    subst e2
    simp [Obj.isCells] at hc
  · have e2 := Option.some.inj (ho.symm.trans hs)
    injection e2 with _ e3
    exact ht (e3 ▸ hT)
theorem Abide.below {β : Type} {B n₀ : Nat} (T : Nat → Prop) {w : World} (h : n₀ ≤ B) (hB : n₀ ≤ w.heap.size) : Abide B T (fun (_ : β) W => Below n₀ w W) := fun _ _ _ _ hs hg hr =>
  hs.grown hg (Nat.le_trans hB hs.size) (fun k e => Nat.le_trans h (hr k e).1)

/-- The iterator gf, its captured values lb: it hands out xs, as long as the rounds go on; S names the blocks that it reads; it writes to new blocks of its own alone, of types that T names. -/
def Iter (n : Nat) (P : Program) (gf : Nat) (lb : Array Value) (S T : Nat → Prop) (xs : List (Array Value)) (w : World) : Prop :=
  ∀ (l : Nat) (J : Nat → World → Prop) (Jx : World → Prop) (W : World), Keeps S T w W →
    (∀ k A B row, J k A → A.grownBy B row → (∀ r, row = some r → W.heap.size ≤ r ∧ ∃ c t f, A.heap[r]? = some (.cells c t f) ∧ T t) → J k B) →
    (∀ i (h : i < xs.length) W1, J i W1 → YieldAt Fence.wide (n - 1) P l xs[i] W1 fun e W' =>
      (e = .returned (.bool true) ∧ J (i + 1) W' ∧ Keeps S T W1 W') ∨ (e = .returned (.bool false) ∧ Jx W')) →
    J 0 W →
    CallsIn Fence.wide n P gf (#[.func (.yield l) #[] #[]] ++ lb) W fun e W' => (∃ v, e = .returned v) ∧ (J xs.length W' ∨ Jx W')

theorem Iter.later {n : Nat} {P : Program} {gf : Nat} {lb : Array Value} {S T : Nat → Prop} {xs : List (Array Value)} {w w' : World} (h : Iter n P gf lb S T xs w) (hk : Keeps S T w w') : Iter n P gf lb S T xs w' :=
  fun l J Jx W hW hJ hY h0 => h l J Jx W (hk.trans hW) hJ hY h0

/-- How a round may be left. -/
def roundPost (B : Nat) (S T : Nat → Prop) (I : Nat → World → Prop) (Ix : Code → World → Prop) (i : Nat) (W : World) : Exit → Act → World → Prop
  | .normal, _, W' => KeepsFrom B W W' ∧ Keeps S T W W' ∧ I (i + 1) W'
  | .ret, _, W' => KeepsFrom B W W' ∧ Ix .ret W'
  | .exit id, _, W' => KeepsFrom B W W' ∧ Ix (.exit id) W'
  | .goto t, _, W' => KeepsFrom B W W' ∧ Ix (.goto t) W'
  | .panic _, _, _ => False
  | .outgrown, _, _ => False

theorem law {n : Nat} {P : Program} {g : Operand} {ps : Array Tmp} {assign body : Code} {Q : Exit → Act → World → Prop} {a : Act} {w : World}
    (h1 : 1 ≤ n) {gf : Nat} {lb : Array Value} (hg : a.eval g = .func (.func gf) #[] lb) (eg : ∀ args w, (callFunc gf args).run P w = .ok (.enter gf args) w)
    {S T : Nat → Prop} {xs : List (Array Value)} (hseq : Iter (n - 1) P gf lb S T xs w) (hS : ∀ b, S b → b < w.heap.size) (hps : ∀ x ∈ xs, x.size = ps.size)
    (I : Nat → World → Prop) (Ix : Code → World → Prop) (hIA : Abide w.heap.size T I) (hIx : OwnFrom w.heap.size Ix) (h0 : I 0 w) (Ax : Nat → Act → World → Prop) (hAx : ∀ i a', OwnFrom w.heap.size (fun (_ : Unit) W => Ax i a' W))
    (hassign : ∀ (l : Nat) (i : Nat) (h : i < xs.length) (W : World) (K : Act → World → Prop), I i W → w.heap.size < W.heap.size → (∀ a' W', KeepsFrom w.heap.size W W' → Keeps S T W W' → I i W' → Ax i a' W' → K a' W') →
      assign.wpIn (Fence.wide.inRound l) (n - 1 - 1) P (Exit.then K (fun _ _ _ => False)) { tmps := (ps.zip xs[i]).foldl (fun t (p, v) => t.setIfInBounds p v) a.tmps, defers := [] } W)
    (hbody : ∀ (l : Nat) (i : Nat) (_ : i < xs.length) (a' : Act) (W : World), w.heap.size ≤ l → (∃ r, W.heap[l]? = some (.loop r)) → I i W → Ax i a' W → body.wpIn (Fence.wide.inRound l) (n - 1 - 1) P (roundPost w.heap.size S T I Ix i W) a' W)
    (hdone : ∀ (D : Nat) (W : World), w.heap.size ≤ D → I xs.length W → W.heap[D]? = some (.deferred (some [])) → Q .normal { a with defers := { target := .collected D, args := #[] } :: a.defers } W)
    (hstop : ∀ (D : Nat) (c : Code) (W : World), w.heap.size ≤ D → Ix c W → W.heap[D]? = some (.deferred (some [])) → c.wpIn Fence.wide n P Q { a with defers := { target := .collected D, args := #[] } :: a.defers } W) :
    (Code.rangeFunc g ps assign body).wpIn Fence.wide n P Q a w := by
  have hI : OwnFrom w.heap.size I := hIA.own
  refine wpIn_rangeFunc ?_
  intro fn hfn
  rw [show Fence.wide.round = none from rfl]
  obtain ⟨rec, hrec⟩ : ∃ rec : LoopState → Option Code → Loop, rec = fun st pe => { state := st, pending := pe, fn, tmps := a.tmps, params := ps, assign, body, defers := w.heap.size } := ⟨_, rfl⟩
  obtain ⟨W1, hW1⟩ : ∃ W1, (w.alloc (.deferred (some []))).alloc (.loop (rec .ready none)) = W1 := ⟨_, rfl⟩
  have hL1 : W1.heap[w.heap.size + 1]? = some (.loop (rec .ready none)) := by
    rw [← hW1]; have := World.alloc_heap_new (w.alloc (.deferred (some []))) (.loop (rec .ready none)); rwa [World.size_alloc] at this
  have hK1 : W1.heap[w.heap.size]? = some (.deferred (some [])) := by
    rw [← hW1]; exact (Below.heap_alloc _ _ _ (by simp)).trans (World.alloc_heap_new w _)
  have hI1 : I 0 W1 := by rw [← hW1]; exact hI.alloc _ (hI.alloc _ h0)
  have hk1 : Keeps S T w W1 := by
    rw [← hW1]
    exact (Keeps.alloc _ _ hS).trans (Keeps.alloc _ _ (fun b hb => by have := hS b hb; simp; omega))
  refine ⟨w.heap.size + 1, [{ target := .collected w.heap.size, args := #[] }], W1, { target := .fn (.func gf) lb, args := #[.func (.yield (w.heap.size + 1)) #[] #[]] }, W1, gf,
    #[.func (.yield (w.heap.size + 1)) #[] #[]] ++ lb, W1, ?_, ?_, ?_, ?_, fun _ => h1, ?_⟩
  · rw [← hW1, hrec]; exact run_enterLoop_outer _ _ _ _ _
  · simp only [resolve, hg]
    simp [go_sem]
  · intro f' _; trivial
  · simp [invoke, go_sem, eg]
  · refine (hseq (w.heap.size + 1)
      (fun k W => I k W ∧ W.heap[w.heap.size + 1]? = some (.loop (rec .ready none)) ∧ W.heap[w.heap.size]? = some (.deferred (some [])))
      (fun W => ∃ c, Ix c W ∧ W.heap[w.heap.size + 1]? = some (.loop (rec .done (some c))) ∧ W.heap[w.heap.size]? = some (.deferred (some [])))
      W1 hk1
      (fun k A B row hs hg' hr => by
        have hge : ∀ r, row = some r → w.heap.size + 2 ≤ r := fun r e => by have := (hr r e).1; rw [← hW1] at this; simpa using this
        exact ⟨hIA k A B row hs.1 hg' (fun r e => ⟨by have := hge r e; omega, .inr (hr r e).2⟩),
          (hg'.block _ (Array.getElem?_eq_some_iff.1 hs.2.1).1 (fun e => by have := hge _ e.symm; omega)).trans hs.2.1,
          (hg'.block _ (Array.getElem?_eq_some_iff.1 hs.2.2).1 (fun e => by have := hge _ e.symm; omega)).trans hs.2.2⟩)
      ?_ ⟨hI1, hL1, hK1⟩).mono ?_
    · rintro i hlt0 W ⟨hi, hl, hk⟩
      have hlt : w.heap.size + 1 < W.heap.size := (Array.getElem?_eq_some_iff.1 hl).1
      have hy := run_yield (P := P) (args := xs[i]) hl (by rw [hrec]; exact hps _ (List.getElem_mem _))
      rw [hrec] at hy
      refine ⟨fn, _, assign, body, hy, roundIn_of_wpIn hfn (hassign _ i hlt0 W _ hi (by omega) ?_)⟩
      clear hy
      intro a' Wa hkfa hkpa hia hax
      replace hl := hkfa.same _ _ (by omega) hl rfl
      replace hk := hkfa.same _ _ (Nat.le_refl _) hk rfl
      replace hlt : w.heap.size + 1 < Wa.heap.size := (Array.getElem?_eq_some_iff.1 hl).1
      replace hi := hia
      clear hia
      revert hkpa hkfa
      generalize W = Wb
      intro hkfa hkpa
      obtain ⟨W, rfl⟩ : ∃ W, W = Wa := ⟨_, rfl⟩
      refine ⟨_, run_beginRound hl (by rw [hrec]), ?_⟩
      have hl2 : (W.putObj (w.heap.size + 1) (.loop { rec .ready none with state := .busy })).heap[w.heap.size + 1]? = some (.loop { rec .ready none with state := .busy }) := World.putObj_heap_same hlt
      have hk2 : (W.putObj (w.heap.size + 1) (.loop { rec .ready none with state := .busy })).heap[w.heap.size]? = some (.deferred (some [])) := (World.putObj_heap_other (by omega)).trans hk
      refine wpIn_mono (hbody _ i hlt0 a' _ (by omega) ⟨_, hl2⟩ (hI.putObj _ hi (by omega) hl rfl) ((hAx i a').putObj (s := ()) _ hax (by omega) hl rfl)) ?_
      have fin : ∀ (jump : Option Code) (W3 : World), KeepsFrom w.heap.size (W.putObj (w.heap.size + 1) (.loop { rec .ready none with state := .busy })) W3 →
          (Instr.endRound (w.heap.size + 1) jump).run P W3 = .ok (.bool jump.isNone) (W3.putObj (w.heap.size + 1) (.loop (rec (if jump.isNone then .ready else .done) jump))) ∧
          W3.heap[w.heap.size + 1]? = some (.loop { rec .ready none with state := .busy }) ∧
          (W3.putObj (w.heap.size + 1) (.loop (rec (if jump.isNone then .ready else .done) jump))).heap[w.heap.size + 1]? = some (.loop (rec (if jump.isNone then .ready else .done) jump)) ∧
          (W3.putObj (w.heap.size + 1) (.loop (rec (if jump.isNone then .ready else .done) jump))).heap[w.heap.size]? = some (.deferred (some [])) := fun jump W3 hk3 => by
        have hl3 := hk3.same _ _ (by omega) hl2 rfl
        have := run_endRound (P := P) jump hl3
        rw [hrec] at this ⊢
        exact ⟨this, by rw [hrec] at hl3; exact hl3, World.putObj_heap_same (Array.getElem?_eq_some_iff.1 hl3).1, (World.putObj_heap_other (by omega)).trans (hk3.same _ _ (Nat.le_refl _) hk2 rfl)⟩
      rintro e a3 W3 hp
      cases e with
      | normal =>
        obtain ⟨hk3, hkp3, hi3⟩ := hp
        obtain ⟨hr, hl3, hl4, hk4⟩ := fin none W3 hk3
        exact ⟨_, _, hr, .inl ⟨rfl, ⟨hI.putObj _ hi3 (by omega) hl3 rfl, hl4, hk4⟩, hkpa.trans (((Keeps.putObj hl rfl (fun h => by have := hS _ h; omega) _).trans hkp3).trans (Keeps.putObj hl3 rfl (fun h => by have := hS _ h; omega) _))⟩⟩
      | ret =>
        obtain ⟨hk3, hi3⟩ := hp
        obtain ⟨hr, hl3, hl4, hk4⟩ := fin (some .ret) W3 hk3
        exact ⟨_, _, hr, .inr ⟨rfl, .ret, hIx.putObj _ hi3 (by omega) hl3 rfl, hl4, hk4⟩⟩
      | exit id =>
        obtain ⟨hk3, hi3⟩ := hp
        obtain ⟨hr, hl3, hl4, hk4⟩ := fin (some (.exit id)) W3 hk3
        exact ⟨_, _, hr, .inr ⟨rfl, .exit id, hIx.putObj _ hi3 (by omega) hl3 rfl, hl4, hk4⟩⟩
      | goto t =>
        obtain ⟨hk3, hi3⟩ := hp
        obtain ⟨hr, hl3, hl4, hk4⟩ := fin (some (.goto t)) W3 hk3
        exact ⟨_, _, hr, .inr ⟨rfl, .goto t, hIx.putObj _ hi3 (by omega) hl3 rfl, hl4, hk4⟩⟩
      | panic ch => exact hp.elim
      | outgrown => exact hp.elim
    · rintro e W2 ⟨⟨v, rfl⟩, (⟨hi, hl, hk⟩ | ⟨c, hi, hl, hk⟩)⟩
      · exact ⟨none, _, by have := run_endLoop (P := P) hl (by rw [hrec]; simp); rw [hrec] at this; exact this, hdone _ _ (Nat.le_refl _) (hI.putObj _ hi (by omega) hl rfl) ((World.putObj_heap_other (by omega)).trans hk)⟩
      · exact ⟨some c, _, by have := run_endLoop (P := P) hl (by rw [hrec]; simp); rw [hrec] at this; exact this, hstop _ c _ (Nat.le_refl _) (hIx.putObj _ hi (by omega) hl rfl) ((World.putObj_heap_other (by omega)).trans hk)⟩
/-! ### small facts -/
theorem ret_mark {n : Nat} {P : Program} {fn : Func} {R : Ending → World → Prop} {tmps : Array Value} {D : Nat} {v : Value} {W : World} (hK : W.heap[D]? = some (.deferred (some [])))
    (hres : (results fn tmps).run P (W.putObj D (.deferred none)) = .ok v (W.putObj D (.deferred none))) (hR : R (.returned v) (W.putObj D (.deferred none))) :
    bodyPostM Fence.wide n P fn R .ret { tmps := tmps, defers := [{ target := .collected D, args := #[] }] } W :=
  ⟨by simp, .inl ⟨_, _, rfl, run_takeDeferred hK, ⟨v, hres, hR⟩⟩⟩
theorem ret_plain {n : Nat} {P : Program} {fn : Func} {R : Ending → World → Prop} {tmps : Array Value} {v : Value} {W : World}
    (hres : (results fn tmps).run P W = .ok v W) (hR : R (.returned v) W) : bodyPostM Fence.wide n P fn R .ret { tmps := tmps, defers := [] } W := ⟨v, hres, hR⟩
theorem below_put {B : Nat} {w W : World} (h : Below B w W) {D : Nat} (hD : B ≤ D) (o : Obj) : Below B w (W.putObj D o) :=
  ⟨h.os, h.tape, h.output, by simpa using h.size, fun k hk => (World.putObj_heap_other (by omega)).trans (h.block k hk)⟩
theorem own_blk {β : Type} (b : Nat) (f : β → Array Value) (t : TypeId) (fz : Nat × Nat) : Own (fun (s : β) W => W.heap[b]? = some (.cells (f s) t fz)) := fun s _ _ _ hs hg hr => by
  refine (hg.block b (Array.getElem?_eq_some_iff.1 hs).1 (fun e => ?_)).trans hs
  obtain ⟨o, ho, hc⟩ := hr b e.symm
  have e2 : o = .cells (f s) t fz := by have := ho.symm.trans hs; exact Option.some.inj this
  subst e2
  simp [Obj.isCells] at hc
theorem own_below {β : Type} {B n₀ : Nat} {w : World} (h : n₀ ≤ B) (hB : n₀ ≤ w.heap.size) : OwnFrom B (fun (_ : β) W => Below n₀ w W) := fun _ _ _ _ hs hg hr =>
  hs.grown hg (Nat.le_trans hB hs.size) (fun k e => Nat.le_trans h (hr k e).1)
theorem ownFrom_pure' {β : Type} (B : Nat) (p : β → Prop) : OwnFrom B (fun s (_ : World) => p s) := fun _ _ _ _ hs _ _ => hs
theorem own_ex {β γ : Type} {B : Nat} {I : γ → β → World → Prop} (h : ∀ c, OwnFrom B (I c)) : OwnFrom B (fun s W => ∃ c, I c s W) := fun s W W' row ⟨c, hc⟩ hg hr => ⟨c, h c s W W' row hc hg hr⟩
theorem keepsFrom_trans {B : Nat} {A C D : World} (h : KeepsFrom B A C) (k : KeepsFrom B C D) : KeepsFrom B A D := h.trans k
theorem keepsFrom_below {B : Nat} {A C : World} (h : Below A.heap.size A C) : KeepsFrom B A C := ⟨h.size, fun i _ _ hi _ => (h.block i (Array.getElem?_eq_some_iff.1 hi).1).trans hi⟩
end Go.Proofs.YtbgbnaicbfakoaaDoor.Iter
