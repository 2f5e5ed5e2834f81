/- A list of integers that the call itself built: what it is, what leaves it, and one element more at its end. -/
import Derived.Test.YtbgbnaicbfakoaaDoorChecked
import Derived.Test.YtbgbnaicbfakoaaDoorW0
import Derived.Test.YtbgbnaicbfakoaaDoorB1
import Derived.Laws.OwnMore
import Derived.Deep.AppendLies
namespace Go.Proofs.YtbgbnaicbfakoaaDoor
open Go.RowKit Go.Shelf

def ints (l : List Int) : List Value := l.map fun x => .int .i64 x
/-- v holds l in a block of its own, behind 'base', that 'ok' names. -/
def OI (w : World) (base : Nat) (ok : Nat → Prop) (v : Value) (l : List Int) : Prop := w.ownsRow base 3 1 v l.length (ints l) ∧ ∀ k, v.ownBlock = some k → ok k
theorem OI.lt {w : World} {base : Nat} {ok : Nat → Prop} {v : Value} {l : List Int} (h : OI w base ok v l) : ∀ k, v.ownBlock = some k → k < w.heap.size := by
  intro k hk
  rcases h.1.2 with ⟨rfl, _⟩ | ⟨g, cap, cur, rfl, _, hg, _⟩
  · simp [Value.ownBlock] at hk
  · have e : g = k := by simpa [Value.ownBlock] using hk
    subst e
    exact d_lt hg
theorem OI.cells {w : World} {base : Nat} {ok : Nat → Prop} {v : Value} {l : List Int} (h : OI w base ok v l) : ∀ k, v.ownBlock = some k → base ≤ k ∧ ∃ c, w.heap[k]? = some (.cells c 3 (0, 0)) := by
  intro k hk
  rcases h.1.2 with ⟨rfl, _⟩ | ⟨g, cap, cur, rfl, hb, hg, _⟩
  · simp [Value.ownBlock] at hk
  · have e : g = k := by simpa [Value.ownBlock] using hk
    subst e
    exact ⟨hb, _, hg⟩
/-- Blocks of other types are other blocks. -/
theorem OI.ne {w : World} {base : Nat} {ok : Nat → Prop} {v : Value} {l : List Int} (h : OI w base ok v l) {g : Nat} {c : Array Value} {t : TypeId} {f : Nat × Nat} (hg : w.heap[g]? = some (.cells c t f)) (ht : t ≠ 3) : v.ownBlock ≠ some g := by
  intro e
  obtain ⟨_, c', h'⟩ := h.cells g e
  have e2 := Option.some.inj (hg.symm.trans h')
  injection e2 with _ e3
  exact ht e3
theorem OI.same {w w' : World} {base : Nat} {ok : Nat → Prop} {v : Value} {l : List Int} (h : OI w base ok v l) (hk : ∀ k, v.ownBlock = some k → w'.heap[k]? = w.heap[k]?) : OI w' base ok v l := by
  refine ⟨⟨h.1.1, ?_⟩, h.2⟩
  rcases h.1.2 with h0 | ⟨g, cap, cur, hv, hb, hg, h4⟩
  · exact .inl h0
  · exact .inr ⟨g, cap, cur, hv, hb, (hk g (by rw [hv]; rfl)).trans hg, h4⟩
theorem OI.below {w w' : World} {base : Nat} {ok : Nat → Prop} {v : Value} {l : List Int} (h : OI w base ok v l) (hb : Below w.heap.size w w') : OI w' base ok v l :=
  h.same fun k hk => hb.block k (h.lt k hk)
theorem OI.grown {w w' : World} {base : Nat} {ok : Nat → Prop} {v : Value} {l : List Int} (h : OI w base ok v l) {row : Option Nat} (hg : w.grownBy w' row) (hr : ∀ k, v.ownBlock = some k → row ≠ some k) : OI w' base ok v l :=
  h.same fun k hk => hg.block k (h.lt k hk) (fun e => hr k hk e.symm)
theorem OI.set {w : World} {base : Nat} {ok : Nat → Prop} {v : Value} {l : List Int} (h : OI w base ok v l) (a : Addr) (u : Value) (hr : v.ownBlock ≠ some a.block) : OI (w.setCell a u) base ok v l :=
  h.same fun k hk => Below.heap_setCell w a u k (fun e => hr (by rw [hk, e]))
theorem OI.alloc {w : World} {base : Nat} {ok : Nat → Prop} {v : Value} {l : List Int} (h : OI w base ok v l) (o : Obj) : OI (w.alloc o) base ok v l :=
  h.same fun k hk => Below.heap_alloc w o k (h.lt k hk)
theorem OI.mono {w : World} {base : Nat} {ok ok' : Nat → Prop} {v : Value} {l : List Int} (h : OI w base ok v l) (hk : ∀ k, ok k → ok' k) : OI w base ok' v l := ⟨h.1, fun k e => hk k (h.2 k e)⟩
/-- An empty list of the call's own. -/
theorem OI.empty (w : World) (base : Nat) (ok : Nat → Prop) (hb : base ≤ w.heap.size) (hok : ok w.heap.size) : OI (w.alloc (.cells #[] 3)) base ok (.slice (some ⟨w.heap.size, 0, none⟩) 0 0) [] :=
  ⟨World.ownsRow_lit (size := 1) w #[] 0 hb (Nat.zero_le _) rfl, fun k hk => by have e : w.heap.size = k := by simpa [Value.ownBlock] using hk
                                                                                subst e; exact hok⟩
theorem OI.reads {w : World} {base : Nat} {ok : Nat → Prop} {v : Value} {l : List Int} (h : OI w base ok v l) : ∃ p c, v = .slice p l.length c ∧ IntsAt w p l := by
  rcases h.1.2 with ⟨rfl, h0⟩ | ⟨g, cap, cur, rfl, _, hg, _⟩
  · exact ⟨none, 0, by rw [h0], fun j hj => by omega⟩
  · refine ⟨_, _, rfl, fun j hj => ⟨g, 0, rfl, ?_⟩⟩
    have := h.1.cellAt j (by omega)
    rw [Nat.zero_add, this]
    simp [ints, hj]

theorem info3 : (Tryd.prog.info? 3).map (fun i => (i.zero, i.size, i.bytes)) = some (some (.int .i64 0), 1, 8) := by kernel_rfl
/-- One more at the end. -/
theorem app_one {ops : Array Oper} {rest : List Oper} {o : Oper} {a : Act} {Q : Exit → Act → World → Prop} {w : World} (hgd : o.guard = none) (s x : Operand)
    (ho : o.op = .call { callee := .builtin .append, args := #[s, x], argTypes := #[24, 24] })
    (base : Nat) (ok : Nat → Prop) (v : Value) (l : List Int) (hown : OI w base ok v l) (hs : a.eval s = v)
    (b : Nat) (n : Int) (hx : a.eval x = .slice (some ⟨b, 0, none⟩) 1 1) (hb : w.heap[b]? = some (.cells #[.int .i64 n] 3 (0, 0)))
    (hl : l.length < 2 ^ 40) (hbase : base ≤ w.heap.size) (hok : ok w.heap.size)
    (h : ∀ g cap w', OI w' base ok (.slice (some ⟨g, 0, none⟩) (l.length + 1) cap) (l ++ [n]) → w.grownBy w' v.ownBlock → (v.ownBlock = some g ∨ g = w.heap.size) → wpList Tryd.prog ops Q rest (a.put o.dst (.slice (some ⟨g, 0, none⟩) (l.length + 1) cap)) w') : wpList Tryd.prog ops Q (o :: rest) a w := by
  obtain ⟨i0, hi, hzz⟩ := Option.map_eq_some_iff.1 info3
  simp only [Prod.mk.injEq] at hzz
  obtain ⟨hz0, hz1, hz2⟩ := hzz
  refine wpList_append_lies w hgd s x 24 ho base 3 i0 (.int .i64 0) 1 8 Tryd.underlying24 hi hz0 hz1 hz2 rfl (by omega) v l.length (ints l) hs hown.1 ⟨b, 0, none⟩ 1 1 [.int .i64 n] hx rfl
    (World.news_of_block hb) (by simp [Value.oneCell']) (by omega) (by simp only [maxLen]; omega) (by omega) hbase _ rfl ?_
  intro g cap w' h1 h2 h3 h4
  refine h g cap w' ⟨?_, ?_⟩ h2 h3
  · rw [List.length_append]
    simpa [ints] using h1
  · intro k hk
    have e : g = k := by simpa [Value.ownBlock] using hk
    subst e
    rcases h3 with h3 | h3
    · exact hown.2 _ h3
    · rw [h3]; exact hok
end Go.Proofs.YtbgbnaicbfakoaaDoor
