/-
  THE LAW OF 'out = append(out, x)' AT A STEP OF A REGION THAT DRAWS ITS ORDER, in the words Ap and Below. No statement of the seat is proved here.
-/
import Derived.Test.YtfdighaginmabaaW3
import Derived.Deep.AppendLies
import Derived.Deep.RegionHeld3
namespace Go.Proofs.Ytfdighaginmabaa
open Go.RowKit

/-- The world w is w0 but for one new block, which holds y, and for draws. -/
structure Laid1 (w0 w : World) (y : Int) : Prop where
  heap : w.heap = w0.heap.push (.cells #[.int .i64 y] 3)
  os : w.os = w0.os
  tape : w.tape = w0.tape
  output : w.output = w0.output
theorem Laid1.below {w0 w : World} {y : Int} (h : Laid1 w0 w y) {base : Nat} (hb : base ≤ w0.heap.size) : Below base w0 w := by
  have h2 := (Below.refl base w0).alloc hb (.cells #[.int .i64 y] 3)
  exact ⟨h.os.trans h2.os, h.tape.trans h2.tape, h.output.trans h2.output, by rw [h.heap]; exact h2.size, fun i hi => by rw [h.heap]; exact h2.block i hi⟩

theorem step_app1 {ops : Array Oper} {o : Oper} {a : Act} {K : Act → World → Prop} {Q : Exit → Act → World → Prop} {E : Prop} {w0 w : World} {base : Nat} {v : Value} {xs : List Int} {y : Int}
    (hown : Ap w0 base v xs) (hw : Laid1 w0 w y) (hl : xs.length < 1099511627776) (hbase : base ≤ w0.heap.size) (hgd : o.guard = none) (s x : Operand) (t : TypeId)
    (ho : o.op = .call { callee := .builtin .append, args := #[s, x], argTypes := #[t, t] }) (ht : t = 24)
    (hs : a.eval s = v) (hx : a.eval x = .slice (some ⟨w0.heap.size, 0, none⟩) 1 1)
    (h : ∀ A c w', Ap w' base (.slice A (xs.length + 1) c) (xs ++ [y]) → Below base w0 w' → K (a.put o.dst (.slice A (xs.length + 1) c)) w') :
    if Region.wanted o (yielded ops a.tmps) = true then Oper.wp Try.prog o a w K Q else E := by
  obtain ⟨i0, hi, hz0, hz1, hz2⟩ := info_parts info3
  subst ht
  have hown2 : w.ownsRow base 3 1 v xs.length (xs.map (Value.int .i64)) := by
    have h1 : (w0.alloc (.cells #[.int .i64 y] 3)).ownsRow base 3 1 v xs.length (xs.map (Value.int .i64)) := World.ownsRow.alloc hown _
    unfold World.ownsRow at h1 ⊢
    rw [hw.heap]
    exact h1
  have hnew : w.heap[w0.heap.size]? = some (.cells #[.int .i64 y] 3 (0, 0)) := by rw [hw.heap]; exact heap_alloc_new w0 _
  refine step_append_lies w hgd s x 24 ho base 3 i0 (.int .i64 0) 1 8 Try.underlying24 hi hz0 hz1 hz2 rfl (by decide) v xs.length (xs.map (Value.int .i64)) hs hown2
    ⟨w0.heap.size, 0, none⟩ 1 1 [.int .i64 y] hx rfl (World.news_of_block (cs := #[.int .i64 y]) hnew) (by simp [Value.oneCell']) (by omega) (by unfold maxLen; omega) (by omega) (Nat.le_trans hbase (hw.below hbase).size) _ rfl ?_
  intro g cap w' h1 h2 h3 h4
  refine h (some ⟨g, 0, none⟩) cap w' ?_ ?_
  · unfold Ap
    simpa using h1
  · exact (hw.below hbase).grown h2 (Nat.le_trans hbase (hw.below hbase).size) fun k hk => (World.ownsRow.lt hown k hk).1
end Go.Proofs.Ytfdighaginmabaa
