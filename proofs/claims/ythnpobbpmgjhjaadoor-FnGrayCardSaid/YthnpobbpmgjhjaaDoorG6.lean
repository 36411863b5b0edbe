/-
  WALKS: the reference's IsGrayCycle, and the law over IsGrayCycle.
-/
import Derived.Test.YthnpobbpmgjhjaaDoorG5
namespace Go.Proofs.YthnpobbpmgjhjaaDoor
open Go.RowKit

theorem info4 : (Tryd.prog.info? 4).map (fun i => (i.zero, i.size, i.bytes)) = some (some (.bool false), 1, 1) := by kernel_rfl
/-- The world in the middle of IsGrayCycle: the new row says which numbers were met. -/
def Seen (w : World) (xs : List Int) (i : Nat) (wr : World) : Prop :=
  wr.heap[w.heap.size]? = some (.cells ((List.range xs.length).map fun v => Value.bool ((xs.take i).contains ((v : Nat) : Int))).toArray 4 (0, 0)) ∧ Below w.heap.size w wr
theorem Seen.at_ {w wr : World} {xs : List Int} {i X : Nat} (h : Seen w xs i wr) (hX : X < xs.length) : wr.cell? ⟨w.heap.size, X, none⟩ = some (.bool ((xs.take i).contains ((X : Nat) : Int))) := by
  rw [cell_of_row wr _ _ _ _ _ h.1]
  simp [hX]
theorem Seen.free {w wr : World} {xs : List Int} {i X : Nat} (h : Seen w xs i wr) : wr.frozen? ⟨w.heap.size, X, none⟩ = false := frozen_of_row wr _ _ _ _ h.1
theorem Seen.step {w wr : World} {xs : List Int} {i X : Nat} (h : Seen w xs i wr) (hx : xs[i]? = some (X : Int)) (hX : X < xs.length) : Seen w xs (i + 1) (wr.setCell ⟨w.heap.size, X, none⟩ (.bool true)) := by
  obtain ⟨h1, h2⟩ := h
  refine ⟨?_, h2.setCell (Nat.le_refl _) _⟩
  rw [heap_setCell_same wr _ _ _ _ _ h1]
  congr 2
  apply Array.ext'
  simp only [Array.toList_setIfInBounds]
  apply List.ext_getElem?
  intro j
  rw [List.getElem?_set]
  rw [List.take_add_one, hx]
  by_cases hj : X = j
  · subst hj
    simp [hX]
  · rw [if_neg hj]
    by_cases hj2 : j < xs.length
    · simp [hj2]
      by_cases hm : (j : Int) ∈ xs.take i
      · simp [hm]
      · have : ¬ (j : Int) = (X : Int) := by omega
        simp [hm, this]
    · simp [hj2]
theorem Seen.below {w wr : World} {xs : List Int} {i X : Nat} (h : Seen w xs i wr) : Below w.heap.size w (wr.setCell ⟨w.heap.size, X, none⟩ (.bool true)) := h.2.setCell (Nat.le_refl _) _
theorem bits_i64 (a b : Int) : I64 (bits .xor .i64 a b) := by
  show I64 (IntKind.i64.wrap _)
  rw [IntKind.wrap_i64]
  unfold I64
  omega

end Go.Proofs.YthnpobbpmgjhjaaDoor
