/-
  WALKS OF THE SMALL FUNCTIONS THAT EVERY STATEMENT GOES THROUGH: within, l01In, toIntS, eqIntS, markIntS, heldIntS. No statement of the seat is proved here.
-/
import Derived.Test.YthnpobbpmgjhjaaDoorBase
namespace Go.Proofs.YthnpobbpmgjhjaaDoor
open Go.RowKit

theorem within_any (n lo hi : Int) (w : World) :
    Calls Tryd.prog 21 #[.int .i64 n, .int .i64 lo, .int .i64 hi] w fun e w' => e = .returned (.bool (inB n lo hi)) ∧ w = w' := by
  go_enter Tryd.func21, Tryd.ntmps21
  go_wp2
  all_goals go_ret
  all_goals exact ⟨ret_bool (by simp [inB]; try omega), rfl⟩

theorem l01In_any (n lo hi : Int) (w : World) :
    Calls Tryd.prog 19 #[.int .i64 n, .int .i64 lo, .int .i64 hi] w fun e w' => e = .returned (.bool (inB n lo hi)) ∧ w = w' := by
  go_enter Tryd.func19, Tryd.ntmps19
  go_wp2
  all_goals go_ret
  all_goals exact ⟨ret_bool (by simp [inB]; try omega), rfl⟩

/-- The world in the middle of toIntS: the new row holds the first k numbers. -/
def ToI (w : World) (xs : List Int) (k : Nat) (wr : World) : Prop :=
  wr.heap[w.heap.size]? = some (.cells ((xs.take k).map (Value.int .i64) ++ List.replicate (xs.length - k) (Value.int .i64 0)).toArray 3 (0, 0)) ∧ Below w.heap.size w wr ∧ wr.heap.size = w.heap.size + 1
theorem ToI.at_ {w wr : World} {xs : List Int} {k : Nat} (h : ToI w xs k wr) (hk : k < xs.length) : wr.cell? ⟨w.heap.size, k, none⟩ = some (.int .i64 0) := by
  rw [cell_of_row wr _ _ _ _ _ h.1]
  simp [List.getElem?_append, List.length_take, Nat.min_eq_left (Nat.le_of_lt hk), List.getElem?_replicate]
  omega
theorem ToI.free {w wr : World} {xs : List Int} {k j : Nat} (h : ToI w xs k wr) : wr.frozen? ⟨w.heap.size, j, none⟩ = false := frozen_of_row wr _ _ _ _ h.1
theorem ToI.step {w wr : World} {xs : List Int} {k : Nat} {x : Int} (h : ToI w xs k wr) (hx : xs[k]? = some x) : ToI w xs (k + 1) (wr.setCell ⟨w.heap.size, k, none⟩ (.int .i64 x)) := by
  obtain ⟨hk, rfl⟩ := List.getElem?_eq_some_iff.1 hx
  obtain ⟨h1, h2, h3⟩ := h
  refine ⟨?_, h2.setCell (Nat.le_refl _) _, by simpa [World.setCell] using h3⟩
  rw [heap_setCell_same wr _ _ _ _ _ h1]
  congr 2
  apply Array.ext'
  simp only [Array.toList_setIfInBounds]
  apply List.ext_getElem?
  intro j
  rw [List.getElem?_set]
  by_cases hj : k = j
  · subst hj
    simp [List.getElem?_append, List.length_take, Nat.min_eq_left (Nat.le_of_lt hk), Nat.min_eq_left (show k + 1 ≤ xs.length by omega)]
    omega
  · simp only [hj, if_false]
    by_cases hj2 : j < k
    · simp [List.getElem?_append, List.length_take, Nat.min_eq_left (Nat.le_of_lt hk), Nat.min_eq_left (show k + 1 ≤ xs.length by omega), hj2, show j < k + 1 by omega]
    · simp [List.getElem?_append, List.length_take, Nat.min_eq_left (Nat.le_of_lt hk), Nat.min_eq_left (show k + 1 ≤ xs.length by omega), hj2, show ¬ j < k + 1 by omega, List.getElem?_replicate]
      by_cases hj3 : j < xs.length
      · rw [if_pos (by omega), if_pos (by omega)]
      · rw [if_neg (by omega), if_neg (by omega)]
theorem ToI.own {w wr : World} {xs : List Int} (h : ToI w xs xs.length wr) (hl : xs.length ≤ maxLen) : Ow wr w.heap.size (.slice (some ⟨w.heap.size, 0, none⟩) xs.length xs.length) xs := by
  obtain ⟨h1, h2, h3⟩ := h
  exact .inr ⟨w.heap.size, xs.length, _, rfl, Nat.le_refl _, h1, Nat.le_refl _, hl, by simp, by simp [List.take_of_length_le]⟩

end Go.Proofs.YthnpobbpmgjhjaaDoor
