/-
  WALKS OF THE SMALL FUNCTIONS THAT EVERY STATEMENT GOES THROUGH: within, l01In, toIntS, eqIntS, markIntS, heldIntS. No statement of the seat is proved here.
-/
import Derived.Test.YtfdighaginmabaaBase
namespace Go.Proofs.Ytfdighaginmabaa
open Go.RowKit

theorem within_any (n lo hi : Int) (w : World) :
    Calls Try.prog 47 #[.int .i64 n, .int .i64 lo, .int .i64 hi] w fun e w' => e = .returned (.bool (inB n lo hi)) ∧ w = w' := by
  go_enter Try.func47, Try.ntmps47
  go_wp2
  all_goals go_ret
  all_goals exact ⟨ret_bool (by simp [inB]; try omega), rfl⟩

theorem l01In_any (n lo hi : Int) (w : World) :
    Calls Try.prog 45 #[.int .i64 n, .int .i64 lo, .int .i64 hi] w fun e w' => e = .returned (.bool (inB n lo hi)) ∧ w = w' := by
  go_enter Try.func45, Try.ntmps45
  go_wp2
  all_goals go_ret
  all_goals exact ⟨ret_bool (by simp [inB]; try omega), rfl⟩

/-- The world in the middle of toIntS: the new row holds the first k numbers. -/
def ToI (w : World) (xs : List Int) (k : Nat) (wr : World) : Prop :=
  wr.heap[w.heap.size]? = some (.cells ((xs.take k).map (Value.int .i64) ++ List.replicate (xs.length - k) (Value.int .i64 0)).toArray 3 (0, 0)) ∧ Below w.heap.size w wr ∧ wr.heap.size = w.heap.size + 1
theorem ToI.at_ {w wr : World} {xs : List Int} {k : Nat} (h : ToI w xs k wr) (hk : k < xs.length) : wr.cell? ⟨w.heap.size, k, none⟩ = some (.int .i64 0) := by
  rw [cell_of_row wr _ _ _ _ _ h.1]
  simp [List.getElem?_append, List.length_take, Nat.min_eq_left (Nat.le_of_lt hk), List.getElem?_replicate]
  omega
theorem ToI.free {w wr : World} {xs : List Int} {k j : Nat} (h : ToI w xs k wr) : wr.frozen? ⟨w.heap.size, j, none⟩ = false := frozen_of_row wr _ _ _ _ h.1
theorem ToI.step {w wr : World} {xs : List Int} {k : Nat} {x : Int} (h : ToI w xs k wr) (hx : xs[k]? = some x) : ToI w xs (k + 1) (wr.setCell ⟨w.heap.size, k, none⟩ (.int .i64 x)) := by
  obtain ⟨hk, rfl⟩ := List.getElem?_eq_some_iff.1 hx
  obtain ⟨h1, h2, h3⟩ := h
  refine ⟨?_, h2.setCell (Nat.le_refl _) _, by simpa [World.setCell] using h3⟩
  rw [heap_setCell_same wr _ _ _ _ _ h1]
  congr 2
  apply Array.ext'
  simp only [Array.toList_setIfInBounds]
  apply List.ext_getElem?
  intro j
  rw [List.getElem?_set]
  by_cases hj : k = j
  · subst hj
    simp [List.getElem?_append, List.length_take, Nat.min_eq_left (Nat.le_of_lt hk), Nat.min_eq_left (show k + 1 ≤ xs.length by omega)]
    omega
  · simp only [hj, if_false]
    by_cases hj2 : j < k
    · simp [List.getElem?_append, List.length_take, Nat.min_eq_left (Nat.le_of_lt hk), Nat.min_eq_left (show k + 1 ≤ xs.length by omega), hj2, show j < k + 1 by omega]
    · simp [List.getElem?_append, List.length_take, Nat.min_eq_left (Nat.le_of_lt hk), Nat.min_eq_left (show k + 1 ≤ xs.length by omega), hj2, show ¬ j < k + 1 by omega, List.getElem?_replicate]
      by_cases hj3 : j < xs.length
      · rw [if_pos (by omega), if_pos (by omega)]
      · rw [if_neg (by omega), if_neg (by omega)]
theorem ToI.own {w wr : World} {xs : List Int} (h : ToI w xs xs.length wr) (hl : xs.length ≤ maxLen) : Ow wr w.heap.size (.slice (some ⟨w.heap.size, 0, none⟩) xs.length xs.length) xs := by
  obtain ⟨h1, h2, h3⟩ := h
  exact .inr ⟨w.heap.size, xs.length, _, rfl, Nat.le_refl _, h1, Nat.le_refl _, hl, by simp, by simp [List.take_of_length_le]⟩

set_option maxHeartbeats 800000 in
theorem toIntS_any (A : Option Addr) (c : Nat) (xs : List Int) (w : World) (hr : Rd w A xs) (hl : xs.length ≤ 1048576) :
    Calls Try.prog 20 #[.slice A xs.length c] w fun e w' => ∃ A' c', e = .returned (.slice A' xs.length c') ∧ Ow w' w.heap.size (.slice A' xs.length c') xs ∧ Below w.heap.size w w' := by
  obtain ⟨i0, hi, hz0, hz1, hz2⟩ := info_parts info3
  have hmk : ∀ u : World, (Instr.makeSlice 24 (.int .i64 (xs.length : Int)) (.int .i64 (xs.length : Int))).run Try.prog u =
      .ok (.slice (some ⟨u.heap.size, 0, none⟩) xs.length xs.length) (u.alloc (.cells (madeCells #[.int .i64 0] xs.length) 3)) := fun u => by
    have h := run_make (P := Try.prog) u 24 3 i0 (.int .i64 0) Try.underlying24 hi hz0 .i64 .i64 (xs.length : Int) (xs.length : Int) (by omega) (Int.le_refl _) (by rw [hz2]; omega) (by omega)
    rw [Int.toNat_natCast] at h
    simpa [hz1, Value.cells] using h
  have hst : ToI w xs 0 (w.alloc (.cells (madeCells #[.int .i64 0] xs.length) 3)) := by
    refine ⟨?_, (Below.refl _ _).alloc (Nat.le_refl _) _, by simp⟩
    rw [heap_alloc_new]
    congr 2
    apply Array.ext'
    rw [toList_madeCells_one]
    simp
  have HR := Lib.hid hr
  clear hr
  go_enter Try.func20, Try.ntmps20
  go_wp2
  go_loopw [4] (fun i wr => ∃ k : Nat, k ≤ xs.length ∧ i = .int .i64 k ∧ ToI w xs k wr) (fun i _ => xs.length - (intOf i).toNat)
  case atStart => exact ⟨0, Nat.zero_le _, rfl, hst⟩
  case round =>
    obtain ⟨k, hk, rfl, hT⟩ := hrel
    by_cases hlt : k < xs.length
    · obtain ⟨ad, x, rfl, hx, hc⟩ := (HR.out.below hT.2.1).at_ hlt
      have hcz := hT.at_ hlt
      have hfr := hT.free (j := k)
      have hst' := Lib.hid (hT.step hx.out)
      have H0 := Lib.hid hT
      clear hT hst
      go_wp2
      go_roundw
      case rel => exact ⟨k + 1, by omega, by go_num, by simpa using hst'.out⟩
      case measure => simp [intOf]; omega
    · have hkl : k = xs.length := by omega
      subst hkl
      go_wp2
      go_ret
      exact ⟨_, _, rfl, hT.own (by unfold maxLen; omega), hT.2.1⟩
end Go.Proofs.Ytfdighaginmabaa
