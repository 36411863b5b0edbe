/-
  WALKS: math/bits.Mul64, math/bits.Mul, slices.Repeat at a list of one number.
-/
import Derived.Test.YtlhabcpoemcpjaaC5
import Derived.Laws.CopyOwn
import Derived.Deep.RegionLaw
namespace Go.Proofs.Ytlhabcpoemcpjaa
open Go.RowKit

theorem mask_u64 (y : Nat) (hy : y ≤ 1000) : bits .and .u64 (y : Int) 4294967295 = y := by
  have e : ∀ n : Nat, n ≤ 4294967295 → (BitVec.ofInt 64 (n : Int)).toNat = n := fun n hn => by
    rw [BitVec.ofInt_natCast, BitVec.toNat_ofNat]; omega
  show IntKind.u64.wrap ((BitVec.ofInt 64 (y : Int) &&& BitVec.ofInt 64 ((4294967295 : Nat) : Int)).toNat : Int) = _
  rw [BitVec.toNat_and, e y (by omega), e _ (Nat.le_refl _), IntKind.wrap_u64, show (4294967295 : Nat) = 2 ^ 32 - 1 by decide, Nat.and_two_pow_sub_one_eq_mod]
  omega
theorem mul64_any (y : Nat) (hy : y ≤ 1000) (w : World) :
    Calls Try.prog 63 #[.int .u64 1, .int .u64 y] w fun e w' => e = .returned (.tuple #[.int .u64 0, .int .u64 y]) ∧ w = w' := by
  have h0 : (0 : Int) ≤ y := by omega
  have h1 : (y : Int) ≤ 1000 := by omega
  have e1 : bits .and .u64 1 4294967295 = 1 := by have := mask_u64 1 (by omega); simpa using this
  have e0 : bits .and .u64 0 4294967295 = 0 := by have := mask_u64 0 (by omega); simpa using this
  have e2 := mask_u64 y hy
  have e4 : (y : Int) / 4294967296 = 0 := by omega
  go_enter Try.func63, Try.ntmps63
  go_wp2
  exact bodyPost_ret (v := .tuple #[.int .u64 0, .int .u64 y]) (by simp [results, Try.results63, go_sem]) rfl ⟨rfl, rfl⟩
theorem mul_any (y : Nat) (hy : y ≤ 1000) (w : World) :
    Calls Try.prog 61 #[.int .u64 1, .int .u64 y] w fun e w' => e = .returned (.tuple #[.int .u64 0, .int .u64 y]) ∧ w = w' := by
  have h0 : (0 : Int) ≤ y := by omega
  have h1 : (y : Int) ≤ 1000 := by omega
  go_enter Try.func61, Try.ntmps61
  go_wp2_with fail
  refine (mul64_any y hy w).mono ?_
  rintro e w' ⟨rfl, rfl⟩
  go_wp2
  exact bodyPost_ret (v := .tuple #[.int .u64 0, .int .u64 y]) (by simp [results, Try.results61, go_sem]) rfl ⟨rfl, rfl⟩

/-- The row of L numbers whose first m are v, the others 0. -/
def repL (v : Int) (L m : Nat) : List Value := (List.replicate m v ++ List.replicate (L - m) 0).map (Value.int .i64)
theorem repL_len (v : Int) (L m : Nat) (h : m ≤ L) : (repL v L m).length = L := by simp [repL]; omega
theorem repL_at {v : Int} {L m j : Nat} (h : j < m) : (repL v L m)[j]? = some (.int .i64 v) := by
  simp [repL, List.getElem?_append, h, List.getElem?_replicate]
theorem repL_splice {v : Int} {L m c : Nat} (h : m + c ≤ L) : splice (repL v L m) m (List.replicate c (.int .i64 v)) = repL v L (m + c) := by
  unfold splice repL
  simp only [List.map_append, List.map_replicate, List.length_replicate]
  rw [List.take_append_of_le_length (by simp), List.take_of_length_le (by simp), List.drop_append]
  simp only [List.length_replicate, List.drop_replicate]
  rw [show m - (m + c) = 0 by omega, show m + c - m = c by omega, show L - m - c = L - (m + c) by omega, List.replicate_zero, List.nil_append, ← List.append_assoc, List.replicate_append_replicate]

theorem repL_src {v : Int} {L m C g : Nat} {w : World} (hg : w.heap[g]? = some (.cells (repL v L m).toArray 3 (0, 0))) (hC : C ≤ m) :
    ∀ j x, (List.replicate C (Value.int .i64 v))[j]? = some x → w.cell? ((⟨g, 0, none⟩ : Addr).add j) = some x := fun j x hx => by
  rw [List.getElem?_replicate] at hx
  split at hx
  · rw [Addr.add_lit, Nat.zero_add, cell_of_row w _ _ _ _ _ hg, ← hx]
    simpa using repL_at (v := v) (L := L) (m := m) (j := j) (by omega)
  · cases hx
set_option maxHeartbeats 1600000 in
theorem repeat_any (s : Nat) (v : Int) (L : Nat) (w : World) (h1 : 1 ≤ L) (h2 : L ≤ 1000) (hs : w.cell? ⟨s, 0, none⟩ = some (.int .i64 v)) :
    Calls Try.prog 57 #[.slice (some ⟨s, 0, none⟩) 1 1, .int .i64 L] w fun e w' => ∃ A c, e = .returned (.slice A L c) ∧ Ow w' w.heap.size (.slice A L c) (List.replicate L v) ∧ Below w.heap.size w w' := by
  have c0 : (1 : Int) ≤ L := by omega
  have c1 : (L : Int) ≤ 1000 := by omega
  have hsl : s < w.heap.size := cell_lt hs
  obtain ⟨i0, hi, hz0, hz1, hz2⟩ := info_parts info3
  have hmk : ∀ u : World, (Instr.makeSlice 22 (.int .i64 (L : Int)) (.int .i64 (L : Int))).run Try.prog u =
      .ok (.slice (some ⟨u.heap.size, 0, none⟩) L L) (u.alloc (.cells (repL v L 0).toArray 3)) := fun u => by
    have h := run_make (P := Try.prog) u 22 3 i0 (.int .i64 0) Try.underlying22 hi hz0 .i64 .i64 (L : Int) (L : Int) (by omega) (Int.le_refl _) (by rw [hz2]; omega) (by omega)
    have e : madeCells #[Value.int .i64 0] L = (repL v L 0).toArray := by
      apply Array.ext'
      rw [toList_madeCells_one]
      simp [repL]
    rw [Int.toNat_natCast] at h
    simpa [hz1, Value.cells, e] using h
  have hsz : (Try.prog.info? 3).map (·.size) = some 1 := by rw [hi]; simp [hz1]
  have hc1 : (w.alloc (.cells (repL v L 0).toArray 3)).cell? ⟨s, 0, none⟩ = some (.int .i64 v) := by rw [World.cell?_alloc_lt w _ _ hsl]; exact hs
  have hcp : ∃ w2, (Builtin.copy_ #[22, 22] 3 #[.slice (some ⟨w.heap.size, 0, none⟩) L L, .slice (some ⟨s, 0, none⟩) 1 1]).run Try.prog (w.alloc (.cells (repL v L 0).toArray 3)) = .ok (.int .i64 1) w2 ∧ Hid (w2.heap[w.heap.size]? = some (.cells (repL v L 1).toArray 3 (0, 0))) ∧ Below w.heap.size w w2 := by
    have hrun := run_copy_row (P := Try.prog) (w.alloc (.cells (repL v L 0).toArray 3)) 22 22 3 3 w.heap.size 0 L L ⟨s, 0, none⟩ 1 1 (repL v L 0).toArray 3 [.int .i64 v] Try.underlying22 hsz (heap_alloc_new w _) (Nat.min_eq_left h1).symm (fun j x hx => by
      cases j with
      | zero => rw [Addr.add_zero']; simp at hx; subst hx; exact hc1
      | succ j => simp at hx) (by have := repL_len v L 0 (by omega); simp; omega) (by intro x hx; simp at hx; subst hx; rfl)
    refine ⟨_, hrun, ?_, below_setRow ((Below.refl _ _).alloc (Nat.le_refl _) _) (Nat.le_refl _) _⟩
    unfold Hid
    have e := repL_splice (v := v) (L := L) (m := 0) (c := 1) (by omega)
    rw [setRow_heap _ _ _ _ _ _ (heap_alloc_new w _), ← show 0 + 1 = 1 by omega, ← e]
    simp [splice]
  obtain ⟨w2, hcp, HG2, hB2⟩ := hcp
  clear hc1 hs
  go_enter Try.func57, Try.ntmps57
  go_wp2_with fail
  refine (mul_any L h2 w).mono ?_
  rintro e w' ⟨rfl, rfl⟩
  go_wp2
  clear hmk hcp
  go_loopw [8] (fun n wr => ∃ m : Nat, 1 ≤ m ∧ m ≤ L ∧ n = .int .i64 m ∧ Hid (wr.heap[w.heap.size]? = some (.cells (repL v L m).toArray 3 (0, 0))) ∧ Below w.heap.size w wr) (fun n _ => L - (intOf n).toNat)
  case atStart => exact ⟨1, Nat.le_refl _, h1, rfl, HG2, hB2⟩
  case round =>
    obtain ⟨m, hm1, hm2, rfl, hG, hB⟩ := hrel
    by_cases hlt : m < L
    · obtain ⟨C, hC⟩ : ∃ C, Nat.min m (L - m) = C := ⟨_, rfl⟩
      have hCb : C ≤ L - m := by rw [← hC]; exact Nat.min_le_right _ _
      have hC1 : 1 ≤ C := by rw [← hC]; exact Nat.le_min.2 ⟨hm1, by omega⟩
      have hCm : C ≤ m := by rw [← hC]; exact Nat.min_le_left _ _
      have b0 : (0 : Int) ≤ m := by omega
      have b1 : (m : Int) < L := by omega
      have hne : ¬ L = m := by omega
      have T2 : Hid (IntKind.i64.wrap ((m : Int) + C) = m + C) := IntWalk.i64_in _ (by omega)
      have HS := Lib.hid (repL_splice (v := v) (L := L) (m := m) (c := C) (by omega))
      go_wp2
      go_region_law (refine step_copy_splice rfl (.tmp 41) (.tmp 44) 22 22 rfl 3 Try.underlying22 hsz (some ⟨w.heap.size, m, none⟩) (some ⟨w.heap.size, 0, none⟩) (L - m) (L - m) m L (by simp [Act.eval, Act.put, hne]) (by simp [Act.eval, Act.put]) w.heap.size m (repL v L m) 3 hG.out (List.replicate C (.int .i64 v)) (by rw [List.length_replicate]; exact hC.symm) (fun _ => ⟨rfl, ⟨w.heap.size, 0, none⟩, rfl, repL_src hG.out hCm⟩) (by rw [repL_len _ _ _ (by omega), List.length_replicate]; omega) (by intro x hx; rw [List.eq_of_mem_replicate hx]; rfl) w.heap.size w (below_drew1 hB) (Nat.le_refl _) ?_; intro w4 hg4 hb4)
      rw [HS.out] at hg4
      simp [Act.put, T2.out]
      go_wp2
      go_roundw
      case rel => exact ⟨m + C, by omega, by omega, by go_num, hg4, hb4⟩
      case measure => simp [intOf]; omega
    · have hmL : m = L := by omega
      subst hmL
      go_wp2
      go_ret
      refine ⟨_, _, rfl, .inr ⟨w.heap.size, m, _, by rw [List.length_replicate], Nat.le_refl _, hG.out, by rw [List.length_replicate]; exact Nat.le_refl _, by unfold maxLen; omega, ?_, ?_⟩, hB⟩
      · simp [repL]
      · simp [repL]
end Go.Proofs.Ytlhabcpoemcpjaa
