/-
  WALKS: slices.Concat at two slices; ShiftFib (both packages) and the law over it.
-/
import Derived.Test.YtlimphfkagdjiaaF4
namespace Go.Proofs.Ytlimphfkagdjiaa
open Go.RowKit

set_option maxHeartbeats 1600000 in
theorem concat2_any (A1 A2 : Option Addr) (n1 c1 n2 c2 b b1 b2 : Nat) (xs ys : List Int) (w : World) (h1 : Ow w b1 (.slice A1 n1 c1) xs) (h2 : Ow w b2 (.slice A2 n2 c2) ys)
    (hc1 : w.cell? ⟨b, 0, none⟩ = some (.slice A1 n1 c1)) (hc2 : w.cell? ⟨b, 1, none⟩ = some (.slice A2 n2 c2)) (hp : 0 < n1) (hl : n1 + n2 ≤ 1048576) :
    Calls Try.prog 65 #[.slice (some ⟨b, 0, none⟩) 2 2] w fun e w' => ∃ A c, e = .returned (.slice A (xs ++ ys).length c) ∧ Ow w' w.heap.size (.slice A (xs ++ ys).length c) (xs ++ ys) ∧ Below w.heap.size w w' := by
  have e1 := Lib.hid h1.len
  have e2 := Lib.hid h2.len
  have q1 : (0 : Int) < n1 := by omega
  have q2 : (0 : Int) ≤ (n1 : Int) + n2 := by omega
  have q3 : (n1 : Int) + n2 ≤ 1048576 := by omega
  have bl := block_lt_of_cell hc1
  have hbl : b < w.heap.size := bl
  clear bl
  go_enter Try.func65, Try.ntmps65
  go_wp2
  refine wp_loop_rounds 3 ?_
  rw [rounds_succ]
  go_wp2
  rw [rounds_succ]
  go_wp2
  rw [rounds_succ]
  go_wp2_with fail
  rw [show ((n1 : Int) + n2) = ((n1 + n2 : Nat) : Int) by omega]
  refine (grow_any _ _ (by omega) hl).mono ?_
  rintro e w1 ⟨g, cg, rfl, O1, B1⟩
  have S1 := h1.below' B1
  have S2 := h2.below' B1
  have k1 : w1.cell? ⟨b, 0, none⟩ = some (.slice A1 n1 c1) := (B1.cell (p := ⟨b, 0, none⟩) hbl).trans hc1
  have k2 : w1.cell? ⟨b, 1, none⟩ = some (.slice A2 n2 c2) := (B1.cell (p := ⟨b, 1, none⟩) hbl).trans hc2
  have l1 : ([] : List Int).length + xs.length ≤ 1099511627776 := by have := e1.out; simp; omega
  have z1 := B1.size
  have L2 := fun k hk => (h2.lt k hk).2
  clear h1 h2 hc1 hc2
  go_wp2
  refine wp_loop_rounds 3 ?_
  rw [rounds_succ]
  go_wp2_with (at_builtin; refine wpList_appAny O1 S1 l1 z1 rfl _ _ 24 rfl rfl rfl rfl ?_; intro v2 w2 O2 B2; rw [List.nil_append] at O2; obtain ⟨A3, c3, rfl⟩ := O2.form)
  have C2 := B1.trans B2
  have j2 : w2.cell? ⟨b, 1, none⟩ = some (.slice A2 n2 c2) := (B2.cell (p := ⟨b, 1, none⟩) hbl).trans k2
  have T2 := S2.below B2 L2
  have l2 : xs.length + ys.length ≤ 1099511627776 := by have := e1.out; have := e2.out; omega
  have z2 := C2.size
  clear S1 S2 O1 k1 k2 l1 z1
  rw [rounds_succ]
  go_wp2_with (at_builtin; refine wpList_appAny O2 T2 l2 z2 rfl _ _ 24 rfl rfl rfl rfl ?_; intro v4 w4 O4 B4; obtain ⟨A5, c5, rfl⟩ := O4.form)
  rw [rounds_succ]
  go_wp2
  go_ret
  exact ⟨A5, c5, by rw [List.length_append]; rfl, O4.ow, C2.trans B4⟩

def shiftR (n : Int) : Int := if inB n 0 100000000 then fibSum (0 :: spR n) else -1
theorem shiftR_of {n : Int} (h : inB n 0 100000000 = true) : shiftR n = fibSum (0 :: spR n) := by simp [shiftR, h]
theorem zero_spR (n : Int) : ((0 : Int) :: spR n).length ≤ 59 ∧ ∀ x ∈ (0 : Int) :: spR n, (0 : Int) ≤ x ∧ x ≤ 1 := by
  have h1 := spR_len57 n
  refine ⟨by simp; omega, fun x hx => ?_⟩
  rcases List.mem_cons.1 hx with rfl | hx
  · omega
  · exact spR_mem n x hx
/-- '[]int{0}' -/
theorem Ap.zero1 (w : World) : Ap (w.alloc (.cells #[.int .i64 0] 3)) w.heap.size (.slice (some ⟨w.heap.size, 0, none⟩) 1 1) [0] :=
  World.ownsRow_lit w #[.int .i64 0] 1 (Nat.le_refl _) (by unfold maxLen; omega) rfl

theorem sShiftFib_any (N : Int) (w : World) :
    Calls Try.prog 40 #[.int .i64 N] w fun e w' => e = .returned (.int .i64 (shiftR N)) ∧ Below w.heap.size w w' := by
  rcases Bool.eq_false_or_eq_true (inB N 0 100000000) with h | h
  · have hb := inB_true h
    have HS := Lib.hid (shiftR_of h)
    have HZ := Lib.hid (zero_spR N)
    have hE : spR N = trimL (dg usedS 57 N) := spR_of (inB_of ⟨by omega, by omega⟩)
    have LS := l10Sparse_any N (w.alloc (.cells #[.int .i64 0] 3)) (by omega) (by omega)
    rw [← hE] at LS
    have LS2 := Lib.hid LS
    have O1 := Ap.zero1 w
    have l7 := spR_len57 N
    clear LS hE
    go_enter Try.func40, Try.ntmps40
    go_wp2_with fail
    refine (l01In_any _ _ _ _).mono ?_
    rintro e w' ⟨rfl, rfl⟩
    go_wp2_with fail
    refine (LS2.out).mono ?_
    rintro e w1 ⟨A, c, rfl, O2, B1⟩
    have O1' := O1.below' B1
    have C1 := ((Below.refl w.heap.size w).alloc (Nat.le_refl _) (.cells #[.int .i64 0] 3)).trans (B1.mono (by simp))
    have z1 := C1.size
    have l2 : ([0] : List Int).length + (spR N).length ≤ 1099511627776 := by simp; omega
    clear O1
    go_wp2_with (at_builtin; refine wpList_appAny O1' O2 l2 z1 rfl _ _ 24 rfl rfl rfl rfl ?_; intro v2 w2 O3 B2; rw [show ([0] : List Int) ++ spR N = 0 :: spR N from rfl] at O3; obtain ⟨A3, c3, rfl⟩ := O3.form)
    refine (l10Value_any _ _ _ _ O3.ow.rd HZ.out.1 HZ.out.2).mono ?_
    rintro e w3 ⟨rfl, rfl⟩
    go_wp2
    go_ret
    exact ⟨ret_int HS.out.symm, C1.trans B2⟩
  · go_enter Try.func40, Try.ntmps40
    go_wp2_with fail
    refine (l01In_any _ _ _ _).mono ?_
    rintro e w' ⟨rfl, rfl⟩
    go_wp2
    go_ret
    exact ⟨ret_int (by simp [shiftR, h]), Below.refl _ _⟩
theorem sShiftFib_c (w : World) (N : Int) (_h : I64 N) :
    Calls Try.prog 40 #[.int .i64 N] w fun e w' => e = .returned (.int .i64 (shiftR N)) ∧ Below w.heap.size w w' := sShiftFib_any N w

theorem iShiftFib_any (N : Int) (w : World) :
    Calls Try.prog 41 #[.int .i64 N] w fun e w' => e = .returned (.int .i64 (shiftR N)) ∧ Below w.heap.size w w' := by
  rcases Bool.eq_false_or_eq_true (inB N 0 100000000) with h | h
  · have hb := inB_true h
    have HS := Lib.hid (shiftR_of h)
    have HZ := Lib.hid (zero_spR N)
    have l7 := spR_len57 N
    have O1 := (Ap.zero1 w).ow
    go_enter Try.func41, Try.ntmps41
    go_wp2_with fail
    refine (within_any _ _ _ _).mono ?_
    rintro e w' ⟨rfl, rfl⟩
    go_wp2_with fail
    refine (iSparseFib_c _ N ⟨by omega, by omega⟩).mono ?_
    rintro e w1 ⟨A, c, rfl, O2, B1⟩
    have O1' := O1.below' B1
    have C1 := ((Below.refl w.heap.size w).alloc (Nat.le_refl _) (.cells #[.int .i64 0] 3)).trans (B1.mono (by simp))
    clear O1
    go_wp2_with fail
    refine (concat2_any _ _ _ _ _ _ _ _ _ _ _ _ (O1'.alloc _) (O2.alloc _) ?_ ?_ (by omega) (by omega)).mono ?_
    · rw [World.cell?_alloc_at _ _ _ _ rfl]; rfl
    · rw [World.cell?_alloc_at _ _ _ _ rfl]; rfl
    rintro e w2 ⟨A3, c3, rfl, O3, B3⟩
    rw [show ([0] : List Int) ++ spR N = 0 :: spR N from rfl] at O3
    have C2 := C1.trans (((Below.refl w1.heap.size w1).alloc (Nat.le_refl _) _).trans (B3.mono (by simp)) |>.mono C1.size)
    go_wp2_with fail
    refine (fibValue_any _ _ _ _ O3.rd HZ.out.1 HZ.out.2).mono ?_
    rintro e w3 ⟨rfl, rfl⟩
    go_wp2
    go_ret
    exact ⟨ret_int HS.out.symm, C2⟩
  · go_enter Try.func41, Try.ntmps41
    go_wp2_with fail
    refine (within_any _ _ _ _).mono ?_
    rintro e w' ⟨rfl, rfl⟩
    go_wp2
    go_ret
    exact ⟨ret_int (by simp [shiftR, h]), Below.refl _ _⟩
theorem iShiftFib_c (w : World) (N : Int) (_h : I64 N) :
    Calls Try.prog 41 #[.int .i64 N] w fun e w' => e = .returned (.int .i64 (shiftR N)) ∧ Below w.heap.size w w' := iShiftFib_any N w

set_option maxRecDepth 100000 in
set_option maxHeartbeats 1600000 in
theorem lShiftFib_law (w : World) (n0 : Int) (b0 : -9223372036854775808 ≤ n0 ∧ n0 ≤ 9223372036854775807) :
    Calls Try.prog 13 #[.int .i64 n0] w fun e w' => e = .returned (.bool true) ∧ Below w.heap.size w w' := by
  have BA0 : I64 n0 := b0
  clear b0
  go_enter Try.func13, Try.ntmps13
  go_wp2_with fail
  refine (sShiftFib_c _ _ BA0).mono ?_
  rintro e w1 ⟨rfl, B1⟩
  have C2 := (Below.refl w.heap.size w).trans (B1.mono (Below.refl w.heap.size w).size)
  go_wp2_with fail
  refine (iShiftFib_c _ _ BA0).mono ?_
  rintro e w3 ⟨rfl, B3⟩
  have C4 := C2.trans (B3.mono C2.size)
  go_wp2
  go_ret
  exact ⟨rfl, C4⟩

end Go.Proofs.Ytlimphfkagdjiaa
