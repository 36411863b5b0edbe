/-
  WALKS: WythoffPair (both packages), l10Root, and the law over them.
-/
import Derived.Test.YtlimphfkagdjiaaMath4
namespace Go.Proofs.Ytlimphfkagdjiaa
open Go.RowKit

set_option maxHeartbeats 1600000 in
theorem l10Root_any (n : Int) (w : World) (h0 : 0 ≤ n) (h1 : n ≤ 5000000000000) :
    Calls Try.prog 64 #[.int .i64 n] w fun e w' => ∃ t : Int, e = .returned (.int .i64 t) ∧ 0 ≤ t ∧ t * t ≤ n ∧ n < (t + 1) * (t + 1) ∧ t ≤ 3000000000 ∧ w = w' := by
  go_enter Try.func64, Try.ntmps64
  go_wp2
  go_loop [3, 4] (fun lo hi => ∃ l h : Int, lo = .int .i64 l ∧ hi = .int .i64 h ∧ 0 ≤ l ∧ l ≤ h ∧ h ≤ 3000000000 ∧ Hid (l * l ≤ n) ∧ Hid (n < (h + 1) * (h + 1))) (fun lo hi => (intOf hi - intOf lo).toNat)
  case atStart => exact ⟨0, 3000000000, rfl, rfl, by omega, by omega, by omega, (by omega : (0 : Int) * 0 ≤ n), (by omega : n < ((3000000000 : Int) + 1) * (3000000000 + 1))⟩
  case round =>
    obtain ⟨l, h, rfl, rfl, l0, lh, h3, HL, HH⟩ := hrel
    by_cases hlt : l < h
    · have m0 : l < ((l + h + 1) / 2) := by omega
      have m1 : ((l + h + 1) / 2) ≤ h := by omega
      have q0 : 0 ≤ ((l + h + 1) / 2) * ((l + h + 1) / 2) := Int.mul_nonneg (by omega) (by omega)
      have q1 : ((l + h + 1) / 2) * ((l + h + 1) / 2) ≤ 3000000000 * 3000000000 := Int.mul_le_mul (by omega) (by omega) (by omega) (by omega)
      by_cases hq : ((l + h + 1) / 2) * ((l + h + 1) / 2) ≤ n
      · have HQ := Lib.hid hq
        go_wp2
        go_round
        case rel => exact ⟨((l + h + 1) / 2), h, rfl, rfl, by omega, by omega, h3, HQ.out, HH.out⟩
        case measure => simp [intOf]; omega
      · have HQ : Hid (n < (((l + h + 1) / 2) - 1 + 1) * (((l + h + 1) / 2) - 1 + 1)) := by unfold Hid; rw [show ((l + h + 1) / 2) - 1 + 1 = ((l + h + 1) / 2) by omega]; omega
        go_wp2
        go_round
        case rel => exact ⟨l, ((l + h + 1) / 2) - 1, rfl, rfl, by omega, by omega, by omega, HL.out, HQ.out⟩
        case measure => simp [intOf]; omega
    · obtain rfl : l = h := by omega
      go_wp2
      go_ret
      exact ⟨l, rfl, l0, HL.out, HH.out, h3, rfl⟩

def wyA (k : Int) : Int := if inB k 1 1000000 then shiftR (k - 1) + 1 else 0
def wyB (k : Int) : Int := if inB k 1 1000000 then shiftR (k - 1) + 1 + k else 0
theorem wyA_of {k : Int} (h : inB k 1 1000000 = true) : wyA k = shiftR (k - 1) + 1 := by simp [wyA, h]
theorem wyB_of {k : Int} (h : inB k 1 1000000 = true) : wyB k = shiftR (k - 1) + 1 + k := by simp [wyB, h]
theorem wyA_no {k : Int} (h : inB k 1 1000000 = false) : wyA k = 0 := by simp [wyA, h]
theorem wyB_no {k : Int} (h : inB k 1 1000000 = false) : wyB k = 0 := by simp [wyB, h]
theorem ret_tuple_ints {a b c d : Int} (h : a = b) (k : c = d) : Ending.returned (.tuple #[.int .i64 a, .int .i64 c]) = .returned (.tuple #[.int .i64 b, .int .i64 d]) := by rw [h, k]
theorem shiftR_bound {n : Int} (h0 : 0 ≤ n) (h1 : n ≤ 1000000) : 0 ≤ shiftR n ∧ shiftR n ≤ 3000000 := by
  obtain ⟨a, b, c⟩ := shift_golden h0 h1
  refine ⟨by omega, ?_⟩
  rcases Int.lt_or_le 3000000 (shiftR n) with h | h
  · exfalso
    have e : (shiftR n + 1) * (shiftR n + 1) - (shiftR n + 1) * (n + 1) - (n + 1) * (n + 1) = (shiftR n + 1) * (shiftR n - n) - (n + 1) * (n + 1) := by grind
    have t1 : 3000002 * 2000001 ≤ (shiftR n + 1) * (shiftR n - n) := Int.mul_le_mul (by omega) (by omega) (by omega) (by omega)
    have t2 : (n + 1) * (n + 1) ≤ 1000001 * 1000001 := Int.mul_le_mul (by omega) (by omega) (by omega) (by omega)
    omega
  · exact h

theorem iWythoffPair_c (w : World) (k : Int) (_h : I64 k) :
    Calls Try.prog 39 #[.int .i64 k] w fun e w' => e = .returned (.tuple #[.int .i64 (wyA k), .int .i64 (wyB k)]) ∧ Below w.heap.size w w' := by
  rcases Bool.eq_false_or_eq_true (inB k 1 1000000) with h | h
  · obtain ⟨k0, k1⟩ := inB_true h
    have HA := Lib.hid (wyA_of h)
    have HB := Lib.hid (wyB_of h)
    have hb := shiftR_bound (n := k - 1) (by omega) (by omega)
    go_enter Try.func39, Try.ntmps39
    go_wp2_with fail
    refine (within_any _ _ _ _).mono ?_
    rintro e w' ⟨rfl, rfl⟩
    go_wp2_with fail
    refine (iShiftFib_any _ _).mono ?_
    rintro e w1 ⟨rfl, B1⟩
    go_wp2
    go_ret2
    exact ⟨ret_tuple_ints HA.out.symm HB.out.symm, B1⟩
  · have HA := Lib.hid (wyA_no h)
    have HB := Lib.hid (wyB_no h)
    go_enter Try.func39, Try.ntmps39
    go_wp2_with fail
    refine (within_any _ _ _ _).mono ?_
    rintro e w' ⟨rfl, rfl⟩
    go_wp2
    go_ret2
    exact ⟨ret_tuple_ints HA.out.symm HB.out.symm, Below.refl _ _⟩

theorem sWythoffPair_c (w : World) (k : Int) (_h : I64 k) :
    Calls Try.prog 38 #[.int .i64 k] w fun e w' => e = .returned (.tuple #[.int .i64 (wyA k), .int .i64 (wyB k)]) ∧ Below w.heap.size w w' := by
  rcases Bool.eq_false_or_eq_true (inB k 1 1000000) with h | h
  · obtain ⟨k0, k1⟩ := inB_true h
    have HA := Lib.hid (wyA_of h)
    have HB := Lib.hid (wyB_of h)
    have b1 : 0 ≤ 5 * k * k := Int.mul_nonneg (by omega) (by omega)
    have b2 : 5 * k * k ≤ 5000000 * 1000000 := Int.mul_le_mul (by omega) (by omega) (by omega) (by omega)
    go_enter Try.func38, Try.ntmps38
    go_wp2_with fail
    refine (l01In_any _ _ _ _).mono ?_
    rintro e w' ⟨rfl, rfl⟩
    go_wp2_with fail
    refine (l10Root_any _ _ b1 (by omega)).mono ?_
    rintro e w1 ⟨t, rfl, t0, t1, t2, t3, rfl⟩
    have HW := Lib.hid (wythoff k0 k1 t0 t1 t2)
    clear t1 t2 b1 b2
    go_wp2
    go_ret2
    refine ⟨ret_tuple_ints ?_ ?_, Below.refl _ _⟩
    · rw [HA.out, ← HW.out]
    · rw [HB.out, ← HW.out]
  · have HA := Lib.hid (wyA_no h)
    have HB := Lib.hid (wyB_no h)
    go_enter Try.func38, Try.ntmps38
    go_wp2_with fail
    refine (l01In_any _ _ _ _).mono ?_
    rintro e w' ⟨rfl, rfl⟩
    go_wp2
    go_ret2
    exact ⟨ret_tuple_ints HA.out.symm HB.out.symm, Below.refl _ _⟩

set_option maxRecDepth 100000 in
set_option maxHeartbeats 1600000 in
theorem lWythoffPair_law (w : World) (n0 : Int) (b0 : -9223372036854775808 ≤ n0 ∧ n0 ≤ 9223372036854775807) :
    Calls Try.prog 12 #[.int .i64 n0] w fun e w' => e = .returned (.bool true) ∧ Below w.heap.size w w' := by
  have BA0 : I64 n0 := b0
  clear b0
  go_enter Try.func12, Try.ntmps12
  go_wp2_with fail
  refine (sWythoffPair_c _ _ BA0).mono ?_
  rintro e w1 ⟨rfl, B1⟩
  have C2 := (Below.refl w.heap.size w).trans (B1.mono (Below.refl w.heap.size w).size)
  go_wp2_with fail
  refine (iWythoffPair_c _ _ BA0).mono ?_
  rintro e w3 ⟨rfl, B3⟩
  have C4 := C2.trans (B3.mono C2.size)
  go_wp2
  go_ret
  exact ⟨rfl, C4⟩

end Go.Proofs.Ytlimphfkagdjiaa
