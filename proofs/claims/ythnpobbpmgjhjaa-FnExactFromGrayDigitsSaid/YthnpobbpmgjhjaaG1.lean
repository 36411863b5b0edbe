/-
  WALKS: isNumber, GrayOf, FromGray, RingSteps (both packages) and the three laws over them. The laws' own statements are closed in the texts that import this one.
-/
import Derived.Test.YthnpobbpmgjhjaaW2
namespace Go.Proofs.Ythnpobbpmgjhjaa
open Go.RowKit

theorem ofInt_i64 (a : Nat) (ha : a < 9223372036854775808) : (BitVec.ofInt 64 (a : Int)).toNat = a := by
  rw [BitVec.ofInt_natCast, BitVec.toNat_ofNat]; exact Nat.mod_eq_of_lt (by omega)
theorem i64_xor_nat (a b : Nat) (ha : a < 9223372036854775808) (hb : b < 9223372036854775808) : bits .xor .i64 (a : Int) (b : Int) = ((a ^^^ b : Nat) : Int) := by
  have hx : a ^^^ b < 2 ^ 63 := Nat.xor_lt_two_pow (by omega) (by omega)
  show IntKind.i64.wrap ((BitVec.ofInt 64 (a : Int) ^^^ BitVec.ofInt 64 (b : Int)).toNat : Int) = _
  rw [BitVec.toNat_xor, ofInt_i64 a ha, ofInt_i64 b hb, IntKind.wrap_i64]
  omega

theorem isNumber_any (n : Int) (w : World) :
    Calls Try.prog 33 #[.int .i64 n] w fun e w' => e = .returned (.bool (inB n 0 1000000000000)) ∧ w = w' := by
  go_enter Try.func33, Try.ntmps33
  go_wp2_with (go_at_call 36; refine (within_any _ _ _ _).mono ?_; rintro e w' ⟨rfl, rfl⟩)
  go_ret
  exact ⟨rfl, rfl⟩

/-- The Gray code of a number. -/
def grayN (n : Nat) : Nat := n ^^^ n / 2
def grayR (n : Int) : Int := if inB n 0 1000000000000 then ((grayN n.toNat : Nat) : Int) else -1

theorem l12Gray_any (n : Nat) (w : World) (hn : n < 9223372036854775808) :
    Calls Try.prog 32 #[.int .i64 (n : Int)] w fun e w' => e = .returned (.int .i64 (grayN n : Nat)) ∧ w = w' := by
  have hx : bits .xor .i64 (n : Int) ((n : Int) / 2) = ((n ^^^ n / 2 : Nat) : Int) := i64_xor_nat n (n / 2) hn (by omega)
  go_enter Try.func32, Try.ntmps32
  go_wp2
  go_ret
  exact ⟨rfl, rfl⟩

theorem sGrayOf_any (n : Int) (w : World) :
    Calls Try.prog 11 #[.int .i64 n] w fun e w' => e = .returned (.int .i64 (grayR n)) ∧ w = w' := by
  rcases Bool.eq_false_or_eq_true (inB n 0 1000000000000) with h | h
  · obtain ⟨b1, b2⟩ := inB_true h
    obtain ⟨m, rfl⟩ := Int.eq_ofNat_of_zero_le b1
    go_enter Try.func11, Try.ntmps11
    go_wp2_with (first
      | (go_at_call 31; refine (l01In_any _ _ _ _).mono ?_; rintro e w' ⟨rfl, rfl⟩)
      | (go_at_call 32; refine (l12Gray_any _ _ (by omega)).mono ?_; rintro e w' ⟨rfl, rfl⟩))
    go_ret
    exact ⟨ret_int (by simp [grayR, h]), rfl⟩
  · go_enter Try.func11, Try.ntmps11
    go_wp2_with (go_at_call 31; refine (l01In_any _ _ _ _).mono ?_; rintro e w' ⟨rfl, rfl⟩)
    go_ret
    exact ⟨ret_int (by simp [grayR, h]), rfl⟩

theorem iGrayOf_any (n : Int) (w : World) :
    Calls Try.prog 12 #[.int .i64 n] w fun e w' => e = .returned (.int .i64 (grayR n)) ∧ w = w' := by
  rcases Bool.eq_false_or_eq_true (inB n 0 1000000000000) with h | h
  · obtain ⟨b1, b2⟩ := inB_true h
    obtain ⟨m, rfl⟩ := Int.eq_ofNat_of_zero_le b1
    have hx : bits .xor .i64 (m : Int) ((m : Int) / 2) = ((m ^^^ m / 2 : Nat) : Int) := i64_xor_nat m (m / 2) (by omega) (by omega)
    go_enter Try.func12, Try.ntmps12
    go_wp2_with (go_at_call 33; refine (isNumber_any _ _).mono ?_; rintro e w' ⟨rfl, rfl⟩)
    go_ret
    exact ⟨ret_int (by simp [grayR, h, grayN]), rfl⟩
  · go_enter Try.func12, Try.ntmps12
    go_wp2_with (go_at_call 33; refine (isNumber_any _ _).mono ?_; rintro e w' ⟨rfl, rfl⟩)
    go_ret
    exact ⟨ret_int (by simp [grayR, h]), rfl⟩

theorem lGrayOf_law (w : World) (n : Int) (_hb : -9223372036854775808 ≤ n ∧ n ≤ 9223372036854775807) :
    Calls Try.prog 3 #[.int .i64 n] w fun e w' => e = .returned (.bool true) ∧ Below w.heap.size w w' := by
  go_enter Try.func3, Try.ntmps3
  go_wp2_with (first
    | (go_at_call 11; refine (sGrayOf_any _ _).mono ?_; rintro e w' ⟨rfl, rfl⟩)
    | (go_at_call 12; refine (iGrayOf_any _ _).mono ?_; rintro e w' ⟨rfl, rfl⟩))
  go_ret
  exact ⟨rfl, Below.refl _ _⟩

/-- The number whose Gray code is g, n gathered so far. -/
def FG (n g : Nat) : Nat := if g = 0 then n else FG (n ^^^ g) (g / 2)
termination_by g
decreasing_by omega
theorem FG_zero (n : Nat) : FG n 0 = n := by rw [FG]; simp
theorem FG_pos (n g : Nat) (h : 0 < g) : FG n g = FG (n ^^^ g) (g / 2) := by rw [FG, if_neg (by omega)]

set_option maxHeartbeats 400000 in
theorem l12From_any (G : Nat) (w : World) (hG : G < 1099511627776) :
    Calls Try.prog 34 #[.int .i64 (G : Int)] w fun e w' => e = .returned (.int .i64 (FG 0 G : Nat)) ∧ w = w' := by
  go_enter Try.func34, Try.ntmps34
  go_wp2
  go_loop [0, 3] (fun x y => ∃ g n : Nat, x = .int .i64 g ∧ y = .int .i64 n ∧ g < 1099511627776 ∧ n < 1099511627776 ∧ Hid (FG n g = FG 0 G)) (fun x _ => (intOf x).toNat)
  case atStart => exact ⟨G, 0, rfl, rfl, hG, by omega, rfl⟩
  case round =>
    obtain ⟨g, n, rfl, rfl, hg, hn, hF⟩ := hrel
    by_cases hp : 0 < g
    · have hx : bits .xor .i64 (n : Int) (g : Int) = ((n ^^^ g : Nat) : Int) := i64_xor_nat n g (by omega) (by omega)
      have hlt : n ^^^ g < 2 ^ 40 := Nat.xor_lt_two_pow (by omega) (by omega)
      go_wp2
      go_round
      case rel => exact ⟨g / 2, n ^^^ g, by go_num, rfl, by omega, by omega, by have h := hF.out; rw [FG_pos n g hp] at h; exact h⟩
      case measure => simp [intOf]; omega
    · obtain rfl : g = 0 := by omega
      go_wp2
      go_ret
      exact ⟨ret_int (by rw [← hF.out, FG_zero]), rfl⟩

set_option maxHeartbeats 400000 in
theorem fromGray_any (G : Nat) (w : World) (hG : G < 1099511627776) :
    Calls Try.prog 35 #[.int .i64 (G : Int)] w fun e w' => e = .returned (.int .i64 (FG 0 G : Nat)) ∧ w = w' := by
  go_enter Try.func35, Try.ntmps35
  go_wp2
  go_loop [0, 3] (fun x y => ∃ g n : Nat, x = .int .i64 g ∧ y = .int .i64 n ∧ g < 1099511627776 ∧ n < 1099511627776 ∧ Hid (FG n g = FG 0 G)) (fun x _ => (intOf x).toNat)
  case atStart => exact ⟨G, 0, rfl, rfl, hG, by omega, rfl⟩
  case round =>
    obtain ⟨g, n, rfl, rfl, hg, hn, hF⟩ := hrel
    by_cases hp : 0 < g
    · have hx : bits .xor .i64 (n : Int) (g : Int) = ((n ^^^ g : Nat) : Int) := i64_xor_nat n g (by omega) (by omega)
      have hlt : n ^^^ g < 2 ^ 40 := Nat.xor_lt_two_pow (by omega) (by omega)
      go_wp2
      go_round
      case rel => exact ⟨g / 2, n ^^^ g, by go_num, rfl, by omega, by omega, by have h := hF.out; rw [FG_pos n g hp] at h; exact h⟩
      case measure => simp [intOf]; omega
    · obtain rfl : g = 0 := by omega
      go_wp2
      go_ret
      exact ⟨ret_int (by rw [← hF.out, FG_zero]), rfl⟩

def fromR (g : Int) : Int := if inB g 0 1000000000000 then ((FG 0 g.toNat : Nat) : Int) else -1

theorem sFromGray_any (n : Int) (w : World) :
    Calls Try.prog 13 #[.int .i64 n] w fun e w' => e = .returned (.int .i64 (fromR n)) ∧ w = w' := by
  rcases Bool.eq_false_or_eq_true (inB n 0 1000000000000) with h | h
  · obtain ⟨b1, b2⟩ := inB_true h
    obtain ⟨m, rfl⟩ := Int.eq_ofNat_of_zero_le b1
    go_enter Try.func13, Try.ntmps13
    go_wp2_with (first
      | (go_at_call 31; refine (l01In_any _ _ _ _).mono ?_; rintro e w' ⟨rfl, rfl⟩)
      | (go_at_call 34; refine (l12From_any _ _ (by omega)).mono ?_; rintro e w' ⟨rfl, rfl⟩))
    go_ret
    exact ⟨ret_int (by simp [fromR, h]), rfl⟩
  · go_enter Try.func13, Try.ntmps13
    go_wp2_with (go_at_call 31; refine (l01In_any _ _ _ _).mono ?_; rintro e w' ⟨rfl, rfl⟩)
    go_ret
    exact ⟨ret_int (by simp [fromR, h]), rfl⟩

theorem iFromGray_any (n : Int) (w : World) :
    Calls Try.prog 14 #[.int .i64 n] w fun e w' => e = .returned (.int .i64 (fromR n)) ∧ w = w' := by
  rcases Bool.eq_false_or_eq_true (inB n 0 1000000000000) with h | h
  · obtain ⟨b1, b2⟩ := inB_true h
    obtain ⟨m, rfl⟩ := Int.eq_ofNat_of_zero_le b1
    go_enter Try.func14, Try.ntmps14
    go_wp2_with (first
      | (go_at_call 33; refine (isNumber_any _ _).mono ?_; rintro e w' ⟨rfl, rfl⟩)
      | (go_at_call 35; refine (fromGray_any _ _ (by omega)).mono ?_; rintro e w' ⟨rfl, rfl⟩))
    go_ret
    exact ⟨ret_int (by simp [fromR, h]), rfl⟩
  · go_enter Try.func14, Try.ntmps14
    go_wp2_with (go_at_call 33; refine (isNumber_any _ _).mono ?_; rintro e w' ⟨rfl, rfl⟩)
    go_ret
    exact ⟨ret_int (by simp [fromR, h]), rfl⟩

theorem lFromGray_law (w : World) (n : Int) (_hb : -9223372036854775808 ≤ n ∧ n ≤ 9223372036854775807) :
    Calls Try.prog 4 #[.int .i64 n] w fun e w' => e = .returned (.bool true) ∧ Below w.heap.size w w' := by
  go_enter Try.func4, Try.ntmps4
  go_wp2_with (first
    | (go_at_call 13; refine (sFromGray_any _ _).mono ?_; rintro e w' ⟨rfl, rfl⟩)
    | (go_at_call 14; refine (iFromGray_any _ _).mono ?_; rintro e w' ⟨rfl, rfl⟩))
  go_ret
  exact ⟨rfl, Below.refl _ _⟩
end Go.Proofs.Ythnpobbpmgjhjaa
