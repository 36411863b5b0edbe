/-
  WALKS: isNumber, GrayOf, FromGray, RingSteps (both packages) and the three laws over them. The laws' own statements are closed in the texts that import this one.
-/
import Derived.Test.YthnpobbpmgjhjaaDoorW2
namespace Go.Proofs.YthnpobbpmgjhjaaDoor
open Go.RowKit

theorem ofInt_i64 (a : Nat) (ha : a < 9223372036854775808) : (BitVec.ofInt 64 (a : Int)).toNat = a := by
  rw [BitVec.ofInt_natCast, BitVec.toNat_ofNat]; exact Nat.mod_eq_of_lt (by omega)
theorem i64_xor_nat (a b : Nat) (ha : a < 9223372036854775808) (hb : b < 9223372036854775808) : bits .xor .i64 (a : Int) (b : Int) = ((a ^^^ b : Nat) : Int) := by
  have hx : a ^^^ b < 2 ^ 63 := Nat.xor_lt_two_pow (by omega) (by omega)
  show IntKind.i64.wrap ((BitVec.ofInt 64 (a : Int) ^^^ BitVec.ofInt 64 (b : Int)).toNat : Int) = _
  rw [BitVec.toNat_xor, ofInt_i64 a ha, ofInt_i64 b hb, IntKind.wrap_i64]
  omega

theorem isNumber_any (n : Int) (w : World) :
    Calls Tryd.prog 26 #[.int .i64 n] w fun e w' => e = .returned (.bool (inB n 0 1000000000000)) ∧ w = w' := by
  go_enter Tryd.func26, Tryd.ntmps26
  go_wp2_with (go_at_call 21; refine (within_any _ _ _ _).mono ?_; rintro e w' ⟨rfl, rfl⟩)
  go_ret
  exact ⟨rfl, rfl⟩

/-- The Gray code of a number. -/
def grayN (n : Nat) : Nat := n ^^^ n / 2
def grayR (n : Int) : Int := if inB n 0 1000000000000 then ((grayN n.toNat : Nat) : Int) else -1

theorem iGrayOf_any (n : Int) (w : World) :
    Calls Tryd.prog 8 #[.int .i64 n] w fun e w' => e = .returned (.int .i64 (grayR n)) ∧ w = w' := by
  rcases Bool.eq_false_or_eq_true (inB n 0 1000000000000) with h | h
  · obtain ⟨b1, b2⟩ := inB_true h
    obtain ⟨m, rfl⟩ := Int.eq_ofNat_of_zero_le b1
    have hx : bits .xor .i64 (m : Int) ((m : Int) / 2) = ((m ^^^ m / 2 : Nat) : Int) := i64_xor_nat m (m / 2) (by omega) (by omega)
    go_enter Tryd.func8, Tryd.ntmps8
    go_wp2_with (go_at_call 26; refine (isNumber_any _ _).mono ?_; rintro e w' ⟨rfl, rfl⟩)
    go_ret
    exact ⟨ret_int (by simp [grayR, h, grayN]), rfl⟩
  · go_enter Tryd.func8, Tryd.ntmps8
    go_wp2_with (go_at_call 26; refine (isNumber_any _ _).mono ?_; rintro e w' ⟨rfl, rfl⟩)
    go_ret
    exact ⟨ret_int (by simp [grayR, h]), rfl⟩

/-- The number whose Gray code is g, n gathered so far. -/
def FG (n g : Nat) : Nat := if g = 0 then n else FG (n ^^^ g) (g / 2)
termination_by g
decreasing_by omega
theorem FG_zero (n : Nat) : FG n 0 = n := by rw [FG]; simp
theorem FG_pos (n g : Nat) (h : 0 < g) : FG n g = FG (n ^^^ g) (g / 2) := by rw [FG, if_neg (by omega)]

set_option maxHeartbeats 400000 in
theorem fromGray_any (G : Nat) (w : World) (hG : G < 1099511627776) :
    Calls Tryd.prog 27 #[.int .i64 (G : Int)] w fun e w' => e = .returned (.int .i64 (FG 0 G : Nat)) ∧ w = w' := by
  go_enter Tryd.func27, Tryd.ntmps27
  go_wp2
  go_loop [0, 3] (fun x y => ∃ g n : Nat, x = .int .i64 g ∧ y = .int .i64 n ∧ g < 1099511627776 ∧ n < 1099511627776 ∧ Hid (FG n g = FG 0 G)) (fun x _ => (intOf x).toNat)
  case atStart => exact ⟨G, 0, rfl, rfl, hG, by omega, rfl⟩
  case round =>
    obtain ⟨g, n, rfl, rfl, hg, hn, hF⟩ := hrel
    by_cases hp : 0 < g
    · have hx : bits .xor .i64 (n : Int) (g : Int) = ((n ^^^ g : Nat) : Int) := i64_xor_nat n g (by omega) (by omega)
      have hlt : n ^^^ g < 2 ^ 40 := Nat.xor_lt_two_pow (by omega) (by omega)
      go_wp2
      go_round
      case rel => exact ⟨g / 2, n ^^^ g, by go_num, rfl, by omega, by omega, by have h := hF.out; rw [FG_pos n g hp] at h; exact h⟩
      case measure => simp [intOf]; omega
    · obtain rfl : g = 0 := by omega
      go_wp2
      go_ret
      exact ⟨ret_int (by rw [← hF.out, FG_zero]), rfl⟩

def fromR (g : Int) : Int := if inB g 0 1000000000000 then ((FG 0 g.toNat : Nat) : Int) else -1

theorem iFromGray_any (n : Int) (w : World) :
    Calls Tryd.prog 9 #[.int .i64 n] w fun e w' => e = .returned (.int .i64 (fromR n)) ∧ w = w' := by
  rcases Bool.eq_false_or_eq_true (inB n 0 1000000000000) with h | h
  · obtain ⟨b1, b2⟩ := inB_true h
    obtain ⟨m, rfl⟩ := Int.eq_ofNat_of_zero_le b1
    go_enter Tryd.func9, Tryd.ntmps9
    go_wp2_with (first
      | (go_at_call 26; refine (isNumber_any _ _).mono ?_; rintro e w' ⟨rfl, rfl⟩)
      | (go_at_call 27; refine (fromGray_any _ _ (by omega)).mono ?_; rintro e w' ⟨rfl, rfl⟩))
    go_ret
    exact ⟨ret_int (by simp [fromR, h]), rfl⟩
  · go_enter Tryd.func9, Tryd.ntmps9
    go_wp2_with (go_at_call 26; refine (isNumber_any _ _).mono ?_; rintro e w' ⟨rfl, rfl⟩)
    go_ret
    exact ⟨ret_int (by simp [fromR, h]), rfl⟩

end Go.Proofs.YthnpobbpmgjhjaaDoor
