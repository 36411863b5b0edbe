/-
  WALKS: math/bits.TrailingZeros at numbers that are not 0, and FlipIndex (both packages). The table of the library is a hypothesis.
-/
import Derived.Test.YthnpobbpmgjhjaaDoorGM
import Derived.Shelf.Spec.TrailingZeros
import Derived.Lib.LaidTab
namespace Go.Proofs.YthnpobbpmgjhjaaDoor
open Go.RowKit

theorem tz_ctz : ∀ (f n : Nat), tzF f n = Lib.ctzFrom f n := by
  intro f
  induction f with
  | zero => intro n; rfl
  | succ f ih =>
    intro n
    simp only [tzF, Lib.ctzFrom]
    rw [ih]
    by_cases h : n % 2 = 0
    · rw [if_pos h, if_neg (by omega)]; omega
    · rw [if_neg h, if_pos (by omega)]
theorem tzN_ctz {n : Nat} (h : n ≠ 0) : Lib.ctz 64 n = tzN n := by
  unfold Lib.ctz tzN
  rw [if_neg h, tz_ctz]
theorem tzF_pow : ∀ (k f m : Nat), k < f → m % 2 = 1 → tzF f (2 ^ k * m) = k := by
  intro k
  induction k with
  | zero =>
    intro f m hf hm
    obtain ⟨g, rfl⟩ : ∃ g, f = g + 1 := ⟨f - 1, by omega⟩
    simp only [tzF]
    rw [if_neg (by simp; omega)]
  | succ k ih =>
    intro f m hf hm
    obtain ⟨g, rfl⟩ : ∃ g, f = g + 1 := ⟨f - 1, by omega⟩
    have e : 2 ^ (k + 1) * m = 2 * (2 ^ k * m) := by rw [Nat.pow_succ]; simp only [Nat.mul_assoc, Nat.mul_left_comm, Nat.mul_comm]
    simp only [tzF]
    rw [e, if_pos (by omega), show 2 * (2 ^ k * m) / 2 = 2 ^ k * m by omega, ih g m (by omega) hm]
/-- The library's table in its variable. -/
def Tab64 (w : World) : Prop := ∀ j, j < 64 → w.cell? ⟨1, j, none⟩ = some (.int .u8 (Lib.deBruijn64tab.getD j 0 : Nat))
theorem Tab64.below {w w' : World} {B : Nat} (h : Tab64 w) (hb : Below B w w') (hB : 1 < B) : Tab64 w' := fun j hj => by rw [hb.cell hB]; exact h j hj

set_option maxHeartbeats 1000000 in
theorem tz64_at (x k idx : Nat) (w : World) (hx0 : ((x : Int) == 0) = false)
    (key : IntKind.u64.wrap (bits BinOp.and IntKind.u64 (x : Int) (IntKind.u64.wrap (-(x : Int))) * 285870213051353865) / 288230376151711744 = (idx : Int))
    (hi : idx < 64) (hk : k < 64) (hcell : w.cell? ⟨1, idx, none⟩ = some (.int .u8 k)) :
    Calls Tryd.prog 40 #[.int .u64 (x : Int)] w fun e w' => e = .returned (.int .i64 (k : Int)) ∧ w = w' := by
  go_enter Tryd.func40, Tryd.ntmps40
  go_wp2_with (simp only [key])
  go_ret
  exact ⟨rfl, rfl⟩
theorem tz64_any (x : Nat) (h0 : x ≠ 0) (hx : x < 18446744073709551616) (w : World) (hT : Tab64 w) :
    Calls Tryd.prog 40 #[.int .u64 (x : Int)] w fun e w' => e = .returned (.int .i64 (tzN x : Nat)) ∧ w = w' := by
  obtain ⟨hlow, hk⟩ := Lib.lowest_bit 64 x h0 hx
  obtain ⟨hi, htab⟩ := Lib.deBruijn64_at _ hk
  have hcell := hT _ hi
  rw [htab] at hcell
  rw [← tzN_ctz h0]
  exact tz64_at x _ _ w (by simp; omega) (tz64_key x _ hx h0 hlow) hi hk hcell
theorem tz_any (x : Nat) (h0 : x ≠ 0) (hx : x < 9223372036854775808) (w : World) (hT : Tab64 w) :
    Calls Tryd.prog 22 #[.int .u64 (x : Int)] w fun e w' => e = .returned (.int .i64 (tzN x : Nat)) ∧ w = w' := by
  go_enter Tryd.func22, Tryd.ntmps22
  go_wp2_with fail
  refine (tz64_any x h0 (by omega) _ hT).mono ?_
  rintro e w' ⟨rfl, rfl⟩
  go_wp2
  go_ret
  exact ⟨rfl, rfl⟩
def flipR (n : Int) : Int := if inB n 1 1000000000000 then (tzN n.toNat : Nat) else -1
theorem flipR_of {n : Nat} (h : inB (n : Int) 1 1000000000000 = true) : flipR n = (tzN n : Nat) := by simp [flipR, h]
theorem flipR_no {n : Int} (h : inB n 1 1000000000000 = false) : flipR n = -1 := by simp [flipR, h]
theorem iFlipIndex_any (N : Int) (w : World) (hT : Tab64 w) :
    Calls Tryd.prog 6 #[.int .i64 N] w fun e w' => e = .returned (.int .i64 (flipR N)) ∧ w = w' := by
  have HT := Lib.hid hT
  rcases Bool.eq_false_or_eq_true (inB N 1 1000000000000) with h | h
  · obtain ⟨n0, n1⟩ := inB_true h
    obtain ⟨n, rfl⟩ : ∃ n : Nat, N = n := ⟨N.toNat, by omega⟩
    have HR := Lib.hid (flipR_of h)
    have hw : IntKind.u64.wrap (n : Int) = n := by rw [IntKind.wrap_u64]; omega
    clear hT
    go_enter Tryd.func6, Tryd.ntmps6
    go_wp2_with fail
    refine (within_any _ _ _ _).mono ?_
    rintro e w' ⟨rfl, rfl⟩
    go_wp2_with fail
    refine (tz_any n (by omega) (by omega) _ HT.out).mono ?_
    rintro e w' ⟨rfl, rfl⟩
    go_wp2
    go_ret
    exact ⟨ret_int HR.out.symm, rfl⟩
  · have HR := Lib.hid (flipR_no h)
    clear hT
    go_enter Tryd.func6, Tryd.ntmps6
    go_wp2_with fail
    refine (within_any _ _ _ _).mono ?_
    rintro e w' ⟨rfl, rfl⟩
    go_wp2
    go_ret
    exact ⟨ret_int HR.out.symm, rfl⟩
theorem l12Index_any (n : Nat) (h0 : 1 ≤ n) (h1 : n ≤ 1000000000000) (w : World) :
    Calls Tryd.prog 20 #[.int .i64 (n : Int)] w fun e w' => e = .returned (.int .i64 (tzN n : Nat)) ∧ w = w' := by
  go_enter Tryd.func20, Tryd.ntmps20
  go_wp2
  go_loop [0, 3] (fun m k => ∃ q j : Nat, m = .int .i64 q ∧ k = .int .i64 j ∧ 0 < q ∧ Hid (2 ^ j * q = n)) (fun m _ => (intOf m).toNat)
  case atStart => exact ⟨n, 0, rfl, rfl, h0, (show 2 ^ 0 * n = n by simp)⟩
  case round =>
    obtain ⟨q, j, rfl, rfl, q0, hQ⟩ := hrel
    have hqn : q ≤ n ∧ j < 40 := by
      have e := hQ.out
      have p := Nat.one_le_two_pow (n := j)
      have p2 : 2 ^ j * 1 ≤ 2 ^ j * q := Nat.mul_le_mul_left _ q0
      have p3 : 1 * q ≤ 2 ^ j * q := Nat.mul_le_mul_right _ p
      refine ⟨by omega, ?_⟩
      rcases Nat.lt_or_ge j 40 with h | h
      · exact h
      · have := Nat.pow_le_pow_right (n := 2) (by omega) h
        have e40 : (2 : Nat) ^ 40 = 1099511627776 := by decide
        omega
    obtain ⟨q1, j1⟩ := hqn
    by_cases h2 : (q : Int) % 2 = 0
    · have HQ : Hid (2 ^ (j + 1) * (q / 2) = n) := by
        have e := hQ.out
        have hq2 : q = 2 * (q / 2) := by omega
        unfold Hid
        rw [Nat.pow_succ, Nat.mul_assoc, ← hq2]
        exact e
      have q2 : 0 < q / 2 := by omega
      clear hQ
      go_wp2
      go_round
      case rel => exact ⟨q / 2, j + 1, by first | rfl | (congr 1; omega), by go_num, q2, HQ.out⟩
      case measure => simp [intOf]; omega
    · have h3 : (q : Int) % 2 = 1 := by omega
      have HF : Hid (tzN n = j) := by
        unfold Hid tzN
        rw [← hQ.out]
        exact tzF_pow j 64 q (by omega) (by omega)
      clear hQ h2
      go_wp2
      go_ret
      exact ⟨ret_int (by rw [HF.out]), rfl⟩
theorem sFlipIndex_any (N : Int) (w : World) :
    Calls Tryd.prog 5 #[.int .i64 N] w fun e w' => e = .returned (.int .i64 (flipR N)) ∧ w = w' := by
  rcases Bool.eq_false_or_eq_true (inB N 1 1000000000000) with h | h
  · obtain ⟨n0, n1⟩ := inB_true h
    obtain ⟨n, rfl⟩ : ∃ n : Nat, N = n := ⟨N.toNat, by omega⟩
    have HR := Lib.hid (flipR_of h)
    go_enter Tryd.func5, Tryd.ntmps5
    go_wp2_with fail
    refine (l01In_any _ _ _ _).mono ?_
    rintro e w' ⟨rfl, rfl⟩
    go_wp2_with fail
    refine (l12Index_any n (by omega) (by omega) _).mono ?_
    rintro e w' ⟨rfl, rfl⟩
    go_wp2
    go_ret
    exact ⟨ret_int HR.out.symm, rfl⟩
  · have HR := Lib.hid (flipR_no h)
    go_enter Tryd.func5, Tryd.ntmps5
    go_wp2_with fail
    refine (l01In_any _ _ _ _).mono ?_
    rintro e w' ⟨rfl, rfl⟩
    go_wp2
    go_ret
    exact ⟨ret_int HR.out.symm, rfl⟩
theorem lFlipIndex_law (w : World) (N : Int) (hT : Tab64 w) :
    Calls Tryd.prog 3 #[.int .i64 N] w fun e w' => e = .returned (.bool true) ∧ Below w.heap.size w w' := by
  have HT := Lib.hid hT
  clear hT
  go_enter Tryd.func3, Tryd.ntmps3
  go_wp2_with fail
  refine (sFlipIndex_any _ _).mono ?_
  rintro e w' ⟨rfl, rfl⟩
  go_wp2_with fail
  refine (iFlipIndex_any _ _ HT.out).mono ?_
  rintro e w' ⟨rfl, rfl⟩
  go_wp2
  go_ret
  exact ⟨rfl, Below.refl _ _⟩
end Go.Proofs.YthnpobbpmgjhjaaDoor
