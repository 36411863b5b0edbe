/-
  WALKS: gcd (the program's and the reference's). No statement of the seat is proved here.
-/
import Derived.Test.YtepjmlcleggnnaaW3
namespace Go.Proofs.Ytepjmlcleggnnaa
open Go.RowKit

theorem gcd_tmod (x y : Int) : Int.gcd y (x.tmod y) = Int.gcd x y := by
  show Nat.gcd y.natAbs (x.tmod y).natAbs = Nat.gcd x.natAbs y.natAbs
  rw [Int.natAbs_tmod, Nat.gcd_comm y.natAbs, ← Nat.gcd_rec, Nat.gcd_comm]
theorem tmod_small (x y : Int) (hy : y ≠ 0) : (x.tmod y).natAbs < y.natAbs := by
  rw [Int.natAbs_tmod]
  exact Nat.mod_lt _ (by omega)
theorem gcd_end (x : Int) : ((Int.gcd x 0 : Nat) : Int) = max x (-x) := by
  rw [Int.gcd_zero_right]
  omega
theorem drewN_twice (w : World) (a b : Nat) : (w.drewN a).drewN b = w.drewN (a + b) := by simp [World.drewN, Nat.add_assoc]
set_option maxHeartbeats 800000 in
theorem gcd_any (a b : Int) (w : World) (ha : -1000000000000 ≤ a ∧ a ≤ 1000000000000) (hb : -1000000000000 ≤ b ∧ b ≤ 1000000000000) :
    Calls Try.prog 47 #[.int .i64 a, .int .i64 b] w fun e w' => e = .returned (.int .i64 (Int.gcd a b : Nat)) ∧ ∃ n, w' = w.drewN n := by
  obtain ⟨ha0, ha1⟩ := ha
  obtain ⟨hb0, hb1⟩ := hb
  go_enter Try.func47, Try.ntmps47
  go_wp2
  go_loopw [0, 1] (fun u v wr => ∃ (x y : Int) (n : Nat), wr = w.drewN n ∧ u = .int .i64 x ∧ v = .int .i64 y ∧ -1000000000000 ≤ x ∧ x ≤ 1000000000000 ∧ -1000000000000 ≤ y ∧ y ≤ 1000000000000 ∧ Hid (Int.gcd x y = Int.gcd a b)) (fun _ v _ => (intOf v).natAbs)
  case atStart => exact ⟨a, b, 0, rfl, rfl, rfl, ha0, ha1, hb0, hb1, (rfl : Int.gcd a b = Int.gcd a b)⟩
  case round =>
    obtain ⟨x, y, n, rfl, rfl, rfl, hx0, hx1, hy0, hy1, hG⟩ := hrel
    by_cases hy : y = 0
    · subst hy
      have HE : Hid (((Int.gcd a b : Nat) : Int) = max x (-x)) := by unfold Hid; rw [← hG.out, gcd_end]
      go_wp2
      all_goals go_ret
      all_goals exact ⟨ret_int (by have := HE.out; omega), n, rfl⟩
    · have ts := tmod_small x y hy
      obtain ⟨t, ht⟩ : ∃ t, x.tmod y = t := ⟨_, rfl⟩
      have HG2 : Hid (Int.gcd y t = Int.gcd a b) := by unfold Hid; rw [← ht, gcd_tmod, hG.out]
      rw [ht] at ts
      have t1 : (y != 0) = true := by simp [hy]
      have t2 : (y == 0) = false := by simp [hy]
      have t0 : -1000000000000 ≤ t := by omega
      have t3 : t ≤ 1000000000000 := by omega
      have HT := Lib.hid ts
      go_wp2
      go_region
      go_wp2
      go_roundw
      case rel => exact ⟨y, t, _, by first | rfl | exact drewN_twice _ _ _ | exact drewN_one _ _, rfl, by first | rfl | (rw [ht]) | (rw [ht]; go_num), hy0, hy1, t0, t3, HG2⟩
      case measure => first | (have := HT.out; simp [intOf]; omega) | (have := HT.out; simp [intOf, ht]; omega)
theorem gcd_emod (x y : Int) (h : 0 ≤ x) : Int.gcd y (x % y) = Int.gcd x y := by
  have := gcd_tmod x y
  rwa [Int.tmod_eq_emod_of_nonneg h] at this
theorem gcd_nn {x : Int} (h : 0 ≤ x) : ((Int.gcd x 0 : Nat) : Int) = x := by
  rw [Int.gcd_zero_right]
  omega
set_option maxHeartbeats 800000 in
theorem l13Gcd_any (a b : Int) (w : World) (ha : 0 ≤ a ∧ a ≤ 1000000000000) (hb : 0 ≤ b ∧ b ≤ 1000000000000) :
    Calls Try.prog 62 #[.int .i64 a, .int .i64 b] w fun e w' => e = .returned (.int .i64 (Int.gcd a b : Nat)) ∧ w = w' := by
  obtain ⟨ha0, ha1⟩ := ha
  obtain ⟨hb0, hb1⟩ := hb
  go_enter Try.func62, Try.ntmps62
  go_wp2
  go_loop [0, 1] (fun u v => ∃ x y : Int, u = .int .i64 x ∧ v = .int .i64 y ∧ 0 ≤ x ∧ x ≤ 1000000000000 ∧ 0 ≤ y ∧ y ≤ 1000000000000 ∧ Hid (Int.gcd x y = Int.gcd a b)) (fun _ v => (intOf v).toNat)
  case atStart => exact ⟨a, b, rfl, rfl, ha0, ha1, hb0, hb1, (rfl : Int.gcd a b = Int.gcd a b)⟩
  case round =>
    obtain ⟨x, y, rfl, rfl, hx0, hx1, hy0, hy1, hG⟩ := hrel
    by_cases hy : y = 0
    · subst hy
      have HE : Hid (((Int.gcd a b : Nat) : Int) = x) := by unfold Hid; rw [← hG.out, gcd_nn hx0]
      go_wp2
      go_ret
      exact ⟨ret_int HE.out.symm, rfl⟩
    · have hy2 : 0 < y := by omega
      have HG2 : Hid (Int.gcd y (x % y) = Int.gcd a b) := by unfold Hid; rw [gcd_emod x y hx0, hG.out]
      have t0 : 0 ≤ x % y := Int.emod_nonneg _ hy
      have t3 : x % y < y := Int.emod_lt_of_pos _ hy2
      have HT := Lib.hid t3
      clear hG hy
      go_wp2
      go_round
      case rel => exact ⟨y, x % y, rfl, rfl, hy0, hy1, t0, by omega, HG2⟩
      case measure => have := HT.out; simp [intOf]; omega
end Go.Proofs.Ytepjmlcleggnnaa
