/-
  WALKS: gcd, l13Gcd, Gcd (both packages) and the law over it.
-/
import Derived.Test.YtfdighaginmabaaW3
namespace Go.Proofs.Ytfdighaginmabaa
open Go.RowKit

theorem gcd_tmod (x y : Int) : Int.gcd y (x.tmod y) = Int.gcd x y := by
  show Nat.gcd y.natAbs (x.tmod y).natAbs = Nat.gcd x.natAbs y.natAbs
  rw [Int.natAbs_tmod, Nat.gcd_comm y.natAbs, ← Nat.gcd_rec, Nat.gcd_comm]
theorem tmod_small (x y : Int) (hy : y ≠ 0) : (x.tmod y).natAbs < y.natAbs := by
  rw [Int.natAbs_tmod]
  exact Nat.mod_lt _ (by omega)
theorem gcd_end (x : Int) : ((Int.gcd x 0 : Nat) : Int) = max x (-x) := by
  rw [Int.gcd_zero_right]
  omega
theorem drewN_twice (w : World) (a b : Nat) : (w.drewN a).drewN b = w.drewN (a + b) := by simp [World.drewN, Nat.add_assoc]
set_option maxHeartbeats 800000 in
theorem gcd_any (a b : Int) (w : World) (ha : -1000000000000 ≤ a ∧ a ≤ 1000000000000) (hb : -1000000000000 ≤ b ∧ b ≤ 1000000000000) :
    Calls Try.prog 48 #[.int .i64 a, .int .i64 b] w fun e w' => e = .returned (.int .i64 (Int.gcd a b : Nat)) ∧ ∃ n, w' = w.drewN n := by
  obtain ⟨ha0, ha1⟩ := ha
  obtain ⟨hb0, hb1⟩ := hb
  go_enter Try.func48, Try.ntmps48
  go_wp2
  go_loopw [0, 1] (fun u v wr => ∃ (x y : Int) (n : Nat), wr = w.drewN n ∧ u = .int .i64 x ∧ v = .int .i64 y ∧ -1000000000000 ≤ x ∧ x ≤ 1000000000000 ∧ -1000000000000 ≤ y ∧ y ≤ 1000000000000 ∧ Hid (Int.gcd x y = Int.gcd a b)) (fun _ v _ => (intOf v).natAbs)
  case atStart => exact ⟨a, b, 0, rfl, rfl, rfl, ha0, ha1, hb0, hb1, (rfl : Int.gcd a b = Int.gcd a b)⟩
  case round =>
    obtain ⟨x, y, n, rfl, rfl, rfl, hx0, hx1, hy0, hy1, hG⟩ := hrel
    by_cases hy : y = 0
    · subst hy
      have HE : Hid (((Int.gcd a b : Nat) : Int) = max x (-x)) := by unfold Hid; rw [← hG.out, gcd_end]
      go_wp2
      all_goals go_ret
      all_goals exact ⟨ret_int (by have := HE.out; omega), n, rfl⟩
    · have ts := tmod_small x y hy
      obtain ⟨t, ht⟩ : ∃ t, x.tmod y = t := ⟨_, rfl⟩
      have HG2 : Hid (Int.gcd y t = Int.gcd a b) := by unfold Hid; rw [← ht, gcd_tmod, hG.out]
      rw [ht] at ts
      have t1 : (y != 0) = true := by simp [hy]
      have t2 : (y == 0) = false := by simp [hy]
      have t0 : -1000000000000 ≤ t := by omega
      have t3 : t ≤ 1000000000000 := by omega
      have HT := Lib.hid ts
      go_wp2
      go_region
      go_wp2
      go_roundw
      case rel => exact ⟨y, t, _, by first | rfl | exact drewN_twice _ _ _ | exact drewN_one _ _, rfl, by first | rfl | (rw [ht]) | (rw [ht]; go_num), hy0, hy1, t0, t3, HG2⟩
      case measure => first | (have := HT.out; simp [intOf]; omega) | (have := HT.out; simp [intOf, ht]; omega)
theorem gcd_emod (x y : Int) (h : 0 ≤ x) : Int.gcd y (x % y) = Int.gcd x y := by
  have := gcd_tmod x y
  rwa [Int.tmod_eq_emod_of_nonneg h] at this
theorem gcd_nn {x : Int} (h : 0 ≤ x) : ((Int.gcd x 0 : Nat) : Int) = x := by
  rw [Int.gcd_zero_right]
  omega
set_option maxHeartbeats 800000 in
theorem l13Gcd_any (a b : Int) (w : World) (ha : 0 ≤ a ∧ a ≤ 1000000000000) (hb : 0 ≤ b ∧ b ≤ 1000000000000) :
    Calls Try.prog 46 #[.int .i64 a, .int .i64 b] w fun e w' => e = .returned (.int .i64 (Int.gcd a b : Nat)) ∧ w = w' := by
  obtain ⟨ha0, ha1⟩ := ha
  obtain ⟨hb0, hb1⟩ := hb
  go_enter Try.func46, Try.ntmps46
  go_wp2
  go_loop [0, 1] (fun u v => ∃ x y : Int, u = .int .i64 x ∧ v = .int .i64 y ∧ 0 ≤ x ∧ x ≤ 1000000000000 ∧ 0 ≤ y ∧ y ≤ 1000000000000 ∧ Hid (Int.gcd x y = Int.gcd a b)) (fun _ v => (intOf v).toNat)
  case atStart => exact ⟨a, b, rfl, rfl, ha0, ha1, hb0, hb1, (rfl : Int.gcd a b = Int.gcd a b)⟩
  case round =>
    obtain ⟨x, y, rfl, rfl, hx0, hx1, hy0, hy1, hG⟩ := hrel
    by_cases hy : y = 0
    · subst hy
      have HE : Hid (((Int.gcd a b : Nat) : Int) = x) := by unfold Hid; rw [← hG.out, gcd_nn hx0]
      go_wp2
      go_ret
      exact ⟨ret_int HE.out.symm, rfl⟩
    · have hy2 : 0 < y := by omega
      have HG2 : Hid (Int.gcd y (x % y) = Int.gcd a b) := by unfold Hid; rw [gcd_emod x y hx0, hG.out]
      have t0 : 0 ≤ x % y := Int.emod_nonneg _ hy
      have t3 : x % y < y := Int.emod_lt_of_pos _ hy2
      have HT := Lib.hid t3
      clear hG hy
      go_wp2
      go_round
      case rel => exact ⟨y, x % y, rfl, rfl, hy0, hy1, t0, by omega, HG2⟩
      case measure => have := HT.out; simp [intOf]; omega
def gcdR (a b : Int) : Int := if inB a (-1000000000000) 1000000000000 && inB b (-1000000000000) 1000000000000 then (Int.gcd a b : Nat) else 0
theorem gcdR_of {a b : Int} (h1 : inB a (-1000000000000) 1000000000000 = true) (h2 : inB b (-1000000000000) 1000000000000 = true) : gcdR a b = (Int.gcd a b : Nat) := by simp [gcdR, h1, h2]
theorem gcdR_no1 {a b : Int} (h1 : inB a (-1000000000000) 1000000000000 = false) : gcdR a b = 0 := by simp [gcdR, h1]
theorem gcdR_no2 {a b : Int} (h1 : inB b (-1000000000000) 1000000000000 = false) : gcdR a b = 0 := by simp [gcdR, h1]
def absI (x : Int) : Int := (x.natAbs : Int)
theorem gcd_max (a b : Int) : Int.gcd (max a (-a)) (max b (-b)) = Int.gcd a b := by
  show Nat.gcd _ _ = Nat.gcd _ _
  congr 1 <;> omega
theorem max_pos {a : Int} (h : 0 ≤ a) : max a (-a) = a := by omega
theorem max_neg {a : Int} (h : ¬ 0 ≤ a) : max a (-a) = -a := by omega

theorem iGcd_c (w : World) (a : Int) (_ha : I64 a) (b : Int) (_hb : I64 b) :
    Calls Try.prog 16 #[.int .i64 a, .int .i64 b] w fun e w' => e = .returned (.int .i64 (gcdR a b)) ∧ Below w.heap.size w w' := by
  rcases Bool.eq_false_or_eq_true (inB a (-1000000000000) 1000000000000) with h1 | h1
  · rcases Bool.eq_false_or_eq_true (inB b (-1000000000000) 1000000000000) with h2 | h2
    · have HR := Lib.hid (gcdR_of h1 h2)
      obtain ⟨a0, a1⟩ := inB_true h1
      obtain ⟨b0, b1⟩ := inB_true h2
      go_enter Try.func16, Try.ntmps16
      go_wp2_with fail
      refine (within_any _ _ _ _).mono ?_
      rintro e w' ⟨rfl, rfl⟩
      go_wp2_with fail
      refine (within_any _ _ _ _).mono ?_
      rintro e w' ⟨rfl, rfl⟩
      go_wp2_with fail
      refine (gcd_any _ _ _ ⟨a0, a1⟩ ⟨b0, b1⟩).mono ?_
      rintro e w' ⟨rfl, n, rfl⟩
      go_wp2
      go_ret
      exact ⟨ret_int HR.out.symm, below_drewN (Below.refl _ _) n⟩
    · have HR := Lib.hid (gcdR_no2 (a := a) h2)
      go_enter Try.func16, Try.ntmps16
      go_wp2_with fail
      refine (within_any _ _ _ _).mono ?_
      rintro e w' ⟨rfl, rfl⟩
      go_wp2_with fail
      refine (within_any _ _ _ _).mono ?_
      rintro e w' ⟨rfl, rfl⟩
      go_wp2
      go_ret
      exact ⟨ret_int HR.out.symm, Below.refl _ _⟩
  · have HR := Lib.hid (gcdR_no1 (b := b) h1)
    go_enter Try.func16, Try.ntmps16
    go_wp2_with fail
    refine (within_any _ _ _ _).mono ?_
    rintro e w' ⟨rfl, rfl⟩
    go_wp2
    go_ret
    exact ⟨ret_int HR.out.symm, Below.refl _ _⟩

theorem sGcd_c (w : World) (a : Int) (_ha : I64 a) (b : Int) (_hb : I64 b) :
    Calls Try.prog 15 #[.int .i64 a, .int .i64 b] w fun e w' => e = .returned (.int .i64 (gcdR a b)) ∧ Below w.heap.size w w' := by
  rcases Bool.eq_false_or_eq_true (inB a (-1000000000000) 1000000000000) with h1 | h1
  · rcases Bool.eq_false_or_eq_true (inB b (-1000000000000) 1000000000000) with h2 | h2
    · have HR := Lib.hid (gcdR_of h1 h2)
      obtain ⟨a0, a1⟩ := inB_true h1
      obtain ⟨b0, b1⟩ := inB_true h2
      have HM := Lib.hid (gcd_max a b)
      by_cases ca : 0 ≤ a <;> by_cases cb : 0 ≤ b
      all_goals
        first | rw [max_pos ca] at HM | rw [max_neg ca] at HM
        first | rw [max_pos cb] at HM | rw [max_neg cb] at HM
        go_enter Try.func15, Try.ntmps15
        go_wp2_with fail
        refine (l01In_any _ _ _ _).mono ?_
        rintro e w' ⟨rfl, rfl⟩
        go_wp2_with fail
        refine (l01In_any _ _ _ _).mono ?_
        rintro e w' ⟨rfl, rfl⟩
        go_wp2_with fail
        refine (l13Gcd_any _ _ _ (by omega) (by omega)).mono ?_
        rintro e w' ⟨rfl, rfl⟩
        go_wp2
        go_ret
        exact ⟨ret_int (by first | exact HR.out.symm | rw [HR.out, HM.out]), Below.refl _ _⟩
    · have HR := Lib.hid (gcdR_no2 (a := a) h2)
      go_enter Try.func15, Try.ntmps15
      go_wp2_with fail
      refine (l01In_any _ _ _ _).mono ?_
      rintro e w' ⟨rfl, rfl⟩
      go_wp2_with fail
      refine (l01In_any _ _ _ _).mono ?_
      rintro e w' ⟨rfl, rfl⟩
      go_wp2
      go_ret
      exact ⟨ret_int HR.out.symm, Below.refl _ _⟩
  · have HR := Lib.hid (gcdR_no1 (b := b) h1)
    go_enter Try.func15, Try.ntmps15
    go_wp2_with fail
    refine (l01In_any _ _ _ _).mono ?_
    rintro e w' ⟨rfl, rfl⟩
    go_wp2
    go_ret
    exact ⟨ret_int HR.out.symm, Below.refl _ _⟩

set_option maxRecDepth 100000 in
set_option maxHeartbeats 1600000 in
theorem lGcd_law (w : World) (n0 : Int) (b0 : -9223372036854775808 ≤ n0 ∧ n0 ≤ 9223372036854775807) (n1 : Int) (b1 : -9223372036854775808 ≤ n1 ∧ n1 ≤ 9223372036854775807) :
    Calls Try.prog 3 #[.int .i64 n0, .int .i64 n1] w fun e w' => e = .returned (.bool true) ∧ Below w.heap.size w w' := by
  have BA0 : I64 n0 := b0
  clear b0
  have BA1 : I64 n1 := b1
  clear b1
  go_enter Try.func3, Try.ntmps3
  go_wp2_with fail
  refine (sGcd_c _ _ BA0 _ BA1).mono ?_
  rintro e w1 ⟨rfl, B1⟩
  have C2 := (Below.refl w.heap.size w).trans (B1.mono (Below.refl w.heap.size w).size)
  go_wp2_with fail
  refine (iGcd_c _ _ BA0 _ BA1).mono ?_
  rintro e w3 ⟨rfl, B3⟩
  have C4 := C2.trans (B3.mono C2.size)
  go_wp2
  go_ret
  exact ⟨rfl, C4⟩

end Go.Proofs.Ytfdighaginmabaa
