/-
  WALKS: inverse, l13Inverse, InverseOf (both packages) and the law over it.
-/
import Derived.Test.YtfdighaginmabaaR1
namespace Go.Proofs.Ytfdighaginmabaa
open Go.RowKit

/-- The number u from 0 up to m with a * u = 1 modulo m, or -1. -/
def invR (a m : Int) : Int := match (List.range m.toNat).find? (fun (u : Nat) => a * (u : Int) % m == 1) with
  | some u => (u : Int)
  | none => -1
theorem inv_unique {a m u v : Int} (hu0 : 0 ≤ u) (hu1 : u < m) (hu : a * u % m = 1) (hv0 : 0 ≤ v) (hv1 : v < m) (hv : a * v % m = 1) : u = v := by
  have h1 : u * (a * v) % m = u % m := by
    rw [Int.mul_emod, hv, Int.mul_one, Int.emod_emod]
  have h2 : v * (a * u) % m = v % m := by
    rw [Int.mul_emod, hu, Int.mul_one, Int.emod_emod]
  have h3 : u * (a * v) = v * (a * u) := by
    rw [Int.mul_comm u, Int.mul_assoc, Int.mul_comm v u, ← Int.mul_assoc, Int.mul_comm (a * u) v]
  rw [h3, h2, Int.emod_eq_of_lt hv0 hv1, Int.emod_eq_of_lt hu0 hu1] at h1
  exact h1.symm
theorem invR_of {a m u : Int} (h0 : 0 ≤ u) (h1 : u < m) (h : a * u % m = 1) : invR a m = u := by
  unfold invR
  split
  · rename_i v hv
    have hm := List.mem_of_find?_eq_some hv
    have hp := List.find?_some hv
    rw [List.mem_range] at hm
    exact inv_unique (by omega) (by omega) (by simpa using hp) h0 h1 h
  · rename_i hn
    have := List.find?_eq_none.1 hn u.toNat (List.mem_range.2 (by omega))
    rw [Int.toNat_of_nonneg h0] at this
    exact absurd h (by simpa using this)
theorem invR_no {a m : Int} (h : Int.gcd a m ≠ 1) : invR a m = -1 := by
  unfold invR
  split
  · rename_i v hv
    have hu : a * (v : Int) % m = 1 := by simpa using List.find?_some hv
    exfalso
    apply h
    have hd1 : ((Int.gcd a m : Nat) : Int) ∣ a := Int.gcd_dvd_left ..
    have hd2 : ((Int.gcd a m : Nat) : Int) ∣ m := Int.gcd_dvd_right ..
    have hd3 : ((Int.gcd a m : Nat) : Int) ∣ 1 := by
      have e := Int.emod_add_mul_ediv (a * v) m
      rw [hu] at e
      have : (1 : Int) = a * v - m * (a * v / m) := by omega
      rw [this]
      exact Int.dvd_sub (Int.dvd_mul_of_dvd_left hd1) (Int.dvd_mul_of_dvd_left hd2)
    have := Int.natAbs_dvd_natAbs.2 hd3
    simpa using this
  · rfl
attribute [irreducible] invR
/-- Where the loop of the inverse stands. -/
def Eg (a m r s x y : Int) : Prop := ∃ X Y : Int, 0 ≤ X ∧ 0 ≤ Y ∧ X ≤ m ∧ Y ≤ m ∧ ((x = X ∧ y = -Y) ∨ (x = -X ∧ y = Y)) ∧ X * s + Y * r = m ∧ 0 ≤ s ∧ s < r ∧ r ≤ m ∧ m ∣ x * a - r ∧ m ∣ y * a - s ∧ Int.gcd r s = Int.gcd a m
theorem Eg.start {a m : Int} (ha : 0 ≤ a) (hm : 2 ≤ m) : Eg a m m (a % m) 0 1 := by
  refine ⟨0, 1, by omega, by omega, by omega, by omega, .inr ⟨by omega, rfl⟩, by omega, Int.emod_nonneg _ (by omega), Int.emod_lt_of_pos _ (by omega), Int.le_refl _, ⟨-1, by omega⟩, ?_, gcd_emod a m ha⟩
  exact ⟨a / m, by have := Int.emod_add_mul_ediv a m; omega⟩
theorem Eg.step {a m r s x y : Int} (h : Eg a m r s x y) (hs : 0 < s) : Eg a m s (r - r / s * s) y (x - r / s * y) ∧ 0 ≤ r / s ∧ r / s ≤ m ∧ 0 ≤ r / s * s ∧ r / s * s ≤ m ∧ -m ≤ r / s * y ∧ r / s * y ≤ m := by
  obtain ⟨X, Y, x0, y0, x1, y1, hxy, hm, s0, sr, rm, d1, d2, hg⟩ := h
  have hq := Int.emod_add_mul_ediv r s
  have hr0 := Int.emod_nonneg r (show s ≠ 0 by omega)
  have hr1 := Int.emod_lt_of_pos r hs
  have q0 : 0 ≤ r / s := Int.ediv_nonneg (by omega) (by omega)
  have ec : r / s * s = s * (r / s) := Int.mul_comm _ _
  have q1 : 0 ≤ r / s * s := Int.mul_nonneg q0 (by omega)
  have q2 : r / s ≤ r := Int.ediv_le_self _ (by omega)
  have b1 : 0 ≤ X * s := Int.mul_nonneg x0 (by omega)
  have b2 : 0 ≤ Y * r := Int.mul_nonneg y0 (by omega)
  have b3 : r / s * Y ≤ r * Y := Int.mul_le_mul_of_nonneg_right q2 y0
  have b4 : 0 ≤ r / s * Y := Int.mul_nonneg q0 y0
  have b5 : r * Y = Y * r := Int.mul_comm _ _
  have er : r - r / s * s = r % s := by omega
  have eg : Int.gcd s (r - r / s * s) = Int.gcd a m := by rw [er, gcd_emod r s (by omega), hg]
  obtain ⟨q, hqq⟩ : ∃ q, r / s = q := ⟨_, rfl⟩
  rw [hqq] at q0 q1 q2 b3 b4 er eg ec ⊢
  have key : Y * (r - q * s) + (X + q * Y) * s = m := by rw [← hm]; grind
  have b6 : 0 ≤ Y * (r - q * s) := Int.mul_nonneg y0 (by omega)
  have b7 : X + q * Y ≤ (X + q * Y) * s := by
    have := Int.mul_le_mul_of_nonneg_left (show (1 : Int) ≤ s by omega) (show 0 ≤ X + q * Y by omega)
    omega
  have dd : m ∣ (x - q * y) * a - (r - q * s) := by
    obtain ⟨k1, e1⟩ := d1
    obtain ⟨k2, e2⟩ := d2
    exact ⟨k1 - q * k2, by grind⟩
  have by1 : -m ≤ q * y ∧ q * y ≤ m := by
    rcases hxy with ⟨_, e⟩ | ⟨_, e⟩
    · have : q * y = -(q * Y) := by rw [e, Int.mul_neg]
      omega
    · rw [e]; omega
  refine ⟨⟨Y, X + q * Y, y0, by omega, y1, by omega, ?_, key, by omega, by omega, by omega, d2, dd, eg⟩, q0, by omega, q1, by omega, by1.1, by1.2⟩
  rcases hxy with ⟨e1, e2⟩ | ⟨e1, e2⟩
  · refine .inr ⟨e2, ?_⟩
    rw [e1, e2, Int.mul_neg]
    omega
  · refine .inl ⟨e2, ?_⟩
    rw [e1, e2]
    omega
theorem Eg.bounds {a m r s x y : Int} (h : Eg a m r s x y) : -m ≤ x ∧ x ≤ m ∧ -m ≤ y ∧ y ≤ m ∧ 0 ≤ s ∧ s < r ∧ r ≤ m := by
  obtain ⟨X, Y, x0, y0, x1, y1, hxy, hm, s0, sr, rm, d1, d2, hg⟩ := h
  rcases hxy with ⟨e1, e2⟩ | ⟨e1, e2⟩ <;> refine ⟨by omega, by omega, by omega, by omega, s0, sr, rm⟩
theorem Eg.none {a m r x y : Int} (h : Eg a m r 0 x y) (hr : ¬ r = 1) : invR a m = -1 := by
  obtain ⟨X, Y, x0, y0, x1, y1, hxy, hm, s0, sr, rm, d1, d2, hg⟩ := h
  apply invR_no
  intro hk
  rw [hk, Int.gcd_zero_right] at hg
  omega
theorem Eg.done {a m x y : Int} (h : Eg a m 1 0 x y) (hm : 2 ≤ m) : invR a m = (x.tmod m + m) % m := by
  obtain ⟨X, Y, x0, y0, x1, y1, hxy, _, s0, sr, rm, d1, d2, hg⟩ := h
  have e : (x.tmod m + m) % m = x % m := by
    rw [Int.add_emod_right]
    have := Int.tmod_add_mul_tdiv x m
    have e2 : x.tmod m = x + m * (-(x.tdiv m)) := by rw [Int.mul_neg]; omega
    rw [e2, Int.add_mul_emod_self_left]
  rw [e]
  apply invR_of (Int.emod_nonneg _ (by omega)) (Int.emod_lt_of_pos _ (by omega))
  obtain ⟨k, hk⟩ := d1
  have : a * (x % m) % m = a * x % m := by rw [Int.mul_emod, Int.emod_emod, ← Int.mul_emod]
  rw [this, show a * x = 1 + m * k by rw [Int.mul_comm a x]; omega, Int.add_mul_emod_self_left]
  exact Int.emod_eq_of_lt (by omega) (by omega)
theorem tmod_bounds (x m : Int) (hm : 2 ≤ m) : -m < x.tmod m ∧ x.tmod m < m := by
  have := tmod_small x m (by omega)
  omega

set_option maxHeartbeats 1600000 in
theorem inverse_any (a m : Int) (w : World) (ha : 0 ≤ a) (ha2 : a ≤ 1000000000000) (hm : 2 ≤ m) (hm2 : m ≤ 1000000) :
    Calls Try.prog 50 #[.int .i64 a, .int .i64 m] w fun e w' => e = .returned (.int .i64 (invR a m)) ∧ ∃ n, w' = w.drewN n := by
  have HS := Lib.hid (Eg.start ha hm)
  have c0 := Int.emod_nonneg a (show m ≠ 0 by omega)
  have c1 := Int.emod_lt_of_pos a (show 0 < m by omega)
  go_enter Try.func50, Try.ntmps50
  go_wp2
  go_region
  go_wp2
  go_loopw [5, 6, 7, 8] (fun r s x y wr => ∃ (R S X Y : Int) (n : Nat), wr = w.drewN n ∧ r = .int .i64 R ∧ s = .int .i64 S ∧ x = .int .i64 X ∧ y = .int .i64 Y ∧ Hid (Eg a m R S X Y)) (fun _ s _ _ _ => (intOf s).toNat)
  case atStart => exact ⟨m, a % m, 0, 1, _, rfl, rfl, rfl, rfl, rfl, HS.out⟩
  case round =>
    obtain ⟨R, S, X, Y, n, rfl, rfl, rfl, rfl, rfl, hE⟩ := hrel
    obtain ⟨b1, b2, b3, b4, b5, b6, b7⟩ := hE.out.bounds
    clear c0 c1
    by_cases hs : S = 0
    · subst hs
      by_cases h1 : R = 1
      · subst h1
        have HD := Lib.hid (hE.out.done hm)
        obtain ⟨t0, t1⟩ := tmod_bounds X m hm
        go_wp2
        go_ret
        exact ⟨ret_int HD.out.symm, n, rfl⟩
      · have HD := Lib.hid (hE.out.none h1)
        go_wp2
        go_ret
        exact ⟨ret_int HD.out.symm, n, rfl⟩
    · have hs2 : 0 < S := by omega
      obtain ⟨hE2, d1, d2, d3, d4, d5, d6⟩ := hE.out.step hs2
      obtain ⟨g1, g2, g3, g4, g5, g6, g7⟩ := hE2.bounds
      have HE2 := Lib.hid hE2
      have HG := Lib.hid g6
      clear hE2 hs
      go_wp2
      go_roundw
      case rel => exact ⟨S, _, _, _, _, (by first | rfl | exact drewN_twice _ _ _), rfl, rfl, rfl, rfl, HE2.out⟩
      case measure => have := HG.out; simp [intOf]; omega

set_option maxHeartbeats 1600000 in
theorem l13Inverse_any (a m : Int) (w : World) (ha : 0 ≤ a) (ha2 : a ≤ 1000000000000) (hm : 2 ≤ m) (hm2 : m ≤ 1000000) :
    Calls Try.prog 49 #[.int .i64 a, .int .i64 m] w fun e w' => e = .returned (.int .i64 (invR a m)) ∧ ∃ n, w' = w.drewN n := by
  have HS := Lib.hid (Eg.start ha hm)
  have c0 := Int.emod_nonneg a (show m ≠ 0 by omega)
  have c1 := Int.emod_lt_of_pos a (show 0 < m by omega)
  go_enter Try.func49, Try.ntmps49
  go_wp2
  go_loopw [5, 6, 7, 8] (fun r s x y wr => ∃ (R S X Y : Int) (n : Nat), wr = w.drewN n ∧ r = .int .i64 R ∧ s = .int .i64 S ∧ x = .int .i64 X ∧ y = .int .i64 Y ∧ Hid (Eg a m R S X Y)) (fun _ s _ _ _ => (intOf s).toNat)
  case atStart => exact ⟨m, a % m, 0, 1, 0, rfl, rfl, rfl, rfl, rfl, HS.out⟩
  case round =>
    obtain ⟨R, S, X, Y, n, rfl, rfl, rfl, rfl, rfl, hE⟩ := hrel
    obtain ⟨b1, b2, b3, b4, b5, b6, b7⟩ := hE.out.bounds
    clear c0 c1
    by_cases hs : S = 0
    · subst hs
      by_cases h1 : R = 1
      · subst h1
        have HD := Lib.hid (hE.out.done hm)
        obtain ⟨t0, t1⟩ := tmod_bounds X m hm
        go_wp2
        go_ret
        exact ⟨ret_int HD.out.symm, n, rfl⟩
      · have HD := Lib.hid (hE.out.none h1)
        go_wp2
        go_ret
        exact ⟨ret_int HD.out.symm, n, rfl⟩
    · have hs2 : 0 < S := by omega
      obtain ⟨hE2, d1, d2, d3, d4, d5, d6⟩ := hE.out.step hs2
      obtain ⟨g1, g2, g3, g4, g5, g6, g7⟩ := hE2.bounds
      have HE2 := Lib.hid hE2
      have HG := Lib.hid g6
      clear hE2 hs
      go_wp2
      go_roundw
      case rel => exact ⟨S, _, _, _, _, (by first | rfl | exact drewN_twice _ _ _), rfl, rfl, rfl, rfl, HE2.out⟩
      case measure => have := HG.out; simp [intOf]; omega

def inverseOfR (a m : Int) : Int := if inB m 2 1000000 && inB a 0 (m - 1) then invR a m else -1
theorem inverseOfR_of {a m : Int} (h1 : inB m 2 1000000 = true) (h2 : inB a 0 (m - 1) = true) : inverseOfR a m = invR a m := by simp [inverseOfR, h1, h2]
theorem inverseOfR_no1 {a m : Int} (h1 : inB m 2 1000000 = false) : inverseOfR a m = -1 := by simp [inverseOfR, h1]
theorem inverseOfR_no2 {a m : Int} (h1 : inB a 0 (m - 1) = false) : inverseOfR a m = -1 := by simp [inverseOfR, h1]

theorem iInverseOf_c (w : World) (a : Int) (_ha : I64 a) (m : Int) (_hm : I64 m) :
    Calls Try.prog 18 #[.int .i64 a, .int .i64 m] w fun e w' => e = .returned (.int .i64 (inverseOfR a m)) ∧ Below w.heap.size w w' := by
  rcases Bool.eq_false_or_eq_true (inB m 2 1000000) with h1 | h1
  · obtain ⟨m0, m1⟩ := inB_true h1
    rcases Bool.eq_false_or_eq_true (inB a 0 (m - 1)) with h2 | h2
    · have HR := Lib.hid (inverseOfR_of h1 h2)
      obtain ⟨a0, a1⟩ := inB_true h2
      go_enter Try.func18, Try.ntmps18
      go_wp2_with fail
      refine (within_any _ _ _ _).mono ?_
      rintro e w' ⟨rfl, rfl⟩
      go_wp2_with fail
      refine (within_any _ _ _ _).mono ?_
      rintro e w' ⟨rfl, rfl⟩
      go_wp2_with fail
      refine (inverse_any _ _ _ a0 (by omega) m0 m1).mono ?_
      rintro e w' ⟨rfl, n, rfl⟩
      go_wp2
      go_ret
      exact ⟨ret_int HR.out.symm, below_drewN (Below.refl _ _) n⟩
    · have HR := Lib.hid (inverseOfR_no2 h2)
      go_enter Try.func18, Try.ntmps18
      go_wp2_with fail
      refine (within_any _ _ _ _).mono ?_
      rintro e w' ⟨rfl, rfl⟩
      go_wp2_with fail
      refine (within_any _ _ _ _).mono ?_
      rintro e w' ⟨rfl, rfl⟩
      go_wp2
      go_ret
      exact ⟨ret_int HR.out.symm, Below.refl _ _⟩
  · have HR := Lib.hid (inverseOfR_no1 (a := a) h1)
    go_enter Try.func18, Try.ntmps18
    go_wp2_with fail
    refine (within_any _ _ _ _).mono ?_
    rintro e w' ⟨rfl, rfl⟩
    go_wp2
    go_ret
    exact ⟨ret_int HR.out.symm, Below.refl _ _⟩

theorem sInverseOf_c (w : World) (a : Int) (_ha : I64 a) (m : Int) (_hm : I64 m) :
    Calls Try.prog 17 #[.int .i64 a, .int .i64 m] w fun e w' => e = .returned (.int .i64 (inverseOfR a m)) ∧ Below w.heap.size w w' := by
  rcases Bool.eq_false_or_eq_true (inB m 2 1000000) with h1 | h1
  · obtain ⟨m0, m1⟩ := inB_true h1
    rcases Bool.eq_false_or_eq_true (inB a 0 (m - 1)) with h2 | h2
    · have HR := Lib.hid (inverseOfR_of h1 h2)
      obtain ⟨a0, a1⟩ := inB_true h2
      go_enter Try.func17, Try.ntmps17
      go_wp2_with fail
      refine (l01In_any _ _ _ _).mono ?_
      rintro e w' ⟨rfl, rfl⟩
      go_wp2_with fail
      refine (l01In_any _ _ _ _).mono ?_
      rintro e w' ⟨rfl, rfl⟩
      go_wp2_with fail
      refine (l13Inverse_any _ _ _ a0 (by omega) m0 m1).mono ?_
      rintro e w' ⟨rfl, n, rfl⟩
      go_wp2
      go_ret
      exact ⟨ret_int HR.out.symm, below_drewN (Below.refl _ _) n⟩
    · have HR := Lib.hid (inverseOfR_no2 h2)
      go_enter Try.func17, Try.ntmps17
      go_wp2_with fail
      refine (l01In_any _ _ _ _).mono ?_
      rintro e w' ⟨rfl, rfl⟩
      go_wp2_with fail
      refine (l01In_any _ _ _ _).mono ?_
      rintro e w' ⟨rfl, rfl⟩
      go_wp2
      go_ret
      exact ⟨ret_int HR.out.symm, Below.refl _ _⟩
  · have HR := Lib.hid (inverseOfR_no1 (a := a) h1)
    go_enter Try.func17, Try.ntmps17
    go_wp2_with fail
    refine (l01In_any _ _ _ _).mono ?_
    rintro e w' ⟨rfl, rfl⟩
    go_wp2
    go_ret
    exact ⟨ret_int HR.out.symm, Below.refl _ _⟩

set_option maxRecDepth 100000 in
set_option maxHeartbeats 1600000 in
theorem lInverseOf_law (w : World) (n0 : Int) (b0 : -9223372036854775808 ≤ n0 ∧ n0 ≤ 9223372036854775807) (n1 : Int) (b1 : -9223372036854775808 ≤ n1 ∧ n1 ≤ 9223372036854775807) :
    Calls Try.prog 4 #[.int .i64 n0, .int .i64 n1] w fun e w' => e = .returned (.bool true) ∧ Below w.heap.size w w' := by
  have BA0 : I64 n0 := b0
  clear b0
  have BA1 : I64 n1 := b1
  clear b1
  go_enter Try.func4, Try.ntmps4
  go_wp2_with fail
  refine (sInverseOf_c _ _ BA0 _ BA1).mono ?_
  rintro e w1 ⟨rfl, B1⟩
  have C2 := (Below.refl w.heap.size w).trans (B1.mono (Below.refl w.heap.size w).size)
  go_wp2_with fail
  refine (iInverseOf_c _ _ BA0 _ BA1).mono ?_
  rintro e w3 ⟨rfl, B3⟩
  have C4 := C2.trans (B3.mono C2.size)
  go_wp2
  go_ret
  exact ⟨rfl, C4⟩

end Go.Proofs.Ytfdighaginmabaa
