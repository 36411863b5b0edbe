/-
  WALKS: BaseOk and OrderOf (both packages) and the law over it; why the order exists.
-/
import Derived.Test.YtepjmlcleggnnaaGcd
namespace Go.Proofs.Ytepjmlcleggnnaa
open Go.RowKit

/-- More numbers than places: two of them share a place. -/
theorem pigeon : ∀ (n : Nat) (f : Nat → Nat), (∀ i, i ≤ n → f i < n) → ∃ i j, i < j ∧ j ≤ n ∧ f i = f j := by
  intro n
  induction n with
  | zero => intro f h; exact absurd (h 0 (Nat.le_refl _)) (by omega)
  | succ n ih =>
    intro f h
    by_cases hx : ∃ i, i < n + 1 ∧ f i = f (n + 1)
    · obtain ⟨i, h1, h2⟩ := hx
      exact ⟨i, n + 1, h1, Nat.le_refl _, h2⟩
    · have hne : ∀ i, i ≤ n → f i ≠ f (n + 1) := fun i hi e => hx ⟨i, by omega, e⟩
      obtain ⟨i, j, hij, hj, e⟩ := ih (fun i => if f (n + 1) < f i then f i - 1 else f i) (fun i hi => by
        have h1 := h i (by omega)
        have h2 := h (n + 1) (Nat.le_refl _)
        have h3 := hne i hi
        split <;> omega)
      have a := hne i (by omega)
      have b := hne j hj
      refine ⟨i, j, hij, by omega, ?_⟩
      split at e <;> split at e <;> omega
theorem order_exists {b q : Nat} (hq : 2 ≤ q) (hg : Nat.gcd b q = 1) : ∃ k, 1 ≤ k ∧ k ≤ q ∧ b ^ k % q = 1 := by
  obtain ⟨i, j, hij, hj, e⟩ := pigeon q (fun i => b ^ i % q) (fun i _ => Nat.mod_lt _ (by omega))
  refine ⟨j - i, by omega, by omega, ?_⟩
  have hd : q ∣ b ^ j - b ^ i := Nat.dvd_of_mod_eq_zero (Nat.sub_mod_eq_zero_of_mod_eq e.symm)
  have hp : b ^ j - b ^ i = b ^ i * (b ^ (j - i) - 1) := by
    rw [Nat.mul_sub, Nat.mul_one, ← Nat.pow_add, show i + (j - i) = j by omega]
  rw [hp] at hd
  have hc : Nat.Coprime q (b ^ i) := (Nat.Coprime.pow_left i hg).symm
  have hd2 := Nat.Coprime.dvd_of_dvd_mul_left hc hd
  have hpos : 1 ≤ b ^ (j - i) := Nat.one_le_pow _ _ (by
    rcases Nat.eq_zero_or_pos b with h | h
    · subst h; simp at hg; omega
    · exact h)
  obtain ⟨c, hc2⟩ := hd2
  have : b ^ (j - i) = 1 + q * c := by omega
  rw [this, Nat.add_mul_mod_self_left]
  exact Nat.mod_eq_of_lt (by omega)

/-- The least k from 1 on for which b to the power of k leaves 1. -/
def ordN (b q : Nat) : Nat := match (List.range q).find? (fun k => b ^ (k + 1) % q == 1) with
  | some k => k + 1
  | none => 0
theorem ordN_of {b q k : Nat} (h1 : 1 ≤ k) (hk : k ≤ q) (h : b ^ k % q = 1) (hm : ∀ j, 1 ≤ j → j < k → b ^ j % q ≠ 1) : ordN b q = k := by
  obtain ⟨j, rfl⟩ : ∃ j, k = j + 1 := ⟨k - 1, by omega⟩
  have : (List.range q).find? (fun k => b ^ (k + 1) % q == 1) = some j := by
    rw [List.find?_range_eq_some]
    refine ⟨by simpa using h, List.mem_range.2 (by omega), fun i hi => ?_⟩
    have := hm (i + 1) (by omega) (by omega)
    simp [this]
  unfold ordN
  rw [this]
attribute [irreducible] ordN
def orderR (b q : Int) : Int := if inB b 2 16 && inB q 2 1000 && decide (Int.gcd b q = 1) then (ordN b.toNat q.toNat : Nat) else -1
theorem orderR_of {b q : Nat} (h1 : inB (b : Int) 2 16 = true) (h2 : inB (q : Int) 2 1000 = true) (h3 : Int.gcd (b : Int) q = 1) : orderR b q = (ordN b q : Nat) := by simp [orderR, h1, h2, h3]
theorem orderR_no1 {b q : Int} (h1 : inB b 2 16 = false) : orderR b q = -1 := by simp [orderR, h1]
theorem orderR_no2 {b q : Int} (h1 : inB q 2 1000 = false) : orderR b q = -1 := by simp [orderR, h1]
theorem orderR_no3 {b q : Int} (h1 : ¬ Int.gcd b q = 1) : orderR b q = -1 := by simp [orderR, h1]
theorem pow_step {b q k : Nat} : ((b ^ k % q : Nat) : Int) * b % q = ((b ^ (k + 1) % q : Nat) : Int) := by
  rw [← Int.natCast_mul, ← Int.natCast_emod, Nat.pow_succ, Nat.mod_mul_mod]

theorem iBaseOk_any (b : Int) (w : World) : Calls Try.prog 45 #[.int .i64 b] w fun e w' => e = .returned (.bool (inB b 2 16)) ∧ w = w' := by
  go_enter Try.func45, Try.ntmps45
  go_wp2_with fail
  refine (within_any _ _ _ _).mono ?_
  rintro e w' ⟨rfl, rfl⟩
  go_wp2
  go_ret
  exact ⟨rfl, rfl⟩
theorem sBaseOk_any (b : Int) (w : World) : Calls Try.prog 42 #[.int .i64 b] w fun e w' => e = .returned (.bool (inB b 2 16)) ∧ w = w' := by
  go_enter Try.func42, Try.ntmps42
  go_wp2_with fail
  refine (l01In_any _ _ _ _).mono ?_
  rintro e w' ⟨rfl, rfl⟩
  go_wp2
  go_ret
  exact ⟨rfl, rfl⟩


set_option maxHeartbeats 1600000 in
theorem iOrderOf_any (B Q : Int) (w : World) :
    Calls Try.prog 13 #[.int .i64 B, .int .i64 Q] w fun e w' => e = .returned (.int .i64 (orderR B Q)) ∧ ∃ n, w' = w.drewN n := by
  rcases Bool.eq_false_or_eq_true (inB B 2 16) with h1 | h1
  · obtain ⟨b0, b1⟩ := inB_true h1
    obtain ⟨b, rfl⟩ : ∃ n : Nat, B = n := ⟨B.toNat, by omega⟩
    rcases Bool.eq_false_or_eq_true (inB Q 2 1000) with h2 | h2
    · obtain ⟨q0, q1⟩ := inB_true h2
      obtain ⟨q, rfl⟩ : ∃ n : Nat, Q = n := ⟨Q.toNat, by omega⟩
      by_cases hg : Int.gcd (b : Int) q = 1
      · have HR := Lib.hid (orderR_of h1 h2 hg)
        obtain ⟨K, K1, K2, hK⟩ := order_exists (b := b) (q := q) (by omega) (by simpa [Int.gcd] using hg)
        have HK := Lib.hid hK
        have z0 : (b : Int) % q = ((b ^ 1 % q : Nat) : Int) := by rw [Nat.pow_one, Int.natCast_emod]
        have Z0 := Lib.hid z0
        have z1 := Int.emod_nonneg (b : Int) (show (q : Int) ≠ 0 by omega)
        have HG := Lib.hid hg
        clear hK hg z0
        go_enter Try.func13, Try.ntmps13
        go_wp2_with fail
        refine (iBaseOk_any _ _).mono ?_
        rintro e w' ⟨rfl, rfl⟩
        go_wp2_with fail
        refine (within_any _ _ _ _).mono ?_
        rintro e w' ⟨rfl, rfl⟩
        go_wp2_with fail
        refine (gcd_any _ _ _ (by omega) (by omega)).mono ?_
        rintro e w1 ⟨rfl, n, rfl⟩
        rw [HG.out]
        go_wp2
        go_loop [5, 6] (fun kk r => ∃ k : Nat, 1 ≤ k ∧ k ≤ K ∧ kk = .int .i64 k ∧ r = .int .i64 (b ^ k % q : Nat) ∧ Hid (∀ j, 1 ≤ j → j < k → b ^ j % q ≠ 1)) (fun kk r => K - (intOf kk).toNat)
        case atStart => exact ⟨1, Nat.le_refl _, K1, rfl, by rw [Z0.out], fun j h1 h2 => by omega⟩
        case round =>
          obtain ⟨k, k1, k2, rfl, rfl, hmin⟩ := hrel
          have r0 : (b ^ k % q : Nat) < q := Nat.mod_lt _ (by omega)
          have HS := Lib.hid (pow_step (b := b) (q := q) (k := k))
          by_cases hx : b ^ k % q = 1
          · have HO := Lib.hid (ordN_of k1 (by omega) hx hmin.out)
            rw [hx]
            go_wp2
            go_ret
            exact ⟨ret_int (by rw [HR.out, HO.out]), n, rfl⟩
          · have hkK : k < K := by
              rcases Nat.lt_or_ge k K with h | h
              · exact h
              · have : k = K := by omega
                subst this
                exact absurd HK.out hx
            have HX := Lib.hid hx
            obtain ⟨r, hr⟩ : ∃ r, b ^ k % q = r := ⟨_, rfl⟩
            rw [hr] at r0 HS hx
            rw [hr]
            have hx2 : ((r : Int) != 1) = true := by simp; omega
            have p0 : 0 ≤ (r : Int) * b := Int.mul_nonneg (by omega) (by omega)
            have p1 : (r : Int) * b ≤ 1000 * 16 := Int.mul_le_mul (by omega) (by omega) (by omega) (by omega)
            clear hx hr
            go_wp2
            go_round
            case rel => exact ⟨k + 1, by omega, by omega, by go_num, by rw [HS.out], fun j h1 h2 => by
              by_cases e : j = k
              · rw [e]; exact HX.out
              · exact hmin.out j h1 (by omega)⟩
            case measure => simp [intOf]; omega
      · have HR := Lib.hid (orderR_no3 hg)
        have g1 : 1 ≤ Int.gcd (b : Int) q := Int.gcd_pos_of_ne_zero_left _ (by omega)
        have g2 : (Int.gcd (b : Int) q : Int) ≤ b := Int.le_of_dvd (by omega) (Int.gcd_dvd_left ..)
        obtain ⟨G, hG⟩ : ∃ G, Int.gcd (b : Int) q = G := ⟨_, rfl⟩
        rw [hG] at g1 g2 hg
        go_enter Try.func13, Try.ntmps13
        go_wp2_with fail
        refine (iBaseOk_any _ _).mono ?_
        rintro e w' ⟨rfl, rfl⟩
        go_wp2_with fail
        refine (within_any _ _ _ _).mono ?_
        rintro e w' ⟨rfl, rfl⟩
        go_wp2_with fail
        refine (gcd_any _ _ _ (by omega) (by omega)).mono ?_
        rintro e w1 ⟨rfl, n, rfl⟩
        rw [hG]
        go_wp2
        go_ret
        exact ⟨ret_int HR.out.symm, n, rfl⟩
    · have HR := Lib.hid (orderR_no2 (b := (b : Int)) h2)
      go_enter Try.func13, Try.ntmps13
      go_wp2_with fail
      refine (iBaseOk_any _ _).mono ?_
      rintro e w' ⟨rfl, rfl⟩
      go_wp2_with fail
      refine (within_any _ _ _ _).mono ?_
      rintro e w' ⟨rfl, rfl⟩
      go_wp2
      go_ret
      exact ⟨ret_int HR.out.symm, 0, rfl⟩
  · have HR := Lib.hid (orderR_no1 (q := Q) h1)
    go_enter Try.func13, Try.ntmps13
    go_wp2_with fail
    refine (iBaseOk_any _ _).mono ?_
    rintro e w' ⟨rfl, rfl⟩
    go_wp2
    go_ret
    exact ⟨ret_int HR.out.symm, 0, rfl⟩


theorem iOrderOf_c (w : World) (B : Int) (_hb : I64 B) (Q : Int) (_hq : I64 Q) :
    Calls Try.prog 13 #[.int .i64 B, .int .i64 Q] w fun e w' => e = .returned (.int .i64 (orderR B Q)) ∧ Below w.heap.size w w' :=
  (iOrderOf_any B Q w).mono fun e w' ⟨h, n, k⟩ => ⟨h, by subst k; exact below_drewN (Below.refl _ _) n⟩

set_option maxHeartbeats 1600000 in
theorem sOrderOf_any (B Q : Int) (w : World) :
    Calls Try.prog 12 #[.int .i64 B, .int .i64 Q] w fun e w' => e = .returned (.int .i64 (orderR B Q)) ∧ w = w' := by
  have key : ∀ (b q : Nat), inB (b : Int) 2 16 = true → inB (q : Int) 2 1000 = true → Calls Try.prog 44 #[.int .i64 (b : Int), .int .i64 (q : Int)] w fun e w' => e = .returned (.int .i64 (orderR b q)) ∧ w = w' := by
    intro b q h1 h2
    obtain ⟨b0, b1⟩ := inB_true h1
    obtain ⟨q0, q1⟩ := inB_true h2
    by_cases hg : Int.gcd (b : Int) q = 1
    · have HR := Lib.hid (orderR_of h1 h2 hg)
      obtain ⟨K, K1, K2, hK⟩ := order_exists (b := b) (q := q) (by omega) (by simpa [Int.gcd] using hg)
      have HK := Lib.hid hK
      have z0 : (b : Int) % q = ((b ^ 1 % q : Nat) : Int) := by rw [Nat.pow_one, Int.natCast_emod]
      have Z0 := Lib.hid z0
      have z1 := Int.emod_nonneg (b : Int) (show (q : Int) ≠ 0 by omega)
      have HG := Lib.hid hg
      clear hK hg z0
      go_enter Try.func44, Try.ntmps44
      go_wp2_with fail
      refine (l13Gcd_any _ _ _ (by omega) (by omega)).mono ?_
      rintro e w1 ⟨rfl, rfl⟩
      rw [HG.out]
      go_wp2
      go_loop [5, 6] (fun r kk => ∃ k : Nat, 1 ≤ k ∧ k ≤ K ∧ r = .int .i64 (b ^ k % q : Nat) ∧ kk = .int .i64 k ∧ Hid (∀ j, 1 ≤ j → j < k → b ^ j % q ≠ 1)) (fun r kk => K - (intOf kk).toNat)
      case atStart => exact ⟨1, Nat.le_refl _, K1, by rw [Z0.out], rfl, fun j h1 h2 => by omega⟩
      case round =>
        obtain ⟨k, k1, k2, rfl, rfl, hmin⟩ := hrel
        have r0 : (b ^ k % q : Nat) < q := Nat.mod_lt _ (by omega)
        have HS := Lib.hid (pow_step (b := b) (q := q) (k := k))
        by_cases hx : b ^ k % q = 1
        · have HO := Lib.hid (ordN_of k1 (by omega) hx hmin.out)
          rw [hx]
          go_wp2
          go_ret
          exact ⟨ret_int (by rw [HR.out, HO.out]), rfl⟩
        · have hkK : k < K := by
            rcases Nat.lt_or_ge k K with h | h
            · exact h
            · have : k = K := by omega
              subst this
              exact absurd HK.out hx
          have HX := Lib.hid hx
          obtain ⟨r, hr⟩ : ∃ r, b ^ k % q = r := ⟨_, rfl⟩
          rw [hr] at r0 HS hx
          rw [hr]
          have hx2 : ((r : Int) != 1) = true := by simp; omega
          have p0 : 0 ≤ (r : Int) * b := Int.mul_nonneg (by omega) (by omega)
          have p1 : (r : Int) * b ≤ 1000 * 16 := Int.mul_le_mul (by omega) (by omega) (by omega) (by omega)
          clear hx hr
          go_wp2
          go_round
          case rel => exact ⟨k + 1, by omega, by omega, by rw [HS.out], by go_num, fun j h1 h2 => by
            by_cases e : j = k
            · rw [e]; exact HX.out
            · exact hmin.out j h1 (by omega)⟩
          case measure => simp [intOf]; omega
    · have HR := Lib.hid (orderR_no3 hg)
      have g1 : 1 ≤ Int.gcd (b : Int) q := Int.gcd_pos_of_ne_zero_left _ (by omega)
      have g2 : (Int.gcd (b : Int) q : Int) ≤ b := Int.le_of_dvd (by omega) (Int.gcd_dvd_left ..)
      obtain ⟨G, hG⟩ : ∃ G, Int.gcd (b : Int) q = G := ⟨_, rfl⟩
      rw [hG] at g1 g2 hg
      have g3 : ((G : Int) != 1) = true := by simp; omega
      go_enter Try.func44, Try.ntmps44
      go_wp2_with fail
      refine (l13Gcd_any _ _ _ (by omega) (by omega)).mono ?_
      rintro e w1 ⟨rfl, rfl⟩
      rw [hG]
      go_wp2
      go_ret
      exact ⟨ret_int HR.out.symm, rfl⟩
  rcases Bool.eq_false_or_eq_true (inB B 2 16) with h1 | h1
  · obtain ⟨b0, b1⟩ := inB_true h1
    obtain ⟨b, rfl⟩ : ∃ n : Nat, B = n := ⟨B.toNat, by omega⟩
    rcases Bool.eq_false_or_eq_true (inB Q 2 1000) with h2 | h2
    · obtain ⟨q0, q1⟩ := inB_true h2
      obtain ⟨q, rfl⟩ : ∃ n : Nat, Q = n := ⟨Q.toNat, by omega⟩
      have HK := Lib.hid (key b q h1 h2)
      clear key
      go_enter Try.func12, Try.ntmps12
      go_wp2_with fail
      refine (sBaseOk_any _ _).mono ?_
      rintro e w' ⟨rfl, rfl⟩
      go_wp2_with fail
      refine (l01In_any _ _ _ _).mono ?_
      rintro e w' ⟨rfl, rfl⟩
      go_wp2_with fail
      refine (HK.out).mono ?_
      rintro e w' ⟨rfl, rfl⟩
      go_wp2
      go_ret
      exact ⟨rfl, rfl⟩
    · have HR := Lib.hid (orderR_no2 (b := (b : Int)) h2)
      clear key
      go_enter Try.func12, Try.ntmps12
      go_wp2_with fail
      refine (sBaseOk_any _ _).mono ?_
      rintro e w' ⟨rfl, rfl⟩
      go_wp2_with fail
      refine (l01In_any _ _ _ _).mono ?_
      rintro e w' ⟨rfl, rfl⟩
      go_wp2
      go_ret
      exact ⟨ret_int HR.out.symm, rfl⟩
  · have HR := Lib.hid (orderR_no1 (q := Q) h1)
    clear key
    go_enter Try.func12, Try.ntmps12
    go_wp2_with fail
    refine (sBaseOk_any _ _).mono ?_
    rintro e w' ⟨rfl, rfl⟩
    go_wp2
    go_ret
    exact ⟨ret_int HR.out.symm, rfl⟩
theorem sOrderOf_c (w : World) (B : Int) (_hb : I64 B) (Q : Int) (_hq : I64 Q) :
    Calls Try.prog 12 #[.int .i64 B, .int .i64 Q] w fun e w' => e = .returned (.int .i64 (orderR B Q)) ∧ Below w.heap.size w w' :=
  (sOrderOf_any B Q w).mono fun e w' ⟨h, k⟩ => ⟨h, by subst k; exact Below.refl _ _⟩

set_option maxRecDepth 100000 in
set_option maxHeartbeats 1600000 in
theorem lOrderOf_law (w : World) (n0 : Int) (b0 : -9223372036854775808 ≤ n0 ∧ n0 ≤ 9223372036854775807) (n1 : Int) (b1 : -9223372036854775808 ≤ n1 ∧ n1 ≤ 9223372036854775807) :
    Calls Try.prog 3 #[.int .i64 n0, .int .i64 n1] w fun e w' => e = .returned (.bool true) ∧ Below w.heap.size w w' := by
  have BA0 : I64 n0 := b0
  clear b0
  have BA1 : I64 n1 := b1
  clear b1
  go_enter Try.func3, Try.ntmps3
  go_wp2_with fail
  refine (sOrderOf_c _ _ BA0 _ BA1).mono ?_
  rintro e w1 ⟨rfl, B1⟩
  have C2 := (Below.refl w.heap.size w).trans (B1.mono (Below.refl w.heap.size w).size)
  go_wp2_with fail
  refine (iOrderOf_c _ _ BA0 _ BA1).mono ?_
  rintro e w3 ⟨rfl, B3⟩
  have C4 := C2.trans (B3.mono C2.size)
  go_wp2
  go_ret
  exact ⟨rfl, C4⟩

end Go.Proofs.Ytepjmlcleggnnaa
