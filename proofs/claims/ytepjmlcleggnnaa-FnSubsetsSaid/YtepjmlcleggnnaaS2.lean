/-
  WALKS: PointDigits (both packages) and the law over it.
-/
import Derived.Test.YtepjmlcleggnnaaS1
namespace Go.Proofs.Ytepjmlcleggnnaa
open Go.RowKit

/-- What is left of p behind k digits. -/
def pdP (p q b : Int) : Nat → Int
  | 0 => p
  | k + 1 => pdP p q b k * b % q
def pdL (p q b : Int) (k : Nat) : List Int := (List.range k).map fun i => pdP p q b i * b / q
theorem pdL_len (p q b : Int) (k : Nat) : (pdL p q b k).length = k := by simp [pdL]
theorem pdL_succ (p q b : Int) (k : Nat) : pdL p q b (k + 1) = pdL p q b k ++ [pdP p q b k * b / q] := by simp [pdL, List.range_succ]
theorem pdP_succ (p q b : Int) (k : Nat) : pdP p q b (k + 1) = pdP p q b k * b % q := rfl
theorem pdP_zero (p q b : Int) : pdP p q b 0 = p := rfl
theorem pdP_in {p q b : Int} (hq : 1 ≤ q) (hp0 : 0 ≤ p) (hp1 : p ≤ q - 1) : ∀ k, 0 ≤ pdP p q b k ∧ pdP p q b k ≤ q - 1 := by
  intro k
  cases k with
  | zero => exact ⟨hp0, hp1⟩
  | succ k =>
    rw [pdP_succ]
    have := Int.emod_nonneg (pdP p q b k * b) (show q ≠ 0 by omega)
    have := Int.emod_lt_of_pos (pdP p q b k * b) (show 0 < q by omega)
    omega
def fracB (p q : Int) : Bool := inB q 1 1000 && inB p 0 (q - 1)
def pointR (p q b k : Int) : List Int := if (fracB p q && inB b 2 16) && inB k 0 40 then pdL p q b k.toNat else []
theorem pointR_of {p q b : Int} {k : Nat} (h1 : fracB p q = true) (h2 : inB b 2 16 = true) (h3 : inB (k : Int) 0 40 = true) : pointR p q b k = pdL p q b k := by simp [pointR, h1, h2, h3]
theorem pointR_no1 {p q b k : Int} (h1 : fracB p q = false) : pointR p q b k = [] := by simp [pointR, h1]
theorem pointR_no2 {p q b k : Int} (h1 : inB b 2 16 = false) : pointR p q b k = [] := by simp [pointR, h1]
theorem pointR_no3 {p q b k : Int} (h1 : inB k 0 40 = false) : pointR p q b k = [] := by simp [pointR, h1]
theorem pointR_len (p q b k : Int) : (pointR p q b k).length ≤ 1099511627776 := by
  unfold pointR
  split
  · rename_i h
    rw [Bool.and_eq_true] at h
    have := inB_true h.2
    rw [pdL_len]
    omega
  · simp
attribute [irreducible] pdP

theorem isFraction_any (p q : Int) (w : World) (_hp : I64 p) (_hq : I64 q) : Calls Try.prog 50 #[.int .i64 p, .int .i64 q] w fun e w' => e = .returned (.bool (fracB p q)) ∧ w = w' := by
  rcases Bool.eq_false_or_eq_true (inB q 1 1000) with h | h
  · have hb := inB_true h
    have HF : Hid (fracB p q = inB p 0 (q - 1)) := by unfold Hid fracB; rw [h, Bool.true_and]
    go_enter Try.func50, Try.ntmps50
    go_wp2_with fail
    refine (within_any _ _ _ _).mono ?_
    rintro e w' ⟨rfl, rfl⟩
    go_wp2_with fail
    refine (within_any _ _ _ _).mono ?_
    rintro e w' ⟨rfl, rfl⟩
    go_wp2
    go_ret
    exact ⟨ret_bool HF.out.symm, rfl⟩
  · have HF : Hid (fracB p q = false) := by unfold Hid fracB; rw [h, Bool.false_and]
    go_enter Try.func50, Try.ntmps50
    go_wp2_with fail
    refine (within_any _ _ _ _).mono ?_
    rintro e w' ⟨rfl, rfl⟩
    go_wp2
    go_ret
    exact ⟨ret_bool HF.out.symm, rfl⟩
theorem l14Ok_any (p q b : Int) (w : World) : Calls Try.prog 49 #[.int .i64 p, .int .i64 q, .int .i64 b] w fun e w' => e = .returned (.bool (fracB p q && inB b 2 16)) ∧ w = w' := by
  rcases Bool.eq_false_or_eq_true (inB b 2 16) with hb | hb
  · rcases Bool.eq_false_or_eq_true (inB q 1 1000) with h | h
    · have hb2 := inB_true h
      have HF : Hid ((fracB p q && inB b 2 16) = inB p 0 (q - 1)) := by unfold Hid fracB; rw [h, hb, Bool.true_and, Bool.and_true]
      go_enter Try.func49, Try.ntmps49
      go_wp2_with fail
      refine (sBaseOk_any _ _).mono ?_
      rintro e w' ⟨rfl, rfl⟩
      go_wp2_with fail
      refine (l01In_any _ _ _ _).mono ?_
      rintro e w' ⟨rfl, rfl⟩
      go_wp2_with fail
      refine (l01In_any _ _ _ _).mono ?_
      rintro e w' ⟨rfl, rfl⟩
      go_wp2
      go_ret
      exact ⟨ret_bool HF.out.symm, rfl⟩
    · have HF : Hid ((fracB p q && inB b 2 16) = false) := by unfold Hid fracB; rw [h, Bool.false_and, Bool.false_and]
      go_enter Try.func49, Try.ntmps49
      go_wp2_with fail
      refine (sBaseOk_any _ _).mono ?_
      rintro e w' ⟨rfl, rfl⟩
      go_wp2_with fail
      refine (l01In_any _ _ _ _).mono ?_
      rintro e w' ⟨rfl, rfl⟩
      go_wp2
      go_ret
      exact ⟨ret_bool HF.out.symm, rfl⟩
  · have HF : Hid ((fracB p q && inB b 2 16) = false) := by unfold Hid; rw [hb, Bool.and_false]
    go_enter Try.func49, Try.ntmps49
    go_wp2_with fail
    refine (sBaseOk_any _ _).mono ?_
    rintro e w' ⟨rfl, rfl⟩
    go_wp2
    go_ret
    exact ⟨ret_bool HF.out.symm, rfl⟩


set_option maxHeartbeats 1600000 in
theorem iPointDigits_c (w : World) (p : Int) (_hp : I64 p) (q : Int) (_hq : I64 q) (b : Int) (_hb : I64 b) (K : Int) (_hK : I64 K) :
    Calls Try.prog 19 #[.int .i64 p, .int .i64 q, .int .i64 b, .int .i64 K] w fun e w' => ∃ A c, e = .returned (.slice A (pointR p q b K).length c) ∧ Ow w' w.heap.size (.slice A (pointR p q b K).length c) (pointR p q b K) ∧ Below w.heap.size w w' := by
  rcases Bool.eq_false_or_eq_true (fracB p q) with h1 | h1
  · rcases Bool.eq_false_or_eq_true (inB b 2 16) with h2 | h2
    · rcases Bool.eq_false_or_eq_true (inB K 0 40) with h3 | h3
      · obtain ⟨k0, k1⟩ := inB_true h3
        obtain ⟨k, rfl⟩ : ∃ k : Nat, K = k := ⟨K.toNat, by omega⟩
        have HR := Lib.hid (pointR_of h1 h2 h3)
        obtain ⟨b0, b1⟩ := inB_true h2
        have hf := h1
        unfold fracB at hf
        rw [Bool.and_eq_true] at hf
        obtain ⟨q0, q1⟩ := inB_true hf.1
        obtain ⟨p0, p1⟩ := inB_true hf.2
        have HP := Lib.hid (pdP_in (b := b) q0 p0 p1)
        clear hf
        go_enter Try.func19, Try.ntmps19
        go_wp2_with fail
        refine (isFraction_any _ _ _ _hp _hq).mono ?_
        rintro e w' ⟨rfl, rfl⟩
        go_wp2_with fail
        refine (iBaseOk_any _ _).mono ?_
        rintro e w' ⟨rfl, rfl⟩
        go_wp2_with fail
        refine (within_any _ _ _ _).mono ?_
        rintro e w' ⟨rfl, rfl⟩
        go_wp2
        clear h1 h2 h3 
        go_loopw [0, 9, 25] (fun pp v i wr => ∃ j : Nat, j ≤ k ∧ i = .int .i64 j ∧ pp = .int .i64 (pdP p q b j) ∧ Ap wr w.heap.size v (pdL p q b j) ∧ Below w.heap.size w wr) (fun _ _ i _ => k - (intOf i).toNat)
        case atStart => exact ⟨0, Nat.zero_le _, rfl, by rw [pdP_zero], Ap.nil_ _ _, Below.refl _ _⟩
        case round =>
          obtain ⟨j, hj, rfl, rfl, hO, hB⟩ := hrel
          have hs := hB.size
          by_cases hlt : (j : Int) < k
          · have hL : (pdL p q b j).length < 1099511627776 := by rw [pdL_len]; omega
            have HS := Lib.hid (pdL_succ p q b j)
            have HT := Lib.hid (pdP_succ p q b j)
            obtain ⟨z0, z1⟩ := HP.out j
            obtain ⟨z, hz⟩ : ∃ z, pdP p q b j = z := ⟨_, rfl⟩
            rw [hz] at z0 z1 HS HT
            rw [hz]
            clear hz
            have m0 : 0 ≤ z * b := Int.mul_nonneg z0 (by omega)
            have m1 : z * b ≤ 1000 * 16 := Int.mul_le_mul (by omega) (by omega) (by omega) (by omega)
            have d0 : 0 ≤ z * b / q := Int.ediv_nonneg m0 (by omega)
            have d1 : z * b / q ≤ z * b := Int.ediv_le_self _ m0
            have r0 := Int.emod_nonneg (z * b) (show q ≠ 0 by omega)
            have r1 := Int.emod_lt_of_pos (z * b) (show 0 < q by omega)
            go_wp2_with (at_builtin; refine wpList_app1 hO hL hs rfl _ _ 24 rfl rfl rfl rfl ?_; intro v' w' O' B')
            go_roundw
            case rel => exact ⟨j + 1, by omega, by go_num, by rw [HT.out], by rw [HS.out]; exact O', hB.trans B'⟩
            case measure => simp [intOf]; omega
          · have hjk : j = k := by omega
            subst hjk
            obtain ⟨A', c', rfl⟩ := hO.form
            have hw := hO.ow
            rw [← HR.out] at hw ⊢
            go_wp2
            go_ret
            exact ⟨A', c', rfl, hw, hB⟩
      · have HR : Hid (pointR p q b K = []) := pointR_no3 h3
        go_enter Try.func19, Try.ntmps19
        go_wp2_with fail
        refine (isFraction_any _ _ _ _hp _hq).mono ?_
        rintro e w' ⟨rfl, rfl⟩
        go_wp2_with fail
        refine (iBaseOk_any _ _).mono ?_
        rintro e w' ⟨rfl, rfl⟩
        go_wp2_with fail
        refine (within_any _ _ _ _).mono ?_
        rintro e w' ⟨rfl, rfl⟩
        go_wp2
        go_ret
        exact ⟨none, 0, by rw [HR.out]; rfl, by rw [HR.out]; exact Ow.nil_ _ _, Below.refl _ _⟩
    · have HR : Hid (pointR p q b K = []) := pointR_no2 h2
      go_enter Try.func19, Try.ntmps19
      go_wp2_with fail
      refine (isFraction_any _ _ _ _hp _hq).mono ?_
      rintro e w' ⟨rfl, rfl⟩
      go_wp2_with fail
      refine (iBaseOk_any _ _).mono ?_
      rintro e w' ⟨rfl, rfl⟩
      go_wp2
      go_ret
      exact ⟨none, 0, by rw [HR.out]; rfl, by rw [HR.out]; exact Ow.nil_ _ _, Below.refl _ _⟩
  · have HR : Hid (pointR p q b K = []) := pointR_no1 h1
    go_enter Try.func19, Try.ntmps19
    go_wp2_with fail
    refine (isFraction_any _ _ _ _hp _hq).mono ?_
    rintro e w' ⟨rfl, rfl⟩
    go_wp2
    go_ret
    exact ⟨none, 0, by rw [HR.out]; rfl, by rw [HR.out]; exact Ow.nil_ _ _, Below.refl _ _⟩


set_option maxHeartbeats 1600000 in
theorem sPointDigits_c (w : World) (p : Int) (_hp : I64 p) (q : Int) (_hq : I64 q) (b : Int) (_hb : I64 b) (K : Int) (_hK : I64 K) :
    Calls Try.prog 18 #[.int .i64 p, .int .i64 q, .int .i64 b, .int .i64 K] w fun e w' => ∃ A c, e = .returned (.slice A (pointR p q b K).length c) ∧ Ow w' w.heap.size (.slice A (pointR p q b K).length c) (pointR p q b K) ∧ Below w.heap.size w w' := by
  rcases Bool.eq_false_or_eq_true (fracB p q) with h1 | h1
  · rcases Bool.eq_false_or_eq_true (inB b 2 16) with h2 | h2
    · rcases Bool.eq_false_or_eq_true (inB K 0 40) with h3 | h3
      · obtain ⟨k0, k1⟩ := inB_true h3
        obtain ⟨k, rfl⟩ : ∃ k : Nat, K = k := ⟨K.toNat, by omega⟩
        have HR := Lib.hid (pointR_of h1 h2 h3)
        obtain ⟨b0, b1⟩ := inB_true h2
        have hf := h1
        unfold fracB at hf
        rw [Bool.and_eq_true] at hf
        obtain ⟨q0, q1⟩ := inB_true hf.1
        obtain ⟨p0, p1⟩ := inB_true hf.2
        have HP := Lib.hid (pdP_in (b := b) q0 p0 p1)
        clear hf
        have e1 : (fracB p q && inB b 2 16) = true := by rw [h1, h2]; rfl
        go_enter Try.func18, Try.ntmps18
        go_wp2_with fail
        refine (l14Ok_any _ _ _ _).mono ?_
        rintro e w' ⟨rfl, rfl⟩
        go_wp2_with fail
        refine (l01In_any _ _ _ _).mono ?_
        rintro e w' ⟨rfl, rfl⟩
        go_wp2
        clear h1 h2 h3 e1
        go_loopw [0, 9, 10] (fun pp v i wr => ∃ j : Nat, j ≤ k ∧ i = .int .i64 j ∧ pp = .int .i64 (pdP p q b j) ∧ Ap wr w.heap.size v (pdL p q b j) ∧ Below w.heap.size w wr) (fun _ _ i _ => k - (intOf i).toNat)
        case atStart => exact ⟨0, Nat.zero_le _, rfl, by rw [pdP_zero], Ap.empty _ _ (Nat.le_refl _), (Below.refl _ _).alloc (Nat.le_refl _) _⟩
        case round =>
          obtain ⟨j, hj, rfl, rfl, hO, hB⟩ := hrel
          have hs := hB.size
          by_cases hlt : (j : Int) < k
          · have hL : (pdL p q b j).length < 1099511627776 := by rw [pdL_len]; omega
            have HS := Lib.hid (pdL_succ p q b j)
            have HT := Lib.hid (pdP_succ p q b j)
            obtain ⟨z0, z1⟩ := HP.out j
            obtain ⟨z, hz⟩ : ∃ z, pdP p q b j = z := ⟨_, rfl⟩
            rw [hz] at z0 z1 HS HT
            rw [hz]
            clear hz
            have m0 : 0 ≤ z * b := Int.mul_nonneg z0 (by omega)
            have m1 : z * b ≤ 1000 * 16 := Int.mul_le_mul (by omega) (by omega) (by omega) (by omega)
            have d0 : 0 ≤ z * b / q := Int.ediv_nonneg m0 (by omega)
            have d1 : z * b / q ≤ z * b := Int.ediv_le_self _ m0
            have r0 := Int.emod_nonneg (z * b) (show q ≠ 0 by omega)
            have r1 := Int.emod_lt_of_pos (z * b) (show 0 < q by omega)
            go_wp2_with (at_builtin; refine wpList_app1 hO hL hs rfl _ _ 24 rfl rfl rfl rfl ?_; intro v' w' O' B')
            go_roundw
            case rel => exact ⟨j + 1, by omega, by go_num, by rw [HT.out], by rw [HS.out]; exact O', hB.trans B'⟩
            case measure => simp [intOf]; omega
          · have hjk : j = k := by omega
            subst hjk
            obtain ⟨A', c', rfl⟩ := hO.form
            have hw := hO.ow
            rw [← HR.out] at hw ⊢
            go_wp2
            go_ret
            exact ⟨A', c', rfl, hw, hB⟩
      · have HR : Hid (pointR p q b K = []) := pointR_no3 h3
        have e1 : (fracB p q && inB b 2 16) = true := by rw [h1, h2]; rfl
        go_enter Try.func18, Try.ntmps18
        go_wp2_with fail
        refine (l14Ok_any _ _ _ _).mono ?_
        rintro e w' ⟨rfl, rfl⟩
        go_wp2_with fail
        refine (l01In_any _ _ _ _).mono ?_
        rintro e w' ⟨rfl, rfl⟩
        go_wp2
        go_ret
        exact ⟨none, 0, by rw [HR.out]; rfl, by rw [HR.out]; exact Ow.nil_ _ _, Below.refl _ _⟩
    · have HR : Hid (pointR p q b K = []) := pointR_no2 h2
      have e1 : (fracB p q && inB b 2 16) = false := by rw [h1, h2]; rfl
      go_enter Try.func18, Try.ntmps18
      go_wp2_with fail
      refine (l14Ok_any _ _ _ _).mono ?_
      rintro e w' ⟨rfl, rfl⟩
      go_wp2
      go_ret
      exact ⟨none, 0, by rw [HR.out]; rfl, by rw [HR.out]; exact Ow.nil_ _ _, Below.refl _ _⟩
  · have HR : Hid (pointR p q b K = []) := pointR_no1 h1
    have e1 : (fracB p q && inB b 2 16) = false := by rw [h1]; rfl
    go_enter Try.func18, Try.ntmps18
    go_wp2_with fail
    refine (l14Ok_any _ _ _ _).mono ?_
    rintro e w' ⟨rfl, rfl⟩
    go_wp2
    go_ret
    exact ⟨none, 0, by rw [HR.out]; rfl, by rw [HR.out]; exact Ow.nil_ _ _, Below.refl _ _⟩

set_option maxRecDepth 100000 in
set_option maxHeartbeats 1600000 in
theorem lPointDigits_law (w : World) (n0 : Int) (b0 : -9223372036854775808 ≤ n0 ∧ n0 ≤ 9223372036854775807) (n1 : Int) (b1 : -9223372036854775808 ≤ n1 ∧ n1 ≤ 9223372036854775807) (n2 : Int) (b2 : -9223372036854775808 ≤ n2 ∧ n2 ≤ 9223372036854775807) (n3 : Int) (b3 : -9223372036854775808 ≤ n3 ∧ n3 ≤ 9223372036854775807) :
    Calls Try.prog 5 #[.int .i64 n0, .int .i64 n1, .int .i64 n2, .int .i64 n3] w fun e w' => e = .returned (.bool true) ∧ Below w.heap.size w w' := by
  have BA0 : I64 n0 := b0
  clear b0
  have BA1 : I64 n1 := b1
  clear b1
  have BA2 : I64 n2 := b2
  clear b2
  have BA3 : I64 n3 := b3
  clear b3
  go_enter Try.func5, Try.ntmps5
  go_wp2_with fail
  refine (sPointDigits_c _ _ BA0 _ BA1 _ BA2 _ BA3).mono ?_
  rintro e w1 ⟨A_W0, c_W0, rfl, W0_0, B1⟩
  have L_W0 := fun k hk => (W0_0.lt k hk).1
  have C2 := (Below.refl w.heap.size w).trans (B1.mono (Below.refl w.heap.size w).size)
  go_wp2_with fail
  refine (iPointDigits_c _ _ BA0 _ BA1 _ BA2 _ BA3).mono ?_
  rintro e w3 ⟨A_G0, c_G0, rfl, G0_0, B3⟩
  have U_W0_G0 := fun k hk => (W0_0.lt k hk).2
  have L_G0 := fun k hk => (G0_0.lt k hk).1
  have C4 := C2.trans (B3.mono C2.size)
  have W0_4 := W0_0.below' B3
  go_wp2_with fail
  refine (eqIntS_same _ _ _ _ _ _ G0_0.rd W0_4.rd ((pointR_len n0 n1 n2 n3))).mono ?_
  rintro e w5 ⟨rfl, n5_, rfl⟩
  have C6 := below_drewN C4 n5_
  have W0_6 := W0_4.drewN n5_
  have G0_6 := G0_0.drewN n5_
  go_wp2_with fail
  refine (markIntS_any _ _ _ _ _ _ G0_6 ((pointR_len n0 n1 n2 n3)) (by omega) (by omega)).mono ?_
  rintro e w7 ⟨rfl, G0_7, G7⟩
  have W0_7 := W0_6.kept G7 (own_ne U_W0_G0 L_G0)
  have C8 := C6.grown G7 C6.size (fun k hk => Nat.le_trans C2.size (L_G0 k hk))
  go_wp2_with fail
  refine (heldIntS_any _ _ _ _ _ (by have h := G0_7.rd' (marks_length _ _); exact h) ((pointR_len n0 n1 n2 n3)) (by omega) (by omega)).mono ?_
  rintro e w9 ⟨rfl, rfl⟩
  go_wp2_with fail
  refine (iPointDigits_c _ _ BA0 _ BA1 _ BA2 _ BA3).mono ?_
  rintro e w10 ⟨A_H0, c_H0, rfl, H0_0, B10⟩
  have U_W0_H0 := fun k hk => (W0_7.lt k hk).2
  have U_G0_H0 := fun k hk => (G0_7.lt k hk).2
  have L_H0 := fun k hk => (H0_0.lt k hk).1
  have C11 := C8.trans (B10.mono C8.size)
  have W0_11 := W0_7.below' B10
  have G0_11 := G0_7.below' B10
  go_wp2_with fail
  refine (eqIntS_same _ _ _ _ _ _ H0_0.rd W0_11.rd ((pointR_len n0 n1 n2 n3))).mono ?_
  rintro e w12 ⟨rfl, n12_, rfl⟩
  have C13 := below_drewN C11 n12_
  have W0_13 := W0_11.drewN n12_
  have G0_13 := G0_11.drewN n12_
  have H0_13 := H0_0.drewN n12_
  go_wp2_with fail
  refine (heldIntS_any _ _ _ _ _ (by have h := G0_13.rd' (marks_length _ _); exact h) ((pointR_len n0 n1 n2 n3)) (by omega) (by omega)).mono ?_
  rintro e w14 ⟨rfl, rfl⟩
  go_wp2
  go_ret
  exact ⟨rfl, C13⟩

end Go.Proofs.Ytepjmlcleggnnaa
