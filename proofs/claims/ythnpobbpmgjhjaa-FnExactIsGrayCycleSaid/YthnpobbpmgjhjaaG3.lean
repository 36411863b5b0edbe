/-
  WALKS: GrayCycle (both packages) and the law over it.
-/
import Derived.Test.YthnpobbpmgjhjaaG2
import Derived.Test.YthnpobbpmgjhjaaW3
namespace Go.Proofs.Ythnpobbpmgjhjaa
open Go.RowKit

/-- The Gray codes of the first k numbers. -/
def grayL (k : Nat) : List Int := (List.range k).map fun n => ((grayN n : Nat) : Int)
theorem grayL_len (k : Nat) : (grayL k).length = k := by simp [grayL]
theorem grayL_succ (k : Nat) : grayL (k + 1) = grayL k ++ [((grayN k : Nat) : Int)] := by simp [grayL, List.range_succ]
def cycleR (k : Int) : List Int := if inB k 1 6 then grayL (2 ^ k.toNat) else []
theorem cycleR_len (k : Int) : (cycleR k).length ≤ 1099511627776 := by
  unfold cycleR
  rcases Bool.eq_false_or_eq_true (inB k 1 6) with h | h
  · obtain ⟨b1, b2⟩ := inB_true h
    rw [if_pos h, grayL_len]
    have : 2 ^ k.toNat ≤ 2 ^ 6 := Nat.pow_le_pow_right (by omega) (by omega)
    omega
  · simp [h]
theorem grayR_of (j : Nat) (h : j ≤ 1000000000000) : grayR (j : Int) = ((grayN j : Nat) : Int) := by
  have : inB (j : Int) 0 1000000000000 = true := inB_of ⟨by omega, by omega⟩
  simp [grayR, this]


set_option maxHeartbeats 800000 in
theorem sGrayCycle_c (w : World) (k : Int) (_hb : I64 k) :
    Calls Try.prog 21 #[.int .i64 k] w fun e w' => ∃ A c, e = .returned (.slice A (cycleR k).length c) ∧ Ow w' w.heap.size (.slice A (cycleR k).length c) (cycleR k) ∧ Below w.heap.size w w' := by
  rcases Bool.eq_false_or_eq_true (inB k 1 6) with h | h
  · obtain ⟨b1, b2⟩ := inB_true h
    obtain ⟨m, rfl⟩ := Int.eq_ofNat_of_zero_le (show 0 ≤ k by omega)
    obtain ⟨p1, p2⟩ := pow_le16 m (by omega)
    have HR : Hid (cycleR (m : Int) = grayL (2 ^ m)) := by unfold Hid; simp [cycleR, h]
    have HP : Hid (((2 ^ m : Nat) : Int) = (2 : Int) ^ m) := by unfold Hid; simp
    go_enter Try.func21, Try.ntmps21
    go_wp2_with (go_at_call 31; refine (l01In_any _ _ _ _).mono ?_; rintro e w' ⟨rfl, rfl⟩)
    go_loopw [3, 4] (fun v i wr => ∃ j : Nat, j ≤ 2 ^ m ∧ i = .int .i64 j ∧ Ap wr w.heap.size v (grayL j) ∧ Below w.heap.size w wr) (fun _ i _ => 2 ^ m - (intOf i).toNat)
    case atStart => exact ⟨0, Nat.zero_le _, rfl, Ap.empty _ _ (Nat.le_refl _), (Below.refl _ _).alloc (Nat.le_refl _) _⟩
    case round =>
      obtain ⟨j, hj, rfl, hO, hB⟩ := hrel
      have hl := grayL_len j
      have hs := hB.size
      have hp := HP.out
      have hj2 : (j : Int) ≤ 2 ^ m := by omega
      by_cases hlt : (j : Int) < 2 ^ m
      · have hL : (grayL j).length < 1099511627776 := by omega
        have hjb : j < 65536 := by omega
        have HG : Hid (grayR (j : Int) = ((grayN j : Nat) : Int)) := grayR_of j (by omega)
        clear hp hl hj
        go_wp2_with (first
          | (go_at_call 32; refine (l12Gray_any j _ (by omega)).mono ?_; rintro e w' ⟨rfl, rfl⟩)
          | (at_builtin; refine wpList_app1 hO hL hs rfl _ _ 26 rfl rfl rfl rfl ?_; intro v' w' O' B'))
        go_roundw
        case rel =>
          refine ⟨j + 1, by have := HP.out; omega, by go_num, ?_, hB.trans B'⟩
          rw [grayL_succ]
          exact O'
        case measure => have := HP.out; simp [intOf]; omega
      · have hkl : j = 2 ^ m := by omega
        clear hp hl
        go_wp2
        obtain ⟨A, c, rfl⟩ := hO.form
        go_ret
        have hk2 := hkl
        subst hk2
        exact ⟨A, c, by rw [HR.out]; rfl, by rw [HR.out]; exact hO.ow, hB⟩
  · have HR : Hid (cycleR k = []) := by unfold Hid; simp [cycleR, h]
    go_enter Try.func21, Try.ntmps21
    go_wp2_with (go_at_call 31; refine (l01In_any _ _ _ _).mono ?_; rintro e w' ⟨rfl, rfl⟩)
    go_ret
    exact ⟨none, 0, by rw [HR.out]; rfl, by rw [HR.out]; exact Ow.nil_ _ _, Below.refl _ _⟩


set_option maxHeartbeats 800000 in
theorem iGrayCycle_c (w : World) (k : Int) (_hb : I64 k) :
    Calls Try.prog 22 #[.int .i64 k] w fun e w' => ∃ A c, e = .returned (.slice A (cycleR k).length c) ∧ Ow w' w.heap.size (.slice A (cycleR k).length c) (cycleR k) ∧ Below w.heap.size w w' := by
  rcases Bool.eq_false_or_eq_true (inB k 1 6) with h | h
  · obtain ⟨b1, b2⟩ := inB_true h
    obtain ⟨m, rfl⟩ := Int.eq_ofNat_of_zero_le (show 0 ≤ k by omega)
    obtain ⟨p1, p2⟩ := pow_le16 m (by omega)
    have HR : Hid (cycleR (m : Int) = grayL (2 ^ m)) := by unfold Hid; simp [cycleR, h]
    have HP : Hid (((2 ^ m : Nat) : Int) = (2 : Int) ^ m) := by unfold Hid; simp
    go_enter Try.func22, Try.ntmps22
    go_wp2_with (go_at_call 36; refine (within_any _ _ _ _).mono ?_; rintro e w' ⟨rfl, rfl⟩)
    go_loopw [3, 10] (fun v i wr => ∃ j : Nat, j ≤ 2 ^ m ∧ i = .int .i64 j ∧ Ap wr w.heap.size v (grayL j) ∧ Below w.heap.size w wr) (fun _ i _ => 2 ^ m - (intOf i).toNat)
    case atStart => exact ⟨0, Nat.zero_le _, rfl, Ap.nil_ _ _, Below.refl _ _⟩
    case round =>
      obtain ⟨j, hj, rfl, hO, hB⟩ := hrel
      have hl := grayL_len j
      have hs := hB.size
      have hp := HP.out
      have hj2 : (j : Int) ≤ 2 ^ m := by omega
      by_cases hlt : (j : Int) < 2 ^ m
      · have hL : (grayL j).length < 1099511627776 := by omega
        have hjb : j < 65536 := by omega
        have HG : Hid (grayR (j : Int) = ((grayN j : Nat) : Int)) := grayR_of j (by omega)
        clear hp hl hj
        go_wp2_with (first
          | (go_at_call 12; refine (iGrayOf_any _ _).mono ?_; rintro e w' ⟨rfl, rfl⟩)
          | (at_builtin; refine wpList_app1 hO hL hs rfl _ _ 26 rfl rfl rfl rfl ?_; intro v' w' O' B'))
        go_roundw
        case rel =>
          refine ⟨j + 1, by have := HP.out; omega, by go_num, ?_, hB.trans B'⟩
          rw [grayL_succ]
          rw [HG.out] at O'
          exact O'
        case measure => have := HP.out; simp [intOf]; omega
      · have hkl : j = 2 ^ m := by omega
        clear hp hl
        go_wp2
        obtain ⟨A, c, rfl⟩ := hO.form
        go_ret
        have hk2 := hkl
        subst hk2
        exact ⟨A, c, by rw [HR.out]; rfl, by rw [HR.out]; exact hO.ow, hB⟩
  · have HR : Hid (cycleR k = []) := by unfold Hid; simp [cycleR, h]
    go_enter Try.func22, Try.ntmps22
    go_wp2_with (go_at_call 36; refine (within_any _ _ _ _).mono ?_; rintro e w' ⟨rfl, rfl⟩)
    go_ret
    exact ⟨none, 0, by rw [HR.out]; rfl, by rw [HR.out]; exact Ow.nil_ _ _, Below.refl _ _⟩

set_option maxRecDepth 100000 in
set_option maxHeartbeats 1600000 in
theorem lGrayCycle_law (w : World) (n0 : Int) (b0 : -9223372036854775808 ≤ n0 ∧ n0 ≤ 9223372036854775807) :
    Calls Try.prog 7 #[.int .i64 n0] w fun e w' => e = .returned (.bool true) ∧ Below w.heap.size w w' := by
  have BA0 : I64 n0 := b0
  clear b0
  go_enter Try.func7, Try.ntmps7
  go_wp2_with fail
  refine (sGrayCycle_c _ _ BA0).mono ?_
  rintro e w1 ⟨A_W0, c_W0, rfl, W0_0, B1⟩
  have L_W0 := fun k hk => (W0_0.lt k hk).1
  have C2 := (Below.refl w.heap.size w).trans (B1.mono (Below.refl w.heap.size w).size)
  go_wp2_with fail
  refine (iGrayCycle_c _ _ BA0).mono ?_
  rintro e w3 ⟨A_G0, c_G0, rfl, G0_0, B3⟩
  have U_W0_G0 := fun k hk => (W0_0.lt k hk).2
  have L_G0 := fun k hk => (G0_0.lt k hk).1
  have C4 := C2.trans (B3.mono C2.size)
  have W0_4 := W0_0.below' B3
  go_wp2_with fail
  refine (eqIntS_same _ _ _ _ _ _ G0_0.rd W0_4.rd ((cycleR_len n0))).mono ?_
  rintro e w5 ⟨rfl, n5_, rfl⟩
  have C6 := below_drewN C4 n5_
  have W0_6 := W0_4.drewN n5_
  have G0_6 := G0_0.drewN n5_
  go_wp2_with fail
  refine (markIntS_any _ _ _ _ _ _ G0_6 ((cycleR_len n0)) (by omega) (by omega)).mono ?_
  rintro e w7 ⟨rfl, G0_7, G7⟩
  have W0_7 := W0_6.kept G7 (own_ne U_W0_G0 L_G0)
  have C8 := C6.grown G7 C6.size (fun k hk => Nat.le_trans C2.size (L_G0 k hk))
  go_wp2_with fail
  refine (heldIntS_any _ _ _ _ _ (by have h := G0_7.rd' (marks_length _ _); exact h) ((cycleR_len n0)) (by omega) (by omega)).mono ?_
  rintro e w9 ⟨rfl, rfl⟩
  go_wp2_with fail
  refine (iGrayCycle_c _ _ BA0).mono ?_
  rintro e w10 ⟨A_H0, c_H0, rfl, H0_0, B10⟩
  have U_W0_H0 := fun k hk => (W0_7.lt k hk).2
  have U_G0_H0 := fun k hk => (G0_7.lt k hk).2
  have L_H0 := fun k hk => (H0_0.lt k hk).1
  have C11 := C8.trans (B10.mono C8.size)
  have W0_11 := W0_7.below' B10
  have G0_11 := G0_7.below' B10
  go_wp2_with fail
  refine (eqIntS_same _ _ _ _ _ _ H0_0.rd W0_11.rd ((cycleR_len n0))).mono ?_
  rintro e w12 ⟨rfl, n12_, rfl⟩
  have C13 := below_drewN C11 n12_
  have W0_13 := W0_11.drewN n12_
  have G0_13 := G0_11.drewN n12_
  have H0_13 := H0_0.drewN n12_
  go_wp2_with fail
  refine (heldIntS_any _ _ _ _ _ (by have h := G0_13.rd' (marks_length _ _); exact h) ((cycleR_len n0)) (by omega) (by omega)).mono ?_
  rintro e w14 ⟨rfl, rfl⟩
  go_wp2
  go_ret
  exact ⟨rfl, C13⟩

end Go.Proofs.Ythnpobbpmgjhjaa
