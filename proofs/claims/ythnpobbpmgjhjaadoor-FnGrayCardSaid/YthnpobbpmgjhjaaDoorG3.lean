/-
  WALKS: GrayCycle (both packages) and the law over it.
-/
import Derived.Test.YthnpobbpmgjhjaaDoorG2
import Derived.Test.YthnpobbpmgjhjaaDoorW3
namespace Go.Proofs.YthnpobbpmgjhjaaDoor
open Go.RowKit

/-- The Gray codes of the first k numbers. -/
def grayL (k : Nat) : List Int := (List.range k).map fun n => ((grayN n : Nat) : Int)
theorem grayL_len (k : Nat) : (grayL k).length = k := by simp [grayL]
theorem grayL_succ (k : Nat) : grayL (k + 1) = grayL k ++ [((grayN k : Nat) : Int)] := by simp [grayL, List.range_succ]
def cycleR (k : Int) : List Int := if inB k 1 6 then grayL (2 ^ k.toNat) else []
theorem cycleR_len (k : Int) : (cycleR k).length ≤ 1099511627776 := by
  unfold cycleR
  rcases Bool.eq_false_or_eq_true (inB k 1 6) with h | h
  · obtain ⟨b1, b2⟩ := inB_true h
    rw [if_pos h, grayL_len]
    have : 2 ^ k.toNat ≤ 2 ^ 6 := Nat.pow_le_pow_right (by omega) (by omega)
    omega
  · simp [h]
theorem grayR_of (j : Nat) (h : j ≤ 1000000000000) : grayR (j : Int) = ((grayN j : Nat) : Int) := by
  have : inB (j : Int) 0 1000000000000 = true := inB_of ⟨by omega, by omega⟩
  simp [grayR, this]


set_option maxHeartbeats 800000 in
theorem iGrayCycle_c (w : World) (k : Int) (_hb : I64 k) :
    Calls Tryd.prog 16 #[.int .i64 k] w fun e w' => ∃ A c, e = .returned (.slice A (cycleR k).length c) ∧ Ow w' w.heap.size (.slice A (cycleR k).length c) (cycleR k) ∧ Below w.heap.size w w' := by
  rcases Bool.eq_false_or_eq_true (inB k 1 6) with h | h
  · obtain ⟨b1, b2⟩ := inB_true h
    obtain ⟨m, rfl⟩ := Int.eq_ofNat_of_zero_le (show 0 ≤ k by omega)
    obtain ⟨p1, p2⟩ := pow_le16 m (by omega)
    have HR : Hid (cycleR (m : Int) = grayL (2 ^ m)) := by unfold Hid; simp [cycleR, h]
    have HP : Hid (((2 ^ m : Nat) : Int) = (2 : Int) ^ m) := by unfold Hid; simp
    go_enter Tryd.func16, Tryd.ntmps16
    go_wp2_with (go_at_call 21; refine (within_any _ _ _ _).mono ?_; rintro e w' ⟨rfl, rfl⟩)
    go_loopw [3, 10] (fun v i wr => ∃ j : Nat, j ≤ 2 ^ m ∧ i = .int .i64 j ∧ Ap wr w.heap.size v (grayL j) ∧ Below w.heap.size w wr) (fun _ i _ => 2 ^ m - (intOf i).toNat)
    case atStart => exact ⟨0, Nat.zero_le _, rfl, Ap.nil_ _ _, Below.refl _ _⟩
    case round =>
      obtain ⟨j, hj, rfl, hO, hB⟩ := hrel
      have hl := grayL_len j
      have hs := hB.size
      have hp := HP.out
      have hj2 : (j : Int) ≤ 2 ^ m := by omega
      by_cases hlt : (j : Int) < 2 ^ m
      · have hL : (grayL j).length < 1099511627776 := by omega
        have hjb : j < 65536 := by omega
        have HG : Hid (grayR (j : Int) = ((grayN j : Nat) : Int)) := grayR_of j (by omega)
        clear hp hl hj
        go_wp2_with (first
          | (go_at_call 8; refine (iGrayOf_any _ _).mono ?_; rintro e w' ⟨rfl, rfl⟩)
          | (at_builtin; refine wpList_app1 hO hL hs rfl _ _ 26 rfl rfl rfl rfl ?_; intro v' w' O' B'))
        go_roundw
        case rel =>
          refine ⟨j + 1, by have := HP.out; omega, by go_num, ?_, hB.trans B'⟩
          rw [grayL_succ]
          rw [HG.out] at O'
          exact O'
        case measure => have := HP.out; simp [intOf]; omega
      · have hkl : j = 2 ^ m := by omega
        clear hp hl
        go_wp2
        obtain ⟨A, c, rfl⟩ := hO.form
        go_ret
        have hk2 := hkl
        subst hk2
        exact ⟨A, c, by rw [HR.out]; rfl, by rw [HR.out]; exact hO.ow, hB⟩
  · have HR : Hid (cycleR k = []) := by unfold Hid; simp [cycleR, h]
    go_enter Tryd.func16, Tryd.ntmps16
    go_wp2_with (go_at_call 21; refine (within_any _ _ _ _).mono ?_; rintro e w' ⟨rfl, rfl⟩)
    go_ret
    exact ⟨none, 0, by rw [HR.out]; rfl, by rw [HR.out]; exact Ow.nil_ _ _, Below.refl _ _⟩

end Go.Proofs.YthnpobbpmgjhjaaDoor
