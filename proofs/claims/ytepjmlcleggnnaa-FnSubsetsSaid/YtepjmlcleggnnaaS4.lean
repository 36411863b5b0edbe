/-
  WALKS: MaskOf (both packages) and the law over it.
-/
import Derived.Test.YtepjmlcleggnnaaS3
namespace Go.Proofs.Ytepjmlcleggnnaa
open Go.RowKit

theorem ofInt_i64 (a : Nat) (ha : a < 9223372036854775808) : (BitVec.ofInt 64 (a : Int)).toNat = a := by
  rw [BitVec.ofInt_natCast, BitVec.toNat_ofNat]; exact Nat.mod_eq_of_lt (by omega)
theorem i64_or_nat (a b : Nat) (ha : a < 9223372036854775808) (hb : b < 9223372036854775808) : bits .or .i64 (a : Int) (b : Int) = ((a ||| b : Nat) : Int) := by
  have hx : a ||| b < 2 ^ 63 := Nat.or_lt_two_pow (by omega) (by omega)
  show IntKind.i64.wrap ((BitVec.ofInt 64 (a : Int) ||| BitVec.ofInt 64 (b : Int)).toNat : Int) = _
  rw [BitVec.toNat_or, ofInt_i64 a ha, ofInt_i64 b hb, IntKind.wrap_i64]
  omega
theorem i64_and_nat (a b : Nat) (ha : a < 9223372036854775808) (hb : b < 9223372036854775808) : bits .and .i64 (a : Int) (b : Int) = ((a &&& b : Nat) : Int) := by
  have hx : a &&& b < 2 ^ 63 := Nat.and_lt_two_pow _ (by omega)
  show IntKind.i64.wrap ((BitVec.ofInt 64 (a : Int) &&& BitVec.ofInt 64 (b : Int)).toNat : Int) = _
  rw [BitVec.toNat_and, ofInt_i64 a ha, ofInt_i64 b hb, IntKind.wrap_i64]
  omega
/-- The mask of the first k numbers. -/
def maskUp (xs : List Int) : Nat → Nat
  | 0 => 0
  | k + 1 => maskUp xs k + 2 ^ (xs.getD k 0).toNat
theorem maskUp_zero (xs : List Int) : maskUp xs 0 = 0 := rfl
theorem maskUp_succ {xs : List Int} {k n : Nat} (hx : xs[k]? = some (n : Int)) : maskUp xs (k + 1) = maskUp xs k + 2 ^ n := by simp [maskUp, List.getD, hx]
theorem mask_lt {xs : List Int} {m : Int} (h : subSoFar xs m xs.length) : ∀ (k n : Nat), xs[k]? = some (n : Int) → maskUp xs k < 2 ^ n := by
  intro k
  induction k with
  | zero => intro n _; rw [maskUp_zero]; exact Nat.two_pow_pos n
  | succ k ih =>
    intro n hx
    have hk := (List.getElem?_eq_some_iff.1 hx).1
    have hy : xs[k]? = some xs[k] := List.getElem?_eq_getElem (by omega)
    have hb := sub_at h k _ hy
    have h0 := h (k + 1) hk
    rw [subAt_pos (by omega) hx (y := xs[k]) hy, Bool.and_eq_true] at h0
    have h2 := of_decide_eq_true h0.2
    obtain ⟨p, hp⟩ : ∃ p : Nat, xs[k] = p := ⟨xs[k].toNat, by omega⟩
    rw [hp] at hy h2
    have i := ih p hy
    rw [maskUp_succ hy]
    have e1 : 2 ^ (p + 1) ≤ 2 ^ n := Nat.pow_le_pow_right (by omega) (by omega)
    rw [Nat.pow_succ] at e1
    omega
theorem mask_end {xs : List Int} {m : Int} (h : subSoFar xs m xs.length) (hm : m ≤ 20) : ∀ k, k ≤ xs.length → maskUp xs k < 2 ^ 20 := by
  intro k hk
  cases k with
  | zero => rw [maskUp_zero]; decide
  | succ k =>
    have hy : xs[k]? = some xs[k] := List.getElem?_eq_getElem (by omega)
    have hb := sub_at h k _ hy
    obtain ⟨p, hp⟩ : ∃ p : Nat, xs[k] = p := ⟨xs[k].toNat, by omega⟩
    rw [hp] at hy hb
    have i := mask_lt h k p hy
    rw [maskUp_succ hy]
    have e1 : 2 ^ (p + 1) ≤ 2 ^ 20 := Nat.pow_le_pow_right (by omega) (by omega)
    rw [Nat.pow_succ] at e1
    omega
theorem or_two_pow {a n : Nat} (h : a < 2 ^ n) (hn : n ≤ 30) : bits .or .i64 (a : Int) ((2 : Int) ^ n) = ((a + 2 ^ n : Nat) : Int) := by
  have h1 : 2 ^ n ≤ 2 ^ 30 := Nat.pow_le_pow_right (by omega) hn
  have e : (2 : Int) ^ n = ((2 ^ n : Nat) : Int) := by simp
  have h2 := Nat.two_pow_add_eq_or_of_lt h 1
  rw [Nat.mul_one] at h2
  rw [e, i64_or_nat a (2 ^ n) (by omega) (by omega), Nat.or_comm, ← h2, Nat.add_comm]
theorem pow_le20 {n : Nat} (h : n ≤ 30) : (1 : Int) ≤ 2 ^ n ∧ (2 : Int) ^ n ≤ 1073741824 := by
  have h1 : 2 ^ n ≤ 2 ^ 30 := Nat.pow_le_pow_right (by omega) h
  have h2 : 1 ≤ 2 ^ n := Nat.one_le_two_pow
  have e : ((2 ^ n : Nat) : Int) = (2 : Int) ^ n := by simp
  omega
attribute [irreducible] maskUp
def maskR (xs : List Int) : Int := if subB xs 20 then (maskUp xs xs.length : Nat) else -1
theorem maskR_of {xs : List Int} (h : subB xs 20 = true) : maskR xs = (maskUp xs xs.length : Nat) := by simp [maskR, h]
theorem maskR_no {xs : List Int} (h : subB xs 20 = false) : maskR xs = -1 := by simp [maskR, h]


set_option maxHeartbeats 1600000 in
theorem iMaskOf_any (A : Option Addr) (c : Nat) (xs : List Int) (w : World) (hr : Rd w A xs) (hl : xs.length ≤ 1099511627776) :
    Calls Try.prog 16 #[.slice A xs.length c] w fun e w' => e = .returned (.int .i64 (maskR xs)) ∧ w = w' := by
  have W1 := Lib.hid (iSubsetOk_any A c xs 20 w hr hl ⟨by omega, by omega⟩)
  rcases Bool.eq_false_or_eq_true (subB xs 20) with h | h
  · rw [h] at W1
    obtain ⟨_, _, hS⟩ := subB_parts h
    have HSA := Lib.hid (sub_at hS)
    have HB := Lib.hid (mask_end hS (by omega))
    have HLT := Lib.hid (mask_lt hS)
    have hlen := sub_len (by omega) hS
    have HR := Lib.hid (maskR_of h)
    have HRd := Lib.hid hr
    clear h hS hr
    go_enter Try.func16, Try.ntmps16
    go_wp2_with fail
    refine (W1.out).mono ?_
    rintro e w' ⟨rfl, rfl⟩
    go_wp2
    go_loop [3, 11] (fun v i => ∃ k : Nat, k ≤ xs.length ∧ v = .int .i64 (maskUp xs k : Nat) ∧ i = .int .i64 k) (fun _ i => xs.length - (intOf i).toNat)
    case atStart => exact ⟨0, Nat.zero_le _, by rw [maskUp_zero]; rfl, rfl⟩
    case round =>
      obtain ⟨k, hk, rfl, rfl⟩ := hrel
      by_cases hlt : k < xs.length
      · obtain ⟨ad, x, rfl, hx, hc⟩ := HRd.out.at_ hlt
        have bx := HSA.out k x hx.out
        obtain ⟨n, rfl⟩ : ∃ n : Nat, x = n := ⟨x.toNat, by omega⟩
        have HS : Hid (((maskUp xs (k + 1) : Nat) : Int) = (maskUp xs k : Nat) + (2 : Int) ^ n) := by unfold Hid; rw [maskUp_succ hx.out]; simp
        have b1 := HB.out k (by omega)
        have b3 := HLT.out k n hx.out
        have hor := or_two_pow b3 (by omega)
        have hor2 : bits .or .i64 ((maskUp xs k : Nat) : Int) ((2 : Int) ^ n) = (maskUp xs k : Nat) + (2 : Int) ^ n := by rw [hor]; simp
        obtain ⟨p1, p2⟩ := pow_le20 (n := n) (by omega)
        have b4 : maskUp xs k < 1048576 := by simpa using b1
        clear hor b1 b3
        have c0 : (0 : Int) ≤ k := by omega
        have c1 : (k : Int) < xs.length := by omega
        obtain ⟨r, hr⟩ : ∃ r, maskUp xs k = r := ⟨_, rfl⟩
        rw [hr] at HS b4 hor2
        rw [hr]
        clear hr hx
        go_wp2
        go_round
        case rel => exact ⟨k + 1, by omega, by rw [HS.out], by go_num⟩
        case measure => simp [intOf]; omega
      · have hkl : k = xs.length := by omega
        subst hkl
        go_wp2
        go_ret
        exact ⟨ret_int HR.out.symm, rfl⟩
  · rw [h] at W1
    have HR := Lib.hid (maskR_no h)
    clear h
    go_enter Try.func16, Try.ntmps16
    go_wp2_with fail
    refine (W1.out).mono ?_
    rintro e w' ⟨rfl, rfl⟩
    go_wp2
    go_ret
    exact ⟨ret_int HR.out.symm, rfl⟩
theorem iMaskOf_c (w : World) (A : Option Addr) (c : Nat) (xs : List Int) (hr : Rd w A xs) (hl : xs.length ≤ 1048576) (_hb : AllI64 xs) :
    Calls Try.prog 16 #[.slice A xs.length c] w fun e w' => e = .returned (.int .i64 (maskR xs)) ∧ Below w.heap.size w w' :=
  (iMaskOf_any A c xs w hr (by omega)).mono fun e w' ⟨h, k⟩ => ⟨h, by subst k; exact Below.refl _ _⟩


set_option maxHeartbeats 1600000 in
theorem sMaskOf_any (A : Option Addr) (c : Nat) (xs : List Int) (w : World) (hr : Rd w A xs) (hl : xs.length ≤ 1099511627776) :
    Calls Try.prog 14 #[.slice A xs.length c] w fun e w' => e = .returned (.int .i64 (maskR xs)) ∧ w = w' := by
  have W1 := Lib.hid (sSubsetOk_any A c xs 20 w hr hl ⟨by omega, by omega⟩)
  rcases Bool.eq_false_or_eq_true (subB xs 20) with h | h
  · rw [h] at W1
    obtain ⟨_, _, hS⟩ := subB_parts h
    have HSA := Lib.hid (sub_at hS)
    have HB := Lib.hid (mask_end hS (by omega))
    have HLT := Lib.hid (mask_lt hS)
    have hlen := sub_len (by omega) hS
    have HR := Lib.hid (maskR_of h)
    have HRd := Lib.hid hr
    clear h hS hr
    go_enter Try.func14, Try.ntmps14
    go_wp2_with fail
    refine (W1.out).mono ?_
    rintro e w' ⟨rfl, rfl⟩
    go_wp2
    go_loop [3, 11] (fun v i => ∃ k : Nat, k ≤ xs.length ∧ v = .int .i64 (maskUp xs k : Nat) ∧ i = .int .i64 k) (fun _ i => xs.length - (intOf i).toNat)
    case atStart => exact ⟨0, Nat.zero_le _, by rw [maskUp_zero]; rfl, rfl⟩
    case round =>
      obtain ⟨k, hk, rfl, rfl⟩ := hrel
      by_cases hlt : k < xs.length
      · obtain ⟨ad, x, rfl, hx, hc⟩ := HRd.out.at_ hlt
        have bx := HSA.out k x hx.out
        obtain ⟨n, rfl⟩ : ∃ n : Nat, x = n := ⟨x.toNat, by omega⟩
        have HS : Hid (((maskUp xs (k + 1) : Nat) : Int) = (maskUp xs k : Nat) + (2 : Int) ^ n) := by unfold Hid; rw [maskUp_succ hx.out]; simp
        have b1 := HB.out k (by omega)
        have b3 := HLT.out k n hx.out
        have hor := or_two_pow b3 (by omega)
        have hor2 : bits .or .i64 ((maskUp xs k : Nat) : Int) ((2 : Int) ^ n) = (maskUp xs k : Nat) + (2 : Int) ^ n := by rw [hor]; simp
        obtain ⟨p1, p2⟩ := pow_le20 (n := n) (by omega)
        have b4 : maskUp xs k < 1048576 := by simpa using b1
        clear hor b1 b3
        have c0 : (0 : Int) ≤ k := by omega
        have c1 : (k : Int) < xs.length := by omega
        obtain ⟨r, hr⟩ : ∃ r, maskUp xs k = r := ⟨_, rfl⟩
        rw [hr] at HS b4 hor2
        rw [hr]
        clear hr hx
        go_wp2
        go_round
        case rel => exact ⟨k + 1, by omega, by rw [HS.out], by go_num⟩
        case measure => simp [intOf]; omega
      · have hkl : k = xs.length := by omega
        subst hkl
        go_wp2
        go_ret
        exact ⟨ret_int HR.out.symm, rfl⟩
  · rw [h] at W1
    have HR := Lib.hid (maskR_no h)
    clear h
    go_enter Try.func14, Try.ntmps14
    go_wp2_with fail
    refine (W1.out).mono ?_
    rintro e w' ⟨rfl, rfl⟩
    go_wp2
    go_ret
    exact ⟨ret_int HR.out.symm, rfl⟩
theorem sMaskOf_c (w : World) (A : Option Addr) (c : Nat) (xs : List Int) (hr : Rd w A xs) (hl : xs.length ≤ 1048576) (_hb : AllI64 xs) :
    Calls Try.prog 14 #[.slice A xs.length c] w fun e w' => e = .returned (.int .i64 (maskR xs)) ∧ Below w.heap.size w w' :=
  (sMaskOf_any A c xs w hr (by omega)).mono fun e w' ⟨h, k⟩ => ⟨h, by subst k; exact Below.refl _ _⟩

set_option maxRecDepth 100000 in
set_option maxHeartbeats 1600000 in
theorem lMaskOf_law (w : World) (A0 : Option Addr) (c0 : Nat) (xs0 : List Int) (r0 : Rd w A0 xs0) (_m0 : xs0.length ≤ maxLen) (b0 : ∀ x ∈ xs0, -9223372036854775808 ≤ x ∧ x ≤ 9223372036854775807) :
    Calls Try.prog 4 #[.slice A0 xs0.length c0] w fun e w' => e = .returned (.bool true) ∧ Below w.heap.size w w' := by
  have RA0 := Lib.hid r0
  have BA0 : AllI64 xs0 := b0
  clear r0 b0
  by_cases h0 : xs0.length ≤ 1048576
  · skip
    go_enter Try.func4, Try.ntmps4
    go_wp2_with fail
    refine (toIntS_any _ _ _ _ (RA0.out.below (Below.refl w.heap.size w)) h0).mono ?_
    rintro e w1 ⟨A_S0, c_S0, rfl, S0_0, B1⟩
    have L_S0 := fun k hk => (S0_0.lt k hk).1
    have C2 := (Below.refl w.heap.size w).trans (B1.mono (Below.refl w.heap.size w).size)
    go_wp2_with fail
    refine (sMaskOf_c _ _ _ _ S0_0.rd h0 BA0).mono ?_
    rintro e w3 ⟨rfl, B3⟩
    have C4 := C2.trans (B3.mono C2.size)
    have S0_4 := S0_0.below' B3
    go_wp2_with fail
    refine (toIntS_any _ _ _ _ (RA0.out.below C4) h0).mono ?_
    rintro e w5 ⟨A_X0, c_X0, rfl, X0_0, B5⟩
    have L_X0 := fun k hk => (X0_0.lt k hk).1
    have C6 := C4.trans (B5.mono C4.size)
    go_wp2_with fail
    refine (iMaskOf_c _ _ _ _ X0_0.rd h0 BA0).mono ?_
    rintro e w7 ⟨rfl, B7⟩
    have C8 := C6.trans (B7.mono C6.size)
    have X0_8 := X0_0.below' B7
    go_wp2_with fail
    refine (toIntS_any _ _ _ _ (RA0.out.below C8) h0).mono ?_
    rintro e w9 ⟨A_T0, c_T0, rfl, T0_0, B9⟩
    have U_X0_T0 := fun k hk => (X0_8.lt k hk).2
    have L_T0 := fun k hk => (T0_0.lt k hk).1
    have C10 := C8.trans (B9.mono C8.size)
    have X0_10 := X0_8.below' B9
    go_wp2_with fail
    refine (eqIntS_same _ _ _ _ _ _ X0_10.rd T0_0.rd (by omega)).mono ?_
    rintro e w11 ⟨rfl, n11_, rfl⟩
    have C12 := below_drewN C10 n11_
    have X0_12 := X0_10.drewN n11_
    have T0_12 := T0_0.drewN n11_
    go_wp2
    go_ret
    exact ⟨rfl, C12⟩
  · unfold maxLen at _m0
    go_enter Try.func4, Try.ntmps4
    go_wp2
    go_ret
    exact ⟨rfl, Below.refl _ _⟩

end Go.Proofs.Ytepjmlcleggnnaa
