/-
  WALKS: FibPlace, FibOk (both packages), endsWell, and the two laws over them.
-/
import Derived.Test.YtlimphfkagdjiaaW3
import Derived.Test.YtlimphfkagdjiaaW4
import Derived.Test.YtlimphfkagdjiaaMath1
namespace Go.Proofs.Ytlimphfkagdjiaa
open Go.RowKit

def fibPlaceR (k : Int) : Int := if inB k 0 58 then ((fibN k.toNat : Nat) : Int) else 0
theorem fibPlaceR_of {k : Nat} (h : k ≤ 58) : fibPlaceR (k : Int) = ((fibN k : Nat) : Int) := by
  have : inB (k : Int) 0 58 = true := inB_of ⟨by omega, by omega⟩
  simp [fibPlaceR, this]


set_option maxHeartbeats 800000 in
theorem sFibPlace_any (k : Int) (w : World) :
    Calls Try.prog 16 #[.int .i64 k] w fun e w' => e = .returned (.int .i64 (fibPlaceR k)) ∧ w = w' := by
  rcases Bool.eq_false_or_eq_true (inB k 0 58) with h | h
  · obtain ⟨b1, b2⟩ := inB_true h
    obtain ⟨m, rfl⟩ := Int.eq_ofNat_of_zero_le b1
    have HR : Hid (fibPlaceR (m : Int) = ((fibN m : Nat) : Int)) := fibPlaceR_of (by omega)
    go_enter Try.func16, Try.ntmps16
    go_wp2_with (go_at_call 47; refine (l01In_any _ _ _ _).mono ?_; rintro e w' ⟨rfl, rfl⟩)
    go_loop [3, 4, 5] (fun a b i => ∃ j : Nat, j ≤ m ∧ i = .int .i64 j ∧ a = .int .i64 (fibN j : Nat) ∧ b = .int .i64 (fibN (j + 1) : Nat)) (fun _ _ i => m - (intOf i).toNat)
    case atStart => exact ⟨0, Nat.zero_le _, rfl, rfl, rfl⟩
    case round =>
      obtain ⟨j, hj, rfl, rfl, rfl⟩ := hrel
      have l1 := fibN_le (n := j) (by omega)
      have l2 := fibN_le (n := j + 1) (by omega)
      have HA := Lib.hid (fibN_add j)
      obtain ⟨x, hx⟩ : ∃ x, fibN j = x := ⟨_, rfl⟩
      obtain ⟨y, hy⟩ : ∃ y, fibN (j + 1) = y := ⟨_, rfl⟩
      rw [hx] at l1
      rw [hy] at l2
      rw [hx, hy] at HA
      rw [hx, hy]
      have HX := Lib.hid hx
      have HY := Lib.hid hy
      clear hx hy
      by_cases hlt : j < m
      · go_wp2
        go_round
        case rel => exact ⟨j + 1, by omega, by go_num, by rw [HY.out], by rw [show j + 1 + 1 = j + 2 from rfl, HA.out]; go_num⟩
        case measure => simp [intOf]; omega
      · have hkl : j = m := by omega
        subst hkl
        go_wp2
        go_ret
        exact ⟨ret_int (by rw [HR.out, HX.out]), rfl⟩
  · have HR : Hid (fibPlaceR k = 0) := by unfold Hid; simp [fibPlaceR, h]
    go_enter Try.func16, Try.ntmps16
    go_wp2_with (go_at_call 47; refine (l01In_any _ _ _ _).mono ?_; rintro e w' ⟨rfl, rfl⟩)
    go_ret
    exact ⟨ret_int HR.out.symm, rfl⟩
theorem sFibPlace_c (w : World) (k : Int) (_hb : I64 k) :
    Calls Try.prog 16 #[.int .i64 k] w fun e w' => e = .returned (.int .i64 (fibPlaceR k)) ∧ Below w.heap.size w w' :=
  (sFibPlace_any k w).mono fun _ _ ⟨h, e⟩ => ⟨h, e ▸ Below.refl _ _⟩


set_option maxHeartbeats 800000 in
theorem iFibPlace_any (k : Int) (w : World) :
    Calls Try.prog 17 #[.int .i64 k] w fun e w' => e = .returned (.int .i64 (fibPlaceR k)) ∧ w = w' := by
  rcases Bool.eq_false_or_eq_true (inB k 0 58) with h | h
  · obtain ⟨b1, b2⟩ := inB_true h
    obtain ⟨m, rfl⟩ := Int.eq_ofNat_of_zero_le b1
    have HR : Hid (fibPlaceR (m : Int) = ((fibN m : Nat) : Int)) := fibPlaceR_of (by omega)
    go_enter Try.func17, Try.ntmps17
    go_wp2_with (go_at_call 48; refine (within_any _ _ _ _).mono ?_; rintro e w' ⟨rfl, rfl⟩)
    go_loop [3, 4, 9] (fun a b i => ∃ j : Nat, j ≤ m ∧ i = .int .i64 j ∧ a = .int .i64 (fibN j : Nat) ∧ b = .int .i64 (fibN (j + 1) : Nat)) (fun _ _ i => m - (intOf i).toNat)
    case atStart => exact ⟨0, Nat.zero_le _, rfl, rfl, rfl⟩
    case round =>
      obtain ⟨j, hj, rfl, rfl, rfl⟩ := hrel
      have l1 := fibN_le (n := j) (by omega)
      have l2 := fibN_le (n := j + 1) (by omega)
      have HA := Lib.hid (fibN_add j)
      obtain ⟨x, hx⟩ : ∃ x, fibN j = x := ⟨_, rfl⟩
      obtain ⟨y, hy⟩ : ∃ y, fibN (j + 1) = y := ⟨_, rfl⟩
      rw [hx] at l1
      rw [hy] at l2
      rw [hx, hy] at HA
      rw [hx, hy]
      have HX := Lib.hid hx
      have HY := Lib.hid hy
      clear hx hy
      by_cases hlt : j < m
      · go_wp2
        go_round
        case rel => exact ⟨j + 1, by omega, by go_num, by rw [HY.out], by rw [show j + 1 + 1 = j + 2 from rfl, HA.out]; go_num⟩
        case measure => simp [intOf]; omega
      · have hkl : j = m := by omega
        subst hkl
        go_wp2
        go_ret
        exact ⟨ret_int (by rw [HR.out, HX.out]), rfl⟩
  · have HR : Hid (fibPlaceR k = 0) := by unfold Hid; simp [fibPlaceR, h]
    go_enter Try.func17, Try.ntmps17
    go_wp2_with (go_at_call 48; refine (within_any _ _ _ _).mono ?_; rintro e w' ⟨rfl, rfl⟩)
    go_ret
    exact ⟨ret_int HR.out.symm, rfl⟩
theorem iFibPlace_c (w : World) (k : Int) (_hb : I64 k) :
    Calls Try.prog 17 #[.int .i64 k] w fun e w' => e = .returned (.int .i64 (fibPlaceR k)) ∧ Below w.heap.size w w' :=
  (iFibPlace_any k w).mono fun _ _ ⟨h, e⟩ => ⟨h, e ▸ Below.refl _ _⟩

set_option maxRecDepth 100000 in
set_option maxHeartbeats 1600000 in
theorem lFibPlace_law (w : World) (n0 : Int) (b0 : -9223372036854775808 ≤ n0 ∧ n0 ≤ 9223372036854775807) :
    Calls Try.prog 3 #[.int .i64 n0] w fun e w' => e = .returned (.bool true) ∧ Below w.heap.size w w' := by
  have BA0 : I64 n0 := b0
  clear b0
  go_enter Try.func3, Try.ntmps3
  go_wp2_with fail
  refine (sFibPlace_c _ _ BA0).mono ?_
  rintro e w1 ⟨rfl, B1⟩
  have C2 := (Below.refl w.heap.size w).trans (B1.mono (Below.refl w.heap.size w).size)
  go_wp2_with fail
  refine (iFibPlace_c _ _ BA0).mono ?_
  rintro e w3 ⟨rfl, B3⟩
  have C4 := C2.trans (B3.mono C2.size)
  go_wp2
  go_ret
  exact ⟨rfl, C4⟩


/-- The last number is not 0 (or there is none). -/
def endB (xs : List Int) : Bool := xs.getLast? != some 0
theorem endB_nil : endB [] = true := rfl
theorem endB_last {xs : List Int} {x : Int} (hx : xs[xs.length - 1]? = some x) : endB xs = (x != 0) := by
  unfold endB
  rw [List.getLast?_eq_getElem?, hx]
  rw [Bool.eq_iff_iff]
  simp
def fibOkB (xs : List Int) : Bool := decide (xs.length ≤ 58) && endB xs && allB xs 0 1

set_option maxHeartbeats 800000 in
theorem endsWell_any (A : Option Addr) (c : Nat) (xs : List Int) (w : World) (hr : Rd w A xs) (hl : xs.length ≤ 1099511627776) :
    Calls Try.prog 49 #[.slice A xs.length c] w fun e w' => e = .returned (.bool (decide (xs.length ≤ 60) && endB xs)) ∧ w = w' := by
  by_cases h0 : xs = []
  · subst h0
    go_enter Try.func49, Try.ntmps49
    go_wp2
    go_ret
    exact ⟨rfl, rfl⟩
  · have hp : 0 < xs.length := List.length_pos_iff.2 h0
    obtain ⟨ad, x, rfl, hx, hc⟩ := hr.at_ (k := xs.length - 1) (by omega)
    have HE := Lib.hid (endB_last hx.out)
    have t1 : ((xs.length : Int) == 0) = false := by simp; omega
    clear hr h0
    by_cases h60 : xs.length ≤ 60
    · go_enter Try.func49, Try.ntmps49
      go_wp2
      go_ret
      exact ⟨ret_bool (by rw [HE.out]; simp [h60]), rfl⟩
    · go_enter Try.func49, Try.ntmps49
      go_wp2
      go_ret
      exact ⟨ret_bool (by simp ), rfl⟩

set_option maxHeartbeats 800000 in
theorem iFibOk_c (w : World) (A : Option Addr) (c : Nat) (xs : List Int) (hr : Rd w A xs) (hl : xs.length ≤ 1048576) (_hb : AllI64 xs) :
    Calls Try.prog 20 #[.slice A xs.length c] w fun e w' => e = .returned (.bool (fibOkB xs)) ∧ Below w.heap.size w w' := by
  by_cases h58 : xs.length ≤ 58
  · have t1 : decide ((xs.length : Int) ≤ 58) = true := by simp; omega
    have HF : Hid (fibOkB xs = (endB xs && allB xs 0 1)) := by unfold Hid; simp [fibOkB, h58]
    have HD : Hid (decide (xs.length ≤ 60) = true) := by unfold Hid; simp; omega
    rcases Bool.eq_false_or_eq_true (endB xs) with h | h
    · go_enter Try.func20, Try.ntmps20
      go_wp2_with fail
      refine (endsWell_any _ _ _ _ hr (by omega)).mono ?_
      rintro e w' ⟨rfl, rfl⟩
      rw [HD.out, h]
      go_wp2_with fail
      refine (allWithin_any _ _ _ _ _ _ hr (by omega)).mono ?_
      rintro e w' ⟨rfl, hB⟩
      go_wp2
      go_ret
      exact ⟨ret_bool (by rw [HF.out, h]; rfl), hB⟩
    · go_enter Try.func20, Try.ntmps20
      go_wp2_with fail
      refine (endsWell_any _ _ _ _ hr (by omega)).mono ?_
      rintro e w' ⟨rfl, rfl⟩
      rw [HD.out, h]
      go_wp2
      go_ret
      exact ⟨ret_bool (by rw [HF.out, h]; rfl), Below.refl _ _⟩
  · go_enter Try.func20, Try.ntmps20
    go_wp2
    go_ret
    exact ⟨ret_bool (by simp [fibOkB, h58]), Below.refl _ _⟩

set_option maxHeartbeats 800000 in
theorem sFibOk_any (w : World) (A : Option Addr) (c : Nat) (xs : List Int) (hr : Rd w A xs) (hl : xs.length ≤ 1099511627776) :
    Calls Try.prog 18 #[.slice A xs.length c] w fun e w' => e = .returned (.bool (fibOkB xs)) ∧ w = w' := by
  have HR := Lib.hid hr
  clear hr
  by_cases h58 : xs.length ≤ 58
  · go_enter Try.func18, Try.ntmps18
    go_wp2
    go_loop [10] (fun i => ∃ k : Nat, k ≤ xs.length ∧ i = .int .i64 k ∧ Hid (allB (xs.take k) 0 1 = true)) (fun i => xs.length - (intOf i).toNat)
    case atStart => exact ⟨0, Nat.zero_le _, rfl, (rfl : allB (xs.take 0) 0 1 = true)⟩
    case round =>
      obtain ⟨k, hk, rfl, hall⟩ := hrel
      by_cases hlt : k < xs.length
      · obtain ⟨ad, x, rfl, hx, hc⟩ := HR.out.at_ hlt
        rcases Bool.eq_false_or_eq_true (inB x 0 1) with h | h
        · go_wp2_with (go_at_call 47; refine (l01In_any _ _ _ _).mono ?_; rintro e w' ⟨rfl, rfl⟩)
          go_round
          case rel => exact ⟨k + 1, by omega, by go_num, by unfold Hid; rw [allB_take_succ _ _ _ _ _ hx.out, hall.out, h]; rfl⟩
          case measure => simp [intOf]; omega
        · go_wp2_with (go_at_call 47; refine (l01In_any _ _ _ _).mono ?_; rintro e w' ⟨rfl, rfl⟩)
          go_ret
          exact ⟨ret_bool (by simp [fibOkB, allB_not hx.out h]), rfl⟩
      · have hkl : k = xs.length := by omega
        subst hkl
        have ha := hall.out
        rw [List.take_length] at ha
        clear hall
        by_cases h0 : xs = []
        · subst h0
          go_wp2
          go_ret
          exact ⟨rfl, rfl⟩
        · have hp : 0 < xs.length := List.length_pos_iff.2 h0
          obtain ⟨ad, x, rfl, hx, hc⟩ := HR.out.at_ (k := xs.length - 1) (by omega)
          have HE := Lib.hid (endB_last hx.out)
          have t1 : ((xs.length : Int) == 0) = false := by simp; omega
          have HA := Lib.hid ha
          clear ha h0
          go_wp2
          go_ret
          exact ⟨ret_bool (by simp [fibOkB, HE.out, HA.out, h58]), rfl⟩
  · go_enter Try.func18, Try.ntmps18
    go_wp2
    go_ret
    exact ⟨ret_bool (by simp [fibOkB, h58]), rfl⟩
theorem sFibOk_c (w : World) (A : Option Addr) (c : Nat) (xs : List Int) (hr : Rd w A xs) (hl : xs.length ≤ 1048576) (_hb : AllI64 xs) :
    Calls Try.prog 18 #[.slice A xs.length c] w fun e w' => e = .returned (.bool (fibOkB xs)) ∧ Below w.heap.size w w' :=
  (sFibOk_any w A c xs hr (by omega)).mono fun _ _ ⟨h, e⟩ => ⟨h, e ▸ Below.refl _ _⟩

set_option maxRecDepth 100000 in
set_option maxHeartbeats 1600000 in
theorem lFibOk_law (w : World) (A0 : Option Addr) (c0 : Nat) (xs0 : List Int) (r0 : Rd w A0 xs0) (_m0 : xs0.length ≤ maxLen) (b0 : ∀ x ∈ xs0, -9223372036854775808 ≤ x ∧ x ≤ 9223372036854775807) :
    Calls Try.prog 4 #[.slice A0 xs0.length c0] w fun e w' => e = .returned (.bool true) ∧ Below w.heap.size w w' := by
  have RA0 := Lib.hid r0
  have BA0 : AllI64 xs0 := b0
  clear r0 b0
  by_cases h0 : xs0.length ≤ 1048576
  · skip
    go_enter Try.func4, Try.ntmps4
    go_wp2_with fail
    refine (toIntS_any _ _ _ _ (RA0.out.below (Below.refl w.heap.size w)) h0).mono ?_
    rintro e w1 ⟨A_S0, c_S0, rfl, S0_0, B1⟩
    have L_S0 := fun k hk => (S0_0.lt k hk).1
    have C2 := (Below.refl w.heap.size w).trans (B1.mono (Below.refl w.heap.size w).size)
    go_wp2_with fail
    refine (sFibOk_c _ _ _ _ S0_0.rd h0 BA0).mono ?_
    rintro e w3 ⟨rfl, B3⟩
    have C4 := C2.trans (B3.mono C2.size)
    have S0_4 := S0_0.below' B3
    go_wp2_with fail
    refine (toIntS_any _ _ _ _ (RA0.out.below C4) h0).mono ?_
    rintro e w5 ⟨A_X0, c_X0, rfl, X0_0, B5⟩
    have L_X0 := fun k hk => (X0_0.lt k hk).1
    have C6 := C4.trans (B5.mono C4.size)
    go_wp2_with fail
    refine (iFibOk_c _ _ _ _ X0_0.rd h0 BA0).mono ?_
    rintro e w7 ⟨rfl, B7⟩
    have C8 := C6.trans (B7.mono C6.size)
    have X0_8 := X0_0.below' B7
    go_wp2_with fail
    refine (toIntS_any _ _ _ _ (RA0.out.below C8) h0).mono ?_
    rintro e w9 ⟨A_T0, c_T0, rfl, T0_0, B9⟩
    have U_X0_T0 := fun k hk => (X0_8.lt k hk).2
    have L_T0 := fun k hk => (T0_0.lt k hk).1
    have C10 := C8.trans (B9.mono C8.size)
    have X0_10 := X0_8.below' B9
    go_wp2_with fail
    refine (eqIntS_same _ _ _ _ _ _ X0_10.rd T0_0.rd (by omega)).mono ?_
    rintro e w11 ⟨rfl, n11_, rfl⟩
    have C12 := below_drewN C10 n11_
    have X0_12 := X0_10.drewN n11_
    have T0_12 := T0_0.drewN n11_
    go_wp2
    go_ret
    exact ⟨rfl, C12⟩
  · unfold maxLen at _m0
    go_enter Try.func4, Try.ntmps4
    go_wp2
    go_ret
    exact ⟨rfl, Below.refl _ _⟩

end Go.Proofs.Ytlimphfkagdjiaa
