/-
  WALKS: CoinsOk (both packages) and the law over it.
-/
import Derived.Test.YtlhabcpoemcpjaaW3
import Derived.Test.YtlhabcpoemcpjaaW4
import Derived.Test.YtlhabcpoemcpjaaTurn
namespace Go.Proofs.Ytlhabcpoemcpjaa
open Go.RowKit

theorem getD_of {xs : List Int} {i : Nat} {x : Int} (hx : xs[i]? = some x) : xs.getD i 0 = x := by simp [List.getD, hx]
/-- The coin at place i is in order: from 1 to 1000, the first one 1, each greater than the one before. -/
def coinAt (xs : List Int) (i : Nat) : Bool := inB (xs.getD i 0) 1 1000 && (if i = 0 then xs.getD 0 0 == 1 else decide (xs.getD (i - 1) 0 < xs.getD i 0))
def coinsB (xs : List Int) : Bool := inB xs.length 1 10 && (List.range xs.length).all (coinAt xs)
theorem coinAt_zero {xs : List Int} {x : Int} (hx : xs[0]? = some x) : coinAt xs 0 = (inB x 1 1000 && (x == 1)) := by
  simp [coinAt, List.getD, hx]
theorem coinAt_pos {xs : List Int} {k : Nat} {x y : Int} (hk : 0 < k) (hx : xs[k]? = some x) (hy : xs[k - 1]? = some y) : coinAt xs k = (inB x 1 1000 && decide (y < x)) := by
  unfold coinAt
  rw [if_neg (by omega), getD_of hx, getD_of hy]
theorem coinAt_in {xs : List Int} {k : Nat} {x : Int} (hx : xs[k]? = some x) (h : inB x 1 1000 = false) : coinAt xs k = false := by
  unfold coinAt
  rw [getD_of hx, h]
  rfl
theorem coinsB_false {xs : List Int} {k : Nat} (hk : k < xs.length) (h : coinAt xs k = false) : coinsB xs = false := by
  unfold coinsB
  have : (List.range xs.length).all (coinAt xs) = false := by
    rw [List.all_eq_false]
    exact ⟨k, List.mem_range.2 hk, by rw [h]; simp⟩
  rw [this]
  simp
def coinsSoFar (xs : List Int) (k : Nat) : Prop := ∀ i, i < k → coinAt xs i = true
theorem coinsSoFar.step {xs : List Int} {k : Nat} (h : coinsSoFar xs k) (hk : coinAt xs k = true) : coinsSoFar xs (k + 1) := fun j hj => by
  by_cases e : j = k
  · rw [e]; exact hk
  · exact h j (by omega)
theorem coinsB_end {xs : List Int} (h : coinsSoFar xs xs.length) : coinsB xs = inB xs.length 1 10 := by
  unfold coinsB
  have : (List.range xs.length).all (coinAt xs) = true := List.all_eq_true.2 fun j hj => h j (List.mem_range.1 hj)
  rw [this, Bool.and_true]
theorem coinsB_parts {xs : List Int} (h : coinsB xs = true) : 1 ≤ xs.length ∧ xs.length ≤ 10 ∧ (∀ x ∈ xs, (1 : Int) ≤ x ∧ x ≤ 1000) ∧ xs[0]? = some 1 ∧ ∀ i x y, xs[i]? = some x → xs[i + 1]? = some y → x < y := by
  simp only [coinsB, Bool.and_eq_true, List.all_eq_true] at h
  have hl := inB_true h.1
  have hall : ∀ i, i < xs.length → coinAt xs i = true := fun i hi => h.2 i (List.mem_range.2 hi)
  refine ⟨by omega, by omega, fun x hx => ?_, ?_, fun i x y hx hy => ?_⟩
  · obtain ⟨i, hi, rfl⟩ := List.mem_iff_getElem.1 hx
    have := hall i hi
    simp only [coinAt, Bool.and_eq_true] at this
    have h1 := inB_true this.1
    simpa [List.getD, List.getElem?_eq_getElem hi] using h1
  · have h0 : 0 < xs.length := by omega
    have := hall 0 h0
    rw [coinAt_zero (List.getElem?_eq_getElem h0)] at this
    simp only [Bool.and_eq_true, beq_iff_eq] at this
    rw [List.getElem?_eq_getElem h0, this.2]
  · have hi := (List.getElem?_eq_some_iff.1 hy).1
    have := hall (i + 1) hi
    rw [coinAt_pos (by omega) hy (by simpa using hx)] at this
    simp only [Bool.and_eq_true, decide_eq_true_eq] at this
    exact this.2

set_option maxHeartbeats 1600000 in
theorem iCoinsOk_any (A : Option Addr) (c : Nat) (xs : List Int) (w : World) (hr : Rd w A xs) (hl : xs.length ≤ 1099511627776) :
    Calls Try.prog 15 #[.slice A xs.length c] w fun e w' => e = .returned (.bool (coinsB xs)) ∧ w = w' := by
  have HR := Lib.hid hr
  clear hr
  go_enter Try.func15, Try.ntmps15
  go_wp2
  go_loop [7] (fun i => ∃ k : Nat, k ≤ xs.length ∧ i = .int .i64 k ∧ coinsSoFar xs k) (fun i => xs.length - (intOf i).toNat)
  case atStart => exact ⟨0, Nat.zero_le _, rfl, fun j hj => absurd hj (by omega)⟩
  case round =>
    obtain ⟨k, hk, rfl, hS⟩ := hrel
    by_cases hlt : k < xs.length
    · obtain ⟨ad, x, rfl, hx, hc⟩ := HR.out.at_ hlt
      rcases Bool.eq_false_or_eq_true (inB x 1 1000) with h | h
      · by_cases hk0 : k = 0
        · subst hk0
          have hc0 : w.cell? ad = some (.int .i64 x) := by rw [Addr.add_zero'] at hc; exact hc
          have HC := Lib.hid (coinAt_zero hx.out)
          by_cases h1 : x = 1
          · subst h1
            have HK : Hid (coinAt xs 0 = true) := by unfold Hid; rw [HC.out]; rfl
            go_wp2_with (go_at_call 40; refine (within_any _ _ _ _).mono ?_; rintro e w' ⟨rfl, rfl⟩)
            go_round
            case rel => exact ⟨1, by omega, by go_num, hS.step HK.out⟩
            case measure => simp [intOf]; omega
          · have t1 : (x != 1) = true := by simp [h1]
            have HF := Lib.hid (coinsB_false hlt (by rw [HC.out]; simp [h1]))
            clear h1
            go_wp2_with (go_at_call 40; refine (within_any _ _ _ _).mono ?_; rintro e w' ⟨rfl, rfl⟩)
            go_ret
            exact ⟨ret_bool HF.out.symm, rfl⟩
        · have t0 : ((k : Int) == 0) = false := by simp; omega
          have t2 : (0 : Int) < k := by omega
          obtain ⟨ad', y, e, hy, hd⟩ := HR.out.at_ (k := k - 1) (by omega)
          obtain rfl := Option.some.inj e
          have b1 : (1 : Int) ≤ k := by omega
          have HC := Lib.hid (coinAt_pos (by omega) hx.out hy.out)
          clear hk0 e
          by_cases h1 : y < x
          · have HK : Hid (coinAt xs k = true) := by unfold Hid; rw [HC.out, h]; simp [h1]
            go_wp2_with (go_at_call 40; refine (within_any _ _ _ _).mono ?_; rintro e w' ⟨rfl, rfl⟩)
            go_round
            case rel => exact ⟨k + 1, by omega, by go_num, hS.step HK.out⟩
            case measure => simp [intOf]; omega
          · have HF := Lib.hid (coinsB_false hlt (by rw [HC.out]; simp [h1]))
            go_wp2_with (go_at_call 40; refine (within_any _ _ _ _).mono ?_; rintro e w' ⟨rfl, rfl⟩)
            go_ret
            exact ⟨ret_bool HF.out.symm, rfl⟩
      · have HF := Lib.hid (coinsB_false hlt (coinAt_in hx.out h))
        go_wp2_with (go_at_call 40; refine (within_any _ _ _ _).mono ?_; rintro e w' ⟨rfl, rfl⟩)
        go_ret
        exact ⟨ret_bool HF.out.symm, rfl⟩
    · have hkl : k = xs.length := by omega
      subst hkl
      have HE := Lib.hid (coinsB_end hS)
      go_wp2_with (go_at_call 40; refine (within_any _ _ _ _).mono ?_; rintro e w' ⟨rfl, rfl⟩)
      go_ret
      exact ⟨ret_bool HE.out.symm, rfl⟩

set_option maxHeartbeats 1600000 in
theorem sCoinsOk_any (A : Option Addr) (c : Nat) (xs : List Int) (w : World) (hr : Rd w A xs) (hl : xs.length ≤ 1099511627776) :
    Calls Try.prog 13 #[.slice A xs.length c] w fun e w' => e = .returned (.bool (coinsB xs)) ∧ w = w' := by
  have HR := Lib.hid hr
  clear hr
  rcases Bool.eq_false_or_eq_true (inB (xs.length : Int) 1 10) with h10 | h10
  · have hlen := inB_true h10
    obtain ⟨ad, x0, rfl, hx0, hc0⟩ := HR.out.at_ (k := 0) (by omega)
    have hc0' : w.cell? ad = some (.int .i64 x0) := by rw [Addr.add_zero'] at hc0; exact hc0
    have HC0 := Lib.hid (coinAt_zero hx0.out)
    have H10 := Lib.hid h10
    by_cases h1 : x0 = 1
    · subst h1
      go_enter Try.func13, Try.ntmps13
      go_wp2_with (go_at_call 39; refine (l01In_any _ _ _ _).mono ?_; rintro e w' ⟨rfl, rfl⟩)
      go_loop [17] (fun i => ∃ k : Nat, k ≤ xs.length ∧ i = .int .i64 k ∧ coinsSoFar xs k) (fun i => xs.length - (intOf i).toNat)
      case atStart => exact ⟨0, Nat.zero_le _, rfl, fun j hj => absurd hj (by omega)⟩
      case round =>
        obtain ⟨k, hk, rfl, hS⟩ := hrel
        by_cases hlt : k < xs.length
        · obtain ⟨ad', x, e, hx, hc⟩ := HR.out.at_ hlt
          obtain rfl := Option.some.inj e
          clear e
          rcases Bool.eq_false_or_eq_true (inB x 1 1000) with h | h
          · by_cases hk0 : k = 0
            · subst hk0
              have HK : Hid (coinAt xs 0 = true) := by unfold Hid; rw [HC0.out]; rfl
              go_wp2_with (go_at_call 39; refine (l01In_any _ _ _ _).mono ?_; rintro e w' ⟨rfl, rfl⟩)
              go_round
              case rel => exact ⟨1, by omega, by go_num, hS.step HK.out⟩
              case measure => simp [intOf]; omega
            · have t2 : (0 : Int) < k := by omega
              obtain ⟨ad', y, e, hy, hd⟩ := HR.out.at_ (k := k - 1) (by omega)
              obtain rfl := Option.some.inj e
              have b1 : (1 : Int) ≤ k := by omega
              have HC := Lib.hid (coinAt_pos (by omega) hx.out hy.out)
              clear hk0 e
              by_cases h1 : y < x
              · have HK : Hid (coinAt xs k = true) := by unfold Hid; rw [HC.out, h]; simp [h1]
                go_wp2_with (go_at_call 39; refine (l01In_any _ _ _ _).mono ?_; rintro e w' ⟨rfl, rfl⟩)
                go_round
                case rel => exact ⟨k + 1, by omega, by go_num, hS.step HK.out⟩
                case measure => simp [intOf]; omega
              · have HF := Lib.hid (coinsB_false hlt (by rw [HC.out]; simp [h1]))
                go_wp2_with (go_at_call 39; refine (l01In_any _ _ _ _).mono ?_; rintro e w' ⟨rfl, rfl⟩)
                go_ret
                exact ⟨ret_bool HF.out.symm, rfl⟩
          · have HF := Lib.hid (coinsB_false hlt (coinAt_in hx.out h))
            go_wp2_with (go_at_call 39; refine (l01In_any _ _ _ _).mono ?_; rintro e w' ⟨rfl, rfl⟩)
            go_ret
            exact ⟨ret_bool HF.out.symm, rfl⟩
        · have hkl : k = xs.length := by omega
          subst hkl
          have HE : Hid (coinsB xs = true) := by unfold Hid; rw [coinsB_end hS, H10.out]
          go_wp2
          go_ret
          exact ⟨ret_bool HE.out.symm, rfl⟩
    · have t1 : (x0 != 1) = true := by simp [h1]
      have HF := Lib.hid (coinsB_false (xs := xs) (k := 0) (by omega) (by rw [HC0.out]; simp [h1]))
      clear h1
      go_enter Try.func13, Try.ntmps13
      go_wp2_with (go_at_call 39; refine (l01In_any _ _ _ _).mono ?_; rintro e w' ⟨rfl, rfl⟩)
      go_ret
      exact ⟨ret_bool HF.out.symm, rfl⟩
  · go_enter Try.func13, Try.ntmps13
    go_wp2_with (go_at_call 39; refine (l01In_any _ _ _ _).mono ?_; rintro e w' ⟨rfl, rfl⟩)
    go_ret
    exact ⟨ret_bool (by simp [coinsB, h10]), rfl⟩
theorem sCoinsOk_c (w : World) (A : Option Addr) (c : Nat) (xs : List Int) (hr : Rd w A xs) (hl : xs.length ≤ 1048576) (_hb : AllI64 xs) :
    Calls Try.prog 13 #[.slice A xs.length c] w fun e w' => e = .returned (.bool (coinsB xs)) ∧ Below w.heap.size w w' :=
  (sCoinsOk_any A c xs w hr (by omega)).mono fun _ _ ⟨h, e⟩ => ⟨h, e ▸ Below.refl _ _⟩
theorem iCoinsOk_c (w : World) (A : Option Addr) (c : Nat) (xs : List Int) (hr : Rd w A xs) (hl : xs.length ≤ 1048576) (_hb : AllI64 xs) :
    Calls Try.prog 15 #[.slice A xs.length c] w fun e w' => e = .returned (.bool (coinsB xs)) ∧ Below w.heap.size w w' :=
  (iCoinsOk_any A c xs w hr (by omega)).mono fun _ _ ⟨h, e⟩ => ⟨h, e ▸ Below.refl _ _⟩

set_option maxRecDepth 100000 in
set_option maxHeartbeats 1600000 in
theorem lCoinsOk_law (w : World) (A0 : Option Addr) (c0 : Nat) (xs0 : List Int) (r0 : Rd w A0 xs0) (_m0 : xs0.length ≤ maxLen) (b0 : ∀ x ∈ xs0, -9223372036854775808 ≤ x ∧ x ≤ 9223372036854775807) :
    Calls Try.prog 3 #[.slice A0 xs0.length c0] w fun e w' => e = .returned (.bool true) ∧ Below w.heap.size w w' := by
  have RA0 := Lib.hid r0
  have BA0 : AllI64 xs0 := b0
  clear r0 b0
  by_cases h0 : xs0.length ≤ 1048576
  · skip
    go_enter Try.func3, Try.ntmps3
    go_wp2_with fail
    refine (toIntS_any _ _ _ _ (RA0.out.below (Below.refl w.heap.size w)) h0).mono ?_
    rintro e w1 ⟨A_S0, c_S0, rfl, S0_0, B1⟩
    have L_S0 := fun k hk => (S0_0.lt k hk).1
    have C2 := (Below.refl w.heap.size w).trans (B1.mono (Below.refl w.heap.size w).size)
    go_wp2_with fail
    refine (sCoinsOk_c _ _ _ _ S0_0.rd h0 BA0).mono ?_
    rintro e w3 ⟨rfl, B3⟩
    have C4 := C2.trans (B3.mono C2.size)
    have S0_4 := S0_0.below' B3
    go_wp2_with fail
    refine (toIntS_any _ _ _ _ (RA0.out.below C4) h0).mono ?_
    rintro e w5 ⟨A_X0, c_X0, rfl, X0_0, B5⟩
    have L_X0 := fun k hk => (X0_0.lt k hk).1
    have C6 := C4.trans (B5.mono C4.size)
    go_wp2_with fail
    refine (iCoinsOk_c _ _ _ _ X0_0.rd h0 BA0).mono ?_
    rintro e w7 ⟨rfl, B7⟩
    have C8 := C6.trans (B7.mono C6.size)
    have X0_8 := X0_0.below' B7
    go_wp2_with fail
    refine (toIntS_any _ _ _ _ (RA0.out.below C8) h0).mono ?_
    rintro e w9 ⟨A_T0, c_T0, rfl, T0_0, B9⟩
    have U_X0_T0 := fun k hk => (X0_8.lt k hk).2
    have L_T0 := fun k hk => (T0_0.lt k hk).1
    have C10 := C8.trans (B9.mono C8.size)
    have X0_10 := X0_8.below' B9
    go_wp2_with fail
    refine (eqIntS_same _ _ _ _ _ _ X0_10.rd T0_0.rd (by omega)).mono ?_
    rintro e w11 ⟨rfl, n11_, rfl⟩
    have C12 := below_drewN C10 n11_
    have X0_12 := X0_10.drewN n11_
    have T0_12 := T0_0.drewN n11_
    go_wp2
    go_ret
    exact ⟨rfl, C12⟩
  · unfold maxLen at _m0
    go_enter Try.func3, Try.ntmps3
    go_wp2
    go_ret
    exact ⟨rfl, Below.refl _ _⟩

end Go.Proofs.Ytlhabcpoemcpjaa
