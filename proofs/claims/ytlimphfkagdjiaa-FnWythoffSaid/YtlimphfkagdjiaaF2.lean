/-
  WALKS: hasTwice, IsSparseFib, IsDenseFib, FibValue (both packages), and the three laws over them.
-/
import Derived.Test.YtlimphfkagdjiaaF1
namespace Go.Proofs.Ytlimphfkagdjiaa
open Go.RowKit

/-- Among the first k places one holds d and the one before it too. -/
def twUp (xs : List Int) (d : Int) (k : Nat) : Bool := (List.range k).any fun i => decide (0 < i) && (xs[i]? == some d) && (xs[i - 1]? == some d)
def twB (xs : List Int) (d : Int) : Bool := twUp xs d xs.length
theorem twUp_succ (xs : List Int) (d : Int) (k : Nat) : twUp xs d (k + 1) = (twUp xs d k || (decide (0 < k) && (xs[k]? == some d) && (xs[k - 1]? == some d))) := by
  simp [twUp, List.range_succ]
theorem twUp_mono {xs : List Int} {d : Int} {k m : Nat} (h : k ≤ m) (hm : twUp xs d m = false) : twUp xs d k = false := by
  unfold twUp at hm ⊢
  rw [List.any_eq_false] at hm ⊢
  intro i hi
  exact hm i (List.mem_range.2 (by have := List.mem_range.1 hi; omega))
theorem twB_true {xs : List Int} {d : Int} {k : Nat} {x y : Int} (h0 : 0 < k) (hx : xs[k]? = some x) (hy : xs[k - 1]? = some y) (ex : x = d) (ey : y = d) : twB xs d = true := by
  have hk := (List.getElem?_eq_some_iff.1 hx).1
  unfold twB twUp
  rw [List.any_eq_true]
  exact ⟨k, List.mem_range.2 hk, by simp [h0, hx, hy, ex, ey]⟩
theorem tw_step {xs : List Int} {d : Int} {k : Nat} (h : twUp xs d k = false) (hn : ¬ (0 < k ∧ xs[k]? = some d ∧ xs[k - 1]? = some d)) : twUp xs d (k + 1) = false := by
  rw [twUp_succ, h, Bool.false_or]
  rw [Bool.eq_false_iff]
  intro hc
  simp only [Bool.and_eq_true, decide_eq_true_eq, beq_iff_eq] at hc
  exact hn ⟨hc.1.1, hc.1.2, hc.2⟩

set_option maxHeartbeats 1600000 in
theorem hasTwice_any (A : Option Addr) (c : Nat) (xs : List Int) (d : Int) (w : World) (hr : Rd w A xs) (hl : xs.length ≤ 1099511627776) :
    Calls Try.prog 52 #[.slice A xs.length c, .int .i64 d] w fun e w' => e = .returned (.bool (twB xs d)) ∧ w = w' := by
  have HR := Lib.hid hr
  clear hr
  go_enter Try.func52, Try.ntmps52
  go_wp2
  go_loop [5] (fun i => ∃ k : Nat, 1 ≤ k ∧ (k ≤ xs.length ∨ k = 1) ∧ i = .int .i64 k ∧ Hid (twUp xs d k = false)) (fun i => xs.length - (intOf i).toNat)
  case atStart => exact ⟨1, by omega, Or.inr rfl, rfl, (rfl : twUp xs d 1 = false)⟩
  case round =>
    obtain ⟨k, hk1, hk, rfl, hall⟩ := hrel
    by_cases hlt : k < xs.length
    · obtain ⟨ad, x, rfl, hx, hc⟩ := HR.out.at_ hlt
      obtain ⟨ad', y, e, hy, hc'⟩ := HR.out.at_ (k := k - 1) (by omega)
      obtain rfl := Option.some.inj e
      have b1 : (1 : Int) ≤ k := by omega
      have b2 : (k : Int) ≤ 1099511627776 := by omega
      have b3 : (k : Int) < xs.length := by omega
      clear hk e
      by_cases ex : x = d
      · have t1 : (x == d) = true := by simp [ex]
        have EX := Lib.hid ex
        clear ex
        by_cases ey : y = d
        · have t2 : (y == d) = true := by simp [ey]
          have HT := Lib.hid (twB_true (by omega) hx.out hy.out EX.out ey)
          clear ey
          go_wp2
          go_ret
          exact ⟨ret_bool HT.out.symm, rfl⟩
        · have t2 : (y == d) = false := by simp [ey]
          have HN := Lib.hid (tw_step hall.out (fun h => ey (Option.some.inj (hy.out.symm.trans h.2.2))))
          clear ey
          go_wp2
          go_round
          case rel => exact ⟨k + 1, by omega, Or.inl (by omega), by go_num, HN⟩
          case measure => simp [intOf]; omega
      · have t1 : (x == d) = false := by simp [ex]
        have HN := Lib.hid (tw_step hall.out (fun h => ex (Option.some.inj (hx.out.symm.trans h.2.1))))
        clear ex
        go_wp2
        go_round
        case rel => exact ⟨k + 1, by omega, Or.inl (by omega), by go_num, HN⟩
        case measure => simp [intOf]; omega
    · have HT := Lib.hid (twUp_mono (k := xs.length) (m := k) (by omega) hall.out)
      clear hk
      go_wp2
      go_ret
      exact ⟨ret_bool HT.out.symm, rfl⟩

set_option maxHeartbeats 1600000 in
theorem l10Pairs_any (A : Option Addr) (c : Nat) (xs : List Int) (d : Int) (w : World) (hr : Rd w A xs) (hl : xs.length ≤ 1099511627776) :
    Calls Try.prog 51 #[.slice A xs.length c, .int .i64 d] w fun e w' => e = .returned (.bool (twB xs d)) ∧ w = w' := by
  have HR := Lib.hid hr
  clear hr
  go_enter Try.func51, Try.ntmps51
  go_wp2
  go_loop [9] (fun i => ∃ k : Nat, k ≤ xs.length ∧ i = .int .i64 k ∧ Hid (twUp xs d k = false)) (fun i => xs.length - (intOf i).toNat)
  case atStart => exact ⟨0, Nat.zero_le _, rfl, (rfl : twUp xs d 0 = false)⟩
  case round =>
    obtain ⟨k, hk, rfl, hall⟩ := hrel
    by_cases hlt : k < xs.length
    · obtain ⟨ad, x, rfl, hx, hc⟩ := HR.out.at_ hlt
      by_cases h0 : 0 < k
      · obtain ⟨ad', y, e, hy, hc'⟩ := HR.out.at_ (k := k - 1) (by omega)
        obtain rfl := Option.some.inj e
        clear e
        have b1 : (1 : Int) ≤ k := by omega
        by_cases ex : x = d
        · have t1 : (x == d) = true := by simp [ex]
          have EX := Lib.hid ex
          clear ex
          by_cases ey : y = d
          · have t2 : (y == d) = true := by simp [ey]
            have HT := Lib.hid (twB_true (by omega) hx.out hy.out EX.out ey)
            clear ey
            go_wp2
            go_ret
            exact ⟨ret_bool HT.out.symm, rfl⟩
          · have t2 : (y == d) = false := by simp [ey]
            have HN := Lib.hid (tw_step hall.out (fun h => ey (Option.some.inj (hy.out.symm.trans h.2.2))))
            clear ey
            go_wp2
            go_round
            case rel => exact ⟨k + 1, by omega, by go_num, HN⟩
            case measure => simp [intOf]; omega
        · have t1 : (x == d) = false := by simp [ex]
          have HN := Lib.hid (tw_step hall.out (fun h => ex (Option.some.inj (hx.out.symm.trans h.2.1))))
          clear ex
          go_wp2
          go_round
          case rel => exact ⟨k + 1, by omega, by go_num, HN⟩
          case measure => simp [intOf]; omega
      · have HN := Lib.hid (tw_step hall.out (fun h => h0 h.1))
        go_wp2
        go_round
        case rel => exact ⟨k + 1, by omega, by go_num, HN⟩
        case measure => simp [intOf]; omega
    · have hkl : k = xs.length := by omega
      subst hkl
      go_wp2
      go_ret
      exact ⟨ret_bool hall.out.symm, rfl⟩

theorem ret_tuple_int {a b : Int} {c d : Bool} (h : a = b) (k : c = d) : Ending.returned (.tuple #[.int .i64 a, .bool c]) = .returned (.tuple #[.int .i64 b, .bool d]) := by rw [h, k]

def isSparseFibB (xs : List Int) : Bool := fibOkB xs && !(twB xs 1)

theorem sIsSparseFib_c (w : World) (A : Option Addr) (c : Nat) (xs : List Int) (hr : Rd w A xs) (hl : xs.length ≤ 1048576) (hb : AllI64 xs) :
    Calls Try.prog 24 #[.slice A xs.length c] w fun e w' => e = .returned (.bool (isSparseFibB xs)) ∧ Below w.heap.size w w' := by
  rcases Bool.eq_false_or_eq_true (fibOkB xs) with h | h
  · go_enter Try.func24, Try.ntmps24
    go_wp2_with fail
    refine (sFibOk_c _ _ _ _ hr hl hb).mono ?_
    rintro e w1 ⟨rfl, B1⟩
    have R1 := hr.below B1
    go_wp2_with fail
    refine (l10Pairs_any _ _ _ _ _ R1 (by omega)).mono ?_
    rintro e w2 ⟨rfl, rfl⟩
    go_wp2
    go_ret
    exact ⟨ret_bool (by simp [isSparseFibB, h]), B1⟩
  · go_enter Try.func24, Try.ntmps24
    go_wp2_with fail
    refine (sFibOk_c _ _ _ _ hr hl hb).mono ?_
    rintro e w1 ⟨rfl, B1⟩
    go_wp2
    go_ret
    exact ⟨ret_bool (by simp [isSparseFibB, h]), B1⟩


theorem iIsSparseFib_c (w : World) (A : Option Addr) (c : Nat) (xs : List Int) (hr : Rd w A xs) (hl : xs.length ≤ 1048576) (hb : AllI64 xs) :
    Calls Try.prog 25 #[.slice A xs.length c] w fun e w' => e = .returned (.bool (isSparseFibB xs)) ∧ Below w.heap.size w w' := by
  rcases Bool.eq_false_or_eq_true (fibOkB xs) with h | h
  · go_enter Try.func25, Try.ntmps25
    go_wp2_with fail
    refine (iFibOk_c _ _ _ _ hr hl hb).mono ?_
    rintro e w1 ⟨rfl, B1⟩
    have R1 := hr.below B1
    go_wp2_with fail
    refine (hasTwice_any _ _ _ _ _ R1 (by omega)).mono ?_
    rintro e w2 ⟨rfl, rfl⟩
    go_wp2
    go_ret
    exact ⟨ret_bool (by simp [isSparseFibB, h]), B1⟩
  · go_enter Try.func25, Try.ntmps25
    go_wp2_with fail
    refine (iFibOk_c _ _ _ _ hr hl hb).mono ?_
    rintro e w1 ⟨rfl, B1⟩
    go_wp2
    go_ret
    exact ⟨ret_bool (by simp [isSparseFibB, h]), B1⟩

set_option maxRecDepth 100000 in
set_option maxHeartbeats 1600000 in
theorem lIsSparseFib_law (w : World) (A0 : Option Addr) (c0 : Nat) (xs0 : List Int) (r0 : Rd w A0 xs0) (_m0 : xs0.length ≤ maxLen) (b0 : ∀ x ∈ xs0, -9223372036854775808 ≤ x ∧ x ≤ 9223372036854775807) :
    Calls Try.prog 6 #[.slice A0 xs0.length c0] w fun e w' => e = .returned (.bool true) ∧ Below w.heap.size w w' := by
  have RA0 := Lib.hid r0
  have BA0 : AllI64 xs0 := b0
  clear r0 b0
  by_cases h0 : xs0.length ≤ 1048576
  · skip
    go_enter Try.func6, Try.ntmps6
    go_wp2_with fail
    refine (toIntS_any _ _ _ _ (RA0.out.below (Below.refl w.heap.size w)) h0).mono ?_
    rintro e w1 ⟨A_S0, c_S0, rfl, S0_0, B1⟩
    have L_S0 := fun k hk => (S0_0.lt k hk).1
    have C2 := (Below.refl w.heap.size w).trans (B1.mono (Below.refl w.heap.size w).size)
    go_wp2_with fail
    refine (sIsSparseFib_c _ _ _ _ S0_0.rd h0 BA0).mono ?_
    rintro e w3 ⟨rfl, B3⟩
    have C4 := C2.trans (B3.mono C2.size)
    have S0_4 := S0_0.below' B3
    go_wp2_with fail
    refine (toIntS_any _ _ _ _ (RA0.out.below C4) h0).mono ?_
    rintro e w5 ⟨A_X0, c_X0, rfl, X0_0, B5⟩
    have L_X0 := fun k hk => (X0_0.lt k hk).1
    have C6 := C4.trans (B5.mono C4.size)
    go_wp2_with fail
    refine (iIsSparseFib_c _ _ _ _ X0_0.rd h0 BA0).mono ?_
    rintro e w7 ⟨rfl, B7⟩
    have C8 := C6.trans (B7.mono C6.size)
    have X0_8 := X0_0.below' B7
    go_wp2_with fail
    refine (toIntS_any _ _ _ _ (RA0.out.below C8) h0).mono ?_
    rintro e w9 ⟨A_T0, c_T0, rfl, T0_0, B9⟩
    have U_X0_T0 := fun k hk => (X0_8.lt k hk).2
    have L_T0 := fun k hk => (T0_0.lt k hk).1
    have C10 := C8.trans (B9.mono C8.size)
    have X0_10 := X0_8.below' B9
    go_wp2_with fail
    refine (eqIntS_same _ _ _ _ _ _ X0_10.rd T0_0.rd (by omega)).mono ?_
    rintro e w11 ⟨rfl, n11_, rfl⟩
    have C12 := below_drewN C10 n11_
    have X0_12 := X0_10.drewN n11_
    have T0_12 := T0_0.drewN n11_
    go_wp2
    go_ret
    exact ⟨rfl, C12⟩
  · unfold maxLen at _m0
    go_enter Try.func6, Try.ntmps6
    go_wp2
    go_ret
    exact ⟨rfl, Below.refl _ _⟩

def isDenseFibB (xs : List Int) : Bool := fibOkB xs && !(twB xs 0)

theorem sIsDenseFib_c (w : World) (A : Option Addr) (c : Nat) (xs : List Int) (hr : Rd w A xs) (hl : xs.length ≤ 1048576) (hb : AllI64 xs) :
    Calls Try.prog 22 #[.slice A xs.length c] w fun e w' => e = .returned (.bool (isDenseFibB xs)) ∧ Below w.heap.size w w' := by
  rcases Bool.eq_false_or_eq_true (fibOkB xs) with h | h
  · go_enter Try.func22, Try.ntmps22
    go_wp2_with fail
    refine (sFibOk_c _ _ _ _ hr hl hb).mono ?_
    rintro e w1 ⟨rfl, B1⟩
    have R1 := hr.below B1
    go_wp2_with fail
    refine (l10Pairs_any _ _ _ _ _ R1 (by omega)).mono ?_
    rintro e w2 ⟨rfl, rfl⟩
    go_wp2
    go_ret
    exact ⟨ret_bool (by simp [isDenseFibB, h]), B1⟩
  · go_enter Try.func22, Try.ntmps22
    go_wp2_with fail
    refine (sFibOk_c _ _ _ _ hr hl hb).mono ?_
    rintro e w1 ⟨rfl, B1⟩
    go_wp2
    go_ret
    exact ⟨ret_bool (by simp [isDenseFibB, h]), B1⟩


theorem iIsDenseFib_c (w : World) (A : Option Addr) (c : Nat) (xs : List Int) (hr : Rd w A xs) (hl : xs.length ≤ 1048576) (hb : AllI64 xs) :
    Calls Try.prog 23 #[.slice A xs.length c] w fun e w' => e = .returned (.bool (isDenseFibB xs)) ∧ Below w.heap.size w w' := by
  rcases Bool.eq_false_or_eq_true (fibOkB xs) with h | h
  · go_enter Try.func23, Try.ntmps23
    go_wp2_with fail
    refine (iFibOk_c _ _ _ _ hr hl hb).mono ?_
    rintro e w1 ⟨rfl, B1⟩
    have R1 := hr.below B1
    go_wp2_with fail
    refine (hasTwice_any _ _ _ _ _ R1 (by omega)).mono ?_
    rintro e w2 ⟨rfl, rfl⟩
    go_wp2
    go_ret
    exact ⟨ret_bool (by simp [isDenseFibB, h]), B1⟩
  · go_enter Try.func23, Try.ntmps23
    go_wp2_with fail
    refine (iFibOk_c _ _ _ _ hr hl hb).mono ?_
    rintro e w1 ⟨rfl, B1⟩
    go_wp2
    go_ret
    exact ⟨ret_bool (by simp [isDenseFibB, h]), B1⟩

set_option maxRecDepth 100000 in
set_option maxHeartbeats 1600000 in
theorem lIsDenseFib_law (w : World) (A0 : Option Addr) (c0 : Nat) (xs0 : List Int) (r0 : Rd w A0 xs0) (_m0 : xs0.length ≤ maxLen) (b0 : ∀ x ∈ xs0, -9223372036854775808 ≤ x ∧ x ≤ 9223372036854775807) :
    Calls Try.prog 5 #[.slice A0 xs0.length c0] w fun e w' => e = .returned (.bool true) ∧ Below w.heap.size w w' := by
  have RA0 := Lib.hid r0
  have BA0 : AllI64 xs0 := b0
  clear r0 b0
  by_cases h0 : xs0.length ≤ 1048576
  · skip
    go_enter Try.func5, Try.ntmps5
    go_wp2_with fail
    refine (toIntS_any _ _ _ _ (RA0.out.below (Below.refl w.heap.size w)) h0).mono ?_
    rintro e w1 ⟨A_S0, c_S0, rfl, S0_0, B1⟩
    have L_S0 := fun k hk => (S0_0.lt k hk).1
    have C2 := (Below.refl w.heap.size w).trans (B1.mono (Below.refl w.heap.size w).size)
    go_wp2_with fail
    refine (sIsDenseFib_c _ _ _ _ S0_0.rd h0 BA0).mono ?_
    rintro e w3 ⟨rfl, B3⟩
    have C4 := C2.trans (B3.mono C2.size)
    have S0_4 := S0_0.below' B3
    go_wp2_with fail
    refine (toIntS_any _ _ _ _ (RA0.out.below C4) h0).mono ?_
    rintro e w5 ⟨A_X0, c_X0, rfl, X0_0, B5⟩
    have L_X0 := fun k hk => (X0_0.lt k hk).1
    have C6 := C4.trans (B5.mono C4.size)
    go_wp2_with fail
    refine (iIsDenseFib_c _ _ _ _ X0_0.rd h0 BA0).mono ?_
    rintro e w7 ⟨rfl, B7⟩
    have C8 := C6.trans (B7.mono C6.size)
    have X0_8 := X0_0.below' B7
    go_wp2_with fail
    refine (toIntS_any _ _ _ _ (RA0.out.below C8) h0).mono ?_
    rintro e w9 ⟨A_T0, c_T0, rfl, T0_0, B9⟩
    have U_X0_T0 := fun k hk => (X0_8.lt k hk).2
    have L_T0 := fun k hk => (T0_0.lt k hk).1
    have C10 := C8.trans (B9.mono C8.size)
    have X0_10 := X0_8.below' B9
    go_wp2_with fail
    refine (eqIntS_same _ _ _ _ _ _ X0_10.rd T0_0.rd (by omega)).mono ?_
    rintro e w11 ⟨rfl, n11_, rfl⟩
    have C12 := below_drewN C10 n11_
    have X0_12 := X0_10.drewN n11_
    have T0_12 := T0_0.drewN n11_
    go_wp2
    go_ret
    exact ⟨rfl, C12⟩
  · unfold maxLen at _m0
    go_enter Try.func5, Try.ntmps5
    go_wp2
    go_ret
    exact ⟨rfl, Below.refl _ _⟩


/-- The value of the first k digits. -/
def fvUp (xs : List Int) : Nat → Int
  | 0 => 0
  | k + 1 => fvUp xs k + xs.getD k 0 * (fibN k : Nat)
def fibSum (xs : List Int) : Int := fvUp xs xs.length
theorem fv_bound {xs : List Int} (hb : ∀ x ∈ xs, (0 : Int) ≤ x ∧ x ≤ 1) (k : Nat) (h : k ≤ 60) : 0 ≤ fvUp xs k ∧ fvUp xs k ≤ k * 4052739537881 := by
  induction k with
  | zero => simp [fvUp]
  | succ k ih =>
    have h1 := ih (by omega)
    have h2 := fibN_le (n := k) (by omega)
    have hx : 0 ≤ xs.getD k 0 ∧ xs.getD k 0 ≤ 1 := by
      by_cases hk : k < xs.length
      · have := hb xs[k] (List.getElem_mem hk)
        simpa [List.getD, List.getElem?_eq_getElem hk] using this
      · simp [List.getD, List.getElem?_eq_none (by omega : xs.length ≤ k)]
    have hc : xs.getD k 0 = 0 ∨ xs.getD k 0 = 1 := by omega
    simp only [fvUp]
    rcases hc with hc | hc <;> rw [hc] <;> simp <;> omega
theorem fv_succ {xs : List Int} {k : Nat} {x : Int} (hx : xs[k]? = some x) : fvUp xs (k + 1) = fvUp xs k + x * (fibN k : Nat) := by
  simp [fvUp, List.getD, hx]

set_option maxHeartbeats 1600000 in
theorem fibValue_any (A : Option Addr) (c : Nat) (xs : List Int) (w : World) (hr : Rd w A xs) (hl : xs.length ≤ 59) (hb : ∀ x ∈ xs, (0 : Int) ≤ x ∧ x ≤ 1) :
    Calls Try.prog 57 #[.slice A xs.length c] w fun e w' => e = .returned (.int .i64 (fibSum xs)) ∧ w = w' := by
  have HR := Lib.hid hr
  have HB := Lib.hid hb
  clear hr hb
  go_enter Try.func57, Try.ntmps57
  go_wp2
  go_loop [3, 8] (fun n i => ∃ k : Nat, k ≤ xs.length ∧ i = .int .i64 k ∧ n = .int .i64 (fvUp xs k)) (fun _ i => xs.length - (intOf i).toNat)
  case atStart => exact ⟨0, Nat.zero_le _, rfl, rfl⟩
  case round =>
    obtain ⟨k, hk, rfl, rfl⟩ := hrel
    by_cases hlt : k < xs.length
    · obtain ⟨ad, x, rfl, hx, hc⟩ := HR.out.at_ hlt
      have bx := HB.out x (List.mem_of_getElem? hx.out)
      have bn := fv_bound HB.out k (by omega)
      have bf := fibN_le (n := k) (by omega)
      have HF := Lib.hid (fibPlaceR_of (k := k) (by omega))
      have HS := Lib.hid (fv_succ hx.out)
      obtain ⟨n, hn⟩ : ∃ n, fvUp xs k = n := ⟨_, rfl⟩
      obtain ⟨f, hf⟩ : ∃ f, fibN k = f := ⟨_, rfl⟩
      rw [hn] at bn HS
      rw [hf] at bf HF HS
      rw [hn]
      clear hn hf
      rcases (show x = 0 ∨ x = 1 by omega) with rfl | rfl
      all_goals
        go_wp2_with fail
        refine (iFibPlace_any _ _).mono ?_
        rintro e w' ⟨rfl, rfl⟩
        rw [HF.out]
        go_wp2
        go_round
        case rel => exact ⟨k + 1, by omega, by go_num, by rw [HS.out]; go_num⟩
        case measure => simp [intOf]; omega
    · have hkl : k = xs.length := by omega
      subst hkl
      go_wp2
      go_ret
      exact ⟨rfl, rfl⟩

set_option maxHeartbeats 1600000 in
theorem l10Value_any (A : Option Addr) (c : Nat) (xs : List Int) (w : World) (hr : Rd w A xs) (hl : xs.length ≤ 59) (hb : ∀ x ∈ xs, (0 : Int) ≤ x ∧ x ≤ 1) :
    Calls Try.prog 56 #[.slice A xs.length c] w fun e w' => e = .returned (.int .i64 (fibSum xs)) ∧ w = w' := by
  have HR := Lib.hid hr
  have HB := Lib.hid hb
  clear hr hb
  go_enter Try.func56, Try.ntmps56
  go_wp2
  go_loop [3, 4, 5, 11] (fun n a b i => ∃ k : Nat, k ≤ xs.length ∧ i = .int .i64 k ∧ n = .int .i64 (fvUp xs k) ∧ a = .int .i64 (fibN k : Nat) ∧ b = .int .i64 (fibN (k + 1) : Nat)) (fun _ _ _ i => xs.length - (intOf i).toNat)
  case atStart => exact ⟨0, Nat.zero_le _, rfl, rfl, rfl, rfl⟩
  case round =>
    obtain ⟨k, hk, rfl, rfl, rfl, rfl⟩ := hrel
    by_cases hlt : k < xs.length
    · obtain ⟨ad, x, rfl, hx, hc⟩ := HR.out.at_ hlt
      have bx := HB.out x (List.mem_of_getElem? hx.out)
      have bn := fv_bound HB.out k (by omega)
      have bf := fibN_le (n := k) (by omega)
      have bg := fibN_le (n := k + 1) (by omega)
      have HA := Lib.hid (fibN_add k)
      have HS := Lib.hid (fv_succ hx.out)
      obtain ⟨n, hn⟩ : ∃ n, fvUp xs k = n := ⟨_, rfl⟩
      obtain ⟨f, hf⟩ : ∃ f, fibN k = f := ⟨_, rfl⟩
      obtain ⟨g, hg⟩ : ∃ g, fibN (k + 1) = g := ⟨_, rfl⟩
      rw [hn] at bn HS
      rw [hf] at bf HA HS
      rw [hg] at bg HA
      rw [hn, hf, hg]
      have HG := Lib.hid hg
      clear hn hf hg
      rcases (show x = 0 ∨ x = 1 by omega) with rfl | rfl
      all_goals
        go_wp2
        go_round
        case rel => exact ⟨k + 1, by omega, by go_num, by rw [HS.out]; go_num, by rw [HG.out], by rw [show k + 1 + 1 = k + 2 from rfl, HA.out]; go_num⟩
        case measure => simp [intOf]; omega
    · have hkl : k = xs.length := by omega
      subst hkl
      go_wp2
      go_ret
      exact ⟨rfl, rfl⟩

def fibValB (xs : List Int) : Bool := fibOkB xs && decide (fibSum xs ≤ 1000000000000)
def fibValR (xs : List Int) : Int := if fibValB xs then fibSum xs else 0
theorem fibOk_parts {xs : List Int} (h : fibOkB xs = true) : xs.length ≤ 58 ∧ endB xs = true ∧ ∀ x ∈ xs, (0 : Int) ≤ x ∧ x ≤ 1 := by
  simp only [fibOkB, Bool.and_eq_true, decide_eq_true_eq] at h
  exact ⟨h.1.1, h.1.2, allB_true h.2⟩


theorem sFibValue_c (w : World) (A : Option Addr) (c : Nat) (xs : List Int) (hr : Rd w A xs) (hl : xs.length ≤ 1048576) (hb : AllI64 xs) :
    Calls Try.prog 28 #[.slice A xs.length c] w fun e w' => e = .returned (.tuple #[.int .i64 (fibValR xs), .bool (fibValB xs)]) ∧ Below w.heap.size w w' := by
  rcases Bool.eq_false_or_eq_true (fibOkB xs) with h | h
  · obtain ⟨l58, _, hall⟩ := fibOk_parts h
    by_cases hm : fibSum xs ≤ 1000000000000
    all_goals
      go_enter Try.func28, Try.ntmps28
      go_wp2_with fail
      refine (sFibOk_c _ _ _ _ hr hl hb).mono ?_
      rintro e w1 ⟨rfl, B1⟩
      have R1 := hr.below B1
      go_wp2_with fail
      refine (l10Value_any _ _ _ _ R1 (by omega) hall).mono ?_
      rintro e w2 ⟨rfl, rfl⟩
      go_wp2
      go_ret2
      exact ⟨ret_tuple_int (by first | (simp [fibValR, fibValB, h, hm]; done) | (simp [fibValR, fibValB, h]; omega)) (by simp [fibValB, h, hm]), B1⟩
  · go_enter Try.func28, Try.ntmps28
    go_wp2_with fail
    refine (sFibOk_c _ _ _ _ hr hl hb).mono ?_
    rintro e w1 ⟨rfl, B1⟩
    go_wp2
    go_ret2
    exact ⟨ret_tuple_int (by simp [fibValR, fibValB, h]) (by simp [fibValB, h]), B1⟩


theorem iFibValue_c (w : World) (A : Option Addr) (c : Nat) (xs : List Int) (hr : Rd w A xs) (hl : xs.length ≤ 1048576) (hb : AllI64 xs) :
    Calls Try.prog 29 #[.slice A xs.length c] w fun e w' => e = .returned (.tuple #[.int .i64 (fibValR xs), .bool (fibValB xs)]) ∧ Below w.heap.size w w' := by
  rcases Bool.eq_false_or_eq_true (fibOkB xs) with h | h
  · obtain ⟨l58, _, hall⟩ := fibOk_parts h
    by_cases hm : fibSum xs ≤ 1000000000000
    all_goals
      go_enter Try.func29, Try.ntmps29
      go_wp2_with fail
      refine (iFibOk_c _ _ _ _ hr hl hb).mono ?_
      rintro e w1 ⟨rfl, B1⟩
      have R1 := hr.below B1
      go_wp2_with fail
      refine (fibValue_any _ _ _ _ R1 (by omega) hall).mono ?_
      rintro e w2 ⟨rfl, rfl⟩
      go_wp2
      go_ret2
      exact ⟨ret_tuple_int (by first | (simp [fibValR, fibValB, h, hm]; done) | (simp [fibValR, fibValB, h]; omega)) (by simp [fibValB, h, hm]), B1⟩
  · go_enter Try.func29, Try.ntmps29
    go_wp2_with fail
    refine (iFibOk_c _ _ _ _ hr hl hb).mono ?_
    rintro e w1 ⟨rfl, B1⟩
    go_wp2
    go_ret2
    exact ⟨ret_tuple_int (by simp [fibValR, fibValB, h]) (by simp [fibValB, h]), B1⟩

set_option maxRecDepth 100000 in
set_option maxHeartbeats 1600000 in
theorem lFibValue_law (w : World) (A0 : Option Addr) (c0 : Nat) (xs0 : List Int) (r0 : Rd w A0 xs0) (_m0 : xs0.length ≤ maxLen) (b0 : ∀ x ∈ xs0, -9223372036854775808 ≤ x ∧ x ≤ 9223372036854775807) :
    Calls Try.prog 8 #[.slice A0 xs0.length c0] w fun e w' => e = .returned (.bool true) ∧ Below w.heap.size w w' := by
  have RA0 := Lib.hid r0
  have BA0 : AllI64 xs0 := b0
  clear r0 b0
  by_cases h0 : xs0.length ≤ 1048576
  · skip
    go_enter Try.func8, Try.ntmps8
    go_wp2_with fail
    refine (toIntS_any _ _ _ _ (RA0.out.below (Below.refl w.heap.size w)) h0).mono ?_
    rintro e w1 ⟨A_S0, c_S0, rfl, S0_0, B1⟩
    have L_S0 := fun k hk => (S0_0.lt k hk).1
    have C2 := (Below.refl w.heap.size w).trans (B1.mono (Below.refl w.heap.size w).size)
    go_wp2_with fail
    refine (sFibValue_c _ _ _ _ S0_0.rd h0 BA0).mono ?_
    rintro e w3 ⟨rfl, B3⟩
    have C4 := C2.trans (B3.mono C2.size)
    have S0_4 := S0_0.below' B3
    go_wp2_with fail
    refine (toIntS_any _ _ _ _ (RA0.out.below C4) h0).mono ?_
    rintro e w5 ⟨A_X0, c_X0, rfl, X0_0, B5⟩
    have L_X0 := fun k hk => (X0_0.lt k hk).1
    have C6 := C4.trans (B5.mono C4.size)
    go_wp2_with fail
    refine (iFibValue_c _ _ _ _ X0_0.rd h0 BA0).mono ?_
    rintro e w7 ⟨rfl, B7⟩
    have C8 := C6.trans (B7.mono C6.size)
    have X0_8 := X0_0.below' B7
    go_wp2_with fail
    refine (toIntS_any _ _ _ _ (RA0.out.below C8) h0).mono ?_
    rintro e w9 ⟨A_T0, c_T0, rfl, T0_0, B9⟩
    have U_X0_T0 := fun k hk => (X0_8.lt k hk).2
    have L_T0 := fun k hk => (T0_0.lt k hk).1
    have C10 := C8.trans (B9.mono C8.size)
    have X0_10 := X0_8.below' B9
    go_wp2_with fail
    refine (eqIntS_same _ _ _ _ _ _ X0_10.rd T0_0.rd (by omega)).mono ?_
    rintro e w11 ⟨rfl, n11_, rfl⟩
    have C12 := below_drewN C10 n11_
    have X0_12 := X0_10.drewN n11_
    have T0_12 := T0_0.drewN n11_
    go_wp2
    go_ret
    exact ⟨rfl, C12⟩
  · unfold maxLen at _m0
    go_enter Try.func8, Try.ntmps8
    go_wp2
    go_ret
    exact ⟨rfl, Below.refl _ _⟩

end Go.Proofs.Ytlimphfkagdjiaa
