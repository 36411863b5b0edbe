/-
  WALK of FnWythoff: pairs divide all numbers, and shifted digits lead from the first one of a pair to the second one. No condition.
-/
import Derived.Test.YtlimphfkagdjiaaF11
import Derived.PlainAid
namespace Go.Proofs.Ytlimphfkagdjiaa
open Go.RowKit Go.PlainAid

theorem zs_at {xs : List Int} {k : Nat} {x : Int} (h : ∀ j : Nat, j < k → xs[j]? = some 0) (hx : xs[k]? = some x) (hne : x ≠ 0) : zs xs = k := by
  induction xs generalizing k with
  | nil => simp at hx
  | cons y ys ih =>
    cases k with
    | zero =>
      have e : y = x := by simpa using hx
      subst e
      simp [zs, hne]
    | succ k =>
      have e : y = 0 := by simpa using h 0 (by omega)
      subst e
      rw [zs_zero, ih (k := k) (fun j hj => by simpa using h (j + 1) (by omega)) (by simpa using hx)]
theorem zs_all {xs : List Int} (h : ∀ j : Nat, j < xs.length → xs[j]? = some 0) : zs xs = xs.length := by
  induction xs with
  | nil => rfl
  | cons y ys ih =>
    have e : y = 0 := by simpa using h 0 (by simp)
    subst e
    rw [zs_zero, ih (fun j hj => by simpa using h (j + 1) (by simpa using hj))]
    simp

set_option maxHeartbeats 800000 in
theorem lzeros_any (A : Option Addr) (c : Nat) (xs : List Int) (w : World) (hr : Rd w A xs) (hl : xs.length ≤ 1099511627776) :
    Calls Try.prog 46 #[.slice A xs.length c] w fun e w' => e = .returned (.int .i64 (zs xs : Nat)) ∧ w = w' := by
  have HR := Lib.hid hr
  clear hr
  go_enter Try.func46, Try.ntmps46
  go_wp2
  go_loop [7] (fun i => ∃ k : Nat, k ≤ xs.length ∧ i = .int .i64 k ∧ Hid (∀ j : Nat, j < k → xs[j]? = some 0)) (fun i => xs.length - (intOf i).toNat)
  case atStart => exact ⟨0, Nat.zero_le _, rfl, fun j hj => absurd hj (by omega)⟩
  case round =>
    obtain ⟨k, hk, rfl, hZ⟩ := hrel
    by_cases hlt : k < xs.length
    · obtain ⟨ad, x, rfl, hx, hc⟩ := HR.out.at_ hlt
      by_cases h0 : x = 0
      · have HZ : Hid (∀ j : Nat, j < k + 1 → xs[j]? = some 0) := fun j hj => by
          by_cases e : j = k
          · subst e; rw [hx.out, h0]
          · exact hZ.out j (by omega)
        subst h0
        clear hx hZ
        go_wp2
        go_round
        case rel => exact ⟨k + 1, by omega, by go_num, HZ.out⟩
        case measure => simp [intOf]; omega
      · have HZ := Lib.hid (zs_at hZ.out hx.out h0)
        have tx : (x != 0) = true := by simp [h0]
        clear hx hZ
        go_wp2
        go_ret
        exact ⟨ret_int (by rw [HZ.out]), rfl⟩
    · have hkl : k = xs.length := by omega
      subst hkl
      have HZ := Lib.hid (zs_all hZ.out)
      clear hZ
      go_wp2
      go_ret
      exact ⟨ret_int (by rw [HZ.out]), rfl⟩
theorem kZeros (w : World) (A : Option Addr) (c : Nat) (xs : List Int) (ha : Rd w A xs) (h : Dg xs) {v : Nat} (h1 : zs xs = v) :
    Calls Try.prog 46 #[.slice A xs.length c] w fun e w' => e = .returned (.int .i64 (v : Int)) ∧ w = w' := by
  subst h1; exact lzeros_any A c xs w ha (by have := h.len; omega)
theorem kPair (w : World) (k : Int) (hk : I64 k) {a b : Int} (h1 : wyA k = a) (h2 : wyB k = b) :
    Calls Try.prog 39 #[.int .i64 k] w fun e w' => e = .returned (.tuple #[.int .i64 a, .int .i64 b]) ∧ Below w.heap.size w w' := by
  subst h1 h2; exact iWythoffPair_c w k hk
/-- The replaced word of the first k letters. -/
def xS (k : Nat) : ByteArray := ⟨(expL (wordL k)).toArray⟩
theorem word_37 : expL (wordL 37) = wordL 60 := by decide +kernel
theorem exp_step (k : Nat) : expL (wordL (k + 1)) = expL (wordL k) ++ (if wordAt k = 97 then [97, 98] else [97]) := by
  rw [wordL_succ, expL_append]
  congr 1
theorem exp_mono (k d : Nat) : (expL (wordL k)).length ≤ (expL (wordL (k + d))).length := by
  induction d with
  | zero => exact Nat.le_refl _
  | succ d ih =>
    rw [show k + (d + 1) = k + d + 1 by omega, exp_step, List.length_append]
    omega
theorem xS_size (k : Nat) : (xS k).size = (expL (wordL k)).length := by
  show (expL (wordL k)).toArray.size = _
  simp
theorem xS_small {k : Nat} (h : k < 37) : (xS k).size < 60 := by
  rw [xS_size]
  have := exp_mono k (36 - k)
  rw [show k + (36 - k) = 36 by omega, word_len.2] at this
  omega
theorem xS_37 : xS 37 = wordS 60 := by unfold xS wordS; rw [word_37]
theorem xS_add {k : Nat} (hk : k < 37) {cs : List UInt8} (hc : (if wordAt k = 97 then [97, 98] else [97]) = cs) (w : World) : (Op.stringOp .add (xS k) ⟨cs.toArray⟩).run Try.prog w = .ok (.string (xS (k + 1))) w := by
  have hs := xS_small hk
  rw [xS_size] at hs
  have h := run_string_add_lists (P := Try.prog) w (expL (wordL k)) cs (by
    have : cs.length ≤ 2 := by rw [← hc]; split <;> simp
    omega) (by
    have : cs.length ≤ 2 := by rw [← hc]; split <;> simp
    omega)
  unfold xS
  rw [exp_step, hc]
  exact h
theorem word_bt {k : Nat} (h : k < 60) : bt (wordS 60) k = ((wordAt k).toNat : Int) := by
  unfold bt
  rw [dif_pos (by rw [wordS_size]; exact h)]
  have : (wordS 60)[k]'(by rw [wordS_size]; exact h) = wordAt k := by
    show (wordL 60).toArray[k]'(by simp [wordL_len]; exact h) = wordAt k
    simp [wordL]
  rw [this]
theorem wordAt_two (k : Nat) : wordAt k = 97 ∨ wordAt k = 98 := by unfold wordAt; split <;> simp
theorem word_extract : (wordS 60).extract 0 60 = wordS 60 := by
  unfold wordS
  rw [ByteArray.extract_mk, List.drop_zero, List.take_of_length_le (by rw [wordL_len]; omega)]
attribute [irreducible] xS
attribute [local irreducible] wordS
theorem wordS_5 : wordS 5 = ⟨#[97, 98, 97, 97, 98]⟩ := by unfold wordS; rw [word_5]
theorem kWord (w : World) (k : Int) (hk : I64 k) {v : ByteArray} (h1 : wordR k = v) :
    Calls Try.prog 31 #[.int .i64 k] w fun e w' => e = .returned (.string v) ∧ Below w.heap.size w w' := by
  subst h1; exact iFibWord_c w k hk

set_option maxRecDepth 100000 in
set_option maxHeartbeats 12800000 in
theorem lFnWythoff_law (w : World) (A0 : Option Addr) (c0 : Nat) (xs0 : List Int) (r0 : Rd8 w A0 xs0) (_m0 : xs0.length ≤ maxLen) (b0 : ∀ x ∈ xs0, 0 ≤ x ∧ x ≤ 255) :
    Calls Try.prog 15 #[.slice A0 xs0.length c0] w fun e w' => e = .returned (.bool true) ∧ Below w.heap.size w w' := by
  unfold maxLen at _m0
  by_cases hlen : xs0.length ≤ 1048576
  · have hA : 0 < xs0.length → ∀ ad, A0 = some ad → ad.block < w.heap.size := fun hn ad e => by
      obtain ⟨ad', e', hc⟩ := r0 hn
      rw [e] at e'
      obtain rfl := Option.some.inj e'
      have := cell_lt (hc 0 hn)
      rwa [block_add] at this
    have MN0 := Lib.hid (makeNum_c 0 (by omega) A0 c0 xs0 w r0 hA b0 (by omega))
    rw [show ((0 : Nat) : Int) = 0 from rfl] at MN0
    clear hA r0 b0
    go_enter Try.func15, Try.ntmps15
    go_wp2_with fail
    refine (MN0.out).mono ?_
    rintro e w1 ⟨X, rfl, X0, X1, T1⟩
    have x0 := Int.emod_nonneg X (show (1000 : Int) ≠ 0 by omega)
    have x1 := Int.emod_lt_of_pos X (show (0 : Int) < 1000 by omega)
    go_wp2_with fail
    obtain ⟨k, hk⟩ : ∃ k, 1 + X % 1000 = k := ⟨_, rfl⟩
    rw [hk]
    have k0 : 1 ≤ k := by omega
    have k1 : k ≤ 1000 := by omega
    clear hk X0 X1 MN0 x0 x1
    obtain ⟨a, c, W1, W2, W3, W4, a0, a1, a2, W5, W6, W7, W8⟩ := wy_law k0 k1
    obtain ⟨S, hS⟩ : ∃ S, spR a = S := ⟨_, rfl⟩
    obtain ⟨U, hU⟩ : ∃ S, spR (a + k) = S := ⟨_, rfl⟩
    have DS : Dg S := by rw [← hS]; exact dg_of (sp_ok _)
    have DU : Dg U := by rw [← hU]; exact dg_of (sp_ok _)
    rw [hS] at W7
    rw [hU] at W8
    obtain ⟨zS, hzS⟩ : ∃ z, zs S = z := ⟨_, rfl⟩
    obtain ⟨zU, hzU⟩ : ∃ z, zs U = z := ⟨_, rfl⟩
    rw [hzS] at W7
    rw [hzU] at W8
    have W6' : shiftR (k - 1) = a - 1 := by omega
    have HW1 := Lib.hid W1
    have HW2 := Lib.hid W2
    have HW3 := Lib.hid W3
    have HW4 := Lib.hid W4
    have HW5 := Lib.hid W5
    have HW6 := Lib.hid W6'
    have HS := Lib.hid hS
    have HU := Lib.hid hU
    have HDS := Lib.hid DS
    have HDU := Lib.hid DU
    have HzS := Lib.hid hzS
    have HzU := Lib.hid hzU
    clear W1 W2 W3 W4 W5 W6 W6' hS hU DS DU hzS hzU
    refine (kPair _ k ⟨by omega, by omega⟩ HW1.out HW2.out).mono ?_
    rintro e w2 ⟨rfl, B2⟩
    have T2 := T1.trans (B2.mono T1.size)
    clear B2 T1
    go_wp2_with fail
    refine (kPair _ (k + 1) ⟨by omega, by omega⟩ HW3.out HW4.out).mono ?_
    rintro e w3 ⟨rfl, B3⟩
    have T3 := T2.trans (B3.mono T2.size)
    clear B3 T2
    go_wp2_with fail
    refine (kShift _ a HW5.out).mono ?_
    rintro e w4 ⟨rfl, B4⟩
    have T4 := T3.trans (B4.mono T3.size)
    clear B4 T3
    go_wp2_with fail
    refine (kShift _ (k - 1) HW6.out).mono ?_
    rintro e w5 ⟨rfl, B5⟩
    have T5 := T4.trans (B5.mono T4.size)
    clear B5 T4
    go_wp2_with fail
    refine (kSparse _ a ⟨by omega, by omega⟩ HS.out).mono ?_
    rintro e w6 ⟨A6, c6, rfl, O6, B6⟩
    go_wp2_with fail
    refine (kSparse _ (a + k) ⟨by omega, by omega⟩ HU.out).mono ?_
    rintro e w7 ⟨A7, c7, rfl, O7, B7⟩
    have T7 := T5.trans ((B6.mono T5.size).trans (B7.mono (Nat.le_trans T5.size B6.size)))
    have HR6 := Lib.hid (O6.below' B7).rd
    have HR7 := Lib.hid O7.rd
    clear O6 O7 B6 B7 T5 HW1 HW2 HW3 HW4 HW5 HW6 HS HU
    have z1 : (zS : Int) % 2 = 0 := by omega
    have z2 : (zU : Int) % 2 = 1 := by omega
    have z3 : (0 : Int) ≤ zS := by omega
    have z4 : (0 : Int) ≤ zU := by omega
    go_wp2_with fail
    refine (kZeros _ _ _ S HR6.out HDS.out HzS.out).mono ?_
    rintro e w' ⟨rfl, rfl⟩
    go_wp2_with fail
    refine (kZeros _ _ _ U HR7.out HDU.out HzU.out).mono ?_
    rintro e w' ⟨rfl, rfl⟩
    clear HR6 HR7 HDS HDU HzS HzU
    go_wp2_with fail
    clear z1 z2 z3 z4 W7 W8
    refine (kWord _ 60 ⟨by omega, by omega⟩ (wordR_of (k := 60) (inB_of ⟨by omega, by omega⟩))).mono ?_
    rintro e w8 ⟨rfl, B8⟩
    have T8 := T7.trans (B8.mono T7.size)
    clear B8 T7
    have hsz := wordS_size 60
    go_wp2_with fail
    have hx0 : xS 0 = ⟨#[]⟩ := by unfold xS; rfl
    obtain ⟨W60, hW60⟩ : ∃ s, wordS 60 = s := ⟨_, rfl⟩
    have HX37 : Hid (xS 37 = W60) := by unfold Hid; rw [xS_37, hW60]
    have HBT : Hid (∀ k : Nat, k < 37 → bt W60 k = ((wordAt k).toNat : Int)) := fun k hk => by rw [← hW60]; exact word_bt (by omega)
    have HEX := Lib.hid word_extract
    rw [hW60] at hsz HEX ⊢
    have HZ : Hid (∀ k : Nat, k < 37 → (xS k).size < 60) := fun k hk => xS_small hk
    have hgb := get_bt W60
    have HW5 := Lib.hid wordS_5
    clear hW60
    go_loopw [11, 12] (fun x i wr => ∃ k : Nat, k ≤ 37 ∧ i = .int .i64 k ∧ x = .string (xS k) ∧ wr = w8) (fun _ i _ => 37 - (intOf i).toNat)
    case atStart => exact ⟨0, Nat.zero_le _, rfl, by rw [hx0], rfl⟩
    case round =>
      obtain ⟨q, hq, rfl, rfl, rfl⟩ := hrel
      by_cases hlt : q < 37
      · have c0 : (q : Int) < 60 := by omega
        have c1 : (0 : Int) ≤ q := by omega
        have c2 := HZ.out q hlt
        have hb := HBT.out q hlt
        rcases wordAt_two q with h97 | h98
        · rw [h97] at hb
          have hadd := xS_add hlt (cs := [97, 98]) (by rw [if_pos h97]) wr
          go_wp2
          go_roundw
          case rel => exact ⟨q + 1, by omega, by go_num, rfl, trivial⟩
          case measure => simp [intOf]; omega
        · rw [h98] at hb
          have hadd := xS_add hlt (cs := [97]) (by rw [if_neg (by rw [h98]; decide)]) wr
          go_wp2
          go_roundw
          case rel => exact ⟨q + 1, by omega, by go_num, rfl, trivial⟩
          case measure => simp [intOf]; omega
      · have hq37 : q = 37 := by omega
        subst hq37
        rw [HX37.out]
        have hex := HEX.out
        go_wp2_with fail
        refine (kWord _ 5 ⟨by omega, by omega⟩ (wordR_of (k := 5) (inB_of ⟨by omega, by omega⟩))).mono ?_
        rintro e w9 ⟨rfl, B9⟩
        rw [HW5.out]
        go_wp2
        go_ret
        exact ⟨rfl, T8.trans (B9.mono T8.size)⟩
  · go_enter Try.func15, Try.ntmps15
    go_wp2
    go_ret
    exact ⟨rfl, Below.refl _ _⟩
end Go.Proofs.Ytlimphfkagdjiaa
