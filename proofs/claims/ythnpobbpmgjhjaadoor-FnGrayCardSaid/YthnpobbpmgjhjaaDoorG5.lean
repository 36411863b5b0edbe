/-
  WALKS: IsGrayCycle (both packages) and the law over it.
-/
import Derived.Test.YthnpobbpmgjhjaaDoorG4
namespace Go.Proofs.YthnpobbpmgjhjaaDoor
open Go.RowKit

def nx (xs : List Int) (i : Nat) : Int := xs.getD ((i + 1) % xs.length) 0
def okW (xs : List Int) (L : Int) (i : Nat) : Bool :=
  inB (xs.getD i 0) 0 (L - 1) && !((xs.take i).contains (xs.getD i 0)) && (!(inB (nx xs i) 0 (L - 1)) || onebit ((xs.getD i 0).toNat ^^^ (nx xs i).toNat))
def cycB (xs : List Int) (k : Int) : Bool := inB k 1 6 && decide ((xs.length : Int) = 2 ^ k.toNat) && (List.range xs.length).all (okW xs (2 ^ k.toNat))

theorem cycB_false_at {xs : List Int} {k : Int} {i : Nat} (hi : i < xs.length) (h : okW xs (2 ^ k.toNat) i = false) : cycB xs k = false := by
  unfold cycB
  have : (List.range xs.length).all (okW xs (2 ^ k.toNat)) = false := by
    rw [List.all_eq_false]
    exact ⟨i, List.mem_range.2 hi, by rw [h]; simp⟩
  rw [this]
  simp
theorem getD_of {xs : List Int} {i : Nat} {x : Int} (hx : xs[i]? = some x) : xs.getD i 0 = x := by simp [List.getD, hx]
theorem okW_eq {xs : List Int} {L x y : Int} {i : Nat} (hx : xs[i]? = some x) (hy : xs[(i + 1) % xs.length]? = some y) :
    okW xs L i = (inB x 0 (L - 1) && !((xs.take i).contains x) && (!(inB y 0 (L - 1)) || onebit (x.toNat ^^^ y.toNat))) := by
  have e : nx xs i = y := getD_of hy
  unfold okW
  rw [e, getD_of hx]
theorem okW_out {xs : List Int} {L y : Int} {j : Nat} (hy : xs[j]? = some y) (h : inB y 0 (L - 1) = false) : okW xs L j = false := by
  unfold okW
  rw [getD_of hy, h]
  rfl
/-- So far all is well. -/
def soFar (xs : List Int) (L : Int) (i : Nat) : Prop := ∀ j, j < i → okW xs L j = true
theorem soFar.step {xs : List Int} {L : Int} {i : Nat} (h : soFar xs L i) (hi : okW xs L i = true) : soFar xs L (i + 1) := fun j hj => by
  by_cases e : j = i
  · rw [e]; exact hi
  · exact h j (by omega)
theorem cycB_true {xs : List Int} {k : Int} (h1 : inB k 1 6 = true) (h2 : (xs.length : Int) = 2 ^ k.toNat) (h : soFar xs (2 ^ k.toNat) xs.length) : cycB xs k = true := by
  unfold cycB
  rw [h1, decide_eq_true h2]
  simp only [Bool.true_and, List.all_eq_true]
  exact fun j hj => h j (List.mem_range.1 hj)
theorem u64w (n : Int) : 0 ≤ IntKind.u64.wrap n ∧ IntKind.u64.wrap n ≤ 18446744073709551615 := by rw [IntKind.wrap_u64]; omega
theorem xor64 {X Y : Nat} (hx : X < 64) (hy : Y < 64) : X ^^^ Y < 64 := Nat.xor_lt_two_pow (n := 6) hx hy
theorem pow64 (k : Nat) (h : k ≤ 6) : (2 : Int) ^ k ≤ 64 ∧ 1 ≤ (2 : Int) ^ k := by
  have h1 : 2 ^ k ≤ 2 ^ 6 := Nat.pow_le_pow_right (by omega) h
  have h2 : 1 ≤ 2 ^ k := Nat.one_le_two_pow
  have e : ((2 ^ k : Nat) : Int) = (2 : Int) ^ k := by simp
  rw [← e]
  omega

set_option maxHeartbeats 3200000 in
theorem iIsGrayCycle_c (w : World) (A : Option Addr) (c : Nat) (xs : List Int) (hr : Rd w A xs) (hcap : xs.length ≤ c) (hl : xs.length ≤ 1048576) (hb : AllI64 xs) (k : Int) (_hk : I64 k) :
    Calls Tryd.prog 18 #[.slice A xs.length c, .int .i64 k] w fun e w' => e = .returned (.bool (cycB xs k)) ∧ Below w.heap.size w w' := by
  have HR := Lib.hid hr
  have HB := Lib.hid hb
  clear hr hb
  rcases Bool.eq_false_or_eq_true (inB k 1 6) with h | h
  · obtain ⟨b1, b2⟩ := inB_true h
    obtain ⟨m, rfl⟩ := Int.eq_ofNat_of_zero_le (show 0 ≤ k by omega)
    obtain ⟨p1, p2⟩ := pow64 m (by omega)
    have HI := Lib.hid h
    by_cases hlen : (xs.length : Int) = 2 ^ m
    · have HL := Lib.hid hlen
      have t0 : ((xs.length : Int) != 2 ^ m) = false := by simp [hlen]
      have l64 : xs.length ≤ 64 := by omega
      clear hlen
      go_enter Tryd.func18, Tryd.ntmps18
      go_wp2_with (go_at_call 21; refine (within_any _ _ _ _).mono ?_; rintro e w' ⟨rfl, rfl⟩)
      go_loop [20] (fun i => ∃ j : Nat, j ≤ xs.length ∧ i = .int .i64 j ∧ soFar xs (2 ^ m) j) (fun i => xs.length - (intOf i).toNat)
      case atStart => exact ⟨0, Nat.zero_le _, rfl, fun j hj => absurd hj (by omega)⟩
      case round =>
        obtain ⟨j, hj, rfl, hS⟩ := hrel
        by_cases hlt : j < xs.length
        · obtain ⟨ad, x, rfl, hx, hc⟩ := HR.out.at_ hlt
          have hmod : (j + 1) % xs.length < xs.length := Nat.mod_lt _ (by omega)
          obtain ⟨ad', y, e, hy, hc'⟩ := HR.out.at_ hmod
          obtain rfl := Option.some.inj e
          clear e
          have q0 : 0 ≤ ((j : Int) + 1) % (xs.length : Int) := Int.emod_nonneg _ (by omega)
          have q1 : ((j : Int) + 1) % (xs.length : Int) < (xs.length : Int) := Int.emod_lt_of_pos _ (by omega)
          have bx := HB.out x (List.mem_of_getElem? hx.out)
          have by_ := HB.out y (List.mem_of_getElem? hy.out)
          have HO := Lib.hid (okW_eq (L := 2 ^ m) hx.out hy.out)
          rcases Bool.eq_false_or_eq_true (inB x 0 (2 ^ m - 1)) with h1 | h1
          · obtain ⟨x0, x1⟩ := inB_true h1
            obtain ⟨X, rfl⟩ := Int.eq_ofNat_of_zero_le x0
            have RT : Rd w (some ad) (xs.take j) := fun hp => by
              obtain ⟨ad'', e, hcc⟩ := HR.out (by omega)
              refine ⟨ad'', e, fun q hq => ?_⟩
              rw [List.length_take] at hq
              rw [hcc q (by omega)]
              simp [show q < j by omega]
            have hlt2 : (xs.take j).length = j := by rw [List.length_take]; omega
            have RT2 := Lib.hid RT
            have HT := Lib.hid hlt2
            clear RT hlt2
            rcases Bool.eq_false_or_eq_true ((xs.take j).contains (X : Int)) with h2 | h2
            · have HF : Hid (cycB xs (m : Int) = false) := cycB_false_at hlt (by rw [Int.toNat_natCast, HO.out, h1, h2]; rfl)
              have HC := Lib.hid h2
              clear h2
              go_wp2_with fail
              refine (within_any _ _ _ _).mono ?_
              rintro e w' ⟨rfl, rfl⟩
              go_wp2_with fail
              refine (contains_any _ _ _ _ _ _ RT2.out HT.out (by omega)).mono ?_
              rintro e w' ⟨rfl, rfl⟩
              rw [HC.out]
              go_wp2
              go_ret
              exact ⟨ret_bool HF.out.symm, Below.refl _ _⟩
            · have HC := Lib.hid h2
              clear h2
              rcases Bool.eq_false_or_eq_true (inB y 0 (2 ^ m - 1)) with h3 | h3
              · obtain ⟨y0, y1⟩ := inB_true h3
                obtain ⟨Y, rfl⟩ := Int.eq_ofNat_of_zero_le y0
                have hxor : bits .xor .i64 (X : Int) (Y : Int) = ((X ^^^ Y : Nat) : Int) := i64_xor_nat X Y (by omega) (by omega)
                have hx64 : X ^^^ Y < 64 := xor64 (by omega) (by omega)
                have hz0 : (0 : Int) ≤ ((X ^^^ Y : Nat) : Int) := by omega
                have hz1 : ((X ^^^ Y : Nat) : Int) < 64 := by omega
                rcases Bool.eq_false_or_eq_true (onebit (X ^^^ Y)) with h4 | h4
                · have HK : Hid (okW xs (2 ^ m) j = true) := by
                    unfold Hid
                    rw [HO.out, h1, HC.out, Int.toNat_natCast, Int.toNat_natCast, h4]
                    simp
                  have H4 := Lib.hid h4
                  clear h4
                  go_wp2_with fail
                  refine (within_any _ _ _ _).mono ?_
                  rintro e w' ⟨rfl, rfl⟩
                  go_wp2_with fail
                  refine (contains_any _ _ _ _ _ _ RT2.out HT.out (by omega)).mono ?_
                  rintro e w' ⟨rfl, rfl⟩
                  rw [HC.out]
                  go_wp2_with fail
                  refine (ones_any _ _ (by omega) (by omega)).mono ?_
                  rintro e w' ⟨q, rfl, HQ, rfl⟩
                  have t1 : (q != 1) = false := by
                    have := HQ _ rfl hx64
                    rw [H4.out] at this
                    simpa using this
                  go_wp2
                  go_round
                  case rel => exact ⟨j + 1, by omega, by go_num, hS.step HK.out⟩
                  case measure => simp [intOf]; omega
                · have HF : Hid (cycB xs (m : Int) = false) := cycB_false_at hlt (by rw [Int.toNat_natCast, HO.out, h1, HC.out, h3, Int.toNat_natCast, Int.toNat_natCast, h4]; rfl)
                  have H4 := Lib.hid h4
                  clear h4
                  go_wp2_with fail
                  refine (within_any _ _ _ _).mono ?_
                  rintro e w' ⟨rfl, rfl⟩
                  go_wp2_with fail
                  refine (contains_any _ _ _ _ _ _ RT2.out HT.out (by omega)).mono ?_
                  rintro e w' ⟨rfl, rfl⟩
                  rw [HC.out]
                  go_wp2_with fail
                  refine (ones_any _ _ (by omega) (by omega)).mono ?_
                  rintro e w' ⟨q, rfl, HQ, rfl⟩
                  have t1 : (q != 1) = true := by
                    have := HQ _ rfl hx64
                    rw [H4.out] at this
                    simpa using this
                  go_wp2
                  go_ret
                  exact ⟨ret_bool HF.out.symm, Below.refl _ _⟩
              · have HK : Hid (okW xs (2 ^ m) j = true) := by
                  unfold Hid
                  rw [HO.out, h1, HC.out, h3]
                  rfl
                have HF : Hid (cycB xs (m : Int) = false) := cycB_false_at hmod (by rw [Int.toNat_natCast]; exact okW_out hy.out h3)
                clear h3
                go_wp2_with fail
                refine (within_any _ _ _ _).mono ?_
                rintro e w' ⟨rfl, rfl⟩
                go_wp2_with fail
                refine (contains_any _ _ _ _ _ _ RT2.out HT.out (by omega)).mono ?_
                rintro e w' ⟨rfl, rfl⟩
                rw [HC.out]
                go_wp2_with fail
                refine (ones_any _ _ ?_ ?_).mono ?_
                · first | exact (u64w _).1 | omega
                · first | exact (u64w _).2 | omega
                rintro e w' ⟨q, rfl, _, rfl⟩
                by_cases e1 : q = 1
                · have t1 : (q != 1) = false := by simp [e1]
                  clear e1
                  go_wp2
                  go_round
                  case rel => exact ⟨j + 1, by omega, by go_num, hS.step HK.out⟩
                  case measure => simp [intOf]; omega
                · have t1 : (q != 1) = true := by simp [e1]
                  clear e1
                  go_wp2
                  go_ret
                  exact ⟨ret_bool HF.out.symm, Below.refl _ _⟩
          · have HF : Hid (cycB xs (m : Int) = false) := cycB_false_at hlt (by rw [Int.toNat_natCast, HO.out, h1]; rfl)
            go_wp2_with fail
            refine (within_any _ _ _ _).mono ?_
            rintro e w' ⟨rfl, rfl⟩
            go_wp2
            go_ret
            exact ⟨ret_bool HF.out.symm, Below.refl _ _⟩
        · have hkl : j = xs.length := by omega
          have HT : Hid (cycB xs (m : Int) = true) := cycB_true HI.out (by rw [Int.toNat_natCast]; exact HL.out) (by rw [Int.toNat_natCast, ← hkl]; exact hS)
          clear hkl
          go_wp2
          go_ret
          exact ⟨ret_bool HT.out.symm, Below.refl _ _⟩
    · have t0 : ((xs.length : Int) != 2 ^ m) = true := by simp [hlen]
      have HN := Lib.hid hlen
      clear hlen
      go_enter Tryd.func18, Tryd.ntmps18
      go_wp2_with (go_at_call 21; refine (within_any _ _ _ _).mono ?_; rintro e w' ⟨rfl, rfl⟩)
      go_ret
      exact ⟨ret_bool (by simp [cycB, HN.out]), Below.refl _ _⟩
  · go_enter Tryd.func18, Tryd.ntmps18
    go_wp2_with (go_at_call 21; refine (within_any _ _ _ _).mono ?_; rintro e w' ⟨rfl, rfl⟩)
    go_ret
    exact ⟨ret_bool (by simp [cycB, h]), Below.refl _ _⟩

end Go.Proofs.YthnpobbpmgjhjaaDoor
