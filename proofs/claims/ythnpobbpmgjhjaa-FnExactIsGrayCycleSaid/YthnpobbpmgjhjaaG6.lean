/-
  WALKS: the reference's IsGrayCycle, and the law over IsGrayCycle.
-/
import Derived.Test.YthnpobbpmgjhjaaG5
namespace Go.Proofs.Ythnpobbpmgjhjaa
open Go.RowKit

theorem info4 : (Try.prog.info? 4).map (fun i => (i.zero, i.size, i.bytes)) = some (some (.bool false), 1, 1) := by kernel_rfl
/-- The world in the middle of IsGrayCycle: the new row says which numbers were met. -/
def Seen (w : World) (xs : List Int) (i : Nat) (wr : World) : Prop :=
  wr.heap[w.heap.size]? = some (.cells ((List.range xs.length).map fun v => Value.bool ((xs.take i).contains ((v : Nat) : Int))).toArray 4 (0, 0)) ∧ Below w.heap.size w wr
theorem Seen.at_ {w wr : World} {xs : List Int} {i X : Nat} (h : Seen w xs i wr) (hX : X < xs.length) : wr.cell? ⟨w.heap.size, X, none⟩ = some (.bool ((xs.take i).contains ((X : Nat) : Int))) := by
  rw [cell_of_row wr _ _ _ _ _ h.1]
  simp [hX]
theorem Seen.free {w wr : World} {xs : List Int} {i X : Nat} (h : Seen w xs i wr) : wr.frozen? ⟨w.heap.size, X, none⟩ = false := frozen_of_row wr _ _ _ _ h.1
theorem Seen.step {w wr : World} {xs : List Int} {i X : Nat} (h : Seen w xs i wr) (hx : xs[i]? = some (X : Int)) (hX : X < xs.length) : Seen w xs (i + 1) (wr.setCell ⟨w.heap.size, X, none⟩ (.bool true)) := by
  obtain ⟨h1, h2⟩ := h
  refine ⟨?_, h2.setCell (Nat.le_refl _) _⟩
  rw [heap_setCell_same wr _ _ _ _ _ h1]
  congr 2
  apply Array.ext'
  simp only [Array.toList_setIfInBounds]
  apply List.ext_getElem?
  intro j
  rw [List.getElem?_set]
  rw [List.take_add_one, hx]
  by_cases hj : X = j
  · subst hj
    simp [hX]
  · rw [if_neg hj]
    by_cases hj2 : j < xs.length
    · simp [hj2]
      by_cases hm : (j : Int) ∈ xs.take i
      · simp [hm]
      · have : ¬ (j : Int) = (X : Int) := by omega
        simp [hm, this]
    · simp [hj2]
theorem Seen.below {w wr : World} {xs : List Int} {i X : Nat} (h : Seen w xs i wr) : Below w.heap.size w (wr.setCell ⟨w.heap.size, X, none⟩ (.bool true)) := h.2.setCell (Nat.le_refl _) _
theorem bits_i64 (a b : Int) : I64 (bits .xor .i64 a b) := by
  show I64 (IntKind.i64.wrap _)
  rw [IntKind.wrap_i64]
  unfold I64
  omega

set_option maxHeartbeats 3200000 in
theorem sIsGrayCycle_c (w : World) (A : Option Addr) (c : Nat) (xs : List Int) (hr : Rd w A xs) (_hcap : xs.length ≤ c) (hl : xs.length ≤ 1048576) (hb : AllI64 xs) (k : Int) (_hk : I64 k) :
    Calls Try.prog 25 #[.slice A xs.length c, .int .i64 k] w fun e w' => e = .returned (.bool (cycB xs k)) ∧ Below w.heap.size w w' := by
  have HR := Lib.hid hr
  have HB := Lib.hid hb
  clear hr hb
  rcases Bool.eq_false_or_eq_true (inB k 1 6) with h | h
  · obtain ⟨b1, b2⟩ := inB_true h
    obtain ⟨m, rfl⟩ := Int.eq_ofNat_of_zero_le (show 0 ≤ k by omega)
    obtain ⟨p1, p2⟩ := pow64 m (by omega)
    have HI := Lib.hid h
    by_cases hlen : (xs.length : Int) = 2 ^ m
    · have HL := Lib.hid hlen
      have t0 : ((xs.length : Int) != 2 ^ m) = false := by simp [hlen]
      have l64 : xs.length ≤ 64 := by omega
      have l1 : 1 ≤ xs.length := by omega
      clear hlen
      obtain ⟨i0, hi, hz0, hz1, hz2⟩ := info_parts info4
      have hmk : ∀ u : World, (Instr.makeSlice 37 (.int .i64 (xs.length : Int)) (.int .i64 (xs.length : Int))).run Try.prog u =
          .ok (.slice (some ⟨u.heap.size, 0, none⟩) xs.length xs.length) (u.alloc (.cells (madeCells #[.bool false] xs.length) 4)) := fun u => by
        have h := run_make (P := Try.prog) u 37 4 i0 (.bool false) Try.underlying37 hi hz0 .i64 .i64 (xs.length : Int) (xs.length : Int) (by omega) (Int.le_refl _) (by rw [hz2]; omega) (by omega)
        rw [Int.toNat_natCast] at h
        simpa [hz1, Value.cells] using h
      have hst : Seen w xs 0 (w.alloc (.cells (madeCells #[.bool false] xs.length) 4)) := by
        refine ⟨?_, (Below.refl _ _).alloc (Nat.le_refl _) _⟩
        rw [heap_alloc_new]
        congr 2
        apply Array.ext'
        rw [toList_madeCells_one]
        apply List.ext_getElem?
        intro j
        by_cases hj : j < xs.length <;> simp [hj, List.getElem?_replicate]
      go_enter Try.func25, Try.ntmps25
      go_wp2_with (go_at_call 31; refine (l01In_any _ _ _ _).mono ?_; rintro e w' ⟨rfl, rfl⟩)
      go_loopw [24] (fun i wr => ∃ j : Nat, j ≤ xs.length ∧ i = .int .i64 j ∧ soFar xs (2 ^ m) j ∧ Seen w xs j wr) (fun i _ => xs.length - (intOf i).toNat)
      case atStart => exact ⟨0, Nat.zero_le _, rfl, fun j hj => absurd hj (by omega), hst⟩
      case round =>
        obtain ⟨j, hj, rfl, hS, hN⟩ := hrel
        clear hmk hst
        by_cases hlt : j < xs.length
        · have RW := HR.out.below hN.2
          obtain ⟨ad, x, rfl, hx, hc⟩ := RW.at_ hlt
          have hmod : (j + 1) % xs.length < xs.length := Nat.mod_lt _ (by omega)
          have q0 : 0 ≤ ((j : Int) + 1) % (xs.length : Int) := Int.emod_nonneg _ (by omega)
          have q1 : ((j : Int) + 1) % (xs.length : Int) < (xs.length : Int) := Int.emod_lt_of_pos _ (by omega)
          have bx := HB.out x (List.mem_of_getElem? hx.out)
          rcases Bool.eq_false_or_eq_true (inB x 0 ((xs.length : Int) - 1)) with h1 | h1
          · obtain ⟨x0, x1⟩ := inB_true h1
            obtain ⟨X, rfl⟩ := Int.eq_ofNat_of_zero_le x0
            have hX : X < xs.length := by omega
            have hs0 := hN.at_ hX
            have hf0 := hN.free (X := X)
            have RW2 := HR.out.below (hN.below (X := X))
            obtain ⟨ad', y, e, hy, hc'⟩ := RW2.at_ hmod
            obtain rfl := Option.some.inj e
            clear e RW RW2
            have by_ := HB.out y (List.mem_of_getElem? hy.out)
            have HO := Lib.hid (okW_eq (L := xs.length) hx.out hy.out)
            obtain ⟨bt, hbt⟩ : ∃ bt, (xs.take j).contains (X : Int) = bt := ⟨_, rfl⟩
            rw [hbt] at hs0 HO
            have HC := Lib.hid hbt
            clear hbt
            have HNS := Lib.hid (hN.step hx.out hX)
            have HNB := Lib.hid (hN.below (X := X))
            have HNN := Lib.hid hN
            clear hN
            rcases bt with _ | _
            · rcases Bool.eq_false_or_eq_true (inB y 0 ((xs.length : Int) - 1)) with h3 | h3
              · obtain ⟨y0, y1⟩ := inB_true h3
                obtain ⟨Y, rfl⟩ := Int.eq_ofNat_of_zero_le y0
                have hxor : bits .xor .i64 (X : Int) (Y : Int) = ((X ^^^ Y : Nat) : Int) := i64_xor_nat X Y (by omega) (by omega)
                have hx64 : X ^^^ Y < 64 := xor64 (by omega) (by omega)
                have hz0 : (0 : Int) ≤ ((X ^^^ Y : Nat) : Int) := by omega
                have hz1 : ((X ^^^ Y : Nat) : Int) < 64 := by omega
                rcases Bool.eq_false_or_eq_true (onebit (X ^^^ Y)) with h4 | h4
                · have HK : Hid (okW xs (2 ^ m) j = true) := by
                    unfold Hid
                    rw [← HL.out, HO.out, h1, Int.toNat_natCast, Int.toNat_natCast, h4]
                    simp
                  have H4 := Lib.hid h4
                  clear h4
                  go_wp2_with fail
                  refine (l01In_any _ _ _ _).mono ?_
                  rintro e w' ⟨rfl, rfl⟩
                  go_wp2_with fail
                  refine (l12Power_any _ _ ⟨by omega, by omega⟩).mono ?_
                  rintro e w' ⟨b, rfl, HQ, rfl⟩
                  have hb : b = true := by rw [HQ _ rfl (by omega)]; exact H4.out
                  subst hb
                  go_wp2
                  go_roundw
                  case rel => exact ⟨j + 1, by omega, by go_num, hS.step HK.out, HNS.out⟩
                  case measure => simp [intOf]; omega
                · have HF : Hid (cycB xs (m : Int) = false) := cycB_false_at hlt (by rw [Int.toNat_natCast, ← HL.out, HO.out, h1, h3, Int.toNat_natCast, Int.toNat_natCast, h4]; rfl)
                  have H4 := Lib.hid h4
                  clear h4
                  go_wp2_with fail
                  refine (l01In_any _ _ _ _).mono ?_
                  rintro e w' ⟨rfl, rfl⟩
                  go_wp2_with fail
                  refine (l12Power_any _ _ ⟨by omega, by omega⟩).mono ?_
                  rintro e w' ⟨b, rfl, HQ, rfl⟩
                  have hb : b = false := by rw [HQ _ rfl (by omega)]; exact H4.out
                  subst hb
                  go_wp2
                  go_ret
                  exact ⟨ret_bool HF.out.symm, HNB.out⟩
              · have HK : Hid (okW xs (2 ^ m) j = true) := by
                  unfold Hid
                  rw [← HL.out, HO.out, h1, h3]
                  rfl
                have HF : Hid (cycB xs (m : Int) = false) := cycB_false_at hmod (by rw [Int.toNat_natCast, ← HL.out]; exact okW_out hy.out h3)
                clear h3
                by_cases hy0 : y < 0
                · go_wp2_with fail
                  refine (l01In_any _ _ _ _).mono ?_
                  rintro e w' ⟨rfl, rfl⟩
                  go_wp2
                  go_ret
                  exact ⟨ret_bool HF.out.symm, HNB.out⟩
                · go_wp2_with fail
                  refine (l01In_any _ _ _ _).mono ?_
                  rintro e w' ⟨rfl, rfl⟩
                  go_wp2_with fail
                  refine (l12Power_any _ _ (bits_i64 _ _)).mono ?_
                  rintro e w' ⟨b, rfl, _, rfl⟩
                  rcases b with _ | _
                  · go_wp2
                    go_ret
                    exact ⟨ret_bool HF.out.symm, HNB.out⟩
                  · go_wp2
                    go_roundw
                    case rel => exact ⟨j + 1, by omega, by go_num, hS.step HK.out, HNS.out⟩
                    case measure => simp [intOf]; omega
            · have HF : Hid (cycB xs (m : Int) = false) := cycB_false_at hlt (by rw [Int.toNat_natCast, ← HL.out, HO.out, h1]; rfl)
              go_wp2_with fail
              refine (l01In_any _ _ _ _).mono ?_
              rintro e w' ⟨rfl, rfl⟩
              go_wp2
              go_ret
              exact ⟨ret_bool HF.out.symm, HNN.out.2⟩
          · have HF : Hid (cycB xs (m : Int) = false) := cycB_false_at hlt (by rw [Int.toNat_natCast, ← HL.out]; exact okW_out hx.out h1)
            have HNN := Lib.hid hN
            clear hN
            go_wp2_with fail
            refine (l01In_any _ _ _ _).mono ?_
            rintro e w' ⟨rfl, rfl⟩
            go_wp2
            go_ret
            exact ⟨ret_bool HF.out.symm, HNN.out.2⟩
        · have hkl : j = xs.length := by omega
          have HT : Hid (cycB xs (m : Int) = true) := cycB_true HI.out (by rw [Int.toNat_natCast]; exact HL.out) (by rw [Int.toNat_natCast, ← hkl]; exact hS)
          clear hkl
          go_wp2
          go_ret
          exact ⟨ret_bool HT.out.symm, hN.2⟩
    · have t0 : ((xs.length : Int) != 2 ^ m) = true := by simp [hlen]
      have HN := Lib.hid hlen
      clear hlen
      go_enter Try.func25, Try.ntmps25
      go_wp2_with (go_at_call 31; refine (l01In_any _ _ _ _).mono ?_; rintro e w' ⟨rfl, rfl⟩)
      go_ret
      exact ⟨ret_bool (by simp [cycB, HN.out]), Below.refl _ _⟩
  · go_enter Try.func25, Try.ntmps25
    go_wp2_with (go_at_call 31; refine (l01In_any _ _ _ _).mono ?_; rintro e w' ⟨rfl, rfl⟩)
    go_ret
    exact ⟨ret_bool (by simp [cycB, h]), Below.refl _ _⟩

set_option maxRecDepth 100000 in
set_option maxHeartbeats 1600000 in
theorem lIsGrayCycle_law (w : World) (A0 : Option Addr) (c0 : Nat) (xs0 : List Int) (r0 : Rd w A0 xs0) (_m0 : xs0.length ≤ maxLen) (b0 : ∀ x ∈ xs0, -9223372036854775808 ≤ x ∧ x ≤ 9223372036854775807) (n1 : Int) (b1 : -9223372036854775808 ≤ n1 ∧ n1 ≤ 9223372036854775807) :
    Calls Try.prog 8 #[.slice A0 xs0.length c0, .int .i64 n1] w fun e w' => e = .returned (.bool true) ∧ Below w.heap.size w w' := by
  have RA0 := Lib.hid r0
  have BA0 : AllI64 xs0 := b0
  clear r0 b0
  have BA1 : I64 n1 := b1
  clear b1
  by_cases h0 : xs0.length ≤ 1048576
  · skip
    go_enter Try.func8, Try.ntmps8
    go_wp2_with fail
    refine (toIntS_any _ _ _ _ (RA0.out.below (Below.refl w.heap.size w)) h0).mono ?_
    rintro e w1 ⟨A_S0, c_S0, rfl, S0_0, B1⟩
    have L_S0 := fun k hk => (S0_0.lt k hk).1
    have C2 := (Below.refl w.heap.size w).trans (B1.mono (Below.refl w.heap.size w).size)
    go_wp2_with fail
    refine (sIsGrayCycle_c _ _ _ _ S0_0.rd S0_0.cap.1 h0 BA0 _ BA1).mono ?_
    rintro e w3 ⟨rfl, B3⟩
    have C4 := C2.trans (B3.mono C2.size)
    have S0_4 := S0_0.below' B3
    go_wp2_with fail
    refine (toIntS_any _ _ _ _ (RA0.out.below C4) h0).mono ?_
    rintro e w5 ⟨A_X0, c_X0, rfl, X0_0, B5⟩
    have L_X0 := fun k hk => (X0_0.lt k hk).1
    have C6 := C4.trans (B5.mono C4.size)
    go_wp2_with fail
    refine (iIsGrayCycle_c _ _ _ _ X0_0.rd X0_0.cap.1 h0 BA0 _ BA1).mono ?_
    rintro e w7 ⟨rfl, B7⟩
    have C8 := C6.trans (B7.mono C6.size)
    have X0_8 := X0_0.below' B7
    go_wp2_with fail
    refine (toIntS_any _ _ _ _ (RA0.out.below C8) h0).mono ?_
    rintro e w9 ⟨A_T0, c_T0, rfl, T0_0, B9⟩
    have U_X0_T0 := fun k hk => (X0_8.lt k hk).2
    have L_T0 := fun k hk => (T0_0.lt k hk).1
    have C10 := C8.trans (B9.mono C8.size)
    have X0_10 := X0_8.below' B9
    go_wp2_with fail
    refine (eqIntS_same _ _ _ _ _ _ X0_10.rd T0_0.rd (by omega)).mono ?_
    rintro e w11 ⟨rfl, n11_, rfl⟩
    have C12 := below_drewN C10 n11_
    have X0_12 := X0_10.drewN n11_
    have T0_12 := T0_0.drewN n11_
    go_wp2
    go_ret
    exact ⟨rfl, C12⟩
  · unfold maxLen at _m0
    go_enter Try.func8, Try.ntmps8
    go_wp2
    go_ret
    exact ⟨rfl, Below.refl _ _⟩

end Go.Proofs.Ythnpobbpmgjhjaa
