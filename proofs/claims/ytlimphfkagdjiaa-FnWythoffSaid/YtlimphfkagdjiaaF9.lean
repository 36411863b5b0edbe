/-
  WALKS: FibWord (both packages), l03At, and the law over them.
-/
import Derived.Test.YtlimphfkagdjiaaF8
import Derived.Laws.Concat
import Derived.Laws.IdiomStrings
namespace Go.Proofs.Ytlimphfkagdjiaa
open Go.RowKit

/-- One letter of the Fibonacci word: b where the sparse digits of its place begin with 1. -/
def wordAt (i : Nat) : UInt8 := if (spR (i : Int)).getD 0 0 = 1 then 98 else 97
def wordL (k : Nat) : List UInt8 := (List.range k).map wordAt
theorem wordL_len (k : Nat) : (wordL k).length = k := by simp [wordL]
theorem wordL_succ (k : Nat) : wordL (k + 1) = wordL k ++ [wordAt k] := by simp [wordL, List.range_succ]
def wordS (k : Nat) : ByteArray := ⟨(wordL k).toArray⟩
theorem wordS_size (k : Nat) : (wordS k).size = k := by
  show (wordL k).toArray.size = k
  simp [wordL_len]
theorem wordS_add {k : Nat} (hk : k ≤ 200) {c : UInt8} (hc : wordAt k = c) (w : World) : (Op.stringOp .add (wordS k) ⟨#[c]⟩).run Try.prog w = .ok (.string (wordS (k + 1))) w := by
  have h := run_string_add_lists (P := Try.prog) w (wordL k) [c] (by rw [wordL_len]; omega) (by simp)
  unfold wordS
  rw [wordL_succ, hc]
  exact h
def wordR (k : Int) : ByteArray := if inB k 0 200 then wordS k.toNat else ⟨#[]⟩
theorem wordR_of {k : Nat} (h : inB (k : Int) 0 200 = true) : wordR (k : Int) = wordS k := by simp [wordR, h]
theorem wordR_no {k : Int} (h : inB k 0 200 = false) : wordR k = ⟨#[]⟩ := by simp [wordR, h]
theorem ret_string {a b : ByteArray} (h : a = b) : Ending.returned (.string a) = .returned (.string b) := by rw [h]

theorem l03At_any (A : Option Addr) (c : Nat) (xs : List Int) (w : World) (hr : Rd w A xs) (hl : xs.length ≤ 1099511627776) :
    Calls Try.prog 58 #[.slice A xs.length c, .int .i64 0] w fun e w' => e = .returned (.int .i64 (xs.getD 0 0)) ∧ w = w' := by
  by_cases h : xs.length = 0
  · have h0 : xs = [] := List.length_eq_zero_iff.1 h
    subst h0
    go_enter Try.func58, Try.ntmps58
    go_wp2
    go_ret
    exact ⟨rfl, rfl⟩
  · obtain ⟨ad, x, rfl, hx, hc⟩ := hr.at_ (k := 0) (by omega)
    have HX : Hid (xs.getD 0 0 = x) := by unfold Hid; simp [List.getD, hx.out]
    have c0 : (0 : Int) < xs.length := by omega
    have hc2 : w.cell? ad = some (.int .i64 x) := by
      rw [show ad.add 0 = ad by cases ad; simp [Addr.add]; try (split <;> simp_all)] at hc
      exact hc
    clear hx
    go_enter Try.func58, Try.ntmps58
    go_wp2
    go_ret
    exact ⟨ret_int HX.out.symm, rfl⟩

theorem l10Sparse_r {j : Nat} (hj : j ≤ 200) (w : World) :
    Calls Try.prog 54 #[.int .i64 (j : Int)] w fun e w' => ∃ A c, e = .returned (.slice A (spR (j : Int)).length c) ∧ Ow w' w.heap.size (.slice A (spR (j : Int)).length c) (spR (j : Int)) ∧ Below w.heap.size w w' := by
  have h := l10Sparse_any (j : Int) w (by omega) (by omega)
  rw [← spR_of (inB_of ⟨by omega, by omega⟩)] at h
  exact h

set_option maxHeartbeats 1600000 in
theorem sFibWord_c (w : World) (K : Int) (_h : I64 K) :
    Calls Try.prog 30 #[.int .i64 K] w fun e w' => e = .returned (.string (wordR K)) ∧ Below w.heap.size w w' := by
  rcases Bool.eq_false_or_eq_true (inB K 0 200) with h | h
  · obtain ⟨k0, k1⟩ := inB_true h
    obtain ⟨k, rfl⟩ : ∃ k : Nat, K = k := ⟨K.toNat, by omega⟩
    have HR := Lib.hid (wordR_of h)
    go_enter Try.func30, Try.ntmps30
    go_wp2_with fail
    refine (l01In_any _ _ _ _).mono ?_
    rintro e w' ⟨rfl, rfl⟩
    go_wp2
    go_loopw [3, 4] (fun s i wr => ∃ j : Nat, j ≤ k ∧ i = .int .i64 j ∧ s = .string (wordS j) ∧ Below w.heap.size w wr) (fun _ i _ => k - (intOf i).toNat)
    case atStart => exact ⟨0, Nat.zero_le _, rfl, rfl, Below.refl _ _⟩
    case round =>
      obtain ⟨j, hj, rfl, rfl, hB⟩ := hrel
      by_cases hlt : j < k
      · have HSP := Lib.hid (l10Sparse_r (j := j) (by omega) wr)
        have hlen : (spR (j : Int)).length ≤ 57 := spR_len57 _
        have c1 : (j : Int) < k := by omega
        by_cases hd : (spR (j : Int)).getD 0 0 = 1
        · have HA := Lib.hid (fun (u : World) => wordS_add (k := j) (c := 98) (by omega) (by unfold wordAt; rw [if_pos hd]) u)
          have HD := Lib.hid hd
          clear hd
          go_wp2_with fail
          refine (HSP.out).mono ?_
          rintro e w1 ⟨A, c, rfl, O, B1⟩
          have hadd := HA.out w1
          go_wp2_with fail
          refine (l03At_any _ _ _ _ O.rd (by omega)).mono ?_
          rintro e w' ⟨rfl, rfl⟩
          rw [HD.out]
          go_wp2
          go_roundw
          case rel => exact ⟨j + 1, by omega, by go_num, rfl, hB.trans (B1.mono hB.size)⟩
          case measure => simp [intOf]; omega
        · have HA := Lib.hid (fun (u : World) => wordS_add (k := j) (c := 97) (by omega) (by unfold wordAt; rw [if_neg hd]) u)
          have hd2 : ((spR (j : Int)).getD 0 0 == 1) = false := by simp only [beq_eq_false_iff_ne]; exact hd
          clear hd
          obtain ⟨d, hdd⟩ : ∃ d, (spR (j : Int)).getD 0 0 = d := ⟨_, rfl⟩
          rw [hdd] at hd2
          have HD := Lib.hid hdd
          clear hdd
          go_wp2_with fail
          refine (HSP.out).mono ?_
          rintro e w1 ⟨A, c, rfl, O, B1⟩
          have hadd := HA.out w1
          go_wp2_with fail
          refine (l03At_any _ _ _ _ O.rd (by omega)).mono ?_
          rintro e w' ⟨rfl, rfl⟩
          rw [HD.out]
          go_wp2
          go_roundw
          case rel => exact ⟨j + 1, by omega, by go_num, rfl, hB.trans (B1.mono hB.size)⟩
          case measure => simp [intOf]; omega
      · have hkl : j = k := by omega
        subst hkl
        go_wp2
        go_ret
        exact ⟨ret_string HR.out.symm, hB⟩
  · have HR := Lib.hid (wordR_no h)
    go_enter Try.func30, Try.ntmps30
    go_wp2_with fail
    refine (l01In_any _ _ _ _).mono ?_
    rintro e w' ⟨rfl, rfl⟩
    go_wp2
    go_ret
    exact ⟨ret_string HR.out.symm, Below.refl _ _⟩

theorem info5 : (Try.prog.info? 5).map (fun i => (i.zero, i.size, i.bytes)) = some (some (.int .u8 0), 1, 1) := by kernel_rfl

/-- The cells of the word's first j letters, and zeros up to k. -/
def wcells (k j : Nat) : List Value := (wordL j).map (fun b => Value.int .u8 (b.toNat : Int)) ++ List.replicate (k - j) (Value.int .u8 0)
theorem wcells_len {k j : Nat} (h : j ≤ k) : (wcells k j).length = k := by simp [wcells, wordL_len]; omega
theorem wcells_set {k j : Nat} (h : j < k) {c : UInt8} (hc : wordAt j = c) : (wcells k j).set j (Value.int .u8 (c.toNat : Int)) = wcells k (j + 1) := by
  unfold wcells
  rw [List.set_append_right _ _ (by simp [wordL_len])]
  simp only [List.length_map, wordL_len, Nat.sub_self]
  rw [show k - j = (k - (j + 1)) + 1 by omega, List.replicate_succ, List.set_cons_zero, wordL_succ, hc]
  simp
/-- A row of bytes in block b. -/
def RowB (w : World) (b : Nat) (C : List Value) : Prop := w.heap[b]? = some (.cells C.toArray 5 (0, 0))
theorem RowB.at_ {w : World} {b : Nat} {C : List Value} (h : RowB w b C) {j : Nat} {v : Value} (hv : C[j]? = some v) : w.cell? ⟨b, j, none⟩ = some v ∧ w.frozen? ⟨b, j, none⟩ = false := by
  refine ⟨?_, frozen_of_row w _ _ _ _ h⟩
  rw [cell_of_row w _ _ _ _ _ h]
  simpa using hv
theorem RowB.set {w : World} {b : Nat} {C : List Value} (h : RowB w b C) (j : Nat) (v : Value) : RowB (w.setCell ⟨b, j, none⟩ v) b (C.set j v) := by
  unfold RowB
  rw [heap_setCell_same w b j _ 5 _ h]
  simp
theorem RowB.below {w w' : World} {b : Nat} {C : List Value} (h : RowB w b C) (hb : Below w.heap.size w w') : RowB w' b C := by
  unfold RowB at h ⊢
  have hlt : b < w.heap.size := by
    rcases Nat.lt_or_ge b w.heap.size with hlt | hge
    · exact hlt
    · rw [Array.getElem?_eq_none hge] at h; cases h
  rw [hb.block b hlt]
  exact h
theorem wcells_back {k : Nat} {w : World} {b : Nat} (h : RowB w b (wcells k k)) (c : Nat) : (convert 35 9 (.slice (some ⟨b, 0, none⟩) k c)).run Try.prog w = .ok (.string (wordS k)) w := by
  have h2 := run_convert_bytes_back (P := Try.prog) w 35 9 5 ⟨b, 0, none⟩ c (wordL k) Try.underlying35 Try.underlying5 Try.underlying9 (fun j hj => by
    rw [Addr.add_lit, Nat.zero_add]
    refine (h.at_ ?_).1
    unfold wcells
    rw [List.getElem?_append_left (by simpa using hj)]
    simp [List.getElem?_eq_getElem hj])
  rw [wordL_len] at h2
  exact h2

set_option maxHeartbeats 3200000 in
theorem iFibWord_c (w : World) (K : Int) (_h : I64 K) :
    Calls Try.prog 31 #[.int .i64 K] w fun e w' => e = .returned (.string (wordR K)) ∧ Below w.heap.size w w' := by
  rcases Bool.eq_false_or_eq_true (inB K 0 200) with h | h
  · obtain ⟨k0, k1⟩ := inB_true h
    obtain ⟨k, rfl⟩ : ∃ k : Nat, K = k := ⟨K.toNat, by omega⟩
    have HR := Lib.hid (wordR_of h)
    obtain ⟨i0, hi, hz0, hz1, hz2⟩ := info_parts info5
    have hmk : ∀ u : World, (Instr.makeSlice 35 (.int .i64 (k : Int)) (.int .i64 (k : Int))).run Try.prog u =
        .ok (.slice (some ⟨u.heap.size, 0, none⟩) k k) (u.alloc (.cells (madeCells #[.int .u8 0] k) 5)) := fun u => by
      have h := run_make (P := Try.prog) u 35 5 i0 (.int .u8 0) Try.underlying35 hi hz0 .i64 .i64 (k : Int) (k : Int) (by omega) (Int.le_refl _) (by rw [hz2]; omega) (by omega)
      rw [show ((k : Int)).toNat = k by omega] at h
      simpa [hz1, Value.cells] using h
    have hst : RowB (w.alloc (.cells (madeCells #[.int .u8 0] k) 5)) w.heap.size (wcells k 0) := by
      unfold RowB
      rw [heap_alloc_new]
      congr 2
      apply Array.ext'
      rw [toList_madeCells_one]
      simp [wcells, wordL]
    have HST := Lib.hid hst
    clear hst
    go_enter Try.func31, Try.ntmps31
    go_wp2_with fail
    refine (within_any _ _ _ _).mono ?_
    rintro e w' ⟨rfl, rfl⟩
    go_wp2
    go_loopw [13] (fun i wr => ∃ j : Nat, j ≤ k ∧ i = .int .i64 j ∧ RowB wr w.heap.size (wcells k j) ∧ Below w.heap.size w wr ∧ w.heap.size < wr.heap.size) (fun i _ => k - (intOf i).toNat)
    case atStart => exact ⟨0, Nat.zero_le _, rfl, HST.out, (Below.refl _ _).alloc (Nat.le_refl _) _, by simp⟩
    case round =>
      obtain ⟨j, hj, rfl, hW, hB, hZ⟩ := hrel
      clear hmk
      by_cases hlt : j < k
      · have hv : (wcells k j)[j]? = some (Value.int .u8 0) := by
          unfold wcells
          rw [List.getElem?_append_right (by simp [wordL_len])]
          simp only [List.length_map, wordL_len, Nat.sub_self]
          rw [List.getElem?_replicate, if_pos (by omega)]
        obtain ⟨ha1, ha2⟩ := hW.at_ hv
        have c0 : (0 : Int) ≤ j := by omega
        have c1 : (j : Int) < k := by omega
        have hW1 := Lib.hid (hW.set j (Value.int .u8 97))
        have hB1 : Hid (Below w.heap.size w (wr.setCell ⟨w.heap.size, j, none⟩ (Value.int .u8 97))) := hB.setCell (Nat.le_refl _) _
        have HLen := Lib.hid (wcells_len (k := k) (j := j) hj)
        have HSP := Lib.hid (iSparseFib_c (wr.setCell ⟨w.heap.size, j, none⟩ (Value.int .u8 97)) (j : Int) ⟨by omega, by omega⟩)
        have hZ1 : (wr.setCell ⟨w.heap.size, j, none⟩ (Value.int .u8 97)).heap.size = wr.heap.size := by simp [World.setCell]
        have HZ1 := Lib.hid hZ1
        clear hv hW hZ1
        go_wp2_with fail
        refine (HSP.out).mono ?_
        rintro e w2 ⟨A, c, rfl, O, B2⟩
        have B3 := hB1.out.trans (B2.mono (by rw [HZ1.out]; omega))
        have Z3 : w.heap.size < w2.heap.size := Nat.lt_of_lt_of_le (by rw [HZ1.out]; exact hZ) B2.size
        have hW2 := hW1.out.below B2
        by_cases hl0 : (spR (j : Int)).length = 0
        · have hc : wordAt j = 97 := by
            unfold wordAt
            rw [List.length_eq_zero_iff.1 hl0]
            simp
          have HW3 := Lib.hid hW2
          have HC := Lib.hid hc
          have e0 : (((spR (j : Int)).length : Nat) : Int) = 0 := by omega
          rw [hl0]
          clear ha1 ha2 hc hl0 e0 hW2
          go_wp2
          go_roundw
          case rel =>
            have h5 := HW3.out
            rw [show (Value.int .u8 97) = Value.int .u8 (((97 : UInt8).toNat : Nat) : Int) by rfl, wcells_set hlt HC.out] at h5
            exact ⟨j + 1, by omega, by go_num, h5, B3, Z3⟩
          case measure => simp [intOf]; omega
        · obtain ⟨ad, x, rfl, hx, hcx⟩ := O.rd.at_ (k := 0) (by omega)
          have hcx2 : w2.cell? ad = some (.int .i64 x) := by
            rw [show ad.add 0 = ad by cases ad; simp [Addr.add]; try (split <;> simp_all)] at hcx
            exact hcx
          have hL0 : (0 : Int) < (spR (j : Int)).length := by omega
          obtain ⟨b1, b2⟩ := hW2.at_ (j := j) (v := Value.int .u8 97) (by rw [List.getElem?_set_self (by rw [HLen.out]; exact hlt)])
          have HW3 := Lib.hid hW2
          have HW4 := Lib.hid (hW2.set j (Value.int .u8 98))
          have hB4 : Hid (Below w.heap.size w (w2.setCell ⟨w.heap.size, j, none⟩ (Value.int .u8 98))) := B3.setCell (Nat.le_refl _) _
          clear ha1 ha2 hW2
          by_cases hx1 : x = 1
          · subst hx1
            have HC : Hid (wordAt j = 98) := by unfold Hid wordAt; simp [List.getD, hx.out]
            clear hx
            go_wp2
            go_roundw
            case rel =>
              have h5 := HW4.out
              rw [List.set_set, show (Value.int .u8 98) = Value.int .u8 (((98 : UInt8).toNat : Nat) : Int) by rfl, wcells_set hlt HC.out] at h5
              exact ⟨j + 1, by omega, by go_num, h5, hB4.out, by simpa [World.setCell] using Z3⟩
            case measure => simp [intOf]; omega
          · have HC : Hid (wordAt j = 97) := by unfold Hid wordAt; simp [List.getD, hx.out, hx1]
            have hx2 : (x == 1) = false := by simp [hx1]
            clear hx hx1
            go_wp2
            go_roundw
            case rel =>
              have h5 := HW3.out
              rw [show (Value.int .u8 97) = Value.int .u8 (((97 : UInt8).toNat : Nat) : Int) by rfl, wcells_set hlt HC.out] at h5
              exact ⟨j + 1, by omega, by go_num, h5, B3, Z3⟩
            case measure => simp [intOf]; omega
      · have hkl : j = k := by omega
        subst hkl
        have hconv := wcells_back hW j
        go_wp2
        go_ret
        exact ⟨ret_string HR.out.symm, hB⟩
  · have HR := Lib.hid (wordR_no h)
    go_enter Try.func31, Try.ntmps31
    go_wp2_with fail
    refine (within_any _ _ _ _).mono ?_
    rintro e w' ⟨rfl, rfl⟩
    go_wp2
    go_ret
    exact ⟨ret_string HR.out.symm, Below.refl _ _⟩

set_option maxRecDepth 100000 in
set_option maxHeartbeats 1600000 in
theorem lFibWord_law (w : World) (n0 : Int) (b0 : -9223372036854775808 ≤ n0 ∧ n0 ≤ 9223372036854775807) :
    Calls Try.prog 9 #[.int .i64 n0] w fun e w' => e = .returned (.bool true) ∧ Below w.heap.size w w' := by
  have BA0 : I64 n0 := b0
  clear b0
  go_enter Try.func9, Try.ntmps9
  go_wp2_with fail
  refine (sFibWord_c _ _ BA0).mono ?_
  rintro e w1 ⟨rfl, B1⟩
  have C2 := (Below.refl w.heap.size w).trans (B1.mono (Below.refl w.heap.size w).size)
  go_wp2_with fail
  refine (iFibWord_c _ _ BA0).mono ?_
  rintro e w3 ⟨rfl, B3⟩
  have C4 := C2.trans (B3.mono C2.size)
  go_wp2
  go_ret
  exact ⟨rfl, C4⟩

end Go.Proofs.Ytlimphfkagdjiaa
