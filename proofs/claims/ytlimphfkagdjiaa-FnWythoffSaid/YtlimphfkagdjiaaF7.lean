/-
  WALKS: CountFib (both packages) and the law over it.
-/
import Derived.Test.YtlimphfkagdjiaaF6
import Derived.Test.YtlimphfkagdjiaaMath3
namespace Go.Proofs.Ytlimphfkagdjiaa
open Go.RowKit

theorem cf_small {p : Nat} (n : Int) (hp : p ≤ 31) : 0 ≤ cf p n ∧ cf p n ≤ 2147483648 := by
  have h := cf_bound p n
  have h1 : 2 ^ p ≤ 2 ^ 31 := Nat.pow_le_pow_right (by omega) hp
  have e : ((2 ^ p : Nat) : Int) = (2 : Int) ^ p := by simp
  omega
theorem cf_zero' {p : Nat} {n : Int} (h : n = 0) : cf p n = 1 := by subst h; exact cf_zero p
theorem cf_end {n : Int} (h : n ≠ 0) : cf 0 n = 0 := by simp [cf, h]
theorem cf_big {p : Nat} {n : Int} (h0 : n ≠ 0) (h : (fibN (p + 2) : Int) - 2 < n) : cf (p + 1) n = 0 := by simp only [cf]; rw [if_neg h0, if_pos (Or.inr h)]
theorem cf_step {p : Nat} {n : Int} (h0 : n ≠ 0) (h1 : ¬ n < 0) (h : ¬ (fibN (p + 2) : Int) - 2 < n) : cf (p + 1) n = cf p n + cf p (n - (fibN p : Nat)) := by
  simp only [cf]; rw [if_neg h0, if_neg (by omega)]

set_option maxHeartbeats 1600000 in
theorem countFib_any (p : Nat) : ∀ (n : Int) (w : World), p ≤ 30 → -1000000000000000 ≤ n + 10000000000000 * p → n ≤ 1000000 →
    Calls Try.prog 55 #[.int .i64 n, .int .i64 (p : Int)] w fun e w' => e = .returned (.int .i64 (cf p n)) ∧ w = w' := by
  induction p with
  | zero =>
    intro n w _ _ _
    by_cases h0 : n = 0
    · have HC := Lib.hid (cf_zero' (p := 0) h0)
      have t : (n == 0) = true := by simp [h0]
      clear h0
      go_enter Try.func55, Try.ntmps55
      go_wp2_with fail
      go_ret
      exact ⟨ret_int HC.out.symm, rfl⟩
    · have HC := Lib.hid (cf_end h0)
      have t : (n == 0) = false := by simp [h0]
      clear h0
      by_cases h1 : n < 0
      all_goals
        go_enter Try.func55, Try.ntmps55
        go_wp2_with fail
        go_ret
        exact ⟨ret_int HC.out.symm, rfl⟩
  | succ p ih =>
    intro n w hp hlo hhi
    have IH := Lib.hid ih
    clear ih
    have ep : ((p + 1 : Nat) : Int) = (p : Int) + 1 := by omega
    rw [ep]
    rw [ep] at hlo
    clear ep
    by_cases h0 : n = 0
    · have HC := Lib.hid (cf_zero' (p := p + 1) h0)
      have t : (n == 0) = true := by simp [h0]
      clear h0
      go_enter Try.func55, Try.ntmps55
      go_wp2_with fail
      go_ret
      exact ⟨ret_int HC.out.symm, rfl⟩
    · have H0 := Lib.hid h0
      have t : (n == 0) = false := by simp [h0]
      clear h0
      by_cases h1 : n < 0
      · have HC := Lib.hid (cf_neg (p := p + 1) h1)
        go_enter Try.func55, Try.ntmps55
        go_wp2_with fail
        go_ret
        exact ⟨ret_int HC.out.symm, rfl⟩
      · have HF2 : Hid (fibPlaceR ((p : Int) + 1 + 1) = ((fibN (p + 2) : Nat) : Int)) := fibPlaceR_of (k := p + 2) (by omega)
        have HF0 := Lib.hid (fibPlaceR_of (k := p) (by omega))
        have t2 : ((p : Int) + 1 == 0) = false := by simp; omega
        have l2 := fibN_le (n := p + 2) (by omega)
        have l0 := fibN_le (n := p) (by omega)
        have l1 := (fibN_pos (p + 2)).1
        by_cases h2 : (fibN (p + 2) : Int) - 2 < n
        · have HC := Lib.hid (cf_big (p := p) H0.out h2)
          obtain ⟨f, hf⟩ : ∃ f, fibN (p + 2) = f := ⟨_, rfl⟩
          rw [hf] at HF2 l2 l1 h2
          clear hf
          go_enter Try.func55, Try.ntmps55
          go_wp2_with fail
          refine (iFibPlace_any _ _).mono ?_
          rintro e w' ⟨rfl, rfl⟩
          rw [HF2.out]
          go_wp2_with fail
          go_ret
          exact ⟨ret_int HC.out.symm, rfl⟩
        · have HC := Lib.hid (cf_step (p := p) H0.out h1 h2)
          have b1 := cf_small (p := p) n (by omega)
          have b2 := cf_small (p := p) (n - (fibN p : Nat)) (by omega)
          obtain ⟨f, hf⟩ : ∃ f, fibN (p + 2) = f := ⟨_, rfl⟩
          obtain ⟨g, hg⟩ : ∃ g, fibN p = g := ⟨_, rfl⟩
          rw [hf] at HF2 l2 l1 h2
          rw [hg] at HF0 l0 HC b2
          clear hf hg
          go_enter Try.func55, Try.ntmps55
          go_wp2_with fail
          refine (iFibPlace_any _ _).mono ?_
          rintro e w' ⟨rfl, rfl⟩
          rw [HF2.out]
          go_wp2_with fail
          refine (IH.out n _ (by omega) (by omega) hhi).mono ?_
          rintro e w' ⟨rfl, rfl⟩
          go_wp2_with fail
          refine (iFibPlace_any _ _).mono ?_
          rintro e w' ⟨rfl, rfl⟩
          rw [HF0.out]
          go_wp2_with fail
          refine (IH.out (n - (g : Int)) _ (by omega) (by omega) (by omega)).mono ?_
          rintro e w' ⟨rfl, rfl⟩
          go_wp2
          go_ret
          exact ⟨ret_int HC.out.symm, rfl⟩

set_option maxHeartbeats 1600000 in
theorem l10Count_any (p : Nat) : ∀ (n : Int) (w : World), p ≤ 30 → -1000000000000000 ≤ n + 10000000000000 * p → n ≤ 1000000 →
    Calls Try.prog 53 #[.int .i64 n, .int .i64 ((p : Int) - 1)] w fun e w' => e = .returned (.int .i64 (cf p n)) ∧ w = w' := by
  induction p with
  | zero =>
    intro n w _ _ _
    by_cases h0 : n = 0
    · have HC := Lib.hid (cf_zero' (p := 0) h0)
      have t : (n == 0) = true := by simp [h0]
      clear h0
      go_enter Try.func53, Try.ntmps53
      go_wp2_with fail
      go_ret
      exact ⟨ret_int HC.out.symm, rfl⟩
    · have HC := Lib.hid (cf_end h0)
      have t : (n == 0) = false := by simp [h0]
      clear h0
      by_cases h1 : n < 0
      all_goals
        go_enter Try.func53, Try.ntmps53
        go_wp2_with fail
        go_ret
        exact ⟨ret_int HC.out.symm, rfl⟩
  | succ p ih =>
    intro n w hp hlo hhi
    have IH := Lib.hid ih
    clear ih
    have ep : ((p + 1 : Nat) : Int) - 1 = (p : Int) := by omega
    rw [ep]
    clear ep
    by_cases h0 : n = 0
    · have HC := Lib.hid (cf_zero' (p := p + 1) h0)
      have t : (n == 0) = true := by simp [h0]
      clear h0
      go_enter Try.func53, Try.ntmps53
      go_wp2_with fail
      go_ret
      exact ⟨ret_int HC.out.symm, rfl⟩
    · have H0 := Lib.hid h0
      have t : (n == 0) = false := by simp [h0]
      clear h0
      by_cases h1 : n < 0
      · have HC := Lib.hid (cf_neg (p := p + 1) h1)
        go_enter Try.func53, Try.ntmps53
        go_wp2_with fail
        go_ret
        exact ⟨ret_int HC.out.symm, rfl⟩
      · have HF2 : Hid (fibPlaceR ((p : Int) + 2) = ((fibN (p + 2) : Nat) : Int)) := fibPlaceR_of (k := p + 2) (by omega)
        have HF0 := Lib.hid (fibPlaceR_of (k := p) (by omega))
        have l2 := fibN_le (n := p + 2) (by omega)
        have l0 := fibN_le (n := p) (by omega)
        have l1 := (fibN_pos (p + 2)).1
        by_cases h2 : (fibN (p + 2) : Int) - 2 < n
        · have HC := Lib.hid (cf_big (p := p) H0.out h2)
          obtain ⟨f, hf⟩ : ∃ f, fibN (p + 2) = f := ⟨_, rfl⟩
          rw [hf] at HF2 l2 l1 h2
          clear hf
          go_enter Try.func53, Try.ntmps53
          go_wp2_with fail
          refine (sFibPlace_any _ _).mono ?_
          rintro e w' ⟨rfl, rfl⟩
          rw [HF2.out]
          go_wp2_with fail
          go_ret
          exact ⟨ret_int HC.out.symm, rfl⟩
        · have HC := Lib.hid (cf_step (p := p) H0.out h1 h2)
          have b1 := cf_small (p := p) n (by omega)
          have b2 := cf_small (p := p) (n - (fibN p : Nat)) (by omega)
          obtain ⟨f, hf⟩ : ∃ f, fibN (p + 2) = f := ⟨_, rfl⟩
          obtain ⟨g, hg⟩ : ∃ g, fibN p = g := ⟨_, rfl⟩
          rw [hf] at HF2 l2 l1 h2
          rw [hg] at HF0 l0 HC b2
          clear hf hg
          go_enter Try.func53, Try.ntmps53
          go_wp2_with fail
          refine (sFibPlace_any _ _).mono ?_
          rintro e w' ⟨rfl, rfl⟩
          rw [HF2.out]
          go_wp2_with fail
          refine (sFibPlace_any _ _).mono ?_
          rintro e w' ⟨rfl, rfl⟩
          rw [HF0.out]
          go_wp2_with fail
          refine (IH.out (n - (g : Int)) _ (by omega) (by omega) (by omega)).mono ?_
          rintro e w' ⟨rfl, rfl⟩
          go_wp2_with fail
          refine (IH.out n _ (by omega) (by omega) hhi).mono ?_
          rintro e w' ⟨rfl, rfl⟩
          go_wp2
          go_ret
          exact ⟨ret_int (by rw [HC.out, Int.add_comm]), rfl⟩

def countR (n : Int) : Int := if inB n 0 100000 then cf 30 n else -1
theorem fibN_25 : fibN 25 = 196418 := by decide +kernel
theorem sparse_len25 {n : Int} (h0 : 0 ≤ n) (h1 : n ≤ 100000) : (trimL (dg usedS 57 n)).length ≤ 25 ∧ cf 30 n = cf (trimL (dg usedS 57 n)).length n := by
  have hn : n < (fibN 25 : Int) := by rw [fibN_25]; omega
  have e : trimL (dg usedS 57 n) = trimL (dg usedS 25 n) := trimL_dg_high (by omega) fun j hj => by
    have := fibN_mono hj
    unfold usedS
    apply decide_eq_false
    omega
  have h := sparse_length h0 hn
  rw [e]
  exact ⟨h.2, cf_high h.1 (by omega)⟩

theorem iCountFib_c (w : World) (N : Int) (_h : I64 N) :
    Calls Try.prog 27 #[.int .i64 N] w fun e w' => e = .returned (.int .i64 (countR N)) ∧ Below w.heap.size w w' := by
  rcases Bool.eq_false_or_eq_true (inB N 0 100000) with h | h
  · obtain ⟨h0, h1⟩ := inB_true h
    have HE : Hid (countR N = cf 30 N) := by unfold Hid; simp only [countR, h, if_true]
    have HC := Lib.hid (countFib_any 30 N w (by omega) (by omega) (by omega))
    go_enter Try.func27, Try.ntmps27
    go_wp2_with fail
    refine (within_any _ _ _ _).mono ?_
    rintro e w' ⟨rfl, rfl⟩
    go_wp2_with fail
    refine (HC.out).mono ?_
    rintro e w' ⟨rfl, rfl⟩
    go_wp2
    go_ret
    exact ⟨ret_int HE.out.symm, Below.refl _ _⟩
  · have HE : Hid (countR N = -1) := by unfold Hid; simp [countR, h]
    go_enter Try.func27, Try.ntmps27
    go_wp2_with fail
    refine (within_any _ _ _ _).mono ?_
    rintro e w' ⟨rfl, rfl⟩
    go_wp2
    go_ret
    exact ⟨ret_int HE.out.symm, Below.refl _ _⟩
theorem sCountFib_c (w : World) (N : Int) (_h : I64 N) :
    Calls Try.prog 26 #[.int .i64 N] w fun e w' => e = .returned (.int .i64 (countR N)) ∧ Below w.heap.size w w' := by
  rcases Bool.eq_false_or_eq_true (inB N 0 100000) with h | h
  · obtain ⟨h0, h1⟩ := inB_true h
    have hs := sparse_len25 h0 h1
    have HE : Hid (countR N = cf (trimL (dg usedS 57 N)).length N) := by unfold Hid; rw [← hs.2]; simp only [countR, h, if_true]
    have h25 := hs.1
    clear hs
    obtain ⟨L, hL⟩ : ∃ L, (trimL (dg usedS 57 N)).length = L := ⟨_, rfl⟩
    have HSP := Lib.hid (l10Sparse_any N w h0 (by omega))
    rw [hL] at HSP HE h25
    clear hL
    go_enter Try.func26, Try.ntmps26
    go_wp2_with fail
    refine (l01In_any _ _ _ _).mono ?_
    rintro e w' ⟨rfl, rfl⟩
    go_wp2_with fail
    refine (HSP.out).mono ?_
    rintro e w1 ⟨A, c, rfl, _, B1⟩
    go_wp2_with fail
    refine (l10Count_any L N _ (by omega) (by omega) (by omega)).mono ?_
    rintro e w' ⟨rfl, rfl⟩
    go_wp2
    go_ret
    exact ⟨ret_int HE.out.symm, B1⟩
  · have HE : Hid (countR N = -1) := by unfold Hid; simp [countR, h]
    go_enter Try.func26, Try.ntmps26
    go_wp2_with fail
    refine (l01In_any _ _ _ _).mono ?_
    rintro e w' ⟨rfl, rfl⟩
    go_wp2
    go_ret
    exact ⟨ret_int HE.out.symm, Below.refl _ _⟩

set_option maxRecDepth 100000 in
set_option maxHeartbeats 1600000 in
theorem lCountFib_law (w : World) (n0 : Int) (b0 : -9223372036854775808 ≤ n0 ∧ n0 ≤ 9223372036854775807) :
    Calls Try.prog 7 #[.int .i64 n0] w fun e w' => e = .returned (.bool true) ∧ Below w.heap.size w w' := by
  have BA0 : I64 n0 := b0
  clear b0
  go_enter Try.func7, Try.ntmps7
  go_wp2_with fail
  refine (sCountFib_c _ _ BA0).mono ?_
  rintro e w1 ⟨rfl, B1⟩
  have C2 := (Below.refl w.heap.size w).trans (B1.mono (Below.refl w.heap.size w).size)
  go_wp2_with fail
  refine (iCountFib_c _ _ BA0).mono ?_
  rintro e w3 ⟨rfl, B3⟩
  have C4 := C2.trans (B3.mono C2.size)
  go_wp2
  go_ret
  exact ⟨rfl, C4⟩

end Go.Proofs.Ytlimphfkagdjiaa
