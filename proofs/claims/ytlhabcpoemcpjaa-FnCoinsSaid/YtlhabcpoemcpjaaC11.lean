/-
  WALKS: sumOf, l02Sum, FirstUngreedy (both packages) and the law over the last.
-/
import Derived.Test.YtlhabcpoemcpjaaC10
import Derived.Test.YtlhabcpoemcpjaaC4
import Derived.Deep.RegionHeld3
namespace Go.Proofs.Ytlhabcpoemcpjaa
open Go.RowKit

/-- The sum of the first k numbers. -/
def sumTo (xs : List Int) : Nat → Int
  | 0 => 0
  | k + 1 => sumTo xs k + xs.getD k 0
theorem sumTo_zero (xs : List Int) : sumTo xs 0 = 0 := rfl
theorem sumTo_succ {xs : List Int} {k : Nat} {x : Int} (hx : xs[k]? = some x) : sumTo xs (k + 1) = sumTo xs k + x := by simp [sumTo, List.getD, hx]
theorem sumTo_bound {xs : List Int} (h : ∀ x ∈ xs, (0 : Int) ≤ x ∧ x ≤ 1000000) : ∀ k, k ≤ xs.length → 0 ≤ sumTo xs k ∧ sumTo xs k ≤ k * 1000000 := by
  intro k
  induction k with
  | zero => intro _; simp [sumTo]
  | succ k ih =>
    intro hk
    have hx : xs[k]? = some xs[k] := List.getElem?_eq_getElem (by omega)
    have hb := h _ (List.mem_of_getElem? hx)
    rw [sumTo_succ hx]
    have := ih (by omega)
    omega
attribute [irreducible] sumTo
def sumL (xs : List Int) : Int := sumTo xs xs.length
theorem grD_mem {cs : List Int} (hcs : ∀ x ∈ cs, (1 : Int) ≤ x ∧ x ≤ 1000) : ∀ k, k ≤ cs.length → ∀ n, 0 ≤ n → ∀ x ∈ grD cs k n, (0 : Int) ≤ x ∧ x ≤ n := by
  intro k
  induction k with
  | zero => intro _ n _ x hx; rw [grD_zero] at hx; cases hx
  | succ k ih =>
    intro hk n hn x hx
    have hc : cs[k]? = some cs[k] := List.getElem?_eq_getElem (by omega)
    have hb := hcs _ (List.mem_of_getElem? hc)
    rw [grD_step hc, List.mem_append] at hx
    rcases hx with hx | hx
    · have h0 := Int.emod_nonneg n (show cs[k] ≠ 0 by omega)
      have h2 := Int.ediv_nonneg hn (show 0 ≤ cs[k] by omega)
      have h3 := Int.emod_add_mul_ediv n cs[k]
      have h4 : 0 ≤ cs[k] * (n / cs[k]) := Int.mul_nonneg (by omega) h2
      have := ih (by omega) _ h0 x hx
      omega
    · rw [List.mem_singleton] at hx
      subst hx
      exact ⟨Int.ediv_nonneg hn (by omega), Int.ediv_le_self _ hn⟩
theorem greedyR_mem (n : Int) (cs : List Int) : ∀ x ∈ greedyR n cs, (0 : Int) ≤ x ∧ x ≤ 100000 := by
  unfold greedyR
  split
  · rename_i h
    rw [Bool.and_eq_true] at h
    have hb := inB_true h.2
    obtain ⟨p1, p2, p3, _, _⟩ := coinsB_parts h.1
    intro x hx
    have := grD_mem p3 _ (Nat.le_refl _) n hb.1 x hx
    omega
  · intro x hx; cases hx


set_option maxHeartbeats 800000 in
theorem sumOf_any (A : Option Addr) (c : Nat) (xs : List Int) (w : World) (hr : Rd w A xs) (hl : xs.length ≤ 1000) (hb : ∀ x ∈ xs, (0 : Int) ≤ x ∧ x ≤ 1000000) :
    Calls Try.prog 48 #[.slice A xs.length c] w fun e w' => e = .returned (.int .i64 (sumL xs)) ∧ w = w' := by
  have HR := Lib.hid hr
  have HX := Lib.hid hb
  have HB := Lib.hid (sumTo_bound hb)
  clear hr hb
  go_enter Try.func48, Try.ntmps48
  go_wp2
  go_loop [3, 8] (fun v i => ∃ k : Nat, k ≤ xs.length ∧ i = .int .i64 k ∧ v = .int .i64 (sumTo xs k)) (fun _ i => xs.length - (intOf i).toNat)
  case atStart => exact ⟨0, Nat.zero_le _, rfl, by rw [sumTo_zero]⟩
  case round =>
    obtain ⟨k, hk, rfl, rfl⟩ := hrel
    by_cases hlt : k < xs.length
    · obtain ⟨ad, x, rfl, hx, hc⟩ := HR.out.at_ hlt
      have b1 := HB.out k (by omega)
      have b2 := HX.out x (List.mem_of_getElem? hx.out)
      have HS := Lib.hid (sumTo_succ hx.out)
      obtain ⟨s, hs⟩ : ∃ s, sumTo xs k = s := ⟨_, rfl⟩
      rw [hs] at b1 HS
      rw [hs]
      clear hs hx
      go_wp2
      go_round
      case rel => exact ⟨k + 1, by omega, by go_num, by rw [HS.out]⟩
      case measure => simp [intOf]; omega
    · have hkl : k = xs.length := by omega
      subst hkl
      go_wp2
      go_ret
      exact ⟨rfl, rfl⟩


set_option maxHeartbeats 800000 in
theorem l02Sum_any (A : Option Addr) (c : Nat) (xs : List Int) (w : World) (hr : Rd w A xs) (hl : xs.length ≤ 1000) (hb : ∀ x ∈ xs, (0 : Int) ≤ x ∧ x ≤ 1000000) :
    Calls Try.prog 47 #[.slice A xs.length c] w fun e w' => e = .returned (.int .i64 (sumL xs)) ∧ w = w' := by
  have HR := Lib.hid hr
  have HX := Lib.hid hb
  have HB := Lib.hid (sumTo_bound hb)
  clear hr hb
  go_enter Try.func47, Try.ntmps47
  go_wp2
  go_loop [3, 8] (fun v i => ∃ k : Nat, k ≤ xs.length ∧ i = .int .i64 k ∧ v = .int .i64 (sumTo xs k)) (fun _ i => xs.length - (intOf i).toNat)
  case atStart => exact ⟨0, Nat.zero_le _, rfl, by rw [sumTo_zero]⟩
  case round =>
    obtain ⟨k, hk, rfl, rfl⟩ := hrel
    by_cases hlt : k < xs.length
    · obtain ⟨ad, x, rfl, hx, hc⟩ := HR.out.at_ hlt
      have b1 := HB.out k (by omega)
      have b2 := HX.out x (List.mem_of_getElem? hx.out)
      have HS := Lib.hid (sumTo_succ hx.out)
      obtain ⟨s, hs⟩ : ∃ s, sumTo xs k = s := ⟨_, rfl⟩
      rw [hs] at b1 HS
      rw [hs]
      clear hs hx
      go_wp2
      go_round
      case rel => exact ⟨k + 1, by omega, by go_num, by rw [HS.out]⟩
      case measure => simp [intOf]; omega
    · have hkl : k = xs.length := by omega
      subst hkl
      go_wp2
      go_ret
      exact ⟨rfl, rfl⟩


/-- Greedy digits do worse than the fewest at n. -/
def worse (cs : List Int) (M n : Nat) : Bool := decide ((fewT cs M).getD n 0 < sumL (greedyR n cs))
def firstR (cs : List Int) (M : Int) : Int := if coinsB cs && inB M 0 400 then (match (List.range (M.toNat + 1)).find? (worse cs M.toNat) with
  | some n => (n : Int)
  | none => -1) else -1
theorem firstR_no1 {cs : List Int} {M : Int} (h : coinsB cs = false) : firstR cs M = -1 := by simp [firstR, h]
theorem firstR_no2 {cs : List Int} {M : Int} (h : inB M 0 400 = false) : firstR cs M = -1 := by simp [firstR, h]
theorem firstR_at {cs : List Int} {M n : Nat} (h1 : coinsB cs = true) (h2 : inB (M : Int) 0 400 = true) (hn : n ≤ M) (hw : worse cs M n = true) (hb : ∀ j, j < n → worse cs M j = false) : firstR cs M = n := by
  have : (List.range (M + 1)).find? (worse cs M) = some n := by
    rw [List.find?_range_eq_some]
    exact ⟨hw, List.mem_range.2 (by omega), fun j hj => by rw [hb j hj]; rfl⟩
  unfold firstR
  rw [h1, h2]
  simp only [Int.toNat_natCast, Bool.and_self, if_true]
  rw [this]
theorem firstR_none {cs : List Int} {M : Nat} (hb : ∀ j, j < M + 1 → worse cs M j = false) : firstR cs M = -1 := by
  have : (List.range (M + 1)).find? (worse cs M) = none := by
    rw [List.find?_eq_none]
    exact fun j hj => by rw [hb j (List.mem_range.1 hj)]; simp
  unfold firstR
  split
  · simp only [Int.toNat_natCast]
    rw [this]
  · rfl
theorem worse_eq {cs : List Int} {M n : Nat} {t : Int} (ht : (fewT cs M)[n]? = some t) : worse cs M n = decide (t < sumL (greedyR n cs)) := by
  unfold worse
  rw [List.getD, ht]
  rfl
theorem sumL_bound {n : Nat} {cs : List Int} : 0 ≤ sumL (greedyR n cs) ∧ sumL (greedyR n cs) ≤ 10000000 := by
  have h1 := greedyR_len10 n cs
  have := sumTo_bound (xs := greedyR n cs) (fun x hx => by have := greedyR_mem n cs x hx; omega) _ (Nat.le_refl _)
  unfold sumL
  omega

set_option maxHeartbeats 3200000 in
theorem iFirstUngreedy_c (w : World) (B : Option Addr) (c' : Nat) (cs : List Int) (hb : Rd w B cs) (hl : cs.length ≤ 1048576) (hab : AllI64 cs) (M : Int) (_hM : I64 M) :
    Calls Try.prog 32 #[.slice B cs.length c', .int .i64 M] w fun e w' => e = .returned (.int .i64 (firstR cs M)) ∧ Below w.heap.size w w' := by
  have CO := iCoinsOk_any B c' cs w hb (by omega)
  rcases Bool.eq_false_or_eq_true (coinsB cs) with h | h
  · rw [h] at CO
    have CO2 := Lib.hid CO
    clear CO
    rcases Bool.eq_false_or_eq_true (inB M 0 400) with h2 | h2
    · obtain ⟨n0, n1⟩ := inB_true h2
      obtain ⟨m, rfl⟩ : ∃ n : Nat, M = n := ⟨M.toNat, by omega⟩
      have HAT := Lib.hid (fun n hn hw hb => firstR_at (M := m) (n := n) h h2 hn hw hb)
      have HB := Lib.hid hb
      have HFB := Lib.hid (fewT_bounds cs m)
      have FE := Lib.hid (fewest_any B c' m cs w hb h (by omega))
      have eL := fewT_len cs m
      clear hb
      go_enter Try.func32, Try.ntmps32
      go_wp2_with fail
      refine (CO2.out).mono ?_
      rintro e w' ⟨rfl, rfl⟩
      go_wp2_with fail
      refine (within_any _ _ _ _).mono ?_
      rintro e w' ⟨rfl, rfl⟩
      go_wp2_with fail
      refine (FE.out).mono ?_
      rintro e w1 ⟨A, c, rfl, O1, B1⟩
      have hp : 0 < (fewT cs m).length := by omega
      obtain ⟨g, rfl⟩ := O1.addr hp
      have HO1 := Lib.hid O1
      have hg1 : g < w1.heap.size := (O1.lt g rfl).2
      clear O1
      go_wp2
      go_loopw [20] (fun i wr => ∃ n : Nat, n ≤ m + 1 ∧ i = .int .i64 n ∧ Hid (∀ j, j < n → worse cs m j = false) ∧ Below w1.heap.size w1 wr) (fun i _ => m + 1 - (intOf i).toNat)
      case atStart => exact ⟨0, Nat.zero_le _, rfl, fun j hj => absurd hj (by omega), Below.refl _ _⟩
      case round =>
        obtain ⟨n, hn, rfl, hW, hB⟩ := hrel
        by_cases hlt : n < m + 1
        · have OR := HO1.out.below' hB
          obtain ⟨g2, t, eg, ht, hct, _, _⟩ := OR.at_ (k := n) (by rw [eL]; omega)
          obtain rfl : g = g2 := by cases eg; rfl
          have HWE := Lib.hid (worse_eq ht.out)
          have bt := HFB.out t (List.mem_of_getElem? ht.out)
          have RB := (HB.out.below B1).below hB
          have IN64 : I64 (n : Int) := ⟨by omega, by omega⟩
          have LG : (⟨g, n, none⟩ : Addr).block < wr.heap.size := Nat.lt_of_lt_of_le hg1 hB.size
          have HL10 := greedyR_len10 (n : Int) cs
          have HME := Lib.hid (fun x hx => show (0 : Int) ≤ x ∧ x ≤ 1000000 by have := greedyR_mem (n : Int) cs x hx; omega)
          have sb := sumL_bound (n := n) (cs := cs)
          have c0 : (0 : Int) ≤ n := by omega
          have c1 : (n : Int) < (m : Int) + 1 := by omega
          have c2 : (n : Int) ≤ 400 := by omega
          clear OR ht eg hp h h2
          go_wp2_with fail
          go_region_held3 (fun w' => w'.cell? ⟨g, n, none⟩ = some (.int .i64 t)) (first | go_keep | (rw [B2.cell LG]; exact hct))
            (first
              | ((go_at_call 26; refine (iGreedyCoins_c _ _ IN64 _ _ _ (RB.drewN _) hl hab).mono ?_; rintro e w2 ⟨A2, c2, rfl, O2, B2⟩))
              | ((go_at_call 48; refine (sumOf_any _ _ _ _ O2.rd (by omega) HME.out).mono ?_; rintro e w' ⟨rfl, rfl⟩)))
          have hB3 : Below w1.heap.size w1 w2 := (below_drewN hB _).trans (B2.mono hB.size)
          by_cases hgt : t < sumL (greedyR n cs)
          · have HF := Lib.hid (HAT.out n (by omega) (by rw [HWE.out]; exact decide_eq_true hgt) hW.out)
            obtain ⟨sv, hsv⟩ : ∃ s, sumL (greedyR n cs) = s := ⟨_, rfl⟩
            rw [hsv] at hgt sb
            rw [hsv]
            clear hsv
            go_wp2
            go_ret
            exact ⟨ret_int HF.out.symm, B1.trans (hB3.mono B1.size)⟩
          · have HF : Hid (worse cs m n = false) := by unfold Hid; rw [HWE.out]; exact decide_eq_false hgt
            obtain ⟨sv, hsv⟩ : ∃ s, sumL (greedyR n cs) = s := ⟨_, rfl⟩
            rw [hsv] at hgt sb
            rw [hsv]
            clear hsv
            go_wp2
            go_roundw
            case rel => exact ⟨n + 1, by omega, by go_num, fun j hj => by
              by_cases e : j = n
              · rw [e]; exact HF.out
              · exact hW.out j (by omega), hB3⟩
            case measure => simp [intOf]; omega
        · have hnm : n = m + 1 := by omega
          subst hnm
          have HF := Lib.hid (firstR_none hW.out)
          go_wp2
          go_ret
          exact ⟨ret_int HF.out.symm, B1.trans (hB.mono B1.size)⟩
    · have HR := Lib.hid (firstR_no2 (cs := cs) h2)
      go_enter Try.func32, Try.ntmps32
      go_wp2_with fail
      refine (CO2.out).mono ?_
      rintro e w' ⟨rfl, rfl⟩
      go_wp2_with fail
      refine (within_any _ _ _ _).mono ?_
      rintro e w' ⟨rfl, rfl⟩
      go_wp2
      go_ret
      exact ⟨ret_int HR.out.symm, Below.refl _ _⟩
  · rw [h] at CO
    have CO2 := Lib.hid CO
    have HR := Lib.hid (firstR_no1 (M := M) h)
    clear CO
    go_enter Try.func32, Try.ntmps32
    go_wp2_with fail
    refine (CO2.out).mono ?_
    rintro e w' ⟨rfl, rfl⟩
    go_wp2
    go_ret
    exact ⟨ret_int HR.out.symm, Below.refl _ _⟩

set_option maxHeartbeats 3200000 in
theorem sFirstUngreedy_c (w : World) (B : Option Addr) (c' : Nat) (cs : List Int) (hb : Rd w B cs) (hl : cs.length ≤ 1048576) (hab : AllI64 cs) (M : Int) (_hM : I64 M) :
    Calls Try.prog 31 #[.slice B cs.length c', .int .i64 M] w fun e w' => e = .returned (.int .i64 (firstR cs M)) ∧ Below w.heap.size w w' := by
  have CO := sCoinsOk_any B c' cs w hb (by omega)
  rcases Bool.eq_false_or_eq_true (coinsB cs) with h | h
  · rw [h] at CO
    have CO2 := Lib.hid CO
    clear CO
    rcases Bool.eq_false_or_eq_true (inB M 0 400) with h2 | h2
    · obtain ⟨n0, n1⟩ := inB_true h2
      obtain ⟨m, rfl⟩ : ∃ n : Nat, M = n := ⟨M.toNat, by omega⟩
      have HAT := Lib.hid (fun n hn hw hb => firstR_at (M := m) (n := n) h h2 hn hw hb)
      have HH := Lib.hid h
      have HB := Lib.hid hb
      have HFB := Lib.hid (fewT_bounds cs m)
      have FE := Lib.hid (l11Fewest_any B c' m cs w hb h (by omega))
      have eL := fewT_len cs m
      clear hb
      go_enter Try.func31, Try.ntmps31
      go_wp2_with fail
      refine (CO2.out).mono ?_
      rintro e w' ⟨rfl, rfl⟩
      go_wp2_with fail
      refine (l01In_any _ _ _ _).mono ?_
      rintro e w' ⟨rfl, rfl⟩
      go_wp2_with fail
      refine (FE.out).mono ?_
      rintro e w1 ⟨A, c, rfl, O1, B1⟩
      have hp : 0 < (fewT cs m).length := by omega
      obtain ⟨g, rfl⟩ := O1.addr hp
      have HO1 := Lib.hid O1
      clear O1
      go_wp2
      go_loopw [19] (fun i wr => ∃ n : Nat, n ≤ m + 1 ∧ i = .int .i64 n ∧ Hid (∀ j, j < n → worse cs m j = false) ∧ Below w1.heap.size w1 wr) (fun i _ => m + 1 - (intOf i).toNat)
      case atStart => exact ⟨0, Nat.zero_le _, rfl, fun j hj => absurd hj (by omega), Below.refl _ _⟩
      case round =>
        obtain ⟨n, hn, rfl, hW, hB⟩ := hrel
        by_cases hlt : n < m + 1
        · have OR := HO1.out.below' hB
          obtain ⟨g2, t, eg, ht, hct, _, _⟩ := OR.at_ (k := n) (by rw [eL]; omega)
          obtain rfl : g = g2 := by cases eg; rfl
          have HWE := Lib.hid (worse_eq ht.out)
          have bt := HFB.out t (List.mem_of_getElem? ht.out)
          have RB := (HB.out.below B1).below hB
          have HL10 := greedyR_len10 (n : Int) cs
          have HME := Lib.hid (fun x hx => show (0 : Int) ≤ x ∧ x ≤ 1000000 by have := greedyR_mem (n : Int) cs x hx; omega)
          have GR := Lib.hid (l11Greedy_r B c' (n : Int) cs wr RB HH.out (inB_of ⟨by omega, by omega⟩))
          have sb := sumL_bound (n := n) (cs := cs)
          have c0 : (0 : Int) ≤ n := by omega
          have c1 : (n : Int) < (m : Int) + 1 := by omega
          have c2 : (n : Int) ≤ 400 := by omega
          clear OR ht eg hp h h2
          go_wp2_with fail
          refine (GR.out).mono ?_
          rintro e w2 ⟨A2, c2, rfl, O2, B2⟩
          have hB3 : Below w1.heap.size w1 w2 := hB.trans (B2.mono hB.size)
          go_wp2_with fail
          refine (l02Sum_any _ _ _ _ O2.rd (by omega) HME.out).mono ?_
          rintro e w' ⟨rfl, rfl⟩
          by_cases hgt : t < sumL (greedyR n cs)
          · have HF := Lib.hid (HAT.out n (by omega) (by rw [HWE.out]; exact decide_eq_true hgt) hW.out)
            obtain ⟨sv, hsv⟩ : ∃ s, sumL (greedyR n cs) = s := ⟨_, rfl⟩
            rw [hsv] at hgt sb
            rw [hsv]
            clear hsv
            go_wp2
            go_ret
            exact ⟨ret_int HF.out.symm, B1.trans (hB3.mono B1.size)⟩
          · have HF : Hid (worse cs m n = false) := by unfold Hid; rw [HWE.out]; exact decide_eq_false hgt
            obtain ⟨sv, hsv⟩ : ∃ s, sumL (greedyR n cs) = s := ⟨_, rfl⟩
            rw [hsv] at hgt sb
            rw [hsv]
            clear hsv
            go_wp2
            go_roundw
            case rel => exact ⟨n + 1, by omega, by go_num, fun j hj => by
              by_cases e : j = n
              · rw [e]; exact HF.out
              · exact hW.out j (by omega), hB3⟩
            case measure => simp [intOf]; omega
        · have hnm : n = m + 1 := by omega
          subst hnm
          have HF := Lib.hid (firstR_none hW.out)
          go_wp2
          go_ret
          exact ⟨ret_int HF.out.symm, B1.trans (hB.mono B1.size)⟩
    · have HR := Lib.hid (firstR_no2 (cs := cs) h2)
      go_enter Try.func31, Try.ntmps31
      go_wp2_with fail
      refine (CO2.out).mono ?_
      rintro e w' ⟨rfl, rfl⟩
      go_wp2_with fail
      refine (l01In_any _ _ _ _).mono ?_
      rintro e w' ⟨rfl, rfl⟩
      go_wp2
      go_ret
      exact ⟨ret_int HR.out.symm, Below.refl _ _⟩
  · rw [h] at CO
    have CO2 := Lib.hid CO
    have HR := Lib.hid (firstR_no1 (M := M) h)
    clear CO
    go_enter Try.func31, Try.ntmps31
    go_wp2_with fail
    refine (CO2.out).mono ?_
    rintro e w' ⟨rfl, rfl⟩
    go_wp2
    go_ret
    exact ⟨ret_int HR.out.symm, Below.refl _ _⟩

set_option maxRecDepth 100000 in
set_option maxHeartbeats 1600000 in
theorem lFirstUngreedy_law (w : World) (A0 : Option Addr) (c0 : Nat) (xs0 : List Int) (r0 : Rd w A0 xs0) (_m0 : xs0.length ≤ maxLen) (b0 : ∀ x ∈ xs0, -9223372036854775808 ≤ x ∧ x ≤ 9223372036854775807) (n1 : Int) (b1 : -9223372036854775808 ≤ n1 ∧ n1 ≤ 9223372036854775807) :
    Calls Try.prog 10 #[.slice A0 xs0.length c0, .int .i64 n1] w fun e w' => e = .returned (.bool true) ∧ Below w.heap.size w w' := by
  have RA0 := Lib.hid r0
  have BA0 : AllI64 xs0 := b0
  clear r0 b0
  have BA1 : I64 n1 := b1
  clear b1
  by_cases h0 : xs0.length ≤ 1048576
  · skip
    go_enter Try.func10, Try.ntmps10
    go_wp2_with fail
    refine (toIntS_any _ _ _ _ (RA0.out.below (Below.refl w.heap.size w)) h0).mono ?_
    rintro e w1 ⟨A_S0, c_S0, rfl, S0_0, B1⟩
    have L_S0 := fun k hk => (S0_0.lt k hk).1
    have C2 := (Below.refl w.heap.size w).trans (B1.mono (Below.refl w.heap.size w).size)
    go_wp2_with fail
    refine (sFirstUngreedy_c _ _ _ _ S0_0.rd h0 BA0 _ BA1).mono ?_
    rintro e w3 ⟨rfl, B3⟩
    have C4 := C2.trans (B3.mono C2.size)
    have S0_4 := S0_0.below' B3
    go_wp2_with fail
    refine (toIntS_any _ _ _ _ (RA0.out.below C4) h0).mono ?_
    rintro e w5 ⟨A_X0, c_X0, rfl, X0_0, B5⟩
    have L_X0 := fun k hk => (X0_0.lt k hk).1
    have C6 := C4.trans (B5.mono C4.size)
    go_wp2_with fail
    refine (iFirstUngreedy_c _ _ _ _ X0_0.rd h0 BA0 _ BA1).mono ?_
    rintro e w7 ⟨rfl, B7⟩
    have C8 := C6.trans (B7.mono C6.size)
    have X0_8 := X0_0.below' B7
    go_wp2_with fail
    refine (toIntS_any _ _ _ _ (RA0.out.below C8) h0).mono ?_
    rintro e w9 ⟨A_T0, c_T0, rfl, T0_0, B9⟩
    have U_X0_T0 := fun k hk => (X0_8.lt k hk).2
    have L_T0 := fun k hk => (T0_0.lt k hk).1
    have C10 := C8.trans (B9.mono C8.size)
    have X0_10 := X0_8.below' B9
    go_wp2_with fail
    refine (eqIntS_same _ _ _ _ _ _ X0_10.rd T0_0.rd (by omega)).mono ?_
    rintro e w11 ⟨rfl, n11_, rfl⟩
    have C12 := below_drewN C10 n11_
    have X0_12 := X0_10.drewN n11_
    have T0_12 := T0_0.drewN n11_
    go_wp2
    go_ret
    exact ⟨rfl, C12⟩
  · unfold maxLen at _m0
    go_enter Try.func10, Try.ntmps10
    go_wp2
    go_ret
    exact ⟨rfl, Below.refl _ _⟩

end Go.Proofs.Ytlhabcpoemcpjaa
