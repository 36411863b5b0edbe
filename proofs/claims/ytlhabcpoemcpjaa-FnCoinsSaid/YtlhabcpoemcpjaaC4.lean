/-
  WALKS: slices.Equal, l11Same, IsGreedy (both packages) and the law over it.
-/
import Derived.Test.YtlhabcpoemcpjaaC3
namespace Go.Proofs.Ytlhabcpoemcpjaa
open Go.RowKit

/-- The first k numbers of two lists are the same. -/
def sameTo (xs ys : List Int) (k : Nat) : Prop := ∀ i, i < k → xs[i]? = ys[i]?
theorem sameTo.step {xs ys : List Int} {k : Nat} {x : Int} (h : sameTo xs ys k) (hx : xs[k]? = some x) (hy : ys[k]? = some x) : sameTo xs ys (k + 1) := fun i hi => by
  by_cases e : i = k
  · rw [e, hx, hy]
  · exact h i (by omega)
theorem sameTo_end {xs ys : List Int} (h : sameTo xs ys xs.length) (hl : xs.length = ys.length) : (xs == ys) = true := by
  rw [beq_iff_eq]
  apply List.ext_getElem?
  intro i
  by_cases e : i < xs.length
  · exact h i e
  · rw [List.getElem?_eq_none (by omega), List.getElem?_eq_none (by omega)]
theorem same_not {xs ys : List Int} {k : Nat} {x y : Int} (hx : xs[k]? = some x) (hy : ys[k]? = some y) (h : ¬ x = y) : (xs == ys) = false := by
  rw [beq_eq_false_iff_ne]
  rintro rfl
  rw [hx] at hy
  exact h (Option.some.inj hy)
theorem drewN_twice (w : World) (a b : Nat) : (w.drewN a).drewN b = w.drewN (a + b) := by simp [World.drewN, Nat.add_assoc]
theorem same_len {xs ys : List Int} (h : ¬ xs.length = ys.length) : (xs == ys) = false := by
  rw [beq_eq_false_iff_ne]
  rintro rfl
  exact h rfl

set_option maxHeartbeats 1600000 in
theorem equal_any (A : Option Addr) (c : Nat) (xs : List Int) (B : Option Addr) (d : Nat) (ys : List Int) (w : World) (ha : Rd w A xs) (hb : Rd w B ys) (hl : xs.length ≤ 1099511627776) :
    Calls Try.prog 46 #[.slice A xs.length c, .slice B ys.length d] w fun e w' => e = .returned (.bool (xs == ys)) ∧ ∃ n, w' = w.drewN n := by
  by_cases hlen : xs.length = ys.length
  · have tl : ((xs.length : Int) != (ys.length : Int)) = false := by simp; omega
    have RA := Lib.hid ha
    have RB := Lib.hid hb
    have HL := Lib.hid hlen
    clear ha hb hlen
    go_enter Try.func46, Try.ntmps46
    go_wp2
    go_loopw [13] (fun i wr => ∃ k n : Nat, k ≤ xs.length ∧ i = .int .i64 k ∧ wr = w.drewN n ∧ sameTo xs ys k) (fun i _ => xs.length - (intOf i).toNat)
    case atStart => exact ⟨0, 0, Nat.zero_le _, rfl, rfl, fun i hi => absurd hi (by omega)⟩
    case round =>
      obtain ⟨k, n, hk, rfl, rfl, hS⟩ := hrel
      have eL := HL.out
      by_cases hlt : k < xs.length
      · obtain ⟨ad, x, rfl, hx, hc⟩ := RA.out.at_ hlt
        obtain ⟨ad2, y, rfl, hy, hc2⟩ := RB.out.at_ (k := k) (by omega)
        have c1 : (k : Int) < ys.length := by omega
        have c2 : (k : Int) < xs.length := by omega
        have c0 : (0 : Int) ≤ k := by omega
        clear eL
        by_cases e : x = y
        · subst e
          go_wp2
          go_quiet (fail)
          go_wp2
          go_roundw
          case rel => exact ⟨k + 1, _, by omega, by go_num, rfl, hS.step hx.out hy.out⟩
          case measure => simp [intOf]; omega
        · have tx : (x != y) = true := by simp [e]
          have HF := Lib.hid (same_not hx.out hy.out e)
          clear e
          go_wp2
          go_quiet (fail)
          go_wp2
          go_ret
          exact ⟨ret_bool HF.out.symm, _, drewN_twice _ _ _⟩
      · have hkl : k = xs.length := by omega
        subst hkl
        have HE := Lib.hid (sameTo_end hS eL)
        clear eL
        go_wp2
        go_ret
        exact ⟨ret_bool HE.out.symm, n, rfl⟩
  · have tl : ((xs.length : Int) != (ys.length : Int)) = true := by simp; omega
    have HF := Lib.hid (same_len hlen)
    clear hlen
    go_enter Try.func46, Try.ntmps46
    go_wp2
    go_ret
    exact ⟨ret_bool HF.out.symm, 0, rfl⟩

set_option maxHeartbeats 1600000 in
theorem l11Same_any (A : Option Addr) (c : Nat) (xs : List Int) (B : Option Addr) (d : Nat) (ys : List Int) (w : World) (ha : Rd w A xs) (hb : Rd w B ys) (hl : xs.length ≤ 1099511627776) :
    Calls Try.prog 45 #[.slice A xs.length c, .slice B ys.length d] w fun e w' => e = .returned (.bool (xs == ys)) ∧ ∃ n, w' = w.drewN n := by
  by_cases hlen : xs.length = ys.length
  · have tl : ((xs.length : Int) != (ys.length : Int)) = false := by simp; omega
    have RA := Lib.hid ha
    have RB := Lib.hid hb
    have HL := Lib.hid hlen
    clear ha hb hlen
    go_enter Try.func45, Try.ntmps45
    go_wp2
    go_loopw [14] (fun i wr => ∃ k n : Nat, k ≤ xs.length ∧ i = .int .i64 k ∧ wr = w.drewN n ∧ sameTo xs ys k) (fun i _ => xs.length - (intOf i).toNat)
    case atStart => exact ⟨0, 0, Nat.zero_le _, rfl, rfl, fun i hi => absurd hi (by omega)⟩
    case round =>
      obtain ⟨k, n, hk, rfl, rfl, hS⟩ := hrel
      have eL := HL.out
      by_cases hlt : k < xs.length
      · obtain ⟨ad, x, rfl, hx, hc⟩ := RA.out.at_ hlt
        obtain ⟨ad2, y, rfl, hy, hc2⟩ := RB.out.at_ (k := k) (by omega)
        have c1 : (k : Int) < ys.length := by omega
        have c2 : (k : Int) < xs.length := by omega
        have c0 : (0 : Int) ≤ k := by omega
        clear eL
        by_cases e : x = y
        · subst e
          go_wp2
          go_roundw
          case rel => exact ⟨k + 1, _, by omega, by go_num, rfl, hS.step hx.out hy.out⟩
          case measure => simp [intOf]; omega
        · have tx : (x != y) = true := by simp [e]
          have HF := Lib.hid (same_not hx.out hy.out e)
          clear e
          go_wp2
          go_ret
          exact ⟨ret_bool HF.out.symm, n, rfl⟩
      · have hkl : k = xs.length := by omega
        subst hkl
        have HE := Lib.hid (sameTo_end hS eL)
        clear eL
        go_wp2
        go_ret
        exact ⟨ret_bool HE.out.symm, n, rfl⟩
  · have tl : ((xs.length : Int) != (ys.length : Int)) = true := by simp; omega
    have HF := Lib.hid (same_len hlen)
    clear hlen
    go_enter Try.func45, Try.ntmps45
    go_wp2
    go_ret
    exact ⟨ret_bool HF.out.symm, 0, rfl⟩

def isGreedyR (ds cs : List Int) : Bool := inB (coinsValueR ds cs) 0 100000 && (ds == greedyR (coinsValueR ds cs) cs)
theorem isGreedyR_of {ds cs : List Int} (h : inB (coinsValueR ds cs) 0 100000 = true) : isGreedyR ds cs = (ds == greedyR (coinsValueR ds cs) cs) := by
  unfold isGreedyR
  rw [h, Bool.true_and]
theorem isGreedyR_no {ds cs : List Int} (h : inB (coinsValueR ds cs) 0 100000 = false) : isGreedyR ds cs = false := by
  unfold isGreedyR
  rw [h, Bool.false_and]
theorem l11Greedy_r (B : Option Addr) (c' : Nat) (N : Int) (cs : List Int) (w : World) (hb : Rd w B cs) (h : coinsB cs = true) (h2 : inB N 0 100000 = true) :
    Calls Try.prog 42 #[.int .i64 N, .slice B cs.length c'] w fun e w' => ∃ A c, e = .returned (.slice A (greedyR N cs).length c) ∧ Ow w' w.heap.size (.slice A (greedyR N cs).length c) (greedyR N cs) ∧ Below w.heap.size w w' := by
  obtain ⟨p1, p2, p3, _, _⟩ := coinsB_parts h
  have hb2 := inB_true h2
  refine (l11Greedy_any B c' N cs w hb p2 p3 hb2.1 hb2.2).mono ?_
  rintro e w' ⟨A, c, rfl, O, B'⟩
  rw [greedyR_of h h2, grD_len]
  exact ⟨A, c, rfl, O, B'⟩
theorem coinsB_of_value {ds cs : List Int} (h : inB (coinsValueR ds cs) 0 100000 = true) : coinsB cs = true := by
  rcases Bool.eq_false_or_eq_true (coinsB cs) with h2 | h2
  · exact h2
  · rw [coinsValueR_no1 h2] at h
    exact absurd h (by decide)

theorem sIsGreedy_c (w : World) (D : Option Addr) (cd : Nat) (ds : List Int) (hd : Rd w D ds) (hld : ds.length ≤ 1048576) (hbd : AllI64 ds) (B : Option Addr) (cb : Nat) (cs : List Int) (hb : Rd w B cs) (hlb : cs.length ≤ 1048576) (hbb : AllI64 cs) :
    Calls Try.prog 29 #[.slice D ds.length cd, .slice B cs.length cb] w fun e w' => e = .returned (.bool (isGreedyR ds cs)) ∧ Below w.heap.size w w' := by
  rcases Bool.eq_false_or_eq_true (inB (coinsValueR ds cs) 0 100000) with h | h
  · have hb2 := inB_true h
    have HG := Lib.hid (isGreedyR_of h)
    have hcB := coinsB_of_value h
    go_enter Try.func29, Try.ntmps29
    go_wp2_with fail
    refine (sCoinsValue_c w D cd ds hd hld hbd B cb cs hb hlb hbb).mono ?_
    rintro e w1 ⟨rfl, B1⟩
    go_wp2_with fail
    refine (l01In_any _ _ _ _).mono ?_
    rintro e w' ⟨rfl, rfl⟩
    go_wp2_with fail
    refine (l11Greedy_r _ _ _ _ _ (hb.below B1) hcB h).mono ?_
    rintro e w2 ⟨A2, c2, rfl, O2, B2⟩
    go_wp2_with fail
    refine (l11Same_any _ _ _ _ _ _ _ ((hd.below B1).below B2) O2.rd (by omega)).mono ?_
    rintro e w3 ⟨rfl, n3, rfl⟩
    go_wp2
    go_ret
    exact ⟨ret_bool HG.out.symm, below_drewN (B1.trans (B2.mono B1.size)) n3⟩
  · have HG := Lib.hid (isGreedyR_no h)
    go_enter Try.func29, Try.ntmps29
    go_wp2_with fail
    refine (sCoinsValue_c w D cd ds hd hld hbd B cb cs hb hlb hbb).mono ?_
    rintro e w1 ⟨rfl, B1⟩
    go_wp2_with fail
    refine (l01In_any _ _ _ _).mono ?_
    rintro e w' ⟨rfl, rfl⟩
    go_wp2
    go_ret
    exact ⟨ret_bool HG.out.symm, B1⟩

theorem iIsGreedy_c (w : World) (D : Option Addr) (cd : Nat) (ds : List Int) (hd : Rd w D ds) (hld : ds.length ≤ 1048576) (hbd : AllI64 ds) (B : Option Addr) (cb : Nat) (cs : List Int) (hb : Rd w B cs) (hlb : cs.length ≤ 1048576) (hbb : AllI64 cs) :
    Calls Try.prog 30 #[.slice D ds.length cd, .slice B cs.length cb] w fun e w' => e = .returned (.bool (isGreedyR ds cs)) ∧ Below w.heap.size w w' := by
  rcases Bool.eq_false_or_eq_true (inB (coinsValueR ds cs) 0 100000) with h | h
  · have hb2 := inB_true h
    have HG := Lib.hid (isGreedyR_of h)
    have hcB := coinsB_of_value h
    go_enter Try.func30, Try.ntmps30
    go_wp2_with fail
    refine (iCoinsValue_c w D cd ds hd hld hbd B cb cs hb hlb hbb).mono ?_
    rintro e w1 ⟨rfl, B1⟩
    go_wp2_with fail
    refine (within_any _ _ _ _).mono ?_
    rintro e w' ⟨rfl, rfl⟩
    go_wp2_with fail
    refine (iGreedyCoins_c _ _ ⟨by omega, by omega⟩ _ _ _ (hb.below B1) hlb hbb).mono ?_
    rintro e w2 ⟨A2, c2, rfl, O2, B2⟩
    go_wp2_with fail
    refine (equal_any _ _ _ _ _ _ _ ((hd.below B1).below B2) O2.rd (by omega)).mono ?_
    rintro e w3 ⟨rfl, n3, rfl⟩
    go_wp2
    go_ret
    exact ⟨ret_bool HG.out.symm, below_drewN (B1.trans (B2.mono B1.size)) n3⟩
  · have HG := Lib.hid (isGreedyR_no h)
    go_enter Try.func30, Try.ntmps30
    go_wp2_with fail
    refine (iCoinsValue_c w D cd ds hd hld hbd B cb cs hb hlb hbb).mono ?_
    rintro e w1 ⟨rfl, B1⟩
    go_wp2_with fail
    refine (within_any _ _ _ _).mono ?_
    rintro e w' ⟨rfl, rfl⟩
    go_wp2
    go_ret
    exact ⟨ret_bool HG.out.symm, B1⟩

set_option maxRecDepth 100000 in
set_option maxHeartbeats 1600000 in
theorem lIsGreedy_law (w : World) (A0 : Option Addr) (c0 : Nat) (xs0 : List Int) (r0 : Rd w A0 xs0) (_m0 : xs0.length ≤ maxLen) (b0 : ∀ x ∈ xs0, -9223372036854775808 ≤ x ∧ x ≤ 9223372036854775807) (A1 : Option Addr) (c1 : Nat) (xs1 : List Int) (r1 : Rd w A1 xs1) (_m1 : xs1.length ≤ maxLen) (b1 : ∀ x ∈ xs1, -9223372036854775808 ≤ x ∧ x ≤ 9223372036854775807) :
    Calls Try.prog 9 #[.slice A0 xs0.length c0, .slice A1 xs1.length c1] w fun e w' => e = .returned (.bool true) ∧ Below w.heap.size w w' := by
  have RA0 := Lib.hid r0
  have BA0 : AllI64 xs0 := b0
  clear r0 b0
  have RA1 := Lib.hid r1
  have BA1 : AllI64 xs1 := b1
  clear r1 b1
  by_cases h0 : xs0.length ≤ 1048576
  · skip
    by_cases h1 : xs1.length ≤ 1048576
    · skip
      go_enter Try.func9, Try.ntmps9
      go_wp2_with fail
      refine (toIntS_any _ _ _ _ (RA0.out.below (Below.refl w.heap.size w)) h0).mono ?_
      rintro e w1 ⟨A_S0, c_S0, rfl, S0_0, B1⟩
      have L_S0 := fun k hk => (S0_0.lt k hk).1
      have C2 := (Below.refl w.heap.size w).trans (B1.mono (Below.refl w.heap.size w).size)
      go_wp2_with fail
      refine (toIntS_any _ _ _ _ (RA1.out.below C2) h1).mono ?_
      rintro e w3 ⟨A_S1, c_S1, rfl, S1_0, B3⟩
      have U_S0_S1 := fun k hk => (S0_0.lt k hk).2
      have L_S1 := fun k hk => (S1_0.lt k hk).1
      have C4 := C2.trans (B3.mono C2.size)
      have S0_4 := S0_0.below' B3
      go_wp2_with fail
      refine (sIsGreedy_c _ _ _ _ S0_4.rd h0 BA0 _ _ _ S1_0.rd h1 BA1).mono ?_
      rintro e w5 ⟨rfl, B5⟩
      have C6 := C4.trans (B5.mono C4.size)
      have S0_6 := S0_4.below' B5
      have S1_6 := S1_0.below' B5
      go_wp2_with fail
      refine (toIntS_any _ _ _ _ (RA0.out.below C6) h0).mono ?_
      rintro e w7 ⟨A_X0, c_X0, rfl, X0_0, B7⟩
      have L_X0 := fun k hk => (X0_0.lt k hk).1
      have C8 := C6.trans (B7.mono C6.size)
      go_wp2_with fail
      refine (toIntS_any _ _ _ _ (RA1.out.below C8) h1).mono ?_
      rintro e w9 ⟨A_X1, c_X1, rfl, X1_0, B9⟩
      have U_X0_X1 := fun k hk => (X0_0.lt k hk).2
      have L_X1 := fun k hk => (X1_0.lt k hk).1
      have C10 := C8.trans (B9.mono C8.size)
      have X0_10 := X0_0.below' B9
      go_wp2_with fail
      refine (iIsGreedy_c _ _ _ _ X0_10.rd h0 BA0 _ _ _ X1_0.rd h1 BA1).mono ?_
      rintro e w11 ⟨rfl, B11⟩
      have C12 := C10.trans (B11.mono C10.size)
      have X0_12 := X0_10.below' B11
      have X1_12 := X1_0.below' B11
      go_wp2_with fail
      refine (toIntS_any _ _ _ _ (RA0.out.below C12) h0).mono ?_
      rintro e w13 ⟨A_T0, c_T0, rfl, T0_0, B13⟩
      have U_X0_T0 := fun k hk => (X0_12.lt k hk).2
      have U_X1_T0 := fun k hk => (X1_12.lt k hk).2
      have L_T0 := fun k hk => (T0_0.lt k hk).1
      have C14 := C12.trans (B13.mono C12.size)
      have X0_14 := X0_12.below' B13
      have X1_14 := X1_12.below' B13
      go_wp2_with fail
      refine (eqIntS_same _ _ _ _ _ _ X0_14.rd T0_0.rd (by omega)).mono ?_
      rintro e w15 ⟨rfl, n15_, rfl⟩
      have C16 := below_drewN C14 n15_
      have X0_16 := X0_14.drewN n15_
      have X1_16 := X1_14.drewN n15_
      have T0_16 := T0_0.drewN n15_
      go_wp2_with fail
      refine (toIntS_any _ _ _ _ (RA1.out.below C16) h1).mono ?_
      rintro e w17 ⟨A_T1, c_T1, rfl, T1_0, B17⟩
      have U_X0_T1 := fun k hk => (X0_16.lt k hk).2
      have U_X1_T1 := fun k hk => (X1_16.lt k hk).2
      have L_T1 := fun k hk => (T1_0.lt k hk).1
      have C18 := C16.trans (B17.mono C16.size)
      have X0_18 := X0_16.below' B17
      have X1_18 := X1_16.below' B17
      go_wp2_with fail
      refine (eqIntS_same _ _ _ _ _ _ X1_18.rd T1_0.rd (by omega)).mono ?_
      rintro e w19 ⟨rfl, n19_, rfl⟩
      have C20 := below_drewN C18 n19_
      have X0_20 := X0_18.drewN n19_
      have X1_20 := X1_18.drewN n19_
      have T1_20 := T1_0.drewN n19_
      go_wp2
      go_ret
      exact ⟨rfl, C20⟩
    · unfold maxLen at _m1
      go_enter Try.func9, Try.ntmps9
      go_wp2
      go_ret
      exact ⟨rfl, Below.refl _ _⟩
  · unfold maxLen at _m0
    go_enter Try.func9, Try.ntmps9
    go_wp2
    go_ret
    exact ⟨rfl, Below.refl _ _⟩

end Go.Proofs.Ytlhabcpoemcpjaa
