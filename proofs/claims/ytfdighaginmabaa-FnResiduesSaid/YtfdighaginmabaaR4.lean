/-
  WALKS: ResiduesOk and ResiduesOf (both packages) and the laws over them.
-/
import Derived.Test.YtfdighaginmabaaR3
namespace Go.Proofs.Ytfdighaginmabaa
open Go.RowKit

def residuesB (xs ms : List Int) : Bool := moduliB ms && isMixB xs ms
theorem residuesB_of {xs ms : List Int} (h : moduliB ms = true) : residuesB xs ms = isMixB xs ms := by simp [residuesB, h]
theorem residuesB_no {xs ms : List Int} (h : moduliB ms = false) : residuesB xs ms = false := by simp [residuesB, h]
theorem residuesB_parts {xs ms : List Int} (h : residuesB xs ms = true) : moduliB ms = true ∧ xs.length = ms.length ∧ (∀ (i : Nat) (d r : Int), xs[i]? = some d → ms[i]? = some r → 0 ≤ d ∧ d ≤ r - 1) := by
  unfold residuesB at h
  rw [Bool.and_eq_true] at h
  exact ⟨h.1, isMixB_parts h.2⟩

theorem iResiduesOk_any (A B : Option Addr) (c c' : Nat) (xs ms : List Int) (w : World) (ha : Rd w A xs) (hb : Rd w B ms) (hcap : ms.length ≤ c') (hl : xs.length ≤ 1099511627776) (hl' : ms.length ≤ 1099511627776) :
    Calls Try.prog 24 #[.slice A xs.length c, .slice B ms.length c'] w fun e w' => e = .returned (.bool (residuesB xs ms)) ∧ Below w.heap.size w w' := by
  have W1 := Lib.hid (iModuliOk_any B c' ms w hb hcap hl')
  rcases Bool.eq_false_or_eq_true (moduliB ms) with h | h
  · rw [h] at W1
    obtain ⟨m1, m2, m3, m4, m5⟩ := moduliB_parts h
    have HE := Lib.hid (residuesB_of (xs := xs) h)
    clear m5 h
    go_enter Try.func24, Try.ntmps24
    go_wp2_with fail
    refine (W1.out).mono ?_
    rintro e w1 ⟨rfl, B1⟩
    go_wp2_with fail
    refine (isMixed_any A B c c' xs ms _ (ha.below B1) (hb.below B1) hl hl' (fun x hx => by have := m3 x hx; omega)).mono ?_
    rintro e w' ⟨rfl, rfl⟩
    go_wp2
    go_ret
    exact ⟨ret_bool HE.out.symm, B1⟩
  · rw [h] at W1
    have HE := Lib.hid (residuesB_no (xs := xs) h)
    clear h
    go_enter Try.func24, Try.ntmps24
    go_wp2_with fail
    refine (W1.out).mono ?_
    rintro e w1 ⟨rfl, B1⟩
    go_wp2
    go_ret
    exact ⟨ret_bool HE.out.symm, B1⟩

set_option maxHeartbeats 1600000 in
theorem sResiduesOk_any (A B : Option Addr) (c c' : Nat) (ds rs : List Int) (w : World) (ha : Rd w A ds) (hb : Rd w B rs) (hcap : rs.length ≤ c') (hl : ds.length ≤ 1099511627776) (hl' : rs.length ≤ 1099511627776) :
    Calls Try.prog 23 #[.slice A ds.length c, .slice B rs.length c'] w fun e w' => e = .returned (.bool (residuesB ds rs)) ∧ w = w' := by
  have W1 := Lib.hid (sModuliOk_any B c' rs w hb hcap hl')
  rcases Bool.eq_false_or_eq_true (moduliB rs) with h | h
  · rw [h] at W1
    obtain ⟨m1, m2, m3, m4, m5⟩ := moduliB_parts h
    have HE := Lib.hid (residuesB_of (xs := ds) h)
    have HA := Lib.hid ha
    have HB := Lib.hid hb
    have HX := Lib.hid m3
    clear m5 m3 h ha hb
    by_cases hne : ds.length = rs.length
    · have HN := Lib.hid hne
      have e1 : ((ds.length : Int) != rs.length) = false := by simp; omega
      clear hne
      go_enter Try.func23, Try.ntmps23
      go_wp2_with fail
      refine (W1.out).mono ?_
      rintro e w' ⟨rfl, rfl⟩
      go_wp2
      go_loop [19] (fun i => ∃ k : Nat, k ≤ ds.length ∧ i = .int .i64 k ∧ mixSoFar ds rs k) (fun i => ds.length - (intOf i).toNat)
      case atStart => exact ⟨0, Nat.zero_le _, rfl, fun j hj => absurd hj (by omega)⟩
      case round =>
        obtain ⟨k, hk, rfl, hS⟩ := hrel
        by_cases hlt : k < ds.length
        · have hlt' : (k : Int) < rs.length := by have := HN.out; omega
          obtain ⟨ad, x, rfl, hx, hc⟩ := HA.out.at_ hlt
          obtain ⟨bd, y, rfl, hy, hd⟩ := HB.out.at_ (k := k) (by omega)
          have by_ := HX.out y (List.mem_of_getElem? hy.out)
          have HI := Lib.hid (inR_eq hx.out hy.out)
          have c0 : (0 : Int) ≤ k := by omega
          have c1 : (k : Int) < ds.length := by omega
          rcases Bool.eq_false_or_eq_true (inB x 0 (y - 1)) with h | h
          · go_wp2_with (go_at_call 45; refine (l01In_any _ _ _ _).mono ?_; rintro e w' ⟨rfl, rfl⟩)
            go_round
            case rel => exact ⟨k + 1, by omega, by go_num, hS.step (by rw [HI.out, h])⟩
            case measure => simp [intOf]; omega
          · have HF := Lib.hid (isMixB_false hlt (by rw [HI.out, h]))
            go_wp2_with (go_at_call 45; refine (l01In_any _ _ _ _).mono ?_; rintro e w' ⟨rfl, rfl⟩)
            go_ret
            exact ⟨ret_bool (by rw [HE.out, HF.out]), rfl⟩
        · have hkl : k = ds.length := by omega
          have HT := Lib.hid (isMixB_true HN.out (by rw [← hkl]; exact hS))
          clear hkl
          go_wp2
          go_ret
          exact ⟨ret_bool (by rw [HE.out, HT.out]), rfl⟩
    · have e1 : ((ds.length : Int) != rs.length) = true := by simp; omega
      have HF : Hid (isMixB ds rs = false) := by unfold Hid; simp [isMixB, hne]
      clear hne
      go_enter Try.func23, Try.ntmps23
      go_wp2_with fail
      refine (W1.out).mono ?_
      rintro e w' ⟨rfl, rfl⟩
      go_wp2
      go_ret
      exact ⟨ret_bool (by rw [HE.out, HF.out]), rfl⟩
  · rw [h] at W1
    have HE := Lib.hid (residuesB_no (xs := ds) h)
    clear h
    go_enter Try.func23, Try.ntmps23
    go_wp2_with fail
    refine (W1.out).mono ?_
    rintro e w' ⟨rfl, rfl⟩
    go_wp2
    go_ret
    exact ⟨ret_bool HE.out.symm, rfl⟩

theorem iResiduesOk_c (w : World) (A : Option Addr) (c : Nat) (xs : List Int) (hr : Rd w A xs) (_hcap1 : xs.length ≤ c) (hl : xs.length ≤ 1048576) (_hb : AllI64 xs) (B : Option Addr) (c' : Nat) (ms : List Int) (hb : Rd w B ms) (hcap : ms.length ≤ c') (hl' : ms.length ≤ 1048576) (_hb' : AllI64 ms) :
    Calls Try.prog 24 #[.slice A xs.length c, .slice B ms.length c'] w fun e w' => e = .returned (.bool (residuesB xs ms)) ∧ Below w.heap.size w w' := iResiduesOk_any A B c c' xs ms w hr hb hcap (by omega) (by omega)
theorem sResiduesOk_c (w : World) (A : Option Addr) (c : Nat) (xs : List Int) (hr : Rd w A xs) (_hcap1 : xs.length ≤ c) (hl : xs.length ≤ 1048576) (_hb : AllI64 xs) (B : Option Addr) (c' : Nat) (ms : List Int) (hb : Rd w B ms) (hcap : ms.length ≤ c') (hl' : ms.length ≤ 1048576) (_hb' : AllI64 ms) :
    Calls Try.prog 23 #[.slice A xs.length c, .slice B ms.length c'] w fun e w' => e = .returned (.bool (residuesB xs ms)) ∧ Below w.heap.size w w' :=
  (sResiduesOk_any A B c c' xs ms w hr hb hcap (by omega) (by omega)).mono fun e w' ⟨h, k⟩ => ⟨h, by subst k; exact Below.refl _ _⟩

/-- The remainders of a number by the first k moduli. -/
def resUp (N : Int) (ms : List Int) (k : Nat) : List Int := (ms.take k).map fun m => N % m
theorem resUp_succ {N m : Int} {ms : List Int} {k : Nat} (hm : ms[k]? = some m) : resUp N ms (k + 1) = resUp N ms k ++ [N % m] := by
  unfold resUp
  rw [List.take_add_one, hm]
  simp
theorem resUp_len {N : Int} {ms : List Int} {k : Nat} (hk : k ≤ ms.length) : (resUp N ms k).length = k := by simp [resUp, Nat.min_eq_left hk]
def resOfR (N : Int) (ms : List Int) : List Int := if moduliB ms && inB N 0 (prodI ms - 1) then resUp N ms ms.length else []
theorem resOfR_of {N : Int} {ms : List Int} (h1 : moduliB ms = true) (h2 : inB N 0 (prodI ms - 1) = true) : resOfR N ms = resUp N ms ms.length := by simp [resOfR, h1, h2]
theorem resOfR_no1 {N : Int} {ms : List Int} (h1 : moduliB ms = false) : resOfR N ms = [] := by simp [resOfR, h1]
theorem resOfR_no2 {N : Int} {ms : List Int} (h2 : inB N 0 (prodI ms - 1) = false) : resOfR N ms = [] := by simp [resOfR, h2]
theorem resOfR_len (N : Int) (ms : List Int) : (resOfR N ms).length ≤ 1099511627776 := by
  unfold resOfR
  split
  · rename_i h
    rw [Bool.and_eq_true] at h
    have := moduliB_parts h.1
    rw [resUp_len (Nat.le_refl _)]
    omega
  · simp


set_option maxHeartbeats 1600000 in
theorem l13Residues_any (B : Option Addr) (c' : Nat) (N : Int) (ms : List Int) (w : World) (hb : Rd w B ms) (hl : ms.length ≤ 1048576) (hms : ∀ x ∈ ms, 2 ≤ x ∧ x ≤ 1000) (n0 : 0 ≤ N) (n1 : N ≤ 1000000000000) :
    Calls Try.prog 58 #[.int .i64 N, .slice B ms.length c'] w fun e w' => ∃ A c, e = .returned (.slice A ms.length c) ∧ Ow w' w.heap.size (.slice A ms.length c) (resUp N ms ms.length) ∧ Below w.heap.size w w' := by
  have HB := Lib.hid hb
  have HX := Lib.hid hms
  clear hb hms
  go_enter Try.func58, Try.ntmps58
  go_wp2
  go_loopw [5, 11] (fun v i wr => ∃ k : Nat, k ≤ ms.length ∧ i = .int .i64 k ∧ Ap wr w.heap.size v (resUp N ms k) ∧ Below w.heap.size w wr) (fun _ i _ => ms.length - (intOf i).toNat)
  case atStart => exact ⟨0, Nat.zero_le _, rfl, Ap.empty _ _ (Nat.le_refl _), (Below.refl _ _).alloc (Nat.le_refl _) _⟩
  case round =>
    obtain ⟨k, hk, rfl, hO, hB⟩ := hrel
    have hs := hB.size
    by_cases hlt : k < ms.length
    · obtain ⟨ad, m, rfl, hm, hc⟩ := (HB.out.below hB).at_ hlt
      have bm := HX.out m (List.mem_of_getElem? hm.out)
      have t0 := Int.emod_nonneg N (show m ≠ 0 by omega)
      have t1 := Int.emod_lt_of_pos N (show 0 < m by omega)
      have hL : (resUp N ms k).length < 1099511627776 := by rw [resUp_len hk]; omega
      go_wp2_with (at_builtin; refine wpList_app1 hO hL hs rfl _ _ 24 rfl rfl rfl rfl ?_; intro v' w' O' B')
      go_roundw
      case rel => exact ⟨k + 1, by omega, by go_num, by rw [resUp_succ hm.out]; exact O', hB.trans B'⟩
      case measure => simp [intOf]; omega
    · have hkl : k = ms.length := by omega
      subst hkl
      obtain ⟨A', c', rfl⟩ := hO.form
      have e1 := resUp_len (N := N) (ms := ms) (Nat.le_refl _)
      have hw := hO.ow
      rw [e1] at hw ⊢
      go_wp2
      go_ret
      exact ⟨A', c', rfl, hw, hB⟩


theorem prod_dec {ms : List Int} (h : moduliB ms = true) : 1 ≤ prodI ms ∧ prodI ms ≤ 1000000000000 := by
  have := prodUp_in h ms.length
  rwa [prodUp_all] at this

set_option maxHeartbeats 1600000 in
theorem sResiduesOf_c (w : World) (N : Int) (_hN : I64 N) (B : Option Addr) (c' : Nat) (ms : List Int) (hb : Rd w B ms) (hcap : ms.length ≤ c') (hl' : ms.length ≤ 1048576) (_hb : AllI64 ms) :
    Calls Try.prog 25 #[.int .i64 N, .slice B ms.length c'] w fun e w' => ∃ A c, e = .returned (.slice A (resOfR N ms).length c) ∧ Ow w' w.heap.size (.slice A (resOfR N ms).length c) (resOfR N ms) ∧ Below w.heap.size w w' := by
  have W1 := Lib.hid (sModuliOk_any B c' ms w hb hcap (by omega))
  rcases Bool.eq_false_or_eq_true (moduliB ms) with h | h
  · rw [h] at W1
    obtain ⟨p0, p1⟩ := prod_dec h
    have HP := Lib.hid (moduliB_in h)
    have HX := Lib.hid (moduliB_parts h).2.2.1
    have HB := Lib.hid hb
    rcases Bool.eq_false_or_eq_true (inB N 0 (prodI ms - 1)) with h2 | h2
    · obtain ⟨n0, n1⟩ := inB_true h2
      have HR := Lib.hid (resOfR_of h h2)
      clear h hb
      go_enter Try.func25, Try.ntmps25
      go_wp2_with fail
      refine (W1.out).mono ?_
      rintro e w' ⟨rfl, rfl⟩
      go_wp2_with fail
      refine (l07Range_any B c' ms _ HB.out (by omega) HP.out).mono ?_
      rintro e w' ⟨rfl, rfl⟩
      go_wp2_with fail
      refine (l01In_any _ _ _ _).mono ?_
      rintro e w' ⟨rfl, rfl⟩
      go_wp2_with fail
      refine (l13Residues_any B c' N ms _ HB.out hl' HX.out n0 (by omega)).mono ?_
      rintro e w1 ⟨A, c, rfl, O, B1⟩
      go_wp2
      go_ret
      exact ⟨A, c, by rw [HR.out, resUp_len (Nat.le_refl _)]; rfl, by rw [HR.out, resUp_len (Nat.le_refl _)]; exact O, B1⟩
    · have HR := Lib.hid (resOfR_no2 h2)
      clear h hb
      go_enter Try.func25, Try.ntmps25
      go_wp2_with fail
      refine (W1.out).mono ?_
      rintro e w' ⟨rfl, rfl⟩
      go_wp2_with fail
      refine (l07Range_any B c' ms _ HB.out (by omega) HP.out).mono ?_
      rintro e w' ⟨rfl, rfl⟩
      go_wp2_with fail
      refine (l01In_any _ _ _ _).mono ?_
      rintro e w' ⟨rfl, rfl⟩
      go_wp2
      go_ret
      exact ⟨none, 0, by rw [HR.out]; rfl, by rw [HR.out]; exact Ow.nil_ _ _, Below.refl _ _⟩
  · rw [h] at W1
    have HR := Lib.hid (resOfR_no1 (N := N) h)
    clear h
    go_enter Try.func25, Try.ntmps25
    go_wp2_with fail
    refine (W1.out).mono ?_
    rintro e w' ⟨rfl, rfl⟩
    go_wp2
    go_ret
    exact ⟨none, 0, by rw [HR.out]; rfl, by rw [HR.out]; exact Ow.nil_ _ _, Below.refl _ _⟩

set_option maxHeartbeats 1600000 in
theorem iResiduesOf_c (w : World) (N : Int) (_hN : I64 N) (B : Option Addr) (c' : Nat) (ms : List Int) (hb : Rd w B ms) (hcap : ms.length ≤ c') (hl' : ms.length ≤ 1048576) (_hb : AllI64 ms) :
    Calls Try.prog 26 #[.int .i64 N, .slice B ms.length c'] w fun e w' => ∃ A c, e = .returned (.slice A (resOfR N ms).length c) ∧ Ow w' w.heap.size (.slice A (resOfR N ms).length c) (resOfR N ms) ∧ Below w.heap.size w w' := by
  have W1 := Lib.hid (iModuliOk_any B c' ms w hb hcap (by omega))
  rcases Bool.eq_false_or_eq_true (moduliB ms) with h | h
  · rw [h] at W1
    obtain ⟨p0, p1⟩ := prod_dec h
    have HP := Lib.hid (moduliB_in h)
    have HX := Lib.hid (moduliB_parts h).2.2.1
    have HB := Lib.hid hb
    rcases Bool.eq_false_or_eq_true (inB N 0 (prodI ms - 1)) with h2 | h2
    · obtain ⟨n0, n1⟩ := inB_true h2
      have HR := Lib.hid (resOfR_of h h2)
      clear h hb
      go_enter Try.func26, Try.ntmps26
      go_wp2_with fail
      refine (W1.out).mono ?_
      rintro e w1 ⟨rfl, B1⟩
      go_wp2_with fail
      refine (product_any B c' ms _ (HB.out.below B1) (by omega) HP.out).mono ?_
      rintro e w' ⟨rfl, rfl⟩
      go_wp2_with fail
      refine (within_any _ _ _ _).mono ?_
      rintro e w' ⟨rfl, rfl⟩
      go_wp2
      go_loopw [5, 21] (fun v i wr => ∃ k : Nat, k ≤ ms.length ∧ i = .int .i64 k ∧ Ap wr w.heap.size v (resUp N ms k) ∧ Below w.heap.size w wr) (fun _ i _ => ms.length - (intOf i).toNat)
      case atStart => exact ⟨0, Nat.zero_le _, rfl, Ap.nil_ _ _, B1⟩
      case round =>
        obtain ⟨k, hk, rfl, hO, hB⟩ := hrel
        have hs := hB.size
        by_cases hlt : k < ms.length
        · obtain ⟨ad, m, rfl, hm, hc⟩ := (HB.out.below hB).at_ hlt
          have bm := HX.out m (List.mem_of_getElem? hm.out)
          have t0 := Int.emod_nonneg N (show m ≠ 0 by omega)
          have t1 := Int.emod_lt_of_pos N (show 0 < m by omega)
          have hL : (resUp N ms k).length < 1099511627776 := by rw [resUp_len hk]; omega
          go_wp2_with (at_builtin; refine wpList_app1 hO hL hs rfl _ _ 24 rfl rfl rfl rfl ?_; intro v' w' O' B')
          go_roundw
          case rel => exact ⟨k + 1, by omega, by go_num, by rw [resUp_succ hm.out]; exact O', hB.trans B'⟩
          case measure => simp [intOf]; omega
        · have hkl : k = ms.length := by omega
          subst hkl
          obtain ⟨A', c', rfl⟩ := hO.form
          have hw := hO.ow
          rw [← HR.out] at hw ⊢
          go_wp2
          go_ret
          exact ⟨A', c', rfl, hw, hB⟩
    · have HR := Lib.hid (resOfR_no2 h2)
      clear h hb
      go_enter Try.func26, Try.ntmps26
      go_wp2_with fail
      refine (W1.out).mono ?_
      rintro e w1 ⟨rfl, B1⟩
      go_wp2_with fail
      refine (product_any B c' ms _ (HB.out.below B1) (by omega) HP.out).mono ?_
      rintro e w' ⟨rfl, rfl⟩
      go_wp2_with fail
      refine (within_any _ _ _ _).mono ?_
      rintro e w' ⟨rfl, rfl⟩
      go_wp2
      go_ret
      exact ⟨none, 0, by rw [HR.out]; rfl, by rw [HR.out]; exact Ow.nil_ _ _, B1⟩
  · rw [h] at W1
    have HR := Lib.hid (resOfR_no1 (N := N) h)
    clear h
    go_enter Try.func26, Try.ntmps26
    go_wp2_with fail
    refine (W1.out).mono ?_
    rintro e w1 ⟨rfl, B1⟩
    go_wp2
    go_ret
    exact ⟨none, 0, by rw [HR.out]; rfl, by rw [HR.out]; exact Ow.nil_ _ _, B1⟩

set_option maxRecDepth 100000 in
set_option maxHeartbeats 1600000 in
theorem lResiduesOk_law (w : World) (A0 : Option Addr) (c0 : Nat) (xs0 : List Int) (r0 : Rd w A0 xs0) (_m0 : xs0.length ≤ maxLen) (b0 : ∀ x ∈ xs0, -9223372036854775808 ≤ x ∧ x ≤ 9223372036854775807) (A1 : Option Addr) (c1 : Nat) (xs1 : List Int) (r1 : Rd w A1 xs1) (_m1 : xs1.length ≤ maxLen) (b1 : ∀ x ∈ xs1, -9223372036854775808 ≤ x ∧ x ≤ 9223372036854775807) :
    Calls Try.prog 6 #[.slice A0 xs0.length c0, .slice A1 xs1.length c1] w fun e w' => e = .returned (.bool true) ∧ Below w.heap.size w w' := by
  have RA0 := Lib.hid r0
  have BA0 : AllI64 xs0 := b0
  clear r0 b0
  have RA1 := Lib.hid r1
  have BA1 : AllI64 xs1 := b1
  clear r1 b1
  by_cases h0 : xs0.length ≤ 1048576
  · skip
    by_cases h1 : xs1.length ≤ 1048576
    · skip
      go_enter Try.func6, Try.ntmps6
      go_wp2_with fail
      refine (toIntS_any _ _ _ _ (RA0.out.below (Below.refl w.heap.size w)) h0).mono ?_
      rintro e w1 ⟨A_S0, c_S0, rfl, S0_0, B1⟩
      have L_S0 := fun k hk => (S0_0.lt k hk).1
      have C2 := (Below.refl w.heap.size w).trans (B1.mono (Below.refl w.heap.size w).size)
      go_wp2_with fail
      refine (toIntS_any _ _ _ _ (RA1.out.below C2) h1).mono ?_
      rintro e w3 ⟨A_S1, c_S1, rfl, S1_0, B3⟩
      have U_S0_S1 := fun k hk => (S0_0.lt k hk).2
      have L_S1 := fun k hk => (S1_0.lt k hk).1
      have C4 := C2.trans (B3.mono C2.size)
      have S0_4 := S0_0.below' B3
      go_wp2_with fail
      refine (sResiduesOk_c _ _ _ _ S0_4.rd S0_4.cap.1 h0 BA0 _ _ _ S1_0.rd S1_0.cap.1 h1 BA1).mono ?_
      rintro e w5 ⟨rfl, B5⟩
      have C6 := C4.trans (B5.mono C4.size)
      have S0_6 := S0_4.below' B5
      have S1_6 := S1_0.below' B5
      go_wp2_with fail
      refine (toIntS_any _ _ _ _ (RA0.out.below C6) h0).mono ?_
      rintro e w7 ⟨A_X0, c_X0, rfl, X0_0, B7⟩
      have L_X0 := fun k hk => (X0_0.lt k hk).1
      have C8 := C6.trans (B7.mono C6.size)
      go_wp2_with fail
      refine (toIntS_any _ _ _ _ (RA1.out.below C8) h1).mono ?_
      rintro e w9 ⟨A_X1, c_X1, rfl, X1_0, B9⟩
      have U_X0_X1 := fun k hk => (X0_0.lt k hk).2
      have L_X1 := fun k hk => (X1_0.lt k hk).1
      have C10 := C8.trans (B9.mono C8.size)
      have X0_10 := X0_0.below' B9
      go_wp2_with fail
      refine (iResiduesOk_c _ _ _ _ X0_10.rd X0_10.cap.1 h0 BA0 _ _ _ X1_0.rd X1_0.cap.1 h1 BA1).mono ?_
      rintro e w11 ⟨rfl, B11⟩
      have C12 := C10.trans (B11.mono C10.size)
      have X0_12 := X0_10.below' B11
      have X1_12 := X1_0.below' B11
      go_wp2_with fail
      refine (toIntS_any _ _ _ _ (RA0.out.below C12) h0).mono ?_
      rintro e w13 ⟨A_T0, c_T0, rfl, T0_0, B13⟩
      have U_X0_T0 := fun k hk => (X0_12.lt k hk).2
      have U_X1_T0 := fun k hk => (X1_12.lt k hk).2
      have L_T0 := fun k hk => (T0_0.lt k hk).1
      have C14 := C12.trans (B13.mono C12.size)
      have X0_14 := X0_12.below' B13
      have X1_14 := X1_12.below' B13
      go_wp2_with fail
      refine (eqIntS_same _ _ _ _ _ _ X0_14.rd T0_0.rd (by omega)).mono ?_
      rintro e w15 ⟨rfl, n15_, rfl⟩
      have C16 := below_drewN C14 n15_
      have X0_16 := X0_14.drewN n15_
      have X1_16 := X1_14.drewN n15_
      have T0_16 := T0_0.drewN n15_
      go_wp2_with fail
      refine (toIntS_any _ _ _ _ (RA1.out.below C16) h1).mono ?_
      rintro e w17 ⟨A_T1, c_T1, rfl, T1_0, B17⟩
      have U_X0_T1 := fun k hk => (X0_16.lt k hk).2
      have U_X1_T1 := fun k hk => (X1_16.lt k hk).2
      have L_T1 := fun k hk => (T1_0.lt k hk).1
      have C18 := C16.trans (B17.mono C16.size)
      have X0_18 := X0_16.below' B17
      have X1_18 := X1_16.below' B17
      go_wp2_with fail
      refine (eqIntS_same _ _ _ _ _ _ X1_18.rd T1_0.rd (by omega)).mono ?_
      rintro e w19 ⟨rfl, n19_, rfl⟩
      have C20 := below_drewN C18 n19_
      have X0_20 := X0_18.drewN n19_
      have X1_20 := X1_18.drewN n19_
      have T1_20 := T1_0.drewN n19_
      go_wp2
      go_ret
      exact ⟨rfl, C20⟩
    · unfold maxLen at _m1
      go_enter Try.func6, Try.ntmps6
      go_wp2
      go_ret
      exact ⟨rfl, Below.refl _ _⟩
  · unfold maxLen at _m0
    go_enter Try.func6, Try.ntmps6
    go_wp2
    go_ret
    exact ⟨rfl, Below.refl _ _⟩

set_option maxRecDepth 100000 in
set_option maxHeartbeats 1600000 in
theorem lResiduesOf_law (w : World) (n0 : Int) (b0 : -9223372036854775808 ≤ n0 ∧ n0 ≤ 9223372036854775807) (A1 : Option Addr) (c1 : Nat) (xs1 : List Int) (r1 : Rd w A1 xs1) (_m1 : xs1.length ≤ maxLen) (b1 : ∀ x ∈ xs1, -9223372036854775808 ≤ x ∧ x ≤ 9223372036854775807) :
    Calls Try.prog 7 #[.int .i64 n0, .slice A1 xs1.length c1] w fun e w' => e = .returned (.bool true) ∧ Below w.heap.size w w' := by
  have BA0 : I64 n0 := b0
  clear b0
  have RA1 := Lib.hid r1
  have BA1 : AllI64 xs1 := b1
  clear r1 b1
  by_cases h1 : xs1.length ≤ 1048576
  · skip
    go_enter Try.func7, Try.ntmps7
    go_wp2_with fail
    refine (toIntS_any _ _ _ _ (RA1.out.below (Below.refl w.heap.size w)) h1).mono ?_
    rintro e w1 ⟨A_S1, c_S1, rfl, S1_0, B1⟩
    have L_S1 := fun k hk => (S1_0.lt k hk).1
    have C2 := (Below.refl w.heap.size w).trans (B1.mono (Below.refl w.heap.size w).size)
    go_wp2_with fail
    refine (sResiduesOf_c _ _ BA0 _ _ _ S1_0.rd S1_0.cap.1 h1 BA1).mono ?_
    rintro e w3 ⟨A_W0, c_W0, rfl, W0_0, B3⟩
    have U_S1_W0 := fun k hk => (S1_0.lt k hk).2
    have L_W0 := fun k hk => (W0_0.lt k hk).1
    have C4 := C2.trans (B3.mono C2.size)
    have S1_4 := S1_0.below' B3
    go_wp2_with fail
    refine (toIntS_any _ _ _ _ (RA1.out.below C4) h1).mono ?_
    rintro e w5 ⟨A_X1, c_X1, rfl, X1_0, B5⟩
    have U_W0_X1 := fun k hk => (W0_0.lt k hk).2
    have L_X1 := fun k hk => (X1_0.lt k hk).1
    have C6 := C4.trans (B5.mono C4.size)
    have W0_6 := W0_0.below' B5
    go_wp2_with fail
    refine (iResiduesOf_c _ _ BA0 _ _ _ X1_0.rd X1_0.cap.1 h1 BA1).mono ?_
    rintro e w7 ⟨A_G0, c_G0, rfl, G0_0, B7⟩
    have U_W0_G0 := fun k hk => (W0_6.lt k hk).2
    have U_X1_G0 := fun k hk => (X1_0.lt k hk).2
    have L_G0 := fun k hk => (G0_0.lt k hk).1
    have C8 := C6.trans (B7.mono C6.size)
    have W0_8 := W0_6.below' B7
    have X1_8 := X1_0.below' B7
    go_wp2_with fail
    refine (eqIntS_same _ _ _ _ _ _ G0_0.rd W0_8.rd ((resOfR_len n0 xs1))).mono ?_
    rintro e w9 ⟨rfl, n9_, rfl⟩
    have C10 := below_drewN C8 n9_
    have W0_10 := W0_8.drewN n9_
    have X1_10 := X1_8.drewN n9_
    have G0_10 := G0_0.drewN n9_
    go_wp2_with fail
    refine (toIntS_any _ _ _ _ (RA1.out.below C10) h1).mono ?_
    rintro e w11 ⟨A_T1, c_T1, rfl, T1_0, B11⟩
    have U_W0_T1 := fun k hk => (W0_10.lt k hk).2
    have U_X1_T1 := fun k hk => (X1_10.lt k hk).2
    have U_G0_T1 := fun k hk => (G0_10.lt k hk).2
    have L_T1 := fun k hk => (T1_0.lt k hk).1
    have C12 := C10.trans (B11.mono C10.size)
    have W0_12 := W0_10.below' B11
    have X1_12 := X1_10.below' B11
    have G0_12 := G0_10.below' B11
    go_wp2_with fail
    refine (eqIntS_same _ _ _ _ _ _ X1_12.rd T1_0.rd (by omega)).mono ?_
    rintro e w13 ⟨rfl, n13_, rfl⟩
    have C14 := below_drewN C12 n13_
    have W0_14 := W0_12.drewN n13_
    have X1_14 := X1_12.drewN n13_
    have G0_14 := G0_12.drewN n13_
    have T1_14 := T1_0.drewN n13_
    go_wp2_with fail
    refine (markIntS_any _ _ _ _ _ _ X1_14 (by omega) (by omega) (by omega)).mono ?_
    rintro e w15 ⟨rfl, X1_15, G15⟩
    have W0_15 := W0_14.kept G15 (own_ne U_W0_X1 L_X1)
    have G0_15 := G0_14.kept G15 (own_ne' U_X1_G0 L_G0)
    have C16 := C14.grown G15 C14.size (fun k hk => Nat.le_trans C4.size (L_X1 k hk))
    go_wp2_with fail
    refine (eqIntS_same _ _ _ _ _ _ G0_15.rd W0_15.rd ((resOfR_len n0 xs1))).mono ?_
    rintro e w17 ⟨rfl, n17_, rfl⟩
    have C18 := below_drewN C16 n17_
    have W0_18 := W0_15.drewN n17_
    have G0_18 := G0_15.drewN n17_
    go_wp2_with fail
    refine (markIntS_any _ _ _ _ _ _ G0_18 ((resOfR_len n0 xs1)) (by omega) (by omega)).mono ?_
    rintro e w19 ⟨rfl, G0_19, G19⟩
    have W0_19 := W0_18.kept G19 (own_ne U_W0_G0 L_G0)
    have C20 := C18.grown G19 C18.size (fun k hk => Nat.le_trans C6.size (L_G0 k hk))
    go_wp2_with fail
    refine (heldIntS_any _ _ _ _ _ (by have h := G0_19.rd' (marks_length _ _); exact h) ((resOfR_len n0 xs1)) (by omega) (by omega)).mono ?_
    rintro e w21 ⟨rfl, rfl⟩
    go_wp2_with fail
    refine (toIntS_any _ _ _ _ (RA1.out.below C20) h1).mono ?_
    rintro e w22 ⟨A_Y1, c_Y1, rfl, Y1_0, B22⟩
    have U_W0_Y1 := fun k hk => (W0_19.lt k hk).2
    have U_G0_Y1 := fun k hk => (G0_19.lt k hk).2
    have L_Y1 := fun k hk => (Y1_0.lt k hk).1
    have C23 := C20.trans (B22.mono C20.size)
    have W0_23 := W0_19.below' B22
    have G0_23 := G0_19.below' B22
    go_wp2_with fail
    refine (iResiduesOf_c _ _ BA0 _ _ _ Y1_0.rd Y1_0.cap.1 h1 BA1).mono ?_
    rintro e w24 ⟨A_H0, c_H0, rfl, H0_0, B24⟩
    have U_W0_H0 := fun k hk => (W0_23.lt k hk).2
    have U_G0_H0 := fun k hk => (G0_23.lt k hk).2
    have U_Y1_H0 := fun k hk => (Y1_0.lt k hk).2
    have L_H0 := fun k hk => (H0_0.lt k hk).1
    have C25 := C23.trans (B24.mono C23.size)
    have W0_25 := W0_23.below' B24
    have G0_25 := G0_23.below' B24
    have Y1_25 := Y1_0.below' B24
    go_wp2_with fail
    refine (eqIntS_same _ _ _ _ _ _ H0_0.rd W0_25.rd ((resOfR_len n0 xs1))).mono ?_
    rintro e w26 ⟨rfl, n26_, rfl⟩
    have C27 := below_drewN C25 n26_
    have W0_27 := W0_25.drewN n26_
    have G0_27 := G0_25.drewN n26_
    have H0_27 := H0_0.drewN n26_
    go_wp2_with fail
    refine (heldIntS_any _ _ _ _ _ (by have h := G0_27.rd' (marks_length _ _); exact h) ((resOfR_len n0 xs1)) (by omega) (by omega)).mono ?_
    rintro e w28 ⟨rfl, rfl⟩
    go_wp2
    go_ret
    exact ⟨rfl, C27⟩
  · unfold maxLen at _m1
    go_enter Try.func7, Try.ntmps7
    go_wp2
    go_ret
    exact ⟨rfl, Below.refl _ _⟩

end Go.Proofs.Ytfdighaginmabaa
