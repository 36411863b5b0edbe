/-
  WALKS: ResiduesAdd and ResiduesTimes (both packages) and the laws over them.
-/
import Derived.Test.YtfdighaginmabaaR4
import Derived.Test.YtfdighaginmabaaReg
namespace Go.Proofs.Ytfdighaginmabaa
open Go.RowKit

/-- Of the first k places of two lists: what is made of the two numbers, by the modulus. -/
def twoUp (f : Int → Int → Int) (xs ys ms : List Int) (k : Nat) : List Int := (List.range k).map fun i => f (xs.getD i 0) (ys.getD i 0) % ms.getD i 1
theorem twoUp_len (f : Int → Int → Int) (xs ys ms : List Int) (k : Nat) : (twoUp f xs ys ms k).length = k := by simp [twoUp]
theorem twoUp_succ {f : Int → Int → Int} {xs ys ms : List Int} {k : Nat} {x y m : Int} (hx : xs[k]? = some x) (hy : ys[k]? = some y) (hm : ms[k]? = some m) : twoUp f xs ys ms (k + 1) = twoUp f xs ys ms k ++ [f x y % m] := by
  unfold twoUp
  rw [List.range_succ]
  simp [List.getD, hx, hy, hm]
def twoR (f : Int → Int → Int) (xs ys ms : List Int) : List Int := if residuesB xs ms && residuesB ys ms then twoUp f xs ys ms ms.length else []
theorem twoR_of {f : Int → Int → Int} {xs ys ms : List Int} (h1 : residuesB xs ms = true) (h2 : residuesB ys ms = true) : twoR f xs ys ms = twoUp f xs ys ms ms.length := by simp [twoR, h1, h2]
theorem twoR_no1 {f : Int → Int → Int} {xs ys ms : List Int} (h1 : residuesB xs ms = false) : twoR f xs ys ms = [] := by simp [twoR, h1]
theorem twoR_no2 {f : Int → Int → Int} {xs ys ms : List Int} (h2 : residuesB ys ms = false) : twoR f xs ys ms = [] := by simp [twoR, h2]
def addR : List Int → List Int → List Int → List Int := twoR fun x y => x + y
def timesR : List Int → List Int → List Int → List Int := twoR fun x y => x * y
theorem twoR_len (f : Int → Int → Int) (xs ys ms : List Int) : (twoR f xs ys ms).length ≤ 1099511627776 := by
  unfold twoR
  split
  · rename_i h
    rw [Bool.and_eq_true] at h
    have := moduliB_parts (residuesB_parts h.1).1
    rw [twoUp_len]
    omega
  · simp
theorem addR_len (xs ys ms : List Int) : (addR xs ys ms).length ≤ 1099511627776 := twoR_len _ xs ys ms
theorem timesR_len (xs ys ms : List Int) : (timesR xs ys ms).length ≤ 1099511627776 := twoR_len _ xs ys ms
theorem small_mul {x y : Int} (hx : 0 ≤ x ∧ x ≤ 1000) (hy : 0 ≤ y ∧ y ≤ 1000) : 0 ≤ x * y ∧ x * y ≤ 1000000 := by
  have h1 := Int.mul_nonneg hx.1 hy.1
  have h2 : x * y ≤ 1000 * 1000 := Int.mul_le_mul hx.2 hy.2 hy.1 (by omega)
  omega

theorem l13Two_any (A C B : Option Addr) (c1 c2 c3 : Nat) (xs ys ms : List Int) (w : World) (ha : Rd w A xs) (hc : Rd w C ys) (hb : Rd w B ms) (hcap : ms.length ≤ c3) (hl : xs.length ≤ 1099511627776) (hl2 : ys.length ≤ 1099511627776) (hl' : ms.length ≤ 1099511627776) :
    Calls Try.prog 59 #[.slice A xs.length c1, .slice C ys.length c2, .slice B ms.length c3] w fun e w' => e = .returned (.bool (residuesB xs ms && residuesB ys ms)) ∧ w = w' := by
  have W1 := Lib.hid (sResiduesOk_any A B c1 c3 xs ms w ha hb hcap hl hl')
  rcases Bool.eq_false_or_eq_true (residuesB xs ms) with h | h
  · rw [h] at W1
    rw [h]
    go_enter Try.func59, Try.ntmps59
    go_wp2_with fail
    refine (W1.out).mono ?_
    rintro e w' ⟨rfl, rfl⟩
    go_wp2_with fail
    refine (sResiduesOk_any C B c2 c3 ys ms _ hc hb hcap hl2 hl').mono ?_
    rintro e w' ⟨rfl, rfl⟩
    go_wp2
    go_ret
    exact ⟨ret_bool (by simp), rfl⟩
  · rw [h] at W1
    rw [h]
    go_enter Try.func59, Try.ntmps59
    go_wp2_with fail
    refine (W1.out).mono ?_
    rintro e w' ⟨rfl, rfl⟩
    go_wp2
    go_ret
    exact ⟨ret_bool (by simp), rfl⟩


theorem closAdd_any (x y : Int) (w : World) (hx : 0 ≤ x ∧ x ≤ 1000) (hy : 0 ≤ y ∧ y ≤ 1000) :
    Calls Try.prog 61 #[.int .i64 x, .int .i64 y] w fun e w' => e = .returned (.int .i64 (x + y)) ∧ w = w' := by
  have hb := small_mul hx hy
  go_enter Try.func61, Try.ntmps61
  go_wp2
  go_ret
  exact ⟨rfl, rfl⟩

set_option maxHeartbeats 3200000 in
theorem residuesOfAdd_c (w : World) (A : Option Addr) (c1 : Nat) (xs : List Int) (ha : Rd w A xs) (_k1 : xs.length ≤ c1) (hl : xs.length ≤ 1048576) (_h1 : AllI64 xs) (C : Option Addr) (c2 : Nat) (ys : List Int) (hc : Rd w C ys) (_k2 : ys.length ≤ c2) (hl2 : ys.length ≤ 1048576) (_h2 : AllI64 ys) (B : Option Addr) (c3 : Nat) (ms : List Int) (hb : Rd w B ms) (hcap : ms.length ≤ c3) (hl' : ms.length ≤ 1048576) (_h3 : AllI64 ms) :
    Calls Try.prog 60 #[.slice A xs.length c1, .slice C ys.length c2, .slice B ms.length c3, .func (.func 61) #[] #[]] w fun e w' => ∃ A c, e = .returned (.slice A (addR xs ys ms).length c) ∧ Ow w' w.heap.size (.slice A (addR xs ys ms).length c) (addR xs ys ms) ∧ Below w.heap.size w w' := by
  have W1 := Lib.hid (iResiduesOk_any A B c1 c3 xs ms w ha hb hcap (by omega) (by omega))
  rcases Bool.eq_false_or_eq_true (residuesB xs ms) with h | h
  · rw [h] at W1
    have W2 := Lib.hid (fun (u : World) (B1 : Below w.heap.size w u) => iResiduesOk_any C B c2 c3 ys ms u (hc.below B1) (hb.below B1) hcap (by omega) (by omega))
    rcases Bool.eq_false_or_eq_true (residuesB ys ms) with h2 | h2
    · rw [h2] at W2
      obtain ⟨q1, q2, q3⟩ := residuesB_parts h
      obtain ⟨q4, q5, q6⟩ := residuesB_parts h2
      have HX := Lib.hid (moduliB_parts q1).2.2.1
      have HL1 := Lib.hid q2
      have HL2 := Lib.hid q5
      have HI1 := Lib.hid q3
      have HI2 := Lib.hid q6
      have HA := Lib.hid ha
      have HB := Lib.hid hb
      have HC := Lib.hid hc
      have HR : Hid (addR xs ys ms = twoUp (fun x y : Int => x + y) xs ys ms ms.length) := twoR_of h h2
      clear q3 q6 q2 q5 ha hb hc
      clear h h2
      go_enter Try.func60, Try.ntmps60
      go_wp2_with fail
      refine (W1.out).mono ?_
      rintro e w1 ⟨rfl, B1⟩
      go_wp2_with fail
      refine (W2.out _ B1).mono ?_
      rintro e w2 ⟨rfl, B2⟩
      have B3 := B1.trans (B2.mono B1.size)
      go_wp2
      go_loopw [9, 24] (fun v i wr => ∃ k : Nat, k ≤ ms.length ∧ i = .int .i64 k ∧ Ap wr w.heap.size v (twoUp (fun x y : Int => x + y) xs ys ms k) ∧ Below w.heap.size w wr) (fun _ i _ => ms.length - (intOf i).toNat)
      case atStart => exact ⟨0, Nat.zero_le _, rfl, Ap.nil_ _ _, B3⟩
      case round =>
        obtain ⟨k, hk, rfl, hO, hB⟩ := hrel
        have hs := hB.size
        by_cases hlt : k < ms.length
        · obtain ⟨bd, m, rfl, hm, hcm⟩ := (HB.out.below hB).at_ hlt
          obtain ⟨ad, x, rfl, hx, hcx⟩ := (HA.out.below hB).at_ (k := k) (by have := HL1.out; omega)
          obtain ⟨cd, y, rfl, hy, hcy⟩ := (HC.out.below hB).at_ (k := k) (by have := HL2.out; omega)
          have bm := HX.out m (List.mem_of_getElem? hm.out)
          have bx := HI1.out k x m hx.out hm.out
          have by_ := HI2.out k y m hy.out hm.out
          have bq := small_mul (x := x) (y := y) (by omega) (by omega)
          have t0 := Int.emod_nonneg (x + y) (show m ≠ 0 by omega)
          have t1 := Int.emod_lt_of_pos (x + y) (show 0 < m by omega)
          have hz0 : m ≠ 0 := by omega
          have hz1 : (x + y).tmod m = (x + y) % m := Int.tmod_eq_emod_of_nonneg (by omega)
          have hw0 : IntKind.i64.wrap (x + y) = x + y := IntWalk.i64_in _ (by omega)
          have hL : (twoUp (fun x y : Int => x + y) xs ys ms k).length < 1099511627776 := by rw [twoUp_len]; omega
          have HS := Lib.hid (twoUp_succ (f := (fun x y : Int => x + y)) hx.out hy.out hm.out)
          have d0 : (0 : Int) ≤ k := by omega
          have d1 : (k : Int) < ms.length := by omega
          have d2 : (k : Int) < xs.length := by have := HL1.out; omega
          have d3 : (k : Int) < ys.length := by have := HL2.out; omega
          have LA := cell_lt (HA.out.at2 hx.out rfl)
          have LC := cell_lt (HC.out.at2 hy.out rfl)
          clear hx hy hm
          go_wp2_with fail
          go_region_held3 (fun w' => w'.cell? (ad.add k) = some (.int .i64 x) ∧ w'.cell? (cd.add k) = some (.int .i64 y)) (first
              | go_keep
              | (go_split_ands
                 refine ⟨?_, ?_⟩
                 · (rw [B'.cell LA]; assumption)
                 · (rw [B'.cell LC]; assumption)))
            (first | ((refine step_app1 hO ⟨rfl, rfl, rfl, rfl⟩ hL hs (by rfl) _ _ 24 (by rfl) (by rfl) (by rfl) (by rfl) ?_; intro A' c' w' O' B')) | (go_at_call 61; refine (closAdd_any x y _ (by omega) (by omega)).mono ?_; rintro e w' ⟨rfl, rfl⟩))
          go_wp2
          go_roundw
          case rel => exact ⟨k + 1, by omega, by go_num, by rw [HS.out]; exact O', hB.trans B'⟩
          case measure => simp [intOf]; omega
        · have hkl : k = ms.length := by omega
          subst hkl
          obtain ⟨A', c', rfl⟩ := hO.form
          have hw := hO.ow
          rw [← HR.out] at hw ⊢
          go_wp2
          go_ret
          exact ⟨A', c', rfl, hw, hB⟩
    · rw [h2] at W2
      have HR : Hid (addR xs ys ms = []) := twoR_no2 h2
      clear h h2
      go_enter Try.func60, Try.ntmps60
      go_wp2_with fail
      refine (W1.out).mono ?_
      rintro e w1 ⟨rfl, B1⟩
      go_wp2_with fail
      refine (W2.out _ B1).mono ?_
      rintro e w2 ⟨rfl, B2⟩
      go_wp2
      go_ret
      exact ⟨none, 0, by rw [HR.out]; rfl, by rw [HR.out]; exact Ow.nil_ _ _, B1.trans (B2.mono B1.size)⟩
  · rw [h] at W1
    have HR : Hid (addR xs ys ms = []) := twoR_no1 h
    clear h
    go_enter Try.func60, Try.ntmps60
    go_wp2_with fail
    refine (W1.out).mono ?_
    rintro e w1 ⟨rfl, B1⟩
    go_wp2
    go_ret
    exact ⟨none, 0, by rw [HR.out]; rfl, by rw [HR.out]; exact Ow.nil_ _ _, B1⟩

theorem iResiduesAdd_c (w : World) (A : Option Addr) (c1 : Nat) (xs : List Int) (ha : Rd w A xs) (_k1 : xs.length ≤ c1) (hl : xs.length ≤ 1048576) (_h1 : AllI64 xs) (C : Option Addr) (c2 : Nat) (ys : List Int) (hc : Rd w C ys) (_k2 : ys.length ≤ c2) (hl2 : ys.length ≤ 1048576) (_h2 : AllI64 ys) (B : Option Addr) (c3 : Nat) (ms : List Int) (hb : Rd w B ms) (hcap : ms.length ≤ c3) (hl' : ms.length ≤ 1048576) (_h3 : AllI64 ms) :
    Calls Try.prog 30 #[.slice A xs.length c1, .slice C ys.length c2, .slice B ms.length c3] w fun e w' => ∃ A c, e = .returned (.slice A (addR xs ys ms).length c) ∧ Ow w' w.heap.size (.slice A (addR xs ys ms).length c) (addR xs ys ms) ∧ Below w.heap.size w w' := by
  have hmf : ∀ (fn : Fn) (first cap : Array Value) (w : World), (Instr.makeFunc fn first cap).run Try.prog w = .ok (.func fn first cap) w := fun _ _ _ _ => rfl
  go_enter Try.func30, Try.ntmps30
  go_wp2_with fail
  refine (residuesOfAdd_c w A c1 xs ha _k1 hl _h1 C c2 ys hc _k2 hl2 _h2 B c3 ms hb hcap hl' _h3).mono ?_
  rintro e w1 ⟨A1, c, rfl, O, B1⟩
  go_wp2
  go_ret
  exact ⟨A1, c, rfl, O, B1⟩


set_option maxHeartbeats 3200000 in
theorem sResiduesAdd_c (w : World) (A : Option Addr) (c1 : Nat) (xs : List Int) (ha : Rd w A xs) (_k1 : xs.length ≤ c1) (hl : xs.length ≤ 1048576) (_h1 : AllI64 xs) (C : Option Addr) (c2 : Nat) (ys : List Int) (hc : Rd w C ys) (_k2 : ys.length ≤ c2) (hl2 : ys.length ≤ 1048576) (_h2 : AllI64 ys) (B : Option Addr) (c3 : Nat) (ms : List Int) (hb : Rd w B ms) (hcap : ms.length ≤ c3) (hl' : ms.length ≤ 1048576) (_h3 : AllI64 ms) :
    Calls Try.prog 29 #[.slice A xs.length c1, .slice C ys.length c2, .slice B ms.length c3] w fun e w' => ∃ A c, e = .returned (.slice A (addR xs ys ms).length c) ∧ Ow w' w.heap.size (.slice A (addR xs ys ms).length c) (addR xs ys ms) ∧ Below w.heap.size w w' := by
  have W1 := Lib.hid (l13Two_any A C B c1 c2 c3 xs ys ms w ha hc hb hcap (by omega) (by omega) (by omega))
  rcases Bool.eq_false_or_eq_true (residuesB xs ms) with h | h
  · rw [h] at W1
    rcases Bool.eq_false_or_eq_true (residuesB ys ms) with h2 | h2
    · rw [h2] at W1
      obtain ⟨q1, q2, q3⟩ := residuesB_parts h
      obtain ⟨q4, q5, q6⟩ := residuesB_parts h2
      have HX := Lib.hid (moduliB_parts q1).2.2.1
      have HL1 := Lib.hid q2
      have HL2 := Lib.hid q5
      have HI1 := Lib.hid q3
      have HI2 := Lib.hid q6
      have HA := Lib.hid ha
      have HB := Lib.hid hb
      have HC := Lib.hid hc
      have HR : Hid (addR xs ys ms = twoUp (fun x y : Int => x + y) xs ys ms ms.length) := twoR_of h h2
      clear q3 q6 q2 q5 ha hb hc
      clear h h2
      go_enter Try.func29, Try.ntmps29
      go_wp2_with fail
      refine (W1.out).mono ?_
      rintro e w' ⟨rfl, rfl⟩
      go_wp2
      go_loopw [7, 18] (fun v i wr => ∃ k : Nat, k ≤ ms.length ∧ i = .int .i64 k ∧ Ap wr w.heap.size v (twoUp (fun x y : Int => x + y) xs ys ms k) ∧ Below w.heap.size w wr) (fun _ i _ => ms.length - (intOf i).toNat)
      case atStart => exact ⟨0, Nat.zero_le _, rfl, Ap.empty _ _ (Nat.le_refl _), (Below.refl _ _).alloc (Nat.le_refl _) _⟩
      case round =>
        obtain ⟨k, hk, rfl, hO, hB⟩ := hrel
        have hs := hB.size
        by_cases hlt : k < ms.length
        · obtain ⟨bd, m, rfl, hm, hcm⟩ := (HB.out.below hB).at_ hlt
          obtain ⟨ad, x, rfl, hx, hcx⟩ := (HA.out.below hB).at_ (k := k) (by have := HL1.out; omega)
          obtain ⟨cd, y, rfl, hy, hcy⟩ := (HC.out.below hB).at_ (k := k) (by have := HL2.out; omega)
          have bm := HX.out m (List.mem_of_getElem? hm.out)
          have bx := HI1.out k x m hx.out hm.out
          have by_ := HI2.out k y m hy.out hm.out
          have bq := small_mul (x := x) (y := y) (by omega) (by omega)
          have t0 := Int.emod_nonneg (x + y) (show m ≠ 0 by omega)
          have t1 := Int.emod_lt_of_pos (x + y) (show 0 < m by omega)
          have hz0 : m ≠ 0 := by omega
          have hz1 : (x + y).tmod m = (x + y) % m := Int.tmod_eq_emod_of_nonneg (by omega)
          have hw0 : IntKind.i64.wrap (x + y) = x + y := IntWalk.i64_in _ (by omega)
          have hL : (twoUp (fun x y : Int => x + y) xs ys ms k).length < 1099511627776 := by rw [twoUp_len]; omega
          have HS := Lib.hid (twoUp_succ (f := (fun x y : Int => x + y)) hx.out hy.out hm.out)
          have d0 : (0 : Int) ≤ k := by omega
          have d1 : (k : Int) < ms.length := by omega
          have d2 : (k : Int) < xs.length := by have := HL1.out; omega
          have d3 : (k : Int) < ys.length := by have := HL2.out; omega
          have LA := cell_lt (HA.out.at2 hx.out rfl)
          have LC := cell_lt (HC.out.at2 hy.out rfl)
          clear hx hy hm
          go_wp2_with fail
          go_region_held3 (fun w' => w'.cell? (ad.add k) = some (.int .i64 x) ∧ w'.cell? (cd.add k) = some (.int .i64 y)) (first
              | go_keep
              | (go_split_ands
                 refine ⟨?_, ?_⟩
                 · (rw [B'.cell LA]; assumption)
                 · (rw [B'.cell LC]; assumption)))
            (first | ((refine step_app1 hO ⟨rfl, rfl, rfl, rfl⟩ hL hs (by rfl) _ _ 24 (by rfl) (by rfl) (by rfl) (by rfl) ?_; intro A' c' w' O' B')) | fail)
          go_wp2
          go_roundw
          case rel => exact ⟨k + 1, by omega, by go_num, by rw [HS.out]; exact O', hB.trans B'⟩
          case measure => simp [intOf]; omega
        · have hkl : k = ms.length := by omega
          subst hkl
          obtain ⟨A', c', rfl⟩ := hO.form
          have hw := hO.ow
          rw [← HR.out] at hw ⊢
          go_wp2
          go_ret
          exact ⟨A', c', rfl, hw, hB⟩
    · rw [h2] at W1
      have HR : Hid (addR xs ys ms = []) := twoR_no2 h2
      clear h h2
      go_enter Try.func29, Try.ntmps29
      go_wp2_with fail
      refine (W1.out).mono ?_
      rintro e w' ⟨rfl, rfl⟩
      go_wp2
      go_ret
      exact ⟨none, 0, by rw [HR.out]; rfl, by rw [HR.out]; exact Ow.nil_ _ _, Below.refl _ _⟩
  · rw [h] at W1
    have HR : Hid (addR xs ys ms = []) := twoR_no1 h
    clear h
    go_enter Try.func29, Try.ntmps29
    go_wp2_with fail
    refine (W1.out).mono ?_
    rintro e w' ⟨rfl, rfl⟩
    go_wp2
    go_ret
    exact ⟨none, 0, by rw [HR.out]; rfl, by rw [HR.out]; exact Ow.nil_ _ _, Below.refl _ _⟩


theorem closTimes_any (x y : Int) (w : World) (hx : 0 ≤ x ∧ x ≤ 1000) (hy : 0 ≤ y ∧ y ≤ 1000) :
    Calls Try.prog 62 #[.int .i64 x, .int .i64 y] w fun e w' => e = .returned (.int .i64 (x * y)) ∧ w = w' := by
  have hb := small_mul hx hy
  go_enter Try.func62, Try.ntmps62
  go_wp2
  go_ret
  exact ⟨rfl, rfl⟩

set_option maxHeartbeats 3200000 in
theorem residuesOfTimes_c (w : World) (A : Option Addr) (c1 : Nat) (xs : List Int) (ha : Rd w A xs) (_k1 : xs.length ≤ c1) (hl : xs.length ≤ 1048576) (_h1 : AllI64 xs) (C : Option Addr) (c2 : Nat) (ys : List Int) (hc : Rd w C ys) (_k2 : ys.length ≤ c2) (hl2 : ys.length ≤ 1048576) (_h2 : AllI64 ys) (B : Option Addr) (c3 : Nat) (ms : List Int) (hb : Rd w B ms) (hcap : ms.length ≤ c3) (hl' : ms.length ≤ 1048576) (_h3 : AllI64 ms) :
    Calls Try.prog 60 #[.slice A xs.length c1, .slice C ys.length c2, .slice B ms.length c3, .func (.func 62) #[] #[]] w fun e w' => ∃ A c, e = .returned (.slice A (timesR xs ys ms).length c) ∧ Ow w' w.heap.size (.slice A (timesR xs ys ms).length c) (timesR xs ys ms) ∧ Below w.heap.size w w' := by
  have W1 := Lib.hid (iResiduesOk_any A B c1 c3 xs ms w ha hb hcap (by omega) (by omega))
  rcases Bool.eq_false_or_eq_true (residuesB xs ms) with h | h
  · rw [h] at W1
    have W2 := Lib.hid (fun (u : World) (B1 : Below w.heap.size w u) => iResiduesOk_any C B c2 c3 ys ms u (hc.below B1) (hb.below B1) hcap (by omega) (by omega))
    rcases Bool.eq_false_or_eq_true (residuesB ys ms) with h2 | h2
    · rw [h2] at W2
      obtain ⟨q1, q2, q3⟩ := residuesB_parts h
      obtain ⟨q4, q5, q6⟩ := residuesB_parts h2
      have HX := Lib.hid (moduliB_parts q1).2.2.1
      have HL1 := Lib.hid q2
      have HL2 := Lib.hid q5
      have HI1 := Lib.hid q3
      have HI2 := Lib.hid q6
      have HA := Lib.hid ha
      have HB := Lib.hid hb
      have HC := Lib.hid hc
      have HR : Hid (timesR xs ys ms = twoUp (fun x y : Int => x * y) xs ys ms ms.length) := twoR_of h h2
      clear q3 q6 q2 q5 ha hb hc
      clear h h2
      go_enter Try.func60, Try.ntmps60
      go_wp2_with fail
      refine (W1.out).mono ?_
      rintro e w1 ⟨rfl, B1⟩
      go_wp2_with fail
      refine (W2.out _ B1).mono ?_
      rintro e w2 ⟨rfl, B2⟩
      have B3 := B1.trans (B2.mono B1.size)
      go_wp2
      go_loopw [9, 24] (fun v i wr => ∃ k : Nat, k ≤ ms.length ∧ i = .int .i64 k ∧ Ap wr w.heap.size v (twoUp (fun x y : Int => x * y) xs ys ms k) ∧ Below w.heap.size w wr) (fun _ i _ => ms.length - (intOf i).toNat)
      case atStart => exact ⟨0, Nat.zero_le _, rfl, Ap.nil_ _ _, B3⟩
      case round =>
        obtain ⟨k, hk, rfl, hO, hB⟩ := hrel
        have hs := hB.size
        by_cases hlt : k < ms.length
        · obtain ⟨bd, m, rfl, hm, hcm⟩ := (HB.out.below hB).at_ hlt
          obtain ⟨ad, x, rfl, hx, hcx⟩ := (HA.out.below hB).at_ (k := k) (by have := HL1.out; omega)
          obtain ⟨cd, y, rfl, hy, hcy⟩ := (HC.out.below hB).at_ (k := k) (by have := HL2.out; omega)
          have bm := HX.out m (List.mem_of_getElem? hm.out)
          have bx := HI1.out k x m hx.out hm.out
          have by_ := HI2.out k y m hy.out hm.out
          have bq := small_mul (x := x) (y := y) (by omega) (by omega)
          have t0 := Int.emod_nonneg (x * y) (show m ≠ 0 by omega)
          have t1 := Int.emod_lt_of_pos (x * y) (show 0 < m by omega)
          have hz0 : m ≠ 0 := by omega
          have hz1 : (x * y).tmod m = (x * y) % m := Int.tmod_eq_emod_of_nonneg (by omega)
          have hw0 : IntKind.i64.wrap (x * y) = x * y := IntWalk.i64_in _ (by omega)
          have hL : (twoUp (fun x y : Int => x * y) xs ys ms k).length < 1099511627776 := by rw [twoUp_len]; omega
          have HS := Lib.hid (twoUp_succ (f := (fun x y : Int => x * y)) hx.out hy.out hm.out)
          have d0 : (0 : Int) ≤ k := by omega
          have d1 : (k : Int) < ms.length := by omega
          have d2 : (k : Int) < xs.length := by have := HL1.out; omega
          have d3 : (k : Int) < ys.length := by have := HL2.out; omega
          have LA := cell_lt (HA.out.at2 hx.out rfl)
          have LC := cell_lt (HC.out.at2 hy.out rfl)
          clear hx hy hm
          go_wp2_with fail
          go_region_held3 (fun w' => w'.cell? (ad.add k) = some (.int .i64 x) ∧ w'.cell? (cd.add k) = some (.int .i64 y)) (first
              | go_keep
              | (go_split_ands
                 refine ⟨?_, ?_⟩
                 · (rw [B'.cell LA]; assumption)
                 · (rw [B'.cell LC]; assumption)))
            (first | ((refine step_app1 hO ⟨rfl, rfl, rfl, rfl⟩ hL hs (by rfl) _ _ 24 (by rfl) (by rfl) (by rfl) (by rfl) ?_; intro A' c' w' O' B')) | (go_at_call 62; refine (closTimes_any x y _ (by omega) (by omega)).mono ?_; rintro e w' ⟨rfl, rfl⟩))
          go_wp2
          go_roundw
          case rel => exact ⟨k + 1, by omega, by go_num, by rw [HS.out]; exact O', hB.trans B'⟩
          case measure => simp [intOf]; omega
        · have hkl : k = ms.length := by omega
          subst hkl
          obtain ⟨A', c', rfl⟩ := hO.form
          have hw := hO.ow
          rw [← HR.out] at hw ⊢
          go_wp2
          go_ret
          exact ⟨A', c', rfl, hw, hB⟩
    · rw [h2] at W2
      have HR : Hid (timesR xs ys ms = []) := twoR_no2 h2
      clear h h2
      go_enter Try.func60, Try.ntmps60
      go_wp2_with fail
      refine (W1.out).mono ?_
      rintro e w1 ⟨rfl, B1⟩
      go_wp2_with fail
      refine (W2.out _ B1).mono ?_
      rintro e w2 ⟨rfl, B2⟩
      go_wp2
      go_ret
      exact ⟨none, 0, by rw [HR.out]; rfl, by rw [HR.out]; exact Ow.nil_ _ _, B1.trans (B2.mono B1.size)⟩
  · rw [h] at W1
    have HR : Hid (timesR xs ys ms = []) := twoR_no1 h
    clear h
    go_enter Try.func60, Try.ntmps60
    go_wp2_with fail
    refine (W1.out).mono ?_
    rintro e w1 ⟨rfl, B1⟩
    go_wp2
    go_ret
    exact ⟨none, 0, by rw [HR.out]; rfl, by rw [HR.out]; exact Ow.nil_ _ _, B1⟩

theorem iResiduesTimes_c (w : World) (A : Option Addr) (c1 : Nat) (xs : List Int) (ha : Rd w A xs) (_k1 : xs.length ≤ c1) (hl : xs.length ≤ 1048576) (_h1 : AllI64 xs) (C : Option Addr) (c2 : Nat) (ys : List Int) (hc : Rd w C ys) (_k2 : ys.length ≤ c2) (hl2 : ys.length ≤ 1048576) (_h2 : AllI64 ys) (B : Option Addr) (c3 : Nat) (ms : List Int) (hb : Rd w B ms) (hcap : ms.length ≤ c3) (hl' : ms.length ≤ 1048576) (_h3 : AllI64 ms) :
    Calls Try.prog 32 #[.slice A xs.length c1, .slice C ys.length c2, .slice B ms.length c3] w fun e w' => ∃ A c, e = .returned (.slice A (timesR xs ys ms).length c) ∧ Ow w' w.heap.size (.slice A (timesR xs ys ms).length c) (timesR xs ys ms) ∧ Below w.heap.size w w' := by
  have hmf : ∀ (fn : Fn) (first cap : Array Value) (w : World), (Instr.makeFunc fn first cap).run Try.prog w = .ok (.func fn first cap) w := fun _ _ _ _ => rfl
  go_enter Try.func32, Try.ntmps32
  go_wp2_with fail
  refine (residuesOfTimes_c w A c1 xs ha _k1 hl _h1 C c2 ys hc _k2 hl2 _h2 B c3 ms hb hcap hl' _h3).mono ?_
  rintro e w1 ⟨A1, c, rfl, O, B1⟩
  go_wp2
  go_ret
  exact ⟨A1, c, rfl, O, B1⟩


set_option maxHeartbeats 3200000 in
theorem sResiduesTimes_c (w : World) (A : Option Addr) (c1 : Nat) (xs : List Int) (ha : Rd w A xs) (_k1 : xs.length ≤ c1) (hl : xs.length ≤ 1048576) (_h1 : AllI64 xs) (C : Option Addr) (c2 : Nat) (ys : List Int) (hc : Rd w C ys) (_k2 : ys.length ≤ c2) (hl2 : ys.length ≤ 1048576) (_h2 : AllI64 ys) (B : Option Addr) (c3 : Nat) (ms : List Int) (hb : Rd w B ms) (hcap : ms.length ≤ c3) (hl' : ms.length ≤ 1048576) (_h3 : AllI64 ms) :
    Calls Try.prog 31 #[.slice A xs.length c1, .slice C ys.length c2, .slice B ms.length c3] w fun e w' => ∃ A c, e = .returned (.slice A (timesR xs ys ms).length c) ∧ Ow w' w.heap.size (.slice A (timesR xs ys ms).length c) (timesR xs ys ms) ∧ Below w.heap.size w w' := by
  have W1 := Lib.hid (l13Two_any A C B c1 c2 c3 xs ys ms w ha hc hb hcap (by omega) (by omega) (by omega))
  rcases Bool.eq_false_or_eq_true (residuesB xs ms) with h | h
  · rw [h] at W1
    rcases Bool.eq_false_or_eq_true (residuesB ys ms) with h2 | h2
    · rw [h2] at W1
      obtain ⟨q1, q2, q3⟩ := residuesB_parts h
      obtain ⟨q4, q5, q6⟩ := residuesB_parts h2
      have HX := Lib.hid (moduliB_parts q1).2.2.1
      have HL1 := Lib.hid q2
      have HL2 := Lib.hid q5
      have HI1 := Lib.hid q3
      have HI2 := Lib.hid q6
      have HA := Lib.hid ha
      have HB := Lib.hid hb
      have HC := Lib.hid hc
      have HR : Hid (timesR xs ys ms = twoUp (fun x y : Int => x * y) xs ys ms ms.length) := twoR_of h h2
      clear q3 q6 q2 q5 ha hb hc
      clear h h2
      go_enter Try.func31, Try.ntmps31
      go_wp2_with fail
      refine (W1.out).mono ?_
      rintro e w' ⟨rfl, rfl⟩
      go_wp2
      go_loopw [7, 18] (fun v i wr => ∃ k : Nat, k ≤ ms.length ∧ i = .int .i64 k ∧ Ap wr w.heap.size v (twoUp (fun x y : Int => x * y) xs ys ms k) ∧ Below w.heap.size w wr) (fun _ i _ => ms.length - (intOf i).toNat)
      case atStart => exact ⟨0, Nat.zero_le _, rfl, Ap.empty _ _ (Nat.le_refl _), (Below.refl _ _).alloc (Nat.le_refl _) _⟩
      case round =>
        obtain ⟨k, hk, rfl, hO, hB⟩ := hrel
        have hs := hB.size
        by_cases hlt : k < ms.length
        · obtain ⟨bd, m, rfl, hm, hcm⟩ := (HB.out.below hB).at_ hlt
          obtain ⟨ad, x, rfl, hx, hcx⟩ := (HA.out.below hB).at_ (k := k) (by have := HL1.out; omega)
          obtain ⟨cd, y, rfl, hy, hcy⟩ := (HC.out.below hB).at_ (k := k) (by have := HL2.out; omega)
          have bm := HX.out m (List.mem_of_getElem? hm.out)
          have bx := HI1.out k x m hx.out hm.out
          have by_ := HI2.out k y m hy.out hm.out
          have bq := small_mul (x := x) (y := y) (by omega) (by omega)
          have t0 := Int.emod_nonneg (x * y) (show m ≠ 0 by omega)
          have t1 := Int.emod_lt_of_pos (x * y) (show 0 < m by omega)
          have hz0 : m ≠ 0 := by omega
          have hz1 : (x * y).tmod m = (x * y) % m := Int.tmod_eq_emod_of_nonneg (by omega)
          have hw0 : IntKind.i64.wrap (x * y) = x * y := IntWalk.i64_in _ (by omega)
          have hL : (twoUp (fun x y : Int => x * y) xs ys ms k).length < 1099511627776 := by rw [twoUp_len]; omega
          have HS := Lib.hid (twoUp_succ (f := (fun x y : Int => x * y)) hx.out hy.out hm.out)
          have d0 : (0 : Int) ≤ k := by omega
          have d1 : (k : Int) < ms.length := by omega
          have d2 : (k : Int) < xs.length := by have := HL1.out; omega
          have d3 : (k : Int) < ys.length := by have := HL2.out; omega
          have LA := cell_lt (HA.out.at2 hx.out rfl)
          have LC := cell_lt (HC.out.at2 hy.out rfl)
          clear hx hy hm
          go_wp2_with fail
          go_region_held3 (fun w' => w'.cell? (ad.add k) = some (.int .i64 x) ∧ w'.cell? (cd.add k) = some (.int .i64 y)) (first
              | go_keep
              | (go_split_ands
                 refine ⟨?_, ?_⟩
                 · (rw [B'.cell LA]; assumption)
                 · (rw [B'.cell LC]; assumption)))
            (first | ((refine step_app1 hO ⟨rfl, rfl, rfl, rfl⟩ hL hs (by rfl) _ _ 24 (by rfl) (by rfl) (by rfl) (by rfl) ?_; intro A' c' w' O' B')) | fail)
          go_wp2
          go_roundw
          case rel => exact ⟨k + 1, by omega, by go_num, by rw [HS.out]; exact O', hB.trans B'⟩
          case measure => simp [intOf]; omega
        · have hkl : k = ms.length := by omega
          subst hkl
          obtain ⟨A', c', rfl⟩ := hO.form
          have hw := hO.ow
          rw [← HR.out] at hw ⊢
          go_wp2
          go_ret
          exact ⟨A', c', rfl, hw, hB⟩
    · rw [h2] at W1
      have HR : Hid (timesR xs ys ms = []) := twoR_no2 h2
      clear h h2
      go_enter Try.func31, Try.ntmps31
      go_wp2_with fail
      refine (W1.out).mono ?_
      rintro e w' ⟨rfl, rfl⟩
      go_wp2
      go_ret
      exact ⟨none, 0, by rw [HR.out]; rfl, by rw [HR.out]; exact Ow.nil_ _ _, Below.refl _ _⟩
  · rw [h] at W1
    have HR : Hid (timesR xs ys ms = []) := twoR_no1 h
    clear h
    go_enter Try.func31, Try.ntmps31
    go_wp2_with fail
    refine (W1.out).mono ?_
    rintro e w' ⟨rfl, rfl⟩
    go_wp2
    go_ret
    exact ⟨none, 0, by rw [HR.out]; rfl, by rw [HR.out]; exact Ow.nil_ _ _, Below.refl _ _⟩

set_option maxRecDepth 100000 in
set_option maxHeartbeats 1600000 in
theorem lResiduesAdd_law (w : World) (A0 : Option Addr) (c0 : Nat) (xs0 : List Int) (r0 : Rd w A0 xs0) (_m0 : xs0.length ≤ maxLen) (b0 : ∀ x ∈ xs0, -9223372036854775808 ≤ x ∧ x ≤ 9223372036854775807) (A1 : Option Addr) (c1 : Nat) (xs1 : List Int) (r1 : Rd w A1 xs1) (_m1 : xs1.length ≤ maxLen) (b1 : ∀ x ∈ xs1, -9223372036854775808 ≤ x ∧ x ≤ 9223372036854775807) (A2 : Option Addr) (c2 : Nat) (xs2 : List Int) (r2 : Rd w A2 xs2) (_m2 : xs2.length ≤ maxLen) (b2 : ∀ x ∈ xs2, -9223372036854775808 ≤ x ∧ x ≤ 9223372036854775807) :
    Calls Try.prog 8 #[.slice A0 xs0.length c0, .slice A1 xs1.length c1, .slice A2 xs2.length c2] w fun e w' => e = .returned (.bool true) ∧ Below w.heap.size w w' := by
  have RA0 := Lib.hid r0
  have BA0 : AllI64 xs0 := b0
  clear r0 b0
  have RA1 := Lib.hid r1
  have BA1 : AllI64 xs1 := b1
  clear r1 b1
  have RA2 := Lib.hid r2
  have BA2 : AllI64 xs2 := b2
  clear r2 b2
  by_cases h0 : xs0.length ≤ 1048576
  · skip
    by_cases h1 : xs1.length ≤ 1048576
    · skip
      by_cases h2 : xs2.length ≤ 1048576
      · skip
        go_enter Try.func8, Try.ntmps8
        go_wp2_with fail
        refine (toIntS_any _ _ _ _ (RA0.out.below (Below.refl w.heap.size w)) h0).mono ?_
        rintro e w1 ⟨A_S0, c_S0, rfl, S0_0, B1⟩
        have L_S0 := fun k hk => (S0_0.lt k hk).1
        have C2 := (Below.refl w.heap.size w).trans (B1.mono (Below.refl w.heap.size w).size)
        go_wp2_with fail
        refine (toIntS_any _ _ _ _ (RA1.out.below C2) h1).mono ?_
        rintro e w3 ⟨A_S1, c_S1, rfl, S1_0, B3⟩
        have U_S0_S1 := fun k hk => (S0_0.lt k hk).2
        have L_S1 := fun k hk => (S1_0.lt k hk).1
        have C4 := C2.trans (B3.mono C2.size)
        have S0_4 := S0_0.below' B3
        go_wp2_with fail
        refine (toIntS_any _ _ _ _ (RA2.out.below C4) h2).mono ?_
        rintro e w5 ⟨A_S2, c_S2, rfl, S2_0, B5⟩
        have U_S0_S2 := fun k hk => (S0_4.lt k hk).2
        have U_S1_S2 := fun k hk => (S1_0.lt k hk).2
        have L_S2 := fun k hk => (S2_0.lt k hk).1
        have C6 := C4.trans (B5.mono C4.size)
        have S0_6 := S0_4.below' B5
        have S1_6 := S1_0.below' B5
        go_wp2_with fail
        refine (sResiduesAdd_c _ _ _ _ S0_6.rd S0_6.cap.1 h0 BA0 _ _ _ S1_6.rd S1_6.cap.1 h1 BA1 _ _ _ S2_0.rd S2_0.cap.1 h2 BA2).mono ?_
        rintro e w7 ⟨A_W0, c_W0, rfl, W0_0, B7⟩
        have U_S0_W0 := fun k hk => (S0_6.lt k hk).2
        have U_S1_W0 := fun k hk => (S1_6.lt k hk).2
        have U_S2_W0 := fun k hk => (S2_0.lt k hk).2
        have L_W0 := fun k hk => (W0_0.lt k hk).1
        have C8 := C6.trans (B7.mono C6.size)
        have S0_8 := S0_6.below' B7
        have S1_8 := S1_6.below' B7
        have S2_8 := S2_0.below' B7
        go_wp2_with fail
        refine (toIntS_any _ _ _ _ (RA0.out.below C8) h0).mono ?_
        rintro e w9 ⟨A_X0, c_X0, rfl, X0_0, B9⟩
        have U_W0_X0 := fun k hk => (W0_0.lt k hk).2
        have L_X0 := fun k hk => (X0_0.lt k hk).1
        have C10 := C8.trans (B9.mono C8.size)
        have W0_10 := W0_0.below' B9
        go_wp2_with fail
        refine (toIntS_any _ _ _ _ (RA1.out.below C10) h1).mono ?_
        rintro e w11 ⟨A_X1, c_X1, rfl, X1_0, B11⟩
        have U_W0_X1 := fun k hk => (W0_10.lt k hk).2
        have U_X0_X1 := fun k hk => (X0_0.lt k hk).2
        have L_X1 := fun k hk => (X1_0.lt k hk).1
        have C12 := C10.trans (B11.mono C10.size)
        have W0_12 := W0_10.below' B11
        have X0_12 := X0_0.below' B11
        go_wp2_with fail
        refine (toIntS_any _ _ _ _ (RA2.out.below C12) h2).mono ?_
        rintro e w13 ⟨A_X2, c_X2, rfl, X2_0, B13⟩
        have U_W0_X2 := fun k hk => (W0_12.lt k hk).2
        have U_X0_X2 := fun k hk => (X0_12.lt k hk).2
        have U_X1_X2 := fun k hk => (X1_0.lt k hk).2
        have L_X2 := fun k hk => (X2_0.lt k hk).1
        have C14 := C12.trans (B13.mono C12.size)
        have W0_14 := W0_12.below' B13
        have X0_14 := X0_12.below' B13
        have X1_14 := X1_0.below' B13
        go_wp2_with fail
        refine (iResiduesAdd_c _ _ _ _ X0_14.rd X0_14.cap.1 h0 BA0 _ _ _ X1_14.rd X1_14.cap.1 h1 BA1 _ _ _ X2_0.rd X2_0.cap.1 h2 BA2).mono ?_
        rintro e w15 ⟨A_G0, c_G0, rfl, G0_0, B15⟩
        have U_W0_G0 := fun k hk => (W0_14.lt k hk).2
        have U_X0_G0 := fun k hk => (X0_14.lt k hk).2
        have U_X1_G0 := fun k hk => (X1_14.lt k hk).2
        have U_X2_G0 := fun k hk => (X2_0.lt k hk).2
        have L_G0 := fun k hk => (G0_0.lt k hk).1
        have C16 := C14.trans (B15.mono C14.size)
        have W0_16 := W0_14.below' B15
        have X0_16 := X0_14.below' B15
        have X1_16 := X1_14.below' B15
        have X2_16 := X2_0.below' B15
        go_wp2_with fail
        refine (eqIntS_same _ _ _ _ _ _ G0_0.rd W0_16.rd ((addR_len xs0 xs1 xs2))).mono ?_
        rintro e w17 ⟨rfl, n17_, rfl⟩
        have C18 := below_drewN C16 n17_
        have W0_18 := W0_16.drewN n17_
        have X0_18 := X0_16.drewN n17_
        have X1_18 := X1_16.drewN n17_
        have X2_18 := X2_16.drewN n17_
        have G0_18 := G0_0.drewN n17_
        go_wp2_with fail
        refine (toIntS_any _ _ _ _ (RA0.out.below C18) h0).mono ?_
        rintro e w19 ⟨A_T0, c_T0, rfl, T0_0, B19⟩
        have U_W0_T0 := fun k hk => (W0_18.lt k hk).2
        have U_X0_T0 := fun k hk => (X0_18.lt k hk).2
        have U_X1_T0 := fun k hk => (X1_18.lt k hk).2
        have U_X2_T0 := fun k hk => (X2_18.lt k hk).2
        have U_G0_T0 := fun k hk => (G0_18.lt k hk).2
        have L_T0 := fun k hk => (T0_0.lt k hk).1
        have C20 := C18.trans (B19.mono C18.size)
        have W0_20 := W0_18.below' B19
        have X0_20 := X0_18.below' B19
        have X1_20 := X1_18.below' B19
        have X2_20 := X2_18.below' B19
        have G0_20 := G0_18.below' B19
        go_wp2_with fail
        refine (eqIntS_same _ _ _ _ _ _ X0_20.rd T0_0.rd (by omega)).mono ?_
        rintro e w21 ⟨rfl, n21_, rfl⟩
        have C22 := below_drewN C20 n21_
        have W0_22 := W0_20.drewN n21_
        have X0_22 := X0_20.drewN n21_
        have X1_22 := X1_20.drewN n21_
        have X2_22 := X2_20.drewN n21_
        have G0_22 := G0_20.drewN n21_
        have T0_22 := T0_0.drewN n21_
        go_wp2_with fail
        refine (toIntS_any _ _ _ _ (RA1.out.below C22) h1).mono ?_
        rintro e w23 ⟨A_T1, c_T1, rfl, T1_0, B23⟩
        have U_W0_T1 := fun k hk => (W0_22.lt k hk).2
        have U_X0_T1 := fun k hk => (X0_22.lt k hk).2
        have U_X1_T1 := fun k hk => (X1_22.lt k hk).2
        have U_X2_T1 := fun k hk => (X2_22.lt k hk).2
        have U_G0_T1 := fun k hk => (G0_22.lt k hk).2
        have L_T1 := fun k hk => (T1_0.lt k hk).1
        have C24 := C22.trans (B23.mono C22.size)
        have W0_24 := W0_22.below' B23
        have X0_24 := X0_22.below' B23
        have X1_24 := X1_22.below' B23
        have X2_24 := X2_22.below' B23
        have G0_24 := G0_22.below' B23
        go_wp2_with fail
        refine (eqIntS_same _ _ _ _ _ _ X1_24.rd T1_0.rd (by omega)).mono ?_
        rintro e w25 ⟨rfl, n25_, rfl⟩
        have C26 := below_drewN C24 n25_
        have W0_26 := W0_24.drewN n25_
        have X0_26 := X0_24.drewN n25_
        have X1_26 := X1_24.drewN n25_
        have X2_26 := X2_24.drewN n25_
        have G0_26 := G0_24.drewN n25_
        have T1_26 := T1_0.drewN n25_
        go_wp2_with fail
        refine (toIntS_any _ _ _ _ (RA2.out.below C26) h2).mono ?_
        rintro e w27 ⟨A_T2, c_T2, rfl, T2_0, B27⟩
        have U_W0_T2 := fun k hk => (W0_26.lt k hk).2
        have U_X0_T2 := fun k hk => (X0_26.lt k hk).2
        have U_X1_T2 := fun k hk => (X1_26.lt k hk).2
        have U_X2_T2 := fun k hk => (X2_26.lt k hk).2
        have U_G0_T2 := fun k hk => (G0_26.lt k hk).2
        have L_T2 := fun k hk => (T2_0.lt k hk).1
        have C28 := C26.trans (B27.mono C26.size)
        have W0_28 := W0_26.below' B27
        have X0_28 := X0_26.below' B27
        have X1_28 := X1_26.below' B27
        have X2_28 := X2_26.below' B27
        have G0_28 := G0_26.below' B27
        go_wp2_with fail
        refine (eqIntS_same _ _ _ _ _ _ X2_28.rd T2_0.rd (by omega)).mono ?_
        rintro e w29 ⟨rfl, n29_, rfl⟩
        have C30 := below_drewN C28 n29_
        have W0_30 := W0_28.drewN n29_
        have X0_30 := X0_28.drewN n29_
        have X1_30 := X1_28.drewN n29_
        have X2_30 := X2_28.drewN n29_
        have G0_30 := G0_28.drewN n29_
        have T2_30 := T2_0.drewN n29_
        go_wp2_with fail
        refine (markIntS_any _ _ _ _ _ _ X0_30 (by omega) (by omega) (by omega)).mono ?_
        rintro e w31 ⟨rfl, X0_31, G31⟩
        have W0_31 := W0_30.kept G31 (own_ne U_W0_X0 L_X0)
        have X1_31 := X1_30.kept G31 (own_ne' U_X0_X1 L_X1)
        have X2_31 := X2_30.kept G31 (own_ne' U_X0_X2 L_X2)
        have G0_31 := G0_30.kept G31 (own_ne' U_X0_G0 L_G0)
        have C32 := C30.grown G31 C30.size (fun k hk => Nat.le_trans C8.size (L_X0 k hk))
        go_wp2_with fail
        refine (markIntS_any _ _ _ _ _ _ X1_31 (by omega) (by omega) (by omega)).mono ?_
        rintro e w33 ⟨rfl, X1_33, G33⟩
        have W0_33 := W0_31.kept G33 (own_ne U_W0_X1 L_X1)
        have X0_33 := X0_31.kept G33 (own_ne U_X0_X1 L_X1)
        have X2_33 := X2_31.kept G33 (own_ne' U_X1_X2 L_X2)
        have G0_33 := G0_31.kept G33 (own_ne' U_X1_G0 L_G0)
        have C34 := C32.grown G33 C32.size (fun k hk => Nat.le_trans C10.size (L_X1 k hk))
        go_wp2_with fail
        refine (markIntS_any _ _ _ _ _ _ X2_33 (by omega) (by omega) (by omega)).mono ?_
        rintro e w35 ⟨rfl, X2_35, G35⟩
        have W0_35 := W0_33.kept G35 (own_ne U_W0_X2 L_X2)
        have X0_35 := X0_33.kept G35 (own_ne U_X0_X2 L_X2)
        have X1_35 := X1_33.kept G35 (own_ne U_X1_X2 L_X2)
        have G0_35 := G0_33.kept G35 (own_ne' U_X2_G0 L_G0)
        have C36 := C34.grown G35 C34.size (fun k hk => Nat.le_trans C12.size (L_X2 k hk))
        go_wp2_with fail
        refine (eqIntS_same _ _ _ _ _ _ G0_35.rd W0_35.rd ((addR_len xs0 xs1 xs2))).mono ?_
        rintro e w37 ⟨rfl, n37_, rfl⟩
        have C38 := below_drewN C36 n37_
        have W0_38 := W0_35.drewN n37_
        have G0_38 := G0_35.drewN n37_
        go_wp2_with fail
        refine (markIntS_any _ _ _ _ _ _ G0_38 ((addR_len xs0 xs1 xs2)) (by omega) (by omega)).mono ?_
        rintro e w39 ⟨rfl, G0_39, G39⟩
        have W0_39 := W0_38.kept G39 (own_ne U_W0_G0 L_G0)
        have C40 := C38.grown G39 C38.size (fun k hk => Nat.le_trans C14.size (L_G0 k hk))
        go_wp2_with fail
        refine (heldIntS_any _ _ _ _ _ (by have h := G0_39.rd' (marks_length _ _); exact h) ((addR_len xs0 xs1 xs2)) (by omega) (by omega)).mono ?_
        rintro e w41 ⟨rfl, rfl⟩
        go_wp2_with fail
        refine (toIntS_any _ _ _ _ (RA0.out.below C40) h0).mono ?_
        rintro e w42 ⟨A_Y0, c_Y0, rfl, Y0_0, B42⟩
        have U_W0_Y0 := fun k hk => (W0_39.lt k hk).2
        have U_G0_Y0 := fun k hk => (G0_39.lt k hk).2
        have L_Y0 := fun k hk => (Y0_0.lt k hk).1
        have C43 := C40.trans (B42.mono C40.size)
        have W0_43 := W0_39.below' B42
        have G0_43 := G0_39.below' B42
        go_wp2_with fail
        refine (toIntS_any _ _ _ _ (RA1.out.below C43) h1).mono ?_
        rintro e w44 ⟨A_Y1, c_Y1, rfl, Y1_0, B44⟩
        have U_W0_Y1 := fun k hk => (W0_43.lt k hk).2
        have U_G0_Y1 := fun k hk => (G0_43.lt k hk).2
        have U_Y0_Y1 := fun k hk => (Y0_0.lt k hk).2
        have L_Y1 := fun k hk => (Y1_0.lt k hk).1
        have C45 := C43.trans (B44.mono C43.size)
        have W0_45 := W0_43.below' B44
        have G0_45 := G0_43.below' B44
        have Y0_45 := Y0_0.below' B44
        go_wp2_with fail
        refine (toIntS_any _ _ _ _ (RA2.out.below C45) h2).mono ?_
        rintro e w46 ⟨A_Y2, c_Y2, rfl, Y2_0, B46⟩
        have U_W0_Y2 := fun k hk => (W0_45.lt k hk).2
        have U_G0_Y2 := fun k hk => (G0_45.lt k hk).2
        have U_Y0_Y2 := fun k hk => (Y0_45.lt k hk).2
        have U_Y1_Y2 := fun k hk => (Y1_0.lt k hk).2
        have L_Y2 := fun k hk => (Y2_0.lt k hk).1
        have C47 := C45.trans (B46.mono C45.size)
        have W0_47 := W0_45.below' B46
        have G0_47 := G0_45.below' B46
        have Y0_47 := Y0_45.below' B46
        have Y1_47 := Y1_0.below' B46
        go_wp2_with fail
        refine (iResiduesAdd_c _ _ _ _ Y0_47.rd Y0_47.cap.1 h0 BA0 _ _ _ Y1_47.rd Y1_47.cap.1 h1 BA1 _ _ _ Y2_0.rd Y2_0.cap.1 h2 BA2).mono ?_
        rintro e w48 ⟨A_H0, c_H0, rfl, H0_0, B48⟩
        have U_W0_H0 := fun k hk => (W0_47.lt k hk).2
        have U_G0_H0 := fun k hk => (G0_47.lt k hk).2
        have U_Y0_H0 := fun k hk => (Y0_47.lt k hk).2
        have U_Y1_H0 := fun k hk => (Y1_47.lt k hk).2
        have U_Y2_H0 := fun k hk => (Y2_0.lt k hk).2
        have L_H0 := fun k hk => (H0_0.lt k hk).1
        have C49 := C47.trans (B48.mono C47.size)
        have W0_49 := W0_47.below' B48
        have G0_49 := G0_47.below' B48
        have Y0_49 := Y0_47.below' B48
        have Y1_49 := Y1_47.below' B48
        have Y2_49 := Y2_0.below' B48
        go_wp2_with fail
        refine (eqIntS_same _ _ _ _ _ _ H0_0.rd W0_49.rd ((addR_len xs0 xs1 xs2))).mono ?_
        rintro e w50 ⟨rfl, n50_, rfl⟩
        have C51 := below_drewN C49 n50_
        have W0_51 := W0_49.drewN n50_
        have G0_51 := G0_49.drewN n50_
        have H0_51 := H0_0.drewN n50_
        go_wp2_with fail
        refine (heldIntS_any _ _ _ _ _ (by have h := G0_51.rd' (marks_length _ _); exact h) ((addR_len xs0 xs1 xs2)) (by omega) (by omega)).mono ?_
        rintro e w52 ⟨rfl, rfl⟩
        go_wp2
        go_ret
        exact ⟨rfl, C51⟩
      · unfold maxLen at _m2
        go_enter Try.func8, Try.ntmps8
        go_wp2
        go_ret
        exact ⟨rfl, Below.refl _ _⟩
    · unfold maxLen at _m1
      go_enter Try.func8, Try.ntmps8
      go_wp2
      go_ret
      exact ⟨rfl, Below.refl _ _⟩
  · unfold maxLen at _m0
    go_enter Try.func8, Try.ntmps8
    go_wp2
    go_ret
    exact ⟨rfl, Below.refl _ _⟩

set_option maxRecDepth 100000 in
set_option maxHeartbeats 1600000 in
theorem lResiduesTimes_law (w : World) (A0 : Option Addr) (c0 : Nat) (xs0 : List Int) (r0 : Rd w A0 xs0) (_m0 : xs0.length ≤ maxLen) (b0 : ∀ x ∈ xs0, -9223372036854775808 ≤ x ∧ x ≤ 9223372036854775807) (A1 : Option Addr) (c1 : Nat) (xs1 : List Int) (r1 : Rd w A1 xs1) (_m1 : xs1.length ≤ maxLen) (b1 : ∀ x ∈ xs1, -9223372036854775808 ≤ x ∧ x ≤ 9223372036854775807) (A2 : Option Addr) (c2 : Nat) (xs2 : List Int) (r2 : Rd w A2 xs2) (_m2 : xs2.length ≤ maxLen) (b2 : ∀ x ∈ xs2, -9223372036854775808 ≤ x ∧ x ≤ 9223372036854775807) :
    Calls Try.prog 9 #[.slice A0 xs0.length c0, .slice A1 xs1.length c1, .slice A2 xs2.length c2] w fun e w' => e = .returned (.bool true) ∧ Below w.heap.size w w' := by
  have RA0 := Lib.hid r0
  have BA0 : AllI64 xs0 := b0
  clear r0 b0
  have RA1 := Lib.hid r1
  have BA1 : AllI64 xs1 := b1
  clear r1 b1
  have RA2 := Lib.hid r2
  have BA2 : AllI64 xs2 := b2
  clear r2 b2
  by_cases h0 : xs0.length ≤ 1048576
  · skip
    by_cases h1 : xs1.length ≤ 1048576
    · skip
      by_cases h2 : xs2.length ≤ 1048576
      · skip
        go_enter Try.func9, Try.ntmps9
        go_wp2_with fail
        refine (toIntS_any _ _ _ _ (RA0.out.below (Below.refl w.heap.size w)) h0).mono ?_
        rintro e w1 ⟨A_S0, c_S0, rfl, S0_0, B1⟩
        have L_S0 := fun k hk => (S0_0.lt k hk).1
        have C2 := (Below.refl w.heap.size w).trans (B1.mono (Below.refl w.heap.size w).size)
        go_wp2_with fail
        refine (toIntS_any _ _ _ _ (RA1.out.below C2) h1).mono ?_
        rintro e w3 ⟨A_S1, c_S1, rfl, S1_0, B3⟩
        have U_S0_S1 := fun k hk => (S0_0.lt k hk).2
        have L_S1 := fun k hk => (S1_0.lt k hk).1
        have C4 := C2.trans (B3.mono C2.size)
        have S0_4 := S0_0.below' B3
        go_wp2_with fail
        refine (toIntS_any _ _ _ _ (RA2.out.below C4) h2).mono ?_
        rintro e w5 ⟨A_S2, c_S2, rfl, S2_0, B5⟩
        have U_S0_S2 := fun k hk => (S0_4.lt k hk).2
        have U_S1_S2 := fun k hk => (S1_0.lt k hk).2
        have L_S2 := fun k hk => (S2_0.lt k hk).1
        have C6 := C4.trans (B5.mono C4.size)
        have S0_6 := S0_4.below' B5
        have S1_6 := S1_0.below' B5
        go_wp2_with fail
        refine (sResiduesTimes_c _ _ _ _ S0_6.rd S0_6.cap.1 h0 BA0 _ _ _ S1_6.rd S1_6.cap.1 h1 BA1 _ _ _ S2_0.rd S2_0.cap.1 h2 BA2).mono ?_
        rintro e w7 ⟨A_W0, c_W0, rfl, W0_0, B7⟩
        have U_S0_W0 := fun k hk => (S0_6.lt k hk).2
        have U_S1_W0 := fun k hk => (S1_6.lt k hk).2
        have U_S2_W0 := fun k hk => (S2_0.lt k hk).2
        have L_W0 := fun k hk => (W0_0.lt k hk).1
        have C8 := C6.trans (B7.mono C6.size)
        have S0_8 := S0_6.below' B7
        have S1_8 := S1_6.below' B7
        have S2_8 := S2_0.below' B7
        go_wp2_with fail
        refine (toIntS_any _ _ _ _ (RA0.out.below C8) h0).mono ?_
        rintro e w9 ⟨A_X0, c_X0, rfl, X0_0, B9⟩
        have U_W0_X0 := fun k hk => (W0_0.lt k hk).2
        have L_X0 := fun k hk => (X0_0.lt k hk).1
        have C10 := C8.trans (B9.mono C8.size)
        have W0_10 := W0_0.below' B9
        go_wp2_with fail
        refine (toIntS_any _ _ _ _ (RA1.out.below C10) h1).mono ?_
        rintro e w11 ⟨A_X1, c_X1, rfl, X1_0, B11⟩
        have U_W0_X1 := fun k hk => (W0_10.lt k hk).2
        have U_X0_X1 := fun k hk => (X0_0.lt k hk).2
        have L_X1 := fun k hk => (X1_0.lt k hk).1
        have C12 := C10.trans (B11.mono C10.size)
        have W0_12 := W0_10.below' B11
        have X0_12 := X0_0.below' B11
        go_wp2_with fail
        refine (toIntS_any _ _ _ _ (RA2.out.below C12) h2).mono ?_
        rintro e w13 ⟨A_X2, c_X2, rfl, X2_0, B13⟩
        have U_W0_X2 := fun k hk => (W0_12.lt k hk).2
        have U_X0_X2 := fun k hk => (X0_12.lt k hk).2
        have U_X1_X2 := fun k hk => (X1_0.lt k hk).2
        have L_X2 := fun k hk => (X2_0.lt k hk).1
        have C14 := C12.trans (B13.mono C12.size)
        have W0_14 := W0_12.below' B13
        have X0_14 := X0_12.below' B13
        have X1_14 := X1_0.below' B13
        go_wp2_with fail
        refine (iResiduesTimes_c _ _ _ _ X0_14.rd X0_14.cap.1 h0 BA0 _ _ _ X1_14.rd X1_14.cap.1 h1 BA1 _ _ _ X2_0.rd X2_0.cap.1 h2 BA2).mono ?_
        rintro e w15 ⟨A_G0, c_G0, rfl, G0_0, B15⟩
        have U_W0_G0 := fun k hk => (W0_14.lt k hk).2
        have U_X0_G0 := fun k hk => (X0_14.lt k hk).2
        have U_X1_G0 := fun k hk => (X1_14.lt k hk).2
        have U_X2_G0 := fun k hk => (X2_0.lt k hk).2
        have L_G0 := fun k hk => (G0_0.lt k hk).1
        have C16 := C14.trans (B15.mono C14.size)
        have W0_16 := W0_14.below' B15
        have X0_16 := X0_14.below' B15
        have X1_16 := X1_14.below' B15
        have X2_16 := X2_0.below' B15
        go_wp2_with fail
        refine (eqIntS_same _ _ _ _ _ _ G0_0.rd W0_16.rd ((timesR_len xs0 xs1 xs2))).mono ?_
        rintro e w17 ⟨rfl, n17_, rfl⟩
        have C18 := below_drewN C16 n17_
        have W0_18 := W0_16.drewN n17_
        have X0_18 := X0_16.drewN n17_
        have X1_18 := X1_16.drewN n17_
        have X2_18 := X2_16.drewN n17_
        have G0_18 := G0_0.drewN n17_
        go_wp2_with fail
        refine (toIntS_any _ _ _ _ (RA0.out.below C18) h0).mono ?_
        rintro e w19 ⟨A_T0, c_T0, rfl, T0_0, B19⟩
        have U_W0_T0 := fun k hk => (W0_18.lt k hk).2
        have U_X0_T0 := fun k hk => (X0_18.lt k hk).2
        have U_X1_T0 := fun k hk => (X1_18.lt k hk).2
        have U_X2_T0 := fun k hk => (X2_18.lt k hk).2
        have U_G0_T0 := fun k hk => (G0_18.lt k hk).2
        have L_T0 := fun k hk => (T0_0.lt k hk).1
        have C20 := C18.trans (B19.mono C18.size)
        have W0_20 := W0_18.below' B19
        have X0_20 := X0_18.below' B19
        have X1_20 := X1_18.below' B19
        have X2_20 := X2_18.below' B19
        have G0_20 := G0_18.below' B19
        go_wp2_with fail
        refine (eqIntS_same _ _ _ _ _ _ X0_20.rd T0_0.rd (by omega)).mono ?_
        rintro e w21 ⟨rfl, n21_, rfl⟩
        have C22 := below_drewN C20 n21_
        have W0_22 := W0_20.drewN n21_
        have X0_22 := X0_20.drewN n21_
        have X1_22 := X1_20.drewN n21_
        have X2_22 := X2_20.drewN n21_
        have G0_22 := G0_20.drewN n21_
        have T0_22 := T0_0.drewN n21_
        go_wp2_with fail
        refine (toIntS_any _ _ _ _ (RA1.out.below C22) h1).mono ?_
        rintro e w23 ⟨A_T1, c_T1, rfl, T1_0, B23⟩
        have U_W0_T1 := fun k hk => (W0_22.lt k hk).2
        have U_X0_T1 := fun k hk => (X0_22.lt k hk).2
        have U_X1_T1 := fun k hk => (X1_22.lt k hk).2
        have U_X2_T1 := fun k hk => (X2_22.lt k hk).2
        have U_G0_T1 := fun k hk => (G0_22.lt k hk).2
        have L_T1 := fun k hk => (T1_0.lt k hk).1
        have C24 := C22.trans (B23.mono C22.size)
        have W0_24 := W0_22.below' B23
        have X0_24 := X0_22.below' B23
        have X1_24 := X1_22.below' B23
        have X2_24 := X2_22.below' B23
        have G0_24 := G0_22.below' B23
        go_wp2_with fail
        refine (eqIntS_same _ _ _ _ _ _ X1_24.rd T1_0.rd (by omega)).mono ?_
        rintro e w25 ⟨rfl, n25_, rfl⟩
        have C26 := below_drewN C24 n25_
        have W0_26 := W0_24.drewN n25_
        have X0_26 := X0_24.drewN n25_
        have X1_26 := X1_24.drewN n25_
        have X2_26 := X2_24.drewN n25_
        have G0_26 := G0_24.drewN n25_
        have T1_26 := T1_0.drewN n25_
        go_wp2_with fail
        refine (toIntS_any _ _ _ _ (RA2.out.below C26) h2).mono ?_
        rintro e w27 ⟨A_T2, c_T2, rfl, T2_0, B27⟩
        have U_W0_T2 := fun k hk => (W0_26.lt k hk).2
        have U_X0_T2 := fun k hk => (X0_26.lt k hk).2
        have U_X1_T2 := fun k hk => (X1_26.lt k hk).2
        have U_X2_T2 := fun k hk => (X2_26.lt k hk).2
        have U_G0_T2 := fun k hk => (G0_26.lt k hk).2
        have L_T2 := fun k hk => (T2_0.lt k hk).1
        have C28 := C26.trans (B27.mono C26.size)
        have W0_28 := W0_26.below' B27
        have X0_28 := X0_26.below' B27
        have X1_28 := X1_26.below' B27
        have X2_28 := X2_26.below' B27
        have G0_28 := G0_26.below' B27
        go_wp2_with fail
        refine (eqIntS_same _ _ _ _ _ _ X2_28.rd T2_0.rd (by omega)).mono ?_
        rintro e w29 ⟨rfl, n29_, rfl⟩
        have C30 := below_drewN C28 n29_
        have W0_30 := W0_28.drewN n29_
        have X0_30 := X0_28.drewN n29_
        have X1_30 := X1_28.drewN n29_
        have X2_30 := X2_28.drewN n29_
        have G0_30 := G0_28.drewN n29_
        have T2_30 := T2_0.drewN n29_
        go_wp2_with fail
        refine (markIntS_any _ _ _ _ _ _ X0_30 (by omega) (by omega) (by omega)).mono ?_
        rintro e w31 ⟨rfl, X0_31, G31⟩
        have W0_31 := W0_30.kept G31 (own_ne U_W0_X0 L_X0)
        have X1_31 := X1_30.kept G31 (own_ne' U_X0_X1 L_X1)
        have X2_31 := X2_30.kept G31 (own_ne' U_X0_X2 L_X2)
        have G0_31 := G0_30.kept G31 (own_ne' U_X0_G0 L_G0)
        have C32 := C30.grown G31 C30.size (fun k hk => Nat.le_trans C8.size (L_X0 k hk))
        go_wp2_with fail
        refine (markIntS_any _ _ _ _ _ _ X1_31 (by omega) (by omega) (by omega)).mono ?_
        rintro e w33 ⟨rfl, X1_33, G33⟩
        have W0_33 := W0_31.kept G33 (own_ne U_W0_X1 L_X1)
        have X0_33 := X0_31.kept G33 (own_ne U_X0_X1 L_X1)
        have X2_33 := X2_31.kept G33 (own_ne' U_X1_X2 L_X2)
        have G0_33 := G0_31.kept G33 (own_ne' U_X1_G0 L_G0)
        have C34 := C32.grown G33 C32.size (fun k hk => Nat.le_trans C10.size (L_X1 k hk))
        go_wp2_with fail
        refine (markIntS_any _ _ _ _ _ _ X2_33 (by omega) (by omega) (by omega)).mono ?_
        rintro e w35 ⟨rfl, X2_35, G35⟩
        have W0_35 := W0_33.kept G35 (own_ne U_W0_X2 L_X2)
        have X0_35 := X0_33.kept G35 (own_ne U_X0_X2 L_X2)
        have X1_35 := X1_33.kept G35 (own_ne U_X1_X2 L_X2)
        have G0_35 := G0_33.kept G35 (own_ne' U_X2_G0 L_G0)
        have C36 := C34.grown G35 C34.size (fun k hk => Nat.le_trans C12.size (L_X2 k hk))
        go_wp2_with fail
        refine (eqIntS_same _ _ _ _ _ _ G0_35.rd W0_35.rd ((timesR_len xs0 xs1 xs2))).mono ?_
        rintro e w37 ⟨rfl, n37_, rfl⟩
        have C38 := below_drewN C36 n37_
        have W0_38 := W0_35.drewN n37_
        have G0_38 := G0_35.drewN n37_
        go_wp2_with fail
        refine (markIntS_any _ _ _ _ _ _ G0_38 ((timesR_len xs0 xs1 xs2)) (by omega) (by omega)).mono ?_
        rintro e w39 ⟨rfl, G0_39, G39⟩
        have W0_39 := W0_38.kept G39 (own_ne U_W0_G0 L_G0)
        have C40 := C38.grown G39 C38.size (fun k hk => Nat.le_trans C14.size (L_G0 k hk))
        go_wp2_with fail
        refine (heldIntS_any _ _ _ _ _ (by have h := G0_39.rd' (marks_length _ _); exact h) ((timesR_len xs0 xs1 xs2)) (by omega) (by omega)).mono ?_
        rintro e w41 ⟨rfl, rfl⟩
        go_wp2_with fail
        refine (toIntS_any _ _ _ _ (RA0.out.below C40) h0).mono ?_
        rintro e w42 ⟨A_Y0, c_Y0, rfl, Y0_0, B42⟩
        have U_W0_Y0 := fun k hk => (W0_39.lt k hk).2
        have U_G0_Y0 := fun k hk => (G0_39.lt k hk).2
        have L_Y0 := fun k hk => (Y0_0.lt k hk).1
        have C43 := C40.trans (B42.mono C40.size)
        have W0_43 := W0_39.below' B42
        have G0_43 := G0_39.below' B42
        go_wp2_with fail
        refine (toIntS_any _ _ _ _ (RA1.out.below C43) h1).mono ?_
        rintro e w44 ⟨A_Y1, c_Y1, rfl, Y1_0, B44⟩
        have U_W0_Y1 := fun k hk => (W0_43.lt k hk).2
        have U_G0_Y1 := fun k hk => (G0_43.lt k hk).2
        have U_Y0_Y1 := fun k hk => (Y0_0.lt k hk).2
        have L_Y1 := fun k hk => (Y1_0.lt k hk).1
        have C45 := C43.trans (B44.mono C43.size)
        have W0_45 := W0_43.below' B44
        have G0_45 := G0_43.below' B44
        have Y0_45 := Y0_0.below' B44
        go_wp2_with fail
        refine (toIntS_any _ _ _ _ (RA2.out.below C45) h2).mono ?_
        rintro e w46 ⟨A_Y2, c_Y2, rfl, Y2_0, B46⟩
        have U_W0_Y2 := fun k hk => (W0_45.lt k hk).2
        have U_G0_Y2 := fun k hk => (G0_45.lt k hk).2
        have U_Y0_Y2 := fun k hk => (Y0_45.lt k hk).2
        have U_Y1_Y2 := fun k hk => (Y1_0.lt k hk).2
        have L_Y2 := fun k hk => (Y2_0.lt k hk).1
        have C47 := C45.trans (B46.mono C45.size)
        have W0_47 := W0_45.below' B46
        have G0_47 := G0_45.below' B46
        have Y0_47 := Y0_45.below' B46
        have Y1_47 := Y1_0.below' B46
        go_wp2_with fail
        refine (iResiduesTimes_c _ _ _ _ Y0_47.rd Y0_47.cap.1 h0 BA0 _ _ _ Y1_47.rd Y1_47.cap.1 h1 BA1 _ _ _ Y2_0.rd Y2_0.cap.1 h2 BA2).mono ?_
        rintro e w48 ⟨A_H0, c_H0, rfl, H0_0, B48⟩
        have U_W0_H0 := fun k hk => (W0_47.lt k hk).2
        have U_G0_H0 := fun k hk => (G0_47.lt k hk).2
        have U_Y0_H0 := fun k hk => (Y0_47.lt k hk).2
        have U_Y1_H0 := fun k hk => (Y1_47.lt k hk).2
        have U_Y2_H0 := fun k hk => (Y2_0.lt k hk).2
        have L_H0 := fun k hk => (H0_0.lt k hk).1
        have C49 := C47.trans (B48.mono C47.size)
        have W0_49 := W0_47.below' B48
        have G0_49 := G0_47.below' B48
        have Y0_49 := Y0_47.below' B48
        have Y1_49 := Y1_47.below' B48
        have Y2_49 := Y2_0.below' B48
        go_wp2_with fail
        refine (eqIntS_same _ _ _ _ _ _ H0_0.rd W0_49.rd ((timesR_len xs0 xs1 xs2))).mono ?_
        rintro e w50 ⟨rfl, n50_, rfl⟩
        have C51 := below_drewN C49 n50_
        have W0_51 := W0_49.drewN n50_
        have G0_51 := G0_49.drewN n50_
        have H0_51 := H0_0.drewN n50_
        go_wp2_with fail
        refine (heldIntS_any _ _ _ _ _ (by have h := G0_51.rd' (marks_length _ _); exact h) ((timesR_len xs0 xs1 xs2)) (by omega) (by omega)).mono ?_
        rintro e w52 ⟨rfl, rfl⟩
        go_wp2
        go_ret
        exact ⟨rfl, C51⟩
      · unfold maxLen at _m2
        go_enter Try.func9, Try.ntmps9
        go_wp2
        go_ret
        exact ⟨rfl, Below.refl _ _⟩
    · unfold maxLen at _m1
      go_enter Try.func9, Try.ntmps9
      go_wp2
      go_ret
      exact ⟨rfl, Below.refl _ _⟩
  · unfold maxLen at _m0
    go_enter Try.func9, Try.ntmps9
    go_wp2
    go_ret
    exact ⟨rfl, Below.refl _ _⟩

end Go.Proofs.Ytfdighaginmabaa
