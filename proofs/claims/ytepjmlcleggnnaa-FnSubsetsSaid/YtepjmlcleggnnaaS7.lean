/-
  WALKS toward FnSubsets: the sum of binary digits; the drawn subsets.
-/
import Derived.Test.YtepjmlcleggnnaaS6
import Derived.Test.YtepjmlcleggnnaaCur
import Derived.Test.YtepjmlcleggnnaaSame
namespace Go.Proofs.Ytepjmlcleggnnaa
open Go.RowKit

theorem ones_succ (f n : Nat) : ones (f + 1) n = n % 2 + ones f (n / 2) := by rw [ones]
theorem ones_nil (f : Nat) : ones f 0 = 0 := by
  induction f with
  | zero => unfold ones; rfl
  | succ f ih => rw [ones_succ, show 0 / 2 = 0 by rfl, ih]
theorem ones_le (f n : Nat) : ones f n ≤ f := by
  induction f generalizing n with
  | zero => unfold ones; exact Nat.le_refl _
  | succ f ih => rw [ones_succ]; have := ih (n / 2); omega
def sumN : List Int → Int
  | [] => 0
  | x :: xs => x + sumN xs
theorem sumN_snoc (xs : List Int) (y : Int) : sumN (xs ++ [y]) = sumN xs + y := by
  induction xs with
  | nil => simp [sumN]
  | cons x xs ih => simp only [List.cons_append, sumN, ih]; omega
theorem sumN_step {xs : List Int} {k : Nat} {x : Int} (hx : xs[k]? = some x) : sumN (xs.take (k + 1)) = sumN (xs.take k) + x := by
  rw [List.take_add_one, hx]
  exact sumN_snoc _ _
theorem sumN_bound {xs : List Int} (h : ∀ x ∈ xs, (0 : Int) ≤ x ∧ x ≤ 1000000) : 0 ≤ sumN xs ∧ sumN xs ≤ xs.length * 1000000 := by
  induction xs with
  | nil => simp [sumN]
  | cons x xs ih =>
    have a := ih fun y hy => h y (by simp [hy])
    have b := h x (by simp)
    simp only [sumN, List.length_cons]
    omega

set_option maxHeartbeats 800000 in
theorem sumOf_any (A : Option Addr) (c : Nat) (xs : List Int) (w : World) (hr : Rd w A xs) (hl : xs.length ≤ 1000) (hb : ∀ x ∈ xs, (0 : Int) ≤ x ∧ x ≤ 1000000) :
    Calls Try.prog 60 #[.slice A xs.length c] w fun e w' => e = .returned (.int .i64 (sumN xs)) ∧ w = w' := by
  have HR := Lib.hid hr
  have HX := Lib.hid hb
  have HB : Hid (∀ k, 0 ≤ sumN (xs.take k) ∧ sumN (xs.take k) ≤ 1000 * 1000000) := fun k => by
    have h1 := sumN_bound (xs := xs.take k) fun x hx => hb x (List.mem_of_mem_take hx)
    have h2 : (xs.take k).length ≤ xs.length := by rw [List.length_take]; omega
    omega
  clear hr hb
  go_enter Try.func60, Try.ntmps60
  go_wp2
  go_loop [3, 8] (fun v i => ∃ k : Nat, k ≤ xs.length ∧ i = .int .i64 k ∧ v = .int .i64 (sumN (xs.take k))) (fun _ i => xs.length - (intOf i).toNat)
  case atStart => exact ⟨0, Nat.zero_le _, rfl, rfl⟩
  case round =>
    obtain ⟨k, hk, rfl, rfl⟩ := hrel
    by_cases hlt : k < xs.length
    · obtain ⟨ad, x, rfl, hx, hc⟩ := HR.out.at_ hlt
      have b1 := HB.out k
      have b2 := HX.out x (List.mem_of_getElem? hx.out)
      have HS := Lib.hid (sumN_step hx.out)
      obtain ⟨s, hs⟩ : ∃ s, sumN (xs.take k) = s := ⟨_, rfl⟩
      rw [hs] at b1 HS
      rw [hs]
      clear hs hx
      go_wp2
      go_round
      case rel => exact ⟨k + 1, by omega, by go_num, by rw [HS.out]⟩
      case measure => simp [intOf]; omega
    · have hkl : k = xs.length := by omega
      subst hkl
      have HE : Hid (sumN (xs.take xs.length) = sumN xs) := by unfold Hid; rw [List.take_length]
      obtain ⟨s, hs⟩ : ∃ s, sumN (xs.take xs.length) = s := ⟨_, rfl⟩
      rw [hs] at HE
      rw [hs]
      clear hs
      go_wp2
      go_ret
      exact ⟨ret_int HE.out, rfl⟩

/-- What the loop of digitsOf keeps: j binary digits are taken, n is left. -/
structure DigSt (M j n : Nat) (l : List Int) : Prop where
  le : j ≤ 20
  lt : n < 2 ^ (20 - j)
  len : l.length = j
  dig : ∀ x ∈ l, (0 : Int) ≤ x ∧ x ≤ 1
  sum : sumN l + (ones (20 - j) n : Nat) = (ones 20 M : Nat)
theorem DigSt.step {M j n : Nat} {l : List Int} (h : DigSt M j n l) (hn : 0 < n) : DigSt M (j + 1) (n / 2) (l ++ [(n : Int) % 2]) := by
  have e : (n : Int) % 2 = ((n % 2 : Nat) : Int) := by omega
  rw [e]
  obtain ⟨h1, h2, h3, h4, h5⟩ := h
  have hj : j < 20 := by
    rcases Nat.lt_or_ge j 20 with h | h
    · exact h
    · rw [show 20 - j = 0 by omega] at h2; omega
  obtain ⟨f, hf⟩ : ∃ f, 20 - j = f + 1 := ⟨19 - j, by omega⟩
  rw [hf] at h2 h5
  have hf2 : 20 - (j + 1) = f := by omega
  rw [Nat.pow_succ] at h2
  rw [ones_succ] at h5
  refine ⟨hj, by rw [hf2]; omega, by simp [h3], fun x hx => ?_, ?_⟩
  · rcases List.mem_append.1 hx with hx | hx
    · exact h4 x hx
    · rw [List.mem_singleton.1 hx]; omega
  · rw [sumN_snoc, hf2]; omega

set_option maxHeartbeats 1600000 in
theorem digitsOf_two (M : Nat) (hM : M < 1048576) (w : World) :
    Calls Try.prog 61 #[.int .i64 (M : Int), .int .i64 2] w fun e w' => ∃ A c l, e = .returned (.slice A l.length c) ∧ sumN l = (ones 20 M : Nat) ∧ l.length ≤ 20 ∧ (∀ x ∈ l, (0 : Int) ≤ x ∧ x ≤ 1) ∧ Ow w' w.heap.size (.slice A l.length c) l ∧ Below w.heap.size w w' := by
  have D0 : Hid (DigSt M 0 M []) := ⟨by omega, hM, rfl, (fun x hx => by cases hx), by simp [sumN]⟩
  go_enter Try.func61, Try.ntmps61
  go_wp2
  go_loopw [0, 5] (fun m v wr => ∃ (j n : Nat) (l : List Int), m = .int .i64 n ∧ Hid (DigSt M j n l) ∧ Ap wr w.heap.size v l ∧ Below w.heap.size w wr) (fun m _ _ => (intOf m).toNat)
  case atStart => exact ⟨0, M, [], rfl, D0.out, Ap.nil_ _ _, Below.refl _ _⟩
  case round =>
    obtain ⟨j, n, l, rfl, hD, hO, hB⟩ := hrel
    have hs := hB.size
    have hnb : n < 1048576 := by
      have h1 := hD.out.lt
      have h2 : 2 ^ (20 - j) ≤ 2 ^ 20 := Nat.pow_le_pow_right (by omega) (by omega)
      have h3 : (2 : Nat) ^ 20 = 1048576 := by decide
      omega
    by_cases h0 : 0 < n
    · have c0 : (0 : Int) < n := by omega
      have hL : l.length < 1099511627776 := by have := hD.out.len; have := hD.out.le; omega
      have HS := Lib.hid (hD.out.step h0)
      go_wp2_with (at_builtin; refine wpList_app1 hO hL hs rfl _ _ 24 rfl rfl rfl rfl ?_; intro v' w' O' B')
      go_roundw
      case rel => exact ⟨j + 1, n / 2, _, by first | rfl | (congr 1; omega), HS.out, O', hB.trans B'⟩
      case measure => simp [intOf]; omega
    · have hn0 : n = 0 := by omega
      subst hn0
      obtain ⟨A', c', rfl⟩ := hO.form
      have HW := Lib.hid hO.ow
      have HSum : Hid (sumN l = (ones 20 M : Nat)) := by
        have := hD.out.sum
        rw [ones_nil] at this
        unfold Hid
        omega
      clear hO
      go_wp2
      go_ret
      exact ⟨A', c', l, rfl, HSum.out, (by have := hD.out.len; have := hD.out.le; omega), hD.out.dig, HW.out, hB⟩
theorem isNumber_any (n : Int) (w : World) :
    Calls Try.prog 59 #[.int .i64 n] w fun e w' => e = .returned (.bool (inB n 0 1000000000000)) ∧ w = w' := by
  go_enter Try.func59, Try.ntmps59
  go_wp2_with fail
  refine (within_any _ _ _ _).mono ?_
  rintro e w' ⟨rfl, rfl⟩
  go_wp2
  go_ret
  exact ⟨rfl, rfl⟩
theorem digitSum_two (M : Nat) (hM : M < 1048576) (w : World) :
    Calls Try.prog 41 #[.int .i64 (M : Int), .int .i64 2] w fun e w' => e = .returned (.int .i64 (ones 20 M : Nat)) ∧ Below w.heap.size w w' := by
  have h1 : inB (M : Int) 0 1000000000000 = true := inB_of ⟨by omega, by omega⟩
  have h2 : inB 2 2 16 = true := by decide
  go_enter Try.func41, Try.ntmps41
  go_wp2_with fail
  refine (isNumber_any _ _).mono ?_
  rintro e w' ⟨rfl, rfl⟩
  go_wp2_with fail
  refine (iBaseOk_any _ _).mono ?_
  rintro e w' ⟨rfl, rfl⟩
  go_wp2_with fail
  refine (digitsOf_two M hM _).mono ?_
  rintro e w1 ⟨A, c, l, rfl, hs, hl, hd, O, B⟩
  have HD : Hid (∀ x ∈ l, (0 : Int) ≤ x ∧ x ≤ 1000000) := fun x hx => by have := hd x hx; omega
  have HS := Lib.hid hs
  clear hs hd
  go_wp2_with fail
  refine (sumOf_any _ _ l _ O.rd (by omega) HD.out).mono ?_
  rintro e w' ⟨rfl, rfl⟩
  go_wp2
  go_ret
  exact ⟨ret_int HS.out, B⟩

theorem sub_snoc {l : List Int} {x : Int} (h : subSoFar l 20 l.length) (hl : ∀ v ∈ l, v < x) (x0 : 0 ≤ x) (x1 : x ≤ 19) : subSoFar (l ++ [x]) 20 (l ++ [x]).length := by
  intro i hi
  rw [List.length_append, List.length_singleton] at hi
  by_cases e : i = l.length
  · subst e
    have hx : (l ++ [x])[l.length]? = some x := by rw [List.getElem?_append_right (Nat.le_refl _), Nat.sub_self]; rfl
    rcases Nat.eq_zero_or_pos l.length with h0 | h0
    · rw [h0] at hx ⊢
      rw [subAt_zero hx]; exact inB_of ⟨x0, by omega⟩
    · have hy : (l ++ [x])[l.length - 1]? = some (l[l.length - 1]'(by omega)) := by
        rw [List.getElem?_append_left (by omega)]; exact List.getElem?_eq_getElem (by omega)
      rw [subAt_pos h0 hx hy, inB_of ⟨x0, by omega⟩, Bool.true_and]
      exact decide_eq_true (hl _ (List.getElem_mem _))
  · have hi2 : i < l.length := by omega
    have := h i hi2
    unfold subAt at this ⊢
    have g1 : (l ++ [x]).getD i 0 = l.getD i 0 := by unfold List.getD; rw [List.getElem?_append_left hi2]
    have g2 : (l ++ [x]).getD (i - 1) 0 = l.getD (i - 1) 0 := by unfold List.getD; rw [List.getElem?_append_left (by omega)]
    rw [g1, g2]
    exact this
theorem Ap.kept1 {w w' : World} {base g : Nat} {v : Value} {xs : List Int} (h : Ap w base v xs) (hG : w.grownBy w' (some g)) (hg : g < base) : Ap w' base v xs := by
  refine h.kept hG ?_
  rcases hv : v.ownBlock with _ | k
  · exact .inl rfl
  · right
    have := (h.lt k hv).1
    intro e
    have := Option.some.inj e
    omega
/-- What the loop of l09Draw keeps. -/
structure DrawSt (k : Nat) (x : Int) (l : List Int) : Prop where
  len : l.length = k
  inc : subSoFar l 20 l.length
  low : ∀ v ∈ l, v < x
  pos : 0 ≤ x
  top : x ≤ 3 + 3 * k

set_option maxHeartbeats 3200000 in
theorem l09Draw_c {base g c : Nat} {A : Option Addr} {xs : List Int} {w : World} (h : CurIn w base g A c xs) (hs : base ≤ w.heap.size) (hA : 0 < xs.length → ∀ ad, A = some ad → ad.block < base) (hb : ∀ x ∈ xs, 0 ≤ x ∧ x ≤ 255) (hl : xs.length ≤ 1099511627776) :
    Calls Try.prog 56 #[.pointer (some ⟨g, 0, none⟩)] w fun e w' => ∃ A' c' ds, e = .returned (.slice A' ds.length c') ∧ subB ds 20 = true ∧ ds.length ≤ 5 ∧ Ow w' base (.slice A' ds.length c') ds ∧ Below base w w' := by
  have hg := h.cur.lt
  have BL := Lib.hid (fun (n : Int) (n0 : 1 ≤ n) (n1 : n ≤ 1000000) (u : World) (hC : CurIn u base g A c xs) (hu : base ≤ u.heap.size) => below_c n n0 n1 hC hu hA hb hl)
  have HC0 : Hid (CurIn (w.alloc (.cells #[] 3)) base g A c xs) := by
    have b1 : Below w.heap.size w (w.alloc (.cells #[] 3)) := (Below.refl _ _).alloc (Nat.le_refl _) _
    exact ⟨h.cur.below b1 hg, h.rd.far (fun hn ad e => Nat.lt_of_lt_of_le (hA hn ad e) hs) b1⟩
  have HA := Lib.hid hA
  have HB0 : Hid (Below base w (w.alloc (.cells #[] 3))) := (Below.refl _ _).alloc hs _
  have HO0 := Lib.hid (Ap.empty w w.heap.size (Nat.le_refl _))
  clear h hA hb
  go_enter Try.func56, Try.ntmps56
  go_wp2_with fail
  refine (BL.out 4 (by omega) (by omega) _ HC0.out (Nat.le_trans hs HB0.out.size)).mono ?_
  rintro e w1 ⟨q, rfl, q0, q1, hC1, hG1, hB1⟩
  have HO1 := Lib.hid (HO0.out.kept1 hG1 hg)
  have HB1 := Lib.hid (HB0.out.trans hB1)
  have hz1 : w.heap.size ≤ w1.heap.size := Nat.le_trans (by simp) hG1.size
  clear hG1 hB1 HC0 HB0 HO0
  go_wp2_with fail
  refine (BL.out 6 (by omega) (by omega) _ hC1 (by omega)).mono ?_
  rintro e w2 ⟨m, rfl, m0, m1, hC2, hG2, hB2⟩
  obtain ⟨N, rfl⟩ : ∃ N : Nat, m = N := ⟨m.toNat, by omega⟩
  have HO2 := Lib.hid (HO1.out.kept1 hG2 hg)
  have HB2 := Lib.hid (HB1.out.trans hB2)
  have hz2 : w.heap.size ≤ w2.heap.size := Nat.le_trans hz1 hG2.size
  have HD0 : Hid (DrawSt 0 q []) := ⟨rfl, (fun i hi => by simp at hi), (fun v hv => by cases hv), q0, by omega⟩
  clear hG2 hB2 HO1 HB1 hC1 hz1
  go_wp2
  go_loopw [3, 4, 5] (fun v x i wr => ∃ (k : Nat) (z : Int) (l : List Int), k ≤ N ∧ i = .int .i64 ((N : Int) - k) ∧ x = .int .i64 z ∧ Hid (DrawSt k z l) ∧ Ap wr w.heap.size v l ∧ CurIn wr base g A c xs ∧ Below base w wr ∧ w.heap.size ≤ wr.heap.size) (fun _ _ i _ => (intOf i).toNat)
  case atStart => exact ⟨0, q, [], Nat.zero_le _, by go_num, rfl, HD0.out, HO2.out, hC2, HB2.out, hz2⟩
  case round =>
    obtain ⟨k, z, l, hk, rfl, rfl, hD, hO, hC, hB, hz⟩ := hrel
    have hsr : base ≤ wr.heap.size := by omega
    obtain ⟨A0, c0, rfl⟩ := hO.form
    have z0 := hD.out.pos
    have z1 := hD.out.top
    by_cases hlt : k < N
    · have t1 : (0 : Int) < (N : Int) - k := by omega
      have hL : l.length < 1099511627776 := by have := hD.out.len; omega
      go_wp2_with (first | fail | (at_builtin; refine wpList_app1 hO hL hz rfl _ _ 24 rfl rfl rfl rfl ?_; intro v' w' O' B'))
      have hC' : CurIn w' base g A c xs := ⟨hC.cur.below B' hg, hC.rd.far (fun hn ad e => Nat.lt_of_lt_of_le (HA.out hn ad e) hs) B'⟩
      have hz' := Nat.le_trans hz B'.size
      have hB' := hB.trans (B'.mono hs)
      refine (BL.out 3 (by omega) (by omega) _ hC' (by omega)).mono ?_
      rintro e w3 ⟨b, rfl, b0, b1, hC3, hG3, hB3⟩
      have O3 := O'.kept1 hG3 hg
      have hB4 := hB'.trans hB3
      have hz3 := Nat.le_trans hz' hG3.size
      have HD' : Hid (DrawSt (k + 1) (z + 1 + b) (l ++ [z])) := by
        obtain ⟨d1, d2, d3, d4, d5⟩ := hD.out
        refine ⟨by simp [d1], sub_snoc d2 d3 d4 (by omega), fun v hv => ?_, by omega, by omega⟩
        rcases List.mem_append.1 hv with hv | hv
        · have := d3 v hv; omega
        · rw [List.mem_singleton.1 hv]; omega
      clear hB' hB3 hG3 hC hO O' hC' B'
      go_wp2
      go_roundw
      case rel => exact ⟨k + 1, z + 1 + b, l ++ [z], by omega, (by congr 1; omega), rfl, HD'.out, O3, hC3, hB4, hz3⟩
      case measure => simp [intOf]; omega
    · have hkN : k = N := by omega
      subst hkN
      have t1 : ¬ (0 : Int) < (k : Int) - k := by omega
      have HO := Lib.hid (hO.ow.more hs)
      have HBB := Lib.hid hB
      clear hO hC hB
      go_wp2
      go_ret
      refine ⟨A0, _, l, rfl, ?_, (by have := hD.out.len; omega), HO.out, HBB.out⟩
      rw [subB_end hD.out.inc]; rfl

theorem makeSubset_c (N : Nat) (hN : N ≤ 1000) (A : Option Addr) (c : Nat) (xs : List Int) (w : World) (hr : Rd8 w A xs) (hA : 0 < xs.length → ∀ ad, A = some ad → ad.block < w.heap.size) (hb : ∀ x ∈ xs, 0 ≤ x ∧ x ≤ 255) (hl : xs.length ≤ 1099511627776) :
    Calls Try.prog 35 #[.slice A xs.length c, .int .i64 (N : Int)] w fun e w' => ∃ A' c' ds, e = .returned (.slice A' ds.length c') ∧ subB ds 20 = true ∧ ds.length ≤ 5 ∧ Ow w' w.heap.size (.slice A' ds.length c') ds ∧ Below w.heap.size w w' := by
  have NC := Lib.hid (newN_c N hN A c xs w w.heap.size (Nat.le_refl _) hr hA hb hl)
  go_enter Try.func35, Try.ntmps35
  go_wp2_with fail
  refine (NC.out).mono ?_
  rintro e w1 ⟨g, rfl, hg, hC, hB⟩
  go_wp2_with fail
  refine (l09Draw_c hC hB.size hA hb hl).mono ?_
  rintro e w2 ⟨A', c', ds, rfl, hM, hl5, hO, hB2⟩
  go_wp2
  go_ret
  exact ⟨A', c', ds, rfl, hM, hl5, hO, hB.trans hB2⟩
end Go.Proofs.Ytepjmlcleggnnaa
