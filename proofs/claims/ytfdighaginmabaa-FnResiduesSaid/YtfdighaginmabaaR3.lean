/-
  WALKS: ModuliOk (both packages) and the law over it.
-/
import Derived.Test.YtfdighaginmabaaRM
namespace Go.Proofs.Ytfdighaginmabaa
open Go.RowKit

def coP (m x : Int) : Bool := decide (Int.gcd m x = 1)
theorem coprB_all {ms : List Int} {k : Nat} {m : Int} (hm : ms[k]? = some m) : coprB ms k = (ms.take k).all (coP m) := by
  unfold coprB coP
  simp [List.getD, hm]
theorem coP_take_succ {xs : List Int} {m x : Int} {k : Nat} (hx : xs[k]? = some x) : (xs.take (k + 1)).all (coP m) = ((xs.take k).all (coP m) && coP m x) := by
  rw [List.take_add_one, hx]
  simp
theorem coP_not {xs : List Int} {m x : Int} {k : Nat} (hx : xs[k]? = some x) (h : coP m x = false) : xs.all (coP m) = false := by
  rw [List.all_eq_false]
  exact ⟨x, List.mem_of_getElem? hx, by simp [h]⟩
theorem gcd_one_le {m : Int} (x : Int) (h : 1 ≤ m) : 1 ≤ Int.gcd m x := Int.gcd_pos_of_ne_zero_left _ (by omega)
theorem gcd_le_left {m : Int} (x : Int) (h : 1 ≤ m) : (Int.gcd m x : Int) ≤ m := Int.le_of_dvd (by omega) (Int.gcd_dvd_left ..)

theorem gcdClos_any (m x : Int) (b1 : Nat) (w : World) (hm : 1 ≤ m ∧ m ≤ 1000) (hx : 1 ≤ x ∧ x ≤ 1000) (h1 : w.cell? ⟨b1, 0, none⟩ = some (.int .i64 m)) :
    Calls Try.prog 55 #[.int .i64 x, .pointer (some ⟨b1, 0, none⟩)] w fun e w' => e = .returned (.bool (!coP m x)) ∧ ∃ n, w' = w.drewN n := by
  have hp := gcd_one_le x hm.1
  go_enter Try.func55, Try.ntmps55
  go_wp2_with fail
  refine (gcd_any _ _ _ (by omega) (by omega)).mono ?_
  rintro e w' ⟨rfl, n, rfl⟩
  go_wp2
  go_ret
  exact ⟨ret_bool (by unfold coP; by_cases h : Int.gcd m x = 1 <;> simp [h] <;> omega), n, rfl⟩

/-- r: -1 where no number has a common divisor with m, else an index. -/
def IdxG (m : Int) (xs : List Int) (r : Int) : Prop := -1 ≤ r ∧ r ≤ 1099511627776 ∧ decide (0 ≤ r) = !(xs.all (coP m))

set_option maxHeartbeats 800000 in
theorem indexFuncG_any (A : Option Addr) (c : Nat) (xs : List Int) (m : Int) (b1 : Nat) (w : World) (hr : Rd w A xs) (hl : xs.length ≤ 1099511627776) (hm : 1 ≤ m ∧ m ≤ 1000) (hxs : ∀ x ∈ xs, 1 ≤ x ∧ x ≤ 1000)
    (h1 : w.cell? ⟨b1, 0, none⟩ = some (.int .i64 m)) :
    Calls Try.prog 74 #[.slice A xs.length c, .func (.func 55) #[] #[.pointer (some ⟨b1, 0, none⟩)]] w fun e w' =>
      ∃ r, e = .returned (.int .i64 r) ∧ IdxG m xs r ∧ ∃ n, w' = w.drewN n := by
  have HR := Lib.hid hr
  have HX := Lib.hid hxs
  have HM := Lib.hid hm
  clear hr hxs hm
  go_enter Try.func74, Try.ntmps74
  go_wp2
  go_loopw [8] (fun i wr => ∃ k q : Nat, k ≤ xs.length ∧ wr = w.drewN q ∧ i = .int .i64 k ∧ Hid ((xs.take k).all (coP m) = true)) (fun i _ => xs.length - (intOf i).toNat)
  case atStart => exact ⟨0, 0, Nat.zero_le _, rfl, rfl, (rfl : (xs.take 0).all (coP m) = true)⟩
  case round =>
    obtain ⟨k, q, hk, rfl, rfl, hall⟩ := hrel
    by_cases hlt : k < xs.length
    · obtain ⟨ad, x, rfl, hx, hc⟩ := HR.out.at_ hlt
      have CL := Lib.hid (gcdClos_any m x b1 (w.drewN q) HM.out (HX.out x (List.mem_of_getElem? hx.out)) h1)
      rcases Bool.eq_false_or_eq_true (coP m x) with h | h
      · rw [h] at CL
        go_wp2_with fail
        refine (CL.out).mono ?_
        rintro e w' ⟨rfl, n, rfl⟩
        go_wp2
        go_roundw
        case rel => exact ⟨k + 1, q + n, by omega, by first | rfl | exact drewN_twice _ _ _, by go_num, by unfold Hid; rw [coP_take_succ hx.out, hall.out, h]; rfl⟩
        case measure => simp [intOf]; omega
      · rw [h] at CL
        go_wp2_with fail
        refine (CL.out).mono ?_
        rintro e w' ⟨rfl, n, rfl⟩
        go_wp2
        go_ret
        refine ⟨_, rfl, ⟨by omega, by omega, ?_⟩, q + n, by first | rfl | exact drewN_twice _ _ _⟩
        rw [coP_not hx.out h]
        simp
    · have hkl : k = xs.length := by omega
      subst hkl
      go_wp2
      go_ret
      refine ⟨_, rfl, ⟨by omega, by omega, ?_⟩, q, rfl⟩
      have := hall.out
      rw [List.take_length] at this
      rw [this]
      rfl

theorem containsFuncG_any (A : Option Addr) (c n : Nat) (xs : List Int) (m : Int) (b1 : Nat) (w : World) (hr : Rd w A xs) (hn : xs.length = n) (hl : n ≤ 1099511627776) (hm : 1 ≤ m ∧ m ≤ 1000) (hxs : ∀ x ∈ xs, 1 ≤ x ∧ x ≤ 1000)
    (h1 : w.cell? ⟨b1, 0, none⟩ = some (.int .i64 m)) :
    Calls Try.prog 54 #[.slice A n c, .func (.func 55) #[] #[.pointer (some ⟨b1, 0, none⟩)]] w fun e w' =>
      e = .returned (.bool (!xs.all (coP m))) ∧ ∃ n, w' = w.drewN n := by
  subst hn
  go_enter Try.func54, Try.ntmps54
  go_wp2_with fail
  refine (indexFuncG_any A c xs m b1 w hr hl hm hxs h1).mono ?_
  rintro e w' ⟨r, rfl, ⟨hr1, hr2, hr3⟩, n, rfl⟩
  have HI := Lib.hid hr3
  clear hr3
  go_wp2
  go_ret
  exact ⟨ret_bool HI.out, n, rfl⟩

theorem isNumber_any (n : Int) (w : World) :
    Calls Try.prog 52 #[.int .i64 n] w fun e w' => e = .returned (.bool (inB n 0 1000000000000)) ∧ w = w' := by
  go_enter Try.func52, Try.ntmps52
  go_wp2_with fail
  refine (within_any _ _ _ _).mono ?_
  rintro e w' ⟨rfl, rfl⟩
  go_wp2
  go_ret
  exact ⟨rfl, rfl⟩

theorem Rd.take {w : World} {A : Option Addr} {xs : List Int} (h : Rd w A xs) (k : Nat) : Rd w A (xs.take k) := fun hn => by
  rw [List.length_take] at hn
  obtain ⟨ad, e, hc⟩ := h (by omega)
  refine ⟨ad, e, fun j hj => ?_⟩
  rw [List.length_take] at hj
  rw [hc j (by omega)]
  simp [show j < k by omega]

set_option maxHeartbeats 1600000 in
theorem iModuliOk_any (A : Option Addr) (c : Nat) (ms : List Int) (w : World) (hr : Rd w A ms) (hcap : ms.length ≤ c) (hl : ms.length ≤ 1099511627776) :
    Calls Try.prog 21 #[.slice A ms.length c] w fun e w' => e = .returned (.bool (moduliB ms)) ∧ Below w.heap.size w w' := by
  have HR := Lib.hid hr
  have hmf : ∀ (fn : Fn) (first cap : Array Value) (w : World), (Instr.makeFunc fn first cap).run Try.prog w = .ok (.func fn first cap) w := fun _ _ _ _ => rfl
  rcases Bool.eq_false_or_eq_true (inB ms.length 1 6) with h1 | h1
  · obtain ⟨l1, l6⟩ := inB_true h1
    rcases Bool.eq_false_or_eq_true (allB ms 2 1000) with h2 | h2
    · have HP := Lib.hid (moduliB_prodIn l6 h2)
      have HX : Hid (∀ x ∈ ms, 1 ≤ x ∧ x ≤ 1000) := fun x hx => by have := allB_true h2 x hx; omega
      have W1 := Lib.hid (allWithin_any A c ms 2 1000 w hr hl)
      rw [h2] at W1
      rcases Bool.eq_false_or_eq_true (inB (prodI ms) 0 1000000000000) with h3 | h3
      · have HOK : Hid ((∀ i, i < ms.length → coprB ms i = true) → moduliB ms = true) := moduliB_of h1 h2 h3
        clear hr
        go_enter Try.func21, Try.ntmps21
        go_wp2_with fail
        refine (within_any _ _ _ _).mono ?_
        rintro e w' ⟨rfl, rfl⟩
        go_wp2_with fail
        refine (W1.out).mono ?_
        rintro e w1 ⟨rfl, B1⟩
        go_wp2_with fail
        refine (product_any A c ms _ (HR.out.below B1) hl HP.out).mono ?_
        rintro e w' ⟨rfl, rfl⟩
        go_wp2_with fail
        refine (isNumber_any _ _).mono ?_
        rintro e w' ⟨rfl, rfl⟩
        go_wp2
        go_loopw [22] (fun i wr => ∃ k : Nat, k ≤ ms.length ∧ i = .int .i64 k ∧ Hid (∀ j, j < k → coprB ms j = true) ∧ Below w.heap.size w wr) (fun i _ => ms.length - (intOf i).toNat)
        case atStart => exact ⟨0, Nat.zero_le _, rfl, fun j hj => absurd hj (by omega), B1⟩
        case round =>
          obtain ⟨k, hk, rfl, hC, hB⟩ := hrel
          by_cases hlt : k < ms.length
          · obtain ⟨ad, m, rfl, hm, hc⟩ := (HR.out.below hB).at_ hlt
            have hm1 := HX.out m (List.mem_of_getElem? hm.out)
            have RT := Lib.hid (((HR.out.below hB).alloc (.cells #[.int .i64 m] 3)).take k)
            have hct : (wr.alloc (.cells #[.int .i64 m] 3)).cell? ⟨wr.heap.size, 0, none⟩ = some (.int .i64 m) := by rw [World.cell?_alloc_at _ _ _ _ rfl]; rfl
            have CL := Lib.hid (containsFuncG_any (some ad) c k (ms.take k) m wr.heap.size (wr.alloc (.cells #[.int .i64 m] 3)) RT.out (by rw [List.length_take]; omega) (by omega) hm1 (fun x hx => HX.out x (List.mem_of_mem_take hx)) hct)
            have HE := Lib.hid (coprB_all hm.out)
            have c0 : (0 : Int) ≤ k := by omega
            have c1 : (k : Int) < ms.length := by omega
            have c2 : (k : Int) ≤ ms.length := by omega
            have c9 : (k : Int) ≤ c := by omega
            have hB2 := Lib.hid (hB.alloc hB.size (.cells #[.int .i64 m] 3))
            rcases Bool.eq_false_or_eq_true ((ms.take k).all (coP m)) with h | h
            · rw [h] at CL
              have HE2 : Hid (coprB ms k = true) := by unfold Hid; rw [HE.out, h]
              clear h HE
              go_wp2_with fail
              refine (CL.out).mono ?_
              rintro e w' ⟨rfl, n, rfl⟩
              go_wp2
              go_roundw
              case rel => exact ⟨k + 1, by omega, by go_num, fun j hj => by
                by_cases e : j = k
                · rw [e]; exact HE2.out
                · exact hC.out j (by omega), below_drewN hB2.out n⟩
              case measure => simp [intOf]; omega
            · rw [h] at CL
              have HE2 : Hid (moduliB ms = false) := by unfold Hid; exact moduliB_no4 hlt (by rw [HE.out, h])
              clear h HE
              go_wp2_with fail
              refine (CL.out).mono ?_
              rintro e w' ⟨rfl, n, rfl⟩
              go_wp2
              go_ret
              exact ⟨ret_bool HE2.out.symm, below_drewN hB2.out n⟩
          · have hkl : k = ms.length := by omega
            subst hkl
            have HF := Lib.hid (HOK.out hC.out)
            go_wp2
            go_ret
            exact ⟨ret_bool HF.out.symm, hB⟩
      · have HF := Lib.hid (moduliB_no3 h3)
        clear hr
        go_enter Try.func21, Try.ntmps21
        go_wp2_with fail
        refine (within_any _ _ _ _).mono ?_
        rintro e w' ⟨rfl, rfl⟩
        go_wp2_with fail
        refine (W1.out).mono ?_
        rintro e w1 ⟨rfl, B1⟩
        go_wp2_with fail
        refine (product_any A c ms _ (HR.out.below B1) hl HP.out).mono ?_
        rintro e w' ⟨rfl, rfl⟩
        go_wp2_with fail
        refine (isNumber_any _ _).mono ?_
        rintro e w' ⟨rfl, rfl⟩
        go_wp2
        go_ret
        exact ⟨ret_bool HF.out.symm, B1⟩
    · have HF := Lib.hid (moduliB_no2 h2)
      have W1 := Lib.hid (allWithin_any A c ms 2 1000 w hr hl)
      rw [h2] at W1
      clear hr
      go_enter Try.func21, Try.ntmps21
      go_wp2_with fail
      refine (within_any _ _ _ _).mono ?_
      rintro e w' ⟨rfl, rfl⟩
      go_wp2_with fail
      refine (W1.out).mono ?_
      rintro e w1 ⟨rfl, B1⟩
      go_wp2
      go_ret
      exact ⟨ret_bool HF.out.symm, B1⟩
  · have HF := Lib.hid (moduliB_no1 h1)
    clear hr
    go_enter Try.func21, Try.ntmps21
    go_wp2_with fail
    refine (within_any _ _ _ _).mono ?_
    rintro e w' ⟨rfl, rfl⟩
    go_wp2
    go_ret
    exact ⟨ret_bool HF.out.symm, Below.refl _ _⟩

theorem prod_over {ms : List Int} (h2 : allB ms 2 1000 = true) {k : Nat} (h : 1000000000000 < prodUp ms k) : moduliB ms = false := by
  apply moduliB_no3
  have := prodUp_le_all (xs := ms) (fun x hx => by have := allB_true h2 x hx; omega) k
  unfold inB
  simp
  omega
theorem prod_over' {ms : List Int} {k : Nat} (h : 1000000000000 < prodUp ms k) : moduliB ms = false := by
  rcases Bool.eq_false_or_eq_true (allB ms 2 1000) with h2 | h2
  · exact prod_over h2 h
  · exact moduliB_no2 h2

set_option maxHeartbeats 1600000 in
theorem sModuliOk_any (A : Option Addr) (c : Nat) (ms : List Int) (w : World) (hr : Rd w A ms) (hcap : ms.length ≤ c) (hl : ms.length ≤ 1099511627776) :
    Calls Try.prog 19 #[.slice A ms.length c] w fun e w' => e = .returned (.bool (moduliB ms)) ∧ w = w' := by
  have HR := Lib.hid hr
  clear hr
  rcases Bool.eq_false_or_eq_true (inB ms.length 1 6) with h1 | h1
  · obtain ⟨l1, l6⟩ := inB_true h1
    have H1 := Lib.hid h1
    go_enter Try.func19, Try.ntmps19
    go_wp2_with fail
    refine (l01In_any _ _ _ _).mono ?_
    rintro e w' ⟨rfl, rfl⟩
    go_wp2
    go_loop [3, 14] (fun n i => ∃ k : Nat, k ≤ ms.length ∧ i = .int .i64 k ∧ n = .int .i64 (prodUp ms k) ∧ Hid (allB (ms.take k) 2 1000 = true) ∧ Hid (∀ j, j < k → coprB ms j = true) ∧ 1 ≤ prodUp ms k ∧ prodUp ms k ≤ 1000000000000) (fun _ i => ms.length - (intOf i).toNat)
    case atStart => exact ⟨0, Nat.zero_le _, rfl, rfl, (rfl : allB (ms.take 0) 2 1000 = true), fun j hj => absurd hj (by omega), by simp [prodUp, prodI], by simp [prodUp, prodI]⟩
    case round =>
      obtain ⟨k, hk, rfl, rfl, hA, hC, p1, p2⟩ := hrel
      by_cases hlt : k < ms.length
      · obtain ⟨ad, m, rfl, hm, hc⟩ := HR.out.at_ hlt
        have HS := Lib.hid (prodUp_succ hm.out)
        have c0 : (0 : Int) ≤ k := by omega
        have c1 : (k : Int) < ms.length := by omega
        have c2 : (k : Int) ≤ ms.length := by omega
        have c9 : (k : Int) ≤ c := by omega
        rcases Bool.eq_false_or_eq_true (inB m 2 1000) with h | h
        · obtain ⟨m2, m3⟩ := inB_true h
          have HA2 : Hid (allB (ms.take (k + 1)) 2 1000 = true) := by unfold Hid; rw [allB_take_succ _ _ _ _ _ hm.out, hA.out, h]; rfl
          have HE := Lib.hid (coprB_all hm.out)
          obtain ⟨p, hp⟩ : ∃ p, prodUp ms k = p := ⟨_, rfl⟩
          rw [hp] at p1 p2 HS
          rw [hp]
          clear hp
          have b1 : 0 ≤ p * m := Int.mul_nonneg (by omega) (by omega)
          have b2 : p * m ≤ 1000000000000 * 1000 := Int.mul_le_mul p2 m3 (by omega) (by omega)
          have b3 : 1 * 1 ≤ p * m := Int.mul_le_mul p1 (by omega) (by omega) (by omega)
          go_wp2_with fail
          refine (l01In_any _ _ _ _).mono ?_
          rintro e w' ⟨rfl, rfl⟩
          go_wp2
          go_loop [26] (fun v => ∃ q : Nat, q ≤ k ∧ v = .int .i64 q ∧ Hid (((ms.take k).take q).all (coP m) = true)) (fun v => k - (intOf v).toNat)
          case atStart => exact ⟨0, Nat.zero_le _, rfl, (rfl : ((ms.take k).take 0).all (coP m) = true)⟩
          case round =>
            obtain ⟨q, hq, rfl, hall⟩ := hrel
            by_cases hlt2 : q < k
            · have hxe : ms[q]? = some ms[q] := List.getElem?_eq_getElem (by omega)
              obtain ⟨x, hxx⟩ : ∃ x, ms[q]? = some x := ⟨_, hxe⟩
              have hcx := HR.out.at2 hxx rfl
              have hxt : (ms.take k)[q]? = some x := by rw [List.getElem?_take, if_pos hlt2]; exact hxx
              have hb : 2 ≤ x ∧ x ≤ 1000 := allB_true hA.out x (List.mem_of_getElem? hxt)
              have HT := Lib.hid hxt
              have G1 := gcd_one_le x (m := m) (by omega)
              have G2 := gcd_le_left x (m := m) (by omega)
              have c3 : (0 : Int) ≤ q := by omega
              have c4 : (q : Int) < k := by omega
              clear hxe hxx hxt
              rcases Bool.eq_false_or_eq_true (coP m x) with h5 | h5
              · have H5 := Lib.hid h5
                have t5 : (((Int.gcd m x : Nat) : Int) != 1) = false := by unfold coP at h5; have := of_decide_eq_true h5; simp [this]
                clear h5
                go_wp2_with fail
                refine (l13Gcd_any _ _ _ (by omega) (by omega)).mono ?_
                rintro e w' ⟨rfl, rfl⟩
                go_wp2
                go_round
                case rel => exact ⟨q + 1, by omega, by go_num, by unfold Hid; rw [coP_take_succ HT.out, hall.out, H5.out]; rfl⟩
                case measure => simp [intOf]; omega
              · have H5 : Hid (moduliB ms = false) := by unfold Hid; exact moduliB_no4 hlt (by rw [HE.out]; exact coP_not HT.out h5)
                have t5 : (((Int.gcd m x : Nat) : Int) != 1) = true := by unfold coP at h5; have := of_decide_eq_false h5; simp; omega
                clear h5
                go_wp2_with fail
                refine (l13Gcd_any _ _ _ (by omega) (by omega)).mono ?_
                rintro e w' ⟨rfl, rfl⟩
                go_wp2
                go_ret
                exact ⟨ret_bool H5.out.symm, rfl⟩
            · have hqk : q = k := by omega
              subst hqk
              have HE2 : Hid (coprB ms q = true) := by
                unfold Hid
                have := hall.out
                rw [List.take_take, Nat.min_self] at this
                rw [HE.out, this]
              clear HE
              by_cases hbig : 1000000000000 < p * m
              · have HF : Hid (moduliB ms = false) := by unfold Hid; exact prod_over' (k := q + 1) (by rw [HS.out]; exact hbig)
                go_wp2
                go_ret
                exact ⟨ret_bool HF.out.symm, rfl⟩
              · go_wp2
                go_round
                case rel => exact ⟨q + 1, by omega, by go_num, by rw [HS.out], HA2.out, fun j hj => by
                  by_cases e : j = q
                  · rw [e]; exact HE2.out
                  · exact hC.out j (by omega), by rw [HS.out]; omega, by rw [HS.out]; omega⟩
                case measure => simp [intOf]; omega
        · have HF : Hid (moduliB ms = false) := by unfold Hid; exact moduliB_no2 (allB_not hm.out h)
          go_wp2_with fail
          refine (l01In_any _ _ _ _).mono ?_
          rintro e w' ⟨rfl, rfl⟩
          go_wp2
          go_ret
          exact ⟨ret_bool HF.out.symm, rfl⟩
      · have hkl : k = ms.length := by omega
        subst hkl
        have HF : Hid (moduliB ms = true) := by
          unfold Hid
          have a := hA.out
          rw [List.take_length] at a
          rw [prodUp_all] at p1 p2
          exact moduliB_of H1.out a (inB_of ⟨by omega, p2⟩) hC.out
        clear p1 p2
        go_wp2
        go_ret
        exact ⟨ret_bool HF.out.symm, rfl⟩
  · have HF := Lib.hid (moduliB_no1 h1)
    go_enter Try.func19, Try.ntmps19
    go_wp2_with fail
    refine (l01In_any _ _ _ _).mono ?_
    rintro e w' ⟨rfl, rfl⟩
    go_wp2
    go_ret
    exact ⟨ret_bool HF.out.symm, rfl⟩

theorem iModuliOk_c (w : World) (A : Option Addr) (c : Nat) (ms : List Int) (hr : Rd w A ms) (hcap : ms.length ≤ c) (hl : ms.length ≤ 1048576) (_hb : AllI64 ms) :
    Calls Try.prog 21 #[.slice A ms.length c] w fun e w' => e = .returned (.bool (moduliB ms)) ∧ Below w.heap.size w w' := iModuliOk_any A c ms w hr hcap (by omega)
theorem sModuliOk_c (w : World) (A : Option Addr) (c : Nat) (ms : List Int) (hr : Rd w A ms) (hcap : ms.length ≤ c) (hl : ms.length ≤ 1048576) (_hb : AllI64 ms) :
    Calls Try.prog 19 #[.slice A ms.length c] w fun e w' => e = .returned (.bool (moduliB ms)) ∧ Below w.heap.size w w' :=
  (sModuliOk_any A c ms w hr hcap (by omega)).mono fun e w' ⟨h, k⟩ => ⟨h, by subst k; exact Below.refl _ _⟩

set_option maxRecDepth 100000 in
set_option maxHeartbeats 1600000 in
theorem lModuliOk_law (w : World) (A0 : Option Addr) (c0 : Nat) (xs0 : List Int) (r0 : Rd w A0 xs0) (_m0 : xs0.length ≤ maxLen) (b0 : ∀ x ∈ xs0, -9223372036854775808 ≤ x ∧ x ≤ 9223372036854775807) :
    Calls Try.prog 5 #[.slice A0 xs0.length c0] w fun e w' => e = .returned (.bool true) ∧ Below w.heap.size w w' := by
  have RA0 := Lib.hid r0
  have BA0 : AllI64 xs0 := b0
  clear r0 b0
  by_cases h0 : xs0.length ≤ 1048576
  · skip
    go_enter Try.func5, Try.ntmps5
    go_wp2_with fail
    refine (toIntS_any _ _ _ _ (RA0.out.below (Below.refl w.heap.size w)) h0).mono ?_
    rintro e w1 ⟨A_S0, c_S0, rfl, S0_0, B1⟩
    have L_S0 := fun k hk => (S0_0.lt k hk).1
    have C2 := (Below.refl w.heap.size w).trans (B1.mono (Below.refl w.heap.size w).size)
    go_wp2_with fail
    refine (sModuliOk_c _ _ _ _ S0_0.rd S0_0.cap.1 h0 BA0).mono ?_
    rintro e w3 ⟨rfl, B3⟩
    have C4 := C2.trans (B3.mono C2.size)
    have S0_4 := S0_0.below' B3
    go_wp2_with fail
    refine (toIntS_any _ _ _ _ (RA0.out.below C4) h0).mono ?_
    rintro e w5 ⟨A_X0, c_X0, rfl, X0_0, B5⟩
    have L_X0 := fun k hk => (X0_0.lt k hk).1
    have C6 := C4.trans (B5.mono C4.size)
    go_wp2_with fail
    refine (iModuliOk_c _ _ _ _ X0_0.rd X0_0.cap.1 h0 BA0).mono ?_
    rintro e w7 ⟨rfl, B7⟩
    have C8 := C6.trans (B7.mono C6.size)
    have X0_8 := X0_0.below' B7
    go_wp2_with fail
    refine (toIntS_any _ _ _ _ (RA0.out.below C8) h0).mono ?_
    rintro e w9 ⟨A_T0, c_T0, rfl, T0_0, B9⟩
    have U_X0_T0 := fun k hk => (X0_8.lt k hk).2
    have L_T0 := fun k hk => (T0_0.lt k hk).1
    have C10 := C8.trans (B9.mono C8.size)
    have X0_10 := X0_8.below' B9
    go_wp2_with fail
    refine (eqIntS_same _ _ _ _ _ _ X0_10.rd T0_0.rd (by omega)).mono ?_
    rintro e w11 ⟨rfl, n11_, rfl⟩
    have C12 := below_drewN C10 n11_
    have X0_12 := X0_10.drewN n11_
    have T0_12 := T0_0.drewN n11_
    go_wp2
    go_ret
    exact ⟨rfl, C12⟩
  · unfold maxLen at _m0
    go_enter Try.func5, Try.ntmps5
    go_wp2
    go_ret
    exact ⟨rfl, Below.refl _ _⟩

end Go.Proofs.Ytfdighaginmabaa
