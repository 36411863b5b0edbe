/-
  WALKS: RadicesOk, RangeOf, MixedOk, MixedDigits (both packages). No statement of the seat is closed here.
-/
import Derived.Test.YthnpobbpmgjhjaaDoorMixA
import Derived.Test.YthnpobbpmgjhjaaDoorG1
namespace Go.Proofs.YthnpobbpmgjhjaaDoor
open Go.RowKit

def radB (xs : List Int) : Bool := inB xs.length 1 10 && allB xs 2 60 && decide (prodI xs ≤ 1000000000000)
theorem radB_parts {xs : List Int} (h : radB xs = true) : 1 ≤ xs.length ∧ xs.length ≤ 10 ∧ (∀ x ∈ xs, (2 : Int) ≤ x ∧ x ≤ 60) ∧ 1 ≤ prodI xs ∧ prodI xs ≤ 1000000000000 := by
  simp only [radB, Bool.and_eq_true, decide_eq_true_eq] at h
  have h1 := inB_true h.1.1
  have h2 := allB_true h.1.2
  exact ⟨by omega, by omega, h2, prodI_pos fun x hx => by have := h2 x hx; omega, h.2⟩
theorem prodIn_60 {xs : List Int} (hl : xs.length ≤ 10) (h : ∀ x ∈ xs, (2 : Int) ≤ x ∧ x ≤ 60) : ProdIn xs := fun k => by
  have := prodUp_bound (M := 60) (n := 10) (fun x hx => ⟨by have := h x hx; omega, (h x hx).2⟩) (by omega) hl k
  have e : (60 : Int) ^ 10 = 604661760000000000 := by decide
  rw [e] at this
  omega

theorem iRadicesOk_any (A : Option Addr) (c : Nat) (xs : List Int) (w : World) (hr : Rd w A xs) (hl : xs.length ≤ 1099511627776) :
    Calls Tryd.prog 44 #[.slice A xs.length c] w fun e w' => e = .returned (.bool (radB xs)) ∧ Below w.heap.size w w' := by
  rcases Bool.eq_false_or_eq_true (inB (xs.length : Int) 1 10) with h1 | h1
  · have hlen := inB_true h1
    rcases Bool.eq_false_or_eq_true (allB xs 2 60) with h2 | h2
    · have hp := prodIn_60 (by omega) (allB_true h2)
      have hp1 : 1 ≤ prodI xs := prodI_pos fun x hx => by have := allB_true h2 x hx; omega
      have HD : Hid (inB (prodI xs) 0 1000000000000 = decide (prodI xs ≤ 1000000000000)) := by
        unfold Hid inB
        rw [decide_eq_true (show 0 ≤ prodI xs by omega), Bool.true_and]
      have H2 := Lib.hid h2
      clear h2
      go_enter Tryd.func44, Tryd.ntmps44
      go_wp2_with fail
      refine (within_any _ _ _ _).mono ?_
      rintro e w' ⟨rfl, rfl⟩
      go_wp2_with fail
      refine (allWithin_any _ _ _ _ _ _ hr hl).mono ?_
      rintro e w1 ⟨rfl, B1⟩
      rw [H2.out]
      have R1 := hr.below B1
      go_wp2_with fail
      refine (product_any _ _ _ _ R1 hl hp).mono ?_
      rintro e w' ⟨rfl, rfl⟩
      go_wp2_with fail
      refine (isNumber_any _ _).mono ?_
      rintro e w' ⟨rfl, rfl⟩
      go_wp2
      go_ret
      exact ⟨ret_bool (by rw [HD.out]; simp [radB, h1, H2.out]), B1⟩
    · have H2 := Lib.hid h2
      clear h2
      go_enter Tryd.func44, Tryd.ntmps44
      go_wp2_with fail
      refine (within_any _ _ _ _).mono ?_
      rintro e w' ⟨rfl, rfl⟩
      go_wp2_with fail
      refine (allWithin_any _ _ _ _ _ _ hr hl).mono ?_
      rintro e w1 ⟨rfl, B1⟩
      rw [H2.out]
      go_wp2
      go_ret
      exact ⟨ret_bool (by simp [radB, H2.out]), B1⟩
  · go_enter Tryd.func44, Tryd.ntmps44
    go_wp2_with fail
    refine (within_any _ _ _ _).mono ?_
    rintro e w' ⟨rfl, rfl⟩
    go_wp2
    go_ret
    exact ⟨ret_bool (by simp [radB, h1]), Below.refl _ _⟩

theorem radB_big {xs : List Int} {k : Nat} (h : 1000000000000 < prodUp xs k) : radB xs = false := by
  rw [Bool.eq_false_iff]
  intro hc
  obtain ⟨_, _, h3, _, h5⟩ := radB_parts hc
  have := prodUp_le_all (xs := xs) (fun x hx => by have := h3 x hx; omega) k
  omega
def radSoFar (xs : List Int) (k : Nat) : Prop := allB (xs.take k) 2 60 = true ∧ 1 ≤ prodUp xs k ∧ prodUp xs k ≤ 1000000000000

set_option maxHeartbeats 1600000 in
theorem sRadicesOk_any (A : Option Addr) (c : Nat) (xs : List Int) (w : World) (hr : Rd w A xs) (hl : xs.length ≤ 1099511627776) :
    Calls Tryd.prog 29 #[.slice A xs.length c] w fun e w' => e = .returned (.bool (radB xs)) ∧ w = w' := by
  have HR := Lib.hid hr
  clear hr
  rcases Bool.eq_false_or_eq_true (inB (xs.length : Int) 1 10) with h1 | h1
  · have hlen := inB_true h1
    have H1 := Lib.hid h1
    go_enter Tryd.func29, Tryd.ntmps29
    go_wp2_with (go_at_call 19; refine (l01In_any _ _ _ _).mono ?_; rintro e w' ⟨rfl, rfl⟩)
    go_loop [3, 12] (fun n i => ∃ k : Nat, k ≤ xs.length ∧ i = .int .i64 k ∧ n = .int .i64 (prodUp xs k) ∧ radSoFar xs k) (fun _ i => xs.length - (intOf i).toNat)
    case atStart => exact ⟨0, Nat.zero_le _, rfl, rfl, rfl, by simp [prodUp, prodI], by simp [prodUp, prodI]⟩
    case round =>
      obtain ⟨k, hk, rfl, rfl, hS⟩ := hrel
      by_cases hlt : k < xs.length
      · obtain ⟨ad, x, rfl, hx, hc⟩ := HR.out.at_ hlt
        have HP := Lib.hid (prodUp_succ hx.out)
        have HA := Lib.hid (allB_take_succ xs 2 60 k x hx.out)
        rcases Bool.eq_false_or_eq_true (inB x 2 60) with h | h
        · have bx := inB_true h
          have b1 := hS.2
          have b2 : prodUp xs k * x ≤ 1000000000000 * 60 := Int.mul_le_mul b1.2 bx.2 (by omega) (by omega)
          have b3 : 1 * 1 ≤ prodUp xs k * x := Int.mul_le_mul b1.1 (by omega) (by omega) (by omega)
          have HS := Lib.hid hS
          obtain ⟨n, hn⟩ : ∃ n, prodUp xs k = n := ⟨_, rfl⟩
          rw [hn] at b1 b2 b3 HP
          rw [hn]
          clear hn hS
          by_cases hbig : n * x ≤ 1000000000000
          · go_wp2_with (go_at_call 19; refine (l01In_any _ _ _ _).mono ?_; rintro e w' ⟨rfl, rfl⟩)
            go_round
            case rel => exact ⟨k + 1, by omega, by go_num, by rw [HP.out], by rw [HA.out, HS.out.1, h]; rfl, by rw [HP.out]; omega, by rw [HP.out]; omega⟩
            case measure => simp [intOf]; omega
          · have HF : Hid (radB xs = false) := radB_big (k := k + 1) (by rw [HP.out]; omega)
            go_wp2_with (go_at_call 19; refine (l01In_any _ _ _ _).mono ?_; rintro e w' ⟨rfl, rfl⟩)
            go_ret
            exact ⟨ret_bool HF.out.symm, rfl⟩
        · have HF : Hid (radB xs = false) := by unfold Hid; simp [radB, allB_not hx.out h]
          go_wp2_with (go_at_call 19; refine (l01In_any _ _ _ _).mono ?_; rintro e w' ⟨rfl, rfl⟩)
          go_ret
          exact ⟨ret_bool HF.out.symm, rfl⟩
      · have hkl : k = xs.length := by omega
        subst hkl
        have HT : Hid (radB xs = true) := by
          have h2 := hS.1
          have h3 := hS.2.2
          rw [List.take_length] at h2
          rw [prodUp_all] at h3
          unfold Hid
          simp [radB, H1.out, h2, h3]
        go_wp2
        go_ret
        exact ⟨ret_bool HT.out.symm, rfl⟩
  · go_enter Tryd.func29, Tryd.ntmps29
    go_wp2_with (go_at_call 19; refine (l01In_any _ _ _ _).mono ?_; rintro e w' ⟨rfl, rfl⟩)
    go_ret
    exact ⟨ret_bool (by simp [radB, h1]), rfl⟩

def rangeR (xs : List Int) : Int := if radB xs then prodI xs else 0
theorem iRangeOf_any (A : Option Addr) (c : Nat) (xs : List Int) (w : World) (hr : Rd w A xs) (hl : xs.length ≤ 1099511627776) :
    Calls Tryd.prog 42 #[.slice A xs.length c] w fun e w' => e = .returned (.int .i64 (rangeR xs)) ∧ Below w.heap.size w w' := by
  rcases Bool.eq_false_or_eq_true (radB xs) with h | h
  · obtain ⟨_, h2, h3, _, _⟩ := radB_parts h
    go_enter Tryd.func42, Tryd.ntmps42
    go_wp2_with fail
    refine (iRadicesOk_any _ _ _ _ hr hl).mono ?_
    rintro e w1 ⟨rfl, B1⟩
    have R1 := hr.below B1
    go_wp2_with fail
    refine (product_any _ _ _ _ R1 hl (prodIn_60 h2 h3)).mono ?_
    rintro e w' ⟨rfl, rfl⟩
    go_wp2
    go_ret
    exact ⟨ret_int (by simp [rangeR, h]), B1⟩
  · go_enter Tryd.func42, Tryd.ntmps42
    go_wp2_with fail
    refine (iRadicesOk_any _ _ _ _ hr hl).mono ?_
    rintro e w1 ⟨rfl, B1⟩
    go_wp2
    go_ret
    exact ⟨ret_int (by simp [rangeR, h]), B1⟩

def mixOkB (ds rs : List Int) : Bool := radB rs && isMixB ds rs
theorem iMixedOk_any (A B : Option Addr) (c c' : Nat) (ds rs : List Int) (w : World) (ha : Rd w A ds) (hb : Rd w B rs) (hl : ds.length ≤ 1099511627776) (hl' : rs.length ≤ 1099511627776) :
    Calls Tryd.prog 34 #[.slice A ds.length c, .slice B rs.length c'] w fun e w' => e = .returned (.bool (mixOkB ds rs)) ∧ Below w.heap.size w w' := by
  rcases Bool.eq_false_or_eq_true (radB rs) with h | h
  · obtain ⟨_, h2, h3, _, _⟩ := radB_parts h
    go_enter Tryd.func34, Tryd.ntmps34
    go_wp2_with fail
    refine (iRadicesOk_any _ _ _ _ hb hl').mono ?_
    rintro e w1 ⟨rfl, B1⟩
    have R1 := ha.below B1
    have R2 := hb.below B1
    go_wp2_with fail
    refine (isMixed_any _ _ _ _ _ _ _ R1 R2 hl hl' (fun x hx => by have := h3 x hx; omega)).mono ?_
    rintro e w' ⟨rfl, rfl⟩
    go_wp2
    go_ret
    exact ⟨ret_bool (by simp [mixOkB, h]), B1⟩
  · go_enter Tryd.func34, Tryd.ntmps34
    go_wp2_with fail
    refine (iRadicesOk_any _ _ _ _ hb hl').mono ?_
    rintro e w1 ⟨rfl, B1⟩
    go_wp2
    go_ret
    exact ⟨ret_bool (by simp [mixOkB, h]), B1⟩

/-- The mixed digits of a number. -/
def mdL : Int → List Int → List Int
  | _, [] => []
  | n, r :: rs => n % r :: mdL (n / r) rs
theorem mdL_len (n : Int) (rs : List Int) : (mdL n rs).length = rs.length := by
  induction rs generalizing n with
  | nil => rfl
  | cons r rs ih => simp [mdL, ih]
theorem mdL_step {rs : List Int} {k : Nat} {r : Int} (hr : rs[k]? = some r) (n : Int) : mdL n (rs.drop k) = n % r :: mdL (n / r) (rs.drop (k + 1)) := by
  obtain ⟨h2, rfl⟩ := List.getElem?_eq_some_iff.1 hr
  rw [List.drop_eq_getElem_cons h2]
  rfl
def mixDR (n : Int) (rs : List Int) : List Int := if radB rs && inB n 0 (prodI rs - 1) then mdL n rs else []
theorem mixDR_len (n : Int) (rs : List Int) : (mixDR n rs).length ≤ 10 := by
  unfold mixDR
  rcases Bool.eq_false_or_eq_true (radB rs && inB n 0 (prodI rs - 1)) with h | h
  · rw [if_pos h, mdL_len]
    rw [Bool.and_eq_true] at h
    exact (radB_parts h.1).2.1
  · rw [h]; simp


set_option maxHeartbeats 1600000 in
theorem mixed_any (B : Option Addr) (c' : Nat) (N : Int) (rs : List Int) (w : World) (hb : Rd w B rs) (hl' : rs.length ≤ 1048576) (hrs : ∀ x ∈ rs, (2 : Int) ≤ x ∧ x ≤ 60) (h0 : 0 ≤ N) (h1 : N ≤ 1000000000000) :
    Calls Tryd.prog 43 #[.int .i64 N, .slice B rs.length c'] w fun e w' => ∃ A c, e = .returned (.slice A rs.length c) ∧ Ow w' w.heap.size (.slice A rs.length c) (mdL N rs) ∧ Below w.heap.size w w' := by
  have HB := Lib.hid hb
  have HX := Lib.hid hrs
  clear hb hrs
  go_enter Tryd.func43, Tryd.ntmps43
  go_wp2
  go_loopw [0, 5, 10] (fun n v i wr => ∃ (k : Nat) (m : Int) (T : List Int), k ≤ rs.length ∧ i = .int .i64 k ∧ n = .int .i64 m ∧ 0 ≤ m ∧ m ≤ 1000000000000 ∧ Ap wr w.heap.size v T ∧ T.length = k ∧ Hid (mdL N rs = T ++ mdL m (rs.drop k)) ∧ Below w.heap.size w wr) (fun _ _ i _ => rs.length - (intOf i).toNat)
  case atStart => exact ⟨0, N, [], Nat.zero_le _, rfl, rfl, h0, h1, Ap.nil_ _ _, rfl, (by simp : mdL N rs = [] ++ mdL N (rs.drop 0)), Below.refl _ _⟩
  case round =>
    obtain ⟨k, m, T, hk, rfl, rfl, m0, m1, hO, hT, HD, hB⟩ := hrel
    have hs := hB.size
    by_cases hlt : k < rs.length
    · obtain ⟨bd, y, rfl, hy, hd⟩ := (HB.out.below hB).at_ hlt
      have by_ := HX.out y (List.mem_of_getElem? hy.out)
      have hL : T.length < 1099511627776 := by omega
      have HS := Lib.hid (mdL_step hy.out m)
      have q0 : 0 ≤ m % y := Int.emod_nonneg _ (by omega)
      have q1 : 0 ≤ m / y := Int.ediv_nonneg m0 (by omega)
      have q2 : m / y ≤ m := Int.ediv_le_self _ m0
      have HT := Lib.hid hT
      clear hT
      go_wp2_with (at_builtin; refine wpList_app1 hO hL hs rfl _ _ 26 rfl rfl rfl rfl ?_; intro v' w' O' B')
      go_roundw
      case rel =>
        refine ⟨k + 1, m / y, T ++ [m % y], by omega, by go_num, by go_num, q1, by omega, O', by simp [HT.out], ?_, hB.trans B'⟩
        unfold Hid
        rw [HD.out, HS.out]
        simp
      case measure => simp [intOf]; omega
    · have hkl : k = rs.length := by omega
      obtain ⟨A, c, rfl⟩ := hO.form
      have HK := Lib.hid hkl
      have HT := Lib.hid hT
      clear hkl hT
      go_wp2
      go_ret
      have e1 : mdL N rs = T := by
        have := HD.out
        rw [HK.out, List.drop_length] at this
        simpa [mdL] using this
      have e2 : T.length = rs.length := by rw [HT.out, HK.out]
      exact ⟨A, c, by rw [← e2]; rfl, by rw [e1, ← e2]; exact hO.ow, hB⟩


theorem iMixedDigits_any (B : Option Addr) (c' : Nat) (N : Int) (rs : List Int) (w : World) (hb : Rd w B rs) (hl' : rs.length ≤ 1048576) :
    Calls Tryd.prog 32 #[.int .i64 N, .slice B rs.length c'] w fun e w' => ∃ A c, e = .returned (.slice A (mixDR N rs).length c) ∧ Ow w' w.heap.size (.slice A (mixDR N rs).length c) (mixDR N rs) ∧ Below w.heap.size w w' := by
  rcases Bool.eq_false_or_eq_true (inB N 0 (rangeR rs - 1)) with h | h
  · have hb2 := inB_true h
    have hrad : radB rs = true := by
      rcases Bool.eq_false_or_eq_true (radB rs) with h' | h'
      · exact h'
      · have e : rangeR rs = 0 := by simp [rangeR, h']
        rw [e] at hb2
        omega
    obtain ⟨r1, r2, r3, r4, r5⟩ := radB_parts hrad
    have er : rangeR rs = prodI rs := by simp [rangeR, hrad]
    have HM : Hid (mixDR N rs = mdL N rs) := by
      unfold Hid mixDR
      rw [er] at h
      rw [hrad, h]
      rfl
    have b5 : rangeR rs ≤ 1000000000000 ∧ 1 ≤ rangeR rs := by rw [er]; omega
    clear er
    go_enter Tryd.func32, Tryd.ntmps32
    go_wp2_with fail
    refine (iRangeOf_any _ _ _ _ hb (by omega)).mono ?_
    rintro e w1 ⟨rfl, B1⟩
    have R1 := hb.below B1
    go_wp2_with fail
    refine (within_any _ _ _ _).mono ?_
    rintro e w' ⟨rfl, rfl⟩
    go_wp2_with fail
    refine (mixed_any _ _ _ _ _ R1 hl' r3 (by omega) (by omega)).mono ?_
    rintro e w2 ⟨A, c, rfl, O2, B2⟩
    go_wp2
    go_ret
    exact ⟨A, c, by rw [HM.out, mdL_len]; rfl, by rw [HM.out, mdL_len]; exact O2.more B1.size, B1.trans (B2.mono B1.size)⟩
  · have HM : Hid (mixDR N rs = []) := by
      unfold Hid mixDR
      rcases Bool.eq_false_or_eq_true (radB rs) with h' | h'
      · have er : rangeR rs = prodI rs := by simp [rangeR, h']
        rw [er] at h
        rw [h', h]
        rfl
      · rw [h']; rfl
    have b5 : 0 ≤ rangeR rs ∧ rangeR rs ≤ 1000000000000 := by
      unfold rangeR
      rcases Bool.eq_false_or_eq_true (radB rs) with h' | h'
      · obtain ⟨_, _, _, r4, r5⟩ := radB_parts h'
        rw [if_pos h']; omega
      · rw [h']; simp
    go_enter Tryd.func32, Tryd.ntmps32
    go_wp2_with fail
    refine (iRangeOf_any _ _ _ _ hb (by omega)).mono ?_
    rintro e w1 ⟨rfl, B1⟩
    go_wp2_with fail
    refine (within_any _ _ _ _).mono ?_
    rintro e w' ⟨rfl, rfl⟩
    go_wp2
    go_ret
    exact ⟨none, 0, by rw [HM.out]; rfl, by rw [HM.out]; exact Ow.nil_ _ _, B1⟩

end Go.Proofs.YthnpobbpmgjhjaaDoor
