/-
  WALKS: RingSteps, CountDifferent (both packages) and the two laws over them.
-/
import Derived.Test.YthnpobbpmgjhjaaDoorG1
namespace Go.Proofs.YthnpobbpmgjhjaaDoor
open Go.RowKit

def ringR (s k : Int) : Int := if inB k 1 16 && inB s 0 (2 ^ k.toNat - 1) then ((FG 0 s.toNat : Nat) : Int) else -1
theorem pow_le16 (k : Nat) (h : k ≤ 16) : (2 : Int) ^ k ≤ 65536 ∧ 1 ≤ (2 : Int) ^ k := by
  have h1 : 2 ^ k ≤ 2 ^ 16 := Nat.pow_le_pow_right (by omega) h
  have h2 : 1 ≤ 2 ^ k := Nat.one_le_two_pow
  have e : ((2 ^ k : Nat) : Int) = (2 : Int) ^ k := by simp
  rw [← e]
  omega


set_option maxHeartbeats 400000 in
theorem iRing_any (s k : Int) (w : World) :
    Calls Tryd.prog 17 #[.int .i64 s, .int .i64 k] w fun e w' => e = .returned (.int .i64 (ringR s k)) ∧ w = w' := by
  rcases Bool.eq_false_or_eq_true (inB k 1 16) with h | h
  · obtain ⟨b1, b2⟩ := inB_true h
    obtain ⟨m, rfl⟩ := Int.eq_ofNat_of_zero_le (show 0 ≤ k by omega)
    obtain ⟨p1, p2⟩ := pow_le16 m (by omega)
    rcases Bool.eq_false_or_eq_true (inB s 0 (2 ^ m - 1)) with h' | h'
    · obtain ⟨b3, b4⟩ := inB_true h'
      obtain ⟨q, rfl⟩ := Int.eq_ofNat_of_zero_le b3
      go_enter Tryd.func17, Tryd.ntmps17
      go_wp2_with (first
        | (go_at_call 21; refine (within_any _ _ _ _).mono ?_; rintro e w' ⟨rfl, rfl⟩)
        | (go_at_call 27; refine (fromGray_any _ _ (by omega)).mono ?_; rintro e w' ⟨rfl, rfl⟩))
      go_ret
      exact ⟨ret_int (by simp [ringR, h, h']), rfl⟩
    · go_enter Tryd.func17, Tryd.ntmps17
      go_wp2_with (go_at_call 21; refine (within_any _ _ _ _).mono ?_; rintro e w' ⟨rfl, rfl⟩)
      go_ret
      exact ⟨ret_int (by simp [ringR, h']), rfl⟩
  · go_enter Tryd.func17, Tryd.ntmps17
    go_wp2_with (go_at_call 21; refine (within_any _ _ _ _).mono ?_; rintro e w' ⟨rfl, rfl⟩)
    go_ret
    exact ⟨ret_int (by simp [ringR, h]), rfl⟩


/-- At how many places two lists differ. -/
def cdiff (xs ys : List Int) (k : Nat) : Nat := ((List.range k).filter fun i => xs[i]? != ys[i]?).length
theorem cdiff_zero (xs ys : List Int) : cdiff xs ys 0 = 0 := rfl
theorem cdiff_succ (xs ys : List Int) (k : Nat) : cdiff xs ys (k + 1) = cdiff xs ys k + if xs[k]? = ys[k]? then 0 else 1 := by
  unfold cdiff
  rw [List.range_succ, List.filter_append, List.length_append]
  by_cases h : xs[k]? = ys[k]? <;> simp [h]
theorem cdiff_le (xs ys : List Int) (k : Nat) : cdiff xs ys k ≤ k := by
  unfold cdiff
  have := List.length_filter_le (fun i => xs[i]? != ys[i]?) (List.range k)
  simpa using this
def countR (xs ys : List Int) : Int := if xs.length = ys.length then (cdiff xs ys xs.length : Nat) else -1


set_option maxHeartbeats 800000 in
theorem iCount_any (A B : Option Addr) (c c' : Nat) (xs ys : List Int) (w : World) (ha : Rd w A xs) (hb : Rd w B ys) (hl : xs.length ≤ 1099511627776) (hl' : ys.length ≤ 1099511627776) :
    Calls Tryd.prog 14 #[.slice A xs.length c, .slice B ys.length c'] w fun e w' => e = .returned (.int .i64 (countR xs ys)) ∧ w = w' := by
  have HA := Lib.hid ha
  have HB := Lib.hid hb
  clear ha hb
  by_cases hne : xs.length = ys.length
  · have HN := Lib.hid hne
    have e1 : ((xs.length : Int) != ys.length) = false := by simp; omega
    clear hne
    go_enter Tryd.func14, Tryd.ntmps14
    go_wp2
    go_loop [5, 15] (fun q i => ∃ k : Nat, k ≤ xs.length ∧ i = .int .i64 k ∧ q = .int .i64 (cdiff xs ys k : Nat)) (fun _ i => xs.length - (intOf i).toNat)
    case atStart => exact ⟨0, Nat.zero_le _, rfl, rfl⟩
    case round =>
      obtain ⟨k, hk, rfl, rfl⟩ := hrel
      by_cases hlt : k < xs.length
      · have hlt' : (k : Int) < ys.length := by have := HN.out; omega
        obtain ⟨ad, x, rfl, hx, hc⟩ := HA.out.at_ hlt
        obtain ⟨bd, y, rfl, hy, hd⟩ := HB.out.at_ (k := k) (by omega)
        have hq := cdiff_le xs ys k
        have HS := Lib.hid (cdiff_succ xs ys k)
        have HE : Hid ((xs[k]? = ys[k]?) = (x = y)) := by unfold Hid; rw [hx.out, hy.out]; simp
        clear hx hy
        by_cases hxy : x = y
        · have t1 : (x != y) = false := by simp [hxy]
          have HXY := Lib.hid hxy
          clear hxy
          go_wp2
          go_round
          case rel => exact ⟨k + 1, by omega, by go_num, by rw [HS.out, if_pos (by rw [HE.out]; exact HXY.out)]; go_num⟩
          case measure => simp [intOf]; omega
        · have t1 : (x != y) = true := by simp [hxy]
          go_wp2
          go_round
          case rel => exact ⟨k + 1, by omega, by go_num, by rw [HS.out, if_neg (by rw [HE.out]; exact hxy)]; go_num⟩
          case measure => simp [intOf]; omega
      · have hkl : k = xs.length := by omega
        subst hkl
        go_wp2
        go_ret
        exact ⟨ret_int (by simp [countR, HN.out]), rfl⟩
  · have e1 : ((xs.length : Int) != ys.length) = true := by simp; omega
    go_enter Tryd.func14, Tryd.ntmps14
    go_wp2
    go_ret
    exact ⟨ret_int (by simp [countR, hne]), rfl⟩


end Go.Proofs.YthnpobbpmgjhjaaDoor
