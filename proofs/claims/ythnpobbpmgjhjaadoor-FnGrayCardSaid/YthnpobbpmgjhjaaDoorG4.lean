/-
  WALKS: slices.Contains, bits.OnesCount, IsGrayCycle (both packages) and the law over it.
-/
import Derived.Test.YthnpobbpmgjhjaaDoorG3
namespace Go.Proofs.YthnpobbpmgjhjaaDoor
open Go.RowKit

def IdxOf (ys : List Int) (v r : Int) : Prop := decide (0 ≤ r) = ys.contains v
set_option maxHeartbeats 800000 in
theorem index_any (A : Option Addr) (c n : Nat) (ys : List Int) (v : Int) (w : World) (hr : Rd w A ys) (hn : ys.length = n) (hl : n ≤ 1099511627776) :
    Calls Tryd.prog 46 #[.slice A n c, .int .i64 v] w fun e w' => ∃ r, e = .returned (.int .i64 r) ∧ IdxOf ys v r ∧ w = w' := by
  subst hn
  have HR := Lib.hid hr
  clear hr
  go_enter Tryd.func46, Tryd.ntmps46
  go_wp2
  go_loop [8] (fun i => ∃ k : Nat, k ≤ ys.length ∧ i = .int .i64 k ∧ Hid (v ∉ ys.take k)) (fun i => ys.length - (intOf i).toNat)
  case atStart => exact ⟨0, Nat.zero_le _, rfl, (by simp : v ∉ ys.take 0)⟩
  case round =>
    obtain ⟨k, hk, rfl, hall⟩ := hrel
    by_cases hlt : k < ys.length
    · obtain ⟨ad, x, rfl, hx, hc⟩ := HR.out.at_ hlt
      by_cases e : v = x
      · have t1 : (v == x) = true := by simp [e]
        have HE : Hid (ys.contains v = true) := by unfold Hid; rw [List.contains_iff_mem, e]; exact List.mem_of_getElem? hx.out
        clear e
        go_wp2
        go_ret
        refine ⟨_, rfl, ?_, rfl⟩
        unfold IdxOf
        rw [HE.out]
        simp
      · have t1 : (v == x) = false := by simp [e]
        have HN : Hid (v ∉ ys.take (k + 1)) := by
          unfold Hid
          rw [List.take_add_one, hx.out]
          have := hall.out
          simp [this, e]
        clear e
        go_wp2
        go_round
        case rel => exact ⟨k + 1, by omega, by go_num, HN⟩
        case measure => simp [intOf]; omega
    · have hkl : k = ys.length := by omega
      subst hkl
      go_wp2
      go_ret
      refine ⟨_, rfl, ?_, rfl⟩
      have := hall.out
      rw [List.take_length] at this
      unfold IdxOf
      simp [this]

theorem contains_any (A : Option Addr) (c n : Nat) (ys : List Int) (v : Int) (w : World) (hr : Rd w A ys) (hn : ys.length = n) (hl : n ≤ 1099511627776) :
    Calls Tryd.prog 37 #[.slice A n c, .int .i64 v] w fun e w' => e = .returned (.bool (ys.contains v)) ∧ w = w' := by
  go_enter Tryd.func37, Tryd.ntmps37
  go_wp2_with fail
  refine (index_any _ _ _ _ _ _ hr hn hl).mono ?_
  rintro e w' ⟨r, rfl, H, rfl⟩
  go_wp2
  go_ret
  exact ⟨ret_bool H, rfl⟩

/-- n is a power of 2. -/
def onebit (n : Nat) : Bool := decide (0 < n) && (n &&& (n - 1) == 0)
def OneOf (z c : Int) : Prop := ∀ m : Nat, z = (m : Int) → m < 64 → (c == 1) = onebit m
set_option maxRecDepth 100000 in
theorem ones64_any (z : Int) (w : World) (h0 : 0 ≤ z) (h1 : z ≤ 18446744073709551615) :
    Calls Tryd.prog 48 #[.int .u64 z] w fun e w' => ∃ c, e = .returned (.int .i64 c) ∧ OneOf z c ∧ w = w' := by
  go_enter Tryd.func48, Tryd.ntmps48
  go_wp2
  go_ret
  refine ⟨_, rfl, ?_, rfl⟩
  intro m hz hm
  subst hz
  clear h0 h1
  revert m
  decide +kernel


theorem ones_any (z : Int) (w : World) (h0 : 0 ≤ z) (h1 : z ≤ 18446744073709551615) :
    Calls Tryd.prog 38 #[.int .u64 z] w fun e w' => ∃ c, e = .returned (.int .i64 c) ∧ OneOf z c ∧ w = w' := by
  go_enter Tryd.func38, Tryd.ntmps38
  go_wp2_with fail
  refine (ones64_any _ _ h0 h1).mono ?_
  rintro e w' ⟨c, rfl, H, rfl⟩
  go_wp2
  go_ret
  exact ⟨c, rfl, H, rfl⟩

theorem onebit_big (m : Nat) (h : m < 64) : onebit m = (decide (0 < m) && decide (m &&& (m - 1) = 0)) := by
  unfold onebit
  rw [Bool.eq_iff_iff]
  simp
theorem i64_and_nat (a b : Nat) (ha : a < 9223372036854775808) (hb : b < 9223372036854775808) : bits .and .i64 (a : Int) (b : Int) = ((a &&& b : Nat) : Int) := by
  have hx : a &&& b < 2 ^ 63 := Nat.and_lt_two_pow _ (by omega)
  show IntKind.i64.wrap ((BitVec.ofInt 64 (a : Int) &&& BitVec.ofInt 64 (b : Int)).toNat : Int) = _
  rw [BitVec.toNat_and, ofInt_i64 a ha, ofInt_i64 b hb, IntKind.wrap_i64]
  omega
/-- For every number: a Bool comes back; for one below 2^63, whether it is a power of 2. -/
def PowOf (z : Int) (b : Bool) : Prop := ∀ m : Nat, z = (m : Int) → m < 9223372036854775808 → b = onebit m
def SomeB (P : Bool → Prop) (w : World) (e : Ending) (w' : World) : Prop := ∃ b, e = .returned (.bool b) ∧ P b ∧ w = w'
end Go.Proofs.YthnpobbpmgjhjaaDoor
