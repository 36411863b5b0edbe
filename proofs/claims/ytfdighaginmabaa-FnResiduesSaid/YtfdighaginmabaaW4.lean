/-
  WALKS: allWithin, its closure, slices.ContainsFunc and slices.IndexFunc at it. No statement of the seat is proved here.
-/
import Derived.Test.YtfdighaginmabaaW2
namespace Go.Proofs.Ytfdighaginmabaa
open Go.RowKit

/-- All numbers of a list lie between lo and hi. -/
def allB (xs : List Int) (lo hi : Int) : Bool := xs.all fun x => inB x lo hi
theorem allB_true {xs : List Int} {lo hi : Int} (h : allB xs lo hi = true) : ∀ x ∈ xs, lo ≤ x ∧ x ≤ hi := fun x hx => inB_true (by simpa [allB] using (List.all_eq_true.1 h) x hx)
theorem allB_of {xs : List Int} {lo hi : Int} (h : ∀ x ∈ xs, lo ≤ x ∧ x ≤ hi) : allB xs lo hi = true := List.all_eq_true.2 fun x hx => inB_of (h x hx)
theorem allB_take_succ (xs : List Int) (lo hi : Int) (k : Nat) (x : Int) (hx : xs[k]? = some x) : allB (xs.take (k + 1)) lo hi = (allB (xs.take k) lo hi && inB x lo hi) := by
  unfold allB
  rw [List.take_add_one, hx]
  simp
theorem allB_not {xs : List Int} {lo hi : Int} {k : Nat} {x : Int} (hx : xs[k]? = some x) (h : inB x lo hi = false) : allB xs lo hi = false := by
  unfold allB
  rw [List.all_eq_false]
  exact ⟨x, List.mem_of_getElem? hx, by simp [h]⟩

theorem allWithin1_any (x lo hi : Int) (b1 b2 : Nat) (w : World) (h1 : w.cell? ⟨b1, 0, none⟩ = some (.int .i64 lo)) (h2 : w.cell? ⟨b2, 0, none⟩ = some (.int .i64 hi)) :
    Calls Try.prog 73 #[.int .i64 x, .pointer (some ⟨b1, 0, none⟩), .pointer (some ⟨b2, 0, none⟩)] w fun e w' => e = .returned (.bool (!inB x lo hi)) ∧ w = w' := by
  go_enter Try.func73, Try.ntmps73
  go_wp2_with (go_at_call 47; refine (within_any _ _ _ _).mono ?_; rintro e w' ⟨rfl, rfl⟩)
  go_ret
  exact ⟨rfl, rfl⟩

/-- r: -1 where all lie between lo and hi, else an index. -/
def Idx (xs : List Int) (lo hi : Int) (r : Int) : Prop := -1 ≤ r ∧ r ≤ 1099511627776 ∧ decide (0 ≤ r) = !(allB xs lo hi)

set_option maxHeartbeats 800000 in
theorem indexFunc_any (A : Option Addr) (c : Nat) (xs : List Int) (lo hi : Int) (b1 b2 : Nat) (w : World) (hr : Rd w A xs) (hl : xs.length ≤ 1099511627776)
    (h1 : w.cell? ⟨b1, 0, none⟩ = some (.int .i64 lo)) (h2 : w.cell? ⟨b2, 0, none⟩ = some (.int .i64 hi)) :
    Calls Try.prog 74 #[.slice A xs.length c, .func (.func 73) #[] #[.pointer (some ⟨b1, 0, none⟩), .pointer (some ⟨b2, 0, none⟩)]] w fun e w' =>
      ∃ r, e = .returned (.int .i64 r) ∧ Idx xs lo hi r ∧ w = w' := by
  have HR := Lib.hid hr
  clear hr
  go_enter Try.func74, Try.ntmps74
  go_wp2
  go_loop [8] (fun i => ∃ k : Nat, k ≤ xs.length ∧ i = .int .i64 k ∧ Hid (allB (xs.take k) lo hi = true)) (fun i => xs.length - (intOf i).toNat)
  case atStart => exact ⟨0, Nat.zero_le _, rfl, (rfl : allB (xs.take 0) lo hi = true)⟩
  case round =>
    obtain ⟨k, hk, rfl, hall⟩ := hrel
    by_cases hlt : k < xs.length
    · obtain ⟨ad, x, rfl, hx, hc⟩ := HR.out.at_ hlt
      rcases Bool.eq_false_or_eq_true (inB x lo hi) with h | h
      · go_wp2_with (go_at_call 73; refine (allWithin1_any _ _ _ _ _ _ h1 h2).mono ?_; rintro e w' ⟨rfl, rfl⟩)
        go_round
        case rel => exact ⟨k + 1, by omega, by go_num, by unfold Hid; rw [allB_take_succ _ _ _ _ _ hx.out, hall.out, h]; rfl⟩
        case measure => simp [intOf]; omega
      · go_wp2_with (go_at_call 73; refine (allWithin1_any _ _ _ _ _ _ h1 h2).mono ?_; rintro e w' ⟨rfl, rfl⟩)
        go_ret
        refine ⟨_, rfl, ⟨by omega, by omega, ?_⟩, rfl⟩
        rw [allB_not hx.out h]
        simp
    · have hkl : k = xs.length := by omega
      subst hkl
      go_wp2
      go_ret
      refine ⟨_, rfl, ⟨by omega, by omega, ?_⟩, rfl⟩
      have := hall.out
      rw [List.take_length] at this
      rw [this]
      rfl

theorem containsFunc_any (A : Option Addr) (c : Nat) (xs : List Int) (lo hi : Int) (b1 b2 : Nat) (w : World) (hr : Rd w A xs) (hl : xs.length ≤ 1099511627776)
    (h1 : w.cell? ⟨b1, 0, none⟩ = some (.int .i64 lo)) (h2 : w.cell? ⟨b2, 0, none⟩ = some (.int .i64 hi)) :
    Calls Try.prog 54 #[.slice A xs.length c, .func (.func 73) #[] #[.pointer (some ⟨b1, 0, none⟩), .pointer (some ⟨b2, 0, none⟩)]] w fun e w' =>
      e = .returned (.bool (!allB xs lo hi)) ∧ w = w' := by
  go_enter Try.func54, Try.ntmps54
  go_wp2_with fail
  refine (indexFunc_any A c xs lo hi b1 b2 w hr hl h1 h2).mono ?_
  rintro e w' ⟨r, rfl, ⟨hr1, hr2, hr3⟩, rfl⟩
  have HI := Lib.hid hr3
  clear hr3
  go_wp2
  go_ret
  exact ⟨ret_bool HI.out, rfl⟩

theorem allWithin_any (A : Option Addr) (c : Nat) (xs : List Int) (lo hi : Int) (w : World) (hr : Rd w A xs) (hl : xs.length ≤ 1099511627776) :
    Calls Try.prog 51 #[.slice A xs.length c, .int .i64 lo, .int .i64 hi] w fun e w' => e = .returned (.bool (allB xs lo hi)) ∧ Below w.heap.size w w' := by
  have hmf : ∀ (fn : Fn) (first cap : Array Value) (w : World), (Instr.makeFunc fn first cap).run Try.prog w = .ok (.func fn first cap) w := fun _ _ _ _ => rfl
  have c1 : ((w.alloc (.cells #[.int .i64 lo] 3)).alloc (.cells #[.int .i64 hi] 3)).cell? ⟨w.heap.size, 0, none⟩ = some (.int .i64 lo) := by
    rw [World.cell?_alloc_past _ _ _ (by simp), World.cell?_alloc_at _ _ _ _ rfl]; rfl
  have c2 : ((w.alloc (.cells #[.int .i64 lo] 3)).alloc (.cells #[.int .i64 hi] 3)).cell? ⟨w.heap.size + 1, 0, none⟩ = some (.int .i64 hi) := by
    rw [World.cell?_alloc_at _ _ _ _ (by simp)]; rfl
  have hr2 := (hr.alloc (.cells #[.int .i64 lo] 3)).alloc (.cells #[.int .i64 hi] 3)
  go_enter Try.func51, Try.ntmps51
  go_wp2_with fail
  refine (containsFunc_any A c xs lo hi _ _ _ hr2 hl c1 c2).mono ?_
  rintro e w' ⟨rfl, rfl⟩
  go_wp2
  go_ret
  exact ⟨ret_bool (by simp), ((Below.refl _ _).alloc (Nat.le_refl _) _).alloc (by simp) _⟩
end Go.Proofs.Ytfdighaginmabaa
