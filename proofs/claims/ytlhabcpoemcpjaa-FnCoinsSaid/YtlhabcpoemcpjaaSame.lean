/-
  WALKS: same, sum and zeros of the package of the laws. No statement of the seat is proved here.
-/
import Derived.Test.YtlhabcpoemcpjaaW3
namespace Go.Proofs.Ytlhabcpoemcpjaa
open Go.RowKit

/-- The first k numbers of two lists are the same. -/
def sameQ (xs ys : List Int) (k : Nat) : Prop := ∀ i : Nat, i < k → xs[i]? = ys[i]?
theorem sameQ.step {xs ys : List Int} {k : Nat} {x : Int} (h : sameQ xs ys k) (hx : xs[k]? = some x) (hy : ys[k]? = some x) : sameQ xs ys (k + 1) := fun i hi => by
  by_cases e : i = k
  · rw [e, hx, hy]
  · exact h i (by omega)
theorem sameQ_end {xs ys : List Int} (h : sameQ xs ys xs.length) (hl : xs.length = ys.length) : (xs == ys) = true := by
  rw [beq_iff_eq]
  apply List.ext_getElem?
  intro i
  by_cases e : i < xs.length
  · exact h i e
  · rw [List.getElem?_eq_none (by omega), List.getElem?_eq_none (by omega)]
theorem sameQ_not {xs ys : List Int} {k : Nat} {x y : Int} (hx : xs[k]? = some x) (hy : ys[k]? = some y) (h : ¬ x = y) : (xs == ys) = false := by
  rw [beq_eq_false_iff_ne]
  rintro rfl
  rw [hx] at hy
  exact h (Option.some.inj hy)
theorem sameQ_len {xs ys : List Int} (h : ¬ xs.length = ys.length) : (xs == ys) = false := by
  rw [beq_eq_false_iff_ne]
  rintro rfl
  exact h rfl

set_option maxHeartbeats 1600000 in
theorem lsame_any (A : Option Addr) (c : Nat) (xs : List Int) (B : Option Addr) (d : Nat) (ys : List Int) (w : World) (ha : Rd w A xs) (hb : Rd w B ys) (hl : xs.length ≤ 1099511627776) :
    Calls Try.prog 38 #[.slice A xs.length c, .slice B ys.length d] w fun e w' => e = .returned (.bool (xs == ys)) ∧ Below w.heap.size w w' := by
  by_cases hlen : xs.length = ys.length
  · have tl : ((xs.length : Int) != (ys.length : Int)) = false := by simp; omega
    have RA := Lib.hid ha
    have RB := Lib.hid hb
    have HL := Lib.hid hlen
    clear ha hb hlen
    go_enter Try.func38, Try.ntmps38
    go_wp2
    go_loopw [14] (fun i wr => ∃ k n : Nat, k ≤ xs.length ∧ i = .int .i64 k ∧ wr = w.drewN n ∧ sameQ xs ys k) (fun i _ => xs.length - (intOf i).toNat)
    case atStart => exact ⟨0, 0, Nat.zero_le _, rfl, rfl, fun i hi => absurd hi (by omega)⟩
    case round =>
      obtain ⟨k, n, hk, rfl, rfl, hS⟩ := hrel
      have eL := HL.out
      by_cases hlt : k < xs.length
      · obtain ⟨ad, x, rfl, hx, hc⟩ := RA.out.at_ hlt
        obtain ⟨ad2, y, rfl, hy, hc2⟩ := RB.out.at_ (k := k) (by omega)
        have c1 : (k : Int) < ys.length := by omega
        have c2 : (k : Int) < xs.length := by omega
        have c0 : (0 : Int) ≤ k := by omega
        clear eL
        by_cases e : x = y
        · subst e
          go_wp2
          go_roundw
          case rel => exact ⟨k + 1, _, by omega, by go_num, rfl, hS.step hx.out hy.out⟩
          case measure => simp [intOf]; omega
        · have tx : (x != y) = true := by simp [e]
          have HF := Lib.hid (sameQ_not hx.out hy.out e)
          clear e
          go_wp2
          go_ret
          exact ⟨ret_bool HF.out.symm, below_drewN (Below.refl _ _) n⟩
      · have hkl : k = xs.length := by omega
        subst hkl
        have HE := Lib.hid (sameQ_end hS eL)
        clear eL
        go_wp2
        go_ret
        exact ⟨ret_bool HE.out.symm, below_drewN (Below.refl _ _) n⟩
  · have tl : ((xs.length : Int) != (ys.length : Int)) = true := by simp; omega
    have HF := Lib.hid (sameQ_len hlen)
    clear hlen
    go_enter Try.func38, Try.ntmps38
    go_wp2
    go_ret
    exact ⟨ret_bool HF.out.symm, Below.refl _ _⟩

/-- The sum of a list. -/
def sumQ : List Int → Int
  | [] => 0
  | x :: xs => x + sumQ xs
theorem sumQ_snoc (xs : List Int) (y : Int) : sumQ (xs ++ [y]) = sumQ xs + y := by
  induction xs with
  | nil => simp [sumQ]
  | cons x xs ih => simp only [List.cons_append, sumQ, ih]; omega
theorem sumQ_step {xs : List Int} {k : Nat} {x : Int} (hx : xs[k]? = some x) : sumQ (xs.take (k + 1)) = sumQ (xs.take k) + x := by
  rw [List.take_add_one, hx]
  exact sumQ_snoc _ _
theorem sumQ_bound {xs : List Int} (h : ∀ x ∈ xs, (0 : Int) ≤ x ∧ x ≤ 1000000) : 0 ≤ sumQ xs ∧ sumQ xs ≤ xs.length * 1000000 := by
  induction xs with
  | nil => simp [sumQ]
  | cons x xs ih =>
    have a := ih fun y hy => h y (by simp [hy])
    have b := h x (by simp)
    simp only [sumQ, List.length_cons]
    omega

set_option maxHeartbeats 800000 in
theorem lsum_any (A : Option Addr) (c : Nat) (xs : List Int) (w : World) (hr : Rd w A xs) (hl : xs.length ≤ 1000) (hb : ∀ x ∈ xs, (0 : Int) ≤ x ∧ x ≤ 1000000) :
    Calls Try.prog 37 #[.slice A xs.length c] w fun e w' => e = .returned (.int .i64 (sumQ xs)) ∧ w = w' := by
  have HR := Lib.hid hr
  have HX := Lib.hid hb
  have HB : Hid (∀ k, 0 ≤ sumQ (xs.take k) ∧ sumQ (xs.take k) ≤ 1000 * 1000000) := fun k => by
    have h1 := sumQ_bound (xs := xs.take k) fun x hx => hb x (List.mem_of_mem_take hx)
    have h2 : (xs.take k).length ≤ xs.length := by rw [List.length_take]; omega
    omega
  clear hr hb
  go_enter Try.func37, Try.ntmps37
  go_wp2
  go_loop [3, 8] (fun v i => ∃ k : Nat, k ≤ xs.length ∧ i = .int .i64 k ∧ v = .int .i64 (sumQ (xs.take k))) (fun _ i => xs.length - (intOf i).toNat)
  case atStart => exact ⟨0, Nat.zero_le _, rfl, rfl⟩
  case round =>
    obtain ⟨k, hk, rfl, rfl⟩ := hrel
    by_cases hlt : k < xs.length
    · obtain ⟨ad, x, rfl, hx, hc⟩ := HR.out.at_ hlt
      have b1 := HB.out k
      have b2 := HX.out x (List.mem_of_getElem? hx.out)
      have HS := Lib.hid (sumQ_step hx.out)
      obtain ⟨s, hs⟩ : ∃ s, sumQ (xs.take k) = s := ⟨_, rfl⟩
      rw [hs] at b1 HS
      rw [hs]
      clear hs hx
      go_wp2
      go_round
      case rel => exact ⟨k + 1, by omega, by go_num, by rw [HS.out]⟩
      case measure => simp [intOf]; omega
    · have hkl : k = xs.length := by omega
      subst hkl
      have HE : Hid (sumQ (xs.take xs.length) = sumQ xs) := by unfold Hid; rw [List.take_length]
      obtain ⟨s, hs⟩ : ∃ s, sumQ (xs.take xs.length) = s := ⟨_, rfl⟩
      rw [hs] at HE
      rw [hs]
      clear hs
      go_wp2
      go_ret
      exact ⟨ret_int HE.out, rfl⟩
end Go.Proofs.Ytlhabcpoemcpjaa
