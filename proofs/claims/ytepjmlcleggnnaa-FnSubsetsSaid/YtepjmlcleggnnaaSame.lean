/-
  WALKS: same, sum and zeros of the package of the laws. No statement of the seat is proved here.
-/
import Derived.Test.YtepjmlcleggnnaaW3
namespace Go.Proofs.Ytepjmlcleggnnaa
open Go.RowKit

/-- The first k numbers of two lists are the same. -/
def sameQ (xs ys : List Int) (k : Nat) : Prop := ∀ i : Nat, i < k → xs[i]? = ys[i]?
theorem sameQ.step {xs ys : List Int} {k : Nat} {x : Int} (h : sameQ xs ys k) (hx : xs[k]? = some x) (hy : ys[k]? = some x) : sameQ xs ys (k + 1) := fun i hi => by
  by_cases e : i = k
  · rw [e, hx, hy]
  · exact h i (by omega)
theorem sameQ_end {xs ys : List Int} (h : sameQ xs ys xs.length) (hl : xs.length = ys.length) : (xs == ys) = true := by
  rw [beq_iff_eq]
  apply List.ext_getElem?
  intro i
  by_cases e : i < xs.length
  · exact h i e
  · rw [List.getElem?_eq_none (by omega), List.getElem?_eq_none (by omega)]
theorem sameQ_not {xs ys : List Int} {k : Nat} {x y : Int} (hx : xs[k]? = some x) (hy : ys[k]? = some y) (h : ¬ x = y) : (xs == ys) = false := by
  rw [beq_eq_false_iff_ne]
  rintro rfl
  rw [hx] at hy
  exact h (Option.some.inj hy)
theorem sameQ_len {xs ys : List Int} (h : ¬ xs.length = ys.length) : (xs == ys) = false := by
  rw [beq_eq_false_iff_ne]
  rintro rfl
  exact h rfl

set_option maxHeartbeats 1600000 in
theorem lsame_any (A : Option Addr) (c : Nat) (xs : List Int) (B : Option Addr) (d : Nat) (ys : List Int) (w : World) (ha : Rd w A xs) (hb : Rd w B ys) (hl : xs.length ≤ 1099511627776) :
    Calls Try.prog 38 #[.slice A xs.length c, .slice B ys.length d] w fun e w' => e = .returned (.bool (xs == ys)) ∧ Below w.heap.size w w' := by
  by_cases hlen : xs.length = ys.length
  · have tl : ((xs.length : Int) != (ys.length : Int)) = false := by simp; omega
    have RA := Lib.hid ha
    have RB := Lib.hid hb
    have HL := Lib.hid hlen
    clear ha hb hlen
    go_enter Try.func38, Try.ntmps38
    go_wp2
    go_loopw [14] (fun i wr => ∃ k n : Nat, k ≤ xs.length ∧ i = .int .i64 k ∧ wr = w.drewN n ∧ sameQ xs ys k) (fun i _ => xs.length - (intOf i).toNat)
    case atStart => exact ⟨0, 0, Nat.zero_le _, rfl, rfl, fun i hi => absurd hi (by omega)⟩
    case round =>
      obtain ⟨k, n, hk, rfl, rfl, hS⟩ := hrel
      have eL := HL.out
      by_cases hlt : k < xs.length
      · obtain ⟨ad, x, rfl, hx, hc⟩ := RA.out.at_ hlt
        obtain ⟨ad2, y, rfl, hy, hc2⟩ := RB.out.at_ (k := k) (by omega)
        have c1 : (k : Int) < ys.length := by omega
        have c2 : (k : Int) < xs.length := by omega
        have c0 : (0 : Int) ≤ k := by omega
        clear eL
        by_cases e : x = y
        · subst e
          go_wp2
          go_roundw
          case rel => exact ⟨k + 1, _, by omega, by go_num, rfl, hS.step hx.out hy.out⟩
          case measure => simp [intOf]; omega
        · have tx : (x != y) = true := by simp [e]
          have HF := Lib.hid (sameQ_not hx.out hy.out e)
          clear e
          go_wp2
          go_ret
          exact ⟨ret_bool HF.out.symm, below_drewN (Below.refl _ _) n⟩
      · have hkl : k = xs.length := by omega
        subst hkl
        have HE := Lib.hid (sameQ_end hS eL)
        clear eL
        go_wp2
        go_ret
        exact ⟨ret_bool HE.out.symm, below_drewN (Below.refl _ _) n⟩
  · have tl : ((xs.length : Int) != (ys.length : Int)) = true := by simp; omega
    have HF := Lib.hid (sameQ_len hlen)
    clear hlen
    go_enter Try.func38, Try.ntmps38
    go_wp2
    go_ret
    exact ⟨ret_bool HF.out.symm, Below.refl _ _⟩


end Go.Proofs.Ytepjmlcleggnnaa
