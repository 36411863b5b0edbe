/-
  WALK: slices.Reverse at a slice of ints of the call's own. No statement of the seat is proved here.
-/
import Derived.Test.YtepjmlcleggnnaaReg
namespace Go.Proofs.Ytepjmlcleggnnaa
open Go.RowKit

theorem only_drew {a w : World} {row : Option Nat} (h : a.grownBy w row) : a.grownBy w.drew row := ⟨h.os, h.tape, h.output, h.size, h.block⟩
/-- The first k and the last k numbers are exchanged. -/
def RevTo (xs ys : List Int) (k : Nat) : Prop := ys.length = xs.length ∧ ∀ t, t < xs.length → ys[t]? = if t < k ∨ xs.length - 1 - k < t then xs[xs.length - 1 - t]? else xs[t]?
theorem RevTo.start (xs : List Int) : RevTo xs xs 0 := ⟨rfl, fun t ht => by rw [if_neg (by omega)]⟩
theorem RevTo.step {xs ys : List Int} {k : Nat} {a b : Int} (h : RevTo xs ys k) (hk : k < xs.length - 1 - k) (ha : ys[k]? = some a) (hb : ys[xs.length - 1 - k]? = some b) :
    RevTo xs ((ys.set k b).set (xs.length - 1 - k) a) (k + 1) := by
  obtain ⟨hl, h⟩ := h
  refine ⟨by simp [hl], fun t ht => ?_⟩
  have ea := h k (by omega)
  rw [if_neg (by omega), ha] at ea
  have eb := h (xs.length - 1 - k) (by omega)
  rw [if_neg (by omega), hb] at eb
  rw [List.getElem?_set]
  by_cases e1 : xs.length - 1 - k = t
  · rw [if_pos e1, if_pos (by simp [hl]; omega), if_pos (by omega), ← e1, show xs.length - 1 - (xs.length - 1 - k) = k by omega]
    exact ea
  · rw [if_neg e1, List.getElem?_set]
    by_cases e2 : k = t
    · rw [if_pos e2, if_pos (by omega), if_pos (by omega), ← e2]
      exact eb
    · rw [if_neg e2, h t ht]
      by_cases e3 : t < k ∨ xs.length - 1 - k < t
      · rw [if_pos e3, if_pos (by omega)]
      · rw [if_neg e3, if_neg (by omega)]
theorem RevTo.done {xs ys : List Int} {k : Nat} (h : RevTo xs ys k) (hk : xs.length - 1 - k ≤ k) : ys = xs.reverse := by
  obtain ⟨hl, h⟩ := h
  apply List.ext_getElem?
  intro t
  by_cases ht : t < xs.length
  · rw [h t ht, List.getElem?_reverse ht]
    by_cases e : t < k ∨ xs.length - 1 - k < t
    · rw [if_pos e]
    · rw [if_neg e, show xs.length - 1 - t = t by omega]
  · rw [List.getElem?_eq_none (by omega), List.getElem?_eq_none (by simp; omega)]

set_option maxHeartbeats 1600000 in
theorem reverse_any (A : Option Addr) (c n base : Nat) (xs : List Int) (w : World) (ho : Ow w base (.slice A n c) xs) (hn : xs.length = n) (hl : n ≤ 1048576) :
    Calls Try.prog 55 #[.slice A n c] w fun e w' => (∃ v, e = .returned v) ∧ Ow w' base (.slice A n c) xs.reverse ∧ w.grownBy w' (Value.slice A n c).ownBlock := by
  subst hn
  go_enter Try.func55, Try.ntmps55
  go_wp2
  go_loopw [2, 3] (fun i j wr => ∃ (k : Nat) (ys : List Int), i = .int .i64 k ∧ j = .int .i64 ((xs.length : Int) - 1 - k) ∧ k ≤ xs.length ∧ RevTo xs ys k ∧ Ow wr base (.slice A xs.length c) ys ∧ w.grownBy wr (Value.slice A xs.length c).ownBlock) (fun i _ _ => xs.length - (intOf i).toNat)
  case atStart => exact ⟨0, xs, rfl, by simp, Nat.zero_le _, RevTo.start xs, ho, World.grownBy.refl _ _⟩
  case round =>
    obtain ⟨k, ys, rfl, rfl, hk, hR, hO, hG⟩ := hrel
    by_cases hlt : (k : Int) < (xs.length : Int) - 1 - k
    · have hly := hR.1
      obtain ⟨m, hm⟩ : ∃ m : Nat, m = xs.length - 1 - k := ⟨_, rfl⟩
      have em : (xs.length : Int) - 1 - k = (m : Int) := by omega
      obtain ⟨g, a, rfl, ha, hca, hfa, hsta⟩ := hO.at_ (k := k) (by omega)
      obtain ⟨g', b, eg, hb, hcb, hfb, hstb⟩ := hO.at_ (k := m) (by omega)
      obtain rfl : g = g' := by cases eg; rfl
      have h1 := hsta b
      obtain ⟨g2, y2, eg2, hy2, hc2, hf2, hst2⟩ := h1.1.at_ (k := m) (by rw [List.length_set]; omega)
      obtain rfl : g = g2 := by cases eg2; rfl
      have H2 := Lib.hid (hst2 a)
      have H1 := Lib.hid h1.2
      have HS := Lib.hid (hR.step (k := k) (by omega) ha.out (by rw [← hm]; exact hb.out))
      have HM := Lib.hid hm
      have HG := Lib.hid hG
      rw [em]
      have c0 : (0 : Int) ≤ k := by omega
      have c1 : (k : Int) < xs.length := by omega
      have c2 : (0 : Int) ≤ m := by omega
      have c3 : (m : Int) < xs.length := by omega
      have c4 : (k : Int) < m := by omega
      clear hst2 h1 hsta hstb eg eg2 hO hR ha hb hy2 hG ho hlt hm em
      go_wp2_with fail
      go_region
      go_wp2
      go_roundw
      case rel =>
        have e := HM.out
        refine ⟨k + 1, _, by go_num, by rw [show ((k + 1 : Nat) : Int) = (k : Int) + 1 by omega]; go_num, by omega, HS.out, ?_, ?_⟩
        · rw [← e]
          exact H2.out.1
        · exact only_drew (grown_trans HG.out (grown_trans H1.out H2.out.2))
      case measure => have e := HM.out; simp [intOf]; omega
    · have HD := Lib.hid (hR.done (by omega))
      have HO : Hid (Ow wr base (.slice A xs.length c) xs.reverse) := by unfold Hid; rw [← HD.out]; exact hO
      clear hO
      go_wp2
      go_end0
      exact ⟨⟨_, rfl⟩, HO.out, hG⟩
end Go.Proofs.Ytepjmlcleggnnaa
