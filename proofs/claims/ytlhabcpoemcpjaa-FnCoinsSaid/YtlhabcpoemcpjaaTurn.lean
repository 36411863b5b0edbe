/-
  WALK: the reference's l02Turn: a list in reverse order. No statement of the seat is proved here.
-/
import Derived.Test.YtlhabcpoemcpjaaW3
namespace Go.Proofs.Ytlhabcpoemcpjaa
open Go.RowKit

set_option maxHeartbeats 1600000 in
theorem l02Turn_any (A : Option Addr) (c n : Nat) (xs : List Int) (w : World) (hr : Rd w A xs) (hn : xs.length = n) (hl : n ≤ 1048576) :
    Calls Try.prog 56 #[.slice A n c] w fun e w' => ∃ A' c', e = .returned (.slice A' n c') ∧ Ow w' w.heap.size (.slice A' n c') xs.reverse ∧ Below w.heap.size w w' := by
  subst hn
  have HR := Lib.hid hr
  clear hr
  go_enter Try.func56, Try.ntmps56
  go_wp2
  go_loopw [3, 4] (fun v i wr => ∃ j : Nat, j ≤ xs.length ∧ i = .int .i64 ((j : Int) - 1) ∧ Ap wr w.heap.size v (xs.drop j).reverse ∧ Below w.heap.size w wr) (fun _ i _ => (intOf i + 1).toNat)
  case atStart => exact ⟨xs.length, Nat.le_refl _, rfl, by rw [List.drop_length]; exact Ap.empty _ _ (Nat.le_refl _), (Below.refl _ _).alloc (Nat.le_refl _) _⟩
  case round =>
    obtain ⟨k, hk, rfl, hO, hB⟩ := hrel
    have hs := hB.size
    by_cases hlt : 0 < k
    · obtain ⟨q, rfl⟩ : ∃ q, k = q + 1 := ⟨k - 1, by omega⟩
      have ej : ((q + 1 : Nat) : Int) - 1 = (q : Int) := by omega
      rw [ej]
      clear ej
      obtain ⟨ad, x, rfl, hx, hc⟩ := (HR.out.below hB).at_ (k := q) (by omega)
      have c0 : (0 : Int) ≤ q := by omega
      have c1 : (q : Int) < xs.length := by omega
      have hL : (xs.drop (q + 1)).reverse.length < 1099511627776 := by rw [List.length_reverse, List.length_drop]; omega
      go_wp2_with (at_builtin; refine wpList_app1 hO hL hs rfl _ _ 22 rfl rfl rfl rfl ?_; intro v' w' O' B')
      go_roundw
      case rel =>
        refine ⟨q, by omega, by go_num, ?_, hB.trans B'⟩
        obtain ⟨hq, e⟩ := List.getElem?_eq_some_iff.1 hx.out
        rw [List.drop_eq_getElem_cons hq, List.reverse_cons, e]
        exact O'
      case measure => simp [intOf]
    · obtain rfl : k = 0 := by omega
      rw [List.drop_zero] at hO
      obtain ⟨A', c', rfl⟩ := hO.form
      go_wp2
      go_ret
      exact ⟨A', c', by rw [List.length_reverse]; rfl, by have := hO.ow; rwa [List.length_reverse] at this, hB⟩
end Go.Proofs.Ytlhabcpoemcpjaa
