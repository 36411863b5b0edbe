/-
  THE LAW OF 'out = append(out, x)' FOR A SLICE OF INTS OF THE CALL's OWN, in the words Ow and Below. No statement of the seat is proved here.
-/
import Derived.Test.YtfdighaginmabaaW2
import Derived.Maps.AppendAt
namespace Go.Proofs.Ytfdighaginmabaa
open Go.RowKit

theorem wpList_app1 {ops : Array Oper} {rest : List Oper} {o : Oper} {a : Act} {Q : Exit → Act → World → Prop} {w : World} {base : Nat} {v : Value} {xs : List Int} {y : Int}
    (hown : Ap w base v xs) (hl : xs.length < 1099511627776) (hbase : base ≤ w.heap.size) (hgd : o.guard = none) (s x : Operand) (t : TypeId)
    (ho : o.op = .call { callee := .builtin .append, args := #[s, x], argTypes := #[t, t] }) (ht : t = 24)
    (hs : a.eval s = v) (hx : a.eval x = .slice (some ⟨w.heap.size, 0, none⟩) 1 1)
    (h : ∀ v' w', Ap w' base v' (xs ++ [y]) → Below base w w' → wpList Try.prog ops Q rest (a.put o.dst v') w') :
    wpList Try.prog ops Q (o :: rest) a (w.alloc (.cells #[.int .i64 y] 3)) := by
  obtain ⟨i0, hi, hz0, hz1, hz2⟩ := info_parts info3
  subst ht
  refine wpList_append_own _ hgd s x 24 ho base 3 i0 (.int .i64 0) 1 8 Try.underlying24 hi hz0 hz1 hz2 rfl (by decide) v xs.length (xs.map (Value.int .i64)) hs (World.ownsRow.alloc hown _)
    ⟨w.heap.size, 0, none⟩ 1 1 [.int .i64 y] hx rfl ?_ ?_ (by unfold maxLen; omega) (by omega) (by simp; omega) ?_
  · intro j u hj
    match j, hj with
    | 0, hj => simp at hj; subst hj; simp [Addr.add]
  · intro u hu
    simp at hu
    subst hu
    rfl
  · intro v' w' hown' hg _
    refine h v' w' ?_ ?_
    · unfold Ap
      simpa using hown'
    · refine (((Below.refl base w).alloc hbase _).grown hg (by simp; omega) ?_)
      intro k hk
      exact (hown.lt k hk).1

/-- '[]int{}': a slice of no element that is not nil. -/
theorem Ap.empty (w : World) (base : Nat) (hb : base ≤ w.heap.size) : Ap (w.alloc (.cells #[] 3)) base (.slice (some ⟨w.heap.size, 0, none⟩) 0 0) [] :=
  World.ownsRow_lit w #[] 0 hb (by unfold maxLen; omega) rfl
/-- 'out = append(out, ys...)', ys not empty. -/
theorem wpList_appN {ops : Array Oper} {rest : List Oper} {o : Oper} {a : Act} {Q : Exit → Act → World → Prop} {w : World} {base : Nat} {v : Value} {xs ys : List Int} {ad : Addr} {m c : Nat}
    (hown : Ap w base v xs) (hr : Rd w (some ad) ys) (hm : ys.length = m) (hl : xs.length + ys.length ≤ 1099511627776) (hbase : base ≤ w.heap.size) (hgd : o.guard = none) (s x : Operand) (t : TypeId)
    (ho : o.op = .call { callee := .builtin .append, args := #[s, x], argTypes := #[t, t] }) (ht : t = 24)
    (hs : a.eval s = v) (hx : a.eval x = .slice (some ad) m c)
    (h : ∀ v' w', Ap w' base v' (xs ++ ys) → Below base w w' → wpList Try.prog ops Q rest (a.put o.dst v') w') :
    wpList Try.prog ops Q (o :: rest) a w := by
  obtain ⟨i0, hi, hz0, hz1, hz2⟩ := info_parts info3
  subst ht hm
  refine wpList_append_own _ hgd s x 24 ho base 3 i0 (.int .i64 0) 1 8 Try.underlying24 hi hz0 hz1 hz2 rfl (by decide) v xs.length (xs.map (Value.int .i64)) hs hown
    ad ys.length c (ys.map (Value.int .i64)) hx (by simp) ?_ ?_ (by unfold maxLen; omega) (by omega) hbase ?_
  · intro j u hj
    have hjl : j < ys.length := by have := (List.getElem?_eq_some_iff.1 hj).1; simpa using this
    obtain ⟨ad', y, e, hy, hc⟩ := hr.at_ hjl
    obtain rfl := Option.some.inj e
    rw [hc]
    rw [List.getElem?_map, hy.out] at hj
    exact hj
  · intro u hu
    obtain ⟨z, _, rfl⟩ := List.mem_map.1 hu
    rfl
  · intro v' w' hown' hg _
    refine h v' w' ?_ ?_
    · unfold Ap
      simpa using hown'
    · exact (Below.refl base w).grown hg hbase fun k hk => (hown.lt k hk).1
/-- The row that A leads to is not v's own. -/
def Off (v : Value) (A : Option Addr) : Prop := ∀ ad : Addr, A = some ad → v.ownBlock ≠ some ad.block
/-- 'out = append(out, x)', with what becomes of other rows, those of the call's own too. -/
theorem wpList_app1k {ops : Array Oper} {rest : List Oper} {o : Oper} {a : Act} {Q : Exit → Act → World → Prop} {w : World} {base : Nat} {v : Value} {xs : List Int} {y : Int}
    (hown : Ap w base v xs) (hl : xs.length < 1099511627776) (hbase : base ≤ w.heap.size) (hgd : o.guard = none) (s x : Operand) (t : TypeId)
    (ho : o.op = .call { callee := .builtin .append, args := #[s, x], argTypes := #[t, t] }) (ht : t = 24)
    (hs : a.eval s = v) (hx : a.eval x = .slice (some ⟨w.heap.size, 0, none⟩) 1 1)
    (h : ∀ v' w', Ap w' base v' (xs ++ [y]) → Below base w w' → (∀ A ys, Rd w A ys → 0 < ys.length → Off v A → Rd w' A ys ∧ Off v' A) → wpList Try.prog ops Q rest (a.put o.dst v') w') :
    wpList Try.prog ops Q (o :: rest) a (w.alloc (.cells #[.int .i64 y] 3)) := by
  obtain ⟨i0, hi, hz0, hz1, hz2⟩ := info_parts info3
  subst ht
  refine wpList_append_own_at _ hgd s x 24 ho base 3 i0 (.int .i64 0) 1 8 Try.underlying24 hi hz0 hz1 hz2 rfl (by decide) v xs.length (xs.map (Value.int .i64)) hs (World.ownsRow.alloc hown _)
    ⟨w.heap.size, 0, none⟩ 1 1 [.int .i64 y] hx rfl ?_ ?_ (by unfold maxLen; omega) (by omega) (by simp; omega) ?_
  · intro j u hj
    match j, hj with
    | 0, hj => simp at hj; subst hj; simp [Addr.add]
  · intro u hu
    simp at hu
    subst hu
    rfl
  · intro v' w' hown' hg _ hat
    refine h v' w' ?_ ?_ ?_
    · unfold Ap
      simpa using hown'
    · refine (((Below.refl base w).alloc hbase _).grown hg (by simp; omega) ?_)
      intro k hk
      exact (hown.lt k hk).1
    · intro A ys hr hp hoff
      constructor
      · intro hn
        obtain ⟨ad, e, hc⟩ := (hr.alloc (.cells #[.int .i64 y] 3)) hn
        refine ⟨ad, e, fun j hj => ?_⟩
        have hl := cell_lt (hc j hj)
        have hb : (ad.add j).block = ad.block := block_add _ _
        rw [World.cell?_of_block (hg.block _ hl (by rw [hb]; exact fun e2 => hoff ad e e2.symm))]
        exact hc j hj
      · intro ad e he
        have hlt := hr.lt e hp
        rcases hat with hat | hat
        · rw [hat] at he; exact hoff ad e he
        · rw [hat] at he
          have := Option.some.inj he
          simp at this
          omega
end Go.Proofs.Ytfdighaginmabaa

