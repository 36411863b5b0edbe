/-
  WORDS: a slice of strings that reads as a list; one of the call's own; appending one string. No statement of the seat is proved here.
-/
import Derived.Test.YtepjmlcleggnnaaW3
namespace Go.Proofs.Ytepjmlcleggnnaa
open Go.RowKit

/-- The address A leads to the strings xs. -/
def RdS (w : World) (A : Option Addr) (xs : List ByteArray) : Prop :=
  0 < xs.length → ∃ ad : Addr, A = some ad ∧ ∀ j, j < xs.length → w.cell? (ad.add j) = some (.string (xs.getD j ByteArray.empty))

section
variable {w w' : World} {A : Option Addr} {xs : List ByteArray}
theorem RdS.nil_ (w : World) (A : Option Addr) : RdS w A [] := fun h => absurd h (by simp)
theorem RdS.keep (h : RdS w A xs) (hk : ∀ p : Addr, p.block < w.heap.size → w'.cell? p = w.cell? p) : RdS w' A xs := fun hn => by
  obtain ⟨ad, e, hc⟩ := h hn
  exact ⟨ad, e, fun j hj => (hk _ (cell_lt (hc j hj))).trans (hc j hj)⟩
theorem RdS.of_cells {a : Addr} {zs : List ByteArray} {n : Nat} (hn : n ≤ zs.length) (hc : ∀ i, i < zs.length → w.cell? (a.add i) = some (.string (zs.getD i ByteArray.empty))) : RdS w (some a) (zs.take n) := fun _ =>
  ⟨a, rfl, fun j hj => by
    rw [List.length_take] at hj
    rw [hc j (by omega)]
    simp [show j < n by omega]⟩
theorem RdS.below (h : RdS w A xs) (hb : Below w.heap.size w w') : RdS w' A xs := h.keep fun _ hp => hb.cell hp
theorem RdS.alloc (h : RdS w A xs) (o : Obj) : RdS (w.alloc o) A xs := h.keep fun p hp => World.cell?_alloc_lt w o p hp
theorem RdS.drew (h : RdS w A xs) : RdS w.drew A xs := h
theorem RdS.drewN (h : RdS w A xs) (k : Nat) : RdS (w.drewN k) A xs := h
theorem RdS.at_ (h : RdS w A xs) {k : Nat} (hk : k < xs.length) : ∃ ad x, A = some ad ∧ Hid (xs[k]? = some x) ∧ w.cell? (ad.add k) = some (.string x) := by
  obtain ⟨ad, e, hc⟩ := h (by omega)
  exact ⟨ad, xs.getD k ByteArray.empty, e, (by simp [List.getD, List.getElem?_eq_getElem hk] : xs[k]? = some (xs.getD k ByteArray.empty)), hc k hk⟩
theorem RdS.at2 (h : RdS w A xs) {k : Nat} {x : ByteArray} (hx : xs[k]? = some x) {ad : Addr} (e : A = some ad) : w.cell? (ad.add k) = some (.string x) := by
  have hk : k < xs.length := (List.getElem?_eq_some_iff.1 hx).1
  obtain ⟨ad', x', e', hx', hc⟩ := h.at_ hk
  have e1 : ad' = ad := by rw [e'] at e; exact Option.some.inj e
  have e2 : x' = x := by have := hx'.out; rw [hx] at this; exact (Option.some.inj this).symm
  subst e1 e2
  exact hc
theorem RdS.lt (h : RdS w A xs) {ad : Addr} (e : A = some ad) (hn : 0 < xs.length) : ad.block < w.heap.size := by
  obtain ⟨ad', e', hc⟩ := h hn
  have hh : ad' = ad := by rw [e'] at e; exact Option.some.inj e
  subst hh
  have := cell_lt (hc 0 hn)
  rwa [block_add] at this
end

/-- The slice value v, of xs.length strings, may be appended to: it is nil, or it lies at the head of a row of the call's own from block 'base' on, as long as its capacity says. -/
def ApS (w : World) (base : Nat) (v : Value) (xs : List ByteArray) : Prop := w.ownsRow base 9 1 v xs.length (xs.map (Value.string))

/-- The slice value v, of xs.length strings, lies at the head of a row of the call's own from block 'base' on (or is nil): it may be read and written. -/
def OwS (w : World) (base : Nat) (v : Value) (xs : List ByteArray) : Prop :=
  (v = .slice none 0 0 ∧ xs = []) ∨
  ∃ g cap cur, v = .slice (some ⟨g, 0, none⟩) xs.length cap ∧ base ≤ g ∧ w.heap[g]? = some (.cells cur 9 (0, 0)) ∧ xs.length ≤ cap ∧ cap ≤ maxLen ∧ cap ≤ cur.size ∧ cur.toList.take xs.length = xs.map (Value.string)

section
variable {w w' : World} {base : Nat} {v : Value} {xs : List ByteArray}
theorem ApS.ow (h : ApS w base v xs) : OwS w base v xs := by
  obtain ⟨_, h2⟩ := h
  rcases h2 with ⟨hv, hn⟩ | ⟨g, cap, cur, hv, hg, hh, hn, hcap, hsz, ht⟩
  · exact .inl ⟨hv, List.length_eq_zero_iff.1 hn⟩
  · exact .inr ⟨g, cap, cur, hv, hg, hh, hn, hcap, by omega, by simpa using ht⟩
theorem ApS.nil_ (w : World) (base : Nat) : ApS w base (.slice none 0 0) [] := World.ownsRow_nil w base 9 1
theorem ApS.lt (h : ApS w base v xs) : ∀ k, v.ownBlock = some k → base ≤ k ∧ k < w.heap.size := World.ownsRow.lt h
theorem ApS.kept {row : Option Nat} (h : ApS w base v xs) (hg : w.grownBy w' row) (hne : v.ownBlock = none ∨ v.ownBlock ≠ row) : ApS w' base v xs := World.ownsRow.kept h hg hne
theorem ApS.below' (h : ApS w base v xs) (hb : Below w.heap.size w w') : ApS w' base v xs := by
  have hlt := h.lt
  obtain ⟨h1, h2⟩ := h
  refine ⟨h1, ?_⟩
  rcases h2 with h2 | ⟨g, cap, cur, hv, hg, hh, r⟩
  · exact Or.inl h2
  · exact Or.inr ⟨g, cap, cur, hv, hg, by rw [hb.block g (hlt g (by rw [hv]; rfl)).2]; exact hh, r⟩
theorem ApS.drewN (h : ApS w base v xs) (n : Nat) : ApS (w.drewN n) base v xs := h
theorem ApS.drew (h : ApS w base v xs) : ApS w.drew base v xs := h
theorem ApS.alloc (h : ApS w base v xs) (o : Obj) : ApS (w.alloc o) base v xs := World.ownsRow.alloc h o
theorem ApS.form (h : ApS w base v xs) : ∃ A c, v = .slice A xs.length c := by
  rcases h.2 with ⟨hv, hn⟩ | ⟨g, cap, cur, hv, _⟩
  · exact ⟨none, 0, by rw [hv, hn]⟩
  · exact ⟨_, _, hv⟩

theorem OwS.nil_ (w : World) (base : Nat) : OwS w base (.slice none 0 0) [] := .inl ⟨rfl, rfl⟩
theorem OwS.lt (h : OwS w base v xs) : ∀ k, v.ownBlock = some k → base ≤ k ∧ k < w.heap.size := by
  intro k hk
  rcases h with ⟨rfl, _⟩ | ⟨g, cap, cur, rfl, hg, hh, _⟩
  · cases hk
  · have : g = k := by simpa [Value.ownBlock] using hk
    subst this
    refine ⟨hg, ?_⟩
    rcases Nat.lt_or_ge g w.heap.size with hlt | hge
    · exact hlt
    · rw [Array.getElem?_eq_none hge] at hh; cases hh
theorem OwS.below {B : Nat} (h : OwS w base v xs) (hb : Below B w w') (hB : ∀ k, v.ownBlock = some k → k < B) : OwS w' base v xs := by
  rcases h with h2 | ⟨g, cap, cur, hv, hg, hh, r⟩
  · exact .inl h2
  · exact .inr ⟨g, cap, cur, hv, hg, by rw [hb.block g (hB g (by rw [hv]; rfl))]; exact hh, r⟩
theorem OwS.below' (h : OwS w base v xs) (hb : Below w.heap.size w w') : OwS w' base v xs := h.below hb fun k hk => (h.lt k hk).2
theorem OwS.kept {row : Option Nat} (h : OwS w base v xs) (hg : w.grownBy w' row) (hne : v.ownBlock = none ∨ v.ownBlock ≠ row) : OwS w' base v xs := by
  have hl := h.lt
  rcases h with h2 | ⟨g, cap, cur, hv, hb, hh, r⟩
  · exact .inl h2
  · have ho : v.ownBlock = some g := by rw [hv]; rfl
    refine .inr ⟨g, cap, cur, hv, hb, ?_, r⟩
    rw [hg.block g (hl g ho).2 (by rw [← ho]; rcases hne with hne | hne; · rw [ho] at hne; cases hne
                                   · exact hne)]
    exact hh
theorem OwS.more {base' : Nat} (h : OwS w base v xs) (hb : base' ≤ base) : OwS w base' v xs := by
  rcases h with h2 | ⟨g, cap, cur, hv, hg, r⟩
  · exact .inl h2
  · exact .inr ⟨g, cap, cur, hv, by omega, r⟩
theorem OwS.alloc (h : OwS w base v xs) (o : Obj) : OwS (w.alloc o) base v xs := h.below' ((Below.refl _ _).alloc (Nat.le_refl _) o)
theorem OwS.drew (h : OwS w base v xs) : OwS w.drew base v xs := h
theorem OwS.drewN (h : OwS w base v xs) (n : Nat) : OwS (w.drewN n) base v xs := h
theorem OwS.form (h : OwS w base v xs) : ∃ A c, v = .slice A xs.length c := by
  rcases h with ⟨hv, hn⟩ | ⟨g, cap, cur, hv, _⟩
  · exact ⟨none, 0, by rw [hv, hn]; rfl⟩
  · exact ⟨_, _, hv⟩
end

section
variable {w w' : World} {base c n : Nat} {A : Option Addr} {xs : List ByteArray}
theorem OwS.len (h : OwS w base (.slice A n c) xs) : n = xs.length := by
  rcases h with ⟨hv, hn⟩ | ⟨g, cap, cur, hv, _⟩
  · injection hv with _ e _; rw [e, hn]; rfl
  · injection hv
theorem OwS.rd (h : OwS w base (.slice A n c) xs) : RdS w A xs := by
  rcases h with ⟨hv, hn⟩ | ⟨g, cap, cur, hv, _, hh, _, _, _, ht⟩
  · subst hn; exact RdS.nil_ _ _
  · injection hv with e _ _
    subst e
    refine fun _ => ⟨_, rfl, fun j hj => ?_⟩
    have hg : cur[j]? = some (.string (xs.getD j ByteArray.empty)) := by
      have e1 : (cur.toList.take xs.length)[j]? = cur[j]? := by rw [List.getElem?_take, if_pos hj]; simp
      rw [← e1, ht]
      simp [List.getD, List.getElem?_eq_getElem hj]
    have e2 : ((⟨g, 0, none⟩ : Addr).add j) = ⟨g, j, none⟩ := by rw [Addr.add_lit, Nat.zero_add]
    rw [e2, cell_of_row w g j cur 9 (0, 0) hh]
    exact hg
theorem OwS.cap (h : OwS w base (.slice A n c) xs) : xs.length ≤ c ∧ c ≤ maxLen := by
  rcases h with ⟨hv, hn⟩ | ⟨g, cap, cur, hv, _, _, h1, h2, _⟩
  · injection hv with _ _ e; subst e hn; exact ⟨Nat.le_refl _, Nat.zero_le _⟩
  · injection hv with _ _ e; subst e; exact ⟨h1, h2⟩
theorem OwS.addr (h : OwS w base (.slice A n c) xs) (hp : 0 < xs.length) : ∃ g, A = some ⟨g, 0, none⟩ := by
  rcases h with ⟨hv, hn⟩ | ⟨g, cap, cur, hv, _⟩
  · subst hn; cases hp
  · exact ⟨g, by injection hv⟩
/-- A string of a row of the call's own: where it lies; that it may be written; what is owned behind the store. -/
theorem OwS.at_ (h : OwS w base (.slice A n c) xs) {k : Nat} (hk : k < xs.length) :
    ∃ g x, A = some ⟨g, 0, none⟩ ∧ Hid (xs[k]? = some x) ∧ w.cell? ⟨g, k, none⟩ = some (.string x) ∧ w.frozen? ⟨g, k, none⟩ = false ∧
      ∀ u, OwS (w.setCell ⟨g, k, none⟩ (.string u)) base (.slice A n c) (xs.set k u) ∧ w.grownBy (w.setCell ⟨g, k, none⟩ (.string u)) (some g) := by
  obtain ⟨ad, x, e, hx, hc⟩ := h.rd.at_ hk
  rcases h with ⟨hv, hn⟩ | ⟨g, cap, cur, hv, hb, hh, h1, h2, h3, ht⟩
  · subst hn; cases hk
  · injection hv with e1 e2 e3
    subst e1 e2 e3
    obtain rfl := Option.some.inj e
    rw [Addr.add_lit, Nat.zero_add] at hc
    refine ⟨g, x, rfl, hx, hc, frozen_of_row w g k cur 9 hh, fun u => ⟨.inr ⟨g, c, cur.setIfInBounds k (.string u), by rw [List.length_set], hb, heap_setCell_same w g k cur 9 _ hh, by rw [List.length_set]; exact h1, h2, by simpa using h3, ?_⟩,
      ⟨rfl, rfl, rfl, by simp, fun i _ hi => heap_setCell_other w ⟨g, k, none⟩ i _ (fun e => hi (by simp [e]))⟩⟩⟩
    rw [List.length_set, Array.toList_setIfInBounds, List.map_set, ← ht, List.take_set]
end

theorem infoS : (Try.prog.info? 9).map (fun i => (i.zero, i.size, i.bytes)) = some (some (.string ByteArray.empty), 1, 16) := by kernel_rfl
theorem info_partsS {i : Option TypeInfo} (h : i.map (fun i => (i.zero, i.size, i.bytes)) = some (some (.string ByteArray.empty), 1, 16)) : ∃ i0, i = some i0 ∧ i0.zero = some (.string ByteArray.empty) ∧ i0.size = 1 ∧ i0.bytes = 16 := by
  rcases i with _ | i0
  · cases h
  · simp only [Option.map_some, Option.some.injEq, Prod.mk.injEq] at h
    exact ⟨i0, rfl, h.1, h.2.1, h.2.2⟩
/-- 'out = append(out, x)', x a string. -/
theorem wpList_app1S {ops : Array Oper} {rest : List Oper} {o : Oper} {a : Act} {Q : Exit → Act → World → Prop} {w : World} {base : Nat} {v : Value} {xs : List ByteArray} {y : ByteArray}
    (hown : ApS w base v xs) (hl : xs.length < 1099511627776) (hbase : base ≤ w.heap.size) (hgd : o.guard = none) (s x : Operand) (t : TypeId)
    (ho : o.op = .call { callee := .builtin .append, args := #[s, x], argTypes := #[t, t] }) (ht : t = 32)
    (hs : a.eval s = v) (hx : a.eval x = .slice (some ⟨w.heap.size, 0, none⟩) 1 1)
    (h : ∀ v' w', ApS w' base v' (xs ++ [y]) → Below base w w' → wpList Try.prog ops Q rest (a.put o.dst v') w') :
    wpList Try.prog ops Q (o :: rest) a (w.alloc (.cells #[.string y] 9)) := by
  obtain ⟨i0, hi, hz0, hz1, hz2⟩ := info_partsS infoS
  subst ht
  refine wpList_append_own _ hgd s x 32 ho base 9 i0 (.string ByteArray.empty) 1 16 Try.underlying32 hi hz0 hz1 hz2 rfl (by decide) v xs.length (xs.map Value.string) hs (World.ownsRow.alloc hown _)
    ⟨w.heap.size, 0, none⟩ 1 1 [.string y] hx rfl ?_ ?_ (by unfold maxLen; omega) (by omega) (by simp; omega) ?_
  · intro j u hj
    match j, hj with
    | 0, hj =>
      obtain rfl := Option.some.inj hj
      rw [Addr.add_zero', World.cell?_alloc_at _ _ _ _ rfl]
      rfl
    | j + 1, hj => simp at hj
  · intro u hu
    rw [List.mem_singleton.1 hu]
    rfl
  · intro v' w' hown' hg _
    refine h v' w' ?_ ?_
    · unfold ApS
      simpa using hown'
    · refine (((Below.refl base w).alloc hbase _).grown hg (by simp; omega) ?_)
      intro k hk
      exact (hown.lt k hk).1
end Go.Proofs.Ytepjmlcleggnnaa
