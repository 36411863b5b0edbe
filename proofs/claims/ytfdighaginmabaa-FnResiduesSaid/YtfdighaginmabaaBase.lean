/-
  WORDS FOR THE SEAT's PROOFS: a slice of ints that reads as a list, a slice of the call's own; no statement of the seat is proved here.
-/
import Derived.Test.YtfdighaginmabaaRows
import Derived.WalkKit
import Derived.WalkLawsBesides
import Derived.WalkSpells
import Derived.Lib.Hide
import Derived.Deep.Draws
import Derived.Deep.QuietTactic
import Derived.BigQuiet
import Derived.Handy
namespace Go.Proofs.Ytfdighaginmabaa
open Go.RowKit

def I64 (n : Int) : Prop := -9223372036854775808 ≤ n ∧ n ≤ 9223372036854775807
def AllI64 (xs : List Int) : Prop := ∀ x ∈ xs, -9223372036854775808 ≤ x ∧ x ≤ 9223372036854775807
/-- The address A leads to the numbers xs. -/
def Rd (w : World) (A : Option Addr) (xs : List Int) : Prop :=
  0 < xs.length → ∃ ad : Addr, A = some ad ∧ ∀ j, j < xs.length → w.cell? (ad.add j) = some (.int .i64 (xs.getD j 0))

theorem block_add (a : Addr) (n : Nat) : (a.add n).block = a.block := by unfold Addr.add; split <;> rfl
theorem cell_lt {w : World} {a : Addr} {v : Value} (h : w.cell? a = some v) : a.block < w.heap.size := block_lt_of_cell h

section
variable {w w' : World} {A : Option Addr} {xs : List Int}
theorem Rd.nil_ (w : World) (A : Option Addr) : Rd w A [] := fun h => absurd h (by simp)
theorem Rd.keep (h : Rd w A xs) (hk : ∀ p : Addr, p.block < w.heap.size → w'.cell? p = w.cell? p) : Rd w' A xs := fun hn => by
  obtain ⟨ad, e, hc⟩ := h hn
  exact ⟨ad, e, fun j hj => (hk _ (cell_lt (hc j hj))).trans (hc j hj)⟩
theorem Rd.of_cells {a : Addr} {zs : List Int} {n : Nat} (hn : n ≤ zs.length) (hc : ∀ i, i < zs.length → w.cell? (a.add i) = some (.int .i64 (zs.getD i 0))) : Rd w (some a) (zs.take n) := fun _ =>
  ⟨a, rfl, fun j hj => by
    rw [List.length_take] at hj
    rw [hc j (by omega)]
    simp [show j < n by omega]⟩
theorem Rd.below (h : Rd w A xs) (hb : Below w.heap.size w w') : Rd w' A xs := h.keep fun _ hp => hb.cell hp
theorem Rd.alloc (h : Rd w A xs) (o : Obj) : Rd (w.alloc o) A xs := h.keep fun p hp => World.cell?_alloc_lt w o p hp
theorem Rd.drew (h : Rd w A xs) : Rd w.drew A xs := h
theorem Rd.drewN (h : Rd w A xs) (k : Nat) : Rd (w.drewN k) A xs := h
theorem Rd.at_ (h : Rd w A xs) {k : Nat} (hk : k < xs.length) : ∃ ad x, A = some ad ∧ Hid (xs[k]? = some x) ∧ w.cell? (ad.add k) = some (.int .i64 x) := by
  obtain ⟨ad, e, hc⟩ := h (by omega)
  exact ⟨ad, xs.getD k 0, e, (by simp [List.getD, List.getElem?_eq_getElem hk] : xs[k]? = some (xs.getD k 0)), hc k hk⟩
theorem Rd.at2 (h : Rd w A xs) {k : Nat} {x : Int} (hx : xs[k]? = some x) {ad : Addr} (e : A = some ad) : w.cell? (ad.add k) = some (.int .i64 x) := by
  have hk : k < xs.length := (List.getElem?_eq_some_iff.1 hx).1
  obtain ⟨ad', x', e', hx', hc⟩ := h.at_ hk
  have e1 : ad' = ad := by rw [e'] at e; exact Option.some.inj e
  have e2 : x' = x := by have := hx'.out; rw [hx] at this; exact (Option.some.inj this).symm
  subst e1 e2
  exact hc
theorem Rd.lt (h : Rd w A xs) {ad : Addr} (e : A = some ad) (hn : 0 < xs.length) : ad.block < w.heap.size := by
  obtain ⟨ad', e', hc⟩ := h hn
  have hh : ad' = ad := by rw [e'] at e; exact Option.some.inj e
  subst hh
  have := cell_lt (hc 0 hn)
  rwa [block_add] at this
end

/-- The address A leads to the bytes xs. -/
def Rd8 (w : World) (A : Option Addr) (xs : List Int) : Prop :=
  0 < xs.length → ∃ ad : Addr, A = some ad ∧ ∀ j, j < xs.length → w.cell? (ad.add j) = some (.int .u8 (xs.getD j 0))
section
variable {w w' : World} {A : Option Addr} {xs : List Int}
theorem Rd8.nil_ (w : World) (A : Option Addr) : Rd8 w A [] := fun h => absurd h (by simp)
theorem Rd8.keep (h : Rd8 w A xs) (hk : ∀ p : Addr, p.block < w.heap.size → w'.cell? p = w.cell? p) : Rd8 w' A xs := fun hn => by
  obtain ⟨ad, e, hc⟩ := h hn
  exact ⟨ad, e, fun j hj => (hk _ (cell_lt (hc j hj))).trans (hc j hj)⟩
theorem Rd8.of_cells {a : Addr} {zs : List Int} {n : Nat} (hn : n ≤ zs.length) (hc : ∀ i, i < zs.length → w.cell? (a.add i) = some (.int .u8 (zs.getD i 0))) : Rd8 w (some a) (zs.take n) := fun _ =>
  ⟨a, rfl, fun j hj => by
    rw [List.length_take] at hj
    rw [hc j (by omega)]
    simp [show j < n by omega]⟩
theorem Rd8.below (h : Rd8 w A xs) (hb : Below w.heap.size w w') : Rd8 w' A xs := h.keep fun _ hp => hb.cell hp
theorem Rd8.at_ (h : Rd8 w A xs) {k : Nat} (hk : k < xs.length) : ∃ ad x, A = some ad ∧ Hid (xs[k]? = some x) ∧ w.cell? (ad.add k) = some (.int .u8 x) := by
  obtain ⟨ad, e, hc⟩ := h (by omega)
  exact ⟨ad, xs.getD k 0, e, (by simp [List.getD, List.getElem?_eq_getElem hk] : xs[k]? = some (xs.getD k 0)), hc k hk⟩
end

/-- The slice value v, of xs.length numbers, may be appended to: it is nil, or it lies at the head of a row of the call's own from block 'base' on, as long as its capacity says. -/
def Ap (w : World) (base : Nat) (v : Value) (xs : List Int) : Prop := w.ownsRow base 3 1 v xs.length (xs.map (Value.int .i64))

/-- The slice value v, of xs.length numbers, lies at the head of a row of the call's own from block 'base' on (or is nil): it may be read and written. -/
def Ow (w : World) (base : Nat) (v : Value) (xs : List Int) : Prop :=
  (v = .slice none 0 0 ∧ xs = []) ∨
  ∃ g cap cur, v = .slice (some ⟨g, 0, none⟩) xs.length cap ∧ base ≤ g ∧ w.heap[g]? = some (.cells cur 3 (0, 0)) ∧ xs.length ≤ cap ∧ cap ≤ maxLen ∧ cap ≤ cur.size ∧ cur.toList.take xs.length = xs.map (Value.int .i64)

section
variable {w w' : World} {base : Nat} {v : Value} {xs : List Int}
theorem Ap.ow (h : Ap w base v xs) : Ow w base v xs := by
  obtain ⟨_, h2⟩ := h
  rcases h2 with ⟨hv, hn⟩ | ⟨g, cap, cur, hv, hg, hh, hn, hcap, hsz, ht⟩
  · exact .inl ⟨hv, List.length_eq_zero_iff.1 hn⟩
  · exact .inr ⟨g, cap, cur, hv, hg, hh, hn, hcap, by omega, by simpa using ht⟩
theorem Ap.nil_ (w : World) (base : Nat) : Ap w base (.slice none 0 0) [] := World.ownsRow_nil w base 3 1
theorem Ap.lt (h : Ap w base v xs) : ∀ k, v.ownBlock = some k → base ≤ k ∧ k < w.heap.size := World.ownsRow.lt h
theorem Ap.kept {row : Option Nat} (h : Ap w base v xs) (hg : w.grownBy w' row) (hne : v.ownBlock = none ∨ v.ownBlock ≠ row) : Ap w' base v xs := World.ownsRow.kept h hg hne
theorem Ap.below' (h : Ap w base v xs) (hb : Below w.heap.size w w') : Ap w' base v xs := by
  have hlt := h.lt
  obtain ⟨h1, h2⟩ := h
  refine ⟨h1, ?_⟩
  rcases h2 with h2 | ⟨g, cap, cur, hv, hg, hh, r⟩
  · exact Or.inl h2
  · exact Or.inr ⟨g, cap, cur, hv, hg, by rw [hb.block g (hlt g (by rw [hv]; rfl)).2]; exact hh, r⟩
theorem Ap.drewN (h : Ap w base v xs) (n : Nat) : Ap (w.drewN n) base v xs := h
theorem Ap.drew (h : Ap w base v xs) : Ap w.drew base v xs := h
theorem Ap.alloc (h : Ap w base v xs) (o : Obj) : Ap (w.alloc o) base v xs := World.ownsRow.alloc h o
theorem Ap.form (h : Ap w base v xs) : ∃ A c, v = .slice A xs.length c := by
  rcases h.2 with ⟨hv, hn⟩ | ⟨g, cap, cur, hv, _⟩
  · exact ⟨none, 0, by rw [hv, hn]⟩
  · exact ⟨_, _, hv⟩

theorem Ow.nil_ (w : World) (base : Nat) : Ow w base (.slice none 0 0) [] := .inl ⟨rfl, rfl⟩
theorem Ow.lt (h : Ow w base v xs) : ∀ k, v.ownBlock = some k → base ≤ k ∧ k < w.heap.size := by
  intro k hk
  rcases h with ⟨rfl, _⟩ | ⟨g, cap, cur, rfl, hg, hh, _⟩
  · cases hk
  · have : g = k := by simpa [Value.ownBlock] using hk
    subst this
    refine ⟨hg, ?_⟩
    rcases Nat.lt_or_ge g w.heap.size with hlt | hge
    · exact hlt
    · rw [Array.getElem?_eq_none hge] at hh; cases hh
theorem Ow.below {B : Nat} (h : Ow w base v xs) (hb : Below B w w') (hB : ∀ k, v.ownBlock = some k → k < B) : Ow w' base v xs := by
  rcases h with h2 | ⟨g, cap, cur, hv, hg, hh, r⟩
  · exact .inl h2
  · exact .inr ⟨g, cap, cur, hv, hg, by rw [hb.block g (hB g (by rw [hv]; rfl))]; exact hh, r⟩
theorem Ow.below' (h : Ow w base v xs) (hb : Below w.heap.size w w') : Ow w' base v xs := h.below hb fun k hk => (h.lt k hk).2
theorem Ow.kept {row : Option Nat} (h : Ow w base v xs) (hg : w.grownBy w' row) (hne : v.ownBlock = none ∨ v.ownBlock ≠ row) : Ow w' base v xs := by
  have hl := h.lt
  rcases h with h2 | ⟨g, cap, cur, hv, hb, hh, r⟩
  · exact .inl h2
  · have ho : v.ownBlock = some g := by rw [hv]; rfl
    refine .inr ⟨g, cap, cur, hv, hb, ?_, r⟩
    rw [hg.block g (hl g ho).2 (by rw [← ho]; rcases hne with hne | hne; · rw [ho] at hne; cases hne
                                   · exact hne)]
    exact hh
theorem Ow.more {base' : Nat} (h : Ow w base v xs) (hb : base' ≤ base) : Ow w base' v xs := by
  rcases h with h2 | ⟨g, cap, cur, hv, hg, r⟩
  · exact .inl h2
  · exact .inr ⟨g, cap, cur, hv, by omega, r⟩
theorem Ow.alloc (h : Ow w base v xs) (o : Obj) : Ow (w.alloc o) base v xs := h.below' ((Below.refl _ _).alloc (Nat.le_refl _) o)
theorem Ow.drew (h : Ow w base v xs) : Ow w.drew base v xs := h
theorem Ow.drewN (h : Ow w base v xs) (n : Nat) : Ow (w.drewN n) base v xs := h
theorem Ow.form (h : Ow w base v xs) : ∃ A c, v = .slice A xs.length c := by
  rcases h with ⟨hv, hn⟩ | ⟨g, cap, cur, hv, _⟩
  · exact ⟨none, 0, by rw [hv, hn]; rfl⟩
  · exact ⟨_, _, hv⟩
end

section
variable {w w' : World} {base c n : Nat} {A : Option Addr} {xs : List Int}
theorem Ow.len (h : Ow w base (.slice A n c) xs) : n = xs.length := by
  rcases h with ⟨hv, hn⟩ | ⟨g, cap, cur, hv, _⟩
  · injection hv with _ e _; rw [e, hn]; rfl
  · injection hv
theorem Ow.rd (h : Ow w base (.slice A n c) xs) : Rd w A xs := by
  rcases h with ⟨hv, hn⟩ | ⟨g, cap, cur, hv, _, hh, _, _, _, ht⟩
  · subst hn; exact Rd.nil_ _ _
  · injection hv with e _ _
    subst e
    refine fun _ => ⟨_, rfl, fun j hj => ?_⟩
    have hg : cur[j]? = some (.int .i64 (xs.getD j 0)) := by
      have e1 : (cur.toList.take xs.length)[j]? = cur[j]? := by rw [List.getElem?_take, if_pos hj]; simp
      rw [← e1, ht]
      simp [List.getD, List.getElem?_eq_getElem hj]
    have e2 : ((⟨g, 0, none⟩ : Addr).add j) = ⟨g, j, none⟩ := by rw [Addr.add_lit, Nat.zero_add]
    rw [e2, cell_of_row w g j cur 3 (0, 0) hh]
    exact hg
theorem Ow.cap (h : Ow w base (.slice A n c) xs) : xs.length ≤ c ∧ c ≤ maxLen := by
  rcases h with ⟨hv, hn⟩ | ⟨g, cap, cur, hv, _, _, h1, h2, _⟩
  · injection hv with _ _ e; subst e hn; exact ⟨Nat.le_refl _, Nat.zero_le _⟩
  · injection hv with _ _ e; subst e; exact ⟨h1, h2⟩
theorem Ow.addr (h : Ow w base (.slice A n c) xs) (hp : 0 < xs.length) : ∃ g, A = some ⟨g, 0, none⟩ := by
  rcases h with ⟨hv, hn⟩ | ⟨g, cap, cur, hv, _⟩
  · subst hn; cases hp
  · exact ⟨g, by injection hv⟩
/-- A number of a row of the call's own: where it lies; that it may be written; what is owned behind the store. -/
theorem Ow.at_ (h : Ow w base (.slice A n c) xs) {k : Nat} (hk : k < xs.length) :
    ∃ g x, A = some ⟨g, 0, none⟩ ∧ Hid (xs[k]? = some x) ∧ w.cell? ⟨g, k, none⟩ = some (.int .i64 x) ∧ w.frozen? ⟨g, k, none⟩ = false ∧
      ∀ u, Ow (w.setCell ⟨g, k, none⟩ (.int .i64 u)) base (.slice A n c) (xs.set k u) ∧ w.grownBy (w.setCell ⟨g, k, none⟩ (.int .i64 u)) (some g) := by
  obtain ⟨ad, x, e, hx, hc⟩ := h.rd.at_ hk
  rcases h with ⟨hv, hn⟩ | ⟨g, cap, cur, hv, hb, hh, h1, h2, h3, ht⟩
  · subst hn; cases hk
  · injection hv with e1 e2 e3
    subst e1 e2 e3
    obtain rfl := Option.some.inj e
    rw [Addr.add_lit, Nat.zero_add] at hc
    refine ⟨g, x, rfl, hx, hc, frozen_of_row w g k cur 3 hh, fun u => ⟨.inr ⟨g, c, cur.setIfInBounds k (.int .i64 u), by rw [List.length_set], hb, heap_setCell_same w g k cur 3 _ hh, by rw [List.length_set]; exact h1, h2, by simpa using h3, ?_⟩,
      ⟨rfl, rfl, rfl, by simp, fun i _ hi => heap_setCell_other w ⟨g, k, none⟩ i _ (fun e => hi (by simp [e]))⟩⟩⟩
    rw [List.length_set, Array.toList_setIfInBounds, List.map_set, ← ht, List.take_set]
/-- 's[:k]' -/
theorem Ow.take (h : Ow w base (.slice A n c) xs) {k : Nat} (hk : k ≤ xs.length) : Ow w base (.slice A k c) (xs.take k) := by
  rcases h with ⟨hv, hn⟩ | ⟨g, cap, cur, hv, hb, hh, h1, h2, h3, ht⟩
  · subst hn
    injection hv with e1 _ e3
    have hk0 : k = 0 := by simpa using hk
    subst e1 e3 hk0
    exact .inl ⟨rfl, rfl⟩
  · injection hv with e1 e2 e3
    subst e1 e2 e3
    have hl : (xs.take k).length = k := by rw [List.length_take]; omega
    refine .inr ⟨g, c, cur, by rw [hl], hb, hh, by omega, h2, h3, ?_⟩
    rw [hl, List.map_take, ← ht, List.take_take, Nat.min_eq_left hk]
/-- 's[:len(s):len(s)]' -/
theorem Ow.clip (h : Ow w base (.slice A n c) xs) : Ow w base (.slice A n n) xs := by
  have hl := h.len
  rcases h with ⟨hv, hn⟩ | ⟨g, cap, cur, hv, hb, hh, h1, h2, h3, ht⟩
  · injection hv with e1 e2 e3
    subst e1 e2 e3
    exact .inl ⟨rfl, hn⟩
  · injection hv with e1 e2 e3
    subst e1 e2 e3
    exact .inr ⟨g, xs.length, cur, rfl, hb, hh, Nat.le_refl _, by omega, by omega, ht⟩
end
theorem Ow.rd' {w : World} {base c n : Nat} {A : Option Addr} {xs : List Int} (h : Ow w base (.slice A n c) xs) (_hn : xs.length = n) : Rd w A xs := h.rd
theorem own_ne {t s : Value} {B : Nat} (h1 : ∀ k, t.ownBlock = some k → k < B) (h2 : ∀ k, s.ownBlock = some k → B ≤ k) : t.ownBlock = none ∨ t.ownBlock ≠ s.ownBlock := by
  rcases ht : t.ownBlock with _ | k
  · exact .inl rfl
  · right
    intro e
    have a := h1 k ht
    have b := h2 k e.symm
    omega
theorem own_ne' {t s : Value} {B : Nat} (h1 : ∀ k, s.ownBlock = some k → k < B) (h2 : ∀ k, t.ownBlock = some k → B ≤ k) : t.ownBlock = none ∨ t.ownBlock ≠ s.ownBlock := by
  rcases ht : t.ownBlock with _ | k
  · exact .inl rfl
  · right
    intro e
    have a := h1 k e.symm
    have b := h2 k ht
    omega
theorem grown_trans {a b d : World} {row : Option Nat} (h : a.grownBy b row) (k : b.grownBy d row) : a.grownBy d row :=
  ⟨k.os.trans h.os, k.tape.trans h.tape, k.output.trans h.output, Nat.le_trans h.size k.size, fun i hi hn => (k.block i (Nat.lt_of_lt_of_le hi h.size) hn).trans (h.block i hi hn)⟩
theorem grown_below {a b : World} {row : Option Nat} (h : a.grownBy b row) {B : Nat} (hB : B ≤ a.heap.size) (hr : ∀ k, row = some k → B ≤ k) : Below B a b := (Below.refl B a).grown h hB hr

/-- The numbers k, k + 1, .. -/
def marks (k : Int) (n : Nat) : List Int := (List.range n).map fun i => k + (i : Nat)
theorem marks_length (k : Int) (n : Nat) : (marks k n).length = n := by simp [marks]
theorem marks_at (k : Int) (n i : Nat) (h : i < n) : (marks k n)[i]? = some (k + i) := by simp [marks, h]
theorem marks_succ (k : Int) (n : Nat) : marks k (n + 1) = marks k n ++ [k + n] := by simp [marks, List.range_succ]

/-- n lies between lo and hi. -/
def inB (n lo hi : Int) : Bool := decide (lo ≤ n) && decide (n ≤ hi)
theorem inB_true {n lo hi : Int} (h : inB n lo hi = true) : lo ≤ n ∧ n ≤ hi := by simpa [inB] using h
theorem inB_of {n lo hi : Int} (h : lo ≤ n ∧ n ≤ hi) : inB n lo hi = true := by simpa [inB] using h
theorem inB_false {n lo hi : Int} (h : inB n lo hi = false) : ¬ (lo ≤ n ∧ n ≤ hi) := fun h' => by rw [inB_of h'] at h; cases h

theorem below_drewN {B : Nat} {a w : World} (h : Below B a w) (n : Nat) : Below B a (w.drewN n) := ⟨h.os, h.tape, h.output, h.size, h.block⟩

theorem ret_int {k : IntKind} {a b : Int} (h : a = b) : Ending.returned (.int k a) = .returned (.int k b) := by rw [h]
theorem ret_bool {a b : Bool} (h : a = b) : Ending.returned (.bool a) = .returned (.bool b) := by rw [h]
theorem hide {p : Prop} (h : p) : Hid p := h

theorem info3 : (Try.prog.info? 3).map (fun i => (i.zero, i.size, i.bytes)) = some (some (.int .i64 0), 1, 8) := by kernel_rfl

end Go.Proofs.Ytfdighaginmabaa
