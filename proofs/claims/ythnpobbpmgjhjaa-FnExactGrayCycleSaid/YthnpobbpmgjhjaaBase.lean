/-
  WORDS FOR THE SEAT's PROOFS: a slice of ints that reads as a list, a slice of the call's own; no statement of the seat is proved here.
-/
import Derived.Test.YthnpobbpmgjhjaaRows
import Derived.WalkKit
import Derived.WalkLawsBesides
import Derived.WalkSpells
import Derived.Lib.Hide
import Derived.Deep.Draws
import Derived.Deep.QuietTactic
import Derived.BigQuiet
import Derived.Handy
namespace Go.Proofs.Ythnpobbpmgjhjaa
open Go.RowKit

def I64 (n : Int) : Prop := -9223372036854775808 ≤ n ∧ n ≤ 9223372036854775807
def AllI64 (xs : List Int) : Prop := ∀ x ∈ xs, -9223372036854775808 ≤ x ∧ x ≤ 9223372036854775807
/-- The address A leads to the numbers xs. -/
def Rd (w : World) (A : Option Addr) (xs : List Int) : Prop :=
  0 < xs.length → ∃ ad : Addr, A = some ad ∧ ∀ j, j < xs.length → w.cell? (ad.add j) = some (.int .i64 (xs.getD j 0))

theorem block_add (a : Addr) (n : Nat) : (a.add n).block = a.block := by unfold Addr.add; split <;> rfl
theorem cell_lt {w : World} {a : Addr} {v : Value} (h : w.cell? a = some v) : a.block < w.heap.size := block_lt_of_cell h

section
variable {w w' : World} {A : Option Addr} {xs : List Int}
theorem Rd.nil_ (w : World) (A : Option Addr) : Rd w A [] := fun h => absurd h (by simp)
theorem Rd.keep (h : Rd w A xs) (hk : ∀ p : Addr, p.block < w.heap.size → w'.cell? p = w.cell? p) : Rd w' A xs := fun hn => by
  obtain ⟨ad, e, hc⟩ := h hn
  exact ⟨ad, e, fun j hj => (hk _ (cell_lt (hc j hj))).trans (hc j hj)⟩
theorem Rd.of_cells {a : Addr} {zs : List Int} {n : Nat} (hn : n ≤ zs.length) (hc : ∀ i, i < zs.length → w.cell? (a.add i) = some (.int .i64 (zs.getD i 0))) : Rd w (some a) (zs.take n) := fun _ =>
  ⟨a, rfl, fun j hj => by
    rw [List.length_take] at hj
    rw [hc j (by omega)]
    simp [show j < n by omega]⟩
theorem Rd.below (h : Rd w A xs) (hb : Below w.heap.size w w') : Rd w' A xs := h.keep fun _ hp => hb.cell hp
theorem Rd.alloc (h : Rd w A xs) (o : Obj) : Rd (w.alloc o) A xs := h.keep fun p hp => World.cell?_alloc_lt w o p hp
theorem Rd.drew (h : Rd w A xs) : Rd w.drew A xs := h
theorem Rd.drewN (h : Rd w A xs) (k : Nat) : Rd (w.drewN k) A xs := h
theorem Rd.at_ (h : Rd w A xs) {k : Nat} (hk : k < xs.length) : ∃ ad x, A = some ad ∧ Hid (xs[k]? = some x) ∧ w.cell? (ad.add k) = some (.int .i64 x) := by
  obtain ⟨ad, e, hc⟩ := h (by omega)
  exact ⟨ad, xs.getD k 0, e, (by simp [List.getD, List.getElem?_eq_getElem hk] : xs[k]? = some (xs.getD k 0)), hc k hk⟩
theorem Rd.at2 (h : Rd w A xs) {k : Nat} {x : Int} (hx : xs[k]? = some x) {ad : Addr} (e : A = some ad) : w.cell? (ad.add k) = some (.int .i64 x) := by
  have hk : k < xs.length := (List.getElem?_eq_some_iff.1 hx).1
  obtain ⟨ad', x', e', hx', hc⟩ := h.at_ hk
  have e1 : ad' = ad := by rw [e'] at e; exact Option.some.inj e
  have e2 : x' = x := by have := hx'.out; rw [hx] at this; exact (Option.some.inj this).symm
  subst e1 e2
  exact hc
theorem Rd.lt (h : Rd w A xs) {ad : Addr} (e : A = some ad) (hn : 0 < xs.length) : ad.block < w.heap.size := by
  obtain ⟨ad', e', hc⟩ := h hn
  have hh : ad' = ad := by rw [e'] at e; exact Option.some.inj e
  subst hh
  have := cell_lt (hc 0 hn)
  rwa [block_add] at this
end

/-- The address A leads to the bytes xs. -/
def Rd8 (w : World) (A : Option Addr) (xs : List Int) : Prop :=
  0 < xs.length → ∃ ad : Addr, A = some ad ∧ ∀ j, j < xs.length → w.cell? (ad.add j) = some (.int .u8 (xs.getD j 0))
section
variable {w w' : World} {A : Option Addr} {xs : List Int}
theorem Rd8.nil_ (w : World) (A : Option Addr) : Rd8 w A [] := fun h => absurd h (by simp)
theorem Rd8.keep (h : Rd8 w A xs) (hk : ∀ p : Addr, p.block < w.heap.size → w'.cell? p = w.cell? p) : Rd8 w' A xs := fun hn => by
  obtain ⟨ad, e, hc⟩ := h hn
  exact ⟨ad, e, fun j hj => (hk _ (cell_lt (hc j hj))).trans (hc j hj)⟩
theorem Rd8.of_cells {a : Addr} {zs : List Int} {n : Nat} (hn : n ≤ zs.length) (hc : ∀ i, i < zs.length → w.cell? (a.add i) = some (.int .u8 (zs.getD i 0))) : Rd8 w (some a) (zs.take n) := fun _ =>
  ⟨a, rfl, fun j hj => by
    rw [List.length_take] at hj
    rw [hc j (by omega)]
    simp [show j < n by omega]⟩
theorem Rd8.below (h : Rd8 w A xs) (hb : Below w.heap.size w w') : Rd8 w' A xs := h.keep fun _ hp => hb.cell hp
theorem Rd8.at_ (h : Rd8 w A xs) {k : Nat} (hk : k < xs.length) : ∃ ad x, A = some ad ∧ Hid (xs[k]? = some x) ∧ w.cell? (ad.add k) = some (.int .u8 x) := by
  obtain ⟨ad, e, hc⟩ := h (by omega)
  exact ⟨ad, xs.getD k 0, e, (by simp [List.getD, List.getElem?_eq_getElem hk] : xs[k]? = some (xs.getD k 0)), hc k hk⟩
end

/-- The slice value v (its length is xs') owns the numbers xs, in a row of the call's own from block 'base' on. -/
def Ow (w : World) (base : Nat) (v : Value) (xs : List Int) : Prop := w.ownsRow base 3 1 v xs.length (xs.map (Value.int .i64))

section
variable {w w' : World} {base : Nat} {v : Value} {xs : List Int}
theorem Ow.nil_ (w : World) (base : Nat) : Ow w base (.slice none 0 0) [] := World.ownsRow_nil w base 3 1
theorem Ow.form (h : Ow w base v xs) : ∃ A c, v = .slice A xs.length c ∧ xs.length ≤ c ∧ c ≤ maxLen ∧ Rd w A xs := by
  have h0 := h
  obtain ⟨h1, h2⟩ := h
  rcases h2 with ⟨hv, hn⟩ | ⟨g, cap, cur, hv, hg, hh, hn, hcap, hsz, ht⟩
  · have : xs = [] := List.length_eq_zero_iff.1 hn
    subst this
    exact ⟨none, 0, hv, Nat.le_refl _, Nat.zero_le _, Rd.nil_ _ _⟩
  · subst hv
    refine ⟨some ⟨g, 0, none⟩, cap, rfl, hn, hcap, fun hp => ⟨_, rfl, fun j hj => ?_⟩⟩
    have := h0.cells (g := g) rfl j (.int .i64 (xs.getD j 0)) (by simp [List.getD, List.getElem?_eq_getElem hj])
    exact this
theorem Ow.lt (h : Ow w base v xs) : ∀ k, v.ownBlock = some k → base ≤ k ∧ k < w.heap.size := World.ownsRow.lt h
theorem Ow.kept {row : Option Nat} (h : Ow w base v xs) (hg : w.grownBy w' row) (hne : v.ownBlock = none ∨ v.ownBlock ≠ row) : Ow w' base v xs := World.ownsRow.kept h hg hne
theorem Ow.below {B : Nat} (h : Ow w base v xs) (hb : Below B w w') (hB : ∀ k, v.ownBlock = some k → k < B) : Ow w' base v xs := by
  obtain ⟨h1, h2⟩ := h
  refine ⟨h1, ?_⟩
  rcases h2 with h2 | ⟨g, cap, cur, hv, hg, hh, r⟩
  · exact Or.inl h2
  · exact Or.inr ⟨g, cap, cur, hv, hg, by rw [hb.block g (hB g (by rw [hv]; rfl))]; exact hh, r⟩
theorem Ow.below' (h : Ow w base v xs) (hb : Below w.heap.size w w') : Ow w' base v xs := h.below hb fun k hk => (h.lt k hk).2
theorem Ow.more {base' : Nat} (h : Ow w base v xs) (hb : base' ≤ base) : Ow w base' v xs := by
  obtain ⟨h1, h2⟩ := h
  refine ⟨h1, ?_⟩
  rcases h2 with h2 | ⟨g, cap, cur, hv, hg, r⟩
  · exact Or.inl h2
  · exact Or.inr ⟨g, cap, cur, hv, by omega, r⟩
theorem Ow.alloc (h : Ow w base v xs) (o : Obj) : Ow (w.alloc o) base v xs := World.ownsRow.alloc h o
theorem Ow.drewN (h : Ow w base v xs) (n : Nat) : Ow (w.drewN n) base v xs := h
theorem Ow.drew (h : Ow w base v xs) : Ow w.drew base v xs := h
end

section
variable {w w' : World} {base c : Nat} {A : Option Addr} {xs : List Int}
theorem Ow.addr (h : Ow w base (.slice A xs.length c) xs) (hp : 0 < xs.length) : ∃ g, A = some ⟨g, 0, none⟩ := by
  rcases h.2 with ⟨hv, hn⟩ | ⟨g, cap, cur, hv, _⟩
  · omega
  · exact ⟨g, by injection hv⟩
theorem Ow.rd (h : Ow w base (.slice A xs.length c) xs) : Rd w A xs := by
  obtain ⟨A', c', hv, _, _, hr⟩ := h.form
  injection hv with e
  subst e
  exact hr
theorem Ow.cap (h : Ow w base (.slice A xs.length c) xs) : xs.length ≤ c ∧ c ≤ maxLen := by
  obtain ⟨A', c', hv, h1, h2, _⟩ := h.form
  injection hv with _ _ e
  subst e
  exact ⟨h1, h2⟩
/-- A number of a row of the call's own: where it lies; that it may be written; what is owned behind the store. -/
theorem Ow.at_ (h : Ow w base (.slice A xs.length c) xs) {k : Nat} (hk : k < xs.length) :
    ∃ g x, A = some ⟨g, 0, none⟩ ∧ Hid (xs[k]? = some x) ∧ w.cell? ⟨g, k, none⟩ = some (.int .i64 x) ∧ w.frozen? ⟨g, k, none⟩ = false ∧
      ∀ u, Ow (w.setCell ⟨g, k, none⟩ (.int .i64 u)) base (.slice A xs.length c) (xs.set k u) ∧ w.grownBy (w.setCell ⟨g, k, none⟩ (.int .i64 u)) (some g) := by
  obtain ⟨g, rfl⟩ := h.addr (by omega)
  refine ⟨g, xs[k], rfl, (List.getElem?_eq_getElem hk : xs[k]? = some xs[k]), ?_, World.ownsRow.frozenAt h k, fun u => ?_⟩
  · rw [World.ownsRow.cellAt h k (by omega)]
    simp [List.getElem?_eq_getElem hk]
  · have := World.ownsRow.stored h k (.int .i64 u)
    refine ⟨?_, this.2⟩
    unfold Ow
    rw [List.length_set, List.map_set]
    exact this.1
end
theorem Ow.rd' {w : World} {base c n : Nat} {A : Option Addr} {xs : List Int} (h : Ow w base (.slice A n c) xs) (hn : xs.length = n) : Rd w A xs := by
  subst hn
  exact h.rd
theorem own_ne {t s : Value} {B : Nat} (h1 : ∀ k, t.ownBlock = some k → k < B) (h2 : ∀ k, s.ownBlock = some k → B ≤ k) : t.ownBlock = none ∨ t.ownBlock ≠ s.ownBlock := by
  rcases ht : t.ownBlock with _ | k
  · exact .inl rfl
  · right
    intro e
    have a := h1 k ht
    have b := h2 k e.symm
    omega
theorem own_ne' {t s : Value} {B : Nat} (h1 : ∀ k, s.ownBlock = some k → k < B) (h2 : ∀ k, t.ownBlock = some k → B ≤ k) : t.ownBlock = none ∨ t.ownBlock ≠ s.ownBlock := by
  rcases ht : t.ownBlock with _ | k
  · exact .inl rfl
  · right
    intro e
    have a := h1 k e.symm
    have b := h2 k ht
    omega
theorem grown_trans {a b d : World} {row : Option Nat} (h : a.grownBy b row) (k : b.grownBy d row) : a.grownBy d row :=
  ⟨k.os.trans h.os, k.tape.trans h.tape, k.output.trans h.output, Nat.le_trans h.size k.size, fun i hi hn => (k.block i (Nat.lt_of_lt_of_le hi h.size) hn).trans (h.block i hi hn)⟩
theorem grown_below {a b : World} {row : Option Nat} (h : a.grownBy b row) {B : Nat} (hB : B ≤ a.heap.size) (hr : ∀ k, row = some k → B ≤ k) : Below B a b := (Below.refl B a).grown h hB hr

/-- The numbers k, k + 1, .. -/
def marks (k : Int) (n : Nat) : List Int := (List.range n).map fun i => k + (i : Nat)
theorem marks_length (k : Int) (n : Nat) : (marks k n).length = n := by simp [marks]
theorem marks_at (k : Int) (n i : Nat) (h : i < n) : (marks k n)[i]? = some (k + i) := by simp [marks, h]
theorem marks_succ (k : Int) (n : Nat) : marks k (n + 1) = marks k n ++ [k + n] := by simp [marks, List.range_succ]

/-- n lies between lo and hi. -/
def inB (n lo hi : Int) : Bool := decide (lo ≤ n) && decide (n ≤ hi)
theorem inB_true {n lo hi : Int} (h : inB n lo hi = true) : lo ≤ n ∧ n ≤ hi := by simpa [inB] using h
theorem inB_of {n lo hi : Int} (h : lo ≤ n ∧ n ≤ hi) : inB n lo hi = true := by simpa [inB] using h
theorem inB_false {n lo hi : Int} (h : inB n lo hi = false) : ¬ (lo ≤ n ∧ n ≤ hi) := fun h' => by rw [inB_of h'] at h; cases h

theorem below_drewN {B : Nat} {a w : World} (h : Below B a w) (n : Nat) : Below B a (w.drewN n) := ⟨h.os, h.tape, h.output, h.size, h.block⟩

theorem ret_int {k : IntKind} {a b : Int} (h : a = b) : Ending.returned (.int k a) = .returned (.int k b) := by rw [h]
theorem ret_bool {a b : Bool} (h : a = b) : Ending.returned (.bool a) = .returned (.bool b) := by rw [h]
theorem hide {p : Prop} (h : p) : Hid p := h

theorem info3 : (Try.prog.info? 3).map (fun i => (i.zero, i.size, i.bytes)) = some (some (.int .i64 0), 1, 8) := by kernel_rfl

end Go.Proofs.Ythnpobbpmgjhjaa
