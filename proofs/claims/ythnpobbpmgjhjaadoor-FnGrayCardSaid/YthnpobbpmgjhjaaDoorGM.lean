/-
  PLAIN LAWS on Gray codes: neighbors differ in one digit, numbers are found again. No program in sight.
-/
import Derived.Test.YthnpobbpmgjhjaaDoorG3
import Derived.Test.YthnpobbpmgjhjaaDoorG6
import Derived.Test.YthnpobbpmgjhjaaDoorG10
namespace Go.Proofs.YthnpobbpmgjhjaaDoor
open Go.RowKit

def tzF : Nat → Nat → Nat
  | 0, _ => 0
  | f + 1, n => if n % 2 = 0 then tzF f (n / 2) + 1 else 0
/-- The place of the lowest one. -/
def tzN (n : Nat) : Nat := tzF 64 n
theorem xor_cancel (a b c : Nat) : (a ^^^ b) ^^^ (c ^^^ b) = a ^^^ c := by
  rw [Nat.xor_comm c b, ← Nat.xor_assoc, Nat.xor_assoc a b b, Nat.xor_self, Nat.xor_zero]
theorem xor_mod (a b : Nat) : (a ^^^ b) % 2 = (a + b) % 2 := by
  have h := Nat.testBit_xor a b 0
  rw [Nat.testBit_zero, Nat.testBit_zero, Nat.testBit_zero] at h
  generalize a ^^^ b = c at h ⊢
  by_cases ha : a % 2 = 1
  · by_cases hb : b % 2 = 1
    · rw [decide_eq_true ha, decide_eq_true hb] at h
      have : ¬ c % 2 = 1 := of_decide_eq_false h
      omega
    · rw [decide_eq_true ha, decide_eq_false hb] at h
      have : c % 2 = 1 := of_decide_eq_true h
      omega
  · by_cases hb : b % 2 = 1
    · rw [decide_eq_false ha, decide_eq_true hb] at h
      have : c % 2 = 1 := of_decide_eq_true h
      omega
    · rw [decide_eq_false ha, decide_eq_false hb] at h
      have : ¬ c % 2 = 1 := of_decide_eq_false h
      omega
theorem gray_div (n : Nat) : grayN n / 2 = grayN (n / 2) := by
  unfold grayN
  rw [Nat.xor_div_two]
theorem gray_mod (n : Nat) : grayN n % 2 = (n + n / 2) % 2 := by
  unfold grayN
  rw [xor_mod]
theorem gray_flip : ∀ (f n : Nat), 0 < n → n < 2 ^ f → grayN (n - 1) ^^^ grayN n = 2 ^ tzF f n ∧ tzF f n < f := by
  intro f
  induction f with
  | zero => intro n h0 h1; simp at h1; omega
  | succ f ih =>
    intro n h0 h1
    have h1' : n < 2 ^ f * 2 := by rwa [Nat.pow_succ] at h1
    by_cases he : n % 2 = 0
    · simp only [tzF, if_pos he]
      obtain ⟨m, rfl⟩ : ∃ m, n = 2 * m := ⟨n / 2, by omega⟩
      obtain ⟨i1, i2⟩ := ih m (by omega) (by omega)
      rw [show 2 * m / 2 = m by omega]
      refine ⟨?_, by omega⟩
      have hd : (grayN (2 * m - 1) ^^^ grayN (2 * m)) / 2 = 2 ^ tzF f m := by
        rw [Nat.xor_div_two, gray_div, gray_div, show (2 * m - 1) / 2 = m - 1 by omega, show 2 * m / 2 = m by omega, i1]
      have hm : (grayN (2 * m - 1) ^^^ grayN (2 * m)) % 2 = 0 := by
        rw [xor_mod]
        have a := gray_mod (2 * m - 1)
        have b := gray_mod (2 * m)
        rw [show (2 * m - 1) / 2 = m - 1 by omega] at a
        rw [show 2 * m / 2 = m by omega] at b
        omega
      rw [Nat.pow_succ]
      omega
    · simp only [tzF, if_neg he]
      obtain ⟨m, rfl⟩ : ∃ m, n = 2 * m + 1 := ⟨n / 2, by omega⟩
      refine ⟨?_, by omega⟩
      have hd : (grayN (2 * m + 1 - 1) ^^^ grayN (2 * m + 1)) / 2 = 0 := by
        rw [Nat.xor_div_two, gray_div, gray_div, show (2 * m + 1 - 1) / 2 = m by omega, show (2 * m + 1) / 2 = m by omega, Nat.xor_self]
      have hm : (grayN (2 * m + 1 - 1) ^^^ grayN (2 * m + 1)) % 2 = 1 := by
        rw [xor_mod]
        have a := gray_mod (2 * m + 1 - 1)
        have b := gray_mod (2 * m + 1)
        rw [show (2 * m + 1 - 1) / 2 = m by omega] at a
        rw [show (2 * m + 1) / 2 = m by omega] at b
        omega
      rw [Nat.pow_zero]
      omega
theorem tz_le : ∀ (f n k : Nat), 0 < n → n < 2 ^ k → tzF f n < k ∨ k = 0 := by
  intro f
  induction f with
  | zero => intro n k h0 h1; simp only [tzF]; omega
  | succ f ih =>
    intro n k h0 h1
    cases k with
    | zero => exact .inr rfl
    | succ k =>
      left
      simp only [tzF]
      split
      · rw [Nat.pow_succ] at h1
        rcases ih (n / 2) k (by omega) (by omega) with h | h
        · omega
        · subst h; simp at h1; omega
      · omega
theorem FG_acc : ∀ (g n : Nat), FG n g = n ^^^ FG 0 g := by
  intro g
  induction g using Nat.strongRecOn with
  | ind g ih =>
    intro n
    by_cases h : g = 0
    · subst h; rw [FG_zero, FG_zero, Nat.xor_zero]
    · rw [FG_pos n g (by omega), FG_pos 0 g (by omega), ih (g / 2) (by omega), ih (g / 2) (by omega) (0 ^^^ g), Nat.zero_xor, Nat.xor_assoc]
theorem FG_step (g : Nat) : FG 0 g = g ^^^ FG 0 (g / 2) := by
  by_cases h : g = 0
  · subst h; rw [FG_zero]; rfl
  · rw [FG_pos 0 g (by omega), FG_acc, Nat.zero_xor]
theorem FG_gray (n : Nat) : FG 0 (grayN n) = n := by
  induction n using Nat.strongRecOn with
  | ind n ih =>
    by_cases h : n = 0
    · subst h; exact FG_zero 0
    · rw [FG_step, gray_div, ih (n / 2) (by omega)]
      unfold grayN
      rw [Nat.xor_assoc, Nat.xor_self, Nat.xor_zero]
theorem FG_flip (s : Nat) : FG 0 (s ^^^ 1) = FG 0 s ^^^ 1 := by
  have e : (s ^^^ 1) / 2 = s / 2 := by rw [Nat.xor_div_two]; simp
  rw [FG_step (s ^^^ 1), FG_step s, e, Nat.xor_assoc, Nat.xor_comm 1, ← Nat.xor_assoc]
theorem xor_one (a : Nat) : (a ^^^ 1) = a + 1 ∨ (a ^^^ 1) + 1 = a := by
  have h1 : (a ^^^ 1) / 2 = a / 2 := by rw [Nat.xor_div_two]; simp
  have h2 : (a ^^^ 1) % 2 = (a + 1) % 2 := xor_mod a 1
  omega
theorem FG_lt : ∀ (k g : Nat), g < 2 ^ k → FG 0 g < 2 ^ k := by
  intro k
  induction k with
  | zero => intro g h; simp at h; subst h; rw [FG_zero]; simp
  | succ k ih =>
    intro g h
    rw [FG_step]
    refine Nat.xor_lt_two_pow h ?_
    have := ih (g / 2) (by rw [Nat.pow_succ] at h; omega)
    rw [Nat.pow_succ]; omega
theorem FG_512 : FG 0 512 = 1023 := by
  rw [FG_step, FG_step (512 / 2), FG_step (512 / 2 / 2), FG_step (512 / 2 / 2 / 2), FG_step (512 / 2 / 2 / 2 / 2), FG_step (512 / 2 / 2 / 2 / 2 / 2), FG_step (512 / 2 / 2 / 2 / 2 / 2 / 2), FG_step (512 / 2 / 2 / 2 / 2 / 2 / 2 / 2), FG_step (512 / 2 / 2 / 2 / 2 / 2 / 2 / 2 / 2), FG_step (512 / 2 / 2 / 2 / 2 / 2 / 2 / 2 / 2 / 2)]
  rw [show 512 / 2 / 2 / 2 / 2 / 2 / 2 / 2 / 2 / 2 / 2 = 0 by decide, FG_zero]
  decide
def One : List Int → List Int → Prop
  | x :: xs, y :: ys => (x ≠ y ∧ x - y ≤ 1 ∧ y - x ≤ 1 ∧ xs = ys) ∨ (x = y ∧ One xs ys)
  | _, _ => False
theorem div_range {n r p : Int} (hr : 2 ≤ r) (h0 : 0 ≤ n) (h1 : n < r * p) : 0 ≤ n / r ∧ n / r < p := ⟨Int.ediv_nonneg h0 (by omega), Int.ediv_lt_of_lt_mul (by omega) (by rw [Int.mul_comm]; exact h1)⟩
/-- Neighbors in the Gray code. -/
theorem gray_one : ∀ (rs : List Int), (∀ r ∈ rs, (2 : Int) ≤ r) → ∀ n : Int, 0 ≤ n → n + 1 < prodI rs →
    One (fL true (mdL n rs) rs).1 (fL true (mdL (n + 1) rs) rs).1 ∧ ((fL true (mdL (n + 1) rs) rs).2 + (fL true (mdL n rs) rs).2) % 2 = 1 := by
  intro rs
  induction rs with
  | nil => intro _ n h0 h1; simp [prodI] at h1; omega
  | cons r rs ih =>
    intro hr n h0 h1
    have hr2 := hr r (by simp)
    simp only [prodI] at h1
    obtain ⟨d0, d1⟩ := div_range hr2 h0 (show n < r * prodI rs by omega)
    have e0 := Int.emod_nonneg n (show r ≠ 0 by omega)
    have e1 := Int.emod_lt_of_pos n (show 0 < r by omega)
    have e2 := Int.mul_ediv_add_emod n r
    by_cases hd : n % r + 1 < r
    · have q1 : (n + 1) / r = n / r := by
        rw [show n + 1 = n % r + 1 + r * (n / r) by omega, Int.add_mul_ediv_left _ _ (by omega), Int.ediv_eq_zero_of_lt (by omega) hd, Int.zero_add]
      have q2 : (n + 1) % r = n % r + 1 := by
        rw [show n + 1 = n % r + 1 + r * (n / r) by omega, Int.add_mul_emod_self_left, Int.emod_eq_of_lt (by omega) hd]
      simp only [mdL, fL, q1, q2, if_true]
      generalize fL true (mdL (n / r) rs) rs = p
      by_cases hp : p.2 % 2 = 1
      · simp only [if_pos hp]
        exact ⟨.inl ⟨by omega, by omega, by omega, rfl⟩, by omega⟩
      · simp only [if_neg hp]
        exact ⟨.inl ⟨by omega, by omega, by omega, rfl⟩, by omega⟩
    · have q1 : (n + 1) / r = n / r + 1 := by
        rw [show n + 1 = 0 + r * (n / r + 1) by rw [Int.mul_add]; omega, Int.add_mul_ediv_left _ _ (by omega)]
        simp
      have q2 : (n + 1) % r = 0 := by
        rw [show n + 1 = 0 + r * (n / r + 1) by rw [Int.mul_add]; omega, Int.add_mul_emod_self_left]
        simp
      have hlt : n / r + 1 < prodI rs := by
        have : r * (n / r + 1) < r * prodI rs := by rw [Int.mul_add]; omega
        exact Int.lt_of_mul_lt_mul_left this (by omega)
      obtain ⟨i1, i2⟩ := ih (fun x hx => hr x (by simp [hx])) (n / r) d0 hlt
      have q3 : n % r = r - 1 := by omega
      simp only [mdL, fL, q1, q2, q3, if_true]
      generalize fL true (mdL (n / r) rs) rs = p at i1 i2 ⊢
      generalize fL true (mdL (n / r + 1) rs) rs = p' at i1 i2 ⊢
      by_cases hp : p.2 % 2 = 1
      · have hp' : ¬ p'.2 % 2 = 1 := by omega
        simp only [if_pos hp, if_neg hp']
        exact ⟨.inr ⟨by omega, i1⟩, by omega⟩
      · have hp' : p'.2 % 2 = 1 := by omega
        simp only [if_neg hp, if_pos hp']
        exact ⟨.inr ⟨by omega, i1⟩, by omega⟩
theorem fL_back : ∀ (ds rs : List Int), ds.length = rs.length → fL false (fL true ds rs).1 rs = (ds, (fL true ds rs).2) := by
  intro ds
  induction ds with
  | nil => intro rs h; simp [fL]
  | cons d ds ih =>
    intro rs h
    cases rs with
    | nil => simp at h
    | cons r rs =>
      have i := ih rs (by simpa using h)
      simp only [fL, i, if_true]
      by_cases hp : (fL true ds rs).2 % 2 = 1
      · simp only [if_pos hp]
        simp
        omega
      · simp [hp]
theorem mv_md : ∀ (rs : List Int), (∀ r ∈ rs, (2 : Int) ≤ r) → ∀ n : Int, 0 ≤ n → n < prodI rs → mvL (mdL n rs) rs = n := by
  intro rs
  induction rs with
  | nil => intro _ n h0 h1; simp [prodI] at h1; simp [mvL, mdL]; omega
  | cons r rs ih =>
    intro hr n h0 h1
    have hr2 := hr r (by simp)
    simp only [prodI] at h1
    obtain ⟨d0, d1⟩ := div_range hr2 h0 h1
    simp only [mdL, mvL]
    rw [ih (fun x hx => hr x (by simp [hx])) _ d0 d1, Int.mul_comm]
    exact Int.mul_ediv_add_emod n r
theorem One.facts : ∀ (xs ys : List Int), One xs ys → xs.length = ys.length ∧ (∀ (i : Nat) (x y : Int), xs[i]? = some x → ys[i]? = some y → x - y ≤ 1 ∧ y - x ≤ 1) ∧
    ∃ k, k < xs.length ∧ ∀ i, (xs[i]? = ys[i]? ↔ i ≠ k) := by
  intro xs
  induction xs with
  | nil => intro ys h; cases ys <;> exact h.elim
  | cons x xs ih =>
    intro ys h
    cases ys with
    | nil => exact h.elim
    | cons y ys =>
      rcases h with ⟨h1, h2, h3, rfl⟩ | ⟨rfl, h⟩
      · refine ⟨rfl, fun i a b ha hb => ?_, 0, by simp, fun i => ?_⟩
        · cases i with
          | zero => simp at ha hb; omega
          | succ i => simp at ha hb; rw [ha] at hb; have := Option.some.inj hb; omega
        · cases i with
          | zero => simp [h1]
          | succ i => simp
      · obtain ⟨i1, i2, k, hk, i3⟩ := ih ys h
        refine ⟨by simp [i1], fun i a b ha hb => ?_, k + 1, by simp; omega, fun i => ?_⟩
        · cases i with
          | zero => simp at ha hb; omega
          | succ i => exact i2 i a b (by simpa using ha) (by simpa using hb)
        · cases i with
          | zero => simp
          | succ i => simpa using i3 i
theorem cdiff_one {xs ys : List Int} {k : Nat} (h : ∀ i, (xs[i]? = ys[i]? ↔ i ≠ k)) : ∀ n, cdiff xs ys n = if k < n then 1 else 0 := by
  intro n
  induction n with
  | zero => simp [cdiff_zero]
  | succ n ih =>
    rw [cdiff_succ, ih]
    have := h n
    by_cases e : n = k
    · subst e
      have h2 : ¬ xs[n]? = ys[n]? := fun h3 => (this.1 h3) rfl
      rw [if_neg h2]; simp
    · rw [if_pos (this.2 e)]
      by_cases h3 : k < n
      · rw [if_pos h3, if_pos (by omega)]
      · rw [if_neg h3, if_neg (by omega)]

theorem rad_two {rs : List Int} (h : radB rs = true) : ∀ r ∈ rs, (2 : Int) ≤ r := fun r hr => ((radB_parts h).2.2.1 r hr).1
theorem mixDR_of {n : Int} {rs : List Int} (h : radB rs = true) (h0 : 0 ≤ n) (h1 : n < prodI rs) : mixDR n rs = mdL n rs := by
  unfold mixDR
  rw [h, inB_of ⟨h0, by omega⟩]
  rfl
theorem gray_mix {n : Int} {rs : List Int} (h : radB rs = true) (h0 : 0 ≤ n) (h1 : n < prodI rs) : mixOkB (grayDR n rs) rs = true ∧ (grayDR n rs).length = rs.length := by
  have e := mixDR_of h h0 h1
  have hl : (grayDR n rs).length = rs.length := by rw [grayDR_len', e, mdL_len]
  refine ⟨?_, hl⟩
  unfold mixOkB
  rw [h, Bool.true_and]
  refine isMixB_true hl fun i hi => ?_
  have hd := fL_digs (own := true) (mixDR_digs n rs)
  have hx : (grayDR n rs)[i]? = some (grayDR n rs)[i] := List.getElem?_eq_getElem hi
  have hr : rs[i]? = some (rs[i]'(by omega)) := List.getElem?_eq_getElem (by omega)
  rw [inR_eq hx hr]
  have := hd i _ _ hx hr
  exact inB_of ⟨this.1, this.2.1⟩
/-- What the law says of digits. -/
theorem gray_law {m : Int} {rs : List Int} (h : radB rs = true) (h0 : 0 ≤ m) (h1 : m + 1 < prodI rs) :
    (grayDR m rs).length = rs.length ∧ (grayDR (m + 1) rs).length = rs.length ∧ countR (grayDR m rs) (grayDR (m + 1) rs) = 1 ∧ fromGR (grayDR m rs) rs = m ∧ fromGR (grayDR (m + 1) rs) rs = m + 1 ∧
      ∀ (i : Nat) (x y : Int), (grayDR m rs)[i]? = some x → (grayDR (m + 1) rs)[i]? = some y → x - y ≤ 1 ∧ y - x ≤ 1 := by
  have a := gray_mix h h0 (show m < prodI rs by omega)
  have b := gray_mix h (show 0 ≤ m + 1 by omega) h1
  have e1 := mixDR_of h h0 (show m < prodI rs by omega)
  have e2 := mixDR_of h (show 0 ≤ m + 1 by omega) h1
  have o := (gray_one rs (rad_two h) m h0 h1).1
  have g1 : grayDR m rs = (fL true (mdL m rs) rs).1 := by unfold grayDR; rw [e1]
  have g2 : grayDR (m + 1) rs = (fL true (mdL (m + 1) rs) rs).1 := by unfold grayDR; rw [e2]
  rw [← g1, ← g2] at o
  obtain ⟨f1, f2, k, hk, f3⟩ := o.facts
  refine ⟨a.2, b.2, ?_, ?_, ?_, f2⟩
  · unfold countR
    rw [if_pos f1, cdiff_one f3, if_pos hk]
    rfl
  · unfold fromGR
    rw [a.1, if_pos rfl, g1, fL_back _ _ (mdL_len m rs)]
    exact mv_md rs (rad_two h) m h0 (by omega)
  · unfold fromGR
    rw [b.1, if_pos rfl, g2, fL_back _ _ (mdL_len (m + 1) rs)]
    exact mv_md rs (rad_two h) (m + 1) (by omega) h1
theorem cycles_ok : (List.range 6).all (fun q => cycB (cycleR ((q : Int) + 1)) ((q : Int) + 1) && decide ((cycleR ((q : Int) + 1)).length = 2 ^ (q + 1))) = true := by decide +kernel
theorem cycle_law {q : Nat} (h : q < 6) : cycB (cycleR ((q : Int) + 1)) ((q : Int) + 1) = true ∧ (cycleR ((q : Int) + 1)).length = 2 ^ (q + 1) := by
  have := List.all_eq_true.1 cycles_ok q (List.mem_range.2 h)
  rw [Bool.and_eq_true] at this
  exact ⟨this.1, of_decide_eq_true this.2⟩
/-- What the law says of rings. -/
theorem ring_law {s : Nat} (h : s < 1024) : ∃ now up : Nat, ringR (s : Int) 10 = now ∧ ringR (bits .xor .i64 (s : Int) 1) 10 = up ∧ (up = now + 1 ∨ up + 1 = now) ∧ now < 1024 ∧ up < 1024 ∧ I64 (bits .xor .i64 (s : Int) 1) := by
  have e : bits .xor .i64 (s : Int) 1 = ((s ^^^ 1 : Nat) : Int) := i64_xor_nat s 1 (by omega) (by omega)
  have hx : s ^^^ 1 < 2 ^ 10 := Nat.xor_lt_two_pow (by omega) (by omega)
  have r1 : ringR (s : Int) 10 = (FG 0 s : Nat) := by
    unfold ringR
    rw [inB_of ⟨by omega, by omega⟩, inB_of ⟨by omega, by simp; omega⟩]
    rfl
  have r2 : ringR ((s ^^^ 1 : Nat) : Int) 10 = (FG 0 (s ^^^ 1) : Nat) := by
    unfold ringR
    rw [inB_of ⟨by omega, by omega⟩, inB_of ⟨by omega, by simp; omega⟩]
    rfl
  have l1 := FG_lt 10 s (by omega)
  have l2 := FG_lt 10 _ hx
  refine ⟨FG 0 s, FG 0 (s ^^^ 1), r1, by rw [e, r2], ?_, by omega, by omega, ?_⟩
  · rw [FG_flip]; exact xor_one _
  · rw [e]; exact ⟨by omega, by omega⟩
theorem ring_0 : ringR 0 10 = 0 := by
  unfold ringR
  rw [inB_of ⟨by omega, by omega⟩, inB_of ⟨by omega, by decide⟩]
  show ((FG 0 0 : Nat) : Int) = 0
  rw [FG_zero]; rfl
theorem ring_512 : ringR 512 10 = 1023 := by
  unfold ringR
  rw [inB_of ⟨by omega, by omega⟩, inB_of ⟨by omega, by decide⟩]
  show ((FG 0 512 : Nat) : Int) = 1023
  rw [FG_512]; rfl
/-- What the law says of a number and its neighbor. -/
theorem number_law {n : Nat} (h0 : 1 ≤ n) (h1 : n ≤ 100000000000) : ∃ (a b k : Nat), grayR ((n - 1 : Nat) : Int) = a ∧ grayR (n : Int) = b ∧ tzN n = k ∧ k < 40 ∧ a ^^^ b = 2 ^ k ∧ fromR (b : Int) = n ∧ b < 1099511627776 ∧ a < 1099511627776 := by
  have h40 : n < 2 ^ 40 := by omega
  obtain ⟨f1, f2⟩ := gray_flip 64 n h0 (Nat.lt_of_lt_of_le h40 (Nat.pow_le_pow_right (by omega) (by omega)))
  have hk := tz_le 64 n 37 h0 (by omega)
  have b1 : grayN n < 2 ^ 37 := Nat.xor_lt_two_pow (by omega) (by omega)
  have b2 : grayN (n - 1) < 2 ^ 37 := Nat.xor_lt_two_pow (by omega) (by omega)
  refine ⟨grayN (n - 1), grayN n, tzN n, grayR_of _ (by omega), grayR_of _ (by omega), rfl, by unfold tzN; omega, f1, ?_, by omega, by omega⟩
  unfold fromR
  rw [inB_of ⟨by omega, by omega⟩]
  show ((FG 0 (grayN n) : Nat) : Int) = n
  rw [FG_gray]
end Go.Proofs.YthnpobbpmgjhjaaDoor
