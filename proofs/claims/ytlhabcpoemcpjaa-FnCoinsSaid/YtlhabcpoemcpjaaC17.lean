/-
  PLAIN LAWS toward FnCoins: greedy digits and fewest coins, numbers of ways, two tables. No program in sight.
-/
import Derived.Test.YtlhabcpoemcpjaaC16
namespace Go.Proofs.Ytlhabcpoemcpjaa
open Go.RowKit

theorem dotL_snoc : ∀ (A C : List Int) (a c : Int), A.length = C.length → dotL (A ++ [a]) (C ++ [c]) = dotL A C + a * c := by
  intro A
  induction A with
  | nil =>
    intro C a c h
    have : C = [] := List.length_eq_zero_iff.1 (by simpa using h.symm)
    subst this
    simp [dotL]
  | cons x A ih =>
    intro C a c h
    cases C with
    | nil => simp at h
    | cons y C => simp only [List.cons_append, dotL, ih C a c (by simpa using h)]; omega
theorem dotK_dotL {ds cs : List Int} (hl : ds.length = cs.length) : ∀ k, k ≤ ds.length → dotK ds cs k = dotL (ds.take k) (cs.take k) := by
  intro k
  induction k with
  | zero => intro _; rw [dotK_zero]; simp [dotL]
  | succ k ih =>
    intro hk
    have hd : ds[k]? = some ds[k] := List.getElem?_eq_getElem (by omega)
    have hc : cs[k]? = some (cs[k]'(by omega)) := List.getElem?_eq_getElem (by omega)
    rw [dotK_step hd hc, ih (by omega), List.take_add_one, List.take_add_one, hd, hc]
    simp only [Option.toList_some]
    rw [dotL_snoc _ _ _ _ (by rw [List.length_take, List.length_take]; omega)]
theorem dot_all {ds cs : List Int} (hl : ds.length = cs.length) : dotK ds cs ds.length = dotL ds cs := by
  have := dotK_dotL hl ds.length (Nat.le_refl _)
  rw [List.take_length] at this
  rw [this, hl, List.take_length]
theorem sumP_snoc (xs : List Int) (y : Int) : sumP (xs ++ [y]) = sumP xs + y := by
  induction xs with
  | nil => simp [sumP]
  | cons x xs ih => simp only [List.cons_append, sumP, ih]; omega
theorem sumTo_sumP (xs : List Int) : ∀ k, k ≤ xs.length → sumTo xs k = sumP (xs.take k) := by
  intro k
  induction k with
  | zero => intro _; rw [sumTo_zero]; simp [sumP]
  | succ k ih =>
    intro hk
    have hx : xs[k]? = some xs[k] := List.getElem?_eq_getElem (by omega)
    rw [sumTo_succ hx, ih (by omega), List.take_add_one, hx]
    exact (sumP_snoc _ _).symm
theorem sumL_sumP (xs : List Int) : sumL xs = sumP xs := by
  unfold sumL
  rw [sumTo_sumP xs xs.length (Nat.le_refl _), List.take_length]
/-- Greedy digits have the right value. -/
theorem grD_dot {cs : List Int} (h0 : cs[0]? = some 1) : ∀ k, k < cs.length → ∀ n : Int, dotL (grD cs (k + 1) n) (cs.take (k + 1)) = n := by
  intro k
  induction k with
  | zero =>
    intro _ n
    rw [grD_step h0, grD_zero, List.take_add_one, h0]
    simp [dotL]
  | succ k ih =>
    intro hk n
    have hc : cs[k + 1]? = some cs[k + 1] := List.getElem?_eq_getElem (by omega)
    rw [grD_step hc, List.take_add_one, hc]
    simp only [Option.toList_some]
    rw [dotL_snoc _ _ _ _ (by rw [grD_len, List.length_take]; omega), ih (by omega)]
    have := Int.emod_add_mul_ediv n cs[k + 1]
    rw [Int.mul_comm (n / cs[k + 1])]
    omega
theorem greedy_facts {cs : List Int} (h1 : coinsB cs = true) {n : Int} (h2 : inB n 0 100000 = true) : (greedyR n cs).length = cs.length ∧ dotL (greedyR n cs) cs = n ∧ (∀ x ∈ greedyR n cs, (0 : Int) ≤ x ∧ x ≤ 100000) ∧ coinsValueR (greedyR n cs) cs = n ∧ isGreedyR (greedyR n cs) cs = true := by
  obtain ⟨p1, p2, p3, p4, p5⟩ := coinsB_parts h1
  have e := greedyR_of h1 h2
  have hl : (greedyR n cs).length = cs.length := by rw [e, grD_len]
  obtain ⟨k, hk⟩ : ∃ k, cs.length = k + 1 := ⟨cs.length - 1, by omega⟩
  have hd : dotL (greedyR n cs) cs = n := by
    have := grD_dot p4 k (by omega) n
    rw [← hk, List.take_length] at this
    rw [e, this]
  have hm := greedyR_mem n cs
  have hall : allB (greedyR n cs) 0 100000 = true := by
    unfold allB
    rw [List.all_eq_true]
    exact fun x hx => inB_of (hm x hx)
  have hv : coinsValueR (greedyR n cs) cs = n := by rw [coinsValueR_of h1 hl hall, dot_all hl, hd]
  refine ⟨hl, hd, hm, hv, ?_⟩
  rw [isGreedyR_of (by rw [hv]; exact h2), hv]
  exact beq_self_eq_true _
theorem fewest_greedy {cs : List Int} (h1 : coinsB cs = true) {n : Nat} (h2 : inB (n : Int) 0 400 = true) : fewestR n cs ≤ sumP (greedyR n cs) := by
  obtain ⟨v, e, _, hm, _⟩ := fewest_law h1 h2
  have hb := inB_true h2
  obtain ⟨g1, g2, g3, _⟩ := greedy_facts h1 (n := (n : Int)) (inB_of ⟨by omega, by omega⟩)
  obtain ⟨r, r0⟩ := Rep.of_list cs (greedyR n cs) g1 (fun x hx => (g3 x hx).1)
  rw [g2] at r
  have := hm _ r
  rw [e]
  omega
theorem least_facts {cs : List Int} (h1 : coinsB cs = true) {n : Nat} (h2 : inB (n : Int) 0 400 = true) : (leastL n cs).length = cs.length ∧ sumP (leastL n cs) = fewestR n cs ∧ coinsValueR (leastL n cs) cs = n ∧ ∀ x ∈ leastL n cs, (0 : Int) ≤ x ∧ x ≤ 400 := by
  obtain ⟨s, e, s4, hl, _⟩ := leastL_of h1 h2
  obtain ⟨f1, f2, f3, f4⟩ := lst_facts _ _ _ _ hl
  have hall : allB (leastL n cs) 0 100000 = true := by
    unfold allB
    rw [List.all_eq_true]
    exact fun x hx => inB_of (by have := f4 x hx; omega)
  exact ⟨f1, by rw [f3, e], by rw [coinsValueR_of h1 f1 hall, dot_all f1, f2], fun x hx => by have := f4 x hx; omega⟩
theorem fewT_prefix (cs : List Int) {x : Nat} : ∀ M, x ≤ M → (fewT cs M)[x]? = (fewT cs x)[x]? := by
  intro M
  induction M with
  | zero => intro h; obtain rfl : x = 0 := by omega
            rfl
  | succ M ih =>
    intro h
    by_cases e : x = M + 1
    · rw [e]
    · rw [fewT_succ, List.getElem?_append_left (by rw [fewT_len]; omega)]
      exact ih (by omega)
theorem worse_iff {cs : List Int} (h1 : coinsB cs = true) {M m : Nat} (hM : M ≤ 400) (hm : m ≤ M) : worse cs M m = decide (fewestR m cs < sumP (greedyR m cs)) := by
  have h2 : inB (m : Int) 0 400 = true := inB_of ⟨by omega, by omega⟩
  have hx : (fewT cs m)[m]? = some ((fewT cs m)[m]'(by rw [fewT_len]; omega)) := List.getElem?_eq_getElem _
  rw [worse_eq (by rw [fewT_prefix cs M hm]; exact hx), fewestR_of h1 h2 hx, sumL_sumP]
/-- What the first failure says. -/
theorem first_law {cs : List Int} (h1 : coinsB cs = true) {M : Nat} (hM : M ≤ 400) :
    (firstR cs M = -1 ∧ ∀ m : Nat, m ≤ M → sumP (greedyR m cs) ≤ fewestR m cs) ∨
    (∃ b : Nat, firstR cs M = b ∧ b ≤ M ∧ fewestR b cs < sumP (greedyR b cs) ∧ ∀ m : Nat, m < b → sumP (greedyR m cs) ≤ fewestR m cs) := by
  have h2 : inB (M : Int) 0 400 = true := inB_of ⟨by omega, by omega⟩
  rcases hf : (List.range (M + 1)).find? (worse cs M) with _ | b
  · left
    rw [List.find?_eq_none] at hf
    refine ⟨firstR_none fun j hj => by simpa using hf j (List.mem_range.2 hj), fun m hm => ?_⟩
    have := hf m (List.mem_range.2 (by omega))
    rw [worse_iff h1 hM hm] at this
    simpa using this
  · right
    rw [List.find?_range_eq_some] at hf
    obtain ⟨f1, f2, f3⟩ := hf
    have hb := List.mem_range.1 f2
    refine ⟨b, firstR_at h1 h2 (by omega) f1 fun j hj => by simpa using f3 j hj, by omega, ?_, fun m hm => ?_⟩
    · rw [worse_iff h1 hM (by omega)] at f1
      exact of_decide_eq_true f1
    · have := f3 m hm
      rw [worse_iff h1 hM (by omega)] at this
      simpa using this
/-- One coin more: the numbers of ways do not fall, and rise where the coin fits. -/
theorem cntK_law {T : List Int} {c n : Nat} {K : Int} (hc : 1 ≤ c) (hl : T.length = n + 1) (hn : n ≤ 90) (hK : 0 ≤ K) (hK2 : K ≤ 1000000000000) (hT : ∀ p : Nat, p ≤ n → 0 ≤ T.getD p 0 ∧ T.getD p 0 ≤ K) : ∀ k, c + k ≤ n + 1 →
    ∀ p : Nat, p ≤ n → T.getD p 0 ≤ (cntK T c k).getD p 0 ∧ (cntK T c k).getD p 0 ≤ (p + 1) * K ∧ (c + k ≤ p → (cntK T c k).getD p 0 = T.getD p 0) ∧ (p < c → (cntK T c k).getD p 0 = T.getD p 0) ∧ (c ≤ p → p < c + k → (cntK T c k).getD p 0 = T.getD p 0 + (cntK T c k).getD (p - c) 0) := by
  intro k
  induction k with
  | zero =>
    intro _ p hp
    rw [cntK_zero]
    have := hT p hp
    have h1 : 1 * K ≤ ((p : Int) + 1) * K := Int.mul_le_mul_of_nonneg_right (by omega) hK
    exact ⟨Int.le_refl _, by omega, fun _ => rfl, fun _ => rfl, fun h1 h2 => by omega⟩
  | succ k ih =>
    intro hk p hp
    have i := ih (by omega)
    have hlk : (cntK T c k).length = n + 1 := by rw [cntK_len, hl]
    have ha : (cntK T c k)[c + k]? = some ((cntK T c k)[c + k]'(by omega)) := List.getElem?_eq_getElem _
    have hb : (cntK T c k)[k]? = some ((cntK T c k)[k]'(by omega)) := List.getElem?_eq_getElem _
    have ga : (cntK T c k).getD (c + k) 0 = (cntK T c k)[c + k]'(by omega) := by simp [List.getD, ha]
    have gb : (cntK T c k).getD k 0 = (cntK T c k)[k]'(by omega) := by simp [List.getD, hb]
    have hs := cntK_step rfl ha hb
    have ia := i (c + k) (by omega)
    have ib := i k (by omega)
    rw [ga] at ia
    rw [gb] at ib
    have ta := hT (c + k) (by omega)
    have tb := hT k (by omega)
    have m1 : ((k : Int) + 1) * K ≤ 91 * K := Int.mul_le_mul_of_nonneg_right (by omega) hK
    have eA := ia.2.2.1 (Nat.le_refl _)
    have hw : wrap64 ((cntK T c k)[c + k]'(by omega) + (cntK T c k)[k]'(by omega)) = (cntK T c k)[c + k]'(by omega) + (cntK T c k)[k]'(by omega) := by
      rw [← IntWalk.i64_left]; exact IntWalk.i64_in _ (by omega)
    rw [hw] at hs
    have hget : ∀ q : Nat, (cntK T c (k + 1)).getD q 0 = if q = c + k then (cntK T c k)[c + k]'(by omega) + (cntK T c k)[k]'(by omega) else (cntK T c k).getD q 0 := fun q => by
      rw [hs]
      unfold List.getD
      rw [List.getElem?_set]
      by_cases e : c + k = q
      · rw [if_pos e, if_pos (by rw [hlk]; omega), if_pos e.symm]; rfl
      · rw [if_neg e, if_neg (fun h => e h.symm)]
    rw [hget p]
    by_cases e : p = c + k
    · subst e
      rw [if_pos rfl]
      have m2 : (((c + k : Nat) : Int) + 1) * K = (c : Int) * K + ((k : Int) + 1) * K := by rw [← Int.add_mul]; congr 1 <;> omega
      have m3 : 1 * K ≤ (c : Int) * K := Int.mul_le_mul_of_nonneg_right (by omega) hK
      refine ⟨by omega, by omega, fun h => by omega, fun h => by omega, fun _ _ => ?_⟩
      rw [Nat.add_sub_cancel_left, hget k, if_neg (by omega), gb, eA]
    · rw [if_neg e]
      have ip := i p hp
      refine ⟨ip.1, ip.2.1, fun h => ip.2.2.1 (by omega), ip.2.2.2.1, fun h1 h2 => ?_⟩
      rw [ip.2.2.2.2 h1 (by omega), hget (p - c), if_neg (by omega)]
def K91 : Nat → Int
  | 0 => 1
  | j + 1 => 91 * K91 j
theorem K91_pos : ∀ j, 1 ≤ K91 j := by
  intro j
  induction j with
  | zero => exact Int.le_refl _
  | succ j ih => simp only [K91]; omega
theorem ways_law {cs : List Int} (h1 : coinsB cs = true) {n : Nat} (hn : n ≤ 90) (hl5 : cs.length ≤ 5) : ∀ j, 1 ≤ j → j ≤ cs.length → ∀ p : Nat, p ≤ n →
    1 ≤ (wayK cs n j).getD p 0 ∧ (wayK cs n j).getD p 0 ≤ K91 j ∧ (1 < (wayK cs n j).getD p 0 ↔ ∃ (i : Nat) (c : Int), i < j ∧ cs[i]? = some c ∧ 1 < c ∧ c ≤ p) := by
  obtain ⟨p1, p2, p3, p4, p5⟩ := coinsB_parts h1
  have step : ∀ (j c : Nat), cs[j]? = some (c : Int) → ∀ K : Int, 0 ≤ K → K ≤ 1000000000000 → (∀ p : Nat, p ≤ n → 0 ≤ (wayK cs n j).getD p 0 ∧ (wayK cs n j).getD p 0 ≤ K) → ∀ p : Nat, p ≤ n →
      (wayK cs n j).getD p 0 ≤ (wayK cs n (j + 1)).getD p 0 ∧ (wayK cs n (j + 1)).getD p 0 ≤ (p + 1) * K ∧ (p < c → (wayK cs n (j + 1)).getD p 0 = (wayK cs n j).getD p 0) ∧ (c ≤ p → (wayK cs n (j + 1)).getD p 0 = (wayK cs n j).getD p 0 + (wayK cs n (j + 1)).getD (p - c) 0) := by
    intro j c hc K hK hK2 hT p hp
    have bc := p3 _ (List.mem_of_getElem? hc)
    rw [wayK_step hc]
    by_cases hcn : c ≤ n
    · have := cntK_law (T := wayK cs n j) (c := c) (n := n) (by omega) (wayK_len cs n j) hn hK hK2 hT (n + 1 - c) (by omega) p hp
      exact ⟨this.1, this.2.1, this.2.2.2.1, fun h => this.2.2.2.2 h (by omega)⟩
    · rw [show n + 1 - c = 0 by omega, cntK_zero]
      have := hT p hp
      have h1 : 1 * K ≤ ((p : Int) + 1) * K := Int.mul_le_mul_of_nonneg_right (by omega) hK
      exact ⟨Int.le_refl _, by omega, fun _ => rfl, fun h => by omega⟩
  have hKb : ∀ j, j ≤ 5 → K91 j ≤ 1000000000000 := by
    intro j hj
    have : K91 5 = 6240321451 := by decide
    match j, hj with
    | 0, _ => decide
    | 1, _ => decide
    | 2, _ => decide
    | 3, _ => decide
    | 4, _ => decide
    | 5, _ => decide
    | j + 6, h => omega
  intro j
  induction j with
  | zero => intro h; omega
  | succ j ih =>
    intro _ hj p hp
    by_cases hj0 : j = 0
    · subst hj0
      have h0 : ∀ q : Nat, q ≤ n → (wayK cs n 0).getD q 0 = if q = 0 then 1 else 0 := fun q hq => by
        rw [wayK_zero]
        cases q with
        | zero => rfl
        | succ q =>
          show (List.replicate n (0 : Int)).getD q 0 = _
          rw [if_neg (by omega)]
          unfold List.getD
          rw [List.getElem?_replicate]
          split <;> rfl
      have s := step 0 1 p4 1 (by omega) (by omega) (fun q hq => by rw [h0 q hq]; split <;> omega)
      have all1 : ∀ q : Nat, q ≤ n → (wayK cs n (0 + 1)).getD q 0 = 1 := by
        intro q
        induction q with
        | zero => intro hq; rw [(s 0 hq).2.2.1 (by omega), h0 0 hq, if_pos rfl]
        | succ q ihq =>
          intro hq
          rw [(s (q + 1) hq).2.2.2 (by omega), h0 (q + 1) hq, if_neg (by omega), Nat.add_sub_cancel, ihq (by omega)]
          rfl
      rw [all1 p hp]
      refine ⟨Int.le_refl _, by simp only [K91]; omega, ?_⟩
      constructor
      · intro h; omega
      · rintro ⟨i, c, hi, hc, h2, _⟩
        obtain rfl : i = 0 := by omega
        rw [p4] at hc
        have := Option.some.inj hc
        omega
    · have hc : cs[j]? = some (cs[j]'(by omega)) := List.getElem?_eq_getElem _
      have bc := p3 _ (List.mem_of_getElem? hc)
      obtain ⟨c, ec⟩ : ∃ c : Nat, cs[j]'(by omega) = (c : Int) := ⟨(cs[j]'(by omega)).toNat, by omega⟩
      rw [ec] at hc bc
      have hgt : (1 : Int) < c := by
        have hx : cs[j - 1]? = some (cs[j - 1]'(by omega)) := List.getElem?_eq_getElem _
        have := p5 (j - 1) _ _ hx (by rw [show j - 1 + 1 = j by omega]; exact hc)
        have := p3 _ (List.mem_of_getElem? hx)
        omega
      have ihp := ih (by omega) (by omega)
      have s := step j c hc (K91 j) (by have := K91_pos j; omega) (hKb j (by omega)) (fun q hq => by have := ihp q hq; omega) p hp
      have ip := ihp p hp
      have m1 : ((p : Int) + 1) * K91 j ≤ 91 * K91 j := Int.mul_le_mul_of_nonneg_right (by omega) (by have := K91_pos j; omega)
      refine ⟨by omega, by simp only [K91]; omega, ?_⟩
      constructor
      · intro h
        by_cases hcp : c ≤ p
        · exact ⟨j, c, by omega, hc, hgt, by omega⟩
        · rw [s.2.2.1 (by omega)] at h
          obtain ⟨i, c', hi, h2⟩ := ip.2.2.1 h
          exact ⟨i, c', by omega, h2⟩
      · rintro ⟨i, c', hi, hc', h2, h3⟩
        by_cases e : i = j
        · subst e
          rw [hc] at hc'
          have := Option.some.inj hc'
          have s2 := step i c hc (K91 i) (by have := K91_pos i; omega) (hKb i (by omega)) (fun q hq => by have := ihp q hq; omega) (p - c) (by omega)
          have := ihp (p - c) (by omega)
          rw [s.2.2.2 (by omega)]
          omega
        · have := ip.2.2.2 ⟨i, c', by omega, hc', h2, h3⟩
          omega
theorem count_law {cs : List Int} (h1 : coinsB cs = true) {n : Nat} (hn : n ≤ 90) (hl5 : cs.length ≤ 5) : 1 ≤ countR n cs ∧ countR n cs ≤ 6240321451 ∧ (1 < countR n cs ↔ ∃ (i : Nat) (c : Int), i < cs.length ∧ cs[i]? = some c ∧ 1 < c ∧ c ≤ n) := by
  obtain ⟨p1, p2, p3, p4, p5⟩ := coinsB_parts h1
  have h2 : inB (n : Int) 0 400 = true := inB_of ⟨by omega, by omega⟩
  have hx : (wayK cs n cs.length)[n]? = some ((wayK cs n cs.length)[n]'(by rw [wayK_len]; omega)) := List.getElem?_eq_getElem _
  have hw := ways_law h1 hn hl5 cs.length p1 (Nat.le_refl _) n (Nat.le_refl _)
  have eg : (wayK cs n cs.length).getD n 0 = (wayK cs n cs.length)[n]'(by rw [wayK_len]; omega) := by simp [List.getD, hx]
  rw [countR_of h1 h2 hx, ← eg]
  have hk : K91 cs.length ≤ 6240321451 := by
    have e : ∀ j, j ≤ 5 → K91 j ≤ 6240321451 := by
      intro j hj
      match j, hj with
      | 0, _ => decide
      | 1, _ => decide
      | 2, _ => decide
      | 3, _ => decide
      | 4, _ => decide
      | 5, _ => decide
      | j + 6, h => omega
    exact e _ hl5
  exact ⟨hw.1, by omega, hw.2.2⟩
theorem count_zero {cs : List Int} (h1 : coinsB cs = true) : countR 0 cs = 1 := by
  obtain ⟨p1, p2, p3, p4, p5⟩ := coinsB_parts h1
  have key : ∀ j, j ≤ cs.length → wayK cs 0 j = [1] := by
    intro j
    induction j with
    | zero => intro _; rw [wayK_zero]; rfl
    | succ j ih =>
      intro hj
      have hc : cs[j]? = some (cs[j]'(by omega)) := List.getElem?_eq_getElem _
      have bc := p3 _ (List.mem_of_getElem? hc)
      obtain ⟨c, ec⟩ : ∃ c : Nat, cs[j]'(by omega) = (c : Int) := ⟨(cs[j]'(by omega)).toNat, by omega⟩
      rw [ec] at hc bc
      rw [wayK_step hc, show 0 + 1 - c = 0 by omega, cntK_zero, ih (by omega)]
  have h2 : inB ((0 : Nat) : Int) 0 400 = true := by decide
  have := countR_of (n := 0) h1 h2 (x := 1) (by rw [key _ (Nat.le_refl _)]; rfl)
  exact this
/-- A table that is right at each number is the table. -/
theorem fewT_tab {cs F : List Int} {M : Nat} (h0 : F[0]? = some 0) (h : ∀ x, x < M → F[x + 1]? = some (bestTo (F.take (x + 1)) cs (x + 1) cs.length)) : ∀ k, k ≤ M → fewT cs k = F.take (k + 1) := by
  intro k
  induction k with
  | zero => intro _; rw [fewT_zero, List.take_add_one, h0]; rfl
  | succ k ih =>
    intro hk
    rw [fewT_succ, ih (by omega), List.take_add_one (i := k + 1), h k (by omega)]
    rfl
def tabA : List Int := [0, 1, 1, 1, 2, 1, 2, 2, 1, 2, 2, 2, 3, 1, 2, 2, 2, 3, 2, 3, 3, 1, 2, 2, 2, 3, 2, 3, 3, 2, 3, 3, 3, 4, 2, 3, 3, 3, 4, 3, 4, 4, 2, 3, 3, 3, 4, 3, 4, 4, 3, 4, 4, 4, 5, 3, 4, 4, 4, 5, 4, 5, 5, 3, 4, 4, 4, 5, 4, 5, 5, 4, 5, 5, 5, 6, 4, 5, 5, 5, 6, 5, 6, 6, 4, 5, 5, 5, 6, 5, 6, 6, 5, 6, 6, 6, 7, 5, 6, 6, 6, 7, 6, 7, 7, 5, 6, 6, 6, 7, 6, 7, 7, 6, 7, 7, 7, 8, 6, 7, 7, 7, 8, 7, 8, 8, 6, 7, 7, 7, 8, 7, 8, 8, 7, 8, 8, 8, 9, 7, 8, 8, 8, 9, 8, 9, 9, 7, 8, 8, 8, 9, 8, 9, 9, 8, 9, 9, 9, 10, 8, 9, 9, 9, 10, 9, 10, 10, 8, 9, 9, 9, 10, 9, 10, 10, 9, 10, 10, 10, 11, 9, 10, 10, 10, 11, 10, 11, 11, 9, 10, 10, 10, 11, 10, 11, 11, 10, 11, 11, 11]
def tabB : List Int := [0, 1, 2, 1, 1, 2, 2, 2, 2, 3, 3, 3, 3, 4, 4, 4, 4, 5, 5, 5, 5, 6, 6, 6, 6, 7, 7, 7, 7, 8, 8, 8, 8, 9, 9, 9, 9, 10, 10, 10, 10, 11, 11, 11, 11, 12, 12, 12, 12, 13, 13]
def fibC : List Int := [1, 2, 3, 5, 8, 13, 21]
def oddC : List Int := [1, 3, 4]
theorem tabA_ok : (List.range 200).all (fun x => tabA[x + 1]? == some (bestTo (tabA.take (x + 1)) fibC (x + 1) fibC.length)) = true := by decide +kernel
theorem tabB_ok : (List.range 50).all (fun x => tabB[x + 1]? == some (bestTo (tabB.take (x + 1)) oddC (x + 1) oddC.length)) = true := by decide +kernel
theorem tabA_all : ∀ x, x < 200 → tabA[x + 1]? = some (bestTo (tabA.take (x + 1)) fibC (x + 1) fibC.length) := fun x hx => by
  have := List.all_eq_true.1 tabA_ok x (List.mem_range.2 hx)
  exact beq_iff_eq.1 this
theorem tabB_all : ∀ x, x < 50 → tabB[x + 1]? = some (bestTo (tabB.take (x + 1)) oddC (x + 1) oddC.length) := fun x hx => by
  have := List.all_eq_true.1 tabB_ok x (List.mem_range.2 hx)
  exact beq_iff_eq.1 this
theorem greedyA : (List.range 201).all (fun m => decide (sumL (greedyR (m : Int) fibC) ≤ tabA.getD m 0)) = true := by decide +kernel
theorem greedyB : (List.range 6).all (fun m => decide (sumL (greedyR (m : Int) oddC) ≤ tabB.getD m 0)) = true := by decide +kernel
theorem greedyB6 : decide (tabB.getD 6 0 < sumL (greedyR (6 : Int) oddC)) = true := by decide +kernel
theorem lenA : tabA.length = 201 := by decide +kernel
theorem lenB : tabB.length = 51 := by decide +kernel
theorem first_fib : firstR fibC 200 = -1 := by
  refine firstR_none (M := 200) fun j hj => ?_
  unfold worse
  rw [fewT_tab (F := tabA) (M := 200) rfl tabA_all 200 (Nat.le_refl _), List.take_of_length_le (by rw [lenA]; omega)]
  have := of_decide_eq_true (List.all_eq_true.1 greedyA j (List.mem_range.2 hj))
  exact decide_eq_false (by omega)
theorem first_odd : firstR oddC 50 = 6 := by
  have hw : ∀ j, worse oddC 50 j = decide (tabB.getD j 0 < sumL (greedyR (j : Int) oddC)) := fun j => by
    unfold worse
    rw [fewT_tab (F := tabB) (M := 50) rfl tabB_all 50 (Nat.le_refl _), List.take_of_length_le (by rw [lenB]; omega)]
  refine firstR_at (M := 50) (n := 6) (by decide +kernel) (by decide) (by omega) (by rw [hw]; exact greedyB6) fun j hj => ?_
  rw [hw]
  have := of_decide_eq_true (List.all_eq_true.1 greedyB j (List.mem_range.2 hj))
  exact decide_eq_false (by omega)
theorem rec_fib : recB 1 1 7 = true ∧ recL 1 1 7 = fibC := by decide +kernel
end Go.Proofs.Ytlhabcpoemcpjaa
