/-
  WALKS: product, isMixed, mixedValue and the reference's l07Range, l07Value, with what they compute. No statement of the seat is proved here.
-/
import Derived.Test.YtfdighaginmabaaW3
import Derived.Test.YtfdighaginmabaaW4
namespace Go.Proofs.Ytfdighaginmabaa
open Go.RowKit

/-- The product of a list. -/
def prodI : List Int → Int
  | [] => 1
  | x :: xs => x * prodI xs
theorem prodI_append (xs ys : List Int) : prodI (xs ++ ys) = prodI xs * prodI ys := by
  induction xs with
  | nil => simp [prodI]
  | cons x xs ih => simp only [List.cons_append, prodI, ih, Int.mul_assoc]
def prodUp (xs : List Int) (k : Nat) : Int := prodI (xs.take k)
theorem prodUp_succ {xs : List Int} {k : Nat} {x : Int} (hx : xs[k]? = some x) : prodUp xs (k + 1) = prodUp xs k * x := by
  unfold prodUp
  rw [List.take_add_one, hx, prodI_append]
  simp [prodI]
theorem prodI_pos {xs : List Int} (h : ∀ x ∈ xs, 1 ≤ x) : 1 ≤ prodI xs := by
  induction xs with
  | nil => simp [prodI]
  | cons x xs ih =>
    have h1 := h x (by simp)
    have h2 := ih fun y hy => h y (by simp [hy])
    have := Int.mul_le_mul h1 h2 (by omega) (by omega)
    simpa [prodI] using this
theorem prodI_le {xs : List Int} {M : Int} (h : ∀ x ∈ xs, 1 ≤ x ∧ x ≤ M) (hM : 1 ≤ M) : prodI xs ≤ M ^ xs.length := by
  induction xs with
  | nil => simp [prodI]
  | cons x xs ih =>
    have h1 := h x (by simp)
    have h2 := ih fun y hy => h y (by simp [hy])
    have h3 := prodI_pos (xs := xs) fun y hy => (h y (by simp [hy])).1
    have := Int.mul_le_mul h1.2 h2 (by omega) (by omega)
    simp only [prodI, List.length_cons]
    rw [Int.pow_succ, Int.mul_comm (M ^ xs.length)]
    exact this
theorem pow_mono {M : Int} (hM : 1 ≤ M) {a b : Nat} (h : a ≤ b) : M ^ a ≤ M ^ b := by
  induction b with
  | zero => have : a = 0 := by omega
            subst this; exact Int.le_refl _
  | succ b ih =>
    by_cases e : a = b + 1
    · subst e; exact Int.le_refl _
    · have h1 := ih (by omega)
      have h2 : 0 ≤ M ^ b := Int.pow_nonneg (by omega)
      rw [Int.pow_succ]
      have h3 : M ^ b * 1 ≤ M ^ b * M := Int.mul_le_mul_of_nonneg_left hM h2
      omega
theorem prodUp_bound {xs : List Int} {M : Int} {n : Nat} (h : ∀ x ∈ xs, 1 ≤ x ∧ x ≤ M) (hM : 1 ≤ M) (hn : xs.length ≤ n) (k : Nat) : 1 ≤ prodUp xs k ∧ prodUp xs k ≤ M ^ n := by
  have h' : ∀ x ∈ xs.take k, 1 ≤ x ∧ x ≤ M := fun x hx => h x (List.mem_of_mem_take hx)
  refine ⟨prodI_pos fun x hx => (h' x hx).1, Int.le_trans (prodI_le h' hM) (pow_mono hM ?_)⟩
  rw [List.length_take]
  omega
theorem prodUp_all (xs : List Int) : prodUp xs xs.length = prodI xs := by unfold prodUp; rw [List.take_length]
theorem prodUp_le_all {xs : List Int} (h : ∀ x ∈ xs, 1 ≤ x) (k : Nat) : prodUp xs k ≤ prodI xs := by
  have e : prodI xs = prodUp xs k * prodI (xs.drop k) := by
    unfold prodUp
    rw [← prodI_append, List.take_append_drop]
  have h1 : 1 ≤ prodUp xs k := prodI_pos fun x hx => h x (List.mem_of_mem_take hx)
  have h2 : 1 ≤ prodI (xs.drop k) := prodI_pos fun x hx => h x (List.mem_of_mem_drop hx)
  rw [e]
  have h3 : prodUp xs k * 1 ≤ prodUp xs k * prodI (xs.drop k) := Int.mul_le_mul_of_nonneg_left h2 (by omega)
  omega
/-- No partial product leaves the range. -/
def ProdIn (xs : List Int) : Prop := ∀ k, 0 ≤ prodUp xs k ∧ prodUp xs k ≤ 4611686018427387904

/-- The number of mixed digits. -/
def mvL : List Int → List Int → Int
  | d :: ds, r :: rs => mvL ds rs * r + d
  | _, _ => 0
def mvFrom (ds rs : List Int) (k : Nat) : Int := mvL (ds.drop k) (rs.drop k)
theorem mvFrom_step {ds rs : List Int} {k : Nat} {d r : Int} (hd : ds[k]? = some d) (hr : rs[k]? = some r) : mvFrom ds rs k = mvFrom ds rs (k + 1) * r + d := by
  obtain ⟨h1, rfl⟩ := List.getElem?_eq_some_iff.1 hd
  obtain ⟨h2, rfl⟩ := List.getElem?_eq_some_iff.1 hr
  unfold mvFrom
  rw [List.drop_eq_getElem_cons h1, List.drop_eq_getElem_cons h2]
  rfl
theorem mvFrom_end (ds rs : List Int) : mvFrom ds rs ds.length = 0 := by
  unfold mvFrom
  rw [List.drop_length]
  cases rs.drop ds.length <;> rfl
/-- Each digit lies below its radix. -/
def inR (ds rs : List Int) (i : Nat) : Bool := inB (ds.getD i 0) 0 (rs.getD i 0 - 1)
def isMixB (ds rs : List Int) : Bool := decide (ds.length = rs.length) && (List.range ds.length).all (inR ds rs)
theorem isMixB_parts {ds rs : List Int} (h : isMixB ds rs = true) : ds.length = rs.length ∧ ∀ (i : Nat) (d r : Int), ds[i]? = some d → rs[i]? = some r → 0 ≤ d ∧ d ≤ r - 1 := by
  simp only [isMixB, Bool.and_eq_true, decide_eq_true_eq, List.all_eq_true] at h
  refine ⟨h.1, fun i d r hd hr => ?_⟩
  have hi := (List.getElem?_eq_some_iff.1 hd).1
  have := inB_true (h.2 i (List.mem_range.2 hi))
  simpa [List.getD, hd, hr] using this
theorem inR_eq {ds rs : List Int} {i : Nat} {d r : Int} (hd : ds[i]? = some d) (hr : rs[i]? = some r) : inR ds rs i = inB d 0 (r - 1) := by
  simp [inR, List.getD, hd, hr]
def mixSoFar (ds rs : List Int) (k : Nat) : Prop := ∀ i, i < k → inR ds rs i = true
theorem mixSoFar.step {ds rs : List Int} {k : Nat} (h : mixSoFar ds rs k) (hk : inR ds rs k = true) : mixSoFar ds rs (k + 1) := fun j hj => by
  by_cases e : j = k
  · rw [e]; exact hk
  · exact h j (by omega)
theorem isMixB_false {ds rs : List Int} {k : Nat} (hk : k < ds.length) (h : inR ds rs k = false) : isMixB ds rs = false := by
  unfold isMixB
  have : (List.range ds.length).all (inR ds rs) = false := by
    rw [List.all_eq_false]
    exact ⟨k, List.mem_range.2 hk, by rw [h]; simp⟩
  rw [this]
  simp
theorem isMixB_true {ds rs : List Int} (hl : ds.length = rs.length) (h : mixSoFar ds rs ds.length) : isMixB ds rs = true := by
  unfold isMixB
  rw [decide_eq_true hl]
  simp only [Bool.true_and, List.all_eq_true]
  exact fun j hj => h j (List.mem_range.1 hj)
/-- Digits below their radices: the number lies below the product. -/
theorem mvL_bound : ∀ (ds rs : List Int), ds.length = rs.length → (∀ (i : Nat) (d r : Int), ds[i]? = some d → rs[i]? = some r → 0 ≤ d ∧ d ≤ r - 1) → 0 ≤ mvL ds rs ∧ mvL ds rs ≤ prodI rs - 1
  | [], [], _, _ => by simp [mvL, prodI]
  | d :: ds, r :: rs, hl, h => by
    have h0 := h 0 d r rfl rfl
    have ih := mvL_bound ds rs (by simpa using hl) fun i d' r' hd hr => h (i + 1) d' r' (by simpa using hd) (by simpa using hr)
    have hp : 1 ≤ r := by omega
    simp only [mvL, prodI]
    have a1 : 0 ≤ mvL ds rs * r := Int.mul_nonneg ih.1 (by omega)
    have a2 : mvL ds rs * r ≤ (prodI rs - 1) * r := Int.mul_le_mul_of_nonneg_right ih.2 (by omega)
    have a3 : (prodI rs - 1) * r = r * prodI rs - r := by rw [Int.sub_mul, Int.mul_comm]; omega
    omega
  | [], _ :: _, hl, _ => by simp at hl
  | _ :: _, [], hl, _ => by simp at hl
theorem mvFrom_bound {ds rs : List Int} (hl : ds.length = rs.length) (h : ∀ (i : Nat) (d r : Int), ds[i]? = some d → rs[i]? = some r → 0 ≤ d ∧ d ≤ r - 1) (hp : prodI rs ≤ 4611686018427387904) (k : Nat) :
    0 ≤ mvFrom ds rs k ∧ mvFrom ds rs k ≤ 4611686018427387904 := by
  have hb := mvL_bound (ds.drop k) (rs.drop k) (by simp [hl]) fun i d r hd hr => h (k + i) d r (by simpa using hd) (by simpa using hr)
  have hr1 : ∀ x ∈ rs, (1 : Int) ≤ x := by
    intro x hx
    obtain ⟨i, hi, rfl⟩ := List.mem_iff_getElem.1 hx
    have := h i (ds[i]'(by omega)) rs[i] (List.getElem?_eq_getElem _) (List.getElem?_eq_getElem _)
    omega
  have e : prodI rs = prodUp rs k * prodI (rs.drop k) := by
    unfold prodUp
    rw [← prodI_append, List.take_append_drop]
  have h1 : 1 ≤ prodUp rs k := prodI_pos fun x hx => hr1 x (List.mem_of_mem_take hx)
  have h2 : 1 ≤ prodI (rs.drop k) := prodI_pos fun x hx => hr1 x (List.mem_of_mem_drop hx)
  have h3 : 1 * prodI (rs.drop k) ≤ prodUp rs k * prodI (rs.drop k) := Int.mul_le_mul_of_nonneg_right h1 (by omega)
  unfold mvFrom
  omega


set_option maxHeartbeats 800000 in
theorem product_any (A : Option Addr) (c : Nat) (xs : List Int) (w : World) (hr : Rd w A xs) (hl : xs.length ≤ 1099511627776) (hp : ProdIn xs) :
    Calls Try.prog 53 #[.slice A xs.length c] w fun e w' => e = .returned (.int .i64 (prodI xs)) ∧ w = w' := by
  have HR := Lib.hid hr
  have HP := Lib.hid hp
  clear hr hp
  go_enter Try.func53, Try.ntmps53
  go_wp2
  go_loop [3, 8] (fun n i => ∃ k : Nat, k ≤ xs.length ∧ i = .int .i64 k ∧ n = .int .i64 (prodUp xs k)) (fun _ i => xs.length - (intOf i).toNat)
  case atStart => exact ⟨0, Nat.zero_le _, rfl, rfl⟩
  case round =>
    obtain ⟨k, hk, rfl, rfl⟩ := hrel
    by_cases hlt : k < xs.length
    · obtain ⟨ad, x, rfl, hx, hc⟩ := HR.out.at_ hlt
      have b2 := HP.out (k + 1)
      have HS := Lib.hid (prodUp_succ hx.out)
      rw [HS.out] at b2
      obtain ⟨n, hn⟩ : ∃ n, prodUp xs k = n := ⟨_, rfl⟩
      rw [hn] at b2 HS
      rw [hn]
      clear hn
      go_wp2
      go_round
      case rel => exact ⟨k + 1, by omega, by go_num, by rw [HS.out]⟩
      case measure => simp [intOf]; omega
    · have hkl : k = xs.length := by omega
      subst hkl
      go_wp2
      go_ret
      exact ⟨ret_int (prodUp_all _), rfl⟩


set_option maxHeartbeats 800000 in
theorem l07Range_any (A : Option Addr) (c : Nat) (xs : List Int) (w : World) (hr : Rd w A xs) (hl : xs.length ≤ 1099511627776) (hp : ProdIn xs) :
    Calls Try.prog 57 #[.slice A xs.length c] w fun e w' => e = .returned (.int .i64 (prodI xs)) ∧ w = w' := by
  have HR := Lib.hid hr
  have HP := Lib.hid hp
  clear hr hp
  go_enter Try.func57, Try.ntmps57
  go_wp2
  go_loop [3, 8] (fun n i => ∃ k : Nat, k ≤ xs.length ∧ i = .int .i64 k ∧ n = .int .i64 (prodUp xs k)) (fun _ i => xs.length - (intOf i).toNat)
  case atStart => exact ⟨0, Nat.zero_le _, rfl, rfl⟩
  case round =>
    obtain ⟨k, hk, rfl, rfl⟩ := hrel
    by_cases hlt : k < xs.length
    · obtain ⟨ad, x, rfl, hx, hc⟩ := HR.out.at_ hlt
      have b2 := HP.out (k + 1)
      have HS := Lib.hid (prodUp_succ hx.out)
      rw [HS.out] at b2
      obtain ⟨n, hn⟩ : ∃ n, prodUp xs k = n := ⟨_, rfl⟩
      rw [hn] at b2 HS
      rw [hn]
      clear hn
      go_wp2
      go_round
      case rel => exact ⟨k + 1, by omega, by go_num, by rw [HS.out]⟩
      case measure => simp [intOf]; omega
    · have hkl : k = xs.length := by omega
      subst hkl
      go_wp2
      go_ret
      exact ⟨ret_int (prodUp_all _), rfl⟩


set_option maxHeartbeats 800000 in
theorem isMixed_any (A B : Option Addr) (c c' : Nat) (ds rs : List Int) (w : World) (ha : Rd w A ds) (hb : Rd w B rs) (hl : ds.length ≤ 1099511627776) (hl' : rs.length ≤ 1099511627776) (hrs : ∀ x ∈ rs, 1 ≤ x ∧ x ≤ 1000000) :
    Calls Try.prog 56 #[.slice A ds.length c, .slice B rs.length c'] w fun e w' => e = .returned (.bool (isMixB ds rs)) ∧ w = w' := by
  have HA := Lib.hid ha
  have HB := Lib.hid hb
  have HX := Lib.hid hrs
  clear ha hb hrs
  by_cases hne : ds.length = rs.length
  · have HN := Lib.hid hne
    have e1 : ((ds.length : Int) != rs.length) = false := by simp; omega
    clear hne
    go_enter Try.func56, Try.ntmps56
    go_wp2
    go_loop [14] (fun i => ∃ k : Nat, k ≤ ds.length ∧ i = .int .i64 k ∧ mixSoFar ds rs k) (fun i => ds.length - (intOf i).toNat)
    case atStart => exact ⟨0, Nat.zero_le _, rfl, fun j hj => absurd hj (by omega)⟩
    case round =>
      obtain ⟨k, hk, rfl, hS⟩ := hrel
      by_cases hlt : k < ds.length
      · have hlt' : (k : Int) < rs.length := by have := HN.out; omega
        obtain ⟨ad, x, rfl, hx, hc⟩ := HA.out.at_ hlt
        obtain ⟨bd, y, rfl, hy, hd⟩ := HB.out.at_ (k := k) (by omega)
        have by_ := HX.out y (List.mem_of_getElem? hy.out)
        have HI := Lib.hid (inR_eq hx.out hy.out)
        rcases Bool.eq_false_or_eq_true (inB x 0 (y - 1)) with h | h
        · go_wp2_with (go_at_call 47; refine (within_any _ _ _ _).mono ?_; rintro e w' ⟨rfl, rfl⟩)
          go_round
          case rel => exact ⟨k + 1, by omega, by go_num, hS.step (by rw [HI.out, h])⟩
          case measure => simp [intOf]; omega
        · have HF := Lib.hid (isMixB_false hlt (by rw [HI.out, h]))
          go_wp2_with (go_at_call 47; refine (within_any _ _ _ _).mono ?_; rintro e w' ⟨rfl, rfl⟩)
          go_ret
          exact ⟨ret_bool HF.out.symm, rfl⟩
      · have hkl : k = ds.length := by omega
        have HT := Lib.hid (isMixB_true HN.out (by rw [← hkl]; exact hS))
        clear hkl
        go_wp2
        go_ret
        exact ⟨ret_bool HT.out.symm, rfl⟩
  · have e1 : ((ds.length : Int) != rs.length) = true := by simp; omega
    go_enter Try.func56, Try.ntmps56
    go_wp2
    go_ret
    exact ⟨ret_bool (by simp [isMixB, hne]), rfl⟩


set_option maxHeartbeats 1600000 in
theorem mixedValue_any (A B : Option Addr) (c c' n : Nat) (ds rs : List Int) (w : World) (ha : Rd w A ds) (hb : Rd w B rs) (hn : ds.length = n) (hl : n ≤ 1099511627776) (hlen : ds.length = rs.length)
    (hin : ∀ (i : Nat) (d r : Int), ds[i]? = some d → rs[i]? = some r → 0 ≤ d ∧ d ≤ r - 1) (hp : prodI rs ≤ 4611686018427387904) :
    Calls Try.prog 65 #[.slice A n c, .slice B rs.length c'] w fun e w' => e = .returned (.int .i64 (mvL ds rs)) ∧ ∃ n, w' = w.drewN n := by
  subst hn
  have HA := Lib.hid ha
  have HB := Lib.hid hb
  have HX := Lib.hid hin
  have HN := Lib.hid hlen
  have HP := Lib.hid (mvFrom_bound hlen hin hp)
  have h0 := mvFrom_end ds rs
  have H0 := Lib.hid h0
  clear ha hb hin hlen h0
  go_enter Try.func65, Try.ntmps65
  go_wp2
  go_loopw [5, 6] (fun v i wr => ∃ k q : Nat, k ≤ ds.length ∧ i = .int .i64 ((k : Int) - 1) ∧ v = .int .i64 (mvFrom ds rs k) ∧ wr = w.drewN q) (fun _ i _ => (intOf i + 1).toNat)
  case atStart => exact ⟨ds.length, 0, Nat.le_refl _, rfl, by rw [H0.out], rfl⟩
  case round =>
    obtain ⟨k, q, hk, rfl, rfl, rfl⟩ := hrel
    by_cases hlt : 0 < k
    · obtain ⟨j, rfl⟩ : ∃ j, k = j + 1 := ⟨k - 1, by omega⟩
      have ej : ((j + 1 : Nat) : Int) - 1 = (j : Int) := by omega
      rw [ej]
      clear ej
      have hlt' : (j : Int) < rs.length := by have := HN.out; omega
      obtain ⟨ad, x, rfl, hx, hc⟩ := HA.out.at_ (k := j) (by omega)
      obtain ⟨bd, y, rfl, hy, hd⟩ := HB.out.at_ (k := j) (by omega)
      have bx := HX.out j x y hx.out hy.out
      have b1 := HP.out j
      have b3 := HP.out (j + 1)
      have HS := Lib.hid (mvFrom_step hx.out hy.out)
      rw [HS.out] at b1
      obtain ⟨n, hn⟩ : ∃ n, mvFrom ds rs (j + 1) = n := ⟨_, rfl⟩
      rw [hn] at b1 b3 HS
      rw [hn]
      clear hn
      have b4 : 0 ≤ n * y := Int.mul_nonneg b3.1 (by omega)
      have c0 : (0 : Int) ≤ j := by omega
      have c1 : (j : Int) < ds.length := by omega
      have t1 : IntKind.i64.wrap (n * y) = n * y := IntWalk.i64_in _ (by omega)
      have t2 : IntKind.i64.wrap (n * y + x) = n * y + x := IntWalk.i64_in _ (by omega)
      go_wp2
      go_quiet (fail)
      clear t1 t2
      go_wp2
      go_roundw
      case rel => exact ⟨j, _, by omega, by go_num, by rw [HS.out], rfl⟩
      case measure => simp [intOf]
    · obtain rfl : k = 0 := by omega
      go_wp2
      go_ret
      exact ⟨rfl, q, rfl⟩


set_option maxHeartbeats 1600000 in
theorem l07Value_any (A B : Option Addr) (c c' n : Nat) (ds rs : List Int) (w : World) (ha : Rd w A ds) (hb : Rd w B rs) (hn : ds.length = n) (hl : n ≤ 1099511627776) (hlen : ds.length = rs.length)
    (hin : ∀ (i : Nat) (d r : Int), ds[i]? = some d → rs[i]? = some r → 0 ≤ d ∧ d ≤ r - 1) (hp : prodI rs ≤ 4611686018427387904) :
    Calls Try.prog 63 #[.slice A n c, .slice B rs.length c'] w fun e w' => e = .returned (.int .i64 (mvL ds rs)) ∧ ∃ n, w' = w.drewN n := by
  subst hn
  have HA := Lib.hid ha
  have HB := Lib.hid hb
  have HX := Lib.hid hin
  have HN := Lib.hid hlen
  have HP := Lib.hid (mvFrom_bound hlen hin hp)
  have h0 := mvFrom_end ds rs
  have H0 := Lib.hid h0
  clear ha hb hin hlen h0
  go_enter Try.func63, Try.ntmps63
  go_wp2
  go_loopw [5, 6] (fun v i wr => ∃ k q : Nat, k ≤ ds.length ∧ i = .int .i64 ((k : Int) - 1) ∧ v = .int .i64 (mvFrom ds rs k) ∧ wr = w.drewN q) (fun _ i _ => (intOf i + 1).toNat)
  case atStart => exact ⟨ds.length, 0, Nat.le_refl _, rfl, by rw [H0.out], rfl⟩
  case round =>
    obtain ⟨k, q, hk, rfl, rfl, rfl⟩ := hrel
    by_cases hlt : 0 < k
    · obtain ⟨j, rfl⟩ : ∃ j, k = j + 1 := ⟨k - 1, by omega⟩
      have ej : ((j + 1 : Nat) : Int) - 1 = (j : Int) := by omega
      rw [ej]
      clear ej
      have hlt' : (j : Int) < rs.length := by have := HN.out; omega
      obtain ⟨ad, x, rfl, hx, hc⟩ := HA.out.at_ (k := j) (by omega)
      obtain ⟨bd, y, rfl, hy, hd⟩ := HB.out.at_ (k := j) (by omega)
      have bx := HX.out j x y hx.out hy.out
      have b1 := HP.out j
      have b3 := HP.out (j + 1)
      have HS := Lib.hid (mvFrom_step hx.out hy.out)
      rw [HS.out] at b1
      obtain ⟨n, hn⟩ : ∃ n, mvFrom ds rs (j + 1) = n := ⟨_, rfl⟩
      rw [hn] at b1 b3 HS
      rw [hn]
      clear hn
      have b4 : 0 ≤ n * y := Int.mul_nonneg b3.1 (by omega)
      have c0 : (0 : Int) ≤ j := by omega
      have c1 : (j : Int) < ds.length := by omega
      have t1 : IntKind.i64.wrap (n * y) = n * y := IntWalk.i64_in _ (by omega)
      have t2 : IntKind.i64.wrap (n * y + x) = n * y + x := IntWalk.i64_in _ (by omega)
      go_wp2
      go_quiet (fail)
      clear t1 t2
      go_wp2
      go_roundw
      case rel => exact ⟨j, _, by omega, by go_num, by rw [HS.out], rfl⟩
      case measure => simp [intOf]
    · obtain rfl : k = 0 := by omega
      go_wp2
      go_ret
      exact ⟨rfl, q, rfl⟩

end Go.Proofs.Ytfdighaginmabaa
