/-
  WALKS: flipOdd, with the result the digits themselves, and with another list as the result. No statement of the seat is closed here.
-/
import Derived.Test.YthnpobbpmgjhjaaDoorG7
namespace Go.Proofs.YthnpobbpmgjhjaaDoor
open Go.RowKit

theorem Rd.grown {w w' : World} {B : Option Addr} {rs : List Int} {row : Option Nat} (h : Rd w B rs) (hg : w.grownBy w' row) (hne : ∀ bd : Addr, B = some bd → some bd.block ≠ row) : Rd w' B rs := fun hn => by
  obtain ⟨ad, e, hc⟩ := h hn
  refine ⟨ad, e, fun j hj => ?_⟩
  have hl := cell_lt (hc j hj)
  have hb : (ad.add j).block = ad.block := block_add _ _
  rw [World.cell?_of_block (hg.block _ hl (by rw [hb]; exact hne ad e))]
  exact hc j hj
theorem only_drew {a w : World} {row : Option Nat} (h : a.grownBy w row) : a.grownBy w.drew row := ⟨h.os, h.tape, h.output, h.size, h.block⟩

/-- Going down from the last digit, each one is replaced if the sum is odd; the sum is of the new digits (own) or of the old ones. -/
def fL (own : Bool) : List Int → List Int → List Int × Int
  | d :: ds, r :: rs =>
    let p := fL own ds rs
    let x := if p.2 % 2 = 1 then r - 1 - d else d
    (x :: p.1, p.2 + if own then x else d)
  | _, _ => ([], 0)
def fAt (own : Bool) (ds rs : List Int) (k : Nat) : List Int × Int := fL own (ds.drop k) (rs.drop k)
theorem fAt_step {own : Bool} {ds rs : List Int} {k : Nat} {d r : Int} (hd : ds[k]? = some d) (hr : rs[k]? = some r) :
    fAt own ds rs k = ((if (fAt own ds rs (k + 1)).2 % 2 = 1 then r - 1 - d else d) :: (fAt own ds rs (k + 1)).1,
      (fAt own ds rs (k + 1)).2 + if own then (if (fAt own ds rs (k + 1)).2 % 2 = 1 then r - 1 - d else d) else d) := by
  obtain ⟨h1, rfl⟩ := List.getElem?_eq_some_iff.1 hd
  obtain ⟨h2, rfl⟩ := List.getElem?_eq_some_iff.1 hr
  unfold fAt
  rw [List.drop_eq_getElem_cons h1, List.drop_eq_getElem_cons h2]
  rfl
theorem fAt_end (own : Bool) (ds rs : List Int) : fAt own ds rs ds.length = ([], 0) := by
  unfold fAt
  rw [List.drop_length]
  cases rs.drop ds.length <;> rfl
theorem fL_len {own : Bool} : ∀ {ds rs : List Int}, ds.length ≤ rs.length → (fL own ds rs).1.length = ds.length
  | [], [], _ => rfl
  | [], _ :: _, _ => rfl
  | d :: ds, [], h => by simp at h
  | d :: ds, r :: rs, h => by
    have := fL_len (own := own) (ds := ds) (rs := rs) (by simpa using h)
    simp [fL, this]
theorem fAt_len {own : Bool} {ds rs : List Int} (h : ds.length ≤ rs.length) (k : Nat) : (fAt own ds rs k).1.length = ds.length - k := by
  unfold fAt
  rw [fL_len (by simp; omega), List.length_drop]
/-- Digits lie below their radices. -/
def Digs (ds rs : List Int) : Prop := ∀ (i : Nat) (d r : Int), ds[i]? = some d → rs[i]? = some r → 0 ≤ d ∧ d ≤ r - 1 ∧ r ≤ 1000000
theorem fL_sum {own : Bool} : ∀ {ds rs : List Int}, Digs ds rs → 0 ≤ (fL own ds rs).2 ∧ (fL own ds rs).2 ≤ ds.length * 1000000
  | [], [], _ => by simp [fL]
  | [], _ :: _, _ => by simp [fL]
  | d :: ds, [], h => by simp [fL]; omega
  | d :: ds, r :: rs, h => by
    have h0 := h 0 d r rfl rfl
    have ih := fL_sum (own := own) (ds := ds) (rs := rs) fun i d' r' hd hr => h (i + 1) d' r' (by simpa using hd) (by simpa using hr)
    simp only [fL, List.length_cons]
    cases own <;> simp only [Bool.false_eq_true, if_false, if_true]
    · constructor
      · omega
      · have : ((ds.length + 1 : Nat) : Int) * 1000000 = ds.length * 1000000 + 1000000 := by omega
        omega
    · split
      · constructor
        · omega
        · have : ((ds.length + 1 : Nat) : Int) * 1000000 = ds.length * 1000000 + 1000000 := by omega
          omega
      · constructor
        · omega
        · have : ((ds.length + 1 : Nat) : Int) * 1000000 = ds.length * 1000000 + 1000000 := by omega
          omega
theorem fAt_sum {own : Bool} {ds rs : List Int} (h : Digs ds rs) (hl : ds.length ≤ 1048576) (k : Nat) : 0 ≤ (fAt own ds rs k).2 ∧ (fAt own ds rs k).2 ≤ 1099511627776 := by
  have := fL_sum (own := own) (ds := ds.drop k) (rs := rs.drop k) fun i d r hd hr => h (k + i) d r (by simpa using hd) (by simpa using hr)
  unfold fAt
  rw [List.length_drop] at this
  refine ⟨this.1, Int.le_trans this.2 ?_⟩
  omega
theorem mem_at {ds T : List Int} {q : Nat} {d : Int} (hd : ds[q]? = some d) : (ds.take (q + 1) ++ T)[q]? = some d := by
  have hq := (List.getElem?_eq_some_iff.1 hd).1
  rw [List.getElem?_append_left (by rw [List.length_take]; omega), List.getElem?_take, if_pos (by omega), hd]
theorem set_at {ds T : List Int} {q : Nat} {d u : Int} (hd : ds[q]? = some d) : (ds.take (q + 1) ++ T).set q u = ds.take q ++ u :: T := by
  have hq := (List.getElem?_eq_some_iff.1 hd).1
  rw [List.take_add_one, hd, List.append_assoc, List.set_append_right _ _ (by rw [List.length_take]; omega), List.length_take, Nat.min_eq_left (Nat.le_of_lt hq), Nat.sub_self]
  rfl
theorem keep_at {ds T : List Int} {q : Nat} {d : Int} (hd : ds[q]? = some d) : ds.take (q + 1) ++ T = ds.take q ++ d :: T := by
  rw [List.take_add_one, hd, List.append_assoc]
  rfl

set_option maxHeartbeats 3200000 in
theorem flipOwn_any (A B : Option Addr) (c c' m base : Nat) (ds rs : List Int) (w : World) (ho : Ow w base (.slice A ds.length c) ds) (hb : Rd w B rs) (hm : rs.length = m) (hl : ds.length ≤ 1048576) (hlen : ds.length ≤ rs.length) (hd : Digs ds rs)
    (hne : 0 < ds.length → ∀ bd : Addr, B = some bd → some bd.block ≠ (Value.slice A ds.length c).ownBlock) :
    Calls Tryd.prog 33 #[.slice A ds.length c, .slice B m c', .slice A ds.length c] w fun e w' => e = .returned (.tuple #[]) ∧ Ow w' base (.slice A ds.length c) (fL true ds rs).1 ∧ w.grownBy w' (Value.slice A ds.length c).ownBlock := by
  subst hm
  have HB := Lib.hid hb
  have HN := Lib.hid hne
  have HD := Lib.hid hd
  have HS := Lib.hid (fAt_sum (own := true) hd hl)
  have H0 := Lib.hid (fAt_end true ds rs)
  clear hb hne hd
  go_enter Tryd.func33, Tryd.ntmps33
  go_wp2
  go_loopw [6, 7] (fun s i wr => ∃ j : Nat, j ≤ ds.length ∧ i = .int .i64 ((j : Int) - 1) ∧ s = .int .i64 (fAt true ds rs j).2 ∧ Ow wr base (.slice A ds.length c) (ds.take j ++ (fAt true ds rs j).1) ∧ w.grownBy wr (Value.slice A ds.length c).ownBlock) (fun _ i _ => (intOf i + 1).toNat)
  case atStart => exact ⟨ds.length, Nat.le_refl _, rfl, by rw [H0.out], by rw [H0.out, List.take_length, List.append_nil]; exact ho, World.grownBy.refl _ _⟩
  case round =>
    obtain ⟨k, hk, rfl, rfl, hO, hG⟩ := hrel
    by_cases hlt : 0 < k
    · obtain ⟨q, rfl⟩ : ∃ q, k = q + 1 := ⟨k - 1, by omega⟩
      have ej : ((q + 1 : Nat) : Int) - 1 = (q : Int) := by omega
      rw [ej]
      clear ej
      have RB := HB.out.grown hG (HN.out (by omega))
      have hdq : ds[q]? = some (ds[q]'(by omega)) := List.getElem?_eq_getElem _
      obtain ⟨d, hd⟩ : ∃ d, ds[q]? = some d := ⟨_, hdq⟩
      clear hdq
      obtain ⟨g, x, rfl, hx, hc, hf, hst⟩ := hO.at_ (k := q) (by rw [List.length_append, List.length_take]; omega)
      obtain rfl : x = d := by have := hx.out; rw [mem_at hd] at this; exact (Option.some.inj this).symm
      obtain ⟨bd, r, rfl, hr, hcr⟩ := RB.at_ (k := q) (by omega)
      have hD := HD.out q x r hd hr.out
      have b1 := HS.out (q + 1)
      have HF := Lib.hid (fAt_step (own := true) hd hr.out)
      have HE := Lib.hid hd
      clear hx RB hd
      obtain ⟨p, hp⟩ : ∃ p, fAt true ds rs (q + 1) = p := ⟨_, rfl⟩
      rw [hp] at b1 HF hO hst
      rw [hp]
      clear hp
      obtain ⟨T, s⟩ := p
      have c0 : (0 : Int) ≤ q := by omega
      have c1 : (q : Int) < ds.length := by omega
      have c2 : (q : Int) < rs.length := by omega
      simp only at b1 hO hst ⊢
      have HFF := Lib.hid HF.out
      clear HF
      by_cases hodd : s % 2 = 1
      · have t1 : (s % 2 == 1) = true := by simp [hodd]
        have HU := Lib.hid (hst (r - 1 - x))
        have HO := Lib.hid hodd
        clear hst hO hodd
        go_wp2
        go_region
        go_wp2
        go_roundw
        case rel =>
          have e := HFF.out
          rw [if_pos HO.out] at e
          have hu := HU.out
          rw [set_at HE.out] at hu
          refine ⟨q, by omega, by go_num, by rw [e]; rfl, ?_, ?_⟩
          · rw [e]
            exact hu.1
          · exact only_drew (grown_trans hG hu.2)
        case measure => simp [intOf]
      · have t1 : (s % 2 == 1) = false := by simp [hodd]
        have HOw := Lib.hid hO
        have HO := Lib.hid hodd
        clear hst hO hodd
        go_wp2
        go_roundw
        case rel =>
          have e := HFF.out
          rw [if_neg HO.out] at e
          refine ⟨q, by omega, by go_num, by rw [e]; rfl, ?_, hG⟩
          rw [e]
          have := HOw.out
          rw [keep_at HE.out] at this
          exact this
        case measure => simp [intOf]
    · obtain rfl : k = 0 := by omega
      go_wp2
      go_end0
      exact ⟨rfl, by simpa [fAt] using hO, hG⟩
end Go.Proofs.YthnpobbpmgjhjaaDoor
