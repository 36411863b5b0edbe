/-
  WALKS OF markText, strings.IndexByte, eqStringS, markStringS, heldStringS. No statement of the seat is proved here.
-/
import Derived.Test.YtepjmlcleggnnaaStrB
import Derived.PlainAid
import Derived.Lib.Bytealg
import Derived.Lib.IndexLaws
import Derived.Laws.IdiomStrings
import Derived.Laws.DeepStrings4
namespace Go.Proofs.Ytepjmlcleggnnaa
open Go.RowKit

/-- The decimal digits of k ahead of the text out. -/
def digs (k : Nat) (out : ByteArray) : ByteArray :=
  if h : k = 0 then out else digs (k / 10) (⟨#[UInt8.ofNat (48 + k % 10)]⟩ ++ out)
termination_by k
decreasing_by omega
theorem digs_zero (out : ByteArray) : digs 0 out = out := by rw [digs]; rfl
theorem digs_pos {k : Nat} (h : 0 < k) (out : ByteArray) : digs k out = digs (k / 10) (⟨#[UInt8.ofNat (48 + k % 10)]⟩ ++ out) := by
  rw [digs, dif_neg (by omega)]
/-- The text of mark k. -/
def mkT (k : Nat) : ByteArray := ⟨#[109]⟩ ++ digs k ⟨#[]⟩

theorem conv1 (u : World) (n : Nat) (hn : n < 256) :
    (convert 42 9 (.slice (some ⟨u.heap.size, 0, none⟩) 1 1)).run Try.prog (u.alloc (.cells #[.int .u8 (n : Int)] 5)) = .ok (.string ⟨#[UInt8.ofNat n]⟩) (u.alloc (.cells #[.int .u8 (n : Int)] 5)) := by
  have e : ((UInt8.ofNat n).toNat : Int) = n := by
    rw [UInt8.toNat_ofNat']
    omega
  have := run_convert_bytes_back (P := Try.prog) (u.alloc (.cells #[.int .u8 (n : Int)] 5)) 42 9 5 ⟨u.heap.size, 0, none⟩ 1 [UInt8.ofNat n] Try.underlying42 Try.underlying5 Try.underlying9 (by
    intro j hj
    match j, hj with
    | 0, _ =>
      rw [Addr.add_zero', World.cell?_alloc_at _ _ _ _ rfl]
      show some (Value.int .u8 (n : Int)) = some (Value.int .u8 ((UInt8.ofNat n).toNat : Int))
      rw [e])
  simpa using this

theorem append_size (a b : ByteArray) : (a ++ b).size = a.size + b.size := ByteArray.size_append

set_option maxHeartbeats 1600000 in
theorem markText_any (k : Nat) (w : World) (hk0 : 0 < k) (hk1 : k ≤ 4398046511104) :
    Calls Try.prog 52 #[.int .i64 k] w fun e w' => e = .returned (.string (mkT k)) ∧ Below w.heap.size w w' := by
  go_enter Try.func52, Try.ntmps52
  go_wp2
  go_loopw [0, 3] (fun q o wr => ∃ (j : Nat) (out : ByteArray), q = .int .i64 j ∧ o = .string out ∧ out.size + j ≤ k ∧ Hid (digs j out = digs k ⟨#[]⟩) ∧ Below w.heap.size w wr) (fun q _ _ => (intOf q).toNat)
  case atStart => exact ⟨k, ⟨#[]⟩, rfl, rfl, by simp [ByteArray.size], rfl, Below.refl _ _⟩
  case round =>
    obtain ⟨j, out, rfl, rfl, hs, hd, hb⟩ := hrel
    by_cases hj : 0 < j
    · have HD := Lib.hid ((digs_pos hj out).symm.trans hd.out)
      have HB := Lib.hid hb
      have hsz : (⟨#[UInt8.ofNat (48 + j % 10)]⟩ : ByteArray).size + out.size ≤ 9223372036854775807 := by
        have : (⟨#[UInt8.ofNat (48 + j % 10)]⟩ : ByteArray).size = 1 := rfl
        omega
      have hcv := fun u : World => conv1 u (48 + j % 10) (by omega)
      have e0 : ((48 + j % 10 : Nat) : Int) = 48 + (j : Int) % 10 := by omega
      rw [e0] at hcv
      clear e0
      have hadd := fun u : World => run_string_add_sum (P := Try.prog) u ⟨#[UInt8.ofNat (48 + j % 10)]⟩ out hsz
      have e1 : IntKind.u8.wrap (48 + (j : Int) % 10) = ((48 + j % 10 : Nat) : Int) := by
        rw [IntKind.wrap_u8]; omega
      have e2 : (j : Int).tmod 10 = (j : Int) % 10 := Int.tmod_eq_emod_of_nonneg (by omega)
      have e3 : (j : Int).tdiv 10 = ((j / 10 : Nat) : Int) := by rw [Int.tdiv_eq_ediv_of_nonneg (by omega)]; rfl
      clear hd hb
      have HZ : UInt8.ofNat (48 + j % 10) = 48 + UInt8.ofNat (j % 10) := by simp
      rw [HZ] at HD hcv hadd hsz
      obtain ⟨c, hc⟩ : ∃ c : UInt8, 48 + UInt8.ofNat (j % 10) = c := ⟨_, rfl⟩
      rw [hc] at HD hcv hadd hsz
      clear HZ hc
      go_wp2
      go_roundw
      case rel =>
        refine ⟨j / 10, _, by go_num, rfl, ?_, HD, ?_⟩
        · rw [append_size]
          have : (⟨#[c]⟩ : ByteArray).size = 1 := rfl
          have h2 : j / 10 + 1 ≤ j := by omega
          have h3 : (j : Int).tdiv 10 = ((j / 10 : Nat) : Int) := by rw [Int.tdiv_eq_ediv_of_nonneg (by omega)]; rfl
          omega
        · exact HB.out.alloc HB.out.size _
      case measure => simp [intOf]; omega
    · have hj0 : j = 0 := by omega
      subst hj0
      have hd2 : out = digs k ⟨#[]⟩ := by rw [← hd.out, digs_zero]
      have hadd := fun u : World => run_string_add_sum (P := Try.prog) u ⟨#[109]⟩ out (by
        have : (⟨#[109]⟩ : ByteArray).size = 1 := rfl
        omega)
      have HD := Lib.hid hd2
      clear hd2 hd
      go_wp2
      go_ret
      exact ⟨by rw [HD.out]; rfl, hb⟩
end Go.Proofs.Ytepjmlcleggnnaa
