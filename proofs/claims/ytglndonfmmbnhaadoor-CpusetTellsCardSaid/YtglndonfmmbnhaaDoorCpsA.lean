/-
  The walks of the small cpuset functions: sets as numbers.
-/
import Derived.Test.YtglndonfmmbnhaaDoorRows
import Derived.Test.YtglndonfmmbnhaaDoorShelf
import Derived.WalkKit
import Derived.WalkSpells
import Derived.WalkLawsBesides
import Derived.Lib.Hide
import Derived.Laws.BitsAllLaws
import Derived.Deep.QuietTactic
import Derived.BigQuiet
import Derived.Outline
namespace Go.Proofs.YtglndonfmmbnhaaDoor
open Go.RowKit

/-- The bit of a number; 0, if it is none. -/
def bitN (c : Int) : Nat := if 0 ≤ c ∧ c < 8 then 2 ^ c.toNat else 0
def hasN (s : Nat) (c : Int) : Bool := (s &&& bitN c) != 0
def orN (s : Nat) (c : Int) : Nat := s ||| bitN c
def offN (s : Nat) (c : Int) : Nat := s &&& (4294967295 - bitN c)
def lowN (s : Nat) : Nat := s &&& 255
def withinN (s t : Nat) : Bool := (lowN s &&& (4294967295 - t)) == 0

theorem bitN_in {c : Int} (h0 : 0 ≤ c) (h1 : c < 8) : bitN c = 2 ^ c.toNat := if_pos ⟨h0, h1⟩
theorem bitN_out {c : Int} (h : c < 0 ∨ 8 ≤ c) : bitN c = 0 := if_neg (by omega)
theorem bitN_lt (c : Int) : bitN c < 256 := by
  by_cases h : 0 ≤ c ∧ c < 8
  · rw [bitN_in h.1 h.2]
    have h8 : c.toNat < 8 := by omega
    exact (Nat.pow_lt_pow_right (by omega) h8 : 2 ^ c.toNat < 2 ^ 8)
  · rw [bitN_out (by omega)]; omega
theorem bitN_pos {c : Int} (h0 : 0 ≤ c) (h1 : c < 8) : 0 < bitN c := by rw [bitN_in h0 h1]; exact Nat.two_pow_pos _

theorem cast_bne (x : Nat) : (((x : Nat) : Int) != 0) = (x != 0) := by rw [Bool.eq_iff_iff, bne_iff_ne, bne_iff_ne]; omega
theorem cast_beq (x : Nat) : (((x : Nat) : Int) == 0) = (x == 0) := by rw [Bool.eq_iff_iff, beq_iff_eq, beq_iff_eq]; omega

theorem and_hi (s : Nat) (hs : s < 4294967296) : (s &&& 4294967040 = 0) ↔ s < 256 := by
  have h1 : s &&& 4294967040 = s / 256 * 256 := by
    apply Nat.eq_of_testBit_eq
    intro i
    rw [Nat.testBit_and, show (256 : Nat) = 2 ^ 8 from rfl, Nat.testBit_mul_two_pow, Nat.testBit_div_two_pow]
    rw [show (4294967040 : Nat) = (2 ^ 24 - 1) * 2 ^ 8 from rfl, Nat.testBit_mul_two_pow, Nat.testBit_two_pow_sub_one]
    by_cases h8 : 8 ≤ i
    · simp only [h8, decide_true, Bool.true_and]
      rw [show i - 8 + 8 = i from by omega]
      by_cases h32 : i - 8 < 24
      · simp [h32]
      · have h32' : 32 ≤ i := by omega
        have hp : 2 ^ 32 ≤ 2 ^ i := Nat.pow_le_pow_right (by decide) h32'
        have : s.testBit i = false := Nat.testBit_lt_two_pow (Nat.lt_of_lt_of_le hs hp)
        simp [this]
    · simp [h8]
  rw [h1]
  omega

theorem test_check {s : Nat} (hs : s < 4294967296) : (bits .andNot .u32 (s : Int) 255 != 0) = !decide (s < 256) := by
  have h := u32_andNot_nat s 255 hs (by omega)
  rw [show ((255 : Nat) : Int) = 255 from rfl] at h
  rw [h]
  have h2 := and_hi s hs
  by_cases h3 : s < 256
  · have h4 := h2.2 h3
    simp only [show 4294967295 - 255 = 4294967040 from rfl, h4, h3]; rfl
  · have h4 : s &&& 4294967040 ≠ 0 := fun e => h3 (h2.1 e)
    simp only [show 4294967295 - 255 = 4294967040 from rfl, h3]
    simp only [decide_false, Bool.not_false, bne_iff_ne]
    omega

theorem check_ok (s : Nat) (w : World) (hs : s < 256) :
    Calls Tryd.prog 11 #[.int .u32 s] w fun e w' => e = .returned (.int .i64 0) ∧ w = w' := by
  have ht : (bits .andNot .u32 (s : Int) 255 != 0) = false := by rw [test_check (by omega)]; simp [hs]
  go_enter Tryd.func11, Tryd.ntmps11
  go_wp2
  go_ret
  exact ⟨rfl, rfl⟩

theorem check_no (s : Nat) (w : World) (hs : s < 4294967296) (h : 256 ≤ s) :
    Calls Tryd.prog 11 #[.int .u32 s] w fun e w' => e = .returned (.int .i64 140) ∧ w = w' := by
  have ht : (bits .andNot .u32 (s : Int) 255 != 0) = true := by rw [test_check hs]; simp [h]
  go_enter Tryd.func11, Tryd.ntmps11
  go_wp2
  go_ret
  exact ⟨rfl, rfl⟩

theorem bit_any (c : Int) (w : World) :
    Calls Tryd.prog 36 #[.int .i64 c] w fun e w' => e = .returned (.int .u32 (bitN c)) ∧ w = w' := by
  by_cases h0 : c < 0
  · rw [bitN_out (.inl h0)]
    go_enter Tryd.func36, Tryd.ntmps36
    go_wp2
    go_ret
    exact ⟨rfl, rfl⟩
  · by_cases h1 : c < 8
    · have h0' : 0 ≤ c := by omega
      have he : ((bitN c : Nat) : Int) = 2 ^ c.toNat % 4294967296 := by
        have h8 : c = 0 ∨ c = 1 ∨ c = 2 ∨ c = 3 ∨ c = 4 ∨ c = 5 ∨ c = 6 ∨ c = 7 := by omega
        rcases h8 with rfl | rfl | rfl | rfl | rfl | rfl | rfl | rfl <;> decide
      rw [he]
      clear he h0
      go_enter Tryd.func36, Tryd.ntmps36
      go_wp2
      go_ret
      exact ⟨rfl, rfl⟩
    · rw [bitN_out (.inr (by omega))]
      have h0' : 0 ≤ c := by omega
      have h1' : 8 ≤ c := by omega
      clear h0 h1
      go_enter Tryd.func36, Tryd.ntmps36
      go_wp2
      go_ret
      exact ⟨rfl, rfl⟩

theorem has_any (s : Nat) (c : Int) (w : World) (hs : s < 4294967296) :
    Calls Tryd.prog 14 #[.int .u32 s, .int .i64 c] w fun e w' => e = .returned (.bool (hasN s c)) ∧ w = w' := by
  have hl := bitN_lt c
  have ht : (bits .and .u32 (s : Int) (bitN c : Int) != 0) = hasN s c := by
    rw [u32_and_nat s (bitN c) hs (by omega)]
    exact cast_bne _
  go_enter Tryd.func14, Tryd.ntmps14
  go_wp2_with (go_at_call 36; refine (bit_any c _).mono ?_; rintro e w' ⟨rfl, rfl⟩)
  go_ret
  exact ⟨rfl, rfl⟩

theorem within_any (s t : Nat) (w : World) (hs : s < 4294967296) (ht : t < 4294967296) :
    Calls Tryd.prog 16 #[.int .u32 s, .int .u32 t] w fun e w' => e = .returned (.bool (withinN s t)) ∧ w = w' := by
  have e1 : bits .and .u32 (s : Int) 255 = (lowN s : Int) := u32_and_nat s 255 hs (by omega)
  have hlow : lowN s < 4294967296 := Nat.lt_of_le_of_lt Nat.and_le_left hs
  have e2 : (bits .andNot .u32 (lowN s : Int) (t : Int) == 0) = withinN s t := by
    rw [u32_andNot_nat (lowN s) t hlow ht]
    exact cast_beq _
  go_enter Tryd.func16, Tryd.ntmps16
  go_wp2
  go_ret
  exact ⟨rfl, rfl⟩

end Go.Proofs.YtglndonfmmbnhaaDoor
