/-
  The document's answers: Cpu, Right, Has, digit.
-/
import Derived.Test.YtglndonfmmbnhaaDoorCpsK
namespace Go.Proofs.YtglndonfmmbnhaaDoor
open Go.RowKit

theorem cpu_in (n : Int) (w : World) (h0 : 0 ≤ n) (h1 : n < 8) : Calls Tryd.prog 30 #[.int .i64 n] w fun e w' => e = .returned (.bool true) ∧ w = w' := by
  go_enter Tryd.func30, Tryd.ntmps30
  go_wp2
  go_ret
  exact ⟨by simp, rfl⟩

theorem cpu_out (n : Int) (w : World) (h : n < 0 ∨ 8 ≤ n) : Calls Tryd.prog 30 #[.int .i64 n] w fun e w' => e = .returned (.bool false) ∧ w = w' := by
  rcases h with h | h
  · go_enter Tryd.func30, Tryd.ntmps30
    go_wp2
    go_ret
    exact ⟨rfl, rfl⟩
  · have h0 : 0 ≤ n := by omega
    go_enter Tryd.func30, Tryd.ntmps30
    go_wp2
    go_ret
    exact ⟨by simp; omega, rfl⟩

theorem and_pow_ne (s k : Nat) : (s &&& 2 ^ k != 0) = s.testBit k := by
  cases h : s.testBit k with
  | true =>
    rw [bne_iff_ne]
    intro e
    have h2 : (s &&& 2 ^ k).testBit k = true := by rw [Nat.testBit_and, h, Nat.testBit_two_pow_self]; rfl
    rw [e, Nat.zero_testBit] at h2
    cases h2
  | false =>
    have e : s &&& 2 ^ k = 0 := by
      apply Nat.eq_of_testBit_eq
      intro i
      rw [Nat.testBit_and, Nat.zero_testBit, Nat.testBit_two_pow]
      by_cases hi : k = i
      · subst hi; rw [h]; rfl
      · simp [hi]
    rw [e]; rfl

theorem has_bit (s k : Nat) (hk : k < 8) : ((((s : Int) / 2 ^ k).tmod 2) == 1) = hasN s (k : Int) := by
  unfold hasN
  rw [bitN_in (by omega) (by omega), Int.toNat_natCast, and_pow_ne, Nat.testBit_eq_decide_div_mod_eq]
  have e : ((s : Int) / 2 ^ k).tmod 2 = ((s / 2 ^ k % 2 : Nat) : Int) := by
    have e1 : ((s : Int) / 2 ^ k) = ((s / 2 ^ k : Nat) : Int) := by simp
    rw [e1]; rfl
  rw [e, Bool.eq_iff_iff, beq_iff_eq, decide_eq_true_iff]
  omega

theorem rhas_any (s : Nat) (c : Int) (w : World) :
    Calls Tryd.prog 31 #[.int .u32 s, .int .i64 c] w fun e w' => e = .returned (.bool (hasN s c)) ∧ w = w' := by
  by_cases h : 0 ≤ c ∧ c < 8
  · obtain ⟨h0, h1⟩ := h
    obtain ⟨k, rfl⟩ := Int.eq_ofNat_of_zero_le h0
    have hb := has_bit s k (by omega)
    go_enter Tryd.func31, Tryd.ntmps31
    go_wp2_with (go_at_call 30; refine (cpu_in _ _ h0 h1).mono ?_; rintro e w' ⟨rfl, rfl⟩)
    go_ret
    exact ⟨by rw [← hb]; rfl, rfl⟩
  · have h' : c < 0 ∨ 8 ≤ c := by omega
    have hf : hasN s c = false := by unfold hasN; rw [bitN_out h']; simp
    rw [hf]
    have HH := Lib.hid h'
    clear h h'
    go_enter Tryd.func31, Tryd.ntmps31
    go_wp2_with (go_at_call 30; refine (cpu_out _ _ HH.out).mono ?_; rintro e w' ⟨rfl, rfl⟩)
    go_ret
    exact ⟨rfl, rfl⟩

theorem right_yes (s : Nat) (w : World) (hs : s < 256) : Calls Tryd.prog 22 #[.int .u32 s] w fun e w' => e = .returned (.bool true) ∧ w = w' := by
  go_enter Tryd.func22, Tryd.ntmps22
  go_wp2
  go_ret
  exact ⟨by simp; omega, rfl⟩

theorem right_no (s : Nat) (w : World) (hs : 256 ≤ s) : Calls Tryd.prog 22 #[.int .u32 s] w fun e w' => e = .returned (.bool false) ∧ w = w' := by
  go_enter Tryd.func22, Tryd.ntmps22
  go_wp2
  go_ret
  exact ⟨by simp; omega, rfl⟩

theorem digit_text : ∀ n : Fin 10, Utf8.encode (48 + (n.val : Int)) = ⟨#[48 + UInt8.ofNat n.val]⟩ := by decide +kernel

theorem digit_any (n : Nat) (w : World) (hn : n < 10) : Calls Tryd.prog 44 #[.int .i64 n] w fun e w' => e = .returned (.string ⟨#[48 + UInt8.ofNat n]⟩) ∧ w = w' := by
  go_enter Tryd.func44, Tryd.ntmps44
  go_wp2
  go_ret
  exact ⟨by rw [← digit_text ⟨n, hn⟩]; rfl, rfl⟩

end Go.Proofs.YtglndonfmmbnhaaDoor
