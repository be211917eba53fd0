/-
  The walks of With, Without, Of, First, Count.
-/
import Derived.Test.YtglndonfmmbnhaaDoorCpsA
import Derived.Lib.BitFns
namespace Go.Proofs.YtglndonfmmbnhaaDoor
open Go.RowKit

theorem bitN_beq_in {c : Int} (h0 : 0 ≤ c) (h1 : c < 8) : ((bitN c : Int) == 0) = false := by
  rw [cast_beq, beq_eq_false_iff_ne]; have := bitN_pos h0 h1; omega

theorem turn_ok (s : Nat) (c : Int) (w : World) (hs : s < 256) (h0 : 0 ≤ c) (h1 : c < 8) :
    Calls Tryd.prog 35 #[.int .u32 s, .int .i64 c] w fun e w' => e = .returned (.int .i64 0) ∧ w = w' := by
  have ht := bitN_beq_in h0 h1
  go_enter Tryd.func35, Tryd.ntmps35
  go_wp2_with (first | (go_at_call 36; refine (bit_any c _).mono ?_; rintro e w' ⟨rfl, rfl⟩) | (go_at_call 11; refine (check_ok s _ hs).mono ?_; rintro e w' ⟨rfl, rfl⟩))
  go_ret
  exact ⟨rfl, rfl⟩

theorem turn_cpu (s : Nat) (c : Int) (w : World) (hs : s < 256) (h : c < 0 ∨ 8 ≤ c) :
    Calls Tryd.prog 35 #[.int .u32 s, .int .i64 c] w fun e w' => e = .returned (.int .i64 2) ∧ w = w' := by
  have hb := bit_any c
  rw [bitN_out h] at hb
  have HB := Lib.hid hb
  clear hb h
  go_enter Tryd.func35, Tryd.ntmps35
  go_wp2_with (first | (go_at_call 36; refine (HB.out _).mono ?_; rintro e w' ⟨rfl, rfl⟩) | (go_at_call 11; refine (check_ok s _ hs).mono ?_; rintro e w' ⟨rfl, rfl⟩))
  go_ret
  exact ⟨rfl, rfl⟩

theorem turn_set (s : Nat) (c : Int) (w : World) (hs : s < 4294967296) (h : 256 ≤ s) :
    Calls Tryd.prog 35 #[.int .u32 s, .int .i64 c] w fun e w' => e = .returned (.int .i64 140) ∧ w = w' := by
  go_enter Tryd.func35, Tryd.ntmps35
  go_wp2_with (go_at_call 11; refine (check_no s _ hs h).mono ?_; rintro e w' ⟨rfl, rfl⟩)
  go_ret
  exact ⟨rfl, rfl⟩

theorem with_set (s : Nat) (c : Int) (w : World) (hs : s < 4294967296) (h : 256 ≤ s) :
    Calls Tryd.prog 12 #[.int .u32 s, .int .i64 c] w fun e w' => e = .returned (.tuple #[.int .u32 0, .int .i64 140]) ∧ w = w' := by
  go_enter Tryd.func12, Tryd.ntmps12
  go_wp2_with (go_at_call 35; refine (turn_set s c _ hs h).mono ?_; rintro e w' ⟨rfl, rfl⟩)
  go_ret2
  exact ⟨rfl, rfl⟩

theorem with_cpu (s : Nat) (c : Int) (w : World) (hs : s < 256) (h : c < 0 ∨ 8 ≤ c) :
    Calls Tryd.prog 12 #[.int .u32 s, .int .i64 c] w fun e w' => e = .returned (.tuple #[.int .u32 0, .int .i64 2]) ∧ w = w' := by
  have H := Lib.hid h
  clear h
  go_enter Tryd.func12, Tryd.ntmps12
  go_wp2_with (go_at_call 35; refine (turn_cpu s c _ hs H.out).mono ?_; rintro e w' ⟨rfl, rfl⟩)
  go_ret2
  exact ⟨rfl, rfl⟩

theorem with_there (s : Nat) (c : Int) (w : World) (hs : s < 256) (h0 : 0 ≤ c) (h1 : c < 8) (hh : hasN s c = true) :
    Calls Tryd.prog 12 #[.int .u32 s, .int .i64 c] w fun e w' => e = .returned (.tuple #[.int .u32 0, .int .i64 5]) ∧ w = w' := by
  have hc := fun w => has_any s c w (by omega)
  rw [hh] at hc
  have HC := Lib.hid hc
  clear hc hh
  go_enter Tryd.func12, Tryd.ntmps12
  go_wp2_with (first | (go_at_call 35; refine (turn_ok s c _ hs h0 h1).mono ?_; rintro e w' ⟨rfl, rfl⟩) | (go_at_call 14; refine (HC.out _).mono ?_; rintro e w' ⟨rfl, rfl⟩))
  go_ret2
  exact ⟨rfl, rfl⟩

theorem with_ok (s : Nat) (c : Int) (w : World) (hs : s < 256) (h0 : 0 ≤ c) (h1 : c < 8) (hh : hasN s c = false) :
    Calls Tryd.prog 12 #[.int .u32 s, .int .i64 c] w fun e w' => e = .returned (.tuple #[.int .u32 (orN s c), .int .i64 0]) ∧ w = w' := by
  have hc := fun w => has_any s c w (by omega)
  rw [hh] at hc
  have HC := Lib.hid hc
  clear hc hh
  have hl := bitN_lt c
  have eo : bits .or .u32 (s : Int) (bitN c : Int) = (orN s c : Int) := u32_or_nat s (bitN c) (by omega) (by omega)
  go_enter Tryd.func12, Tryd.ntmps12
  go_wp2_with (first | (go_at_call 35; refine (turn_ok s c _ hs h0 h1).mono ?_; rintro e w' ⟨rfl, rfl⟩) | (go_at_call 14; refine (HC.out _).mono ?_; rintro e w' ⟨rfl, rfl⟩) | (go_at_call 36; refine (bit_any c _).mono ?_; rintro e w' ⟨rfl, rfl⟩))
  go_ret2
  exact ⟨rfl, rfl⟩

theorem without_set (s : Nat) (c : Int) (w : World) (hs : s < 4294967296) (h : 256 ≤ s) :
    Calls Tryd.prog 13 #[.int .u32 s, .int .i64 c] w fun e w' => e = .returned (.tuple #[.int .u32 0, .int .i64 140]) ∧ w = w' := by
  go_enter Tryd.func13, Tryd.ntmps13
  go_wp2_with (go_at_call 35; refine (turn_set s c _ hs h).mono ?_; rintro e w' ⟨rfl, rfl⟩)
  go_ret2
  exact ⟨rfl, rfl⟩

theorem without_cpu (s : Nat) (c : Int) (w : World) (hs : s < 256) (h : c < 0 ∨ 8 ≤ c) :
    Calls Tryd.prog 13 #[.int .u32 s, .int .i64 c] w fun e w' => e = .returned (.tuple #[.int .u32 0, .int .i64 2]) ∧ w = w' := by
  have H := Lib.hid h
  clear h
  go_enter Tryd.func13, Tryd.ntmps13
  go_wp2_with (go_at_call 35; refine (turn_cpu s c _ hs H.out).mono ?_; rintro e w' ⟨rfl, rfl⟩)
  go_ret2
  exact ⟨rfl, rfl⟩

theorem without_none (s : Nat) (c : Int) (w : World) (hs : s < 256) (h0 : 0 ≤ c) (h1 : c < 8) (hh : hasN s c = false) :
    Calls Tryd.prog 13 #[.int .u32 s, .int .i64 c] w fun e w' => e = .returned (.tuple #[.int .u32 0, .int .i64 4]) ∧ w = w' := by
  have hc := fun w => has_any s c w (by omega)
  rw [hh] at hc
  have HC := Lib.hid hc
  clear hc hh
  go_enter Tryd.func13, Tryd.ntmps13
  go_wp2_with (first | (go_at_call 35; refine (turn_ok s c _ hs h0 h1).mono ?_; rintro e w' ⟨rfl, rfl⟩) | (go_at_call 14; refine (HC.out _).mono ?_; rintro e w' ⟨rfl, rfl⟩))
  go_ret2
  exact ⟨rfl, rfl⟩

theorem without_ok (s : Nat) (c : Int) (w : World) (hs : s < 256) (h0 : 0 ≤ c) (h1 : c < 8) (hh : hasN s c = true) :
    Calls Tryd.prog 13 #[.int .u32 s, .int .i64 c] w fun e w' => e = .returned (.tuple #[.int .u32 (offN s c), .int .i64 0]) ∧ w = w' := by
  have hc := fun w => has_any s c w (by omega)
  rw [hh] at hc
  have HC := Lib.hid hc
  clear hc hh
  have hl := bitN_lt c
  have eo : bits .andNot .u32 (s : Int) (bitN c : Int) = (offN s c : Int) := u32_andNot_nat s (bitN c) (by omega) (by omega)
  go_enter Tryd.func13, Tryd.ntmps13
  go_wp2_with (first | (go_at_call 35; refine (turn_ok s c _ hs h0 h1).mono ?_; rintro e w' ⟨rfl, rfl⟩) | (go_at_call 14; refine (HC.out _).mono ?_; rintro e w' ⟨rfl, rfl⟩) | (go_at_call 36; refine (bit_any c _).mono ?_; rintro e w' ⟨rfl, rfl⟩))
  go_ret2
  exact ⟨rfl, rfl⟩

theorem low_self (x : Nat) (hx : x < 256) : bits .and .u32 (x : Int) 255 = (x : Int) := by
  have h := u32_and_nat x 255 (by omega) (by omega)
  rw [show ((255 : Nat) : Int) = 255 from rfl] at h
  rw [h, show (255 : Nat) = 2 ^ 8 - 1 from rfl, Nat.and_two_pow_sub_one_eq_mod, Nat.mod_eq_of_lt hx]

theorem pop8_bound (x : Nat) (hx : x < 256) : Lib.pop8 (x : Int) = (Lib.onesCount x : Int) ∧ Lib.onesCount x ≤ 8 :=
  ⟨Lib.pop8_eq ⟨x, hx⟩, Lib.onesCount_le8 ⟨x, hx⟩⟩

theorem ones_any (x : Nat) (w : World) (hx : x < 256) :
    Calls Tryd.prog 37 #[.int .u32 x] w fun e w' => e = .returned (.int .i64 (Lib.onesCount x)) ∧ Below w.heap.size w w' := by
  have e0 := low_self x hx
  have h24 : (x : Int) / 16777216 = 0 := by omega
  have h16 : (x : Int) / 65536 = 0 := by omega
  have h8 : (x : Int) / 256 = 0 := by omega
  have e00 : bits .and .u32 0 255 = 0 := by decide
  have p0 : Lib.pop8 0 = 0 := by decide +kernel
  obtain ⟨hp, hle⟩ := pop8_bound x hx
  generalize Lib.onesCount x = y at hp hle
  have hx1 : (x : Int) ≤ 255 := by omega
  have hx0 : 0 ≤ (x : Int) := by omega
  have hw0 : IntKind.u8.wrap 0 = 0 := by decide
  have hwy : IntKind.u8.wrap (y : Int) = (y : Int) := by rw [IntKind.wrap_u8]; omega
  go_enter Tryd.func37, Tryd.ntmps37
  go_wp2_with fail
  go_quiet (fail)
  go_wp2
  go_ret
  exact ⟨rfl, below_drewN (Below.refl _ _) _⟩

theorem lowN_lt (s : Nat) : lowN s < 256 := by
  unfold lowN
  rw [show (255 : Nat) = 2 ^ 8 - 1 from rfl, Nat.and_two_pow_sub_one_eq_mod]
  exact Nat.mod_lt _ (by decide)

theorem count_any (s : Nat) (w : World) (hs : s < 4294967296) :
    Calls Tryd.prog 15 #[.int .u32 s] w fun e w' => e = .returned (.int .i64 (Lib.onesCount (lowN s))) ∧ Below w.heap.size w w' := by
  have e1 : bits .and .u32 (s : Int) 255 = (lowN s : Int) := u32_and_nat s 255 hs (by omega)
  go_enter Tryd.func15, Tryd.ntmps15
  go_wp2_with (go_at_call 37; refine (ones_any (lowN s) _ (lowN_lt s)).mono ?_; rintro e w' ⟨rfl, hb⟩)
  go_ret
  exact ⟨rfl, hb⟩

/-- The set of the first k of the numbers f 0, f 1, .. -/
def ofN (f : Nat → Int) : Nat → Nat
  | 0 => 0
  | k + 1 => ofN f k ||| bitN (f k)

theorem ofN_lt (f : Nat → Int) : ∀ k, ofN f k < 256
  | 0 => by simp [ofN]
  | k + 1 => Nat.or_lt_two_pow (n := 8) (ofN_lt f k) (bitN_lt (f k))

theorem of_ok (b off len cap : Nat) (f : Nat → Int) (w : World) (hlen : len ≤ 9223372036854775807) (hc : ∀ i, i < len → w.cell? ⟨b, off + i, none⟩ = some (.int .i64 (f i)))
    (hin : ∀ i, i < len → 0 ≤ f i ∧ f i < 8) :
    Calls Tryd.prog 18 #[.slice (some ⟨b, off, none⟩) len cap] w fun e w' => e = .returned (.tuple #[.int .u32 (ofN f len), .int .i64 0]) ∧ w = w' := by
  have HC := Lib.hid hc
  have HI := Lib.hid hin
  clear hc hin
  go_enter Tryd.func18, Tryd.ntmps18
  go_wp2
  go_loop [4, 10] (fun s i => ∃ k : Nat, k ≤ len ∧ i = .int .i64 k ∧ s = .int .u32 (ofN f k)) (fun _ i => len - (intOf i).toNat)
  case atStart => exact ⟨0, Nat.zero_le _, rfl, rfl⟩
  case round =>
    obtain ⟨k, hk, rfl, rfl⟩ := hrel
    by_cases hlt : k < len
    · have hck := HC.out k hlt
      have ht := bitN_beq_in (HI.out k hlt).1 (HI.out k hlt).2
      have l1 := ofN_lt f k
      have l2 := bitN_lt (f k)
      have eo : bits .or .u32 (ofN f k : Int) (bitN (f k) : Int) = (ofN f (k + 1) : Int) := u32_or_nat _ _ (by omega) (by omega)
      go_wp2_with (go_at_call 36; refine (bit_any (f k) _).mono ?_; rintro e w' ⟨rfl, rfl⟩)
      go_round
      case rel => exact ⟨k + 1, by omega, by go_num, rfl⟩
      case measure => simp [intOf]; omega
    · have e : k = len := by omega
      subst e
      go_wp2
      go_ret2
      exact ⟨rfl, rfl⟩

theorem of_no (b off len cap : Nat) (f : Nat → Int) (w : World) (hlen : len ≤ 9223372036854775807) (hc : ∀ i, i < len → w.cell? ⟨b, off + i, none⟩ = some (.int .i64 (f i)))
    (hbad : ∃ i, i < len ∧ (f i < 0 ∨ 8 ≤ f i)) :
    Calls Tryd.prog 18 #[.slice (some ⟨b, off, none⟩) len cap] w fun e w' => e = .returned (.tuple #[.int .u32 0, .int .i64 2]) ∧ w = w' := by
  have HC := Lib.hid hc
  have HB := Lib.hid hbad
  clear hc hbad
  go_enter Tryd.func18, Tryd.ntmps18
  go_wp2
  go_loop [4, 10] (fun s i => ∃ k : Nat, k ≤ len ∧ i = .int .i64 k ∧ s = .int .u32 (ofN f k) ∧ Hid (∀ j, j < k → 0 ≤ f j ∧ f j < 8)) (fun _ i => len - (intOf i).toNat)
  case atStart => exact ⟨0, Nat.zero_le _, rfl, rfl, fun j hj => absurd hj (Nat.not_lt_zero _)⟩
  case round =>
    obtain ⟨k, hk, rfl, rfl, HP⟩ := hrel
    have hlt : k < len := by
      obtain ⟨j, hj, hbj⟩ := HB.out
      by_cases hkj : j < k
      · have := HP.out j hkj; omega
      · omega
    have hck := HC.out k hlt
    by_cases hg : f k < 0 ∨ 8 ≤ f k
    · have hb := bit_any (f k)
      rw [bitN_out hg] at hb
      have HBt := Lib.hid hb
      clear hb hg
      go_wp2_with (go_at_call 36; refine (HBt.out _).mono ?_; rintro e w' ⟨rfl, rfl⟩)
      go_ret2
      exact ⟨rfl, rfl⟩
    · have h0 : 0 ≤ f k := by omega
      have h1 : f k < 8 := by omega
      clear hg
      have ht := bitN_beq_in h0 h1
      have l1 := ofN_lt f k
      have l2 := bitN_lt (f k)
      have eo : bits .or .u32 (ofN f k : Int) (bitN (f k) : Int) = (ofN f (k + 1) : Int) := u32_or_nat _ _ (by omega) (by omega)
      go_wp2_with (go_at_call 36; refine (bit_any (f k) _).mono ?_; rintro e w' ⟨rfl, rfl⟩)
      go_round
      case rel =>
        refine ⟨k + 1, by omega, by go_num, rfl, fun j hj => ?_⟩
        by_cases e : j = k
        · subst e; exact ⟨h0, h1⟩
        · exact HP.out j (by omega)
      case measure => simp [intOf]; omega

theorem of_empty (a : Option Addr) (cap : Nat) (w : World) :
    Calls Tryd.prog 18 #[.slice a 0 cap] w fun e w' => e = .returned (.tuple #[.int .u32 0, .int .i64 0]) ∧ w = w' := by
  go_enter Tryd.func18, Tryd.ntmps18
  go_wp2
  go_loop [4, 10] (fun s i => i = .int .i64 0 ∧ s = .int .u32 0) (fun _ i => 0 - (intOf i).toNat)
  case atStart => exact ⟨rfl, rfl⟩
  case round =>
    obtain ⟨rfl, rfl⟩ := hrel
    go_wp2
    go_ret2
    exact ⟨rfl, rfl⟩

end Go.Proofs.YtglndonfmmbnhaaDoor
