/-
  The walk of the law CpusetTurns.
-/
import Derived.Test.YtglndonfmmbnhaaDoorCpsZ
namespace Go.Proofs.YtglndonfmmbnhaaDoor
open Go.RowKit

theorem chainB3 {B : Nat} {w a b : World} (h : Below B w a) (k : Below a.heap.size a b) (hB : B ≤ a.heap.size) : Below B w b := h.trans (k.mono hB)

theorem turns_fact : ∀ (s : Fin 256) (c : Fin 8), (hasN s.val (c.val : Int) = true → 2 ^ c.val ≤ s.val ∧ s.val - 2 ^ c.val = offN s.val (c.val : Int)) ∧ (hasN s.val (c.val : Int) = false → s.val + 2 ^ c.val = orN s.val (c.val : Int)) ∧ 2 ^ c.val < 256 := by decide +kernel

set_option maxRecDepth 100000 in
set_option maxHeartbeats 4000000 in
theorem turns_any (a a' : Option Addr) (len cap len' cap' : Nat) (w : World) (hL : LibOk w) (hS : SetsAt w a len) (hT : NumsAt w a' len') :
    Calls Tryd.prog 8 #[.slice a len cap, .slice a' len' cap'] w fun e w' => e = .returned (.bool true) ∧ Below w.heap.size w w' := by
  have HL := Lib.hid hL
  have HS := Lib.hid hS
  have HT := Lib.hid hT
  have h7 := hL.big
  have hlen := hS.le
  have hlen' := hT.le
  clear hL hS hT
  go_enter Tryd.func8, Tryd.ntmps8
  go_wp2_with (go_at_call 10; refine (wakes_yes w HL.out).mono ?_; rintro e w1 ⟨rfl, hb1⟩)
  go_loopw [21] (fun i wr => ∃ k : Nat, k ≤ len ∧ i = .int .i64 k ∧ Below w.heap.size w wr) (fun i _ => len - (intOf i).toNat)
  case atStart => exact ⟨0, Nat.zero_le _, rfl, hb1⟩
  case round =>
    obtain ⟨k, hk, rfl, hbr⟩ := hrel
    have hsz := hbr.size
    by_cases hlt : k < len
    · obtain ⟨b, off, s, rfl, c0, hs32⟩ := (HS.out.below hbr).get hlt
      by_cases h12 : k = 12
      · have h12' : ((k : Int) == 12) = true := by rw [beq_iff_eq]; omega
        clear h12
        go_wp2
        go_ret
        exact ⟨rfl, hbr⟩
      · have h12' : ((k : Int) == 12) = false := by rw [beq_eq_false_iff_ne]; omega
        clear h12
        go_wp2
        go_loopw [30] (fun i wi => ∃ j : Nat, j ≤ len' ∧ i = .int .i64 j ∧ Below w.heap.size w wi) (fun i _ => len' - (intOf i).toNat)
        case atStart => exact ⟨0, Nat.zero_le _, rfl, hbr⟩
        case round =>
          obtain ⟨j, hj, rfl, hbi⟩ := hrel
          have hszi := hbi.size
          by_cases hgo : j < len' ∧ j ≠ 12
          · obtain ⟨hlt2, h12⟩ := hgo
            have h12'' : ((j : Int) == 12) = false := by rw [beq_eq_false_iff_ne]; omega
            clear h12
            obtain ⟨b2, off2, c, rfl, c2, hc1, hc2⟩ := (HT.out.below hbi).get hlt2
            by_cases hs : s < 256
            · by_cases hc : 0 ≤ c ∧ c < 8
              · obtain ⟨h0, h1⟩ := hc
                obtain ⟨n, rfl⟩ := Int.eq_ofNat_of_zero_le h0
                obtain ⟨f1, f2, f3⟩ := turns_fact ⟨s, hs⟩ ⟨n, by omega⟩
                simp only at f1 f2 f3
                cases hh : hasN s n with
                | true =>
                  obtain ⟨g1, g2⟩ := f1 hh
                  have H1 := Lib.hid (fun w => with_there s n w hs h0 h1 hh)
                  have H2 := Lib.hid (fun w => without_ok s n w hs h0 h1 hh)
                  have H3 := Lib.hid (fun w => rhas_any s n w)
                  rw [hh] at H3
                  clear hh f1 f2
                  generalize offN s n = y at *
                  have hv : ((s : Int) - 2 ^ n % 4294967296) % 4294967296 = (y : Int) := by
                    have hp : (2 : Int) ^ n = ((2 ^ n : Nat) : Int) := by simp
                    rw [hp]; generalize 2 ^ n = q at *; omega
                  go_wp2_with (first | (go_at_call 12; refine (H1.out _).mono ?_; rintro e w' ⟨rfl, rfl⟩) | (go_at_call 13; refine (H2.out _).mono ?_; rintro e w' ⟨rfl, rfl⟩) | (go_at_call 22; refine (right_yes s _ hs).mono ?_; rintro e w' ⟨rfl, rfl⟩) | (go_at_call 30; refine (cpu_in _ _ h0 h1).mono ?_; rintro e w' ⟨rfl, rfl⟩) | (go_at_call 31; refine (H3.out _).mono ?_; rintro e w' ⟨rfl, rfl⟩))
                  go_quiet (fail)
                  go_wp2
                  go_roundw
                  case rel => exact ⟨j + 1, by omega, by go_num, below_drewN hbi _⟩
                  case measure => simp [intOf]; omega
                | false =>
                  have g2 := f2 hh
                  have H1 := Lib.hid (fun w => with_ok s n w hs h0 h1 hh)
                  have H2 := Lib.hid (fun w => without_none s n w hs h0 h1 hh)
                  have H3 := Lib.hid (fun w => rhas_any s n w)
                  rw [hh] at H3
                  have hy : orN s n < 256 := Nat.or_lt_two_pow (n := 8) hs (bitN_lt n)
                  clear hh f1 f2
                  generalize orN s n = y at *
                  have hv : ((s : Int) + 2 ^ n % 4294967296) % 4294967296 = (y : Int) := by
                    have hp : (2 : Int) ^ n = ((2 ^ n : Nat) : Int) := by simp
                    rw [hp]; generalize 2 ^ n = q at *; omega
                  go_wp2_with (first | (go_at_call 12; refine (H1.out _).mono ?_; rintro e w' ⟨rfl, rfl⟩) | (go_at_call 13; refine (H2.out _).mono ?_; rintro e w' ⟨rfl, rfl⟩) | (go_at_call 22; refine (right_yes s _ hs).mono ?_; rintro e w' ⟨rfl, rfl⟩) | (go_at_call 30; refine (cpu_in _ _ h0 h1).mono ?_; rintro e w' ⟨rfl, rfl⟩) | (go_at_call 31; refine (H3.out _).mono ?_; rintro e w' ⟨rfl, rfl⟩))
                  go_quiet (fail)
                  go_wp2
                  go_roundw
                  case rel => exact ⟨j + 1, by omega, by go_num, below_drewN hbi _⟩
                  case measure => simp [intOf]; omega
              · have hc' : c < 0 ∨ 8 ≤ c := by omega
                have HC := Lib.hid hc'
                clear hc hc'
                go_wp2_with (first | (go_at_call 12; refine (with_cpu s c _ hs HC.out).mono ?_; rintro e w' ⟨rfl, rfl⟩) | (go_at_call 13; refine (without_cpu s c _ hs HC.out).mono ?_; rintro e w' ⟨rfl, rfl⟩) | (go_at_call 22; refine (right_yes s _ hs).mono ?_; rintro e w' ⟨rfl, rfl⟩) | (go_at_call 30; refine (cpu_out _ _ HC.out).mono ?_; rintro e w' ⟨rfl, rfl⟩))
                go_roundw
                case rel => exact ⟨j + 1, by omega, by go_num, hbi⟩
                case measure => simp [intOf]; omega
            · have hs' : 256 ≤ s := by omega
              clear hs
              go_wp2_with (first | (go_at_call 12; refine (with_set s c _ hs32 hs').mono ?_; rintro e w' ⟨rfl, rfl⟩) | (go_at_call 13; refine (without_set s c _ hs32 hs').mono ?_; rintro e w' ⟨rfl, rfl⟩) | (go_at_call 22; refine (right_no s _ hs').mono ?_; rintro e w' ⟨rfl, rfl⟩))
              go_roundw
              case rel => exact ⟨j + 1, by omega, by go_num, hbi⟩
              case measure => simp [intOf]; omega
          · by_cases hlt2 : j < len'
            · have h12'' : ((j : Int) == 12) = true := by rw [beq_iff_eq]; omega
              clear hgo
              obtain ⟨b2, off2, c, rfl, c2, hc1, hc2⟩ := (HT.out.below hbi).get hlt2
              go_wp2
              go_roundw
              case rel => exact ⟨k + 1, by omega, by go_num, hbi⟩
              case measure => simp [intOf]; omega
            · have e : j = len' := by omega
              clear hgo
              subst e
              go_wp2
              go_roundw
              case rel => exact ⟨k + 1, by omega, by go_num, hbi⟩
              case measure => simp [intOf]; omega
    · have e : k = len := by omega
      subst e
      go_wp2
      go_ret
      exact ⟨rfl, hbr⟩

end Go.Proofs.YtglndonfmmbnhaaDoor
