/-
  The walk of the law ClockBack.
-/
import Derived.Test.YtcedkaafdblboaaDoorPairs
namespace Go.Proofs.YtcedkaafdblboaaDoor
open Go.RowKit

theorem less_back (t d : Int) (w : World) (ht0 : 0 ≤ t) (ht1 : t ≤ 1125899906842624) (hd0 : 0 ≤ d) (hd1 : d ≤ 1125899906842624) (hs : t + d ≤ 1125899906842624) :
    Calls Tryd.prog 14 #[.int .i64 (t + d), .int .i64 d] w fun e w' => e = .returned (.tuple #[.int .i64 t, .int .i64 0]) ∧ Below w.heap.size w w' := by
  have h := less_ok (t + d) d w (by omega) hs hd0 hd1 (by omega)
  rwa [show t + d - d = t from by omega] at h

theorem ago_back (t d : Int) (w : World) (ht0 : 0 ≤ t) (ht1 : t ≤ 1125899906842624) (hd0 : 0 ≤ d) (hd1 : d ≤ 1125899906842624) (hs : t + d ≤ 1125899906842624) :
    Calls Tryd.prog 16 #[.int .i64 (t + d), .int .i64 t] w fun e w' => e = .returned (.tuple #[.int .i64 d, .int .i64 0]) ∧ Below w.heap.size w w' := by
  have h := ago_pos (t + d) t w (by omega) hs ht0 ht1 (by omega)
  rwa [show t + d - t = d from by omega] at h

theorem stop_in (t d : Int) (w : World) (ht0 : 0 ≤ t) (ht1 : t ≤ 1125899906842624) (hd0 : 0 ≤ d) (hd1 : d ≤ 1125899906842624) (hs : t + d ≤ 1125899906842624) :
    Calls Tryd.prog 15 #[.int .i64 t, .int .i64 d] w fun e w' => e = .returned (.tuple #[.int .i64 (t + d), .int .i64 0]) ∧ Below w.heap.size w w' := by
  have h := stop_ok t d w ht0 ht1 hd0 hd1
  rwa [if_pos hs] at h

theorem stop_over (t d : Int) (w : World) (ht0 : 0 ≤ t) (ht1 : t ≤ 1125899906842624) (hd0 : 0 ≤ d) (hd1 : d ≤ 1125899906842624) (hs : 1125899906842624 < t + d) :
    Calls Tryd.prog 15 #[.int .i64 t, .int .i64 d] w fun e w' => e = .returned (.tuple #[.int .i64 1125899906842624, .int .i64 0]) ∧ Below w.heap.size w w' := by
  have h := stop_ok t d w ht0 ht1 hd0 hd1
  rwa [if_neg (by omega)] at h

set_option maxRecDepth 100000 in
set_option maxHeartbeats 4000000 in
theorem back_some (b off len cap : Nat) (T D : Nat → Int) (w : World) (htab : TabOk w) (hlen : len ≤ 9223372036854775807)
    (hT : ∀ i, i < len → w.cell? ⟨b, off + i * 2, none⟩ = some (.int .i64 (T i)))
    (hD : ∀ i, i < len → w.cell? ⟨b, off + i * 2 + 1, none⟩ = some (.int .i64 (D i)))
    (hb : b < w.heap.size) :
    Calls Tryd.prog 4 #[.slice (some ⟨b, off, none⟩) len cap] w fun e w' => e = .returned (.bool true) ∧ Below w.heap.size w w' := by
  have HTab := Lib.hid htab
  have HT := Lib.hid hT
  have HD := Lib.hid hD
  clear htab hT hD
  go_enter Tryd.func4, Tryd.ntmps4
  go_wp2_with (go_at_call 10; refine (wakes_yes w HTab.out).mono ?_; rintro e w1 ⟨rfl, hb1⟩)
  go_loopw [19] (fun i wr => ∃ k : Nat, k ≤ len ∧ i = .int .i64 k ∧ Below w.heap.size w wr) (fun i _ => len - (intOf i).toNat)
  case atStart => exact ⟨0, Nat.zero_le _, rfl, hb1⟩
  case round =>
    obtain ⟨k, hk, rfl, hbr⟩ := hrel
    by_cases hlt : k < len
    · have c0 : wr.cell? ⟨b, off + k * 2, none⟩ = some (.int .i64 (T k)) := (hbr.cell (p := ⟨b, off + k * 2, none⟩) hb).trans (HT.out k hlt)
      have c1 : wr.cell? ⟨b, off + k * 2 + 1, none⟩ = some (.int .i64 (D k)) := (hbr.cell (p := ⟨b, off + k * 2 + 1, none⟩) hb).trans (HD.out k hlt)
      by_cases h40 : k = 40
      · have h40' : ((k : Int) == 40) = true := by rw [beq_iff_eq]; omega
        clear h40
        go_wp2
        go_ret
        exact ⟨rfl, hbr.alloc hbr.size _⟩
      · have h40' : ((k : Int) == 40) = false := by rw [beq_eq_false_iff_ne]; omega
        clear h40
        generalize T k = t at c0
        generalize D k = d at c1
        go_wp2_with fail
        go_quiet (fail)
        have hba := hbr.alloc hbr.size (.cells #[.int .i64 t, .int .i64 d] 24)
        by_cases hokt : 0 ≤ t ∧ t ≤ 1125899906842624
        · obtain ⟨ht0, ht1⟩ := hokt
          by_cases hokd : 0 ≤ d ∧ d ≤ 1125899906842624
          · obtain ⟨hd0, hd1⟩ := hokd
            by_cases hs : t + d ≤ 1125899906842624
            · go_wp2_with (first | (go_at_call 12; refine (check_yes _ _ (by omega) (by omega)).mono ?_; rintro e w' ⟨rfl, rfl⟩) | (go_at_call 13; refine (add_ok t d _ ht0 ht1 hd0 hd1 hs).mono ?_; rintro e wA ⟨rfl, hbA⟩) | (go_at_call 14; refine (less_back t d _ ht0 ht1 hd0 hd1 hs).mono ?_; rintro e wL ⟨rfl, hbL⟩) | (go_at_call 15; refine (stop_in t d _ ht0 ht1 hd0 hd1 hs).mono ?_; rintro e wS ⟨rfl, hbS⟩) | (go_at_call 16; refine (ago_back t d _ ht0 ht1 hd0 hd1 hs).mono ?_; rintro e wG ⟨rfl, hbG⟩))
              go_roundw
              case rel => exact ⟨k + 1, by omega, by go_num, chainB (chainB (chainB (chainB (below_drewN' hba) hbA) hbS) hbL) hbG⟩
              case measure => simp [intOf]; omega
            · have hs' : 1125899906842624 < t + d := by omega
              clear hs
              go_wp2_with (first | (go_at_call 13; refine (add_full t d _ ht0 ht1 hd0 hd1 hs').mono ?_; rintro e wA ⟨rfl, hbA⟩) | (go_at_call 15; refine (stop_over t d _ ht0 ht1 hd0 hd1 hs').mono ?_; rintro e wS ⟨rfl, hbS⟩))
              go_roundw
              case rel => exact ⟨k + 1, by omega, by go_num, chainB (chainB (below_drewN' hba) hbA) hbS⟩
              case measure => simp [intOf]; omega
          · have hbd : d < 0 ∨ 1125899906842624 < d := by omega
            have HB := Lib.hid hbd
            clear hbd hokd
            go_wp2_with (first | (go_at_call 13; refine (add_no _ _ _ (.inr HB.out)).mono ?_; rintro e wA ⟨rfl, hbA⟩) | (go_at_call 15; refine (stop_no _ _ _ (.inr HB.out)).mono ?_; rintro e wS ⟨rfl, hbS⟩))
            go_roundw
            case rel => exact ⟨k + 1, by omega, by go_num, chainB (chainB (below_drewN' hba) hbA) hbS⟩
            case measure => simp [intOf]; omega
        · have hbt : t < 0 ∨ 1125899906842624 < t := by omega
          have HB := Lib.hid hbt
          clear hbt hokt
          go_wp2_with (first | (go_at_call 13; refine (add_no _ _ _ (.inl HB.out)).mono ?_; rintro e wA ⟨rfl, hbA⟩) | (go_at_call 15; refine (stop_no _ _ _ (.inl HB.out)).mono ?_; rintro e wS ⟨rfl, hbS⟩))
          go_roundw
          case rel => exact ⟨k + 1, by omega, by go_num, chainB (chainB (below_drewN' hba) hbA) hbS⟩
          case measure => simp [intOf]; omega
    · go_wp2
      go_ret
      exact ⟨rfl, hbr⟩

theorem back_empty (a : Option Addr) (cap : Nat) (w : World) (htab : TabOk w) :
    Calls Tryd.prog 4 #[.slice a 0 cap] w fun e w' => e = .returned (.bool true) ∧ Below w.heap.size w w' := by
  have HTab := Lib.hid htab
  clear htab
  go_enter Tryd.func4, Tryd.ntmps4
  go_wp2_with (go_at_call 10; refine (wakes_yes w HTab.out).mono ?_; rintro e w1 ⟨rfl, hb1⟩)
  go_loopw [19] (fun i wr => i = .int .i64 0 ∧ Below w.heap.size w wr) (fun i _ => 0 - (intOf i).toNat)
  case atStart => exact ⟨rfl, hb1⟩
  case round =>
    obtain ⟨rfl, hbr⟩ := hrel
    go_wp2
    go_ret
    exact ⟨rfl, hbr⟩

end Go.Proofs.YtcedkaafdblboaaDoor
