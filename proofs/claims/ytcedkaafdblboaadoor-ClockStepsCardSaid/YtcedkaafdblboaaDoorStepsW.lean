/-
  The walk of the law ClockSteps.
-/
import Derived.Test.YtcedkaafdblboaaDoorPairs
namespace Go.Proofs.YtcedkaafdblboaaDoor
open Go.RowKit

theorem fits_no2 : Fits 0 120 false 0 2 := .inl ⟨rfl, rfl, rfl⟩

set_option maxRecDepth 100000 in
set_option maxHeartbeats 4000000 in
theorem steps_some (b off len cap : Nat) (T D : Nat → Int) (w : World) (htab : TabOk w) (hlen : len ≤ 9223372036854775807)
    (hT : ∀ i, i < len → w.cell? ⟨b, off + i * 2, none⟩ = some (.int .i64 (T i)))
    (hD : ∀ i, i < len → w.cell? ⟨b, off + i * 2 + 1, none⟩ = some (.int .i64 (D i)))
    (hb : b < w.heap.size) :
    Calls Tryd.prog 6 #[.slice (some ⟨b, off, none⟩) len cap] w fun e w' => e = .returned (.bool true) ∧ Below w.heap.size w w' := by
  have HTab := Lib.hid htab
  have HT := Lib.hid hT
  have HD := Lib.hid hD
  clear htab hT hD
  go_enter Tryd.func6, Tryd.ntmps6
  go_wp2_with (go_at_call 10; refine (wakes_yes w HTab.out).mono ?_; rintro e w1 ⟨rfl, hb1⟩)
  go_loopw [20] (fun i wr => ∃ k : Nat, k ≤ len ∧ i = .int .i64 k ∧ Below w.heap.size w wr) (fun i _ => len - (intOf i).toNat)
  case atStart => exact ⟨0, Nat.zero_le _, rfl, hb1⟩
  case round =>
    obtain ⟨k, hk, rfl, hbr⟩ := hrel
    by_cases hlt : k < len
    · have c0 : wr.cell? ⟨b, off + k * 2, none⟩ = some (.int .i64 (T k)) := (hbr.cell (p := ⟨b, off + k * 2, none⟩) hb).trans (HT.out k hlt)
      have c1 : wr.cell? ⟨b, off + k * 2 + 1, none⟩ = some (.int .i64 (D k)) := (hbr.cell (p := ⟨b, off + k * 2 + 1, none⟩) hb).trans (HD.out k hlt)
      by_cases h40 : k = 40
      · have h40' : ((k : Int) == 40) = true := by rw [beq_iff_eq]; omega
        clear h40
        go_wp2
        go_ret
        exact ⟨rfl, hbr.alloc hbr.size _⟩
      · have h40' : ((k : Int) == 40) = false := by rw [beq_eq_false_iff_ne]; omega
        clear h40
        generalize T k = t at c0
        generalize D k = d at c1
        go_wp2_with fail
        go_quiet (fail)
        have hba := hbr.alloc hbr.size (.cells #[.int .i64 t, .int .i64 d] 24)
        by_cases hokt : 0 ≤ t ∧ t ≤ 1125899906842624
        · obtain ⟨ht0, ht1⟩ := hokt
          by_cases hokd : 0 ≤ d ∧ d ≤ 1125899906842624
          · obtain ⟨hd0, hd1⟩ := hokd
            by_cases hz : d = 0
            · subst hz
              go_wp2_with (first | (go_at_call 11; refine (refRight_yes _ _ (by first | assumption | omega) (by first | assumption | omega)).mono ?_; rintro e w' ⟨rfl, rfl⟩) | (go_at_call 22; refine (up_zero _ _ ht0 ht1).mono ?_; rintro e wU ⟨rfl, hbU⟩) | (go_at_call 23; refine (down_zero _ _ ht0 ht1).mono ?_; rintro e wN ⟨rfl, hbN⟩) | (go_at_call 17; refine (answers_yes _ _ _ _ _ _ ?_).mono ?_; (first | exact fits_ok _ | exact fits_full _ | exact fits_arg _ | exact fits_no2 | exact fits_eq (by omega)); rintro e w' ⟨rfl, rfl⟩))
              go_roundw
              case rel => exact ⟨k + 1, by omega, by go_num, chainB (chainB (below_drewN' hba) hbU) hbN⟩
              case measure => simp [intOf]; omega
            · have hd2 : 0 < d := by omega
              have hz' : (d == 0) = false := by rw [beq_eq_false_iff_ne]; exact hz
              clear hz
              by_cases he : t % d = 0
              · have HU := Lib.hid (fun w => up_same t d w ht0 ht1 hd2 hd1 he)
                have HR := Lib.hid (fun w => refUp_same t d w ht0 ht1 hd2 he)
                clear he
                go_wp2_with (first | (go_at_call 11; refine (refRight_yes _ _ (by assumption) (by assumption)).mono ?_; rintro e w' ⟨rfl, rfl⟩) | (go_at_call 23; refine (down_ok _ _ _ ht0 ht1 hd2 hd1).mono ?_; rintro e wN ⟨rfl, hbN⟩) | (go_at_call 17; refine (answers_yes _ _ _ _ _ _ ?_).mono ?_; (first | exact fits_ok _ | exact fits_full _ | exact fits_arg _ | exact fits_no2 | exact fits_eq (by omega)); rintro e w' ⟨rfl, rfl⟩) | (go_at_call 25; refine (refDown_ok _ _ _ ht0 ht1 hd2).mono ?_; rintro e w' ⟨rfl, rfl⟩) | (go_at_call 22; refine (HU.out _).mono ?_; rintro e wU ⟨rfl, hbU⟩) | (go_at_call 24; refine (HR.out _).mono ?_; rintro e w' ⟨rfl, rfl⟩))
                go_roundw
                case rel => exact ⟨k + 1, by omega, by go_num, chainB (chainB (below_drewN' hba) hbU) hbN⟩
                case measure => simp [intOf]; omega
              · have he' : 0 < t % d := by have := Int.emod_nonneg t (show d ≠ 0 by omega); omega
                clear he
                by_cases hf : t - t % d + d ≤ 1125899906842624
                · go_wp2_with (first | (go_at_call 11; refine (refRight_yes _ _ (by assumption) (by assumption)).mono ?_; rintro e w' ⟨rfl, rfl⟩) | (go_at_call 23; refine (down_ok _ _ _ ht0 ht1 hd2 hd1).mono ?_; rintro e wN ⟨rfl, hbN⟩) | (go_at_call 17; refine (answers_yes _ _ _ _ _ _ ?_).mono ?_; (first | exact fits_ok _ | exact fits_full _ | exact fits_arg _ | exact fits_no2 | exact fits_eq (by omega)); rintro e w' ⟨rfl, rfl⟩) | (go_at_call 25; refine (refDown_ok _ _ _ ht0 ht1 hd2).mono ?_; rintro e w' ⟨rfl, rfl⟩) | (go_at_call 22; refine (up_ok _ _ _ ht0 ht1 hd2 hd1 he' hf).mono ?_; rintro e wU ⟨rfl, hbU⟩) | (go_at_call 24; refine (refUp_ok _ _ _ ht0 ht1 hd2 hd1 he' hf).mono ?_; rintro e w' ⟨rfl, rfl⟩))
                  go_roundw
                  case rel => exact ⟨k + 1, by omega, by go_num, chainB (chainB (below_drewN' hba) hbU) hbN⟩
                  case measure => simp [intOf]; omega
                · have hf' : 1125899906842624 < t - t % d + d := by omega
                  clear hf
                  go_wp2_with (first | (go_at_call 11; refine (refRight_yes _ _ (by assumption) (by assumption)).mono ?_; rintro e w' ⟨rfl, rfl⟩) | (go_at_call 23; refine (down_ok _ _ _ ht0 ht1 hd2 hd1).mono ?_; rintro e wN ⟨rfl, hbN⟩) | (go_at_call 17; refine (answers_yes _ _ _ _ _ _ ?_).mono ?_; (first | exact fits_ok _ | exact fits_full _ | exact fits_arg _ | exact fits_no2 | exact fits_eq (by omega)); rintro e w' ⟨rfl, rfl⟩) | (go_at_call 25; refine (refDown_ok _ _ _ ht0 ht1 hd2).mono ?_; rintro e w' ⟨rfl, rfl⟩) | (go_at_call 22; refine (up_full _ _ _ ht0 ht1 hd2 hd1 he' hf').mono ?_; rintro e wU ⟨rfl, hbU⟩) | (go_at_call 24; refine (refUp_full _ _ _ ht0 ht1 hd2 hd1 he' hf').mono ?_; rintro e w' ⟨rfl, rfl⟩))
                  go_roundw
                  case rel => exact ⟨k + 1, by omega, by go_num, chainB (chainB (below_drewN' hba) hbU) hbN⟩
                  case measure => simp [intOf]; omega
          · have hbd : d < 0 ∨ 1125899906842624 < d := by omega
            have HB := Lib.hid hbd
            clear hbd hokd
            go_wp2_with (first | (go_at_call 11; ((with_reducible refine (refRight_yes _ _ ht0 ht1).mono ?_); rintro e w' ⟨rfl, rfl⟩)) | (go_at_call 11; refine (refRight_no _ _ HB.out).mono ?_; rintro e w' ⟨rfl, rfl⟩) | (go_at_call 22; refine (up_no _ _ _ (.inr HB.out)).mono ?_; rintro e wU ⟨rfl, hbU⟩) | (go_at_call 23; refine (down_no _ _ _ (.inr HB.out)).mono ?_; rintro e wN ⟨rfl, hbN⟩) | (go_at_call 17; refine (answers_yes _ _ _ _ _ _ ?_).mono ?_; (first | exact fits_ok _ | exact fits_full _ | exact fits_arg _ | exact fits_no2 | exact fits_eq (by omega)); rintro e w' ⟨rfl, rfl⟩))
            go_roundw
            case rel => exact ⟨k + 1, by omega, by go_num, chainB (chainB (below_drewN' hba) hbU) hbN⟩
            case measure => simp [intOf]; omega
        · have hbt : t < 0 ∨ 1125899906842624 < t := by omega
          have HB := Lib.hid hbt
          clear hbt hokt
          go_wp2_with (first | (go_at_call 11; refine (refRight_no _ _ HB.out).mono ?_; rintro e w' ⟨rfl, rfl⟩) | (go_at_call 22; refine (up_no _ _ _ (.inl HB.out)).mono ?_; rintro e wU ⟨rfl, hbU⟩) | (go_at_call 23; refine (down_no _ _ _ (.inl HB.out)).mono ?_; rintro e wN ⟨rfl, hbN⟩) | (go_at_call 17; refine (answers_yes _ _ _ _ _ _ ?_).mono ?_; (first | exact fits_ok _ | exact fits_full _ | exact fits_arg _ | exact fits_no2 | exact fits_eq (by omega)); rintro e w' ⟨rfl, rfl⟩))
          go_roundw
          case rel => exact ⟨k + 1, by omega, by go_num, chainB (chainB (below_drewN' hba) hbU) hbN⟩
          case measure => simp [intOf]; omega
    · go_wp2
      go_ret
      exact ⟨rfl, hbr⟩

theorem steps_empty (a : Option Addr) (cap : Nat) (w : World) (htab : TabOk w) :
    Calls Tryd.prog 6 #[.slice a 0 cap] w fun e w' => e = .returned (.bool true) ∧ Below w.heap.size w w' := by
  have HTab := Lib.hid htab
  clear htab
  go_enter Tryd.func6, Tryd.ntmps6
  go_wp2_with (go_at_call 10; refine (wakes_yes w HTab.out).mono ?_; rintro e w1 ⟨rfl, hb1⟩)
  go_loopw [20] (fun i wr => i = .int .i64 0 ∧ Below w.heap.size w wr) (fun i _ => 0 - (intOf i).toNat)
  case atStart => exact ⟨rfl, hb1⟩
  case round =>
    obtain ⟨rfl, hbr⟩ := hrel
    go_wp2
    go_ret
    exact ⟨rfl, hbr⟩

end Go.Proofs.YtcedkaafdblboaaDoor
