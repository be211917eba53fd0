/-
  The walk of the law ClockTimes.
-/
import Derived.Test.YtcedkaafdblboaaDoorPairs
namespace Go.Proofs.YtcedkaafdblboaaDoor
open Go.RowKit

theorem fits_bad (v x : Int) : Fits 0 120 false v x := .inl ⟨rfl, rfl, rfl⟩

set_option maxRecDepth 100000 in
set_option maxHeartbeats 4000000 in
theorem times_some (b off len cap : Nat) (T D : Nat → Int) (w : World) (htab : TabOk w) (hlen : len ≤ 9223372036854775807)
    (hT : ∀ i, i < len → w.cell? ⟨b, off + i * 2, none⟩ = some (.int .i64 (T i)))
    (hD : ∀ i, i < len → w.cell? ⟨b, off + i * 2 + 1, none⟩ = some (.int .i64 (D i)))
    (hb : b < w.heap.size) :
    Calls Tryd.prog 5 #[.slice (some ⟨b, off, none⟩) len cap] w fun e w' => e = .returned (.bool true) ∧ Below w.heap.size w w' := by
  have HTab := Lib.hid htab
  have HT := Lib.hid hT
  have HD := Lib.hid hD
  clear htab hT hD
  go_enter Tryd.func5, Tryd.ntmps5
  go_wp2_with (go_at_call 10; refine (wakes_yes w HTab.out).mono ?_; rintro e w1 ⟨rfl, hb1⟩)
  go_loopw [13] (fun i wr => ∃ k : Nat, k ≤ len ∧ i = .int .i64 k ∧ Below w.heap.size w wr) (fun i _ => len - (intOf i).toNat)
  case atStart => exact ⟨0, Nat.zero_le _, rfl, hb1⟩
  case round =>
    obtain ⟨k, hk, rfl, hbr⟩ := hrel
    by_cases hlt : k < len
    · have c0 : wr.cell? ⟨b, off + k * 2, none⟩ = some (.int .i64 (T k)) := (hbr.cell (p := ⟨b, off + k * 2, none⟩) hb).trans (HT.out k hlt)
      have c1 : wr.cell? ⟨b, off + k * 2 + 1, none⟩ = some (.int .i64 (D k)) := (hbr.cell (p := ⟨b, off + k * 2 + 1, none⟩) hb).trans (HD.out k hlt)
      by_cases h40 : k = 40
      · have h40' : ((k : Int) == 40) = true := by rw [beq_iff_eq]; omega
        clear h40
        go_wp2
        go_ret
        exact ⟨rfl, hbr.alloc hbr.size _⟩
      · have h40' : ((k : Int) == 40) = false := by rw [beq_eq_false_iff_ne]; omega
        clear h40
        generalize T k = d at c0
        generalize D k = n at c1
        have hba := hbr.alloc hbr.size (.cells #[.int .i64 d, .int .i64 n] 37)
        by_cases hokd : 0 ≤ d ∧ d ≤ 1125899906842624
        · obtain ⟨hd0, hd1⟩ := hokd
          by_cases hn : n < 0
          · go_wp2_with fail
            refine (times_neg _ _ _ hd0 hd1 hn).mono ?_
            rintro e wX ⟨rfl, hbX⟩
            have cx0 : wX.cell? ⟨wr.heap.size, 0, none⟩ = some (.int .i64 d) := (hbX.cell (p := ⟨wr.heap.size, 0, none⟩) (by simp)).trans (by simp [go_sem])
            have cx1 : wX.cell? ⟨wr.heap.size, 1, none⟩ = some (.int .i64 n) := (hbX.cell (p := ⟨wr.heap.size, 1, none⟩) (by simp)).trans (by simp [go_sem])
            go_wp2_with (first | (go_at_call 11; refine (refRight_yes _ _ hd0 hd1).mono ?_; rintro e w' ⟨rfl, rfl⟩) | (go_at_call 17; refine (answers_yes _ _ _ _ _ _ ?_).mono ?_; (first | exact fits_ok _ | exact fits_arg _ | exact fits_bad _ _); rintro e w' ⟨rfl, rfl⟩))
            go_roundw
            case rel => exact ⟨k + 1, by omega, by go_num, chainB (hba) hbX⟩
            case measure => simp [intOf]; omega
          · have hn0 : 0 ≤ n := by omega
            clear hn
            by_cases hz : d = 0
            · subst hz
              go_wp2_with fail
              refine (times_zero _ _ hn0).mono ?_
              rintro e wX ⟨rfl, hbX⟩
              have cx0 : wX.cell? ⟨wr.heap.size, 0, none⟩ = some (.int .i64 0) := (hbX.cell (p := ⟨wr.heap.size, 0, none⟩) (by simp)).trans (by simp [go_sem])
              have cx1 : wX.cell? ⟨wr.heap.size, 1, none⟩ = some (.int .i64 n) := (hbX.cell (p := ⟨wr.heap.size, 1, none⟩) (by simp)).trans (by simp [go_sem])
              go_wp2_with (first | (go_at_call 11; refine (refRight_yes _ _ hd0 hd1).mono ?_; rintro e w' ⟨rfl, rfl⟩) | (go_at_call 21; refine (refTimes_zero _ _).mono ?_; rintro e w' ⟨rfl, rfl⟩) | (go_at_call 17; refine (answers_yes _ _ _ _ _ _ ?_).mono ?_; (first | exact fits_ok _ | exact fits_arg _ | exact fits_bad _ _); rintro e w' ⟨rfl, rfl⟩))
              go_roundw
              case rel => exact ⟨k + 1, by omega, by go_num, chainB (hba) hbX⟩
              case measure => simp [intOf]; omega
            · have hd2 : 0 < d := by omega
              clear hz
              by_cases hq : n ≤ 1125899906842624 / d
              · have HQ := Lib.hid hq
                clear hq
                go_wp2_with fail
                refine (times_in _ _ _ hd2 hd1 hn0 HQ.out).mono ?_
                rintro e wX ⟨rfl, hbX⟩
                have cx0 : wX.cell? ⟨wr.heap.size, 0, none⟩ = some (.int .i64 d) := (hbX.cell (p := ⟨wr.heap.size, 0, none⟩) (by simp)).trans (by simp [go_sem])
                have cx1 : wX.cell? ⟨wr.heap.size, 1, none⟩ = some (.int .i64 n) := (hbX.cell (p := ⟨wr.heap.size, 1, none⟩) (by simp)).trans (by simp [go_sem])
                go_wp2_with (first | (go_at_call 11; refine (refRight_yes _ _ hd0 hd1).mono ?_; rintro e w' ⟨rfl, rfl⟩) | (go_at_call 21; refine (refTimes_in _ _ _ hd2 hd1 hn0 HQ.out).mono ?_; rintro e w' ⟨rfl, rfl⟩) | (go_at_call 17; refine (answers_yes _ _ _ _ _ _ ?_).mono ?_; (first | exact fits_ok _ | exact fits_arg _ | exact fits_bad _ _); rintro e w' ⟨rfl, rfl⟩))
                go_roundw
                case rel => exact ⟨k + 1, by omega, by go_num, chainB (hba) hbX⟩
                case measure => simp [intOf]; omega
              · have hq' : 1125899906842624 / d < n := by omega
                have HQ := Lib.hid hq'
                clear hq hq'
                go_wp2_with fail
                refine (times_over _ _ _ hd2 hd1 hn0 HQ.out).mono ?_
                rintro e wX ⟨rfl, hbX⟩
                have cx0 : wX.cell? ⟨wr.heap.size, 0, none⟩ = some (.int .i64 d) := (hbX.cell (p := ⟨wr.heap.size, 0, none⟩) (by simp)).trans (by simp [go_sem])
                have cx1 : wX.cell? ⟨wr.heap.size, 1, none⟩ = some (.int .i64 n) := (hbX.cell (p := ⟨wr.heap.size, 1, none⟩) (by simp)).trans (by simp [go_sem])
                go_wp2_with (first | (go_at_call 11; refine (refRight_yes _ _ hd0 hd1).mono ?_; rintro e w' ⟨rfl, rfl⟩) | (go_at_call 21; refine (refTimes_over _ _ _ hd2 hd1 HQ.out).mono ?_; rintro e w' ⟨rfl, rfl⟩) | (go_at_call 17; refine (answers_yes _ _ _ _ _ _ ?_).mono ?_; (first | exact fits_ok _ | exact fits_arg _ | exact fits_bad _ _); rintro e w' ⟨rfl, rfl⟩))
                go_roundw
                case rel => exact ⟨k + 1, by omega, by go_num, chainB (hba) hbX⟩
                case measure => simp [intOf]; omega
        · have hbt : d < 0 ∨ 1125899906842624 < d := by omega
          have HB := Lib.hid hbt
          clear hbt hokd
          by_cases hn : n < 0
          · go_wp2_with fail
            refine (times_no _ _ _ HB.out).mono ?_
            rintro e wX ⟨rfl, hbX⟩
            have cx0 : wX.cell? ⟨wr.heap.size, 0, none⟩ = some (.int .i64 d) := (hbX.cell (p := ⟨wr.heap.size, 0, none⟩) (by simp)).trans (by simp [go_sem])
            have cx1 : wX.cell? ⟨wr.heap.size, 1, none⟩ = some (.int .i64 n) := (hbX.cell (p := ⟨wr.heap.size, 1, none⟩) (by simp)).trans (by simp [go_sem])
            go_wp2_with (first | (go_at_call 11; refine (refRight_no _ _ HB.out).mono ?_; rintro e w' ⟨rfl, rfl⟩) | (go_at_call 17; refine (answers_yes _ _ _ _ _ _ ?_).mono ?_; (first | exact fits_ok _ | exact fits_arg _ | exact fits_bad _ _); rintro e w' ⟨rfl, rfl⟩))
            go_roundw
            case rel => exact ⟨k + 1, by omega, by go_num, chainB (hba) hbX⟩
            case measure => simp [intOf]; omega
          · go_wp2_with fail
            refine (times_no _ _ _ HB.out).mono ?_
            rintro e wX ⟨rfl, hbX⟩
            have cx0 : wX.cell? ⟨wr.heap.size, 0, none⟩ = some (.int .i64 d) := (hbX.cell (p := ⟨wr.heap.size, 0, none⟩) (by simp)).trans (by simp [go_sem])
            have cx1 : wX.cell? ⟨wr.heap.size, 1, none⟩ = some (.int .i64 n) := (hbX.cell (p := ⟨wr.heap.size, 1, none⟩) (by simp)).trans (by simp [go_sem])
            go_wp2_with (first | (go_at_call 11; refine (refRight_no _ _ HB.out).mono ?_; rintro e w' ⟨rfl, rfl⟩) | (go_at_call 17; refine (answers_yes _ _ _ _ _ _ ?_).mono ?_; (first | exact fits_ok _ | exact fits_arg _ | exact fits_bad _ _); rintro e w' ⟨rfl, rfl⟩))
            go_roundw
            case rel => exact ⟨k + 1, by omega, by go_num, chainB (hba) hbX⟩
            case measure => simp [intOf]; omega
    · go_wp2
      go_ret
      exact ⟨rfl, hbr⟩

theorem times_empty (a : Option Addr) (cap : Nat) (w : World) (htab : TabOk w) :
    Calls Tryd.prog 5 #[.slice a 0 cap] w fun e w' => e = .returned (.bool true) ∧ Below w.heap.size w w' := by
  have HTab := Lib.hid htab
  clear htab
  go_enter Tryd.func5, Tryd.ntmps5
  go_wp2_with (go_at_call 10; refine (wakes_yes w HTab.out).mono ?_; rintro e w1 ⟨rfl, hb1⟩)
  go_loopw [13] (fun i wr => i = .int .i64 0 ∧ Below w.heap.size w wr) (fun i _ => 0 - (intOf i).toNat)
  case atStart => exact ⟨rfl, hb1⟩
  case round =>
    obtain ⟨rfl, hbr⟩ := hrel
    go_wp2
    go_ret
    exact ⟨rfl, hbr⟩

end Go.Proofs.YtcedkaafdblboaaDoor
