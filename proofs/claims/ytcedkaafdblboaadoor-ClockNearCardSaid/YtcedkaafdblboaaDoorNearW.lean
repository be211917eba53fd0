/-
  The walk of the law ClockNear.
-/
import Derived.Test.YtcedkaafdblboaaDoorPairs
namespace Go.Proofs.YtcedkaafdblboaaDoor
open Go.RowKit

theorem sub_emod_zero (t d : Int) : (t - t % d) % d = 0 := by
  rw [← ediv_mul_eq]; exact Int.mul_emod_left _ _

/-- What Down answers, by what is known of it. -/
theorem down_is (t d : Int) (ht0 : 0 ≤ t) (ht1 : t ≤ 1125899906842624) (hd0 : 0 < d) (hd1 : d ≤ 1125899906842624) :
    ∃ x, 0 ≤ x ∧ x ≤ t ∧ t - x < d ∧ x ≤ 1125899906842624 ∧ (∀ w, Calls Tryd.prog 23 #[.int .i64 t, .int .i64 d] w fun e w' => e = .returned (.tuple #[.int .i64 x, .int .i64 0]) ∧ Below w.heap.size w w') ∧ x % d = 0 := by
  have h1 := Int.emod_nonneg t (show d ≠ 0 by omega)
  have h2 := Int.emod_lt_of_pos t hd0
  have h3 := emod_le_self t d ht0 hd0
  exact ⟨t - t % d, by omega, by omega, by omega, by omega, fun w => down_ok t d w ht0 ht1 hd0 hd1, sub_emod_zero t d⟩

theorem down_mult (x d : Int) (w : World) (h0 : 0 ≤ x) (h1 : x ≤ 1125899906842624) (hd0 : 0 < d) (hd1 : d ≤ 1125899906842624) (hm : x % d = 0) :
    Calls Tryd.prog 23 #[.int .i64 x, .int .i64 d] w fun e w' => e = .returned (.tuple #[.int .i64 x, .int .i64 0]) ∧ Below w.heap.size w w' := by
  have h := down_ok x d w h0 h1 hd0 hd1
  rwa [hm, Int.sub_zero] at h

/-- What Up answers, by what is known of it. -/
theorem up_is (t d : Int) (ht0 : 0 ≤ t) (ht1 : t ≤ 1125899906842624) (hd0 : 0 < d) (hd1 : d ≤ 1125899906842624) (he : 0 < t % d) (hf : t - t % d + d ≤ 1125899906842624) :
    ∃ y, t ≤ y ∧ y - t < d ∧ y ≤ 1125899906842624 ∧ (y % d != 0) = false ∧ (∀ w, Calls Tryd.prog 22 #[.int .i64 t, .int .i64 d] w fun e w' => e = .returned (.tuple #[.int .i64 y, .int .i64 0]) ∧ Below w.heap.size w w') := by
  have h2 := Int.emod_lt_of_pos t hd0
  refine ⟨t - t % d + d, by omega, by omega, hf, ?_, fun w => up_ok t d w ht0 ht1 hd0 hd1 he hf⟩
  rw [bne_eq_false_iff_eq, Int.add_emod_right]; exact sub_emod_zero t d

theorem down_full (t d x : Int) (hx1 : x ≤ t) (hx2 : t - x < d) (hf : 1125899906842624 < t - t % d + d) (hm : x % d = 0) : 1125899906842624 < x + d := by
  have e : t % d = t - x := by
    have h3 : t = (t - x) + x := by omega
    have h4 : t % d = ((t - x) + x) % d := by rw [← h3]
    rw [h4, Int.add_emod, hm, Int.add_zero, Int.emod_emod_of_dvd _ (Int.dvd_refl d)]
    exact Int.emod_eq_of_lt (by omega) hx2
  omega

set_option maxRecDepth 100000 in
set_option maxHeartbeats 4000000 in
theorem near_some (b off len cap : Nat) (T D : Nat → Int) (w : World) (htab : TabOk w) (hlen : len ≤ 9223372036854775807)
    (hT : ∀ i, i < len → w.cell? ⟨b, off + i * 2, none⟩ = some (.int .i64 (T i)))
    (hD : ∀ i, i < len → w.cell? ⟨b, off + i * 2 + 1, none⟩ = some (.int .i64 (D i)))
    (hb : b < w.heap.size) :
    Calls Tryd.prog 7 #[.slice (some ⟨b, off, none⟩) len cap] w fun e w' => e = .returned (.bool true) ∧ Below w.heap.size w w' := by
  have HTab := Lib.hid htab
  have HT := Lib.hid hT
  have HD := Lib.hid hD
  clear htab hT hD
  go_enter Tryd.func7, Tryd.ntmps7
  go_wp2_with (go_at_call 10; refine (wakes_yes w HTab.out).mono ?_; rintro e w1 ⟨rfl, hb1⟩)
  go_loopw [18] (fun i wr => ∃ k : Nat, k ≤ len ∧ i = .int .i64 k ∧ Below w.heap.size w wr) (fun i _ => len - (intOf i).toNat)
  case atStart => exact ⟨0, Nat.zero_le _, rfl, hb1⟩
  case round =>
    obtain ⟨k, hk, rfl, hbr⟩ := hrel
    by_cases hlt : k < len
    · have c0 : wr.cell? ⟨b, off + k * 2, none⟩ = some (.int .i64 (T k)) := (hbr.cell (p := ⟨b, off + k * 2, none⟩) hb).trans (HT.out k hlt)
      have c1 : wr.cell? ⟨b, off + k * 2 + 1, none⟩ = some (.int .i64 (D k)) := (hbr.cell (p := ⟨b, off + k * 2 + 1, none⟩) hb).trans (HD.out k hlt)
      by_cases h40 : k = 40
      · have h40' : ((k : Int) == 40) = true := by rw [beq_iff_eq]; omega
        clear h40
        go_wp2
        go_ret
        exact ⟨rfl, hbr.alloc hbr.size _⟩
      · have h40' : ((k : Int) == 40) = false := by rw [beq_eq_false_iff_ne]; omega
        clear h40
        generalize T k = t at c0
        generalize D k = d at c1
        go_wp2_with fail
        go_quiet (fail)
        have hba := hbr.alloc hbr.size (.cells #[.int .i64 t, .int .i64 d] 24)
        by_cases hokt : 0 ≤ t ∧ t ≤ 1125899906842624
        · obtain ⟨ht0, ht1⟩ := hokt
          by_cases hokd : 0 ≤ d ∧ d ≤ 1125899906842624
          · obtain ⟨hd0, hd1⟩ := hokd
            by_cases hz : d = 0
            · subst hz
              go_wp2_with (first | (go_at_call 23; refine (down_zero _ _ ht0 ht1).mono ?_; rintro e wN ⟨rfl, hbN⟩))
              go_roundw
              case rel => exact ⟨k + 1, by omega, by go_num, chainB (below_drewN' hba) hbN⟩
              case measure => simp [intOf]; omega
            · have hd2 : 0 < d := by omega
              have hz' : (d == 0) = false := by rw [beq_eq_false_iff_ne]; exact hz
              clear hz
              obtain ⟨x, hx0, hx1, hx2, hx3, hx4, hxm⟩ := down_is t d ht0 ht1 hd2 hd1
              have hxb : (x % d != 0) = false := by rw [bne_eq_false_iff_eq]; exact hxm
              have HX := Lib.hid hx4
              clear hx4
              have HM := Lib.hid hxm
              clear hxm
              by_cases he : t % d = 0
              · have htb : (t % d != 0) = false := by rw [bne_eq_false_iff_eq]; exact he
                have HE := Lib.hid he
                clear he
                go_wp2_with fail
                refine (HX.out _).mono ?_
                rintro e wN ⟨rfl, hbN⟩
                go_wp2_with fail
                refine (down_mult x d _ hx0 (by omega) hd2 hd1 HM.out).mono ?_
                rintro e wM ⟨rfl, hbM⟩
                go_wp2_with fail
                refine (up_same x d _ hx0 (by omega) hd2 hd1 HM.out).mono ?_
                rintro e wO ⟨rfl, hbO⟩
                go_wp2_with fail
                refine (up_same t d _ ht0 ht1 hd2 hd1 HE.out).mono ?_
                rintro e wU ⟨rfl, hbU⟩
                go_wp2
                go_roundw
                case rel => exact ⟨k + 1, by omega, by go_num, chainB (chainB (chainB (chainB (below_drewN' hba) hbN) hbM) hbO) hbU⟩
                case measure => simp [intOf]; omega
              · have he' : 0 < t % d := by have := Int.emod_nonneg t (show d ≠ 0 by omega); omega
                clear he
                by_cases hf : t - t % d + d ≤ 1125899906842624
                · obtain ⟨y, hy0, hy1, hy2, hyb, hy3⟩ := up_is t d ht0 ht1 hd2 hd1 he' hf
                  have HY := Lib.hid hy3
                  clear hy3 hf he'
                  go_wp2_with fail
                  refine (HX.out _).mono ?_
                  rintro e wN ⟨rfl, hbN⟩
                  go_wp2_with fail
                  refine (down_mult x d _ hx0 (by omega) hd2 hd1 HM.out).mono ?_
                  rintro e wM ⟨rfl, hbM⟩
                  go_wp2_with fail
                  refine (up_same x d _ hx0 (by omega) hd2 hd1 HM.out).mono ?_
                  rintro e wO ⟨rfl, hbO⟩
                  go_wp2_with fail
                  refine (HY.out _).mono ?_
                  rintro e wU ⟨rfl, hbU⟩
                  go_wp2
                  go_roundw
                  case rel => exact ⟨k + 1, by omega, by go_num, chainB (chainB (chainB (chainB (below_drewN' hba) hbN) hbM) hbO) hbU⟩
                  case measure => simp [intOf]; omega
                · have hf' : 1125899906842624 < t - t % d + d := by omega
                  have hfx : 1125899906842624 < x + d := down_full t d x hx1 hx2 hf' HM.out
                  have HF := Lib.hid (And.intro he' hf')
                  clear hf hf' he'
                  go_wp2_with fail
                  refine (HX.out _).mono ?_
                  rintro e wN ⟨rfl, hbN⟩
                  go_wp2_with fail
                  refine (down_mult x d _ hx0 (by omega) hd2 hd1 HM.out).mono ?_
                  rintro e wM ⟨rfl, hbM⟩
                  go_wp2_with fail
                  refine (up_same x d _ hx0 (by omega) hd2 hd1 HM.out).mono ?_
                  rintro e wO ⟨rfl, hbO⟩
                  go_wp2_with fail
                  refine (up_full t d _ ht0 ht1 hd2 hd1 HF.out.1 HF.out.2).mono ?_
                  rintro e wU ⟨rfl, hbU⟩
                  go_wp2
                  go_roundw
                  case rel => exact ⟨k + 1, by omega, by go_num, chainB (chainB (chainB (chainB (below_drewN' hba) hbN) hbM) hbO) hbU⟩
                  case measure => simp [intOf]; omega
          · have hbd : d < 0 ∨ 1125899906842624 < d := by omega
            have HB := Lib.hid hbd
            clear hbd hokd
            go_wp2_with (first | (go_at_call 23; refine (down_no _ _ _ (.inr HB.out)).mono ?_; rintro e wN ⟨rfl, hbN⟩))
            go_roundw
            case rel => exact ⟨k + 1, by omega, by go_num, chainB (below_drewN' hba) hbN⟩
            case measure => simp [intOf]; omega
        · have hbt : t < 0 ∨ 1125899906842624 < t := by omega
          have HB := Lib.hid hbt
          clear hbt hokt
          go_wp2_with (first | (go_at_call 23; refine (down_no _ _ _ (.inl HB.out)).mono ?_; rintro e wN ⟨rfl, hbN⟩))
          go_roundw
          case rel => exact ⟨k + 1, by omega, by go_num, chainB (below_drewN' hba) hbN⟩
          case measure => simp [intOf]; omega
    · go_wp2
      go_ret
      exact ⟨rfl, hbr⟩

theorem near_empty (a : Option Addr) (cap : Nat) (w : World) (htab : TabOk w) :
    Calls Tryd.prog 7 #[.slice a 0 cap] w fun e w' => e = .returned (.bool true) ∧ Below w.heap.size w w' := by
  have HTab := Lib.hid htab
  clear htab
  go_enter Tryd.func7, Tryd.ntmps7
  go_wp2_with (go_at_call 10; refine (wakes_yes w HTab.out).mono ?_; rintro e w1 ⟨rfl, hb1⟩)
  go_loopw [18] (fun i wr => i = .int .i64 0 ∧ Below w.heap.size w wr) (fun i _ => 0 - (intOf i).toNat)
  case atStart => exact ⟨rfl, hb1⟩
  case round =>
    obtain ⟨rfl, hbr⟩ := hrel
    go_wp2
    go_ret
    exact ⟨rfl, hbr⟩

end Go.Proofs.YtcedkaafdblboaaDoor
