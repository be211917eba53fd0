/-
  The walk of the law CpusetOf.
-/
import Derived.Test.YtglndonfmmbnhaaDoorOfB
namespace Go.Proofs.YtglndonfmmbnhaaDoor
open Go.RowKit

theorem chainB4 {B : Nat} {w a b : World} (h : Below B w a) (k : Below a.heap.size a b) (hB : B ≤ a.heap.size) : Below B w b := h.trans (k.mono hB)

set_option maxRecDepth 100000 in
set_option maxHeartbeats 4000000 in
theorem of_any (a a' : Option Addr) (len cap len' cap' : Nat) (w : World) (hL : LibOk w) (hS : RowsAt w a len) (hT : NumsAt w a' len') :
    Calls Tryd.prog 7 #[.slice a len cap, .slice a' len' cap'] w fun e w' => e = .returned (.bool true) ∧ Below w.heap.size w w' := by
  have HL := Lib.hid hL
  have HS := Lib.hid hS
  have HT := Lib.hid hT
  have hlen := hS.le
  have hlen' := hT.le
  clear hL hS hT
  go_enter Tryd.func7, Tryd.ntmps7
  go_wp2_with (go_at_call 10; refine (wakes_yes w HL.out).mono ?_; rintro e w1 ⟨rfl, hb1⟩)
  go_loopw [20] (fun i wr => ∃ k : Nat, k ≤ len ∧ i = .int .i64 k ∧ Below w.heap.size w wr) (fun i _ => len - (intOf i).toNat)
  case atStart => exact ⟨0, Nat.zero_le _, rfl, hb1⟩
  case round =>
    obtain ⟨k, hk, rfl, hbr⟩ := hrel
    have hsz := hbr.size
    by_cases hgo : k < len ∧ k ≠ 10
    · obtain ⟨hlt, h10⟩ := hgo
      have h10' : ((k : Int) == 10) = false := by rw [beq_eq_false_iff_ne]; omega
      clear h10
      obtain ⟨b, off, a1, len1, cap1, rfl, hb, hc, hN1, hcap1⟩ := HS.out.get hlt
      have c0 : wr.cell? ⟨b, off + k, none⟩ = some (.slice a1 len1 cap1) := (hbr.cell (p := ⟨b, off + k, none⟩) hb).trans hc
      clear hc
      obtain ⟨xs, hF⟩ := few_any hN1 hcap1
      have HF := Lib.hid hF
      clear hF hN1
      go_wp2_with (go_at_call 26; refine (HF.out _ hbr).mono ?_; rintro e w2 ⟨v1, rfl, hn1, hb2⟩; refine Hid.out ?_)
      have hB2 := chainB4 hbr hb2 hsz
      cases hg : goodL xs with
      | true =>
        have H1 := Lib.hid (of_good w2 v1 xs hn1 hg)
        refine Lib.hid ?_
        go_wp2_with (first | (go_at_call 18; refine H1.out.mono ?_; rintro e w' ⟨rfl, rfl⟩) | (go_at_call 26; refine (HF.out _ hB2).mono ?_; rintro e w3 ⟨v2, rfl, hn2, hb3⟩; refine Hid.out ?_))
        have hB3 := chainB4 hB2 hb3 hB2.size
        have H2 := Lib.hid (rof_good w3 v2 xs hn2 hg)
        refine Lib.hid ?_
        go_wp2_with (first | (go_at_call 27; refine H2.out.mono ?_; rintro e w' ⟨rfl, rfl⟩) | (go_at_call 26; refine (HF.out _ hB3).mono ?_; rintro e w4 ⟨v3, rfl, hn3, hb4⟩; refine Hid.out ?_))
        have hB4 := chainB4 hB3 hb4 hB3.size
        have H3 := Lib.hid (same_any w4 v1 v3 xs ((hn1.below hb3).below hb4) hn3)
        refine Lib.hid ?_
        go_wp2_with (go_at_call 28; refine H3.out.mono ?_; rintro e w5 ⟨rfl, hb5⟩)
        go_roundw
        case rel => exact ⟨k + 1, by omega, by go_num, chainB4 hB4 hb5 hB4.size⟩
        case measure => simp [intOf]; omega
      | false =>
        have H1 := Lib.hid (of_bad w2 v1 xs hn1 hg)
        refine Lib.hid ?_
        go_wp2_with (first | (go_at_call 18; refine H1.out.mono ?_; rintro e w' ⟨rfl, rfl⟩) | (go_at_call 26; refine (HF.out _ hB2).mono ?_; rintro e w3 ⟨v2, rfl, hn2, hb3⟩; refine Hid.out ?_))
        have hB3 := chainB4 hB2 hb3 hB2.size
        have H2 := Lib.hid (rof_bad w3 v2 xs hn2 hg)
        refine Lib.hid ?_
        go_wp2_with (first | (go_at_call 27; refine H2.out.mono ?_; rintro e w' ⟨rfl, rfl⟩) | (go_at_call 26; refine (HF.out _ hB3).mono ?_; rintro e w4 ⟨v3, rfl, hn3, hb4⟩; refine Hid.out ?_))
        have hB4 := chainB4 hB3 hb4 hB3.size
        have H3 := Lib.hid (same_any w4 v1 v3 xs ((hn1.below hb3).below hb4) hn3)
        refine Lib.hid ?_
        go_wp2_with (go_at_call 28; refine H3.out.mono ?_; rintro e w5 ⟨rfl, hb5⟩)
        go_roundw
        case rel => exact ⟨k + 1, by omega, by go_num, chainB4 hB4 hb5 hB4.size⟩
        case measure => simp [intOf]; omega
    · have hstop : (k < len ∧ ((k : Int) == 10) = true) ∨ k = len := by
        by_cases hlt : k < len
        · exact .inl ⟨hlt, by rw [beq_iff_eq]; omega⟩
        · exact .inr (by omega)
      clear hgo
      rcases hstop with hst | hst
      all_goals first | (obtain ⟨hlt, h10'⟩ := hst; obtain ⟨b, off, a1, len1, cap1, rfl, hb, hc, hN1, hcap1⟩ := HS.out.get hlt; have c0 : wr.cell? ⟨b, off + k, none⟩ = some (.slice a1 len1 cap1) := (hbr.cell (p := ⟨b, off + k, none⟩) hb).trans hc; clear hc hN1; go_wp2) | (subst hst; go_wp2)
      all_goals
        go_loopw [72] (fun i wi => ∃ j : Nat, j ≤ len' ∧ i = .int .i64 j ∧ Below w.heap.size w wi) (fun i _ => len' - (intOf i).toNat)
        case atStart => exact ⟨0, Nat.zero_le _, rfl, hbr⟩
        case round =>
          obtain ⟨j, hj, rfl, hbi⟩ := hrel
          have hszi := hbi.size
          by_cases hgo : j < len' ∧ j ≠ 20
          · obtain ⟨hlt2, h20⟩ := hgo
            have h20' : ((j : Int) == 20) = false := by rw [beq_eq_false_iff_ne]; omega
            clear h20
            obtain ⟨b2, off2, c, rfl, c2, hc1, hc2⟩ := (HT.out.below hbi).get hlt2
            by_cases hc : 0 ≤ c ∧ c ≤ 8
            · obtain ⟨h0, h8⟩ := hc
              go_wp2_with (go_at_call 29; refine (first_ok _ _ h0 h8).mono ?_; rintro e w' ⟨rfl, rfl⟩)
              go_roundw
              case rel => exact ⟨j + 1, by omega, by go_num, hbi⟩
              case measure => simp [intOf]; omega
            · have hc' : c < 0 ∨ 8 < c := by omega
              clear hc
              rcases hc' with hneg | hbig
              · go_wp2_with (go_at_call 29; refine (first_no _ _ (.inl hneg)).mono ?_; rintro e w' ⟨rfl, rfl⟩)
                go_roundw
                case rel => exact ⟨j + 1, by omega, by go_num, hbi⟩
                case measure => simp [intOf]; omega
              · have h0 : 0 ≤ c := by omega
                go_wp2_with (go_at_call 29; refine (first_no _ _ (.inr hbig)).mono ?_; rintro e w' ⟨rfl, rfl⟩)
                go_roundw
                case rel => exact ⟨j + 1, by omega, by go_num, hbi⟩
                case measure => simp [intOf]; omega
          · by_cases hlt2 : j < len'
            · have h20' : ((j : Int) == 20) = true := by rw [beq_iff_eq]; omega
              clear hgo
              obtain ⟨b2, off2, c, rfl, c2, hc1, hc2⟩ := (HT.out.below hbi).get hlt2
              go_wp2
              go_ret
              exact ⟨rfl, hbi⟩
            · have e : j = len' := by omega
              clear hgo
              subst e
              go_wp2
              go_ret
              exact ⟨rfl, hbi⟩

end Go.Proofs.YtglndonfmmbnhaaDoor
