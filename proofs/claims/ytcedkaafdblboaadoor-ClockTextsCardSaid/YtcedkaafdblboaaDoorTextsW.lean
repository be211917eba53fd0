/-
  The walk of the law ClockTexts.
-/
import Derived.Test.YtcedkaafdblboaaDoorRefW
namespace Go.Proofs.YtcedkaafdblboaaDoor
open Go.RowKit

theorem rparse_cut_some (s : List UInt8) (t : Int) (h : parseN (s.take 60) = some t) (W : World) :
    Calls Tryd.prog 29 #[.string ((⟨s.toArray⟩ : ByteArray).extract 0 (min (s.length : Int) 60).toNat)] W fun e w' => e = .returned (.tuple #[.int .i64 t, .bool true]) ∧ Below W.heap.size W w' := by
  have hp := rparse_any (s.take 60) W (by rw [List.length_take]; omega)
  rw [h] at hp
  rw [cut60]
  refine hp.mono fun e w' hx => ?_
  obtain ⟨⟨v, ok, he, hok, hv⟩, hb⟩ := hx
  obtain rfl := hv t rfl
  subst hok
  exact ⟨he, hb⟩
theorem rparse_cut_none (s : List UInt8) (h : parseN (s.take 60) = none) (W : World) :
    Calls Tryd.prog 29 #[.string ((⟨s.toArray⟩ : ByteArray).extract 0 (min (s.length : Int) 60).toNat)] W fun e w' => (∃ v, e = .returned (.tuple #[.int .i64 v, .bool false])) ∧ Below W.heap.size W w' := by
  have hp := rparse_any (s.take 60) W (by rw [List.length_take]; omega)
  rw [h] at hp
  rw [cut60]
  refine hp.mono fun e w' hx => ?_
  obtain ⟨⟨v, ok, he, hok, hv⟩, hb⟩ := hx
  subst hok
  exact ⟨⟨v, he⟩, hb⟩

set_option maxRecDepth 100000 in
set_option maxHeartbeats 4000000 in
theorem texts_any (a a' : Option Addr) (len cap len' cap' : Nat) (w : World) (hL : LibOk w) (hS : NumsAt w a len) (hT : TextsAt w a' len') :
    Calls Tryd.prog 8 #[.slice a len cap, .slice a' len' cap'] w fun e w' => e = .returned (.bool true) ∧ Below w.heap.size w w' := by
  have HL := Lib.hid hL
  have HS := Lib.hid hS
  have HT := Lib.hid hT
  have hlen := hS.le
  have hlen' := hT.le
  clear hL hS hT
  go_enter Tryd.func8, Tryd.ntmps8
  go_wp2_with (go_at_call 10; refine (wakes_yes w HL.out.tab).mono ?_; rintro e w1 ⟨rfl, hb1⟩)
  go_loopw [20] (fun i wr => ∃ k : Nat, k ≤ len ∧ i = .int .i64 k ∧ Below w.heap.size w wr) (fun i _ => len - (intOf i).toNat)
  case atStart => exact ⟨0, Nat.zero_le _, rfl, hb1⟩
  case round =>
    obtain ⟨k, hk, rfl, hbr⟩ := hrel
    have hsz := hbr.size
    by_cases hgo : k < len ∧ k ≠ 30
    · obtain ⟨hlt, h30⟩ := hgo
      have h30' : ((k : Int) == 30) = false := by rw [beq_eq_false_iff_ne]; omega
      clear h30
      obtain ⟨b, off, t, rfl, c0, ht1, ht2⟩ := (HS.out.below hbr).get hlt
      by_cases hr : 0 ≤ t ∧ t ≤ 1125899906842624
      · obtain ⟨h0, h1⟩ := hr
        have ht := text_ok t wr h0 h1 (HL.out.below hbr).tab
        have hrt := fun W => rtext_any t W h0 h1
        generalize textL t = tx at ht hrt
        have HTX := Lib.hid ht
        have HRX := Lib.hid hrt
        clear ht hrt
        go_wp2_with (first | (go_at_call 26; refine HTX.out.mono ?_; rintro e w2 ⟨rfl, hb2⟩) | (go_at_call 11; refine (refRight_yes _ _ h0 h1).mono ?_; rintro e w' ⟨rfl, rfl⟩) | (go_at_call 27; refine (HRX.out _).mono ?_; rintro e w3 ⟨rfl, hb3⟩))
        go_roundw
        case rel => exact ⟨k + 1, by omega, by go_num, chainB (chainB hbr hb2 hsz) hb3 (Nat.le_trans hsz hb2.size)⟩
        case measure => simp [intOf]; omega
      · have hr' : t < 0 ∨ 1125899906842624 < t := by omega
        clear hr
        rcases hr' with hneg | hbig
        · have HTX := Lib.hid (text_no t wr (.inl hneg))
          go_wp2_with (first | (go_at_call 26; refine HTX.out.mono ?_; rintro e w2 ⟨rfl, rfl⟩) | (go_at_call 11; refine (refRight_neg _ _ hneg).mono ?_; rintro e w' ⟨rfl, rfl⟩))
          go_roundw
          case rel => exact ⟨k + 1, by omega, by go_num, hbr⟩
          case measure => simp [intOf]; omega
        · have HTX := Lib.hid (text_no t wr (.inr hbig))
          have h0 : 0 ≤ t := by omega
          go_wp2_with (first | (go_at_call 26; refine HTX.out.mono ?_; rintro e w2 ⟨rfl, rfl⟩) | (go_at_call 11; refine (refRight_big _ _ h0 hbig).mono ?_; rintro e w' ⟨rfl, rfl⟩))
          go_roundw
          case rel => exact ⟨k + 1, by omega, by go_num, hbr⟩
          case measure => simp [intOf]; omega
    · have hstop : (k < len ∧ ((k : Int) == 30) = true) ∨ k = len := by
        by_cases hlt : k < len
        · exact .inl ⟨hlt, by rw [beq_iff_eq]; omega⟩
        · exact .inr (by omega)
      clear hgo
      rcases hstop with hst | hst
      all_goals first | (subst hst; go_wp2) | (obtain ⟨hlt, h30'⟩ := hst; obtain ⟨b, off, t, rfl, c0, ht1, ht2⟩ := (HS.out.below hbr).get hlt; go_wp2)
      all_goals
        go_loopw [60] (fun i wi => ∃ j : Nat, j ≤ len' ∧ i = .int .i64 j ∧ Below w.heap.size w wi) (fun i _ => len' - (intOf i).toNat)
        case atStart => exact ⟨0, Nat.zero_le _, rfl, hbr⟩
        case round =>
          obtain ⟨j, hj, rfl, hbi⟩ := hrel
          have hszi := hbi.size
          by_cases hgo : j < len' ∧ j ≠ 30
          · obtain ⟨hlt2, h30⟩ := hgo
            have h30'' : ((j : Int) == 30) = false := by rw [beq_eq_false_iff_ne]; omega
            clear h30
            obtain ⟨b2, off2, s, rfl, c2, hsl⟩ := (HT.out.below hbi).get hlt2
            cases hp : parseN (s.take 60) with
            | some t =>
              have H1 := Lib.hid (parse_cut_some s t hp wr (HL.out.below hbi))
              have H2 := Lib.hid (rparse_cut_some s t hp)
              clear hp
              go_wp2_with (first | (go_at_call 28; refine H1.out.mono ?_; rintro e w2 ⟨rfl, hb2⟩) | (go_at_call 29; refine (H2.out _).mono ?_; rintro e w3 ⟨rfl, hb3⟩))
              go_roundw
              case rel => exact ⟨j + 1, by omega, by go_num, chainB (chainB hbi hb2 hszi) hb3 (Nat.le_trans hszi hb2.size)⟩
              case measure => simp [intOf]; omega
            | none =>
              have H1 := Lib.hid (parse_cut_none s hp wr (HL.out.below hbi))
              have H2 := Lib.hid (rparse_cut_none s hp)
              clear hp
              go_wp2_with (first | (go_at_call 28; refine H1.out.mono ?_; rintro e w2 ⟨rfl, hb2⟩) | (go_at_call 29; refine (H2.out _).mono ?_; rintro e w3 ⟨⟨v, rfl⟩, hb3⟩))
              go_roundw
              case rel => exact ⟨j + 1, by omega, by go_num, chainB (chainB hbi hb2 hszi) hb3 (Nat.le_trans hszi hb2.size)⟩
              case measure => simp [intOf]; omega
          · by_cases hlt2 : j < len'
            · have h30'' : ((j : Int) == 30) = true := by rw [beq_iff_eq]; omega
              clear hgo
              obtain ⟨b2, off2, s, rfl, c2, hsl⟩ := (HT.out.below hbi).get hlt2
              go_wp2
              go_ret
              exact ⟨rfl, hbi⟩
            · have e : j = len' := by omega
              clear hgo
              subst e
              go_wp2
              go_ret
              exact ⟨rfl, hbi⟩

end Go.Proofs.YtcedkaafdblboaaDoor
