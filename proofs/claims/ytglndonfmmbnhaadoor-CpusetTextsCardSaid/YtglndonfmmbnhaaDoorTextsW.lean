/-
  The walk of the law CpusetTexts.
-/
import Derived.Test.YtglndonfmmbnhaaDoorCpsZ
namespace Go.Proofs.YtglndonfmmbnhaaDoor
open Go.RowKit

theorem chainB2 {B : Nat} {w a b : World} (h : Below B w a) (k : Below a.heap.size a b) (hB : B ≤ a.heap.size) : Below B w b := h.trans (k.mono hB)

theorem cut60 (t : List UInt8) : (⟨t.toArray⟩ : ByteArray).extract 0 (min (t.length : Int) 60).toNat = ⟨(t.take 60).toArray⟩ := by
  rw [piece_upto]
  by_cases h : t.length ≤ 60
  · rw [show (min (t.length : Int) 60).toNat = t.length from by omega, List.take_of_length_le (Nat.le_refl _), List.take_of_length_le h]
  · rw [show (min (t.length : Int) 60).toNat = 60 from by omega]

theorem parse_cut_some (t : List UInt8) (s : Nat) (h : parseN (t.take 60) = some s) (W : World) (hL : LibOk W) :
    Calls Tryd.prog 24 #[.string ((⟨t.toArray⟩ : ByteArray).extract 0 (min (t.length : Int) 60).toNat)] W fun e w' => e = .returned (.tuple #[.int .u32 s, .int .i64 0]) ∧ Below W.heap.size W w' := by
  have hp := parse_any (t.take 60) (by rw [List.length_take]; omega) W hL
  unfold parseV at hp
  rw [h] at hp
  rw [cut60]; exact hp
theorem parse_cut_none (t : List UInt8) (h : parseN (t.take 60) = none) (W : World) (hL : LibOk W) :
    Calls Tryd.prog 24 #[.string ((⟨t.toArray⟩ : ByteArray).extract 0 (min (t.length : Int) 60).toNat)] W fun e w' => e = .returned (.tuple #[.int .u32 0, .int .i64 2]) ∧ Below W.heap.size W w' := by
  have hp := parse_any (t.take 60) (by rw [List.length_take]; omega) W hL
  unfold parseV at hp
  rw [h] at hp
  rw [cut60]; exact hp
theorem rparse_cut_some (t : List UInt8) (s : Nat) (h : parseN (t.take 60) = some s) (W : World) :
    Calls Tryd.prog 25 #[.string ((⟨t.toArray⟩ : ByteArray).extract 0 (min (t.length : Int) 60).toNat)] W fun e w' => e = .returned (.tuple #[.int .u32 s, .bool true]) ∧ W = w' := by
  have hp := rparse_any (t.take 60) W
  unfold rparseV at hp
  rw [h] at hp
  rw [cut60]; exact hp
theorem rparse_cut_none (t : List UInt8) (h : parseN (t.take 60) = none) (W : World) :
    Calls Tryd.prog 25 #[.string ((⟨t.toArray⟩ : ByteArray).extract 0 (min (t.length : Int) 60).toNat)] W fun e w' => e = .returned (.tuple #[.int .u32 0, .bool false]) ∧ W = w' := by
  have hp := rparse_any (t.take 60) W
  unfold rparseV at hp
  rw [h] at hp
  rw [cut60]; exact hp

set_option maxRecDepth 100000 in
set_option maxHeartbeats 4000000 in
theorem texts_any (a a' : Option Addr) (len cap len' cap' : Nat) (w : World) (hL : LibOk w) (hS : SetsAt w a len) (hT : TextsAt w a' len') :
    Calls Tryd.prog 5 #[.slice a len cap, .slice a' len' cap'] w fun e w' => e = .returned (.bool true) ∧ Below w.heap.size w w' := by
  have HL := Lib.hid hL
  have HS := Lib.hid hS
  have HT := Lib.hid hT
  have h7 := hL.big
  have hlen := hS.le
  have hlen' := hT.le
  clear hL hS hT
  go_enter Tryd.func5, Tryd.ntmps5
  go_wp2_with (go_at_call 10; refine (wakes_yes w HL.out).mono ?_; rintro e w1 ⟨rfl, hb1⟩)
  go_loopw [20] (fun i wr => ∃ k : Nat, k ≤ len ∧ i = .int .i64 k ∧ Below w.heap.size w wr) (fun i _ => len - (intOf i).toNat)
  case atStart => exact ⟨0, Nat.zero_le _, rfl, hb1⟩
  case round =>
    obtain ⟨k, hk, rfl, hbr⟩ := hrel
    have hsz := hbr.size
    by_cases hgo : k < len ∧ k ≠ 20
    · obtain ⟨hlt, h20⟩ := hgo
      have h20' : ((k : Int) == 20) = false := by rw [beq_eq_false_iff_ne]; omega
      clear h20
      obtain ⟨b, off, s, rfl, c0, hs32⟩ := (HS.out.below hbr).get hlt
      by_cases hs : s < 256
      · have HLr : Hid (LibOk wr) := HL.out.below hbr h7
        have ht := text_any s wr hs HLr.out.tz (by omega)
        have hr := rtext_any s
        generalize textL s = tx at ht hr
        unfold strV at ht hr
        have HTX := Lib.hid ht
        have HRX := Lib.hid hr
        clear ht hr
        go_wp2_with (first | (go_at_call 21; refine HTX.out.mono ?_; rintro e w2 ⟨rfl, hb2⟩) | (go_at_call 22; refine (right_yes s _ hs).mono ?_; rintro e w' ⟨rfl, rfl⟩) | (go_at_call 23; refine (HRX.out _ hs).mono ?_; rintro e w' ⟨rfl, rfl⟩))
        go_roundw
        case rel => exact ⟨k + 1, by omega, by go_num, chainB2 hbr hb2 hsz⟩
        case measure => simp [intOf]; omega
      · have hs' : 256 ≤ s := by omega
        have ht := text_no s
        unfold strV at ht
        have HTX := Lib.hid ht
        clear ht hs
        go_wp2_with (first | (go_at_call 21; refine (HTX.out _ hs32 hs').mono ?_; rintro e w' ⟨rfl, rfl⟩) | (go_at_call 22; refine (right_no s _ hs').mono ?_; rintro e w' ⟨rfl, rfl⟩))
        go_roundw
        case rel => exact ⟨k + 1, by omega, by go_num, hbr⟩
        case measure => simp [intOf]; omega
    · have hstop : (k < len ∧ ((k : Int) == 20) = true) ∨ k = len := by
        by_cases hlt : k < len
        · exact .inl ⟨hlt, by rw [beq_iff_eq]; omega⟩
        · exact .inr (by omega)
      clear hgo
      rcases hstop with hst | hst
      all_goals first | (subst hst; go_wp2) | (obtain ⟨hlt, h20'⟩ := hst; obtain ⟨b, off, s, rfl, c0, hs32⟩ := (HS.out.below hbr).get hlt; go_wp2)
      all_goals
        go_loopw [60] (fun i wi => ∃ j : Nat, j ≤ len' ∧ i = .int .i64 j ∧ Below w.heap.size w wi) (fun i _ => len' - (intOf i).toNat)
        case atStart => exact ⟨0, Nat.zero_le _, rfl, hbr⟩
        case round =>
          obtain ⟨j, hj, rfl, hbi⟩ := hrel
          have hszi := hbi.size
          by_cases hgo : j < len' ∧ j ≠ 12
          · obtain ⟨hlt2, h12⟩ := hgo
            have h12' : ((j : Int) == 12) = false := by rw [beq_eq_false_iff_ne]; omega
            clear h12
            obtain ⟨b2, off2, t, rfl, c2, htl⟩ := (HT.out.below hbi).get hlt2
            have HLi : Hid (LibOk wr) := HL.out.below hbi h7
            cases hp : parseN (t.take 60) with
            | some s =>
              have H1 := Lib.hid (parse_cut_some t s hp wr HLi.out)
              have H2 := Lib.hid (rparse_cut_some t s hp)
              clear hp
              go_wp2_with (first | (go_at_call 24; refine H1.out.mono ?_; rintro e w2 ⟨rfl, hb2⟩) | (go_at_call 25; refine (H2.out _).mono ?_; rintro e w' ⟨rfl, rfl⟩))
              go_roundw
              case rel => exact ⟨j + 1, by omega, by go_num, chainB2 hbi hb2 hszi⟩
              case measure => simp [intOf]; omega
            | none =>
              have H1 := Lib.hid (parse_cut_none t hp wr HLi.out)
              have H2 := Lib.hid (rparse_cut_none t hp)
              clear hp
              go_wp2_with (first | (go_at_call 24; refine H1.out.mono ?_; rintro e w2 ⟨rfl, hb2⟩) | (go_at_call 25; refine (H2.out _).mono ?_; rintro e w' ⟨rfl, rfl⟩))
              go_roundw
              case rel => exact ⟨j + 1, by omega, by go_num, chainB2 hbi hb2 hszi⟩
              case measure => simp [intOf]; omega
          · by_cases hlt2 : j < len'
            · have h12' : ((j : Int) == 12) = true := by rw [beq_iff_eq]; omega
              clear hgo
              obtain ⟨b2, off2, t, rfl, c2, htl⟩ := (HT.out.below hbi).get hlt2
              go_wp2
              go_ret
              exact ⟨rfl, hbi⟩
            · have e : j = len' := by omega
              clear hgo
              subst e
              go_wp2
              go_ret
              exact ⟨rfl, hbi⟩

end Go.Proofs.YtglndonfmmbnhaaDoor
