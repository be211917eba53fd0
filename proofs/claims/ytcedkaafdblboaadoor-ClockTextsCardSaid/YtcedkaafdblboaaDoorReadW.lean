/-
  The walk of the law ClockRead.
-/
import Derived.Test.YtcedkaafdblboaaDoorCkZ
namespace Go.Proofs.YtcedkaafdblboaaDoor
open Go.RowKit

theorem cut60 (t : List UInt8) : (⟨t.toArray⟩ : ByteArray).extract 0 (min (t.length : Int) 60).toNat = ⟨(t.take 60).toArray⟩ := by
  have piece : ∀ k, (⟨t.toArray⟩ : ByteArray).extract 0 k = ⟨(t.take k).toArray⟩ := fun k => by
    apply ByteArray.ext
    simp [ByteArray.extract, ByteArray.copySlice]
  rw [piece]
  by_cases h : t.length ≤ 60
  · rw [show (min (t.length : Int) 60).toNat = t.length from by omega, List.take_of_length_le (Nat.le_refl _), List.take_of_length_le h]
  · rw [show (min (t.length : Int) 60).toNat = 60 from by omega]

theorem parse_cut_some (s : List UInt8) (t : Int) (h : parseN (s.take 60) = some t) (W : World) (hL : LibOk W) :
    Calls Tryd.prog 28 #[.string ((⟨s.toArray⟩ : ByteArray).extract 0 (min (s.length : Int) 60).toNat)] W fun e w' => e = .returned (.tuple #[.int .i64 t, .int .i64 0]) ∧ Below W.heap.size W w' := by
  have hp := parse_any (s.take 60) (by rw [List.length_take]; omega) W hL
  unfold parseV at hp
  rw [h] at hp
  rw [cut60]; exact hp
theorem parse_cut_none (s : List UInt8) (h : parseN (s.take 60) = none) (W : World) (hL : LibOk W) :
    Calls Tryd.prog 28 #[.string ((⟨s.toArray⟩ : ByteArray).extract 0 (min (s.length : Int) 60).toNat)] W fun e w' => e = .returned (.tuple #[.int .i64 0, .int .i64 2]) ∧ Below W.heap.size W w' := by
  have hp := parse_any (s.take 60) (by rw [List.length_take]; omega) W hL
  unfold parseV at hp
  rw [h] at hp
  rw [cut60]; exact hp
theorem parse_of_text (t : Int) (h0 : 0 ≤ t) (h1 : t ≤ 1125899906842624) (W : World) (hL : LibOk W) :
    Calls Tryd.prog 28 #[.string ⟨(textL t).toArray⟩] W fun e w' => e = .returned (.tuple #[.int .i64 t, .int .i64 0]) ∧ Below W.heap.size W w' := by
  have hp := parse_any (textL t) (by have := textL_len t h0 h1; omega) W hL
  unfold parseV at hp
  rw [parse_text t h0 h1] at hp
  exact hp

theorem LibOk.belowN {w w' : World} (h : LibOk w) {B : Nat} (hB : B = w.heap.size) (hb : Below B w w') : LibOk w' := by subst hB; exact h.below hb

set_option maxRecDepth 100000 in
set_option maxHeartbeats 4000000 in
theorem read_any (a a' : Option Addr) (len cap len' cap' : Nat) (w : World) (hL : LibOk w) (hS : NumsAt w a len) (hT : TextsAt w a' len') :
    Calls Tryd.prog 9 #[.slice a len cap, .slice a' len' cap'] w fun e w' => e = .returned (.bool true) ∧ Below w.heap.size w w' := by
  have HL := Lib.hid hL
  have HS := Lib.hid hS
  have HT := Lib.hid hT
  have hlen := hS.le
  have hlen' := hT.le
  clear hL hS hT
  have hmk : ∀ w : World, (Instr.makeMap 49 none).run Tryd.prog w = .ok (.map (some w.heap.size)) (w.alloc (.map #[] 0)) := fun _ => rfl
  go_enter Tryd.func9, Tryd.ntmps9
  go_wp2_with (go_at_call 10; refine (wakes_yes w HL.out.tab).mono ?_; rintro e w1 ⟨rfl, hb1⟩)
  have HM0 := Lib.hid (met_made w1)
  have hBM : Below w.heap.size w (w1.alloc (.map #[] 0)) := hb1.alloc hb1.size _
  have hbm := hb1.size
  generalize hbmE : w1.heap.size = bm at *
  clear hbmE
  go_loopw [25] (fun i wr => ∃ k : Nat, k ≤ len ∧ k ≤ 30 ∧ i = .int .i64 k ∧ Below w.heap.size w wr ∧ Hid (∃ n, n ≤ k ∧ MetAt bm n wr)) (fun i _ => len - (intOf i).toNat)
  case atStart => exact ⟨0, Nat.zero_le _, by omega, rfl, hBM, 0, Nat.le_refl _, HM0⟩
  case round =>
    obtain ⟨k, hk, hk30, rfl, hbr, HM⟩ := hrel
    have hsz := hbr.size
    by_cases hgo : k < len ∧ k ≠ 30
    · obtain ⟨hlt, h30⟩ := hgo
      have h30' : ((k : Int) == 30) = false := by rw [beq_eq_false_iff_ne]; omega
      have hk29 : k < 30 := by omega
      clear h30
      obtain ⟨b, off, t, rfl, c0, ht1, ht2⟩ := (HS.out.below hbr).get hlt
      obtain ⟨n, hnk, M⟩ := HM.out
      by_cases hr : 0 ≤ t ∧ t ≤ 1125899906842624
      · obtain ⟨h0, h1⟩ := hr
        have HTX := Lib.hid (text_ok t wr h0 h1 (HL.out.below hbr).tab)
        have HPX : Hid (∀ W, Below w.heap.size w W → Calls Tryd.prog 28 #[.string ⟨(textL t).toArray⟩] W fun e w' => e = .returned (.tuple #[.int .i64 t, .int .i64 0]) ∧ Below W.heap.size W w') := fun W hB => parse_of_text t h0 h1 W (HL.out.below hB)
        have hshort := textL_len t h0 h1
        go_wp2_with (go_at_call 26; refine HTX.out.mono ?_; rintro e w2 ⟨rfl, hb2⟩; refine Hid.out ?_)
        have hB2 := chainB hbr hb2 hsz
        have M2 := M.of (hb2.block bm M.lt)
        refine Lib.hid ?_
        go_wp2_with (go_at_call 28; refine (HPX.out _ hB2).mono ?_; rintro e w3 ⟨rfl, hb3⟩; refine Hid.out ?_)
        have hB3 := chainB hB2 hb3 hB2.size
        have M3 := M2.of (hb3.block bm M2.lt)
        obtain ⟨v, th, hlook, hth⟩ := met_look M3 (textL t) (by omega)
        obtain ⟨w4, hstore, M4, hg4⟩ := met_store M3 (by omega) t h0 h1 (by omega)
        have HM4 : Hid (∃ n, n ≤ k + 1 ∧ MetAt bm n w4) := ⟨n + 1, by omega, M4⟩
        have hB4 : Below w.heap.size w w4 := hB3.grown hg4 hB3.size (by intro j hj; cases hj; exact hbm)
        cases th with
        | true =>
          obtain ⟨⟨hv0, hv1⟩, hvt⟩ := hth rfl
          obtain rfl : v = t := text_inj hv0 hv1 h0 h1 hvt
          clear M M2 M3 M4 HTX HPX hth hvt hshort HM
          generalize textL v = tx at *
          refine Lib.hid ?_
          go_wp2
          refine ⟨⟨k + 1, by omega, by omega, by go_num, hB4, HM4.out⟩, by simp [intOf]; omega⟩
        | false =>
          clear M M2 M3 M4 HTX HPX hth hshort HM
          generalize textL t = tx at *
          refine Lib.hid ?_
          go_wp2
          refine ⟨⟨k + 1, by omega, by omega, by go_num, hB4, HM4.out⟩, by simp [intOf]; omega⟩
      · have hr' : t < 0 ∨ 1125899906842624 < t := by omega
        have HTX := Lib.hid (text_no t wr hr')
        have HMn : Hid (∃ n, n ≤ k + 1 ∧ MetAt bm n wr) := ⟨n, by omega, M⟩
        clear hr hr' M
        go_wp2_with (go_at_call 26; refine HTX.out.mono ?_; rintro e w2 ⟨rfl, rfl⟩)
        go_roundw
        case rel => exact ⟨k + 1, by omega, by omega, by go_num, hbr, HMn.out⟩
        case measure => simp [intOf]; omega
    · have hstop : (k < len ∧ ((k : Int) == 30) = true) ∨ k = len := by
        by_cases hlt : k < len
        · exact .inl ⟨hlt, by rw [beq_iff_eq]; omega⟩
        · exact .inr (by omega)
      clear hgo HM
      rcases hstop with hst | hst
      all_goals first | (subst hst; go_wp2) | (obtain ⟨hlt, h30'⟩ := hst; obtain ⟨b, off, t, rfl, c0, ht1, ht2⟩ := (HS.out.below hbr).get hlt; go_wp2)
      all_goals
        go_loopw [71] (fun i wi => ∃ j : Nat, j ≤ len' ∧ i = .int .i64 j ∧ Below w.heap.size w wi) (fun i _ => len' - (intOf i).toNat)
        case atStart => exact ⟨0, Nat.zero_le _, rfl, hbr⟩
        case round =>
          obtain ⟨j, hj, rfl, hbi⟩ := hrel
          have hszi := hbi.size
          by_cases hgo : j < len' ∧ j ≠ 30
          · obtain ⟨hlt2, h30⟩ := hgo
            have h30'' : ((j : Int) == 30) = false := by rw [beq_eq_false_iff_ne]; omega
            clear h30
            obtain ⟨b2, off2, s, rfl, c2, hsl⟩ := (HT.out.below hbi).get hlt2
            cases hp : parseN (s.take 60) with
            | some t =>
              obtain ⟨⟨h0, h1⟩, htx⟩ := parse_some hp
              have H1 := Lib.hid (parse_cut_some s t hp wr (HL.out.below hbi))
              have H2 : Hid (∀ W : World, Below w.heap.size w W → Calls Tryd.prog 26 #[.int .i64 t] W fun e w' => e = .returned (.tuple #[.string ((⟨s.toArray⟩ : ByteArray).extract 0 (min (s.length : Int) 60).toNat), .int .i64 0]) ∧ Below W.heap.size W w') := fun W hB => by
                have h := text_ok t W h0 h1 (HL.out.below hB).tab
                rw [htx] at h
                rw [cut60]; exact h
              clear hp htx
              go_wp2_with (go_at_call 28; refine H1.out.mono ?_; rintro e w2 ⟨rfl, hb2⟩; refine Hid.out ?_)
              have hB2 := chainB hbi hb2 hszi
              refine Lib.hid ?_
              go_wp2_with (go_at_call 26; refine (H2.out _ hB2).mono ?_; rintro e w3 ⟨rfl, hb3⟩)
              go_roundw
              case rel => exact ⟨j + 1, by omega, by go_num, chainB hB2 hb3 hB2.size⟩
              case measure => simp [intOf]; omega
            | none =>
              have H1 := Lib.hid (parse_cut_none s hp wr (HL.out.below hbi))
              clear hp
              go_wp2_with (go_at_call 28; refine H1.out.mono ?_; rintro e w2 ⟨rfl, hb2⟩)
              go_roundw
              case rel => exact ⟨j + 1, by omega, by go_num, chainB hbi hb2 hszi⟩
              case measure => simp [intOf]; omega
          · by_cases hlt2 : j < len'
            · have h30'' : ((j : Int) == 30) = true := by rw [beq_iff_eq]; omega
              clear hgo
              obtain ⟨b2, off2, s, rfl, c2, hsl⟩ := (HT.out.below hbi).get hlt2
              go_wp2
              go_ret
              exact ⟨rfl, hbi⟩
            · have e : j = len' := by omega
              clear hgo
              subst e
              go_wp2
              go_ret
              exact ⟨rfl, hbi⟩

end Go.Proofs.YtcedkaafdblboaaDoor
