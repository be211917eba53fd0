/-
  The walk of the law CpusetRead.
-/
import Derived.Test.YtglndonfmmbnhaaDoorMetA
namespace Go.Proofs.YtglndonfmmbnhaaDoor
open Go.RowKit

theorem parse_of_text (s : Nat) (hs : s < 256) (W : World) (hL : LibOk W) :
    Calls Tryd.prog 24 #[.string ⟨(textL s).toArray⟩] W fun e w' => e = .returned (.tuple #[.int .u32 s, .int .i64 0]) ∧ Below W.heap.size W w' := by
  have h1 := text_short ⟨s, hs⟩
  have h2 := parse_text ⟨s, hs⟩
  simp only at h1 h2
  have h := parse_any (textL s) (by omega) W hL
  unfold parseV at h
  rw [h2] at h
  exact h

theorem chainB5 {B : Nat} {w a b : World} (h : Below B w a) (k : Below a.heap.size a b) (hB : B ≤ a.heap.size) : Below B w b := h.trans (k.mono hB)

set_option maxRecDepth 100000 in
set_option maxHeartbeats 4000000 in
theorem read_any (a : Option Addr) (len cap : Nat) (t : List UInt8) (w : World) (htl : t.length ≤ 9223372036854775807) (hL : LibOk w) (hS : SetsAt w a len) :
    Calls Tryd.prog 6 #[.slice a len cap, .string ⟨t.toArray⟩] w fun e w' => e = .returned (.bool true) ∧ Below w.heap.size w w' := by
  have HL := Lib.hid hL
  have HS := Lib.hid hS
  have h7 := hL.big
  have hlen := hS.le
  clear hL hS
  have hmk : ∀ w : World, (Instr.makeMap 50 none).run Tryd.prog w = .ok (.map (some w.heap.size)) (w.alloc (.map #[] 0)) := fun _ => rfl
  go_enter Tryd.func6, Tryd.ntmps6
  go_wp2_with (go_at_call 10; refine (wakes_yes w HL.out).mono ?_; rintro e w1 ⟨rfl, hb1⟩)
  have HM0 := Lib.hid (met_made w1)
  have hBM : Below w.heap.size w (w1.alloc (.map #[] 0)) := hb1.alloc hb1.size _
  have hbm := hb1.size
  generalize hbmE : w1.heap.size = bm at *
  clear hbmE
  go_loopw [22] (fun i wr => ∃ k : Nat, k ≤ 256 ∧ i = .int .u32 k ∧ Below w.heap.size w wr ∧ Hid (MetAt bm k wr)) (fun i _ => 256 - (intOf i).toNat)
  case atStart => exact ⟨0, by omega, rfl, hBM, HM0⟩
  case round =>
    obtain ⟨k, hk, rfl, hbr, HM⟩ := hrel
    have hsz := hbr.size
    by_cases hlt : k < 256
    · have HLr : Hid (LibOk wr) := HL.out.below hbr h7
      have ht := text_any k wr hlt HLr.out.tz (by omega)
      have hshort := text_short ⟨k, hlt⟩
      simp only at hshort
      unfold strV at ht
      have HTX := Lib.hid ht
      clear ht
      go_wp2_with (go_at_call 21; refine HTX.out.mono ?_; rintro e w2 ⟨rfl, hb2⟩; refine Hid.out ?_)
      have hB2 := chainB5 hbr hb2 hsz
      have M2 : MetAt bm k w2 := HM.out.of (hb2.block bm HM.out.lt)
      have hlook := met_look M2 (textL k) (by omega)
      rw [metB_new k hlt] at hlook
      obtain ⟨w3, hstore, M3, hg3⟩ := met_store M2 hlt (by omega)
      have HM3 := Lib.hid M3
      have hB3 : Below w.heap.size w w3 := hB2.grown hg3 hB2.size (by intro j hj; cases hj; exact hbm)
      clear M2 M3 HTX hshort
      generalize textL k = tx at *
      refine Lib.hid ?_
      go_wp2
      exact ⟨⟨k + 1, by omega, by go_num, hB3, HM3.out⟩, by simp [intOf]; omega⟩
    · have hk6 : k = 256 := by omega
      have HM6 : Hid (MetAt bm 256 wr) := by rw [← hk6]; exact HM
      clear hk6
      go_wp2
      go_loopw [42] (fun i wi => ∃ j : Nat, j ≤ len ∧ i = .int .i64 j ∧ Below w.heap.size w wi ∧ Hid (MetAt bm 256 wi)) (fun i _ => len - (intOf i).toNat)
      case atStart => exact ⟨0, Nat.zero_le _, rfl, hbr, HM6⟩
      case round =>
        obtain ⟨j, hj, rfl, hbi, HMi⟩ := hrel
        have hszi := hbi.size
        by_cases hgo : j < len ∧ j ≠ 20
        · obtain ⟨hlt2, h20⟩ := hgo
          have h20' : ((j : Int) == 20) = false := by rw [beq_eq_false_iff_ne]; omega
          clear h20
          obtain ⟨b, off, s, rfl, c0, hs32⟩ := (HS.out.below hbi).get hlt2
          by_cases hs : s < 256
          · have HLi : Hid (LibOk wr) := HL.out.below hbi h7
            have ht := text_any s wr hs HLi.out.tz (by omega)
            have hp := parse_of_text s hs
            unfold strV at ht
            generalize textL s = tx at ht hp
            have HTX := Lib.hid ht
            have HPX : Hid (∀ W, Below w.heap.size w W → Calls Tryd.prog 24 #[.string ⟨tx.toArray⟩] W fun e w' => e = .returned (.tuple #[.int .u32 s, .int .i64 0]) ∧ Below W.heap.size W w') := fun W hB => hp W (HL.out.below hB h7)
            clear ht hp
            go_wp2_with (go_at_call 21; refine HTX.out.mono ?_; rintro e w2 ⟨rfl, hb2⟩; refine Hid.out ?_)
            have hB2 := chainB5 hbi hb2 hszi
            have HM2 : Hid (MetAt bm 256 w2) := HMi.out.of (hb2.block bm HMi.out.lt)
            refine Lib.hid ?_
            go_wp2_with (go_at_call 24; refine (HPX.out _ hB2).mono ?_; rintro e w3 ⟨rfl, hb3⟩)
            go_roundw
            case rel => exact ⟨j + 1, by omega, by go_num, chainB5 hB2 hb3 hB2.size, HM2.out.of (hb3.block bm HM2.out.lt)⟩
            case measure => simp [intOf]; omega
          · have hs' : 256 ≤ s := by omega
            have ht := text_no s
            unfold strV at ht
            have HTX := Lib.hid ht
            clear ht hs
            go_wp2_with (go_at_call 21; refine (HTX.out _ hs32 hs').mono ?_; rintro e w' ⟨rfl, rfl⟩)
            go_roundw
            case rel => exact ⟨j + 1, by omega, by go_num, hbi, HMi⟩
            case measure => simp [intOf]; omega
        · have hstop : (j < len ∧ ((j : Int) == 20) = true) ∨ j = len := by
            by_cases hlt : j < len
            · exact .inl ⟨hlt, by rw [beq_iff_eq]; omega⟩
            · exact .inr (by omega)
          have HLi : Hid (LibOk wr) := HL.out.below hbi h7
          clear hgo
          cases hp : parseN (t.take 60) with
          | none =>
            have H1 := Lib.hid (parse_cut_none t hp wr HLi.out)
            have hmet : metB 256 (t.take 60) = false := by rw [metB_all, hp]; rfl
            have HML : Hid (∀ W : World, Below wr.heap.size wr W → (Instr.lookup 50 (.map (some bm)) (.string ((⟨t.toArray⟩ : ByteArray).extract 0 (min (t.length : Int) 60).toNat)) false).run Tryd.prog W = .ok (.bool false) W) := fun W hB => by
              have h := met_look (HMi.out.of (hB.block bm HMi.out.lt)) (t.take 60) (by rw [List.length_take]; omega)
              rw [hmet] at h
              rw [cut60]; exact h
            clear hp hmet
            rcases hstop with hst | hst
            all_goals first | (subst hst) | (obtain ⟨hlt2, h20'⟩ := hst; obtain ⟨b, off, s, rfl, c0, hs32⟩ := (HS.out.below hbi).get hlt2)
            all_goals
              go_wp2_with (go_at_call 24; refine H1.out.mono ?_; rintro e w2 ⟨rfl, hb2⟩; refine Hid.out ?_)
              have hlook := HML.out w2 hb2
              refine Lib.hid ?_
              go_wp2
              go_ret
              exact ⟨rfl, chainB5 hbi hb2 hszi⟩
          | some s =>
            obtain ⟨hs8, htx⟩ := parse_some hp
            have H1 := Lib.hid (parse_cut_some t s hp wr HLi.out)
            have H2 : Hid (∀ W : World, Below w.heap.size w W → Calls Tryd.prog 21 #[.int .u32 s] W fun e w' => e = .returned (.tuple #[.string ((⟨t.toArray⟩ : ByteArray).extract 0 (min (t.length : Int) 60).toNat), .int .i64 0]) ∧ Below W.heap.size W w') := fun W hB => by
              have h := text_any s W hs8 (HL.out.below hB h7).tz (by have := hB.size; omega)
              rw [htx] at h
              unfold strV at h
              rw [cut60]; exact h
            clear hp htx
            rcases hstop with hst | hst
            all_goals first | (subst hst) | (obtain ⟨hlt2, h20'⟩ := hst; obtain ⟨b, off, s2, rfl, c0, hs32⟩ := (HS.out.below hbi).get hlt2)
            all_goals
              go_wp2_with (go_at_call 24; refine H1.out.mono ?_; rintro e w2 ⟨rfl, hb2⟩; refine Hid.out ?_)
              have hB2 := chainB5 hbi hb2 hszi
              refine Lib.hid ?_
              go_wp2_with (go_at_call 21; refine (H2.out _ hB2).mono ?_; rintro e w3 ⟨rfl, hb3⟩)
              go_ret
              exact ⟨rfl, chainB5 hB2 hb3 hB2.size⟩

end Go.Proofs.YtglndonfmmbnhaaDoor
