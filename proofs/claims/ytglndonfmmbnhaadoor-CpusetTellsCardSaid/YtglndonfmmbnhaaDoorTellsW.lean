/-
  The walk of the law CpusetTells.
-/
import Derived.Test.YtglndonfmmbnhaaDoorTelB
import Derived.Deep.RegionHeld
namespace Go.Proofs.YtglndonfmmbnhaaDoor
open Go.RowKit

theorem list_fact' : ∀ x : Fin 256, Lib.onesCount x.val = (listN x.val).length := by decide +kernel

theorem count_list (s : Nat) (w : World) (hs : s < 4294967296) :
    Calls Tryd.prog 15 #[.int .u32 s] w fun e w' => e = .returned (.int .i64 (listN (lowN s)).length) ∧ Below w.heap.size w w' := by
  have h := count_any s w hs
  have f := (list_fact' ⟨lowN s, lowN_lt s⟩)
  simp only at f
  rw [f] at h
  exact h

theorem rlist_sl (s : Nat) (w : World) :
    Calls Tryd.prog 32 #[.int .u32 s] w fun e w' => ∃ a cap, e = .returned (.slice a (listN (lowN s)).length cap) ∧ NumsIs w' (.slice a (listN (lowN s)).length cap) (intsL s) ∧ Below w.heap.size w w' :=
  (rlist_any s w).mono fun _ _ ⟨_, he, hn, hb⟩ => by
    obtain ⟨a, cap, rfl, -⟩ := ints_at hn
    exact ⟨a, cap, he, hn, hb⟩

set_option maxRecDepth 100000 in
set_option maxHeartbeats 40000000 in
theorem tells_any (a a' : Option Addr) (len cap len' cap' : Nat) (w : World) (hL : LibOk w) (hS : SetsAt w a len) (hT : NumsAt w a' len') :
    Calls Tryd.prog 9 #[.slice a len cap, .slice a' len' cap'] w fun e w' => e = .returned (.bool true) ∧ Below w.heap.size w w' := by
  have HL := Lib.hid hL
  have h7 := hL.big
  have hlen := hS.le
  have hlen' := hT.le
  have HT := Lib.hid hT
  have HS : Hid (∀ i, i < len → ∃ b off s l0, a = some ⟨b, off, none⟩ ∧ b < w.heap.size ∧ w.cell? ⟨b, off + i, none⟩ = some (.int .u32 ((s : Nat) : Int)) ∧ s < 4294967296 ∧ w.cell? ⟨b, off, none⟩ = some (.int .u32 ((l0 : Nat) : Int)) ∧ l0 < 4294967296) := fun i hi => by
    rcases hS.cells with h0 | ⟨b, off, S, ha, hb, hc, hs⟩
    · omega
    · exact ⟨b, off, S i, S 0, ha, hb, hc i hi, hs i hi, hc 0 (by omega), hs 0 (by omega)⟩
  clear hL hS hT
  go_enter Tryd.func9, Tryd.ntmps9
  go_wp2_with (go_at_call 10; refine (wakes_yes w HL.out).mono ?_; rintro e w1 ⟨rfl, hb1⟩)
  go_loopw [19] (fun i wr => ∃ k : Nat, k ≤ len ∧ i = .int .i64 k ∧ Below w.heap.size w wr) (fun i _ => len - (intOf i).toNat)
  case atStart => exact ⟨0, Nat.zero_le _, rfl, hb1⟩
  case round =>
    obtain ⟨k, hk, rfl, hbr⟩ := hrel
    have hsz := hbr.size
    by_cases hlt : k < len
    · obtain ⟨b, off, s, l0, rfl, hb, hc, hs32, hc0, hl32⟩ := HS.out k hlt
      have c0 : wr.cell? ⟨b, off + k, none⟩ = some (.int .u32 s) := (hbr.cell (p := ⟨b, off + k, none⟩) hb).trans hc
      have c00 : wr.cell? ⟨b, off, none⟩ = some (.int .u32 l0) := (hbr.cell (p := ⟨b, off, none⟩) hb).trans hc0
      have HC0 := Lib.hid hc0
      have hlen0 : (0 : Int) < (len : Int) := by omega
      clear hc hc0
      by_cases h20 : k = 20
      · have h20' : ((k : Int) == 20) = true := by rw [beq_iff_eq]; omega
        clear h20
        go_wp2
        go_ret
        exact ⟨rfl, hbr⟩
      · have h20' : ((k : Int) == 20) = false := by rw [beq_eq_false_iff_ne]; omega
        clear h20
        have hA : Below w.heap.size w wr.drew := hbr.drew
        have H1 : Hid (∀ W, Below w.heap.size w W → Calls Tryd.prog 17 #[.int .u32 s] W fun e w' => ∃ v, e = .returned v ∧ NumsIs w' v (intsL s) ∧ Below W.heap.size W w') := fun W hB => list_nums s W hs32 (HL.out.below hB h7)
        have H2 := Lib.hid (rlist_sl s)
        have H3 := Lib.hid (fun W => count_list s W hs32)
        have H4 := Lib.hid (fun W => within_any s l0 W hs32 hl32)
        have H5 := Lib.hid (fun W => rwithin_any s l0 W hl32)
        have H6 := Lib.hid (fun W => within_any l0 s W hl32 hs32)
        have H7 := Lib.hid (fun W => rwithin_any l0 s W hs32)
        generalize (listN (lowN s)).length = n at *
        generalize withinN s l0 = r1 at *
        generalize withinN l0 s = r2 at *
        generalize intsL s = xs at *
        rcases Nat.lt_or_ge s 256 with hs | hs
        all_goals go_wp2_with (first | (go_at_call 22; refine (right_yes s _ hs).mono ?_; rintro e w' ⟨rfl, rfl⟩) | (go_at_call 22; refine (right_no s _ hs).mono ?_; rintro e w' ⟨rfl, rfl⟩) | (go_at_call 11; refine (check_ok s _ hs).mono ?_; rintro e w' ⟨rfl, rfl⟩) | (go_at_call 11; refine (check_no s _ hs32 hs).mono ?_; rintro e w' ⟨rfl, rfl⟩))
        all_goals
          go_region_held (fun w' => w'.cell? ⟨b, off, none⟩ = some (.int .u32 (l0 : Int))) (first | exact c00 | go_keep) (first
            | (go_at_call 17; refine (H1.out _ hA).mono ?_; rintro e w2 ⟨v1, rfl, hn1, hb2⟩; replace hA := chainB6 hA hb2 hA.size; have c00 := (hA.cell (p := ⟨b, off, none⟩) hb).trans HC0.out)
            | (go_at_call 32; refine (H2.out _).mono ?_; rintro e w3 ⟨a3, cap3, rfl, hn3, hb3⟩; replace hA := chainB6 hA hb3 hA.size; have c00 := (hA.cell (p := ⟨b, off, none⟩) hb).trans HC0.out)
            | (go_at_call 28; refine (same_any _ _ _ xs (hn1.below hb3) hn3).mono ?_; rintro e w4 ⟨rfl, hb4⟩; replace hA := chainB6 hA hb4 hA.size; have c00 := (hA.cell (p := ⟨b, off, none⟩) hb).trans HC0.out)
            | (go_at_call 15; refine (H3.out _).mono ?_; rintro e w5 ⟨rfl, hb5⟩; replace hA := chainB6 hA hb5 hA.size; have c00 := (hA.cell (p := ⟨b, off, none⟩) hb).trans HC0.out)
            | (go_at_call 16; ((with_reducible refine (H4.out _).mono ?_); rintro e w' ⟨rfl, rfl⟩))
            | (go_at_call 16; ((with_reducible refine (H6.out _).mono ?_); rintro e w' ⟨rfl, rfl⟩))
            | (go_at_call 33; ((with_reducible refine (H5.out _).mono ?_); rintro e w7 ⟨rfl, hb7⟩; replace hA := chainB6 hA hb7 hA.size; have c00 := (hA.cell (p := ⟨b, off, none⟩) hb).trans HC0.out))
            | (go_at_call 33; ((with_reducible refine (H7.out _).mono ?_); rintro e w7 ⟨rfl, hb7⟩; replace hA := chainB6 hA hb7 hA.size; have c00 := (hA.cell (p := ⟨b, off, none⟩) hb).trans HC0.out)))
        all_goals
          clear H1 H2 H3 H4 H5 H6 H7
          go_wp2
          go_loopw [84] (fun i wi => ∃ j : Nat, j ≤ len' ∧ i = .int .i64 j ∧ Below w.heap.size w wi) (fun i _ => len' - (intOf i).toNat)
          case atStart => exact ⟨0, Nat.zero_le _, rfl, hA⟩
          case round =>
            obtain ⟨j, hj, rfl, hbi⟩ := hrel
            have hszi := hbi.size
            by_cases hgo : j < len' ∧ j ≠ 12
            · obtain ⟨hlt2, h12⟩ := hgo
              have h12' : ((j : Int) == 12) = false := by rw [beq_eq_false_iff_ne]; omega
              clear h12
              obtain ⟨b2, off2, c, rfl, c2, hc1, hc2⟩ := (HT.out.below hbi).get hlt2
              have HLi : Hid (LibOk wr) := HL.out.below hbi h7
              have G1 := Lib.hid (next_any s c wr hs32 HLi.out.tz (by omega))
              have G2 := Lib.hid (fun W => rnext_any s c W)
              have G3 := Lib.hid (fun W => has_any s c W hs32)
              have G4 := Lib.hid (fun W => rhas_any s c W)
              generalize hasN s c = hb1 at *
              have hnx : ∃ (x : Int) (y : Bool), nextV s c = .tuple #[.int .i64 x, .bool y] := by
                unfold nextV
                cases nextN s c with
                | some x => exact ⟨x, true, rfl⟩
                | none => exact ⟨0, false, rfl⟩
              obtain ⟨x, y, hnx⟩ := hnx
              rw [hnx] at G1 G2
              clear hnx
              go_wp2_with (first | (go_at_call 20; refine G1.out.mono ?_; rintro e u2 ⟨rfl, hd2⟩) | (go_at_call 34; refine (G2.out _).mono ?_; rintro e u3 ⟨rfl, hd3⟩) | (go_at_call 14; refine (G3.out _).mono ?_; rintro e w' ⟨rfl, rfl⟩) | (go_at_call 31; refine (G4.out _).mono ?_; rintro e w' ⟨rfl, rfl⟩))
              go_roundw
              case rel => exact ⟨j + 1, by omega, by go_num, chainB6 (chainB6 hbi hd2 hszi) hd3 (Nat.le_trans hszi hd2.size)⟩
              case measure => simp [intOf]; omega
            · by_cases hlt2 : j < len'
              · have h12' : ((j : Int) == 12) = true := by rw [beq_iff_eq]; omega
                clear hgo
                obtain ⟨b2, off2, c, rfl, c2, hc1, hc2⟩ := (HT.out.below hbi).get hlt2
                go_wp2
                go_roundw
                case rel => exact ⟨k + 1, by omega, by go_num, hbi⟩
                case measure => simp [intOf]; omega
              · have e : j = len' := by omega
                clear hgo
                subst e
                go_wp2
                go_roundw
                case rel => exact ⟨k + 1, by omega, by go_num, hbi⟩
                case measure => simp [intOf]; omega
    · have e : k = len := by omega
      subst e
      go_wp2
      go_ret
      exact ⟨rfl, hbr⟩

end Go.Proofs.YtglndonfmmbnhaaDoor
