/-
  The walk of the law CpusetLists.
-/
import Derived.Test.YtglndonfmmbnhaaDoorBackW
import Derived.Test.YtglndonfmmbnhaaDoorShelfO
namespace Go.Proofs.YtglndonfmmbnhaaDoor
open Go.RowKit

/-- The number that Next is asked from at the list's place k. -/
def prevN (xs : List Nat) (k : Nat) : Int := if k = 0 then -1 else ((xs.getD (k - 1) 0 : Nat) : Int)
def intsN (xs : List Nat) : Array Int := (xs.map fun x : Nat => (x : Int)).toArray

theorem list_fact : ∀ s : Fin 256, lowN s.val = s.val ∧ (listN s.val).length ≤ 8 ∧ Lib.onesCount s.val = (listN s.val).length ∧ ofN (fun i => ((listN s.val).getD i 0 : Int)) (listN s.val).length = s.val ∧
    (∀ i : Fin 8, (listN s.val).getD i.val 0 < 8) ∧ Lib.downOK (fun x y => decide (x < y)) (intsN (listN s.val)) ((intsN (listN s.val)).size - 1) = true := by decide +kernel
theorem next_fact : ∀ s : Fin 256, (∀ k : Fin 8, k.val < (listN s.val).length → nextN s.val (prevN (listN s.val) k.val) = some ((listN s.val).getD k.val 0) ∧ hasN s.val ((listN s.val).getD k.val 0 : Nat) = true) ∧
    nextN s.val (prevN (listN s.val) (listN s.val).length) = none := by decide +kernel

theorem getD_at (xs : List Nat) (i : Nat) (hi : i < xs.length) : xs[i]? = some (xs.getD i 0) := by simp [hi]

theorem lists_of (s : Nat) (hs : s < 256) (b cap : Nat) (W : World) (hc : ∀ i, i < (listN s).length → W.cell? ⟨b, i, none⟩ = some (.int .i64 ((listN s).getD i 0 : Nat))) :
    Calls Tryd.prog 18 #[.slice (some ⟨b, 0, none⟩) (listN s).length cap] W fun e w' => e = .returned (.tuple #[.int .u32 s, .int .i64 0]) ∧ W = w' := by
  obtain ⟨-, f2, -, f4, f5, -⟩ := list_fact ⟨s, hs⟩
  simp only at f2 f4 f5
  have h := of_ok b 0 (listN s).length cap (fun i => ((listN s).getD i 0 : Nat)) W (by omega) (fun i hi => by rw [Nat.zero_add]; exact hc i hi) (fun i hi => by have := f5 ⟨i, by omega⟩; simp only at this; omega)
  rw [f4] at h
  exact h

theorem lists_sorted (s : Nat) (hs : s < 256) (b cap : Nat) (W : World) (hc : ∀ i, i < (listN s).length → W.cell? ⟨b, i, none⟩ = some (.int .i64 ((listN s).getD i 0 : Nat))) :
    Calls Tryd.prog 19 #[.slice (some ⟨b, 0, none⟩) (listN s).length cap] W fun e w' => e = .returned (.bool true) ∧ Below W.heap.size W w' := by
  obtain ⟨-, f2, -, -, -, f6⟩ := list_fact ⟨s, hs⟩
  simp only at f2 f6
  have hz : (intsN (listN s)).size = (listN s).length := by simp [intsN]
  have h := Tryd.slices_IsSorted_int b 0 cap (intsN (listN s)) W (fun i hi => by
    rw [hz] at hi
    rw [Nat.zero_add, hc i hi]
    simp [intsN, hi]) (by rw [hz]; omega)
  rw [f6, hz] at h
  refine h.mono fun e w' hx => ?_
  obtain ⟨he, q, rfl⟩ := hx
  exact ⟨he, below_drewN (Below.refl _ _) q⟩

theorem lists_next (s : Nat) (hs : s < 256) (k : Nat) (hk : k < (listN s).length) (W : World) (hT : TzTab W) (h0 : 0 < W.heap.size) :
    Calls Tryd.prog 20 #[.int .u32 s, .int .i64 (prevN (listN s) k)] W fun e w' => e = .returned (.tuple #[.int .i64 ((listN s).getD k 0 : Nat), .bool true]) ∧ Below W.heap.size W w' := by
  have f2 := (list_fact ⟨s, hs⟩).2.1
  simp only at f2
  have f := ((next_fact ⟨s, hs⟩).1 ⟨k, by omega⟩ hk).1
  simp only at f
  have h := next_any s (prevN (listN s) k) W (by omega) hT h0
  unfold nextV at h
  rw [f] at h
  exact h

theorem lists_end (s : Nat) (hs : s < 256) (W : World) (hT : TzTab W) (h0 : 0 < W.heap.size) :
    Calls Tryd.prog 20 #[.int .u32 s, .int .i64 (prevN (listN s) (listN s).length)] W fun e w' => e = .returned (.tuple #[.int .i64 0, .bool false]) ∧ Below W.heap.size W w' := by
  have f := (next_fact ⟨s, hs⟩).2
  simp only at f
  have h := next_any s (prevN (listN s) (listN s).length) W (by omega) hT h0
  unfold nextV at h
  rw [f] at h
  exact h

theorem lists_has (s : Nat) (hs : s < 256) (k : Nat) (hk : k < (listN s).length) (W : World) :
    Calls Tryd.prog 14 #[.int .u32 s, .int .i64 ((listN s).getD k 0 : Nat)] W fun e w' => e = .returned (.bool true) ∧ W = w' := by
  have f2 := (list_fact ⟨s, hs⟩).2.1
  simp only at f2
  have f := ((next_fact ⟨s, hs⟩).1 ⟨k, by omega⟩ hk).2
  simp only at f
  have h := has_any s ((listN s).getD k 0 : Nat) W (by omega)
  rwa [f] at h

theorem lists_count (s : Nat) (hs : s < 256) (W : World) :
    Calls Tryd.prog 15 #[.int .u32 s] W fun e w' => e = .returned (.int .i64 (listN s).length) ∧ Below W.heap.size W w' := by
  obtain ⟨f1, -, f3, -⟩ := list_fact ⟨s, hs⟩
  simp only at f1 f3
  have h := count_any s W (by omega)
  rw [f1, f3] at h
  exact h

set_option maxRecDepth 100000 in
set_option maxHeartbeats 4000000 in
theorem lists_some (b off len cap : Nat) (S : Nat → Nat) (w : World) (hL : LibOk w) (hlen : len ≤ 9223372036854775807)
    (hS : ∀ i, i < len → w.cell? ⟨b, off + i, none⟩ = some (.int .u32 (S i))) (hlt : ∀ i, i < len → S i < 4294967296) (hb : b < w.heap.size) :
    Calls Tryd.prog 4 #[.slice (some ⟨b, off, none⟩) len cap] w fun e w' => e = .returned (.bool true) ∧ Below w.heap.size w w' := by
  have HL := Lib.hid hL
  have HS := Lib.hid hS
  have HLT := Lib.hid hlt
  have h7 := hL.big
  clear hL hS hlt
  go_enter Tryd.func4, Tryd.ntmps4
  go_wp2_with (go_at_call 10; refine (wakes_yes w HL.out).mono ?_; rintro e w1 ⟨rfl, hb1⟩)
  go_loopw [19] (fun i wr => ∃ k : Nat, k ≤ len ∧ i = .int .i64 k ∧ Below w.heap.size w wr) (fun i _ => len - (intOf i).toNat)
  case atStart => exact ⟨0, Nat.zero_le _, rfl, hb1⟩
  case round =>
    obtain ⟨k, hk, rfl, hbr⟩ := hrel
    by_cases hlt : k < len
    · have c0 : wr.cell? ⟨b, off + k, none⟩ = some (.int .u32 (S k)) := (hbr.cell (p := ⟨b, off + k, none⟩) hb).trans (HS.out k hlt)
      have hs32 := HLT.out k hlt
      have hsz := hbr.size
      by_cases h20 : k = 20
      · have h20' : ((k : Int) == 20) = true := by rw [beq_iff_eq]; omega
        clear h20
        go_wp2
        go_ret
        exact ⟨rfl, hbr⟩
      · have h20' : ((k : Int) == 20) = false := by rw [beq_eq_false_iff_ne]; omega
        clear h20
        generalize S k = s at c0 hs32
        by_cases hs : s < 256
        · have HLr : Hid (LibOk wr) := HL.out.below hbr h7
          have hli := list_any s wr hs32 HLr.out.tz (by omega)
          rw [(list_fact ⟨s, hs⟩).1] at hli
          simp only at hli
          have HLI := Lib.hid hli
          clear hli
          go_wp2_with (first | (go_at_call 11; refine (check_ok s _ hs).mono ?_; rintro e w' ⟨rfl, rfl⟩) | (go_at_call 17; refine HLI.out.mono ?_; rintro e w2 ⟨v, rfl, hv, hb2⟩; refine Hid.out ?_))
          have hb02 : Below w.heap.size w w2 := hbr.trans (hb2.mono hsz)
          rcases hv with ⟨hxs, rfl⟩ | ⟨bl, cl, rfl, hbl, hne, hcl⟩
          · have hs0 : s = 0 := by
              have f4 := (list_fact ⟨s, hs⟩).2.2.2.1
              simp only at f4
              rw [hxs] at f4
              exact f4.symm
            subst hs0
            have HCO := Lib.hid (lists_count 0 hs)
            have HE : Hid (∀ W, TzTab W → 0 < W.heap.size → Calls Tryd.prog 20 #[.int .u32 (0 : Nat), .int .i64 (-1)] W fun e w' => e = .returned (.tuple #[.int .i64 0, .bool false]) ∧ Below W.heap.size W w') := fun W hT h0 => lists_end 0 hs W hT h0
            clear hxs
            refine Lib.hid ?_
            go_wp2_with (first | (go_at_call 18; refine (of_empty none 0 _).mono ?_; rintro e w' ⟨rfl, rfl⟩) | (go_at_call 19; refine (Tryd.slices_IsSorted_none none 0 _).mono ?_; rintro e w' ⟨rfl, rfl⟩) | (go_at_call 15; refine (HCO.out _).mono ?_; rintro e w4 ⟨rfl, hb4⟩))
            have hB4 : Below w.heap.size w w4 := hb02.trans (hb4.mono hb02.size)
            go_loopw [8, 57] (fun a i wi => a = .int .i64 (-1) ∧ i = .int .i64 0 ∧ Below w.heap.size w wi) (fun _ _ _ => 0)
            case atStart => exact ⟨rfl, rfl, hB4⟩
            case round =>
              obtain ⟨rfl, rfl, hBi⟩ := hrel
              have HLi : Hid (LibOk wr) := HL.out.below hBi h7
              have hsz2 := hBi.size
              go_wp2_with (go_at_call 20; refine (HE.out _ HLi.out.tz (by omega)).mono ?_; rintro e w5 ⟨rfl, hb5⟩)
              go_roundw
              case rel => exact ⟨k + 1, by omega, by go_num, hBi.trans (hb5.mono hsz2)⟩
              case measure => simp [intOf]; omega
          · have hcl' : ∀ i, i < (listN s).length → w2.cell? ⟨bl, i, none⟩ = some (.int .i64 ((listN s).getD i 0 : Nat)) := fun i hi => hcl i _ (getD_at _ i hi)
            have hbl2 : bl < w2.heap.size := cell_lt (hcl' 0 (List.length_pos_iff.2 hne))
            have HOF := Lib.hid (lists_of s hs bl cl w2 hcl')
            have HSO := Lib.hid (lists_sorted s hs bl cl w2 hcl')
            have HCO := Lib.hid (lists_count s hs)
            have HNE := Lib.hid (lists_next s hs)
            have HEN := Lib.hid (lists_end s hs)
            have HHA := Lib.hid (lists_has s hs)
            have HCL := Lib.hid hcl'
            have hn8 := (list_fact ⟨s, hs⟩).2.1
            simp only at hn8
            have hp0 : prevN (listN s) 0 = -1 := rfl
            have hps : Hid (∀ j, prevN (listN s) (j + 1) = ((listN s).getD j 0 : Nat)) := fun j => rfl
            clear hcl hcl' hne
            generalize hnn : (listN s).length = n at *
            refine Lib.hid ?_
            go_wp2_with (first | (go_at_call 18; refine HOF.out.mono ?_; rintro e w' ⟨rfl, rfl⟩) | (go_at_call 19; refine HSO.out.mono ?_; rintro e w3 ⟨rfl, hb3⟩) | (go_at_call 15; refine (HCO.out _).mono ?_; rintro e w4 ⟨rfl, hb4⟩))
            have hB4 : Below w.heap.size w w4 := (hb02.trans (hb3.mono hb02.size)).trans (hb4.mono (Nat.le_trans hb02.size hb3.size))
            have HCL4 : Hid (∀ i, i < n → w4.cell? ⟨bl, i, none⟩ = some (.int .i64 ((listN s).getD i 0 : Nat))) := fun i hi =>
              (hb4.cell (p := ⟨bl, i, none⟩) (Nat.lt_of_lt_of_le hbl2 hb3.size)).trans ((hb3.cell (p := ⟨bl, i, none⟩) hbl2).trans (HCL.out i hi))
            have hbl4 : bl < w4.heap.size := Nat.lt_of_lt_of_le hbl2 (Nat.le_trans hb3.size hb4.size)
            go_loopw [8, 57] (fun a i wi => ∃ j : Nat, j ≤ n ∧ a = .int .i64 (prevN (listN s) j) ∧ i = .int .i64 j ∧ Below w.heap.size w wi ∧ Hid (∀ i, i < n → wi.cell? ⟨bl, i, none⟩ = some (.int .i64 ((listN s).getD i 0 : Nat))) ∧ bl < wi.heap.size) (fun _ i _ => n - (intOf i).toNat)
            case atStart => exact ⟨0, Nat.zero_le _, by rw [hp0], rfl, hB4, HCL4, hbl4⟩
            case round =>
              obtain ⟨j, hj, rfl, rfl, hBi, HCi, hbli⟩ := hrel
              have HLi : Hid (LibOk wr) := HL.out.below hBi h7
              have h0i : 0 < wr.heap.size := by omega
              by_cases hjn : j < n
              · have cj := HCi.out j hjn
                have hN := HNE.out j hjn wr HLi.out.tz h0i
                have hH := HHA.out j hjn
                have hps1 := hps.out j
                generalize (listN s).getD j 0 = x at *
                generalize prevN (listN s) j = pj at *
                have HN := Lib.hid hN
                have HH := Lib.hid hH
                have HPS := Lib.hid hps1
                clear hN hH hps1
                go_wp2_with (first | (go_at_call 20; refine HN.out.mono ?_; rintro e w5 ⟨rfl, hb5⟩) | (go_at_call 14; refine (HH.out _).mono ?_; rintro e w' ⟨rfl, rfl⟩))
                go_roundw
                case rel => exact ⟨j + 1, by omega, by rw [HPS.out], by go_num, hBi.trans (hb5.mono (by omega)), fun i hi => (hb5.cell (p := ⟨bl, i, none⟩) hbli).trans (HCi.out i hi), Nat.lt_of_lt_of_le hbli hb5.size⟩
                case measure => simp [intOf]; omega
              · obtain rfl : j = n := by omega
                have hE := HEN.out wr HLi.out.tz h0i
                have HE := Lib.hid hE
                clear hE
                generalize prevN (listN s) j = pj at *
                go_wp2_with (go_at_call 20; refine HE.out.mono ?_; rintro e w5 ⟨rfl, hb5⟩)
                go_roundw
                case rel => exact ⟨k + 1, by omega, by go_num, hBi.trans (hb5.mono (by omega))⟩
                case measure => simp [intOf]; omega
        · have hs' : 256 ≤ s := by omega
          clear hs
          go_wp2_with (go_at_call 11; refine (check_no s _ hs32 hs').mono ?_; rintro e w' ⟨rfl, rfl⟩)
          go_roundw
          case rel => exact ⟨k + 1, by omega, by go_num, hbr⟩
          case measure => simp [intOf]; omega
    · have e : k = len := by omega
      subst e
      go_wp2
      go_ret
      exact ⟨rfl, hbr⟩

theorem lists_empty (a : Option Addr) (cap : Nat) (w : World) (hL : LibOk w) :
    Calls Tryd.prog 4 #[.slice a 0 cap] w fun e w' => e = .returned (.bool true) ∧ Below w.heap.size w w' := by
  have HL := Lib.hid hL
  clear hL
  go_enter Tryd.func4, Tryd.ntmps4
  go_wp2_with (go_at_call 10; refine (wakes_yes w HL.out).mono ?_; rintro e w1 ⟨rfl, hb1⟩)
  go_loopw [19] (fun i wr => i = .int .i64 0 ∧ Below w.heap.size w wr) (fun _ _ => 0)
  case atStart => exact ⟨rfl, hb1⟩
  case round =>
    obtain ⟨rfl, hbr⟩ := hrel
    go_wp2
    go_ret
    exact ⟨rfl, hbr⟩

end Go.Proofs.YtglndonfmmbnhaaDoor
