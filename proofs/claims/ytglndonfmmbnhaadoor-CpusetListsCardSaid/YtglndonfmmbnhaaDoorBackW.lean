/-
  The walk of the law CpusetBack.
-/
import Derived.Test.YtglndonfmmbnhaaDoorCpsK
namespace Go.Proofs.YtglndonfmmbnhaaDoor
open Go.RowKit

theorem with_fact : ∀ (s : Fin 256) (c : Fin 8), hasN s.val (c.val : Int) = false → orN s.val (c.val : Int) < 256 ∧ hasN (orN s.val (c.val : Int)) (c.val : Int) = true ∧ offN (orN s.val (c.val : Int)) (c.val : Int) = s.val ∧
    Lib.onesCount (lowN (orN s.val (c.val : Int))) = Lib.onesCount (lowN s.val) + 1 ∧ Lib.onesCount (lowN s.val) ≤ 8 ∧ withinN s.val (orN s.val (c.val : Int)) = true ∧ withinN (orN s.val (c.val : Int)) s.val = false := by decide +kernel

theorem without_fact : ∀ (s : Fin 256) (c : Fin 8), hasN s.val (c.val : Int) = true → offN s.val (c.val : Int) < 256 ∧ hasN (offN s.val (c.val : Int)) (c.val : Int) = false ∧ orN (offN s.val (c.val : Int)) (c.val : Int) = s.val ∧ withinN (offN s.val (c.val : Int)) s.val = true := by decide +kernel

theorem with_back (s : Nat) (c : Int) (hs : s < 256) (h0 : 0 ≤ c) (h1 : c < 8) (hh : hasN s c = false) :
    ∃ t n : Nat, n ≤ 8 ∧ (∀ w, Calls Tryd.prog 12 #[.int .u32 s, .int .i64 c] w fun e w' => e = .returned (.tuple #[.int .u32 t, .int .i64 0]) ∧ w = w') ∧
      (∀ w, Calls Tryd.prog 13 #[.int .u32 s, .int .i64 c] w fun e w' => e = .returned (.tuple #[.int .u32 0, .int .i64 4]) ∧ w = w') ∧
      (∀ w, Calls Tryd.prog 13 #[.int .u32 t, .int .i64 c] w fun e w' => e = .returned (.tuple #[.int .u32 s, .int .i64 0]) ∧ w = w') ∧
      (∀ w, Calls Tryd.prog 14 #[.int .u32 t, .int .i64 c] w fun e w' => e = .returned (.bool true) ∧ w = w') ∧
      (∀ w, Calls Tryd.prog 15 #[.int .u32 t] w fun e w' => e = .returned (.int .i64 ((n : Int) + 1)) ∧ Below w.heap.size w w') ∧
      (∀ w, Calls Tryd.prog 15 #[.int .u32 s] w fun e w' => e = .returned (.int .i64 n) ∧ Below w.heap.size w w') ∧
      (∀ w, Calls Tryd.prog 16 #[.int .u32 s, .int .u32 t] w fun e w' => e = .returned (.bool true) ∧ w = w') ∧
      (∀ w, Calls Tryd.prog 16 #[.int .u32 t, .int .u32 s] w fun e w' => e = .returned (.bool false) ∧ w = w') := by
  obtain ⟨k, rfl⟩ := Int.eq_ofNat_of_zero_le h0
  obtain ⟨f1, f2, f3, f4, f5, f6, f7⟩ := with_fact ⟨s, hs⟩ ⟨k, by omega⟩ hh
  simp only at f1 f2 f3 f4 f5 f6 f7
  refine ⟨orN s k, Lib.onesCount (lowN s), f5, fun w => with_ok s k w hs h0 h1 hh, fun w => without_none s k w hs h0 h1 hh, fun w => ?_, fun w => ?_, fun w => ?_, fun w => count_any s w (by omega), fun w => ?_, fun w => ?_⟩
  · have h := without_ok (orN s k) k w f1 h0 h1 f2; rwa [f3] at h
  · have h := has_any (orN s k) k w (by omega); rwa [f2] at h
  · have h := count_any (orN s k) w (by omega); rwa [f4] at h
  · have h := within_any s (orN s k) w (by omega) (by omega); rwa [f6] at h
  · have h := within_any (orN s k) s w (by omega) (by omega); rwa [f7] at h

theorem without_back (s : Nat) (c : Int) (hs : s < 256) (h0 : 0 ≤ c) (h1 : c < 8) (hh : hasN s c = true) :
    ∃ t : Nat, (∀ w, Calls Tryd.prog 12 #[.int .u32 s, .int .i64 c] w fun e w' => e = .returned (.tuple #[.int .u32 0, .int .i64 5]) ∧ w = w') ∧
      (∀ w, Calls Tryd.prog 13 #[.int .u32 s, .int .i64 c] w fun e w' => e = .returned (.tuple #[.int .u32 t, .int .i64 0]) ∧ w = w') ∧
      (∀ w, Calls Tryd.prog 12 #[.int .u32 t, .int .i64 c] w fun e w' => e = .returned (.tuple #[.int .u32 s, .int .i64 0]) ∧ w = w') ∧
      (∀ w, Calls Tryd.prog 14 #[.int .u32 t, .int .i64 c] w fun e w' => e = .returned (.bool false) ∧ w = w') ∧
      (∀ w, Calls Tryd.prog 16 #[.int .u32 t, .int .u32 s] w fun e w' => e = .returned (.bool true) ∧ w = w') := by
  obtain ⟨k, rfl⟩ := Int.eq_ofNat_of_zero_le h0
  obtain ⟨f1, f2, f3, f4⟩ := without_fact ⟨s, hs⟩ ⟨k, by omega⟩ hh
  simp only at f1 f2 f3 f4
  refine ⟨offN s k, fun w => with_there s k w hs h0 h1 hh, fun w => without_ok s k w hs h0 h1 hh, fun w => ?_, fun w => ?_, fun w => ?_⟩
  · have h := with_ok (offN s k) k w f1 h0 h1 f2; rwa [f3] at h
  · have h := has_any (offN s k) k w (by omega); rwa [f2] at h
  · have h := within_any (offN s k) s w (by omega) (by omega); rwa [f4] at h

theorem chainB {B : Nat} {w a b : World} (h : Below B w a) (k : Below a.heap.size a b) (hB : B ≤ a.heap.size) : Below B w b := h.trans (k.mono hB)

set_option maxRecDepth 100000 in
set_option maxHeartbeats 4000000 in
theorem back_some (b off len cap : Nat) (S : Nat → Nat) (c : Int) (w : World) (hL : LibOk w) (hlen : len ≤ 9223372036854775807)
    (hS : ∀ i, i < len → w.cell? ⟨b, off + i, none⟩ = some (.int .u32 (S i))) (hlt : ∀ i, i < len → S i < 4294967296) (hb : b < w.heap.size) :
    Calls Tryd.prog 3 #[.slice (some ⟨b, off, none⟩) len cap, .int .i64 c] w fun e w' => e = .returned (.bool true) ∧ Below w.heap.size w w' := by
  have HL := Lib.hid hL
  have HS := Lib.hid hS
  have HLT := Lib.hid hlt
  clear hL hS hlt
  go_enter Tryd.func3, Tryd.ntmps3
  go_wp2_with (go_at_call 10; refine (wakes_yes w HL.out).mono ?_; rintro e w1 ⟨rfl, hb1⟩)
  go_loopw [19] (fun i wr => ∃ k : Nat, k ≤ len ∧ i = .int .i64 k ∧ Below w.heap.size w wr) (fun i _ => len - (intOf i).toNat)
  case atStart => exact ⟨0, Nat.zero_le _, rfl, hb1⟩
  case round =>
    obtain ⟨k, hk, rfl, hbr⟩ := hrel
    by_cases hlt : k < len
    · have c0 : wr.cell? ⟨b, off + k, none⟩ = some (.int .u32 (S k)) := (hbr.cell (p := ⟨b, off + k, none⟩) hb).trans (HS.out k hlt)
      have hs32 := HLT.out k hlt
      have hsz := hbr.size
      by_cases h20 : k = 20
      · have h20' : ((k : Int) == 20) = true := by rw [beq_iff_eq]; omega
        clear h20
        go_wp2
        go_ret
        exact ⟨rfl, hbr⟩
      · have h20' : ((k : Int) == 20) = false := by rw [beq_eq_false_iff_ne]; omega
        clear h20
        generalize S k = s at c0 hs32
        by_cases hs : s < 256
        · by_cases hc : 0 ≤ c ∧ c < 8
          · obtain ⟨hc0, hc1⟩ := hc
            cases hh : hasN s c with
            | false =>
              obtain ⟨t, n, hn, q1, q2, q3, q4, q5, q6, q7, q8⟩ := with_back s c hs hc0 hc1 hh
              have Q1 := Lib.hid q1
              have Q2 := Lib.hid q2
              have Q3 := Lib.hid q3
              have Q4 := Lib.hid q4
              have Q5 := Lib.hid q5
              have Q6 := Lib.hid q6
              have Q7 := Lib.hid q7
              have Q8 := Lib.hid q8
              clear q1 q2 q3 q4 q5 q6 q7 q8 hh
              go_wp2_with (first | (go_at_call 11; refine (check_ok s _ hs).mono ?_; rintro e w' ⟨rfl, rfl⟩) | (go_at_call 12; ((with_reducible refine (Q1.out _).mono ?_); rintro e w' ⟨rfl, rfl⟩)) | (go_at_call 13; ((with_reducible refine (Q2.out _).mono ?_); rintro e w' ⟨rfl, rfl⟩)) | (go_at_call 13; ((with_reducible refine (Q3.out _).mono ?_); rintro e w' ⟨rfl, rfl⟩)) | (go_at_call 14; ((with_reducible refine (Q4.out _).mono ?_); rintro e w' ⟨rfl, rfl⟩)) | (go_at_call 15; ((with_reducible refine (Q5.out _).mono ?_); rintro e w2 ⟨rfl, hb2⟩)) | (go_at_call 15; ((with_reducible refine (Q6.out _).mono ?_); rintro e w3 ⟨rfl, hb3⟩)) | (go_at_call 16; ((with_reducible refine (Q7.out _).mono ?_); rintro e w' ⟨rfl, rfl⟩)) | (go_at_call 16; ((with_reducible refine (Q8.out _).mono ?_); rintro e w' ⟨rfl, rfl⟩)))
              go_roundw
              case rel => exact ⟨k + 1, by omega, by go_num, chainB (chainB hbr hb2 hsz) hb3 (Nat.le_trans hsz hb2.size)⟩
              case measure => simp [intOf]; omega
            | true =>
              obtain ⟨t, q1, q2, q3, q4, q5⟩ := without_back s c hs hc0 hc1 hh
              have Q1 := Lib.hid q1
              have Q2 := Lib.hid q2
              have Q3 := Lib.hid q3
              have Q4 := Lib.hid q4
              have Q5 := Lib.hid q5
              clear q1 q2 q3 q4 q5 hh
              go_wp2_with (first | (go_at_call 11; refine (check_ok s _ hs).mono ?_; rintro e w' ⟨rfl, rfl⟩) | (go_at_call 12; ((with_reducible refine (Q1.out _).mono ?_); rintro e w' ⟨rfl, rfl⟩)) | (go_at_call 13; ((with_reducible refine (Q2.out _).mono ?_); rintro e w' ⟨rfl, rfl⟩)) | (go_at_call 12; ((with_reducible refine (Q3.out _).mono ?_); rintro e w' ⟨rfl, rfl⟩)) | (go_at_call 14; ((with_reducible refine (Q4.out _).mono ?_); rintro e w' ⟨rfl, rfl⟩)) | (go_at_call 16; ((with_reducible refine (Q5.out _).mono ?_); rintro e w' ⟨rfl, rfl⟩)))
              go_roundw
              case rel => exact ⟨k + 1, by omega, by go_num, hbr⟩
              case measure => simp [intOf]; omega
          · have hc' : c < 0 ∨ 8 ≤ c := by omega
            have HC := Lib.hid hc'
            clear hc hc'
            go_wp2_with (first | (go_at_call 11; refine (check_ok s _ hs).mono ?_; rintro e w' ⟨rfl, rfl⟩) | (go_at_call 12; refine (with_cpu s c _ hs HC.out).mono ?_; rintro e w' ⟨rfl, rfl⟩) | (go_at_call 13; refine (without_cpu s c _ hs HC.out).mono ?_; rintro e w' ⟨rfl, rfl⟩))
            go_roundw
            case rel => exact ⟨k + 1, by omega, by go_num, hbr⟩
            case measure => simp [intOf]; omega
        · have hs' : 256 ≤ s := by omega
          clear hs
          go_wp2_with (go_at_call 11; refine (check_no s _ hs32 hs').mono ?_; rintro e w' ⟨rfl, rfl⟩)
          go_roundw
          case rel => exact ⟨k + 1, by omega, by go_num, hbr⟩
          case measure => simp [intOf]; omega
    · have e : k = len := by omega
      subst e
      go_wp2
      go_ret
      exact ⟨rfl, hbr⟩

theorem back_empty (a : Option Addr) (cap : Nat) (c : Int) (w : World) (hL : LibOk w) :
    Calls Tryd.prog 3 #[.slice a 0 cap, .int .i64 c] w fun e w' => e = .returned (.bool true) ∧ Below w.heap.size w w' := by
  have HL := Lib.hid hL
  clear hL
  go_enter Tryd.func3, Tryd.ntmps3
  go_wp2_with (go_at_call 10; refine (wakes_yes w HL.out).mono ?_; rintro e w1 ⟨rfl, hb1⟩)
  go_loopw [19] (fun i wr => i = .int .i64 0 ∧ Below w.heap.size w wr) (fun _ _ => 0)
  case atStart => exact ⟨rfl, hb1⟩
  case round =>
    obtain ⟨rfl, hbr⟩ := hrel
    go_wp2
    go_ret
    exact ⟨rfl, hbr⟩

end Go.Proofs.YtglndonfmmbnhaaDoor
