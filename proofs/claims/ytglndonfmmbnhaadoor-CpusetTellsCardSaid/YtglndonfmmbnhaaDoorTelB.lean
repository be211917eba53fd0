/-
  The document's answers, on: Within, Next.
-/
import Derived.Test.YtglndonfmmbnhaaDoorTelA
namespace Go.Proofs.YtglndonfmmbnhaaDoor
open Go.RowKit

theorem chainB6 {B : Nat} {w a b : World} (h : Below B w a) (k : Below a.heap.size a b) (hB : B ≤ a.heap.size) : Below B w b := h.trans (k.mono hB)

theorem lowN_testBit (s i : Nat) : (lowN s).testBit i = (s.testBit i && decide (i < 8)) := by
  unfold lowN
  rw [Nat.testBit_and, show (255 : Nat) = 2 ^ 8 - 1 from rfl, Nat.testBit_two_pow_sub_one]

theorem within_iff (s t : Nat) (ht : t < 4294967296) : withinN s t = true ↔ ∀ c, c ∈ listN (lowN s) → hasN t (c : Int) = true := by
  have hneg : ∀ i, (4294967295 - t).testBit i = (decide (i < 32) && !t.testBit i) := fun i => by
    have h := Nat.testBit_two_pow_sub_succ (n := 32) ht i
    rwa [show 2 ^ 32 - (t + 1) = 4294967295 - t from by omega] at h
  unfold withinN
  rw [beq_iff_eq]
  constructor
  · intro h c hc
    obtain ⟨hc8, hcb⟩ := List.mem_filter.1 hc
    have h8 : c < 8 := List.mem_range.1 hc8
    rw [has_testBit t c h8]
    have hb : (lowN s &&& (4294967295 - t)).testBit c = false := by rw [h, Nat.zero_testBit]
    rw [Nat.testBit_and, hneg, hcb] at hb
    have h32 : c < 32 := by omega
    simpa [h32] using hb
  · intro h
    apply Nat.eq_of_testBit_eq
    intro i
    rw [Nat.testBit_and, hneg, Nat.zero_testBit]
    cases hl : (lowN s).testBit i with
    | false => rfl
    | true =>
      have hl' := hl
      rw [lowN_testBit] at hl'
      have h8 : i < 8 := by simp at hl'; exact hl'.2
      have hm : i ∈ listN (lowN s) := List.mem_filter.2 ⟨List.mem_range.2 h8, hl⟩
      have := h i hm
      rw [has_testBit t i h8] at this
      simp [this]

/-- The cells of a row of numbers of a set. -/
theorem ints_at {w : World} {v : Value} {s : Nat} (h : NumsIs w v (intsL s)) :
    ∃ (a : Option Addr) (cap : Nat), v = .slice a (listN (lowN s)).length cap ∧ ∀ i, i < (listN (lowN s)).length → ∃ b, a = some ⟨b, 0, none⟩ ∧ b < w.heap.size ∧ w.cell? ⟨b, i, none⟩ = some (.int .i64 (((listN (lowN s)).getD i 0 : Nat) : Int)) := by
  obtain ⟨a, cap, hv, -, hc⟩ := h
  refine ⟨a, cap, by rw [hv]; unfold intsL; rw [List.length_map], fun i hi => ?_⟩
  rcases hc with h0 | ⟨b, ha, hb, hc⟩
  · unfold intsL at h0
    rw [List.map_eq_nil_iff] at h0
    rw [h0] at hi
    simp at hi
  · refine ⟨b, ha, hb, ?_⟩
    rw [hc i (by unfold intsL; rw [List.length_map]; exact hi)]
    unfold intsL
    simp [hi]

set_option maxRecDepth 100000 in
set_option maxHeartbeats 2000000 in
theorem rwithin_any (s t : Nat) (w : World) (ht : t < 4294967296) :
    Calls Tryd.prog 33 #[.int .u32 s, .int .u32 t] w fun e w' => e = .returned (.bool (withinN s t)) ∧ Below w.heap.size w w' := by
  have HW := Lib.hid (within_iff s t ht)
  have hl8 := listN_len (lowN s)
  generalize hv : withinN s t = res at HW ⊢
  clear hv
  go_enter Tryd.func33, Tryd.ntmps33
  go_wp2_with (go_at_call 32; refine (rlist_any s _).mono ?_; rintro e w2 ⟨v, rfl, hn, hb2⟩; refine Hid.out ?_)
  obtain ⟨a, cap, rfl, hc⟩ := ints_at hn
  have HC := Lib.hid hc
  clear hc hn
  generalize hl : listN (lowN s) = l at *
  clear hl
  refine Lib.hid ?_
  go_wp2
  go_loopw [10] (fun i wr => ∃ k : Nat, k ≤ l.length ∧ i = .int .i64 k ∧ wr = w2 ∧ Hid (∀ j, j < k → hasN t ((l.getD j 0 : Nat) : Int) = true)) (fun i _ => l.length - (intOf i).toNat)
  case atStart => exact ⟨0, Nat.zero_le _, rfl, rfl, fun j hj => absurd hj (Nat.not_lt_zero _)⟩
  case round =>
    obtain ⟨k, hk, rfl, rfl, HP⟩ := hrel
    by_cases hlt : k < l.length
    · obtain ⟨b, rfl, hb, hck⟩ := HC.out k hlt
      have hh := rhas_any t ((l.getD k 0 : Nat) : Int)
      cases hx : hasN t ((l.getD k 0 : Nat) : Int) with
      | true =>
        rw [hx] at hh
        have HPn : Hid (∀ j, j < k + 1 → hasN t ((l.getD j 0 : Nat) : Int) = true) := fun j hj => by
          by_cases e : j = k
          · subst e; exact hx
          · exact HP.out j (by omega)
        have HH := Lib.hid hh
        clear hh hx
        generalize ((l.getD k 0 : Nat) : Int) = c at *
        go_wp2_with (go_at_call 31; refine (HH.out _).mono ?_; rintro e w' ⟨rfl, rfl⟩)
        go_roundw
        case rel => exact ⟨k + 1, by omega, by go_num, trivial, HPn⟩
        case measure => simp [intOf]; omega
      | false =>
        rw [hx] at hh
        have hr : res = false := by
          rw [Bool.eq_false_iff]
          intro h
          have := HW.out.1 h (l.getD k 0) (by simp [hlt])
          rw [hx] at this
          cases this
        have HR := Lib.hid hr
        have HH := Lib.hid hh
        clear hh hx hr
        generalize ((l.getD k 0 : Nat) : Int) = c at *
        go_wp2_with (go_at_call 31; refine (HH.out _).mono ?_; rintro e w' ⟨rfl, rfl⟩)
        go_ret
        exact ⟨by rw [HR.out]; rfl, hb2⟩
    · have hr : res = true := HW.out.2 fun c hc => by
        obtain ⟨j, hj, he⟩ := List.getElem_of_mem hc
        have := HP.out j (by omega)
        rwa [show l.getD j 0 = c from by simp [hj, he]] at this
      have HR := Lib.hid hr
      clear hr
      go_wp2
      go_ret
      exact ⟨by rw [HR.out]; rfl, hb2⟩

set_option maxRecDepth 100000 in
set_option maxHeartbeats 2000000 in
theorem rnext_any (s : Nat) (after : Int) (w : World) :
    Calls Tryd.prog 34 #[.int .u32 s, .int .i64 after] w fun e w' => e = .returned (nextV s after) ∧ Below w.heap.size w w' := by
  have hl8 := listN_len (lowN s)
  have HN : Hid ((∀ y ∈ listN (lowN s), ((y : Nat) : Int) ≤ after) → nextV s after = .tuple #[.int .i64 0, .bool false]) := fun h => by unfold nextV; rw [nextN_none h]
  have HS : Hid (∀ p x, p ++ [x] <+: listN (lowN s) → (∀ y ∈ p, ((y : Nat) : Int) ≤ after) → after < ((x : Nat) : Int) → nextV s after = .tuple #[.int .i64 x, .bool true]) := fun p x h1 h2 h3 => by unfold nextV; rw [nextN_some h1 h2 h3]
  generalize nextV s after = res at HN HS ⊢
  go_enter Tryd.func34, Tryd.ntmps34
  go_wp2_with (go_at_call 32; refine (rlist_any s _).mono ?_; rintro e w2 ⟨v, rfl, hn, hb2⟩; refine Hid.out ?_)
  obtain ⟨a, cap, rfl, hc⟩ := ints_at hn
  have HC := Lib.hid hc
  clear hc hn
  generalize hl : listN (lowN s) = l at *
  clear hl
  refine Lib.hid ?_
  go_wp2
  go_loopw [11] (fun i wr => ∃ k : Nat, k ≤ l.length ∧ i = .int .i64 k ∧ wr = w2 ∧ Hid (∀ j, j < k → ((l.getD j 0 : Nat) : Int) ≤ after)) (fun i _ => l.length - (intOf i).toNat)
  case atStart => exact ⟨0, Nat.zero_le _, rfl, rfl, fun j hj => absurd hj (Nat.not_lt_zero _)⟩
  case round =>
    obtain ⟨k, hk, rfl, rfl, HP⟩ := hrel
    by_cases hlt : k < l.length
    · obtain ⟨b, rfl, hb, hck⟩ := HC.out k hlt
      by_cases hx : after < ((l.getD k 0 : Nat) : Int)
      · have hr : res = .tuple #[.int .i64 (l.getD k 0 : Nat), .bool true] := HS.out (l.take k) (l.getD k 0) (by
            have e : l.take k ++ [l.getD k 0] = l.take (k + 1) := by rw [List.take_add_one]; simp [hlt]
            rw [e]; exact List.take_prefix _ _) (fun y hy => by
            obtain ⟨j, hj, he⟩ := List.getElem_of_mem hy
            have hjk : j < k := by rw [List.length_take] at hj; omega
            have hjl : j < l.length := by omega
            have := HP.out j hjk
            rwa [show l.getD j 0 = y from by rw [← he]; simp [hjl]] at this) hx
        have HR := Lib.hid hr
        clear hr
        generalize ((l.getD k 0 : Nat) : Int) = c at *
        go_wp2
        go_ret2
        exact ⟨by rw [HR.out]; rfl, hb2⟩
      · have hx' : ((l.getD k 0 : Nat) : Int) ≤ after := by omega
        have HPn : Hid (∀ j, j < k + 1 → ((l.getD j 0 : Nat) : Int) ≤ after) := fun j hj => by
          by_cases e : j = k
          · subst e; exact hx'
          · exact HP.out j (by omega)
        clear hx
        generalize ((l.getD k 0 : Nat) : Int) = c at *
        go_wp2
        go_roundw
        case rel => exact ⟨k + 1, by omega, by go_num, trivial, HPn⟩
        case measure => simp [intOf]; omega
    · have hr : res = .tuple #[.int .i64 0, .bool false] := HN.out fun y hy => by
        obtain ⟨j, hj, he⟩ := List.getElem_of_mem hy
        have := HP.out j (by omega)
        rwa [show l.getD j 0 = y from by rw [← he]; simp [hj]] at this
      have HR := Lib.hid hr
      clear hr
      go_wp2
      go_ret2
      exact ⟨by rw [HR.out]; rfl, hb2⟩

end Go.Proofs.YtglndonfmmbnhaaDoor
