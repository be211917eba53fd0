/-
  Rows of numbers, on: the document's Of where it refuses, SameInts, few, First.
-/
import Derived.Test.YtglndonfmmbnhaaDoorOfA
namespace Go.Proofs.YtglndonfmmbnhaaDoor
open Go.RowKit

set_option maxRecDepth 100000 in
set_option maxHeartbeats 2000000 in
theorem rof_bad (w : World) (v : Value) (xs : List Int) (h : NumsIs w v xs) (hg : goodL xs = false) :
    Calls Tryd.prog 27 #[v] w fun e w' => e = .returned (.tuple #[.int .u32 0, .bool false]) ∧ w = w' := by
  obtain ⟨a, cap, rfl, hl, hc⟩ := h
  have hga := bad_at hg
  generalize hff : (fun i => xs.getD i 0) = f at *
  have hf : ∀ i, xs.getD i 0 = f i := fun i => by rw [← hff]
  have HG : Hid (∃ i, i < xs.length ∧ (f i < 0 ∨ 8 ≤ f i)) := by
    obtain ⟨i, hi, hb⟩ := hga
    exact ⟨i, hi, by rw [← hf]; exact hb⟩
  have HC : Hid (∀ i, i < xs.length → ∃ b, a = some ⟨b, 0, none⟩ ∧ w.cell? ⟨b, i, none⟩ = some (.int .i64 (f i))) := fun i hi => by
    rcases hc with rfl | ⟨b, ha, -, hc⟩
    · simp at hi
    · exact ⟨b, ha, by rw [← hf]; exact hc i hi⟩
  clear hc hga hg hf hff
  generalize xs.length = len at *
  go_enter Tryd.func27, Tryd.ntmps27
  go_wp2
  go_loop [4, 9] (fun s i => ∃ k : Nat, k ≤ len ∧ i = .int .i64 k ∧ s = .int .u32 (ofN f k) ∧ Hid (∀ j, j < k → 0 ≤ f j ∧ f j < 8)) (fun _ i => len - (intOf i).toNat)
  case atStart => exact ⟨0, Nat.zero_le _, rfl, rfl, fun j hj => absurd hj (Nat.not_lt_zero _)⟩
  case round =>
    obtain ⟨k, hk, rfl, rfl, HP⟩ := hrel
    have hlt : k < len := by
      obtain ⟨j, hj, hbj⟩ := HG.out
      by_cases hkj : j < k
      · have := HP.out j hkj; omega
      · omega
    obtain ⟨b, rfl, hck⟩ := HC.out k hlt
    by_cases hbad : f k < 0 ∨ 8 ≤ f k
    · have HBD := Lib.hid hbad
      clear hbad
      generalize f k = c at *
      go_wp2_with (go_at_call 30; refine (cpu_out _ _ HBD.out).mono ?_; rintro e w' ⟨rfl, rfl⟩)
      go_ret2
      exact ⟨rfl, rfl⟩
    · have h0 : 0 ≤ f k := by omega
      have h1 : f k < 8 := by omega
      clear hbad
      have HPn : Hid (∀ j, j < k + 1 → 0 ≤ f j ∧ f j < 8) := fun j hj => by
        by_cases e : j = k
        · subst e; exact ⟨h0, h1⟩
        · exact HP.out j (by omega)
      have hlo := ofN_lt f k
      have hs : ofN f (k + 1) = ofN f k ||| bitN (f k) := rfl
      have HS := Lib.hid hs
      clear hs
      generalize f k = c at *
      obtain ⟨n, rfl⟩ := Int.eq_ofNat_of_zero_le h0
      generalize ofN f k = s at *
      obtain ⟨f1, f2, f3⟩ := or_there ⟨s, hlo⟩ ⟨n, by omega⟩
      simp only at f1 f2 f3
      have H3 := Lib.hid (fun w => rhas_any s n w)
      cases hh : hasN s n with
      | true =>
        rw [hh] at H3
        have hg1 := f1 hh
        have HG1 := Lib.hid hg1
        clear hh f1 f2 hg1
        go_wp2_with (first | (go_at_call 30; refine (cpu_in _ _ h0 h1).mono ?_; rintro e w' ⟨rfl, rfl⟩) | (go_at_call 31; refine (H3.out _).mono ?_; rintro e w' ⟨rfl, rfl⟩))
        go_round
        case rel => exact ⟨k + 1, by omega, by go_num, by rw [HS.out, HG1.out], HPn⟩
        case measure => simp [intOf]; omega
      | false =>
        rw [hh] at H3
        have hg1 := f2 hh
        have hv : ((s : Int) + 2 ^ n % 4294967296) % 4294967296 = ((s ||| bitN n : Nat) : Int) := by
          have hp : (2 : Int) ^ n = ((2 ^ n : Nat) : Int) := by simp
          rw [hp, ← hg1]; generalize 2 ^ n = q at *; omega
        have HV := Lib.hid hv
        clear hh f1 f2 hg1 hv
        go_wp2_with (first | (go_at_call 30; refine (cpu_in _ _ h0 h1).mono ?_; rintro e w' ⟨rfl, rfl⟩) | (go_at_call 31; refine (H3.out _).mono ?_; rintro e w' ⟨rfl, rfl⟩))
        go_round
        case rel => exact ⟨k + 1, by omega, by go_num, by rw [HS.out, ← HV.out], HPn⟩
        case measure => simp [intOf]; omega

set_option maxRecDepth 100000 in
set_option maxHeartbeats 2000000 in
theorem same_any (w : World) (v v' : Value) (xs : List Int) (h : NumsIs w v xs) (h' : NumsIs w v' xs) :
    Calls Tryd.prog 28 #[v, v'] w fun e w' => e = .returned (.bool true) ∧ Below w.heap.size w w' := by
  obtain ⟨a, cap, rfl, hl, hc⟩ := h
  obtain ⟨a', cap', rfl, -, hc'⟩ := h'
  generalize hff : (fun i => xs.getD i 0) = f at *
  have hf : ∀ i, xs.getD i 0 = f i := fun i => by rw [← hff]
  have HC : Hid (∀ i, i < xs.length → ∃ b b', a = some ⟨b, 0, none⟩ ∧ a' = some ⟨b', 0, none⟩ ∧ b < w.heap.size ∧ b' < w.heap.size ∧ w.cell? ⟨b, i, none⟩ = some (.int .i64 (f i)) ∧ w.cell? ⟨b', i, none⟩ = some (.int .i64 (f i))) := fun i hi => by
    rcases hc with rfl | ⟨b, ha, hb, hc⟩
    · simp at hi
    · rcases hc' with rfl | ⟨b', ha', hb', hc'⟩
      · simp at hi
      · exact ⟨b, b', ha, ha', hb, hb', by rw [← hf]; exact hc i hi, by rw [← hf]; exact hc' i hi⟩
  clear hc hc' hf hff
  generalize xs.length = len at *
  go_enter Tryd.func28, Tryd.ntmps28
  go_wp2
  go_loopw [13] (fun i wr => ∃ k : Nat, k ≤ len ∧ i = .int .i64 k ∧ Below w.heap.size w wr) (fun i _ => len - (intOf i).toNat)
  case atStart => exact ⟨0, Nat.zero_le _, rfl, Below.refl _ _⟩
  case round =>
    obtain ⟨k, hk, rfl, hbr⟩ := hrel
    by_cases hlt : k < len
    · obtain ⟨b, b', rfl, rfl, hb, hb', hck, hck'⟩ := HC.out k hlt
      have d1 : wr.cell? ⟨b, k, none⟩ = some (.int .i64 (f k)) := (hbr.cell (p := ⟨b, k, none⟩) hb).trans hck
      have d2 : wr.cell? ⟨b', k, none⟩ = some (.int .i64 (f k)) := (hbr.cell (p := ⟨b', k, none⟩) hb').trans hck'
      clear hck hck'
      generalize f k = c at *
      go_wp2_with fail
      go_quiet (fail)
      go_wp2
      go_roundw
      case rel => exact ⟨k + 1, by omega, by go_num, below_drewN hbr _⟩
      case measure => simp [intOf]; omega
    · have e : k = len := by omega
      subst e
      go_wp2
      go_ret
      exact ⟨rfl, hbr⟩

theorem first_ok (n : Int) (w : World) (h0 : 0 ≤ n) (h1 : n ≤ 8) : Calls Tryd.prog 29 #[.int .i64 n] w fun e w' => e = .returned (.tuple #[.int .u32 ((2 ^ n.toNat % 4294967296 - 1) % 4294967296), .int .i64 0]) ∧ w = w' := by
  go_enter Tryd.func29, Tryd.ntmps29
  go_wp2
  go_ret2
  exact ⟨rfl, rfl⟩

theorem first_no (n : Int) (w : World) (h : n < 0 ∨ 8 < n) : Calls Tryd.prog 29 #[.int .i64 n] w fun e w' => e = .returned (.tuple #[.int .u32 0, .int .i64 2]) ∧ w = w' := by
  rcases h with h | h
  · go_enter Tryd.func29, Tryd.ntmps29
    go_wp2
    go_ret2
    exact ⟨rfl, rfl⟩
  · have h0 : 0 ≤ n := by omega
    go_enter Tryd.func29, Tryd.ntmps29
    go_wp2
    go_ret2
    exact ⟨rfl, rfl⟩

set_option maxRecDepth 100000 in
theorem few_some (b off len cap : Nat) (f : Nat → Int) (w : World) (hlen : len ≤ 9223372036854775807) (hcap : len ≤ cap) (hc : ∀ i, i < len → w.cell? ⟨b, off + i, none⟩ = some (.int .i64 (f i))) :
    Calls Tryd.prog 26 #[.slice (some ⟨b, off, none⟩) len cap] w fun e w' => ∃ v, e = .returned v ∧ NumsIs w' v ((List.range (min len 30)).map f) ∧ Below w.heap.size w w' := by
  obtain ⟨i0, hi, hz0, hz1, hz2⟩ := info_parts info3
  have hm : (min (len : Int) 30).toNat = min len 30 := by omega
  have hm30 : (min len 30) ≤ 30 := by omega
  have hl : ((List.range (min len 30)).map fun i => Value.int .i64 (f i)).length = (min len 30) * 1 := by simp
  have hnews : ∀ (j : Nat) (u : Value), ((List.range (min len 30)).map fun i => Value.int .i64 (f i))[j]? = some u → (w.alloc (.cells #[] 3)).cell? ((⟨b, off, none⟩ : Addr).add j) = some u := by
    intro j u hj
    rw [List.getElem?_map] at hj
    by_cases hjm : j < (min len 30)
    · rw [List.getElem?_range hjm] at hj
      simp only [Option.map_some, Option.some.injEq] at hj
      rw [← hj, Go.WideShapes.add_plain]
      exact cell_alloc_l _ (hc j (by omega))
    · rw [List.getElem?_eq_none (by simp; omega)] at hj
      cases hj
  have h1 : ∀ u ∈ ((List.range (min len 30)).map fun i => Value.int .i64 (f i)), u.oneCell' = true := by
    intro u hu
    obtain ⟨i, -, rfl⟩ := List.mem_map.1 hu
    rfl
  have HX := Lib.hid (And.intro hl (And.intro hnews h1))
  clear hc hl hnews h1
  go_enter Tryd.func26, Tryd.ntmps26
  go_wp2_with (at_builtin; refine wpList_append_own _ rfl _ _ 34 rfl w.heap.size 3 i0 (.int .i64 0) 1 8 Tryd.underlying34 hi hz0 hz1 hz2 rfl (by decide) _ 0 [] rfl (World.ownsRow_made w #[] 0 (Nat.le_refl _) (Nat.zero_le _) rfl) ⟨b, off, none⟩ (min len 30) cap _ rfl HX.out.1 HX.out.2.1 HX.out.2.2 (by unfold maxLen; omega) (by omega) (by simp) ?_; intro v' w1 hown' hgrow hnil; refine Hid.out ?_)
  refine Lib.hid ?_
  go_wp2
  go_ret
  refine ⟨v', rfl, ?_, ?_⟩
  · refine numsIs_of_row (base := w.heap.size) ?_ (by simp; omega)
    simpa [List.map_map, Function.comp_def] using hown'
  · refine ((Below.refl w.heap.size w).alloc (Nat.le_refl _) (.cells #[] 3)).grown hgrow (by simp) ?_
    intro k hk
    cases hk
    exact Nat.le_refl _

set_option maxRecDepth 100000 in
theorem few_none (a : Option Addr) (cap : Nat) (w : World) :
    Calls Tryd.prog 26 #[.slice a 0 cap] w fun e w' => ∃ v, e = .returned v ∧ NumsIs w' v [] ∧ Below w.heap.size w w' := by
  obtain ⟨i0, hi, hz0, hz1, hz2⟩ := info_parts info3
  have hm0 : (min (0 : Int) 30).toNat = 0 := by decide
  cases a with
  | none =>
    go_enter Tryd.func26, Tryd.ntmps26
    go_wp2
    go_ret
    exact ⟨_, rfl, ⟨some ⟨w.heap.size, 0, none⟩, 0, rfl, by simp, .inl rfl⟩, (Below.refl _ _).alloc (Nat.le_refl _) _⟩
  | some ad =>
    go_enter Tryd.func26, Tryd.ntmps26
    go_wp2
    go_ret
    exact ⟨_, rfl, ⟨some ⟨w.heap.size, 0, none⟩, 0, rfl, by simp, .inl rfl⟩, (Below.refl _ _).alloc (Nat.le_refl _) _⟩

/-- few, at whatever world behind the first. -/
theorem few_any {W : World} {a : Option Addr} {len cap : Nat} (hN : NumsAt W a len) (hcap : len ≤ cap) :
    ∃ xs : List Int, ∀ W', Below W.heap.size W W' → Calls Tryd.prog 26 #[.slice a len cap] W' fun e w' => ∃ v, e = .returned v ∧ NumsIs w' v xs ∧ Below W'.heap.size W' w' := by
  rcases hN.cells with rfl | ⟨b, off, f, rfl, hb, hc, -⟩
  · exact ⟨[], fun W' _ => few_none a cap W'⟩
  · exact ⟨_, fun W' hB => few_some b off len cap f W' hN.le hcap (fun i hi => (hB.cell (p := ⟨b, off + i, none⟩) hb).trans (hc i hi))⟩

/-- A slice of rows of numbers. -/
structure RowsAt (w : World) (a : Option Addr) (len : Nat) : Prop where
  le : len ≤ 9223372036854775807
  cells : len = 0 ∨ ∃ (b off : Nat), a = some ⟨b, off, none⟩ ∧ b < w.heap.size ∧ ∀ i, i < len → ∃ (a' : Option Addr) (len' cap' : Nat), w.cell? ⟨b, off + i, none⟩ = some (.slice a' len' cap') ∧ NumsAt w a' len' ∧ len' ≤ cap'

theorem RowsAt.get {w : World} {a : Option Addr} {len : Nat} (h : RowsAt w a len) {k : Nat} (hk : k < len) :
    ∃ (b off : Nat) (a' : Option Addr) (len' cap' : Nat), a = some ⟨b, off, none⟩ ∧ b < w.heap.size ∧ w.cell? ⟨b, off + k, none⟩ = some (.slice a' len' cap') ∧ NumsAt w a' len' ∧ len' ≤ cap' := by
  rcases h.cells with h0 | ⟨b, off, ha, hb, hc⟩
  · omega
  · obtain ⟨a', len', cap', h1, h2, h3⟩ := hc k hk
    exact ⟨b, off, a', len', cap', ha, hb, h1, h2, h3⟩

end Go.Proofs.YtglndonfmmbnhaaDoor
