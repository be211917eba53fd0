/-
  Rows of numbers: few, the document's Of, SameInts.
-/
import Derived.Test.YtglndonfmmbnhaaDoorCpsZ
namespace Go.Proofs.YtglndonfmmbnhaaDoor
open Go.RowKit

/-- A slice value that reads as these numbers. -/
def NumsIs (w : World) (v : Value) (xs : List Int) : Prop :=
  ∃ (a : Option Addr) (cap : Nat), v = .slice a xs.length cap ∧ xs.length ≤ 100 ∧ (xs = [] ∨ ∃ b, a = some ⟨b, 0, none⟩ ∧ b < w.heap.size ∧ ∀ i, i < xs.length → w.cell? ⟨b, i, none⟩ = some (.int .i64 (xs.getD i 0)))

theorem NumsIs.below {w w' : World} {v : Value} {xs : List Int} (h : NumsIs w v xs) (hb : Below w.heap.size w w') : NumsIs w' v xs := by
  obtain ⟨a, cap, hv, hl, hc⟩ := h
  exact ⟨a, cap, hv, hl, hc.imp id fun ⟨b, ha, hbl, hc⟩ => ⟨b, ha, Nat.lt_of_lt_of_le hbl hb.size, fun i hi => (hb.cell (p := ⟨b, i, none⟩) hbl).trans (hc i hi)⟩⟩

theorem numsIs_of_row {w : World} {base : Nat} {v : Value} {xs : List Int} (h : w.ownsRow base 3 1 v xs.length (xs.map (Value.int .i64))) (hl : xs.length ≤ 100) : NumsIs w v xs := by
  rcases h.2 with ⟨rfl, h0⟩ | ⟨g, cap, cur, rfl, hb, hg, _, _, hcs, htk⟩
  · exact ⟨none, 0, by rw [h0], hl, .inl (List.length_eq_zero_iff.1 h0)⟩
  · refine ⟨_, cap, rfl, hl, .inr ⟨g, rfl, (Array.getElem?_eq_some_iff.1 hg).1, fun i hi => ?_⟩⟩
    have h1 : (cur.toList.take (xs.length * 1))[i]? = some (.int .i64 (xs.getD i 0)) := by rw [htk, List.getElem?_map]; simp [hi]
    rw [List.getElem?_take_of_lt (by omega)] at h1
    simp [World.cell?, hg]
    simpa using h1

def goodL (xs : List Int) : Bool := xs.all fun x => decide (0 ≤ x ∧ x < 8)
def setL (xs : List Int) : Nat := ofN (fun i => xs.getD i 0) xs.length

theorem good_at {xs : List Int} (h : goodL xs = true) : ∀ i, i < xs.length → 0 ≤ xs.getD i 0 ∧ xs.getD i 0 < 8 := fun i hi => by
  have := List.all_eq_true.1 h (xs.getD i 0) (by simp [hi])
  simpa using this
theorem bad_at {xs : List Int} (h : goodL xs = false) : ∃ i, i < xs.length ∧ (xs.getD i 0 < 0 ∨ 8 ≤ xs.getD i 0) := by
  obtain ⟨x, hx, hb⟩ := List.all_eq_false.1 h
  obtain ⟨i, hi, he⟩ := List.getElem_of_mem hx
  refine ⟨i, hi, ?_⟩
  have : xs.getD i 0 = x := by simp [hi, he]
  rw [this]
  simp at hb
  omega

theorem of_good (w : World) (v : Value) (xs : List Int) (h : NumsIs w v xs) (hg : goodL xs = true) :
    Calls Tryd.prog 18 #[v] w fun e w' => e = .returned (.tuple #[.int .u32 (setL xs), .int .i64 0]) ∧ w = w' := by
  obtain ⟨a, cap, rfl, hl, hc⟩ := h
  rcases hc with rfl | ⟨b, rfl, -, hc⟩
  · exact of_empty a cap w
  · exact of_ok b 0 xs.length cap _ w (by omega) (fun i hi => by rw [Nat.zero_add]; exact hc i hi) (good_at hg)
theorem of_bad (w : World) (v : Value) (xs : List Int) (h : NumsIs w v xs) (hg : goodL xs = false) :
    Calls Tryd.prog 18 #[v] w fun e w' => e = .returned (.tuple #[.int .u32 0, .int .i64 2]) ∧ w = w' := by
  obtain ⟨a, cap, rfl, hl, hc⟩ := h
  rcases hc with rfl | ⟨b, rfl, -, hc⟩
  · cases hg
  · exact of_no b 0 xs.length cap _ w (by omega) (fun i hi => by rw [Nat.zero_add]; exact hc i hi) (bad_at hg)

theorem or_there : ∀ (s : Fin 256) (c : Fin 8), (hasN s.val (c.val : Int) = true → s.val ||| bitN (c.val : Int) = s.val) ∧ (hasN s.val (c.val : Int) = false → s.val + 2 ^ c.val = s.val ||| bitN (c.val : Int)) ∧ 2 ^ c.val < 256 := by decide +kernel

set_option maxRecDepth 100000 in
set_option maxHeartbeats 2000000 in
theorem rof_good (w : World) (v : Value) (xs : List Int) (h : NumsIs w v xs) (hg : goodL xs = true) :
    Calls Tryd.prog 27 #[v] w fun e w' => e = .returned (.tuple #[.int .u32 (setL xs), .bool true]) ∧ w = w' := by
  obtain ⟨a, cap, rfl, hl, hc⟩ := h
  have hga := good_at hg
  unfold setL
  generalize hff : (fun i => xs.getD i 0) = f at *
  have hf : ∀ i, xs.getD i 0 = f i := fun i => by rw [← hff]
  have HG : Hid (∀ i, i < xs.length → 0 ≤ f i ∧ f i < 8) := fun i hi => by rw [← hf]; exact hga i hi
  have HC : Hid (∀ i, i < xs.length → ∃ b, a = some ⟨b, 0, none⟩ ∧ w.cell? ⟨b, i, none⟩ = some (.int .i64 (f i))) := fun i hi => by
    rcases hc with rfl | ⟨b, ha, -, hc⟩
    · simp at hi
    · exact ⟨b, ha, by rw [← hf]; exact hc i hi⟩
  clear hc hga hg hf hff
  generalize xs.length = len at *
  go_enter Tryd.func27, Tryd.ntmps27
  go_wp2
  go_loop [4, 9] (fun s i => ∃ k : Nat, k ≤ len ∧ i = .int .i64 k ∧ s = .int .u32 (ofN f k)) (fun _ i => len - (intOf i).toNat)
  case atStart => exact ⟨0, Nat.zero_le _, rfl, rfl⟩
  case round =>
    obtain ⟨k, hk, rfl, rfl⟩ := hrel
    by_cases hlt : k < len
    · obtain ⟨b, rfl, hck⟩ := HC.out k hlt
      obtain ⟨h0, h1⟩ := HG.out k hlt
      have hlo := ofN_lt f k
      have hs : ofN f (k + 1) = ofN f k ||| bitN (f k) := rfl
      have HS := Lib.hid hs
      clear hs
      generalize f k = c at *
      obtain ⟨n, rfl⟩ := Int.eq_ofNat_of_zero_le h0
      generalize ofN f k = s at *
      obtain ⟨f1, f2, f3⟩ := or_there ⟨s, hlo⟩ ⟨n, by omega⟩
      simp only at f1 f2 f3
      have H3 := Lib.hid (fun w => rhas_any s n w)
      cases hh : hasN s n with
      | true =>
        rw [hh] at H3
        have hg1 := f1 hh
        have HG1 := Lib.hid hg1
        clear hh f1 f2 hg1
        go_wp2_with (first | (go_at_call 30; refine (cpu_in _ _ h0 h1).mono ?_; rintro e w' ⟨rfl, rfl⟩) | (go_at_call 31; refine (H3.out _).mono ?_; rintro e w' ⟨rfl, rfl⟩))
        go_round
        case rel => exact ⟨k + 1, by omega, by go_num, by rw [HS.out, HG1.out]⟩
        case measure => simp [intOf]; omega
      | false =>
        rw [hh] at H3
        have hg1 := f2 hh
        have hv : ((s : Int) + 2 ^ n % 4294967296) % 4294967296 = ((s ||| bitN n : Nat) : Int) := by
          have hp : (2 : Int) ^ n = ((2 ^ n : Nat) : Int) := by simp
          rw [hp, ← hg1]; generalize 2 ^ n = q at *; omega
        have HV := Lib.hid hv
        clear hh f1 f2 hg1 hv
        go_wp2_with (first | (go_at_call 30; refine (cpu_in _ _ h0 h1).mono ?_; rintro e w' ⟨rfl, rfl⟩) | (go_at_call 31; refine (H3.out _).mono ?_; rintro e w' ⟨rfl, rfl⟩))
        go_round
        case rel => exact ⟨k + 1, by omega, by go_num, by rw [HS.out, ← HV.out]⟩
        case measure => simp [intOf]; omega
    · have e : k = len := by omega
      subst e
      go_wp2
      go_ret2
      exact ⟨rfl, rfl⟩

end Go.Proofs.YtglndonfmmbnhaaDoor
