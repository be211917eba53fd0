/-
  The document's answers: List, Within, Next.
-/
import Derived.Test.YtglndonfmmbnhaaDoorOfB
namespace Go.Proofs.YtglndonfmmbnhaaDoor
open Go.RowKit

/-- The numbers in a set. -/
def intsL (s : Nat) : List Int := (listN (lowN s)).map fun x : Nat => (x : Int)

theorem has_testBit (s k : Nat) (hk : k < 8) : hasN s (k : Int) = s.testBit k := by
  unfold hasN
  rw [bitN_in (by omega) (by omega), Int.toNat_natCast, and_pow_ne]

theorem low_testBit (s k : Nat) (hk : k < 8) : (lowN s).testBit k = s.testBit k := by
  unfold lowN
  rw [Nat.testBit_and, show (255 : Nat) = 2 ^ 8 - 1 from rfl, Nat.testBit_two_pow_sub_one]
  simp [hk]

theorem filter_has (s : Nat) : (List.range 8).filter (fun c : Nat => hasN s (c : Int)) = listN (lowN s) := by
  unfold listN
  refine List.filter_congr fun c hc => ?_
  have h8 : c < 8 := List.mem_range.1 hc
  rw [has_testBit s c h8, low_testBit s c h8]

theorem listN_len (s : Nat) : (listN s).length ≤ 8 := List.length_filter_le _ _

set_option maxRecDepth 100000 in
set_option maxHeartbeats 2000000 in
theorem rlist_any (s : Nat) (w : World) :
    Calls Tryd.prog 32 #[.int .u32 s] w fun e w' => ∃ v, e = .returned v ∧ NumsIs w' v (intsL s) ∧ Below w.heap.size w w' := by
  obtain ⟨i0, hi, hz0, hz1, hz2⟩ := info_parts info3
  have HF := Lib.hid (filter_has s)
  go_enter Tryd.func32, Tryd.ntmps32
  go_wp2
  go_loopw [3, 5] (fun v i wr => ∃ (k : Nat) (done : List Nat), k ≤ 8 ∧ i = .int .i64 k ∧ Hid (done = (List.range k).filter fun c : Nat => hasN s (c : Int)) ∧ wr.ownsRow w.heap.size 3 1 v done.length (done.map fun x : Nat => Value.int .i64 (x : Int)) ∧ Below w.heap.size w wr) (fun _ i _ => 8 - (intOf i).toNat)
  case atStart => exact ⟨0, [], by omega, rfl, rfl, World.ownsRow_nil _ _ _ _, Below.refl _ _⟩
  case round =>
    obtain ⟨k, done, hk, rfl, HD, hrow, hB⟩ := hrel
    have hsz := hB.size
    have hdl : done.length ≤ 8 := by
      rw [HD.out]
      exact Nat.le_trans (List.length_filter_le _ _) (by simpa using hk)
    by_cases h8 : k < 8
    · have hstep : ∀ b, hasN s (k : Int) = b → (List.range (k + 1)).filter (fun c : Nat => hasN s (c : Int)) = if b then done ++ [k] else done := by
        intro b hb
        rw [List.range_succ, List.filter_append, ← HD.out]
        cases b <;> simp [hb]
      have hh := rhas_any s k
      cases hb : hasN s k with
      | true =>
        rw [hb] at hh
        have HS : Hid _ := hstep true hb
        have HH := Lib.hid hh
        clear hstep hh
        go_wp2_with (first | (go_at_call 31; refine (HH.out _).mono ?_; rintro e w' ⟨rfl, rfl⟩) | (at_builtin; refine wpList_append_own _ rfl _ _ 34 rfl w.heap.size 3 i0 (.int .i64 0) 1 8 Tryd.underlying34 hi hz0 hz1 hz2 rfl (by decide) _ _ _ rfl (hrow.alloc _) ⟨wr.heap.size, 0, none⟩ 1 1 [_] rfl rfl (cell_one_new _ _ _) (by simp [Value.oneCell']) (by unfold maxLen; omega) (by omega) (by have := hB.size; simp; omega) ?_; intro v' w1 hown' hgrow hnil; replace hgrow := row_pushed hrow hB hsz hgrow; refine Hid.out ?_))
        refine Lib.hid ?_
        go_wp2_with fail
        go_roundw
        case rel => exact ⟨k + 1, done ++ [k], by omega, by go_num, by show _ = _; rw [HS.out]; rfl, by rw [List.length_append, List.map_append]; exact hown', hgrow⟩
        case measure => simp [intOf]; omega
      | false =>
        rw [hb] at hh
        have HS : Hid _ := hstep false hb
        have HH := Lib.hid hh
        clear hstep hh
        go_wp2_with (go_at_call 31; refine (HH.out _).mono ?_; rintro e w' ⟨rfl, rfl⟩)
        go_roundw
        case rel => exact ⟨k + 1, done, by omega, by go_num, by show _ = _; rw [HS.out]; rfl, hrow, hB⟩
        case measure => simp [intOf]; omega
    · have e : k = 8 := by omega
      have hd : done = listN (lowN s) := by rw [HD.out, e]; exact HF.out
      clear e
      go_wp2
      go_ret
      refine ⟨_, rfl, ?_, hB⟩
      unfold intsL
      rw [← hd]
      refine numsIs_of_row (base := w.heap.size) ?_ (by simp; omega)
      rw [List.length_map, List.map_map]
      exact hrow

theorem ints_len (s : Nat) : (intsL s).length ≤ 8 := by unfold intsL; rw [List.length_map]; exact listN_len _

/-- What cpuset.List answers, read as numbers. -/
theorem nums_of_list {n : Nat} {v : Value} {xs : List Nat} {W : World} (h : IsList n v xs W) (hl : xs.length ≤ 100) : NumsIs W v (xs.map fun x : Nat => (x : Int)) := by
  rcases h with ⟨rfl, rfl⟩ | ⟨b, cap, rfl, -, hne, hc⟩
  · exact ⟨none, 0, rfl, by simp, .inl rfl⟩
  · have hc' : ∀ i, i < xs.length → W.cell? ⟨b, i, none⟩ = some (.int .i64 ((xs.getD i 0 : Nat) : Int)) := fun i hi => hc i _ (by simp [hi])
    refine ⟨some ⟨b, 0, none⟩, cap, by rw [List.length_map], by simpa using hl, .inr ⟨b, rfl, cell_lt (hc' 0 (List.length_pos_iff.2 hne)), fun i hi => ?_⟩⟩
    rw [List.length_map] at hi
    rw [hc' i hi]
    simp [hi]

theorem list_nums (s : Nat) (w : World) (hs : s < 4294967296) (hL : LibOk w) :
    Calls Tryd.prog 17 #[.int .u32 s] w fun e w' => ∃ v, e = .returned v ∧ NumsIs w' v (intsL s) ∧ Below w.heap.size w w' :=
  (list_any s w hs hL.tz (by have := hL.big; omega)).mono fun _ _ ⟨v, he, hv, hb⟩ => ⟨v, he, nums_of_list hv (Nat.le_trans (listN_len _) (by decide)), hb⟩

end Go.Proofs.YtglndonfmmbnhaaDoor
