/-
  The walks of the small clock functions: what each call returns, and that it leaves old memory alone.
-/
import Derived.Test.YtcedkaafdblboaaDoorRows
import Derived.WalkKit
import Derived.WalkSpells
import Derived.WalkLawsBesides
import Derived.Lib.Hide
namespace Go.Proofs.YtcedkaafdblboaaDoor
open Go.RowKit

theorem refRight_yes (t : Int) (w : World) (h0 : 0 ≤ t) (h1 : t ≤ 1125899906842624) :
    Calls Tryd.prog 11 #[.int .i64 t] w fun e w' => e = .returned (.bool true) ∧ w = w' := by
  go_enter Tryd.func11, Tryd.ntmps11
  go_wp2
  go_ret
  exact ⟨rfl, rfl⟩

theorem refRight_neg (t : Int) (w : World) (h0 : t < 0) :
    Calls Tryd.prog 11 #[.int .i64 t] w fun e w' => e = .returned (.bool false) ∧ w = w' := by
  go_enter Tryd.func11, Tryd.ntmps11
  go_wp2
  go_ret
  exact ⟨rfl, rfl⟩

theorem refRight_big (t : Int) (w : World) (h0 : 0 ≤ t) (h1 : 1125899906842624 < t) :
    Calls Tryd.prog 11 #[.int .i64 t] w fun e w' => e = .returned (.bool false) ∧ w = w' := by
  have hd : decide (t ≤ 1125899906842624) = false := by simp; omega
  go_enter Tryd.func11, Tryd.ntmps11
  go_wp2
  go_ret
  exact ⟨rfl, rfl⟩

theorem refRight_no (t : Int) (w : World) (h : t < 0 ∨ 1125899906842624 < t) :
    Calls Tryd.prog 11 #[.int .i64 t] w fun e w' => e = .returned (.bool false) ∧ w = w' := by
  by_cases h0 : t < 0
  · exact refRight_neg t w h0
  · exact refRight_big t w (by omega) (by omega)

theorem check_yes (t : Int) (w : World) (h0 : 0 ≤ t) (h1 : t ≤ 1125899906842624) :
    Calls Tryd.prog 12 #[.int .i64 t] w fun e w' => e = .returned (.int .i64 0) ∧ w = w' := by
  go_enter Tryd.func12, Tryd.ntmps12
  go_wp2
  go_ret
  exact ⟨rfl, rfl⟩

theorem check_neg (t : Int) (w : World) (h0 : t < 0) :
    Calls Tryd.prog 12 #[.int .i64 t] w fun e w' => e = .returned (.int .i64 120) ∧ w = w' := by
  go_enter Tryd.func12, Tryd.ntmps12
  go_wp2
  go_ret
  exact ⟨rfl, rfl⟩

theorem check_big (t : Int) (w : World) (h0 : 0 ≤ t) (h1 : 1125899906842624 < t) :
    Calls Tryd.prog 12 #[.int .i64 t] w fun e w' => e = .returned (.int .i64 120) ∧ w = w' := by
  go_enter Tryd.func12, Tryd.ntmps12
  go_wp2
  go_ret
  exact ⟨rfl, rfl⟩

theorem check_no (t : Int) (w : World) (h : t < 0 ∨ 1125899906842624 < t) :
    Calls Tryd.prog 12 #[.int .i64 t] w fun e w' => e = .returned (.int .i64 120) ∧ w = w' := by
  by_cases h0 : t < 0
  · exact check_neg t w h0
  · exact check_big t w (by omega) (by omega)

/-- 'right' of n times in a block, all of which may be. -/
theorem right_ok (b n : Nat) (f : Nat → Int) (w : World) (hn : n ≤ 4) (hc : ∀ j, j < n → w.cell? ⟨b, j, none⟩ = some (.int .i64 (f j)))
    (hok : ∀ j, j < n → 0 ≤ f j ∧ f j ≤ 1125899906842624) :
    Calls Tryd.prog 30 #[.slice (some ⟨b, 0, none⟩) n n] w fun e w' => e = .returned (.int .i64 0) ∧ w = w' := by
  have HC := Lib.hid hc
  have HO := Lib.hid hok
  clear hc hok
  go_enter Tryd.func30, Tryd.ntmps30
  go_wp2
  go_loop [8] (fun i => ∃ k : Nat, k ≤ n ∧ i = .int .i64 k) (fun i => n - (intOf i).toNat)
  case atStart => exact ⟨0, Nat.zero_le _, rfl⟩
  case round =>
    obtain ⟨k, hk, rfl⟩ := hrel
    by_cases hlt : k < n
    · have hck := HC.out k hlt
      have h0 := (HO.out k hlt).1
      have h1 := (HO.out k hlt).2
      go_wp2_with (go_at_call 12; refine (check_yes _ _ h0 h1).mono ?_; rintro e w' ⟨rfl, rfl⟩)
      go_round
      case rel => exact ⟨k + 1, by omega, by go_num⟩
      case measure => simp [intOf]; omega
    · go_wp2
      go_ret
      exact ⟨rfl, rfl⟩

/-- 'right' of n times in a block, one of which may not be. -/
theorem right_no (b n : Nat) (f : Nat → Int) (w : World) (hn : n ≤ 4) (hc : ∀ j, j < n → w.cell? ⟨b, j, none⟩ = some (.int .i64 (f j)))
    (hbad : ∃ j, j < n ∧ (f j < 0 ∨ 1125899906842624 < f j)) :
    Calls Tryd.prog 30 #[.slice (some ⟨b, 0, none⟩) n n] w fun e w' => e = .returned (.int .i64 120) ∧ w = w' := by
  have HC := Lib.hid hc
  have HB := Lib.hid hbad
  clear hc hbad
  go_enter Tryd.func30, Tryd.ntmps30
  go_wp2
  go_loop [8] (fun i => ∃ k : Nat, k ≤ n ∧ i = .int .i64 k ∧ Hid (∀ j, j < k → 0 ≤ f j ∧ f j ≤ 1125899906842624)) (fun i => n - (intOf i).toNat)
  case atStart => exact ⟨0, Nat.zero_le _, rfl, fun j hj => absurd hj (Nat.not_lt_zero _)⟩
  case round =>
    obtain ⟨k, hk, rfl, HP⟩ := hrel
    have hlt : k < n := by
      obtain ⟨j, hj, hbj⟩ := HB.out
      by_cases hkj : j < k
      · have := HP.out j hkj; omega
      · omega
    have hck := HC.out k hlt
    by_cases hg : f k < 0 ∨ 1125899906842624 < f k
    · go_wp2_with (go_at_call 12; refine (check_no _ _ hg).mono ?_; rintro e w' ⟨rfl, rfl⟩)
      go_ret
      exact ⟨rfl, rfl⟩
    · have h0 : 0 ≤ f k := by omega
      have h1 : f k ≤ 1125899906842624 := by omega
      clear hg
      go_wp2_with (go_at_call 12; refine (check_yes _ _ h0 h1).mono ?_; rintro e w' ⟨rfl, rfl⟩)
      go_round
      case rel =>
        refine ⟨k + 1, by omega, by go_num, fun j hj => ?_⟩
        by_cases e : j = k
        · subst e; exact ⟨h0, h1⟩
        · exact HP.out j (by omega)
      case measure => simp [intOf]; omega

/-- 'answer', no error. -/
theorem answer_ok (t : Int) (w : World) :
    Calls Tryd.prog 31 #[.int .i64 t, .int .i64 0] w fun e w' => e = .returned (.tuple #[.int .i64 t, .int .i64 0]) ∧ w = w' := by
  go_enter Tryd.func31, Tryd.ntmps31
  go_wp2
  go_ret2
  exact ⟨rfl, rfl⟩

/-- 'answer', an error. -/
theorem answer_err (t x : Int) (w : World) (h : (x == 0) = false) :
    Calls Tryd.prog 31 #[.int .i64 t, .int .i64 x] w fun e w' => e = .returned (.tuple #[.int .i64 0, .int .i64 x]) ∧ w = w' := by
  have h' : (x != 0) = true := by simpa using h
  go_enter Tryd.func31, Tryd.ntmps31
  go_wp2
  go_ret2
  exact ⟨rfl, rfl⟩

/-- A slice of two times that the call has laid itself. -/
theorem right2_ok (t d : Int) (w : World) (ht0 : 0 ≤ t) (ht1 : t ≤ 1125899906842624) (hd0 : 0 ≤ d) (hd1 : d ≤ 1125899906842624) :
    Calls Tryd.prog 30 #[.slice (some ⟨w.heap.size, 0, none⟩) 2 2] (w.alloc (.cells #[.int .i64 t, .int .i64 d] 2)) fun e w' => e = .returned (.int .i64 0) ∧ w.alloc (.cells #[.int .i64 t, .int .i64 d] 2) = w' :=
  right_ok w.heap.size 2 (fun j => if j = 0 then t else d) _ (by omega) (fun j hj => by
    match j, hj with
    | 0, _ => simp [go_sem]
    | 1, _ => simp [go_sem]) (fun j hj => by
    match j, hj with
    | 0, _ => exact ⟨ht0, ht1⟩
    | 1, _ => exact ⟨hd0, hd1⟩)

theorem right2_no (t d : Int) (w : World) (h : (t < 0 ∨ 1125899906842624 < t) ∨ (d < 0 ∨ 1125899906842624 < d)) :
    Calls Tryd.prog 30 #[.slice (some ⟨w.heap.size, 0, none⟩) 2 2] (w.alloc (.cells #[.int .i64 t, .int .i64 d] 2)) fun e w' => e = .returned (.int .i64 120) ∧ w.alloc (.cells #[.int .i64 t, .int .i64 d] 2) = w' :=
  right_no w.heap.size 2 (fun j => if j = 0 then t else d) _ (by omega) (fun j hj => by
    match j, hj with
    | 0, _ => simp [go_sem]
    | 1, _ => simp [go_sem]) (by
    rcases h with h | h
    · exact ⟨0, by omega, h⟩
    · exact ⟨1, by omega, h⟩)

theorem right1_ok (t : Int) (w : World) (ht0 : 0 ≤ t) (ht1 : t ≤ 1125899906842624) :
    Calls Tryd.prog 30 #[.slice (some ⟨w.heap.size, 0, none⟩) 1 1] (w.alloc (.cells #[.int .i64 t] 2)) fun e w' => e = .returned (.int .i64 0) ∧ w.alloc (.cells #[.int .i64 t] 2) = w' :=
  right_ok w.heap.size 1 (fun _ => t) _ (by omega) (fun j hj => by
    match j, hj with
    | 0, _ => simp [go_sem]) (fun _ _ => ⟨ht0, ht1⟩)

theorem right1_no (t : Int) (w : World) (h : t < 0 ∨ 1125899906842624 < t) :
    Calls Tryd.prog 30 #[.slice (some ⟨w.heap.size, 0, none⟩) 1 1] (w.alloc (.cells #[.int .i64 t] 2)) fun e w' => e = .returned (.int .i64 120) ∧ w.alloc (.cells #[.int .i64 t] 2) = w' :=
  right_no w.heap.size 1 (fun _ => t) _ (by omega) (fun j hj => by
    match j, hj with
    | 0, _ => simp [go_sem]) ⟨0, by omega, h⟩

theorem below1 (w : World) (o : Obj) : Below w.heap.size w (w.alloc o) := (Below.refl _ w).alloc (Nat.le_refl _) o

theorem add_ok (t d : Int) (w : World) (ht0 : 0 ≤ t) (ht1 : t ≤ 1125899906842624) (hd0 : 0 ≤ d) (hd1 : d ≤ 1125899906842624) (hs : t + d ≤ 1125899906842624) :
    Calls Tryd.prog 13 #[.int .i64 t, .int .i64 d] w fun e w' => e = .returned (.tuple #[.int .i64 (t + d), .int .i64 0]) ∧ Below w.heap.size w w' := by
  go_enter Tryd.func13, Tryd.ntmps13
  go_wp2_with (first | (go_at_call 30; refine (right2_ok t d w ht0 ht1 hd0 hd1).mono ?_; rintro e w' ⟨rfl, rfl⟩) | (go_at_call 31; refine (answer_ok _ _).mono ?_; rintro e w' ⟨rfl, rfl⟩))
  go_ret2
  exact ⟨rfl, below1 _ _⟩

theorem add_full (t d : Int) (w : World) (ht0 : 0 ≤ t) (ht1 : t ≤ 1125899906842624) (hd0 : 0 ≤ d) (hd1 : d ≤ 1125899906842624) (hs : 1125899906842624 < t + d) :
    Calls Tryd.prog 13 #[.int .i64 t, .int .i64 d] w fun e w' => e = .returned (.tuple #[.int .i64 0, .int .i64 6]) ∧ Below w.heap.size w w' := by
  go_enter Tryd.func13, Tryd.ntmps13
  go_wp2_with (first | (go_at_call 30; refine (right2_ok t d w ht0 ht1 hd0 hd1).mono ?_; rintro e w' ⟨rfl, rfl⟩) | (go_at_call 31; refine (answer_err _ _ _ (by decide)).mono ?_; rintro e w' ⟨rfl, rfl⟩))
  go_ret2
  exact ⟨rfl, below1 _ _⟩

theorem add_no (t d : Int) (w : World) (h : (t < 0 ∨ 1125899906842624 < t) ∨ (d < 0 ∨ 1125899906842624 < d)) :
    Calls Tryd.prog 13 #[.int .i64 t, .int .i64 d] w fun e w' => e = .returned (.tuple #[.int .i64 0, .int .i64 120]) ∧ Below w.heap.size w w' := by
  have H := Lib.hid h
  clear h
  go_enter Tryd.func13, Tryd.ntmps13
  go_wp2_with (first | (go_at_call 30; refine (right2_no t d w H.out).mono ?_; rintro e w' ⟨rfl, rfl⟩) | (go_at_call 31; refine (answer_err _ _ _ (by decide)).mono ?_; rintro e w' ⟨rfl, rfl⟩))
  go_ret2
  exact ⟨rfl, below1 _ _⟩

theorem less_ok (t d : Int) (w : World) (ht0 : 0 ≤ t) (ht1 : t ≤ 1125899906842624) (hd0 : 0 ≤ d) (hd1 : d ≤ 1125899906842624) (hs : d ≤ t) :
    Calls Tryd.prog 14 #[.int .i64 t, .int .i64 d] w fun e w' => e = .returned (.tuple #[.int .i64 (t - d), .int .i64 0]) ∧ Below w.heap.size w w' := by
  go_enter Tryd.func14, Tryd.ntmps14
  go_wp2_with (first | (go_at_call 30; refine (right2_ok t d w ht0 ht1 hd0 hd1).mono ?_; rintro e w' ⟨rfl, rfl⟩) | (go_at_call 31; refine (answer_ok _ _).mono ?_; rintro e w' ⟨rfl, rfl⟩))
  go_ret2
  exact ⟨rfl, below1 _ _⟩

theorem less_arg (t d : Int) (w : World) (ht0 : 0 ≤ t) (ht1 : t ≤ 1125899906842624) (hd0 : 0 ≤ d) (hd1 : d ≤ 1125899906842624) (hs : t < d) :
    Calls Tryd.prog 14 #[.int .i64 t, .int .i64 d] w fun e w' => e = .returned (.tuple #[.int .i64 0, .int .i64 2]) ∧ Below w.heap.size w w' := by
  go_enter Tryd.func14, Tryd.ntmps14
  go_wp2_with (first | (go_at_call 30; refine (right2_ok t d w ht0 ht1 hd0 hd1).mono ?_; rintro e w' ⟨rfl, rfl⟩) | (go_at_call 31; refine (answer_err _ _ _ (by decide)).mono ?_; rintro e w' ⟨rfl, rfl⟩))
  go_ret2
  exact ⟨rfl, below1 _ _⟩

theorem less_no (t d : Int) (w : World) (h : (t < 0 ∨ 1125899906842624 < t) ∨ (d < 0 ∨ 1125899906842624 < d)) :
    Calls Tryd.prog 14 #[.int .i64 t, .int .i64 d] w fun e w' => e = .returned (.tuple #[.int .i64 0, .int .i64 120]) ∧ Below w.heap.size w w' := by
  have H := Lib.hid h
  clear h
  go_enter Tryd.func14, Tryd.ntmps14
  go_wp2_with (first | (go_at_call 30; refine (right2_no t d w H.out).mono ?_; rintro e w' ⟨rfl, rfl⟩) | (go_at_call 31; refine (answer_err _ _ _ (by decide)).mono ?_; rintro e w' ⟨rfl, rfl⟩))
  go_ret2
  exact ⟨rfl, below1 _ _⟩

theorem stop_ok (t d : Int) (w : World) (ht0 : 0 ≤ t) (ht1 : t ≤ 1125899906842624) (hd0 : 0 ≤ d) (hd1 : d ≤ 1125899906842624) :
    Calls Tryd.prog 15 #[.int .i64 t, .int .i64 d] w fun e w' => e = .returned (.tuple #[.int .i64 (if t + d ≤ 1125899906842624 then t + d else 1125899906842624), .int .i64 0]) ∧ Below w.heap.size w w' := by
  by_cases hs : t + d ≤ 1125899906842624
  · rw [if_pos hs]
    go_enter Tryd.func15, Tryd.ntmps15
    go_wp2_with (first | (go_at_call 30; refine (right2_ok t d w ht0 ht1 hd0 hd1).mono ?_; rintro e w' ⟨rfl, rfl⟩) | (go_at_call 31; refine (answer_ok _ _).mono ?_; rintro e w' ⟨rfl, rfl⟩))
    go_ret2
    exact ⟨rfl, below1 _ _⟩
  · rw [if_neg hs]
    have hs' : 1125899906842624 < t + d := by omega
    clear hs
    go_enter Tryd.func15, Tryd.ntmps15
    go_wp2_with (first | (go_at_call 30; refine (right2_ok t d w ht0 ht1 hd0 hd1).mono ?_; rintro e w' ⟨rfl, rfl⟩) | (go_at_call 31; refine (answer_ok _ _).mono ?_; rintro e w' ⟨rfl, rfl⟩))
    go_ret2
    exact ⟨rfl, below1 _ _⟩

end Go.Proofs.YtcedkaafdblboaaDoor
