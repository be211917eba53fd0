/-
  The walks of the small clock functions, second part: stopped, ago, steps, multiples, times, and the references.
-/
import Derived.Test.YtcedkaafdblboaaDoorClkA
namespace Go.Proofs.YtcedkaafdblboaaDoor
open Go.RowKit

theorem stop_no (t d : Int) (w : World) (h : (t < 0 ∨ 1125899906842624 < t) ∨ (d < 0 ∨ 1125899906842624 < d)) :
    Calls Tryd.prog 15 #[.int .i64 t, .int .i64 d] w fun e w' => e = .returned (.tuple #[.int .i64 0, .int .i64 120]) ∧ Below w.heap.size w w' := by
  have H := Lib.hid h
  clear h
  go_enter Tryd.func15, Tryd.ntmps15
  go_wp2_with (first | (go_at_call 30; refine (right2_no t d w H.out).mono ?_; rintro e w' ⟨rfl, rfl⟩) | (go_at_call 31; refine (answer_err _ _ _ (by decide)).mono ?_; rintro e w' ⟨rfl, rfl⟩))
  all_goals
    go_ret2
    exact ⟨rfl, below1 _ _⟩

theorem ago_pos (t d : Int) (w : World) (ht0 : 0 ≤ t) (ht1 : t ≤ 1125899906842624) (hd0 : 0 ≤ d) (hd1 : d ≤ 1125899906842624) (hs : d ≤ t) :
    Calls Tryd.prog 16 #[.int .i64 t, .int .i64 d] w fun e w' => e = .returned (.tuple #[.int .i64 (t - d), .int .i64 0]) ∧ Below w.heap.size w w' := by
  go_enter Tryd.func16, Tryd.ntmps16
  go_wp2_with (first | (go_at_call 30; refine (right2_ok t d w ht0 ht1 hd0 hd1).mono ?_; rintro e w' ⟨rfl, rfl⟩) | (go_at_call 31; refine (answer_ok _ _).mono ?_; rintro e w' ⟨rfl, rfl⟩))
  all_goals
    go_ret2
    exact ⟨rfl, below1 _ _⟩

theorem ago_zero (t d : Int) (w : World) (ht0 : 0 ≤ t) (ht1 : t ≤ 1125899906842624) (hd0 : 0 ≤ d) (hd1 : d ≤ 1125899906842624) (hs : t < d) :
    Calls Tryd.prog 16 #[.int .i64 t, .int .i64 d] w fun e w' => e = .returned (.tuple #[.int .i64 0, .int .i64 0]) ∧ Below w.heap.size w w' := by
  go_enter Tryd.func16, Tryd.ntmps16
  go_wp2_with (first | (go_at_call 30; refine (right2_ok t d w ht0 ht1 hd0 hd1).mono ?_; rintro e w' ⟨rfl, rfl⟩) | (go_at_call 31; refine (answer_ok _ _).mono ?_; rintro e w' ⟨rfl, rfl⟩))
  all_goals
    go_ret2
    exact ⟨rfl, below1 _ _⟩

theorem ago_no (t d : Int) (w : World) (h : (t < 0 ∨ 1125899906842624 < t) ∨ (d < 0 ∨ 1125899906842624 < d)) :
    Calls Tryd.prog 16 #[.int .i64 t, .int .i64 d] w fun e w' => e = .returned (.tuple #[.int .i64 0, .int .i64 120]) ∧ Below w.heap.size w w' := by
  have H := Lib.hid h
  clear h
  go_enter Tryd.func16, Tryd.ntmps16
  go_wp2_with (first | (go_at_call 30; refine (right2_no t d w H.out).mono ?_; rintro e w' ⟨rfl, rfl⟩) | (go_at_call 31; refine (answer_err _ _ _ (by decide)).mono ?_; rintro e w' ⟨rfl, rfl⟩))
  all_goals
    go_ret2
    exact ⟨rfl, below1 _ _⟩

theorem emod_le_self (t d : Int) (h0 : 0 ≤ t) (hd : 0 < d) : t % d ≤ t := by
  have h1 := Int.mul_ediv_add_emod t d
  have h2 : 0 ≤ d * (t / d) := Int.mul_nonneg (by omega) (Int.ediv_nonneg h0 (by omega))
  omega

theorem ediv_mul_eq (t d : Int) : t / d * d = t - t % d := by
  have h1 := Int.mul_ediv_add_emod t d
  rw [Int.mul_comm] at h1
  omega

/-- When 'answers' says yes. -/
def Fits (got e : Int) (ok : Bool) (want no : Int) : Prop :=
  (ok = false ∧ got = 0 ∧ e = 120) ∨ (ok = true ∧ no ≠ 0 ∧ got = 0 ∧ e = no) ∨ (ok = true ∧ no = 0 ∧ got = want ∧ e = 0)

theorem answers_yes (got e : Int) (ok : Bool) (want no : Int) (w : World) (h : Fits got e ok want no) :
    Calls Tryd.prog 17 #[.int .i64 got, .int .i64 e, .bool ok, .int .i64 want, .int .i64 no] w fun e w' => e = .returned (.bool true) ∧ w = w' := by
  rcases h with ⟨rfl, rfl, rfl⟩ | ⟨rfl, hn, rfl, rfl⟩ | ⟨rfl, rfl, rfl, rfl⟩
  · go_enter Tryd.func17, Tryd.ntmps17
    go_wp2
    go_ret
    exact ⟨rfl, rfl⟩
  · have hn' : (e != 0) = true := by simpa using hn
    clear hn
    go_enter Tryd.func17, Tryd.ntmps17
    go_wp2
    go_ret
    exact ⟨by simp, rfl⟩
  · go_enter Tryd.func17, Tryd.ntmps17
    go_wp2
    go_ret
    exact ⟨by simp, rfl⟩

theorem refAdd_ok (t d : Int) (w : World) (ht0 : 0 ≤ t) (ht1 : t ≤ 1125899906842624) (hd0 : 0 ≤ d) (hd1 : d ≤ 1125899906842624) (hs : t + d ≤ 1125899906842624) :
    Calls Tryd.prog 18 #[.int .i64 t, .int .i64 d] w fun e w' => e = .returned (.tuple #[.int .i64 (t + d), .bool true]) ∧ w = w' := by
  go_enter Tryd.func18, Tryd.ntmps18
  go_wp2
  go_ret2
  exact ⟨rfl, rfl⟩

theorem refAdd_full (t d : Int) (w : World) (ht0 : 0 ≤ t) (ht1 : t ≤ 1125899906842624) (_hd0 : 0 ≤ d) (_hd1 : d ≤ 1125899906842624) (hs : 1125899906842624 < t + d) :
    Calls Tryd.prog 18 #[.int .i64 t, .int .i64 d] w fun e w' => e = .returned (.tuple #[.int .i64 0, .bool false]) ∧ w = w' := by
  go_enter Tryd.func18, Tryd.ntmps18
  go_wp2
  go_ret2
  exact ⟨rfl, rfl⟩

theorem refStop_any (t d : Int) (w : World) (ht0 : 0 ≤ t) (ht1 : t ≤ 1125899906842624) (hd0 : 0 ≤ d) (hd1 : d ≤ 1125899906842624) :
    Calls Tryd.prog 19 #[.int .i64 t, .int .i64 d] w fun e w' => e = .returned (.int .i64 (if t + d ≤ 1125899906842624 then t + d else 1125899906842624)) ∧ w = w' := by
  by_cases hs : t + d ≤ 1125899906842624
  · rw [if_pos hs]
    go_enter Tryd.func19, Tryd.ntmps19
    go_wp2_with (go_at_call 18; refine (refAdd_ok _ _ _ ht0 ht1 hd0 hd1 hs).mono ?_; rintro e w' ⟨rfl, rfl⟩)
    go_ret
    exact ⟨rfl, rfl⟩
  · rw [if_neg hs]
    have hs' : 1125899906842624 < t + d := by omega
    clear hs
    go_enter Tryd.func19, Tryd.ntmps19
    go_wp2_with (go_at_call 18; refine (refAdd_full _ _ _ ht0 ht1 hd0 hd1 hs').mono ?_; rintro e w' ⟨rfl, rfl⟩)
    go_ret
    exact ⟨rfl, rfl⟩

theorem steps_ok (t d : Int) (w : World) (ht0 : 0 ≤ t) (ht1 : t ≤ 1125899906842624) (hd0 : 0 < d) (hd1 : d ≤ 1125899906842624) :
    Calls Tryd.prog 32 #[.int .i64 t, .int .i64 d] w fun e w' => e = .returned (.int .i64 0) ∧ Below w.heap.size w w' := by
  have hz : (d == 0) = false := by rw [beq_eq_false_iff_ne]; omega
  have hd0' : 0 ≤ d := by omega
  go_enter Tryd.func32, Tryd.ntmps32
  go_wp2_with (go_at_call 30; refine (right2_ok t d w ht0 ht1 hd0' hd1).mono ?_; rintro e w' ⟨rfl, rfl⟩)
  go_ret
  exact ⟨rfl, below1 _ _⟩

theorem steps_zero (t : Int) (w : World) (ht0 : 0 ≤ t) (ht1 : t ≤ 1125899906842624) :
    Calls Tryd.prog 32 #[.int .i64 t, .int .i64 0] w fun e w' => e = .returned (.int .i64 2) ∧ Below w.heap.size w w' := by
  go_enter Tryd.func32, Tryd.ntmps32
  go_wp2_with (go_at_call 30; refine (right2_ok t 0 w ht0 ht1 (by omega) (by omega)).mono ?_; rintro e w' ⟨rfl, rfl⟩)
  go_ret
  exact ⟨rfl, below1 _ _⟩

theorem steps_no (t d : Int) (w : World) (h : (t < 0 ∨ 1125899906842624 < t) ∨ (d < 0 ∨ 1125899906842624 < d)) :
    Calls Tryd.prog 32 #[.int .i64 t, .int .i64 d] w fun e w' => e = .returned (.int .i64 120) ∧ Below w.heap.size w w' := by
  have H := Lib.hid h
  clear h
  go_enter Tryd.func32, Tryd.ntmps32
  go_wp2_with (go_at_call 30; refine (right2_no t d w H.out).mono ?_; rintro e w' ⟨rfl, rfl⟩)
  go_ret
  exact ⟨rfl, below1 _ _⟩

theorem down_ok (t d : Int) (w : World) (ht0 : 0 ≤ t) (ht1 : t ≤ 1125899906842624) (hd0 : 0 < d) (hd1 : d ≤ 1125899906842624) :
    Calls Tryd.prog 23 #[.int .i64 t, .int .i64 d] w fun e w' => e = .returned (.tuple #[.int .i64 (t - t % d), .int .i64 0]) ∧ Below w.heap.size w w' := by
  have hz : (d == 0) = false := by rw [beq_eq_false_iff_ne]; omega
  have hm0 : 0 ≤ t % d := Int.emod_nonneg _ (by omega)
  have hm1 : t % d < d := Int.emod_lt_of_pos _ hd0
  go_enter Tryd.func23, Tryd.ntmps23
  go_wp2_with (go_at_call 32; refine (steps_ok t d w ht0 ht1 hd0 hd1).mono ?_; rintro e w' ⟨rfl, hb⟩)
  go_ret2
  exact ⟨rfl, hb⟩

theorem down_zero (t : Int) (w : World) (ht0 : 0 ≤ t) (ht1 : t ≤ 1125899906842624) :
    Calls Tryd.prog 23 #[.int .i64 t, .int .i64 0] w fun e w' => e = .returned (.tuple #[.int .i64 0, .int .i64 2]) ∧ Below w.heap.size w w' := by
  go_enter Tryd.func23, Tryd.ntmps23
  go_wp2_with (go_at_call 32; refine (steps_zero t w ht0 ht1).mono ?_; rintro e w' ⟨rfl, hb⟩)
  go_ret2
  exact ⟨rfl, hb⟩

theorem down_no (t d : Int) (w : World) (h : (t < 0 ∨ 1125899906842624 < t) ∨ (d < 0 ∨ 1125899906842624 < d)) :
    Calls Tryd.prog 23 #[.int .i64 t, .int .i64 d] w fun e w' => e = .returned (.tuple #[.int .i64 0, .int .i64 120]) ∧ Below w.heap.size w w' := by
  have H := Lib.hid h
  clear h
  go_enter Tryd.func23, Tryd.ntmps23
  go_wp2_with (go_at_call 32; refine (steps_no t d w H.out).mono ?_; rintro e w' ⟨rfl, hb⟩)
  go_ret2
  exact ⟨rfl, hb⟩

theorem up_no (t d : Int) (w : World) (h : (t < 0 ∨ 1125899906842624 < t) ∨ (d < 0 ∨ 1125899906842624 < d)) :
    Calls Tryd.prog 22 #[.int .i64 t, .int .i64 d] w fun e w' => e = .returned (.tuple #[.int .i64 0, .int .i64 120]) ∧ Below w.heap.size w w' := by
  have H := Lib.hid h
  clear h
  go_enter Tryd.func22, Tryd.ntmps22
  go_wp2_with (go_at_call 23; refine (down_no t d w H.out).mono ?_; rintro e w' ⟨rfl, hb⟩)
  go_ret2
  exact ⟨rfl, hb⟩

theorem up_zero (t : Int) (w : World) (ht0 : 0 ≤ t) (ht1 : t ≤ 1125899906842624) :
    Calls Tryd.prog 22 #[.int .i64 t, .int .i64 0] w fun e w' => e = .returned (.tuple #[.int .i64 0, .int .i64 2]) ∧ Below w.heap.size w w' := by
  go_enter Tryd.func22, Tryd.ntmps22
  go_wp2_with (go_at_call 23; refine (down_zero t w ht0 ht1).mono ?_; rintro e w' ⟨rfl, hb⟩)
  go_ret2
  exact ⟨rfl, hb⟩

theorem up_same (t d : Int) (w : World) (ht0 : 0 ≤ t) (ht1 : t ≤ 1125899906842624) (hd0 : 0 < d) (hd1 : d ≤ 1125899906842624) (he : t % d = 0) :
    Calls Tryd.prog 22 #[.int .i64 t, .int .i64 d] w fun e w' => e = .returned (.tuple #[.int .i64 t, .int .i64 0]) ∧ Below w.heap.size w w' := by
  have hdn := down_ok t d w ht0 ht1 hd0 hd1
  rw [he, Int.sub_zero] at hdn
  clear he
  have HD := Lib.hid hdn
  clear hdn
  go_enter Tryd.func22, Tryd.ntmps22
  go_wp2_with (go_at_call 23; refine HD.out.mono ?_; rintro e w' ⟨rfl, hb⟩)
  go_ret2
  exact ⟨rfl, hb⟩

theorem up_ok (t d : Int) (w : World) (ht0 : 0 ≤ t) (ht1 : t ≤ 1125899906842624) (hd0 : 0 < d) (hd1 : d ≤ 1125899906842624) (he : 0 < t % d) (hf : t - t % d + d ≤ 1125899906842624) :
    Calls Tryd.prog 22 #[.int .i64 t, .int .i64 d] w fun e w' => e = .returned (.tuple #[.int .i64 (t - t % d + d), .int .i64 0]) ∧ Below w.heap.size w w' := by
  have hm1 : t % d < d := Int.emod_lt_of_pos _ hd0
  have hle : t % d ≤ t := emod_le_self t d ht0 hd0
  have hne : (t - t % d == t) = false := by rw [beq_eq_false_iff_ne]; omega
  go_enter Tryd.func22, Tryd.ntmps22
  go_wp2_with (first | (go_at_call 23; refine (down_ok t d w ht0 ht1 hd0 hd1).mono ?_; rintro e w' ⟨rfl, hb⟩) | (go_at_call 13; refine (add_ok (t - t % d) d _ (by omega) (by omega) (by omega) (by omega) (by omega)).mono ?_; rintro e w'' ⟨rfl, hb2⟩))
  go_ret2
  exact ⟨rfl, hb.trans (hb2.mono hb.size)⟩

theorem up_full (t d : Int) (w : World) (ht0 : 0 ≤ t) (ht1 : t ≤ 1125899906842624) (hd0 : 0 < d) (hd1 : d ≤ 1125899906842624) (he : 0 < t % d) (hf : 1125899906842624 < t - t % d + d) :
    Calls Tryd.prog 22 #[.int .i64 t, .int .i64 d] w fun e w' => e = .returned (.tuple #[.int .i64 0, .int .i64 6]) ∧ Below w.heap.size w w' := by
  have hm1 : t % d < d := Int.emod_lt_of_pos _ hd0
  have hle : t % d ≤ t := emod_le_self t d ht0 hd0
  have hne : (t - t % d == t) = false := by rw [beq_eq_false_iff_ne]; omega
  go_enter Tryd.func22, Tryd.ntmps22
  go_wp2_with (first | (go_at_call 23; refine (down_ok t d w ht0 ht1 hd0 hd1).mono ?_; rintro e w' ⟨rfl, hb⟩) | (go_at_call 13; refine (add_full (t - t % d) d _ (by omega) (by omega) (by omega) (by omega) (by omega)).mono ?_; rintro e w'' ⟨rfl, hb2⟩))
  go_ret2
  exact ⟨rfl, hb.trans (hb2.mono hb.size)⟩

theorem refDown_ok (t d : Int) (w : World) (ht0 : 0 ≤ t) (ht1 : t ≤ 1125899906842624) (hd0 : 0 < d) :
    Calls Tryd.prog 25 #[.int .i64 t, .int .i64 d] w fun e w' => e = .returned (.int .i64 (t - t % d)) ∧ w = w' := by
  have hm0 : 0 ≤ t % d := Int.emod_nonneg _ (by omega)
  have hle : t % d ≤ t := emod_le_self t d ht0 hd0
  have hq := ediv_mul_eq t d
  have hz : (d == 0) = false := by rw [beq_eq_false_iff_ne]; omega
  have h1 : 0 ≤ t / d * d := by omega
  have h2 : t / d * d ≤ 1125899906842624 := by omega
  have HQ := Lib.hid hq
  clear hq
  go_enter Tryd.func25, Tryd.ntmps25
  go_wp2
  go_ret
  rw [HQ.out]
  exact ⟨rfl, rfl⟩

theorem refUp_same (t d : Int) (w : World) (ht0 : 0 ≤ t) (ht1 : t ≤ 1125899906842624) (hd0 : 0 < d) (he : t % d = 0) :
    Calls Tryd.prog 24 #[.int .i64 t, .int .i64 d] w fun e w' => e = .returned (.tuple #[.int .i64 t, .bool true]) ∧ w = w' := by
  have hdn := refDown_ok t d w ht0 ht1 hd0
  rw [he, Int.sub_zero] at hdn
  clear he
  have HD := Lib.hid hdn
  clear hdn
  go_enter Tryd.func24, Tryd.ntmps24
  go_wp2_with (go_at_call 25; refine HD.out.mono ?_; rintro e w' ⟨rfl, rfl⟩)
  go_ret2
  exact ⟨rfl, rfl⟩

theorem refUp_ok (t d : Int) (w : World) (ht0 : 0 ≤ t) (ht1 : t ≤ 1125899906842624) (hd0 : 0 < d) (hd1 : d ≤ 1125899906842624) (he : 0 < t % d) (hf : t - t % d + d ≤ 1125899906842624) :
    Calls Tryd.prog 24 #[.int .i64 t, .int .i64 d] w fun e w' => e = .returned (.tuple #[.int .i64 (t - t % d + d), .bool true]) ∧ w = w' := by
  have hm1 : t % d < d := Int.emod_lt_of_pos _ hd0
  have hle : t % d ≤ t := emod_le_self t d ht0 hd0
  have hne : (t - t % d == t) = false := by rw [beq_eq_false_iff_ne]; omega
  go_enter Tryd.func24, Tryd.ntmps24
  go_wp2_with (first | (go_at_call 25; refine (refDown_ok t d w ht0 ht1 hd0).mono ?_; rintro e w' ⟨rfl, rfl⟩) | (go_at_call 18; refine (refAdd_ok (t - t % d) d _ (by omega) (by omega) (by omega) (by omega) (by omega)).mono ?_; rintro e w'' ⟨rfl, rfl⟩))
  go_ret2
  exact ⟨rfl, rfl⟩

theorem refUp_full (t d : Int) (w : World) (ht0 : 0 ≤ t) (ht1 : t ≤ 1125899906842624) (hd0 : 0 < d) (hd1 : d ≤ 1125899906842624) (he : 0 < t % d) (hf : 1125899906842624 < t - t % d + d) :
    Calls Tryd.prog 24 #[.int .i64 t, .int .i64 d] w fun e w' => e = .returned (.tuple #[.int .i64 0, .bool false]) ∧ w = w' := by
  have hm1 : t % d < d := Int.emod_lt_of_pos _ hd0
  have hle : t % d ≤ t := emod_le_self t d ht0 hd0
  have hne : (t - t % d == t) = false := by rw [beq_eq_false_iff_ne]; omega
  go_enter Tryd.func24, Tryd.ntmps24
  go_wp2_with (first | (go_at_call 25; refine (refDown_ok t d w ht0 ht1 hd0).mono ?_; rintro e w' ⟨rfl, rfl⟩) | (go_at_call 18; refine (refAdd_full (t - t % d) d _ (by omega) (by omega) (by omega) (by omega) (by omega)).mono ?_; rintro e w'' ⟨rfl, rfl⟩))
  go_ret2
  exact ⟨rfl, rfl⟩

theorem times_no (d n : Int) (w : World) (h : d < 0 ∨ 1125899906842624 < d) :
    Calls Tryd.prog 20 #[.int .i64 d, .int .i64 n] w fun e w' => e = .returned (.tuple #[.int .i64 0, .int .i64 120]) ∧ Below w.heap.size w w' := by
  have H := Lib.hid h
  clear h
  go_enter Tryd.func20, Tryd.ntmps20
  go_wp2_with (go_at_call 30; refine (right1_no d w H.out).mono ?_; rintro e w' ⟨rfl, rfl⟩)
  go_ret2
  exact ⟨rfl, below1 _ _⟩

theorem times_neg (d n : Int) (w : World) (h0 : 0 ≤ d) (h1 : d ≤ 1125899906842624) (hn : n < 0) :
    Calls Tryd.prog 20 #[.int .i64 d, .int .i64 n] w fun e w' => e = .returned (.tuple #[.int .i64 0, .int .i64 2]) ∧ Below w.heap.size w w' := by
  have hg : decide (0 ≤ n) = false := by simp; omega
  by_cases hz : d = 0
  · subst hz
    go_enter Tryd.func20, Tryd.ntmps20
    go_wp2_with (go_at_call 30; refine (right1_ok 0 w h0 h1).mono ?_; rintro e w' ⟨rfl, rfl⟩)
    go_ret2
    exact ⟨rfl, below1 _ _⟩
  · have hz' : (d == 0) = false := by rw [beq_eq_false_iff_ne]; exact hz
    clear hz
    go_enter Tryd.func20, Tryd.ntmps20
    go_wp2_with (go_at_call 30; refine (right1_ok d w h0 h1).mono ?_; rintro e w' ⟨rfl, rfl⟩)
    go_ret2
    exact ⟨rfl, below1 _ _⟩

theorem times_zero (n : Int) (w : World) (hn : 0 ≤ n) :
    Calls Tryd.prog 20 #[.int .i64 0, .int .i64 n] w fun e w' => e = .returned (.tuple #[.int .i64 0, .int .i64 0]) ∧ Below w.heap.size w w' := by
  have hg : decide (0 ≤ n) = true := by simp; omega
  go_enter Tryd.func20, Tryd.ntmps20
  go_wp2_with (go_at_call 30; refine (right1_ok 0 w (by omega) (by omega)).mono ?_; rintro e w' ⟨rfl, rfl⟩)
  go_ret2
  exact ⟨rfl, below1 _ _⟩

theorem mul_bound (d n : Int) (hd : 0 < d) (h1 : d ≤ 1125899906842624) (hn : 0 ≤ n) (hq : n ≤ 1125899906842624 / d) : 0 ≤ n * d ∧ n * d ≤ 1125899906842624 := by
  refine ⟨Int.mul_nonneg hn (by omega), ?_⟩
  have h2 := Int.mul_le_mul_of_nonneg_right hq (show 0 ≤ d by omega)
  have h3 := ediv_mul_eq 1125899906842624 d
  have h4 : 0 ≤ 1125899906842624 % d := Int.emod_nonneg _ (by omega)
  omega

theorem times_in (d n : Int) (w : World) (h0 : 0 < d) (h1 : d ≤ 1125899906842624) (hn : 0 ≤ n) (hq : n ≤ 1125899906842624 / d) :
    Calls Tryd.prog 20 #[.int .i64 d, .int .i64 n] w fun e w' => e = .returned (.tuple #[.int .i64 (n * d), .int .i64 0]) ∧ Below w.heap.size w w' := by
  have hz' : (d == 0) = false := by rw [beq_eq_false_iff_ne]; omega
  have hb := mul_bound d n h0 h1 hn hq
  have hb1 := hb.1
  have hb2 := hb.2
  clear hb
  have h00 : 0 ≤ d := by omega
  go_enter Tryd.func20, Tryd.ntmps20
  go_wp2_with (go_at_call 30; refine (right1_ok d w h00 h1).mono ?_; rintro e w' ⟨rfl, rfl⟩)
  go_ret2
  exact ⟨rfl, below1 _ _⟩

theorem times_over (d n : Int) (w : World) (h0 : 0 < d) (h1 : d ≤ 1125899906842624) (hn : 0 ≤ n) (hq : 1125899906842624 / d < n) :
    Calls Tryd.prog 20 #[.int .i64 d, .int .i64 n] w fun e w' => e = .returned (.tuple #[.int .i64 1125899906842624, .int .i64 0]) ∧ Below w.heap.size w w' := by
  have hz' : (d == 0) = false := by rw [beq_eq_false_iff_ne]; omega
  have h00 : 0 ≤ d := by omega
  go_enter Tryd.func20, Tryd.ntmps20
  go_wp2_with (go_at_call 30; refine (right1_ok d w h00 h1).mono ?_; rintro e w' ⟨rfl, rfl⟩)
  go_ret2
  exact ⟨rfl, below1 _ _⟩

theorem refTimes_zero (n : Int) (w : World) :
    Calls Tryd.prog 21 #[.int .i64 0, .int .i64 n] w fun e w' => e = .returned (.int .i64 0) ∧ w = w' := by
  go_enter Tryd.func21, Tryd.ntmps21
  go_wp2
  go_ret
  exact ⟨by simp, rfl⟩

theorem refTimes_in (d n : Int) (w : World) (h0 : 0 < d) (h1 : d ≤ 1125899906842624) (hn : 0 ≤ n) (hq : n ≤ 1125899906842624 / d) :
    Calls Tryd.prog 21 #[.int .i64 d, .int .i64 n] w fun e w' => e = .returned (.int .i64 (n * d)) ∧ w = w' := by
  have hz' : (d == 0) = false := by rw [beq_eq_false_iff_ne]; omega
  have hb := mul_bound d n h0 h1 hn hq
  have hb1 := hb.1
  have hb2 := hb.2
  clear hb
  have hg : decide (1125899906842624 / d < n) = false := by simp; omega
  go_enter Tryd.func21, Tryd.ntmps21
  go_wp2
  go_ret
  exact ⟨rfl, rfl⟩

theorem refTimes_over (d n : Int) (w : World) (h0 : 0 < d) (h1 : d ≤ 1125899906842624) (hq : 1125899906842624 / d < n) :
    Calls Tryd.prog 21 #[.int .i64 d, .int .i64 n] w fun e w' => e = .returned (.int .i64 1125899906842624) ∧ w = w' := by
  have hz' : (d == 0) = false := by rw [beq_eq_false_iff_ne]; omega
  go_enter Tryd.func21, Tryd.ntmps21
  go_wp2
  go_ret
  exact ⟨rfl, rfl⟩

end Go.Proofs.YtcedkaafdblboaaDoor
