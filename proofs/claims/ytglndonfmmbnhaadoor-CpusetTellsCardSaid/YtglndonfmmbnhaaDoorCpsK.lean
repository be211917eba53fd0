/-
  wakes; what the texts are of one another.
-/
import Derived.Test.YtglndonfmmbnhaaDoorCpsR
namespace Go.Proofs.YtglndonfmmbnhaaDoor
open Go.RowKit

theorem wakes_of (w : World) : Calls Tryd.prog 18 #[.slice (some ⟨w.heap.size, 0, none⟩) 3 3] (w.alloc (.cells #[.int .i64 1, .int .i64 3, .int .i64 1] 3)) fun e w' => e = .returned (.tuple #[.int .u32 10, .int .i64 0]) ∧ w.alloc (.cells #[.int .i64 1, .int .i64 3, .int .i64 1] 3) = w' := by
  have h := of_ok w.heap.size 0 3 3 (fun i => if i = 1 then 3 else 1) (w.alloc (.cells #[.int .i64 1, .int .i64 3, .int .i64 1] 3)) (by decide) ?_ ?_
  · exact h
  · intro i hi
    have h3 : i = 0 ∨ i = 1 ∨ i = 2 := by omega
    rcases h3 with rfl | rfl | rfl <;> simp [go_sem]
  · intro i hi
    have h3 : i = 0 ∨ i = 1 ∨ i = 2 := by omega
    rcases h3 with rfl | rfl | rfl <;> decide

theorem text11 : textL 11 = [48, 45, 49, 44, 51] := by decide +kernel
theorem parse11 : parseN [48, 45, 49, 44, 51] = some 11 := by decide +kernel

theorem wakes_text (w : World) (hL : LibOk w) : Calls Tryd.prog 21 #[.int .u32 11] w fun e w' => e = .returned (.tuple #[.string ⟨#[48, 45, 49, 44, 51]⟩, .int .i64 0]) ∧ Below w.heap.size w w' := by
  have h := text_any 11 w (by decide) hL.tz (by have := hL.big; omega)
  rw [text11] at h
  exact h

theorem wakes_parse (w : World) (hL : LibOk w) : Calls Tryd.prog 24 #[.string ⟨#[48, 45, 49, 44, 51]⟩] w fun e w' => e = .returned (.tuple #[.int .u32 11, .int .i64 0]) ∧ Below w.heap.size w w' := by
  have h := parse_any [48, 45, 49, 44, 51] (by decide) w hL
  unfold parseV at h
  rw [parse11] at h
  exact h

set_option maxRecDepth 100000 in
theorem wakes_yes (w : World) (hL : LibOk w) : Calls Tryd.prog 10 #[] w fun e w' => e = .returned (.bool true) ∧ Below w.heap.size w w' := by
  have hO := wakes_of w
  have HO := Lib.hid hO
  have hb : Below w.heap.size w (w.alloc (.cells #[.int .i64 1, .int .i64 3, .int .i64 1] 3)) := (Below.refl _ w).alloc (Nat.le_refl _) _
  have HT : Hid (∀ w', Below w.heap.size w w' → Calls Tryd.prog 21 #[.int .u32 11] w' fun e w'' => e = .returned (.tuple #[.string ⟨#[48, 45, 49, 44, 51]⟩, .int .i64 0]) ∧ Below w.heap.size w w'') := fun w' h => (wakes_text w' (hL.below h hL.big)).mono fun e w'' hx => ⟨hx.1, h.trans (hx.2.mono h.size)⟩
  have HP : Hid (∀ w', Below w.heap.size w w' → Calls Tryd.prog 24 #[.string ⟨#[48, 45, 49, 44, 51]⟩] w' fun e w'' => e = .returned (.tuple #[.int .u32 11, .int .i64 0]) ∧ Below w.heap.size w w'') := fun w' h => (wakes_parse w' (hL.below h hL.big)).mono fun e w'' hx => ⟨hx.1, h.trans (hx.2.mono h.size)⟩
  clear hO hL
  go_enter Tryd.func10, Tryd.ntmps10
  go_wp2_with (first | (go_at_call 18; refine HO.out.mono ?_; rintro e w' ⟨rfl, rfl⟩) | (go_at_call 21; refine (HT.out _ hb).mono ?_; rintro e w1 ⟨rfl, hb1⟩) | (go_at_call 24; refine (HP.out _ hb1).mono ?_; rintro e w2 ⟨rfl, hb2⟩))
  go_ret
  exact ⟨rfl, hb2⟩

end Go.Proofs.YtglndonfmmbnhaaDoor
