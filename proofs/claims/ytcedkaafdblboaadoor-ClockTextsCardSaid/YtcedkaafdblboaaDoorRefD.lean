/-
  The nine digits behind the point.
-/
import Derived.Test.YtcedkaafdblboaaDoorReadW
namespace Go.Proofs.YtcedkaafdblboaaDoor
open Go.RowKit

theorem nine_at (r j : Nat) (hj : j < 9) : (1000000000 + r) / 10 ^ (8 - j) % 10 = r / 10 ^ (8 - j) % 10 := by
  have h : j = 0 ∨ j = 1 ∨ j = 2 ∨ j = 3 ∨ j = 4 ∨ j = 5 ∨ j = 6 ∨ j = 7 ∨ j = 8 := by omega
  rcases h with rfl | rfl | rfl | rfl | rfl | rfl | rfl | rfl | rfl <;> simp <;> omega

theorem padL_at (r : Nat) (hr : r < 1000000000) (j : Nat) (hj : j < 9) : ((padL r).getD j 0).toNat = 48 + r / 10 ^ (8 - j) % 10 := by
  have hn : Lib.nDigits (1000000000 + r) = 10 := Lib.nDigits_unique 9 _ (by omega) (by omega)
  have hb : r / 10 ^ (8 - j) % 10 < 10 := Nat.mod_lt _ (by decide)
  have e : (padL r).getD j 0 = Lib.dg (1000000000 + r) (8 - j) := by
    unfold padL
    rw [Lib.decDigits_eq, hn]
    have h10 : j + 1 < 10 := by omega
    simp [List.getD, h10]
  rw [e]
  unfold Lib.dg
  rw [nine_at r j hj]
  generalize r / 10 ^ (8 - j) % 10 = d at *
  simp
  omega

theorem trim_at (l : List UInt8) (n : Nat) (hn1 : 1 ≤ n) (hn : n ≤ l.length) (ht : ∀ j, n ≤ j → j < l.length → l.getD j 0 = 48) (hlast : l.getD (n - 1) 0 ≠ 48) : Lib.trimRightB l 48 = l.take n := by
  have hl : l = l.take n ++ List.replicate (l.length - n) 48 := by
    apply List.ext_getElem
    · simp; omega
    · intro j h1 h2
      by_cases hj : j < n
      · rw [List.getElem_append_left (by simp; omega)]; simp
      · rw [List.getElem_append_right (by simp; omega), List.getElem_replicate]
        have := ht j (by omega) h1
        simpa [h1] using this
  have hx : l.take n = l.take (n - 1) ++ [l.getD (n - 1) 0] := by
    have hlt : n - 1 < l.length := by omega
    conv => lhs; rw [show n = (n - 1) + 1 from by omega, List.take_add_one]
    simp [hlt]
  have drop_rep : ∀ (k : Nat) (x : List UInt8), (List.replicate k (48 : UInt8) ++ x).dropWhile (· == 48) = x.dropWhile (· == 48) := by
    intro k x
    induction k with
    | zero => rfl
    | succ k ih => rw [List.replicate_succ, List.cons_append]; simp [ih]
  unfold Lib.trimRightB
  conv => lhs; rw [hl]
  rw [List.reverse_append, List.reverse_replicate, drop_rep]
  rw [hx, List.reverse_append, List.reverse_singleton, List.singleton_append]
  have hne : (l.getD (n - 1) 0 == 48) = false := by rw [beq_eq_false_iff_ne]; exact hlast
  rw [List.dropWhile_cons, if_neg (by rw [hne]; decide), List.reverse_cons, List.reverse_reverse]

theorem pad_zero (r : Nat) (hr : r < 1000000000) (h : ∀ j, j < 9 → (padL r).getD j 0 = 48) : r = 0 := by
  obtain ⟨p1, p2⟩ := padL_law r hr
  have e : padL r = List.replicate 9 48 := by
    apply List.ext_getElem
    · rw [p1, List.length_replicate]
    · intro j h1 h2
      rw [List.getElem_replicate]
      have := h j (by omega)
      simpa [h1] using this
  have h1 := p2 0
  rw [e, zeros_law] at h1
  simp at h1
  omega

end Go.Proofs.YtcedkaafdblboaaDoor
