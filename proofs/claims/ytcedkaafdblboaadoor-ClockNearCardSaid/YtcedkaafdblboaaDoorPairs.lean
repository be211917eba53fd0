/-
  Small facts that the walks of the clock laws share.
-/
import Derived.Test.YtcedkaafdblboaaDoorTxtA
import Derived.Deep.QuietTactic
import Derived.BigQuiet
import Derived.Outline
namespace Go.Proofs.YtcedkaafdblboaaDoor
open Go.RowKit

theorem chainB {w a b : World} (h : Below w.heap.size w a) (k : Below a.heap.size a b) : Below w.heap.size w b := h.trans (k.mono h.size)

theorem below_drewN' {B : Nat} {a w : World} {n : Nat} (h : Below B a w) : Below B a (w.drewN n) := ⟨h.os, h.tape, h.output, h.size, h.block⟩

theorem fits_eq {a b : Int} (h : a = b) : Fits a 0 true b 0 := .inr (.inr ⟨rfl, rfl, h, rfl⟩)
theorem fits_no : Fits 0 120 false 0 0 := .inl ⟨rfl, rfl, rfl⟩
theorem fits_ok (v : Int) : Fits v 0 true v 0 := .inr (.inr ⟨rfl, rfl, rfl, rfl⟩)
theorem fits_full (v : Int) : Fits 0 6 true v 6 := .inr (.inl ⟨rfl, by decide, rfl, rfl⟩)
theorem fits_arg (v : Int) : Fits 0 2 true v 2 := .inr (.inl ⟨rfl, by decide, rfl, rfl⟩)

end Go.Proofs.YtcedkaafdblboaaDoor
