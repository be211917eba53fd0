/-
  What the laws' walks ask of their arguments: slices of numbers, of texts.
-/
import Derived.Test.YtcedkaafdblboaaDoorMetC
namespace Go.Proofs.YtcedkaafdblboaaDoor
open Go.RowKit

/-- A slice of numbers. -/
structure NumsAt (w : World) (a : Option Addr) (len : Nat) : Prop where
  le : len ≤ 9223372036854775807
  cells : len = 0 ∨ ∃ (b off : Nat) (S : Nat → Int), a = some ⟨b, off, none⟩ ∧ b < w.heap.size ∧ (∀ i, i < len → w.cell? ⟨b, off + i, none⟩ = some (.int .i64 (S i))) ∧ ∀ i, i < len → -9223372036854775808 ≤ S i ∧ S i ≤ 9223372036854775807

/-- A slice of texts. -/
structure TextsAt (w : World) (a : Option Addr) (len : Nat) : Prop where
  le : len ≤ 9223372036854775807
  cells : len = 0 ∨ ∃ (b off : Nat) (S : Nat → List UInt8), a = some ⟨b, off, none⟩ ∧ b < w.heap.size ∧ (∀ i, i < len → w.cell? ⟨b, off + i, none⟩ = some (.string ⟨(S i).toArray⟩)) ∧ ∀ i, i < len → (S i).length ≤ 9223372036854775807

theorem NumsAt.below {w w' : World} {a : Option Addr} {len : Nat} (h : NumsAt w a len) (hb : Below w.heap.size w w') : NumsAt w' a len :=
  ⟨h.le, h.cells.imp id fun ⟨b, off, S, ha, hbl, hc, hs⟩ => ⟨b, off, S, ha, Nat.lt_of_lt_of_le hbl hb.size, fun i hi => (hb.cell (p := ⟨b, off + i, none⟩) hbl).trans (hc i hi), hs⟩⟩
theorem TextsAt.below {w w' : World} {a : Option Addr} {len : Nat} (h : TextsAt w a len) (hb : Below w.heap.size w w') : TextsAt w' a len :=
  ⟨h.le, h.cells.imp id fun ⟨b, off, S, ha, hbl, hc, hs⟩ => ⟨b, off, S, ha, Nat.lt_of_lt_of_le hbl hb.size, fun i hi => (hb.cell (p := ⟨b, off + i, none⟩) hbl).trans (hc i hi), hs⟩⟩

theorem NumsAt.get {w : World} {a : Option Addr} {len : Nat} (h : NumsAt w a len) {k : Nat} (hk : k < len) :
    ∃ (b off : Nat) (s : Int), a = some ⟨b, off, none⟩ ∧ w.cell? ⟨b, off + k, none⟩ = some (.int .i64 s) ∧ -9223372036854775808 ≤ s ∧ s ≤ 9223372036854775807 := by
  rcases h.cells with h0 | ⟨b, off, S, ha, _, hc, hs⟩
  · omega
  · exact ⟨b, off, S k, ha, hc k hk, hs k hk⟩
theorem TextsAt.get {w : World} {a : Option Addr} {len : Nat} (h : TextsAt w a len) {k : Nat} (hk : k < len) :
    ∃ (b off : Nat) (l : List UInt8), a = some ⟨b, off, none⟩ ∧ w.cell? ⟨b, off + k, none⟩ = some (.string ⟨l.toArray⟩) ∧ l.length ≤ 9223372036854775807 := by
  rcases h.cells with h0 | ⟨b, off, S, ha, _, hc, hs⟩
  · omega
  · exact ⟨b, off, S k, ha, hc k hk, hs k hk⟩

end Go.Proofs.YtcedkaafdblboaaDoor
