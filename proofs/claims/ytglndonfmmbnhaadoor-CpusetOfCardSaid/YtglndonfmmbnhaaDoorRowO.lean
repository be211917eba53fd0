/-
  A slice of rows of numbers, opened.
-/
import Derived.Test.YtglndonfmmbnhaaDoorRowT
import Derived.Test.YtglndonfmmbnhaaDoorOfW
namespace Go.Proofs.YtglndonfmmbnhaaDoor
open Go.ChangeShapes Go.WideShapes Go.ChangeAt Go.RowKit

theorem under52 : Tryd.prog.underlying 52 = some (.slice 34) := by kernel_rfl
theorem cells34 : Tryd.prog.cellsOf 34 = 1 := by kernel_rfl

theorem nums_of_trod {H : Type} {enc : TypeId × Value → H} {W : World} {fuel : Nat} {cs : List Value} {x : DataW H × List MemPlace}
    (hf : DataW.trod enc Tryd.prog W 0 (fun _ => true) true fuel 34 cs = some x) : ∃ (a : Option Addr) (len cap : Nat), cs = [.slice a len cap] ∧ NumsAt W a len ∧ len ≤ cap := by
  rcases open_ints under34 under3 cells3 hf with ⟨hcs, _⟩ | ⟨a', len', cap', zs, hcs, _, hl, hm, hz, _, hx, hw⟩
  · exact ⟨none, 0, 0, hcs, ⟨Nat.zero_le _, .inl rfl⟩, Nat.le_refl _⟩
  refine ⟨some a', len', cap', hcs, ⟨by unfold maxLen at hm; omega, ?_⟩, hl⟩
  by_cases h0 : len' = 0
  · exact .inl h0
  right
  simp only [if_true] at hz
  obtain ⟨b, off, spot⟩ := a'
  have hspot : spot = none := by simpa [Addr.add] using World.cell?_spot (hx 0 (by omega))
  subst hspot
  have hc : ∀ i, i < len' → W.cell? ⟨b, off + i, none⟩ = some (.int .i64 (zs.getD i 0)) := fun i hi => by
    rw [← Go.WideShapes.add_plain]; exact hx i (by omega)
  refine ⟨b, off, fun i => zs.getD i 0, rfl, cell_lt (hc 0 (by omega)), hc, fun i hi => wf_i64 (hw _ ?_)⟩
  have hi' : i < zs.length := by omega
  simp [List.getD, hi']

theorem rows_at {H : Type} {enc : TypeId × Value → H} {W : World} {a : Option Addr} {len cap : Nat} {d : DataW H} {p : List MemPlace}
    (h : DataW.Trod enc Tryd.prog W 0 (fun _ => true) true 52 (.slice a len cap) d p) : RowsAt W a len := by
  obtain ⟨fuel, hf⟩ := h
  rcases Deep.open_slice under52 hf with ⟨hcs, _⟩ | ⟨a', len', cap', m, n, D, Pl, hcs, _, hl, hm, hmm, _, hx⟩
  · simp [Value.cells] at hcs
    obtain ⟨-, rfl, -⟩ := hcs
    exact ⟨Nat.zero_le _, .inl rfl⟩
  simp [Value.cells] at hcs
  obtain ⟨rfl, rfl, rfl⟩ := hcs
  refine ⟨by unfold maxLen at hm; omega, ?_⟩
  by_cases h0 : len = 0
  · exact .inl h0
  right
  simp only [if_true] at hmm
  subst hmm
  have each : ∀ i, i < len → ∃ (a2 : Option Addr) (len2 cap2 : Nat), W.cell? (a'.add i) = some (.slice a2 len2 cap2) ∧ NumsAt W a2 len2 ∧ len2 ≤ cap2 := by
    intro i hi
    obtain ⟨cs', h1, h2⟩ := hx i (by omega)
    rw [cells34] at h1
    obtain ⟨a2, len2, cap2, rfl, hN, hc2⟩ := nums_of_trod h2
    obtain ⟨_, _, hcell⟩ := World.cells?_some h1
    have c0 := hcell 0 (by simp)
    refine ⟨a2, len2, cap2, ?_, hN, hc2⟩
    rw [Deep.add_add] at c0
    simpa using c0
  obtain ⟨b, off, spot⟩ := a'
  have hspot : spot = none := by
    obtain ⟨a2, len2, cap2, h1, -⟩ := each 0 (by omega)
    simpa [Addr.add] using World.cell?_spot h1
  subst hspot
  refine ⟨b, off, rfl, ?_, fun i hi => ?_⟩
  · obtain ⟨a2, len2, cap2, h1, -⟩ := each 0 (by omega)
    exact cell_lt h1
  · obtain ⟨a2, len2, cap2, h1, h2, h3⟩ := each i hi
    exact ⟨a2, len2, cap2, by rw [← Go.WideShapes.add_plain]; exact h1, h2, h3⟩

end Go.Proofs.YtglndonfmmbnhaaDoor
