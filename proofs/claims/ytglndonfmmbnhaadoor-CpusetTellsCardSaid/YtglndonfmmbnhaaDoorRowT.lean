/-
  A row's arguments opened: slices of sets, of numbers, of texts.
-/
import Derived.Test.YtglndonfmmbnhaaDoorRowS
import Derived.Test.YtglndonfmmbnhaaDoorCpsZ
import Derived.SliceStrings
namespace Go.Proofs.YtglndonfmmbnhaaDoor
open Go.ChangeShapes Go.WideShapes Go.ChangeAt Go.RowKit

theorem under34 : Tryd.prog.underlying 34 = some (.slice 3) := by kernel_rfl
theorem under41 : Tryd.prog.underlying 41 = some (.slice 9) := by kernel_rfl
theorem under3 : Tryd.prog.underlying 3 = some (.int .i64) := by kernel_rfl
theorem under9 : Tryd.prog.underlying 9 = some .string := by kernel_rfl
theorem cells3 : Tryd.prog.cellsOf 3 = 1 := by kernel_rfl

theorem sets_at {H : Type} {enc : TypeId × Value → H} {W : World} {a : Option Addr} {len cap : Nat} {d : DataW H} {p : List MemPlace}
    (h : DataW.Trod enc Tryd.prog W 0 (fun _ => true) true 22 (.slice a len cap) d p) : SetsAt W a len := by
  rcases open_sets h with rfl | ⟨b, off, S, rfl, hl, hb, hS, hlt⟩
  · exact ⟨Nat.zero_le _, .inl rfl⟩
  · exact ⟨hl, .inr ⟨b, off, S, rfl, hb, hS, hlt⟩⟩

theorem nums_at {H : Type} {enc : TypeId × Value → H} {W : World} {a : Option Addr} {len cap : Nat} {d : DataW H} {p : List MemPlace}
    (h : DataW.Trod enc Tryd.prog W 0 (fun _ => true) true 34 (.slice a len cap) d p) : NumsAt W a len := by
  obtain ⟨fuel, hf⟩ := h
  rcases open_ints under34 under3 cells3 hf with ⟨hcs, _⟩ | ⟨a', len', cap', zs, hcs, _, hl, hm, hz, _, hx, hw⟩
  · simp [Value.cells] at hcs
    obtain ⟨-, rfl, -⟩ := hcs
    exact ⟨Nat.zero_le _, .inl rfl⟩
  simp [Value.cells] at hcs
  obtain ⟨rfl, rfl, rfl⟩ := hcs
  refine ⟨by unfold maxLen at hm; omega, ?_⟩
  by_cases h0 : len = 0
  · exact .inl h0
  right
  simp only [if_true] at hz
  obtain ⟨b, off, spot⟩ := a'
  have hspot : spot = none := by simpa [Addr.add] using World.cell?_spot (hx 0 (by omega))
  subst hspot
  have hc : ∀ i, i < len → W.cell? ⟨b, off + i, none⟩ = some (.int .i64 (zs.getD i 0)) := fun i hi => by
    rw [← Go.WideShapes.add_plain]; exact hx i (by omega)
  refine ⟨b, off, fun i => zs.getD i 0, rfl, cell_lt (hc 0 (by omega)), hc, fun i hi => wf_i64 (hw _ ?_)⟩
  have hi' : i < zs.length := by omega
  simp [List.getD, hi']

theorem bytes_back (s : ByteArray) : (⟨s.data.toList.toArray⟩ : ByteArray) = s := by cases s; simp

theorem texts_at {H : Type} {enc : TypeId × Value → H} {W : World} {a : Option Addr} {len cap : Nat} {d : DataW H} {p : List MemPlace}
    (h : DataW.Trod enc Tryd.prog W 0 (fun _ => true) true 41 (.slice a len cap) d p) : TextsAt W a len := by
  obtain ⟨fuel, hf⟩ := h
  rcases open_strings under41 under9 cells9 hf with ⟨hcs, _⟩ | ⟨a', len', cap', ss, hcs, _, hl, hm, hz, _, hx, hw⟩
  · simp [Value.cells] at hcs
    obtain ⟨-, rfl, -⟩ := hcs
    exact ⟨Nat.zero_le _, .inl rfl⟩
  simp [Value.cells] at hcs
  obtain ⟨rfl, rfl, rfl⟩ := hcs
  refine ⟨by unfold maxLen at hm; omega, ?_⟩
  by_cases h0 : len = 0
  · exact .inl h0
  right
  simp only [if_true] at hz
  obtain ⟨b, off, spot⟩ := a'
  have hspot : spot = none := by simpa [Addr.add] using World.cell?_spot (hx 0 (by omega))
  subst hspot
  have hc : ∀ i, i < len → W.cell? ⟨b, off + i, none⟩ = some (.string ⟨(ss.getD i ByteArray.empty).data.toList.toArray⟩) := fun i hi => by
    rw [bytes_back, ← Go.WideShapes.add_plain]; exact hx i (by omega)
  refine ⟨b, off, fun i => (ss.getD i ByteArray.empty).data.toList, rfl, cell_lt (hc 0 (by omega)), hc, fun i hi => ?_⟩
  have hi' : i < ss.length := by omega
  have hs := hw (ss.getD i ByteArray.empty) (by simp [List.getD, hi'])
  unfold maxLen at hs
  show (ss.getD i ByteArray.empty).data.toList.length ≤ _
  rw [Array.length_toList]
  exact hs

end Go.Proofs.YtglndonfmmbnhaaDoor
