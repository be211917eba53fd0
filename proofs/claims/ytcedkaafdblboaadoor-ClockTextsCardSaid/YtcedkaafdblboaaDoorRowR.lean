/-
  What ClockRead's and ClockTexts' rows share: the library out of the listed variables, slices of times and of texts opened, the start.
-/
import Derived.Test.YtcedkaafdblboaaDoorRowK
import Derived.Test.YtcedkaafdblboaaDoorCkZ
import Derived.SliceStrings
import Derived.Shelf.Vars
namespace Go.Proofs.YtcedkaafdblboaaDoor
open Go.ChangeShapes Go.WideShapes Go.ChangeAt Go.RowKit

theorem gRange : Tryd.prog.globalNamed "strconv.ErrRange" = some 3 := by kernel_rfl
theorem tRange : (Tryd.prog.globals[3]?).map (·.type) = some 60 := by kernel_rfl
theorem gWrong : Tryd.prog.globalNamed "strconv.ErrSyntax" = some 2 := by kernel_rfl
theorem tWrong : (Tryd.prog.globals[2]?).map (·.type) = some 60 := by kernel_rfl
theorem cells112 : Tryd.prog.cellsOf 112 = 1 := by kernel_rfl
theorem cells9 : Tryd.prog.cellsOf 9 = 1 := by kernel_rfl
theorem under110 : Tryd.prog.underlying 110 = some (.pointer 112) := by kernel_rfl
theorem under112 : Tryd.prog.underlying 112 = some (.struct #[{ name := "s", type := 9, offset := 0, embedded := false, tag := "", pkgPath := "errors", byteOffset := 0 }]) := by kernel_rfl
theorem under60 : Tryd.prog.underlying 60 = some (.interface #[("Error", 119)]) := by kernel_rfl
theorem under41 : Tryd.prog.underlying 41 = some (.slice 2) := by kernel_rfl
theorem under42 : Tryd.prog.underlying 42 = some (.slice 9) := by kernel_rfl
theorem starE : "*" ++ "errors.errorString" = "*errors.errorString" := by decide
theorem row110 (u : TypeId) (h : Tryd.prog.typeName? 3 u = some "*errors.errorString") : u = 110 :=
  typeName_ptr_named (nm := "errors.errorString") (by rw [starE]; kernel_rfl) (by kernel_rfl) (by decide) u (by rw [starE]; exact h)

/-- What the library needs, out of the row's list and the world's shape. -/
theorem libOf {W : World} (hsh : W.ShapedOpen Tryd.prog) (hL : laidMetH Tryd.prog Rows.clockReadRow.laid W) : LibOk W := by
  have htab : TabOk W := tabOf (by kernel_rfl) hL
  have h := hL
  rw [MakeChecks.laidMetH_plain _ _ _ (by kernel_rfl)] at h
  have h4 := h.tail.tail.tail.tail
  have h5 := h4.tail
  obtain ⟨a6, s6, hv6, -⟩ := laid_sentinel h4 gRange tRange under60 row110 under110 under112 rfl rfl under9 cells112 cells9
  obtain ⟨a5, s5, hv5, -⟩ := laid_sentinel h5 gWrong tWrong under60 row110 under110 under112 rfl rfl under9 cells112 cells9
  have c6 : W.cell? ⟨3, 0, none⟩ = some (.iface 110 (.pointer (some a6))) := by have := World.var?_cell gRange hv6 0; simpa using this
  have c5 : W.cell? ⟨2, 0, none⟩ = some (.iface 110 (.pointer (some a5))) := by have := World.var?_cell gWrong hv5 0; simpa using this
  exact ⟨htab, cell_of_shapedOpen_int (zero := #[.int .i64 0]) (t := 3) hsh (of_decide_eq_true (by kernel_rfl)) (by kernel_rfl) rfl (by kernel_rfl) (by kernel_rfl) Tryd.underlying3, ⟨_, _, c5⟩, ⟨_, _, c6⟩, cell_block_lt c6⟩

/-- The world of the start: every listed variable laid. -/
noncomputable def startR (os : Os) : World := World.laidAll Tryd.prog os Rows.clockReadRow.laid

theorem startR_met (os : Os) (args : Array Value) : laidMetH Tryd.prog Rows.clockReadRow.laid ((startR os).forCall (fun _ _ => 0) ⟨#[], args, []⟩).memory := by
  rw [MakeChecks.laidMetH_plain _ _ _ (by kernel_rfl)]
  exact laidMet_laidAll _ (by kernel_rfl) (by kernel_rfl)

theorem nums_at {H : Type} {enc : TypeId × Value → H} {W : World} {a : Option Addr} {len cap : Nat} {d : DataW H} {p : List MemPlace}
    (h : DataW.Trod enc Tryd.prog W 0 (fun _ => true) true 41 (.slice a len cap) d p) : NumsAt W a len := by
  obtain ⟨fuel, hf⟩ := h
  rcases open_ints under41 under2 cells2 hf with ⟨hcs, _⟩ | ⟨a', len', cap', zs, hcs, _, hl, hm, hz, _, hx, hw⟩
  · simp [Value.cells] at hcs
    obtain ⟨-, rfl, -⟩ := hcs
    exact ⟨Nat.zero_le _, .inl rfl⟩
  simp [Value.cells] at hcs
  obtain ⟨rfl, rfl, rfl⟩ := hcs
  refine ⟨by unfold maxLen at hm; omega, ?_⟩
  by_cases h0 : len = 0
  · exact .inl h0
  right
  simp only [if_true] at hz
  obtain ⟨b, off, spot⟩ := a'
  have hspot : spot = none := by simpa [Addr.add] using World.cell?_spot (hx 0 (by omega))
  subst hspot
  have hc : ∀ i, i < len → W.cell? ⟨b, off + i, none⟩ = some (.int .i64 (zs.getD i 0)) := fun i hi => by
    rw [← Go.WideShapes.add_plain]; exact hx i (by omega)
  refine ⟨b, off, fun i => zs.getD i 0, rfl, cell_block_lt (hc 0 (by omega)), hc, fun i hi => wf_bounds (hw _ ?_)⟩
  have hi' : i < zs.length := by omega
  simp [List.getD, hi']

theorem bytes_back (s : ByteArray) : (⟨s.data.toList.toArray⟩ : ByteArray) = s := by cases s; simp

theorem texts_at {H : Type} {enc : TypeId × Value → H} {W : World} {a : Option Addr} {len cap : Nat} {d : DataW H} {p : List MemPlace}
    (h : DataW.Trod enc Tryd.prog W 0 (fun _ => true) true 42 (.slice a len cap) d p) : TextsAt W a len := by
  obtain ⟨fuel, hf⟩ := h
  rcases open_strings under42 under9 cells9 hf with ⟨hcs, _⟩ | ⟨a', len', cap', ss, hcs, _, hl, hm, hz, _, hx, hw⟩
  · simp [Value.cells] at hcs
    obtain ⟨-, rfl, -⟩ := hcs
    exact ⟨Nat.zero_le _, .inl rfl⟩
  simp [Value.cells] at hcs
  obtain ⟨rfl, rfl, rfl⟩ := hcs
  refine ⟨by unfold maxLen at hm; omega, ?_⟩
  by_cases h0 : len = 0
  · exact .inl h0
  right
  simp only [if_true] at hz
  obtain ⟨b, off, spot⟩ := a'
  have hspot : spot = none := by simpa [Addr.add] using World.cell?_spot (hx 0 (by omega))
  subst hspot
  have hc : ∀ i, i < len → W.cell? ⟨b, off + i, none⟩ = some (.string ⟨(ss.getD i ByteArray.empty).data.toList.toArray⟩) := fun i hi => by
    rw [bytes_back, ← Go.WideShapes.add_plain]; exact hx i (by omega)
  refine ⟨b, off, fun i => (ss.getD i ByteArray.empty).data.toList, rfl, cell_block_lt (hc 0 (by omega)), hc, fun i hi => ?_⟩
  have hi' : i < ss.length := by omega
  have hs := hw (ss.getD i ByteArray.empty) (by simp [List.getD, hi'])
  unfold maxLen at hs
  show (ss.getD i ByteArray.empty).data.toList.length ≤ _
  rw [Array.length_toList]
  exact hs

end Go.Proofs.YtcedkaafdblboaaDoor
