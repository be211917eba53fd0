/-
  What all the cpuset laws' rows share: the library's tables and errors out of the listed variables, the start that fits, a slice of sets opened.
-/
import Derived.Test.YtglndonfmmbnhaaDoorCards
import Derived.Test.YtglndonfmmbnhaaDoorTie
import Derived.Test.YtglndonfmmbnhaaDoorCpsK
import Derived.ProofKit
import Derived.OpenShut
import Derived.Deep.DeepHandedRow
import Derived.Deep.Slices
import Derived.Lib.LaidTab
import Derived.Stop.LaidErr
import Derived.Shelf.Vars
import Derived.Lay
import Derived.Carry
namespace Go.Proofs.YtglndonfmmbnhaaDoor
open Go.ChangeShapes Go.WideShapes Go.ChangeAt Go.RowKit

theorem own : ownKnob Tryd.prog.godebug = none := by kernel_rfl
theorem laidOut : laidOutB Tryd.prog = true := by kernel_rfl
theorem gTab : Tryd.prog.globalNamed "math/bits.deBruijn32tab" = some 0 := by kernel_rfl
theorem tTab : (Tryd.prog.globals[0]?).map (·.type) = some 79 := by kernel_rfl
theorem gRange : Tryd.prog.globalNamed "strconv.ErrRange" = some 6 := by kernel_rfl
theorem tRange : (Tryd.prog.globals[6]?).map (·.type) = some 74 := by kernel_rfl
theorem gWrong : Tryd.prog.globalNamed "strconv.ErrSyntax" = some 5 := by kernel_rfl
theorem tWrong : (Tryd.prog.globals[5]?).map (·.type) = some 74 := by kernel_rfl
theorem under79 : Tryd.prog.underlying 79 = some (.array 32 5) := by kernel_rfl
theorem cells79 : Tryd.prog.cellsOf 79 = 32 := by kernel_rfl
theorem under5 : Tryd.prog.underlying 5 = some (.int .u8) := by kernel_rfl
theorem cells5 : Tryd.prog.cellsOf 5 = 1 := by kernel_rfl
theorem cells134 : Tryd.prog.cellsOf 134 = 1 := by kernel_rfl
theorem cells9 : Tryd.prog.cellsOf 9 = 1 := by kernel_rfl
theorem under132 : Tryd.prog.underlying 132 = some (.pointer 134) := by kernel_rfl
theorem under134 : Tryd.prog.underlying 134 = some (.struct #[{ name := "s", type := 9, offset := 0, embedded := false, tag := "", pkgPath := "errors", byteOffset := 0 }]) := by kernel_rfl
theorem under74 : Tryd.prog.underlying 74 = some (.interface #[("Error", 87)]) := by kernel_rfl
theorem starE : "*" ++ "errors.errorString" = "*errors.errorString" := by decide
theorem row132 (u : TypeId) (h : Tryd.prog.typeName? 3 u = some "*errors.errorString") : u = 132 :=
  typeName_ptr_named (nm := "errors.errorString") (by rw [starE]; kernel_rfl) (by kernel_rfl) (by decide) u (by rw [starE]; exact h)
theorem tabData32 : Rows.laid_math_bits_deBruijn32tab = (Lib.tabData .u8 (Lib.deBruijn32tab.map fun x : Nat => (x : Int)) : DataW Unit) := by kernel_rfl

theorem tab_at (l : List Nat) (j : Nat) (hj : j < l.length) : ((l.map fun x : Nat => (x : Int)).map fun z => Value.int .u8 z).toArray[j]? = some (.int .u8 (l.getD j 0)) := by
  simp [hj]

/-- What the library needs, out of a row's list and the world's shape. -/
theorem libOf {W : World} (hsh : W.ShapedOpen Tryd.prog) (h : laidMetH Tryd.prog Rows.cpusetBackRow.laid W) : LibOk W := by
  rw [MakeChecks.laidMetH_plain _ _ _ (by kernel_rfl)] at h
  have h1 : laidMet Tryd.prog (("math/bits.deBruijn32tab", Rows.laid_math_bits_deBruijn32tab) :: Rows.cpusetBackRow.laid.tail) W := h
  have h4 := h.tail.tail.tail.tail
  have h5 := h4.tail
  rw [tabData32] at h1
  have hT := Lib.tabIs_of_head gTab tTab under79 under5 cells5 cells79 h1
  obtain ⟨a6, s6, hv6, -⟩ := laid_sentinel h4 gRange tRange under74 row132 under132 under134 rfl rfl Tryd.underlying9 cells134 cells9
  obtain ⟨a5, s5, hv5, -⟩ := laid_sentinel h5 gWrong tWrong under74 row132 under132 under134 rfl rfl Tryd.underlying9 cells134 cells9
  have c6 : W.cell? ⟨6, 0, none⟩ = some (.iface 132 (.pointer (some a6))) := by have := World.var?_cell gRange hv6 0; simpa using this
  have c5 : W.cell? ⟨5, 0, none⟩ = some (.iface 132 (.pointer (some a5))) := by have := World.var?_cell gWrong hv5 0; simpa using this
  refine ⟨?_, ?_, ⟨_, _, c5⟩, ⟨_, _, c6⟩, cell_lt c6⟩
  · intro j hj
    have hv : W.var? Tryd.prog "math/bits.deBruijn32tab" = some _ := hT
    have := World.var?_cell gTab hv j
    rw [this]
    exact tab_at _ j hj
  · exact cell_of_shapedOpen_int (zero := #[.int .i64 0]) (t := 3) hsh (of_decide_eq_true (by kernel_rfl)) (by kernel_rfl) rfl (by kernel_rfl) (by kernel_rfl) Tryd.underlying3

/-- A start that fits, in a world whose shape is shown. -/
theorem witness_shape {H : Type} {enc : TypeId × Value → H} {C : Checked} {os : Os} {f : FuncId} {fn : Func} {s : OpenSpec} {conds : List PathCond} {apart : Bool} {laid : List (String × DataW Unit)} (modest : Bool) (w0 : World) (args : Array Value) (hos : w0.os = os)
    (hsh : (w0.forCall (fun _ _ => 0) ⟨#[], args, []⟩).Shaped C.prog)
    (hok : Input.okWideB C.prog (w0.forCall (fun _ _ => 0) ⟨#[], args, []⟩) f ⟨#[], args, []⟩ = true)
    (hrow : s.preRow enc C.prog fn conds apart laid (w0.forCall (fun _ _ => 0) ⟨#[], args, []⟩).memory args) :
    ∃ (w : World) (tape : Tape) (i : Input), w.os = os ∧ (w.forCall tape i).Shaped C.prog ∧ i.vars = [] ∧ Input.okWide C.prog (w.forCall tape i) .any w.heap.size f i ∧
      s.preRow enc C.prog fn conds apart laid (w.forCall tape i).memory i.args ∧ ({ modest := modest } : Assume).holds C.prog (lone (Frame.enter C.prog f i.args .normal) [] (w.forCall tape i)) :=
  ⟨w0, fun _ _ => 0, ⟨#[], args, []⟩, hos, hsh, (Input.okWide_of_okWideB (base := 0) hok).1, (Input.okWide_of_okWideB hok).2, hrow, by
    simp only [Assume.holds]
    exact ⟨by simp, by simp, fun _ => Modest.zero, by simp, by simp⟩⟩

/-- The world of the start: every listed variable laid. -/
noncomputable def startW (os : Os) : World := World.laidAll Tryd.prog os Rows.cpusetBackRow.laid

theorem start_met (os : Os) (args : Array Value) : laidMetH Tryd.prog Rows.cpusetBackRow.laid ((startW os).forCall (fun _ _ => 0) ⟨#[], args, []⟩).memory := by
  rw [MakeChecks.laidMetH_plain _ _ _ (by kernel_rfl)]
  exact laidMet_laidAll _ (by kernel_rfl) (by kernel_rfl)

theorem cells25 : Tryd.prog.cellsOf 25 = 1 := by kernel_rfl
theorem under22 : Tryd.prog.underlying 22 = some (.slice 25) := by kernel_rfl
theorem under25 : Tryd.prog.underlying 25 = some (.int .u32) := by kernel_rfl

theorem wf_u32 {n : Int} (h : (Lit.int .u32 n).wf = true) : 0 ≤ n ∧ n ≤ 4294967295 := by
  simpa [Lit.wf, IntKind.min, IntKind.max, IntKind.signed, IntKind.bits] using h
theorem wf_i64 {n : Int} (h : (Lit.int .i64 n).wf = true) : -9223372036854775808 ≤ n ∧ n ≤ 9223372036854775807 := by
  simpa [Lit.wf, IntKind.min, IntKind.max, IntKind.signed, IntKind.bits] using h

/-- A slice of sets, opened: no element, or its cells. -/
theorem open_sets {H : Type} {enc : TypeId × Value → H} {W : World} {a : Option Addr} {len cap : Nat} {d : DataW H} {p : List MemPlace}
    (h : DataW.Trod enc Tryd.prog W 0 (fun _ => true) true 22 (.slice a len cap) d p) :
    len = 0 ∨ ∃ (b off : Nat) (S : Nat → Nat), a = some ⟨b, off, none⟩ ∧ len ≤ 9223372036854775807 ∧ b < W.heap.size ∧
      (∀ i, i < len → W.cell? ⟨b, off + i, none⟩ = some (.int .u32 (S i))) ∧ (∀ i, i < len → S i < 4294967296) := by
  obtain ⟨fuel, hf⟩ := h
  rcases open_ints under22 under25 cells25 hf with ⟨hcs, _⟩ | ⟨a', len', cap', zs, hcs, _, hl, hm, hz, _, hx, hw⟩
  · simp [Value.cells] at hcs
    exact .inl hcs.2.1
  simp [Value.cells] at hcs
  obtain ⟨rfl, rfl, rfl⟩ := hcs
  by_cases h0 : len = 0
  · exact .inl h0
  right
  simp only [if_true] at hz
  obtain ⟨b, off, spot⟩ := a'
  have hspot : spot = none := by simpa [Addr.add] using World.cell?_spot (hx 0 (by omega))
  subst hspot
  have hnn : ∀ i, i < len → 0 ≤ zs.getD i 0 ∧ zs.getD i 0 ≤ 4294967295 := fun i hi => by
    refine wf_u32 (hw _ ?_)
    have hi' : i < zs.length := by omega
    simp [List.getD, hi']
  have hc : ∀ i, i < len → W.cell? ⟨b, off + i, none⟩ = some (.int .u32 ((zs.getD i 0).toNat : Int)) := fun i hi => by
    rw [← Go.WideShapes.add_plain, Int.toNat_of_nonneg (hnn i hi).1]; exact hx i (by omega)
  refine ⟨b, off, fun i => (zs.getD i 0).toNat, rfl, by unfold maxLen at hm; omega, ?_, hc, fun i hi => by have := hnn i hi; show (zs.getD i 0).toNat < 4294967296; omega⟩
  exact cell_lt (hc 0 (by omega))

end Go.Proofs.YtglndonfmmbnhaaDoor
