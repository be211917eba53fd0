/-
  What all the clock laws' rows share: the table out of the listed variables, the start that fits.
-/
import Derived.Test.YtcedkaafdblboaaDoorCards
import Derived.Test.YtcedkaafdblboaaDoorTie
import Derived.Test.YtcedkaafdblboaaDoorTxtA
import Derived.ProofKit
import Derived.OpenShut
import Derived.Deep.DeepHandedRow
import Derived.Deep.Slices
import Derived.Lib.LaidTab
import Derived.Stop.LaidErr
import Derived.Lay
import Derived.Carry
namespace Go.Proofs.YtcedkaafdblboaaDoor
open Go.ChangeShapes Go.WideShapes Go.ChangeAt Go.RowKit

theorem own : ownKnob Tryd.prog.godebug = none := by kernel_rfl
theorem laidOut : laidOutB Tryd.prog = true := by kernel_rfl
theorem gPow : Tryd.prog.globalNamed "internal/strconv.uint64pow10" = some 0 := by kernel_rfl
theorem tPow : (Tryd.prog.globals[0]?).map (·.type) = some 92 := by kernel_rfl
theorem cells92 : Tryd.prog.cellsOf 92 = 20 := by kernel_rfl
theorem cells73 : Tryd.prog.cellsOf 73 = 1 := by kernel_rfl
theorem powData : Rows.laid_internal_strconv_uint64pow10 = (Lib.tabData .u64 Lib.pow10Tab : DataW Unit) := by kernel_rfl

/-- The table that FormatInt reads, out of a row's list whose third entry it is. -/
theorem tabOf {W : World} {x y : String × DataW Unit} {rest : List (String × DataW Unit)}
    (hp : ((x :: y :: ("internal/strconv.uint64pow10", Rows.laid_internal_strconv_uint64pow10) :: rest).all fun x => x.2.handleName?.isNone) = true)
    (h : laidMetH Tryd.prog (x :: y :: ("internal/strconv.uint64pow10", Rows.laid_internal_strconv_uint64pow10) :: rest) W) : TabOk W := by
  rw [MakeChecks.laidMetH_plain _ _ _ hp] at h
  have h2 := h.tail.tail
  rw [powData] at h2
  exact Lib.tabIs_of_head gPow tPow Tryd.underlying92 Tryd.underlying73 cells73 cells92 h2

/-- A start that fits, in a world whose shape is shown. -/
theorem witness_shape {H : Type} {enc : TypeId × Value → H} {C : Checked} {os : Os} {f : FuncId} {fn : Func} {s : OpenSpec} {conds : List PathCond} {apart : Bool} {laid : List (String × DataW Unit)} (modest : Bool) (w0 : World) (args : Array Value) (hos : w0.os = os)
    (hsh : (w0.forCall (fun _ _ => 0) ⟨#[], args, []⟩).Shaped C.prog)
    (hok : Input.okWideB C.prog (w0.forCall (fun _ _ => 0) ⟨#[], args, []⟩) f ⟨#[], args, []⟩ = true)
    (hrow : s.preRow enc C.prog fn conds apart laid (w0.forCall (fun _ _ => 0) ⟨#[], args, []⟩).memory args) :
    ∃ (w : World) (tape : Tape) (i : Input), w.os = os ∧ (w.forCall tape i).Shaped C.prog ∧ i.vars = [] ∧ Input.okWide C.prog (w.forCall tape i) .any w.heap.size f i ∧
      s.preRow enc C.prog fn conds apart laid (w.forCall tape i).memory i.args ∧ ({ modest := modest } : Assume).holds C.prog (lone (Frame.enter C.prog f i.args .normal) [] (w.forCall tape i)) :=
  ⟨w0, fun _ _ => 0, ⟨#[], args, []⟩, hos, hsh, (Input.okWide_of_okWideB (base := 0) hok).1, (Input.okWide_of_okWideB hok).2, hrow, by
    simp only [Assume.holds]
    exact ⟨by simp, by simp, fun _ => Modest.zero, by simp, by simp⟩⟩

/-- The world of the start: every listed variable laid. -/
noncomputable def startW (os : Os) : World := World.laidAll Tryd.prog os Rows.clockAddsRow.laid

theorem start_met (os : Os) (args : Array Value) : laidMetH Tryd.prog Rows.clockAddsRow.laid ((startW os).forCall (fun _ _ => 0) ⟨#[], args, []⟩).memory := by
  rw [MakeChecks.laidMetH_plain _ _ _ (by kernel_rfl)]
  exact laidMet_laidAll _ (by kernel_rfl) (by kernel_rfl)

theorem cells24 : Tryd.prog.cellsOf 24 = 2 := by kernel_rfl
theorem cells2 : Tryd.prog.cellsOf 2 = 1 := by kernel_rfl

theorem wf_bounds {n : Int} (h : (Lit.int .i64 n).wf = true) : -9223372036854775808 ≤ n ∧ n ≤ 9223372036854775807 := by
  simpa [Lit.wf, IntKind.min, IntKind.max, IntKind.signed, IntKind.bits] using h

theorem cell_block_lt {w : World} {a : Addr} {v : Value} (h : w.cell? a = some v) : a.block < w.heap.size := by
  refine Nat.lt_of_not_le fun hle => ?_
  have e : w.heap[a.block]? = none := Array.getElem?_eq_none hle
  simp [World.cell?, e] at h

/-- A slice of pairs of times, opened: no element, or its cells. -/
theorem open_pairs {H : Type} {enc : TypeId × Value → H} {W : World} {a : Option Addr} {len cap : Nat} {d : DataW H} {p : List MemPlace}
    (h : DataW.Trod enc Tryd.prog W 0 (fun _ => true) true 22 (.slice a len cap) d p) :
    len = 0 ∨ ∃ (b off : Nat) (T D : Nat → Int), a = some ⟨b, off, none⟩ ∧ len ≤ 9223372036854775807 ∧ b < W.heap.size ∧
      (∀ i, i < len → W.cell? ⟨b, off + i * 2, none⟩ = some (.int .i64 (T i))) ∧ (∀ i, i < len → W.cell? ⟨b, off + i * 2 + 1, none⟩ = some (.int .i64 (D i))) ∧
      (∀ i, i < len → (-9223372036854775808 ≤ T i ∧ T i ≤ 9223372036854775807) ∧ (-9223372036854775808 ≤ D i ∧ D i ≤ 9223372036854775807)) := by
  obtain ⟨fuel, hf⟩ := h
  rcases Deep.open_slice Tryd.underlying22 hf with ⟨hcs, _⟩ | ⟨a', len', cap', m, n, D, Pl, hcs, _, hl, hm, hmm, _, hx⟩
  · simp [Value.cells] at hcs
    exact .inl hcs.2.1
  simp [Value.cells] at hcs
  obtain ⟨rfl, rfl, rfl⟩ := hcs
  by_cases h0 : len = 0
  · exact .inl h0
  right
  simp only [if_true] at hmm
  subst hmm
  have each : ∀ i, i < len → ∃ q : Int × Int, W.cell? (a'.add (i * 2)) = some (.int .i64 q.1) ∧ W.cell? (a'.add (i * 2 + 1)) = some (.int .i64 q.2) ∧ (Lit.int .i64 q.1).wf = true ∧ (Lit.int .i64 q.2).wf = true := by
    intro i hi
    obtain ⟨cs', h1, h2⟩ := hx i (by omega)
    rw [cells24] at h1
    obtain ⟨_, hlen, hcell⟩ := World.cells?_some h1
    obtain ⟨xs, k, _, _, _, hxl, hel⟩ := DataW.trod_array Tryd.underlying24 h2
    rw [cells2] at hel
    match xs, hxl, cs', hlen with
    | [y0, y1], _, [v0, v1], _ =>
      have g0 := hel 0 (by omega)
      have g1 := hel 1 (by omega)
      simp at g0 g1
      obtain ⟨t, e0, _, w0⟩ := DataW.trod_int Tryd.underlying2 g0
      obtain ⟨u, e1, _, w1⟩ := DataW.trod_int Tryd.underlying2 g1
      have c0 := hcell 0 (by omega)
      have c1 := hcell 1 (by omega)
      rw [Deep.add_add] at c0 c1
      simp at e0 e1
      subst e0 e1
      exact ⟨(t, u), by simpa using c0, by simpa using c1, w0, w1⟩
  obtain ⟨q, hq⟩ := Deep.choose_lt each
  obtain ⟨b, off, spot⟩ := a'
  have hspot : spot = none := by simpa [Addr.add] using World.cell?_spot (hq 0 (by omega)).1
  subst hspot
  have hT : ∀ i, i < len → W.cell? ⟨b, off + i * 2, none⟩ = some (.int .i64 (q i).1) := fun i hi => by rw [← Go.WideShapes.add_plain]; exact (hq i hi).1
  refine ⟨b, off, fun i => (q i).1, fun i => (q i).2, rfl, by unfold maxLen at hm; omega, ?_, hT, fun i hi => by rw [Nat.add_assoc, ← Go.WideShapes.add_plain]; exact (hq i hi).2.1, fun i hi => ⟨wf_bounds (hq i hi).2.2.1, wf_bounds (hq i hi).2.2.2⟩⟩
  exact cell_block_lt (hT 0 (by omega))

end Go.Proofs.YtcedkaafdblboaaDoor
