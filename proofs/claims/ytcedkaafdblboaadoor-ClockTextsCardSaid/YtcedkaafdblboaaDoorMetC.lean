/-
  The map that ClockRead keeps: each text's time.
-/
import Derived.Test.YtcedkaafdblboaaDoorParW
import Derived.Maps.OwnOps
import Derived.Maps.OwnSet
import Derived.Maps.Views
import Derived.StringKeys
namespace Go.Proofs.YtcedkaafdblboaaDoor
open Go.RowKit Go.Maps

theorem under49 : Tryd.prog.underlying 49 = some (.map 9 2) := by kernel_rfl
theorem under2 : Tryd.prog.underlying 2 = some (.int .i64) := by kernel_rfl
theorem under9 : Tryd.prog.underlying 9 = some .string := by kernel_rfl
theorem law9 : Keyed Tryd.prog 9 := string_keyed under9
theorem zero2 (w : World) : (zeroValue 2).run Tryd.prog w = .ok (.int .i64 0) w := by kernel_rfl

/-- The map's entries: each a time under its own text. -/
structure MetAt (b k : Nat) (w : World) : Prop where
  own : ∃ D : DataW Unit, w.ownsMap Tryd.prog 9 (plainElem Tryd.prog 2) b k D ∧ IsMap D ∧ ∀ l, has D (.string l) = true → ∃ v : Int, (0 ≤ v ∧ v ≤ 1125899906842624) ∧ textL v = l ∧ D.atKey (.string l) (.lit (.int .i64 0)) = .lit (.int .i64 v)

theorem MetAt.of {b k : Nat} {w w' : World} (h : MetAt b k w) (hb : w'.heap[b]? = w.heap[b]?) : MetAt b k w' := by
  obtain ⟨D, ⟨es, clock, h1, h2⟩, h3⟩ := h.own
  exact ⟨D, ⟨es, clock, hb.trans h1, h2⟩, h3⟩

theorem MetAt.lt {b k : Nat} {w : World} (h : MetAt b k w) : b < w.heap.size := by
  obtain ⟨D, h1, -⟩ := h.own
  exact h1.lt

theorem met_made (w : World) : MetAt w.heap.size 0 (w.alloc (.map #[] 0)) :=
  ⟨.map [], World.ownsMap_made w _ _ _, isMap_empty, fun l h => by cases h⟩

theorem key_of (l : List UInt8) (hl : l.length ≤ 1000) : keyOf Tryd.prog 9 (.string ⟨l.toArray⟩) = some (.string l) := by
  have h := Go.WideMaps.keyOf_string_mk (k := 9) under9 (s := ⟨l.toArray⟩) (by simp [ByteArray.size]; unfold maxLen; omega)
  simpa using h

theorem met_look {b k : Nat} {w : World} (h : MetAt b k w) (l : List UInt8) (hl : l.length ≤ 1000) :
    ∃ (v : Int) (th : Bool), (Instr.lookup 49 (.map (some b)) (.string ⟨l.toArray⟩) true).run Tryd.prog w = .ok (.tuple #[.int .i64 v, .bool th]) w ∧ (th = true → (0 ≤ v ∧ v ≤ 1125899906842624) ∧ textL v = l) := by
  obtain ⟨D, h1, -, h3⟩ := h.own
  obtain ⟨v, ps, hrun, hv⟩ := h1.look_ok law9 under49 (zero2 w) (plainElem_int under2 (show (Lit.int .i64 0).wf = true from by decide)) (key_of l hl)
  obtain ⟨c, rfl, hc, -⟩ := plainElem_int_inv under2 hv
  simp only [Prod.mk.injEq] at hc
  refine ⟨c, _, hrun, fun hth => ?_⟩
  obtain ⟨u, hu, htx, hat⟩ := h3 l hth
  rw [hc.1] at hat
  cases hat
  exact ⟨hu, htx⟩

theorem met_store {b k : Nat} {w : World} (h : MetAt b k w) (hk : k < 1000) (t : Int) (h0 : 0 ≤ t) (h1 : t ≤ 1125899906842624) (hl : (textL t).length ≤ 1000) :
    ∃ w', (Instr.mapUpdate 49 (.map (some b)) (.string ⟨(textL t).toArray⟩) (.int .i64 t)).run Tryd.prog w = .ok () w' ∧ MetAt b (k + 1) w' ∧ w.grownBy w' (some b) := by
  obtain ⟨D, ho, hm, h3⟩ := h.own
  have hwf : (Lit.int .i64 t).wf = true := by simp [Lit.wf, IntKind.min, IntKind.max, IntKind.signed, IntKind.bits]; omega
  obtain ⟨w', hrun, ho', hg⟩ := ho.update law9 under49 (by unfold maxLen; omega) (key_of _ hl) (plainElem_int under2 hwf)
  refine ⟨w', hrun, ⟨_, ho', hm.put _ _, fun l hh => ?_⟩, hg⟩
  by_cases he : textL t = l
  · subst he
    exact ⟨t, ⟨h0, h1⟩, rfl, by rw [atKey_put_same hm (show WideAt.IsKeyLit (.string _) from trivial)]⟩
  · have hne : (Lit.string l) ≠ (.string (textL t)) := fun e => he (by cases e; rfl)
    rw [has_put_other hne] at hh
    obtain ⟨v, hv, htx, hat⟩ := h3 l hh
    exact ⟨v, hv, htx, by rw [atKey_put_other hne, hat]⟩

theorem textL_len (t : Int) (h0 : 0 ≤ t) (h1 : t ≤ 1125899906842624) : (textL t).length ≤ 50 := by
  have hl2 : (Lib.itoa (1000000000 + t % 1000000000)).length ≤ 21 := Lib.itoa_length_le _ (by omega) (by omega)
  have hl3 := trimRightB_length (Lib.itoa (1000000000 + t % 1000000000)).tail 48
  rw [List.length_tail] at hl3
  have hl4 : (Lib.itoa (t / 1000000000)).length ≤ 21 := Lib.itoa_length_le _ (by omega) (by omega)
  unfold textL
  split
  · omega
  · rw [List.length_append, List.length_cons]; omega

end Go.Proofs.YtcedkaafdblboaaDoor
