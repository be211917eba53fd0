/-
  The map that CpusetRead keeps: which texts it holds.
-/
import Derived.Test.YtglndonfmmbnhaaDoorTextsW
import Derived.Maps.OwnOps
import Derived.Maps.OwnSet
import Derived.Maps.Views
import Derived.StringKeys
namespace Go.Proofs.YtglndonfmmbnhaaDoor
open Go.RowKit Go.Maps

theorem under50 : Tryd.prog.underlying 50 = some (.map 9 4) := by kernel_rfl
theorem under4 : Tryd.prog.underlying 4 = some .bool := by kernel_rfl
theorem under9' : Tryd.prog.underlying 9 = some .string := by kernel_rfl
theorem law9 : Keyed Tryd.prog 9 := string_keyed under9'
theorem zero4 (w : World) : (zeroValue 4).run Tryd.prog w = .ok (.bool false) w := by kernel_rfl

theorem plainElem_bool_inv {P : Program} {e : TypeId} (he : P.underlying e = some .bool) {v : Value} {z : DataW Unit × List MemPlace} (h : plainElem P e v = some z) : ∃ c, v = .bool c ∧ z = (.lit (.bool c), []) := by
  cases v <;> simp [plainElem, he] at h
  exact ⟨_, rfl, h.symm⟩

theorem lookup_bool {w : World} {b n : Nat} {D : DataW Unit} (h : w.ownsMap Tryd.prog 9 (plainElem Tryd.prog 4) b n D) {key : Value} {kl : Lit} (hkey : keyOf Tryd.prog 9 key = some kl) :
    ∃ c, (Instr.lookup 50 (.map (some b)) key false).run Tryd.prog w = .ok (.bool c) w ∧ D.atKey kl (.lit (.bool false)) = .lit (.bool c) := by
  obtain ⟨v, ps, hrun, hv⟩ := h.lookup law9 under50 (zero4 w) (plainElem_bool under4 false) hkey
  obtain ⟨c, rfl, hc⟩ := plainElem_bool_inv under4 hv
  simp only [Prod.mk.injEq] at hc
  exact ⟨c, hrun, hc.1⟩

theorem ownsMap_of_block {w w' : World} {b n : Nat} {D : DataW Unit} (h : w.ownsMap Tryd.prog 9 (plainElem Tryd.prog 4) b n D) (hb : w'.heap[b]? = w.heap[b]?) : w'.ownsMap Tryd.prog 9 (plainElem Tryd.prog 4) b n D := by
  obtain ⟨es, clock, h1, h2⟩ := h
  exact ⟨es, clock, hb.trans h1, h2⟩

/-- Is it one of the first k sets' texts? -/
def metB (k : Nat) (l : List UInt8) : Bool := (List.range k).any fun j => textL j == l

theorem metB_succ (k : Nat) (l : List UInt8) : metB (k + 1) l = (metB k l || textL k == l) := by simp [metB, List.range_succ]
theorem metB_zero (l : List UInt8) : metB 0 l = false := rfl

theorem metB_new (k : Nat) (hk : k < 256) : metB k (textL k) = false := by
  rw [Bool.eq_false_iff]
  intro h
  obtain ⟨j, hj, he⟩ := List.any_eq_true.1 h
  have hj' : j < k := List.mem_range.1 hj
  have he' : textL j = textL k := by simpa using he
  have h1 := parse_text ⟨j, by omega⟩
  have h2 := parse_text ⟨k, hk⟩
  simp only at h1 h2
  rw [he', h2] at h1
  cases h1
  omega

theorem metB_all (l : List UInt8) : metB 256 l = (parseN l).isSome := by
  cases hp : parseN l with
  | some s =>
    obtain ⟨h1, h2⟩ := parse_some hp
    exact List.any_eq_true.2 ⟨s, List.mem_range.2 h1, by simp [h2]⟩
  | none =>
    rw [Option.isSome_none, Bool.eq_false_iff]
    intro h
    obtain ⟨j, hj, he⟩ := List.any_eq_true.1 h
    have hj' : j < 256 := List.mem_range.1 hj
    have he' : textL j = l := by simpa using he
    have h1 := parse_text ⟨j, hj'⟩
    simp only at h1
    rw [he', hp] at h1
    cases h1

/-- The map holds the first k sets' texts. -/
structure MetAt (b k : Nat) (w : World) : Prop where
  own : ∃ D : DataW Unit, w.ownsMap Tryd.prog 9 (plainElem Tryd.prog 4) b k D ∧ IsMap D ∧ ∀ l, D.atKey (.string l) (.lit (.bool false)) = .lit (.bool (metB k l))

theorem MetAt.of {b k : Nat} {w w' : World} (h : MetAt b k w) (hb : w'.heap[b]? = w.heap[b]?) : MetAt b k w' := by
  obtain ⟨D, h1, h2, h3⟩ := h.own
  exact ⟨D, ownsMap_of_block h1 hb, h2, h3⟩

theorem MetAt.lt {b k : Nat} {w : World} (h : MetAt b k w) : b < w.heap.size := by
  obtain ⟨D, h1, -⟩ := h.own
  exact h1.lt

theorem met_made (w : World) : MetAt w.heap.size 0 (w.alloc (.map #[] 0)) :=
  ⟨.map [], World.ownsMap_made w _ _ _, isMap_empty, fun _ => rfl⟩

theorem key_of (l : List UInt8) (hl : l.length ≤ 1000) : keyOf Tryd.prog 9 (.string ⟨l.toArray⟩) = some (.string l) := by
  have h := Go.WideMaps.keyOf_string_mk (k := 9) under9' (s := ⟨l.toArray⟩) (by simp [ByteArray.size]; unfold maxLen; omega)
  simpa using h

theorem met_look {b k : Nat} {w : World} (h : MetAt b k w) (l : List UInt8) (hl : l.length ≤ 1000) :
    (Instr.lookup 50 (.map (some b)) (.string ⟨l.toArray⟩) false).run Tryd.prog w = .ok (.bool (metB k l)) w := by
  obtain ⟨D, h1, -, h3⟩ := h.own
  obtain ⟨c, hrun, hat⟩ := lookup_bool h1 (key_of l hl)
  rw [h3] at hat
  cases hat
  exact hrun

theorem met_store {b k : Nat} {w : World} (h : MetAt b k w) (hk : k < 256) (hl : (textL k).length ≤ 1000) :
    ∃ w', (Instr.mapUpdate 50 (.map (some b)) (.string ⟨(textL k).toArray⟩) (.bool true)).run Tryd.prog w = .ok () w' ∧ MetAt b (k + 1) w' ∧ w.grownBy w' (some b) := by
  obtain ⟨D, h1, h2, h3⟩ := h.own
  obtain ⟨w', hrun, ho, hg⟩ := h1.update law9 under50 (by unfold maxLen; omega) (key_of _ hl) (plainElem_bool under4 true)
  refine ⟨w', hrun, ⟨_, ho, h2.put _ _, fun l => ?_⟩, hg⟩
  rw [metB_succ]
  by_cases he : textL k = l
  · subst he
    rw [atKey_put_same h2 (show WideAt.IsKeyLit (.string _) from trivial)]
    simp
  · have hne : (Lit.string l) ≠ (.string (textL k)) := fun e => he (by cases e; rfl)
    rw [atKey_put_other hne, h3]
    have : (textL k == l) = false := by simp [he]
    rw [this, Bool.or_false]

theorem text_short : ∀ t : Fin 256, (textL t.val).length ≤ 64 := by decide +kernel

end Go.Proofs.YtglndonfmmbnhaaDoor
