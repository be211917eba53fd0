/-
  The library that cpuset.Parse asks: what a world must hold for it; numbers; the rows of a text.
-/
import Derived.Test.YtglndonfmmbnhaaDoorCpsT
import Derived.Shelf.Strconv.ErrVarAll
namespace Go.Proofs.YtglndonfmmbnhaaDoor
open Go.RowKit

/-- What the library needs of a world: its tables and its errors. -/
structure LibOk (w : World) : Prop where
  tz : TzTab w
  cut : ∃ m, w.cell? ⟨2, 0, none⟩ = some (.int .i64 m)
  syn : ∃ tp p, w.cell? ⟨5, 0, none⟩ = some (.iface tp p)
  rng : ∃ tp p, w.cell? ⟨6, 0, none⟩ = some (.iface tp p)
  big : 7 ≤ w.heap.size

theorem LibOk.of {w w' : World} (h : LibOk w) (hs : w.heap.size ≤ w'.heap.size) (hb : ∀ k, k < 7 → w'.heap[k]? = w.heap[k]?) : LibOk w' :=
  ⟨tzTab_of h.tz (hb 0 (by decide)), h.cut.imp fun _ he => (World.cell?_of_block (w := w) (hb 2 (by decide))).trans he, h.syn.imp fun _ he => he.imp fun _ he => (World.cell?_of_block (w := w) (hb 5 (by decide))).trans he, h.rng.imp fun _ he => he.imp fun _ he => (World.cell?_of_block (w := w) (hb 6 (by decide))).trans he, Nat.le_trans h.big hs⟩

theorem LibOk.below {w w' : World} {B : Nat} (h : LibOk w) (hb : Below B w w') (hB : 7 ≤ B) : LibOk w' := h.of hb.size fun k hk => hb.block k (by omega)

def atoiV (l : List UInt8) : Option Int := match Lib.atoiAll l with
  | .ok v => some v
  | _ => none

/-- How an answer of a number and an error stands to a value that may be none. -/
def Told {α : Type} (o : Option α) (x : α) (ev : Value) : Prop := (o = some x ∧ ev = .nilIface) ∨ (o = none ∧ ∃ t p, ev = .iface t p)

theorem atoi_any (l : List UInt8) (hl : l.length ≤ 1000) (w : World) (h : LibOk w) :
    Calls Tryd.prog 56 #[strV l] w fun e w' => (∃ v ev, e = .returned (.tuple #[.int .i64 v, ev]) ∧ Told (atoiV l) v ev) ∧ Below w.heap.size w w' := by
  have hsz : (⟨l.toArray⟩ : ByteArray).size = l.length := by simp [ByteArray.size]
  cases hp : Lib.atoiAll l with
  | ok v =>
    refine (Tryd.strconv_Atoi_ok ⟨l.toArray⟩ (by omega) v (by simpa using hp) w).mono fun e w' hx => ?_
    obtain ⟨he, hw⟩ := hx
    refine ⟨⟨v, _, he, .inl ⟨by unfold atoiV; rw [hp], rfl⟩⟩, ?_⟩
    rcases hw with rfl | ⟨t, rfl⟩
    · exact Below.refl _ _
    · exact Lib.bytesWorld_below _ _ _
  | range =>
    obtain ⟨tp, p, hc⟩ := h.rng
    refine (Any.strconv_Atoi_range Tryd.laysC172 ⟨l.toArray⟩ (by omega) (by simpa using hp) (.iface tp p) w hc (Or.inr ⟨tp, p, rfl⟩)).mono fun e w' hx => ?_
    obtain ⟨N, he, -, -, hb⟩ := hx
    exact ⟨⟨_, _, he, .inr ⟨by unfold atoiV; rw [hp], _, _, rfl⟩⟩, hb⟩
  | _ =>
    obtain ⟨tp, p, hc⟩ := h.syn
    refine (Any.strconv_Atoi_syntax Tryd.laysC172 ⟨l.toArray⟩ (by omega) (by simpa using hp) (.iface tp p) w hc (Or.inr ⟨tp, p, rfl⟩)).mono fun e w' hx => ?_
    obtain ⟨N, he, -, -, hb⟩ := hx
    exact ⟨⟨_, _, he, .inr ⟨by unfold atoiV; rw [hp], _, _, rfl⟩⟩, hb⟩

/-- A row's two numbers. -/
def numbersV (l : List UInt8) : Option (Int × Int) :=
  match atoiV (Lib.cut l [45]).1 with
  | none => none
  | some a => if (Lib.cut l [45]).2.2 then (match atoiV (Lib.cut l [45]).2.1 with | none => none | some b => some (a, b)) else some (a, a)

/-- The rows of a text. -/
def splitL : List UInt8 → List (List UInt8)
  | [] => [[]]
  | c :: r => if c = 44 then [] :: splitL r else match splitL r with
    | [] => [[c]]
    | h :: t => (c :: h) :: t

theorem splitL_ne : ∀ l, splitL l ≠ []
  | [] => by simp [splitL]
  | c :: r => by
    unfold splitL
    split
    · simp
    · split <;> simp

theorem index_cases : ∀ l : List UInt8, Lib.indexByte l 44 = -1 ∨ ∃ n : Nat, Lib.indexByte l 44 = n ∧ n < l.length
  | [] => .inl rfl
  | c :: r => by
    unfold Lib.indexByte
    by_cases hc : c = 44
    · subst hc; exact .inr ⟨0, by simp, by simp⟩
    · rcases index_cases r with h | ⟨n, h, hn⟩
      · left; simp [hc, h]
      · right; refine ⟨n + 1, ?_, by simpa using hn⟩
        rw [h]
        have : ¬ ((n : Int) = -1) := by omega
        simp [hc, this]

theorem split_none : ∀ l : List UInt8, Lib.indexByte l 44 = -1 → splitL l = [l]
  | [], _ => rfl
  | c :: r, h => by
    unfold Lib.indexByte at h
    by_cases hc : c = 44
    · subst hc; simp at h
    · rcases index_cases r with hr | ⟨n, hr, hn⟩
      · unfold splitL; rw [if_neg hc, split_none r hr]
      · rw [hr] at h
        have : ¬ ((n : Int) = -1) := by omega
        simp [hc, this] at h; omega

theorem split_at : ∀ (l : List UInt8) (n : Nat), Lib.indexByte l 44 = n → splitL l = l.take n :: splitL (l.drop (n + 1))
  | [], n, h => by unfold Lib.indexByte at h; omega
  | c :: r, n, h => by
    unfold Lib.indexByte at h
    by_cases hc : c = 44
    · subst hc; simp at h; have : n = 0 := by omega
      subst this; simp [splitL]
    · rcases index_cases r with hr | ⟨k, hr, hn⟩
      · rw [hr] at h; simp [hc] at h
      · rw [hr] at h
        have hk : ¬ ((k : Int) = -1) := by omega
        simp [hc, hk] at h
        obtain rfl : n = k + 1 := by omega
        conv => lhs; unfold splitL
        rw [if_neg hc, split_at r k hr]
        simp

theorem splitL_length : ∀ l : List UInt8, (splitL l).length ≤ l.length + 1
  | [] => by simp [splitL]
  | c :: r => by
    have := splitL_length r
    unfold splitL
    split
    · simp; omega
    · split
      · simp
      · rename_i h t e; rw [e] at this; simp at this ⊢; omega

theorem splitL_mem : ∀ (l x : List UInt8), x ∈ splitL l → x.length ≤ l.length
  | [], x, h => by simp [splitL] at h; subst h; simp
  | c :: r, x, h => by
    unfold splitL at h
    split at h
    · rcases List.mem_cons.1 h with rfl | h
      · simp
      · have := splitL_mem r x h; simp; omega
    · split at h
      · simp at h; subst h; simp
      · rename_i hh t e
        rcases List.mem_cons.1 h with rfl | h
        · have := splitL_mem r hh (by rw [e]; simp); simp; omega
        · have := splitL_mem r x (by rw [e]; simp [h]); simp; omega

theorem cut_any (l : List UInt8) (hl : l.length ≤ 1000) (w : World) (h : LibOk w) :
    Calls Tryd.prog 55 #[strV l, .string ⟨#[45]⟩] w fun e w' => e = .returned (.tuple #[strV (Lib.cut l [45]).1, strV (Lib.cut l [45]).2.1, .bool (Lib.cut l [45]).2.2]) ∧ Below w.heap.size w w' := by
  obtain ⟨m, hm⟩ := h.cut
  refine (Tryd.strings_Cut ⟨l.toArray⟩ ⟨#[45]⟩ m w (by simp [ByteArray.size]; omega) hm).mono fun e w' hx => ?_
  obtain ⟨he, n, rfl⟩ := hx
  exact ⟨he, below_drewN (Below.refl _ _) _⟩

set_option maxRecDepth 100000 in
theorem numbers_any (l : List UInt8) (hl : l.length ≤ 1000) (w : World) (h : LibOk w) :
    Calls Tryd.prog 46 #[strV l] w fun e w' => (∃ a b ev, e = .returned (.tuple #[.int .i64 a, .int .i64 b, ev]) ∧ Told (numbersV l) (a, b) ev) ∧ Below w.heap.size w w' := by
  have hcut := cut_any l hl w h
  have hl1 : (Lib.cut l [45]).1.length ≤ 1000 := by unfold Lib.cut; split <;> simp <;> omega
  have hl2 : (Lib.cut l [45]).2.1.length ≤ 1000 := by unfold Lib.cut; split <;> simp <;> omega
  have hn : numbersV l = (match atoiV (Lib.cut l [45]).1 with | none => none | some a => if (Lib.cut l [45]).2.2 then (match atoiV (Lib.cut l [45]).2.1 with | none => none | some b => some (a, b)) else some (a, a)) := rfl
  generalize numbersV l = nv at hn ⊢
  generalize (Lib.cut l [45]).1 = ca at *
  generalize (Lib.cut l [45]).2.1 = cb at *
  generalize (Lib.cut l [45]).2.2 = ok at *
  have HN := Lib.hid hn
  clear hn
  have HCUT := Lib.hid hcut
  have HO := Lib.hid h
  have HA : Hid (∀ w', Below w.heap.size w w' → Calls Tryd.prog 56 #[strV ca] w' fun e w'' => (∃ v ev, e = .returned (.tuple #[.int .i64 v, ev]) ∧ Told (atoiV ca) v ev) ∧ Below w.heap.size w w'') := fun w' hb => (atoi_any ca hl1 w' (h.below hb h.big)).mono fun e w'' hx => ⟨hx.1, hb.trans (hx.2.mono hb.size)⟩
  have HB : Hid (∀ w', Below w.heap.size w w' → Calls Tryd.prog 56 #[strV cb] w' fun e w'' => (∃ v ev, e = .returned (.tuple #[.int .i64 v, ev]) ∧ Told (atoiV cb) v ev) ∧ Below w.heap.size w w'') := fun w' hb => (atoi_any cb hl2 w' (h.below hb h.big)).mono fun e w'' hx => ⟨hx.1, hb.trans (hx.2.mono hb.size)⟩
  clear hcut h hl hl1 hl2
  generalize strV ca = va at *
  generalize strV cb = vb at *
  go_enter Tryd.func46, Tryd.ntmps46
  go_wp2_with (first | (go_at_call 55; refine HCUT.out.mono ?_; rintro e w' ⟨rfl, hb⟩) | (go_at_call 56; refine (HA.out _ hb).mono ?_; rintro e w' ⟨⟨a, ev, rfl, ht⟩, hb1⟩; refine Hid.out ?_))
  rcases ht with ⟨ha, rfl⟩ | ⟨ha, t, p, rfl⟩
  · cases ok with
    | true =>
      refine Lib.hid ?_
      go_wp2_with (go_at_call 56; refine (HB.out _ hb1).mono ?_; rintro e w' ⟨⟨b, ev, rfl, ht⟩, hb2⟩)
      go_ret3
      refine ⟨⟨a, b, ev, rfl, ?_⟩, hb2⟩
      rcases ht with ⟨h2, rfl⟩ | ⟨h2, t, p, rfl⟩
      · rw [HN.out]; simp only [ha, h2, if_true]; exact .inl ⟨rfl, rfl⟩
      · rw [HN.out]; simp only [ha, h2, if_true]; exact .inr ⟨rfl, _, _, rfl⟩
    | false =>
      refine Lib.hid ?_
      go_wp2
      go_ret3
      refine ⟨⟨a, a, _, rfl, ?_⟩, hb1⟩
      show Told _ _ .nilIface; rw [HN.out]; simp only [ha]; exact .inl ⟨rfl, rfl⟩
  · cases ok with
    | true =>
      refine Lib.hid ?_
      go_wp2
      go_ret3
      refine ⟨⟨a, a, _, rfl, ?_⟩, hb1⟩
      show Told _ _ (.iface t p); rw [HN.out]; simp only [ha]; exact .inr ⟨rfl, _, _, rfl⟩
    | false =>
      refine Lib.hid ?_
      go_wp2
      go_ret3
      refine ⟨⟨a, a, _, rfl, ?_⟩, hb1⟩
      show Told _ _ (.iface t p); rw [HN.out]; simp only [ha]; exact .inr ⟨rfl, _, _, rfl⟩

end Go.Proofs.YtglndonfmmbnhaaDoor
