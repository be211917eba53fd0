/-
  The walk of clock.Parse.
-/
import Derived.Test.YtcedkaafdblboaaDoorClkP
import Derived.Test.YtcedkaafdblboaaDoorShelfP
import Derived.Shelf.Strconv.ParseIntPublic10
namespace Go.Proofs.YtcedkaafdblboaaDoor
open Go.RowKit

/-- What the library needs of a world: its table and its errors. -/
structure LibOk (w : World) : Prop where
  tab : TabOk w
  cut : ∃ m, w.cell? ⟨1, 0, none⟩ = some (.int .i64 m)
  syn : ∃ tp p, w.cell? ⟨2, 0, none⟩ = some (.iface tp p)
  rng : ∃ tp p, w.cell? ⟨3, 0, none⟩ = some (.iface tp p)
  big : 4 ≤ w.heap.size

theorem LibOk.below {w w' : World} (h : LibOk w) (hb : Below w.heap.size w w') : LibOk w' :=
  ⟨tabOn h.tab hb, h.cut.imp fun _ he => (hb.cell (p := ⟨1, 0, none⟩) (by have := h.big; show 1 < _; omega)).trans he,
   h.syn.imp fun _ he => he.imp fun _ he => (hb.cell (p := ⟨2, 0, none⟩) (by have := h.big; show 2 < _; omega)).trans he,
   h.rng.imp fun _ he => he.imp fun _ he => (hb.cell (p := ⟨3, 0, none⟩) (by have := h.big; show 3 < _; omega)).trans he, Nat.le_trans h.big hb.size⟩

theorem chainB {B : Nat} {w a b : World} (h : Below B w a) (k : Below a.heap.size a b) (hB : B ≤ a.heap.size) : Below B w b := h.trans (k.mono hB)

/-- A number out of digits: the value, or an error. -/
theorem num_any (l : List UInt8) (hl : l.length ≤ 2000) (w : World) (h : LibOk w) :
    Calls Tryd.prog 36 #[.string ⟨l.toArray⟩, .int .i64 10, .int .i64 64] w fun e w' => (∃ v ev, e = .returned (.tuple #[.int .i64 v, ev]) ∧ ((Lib.parseIntB 64 l = .ok v ∧ ev = .nilIface) ∨ ((∀ u, Lib.parseIntB 64 l ≠ .ok u) ∧ ∃ t p, ev = .iface t p))) ∧ Below w.heap.size w w' := by
  have hsz : (⟨l.toArray⟩ : ByteArray).size = l.length := by simp [ByteArray.size]
  cases hp : Lib.parseIntB 64 l with
  | ok v =>
    refine (Tryd.strconv_ParseInt_10_at64_ok ⟨l.toArray⟩ (by omega) v (by simpa using hp) w).mono fun e w' hx => ?_
    obtain ⟨he, hw⟩ := hx
    refine ⟨⟨v, _, he, .inl ⟨rfl, rfl⟩⟩, ?_⟩
    rcases hw with rfl | ⟨t, rfl⟩
    · exact Below.refl _ _
    · exact Lib.bytesWorld_below _ _ _
  | range =>
    obtain ⟨tp, p, hc⟩ := h.rng
    refine (Any.strconv_ParseInt_10_at64_range Tryd.laysC174 ⟨l.toArray⟩ (by omega) (by simpa using hp) (.iface tp p) w hc (Or.inr ⟨tp, p, rfl⟩)).mono fun e w' hx => ?_
    obtain ⟨N, he, -, -, hb⟩ := hx
    exact ⟨⟨_, _, he, .inr ⟨(fun u hu => by cases hu), _, _, rfl⟩⟩, hb⟩
  | _ =>
    obtain ⟨tp, p, hc⟩ := h.syn
    refine (Any.strconv_ParseInt_10_at64_syntax Tryd.laysC174 ⟨l.toArray⟩ (by omega) (by simpa using hp) (.iface tp p) w hc (Or.inr ⟨tp, p, rfl⟩)).mono fun e w' hx => ?_
    obtain ⟨N, he, -, -, hb⟩ := hx
    exact ⟨⟨_, _, he, .inr ⟨(fun u hu => by cases hu), _, _, rfl⟩⟩, hb⟩

theorem cut_any (l : List UInt8) (hl : l.length ≤ 1000) (w : World) (h : LibOk w) :
    Calls Tryd.prog 35 #[.string ⟨l.toArray⟩, .string ⟨#[46]⟩] w fun e w' => e = .returned (.tuple #[.string ⟨(Lib.cut l [46]).1.toArray⟩, .string ⟨(Lib.cut l [46]).2.1.toArray⟩, .bool (Lib.cut l [46]).2.2]) ∧ Below w.heap.size w w' := by
  obtain ⟨m, hm⟩ := h.cut
  refine (Tryd.strings_Cut ⟨l.toArray⟩ ⟨#[46]⟩ m w (by simp [ByteArray.size]; omega) hm).mono fun e w' hx => ?_
  obtain ⟨he, n, rfl⟩ := hx
  exact ⟨he, below_drewN (Below.refl _ _) _⟩

theorem text_ans (t : Int) (w : World) (h : LibOk w) :
    Calls Tryd.prog 26 #[.int .i64 t] w fun e w' => (∃ (x : List UInt8) (f : Int), e = .returned (.tuple #[.string ⟨x.toArray⟩, .int .i64 f]) ∧ ((0 ≤ t ∧ t ≤ 1125899906842624) ∧ x = textL t ∧ f = 0 ∨ ¬ (0 ≤ t ∧ t ≤ 1125899906842624) ∧ f = 120)) ∧ Below w.heap.size w w' := by
  by_cases ht : 0 ≤ t ∧ t ≤ 1125899906842624
  · exact (text_ok t w ht.1 ht.2 h.tab).mono fun e w' ⟨he, hb⟩ => ⟨⟨_, _, he, .inl ⟨ht, rfl, rfl⟩⟩, hb⟩
  · exact (text_no t w (by omega)).mono fun e w' ⟨he, hw⟩ => ⟨⟨[], _, he, .inr ⟨ht, rfl⟩⟩, by rw [← hw]; exact Below.refl _ _⟩

/-- What Parse answers. -/
def parseV (s : List UInt8) : Value := match parseN s with
  | some t => .tuple #[.int .i64 t, .int .i64 0]
  | none => .tuple #[.int .i64 0, .int .i64 2]

theorem bytes_join2 (a b : List UInt8) : ({ data := a.toArray } : ByteArray) ++ ({ data := b.toArray } : ByteArray) = ⟨(a ++ b).toArray⟩ := by
  apply ByteArray.ext
  simp

set_option maxRecDepth 100000 in
set_option maxHeartbeats 2000000 in
theorem parse_any (s : List UInt8) (hs : s.length ≤ 900) (w : World) (h : LibOk w) :
    Calls Tryd.prog 28 #[.string ⟨s.toArray⟩] w fun e w' => e = .returned (parseV s) ∧ Below w.heap.size w w' := by
  have hcut := cut_any s (by omega) w h
  have hla : (Lib.cut s [46]).1.length ≤ 900 := by unfold Lib.cut; split <;> simp <;> omega
  have hlb : (Lib.cut s [46]).2.1.length ≤ 900 := by unfold Lib.cut; split <;> simp <;> omega
  have HV : Hid (∀ p, parseN s = p → parseV s = match p with | some t => .tuple #[.int .i64 t, .int .i64 0] | none => .tuple #[.int .i64 0, .int .i64 2]) := by
    rintro p rfl; rfl
  have HN : Hid (numO s = if 9 < (Lib.cut s [46]).2.1.length then none else match Lib.parseIntB 64 ((Lib.cut s [46]).1 ++ ((Lib.cut s [46]).2.1 ++ List.replicate (9 - (Lib.cut s [46]).2.1.length) 48)) with | .ok v => some v | _ => none) := rfl
  have HP : Hid (∀ o, numO s = o → parseN s = match o with | some v => if (0 ≤ v ∧ v ≤ 1125899906842624) ∧ textL v = s then some v else none | none => none) := by
    rintro o rfl; rfl
  generalize parseV s = res at HV ⊢
  generalize parseN s = pn at HV HP
  generalize numO s = no at HN HP
  have HO := Lib.hid h
  clear h
  generalize (Lib.cut s [46]).2.2 = ok at hcut
  generalize (Lib.cut s [46]).1 = a at *
  generalize (Lib.cut s [46]).2.1 = b at *
  have HC := Lib.hid hcut
  clear hcut
  go_enter Tryd.func28, Tryd.ntmps28
  by_cases hb9 : 9 < b.length
  · go_wp2_with (go_at_call 35; refine HC.out.mono ?_; rintro e w' ⟨rfl, hb1⟩)
    have hno : no = none := by rw [HN.out, if_pos hb9]
    go_ret2
    exact ⟨by rw [HV.out none (by rw [HP.out none hno])]; rfl, hb1⟩
  · go_wp2_with (go_at_call 35; refine HC.out.mono ?_; rintro e w1 ⟨rfl, hb1⟩)
    have HNo : Hid (no = match Lib.parseIntB 64 (a ++ (b ++ List.replicate (9 - b.length) 48)) with | .ok v => some v | _ => none) := by
      show _ = _
      rw [HN.out, if_neg hb9]
    go_loop [5, 23] (fun x i => ∃ k : Nat, k ≤ 9 - b.length ∧ i = .int .i64 k ∧ x = .string ⟨(b ++ List.replicate k 48).toArray⟩) (fun _ i => 9 - b.length - (intOf i).toNat)
    case atStart => exact ⟨0, Nat.zero_le _, rfl, by simp⟩
    case round =>
      obtain ⟨k, hk, rfl, rfl⟩ := hrel
      have hlen : (b ++ List.replicate k 48).length ≤ 1000 := by rw [List.length_append, List.length_replicate]; omega
      by_cases hlt : k < 9 - b.length
      · have hj : ({ data := (b ++ List.replicate k 48).toArray } : ByteArray) ++ ({ data := #[48] } : ByteArray) = ⟨(b ++ List.replicate (k + 1) 48).toArray⟩ := by
          have := bytes_join2 (b ++ List.replicate k 48) [48]
          rw [List.append_assoc, ← List.replicate_succ'] at this
          exact this
        have HJ := Lib.hid hj
        clear hj
        generalize b ++ List.replicate k 48 = bk at *
        go_wp2
        go_round
        case rel => exact ⟨k + 1, by omega, by go_num, by rw [HJ.out]⟩
        case measure => simp [intOf]; omega
      · have hk9 : 9 - b.length = k := by omega
        have HO1 : Hid (LibOk w1) := HO.out.below hb1
        have hnum := num_any (a ++ (b ++ List.replicate k 48)) (by rw [List.length_append]; omega) w1 HO1.out
        rw [← bytes_join2] at hnum
        have HNk : Hid (no = match Lib.parseIntB 64 (a ++ (b ++ List.replicate k 48)) with | .ok v => some v | _ => none) := by
          have := HNo.out
          rw [hk9] at this
          exact this
        generalize b ++ List.replicate k 48 = bk at *
        generalize Lib.parseIntB 64 (a ++ bk) = pr at *
        have HNU := Lib.hid hnum
        clear hnum hk9
        go_wp2_with (go_at_call 36; refine HNU.out.mono ?_; rintro e w2 ⟨⟨v, ev, rfl, hcase⟩, hb2⟩; refine Hid.out ?_)
        have hB2 := chainB hb1 hb2 hb1.size
        have HTX := Lib.hid (text_ans v w2 (HO.out.below hB2))
        rcases hcase with ⟨rfl, rfl⟩ | ⟨hnone, t, p, rfl⟩
        · have hno : no = some v := HNk.out
          have HPN := Lib.hid (HP.out _ hno)
          refine Lib.hid ?_
          go_wp2_with (go_at_call 26; refine HTX.out.mono ?_; rintro e w3 ⟨⟨x, f, rfl, hx⟩, hb3⟩; refine Hid.out ?_)
          have hB3 := chainB hB2 hb3 hB2.size
          rcases hx with ⟨hr, rfl, rfl⟩ | ⟨hr, rfl⟩
          · by_cases hs2 : textL v = s
            · have hpn : pn = some v := by rw [HPN.out]; rw [if_pos ⟨hr, hs2⟩]
              have HR := Lib.hid (HV.out _ hpn)
              have hs3 : (textL v == s) = true := by simp [hs2]
              clear hs2 hr hno hpn
              generalize textL v = x at *
              refine Lib.hid ?_
              go_wp2
              go_ret2
              exact ⟨by rw [HR.out]; rfl, hB3⟩
            · have hpn : pn = none := by rw [HPN.out]; rw [if_neg (fun h => hs2 h.2)]
              have HR := Lib.hid (HV.out _ hpn)
              have hs3 : (textL v == s) = false := by simp [hs2]
              clear hs2 hr hno hpn
              generalize textL v = x at *
              refine Lib.hid ?_
              go_wp2
              go_ret2
              exact ⟨by rw [HR.out]; rfl, hB3⟩
          · have hpn : pn = none := by rw [HPN.out]; rw [if_neg (fun h => hr h.1)]
            have HR := Lib.hid (HV.out _ hpn)
            clear hr hno hpn
            refine Lib.hid ?_
            go_wp2
            go_ret2
            exact ⟨by rw [HR.out]; rfl, hB3⟩
        · have hno : no = none := by
            rw [HNk.out]
            cases pr with
            | ok u => exact absurd rfl (hnone u)
            | _ => rfl
          have hpn : pn = none := HP.out _ hno
          have HR := Lib.hid (HV.out _ hpn)
          clear hno hpn hnone
          refine Lib.hid ?_
          go_wp2_with (go_at_call 26; refine HTX.out.mono ?_; rintro e w3 ⟨⟨x, f, rfl, hx⟩, hb3⟩)
          go_ret2
          exact ⟨by rw [HR.out]; rfl, chainB hB2 hb3 hB2.size⟩

end Go.Proofs.YtcedkaafdblboaaDoor
