/-
  The walk of the document's Text.
-/
import Derived.Test.YtcedkaafdblboaaDoorRefD
import Derived.Laws.IdiomStrings
namespace Go.Proofs.YtcedkaafdblboaaDoor
open Go.RowKit

theorem digit_text : ∀ n : Fin 10, Utf8.encode (48 + (n.val : Int)) = ⟨#[48 + UInt8.ofNat n.val]⟩ := by decide +kernel
theorem digit_byte : ∀ n : Fin 10, UInt8.ofNat (48 + n.val) = 48 + UInt8.ofNat n.val := by decide +kernel

theorem digits_step (x : Nat) (out : List UInt8) : Lib.decDigits x ++ out = (if x < 10 then (48 + UInt8.ofNat (x % 10)) :: out else Lib.decDigits (x / 10) ++ ((48 + UInt8.ofNat (x % 10)) :: out)) := by
  by_cases h : x < 10
  · rw [if_pos h, Lib.decDigits, dif_pos h]
    have := digit_byte ⟨x, h⟩
    simp only at this
    rw [this, Nat.mod_eq_of_lt h]
    rfl
  · rw [if_neg h]
    conv => lhs; rw [Lib.decDigits, dif_neg h]
    have := digit_byte ⟨x % 10, Nat.mod_lt _ (by decide)⟩
    simp only at this
    rw [this, List.append_assoc]
    rfl

/-- The nine bytes' block: its cells from i on hold r's digits, the rest hold something. -/
structure NineAt (B r i : Nat) (w : World) : Prop where
  done : ∀ j, i ≤ j → j < 9 → w.cell? ⟨B, j, none⟩ = some (.int .u8 ((padL r).getD j 0).toNat)
  any : ∀ j, j < 9 → ∃ v, w.cell? ⟨B, j, none⟩ = some v
  free : ∀ j, j < 9 → w.frozen? ⟨B, j, none⟩ = false

theorem nine_new (w : World) (r : Nat) (z : Value) (t : TypeId) : NineAt w.heap.size r 9 (w.alloc (.cells #[z, z, z, z, z, z, z, z, z] t)) := by
  refine ⟨fun j h1 h2 => by omega, fun j hj => ?_, fun j hj => ?_⟩
  · have h : j = 0 ∨ j = 1 ∨ j = 2 ∨ j = 3 ∨ j = 4 ∨ j = 5 ∨ j = 6 ∨ j = 7 ∨ j = 8 := by omega
    rcases h with rfl | rfl | rfl | rfl | rfl | rfl | rfl | rfl | rfl <;> exact ⟨z, by simp [go_sem]⟩
  · have h : j = 0 ∨ j = 1 ∨ j = 2 ∨ j = 3 ∨ j = 4 ∨ j = 5 ∨ j = 6 ∨ j = 7 ∨ j = 8 := by omega
    rcases h with rfl | rfl | rfl | rfl | rfl | rfl | rfl | rfl | rfl <;> simp [go_sem]

theorem NineAt.set {B r i : Nat} {w : World} (h : NineAt B r (i + 1) w) (hi : i < 9) : NineAt B r i (w.setCell ⟨B, i, none⟩ (.int .u8 ((padL r).getD i 0).toNat)) := by
  obtain ⟨v0, hv0⟩ := h.any i hi
  refine ⟨fun j h1 h2 => ?_, fun j hj => ?_, fun j hj => by rw [World.frozen?_setCell]; exact h.free j hj⟩
  · by_cases e : j = i
    · subst e; exact World.cell?_setCell_same' _ _ _ (by rw [hv0]; rfl)
    · have hne : (⟨B, i, none⟩ : Addr) ≠ ⟨B, j, none⟩ := by intro e2; cases e2; exact e rfl
      first | rw [World.cell?_setCell_other w hne] | rw [World.cell?_setCell_other w _ hne] | rw [World.cell?_setCell_other w _ _ _ hne] | rw [World.cell?_setCell_other w _ _ hne]
      exact h.done j (by omega) h2
  · by_cases e : j = i
    · subst e; exact ⟨_, World.cell?_setCell_same' _ _ _ (by rw [hv0]; rfl)⟩
    · have hne : (⟨B, i, none⟩ : Addr) ≠ ⟨B, j, none⟩ := by intro e2; cases e2; exact e rfl
      first | rw [World.cell?_setCell_other w hne] | rw [World.cell?_setCell_other w _ hne] | rw [World.cell?_setCell_other w _ _ _ hne] | rw [World.cell?_setCell_other w _ _ hne]
      exact h.any j hj

set_option maxRecDepth 100000 in
set_option maxHeartbeats 2000000 in
theorem rtext_any (t : Int) (w : World) (h0 : 0 ≤ t) (h1 : t ≤ 1125899906842624) :
    Calls Tryd.prog 27 #[.int .i64 t] w fun e w' => e = .returned (.string ⟨(textL t).toArray⟩) ∧ Below w.heap.size w w' := by
  have htl := textL_nat t h0
  obtain ⟨q, hq⟩ := Int.eq_ofNat_of_zero_le (show 0 ≤ t / 1000000000 by omega)
  obtain ⟨r, hr⟩ := Int.eq_ofNat_of_zero_le (show 0 ≤ t % 1000000000 by omega)
  have hq7 : q < 10 ^ 7 := by omega
  have hr9 : r < 1000000000 := by omega
  rw [hq, hr, Int.toNat_natCast, Int.toNat_natCast] at htl
  have hdl := decDigits_le 6 q hq7
  have HTL := Lib.hid htl
  clear htl hq7
  have HRQ := Lib.hid (And.intro hr hr9)
  clear hr hr9
  go_enter Tryd.func27, Tryd.ntmps27
  go_wp2
  go_loop [3, 5] (fun o x => ∃ (x' : Nat) (out : List UInt8), x' ≤ q ∧ x = .int .i64 x' ∧ o = .string ⟨out.toArray⟩ ∧ Hid (Lib.decDigits x' ++ out = Lib.decDigits q)) (fun _ x => (intOf x).toNat)
  case atStart => exact ⟨q, [], Nat.le_refl _, by rw [hq], rfl, by show _ = _; simp⟩
  case round =>
    obtain ⟨x, out, hx, rfl, rfl, HD⟩ := hrel
    have hol : out.length ≤ 7 := by
      have := congrArg List.length HD.out
      rw [List.length_append] at this; omega
    have hst := digits_step x out
    have hd10 : x % 10 < 10 := Nat.mod_lt _ (by decide)
    have henc := digit_text ⟨x % 10, hd10⟩
    simp only at henc
    have henc' : Utf8.encode (48 + (x : Int) % 10) = ⟨#[48 + UInt8.ofNat (x % 10)]⟩ := by
      rw [show (x : Int) % 10 = ((x % 10 : Nat) : Int) from by omega]; exact henc
    clear henc
    have HE : Hid (∀ _ : Unit, Utf8.encode (48 + (x : Int) % 10) = ⟨#[48 + UInt8.ofNat (x % 10)]⟩) := fun _ => henc'
    have hlo : ¬ 9223372036854775807 < (Utf8.encode (48 + (x : Int) % 10)).size + out.length := by
      rw [henc']
      show ¬ 9223372036854775807 < 1 + out.length
      omega
    clear henc'
    have hj : ({ data := #[48 + UInt8.ofNat (x % 10)] } : ByteArray) ++ ({ data := out.toArray } : ByteArray) = ⟨((48 + UInt8.ofNat (x % 10)) :: out).toArray⟩ := bytes_join2 [48 + UInt8.ofNat (x % 10)] out
    by_cases hx10 : x < 10
    · rw [if_pos hx10] at hst
      have hfin : Lib.decDigits q = (48 + UInt8.ofNat (x % 10)) :: out := by rw [← HD.out]; exact hst
      have HFN := Lib.hid hfin
      have HJ := Lib.hid hj
      clear hst hfin hj
      clear hd10
      generalize 48 + UInt8.ofNat (x % 10) = dg at HE HJ HFN
      by_cases hz : r = 0
      · have hz' : (t % 1000000000 == 0) = true := by rw [HRQ.out.1, hz]; rfl
        have htx : textL t = Lib.decDigits q := by rw [HTL.out, if_pos (by omega)]
        have HX : Hid (∀ _ : Unit, Utf8.encode (48 + (x : Int) % 10) ++ ({ data := out.toArray } : ByteArray) = ⟨(textL t).toArray⟩) := fun _ => by rw [HE.out (), HJ.out, htx, HFN.out]
        clear hz htx
        go_wp2
        go_ret
        exact ⟨by rw [← HX.out ()]; rfl, Below.refl _ _⟩
      · have hz' : (t % 1000000000 == 0) = false := by rw [HRQ.out.1, beq_eq_false_iff_ne]; omega
        have HX : Hid (∀ _ : Unit, Utf8.encode (48 + (x : Int) % 10) ++ ({ data := out.toArray } : ByteArray) = ⟨(Lib.decDigits q).toArray⟩) := fun _ => by rw [HE.out (), HJ.out, HFN.out]
        go_wp2
        rw [HX.out (), HRQ.out.1]
        have hNew := nine_new w r (.int .u8 0) 55
        have hB1 : Below w.heap.size w (w.alloc (Obj.cells #[Value.int IntKind.u8 0, Value.int IntKind.u8 0, Value.int IntKind.u8 0, Value.int IntKind.u8 0, Value.int IntKind.u8 0, Value.int IntKind.u8 0, Value.int IntKind.u8 0, Value.int IntKind.u8 0, Value.int IntKind.u8 0] 55)) := (Below.refl _ _).alloc (Nat.le_refl _) _
        generalize w.alloc (Obj.cells #[Value.int IntKind.u8 0, Value.int IntKind.u8 0, Value.int IntKind.u8 0, Value.int IntKind.u8 0, Value.int IntKind.u8 0, Value.int IntKind.u8 0, Value.int IntKind.u8 0, Value.int IntKind.u8 0, Value.int IntKind.u8 0] 55) = w1 at *
        have hr0 : r ≠ 0 := hz
        generalize hBE : w.heap.size = B at *
        go_loopw [4, 7] (fun v i wr => ∃ (k n : Nat) (z : Int), k ≤ 9 ∧ z = (k : Int) - 1 ∧ i = .int .i64 z ∧ v = .int .i64 n ∧ Hid (n = r / 10 ^ (9 - k)) ∧ NineAt B r k wr ∧ Below B w wr) (fun _ i _ => (intOf i + 1).toNat)
        case atStart => exact ⟨9, r, 8, by omega, by omega, rfl, rfl, by show _ = _; simp, hNew, hB1⟩
        case round =>
          obtain ⟨k, n, z, hk, hzk, rfl, rfl, HN, hA, hBr⟩ := hrel
          cases k with
          | succ i =>
            obtain rfl : z = (i : Int) := by omega
            have hdig := padL_at r HRQ.out.2 i (by omega)
            have hn9 : n = r / 10 ^ (8 - i) := by have := HN.out; rwa [show 9 - (i + 1) = 8 - i from by omega] at this
            have hnn : n / 10 = r / 10 ^ (9 - i) := by
              rw [hn9, Nat.div_div_eq_div_mul, ← Nat.pow_succ, show (8 - i).succ = 9 - i from by omega]
            rw [← hn9] at hdig
            have hnb : n < 1000000000 := by
              rw [hn9]; exact Nat.lt_of_le_of_lt (Nat.div_le_self _ _) HRQ.out.2
            have hA1 := hA.set (i := i) (by omega)
            rw [show (((padL r).getD i 0).toNat : Int) = 48 + (n : Int) % 10 from by omega] at hA1
            have HNN := Lib.hid hnn
            have HA1 := Lib.hid hA1
            have hBr1 := Lib.hid (hBr.setCell (p := ⟨B, i, none⟩) (Nat.le_refl _) (.int .u8 (48 + (n : Int) % 10)))
            obtain ⟨v0, hv0⟩ := hA.any i (by omega)
            have hfr := hA.free i (by omega)
            have hi9 : i < 9 := by omega
            clear hdig hnn hn9 hzk hA hA1
            go_wp2
            exact ⟨⟨i, n / 10, (i : Int) - 1, by omega, rfl, rfl, by go_num, HNN, HA1.out, hBr1⟩, by simp [intOf]⟩
          | zero =>
            obtain rfl : z = -1 := by omega
            have HD9 : Hid (∀ j, j < 9 → wr.cell? ⟨B, j, none⟩ = some (.int .u8 ((padL r).getD j 0).toNat)) := fun j hj => hA.done j (Nat.zero_le _) hj
            obtain ⟨p1, -⟩ := padL_law r HRQ.out.2
            have HP1 := Lib.hid p1
            clear hA p1 hzk
            go_wp2
            go_loopw [8] (fun v wi => ∃ m : Nat, 1 ≤ m ∧ m ≤ 9 ∧ v = .int .i64 m ∧ Below B w wi ∧ Hid (∀ j, j < 9 → wi.cell? ⟨B, j, none⟩ = some (.int .u8 ((padL r).getD j 0).toNat)) ∧ Hid (∀ j, m ≤ j → j < 9 → (padL r).getD j 0 = 48)) (fun v _ => (intOf v).toNat)
            case atStart => exact ⟨9, by omega, by omega, rfl, hBr, HD9, fun j h1 h2 => by omega⟩
            case round =>
              obtain ⟨m, hm1, hm9, rfl, hBw, HDw, HM⟩ := hrel
              have hck := HDw.out (m - 1) (by omega)
              by_cases h48 : (padL r).getD (m - 1) 0 = 48
              · have hm2 : 2 ≤ m := by
                  by_cases h : m = 1
                  · exfalso
                    refine hr0 (pad_zero r HRQ.out.2 fun j hj => ?_)
                    by_cases hj0 : j = 0
                    · subst hj0; rw [h] at h48; exact h48
                    · exact HM.out j (by omega) hj
                  · omega
                have HMn : Hid (∀ j, m - 1 ≤ j → j < 9 → (padL r).getD j 0 = 48) := fun j h1 h2 => by
                  by_cases e : j = m - 1
                  · subst e; exact h48
                  · exact HM.out j (by omega) h2
                rw [h48] at hck
                have hck' : wr.cell? ⟨B, m - 1, none⟩ = some (.int .u8 48) := hck
                clear hck h48
                go_wp2
                exact ⟨⟨m - 1, by omega, by omega, by rw [show ((m - 1 : Nat) : Int) = (m : Int) - 1 from by omega], hBw, HDw, HMn⟩, by simp [intOf]; omega⟩
              · have htrim : Lib.trimRightB (padL r) 48 = (padL r).take m := trim_at (padL r) m hm1 (by rw [HP1.out]; exact hm9) (fun j h1 h2 => HM.out j h1 (by rw [HP1.out] at h2; exact h2)) h48
                have hne : ((((padL r).getD (m - 1) 0).toNat : Int) == 48) = false := by
                  rw [beq_eq_false_iff_ne]
                  intro h
                  refine h48 (UInt8.toNat_inj.1 ?_)
                  show _ = 48
                  omega
                have hlm : ((padL r).take m).length = m := by rw [List.length_take, HP1.out]; omega
                have hconv := run_convert_bytes_back wr 56 9 5 ⟨B, 0, none⟩ 9 ((padL r).take m) (P := Tryd.prog) (by kernel_rfl) (by kernel_rfl) (by kernel_rfl) (fun j hj => by
                  rw [hlm] at hj
                  have := HDw.out j (by omega)
                  have e : ((⟨B, 0, none⟩ : Addr).add j) = ⟨B, j, none⟩ := by cases j <;> simp [Addr.add]
                  rw [e, this]
                  have hjp : j < (padL r).length := by rw [HP1.out]; omega
                  simp [hjp])
                rw [hlm] at hconv
                have htx : textL t = Lib.decDigits q ++ 46 :: (padL r).take m := by rw [HTL.out, if_neg (by omega), htrim]
                have HTX := Lib.hid htx
                have hll : ((padL r).take m).length ≤ 9 := by omega
                clear htx htrim hlm h48
                generalize (padL r).take m = fr at *
                generalize (((padL r).getD (m - 1) 0).toNat : Int) = dv at *
                have hsl : (Instr.sliceAt 55 (.pointer (some ⟨B, 0, none⟩)) none (some (.int .i64 (m : Int))) none).run Tryd.prog wr = .ok (.slice (some ⟨B, 0, none⟩) m 9) wr := by
                  have h := run_sliceAt_array_h (P := Tryd.prog) wr 55 ⟨B, 0, none⟩ (by kernel_rfl) .i64 (m : Int) (by omega) (by rw [show (Tryd.prog.arrayLen 55 : Nat) = 9 from by kernel_rfl]; omega)
                  rw [h, show Tryd.prog.arrayLen 55 = 9 from by kernel_rfl, show (sizeOf (Tryd.prog.elem 55)).run Tryd.prog wr = .ok 1 wr from by kernel_rfl]
                  simp [slicedAt, Result.andThen, Addr.add]
                have hbytes : ({ data := (Lib.decDigits q).toArray } : ByteArray) ++ { data := #[46] } ++ { data := fr.toArray } = ⟨(textL t).toArray⟩ := by
                  rw [HTX.out]; apply ByteArray.ext; simp
                have HBY := Lib.hid hbytes
                clear hbytes
                go_wp2
                go_ret
                exact ⟨by rw [← HBY.out]; rfl, hBE ▸ hBw⟩
    · rw [if_neg hx10] at hst
      have HST : Hid (Lib.decDigits (x / 10) ++ ((48 + UInt8.ofNat (x % 10)) :: out) = Lib.decDigits q) := by
        show _ = _
        rw [← hst]; exact HD.out
      have HJ := Lib.hid hj
      clear hst hj
      clear hd10
      generalize 48 + UInt8.ofNat (x % 10) = dg at HE HJ HST
      go_wp2
      go_round
      case rel => exact ⟨x / 10, dg :: out, by omega, by go_num, by rw [HE.out (), HJ.out], HST⟩
      case measure => simp [intOf]; omega

end Go.Proofs.YtcedkaafdblboaaDoor
