/-
  The walk of clock.Text.
-/
import Derived.Test.YtcedkaafdblboaaDoorClkB
import Derived.Test.YtcedkaafdblboaaDoorShelf
import Derived.Lib.AppendIntMem
import Derived.Lib.ItoaLen
namespace Go.Proofs.YtcedkaafdblboaaDoor
open Go.RowKit

/-- The text that clock.Text writes, as bytes. -/
def textL (t : Int) : List UInt8 :=
  if t % 1000000000 = 0 then Lib.itoa (t / 1000000000)
  else Lib.itoa (t / 1000000000) ++ 46 :: Lib.trimRightB (Lib.itoa (1000000000 + t % 1000000000)).tail 48

abbrev TabOk (w : World) : Prop := Lib.TabIs Tryd.prog w "internal/strconv.uint64pow10" .u64 Lib.pow10Tab

theorem tabOn {w w' : World} (h : TabOk w) (hb : Below w.heap.size w w') : TabOk w' := Lib.tabBelow_of_tabIs h w' hb

theorem fmt10 (n : Int) (h0 : -9223372036854775808 ≤ n) (h1 : n ≤ 9223372036854775807) (w : World) (htab : TabOk w) :
    Calls Tryd.prog 33 #[.int .i64 n, .int .i64 10] w fun e w' => e = .returned (.string ⟨(Lib.itoa n).toArray⟩) ∧ Below w.heap.size w w' :=
  (Tryd.strconv_FormatInt_10 n h0 h1 w htab).mono fun _ _ ⟨he, k, os, hw⟩ => ⟨he, by rw [hw]; exact Lib.below_grow _ _ (Nat.le_refl _) _ _⟩

theorem itoa_pos (n : Int) (h : 0 ≤ n) : 1 ≤ (Lib.itoa n).length := by
  obtain ⟨u, rfl⟩ : ∃ u : Nat, n = u := ⟨n.toNat, by omega⟩
  rw [Lib.itoa_nonneg, Lib.decDigits]
  split <;> simp

theorem text_whole (t : Int) (w : World) (h0 : 0 ≤ t) (h1 : t ≤ 1125899906842624) (hz : t % 1000000000 = 0) (htab : TabOk w) :
    Calls Tryd.prog 26 #[.int .i64 t] w fun e w' => e = .returned (.tuple #[.string ⟨(textL t).toArray⟩, .int .i64 0]) ∧ Below w.heap.size w w' := by
  have ht : textL t = Lib.itoa (t / 1000000000) := by unfold textL; rw [if_pos hz]
  rw [ht]
  have hr : t % 1000000000 ≤ 0 := by omega
  have hr0 : 0 ≤ t % 1000000000 := by omega
  clear ht hz
  have HT := Lib.hid htab
  clear htab
  go_enter Tryd.func26, Tryd.ntmps26
  go_wp2_with (first | (go_at_call 12; refine (check_yes _ _ h0 h1).mono ?_; rintro e w' ⟨rfl, rfl⟩) | (go_at_call 33; refine (fmt10 (t / 1000000000) (by omega) (by omega) _ HT.out).mono ?_; rintro e w' ⟨rfl, hb⟩))
  go_ret2
  exact ⟨rfl, hb⟩

theorem trimRightB_length (l : List UInt8) (c : UInt8) : (Lib.trimRightB l c).length ≤ l.length := by
  unfold Lib.trimRightB
  rw [List.length_reverse]
  have := (List.dropWhile_sublist (fun x => x == c) (l := l.reverse)).length_le
  rwa [List.length_reverse] at this

theorem extract_tail (l : List UInt8) : (({ data := l.toArray } : ByteArray).extract 1 l.length).data.toList = l.tail := by
  rw [Lib.extract_data]
  show (List.drop 1 l).take (l.length - 1) = _
  rw [List.take_of_length_le (by simp), List.drop_one]

theorem trim_tail (l : List UInt8) (w : World) (hl : l.length ≤ 21) :
    Calls Tryd.prog 34 #[.string (({ data := l.toArray } : ByteArray).extract 1 l.length), .string ⟨#[48]⟩] w fun e w' => e = .returned (.string ⟨(Lib.trimRightB l.tail 48).toArray⟩) ∧ w = w' := by
  have h := Tryd.strings_TrimRight_one (({ data := l.toArray } : ByteArray).extract 1 l.length) 48 (by decide) w (by
    rw [Lib.size_eq, extract_tail, List.length_tail]; omega)
  rw [extract_tail] at h
  exact h.mono fun _ _ ⟨he, hw⟩ => ⟨he, hw.symm⟩

theorem bytes_join3 (a b : List UInt8) (c : UInt8) : ({ data := a.toArray } : ByteArray) ++ (({ data := #[c] } : ByteArray) ++ ({ data := b.toArray } : ByteArray)) = ⟨(a ++ c :: b).toArray⟩ := by
  apply ByteArray.ext
  simp

theorem text_frac (t : Int) (w : World) (h0 : 0 ≤ t) (h1 : t ≤ 1125899906842624) (hz : t % 1000000000 ≠ 0) (htab : TabOk w) :
    Calls Tryd.prog 26 #[.int .i64 t] w fun e w' => e = .returned (.tuple #[.string ⟨(textL t).toArray⟩, .int .i64 0]) ∧ Below w.heap.size w w' := by
  have ht : textL t = Lib.itoa (t / 1000000000) ++ 46 :: Lib.trimRightB (Lib.itoa (1000000000 + t % 1000000000)).tail 48 := by unfold textL; rw [if_neg hz]
  rw [ht]
  have hr0 : 0 < t % 1000000000 := by omega
  have hr1 : t % 1000000000 < 1000000000 := by omega
  clear ht hz
  have HT := Lib.hid htab
  clear htab
  go_enter Tryd.func26, Tryd.ntmps26
  go_wp2_with (go_at_call 12; refine (check_yes _ _ h0 h1).mono ?_; rintro e w' ⟨rfl, rfl⟩)
  refine (fmt10 (t / 1000000000) (by omega) (by omega) _ HT.out).mono ?_
  rintro e w1 ⟨rfl, hb1⟩
  have HT1 := Lib.hid (tabOn HT.out hb1)
  go_wp2_with fail
  refine (fmt10 (1000000000 + t % 1000000000) (by omega) (by omega) _ HT1.out).mono ?_
  rintro e w2 ⟨rfl, hb2⟩
  have hl1 : 1 ≤ (Lib.itoa (1000000000 + t % 1000000000)).length := itoa_pos _ (by omega)
  have hl2 : (Lib.itoa (1000000000 + t % 1000000000)).length ≤ 21 := Lib.itoa_length_le _ (by omega) (by omega)
  have hl3 := trimRightB_length (Lib.itoa (1000000000 + t % 1000000000)).tail 48
  rw [List.length_tail] at hl3
  have hl4 : (Lib.itoa (t / 1000000000)).length ≤ 21 := Lib.itoa_length_le _ (by omega) (by omega)
  go_wp2_with (go_at_call 34; refine (trim_tail _ _ hl2).mono ?_; rintro e w' ⟨rfl, rfl⟩)
  go_ret2
  exact ⟨by rw [bytes_join3]; rfl, hb1.trans (hb2.mono hb1.size)⟩

theorem text_ok (t : Int) (w : World) (h0 : 0 ≤ t) (h1 : t ≤ 1125899906842624) (htab : TabOk w) :
    Calls Tryd.prog 26 #[.int .i64 t] w fun e w' => e = .returned (.tuple #[.string ⟨(textL t).toArray⟩, .int .i64 0]) ∧ Below w.heap.size w w' := by
  by_cases hz : t % 1000000000 = 0
  · exact text_whole t w h0 h1 hz htab
  · exact text_frac t w h0 h1 hz htab

theorem text_no (t : Int) (w : World) (h : t < 0 ∨ 1125899906842624 < t) :
    Calls Tryd.prog 26 #[.int .i64 t] w fun e w' => e = .returned (.tuple #[.string ⟨#[]⟩, .int .i64 120]) ∧ w = w' := by
  have H := Lib.hid h
  clear h
  go_enter Tryd.func26, Tryd.ntmps26
  go_wp2_with (go_at_call 12; refine (check_no _ _ H.out).mono ?_; rintro e w' ⟨rfl, rfl⟩)
  go_ret2
  exact ⟨rfl, rfl⟩

theorem textL_sample : textL 1500000000 = [49, 46, 53] := by
  unfold textL
  rw [if_neg (by decide)]
  decide +kernel

theorem text_sample (w : World) (htab : TabOk w) :
    Calls Tryd.prog 26 #[.int .i64 1500000000] w fun e w' => e = .returned (.tuple #[.string ⟨#[49, 46, 53]⟩, .int .i64 0]) ∧ Below w.heap.size w w' := by
  have h := text_ok 1500000000 w (by omega) (by omega) htab
  rw [textL_sample] at h
  exact h

theorem wakes_yes (w : World) (htab : TabOk w) :
    Calls Tryd.prog 10 #[] w fun e w' => e = .returned (.bool true) ∧ Below w.heap.size w w' := by
  have HT := Lib.hid htab
  clear htab
  go_enter Tryd.func10, Tryd.ntmps10
  go_wp2_with fail
  refine (add_ok 2 3 w (by omega) (by omega) (by omega) (by omega) (by omega)).mono ?_
  rintro e w1 ⟨rfl, hb1⟩
  have HT1 := Lib.hid (tabOn HT.out hb1)
  go_wp2_with fail
  refine (add_full 1125899906842624 1 w1 (by omega) (by omega) (by omega) (by omega) (by omega)).mono ?_
  rintro e w2 ⟨rfl, hb2⟩
  have HT2 := Lib.hid (tabOn HT1.out hb2)
  go_wp2_with fail
  refine (text_sample w2 HT2.out).mono ?_
  rintro e w3 ⟨rfl, hb3⟩
  go_wp2
  go_ret
  exact ⟨rfl, (hb1.trans (hb2.mono hb1.size)).trans (hb3.mono (Nat.le_trans hb1.size hb2.size))⟩

end Go.Proofs.YtcedkaafdblboaaDoor
