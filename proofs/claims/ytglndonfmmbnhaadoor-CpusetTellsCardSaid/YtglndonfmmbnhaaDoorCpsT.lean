/-
  The walk of cpuset.Text.
-/
import Derived.Test.YtglndonfmmbnhaaDoorCpsL
namespace Go.Proofs.YtglndonfmmbnhaaDoor
open Go.RowKit

def firstN (s : Nat) : Nat := Lib.ctz 32 s
/-- The set shifted down, turned over. -/
def flipN (s : Nat) : Nat := 4294967295 - s / 2 ^ firstN s
def manyN (s : Nat) : Nat := Lib.ctz 32 (flipN s)
def lastN (s : Nat) : Nat := firstN s + manyN s - 1

theorem tz_first (x : Nat) (w : World) (hx : x < 256) (hT : TzTab w) :
    Calls Tryd.prog 41 #[.int .u32 x] w fun e w' => e = .returned (.int .i64 (firstN x)) ∧ w = w' := tz_any x w hx hT
theorem tz_many (x : Nat) (w : World) (hT : TzTab w) :
    Calls Tryd.prog 41 #[.int .u32 (flipN x)] w fun e w' => e = .returned (.int .i64 (manyN x)) ∧ w = w' :=
  (Tryd.bits_TrailingZeros32 (flipN x) (Nat.lt_of_le_of_lt (Nat.sub_le _ _) (by decide)) w (fun _ => hT)).mono fun _ _ ⟨he, hw⟩ => ⟨he, hw.symm⟩
theorem itoa_first (x : Nat) (w : World) (h : firstN x < 8) :
    Calls Tryd.prog 42 #[.int .i64 (firstN x)] w fun e w' => e = .returned (.string ⟨(Lib.decDigits (firstN x)).toArray⟩) ∧ w = w' :=
  (Tryd.strconv_Itoa_small (firstN x) (by omega) w).mono fun _ _ ⟨he, hw⟩ => ⟨he, hw.symm⟩
theorem itoa_last (x : Nat) (w : World) (h : firstN x < 8) (h1 : 1 < manyN x) (h8 : manyN x ≤ 8) :
    Calls Tryd.prog 42 #[.int .i64 ((firstN x : Int) + (manyN x : Int) - 1)] w fun e w' => e = .returned (.string ⟨(Lib.decDigits (lastN x)).toArray⟩) ∧ w = w' := by
  rw [show (firstN x : Int) + (manyN x : Int) - 1 = (lastN x : Int) from by unfold lastN; omega]
  exact (Tryd.strconv_Itoa_small (lastN x) (by unfold lastN; omega) w).mono fun _ _ ⟨he, hw⟩ => ⟨he, hw.symm⟩

theorem flip_fact : ∀ t : Fin 256, t.val ≠ 0 → firstN t.val < 8 ∧ 1 ≤ manyN t.val ∧ manyN t.val ≤ 8 ∧ (Lib.decDigits (firstN t.val)).length ≤ 2 ∧ (Lib.decDigits (lastN t.val)).length ≤ 2 ∧ bits .xor .u32 IntKind.u32.max ((t.val : Int) / 2 ^ firstN t.val) = (flipN t.val : Int) := by decide +kernel

theorem info9 : (Tryd.prog.info? 9).map (fun i => (i.zero, i.size, i.bytes)) = some (some (.string ⟨#[]⟩), 1, 16) := by kernel_rfl

/-- A row of a set's text: from its least number on. -/
def rowN (s : Nat) : List UInt8 := if 1 < manyN s then Lib.decDigits (firstN s) ++ 45 :: Lib.decDigits (lastN s) else Lib.decDigits (firstN s)
/-- The set behind its first row. -/
def behindN (s : Nat) : Nat := s &&& (4294967295 - (2 ^ manyN s - 1) * 2 ^ firstN s)
def rowsF : Nat → Nat → List (List UInt8)
  | 0, _ => []
  | f + 1, s => if s = 0 then [] else rowN s :: rowsF f (behindN s)
def rowsN (s : Nat) : List (List UInt8) := rowsF 8 s
def strV (l : List UInt8) : Value := .string ⟨l.toArray⟩

theorem rows_fact : ∀ t : Fin 256, (rowsN t.val).length ≤ 8 ∧ (t.val ≠ 0 → rowsN t.val = rowN t.val :: rowsN (behindN t.val) ∧ behindN t.val < t.val) := by decide +kernel

theorem back_fact : ∀ t : Fin 256, t.val ≠ 0 → bits .andNot .u32 (t.val : Int) ((2 ^ manyN t.val - 1) % 4294967296 * 2 ^ firstN t.val % 4294967296) = (behindN t.val : Int) := by decide +kernel

theorem back_fact1 : ∀ t : Fin 256, t.val ≠ 0 → manyN t.val = 1 → bits .andNot .u32 (t.val : Int) (2 ^ firstN t.val % 4294967296) = (behindN t.val : Int) := by decide +kernel

theorem bytes_join3 (a b : List UInt8) (c : UInt8) : ({ data := a.toArray } : ByteArray) ++ (({ data := #[c] } : ByteArray) ++ ({ data := b.toArray } : ByteArray)) = ⟨(a ++ c :: b).toArray⟩ := by
  apply ByteArray.ext
  simp

/-- A set's text. -/
def textL (s : Nat) : List UInt8 := if s = 0 then [110, 111, 110, 101] else Lib.join (rowsN s) [44]

theorem text_len : ∀ t : Fin 256, (Lib.join (rowsN t.val) [44]).length ≤ 64 ∧ (rowsN t.val = [] ↔ t.val = 0) := by decide +kernel

theorem row_pushed {w wr w1 : World} {base e n : Nat} {v : Value} {xs : List Value} {o : Obj} (hrow : wr.ownsRow base e 1 v n xs) (hB : Below base w wr) (hs : base ≤ wr.heap.size) (hg : (wr.alloc o).grownBy w1 v.ownBlock) : Below base w w1 := by
  refine (hB.alloc hs o).grown hg (by simp; omega) ?_
  intro k hk
  exact (hrow.lt k hk).1

theorem join_at (s : Nat) (hs : s < 256) (h0 : s ≠ 0) (B : Nat) (w wr : World) (hB : Below B w wr) (hBs : B ≤ wr.heap.size) (g c : Nat) (done : List (List UInt8)) (hd : done = rowsN s) (hrow : wr.ownsRow B 9 1 (.slice (some ⟨g, 0, none⟩) done.length c) done.length (done.map strV)) :
    Calls Tryd.prog 43 #[.slice (some ⟨g, 0, none⟩) done.length c, .string ⟨#[44]⟩] wr fun e w' => e = .returned (strV (textL s)) ∧ Below B w w' := by
  have hg := hrow.lt g rfl
  have hcells := hrow.cells (g := g) rfl
  have hlen : done.length ≤ c := by
    rcases hrow.2 with ⟨h, -⟩ | ⟨g', cap, cur, h, -, -, hc, -⟩
    · cases h
    · cases h; exact hc
  have hl2 := (rows_fact ⟨s, hs⟩).1
  have ht := (text_len ⟨s, hs⟩).1
  simp only at hl2 ht
  have hmap : (done.map fun l : List UInt8 => (⟨l.toArray⟩ : ByteArray)).map (·.data.toList) = done := by
    rw [List.map_map]; conv => rhs; rw [← List.map_id done]
    exact List.map_congr_left fun x _ => by simp
  have h := Tryd.strings_Join g 0 c (done.map fun l => ⟨l.toArray⟩) ⟨#[44]⟩ wr ?_ hg.2 (by rw [List.length_map, hd]; omega) (by rw [List.length_map]; exact hlen) (by rw [hmap, hd]; exact Nat.le_trans ht (by decide))
  · rw [hmap, List.length_map] at h
    refine h.mono fun e w' hx => ?_
    obtain ⟨he, hb⟩ := hx
    refine ⟨by rw [he, hd]; unfold textL strV; rw [if_neg h0], hB.trans (hb.mono hBs)⟩
  · intro j x hx
    have := hcells j (.string x) ?_
    · have ha : (⟨g, 0 + j, none⟩ : Addr) = (⟨g, 0, none⟩ : Addr).add j := by cases j <;> simp [Addr.add]
      rw [ha]; exact this
    · rw [List.getElem?_map] at hx ⊢
      revert hx
      cases done[j]? with
      | none => intro hx; cases hx
      | some l => intro hx; simp only [Option.map] at hx ⊢; cases hx; rfl

set_option maxRecDepth 100000 in
set_option maxHeartbeats 2000000 in
theorem text_any (s : Nat) (w : World) (hs : s < 256) (hT : TzTab w) (h0w : 0 < w.heap.size) :
    Calls Tryd.prog 21 #[.int .u32 s] w fun e w' => e = .returned (.tuple #[strV (textL s), .int .i64 0]) ∧ Below w.heap.size w w' := by
  obtain ⟨i0, hi, hz0, hz1, hz2⟩ := info_parts info9
  have HT := Lib.hid hT
  clear hT
  have h8 := (rows_fact ⟨s, hs⟩).1
  go_enter Tryd.func21, Tryd.ntmps21
  go_wp2_with (go_at_call 11; refine (check_ok s _ hs).mono ?_; rintro e w' ⟨rfl, rfl⟩)
  go_loopw [0, 5] (fun sv v wr => ∃ (t : Nat) (done : List (List UInt8)), sv = .int .u32 t ∧ t < 256 ∧ Hid (done ++ rowsN t = rowsN s) ∧ wr.ownsRow w.heap.size 9 1 v done.length (done.map strV) ∧ Hid (v = .slice none 0 0 ↔ done = []) ∧ Below w.heap.size w wr) (fun sv _ _ => (intOf sv).toNat)
  case atStart => exact ⟨s, [], rfl, hs, rfl, World.ownsRow_nil _ _ _ _, by show _ ↔ _; simp, Below.refl _ _⟩
  case round =>
    obtain ⟨t, done, rfl, ht, HP, hrow, HN, hB⟩ := hrel
    have hsz := hB.size
    by_cases hz : t = 0
    · have hz' : ((t : Int) != 0) = false := by subst hz; rfl
      have hd : done = rowsN s := by have := HP.out; subst hz; simpa [rowsN, rowsF] using this
      by_cases hs0 : s = 0
      · have hdn : done = [] := by rw [hd, hs0]; rfl
        have hv := HN.out.2 hdn
        subst hv
        have q41 : ∀ (w : World) (a : Option Addr) (n c n' c' : Nat), (binOp .eql 41 (.slice a n c) (.slice none n' c')).run Tryd.prog w = .ok (.bool a.isNone) w := fun w a n c n' c' => Lib.run_eql_slice_nil w _ _ a n c n' c' Tryd.underlying41
        clear HN HP hd hrow
        have htx : textL s = [110, 111, 110, 101] := by rw [hs0]; rfl
        have HTX := Lib.hid htx
        clear htx hs0 h8
        go_wp2
        go_ret2
        exact ⟨by rw [HTX.out]; rfl, hB⟩
      · have hdn : done ≠ [] := fun h => hs0 (((text_len ⟨s, hs⟩).2).1 (by rw [← hd, h]))
        have q41 : ∀ (w : World) (a : Option Addr) (n c n' c' : Nat), (binOp .eql 41 (.slice a n c) (.slice none n' c')).run Tryd.prog w = .ok (.bool a.isNone) w := fun w a n c n' c' => Lib.run_eql_slice_nil w _ _ a n c n' c' Tryd.underlying41
        obtain ⟨g, c, rfl⟩ : ∃ g c, u5 = .slice (some ⟨g, 0, none⟩) done.length c := by
          rcases hrow.2 with ⟨h, h'⟩ | ⟨g, cap, cur, h, -⟩
          · exact absurd (List.length_eq_zero_iff.1 h') hdn
          · exact ⟨g, cap, h⟩
        have hJ := join_at s hs hs0 w.heap.size w wr hB hsz g c done hd hrow
        have HJ := Lib.hid hJ
        clear hJ HN HP hd hrow h8 hdn hs0
        go_wp2_with (go_at_call 43; ((with_reducible refine HJ.out.mono ?_); rintro e w' ⟨rfl, hb⟩))
        go_ret2
        exact ⟨rfl, hb⟩
    · obtain ⟨hf8, hm1, hm8, hd1, hd2, hflip⟩ := flip_fact ⟨t, ht⟩ hz
      obtain ⟨hrows, hlt⟩ := (rows_fact ⟨t, ht⟩).2 hz
      have hback := back_fact ⟨t, ht⟩ hz
      simp only at hback
      have HBK := Lib.hid hback
      clear hback
      simp only at hf8 hm1 hm8 hd1 hd2 hflip hrows hlt
      have hz' : ((t : Int) != 0) = true := by rw [cast_bne, bne_iff_ne]; exact hz
      have HT2 : Hid (TzTab wr) := tzTab_of HT.out (hB.block 0 h0w)
      have hlen : done.length ≤ 8 := by have := congrArg List.length HP.out; rw [List.length_append] at this; omega
      have HR := Lib.hid hrows
      clear hrows hz
      by_cases h1 : 1 < manyN t
      · go_wp2_with (first | (go_at_call 42; ((with_reducible refine (itoa_first t _ hf8).mono ?_); rintro e w' ⟨rfl, rfl⟩)) | (go_at_call 42; ((with_reducible refine (itoa_last t _ hf8 h1 hm8).mono ?_); rintro e w' ⟨rfl, rfl⟩)) | (go_at_call 41; ((with_reducible refine (tz_first t _ ht HT2.out).mono ?_); rintro e w' ⟨rfl, rfl⟩)) | (go_at_call 41; ((with_reducible refine (tz_many t _ HT2.out).mono ?_); rintro e w' ⟨rfl, rfl⟩)) | (at_builtin; refine wpList_append_own _ rfl _ _ 41 rfl w.heap.size 9 i0 (.string ⟨#[]⟩) 1 16 Tryd.underlying41 hi hz0 hz1 hz2 rfl (by decide) _ _ _ rfl (hrow.alloc _) ⟨wr.heap.size, 0, none⟩ 1 1 [_] rfl rfl (cell_one_new _ _ _) (by simp [Value.oneCell']) (by unfold maxLen; omega) (by omega) (by have := hB.size; simp; omega) ?_; intro v' w1 hown' hgrow hnil; replace hgrow := row_pushed hrow hB hsz hgrow; replace hnil : v' ≠ .slice none 0 0 := (fun h => absurd (hnil.1 h).2 (by decide)); refine Hid.out ?_))
        refine Lib.hid ?_
        go_wp2_with fail
        go_roundw
        case rel =>
          refine ⟨behindN t, done ++ [rowN t], by rw [HBK.out], by omega, ?_, ?_, ?_, hgrow⟩
          · rw [← HP.out, HR.out]; show _ = _; simp
          · rw [List.length_append, List.map_append]
            have : rowN t = Lib.decDigits (firstN t) ++ 45 :: Lib.decDigits (lastN t) := if_pos h1
            simp only [List.map, strV, this]
            rw [← bytes_join3]
            exact hown'
          · show _ ↔ _; simp [hnil]
        case measure => rw [HBK.out]; simp [intOf]; omega
      · have h1' : manyN t = 1 := by omega
        have HB1 : Hid _ := back_fact1 ⟨t, ht⟩ (by rintro rfl; simp at hz') h1'
        simp only at HB1
        go_wp2_with (first | (go_at_call 42; ((with_reducible refine (itoa_first t _ hf8).mono ?_); rintro e w' ⟨rfl, rfl⟩)) | (go_at_call 41; ((with_reducible refine (tz_first t _ ht HT2.out).mono ?_); rintro e w' ⟨rfl, rfl⟩)) | (go_at_call 41; ((with_reducible refine (tz_many t _ HT2.out).mono ?_); rintro e w' ⟨rfl, rfl⟩)) | (at_builtin; refine wpList_append_own _ rfl _ _ 41 rfl w.heap.size 9 i0 (.string ⟨#[]⟩) 1 16 Tryd.underlying41 hi hz0 hz1 hz2 rfl (by decide) _ _ _ rfl (hrow.alloc _) ⟨wr.heap.size, 0, none⟩ 1 1 [_] rfl rfl (cell_one_new _ _ _) (by simp [Value.oneCell']) (by unfold maxLen; omega) (by omega) (by have := hB.size; simp; omega) ?_; intro v' w1 hown' hgrow hnil; replace hgrow := row_pushed hrow hB hsz hgrow; replace hnil : v' ≠ .slice none 0 0 := (fun h => absurd (hnil.1 h).2 (by decide)); refine Hid.out ?_))
        refine Lib.hid ?_
        go_wp2_with fail
        go_roundw
        case rel =>
          refine ⟨behindN t, done ++ [rowN t], by rw [HB1.out], by omega, ?_, ?_, ?_, hgrow⟩
          · rw [← HP.out, HR.out]; show _ = _; simp
          · rw [List.length_append, List.map_append]
            have : rowN t = Lib.decDigits (firstN t) := if_neg h1
            simp only [List.map, strV, this]
            exact hown'
          · show _ ↔ _; simp [hnil]
        case measure => rw [HB1.out]; simp [intOf]; omega

theorem text_no (s : Nat) (w : World) (hs : s < 4294967296) (hb : 256 ≤ s) :
    Calls Tryd.prog 21 #[.int .u32 s] w fun e w' => e = .returned (.tuple #[strV [], .int .i64 140]) ∧ w = w' := by
  go_enter Tryd.func21, Tryd.ntmps21
  go_wp2_with (go_at_call 11; refine (check_no s _ hs hb).mono ?_; rintro e w' ⟨rfl, rfl⟩)
  go_ret2
  exact ⟨rfl, rfl⟩

end Go.Proofs.YtglndonfmmbnhaaDoor
