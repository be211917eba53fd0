/-
  strings.SplitSeq at the separator ",": its iterator's contract.
-/
import Derived.Test.YtglndonfmmbnhaaDoorCpsP
namespace Go.Proofs.YtglndonfmmbnhaaDoor
open Go.RowKit Go.Shelf

attribute [local go_sem] Oper.semAt_some

/-- The world behind SplitSeq: three blocks more. -/
def splitW (w : World) (l : List UInt8) : World := ((w.alloc (.cells #[strV l] 9)).alloc (.cells #[.string ⟨#[44]⟩] 9)).alloc (.cells #[.int .i64 0] 3)
/-- What the iterator has captured: the separator, the text, how much of the separator is kept. -/
def splitLb (B : Nat) : Array Value := #[.pointer (some ⟨B + 1, 0, none⟩), .pointer (some ⟨B, 0, none⟩), .pointer (some ⟨B + 1 + 1, 0, none⟩)]

theorem split_any (l : List UInt8) (w : World) :
    Calls Tryd.prog 45 #[strV l, .string ⟨#[44]⟩] w fun e w' => e = .returned (.func (.func 60) #[] (splitLb w.heap.size)) ∧ splitW w l = w' := by
  unfold splitW strV splitLb
  go_enter Tryd.func45, Tryd.ntmps45
  go_wp2
  go_ret
  exact ⟨rfl, rfl⟩

theorem index_any (l : List UInt8) (w : World) : Calls Tryd.prog 62 #[.string ⟨l.toArray⟩, .string ⟨#[44]⟩] w fun e w' => e = .returned (.int .i64 (Lib.indexByte l 44)) ∧ w = w' :=
  (Tryd.strings_Index_one ⟨l.toArray⟩ 44 w).mono fun _ _ ⟨he, hw⟩ => ⟨he, hw.symm⟩

def splitKeep (B k : Nat) : Prop := k = B ∨ k = B + 1 ∨ k = B + 1 + 1

/-- How long the text in the iterator's cell is. -/
def leftS (B : Nat) (w : World) : Nat := match w.cell? ⟨B, 0, none⟩ with
  | some (.string s) => s.data.size
  | _ => 0

theorem leftS_eq {B : Nat} {w : World} {t : List UInt8} (h : w.cell? ⟨B, 0, none⟩ = some (.string ⟨t.toArray⟩)) : leftS B w = t.length := by
  unfold leftS; rw [h]; simp

structure SplitAt (B : Nat) (t : List UInt8) (w : World) : Prop where
  s : w.cell? ⟨B, 0, none⟩ = some (.string ⟨t.toArray⟩)
  free : w.frozen? ⟨B, 0, none⟩ = false
  sep : w.cell? ⟨B + 1, 0, none⟩ = some (.string ⟨#[44]⟩)
  save : w.cell? ⟨B + 1 + 1, 0, none⟩ = some (.int .i64 0)

theorem SplitAt.of {B : Nat} {t : List UInt8} {w w' : World} (h : SplitAt B t w) (hb : ∀ k, splitKeep B k → w'.heap[k]? = w.heap[k]?) : SplitAt B t w' :=
  ⟨(World.cell?_of_block (w := w) (hb B (.inl rfl))).trans h.s, (World.frozen?_of_block (w := w) (hb B (.inl rfl))).trans h.free, (World.cell?_of_block (w := w) (hb (B + 1) (.inr (.inl rfl)))).trans h.sep, (World.cell?_of_block (w := w) (hb (B + 1 + 1) (.inr (.inr rfl)))).trans h.save⟩

theorem SplitAt.set {B : Nat} {t : List UInt8} {w : World} (h : SplitAt B t w) (u : List UInt8) : SplitAt B u (w.setCell ⟨B, 0, none⟩ (.string ⟨u.toArray⟩)) :=
  ⟨World.cell?_setCell_same' _ _ _ (by rw [h.s]; rfl), by rw [World.frozen?_setCell]; exact h.free,
   (World.cell?_of_block (w := w) (Below.heap_setCell _ _ _ _ (by simp))).trans h.sep, (World.cell?_of_block (w := w) (Below.heap_setCell _ _ _ _ (by simp; omega))).trans h.save⟩

theorem piece_upto (l : List UInt8) (k : Nat) : (⟨l.toArray⟩ : ByteArray).extract 0 k = ⟨(l.take k).toArray⟩ := by
  apply ByteArray.ext
  simp [ByteArray.extract, ByteArray.copySlice]
theorem piece_from (l : List UInt8) (k : Nat) : (⟨l.toArray⟩ : ByteArray).extract k l.length = ⟨(l.drop k).toArray⟩ := by
  apply ByteArray.ext
  simp [ByteArray.extract, ByteArray.copySlice]
  exact List.take_of_length_le (by simp)

set_option maxRecDepth 100000 in
set_option maxHeartbeats 2000000 in
theorem split1_seq (n B : Nat) (text : List UInt8) (hl : text.length ≤ 1000) (w : World) (h1n : 1 ≤ n) (hB : B + 1 + 1 < w.heap.size) (hS : SplitAt B text w) :
    SeqOwn Fence.wide n Tryd.prog 60 (splitLb B) (fun x : List UInt8 => #[.string ⟨(x.take 1000).toArray⟩]) (fun k => k = B) (splitKeep B) (fun xs => xs = splitL text) (fun pre => pre <+: splitL text) 2000 w := by
  intro l J Jx W hW hJ hJx hY h0
  have S0 : SplitAt B text W := hS.of (by rintro k (rfl | rfl | rfl) <;> exact hW.block _ (by omega))
  have HJ := Lib.hid hJ
  have HY := Lib.hid hY
  clear hJ hY hS hW hJx
  obtain ⟨cs, cf, cp, cv⟩ := S0
  unfold splitLb
  refine callsIn_of_wp Tryd.func60 rfl trivial ?_ rfl
  simp only [Tryd.ntmps60, List.size_toArray, List.length_cons, List.length_nil, Nat.reduceAdd, Nat.reduceSub, Array.replicate_succ, Array.replicate_zero, List.push_toArray, List.append_toArray, List.nil_append, List.cons_append]
  gi_wp2
  gi_loopw [7, 8] (fun _ _ wr => ∃ (pre : List (List UInt8)) (t : List UInt8), t.length ≤ 1000 ∧ SplitAt B t wr ∧ Hid (pre ++ splitL t = splitL text) ∧ J pre wr)
    (fun _ _ wr => leftS B wr)
  case atStart => exact ⟨[], text, hl, ⟨cs, cf, cp, cv⟩, rfl, h0⟩
  case round =>
    obtain ⟨pre, t, htl, St, HP, hJp⟩ := hrel
    have hlen : pre.length < 2000 := by
      have h8 := splitL_length text
      rw [← HP.out, List.length_append] at h8; omega
    have HS := Lib.hid St
    have HT := Lib.hid (leftS_eq St.s)
    obtain ⟨ds, df, dp, dv⟩ := St
    have hI := index_any t wr
    rcases index_cases t with hix | ⟨k, hix, hk⟩
    · have hsp := split_none t hix
      rw [hix] at hI
      have HI := Lib.hid hI
      have HSP := Lib.hid hsp
      have HIX := Lib.hid hix
      clear hI hsp hix
      obtain ⟨fn, tmps, assign, body, hy, hR⟩ := HY.out pre t wr hJp hlen
      rw [List.take_of_length_le htl] at hy
      gi_wp2_with (refine ⟨trivial, ?_⟩; gi_at_call 62; refine (callsIn_wide.2 HI.out).mono ?_; rintro e w' ⟨rfl, rfl⟩)
      refine hR.mono ?_
      rintro e W3 (⟨rfl, hJ3, hz3, hk3⟩ | ⟨rfl, hJx3⟩)
      · gi_wp2
        go_end0
        exact ⟨⟨_, rfl⟩, .inl ⟨pre ++ [t], by rw [← HP.out, HSP.out], hJ3⟩⟩
      · gi_wp2
        go_end0
        exact ⟨⟨_, rfl⟩, .inr ⟨pre ++ [t], by rw [← HP.out, HSP.out]; exact List.prefix_rfl, hJx3⟩⟩
    · have hsp := split_at t k hix
      rw [hix] at hI
      have HI := Lib.hid hI
      have HSP := Lib.hid hsp
      have HIX := Lib.hid hix
      clear hI hsp hix
      obtain ⟨fn, tmps, assign, body, hy, hR⟩ := HY.out pre (t.take k) wr hJp hlen
      rw [List.take_of_length_le (l := t.take k) (by simp; omega), ← piece_upto] at hy
      gi_wp2_with (refine ⟨trivial, ?_⟩; gi_at_call 62; refine (callsIn_wide.2 HI.out).mono ?_; rintro e w' ⟨rfl, rfl⟩)
      refine hR.mono ?_
      rintro e W3 (⟨rfl, hJ3, hz3, hk3⟩ | ⟨rfl, hJx3⟩)
      · have S3 : SplitAt B t W3 := HS.out.of hk3
        have S4 := S3.set (t.drop (k + 1))
        have J4 := HJ.out _ W3 (W3.setCell ⟨B, 0, none⟩ (.string ⟨(t.drop (k + 1)).toArray⟩)) hJ3 (Soft.setCell W3 _ _ rfl)
        have HJ4 := Lib.hid (And.intro S4 J4)
        clear S4 J4
        obtain ⟨es, ef, ep, ev⟩ := S3
        have HSZ := Lib.hid (leftS_eq HJ4.out.1.s)
        gi_wp2
        rw [piece_from]
        refine ⟨⟨pre ++ [t.take k], t.drop (k + 1), by simp; omega, HJ4.out.1, ?_, HJ4.out.2⟩, ?_⟩
        · show _ = _
          rw [List.append_assoc, List.singleton_append, ← HSP.out]; exact HP.out
        · rw [HSZ.out, HT.out]; simp; omega
      · gi_wp2
        refine bodyPost_ret (results_none rfl _ _ _) rfl ?_
        exact ⟨⟨_, rfl⟩, .inr ⟨pre ++ [t.take k], ⟨splitL (t.drop (k + 1)), by rw [List.append_assoc, List.singleton_append, ← HSP.out]; exact HP.out⟩, hJx3⟩⟩

end Go.Proofs.YtglndonfmmbnhaaDoor
