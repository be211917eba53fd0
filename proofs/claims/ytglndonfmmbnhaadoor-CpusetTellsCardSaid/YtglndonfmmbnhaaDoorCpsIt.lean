/-
  The iterator over a set's numbers: its contract.
-/
import Derived.Test.YtglndonfmmbnhaaDoorCpsB
import Derived.Test.YtglndonfmmbnhaaDoorRange
import Derived.RangeFuncBound
import Derived.Shelf.Abstract
import Derived.Shelf.RegionOpen
import Derived.OwnWalkIn
import Derived.TacticsInMore
import Derived.LoopNIn
import Derived.LoopIn
namespace Go.Proofs.YtglndonfmmbnhaaDoor
open Go.RowKit Go.Shelf

attribute [local go_sem] Oper.semAt_some

/-- The numbers in a set, rising. -/
def listN (s : Nat) : List Nat := (List.range 8).filter fun c => s.testBit c
/-- A set without its least number. -/
def restN (s : Nat) : Nat := s &&& (s - 1)

theorem listN_zero : listN 0 = [] := by decide
theorem listN_step : ∀ s : Fin 256, s.val ≠ 0 → listN s.val = Lib.ctz 32 s.val :: listN (restN s.val) := by decide +kernel
theorem listN_cons (s : Nat) (hs : s < 256) (h0 : s ≠ 0) : listN s = Lib.ctz 32 s :: listN (restN s) := listN_step ⟨s, hs⟩ h0
theorem restN_lt (s : Nat) (hs : s < 256) : restN s < 256 := Nat.lt_of_le_of_lt Nat.and_le_left hs

abbrev TzTab (w : World) : Prop := TabAt 0 Lib.deBruijn32tab w

theorem tz_any (x : Nat) (w : World) (hx : x < 256) (hT : TzTab w) :
    Calls Tryd.prog 41 #[.int .u32 x] w fun e w' => e = .returned (.int .i64 (Lib.ctz 32 x)) ∧ w = w' :=
  (Tryd.bits_TrailingZeros32 x (by omega) w (fun _ => hT)).mono fun _ _ ⟨he, hw⟩ => ⟨he, hw.symm⟩

theorem tzTab_of {w w' : World} (h : TzTab w) (hb : w'.heap[0]? = w.heap[0]?) : TzTab w' := fun j hj => (World.cell?_of_block (w := w) hb).trans (h j hj)

/-- Own: the iterator's cell; Keep: that, and the library's table. -/
def cellOwn (Bs k : Nat) : Prop := k = Bs
def cellKeep (Bs k : Nat) : Prop := k = Bs ∨ k = 0

/-- How many numbers are left in the iterator's cell. -/
def leftN (Bs : Nat) (w : World) : Nat := match w.cell? ⟨Bs, 0, none⟩ with
  | some (.int _ z) => (listN z.toNat).length
  | _ => 0

theorem leftN_eq {Bs : Nat} {w : World} {t : Nat} (h : w.cell? ⟨Bs, 0, none⟩ = some (.int .u32 t)) : leftN Bs w = (listN t).length := by
  unfold leftN; rw [h]; simp

set_option maxRecDepth 100000 in
set_option maxHeartbeats 1000000 in
theorem in1_seq (n Bs s : Nat) (w : World) (h1n : 1 ≤ n) (hBs : Bs < w.heap.size) (hs : s < 4294967296) (hc : w.cell? ⟨Bs, 0, none⟩ = some (.int .u32 s)) (hf : w.frozen? ⟨Bs, 0, none⟩ = false) (hT : TzTab w) (h0s : 0 < w.heap.size) (hB0 : Bs ≠ 0) :
    SeqOwn Fence.wide n Tryd.prog 48 #[.pointer (some ⟨Bs, 0, none⟩)] (fun x : Nat => #[.int .i64 x]) (cellOwn Bs) (cellKeep Bs) (fun xs => xs = listN (lowN s)) (fun pre => pre <+: listN (lowN s)) 8 w := by
  intro l J Jx W hW hJ hJx hY h0
  have e1 : bits .and .u32 (s : Int) 255 = (lowN s : Int) := u32_and_nat s 255 hs (by omega)
  have hlow := lowN_lt s
  have c0 : W.cell? ⟨Bs, 0, none⟩ = some (.int .u32 s) := (hW.cell (p := ⟨Bs, 0, none⟩) hBs).trans hc
  have f0 : W.frozen? ⟨Bs, 0, none⟩ = false := (hW.frozen (p := ⟨Bs, 0, none⟩) hBs).trans hf
  have T0 : TzTab W := tzTab_of hT (hW.block 0 h0s)
  have hJ1 : J [] (W.setCell ⟨Bs, 0, none⟩ (.int .u32 (lowN s))) := hJ [] W _ h0 (Soft.setCell W _ _ rfl)
  have c1 : (W.setCell ⟨Bs, 0, none⟩ (.int .u32 (lowN s))).cell? ⟨Bs, 0, none⟩ = some (.int .u32 (lowN s)) := World.cell?_setCell_same' _ _ _ (by rw [c0]; rfl)
  have HJ := Lib.hid hJ
  have HY := Lib.hid hY
  clear hJ hY
  refine callsIn_of_wp Tryd.func48 rfl trivial ?_ rfl
  simp only [Tryd.ntmps48, List.size_toArray, List.length_cons, List.length_nil, Nat.reduceAdd, Nat.reduceSub, Array.replicate_succ, Array.replicate_zero, List.push_toArray, List.append_toArray, List.nil_append, List.cons_append]
  gi_wp2
  gi_loopw [5] (fun _ wr => ∃ (pre : List Nat) (t : Nat), t < 256 ∧ wr.cell? ⟨Bs, 0, none⟩ = some (.int .u32 t) ∧ wr.frozen? ⟨Bs, 0, none⟩ = false ∧ Hid (TzTab wr) ∧ Hid (pre ++ listN t = listN (lowN s)) ∧ J pre wr ∧ Bs < wr.heap.size ∧ 0 < wr.heap.size)
    (fun _ wr => leftN Bs wr)
  case atStart =>
    exact ⟨[], lowN s, hlow, c1, by rw [World.frozen?_setCell]; exact f0, tzTab_of T0 (Below.heap_setCell _ _ _ _ (fun e => hB0 e.symm)), rfl, hJ1, by simpa [World.setCell] using Nat.lt_of_lt_of_le hBs hW.size, by simpa [World.setCell] using Nat.lt_of_lt_of_le h0s hW.size⟩
  case round =>
    obtain ⟨pre, t, ht, hct, hft, HTz, HP, hJp, hBw, h0w⟩ := hrel
    by_cases hz : t = 0
    · subst hz
      gi_wp2
      go_end0
      exact ⟨⟨_, rfl⟩, .inl ⟨pre, by have := HP.out; rw [listN_zero, List.append_nil] at this; exact this, hJp⟩⟩
    · have hz' : ((t : Int) != 0) = true := by rw [cast_bne, bne_iff_ne]; exact hz
      have hcons := listN_cons t ht hz
      have hlen : pre.length < 8 := by
        have h8 : (listN (lowN s)).length ≤ 8 := List.length_filter_le _ _
        rw [← HP.out, List.length_append, hcons, List.length_cons] at h8; omega
      have HC := Lib.hid hcons
      have HZ := Lib.hid hz
      clear hcons hz
      obtain ⟨fn, tmps, assign, body, hy, hR⟩ := HY.out pre (Lib.ctz 32 t) wr hJp hlen
      gi_wp2_with (refine ⟨trivial, ?_⟩; gi_at_call 41; refine (callsIn_wide.2 (tz_any t _ ht HTz.out)).mono ?_; rintro e w' ⟨rfl, rfl⟩)
      refine hR.mono ?_
      rintro e W3 (⟨rfl, hJ3, hz3, hk3⟩ | ⟨rfl, hJx3⟩)
      · have hc3 : W3.cell? ⟨Bs, 0, none⟩ = some (.int .u32 t) := (World.cell?_of_block (w := wr) (hk3 Bs (.inl rfl))).trans hct
        have hf3 : W3.frozen? ⟨Bs, 0, none⟩ = false := (World.frozen?_of_block (w := wr) (hk3 Bs (.inl rfl))).trans hft
        have HT3 : Hid (TzTab W3) := tzTab_of HTz.out (hk3 0 (.inr rfl))
        have hB3 : Bs < W3.heap.size := Nat.lt_of_lt_of_le hBw hz3
        have h03 : 0 < W3.heap.size := Nat.lt_of_lt_of_le h0w hz3
        have ht1 : 1 ≤ t := by have := HZ.out; omega
        have er : bits .and .u32 (t : Int) ((t : Int) - 1) = (restN t : Int) := by
          rw [show (t : Int) - 1 = ((t - 1 : Nat) : Int) from by omega]; exact u32_and_nat t (t - 1) (by omega) (by omega)
        have hJ4 : J (pre ++ [Lib.ctz 32 t]) (W3.setCell ⟨Bs, 0, none⟩ (.int .u32 (restN t))) := HJ.out _ W3 _ hJ3 (Soft.setCell W3 _ _ rfl)
        have hc4 : (W3.setCell ⟨Bs, 0, none⟩ (.int .u32 (restN t))).cell? ⟨Bs, 0, none⟩ = some (.int .u32 (restN t)) := World.cell?_setCell_same' _ _ _ (by rw [hc3]; rfl)
        have hr4 := restN_lt t ht
        have hl3 := leftN_eq hct
        have hl4 := leftN_eq hc4
        have HL := Lib.hid (And.intro hl3 (And.intro hl4 hc4))
        clear hc4 hl3 hl4
        gi_wp2
        go_roundw
        case rel =>
          exact ⟨pre ++ [Lib.ctz 32 t], restN t, hr4, HL.out.2.2, by rw [World.frozen?_setCell]; exact hf3, tzTab_of HT3.out (Below.heap_setCell _ _ _ _ (fun e => hB0 e.symm)), by
            show _ = _
            rw [List.append_assoc, List.singleton_append, ← HC.out]; exact HP.out, hJ4, by simpa [World.setCell] using hB3, by simpa [World.setCell] using h03⟩
        case measure => rw [HL.out.1, HL.out.2.1, HC.out]; simp
      · gi_wp2
        refine bodyPost_ret (results_none rfl _ _ _) rfl ?_
        exact ⟨⟨_, rfl⟩, .inr ⟨pre ++ [Lib.ctz 32 t], ⟨listN (restN t), by rw [List.append_assoc, List.singleton_append, ← HC.out]; exact HP.out⟩, hJx3⟩⟩

end Go.Proofs.YtglndonfmmbnhaaDoor
