/-
  The walk of cpuset.Parse.
-/
import Derived.Test.YtglndonfmmbnhaaDoorCpsS
import Derived.RegionIn
namespace Go.Proofs.YtglndonfmmbnhaaDoor
open Go.RowKit Go.Shelf

attribute [local go_sem] Oper.semAt_some

def fillN (s : Nat) (a : Int) : Nat → Nat
  | 0 => s
  | k + 1 => fillN s a k ||| bitN (a + k)

theorem fillN_lt (s : Nat) (a : Int) (hs : s < 256) : ∀ k, fillN s a k < 256
  | 0 => hs
  | k + 1 => Nat.or_lt_two_pow (n := 8) (fillN_lt s a hs k) (bitN_lt _)

def rowSet : Option Nat → List UInt8 → Option Nat
  | none, _ => none
  | some s, row => match numbersV row with
    | none => none
    | some (a, b) => if bitN a = 0 ∨ bitN b = 0 then none else some (fillN s a (b + 1 - a).toNat)

def rowsSet (rows : List (List UInt8)) : Option Nat := rows.foldl rowSet (some 0)

theorem rowsSet_none (rows : List (List UInt8)) : rows.foldl rowSet none = none := by
  induction rows with
  | nil => rfl
  | cons a r ih => exact ih
theorem rowsSet_push (rows : List (List UInt8)) (x : List UInt8) : rowsSet (rows ++ [x]) = rowSet (rowsSet rows) x := by simp [rowsSet]
theorem rowsSet_stop {pre rows : List (List UInt8)} (h : pre <+: rows) (hn : rowsSet pre = none) : rowsSet rows = none := by
  obtain ⟨t, rfl⟩ := h
  unfold rowsSet at *
  rw [List.foldl_append, hn]; exact rowsSet_none t

def noneL : List UInt8 := [110, 111, 110, 101]
/-- The set whose text it is. -/
def parseN (l : List UInt8) : Option Nat := if l = noneL then some 0 else match rowsSet (splitL l) with
  | none => none
  | some s => if textL s = l then some s else none
def parseV (l : List UInt8) : Value := match parseN l with
  | some s => .tuple #[.int .u32 s, .int .i64 0]
  | none => .tuple #[.int .u32 0, .int .i64 2]

theorem strB_inj {a b : List UInt8} (h : (⟨a.toArray⟩ : ByteArray) = ⟨b.toArray⟩) : a = b := by
  have := congrArg (fun x : ByteArray => x.data.toList) h
  simpa using this

theorem keepsOthers_below {W W' : World} {B : Nat} (h : Below B W W') (hB : B = W.heap.size) : KeepsOthers W W' :=
  ⟨h.size, fun k o hk _ => (h.block k (by rw [hB]; exact (Array.getElem?_eq_some_iff.1 hk).1)).trans hk⟩

/-- Parse's three cells: its two results and the set. -/
structure ParseAt (N s a : Nat) (e : Int) (W : World) : Prop where
  r : W.cell? ⟨N, 0, none⟩ = some (.int .u32 a)
  rf : W.frozen? ⟨N, 0, none⟩ = false
  e : W.cell? ⟨N + 1, 0, none⟩ = some (.int .i64 e)
  ef : W.frozen? ⟨N + 1, 0, none⟩ = false
  s : W.cell? ⟨N + 1 + 1, 0, none⟩ = some (.int .u32 s)
  sf : W.frozen? ⟨N + 1 + 1, 0, none⟩ = false

theorem cell_lt {w : World} {a : Addr} {v : Value} (h : w.cell? a = some v) : a.block < w.heap.size := by
  by_cases hlt : a.block < w.heap.size
  · exact hlt
  · rw [World.cell?, Array.getElem?_eq_none (by omega)] at h
    cases h

theorem ParseAt.lt {N s a : Nat} {e : Int} {W : World} (h : ParseAt N s a e W) : N + 1 + 1 < W.heap.size := cell_lt h.s

theorem ParseAt.keep {N s a : Nat} {e : Int} {W W' : World} (h : ParseAt N s a e W) (hb : ∀ k, N ≤ k → k ≤ N + 1 + 1 → W'.heap[k]? = W.heap[k]?) : ParseAt N s a e W' :=
  ⟨(World.cell?_of_block (w := W) (hb _ (by simp) (by simp; omega))).trans h.r, (World.frozen?_of_block (w := W) (hb _ (by simp) (by simp; omega))).trans h.rf,
   (World.cell?_of_block (w := W) (hb _ (by simp) (by simp))).trans h.e, (World.frozen?_of_block (w := W) (hb _ (by simp) (by simp))).trans h.ef,
   (World.cell?_of_block (w := W) (hb _ (by simp; omega) (by simp))).trans h.s, (World.frozen?_of_block (w := W) (hb _ (by simp; omega) (by simp))).trans h.sf⟩

theorem ParseAt.setS {N s a : Nat} {e : Int} {W : World} (h : ParseAt N s a e W) (t : Nat) : ParseAt N t a e (W.setCell ⟨N + 1 + 1, 0, none⟩ (.int .u32 t)) :=
  ⟨(World.cell?_of_block (w := W) (Below.heap_setCell _ _ _ _ (by simp; omega))).trans h.r, by rw [World.frozen?_setCell]; exact h.rf,
   (World.cell?_of_block (w := W) (Below.heap_setCell _ _ _ _ (by simp))).trans h.e, by rw [World.frozen?_setCell]; exact h.ef,
   World.cell?_setCell_same' _ _ _ (by rw [h.s]; rfl), by rw [World.frozen?_setCell]; exact h.sf⟩

/-- Behind the two results' stores. -/
theorem ParseAt.setR {N s a : Nat} {e : Int} {W : World} (h : ParseAt N s a e W) (b : Nat) (f : Int) :
    ParseAt N s b f ((W.setCell ⟨N, 0, none⟩ (.int .u32 b)).setCell ⟨N + 1, 0, none⟩ (.int .i64 f)) := by
  have h1 : ParseAt N s b e (W.setCell ⟨N, 0, none⟩ (.int .u32 b)) :=
    ⟨World.cell?_setCell_same' _ _ _ (by rw [h.r]; rfl), by rw [World.frozen?_setCell]; exact h.rf,
     (World.cell?_of_block (w := W) (Below.heap_setCell _ _ _ _ (by simp))).trans h.e, by rw [World.frozen?_setCell]; exact h.ef,
     (World.cell?_of_block (w := W) (Below.heap_setCell _ _ _ _ (by simp; omega))).trans h.s, by rw [World.frozen?_setCell]; exact h.sf⟩
  exact ⟨(World.cell?_of_block (w := W.setCell ⟨N, 0, none⟩ (.int .u32 b)) (Below.heap_setCell _ _ _ _ (by simp))).trans h1.r, by rw [World.frozen?_setCell]; exact h1.rf,
     World.cell?_setCell_same' _ _ _ (by rw [h1.e]; rfl), by rw [World.frozen?_setCell]; exact h1.ef,
     (World.cell?_of_block (w := W.setCell ⟨N, 0, none⟩ (.int .u32 b)) (Below.heap_setCell _ _ _ _ (by simp))).trans h1.s, by rw [World.frozen?_setCell]; exact h1.sf⟩

/-- The world behind Parse's three cells and SplitSeq's three. -/
theorem parse_start (w : World) (l : List UInt8) :
    ParseAt w.heap.size 0 0 0 (splitW (((w.alloc (.cells #[.int .u32 0] 25)).alloc (.cells #[.int .i64 0] 26)).alloc (.cells #[.int .u32 0] 25)) l) ∧
    SplitAt (w.heap.size + 1 + 1 + 1) l (splitW (((w.alloc (.cells #[.int .u32 0] 25)).alloc (.cells #[.int .i64 0] 26)).alloc (.cells #[.int .u32 0] 25)) l) ∧
    (splitW (((w.alloc (.cells #[.int .u32 0] 25)).alloc (.cells #[.int .i64 0] 26)).alloc (.cells #[.int .u32 0] 25)) l).heap.size = w.heap.size + 6 ∧
    Below w.heap.size w (splitW (((w.alloc (.cells #[.int .u32 0] 25)).alloc (.cells #[.int .i64 0] 26)).alloc (.cells #[.int .u32 0] 25)) l) := by
  unfold splitW strV
  generalize hA : w.alloc (.cells #[.int .u32 0] 25) = A
  generalize hB : A.alloc (.cells #[.int .i64 0] 26) = B
  generalize hC : B.alloc (.cells #[.int .u32 0] 25) = C
  generalize hD : C.alloc (.cells #[.string ⟨l.toArray⟩] 9) = D
  generalize hE : D.alloc (.cells #[.string ⟨#[44]⟩] 9) = E
  generalize hF : E.alloc (.cells #[.int .i64 0] 3) = F
  have sA : A.heap.size = w.heap.size + 1 := by rw [← hA]; simp
  have sB : B.heap.size = w.heap.size + 1 + 1 := by rw [← hB]; simp [sA]
  have sC : C.heap.size = w.heap.size + 1 + 1 + 1 := by rw [← hC]; simp [sB]
  have sD : D.heap.size = w.heap.size + 1 + 1 + 1 + 1 := by rw [← hD]; simp [sC]
  have sE : E.heap.size = w.heap.size + 1 + 1 + 1 + 1 + 1 := by rw [← hE]; simp [sD]
  have sF : F.heap.size = w.heap.size + 1 + 1 + 1 + 1 + 1 + 1 := by rw [← hF]; simp [sE]
  have kA : Below w.heap.size w A := by rw [← hA]; exact (Below.refl _ _).alloc (Nat.le_refl _) _
  have kB : Below A.heap.size A B := by rw [← hB]; exact (Below.refl _ _).alloc (Nat.le_refl _) _
  have kC : Below B.heap.size B C := by rw [← hC]; exact (Below.refl _ _).alloc (Nat.le_refl _) _
  have kD : Below C.heap.size C D := by rw [← hD]; exact (Below.refl _ _).alloc (Nat.le_refl _) _
  have kE : Below D.heap.size D E := by rw [← hE]; exact (Below.refl _ _).alloc (Nat.le_refl _) _
  have kF : Below E.heap.size E F := by rw [← hF]; exact (Below.refl _ _).alloc (Nat.le_refl _) _
  have cA := cell_new_l w (.int .u32 0) 25
  have cB := cell_new_l A (.int .i64 0) 26
  have cC := cell_new_l B (.int .u32 0) 25
  have cD := cell_new_l C (.string ⟨l.toArray⟩) 9
  have cE := cell_new_l D (.string ⟨#[44]⟩) 9
  have cF := cell_new_l E (.int .i64 0) 3
  rw [hA] at cA
  rw [hB, sA] at cB
  rw [hC, sB] at cC
  rw [hD, sC] at cD
  rw [hE, sD] at cE
  rw [hF, sE] at cF
  have eF : Below E.heap.size E F := kF
  have dF : Below D.heap.size D F := kE.trans (kF.mono (by omega))
  have tF : Below C.heap.size C F := kD.trans (dF.mono (by omega))
  have bF : Below B.heap.size B F := kC.trans (tF.mono (by omega))
  have aF : Below A.heap.size A F := kB.trans (bF.mono (by omega))
  have wF : Below w.heap.size w F := kA.trans (aF.mono (by omega))
  exact ⟨⟨(aF.cell (p := ⟨w.heap.size, 0, none⟩) (by simp; omega)).trans cA.1, (aF.frozen (p := ⟨w.heap.size, 0, none⟩) (by simp; omega)).trans cA.2,
      (bF.cell (p := ⟨w.heap.size + 1, 0, none⟩) (by simp; omega)).trans cB.1, (bF.frozen (p := ⟨w.heap.size + 1, 0, none⟩) (by simp; omega)).trans cB.2,
      (tF.cell (p := ⟨w.heap.size + 1 + 1, 0, none⟩) (by simp; omega)).trans cC.1, (tF.frozen (p := ⟨w.heap.size + 1 + 1, 0, none⟩) (by simp; omega)).trans cC.2⟩,
    ⟨(dF.cell (p := ⟨w.heap.size + 1 + 1 + 1, 0, none⟩) (by simp; omega)).trans cD.1, (dF.frozen (p := ⟨w.heap.size + 1 + 1 + 1, 0, none⟩) (by simp; omega)).trans cD.2,
      (eF.cell (p := ⟨w.heap.size + 1 + 1 + 1 + 1, 0, none⟩) (by simp; omega)).trans cE.1, cF.1⟩, sF, wF⟩

theorem parse_none (w : World) : Calls Tryd.prog 24 #[.string ⟨#[110, 111, 110, 101]⟩] w fun e w' => e = .returned (.tuple #[.int .u32 0, .int .i64 0]) ∧ Below w.heap.size w w' := by
  go_enter Tryd.func24, Tryd.ntmps24
  go_wp2
  have cA := cell_new_l w (.int .u32 0) 25
  have cB := cell_new_l (w.alloc (.cells #[.int .u32 0] 25)) (.int .i64 0) 26
  have cB' := cell_alloc_l (.cells #[.int .u32 0] 25) cB.1
  have cA' := cell_alloc_l (.cells #[.int .u32 0] 25) (cell_alloc_l (.cells #[.int .i64 0] 26) cA.1)
  simp only [World.size_alloc] at cB'
  refine bodyPost_ret (v := .tuple #[.int .u32 0, .int .i64 0]) ?_ rfl ?_
  · simp [results, Tryd.f24, go_sem, cA', cB']
  · exact ⟨rfl, (((Below.refl _ w).alloc (Nat.le_refl _) _).alloc (by simp) _).alloc (by simp; omega) _⟩

def cutR (x : List UInt8) : List UInt8 := x.take 1000

theorem cutR_split (l : List UInt8) (hl : l.length ≤ 1000) : (splitL l).map cutR = splitL l := by
  conv => rhs; rw [← List.map_id (splitL l)]
  exact List.map_congr_left fun x hx => List.take_of_length_le (Nat.le_trans (splitL_mem l x hx) hl)

set_option maxRecDepth 100000 in
set_option maxHeartbeats 2000000 in
theorem parse_any (l : List UInt8) (hl : l.length ≤ 1000) (w : World) (hL : LibOk w) :
    Calls Tryd.prog 24 #[strV l] w fun e w' => e = .returned (parseV l) ∧ Below w.heap.size w w' := by
  by_cases hn : l = noneL
  · subst hn
    exact parse_none w
  · have hne : (l == [110, 111, 110, 101]) = false := by rw [Bool.eq_false_iff, ne_eq, beq_iff_eq]; exact hn
    refine (callsIn_wide (n := 5)).1 ?_
    refine callsIn_of_wp_marks Tryd.func24 rfl trivial ?_ rfl
    unfold strV
    simp only [Tryd.ntmps24, List.size_toArray, List.length_cons, List.length_nil, Nat.reduceAdd, Nat.reduceSub, Array.replicate_succ, Array.replicate_zero, List.push_toArray, List.append_toArray, List.nil_append, List.cons_append]
    gi_wp2_with (refine ⟨trivial, ?_⟩; gi_at_call 45; refine (callsIn_wide.2 (split_any l _)).mono ?_; rintro e w' ⟨rfl, rfl⟩)
    obtain ⟨hP, hS, hz, hB0⟩ := parse_start w l
    generalize splitW (((w.alloc (.cells #[.int .u32 0] 25)).alloc (.cells #[.int .i64 0] 26)).alloc (.cells #[.int .u32 0] 25)) l = W4 at hP hS hz hB0 ⊢
    refine range_own rfl (by omega) (gf := 60) (lb := splitLb (w.heap.size + 1 + 1 + 1)) rfl trivial (enters_of Tryd.func60 (by kernel_rfl) rfl)
      (Own := fun k => k = w.heap.size + 1 + 1 + 1) (Keep := splitKeep (w.heap.size + 1 + 1 + 1)) (by rintro k rfl; omega) (by rintro k (rfl | rfl | rfl) <;> omega)
      (split1_seq _ (w.heap.size + 1 + 1 + 1) l hl _ (by omega) (by omega) hS) (fun _ => rfl)
      (fun pre W => ∃ s, rowsSet (pre.map cutR) = some s ∧ s < 256 ∧ ParseAt w.heap.size s 0 0 W ∧ Below w.heap.size w W)
      (fun c pre W => c = .ret ∧ rowsSet (pre.map cutR) = none ∧ (∃ s, ParseAt w.heap.size s 0 2 W) ∧ Below w.heap.size w W)
      ?hI ?hIx ?h0
      (fun x => { tmps := #[.string ⟨l.toArray⟩, undef, .pointer (some ⟨w.heap.size, 0, none⟩), .pointer (some ⟨w.heap.size + 1, 0, none⟩), .pointer (some ⟨w.heap.size + 1 + 1, 0, none⟩), .string ⟨(cutR x).toArray⟩, undef, undef, undef, undef, undef, undef, .string ⟨l.toArray⟩, .bool false, undef, .string ⟨l.toArray⟩, .func (.func 60) #[] (splitLb (w.heap.size + 1 + 1 + 1)), .string ⟨(cutR x).toArray⟩, undef, undef, undef, undef, undef, undef, undef, undef, undef, undef, undef, undef, undef, undef, undef, undef, undef, undef, undef, undef, undef, undef, undef, undef, undef, undef, undef, undef, undef, undef, undef, undef, undef, undef, undef, undef, undef, undef, undef, undef, undef], defers := [] }) ?assign ?body ?done ?stop
    case hI =>
      rintro pre A B ⟨s, hs, hs8, hP, hB⟩ h
      refine ⟨s, hs, hs8, hP.keep fun k h1 h2 => h.block k ?_ (by rintro (hk | hk | hk) <;> first | omega | (replace hk : k = w.heap.size + 1 + 1 + 1 := hk; omega)), Soft.below hB h (by rintro k (hk | hk | hk) <;> first | omega | (replace hk : k = w.heap.size + 1 + 1 + 1 := hk; omega))⟩
      have := hP.lt; omega
    case hIx =>
      rintro c pre A B ⟨rfl, hs, ⟨s, hP⟩, hB⟩ h
      refine ⟨rfl, hs, ⟨s, hP.keep fun k h1 h2 => h.block k ?_ (by rintro (hk | hk | hk) <;> first | omega | (replace hk : k = w.heap.size + 1 + 1 + 1 := hk; omega))⟩, Soft.below hB h (by rintro k (hk | hk | hk) <;> first | omega | (replace hk : k = w.heap.size + 1 + 1 + 1 := hk; omega))⟩
      have := hP.lt; omega
    case h0 => exact ⟨0, rfl, by decide, hP, hB0⟩
    case assign =>
      intro l' x W K hK
      gi_wp2
      exact hK
    case body =>
      rintro l' pre x W hlD hlt ⟨s, hs, hs8, hP, hB⟩ _
      have hlt' : w.heap.size + 7 < W.heap.size := by omega
      clear hlD hlt
      have hnum := numbers_any (cutR x) (by unfold cutR; simp; omega) W (hL.below hB hL.big)
      have hpush : rowsSet ((pre ++ [x]).map cutR) = rowSet (some s) (cutR x) := by rw [List.map_append, List.map_singleton, rowsSet_push, hs]
      generalize cutR x = row at *
      unfold strV at hnum
      have HN := Lib.hid hnum
      have HPU := Lib.hid hpush
      clear hnum hpush
      gi_wp2_with (refine ⟨trivial, ?_⟩; gi_at_call 46; refine (callsIn_wide.2 HN.out).mono ?_; rintro e w1 ⟨⟨a, b, ev, rfl, ht⟩, hb⟩; refine Hid.out ?_)
      have hP1 : ParseAt w.heap.size s 0 0 w1 := hP.keep fun k _ hk => hb.block k (by omega)
      have hB1 : Below w.heap.size w w1 := hB.trans (hb.mono (by omega))
      have hK1 := keepsOthers_below hb rfl
      have hk1 : ∀ k, splitKeep (w.heap.size + 1 + 1 + 1) k → w1.heap[k]? = W.heap[k]? := by rintro k (rfl | rfl | rfl) <;> exact hb.block _ (by omega)
      rcases ht with ⟨hnv, rfl⟩ | ⟨hnv, t, p, rfl⟩
      · by_cases hA : bitN a = 0
        · have HR := Lib.hid (hP1.setR 0 2)
          have HPU2 : Hid (rowsSet ((pre ++ [x]).map cutR) = none) := by
            show _ = none
            rw [HPU.out]; unfold rowSet; simp only [hnv]; rw [if_pos (.inl hA)]
          have ha : ((bitN a : Int) == 0) = true := by rw [cast_beq, beq_iff_eq]; exact hA
          have HP1 := Lib.hid hP1
          have HA := Lib.hid hA
          clear hA
          obtain ⟨r1, r2, e1, e2, s1, s2⟩ := hP1
          refine Lib.hid ?_
          gi_wp2_with (first | (refine ⟨trivial, ?_⟩; gi_at_call 36; refine (callsIn_wide.2 (bit_any a _)).mono ?_; rintro e w' ⟨rfl, rfl⟩) | refine ⟨trivial, ?_⟩)
          exact ⟨hK1.trans ((KeepsOthers.setCell _ _ _).trans (KeepsOthers.setCell _ _ _)), rfl, HPU2.out, ⟨s, HR.out⟩, (hB1.setCell (p := ⟨w.heap.size, 0, none⟩) (by simp) _).setCell (p := ⟨w.heap.size + 1, 0, none⟩) (by simp) _⟩
        · by_cases hB : bitN b = 0
          · have HR := Lib.hid (hP1.setR 0 2)
            have HPU2 : Hid (rowsSet ((pre ++ [x]).map cutR) = none) := by
              show _ = none
              rw [HPU.out]; unfold rowSet; simp only [hnv]; rw [if_pos (.inr hB)]
            have ha : ((bitN a : Int) == 0) = false := by rw [cast_beq]; simpa using hA
            have hb' : ((bitN b : Int) == 0) = true := by rw [cast_beq, beq_iff_eq]; exact hB
            have HP1 := Lib.hid hP1
            clear hA hB
            obtain ⟨r1, r2, e1, e2, s1, s2⟩ := hP1
            refine Lib.hid ?_
            gi_wp2_with (first | (refine ⟨trivial, ?_⟩; gi_at_call 36; refine (callsIn_wide.2 (bit_any _ _)).mono ?_; rintro e w' ⟨rfl, rfl⟩) | refine ⟨trivial, ?_⟩)
            exact ⟨hK1.trans ((KeepsOthers.setCell _ _ _).trans (KeepsOthers.setCell _ _ _)), rfl, HPU2.out, ⟨s, HR.out⟩, (hB1.setCell (p := ⟨w.heap.size, 0, none⟩) (by simp) _).setCell (p := ⟨w.heap.size + 1, 0, none⟩) (by simp) _⟩
          · have HPU2 : Hid (rowsSet ((pre ++ [x]).map cutR) = some (fillN s a (b + 1 - a).toNat)) := by
              show _ = _
              rw [HPU.out]; unfold rowSet; simp only [hnv]; rw [if_neg (by simp [hA, hB])]
            have ha : ((bitN a : Int) == 0) = false := by rw [cast_beq]; simpa using hA
            have hb' : ((bitN b : Int) == 0) = false := by rw [cast_beq]; simpa using hB
            have ha0 : 0 ≤ a ∧ a < 8 := by
              by_cases h : 0 ≤ a ∧ a < 8
              · exact h
              · exact absurd (bitN_out (c := a) (by omega)) hA
            have hb0 : 0 ≤ b ∧ b < 8 := by
              by_cases h : 0 ≤ b ∧ b < 8
              · exact h
              · exact absurd (bitN_out (c := b) (by omega)) hB
            obtain ⟨ha1, ha2⟩ := ha0
            obtain ⟨hb1, hb2⟩ := hb0
            have HP1 := Lib.hid hP1
            clear hA hB hP1
            refine Lib.hid ?_
            gi_wp2_with (first | (refine ⟨trivial, ?_⟩; gi_at_call 36; refine (callsIn_wide.2 (bit_any _ _)).mono ?_; rintro e w' ⟨rfl, rfl⟩) | refine ⟨trivial, ?_⟩)
            gi_loopw [9] (fun v wr => ∃ k : Nat, v = .int .i64 (a + k) ∧ k ≤ (b + 1 - a).toNat ∧ ParseAt w.heap.size (fillN s a k) 0 0 wr ∧ Hid (KeepsOthers w1 wr ∧ Below w.heap.size w1 wr ∧ ∀ k, w.heap.size + 1 + 1 < k → wr.heap[k]? = w1.heap[k]?)) (fun v _ => (b + 1 - intOf v).toNat)
            case atStart => exact ⟨0, by simp, Nat.zero_le _, HP1.out, KeepsOthers.refl _, Below.refl _ _, fun _ _ => rfl⟩
            case round =>
              obtain ⟨k, rfl, hk, hPk, HW⟩ := hrel
              by_cases hlt : a + k ≤ b
              · have hf1 := fillN_lt s a hs8 k
                have hf2 := fillN_lt s a hs8 (k + 1)
                have eo : bits .or .u32 (fillN s a k : Int) (bitN (a + k) : Int) = (fillN s a (k + 1) : Int) := u32_or_nat _ _ (by omega) (by have := bitN_lt (a + k); omega)
                have hk0 : 0 ≤ a + k := by omega
                have hk8 : a + k < 8 := by omega
                have HPk := Lib.hid hPk
                obtain ⟨r1, r2, e1, e2, s1, s2⟩ := hPk
                gi_wp2
                refine wpIn_region_any (by kernel_rfl) ?_
                change wpAnyIn _ _ _ _ _ _ _ _ _ (World.drew _)
                refine wpAnyIn_ready (rs := [0, 1]) (by kernel_rfl) (by simp) ?_
                refine AllReadyIn.cons rfl (fun K hK => ?_) (AllReadyIn.cons rfl (fun K hK => ?_) AllReadyIn.nil)
                · go_simp; refine hK _ _ ?_; clear hK K
                  refine wpAnyIn_ready (rs := [1]) (by kernel_rfl) (by simp) ?_
                  refine AllReadyIn.cons rfl (fun K hK => ?_) AllReadyIn.nil
                  go_simp; refine hK _ _ ?_; clear hK K
                  refine wpAnyIn_ready (rs := [2]) (by kernel_rfl) (by simp) ?_
                  refine AllReadyIn.cons rfl (fun K hK => ?_) AllReadyIn.nil
                  go_simp; refine ⟨trivial, ?_⟩; gi_at_call 36; refine (callsIn_wide.2 (bit_any _ _)).mono ?_; rintro e w' ⟨rfl, rfl⟩; refine hK _ _ ?_; clear hK K
                  refine wpAnyIn_ready (rs := [3]) (by kernel_rfl) (by simp) ?_
                  refine AllReadyIn.cons rfl (fun K hK => ?_) AllReadyIn.nil
                  go_simp; refine hK _ _ ?_; clear hK K
                  refine wpAnyIn_ready (rs := [4]) (by kernel_rfl) (by simp) ?_
                  refine AllReadyIn.cons rfl (fun K hK => ?_) AllReadyIn.nil
                  go_simp; refine hK _ _ ?_; clear hK K
                  refine wpAnyIn_done (by kernel_rfl) ?_ _
                  gi_wp2
                  go_roundw
                  case rel =>
                    refine ⟨k + 1, by go_num, by omega, (HPk.out.setS _).keep (fun _ _ _ => rfl), (HW.out.1.trans (KeepsOthers.setCell _ _ _)).trans (KeepsOthers.drew _), (HW.out.2.1.setCell (p := ⟨w.heap.size + 1 + 1, 0, none⟩) (by simp; omega) _).drew, fun j hj => ?_⟩
                    exact (Below.heap_setCell _ _ _ _ (by simp; omega)).trans (HW.out.2.2 j hj)
                  case measure => simp [intOf]; omega
                · go_simp; refine hK _ _ ?_; clear hK K
                  refine wpAnyIn_ready (rs := [0, 2]) (by kernel_rfl) (by simp) ?_
                  refine AllReadyIn.cons rfl (fun K hK => ?_) (AllReadyIn.cons rfl (fun K hK => ?_) AllReadyIn.nil)
                  · go_simp; refine hK _ _ ?_; clear hK K
                    refine wpAnyIn_ready (rs := [2]) (by kernel_rfl) (by simp) ?_
                    refine AllReadyIn.cons rfl (fun K hK => ?_) AllReadyIn.nil
                    go_simp; refine ⟨trivial, ?_⟩; gi_at_call 36; refine (callsIn_wide.2 (bit_any _ _)).mono ?_; rintro e w' ⟨rfl, rfl⟩; refine hK _ _ ?_; clear hK K
                    refine wpAnyIn_ready (rs := [3]) (by kernel_rfl) (by simp) ?_
                    refine AllReadyIn.cons rfl (fun K hK => ?_) AllReadyIn.nil
                    go_simp; refine hK _ _ ?_; clear hK K
                    refine wpAnyIn_ready (rs := [4]) (by kernel_rfl) (by simp) ?_
                    refine AllReadyIn.cons rfl (fun K hK => ?_) AllReadyIn.nil
                    go_simp; refine hK _ _ ?_; clear hK K
                    refine wpAnyIn_done (by kernel_rfl) ?_ _
                    gi_wp2
                    go_roundw
                    case rel =>
                      refine ⟨k + 1, by go_num, by omega, (HPk.out.setS _).keep (fun _ _ _ => rfl), (HW.out.1.trans (KeepsOthers.setCell _ _ _)).trans (KeepsOthers.drew _), (HW.out.2.1.setCell (p := ⟨w.heap.size + 1 + 1, 0, none⟩) (by simp; omega) _).drew, fun j hj => ?_⟩
                      exact (Below.heap_setCell _ _ _ _ (by simp; omega)).trans (HW.out.2.2 j hj)
                    case measure => simp [intOf]; omega
                  · go_simp; refine ⟨trivial, ?_⟩; gi_at_call 36; refine (callsIn_wide.2 (bit_any _ _)).mono ?_; rintro e w' ⟨rfl, rfl⟩; refine hK _ _ ?_; clear hK K
                    refine wpAnyIn_ready (rs := [0]) (by kernel_rfl) (by simp) ?_
                    refine AllReadyIn.cons rfl (fun K hK => ?_) AllReadyIn.nil
                    go_simp; refine hK _ _ ?_; clear hK K
                    refine wpAnyIn_ready (rs := [3]) (by kernel_rfl) (by simp) ?_
                    refine AllReadyIn.cons rfl (fun K hK => ?_) AllReadyIn.nil
                    go_simp; refine hK _ _ ?_; clear hK K
                    refine wpAnyIn_ready (rs := [4]) (by kernel_rfl) (by simp) ?_
                    refine AllReadyIn.cons rfl (fun K hK => ?_) AllReadyIn.nil
                    go_simp; refine hK _ _ ?_; clear hK K
                    refine wpAnyIn_done (by kernel_rfl) ?_ _
                    gi_wp2
                    go_roundw
                    case rel =>
                      refine ⟨k + 1, by go_num, by omega, (HPk.out.setS _).keep (fun _ _ _ => rfl), (HW.out.1.trans (KeepsOthers.setCell _ _ _)).trans (KeepsOthers.drew _), (HW.out.2.1.setCell (p := ⟨w.heap.size + 1 + 1, 0, none⟩) (by simp; omega) _).drew, fun j hj => ?_⟩
                      exact (Below.heap_setCell _ _ _ _ (by simp; omega)).trans (HW.out.2.2 j hj)
                    case measure => simp [intOf]; omega
              · have e : (b + 1 - a).toNat = k := by omega
                have HPU3 : Hid (rowsSet ((pre ++ [x]).map cutR) = some (fillN s a k)) := by
                  show _ = _
                  rw [HPU2.out, e]
                gi_wp2
                exact ⟨hK1.trans HW.out.1, fun j hj => (HW.out.2.2 j (by rcases hj with rfl | rfl | rfl <;> omega)).trans (hk1 j hj), fillN s a k, HPU3.out, fillN_lt s a hs8 k, hPk, hB1.trans HW.out.2.1⟩
      · have HR := Lib.hid (hP1.setR 0 2)
        have HPU2 : Hid (rowsSet ((pre ++ [x]).map cutR) = none) := by
          show _ = none
          rw [HPU.out]; unfold rowSet; simp only [hnv]
        have HP1 := Lib.hid hP1
        obtain ⟨r1, r2, e1, e2, s1, s2⟩ := hP1
        refine Lib.hid ?_
        gi_wp2_with (refine ⟨trivial, ?_⟩)
        exact ⟨hK1.trans ((KeepsOthers.setCell _ _ _).trans (KeepsOthers.setCell _ _ _)), rfl, HPU2.out, ⟨s, HR.out⟩, (hB1.setCell (p := ⟨w.heap.size, 0, none⟩) (by simp) _).setCell (p := ⟨w.heap.size + 1, 0, none⟩) (by simp) _⟩
    case done =>
      rintro D ys W hD rfl ⟨s, hs, hs8, hP, hB⟩ hK
      rw [cutR_split l hl] at hs
      have hLW := hL.below hB hL.big
      have hDlt : D < W.heap.size := (Array.getElem?_eq_some_iff.1 hK).1
      have hT := text_any s W hs8 hLW.tz (by have := hLW.big; omega)
      unfold strV at hT
      have HT := Lib.hid hT
      obtain ⟨r1, r2, e1, e2, s1, s2⟩ := id hP
      clear hT
      gi_wp2_with (refine ⟨trivial, ?_⟩; gi_at_call 21; refine (callsIn_wide.2 HT.out).mono ?_; rintro e w1 ⟨rfl, hb⟩; refine Hid.out ?_)
      have hP1 : ParseAt w.heap.size s 0 0 w1 := hP.keep fun k _ hk => hb.block k (by omega)
      have hB1 : Below w.heap.size w w1 := hB.trans (hb.mono (by omega))
      have hK1 : w1.heap[D]? = some (.deferred (some [])) := (keepsOthers_below hb rfl).same D _ hK rfl
      obtain rfl : D = w.heap.size + 6 := by omega
      have hput : ∀ (A : World) (t a : Nat) (e : Int), ParseAt w.heap.size t a e A → ParseAt w.heap.size t a e (A.putObj (w.heap.size + 6) (.deferred none)) := fun A t a e h => h.keep fun k h1 h2 => (Soft.putObj (O := fun k => k = w.heap.size + 6) A (w.heap.size + 6) (.deferred none) rfl).block k (by have := h.lt; omega) (by omega)
      by_cases hx : textL s = l
      · have hv : parseV l = .tuple #[.int .u32 s, .int .i64 0] := by
          unfold parseV parseN; rw [if_neg hn, hs]; simp only; rw [if_pos hx]
        have HV := Lib.hid hv
        have hx' : (textL s == l) = true := by simp [hx]
        have HR := Lib.hid (hP1.setR s 0)
        clear hx hv
        obtain ⟨q1, q2, q3, q4, q5, q6⟩ := hP1
        refine Lib.hid ?_
        gi_wp2
        have hK2 := ((KeepsOthers.setCell w1 ⟨w.heap.size, 0, none⟩ (.int .u32 s)).trans (KeepsOthers.setCell _ ⟨w.heap.size + 1, 0, none⟩ (.int .i64 0))).same _ _ hK1 rfl
        refine ⟨by simp, .inl ⟨_, _, rfl, run_takeDeferred hK2, ?_⟩⟩
        have hP2 := hput _ _ _ _ HR.out
        refine ⟨.tuple #[.int .u32 s, .int .i64 0], ?_, by rw [HV.out], ?_⟩
        · have p1 := hP2.r
          have p2 := hP2.e
          simp only [results, Tryd.f24]
          simp [go_sem, p1, p2]
        · exact Soft.below ((hB1.setCell (p := ⟨w.heap.size, 0, none⟩) (by simp) _).setCell (p := ⟨w.heap.size + 1, 0, none⟩) (by simp) _) (Soft.putObj (O := fun k => k = w.heap.size + 6) _ (w.heap.size + 6) _ rfl) (by rintro k rfl; omega)
      · have hv : parseV l = .tuple #[.int .u32 0, .int .i64 2] := by
          unfold parseV parseN; rw [if_neg hn, hs]; simp only; rw [if_neg hx]
        have HV := Lib.hid hv
        have hx' : (textL s == l) = false := by simp [hx]
        have HR : Hid (ParseAt w.heap.size s 0 2 ((w1.setCell ⟨w.heap.size, 0, none⟩ (.int .u32 0)).setCell ⟨w.heap.size + 1, 0, none⟩ (.int .i64 2))) := hP1.setR 0 2
        clear hx hv
        obtain ⟨q1, q2, q3, q4, q5, q6⟩ := hP1
        refine Lib.hid ?_
        gi_wp2
        have hK2 := ((KeepsOthers.setCell w1 ⟨w.heap.size, 0, none⟩ (.int .u32 0)).trans (KeepsOthers.setCell _ ⟨w.heap.size + 1, 0, none⟩ (.int .i64 2))).same _ _ hK1 rfl
        refine ⟨by simp, .inl ⟨_, _, rfl, run_takeDeferred hK2, ?_⟩⟩
        have hP2 := hput _ _ _ _ HR.out
        refine ⟨.tuple #[.int .u32 0, .int .i64 2], ?_, by rw [HV.out], ?_⟩
        · have p1 := hP2.r
          have p2 := hP2.e
          simp only [results, Tryd.f24]
          simp [go_sem, p1, p2]
        · exact Soft.below ((hB1.setCell (p := ⟨w.heap.size, 0, none⟩) (by simp) _).setCell (p := ⟨w.heap.size + 1, 0, none⟩) (by simp) _) (Soft.putObj (O := fun k => k = w.heap.size + 6) _ (w.heap.size + 6) _ rfl) (by rintro k rfl; omega)
    case stop =>
      rintro D c pre W hD hpre ⟨rfl, hs, ⟨s, hP⟩, hB⟩ hK
      have hv : parseV l = .tuple #[.int .u32 0, .int .i64 2] := by
        unfold parseV parseN; rw [if_neg hn, ← cutR_split l hl, rowsSet_stop (hpre.map cutR) hs]
      have HV := Lib.hid hv
      clear hv
      gi_wp2
      refine ⟨by simp, .inl ⟨_, _, rfl, run_takeDeferred hK, ?_⟩⟩
      have hP2 : ParseAt w.heap.size s 0 2 (W.putObj D (.deferred none)) := hP.keep fun k h1 h2 => (Soft.putObj (O := fun k => k = D) W D (.deferred none) rfl).block k (by have := hP.lt; omega) (by omega)
      refine ⟨.tuple #[.int .u32 0, .int .i64 2], ?_, by rw [HV.out], ?_⟩
      · simp [results, Tryd.f24, go_sem, hP2.r, hP2.e]
      · exact Soft.below hB (Soft.putObj (O := fun k => k = D) W D _ rfl) (by rintro k rfl; omega)

end Go.Proofs.YtglndonfmmbnhaaDoor
