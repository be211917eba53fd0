/-
  The walks of in, Next.
-/
import Derived.Test.YtglndonfmmbnhaaDoorCpsIt
namespace Go.Proofs.YtglndonfmmbnhaaDoor
open Go.RowKit Go.Shelf

attribute [local go_sem] Oper.semAt_some

theorem cell_block_lt {w : World} {a : Addr} {v : Value} (h : w.cell? a = some v) : a.block < w.heap.size := by
  refine Nat.lt_of_not_le fun hle => ?_
  have e : w.heap[a.block]? = none := Array.getElem?_eq_none hle
  simp [World.cell?, e] at h

theorem Soft.cell {O : Nat → Prop} {A B : World} {a : Addr} {v : Value} (h : Soft O A B) (hc : A.cell? a = some v) (hn : ¬ O a.block) : B.cell? a = some v :=
  (World.cell?_of_block (w := A) (h.block a.block (cell_block_lt hc) hn)).trans hc

theorem Soft.free {O : Nat → Prop} {A B : World} {a : Addr} {v : Value} {f : Bool} (h : Soft O A B) (hc : A.cell? a = some v) (hf : A.frozen? a = f) (hn : ¬ O a.block) : B.frozen? a = f :=
  (World.frozen?_of_block (w := A) (h.block a.block (cell_block_lt hc) hn)).trans hf

theorem cell_new_l (W : World) (v : Value) (t : TypeId) : (W.alloc (.cells #[v] t)).cell? ⟨W.heap.size, 0, none⟩ = some v ∧ (W.alloc (.cells #[v] t)).frozen? ⟨W.heap.size, 0, none⟩ = false := by
  constructor <;> simp [go_sem]
theorem cell_alloc_l {W : World} {a : Addr} {v : Value} (o : Obj) (h : W.cell? a = some v) : (W.alloc o).cell? a = some v := (Soft.alloc (fun _ => False) W o).cell h (fun h => h)
theorem frozen_alloc_l {W : World} {a : Addr} {v : Value} (o : Obj) (h : W.cell? a = some v) (hf : W.frozen? a = false) : (W.alloc o).frozen? a = false := (Soft.alloc (fun _ => False) W o).free h hf (fun h => h)

theorem in_any (s : Nat) (w : World) :
    Calls Tryd.prog 39 #[.int .u32 s] w fun e w' => e = .returned (.func (.func 48) #[] #[.pointer (some ⟨w.heap.size, 0, none⟩)]) ∧ w.alloc (.cells #[.int .u32 s] 25) = w' := by
  go_enter Tryd.func39, Tryd.ntmps39
  go_wp2
  go_ret
  exact ⟨rfl, rfl⟩

/-- The least number above 'after', where there is one. -/
def nextN (s : Nat) (after : Int) : Option Nat := (listN (lowN s)).find? fun x => decide (after < (x : Int))

theorem nextN_none {s : Nat} {after : Int} (h : ∀ y ∈ listN (lowN s), (y : Int) ≤ after) : nextN s after = none := by
  unfold nextN
  rw [List.find?_eq_none]
  intro x hx
  have := h x hx
  simp; omega

theorem nextN_some {s : Nat} {after : Int} {p : List Nat} {x : Nat} (hp : p ++ [x] <+: listN (lowN s)) (h : ∀ y ∈ p, (y : Int) ≤ after) (hx : after < (x : Int)) : nextN s after = some x := by
  unfold nextN
  obtain ⟨r, hr⟩ := hp
  rw [← hr, List.append_assoc, List.find?_append]
  have hn : p.find? (fun x : Nat => decide (after < (x : Int))) = none := by
    rw [List.find?_eq_none]; intro y hy; have := h y hy; simp; omega
  rw [hn]
  simp [hx]

/-- What Next answers. -/
def nextV (s : Nat) (after : Int) : Value := match nextN s after with
  | some x => .tuple #[.int .i64 x, .bool true]
  | none => .tuple #[.int .i64 0, .bool false]

set_option maxRecDepth 100000 in
set_option maxHeartbeats 2000000 in
theorem next_any (s : Nat) (after : Int) (w : World) (hs : s < 4294967296) (hT : TzTab w) (h0w : 0 < w.heap.size) :
    Calls Tryd.prog 20 #[.int .u32 s, .int .i64 after] w fun e w' => e = .returned (nextV s after) ∧ Below w.heap.size w w' := by
  refine (callsIn_wide (n := 5)).1 ?_
  refine callsIn_of_wp_marks Tryd.func20 rfl trivial ?_ rfl
  simp only [Tryd.ntmps20, List.size_toArray, List.length_cons, List.length_nil, Nat.reduceAdd, Nat.reduceSub, Array.replicate_succ, Array.replicate_zero, List.push_toArray, List.append_toArray, List.nil_append, List.cons_append]
  gi_wp2_with (refine ⟨trivial, ?_⟩; gi_at_call 39; refine (callsIn_wide.2 (in_any s _)).mono ?_; rintro e w' ⟨rfl, rfl⟩)
  have c0 := cell_new_l w (.int .i64 after) 3
  have c1 := cell_new_l (w.alloc (.cells #[.int .i64 after] 3)) (.int .i64 0) 3
  have c2 := cell_new_l ((w.alloc (.cells #[.int .i64 after] 3)).alloc (.cells #[.int .i64 0] 3)) (.bool false) 4
  have c3 := cell_new_l (((w.alloc (.cells #[.int .i64 after] 3)).alloc (.cells #[.int .i64 0] 3)).alloc (.cells #[.bool false] 4)) (.int .u32 s) 25
  simp only [World.size_alloc] at c1 c2 c3
  generalize hO0 : Obj.cells #[Value.int IntKind.i64 after] 3 = o0 at c0 c1 c2 c3 ⊢
  generalize hO1 : Obj.cells #[Value.int IntKind.i64 0] 3 = o1 at c1 c2 c3 ⊢
  generalize hO2 : Obj.cells #[Value.bool false] 4 = o2 at c2 c3 ⊢
  generalize hO3 : Obj.cells #[Value.int IntKind.u32 (s : Int)] 25 = o3 at c3 ⊢
  have hB0 : Below w.heap.size w ((((w.alloc o0).alloc o1).alloc o2).alloc o3) := ((((Below.refl _ w).alloc (Nat.le_refl _) _).alloc (by simp) _).alloc (by simp; omega) _).alloc (by simp; omega) _
  have hT3 : TzTab ((((w.alloc o0).alloc o1).alloc o2).alloc o3) := tzTab_of hT (hB0.block 0 h0w)
  refine range_own rfl (by omega) (gf := 48) (lb := #[.pointer (some ⟨w.heap.size + 1 + 1 + 1, 0, none⟩)]) rfl trivial (enters_of Tryd.func48 (by kernel_rfl) rfl)
    (Own := cellOwn (w.heap.size + 1 + 1 + 1)) (Keep := cellKeep (w.heap.size + 1 + 1 + 1)) (by rintro k rfl; simp) (by rintro k (rfl | rfl) <;> simp)
    (in1_seq _ (w.heap.size + 1 + 1 + 1) s _ (by omega) (by simp) hs c3.1 c3.2 hT3 (by simp) (by omega)) (fun _ => rfl)
    (fun pre W => (∀ y ∈ pre, ((y : Nat) : Int) ≤ after) ∧ W.cell? ⟨w.heap.size, 0, none⟩ = some (.int .i64 after) ∧ (W.cell? ⟨w.heap.size + 1, 0, none⟩ = some (.int .i64 0) ∧ W.frozen? ⟨w.heap.size + 1, 0, none⟩ = false) ∧
      (W.cell? ⟨w.heap.size + 1 + 1, 0, none⟩ = some (.bool false) ∧ W.frozen? ⟨w.heap.size + 1 + 1, 0, none⟩ = false) ∧ Below w.heap.size w W)
    (fun c pre W => c = .ret ∧ (∃ p x, pre = p ++ [x] ∧ (∀ y ∈ p, ((y : Nat) : Int) ≤ after) ∧ after < ((x : Nat) : Int) ∧ W.cell? ⟨w.heap.size + 1, 0, none⟩ = some (.int .i64 x)) ∧ W.cell? ⟨w.heap.size + 1 + 1, 0, none⟩ = some (.bool true) ∧ Below w.heap.size w W)
    ?hI ?hIx ?h0
    (fun x => { tmps := #[.int .u32 s, .int .i64 after, undef, .pointer (some ⟨w.heap.size, 0, none⟩), .pointer (some ⟨w.heap.size + 1, 0, none⟩), .pointer (some ⟨w.heap.size + 1 + 1, 0, none⟩), .int .i64 x, .int .u32 s, .func (.func 48) #[] #[.pointer (some ⟨w.heap.size + 1 + 1 + 1, 0, none⟩)], .int .i64 x, undef, undef, undef, undef], defers := [] }) ?assign ?body ?done ?stop
  case hI =>
    rintro pre A B ⟨hp, ha, ⟨hr, hrf⟩, ⟨hb, hbf⟩, hB⟩ h
    have n0 : ¬ Wider (cellOwn (w.heap.size + 1 + 1 + 1)) ((((w.alloc o0).alloc o1).alloc o2).alloc o3).heap.size w.heap.size := by simp [Wider, cellOwn]; omega
    have n1 : ¬ Wider (cellOwn (w.heap.size + 1 + 1 + 1)) ((((w.alloc o0).alloc o1).alloc o2).alloc o3).heap.size (w.heap.size + 1) := by simp [Wider, cellOwn]
    have n2 : ¬ Wider (cellOwn (w.heap.size + 1 + 1 + 1)) ((((w.alloc o0).alloc o1).alloc o2).alloc o3).heap.size (w.heap.size + 1 + 1) := by simp [Wider, cellOwn]
    exact ⟨hp, h.cell ha n0, ⟨h.cell hr n1, h.free hr hrf n1⟩, ⟨h.cell hb n2, h.free hb hbf n2⟩, Soft.below hB h (by rintro k (hk | hk | hk) <;> simp [cellOwn] at hk <;> omega)⟩
  case hIx =>
    rintro c pre A B ⟨rfl, ⟨p, x, rfl, hp, hx, hr⟩, hb, hB⟩ h
    have n1 : ¬ Wider (cellOwn (w.heap.size + 1 + 1 + 1)) ((((w.alloc o0).alloc o1).alloc o2).alloc o3).heap.size (w.heap.size + 1) := by simp [Wider, cellOwn]
    have n2 : ¬ Wider (cellOwn (w.heap.size + 1 + 1 + 1)) ((((w.alloc o0).alloc o1).alloc o2).alloc o3).heap.size (w.heap.size + 1 + 1) := by simp [Wider, cellOwn]
    exact ⟨rfl, ⟨p, x, rfl, hp, hx, h.cell hr n1⟩, h.cell hb n2, Soft.below hB h (by rintro k (hk | hk | hk) <;> simp [cellOwn] at hk <;> omega)⟩
  case h0 =>
    exact ⟨by simp, cell_alloc_l _ (cell_alloc_l _ (cell_alloc_l _ c0.1)), ⟨cell_alloc_l _ (cell_alloc_l _ c1.1), frozen_alloc_l _ (cell_alloc_l _ c1.1) (frozen_alloc_l _ c1.1 c1.2)⟩, ⟨cell_alloc_l _ c2.1, frozen_alloc_l _ c2.1 c2.2⟩, hB0⟩
  case assign =>
    intro l x W K hK
    gi_wp2
    exact hK
  case body =>
    rintro l pre x W hl _ ⟨hp, ha, ⟨hr, hrf⟩, ⟨hb, hbf⟩, hB⟩ _
    gi_wp2
    · have hx : after < (x : Int) := by assumption
      refine ⟨(KeepsOthers.setCell _ _ _).trans (KeepsOthers.setCell _ _ _), rfl, ⟨pre, x, rfl, hp, hx, ?_⟩, ?_, ?_⟩
      · exact (Soft.setCell (O := fun k => k = w.heap.size + 1 + 1) _ _ _ rfl).cell (World.cell?_setCell_same' _ _ _ (by rw [hr]; rfl)) (by simp)
      · exact World.cell?_setCell_same' _ _ _ (by rw [(Soft.setCell (O := fun k => k = w.heap.size + 1) W ⟨w.heap.size + 1, 0, none⟩ (.int .i64 x) rfl).cell hb (by simp)]; rfl)
      · exact (hB.setCell (p := ⟨w.heap.size + 1, 0, none⟩) (by simp) _).setCell (p := ⟨w.heap.size + 1 + 1, 0, none⟩) (by simp; omega) _
    · have hx : (x : Int) ≤ after := by assumption
      exact ⟨KeepsOthers.refl _, fun _ _ => rfl, fun y hy => (List.mem_append.1 hy).elim (hp y) (fun e => by simp at e; subst e; exact hx), ha, ⟨hr, hrf⟩, ⟨hb, hbf⟩, hB⟩
  case done =>
    rintro D ys W hD rfl ⟨hp, ha, ⟨hr, hrf⟩, ⟨hb, hbf⟩, hB⟩ hK
    have hv : nextV s after = .tuple #[.int .i64 0, .bool false] := by unfold nextV; rw [nextN_none hp]
    have HV := Lib.hid hv
    clear hv
    gi_wp2
    have hK' := ((KeepsOthers.setCell W ⟨w.heap.size + 1, 0, none⟩ (.int .i64 0)).trans (KeepsOthers.setCell _ ⟨w.heap.size + 1 + 1, 0, none⟩ (.bool false))).same D _ hK rfl
    refine ⟨by simp, .inl ⟨_, _, rfl, run_takeDeferred hK', ?_⟩⟩
    have hr1 := (Soft.setCell (O := fun k => k = w.heap.size + 1 + 1) (W.setCell ⟨w.heap.size + 1, 0, none⟩ (.int .i64 0)) ⟨w.heap.size + 1 + 1, 0, none⟩ (.bool false) rfl).cell (World.cell?_setCell_same' _ _ _ (by rw [hr]; rfl)) (by simp)
    have hb1 := World.cell?_setCell_same' (W.setCell ⟨w.heap.size + 1, 0, none⟩ (.int .i64 0)) ⟨w.heap.size + 1 + 1, 0, none⟩ (.bool false) (by rw [(Soft.setCell (O := fun k => k = w.heap.size + 1) W ⟨w.heap.size + 1, 0, none⟩ (.int .i64 0) rfl).cell hb (by simp)]; rfl)
    have hn1 : ¬ (w.heap.size + 1 = D) := by rw [hD]; simp
    have hn2 : ¬ (w.heap.size + 1 + 1 = D) := by rw [hD]; simp
    have hr2 := (Soft.putObj (O := fun k => k = D) _ D (.deferred none) rfl).cell hr1 hn1
    have hb2 := (Soft.putObj (O := fun k => k = D) _ D (.deferred none) rfl).cell hb1 hn2
    refine ⟨.tuple #[.int .i64 0, .bool false], ?_, by rw [HV.out], ?_⟩
    · simp [results, Tryd.f20, go_sem, hr2, hb2]
    · exact Soft.below ((hB.setCell (p := ⟨w.heap.size + 1, 0, none⟩) (by simp) _).setCell (p := ⟨w.heap.size + 1 + 1, 0, none⟩) (by simp; omega) _) (Soft.putObj (O := fun k => k = D) _ D _ rfl) (by rintro k rfl; rw [hD]; simp; omega)
  case stop =>
    rintro D c pre W hD hpre ⟨rfl, ⟨p, x, rfl, hp, hx, hr⟩, hb, hB⟩ hK
    have hv : nextV s after = .tuple #[.int .i64 x, .bool true] := by unfold nextV; rw [nextN_some hpre hp hx]
    have HV := Lib.hid hv
    clear hv
    gi_wp2
    refine ⟨by simp, .inl ⟨_, _, rfl, run_takeDeferred hK, ?_⟩⟩
    have hn1 : ¬ (w.heap.size + 1 = D) := by rw [hD]; simp
    have hn2 : ¬ (w.heap.size + 1 + 1 = D) := by rw [hD]; simp
    have hr2 := (Soft.putObj (O := fun k => k = D) W D (.deferred none) rfl).cell hr hn1
    have hb2 := (Soft.putObj (O := fun k => k = D) W D (.deferred none) rfl).cell hb hn2
    refine ⟨.tuple #[.int .i64 x, .bool true], ?_, by rw [HV.out], ?_⟩
    · simp [results, Tryd.f20, go_sem, hr2, hb2]
    · exact Soft.below hB (Soft.putObj (O := fun k => k = D) _ D _ rfl) (by rintro k rfl; rw [hD]; simp; omega)

end Go.Proofs.YtglndonfmmbnhaaDoor
