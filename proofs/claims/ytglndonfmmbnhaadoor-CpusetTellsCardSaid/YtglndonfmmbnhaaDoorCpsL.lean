/-
  The walks of slices.AppendSeq, slices.Collect, List.
-/
import Derived.Test.YtglndonfmmbnhaaDoorCpsN
import Derived.RangeFuncBox
import Derived.Maps.AppendAt
namespace Go.Proofs.YtglndonfmmbnhaaDoor
open Go.RowKit Go.Shelf

attribute [local go_sem] Oper.semAt_some

theorem info3 : (Tryd.prog.info? 3).map (fun i => (i.zero, i.size, i.bytes)) = some (some (.int .i64 0), 1, 8) := by kernel_rfl

/-- A slice value that reads as these numbers: nil, or the head of a row of its own from block n on. -/
def IsList (n : Nat) (v : Value) (xs : List Nat) (W : World) : Prop :=
  (xs = [] ∧ v = .slice none 0 0) ∨ ∃ b cap, v = .slice (some ⟨b, 0, none⟩) xs.length cap ∧ n ≤ b ∧ xs ≠ [] ∧ ∀ (i x : Nat), xs[i]? = some x → W.cell? ⟨b, i, none⟩ = some (.int .i64 x)

theorem isList_of_row {n : Nat} {v : Value} {xs : List Nat} {W : World} (h : W.ownsRow n 3 1 v xs.length (xs.map fun x : Nat => Value.int .i64 (x : Int))) (hn : v = .slice none 0 0 ↔ xs = []) : IsList n v xs W := by
  rcases h.2 with ⟨rfl, _⟩ | ⟨g, cap, cur, rfl, hb, hg, _, _, hcs, htk⟩
  · exact .inl ⟨hn.1 rfl, rfl⟩
  · by_cases he : xs = []
    · have := hn.2 he; simp at this
    · refine .inr ⟨g, cap, rfl, hb, he, fun i x hx => ?_⟩
      have hi : i < xs.length := (List.getElem?_eq_some_iff.1 hx).1
      have h1 : (cur.toList.take (xs.length * 1))[i]? = some (.int .i64 (x : Int)) := by rw [htk, List.getElem?_map, hx]; rfl
      rw [List.getElem?_take_of_lt (by omega)] at h1
      simp [World.cell?, hg]
      simpa using h1

/-- What is known behind 'out = append(out, x)' in a round. -/
theorem appended_one {W w1 : World} {n₀ B : Nat} {v v' : Value} {k m : Nat} {xs ys : List Value} {tmp : Obj}
    (hv : Boxed W B 34 v) (hrow : W.ownsRow (n₀ + 1 + 2) 3 1 v k xs) (hn₀ : n₀ + 1 + 2 ≤ W.heap.size)
    (hown' : w1.ownsRow (n₀ + 1 + 2) 3 1 v' m ys) (hgrow : (W.alloc tmp).grownBy w1 v.ownBlock) (hB : n₀ = B := by rfl) :
    Boxed w1 B 34 v ∧ Boxed (w1.setCell ⟨B, 0, none⟩ v') B 34 v' ∧ (w1.setCell ⟨B, 0, none⟩ v').ownsRow (n₀ + 1 + 2) 3 1 v' m ys ∧ KeepsOthers W (w1.setCell ⟨B, 0, none⟩ v') ∧ Below n₀ W (w1.setCell ⟨B, 0, none⟩ v') ∧
      ∀ Bs, Bs < n₀ → ∀ k, cellKeep Bs k → (w1.setCell ⟨B, 0, none⟩ v').heap[k]? = W.heap[k]? := by
  subst hB
  have lower : ∀ {A : World} {u : Value} {k : Nat} {zs : List Value}, A.ownsRow (n₀ + 1 + 2) 3 1 u k zs → A.ownsRow n₀ 3 1 u k zs := fun h => by
    refine ⟨h.1, ?_⟩
    rcases h.2 with hn | ⟨g, cap, cur, hv', hb, rest⟩
    · exact .inl hn
    · exact .inr ⟨g, cap, cur, hv', by omega, rest⟩
  obtain ⟨h1, h2, h3, h4, h5⟩ := hv.appended (by decide) (lower hrow) (by omega) (Nat.le_refl _) (lower hown') hgrow
  refine ⟨h1, h2, hown'.kept (grownBy_setCell' w1 n₀ v') (.inr (h1.not_row (by decide) hown').symm), h4, h5, fun Bs hBs k hk => h5.block k ?_⟩
  rcases hk with rfl | rfl <;> omega

set_option maxRecDepth 100000 in
set_option maxHeartbeats 2000000 in
theorem appendSeq_any (s Bs : Nat) (w : World) (hBs : Bs < w.heap.size) (hs : s < 4294967296) (hc : w.cell? ⟨Bs, 0, none⟩ = some (.int .u32 s)) (hf : w.frozen? ⟨Bs, 0, none⟩ = false) (hT : TzTab w) (h0w : 0 < w.heap.size) (hB0 : Bs ≠ 0) :
    Calls Tryd.prog 47 #[.slice none 0 0, .func (.func 48) #[] #[.pointer (some ⟨Bs, 0, none⟩)]] w fun e w' => ∃ v, e = .returned v ∧ IsList Bs v (listN (lowN s)) w' ∧ Below Bs w w' := by
  obtain ⟨i0, hi, hz0, hz1, hz2⟩ := info_parts info3
  refine (callsIn_wide (n := 5)).1 ?_
  refine callsIn_of_wp_marks Tryd.func47 rfl trivial ?_ rfl
  simp only [Tryd.ntmps47, List.size_toArray, List.length_cons, List.length_nil, Nat.reduceAdd, Nat.reduceSub, Array.replicate_succ, Array.replicate_zero, List.push_toArray, List.append_toArray, List.nil_append, List.cons_append]
  gi_wp2
  have bO := Boxed.new w 34 (.slice none 0 0)
  generalize hO0 : Obj.cells #[Value.slice none 0 0] 34 = o0 at bO ⊢
  have hb1 : Below w.heap.size w (w.alloc o0) := (Below.refl _ w).alloc (Nat.le_refl _) _
  have hc1 := cell_alloc_l o0 hc
  have hf1 := frozen_alloc_l o0 hc hf
  have hT1 : TzTab (w.alloc o0) := tzTab_of hT (hb1.block 0 h0w)
  have hsz : (w.alloc o0).heap.size = w.heap.size + 1 := by simp
  refine range_own rfl (by omega) (gf := 48) (lb := #[.pointer (some ⟨Bs, 0, none⟩)]) rfl trivial (enters_of Tryd.func48 (by kernel_rfl) rfl)
    (Own := cellOwn Bs) (Keep := cellKeep Bs) (by rintro k rfl; rw [hsz]; omega) (by rintro k (rfl | rfl) <;> rw [hsz] <;> omega)
    (in1_seq _ Bs s _ (by omega) (by rw [hsz]; omega) hs hc1 hf1 hT1 (by rw [hsz]; omega) hB0) (fun _ => rfl)
    (fun pre W => (∃ v, Boxed W w.heap.size 34 v ∧ W.ownsRow (w.heap.size + 1 + 2) 3 1 v pre.length (pre.map fun x : Nat => Value.int .i64 (x : Int)) ∧ (v = .slice none 0 0 ↔ pre = [])) ∧ Below Bs w W)
    (fun _ _ _ => False)
    ?hI (fun _ _ _ _ h _ => h) ?h0
    (fun x => { tmps := #[.slice none 0 0, .func (.func 48) #[] #[.pointer (some ⟨Bs, 0, none⟩)], .pointer (some ⟨w.heap.size, 0, none⟩), undef, .slice none 0 0, .int .i64 x, .func (.func 48) #[] #[.pointer (some ⟨Bs, 0, none⟩)], .int .i64 x, undef, undef, undef, undef, undef], defers := [] }) ?assign ?body ?done ?stop
  case hI =>
    rintro pre A B ⟨⟨v, hv, hrow, hnil⟩, hB⟩ h
    have hv' : Boxed B w.heap.size 34 v := h.keep hv (by rintro (hk | hk | hk) <;> simp [cellOwn] at hk <;> omega)
    exact ⟨⟨v, hv', Soft.row hrow h (by rintro g hg (hk | hk | hk) <;> simp [cellOwn] at hk <;> omega), hnil⟩, Soft.belowN hB (by have := hv.lt; omega) h (by rintro k (hk | hk | hk) <;> simp [cellOwn] at hk <;> omega)⟩
  case h0 => exact ⟨⟨_, bO, World.ownsRow_nil _ _ _ _, by simp⟩, hb1.mono (by omega)⟩
  case assign =>
    intro l x W K hK
    gi_wp2
    exact hK
  case body =>
    rintro l pre x W hl hlt ⟨⟨v, hv, hrow, hnil⟩, hB⟩ h8
    have hcv := hv.cell
    have hlt' : w.heap.size + 1 + 2 ≤ W.heap.size := by simp at hlt; omega
    clear hlt
    gi_wp2_with (gi_at_builtin; refine wpListIn_append_own _ rfl _ _ 34 rfl (w.heap.size + 1 + 2) 3 i0 (.int .i64 0) 1 8 Tryd.underlying34 hi hz0 hz1 hz2 rfl (by decide) _ _ _ rfl (hrow.alloc _) ⟨W.heap.size, 0, none⟩ 1 1 [.int .i64 x] rfl rfl (cell_one_new _ _ _) (by simp [Value.oneCell']) (by unfold maxLen; omega) (by omega) (by simp; omega) ?_; intro v' w1 hown' hgrow _; obtain ⟨g', cap', rfl⟩ := ownsRow_succ hown'; obtain ⟨hv1, hv2, hr2, hk2, hb2, hkeep2⟩ := appended_one hv hrow hlt' hown' hgrow; have hc1 := hv1.cell; have hf1 := hv1.frozen)
    exact ⟨hk2, hkeep2 Bs hBs, ⟨_, hv2, by simpa using hr2, by simp⟩, hB.trans (hb2.mono (by omega))⟩
  case done =>
    rintro D ys W hD rfl ⟨⟨v, hv, hrow, hnil⟩, hB⟩ hK
    have hcv := hv.cell
    gi_wp2
    refine ⟨by simp, .inl ⟨_, _, rfl, run_takeDeferred hK, ?_⟩⟩
    have hrow' := ownsRow_putObj hrow (.deferred none) hK rfl
    refine ⟨_, results_tmp rfl _ _ _, v, rfl, isList_of_row (n := Bs) ⟨hrow'.1, ?_⟩ hnil, Soft.belowN hB (by have := hv.lt; omega) (Soft.putObj (O := fun k => k = D) _ D _ rfl) (by rintro k rfl; rw [hD, hsz]; omega)⟩
    rcases hrow'.2 with hn | ⟨g, cap, cur, hv', hb, rest⟩
    · exact .inl hn
    · exact .inr ⟨g, cap, cur, hv', by omega, rest⟩
  case stop =>
    rintro D c pre W _ _ h _
    exact h.elim

theorem collect_any (s Bs : Nat) (w : World) (hBs : Bs < w.heap.size) (hs : s < 4294967296) (hc : w.cell? ⟨Bs, 0, none⟩ = some (.int .u32 s)) (hf : w.frozen? ⟨Bs, 0, none⟩ = false) (hT : TzTab w) (h0w : 0 < w.heap.size) (hB0 : Bs ≠ 0) :
    Calls Tryd.prog 38 #[.func (.func 48) #[] #[.pointer (some ⟨Bs, 0, none⟩)]] w fun e w' => ∃ v, e = .returned v ∧ IsList Bs v (listN (lowN s)) w' ∧ Below Bs w w' := by
  have hA := appendSeq_any s Bs w hBs hs hc hf hT h0w hB0
  have HA := Lib.hid hA
  clear hA hT
  go_enter Tryd.func38, Tryd.ntmps38
  go_wp2_with (go_at_call 47; refine HA.out.mono ?_; rintro e w' ⟨v, rfl, hv, hb⟩)
  go_ret
  exact ⟨v, rfl, hv, hb⟩

theorem list_any (s : Nat) (w : World) (hs : s < 4294967296) (hT : TzTab w) (h0w : 0 < w.heap.size) :
    Calls Tryd.prog 17 #[.int .u32 s] w fun e w' => ∃ v, e = .returned v ∧ IsList w.heap.size v (listN (lowN s)) w' ∧ Below w.heap.size w w' := by
  have hnew := cell_new_l w (.int .u32 s) 25
  have hb0 : Below w.heap.size w (w.alloc (.cells #[.int .u32 s] 25)) := (Below.refl _ w).alloc (Nat.le_refl _) _
  have hC := collect_any s w.heap.size (w.alloc (.cells #[.int .u32 s] 25)) (by simp) hs hnew.1 hnew.2 (tzTab_of hT (hb0.block 0 h0w)) (by simp) (by omega)
  have HC := Lib.hid hC
  clear hC hT hnew
  go_enter Tryd.func17, Tryd.ntmps17
  go_wp2_with (first | (go_at_call 39; refine (in_any s _).mono ?_; rintro e w' ⟨rfl, rfl⟩) | (go_at_call 38; refine HC.out.mono ?_; rintro e w' ⟨v, rfl, hv, hb⟩))
  go_ret
  exact ⟨v, rfl, hv, hb0.trans hb⟩

end Go.Proofs.YtglndonfmmbnhaaDoor
