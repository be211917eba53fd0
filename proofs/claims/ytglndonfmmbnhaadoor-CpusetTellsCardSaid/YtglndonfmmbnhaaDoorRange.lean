/-
  A range over a function whose iterator keeps its state in blocks of its own: what the caller owes, and what comes.
-/
import Derived.RangeFuncFrom
import Derived.RangeFuncNested
import Derived.RangeFuncCalls
import Derived.RangeFuncLeaves
import Derived.Below
import Derived.Laws.AppendOwn
namespace Go.Proofs.YtglndonfmmbnhaaDoor
open Go.RowKit

/-- From A to B the blocks of Own may have turned and new blocks may have come; all else stands. -/
structure Soft (Own : Nat → Prop) (A B : World) : Prop where
  os : B.os = A.os
  tape : B.tape = A.tape
  output : B.output = A.output
  size : A.heap.size ≤ B.heap.size
  block : ∀ k, k < A.heap.size → ¬ Own k → B.heap[k]? = A.heap[k]?

theorem Soft.mono {O O' : Nat → Prop} {A B : World} (h : Soft O A B) (ho : ∀ k, O k → O' k) : Soft O' A B :=
  ⟨h.os, h.tape, h.output, h.size, fun k hk hn => h.block k hk (fun hO => hn (ho k hO))⟩

theorem Soft.refl (O : Nat → Prop) (A : World) : Soft O A A := ⟨rfl, rfl, rfl, Nat.le_refl _, fun _ _ _ => rfl⟩

theorem Soft.trans {O : Nat → Prop} {A B C : World} (h : Soft O A B) (k : Soft O B C) : Soft O A C :=
  ⟨k.os.trans h.os, k.tape.trans h.tape, k.output.trans h.output, Nat.le_trans h.size k.size, fun i hi hn => (k.block i (Nat.lt_of_lt_of_le hi h.size) hn).trans (h.block i hi hn)⟩

theorem Soft.alloc (O : Nat → Prop) (A : World) (o : Obj) : Soft O A (A.alloc o) := ⟨rfl, rfl, rfl, by simp, fun k hk _ => Below.heap_alloc A o k hk⟩

theorem Soft.setCell {O : Nat → Prop} (A : World) (a : Addr) (v : Value) (h : O a.block) : Soft O A (A.setCell a v) :=
  ⟨rfl, rfl, rfl, by simp [World.setCell], fun k _ hn => Below.heap_setCell A a v k (fun e => hn (e ▸ h))⟩

theorem Soft.putObj {O : Nat → Prop} (A : World) (l : Nat) (o : Obj) (h : O l) : Soft O A (A.putObj l o) :=
  ⟨rfl, rfl, rfl, by simp, fun k _ hn => World.putObj_heap_other (fun e => hn (e ▸ h))⟩

theorem Soft.of_below {O : Nat → Prop} {A B : World} (h : Below A.heap.size A B) : Soft O A B := ⟨h.os, h.tape, h.output, h.size, fun k hk _ => h.block k hk⟩

theorem Soft.keep {O : Nat → Prop} {A B : World} (h : Soft O A B) {k : Nat} {o : Obj} (hk : A.heap[k]? = some o) (hn : ¬ O k) : B.heap[k]? = some o :=
  (h.block k (Array.getElem?_eq_some_iff.1 hk).1 hn).trans hk

theorem Soft.below {O : Nat → Prop} {W A B : World} (h : Below W.heap.size W A) (s : Soft O A B) (ho : ∀ k, O k → W.heap.size ≤ k) : Below W.heap.size W B :=
  h.trans ⟨s.os, s.tape, s.output, s.size, fun k hk => s.block k (Nat.lt_of_lt_of_le hk h.size) (fun hO => by have := ho k hO; omega)⟩

theorem Soft.belowN {O : Nat → Prop} {n₀ : Nat} {W A B : World} (h : Below n₀ W A) (hn : n₀ ≤ A.heap.size) (s : Soft O A B) (ho : ∀ k, O k → n₀ ≤ k) : Below n₀ W B :=
  h.trans ⟨s.os, s.tape, s.output, s.size, fun k hk => s.block k (Nat.lt_of_lt_of_le hk hn) (fun hO => by have := ho k hO; omega)⟩

theorem Soft.row {O : Nat → Prop} {A B : World} {base : Nat} {e : TypeId} {size k : Nat} {v : Value} {xs : List Value} (h : A.ownsRow base e size v k xs) (s : Soft O A B) (ho : ∀ g, base ≤ g → ¬ O g) : B.ownsRow base e size v k xs := by
  refine ⟨h.1, ?_⟩
  rcases h.2 with hn | ⟨g, cap, cur, rfl, hb, hg, rest⟩
  · exact .inl hn
  · exact .inr ⟨g, cap, cur, rfl, hb, s.keep hg (ho g hb), rest⟩

/-- The iterator's contract: for every caller's J that abides its soft steps. Own: what the iterator may turn; Keep: what the body must leave. -/
def SeqOwn {α : Type} (F : Fence) (n : Nat) (P : Program) (g : Nat) (lb : Array Value) (encs : α → Array Value) (Own Keep : Nat → Prop) (S Sp : List α → Prop) (N : Nat) (w : World) : Prop :=
  ∀ (l : Nat) (J Jx : List α → World → Prop) (W : World), Below w.heap.size w W → (∀ s A B, J s A → Soft Own A B → J s B) → (∀ s A B, Jx s A → Soft Own A B → Jx s B) →
    (∀ pre x W1, J pre W1 → pre.length < N → YieldAt F (n - 1) P l (encs x) W1 fun e W' =>
      (e = .returned (.bool true) ∧ J (pre ++ [x]) W' ∧ (W1.heap.size ≤ W'.heap.size ∧ ∀ k, Keep k → W'.heap[k]? = W1.heap[k]?)) ∨ (e = .returned (.bool false) ∧ Jx (pre ++ [x]) W')) →
    J [] W →
    CallsIn F n P g (#[.func (.yield l) #[] #[]] ++ lb) W fun e W' => (∃ v, e = .returned v) ∧ ((∃ xs, S xs ∧ J xs W') ∨ (∃ pre, Sp pre ∧ Jx pre W'))

/-- How the body of a round may be left. -/
def ownEnd {α : Type} (Keep : Nat → Prop) (I : List α → World → Prop) (Ix : Code → List α → World → Prop) (xs : List α) (W : World) : Exit → Act → World → Prop
  | .normal, _, W' => KeepsOthers W W' ∧ (∀ k, Keep k → W'.heap[k]? = W.heap[k]?) ∧ I xs W'
  | .ret, _, W' => KeepsOthers W W' ∧ Ix .ret xs W'
  | .exit id, _, W' => KeepsOthers W W' ∧ Ix (.exit id) xs W'
  | .goto t, _, W' => KeepsOthers W W' ∧ Ix (.goto t) xs W'
  | .panic _, _, _ => False
  | .outgrown, _, _ => False

/-- What the law's own book-keeping may turn, beside the iterator's blocks. -/
def Wider (Own : Nat → Prop) (D : Nat) (k : Nat) : Prop := Own k ∨ k = D ∨ k = D + 1

variable {F : Fence} {n : Nat} {P : Program}

theorem range_own {α : Type} {g : Operand} {ps : Array Tmp} {assign body : Code} {Q : Exit → Act → World → Prop} {a : Act} {w : World}
    (hro : F.round = none) (h1 : 1 ≤ n) {gf : Nat} {lb : Array Value} (hg : a.eval g = .func (.func gf) #[] lb) (hFg : F.fn gf) (eg : ∀ args w, (callFunc gf args).run P w = .ok (.enter gf args) w)
    {encs : α → Array Value} {Own Keep : Nat → Prop} {S Sp : List α → Prop} {N : Nat} (hown : ∀ k, Own k → k < w.heap.size) (hkeep : ∀ k, Keep k → k < w.heap.size) (hseq : SeqOwn F (n - 1) P gf lb encs Own Keep S Sp N w) (hps : ∀ x, (encs x).size = ps.size)
    (I : List α → World → Prop) (Ix : Code → List α → World → Prop)
    (hI : ∀ s A B, I s A → Soft (Wider Own w.heap.size) A B → I s B) (hIx : ∀ c s A B, Ix c s A → Soft (Wider Own w.heap.size) A B → Ix c s B) (h0 : I [] w) (a₁ : α → Act)
    (hassign : ∀ (l : Nat) (x : α) (W : World) (K : Act → World → Prop), K (a₁ x) W →
      assign.wpIn (F.inRound l) (n - 1 - 1) P (Exit.then K (fun _ _ _ => False)) { tmps := (ps.zip (encs x)).foldl (fun t (p, v) => t.setIfInBounds p v) a.tmps, defers := [] } W)
    (hbody : ∀ (l : Nat) (pre : List α) (x : α) (W : World), l = w.heap.size + 1 → w.heap.size + 1 < W.heap.size → I pre W → pre.length < N → body.wpIn (F.inRound l) (n - 1 - 1) P (ownEnd Keep I Ix (pre ++ [x]) W) (a₁ x) W)
    (hdone : ∀ (D : Nat) (xs : List α) (W : World), D = w.heap.size → S xs → I xs W → W.heap[D]? = some (.deferred (some [])) → Q .normal { a with defers := { target := .collected D, args := #[] } :: a.defers } W)
    (hstop : ∀ (D : Nat) (c : Code) (pre : List α) (W : World), D = w.heap.size → Sp pre → Ix c pre W → W.heap[D]? = some (.deferred (some [])) → c.wpIn F n P Q { a with defers := { target := .collected D, args := #[] } :: a.defers } W) :
    (Code.rangeFunc g ps assign body).wpIn F n P Q a w := by
  refine wpIn_rangeFunc fun fn hfn => ?_
  rw [hro]
  obtain ⟨D, hD⟩ : ∃ D, D = w.heap.size := ⟨_, rfl⟩
  obtain ⟨rec, hrec⟩ : ∃ rec : LoopState → Option Code → Loop, rec = fun st pe => { state := st, pending := pe, fn, tmps := a.tmps, params := ps, assign, body, defers := w.heap.size } := ⟨_, rfl⟩
  obtain ⟨W1, hW1⟩ : ∃ W1, W1 = (w.alloc (.deferred (some []))).alloc (.loop (rec .ready none)) := ⟨_, rfl⟩
  have nD : ¬ Own D := fun h => by have := hown D h; omega
  have nL : ¬ Own (D + 1) := fun h => by have := hown (D + 1) h; omega
  have kL : ¬ Keep (D + 1) := fun h => by have := hkeep (D + 1) h; omega
  have hL1 : W1.heap[D + 1]? = some (.loop (rec .ready none)) := by
    rw [hW1, hD]; have := World.alloc_heap_new (w.alloc (.deferred (some []))) (.loop (rec .ready none)); rwa [World.size_alloc] at this
  have hK1 : W1.heap[D]? = some (.deferred (some [])) := by
    rw [hW1, hD]; exact (Below.heap_alloc _ _ _ (by simp)).trans (World.alloc_heap_new w _)
  have hs1 : Soft (Wider Own w.heap.size) w W1 := by rw [hW1]; exact (Soft.alloc _ w _).trans (Soft.alloc _ _ _)
  have hb1 : Below w.heap.size w W1 := by rw [hW1]; exact ((Below.refl _ w).alloc (Nat.le_refl _) _).alloc (by simp) _
  have wide : ∀ {A B : World}, Soft Own A B → Soft (Wider Own w.heap.size) A B := fun h => h.mono fun _ => .inl
  have turn : ∀ (A : World) (o : Obj), Soft (Wider Own w.heap.size) A (A.putObj (D + 1) o) := fun A o => Soft.putObj A (D + 1) o (.inr (.inr (by rw [hD])))
  refine ⟨D + 1, [{ target := .collected D, args := #[] }], W1, { target := .fn (.func gf) lb, args := #[.func (.yield (D + 1)) #[] #[]] }, W1, gf, #[.func (.yield (D + 1)) #[] #[]] ++ lb, W1, ?_, ?_, ?_, ?_, fun _ => h1, ?_⟩
  · rw [hW1, hD, hrec]; exact run_enterLoop_outer _ _ _ _ _
  · simp only [resolve, hg]
    simp [go_sem]
  · intro f' hf'; simp [Target.leads] at hf'; subst hf'; exact hFg
  · simp [invoke, go_sem, eg]
  · refine (hseq (D + 1)
      (fun pre W => I pre W ∧ W.heap[D + 1]? = some (.loop (rec .ready none)) ∧ W.heap[D]? = some (.deferred (some [])))
      (fun pre W => ∃ c, Ix c pre W ∧ W.heap[D + 1]? = some (.loop (rec .done (some c))) ∧ W.heap[D]? = some (.deferred (some [])))
      W1 hb1
      (fun s A B hs h => ⟨hI s A B hs.1 (wide h), h.keep hs.2.1 nL, h.keep hs.2.2 nD⟩)
      (fun s A B hs h => by obtain ⟨c, hc, hl, hk⟩ := hs; exact ⟨c, hIx c s A B hc (wide h), h.keep hl nL, h.keep hk nD⟩)
      ?_ ⟨hI [] w W1 h0 hs1, hL1, hK1⟩).mono ?_
    · rintro pre x W ⟨hi, hl, hk⟩ hlen
      have hlt : D + 1 < W.heap.size := (Array.getElem?_eq_some_iff.1 hl).1
      have hy := run_yield (P := P) (args := encs x) hl (by rw [hrec]; exact hps x)
      rw [hrec] at hy
      refine ⟨fn, _, assign, body, hy, roundIn_of_wpIn hfn (hassign _ x W _ ⟨_, run_beginRound hl (by rw [hrec]), ?_⟩)⟩
      generalize hW2 : W.putObj (D + 1) (.loop { rec .ready none with state := .busy }) = W2
      have hl2 : W2.heap[D + 1]? = some (.loop { rec .ready none with state := .busy }) := by rw [← hW2]; exact World.putObj_heap_same hlt
      have hk2 : W2.heap[D]? = some (.deferred (some [])) := by rw [← hW2]; exact (World.putObj_heap_other (by omega)).trans hk
      have ho2 : ∀ k, Keep k → W2.heap[k]? = W.heap[k]? := fun k hO => by rw [← hW2]; exact World.putObj_heap_other (by rintro rfl; exact kL hO)
      have hz2 : W2.heap.size = W.heap.size := by rw [← hW2]; simp
      have hi2 : I pre W2 := by rw [← hW2]; exact hI _ _ _ hi (turn W _)
      refine wpIn_mono (hbody _ pre x W2 (by rw [hD]) (by rw [hz2, ← hD]; exact hlt) hi2 hlen) ?_
      have fin : ∀ (jump : Option Code) (W3 : World), KeepsOthers W2 W3 →
          (Instr.endRound (D + 1) jump).run P W3 = .ok (.bool jump.isNone) (W3.putObj (D + 1) (.loop (rec (if jump.isNone then .ready else .done) jump))) ∧
          (W3.putObj (D + 1) (.loop (rec (if jump.isNone then .ready else .done) jump))).heap[D + 1]? = some (.loop (rec (if jump.isNone then .ready else .done) jump)) ∧
          (W3.putObj (D + 1) (.loop (rec (if jump.isNone then .ready else .done) jump))).heap[D]? = some (.deferred (some [])) := fun jump W3 hk3 => by
        have hl3 := hk3.same _ _ hl2 rfl
        have he := run_endRound (P := P) jump hl3
        rw [hrec] at he ⊢
        exact ⟨he, World.putObj_heap_same (Array.getElem?_eq_some_iff.1 hl3).1, (World.putObj_heap_other (by omega)).trans (hk3.same _ _ hk2 rfl)⟩
      rintro e a3 W3 hp
      cases e with
      | normal =>
        obtain ⟨hk3, hO3, hi3⟩ := hp
        obtain ⟨hr, hl4, hk4⟩ := fin none W3 hk3
        exact ⟨_, _, hr, .inl ⟨rfl, ⟨hI _ _ _ hi3 (turn W3 _), hl4, hk4⟩, by simpa [hz2] using hk3.size, fun k hO => (World.putObj_heap_other (by rintro rfl; exact kL hO)).trans ((hO3 k hO).trans (ho2 k hO))⟩⟩
      | ret =>
        obtain ⟨hr, hl4, hk4⟩ := fin (some .ret) W3 hp.1
        exact ⟨_, _, hr, .inr ⟨rfl, .ret, hIx _ _ _ _ hp.2 (turn W3 _), hl4, hk4⟩⟩
      | exit id =>
        obtain ⟨hr, hl4, hk4⟩ := fin (some (.exit id)) W3 hp.1
        exact ⟨_, _, hr, .inr ⟨rfl, .exit id, hIx _ _ _ _ hp.2 (turn W3 _), hl4, hk4⟩⟩
      | goto t =>
        obtain ⟨hr, hl4, hk4⟩ := fin (some (.goto t)) W3 hp.1
        exact ⟨_, _, hr, .inr ⟨rfl, .goto t, hIx _ _ _ _ hp.2 (turn W3 _), hl4, hk4⟩⟩
      | panic ch => exact hp.elim
      | outgrown => exact hp.elim
    · rintro e W2 ⟨⟨v, rfl⟩, (⟨xs, hS, hi, hl, hk⟩ | ⟨pre, hSp, c, hi, hl, hk⟩)⟩
      · have he := run_endLoop (P := P) hl (by rw [hrec]; simp)
        rw [hrec] at he
        exact ⟨none, _, he, hdone D xs _ hD hS (hI _ _ _ hi (turn W2 _)) ((World.putObj_heap_other (by omega)).trans hk)⟩
      · have he := run_endLoop (P := P) hl (by rw [hrec]; simp)
        rw [hrec] at he
        exact ⟨some c, _, he, hstop D c pre _ hD hSp (hIx c _ _ _ hi (turn W2 _)) ((World.putObj_heap_other (by omega)).trans hk)⟩

end Go.Proofs.YtglndonfmmbnhaaDoor
