/-
  The document's Parse: what it reckons, byte for byte.
-/
import Derived.Test.YtcedkaafdblboaaDoorRefT
namespace Go.Proofs.YtcedkaafdblboaaDoor
open Go.RowKit

/-- What is known behind some bytes: the whole seconds, the rest, whether the point has come, how many digits behind it. -/
structure St where
  whole : Nat
  rest : Nat
  point : Bool
  after : Nat

def stepP (st : St) (c : UInt8) : Option St :=
  if c.toNat = 46 ∧ st.point = false then some { st with point := true }
  else if c.toNat < 48 ∨ 57 < c.toNat ∨ (st.point = true ∧ st.after = 9) ∨ (st.point = false ∧ 112589990684262 < st.whole) then none
  else if st.point = true then some { st with rest := 10 * st.rest + (c.toNat - 48), after := st.after + 1 }
  else some { st with whole := 10 * st.whole + (c.toNat - 48) }

def runP : List UInt8 → St → Option St
  | [], st => some st
  | c :: r, st => match stepP st c with
    | some st' => runP r st'
    | none => none

theorem runP_append : ∀ (a b : List UInt8) (st st' : St), runP a st = some st' → runP (a ++ b) st = runP b st'
  | [], _, _, _, h => by simp [runP] at h; subst h; rfl
  | c :: r, b, st, st', h => by
    simp only [List.cons_append, runP] at h ⊢
    cases hs : stepP st c with
    | none => rw [hs] at h; cases h
    | some u => rw [hs] at h; exact runP_append r b u st' h

theorem runP_none : ∀ (a b : List UInt8) (st : St), runP a st = none → runP (a ++ b) st = none
  | [], _, _, h => by simp [runP] at h
  | c :: r, b, st, h => by
    simp only [List.cons_append, runP] at h ⊢
    cases hs : stepP st c with
    | none => rfl
    | some u => rw [hs] at h; exact runP_none r b u h

theorem digit_of {c : UInt8} {d : Nat} (h : Lib.digitVal c = some d) : 48 ≤ c.toNat ∧ c.toNat ≤ 57 ∧ d = c.toNat - 48 := by
  unfold Lib.digitVal at h
  split at h
  · rename_i hc; cases h; exact ⟨hc.1, hc.2, rfl⟩
  · cases h

theorem decFrom_ge : ∀ (l : List UInt8) (m v : Nat), Lib.decFrom m l = some v → m ≤ v
  | [], m, v, h => by simp [Lib.decFrom] at h; omega
  | c :: r, m, v, h => by
    simp only [Lib.decFrom] at h
    cases hd : Lib.digitVal c with
    | none => rw [hd] at h; cases h
    | some d => rw [hd] at h; have := decFrom_ge r _ v h; omega

theorem run_whole : ∀ (l : List UInt8) (m v : Nat), Lib.decFrom m l = some v → v ≤ 1125899 → runP l ⟨m, 0, false, 0⟩ = some ⟨v, 0, false, 0⟩
  | [], m, v, h, _ => by simp [Lib.decFrom] at h; subst h; rfl
  | c :: r, m, v, h, hv => by
    simp only [Lib.decFrom] at h
    cases hd : Lib.digitVal c with
    | none => rw [hd] at h; cases h
    | some d =>
      rw [hd] at h
      obtain ⟨h1, h2, rfl⟩ := digit_of hd
      have hge := decFrom_ge r _ v h
      have hstep : stepP ⟨m, 0, false, 0⟩ c = some ⟨m * 10 + (c.toNat - 48), 0, false, 0⟩ := by
        unfold stepP
        rw [if_neg (by simp; omega), if_neg (by simp; omega), if_neg (by simp)]
        simp only [Option.some.injEq, St.mk.injEq, and_true]
        omega
      simp only [runP, hstep]
      exact run_whole r _ v h hv

theorem run_frac (w : Nat) : ∀ (l : List UInt8) (m a v : Nat), Lib.decFrom m l = some v → a + l.length ≤ 9 → runP l ⟨w, m, true, a⟩ = some ⟨w, v, true, a + l.length⟩
  | [], m, a, v, h, _ => by simp [Lib.decFrom] at h; subst h; rfl
  | c :: r, m, a, v, h, ha => by
    simp only [Lib.decFrom] at h
    rw [List.length_cons] at ha
    cases hd : Lib.digitVal c with
    | none => rw [hd] at h; cases h
    | some d =>
      rw [hd] at h
      obtain ⟨h1, h2, rfl⟩ := digit_of hd
      have hstep : stepP ⟨w, m, true, a⟩ c = some ⟨w, m * 10 + (c.toNat - 48), true, a + 1⟩ := by
        unfold stepP
        rw [if_neg (by simp), if_neg (by simp; omega), if_pos rfl]
        simp only [Option.some.injEq, St.mk.injEq, true_and, and_true]
        omega
      simp only [runP, hstep]
      rw [run_frac w r _ (a + 1) v h (by omega), List.length_cons, Nat.add_assoc, Nat.add_comm 1]

theorem decFrom_prefix : ∀ (a b : List UInt8) (m v : Nat), Lib.decFrom m (a ++ b) = some v → ∃ k, Lib.decFrom m a = some k ∧ Lib.decFrom k b = some v
  | [], _, m, _, h => ⟨m, rfl, h⟩
  | c :: r, b, m, v, h => by
    simp only [List.cons_append, Lib.decFrom] at h ⊢
    cases hd : Lib.digitVal c with
    | none => rw [hd] at h; cases h
    | some d => rw [hd] at h; exact decFrom_prefix r b _ v h

theorem zeros_any : ∀ (k m : Nat), Lib.decFrom m (List.replicate k 48) = some (m * 10 ^ k)
  | 0, m => by simp [Lib.decFrom]
  | k + 1, m => by
    have hd : Lib.digitVal 48 = some 0 := by decide +kernel
    rw [List.replicate_succ]
    simp only [Lib.decFrom, hd]
    rw [zeros_any k, Nat.add_zero, Nat.pow_succ, Nat.mul_assoc, Nat.mul_comm 10]

/-- What is reckoned of a time's text. -/
theorem run_text (t : Int) (h0 : 0 ≤ t) (h1 : t ≤ 1125899906842624) : (textL t).length ≤ 20 ∧ ∃ st, runP (textL t) ⟨0, 0, false, 0⟩ = some st ∧ st.after ≤ 9 ∧ st.whole ≤ 1125899 ∧ ((st.whole * 1000000000 + st.rest * 10 ^ (9 - st.after) : Nat) : Int) = t := by
  obtain ⟨q, hq⟩ := Int.eq_ofNat_of_zero_le (show 0 ≤ t / 1000000000 by omega)
  obtain ⟨r, hr⟩ := Int.eq_ofNat_of_zero_le (show 0 ≤ t % 1000000000 by omega)
  have hq7 : q < 10 ^ 7 := by omega
  have hqm : q ≤ 1125899 := by omega
  have hr9 : r < 1000000000 := by omega
  have hdl := decDigits_le 6 q hq7
  have hdv := decFrom_digits q 0
  rw [Nat.zero_mul, Nat.zero_add] at hdv
  rw [textL_nat t h0, hq, hr, Int.toNat_natCast, Int.toNat_natCast]
  have hw := run_whole _ 0 q hdv hqm
  by_cases hz : (r : Int) = 0
  · rw [if_pos hz]
    exact ⟨by omega, _, hw, by simp, hqm, by simp; omega⟩
  · rw [if_neg hz]
    obtain ⟨p1, p2⟩ := padL_law r hr9
    have hpad := trim_pad (padL r) 48
    have htl : (Lib.trimRightB (padL r) 48).length ≤ 9 := by rw [← p1]; exact trimRightB_length _ _
    rw [p1] at hpad
    have h2 := p2 0
    rw [← hpad] at h2
    obtain ⟨k, hk1, hk2⟩ := decFrom_prefix _ _ _ _ h2
    rw [zeros_any] at hk2
    have hk3 : k * 10 ^ (9 - (Lib.trimRightB (padL r) 48).length) = r := by
      have := Option.some.inj hk2; omega
    generalize Lib.trimRightB (padL r) 48 = f at *
    refine ⟨by rw [List.length_append, List.length_cons]; omega, ⟨q, k, true, f.length⟩, ?_, htl, hqm, ?_⟩
    · rw [runP_append _ _ _ _ hw]
      have hstep : stepP ⟨q, 0, false, 0⟩ 46 = some ⟨q, 0, true, 0⟩ := rfl
      simp only [runP, hstep]
      rw [run_frac q f 0 0 k hk1 (by omega), Nat.zero_add]
    · simp only
      rw [hk3]; omega

end Go.Proofs.YtcedkaafdblboaaDoor
