/-
  Times and their texts: the plain laws.
-/
import Derived.Test.YtcedkaafdblboaaDoorTxtA
import Derived.Lib.AtoiTie
import Derived.Lib.ParseIntBTie
import Derived.Lib.ParseIntBCases
import Derived.Lib.AtoiAllCases
import Derived.Lib.IndexBytes
import Derived.Lib.IndexMore
namespace Go.Proofs.YtcedkaafdblboaaDoor
open Go.RowKit

theorem digitVal_lt {c : UInt8} {d : Nat} (h : Lib.digitVal c = some d) : d < 10 := by
  unfold Lib.digitVal at h
  split at h
  · cases h; omega
  · cases h

theorem dig_val : ∀ d : Fin 10, Lib.digitVal (UInt8.ofNat (48 + d.val)) = some d.val := by decide +kernel

theorem decFrom_append : ∀ (a b : List UInt8) (m k : Nat), Lib.decFrom m a = some k → Lib.decFrom m (a ++ b) = Lib.decFrom k b
  | [], b, m, k, h => by simp [Lib.decFrom] at h; subst h; rfl
  | c :: r, b, m, k, h => by
    simp only [List.cons_append, Lib.decFrom] at h ⊢
    cases hd : Lib.digitVal c with
    | none => rw [hd] at h; cases h
    | some d => rw [hd] at h; exact decFrom_append r b _ k h

theorem decFrom_up : ∀ (l : List UInt8) (m k v : Nat), Lib.decFrom m l = some v → Lib.decFrom (m + k) l = some (v + k * 10 ^ l.length)
  | [], m, k, v, h => by simp [Lib.decFrom] at h ⊢; omega
  | c :: r, m, k, v, h => by
    simp only [Lib.decFrom] at h ⊢
    cases hd : Lib.digitVal c with
    | none => rw [hd] at h; cases h
    | some d =>
      rw [hd] at h
      have := decFrom_up r (m * 10 + d) (k * 10) v h
      rw [show m * 10 + d + k * 10 = (m + k) * 10 + d from by omega] at this
      show Lib.decFrom ((m + k) * 10 + d) r = _
      rw [this, List.length_cons, Nat.pow_succ, Nat.mul_assoc, Nat.mul_comm 10]

theorem decFrom_down : ∀ (l : List UInt8) (m k v' : Nat), Lib.decFrom (m + k) l = some v' → ∃ v, Lib.decFrom m l = some v ∧ v' = v + k * 10 ^ l.length
  | [], m, k, v', h => by simp [Lib.decFrom] at h ⊢; omega
  | c :: r, m, k, v', h => by
    simp only [Lib.decFrom] at h ⊢
    cases hd : Lib.digitVal c with
    | none => rw [hd] at h; cases h
    | some d =>
      rw [hd] at h
      have h' : Lib.decFrom ((m * 10 + d) + k * 10) r = some v' := by
        rw [show m * 10 + d + k * 10 = (m + k) * 10 + d from by omega]; exact h
      obtain ⟨v, h1, h2⟩ := decFrom_down r (m * 10 + d) (k * 10) v' h'
      exact ⟨v, h1, by rw [h2, List.length_cons, Nat.pow_succ, Nat.mul_assoc, Nat.mul_comm 10]⟩

theorem decFrom_lt : ∀ (l : List UInt8) (m v : Nat), Lib.decFrom m l = some v → v < (m + 1) * 10 ^ l.length
  | [], m, v, h => by simp [Lib.decFrom] at h ⊢; omega
  | c :: r, m, v, h => by
    simp only [Lib.decFrom] at h
    cases hd : Lib.digitVal c with
    | none => rw [hd] at h; cases h
    | some d =>
      rw [hd] at h
      have h10 := digitVal_lt hd
      have h1 := decFrom_lt r (m * 10 + d) v h
      rw [List.length_cons, Nat.pow_succ]
      have h2 : (m * 10 + d + 1) * 10 ^ r.length ≤ ((m + 1) * 10) * 10 ^ r.length := Nat.mul_le_mul_right _ (by omega)
      rw [Nat.mul_comm (10 ^ r.length) 10, ← Nat.mul_assoc]
      omega

theorem decFrom_mem : ∀ (l : List UInt8) (m v : Nat), Lib.decFrom m l = some v → ∀ c ∈ l, Lib.digitVal c ≠ none
  | [], _, _, _, c, hc => by cases hc
  | b :: r, m, v, h, c, hc => by
    simp only [Lib.decFrom] at h
    cases hd : Lib.digitVal b with
    | none => rw [hd] at h; cases h
    | some d =>
      rw [hd] at h
      rcases List.mem_cons.1 hc with rfl | hc
      · rw [hd]; simp
      · exact decFrom_mem r _ v h c hc

theorem decFrom_digits (u m : Nat) : Lib.decFrom m (Lib.decDigits u) = some (m * 10 ^ (Lib.decDigits u).length + u) := by
  induction u using Nat.strongRecOn generalizing m with
  | _ u ih =>
    by_cases h : u < 10
    · rw [Lib.decDigits, dif_pos h]
      simp only [Lib.decFrom, dig_val ⟨u, h⟩]
      simp
    · rw [Lib.decDigits, dif_neg h, decFrom_append _ _ _ _ (ih (u / 10) (by omega) m)]
      have hd := dig_val ⟨u % 10, Nat.mod_lt _ (by decide)⟩
      simp only at hd
      simp only [Lib.decFrom, hd, List.length_append, List.length_cons, List.length_nil]
      rw [Nat.pow_add, Nat.add_mul, Nat.mul_assoc, show 10 ^ (0 + 1) = 10 from rfl]
      congr 1
      omega

theorem decDigits_le : ∀ (k u : Nat), u < 10 ^ (k + 1) → (Lib.decDigits u).length ≤ k + 1
  | 0, u, h => by rw [Lib.decDigits, dif_pos (by omega)]; simp
  | k + 1, u, h => by
    by_cases h10 : u < 10
    · rw [Lib.decDigits, dif_pos h10]; simp
    · rw [Lib.decDigits, dif_neg h10, List.length_append, List.length_cons, List.length_nil]
      have := decDigits_le k (u / 10) (by rw [Nat.pow_succ] at h; omega)
      omega

/-- Nine digits of a number below a thousand million. -/
def padL (r : Nat) : List UInt8 := (Lib.decDigits (1000000000 + r)).tail

theorem padL_law (r : Nat) (hr : r < 1000000000) : (padL r).length = 9 ∧ ∀ m, Lib.decFrom m (padL r) = some (m * 1000000000 + r) := by
  have hlen : (Lib.decDigits (1000000000 + r)).length = 10 := by rw [Lib.decDigits_length, Lib.nDigits_unique 9 _ (by omega) (by omega)]
  have hval := decFrom_digits (1000000000 + r) 0
  unfold padL
  cases hl : Lib.decDigits (1000000000 + r) with
  | nil => rw [hl] at hlen; cases hlen
  | cons c t =>
    rw [hl] at hlen hval
    have ht : t.length = 9 := by simpa using hlen
    refine ⟨ht, fun m => ?_⟩
    simp only [Lib.decFrom] at hval
    cases hd : Lib.digitVal c with
    | none => rw [hd] at hval; cases hval
    | some d =>
      rw [hd] at hval
      have hval' : Lib.decFrom (0 + d) t = some (1000000000 + r) := by
        rw [show 0 + d = 0 * 10 + d from by omega]; simpa using hval
      obtain ⟨v, h1, h2⟩ := decFrom_down t 0 d _ hval'
      have h3 := decFrom_lt t 0 v h1
      rw [ht] at h2 h3
      have hv : v = r := by omega
      subst hv
      have h4 := decFrom_up t 0 m v h1
      rw [ht, Nat.zero_add] at h4
      show Lib.decFrom m t = _
      rw [h4]; congr 1; omega

theorem zeros_law (m : Nat) : Lib.decFrom m (List.replicate 9 48) = some (m * 1000000000) := by
  have h0 : Lib.decFrom 0 (List.replicate 9 48) = some 0 := by decide +kernel
  have h := decFrom_up _ 0 m 0 h0
  rw [Nat.zero_add, Nat.zero_add, List.length_replicate] at h
  exact h

theorem trim_pad (l : List UInt8) (c : UInt8) : Lib.trimRightB l c ++ List.replicate (l.length - (Lib.trimRightB l c).length) c = l := by
  have key : ∀ l : List UInt8, List.replicate (l.length - (l.dropWhile (· == c)).length) c ++ l.dropWhile (· == c) = l := by
    intro l
    induction l with
    | nil => rfl
    | cons x r ih =>
      by_cases hx : (x == c) = true
      · have e : (x :: r).dropWhile (· == c) = r.dropWhile (· == c) := by simp [hx]
        rw [e]
        have hle := (List.dropWhile_sublist (fun x => x == c) (l := r)).length_le
        rw [List.length_cons, show r.length + 1 - (List.dropWhile (fun x => x == c) r).length = (r.length - (List.dropWhile (fun x => x == c) r).length) + 1 from by omega, List.replicate_succ, List.cons_append, ih]
        rw [beq_iff_eq] at hx
        rw [hx]
      · have e : (x :: r).dropWhile (· == c) = x :: r := by simp [hx]
        rw [e]
        simp
  unfold Lib.trimRightB
  have h := congrArg List.reverse (key l.reverse)
  rw [List.reverse_append, List.reverse_replicate, List.reverse_reverse, List.length_reverse] at h
  rw [List.length_reverse]
  exact h

theorem digit_plain {c : UInt8} (h : Lib.digitVal c ≠ none) : c ≠ 46 ∧ c.toNat ≠ 43 ∧ c.toNat ≠ 45 := by
  refine ⟨fun e => h (by rw [e]; decide +kernel), fun e => h ?_, fun e => h ?_⟩
  · rw [show c = 43 from UInt8.toNat_inj.1 e]; decide +kernel
  · rw [show c = 45 from UInt8.toNat_inj.1 e]; decide +kernel

theorem parse_digits (l : List UInt8) (v : Nat) (hne : l ≠ []) (hl : l.length ≤ 18) (h : Lib.decFrom 0 l = some v) : Lib.parseIntB 64 l = .ok (v : Int) := by
  rw [Lib.parseIntB_64]
  cases l with
  | nil => exact absurd rfl hne
  | cons c r =>
    obtain ⟨-, h43, h45⟩ := digit_plain (decFrom_mem _ _ _ h c (by simp))
    rw [Lib.atoiAll_plain c r h43 h45, Lib.signless_short hl]
    have : Lib.decNat (c :: r) = some v := by unfold Lib.decNat; simpa using h
    rw [this]; rfl

theorem index_stop : ∀ (l f : List UInt8), (∀ c ∈ l, c ≠ 46) → Lib.indexByte (l ++ 46 :: f) 46 = l.length
  | [], f, _ => by simp [Lib.indexByte]
  | c :: r, f, h => by
    have hc : ¬ c = 46 := h c (by simp)
    have ih := index_stop r f (fun x hx => h x (by simp [hx]))
    rw [List.cons_append]
    unfold Lib.indexByte
    rw [ih]
    have hk : ¬ ((r.length : Int) = -1) := by omega
    simp [hc, hk]

theorem index_never : ∀ (l : List UInt8), (∀ c ∈ l, c ≠ 46) → Lib.indexByte l 46 = -1
  | [], _ => rfl
  | c :: r, h => by
    have hc : ¬ c = 46 := h c (by simp)
    have ih := index_never r (fun x hx => h x (by simp [hx]))
    unfold Lib.indexByte
    rw [ih]
    simp [hc]

theorem cut_stop (l f : List UInt8) (h : ∀ c ∈ l, c ≠ 46) : Lib.cut (l ++ 46 :: f) [46] = (l, f, true) := by
  unfold Lib.cut
  rw [Lib.index_one, index_stop l f h, if_pos (by omega)]
  simp
theorem cut_never (l : List UInt8) (h : ∀ c ∈ l, c ≠ 46) : Lib.cut l [46] = (l, [], false) := by
  unfold Lib.cut
  rw [Lib.index_one, index_never l h, if_neg (by omega)]

/-- What Parse makes of a text's two parts: the number, where they spell one. -/
def numO (s : List UInt8) : Option Int :=
  if 9 < (Lib.cut s [46]).2.1.length then none
  else match Lib.parseIntB 64 ((Lib.cut s [46]).1 ++ ((Lib.cut s [46]).2.1 ++ List.replicate (9 - (Lib.cut s [46]).2.1.length) 48)) with
    | .ok v => some v
    | _ => none

theorem textL_nat (t : Int) (h0 : 0 ≤ t) : textL t = if t % 1000000000 = 0 then Lib.decDigits (t / 1000000000).toNat else Lib.decDigits (t / 1000000000).toNat ++ 46 :: Lib.trimRightB (padL (t % 1000000000).toNat) 48 := by
  unfold textL padL
  have e1 : Lib.itoa (t / 1000000000) = Lib.decDigits (t / 1000000000).toNat := by unfold Lib.itoa; rw [if_neg (by omega)]
  have e2 : Lib.itoa (1000000000 + t % 1000000000) = Lib.decDigits (1000000000 + (t % 1000000000).toNat) := by
    unfold Lib.itoa; rw [if_neg (by omega)]; congr 1; omega
  rw [e1, e2]

/-- The number of a time's text is that time. -/
theorem num_text (t : Int) (h0 : 0 ≤ t) (h1 : t ≤ 1125899906842624) : numO (textL t) = some t := by
  obtain ⟨q, hq⟩ := Int.eq_ofNat_of_zero_le (show 0 ≤ t / 1000000000 by omega)
  obtain ⟨r, hr⟩ := Int.eq_ofNat_of_zero_le (show 0 ≤ t % 1000000000 by omega)
  have ht : t = ((q * 1000000000 + r : Nat) : Int) := by omega
  have hq7 : q < 10 ^ 7 := by omega
  have hr9 : r < 1000000000 := by omega
  have hdl := decDigits_le 6 q hq7
  have hdv := decFrom_digits q 0
  rw [Nat.zero_mul, Nat.zero_add] at hdv
  have hdm := decFrom_mem _ _ _ hdv
  have hd46 : ∀ c ∈ Lib.decDigits q, c ≠ 46 := fun c hc => (digit_plain (hdm c hc)).1
  have hne : ∀ x, Lib.decDigits q ++ x ≠ [] := by
    intro x h
    have h2 : (Lib.decDigits q).length = 0 := by
      have := congrArg List.length h
      rw [List.length_append] at this
      simp at this
      simp [this.1]
    rw [Lib.decDigits_length] at h2
    have := Lib.nDigits_pos q
    omega
  rw [textL_nat t h0, hq, hr, Int.toNat_natCast, Int.toNat_natCast]
  by_cases hz : (r : Int) = 0
  · rw [if_pos hz]
    unfold numO
    rw [cut_never _ hd46]
    simp only [List.length_nil, List.nil_append, Nat.sub_zero]
    rw [if_neg (by omega), parse_digits _ (q * 1000000000) (hne _) (by rw [List.length_append, List.length_replicate]; omega) (by rw [decFrom_append _ _ _ _ hdv, zeros_law])]
    simp only [Option.some.injEq]
    omega
  · rw [if_neg hz]
    obtain ⟨p1, p2⟩ := padL_law r hr9
    have hpad := trim_pad (padL r) 48
    have htl : (Lib.trimRightB (padL r) 48).length ≤ 9 := by rw [← p1]; exact trimRightB_length _ _
    rw [p1] at hpad
    unfold numO
    rw [cut_stop _ _ hd46]
    simp only
    rw [if_neg (by omega), hpad, parse_digits _ (q * 1000000000 + r) (hne _) (by rw [List.length_append, p1]; omega) (by rw [decFrom_append _ _ _ _ hdv, p2])]
    simp only [Option.some.injEq]
    omega

/-- The time whose text it is. -/
def parseN (s : List UInt8) : Option Int := match numO s with
  | some v => if (0 ≤ v ∧ v ≤ 1125899906842624) ∧ textL v = s then some v else none
  | none => none

theorem parse_text (t : Int) (h0 : 0 ≤ t) (h1 : t ≤ 1125899906842624) : parseN (textL t) = some t := by
  unfold parseN
  rw [num_text t h0 h1]
  simp only
  rw [if_pos ⟨⟨h0, h1⟩, trivial⟩]

theorem parse_some {s : List UInt8} {t : Int} (h : parseN s = some t) : (0 ≤ t ∧ t ≤ 1125899906842624) ∧ textL t = s := by
  unfold parseN at h
  cases hn : numO s with
  | none => rw [hn] at h; cases h
  | some v =>
    rw [hn] at h
    simp only at h
    split at h
    · rename_i hc; cases h; exact hc
    · cases h

theorem text_inj {t u : Int} (ht0 : 0 ≤ t) (ht1 : t ≤ 1125899906842624) (hu0 : 0 ≤ u) (hu1 : u ≤ 1125899906842624) (h : textL t = textL u) : t = u := by
  have h1 := parse_text t ht0 ht1
  rw [h, parse_text u hu0 hu1] at h1
  cases h1; rfl

end Go.Proofs.YtcedkaafdblboaaDoor
