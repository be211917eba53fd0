/-
  The document's answers: Text, Parse.
-/
import Derived.Test.YtglndonfmmbnhaaDoorCpsX
namespace Go.Proofs.YtglndonfmmbnhaaDoor
open Go.RowKit

theorem hasN_out (s k : Nat) (h : 8 ≤ k) : hasN s (k : Int) = false := by unfold hasN; rw [bitN_out (.inr (by omega))]; simp

/-- The last of a run that begins at i. -/
def endN (s : Nat) : Nat → Nat → Nat
  | 0, i => i
  | f + 1, i => if hasN s ((i + 1 : Nat) : Int) then endN s f (i + 1) else i

def digB (n : Nat) : UInt8 := 48 + UInt8.ofNat n
/-- A run joined to the text so far. -/
def addRow (i e : Nat) (out : List UInt8) : List UInt8 := (if out = [] then out else out ++ [44]) ++ digB i :: (if i < e then [45, digB e] else [])

theorem addRow_length (i e : Nat) (out : List UInt8) : (addRow i e out).length ≤ out.length + 4 := by
  unfold addRow
  split <;> split <;> simp <;> omega

def refT (s : Nat) : Nat → Nat → List UInt8 → List UInt8
  | 0, _, out => out
  | f + 1, i, out => if hasN s (i : Int) then refT s f (endN s 8 i + 1) (addRow i (endN s 8 i) out) else refT s f (i + 1) out

theorem refT_out (s : Nat) : ∀ f i out, 8 ≤ i → refT s f i out = out
  | 0, _, _, _ => rfl
  | f + 1, i, out, h => by unfold refT; rw [hasN_out s i h]; exact refT_out s f (i + 1) out (by omega)

theorem refT_row {s f k j : Nat} {out R : List UInt8} (hk : k < 8) (hkj : k ≤ j) (hf : 8 ≤ k + f) (hb : hasN s (k : Int) = true) (he : endN s 8 k = j) (h : refT s f k out = R) :
    ∃ f', 8 ≤ j + 1 + f' ∧ refT s f' (j + 1) (addRow k j out) = R := by
  obtain ⟨f', rfl⟩ : ∃ f', f = f' + 1 := ⟨f - 1, by omega⟩
  unfold refT at h
  rw [hb, he] at h
  exact ⟨f', by omega, h⟩
theorem refT_skip {s f k : Nat} {out R : List UInt8} (hk : k < 8) (hf : 8 ≤ k + f) (hb : hasN s (k : Int) = false) (h : refT s f k out = R) :
    ∃ f', 8 ≤ k + 1 + f' ∧ refT s f' (k + 1) out = R := by
  obtain ⟨f', rfl⟩ : ∃ f', f = f' + 1 := ⟨f - 1, by omega⟩
  unfold refT at h
  rw [hb] at h
  exact ⟨f', by omega, h⟩
theorem endN_stop {s g j : Nat} (h : hasN s ((j + 1 : Nat) : Int) = false) : endN s g j = j := by
  cases g with
  | zero => rfl
  | succ g => unfold endN; rw [h]; rfl
theorem endN_step {s g j : Nat} (h : hasN s ((j + 1 : Nat) : Int) = true) (hg : 8 ≤ j + g) : j + 1 ≤ 7 ∧ ∃ g', 8 ≤ j + 1 + g' ∧ endN s g j = endN s g' (j + 1) := by
  have h7 : j + 1 ≤ 7 := by
    by_cases h8 : 8 ≤ j + 1
    · rw [hasN_out s (j + 1) h8] at h; cases h
    · omega
  obtain ⟨g', rfl⟩ : ∃ g', g = g' + 1 := ⟨g - 1, by omega⟩
  refine ⟨h7, g', by omega, ?_⟩
  conv => lhs; unfold endN
  rw [h]; rfl

theorem refT_fact : ∀ s : Fin 256, (if refT s.val 8 0 [] = [] then [110, 111, 110, 101] else refT s.val 8 0 []) = textL s.val := by decide +kernel

set_option maxRecDepth 100000 in
set_option maxHeartbeats 2000000 in
theorem rtext_any (s : Nat) (w : World) (hs : s < 256) : Calls Tryd.prog 23 #[.int .u32 s] w fun e w' => e = .returned (strV (textL s)) ∧ w = w' := by
  have hfact := refT_fact ⟨s, hs⟩
  simp only at hfact
  have HF := Lib.hid hfact
  clear hfact
  go_enter Tryd.func23, Tryd.ntmps23
  go_wp2
  go_loop [3, 4] (fun o i => ∃ (k f : Nat) (out : List UInt8), k ≤ 8 ∧ 8 ≤ k + f ∧ out.length ≤ 4 * k ∧ o = .string ⟨out.toArray⟩ ∧ i = .int .i64 k ∧ Hid (refT s f k out = refT s 8 0 [])) (fun _ i => 8 - (intOf i).toNat)
  case atStart => exact ⟨0, 8, [], by omega, by omega, by simp, rfl, rfl, rfl⟩
  case round =>
    obtain ⟨k, f, out, hk, hkf, hol, rfl, rfl, HP⟩ := hrel
    by_cases h8 : k < 8
    · have hh := rhas_any s k
      cases hb : hasN s k with
      | false =>
        rw [hb] at hh
        have HH := Lib.hid hh
        clear hh
        obtain ⟨f', hf', hr⟩ := refT_skip h8 hkf hb HP.out
        have HR := Lib.hid hr
        clear hr
        go_wp2_with (go_at_call 31; refine (HH.out _).mono ?_; rintro e w' ⟨rfl, rfl⟩)
        go_round
        case rel => exact ⟨k + 1, f', out, by omega, by omega, by omega, rfl, by go_num, HR.out⟩
        case measure => simp [intOf]; omega
      | true =>
        rw [hb] at hh
        have HH := Lib.hid hh
        clear hh
        go_wp2_with (go_at_call 31; refine (HH.out _).mono ?_; rintro e w' ⟨rfl, rfl⟩)
        go_loop [4] (fun i => ∃ (j g : Nat), j ≤ 7 ∧ k ≤ j ∧ 8 ≤ j + g ∧ i = .int .i64 j ∧ Hid (endN s g j = endN s 8 k)) (fun i => 8 - (intOf i).toNat)
        case atStart => exact ⟨k, 8, by omega, by omega, by omega, rfl, rfl⟩
        case round =>
          obtain ⟨j, g, hj, hkj, hjg, rfl, HE⟩ := hrel
          have hh := rhas_any s ((j + 1 : Nat) : Int)
          cases hb2 : hasN s ((j + 1 : Nat) : Int) with
          | true =>
            rw [hb2] at hh
            rw [show ((j + 1 : Nat) : Int) = (j : Int) + 1 from by omega] at hh
            have HH2 := Lib.hid hh
            clear hh
            go_wp2_with (go_at_call 31; refine (HH2.out _).mono ?_; rintro e w' ⟨rfl, rfl⟩)
            go_round
            case rel =>
              obtain ⟨h7, g', hg', he⟩ := endN_step hb2 hjg
              exact ⟨j + 1, g', h7, by omega, by omega, by go_num, by show _ = _; rw [← he]; exact HE.out⟩
            case measure => simp [intOf]; omega
          | false =>
            rw [hb2] at hh
            rw [show ((j + 1 : Nat) : Int) = (j : Int) + 1 from by omega] at hh
            have HH2 := Lib.hid hh
            clear hh
            have hej : endN s 8 k = j := by rw [← HE.out]; exact endN_stop hb2
            obtain ⟨f', hf', hr⟩ := refT_row h8 hkj hkf hb hej HP.out
            have HR := Lib.hid hr
            clear hr hej
            by_cases ho : out = []
            · have hO : (if out = [] then out else out ++ [44]) = out := if_pos ho
              have ho' : (out == []) = true := by simp [ho]
              by_cases hkj2 : k < j
              · have HQ := Lib.hid (And.intro hO (show (if k < j then [45, digB j] else []) = [45, digB j] from if_pos hkj2))
                clear ho hO
                go_wp2_with (first | (go_at_call 31; refine (HH2.out _).mono ?_; rintro e w' ⟨rfl, rfl⟩) | (go_at_call 44; refine (digit_any _ _ (by omega)).mono ?_; rintro e w' ⟨rfl, rfl⟩))
                refine ⟨⟨j + 1, f', addRow k j out, by omega, by omega, by have := addRow_length k j out; omega, ?_, by go_num, HR.out⟩, by simp [intOf]; omega⟩
                unfold addRow
                rw [HQ.out.1, HQ.out.2]
                unfold digB
                congr 1
                apply ByteArray.ext
                simp
              · have HQ := Lib.hid (And.intro hO (show (if k < j then [45, digB j] else []) = [] from if_neg hkj2))
                have hkj3 : j ≤ k := by omega
                clear ho hO
                go_wp2_with (first | (go_at_call 31; refine (HH2.out _).mono ?_; rintro e w' ⟨rfl, rfl⟩) | (go_at_call 44; refine (digit_any _ _ (by omega)).mono ?_; rintro e w' ⟨rfl, rfl⟩))
                refine ⟨⟨j + 1, f', addRow k j out, by omega, by omega, by have := addRow_length k j out; omega, ?_, by go_num, HR.out⟩, by simp [intOf]; omega⟩
                unfold addRow
                rw [HQ.out.1, HQ.out.2]
                unfold digB
                congr 1
            · have hO : (if out = [] then out else out ++ [44]) = out ++ [44] := if_neg ho
              have ho' : (out == []) = false := by simp [ho]
              by_cases hkj2 : k < j
              · have HQ := Lib.hid (And.intro hO (show (if k < j then [45, digB j] else []) = [45, digB j] from if_pos hkj2))
                clear ho hO
                go_wp2_with (first | (go_at_call 31; refine (HH2.out _).mono ?_; rintro e w' ⟨rfl, rfl⟩) | (go_at_call 44; refine (digit_any _ _ (by omega)).mono ?_; rintro e w' ⟨rfl, rfl⟩))
                refine ⟨⟨j + 1, f', addRow k j out, by omega, by omega, by have := addRow_length k j out; omega, ?_, by go_num, HR.out⟩, by simp [intOf]; omega⟩
                unfold addRow
                rw [HQ.out.1, HQ.out.2]
                unfold digB
                congr 1
                apply ByteArray.ext
                simp
              · have HQ := Lib.hid (And.intro hO (show (if k < j then [45, digB j] else []) = [] from if_neg hkj2))
                have hkj3 : j ≤ k := by omega
                clear ho hO
                go_wp2_with (first | (go_at_call 31; refine (HH2.out _).mono ?_; rintro e w' ⟨rfl, rfl⟩) | (go_at_call 44; refine (digit_any _ _ (by omega)).mono ?_; rintro e w' ⟨rfl, rfl⟩))
                refine ⟨⟨j + 1, f', addRow k j out, by omega, by omega, by have := addRow_length k j out; omega, ?_, by go_num, HR.out⟩, by simp [intOf]; omega⟩
                unfold addRow
                rw [HQ.out.1, HQ.out.2]
                unfold digB
                congr 1
    · have hk8 : k = 8 := by omega
      have hr := HP.out
      rw [refT_out s f k out (by omega)] at hr
      by_cases ho : out = []
      · have ho' : (out == []) = true := by simp [ho]
        have ht : textL s = [110, 111, 110, 101] := by rw [← HF.out, ← hr, if_pos ho]
        have HT := Lib.hid ht
        clear ht hr ho
        go_wp2
        go_ret
        exact ⟨by rw [HT.out]; rfl, rfl⟩
      · have ho' : (out == []) = false := by simp [ho]
        have ht : textL s = out := by rw [← HF.out, ← hr, if_neg ho]
        have HT := Lib.hid ht
        clear ht hr ho
        go_wp2
        go_ret
        exact ⟨by rw [HT.out]; rfl, rfl⟩

/-! The two ways between sets and texts. -/

theorem parse_text : ∀ s : Fin 256, parseN (textL s.val) = some s.val := by decide +kernel

theorem rowSet_lt {o : Option Nat} {x : List UInt8} (h : ∀ s, o = some s → s < 256) : ∀ s, rowSet o x = some s → s < 256 := by
  intro s hs
  cases o with
  | none => cases hs
  | some t =>
    unfold rowSet at hs
    simp only at hs
    cases hn : numbersV x with
    | none => rw [hn] at hs; cases hs
    | some ab =>
      obtain ⟨a, b⟩ := ab
      rw [hn] at hs
      simp only at hs
      split at hs
      · cases hs
      · cases hs; exact fillN_lt t a (h t rfl) _

theorem rowsSet_lt : ∀ (rows : List (List UInt8)) (o : Option Nat), (∀ s, o = some s → s < 256) → ∀ s, rows.foldl rowSet o = some s → s < 256
  | [], _, h, s, hs => h s hs
  | x :: r, o, h, s, hs => rowsSet_lt r (rowSet o x) (rowSet_lt h) s hs

theorem parse_some {l : List UInt8} {s : Nat} (h : parseN l = some s) : s < 256 ∧ textL s = l := by
  unfold parseN at h
  split at h
  · rename_i hl
    cases h
    exact ⟨by decide, by rw [hl]; rfl⟩
  · split at h
    · cases h
    · rename_i t ht
      split at h
      · rename_i hx
        cases h
        exact ⟨rowsSet_lt _ _ (fun s hs => by cases hs; decide) _ ht, hx⟩
      · cases h

/-- What the document's Parse answers. -/
def rparseV (l : List UInt8) : Value := match parseN l with
  | some s => .tuple #[.int .u32 s, .bool true]
  | none => .tuple #[.int .u32 0, .bool false]

set_option maxRecDepth 100000 in
set_option maxHeartbeats 1000000 in
theorem rparse_any (l : List UInt8) (w : World) : Calls Tryd.prog 25 #[.string ⟨l.toArray⟩] w fun e w' => e = .returned (rparseV l) ∧ w = w' := by
  have HV : Hid (∀ p, parseN l = p → rparseV l = match p with | some s => .tuple #[.int .u32 s, .bool true] | none => .tuple #[.int .u32 0, .bool false]) := by
    rintro p rfl; rfl
  generalize rparseV l = v at HV ⊢
  go_enter Tryd.func25, Tryd.ntmps25
  go_wp2
  go_loop [5] (fun i => ∃ k : Nat, k ≤ 256 ∧ i = .int .u32 k ∧ Hid (∀ j, j < k → textL j ≠ l)) (fun i => 256 - (intOf i).toNat)
  case atStart => exact ⟨0, by omega, rfl, fun j hj => absurd hj (Nat.not_lt_zero _)⟩
  case round =>
    obtain ⟨k, hk, rfl, HP⟩ := hrel
    by_cases hlt : k < 256
    · have ht := rtext_any k
      by_cases hx : textL k = l
      · have hp : parseN l = some k := by rw [← hx]; exact parse_text ⟨k, hlt⟩
        have HV2 := Lib.hid (HV.out _ hp)
        rw [hx] at ht
        unfold strV at ht
        have HT := Lib.hid ht
        clear ht hp hx
        go_wp2_with (go_at_call 23; refine (HT.out _ hlt).mono ?_; rintro e w' ⟨rfl, rfl⟩)
        go_ret2
        exact ⟨by rw [HV2.out]; rfl, rfl⟩
      · have hx' : (textL k == l) = false := by simp [hx]
        unfold strV at ht
        have HT := Lib.hid ht
        have HX := Lib.hid hx
        clear ht hx
        go_wp2_with (go_at_call 23; refine (HT.out _ hlt).mono ?_; rintro e w' ⟨rfl, rfl⟩)
        go_round
        case rel =>
          refine ⟨k + 1, by omega, by go_num, fun j hj => ?_⟩
          by_cases e : j = k
          · subst e; exact HX.out
          · exact HP.out j (by omega)
        case measure => simp [intOf]; omega
    · have hp : parseN l = none := by
        cases hpn : parseN l with
        | none => rfl
        | some s =>
          obtain ⟨h1, h2⟩ := parse_some hpn
          exact absurd h2 (HP.out s (by omega))
      have HV2 := Lib.hid (HV.out _ hp)
      clear hp
      go_wp2
      go_ret2
      exact ⟨by rw [HV2.out]; rfl, rfl⟩

end Go.Proofs.YtglndonfmmbnhaaDoor
