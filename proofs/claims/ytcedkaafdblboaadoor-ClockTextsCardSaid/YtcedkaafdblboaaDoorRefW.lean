/-
  The walk of the document's Parse.
-/
import Derived.Test.YtcedkaafdblboaaDoorRefP
namespace Go.Proofs.YtcedkaafdblboaaDoor
open Go.RowKit

/-- How the document's Parse answers. -/
def RAns (pn : Option Int) (e : Ending) : Prop := ∃ (v : Int) (ok : Bool), e = .returned (.tuple #[.int .i64 v, .bool ok]) ∧ ok = pn.isSome ∧ (∀ t, pn = some t → v = t)

theorem rAns_none : RAns none (.returned (.tuple #[.int .i64 0, .bool false])) := ⟨0, false, rfl, rfl, fun t h => by cases h⟩

set_option maxRecDepth 100000 in
set_option maxHeartbeats 4000000 in
theorem rparse_any (s : List UInt8) (w : World) (hl60 : s.length ≤ 60) :
    Calls Tryd.prog 29 #[.string ⟨s.toArray⟩] w fun e w' => RAns (parseN s) e ∧ Below w.heap.size w w' := by
  have HC : Hid (∀ t, parseN s = some t → s.length ≤ 20 ∧ ∃ st, runP s ⟨0, 0, false, 0⟩ = some st ∧ st.after ≤ 9 ∧ st.whole ≤ 1125899 ∧ ((st.whole * 1000000000 + st.rest * 10 ^ (9 - st.after) : Nat) : Int) = t) := by
    intro t ht
    obtain ⟨⟨h0, h1⟩, htx⟩ := parse_some ht
    have := run_text t h0 h1
    rwa [htx] at this
  have HP : Hid (∀ t : Int, 0 ≤ t → t ≤ 1125899906842624 → textL t = s → parseN s = some t) := by
    intro t h0 h1 htx
    rw [← htx]; exact parse_text t h0 h1
  have HQ : Hid (∀ t, parseN s = some t → (0 ≤ t ∧ t ≤ 1125899906842624) ∧ textL t = s) := fun t ht => parse_some ht
  generalize parseN s = pn at *
  by_cases hl : s.length ≤ 20
  · go_enter Tryd.func29, Tryd.ntmps29
    go_wp2
    go_loop [4, 5, 6, 7, 16] (fun v4 v5 v6 v7 i => ∃ (k wh re af : Nat) (pt : Bool), k ≤ s.length ∧ v4 = .int .i64 wh ∧ v5 = .int .i64 re ∧ v6 = .bool pt ∧ v7 = .int .i64 af ∧ i = .int .i64 k ∧ Hid (runP (s.take k) ⟨0, 0, false, 0⟩ = some ⟨wh, re, pt, af⟩) ∧ wh ≤ 1125899906842629 ∧ Hid (re < 10 ^ af) ∧ af ≤ 9) (fun _ _ _ _ i => s.length - (intOf i).toNat)
    case atStart => exact ⟨0, 0, 0, 0, false, Nat.zero_le _, rfl, rfl, rfl, rfl, rfl, rfl, by omega, by show _ < _; decide, by omega⟩
    case round =>
      obtain ⟨k, wh, re, af, pt, hk, rfl, rfl, rfl, rfl, rfl, HR, hwh, HRE, haf⟩ := hrel
      have hre : re < 1000000000 := Nat.lt_of_lt_of_le HRE.out (Nat.pow_le_pow_right (by decide) haf)
      by_cases hlt : k < s.length
      · have htk : s.take (k + 1) = s.take k ++ [s.getD k 0] := by rw [List.take_add_one]; simp [hlt]
        have hrun : ∀ o, stepP ⟨wh, re, pt, af⟩ (s.getD k 0) = o → runP (s.take (k + 1)) ⟨0, 0, false, 0⟩ = o := fun o ho => by
          rw [htk, runP_append _ _ _ _ HR.out]
          simp only [runP, ho]
          cases o <;> rfl
        have HRUN := Lib.hid hrun
        clear hrun htk
        obtain ⟨c, hcN, hc2⟩ : ∃ c : Nat, ((⟨s.toArray⟩ : ByteArray)[k]'(by simpa [ByteArray.size] using hlt)).toNat = c ∧ (s.getD k 0).toNat = c := ⟨_, rfl, by simp [hlt]; rfl⟩
        have HST : Hid (∀ st : St, stepP st (s.getD k 0) = if c = 46 ∧ st.point = false then some { st with point := true } else if c < 48 ∨ 57 < c ∨ (st.point = true ∧ st.after = 9) ∨ (st.point = false ∧ 112589990684262 < st.whole) then none else if st.point = true then some { st with rest := 10 * st.rest + (c - 48), after := st.after + 1 } else some { st with whole := 10 * st.whole + (c - 48) }) := fun st => by
          unfold stepP; rw [hc2]
        have hbad : stepP ⟨wh, re, pt, af⟩ (s.getD k 0) = none → pn = none := fun hn => by
          cases hp : pn with
          | none => rfl
          | some t =>
            obtain ⟨-, st, hst, -⟩ := HC.out t hp
            have h2 := runP_none _ (s.drop (k + 1)) _ (HRUN.out none hn)
            rw [List.take_append_drop, hst] at h2
            cases h2
        clear hc2
        cases pt with
        | false =>
          by_cases h46 : c = 46
          · have HR2 := HRUN.out (some ⟨wh, re, true, af⟩) (by rw [HST.out, if_pos ⟨h46, rfl⟩])
            have HR3 := Lib.hid HR2
            clear HR2 hbad
            go_wp2
            go_round
            case rel => exact ⟨k + 1, wh, re, af, true, by omega, rfl, rfl, rfl, rfl, by go_num, HR3, hwh, HRE, haf⟩
            case measure => simp [intOf]; omega
          · by_cases hdig : 48 ≤ c ∧ c ≤ 57
            · obtain ⟨h48, h57⟩ := hdig
              by_cases hbig : 112589990684262 < wh
              · have HN : Hid (pn = none) := hbad (by rw [HST.out, if_neg (by simp; omega), if_pos (by right; right; right; exact ⟨rfl, hbig⟩)])
                clear hbad
                go_wp2
                go_ret2
                exact ⟨by rw [HN.out]; exact rAns_none, Below.refl _ _⟩
              · have HR2 := HRUN.out (some ⟨10 * wh + (c - 48), re, false, af⟩) (by rw [HST.out, if_neg (by simp; omega), if_neg (by simp; omega), if_neg (by simp)])
                have HR3 := Lib.hid HR2
                clear HR2 hbad
                go_wp2
                go_round
                case rel => exact ⟨k + 1, 10 * wh + (c - 48), re, af, false, by omega, by go_num, rfl, rfl, rfl, by go_num, HR3, by omega, HRE, haf⟩
                case measure => simp [intOf]; omega
            · have HN : Hid (pn = none) := hbad (by rw [HST.out, if_neg (by simp; omega), if_pos (by omega)])
              have hout : c < 48 ∨ 57 < c := by omega
              clear hbad hdig
              rcases hout with hout | hout
              all_goals
                go_wp2
                go_ret2
                exact ⟨by rw [HN.out]; exact rAns_none, Below.refl _ _⟩
        | true =>
          by_cases hdig : 48 ≤ c ∧ c ≤ 57
          · obtain ⟨h48, h57⟩ := hdig
            by_cases h9 : af = 9
            · have HN : Hid (pn = none) := hbad (by rw [HST.out, if_neg (by simp), if_pos (by right; right; left; exact ⟨rfl, h9⟩)])
              clear hbad
              go_wp2
              go_ret2
              exact ⟨by rw [HN.out]; exact rAns_none, Below.refl _ _⟩
            · have HR2 := HRUN.out (some ⟨wh, 10 * re + (c - 48), true, af + 1⟩) (by rw [HST.out, if_neg (by simp), if_neg (by simp; omega), if_pos rfl])
              have HR3 := Lib.hid HR2
              have HRE2 : Hid (10 * re + (c - 48) < 10 ^ (af + 1)) := by
                have := HRE.out
                show _ < _
                rw [Nat.pow_succ]; omega
              have h8 : af ≤ 8 := by omega
              have h9' : ((af : Int) == 9) = false := by rw [beq_eq_false_iff_ne]; omega
              clear HR2 hbad h9
              go_wp2
              go_round
              case rel => exact ⟨k + 1, wh, 10 * re + (c - 48), af + 1, true, by omega, rfl, by go_num, rfl, by go_num, by go_num, HR3, hwh, HRE2, by omega⟩
              case measure => simp [intOf]; omega
          · have HN : Hid (pn = none) := hbad (by rw [HST.out, if_neg (by simp), if_pos (by omega)])
            have hout : c < 48 ∨ 57 < c := by omega
            clear hbad hdig
            cases h9b : ((af : Int) == 9)
            all_goals rcases hout with hout | hout
            all_goals
              go_wp2
              all_goals
                go_ret2
                exact ⟨by rw [HN.out]; exact rAns_none, Below.refl _ _⟩
      · have e : k = s.length := by omega
        have hrun : runP s ⟨0, 0, false, 0⟩ = some ⟨wh, re, pt, af⟩ := by
          have := HR.out
          rwa [e, List.take_length] at this
        have HRN := Lib.hid hrun
        clear hrun e HR
        go_wp2
        go_loop [5, 7] (fun v5 v7 => ∃ (j x : Nat), af + j ≤ 9 ∧ v5 = .int .i64 x ∧ v7 = .int .i64 ((af + j : Nat) : Int) ∧ Hid (x = re * 10 ^ j ∧ x < 10 ^ (af + j))) (fun _ v7 => 9 - (intOf v7).toNat)
        case atStart => exact ⟨0, re, by omega, rfl, rfl, by show _ = _ ∧ _ < _; exact ⟨by simp, HRE.out⟩⟩
        case round =>
          obtain ⟨j, x, haj, rfl, rfl, HX⟩ := hrel
          have hx9 : x < 1000000000 := Nat.lt_of_lt_of_le HX.out.2 (Nat.pow_le_pow_right (by decide) haj)
          by_cases hlt9 : af + j < 9
          · have HX2 : Hid (x * 10 = re * 10 ^ (j + 1) ∧ x * 10 < 10 ^ (af + (j + 1))) := by
              obtain ⟨h1, h2⟩ := HX.out
              refine ⟨by rw [h1, Nat.pow_succ, Nat.mul_assoc], ?_⟩
              rw [← Nat.add_assoc, Nat.pow_succ]; omega
            go_wp2
            go_round
            case rel => exact ⟨j + 1, x * 10, by omega, by go_num, by go_num, HX2⟩
            case measure => simp [intOf]; omega
          · have hj : j = 9 - af := by omega
            have hxv : x = re * 10 ^ (9 - af) := by rw [HX.out.1, hj]
            have hval : ∀ t, pn = some t → wh ≤ 1125899 ∧ ((wh * 1000000000 + x : Nat) : Int) = t := by
              intro t ht
              obtain ⟨-, st, hst, -, hw, hv⟩ := HC.out t ht
              rw [HRN.out] at hst
              cases hst
              exact ⟨hw, by rw [hxv]; exact hv⟩
            have HVAL := Lib.hid hval
            clear hval hxv hj
            by_cases hwb : 1125899 < wh
            · have hpn : pn = none := by
                cases hp : pn with
                | none => rfl
                | some t => have := (HVAL.out t hp).1; omega
              have HN := Lib.hid hpn
              clear hpn
              go_wp2
              go_ret2
              exact ⟨by rw [HN.out]; exact rAns_none, Below.refl _ _⟩
            · obtain ⟨u, hu⟩ : ∃ u : Int, u = (wh : Int) * 1000000000 + (x : Int) := ⟨_, rfl⟩
              have hu0 : 0 ≤ u := by omega
              have hval2 : ∀ t, pn = some t → u = t := fun t ht => by have := (HVAL.out t ht).2; omega
              have HV2 := Lib.hid hval2
              have hcalc : (wh : Int) * 1000000000 + (x : Int) = u := hu.symm
              have hu2 : u ≤ 9000000000000000000 := by omega
              clear hval2 hu
              by_cases hbig : u ≤ 1125899906842624
              · have HTX := Lib.hid (fun W => rtext_any u W hu0 hbig)
                by_cases hs : textL u = s
                · have hs' : (textL u == s) = true := by simp [hs]
                  have HN := Lib.hid (HP.out u hu0 hbig hs)
                  clear hs
                  generalize textL u = tx at *
                  go_wp2_with (first | (go_at_call 11; refine (refRight_yes _ _ hu0 hbig).mono ?_; rintro e w' ⟨rfl, rfl⟩) | (go_at_call 27; refine (HTX.out _).mono ?_; rintro e w2 ⟨rfl, hb2⟩))
                  go_ret2
                  exact ⟨⟨u, true, rfl, by rw [HN.out]; rfl, HV2.out⟩, hb2⟩
                · have hs' : (textL u == s) = false := by simp [hs]
                  have hpn : pn = none := by
                    cases hp : pn with
                    | none => rfl
                    | some t =>
                      have e1 := HV2.out t hp
                      have e2 := (HQ.out t hp).2
                      rw [← e1] at e2
                      exact absurd e2 hs
                  have HN := Lib.hid hpn
                  clear hs hpn
                  generalize textL u = tx at *
                  go_wp2_with (first | (go_at_call 11; refine (refRight_yes _ _ hu0 hbig).mono ?_; rintro e w' ⟨rfl, rfl⟩) | (go_at_call 27; refine (HTX.out _).mono ?_; rintro e w2 ⟨rfl, hb2⟩))
                  go_ret2
                  exact ⟨⟨u, false, rfl, by rw [HN.out]; rfl, HV2.out⟩, hb2⟩
              · have hbig' : 1125899906842624 < u := by omega
                have hpn : pn = none := by
                  cases hp : pn with
                  | none => rfl
                  | some t =>
                    have e1 := HV2.out t hp
                    have e2 := (HQ.out t hp).1.2
                    omega
                have HN := Lib.hid hpn
                clear hpn hbig
                go_wp2_with (go_at_call 11; refine (refRight_big _ _ hu0 hbig').mono ?_; rintro e w' ⟨rfl, rfl⟩)
                go_ret2
                exact ⟨⟨u, false, rfl, by rw [HN.out]; rfl, HV2.out⟩, Below.refl _ _⟩
  · have hpn : pn = none := by
      cases hp : pn with
      | none => rfl
      | some t => exact absurd (HC.out t hp).1 hl
    subst hpn
    have hl' : 20 < s.length := by omega
    clear hl
    go_enter Tryd.func29, Tryd.ntmps29
    go_wp2
    go_ret2
    exact ⟨rAns_none, Below.refl _ _⟩

end Go.Proofs.YtcedkaafdblboaaDoor
