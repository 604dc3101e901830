/- The ceiling of entrants and its reference as plain arithmetic: they agree. -/
import Derived.Test.YtgobepjodkggoaaDoorFn
namespace Go.Proofs.YtgobepjodkggoaaDoor.Pu
open Go Go.Proofs Go.Proofs.YtgobepjodkggoaaDoor.Ai Go.Proofs.YtgobepjodkggoaaDoor.Dt Go.Proofs.YtgobepjodkggoaaDoor.Fn
set_option maxRecDepth 100000

theorem wrap64 {x : Int} (h1 : -9223372036854775808 ≤ x) (h2 : x < 9223372036854775808) : IntKind.i64.wrap x = x := by
  simp only [IntKind.wrap, IntKind.signed, IntKind.bits, Bool.true_and]
  have e : (2 : Int) ^ (64 - 1) = 9223372036854775808 := by decide
  split <;> rename_i h
  · have h : x % 2 ^ 64 ≥ 2 ^ (64 - 1) := of_decide_eq_true h
    rw [e] at h
    omega
  · have h : ¬ x % 2 ^ 64 ≥ 2 ^ (64 - 1) := of_decide_eq_false (Bool.eq_false_iff.mpr h)
    rw [e] at h
    omega

theorem known_true : bandplanlaw32_known.f 60 = some true := by kernel_rfl

theorem idx_nat {α : Type} (l : List α) (i : Nat) (h : i < l.length) : idx l (i : Int) = some l[i] := by
  unfold idx
  rw [if_pos (by omega)]
  simp [h]

theorem red_eq (h p : Int) : score_Reduction.f h p = bandplanref28_Reduction.f h p ∧ ∃ r, score_Reduction.f h p = some r := by
  unfold score_Reduction.f bandplanref28_Reduction.f bandplanref28_Home.f
  by_cases h1 : h < 1
  · have h2 : ¬ h ≥ 1 := by omega
    simp [h1, h2]
  · by_cases h2 : h > 3
    · have h3 : h ≥ 1 := by omega
      have h4 : ¬ h ≤ 3 := by omega
      simp [h1, h2, h3, h4]
    · have h3 : h ≥ 1 := by omega
      have h4 : h ≤ 3 := by omega
      by_cases h5 : p < 0
      · simp [h1, h2, h3, h4, h5]
      · by_cases h6 : p > h
        · simp [h1, h2, h3, h4, h5, h6]
        · have hh : h = 1 ∨ h = 2 ∨ h = 3 := by omega
          have hp : p = 0 ∨ p = 1 ∨ p = 2 ∨ p = 3 := by omega
          rcases hh with rfl | rfl | rfl <;> rcases hp with rfl | rfl | rfl | rfl <;> first
            | (exfalso; omega)
            | exact ⟨by decide, _, rfl⟩

theorem offer_eq (v o h p : Int) : score_Offer.f v o h p = bandplanref28_Offer.f v o h p ∧ ∃ r, score_Offer.f v o h p = some r := by
  obtain ⟨e, r, hr⟩ := red_eq h p
  unfold score_Offer.f bandplanref28_Offer.f score_prices.f score_prices_1.f
  rw [← e, hr]
  by_cases hr2 : r.2 = 0
  · by_cases h1 : v ≥ 1
    · by_cases h2 : v ≤ 1000000
      · by_cases h3 : o ≥ 0
        · by_cases h4 : o ≤ 1000000000
          · have n1 : ¬ v < 1 := by omega
            have n2 : ¬ v > 1000000 := by omega
            have n3 : ¬ o < 0 := by omega
            have n4 : ¬ o > 1000000000 := by omega
            simp [hr, hr2, h1, h2, h3, h4, n1, n2, n3, n4]
          · have n1 : ¬ v < 1 := by omega
            have n2 : ¬ v > 1000000 := by omega
            have n3 : ¬ o < 0 := by omega
            have n4 : o > 1000000000 := by omega
            simp [hr, h1, h2, h3, h4, n1, n2, n3, n4]
        · have n1 : ¬ v < 1 := by omega
          have n2 : ¬ v > 1000000 := by omega
          have n3 : o < 0 := by omega
          simp [hr, h1, h2, h3, n1, n2, n3]
      · have n1 : ¬ v < 1 := by omega
        have n2 : v > 1000000 := by omega
        simp [hr, h1, h2, n1, n2]
    · have n1 : v < 1 := by omega
      simp [hr, h1, n1]
  · by_cases h1 : v ≥ 1 <;> by_cases h2 : v ≤ 1000000 <;> by_cases h3 : o ≥ 0 <;> simp [hr, hr2, h1, h2, h3]

theorem sum_eq (l : List S_api_Entrant) (o : Int) : ∀ (k : Nat) (s : Int × Int), outcome_Ceiling.l0 l o k s = bandplanref32_Ceiling.l0 l o k s := by
  intro k
  induction k with
  | zero => intro s; rfl
  | succ k ih =>
    intro ⟨x, i⟩
    unfold outcome_Ceiling.l0 bandplanref32_Ceiling.l0
    by_cases h : i < ((l.map S_api_Entrant.enc).length : Int)
    · simp only [if_pos h]
      cases hy : idx l i with
      | none => simp
      | some y => simp only [Option.bind_some, (offer_eq _ _ _ _).1, ih]
    · simp only [if_neg h]

theorem sum_some (l : List S_api_Entrant) (o : Int) (hl : l.length ≤ 40) : ∀ (k i : Nat) (x : Int), i ≤ l.length → l.length - i < k → ∃ r, outcome_Ceiling.l0 l o k (x, (i : Int)) = some r := by
  intro k
  induction k with
  | zero => intro i x _ h; omega
  | succ k ih =>
    intro i x hi hk
    unfold outcome_Ceiling.l0
    simp only [List.length_map]
    by_cases h : i < l.length
    · have h' : (i : Int) < (l.length : Int) := by omega
      rw [if_pos h', idx_nat l i h]
      obtain ⟨_, r, hr⟩ := offer_eq l[i].f_Volume o l[i].f_Home 0
      simp only [Option.bind_some, hr]
      rw [wrap64 (x := (i : Int) + 1) (by omega) (by omega)]
      exact ih (i + 1) _ (by omega) (by omega)
    · have h' : ¬ (i : Int) < (l.length : Int) := by omega
      rw [if_neg h']
      exact ⟨_, rfl⟩

theorem valid_eq (l : List S_api_Entrant) (hl : l.length ≤ 40) : ∀ (k i : Nat) (p : Int), i ≤ l.length → l.length - i < k → (i = 0 → p = -1) → (∀ j, i = j + 1 → ∃ hj : j < l.length, p = l[j].f_Station ∧ 0 ≤ p) →
    ∃ o, reverse_Valid.l0 l k (p, (i : Int)) = some o ∧ bandplanref31_Valid.l0 l k (i : Int) = some o := by
  intro k
  induction k with
  | zero => intro i p _ h; omega
  | succ k ih =>
    intro i p hi hk h0 h1
    unfold reverse_Valid.l0 bandplanref31_Valid.l0
    simp only [List.length_map]
    by_cases h : i < l.length
    · have h' : (i : Int) < (l.length : Int) := by omega
      simp only [if_pos h', idx_nat l i h, Option.bind_some]
      rw [wrap64 (x := (i : Int) + 1) (by omega) (by omega)]
      have prev : (if (i : Int) > 0 then (idx l (IntKind.i64.wrap ((i : Int) - 1))).bind fun y10 => some (decide (l[i].f_Station ≤ y10.f_Station)) else some false) = some (decide (0 ≤ l[i].f_Station ∧ l[i].f_Station ≤ p)) ∨ l[i].f_Station < 0 := by
        by_cases hs : l[i].f_Station < 0
        · exact .inr hs
        · refine .inl ?_
          cases i with
          | zero =>
            have := h0 rfl
            rw [if_neg (by omega)]
            congr 1
            exact (decide_eq_false (by omega)).symm
          | succ j =>
            obtain ⟨hj, hp, hp0⟩ := h1 j rfl
            rw [if_pos (by omega), wrap64 (by omega) (by omega)]
            have e : ((j + 1 : Nat) : Int) - 1 = (j : Int) := by omega
            rw [e, idx_nat l j hj, Option.bind_some, ← hp]
            congr 1
            exact decide_eq_decide.2 ⟨fun h => ⟨by omega, h⟩, fun h => h.2⟩
      have hp1 : -1 ≤ p := by
        cases i with
        | zero => have := h0 rfl; omega
        | succ j => obtain ⟨_, _, h⟩ := h1 j rfl; omega
      have step : ∃ o, reverse_Valid.l0 l k (l[i].f_Station, (i : Int) + 1) = some o ∧ bandplanref31_Valid.l0 l k ((i : Int) + 1) = some o ∨ l[i].f_Station < 0 := by
        by_cases hs : l[i].f_Station < 0
        · exact ⟨.inr (), .inr hs⟩
        · obtain ⟨o, g1, g2⟩ := ih (i + 1) l[i].f_Station (by omega) (by omega) (fun e => by omega) (fun j e => ⟨by omega, by
            have : j = i := by omega
            subst this; exact ⟨rfl, by omega⟩⟩)
          exact ⟨o, .inl ⟨g1, g2⟩⟩
      by_cases s1 : l[i].f_Station < 0
      · have s2 : l[i].f_Station ≤ p := by omega
        exact ⟨_, by simp only [if_pos s2, Option.bind_some]; rfl, by simp only [if_pos s1, Option.bind_some]; rfl⟩
      · have prev := prev.resolve_right s1
        obtain ⟨o, st⟩ := step
        have st := st.resolve_right s1
        by_cases s2 : l[i].f_Station ≤ p
        · have prev' : decide (0 ≤ l[i].f_Station ∧ l[i].f_Station ≤ p) = true := decide_eq_true ⟨by omega, s2⟩
          rw [prev'] at prev
          refine ⟨.inl (l[i].f_Station, l[i].f_Home, l[i].f_Volume), by simp [s2], ?_⟩
          simp only [if_neg s1, prev]
          by_cases a1 : l[i].f_Station > 511 <;> by_cases a2 : l[i].f_Home < 1 <;> by_cases a3 : l[i].f_Home > 3 <;> by_cases a4 : l[i].f_Volume < 1 <;> by_cases a5 : l[i].f_Volume > 1000000 <;>
            simp [a1, a2, a3, a4, a5]
        · have prev' : decide (0 ≤ l[i].f_Station ∧ l[i].f_Station ≤ p) = false := decide_eq_false (fun h => s2 h.2)
          rw [prev'] at prev
          by_cases a1 : l[i].f_Station > 511
          · have b1 : l[i].f_Station ≥ 512 := by omega
            exact ⟨.inl (l[i].f_Station, l[i].f_Home, l[i].f_Volume), by simp [s2, b1], by simp [s1, a1]⟩
          · have b1 : ¬ l[i].f_Station ≥ 512 := by omega
            by_cases a2 : l[i].f_Home < 1
            · exact ⟨.inl (l[i].f_Station, l[i].f_Home, l[i].f_Volume), by simp [s2, b1, a2], by simp [s1, a1, a2]⟩
            · by_cases a3 : l[i].f_Home > 3
              · exact ⟨.inl (l[i].f_Station, l[i].f_Home, l[i].f_Volume), by simp [s2, b1, a2, a3], by simp [s1, a1, a2, a3]⟩
              · by_cases a4 : l[i].f_Volume < 1
                · exact ⟨.inl (l[i].f_Station, l[i].f_Home, l[i].f_Volume), by simp [s2, b1, a2, a3, a4], by simp [s1, a1, a2, a3, a4]⟩
                · by_cases a5 : l[i].f_Volume > 1000000
                  · exact ⟨.inl (l[i].f_Station, l[i].f_Home, l[i].f_Volume), by simp [s2, b1, a2, a3, a4, a5], by simp [s1, a1, a2, a3, a4, a5]⟩
                  · refine ⟨o, ?_, ?_⟩
                    · simp only [if_neg s2, if_neg b1, if_neg a2, if_neg a3, if_neg a4, decide_eq_false a5, Option.bind_some]
                      exact st.1
                    · simp only [if_neg s1, if_neg a1, if_neg a2, if_neg a3, if_neg a4, if_neg a5, prev, Option.bind_some]
                      exact st.2
    · have h' : ¬ (i : Int) < (l.length : Int) := by omega
      exact ⟨.inr (), by rw [if_neg h'], by rw [if_neg h']⟩

theorem good_eq (l : List S_api_Entrant) (o : Int) (hl : l.length ≤ 40) : outcome_good.f 60 l o = bandplanref32_Good.f 60 l o ∧ ∃ b, outcome_good.f 60 l o = some b := by
  obtain ⟨r, h1, h2⟩ := valid_eq l hl 60 0 (-1) (by omega) (by omega) (fun _ => rfl) (fun j e => by omega)
  have h1 : reverse_Valid.l0 l 60 (-1, 0) = some r := h1
  have h2 : bandplanref31_Valid.l0 l 60 0 = some r := h2
  unfold outcome_good.f bandplanref32_Good.f reverse_Valid.f bandplanref31_Valid.f
  rw [h1, h2]
  rcases r with ⟨a, b, c⟩ | _ <;> by_cases g : o ≥ 1 <;> simp [g]

theorem law_ceiling (l : List S_api_Entrant) (o : Int) : bandplanlaw32_OutcomeCeiling.f 60 l o = some true := by
  unfold bandplanlaw32_OutcomeCeiling.f
  simp only [List.length_map]
  by_cases h : (l.length : Int) > 40
  · simp [h, known_true]
  · have hl : l.length ≤ 40 := by omega
    obtain ⟨e, b, hb⟩ := good_eq l o hl
    obtain ⟨r, hr⟩ := sum_some l o hl 60 0 0 (by omega) (by omega)
    have hr : outcome_Ceiling.l0 l o 60 (0, 0) = some r := hr
    have hr2 := hr
    rw [sum_eq] at hr2
    have e1 : outcome_Ceiling.f 60 l o = bandplanref32_Ceiling.f 60 l o ∧ ∃ r, outcome_Ceiling.f 60 l o = some r := by
      unfold outcome_Ceiling.f bandplanref32_Ceiling.f
      rw [← e, hb, hr, hr2]
      cases b <;> simp
    obtain ⟨e2, q, hq⟩ := e1
    rw [if_neg h, ← e2, hq]
    simp [known_true]
end Go.Proofs.YtgobepjodkggoaaDoor.Pu
