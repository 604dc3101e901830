/- The law on the cost of winners and the payment of a station: true of every input. -/
import Derived.Test.YtgobepjodkggoaaDoorPuValid
namespace Go.Proofs.YtgobepjodkggoaaDoor.Pu
open Go Go.Proofs Go.Proofs.YtgobepjodkggoaaDoor.Ai Go.Proofs.YtgobepjodkggoaaDoor.Dt Go.Proofs.YtgobepjodkggoaaDoor.Fn
set_option maxRecDepth 100000

theorem valid_eq2 (a : S_api_Outcome) (ha : Small a) : ∃ b : Bool, outcome_Valid.f 300 a = some b ∧ bandplanref32_Valid.f 300 a = some b := by
  obtain ⟨h1, h2, h3⟩ := id ha
  obtain ⟨ce, cc⟩ := cost_eq a.f_Winners (by omega) 300 (by omega)
  obtain ⟨wb, hwb, wbi⟩ := winnersR_ok a.f_Winners (by omega) 300 (by omega)
  obtain ⟨r1, hr1, r1i⟩ := rising_int_ok a.f_Exited (by omega) 300 (by omega)
  obtain ⟨r2, hr2, r2i⟩ := stations_ok a.f_Exited (by omega) 300 (by omega)
  obtain ⟨c1, hc1, c1i⟩ := validlist_ok a.f_Assignment (by omega) 300 (by omega)
  obtain ⟨c2, hc2, c2i⟩ := choices_ok a.f_Assignment (by omega) 300 (by omega)
  obtain ⟨f2, hf2, f2i⟩ := ref_fit a ha
  have er : r1 = r2 := by cases r1 <;> cases r2 <;> simp_all
  have ec : c1 = c2 := by cases c1 <;> cases c2 <;> simp_all
  subst er ec
  unfold outcome_Valid.f bandplanref32_Valid.f
  rw [hwb, hr1, hr2, hc1, hc2]
  rcases cc with ⟨w, r, hs, hcost⟩ | ⟨w, hcost⟩
  · have hw : wb = true := wbi.2 w
    subst hw
    rw [hcost, hs]
    cases r1 with
    | false => by_cases e : r = a.f_Cost <;> exact ⟨false, by simp [e], by simp⟩
    | true =>
      cases c1 with
      | false => by_cases e : r = a.f_Cost <;> exact ⟨false, by simp [e], by simp⟩
      | true =>
        by_cases e : r = a.f_Cost
        · obtain ⟨m, hm, hmi⟩ := bands_ok a.f_Assignment (by omega) (c1i.1 rfl) 300 (by omega)
          obtain ⟨f1, hf1, f1i⟩ := code_fit a ha m hmi
          have ef : f1 = f2 := by cases f1 <;> cases f2 <;> simp_all
          subst ef
          refine ⟨f1, ?_, ?_⟩
          · simp only [e, hm, Option.bind_some, not_true, if_false, Bool.not_true, Bool.false_eq_true]
            exact hf1
          · simp only [e, Option.bind_some, not_true, if_false, bne_self_eq_false, Bool.false_eq_true]
            exact hf2
        · have e2 : ¬ a.f_Cost = r := fun h => e h.symm
          exact ⟨false, by simp [e], by simp [e2]⟩
  · have hw : wb = false := by
      cases wb with
      | false => rfl
      | true => exact absurd (wbi.1 rfl) w
    subst hw
    rw [hcost]
    exact ⟨false, by simp, by simp⟩
theorem payment_eq (a : S_api_Outcome) (ha : Small a) (st : Int) : ∃ r, outcome_Payment.f 300 a st = some r ∧ bandplanref32_Payment.f 300 a st = some r := by
  obtain ⟨h1, h2, h3⟩ := id ha
  obtain ⟨b, e1, e2⟩ := valid_eq2 a ha
  unfold outcome_Payment.f bandplanref32_Payment.f
  rw [e1, e2, find_ok a.f_Winners (by omega) 300 (by omega), winner_ok a.f_Winners (by omega) 300 (by omega)]
  cases b with
  | false => exact ⟨(0, 2), by simp, by simp⟩
  | true =>
    by_cases c : (wAt a.f_Winners st).getD (-1) < 0
    · exact ⟨(0, 9), by simp [c], by simp [c]⟩
    · have key : ∃ y, idx a.f_Winners ((wAt a.f_Winners st).getD (-1)) = some y := by
        unfold wAt at c ⊢
        have gen : ∀ j i u, i + j ≤ a.f_Winners.length → first (fun i => if decide ((a.f_Winners.getD i default).f_Station = st) = true then some (i : Int) else none) j i = some u → ∃ q : Nat, q < a.f_Winners.length ∧ u = (q : Int) := by
          intro j
          induction j with
          | zero => intro i u _ h; simp [first] at h
          | succ j ih =>
            intro i u hij h
            simp only [first] at h
            split at h
            · rename_i z hz
              split at hz
              · obtain rfl := Option.some.inj hz
                obtain rfl := Option.some.inj h
                exact ⟨i, by omega, rfl⟩
              · cases hz
            · exact ih _ _ (by omega) h
        cases hf : first (fun i => if decide ((a.f_Winners.getD i default).f_Station = st) = true then some (i : Int) else none) a.f_Winners.length 0 with
        | none => rw [hf] at c; simp at c
        | some u =>
          obtain ⟨q, hq, rfl⟩ := gen _ _ _ (by omega) hf
          exact ⟨_, by simp only [Option.getD_some]; exact idxn _ q hq⟩
      obtain ⟨y, hy⟩ := key
      exact ⟨(y.f_Payment, 0), by simp [c, hy], by simp [c, hy]⟩

theorem known_true3 : bandplanlaw32_known.f 300 = some true := by kernel_rfl

theorem law_cost (l : List S_api_Winner) (a : S_api_Outcome) (st : Int) : bandplanlaw32_OutcomeCost.f 300 l a st = some true := by
  unfold bandplanlaw32_OutcomeCost.f bandplanlaw32_small.f
  simp only [List.length_map]
  by_cases h1 : (l.length : Int) > 20
  · simp [h1, known_true3]
  · by_cases h2 : (a.f_Winners.length : Int) ≤ 20
    · by_cases h3 : (a.f_Exited.length : Int) ≤ 20
      · by_cases h4 : (a.f_Assignment.length : Int) ≤ 40
        · obtain ⟨ce, cc⟩ := cost_eq l (by omega) 300 (by omega)
          have ct : ∃ q, outcome_Cost.f 300 l = some q := by
            rcases cc with ⟨_, r, _, h⟩ | ⟨_, h⟩ <;> exact ⟨_, h⟩
          obtain ⟨q, hq⟩ := ct
          obtain ⟨r, e1, e2⟩ := payment_eq a ⟨by omega, by omega, by omega⟩ st
          simp [h1, h2, h3, h4, ← ce, hq, e1, e2, known_true3]
        · simp [h1, h2, h3, h4, known_true3]
      · simp [h1, h2, h3, known_true3]
    · simp [h1, h2, known_true3]
end Go.Proofs.YtgobepjodkggoaaDoor.Pu
