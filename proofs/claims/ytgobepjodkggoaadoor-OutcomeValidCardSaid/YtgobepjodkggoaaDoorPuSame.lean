/- Equal lists: what the code's and the reference's comparisons tell. -/
import Derived.Test.YtgobepjodkggoaaDoorPuLawCost
namespace Go.Proofs.YtgobepjodkggoaaDoor.Pu
open Go Go.Proofs Go.Proofs.YtgobepjodkggoaaDoor.Ai Go.Proofs.YtgobepjodkggoaaDoor.Dt Go.Proofs.YtgobepjodkggoaaDoor.Fn
set_option maxRecDepth 100000

theorem eqw_loop (l m : List S_api_Winner) : ∀ (k : Nat) (i : Int), slices_Equal_api_Winner_api_Winner.l0 l m k i = bandplanref32_SameWinners.l0 l m k i := by
  intro k
  induction k with
  | zero => intro i; rfl
  | succ k ih => intro i; rw [slices_Equal_api_Winner_api_Winner.l0, bandplanref32_SameWinners.l0]; simp only [ih]

theorem eqc_loop (l m : List S_api_Choice) : ∀ (k : Nat) (i : Int), slices_Equal_api_Choice_api_Choice.l0 l m k i = bandplanref31_SameChoices.l0 l m k i := by
  intro k
  induction k with
  | zero => intro i; rfl
  | succ k ih => intro i; rw [slices_Equal_api_Choice_api_Choice.l0, bandplanref31_SameChoices.l0]; simp only [ih]

theorem eqw (l m : List S_api_Winner) (k : Nat) : slices_Equal_api_Winner_api_Winner.f k l m = bandplanref32_SameWinners.f k l m := by
  unfold slices_Equal_api_Winner_api_Winner.f bandplanref32_SameWinners.f
  rw [eqw_loop]
  rfl
theorem eqc (l m : List S_api_Choice) (k : Nat) : slices_Equal_api_Choice_api_Choice.f k l m = bandplanref31_SameChoices.f k l m := by
  unfold slices_Equal_api_Choice_api_Choice.f bandplanref31_SameChoices.f
  rw [eqc_loop]
  rfl

theorem eqw_total (l m : List S_api_Winner) (hl : l.length ≤ 1000) (k : Nat) (hk : l.length + 1 ≤ k) : ∃ b, slices_Equal_api_Winner_api_Winner.f k l m = some b ∧ (l = m → b = true) := by
  by_cases hlm : l.length = m.length
  · let g : Nat → S_api_Winner := fun i => l.getD i default
    let h : Nat → S_api_Winner := fun i => m.getD i default
    let bb : Nat → Option Unit := fun i => if ¬ (((g i).f_Station == (h i).f_Station && ((g i).f_Option == (h i).f_Option && ((g i).f_Payment == (h i).f_Payment && true))) = true) then some () else none
    have sg : ∀ i (q : i < l.length), l[i] = g i := fun i q => by simp [g, List.getD, q]
    have sh : ∀ i (q : i < m.length), m[i] = h i := fun i q => by simp [h, List.getD, q]
    have main := loop_first (L := slices_Equal_api_Winner_api_Winner.l0 l m) (σ := fun i => (i : Int)) (b := bb) (e := ()) (n := l.length) (m := 0)
      (fun k i hi _ _ => by
        show slices_Equal_api_Winner_api_Winner.l0 l m (k + 1) (i : Int) = _
        rw [slices_Equal_api_Winner_api_Winner.l0]
        simp only [List.length_map, if_pos (lt_cast hi), idxn l i hi, idxn m i (by omega : i < m.length), Option.bind_some, succ_cast hl hi, sg i hi, sh i (by omega), bb]
        split <;> rfl)
      (fun k _ => by
        show slices_Equal_api_Winner_api_Winner.l0 l m (k + 1) (l.length : Int) = _
        rw [slices_Equal_api_Winner_api_Winner.l0]
        simp only [List.length_map, if_neg nlt_cast])
      l.length 0 k (by omega) (by omega) (fun q h => by omega)
    have main : slices_Equal_api_Winner_api_Winner.l0 l m k 0 = _ := main
    unfold slices_Equal_api_Winner_api_Winner.f
    rw [main]
    have e1 : ¬ ¬ ((l.map S_api_Winner.enc).length : Int) = ((m.map S_api_Winner.enc).length : Int) := fun h => h (by simp [hlm])
    rw [if_neg e1]
    cases hf : first bb l.length 0 with
    | none => exact ⟨true, rfl, fun _ => rfl⟩
    | some u =>
      refine ⟨false, rfl, fun e => ?_⟩
      subst e
      have : first bb l.length 0 = none := first_none.2 fun q _ _ => by simp [bb, g, h]
      rw [this] at hf; cases hf
  · refine ⟨false, ?_, fun e => absurd (congrArg List.length e) hlm⟩
    unfold slices_Equal_api_Winner_api_Winner.f
    rw [if_pos (by simp; omega)]

theorem eqc_total (l m : List S_api_Choice) (hl : l.length ≤ 1000) (k : Nat) (hk : l.length + 1 ≤ k) : ∃ b, slices_Equal_api_Choice_api_Choice.f k l m = some b ∧ (l = m → b = true) := by
  by_cases hlm : l.length = m.length
  · let g : Nat → S_api_Choice := fun i => l.getD i default
    let h : Nat → S_api_Choice := fun i => m.getD i default
    let bb : Nat → Option Unit := fun i => if ¬ (((g i).f_Station == (h i).f_Station && ((g i).f_Channel == (h i).f_Channel && true)) = true) then some () else none
    have sg : ∀ i (q : i < l.length), l[i] = g i := fun i q => by simp [g, List.getD, q]
    have sh : ∀ i (q : i < m.length), m[i] = h i := fun i q => by simp [h, List.getD, q]
    have main := loop_first (L := slices_Equal_api_Choice_api_Choice.l0 l m) (σ := fun i => (i : Int)) (b := bb) (e := ()) (n := l.length) (m := 0)
      (fun k i hi _ _ => by
        show slices_Equal_api_Choice_api_Choice.l0 l m (k + 1) (i : Int) = _
        rw [slices_Equal_api_Choice_api_Choice.l0]
        simp only [List.length_map, if_pos (lt_cast hi), idxn l i hi, idxn m i (by omega : i < m.length), Option.bind_some, succ_cast hl hi, sg i hi, sh i (by omega), bb]
        split <;> rfl)
      (fun k _ => by
        show slices_Equal_api_Choice_api_Choice.l0 l m (k + 1) (l.length : Int) = _
        rw [slices_Equal_api_Choice_api_Choice.l0]
        simp only [List.length_map, if_neg nlt_cast])
      l.length 0 k (by omega) (by omega) (fun q h => by omega)
    have main : slices_Equal_api_Choice_api_Choice.l0 l m k 0 = _ := main
    unfold slices_Equal_api_Choice_api_Choice.f
    rw [main]
    have e1 : ¬ ¬ ((l.map S_api_Choice.enc).length : Int) = ((m.map S_api_Choice.enc).length : Int) := fun h => h (by simp [hlm])
    rw [if_neg e1]
    cases hf : first bb l.length 0 with
    | none => exact ⟨true, rfl, fun _ => rfl⟩
    | some u =>
      refine ⟨false, rfl, fun e => ?_⟩
      subst e
      have : first bb l.length 0 = none := first_none.2 fun q _ _ => by simp [bb, g, h]
      rw [this] at hf; cases hf
  · refine ⟨false, ?_, fun e => absurd (congrArg List.length e) hlm⟩
    unfold slices_Equal_api_Choice_api_Choice.f
    rw [if_pos (by simp; omega)]

theorem eqi_total (l m : List Int) (hl : l.length ≤ 1000) (k : Nat) (hk : l.length + 1 ≤ k) : ∃ b, slices_Equal_int_int.f k l m = some b ∧ (l = m → b = true) := by
  by_cases hlm : l.length = m.length
  · let g : Nat → Int := fun i => l.getD i default
    let h : Nat → Int := fun i => m.getD i default
    let bb : Nat → Option Unit := fun i => if ¬ (g i = h i) then some () else none
    have sg : ∀ i (q : i < l.length), l[i] = g i := fun i q => by simp [g, List.getD, q]
    have sh : ∀ i (q : i < m.length), m[i] = h i := fun i q => by simp [h, List.getD, q]
    have main := loop_first (L := slices_Equal_int_int.l0 l m) (σ := fun i => (i : Int)) (b := bb) (e := ()) (n := l.length) (m := 0)
      (fun k i hi _ _ => by
        show slices_Equal_int_int.l0 l m (k + 1) (i : Int) = _
        rw [slices_Equal_int_int.l0]
        simp only [List.length_map, if_pos (lt_cast hi), idxn l i hi, idxn m i (by omega : i < m.length), Option.bind_some, succ_cast hl hi, sg i hi, sh i (by omega), bb]
        split <;> rfl)
      (fun k _ => by
        show slices_Equal_int_int.l0 l m (k + 1) (l.length : Int) = _
        rw [slices_Equal_int_int.l0]
        simp only [List.length_map, if_neg nlt_cast])
      l.length 0 k (by omega) (by omega) (fun q h => by omega)
    have main : slices_Equal_int_int.l0 l m k 0 = _ := main
    unfold slices_Equal_int_int.f
    rw [main]
    have e1 : ¬ ¬ ((l.map (AV.int .i64)).length : Int) = ((m.map (AV.int .i64)).length : Int) := fun h => h (by simp [hlm])
    rw [if_neg e1]
    cases hf : first bb l.length 0 with
    | none => exact ⟨true, rfl, fun _ => rfl⟩
    | some u =>
      refine ⟨false, rfl, fun e => ?_⟩
      subst e
      have : first bb l.length 0 = none := first_none.2 fun q _ _ => by simp [bb, g, h]
      rw [this] at hf; cases hf
  · refine ⟨false, ?_, fun e => absurd (congrArg List.length e) hlm⟩
    unfold slices_Equal_int_int.f
    rw [if_pos (by simp; omega)]

theorem eqi_loop (a b : S_api_Outcome) : ∀ (k : Nat) (i : Int), slices_Equal_int_int.l0 a.f_Exited b.f_Exited k i = bandplanref32_Same.l0 a b k i := by
  intro k
  induction k with
  | zero => intro i; rfl
  | succ k ih => intro i; rw [slices_Equal_int_int.l0, bandplanref32_Same.l0]; simp only [ih]

theorem equal_ok (a b : S_api_Outcome) (ha : Small a) : ∃ t, outcome_Equal.f 300 a b = some t ∧ bandplanref32_Same.f 300 a b = some t ∧ (a = b → t = true) := by
  obtain ⟨h1, h2, h3⟩ := id ha
  obtain ⟨w, hw, wi⟩ := eqw_total a.f_Winners b.f_Winners (by omega) 300 (by omega)
  obtain ⟨c, hc, ci⟩ := eqc_total a.f_Assignment b.f_Assignment (by omega) 300 (by omega)
  obtain ⟨e, he, ei⟩ := eqi_total a.f_Exited b.f_Exited (by omega) 300 (by omega)
  have hr : bandplanref32_Same.f 300 a b = if e = true then (if w = true then (if c = true then some (a.f_Cost == b.f_Cost) else some false) else some false) else some false := by
    unfold slices_Equal_int_int.f at he
    unfold bandplanref32_Same.f
    rw [← eqi_loop, ← eqw, ← eqc, hw, hc]
    by_cases hl : ¬ ((a.f_Exited.map (AV.int .i64)).length : Int) = ((b.f_Exited.map (AV.int .i64)).length : Int)
    · rw [if_pos hl] at he ⊢
      obtain rfl := Option.some.inj he
      rfl
    · rw [if_neg hl] at he ⊢
      cases hx : slices_Equal_int_int.l0 a.f_Exited b.f_Exited 300 0 with
      | none => rw [hx] at he; cases he
      | some o =>
        rw [hx] at he
        cases o with
        | inl u => obtain rfl := Option.some.inj he; rfl
        | inr u => obtain rfl := Option.some.inj he; cases w <;> cases c <;> rfl
  have hq : outcome_Equal.f 300 a b = if a.f_Cost = b.f_Cost then (if w = true then (if e = true then some c else some false) else some false) else some false := by
    unfold outcome_Equal.f
    rw [hw, he, hc]
    by_cases hl : a.f_Cost = b.f_Cost
    · rw [if_pos hl, if_pos hl]; cases w <;> cases e <;> rfl
    · rw [if_neg hl, if_neg hl]; rfl
  refine ⟨decide (a.f_Cost = b.f_Cost) && w && e && c, ?_, ?_, ?_⟩
  · rw [hq]; by_cases hl : a.f_Cost = b.f_Cost <;> cases w <;> cases e <;> cases c <;> simp [hl]
  · rw [hr]; by_cases hl : a.f_Cost = b.f_Cost <;> cases w <;> cases e <;> cases c <;> simp [hl]
  · intro hab
    subst hab
    simp [wi rfl, ci rfl, ei rfl]

theorem law_valid (a b : S_api_Outcome) : bandplanlaw32_OutcomeValid.f 300 a b = some true := by
  unfold bandplanlaw32_OutcomeValid.f bandplanlaw32_small.f
  simp only [List.length_map]
  by_cases h2 : (a.f_Winners.length : Int) ≤ 20
  · by_cases h3 : (a.f_Exited.length : Int) ≤ 20
    · by_cases h4 : (a.f_Assignment.length : Int) ≤ 40
      · have ha : Small a := ⟨by omega, by omega, by omega⟩
        obtain ⟨v, e1, e2⟩ := valid_eq2 a ha
        obtain ⟨t, q1, q2, _⟩ := equal_ok a b ha
        obtain ⟨u, r1, _, r2⟩ := equal_ok a a ha
        obtain rfl := r2 rfl
        by_cases g2 : (b.f_Winners.length : Int) ≤ 20
        · by_cases g3 : (b.f_Exited.length : Int) ≤ 20
          · by_cases g4 : (b.f_Assignment.length : Int) ≤ 40
            · simp [h2, h3, h4, g2, g3, g4, e1, e2, q1, q2, r1, known_true3]
            · simp [h2, h3, h4, g2, g3, g4, known_true3]
          · simp [h2, h3, h4, g2, g3, known_true3]
        · simp [h2, h3, h4, g2, known_true3]
      · simp [h2, h3, h4, known_true3]
    · simp [h2, h3, known_true3]
  · simp [h2, known_true3]
end Go.Proofs.YtgobepjodkggoaaDoor.Pu
