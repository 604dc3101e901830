/- Lists of choices and the bands that they give: code and reference as plain facts. -/
import Derived.Test.YtgobepjodkggoaaDoorPuCost
namespace Go.Proofs.YtgobepjodkggoaaDoor.Pu
open Go Go.Proofs Go.Proofs.YtgobepjodkggoaaDoor.Ai Go.Proofs.YtgobepjodkggoaaDoor.Dt Go.Proofs.YtgobepjodkggoaaDoor.Fn
set_option maxRecDepth 100000

def COk (l : List S_api_Choice) : Prop := Rising l.length (fun i => (l.getD i default).f_Station) ∧ ∀ i, i < l.length → 2 ≤ (l.getD i default).f_Channel ∧ (l.getD i default).f_Channel ≤ 51

theorem choices_ok (l : List S_api_Choice) (hl : l.length ≤ 1000) (k : Nat) (hk : l.length + 1 ≤ k) : ∃ b, bandplanref32_Choices.f k l = some b ∧ (b = true ↔ COk l) := by
  let g : Nat → S_api_Choice := fun i => l.getD i default
  let s : Nat → Int := fun i => (g i).f_Station
  let bb : Nat → Option Unit := fun i => if s i < 0 ∨ s i > 511 ∨ (g i).f_Channel < 2 ∨ (g i).f_Channel > 51 ∨ (0 < i ∧ s i ≤ s (i - 1)) then some () else none
  have sg : ∀ i (h : i < l.length), l[i] = g i := fun i h => by simp [g, List.getD, h]
  have main := loop_first (L := bandplanref32_Choices.l0 l) (σ := fun i => (i : Int)) (b := bb) (e := ()) (n := l.length) (m := 0)
    (fun k i hi _ _ => by
      show bandplanref32_Choices.l0 l (k + 1) (i : Int) = _
      rw [bandplanref32_Choices.l0]
      simp only [List.length_map, if_pos (lt_cast hi), idxn l i hi, Option.bind_some, succ_cast hl hi, sg i hi, bb]
      have es : (g i).f_Station = s i := rfl
      rw [es]
      by_cases c1 : s i < 0
      · simp [c1]
      · by_cases c2 : s i > 511
        · simp [c1, c2]
        · by_cases c3 : (g i).f_Channel < 2
          · simp [c1, c2, c3]
          · by_cases c4 : (g i).f_Channel > 51
            · simp [c1, c2, c3, c4]
            · cases i with
              | zero => simp [c1, c2, c3, c4]
              | succ j =>
                rw [pred_cast hl hi, idxn l j (by omega), sg j (by omega)]
                have ej : (g j).f_Station = s j := rfl
                simp only [Option.bind_some]
                rw [ej]
                by_cases c7 : s (j + 1) ≤ s j
                · simp [c1, c2, c3, c4, c7]
                · simp [c1, c2, c3, c4, c7])
    (fun k _ => by
      show bandplanref32_Choices.l0 l (k + 1) (l.length : Int) = _
      rw [bandplanref32_Choices.l0]
      simp only [List.length_map, if_neg nlt_cast])
    l.length 0 k (by omega) (by omega) (fun q h => by omega)
  have main : bandplanref32_Choices.l0 l k 0 = _ := main
  unfold bandplanref32_Choices.f
  rw [main]
  have iff : first bb l.length 0 = none ↔ COk l := by
    rw [first_none]
    constructor
    · intro h
      have low : ∀ i, i < l.length → ¬ (s i < 0 ∨ s i > 511 ∨ (g i).f_Channel < 2 ∨ (g i).f_Channel > 51 ∨ (0 < i ∧ s i ≤ s (i - 1))) := fun i hi => by
        have := h i (by omega) (by omega)
        simp only [bb] at this
        split at this
        · cases this
        · assumption
      refine ⟨fun i hi => ?_, fun i hi => ?_⟩
      · have := low i hi
        refine ⟨by show 0 ≤ s i; omega, by show s i ≤ 511; omega, fun j ej => ?_⟩
        subst ej
        have e2 : j + 1 - 1 = j := by omega
        rw [e2] at this
        show s j < s (j + 1)
        omega
      · have := low i hi
        show 2 ≤ (g i).f_Channel ∧ (g i).f_Channel ≤ 51
        omega
    · intro h q _ hq
      have h1 := h.1 q (by omega)
      have h2 : 2 ≤ (g q).f_Channel ∧ (g q).f_Channel ≤ 51 := h.2 q (by omega)
      have h3 : 0 ≤ s q ∧ s q ≤ 511 := ⟨h1.1, h1.2.1⟩
      simp only [bb]
      rw [if_neg]
      intro c
      have c7 : ¬ (0 < q ∧ s q ≤ s (q - 1)) := fun c => by
        have : s (q - 1) < s q := h1.2.2 (q - 1) (by omega)
        omega
      omega
  cases hf : first bb l.length 0 with
  | none => exact ⟨true, rfl, by simp; exact iff.1 hf⟩
  | some u => exact ⟨false, rfl, by simp; intro h; rw [iff.2 h] at hf; cases hf⟩

theorem one_ok (y : S_api_Choice) : problem_ValidList_1.f y = some (decide (0 ≤ y.f_Station ∧ y.f_Station ≤ 511 ∧ 2 ≤ y.f_Channel ∧ y.f_Channel ≤ 51)) := by
  unfold problem_ValidList_1.f problem_station.f problem_span.f
  by_cases c1 : y.f_Station ≥ 0
  · by_cases c2 : y.f_Station < 512
    · have c2' : y.f_Station ≤ 511 := by omega
      by_cases c3 : y.f_Channel ≥ 2
      · simp [c1, c2, c2', c3]
      · have : ¬ 2 ≤ y.f_Channel := by omega
        simp [c1, c2, c2', this]
    · have c2' : ¬ y.f_Station ≤ 511 := by omega
      simp [c1, c2, c2']
  · have : ¬ 0 ≤ y.f_Station := by omega
    simp [this]

theorem validlist_ok (l : List S_api_Choice) (hl : l.length ≤ 1000) (k : Nat) (hk : l.length + 1 ≤ k) : ∃ b, problem_ValidList.f k l = some b ∧ (b = true ↔ COk l) := by
  let g : Nat → S_api_Choice := fun i => l.getD i default
  let s : Nat → Int := fun i => (g i).f_Station
  let good : Nat → Prop := fun i => 0 ≤ s i ∧ s i ≤ 511 ∧ 2 ≤ (g i).f_Channel ∧ (g i).f_Channel ≤ 51
  let bb : Nat → Option (Int × Int) := fun i => if ¬ (0 ≤ s i ∧ s i ≤ 511 ∧ 2 ≤ (g i).f_Channel ∧ (g i).f_Channel ≤ 51) ∨ (0 < i ∧ s i ≤ s (i - 1)) then some ((g i).f_Station, (g i).f_Channel) else none
  have sg : ∀ i (h : i < l.length), l[i] = g i := fun i h => by simp [g, List.getD, h]
  have isGood : ∀ i, bb i = none → (0 ≤ s i ∧ s i ≤ 511 ∧ 2 ≤ (g i).f_Channel ∧ (g i).f_Channel ≤ 51) ∧ ¬ (0 < i ∧ s i ≤ s (i - 1)) := fun i h => by
    simp only [bb] at h
    split at h
    · cases h
    · rename_i c; exact ⟨Decidable.of_not_not fun e => c (.inl e), fun e => c (.inr e)⟩
  have main := loop_first (L := problem_rising_api_Choice.l0 l (fun y0 => problem_ValidList_1.f y0) (fun y0 y1 => problem_ValidList_2.f y0 y1)) (σ := fun i => (i : Int)) (b := bb) (e := ()) (n := l.length) (m := 0)
    (fun k i hi _ hq => by
      show problem_rising_api_Choice.l0 l _ _ (k + 1) (i : Int) = _
      rw [problem_rising_api_Choice.l0]
      simp only [List.length_map, if_pos (lt_cast hi), idxn l i hi, Option.bind_some, succ_cast hl hi, sg i hi, one_ok, bb]
      have es : (g i).f_Station = s i := rfl
      rw [es]
      by_cases c1 : 0 ≤ s i ∧ s i ≤ 511 ∧ 2 ≤ (g i).f_Channel ∧ (g i).f_Channel ≤ 51
      · cases i with
        | zero => simp [c1]
        | succ j =>
          obtain ⟨g1, _⟩ := isGood j (hq j (by omega))
          rw [pred_cast hl hi, idxn l j (by omega), sg j (by omega)]
          have ej : (g j).f_Station = s j := rfl
          have ej2 : (g (j + 1)).f_Station = s (j + 1) := rfl
          have c0 : ((j + 1 : Nat) : Int) > 0 := by omega
          simp only [Option.bind_some, problem_ValidList_2.f, ej, ej2]
          rw [w64 (x := s j - s (j + 1)) (by omega) (by omega)]
          by_cases c7 : s (j + 1) ≤ s j
          · have c8 : s j - s (j + 1) ≥ 0 := by omega
            simp [c1, c7, c8]
          · have c8 : ¬ s j - s (j + 1) ≥ 0 := by omega
            simp [c1, c7, c8]
      · simp [c1])
    (fun k _ => by
      show problem_rising_api_Choice.l0 l _ _ (k + 1) (l.length : Int) = _
      rw [problem_rising_api_Choice.l0]
      simp only [List.length_map, if_neg nlt_cast])
    l.length 0 k (by omega) (by omega) (fun q h => by omega)
  have main : problem_rising_api_Choice.l0 l (fun y0 => problem_ValidList_1.f y0) (fun y0 y1 => problem_ValidList_2.f y0 y1) k 0 = _ := main
  unfold problem_ValidList.f problem_rising_api_Choice.f
  rw [main]
  have iff : first bb l.length 0 = none ↔ COk l := by
    rw [first_none]
    constructor
    · intro h
      refine ⟨fun i hi => ?_, fun i hi => ?_⟩
      · obtain ⟨g1, g2⟩ := isGood i (h i (by omega) (by omega))
        refine ⟨g1.1, g1.2.1, fun j ej => ?_⟩
        subst ej
        have e2 : j + 1 - 1 = j := by omega
        rw [e2] at g2
        show s j < s (j + 1)
        omega
      · obtain ⟨g1, g2⟩ := isGood i (h i (by omega) (by omega))
        exact g1.2.2
    · intro h q _ hq
      have h1 := h.1 q (by omega)
      have h2 : 2 ≤ (g q).f_Channel ∧ (g q).f_Channel ≤ 51 := h.2 q (by omega)
      have h3 : 0 ≤ s q ∧ s q ≤ 511 := ⟨h1.1, h1.2.1⟩
      simp only [bb]
      rw [if_neg]
      intro c
      rcases c with c | c
      · exact c ⟨h3.1, h3.2, h2.1, h2.2⟩
      · have : s (q - 1) < s q := h1.2.2 (q - 1) (by omega)
        omega
  cases hf : first bb l.length 0 with
  | none => exact ⟨true, rfl, by simp; exact iff.1 hf⟩
  | some u => exact ⟨false, rfl, by simp; intro h; rw [iff.2 h] at hf; cases hf⟩
end Go.Proofs.YtgobepjodkggoaaDoor.Pu
