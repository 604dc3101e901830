/- Valid outcomes: code and reference as one plain fact. -/
import Derived.Test.YtgobepjodkggoaaDoorPuBands
namespace Go.Proofs.YtgobepjodkggoaaDoor.Pu
open Go Go.Proofs Go.Proofs.YtgobepjodkggoaaDoor.Ai Go.Proofs.YtgobepjodkggoaaDoor.Dt Go.Proofs.YtgobepjodkggoaaDoor.Fn
set_option maxRecDepth 100000

/-- The index of the first winner of a station. -/
def wAt (l : List S_api_Winner) (st : Int) : Option Int := first (fun i => if decide ((l.getD i default).f_Station = st) = true then some (i : Int) else none) l.length 0

theorem find_ok (l : List S_api_Winner) (hl : l.length ≤ 1000) (k : Nat) (hk : l.length + 1 ≤ k) (st : Int) : outcome_find.f k l st = some ((wAt l st).getD (-1)) := by
  have h := index_ok l hl (fun y0 => outcome_find_1.f y0 st) (fun i => decide ((l.getD i default).f_Station = st)) (fun i hi => by
    have : l[i] = l.getD i default := by simp [List.getD, hi]
    rw [this]
    unfold outcome_find_1.f
    generalize l.getD i default = y
    by_cases e : y.f_Station = st
    · rw [decide_eq_true e, beq_iff_eq.2 e]
    · rw [decide_eq_false e, beq_eq_false_iff_ne.2 e]) k hk
  unfold outcome_find.f
  rw [h]
  unfold wAt
  cases first (fun i => if decide ((l.getD i default).f_Station = st) = true then some (i : Int) else none) l.length 0 <;> rfl

theorem winner_ok (l : List S_api_Winner) (hl : l.length ≤ 1000) (k : Nat) (hk : l.length + 1 ≤ k) (st : Int) : bandplanref32_Winner.f k l st = some ((wAt l st).getD (-1)) := by
  let g : Nat → S_api_Winner := fun i => l.getD i default
  let bb : Nat → Option Int := fun i => if decide ((g i).f_Station = st) = true then some (i : Int) else none
  have sg : ∀ i (h : i < l.length), l[i] = g i := fun i h => by simp [g, List.getD, h]
  have main := loop_first (L := bandplanref32_Winner.l0 l st) (σ := fun i => (i : Int)) (b := bb) (e := ()) (n := l.length) (m := 0)
    (fun k i hi _ _ => by
      show bandplanref32_Winner.l0 l st (k + 1) (i : Int) = _
      rw [bandplanref32_Winner.l0]
      simp only [List.length_map, if_pos (lt_cast hi), idxn l i hi, Option.bind_some, succ_cast hl hi, sg i hi, bb]
      by_cases c1 : (g i).f_Station = st <;> simp [c1])
    (fun k _ => by
      show bandplanref32_Winner.l0 l st (k + 1) (l.length : Int) = _
      rw [bandplanref32_Winner.l0]
      simp only [List.length_map, if_neg nlt_cast])
    l.length 0 k (by omega) (by omega) (fun q h => by omega)
  have main : bandplanref32_Winner.l0 l st k 0 = _ := main
  unfold bandplanref32_Winner.f
  rw [main]
  show _ = some ((first bb l.length 0).getD (-1))
  cases first bb l.length 0 <;> rfl

theorem has_ok (l : List Int) (hl : l.length ≤ 1000) (k : Nat) (hk : l.length + 1 ≤ k) (st : Int) : ∃ b, bandplanref32_Has.f k l st = some b ∧ (b = true ↔ ∃ i, i < l.length ∧ l.getD i 0 = st) := by
  let s : Nat → Int := fun i => l.getD i 0
  let bb : Nat → Option Unit := fun i => if s i = st then some () else none
  have sg : ∀ i (h : i < l.length), l[i] = s i := fun i h => by simp [s, List.getD, h]
  have main := loop_first (L := bandplanref32_Has.l0 l st) (σ := fun i => (i : Int)) (b := bb) (e := ()) (n := l.length) (m := 0)
    (fun k i hi _ _ => by
      show bandplanref32_Has.l0 l st (k + 1) (i : Int) = _
      rw [bandplanref32_Has.l0]
      simp only [List.length_map, if_pos (lt_cast hi), idxn l i hi, Option.bind_some, succ_cast hl hi, sg i hi, bb]
      by_cases c1 : s i = st <;> simp [c1])
    (fun k _ => by
      show bandplanref32_Has.l0 l st (k + 1) (l.length : Int) = _
      rw [bandplanref32_Has.l0]
      simp only [List.length_map, if_neg nlt_cast])
    l.length 0 k (by omega) (by omega) (fun q h => by omega)
  have main : bandplanref32_Has.l0 l st k 0 = _ := main
  unfold bandplanref32_Has.f
  rw [main]
  cases hf : first bb l.length 0 with
  | none =>
    refine ⟨false, rfl, ?_⟩
    simp only [Bool.false_eq_true, false_iff]
    rintro ⟨i, hi, e⟩
    have := (first_none.1 hf) i (by omega) (by omega)
    have e' : s i = st := e
    simp only [bb, if_pos e'] at this
    cases this
  | some u =>
    refine ⟨true, rfl, ?_⟩
    simp only [true_iff]
    refine Classical.byContradiction fun h => ?_
    have : first bb l.length 0 = none := first_none.2 fun q _ hq => by
      have : ¬ s q = st := fun e => h ⟨q, by omega, e⟩
      simp only [bb, if_neg this]
    rw [this] at hf; cases hf

theorem wAt_none (l : List S_api_Winner) (st : Int) : (wAt l st).getD (-1) < 0 ↔ ¬ ∃ i, i < l.length ∧ (l.getD i default).f_Station = st := by
  unfold wAt
  cases hf : first (fun i => if decide ((l.getD i default).f_Station = st) = true then some (i : Int) else none) l.length 0 with
  | none =>
    refine ⟨fun _ => ?_, fun _ => by simp⟩
    rintro ⟨i, hi, e⟩
    have := (first_none.1 hf) i (by omega) (by omega)
    rw [if_pos (decide_eq_true e)] at this
    cases this
  | some u =>
    have gen : ∀ j i u, first (fun i => if decide ((l.getD i default).f_Station = st) = true then some (i : Int) else none) j i = some u → 0 ≤ u ∧ ∃ q, q < i + j ∧ (l.getD q default).f_Station = st := by
      intro j
      induction j with
      | zero => intro i u h; simp [first] at h
      | succ j ih =>
        intro i u h
        simp only [first] at h
        split at h
        · rename_i a ha
          split at ha
          · rename_i c
            obtain rfl := Option.some.inj ha
            obtain rfl := Option.some.inj h
            exact ⟨by omega, i, by omega, of_decide_eq_true c⟩
          · cases ha
        · obtain ⟨h1, q, h2, h3⟩ := ih _ _ h
          exact ⟨h1, q, by omega, h3⟩
    obtain ⟨h1, q, h2, h3⟩ := gen _ _ _ hf
    refine ⟨fun h => ?_, fun h => absurd ⟨q, by omega, h3⟩ h⟩
    simp at h; omega

/-- What is asked of winners and exited stations, given the bands. -/
def Fit (a : S_api_Outcome) : Prop :=
  (∀ i, i < a.f_Winners.length → (bandAt a.f_Assignment (a.f_Winners.getD i default).f_Station).getD 0 = (a.f_Winners.getD i default).f_Option) ∧
  (∀ i, i < a.f_Exited.length → (bandAt a.f_Assignment (a.f_Exited.getD i 0)).getD 0 ≠ 0) ∧
  ∀ i j, i < a.f_Winners.length → j < a.f_Exited.length → (a.f_Winners.getD i default).f_Station ≠ a.f_Exited.getD j 0

def Small (a : S_api_Outcome) : Prop := a.f_Winners.length ≤ 100 ∧ a.f_Exited.length ≤ 100 ∧ a.f_Assignment.length ≤ 100

theorem code_fit (a : S_api_Outcome) (ha : Small a) (m : List (Int × Int)) (hm : ∀ st, mget m st = bandAt a.f_Assignment st) :
    ∃ b : Bool, ((outcome_Valid.l0 a m 300 0).bind fun o => match o with | (.inl (x12, x13, x14)) => some false | (.inr _) => ((outcome_Valid.l1 a m 300 0).bind fun o => match o with | (.inl _) => some false | (.inr _) => some true)) = some b ∧ (b = true ↔ Fit a) := by
  obtain ⟨h1, h2, h3⟩ := ha
  let g : Nat → S_api_Winner := fun i => a.f_Winners.getD i default
  let s : Nat → Int := fun i => a.f_Exited.getD i 0
  have sg : ∀ i (h : i < a.f_Winners.length), a.f_Winners[i] = g i := fun i h => by simp [g, List.getD, h]
  have ss : ∀ i (h : i < a.f_Exited.length), a.f_Exited[i] = s i := fun i h => by simp [s, List.getD, h]
  let b0 : Nat → Option (Int × Int × Int) := fun i => if ¬ (bandAt a.f_Assignment (g i).f_Station).getD 0 = (g i).f_Option then some ((g i).f_Station, (g i).f_Option, (g i).f_Payment) else none
  let b1 : Nat → Option Unit := fun i => if (bandAt a.f_Assignment (s i)).getD 0 = 0 ∨ (wAt a.f_Winners (s i)).getD (-1) ≥ 0 then some () else none
  have m0 := loop_first (L := outcome_Valid.l0 a m) (σ := fun i => (i : Int)) (b := b0) (e := ()) (n := a.f_Winners.length) (m := 0)
    (fun k i hi _ _ => by
      show outcome_Valid.l0 a m (k + 1) (i : Int) = _
      rw [outcome_Valid.l0]
      simp only [List.length_map, if_pos (lt_cast hi), idxn _ i hi, Option.bind_some, succ_cast (by omega : a.f_Winners.length ≤ 1000) hi, sg i hi, hm, b0]
      by_cases c1 : (bandAt a.f_Assignment (g i).f_Station).getD 0 = (g i).f_Option <;> simp [c1])
    (fun k _ => by
      show outcome_Valid.l0 a m (k + 1) (a.f_Winners.length : Int) = _
      rw [outcome_Valid.l0]
      simp only [List.length_map, if_neg nlt_cast])
    a.f_Winners.length 0 300 (by omega) (by omega) (fun q h => by omega)
  have m0 : outcome_Valid.l0 a m 300 0 = _ := m0
  have m1 := loop_first (L := outcome_Valid.l1 a m) (σ := fun i => (i : Int)) (b := b1) (e := ()) (n := a.f_Exited.length) (m := 101)
    (fun k i hi hk _ => by
      show outcome_Valid.l1 a m (k + 1) (i : Int) = _
      rw [outcome_Valid.l1]
      simp only [List.length_map, if_pos (lt_cast hi), idxn _ i hi, Option.bind_some, succ_cast (by omega : a.f_Exited.length ≤ 1000) hi, ss i hi, hm, find_ok a.f_Winners (by omega) k (by omega), b1]
      by_cases c1 : (bandAt a.f_Assignment (s i)).getD 0 = 0
      · simp [c1]
      · by_cases c2 : (wAt a.f_Winners (s i)).getD (-1) ≥ 0 <;> simp [c1, c2])
    (fun k _ => by
      show outcome_Valid.l1 a m (k + 1) (a.f_Exited.length : Int) = _
      rw [outcome_Valid.l1]
      simp only [List.length_map, if_neg nlt_cast])
    a.f_Exited.length 0 300 (by omega) (by omega) (fun q h => by omega)
  have m1 : outcome_Valid.l1 a m 300 0 = _ := m1
  rw [m0, m1]
  have i0 : first b0 a.f_Winners.length 0 = none ↔ ∀ i, i < a.f_Winners.length → (bandAt a.f_Assignment (g i).f_Station).getD 0 = (g i).f_Option := by
    rw [first_none]
    constructor
    · intro h i hi
      have := h i (by omega) (by omega)
      simp only [b0] at this
      split at this
      · cases this
      · rename_i c; exact Decidable.of_not_not c
    · intro h i _ hi
      have := h i (by omega)
      simp only [b0]
      rw [if_neg (fun c => c this)]
  have i1 : first b1 a.f_Exited.length 0 = none ↔ ∀ i, i < a.f_Exited.length → (bandAt a.f_Assignment (s i)).getD 0 ≠ 0 ∧ ¬ ∃ j, j < a.f_Winners.length ∧ (g j).f_Station = s i := by
    rw [first_none]
    constructor
    · intro h i hi
      have := h i (by omega) (by omega)
      simp only [b1] at this
      split at this
      · cases this
      · rename_i c
        exact ⟨fun e => c (.inl e), (wAt_none _ _).1 (by have : ¬ (wAt a.f_Winners (s i)).getD (-1) ≥ 0 := fun e => c (.inr e); omega)⟩
    · intro h i _ hi
      obtain ⟨q1, q2⟩ := h i (by omega)
      have q3 := (wAt_none a.f_Winners (s i)).2 q2
      simp only [b1]
      rw [if_neg]
      rintro (c | c)
      · exact q1 c
      · omega
  have iff : (first b0 a.f_Winners.length 0 = none ∧ first b1 a.f_Exited.length 0 = none) ↔ Fit a := by
    rw [i0, i1]
    constructor
    · rintro ⟨e1, e2⟩
      exact ⟨e1, fun i hi => (e2 i hi).1, fun i j hi hj e => (e2 j hj).2 ⟨i, hi, e⟩⟩
    · rintro ⟨e1, e2, e3⟩
      exact ⟨e1, fun i hi => ⟨e2 i hi, fun ⟨j, hj, e⟩ => e3 j i hj hi e⟩⟩
  cases f0 : first b0 a.f_Winners.length 0 with
  | some u => exact ⟨false, rfl, by simp; intro h; rw [(iff.2 h).1] at f0; cases f0⟩
  | none =>
    cases f1 : first b1 a.f_Exited.length 0 with
    | some u => exact ⟨false, rfl, by simp; intro h; rw [(iff.2 h).2] at f1; cases f1⟩
    | none => exact ⟨true, rfl, by simp; exact iff.1 ⟨f0, f1⟩⟩

theorem ref_fit (a : S_api_Outcome) (ha : Small a) :
    ∃ b : Bool, ((bandplanref32_Valid.l0 a 300 0).bind fun o => match o with | (.inl _) => some false | (.inr _) => ((bandplanref32_Valid.l1 a 300 0).bind fun o => match o with | (.inl _) => some false | (.inr _) => some true)) = some b ∧ (b = true ↔ Fit a) := by
  obtain ⟨h1, h2, h3⟩ := ha
  let g : Nat → S_api_Winner := fun i => a.f_Winners.getD i default
  let s : Nat → Int := fun i => a.f_Exited.getD i 0
  have sg : ∀ i (h : i < a.f_Winners.length), a.f_Winners[i] = g i := fun i h => by simp [g, List.getD, h]
  have ss : ∀ i (h : i < a.f_Exited.length), a.f_Exited[i] = s i := fun i h => by simp [s, List.getD, h]
  open Classical in
  let b0 : Nat → Option Unit := fun i => if ¬ (bandAt a.f_Assignment (g i).f_Station).getD 0 = (g i).f_Option ∨ (∃ j, j < a.f_Exited.length ∧ s j = (g i).f_Station) then some () else none
  let b1 : Nat → Option Unit := fun i => if (bandAt a.f_Assignment (s i)).getD 0 = 0 then some () else none
  have m0 := loop_first (L := bandplanref32_Valid.l0 a) (σ := fun i => (i : Int)) (b := b0) (e := ()) (n := a.f_Winners.length) (m := 101)
    (fun k i hi hk _ => by
      show bandplanref32_Valid.l0 a (k + 1) (i : Int) = _
      rw [bandplanref32_Valid.l0]
      obtain ⟨hb, e1, e2⟩ := has_ok a.f_Exited (by omega) k (by omega) (g i).f_Station
      simp only [List.length_map, if_pos (lt_cast hi), idxn _ i hi, Option.bind_some, succ_cast (by omega : a.f_Winners.length ≤ 1000) hi, sg i hi, on_ok a.f_Assignment (by omega) k (by omega), e1, b0]
      by_cases c1 : (bandAt a.f_Assignment (g i).f_Station).getD 0 = (g i).f_Option
      · cases hb with
        | true =>
          have := e2.1 rfl
          simp only [c1, not_true, if_false, Option.bind_some, if_true]
          rw [if_pos (.inr this)]
        | false =>
          have : ¬ ∃ j, j < a.f_Exited.length ∧ s j = (g i).f_Station := fun h => absurd (e2.2 h) Bool.false_ne_true
          simp only [c1, not_true, if_false, Option.bind_some, Bool.false_eq_true]
          rw [if_neg (fun h => h.elim id this)]
      · simp only [c1, not_false_iff, if_true, Option.bind_some, true_or])
    (fun k _ => by
      show bandplanref32_Valid.l0 a (k + 1) (a.f_Winners.length : Int) = _
      rw [bandplanref32_Valid.l0]
      simp only [List.length_map, if_neg nlt_cast])
    a.f_Winners.length 0 300 (by omega) (by omega) (fun q h => by omega)
  have m0 : bandplanref32_Valid.l0 a 300 0 = _ := m0
  have m1 := loop_first (L := bandplanref32_Valid.l1 a) (σ := fun i => (i : Int)) (b := b1) (e := ()) (n := a.f_Exited.length) (m := 101)
    (fun k i hi hk _ => by
      show bandplanref32_Valid.l1 a (k + 1) (i : Int) = _
      rw [bandplanref32_Valid.l1]
      simp only [List.length_map, if_pos (lt_cast hi), idxn _ i hi, Option.bind_some, succ_cast (by omega : a.f_Exited.length ≤ 1000) hi, ss i hi, on_ok a.f_Assignment (by omega) k (by omega), b1]
      by_cases c1 : (bandAt a.f_Assignment (s i)).getD 0 = 0 <;> simp [c1])
    (fun k _ => by
      show bandplanref32_Valid.l1 a (k + 1) (a.f_Exited.length : Int) = _
      rw [bandplanref32_Valid.l1]
      simp only [List.length_map, if_neg nlt_cast])
    a.f_Exited.length 0 300 (by omega) (by omega) (fun q h => by omega)
  have m1 : bandplanref32_Valid.l1 a 300 0 = _ := m1
  rw [m0, m1]
  have i0 : first b0 a.f_Winners.length 0 = none ↔ ∀ i, i < a.f_Winners.length → (bandAt a.f_Assignment (g i).f_Station).getD 0 = (g i).f_Option ∧ ¬ ∃ j, j < a.f_Exited.length ∧ s j = (g i).f_Station := by
    rw [first_none]
    constructor
    · intro h i hi
      have := h i (by omega) (by omega)
      simp only [b0] at this
      split at this
      · cases this
      · rename_i c; exact ⟨Decidable.of_not_not fun e => c (.inl e), fun e => c (.inr e)⟩
    · intro h i _ hi
      obtain ⟨q1, q2⟩ := h i (by omega)
      simp only [b0]
      rw [if_neg (fun c => c.elim (fun c => c q1) q2)]
  have i1 : first b1 a.f_Exited.length 0 = none ↔ ∀ i, i < a.f_Exited.length → (bandAt a.f_Assignment (s i)).getD 0 ≠ 0 := by
    rw [first_none]
    constructor
    · intro h i hi
      have := h i (by omega) (by omega)
      simp only [b1] at this
      split at this
      · cases this
      · assumption
    · intro h i _ hi
      have := h i (by omega)
      simp only [b1]
      rw [if_neg this]
  have iff : (first b0 a.f_Winners.length 0 = none ∧ first b1 a.f_Exited.length 0 = none) ↔ Fit a := by
    rw [i0, i1]
    constructor
    · rintro ⟨e1, e2⟩
      exact ⟨fun i hi => (e1 i hi).1, e2, fun i j hi hj e => (e1 i hi).2 ⟨j, hj, e.symm⟩⟩
    · rintro ⟨e1, e2, e3⟩
      exact ⟨fun i hi => ⟨e1 i hi, fun ⟨j, hj, e⟩ => e3 i j hi hj e.symm⟩, e2⟩
  cases f0 : first b0 a.f_Winners.length 0 with
  | some u => exact ⟨false, rfl, by simp; intro h; rw [(iff.2 h).1] at f0; cases f0⟩
  | none =>
    cases f1 : first b1 a.f_Exited.length 0 with
    | some u => exact ⟨false, rfl, by simp; intro h; rw [(iff.2 h).2] at f1; cases f1⟩
    | none => exact ⟨true, rfl, by simp; exact iff.1 ⟨f0, f1⟩⟩
end Go.Proofs.YtgobepjodkggoaaDoor.Pu
