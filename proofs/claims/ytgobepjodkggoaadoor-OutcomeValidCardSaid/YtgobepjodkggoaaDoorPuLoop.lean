/- Loops over a list, by what they find first. -/
import Derived.Test.YtgobepjodkggoaaDoorFn
namespace Go.Proofs.YtgobepjodkggoaaDoor.Pu
open Go Go.Proofs Go.Proofs.YtgobepjodkggoaaDoor.Ai Go.Proofs.YtgobepjodkggoaaDoor.Dt Go.Proofs.YtgobepjodkggoaaDoor.Fn
set_option maxRecDepth 100000

/-- The first index from i on (of j) at which b tells something. -/
def first {A : Type} (b : Nat → Option A) : Nat → Nat → Option A
  | 0, _ => none
  | j + 1, i => match b i with
    | some a => some a
    | none => first b j (i + 1)

theorem first_none {A : Type} {b : Nat → Option A} : ∀ {j i : Nat}, first b j i = none ↔ ∀ q, i ≤ q → q < i + j → b q = none
  | 0, i => by simp only [first, true_iff]; intro q h1 h2; omega
  | j + 1, i => by
    simp only [first]
    cases hb : b i with
    | some a =>
      simp only [reduceCtorEq, false_iff]
      intro h
      rw [h i (Nat.le_refl _) (by omega)] at hb; cases hb
    | none =>
      simp only [first_none (j := j) (i := i + 1)]
      constructor
      · intro h q h1 h2
        by_cases e : q = i
        · subst e; exact hb
        · exact h q (by omega) (by omega)
      · intro h q h1 h2
        exact h q (by omega) (by omega)

/-- A loop that stops at the first index that tells something. -/
theorem loop_first {A B X : Type} {L : Nat → X → Option (Sum A B)} {σ : Nat → X} {b : Nat → Option A} {e : B} {n m : Nat}
    (h1 : ∀ k i, i < n → m ≤ k → (∀ q, q < i → b q = none) → L (k + 1) (σ i) = match b i with | some a => some (.inl a) | none => L k (σ (i + 1))) (h2 : ∀ k, (∀ q, q < n → b q = none) → L (k + 1) (σ n) = some (.inr e)) :
    ∀ j i k, i + j = n → m + j + 1 ≤ k → (∀ q, q < i → b q = none) → L k (σ i) = some (match first b j i with | some a => .inl a | none => .inr e) := by
  intro j
  induction j with
  | zero =>
    intro i k hi hk hq
    have : i = n := by omega
    subst this
    obtain ⟨k', rfl⟩ : ∃ k', k = k' + 1 := ⟨k - 1, by omega⟩
    rw [h2 k' hq]
    rfl
  | succ j ih =>
    intro i k hi hk hq
    obtain ⟨k', rfl⟩ : ∃ k', k = k' + 1 := ⟨k - 1, by omega⟩
    rw [h1 k' i (by omega) (by omega) hq]
    simp only [first]
    cases hb : b i with
    | some a => rfl
    | none => exact ih (i + 1) k' (by omega) (by omega) (fun q hq2 => by
        by_cases e : q = i
        · subst e; exact hb
        · exact hq q (by omega))

/-- A loop without a stop: what it gathers. -/
theorem loop_fold {A X : Type} {L : Nat → X → Option A} {σ : Nat → X} {r : A} {n m : Nat} (h1 : ∀ k i, i < n → m ≤ k → L (k + 1) (σ i) = L k (σ (i + 1))) (h2 : ∀ k, L (k + 1) (σ n) = some r) :
    ∀ j i k, i + j = n → m + j + 1 ≤ k → L k (σ i) = some r := by
  intro j
  induction j with
  | zero =>
    intro i k hi hk
    have : i = n := by omega
    subst this
    obtain ⟨k', rfl⟩ : ∃ k', k = k' + 1 := ⟨k - 1, by omega⟩
    exact h2 k'
  | succ j ih =>
    intro i k hi hk
    obtain ⟨k', rfl⟩ : ∃ k', k = k' + 1 := ⟨k - 1, by omega⟩
    rw [h1 k' i (by omega) (by omega)]
    exact ih (i + 1) k' (by omega) (by omega)

theorem w64 {x : Int} (h1 : -9223372036854775808 ≤ x) (h2 : x < 9223372036854775808) : IntKind.i64.wrap x = x := by
  simp only [IntKind.wrap, IntKind.signed, IntKind.bits, Bool.true_and]
  have e : (2 : Int) ^ (64 - 1) = 9223372036854775808 := by decide
  split <;> rename_i h
  · have h : x % 2 ^ 64 ≥ 2 ^ (64 - 1) := of_decide_eq_true h
    rw [e] at h
    omega
  · have h : ¬ x % 2 ^ 64 ≥ 2 ^ (64 - 1) := of_decide_eq_false (Bool.eq_false_iff.mpr h)
    rw [e] at h
    omega

theorem idxn {α : Type} (l : List α) (i : Nat) (h : i < l.length) : idx l (i : Int) = some l[i] := by
  unfold idx
  rw [if_pos (by omega)]
  simp [h]
theorem lt_cast {i n : Nat} (h : i < n) : (i : Int) < (n : Int) := by omega
theorem nlt_cast {n : Nat} : ¬ (n : Int) < (n : Int) := by omega
theorem succ_cast {i n : Nat} (hn : n ≤ 1000) (h : i < n) : IntKind.i64.wrap ((i : Int) + 1) = ((i + 1 : Nat) : Int) := by rw [w64 (by omega) (by omega)]; omega
theorem pred_cast {i n : Nat} (hn : n ≤ 1000) (h : i + 1 < n) : IntKind.i64.wrap (((i + 1 : Nat) : Int) - 1) = (i : Int) := by rw [w64 (by omega) (by omega)]; omega

/-! ### the lists of stations -/

/-- Whether numbers lie from 0 to 511 and rise. -/
def Rising (n : Nat) (s : Nat → Int) : Prop := ∀ i, i < n → 0 ≤ s i ∧ s i ≤ 511 ∧ ∀ j, i = j + 1 → s j < s i

theorem rising_int_ok (l : List Int) (hl : l.length ≤ 1000) (k : Nat) (hk : l.length + 1 ≤ k) : ∃ b, outcome_rising_int.f k l (fun y0 => outcome_Valid_1.f y0) = some b ∧ (b = true ↔ Rising l.length fun i => l.getD i 0) := by
  let s : Nat → Int := fun i => l.getD i 0
  let p : Nat → Int := fun i => match i with | 0 => -1 | j + 1 => s j
  let bb : Nat → Option Unit := fun i => if s i ≤ p i ∨ s i ≥ 512 then some () else none
  have sg : ∀ i (h : i < l.length), l[i] = s i := fun i h => by simp [s, List.getD, h]
  have main := loop_first (L := outcome_rising_int.l0 l (fun y0 => outcome_Valid_1.f y0)) (σ := fun i => (p i, (i : Int))) (b := bb) (e := ()) (n := l.length) (m := 0)
    (fun k i hi _ _ => by
      show outcome_rising_int.l0 l _ (k + 1) (p i, (i : Int)) = _
      rw [outcome_rising_int.l0]
      simp only [List.length_map, if_pos (lt_cast hi), idxn l i hi, Option.bind_some, outcome_Valid_1.f, succ_cast hl hi, sg i hi, bb]
      by_cases c1 : s i ≤ p i
      · simp [c1]
      · by_cases c2 : s i ≥ 512
        · simp [c1, c2]
        · simp [c1, c2, p])
    (fun k _ => by
      show outcome_rising_int.l0 l _ (k + 1) (p l.length, (l.length : Int)) = _
      rw [outcome_rising_int.l0]
      simp only [List.length_map, if_neg nlt_cast])
    l.length 0 k (by omega) (by omega) (fun q h => by omega)
  have main : outcome_rising_int.l0 l (fun y0 => outcome_Valid_1.f y0) k (-1, 0) = _ := main
  unfold outcome_rising_int.f
  rw [main]
  have iff : first bb l.length 0 = none ↔ Rising l.length s := by
    rw [first_none]
    constructor
    · intro h
      have low : ∀ i, i < l.length → 0 ≤ s i ∧ s i ≤ 511 ∧ p i < s i := by
        intro i
        induction i with
        | zero =>
          intro hi
          have := h 0 (by omega) (by omega)
          simp only [bb] at this
          split at this
          · cases this
          · rename_i c; have : p 0 = -1 := rfl; omega
        | succ j ih =>
          intro hi
          have h2 := ih (by omega)
          have := h (j + 1) (by omega) (by omega)
          simp only [bb] at this
          split at this
          · cases this
          · rename_i c; have : p (j + 1) = s j := rfl; omega
      intro i hi
      refine ⟨(low i hi).1, (low i hi).2.1, fun j e => ?_⟩
      subst e
      exact (low (j + 1) hi).2.2
    · intro h q _ hq
      have := h q (by omega)
      simp only [bb]
      rw [if_neg]
      cases q with
      | zero => have e : p 0 = -1 := rfl; omega
      | succ j => have e : p (j + 1) = s j := rfl; have := this.2.2 j rfl; omega
  cases hf : first bb l.length 0 with
  | none => exact ⟨true, rfl, by simp; exact iff.1 hf⟩
  | some u => exact ⟨false, rfl, by simp; intro h; rw [iff.2 h] at hf; cases hf⟩

theorem stations_ok (l : List Int) (hl : l.length ≤ 1000) (k : Nat) (hk : l.length + 1 ≤ k) : ∃ b, bandplanref32_Stations.f k l = some b ∧ (b = true ↔ Rising l.length fun i => l.getD i 0) := by
  let s : Nat → Int := fun i => l.getD i 0
  let bb : Nat → Option Unit := fun i => if s i < 0 ∨ s i > 511 ∨ (0 < i ∧ s i ≤ s (i - 1)) then some () else none
  have sg : ∀ i (h : i < l.length), l[i] = s i := fun i h => by simp [s, List.getD, h]
  have main := loop_first (L := bandplanref32_Stations.l0 l) (σ := fun i => (i : Int)) (b := bb) (e := ()) (n := l.length) (m := 0)
    (fun k i hi _ _ => by
      show bandplanref32_Stations.l0 l (k + 1) (i : Int) = _
      rw [bandplanref32_Stations.l0]
      simp only [List.length_map, if_pos (lt_cast hi), idxn l i hi, Option.bind_some, succ_cast hl hi, sg i hi, bb]
      by_cases c1 : s i < 0
      · simp [c1]
      · by_cases c2 : s i > 511
        · simp [c1, c2]
        · cases i with
          | zero => simp [c1, c2]
          | succ j =>
            rw [pred_cast hl hi, idxn l j (by omega), sg j (by omega)]
            have e : ((j + 1 : Nat) : Int) > 0 := by omega
            by_cases c3 : s (j + 1) ≤ s j
            · simp [c1, c2, c3, e]
            · simp [c1, c2, c3, e])
    (fun k _ => by
      show bandplanref32_Stations.l0 l (k + 1) (l.length : Int) = _
      rw [bandplanref32_Stations.l0]
      simp only [List.length_map, if_neg nlt_cast])
    l.length 0 k (by omega) (by omega) (fun q h => by omega)
  have main : bandplanref32_Stations.l0 l k 0 = _ := main
  unfold bandplanref32_Stations.f
  rw [main]
  have iff : first bb l.length 0 = none ↔ Rising l.length s := by
    rw [first_none]
    constructor
    · intro h i hi
      have := h i (by omega) (by omega)
      simp only [bb] at this
      split at this
      · cases this
      · rename_i c
        refine ⟨by omega, by omega, fun j e => ?_⟩
        subst e
        have : j + 1 - 1 = j := by omega
        rw [this] at c
        omega
    · intro h q _ hq
      have := h q (by omega)
      simp only [bb]
      rw [if_neg]
      intro c
      rcases c with c | c | ⟨c0, c⟩
      · omega
      · omega
      · have := this.2.2 (q - 1) (by omega)
        omega
  cases hf : first bb l.length 0 with
  | none => exact ⟨true, rfl, by simp; exact iff.1 hf⟩
  | some u => exact ⟨false, rfl, by simp; intro h; rw [iff.2 h] at hf; cases hf⟩
end Go.Proofs.YtgobepjodkggoaaDoor.Pu
