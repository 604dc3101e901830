/- The winners and their cost: code and reference as plain facts. -/
import Derived.Test.YtgobepjodkggoaaDoorPuLoop
namespace Go.Proofs.YtgobepjodkggoaaDoor.Pu
open Go Go.Proofs Go.Proofs.YtgobepjodkggoaaDoor.Ai Go.Proofs.YtgobepjodkggoaaDoor.Dt Go.Proofs.YtgobepjodkggoaaDoor.Fn
set_option maxRecDepth 100000

def Pays (l : List S_api_Winner) : Prop := ∀ i, i < l.length → 0 ≤ (l.getD i default).f_Option ∧ (l.getD i default).f_Option ≤ 2 ∧ 0 ≤ (l.getD i default).f_Payment ∧ (l.getD i default).f_Payment ≤ 1000000000
def WOk (l : List S_api_Winner) : Prop := Rising l.length (fun i => (l.getD i default).f_Station) ∧ Pays l

theorem rising_w_ok (l : List S_api_Winner) (hl : l.length ≤ 1000) (k : Nat) (hk : l.length + 1 ≤ k) : ∃ b, outcome_rising_api_Winner.f k l (fun y0 => outcome_winners_1.f y0) = some b ∧ (b = true ↔ Rising l.length fun i => (l.getD i default).f_Station) := by
  let g : Nat → S_api_Winner := fun i => l.getD i default
  let s : Nat → Int := fun i => (g i).f_Station
  let p : Nat → Int := fun i => match i with | 0 => -1 | j + 1 => s j
  let bb : Nat → Option (Int × Int × Int) := fun i => if s i ≤ p i ∨ s i ≥ 512 then some ((g i).f_Station, (g i).f_Option, (g i).f_Payment) else none
  have sg : ∀ i (h : i < l.length), l[i] = g i := fun i h => by simp [g, List.getD, h]
  have main := loop_first (L := outcome_rising_api_Winner.l0 l (fun y0 => outcome_winners_1.f y0)) (σ := fun i => (p i, (i : Int))) (b := bb) (e := ()) (n := l.length) (m := 0)
    (fun k i hi _ _ => by
      show outcome_rising_api_Winner.l0 l _ (k + 1) (p i, (i : Int)) = _
      rw [outcome_rising_api_Winner.l0]
      simp only [List.length_map, if_pos (lt_cast hi), idxn l i hi, Option.bind_some, outcome_winners_1.f, succ_cast hl hi, sg i hi, bb]
      have es : (g i).f_Station = s i := rfl
      rw [es]
      by_cases c1 : s i ≤ p i
      · simp [c1]
      · by_cases c2 : s i ≥ 512
        · simp [c1, c2]
        · simp [c1, c2, p])
    (fun k _ => by
      show outcome_rising_api_Winner.l0 l _ (k + 1) (p l.length, (l.length : Int)) = _
      rw [outcome_rising_api_Winner.l0]
      simp only [List.length_map, if_neg nlt_cast])
    l.length 0 k (by omega) (by omega) (fun q h => by omega)
  have main : outcome_rising_api_Winner.l0 l (fun y0 => outcome_winners_1.f y0) k (-1, 0) = _ := main
  unfold outcome_rising_api_Winner.f
  rw [main]
  have iff : first bb l.length 0 = none ↔ Rising l.length s := by
    rw [first_none]
    constructor
    · intro h
      have low : ∀ i, i < l.length → 0 ≤ s i ∧ s i ≤ 511 ∧ p i < s i := by
        intro i
        induction i with
        | zero =>
          intro hi
          have := h 0 (by omega) (by omega)
          simp only [bb] at this
          split at this
          · cases this
          · rename_i c; have : p 0 = -1 := rfl; omega
        | succ j ih =>
          intro hi
          have h2 := ih (by omega)
          have := h (j + 1) (by omega) (by omega)
          simp only [bb] at this
          split at this
          · cases this
          · rename_i c; have : p (j + 1) = s j := rfl; omega
      intro i hi
      refine ⟨(low i hi).1, (low i hi).2.1, fun j e => ?_⟩
      subst e
      exact (low (j + 1) hi).2.2
    · intro h q _ hq
      have := h q (by omega)
      simp only [bb]
      rw [if_neg]
      cases q with
      | zero => have e : p 0 = -1 := rfl; omega
      | succ j => have e : p (j + 1) = s j := rfl; have := this.2.2 j rfl; omega
  cases hf : first bb l.length 0 with
  | none => exact ⟨true, rfl, by simp; exact iff.1 hf⟩
  | some u => exact ⟨false, rfl, by simp; intro h; rw [iff.2 h] at hf; cases hf⟩

/-- The first index at which a test holds. -/
theorem index_ok (l : List S_api_Winner) (hl : l.length ≤ 1000) (t : S_api_Winner → Option Bool) (q : Nat → Bool) (ht : ∀ i (h : i < l.length), t l[i] = some (q i)) (k : Nat) (hk : l.length + 1 ≤ k) :
    slices_IndexFunc_api_Winner_api_Winner.f k l t = some (match first (fun i => if q i = true then some (i : Int) else none) l.length 0 with | some i => i | none => -1) := by
  let bb : Nat → Option Int := fun i => if q i = true then some (i : Int) else none
  have main := loop_first (L := slices_IndexFunc_api_Winner_api_Winner.l0 l t) (σ := fun i => (i : Int)) (b := bb) (e := ()) (n := l.length) (m := 0)
    (fun k i hi _ _ => by
      show slices_IndexFunc_api_Winner_api_Winner.l0 l t (k + 1) (i : Int) = _
      rw [slices_IndexFunc_api_Winner_api_Winner.l0]
      simp only [List.length_map, if_pos (lt_cast hi), idxn l i hi, Option.bind_some, ht i hi, succ_cast hl hi, bb]
      cases q i <;> simp)
    (fun k _ => by
      show slices_IndexFunc_api_Winner_api_Winner.l0 l t (k + 1) (l.length : Int) = _
      rw [slices_IndexFunc_api_Winner_api_Winner.l0]
      simp only [List.length_map, if_neg nlt_cast])
    l.length 0 k (by omega) (by omega) (fun q h => by omega)
  have main : slices_IndexFunc_api_Winner_api_Winner.l0 l t k 0 = _ := main
  unfold slices_IndexFunc_api_Winner_api_Winner.f
  rw [main]
  show _ = some (match first bb l.length 0 with | some i => i | none => -1)
  cases first bb l.length 0 <;> rfl

theorem winners_ok (l : List S_api_Winner) (hl : l.length ≤ 1000) (k : Nat) (hk : l.length + 1 ≤ k) : ∃ b, outcome_winners.f k l = some b ∧ (b = true ↔ WOk l) := by
  let g : Nat → S_api_Winner := fun i => l.getD i default
  have sg : ∀ i (h : i < l.length), l[i] = g i := fun i h => by simp [g, List.getD, h]
  obtain ⟨b, hb, hbi⟩ := rising_w_ok l hl k hk
  let q : Nat → Bool := fun i => decide ((g i).f_Option < 0 ∨ (g i).f_Option > 2 ∨ (g i).f_Payment < 0 ∨ (g i).f_Payment > 1000000000)
  have hix := index_ok l hl (fun y0 => outcome_winners_2.f y0) q (fun i h => by
    rw [sg i h]
    unfold outcome_winners_2.f
    by_cases c1 : (g i).f_Option < 0 <;> by_cases c2 : (g i).f_Option > 2 <;> by_cases c3 : (g i).f_Payment < 0 <;> simp [q, c1, c2, c3]) k hk
  unfold outcome_winners.f slices_ContainsFunc_api_Winner_api_Winner.f
  rw [hb, hix]
  have iff : first (fun i => if q i = true then some (i : Int) else none) l.length 0 = none ↔ Pays l := by
    rw [first_none]
    constructor
    · intro h i hi
      have := h i (by omega) (by omega)
      have hq : q i = false := by
        cases hq : q i with
        | false => rfl
        | true => simp [hq] at this
      have hq := of_decide_eq_false hq
      have e : g i = l.getD i default := rfl
      rw [← e]
      omega
    · intro h i _ hi
      have := h i (by omega)
      have e : g i = l.getD i default := rfl
      rw [← e] at this
      have hq : q i = false := decide_eq_false (by omega)
      simp [hq]
  cases b with
  | false => exact ⟨false, by simp, by simp; intro h; have := hbi.2 h.1; cases this⟩
  | true =>
    have hr := hbi.1 rfl
    cases hf : first (fun i => if q i = true then some (i : Int) else none) l.length 0 with
    | none => exact ⟨true, by simp, by simp; exact ⟨hr, iff.1 hf⟩⟩
    | some u =>
      have hu : 0 ≤ u := by
        have gen : ∀ j i, ∀ u, first (fun i => if q i = true then some (i : Int) else none) j i = some u → 0 ≤ u := by
          intro j
          induction j with
          | zero => intro i u h; simp [first] at h
          | succ j ih =>
            intro i u h
            simp only [first] at h
            split at h
            · rename_i a ha
              split at ha
              · obtain rfl := Option.some.inj ha
                obtain rfl := Option.some.inj h
                omega
              · cases ha
            · exact ih _ _ h
        exact gen _ _ _ hf
      exact ⟨false, by simp [hu], by simp; intro h; rw [iff.2 h.2] at hf; cases hf⟩

theorem winnersR_ok (l : List S_api_Winner) (hl : l.length ≤ 1000) (k : Nat) (hk : l.length + 1 ≤ k) : ∃ b, bandplanref32_Winners.f k l = some b ∧ (b = true ↔ WOk l) := by
  let g : Nat → S_api_Winner := fun i => l.getD i default
  let s : Nat → Int := fun i => (g i).f_Station
  let bb : Nat → Option Unit := fun i => if s i < 0 ∨ s i > 511 ∨ (g i).f_Option < 0 ∨ (g i).f_Option > 2 ∨ (g i).f_Payment < 0 ∨ (g i).f_Payment > 1000000000 ∨ (0 < i ∧ s i ≤ s (i - 1)) then some () else none
  have sg : ∀ i (h : i < l.length), l[i] = g i := fun i h => by simp [g, List.getD, h]
  have main := loop_first (L := bandplanref32_Winners.l0 l) (σ := fun i => (i : Int)) (b := bb) (e := ()) (n := l.length) (m := 0)
    (fun k i hi _ _ => by
      show bandplanref32_Winners.l0 l (k + 1) (i : Int) = _
      rw [bandplanref32_Winners.l0]
      simp only [List.length_map, if_pos (lt_cast hi), idxn l i hi, Option.bind_some, succ_cast hl hi, sg i hi, bb]
      have es : (g i).f_Station = s i := rfl
      rw [es]
      by_cases c1 : s i < 0
      · simp [c1]
      · by_cases c2 : s i > 511
        · simp [c1, c2]
        · by_cases c3 : (g i).f_Option < 0
          · simp [c1, c2, c3]
          · by_cases c4 : (g i).f_Option > 2
            · simp [c1, c2, c3, c4]
            · by_cases c5 : (g i).f_Payment < 0
              · simp [c1, c2, c3, c4, c5]
              · by_cases c6 : (g i).f_Payment > 1000000000
                · simp [c1, c2, c3, c4, c5, c6]
                · cases i with
                  | zero => simp [c1, c2, c3, c4, c5, c6]
                  | succ j =>
                    rw [pred_cast hl hi, idxn l j (by omega), sg j (by omega)]
                    have ej : (g j).f_Station = s j := rfl
                    simp only [Option.bind_some]
                    rw [ej]
                    by_cases c7 : s (j + 1) ≤ s j
                    · simp [c1, c2, c3, c4, c5, c6, c7]
                    · simp [c1, c2, c3, c4, c5, c6, c7])
    (fun k _ => by
      show bandplanref32_Winners.l0 l (k + 1) (l.length : Int) = _
      rw [bandplanref32_Winners.l0]
      simp only [List.length_map, if_neg nlt_cast])
    l.length 0 k (by omega) (by omega) (fun q h => by omega)
  have main : bandplanref32_Winners.l0 l k 0 = _ := main
  unfold bandplanref32_Winners.f
  rw [main]
  have iff : first bb l.length 0 = none ↔ WOk l := by
    rw [first_none]
    constructor
    · intro h
      have low : ∀ i, i < l.length → ¬ (s i < 0 ∨ s i > 511 ∨ (g i).f_Option < 0 ∨ (g i).f_Option > 2 ∨ (g i).f_Payment < 0 ∨ (g i).f_Payment > 1000000000 ∨ (0 < i ∧ s i ≤ s (i - 1))) := fun i hi => by
        have := h i (by omega) (by omega)
        simp only [bb] at this
        split at this
        · cases this
        · assumption
      refine ⟨fun i hi => ?_, fun i hi => ?_⟩
      · have := low i hi
        have e : (l.getD i default).f_Station = s i := rfl
        refine ⟨by show 0 ≤ s i; omega, by show s i ≤ 511; omega, fun j ej => ?_⟩
        subst ej
        have e2 : j + 1 - 1 = j := by omega
        rw [e2] at this
        show s j < s (j + 1)
        omega
      · have := low i hi
        show 0 ≤ (g i).f_Option ∧ (g i).f_Option ≤ 2 ∧ 0 ≤ (g i).f_Payment ∧ (g i).f_Payment ≤ 1000000000
        omega
    · intro h q _ hq
      have h1 := h.1 q (by omega)
      have h2 : 0 ≤ (g q).f_Option ∧ (g q).f_Option ≤ 2 ∧ 0 ≤ (g q).f_Payment ∧ (g q).f_Payment ≤ 1000000000 := h.2 q (by omega)
      have h3 : 0 ≤ s q ∧ s q ≤ 511 := ⟨h1.1, h1.2.1⟩
      simp only [bb]
      rw [if_neg]
      intro c
      have c7 : ¬ (0 < q ∧ s q ≤ s (q - 1)) := fun c => by
        have : s (q - 1) < s q := h1.2.2 (q - 1) (by omega)
        omega
      omega
  cases hf : first bb l.length 0 with
  | none => exact ⟨true, rfl, by simp; exact iff.1 hf⟩
  | some u => exact ⟨false, rfl, by simp; intro h; rw [iff.2 h] at hf; cases hf⟩

theorem sumloop_eq (l : List S_api_Winner) : ∀ (k : Nat) (x : Int × Int), outcome_Cost.l0 l k x = bandplanref32_Sum.l0 l k x := by
  intro k
  induction k with
  | zero => intro x; rfl
  | succ k ih => intro ⟨x, i⟩; rw [outcome_Cost.l0, bandplanref32_Sum.l0]; simp only [ih]

theorem sumloop_some (l : List S_api_Winner) (hl : l.length ≤ 1000) : ∀ (k i : Nat) (x : Int), i ≤ l.length → l.length - i < k → ∃ r, outcome_Cost.l0 l k (x, (i : Int)) = some r := by
  intro k
  induction k with
  | zero => intro i x _ h; omega
  | succ k ih =>
    intro i x hi hk
    rw [outcome_Cost.l0]
    simp only [List.length_map]
    by_cases h : i < l.length
    · rw [if_pos (lt_cast h), idxn l i h]
      simp only [Option.bind_some, succ_cast hl h]
      exact ih (i + 1) _ (by omega) (by omega)
    · have : i = l.length := by omega
      subst this
      rw [if_neg nlt_cast]
      exact ⟨_, rfl⟩

theorem cost_eq (l : List S_api_Winner) (hl : l.length ≤ 1000) (k : Nat) (hk : l.length + 1 ≤ k) : outcome_Cost.f k l = bandplanref32_Cost.f k l ∧
    ((WOk l ∧ ∃ r, bandplanref32_Sum.f k l = some r ∧ outcome_Cost.f k l = some (r, 0)) ∨ (¬ WOk l ∧ outcome_Cost.f k l = some (0, 2))) := by
  obtain ⟨b, hb, hbi⟩ := winners_ok l hl k hk
  obtain ⟨c, hc, hci⟩ := winnersR_ok l hl k hk
  have hbc : b = c := by
    cases b <;> cases c <;> simp_all
  subst hbc
  obtain ⟨r, hr⟩ := sumloop_some l hl k 0 0 (by omega) (by omega)
  have hr : outcome_Cost.l0 l k (0, 0) = some r := hr
  have hr2 := hr
  rw [sumloop_eq] at hr2
  unfold outcome_Cost.f bandplanref32_Cost.f bandplanref32_Sum.f
  rw [hb, hc, hr, hr2]
  cases b with
  | true => exact ⟨by simp, .inl ⟨hbi.1 rfl, r, by simp, by simp⟩⟩
  | false => exact ⟨by simp, .inr ⟨(fun h => absurd (hbi.2 h) Bool.false_ne_true), by simp⟩⟩
end Go.Proofs.YtgobepjodkggoaaDoor.Pu
