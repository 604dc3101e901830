/- Whether an outcome follows from entrants: code and reference agree. -/
import Derived.Test.YtgobepjodkggoaaDoorPuSame
import Derived.Test.YtgobepjodkggoaaDoorPuCeiling
namespace Go.Proofs.YtgobepjodkggoaaDoor.Pu
open Go Go.Proofs Go.Proofs.YtgobepjodkggoaaDoor.Ai Go.Proofs.YtgobepjodkggoaaDoor.Dt Go.Proofs.YtgobepjodkggoaaDoor.Fn
set_option maxRecDepth 100000

theorem valid_eq3 (a : S_api_Outcome) (ha : Small a) : ∃ b : Bool, outcome_Valid.f 300 a = some b ∧ bandplanref32_Valid.f 300 a = some b ∧ (b = true → COk a.f_Assignment ∧ WOk a.f_Winners ∧ Fit a) := by
  obtain ⟨h1, h2, h3⟩ := id ha
  obtain ⟨ce, cc⟩ := cost_eq a.f_Winners (by omega) 300 (by omega)
  obtain ⟨wb, hwb, wbi⟩ := winnersR_ok a.f_Winners (by omega) 300 (by omega)
  obtain ⟨r1, hr1, r1i⟩ := rising_int_ok a.f_Exited (by omega) 300 (by omega)
  obtain ⟨r2, hr2, r2i⟩ := stations_ok a.f_Exited (by omega) 300 (by omega)
  obtain ⟨c1, hc1, c1i⟩ := validlist_ok a.f_Assignment (by omega) 300 (by omega)
  obtain ⟨c2, hc2, c2i⟩ := choices_ok a.f_Assignment (by omega) 300 (by omega)
  obtain ⟨f2, hf2, f2i⟩ := ref_fit a ha
  have er : r1 = r2 := by cases r1 <;> cases r2 <;> simp_all
  have ec : c1 = c2 := by cases c1 <;> cases c2 <;> simp_all
  subst er ec
  unfold outcome_Valid.f bandplanref32_Valid.f
  rw [hwb, hr1, hr2, hc1, hc2]
  rcases cc with ⟨w, r, hs, hcost⟩ | ⟨w, hcost⟩
  · have hw : wb = true := wbi.2 w
    subst hw
    rw [hcost, hs]
    cases r1 with
    | false => by_cases e : r = a.f_Cost <;> exact ⟨false, by simp [e], by simp, fun h => by cases h⟩
    | true =>
      cases c1 with
      | false => by_cases e : r = a.f_Cost <;> exact ⟨false, by simp [e], by simp, fun h => by cases h⟩
      | true =>
        by_cases e : r = a.f_Cost
        · obtain ⟨m, hm, hmi⟩ := bands_ok a.f_Assignment (by omega) (c1i.1 rfl) 300 (by omega)
          obtain ⟨f1, hf1, f1i⟩ := code_fit a ha m hmi
          have ef : f1 = f2 := by cases f1 <;> cases f2 <;> simp_all
          subst ef
          refine ⟨f1, ?_, ?_, fun h => ⟨c1i.1 rfl, w, f1i.1 h⟩⟩
          · simp only [e, hm, Option.bind_some, not_true, if_false, Bool.not_true, Bool.false_eq_true]
            exact hf1
          · simp only [e, Option.bind_some, not_true, if_false, bne_self_eq_false, Bool.false_eq_true]
            exact hf2
        · have e2 : ¬ a.f_Cost = r := fun h => e h.symm
          exact ⟨false, by simp [e], by simp [e2], fun h => by cases h⟩
  · have hw : wb = false := by
      cases wb with
      | false => rfl
      | true => exact absurd (wbi.1 rfl) w
    subst hw
    rw [hcost]
    exact ⟨false, by simp, by simp, fun h => by cases h⟩

theorem contains_ok (l : List Int) (hl : l.length ≤ 1000) (k : Nat) (hk : l.length + 1 ≤ k) (st : Int) : ∃ b, slices_Contains_int_int.f k l st = some b ∧ (b = true ↔ ∃ i, i < l.length ∧ l.getD i 0 = st) := by
  let s : Nat → Int := fun i => l.getD i 0
  let bb : Nat → Option Int := fun i => if st = s i then some (i : Int) else none
  have sg : ∀ i (h : i < l.length), l[i] = s i := fun i h => by simp [s, List.getD, h]
  have main := loop_first (L := slices_Index_int_int.l0 l st) (σ := fun i => (i : Int)) (b := bb) (e := ()) (n := l.length) (m := 0)
    (fun k i hi _ _ => by
      show slices_Index_int_int.l0 l st (k + 1) (i : Int) = _
      rw [slices_Index_int_int.l0]
      simp only [List.length_map, if_pos (lt_cast hi), idxn l i hi, Option.bind_some, succ_cast hl hi, sg i hi, bb]
      by_cases c1 : st = s i <;> simp [c1])
    (fun k _ => by
      show slices_Index_int_int.l0 l st (k + 1) (l.length : Int) = _
      rw [slices_Index_int_int.l0]
      simp only [List.length_map, if_neg nlt_cast])
    l.length 0 k (by omega) (by omega) (fun q h => by omega)
  have main : slices_Index_int_int.l0 l st k 0 = _ := main
  unfold slices_Contains_int_int.f slices_Index_int_int.f
  rw [main]
  have gen : ∀ j i u, first bb j i = some u → 0 ≤ u ∧ ∃ q, q < i + j ∧ s q = st := by
    intro j
    induction j with
    | zero => intro i u h; simp [first] at h
    | succ j ih =>
      intro i u h
      simp only [first] at h
      split at h
      · rename_i a ha
        simp only [bb] at ha
        split at ha
        · rename_i c
          obtain rfl := Option.some.inj ha
          obtain rfl := Option.some.inj h
          exact ⟨by omega, i, by omega, c.symm⟩
        · cases ha
      · obtain ⟨h1, q, h2, h3⟩ := ih _ _ h
        exact ⟨h1, q, by omega, h3⟩
  cases hf : first bb l.length 0 with
  | none =>
    refine ⟨false, rfl, ?_⟩
    simp only [Bool.false_eq_true, false_iff]
    rintro ⟨i, hi, e⟩
    have := (first_none.1 hf) i (by omega) (by omega)
    have e' : st = s i := e.symm
    simp only [bb, if_pos e'] at this
    cases this
  | some u =>
    obtain ⟨h1, q, h2, h3⟩ := gen _ _ _ hf
    refine ⟨true, ?_, ?_⟩
    · show some (decide (u ≥ 0)) = some true
      rw [decide_eq_true (by omega)]
    · simp only [true_iff]
      exact ⟨q, by omega, h3⟩

theorem wAt_some {l : List S_api_Winner} {st u : Int} (h : wAt l st = some u) : ∃ q : Nat, q < l.length ∧ u = (q : Int) ∧ (l.getD q default).f_Station = st := by
  have gen : ∀ j i u, first (fun i => if decide ((l.getD i default).f_Station = st) = true then some (i : Int) else none) j i = some u → ∃ q : Nat, q < i + j ∧ u = (q : Int) ∧ (l.getD q default).f_Station = st := by
    intro j
    induction j with
    | zero => intro i u h; simp [first] at h
    | succ j ih =>
      intro i u h
      simp only [first] at h
      split at h
      · rename_i a ha
        split at ha
        · rename_i c
          obtain rfl := Option.some.inj ha
          obtain rfl := Option.some.inj h
          exact ⟨i, by omega, rfl, of_decide_eq_true c⟩
        · cases ha
      · obtain ⟨q, h1, h2, h3⟩ := ih _ _ h
        exact ⟨q, by omega, h2, h3⟩
  obtain ⟨q, h1, h2, h3⟩ := gen _ _ _ h
  exact ⟨q, by omega, h2, h3⟩

/-- Whether an exited station. -/
def Ex (a : S_api_Outcome) (st : Int) : Prop := ∃ j, j < a.f_Exited.length ∧ a.f_Exited.getD j 0 = st

/-- Whether an entrant does not go with a winner. -/
def BadW (o : Int) (y : S_api_Entrant) (w : S_api_Winner) : Prop := w.f_Option ≥ y.f_Home ∨ ∃ r, score_Offer.f y.f_Volume o y.f_Home w.f_Option = some r ∧ w.f_Payment > r.1

/-- Whether an entrant does not go with the outcome. -/
def BadY (a : S_api_Outcome) (o : Int) (y : S_api_Entrant) : Prop :=
  (Ex a y.f_Station ∧ (bandAt a.f_Assignment y.f_Station).getD 0 ≠ y.f_Home) ∨
  (¬ Ex a y.f_Station ∧ match wAt a.f_Winners y.f_Station with | none => True | some u => BadW o y (a.f_Winners.getD u.toNat default))
def Bad (a : S_api_Outcome) (l : List S_api_Entrant) (o : Int) (i : Nat) : Prop := BadY a o (l.getD i default)

open Classical in
theorem code_step (a : S_api_Outcome) (ha : Small a) (l : List S_api_Entrant) (hl : l.length ≤ 40) (o : Int) (m : List (Int × Int)) (hm : ∀ st, mget m st = bandAt a.f_Assignment st) (i k : Nat) (hi : i < l.length) (hk : 101 ≤ k) :
    outcome_Follows.l0 a l o m (k + 1) (i : Int) = if Bad a l o i then some (.inl ((l.getD i default).f_Station, (l.getD i default).f_Home, (l.getD i default).f_Volume)) else outcome_Follows.l0 a l o m k ((i + 1 : Nat) : Int) := by
  obtain ⟨h1, h2, h3⟩ := ha
  have sg : l[i] = l.getD i default := by simp [List.getD, hi]
  obtain ⟨b, hb, bi⟩ := contains_ok a.f_Exited (by omega) k (by omega) (l.getD i default).f_Station
  rw [outcome_Follows.l0]
  simp only [List.length_map, if_pos (lt_cast hi), idxn l i hi, Option.bind_some, succ_cast (by omega : l.length ≤ 1000) hi, sg, hm, hb]
  unfold Bad BadY
  generalize l.getD i default = y at *
  by_cases hex : Ex a y.f_Station
  · have hb1 : b = true := bi.2 hex
    subst hb1
    by_cases c : (bandAt a.f_Assignment y.f_Station).getD 0 = y.f_Home <;> simp [c, hex]
  · have hb1 : b = false := by
      cases b with
      | false => rfl
      | true => exact absurd (bi.1 rfl) hex
    subst hb1
    simp only [find_ok a.f_Winners (by omega) k (by omega), Option.bind_some, Bool.false_eq_true, if_false]
    cases hw : wAt a.f_Winners y.f_Station with
    | none => simp [hex]
    | some u =>
      obtain ⟨q, hq, rfl, hs⟩ := wAt_some hw
      have sq : a.f_Winners[q] = a.f_Winners.getD q default := by simp [List.getD, hq]
      have n0 : ¬ (q : Int) < 0 := by omega
      simp only [Option.getD_some, if_neg n0, idxn a.f_Winners q hq, Option.bind_some, sq, Int.toNat_natCast]
      clear sq
      obtain ⟨w, hw'⟩ : ∃ w, w = a.f_Winners.getD q default := ⟨_, rfl⟩
      simp only [← hw'] at *
      obtain ⟨_, r, hr⟩ := offer_eq y.f_Volume o y.f_Home w.f_Option
      unfold BadW
      by_cases c1 : w.f_Option ≥ y.f_Home
      · simp [c1, hex]
      · by_cases c2 : w.f_Payment > r.1 <;> simp [c1, c2, hex, hr]

/-- What is asked of an entrant. -/
def EOk (y : S_api_Entrant) : Prop := 1 ≤ y.f_Home ∧ y.f_Home ≤ 3 ∧ 1 ≤ y.f_Volume ∧ y.f_Volume ≤ 1000000

theorem offer_good {y : S_api_Entrant} (hy : EOk y) {o p : Int} (ho : 0 ≤ o ∧ o ≤ 1000000000) (hp : 0 ≤ p ∧ p < y.f_Home) : ∃ r, score_Offer.f y.f_Volume o y.f_Home p = some r ∧ bandplanref28_Offer.f y.f_Volume o y.f_Home p = some r ∧ r.2 = 0 := by
  obtain ⟨e, r, hr⟩ := offer_eq y.f_Volume o y.f_Home p
  refine ⟨r, hr, e ▸ hr, ?_⟩
  obtain ⟨h1, h2, h3, h4⟩ := hy
  unfold score_Offer.f score_prices.f score_prices_1.f at hr
  have hh : y.f_Home = 1 ∨ y.f_Home = 2 ∨ y.f_Home = 3 := by omega
  have hpp : p = 0 ∨ p = 1 ∨ p = 2 := by omega
  have key : ∃ z, score_Reduction.f y.f_Home p = some (z, 0) := by
    rcases hh with e1 | e1 | e1 <;> rcases hpp with e2 | e2 | e2 <;> first
      | (exfalso; omega)
      | (rw [e1, e2]; exact ⟨_, rfl⟩)
  obtain ⟨z, hz⟩ := key
  have h3' : y.f_Volume ≥ 1 := h3
  have ho1 : o ≥ 0 := ho.1
  simp [h3', h4, ho1, ho.2, hz] at hr
  rw [← hr]

open Classical in
theorem ref_step (a : S_api_Outcome) (ha : Small a) (hc : WOk a.f_Winners) (hf : Fit a) (l : List S_api_Entrant) (hl : l.length ≤ 40) (o : Int) (ho : 0 ≤ o ∧ o ≤ 1000000000) (hy : ∀ i, i < l.length → EOk (l.getD i default)) (i k : Nat) (hi : i < l.length) (hk : 101 ≤ k) :
    bandplanref32_Follows.l0 a l o (k + 1) (i : Int) = if Bad a l o i then some (.inl ()) else bandplanref32_Follows.l0 a l o k ((i + 1 : Nat) : Int) := by
  obtain ⟨h1, h2, h3⟩ := ha
  have hy := hy i hi
  have sg : l[i] = l.getD i default := by simp [List.getD, hi]
  obtain ⟨b, hb, bi⟩ := has_ok a.f_Exited (by omega) k (by omega) (l.getD i default).f_Station
  rw [bandplanref32_Follows.l0]
  simp only [List.length_map, if_pos (lt_cast hi), idxn l i hi, Option.bind_some, succ_cast (by omega : l.length ≤ 1000) hi, sg, hb, winner_ok a.f_Winners (by omega) k (by omega), on_ok a.f_Assignment (by omega) k (by omega)]
  unfold Bad BadY
  generalize l.getD i default = y at *
  cases hw : wAt a.f_Winners y.f_Station with
  | none =>
    by_cases hex : Ex a y.f_Station
    · have hb1 : b = true := bi.2 hex
      subst hb1
      by_cases c : (bandAt a.f_Assignment y.f_Station).getD 0 = y.f_Home <;> simp [c, hex]
    · have hb1 : b = false := by
        cases b with
        | false => rfl
        | true => exact absurd (bi.1 rfl) hex
      subst hb1
      simp [hex]
  | some u =>
    obtain ⟨q, hq, rfl, hs⟩ := wAt_some hw
    have hex : ¬ Ex a y.f_Station := fun ⟨j, hj, e⟩ => hf.2.2 q j hq hj (hs.trans e.symm)
    have sq : a.f_Winners[q] = a.f_Winners.getD q default := by simp [List.getD, hq]
    have n0 : ¬ (q : Int) < 0 := by omega
    have hwq : 0 ≤ (a.f_Winners.getD q default).f_Option := by have := hc.2 q hq; omega
    simp only [Option.getD_some, if_neg n0, idxn a.f_Winners q hq, Option.bind_some, sq, Int.toNat_natCast]
    clear sq
    obtain ⟨w, hw'⟩ : ∃ w, w = a.f_Winners.getD q default := ⟨_, rfl⟩
    simp only [← hw'] at *
    unfold BadW
    by_cases c1 : w.f_Option ≥ y.f_Home
    · obtain ⟨e, r, hr⟩ := offer_eq y.f_Volume o y.f_Home w.f_Option
      rw [← e, hr]
      by_cases c2 : r.2 = 0 <;> simp [c1, c2, hex]
    · obtain ⟨r, hr, hr2, hr0⟩ := offer_good hy ho ⟨hwq, by omega⟩
      by_cases c2 : w.f_Payment > r.1 <;> simp [c1, c2, hex, hr, hr2, hr0]

theorem entrants_ok (l : List S_api_Entrant) (hl : l.length ≤ 40) : ∀ (k i : Nat) (p : Int), i ≤ l.length → reverse_Valid.l0 l k (p, (i : Int)) = some (.inr ()) → ∀ j, i ≤ j → j < l.length → EOk (l.getD j default) := by
  intro k
  induction k with
  | zero => intro i p _ h; cases h
  | succ k ih =>
    intro i p hi h j hij hj
    have hi' : i < l.length := by omega
    have sg : l[i] = l.getD i default := by simp [List.getD, hi']
    unfold reverse_Valid.l0 at h
    simp only [List.length_map, if_pos (lt_cast hi'), idxn l i hi', Option.bind_some, succ_cast (by omega : l.length ≤ 1000) hi', sg] at h
    by_cases e : j = i
    · subst e
      generalize l.getD j default = y at *
      unfold EOk
      by_cases c0 : y.f_Station ≤ p
      · simp [c0] at h
      · by_cases c1 : y.f_Station ≥ 512
        · simp [c0, c1] at h
        · by_cases c2 : y.f_Home < 1
          · simp [c0, c1, c2] at h
          · by_cases c3 : y.f_Home > 3
            · simp [c0, c1, c2, c3] at h
            · by_cases c4 : y.f_Volume < 1
              · simp [c0, c1, c2, c3, c4] at h
              · by_cases c5 : y.f_Volume > 1000000
                · simp [c0, c1, c2, c3, c4, c5] at h
                · omega
    · refine ih (i + 1) (l.getD i default).f_Station (by omega) ?_ j (by omega) hj
      generalize l.getD i default = y at *
      by_cases c0 : y.f_Station ≤ p
      · simp [c0] at h
      · by_cases c1 : y.f_Station ≥ 512
        · simp [c0, c1] at h
        · by_cases c2 : y.f_Home < 1
          · simp [c0, c1, c2] at h
          · by_cases c3 : y.f_Home > 3
            · simp [c0, c1, c2, c3] at h
            · by_cases c4 : y.f_Volume < 1
              · simp [c0, c1, c2, c3, c4] at h
              · by_cases c5 : y.f_Volume > 1000000
                · simp [c0, c1, c2, c3, c4, c5] at h
                · simpa [c0, c1, c2, c3, c4, c5] using h

theorem good_ok (l : List S_api_Entrant) (o : Int) (hl : l.length ≤ 40) : ∃ b, outcome_good.f 300 l o = some b ∧ bandplanref32_Good.f 300 l o = some b ∧ (b = true → (0 ≤ o ∧ o ≤ 1000000000) ∧ ∀ i, i < l.length → EOk (l.getD i default)) := by
  obtain ⟨r, h1, h2⟩ := valid_eq l hl 300 0 (-1) (by omega) (by omega) (fun _ => rfl) (fun j e => by omega)
  have h3 : reverse_Valid.l0 l 300 (-1, 0) = some r := h1
  have h4 : bandplanref31_Valid.l0 l 300 0 = some r := h2
  unfold outcome_good.f bandplanref32_Good.f reverse_Valid.f bandplanref31_Valid.f
  rw [h3, h4]
  rcases r with ⟨a, b, c⟩ | _
  · exact ⟨false, by simp, by simp, fun h => by cases h⟩
  · refine ⟨decide (o ≥ 1) && decide (o ≤ 1000000000), ?_, ?_, fun h => ⟨?_, fun i hi => entrants_ok l hl 300 0 (-1) (by omega) h1 i (by omega) hi⟩⟩
    · by_cases g : o ≥ 1 <;> simp [g]
    · by_cases g : o ≥ 1 <;> simp [g]
    · simp at h; omega

open Classical in
theorem follows_eq (a : S_api_Outcome) (ha : Small a) (l : List S_api_Entrant) (hl : l.length ≤ 40) (o : Int) : ∃ r, outcome_Follows.f 300 a l o = some r ∧ bandplanref32_Follows.f 300 a l o = some r := by
  obtain ⟨v, e1, e2, e3⟩ := valid_eq3 a ha
  obtain ⟨g, g1, g2, g3⟩ := good_ok l o hl
  obtain ⟨h1, h2, h3⟩ := id ha
  unfold outcome_Follows.f bandplanref32_Follows.f
  rw [e1, e2, g1, g2]
  cases v with
  | false => exact ⟨(false, 2), by simp, by simp⟩
  | true =>
    cases g with
    | false => exact ⟨(false, 2), by simp, by simp⟩
    | true =>
      obtain ⟨hc, hw, hf⟩ := e3 rfl
      obtain ⟨ho, hy⟩ := g3 rfl
      obtain ⟨m, hm, hmi⟩ := bands_ok a.f_Assignment (by omega) hc 300 (by omega)
      let b0 : Nat → Option (Int × Int × Int) := fun i => if Bad a l o i then some ((l.getD i default).f_Station, (l.getD i default).f_Home, (l.getD i default).f_Volume) else none
      let b1 : Nat → Option Unit := fun i => if Bad a l o i then some () else none
      have m0 := loop_first (L := outcome_Follows.l0 a l o m) (σ := fun i => (i : Int)) (b := b0) (e := ()) (n := l.length) (m := 101)
        (fun k i hi hk _ => by
          refine (code_step a ha l hl o m hmi i k hi hk).trans ?_
          simp only [b0]
          split <;> rfl)
        (fun k _ => by
          show outcome_Follows.l0 a l o m (k + 1) (l.length : Int) = _
          rw [outcome_Follows.l0]
          simp only [List.length_map, if_neg nlt_cast])
        l.length 0 300 (by omega) (by omega) (fun q h => by omega)
      have m0 : outcome_Follows.l0 a l o m 300 0 = _ := m0
      have m1 := loop_first (L := bandplanref32_Follows.l0 a l o) (σ := fun i => (i : Int)) (b := b1) (e := ()) (n := l.length) (m := 101)
        (fun k i hi hk _ => by
          refine (ref_step a ha hw hf l hl o ho hy i k hi hk).trans ?_
          simp only [b1]
          split <;> rfl)
        (fun k _ => by
          show bandplanref32_Follows.l0 a l o (k + 1) (l.length : Int) = _
          rw [bandplanref32_Follows.l0]
          simp only [List.length_map, if_neg nlt_cast])
        l.length 0 300 (by omega) (by omega) (fun q h => by omega)
      have m1 : bandplanref32_Follows.l0 a l o 300 0 = _ := m1
      have same : first b0 l.length 0 = none ↔ first b1 l.length 0 = none := by
        rw [first_none, first_none]
        constructor <;> intro h q q1 q2 <;> have := h q q1 q2 <;> simp only [b0, b1] at this ⊢ <;> split at this <;> simp_all
      simp only [List.length_map]
      simp only [Option.bind_some, not_true, if_false, Bool.not_true, Bool.false_eq_true, hm, m0, m1]
      generalize IntKind.i64.wrap (((a.f_Winners.length : Nat) : Int) + ((a.f_Exited.length : Nat) : Int)) = s
      cases hb0 : first b0 l.length 0 with
      | none =>
        rw [same.1 hb0]
        by_cases c : s = (l.length : Int)
        · exact ⟨(true, 0), by simp [c], by simp [c]⟩
        · have c' : ¬ (l.length : Int) = s := fun h => c h.symm
          exact ⟨(false, 0), by simp [c'], by simp [c]⟩
      | some u =>
        cases hb1 : first b1 l.length 0 with
        | none => rw [same.2 hb1] at hb0; cases hb0
        | some u1 =>
          obtain ⟨u1, u2, u3⟩ := u
          by_cases c : s = (l.length : Int)
          · exact ⟨(false, 0), by simp, by simp [c]⟩
          · exact ⟨(false, 0), by simp, by simp [c]⟩

theorem law_follows (a : S_api_Outcome) (l : List S_api_Entrant) (o : Int) : bandplanlaw32_OutcomeFollows.f 300 a l o = some true := by
  unfold bandplanlaw32_OutcomeFollows.f bandplanlaw32_small.f
  simp only [List.length_map]
  by_cases h2 : (a.f_Winners.length : Int) ≤ 20
  · by_cases h3 : (a.f_Exited.length : Int) ≤ 20
    · by_cases h4 : (a.f_Assignment.length : Int) ≤ 40
      · by_cases h1 : (l.length : Int) > 40
        · simp [h1, h2, h3, h4, known_true3]
        · obtain ⟨r, e1, e2⟩ := follows_eq a ⟨by omega, by omega, by omega⟩ l (by omega) o
          simp [h1, h2, h3, h4, e1, e2, known_true3]
      · simp [h2, h3, h4, known_true3]
    · simp [h2, h3, known_true3]
  · simp [h2, known_true3]
end Go.Proofs.YtgobepjodkggoaaDoor.Pu
