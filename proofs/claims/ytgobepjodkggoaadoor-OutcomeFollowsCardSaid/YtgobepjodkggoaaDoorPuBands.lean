/- The bands of stations: the code's map and the reference's search. -/
import Derived.Test.YtgobepjodkggoaaDoorPuChoice
namespace Go.Proofs.YtgobepjodkggoaaDoor.Pu
open Go Go.Proofs Go.Proofs.YtgobepjodkggoaaDoor.Ai Go.Proofs.YtgobepjodkggoaaDoor.Dt Go.Proofs.YtgobepjodkggoaaDoor.Fn
set_option maxRecDepth 100000

theorem mfind_none {α : Type} : ∀ {l : List (Int × α)} {n : Int}, mfind l n = none → ∀ (j : Nat) p, l[j]? = some p → p.1 ≠ n
  | [], _, _, j, p, h => by simp at h
  | q :: r, n, h, j, p, hp => by
    simp only [mfind] at h
    split at h
    · cases h
    · rename_i hq
      rw [Option.map_eq_none_iff] at h
      cases j with
      | zero => simp at hp; subst hp; exact hq
      | succ j => exact mfind_none h j p (by simpa using hp)

theorem mfind_app {α : Type} : ∀ (l : List (Int × α)) (n m : Int) (v : α), mfind l n = none → mfind (l ++ [(n, v)]) m = match mfind l m with | some j => some j | none => if n = m then some l.length else none
  | [], n, m, v, _ => by simp [mfind]
  | q :: r, n, m, v, h => by
    simp only [mfind] at h
    split at h
    · cases h
    · rename_i hq
      rw [Option.map_eq_none_iff] at h
      simp only [List.cons_append, mfind]
      by_cases hqm : q.1 = m
      · simp [hqm]
      · simp only [if_neg hqm, mfind_app r n m v h]
        cases mfind r m with
        | some j => rfl
        | none => by_cases e : n = m <;> simp [e]

theorem mfind_set {α : Type} : ∀ (l : List (Int × α)) (n m : Int) (v : α) (j : Nat), mfind l n = some j → mfind (l.set j (n, v)) m = mfind l m
  | [], n, m, v, j, h => by simp [mfind] at h
  | q :: r, n, m, v, j, h => by
    simp only [mfind] at h
    split at h
    · rename_i hq
      obtain rfl := Option.some.inj h
      simp only [List.set_cons_zero, mfind, hq]
    · rename_i hq
      rw [Option.map_eq_some_iff] at h
      obtain ⟨j', h, rfl⟩ := h
      simp only [List.set_cons_succ, mfind, mfind_set r n m v j' h]

theorem mget_mset {α : Type} (l : List (Int × α)) (n m : Int) (v : α) : mget (mset l n v) m = if n = m then some v else mget l m := by
  unfold mset
  cases h : mfind l n with
  | none =>
    simp only [mget, mfind_app l n m v h]
    by_cases e : n = m
    · subst e
      simp [h]
    · rw [if_neg e]
      cases h2 : mfind l m with
      | none => simp [e]
      | some j =>
        obtain ⟨p, hp, _⟩ := mfind_some h2
        have := lt_of_get hp
        simp [List.getElem?_append, this, e]
  | some j =>
    simp only [mget, mfind_set l n m v j h]
    by_cases e : n = m
    · subst e
      obtain ⟨p, hp, _⟩ := mfind_some h
      have := lt_of_get hp
      simp [h, this]
    · rw [if_neg e]
      cases h2 : mfind l m with
      | none => rfl
      | some j2 =>
        have hne : j ≠ j2 := fun ej => by
          subst ej
          obtain ⟨p, hp, e1⟩ := mfind_some h
          obtain ⟨p2, hp2, e2⟩ := mfind_some h2
          rw [hp] at hp2
          cases hp2
          exact e (e1.symm.trans e2)
        simp [List.getElem?_set_ne hne]

theorem first_snoc {A : Type} (b : Nat → Option A) : ∀ j i, first b (j + 1) i = match first b j i with | some a => some a | none => b (i + j)
  | 0, i => by simp [first]; cases b i <;> rfl
  | j + 1, i => by
    rw [first]
    cases hb : b i with
    | some a => simp [first, hb]
    | none =>
      simp only [first_snoc b j (i + 1)]
      rw [show first b (j + 1) i = first b j (i + 1) by simp [first, hb]]
      rw [show i + 1 + j = i + (j + 1) by omega]

/-- The band of a channel. -/
def bandOf (c : Int) : Int := if c ≤ 6 then 1 else if c ≤ 13 then 2 else 3

theorem band_ok (c : Int) (h : 2 ≤ c ∧ c ≤ 51) : band_Of.f c = some (bandOf c, 0) := by
  unfold band_Of.f band_spans.f bandOf
  by_cases c1 : c ≤ 6
  · simp [c1, h.1]
  · by_cases c2 : c ≤ 13
    · have c3 : 7 ≤ c := by omega
      simp [c1, c2, c3, h.1]
    · have c3 : 7 ≤ c := by omega
      have c4 : 14 ≤ c := by omega
      simp [c1, c2, c3, c4, h.1, h.2]

/-- The band of a station: of its first choice; 0 if it has none. -/
def bandAt (l : List S_api_Choice) (st : Int) : Option Int := first (fun i => if (l.getD i default).f_Station = st then some (bandOf (l.getD i default).f_Channel) else none) l.length 0

theorem on_ok (l : List S_api_Choice) (hl : l.length ≤ 1000) (k : Nat) (hk : l.length + 1 ≤ k) (st : Int) : bandplanref32_On.f k l st = some ((bandAt l st).getD 0) := by
  let g : Nat → S_api_Choice := fun i => l.getD i default
  let bb : Nat → Option Int := fun i => if (g i).f_Station = st then some (bandOf (g i).f_Channel) else none
  have sg : ∀ i (h : i < l.length), l[i] = g i := fun i h => by simp [g, List.getD, h]
  have main := loop_first (L := bandplanref32_On.l0 l st) (σ := fun i => (i : Int)) (b := bb) (e := ()) (n := l.length) (m := 0)
    (fun k i hi _ _ => by
      show bandplanref32_On.l0 l st (k + 1) (i : Int) = _
      rw [bandplanref32_On.l0]
      simp only [List.length_map, if_pos (lt_cast hi), idxn l i hi, Option.bind_some, succ_cast hl hi, sg i hi, bb, bandOf]
      by_cases c1 : (g i).f_Station = st
      · by_cases c2 : (g i).f_Channel ≤ 6
        · simp [c1, c2]
        · by_cases c3 : (g i).f_Channel ≤ 13 <;> simp [c1, c2, c3]
      · simp [c1])
    (fun k _ => by
      show bandplanref32_On.l0 l st (k + 1) (l.length : Int) = _
      rw [bandplanref32_On.l0]
      simp only [List.length_map, if_neg nlt_cast])
    l.length 0 k (by omega) (by omega) (fun q h => by omega)
  have main : bandplanref32_On.l0 l st k 0 = _ := main
  unfold bandplanref32_On.f bandAt
  rw [main]
  show _ = some ((first bb l.length 0).getD 0)
  cases first bb l.length 0 <;> rfl

theorem bands_ok (l : List S_api_Choice) (hl : l.length ≤ 1000) (hc : COk l) (k : Nat) (hk : l.length + 1 ≤ k) : ∃ m, outcome_bands.f k l = some m ∧ ∀ st, mget m st = bandAt l st := by
  let g : Nat → S_api_Choice := fun i => l.getD i default
  have sg : ∀ i (h : i < l.length), l[i] = g i := fun i h => by simp [g, List.getD, h]
  let M : Nat → List (Int × Int) := fun i => Nat.rec [] (fun j m => mset m (g j).f_Station (bandOf (g j).f_Channel)) i
  have main := loop_fold (L := outcome_bands.l0 l) (σ := fun i => ((i : Int), M i)) (r := M l.length) (n := l.length) (m := 0)
    (fun k i hi _ => by
      show outcome_bands.l0 l (k + 1) ((i : Int), M i) = _
      rw [outcome_bands.l0]
      simp only [List.length_map, if_pos (lt_cast hi), idxn l i hi, Option.bind_some, succ_cast hl hi, sg i hi]
      rw [band_ok (g i).f_Channel (hc.2 i hi)]
      rfl)
    (fun k => by
      show outcome_bands.l0 l (k + 1) ((l.length : Int), M l.length) = _
      rw [outcome_bands.l0]
      simp only [List.length_map, if_neg nlt_cast])
    l.length 0 k (by omega) (by omega)
  have main : outcome_bands.l0 l k (0, []) = _ := main
  refine ⟨M l.length, by unfold outcome_bands.f; rw [main]; rfl, fun st => ?_⟩
  let bb : Nat → Option Int := fun i => if (g i).f_Station = st then some (bandOf (g i).f_Channel) else none
  have rise : ∀ i, i < l.length → ∀ j, j < i → (g j).f_Station < (g i).f_Station := by
    intro i
    induction i with
    | zero => intro _ j h; omega
    | succ i ih =>
      intro hi j hj
      have h1 : (g i).f_Station < (g (i + 1)).f_Station := (hc.1 (i + 1) hi).2.2 i rfl
      by_cases e : j = i
      · subst e; exact h1
      · have := ih (by omega) j (by omega); omega
  have key : ∀ i, i ≤ l.length → mget (M i) st = first bb i 0 := by
    intro i
    induction i with
    | zero => intro _; rfl
    | succ i ih =>
      intro hi
      have e : M (i + 1) = mset (M i) (g i).f_Station (bandOf (g i).f_Channel) := rfl
      rw [e, mget_mset, first_snoc, Nat.zero_add, ih (by omega)]
      by_cases es : (g i).f_Station = st
      · rw [if_pos es]
        have : first bb i 0 = none := by
          rw [first_none]
          intro q _ hq
          have := rise i (by omega) q (by omega)
          have hne : ¬ (g q).f_Station = st := by omega
          simp only [bb, if_neg hne]
        rw [this]
        simp only [bb, if_pos es]
      · rw [if_neg es]
        have : bb i = none := by simp only [bb, if_neg es]
        rw [this]
        cases first bb i 0 <;> rfl
  exact key l.length (Nat.le_refl _)
end Go.Proofs.YtgobepjodkggoaaDoor.Pu
