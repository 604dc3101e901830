/- The reference of problems: Find, Has, Valid. -/
import Derived.Test.YtelgmdljcbkniaaGreatDoorRf2
namespace Go.Proofs.YtelgmdljcbkniaaGreatDoor.Pr
open Go Go.Proofs Go.Proofs.YtelgmdljcbkniaaGreatDoor.Ai Go.Proofs.YtelgmdljcbkniaaGreatDoor.Ti Go.Proofs.YtelgmdljcbkniaaGreatDoor.Dt
set_option maxRecDepth 100000
/-- The index of what fits, or -1. -/
def idxI {α : Type} (p : α → Bool) : List α → Int
  | [] => -1
  | x :: r => bif p x then 0 else (if idxI p r < 0 then -1 else idxI p r + 1)
theorem idxI_at {α : Type} {p : α → Bool} : ∀ {l : List α} {i : Nat} (h : i < l.length), (∀ (j : Nat) (h : j < l.length), j < i → p l[j] = false) → p l[i] = true → idxI p l = (i : Int)
  | x :: r, 0, _, _, hp => by simp only [idxI]; rw [show p x = true from hp]; rfl
  | x :: r, i + 1, h, hj, hp => by
    have h0 : p x = false := hj 0 (by simp) (by omega)
    have ih := idxI_at (l := r) (i := i) (by simpa using h) (fun j h hji => by have := hj (j + 1) (by simpa using h) (by omega); simpa only [List.getElem_cons_succ] using this) (by simpa only [List.getElem_cons_succ] using hp)
    simp only [idxI, h0, cond_false, ih]
    rw [if_neg (by omega)]; omega
theorem idxI_none {α : Type} {p : α → Bool} : ∀ {l : List α}, (∀ (j : Nat) (h : j < l.length), p l[j] = false) → idxI p l = -1
  | [], _ => rfl
  | x :: r, hj => by
    have h0 : p x = false := hj 0 (by simp)
    have ih := idxI_none (l := r) (fun j h => by have := hj (j + 1) (by simpa using h); simpa only [List.getElem_cons_succ] using this)
    simp only [idxI, h0, cond_false, ih]; rfl
theorem idxI_cases {α : Type} (p : α → Bool) (l : List α) : (idxI p l = -1 ∧ ∀ (j : Nat) (h : j < l.length), p l[j] = false) ∨ ∃ (i : Nat) (h : i < l.length), idxI p l = (i : Int) ∧ p l[i] = true ∧ ∀ (j : Nat) (h : j < l.length), j < i → p l[j] = false := by
  induction l with
  | nil => exact .inl ⟨rfl, fun j h => by simp at h⟩
  | cons x r ih =>
    cases hp : p x with
    | true => exact .inr ⟨0, by simp, by simp only [idxI, hp, cond_true]; rfl, hp, fun j _ h => absurd h (by omega)⟩
    | false =>
      rcases ih with ⟨h1, h2⟩ | ⟨i, hi, h1, h2, h3⟩
      · refine .inl ⟨by simp only [idxI, hp, cond_false, h1]; rfl, fun j h => ?_⟩
        cases j with
        | zero => exact hp
        | succ j => exact h2 j (by simpa using h)
      · refine .inr ⟨i + 1, by simpa using hi, ?_, h2, fun j h hji => ?_⟩
        · simp only [idxI, hp, cond_false, h1]; rw [if_neg (by omega)]; omega
        · cases j with
          | zero => exact hp
          | succ j => exact h3 j (by simpa using h) (by omega)
theorem idxI_neg {α : Type} (p : α → Bool) (l : List α) : idxI p l < 0 ↔ l.any p = false := by
  rw [List.any_eq_false]
  rcases idxI_cases p l with ⟨h1, h2⟩ | ⟨i, hi, h1, h2, _⟩
  · rw [h1]
    exact ⟨fun _ x hx => by obtain ⟨j, hj, rfl⟩ := List.getElem_of_mem hx; rw [h2 j hj]; simp, fun _ => by omega⟩
  · rw [h1]
    exact ⟨fun h => by omega, fun h => absurd h2 (h _ (List.getElem_mem hi))⟩
def findI (ds : List S_api_Domain) (n : Int) : Int := idxI (fun d => decide (d.f_Station = n)) ds
theorem findI_neg (ds : List S_api_Domain) (n : Int) : findI ds n < 0 ↔ foundB ds n = false := idxI_neg _ _
theorem find_ok (p : S_api_Problem) (n : Int) (hl : p.f_Domains.length < 1000000) : V cx.P 52 [p.enc, .int .i64 n] (.int .i64 (findI p.f_Domains n)) := by
  refine V_of Tryz.func52 rfl en52 (by kernel_rfl) (by kernel_rfl) ?_
  conv => whnf
  let B : List Blk := [.cells [encL S_api_Domain.enc p.f_Domains, encL S_api_Pair.enc p.f_Rules.f_Pairs, encL S_api_Load.enc p.f_Rules.f_Loads, encL S_api_Cap.enc p.f_Rules.f_Caps]]
  refine loopI p.f_Domains.length (fun i => ⟨[(1, .int .i64 n), (2, .ptr 0 0), (5, .int .i64 (i : Int))], B⟩)
    (fun i => ∀ (j : Nat) (h : j < p.f_Domains.length), j < i → decide (p.f_Domains[j].f_Station = n) = false) (by kernel_rfl) (weak_sel ⟨rfl, rfl, rfl, trivial⟩ rfl) (fun j h hj => absurd hj (by omega)) (fun i hi hI => ?_)
  conv => whnf
  refine bD (fun hlt => ?_) (fun hlt => ?_)
  · have hlt' : i < p.f_Domains.length := by simpa using hlt
    by_cases hn : p.f_Domains[i].f_Station = n
    · have hb : (p.f_Domains[i].f_Station == n) = true := by simpa using hn
      repeat' ((conv => whnf); first | refine bT (decide_eq_true (by assumption)) ?_ | refine bF (decide_eq_false (by assumption)) ?_ | refine bT (by assumption) ?_ | refine bF (by assumption) ?_ | refine bT (notT (by assumption)) ?_ | refine bF (notF (by assumption)) ?_ | refine bD (fun _ => ?_) (fun _ => ?_) | refine OrdT.mk (by rfl) ?_ | refine oK (idxL_map hlt') ?_ | refine bS (fun _ => ?_) (fun _ => ?_))
      conv => whnf
      exact retI (idxI_at hlt' hI (by simpa using hn)).symm
    · have hb : (p.f_Domains[i].f_Station == n) = false := by simpa using hn
      repeat' ((conv => whnf); first | refine bT (decide_eq_true (by assumption)) ?_ | refine bF (decide_eq_false (by assumption)) ?_ | refine bT (by assumption) ?_ | refine bF (by assumption) ?_ | refine bT (notT (by assumption)) ?_ | refine bF (notF (by assumption)) ?_ | refine bD (fun _ => ?_) (fun _ => ?_) | refine OrdT.mk (by rfl) ?_ | refine oK (idxL_map hlt') ?_ | refine bS (fun _ => ?_) (fun _ => ?_))
      conv => whnf
      refine ⟨hlt', fun j h hji => ?_, weak_sel ⟨rfl, rfl, succ_i (by omega), trivial⟩ rfl⟩
      by_cases e : j = i
      · subst e; simpa using hn
      · exact hI j h (by omega)
  · conv => whnf
    have hge : ¬ i < p.f_Domains.length := by simpa using hlt
    exact retI (idxI_none fun j hj => hI j hj (by omega)).symm
def hasB (l : List Int) (n : Int) : Bool := l.any fun x => decide (x = n)
theorem any_at {α : Type} {p : α → Bool} {l : List α} {i : Nat} (h : i < l.length) (hp : p l[i] = true) : true = l.any p := (List.any_eq_true.2 ⟨_, List.getElem_mem h, hp⟩).symm
theorem any_none {α : Type} {p : α → Bool} {l : List α} (hj : ∀ (j : Nat) (h : j < l.length), p l[j] = false) : false = l.any p := by
  symm; rw [List.any_eq_false]
  intro x hx
  obtain ⟨j, hj', rfl⟩ := List.getElem_of_mem hx
  rw [hj j hj']; simp
theorem has_ok (l : List Int) (n : Int) (hl : l.length < 1000000) : V cx.P 53 [encL (AV.int .i64) l, .int .i64 n] (.bool (hasB l n)) := by
  refine V_of Tryz.func53 rfl en53 (by kernel_rfl) (by kernel_rfl) ?_
  conv => whnf
  refine loopI l.length (fun i => ⟨[(0, encL (AV.int .i64) l), (1, .int .i64 n), (5, .int .i64 (i : Int))], []⟩)
    (fun i => ∀ (j : Nat) (h : j < l.length), j < i → decide (l[j] = n) = false) (by kernel_rfl) (weak_sel ⟨rfl, rfl, rfl, trivial⟩ rfl) (fun j h hj => absurd hj (by omega)) (fun i hi hI => ?_)
  conv => whnf
  refine bD (fun hlt => ?_) (fun hlt => ?_)
  · have hlt' : i < l.length := by simpa using hlt
    by_cases hn : l[i] = n
    · have hb : (l[i] == n) = true := by simpa using hn
      repeat' ((conv => whnf); first | refine bT (decide_eq_true (by assumption)) ?_ | refine bF (decide_eq_false (by assumption)) ?_ | refine bT (by assumption) ?_ | refine bF (by assumption) ?_ | refine bT (notT (by assumption)) ?_ | refine bF (notF (by assumption)) ?_ | refine bD (fun _ => ?_) (fun _ => ?_) | refine OrdT.mk (by rfl) ?_ | refine oK (idxL_map hlt') ?_ | refine bS (fun _ => ?_) (fun _ => ?_))
      conv => whnf
      exact retB (any_at hlt' (by simpa using hn))
    · have hb : (l[i] == n) = false := by simpa using hn
      repeat' ((conv => whnf); first | refine bT (decide_eq_true (by assumption)) ?_ | refine bF (decide_eq_false (by assumption)) ?_ | refine bT (by assumption) ?_ | refine bF (by assumption) ?_ | refine bT (notT (by assumption)) ?_ | refine bF (notF (by assumption)) ?_ | refine bD (fun _ => ?_) (fun _ => ?_) | refine OrdT.mk (by rfl) ?_ | refine oK (idxL_map hlt') ?_ | refine bS (fun _ => ?_) (fun _ => ?_))
      conv => whnf
      refine ⟨hlt', fun j h hji => ?_, weak_sel ⟨rfl, rfl, succ_i (by omega), trivial⟩ rfl⟩
      by_cases e : j = i
      · subst e; simpa using hn
      · exact hI j h (by omega)
  · conv => whnf
    have hge : ¬ i < l.length := by simpa using hlt
    exact retB (any_none fun j hj => hI j hj (by omega))
end Go.Proofs.YtelgmdljcbkniaaGreatDoor.Pr
