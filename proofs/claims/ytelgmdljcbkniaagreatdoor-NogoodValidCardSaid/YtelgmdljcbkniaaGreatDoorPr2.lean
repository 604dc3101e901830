/- Problems: rising lists. -/
import Derived.Test.YtelgmdljcbkniaaGreatDoorPr1
namespace Go.Proofs.YtelgmdljcbkniaaGreatDoor.Pr
open Go Go.Proofs Go.Proofs.YtelgmdljcbkniaaGreatDoor.Ai Go.Proofs.YtelgmdljcbkniaaGreatDoor.Ti Go.Proofs.YtelgmdljcbkniaaGreatDoor.Dt
set_option maxRecDepth 100000
def riseB {α : Type} (pv : α → Bool) (po : α → α → Int) : List α → Bool
  | [] => true
  | [x] => pv x
  | x :: y :: r => pv x && decide (po x y < 0) && riseB pv po (y :: r)
theorem riseB_iff {α : Type} (pv : α → Bool) (po : α → α → Int) : ∀ l : List α, riseB pv po l = true ↔ ∀ (j : Nat) (h : j < l.length), pv l[j] = true ∧ ∀ h0 : 0 < j, po l[j-1] l[j] < 0
  | [] => by simp [riseB]
  | [x] => by
    simp only [riseB]
    constructor
    · intro h j hj
      have : j = 0 := by simpa using hj
      subst this
      exact ⟨h, fun h0 => absurd h0 (by omega)⟩
    · intro h; exact (h 0 (by simp)).1
  | x :: y :: r => by
    simp only [riseB, Bool.and_eq_true, decide_eq_true_eq, riseB_iff pv po (y :: r)]
    constructor
    · rintro ⟨⟨h1, h2⟩, h3⟩ j hj
      cases j with
      | zero => exact ⟨h1, fun h0 => absurd h0 (by omega)⟩
      | succ j =>
        have h4 := h3 j (by simpa using hj)
        refine ⟨h4.1, fun _ => ?_⟩
        cases j with
        | zero => exact h2
        | succ j => exact h4.2 (by omega)
    · intro h
      refine ⟨⟨(h 0 (by simp)).1, (h 1 (by simp)).2 (by omega)⟩, fun j hj => ?_⟩
      have h4 := h (j + 1) (by simpa using hj)
      refine ⟨h4.1, fun h0 => ?_⟩
      have h5 := h4.2 (by omega)
      cases j with
      | zero => exact absurd h0 (by omega)
      | succ j => exact h5
theorem rise_no {α : Type} {pv : α → Bool} {po : α → α → Int} {l : List α} (j : Nat) (h : j < l.length) (hn : ¬ (pv l[j] = true ∧ ∀ h0 : 0 < j, po l[j-1] l[j] < 0)) : false = riseB pv po l := by
  cases hr : riseB pv po l with
  | false => rfl
  | true => exact absurd ((riseB_iff pv po l).1 hr j h) hn
theorem rise_yes {α : Type} {pv : α → Bool} {po : α → α → Int} {l : List α} (h : ∀ (j : Nat) (h : j < l.length), pv l[j] = true ∧ ∀ h0 : 0 < j, po l[j-1] l[j] < 0) : true = riseB pv po l := ((riseB_iff pv po l).2 h).symm
theorem rise_step {α : Type} {pv : α → Bool} {po : α → α → Int} {l : List α} {i : Nat} (hI : ∀ (j : Nat) (h : j < l.length), j < i → pv l[j] = true ∧ ∀ h0 : 0 < j, po l[j-1] l[j] < 0) (h : ∀ h : i < l.length, pv l[i] = true ∧ ∀ h0 : 0 < i, po l[i-1] l[i] < 0) :
    ∀ (j : Nat) (h : j < l.length), j < i + 1 → pv l[j] = true ∧ ∀ h0 : 0 < j, po l[j-1] l[j] < 0 := fun j hj hji => by
  by_cases e : j = i
  · subst e; exact h hj
  · exact hI j hj (by omega)
theorem rise_dom (l : List S_api_Domain) (f g : Nat) (hl : l.length < 1000000) (pv : S_api_Domain → Bool) (po : S_api_Domain → S_api_Domain → Int) (hv : ∀ x ∈ l, V cx.P f [S_api_Domain.enc x] (.bool (pv x))) (ho : ∀ x y, pv x = true → pv y = true → V cx.P g [S_api_Domain.enc x, S_api_Domain.enc y] (.int .i64 (po x y))) :
    V cx.P 90 [encL (S_api_Domain.enc) l, .fn f [], .fn g []] (.bool (riseB pv po l)) := by
  refine V_of Tryz.func90 rfl en90 (by kernel_rfl) (by kernel_rfl) ?_
  conv => whnf
  refine loopI l.length (fun i => ⟨[(0, encL (S_api_Domain.enc) l), (1, .fn f []), (2, .fn g []), (9, encL (S_api_Domain.enc) l), (10, .int .i64 ((l.map (S_api_Domain.enc)).length : Int)), (11, .int .i64 (i : Int))], []⟩)
    (fun i => ∀ (j : Nat) (h : j < l.length), j < i → pv l[j] = true ∧ ∀ h0 : 0 < j, po l[j-1] l[j] < 0) (by kernel_rfl) (weak_sel ⟨rfl, rfl, rfl, rfl, rfl, rfl, trivial⟩ rfl) (fun j h hj => absurd hj (by omega)) (fun i hi hI => ?_)
  conv => whnf
  refine bD (fun hlt => ?_) (fun hlt => ?_)
  · have hlt' : i < l.length := by simpa using hlt
    conv => whnf
    refine oK (idxL_map hlt') ?_
    conv => whnf
    refine callV (hv l[i] (List.getElem_mem _)) ?_
    conv => whnf
    cases hp : pv l[i] with
    | false =>
      repeat' ((conv => whnf); first | refine bT (decide_eq_true (by assumption)) ?_ | refine bF (decide_eq_false (by assumption)) ?_ | refine bT (by assumption) ?_ | refine bF (by assumption) ?_ | refine bT (notT (by assumption)) ?_ | refine bF (notF (by assumption)) ?_ | refine bD (fun _ => ?_) (fun _ => ?_) | refine OrdT.mk (by rfl) ?_ | refine bS (fun _ => ?_) (fun _ => ?_))
      conv => whnf
      exact retB (rise_no i hlt' fun h => by rw [h.1] at hp; cases hp)
    | true =>
      by_cases hi0 : i = 0
      · have h0 : ¬ ((i : Int) > 0) := by omega
        repeat' ((conv => whnf); first | refine bT (decide_eq_true (by assumption)) ?_ | refine bF (decide_eq_false (by assumption)) ?_ | refine bT (by assumption) ?_ | refine bF (by assumption) ?_ | refine bT (notT (by assumption)) ?_ | refine bF (notF (by assumption)) ?_ | refine bD (fun _ => ?_) (fun _ => ?_) | refine OrdT.mk (by rfl) ?_ | refine bS (fun _ => ?_) (fun _ => ?_))
        conv => whnf
        exact ⟨hlt', rise_step hI fun h => ⟨hp, fun h0 => absurd h0 (by omega)⟩, weak_cut 0 ⟨rfl, rfl, rfl, rfl, rfl, succ_i (by omega), trivial⟩ rfl rfl rfl rfl⟩
      · have h0 : (i : Int) > 0 := by omega
        have h1 : i - 1 < l.length := by omega
        repeat' ((conv => whnf); first | refine bT (decide_eq_true (by assumption)) ?_ | refine bF (decide_eq_false (by assumption)) ?_ | refine bT (by assumption) ?_ | refine bF (by assumption) ?_ | refine bT (notT (by assumption)) ?_ | refine bF (notF (by assumption)) ?_ | refine bD (fun _ => ?_) (fun _ => ?_) | refine OrdT.mk (by rfl) ?_ | refine oK (idxL_mapn (i := i - 1) (by rw [w64 (by omega) (by omega)]; omega) h1) ?_ | refine callV (ho _ _ (hI (i-1) h1 (by omega)).1 hp) ?_ | refine bS (fun _ => ?_) (fun _ => ?_))
        · conv => whnf
          exact retB (rise_no i hlt' fun h => by have := h.2 (by omega); omega)
        · conv => whnf
          exact ⟨hlt', rise_step hI fun h => ⟨hp, fun h0 => by omega⟩, weak_cut 0 ⟨rfl, rfl, rfl, rfl, rfl, succ_i (by omega), trivial⟩ rfl rfl rfl rfl⟩
  · conv => whnf
    have hge : ¬ i < l.length := by simpa using hlt
    exact retB (rise_yes fun j hj => hI j hj (by omega))
theorem rise_int (l : List Int) (f g : Nat) (hl : l.length < 1000000) (pv : Int → Bool) (po : Int → Int → Int) (hv : ∀ x ∈ l, V cx.P f [AV.int .i64 x] (.bool (pv x))) (ho : ∀ x y, pv x = true → pv y = true → V cx.P g [AV.int .i64 x, AV.int .i64 y] (.int .i64 (po x y))) :
    V cx.P 93 [encL (AV.int .i64) l, .fn f [], .fn g []] (.bool (riseB pv po l)) := by
  refine V_of Tryz.func93 rfl en93 (by kernel_rfl) (by kernel_rfl) ?_
  conv => whnf
  refine loopI l.length (fun i => ⟨[(0, encL (AV.int .i64) l), (1, .fn f []), (2, .fn g []), (9, encL (AV.int .i64) l), (10, .int .i64 ((l.map (AV.int .i64)).length : Int)), (11, .int .i64 (i : Int))], []⟩)
    (fun i => ∀ (j : Nat) (h : j < l.length), j < i → pv l[j] = true ∧ ∀ h0 : 0 < j, po l[j-1] l[j] < 0) (by kernel_rfl) (weak_sel ⟨rfl, rfl, rfl, rfl, rfl, rfl, trivial⟩ rfl) (fun j h hj => absurd hj (by omega)) (fun i hi hI => ?_)
  conv => whnf
  refine bD (fun hlt => ?_) (fun hlt => ?_)
  · have hlt' : i < l.length := by simpa using hlt
    conv => whnf
    refine oK (idxL_map hlt') ?_
    conv => whnf
    refine callV (hv l[i] (List.getElem_mem _)) ?_
    conv => whnf
    cases hp : pv l[i] with
    | false =>
      repeat' ((conv => whnf); first | refine bT (decide_eq_true (by assumption)) ?_ | refine bF (decide_eq_false (by assumption)) ?_ | refine bT (by assumption) ?_ | refine bF (by assumption) ?_ | refine bT (notT (by assumption)) ?_ | refine bF (notF (by assumption)) ?_ | refine bD (fun _ => ?_) (fun _ => ?_) | refine OrdT.mk (by rfl) ?_ | refine bS (fun _ => ?_) (fun _ => ?_))
      conv => whnf
      exact retB (rise_no i hlt' fun h => by rw [h.1] at hp; cases hp)
    | true =>
      by_cases hi0 : i = 0
      · have h0 : ¬ ((i : Int) > 0) := by omega
        repeat' ((conv => whnf); first | refine bT (decide_eq_true (by assumption)) ?_ | refine bF (decide_eq_false (by assumption)) ?_ | refine bT (by assumption) ?_ | refine bF (by assumption) ?_ | refine bT (notT (by assumption)) ?_ | refine bF (notF (by assumption)) ?_ | refine bD (fun _ => ?_) (fun _ => ?_) | refine OrdT.mk (by rfl) ?_ | refine bS (fun _ => ?_) (fun _ => ?_))
        conv => whnf
        exact ⟨hlt', rise_step hI fun h => ⟨hp, fun h0 => absurd h0 (by omega)⟩, weak_cut 0 ⟨rfl, rfl, rfl, rfl, rfl, succ_i (by omega), trivial⟩ rfl rfl rfl rfl⟩
      · have h0 : (i : Int) > 0 := by omega
        have h1 : i - 1 < l.length := by omega
        repeat' ((conv => whnf); first | refine bT (decide_eq_true (by assumption)) ?_ | refine bF (decide_eq_false (by assumption)) ?_ | refine bT (by assumption) ?_ | refine bF (by assumption) ?_ | refine bT (notT (by assumption)) ?_ | refine bF (notF (by assumption)) ?_ | refine bD (fun _ => ?_) (fun _ => ?_) | refine OrdT.mk (by rfl) ?_ | refine oK (idxL_mapn (i := i - 1) (by rw [w64 (by omega) (by omega)]; omega) h1) ?_ | refine callV (ho _ _ (hI (i-1) h1 (by omega)).1 hp) ?_ | refine bS (fun _ => ?_) (fun _ => ?_))
        · conv => whnf
          exact retB (rise_no i hlt' fun h => by have := h.2 (by omega); omega)
        · conv => whnf
          exact ⟨hlt', rise_step hI fun h => ⟨hp, fun h0 => by omega⟩, weak_cut 0 ⟨rfl, rfl, rfl, rfl, rfl, succ_i (by omega), trivial⟩ rfl rfl rfl rfl⟩
  · conv => whnf
    have hge : ¬ i < l.length := by simpa using hlt
    exact retB (rise_yes fun j hj => hI j hj (by omega))
theorem rise_choice (l : List S_api_Choice) (f g : Nat) (hl : l.length < 1000000) (pv : S_api_Choice → Bool) (po : S_api_Choice → S_api_Choice → Int) (hv : ∀ x ∈ l, V cx.P f [S_api_Choice.enc x] (.bool (pv x))) (ho : ∀ x y, pv x = true → pv y = true → V cx.P g [S_api_Choice.enc x, S_api_Choice.enc y] (.int .i64 (po x y))) :
    V cx.P 125 [encL (S_api_Choice.enc) l, .fn f [], .fn g []] (.bool (riseB pv po l)) := by
  refine V_of Tryz.func125 rfl en125 (by kernel_rfl) (by kernel_rfl) ?_
  conv => whnf
  refine loopI l.length (fun i => ⟨[(0, encL (S_api_Choice.enc) l), (1, .fn f []), (2, .fn g []), (9, encL (S_api_Choice.enc) l), (10, .int .i64 ((l.map (S_api_Choice.enc)).length : Int)), (11, .int .i64 (i : Int))], []⟩)
    (fun i => ∀ (j : Nat) (h : j < l.length), j < i → pv l[j] = true ∧ ∀ h0 : 0 < j, po l[j-1] l[j] < 0) (by kernel_rfl) (weak_sel ⟨rfl, rfl, rfl, rfl, rfl, rfl, trivial⟩ rfl) (fun j h hj => absurd hj (by omega)) (fun i hi hI => ?_)
  conv => whnf
  refine bD (fun hlt => ?_) (fun hlt => ?_)
  · have hlt' : i < l.length := by simpa using hlt
    conv => whnf
    refine oK (idxL_map hlt') ?_
    conv => whnf
    refine callV (hv l[i] (List.getElem_mem _)) ?_
    conv => whnf
    cases hp : pv l[i] with
    | false =>
      repeat' ((conv => whnf); first | refine bT (decide_eq_true (by assumption)) ?_ | refine bF (decide_eq_false (by assumption)) ?_ | refine bT (by assumption) ?_ | refine bF (by assumption) ?_ | refine bT (notT (by assumption)) ?_ | refine bF (notF (by assumption)) ?_ | refine bD (fun _ => ?_) (fun _ => ?_) | refine OrdT.mk (by rfl) ?_ | refine bS (fun _ => ?_) (fun _ => ?_))
      conv => whnf
      exact retB (rise_no i hlt' fun h => by rw [h.1] at hp; cases hp)
    | true =>
      by_cases hi0 : i = 0
      · have h0 : ¬ ((i : Int) > 0) := by omega
        repeat' ((conv => whnf); first | refine bT (decide_eq_true (by assumption)) ?_ | refine bF (decide_eq_false (by assumption)) ?_ | refine bT (by assumption) ?_ | refine bF (by assumption) ?_ | refine bT (notT (by assumption)) ?_ | refine bF (notF (by assumption)) ?_ | refine bD (fun _ => ?_) (fun _ => ?_) | refine OrdT.mk (by rfl) ?_ | refine bS (fun _ => ?_) (fun _ => ?_))
        conv => whnf
        exact ⟨hlt', rise_step hI fun h => ⟨hp, fun h0 => absurd h0 (by omega)⟩, weak_cut 0 ⟨rfl, rfl, rfl, rfl, rfl, succ_i (by omega), trivial⟩ rfl rfl rfl rfl⟩
      · have h0 : (i : Int) > 0 := by omega
        have h1 : i - 1 < l.length := by omega
        repeat' ((conv => whnf); first | refine bT (decide_eq_true (by assumption)) ?_ | refine bF (decide_eq_false (by assumption)) ?_ | refine bT (by assumption) ?_ | refine bF (by assumption) ?_ | refine bT (notT (by assumption)) ?_ | refine bF (notF (by assumption)) ?_ | refine bD (fun _ => ?_) (fun _ => ?_) | refine OrdT.mk (by rfl) ?_ | refine oK (idxL_mapn (i := i - 1) (by rw [w64 (by omega) (by omega)]; omega) h1) ?_ | refine callV (ho _ _ (hI (i-1) h1 (by omega)).1 hp) ?_ | refine bS (fun _ => ?_) (fun _ => ?_))
        · conv => whnf
          exact retB (rise_no i hlt' fun h => by have := h.2 (by omega); omega)
        · conv => whnf
          exact ⟨hlt', rise_step hI fun h => ⟨hp, fun h0 => by omega⟩, weak_cut 0 ⟨rfl, rfl, rfl, rfl, rfl, succ_i (by omega), trivial⟩ rfl rfl rfl rfl⟩
  · conv => whnf
    have hge : ¬ i < l.length := by simpa using hlt
    exact retB (rise_yes fun j hj => hI j hj (by omega))
theorem rise_pair (l : List S_api_Pair) (f g : Nat) (hl : l.length < 1000000) (pv : S_api_Pair → Bool) (po : S_api_Pair → S_api_Pair → Int) (hv : ∀ x ∈ l, V cx.P f [S_api_Pair.enc x] (.bool (pv x))) (ho : ∀ x y, pv x = true → pv y = true → V cx.P g [S_api_Pair.enc x, S_api_Pair.enc y] (.int .i64 (po x y))) :
    V cx.P 145 [encL (S_api_Pair.enc) l, .fn f [], .fn g []] (.bool (riseB pv po l)) := by
  refine V_of Tryz.func145 rfl en145 (by kernel_rfl) (by kernel_rfl) ?_
  conv => whnf
  refine loopI l.length (fun i => ⟨[(0, encL (S_api_Pair.enc) l), (1, .fn f []), (2, .fn g []), (9, encL (S_api_Pair.enc) l), (10, .int .i64 ((l.map (S_api_Pair.enc)).length : Int)), (11, .int .i64 (i : Int))], []⟩)
    (fun i => ∀ (j : Nat) (h : j < l.length), j < i → pv l[j] = true ∧ ∀ h0 : 0 < j, po l[j-1] l[j] < 0) (by kernel_rfl) (weak_sel ⟨rfl, rfl, rfl, rfl, rfl, rfl, trivial⟩ rfl) (fun j h hj => absurd hj (by omega)) (fun i hi hI => ?_)
  conv => whnf
  refine bD (fun hlt => ?_) (fun hlt => ?_)
  · have hlt' : i < l.length := by simpa using hlt
    conv => whnf
    refine oK (idxL_map hlt') ?_
    conv => whnf
    refine callV (hv l[i] (List.getElem_mem _)) ?_
    conv => whnf
    cases hp : pv l[i] with
    | false =>
      repeat' ((conv => whnf); first | refine bT (decide_eq_true (by assumption)) ?_ | refine bF (decide_eq_false (by assumption)) ?_ | refine bT (by assumption) ?_ | refine bF (by assumption) ?_ | refine bT (notT (by assumption)) ?_ | refine bF (notF (by assumption)) ?_ | refine bD (fun _ => ?_) (fun _ => ?_) | refine OrdT.mk (by rfl) ?_ | refine bS (fun _ => ?_) (fun _ => ?_))
      conv => whnf
      exact retB (rise_no i hlt' fun h => by rw [h.1] at hp; cases hp)
    | true =>
      by_cases hi0 : i = 0
      · have h0 : ¬ ((i : Int) > 0) := by omega
        repeat' ((conv => whnf); first | refine bT (decide_eq_true (by assumption)) ?_ | refine bF (decide_eq_false (by assumption)) ?_ | refine bT (by assumption) ?_ | refine bF (by assumption) ?_ | refine bT (notT (by assumption)) ?_ | refine bF (notF (by assumption)) ?_ | refine bD (fun _ => ?_) (fun _ => ?_) | refine OrdT.mk (by rfl) ?_ | refine bS (fun _ => ?_) (fun _ => ?_))
        conv => whnf
        exact ⟨hlt', rise_step hI fun h => ⟨hp, fun h0 => absurd h0 (by omega)⟩, weak_cut 0 ⟨rfl, rfl, rfl, rfl, rfl, succ_i (by omega), trivial⟩ rfl rfl rfl rfl⟩
      · have h0 : (i : Int) > 0 := by omega
        have h1 : i - 1 < l.length := by omega
        repeat' ((conv => whnf); first | refine bT (decide_eq_true (by assumption)) ?_ | refine bF (decide_eq_false (by assumption)) ?_ | refine bT (by assumption) ?_ | refine bF (by assumption) ?_ | refine bT (notT (by assumption)) ?_ | refine bF (notF (by assumption)) ?_ | refine bD (fun _ => ?_) (fun _ => ?_) | refine OrdT.mk (by rfl) ?_ | refine oK (idxL_mapn (i := i - 1) (by rw [w64 (by omega) (by omega)]; omega) h1) ?_ | refine callV (ho _ _ (hI (i-1) h1 (by omega)).1 hp) ?_ | refine bS (fun _ => ?_) (fun _ => ?_))
        · conv => whnf
          exact retB (rise_no i hlt' fun h => by have := h.2 (by omega); omega)
        · conv => whnf
          exact ⟨hlt', rise_step hI fun h => ⟨hp, fun h0 => by omega⟩, weak_cut 0 ⟨rfl, rfl, rfl, rfl, rfl, succ_i (by omega), trivial⟩ rfl rfl rfl rfl⟩
  · conv => whnf
    have hge : ¬ i < l.length := by simpa using hlt
    exact retB (rise_yes fun j hj => hI j hj (by omega))
theorem rise_load (l : List S_api_Load) (f g : Nat) (hl : l.length < 1000000) (pv : S_api_Load → Bool) (po : S_api_Load → S_api_Load → Int) (hv : ∀ x ∈ l, V cx.P f [S_api_Load.enc x] (.bool (pv x))) (ho : ∀ x y, pv x = true → pv y = true → V cx.P g [S_api_Load.enc x, S_api_Load.enc y] (.int .i64 (po x y))) :
    V cx.P 148 [encL (S_api_Load.enc) l, .fn f [], .fn g []] (.bool (riseB pv po l)) := by
  refine V_of Tryz.func148 rfl en148 (by kernel_rfl) (by kernel_rfl) ?_
  conv => whnf
  refine loopI l.length (fun i => ⟨[(0, encL (S_api_Load.enc) l), (1, .fn f []), (2, .fn g []), (9, encL (S_api_Load.enc) l), (10, .int .i64 ((l.map (S_api_Load.enc)).length : Int)), (11, .int .i64 (i : Int))], []⟩)
    (fun i => ∀ (j : Nat) (h : j < l.length), j < i → pv l[j] = true ∧ ∀ h0 : 0 < j, po l[j-1] l[j] < 0) (by kernel_rfl) (weak_sel ⟨rfl, rfl, rfl, rfl, rfl, rfl, trivial⟩ rfl) (fun j h hj => absurd hj (by omega)) (fun i hi hI => ?_)
  conv => whnf
  refine bD (fun hlt => ?_) (fun hlt => ?_)
  · have hlt' : i < l.length := by simpa using hlt
    conv => whnf
    refine oK (idxL_map hlt') ?_
    conv => whnf
    refine callV (hv l[i] (List.getElem_mem _)) ?_
    conv => whnf
    cases hp : pv l[i] with
    | false =>
      repeat' ((conv => whnf); first | refine bT (decide_eq_true (by assumption)) ?_ | refine bF (decide_eq_false (by assumption)) ?_ | refine bT (by assumption) ?_ | refine bF (by assumption) ?_ | refine bT (notT (by assumption)) ?_ | refine bF (notF (by assumption)) ?_ | refine bD (fun _ => ?_) (fun _ => ?_) | refine OrdT.mk (by rfl) ?_ | refine bS (fun _ => ?_) (fun _ => ?_))
      conv => whnf
      exact retB (rise_no i hlt' fun h => by rw [h.1] at hp; cases hp)
    | true =>
      by_cases hi0 : i = 0
      · have h0 : ¬ ((i : Int) > 0) := by omega
        repeat' ((conv => whnf); first | refine bT (decide_eq_true (by assumption)) ?_ | refine bF (decide_eq_false (by assumption)) ?_ | refine bT (by assumption) ?_ | refine bF (by assumption) ?_ | refine bT (notT (by assumption)) ?_ | refine bF (notF (by assumption)) ?_ | refine bD (fun _ => ?_) (fun _ => ?_) | refine OrdT.mk (by rfl) ?_ | refine bS (fun _ => ?_) (fun _ => ?_))
        conv => whnf
        exact ⟨hlt', rise_step hI fun h => ⟨hp, fun h0 => absurd h0 (by omega)⟩, weak_cut 0 ⟨rfl, rfl, rfl, rfl, rfl, succ_i (by omega), trivial⟩ rfl rfl rfl rfl⟩
      · have h0 : (i : Int) > 0 := by omega
        have h1 : i - 1 < l.length := by omega
        repeat' ((conv => whnf); first | refine bT (decide_eq_true (by assumption)) ?_ | refine bF (decide_eq_false (by assumption)) ?_ | refine bT (by assumption) ?_ | refine bF (by assumption) ?_ | refine bT (notT (by assumption)) ?_ | refine bF (notF (by assumption)) ?_ | refine bD (fun _ => ?_) (fun _ => ?_) | refine OrdT.mk (by rfl) ?_ | refine oK (idxL_mapn (i := i - 1) (by rw [w64 (by omega) (by omega)]; omega) h1) ?_ | refine callV (ho _ _ (hI (i-1) h1 (by omega)).1 hp) ?_ | refine bS (fun _ => ?_) (fun _ => ?_))
        · conv => whnf
          exact retB (rise_no i hlt' fun h => by have := h.2 (by omega); omega)
        · conv => whnf
          exact ⟨hlt', rise_step hI fun h => ⟨hp, fun h0 => by omega⟩, weak_cut 0 ⟨rfl, rfl, rfl, rfl, rfl, succ_i (by omega), trivial⟩ rfl rfl rfl rfl⟩
  · conv => whnf
    have hge : ¬ i < l.length := by simpa using hlt
    exact retB (rise_yes fun j hj => hI j hj (by omega))
theorem rise_cap (l : List S_api_Cap) (f g : Nat) (hl : l.length < 1000000) (pv : S_api_Cap → Bool) (po : S_api_Cap → S_api_Cap → Int) (hv : ∀ x ∈ l, V cx.P f [S_api_Cap.enc x] (.bool (pv x))) (ho : ∀ x y, pv x = true → pv y = true → V cx.P g [S_api_Cap.enc x, S_api_Cap.enc y] (.int .i64 (po x y))) :
    V cx.P 151 [encL (S_api_Cap.enc) l, .fn f [], .fn g []] (.bool (riseB pv po l)) := by
  refine V_of Tryz.func151 rfl en151 (by kernel_rfl) (by kernel_rfl) ?_
  conv => whnf
  refine loopI l.length (fun i => ⟨[(0, encL (S_api_Cap.enc) l), (1, .fn f []), (2, .fn g []), (9, encL (S_api_Cap.enc) l), (10, .int .i64 ((l.map (S_api_Cap.enc)).length : Int)), (11, .int .i64 (i : Int))], []⟩)
    (fun i => ∀ (j : Nat) (h : j < l.length), j < i → pv l[j] = true ∧ ∀ h0 : 0 < j, po l[j-1] l[j] < 0) (by kernel_rfl) (weak_sel ⟨rfl, rfl, rfl, rfl, rfl, rfl, trivial⟩ rfl) (fun j h hj => absurd hj (by omega)) (fun i hi hI => ?_)
  conv => whnf
  refine bD (fun hlt => ?_) (fun hlt => ?_)
  · have hlt' : i < l.length := by simpa using hlt
    conv => whnf
    refine oK (idxL_map hlt') ?_
    conv => whnf
    refine callV (hv l[i] (List.getElem_mem _)) ?_
    conv => whnf
    cases hp : pv l[i] with
    | false =>
      repeat' ((conv => whnf); first | refine bT (decide_eq_true (by assumption)) ?_ | refine bF (decide_eq_false (by assumption)) ?_ | refine bT (by assumption) ?_ | refine bF (by assumption) ?_ | refine bT (notT (by assumption)) ?_ | refine bF (notF (by assumption)) ?_ | refine bD (fun _ => ?_) (fun _ => ?_) | refine OrdT.mk (by rfl) ?_ | refine bS (fun _ => ?_) (fun _ => ?_))
      conv => whnf
      exact retB (rise_no i hlt' fun h => by rw [h.1] at hp; cases hp)
    | true =>
      by_cases hi0 : i = 0
      · have h0 : ¬ ((i : Int) > 0) := by omega
        repeat' ((conv => whnf); first | refine bT (decide_eq_true (by assumption)) ?_ | refine bF (decide_eq_false (by assumption)) ?_ | refine bT (by assumption) ?_ | refine bF (by assumption) ?_ | refine bT (notT (by assumption)) ?_ | refine bF (notF (by assumption)) ?_ | refine bD (fun _ => ?_) (fun _ => ?_) | refine OrdT.mk (by rfl) ?_ | refine bS (fun _ => ?_) (fun _ => ?_))
        conv => whnf
        exact ⟨hlt', rise_step hI fun h => ⟨hp, fun h0 => absurd h0 (by omega)⟩, weak_cut 0 ⟨rfl, rfl, rfl, rfl, rfl, succ_i (by omega), trivial⟩ rfl rfl rfl rfl⟩
      · have h0 : (i : Int) > 0 := by omega
        have h1 : i - 1 < l.length := by omega
        repeat' ((conv => whnf); first | refine bT (decide_eq_true (by assumption)) ?_ | refine bF (decide_eq_false (by assumption)) ?_ | refine bT (by assumption) ?_ | refine bF (by assumption) ?_ | refine bT (notT (by assumption)) ?_ | refine bF (notF (by assumption)) ?_ | refine bD (fun _ => ?_) (fun _ => ?_) | refine OrdT.mk (by rfl) ?_ | refine oK (idxL_mapn (i := i - 1) (by rw [w64 (by omega) (by omega)]; omega) h1) ?_ | refine callV (ho _ _ (hI (i-1) h1 (by omega)).1 hp) ?_ | refine bS (fun _ => ?_) (fun _ => ?_))
        · conv => whnf
          exact retB (rise_no i hlt' fun h => by have := h.2 (by omega); omega)
        · conv => whnf
          exact ⟨hlt', rise_step hI fun h => ⟨hp, fun h0 => by omega⟩, weak_cut 0 ⟨rfl, rfl, rfl, rfl, rfl, succ_i (by omega), trivial⟩ rfl rfl rfl rfl⟩
  · conv => whnf
    have hge : ¬ i < l.length := by simpa using hlt
    exact retB (rise_yes fun j hj => hI j hj (by omega))
end Go.Proofs.YtelgmdljcbkniaaGreatDoor.Pr
