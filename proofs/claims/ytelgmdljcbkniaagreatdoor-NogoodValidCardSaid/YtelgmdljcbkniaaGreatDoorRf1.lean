/- The reference of problems. -/
import Derived.Test.YtelgmdljcbkniaaGreatDoorPr4
namespace Go.Proofs.YtelgmdljcbkniaaGreatDoor.Pr
open Go Go.Proofs Go.Proofs.YtelgmdljcbkniaaGreatDoor.Ai Go.Proofs.YtelgmdljcbkniaaGreatDoor.Ti Go.Proofs.YtelgmdljcbkniaaGreatDoor.Dt
set_option maxRecDepth 100000
theorem rst_ok (n : Int) : V cx.P 57 [.int .i64 n] (.bool (stB n)) := by
  refine V_of Tryz.func57 rfl en57 (by kernel_rfl) (by kernel_rfl) ?_
  repeat' ((conv => whnf); first | refine bT (decide_eq_true (by assumption)) ?_ | refine bF (decide_eq_false (by assumption)) ?_ | refine bT (by assumption) ?_ | refine bF (by assumption) ?_ | refine bT (notT (by assumption)) ?_ | refine bF (notF (by assumption)) ?_ | refine bD (fun _ => ?_) (fun _ => ?_) | refine OrdT.mk (by rfl) ?_ | refine bS (fun _ => ?_) (fun _ => ?_))
  all_goals ((conv => whnf); exact retB (by simp only [stB]; grind))
theorem rsp_ok (a b : Int) : V cx.P 104 [.int .i64 a, .int .i64 b] (.bool (spB a b)) := by
  refine V_of Tryz.func104 rfl en104 (by kernel_rfl) (by kernel_rfl) ?_
  repeat' ((conv => whnf); first | refine bT (decide_eq_true (by assumption)) ?_ | refine bF (decide_eq_false (by assumption)) ?_ | refine bT (by assumption) ?_ | refine bF (by assumption) ?_ | refine bT (notT (by assumption)) ?_ | refine bF (notF (by assumption)) ?_ | refine bD (fun _ => ?_) (fun _ => ?_) | refine OrdT.mk (by rfl) ?_ | refine bS (fun _ => ?_) (fun _ => ?_))
  all_goals ((conv => whnf); exact retB (by simp only [spB]; grind))
theorem retL {bs : List Blk} {ex : Bool} {l : List Int} (h : snap bs 1 (.lst ex (l.map (AV.int .i64))) = some (.lst false (l.map (AV.int .i64))) := by rfl) : RetT bs (.lst ex (l.map (AV.int .i64))) (.lst false (l.map (AV.int .i64))) := ⟨1, h⟩
def pairL (x : S_api_Pair) : List Int := [x.f_A, x.f_B, x.f_Offset, x.f_Low, x.f_High]
def loadL (x : S_api_Load) : List Int := [x.f_To, x.f_From, x.f_Weight, x.f_Low, x.f_High]
def capL (x : S_api_Cap) : List Int := [x.f_Station, x.f_Max, x.f_Low, x.f_High]
theorem pairL_ok (x : S_api_Pair) : V cx.P 106 [x.enc] (.lst false ((pairL x).map (AV.int .i64))) := by
  refine V_of Tryz.func106 rfl en106 (by kernel_rfl) (by kernel_rfl) ?_
  conv => whnf
  exact ⟨1, rfl⟩
theorem loadL_ok (x : S_api_Load) : V cx.P 107 [x.enc] (.lst false ((loadL x).map (AV.int .i64))) := by
  refine V_of Tryz.func107 rfl en107 (by kernel_rfl) (by kernel_rfl) ?_
  conv => whnf
  exact ⟨1, rfl⟩
theorem capL_ok (x : S_api_Cap) : V cx.P 108 [x.enc] (.lst false ((capL x).map (AV.int .i64))) := by
  refine V_of Tryz.func108 rfl en108 (by kernel_rfl) (by kernel_rfl) ?_
  conv => whnf
  exact ⟨1, rfl⟩
def lessB : List Int → List Int → Bool
  | x :: a, y :: b => if x = y then lessB a b else decide (x < y)
  | _, _ => false
theorem less_none : ∀ {a b : List Int}, a.length = b.length → (∀ (j : Nat) (h : j < a.length) (h2 : j < b.length), a[j] = b[j]) → lessB a b = false
  | [], _, _, _ => by simp [lessB]
  | x :: a, [], h, _ => by simp at h
  | x :: a, y :: b, h, hj => by
    have h0 : x = y := hj 0 (by simp) (by simp)
    simp only [lessB, h0, if_true]
    exact less_none (by simpa using h) fun j h1 h2 => by have := hj (j + 1) (by simpa using h1) (by simpa using h2); simpa only [List.getElem_cons_succ] using this
theorem less_at : ∀ {a b : List Int} {i : Nat} (h1 : i < a.length) (h2 : i < b.length), (∀ (j : Nat) (h : j < a.length) (h2 : j < b.length), j < i → a[j] = b[j]) → a[i] ≠ b[i] → lessB a b = decide (a[i] < b[i])
  | x :: a, y :: b, 0, _, _, _, h => by simp only [lessB]; rw [if_neg (by simpa using h)]; rfl
  | x :: a, y :: b, i + 1, h1, h2, hj, hn => by
    have h0 : x = y := hj 0 (by simp) (by simp) (by omega)
    simp only [lessB, h0, if_true, List.getElem_cons_succ]
    exact less_at (by simpa using h1) (by simpa using h2) (fun j h1 h2 hji => by have := hj (j + 1) (by simpa using h1) (by simpa using h2) (by omega); simpa only [List.getElem_cons_succ] using this) (by simpa only [List.getElem_cons_succ] using hn)
theorem less_ok (a b : List Int) (hl : a.length = b.length) (hs : a.length < 1000) : V cx.P 105 [.lst false (a.map (AV.int .i64)), .lst false (b.map (AV.int .i64))] (.bool (lessB a b)) := by
  refine V_of Tryz.func105 rfl en105 (by kernel_rfl) (by kernel_rfl) ?_
  conv => whnf
  refine loopI a.length (fun i => ⟨[(0, .lst false (a.map (AV.int .i64))), (1, .lst false (b.map (AV.int .i64))), (5, .int .i64 (i : Int))], []⟩)
    (fun i => ∀ (j : Nat) (h : j < a.length) (h2 : j < b.length), j < i → a[j] = b[j]) (by kernel_rfl) (weak_sel ⟨rfl, rfl, rfl, trivial⟩ rfl) (fun j h h2 hj => absurd hj (by omega)) (fun i hi hI => ?_)
  conv => whnf
  refine bD (fun hlt => ?_) (fun hlt => ?_)
  · have hlt' : i < a.length := by simpa using hlt
    have hlt2 : i < b.length := by omega
    repeat' ((conv => whnf); first | refine bT (decide_eq_true (by assumption)) ?_ | refine bF (decide_eq_false (by assumption)) ?_ | refine bT (by assumption) ?_ | refine bF (by assumption) ?_ | refine bT (notT (by assumption)) ?_ | refine bF (notF (by assumption)) ?_ | refine bD (fun _ => ?_) (fun _ => ?_) | refine OrdT.mk (by rfl) ?_ | refine oK (idxL_map hlt') ?_ | refine oK (idxL_map hlt2) ?_ | refine bS (fun _ => ?_) (fun _ => ?_))
    · conv => whnf
      refine retB (less_at hlt' hlt2 hI ?_).symm
      simp_all
    · conv => whnf
      refine ⟨hlt', fun j h h2 hji => ?_, weak_sel ⟨rfl, rfl, succ_i (by omega), trivial⟩ rfl⟩
      by_cases e : j = i
      · subst e; simp_all
      · exact hI j h h2 (by omega)
  · conv => whnf
    have hge : ¬ i < a.length := by simpa using hlt
    exact retB (less_none hl fun j h1 h2 => hI j h1 h2 (by omega)).symm

/-! ### lists that rise, by the reference -/

theorem less_or : ∀ (a b : List Int), a.length = b.length → (lessB a b = true ↔ orI (List.zipWith (fun x y => x - y) a b) < 0)
  | [], [], _ => by simp [lessB, orI]
  | x :: a, y :: b, h => by
    simp only [lessB, List.zipWith_cons_cons, orI]
    by_cases e : x = y
    · subst e
      rw [if_pos rfl, if_pos (by omega)]
      exact less_or a b (by simpa using h)
    · rw [if_neg e, if_neg (by omega), decide_eq_true_eq]
      omega
  | [], _ :: _, h => by simp at h
  | _ :: _, [], h => by simp at h
theorem less_pair (x y : S_api_Pair) : lessB (pairL x) (pairL y) = decide (pairO x y < 0) := by
  have := less_or (pairL x) (pairL y) rfl
  cases h : lessB (pairL x) (pairL y) with
  | true => exact (decide_eq_true (this.1 h)).symm
  | false => exact (decide_eq_false fun q => by rw [this.2 q] at h; cases h).symm
theorem less_load (x y : S_api_Load) : lessB (loadL x) (loadL y) = decide (loadO x y < 0) := by
  have := less_or (loadL x) (loadL y) rfl
  cases h : lessB (loadL x) (loadL y) with
  | true => exact (decide_eq_true (this.1 h)).symm
  | false => exact (decide_eq_false fun q => by rw [this.2 q] at h; cases h).symm
theorem less_cap (x y : S_api_Cap) : lessB (capL x) (capL y) = decide (capO x y < 0) := by
  have := less_or (capL x) (capL y) rfl
  cases h : lessB (capL x) (capL y) with
  | true => exact (decide_eq_true (this.1 h)).symm
  | false => exact (decide_eq_false fun q => by rw [this.2 q] at h; cases h).symm

theorem rvalidList_ok (l : List S_api_Choice) (hl : l.length < 1000000) : V cx.P 51 [encL S_api_Choice.enc l] (.bool (riseB chV chO l)) := by
  refine V_of Tryz.func51 rfl en51 (by kernel_rfl) (by kernel_rfl) ?_
  conv => whnf
  refine loopI l.length (fun i => ⟨[(0, encL S_api_Choice.enc l), (3, .int .i64 (i : Int))], []⟩)
    (fun i => ∀ (j : Nat) (h : j < l.length), j < i → chV l[j] = true ∧ ∀ h0 : 0 < j, chO l[j-1] l[j] < 0) (by kernel_rfl) (weak_sel ⟨rfl, rfl, trivial⟩ rfl) (fun j h hj => absurd hj (by omega)) (fun i hi hI => ?_)
  conv => whnf
  refine bD (fun hlt => ?_) (fun hlt => ?_)
  · have hlt' : i < l.length := by simpa using hlt
    by_cases hi0 : i = 0
    · have h0 : ¬ ((i : Int) > 0) := by omega
      repeat' ((conv => whnf); first | refine bT (decide_eq_true (by assumption)) ?_ | refine bF (decide_eq_false (by assumption)) ?_ | refine bT (by assumption) ?_ | refine bF (by assumption) ?_ | refine bT (notT (by assumption)) ?_ | refine bF (notF (by assumption)) ?_ | refine bD (fun _ => ?_) (fun _ => ?_) | refine OrdT.mk (by rfl) ?_ | refine oK (idxL_map hlt') ?_ | refine callV (rst_ok _) ?_ | refine bS (fun _ => ?_) (fun _ => ?_))
      all_goals conv => whnf
      all_goals first
        | exact retB (rise_no i hlt' fun h => by have h1 := h.1; simp only [chV, chB, Bool.and_eq_true, decide_eq_true_eq] at h1; first | omega | simp_all)
        | exact ⟨hlt', rise_step hI fun h => ⟨by simp only [chV, chB, Bool.and_eq_true, decide_eq_true_eq]; refine ⟨by simp_all, ?_, ?_⟩ <;> omega, fun h0 => absurd h0 (by omega)⟩, weak_sel ⟨rfl, succ_i (by omega), trivial⟩ rfl⟩
    · have h0 : (i : Int) > 0 := by omega
      have h1 : i - 1 < l.length := by omega
      repeat' ((conv => whnf); first | refine bT (decide_eq_true (by assumption)) ?_ | refine bF (decide_eq_false (by assumption)) ?_ | refine bT (by assumption) ?_ | refine bF (by assumption) ?_ | refine bT (notT (by assumption)) ?_ | refine bF (notF (by assumption)) ?_ | refine bD (fun _ => ?_) (fun _ => ?_) | refine OrdT.mk (by rfl) ?_ | refine oK (idxL_map hlt') ?_ | refine oK (idxL_mapn (i := i - 1) (by rw [w64 (by omega) (by omega)]; omega) h1) ?_ | refine callV (rst_ok _) ?_ | refine bS (fun _ => ?_) (fun _ => ?_))
      all_goals conv => whnf
      all_goals first
        | exact retB (rise_no i hlt' fun h => by have h1 := h.1; have h2 := h.2 (by omega); simp only [chV, chB, chO, Bool.and_eq_true, decide_eq_true_eq] at h1 h2; first | omega | simp_all)
        | exact ⟨hlt', rise_step hI fun h => ⟨by simp only [chV, chB, Bool.and_eq_true, decide_eq_true_eq]; refine ⟨by simp_all, ?_, ?_⟩ <;> omega, fun h0 => by simp only [chO]; omega⟩, weak_sel ⟨rfl, succ_i (by omega), trivial⟩ rfl⟩
  · conv => whnf
    have hge : ¬ i < l.length := by simpa using hlt
    exact retB (rise_yes fun j hj => hI j hj (by omega))
end Go.Proofs.YtelgmdljcbkniaaGreatDoor.Pr
