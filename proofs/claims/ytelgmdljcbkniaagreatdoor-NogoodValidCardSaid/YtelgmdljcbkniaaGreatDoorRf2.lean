/- The reference of problems: constraints. -/
import Derived.Test.YtelgmdljcbkniaaGreatDoorRf1
namespace Go.Proofs.YtelgmdljcbkniaaGreatDoor.Pr
open Go Go.Proofs Go.Proofs.YtelgmdljcbkniaaGreatDoor.Ai Go.Proofs.YtelgmdljcbkniaaGreatDoor.Ti Go.Proofs.YtelgmdljcbkniaaGreatDoor.Dt
set_option maxRecDepth 100000
theorem rules_nopair {r : S_api_Rules} {i : Nat} (h : i < r.f_Pairs.length) (hn : ¬ (pairV r.f_Pairs[i] = true ∧ ∀ h0 : 0 < i, pairO r.f_Pairs[i-1] r.f_Pairs[i] < 0)) : false = rulesB r := by
  have : riseB pairV pairO r.f_Pairs = false := (rise_no i h hn).symm
  simp [rulesB, this]
theorem rules_noload {r : S_api_Rules} {i : Nat} (h : i < r.f_Loads.length) (hn : ¬ (loadV r.f_Loads[i] = true ∧ ∀ h0 : 0 < i, loadO r.f_Loads[i-1] r.f_Loads[i] < 0)) : false = rulesB r := by
  have : riseB loadV loadO r.f_Loads = false := (rise_no i h hn).symm
  simp [rulesB, this]
theorem rules_nocap {r : S_api_Rules} {i : Nat} (h : i < r.f_Caps.length) (hn : ¬ (capV r.f_Caps[i] = true ∧ ∀ h0 : 0 < i, capO r.f_Caps[i-1] r.f_Caps[i] < 0)) : false = rulesB r := by
  have : riseB capV capO r.f_Caps = false := (rise_no i h hn).symm
  simp [rulesB, this]
set_option maxHeartbeats 8000000 in
theorem rvalidRules_ok (r : S_api_Rules) : V cx.P 56 [r.enc] (.bool (rulesB r)) := by
  refine V_of Tryz.func56 rfl en56 (by kernel_rfl) (by kernel_rfl) ?_
  by_cases hl : (r.f_Pairs.length : Int) ≤ 4096 ∧ (r.f_Loads.length : Int) ≤ 1024 ∧ (r.f_Caps.length : Int) ≤ 1024
  case neg =>
    repeat' ((conv => whnf); first | refine bT (decide_eq_true (by assumption)) ?_ | refine bF (decide_eq_false (by assumption)) ?_ | refine bT (by assumption) ?_ | refine bF (by assumption) ?_ | refine bT (notT (by assumption)) ?_ | refine bF (notF (by assumption)) ?_ | refine bD (fun _ => ?_) (fun _ => ?_) | refine OrdT.mk (by rfl) ?_ | refine bS (fun _ => ?_) (fun _ => ?_))
    all_goals conv => whnf
    all_goals simp only [List.length_map] at *
    all_goals first
      | exact retB (by simp [rulesB]; omega)
      | omega
  obtain ⟨hlp, hll, hlc⟩ := hl
  have g1 : ¬ (((r.f_Pairs.map S_api_Pair.enc).length : Int) > 4096) := by simp only [List.length_map]; omega
  have g2 : ¬ (((r.f_Loads.map S_api_Load.enc).length : Int) > 1024) := by simp only [List.length_map]; omega
  have g3 : ¬ (((r.f_Caps.map S_api_Cap.enc).length : Int) > 1024) := by simp only [List.length_map]; omega
  repeat' ((conv => whnf); first | refine bT (decide_eq_true (by assumption)) ?_ | refine bF (decide_eq_false (by assumption)) ?_ | refine bT (by assumption) ?_ | refine bF (by assumption) ?_ | refine bT (notT (by assumption)) ?_ | refine bF (notF (by assumption)) ?_ | refine bD (fun _ => ?_) (fun _ => ?_) | refine OrdT.mk (by rfl) ?_ | refine bS (fun _ => ?_) (fun _ => ?_))
  conv => whnf
  let B : List Blk := [.cells [encL S_api_Pair.enc r.f_Pairs, encL S_api_Load.enc r.f_Loads, encL S_api_Cap.enc r.f_Caps]]
  refine loopI r.f_Pairs.length (fun i => ⟨[(1, .ptr 0 0), (3, .int .i64 (i : Int))], B⟩)
    (fun i => ∀ (j : Nat) (h : j < r.f_Pairs.length), j < i → pairV r.f_Pairs[j] = true ∧ ∀ h0 : 0 < j, pairO r.f_Pairs[j-1] r.f_Pairs[j] < 0) (by kernel_rfl) (weak_sel ⟨rfl, rfl, trivial⟩ rfl) (fun j h hj => absurd hj (by omega)) (fun i hi hI => ?_)
  conv => whnf
  refine bD (fun hlt => ?_) (fun hltpair => ?_)
  · have hlt' : i < r.f_Pairs.length := by simpa using hlt
    by_cases hi0 : i = 0
    · have h0 : ¬ ((i : Int) > 0) := by omega
      repeat' ((conv => whnf); first | refine bT (decide_eq_true (by assumption)) ?_ | refine bF (decide_eq_false (by assumption)) ?_ | refine bT (by assumption) ?_ | refine bF (by assumption) ?_ | refine bT (notT (by assumption)) ?_ | refine bF (notF (by assumption)) ?_ | refine bD (fun _ => ?_) (fun _ => ?_) | refine OrdT.mk (by rfl) ?_ | refine oK (idxL_map hlt') ?_ | refine callV (rst_ok _) ?_ | refine callV (rsp_ok _ _) ?_ | refine bS (fun _ => ?_) (fun _ => ?_))
      all_goals conv => whnf
      all_goals first
        | exact retB (rules_nopair hlt' fun h => by have h1 := h.1; simp only [pairV, Bool.and_eq_true, decide_eq_true_eq] at h1; first | omega | simp_all)
        | exact ⟨hlt', rise_step hI fun h => ⟨by simp only [pairV, Bool.and_eq_true, decide_eq_true_eq]; simp_all <;> omega, fun h0 => absurd h0 (by omega)⟩, weak_cut 1 ⟨rfl, succ_i (by omega), trivial⟩ rfl rfl rfl rfl⟩
    · have h0 : (i : Int) > 0 := by omega
      have h1 : i - 1 < r.f_Pairs.length := by omega
      repeat' ((conv => whnf); first | refine bT (decide_eq_true (by assumption)) ?_ | refine bF (decide_eq_false (by assumption)) ?_ | refine bT (by assumption) ?_ | refine bF (by assumption) ?_ | refine bT (notT (by assumption)) ?_ | refine bF (notF (by assumption)) ?_ | refine bD (fun _ => ?_) (fun _ => ?_) | refine OrdT.mk (by rfl) ?_ | refine oK (idxL_map hlt') ?_ | refine oK (idxL_mapn (i := i - 1) (by rw [w64 (by omega) (by omega)]; omega) h1) ?_ | refine callV (rst_ok _) ?_ | refine callV (rsp_ok _ _) ?_ | refine callV (pairL_ok _) ?_ | refine callV (less_ok (pairL r.f_Pairs[i-1]) (pairL r.f_Pairs[i]) rfl (by simp [pairL])) ?_ | refine bS (fun _ => ?_) (fun _ => ?_))
      all_goals conv => whnf
      all_goals simp only [less_pair] at *
      all_goals first
        | exact retB (rules_nopair hlt' fun h => by have h1 := h.1; have h2 := h.2 (by omega); simp only [pairV, Bool.and_eq_true, decide_eq_true_eq] at h1; first | omega | simp_all)
        | exact ⟨hlt', rise_step hI fun h => ⟨by simp only [pairV, Bool.and_eq_true, decide_eq_true_eq]; simp_all <;> omega, fun h0 => by simp_all⟩, weak_cut 1 ⟨rfl, succ_i (by omega), trivial⟩ rfl rfl rfl rfl⟩
  · conv => whnf
    have hgepair : ¬ i < r.f_Pairs.length := by simpa using hltpair
    have allpair : riseB pairV pairO r.f_Pairs = true := (rise_yes fun j hj => hI j hj (by omega)).symm
    refine loopI r.f_Loads.length (fun i => ⟨[(1, .ptr 0 0), (5, .int .i64 (i : Int))], B⟩)
      (fun i => ∀ (j : Nat) (h : j < r.f_Loads.length), j < i → loadV r.f_Loads[j] = true ∧ ∀ h0 : 0 < j, loadO r.f_Loads[j-1] r.f_Loads[j] < 0) (by kernel_rfl) (weak_sel ⟨rfl, rfl, trivial⟩ rfl) (fun j h hj => absurd hj (by omega)) (fun i hi hI => ?_)
    conv => whnf
    refine bD (fun hlt => ?_) (fun hltload => ?_)
    · have hlt' : i < r.f_Loads.length := by simpa using hlt
      by_cases hi0 : i = 0
      · have h0 : ¬ ((i : Int) > 0) := by omega
        repeat' ((conv => whnf); first | refine bT (decide_eq_true (by assumption)) ?_ | refine bF (decide_eq_false (by assumption)) ?_ | refine bT (by assumption) ?_ | refine bF (by assumption) ?_ | refine bT (notT (by assumption)) ?_ | refine bF (notF (by assumption)) ?_ | refine bD (fun _ => ?_) (fun _ => ?_) | refine OrdT.mk (by rfl) ?_ | refine oK (idxL_map hlt') ?_ | refine callV (rst_ok _) ?_ | refine callV (rsp_ok _ _) ?_ | refine bS (fun _ => ?_) (fun _ => ?_))
        all_goals conv => whnf
        all_goals first
          | exact retB (rules_noload hlt' fun h => by have h1 := h.1; simp only [loadV, Bool.and_eq_true, decide_eq_true_eq] at h1; first | omega | simp_all)
          | exact ⟨hlt', rise_step hI fun h => ⟨by simp only [loadV, Bool.and_eq_true, decide_eq_true_eq]; simp_all <;> omega, fun h0 => absurd h0 (by omega)⟩, weak_cut 1 ⟨rfl, succ_i (by omega), trivial⟩ rfl rfl rfl rfl⟩
      · have h0 : (i : Int) > 0 := by omega
        have h1 : i - 1 < r.f_Loads.length := by omega
        repeat' ((conv => whnf); first | refine bT (decide_eq_true (by assumption)) ?_ | refine bF (decide_eq_false (by assumption)) ?_ | refine bT (by assumption) ?_ | refine bF (by assumption) ?_ | refine bT (notT (by assumption)) ?_ | refine bF (notF (by assumption)) ?_ | refine bD (fun _ => ?_) (fun _ => ?_) | refine OrdT.mk (by rfl) ?_ | refine oK (idxL_map hlt') ?_ | refine oK (idxL_mapn (i := i - 1) (by rw [w64 (by omega) (by omega)]; omega) h1) ?_ | refine callV (rst_ok _) ?_ | refine callV (rsp_ok _ _) ?_ | refine callV (loadL_ok _) ?_ | refine callV (less_ok (loadL r.f_Loads[i-1]) (loadL r.f_Loads[i]) rfl (by simp [loadL])) ?_ | refine bS (fun _ => ?_) (fun _ => ?_))
        all_goals conv => whnf
        all_goals simp only [less_load] at *
        all_goals first
          | exact retB (rules_noload hlt' fun h => by have h1 := h.1; have h2 := h.2 (by omega); simp only [loadV, Bool.and_eq_true, decide_eq_true_eq] at h1; first | omega | simp_all)
          | exact ⟨hlt', rise_step hI fun h => ⟨by simp only [loadV, Bool.and_eq_true, decide_eq_true_eq]; simp_all <;> omega, fun h0 => by simp_all⟩, weak_cut 1 ⟨rfl, succ_i (by omega), trivial⟩ rfl rfl rfl rfl⟩
    · conv => whnf
      have hgeload : ¬ i < r.f_Loads.length := by simpa using hltload
      have allload : riseB loadV loadO r.f_Loads = true := (rise_yes fun j hj => hI j hj (by omega)).symm
      refine loopI r.f_Caps.length (fun i => ⟨[(1, .ptr 0 0), (7, .int .i64 (i : Int))], B⟩)
        (fun i => ∀ (j : Nat) (h : j < r.f_Caps.length), j < i → capV r.f_Caps[j] = true ∧ ∀ h0 : 0 < j, capO r.f_Caps[j-1] r.f_Caps[j] < 0) (by kernel_rfl) (weak_sel ⟨rfl, rfl, trivial⟩ rfl) (fun j h hj => absurd hj (by omega)) (fun i hi hI => ?_)
      conv => whnf
      refine bD (fun hlt => ?_) (fun hltcap => ?_)
      · have hlt' : i < r.f_Caps.length := by simpa using hlt
        by_cases hi0 : i = 0
        · have h0 : ¬ ((i : Int) > 0) := by omega
          repeat' ((conv => whnf); first | refine bT (decide_eq_true (by assumption)) ?_ | refine bF (decide_eq_false (by assumption)) ?_ | refine bT (by assumption) ?_ | refine bF (by assumption) ?_ | refine bT (notT (by assumption)) ?_ | refine bF (notF (by assumption)) ?_ | refine bD (fun _ => ?_) (fun _ => ?_) | refine OrdT.mk (by rfl) ?_ | refine oK (idxL_map hlt') ?_ | refine callV (rst_ok _) ?_ | refine callV (rsp_ok _ _) ?_ | refine bS (fun _ => ?_) (fun _ => ?_))
          all_goals conv => whnf
          all_goals first
            | exact retB (rules_nocap hlt' fun h => by have h1 := h.1; simp only [capV, Bool.and_eq_true, decide_eq_true_eq] at h1; first | omega | simp_all)
            | exact ⟨hlt', rise_step hI fun h => ⟨by simp only [capV, Bool.and_eq_true, decide_eq_true_eq]; simp_all <;> omega, fun h0 => absurd h0 (by omega)⟩, weak_cut 1 ⟨rfl, succ_i (by omega), trivial⟩ rfl rfl rfl rfl⟩
        · have h0 : (i : Int) > 0 := by omega
          have h1 : i - 1 < r.f_Caps.length := by omega
          repeat' ((conv => whnf); first | refine bT (decide_eq_true (by assumption)) ?_ | refine bF (decide_eq_false (by assumption)) ?_ | refine bT (by assumption) ?_ | refine bF (by assumption) ?_ | refine bT (notT (by assumption)) ?_ | refine bF (notF (by assumption)) ?_ | refine bD (fun _ => ?_) (fun _ => ?_) | refine OrdT.mk (by rfl) ?_ | refine oK (idxL_map hlt') ?_ | refine oK (idxL_mapn (i := i - 1) (by rw [w64 (by omega) (by omega)]; omega) h1) ?_ | refine callV (rst_ok _) ?_ | refine callV (rsp_ok _ _) ?_ | refine callV (capL_ok _) ?_ | refine callV (less_ok (capL r.f_Caps[i-1]) (capL r.f_Caps[i]) rfl (by simp [capL])) ?_ | refine bS (fun _ => ?_) (fun _ => ?_))
          all_goals conv => whnf
          all_goals simp only [less_cap] at *
          all_goals first
            | exact retB (rules_nocap hlt' fun h => by have h1 := h.1; have h2 := h.2 (by omega); simp only [capV, Bool.and_eq_true, decide_eq_true_eq] at h1; first | omega | simp_all)
            | exact ⟨hlt', rise_step hI fun h => ⟨by simp only [capV, Bool.and_eq_true, decide_eq_true_eq]; simp_all <;> omega, fun h0 => by simp_all⟩, weak_cut 1 ⟨rfl, succ_i (by omega), trivial⟩ rfl rfl rfl rfl⟩
      · conv => whnf
        have hgecap : ¬ i < r.f_Caps.length := by simpa using hltcap
        have allcap : riseB capV capO r.f_Caps = true := (rise_yes fun j hj => hI j hj (by omega)).symm
        exact retB (by simp [rulesB, allpair, allload, allcap]; omega)
end Go.Proofs.YtelgmdljcbkniaaGreatDoor.Pr
