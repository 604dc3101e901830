/- The reference of problems: a problem is valid. -/
import Derived.Test.YtelgmdljcbkniaaGreatDoorRf3
namespace Go.Proofs.YtelgmdljcbkniaaGreatDoor.Pr
open Go Go.Proofs Go.Proofs.YtelgmdljcbkniaaGreatDoor.Ai Go.Proofs.YtelgmdljcbkniaaGreatDoor.Ti Go.Proofs.YtelgmdljcbkniaaGreatDoor.Dt
set_option maxRecDepth 100000
def domR (d : S_api_Domain) : Bool := stB d.f_Station && decide ((d.f_Channels.length : Int) ≤ 50) && riseB chB cmpI d.f_Channels
def rvalB (p : S_api_Problem) : Bool := decide ((p.f_Domains.length : Int) ≤ 512) && rulesB p.f_Rules && riseB domR domO p.f_Domains && p.f_Rules.f_Pairs.all (okpair p) && p.f_Rules.f_Loads.all (okload p) && p.f_Rules.f_Caps.all (okcap p)
theorem cmpI_lt (a b : Int) : cmpI a b < 0 ↔ a < b := by unfold cmpI; split <;> (try split) <;> omega
/-- A list whose elements rise in a range is no longer than the range. -/
theorem rise_len {α : Type} {pv : α → Bool} {po : α → α → Int} {l : List α} (v : α → Int) (lo hi : Int) (h : riseB pv po l = true) (h1 : ∀ x, pv x = true → lo ≤ v x ∧ v x ≤ hi) (h2 : ∀ x y, po x y < 0 → v x < v y) : (l.length : Int) ≤ hi - lo + 1 ∨ l = [] := by
  have hr := (riseB_iff pv po l).1 h
  have key : ∀ (j : Nat) (hj : j < l.length), lo + j ≤ v l[j] := by
    intro j
    induction j with
    | zero => intro hj; have := (h1 _ (hr 0 hj).1).1; simpa using this
    | succ j ih =>
      intro hj
      have a := ih (by omega)
      have b := h2 _ _ ((hr (j + 1) hj).2 (by omega))
      simp only [Nat.add_sub_cancel] at b
      omega
  rcases Nat.eq_zero_or_pos l.length with h0 | h0
  · exact .inr (List.length_eq_zero_iff.1 h0)
  · refine .inl ?_
    have a := key (l.length - 1) (by omega)
    have b := (h1 _ (hr (l.length - 1) (by omega)).1).2
    omega
theorem rise_congr {α : Type} {pv pw : α → Bool} {po : α → α → Int} {l : List α} (h : ∀ x, pv x = pw x) : riseB pv po l = riseB pw po l := by rw [show pv = pw from funext h]
theorem domR_eq (d : S_api_Domain) : domR d = domV d := by
  unfold domR domV
  cases h : riseB chB cmpI d.f_Channels with
  | false => simp
  | true =>
    have := rise_len (v := fun x => x) 2 51 h (fun x hx => by simpa [chB] using hx) (fun x y => (cmpI_lt x y).1)
    have : (d.f_Channels.length : Int) ≤ 50 := by
      rcases this with h | h
      · omega
      · rw [h]; decide
    simp [this]
theorem rvalB_eq (p : S_api_Problem) : rvalB p = validB p := by
  rw [valid_eq]; unfold rvalB
  rw [rise_congr domR_eq]
  cases h : riseB domV domO p.f_Domains with
  | false => simp
  | true =>
    have := rise_len (v := fun d => d.f_Station) 0 511 h (fun x hx => by simp only [domV, stB, Bool.and_eq_true, decide_eq_true_eq] at hx; omega) (fun x y hxy => by simp only [domO] at hxy; omega)
    have : (p.f_Domains.length : Int) ≤ 512 := by
      rcases this with h | h
      · omega
      · rw [h]; decide
    simp [this]
theorem rval_nodom {p : S_api_Problem} {i : Nat} (h : i < p.f_Domains.length) (hn : ¬ (domR p.f_Domains[i] = true ∧ ∀ h0 : 0 < i, domO p.f_Domains[i-1] p.f_Domains[i] < 0)) : false = rvalB p := by
  have : riseB domR domO p.f_Domains = false := (rise_no i h hn).symm
  simp [rvalB, this]
theorem rval_nopair {p : S_api_Problem} {i : Nat} (h : i < p.f_Rules.f_Pairs.length) (hn : okpair p p.f_Rules.f_Pairs[i] = false) : false = rvalB p := by unfold rvalB; rw [all_no h hn]; simp
theorem rval_noload {p : S_api_Problem} {i : Nat} (h : i < p.f_Rules.f_Loads.length) (hn : okload p p.f_Rules.f_Loads[i] = false) : false = rvalB p := by unfold rvalB; rw [all_no h hn]; simp
theorem rval_nocap {p : S_api_Problem} {i : Nat} (h : i < p.f_Rules.f_Caps.length) (hn : okcap p p.f_Rules.f_Caps[i] = false) : false = rvalB p := by unfold rvalB; rw [all_no h hn]; simp
set_option maxHeartbeats 8000000 in
theorem rvalid_ok (p : S_api_Problem) (hl : p.f_Domains.length < 1000000) : V cx.P 18 [p.enc] (.bool (validB p)) := by
  rw [← rvalB_eq]
  refine V_of Tryz.func18 rfl en18 (by kernel_rfl) (by kernel_rfl) ?_
  by_cases h5 : (p.f_Domains.length : Int) ≤ 512
  case neg =>
    have h5' : (((p.f_Domains.map S_api_Domain.enc).length : Int) > 512) := by simp only [List.length_map]; omega
    repeat' ((conv => whnf); first | refine bT (decide_eq_true (by assumption)) ?_ | refine bF (decide_eq_false (by assumption)) ?_ | refine bT (by assumption) ?_ | refine bF (by assumption) ?_ | refine bT (notT (by assumption)) ?_ | refine bF (notF (by assumption)) ?_ | refine bD (fun _ => ?_) (fun _ => ?_) | refine OrdT.mk (by rfl) ?_ | refine bS (fun _ => ?_) (fun _ => ?_))
    conv => whnf
    exact retB (by simp [rvalB]; omega)
  have h5' : ¬ (((p.f_Domains.map S_api_Domain.enc).length : Int) > 512) := by simp only [List.length_map]; omega
  cases hr : rulesB p.f_Rules with
  | false =>
    repeat' ((conv => whnf); first | refine bT (decide_eq_true (by assumption)) ?_ | refine bF (decide_eq_false (by assumption)) ?_ | refine bT (by assumption) ?_ | refine bF (by assumption) ?_ | refine bT (notT (by assumption)) ?_ | refine bF (notF (by assumption)) ?_ | refine bD (fun _ => ?_) (fun _ => ?_) | refine OrdT.mk (by rfl) ?_ | refine callV (rvalidRules_ok p.f_Rules) ?_ | refine bS (fun _ => ?_) (fun _ => ?_))
    conv => whnf
    exact retB (by simp [rvalB, hr])
  | true =>
  have hrl : ((((((p.f_Rules.f_Pairs.length : Int) ≤ 4096 ∧ (p.f_Rules.f_Loads.length : Int) ≤ 1024) ∧ (p.f_Rules.f_Caps.length : Int) ≤ 1024) ∧ riseB pairV pairO p.f_Rules.f_Pairs = true) ∧ riseB loadV loadO p.f_Rules.f_Loads = true) ∧ riseB capV capO p.f_Rules.f_Caps = true) := by
    simpa only [rulesB, Bool.and_eq_true, decide_eq_true_eq] using hr
  obtain ⟨⟨⟨hlen, _⟩, _⟩, _⟩ := hrl
  repeat' ((conv => whnf); first | refine bT (decide_eq_true (by assumption)) ?_ | refine bF (decide_eq_false (by assumption)) ?_ | refine bT (by assumption) ?_ | refine bF (by assumption) ?_ | refine bT (notT (by assumption)) ?_ | refine bF (notF (by assumption)) ?_ | refine bD (fun _ => ?_) (fun _ => ?_) | refine OrdT.mk (by rfl) ?_ | refine callV (rvalidRules_ok p.f_Rules) ?_ | refine bS (fun _ => ?_) (fun _ => ?_))
  conv => whnf
  let B : List Blk := [.cells [encL S_api_Domain.enc p.f_Domains, encL S_api_Pair.enc p.f_Rules.f_Pairs, encL S_api_Load.enc p.f_Rules.f_Loads, encL S_api_Cap.enc p.f_Rules.f_Caps]]
  refine loopI p.f_Domains.length (fun i => ⟨[(1, .ptr 0 0), (3, .int .i64 (i : Int))], B⟩)
    (fun i => ∀ (j : Nat) (h : j < p.f_Domains.length), j < i → domR p.f_Domains[j] = true ∧ ∀ h0 : 0 < j, domO p.f_Domains[j-1] p.f_Domains[j] < 0) (by kernel_rfl) (weak_sel ⟨rfl, rfl, trivial⟩ rfl) (fun j h hj => absurd hj (by omega)) (fun i hi hI => ?_)
  conv => whnf
  refine bD (fun hlt => ?_) (fun hltdom => ?_)
  · have hlt' : i < p.f_Domains.length := by simpa using hlt
    have cstep : ∀ (hs : stB p.f_Domains[i].f_Station = true) (ho : ∀ h0 : 0 < i, domO p.f_Domains[i-1] p.f_Domains[i] < 0) (hc : ¬ ((p.f_Domains[i].f_Channels.map (AV.int .i64)).length : Int) > 50) (hr : riseB chB cmpI p.f_Domains[i].f_Channels = true), domR p.f_Domains[i] = true ∧ ∀ h0 : 0 < i, domO p.f_Domains[i-1] p.f_Domains[i] < 0 := fun hs ho hc hr => by
      simp only [List.length_map] at hc
      exact ⟨by simp only [domR, hs, hr, Bool.true_and, Bool.and_true, decide_eq_true_eq]; omega, ho⟩
    by_cases hi0 : i = 0
    · have h0 : ¬ ((i : Int) > 0) := by omega
      repeat' ((conv => whnf); first | refine bT (decide_eq_true (by assumption)) ?_ | refine bF (decide_eq_false (by assumption)) ?_ | refine bT (by assumption) ?_ | refine bF (by assumption) ?_ | refine bT (notT (by assumption)) ?_ | refine bF (notF (by assumption)) ?_ | refine bD (fun _ => ?_) (fun _ => ?_) | refine OrdT.mk (by rfl) ?_ | refine oK (idxL_map hlt') ?_ | refine callV (rst_ok _) ?_ | refine bS (fun _ => ?_) (fun _ => ?_))
      all_goals conv => whnf
      all_goals first
        | exact retB (rval_nodom hlt' fun h => by have h1 := h.1; simp only [domR, Bool.and_eq_true, decide_eq_true_eq] at h1; simp only [List.length_map] at *; first | omega | simp_all)
        | skip
      have ho : ∀ h0 : 0 < i, domO p.f_Domains[i-1] p.f_Domains[i] < 0 := fun h0 => absurd h0 (by omega)
      have hs : stB p.f_Domains[i].f_Station = true := by simp_all
      have hc : ¬ ((p.f_Domains[i].f_Channels.map (AV.int .i64)).length : Int) > 50 := by assumption
      have hc' : (p.f_Domains[i].f_Channels.length : Int) ≤ 50 := by simp only [List.length_map] at hc; omega
      refine loopI p.f_Domains[i].f_Channels.length (fun k => ⟨[(1, .ptr 0 0), (3, .int .i64 (i : Int)), (4, .ptr 1 0), (5, .int .i64 (k : Int))], B ++ [.cells [.int .i64 p.f_Domains[i].f_Station, encL (AV.int .i64) p.f_Domains[i].f_Channels]]⟩)
        (fun k => ∀ (j : Nat) (h : j < p.f_Domains[i].f_Channels.length), j < k → chB p.f_Domains[i].f_Channels[j] = true ∧ ∀ h0 : 0 < j, cmpI p.f_Domains[i].f_Channels[j-1] p.f_Domains[i].f_Channels[j] < 0) (by kernel_rfl) (weak_sel ⟨rfl, rfl, rfl, rfl, trivial⟩ rfl) (fun j h hj => absurd hj (by omega)) (fun k hk hK => ?_)
      conv => whnf
      refine bD (fun hkt => ?_) (fun hkt => ?_)
      · have hkt' : k < p.f_Domains[i].f_Channels.length := by simpa using hkt
        by_cases hk0 : k = 0
        · have g0 : ¬ ((k : Int) > 0) := by omega
          repeat' ((conv => whnf); first | refine bT (decide_eq_true (by assumption)) ?_ | refine bF (decide_eq_false (by assumption)) ?_ | refine bT (by assumption) ?_ | refine bF (by assumption) ?_ | refine bT (notT (by assumption)) ?_ | refine bF (notF (by assumption)) ?_ | refine bD (fun _ => ?_) (fun _ => ?_) | refine OrdT.mk (by rfl) ?_ | refine oK (idxL_map hkt') ?_ | refine bS (fun _ => ?_) (fun _ => ?_))
          all_goals conv => whnf
          all_goals first
            | exact retB (rval_nodom hlt' fun h => by have h1 := h.1; simp only [domR, Bool.and_eq_true] at h1; have h2 := ((riseB_iff chB cmpI _).1 h1.2 k hkt').1; simp only [chB, Bool.and_eq_true, decide_eq_true_eq] at h2; omega)
            | exact ⟨hkt', rise_step hK fun h => ⟨by simp only [chB, Bool.and_eq_true, decide_eq_true_eq]; omega, fun h0 => absurd h0 (by omega)⟩, weak_sel ⟨rfl, rfl, rfl, succ_i (by omega), trivial⟩ rfl⟩
        · have g0 : (k : Int) > 0 := by omega
          have g1 : k - 1 < p.f_Domains[i].f_Channels.length := by omega
          repeat' ((conv => whnf); first | refine bT (decide_eq_true (by assumption)) ?_ | refine bF (decide_eq_false (by assumption)) ?_ | refine bT (by assumption) ?_ | refine bF (by assumption) ?_ | refine bT (notT (by assumption)) ?_ | refine bF (notF (by assumption)) ?_ | refine bD (fun _ => ?_) (fun _ => ?_) | refine OrdT.mk (by rfl) ?_ | refine oK (idxL_map hkt') ?_ | refine oK (idxL_mapn (i := k - 1) (by rw [w64 (by omega) (by omega)]; omega) g1) ?_ | refine bS (fun _ => ?_) (fun _ => ?_))
          all_goals conv => whnf
          all_goals first
            | exact retB (rval_nodom hlt' fun h => by have h1 := h.1; simp only [domR, Bool.and_eq_true] at h1; have h2 := (riseB_iff chB cmpI _).1 h1.2 k hkt'; have h3 := (cmpI_lt _ _).1 (h2.2 (by omega)); have h4 := h2.1; simp only [chB, Bool.and_eq_true, decide_eq_true_eq] at h4; omega)
            | exact ⟨hkt', rise_step hK fun h => ⟨by simp only [chB, Bool.and_eq_true, decide_eq_true_eq]; omega, fun h0 => (cmpI_lt _ _).2 (by omega)⟩, weak_sel ⟨rfl, rfl, rfl, succ_i (by omega), trivial⟩ rfl⟩
      · conv => whnf
        have hgek : ¬ k < p.f_Domains[i].f_Channels.length := by simpa using hkt
        exact ⟨hlt', rise_step hI fun h => cstep hs ho hc (rise_yes fun j hj => hK j hj (by omega)).symm, weak_cut 1 ⟨rfl, succ_i (by omega), trivial⟩ rfl rfl rfl rfl⟩
    · have h0 : (i : Int) > 0 := by omega
      have h1 : i - 1 < p.f_Domains.length := by omega
      repeat' ((conv => whnf); first | refine bT (decide_eq_true (by assumption)) ?_ | refine bF (decide_eq_false (by assumption)) ?_ | refine bT (by assumption) ?_ | refine bF (by assumption) ?_ | refine bT (notT (by assumption)) ?_ | refine bF (notF (by assumption)) ?_ | refine bD (fun _ => ?_) (fun _ => ?_) | refine OrdT.mk (by rfl) ?_ | refine oK (idxL_map hlt') ?_ | refine oK (idxL_mapn (i := i - 1) (by rw [w64 (by omega) (by omega)]; omega) h1) ?_ | refine callV (rst_ok _) ?_ | refine bS (fun _ => ?_) (fun _ => ?_))
      all_goals conv => whnf
      all_goals first
        | exact retB (rval_nodom hlt' fun h => by have h1 := h.1; have h2 := h.2 (by omega); simp only [domR, domO, Bool.and_eq_true, decide_eq_true_eq] at h1 h2; simp only [List.length_map] at *; first | omega | simp_all)
        | skip
      have ho : ∀ h0 : 0 < i, domO p.f_Domains[i-1] p.f_Domains[i] < 0 := fun h0 => by simp only [domO]; omega
      have hs : stB p.f_Domains[i].f_Station = true := by simp_all
      have hc : ¬ ((p.f_Domains[i].f_Channels.map (AV.int .i64)).length : Int) > 50 := by assumption
      have hc' : (p.f_Domains[i].f_Channels.length : Int) ≤ 50 := by simp only [List.length_map] at hc; omega
      refine loopI p.f_Domains[i].f_Channels.length (fun k => ⟨[(1, .ptr 0 0), (3, .int .i64 (i : Int)), (4, .ptr 1 0), (5, .int .i64 (k : Int))], B ++ [.cells [.int .i64 p.f_Domains[i].f_Station, encL (AV.int .i64) p.f_Domains[i].f_Channels]]⟩)
        (fun k => ∀ (j : Nat) (h : j < p.f_Domains[i].f_Channels.length), j < k → chB p.f_Domains[i].f_Channels[j] = true ∧ ∀ h0 : 0 < j, cmpI p.f_Domains[i].f_Channels[j-1] p.f_Domains[i].f_Channels[j] < 0) (by kernel_rfl) (weak_sel ⟨rfl, rfl, rfl, rfl, trivial⟩ rfl) (fun j h hj => absurd hj (by omega)) (fun k hk hK => ?_)
      conv => whnf
      refine bD (fun hkt => ?_) (fun hkt => ?_)
      · have hkt' : k < p.f_Domains[i].f_Channels.length := by simpa using hkt
        by_cases hk0 : k = 0
        · have g0 : ¬ ((k : Int) > 0) := by omega
          repeat' ((conv => whnf); first | refine bT (decide_eq_true (by assumption)) ?_ | refine bF (decide_eq_false (by assumption)) ?_ | refine bT (by assumption) ?_ | refine bF (by assumption) ?_ | refine bT (notT (by assumption)) ?_ | refine bF (notF (by assumption)) ?_ | refine bD (fun _ => ?_) (fun _ => ?_) | refine OrdT.mk (by rfl) ?_ | refine oK (idxL_map hkt') ?_ | refine bS (fun _ => ?_) (fun _ => ?_))
          all_goals conv => whnf
          all_goals first
            | exact retB (rval_nodom hlt' fun h => by have h1 := h.1; simp only [domR, Bool.and_eq_true] at h1; have h2 := ((riseB_iff chB cmpI _).1 h1.2 k hkt').1; simp only [chB, Bool.and_eq_true, decide_eq_true_eq] at h2; omega)
            | exact ⟨hkt', rise_step hK fun h => ⟨by simp only [chB, Bool.and_eq_true, decide_eq_true_eq]; omega, fun h0 => absurd h0 (by omega)⟩, weak_sel ⟨rfl, rfl, rfl, succ_i (by omega), trivial⟩ rfl⟩
        · have g0 : (k : Int) > 0 := by omega
          have g1 : k - 1 < p.f_Domains[i].f_Channels.length := by omega
          repeat' ((conv => whnf); first | refine bT (decide_eq_true (by assumption)) ?_ | refine bF (decide_eq_false (by assumption)) ?_ | refine bT (by assumption) ?_ | refine bF (by assumption) ?_ | refine bT (notT (by assumption)) ?_ | refine bF (notF (by assumption)) ?_ | refine bD (fun _ => ?_) (fun _ => ?_) | refine OrdT.mk (by rfl) ?_ | refine oK (idxL_map hkt') ?_ | refine oK (idxL_mapn (i := k - 1) (by rw [w64 (by omega) (by omega)]; omega) g1) ?_ | refine bS (fun _ => ?_) (fun _ => ?_))
          all_goals conv => whnf
          all_goals first
            | exact retB (rval_nodom hlt' fun h => by have h1 := h.1; simp only [domR, Bool.and_eq_true] at h1; have h2 := (riseB_iff chB cmpI _).1 h1.2 k hkt'; have h3 := (cmpI_lt _ _).1 (h2.2 (by omega)); have h4 := h2.1; simp only [chB, Bool.and_eq_true, decide_eq_true_eq] at h4; omega)
            | exact ⟨hkt', rise_step hK fun h => ⟨by simp only [chB, Bool.and_eq_true, decide_eq_true_eq]; omega, fun h0 => (cmpI_lt _ _).2 (by omega)⟩, weak_sel ⟨rfl, rfl, rfl, succ_i (by omega), trivial⟩ rfl⟩
      · conv => whnf
        have hgek : ¬ k < p.f_Domains[i].f_Channels.length := by simpa using hkt
        exact ⟨hlt', rise_step hI fun h => cstep hs ho hc (rise_yes fun j hj => hK j hj (by omega)).symm, weak_cut 1 ⟨rfl, succ_i (by omega), trivial⟩ rfl rfl rfl rfl⟩
  · conv => whnf
    have hgedom : ¬ i < p.f_Domains.length := by simpa using hltdom
    have alldom : riseB domR domO p.f_Domains = true := (rise_yes fun j hj => hI j hj (by omega)).symm
    refine loopI p.f_Rules.f_Pairs.length (fun i => ⟨[(1, .ptr 0 0), (6, .int .i64 (i : Int))], B⟩)
      (fun i => ∀ (j : Nat) (h : j < p.f_Rules.f_Pairs.length), j < i → okpair p p.f_Rules.f_Pairs[j] = true) (by kernel_rfl) (weak_sel ⟨rfl, rfl, trivial⟩ rfl) (fun j h hj => absurd hj (by omega)) (fun i hi hI => ?_)
    conv => whnf
    refine bD (fun hlt => ?_) (fun hltpair => ?_)
    · have hlt' : i < p.f_Rules.f_Pairs.length := by simpa using hlt
      repeat' ((conv => whnf); first | refine bT (decide_eq_true (by assumption)) ?_ | refine bF (decide_eq_false (by assumption)) ?_ | refine bT (by assumption) ?_ | refine bF (by assumption) ?_ | refine bT (notT (by assumption)) ?_ | refine bF (notF (by assumption)) ?_ | refine bD (fun _ => ?_) (fun _ => ?_) | refine OrdT.mk (by rfl) ?_ | refine oK (idxL_map hlt') ?_ | refine callV (find_ok p _ hl) ?_ | refine bS (fun _ => ?_) (fun _ => ?_))
      all_goals conv => whnf
      all_goals simp only [findI_neg, Bool.not_eq_false] at *
      all_goals first
        | exact retB (rval_nopair hlt' (by simp_all [okpair]))
        | exact ⟨hlt', ok_step hI fun h => by simp_all [okpair], weak_sel ⟨rfl, succ_i (by omega), trivial⟩ rfl⟩
    · conv => whnf
      have hgepair : ¬ i < p.f_Rules.f_Pairs.length := by simpa using hltpair
      have allpair : p.f_Rules.f_Pairs.all (okpair p) = true := all_yes fun j hj => hI j hj (by omega)
      refine loopI p.f_Rules.f_Loads.length (fun i => ⟨[(1, .ptr 0 0), (7, .int .i64 (i : Int))], B⟩)
        (fun i => ∀ (j : Nat) (h : j < p.f_Rules.f_Loads.length), j < i → okload p p.f_Rules.f_Loads[j] = true) (by kernel_rfl) (weak_sel ⟨rfl, rfl, trivial⟩ rfl) (fun j h hj => absurd hj (by omega)) (fun i hi hI => ?_)
      conv => whnf
      refine bD (fun hlt => ?_) (fun hltload => ?_)
      · have hlt' : i < p.f_Rules.f_Loads.length := by simpa using hlt
        repeat' ((conv => whnf); first | refine bT (decide_eq_true (by assumption)) ?_ | refine bF (decide_eq_false (by assumption)) ?_ | refine bT (by assumption) ?_ | refine bF (by assumption) ?_ | refine bT (notT (by assumption)) ?_ | refine bF (notF (by assumption)) ?_ | refine bD (fun _ => ?_) (fun _ => ?_) | refine OrdT.mk (by rfl) ?_ | refine oK (idxL_map hlt') ?_ | refine callV (find_ok p _ hl) ?_ | refine bS (fun _ => ?_) (fun _ => ?_))
        all_goals conv => whnf
        all_goals simp only [findI_neg, Bool.not_eq_false] at *
        all_goals first
          | exact retB (rval_noload hlt' (by simp_all [okload]))
          | exact ⟨hlt', ok_step hI fun h => by simp_all [okload], weak_sel ⟨rfl, succ_i (by omega), trivial⟩ rfl⟩
      · conv => whnf
        have hgeload : ¬ i < p.f_Rules.f_Loads.length := by simpa using hltload
        have allload : p.f_Rules.f_Loads.all (okload p) = true := all_yes fun j hj => hI j hj (by omega)
        refine loopI p.f_Rules.f_Caps.length (fun i => ⟨[(1, .ptr 0 0), (8, .int .i64 (i : Int))], B⟩)
          (fun i => ∀ (j : Nat) (h : j < p.f_Rules.f_Caps.length), j < i → okcap p p.f_Rules.f_Caps[j] = true) (by kernel_rfl) (weak_sel ⟨rfl, rfl, trivial⟩ rfl) (fun j h hj => absurd hj (by omega)) (fun i hi hI => ?_)
        conv => whnf
        refine bD (fun hlt => ?_) (fun hltcap => ?_)
        · have hlt' : i < p.f_Rules.f_Caps.length := by simpa using hlt
          repeat' ((conv => whnf); first | refine bT (decide_eq_true (by assumption)) ?_ | refine bF (decide_eq_false (by assumption)) ?_ | refine bT (by assumption) ?_ | refine bF (by assumption) ?_ | refine bT (notT (by assumption)) ?_ | refine bF (notF (by assumption)) ?_ | refine bD (fun _ => ?_) (fun _ => ?_) | refine OrdT.mk (by rfl) ?_ | refine oK (idxL_map hlt') ?_ | refine callV (find_ok p _ hl) ?_ | refine bS (fun _ => ?_) (fun _ => ?_))
          all_goals conv => whnf
          all_goals simp only [findI_neg, Bool.not_eq_false] at *
          all_goals first
            | exact retB (rval_nocap hlt' (by simp_all [okcap]))
            | exact ⟨hlt', ok_step hI fun h => by simp_all [okcap], weak_sel ⟨rfl, succ_i (by omega), trivial⟩ rfl⟩
        · conv => whnf
          have hgecap : ¬ i < p.f_Rules.f_Caps.length := by simpa using hltcap
          have allcap : p.f_Rules.f_Caps.all (okcap p) = true := all_yes fun j hj => hI j hj (by omega)
          exact retB (by simp [rvalB, hr, alldom, allpair, allload, allcap]; omega)
end Go.Proofs.YtelgmdljcbkniaaGreatDoor.Pr
