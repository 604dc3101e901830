/- Nogoods: the reference's Violates; small problems; the law NogoodValid. -/
import Derived.Test.YtelgmdljcbkniaaGreatDoorNg1
import Derived.Test.YtelgmdljcbkniaaGreatDoorKn21
namespace Go.Proofs.YtelgmdljcbkniaaGreatDoor.Pr
open Go Go.Proofs Go.Proofs.YtelgmdljcbkniaaGreatDoor.Ai Go.Proofs.YtelgmdljcbkniaaGreatDoor.Ti Go.Proofs.YtelgmdljcbkniaaGreatDoor.Dt
set_option maxRecDepth 100000
theorem scCh (c d : S_api_Choice) : scEqs [.int .i64 c.f_Station, .int .i64 c.f_Channel] [.int .i64 d.f_Station, .int .i64 d.f_Channel] = decide (c = d) := by
  rcases c with ⟨a, b⟩
  rcases d with ⟨a', b'⟩
  by_cases h1 : a = a' <;> by_cases h2 : b = b' <;> simp [scEqs, scEq, h1, h2]
theorem any_take {α : Type} {p : α → Bool} {l : List α} {k : Nat} (h : k < l.length) : (l.take (k + 1)).any p = ((l.take k).any p || p l[k]) := by
  rw [List.take_succ_eq_append_getElem h, List.any_append]; simp
theorem rviolates_ok (l g : List S_api_Choice) (hl : l.length < 1000000) (hg : g.length < 1000000) : V cx.P 16 [encL S_api_Choice.enc l, encL S_api_Choice.enc g] (.bool (violB l g)) := by
  refine V_of Tryz.func16 rfl en16 (by kernel_rfl) (by kernel_rfl) ?_
  conv => whnf
  refine loopI g.length (fun i => ⟨[(0, encL S_api_Choice.enc l), (1, encL S_api_Choice.enc g), (5, .int .i64 (i : Int))], []⟩)
    (fun i => ∀ (j : Nat) (h : j < g.length), j < i → hasC l g[j] = true) (by kernel_rfl) (weak_sel ⟨rfl, rfl, rfl, trivial⟩ rfl) (fun j h hj => absurd hj (by omega)) (fun i hi hI => ?_)
  conv => whnf
  refine bD (fun hlt => ?_) (fun hlt => ?_)
  · have hlt' : i < g.length := by simpa using hlt
    conv => whnf
    refine loopI l.length (fun k => ⟨[(0, encL S_api_Choice.enc l), (1, encL S_api_Choice.enc g), (5, .int .i64 (i : Int)), (6, .bool ((l.take k).any fun x => decide (x = g[i]))), (7, .int .i64 (k : Int))], []⟩)
      (fun k => True) (by kernel_rfl) (weak_sel ⟨rfl, rfl, rfl, rfl, rfl, trivial⟩ rfl) trivial (fun k hk _ => ?_)
    conv => whnf
    refine bD (fun hkt => ?_) (fun hkt => ?_)
    · have hkt' : k < l.length := by simpa using hkt
      by_cases hq : l[k] = g[i]
      · have hb : scEqs [.int .i64 l[k].f_Station, .int .i64 l[k].f_Channel] [.int .i64 g[i].f_Station, .int .i64 g[i].f_Channel] = true := by rw [scCh]; simpa using hq
        repeat' ((conv => whnf); first | refine bT (decide_eq_true (by assumption)) ?_ | refine bF (decide_eq_false (by assumption)) ?_ | refine bT (by assumption) ?_ | refine bF (by assumption) ?_ | refine bT (notT (by assumption)) ?_ | refine bF (notF (by assumption)) ?_ | refine bD (fun _ => ?_) (fun _ => ?_) | refine OrdT.mk (by rfl) ?_ | refine oK (idxL_map hkt') ?_ | refine oK (idxL_map hlt') ?_ | refine Chk.mk ⟨by kernel_rfl, by kernel_rfl, flatB_ok (X := cx) (by rfl)⟩ ?_ | refine bS (fun _ => ?_) (fun _ => ?_))
        all_goals conv => whnf
        all_goals exact ⟨hkt', trivial, weak_sel ⟨rfl, rfl, rfl, by rw [any_take hkt']; simp_all [Env.get_cons], succ_i (by omega), trivial⟩ rfl⟩
      · have hb : scEqs [.int .i64 l[k].f_Station, .int .i64 l[k].f_Channel] [.int .i64 g[i].f_Station, .int .i64 g[i].f_Channel] = false := by rw [scCh]; simpa using hq
        repeat' ((conv => whnf); first | refine bT (decide_eq_true (by assumption)) ?_ | refine bF (decide_eq_false (by assumption)) ?_ | refine bT (by assumption) ?_ | refine bF (by assumption) ?_ | refine bT (notT (by assumption)) ?_ | refine bF (notF (by assumption)) ?_ | refine bD (fun _ => ?_) (fun _ => ?_) | refine OrdT.mk (by rfl) ?_ | refine oK (idxL_map hkt') ?_ | refine oK (idxL_map hlt') ?_ | refine Chk.mk ⟨by kernel_rfl, by kernel_rfl, flatB_ok (X := cx) (by rfl)⟩ ?_ | refine bS (fun _ => ?_) (fun _ => ?_))
        all_goals conv => whnf
        all_goals exact ⟨hkt', trivial, weak_sel ⟨rfl, rfl, rfl, by rw [any_take hkt']; simp_all [Env.get_cons], succ_i (by omega), trivial⟩ rfl⟩
    · have hk2 : k = l.length := by
        have : ¬ k < l.length := by simpa using hkt
        omega
      have hk3 : ((l.take k).any fun x => decide (x = g[i])) = hasC l g[i] := by rw [hk2, List.take_length]; rfl
      rw [hk3]
      repeat' ((conv => whnf); first | refine bT (decide_eq_true (by assumption)) ?_ | refine bF (decide_eq_false (by assumption)) ?_ | refine bT (by assumption) ?_ | refine bF (by assumption) ?_ | refine bT (notT (by assumption)) ?_ | refine bF (notF (by assumption)) ?_ | refine bD (fun _ => ?_) (fun _ => ?_) | refine OrdT.mk (by rfl) ?_ | refine bS (fun _ => ?_) (fun _ => ?_))
      all_goals conv => whnf
      all_goals first
        | exact retB (by rw [violB, all_no hlt' (by simp_all)])
        | exact ⟨hlt', ok_step hI fun h => by simp_all, weak_sel ⟨rfl, rfl, succ_i (by omega), trivial⟩ rfl⟩
  · conv => whnf
    have hge : ¬ i < g.length := by simpa using hlt
    exact retB (by rw [violB, all_yes fun j hj => hI j hj (by omega)])

/-- Small enough, by the reference. -/
def smallB (p : S_api_Problem) (d r : Int) : Bool := (p.f_Domains.take 600).all (fun d => decide ((d.f_Channels.length : Int) ≤ 60)) && decide ((p.f_Domains.length : Int) ≤ d) && decide ((p.f_Rules.f_Pairs.length : Int) ≤ r) && decide ((p.f_Rules.f_Loads.length : Int) ≤ r) && decide ((p.f_Rules.f_Caps.length : Int) ≤ r)
theorem small_ok (p : S_api_Problem) (d r : Int) : V cx.P 11 [p.enc, .int .i64 d, .int .i64 r] (.bool (smallB p d r)) := by
  refine V_of Tryz.func11 rfl en11 (by kernel_rfl) (by kernel_rfl) ?_
  conv => whnf
  let B : List Blk := [.cells [encL S_api_Domain.enc p.f_Domains, encL S_api_Pair.enc p.f_Rules.f_Pairs, encL S_api_Load.enc p.f_Rules.f_Loads, encL S_api_Cap.enc p.f_Rules.f_Caps]]
  refine loopI 600 (fun i => ⟨[(1, .int .i64 d), (2, .int .i64 r), (3, .ptr 0 0), (7, .int .i64 (i : Int))], B⟩)
    (fun i => ∀ (j : Nat) (h : j < p.f_Domains.length), j < i → decide ((p.f_Domains[j].f_Channels.length : Int) ≤ 60) = true) (by kernel_rfl) (weak_sel ⟨rfl, rfl, rfl, rfl, trivial⟩ rfl) (fun j h hj => absurd hj (by omega)) (fun i hi hI => ?_)
  conv => whnf
  by_cases hlt : i < p.f_Domains.length ∧ i < 600
  · obtain ⟨h1, h2⟩ := hlt
    have g1 : (i : Int) < ((p.f_Domains.map S_api_Domain.enc).length : Int) := by simp only [List.length_map]; omega
    have g2 : (i : Int) < 600 := by omega
    repeat' ((conv => whnf); first | refine bT (decide_eq_true (by assumption)) ?_ | refine bF (decide_eq_false (by assumption)) ?_ | refine bT (by assumption) ?_ | refine bF (by assumption) ?_ | refine bT (notT (by assumption)) ?_ | refine bF (notF (by assumption)) ?_ | refine bD (fun _ => ?_) (fun _ => ?_) | refine OrdT.mk (by rfl) ?_ | refine oK (idxL_map h1) ?_ | refine bS (fun _ => ?_) (fun _ => ?_))
    all_goals conv => whnf
    all_goals simp only [List.length_map] at *
    all_goals first
      | exact retB (by
          have hm : p.f_Domains[i] ∈ p.f_Domains.take 600 := by
            rw [List.mem_take_iff_getElem]; exact ⟨i, by omega, rfl⟩
          have : (p.f_Domains.take 600).all (fun d => decide ((d.f_Channels.length : Int) ≤ 60)) = false := by
            rw [List.all_eq_false]; exact ⟨_, hm, by simp only [decide_eq_true_eq]; omega⟩
          simp [smallB, this])
      | exact ⟨h2, ok_step (ok := fun d : S_api_Domain => decide ((d.f_Channels.length : Int) ≤ 60)) hI fun h => by simp only [decide_eq_true_eq]; omega, weak_sel ⟨rfl, rfl, rfl, succ_i (by omega), trivial⟩ rfl⟩
  · have hall : (p.f_Domains.take 600).all (fun d => decide ((d.f_Channels.length : Int) ≤ 60)) = true := by
      rw [List.all_eq_true]
      intro x hx
      rw [List.mem_take_iff_getElem] at hx
      obtain ⟨j, hj, rfl⟩ := hx
      exact hI j (by omega) (by omega)
    by_cases h1 : i < p.f_Domains.length
    · have g1 : (i : Int) < ((p.f_Domains.map S_api_Domain.enc).length : Int) := by simp only [List.length_map]; omega
      have g2 : ¬ (i : Int) < 600 := by omega
      repeat' ((conv => whnf); first | refine bT (decide_eq_true (by assumption)) ?_ | refine bF (decide_eq_false (by assumption)) ?_ | refine bT (by assumption) ?_ | refine bF (by assumption) ?_ | refine bT (notT (by assumption)) ?_ | refine bF (notF (by assumption)) ?_ | refine bD (fun _ => ?_) (fun _ => ?_) | refine OrdT.mk (by rfl) ?_ | refine bS (fun _ => ?_) (fun _ => ?_))
      all_goals conv => whnf
      all_goals exact retB (by simp only [List.length_map] at *; simp_all [smallB] <;> (intros; omega))
    · have g1 : ¬ (i : Int) < ((p.f_Domains.map S_api_Domain.enc).length : Int) := by simp only [List.length_map]; omega
      repeat' ((conv => whnf); first | refine bT (decide_eq_true (by assumption)) ?_ | refine bF (decide_eq_false (by assumption)) ?_ | refine bT (by assumption) ?_ | refine bF (by assumption) ?_ | refine bT (notT (by assumption)) ?_ | refine bF (notF (by assumption)) ?_ | refine bD (fun _ => ?_) (fun _ => ?_) | refine OrdT.mk (by rfl) ?_ | refine bS (fun _ => ?_) (fun _ => ?_))
      all_goals conv => whnf
      all_goals exact retB (by simp only [List.length_map] at *; simp_all [smallB] <;> (intros; omega))
theorem small_fact {p : S_api_Problem} {d r : Int} (hd : d ≤ 600) (h : smallB p d r = true) : p.f_Domains.length < 1000000 ∧ (∀ x ∈ p.f_Domains, x.f_Channels.length < 1000000) ∧ (∀ x ∈ p.f_Domains, (x.f_Channels.length : Int) ≤ 60) ∧ (p.f_Domains.length : Int) ≤ d ∧ (p.f_Rules.f_Pairs.length : Int) ≤ r ∧ (p.f_Rules.f_Loads.length : Int) ≤ r ∧ (p.f_Rules.f_Caps.length : Int) ≤ r := by
  simp only [smallB, Bool.and_eq_true, decide_eq_true_eq, List.all_eq_true] at h
  obtain ⟨⟨⟨⟨h1, h2⟩, h3⟩, h4⟩, h5⟩ := h
  have e : p.f_Domains.take 600 = p.f_Domains := List.take_of_length_le (by omega)
  rw [e] at h1
  exact ⟨by omega, fun x hx => by have := h1 x hx; omega, h1, h2, h3, h4, h5⟩
theorem viol_self (g : List S_api_Choice) : violB g g = true := by
  rw [violB, List.all_eq_true]
  intro x hx
  exact List.any_eq_true.2 ⟨x, hx, by simp⟩
theorem lawNogoodValid_ok (p : S_api_Problem) (g l : List S_api_Choice) : V cx.P 3 [p.enc, encL S_api_Choice.enc g, encL S_api_Choice.enc l] (.bool true) := by
  refine V_of Tryz.func3 rfl en3 (by kernel_rfl) (by kernel_rfl) ?_
  conv => whnf
  refine callV (small_ok p 10 40) ?_
  conv => whnf
  cases hs : smallB p 10 40 with
  | false =>
    repeat' ((conv => whnf); first | refine bT (decide_eq_true (by assumption)) ?_ | refine bF (decide_eq_false (by assumption)) ?_ | refine bT (by assumption) ?_ | refine bF (by assumption) ?_ | refine bT (notT (by assumption)) ?_ | refine bF (notF (by assumption)) ?_ | refine bD (fun _ => ?_) (fun _ => ?_) | refine OrdT.mk (by rfl) ?_ | refine callV known21 ?_ | refine bS (fun _ => ?_) (fun _ => ?_))
    all_goals conv => whnf
    exact retB rfl
  | true =>
    obtain ⟨h1, h2, _⟩ := small_fact (by decide) hs
    have hv := viol_self g
    by_cases hg : (g.length : Int) > 20
    · have hg' : ((g.map S_api_Choice.enc).length : Int) > 20 := by simpa using hg
      repeat' ((conv => whnf); first | refine bT (decide_eq_true (by assumption)) ?_ | refine bF (decide_eq_false (by assumption)) ?_ | refine bT (by assumption) ?_ | refine bF (by assumption) ?_ | refine bT (notT (by assumption)) ?_ | refine bF (notF (by assumption)) ?_ | refine bD (fun _ => ?_) (fun _ => ?_) | refine OrdT.mk (by rfl) ?_ | refine callV known21 ?_ | refine bS (fun _ => ?_) (fun _ => ?_))
      all_goals conv => whnf
      exact retB rfl
    · have hg' : ¬ ((g.map S_api_Choice.enc).length : Int) > 20 := by simpa using hg
      by_cases hl : (l.length : Int) > 20
      · have hl' : ((l.map S_api_Choice.enc).length : Int) > 20 := by simpa using hl
        repeat' ((conv => whnf); first | refine bT (decide_eq_true (by assumption)) ?_ | refine bF (decide_eq_false (by assumption)) ?_ | refine bT (by assumption) ?_ | refine bF (by assumption) ?_ | refine bT (notT (by assumption)) ?_ | refine bF (notF (by assumption)) ?_ | refine bD (fun _ => ?_) (fun _ => ?_) | refine OrdT.mk (by rfl) ?_ | refine callV known21 ?_ | refine bS (fun _ => ?_) (fun _ => ?_))
        all_goals conv => whnf
        exact retB rfl
      · have hl' : ¬ ((l.map S_api_Choice.enc).length : Int) > 20 := by simpa using hl
        repeat' ((conv => whnf); first | refine bT (decide_eq_true (by assumption)) ?_ | refine bF (decide_eq_false (by assumption)) ?_ | refine bT (by assumption) ?_ | refine bF (by assumption) ?_ | refine bT (notT (by assumption)) ?_ | refine bF (notF (by assumption)) ?_ | refine bD (fun _ => ?_) (fun _ => ?_) | refine OrdT.mk (by rfl) ?_ | refine callV (nvalid_ok p g h1 h2 (by omega)) ?_ | refine callV (nrvalid_ok p g h1 h2 (by omega)) ?_ | refine callV (violates_ok l g (by omega) (by omega)) ?_ | refine callV (rviolates_ok l g (by omega) (by omega)) ?_ | refine callV (violates_ok g g (by omega) (by omega)) ?_ | refine callV known21 ?_ | refine bS (fun _ => ?_) (fun _ => ?_))
        all_goals conv => whnf
        all_goals first
          | exact retB rfl
          | (rename_i q; exact absurd rfl q)
          | (rename_i q _; exact absurd rfl q)
          | exact retB (by simp_all)
end Go.Proofs.YtelgmdljcbkniaaGreatDoor.Pr
