/- Nogoods: what is valid, what is violated. -/
import Derived.Test.YtelgmdljcbkniaaGreatDoorRf4
namespace Go.Proofs.YtelgmdljcbkniaaGreatDoor.Pr
open Go Go.Proofs Go.Proofs.YtelgmdljcbkniaaGreatDoor.Ai Go.Proofs.YtelgmdljcbkniaaGreatDoor.Ti Go.Proofs.YtelgmdljcbkniaaGreatDoor.Dt
set_option maxRecDepth 100000
def inB (p : S_api_Problem) (c : S_api_Choice) : Bool := match p.f_Domains.find? (fun d => decide (d.f_Station = c.f_Station)) with
  | some d => hasB d.f_Channels c.f_Channel
  | none => false
theorem find_some {α : Type} {p : α → Bool} {l : List α} {i : Nat} (h : i < l.length) (hp : p l[i] = true) (hj : ∀ (j : Nat) (h : j < l.length), j < i → p l[j] = false) : l.find? p = some l[i] := by
  rw [List.find?_eq_some_iff_getElem]
  exact ⟨hp, i, h, rfl, fun j hji => by rw [hj j (by omega) hji]; rfl⟩
theorem inB_none {p : S_api_Problem} {c : S_api_Choice} (h : findI p.f_Domains c.f_Station < 0) : inB p c = false := by
  have := (idxI_neg _ _).1 h
  have : p.f_Domains.find? (fun d => decide (d.f_Station = c.f_Station)) = none := by
    rw [List.find?_eq_none]; rw [List.any_eq_false] at this; exact this
  unfold inB; rw [this]
theorem inB_at {p : S_api_Problem} {c : S_api_Choice} (h : ¬ findI p.f_Domains c.f_Station < 0) : ∃ (i : Nat) (hi : i < p.f_Domains.length), findI p.f_Domains c.f_Station = (i : Int) ∧ inB p c = hasB p.f_Domains[i].f_Channels c.f_Channel := by
  rcases idxI_cases (fun d : S_api_Domain => decide (d.f_Station = c.f_Station)) p.f_Domains with ⟨h1, _⟩ | ⟨i, hi, h1, h2, h3⟩
  · exact absurd (show findI p.f_Domains c.f_Station < 0 by unfold findI; rw [h1]; decide) h
  · refine ⟨i, hi, h1, ?_⟩
    unfold inB; rw [find_some hi h2 h3]
def nvalidB (p : S_api_Problem) (g : List S_api_Choice) : Bool := validB p && riseB chV chO g && g.all (inB p)
theorem nrvalid_ok (p : S_api_Problem) (g : List S_api_Choice) (hl : p.f_Domains.length < 1000000) (hc : ∀ d ∈ p.f_Domains, d.f_Channels.length < 1000000) (hg : g.length < 1000000) : V cx.P 14 [p.enc, encL S_api_Choice.enc g] (.bool (nvalidB p g)) := by
  refine V_of Tryz.func14 rfl en14 (by kernel_rfl) (by kernel_rfl) ?_
  repeat' ((conv => whnf); first | refine bT (decide_eq_true (by assumption)) ?_ | refine bF (decide_eq_false (by assumption)) ?_ | refine bT (by assumption) ?_ | refine bF (by assumption) ?_ | refine bT (notT (by assumption)) ?_ | refine bF (notF (by assumption)) ?_ | refine bD (fun _ => ?_) (fun _ => ?_) | refine OrdT.mk (by rfl) ?_ | refine callV (rvalid_ok p hl) ?_ | refine callV (rvalidList_ok g hg) ?_ | refine bS (fun _ => ?_) (fun _ => ?_))
  all_goals conv => whnf
  · exact retB (by simp_all [nvalidB])
  · exact retB (by simp_all [nvalidB])
  let B : List Blk := [.cells [encL S_api_Domain.enc p.f_Domains, encL S_api_Pair.enc p.f_Rules.f_Pairs, encL S_api_Load.enc p.f_Rules.f_Loads, encL S_api_Cap.enc p.f_Rules.f_Caps]]
  refine loopI g.length (fun i => ⟨[(1, encL S_api_Choice.enc g), (2, .ptr 0 0), (5, .int .i64 (i : Int))], B⟩)
    (fun i => ∀ (j : Nat) (h : j < g.length), j < i → inB p g[j] = true) (by kernel_rfl) (weak_sel ⟨rfl, rfl, rfl, trivial⟩ rfl) (fun j h hj => absurd hj (by omega)) (fun i hi hI => ?_)
  conv => whnf
  refine bD (fun hlt => ?_) (fun hlt => ?_)
  · have hlt' : i < g.length := by simpa using hlt
    by_cases hf : findI p.f_Domains g[i].f_Station < 0
    · repeat' ((conv => whnf); first | refine bT (decide_eq_true (by assumption)) ?_ | refine bF (decide_eq_false (by assumption)) ?_ | refine bT (by assumption) ?_ | refine bF (by assumption) ?_ | refine bT (notT (by assumption)) ?_ | refine bF (notF (by assumption)) ?_ | refine bD (fun _ => ?_) (fun _ => ?_) | refine OrdT.mk (by rfl) ?_ | refine oK (idxL_map hlt') ?_ | refine callV (find_ok p _ hl) ?_ | refine bS (fun _ => ?_) (fun _ => ?_))
      conv => whnf
      exact retB (by rw [nvalidB, all_no hlt' (inB_none hf)]; simp)
    · obtain ⟨a, ha, e, hb⟩ := inB_at hf
      repeat' ((conv => whnf); first | refine bT (decide_eq_true (by assumption)) ?_ | refine bF (decide_eq_false (by assumption)) ?_ | refine bT (by assumption) ?_ | refine bF (by assumption) ?_ | refine bT (notT (by assumption)) ?_ | refine bF (notF (by assumption)) ?_ | refine bD (fun _ => ?_) (fun _ => ?_) | refine OrdT.mk (by rfl) ?_ | refine oK (idxL_map hlt') ?_ | refine callV (find_ok p _ hl) ?_ | refine oK (idxL_mapn (i := a) e ha) ?_ | refine callV (has_ok _ _ (hc _ (List.getElem_mem ha))) ?_ | refine bS (fun _ => ?_) (fun _ => ?_))
      all_goals conv => whnf
      all_goals first
        | exact retB (by rw [nvalidB, all_no hlt' (by rw [hb]; simp_all)]; simp)
        | exact ⟨hlt', ok_step hI fun h => by rw [hb]; simp_all, weak_sel ⟨rfl, rfl, succ_i (by omega), trivial⟩ rfl⟩
  · conv => whnf
    have hge : ¬ i < g.length := by simpa using hlt
    exact retB (by rw [nvalidB, all_yes fun j hj => hI j hj (by omega)]; simp_all)

/-! ### the program's -/

theorem fits1_ok (d : S_api_Domain) (c : S_api_Choice) : V cx.P 101 [d.enc, .eptr [c.enc] 0 0] (.bool (decide (d.f_Station = c.f_Station))) := by
  refine V_of Tryz.func101 rfl en101 (by kernel_rfl) (by kernel_rfl) ?_
  repeat' ((conv => whnf); first | refine bT (decide_eq_true (by assumption)) ?_ | refine bF (decide_eq_false (by assumption)) ?_ | refine bT (by assumption) ?_ | refine bF (by assumption) ?_ | refine bT (notT (by assumption)) ?_ | refine bF (notF (by assumption)) ?_ | refine bD (fun _ => ?_) (fun _ => ?_) | refine OrdT.mk (by rfl) ?_ | refine bS (fun _ => ?_) (fun _ => ?_))
  all_goals conv => whnf
  exact retB (by grind)
theorem indexFunc_ok (l : List S_api_Domain) (c : S_api_Choice) (hl : l.length < 1000000) : V cx.P 100 [encL S_api_Domain.enc l, .fn 101 [.eptr [c.enc] 0 0]] (.int .i64 (findI l c.f_Station)) := by
  refine V_of Tryz.func100 rfl en100 (by kernel_rfl) (by kernel_rfl) ?_
  conv => whnf
  refine loopI l.length (fun i => ⟨[(0, encL S_api_Domain.enc l), (1, .fn 101 [.eptr [c.enc] 0 0]), (7, .int .i64 ((l.map S_api_Domain.enc).length : Int)), (8, .int .i64 (i : Int))], []⟩)
    (fun i => ∀ (j : Nat) (h : j < l.length), j < i → decide (l[j].f_Station = c.f_Station) = false) (by kernel_rfl) (weak_sel ⟨rfl, rfl, rfl, rfl, trivial⟩ rfl) (fun j h hj => absurd hj (by omega)) (fun i hi hI => ?_)
  conv => whnf
  refine bD (fun hlt => ?_) (fun hlt => ?_)
  · have hlt' : i < l.length := by simpa using hlt
    repeat' ((conv => whnf); first | refine bT (decide_eq_true (by assumption)) ?_ | refine bF (decide_eq_false (by assumption)) ?_ | refine bT (by assumption) ?_ | refine bF (by assumption) ?_ | refine bT (notT (by assumption)) ?_ | refine bF (notF (by assumption)) ?_ | refine bD (fun _ => ?_) (fun _ => ?_) | refine OrdT.mk (by rfl) ?_ | refine oK (idxL_map hlt') ?_ | refine callV (fits1_ok l[i] c) ?_ | refine bS (fun _ => ?_) (fun _ => ?_))
    all_goals conv => whnf
    all_goals first
      | exact retI (idxI_at hlt' hI (by simp_all)).symm
      | exact ⟨hlt', fun j h hji => by
          by_cases e : j = i
          · subst e; simp_all
          · exact hI j h (by omega), weak_sel ⟨rfl, rfl, rfl, succ_i (by omega), trivial⟩ rfl⟩
  · conv => whnf
    have hge : ¬ i < l.length := by simpa using hlt
    exact retI (idxI_none fun j hj => hI j hj (by omega)).symm
theorem idxInt_ok (l : List Int) (n : Int) (hl : l.length < 1000000) : V cx.P 154 [encL (AV.int .i64) l, .int .i64 n] (.int .i64 (idxI (fun x => decide (x = n)) l)) := by
  refine V_of Tryz.func154 rfl en154 (by kernel_rfl) (by kernel_rfl) ?_
  conv => whnf
  refine loopI l.length (fun i => ⟨[(0, encL (AV.int .i64) l), (1, .int .i64 n), (7, .int .i64 ((l.map (AV.int .i64)).length : Int)), (8, .int .i64 (i : Int))], []⟩)
    (fun i => ∀ (j : Nat) (h : j < l.length), j < i → decide (l[j] = n) = false) (by kernel_rfl) (weak_sel ⟨rfl, rfl, rfl, rfl, trivial⟩ rfl) (fun j h hj => absurd hj (by omega)) (fun i hi hI => ?_)
  conv => whnf
  refine bD (fun hlt => ?_) (fun hlt => ?_)
  · have hlt' : i < l.length := by simpa using hlt
    repeat' ((conv => whnf); first | refine bT (decide_eq_true (by assumption)) ?_ | refine bF (decide_eq_false (by assumption)) ?_ | refine bT (by assumption) ?_ | refine bF (by assumption) ?_ | refine bT (notT (by assumption)) ?_ | refine bF (notF (by assumption)) ?_ | refine bD (fun _ => ?_) (fun _ => ?_) | refine OrdT.mk (by rfl) ?_ | refine oK (idxL_map hlt') ?_ | refine bS (fun _ => ?_) (fun _ => ?_))
    all_goals conv => whnf
    all_goals first
      | exact retI (idxI_at hlt' hI (by simp_all)).symm
      | exact ⟨hlt', fun j h hji => by
          by_cases e : j = i
          · subst e; grind
          · exact hI j h (by omega), weak_sel ⟨rfl, rfl, rfl, succ_i (by omega), trivial⟩ rfl⟩
  · conv => whnf
    have hge : ¬ i < l.length := by simpa using hlt
    exact retI (idxI_none fun j hj => hI j hj (by omega)).symm
theorem contInt_ok (l : List Int) (n : Int) (hl : l.length < 1000000) : V cx.P 102 [encL (AV.int .i64) l, .int .i64 n] (.bool (hasB l n)) := by
  refine V_of Tryz.func102 rfl en102 (by kernel_rfl) (by kernel_rfl) ?_
  repeat' ((conv => whnf); first | refine bT (decide_eq_true (by assumption)) ?_ | refine bF (decide_eq_false (by assumption)) ?_ | refine bT (by assumption) ?_ | refine bF (by assumption) ?_ | refine bT (notT (by assumption)) ?_ | refine bF (notF (by assumption)) ?_ | refine bD (fun _ => ?_) (fun _ => ?_) | refine OrdT.mk (by rfl) ?_ | refine callV (idxInt_ok l n hl) ?_ | refine bS (fun _ => ?_) (fun _ => ?_))
  all_goals conv => whnf
  refine retB ?_
  have := idxI_neg (fun x => decide (x = n)) l
  have e : hasB l n = l.any fun x => decide (x = n) := rfl
  rw [← e] at this
  cases h : hasB l n with
  | false => have := this.2 h; exact decide_eq_false (by omega)
  | true => exact decide_eq_true (by by_cases q : idxI (fun x => decide (x = n)) l < 0
                                     · rw [this.1 q] at h; cases h
                                     · omega)
theorem idxCh_ok (l : List S_api_Choice) (c : S_api_Choice) (hl : l.length < 1000000) : V cx.P 103 [encL S_api_Choice.enc l, c.enc] (.int .i64 (idxI (fun x => decide (x = c)) l)) := by
  refine V_of Tryz.func103 rfl en103 (by kernel_rfl) (by kernel_rfl) ?_
  conv => whnf
  let B : List Blk := [.cells [.int .i64 c.f_Station, .int .i64 c.f_Channel]]
  refine loopI l.length (fun i => ⟨[(0, encL S_api_Choice.enc l), (3, .ptr 0 0), (7, .int .i64 ((l.map S_api_Choice.enc).length : Int)), (8, .int .i64 (i : Int))], B⟩)
    (fun i => ∀ (j : Nat) (h : j < l.length), j < i → decide (l[j] = c) = false) (by kernel_rfl) (weak_sel ⟨rfl, rfl, rfl, rfl, trivial⟩ rfl) (fun j h hj => absurd hj (by omega)) (fun i hi hI => ?_)
  conv => whnf
  refine bD (fun hlt => ?_) (fun hlt => ?_)
  · have hlt' : i < l.length := by simpa using hlt
    by_cases hq : l[i] = c
    · have hb : scEqs [.int .i64 c.f_Station, .int .i64 c.f_Channel] [.int .i64 l[i].f_Station, .int .i64 l[i].f_Channel] = true := by rw [hq]; simp [scEqs, scEq]
      repeat' ((conv => whnf); first | refine bT (decide_eq_true (by assumption)) ?_ | refine bF (decide_eq_false (by assumption)) ?_ | refine bT (by assumption) ?_ | refine bF (by assumption) ?_ | refine bT (notT (by assumption)) ?_ | refine bF (notF (by assumption)) ?_ | refine bD (fun _ => ?_) (fun _ => ?_) | refine OrdT.mk (by rfl) ?_ | refine oK (idxL_map hlt') ?_ | refine Chk.mk ⟨by kernel_rfl, by kernel_rfl, flatB_ok (X := cx) (by rfl)⟩ ?_ | refine bS (fun _ => ?_) (fun _ => ?_))
      all_goals conv => whnf
      exact retI (idxI_at hlt' hI (by simpa using hq)).symm
    · have hb : scEqs [.int .i64 c.f_Station, .int .i64 c.f_Channel] [.int .i64 l[i].f_Station, .int .i64 l[i].f_Channel] = false := by
        cases h : scEqs [.int .i64 c.f_Station, .int .i64 c.f_Channel] [.int .i64 l[i].f_Station, .int .i64 l[i].f_Channel] with
        | false => rfl
        | true =>
          refine absurd ?_ hq
          simp [scEqs, scEq] at h
          revert h
          rcases l[i] with ⟨a, b⟩
          rcases c with ⟨a', b'⟩
          rintro ⟨h1, h2⟩
          simp only at h1 h2
          rw [h1, h2]
      repeat' ((conv => whnf); first | refine bT (decide_eq_true (by assumption)) ?_ | refine bF (decide_eq_false (by assumption)) ?_ | refine bT (by assumption) ?_ | refine bF (by assumption) ?_ | refine bT (notT (by assumption)) ?_ | refine bF (notF (by assumption)) ?_ | refine bD (fun _ => ?_) (fun _ => ?_) | refine OrdT.mk (by rfl) ?_ | refine oK (idxL_map hlt') ?_ | refine Chk.mk ⟨by kernel_rfl, by kernel_rfl, flatB_ok (X := cx) (by rfl)⟩ ?_ | refine bS (fun _ => ?_) (fun _ => ?_))
      all_goals conv => whnf
      refine ⟨hlt', fun j h hji => ?_, weak_sel ⟨rfl, rfl, rfl, succ_i (by omega), trivial⟩ rfl⟩
      by_cases e : j = i
      · subst e; simpa using hq
      · exact hI j h (by omega)
  · conv => whnf
    have hge : ¬ i < l.length := by simpa using hlt
    exact retI (idxI_none fun j hj => hI j hj (by omega)).symm
def hasC (l : List S_api_Choice) (c : S_api_Choice) : Bool := l.any fun x => decide (x = c)
theorem contCh_ok (l : List S_api_Choice) (c : S_api_Choice) (hl : l.length < 1000000) : V cx.P 54 [encL S_api_Choice.enc l, c.enc] (.bool (hasC l c)) := by
  refine V_of Tryz.func54 rfl en54 (by kernel_rfl) (by kernel_rfl) ?_
  repeat' ((conv => whnf); first | refine bT (decide_eq_true (by assumption)) ?_ | refine bF (decide_eq_false (by assumption)) ?_ | refine bT (by assumption) ?_ | refine bF (by assumption) ?_ | refine bT (notT (by assumption)) ?_ | refine bF (notF (by assumption)) ?_ | refine bD (fun _ => ?_) (fun _ => ?_) | refine OrdT.mk (by rfl) ?_ | refine callV (idxCh_ok l c hl) ?_ | refine bS (fun _ => ?_) (fun _ => ?_))
  all_goals conv => whnf
  refine retB ?_
  have := idxI_neg (fun x => decide (x = c)) l
  have e : hasC l c = l.any fun x => decide (x = c) := rfl
  rw [← e] at this
  cases h : hasC l c with
  | false => have := this.2 h; exact decide_eq_false (by omega)
  | true => exact decide_eq_true (by by_cases q : idxI (fun x => decide (x = c)) l < 0
                                     · rw [this.1 q] at h; cases h
                                     · omega)
def violB (l g : List S_api_Choice) : Bool := g.all (hasC l)
theorem violates_ok (l g : List S_api_Choice) (hl : l.length < 1000000) (hg : g.length < 1000000) : V cx.P 15 [encL S_api_Choice.enc l, encL S_api_Choice.enc g] (.bool (violB l g)) := by
  refine V_of Tryz.func15 rfl en15 (by kernel_rfl) (by kernel_rfl) ?_
  conv => whnf
  refine loopI g.length (fun i => ⟨[(0, encL S_api_Choice.enc l), (7, encL S_api_Choice.enc g), (8, .int .i64 ((g.map S_api_Choice.enc).length : Int)), (9, .int .i64 (i : Int))], []⟩)
    (fun i => ∀ (j : Nat) (h : j < g.length), j < i → hasC l g[j] = true) (by kernel_rfl) (weak_sel ⟨rfl, rfl, rfl, rfl, trivial⟩ rfl) (fun j h hj => absurd hj (by omega)) (fun i hi hI => ?_)
  conv => whnf
  refine bD (fun hlt => ?_) (fun hlt => ?_)
  · have hlt' : i < g.length := by simpa using hlt
    repeat' ((conv => whnf); first | refine bT (decide_eq_true (by assumption)) ?_ | refine bF (decide_eq_false (by assumption)) ?_ | refine bT (by assumption) ?_ | refine bF (by assumption) ?_ | refine bT (notT (by assumption)) ?_ | refine bF (notF (by assumption)) ?_ | refine bD (fun _ => ?_) (fun _ => ?_) | refine OrdT.mk (by rfl) ?_ | refine oK (idxL_map hlt') ?_ | refine callV (contCh_ok l g[i] hl) ?_ | refine bS (fun _ => ?_) (fun _ => ?_))
    all_goals conv => whnf
    all_goals first
      | exact retB (by rw [violB, all_no hlt' (by simp_all)])
      | exact ⟨hlt', ok_step hI fun h => by simp_all, weak_cut 0 ⟨rfl, rfl, rfl, succ_i (by omega), trivial⟩ rfl rfl rfl rfl⟩
  · conv => whnf
    have hge : ¬ i < g.length := by simpa using hlt
    exact retB (by rw [violB, all_yes fun j hj => hI j hj (by omega)])
theorem snap_fn {bs0 : List Blk} {k f : Nat} {xs cs : List AV} (h : Has bs0 [(k, .cells cs)]) (h0 : 0 < cs.length) (hc : snapL (snap bs0 1) cs = some cs) : snapL (snap bs0 3) [.lst false xs, .fn f [.ptr k 0]] = some [.lst false xs, .fn f [.eptr [.agg cs] 0 0]] := by
  have hg : bs0[k]? = some (.cells cs) := get_bat _ _ _ h.1 (by simp)
  have e2 : snap bs0 2 (.ptr k 0) = some (.eptr [.agg cs] 0 0) := by
    rw [show snap bs0 2 (.ptr k 0) = (match bs0[k]? with
      | some (.cells cs) => if 0 < cs.length then (snapL (snap bs0 1) cs).map fun ds => .eptr [.agg ds] 0 0 else none
      | _ => none) from rfl, hg]
    simp only [h0, if_true, hc, Option.map_some]
  simp only [snapL, show snap bs0 3 (.lst false xs) = some (.lst false xs) from rfl, show snap bs0 3 (.fn f [.ptr k 0]) = (snapL (snap bs0 2) [.ptr k 0]).map (.fn f) from rfl, e2, Option.map_some]
theorem fits_ok (p : S_api_Problem) (g : List S_api_Choice) (hl : p.f_Domains.length < 1000000) (hc : ∀ d ∈ p.f_Domains, d.f_Channels.length < 1000000) (hg : g.length < 1000000) : V cx.P 50 [p.enc, encL S_api_Choice.enc g] (.bool (riseB chV chO g && g.all (inB p))) := by
  refine V_of Tryz.func50 rfl en50 (by kernel_rfl) (by kernel_rfl) ?_
  repeat' ((conv => whnf); first | refine bT (decide_eq_true (by assumption)) ?_ | refine bF (decide_eq_false (by assumption)) ?_ | refine bT (by assumption) ?_ | refine bF (by assumption) ?_ | refine bT (notT (by assumption)) ?_ | refine bF (notF (by assumption)) ?_ | refine bD (fun _ => ?_) (fun _ => ?_) | refine OrdT.mk (by rfl) ?_ | refine callV (validList_ok g hg) ?_ | refine bS (fun _ => ?_) (fun _ => ?_))
  all_goals conv => whnf
  · exact retB (by simp_all)
  let B : List Blk := [.cells [encL S_api_Domain.enc p.f_Domains, encL S_api_Pair.enc p.f_Rules.f_Pairs, encL S_api_Load.enc p.f_Rules.f_Loads, encL S_api_Cap.enc p.f_Rules.f_Caps]]
  refine loopI g.length (fun i => ⟨[(2, .ptr 0 0), (11, encL S_api_Choice.enc g), (12, .int .i64 ((g.map S_api_Choice.enc).length : Int)), (13, .int .i64 (i : Int))], B⟩)
    (fun i => ∀ (j : Nat) (h : j < g.length), j < i → inB p g[j] = true) (by kernel_rfl) (weak_sel ⟨rfl, rfl, rfl, rfl, trivial⟩ rfl) (fun j h hj => absurd hj (by omega)) (fun i hi hI => ?_)
  conv => whnf
  refine bD (fun hlt => ?_) (fun hlt => ?_)
  · have hlt' : i < g.length := by simpa using hlt
    by_cases hf : findI p.f_Domains g[i].f_Station < 0
    · repeat' ((conv => whnf); first | refine bT (decide_eq_true (by assumption)) ?_ | refine bF (decide_eq_false (by assumption)) ?_ | refine bT (by assumption) ?_ | refine bF (by assumption) ?_ | refine bT (notT (by assumption)) ?_ | refine bF (notF (by assumption)) ?_ | refine bD (fun _ => ?_) (fun _ => ?_) | refine OrdT.mk (by rfl) ?_ | refine oK (idxL_map hlt') ?_ | refine callR 3 [(1, .cells [.int .i64 g[i].f_Station, .int .i64 g[i].f_Channel])] (indexFunc_ok p.f_Domains g[i] hl) ⟨rfl, trivial⟩ (fun bs0 h => snap_fn h (by simp) rfl) rfl ?_ | refine bS (fun _ => ?_) (fun _ => ?_))
      all_goals conv => whnf
      exact retB (by rw [all_no hlt' (inB_none hf)]; simp)
    · obtain ⟨a, ha, e, hb⟩ := inB_at hf
      repeat' ((conv => whnf); first | refine bT (decide_eq_true (by assumption)) ?_ | refine bF (decide_eq_false (by assumption)) ?_ | refine bT (by assumption) ?_ | refine bF (by assumption) ?_ | refine bT (notT (by assumption)) ?_ | refine bF (notF (by assumption)) ?_ | refine bD (fun _ => ?_) (fun _ => ?_) | refine OrdT.mk (by rfl) ?_ | refine oK (idxL_map hlt') ?_ | refine callR 3 [(1, .cells [.int .i64 g[i].f_Station, .int .i64 g[i].f_Channel])] (indexFunc_ok p.f_Domains g[i] hl) ⟨rfl, trivial⟩ (fun bs0 h => snap_fn h (by simp) rfl) rfl ?_ | refine oK (idxL_mapn (i := a) e ha) ?_ | refine callV (contInt_ok _ _ (hc _ (List.getElem_mem ha))) ?_ | refine bS (fun _ => ?_) (fun _ => ?_))
      all_goals conv => whnf
      all_goals first
        | exact retB (by rw [all_no hlt' (by rw [hb]; simp_all)]; simp)
        | exact ⟨hlt', ok_step hI fun h => by rw [hb]; simp_all, weak_cut 1 ⟨rfl, rfl, rfl, succ_i (by omega), trivial⟩ rfl rfl rfl rfl⟩
  · conv => whnf
    have hge : ¬ i < g.length := by simpa using hlt
    exact retB (by rw [all_yes fun j hj => hI j hj (by omega)]; simp_all)
theorem nvalid_ok (p : S_api_Problem) (g : List S_api_Choice) (hl : p.f_Domains.length < 1000000) (hc : ∀ d ∈ p.f_Domains, d.f_Channels.length < 1000000) (hg : g.length < 1000000) : V cx.P 13 [p.enc, encL S_api_Choice.enc g] (.bool (nvalidB p g)) := by
  refine V_of Tryz.func13 rfl en13 (by kernel_rfl) (by kernel_rfl) ?_
  repeat' ((conv => whnf); first | refine bT (decide_eq_true (by assumption)) ?_ | refine bF (decide_eq_false (by assumption)) ?_ | refine bT (by assumption) ?_ | refine bF (by assumption) ?_ | refine bT (notT (by assumption)) ?_ | refine bF (notF (by assumption)) ?_ | refine bD (fun _ => ?_) (fun _ => ?_) | refine OrdT.mk (by rfl) ?_ | refine callV (valid_ok p hl hc) ?_ | refine callV (fits_ok p g hl hc hg) ?_ | refine bS (fun _ => ?_) (fun _ => ?_))
  all_goals conv => whnf
  all_goals exact retB (by simp_all [nvalidB])
end Go.Proofs.YtelgmdljcbkniaaGreatDoor.Pr
