/- Problems: a problem is valid. -/
import Derived.Test.YtelgmdljcbkniaaGreatDoorPr3
namespace Go.Proofs.YtelgmdljcbkniaaGreatDoor.Pr
open Go Go.Proofs Go.Proofs.YtelgmdljcbkniaaGreatDoor.Ai Go.Proofs.YtelgmdljcbkniaaGreatDoor.Ti Go.Proofs.YtelgmdljcbkniaaGreatDoor.Dt
set_option maxRecDepth 100000
def foundB (ds : List S_api_Domain) (n : Int) : Bool := ds.any fun d => decide (d.f_Station = n)
def validB (p : S_api_Problem) : Bool := riseB domV domO p.f_Domains && rulesB p.f_Rules && (p.f_Rules.f_Pairs.all fun x => foundB p.f_Domains x.f_A && foundB p.f_Domains x.f_B) &&
  (p.f_Rules.f_Loads.all fun x => foundB p.f_Domains x.f_To && foundB p.f_Domains x.f_From) && (p.f_Rules.f_Caps.all fun x => foundB p.f_Domains x.f_Station)
theorem rise_all {α : Type} {pv : α → Bool} {po : α → α → Int} {l : List α} (h : riseB pv po l = true) : ∀ x ∈ l, pv x = true := fun x hx => by
  obtain ⟨j, hj, rfl⟩ := List.getElem_of_mem hx
  exact ((riseB_iff pv po l).1 h j hj).1
theorem at_neg (ds : List S_api_Domain) (hv : ∀ d ∈ ds, stB d.f_Station = true) (n : Int) (h0 : 0 ≤ n) (h1 : n < 512) : ((Lk ds ds.length).getD n.toNat 0 < 0) ↔ foundB ds n = false := by
  rw [Lk_neg ds hv ds.length (Nat.le_refl _) n.toNat (by omega)]
  have e : ((n.toNat : Nat) : Int) = n := by omega
  rw [e]
  unfold foundB
  rw [List.any_eq_false]
  constructor
  · intro h d hd
    obtain ⟨j, hj, rfl⟩ := List.getElem_of_mem hd
    simpa using h j hj hj
  · intro h j hj _
    simpa using h ds[j] (List.getElem_mem _)
def okpair (p : S_api_Problem) (x : S_api_Pair) : Bool := foundB p.f_Domains x.f_A && foundB p.f_Domains x.f_B
def okload (p : S_api_Problem) (x : S_api_Load) : Bool := foundB p.f_Domains x.f_To && foundB p.f_Domains x.f_From
def okcap (p : S_api_Problem) (x : S_api_Cap) : Bool := foundB p.f_Domains x.f_Station
theorem nthL (ds : List S_api_Domain) {k n : Nat} (h : n < 512) : nth ((Lk ds k).map (AV.int .i64)) (0 + n * i3.size) = some (AV.int .i64 ((Lk ds k).getD n 0)) := by
  have e : 0 + n * i3.size = n := by simp [i3]
  rw [e, nth_eq, List.getElem?_map]
  simp [List.getD, Lk_len, h]
theorem ok_step {α : Type} {ok : α → Bool} {l : List α} {i : Nat} (hI : ∀ (j : Nat) (h : j < l.length), j < i → ok l[j] = true) (h : ∀ h : i < l.length, ok l[i] = true) : ∀ (j : Nat) (h : j < l.length), j < i + 1 → ok l[j] = true := fun j hj hji => by
  by_cases e : j = i
  · subst e; exact h hj
  · exact hI j hj (by omega)
theorem all_no {α : Type} {ok : α → Bool} {l : List α} {i : Nat} (h : i < l.length) (hn : ok l[i] = false) : l.all ok = false := by
  cases ha : l.all ok with
  | false => rfl
  | true => rw [List.all_eq_true.1 ha _ (List.getElem_mem h)] at hn; cases hn
theorem all_yes {α : Type} {ok : α → Bool} {l : List α} (h : ∀ (j : Nat) (h : j < l.length), ok l[j] = true) : l.all ok = true := List.all_eq_true.2 fun x hx => by
  obtain ⟨j, hj, rfl⟩ := List.getElem_of_mem hx
  exact h j hj
theorem valid_eq (p : S_api_Problem) : validB p = (riseB domV domO p.f_Domains && rulesB p.f_Rules && p.f_Rules.f_Pairs.all (okpair p) && p.f_Rules.f_Loads.all (okload p) && p.f_Rules.f_Caps.all (okcap p)) := rfl
theorem valid_nopair {p : S_api_Problem} {i : Nat} (h : i < p.f_Rules.f_Pairs.length) (hn : okpair p p.f_Rules.f_Pairs[i] = false) : false = validB p := by rw [valid_eq, all_no h hn]; simp
theorem valid_noload {p : S_api_Problem} {i : Nat} (h : i < p.f_Rules.f_Loads.length) (hn : okload p p.f_Rules.f_Loads[i] = false) : false = validB p := by rw [valid_eq, all_no h hn]; simp
theorem valid_nocap {p : S_api_Problem} {i : Nat} (h : i < p.f_Rules.f_Caps.length) (hn : okcap p p.f_Rules.f_Caps[i] = false) : false = validB p := by rw [valid_eq, all_no h hn]; simp
theorem valid_ok (p : S_api_Problem) (hl : p.f_Domains.length < 1000000) (hc : ∀ d ∈ p.f_Domains, d.f_Channels.length < 1000000) : V cx.P 49 [p.enc] (.bool (validB p)) := by
  refine V_of Tryz.func49 rfl en49 (by kernel_rfl) (by kernel_rfl) ?_
  conv => whnf
  refine callV (rise_dom p.f_Domains _ _ hl domV domO (fun x hx => domV_ok x (hc x hx)) domO_ok) ?_
  conv => whnf
  cases hd : riseB domV domO p.f_Domains with
  | false =>
    repeat' ((conv => whnf); first | refine bT (decide_eq_true (by assumption)) ?_ | refine bF (decide_eq_false (by assumption)) ?_ | refine bT (by assumption) ?_ | refine bF (by assumption) ?_ | refine bT (notT (by assumption)) ?_ | refine bF (notF (by assumption)) ?_ | refine bD (fun _ => ?_) (fun _ => ?_) | refine OrdT.mk (by rfl) ?_ | refine bS (fun _ => ?_) (fun _ => ?_))
    conv => whnf
    exact retB (by simp [validB, hd])
  | true =>
    have hst : ∀ d ∈ p.f_Domains, stB d.f_Station = true := fun d hx => by
      have := rise_all hd d hx
      simp only [domV, Bool.and_eq_true] at this
      exact this.1
    refine bF (by rfl) ?_
    conv => whnf
    refine callV (validRules_ok p.f_Rules) ?_
    conv => whnf
    cases hr : rulesB p.f_Rules with
    | false =>
      repeat' ((conv => whnf); first | refine bT (decide_eq_true (by assumption)) ?_ | refine bF (decide_eq_false (by assumption)) ?_ | refine bT (by assumption) ?_ | refine bF (by assumption) ?_ | refine bT (notT (by assumption)) ?_ | refine bF (notF (by assumption)) ?_ | refine bD (fun _ => ?_) (fun _ => ?_) | refine OrdT.mk (by rfl) ?_ | refine bS (fun _ => ?_) (fun _ => ?_))
      conv => whnf
      exact retB (by simp [validB, hr])
    | true =>
      have hL := Lk_len p.f_Domains p.f_Domains.length
      have hrl : ((((((p.f_Rules.f_Pairs.length : Int) ≤ 4096 ∧ (p.f_Rules.f_Loads.length : Int) ≤ 1024) ∧ (p.f_Rules.f_Caps.length : Int) ≤ 1024) ∧ riseB pairV pairO p.f_Rules.f_Pairs = true) ∧ riseB loadV loadO p.f_Rules.f_Loads = true) ∧ riseB capV capO p.f_Rules.f_Caps = true) := by
        simpa only [rulesB, Bool.and_eq_true, decide_eq_true_eq] using hr
      obtain ⟨⟨⟨hlen, hrpair⟩, hrload⟩, hrcap⟩ := hrl
      conv => whnf
      refine callV (index_ok p hl hst) ?_
      conv => whnf
      refine bT (by show Nat.beq (List.map (AV.int .i64) (Lk p.f_Domains p.f_Domains.length)).length 512 = true; rw [List.length_map, Lk_len]; rfl) ?_
      conv => whnf
      refine bT (by show (List.map (AV.int .i64) (Lk p.f_Domains p.f_Domains.length)).all AV.one = true; simp [AV.one]) ?_
      conv => whnf
      refine setsAll (L := List.map (AV.int .i64) (Lk p.f_Domains p.f_Domains.length)) (by rw [List.length_map, Lk_len]; rfl) ?_
      conv => whnf
      let B : List Blk := [.cells [encL S_api_Domain.enc p.f_Domains, encL S_api_Pair.enc p.f_Rules.f_Pairs, encL S_api_Load.enc p.f_Rules.f_Loads, encL S_api_Cap.enc p.f_Rules.f_Caps], .cells ((Lk p.f_Domains p.f_Domains.length).map (AV.int .i64))]
      refine loopI p.f_Rules.f_Pairs.length (fun i => ⟨[(1, .ptr 0 0), (4, .ptr 1 0), (26, encL S_api_Pair.enc p.f_Rules.f_Pairs), (27, .int .i64 ((p.f_Rules.f_Pairs.map S_api_Pair.enc).length : Int)), (28, .int .i64 (i : Int))], B⟩)
        (fun i => ∀ (j : Nat) (h : j < p.f_Rules.f_Pairs.length), j < i → okpair p p.f_Rules.f_Pairs[j] = true) (by kernel_rfl) (weak_sel ⟨rfl, rfl, rfl, rfl, rfl, trivial⟩ rfl) (fun j h hj => absurd hj (by omega)) (fun ipair hipair hIpair => ?_)
      conv => whnf
      refine bD (fun hlt => ?_) (fun hltpair => ?_)
      · have hlt' : ipair < p.f_Rules.f_Pairs.length := by simpa using hlt
        have hx := rise_all hrpair _ (List.getElem_mem hlt')
        simp only [pairV, stB, Bool.and_eq_true, decide_eq_true_eq] at hx
        by_cases cA : foundB p.f_Domains p.f_Rules.f_Pairs[ipair].f_A = true
        · have gA : ¬ (Lk p.f_Domains p.f_Domains.length).getD p.f_Rules.f_Pairs[ipair].f_A.toNat 0 < 0 := fun h => by rw [at_neg p.f_Domains hst p.f_Rules.f_Pairs[ipair].f_A (by omega) (by omega), cA] at h; cases h
          by_cases cB : foundB p.f_Domains p.f_Rules.f_Pairs[ipair].f_B = true
          · have gB : ¬ (Lk p.f_Domains p.f_Domains.length).getD p.f_Rules.f_Pairs[ipair].f_B.toNat 0 < 0 := fun h => by rw [at_neg p.f_Domains hst p.f_Rules.f_Pairs[ipair].f_B (by omega) (by omega), cB] at h; cases h
            repeat' ((conv => whnf); first | refine bT (decide_eq_true (by assumption)) ?_ | refine bF (decide_eq_false (by assumption)) ?_ | refine bT (by assumption) ?_ | refine bF (by assumption) ?_ | refine bT (notT (by assumption)) ?_ | refine bF (notF (by assumption)) ?_ | refine bD (fun _ => ?_) (fun _ => ?_) | refine OrdT.mk (by rfl) ?_ | refine oK (idxL_map hlt') ?_ | refine oK (ixN_m (i := p.f_Rules.f_Pairs[ipair].f_A.toNat) (by omega) (by omega)) ?_ | refine oK (nthL p.f_Domains (n := p.f_Rules.f_Pairs[ipair].f_A.toNat) (by omega)) ?_ | refine oK (ixN_m (i := p.f_Rules.f_Pairs[ipair].f_B.toNat) (by omega) (by omega)) ?_ | refine oK (nthL p.f_Domains (n := p.f_Rules.f_Pairs[ipair].f_B.toNat) (by omega)) ?_ | refine bS (fun _ => ?_) (fun _ => ?_))
            conv => whnf
            exact ⟨hlt', ok_step hIpair fun h => by simp [okpair, cA, cB], weak_cut 2 ⟨rfl, rfl, rfl, rfl, succ_i (by omega), trivial⟩ rfl rfl rfl (by simp only [B, belowB, belows_int]; rfl)⟩
          · have gB : (Lk p.f_Domains p.f_Domains.length).getD p.f_Rules.f_Pairs[ipair].f_B.toNat 0 < 0 := (at_neg p.f_Domains hst p.f_Rules.f_Pairs[ipair].f_B (by omega) (by omega)).2 (by simpa using cB)
            repeat' ((conv => whnf); first | refine bT (decide_eq_true (by assumption)) ?_ | refine bF (decide_eq_false (by assumption)) ?_ | refine bT (by assumption) ?_ | refine bF (by assumption) ?_ | refine bT (notT (by assumption)) ?_ | refine bF (notF (by assumption)) ?_ | refine bD (fun _ => ?_) (fun _ => ?_) | refine OrdT.mk (by rfl) ?_ | refine oK (idxL_map hlt') ?_ | refine oK (ixN_m (i := p.f_Rules.f_Pairs[ipair].f_A.toNat) (by omega) (by omega)) ?_ | refine oK (nthL p.f_Domains (n := p.f_Rules.f_Pairs[ipair].f_A.toNat) (by omega)) ?_ | refine oK (ixN_m (i := p.f_Rules.f_Pairs[ipair].f_B.toNat) (by omega) (by omega)) ?_ | refine oK (nthL p.f_Domains (n := p.f_Rules.f_Pairs[ipair].f_B.toNat) (by omega)) ?_ | refine bS (fun _ => ?_) (fun _ => ?_))
            conv => whnf
            exact retB (valid_nopair hlt' (by simp [okpair, cB]))
        · have gA : (Lk p.f_Domains p.f_Domains.length).getD p.f_Rules.f_Pairs[ipair].f_A.toNat 0 < 0 := (at_neg p.f_Domains hst p.f_Rules.f_Pairs[ipair].f_A (by omega) (by omega)).2 (by simpa using cA)
          repeat' ((conv => whnf); first | refine bT (decide_eq_true (by assumption)) ?_ | refine bF (decide_eq_false (by assumption)) ?_ | refine bT (by assumption) ?_ | refine bF (by assumption) ?_ | refine bT (notT (by assumption)) ?_ | refine bF (notF (by assumption)) ?_ | refine bD (fun _ => ?_) (fun _ => ?_) | refine OrdT.mk (by rfl) ?_ | refine oK (idxL_map hlt') ?_ | refine oK (ixN_m (i := p.f_Rules.f_Pairs[ipair].f_A.toNat) (by omega) (by omega)) ?_ | refine oK (nthL p.f_Domains (n := p.f_Rules.f_Pairs[ipair].f_A.toNat) (by omega)) ?_ | refine oK (ixN_m (i := p.f_Rules.f_Pairs[ipair].f_B.toNat) (by omega) (by omega)) ?_ | refine oK (nthL p.f_Domains (n := p.f_Rules.f_Pairs[ipair].f_B.toNat) (by omega)) ?_ | refine bS (fun _ => ?_) (fun _ => ?_))
          conv => whnf
          exact retB (valid_nopair hlt' (by simp [okpair, cA]))
      · conv => whnf
        have hgepair : ¬ ipair < p.f_Rules.f_Pairs.length := by simpa using hltpair
        have allpair : ∀ (j : Nat) (h : j < p.f_Rules.f_Pairs.length), okpair p p.f_Rules.f_Pairs[j] = true := fun j hj => hIpair j hj (by omega)
        refine loopI p.f_Rules.f_Loads.length (fun i => ⟨[(1, .ptr 0 0), (4, .ptr 1 0), (47, encL S_api_Load.enc p.f_Rules.f_Loads), (48, .int .i64 ((p.f_Rules.f_Loads.map S_api_Load.enc).length : Int)), (49, .int .i64 (i : Int))], B⟩)
          (fun i => ∀ (j : Nat) (h : j < p.f_Rules.f_Loads.length), j < i → okload p p.f_Rules.f_Loads[j] = true) (by kernel_rfl) (weak_sel ⟨rfl, rfl, rfl, rfl, rfl, trivial⟩ rfl) (fun j h hj => absurd hj (by omega)) (fun iload hiload hIload => ?_)
        conv => whnf
        refine bD (fun hlt => ?_) (fun hltload => ?_)
        · have hlt' : iload < p.f_Rules.f_Loads.length := by simpa using hlt
          have hx := rise_all hrload _ (List.getElem_mem hlt')
          simp only [loadV, stB, Bool.and_eq_true, decide_eq_true_eq] at hx
          by_cases cTo : foundB p.f_Domains p.f_Rules.f_Loads[iload].f_To = true
          · have gTo : ¬ (Lk p.f_Domains p.f_Domains.length).getD p.f_Rules.f_Loads[iload].f_To.toNat 0 < 0 := fun h => by rw [at_neg p.f_Domains hst p.f_Rules.f_Loads[iload].f_To (by omega) (by omega), cTo] at h; cases h
            by_cases cFrom : foundB p.f_Domains p.f_Rules.f_Loads[iload].f_From = true
            · have gFrom : ¬ (Lk p.f_Domains p.f_Domains.length).getD p.f_Rules.f_Loads[iload].f_From.toNat 0 < 0 := fun h => by rw [at_neg p.f_Domains hst p.f_Rules.f_Loads[iload].f_From (by omega) (by omega), cFrom] at h; cases h
              repeat' ((conv => whnf); first | refine bT (decide_eq_true (by assumption)) ?_ | refine bF (decide_eq_false (by assumption)) ?_ | refine bT (by assumption) ?_ | refine bF (by assumption) ?_ | refine bT (notT (by assumption)) ?_ | refine bF (notF (by assumption)) ?_ | refine bD (fun _ => ?_) (fun _ => ?_) | refine OrdT.mk (by rfl) ?_ | refine oK (idxL_map hlt') ?_ | refine oK (ixN_m (i := p.f_Rules.f_Loads[iload].f_To.toNat) (by omega) (by omega)) ?_ | refine oK (nthL p.f_Domains (n := p.f_Rules.f_Loads[iload].f_To.toNat) (by omega)) ?_ | refine oK (ixN_m (i := p.f_Rules.f_Loads[iload].f_From.toNat) (by omega) (by omega)) ?_ | refine oK (nthL p.f_Domains (n := p.f_Rules.f_Loads[iload].f_From.toNat) (by omega)) ?_ | refine bS (fun _ => ?_) (fun _ => ?_))
              conv => whnf
              exact ⟨hlt', ok_step hIload fun h => by simp [okload, cTo, cFrom], weak_cut 2 ⟨rfl, rfl, rfl, rfl, succ_i (by omega), trivial⟩ rfl rfl rfl (by simp only [B, belowB, belows_int]; rfl)⟩
            · have gFrom : (Lk p.f_Domains p.f_Domains.length).getD p.f_Rules.f_Loads[iload].f_From.toNat 0 < 0 := (at_neg p.f_Domains hst p.f_Rules.f_Loads[iload].f_From (by omega) (by omega)).2 (by simpa using cFrom)
              repeat' ((conv => whnf); first | refine bT (decide_eq_true (by assumption)) ?_ | refine bF (decide_eq_false (by assumption)) ?_ | refine bT (by assumption) ?_ | refine bF (by assumption) ?_ | refine bT (notT (by assumption)) ?_ | refine bF (notF (by assumption)) ?_ | refine bD (fun _ => ?_) (fun _ => ?_) | refine OrdT.mk (by rfl) ?_ | refine oK (idxL_map hlt') ?_ | refine oK (ixN_m (i := p.f_Rules.f_Loads[iload].f_To.toNat) (by omega) (by omega)) ?_ | refine oK (nthL p.f_Domains (n := p.f_Rules.f_Loads[iload].f_To.toNat) (by omega)) ?_ | refine oK (ixN_m (i := p.f_Rules.f_Loads[iload].f_From.toNat) (by omega) (by omega)) ?_ | refine oK (nthL p.f_Domains (n := p.f_Rules.f_Loads[iload].f_From.toNat) (by omega)) ?_ | refine bS (fun _ => ?_) (fun _ => ?_))
              conv => whnf
              exact retB (valid_noload hlt' (by simp [okload, cFrom]))
          · have gTo : (Lk p.f_Domains p.f_Domains.length).getD p.f_Rules.f_Loads[iload].f_To.toNat 0 < 0 := (at_neg p.f_Domains hst p.f_Rules.f_Loads[iload].f_To (by omega) (by omega)).2 (by simpa using cTo)
            repeat' ((conv => whnf); first | refine bT (decide_eq_true (by assumption)) ?_ | refine bF (decide_eq_false (by assumption)) ?_ | refine bT (by assumption) ?_ | refine bF (by assumption) ?_ | refine bT (notT (by assumption)) ?_ | refine bF (notF (by assumption)) ?_ | refine bD (fun _ => ?_) (fun _ => ?_) | refine OrdT.mk (by rfl) ?_ | refine oK (idxL_map hlt') ?_ | refine oK (ixN_m (i := p.f_Rules.f_Loads[iload].f_To.toNat) (by omega) (by omega)) ?_ | refine oK (nthL p.f_Domains (n := p.f_Rules.f_Loads[iload].f_To.toNat) (by omega)) ?_ | refine oK (ixN_m (i := p.f_Rules.f_Loads[iload].f_From.toNat) (by omega) (by omega)) ?_ | refine oK (nthL p.f_Domains (n := p.f_Rules.f_Loads[iload].f_From.toNat) (by omega)) ?_ | refine bS (fun _ => ?_) (fun _ => ?_))
            conv => whnf
            exact retB (valid_noload hlt' (by simp [okload, cTo]))
        · conv => whnf
          have hgeload : ¬ iload < p.f_Rules.f_Loads.length := by simpa using hltload
          have allload : ∀ (j : Nat) (h : j < p.f_Rules.f_Loads.length), okload p p.f_Rules.f_Loads[j] = true := fun j hj => hIload j hj (by omega)
          refine loopI p.f_Rules.f_Caps.length (fun i => ⟨[(4, .ptr 1 0), (68, encL S_api_Cap.enc p.f_Rules.f_Caps), (69, .int .i64 ((p.f_Rules.f_Caps.map S_api_Cap.enc).length : Int)), (70, .int .i64 (i : Int))], B⟩)
            (fun i => ∀ (j : Nat) (h : j < p.f_Rules.f_Caps.length), j < i → okcap p p.f_Rules.f_Caps[j] = true) (by kernel_rfl) (weak_sel ⟨rfl, rfl, rfl, rfl, trivial⟩ rfl) (fun j h hj => absurd hj (by omega)) (fun icap hicap hIcap => ?_)
          conv => whnf
          refine bD (fun hlt => ?_) (fun hltcap => ?_)
          · have hlt' : icap < p.f_Rules.f_Caps.length := by simpa using hlt
            have hx := rise_all hrcap _ (List.getElem_mem hlt')
            simp only [capV, stB, Bool.and_eq_true, decide_eq_true_eq] at hx
            by_cases cStation : foundB p.f_Domains p.f_Rules.f_Caps[icap].f_Station = true
            · have gStation : ¬ (Lk p.f_Domains p.f_Domains.length).getD p.f_Rules.f_Caps[icap].f_Station.toNat 0 < 0 := fun h => by rw [at_neg p.f_Domains hst p.f_Rules.f_Caps[icap].f_Station (by omega) (by omega), cStation] at h; cases h
              repeat' ((conv => whnf); first | refine bT (decide_eq_true (by assumption)) ?_ | refine bF (decide_eq_false (by assumption)) ?_ | refine bT (by assumption) ?_ | refine bF (by assumption) ?_ | refine bT (notT (by assumption)) ?_ | refine bF (notF (by assumption)) ?_ | refine bD (fun _ => ?_) (fun _ => ?_) | refine OrdT.mk (by rfl) ?_ | refine oK (idxL_map hlt') ?_ | refine oK (ixN_m (i := p.f_Rules.f_Caps[icap].f_Station.toNat) (by omega) (by omega)) ?_ | refine oK (nthL p.f_Domains (n := p.f_Rules.f_Caps[icap].f_Station.toNat) (by omega)) ?_ | refine bS (fun _ => ?_) (fun _ => ?_))
              conv => whnf
              exact ⟨hlt', ok_step hIcap fun h => by simp [okcap, cStation], weak_cut 2 ⟨rfl, rfl, rfl, succ_i (by omega), trivial⟩ rfl rfl rfl (by simp only [B, belowB, belows_int]; rfl)⟩
            · have gStation : (Lk p.f_Domains p.f_Domains.length).getD p.f_Rules.f_Caps[icap].f_Station.toNat 0 < 0 := (at_neg p.f_Domains hst p.f_Rules.f_Caps[icap].f_Station (by omega) (by omega)).2 (by simpa using cStation)
              repeat' ((conv => whnf); first | refine bT (decide_eq_true (by assumption)) ?_ | refine bF (decide_eq_false (by assumption)) ?_ | refine bT (by assumption) ?_ | refine bF (by assumption) ?_ | refine bT (notT (by assumption)) ?_ | refine bF (notF (by assumption)) ?_ | refine bD (fun _ => ?_) (fun _ => ?_) | refine OrdT.mk (by rfl) ?_ | refine oK (idxL_map hlt') ?_ | refine oK (ixN_m (i := p.f_Rules.f_Caps[icap].f_Station.toNat) (by omega) (by omega)) ?_ | refine oK (nthL p.f_Domains (n := p.f_Rules.f_Caps[icap].f_Station.toNat) (by omega)) ?_ | refine bS (fun _ => ?_) (fun _ => ?_))
              conv => whnf
              exact retB (valid_nocap hlt' (by simp [okcap, cStation]))
          · conv => whnf
            have hgecap : ¬ icap < p.f_Rules.f_Caps.length := by simpa using hltcap
            have allcap : ∀ (j : Nat) (h : j < p.f_Rules.f_Caps.length), okcap p p.f_Rules.f_Caps[j] = true := fun j hj => hIcap j hj (by omega)
            exact retB (by rw [valid_eq, hd, hr, all_yes allpair, all_yes allload, all_yes allcap]; rfl)
end Go.Proofs.YtelgmdljcbkniaaGreatDoor.Pr
