/- Problems: what is valid. -/
import Derived.Test.YtelgmdljcbkniaaGreatDoorPr2
namespace Go.Proofs.YtelgmdljcbkniaaGreatDoor.Pr
open Go Go.Proofs Go.Proofs.YtelgmdljcbkniaaGreatDoor.Ai Go.Proofs.YtelgmdljcbkniaaGreatDoor.Ti Go.Proofs.YtelgmdljcbkniaaGreatDoor.Dt
set_option maxRecDepth 100000
def cmpI (a b : Int) : Int := if a < b then -1 else if b < a then 1 else 0
def stB (n : Int) : Bool := decide (0 ≤ n) && decide (n < 512)
def chB (n : Int) : Bool := decide (2 ≤ n) && decide (n ≤ 51)
def spB (a b : Int) : Bool := decide (2 ≤ a) && decide (a ≤ b) && decide (b ≤ 51)
def chO (x y : S_api_Choice) : Int := x.f_Station - y.f_Station
def chV (x : S_api_Choice) : Bool := stB x.f_Station && chB x.f_Channel
theorem st_ok (n : Int) : V cx.P 92 [.int .i64 n] (.bool (stB n)) := by
  have := station_ok n; simpa [stB] using this
theorem sp_ok (a b : Int) : V cx.P 95 [.int .i64 a, .int .i64 b] (.bool (spB a b)) := by
  have := span_ok a b
  have e : spB a b = decide (2 ≤ a ∧ a ≤ b ∧ b ≤ 51) := by simp [spB, Bool.and_assoc]
  rw [e]; exact this
theorem chV_ok (x : S_api_Choice) : V cx.P 126 [x.enc] (.bool (chV x)) := by
  refine V_of Tryz.func126 rfl en126 (by kernel_rfl) (by kernel_rfl) ?_
  repeat' ((conv => whnf); first | refine bT (decide_eq_true (by assumption)) ?_ | refine bF (decide_eq_false (by assumption)) ?_ | refine bT (by assumption) ?_ | refine bF (by assumption) ?_ | refine bT (notT (by assumption)) ?_ | refine bF (notF (by assumption)) ?_ | refine bD (fun _ => ?_) (fun _ => ?_) | refine OrdT.mk (by rfl) ?_ | refine callV (st_ok _) ?_ | refine callV (sp_ok _ _) ?_ | refine bS (fun _ => ?_) (fun _ => ?_))
  all_goals ((conv => whnf); refine retB ?_; simp_all [chV, spB, chB])
theorem chO_ok (x y : S_api_Choice) (hx : chV x = true) (hy : chV y = true) : V cx.P 127 [x.enc, y.enc] (.int .i64 (chO x y)) := by
  simp only [chV, stB, Bool.and_eq_true, decide_eq_true_eq] at hx hy
  refine V_of Tryz.func127 rfl en127 (by kernel_rfl) (by kernel_rfl) ?_
  conv => whnf
  exact retI (w64 (by omega) (by omega))
theorem validList_ok (l : List S_api_Choice) (hl : l.length < 1000000) : V cx.P 68 [encL S_api_Choice.enc l] (.bool (riseB chV chO l)) := by
  refine V_of Tryz.func68 rfl en68 (by kernel_rfl) (by kernel_rfl) ?_
  repeat' ((conv => whnf); first | refine bT (decide_eq_true (by assumption)) ?_ | refine bF (decide_eq_false (by assumption)) ?_ | refine bT (by assumption) ?_ | refine bF (by assumption) ?_ | refine bT (notT (by assumption)) ?_ | refine bF (notF (by assumption)) ?_ | refine bD (fun _ => ?_) (fun _ => ?_) | refine OrdT.mk (by rfl) ?_ | refine callV (rise_choice l _ _ hl chV chO (fun x _ => chV_ok x) chO_ok) ?_ | refine bS (fun _ => ?_) (fun _ => ?_))
  conv => whnf
  exact retB rfl

/-! ### domains -/

def domV (x : S_api_Domain) : Bool := stB x.f_Station && riseB chB cmpI x.f_Channels
def domO (x y : S_api_Domain) : Int := x.f_Station - y.f_Station
theorem cmpI_ok (a b : Int) : V cx.P 96 [.int .i64 a, .int .i64 b] (.int .i64 (cmpI a b)) := cmp_ok a b
theorem chB_ok (n : Int) : V cx.P 94 [.int .i64 n] (.bool (chB n)) := by
  have := chan_ok n; simpa [chB] using this
theorem domV_ok (x : S_api_Domain) (hl : x.f_Channels.length < 1000000) : V cx.P 91 [x.enc] (.bool (domV x)) := by
  refine V_of Tryz.func91 rfl en91 (by kernel_rfl) (by kernel_rfl) ?_
  repeat' ((conv => whnf); first | refine bT (decide_eq_true (by assumption)) ?_ | refine bF (decide_eq_false (by assumption)) ?_ | refine bT (by assumption) ?_ | refine bF (by assumption) ?_ | refine bT (notT (by assumption)) ?_ | refine bF (notF (by assumption)) ?_ | refine bD (fun _ => ?_) (fun _ => ?_) | refine OrdT.mk (by rfl) ?_ | refine callV (st_ok _) ?_ | refine callV (rise_int _ _ _ hl chB cmpI (fun x _ => chB_ok x) (fun x y _ _ => cmpI_ok x y)) ?_ | refine bS (fun _ => ?_) (fun _ => ?_))
  all_goals ((conv => whnf); refine retB ?_; simp_all [domV])
theorem domO_ok (x y : S_api_Domain) (hx : domV x = true) (hy : domV y = true) : V cx.P 97 [x.enc, y.enc] (.int .i64 (domO x y)) := by
  simp only [domV, stB, Bool.and_eq_true, decide_eq_true_eq] at hx hy
  refine V_of Tryz.func97 rfl en97 (by kernel_rfl) (by kernel_rfl) ?_
  conv => whnf
  exact retI (w64 (by omega) (by omega))

/-! ### rules -/

def orI : List Int → Int
  | [] => 0
  | x :: r => if x = 0 then orI r else x
def pairV (x : S_api_Pair) : Bool := stB x.f_A && stB x.f_B && decide (x.f_A < x.f_B) && decide (-1 ≤ x.f_Offset) && decide (x.f_Offset ≤ 1) && spB x.f_Low x.f_High
def loadV (x : S_api_Load) : Bool := stB x.f_To && stB x.f_From && !(decide (x.f_To = x.f_From)) && decide (1 ≤ x.f_Weight) && decide (x.f_Weight ≤ 1073741824) && spB x.f_Low x.f_High
def capV (x : S_api_Cap) : Bool := stB x.f_Station && decide (0 ≤ x.f_Max) && decide (x.f_Max ≤ 1099511627776) && spB x.f_Low x.f_High
def pairO (a b : S_api_Pair) : Int := orI [a.f_A - b.f_A, a.f_B - b.f_B, a.f_Offset - b.f_Offset, a.f_Low - b.f_Low, a.f_High - b.f_High]
def loadO (a b : S_api_Load) : Int := orI [a.f_To - b.f_To, a.f_From - b.f_From, a.f_Weight - b.f_Weight, a.f_Low - b.f_Low, a.f_High - b.f_High]
def capO (a b : S_api_Cap) : Int := orI [a.f_Station - b.f_Station, a.f_Max - b.f_Max, a.f_Low - b.f_Low, a.f_High - b.f_High]
theorem pairV_ok (x : S_api_Pair) : V cx.P 146 [x.enc] (.bool (pairV x)) := by
  refine V_of Tryz.func146 rfl en146 (by kernel_rfl) (by kernel_rfl) ?_
  repeat' ((conv => whnf); first | refine bT (decide_eq_true (by assumption)) ?_ | refine bF (decide_eq_false (by assumption)) ?_ | refine bT (by assumption) ?_ | refine bF (by assumption) ?_ | refine bT (notT (by assumption)) ?_ | refine bF (notF (by assumption)) ?_ | refine bD (fun _ => ?_) (fun _ => ?_) | refine OrdT.mk (by rfl) ?_ | refine callV (st_ok _) ?_ | refine callV (sp_ok _ _) ?_ | refine bS (fun _ => ?_) (fun _ => ?_))
  all_goals ((conv => whnf); refine retB ?_; simp_all [pairV] <;> (intros; omega))
theorem loadV_ok (x : S_api_Load) : V cx.P 149 [x.enc] (.bool (loadV x)) := by
  refine V_of Tryz.func149 rfl en149 (by kernel_rfl) (by kernel_rfl) ?_
  repeat' ((conv => whnf); first | refine bT (decide_eq_true (by assumption)) ?_ | refine bF (decide_eq_false (by assumption)) ?_ | refine bT (by assumption) ?_ | refine bF (by assumption) ?_ | refine bT (notT (by assumption)) ?_ | refine bF (notF (by assumption)) ?_ | refine bD (fun _ => ?_) (fun _ => ?_) | refine OrdT.mk (by rfl) ?_ | refine callV (st_ok _) ?_ | refine callV (sp_ok _ _) ?_ | refine bS (fun _ => ?_) (fun _ => ?_))
  all_goals ((conv => whnf); refine retB ?_; simp_all [loadV] <;> (intros; omega))
theorem capV_ok (x : S_api_Cap) : V cx.P 152 [x.enc] (.bool (capV x)) := by
  refine V_of Tryz.func152 rfl en152 (by kernel_rfl) (by kernel_rfl) ?_
  repeat' ((conv => whnf); first | refine bT (decide_eq_true (by assumption)) ?_ | refine bF (decide_eq_false (by assumption)) ?_ | refine bT (by assumption) ?_ | refine bF (by assumption) ?_ | refine bT (notT (by assumption)) ?_ | refine bF (notF (by assumption)) ?_ | refine bD (fun _ => ?_) (fun _ => ?_) | refine OrdT.mk (by rfl) ?_ | refine callV (st_ok _) ?_ | refine callV (sp_ok _ _) ?_ | refine bS (fun _ => ?_) (fun _ => ?_))
  all_goals ((conv => whnf); refine retB ?_; simp_all [capV] <;> (intros; omega))
theorem orI_none : ∀ {l : List Int}, (∀ (j : Nat) (h : j < l.length), l[j] = 0) → orI l = 0
  | [], _ => rfl
  | x :: r, h => by
    have h0 : x = 0 := h 0 (by simp)
    simp only [orI, h0, if_true]
    exact orI_none fun j hj => by have := h (j + 1) (by simpa using hj); simpa only [List.getElem_cons_succ] using this
theorem orI_at : ∀ {l : List Int} {i : Nat} (hi : i < l.length), (∀ (j : Nat) (h : j < l.length), j < i → l[j] = 0) → l[i] ≠ 0 → orI l = l[i]
  | x :: r, 0, _, _, h => by simp only [orI]; rw [if_neg (by simpa using h)]; rfl
  | x :: r, i + 1, hi, h, hn => by
    have h0 : x = 0 := h 0 (by simp) (by omega)
    simp only [orI, h0, if_true, List.getElem_cons_succ]
    exact orI_at (by simpa using hi) (fun j hj hji => by have := h (j + 1) (by simpa using hj) (by omega); simpa only [List.getElem_cons_succ] using this) (by simpa only [List.getElem_cons_succ] using hn)
theorem or_ok (l : List Int) (ex : Bool) (hl : l.length < 1000) : V cx.P 178 [.lst ex (l.map (AV.int .i64))] (.int .i64 (orI l)) := by
  refine V_of Tryz.func178 rfl en178 (by kernel_rfl) (by kernel_rfl) ?_
  conv => whnf
  refine loopI l.length (fun i => ⟨[(3, .int .i64 0), (6, .lst ex (l.map (AV.int .i64))), (7, .int .i64 ((l.map (AV.int .i64)).length : Int)), (8, .int .i64 (i : Int))], []⟩)
    (fun i => ∀ (j : Nat) (h : j < l.length), j < i → l[j] = 0) (by kernel_rfl) (weak_sel ⟨rfl, rfl, rfl, rfl, trivial⟩ rfl) (fun j h hj => absurd hj (by omega)) (fun i hi hI => ?_)
  conv => whnf
  refine bD (fun hlt => ?_) (fun hlt => ?_)
  · have hlt' : i < l.length := by simpa using hlt
    repeat' ((conv => whnf); first | refine bT (decide_eq_true (by assumption)) ?_ | refine bF (decide_eq_false (by assumption)) ?_ | refine bT (by assumption) ?_ | refine bF (by assumption) ?_ | refine bT (notT (by assumption)) ?_ | refine bF (notF (by assumption)) ?_ | refine bD (fun _ => ?_) (fun _ => ?_) | refine OrdT.mk (by rfl) ?_ | refine oK (idxL_map hlt') ?_ | refine bS (fun _ => ?_) (fun _ => ?_))
    · conv => whnf
      refine retI (orI_at hlt' hI ?_).symm
      simp_all
    · conv => whnf
      exact ⟨hlt', fun j hj hji => by
        by_cases e : j = i
        · subst e; simp_all
        · exact hI j hj (by omega), weak_sel ⟨rfl, rfl, rfl, succ_i (by omega), trivial⟩ rfl⟩
  · conv => whnf
    have hge : ¬ i < l.length := by simpa using hlt
    exact retI (orI_none fun j hj => hI j hj (by omega)).symm
theorem pairO_ok (x y : S_api_Pair) (hx : pairV x = true) (hy : pairV y = true) : V cx.P 147 [x.enc, y.enc] (.int .i64 (pairO x y)) := by
  simp only [pairV, stB, spB, Bool.and_eq_true, decide_eq_true_eq] at hx hy
  have e : pairO x y = orI [IntKind.i64.wrap (x.f_A - y.f_A), IntKind.i64.wrap (x.f_B - y.f_B), IntKind.i64.wrap (x.f_Offset - y.f_Offset), IntKind.i64.wrap (x.f_Low - y.f_Low), IntKind.i64.wrap (x.f_High - y.f_High)] := by
    unfold pairO; rw [w64 (by omega) (by omega), w64 (by omega) (by omega), w64 (by omega) (by omega), w64 (by omega) (by omega), w64 (by omega) (by omega)]
  rw [e]
  refine V_of Tryz.func147 rfl en147 (by kernel_rfl) (by kernel_rfl) ?_
  conv => whnf
  refine callV (or_ok [IntKind.i64.wrap (x.f_A - y.f_A), IntKind.i64.wrap (x.f_B - y.f_B), IntKind.i64.wrap (x.f_Offset - y.f_Offset), IntKind.i64.wrap (x.f_Low - y.f_Low), IntKind.i64.wrap (x.f_High - y.f_High)] false (by simp)) ?_
  conv => whnf
  exact retI rfl
theorem loadO_ok (x y : S_api_Load) (hx : loadV x = true) (hy : loadV y = true) : V cx.P 150 [x.enc, y.enc] (.int .i64 (loadO x y)) := by
  simp only [loadV, stB, spB, Bool.and_eq_true, decide_eq_true_eq] at hx hy
  have e : loadO x y = orI [IntKind.i64.wrap (x.f_To - y.f_To), IntKind.i64.wrap (x.f_From - y.f_From), IntKind.i64.wrap (x.f_Weight - y.f_Weight), IntKind.i64.wrap (x.f_Low - y.f_Low), IntKind.i64.wrap (x.f_High - y.f_High)] := by
    unfold loadO; rw [w64 (by omega) (by omega), w64 (by omega) (by omega), w64 (by omega) (by omega), w64 (by omega) (by omega), w64 (by omega) (by omega)]
  rw [e]
  refine V_of Tryz.func150 rfl en150 (by kernel_rfl) (by kernel_rfl) ?_
  repeat' ((conv => whnf); first | refine bT (decide_eq_true (by assumption)) ?_ | refine bF (decide_eq_false (by assumption)) ?_ | refine bT (by assumption) ?_ | refine bF (by assumption) ?_ | refine bT (notT (by assumption)) ?_ | refine bF (notF (by assumption)) ?_ | refine bD (fun _ => ?_) (fun _ => ?_) | refine OrdT.mk (by rfl) ?_ | refine callV (or_ok [IntKind.i64.wrap (x.f_To - y.f_To), IntKind.i64.wrap (x.f_From - y.f_From), IntKind.i64.wrap (x.f_Weight - y.f_Weight), IntKind.i64.wrap (x.f_Low - y.f_Low), IntKind.i64.wrap (x.f_High - y.f_High)] false (by simp)) ?_ | refine bS (fun _ => ?_) (fun _ => ?_))
  conv => whnf
  exact retI rfl
theorem capO_ok (x y : S_api_Cap) (hx : capV x = true) (hy : capV y = true) : V cx.P 153 [x.enc, y.enc] (.int .i64 (capO x y)) := by
  simp only [capV, stB, spB, Bool.and_eq_true, decide_eq_true_eq] at hx hy
  have e : capO x y = orI [IntKind.i64.wrap (x.f_Station - y.f_Station), IntKind.i64.wrap (x.f_Max - y.f_Max), IntKind.i64.wrap (x.f_Low - y.f_Low), IntKind.i64.wrap (x.f_High - y.f_High)] := by
    unfold capO; rw [w64 (by omega) (by omega), w64 (by omega) (by omega), w64 (by omega) (by omega), w64 (by omega) (by omega)]
  rw [e]
  refine V_of Tryz.func153 rfl en153 (by kernel_rfl) (by kernel_rfl) ?_
  repeat' ((conv => whnf); first | refine bT (decide_eq_true (by assumption)) ?_ | refine bF (decide_eq_false (by assumption)) ?_ | refine bT (by assumption) ?_ | refine bF (by assumption) ?_ | refine bT (notT (by assumption)) ?_ | refine bF (notF (by assumption)) ?_ | refine bD (fun _ => ?_) (fun _ => ?_) | refine OrdT.mk (by rfl) ?_ | refine callV (or_ok [IntKind.i64.wrap (x.f_Station - y.f_Station), IntKind.i64.wrap (x.f_Max - y.f_Max), IntKind.i64.wrap (x.f_Low - y.f_Low), IntKind.i64.wrap (x.f_High - y.f_High)] false (by simp)) ?_ | refine bS (fun _ => ?_) (fun _ => ?_))
  conv => whnf
  exact retI rfl
def rulesB (r : S_api_Rules) : Bool := decide ((r.f_Pairs.length : Int) ≤ 4096) && decide ((r.f_Loads.length : Int) ≤ 1024) && decide ((r.f_Caps.length : Int) ≤ 1024) && riseB pairV pairO r.f_Pairs && riseB loadV loadO r.f_Loads && riseB capV capO r.f_Caps
theorem validRules_ok (r : S_api_Rules) : V cx.P 98 [r.enc] (.bool (rulesB r)) := by
  refine V_of Tryz.func98 rfl en98 (by kernel_rfl) (by kernel_rfl) ?_
  repeat' ((conv => whnf); first | refine bT (decide_eq_true (by assumption)) ?_ | refine bF (decide_eq_false (by assumption)) ?_ | refine bT (by assumption) ?_ | refine bF (by assumption) ?_ | refine bT (notT (by assumption)) ?_ | refine bF (notF (by assumption)) ?_ | refine bD (fun _ => ?_) (fun _ => ?_) | refine OrdT.mk (by rfl) ?_ | refine callV (rise_pair r.f_Pairs _ _ (by simp only [List.length_map] at *; omega) pairV pairO (fun x _ => pairV_ok x) pairO_ok) ?_ | refine callV (rise_load r.f_Loads _ _ (by simp only [List.length_map] at *; omega) loadV loadO (fun x _ => loadV_ok x) loadO_ok) ?_ | refine callV (rise_cap r.f_Caps _ _ (by simp only [List.length_map] at *; omega) capV capO (fun x _ => capV_ok x) capO_ok) ?_ | refine bS (fun _ => ?_) (fun _ => ?_))
  all_goals conv => whnf
  all_goals refine retB ?_
  all_goals simp only [List.length_map] at *
  all_goals simp_all [rulesB] <;> (intros; omega)

/-! ### the index of stations -/

def arr0 (i : Nat) : List Int := List.replicate i (-1) ++ List.replicate (512 - i) 0
theorem arr0_len {i : Nat} (h : i ≤ 512) : (arr0 i).length = 512 := by simp [arr0]; omega
theorem arr0_set {i : Nat} (h : i < 512) : (arr0 i).set i (-1) = arr0 (i + 1) := by
  unfold arr0
  rw [List.set_append_right _ _ (by simp), List.length_replicate, Nat.sub_self, show 512 - i = (512 - (i + 1)) + 1 by omega, List.replicate_succ, List.set_cons_zero, List.replicate_succ', List.append_assoc]
  rfl
def Lk (ds : List S_api_Domain) : Nat → List Int
  | 0 => List.replicate 512 (-1)
  | i + 1 => (Lk ds i).set (ds.getD i default).f_Station.toNat (i : Int)
theorem Lk_len (ds : List S_api_Domain) : ∀ i, (Lk ds i).length = 512
  | 0 => by simp [Lk]
  | i + 1 => by simp [Lk, Lk_len ds i]
theorem Lk_neg (ds : List S_api_Domain) (hv : ∀ d ∈ ds, stB d.f_Station = true) : ∀ i, i ≤ ds.length → ∀ n : Nat, n < 512 → ((Lk ds i).getD n 0 < 0 ↔ ∀ (j : Nat) (h : j < ds.length), j < i → ds[j].f_Station ≠ (n : Int))
  | 0, _, n, hn => by
    have : (Lk ds 0).getD n 0 = -1 := by rw [show Lk ds 0 = List.replicate 512 (-1) from rfl, List.getD_eq_getElem?_getD, List.getElem?_replicate, if_pos hn]; rfl
    rw [this]
    exact ⟨fun _ j h hj => absurd hj (by omega), fun _ => by omega⟩
  | i + 1, hi, n, hn => by
    have ih := Lk_neg ds hv i (by omega) n hn
    have hi' : i < ds.length := by omega
    have hd : ds.getD i default = ds[i] := by simp [List.getD, hi']
    have hs := hv ds[i] (List.getElem_mem _)
    simp only [stB, Bool.and_eq_true, decide_eq_true_eq] at hs
    have e : (Lk ds (i + 1)).getD n 0 = if ds[i].f_Station = (n : Int) then (i : Int) else (Lk ds i).getD n 0 := by
      show ((Lk ds i).set (ds.getD i default).f_Station.toNat (i : Int)).getD n 0 = _
      rw [hd]
      by_cases e : ds[i].f_Station = (n : Int)
      · rw [if_pos e]
        have : ds[i].f_Station.toNat = n := by omega
        rw [this]
        simp [List.getD, Lk_len, hn]
      · rw [if_neg e]
        have : ds[i].f_Station.toNat ≠ n := by omega
        simp [List.getD, List.getElem?_set_ne this]
    rw [e]
    constructor
    · intro h j hj hji
      split at h
      · omega
      · rename_i hne
        by_cases e2 : j = i
        · subst e2; exact hne
        · exact ih.1 h j hj (by omega)
    · intro h
      rw [if_neg (h i hi' (by omega))]
      exact ih.2 fun j hj hji => h j hj (by omega)
theorem belows_int (k : Nat) (kk : IntKind) : ∀ l : List Int, belows k (l.map (AV.int kk)) = true
  | [] => rfl
  | x :: r => by simp only [List.map_cons, belows, below, belows_int k kk r]
theorem lenGe_of : ∀ {l : List AV} {n : Nat}, n ≤ l.length → lenGe l n = true
  | _, 0, _ => by simp [lenGe]
  | [], n + 1, h => by simp at h
  | x :: r, n + 1, h => by simp only [lenGe]; exact lenGe_of (by simpa using h)
theorem setsAll' {K : List AV → Prop} : ∀ (L zs pre : List AV), L.length = zs.length → K (pre ++ L) → setsP (pre ++ zs) pre.length L K
  | [], [], pre, _, k => by simpa [setsP] using k
  | v :: r, z :: zs, pre, h, k => by
    show setP (pre ++ z :: zs) pre.length v fun cs' => setsP cs' (pre.length + 1) r K
    refine setK (by simp) ?_
    have e : (pre ++ z :: zs).set pre.length v = (pre ++ [v]) ++ zs := by
      rw [List.set_append_right _ _ (Nat.le_refl _), Nat.sub_self, List.set_cons_zero]; simp
    have := setsAll' (K := K) r zs (pre ++ [v]) (by simpa using h) (by simpa using k)
    rw [List.length_append] at this
    rw [e]
    exact this
  | [], _ :: _, _, h, _ => by simp at h
  | _ :: _, [], _, h, _ => by simp at h
theorem setsAll {K : List AV → Prop} {L zs : List AV} (h : L.length = zs.length) (k : K L) : setsP zs 0 L K := setsAll' L zs [] h k
theorem ixN_n {i len : Nat} (h : i < len) : ixN (i : Int) len = some i := by unfold ixN; rw [if_pos ⟨by omega, by simpa using h⟩]; simp
theorem ixN_m {n : Int} {i len : Nat} (e : n = (i : Int)) (h : i < len) : ixN n len = some i := e ▸ ixN_n h
theorem index_ok (p : S_api_Problem) (hl : p.f_Domains.length < 1000000) (hv : ∀ d ∈ p.f_Domains, stB d.f_Station = true) : V cx.P 99 [p.enc] (.agg ((Lk p.f_Domains p.f_Domains.length).map (AV.int .i64))) := by
  refine V_of Tryz.func99 rfl en99 (by kernel_rfl) (by kernel_rfl) ?_
  conv => whnf
  refine loopI 512 (fun i => ⟨[(1, .ptr 0 0), (2, .ptr 1 0), (6, .int .i64 (i : Int))], [.cells [encL S_api_Domain.enc p.f_Domains, encL S_api_Pair.enc p.f_Rules.f_Pairs, encL S_api_Load.enc p.f_Rules.f_Loads, encL S_api_Cap.enc p.f_Rules.f_Caps], .cells ((arr0 i).map (AV.int .i64))]⟩)
    (fun i => True) (by kernel_rfl) (weak_sel ⟨rfl, rfl, rfl, trivial⟩ (by
      show [_, Blk.cells (List.replicate 512 (AV.int .i64 0))] = _
      simp [arr0])) trivial (fun i hi _ => ?_)
  conv => whnf
  refine bD (fun hlt => ?_) (fun hlt => ?_)
  · have hlt' : i < 512 := by omega
    repeat' ((conv => whnf); first | refine bT (decide_eq_true (by assumption)) ?_ | refine bF (decide_eq_false (by assumption)) ?_ | refine bT (by assumption) ?_ | refine bF (by assumption) ?_ | refine bT (notT (by assumption)) ?_ | refine bF (notF (by assumption)) ?_ | refine bD (fun _ => ?_) (fun _ => ?_) | refine OrdT.mk (by rfl) ?_ | refine oK (ixN_n hlt') ?_ | refine bS (fun _ => ?_) (fun _ => ?_))
    conv => whnf
    have h1 : 0 + i * i3.size = i := by simp [i3]
    refine setK (by rw [h1, List.length_map, arr0_len hi]; exact hlt') ?_
    conv => whnf
    refine ⟨hlt', trivial, weak_sel ⟨rfl, rfl, succ_i (by omega), trivial⟩ ?_⟩
    rw [h1, ← List.map_set, arr0_set hlt']
  · conv => whnf
    have e512 : i = 512 := by omega
    subst e512
    refine loopI p.f_Domains.length (fun i => ⟨[(2, .ptr 1 0), (13, encL S_api_Domain.enc p.f_Domains), (14, .int .i64 ((p.f_Domains.map S_api_Domain.enc).length : Int)), (15, .int .i64 (i : Int))], [.cells [encL S_api_Domain.enc p.f_Domains, encL S_api_Pair.enc p.f_Rules.f_Pairs, encL S_api_Load.enc p.f_Rules.f_Loads, encL S_api_Cap.enc p.f_Rules.f_Caps], .cells ((Lk p.f_Domains i).map (AV.int .i64))]⟩)
      (fun i => True) (by kernel_rfl) (weak_sel ⟨rfl, rfl, rfl, rfl, trivial⟩ (by simp [arr0, Lk])) trivial (fun k hk _ => ?_)
    conv => whnf
    refine bD (fun hlt => ?_) (fun hlt => ?_)
    · have hlt' : k < p.f_Domains.length := by simpa using hlt
      have hs := hv p.f_Domains[k] (List.getElem_mem _)
      simp only [stB, Bool.and_eq_true, decide_eq_true_eq] at hs
      repeat' ((conv => whnf); first | refine bT (decide_eq_true (by assumption)) ?_ | refine bF (decide_eq_false (by assumption)) ?_ | refine bT (by assumption) ?_ | refine bF (by assumption) ?_ | refine bT (notT (by assumption)) ?_ | refine bF (notF (by assumption)) ?_ | refine bD (fun _ => ?_) (fun _ => ?_) | refine OrdT.mk (by rfl) ?_ | refine oK (idxL_map hlt') ?_ | refine oK (ixN_m (i := p.f_Domains[k].f_Station.toNat) (by omega) (by omega)) ?_ | refine bS (fun _ => ?_) (fun _ => ?_))
      conv => whnf
      have h1 : 0 + p.f_Domains[k].f_Station.toNat * i3.size = p.f_Domains[k].f_Station.toNat := by simp [i3]
      refine setK (by rw [h1, List.length_map, Lk_len]; omega) ?_
      conv => whnf
      refine ⟨hlt', trivial, weak_cut 2 ⟨rfl, rfl, rfl, succ_i (by omega), trivial⟩ ?_ rfl rfl (by simp only [belowB, belows_int]; rfl)⟩
      have hd : p.f_Domains.getD k default = p.f_Domains[k] := by simp [List.getD, hlt']
      show [_, Blk.cells _] = _
      rw [h1, ← List.map_set (f := AV.int .i64), show Lk p.f_Domains (k + 1) = (Lk p.f_Domains k).set (p.f_Domains.getD k default).f_Station.toNat (k : Int) from rfl, hd]
    · conv => whnf
      have hs : 0 + i159.size = 512 := rfl
      refine bT (lenGe_of (by rw [hs, List.length_map, Lk_len]; exact Nat.le_refl _)) ?_
      conv => whnf
      have hL : List.take 512 (List.drop 0 (List.map (AV.int .i64) (Lk p.f_Domains k))) = List.map (AV.int .i64) (Lk p.f_Domains k) := by
        rw [List.drop_zero, List.take_of_length_le (by rw [List.length_map, Lk_len]; exact Nat.le_refl _)]
      have hL2 : List.take i159.size (List.drop 0 (List.map (AV.int .i64) (Lk p.f_Domains k))) = List.map (AV.int .i64) (Lk p.f_Domains k) := hL
      rw [hL2]
      refine bT (by show Nat.beq (List.map (AV.int .i64) (Lk p.f_Domains k)).length 512 = true; rw [List.length_map, Lk_len]; rfl) ?_
      conv => whnf
      refine bT (by show (List.map (AV.int .i64) (Lk p.f_Domains k)).all AV.one = true; simp [AV.one]) ?_
      conv => whnf
      refine setsAll (L := List.map (AV.int .i64) (Lk p.f_Domains k)) rfl ?_
      conv => whnf
      refine bT (lenGe_of (by rw [hs, List.length_map, Lk_len]; exact Nat.le_refl _)) ?_
      conv => whnf
      have hk2 : k = p.f_Domains.length := by
        have : ¬ k < p.f_Domains.length := by simpa using hlt
        omega
      subst hk2
      refine ⟨2, ?_⟩
      rw [hL2]
      have := snapL_map (f := snap [.cells [encL S_api_Domain.enc p.f_Domains, encL S_api_Pair.enc p.f_Rules.f_Pairs, encL S_api_Load.enc p.f_Rules.f_Loads, encL S_api_Cap.enc p.f_Rules.f_Caps], .cells ((Lk p.f_Domains p.f_Domains.length).map (AV.int .i64))] 1) (e := AV.int .i64) (g := AV.int .i64) (Lk p.f_Domains p.f_Domains.length) (fun x _ => rfl)
      show (snapL _ _).map AV.agg = _
      rw [this]; rfl
end Go.Proofs.YtelgmdljcbkniaaGreatDoor.Pr
