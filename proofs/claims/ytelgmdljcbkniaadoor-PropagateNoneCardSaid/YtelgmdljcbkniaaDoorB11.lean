/- An interpreter of values for the model's code, base text 11: the contract of a function that may change blocks that it is handed and hand back new ones, and its call. -/
import Derived.Test.YtelgmdljcbkniaaDoorB10
namespace Go.Proofs.YtelgmdljcbkniaaDoor.Ai
noncomputable section
open Go

mutual
/-- The blocks by other numbers. -/
def ren (σ : Nat → Nat) : AV → AV
  | .agg cs => .agg (rens σ cs)
  | .tup cs => .tup (rens σ cs)
  | .fn f cs => .fn f (rens σ cs)
  | .ptr i o => .ptr (σ i) o
  | .rptr i j z o => .rptr (σ i) j z o
  | .slc i o z l c => .slc (σ i) o z l c
  | .gsl i n => .gsl (σ i) n
  | .map i => .map (σ i)
  | .yld i => .yld (σ i)
  | .optr i n j z o => .optr (σ i) n j z o
  | .oslc i n o z l c => .oslc (σ i) n o z l c
  | v => v
def rens (σ : Nat → Nat) : List AV → List AV
  | [] => []
  | v :: r => ren σ v :: rens σ r
end

theorem rens_get (σ : Nat → Nat) : ∀ (cs : List AV) (j : Nat), (rens σ cs)[j]? = (cs[j]?).map (ren σ)
  | [], j => by simp [rens]
  | v :: r, 0 => by simp [rens]
  | v :: r, j + 1 => by simpa [rens] using rens_get σ r j
theorem rens_len (σ : Nat → Nat) : ∀ (cs : List AV), (rens σ cs).length = cs.length
  | [] => rfl
  | v :: r => by simp [rens, rens_len σ r]

theorem rens_same {σ : Nat → Nat} {cs : List AV} (h : ∀ (j : Nat) v, cs[j]? = some v → ren σ v = v) : rens σ cs = cs := by
  apply List.ext_getElem?
  intro j
  rw [rens_get]
  cases e : cs[j]? with
  | none => rfl
  | some v => simp [h j v e]

theorem ren_ri {Z : ZM} {v : AV} {cv : Value} (σ : Nat → Nat) (h : RI Z v cv) : ren σ v = v := by
  induction h with
  | agg cs vs hl _ ih => simp only [ren]; rw [rens_same fun j v e => ih j v (vs[j]'(by rw [hl]; exact lt_of_get e)) e (by simp [hl, lt_of_get e])]
  | tup cs vs hl _ ih => simp only [ren]; rw [rens_same fun j v e => ih j v (vs[j]'(by rw [hl]; exact lt_of_get e)) e (by simp [hl, lt_of_get e])]
  | fn f cs vs hl _ ih => simp only [ren]; rw [rens_same fun j v e => ih j v (vs[j]'(by rw [hl]; exact lt_of_get e)) e (by simp [hl, lt_of_get e])]
  | _ => rfl

theorem r_ren {G0 G : Ghost} {σ : Nat → Nat} (hc : ∀ i c, G0.cl i = some c → G.cl (σ i) = some c) (hg : ∀ i g, G0.gr i = some g → G.gr (σ i) = some g) (hz : G0.Z.le G.Z) {v : AV} {cv : Value} (h : R G0 v cv) : R G (ren σ v) cv := by
  induction h with
  | imm v cv h => rw [ren_ri σ h]; exact .imm _ _ (h.mono hz)
  | und cv => exact .und cv
  | ptr i o c h => exact .ptr _ _ _ (hc i c h)
  | rptr i j z o c h => exact .rptr _ _ _ _ _ (hc i c h)
  | slc i o sz len cap c ccap h hl hcap => exact .slc _ _ _ _ _ _ _ (hc i c h) hl hcap
  | gsl i len b l c h => exact .gsl _ _ _ _ _ (hg i _ h)
  | stale i len g b l c h hn => exact .stale _ _ g _ _ _ (hg i g h) hn
  | map i c h => exact .map _ _ (hc i c h)
  | yld i c h => exact .yld _ _ (hc i c h)
  | optr i n j sz o c l cap h => exact .optr _ _ _ _ _ _ _ _ (hg i _ h)
  | optrS i n j sz o g b h hn => exact .optrS _ _ _ _ _ g _ (hg i g h) hn
  | oslc i n o sz len cap c l lcap ccap h hl hcap => exact .oslc _ _ _ _ _ _ _ _ _ _ (hg i _ h) hl hcap
  | oslcS i n o sz len cap g b l c h hn => exact .oslcS _ _ _ _ _ _ g _ _ _ (hg i g h) hn
  | agg cs vs hl _ ih =>
    refine .agg _ vs (by rw [rens_len]; exact hl) fun j v cv e1 e2 => ?_
    rw [rens_get, Option.map_eq_some_iff] at e1
    obtain ⟨u, e1, rfl⟩ := e1
    exact ih j u cv e1 e2
  | tup cs vs hl _ ih =>
    refine .tup _ vs (by rw [rens_len]; exact hl) fun j v cv e1 e2 => ?_
    rw [rens_get, Option.map_eq_some_iff] at e1
    obtain ⟨u, e1, rfl⟩ := e1
    exact ih j u cv e1 e2
  | fn f cs vs hl _ ih =>
    refine .fn f _ vs (by rw [rens_len]; exact hl) fun j v cv e1 e2 => ?_
    rw [rens_get, Option.map_eq_some_iff] at e1
    obtain ⟨u, e1, rfl⟩ := e1
    exact ih j u cv e1 e2

mutual
theorem r_unren {G0 G : Ghost} {σ : Nat → Nat} {n : Nat} (hc : ∀ i, i < n → G0.cl i = G.cl (σ i)) (hg : ∀ i, i < n → G0.gr i = G.gr (σ i)) (hz : G0.Z = G.Z) : ∀ {v : AV} {cv : Value}, below n v = true → R G (ren σ v) cv → R G0 v cv := by
  intro v cv hb h
  cases v with
  | ptr i o =>
    have hi : i < n := by simpa [below, Nat.blt_eq] using hb
    simp only [ren] at h
    cases h with
    | imm _ _ h => cases h
    | ptr _ _ c h => exact .ptr _ _ c (by rw [hc i hi]; exact h)
  | rptr i j z o =>
    have hi : i < n := by simpa [below, Nat.blt_eq] using hb
    simp only [ren] at h
    cases h with
    | imm _ _ h => cases h
    | rptr _ _ _ _ c h => exact .rptr _ _ _ _ c (by rw [hc i hi]; exact h)
  | slc i o z l c =>
    have hi : i < n := by simpa [below, Nat.blt_eq] using hb
    simp only [ren] at h
    cases h with
    | imm _ _ h => cases h
    | slc _ _ _ _ _ c ccap h hl hcap => exact .slc _ _ _ _ _ c ccap (by rw [hc i hi]; exact h) hl hcap
  | gsl i l =>
    have hi : i < n := by simpa [below, Nat.blt_eq] using hb
    simp only [ren] at h
    cases h with
    | imm _ _ h => cases h
    | gsl _ _ b l c h => exact .gsl _ _ b l c (by rw [hg i hi]; exact h)
    | stale _ _ g b l c h hn => exact .stale _ _ g b l c (by rw [hg i hi]; exact h) hn
  | map i =>
    have hi : i < n := by simpa [below, Nat.blt_eq] using hb
    simp only [ren] at h
    cases h with
    | imm _ _ h => cases h
    | map _ c h => exact .map _ c (by rw [hc i hi]; exact h)
  | agg cs =>
    simp only [ren] at h
    obtain ⟨vs, rfl, hl, hr⟩ := h.agg_inv
    rw [rens_len] at hl
    exact .agg cs vs hl (rs_unren hc hg hz (by simpa [below] using hb) hr)
  | tup cs =>
    simp only [ren] at h
    obtain ⟨vs, rfl, hl, hr⟩ := h.tup_inv
    rw [rens_len] at hl
    exact .tup cs vs hl (rs_unren hc hg hz (by simpa [below] using hb) hr)
  | fn f cs =>
    simp only [ren] at h
    obtain ⟨vs, rfl, hl, hr⟩ := h.fn_inv
    rw [rens_len] at hl
    exact .fn f cs vs hl (rs_unren hc hg hz (by simpa [below] using hb) hr)
  | und => exact .und _
  | int k m => simp only [ren] at h; cases h with | imm _ _ h => exact .imm _ _ (hz ▸ h)
  | bool b => simp only [ren] at h; cases h with | imm _ _ h => exact .imm _ _ (hz ▸ h)
  | str b => simp only [ren] at h; cases h with | imm _ _ h => exact .imm _ _ (hz ▸ h)
  | nilp => simp only [ren] at h; cases h with | imm _ _ h => exact .imm _ _ (hz ▸ h)
  | eptr xs i o => simp only [ren] at h; cases h with | imm _ _ h => exact .imm _ _ (hz ▸ h)
  | lst ex xs => simp only [ren] at h; cases h with | imm _ _ h => exact .imm _ _ (hz ▸ h)
  | nils => simp only [ren] at h; cases h with | imm _ _ h => exact .imm _ _ (hz ▸ h)
  | nilmap => simp only [ren] at h; cases h with | imm _ _ h => exact .imm _ _ (hz ▸ h)
  | nilfn => simp only [ren] at h; cases h with | imm _ _ h => exact .imm _ _ (hz ▸ h)
  | yld i =>
    have hi : i < n := by simpa [below, Nat.blt_eq] using hb
    simp only [ren] at h
    cases h with
    | imm _ _ h => cases h
    | yld _ c h => exact .yld _ c (by rw [hc i hi]; exact h)
  | optr i m j z o =>
    have hi : i < n := by simpa [below, Nat.blt_eq] using hb
    simp only [ren] at h
    cases h with
    | imm _ _ h => cases h
    | optr _ _ _ _ _ c l cap h => exact .optr _ _ _ _ _ c l cap (by rw [hg i hi]; exact h)
    | optrS _ _ _ _ _ g b h hn => exact .optrS _ _ _ _ _ g b (by rw [hg i hi]; exact h) hn
  | oslc i m o z l cp =>
    have hi : i < n := by simpa [below, Nat.blt_eq] using hb
    simp only [ren] at h
    cases h with
    | imm _ _ h => cases h
    | oslc _ _ _ _ _ _ c l lcap ccap h hl hcap => exact .oslc _ _ _ _ _ _ c l lcap ccap (by rw [hg i hi]; exact h) hl hcap
    | oslcS _ _ _ _ _ _ g b l c h hn => exact .oslcS _ _ _ _ _ _ g b l c (by rw [hg i hi]; exact h) hn
  | imap ks vs => simp only [ren] at h; cases h with | imm _ _ h => exact .imm _ _ (hz ▸ h)
termination_by v => SizeOf.sizeOf v
theorem rs_unren {G0 G : Ghost} {σ : Nat → Nat} {n : Nat} (hc : ∀ i, i < n → G0.cl i = G.cl (σ i)) (hg : ∀ i, i < n → G0.gr i = G.gr (σ i)) (hz : G0.Z = G.Z) : ∀ {cs : List AV} {vs : Array Value}, belows n cs = true →
    (∀ (j : Nat) v c, (rens σ cs)[j]? = some v → vs[j]? = some c → R G v c) → ∀ (j : Nat) x c, cs[j]? = some x → vs[j]? = some c → R G0 x c
  | [], vs, _, _, j, x, c, e, _ => by simp at e
  | v :: r, vs, hb, hr, j, x, c, e1, e2 => by
    have hv : below n v = true ∧ belows n r = true := by
      simp only [belows] at hb
      cases hx : below n v with
      | true => rw [hx] at hb; exact ⟨rfl, hb⟩
      | false => rw [hx] at hb; cases hb
    cases j with
    | zero => simp at e1; subst e1; exact r_unren hc hg hz hv.1 (hr 0 _ c (by simp [rens]) e2)
    | succ j =>
      exact rs_unren hc hg hz (cs := r) (vs := (vs.toList.drop 1).toArray) hv.2 (fun k u d f1 f2 => hr (k + 1) u d (by simpa [rens] using f1) (by simpa [Nat.add_comm] using f2)) j x c (by simpa using e1) (by simpa [Nat.add_comm] using e2)
termination_by cs => SizeOf.sizeOf cs
end

def renE (σ : Nat → Nat) : Env → Env
  | [] => []
  | (d, v) :: r => (d, ren σ v) :: renE σ r

def renB (σ : Nat → Nat) : Blk → Blk
  | .cells cs => .cells (rens σ cs)
  | .rows sz xs => .rows sz (rens σ xs)
  | .grow e sz xs => .grow e sz xs
  | .map es => .map (es.map fun e => (e.1, ren σ e.2))
  | .gone => .gone
  | .own e sz xs => .own e sz (rens σ xs)
  | .lp n env ps as cd st pe => .lp n (renE σ env) ps as cd st pe

theorem renE_get (σ : Nat → Nat) : ∀ (env : Env) (t : Nat), (renE σ env).get t = (env.get t).map (ren σ)
  | [], _ => rfl
  | (d, v) :: r, t => by
    simp only [renE, Env.get_cons, renE_get σ r t]
    split <;> rfl

theorem rens_app (σ : Nat → Nat) : ∀ (xs ys : List AV), rens σ (xs ++ ys) = rens σ xs ++ rens σ ys
  | [], _ => rfl
  | x :: r, ys => by simp [rens, rens_app σ r ys]
theorem ren_cells (σ : Nat → Nat) (x : AV) : (ren σ x).cells = rens σ x.cells := by
  cases x <;> simp [ren, AV.cells, rens]
theorem rens_flat (σ : Nat → Nat) : ∀ (xs : List AV), flat (rens σ xs) = rens σ (flat xs)
  | [] => rfl
  | x :: r => by
    show (ren σ x).cells ++ flat (rens σ r) = rens σ (x.cells ++ flat r)
    rw [rens_app, ren_cells, rens_flat σ r]
theorem rens_sz {σ : Nat → Nat} {sz : Nat} {xs : List AV} : (∀ x ∈ rens σ xs, x.cells.length = sz) ↔ ∀ x ∈ xs, x.cells.length = sz := by
  constructor
  · intro h x hx
    obtain ⟨j, hj, rfl⟩ := List.getElem_of_mem hx
    have := h (ren σ xs[j]) (List.mem_of_getElem? (i := j) (by rw [rens_get, List.getElem?_eq_getElem hj]; rfl))
    rwa [ren_cells, rens_len] at this
  · intro h y hy
    obtain ⟨j, hj, rfl⟩ := List.getElem_of_mem hy
    have hj' : j < xs.length := by rwa [rens_len] at hj
    have e : (rens σ xs)[j]? = some (ren σ xs[j]) := by rw [rens_get, List.getElem?_eq_getElem hj']; rfl
    rw [List.getElem?_eq_getElem hj] at e
    rw [Option.some.inj e, ren_cells, rens_len]
    exact h _ (List.getElem_mem hj')

theorem blk_ren {G0 G : Ghost} {w : World} {σ : Nat → Nat} (hc : ∀ i c, G0.cl i = some c → G.cl (σ i) = some c) (hg : ∀ i g, G0.gr i = some g → G.gr (σ i) = some g) (hz : G0.Z = G.Z) {i : Nat} (hci : G.cl (σ i) = G0.cl i) (hgi : G.gr (σ i) = G0.gr i) {b : Blk}
    (h : BlkOk G0 w i b) : BlkOk G w (σ i) (renB σ b) := by
  have hzl : G0.Z.le G.Z := hz ▸ .refl _
  have key : ∀ cs, CellsOk G0 w i cs → CellsOk G w (σ i) (rens σ cs) := fun cs h => by
    refine ⟨hgi.trans h.1, fun c e => ?_⟩
    rw [hci] at e
    obtain ⟨arr, et, h1, h2, h3, h4⟩ := h.2 c e
    refine ⟨arr, et, h1, by rw [rens_len]; exact h2, fun j v cv e1 e2 => ?_, fun o => by rw [← hz]; exact h4 o⟩
    rw [rens_get, Option.map_eq_some_iff] at e1
    obtain ⟨u, e1, rfl⟩ := e1
    exact r_ren hc hg hzl (h3 j u cv e1 e2)
  cases b with
  | cells cs => exact key cs h
  | rows sz xs => exact ⟨by rw [rens_flat]; exact key _ h.1, h.2.1, rens_sz.2 h.2.2⟩
  | grow e sz xs =>
    refine ⟨hci.trans h.1, fun g e => ?_⟩
    rw [hgi] at e
    rw [← hz]
    exact h.2 g e
  | map es =>
    refine ⟨hgi.trans h.1, fun c e => ?_⟩
    rw [hci] at e
    obtain ⟨ents, clock, h1, h2, h3, h4⟩ := h.2 c e
    refine ⟨ents, clock, h1, by simpa using h2, fun j e ce e1 e2 => ?_, fun o => by rw [← hz]; exact h4 o⟩
    rw [List.getElem?_map, Option.map_eq_some_iff] at e1
    obtain ⟨u, e1, rfl⟩ := e1
    exact ⟨hz ▸ (h3 j u ce e1 e2).1, r_ren hc hg hzl (h3 j u ce e1 e2).2⟩
  | gone => exact ⟨hci.trans h.1, hgi.trans h.2⟩
  | own e sz xs =>
    refine ⟨hci.trans h.1, fun g eg => ?_⟩
    rw [hgi] at eg
    obtain ⟨h1, h2, h3, cs, h4, h5, h6⟩ := h.2 g eg
    refine ⟨by rw [rens_len]; exact h1, h2, fun j x ex => ?_, cs, by rw [rens_len]; exact h4, fun j x q v cv e1 e2 e3 => ?_, fun c ec k => by rw [← hz]; exact h6 c ec k⟩
    · rw [rens_get, Option.map_eq_some_iff] at ex
      obtain ⟨u, eu, rfl⟩ := ex
      rw [ren_cells, rens_len]; exact h3 j u eu
    · rw [rens_get, Option.map_eq_some_iff] at e1
      obtain ⟨u, eu, rfl⟩ := e1
      rw [ren_cells, rens_get, Option.map_eq_some_iff] at e2
      obtain ⟨t, et, rfl⟩ := e2
      exact r_ren hc hg hzl (h5 j u q t cv eu et e3)
  | lp n env ps as cd st pe =>
    refine ⟨hgi.trans h.1, fun c e => ?_⟩
    rw [hci] at e
    obtain ⟨rec, h1, h2, h3, h4, h5, h6, h7, h8, h9⟩ := h.2 c e
    refine ⟨rec, h1, h2, h3, h4, h5, h6, h7, fun t v e => ?_, fun o => by rw [← hz]; exact h9 o⟩
    rw [renE_get, Option.map_eq_some_iff] at e
    obtain ⟨u, eu, rfl⟩ := e
    obtain ⟨cv, e1, r⟩ := h8 t u eu
    exact ⟨cv, e1, r_ren hc hg hzl r⟩

theorem blk_unren {G0 G : Ghost} {w : World} {σ : Nat → Nat} {n : Nat} (hc : ∀ i, i < n → G0.cl i = G.cl (σ i)) (hg : ∀ i, i < n → G0.gr i = G.gr (σ i)) (hz : G0.Z = G.Z) {i : Nat} (hi : i < n) {b : Blk} (hb : belowB n [b] = true)
    (h : BlkOk G w (σ i) (renB σ b)) : BlkOk G0 w i b := by
  have key : ∀ cs, belows n cs = true → CellsOk G w (σ i) (rens σ cs) → CellsOk G0 w i cs := fun cs hb2 h => by
    refine ⟨(hg i hi).trans h.1, fun c e => ?_⟩
    rw [hc i hi] at e
    obtain ⟨arr, et, h1, h2, h3, h4⟩ := h.2 c e
    rw [rens_len] at h2
    exact ⟨arr, et, h1, h2, rs_unren hc hg hz hb2 h3, fun o => by rw [hz]; exact h4 o⟩
  cases b with
  | rows sz xs =>
    have hb2 : belows n xs = true := by
      simp only [belowB] at hb
      cases hx : belows n xs with
      | true => rfl
      | false => rw [hx] at hb; cases hb
    exact ⟨key _ (belows_flat hb2) (by rw [← rens_flat]; exact h.1), h.2.1, rens_sz.1 h.2.2⟩
  | cells cs =>
    have hb2 : belows n cs = true := by
      simp only [belowB] at hb
      cases hx : belows n cs with
      | true => rfl
      | false => rw [hx] at hb; cases hb
    exact key cs hb2 h
  | grow e sz xs =>
    refine ⟨(hc i hi).trans h.1, fun g e => ?_⟩
    rw [hg i hi] at e
    rw [hz]
    exact h.2 g e
  | map es =>
    refine ⟨(hg i hi).trans h.1, fun c e => ?_⟩
    rw [hc i hi] at e
    obtain ⟨ents, clock, h1, h2, h3, h4⟩ := h.2 c e
    have hb2 : belowM n es = true := by
      simp only [belowB] at hb
      cases hx : belowM n es with
      | true => rfl
      | false => rw [hx] at hb; cases hb
    refine ⟨ents, clock, h1, by simpa using h2, fun j e ce e1 e2 => ?_, fun o => by rw [hz]; exact h4 o⟩
    obtain ⟨g1, g2⟩ := h3 j (e.1, ren σ e.2) ce (by rw [List.getElem?_map, e1]; rfl) e2
    exact ⟨hz ▸ g1, r_unren hc hg hz (belowM_get hb2 j e e1) g2⟩
  | gone => exact ⟨(hc i hi).trans h.1, (hg i hi).trans h.2⟩
  | own e sz xs =>
    have hb2 : belows n xs = true := by
      simp only [belowB] at hb
      cases hx : belows n xs with
      | true => rfl
      | false => rw [hx] at hb; cases hb
    refine ⟨(hc i hi).trans h.1, fun g eg => ?_⟩
    rw [hg i hi] at eg
    obtain ⟨h1, h2, h3, cs, h4, h5, h6⟩ := h.2 g eg
    rw [rens_len] at h1 h4
    refine ⟨h1, h2, fun j x ex => ?_, cs, h4, fun j x q v cv e1 e2 e3 => ?_, fun c ec k => by rw [hz]; exact h6 c ec k⟩
    · have := h3 j (ren σ x) (by rw [rens_get, ex]; rfl)
      rwa [ren_cells, rens_len] at this
    · refine r_unren hc hg hz (belows_get (below_cells (belows_get hb2 j x e1)) q v e2) (h5 j (ren σ x) q (ren σ v) cv (by rw [rens_get, e1]; rfl) (by rw [ren_cells, rens_get, e2]; rfl) e3)
  | lp m env ps as cd st pe =>
    have hb2 : belowE n env = true := by
      simp only [belowB] at hb
      cases hx : belowE n env with
      | true => rfl
      | false => rw [hx] at hb; cases hb
    refine ⟨(hg i hi).trans h.1, fun c e => ?_⟩
    rw [hc i hi] at e
    obtain ⟨rec, h1, h2, h3, h4, h5, h6, h7, h8, h9⟩ := h.2 c e
    refine ⟨rec, h1, h2, h3, h4, h5, h6, h7, fun t v e => ?_, fun o => by rw [hz]; exact h9 o⟩
    obtain ⟨cv, e1, r⟩ := h8 t (ren σ v) (by rw [renE_get, e]; rfl)
    exact ⟨cv, e1, r_unren hc hg hz (belowE_get hb2 t v e) r⟩

/-- The contract of a function over its own numbering of the blocks that it is handed: what they hold before and behind it; behind them the new ones. -/
def FOk (P : Program) (f : FuncId) (S : List AV → List Blk → AV → List Blk → Prop) : Prop :=
  ∀ (G : Ghost) (w : World) (cargs : Array Value) (args : List AV) (bs : List Blk) (v : AV) (bs' : List Blk), Inv G bs w → (cargs.size = args.length ∧ ∀ (j : Nat) v c, args[j]? = some v → cargs[j]? = some c → R G v c) → S args bs v bs' →
    Calls P f cargs w fun e w' => ∃ cv G', e = .returned cv ∧ After G w v bs' cv w' G'

/-- The results, read, are the value v; the store is bs'. -/
def endF (P : Program) (fn : Func) (v : AV) (bs' : List Blk) : Exit → St → Prop
  | .normal, s | .ret, s => (∀ (G : Ghost) (w : World) (tmps : Array Value), EnvR G s.env tmps → Inv G s.bs w → ∃ cv, (results fn tmps).run P w = .ok cv w ∧ R G v cv) ∧ s.bs = bs'
  | _, _ => False

theorem F_ok {P : Program} {f : FuncId} {fn : Func} {c : Code} {S : List AV → List Blk → AV → List Blk → Prop} (hf : P.funcs[f]? = some fn) (hb : fn.body = some c)
    (h : ∀ args bs v bs', S args bs v bs' → args.length ≤ fn.ntmps ∧ T P fn.ntmps bs.length c ⟨argEnv args 0, bs⟩ (endF P fn v bs')) : FOk P f S := by
  intro G w cargs args bs v bs' hI hr hS
  obtain ⟨hlen, hT⟩ := h args bs v bs' hS
  refine calls_of_T (G := G) hf hb hI hr hlen hT fun e s' q => ?_
  have fin : ((∀ (G : Ghost) (w : World) (tmps : Array Value), EnvR G s'.env tmps → Inv G s'.bs w → ∃ cv, (results fn tmps).run P w = .ok cv w ∧ R G v cv) ∧ s'.bs = bs') →
      ∀ (G' : Ghost) (w' : World) (tmps : Array Value), EnvR G' s'.env tmps → Inv G' s'.bs w' → G.le G' → Ev G w G' w' → ∃ cv, (results fn tmps).run P w' = .ok cv w' ∧ ∃ cv' G', Ending.returned cv = .returned cv' ∧ After G w v bs' cv' w' G' := by
    intro ⟨hR, hbs⟩ G' w' tmps hE hI' hle hev
    obtain ⟨cv, hrun, hr0⟩ := hR G' w' tmps hE hI'
    exact ⟨cv, hrun, cv, G', rfl, hr0, hbs ▸ hI', hle, hev⟩
  cases e with
  | normal => exact ⟨.inl rfl, fin q⟩
  | ret => exact ⟨.inr rfl, fin q⟩
  | exit id => exact q.elim
  | goto l => exact q.elim
  | panic ch => exact q.elim
  | outgrown => exact q.elim

theorem retF1 {P : Program} {fn : Func} {s : St} {a : Nat} {v : AV} {bs' : List Blk} (hr : fn.results = #[.tmp a]) (h0 : s.env.get a = some v) (hb : s.bs = bs') :
    (∀ (G : Ghost) (w : World) (tmps : Array Value), EnvR G s.env tmps → Inv G s.bs w → ∃ cv, (results fn tmps).run P w = .ok cv w ∧ R G v cv) ∧ s.bs = bs' := by
  refine ⟨fun G w tmps hE _ => ?_, hb⟩
  obtain ⟨cv, e, r⟩ := hE a v h0
  exact ⟨cv, by simp [results, hr, e], r⟩

theorem retF2 {P : Program} {fn : Func} {s : St} {a b : Nat} {v0 v1 : AV} {bs' : List Blk} (hr : fn.results = #[.tmp a, .tmp b]) (h0 : s.env.get a = some v0) (h1 : s.env.get b = some v1) (hb : s.bs = bs') :
    (∀ (G : Ghost) (w : World) (tmps : Array Value), EnvR G s.env tmps → Inv G s.bs w → ∃ cv, (results fn tmps).run P w = .ok cv w ∧ R G (.tup [v0, v1]) cv) ∧ s.bs = bs' := by
  refine ⟨fun G w tmps hE _ => ?_, hb⟩
  obtain ⟨c0, e0, r0⟩ := hE a v0 h0
  obtain ⟨c1, e1, r1⟩ := hE b v1 h1
  refine ⟨.tuple #[c0, c1], by simp [results, hr, e0, e1], rtup (cvs := [c0, c1]) rfl fun j v c f1 f2 => ?_⟩
  match j, f1, f2 with
  | 0, f1, f2 => simp at f1 f2; subst f1 f2; exact r0
  | 1, f1, f2 => simp at f1 f2; subst f1 f2; exact r1
  | j + 2, f1, f2 => simp at f1

theorem retF0 {P : Program} {fn : Func} {s : St} {bs' : List Blk} (hr : fn.results = #[]) (hb : s.bs = bs') :
    (∀ (G : Ghost) (w : World) (tmps : Array Value), EnvR G s.env tmps → Inv G s.bs w → ∃ cv, (results fn tmps).run P w = .ok cv w ∧ R G (.tup []) cv) ∧ s.bs = bs' :=
  ⟨fun G w tmps _ _ => ⟨.tuple #[], by simp [results, hr], .imm _ _ (.tup [] #[] rfl (by simp))⟩, hb⟩

/-! ### the call -/

/-- Where the callee's block i lies in the caller's store of N blocks: the footprint, then the new ones. -/
def spot (fp : List Nat) (N i : Nat) : Nat := match fp[i]? with
  | some k => k
  | none => N + (i - fp.length)

def setAll : List Nat → List Blk → List Blk → List Blk
  | k :: ks, b :: r, bs => setAll ks r (bs.set k b)
  | _, _, bs => bs

/-- The caller's store behind the call: what it handed is as the callee left it; behind it the new blocks. -/
def back (fp : List Nat) (σ : Nat → Nat) (bs bs' : List Blk) : List Blk := setAll fp ((bs'.take fp.length).map (renB σ)) bs ++ (bs'.drop fp.length).map (renB σ)

theorem setAll_len : ∀ (ks : List Nat) (r bs : List Blk), (setAll ks r bs).length = bs.length
  | [], _, _ => rfl
  | _ :: _, [], _ => rfl
  | k :: ks, b :: r, bs => by simp only [setAll]; rw [setAll_len ks r]; simp

theorem setAll_ne : ∀ (ks : List Nat) (r bs : List Blk) (k : Nat), k ∉ ks → (setAll ks r bs)[k]? = bs[k]?
  | [], _, _, _, _ => rfl
  | _ :: _, [], _, _, _ => rfl
  | k' :: ks, b :: r, bs, k, h => by
    simp only [List.mem_cons, not_or] at h
    simp only [setAll]
    rw [setAll_ne ks r _ k h.2, List.getElem?_set_ne (fun e => h.1 e.symm)]

theorem setAll_eq : ∀ (ks : List Nat) (r bs : List Blk) (i k : Nat) (b : Blk), ks.Nodup → ks[i]? = some k → k < bs.length → r[i]? = some b → (setAll ks r bs)[k]? = some b
  | [], _, _, i, _, _, _, h, _, _ => by simp at h
  | _ :: _, [], _, i, _, _, _, _, _, h => by simp at h
  | k' :: ks, b' :: r, bs, i, k, b, hn, h1, h2, h3 => by
    simp only [setAll]
    rw [List.nodup_cons] at hn
    cases i with
    | zero =>
      simp at h1 h3; subst h1 h3
      rw [setAll_ne ks r _ k' hn.1]
      simp [h2]
    | succ i => exact setAll_eq ks r _ i k b hn.2 (by simpa using h1) (by simpa using h2) (by simpa using h3)

def fpOk (N : Nat) : List Nat → Bool
  | [] => true
  | k :: r => Nat.blt k N && !(r.any fun q => Nat.beq q k) && fpOk N r
theorem fpOk_get {N : Nat} : ∀ {fp : List Nat}, fpOk N fp = true → fp.Nodup ∧ ∀ k ∈ fp, k < N
  | [], _ => ⟨.nil, fun k h => by simp at h⟩
  | k :: r, h => by
    simp only [fpOk, Bool.and_eq_true, Bool.not_eq_true'] at h
    obtain ⟨h1, h2⟩ := fpOk_get h.2
    refine ⟨List.nodup_cons.2 ⟨fun hm => ?_, h1⟩, fun q hq => ?_⟩
    · have := h.1.2
      rw [List.any_eq_false] at this
      exact this k hm (Nat.beq_refl k)
    · rcases List.mem_cons.1 hq with rfl | hq
      · simpa [Nat.blt_eq] using h.1.1
      · exact h2 q hq

theorem spot_inj {fp : List Nat} {N : Nat} (hn : fp.Nodup) (hl : ∀ k ∈ fp, k < N) {i j : Nat} (h : spot fp N i = spot fp N j) : i = j := by
  unfold spot at h
  have nn : ∀ q, fp[q]? = none → fp.length ≤ q := fun q e => by simpa using e
  cases hi : fp[i]? with
  | none =>
    have h1 := nn i hi
    cases hj : fp[j]? with
    | none => have h2 := nn j hj; rw [hi, hj] at h; simp only at h; omega
    | some k => rw [hi, hj] at h; simp only at h; have := hl k (List.mem_of_getElem? hj); omega
  | some k =>
    cases hj : fp[j]? with
    | none => rw [hi, hj] at h; simp only at h; have := hl k (List.mem_of_getElem? hi); omega
    | some q =>
      rw [hi, hj] at h; simp only at h; subst h
      obtain ⟨h1, e1⟩ := List.getElem?_eq_some_iff.1 hi
      obtain ⟨h2, e2⟩ := List.getElem?_eq_some_iff.1 hj
      exact (List.getElem_inj hn).1 (e1.trans e2.symm)

def Foot (bs : List Blk) (σ : Nat → Nat) : List Nat → List Blk → Prop
  | k :: ks, b :: r => bs[k]? = some (renB σ b) ∧ Foot bs σ ks r
  | _, _ => True
theorem foot_get {bs : List Blk} {σ : Nat → Nat} : ∀ {ks : List Nat} {r : List Blk}, Foot bs σ ks r → ∀ (i k : Nat) (b : Blk), ks[i]? = some k → r[i]? = some b → bs[k]? = some (renB σ b)
  | [], _, _, i, _, _, h, _ => by simp at h
  | _ :: _, [], _, i, _, _, _, h => by simp at h
  | k' :: ks, b' :: r, h, i, k, b, h1, h2 => by
    cases i with
    | zero => simp at h1 h2; subst h1 h2; exact h.1
    | succ i => exact foot_get h.2 i k b (by simpa using h1) (by simpa using h2)

open Classical in
/-- The ghost behind the call, in the caller's numbers. -/
noncomputable def Ghost.join (G G' : Ghost) (σ : Nat → Nat) : Ghost :=
  ⟨fun k => if h : ∃ i, σ i = k then G'.cl h.choose else G.cl k, fun k => if h : ∃ i, σ i = k then G'.gr h.choose else G.gr k, G'.Z, G'.ok⟩

theorem join_cl {G G' : Ghost} {σ : Nat → Nat} (hi : ∀ i j, σ i = σ j → i = j) (i : Nat) : (G.join G' σ).cl (σ i) = G'.cl i := by
  have h : ∃ j, σ j = σ i := ⟨i, rfl⟩
  simp only [Ghost.join, dif_pos h]
  rw [hi _ _ h.choose_spec]
theorem join_gr {G G' : Ghost} {σ : Nat → Nat} (hi : ∀ i j, σ i = σ j → i = j) (i : Nat) : (G.join G' σ).gr (σ i) = G'.gr i := by
  have h : ∃ j, σ j = σ i := ⟨i, rfl⟩
  simp only [Ghost.join, dif_pos h]
  rw [hi _ _ h.choose_spec]
theorem join_cl_off {G G' : Ghost} {σ : Nat → Nat} {k : Nat} (h : ¬ ∃ i, σ i = k) : (G.join G' σ).cl k = G.cl k := by simp only [Ghost.join, dif_neg h]
theorem join_gr_off {G G' : Ghost} {σ : Nat → Nat} {k : Nat} (h : ¬ ∃ i, σ i = k) : (G.join G' σ).gr k = G.gr k := by simp only [Ghost.join, dif_neg h]

theorem op_callF {P : Program} {o : Oper} {env : Env} {st : List Blk} {x : Operand} {xs : List Operand} {ts : Array TypeId} {f : FuncId} {cap vs : List AV} {S : List AV → List Blk → AV → List Blk → Prop} (fp : List Nat) (args : List AV) (bs : List Blk) (v : AV) (bs' : List Blk) {v2 : AV} {st2 : List Blk}
    (ho : o.op = .call { callee := .value x, args := xs.toArray, argTypes := ts }) (hx : ev env x = some (.fn f cap)) (hv : evs env xs = some vs) (hfp : fpOk st.length fp = true) (hbl : bs.length = fp.length) (hfo : Foot st (spot fp st.length) fp bs)
    (hargs : vs ++ cap = rens (spot fp st.length) args) (hA : belows fp.length args = true) (hB : belowB fp.length bs = true) (hen : Enters P f) (hF : FOk P f S) (hS : S args bs v bs') (hlen : Nat.ble fp.length bs'.length = true)
    (hv2 : ren (spot fp st.length) v = v2) (hst : back fp (spot fp st.length) st bs' = st2) : OpT P o ⟨env, st⟩ v2 st2 := by
  subst hv2 hst
  refine OpT.of (by simp [ho]) ?_
  intro G w a hI hE K Q hK
  obtain ⟨hnd, hlt⟩ := fpOk_get hfp
  have hlen' : fp.length ≤ bs'.length := Nat.le_of_ble_eq_true hlen
  let N := st.length
  let n := fp.length
  let σ := spot fp N
  have hinj : ∀ i j, σ i = σ j → i = j := fun i j h => spot_inj hnd hlt h
  have σlt : ∀ i, i < n → ∃ k, fp[i]? = some k ∧ σ i = k ∧ k < N := fun i hi => by
    have h1 : fp[i]? = some fp[i] := List.getElem?_eq_getElem hi
    refine ⟨fp[i], h1, ?_, hlt _ (List.getElem_mem hi)⟩
    simp only [σ, spot, h1]
  have σge : ∀ i, n ≤ i → σ i = N + (i - n) := fun i hi => by
    have h1 : fp[i]? = none := by simpa using hi
    simp only [σ, spot, h1, n]
  -- the callee's view
  let G0 : Ghost := ⟨fun i => if i < n then G.cl (σ i) else none, fun i => if i < n then G.gr (σ i) else none, G.Z, G.ok⟩
  have hc0 : ∀ i, i < n → G0.cl i = G.cl (σ i) := fun i hi => by simp only [G0, if_pos hi]
  have hg0 : ∀ i, i < n → G0.gr i = G.gr (σ i) := fun i hi => by simp only [G0, if_pos hi]
  have own0 : ∀ i c, G0.owns i c → i < n ∧ G.owns (σ i) c := fun i c h => by
    by_cases hi : i < n
    · refine ⟨hi, ?_⟩
      rcases h with h | ⟨g, h, e⟩
      · exact .inl (by rw [← hc0 i hi]; exact h)
      · exact .inr ⟨g, by rw [← hg0 i hi]; exact h, e⟩
    · rcases h with h | ⟨g, h, _⟩
      · simp [G0, hi] at h
      · simp [G0, hi] at h
  have hI0 : Inv G0 bs w := by
    refine ⟨fun i b hb => ?_, fun i hi => ?_, fun i j c h1 h2 => ?_, hI.z⟩
    · have hi : i < n := by have := lt_of_get hb; omega
      obtain ⟨k, hk, hσ, hkN⟩ := σlt i hi
      have hbb := foot_get hfo i k b hk hb
      refine blk_unren (σ := σ) (n := n) hc0 hg0 rfl hi (belowB_get hB i b hb) ?_
      rw [hσ]
      exact hI.blk k _ hbb
    · have : ¬ i < n := by omega
      simp [G0, this]
    · exact hinj i j (hI.inj _ _ c (own0 i c h1).2 (own0 j c h2).2)
  obtain ⟨cc, hfe, hcl, hcr⟩ := (ev_r hE hx).fn_inv
  obtain ⟨hal, har⟩ := evs_map hE hv
  obtain ⟨hbl2, hbr⟩ := r_append hal hcl har hcr
  unfold Oper.wp execOp
  simp only [ho, resolve, invoke, hfe, Deferred.ofValue, Sem.run_bind, Sem.run_pure, Result.andThen_ok, Array.empty_append, hen _ w, Oper.upon]
  rw [hargs] at hbl2 hbr
  refine (hF G0 w _ args bs v bs' hI0 ⟨by rw [hbl2, rens_len], fun j u c e1 e2 => ?_⟩ hS).mono fun e w' ⟨cv, G0', he, hA'⟩ => ?_
  · exact rs_unren hc0 hg0 rfl hA hbr j u c e1 e2
  subst he
  have hle0 := hA'.le
  let G' := G.join G0' σ
  have c1 : ∀ i, G'.cl (σ i) = G0'.cl i := join_cl hinj
  have c2 : ∀ i, G'.gr (σ i) = G0'.gr i := join_gr hinj
  have hZ : G0'.Z = G'.Z := rfl
  have σall : ∀ k, N ≤ k → σ (n + (k - N)) = k := fun k hk => by rw [σge _ (by omega)]; omega
  have offlt : ∀ k, (¬ ∃ i, σ i = k) → k < N ∧ k ∉ fp := fun k h => by
    constructor
    · rcases Nat.lt_or_ge k N with h' | h'
      · exact h'
      · exact absurd ⟨_, σall k h'⟩ h
    · intro hm
      obtain ⟨i, hi, e⟩ := List.getElem_of_mem hm
      obtain ⟨q, e1, e2, _⟩ := σlt i hi
      refine h ⟨i, ?_⟩
      rw [e2]
      rw [List.getElem?_eq_getElem hi, e] at e1
      exact (Option.some.inj e1).symm
  have ownAt : ∀ i c, G'.owns (σ i) c ↔ G0'.owns i c := fun i c => by unfold Ghost.owns; rw [c1, c2]
  have ownOff : ∀ k c, (¬ ∃ i, σ i = k) → (G'.owns k c ↔ G.owns k c) := fun k c h => by unfold Ghost.owns; rw [join_cl_off h, join_gr_off h]
  have apart : ∀ k c, (¬ ∃ i, σ i = k) → G.owns k c → ∀ i, ¬ G0.owns i c := fun k c h hk i hi => by
    have := hI.inj _ _ c hk (own0 i c hi).2
    exact h ⟨i, this.symm⟩
  have hle : G.le G' := by
    refine ⟨fun k c e => ?_, fun k g e => ?_, hle0.Z⟩
    · by_cases h : ∃ i, σ i = k
      · obtain ⟨i, rfl⟩ := h
        rw [c1]
        have hi : i < n := by
          rcases Nat.lt_or_ge i n with h' | h'
          · exact h'
          · have h3 : σ i < N := (hI.lt (.inl e)).1
            rw [σge i h'] at h3
            omega
        exact hle0.cl i c (by rw [hc0 i hi]; exact e)
      · rw [join_cl_off h]; exact e
    · by_cases h : ∃ i, σ i = k
      · obtain ⟨i, rfl⟩ := h
        rw [c2]
        have hi : i < n := by
          rcases Nat.lt_or_ge i n with h' | h'
          · exact h'
          · have := (hI.dom (σ i) (show N ≤ σ i by rw [σge i h']; omega)).2
            rw [this] at e; cases e
        exact hle0.gr i g (by rw [hg0 i hi]; exact e)
      · rw [join_gr_off h]; exact ⟨g, e, .inl rfl⟩
  have hB' : ∀ k b, (back fp σ st bs')[k]? = some b → (∃ i b0, σ i = k ∧ bs'[i]? = some b0 ∧ b = renB σ b0) ∨ ((¬ ∃ i, σ i = k) ∧ st[k]? = some b) := by
    intro k b hb
    unfold back at hb
    rw [List.getElem?_append, setAll_len] at hb
    split at hb
    · rename_i hk
      by_cases hm : k ∈ fp
      · obtain ⟨i, hi, e⟩ := List.getElem_of_mem hm
        have e1 : fp[i]? = some k := by rw [List.getElem?_eq_getElem hi, e]
        have hi' : i < bs'.length := by omega
        have e2 : ((bs'.take fp.length).map (renB σ))[i]? = some (renB σ bs'[i]) := by
          rw [List.getElem?_map, List.getElem?_take, if_pos hi, List.getElem?_eq_getElem hi']; rfl
        rw [setAll_eq fp _ st i k _ hnd e1 hk e2] at hb
        obtain ⟨q, f1, f2, _⟩ := σlt i hi
        rw [e1] at f1
        exact .inl ⟨i, bs'[i], by rw [f2]; exact (Option.some.inj f1).symm, by simp [hi'], (Option.some.inj hb).symm⟩
      · rw [setAll_ne fp _ st k hm] at hb
        refine .inr ⟨fun ⟨i, e⟩ => ?_, hb⟩
        rcases Nat.lt_or_ge i n with h' | h'
        · obtain ⟨q, f1, f2, _⟩ := σlt i h'
          exact hm (by rw [← e, f2]; exact List.mem_of_getElem? f1)
        · rw [σge i h'] at e; omega
    · rename_i hk
      rw [List.getElem?_map, Option.map_eq_some_iff] at hb
      obtain ⟨b0, hb0, rfl⟩ := hb
      rw [List.getElem?_drop] at hb0
      exact .inl ⟨fp.length + (k - st.length), b0, σall k (by omega), hb0, rfl⟩
  have hinv : Inv G' (back fp σ st bs') w' := by
    refine ⟨fun k b hb => ?_, fun k hk => ?_, fun k q c h1 h2 => ?_, hA'.inv.z⟩
    · rcases hB' k b hb with ⟨i, b0, rfl, hb0, rfl⟩ | ⟨hoff, hb0⟩
      · exact blk_ren (fun i c e => (c1 i).trans e) (fun i g e => (c2 i).trans e) hZ (c1 i) (c2 i) (hA'.inv.blk i b0 hb0)
      · refine (hI.blk k b hb0).keep hle (join_cl_off hoff) (join_gr_off hoff) (fun c hc => hA'.ev.frame c (hI.lt hc).2 (apart k c hoff hc)) fun c hc o => ?_
        have hclt := (hI.lt hc).2
        cases hG : G.Z c o with
        | some u => exact hle0.Z c o u hG
        | none =>
          cases hZ' : G'.Z c o with
          | none => rfl
          | some u =>
            rcases hA'.ev.newZ c o u hZ' with e | e | ⟨i, e⟩
            · have e' : G.Z c o = some u := e
              rw [hG] at e'; cases e'
            · omega
            · exact absurd e (apart k c hoff hc i)
    · have hbl3 : (back fp σ st bs').length = N + (bs'.length - n) := by unfold back; simp [setAll_len, N, n]
      have hkN : N ≤ k := by omega
      have := hA'.inv.dom (n + (k - N)) (by omega)
      rw [← σall k hkN]
      exact ⟨(c1 _).trans this.1, (c2 _).trans this.2⟩
    · by_cases hk : ∃ i, σ i = k <;> by_cases hq : ∃ i, σ i = q
      · obtain ⟨i, rfl⟩ := hk
        obtain ⟨j, rfl⟩ := hq
        rw [ownAt] at h1 h2
        rw [hA'.inv.inj i j c h1 h2]
      · obtain ⟨i, rfl⟩ := hk
        rw [ownAt] at h1
        rw [ownOff q c hq] at h2
        rcases hA'.ev.own i c h1 with e | ⟨j, e⟩
        · have := (hI.lt h2).2; omega
        · exact absurd e (apart q c hq h2 j)
      · obtain ⟨j, rfl⟩ := hq
        rw [ownAt] at h2
        rw [ownOff k c hk] at h1
        rcases hA'.ev.own j c h2 with e | ⟨i, e⟩
        · have := (hI.lt h1).2; omega
        · exact absurd e (apart k c hk h1 i)
      · rw [ownOff k c hk] at h1
        rw [ownOff q c hq] at h2
        exact hI.inj k q c h1 h2
  refine hK cv w' G' ⟨r_ren (fun i c e => (c1 i).trans e) (fun i g e => (c2 i).trans e) (hZ ▸ .refl _) hA'.r, hinv, hle, ⟨hA'.ev.os, hA'.ev.tape, hA'.ev.output, hA'.ev.size, hle0.Z, fun c o u e => ?_, fun c hc hn => hA'.ev.frame c hc fun i hi => hn _ (own0 i c hi).2, fun k c hk => ?_, hA'.ev.loop⟩⟩
  · rcases hA'.ev.newZ c o u e with e | e | ⟨i, e⟩
    · exact .inl e
    · exact .inr (.inl e)
    · exact .inr (.inr ⟨_, (own0 i c e).2⟩)
  · by_cases h : ∃ i, σ i = k
    · obtain ⟨i, rfl⟩ := h
      rw [ownAt] at hk
      rcases hA'.ev.own i c hk with e | ⟨j, e⟩
      · exact .inl e
      · exact .inr ⟨_, (own0 j c e).2⟩
    · rw [ownOff k c h] at hk
      exact .inr ⟨k, hk⟩
end
end Go.Proofs.YtelgmdljcbkniaaDoor.Ai
