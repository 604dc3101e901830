/- An interpreter of values for the model's code, base text 3: what is kept when the world goes on, a function's contract, and the call of one. -/
import Derived.Test.YtelgmdljcbkniaaDoorB2
namespace Go.Proofs.YtelgmdljcbkniaaDoor.Ai
noncomputable section
open Go

theorem cell_of_frame {w w' : World} {c o : Nat} (h : w'.heap[c]? = w.heap[c]?) : w'.cell? ⟨c, o, none⟩ = w.cell? ⟨c, o, none⟩ := by simp [World.cell?, h]

theorem ownsRow_frame {w w' : World} {base e size : Nat} {v : Value} {n : Nat} {xs : List Value} (h : w.ownsRow base e size v n xs)
    (hf : ∀ c, v.ownBlock = some c → w'.heap[c]? = w.heap[c]?) : w'.ownsRow base e size v n xs := by
  refine ⟨h.1, ?_⟩
  rcases h.2 with hn | ⟨g, cap, cur, rfl, hb, hgg, rest⟩
  · exact .inl hn
  · exact .inr ⟨g, cap, cur, rfl, hb, (hf g rfl).trans hgg, rest⟩

/-- A block that lies where nothing was written, and of which no cell became one that nobody writes. -/
theorem BlkOk.keep {G G' : Ghost} {w w' : World} {i : Nat} {b : Blk} (h : BlkOk G w i b) (hle : G.le G') (hcl : G'.cl i = G.cl i) (hgr : G'.gr i = G.gr i)
    (hf : ∀ c, G.owns i c → w'.heap[c]? = w.heap[c]?) (hz : ∀ c, G.owns i c → ∀ o, G'.Z c o = G.Z c o) : BlkOk G' w' i b := by
  have key : ∀ cs, CellsOk G w i cs → CellsOk G' w' i cs := fun cs h => by
    obtain ⟨h1, h2⟩ := h
    refine ⟨hgr ▸ h1, fun c hc => ?_⟩
    rw [hcl] at hc
    obtain ⟨arr, e, hh, hl, hr, hzn⟩ := h2 c hc
    exact ⟨arr, e, (hf c (.inl hc)).trans hh, hl, fun j v cv hv hcv => (hr j v cv hv hcv).mono hle, fun o => (hz c (.inl hc) o).trans (hzn o)⟩
  cases b with
  | cells cs => exact key cs h
  | rows sz xs => exact ⟨key _ h.1, h.2⟩
  | grow e sz xs =>
    obtain ⟨h1, h2⟩ := h
    refine ⟨hcl ▸ h1, fun g hg => ?_⟩
    rw [hgr] at hg
    obtain ⟨hn, hsz, hcells, cs, hown, hcont, hzz⟩ := h2 g hg
    have ho : ∀ c, g.hv.ownBlock = some c → G.owns i c := fun c hc => .inr ⟨g, hg, hc⟩
    refine ⟨hn, hsz, hcells, cs, ownsRow_frame hown fun c hc => hf c (ho c hc), fun j x q v cv hx hq hc => (hcont j x q v cv hx hq hc).mono hle.Z, fun c hc => ?_⟩
    obtain ⟨h3, h4⟩ := hzz c hc
    exact ⟨fun k cv hk => (hz c (ho c hc) k).trans (h3 k cv hk), fun k hk => (hz c (ho c hc) k).trans (h4 k hk)⟩
  | own e sz xs =>
    obtain ⟨h1, h2⟩ := h
    refine ⟨hcl ▸ h1, fun g hg => ?_⟩
    rw [hgr] at hg
    obtain ⟨hn, hsz, hcells, cs, hown, hcont, hzz⟩ := h2 g hg
    have ho : ∀ c, g.hv.ownBlock = some c → G.owns i c := fun c hc => .inr ⟨g, hg, hc⟩
    exact ⟨hn, hsz, hcells, cs, ownsRow_frame hown fun c hc => hf c (ho c hc), fun j x q v cv hx hq hc => (hcont j x q v cv hx hq hc).mono hle, fun c hc k => (hz c (ho c hc) k).trans (hzz c hc k)⟩
  | lp n env ps as cd st pe =>
    obtain ⟨h1, h2⟩ := h
    refine ⟨hgr ▸ h1, fun c hc => ?_⟩
    rw [hcl] at hc
    obtain ⟨rec, hh, g1, g2, g3, g4, g5, g6, g7, hzn⟩ := h2 c hc
    exact ⟨rec, (hf c (.inl hc)).trans hh, g1, g2, g3, g4, g5, g6, fun t v e => let ⟨cv, e1, r⟩ := g7 t v e; ⟨cv, e1, r.mono hle⟩, fun o => (hz c (.inl hc) o).trans (hzn o)⟩
  | map es =>
    obtain ⟨h1, h2⟩ := h
    refine ⟨hgr ▸ h1, fun c hc => ?_⟩
    rw [hcl] at hc
    obtain ⟨ents, clock, hh, hl, hr, hzn⟩ := h2 c hc
    exact ⟨ents, clock, (hf c (.inl hc)).trans hh, hl, fun j e ce he hce => ⟨(hr j e ce he hce).1.mono hle.Z, (hr j e ce he hce).2.mono hle⟩, fun o => (hz c (.inl hc) o).trans (hzn o)⟩
  | gone => exact ⟨hcl.trans h.1, hgr.trans h.2⟩

theorem Inv.lt {G : Ghost} {bs : List Blk} {w : World} (h : Inv G bs w) {i c : Nat} (ho : G.owns i c) : i < bs.length ∧ c < w.heap.size := by
  have hi : i < bs.length := by
    rcases Nat.lt_or_ge i bs.length with h' | h'
    · exact h'
    · obtain ⟨h1, h2⟩ := h.dom i h'
      rcases ho with ho | ⟨g, hg, _⟩
      · rw [h1] at ho; cases ho
      · rw [h2] at hg; cases hg
  refine ⟨hi, ?_⟩
  have hb := h.blk i bs[i] (by simp [hi])
  have hlt : ∀ {o : Obj}, w.heap[c]? = some o → c < w.heap.size := fun {o} e => (Array.getElem?_eq_some_iff.1 e).1
  cases hbi : bs[i] with
  | cells cs =>
    rw [hbi] at hb
    rcases ho with ho | ⟨g, hg, _⟩
    · obtain ⟨arr, e, hh, _⟩ := hb.2 c ho; exact hlt hh
    · rw [hb.1] at hg; cases hg
  | rows sz xs =>
    rw [hbi] at hb
    rcases ho with ho | ⟨g, hg, _⟩
    · obtain ⟨arr, e, hh, _⟩ := hb.1.2 c ho; exact hlt hh
    · rw [hb.1.1] at hg; cases hg
  | grow e sz xs =>
    rw [hbi] at hb
    rcases ho with ho | ⟨g, hg, hgb⟩
    · rw [hb.1] at ho; cases ho
    · obtain ⟨_, _, _, cs, hown, _⟩ := hb.2 g hg; exact (hown.lt c hgb).2
  | own e sz xs =>
    rw [hbi] at hb
    rcases ho with ho | ⟨g, hg, hgb⟩
    · rw [hb.1] at ho; cases ho
    · obtain ⟨_, _, _, cs, hown, _⟩ := hb.2 g hg; exact (hown.lt c hgb).2
  | lp n env ps as cd st pe =>
    rw [hbi] at hb
    rcases ho with ho | ⟨g, hg, _⟩
    · obtain ⟨rec, hh, _⟩ := hb.2 c ho; exact hlt hh
    · rw [hb.1] at hg; cases hg
  | map es =>
    rw [hbi] at hb
    rcases ho with ho | ⟨g, hg, _⟩
    · obtain ⟨ents, clock, hh, _⟩ := hb.2 c ho; exact hlt hh
    · rw [hb.1] at hg; cases hg
  | gone =>
    rw [hbi] at hb
    rcases ho with ho | ⟨g, hg, _⟩
    · rw [hb.1] at ho; cases ho
    · rw [hb.2] at hg; cases hg

/-- The world went on elsewhere: new blocks, and new cells that nobody writes, in them. -/
theorem Inv.later {G : Ghost} {bs : List Blk} {w w' : World} {Z' : ZM} (h : Inv G bs w) (hsz : w.heap.size ≤ w'.heap.size) (hf : ∀ c, c < w.heap.size → w'.heap[c]? = w.heap[c]?)
    (hz : G.Z.le Z') (hnew : ∀ c o v, Z' c o = some v → G.Z c o = some v ∨ w.heap.size ≤ c) (hs : ∀ c o v, Z' c o = some v → rd w' c o = some v) :
    Inv (G.setZ Z' hz) bs w' := by
  have _ := hsz
  have hle : G.le (G.setZ Z' hz) := ⟨fun _ _ e => e, fun _ g e => ⟨g, e, .inl rfl⟩, hz⟩
  refine ⟨fun i b hb => (h.blk i b hb).keep hle rfl rfl (fun c hc => hf c (h.lt hc).2) (fun c hc o => ?_), h.dom, h.inj, hs⟩
  have hlt := (h.lt hc).2
  cases hG : G.Z c o with
  | some v => exact hz c o v hG
  | none =>
    cases hZ : Z' c o with
    | none => exact hZ
    | some v =>
      rcases hnew c o v hZ with e | e
      · rw [hG] at e; cases e
      · omega

/-! ### A value's snapshot: without blocks of its own -/

mutual
def imm (bs : List Blk) : AV → Option AV
  | .gsl i len => match bs[i]? with
    | some (.grow _ _ xs) => if xs.length = len then some (.lst false xs) else none
    | _ => none
  | .agg cs => (imms bs cs).map .agg
  | .tup cs => (imms bs cs).map .tup
  | .fn f cs => (imms bs cs).map (.fn f)
  | .nils => some (.lst false [])
  | .lst _ xs => some (.lst false xs)
  | .ptr .. | .rptr .. | .slc .. | .map _ | .und | .yld _ | .optr .. | .oslc .. => none
  | v => some v
def imms (bs : List Blk) : List AV → Option (List AV)
  | [] => some []
  | v :: r => match imm bs v, imms bs r with
    | some x, some xs => some (x :: xs)
    | _, _ => none
end

theorem imms_get {bs : List Blk} : ∀ {vs xs : List AV}, imms bs vs = some xs → xs.length = vs.length ∧ ∀ (j : Nat) v x, vs[j]? = some v → xs[j]? = some x → imm bs v = some x
  | [], xs, h => by simp only [imms, Option.some.injEq] at h; subst h; simp
  | v :: r, xs, h => by
    simp only [imms] at h
    split at h
    · rename_i x xs' h1 h2
      obtain rfl := Option.some.inj h
      obtain ⟨hl, hr⟩ := imms_get h2
      refine ⟨by simp [hl], fun j y z hy hz => ?_⟩
      cases j with
      | zero => simp at hy hz; subst hy hz; exact h1
      | succ j => exact hr j y z (by simpa using hy) (by simpa using hz)
    · cases h

theorem ri_of_row {Z : ZM} {w : World} {e sz : Nat} {hv : Value} {xs : List AV} {cs : List Value} (hsz : 0 < sz) (hcells : ∀ (j : Nat) (x : AV), xs[j]? = some x → x.cells.length = sz)
    (hown : w.ownsRow 0 e sz hv xs.length cs) (hcont : ∀ (j : Nat) (x : AV) (q : Nat) v cv, xs[j]? = some x → x.cells[q]? = some v → cs[j * sz + q]? = some cv → RI Z v cv)
    (hz : ∀ c, hv.ownBlock = some c → ∀ (k : Nat) cv, cs[k]? = some cv → Z c k = some cv) : RI Z (.lst false xs) hv := by
  have _ := hsz
  rcases hown.2 with ⟨rfl, h0⟩ | ⟨g, cap, cur, rfl, _, hg, hnc, _, _, _⟩
  · have : xs = [] := List.eq_nil_of_length_eq_zero h0
    subst this
    exact .nilslice false _
  · have hd : ∀ (j q : Nat), j < xs.length → q < sz → ∃ cv, Z g (0 + j * sz + q) = some cv ∧ cs[j * sz + q]? = some cv := fun j q hj hq => by
      have hlt : j * sz + q < cs.length := by
        rw [hown.1]
        calc j * sz + q < j * sz + sz := by omega
          _ = (j + 1) * sz := by rw [Nat.succ_mul]
          _ ≤ xs.length * sz := Nat.mul_le_mul_right _ hj
      exact ⟨cs[j * sz + q], by rw [Nat.zero_add]; exact hz g rfl _ _ (by simp [hlt]), by simp [hlt]⟩
    refine .lst false xs sz g 0 cap hcells (fun j x q v cv hx hq hcv => ?_) (fun j q hj hq => let ⟨cv, e, _⟩ := hd j q hj hq; ⟨cv, e⟩) hnc (by simp)
    obtain ⟨cv', e1, e2⟩ := hd j q (lt_of_get hx) (hcells j x hx ▸ lt_of_get hq)
    rw [e1] at hcv
    obtain rfl := Option.some.inj hcv
    exact hcont j x q v cv' hx hq e2

theorem R.agg_inv {G : Ghost} {cs : List AV} {cv : Value} (h : R G (.agg cs) cv) : ∃ vs : Array Value, cv = .agg vs ∧ vs.size = cs.length ∧
    ∀ (j : Nat) v c, cs[j]? = some v → vs[j]? = some c → R G v c := by
  cases h with
  | imm _ _ h => cases h with | agg _ vs hl hr => exact ⟨vs, rfl, hl, fun j v c e1 e2 => .imm _ _ (hr j v c e1 e2)⟩
  | agg _ vs hl hr => exact ⟨vs, rfl, hl, hr⟩

theorem R.tup_inv {G : Ghost} {cs : List AV} {cv : Value} (h : R G (.tup cs) cv) : ∃ vs : Array Value, cv = .tuple vs ∧ vs.size = cs.length ∧
    ∀ (j : Nat) v c, cs[j]? = some v → vs[j]? = some c → R G v c := by
  cases h with
  | imm _ _ h => cases h with | tup _ vs hl hr => exact ⟨vs, rfl, hl, fun j v c e1 e2 => .imm _ _ (hr j v c e1 e2)⟩
  | tup _ vs hl hr => exact ⟨vs, rfl, hl, hr⟩

theorem R.fn_inv {G : Ghost} {f : Nat} {cs : List AV} {cv : Value} (h : R G (.fn f cs) cv) : ∃ vs : Array Value, cv = .func (.func f) #[] vs ∧ vs.size = cs.length ∧
    ∀ (j : Nat) v c, cs[j]? = some v → vs[j]? = some c → R G v c := by
  cases h with
  | imm _ _ h => cases h with | fn _ _ vs hl hr => exact ⟨vs, rfl, hl, fun j v c e1 e2 => .imm _ _ (hr j v c e1 e2)⟩
  | fn _ _ vs hl hr => exact ⟨vs, rfl, hl, hr⟩

mutual
theorem imm_ri {G : Ghost} {bs : List Blk} {w : World} (hI : Inv G bs w) : ∀ {v : AV} {x : AV} {cv : Value}, imm bs v = some x → R G v cv → RI G.Z x cv := by
  intro v x cv hx h
  cases v with
  | gsl i len =>
    simp only [imm] at hx
    split at hx
    · rename_i e sz xs hb
      split at hx
      · rename_i hlen
        obtain rfl := Option.some.inj hx
        have hB := hI.blk i _ hb
        cases h with
        | imm _ _ h => cases h
        | gsl _ _ b l c hg =>
          obtain ⟨_, hsz, hcells, cs, hown, hcont, hz⟩ := hB.2 _ hg
          exact ri_of_row hsz hcells hown hcont fun c hc => (hz c hc).1
        | stale _ _ g b l c hg hn =>
          have := (hB.2 g hg).1
          omega
      · cases hx
    · cases hx
  | agg cs =>
    obtain ⟨vs, rfl, hl, hr⟩ := h.agg_inv
    simp only [imm] at hx
    cases hc : imms bs cs with
    | none => simp [hc] at hx
    | some xs =>
      simp only [hc, Option.map_some, Option.some.injEq] at hx
      subst hx
      exact .agg xs vs (hl.trans (imms_get hc).1.symm) (imms_ri hI hc hr)
  | tup cs =>
    obtain ⟨vs, rfl, hl, hr⟩ := h.tup_inv
    simp only [imm] at hx
    cases hc : imms bs cs with
    | none => simp [hc] at hx
    | some xs =>
      simp only [hc, Option.map_some, Option.some.injEq] at hx
      subst hx
      exact .tup xs vs (hl.trans (imms_get hc).1.symm) (imms_ri hI hc hr)
  | fn f cs =>
    obtain ⟨vs, rfl, hl, hr⟩ := h.fn_inv
    simp only [imm] at hx
    cases hc : imms bs cs with
    | none => simp [hc] at hx
    | some xs =>
      simp only [hc, Option.map_some, Option.some.injEq] at hx
      subst hx
      exact .fn f xs vs (hl.trans (imms_get hc).1.symm) (imms_ri hI hc hr)
  | ptr i o => simp [imm] at hx
  | rptr i j z o => simp [imm] at hx
  | slc i o z l c => simp [imm] at hx
  | map i => simp [imm] at hx
  | und => simp [imm] at hx
  | yld l => simp [imm] at hx
  | optr i n j z o => simp [imm] at hx
  | oslc i n o z l c => simp [imm] at hx
  | nils =>
    simp only [imm, Option.some.injEq] at hx; subst hx
    cases h with | imm _ _ h => cases h; exact .nilslice false _
  | int k n => simp only [imm, Option.some.injEq] at hx; subst hx; cases h with | imm _ _ h => exact h
  | bool b => simp only [imm, Option.some.injEq] at hx; subst hx; cases h with | imm _ _ h => exact h
  | str s => simp only [imm, Option.some.injEq] at hx; subst hx; cases h with | imm _ _ h => exact h
  | nilp => simp only [imm, Option.some.injEq] at hx; subst hx; cases h with | imm _ _ h => exact h
  | eptr xs i o => simp only [imm, Option.some.injEq] at hx; subst hx; cases h with | imm _ _ h => exact h
  | lst ex xs =>
    simp only [imm, Option.some.injEq] at hx
    subst hx
    cases h with
    | imm _ _ h =>
      cases h with
      | nilslice => exact .nilslice false _
      | lst _ _ sz c o cap he hz hd hc hx => exact .lst false xs sz c o cap he hz hd hc (by simp)
  | nilmap => simp only [imm, Option.some.injEq] at hx; subst hx; cases h with | imm _ _ h => exact h
  | nilfn => simp only [imm, Option.some.injEq] at hx; subst hx; cases h with | imm _ _ h => exact h
  | imap ks vs => simp only [imm, Option.some.injEq] at hx; subst hx; cases h with | imm _ _ h => exact h
termination_by v => SizeOf.sizeOf v
theorem imms_ri {G : Ghost} {bs : List Blk} {w : World} (hI : Inv G bs w) : ∀ {cs xs : List AV} {vs : Array Value}, imms bs cs = some xs →
    (∀ (j : Nat) v c, cs[j]? = some v → vs[j]? = some c → R G v c) → ∀ (j : Nat) x c, xs[j]? = some x → vs[j]? = some c → RI G.Z x c
  | [], xs, vs, hx, _, j, x, c, e, _ => by simp only [imms, Option.some.injEq] at hx; subst hx; simp at e
  | v :: r, xs, vs, hx, hr, j, x, c, e1, e2 => by
    simp only [imms] at hx
    split at hx
    · rename_i y ys h1 h2
      obtain rfl := Option.some.inj hx
      cases j with
      | zero => simp at e1; subst e1; exact imm_ri hI h1 (hr 0 v c (by simp) e2)
      | succ j =>
        exact imms_ri hI (cs := r) (vs := (vs.toList.drop 1).toArray) h2 (fun k u d f1 f2 => hr (k + 1) u d (by simpa using f1) (by simpa [Nat.add_comm] using f2)) j x c (by simpa using e1) (by simpa [Nat.add_comm] using e2)
    · cases hx
termination_by cs => SizeOf.sizeOf cs
end

end
end Go.Proofs.YtelgmdljcbkniaaDoor.Ai
