/- An interpreter of values for the model's code, base text 6: variables that are made and written, structs and slices that are built. -/
import Derived.Test.YtelgmdljcbkniaaDoorB5
namespace Go.Proofs.YtelgmdljcbkniaaDoor.Ai
noncomputable section
open Go

theorem R.one_cells {G : Ghost} {v : AV} {cv : Value} (h : R G v cv) (h1 : v.one = true) : cv.cells = #[cv] ∧ cv.oneCell' = true := by
  cases h with
  | imm _ _ h => cases h <;> first | (simp [AV.one] at h1; done) | exact ⟨rfl, rfl⟩
  | und => simp [AV.one] at h1
  | agg => simp [AV.one] at h1
  | tup => simp [AV.one] at h1
  | rptr => exact ⟨rfl, rfl⟩
  | ptr => exact ⟨rfl, rfl⟩
  | slc => exact ⟨rfl, rfl⟩
  | gsl => exact ⟨rfl, rfl⟩
  | stale => exact ⟨rfl, rfl⟩
  | map => exact ⟨rfl, rfl⟩
  | fn => exact ⟨rfl, rfl⟩
  | yld => exact ⟨rfl, rfl⟩
  | optr => exact ⟨rfl, rfl⟩
  | optrS => exact ⟨rfl, rfl⟩
  | oslc => exact ⟨rfl, rfl⟩
  | oslcS => exact ⟨rfl, rfl⟩

/-- The cells of a value, one by one. -/
theorem R.cells {G : Ghost} {v : AV} {cv : Value} (h : R G v cv) (h1 : v.cells.all AV.one = true) :
    cv.cells.size = v.cells.length ∧ (∀ (j : Nat) x c, v.cells[j]? = some x → cv.cells[j]? = some c → R G x c) ∧ ∀ c ∈ cv.cells.toList, c.oneCell' = true := by
  by_cases ha : ∃ cs, v = .agg cs
  · obtain ⟨cs, rfl⟩ := ha
    obtain ⟨vs, rfl, hl, hr⟩ := h.agg_inv
    refine ⟨hl, hr, fun c hc => ?_⟩
    obtain ⟨j, hj, rfl⟩ := List.getElem_of_mem hc
    simp only [Value.cells, Array.length_toList] at hj
    have hj' : j < cs.length := hl ▸ hj
    have h2 := hr j cs[j] vs[j] (by simp [hj']) (by simp [hj])
    have h3 : cs[j].one = true := by
      simp only [AV.cells, List.all_eq_true] at h1
      exact h1 _ (List.getElem_mem hj')
    simpa [Value.cells] using (h2.one_cells h3).2
  · have hc : v.cells = [v] := by
      cases v <;> first | rfl | exact absurd ⟨_, rfl⟩ ha
    rw [hc] at h1 ⊢
    have hv : v.one = true := by simpa using h1
    obtain ⟨h2, h3⟩ := h.one_cells hv
    rw [h2]
    refine ⟨rfl, fun j x c e1 e2 => ?_, by simpa using h3⟩
    cases j with
    | zero => simp at e1 e2; subst e1 e2; exact h
    | succ j => simp at e1

/-- A new block of the store. -/
theorem Inv.push {G G' : Ghost} {bs : List Blk} {w w' : World} (h : Inv G bs w) (b : Blk) (hcl : ∀ i, i ≠ bs.length → G'.cl i = G.cl i) (hgr : ∀ i, i ≠ bs.length → G'.gr i = G.gr i)
    (hz : G.Z.le G'.Z) (hnew : ∀ c o v, G'.Z c o = some v → G.Z c o = some v ∨ w.heap.size ≤ c) (hf : ∀ c, c < w.heap.size → w'.heap[c]? = w.heap[c]?)
    (hs : ∀ c o v, G'.Z c o = some v → rd w' c o = some v) (hb : G.le G' → BlkOk G' w' bs.length b) (hown : ∀ c, G'.owns bs.length c → w.heap.size ≤ c) :
    Inv G' (bs ++ [b]) w' ∧ G.le G' := by
  have hle : G.le G' := by
    refine ⟨fun i c e => ?_, fun i g e => ⟨g, ?_, .inl rfl⟩, hz⟩
    · rw [hcl i (fun hi => by rw [hi] at e; rw [(h.dom _ (Nat.le_refl _)).1] at e; cases e)]; exact e
    · rw [hgr i (fun hi => by rw [hi] at e; rw [(h.dom _ (Nat.le_refl _)).2] at e; cases e)]; exact e
  have howns : ∀ i c, i ≠ bs.length → (G'.owns i c ↔ G.owns i c) := fun i c hi => by unfold Ghost.owns; rw [hcl i hi, hgr i hi]
  refine ⟨⟨fun i b' hb' => ?_, fun i hi => ?_, fun i j c h1 h2 => ?_, hs⟩, hle⟩
  · rw [List.getElem?_append] at hb'
    split at hb'
    · rename_i hi
      have hne : i ≠ bs.length := by omega
      refine (h.blk i b' hb').keep hle (hcl i hne) (hgr i hne) (fun c hc => hf c (h.lt hc).2) fun c hc o => ?_
      have hlt := (h.lt hc).2
      cases hG : G.Z c o with
      | some v => exact hz c o v hG
      | none =>
        cases hZ : G'.Z c o with
        | none => rfl
        | some v =>
          rcases hnew c o v hZ with e | e
          · rw [hG] at e; cases e
          · omega
    · rename_i hi
      have : i - bs.length = 0 := by have := lt_of_get hb'; simp at this; omega
      have hi2 : i = bs.length := by omega
      rw [this] at hb'
      simp at hb'
      subst hb' hi2
      exact hb hle
  · simp at hi
    rw [hcl i (by omega), hgr i (by omega)]
    exact h.dom i (by omega)
  · by_cases hi : i = bs.length <;> by_cases hj : j = bs.length
    · omega
    · rw [howns j c hj] at h2
      have h3 := (h.lt h2).2
      have := hown c (hi ▸ h1)
      omega
    · rw [howns i c hi] at h1
      have h3 := (h.lt h1).2
      have := hown c (hj ▸ h2)
      omega
    · rw [howns i c hi] at h1
      rw [howns j c hj] at h2
      exact h.inj i j c h1 h2

theorem z_lt {G : Ghost} {bs : List Blk} {w : World} (h : Inv G bs w) {c o : Nat} {v : Value} (e : G.Z c o = some v) : c < w.heap.size :=
  rd_lt (h.z c o v e)

/-- A new variable, or an array: a block of cells. -/
theorem after_new {G : Ghost} {bs : List Blk} {w : World} (hI : Inv G bs w) (arr : Array Value) (e : TypeId) (cs : List AV) (hl : cs.length ≤ arr.size)
    (hr : ∀ (j : Nat) v cv, cs[j]? = some v → arr[j]? = some cv → R G v cv) (o : Nat) :
    ∃ G', Inv G' (bs ++ [.cells cs]) (w.alloc (.cells arr e)) ∧ G.le G' ∧ Ev G w G' (w.alloc (.cells arr e)) ∧ G'.cl bs.length = some w.heap.size ∧ R G' (.ptr bs.length o) (.pointer (some ⟨w.heap.size, o, none⟩)) := by
  let G' : Ghost := { G with cl := fun i => if i = bs.length then some w.heap.size else G.cl i }
  have hcl : G'.cl bs.length = some w.heap.size := by simp [G']
  have hgr0 : G'.gr bs.length = none := (hI.dom _ (Nat.le_refl _)).2
  have hf : ∀ c, c < w.heap.size → (w.alloc (.cells arr e)).heap[c]? = w.heap[c]? := fun c hc => heap_alloc_old w _ c hc
  have hs : ∀ c o v, G.Z c o = some v → rd (w.alloc (.cells arr e)) c o = some v := fun c o v ez => by
    rw [rd_of_frame (hf c (z_lt hI ez))]; exact hI.z c o v ez
  have hnone : ∀ o, G.Z w.heap.size o = none := fun o => by
    cases hz : G.Z w.heap.size o with
    | none => rfl
    | some v => have := z_lt hI hz; omega
  have hown : ∀ c, G'.owns bs.length c → c = w.heap.size := fun c hc => by
    rcases hc with hc | ⟨g, hg, _⟩
    · rw [hcl] at hc; exact (Option.some.inj hc).symm
    · rw [hgr0] at hg; cases hg
  obtain ⟨h1, h2⟩ := hI.push (G' := G') (w' := w.alloc (.cells arr e)) (.cells cs) (fun i hi => by simp [G', hi]) (fun _ _ => rfl) (.refl _) (fun _ _ _ e => .inl e) hf hs
    (fun hle => ⟨hgr0, fun c hc => by
      rw [hcl] at hc
      obtain rfl := Option.some.inj hc
      exact ⟨arr, e, heap_alloc_new w _, hl, fun j v cv e1 e2 => (hr j v cv e1 e2).mono hle, hnone⟩⟩)
    (fun c hc => by rw [hown c hc]; exact Nat.le_refl _)
  refine ⟨G', h1, h2, ⟨rfl, rfl, rfl, by simp, .refl _, fun _ _ _ e => .inl e, fun c hc _ => hf c hc, fun i c hc => ?_, loop_of_same fun c hc => .inl (hf c hc)⟩, hcl, .ptr _ _ _ hcl⟩
  by_cases hi : i = bs.length
  · subst hi; rw [hown c hc]; exact .inl (Nat.le_refl _)
  · exact .inr ⟨i, by unfold Ghost.owns at hc ⊢; simpa [G', hi] using hc⟩

theorem op_box {P : Program} {o : Oper} {s : St} {t : TypeId} {x : Operand} {v : AV} {k : Nat} (ho : o.op = .box t x) (hx : ev s.env x = some v) (h1 : v.cells.all AV.one = true) (hk : s.bs.length = k) :
    OpT P o s (.ptr k 0) (s.bs ++ [.cells v.cells]) := by
  subst hk
  refine OpT.of (by simp [ho]) ?_
  intro G w a hI hE K Q hK
  have hr := ev_r hE hx
  obtain ⟨hl, hc, _⟩ := hr.cells h1
  obtain ⟨G', hI', hle, hev, _, hp⟩ := after_new hI (a.eval x).cells t v.cells (by omega) hc 0
  unfold Oper.wp
  have : (execOp a.eval o).run P w = .ok (.value (.pointer (some ⟨w.heap.size, 0, none⟩))) (w.alloc (.cells (a.eval x).cells t)) := by
    simp [execOp, ho, Instr.box, newVar, newRow]
  rw [this]
  exact hK _ _ G' ⟨hp, hI', hle, hev⟩

theorem op_alloc {P : Program} {o : Oper} {s : St} {t : TypeId} {size bytes : Nat} {z : Value} {d : TypeDesc} {v : AV} {k : Nat} (ht : Inf P t size bytes z d) (hz : ofConst z = some v) (h1 : v.cells.all AV.one = true)
    (ho : o.op = .alloc t) (hk : s.bs.length = k) : OpT P o s (.ptr k 0) (s.bs ++ [.cells v.cells]) := by
  subst hk
  refine OpT.of (by simp [ho]) ?_
  intro G w a hI hE K Q hK
  have hr : R G v z := .imm _ _ (ofConst_ri hz)
  obtain ⟨hl, hc, _⟩ := hr.cells h1
  obtain ⟨G', hI', hle, hev, _, hp⟩ := after_new hI z.cells t v.cells (by omega) hc 0
  unfold Oper.wp
  have : (execOp a.eval o).run P w = .ok (.value (.pointer (some ⟨w.heap.size, 0, none⟩))) (w.alloc (.cells z.cells t)) := by
    simp [execOp, ho, Instr.alloc, ht.zero, newVar, newRow]
  rw [this]
  exact hK _ _ G' ⟨hp, hI', hle, hev⟩

/-! ### Writing -/

/-- A block of cells is written. -/
theorem after_set {G : Ghost} {bs : List Blk} {w : World} (hI : Inv G bs w) {i c : Nat} {cs cs' : List AV} (hb : bs[i]? = some (.cells cs)) (hc : G.cl i = some c) {arr : Array Value} {e : TypeId}
    (hh : w.heap[c]? = some (.cells arr e (0, 0))) (arr' : Array Value) (hl : cs'.length ≤ arr'.size) (hr : ∀ (j : Nat) v cv, cs'[j]? = some v → arr'[j]? = some cv → R G v cv) :
    Inv G (bs.set i (.cells cs')) (w.setRow c arr') ∧ Ev G w G (w.setRow c arr') := by
  have hB := hI.blk i _ hb
  obtain ⟨_, _, _, _, _, hz⟩ := hB.2 c hc
  have hf : ∀ d, d ≠ c → (w.setRow c arr').heap[d]? = w.heap[d]? := fun d hd => setRow_other w c d _ hd
  refine ⟨⟨fun j b hj => ?_, fun j hj => hI.dom j (by simpa using hj), hI.inj, fun d o v ez => ?_⟩, ⟨rfl, rfl, rfl, by simp, .refl _, fun _ _ _ e => .inl e, fun d hd hn => hf d (fun e => hn i (e ▸ .inl hc)), fun j d hd => .inr ⟨j, hd⟩, loop_of_same fun d hd => by
      by_cases e0 : d = c
      · exact .inr fun rec h => by rw [e0, hh] at h; cases h
      · exact .inl (hf d e0)⟩⟩
  · rw [List.getElem?_set] at hj
    split at hj
    · rename_i hij
      subst hij
      split at hj
      · obtain rfl := Option.some.inj hj
        refine ⟨hB.1, fun c' hc' => ?_⟩
        rw [hc] at hc'
        obtain rfl := Option.some.inj hc'
        exact ⟨arr', e, setRow_heap w c arr _ e _ hh, hl, hr, hz⟩
      · cases hj
    · rename_i hij
      exact (hI.blk j b hj).keep (.refl _) rfl rfl (fun d hd => hf d fun e => hij (hI.inj i j c (.inl hc) (e ▸ hd))) fun _ _ _ => rfl
  · have hd : d ≠ c := fun e => by rw [e, hz o] at ez; cases ez
    rw [rd_of_frame (hf d hd)]
    exact hI.z d o v ez

/-- A variable, or a part of one, is written. -/
theorem op_store {P : Program} {o : Oper} {s : St} {t : TypeId} {p x : Operand} {size bytes : Nat} {z : Value} {d : TypeDesc} {i k : Nat} {cs cs' : List AV} {v : AV} (ht : Inf P t size bytes z d)
    (ho : o.op = .store t p x) (hp : ev s.env p = some (.ptr i k)) (hx : ev s.env x = some v) (hb : s.bs[i]? = some (.cells cs)) (hs : v.cells.length = size) (h1 : v.cells.all AV.one = true) (hk : k + size ≤ cs.length)
    (hv : cs.take k ++ v.cells ++ cs.drop (k + size) = cs') : OpT P o s (.und) (s.bs.set i (.cells cs')) := by
  subst hv
  refine OpT.of (by simp [ho]) ?_
  intro G w a hI hE K Q hK
  obtain ⟨c, hc, he⟩ := (ev_r hE hp).ptr_inv
  obtain ⟨arr, e, hh, hl, hr, _⟩ := inv_cells hI hb hc
  obtain ⟨hvl, hvr, hv1⟩ := (ev_r hE hx).cells h1
  have hrun := run_storeCells_at P c k e (a.eval x).cells.toList 0 arr w hh (by simp; omega) hv1
  simp only [Nat.add_zero] at hrun
  have hlen : (arr.toList.take k).length = k := by simp; omega
  have hlc : (cs.take k).length = k := by simp; omega
  obtain ⟨hI', hev⟩ := after_set hI hb hc hh (arr.toList.take k ++ (a.eval x).cells.toList ++ arr.toList.drop (k + (a.eval x).cells.toList.length)).toArray (cs' := cs.take k ++ v.cells ++ cs.drop (k + size)) (by simp; omega) fun j u cu e1 e2 => by
    simp only [List.getElem?_toArray] at e2
    rw [List.getElem?_append, List.getElem?_append] at e1 e2
    simp only [List.length_append, hlen, hlc, Array.length_toList, hvl] at e1 e2
    split at e1
    · rename_i hj; rw [if_pos hj] at e2
      split at e1
      · rename_i hj2; rw [if_pos hj2] at e2
        rw [List.getElem?_take, if_pos hj2] at e1 e2
        exact hr j u cu e1 (by simpa using e2)
      · rename_i hj2; rw [if_neg hj2] at e2
        exact hvr _ u cu e1 (by simpa using e2)
    · rename_i hj; rw [if_neg hj] at e2
      rw [List.getElem?_drop] at e1 e2
      rw [hs] at e1 e2
      exact hr _ u cu e1 (by simpa using e2)
  unfold Oper.wp
  have : (execOp a.eval o).run P w = .ok .skip (w.setRow c (arr.toList.take k ++ (a.eval x).cells.toList ++ arr.toList.drop (k + (a.eval x).cells.toList.length)).toArray) := by
    have hsz : (a.eval x).cells.size = size := hvl.trans hs
    simp only [execOp, ho, he, Instr.storeAt, Instr.sureAddr, storeVar, Sem.run_bind, Sem.run_pure, Result.andThen_ok, ht.size, hsz, ne_eq, not_true_eq_false, if_false, hrun]
  rw [this]
  exact hK undef _ G ⟨.und _, hI', .refl _, hev⟩

/-! ### Structs -/

def setL : List AV → Nat → List AV → List AV
  | cs, _, [] => cs
  | cs, k, y :: ys => setL (cs.set k y) (k + 1) ys

theorem setL_length : ∀ (ys cs : List AV) (k : Nat), (setL cs k ys).length = cs.length
  | [], _, _ => rfl
  | y :: ys, cs, k => by simp [setL, setL_length ys]

theorem fold_set {G : Ghost} : ∀ (ys : List AV) (vs : List Value) (k q : Nat) (cs : List AV) (arr : Array Value), vs.length = ys.length → (∀ (j : Nat) v cv, ys[j]? = some v → vs[j]? = some cv → R G v cv) →
    cs.length = arr.size → (∀ (j : Nat) v cv, cs[j]? = some v → arr[j]? = some cv → R G v cv) →
    ((vs.zipIdx q).foldl (fun (cs : Array Value) (x : Value × Nat) => cs.setIfInBounds (k + x.2) x.1) arr).size = (setL cs (k + q) ys).length ∧
    ∀ (j : Nat) v cv, (setL cs (k + q) ys)[j]? = some v → ((vs.zipIdx q).foldl (fun (cs : Array Value) (x : Value × Nat) => cs.setIfInBounds (k + x.2) x.1) arr)[j]? = some cv → R G v cv
  | [], vs, k, q, cs, arr, hl, _, hs, hr => by
    have : vs = [] := List.eq_nil_of_length_eq_zero (by simpa using hl)
    subst this
    exact ⟨by simpa [setL] using hs.symm, by simpa [setL] using hr⟩
  | y :: ys, [], _, _, _, _, hl, _, _, _ => by simp at hl
  | y :: ys, u :: vs, k, q, cs, arr, hl, hy, hs, hr => by
    simp only [List.zipIdx_cons, List.foldl_cons, setL]
    have := fold_set ys vs k (q + 1) (cs.set (k + q) y) (arr.setIfInBounds (k + q) u) (by simpa using hl) (fun j v cv e1 e2 => hy (j + 1) v cv (by simpa using e1) (by simpa using e2)) (by simpa using hs)
      (fun j v cv e1 e2 => by
        rw [List.getElem?_set] at e1
        by_cases hj : k + q = j
        · subst hj
          rw [if_pos rfl] at e1
          split at e1
          · rename_i hlt
            rw [Array.getElem?_setIfInBounds_self_of_lt (by omega)] at e2
            obtain rfl := Option.some.inj e1
            obtain rfl := Option.some.inj e2
            exact hy 0 y u (by simp) (by simp)
          · cases e1
        · rw [if_neg hj] at e1
          rw [Array.getElem?_setIfInBounds_ne hj] at e2
          exact hr j v cv e1 e2)
    rw [← Nat.add_assoc] at this
    exact this

/-- The parts of a literal, laid into the zero value. -/
def afill (place : Nat → Option (Nat × Nat)) : List AV → List (Nat × AV) → Option (List AV)
  | cs, [] => some cs
  | cs, (i, v) :: rest =>
    match place i with
    | none => none
    | some (off, size) => if v.cells.length = size ∧ off + size ≤ cs.length ∧ v.cells.all AV.one = true then afill place (setL cs off v.cells) rest else none

theorem fill_of {G : Ghost} {place : Nat → Option (Nat × Nat)} : ∀ (ps : List (Nat × AV)) (cps : List (Nat × Value)) (cs ds : List AV) (arr : Array Value), cps.length = ps.length →
    (∀ (j : Nat) p c, ps[j]? = some p → cps[j]? = some c → p.1 = c.1 ∧ R G p.2 c.2) → cs.length = arr.size → (∀ (j : Nat) v cv, cs[j]? = some v → arr[j]? = some cv → R G v cv) → afill place cs ps = some ds →
    ∃ out, Instr.fill place arr cps = some out ∧ out.size = ds.length ∧ ∀ (j : Nat) v cv, ds[j]? = some v → out[j]? = some cv → R G v cv
  | [], cps, cs, ds, arr, hl, _, hs, hr, h => by
    have : cps = [] := List.eq_nil_of_length_eq_zero (by simpa using hl)
    subst this
    obtain rfl := Option.some.inj h
    exact ⟨arr, rfl, hs.symm, hr⟩
  | (i, v) :: ps, [], _, _, _, hl, _, _, _, _ => by simp at hl
  | (i, v) :: ps, (i', u) :: cps, cs, ds, arr, hl, hp, hs, hr, h => by
    obtain ⟨rfl, hv⟩ := hp 0 (i, v) (i', u) (by simp) (by simp)
    simp only at hv
    simp only [afill] at h
    split at h
    · cases h
    · rename_i off size hpl
      split at h
      · rename_i hc
        obtain ⟨h1, h2, h3⟩ := hc
        obtain ⟨c1, c2, _⟩ := hv.cells h3
        obtain ⟨f1, f2⟩ := fold_set v.cells u.cells.toList off 0 cs arr (by simpa using c1) (fun j x c e1 e2 => c2 j x c e1 (by simpa using e2)) hs hr
        rw [Nat.add_zero] at f1 f2
        obtain ⟨out, g1, g2, g3⟩ := fill_of ps cps (setL cs off v.cells) ds _ (by simpa using hl) (fun j p c e1 e2 => hp (j + 1) p c (by simpa using e1) (by simpa using e2)) f1.symm f2 h
        refine ⟨out, ?_, g2, g3⟩
        have hsz : u.cells.size = size := c1.trans h1
        have hcond : ¬ (u.cells.size ≠ size ∨ off + u.cells.size > arr.size) := by omega
        simp only [Instr.fill, hpl]
        rw [if_neg (by simpa using hcond)]
        have hfold : u.cells.zipIdx.foldl (fun (cs : Array Value) (x : Value × Nat) => cs.setIfInBounds (off + x.2) x.1) arr = (u.cells.toList.zipIdx 0).foldl (fun (cs : Array Value) (x : Value × Nat) => cs.setIfInBounds (off + x.2) x.1) arr := by
          rw [← Array.foldl_toList]; simp
        have hg := g1
        rw [← hfold] at hg
        exact hg
      · cases h

def evp (env : Env) : List (Nat × Operand) → Option (List (Nat × AV))
  | [] => some []
  | (i, x) :: r => match ev env x, evp env r with
    | some v, some vs => some ((i, v) :: vs)
    | _, _ => none

theorem evp_r {G : Ghost} {env : Env} {a : Act} (h : EnvR G env a.tmps) : ∀ {ps : List (Nat × Operand)} {aps : List (Nat × AV)}, evp env ps = some aps →
    (ps.map fun p => (p.1, a.eval p.2)).length = aps.length ∧ ∀ (j : Nat) p c, aps[j]? = some p → (ps.map fun p => (p.1, a.eval p.2))[j]? = some c → p.1 = c.1 ∧ R G p.2 c.2
  | [], aps, e => by obtain rfl := Option.some.inj e; simp
  | (i, x) :: r, aps, e => by
    simp only [evp] at e
    split at e
    · rename_i v vs h1 h2
      obtain rfl := Option.some.inj e
      obtain ⟨hl, hr⟩ := evp_r h h2
      refine ⟨by simpa using hl, fun j p c e1 e2 => ?_⟩
      cases j with
      | zero => simp at e1 e2; subst e1 e2; exact ⟨rfl, ev_r h h1⟩
      | succ j => exact hr j p c (by simpa using e1) (by simpa using e2)
    · cases e

/-- The places of a struct's fields. -/
def Places (P : Program) (fs : Array Field) (pl : List (Nat × Nat)) : Prop :=
  ∀ w : World, (fs.mapM (fun (f : Field) => (do pure (f.offset, ← Go.sizeOf f.type) : Sem (Nat × Nat)))).run P w = .ok pl.toArray w

theorem op_build {P : Program} {o : Oper} {s : St} {t : TypeId} {ps : List (Nat × Operand)} {aps : List (Nat × AV)} {fs : Array Field} {pl : List (Nat × Nat)} {size bytes : Nat} {z : Value} {zs cs : List AV}
    (ht : Inf P t size bytes z (.struct fs)) (hpl : Places P fs pl) (hz : ofConst z = some (.agg zs)) (ho : o.op = .build t ps.toArray) (hp : evp s.env ps = some aps)
    (hf : afill (fun (i : Nat) => pl[i]?) zs aps = some cs) : OpT P o s (.agg cs) s.bs :=
  op_pure fun G w a hI hE => by
    obtain ⟨hl, hr⟩ := evp_r hE hp
    obtain ⟨vs, rfl, hzl, hzr⟩ := (R.imm (G := G) _ _ (ofConst_ri hz)).agg_inv
    obtain ⟨out, h1, h2, h3⟩ := fill_of aps (ps.map fun p => (p.1, a.eval p.2)) zs cs vs hl hr hzl.symm hzr hf
    refine ⟨.agg out, ?_, .agg cs out h2 h3⟩
    have hplace : (fun (i : Nat) => (pl.toArray)[i]?) = fun (i : Nat) => pl[i]? := by funext i; simp
    have := hpl w
    simp only [execOp, ho, Instr.build, Sem.run_bind, ht.zero, Result.andThen_ok, ht.under, this, Value.cells, hplace, List.map_toArray, h1, Sem.run_pure]

end
end Go.Proofs.YtelgmdljcbkniaaDoor.Ai
