/- An interpreter of values for the model's code, base text 4: a function's contract and its call. -/
import Derived.Test.YtelgmdljcbkniaaDoorB3
namespace Go.Proofs.YtelgmdljcbkniaaDoor.Ai
noncomputable section
open Go

def RIs (Z : ZM) (vs : List AV) (cvs : Array Value) : Prop := cvs.size = vs.length ∧ ∀ (j : Nat) v c, vs[j]? = some v → cvs[j]? = some c → RI Z v c

/-- Behind a call that writes nothing that was there. -/
structure VAfter (Z : ZM) (w : World) (v : AV) (cv : Value) (w' : World) (Z' : ZM) : Prop where
  r : RI Z' v cv
  os : w'.os = w.os
  tape : w'.tape = w.tape
  output : w'.output = w.output
  size : w.heap.size ≤ w'.heap.size
  frame : ∀ c, c < w.heap.size → w'.heap[c]? = w.heap[c]?
  zle : Z.le Z'
  znew : ∀ c o v, Z' c o = some v → Z c o = some v ∨ w.heap.size ≤ c
  zs : ∀ c o v, Z' c o = some v → rd w' c o = some v

/-- The contract of a function from values to a value: S tells the result. -/
def VOk (P : Program) (f : FuncId) (S : List AV → AV → Prop) : Prop :=
  ∀ (Z : ZM) (w : World) (cargs : Array Value) (args : List AV) (v : AV), GlobOk Z → (∀ c o x, Z c o = some x → rd w c o = some x) → RIs Z args cargs → S args v →
    Calls P f cargs w fun e w' => ∃ cv Z', e = .returned cv ∧ VAfter Z w v cv w' Z'

theorem VOk.imp {P : Program} {f : FuncId} {S S' : List AV → AV → Prop} (h : VOk P f S) (hs : ∀ args v, S' args v → S args v) : VOk P f S' :=
  fun Z w cargs args v hg hz hr hv => h Z w cargs args v hg hz hr (hs args v hv)

def argEnv : List AV → Nat → Env
  | [], _ => []
  | v :: r, k => (k, v) :: argEnv r (k + 1)

theorem argEnv_get : ∀ (l : List AV) (k t : Nat) (v : AV), (argEnv l k).get t = some v → k ≤ t ∧ l[t - k]? = some v
  | [], k, t, v, h => by simp [argEnv, Env.get] at h
  | u :: r, k, t, v, h => by
    simp only [argEnv, Env.get_cons] at h
    split at h
    · rename_i e; subst e; simpa using h
    · obtain ⟨h1, h2⟩ := argEnv_get r (k + 1) t v h
      refine ⟨by omega, ?_⟩
      have : t - k = (t - (k + 1)) + 1 := by omega
      rw [this]; simpa using h2

/-- The frame's conditions of a function that was called in the world w0 with what G0 says. -/
def protOf (m : Nat) (G0 : Ghost) (w0 : World) (hd : ∀ i, m ≤ i → G0.cl i = none ∧ G0.gr i = none) : Prot m where
  X G w := G0.le G ∧ Ev G0 w0 G w
  Y D := w0.heap.size ≤ D
  go G w G' w' h e hc hg := by
    have lt : ∀ i, (G0.cl i ≠ none ∨ G0.gr i ≠ none) → i < m := fun i h => by
      rcases Nat.lt_or_ge i m with h' | h'
      · exact h'
      · have := hd i h'; rcases h with h | h <;> simp [this] at h
    refine ⟨⟨fun i c e1 => hc i (lt i (.inl (by simp [e1]))) c (h.1.cl i c e1), fun i g e1 => ?_, h.1.Z.trans e.Z⟩, h.2.trans e⟩
    obtain ⟨g1, f1, f2⟩ := h.1.gr i g e1
    obtain ⟨g2, f3, f4⟩ := hg i (lt i (.inr (by simp [e1]))) g1 f1
    refine ⟨g2, f3, ?_⟩
    rcases f2 with rfl | f2
    · exact f4
    · rcases f4 with rfl | f4
      · exact .inr f2
      · exact .inr (Nat.lt_trans f2 f4)
  fresh G w D h hD := Nat.le_trans h.2.size hD
  put G w D o h hD hn _ _ hl := ⟨h.1, ⟨h.2.os, h.2.tape, h.2.output, by simp [World.putObj_size]; exact h.2.size, h.2.Z, h.2.newZ, fun c hc hn => by
      rw [World.putObj_heap_other (by omega)]; exact h.2.frame c hc hn, h.2.own, fun c rec e => by
        obtain ⟨rec', e'⟩ := h.2.loop c rec e
        have : c ≠ D := fun e0 => hl rec' (e0 ▸ e')
        exact ⟨rec', (World.putObj_heap_other this).trans e'⟩⟩⟩

theorem rd_other {w : World} {D o : Nat} {x : Option (List Deferred)} (h : w.heap[D]? = some (.deferred x)) : rd w D o = none := by
  unfold rd; rw [h]; simp [World.cell?, h]
theorem rd_loop {w : World} {D o : Nat} {x : Loop} (h : w.heap[D]? = some (.loop x)) : rd w D o = none := by
  unfold rd; rw [h]; simp [World.cell?, h]

theorem Inv.putObj {G : Ghost} {bs : List Blk} {w : World} (h : Inv G bs w) {D : Nat} {o : Obj} (hn : ∀ i, ¬ G.owns i D) (hr : ∀ q, rd w D q = none) : Inv G bs (w.putObj D o) := by
  refine ⟨fun i b hb => (h.blk i b hb).keep (.refl _) rfl rfl (fun c hc => ?_) (fun _ _ _ => rfl), h.dom, h.inj, fun c q v e => ?_⟩
  · exact World.putObj_heap_other fun e => hn i (e ▸ hc)
  · have : c ≠ D := fun e' => by have := h.z c q v e; rw [e', hr q] at this; cases this
    rw [rd_of_frame (World.putObj_heap_other this)]; exact h.z c q v e

theorem leaves_marks {m : Nat} {P : Program} {fn : Func} {tmps : Array Value} {R : Ending → World → Prop} {X : Prot m} {G : Ghost} {bs : List Blk} : ∀ (Ds : List Nat) (w : World), Ds.Nodup →
    (∀ D ∈ Ds, X.Y D ∧ w.heap[D]? = some (.deferred (some [])) ∧ ∀ i, ¬ G.owns i D) → Inv G bs w → X.X G w →
    (∀ w', Inv G bs w' → X.X G w' → ∃ v, (results fn tmps).run P w' = .ok v w' ∧ R (.returned v) w') → LeavesInM Fence.wide 0 P fn tmps R (Ds.map mark) .returning w
  | [], w, _, _, hI, hX, h => h w hI hX
  | D :: Ds, w, hn, hD, hI, hX, h => by
    obtain ⟨h1, h2, h3⟩ := hD D (by simp)
    have r0 : ∀ q, rd w D q = none := fun q => rd_other h2
    have hlt : D < w.heap.size := (Array.getElem?_eq_some_iff.1 h2).1
    have r1 : ∀ q, rd (w.putObj D (.deferred none)) D q = none := fun q => rd_other (World.putObj_heap_same hlt)
    refine ⟨by simp, .inl ⟨D, _, rfl, run_takeDeferred h2, ?_⟩⟩
    rw [List.nodup_cons] at hn
    refine leaves_marks Ds _ hn.2 (fun D' hD' => ?_) (hI.putObj h3 r0) (X.put G w D _ hX h1 h3 r0 r1 (fun rec e => by rw [h2] at e; cases e)) h
    obtain ⟨g1, g2, g3⟩ := hD D' (by simp [hD'])
    exact ⟨g1, (World.putObj_heap_other (fun e : D' = D => hn.1 (e ▸ hD'))).trans g2, g3⟩

/-- A function's contract from its body. -/
theorem calls_of_T {P : Program} {f : FuncId} {fn : Func} {c : Code} {cargs : Array Value} {args : List AV} {bs : List Blk} {G : Ghost} {w : World} {R' : Ending → World → Prop} {Q : Exit → St → Prop} (hf : P.funcs[f]? = some fn) (hb : fn.body = some c)
    (hI : Inv G bs w) (hr : cargs.size = args.length ∧ ∀ (j : Nat) v c, args[j]? = some v → cargs[j]? = some c → R G v c) (hlen : args.length ≤ fn.ntmps) (hT : T P fn.ntmps bs.length c ⟨argEnv args 0, bs⟩ Q)
    (hQ : ∀ e s', Q e s' → (e = .normal ∨ e = .ret) ∧ ∀ (G' : Ghost) (w' : World) (tmps : Array Value), EnvR G' s'.env tmps → Inv G' s'.bs w' → G.le G' → Ev G w G' w' → ∃ cv, (results fn tmps).run P w' = .ok cv w' ∧ R' (.returned cv) w') :
    Calls P f cargs w R' := by
  refine callsIn_wide.1 (callsIn_of_wp_marks (n := 0) hf hb trivial ?_)
  have hH : Holds fn.ntmps (protOf bs.length G w hI.dom) none ⟨argEnv args 0, bs⟩ { tmps := cargs ++ Array.replicate (fn.ntmps - cargs.size) undef, defers := [] } w := by
    refine ⟨⟨G, fun t u e => ?_, hI, ⟨.refl _, .refl _ _⟩, ⟨⟨[], rfl, .nil, by simp⟩, fun l h => by cases h⟩⟩, ?_⟩
    · obtain ⟨_, e2⟩ := argEnv_get args 0 t u e
      rw [Nat.sub_zero] at e2
      have ht : t < cargs.size := by rw [hr.1]; exact lt_of_get e2
      refine ⟨cargs[t], ?_, hr.2 t u _ e2 (by simp [ht])⟩
      simp [Array.getElem?_append, ht]
    · simp [hr.1]; omega
  refine wpIn_mono (hT _ none _ w hH) fun e a' w' ⟨s', q, H'⟩ => ?_
  obtain ⟨he, hfin⟩ := hQ e s' q
  obtain ⟨G', hE, hI', hX, ⟨⟨Ds, e1, e2, e3⟩, _⟩⟩ := H'.st
  have fin : LeavesInM Fence.wide 0 P fn a'.tmps R' a'.defers .returning w' := by
    rw [e1]
    exact leaves_marks Ds w' e2 e3 hI' hX fun w2 h1 h2 => hfin G' w2 a'.tmps hE h1 h2.1 h2.2
  rcases he with rfl | rfl <;> exact fin

/-! ### snapshots: what a value is when all that is reached is as it stays -/

def snapL (f : AV → Option AV) : List AV → Option (List AV)
  | [] => some []
  | v :: r => match f v, snapL f r with
    | some x, some xs => some (x :: xs)
    | _, _ => none

def snap (bs : List Blk) : Nat → AV → Option AV
  | 0, _ => none
  | k + 1, v => match v with
    | .gsl i len => match bs[i]? with
      | some (.grow _ _ xs) => if xs.length = len then some (.lst false xs) else none
      | _ => none
    | .ptr i o => match bs[i]? with
      | some (.cells cs) => if o < cs.length then (snapL (snap bs k) cs).map fun ds => .eptr [.agg ds] 0 o else none
      | _ => none
    | .slc i o sz len _ => match bs[i]? with
      | some (.rows sz' xs) => if sz' = sz ∧ o + len ≤ xs.length then (snapL (snap bs k) xs).map fun ds => .lst false ((ds.drop o).take len) else none
      | _ => none
    | .rptr .. => none
    | .map i => match bs[i]? with
      | some (.map es) => (snapL (snap bs k) (es.map Prod.snd)).map fun ds => .imap (es.map Prod.fst) ds
      | _ => none
    | .agg cs => (snapL (snap bs k) cs).map .agg
    | .tup cs => (snapL (snap bs k) cs).map .tup
    | .fn f cs => (snapL (snap bs k) cs).map (.fn f)
    | .nils => some (.lst false [])
    | .lst _ xs => some (.lst false xs)
    | .und | .yld _ | .optr .. | .oslc .. => none
    | v => some v

theorem snapL_get {f : AV → Option AV} : ∀ {vs xs : List AV}, snapL f vs = some xs → xs.length = vs.length ∧ ∀ (j : Nat) v x, vs[j]? = some v → xs[j]? = some x → f v = some x
  | [], xs, h => by simp only [snapL, Option.some.injEq] at h; subst h; simp
  | v :: r, xs, h => by
    simp only [snapL] at h
    split at h
    · rename_i x xs' h1 h2
      obtain rfl := Option.some.inj h
      obtain ⟨hl, hr⟩ := snapL_get h2
      refine ⟨by simp [hl], fun j y z hy hz => ?_⟩
      cases j with
      | zero => simp at hy hz; subst hy hz; exact h1
      | succ j => exact hr j y z (by simpa using hy) (by simpa using hz)
    · cases h

theorem snapL_map {α : Type} {f : AV → Option AV} {e g : α → AV} (l : List α) (h : ∀ x ∈ l, f (e x) = some (g x)) : snapL f (l.map e) = some (l.map g) := by
  induction l with
  | nil => rfl
  | cons x r ih => simp only [List.map_cons, snapL, h x (by simp), ih fun y hy => h y (by simp [hy])]

open Classical in
/-- The cells that nobody writes, and all that is one's own as it lies. -/
noncomputable def zread (G : Ghost) (w : World) : ZM := fun c o => match G.Z c o with
  | some v => some v
  | none => if ∃ i, G.cl i = some c then rd w c o else none

theorem zread_le (G : Ghost) (w : World) : G.Z.le (zread G w) := fun c o v h => by simp [zread, h]
theorem zread_ok {G : Ghost} {bs : List Blk} {w : World} (hI : Inv G bs w) {c o : Nat} {v : Value} (h : zread G w c o = some v) : rd w c o = some v := by
  unfold zread at h
  split at h
  · rename_i u hu; obtain rfl := Option.some.inj h; exact hI.z c o _ hu
  · split at h
    · exact h
    · cases h

theorem R.gsl_lst {G : Ghost} {bs : List Blk} {w : World} (hI : Inv G bs w) {i len e sz : Nat} {xs : List AV} {cv : Value} (hb : bs[i]? = some (.grow e sz xs)) (hl : xs.length = len) (h : R G (.gsl i len) cv) : RI G.Z (.lst false xs) cv := by
  have hB := hI.blk i _ hb
  cases h with
  | imm _ _ h => cases h
  | gsl _ _ b l c hg =>
    obtain ⟨_, hsz, hcells, cs, hown, hcont, hz⟩ := hB.2 _ hg
    exact ri_of_row hsz hcells hown hcont fun c hc => (hz c hc).1
  | stale _ _ g b l c hg hn =>
    have := (hB.2 g hg).1
    omega
theorem R.slc_inv {G : Ghost} {i o sz len : Nat} {cap : Option Nat} {cv : Value} (h : R G (.slc i o sz len cap) cv) : ∃ c ccap, G.cl i = some c ∧ len ≤ ccap ∧ (∀ n, cap = some n → ccap = n) ∧ cv = .slice (some ⟨c, o * sz, none⟩) len ccap := by
  cases h with
  | imm _ _ h => cases h
  | slc _ _ _ _ _ c ccap h hl hc => exact ⟨c, ccap, h, hl, hc, rfl⟩

theorem R.map_inv {G : Ghost} {i : Nat} {cv : Value} (h : R G (.map i) cv) : ∃ c, G.cl i = some c ∧ cv = .map (some c) := by
  cases h with
  | imm _ _ h => cases h
  | map _ c h => exact ⟨c, h, rfl⟩

theorem R.ptr_inv {G : Ghost} {i o : Nat} {cv : Value} (h : R G (.ptr i o) cv) : ∃ c, G.cl i = some c ∧ cv = .pointer (some ⟨c, o, none⟩) := by
  cases h with
  | imm _ _ h => cases h
  | ptr _ _ c h => exact ⟨c, h, rfl⟩

theorem inv_cells {G : Ghost} {bs : List Blk} {w : World} (hI : Inv G bs w) {i c : Nat} {cs : List AV} (hb : bs[i]? = some (.cells cs)) (hc : G.cl i = some c) :
    ∃ arr e, w.heap[c]? = some (.cells arr e (0, 0)) ∧ cs.length ≤ arr.size ∧ (∀ (j : Nat) v cv, cs[j]? = some v → arr[j]? = some cv → R G v cv) ∧ ∀ o, G.Z c o = none :=
  (hI.blk i _ hb).2 c hc

theorem rd_cells {w : World} {c o : Nat} {arr : Array Value} {e : TypeId} (h : w.heap[c]? = some (.cells arr e (0, 0))) {v : Value} (hv : arr[o]? = some v) (hn : ∀ ks vs, v ≠ mapCode ks vs) : rd w c o = some v :=
  rd_of_cell (by simp [World.cell?, h, hv]) hn

theorem flat_get : ∀ (xs : List AV) (sz : Nat), (∀ (j : Nat) (x : AV), xs[j]? = some x → x.cells.length = sz) → ∀ (j q : Nat) (x : AV), xs[j]? = some x → q < sz → (flat xs)[j * sz + q]? = x.cells[q]?
  | [], _, _, j, _, _, h, _ => by simp at h
  | y :: r, sz, hl, 0, q, x, h, hq => by
    simp at h; subst h
    have h0 := hl 0 y rfl
    show (y.cells ++ flat r)[0 * sz + q]? = _
    rw [Nat.zero_mul, Nat.zero_add, List.getElem?_append_left (by omega)]
  | y :: r, sz, hl, j + 1, q, x, h, hq => by
    have h0 := hl 0 y rfl
    show (y.cells ++ flat r)[(j + 1) * sz + q]? = _
    rw [List.getElem?_append_right (by rw [h0, Nat.succ_mul]; omega), h0]
    have : (j + 1) * sz + q - sz = j * sz + q := by rw [Nat.succ_mul]; omega
    rw [this]
    exact flat_get r sz (fun j x hx => hl (j + 1) x (by simpa using hx)) j q x (by simpa using h) hq

theorem snap_cells {bs : List Blk} {k : Nat} {x y : AV} (h : snap bs k x = some y) : y.cells.length = x.cells.length := by
  cases k with
  | zero => cases h
  | succ k =>
    cases x with
    | agg cs =>
      simp only [snap] at h
      cases hd : snapL (snap bs k) cs with
      | none => simp [hd] at h
      | some ds => simp only [hd, Option.map_some, Option.some.injEq] at h; subst h; exact (snapL_get hd).1
    | _ =>
      simp only [snap] at h
      repeat' split at h
      all_goals first
        | cases h; done
        | (simp only [Option.some.injEq] at h; subst h; rfl)
        | (rw [Option.map_eq_some_iff] at h; obtain ⟨_, _, rfl⟩ := h; rfl)

theorem snap_cell {bs : List Blk} {k : Nat} {x y v u : AV} {q : Nat} (h : snap bs k x = some y) (hv : x.cells[q]? = some v) (hu : y.cells[q]? = some u) : ∃ k', k' ≤ k ∧ snap bs k' v = some u := by
  cases k with
  | zero => cases h
  | succ k =>
    cases x with
    | agg cs =>
      simp only [snap] at h
      cases hd : snapL (snap bs k) cs with
      | none => simp [hd] at h
      | some ds => simp only [hd, Option.map_some, Option.some.injEq] at h; subst h; exact ⟨k, by omega, (snapL_get hd).2 q v u hv hu⟩
    | _ =>
      refine ⟨k + 1, Nat.le_refl _, ?_⟩
      have h0 := lt_of_get hv
      simp only [AV.cells, List.length_singleton] at h0 hv
      have hq : q = 0 := by omega
      subst hq
      have hy : y.cells = [y] := by
        have hh := h
        simp only [snap] at hh
        repeat' split at hh
        all_goals first
          | cases hh; done
          | (simp only [Option.some.injEq] at hh; subst hh; rfl)
          | (rw [Option.map_eq_some_iff] at hh; obtain ⟨_, _, rfl⟩ := hh; rfl)
      rw [hy] at hu
      simp at hv hu
      subst hv hu
      exact h

theorem snap_ri {G : Ghost} {bs : List Blk} {w : World} (hI : Inv G bs w) : ∀ (k : Nat) {v x : AV} {cv : Value}, snap bs k v = some x → R G v cv → RI (zread G w) x cv := by
  intro k
  induction k using Nat.strongRecOn with
  | _ k ih0 =>
  cases k with
  | zero => intro v x cv hx; cases hx
  | succ k =>
    have ih' : ∀ k', k' ≤ k → ∀ {v x : AV} {cv : Value}, snap bs k' v = some x → R G v cv → RI (zread G w) x cv := fun k' h => ih0 k' (by omega)
    have ih : ∀ {v x : AV} {cv : Value}, snap bs k v = some x → R G v cv → RI (zread G w) x cv := ih' k (Nat.le_refl _)
    intro v x cv hx h
    have cellsOk : ∀ {i c : Nat} {cs ds : List AV}, bs[i]? = some (.cells cs) → G.cl i = some c → snapL (snap bs k) cs = some ds →
        ∀ (q : Nat) v, ds[q]? = some v → ∃ cv, zread G w c q = some cv ∧ RI (zread G w) v cv := fun {i c cs ds} hb hc hd q v hq => by
      obtain ⟨arr, e, hh, hl, hr, hz⟩ := inv_cells hI hb hc
      obtain ⟨hlen, hg⟩ := snapL_get hd
      have hq2 : q < cs.length := hlen ▸ lt_of_get hq
      have ex : ∃ i, G.cl i = some c := ⟨i, hc⟩
      have hri := ih (hg q cs[q] v (by simp [hq2]) hq) (hr q _ (arr[q]'(by omega)) (by simp [hq2]) (by simp))
      refine ⟨arr[q]'(by omega), ?_, hri⟩
      simp only [zread, hz q, ex, if_true]
      exact rd_cells hh (by simp) hri.no_code
    cases v with
    | gsl i len =>
      simp only [snap] at hx
      split at hx
      · rename_i e sz xs hb
        split at hx
        · rename_i hlen
          obtain rfl := Option.some.inj hx
          exact (h.gsl_lst hI hb hlen).mono (zread_le G w)
        · cases hx
      · cases hx
    | ptr i o =>
      obtain ⟨c, hc, rfl⟩ := h.ptr_inv
      simp only [snap] at hx
      split at hx
      · rename_i cs hb
        split at hx
        · rename_i ho
          cases hd : snapL (snap bs k) cs with
          | none => simp [hd] at hx
          | some ds =>
            simp only [hd, Option.map_some, Option.some.injEq] at hx
            subst hx
            have hlen := (snapL_get hd).1
            have hok := cellsOk hb hc hd
            have := RI.eptr (Z := zread G w) [.agg ds] 0 o ds.length c 0 (fun j y hy => by
                cases j with
                | zero => simp at hy; subst hy; rfl
                | succ j => simp at hy)
              (fun j y q u cu hy hq hcu => by
                cases j with
                | zero =>
                  simp at hy; subst hy
                  obtain ⟨cv', e1, e2⟩ := hok q u hq
                  rw [show 0 + 0 * ds.length + q = q by omega, e1] at hcu
                  exact (Option.some.inj hcu) ▸ e2
                | succ j => simp at hy)
              (fun j q hj hq => by
                have hj0 : j = 0 := by simp at hj; omega
                subst hj0
                obtain ⟨cv', e1, _⟩ := hok q ds[q] (by simp [hq])
                exact ⟨cv', by rw [show 0 + 0 * ds.length + q = q by omega]; exact e1⟩)
              (by simp) (by omega)
            simpa using this
        · cases hx
      · cases hx
    | rptr i j z o => simp [snap] at hx
    | slc i o sz len cap =>
      obtain ⟨c, ccap, hc, hle, _, rfl⟩ := h.slc_inv
      simp only [snap] at hx
      split at hx
      · rename_i sz' xs hb
        split at hx
        · rename_i ho
          obtain ⟨rfl, ho⟩ := ho
          cases hd : snapL (snap bs k) xs with
          | none => simp [hd] at hx
          | some ds =>
            simp only [hd, Option.map_some, Option.some.injEq] at hx
            subst hx
            obtain ⟨hC, h0, hsz⟩ := hI.blk i _ hb
            obtain ⟨arr, e, hh, hl, hr, hz⟩ := hC.2 c hc
            obtain ⟨hlen, hg⟩ := snapL_get hd
            have ex : ∃ i, G.cl i = some c := ⟨i, hc⟩
            have hzr : ∀ q (hq : q < arr.size), (∀ ks vs, arr[q] ≠ mapCode ks vs) → zread G w c q = some arr[q] := fun q hq hn => by
              simp only [zread, hz q, ex, if_true]
              exact rd_cells hh (by simp [hq]) hn
            have elem : ∀ (j : Nat) (y : AV), ((ds.drop o).take len)[j]? = some y → ∃ x, xs[o + j]? = some x ∧ snap bs k x = some y ∧ y.cells.length = x.cells.length ∧ x ∈ xs ∧ j < len := fun j y hy => by
              rw [List.getElem?_take] at hy
              split at hy
              · rename_i hj
                rw [List.getElem?_drop] at hy
                have hjl : o + j < xs.length := hlen ▸ lt_of_get hy
                have hx := List.getElem?_eq_getElem hjl
                have hs := hg (o + j) _ y hx hy
                exact ⟨_, hx, hs, snap_cells hs, List.getElem_mem hjl, hj⟩
              · cases hy
            have lk : ∀ (j : Nat) (x : AV), xs[j]? = some x → x.cells.length = sz' := fun j x hx => hsz x (List.mem_of_getElem? hx)
            have fl : ∀ (j q : Nat) (x : AV), xs[j]? = some x → q < sz' → (flat xs)[j * sz' + q]? = x.cells[q]? := fun j q x hx hq => flat_get xs sz' lk j q x hx hq
            have := RI.lst (Z := zread G w) false ((ds.drop o).take len) sz' c (o * sz') ccap (fun j y hy => by
                obtain ⟨x, h1, _, h3, h4, _⟩ := elem j y hy; rw [h3]; exact hsz x h4)
              (fun j y q u cu hy hq hcu => by
                obtain ⟨x, h1, h2, h3, h4, hj⟩ := elem j y hy
                have hqs : q < sz' := by rw [← hsz x h4, ← h3]; exact lt_of_get hq
                have e0 : o * sz' + j * sz' + q = (o + j) * sz' + q := by rw [Nat.add_mul]
                rw [e0] at hcu
                have hxq : x.cells[q]? = some (x.cells[q]'(by rw [hsz x h4]; exact hqs)) := List.getElem?_eq_getElem _
                have hfl := (fl (o + j) q x h1 hqs).trans hxq
                have hlt : (o + j) * sz' + q < arr.size := Nat.lt_of_lt_of_le (lt_of_get hfl) hl
                have hrr := hr _ _ _ hfl (Array.getElem?_eq_getElem hlt)
                rcases snap_cell h2 hxq hq with ⟨k', hle', hk'⟩
                have hri := ih' k' hle' hk' hrr
                rw [hzr _ hlt hri.no_code] at hcu
                exact (Option.some.inj hcu) ▸ hri)
              (fun j q hj hq => by
                have hj' : j < len ∧ o + j < xs.length := by simp at hj; omega
                have hx := List.getElem?_eq_getElem hj'.2
                have e0 : o * sz' + j * sz' + q = (o + j) * sz' + q := by rw [Nat.add_mul]
                have hxq : (xs[o + j]).cells[q]? = some ((xs[o + j]).cells[q]'(by rw [lk _ _ hx]; exact hq)) := List.getElem?_eq_getElem _
                have hfl := (fl (o + j) q _ hx hq).trans hxq
                have hlt : (o + j) * sz' + q < arr.size := Nat.lt_of_lt_of_le (lt_of_get hfl) hl
                have hrr := hr _ _ _ hfl (Array.getElem?_eq_getElem hlt)
                have hjd : o + j < ds.length := by omega
                have hs := hg (o + j) _ ds[o + j] hx (by simp [hjd])
                have hyq : (ds[o + j]).cells[q]? = some ((ds[o + j]).cells[q]'(by rw [snap_cells hs, lk _ _ hx]; exact hq)) := List.getElem?_eq_getElem _
                rcases snap_cell hs hxq hyq with ⟨k', hle', hk'⟩
                exact ⟨_, by rw [e0]; exact hzr _ hlt (ih' k' hle' hk' hrr).no_code⟩)
              (by simp; omega) (by simp)
            have hlen2 : ((ds.drop o).take len).length = len := by simp; omega
            rw [hlen2] at this
            exact this
        · cases hx
      · cases hx
    | map i =>
      obtain ⟨c, hc, rfl⟩ := h.map_inv
      simp only [snap] at hx
      split at hx
      · rename_i es hb
        cases hd : snapL (snap bs k) (es.map Prod.snd) with
        | none => simp [hd] at hx
        | some ds =>
          simp only [hd, Option.map_some, Option.some.injEq] at hx
          subst hx
          obtain ⟨hlen, hg⟩ := snapL_get hd
          obtain ⟨ents, clock, hh, hl, hr, hzn⟩ := (hI.blk i _ hb).2 c hc
          have ex : ∃ i, G.cl i = some c := ⟨i, hc⟩
          have hz : G.Z c 0 = none := hzn 0
          refine .imap (es.map Prod.fst) ds c (ents.toList.map (·.key)) (ents.toList.map (·.val)) ?_ (by simp [hl]) (by simp at hlen ⊢; omega) (by simp at hlen ⊢; omega) (fun j v cv e1 e2 => ?_) (fun j v cv e1 e2 => ?_)
          · simp only [zread, hz, ex, if_true]
            unfold rd; rw [hh]; simp
          · rw [List.getElem?_map, Option.map_eq_some_iff] at e1 e2
            obtain ⟨a, e1, rfl⟩ := e1
            obtain ⟨b, e2, rfl⟩ := e2
            exact (hr j a b e1 (by simpa using e2)).1.mono (zread_le G w)
          · have hj : j < es.length := by have := lt_of_get e1; simp at hlen; omega
            rw [List.getElem?_map, Option.map_eq_some_iff] at e2
            obtain ⟨b, e2, rfl⟩ := e2
            exact ih (hg j es[j].2 v (by simp [hj]) e1) (hr j es[j] b (by simp [hj]) (by simpa using e2)).2
      · cases hx
    | agg cs =>
      obtain ⟨vs, rfl, hl, hr⟩ := h.agg_inv
      simp only [snap] at hx
      cases hd : snapL (snap bs k) cs with
      | none => simp [hd] at hx
      | some ds =>
        simp only [hd, Option.map_some, Option.some.injEq] at hx
        subst hx
        obtain ⟨hlen, hg⟩ := snapL_get hd
        exact .agg ds vs (hl.trans hlen.symm) fun j v cv e1 e2 => ih (hg j (cs[j]'(hlen ▸ lt_of_get e1)) v (by simp) e1) (hr j _ cv (by simp) e2)
    | tup cs =>
      obtain ⟨vs, rfl, hl, hr⟩ := h.tup_inv
      simp only [snap] at hx
      cases hd : snapL (snap bs k) cs with
      | none => simp [hd] at hx
      | some ds =>
        simp only [hd, Option.map_some, Option.some.injEq] at hx
        subst hx
        obtain ⟨hlen, hg⟩ := snapL_get hd
        exact .tup ds vs (hl.trans hlen.symm) fun j v cv e1 e2 => ih (hg j (cs[j]'(hlen ▸ lt_of_get e1)) v (by simp) e1) (hr j _ cv (by simp) e2)
    | fn f cs =>
      obtain ⟨vs, rfl, hl, hr⟩ := h.fn_inv
      simp only [snap] at hx
      cases hd : snapL (snap bs k) cs with
      | none => simp [hd] at hx
      | some ds =>
        simp only [hd, Option.map_some, Option.some.injEq] at hx
        subst hx
        obtain ⟨hlen, hg⟩ := snapL_get hd
        exact .fn f ds vs (hl.trans hlen.symm) fun j v cv e1 e2 => ih (hg j (cs[j]'(hlen ▸ lt_of_get e1)) v (by simp) e1) (hr j _ cv (by simp) e2)
    | nils =>
      simp only [snap, Option.some.injEq] at hx; subst hx
      cases h with | imm _ _ h => cases h; exact .nilslice false _
    | lst ex xs =>
      simp only [snap, Option.some.injEq] at hx
      subst hx
      cases h with
      | imm _ _ h =>
        cases h with
        | nilslice => exact .nilslice false _
        | lst _ _ sz c o cap he hz hd hc hx => exact (RI.lst false xs sz c o cap he hz hd hc (by simp)).mono (zread_le G w)
    | und => simp [snap] at hx
    | yld l => simp [snap] at hx
    | optr i n j z o => simp [snap] at hx
    | oslc i n o z l c => simp [snap] at hx
    | int k n => simp only [snap, Option.some.injEq] at hx; subst hx; cases h with | imm _ _ h => exact h.mono (zread_le G w)
    | bool b => simp only [snap, Option.some.injEq] at hx; subst hx; cases h with | imm _ _ h => exact h.mono (zread_le G w)
    | str s => simp only [snap, Option.some.injEq] at hx; subst hx; cases h with | imm _ _ h => exact h.mono (zread_le G w)
    | nilp => simp only [snap, Option.some.injEq] at hx; subst hx; cases h with | imm _ _ h => exact h.mono (zread_le G w)
    | eptr xs i o => simp only [snap, Option.some.injEq] at hx; subst hx; cases h with | imm _ _ h => exact h.mono (zread_le G w)
    | nilmap => simp only [snap, Option.some.injEq] at hx; subst hx; cases h with | imm _ _ h => exact h.mono (zread_le G w)
    | nilfn => simp only [snap, Option.some.injEq] at hx; subst hx; cases h with | imm _ _ h => exact h.mono (zread_le G w)
    | imap ks vs => simp only [snap, Option.some.injEq] at hx; subst hx; cases h with | imm _ _ h => exact h.mono (zread_le G w)

/-- The results, read, are the value v: nobody writes what it holds any more. -/
def RetOk (P : Program) (fn : Func) (s : St) (v : AV) : Prop :=
  ∀ (G : Ghost) (w : World) (tmps : Array Value), EnvR G s.env tmps → Inv G s.bs w → ∃ cv v0 k, (results fn tmps).run P w = .ok cv w ∧ R G v0 cv ∧ snap s.bs k v0 = some v

def endT (P : Program) (fn : Func) (v : AV) : Exit → St → Prop
  | .normal, s | .ret, s => RetOk P fn s v
  | _, _ => False

theorem V_ok {P : Program} {f : FuncId} {fn : Func} {c : Code} {S : List AV → AV → Prop} (hf : P.funcs[f]? = some fn) (hb : fn.body = some c)
    (h : ∀ args v, S args v → args.length ≤ fn.ntmps ∧ T P fn.ntmps 0 c ⟨argEnv args 0, []⟩ (endT P fn v)) : VOk P f S := by
  intro Z w cargs args v hg hz hr hS
  obtain ⟨hlen, hT⟩ := h args v hS
  let G : Ghost := ⟨fun _ => none, fun _ => none, Z, hg⟩
  have hI : Inv G [] w := by
    refine ⟨fun i b hb => by simp at hb, fun i _ => ⟨rfl, rfl⟩, fun i j c h1 => ?_, hz⟩
    rcases h1 with h1 | ⟨g, h1, _⟩ <;> cases h1
  have own : ∀ i c, ¬ G.owns i c := fun i c hi => by rcases hi with hi | ⟨g, hi, _⟩ <;> cases hi
  refine calls_of_T (G := G) hf hb hI ⟨hr.1, fun j u c e1 e2 => .imm _ _ (hr.2 j u c e1 e2)⟩ hlen hT fun e s' q => ?_
  have fin : RetOk P fn s' v → ∀ (G' : Ghost) (w' : World) (tmps : Array Value), EnvR G' s'.env tmps → Inv G' s'.bs w' → G.le G' → Ev G w G' w' → ∃ cv, (results fn tmps).run P w' = .ok cv w' ∧ ∃ cv' Z', Ending.returned cv = .returned cv' ∧ VAfter Z w v cv' w' Z' := by
    intro hR G' w' tmps hE hI' hle hev
    obtain ⟨cv, v0, k, hrun, hr0, hsn⟩ := hR G' w' tmps hE hI'
    refine ⟨cv, hrun, cv, zread G' w', rfl, snap_ri hI' k hsn hr0, hev.os, hev.tape, hev.output, hev.size, fun c hc => hev.frame c hc fun i hi => own i c hi, hev.Z.trans (zread_le G' w'), fun c o x e => ?_, fun c o x e => zread_ok hI' e⟩
    have old : G'.Z c o = some x → Z c o = some x ∨ w.heap.size ≤ c := fun e => by
      rcases hev.newZ c o x e with e | e | ⟨i, hi⟩
      · exact .inl e
      · exact .inr e
      · exact absurd hi (own i c)
    unfold zread at e
    split at e
    · rename_i v1 e1
      obtain rfl := Option.some.inj e
      exact old e1
    · split at e
      · rename_i hc
        obtain ⟨i, hi⟩ := hc
        rcases hev.own i c (.inl hi) with h1 | ⟨j, hj⟩
        · exact .inr h1
        · exact absurd hj (own j c)
      · cases e
  cases e with
  | normal => exact ⟨.inl rfl, fin q⟩
  | ret => exact ⟨.inr rfl, fin q⟩
  | exit id => exact q.elim
  | goto l => exact q.elim
  | panic ch => exact q.elim
  | outgrown => exact q.elim

theorem ret1 {P : Program} {fn : Func} {s : St} {a : Nat} {v0 v : AV} (hr : fn.results = #[.tmp a]) (h0 : s.env.get a = some v0) (k : Nat) (h1 : snap s.bs k v0 = some v) : RetOk P fn s v := by
  intro G w tmps hE _
  obtain ⟨cv, e, r⟩ := hE a v0 h0
  exact ⟨cv, v0, k, by simp [results, hr, e], r, h1⟩

theorem rtup {G : Ghost} {vs : List AV} {cvs : List Value} (hl : cvs.length = vs.length) (h : ∀ (j : Nat) v c, vs[j]? = some v → cvs[j]? = some c → R G v c) : R G (.tup vs) (.tuple cvs.toArray) :=
  .tup vs _ (by simpa using hl) fun j v c e1 e2 => h j v c e1 (by simpa using e2)

theorem ret2 {P : Program} {fn : Func} {s : St} {a b : Nat} {v0 v1 v : AV} (hr : fn.results = #[.tmp a, .tmp b]) (h0 : s.env.get a = some v0) (h1 : s.env.get b = some v1)
    (k : Nat) (hi : snap s.bs k (.tup [v0, v1]) = some v) : RetOk P fn s v := by
  intro G w tmps hE _
  obtain ⟨c0, e0, r0⟩ := hE a v0 h0
  obtain ⟨c1, e1, r1⟩ := hE b v1 h1
  refine ⟨.tuple #[c0, c1], .tup [v0, v1], k, by simp [results, hr, e0, e1], ?_, hi⟩
  refine rtup (cvs := [c0, c1]) rfl fun j v c f1 f2 => ?_
  match j, f1, f2 with
  | 0, f1, f2 => simp at f1 f2; subst f1 f2; exact r0
  | 1, f1, f2 => simp at f1 f2; subst f1 f2; exact r1
  | j + 2, f1, f2 => simp at f1

theorem ret3 {P : Program} {fn : Func} {s : St} {a b c : Nat} {v0 v1 v2 v : AV} (hr : fn.results = #[.tmp a, .tmp b, .tmp c]) (h0 : s.env.get a = some v0) (h1 : s.env.get b = some v1) (h2 : s.env.get c = some v2)
    (k : Nat) (hi : snap s.bs k (.tup [v0, v1, v2]) = some v) : RetOk P fn s v := by
  intro G w tmps hE _
  obtain ⟨c0, e0, r0⟩ := hE a v0 h0
  obtain ⟨c1, e1, r1⟩ := hE b v1 h1
  obtain ⟨c2, e2, r2⟩ := hE c v2 h2
  refine ⟨.tuple #[c0, c1, c2], .tup [v0, v1, v2], k, by simp [results, hr, e0, e1, e2], ?_, hi⟩
  refine rtup (cvs := [c0, c1, c2]) rfl fun j v c f1 f2 => ?_
  match j, f1, f2 with
  | 0, f1, f2 => simp at f1 f2; subst f1 f2; exact r0
  | 1, f1, f2 => simp at f1 f2; subst f1 f2; exact r1
  | 2, f1, f2 => simp at f1 f2; subst f1 f2; exact r2
  | j + 3, f1, f2 => simp at f1

/-- The function is one with a body. -/
def Enters (P : Program) (f : FuncId) : Prop := ∀ args w, (callFunc f args).run P w = .ok (.enter f args) w

theorem enters {P : Program} {f : FuncId} {fn : Func} (hf : P.funcs[f]? = some fn) (hb : fn.body.isNone = false) (hn : (fn.name == "runtime.NumGoroutine") = false) : Enters P f := by
  intro args w
  unfold callFunc
  rw [Sem.run_bind, run_program, Result.andThen_ok]
  simp only [hf, hn, hb, Bool.false_eq_true, if_false]
  rfl

theorem evs_map {G : Ghost} {env : Env} {a : Act} (h : EnvR G env a.tmps) {xs : List Operand} {vs : List AV} (e : evs env xs = some vs) :
    (xs.toArray.map a.eval).size = vs.length ∧ ∀ (j : Nat) v c, vs[j]? = some v → (xs.toArray.map a.eval)[j]? = some c → R G v c := by
  obtain ⟨hl, hr⟩ := evs_r h e
  refine ⟨by simp [hl], fun j v c e1 e2 => ?_⟩
  simp only [Array.getElem?_map, List.getElem?_toArray, Option.map_eq_some_iff] at e2
  obtain ⟨x, hx, rfl⟩ := e2
  exact hr j v x e1 hx

theorem r_append {G : Ghost} {vs ws : List AV} {cvs cws : Array Value} (h1 : cvs.size = vs.length) (h2 : cws.size = ws.length)
    (r1 : ∀ (j : Nat) v c, vs[j]? = some v → cvs[j]? = some c → R G v c) (r2 : ∀ (j : Nat) v c, ws[j]? = some v → cws[j]? = some c → R G v c) :
    (cvs ++ cws).size = (vs ++ ws).length ∧ ∀ (j : Nat) v c, (vs ++ ws)[j]? = some v → (cvs ++ cws)[j]? = some c → R G v c := by
  refine ⟨by simp [h1, h2], fun j v c e1 e2 => ?_⟩
  rw [List.getElem?_append] at e1
  rw [Array.getElem?_append] at e2
  rw [h1] at e2
  split at e1
  · rename_i hj; rw [if_pos hj] at e2; exact r1 j v c e1 e2
  · rename_i hj; rw [if_neg hj] at e2; exact r2 _ v c e1 e2

theorem after_v {G : Ghost} {bs : List Blk} {w w' : World} {v : AV} {cv : Value} {Z' : ZM} (hI : Inv G bs w) (h : VAfter G.Z w v cv w' Z') : After G w v bs cv w' (G.setZ Z' h.zle) where
  r := .imm _ _ h.r
  inv := hI.later h.size h.frame h.zle h.znew h.zs
  le := ⟨fun _ _ e => e, fun _ g e => ⟨g, e, .inl rfl⟩, h.zle⟩
  ev := ⟨h.os, h.tape, h.output, h.size, h.zle, fun c o x e => by rcases h.znew c o x e with e | e; exact .inl e; exact .inr (.inl e),
    fun c hc _ => h.frame c hc, fun i c e => .inr ⟨i, e⟩, loop_of_same fun c hc => .inl (h.frame c hc)⟩

/-- A call of a function, or of a closure, with a contract from values to a value. -/
theorem op_call {P : Program} {o : Oper} {s : St} {x : Operand} {xs : List Operand} {ts : Array TypeId} {f : FuncId} {cap vs avs : List AV} {S : List AV → AV → Prop} {v : AV}
    (ho : o.op = .call { callee := .value x, args := xs.toArray, argTypes := ts }) (hx : ev s.env x = some (.fn f cap)) (hv : evs s.env xs = some vs)
    (hi : imms s.bs (vs ++ cap) = some avs) (hen : Enters P f) (hS : VOk P f S) (h : S avs v) : OpT P o s v s.bs := by
  refine OpT.of (by simp [ho]) ?_
  intro G w a hI hE K Q hK
  obtain ⟨cc, hfe, hcl, hcr⟩ := (ev_r hE hx).fn_inv
  obtain ⟨hal, har⟩ := evs_map hE hv
  obtain ⟨hbl, hbr⟩ := r_append hal hcl har hcr
  unfold Oper.wp execOp
  simp only [ho, resolve, invoke, hfe, Deferred.ofValue, Sem.run_bind, Sem.run_pure, Result.andThen_ok, Array.empty_append, hen _ w, Oper.upon]
  refine (hS G.Z w _ avs v G.ok hI.z ⟨hbl.trans (imms_get hi).1.symm, imms_ri hI hi hbr⟩ h).mono fun e w' ⟨cv, Z', he, hA⟩ => ?_
  subst he
  exact hK cv w' _ (after_v hI hA)

/-! ### a value of numbers alone -/

mutual
def scal : AV → Bool
  | .int _ _ | .bool _ | .str _ | .nilp | .nils | .nilmap | .nilfn => true
  | .agg cs => scals cs
  | .tup cs => scals cs
  | _ => false
def scals : List AV → Bool
  | [] => true
  | v :: r => match scal v with
    | true => scals r
    | false => false
end
theorem scals_get : ∀ {cs : List AV}, scals cs = true → ∀ (j : Nat) v, cs[j]? = some v → scal v = true
  | [], _, j, v, e => by simp at e
  | u :: r, h, j, v, e => by
    simp only [scals] at h
    split at h
    · rename_i hu
      cases j with
      | zero => simp at e; subst e; exact hu
      | succ j => exact scals_get h j v (by simpa using e)
    · cases h

theorem scal_ri {Z Z' : ZM} {v : AV} {cv : Value} (h : RI Z v cv) : scal v = true → RI Z' v cv := by
  induction h with
  | int k n => exact fun _ => .int k n
  | bool b => exact fun _ => .bool b
  | str s => exact fun _ => .str s
  | nilp => exact fun _ => .nilp
  | nils => exact fun _ => .nils
  | nilmap => exact fun _ => .nilmap
  | nilfn => exact fun _ => .nilfn
  | agg cs vs hl _ ih => exact fun hs => .agg cs vs hl fun j v cv e1 e2 => ih j v cv e1 e2 (scals_get (by simpa [scal] using hs) j v e1)
  | tup cs vs hl _ ih => exact fun hs => .tup cs vs hl fun j v cv e1 e2 => ih j v cv e1 e2 (scals_get (by simpa [scal] using hs) j v e1)
  | _ => intro hs; cases hs

theorem Inv.z_lt {G : Ghost} {bs : List Blk} {w : World} (h : Inv G bs w) {c o : Nat} {v : Value} (e : G.Z c o = some v) : c < w.heap.size := rd_lt (h.z c o v e)

/-- The same, where the function reads one's own blocks and hands back numbers alone. -/
theorem op_call_ro {P : Program} {o : Oper} {s : St} {x : Operand} {xs : List Operand} {ts : Array TypeId} {f : FuncId} {cap vs avs : List AV} {S : List AV → AV → Prop} {v : AV} (k : Nat)
    (ho : o.op = .call { callee := .value x, args := xs.toArray, argTypes := ts }) (hx : ev s.env x = some (.fn f cap)) (hv : evs s.env xs = some vs)
    (hi : snapL (snap s.bs k) (vs ++ cap) = some avs) (hen : Enters P f) (hS : VOk P f S) (h : S avs v) (hs : scal v = true) : OpT P o s v s.bs := by
  refine OpT.of (by simp [ho]) ?_
  intro G w a hI hE K Q hK
  obtain ⟨cc, hfe, hcl, hcr⟩ := (ev_r hE hx).fn_inv
  obtain ⟨hal, har⟩ := evs_map hE hv
  obtain ⟨hbl, hbr⟩ := r_append hal hcl har hcr
  unfold Oper.wp execOp
  simp only [ho, resolve, invoke, hfe, Deferred.ofValue, Sem.run_bind, Sem.run_pure, Result.andThen_ok, Array.empty_append, hen _ w, Oper.upon]
  obtain ⟨hsl, hsg⟩ := snapL_get hi
  refine (hS (zread G w) w _ avs v (G.ok.mono (zread_le G w)) (fun c o x e => zread_ok hI e) ⟨hbl.trans hsl.symm, fun j v c e1 e2 => ?_⟩ h).mono fun e w' ⟨cv, Z', he, hA⟩ => ?_
  · have hj : j < (vs ++ cap).length := hsl ▸ lt_of_get e1
    exact snap_ri hI k (hsg j (vs ++ cap)[j] v (List.getElem?_eq_getElem hj) e1) (hbr j _ c (List.getElem?_eq_getElem hj) e2)
  subst he
  have hz : ∀ c o v, G.Z c o = some v → rd w' c o = some v := fun c o v e => by
    rw [rd_of_frame (hA.frame c (hI.z_lt e))]; exact hI.z c o v e
  have hI' : Inv (G.setZ G.Z (.refl _)) s.bs w' := hI.later hA.size hA.frame (.refl _) (fun _ _ _ e => .inl e) hz
  exact hK cv w' G ⟨.imm _ _ (scal_ri hA.r hs), hI', .refl _, ⟨hA.os, hA.tape, hA.output, hA.size, .refl _, fun _ _ _ e => .inl e, fun c hc _ => hA.frame c hc, fun i c e => .inr ⟨i, e⟩, loop_of_same fun c hc => .inl (hA.frame c hc)⟩⟩

end
end Go.Proofs.YtelgmdljcbkniaaDoor.Ai
