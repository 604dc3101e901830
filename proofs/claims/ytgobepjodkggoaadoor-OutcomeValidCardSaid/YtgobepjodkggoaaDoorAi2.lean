/- An interpreter of values for the model's code, text 2: what a piece of code does to the slots and the store, and the rules of its control flow. -/
import Derived.Test.YtgobepjodkggoaaDoorAi1
namespace Go.Proofs.YtgobepjodkggoaaDoor.Ai
open Go

abbrev Env := List (Nat × AV)
def Env.get : Env → Nat → Option AV
  | [], _ => none
  | (d, v) :: r, t => match Nat.beq d t with
    | true => some v
    | false => Env.get r t

theorem Env.get_cons (d : Nat) (v : AV) (r : Env) (t : Nat) : Env.get ((d, v) :: r) t = if d = t then some v else Env.get r t := by
  simp only [Env.get]
  cases h : Nat.beq d t with
  | true => simp [Nat.eq_of_beq_eq_true h]
  | false => simp [Nat.ne_of_beq_eq_false h]

/-- The slots and the store. -/
structure St where
  env : Env
  bs : List Blk

def St.put (s : St) (d : Option Nat) (v : AV) : St :=
  match d with
  | some d => { s with env := (d, v) :: s.env }
  | none => s

/-- The slots hold what the environment says. -/
def EnvR (G : Ghost) (env : Env) (tmps : Array Value) : Prop := ∀ t v, env.get t = some v → ∃ cv, tmps[t]? = some cv ∧ R G v cv

theorem EnvR.mono {G G' : Ghost} {env : Env} {tmps : Array Value} (h : EnvR G env tmps) (hg : G.le G') : EnvR G' env tmps :=
  fun t v e => let ⟨cv, e1, r⟩ := h t v e; ⟨cv, e1, r.mono hg⟩

theorem EnvR.put {G : Ghost} {env : Env} {tmps : Array Value} (h : EnvR G env tmps) {d : Nat} {v : AV} {cv : Value} (hd : d < tmps.size) (r : R G v cv) :
    EnvR G ((d, v) :: env) (tmps.setIfInBounds d cv) := by
  intro t u e
  simp only [Env.get_cons] at e
  split at e
  · rename_i hdt
    subst hdt
    obtain rfl : v = u := Option.some.inj e
    exact ⟨cv, by simp [hd], r⟩
  · rename_i hdt
    obtain ⟨cv', e1, r'⟩ := h t u e
    exact ⟨cv', by rw [Array.getElem?_setIfInBounds_ne hdt]; exact e1, r'⟩

def ofConst1 : Value → Option AV
  | .int k n => some (.int k n)
  | .bool b => some (.bool b)
  | .string s => some (.str s)
  | .pointer none => some .nilp
  | .slice none 0 0 => some .nils
  | .map none => some .nilmap
  | .nilFunc => some .nilfn
  | _ => none

def ofConsts : List Value → Option (List AV)
  | [] => some []
  | v :: r => match ofConst1 v, ofConsts r with
    | some x, some xs => some (x :: xs)
    | _, _ => none

def ofConst : Value → Option AV
  | .agg cs => (ofConsts cs.toList).map .agg
  | .tuple cs => if cs.size = 0 then some (.tup []) else none
  | v => ofConst1 v

theorem ofConst1_ri {Z : ZM} {v : Value} {x : AV} (h : ofConst1 v = some x) : RI Z x v := by
  unfold ofConst1 at h
  split at h <;> first
    | (obtain rfl := Option.some.inj h; constructor; done)
    | cases h

theorem ofConsts_ri {Z : ZM} : ∀ {vs : List Value} {xs : List AV}, ofConsts vs = some xs → xs.length = vs.length ∧ ∀ (j : Nat) x cv, xs[j]? = some x → vs[j]? = some cv → RI Z x cv
  | [], xs, h => by obtain rfl := Option.some.inj h; simp
  | v :: r, xs, h => by
    simp only [ofConsts] at h
    split at h
    · rename_i x xs' h1 h2
      obtain rfl := Option.some.inj h
      obtain ⟨hl, hr⟩ := ofConsts_ri (Z := Z) h2
      refine ⟨by simp [hl], fun j y cv hy hcv => ?_⟩
      cases j with
      | zero => simp at hy hcv; subst hy hcv; exact ofConst1_ri h1
      | succ j => exact hr j y cv (by simpa using hy) (by simpa using hcv)
    · cases h

theorem ofConst_ri {Z : ZM} {v : Value} {x : AV} (h : ofConst v = some x) : RI Z x v := by
  unfold ofConst at h
  split at h
  · rename_i cs
    cases hc : ofConsts cs.toList with
    | none => simp [hc] at h
    | some xs =>
      simp only [hc, Option.map_some, Option.some.injEq] at h
      subst h
      obtain ⟨hl, hr⟩ := ofConsts_ri (Z := Z) hc
      exact .agg xs cs (by simpa using hl.symm) fun j v cv hv hcv => hr j v cv hv (by simpa using hcv)
  · rename_i cs
    split at h
    · rename_i h0
      obtain rfl := Option.some.inj h
      exact .tup [] cs (by simpa using h0) (by simp)
    · cases h
  · exact ofConst1_ri h

/-- An operand's value. -/
def ev (env : Env) : Operand → Option AV
  | .tmp t => env.get t
  | .const v => ofConst v
  | .global g => (tableOf tables g).map fun cs => .eptr [.agg cs] 0 0
  | .func f => some (.fn f [])

theorem ev_r {G : Ghost} {env : Env} {a : Act} (h : EnvR G env a.tmps) {x : Operand} {v : AV} (e : ev env x = some v) : R G v (a.eval x) := by
  cases x with
  | tmp t =>
    obtain ⟨cv, e1, r⟩ := h t v e
    have : a.eval (.tmp t) = cv := by simp [Act.eval, e1]
    rw [this]; exact r
  | const c => exact .imm _ _ (ofConst_ri e)
  | global g =>
    simp only [ev, Option.map_eq_some_iff] at e
    obtain ⟨cs, e, rfl⟩ := e
    exact .imm _ _ (G.ok.ri e)
  | func f =>
    obtain rfl := Option.some.inj e
    exact .imm _ _ (.fn f [] #[] rfl (by simp))

def evs (env : Env) : List Operand → Option (List AV)
  | [] => some []
  | x :: r => match ev env x, evs env r with
    | some v, some vs => some (v :: vs)
    | _, _ => none

theorem evs_r {G : Ghost} {env : Env} {a : Act} (h : EnvR G env a.tmps) : ∀ {xs : List Operand} {vs : List AV}, evs env xs = some vs →
    vs.length = xs.length ∧ ∀ (j : Nat) v x, vs[j]? = some v → xs[j]? = some x → R G v (a.eval x)
  | [], vs, e => by obtain rfl := Option.some.inj e; simp
  | x :: r, vs, e => by
    simp only [evs] at e
    split at e
    · rename_i v vs' h1 h2
      obtain rfl := Option.some.inj e
      obtain ⟨hl, hr⟩ := evs_r h h2
      refine ⟨by simp [hl], fun j y z hy hz => ?_⟩
      cases j with
      | zero => simp at hy hz; subst hy hz; exact ev_r h h1
      | succ j => exact hr j y z (by simpa using hy) (by simpa using hz)
    · cases e

/-- What an operation must leave: its value, the store, and all that is elsewhere as it was. -/
structure After (G : Ghost) (w : World) (v : AV) (bs' : List Blk) (cv : Value) (w' : World) (G' : Ghost) : Prop where
  r : R G' v cv
  inv : Inv G' bs' w'
  le : G.le G'
  ev : Ev G w G' w'

/-- The operation, at these slots and this store, yields the value v and leaves the store bs'. -/
def OpT (P : Program) (o : Oper) (s : St) (v : AV) (bs' : List Blk) : Prop :=
  ∀ (G : Ghost) (w : World) (a : Act), Inv G s.bs w → EnvR G s.env a.tmps → ∀ (K : Act → World → Prop) (Q : Exit → Act → World → Prop),
    (∀ cv w' G', After G w v bs' cv w' G' → K (a.put o.dst cv) w') → o.wp P a w K Q

/-- A run of operations in the order of the text. -/
inductive Run (P : Program) (n : Nat) (ops : Array Oper) : List Oper → St → St → Prop where
  | nil (s : St) : Run P n ops [] s s
  | op (o : Oper) (rest : List Oper) (s : St) (v : AV) (bs' : List Blk) (s' : St)
      (hg : match o.guard with
        | none => True
        | some (j, want) => ∃ d, ((ops[j]?).bind (·.dst)) = some d ∧ s.env.get d = some (.bool want))
      (hd : ∀ d, o.dst = some d → d < n) (h : OpT P o s v bs') (k : Run P n ops rest (St.put ⟨s.env, bs'⟩ o.dst v) s') : Run P n ops (o :: rest) s s'
  | skip (o : Oper) (rest : List Oper) (s s' : St)
      (hg : match o.guard with
        | none => False
        | some (j, want) => ∃ d, ((ops[j]?).bind (·.dst)) = some d ∧ (s.env.get d = some (.bool !want) ∨ s.env.get d = some (.tup [])))
      (hd : ∀ d, o.dst = some d → d < n) (k : Run P n ops rest (s.put o.dst (.tup [])) s') : Run P n ops (o :: rest) s s'

/-- The frame of a function that was called in the world w0 with what G0 says: what holds at each point. -/
structure Holds (n m : Nat) (G0 : Ghost) (w0 : World) (s : St) (a : Act) (w : World) : Prop where
  st : ∃ G, EnvR G s.env a.tmps ∧ Inv G s.bs w ∧ G0.le G ∧ Ev G0 w0 G w
  df : a.defers = []
  sz : a.tmps.size = n
  fp : ∀ i, m ≤ i → G0.cl i = none ∧ G0.gr i = none

def T (P : Program) (n m : Nat) (c : Code) (s : St) (Q : Exit → St → Prop) : Prop :=
  ∀ G0 w0 a w, Holds n m G0 w0 s a w → c.wp P (fun e a' w' => ∃ s', Q e s' ∧ Holds n m G0 w0 s' a' w') a w

theorem R.bool_inv {G : Ghost} {b : Bool} {cv : Value} (h : R G (.bool b) cv) : cv = .bool b := by
  cases h with
  | imm _ _ h => cases h; rfl

theorem put_size (a : Act) (d : Option Nat) (v : Value) : (a.put d v).tmps.size = a.tmps.size := by cases d <;> simp [Act.put]
theorem put_defers (a : Act) (d : Option Nat) (v : Value) : (a.put d v).defers = a.defers := by cases d <;> rfl

theorem Holds.put {n m : Nat} {G0 : Ghost} {w0 : World} {s : St} {a : Act} {w : World} {G G' : Ghost} {w' : World} {v : AV} {bs' : List Blk} {cv : Value} {d : Option Nat}
    (hE : EnvR G s.env a.tmps) (h0 : G0.le G) (hv : Ev G0 w0 G w) (hdf : a.defers = []) (hsz : a.tmps.size = n) (hfp : ∀ i, m ≤ i → G0.cl i = none ∧ G0.gr i = none)
    (h : After G w v bs' cv w' G') (hd : ∀ k, d = some k → k < n) : Holds n m G0 w0 (St.put ⟨s.env, bs'⟩ d v) (a.put d cv) w' := by
  refine ⟨⟨G', ?_, ?_, h0.trans h.le, hv.trans h.ev⟩, by rw [put_defers]; exact hdf, by rw [put_size]; exact hsz, hfp⟩
  · cases d with
    | none => exact hE.mono h.le
    | some d => exact (hE.mono h.le).put (hsz ▸ hd d rfl) h.r
  · cases d <;> exact h.inv

theorem yielded_of {G : Ghost} {env : Env} {a : Act} (hE : EnvR G env a.tmps) {ops : Array Oper} {j d : Nat} {b : Bool} (hj : ((ops[j]?).bind (·.dst)) = some d) (he : env.get d = some (.bool b)) :
    yielded ops a.tmps j = some b := by
  obtain ⟨cv, e1, r⟩ := hE d _ he
  have := r.bool_inv
  subst this
  simp [yielded, hj, e1]

theorem yielded_undef {G : Ghost} {env : Env} {a : Act} (hE : EnvR G env a.tmps) {ops : Array Oper} {j d : Nat} (hj : ((ops[j]?).bind (·.dst)) = some d) (he : env.get d = some (.tup [])) :
    yielded ops a.tmps j = none := by
  obtain ⟨cv, e1, r⟩ := hE d _ he
  have : ∃ vs, cv = .tuple vs := by
    cases r with
    | imm _ _ h => cases h with | tup _ vs => exact ⟨vs, rfl⟩
    | tup _ vs => exact ⟨vs, rfl⟩
  obtain ⟨vs, rfl⟩ := this
  simp [yielded, hj, e1]

theorem run_ops {P : Program} {n m : Nat} {ops : Array Oper} {Q : Exit → Act → World → Prop} : ∀ {l : List Oper} {s s' : St}, Run P n ops l s s' → ∀ {k : Nat},
    (∀ j, l[j]? = ops[k + j]?) → k + l.length = ops.size → ∀ {G0 : Ghost} {w0 : World} {a : Act} {w : World}, Holds n m G0 w0 s a w →
    (∀ a' w', Holds n m G0 w0 s' a' w' → Q .normal a' w') → wpOps P ops Q ((List.range ops.size).drop k) a w := by
  intro l s s' h
  induction h with
  | nil s =>
    intro k _ hk G0 w0 a w H hQ
    have : (List.range ops.size).drop k = [] := by simp at hk ⊢; omega
    rw [this]
    exact hQ a w H
  | op o rest s v bs' s' hg hd h _ ih =>
    intro k hl hk G0 w0 a w H hQ
    have hlt : k < ops.size := by simp at hk; omega
    have hd0 : (List.range ops.size).drop k = k :: (List.range ops.size).drop (k + 1) := by
      rw [List.drop_eq_getElem_cons (by simpa using hlt)]; simp
    have ho : ops[k]? = some o := by simpa using (hl 0).symm
    obtain ⟨G, hE, hI, h0, hv⟩ := H.st
    rw [hd0]
    simp only [wpOps, ho]
    have hw : Region.wanted o (yielded ops a.tmps) = true := by
      unfold Region.wanted
      split at hg
      · rename_i hgd; simp [hgd]
      · rename_i j want hgd
        obtain ⟨d, hj, he⟩ := hg
        simp [hgd, yielded_of hE hj he]
    rw [if_pos hw]
    refine .inl (h G w a hI hE _ _ fun cv w' G' hA => ?_)
    refine ih (k := k + 1) (fun j => ?_) (by simp at hk; omega) (Holds.put (s := s) hE h0 hv H.df H.sz H.fp hA hd) hQ
    have := hl (j + 1)
    simpa [Nat.add_assoc, Nat.add_comm 1 j] using this
  | skip o rest s s' hg hd _ ih =>
    intro k hl hk G0 w0 a w H hQ
    have hlt : k < ops.size := by simp at hk; omega
    have hd0 : (List.range ops.size).drop k = k :: (List.range ops.size).drop (k + 1) := by
      rw [List.drop_eq_getElem_cons (by simpa using hlt)]; simp
    have ho : ops[k]? = some o := by simpa using (hl 0).symm
    obtain ⟨G, hE, hI, h0, hv⟩ := H.st
    rw [hd0]
    simp only [wpOps, ho]
    have hw : ¬ Region.wanted o (yielded ops a.tmps) = true := by
      unfold Region.wanted
      split at hg
      · exact hg.elim
      · rename_i j want hgd
        obtain ⟨d, hj, he | he⟩ := hg
        · simp [hgd, yielded_of hE hj he]
        · simp [hgd, yielded_undef hE hj he]
    rw [if_neg hw]
    refine ih (k := k + 1) (fun j => ?_) (by simp at hk; omega) (Holds.put (s := s) hE h0 hv H.df H.sz H.fp ⟨.imm _ _ (.tup [] #[] rfl (by simp)), hI, .refl _, .refl _ _⟩ hd) hQ
    have := hl (j + 1)
    simpa [Nat.add_assoc, Nat.add_comm 1 j] using this

/-- A region whose order is the text's. -/
theorem T_region {P : Program} {n m id : Nat} {ops : List Oper} {s s' : St} {Q : Exit → St → Prop} (h : Run P n ops.toArray ops s s') (hQ : Q .normal s') :
    T P n m (.region id ops.toArray false) s Q := by
  intro G0 w0 a w H
  refine wp_region ?_
  have := run_ops (P := P) (n := n) (Q := fun e a' w' => ∃ s', Q e s' ∧ Holds n m G0 w0 s' a' w') h (k := 0) (by simp) (by simp) H (fun _ _ H' => ⟨s', hQ, H'⟩)
  simpa using this

theorem T_mono {P : Program} {n m : Nat} {c : Code} {s : St} {Q Q' : Exit → St → Prop} (h : T P n m c s Q) (hq : ∀ e s, Q e s → Q' e s) : T P n m c s Q' :=
  fun G0 w0 a w H => wp_mono (h G0 w0 a w H) fun e _ _ ⟨s', q, H'⟩ => ⟨s', hq e s' q, H'⟩

theorem T_skip {P : Program} {n m : Nat} {s : St} {Q : Exit → St → Prop} (h : Q .normal s) : T P n m .skip s Q := fun _ _ _ _ H => wp_skip ⟨s, h, H⟩
theorem T_label {P : Program} {n m l : Nat} {s : St} {Q : Exit → St → Prop} (h : Q .normal s) : T P n m (.label l) s Q := fun _ _ _ _ H => wp_label ⟨s, h, H⟩
theorem T_exit {P : Program} {n m id : Nat} {s : St} {Q : Exit → St → Prop} (h : Q (.exit id) s) : T P n m (.exit id) s Q := fun _ _ _ _ H => wp_exit ⟨s, h, H⟩
theorem T_ret {P : Program} {n m : Nat} {s : St} {Q : Exit → St → Prop} (h : Q .ret s) : T P n m .ret s Q := fun _ _ _ _ H => wp_ret ⟨s, h, H⟩

/-- Behind a piece of code: where it goes on normally, what is asked there. -/
def thenT (next : St → Prop) (Q : Exit → St → Prop) : Exit → St → Prop
  | .normal, s => next s
  | e, s => Q e s

theorem T_seq {P : Program} {n m : Nat} {x y : Code} {s : St} {Q : Exit → St → Prop} (h : T P n m x s (thenT (fun s' => T P n m y s' Q) Q)) : T P n m (.seq x y) s Q := by
  intro G0 w0 a w H
  refine wp_seq (wp_mono (h G0 w0 a w H) fun e a' w' ⟨s', q, H'⟩ => ?_)
  cases e with
  | normal => exact q G0 w0 a' w' H'
  | exit id => exact ⟨s', q, H'⟩
  | goto l => exact ⟨s', q, H'⟩
  | ret => exact ⟨s', q, H'⟩
  | panic c => exact ⟨s', q, H'⟩
  | outgrown => exact ⟨s', q, H'⟩

theorem T_cond {P : Program} {n m : Nat} {c : Operand} {x y : Code} {s : St} {Q : Exit → St → Prop} {b : Bool} (hc : ev s.env c = some (.bool b))
    (ht : b = true → T P n m x s Q) (hf : b = false → T P n m y s Q) : T P n m (.cond c x y) s Q := by
  intro G0 w0 a w H
  obtain ⟨G, hE, -⟩ := H.st
  have h := (ev_r hE hc).bool_inv
  exact wp_cond_split h (fun e => ht e G0 w0 a w H) (fun e => hf e G0 w0 a w H)

def inBlockT (id : Nat) (Q : Exit → St → Prop) : Exit → St → Prop
  | .exit id', s => match Nat.beq id' id with
    | true => Q .normal s
    | false => Q (.exit id') s
  | e, s => Q e s

theorem T_block {P : Program} {n m id : Nat} {c : Code} {s : St} {Q : Exit → St → Prop} (h : T P n m c s (inBlockT id Q)) : T P n m (.block id c) s Q := by
  intro G0 w0 a w H
  refine wp_block (wp_mono (h G0 w0 a w H) fun e a' w' ⟨s', q, H'⟩ => ?_)
  cases e with
  | exit id' =>
    simp only [inBlockT] at q
    simp only [Exit.inBlock]
    cases hb : Nat.beq id' id with
    | true => rw [hb] at q; rw [if_pos (Nat.eq_of_beq_eq_true hb)]; exact ⟨s', q, H'⟩
    | false => rw [hb] at q; rw [if_neg (Nat.ne_of_beq_eq_false hb)]; exact ⟨s', q, H'⟩
  | normal => exact ⟨s', q, H'⟩
  | goto l => exact ⟨s', q, H'⟩
  | ret => exact ⟨s', q, H'⟩
  | panic c => exact ⟨s', q, H'⟩
  | outgrown => exact ⟨s', q, H'⟩

/-- What holds at s holds at s', too: s' says less. -/
def Weak (n m : Nat) (s s' : St) : Prop := ∀ G0 w0 a w, Holds n m G0 w0 s a w → Holds n m G0 w0 s' a w

theorem Weak.refl (n m : Nat) (s : St) : Weak n m s s := fun _ _ _ _ h => h
theorem Weak.trans {n m : Nat} {s s' s'' : St} (h : Weak n m s s') (k : Weak n m s' s'') : Weak n m s s'' := fun _ _ _ _ H => k _ _ _ _ (h _ _ _ _ H)
theorem T_weak {P : Program} {n m : Nat} {c : Code} {s s' : St} {Q : Exit → St → Prop} (hw : Weak n m s s') (h : T P n m c s' Q) : T P n m c s Q :=
  fun G0 w0 a w H => h G0 w0 a w (hw _ _ _ _ H)

/-- Fewer slots. -/
theorem Weak.env {n m : Nat} {env env' : Env} {bs : List Blk} (h : ∀ t v, env'.get t = some v → env.get t = some v) : Weak n m ⟨env, bs⟩ ⟨env', bs⟩ :=
  fun _ _ _ _ H => ⟨let ⟨G, hE, r⟩ := H.st; ⟨G, fun t v e => hE t v (h t v e), r⟩, H.df, H.sz, H.fp⟩

/-- The slots that are listed, alone. -/
def Env.keep (env : Env) : List Nat → Env
  | [] => []
  | t :: r => match env.get t with
    | some v => (t, v) :: Env.keep env r
    | none => Env.keep env r

theorem keep_get (env : Env) : ∀ (l : List Nat) (t : Nat) (v : AV), (env.keep l).get t = some v → env.get t = some v
  | [], t, v, h => by simp [Env.keep, Env.get] at h
  | a :: r, t, v, h => by
    simp only [Env.keep] at h
    split at h
    · rename_i u hu
      simp only [Env.get_cons] at h
      split at h
      · rename_i e; subst e; rw [hu, h]
      · exact keep_get env r t v h
    · exact keep_get env r t v h

theorem Weak.keep {n m : Nat} {env : Env} {bs : List Blk} (l : List Nat) : Weak n m ⟨env, bs⟩ ⟨env.keep l, bs⟩ := .env (keep_get env l)

/-- A loop: what holds at its head, told by x; each round that goes on lowers the measure. -/
theorem T_loop {P : Program} {n m : Nat} {c : Code} {X : Type} (inv : X → St) (μ : X → Nat) {s : St} {Q : Exit → St → Prop} (x0 : X) (h0 : Weak n m s (inv x0))
    (round : ∀ x, T P n m c (inv x) (thenT (fun s' => ∃ y, μ y < μ x ∧ Weak n m s' (inv y)) Q)) : T P n m (.loop c) s Q := by
  intro G0 w0 a w H b k cs
  have key : ∀ u x a w, μ x = u → Holds n m G0 w0 (inv x) a w →
      ∃ e a' w', (∃ s', Q e s' ∧ Holds n m G0 w0 s' a' w') ∧ Arrives P (lone (b.at a (.code c :: .inLoop c :: k)) cs w) b k cs e a' w' := by
    intro u
    induction u using Nat.strongRecOn with
    | _ u ih =>
      intro x a w hm hH
      obtain ⟨e, a1, w1, ⟨s', q, H'⟩, harr⟩ := round x G0 w0 a w hH b (.inLoop c :: k) cs
      cases e with
      | normal =>
        obtain ⟨y, hlt, hw⟩ := q
        obtain ⟨e2, a2, w2, hq2, harr2⟩ := ih (μ y) (hm ▸ hlt) y a1 w1 rfl (hw _ _ _ _ H')
        exact ⟨e2, a2, w2, hq2, .of_steps (Steps.trans harr (.one step_inLoop)) harr2⟩
      | exit id => exact ⟨_, a1, w1, ⟨s', q, H'⟩, .pass (x := .inLoop c) rfl (fun _ _ => .inl (by simp)) harr⟩
      | goto l => exact ⟨_, a1, w1, ⟨s', q, H'⟩, .pass (x := .inLoop c) rfl (fun _ _ => .inl (by simp)) harr⟩
      | ret => exact ⟨_, a1, w1, ⟨s', q, H'⟩, .pass (x := .inLoop c) rfl (fun _ _ => .inl (by simp)) harr⟩
      | panic ch => exact ⟨_, a1, w1, ⟨s', q, H'⟩, .pass (x := .inLoop c) rfl (fun _ _ => .inl (by simp)) harr⟩
      | outgrown => exact ⟨_, a1, w1, ⟨s', q, H'⟩, .pass (x := .inLoop c) rfl (fun _ _ => .inl (by simp)) harr⟩
  obtain ⟨e, a', w', hq, harr⟩ := key _ x0 a w rfl (h0 _ _ _ _ H)
  exact ⟨e, a', w', hq, .of_steps (.one step_loop) harr⟩

end Go.Proofs.YtgobepjodkggoaaDoor.Ai
