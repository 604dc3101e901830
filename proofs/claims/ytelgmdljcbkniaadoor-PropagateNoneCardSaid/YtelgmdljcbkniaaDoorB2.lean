/- An interpreter of values for the model's code, base text 2: what a piece of code does to the slots and the store, and the rules of its control flow. -/
import Derived.Test.YtelgmdljcbkniaaDoorB1
namespace Go.Proofs.YtelgmdljcbkniaaDoor.Ai
noncomputable section
open Go

/-- The slots and the store. -/
structure St where
  env : Env
  bs : List Blk

def St.put (s : St) (d : Option Nat) (v : AV) : St :=
  match d with
  | some d => { s with env := (d, v) :: s.env }
  | none => s

/-- The slots hold what the environment says. -/
def EnvR (G : Ghost) (env : Env) (tmps : Array Value) : Prop := ∀ t v, env.get t = some v → ∃ cv, tmps[t]? = some cv ∧ R G v cv

theorem EnvR.mono {G G' : Ghost} {env : Env} {tmps : Array Value} (h : EnvR G env tmps) (hg : G.le G') : EnvR G' env tmps :=
  fun t v e => let ⟨cv, e1, r⟩ := h t v e; ⟨cv, e1, r.mono hg⟩

theorem EnvR.put {G : Ghost} {env : Env} {tmps : Array Value} (h : EnvR G env tmps) {d : Nat} {v : AV} {cv : Value} (hd : d < tmps.size) (r : R G v cv) :
    EnvR G ((d, v) :: env) (tmps.setIfInBounds d cv) := by
  intro t u e
  simp only [Env.get_cons] at e
  split at e
  · rename_i hdt
    subst hdt
    obtain rfl : v = u := Option.some.inj e
    exact ⟨cv, by simp [hd], r⟩
  · rename_i hdt
    obtain ⟨cv', e1, r'⟩ := h t u e
    exact ⟨cv', by rw [Array.getElem?_setIfInBounds_ne hdt]; exact e1, r'⟩

def ofConst1 : Value → Option AV
  | .int k n => some (.int k n)
  | .bool b => some (.bool b)
  | .string s => some (.str s)
  | .pointer none => some .nilp
  | .slice none 0 0 => some .nils
  | .map none => some .nilmap
  | .nilFunc => some .nilfn
  | _ => none

def ofConsts : List Value → Option (List AV)
  | [] => some []
  | v :: r => match ofConst1 v, ofConsts r with
    | some x, some xs => some (x :: xs)
    | _, _ => none

def ofConst : Value → Option AV
  | .agg cs => (ofConsts cs.toList).map .agg
  | .tuple cs => if cs.size = 0 then some (.tup []) else none
  | v => ofConst1 v

theorem ofConst1_ri {Z : ZM} {v : Value} {x : AV} (h : ofConst1 v = some x) : RI Z x v := by
  unfold ofConst1 at h
  split at h <;> first
    | (obtain rfl := Option.some.inj h; constructor; done)
    | cases h

theorem ofConsts_ri {Z : ZM} : ∀ {vs : List Value} {xs : List AV}, ofConsts vs = some xs → xs.length = vs.length ∧ ∀ (j : Nat) x cv, xs[j]? = some x → vs[j]? = some cv → RI Z x cv
  | [], xs, h => by obtain rfl := Option.some.inj h; simp
  | v :: r, xs, h => by
    simp only [ofConsts] at h
    split at h
    · rename_i x xs' h1 h2
      obtain rfl := Option.some.inj h
      obtain ⟨hl, hr⟩ := ofConsts_ri (Z := Z) h2
      refine ⟨by simp [hl], fun j y cv hy hcv => ?_⟩
      cases j with
      | zero => simp at hy hcv; subst hy hcv; exact ofConst1_ri h1
      | succ j => exact hr j y cv (by simpa using hy) (by simpa using hcv)
    · cases h

theorem ofConst_ri {Z : ZM} {v : Value} {x : AV} (h : ofConst v = some x) : RI Z x v := by
  unfold ofConst at h
  split at h
  · rename_i cs
    cases hc : ofConsts cs.toList with
    | none => simp [hc] at h
    | some xs =>
      simp only [hc, Option.map_some, Option.some.injEq] at h
      subst h
      obtain ⟨hl, hr⟩ := ofConsts_ri (Z := Z) hc
      exact .agg xs cs (by simpa using hl.symm) fun j v cv hv hcv => hr j v cv hv (by simpa using hcv)
  · rename_i cs
    split at h
    · rename_i h0
      obtain rfl := Option.some.inj h
      exact .tup [] cs (by simpa using h0) (by simp)
    · cases h
  · exact ofConst1_ri h

/-- An operand's value. -/
def ev (env : Env) : Operand → Option AV
  | .tmp t => env.get t
  | .const v => ofConst v
  | .global g => (tableOf tables g).map fun cs => .eptr [.agg cs] 0 0
  | .func f => some (.fn f [])

theorem ev_r {G : Ghost} {env : Env} {a : Act} (h : EnvR G env a.tmps) {x : Operand} {v : AV} (e : ev env x = some v) : R G v (a.eval x) := by
  cases x with
  | tmp t =>
    obtain ⟨cv, e1, r⟩ := h t v e
    have : a.eval (.tmp t) = cv := by simp [Act.eval, e1]
    rw [this]; exact r
  | const c => exact .imm _ _ (ofConst_ri e)
  | global g =>
    simp only [ev, Option.map_eq_some_iff] at e
    obtain ⟨cs, e, rfl⟩ := e
    exact .imm _ _ (G.ok.ri e)
  | func f =>
    obtain rfl := Option.some.inj e
    exact .imm _ _ (.fn f [] #[] rfl (by simp))

def evs (env : Env) : List Operand → Option (List AV)
  | [] => some []
  | x :: r => match ev env x, evs env r with
    | some v, some vs => some (v :: vs)
    | _, _ => none

theorem evs_r {G : Ghost} {env : Env} {a : Act} (h : EnvR G env a.tmps) : ∀ {xs : List Operand} {vs : List AV}, evs env xs = some vs →
    vs.length = xs.length ∧ ∀ (j : Nat) v x, vs[j]? = some v → xs[j]? = some x → R G v (a.eval x)
  | [], vs, e => by obtain rfl := Option.some.inj e; simp
  | x :: r, vs, e => by
    simp only [evs] at e
    split at e
    · rename_i v vs' h1 h2
      obtain rfl := Option.some.inj e
      obtain ⟨hl, hr⟩ := evs_r h h2
      refine ⟨by simp [hl], fun j y z hy hz => ?_⟩
      cases j with
      | zero => simp at hy hz; subst hy hz; exact ev_r h h1
      | succ j => exact hr j y z (by simpa using hy) (by simpa using hz)
    · cases e

/-- What an operation must leave: its value, the store, and all that is elsewhere as it was. -/
structure After (G : Ghost) (w : World) (v : AV) (bs' : List Blk) (cv : Value) (w' : World) (G' : Ghost) : Prop where
  r : R G' v cv
  inv : Inv G' bs' w'
  le : G.le G'
  ev : Ev G w G' w'


/-- What a function's frame may lean on and what it owes to all that is elsewhere: what is so in every world that it comes to (X); the blocks that it may lay aside for its own loops (Y). -/
structure Prot (m : Nat) where
  X : Ghost → World → Prop
  Y : Nat → Prop
  go : ∀ G w G' w', X G w → Ev G w G' w' → (∀ i, i < m → ∀ c, G.cl i = some c → G'.cl i = some c) →
    (∀ i, i < m → ∀ g, G.gr i = some g → ∃ g', G'.gr i = some g' ∧ (g' = g ∨ g.n < g'.n)) → X G' w'
  fresh : ∀ G w D, X G w → w.heap.size ≤ D → Y D
  put : ∀ G w D o, X G w → Y D → (∀ i, ¬ G.owns i D) → (∀ o, rd w D o = none) → (∀ o', rd (w.putObj D o) D o' = none) → (∀ rec : Loop, w.heap[D]? ≠ some (Obj.loop rec)) → X G (w.putObj D o)

/-- The frame's own mark among its deferred calls. -/
def mark (D : Nat) : Deferred := { target := .collected D, args := #[] }

/-- The loops' blocks: they lie aside from the store. -/
structure Aside (Y : Nat → Prop) (r : Option Nat) (ds : List Deferred) (G : Ghost) (w : World) : Prop where
  ds : ∃ Ds : List Nat, ds = Ds.map mark ∧ Ds.Nodup ∧ ∀ D ∈ Ds, Y D ∧ w.heap[D]? = some (.deferred (some [])) ∧ ∀ i, ¬ G.owns i D
  rk : ∀ l, r = some l → ∃ rec : Loop, w.heap[l]? = some (Obj.loop rec)

theorem Aside.ev {Y : Nat → Prop} {r : Option Nat} {ds : List Deferred} {G G' : Ghost} {w w' : World} (h : Aside Y r ds G w) (e : Ev G w G' w') : Aside Y r ds G' w' := by
  have key : ∀ D (o : Obj), w.heap[D]? = some o → (∀ i, ¬ G.owns i D) → w'.heap[D]? = some o ∧ ∀ i, ¬ G'.owns i D := fun D o ho hn => by
    have hlt : D < w.heap.size := (Array.getElem?_eq_some_iff.1 ho).1
    refine ⟨(e.frame D hlt hn).trans ho, fun i hi => ?_⟩
    rcases e.own i D hi with h1 | ⟨j, h1⟩
    · omega
    · exact hn j h1
  obtain ⟨⟨Ds, e1, e2, e3⟩, h2⟩ := h
  refine ⟨⟨Ds, e1, e2, fun D hD => ?_⟩, fun l hl => ?_⟩
  · obtain ⟨h3, h4, h5⟩ := e3 D hD
    exact ⟨h3, key D _ h4 h5⟩
  · obtain ⟨rec, h3⟩ := h2 l hl
    exact e.loop l rec h3

def Wd (r : Option Nat) : Fence := { Fence.wide with round := r }

theorem callsW {r : Option Nat} {n : Nat} {P : Program} {f : FuncId} {args : Array Value} {w : World} {R : Ending → World → Prop} (h : Calls P f args w R) : CallsIn (Wd r) n P f args w R :=
  (callsIn_wide (n := n)).2 h

theorem wpIn_of_wp {P : Program} {o : Oper} {a : Act} {w : World} {K : Act → World → Prop} {Q : Exit → Act → World → Prop} {r : Option Nat} (hd : ∀ c, o.op ≠ .defer c) (h : o.wp P a w K Q) : o.wpIn (Wd r) 0 P a w K Q := by
  refine ⟨fun _ _ => trivial, ?_⟩
  rw [Oper.semAt_eq _ _ _ hd]
  unfold Oper.wp at h
  generalize (execOp a.eval o).run P w = x at *
  cases x with
  | ok x w' =>
    cases x <;> simp only [Oper.upon, Oper.uponIn] at h ⊢ <;> first
      | exact h
      | exact ⟨fun h => by simp [Wd, Fence.wide] at h, callsW h⟩
      | exact ⟨fun h => by simp [Wd, Fence.wide] at h, fun c cs _ => let ⟨v, w', r, s⟩ := h c cs; ⟨v, w', r, (stepsIn_wide.2 s : StepsIn (Machine.fenced _ Fence.wide) _ _ _)⟩⟩
      | exact h.elim
  | halt x w' => cases x <;> simp only [Oper.upon, Oper.uponIn] at h ⊢ <;> first | exact h | exact h.elim

/-- The operation, at these slots and this store, yields the value v and leaves the store bs'. -/
def OpT (P : Program) (o : Oper) (s : St) (v : AV) (bs' : List Blk) : Prop :=
  ∀ (r : Option Nat) (G : Ghost) (w : World) (a : Act), Inv G s.bs w → EnvR G s.env a.tmps → ∀ (K : Act → World → Prop) (Q : Exit → Act → World → Prop),
    (∀ cv w' G', After G w v bs' cv w' G' → K (a.put o.dst cv) w') → o.wpIn (Wd r) 0 P a w K Q

theorem OpT.of {P : Program} {o : Oper} {s : St} {v : AV} {bs' : List Blk} (hd : ∀ c, o.op ≠ .defer c)
    (h : ∀ (G : Ghost) (w : World) (a : Act), Inv G s.bs w → EnvR G s.env a.tmps → ∀ (K : Act → World → Prop) (Q : Exit → Act → World → Prop),
      (∀ cv w' G', After G w v bs' cv w' G' → K (a.put o.dst cv) w') → o.wp P a w K Q) : OpT P o s v bs' :=
  fun _ G w a hI hE K Q hK => wpIn_of_wp hd (h G w a hI hE K Q hK)

/-- A run of operations in the order of the text. -/
inductive Run (P : Program) (n : Nat) (ops : Array Oper) : List Oper → St → St → Prop where
  | nil (s : St) : Run P n ops [] s s
  | op (o : Oper) (rest : List Oper) (s : St) (v : AV) (bs' : List Blk) (s' : St)
      (hg : match o.guard with
        | none => True
        | some (j, want) => ∃ d, ((ops[j]?).bind (·.dst)) = some d ∧ s.env.get d = some (.bool want))
      (hd : ∀ d, o.dst = some d → d < n) (h : OpT P o s v bs') (k : Run P n ops rest (St.put ⟨s.env, bs'⟩ o.dst v) s') : Run P n ops (o :: rest) s s'
  | skip (o : Oper) (rest : List Oper) (s s' : St)
      (hg : match o.guard with
        | none => False
        | some (j, want) => ∃ d, ((ops[j]?).bind (·.dst)) = some d ∧ (s.env.get d = some (.bool !want) ∨ s.env.get d = some (.tup [])))
      (hd : ∀ d, o.dst = some d → d < n) (k : Run P n ops rest (s.put o.dst (.tup [])) s') : Run P n ops (o :: rest) s s'

/-- What holds at a point of a function's body. -/
structure Holds (n : Nat) {m : Nat} (X : Prot m) (r : Option Nat) (s : St) (a : Act) (w : World) : Prop where
  st : ∃ G, EnvR G s.env a.tmps ∧ Inv G s.bs w ∧ X.X G w ∧ Aside X.Y r a.defers G w
  sz : a.tmps.size = n

def T (P : Program) (n m : Nat) (c : Code) (s : St) (Q : Exit → St → Prop) : Prop :=
  ∀ (X : Prot m) r a w, Holds n X r s a w → c.wpIn (Wd r) 0 P (fun e a' w' => ∃ s', Q e s' ∧ Holds n X r s' a' w') a w

theorem R.bool_inv {G : Ghost} {b : Bool} {cv : Value} (h : R G (.bool b) cv) : cv = .bool b := by
  cases h with
  | imm _ _ h => cases h; rfl

theorem put_size (a : Act) (d : Option Nat) (v : Value) : (a.put d v).tmps.size = a.tmps.size := by cases d <;> simp [Act.put]
theorem put_defers (a : Act) (d : Option Nat) (v : Value) : (a.put d v).defers = a.defers := by cases d <;> rfl

theorem Prot.le {m : Nat} (X : Prot m) {G G' : Ghost} {w w' : World} (h : X.X G w) (e : Ev G w G' w') (l : G.le G') : X.X G' w' :=
  X.go G w G' w' h e (fun i _ c => l.cl i c) (fun i _ g => l.gr i g)

theorem Holds.put {n m : Nat} {X : Prot m} {r : Option Nat} {s : St} {a : Act} {w : World} {G G' : Ghost} {w' : World} {v : AV} {bs' : List Blk} {cv : Value} {d : Option Nat}
    (hE : EnvR G s.env a.tmps) (hx : X.X G w) (ha : Aside X.Y r a.defers G w) (hsz : a.tmps.size = n)
    (h : After G w v bs' cv w' G') (hd : ∀ k, d = some k → k < n) : Holds n X r (St.put ⟨s.env, bs'⟩ d v) (a.put d cv) w' := by
  refine ⟨⟨G', ?_, ?_, X.le hx h.ev h.le, by rw [put_defers]; exact ha.ev h.ev⟩, by rw [put_size]; exact hsz⟩
  · cases d with
    | none => exact hE.mono h.le
    | some d => exact (hE.mono h.le).put (hsz ▸ hd d rfl) h.r
  · cases d <;> exact h.inv

theorem yielded_of {G : Ghost} {env : Env} {a : Act} (hE : EnvR G env a.tmps) {ops : Array Oper} {j d : Nat} {b : Bool} (hj : ((ops[j]?).bind (·.dst)) = some d) (he : env.get d = some (.bool b)) :
    yielded ops a.tmps j = some b := by
  obtain ⟨cv, e1, r⟩ := hE d _ he
  have := r.bool_inv
  subst this
  simp [yielded, hj, e1]

theorem yielded_undef {G : Ghost} {env : Env} {a : Act} (hE : EnvR G env a.tmps) {ops : Array Oper} {j d : Nat} (hj : ((ops[j]?).bind (·.dst)) = some d) (he : env.get d = some (.tup [])) :
    yielded ops a.tmps j = none := by
  obtain ⟨cv, e1, r⟩ := hE d _ he
  have : ∃ vs, cv = .tuple vs := by
    cases r with
    | imm _ _ h => cases h with | tup _ vs => exact ⟨vs, rfl⟩
    | tup _ vs => exact ⟨vs, rfl⟩
  obtain ⟨vs, rfl⟩ := this
  simp [yielded, hj, e1]

theorem wanted_yes {G : Ghost} {env : Env} {a : Act} (hE : EnvR G env a.tmps) {ops : Array Oper} {o : Oper}
    (hg : match o.guard with
        | none => True
        | some (j, want) => ∃ d, ((ops[j]?).bind (·.dst)) = some d ∧ env.get d = some (.bool want)) : Region.wanted o (yielded ops a.tmps) = true := by
  unfold Region.wanted
  split at hg
  · rename_i hgd; simp [hgd]
  · rename_i j want hgd
    obtain ⟨d, hj, he⟩ := hg
    simp [hgd, yielded_of hE hj he]

theorem wanted_no {G : Ghost} {env : Env} {a : Act} (hE : EnvR G env a.tmps) {ops : Array Oper} {o : Oper}
    (hg : match o.guard with
        | none => False
        | some (j, want) => ∃ d, ((ops[j]?).bind (·.dst)) = some d ∧ (env.get d = some (.bool !want) ∨ env.get d = some (.tup []))) : ¬ Region.wanted o (yielded ops a.tmps) = true := by
  unfold Region.wanted
  split at hg
  · exact hg.elim
  · rename_i j want hgd
    obtain ⟨d, hj, he | he⟩ := hg
    · simp [hgd, yielded_of hE hj he]
    · simp [hgd, yielded_undef hE hj he]

theorem after_skip {G : Ghost} {bs : List Blk} {w : World} (hI : Inv G bs w) : After G w (.tup []) bs undef w G := ⟨.imm _ _ (.tup [] #[] rfl (by simp)), hI, .refl _, .refl _ _⟩

theorem run_ops {P : Program} {n m : Nat} {X : Prot m} {r : Option Nat} {ops : Array Oper} {Q : Exit → Act → World → Prop} : ∀ {l : List Oper} {s s' : St}, Run P n ops l s s' → ∀ {k : Nat},
    (∀ j, l[j]? = ops[k + j]?) → k + l.length = ops.size → ∀ {a : Act} {w : World}, Holds n X r s a w →
    (∀ a' w', Holds n X r s' a' w' → Q .normal a' w') → wpOpsIn (Wd r) 0 P ops Q ((List.range ops.size).drop k) a w := by
  intro l s s' h
  induction h with
  | nil s =>
    intro k _ hk a w H hQ
    have : (List.range ops.size).drop k = [] := by simp at hk ⊢; omega
    rw [this]
    exact hQ a w H
  | op o rest s v bs' s' hg hd h _ ih =>
    intro k hl hk a w H hQ
    have hlt : k < ops.size := by simp at hk; omega
    have hd0 : (List.range ops.size).drop k = k :: (List.range ops.size).drop (k + 1) := by
      rw [List.drop_eq_getElem_cons (by simpa using hlt)]; simp
    have ho : ops[k]? = some o := by simpa using (hl 0).symm
    obtain ⟨G, hE, hI, hx, ha⟩ := H.st
    rw [hd0]
    simp only [wpOpsIn, ho]
    rw [if_pos (wanted_yes hE hg)]
    refine h r G w a hI hE _ _ fun cv w' G' hA => ?_
    refine ih (k := k + 1) (fun j => ?_) (by simp at hk; omega) (Holds.put (s := s) hE hx ha H.sz hA hd) hQ
    have := hl (j + 1)
    simpa [Nat.add_assoc, Nat.add_comm 1 j] using this
  | skip o rest s s' hg hd _ ih =>
    intro k hl hk a w H hQ
    have hlt : k < ops.size := by simp at hk; omega
    have hd0 : (List.range ops.size).drop k = k :: (List.range ops.size).drop (k + 1) := by
      rw [List.drop_eq_getElem_cons (by simpa using hlt)]; simp
    have ho : ops[k]? = some o := by simpa using (hl 0).symm
    obtain ⟨G, hE, hI, hx, ha⟩ := H.st
    rw [hd0]
    simp only [wpOpsIn, ho]
    rw [if_neg (wanted_no hE hg)]
    refine ⟨fun _ _ => trivial, ih (k := k + 1) (fun j => ?_) (by simp at hk; omega) (Holds.put (s := s) hE hx ha H.sz (after_skip hI) hd) hQ⟩
    have := hl (j + 1)
    simpa [Nat.add_assoc, Nat.add_comm 1 j] using this

/-- A region whose order is the text's. -/
theorem T_region {P : Program} {n m id : Nat} {ops : List Oper} {s s' : St} {Q : Exit → St → Prop} (h : Run P n ops.toArray ops s s') (hQ : Q .normal s') :
    T P n m (.region id ops.toArray false) s Q := by
  intro X r a w H
  refine wpIn_region ?_
  have := run_ops (P := P) (n := n) (Q := fun e a' w' => ∃ s', Q e s' ∧ Holds n X r s' a' w') h (k := 0) (by simp) (by simp) H (fun _ _ H' => ⟨s', hQ, H'⟩)
  simpa using this

theorem T_mono {P : Program} {n m : Nat} {c : Code} {s : St} {Q Q' : Exit → St → Prop} (h : T P n m c s Q) (hq : ∀ e s, Q e s → Q' e s) : T P n m c s Q' :=
  fun X r a w H => wpIn_mono (h X r a w H) fun e _ _ ⟨s', q, H'⟩ => ⟨s', hq e s' q, H'⟩

theorem T_skip {P : Program} {n m : Nat} {s : St} {Q : Exit → St → Prop} (h : Q .normal s) : T P n m .skip s Q := fun _ _ _ _ H => wpIn_skip ⟨s, h, H⟩
theorem T_label {P : Program} {n m l : Nat} {s : St} {Q : Exit → St → Prop} (h : Q .normal s) : T P n m (.label l) s Q := fun _ _ _ _ H => wpIn_label ⟨s, h, H⟩
theorem T_exit {P : Program} {n m id : Nat} {s : St} {Q : Exit → St → Prop} (h : Q (.exit id) s) : T P n m (.exit id) s Q := fun _ _ _ _ H => wpIn_exit ⟨s, h, H⟩
theorem T_ret {P : Program} {n m : Nat} {s : St} {Q : Exit → St → Prop} (h : Q .ret s) : T P n m .ret s Q := fun _ _ _ _ H => wpIn_ret ⟨s, h, H⟩

/-- Behind a piece of code: where it goes on normally, what is asked there. -/
def thenT (next : St → Prop) (Q : Exit → St → Prop) : Exit → St → Prop
  | .normal, s => next s
  | e, s => Q e s

theorem T_seq {P : Program} {n m : Nat} {x y : Code} {s : St} {Q : Exit → St → Prop} (h : T P n m x s (thenT (fun s' => T P n m y s' Q) Q)) : T P n m (.seq x y) s Q := by
  intro X r a w H
  refine wpIn_seq (wpIn_mono (h X r a w H) fun e a' w' ⟨s', q, H'⟩ => ?_)
  cases e with
  | normal => exact q X r a' w' H'
  | exit id => exact ⟨s', q, H'⟩
  | goto l => exact ⟨s', q, H'⟩
  | ret => exact ⟨s', q, H'⟩
  | panic c => exact ⟨s', q, H'⟩
  | outgrown => exact ⟨s', q, H'⟩

theorem T_cond {P : Program} {n m : Nat} {c : Operand} {x y : Code} {s : St} {Q : Exit → St → Prop} {b : Bool} (hc : ev s.env c = some (.bool b))
    (ht : b = true → T P n m x s Q) (hf : b = false → T P n m y s Q) : T P n m (.cond c x y) s Q := by
  intro X r a w H
  obtain ⟨G, hE, -⟩ := H.st
  have h := (ev_r hE hc).bool_inv
  exact wpIn_cond_split h (fun e => ht e X r a w H) (fun e => hf e X r a w H)

def inBlockT (id : Nat) (Q : Exit → St → Prop) : Exit → St → Prop
  | .exit id', s => match Nat.beq id' id with
    | true => Q .normal s
    | false => Q (.exit id') s
  | e, s => Q e s

theorem T_block {P : Program} {n m id : Nat} {c : Code} {s : St} {Q : Exit → St → Prop} (h : T P n m c s (inBlockT id Q)) : T P n m (.block id c) s Q := by
  intro X r a w H
  refine wpIn_block (wpIn_mono (h X r a w H) fun e a' w' ⟨s', q, H'⟩ => ?_)
  cases e with
  | exit id' =>
    simp only [inBlockT] at q
    simp only [Exit.inBlock]
    cases hb : Nat.beq id' id with
    | true => rw [hb] at q; rw [if_pos (Nat.eq_of_beq_eq_true hb)]; exact ⟨s', q, H'⟩
    | false => rw [hb] at q; rw [if_neg (Nat.ne_of_beq_eq_false hb)]; exact ⟨s', q, H'⟩
  | normal => exact ⟨s', q, H'⟩
  | goto l => exact ⟨s', q, H'⟩
  | ret => exact ⟨s', q, H'⟩
  | panic c => exact ⟨s', q, H'⟩
  | outgrown => exact ⟨s', q, H'⟩

/-- What holds at s holds at s', too: s' says less. -/
def Weak (n m : Nat) (s s' : St) : Prop := ∀ (X : Prot m) r a w, Holds n X r s a w → Holds n X r s' a w

theorem Weak.refl (n m : Nat) (s : St) : Weak n m s s := fun _ _ _ _ h => h
theorem Weak.trans {n m : Nat} {s s' s'' : St} (h : Weak n m s s') (k : Weak n m s' s'') : Weak n m s s'' := fun _ _ _ _ H => k _ _ _ _ (h _ _ _ _ H)
theorem T_weak {P : Program} {n m : Nat} {c : Code} {s s' : St} {Q : Exit → St → Prop} (hw : Weak n m s s') (h : T P n m c s' Q) : T P n m c s Q :=
  fun X r a w H => h X r a w (hw _ _ _ _ H)

/-- Fewer slots. -/
theorem Weak.env {n m : Nat} {env env' : Env} {bs : List Blk} (h : ∀ t v, env'.get t = some v → env.get t = some v) : Weak n m ⟨env, bs⟩ ⟨env', bs⟩ :=
  fun _ _ _ _ H => ⟨let ⟨G, hE, r⟩ := H.st; ⟨G, fun t v e => hE t v (h t v e), r⟩, H.sz⟩

/-- The slots that are listed, alone. -/
def Env.keep (env : Env) : List Nat → Env
  | [] => []
  | t :: r => match env.get t with
    | some v => (t, v) :: Env.keep env r
    | none => Env.keep env r

theorem keep_get (env : Env) : ∀ (l : List Nat) (t : Nat) (v : AV), (env.keep l).get t = some v → env.get t = some v
  | [], t, v, h => by simp [Env.keep, Env.get] at h
  | a :: r, t, v, h => by
    simp only [Env.keep] at h
    split at h
    · rename_i u hu
      simp only [Env.get_cons] at h
      split at h
      · rename_i e; subst e; rw [hu, h]
      · exact keep_get env r t v h
    · exact keep_get env r t v h

theorem Weak.keep {n m : Nat} {env : Env} {bs : List Blk} (l : List Nat) : Weak n m ⟨env, bs⟩ ⟨env.keep l, bs⟩ := .env (keep_get env l)

/-- A loop: what holds at its head, told by x; each round that goes on lowers the measure. -/
theorem T_loop {P : Program} {n m : Nat} {c : Code} {A : Type} (inv : A → St) (μ : A → Nat) {s : St} {Q : Exit → St → Prop} (x0 : A) (h0 : Weak n m s (inv x0))
    (round : ∀ x, T P n m c (inv x) (thenT (fun s' => ∃ y, μ y < μ x ∧ Weak n m s' (inv y)) Q)) : T P n m (.loop c) s Q := by
  intro X r a w H b k cs hro hb hr
  have key : ∀ u x a w, μ x = u → Holds n X r (inv x) a w →
      ∃ e a' w', (∃ s', Q e s' ∧ Holds n X r s' a' w') ∧ ArrivesIn (Machine.fenced P (Wd r)) P (lone (b.atR a (.code c :: .inLoop c :: k)) cs w) b k cs e a' w' := by
    intro u
    induction u using Nat.strongRecOn with
    | _ u ih =>
      intro x a w hm hH
      obtain ⟨e, a1, w1, ⟨s', q, H'⟩, harr⟩ := round x X r a w hH b (.inLoop c :: k) cs hro hb hr
      cases e with
      | normal =>
        obtain ⟨y, hlt, hw⟩ := q
        obtain ⟨e2, a2, w2, hq2, harr2⟩ := ih (μ y) (hm ▸ hlt) y a1 w1 rfl (hw _ _ _ _ H')
        exact ⟨e2, a2, w2, hq2, .of_steps (StepsIn.trans harr (.one (fenced_calm hb hr rfl) stepR_inLoop)) harr2⟩
      | exit id => exact ⟨_, a1, w1, ⟨s', q, H'⟩, .pass (x := .inLoop c) rfl (fun _ _ => .inl (by simp)) harr⟩
      | goto l => exact ⟨_, a1, w1, ⟨s', q, H'⟩, .pass (x := .inLoop c) rfl (fun _ _ => .inl (by simp)) harr⟩
      | ret => exact ⟨_, a1, w1, ⟨s', q, H'⟩, .pass (x := .inLoop c) rfl (fun _ _ => .inl (by simp)) harr⟩
      | panic ch => exact ⟨_, a1, w1, ⟨s', q, H'⟩, .pass (x := .inLoop c) rfl (fun _ _ => .inl (by simp)) harr⟩
      | outgrown => exact ⟨_, a1, w1, ⟨s', q, H'⟩, .pass (x := .inLoop c) rfl (fun _ _ => .inl (by simp)) harr⟩
  obtain ⟨e, a', w', hq, harr⟩ := key _ x0 a w rfl (h0 _ _ _ _ H)
  exact ⟨e, a', w', hq, .of_steps (.one (fenced_calm hb hr rfl) stepR_loop) harr⟩

end
end Go.Proofs.YtelgmdljcbkniaaDoor.Ai
