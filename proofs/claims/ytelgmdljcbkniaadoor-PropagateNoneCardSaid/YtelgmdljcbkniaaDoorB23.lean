/- An interpreter of values for the model's code, base text 23: the dispatcher; regions; code. -/
import Derived.Test.YtelgmdljcbkniaaDoorB22
namespace Go.Proofs.YtelgmdljcbkniaaDoor.Ai
noncomputable section
open Go
set_option linter.unusedVariables false

def wop (X : Cx) (o : Op) (env : Env) (bs : List Blk) (K : Ef → Prop) : Prop := match o with
  | .move x => moveW (ev env x) K
  | .assign x => moveW (ev env x) K
  | .pick c a b => optP (ev env c) fun c => pickW c (ev env a) (ev env b) K
  | .alloc t => allocW X t bs K
  | .box _ x => boxW (ev env x) bs K
  | .build t ps => buildW X t ps.toList env K
  | .buildSlice t len ps => bsliceW X t len ps.toList env bs K
  | .load t x => optP (ev env x) fun p => loadW X t bs p K
  | .store t x y => optP (ev env x) fun p => optP (ev env y) fun v => storeW X t bs p v K
  | .nilCheck x => optP (ev env x) fun a => nilW a K
  | .binOp op t x y _ => optP (ev env x) fun a => optP (ev env y) fun b => binW X op t a b K
  | .unOp op _ x => optP (ev env x) fun a => unW op a K
  | .convert t u x => optP (ev env x) fun a => convW X t u a K
  | .makeFunc (.func f) ⟨[]⟩ xs => mkfW f xs.toList env K
  | .makeMap _ none => mkmapW bs K
  | .makeSlice t x y => optP (ev env x) fun a => optP (ev env y) fun b => mksW X t a b bs K
  | .fieldAddr t x j => optP (ev env x) fun p => fieldW X t j p K
  | .indexAddr t x y => optP (ev env x) fun p => optP (ev env y) fun i => idxW X t bs p i K
  | .index t x y => optP (ev env x) fun p => optP (ev env y) fun i => indexW X t p i K
  | .lookup t x y ok => optP (ev env x) fun m => optP (ev env y) fun k => LookT X t bs m k ok K
  | .mapUpdate t x y z => optP (ev env x) fun m => optP (ev env y) fun k => optP (ev env z) fun v => MapT X t bs m k v K
  | .extract x i => optP (ev env x) fun a => extrW a i K
  | .call c => callW X c env bs K
  | _ => False

theorem wop_ok {X : Cx} {o : Oper} {env : Env} {bs : List Blk} {K : Ef → Prop} (h : wop X o.op env bs K) : ∃ e, Sd X.P o env bs e ∧ K e := by
  generalize ho : o.op = op at h
  cases op <;> simp only [wop] at h
  case move x => exact moveW_ok (.inl ho) h
  case assign x => exact moveW_ok (.inr ho) h
  case pick c a b => obtain ⟨v, hv, h⟩ := optP_inv h; exact pickW_ok ho hv h
  case alloc t => exact allocW_ok ho h
  case box t x => exact boxW_ok ho h
  case build t ps => exact buildW_ok ho h
  case buildSlice t len ps => exact bsliceW_ok ho h
  case load t x => obtain ⟨v, hv, h⟩ := optP_inv h; exact loadW_ok ho hv h
  case store t x y => obtain ⟨v, hv, h⟩ := optP_inv h; obtain ⟨u, hu, h⟩ := optP_inv h; exact storeW_ok ho hv hu h
  case nilCheck x => obtain ⟨v, hv, h⟩ := optP_inv h; exact nilW_ok ho hv h
  case binOp op t x y t' => obtain ⟨v, hv, h⟩ := optP_inv h; obtain ⟨u, hu, h⟩ := optP_inv h; exact binW_ok ho hv hu h
  case unOp op t x => obtain ⟨v, hv, h⟩ := optP_inv h; exact unW_ok ho hv h
  case convert t u x => obtain ⟨v, hv, h⟩ := optP_inv h; exact convW_ok ho hv h
  case makeFunc fn first captured =>
    rcases first with ⟨first⟩
    cases fn with
    | func f =>
      cases first with
      | nil => exact mkfW_ok ho h
      | cons => exact h.elim
    | _ => exact h.elim
  case makeMap t r =>
    cases r with
    | none => exact mkmapW_ok ho h
    | some => exact h.elim
  case makeSlice t x y => obtain ⟨v, hv, h⟩ := optP_inv h; obtain ⟨u, hu, h⟩ := optP_inv h; exact mksW_ok ho hv hu h
  case fieldAddr t x j => obtain ⟨v, hv, h⟩ := optP_inv h; exact fieldW_ok ho hv h
  case indexAddr t x y => obtain ⟨v, hv, h⟩ := optP_inv h; obtain ⟨u, hu, h⟩ := optP_inv h; exact idxW_ok ho hv hu h
  case index t x y => obtain ⟨v, hv, h⟩ := optP_inv h; obtain ⟨u, hu, h⟩ := optP_inv h; exact indexW_ok ho hv hu h
  case lookup t x y ok => obtain ⟨v, hv, h⟩ := optP_inv h; obtain ⟨u, hu, h⟩ := optP_inv h; exact lookT_ok ho hv hu h
  case mapUpdate t x y z => obtain ⟨v, hv, h⟩ := optP_inv h; obtain ⟨u, hu, h⟩ := optP_inv h; obtain ⟨q, hq, h⟩ := optP_inv h; exact mapT_ok ho hv hu hq h
  case extract x i => obtain ⟨v, hv, h⟩ := optP_inv h; exact extrW_ok ho hv h
  case call c => exact callW_ok ho h

/-! ### regions -/

def slotsOf : List Operand → List Nat
  | [] => []
  | .tmp t :: r => t :: slotsOf r
  | _ :: r => slotsOf r

theorem ev_keep {env : Env} {xs : List Operand} : ∀ x ∈ xs, ev (env.keep (slotsOf xs)) x = ev env x := by
  have key : ∀ (l : List Nat) (t : Nat), t ∈ l → (env.keep l).get t = env.get t := by
    intro l
    induction l with
    | nil => intro t h; simp at h
    | cons a r ih =>
      intro t h
      simp only [Env.keep]
      cases hg : env.get a with
      | none =>
        simp only
        by_cases e : t = a
        · subst e
          by_cases hr : t ∈ r
          · exact ih t hr
          · rw [hg]
            have gen : ∀ l : List Nat, t ∉ l → (env.keep l).get t = none := by
              intro l
              induction l with
              | nil => intro _; rfl
              | cons b q ih2 =>
                intro hq
                simp only [List.mem_cons, not_or] at hq
                simp only [Env.keep]
                split
                · rw [Env.get_cons, if_neg fun e => hq.1 e.symm]; exact ih2 hq.2
                · exact ih2 hq.2
            exact gen r hr
        · exact ih t (by simpa [e] using h)
      | some v =>
        simp only [Env.get_cons]
        split
        · rename_i e; subst e; exact hg.symm
        · rename_i e; exact ih t (by rcases List.mem_cons.1 h with h | h; exact absurd h.symm e; exact h)
  intro x hx
  cases x with
  | tmp t =>
    refine key _ t ?_
    clear key
    induction xs with
    | nil => simp at hx
    | cons y r ih =>
      rcases List.mem_cons.1 hx with h | h
      · subst h; simp [slotsOf]
      · cases y <;> simp [slotsOf, ih h]
  | const => rfl
  | global => rfl
  | func => rfl

theorem keep_mem {env : Env} : ∀ (l : List Nat) (t : Nat) (u : AV), (env.keep l).get t = some u → env.get t = some u ∧ t ∈ l
  | [], t, u, h => by simp [Env.keep, Env.get] at h
  | a :: r, t, u, h => by
    simp only [Env.keep] at h
    split at h
    · rename_i v hv
      simp only [Env.get_cons] at h
      split at h
      · rename_i e; subst e; exact ⟨hv.trans h, by simp⟩
      · obtain ⟨h1, h2⟩ := keep_mem r t u h; exact ⟨h1, by simp [h2]⟩
    · obtain ⟨h1, h2⟩ := keep_mem r t u h; exact ⟨h1, by simp [h2]⟩

def putE (env : Env) (d : Option Nat) (v : AV) : Env := match d with
  | some d => (d, v) :: env
  | none => env

def putP (env : Env) (d : Option Nat) (v : AV) (K : Env → Prop) : Prop := match d with
  | some d => K ((d, v) :: env)
  | none => K env
theorem putP_inv {env : Env} {d : Option Nat} {v : AV} {K : Env → Prop} (h : putP env d v K) : K (putE env d v) := by cases d <;> exact h

/-- What an operation left: the slots, the store, what it read and wrote. -/
def behP (env : Env) (bs : List Blk) (gs : List Nat) (o : Oper) (acc : List Fp) (e : Ef) (K : Env → List Blk → List Fp → Prop) : Prop := match e with
  | ⟨v, pre, post⟩ => putP env o.dst v fun env' => updP bs post fun bs' => keysP pre fun kp => keysP post fun kq => K env' bs' ((gs ++ slotsOf o.op.operands.toList, kp, kq) :: acc)
theorem behP_inv {env : Env} {bs : List Blk} {gs : List Nat} {o : Oper} {acc : List Fp} {e : Ef} {K : Env → List Blk → List Fp → Prop} (h : behP env bs gs o acc e K) :
    K (putE env o.dst e.v) (upd bs e.post) ((gs ++ slotsOf o.op.operands.toList, e.pre.map Prod.fst, e.post.map Prod.fst) :: acc) := by
  obtain ⟨v, pre, post⟩ := e
  unfold behP at h
  simp only at h
  have h1 := putP_inv h
  have h2 := updP_inv h1
  have h3 := keysP_inv (K := fun kp => keysP post fun kq => K (putE env o.dst v) (upd bs post) ((gs ++ slotsOf o.op.operands.toList, kp, kq) :: acc)) h2
  exact keysP_inv (K := fun kq => K (putE env o.dst v) (upd bs post) ((gs ++ slotsOf o.op.operands.toList, pre.map Prod.fst, kq) :: acc)) h3

def wops (X : Cx) (all : List Oper) : List Oper → Env → List Blk → List Fp → (Env → List Blk → List Fp → Prop) → Prop
  | [], env, bs, acc, K => K env bs acc
  | o :: r, env, bs, acc, K => match o.guard with
    | none => wop X o.op env bs fun e => behP env bs [] o acc e fun env' bs' acc' => wops X all r env' bs' acc' K
    | some (j, want) => optP ((all[j]?).bind (·.dst)) fun d => optP (env.get d) fun g => match g with
      | .bool b => (match want with
        | true => boolP b (wop X o.op env bs fun e => behP env bs [d] o acc e fun env' bs' acc' => wops X all r env' bs' acc' K) (putP env o.dst (.tup []) fun env' => wops X all r env' bs (([d], [], []) :: acc) K)
        | false => boolP b (putP env o.dst (.tup []) fun env' => wops X all r env' bs (([d], [], []) :: acc) K) (wop X o.op env bs fun e => behP env bs [d] o acc e fun env' bs' acc' => wops X all r env' bs' acc' K))
      | .tup [] => putP env o.dst (.tup []) fun env' => wops X all r env' bs (([d], [], []) :: acc) K
      | _ => False

def dstOk (n : Nat) : List Oper → Bool
  | [] => true
  | o :: r => (match o.dst with | some d => Nat.blt d n | none => true) && dstOk n r
theorem dstOk_get {n : Nat} : ∀ {l : List Oper}, dstOk n l = true → ∀ o ∈ l, ∀ d, o.dst = some d → d < n
  | [], _, o, h, _, _ => by simp at h
  | a :: r, h, o, ho, d, hd => by
    simp only [dstOk, Bool.and_eq_true] at h
    rcases List.mem_cons.1 ho with e | e
    · subst e; have := h.1; rw [hd] at this; simpa [Nat.blt_eq] using this
    · exact dstOk_get h.2 o e d hd

theorem wops_dr {X : Cx} {n : Nat} {all : List Oper} : ∀ {l : List Oper} {env : Env} {bs : List Blk} {acc : List Fp} {K : Env → List Blk → List Fp → Prop}, dstOk n l = true → wops X all l env bs acc K →
    ∃ fs vs ps env' bs', Dr X.P n all.toArray l env bs fs vs ps env' bs' ∧ K env' bs' (fs.reverse ++ acc)
  | [], env, bs, acc, K, _, h => ⟨[], [], [], env, bs, .nil _ _, h⟩
  | o :: r, env, bs, acc, K, hd, h => by
    have hdst := dstOk_get hd o (by simp)
    have hd' : dstOk n r = true := by simp only [dstOk, Bool.and_eq_true] at hd; exact hd.2
    have hput : ∀ v, (St.put ⟨env, bs⟩ o.dst v).env = putE env o.dst v := fun v => by cases o.dst <;> rfl
    have skip : ∀ (d j : Nat) (want : Bool), o.guard = some (j, want) → ((all.toArray[j]?).bind (·.dst)) = some d → (env.get d = some (.bool !want) ∨ env.get d = some (.tup [])) →
        (putP env o.dst (.tup []) fun env' => wops X all r env' bs (([d], [], []) :: acc) K) → ∃ fs vs ps env' bs', Dr X.P n all.toArray (o :: r) env bs fs vs ps env' bs' ∧ K env' bs' (fs.reverse ++ acc) := by
      intro d j want hg hj he hk
      obtain ⟨fs, vs, ps, env', bs', hD, hK⟩ := wops_dr hd' (putP_inv hk)
      exact ⟨_, _, _, env', bs', .skip o r env bs [d] fs vs ps env' bs' (by rw [hg]; exact ⟨d, hj, he, by simp⟩) hdst (by rw [hput]; exact hD), by simpa using hK⟩
    have run : ∀ (gs : List Nat), (match o.guard with
        | none => True
        | some (j, want) => ∃ d, ((all.toArray[j]?).bind (·.dst)) = some d ∧ env.get d = some (.bool want) ∧ d ∈ gs) →
        wop X o.op env bs (fun e => behP env bs gs o acc e fun env' bs' acc' => wops X all r env' bs' acc' K) →
        ∃ fs vs ps env' bs', Dr X.P n all.toArray (o :: r) env bs fs vs ps env' bs' ∧ K env' bs' (fs.reverse ++ acc) := by
      intro gs hg hk
      obtain ⟨e, ⟨s1, s2, s3⟩, hk⟩ := wop_ok hk
      obtain ⟨fs, vs, ps, env', bs', hD, hK⟩ := wops_dr hd' (behP_inv hk)
      refine ⟨_, _, _, env', bs', .op o r env bs (env.keep (slotsOf o.op.operands.toList)) e.pre e.post e.v (gs ++ slotsOf o.op.operands.toList) fs vs ps env' bs' (fun t u ht => ?_) (has_iff.1 s1) ?_ hdst s2 (fun bs0 hb => s3 _ bs0 ev_keep (has_iff.2 hb)) (by rw [hput]; exact hD), by simpa using hK⟩
      · obtain ⟨h1, h2⟩ := keep_mem _ t u ht
        exact ⟨h1, List.mem_append.2 (.inr h2)⟩
      · split
        · trivial
        · rename_i j want e0
          rw [e0] at hg
          obtain ⟨d, g1, g2, g3⟩ := hg
          exact ⟨d, g1, g2, List.mem_append.2 (.inl g3)⟩
    simp only [wops] at h
    split at h
    · rename_i hg
      exact run [] (by rw [hg]; trivial) h
    · rename_i j want hg
      replace h := optP_inv h
      obtain ⟨d, hj, h⟩ := h
      replace h := optP_inv h
      obtain ⟨g, hgd, h⟩ := h
      have hj' : ((all.toArray[j]?).bind (·.dst)) = some d := by simpa using hj
      split at h
      · rename_i b
        cases want with
        | true =>
          simp only at h
          replace h := boolP_inv h
          rcases h with ⟨hb, h⟩ | ⟨hb, h⟩
          · subst hb; exact run [d] (by rw [hg]; exact ⟨d, hj', hgd, by simp⟩) h
          · subst hb; exact skip d j true hg hj' (.inl hgd) h
        | false =>
          simp only at h
          replace h := boolP_inv h
          rcases h with ⟨hb, h⟩ | ⟨hb, h⟩
          · subst hb; exact skip d j false hg hj' (.inl hgd) h
          · subst hb; exact run [d] (by rw [hg]; exact ⟨d, hj', hgd, by simp⟩) h
      · exact skip d j want hg hj' (.inr hgd) h
      · exact h.elim

theorem dr_run {P : Program} {n : Nat} {ops : Array Oper} {l : List Oper} {env : Env} {bs : List Blk} {fs : List Fp} {vs : List AV} {ps : List (List (Nat × Blk))} {env' : Env} {bs' : List Blk}
    (h : Dr P n ops l env bs fs vs ps env' bs') : Run P n ops l ⟨env, bs⟩ ⟨env', bs'⟩ := by
  induction h with
  | nil => exact .nil _
  | op o rest env bs envi pre post v rs fs vs ps env' bs' h1 h2 hg hd hp h k ih =>
    refine .op o rest _ v (upd bs post) _ ?_ hd (fun r G w a hI hE K Q hK => h bs h2 r G w a hI (fun t u e => hE t u (h1 t u e).1) K Q hK) ?_
    · split
      · trivial
      · rename_i j want e
        rw [e] at hg
        obtain ⟨d, g1, g2, _⟩ := hg
        exact ⟨d, g1, g2⟩
    · have : St.put ⟨env, upd bs post⟩ o.dst v = ⟨(St.put ⟨env, bs⟩ o.dst v).env, upd bs post⟩ := by cases o.dst <;> rfl
      rw [this]; exact ih
  | skip o rest env bs rs fs vs ps env' bs' hg hd k ih =>
    refine .skip o rest _ _ ?_ hd ?_
    · split
      · rename_i e; rw [e] at hg; exact hg.elim
      · rename_i j want e
        rw [e] at hg
        obtain ⟨d, g1, g2, _⟩ := hg
        exact ⟨d, g1, g2⟩
    · have : (⟨env, bs⟩ : St).put o.dst (.tup []) = ⟨(St.put ⟨env, bs⟩ o.dst (.tup [])).env, bs⟩ := by cases o.dst <;> rfl
      rw [this]; exact ih

/-- The bits of what must have come ahead of each operation. -/
def masks : List Oper → List Nat → List Nat
  | [], ms => ms
  | o :: r, ms => masks r (ms ++ [um ms o.after.toList])

/-! ### code -/

inductive LoopT {P : Program} {n m : Nat} {c : Code} (s : St) {Q : Exit → St → Prop} : Prop where
  | mk (h : T P n m (.loop c) s Q)
inductive RangeT {P : Program} {n m : Nat} {g : Operand} {ps : Array Tmp} {as c : Code} (f : Option AV) (s : St) {Q : Exit → St → Prop} : Prop where
  | mk (h : T P n m (.rangeFunc g ps as c) s Q)
inductive OrdT {ms : List Nat} {l : List Oper} {acc : List Fp} {K : Prop} : Prop where
  | mk (h : ordOk ms l acc.reverse 0 = true) (k : K)

def wpc (X : Cx) (n m : Nat) : Code → St → (Exit → St → Prop) → Prop
  | .skip, s, Q => Q .normal s
  | .label _, s, Q => Q .normal s
  | .exit i, s, Q => Q (.exit i) s
  | .ret, s, Q => Q .ret s
  | .region _ ops draw, s, Q => match draw, s with
    | false, ⟨env, bs⟩ => wops X ops.toList ops.toList env bs [] fun env bs _ => Q .normal ⟨env, bs⟩
    | true, ⟨env, bs⟩ => wops X ops.toList ops.toList env bs [] fun env bs acc => OrdT (ms := masks ops.toList []) (l := ops.toList) (acc := acc) (K := Q .normal ⟨env, bs⟩)
  | .seq a b, s, Q => wpc X n m a s fun e s' => match e with
    | .normal => wpc X n m b s' Q
    | e => Q e s'
  | .cond c a b, ⟨env, bs⟩, Q => optP (ev env c) fun v => match v with
    | .bool t => boolP t (wpc X n m a ⟨env, bs⟩ Q) (wpc X n m b ⟨env, bs⟩ Q)
    | _ => False
  | .block i c, s, Q => wpc X n m c s fun e s' => match e with
    | .exit j => boolP (Nat.beq j i) (Q .normal s') (Q (.exit j) s')
    | e => Q e s'
  | .scope c, s, Q => wpc X n m c s fun e s' => match e with
    | .goto _ => False
    | e => Q e s'
  | .loop c, s, Q => LoopT (P := X.P) (n := n) (m := m) (c := c) s (Q := Q)
  | .rangeFunc g ps as c, ⟨env, bs⟩, Q => RangeT (P := X.P) (n := n) (m := m) (g := g) (ps := ps) (as := as) (c := c) (ev env g) ⟨env, bs⟩ (Q := Q)
  | _, _, _ => False

def okCode (n : Nat) : Code → Bool
  | .region _ ops draw => dstOk n ops.toList && (!draw || msOk (masks ops.toList []) ops.toList 0)
  | .seq a b => okCode n a && okCode n b
  | .cond _ a b => okCode n a && okCode n b
  | .block _ c => okCode n c
  | .scope c => okCode n c
  | _ => true

theorem wpc_ok {X : Cx} {n m : Nat} : ∀ {c : Code} {s : St} {Q : Exit → St → Prop}, okCode n c = true → wpc X n m c s Q → T X.P n m c s Q
  | .skip, s, Q, _, h => T_skip h
  | .label _, s, Q, _, h => T_label h
  | .exit i, s, Q, _, h => T_exit h
  | .ret, s, Q, _, h => T_ret h
  | .region id ⟨ops⟩ draw, ⟨env, bs⟩, Q, ho, h => by
    simp only [okCode, Bool.and_eq_true] at ho
    cases draw with
    | false =>
      obtain ⟨fs, vs, ps, env', bs', hD, hK⟩ := wops_dr ho.1 h
      exact T_region (dr_run hD) hK
    | true =>
      obtain ⟨fs, vs, ps, env', bs', hD, hK⟩ := wops_dr ho.1 h
      obtain ⟨h1, h2⟩ := hK
      have hm : msOk (masks ops []) ops 0 = true := by simpa using ho.2
      exact T_drawn X.mix (masks ops []) hm ⟨fs, vs, ps, ⟨env', bs'⟩, hD, by simpa using h1, ⟨env', bs'⟩, .refl _ _ _, h2⟩
  | .seq a b, s, Q, ho, h => by
    simp only [okCode, Bool.and_eq_true] at ho
    refine T_seq (T_mono (wpc_ok ho.1 h) fun e s' q => ?_)
    cases e with
    | normal => exact wpc_ok ho.2 q
    | _ => exact q
  | .cond c a b, ⟨env, bs⟩, Q, ho, h => by
    simp only [okCode, Bool.and_eq_true] at ho
    obtain ⟨v, hv, h⟩ := optP_inv h
    split at h
    · rename_i t
      refine T_cond hv (fun e => ?_) (fun e => ?_)
      · subst e; exact wpc_ok ho.1 h
      · subst e; exact wpc_ok ho.2 h
    · exact h.elim
  | .block i c, s, Q, ho, h => by
    simp only [okCode] at ho
    refine T_block (T_mono (wpc_ok ho h) fun e s' q => ?_)
    cases e with
    | exit j =>
      simp only [inBlockT]
      replace q := boolP_inv q
      rcases q with ⟨hb, q⟩ | ⟨hb, q⟩
      · rw [hb]; exact q
      · rw [hb]; exact q
    | _ => exact q
  | .loop c, s, Q, _, h => h.1
  | .rangeFunc g ps as c, ⟨env, bs⟩, Q, _, h => h.1
  | .scope c, s, Q, ho, h => by
    simp only [okCode] at ho
    refine T_mono (Q := fun e s' => (match e with | .goto _ => False | e => Q e s')) (T_scope (wpc_ok ho h) fun l s q => q) fun e s' q => ?_
    cases e with
    | goto l => exact q.elim
    | _ => exact q
  | .goto _, _, _, _, h => h.elim
  | .refuse _, _, _, _, h => h.elim

end
end Go.Proofs.YtelgmdljcbkniaaDoor.Ai
