/- An interpreter of values for the model's code, base text 24: a table of types; a function's contract by evaluation. -/
import Derived.Test.YtelgmdljcbkniaaDoorB23
namespace Go.Proofs.YtelgmdljcbkniaaDoor.Ai
noncomputable section
open Go
set_option linter.unusedVariables false

inductive TT where
  | leaf
  | node (k : Nat) (v : TInfo) (l r : TT)
def TT.get (t : TT) : Nat → Option TInfo := TT.rec (fun _ => none) (fun k v _ _ ihl ihr n => Bool.rec (Bool.rec (ihr n) (ihl n) (Nat.ble (Nat.succ n) k)) (some v) (Nat.beq n k)) t
theorem TT.get_node (k : Nat) (v : TInfo) (l r : TT) (n : Nat) : (TT.node k v l r).get n = match Nat.beq n k with
    | true => some v
    | false => match Nat.ble (Nat.succ n) k with
      | true => l.get n
      | false => r.get n := by
  show (Bool.rec (Bool.rec (r.get n) (l.get n) (Nat.ble (Nat.succ n) k)) (some v) (Nat.beq n k) : Option TInfo) = _
  cases Nat.beq n k <;> cases Nat.ble (Nat.succ n) k <;> rfl
inductive TT.All (P : Program) : TT → Prop where
  | leaf : TT.All P .leaf
  | node {k : Nat} {v : TInfo} {l r : TT} (h : TOk P k v) (hl : TT.All P l) (hr : TT.All P r) : TT.All P (.node k v l r)
theorem TT.All.get {P : Program} {t : TT} (h : TT.All P t) : ∀ n i, t.get n = some i → TOk P n i := by
  induction h with
  | leaf => intro n i h; cases h
  | node h hl hr ih1 ih2 =>
    intro n i hg
    rw [TT.get_node] at hg
    split at hg
    · rename_i e
      obtain rfl := Nat.eq_of_beq_eq_true e
      obtain rfl := Option.some.inj hg
      exact h
    · split at hg
      · exact ih1 n i hg
      · exact ih2 n i hg

/-! ### the results -/

def resW (X : Cx) (s : St) : List ResultVar → (List AV → Prop) → Prop
  | [], K => K []
  | .tmp t :: r, K => optP (s.env.get t) fun v => resW X s r fun vs => K (v :: vs)
  | .cell a t :: r, K => optP (X.ti t) fun i => optP (s.env.get a) fun p => match p with
    | .ptr b k => cellsP (bat s.bs b) fun cs => boolP (isAggD i.desc)
      (boolP (lenGe cs (k + i.size)) (boolP (Nat.ble i.size 64) (copyP ((cs.drop k).take i.size) fun ds => resW X s r fun vs => K (.agg ds :: vs)) (resW X s r fun vs => K (.agg ((cs.drop k).take i.size) :: vs))) False)
      (optP (nth cs k) fun v => resW X s r fun vs => K (v :: vs))
    | _ => False

theorem resW_ok {X : Cx} {s : St} : ∀ {rvs : List ResultVar} {K : List AV → Prop}, resW X s rvs K → ∃ vs, ResAll X.P s rvs vs ∧ K vs
  | [], K, h => ⟨[], .nil, h⟩
  | .tmp t :: r, K, h => by
    obtain ⟨v, hv, h⟩ := optP_inv h
    obtain ⟨vs, h1, h2⟩ := resW_ok h
    exact ⟨_, .cons (.tmp t v hv) h1, h2⟩
  | .cell a t :: r, K, h => by
    obtain ⟨i, hi, h⟩ := optP_inv h
    replace h := optP_inv h
    obtain ⟨p, hp, h⟩ := h
    have ht := (X.ok t i hi).inf
    split at h
    · rename_i b k
      replace h := cellsP_inv h
      obtain ⟨cs, hb, h⟩ := h
      have hg := get_bat _ _ _ hb (by simp)
      replace h := boolP_inv h
      rcases h with ⟨hd, h⟩ | ⟨hd, h⟩
      · replace h := boolP_inv h
        rcases h with ⟨hl, h⟩ | ⟨_, h⟩
        · have h' : resW X s r fun vs => K (.agg ((cs.drop k).take i.size) :: vs) := by
            replace h := boolP_inv h
            rcases h with ⟨_, h⟩ | ⟨_, h⟩
            · exact copyP_inv (K := fun ds => resW X s r fun vs => K (.agg ds :: vs)) h
            · exact h
          obtain ⟨vs, h1, h2⟩ := resW_ok h'
          exact ⟨_, .cons (.agg a t b k _ _ _ _ cs _ ht hd hp hg (lenGe_inv hl) rfl) h1, h2⟩
        · exact h.elim
      · replace h := optP_inv h
        obtain ⟨v, hv, h⟩ := h
        rw [nth_eq] at hv
        obtain ⟨vs, h1, h2⟩ := resW_ok h
        exact ⟨_, .cons (.cell a t b k _ _ _ _ cs v ht hd hp hg hv) h1, h2⟩
    · exact h.elim

inductive RetT (bs : List Blk) (v0 v : AV) : Prop where
  | mk (k : Nat) (h : snap bs k v0 = some v)
inductive FinT (v0 : AV) (bs : List Blk) (v : AV) (bs' : List Blk) : Prop where
  | mk (h1 : v0 = v) (h2 : bs = bs')

def oneP : List AV → (AV → Prop) → Prop
  | [v], K => K v
  | vs, K => K (.tup vs)
theorem oneP_inv {vs : List AV} {K : AV → Prop} (h : oneP vs K) : K (one1 vs) := by
  match vs, h with
  | [], h => exact h
  | [v], h => exact h
  | _ :: _ :: _, h => exact h

/-- The slots at the start. -/
def argP : List AV → Nat → (Env → Prop) → Prop
  | [], _, K => K []
  | v :: r, k, K => argP r (k + 1) fun e => K ((k, v) :: e)
theorem argP_inv : ∀ {l : List AV} {k : Nat} {K : Env → Prop}, argP l k K → K (argEnv l k)
  | [], _, _, h => h
  | v :: r, k, K, h => argP_inv (l := r) (K := fun e => K ((k, v) :: e)) h

def endV (X : Cx) (rvs : List ResultVar) (v : AV) (e : Exit) (s : St) : Prop := match e with
  | .normal => resW X s rvs fun vs => oneP vs fun v0 => RetT s.bs v0 v
  | .ret => resW X s rvs fun vs => oneP vs fun v0 => RetT s.bs v0 v
  | _ => False
def endW (X : Cx) (rvs : List ResultVar) (v : AV) (bs' : List Blk) (e : Exit) (s : St) : Prop := match e with
  | .normal => resW X s rvs fun vs => oneP vs fun v0 => FinT v0 s.bs v bs'
  | .ret => resW X s rvs fun vs => oneP vs fun v0 => FinT v0 s.bs v bs'
  | _ => False

theorem V_of {X : Cx} {f : FuncId} {fn : Func} {c : Code} {args : List AV} {v : AV} (hf : X.P.funcs[f]? = some fn) (hb : fn.body = some c) (hen : Enters X.P f) (hok : okCode fn.ntmps c = true) (hl : Nat.ble args.length fn.ntmps = true)
    (h : argP args 0 fun env => wpc X fn.ntmps 0 c ⟨env, []⟩ (endV X fn.results.toList v)) : V X.P f args v :=
  ⟨hen, V_ok hf hb fun a u ⟨e1, e2⟩ => by
    subst e1 e2
    refine ⟨Nat.le_of_ble_eq_true hl, T_mono (wpc_ok hok (argP_inv h)) fun e s q => ?_⟩
    have fin : ∀ s, (resW X s fn.results.toList fun vs => oneP vs fun v0 => RetT s.bs v0 u) → RetOk X.P fn s u := fun s q => by
      obtain ⟨vs, h1, h2⟩ := resW_ok q
      obtain ⟨k, h3⟩ := oneP_inv h2
      exact retN (by simp) h1 k h3
    cases e with
    | normal => exact fin s q
    | ret => exact fin s q
    | _ => exact q.elim⟩

theorem F_of {X : Cx} {f : FuncId} {fn : Func} {c : Code} {args : List AV} {bs : List Blk} {v : AV} {bs' : List Blk} (hf : X.P.funcs[f]? = some fn) (hb : fn.body = some c) (hen : Enters X.P f) (hok : okCode fn.ntmps c = true) (hl : Nat.ble args.length fn.ntmps = true)
    (h : argP args 0 fun env => wpc X fn.ntmps bs.length c ⟨env, bs⟩ (endW X fn.results.toList v bs')) : F X.P f args bs v bs' :=
  ⟨hen, F_ok hf hb fun a b u b' ⟨e1, e2, e3, e4⟩ => by
    subst e1 e2 e3 e4
    refine ⟨Nat.le_of_ble_eq_true hl, T_mono (wpc_ok hok (argP_inv h)) fun e s q => ?_⟩
    have fin : ∀ s, (resW X s fn.results.toList fun vs => oneP vs fun v0 => FinT v0 s.bs u b') → (∀ (G : Ghost) (w : World) (tmps : Array Value), EnvR G s.env tmps → Inv G s.bs w → ∃ cv, (results fn tmps).run X.P w = .ok cv w ∧ R G u cv) ∧ s.bs = b' := fun s q => by
      obtain ⟨vs, h1, h2⟩ := resW_ok q
      obtain ⟨h3, h4⟩ := oneP_inv h2
      refine ⟨fun G w tmps hE hI => ?_, h4⟩
      obtain ⟨cv, e, r⟩ := results_run (fn := fn) (by simp) h1 hE hI
      exact ⟨cv, e, h3 ▸ r⟩
    cases e with
    | normal => exact fin s q
    | ret => exact fin s q
    | _ => exact q.elim⟩

/-! ### loops -/

/-- A loop: what holds at its head (told by x), a measure; each round, and how it is left. -/
theorem loopT {X : Cx} {n m : Nat} {c : Code} {A : Type} (inv : A → St) (μ : A → Nat) {s : St} {Q : Exit → St → Prop} (x0 : A) (hok : okCode n c = true) (h0 : Weak n m s (inv x0))
    (round : ∀ x, wpc X n m c (inv x) fun e s' => match e with
      | .normal => ∃ y, μ y < μ x ∧ Weak n m s' (inv y)
      | e => Q e s') : LoopT (P := X.P) (n := n) (m := m) (c := c) s (Q := Q) :=
  ⟨T_loop inv μ x0 h0 fun x => T_mono (wpc_ok hok (round x)) fun e s' q => by cases e <;> exact q⟩

end
end Go.Proofs.YtelgmdljcbkniaaDoor.Ai
