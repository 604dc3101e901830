/- An interpreter of values for the model's code, base text 18: what is asked of a piece of code, reckoned by evaluation. -/
import Derived.Test.YtelgmdljcbkniaaDoorB17
namespace Go.Proofs.YtelgmdljcbkniaaDoor.Ai
noncomputable section
open Go
set_option linter.unusedVariables false

/-- What is used of a type. -/
structure TInfo where
  size : Nat
  bytes : Nat
  zero : Value
  zav : AV
  desc : TypeDesc
  offs : List Nat
  pl : List (Nat × Nat)

structure TOk (P : Program) (t : Nat) (i : TInfo) : Prop where
  inf : Inf P t i.size i.bytes i.zero i.desc
  zav : ofConst i.zero = some i.zav ∧ i.zav.cells.all AV.one = true ∧ i.zav.cells.length = i.size ∧ i.zero.cells.size = i.size
  offs : ∀ (j : Nat) off, i.offs[j]? = some off → ∃ fs f size bytes z d, i.desc = .struct fs ∧ fs[j]? = some f ∧ f.offset = off ∧ Inf P f.type size bytes z d ∧ (size == 0) = false
  pl : i.pl ≠ [] → ∃ fs, i.desc = .struct fs ∧ Places P fs i.pl

structure Cx where
  P : Program
  ti : Nat → Option TInfo
  ok : ∀ t i, ti t = some i → TOk P t i
  mix : P.follows .mixedOrders = true

/-! ### small steps of evaluation -/

/-- Where the evaluation has to know x: it stops here as long as x is not told. -/
def optQ {α : Type} {K : α → Prop} : Option α → List Unit → Prop
  | some v, [] => K v
  | none, [] => False
  | x, _ :: r => optQ (K := K) x r
@[reducible] def optP {α : Type} (x : Option α) (K : α → Prop) : Prop := optQ x (K := K) []
theorem optP_inv {α : Type} {x : Option α} {K : α → Prop} (h : optP x K) : ∃ v, x = some v ∧ K v := by
  cases x with
  | none => exact h.elim
  | some v => exact ⟨v, rfl, h⟩
theorem oK {α : Type} {x : Option α} {v : α} {K : α → Prop} (h : x = some v) (k : K v) : optP x K := by rw [h]; exact k

def boolQ {A B : Prop} : Bool → List Unit → Prop
  | true, [] => A
  | false, [] => B
  | b, _ :: r => boolQ (A := A) (B := B) b r
@[reducible] def boolP (b : Bool) (A B : Prop) : Prop := boolQ b (A := A) (B := B) []
theorem boolP_inv {b : Bool} {A B : Prop} (h : boolP b A B) : (b = true ∧ A) ∨ (b = false ∧ B) := by
  cases b with
  | true => exact .inl ⟨rfl, h⟩
  | false => exact .inr ⟨rfl, h⟩
theorem bT {b : Bool} {A B : Prop} (h : b = true) (k : A) : boolP b A B := by rw [h]; exact k
theorem bF {b : Bool} {A B : Prop} (h : b = false) (k : B) : boolP b A B := by rw [h]; exact k
theorem bS {b : Bool} {A B : Prop} (ht : b = true → A) (hf : b = false → B) : boolP b A B := by
  cases b with
  | true => exact ht rfl
  | false => exact hf rfl
theorem bD {p : Prop} [Decidable p] {A B : Prop} (ht : p → A) (hf : ¬p → B) : boolP (decide p) A B := by
  by_cases h : p
  · exact bT (decide_eq_true h) (ht h)
  · exact bF (decide_eq_false h) (hf h)

structure Chk (c K : Prop) : Prop where
  h : c
  k : K

def nth (l : List AV) : Nat → Option AV := List.rec (fun _ => none) (fun x _ ih n => Nat.rec (some x) (fun n _ => ih n) n) l
theorem nth_eq : ∀ (l : List AV) (n : Nat), nth l n = l[n]?
  | [], n => by simp [show nth [] n = none from rfl]
  | x :: r, 0 => rfl
  | x :: r, n + 1 => by rw [show nth (x :: r) (n + 1) = nth r n from rfl, nth_eq r n]; simp

/-- The element at an index. -/
def idxL (xs : List AV) (n : Int) : Option AV := if 0 ≤ n then nth xs n.toNat else none
theorem idxL_inv {xs : List AV} {n : Int} {u : AV} (h : idxL xs n = some u) : 0 ≤ n ∧ xs[n.toNat]? = some u := by
  unfold idxL at h
  split at h
  · rename_i h0; exact ⟨h0, by rw [← nth_eq]; exact h⟩
  · cases h
def ixN (n : Int) (len : Nat) : Option Nat := if 0 ≤ n ∧ n.toNat < len then some n.toNat else none
theorem ixN_inv {n : Int} {len m : Nat} (h : ixN n len = some m) : n = (m : Int) ∧ Nat.blt m len = true := by
  unfold ixN at h
  split at h
  · rename_i h0
    obtain rfl := Option.some.inj h
    exact ⟨by omega, by simp [Nat.blt_eq, h0.2]⟩
  · cases h

def copyP : List AV → (List AV → Prop) → Prop
  | [], K => K []
  | x :: r, K => copyP r fun r' => K (x :: r')
theorem copyP_inv : ∀ {l : List AV} {K : List AV → Prop}, copyP l K → K l
  | [], _, h => h
  | x :: r, K, h => copyP_inv (K := fun r' => K (x :: r')) h

def lenGe : List AV → Nat → Bool
  | _, 0 => true
  | [], _ + 1 => false
  | _ :: r, n + 1 => lenGe r n
theorem lenGe_inv : ∀ {l : List AV} {n : Nat}, lenGe l n = true → n ≤ l.length
  | _, 0, _ => Nat.zero_le _
  | [], _ + 1, h => by cases h
  | _ :: r, n + 1, h => by have := lenGe_inv (l := r) (n := n) h; simp; omega

def setP : List AV → Nat → AV → (List AV → Prop) → Prop
  | x :: r, 0, v, K => K (v :: r)
  | x :: r, n + 1, v, K => setP r n v fun r' => K (x :: r')
  | [], _, _, _ => False
theorem setP_inv : ∀ {l : List AV} {n : Nat} {v : AV} {K : List AV → Prop}, setP l n v K → n < l.length ∧ K (l.set n v)
  | x :: r, 0, v, K, h => ⟨by simp, h⟩
  | x :: r, n + 1, v, K, h => by
    obtain ⟨h1, h2⟩ := setP_inv (l := r) (n := n) (v := v) (K := fun r' => K (x :: r')) h
    exact ⟨by simp; omega, h2⟩
  | [], 0, _, _, h => h.elim
  | [], _ + 1, _, _, h => h.elim
theorem setK {l : List AV} {n : Nat} {v : AV} {K : List AV → Prop} (h : n < l.length) (k : K (l.set n v)) : setP l n v K := by
  induction l generalizing n K with
  | nil => simp at h
  | cons x r ih =>
    cases n with
    | zero => exact k
    | succ n => exact ih (n := n) (K := fun r' => K (x :: r')) (by simpa using h) k

def setsP (cs : List AV) (o : Nat) : List AV → (List AV → Prop) → Prop
  | [], K => K cs
  | v :: r, K => setP cs o v fun cs' => setsP cs' (o + 1) r K
theorem setsP_inv : ∀ {vs cs : List AV} {o : Nat} {K : List AV → Prop}, setsP cs o vs K → o + vs.length ≤ cs.length ∨ vs = [] → K (cs.take o ++ vs ++ cs.drop (o + vs.length)) ∧ (vs ≠ [] → o + vs.length ≤ cs.length)
  | [], cs, o, K, h, _ => by
    have h : K cs := h
    exact ⟨by simpa using h, fun h => absurd rfl h⟩
  | v :: r, cs, o, K, h, _ => by
    obtain ⟨h1, h2⟩ := setP_inv h
    by_cases hr : r = []
    · subst hr
      refine ⟨?_, fun _ => by simp; omega⟩
      have h2 : K (cs.set o v) := h2
      rw [List.set_eq_take_append_cons_drop, if_pos h1] at h2
      simpa using h2
    · have h3 := setsP_inv (vs := r) (cs := cs.set o v) (o := o + 1) h2
      have h4 : o + 1 + r.length ≤ (cs.set o v).length := by
        rcases Nat.lt_or_ge (cs.set o v).length (o + 1 + r.length) with hlt | hge
        · exfalso
          have gen : ∀ (r cs : List AV) (o : Nat), r ≠ [] → setsP cs o r K → o + r.length ≤ cs.length := by
            intro r
            induction r with
            | nil => intro cs o h; exact absurd rfl h
            | cons v r ih =>
              intro cs o _ h
              obtain ⟨h1, h2⟩ := setP_inv h
              by_cases hr : r = []
              · subst hr; simp; omega
              · have := ih (cs.set o v) (o + 1) hr h2
                simp at this ⊢; omega
          have := gen r (cs.set o v) (o + 1) hr h2
          omega
        · exact hge
      obtain ⟨h5, _⟩ := h3 (.inl h4)
      simp only [List.length_set] at h4
      refine ⟨?_, fun _ => by simp; omega⟩
      have e1 : (cs.set o v).take (o + 1) = cs.take o ++ [v] := by
        rw [List.set_eq_take_append_cons_drop, if_pos h1, List.take_append, List.length_take, Nat.min_eq_left (by omega)]
        simp [List.take_take]
      have e2 : (cs.set o v).drop (o + 1 + r.length) = cs.drop (o + (v :: r).length) := by
        rw [List.drop_set_of_lt (by omega)]
        congr 1; simp; omega
      rw [e1, e2] at h5
      simpa using h5

def natP (n : Nat) (K : Nat → Prop) : Prop :=
  boolP (Nat.beq n 0) (K 0) <| boolP (Nat.beq n 1) (K 1) <| boolP (Nat.beq n 2) (K 2) <| boolP (Nat.beq n 3) (K 3) <| boolP (Nat.beq n 4) (K 4) <| boolP (Nat.beq n 5) (K 5) <|
  boolP (Nat.beq n 6) (K 6) <| boolP (Nat.beq n 7) (K 7) <| boolP (Nat.beq n 8) (K 8) <| boolP (Nat.beq n 9) (K 9) <| boolP (Nat.beq n 10) (K 10) <| boolP (Nat.beq n 11) (K 11) <|
  boolP (Nat.beq n 12) (K 12) <| boolP (Nat.beq n 13) (K 13) <| boolP (Nat.beq n 14) (K 14) <| boolP (Nat.beq n 15) (K 15) <| boolP (Nat.beq n 16) (K 16) <| boolP (Nat.beq n 17) (K 17) <|
  boolP (Nat.beq n 18) (K 18) <| boolP (Nat.beq n 19) (K 19) <| boolP (Nat.beq n 20) (K 20) <| boolP (Nat.beq n 21) (K 21) <| boolP (Nat.beq n 22) (K 22) <| boolP (Nat.beq n 23) (K 23) <| K n
theorem natP_inv {n : Nat} {K : Nat → Prop} (h : natP n K) : K n := by
  unfold natP at h
  iterate 24
    rcases boolP_inv h with ⟨e, h⟩ | ⟨_, h⟩
    · rw [Nat.eq_of_beq_eq_true e]; exact h
  exact h

def bsetP : List Blk → Nat → Blk → (List Blk → Prop) → Prop
  | [], 0, b, K => K [b]
  | [], k + 1, b, K => bsetP [] k b fun r => K (.gone :: r)
  | _ :: r, 0, b, K => K (b :: r)
  | x :: r, k + 1, b, K => bsetP r k b fun r' => K (x :: r')
theorem bsetP_inv : ∀ {bs : List Blk} {k : Nat} {b : Blk} {K : List Blk → Prop}, bsetP bs k b K → K (bset bs k b)
  | [], 0, _, _, h => h
  | [], k + 1, b, K, h => bsetP_inv (bs := []) (k := k) (K := fun r => K (.gone :: r)) h
  | _ :: r, 0, _, _, h => h
  | x :: r, k + 1, b, K, h => bsetP_inv (bs := r) (k := k) (K := fun r' => K (x :: r')) h

def updP (bs : List Blk) : List (Nat × Blk) → (List Blk → Prop) → Prop
  | [], K => K bs
  | (k, b) :: r, K => bsetP bs k b fun bs' => updP bs' r K
theorem updP_inv : ∀ {r : List (Nat × Blk)} {bs : List Blk} {K : List Blk → Prop}, updP bs r K → K (upd bs r)
  | [], _, _, h => h
  | (k, b) :: r, bs, K, h => updP_inv (r := r) (bsetP_inv (K := fun bs' => updP bs' r K) h)

def keysP : List (Nat × Blk) → (List Nat → Prop) → Prop
  | [], K => K []
  | (k, _) :: r, K => keysP r fun l => K (k :: l)
theorem keysP_inv : ∀ {r : List (Nat × Blk)} {K : List Nat → Prop}, keysP r K → K (r.map Prod.fst)
  | [], _, h => h
  | (k, b) :: r, K, h => keysP_inv (r := r) (K := fun l => K (k :: l)) h

/-! ### an operation's effect -/

structure Ef where
  v : AV
  pre : List (Nat × Blk)
  post : List (Nat × Blk)

def Sd (P : Program) (o : Oper) (env : Env) (bs : List Blk) (e : Ef) : Prop :=
  Has bs e.pre ∧ (∀ k, k ∈ e.post.map Prod.fst → k ∈ e.pre.map Prod.fst) ∧
  ∀ env' bs0, (∀ x ∈ o.op.operands.toList, ev env' x = ev env x) → Has bs0 e.pre → OpT P o ⟨env', bs0⟩ e.v (upd bs0 e.post)

section
variable {P : Program} {o : Oper} {env : Env} {bs : List Blk}
theorem Sd.q {v : AV} (h : ∀ env' bs0, (∀ x ∈ o.op.operands.toList, ev env' x = ev env x) → OpT P o ⟨env', bs0⟩ v bs0) : Sd P o env bs ⟨v, [], []⟩ :=
  ⟨trivial, fun _ h => h, fun env' bs0 h1 _ => h env' bs0 h1⟩
theorem Sd.r {v : AV} {i : Nat} {b : Blk} (hb : bat bs i = b) (h : ∀ env' bs0, (∀ x ∈ o.op.operands.toList, ev env' x = ev env x) → bat bs0 i = b → OpT P o ⟨env', bs0⟩ v bs0) : Sd P o env bs ⟨v, [(i, b)], []⟩ :=
  ⟨⟨hb, trivial⟩, fun _ h => by simp at h, fun env' bs0 h1 h2 => h env' bs0 h1 h2.1⟩
theorem Sd.w {v : AV} {i : Nat} {b b' : Blk} (hb : bat bs i = b) (h : ∀ env' bs0, (∀ x ∈ o.op.operands.toList, ev env' x = ev env x) → bat bs0 i = b → OpT P o ⟨env', bs0⟩ v (bset bs0 i b')) : Sd P o env bs ⟨v, [(i, b)], [(i, b')]⟩ :=
  ⟨⟨hb, trivial⟩, fun _ h => by simpa using h, fun env' bs0 h1 h2 => h env' bs0 h1 h2.1⟩
end

def cellsP (b : Blk) (K : List AV → Prop) : Prop := match b with
  | .cells cs => K cs
  | _ => False
theorem cellsP_inv {b : Blk} {K : List AV → Prop} (h : cellsP b K) : ∃ cs, b = .cells cs ∧ K cs := by
  cases b <;> first | exact ⟨_, rfl, h⟩ | exact h.elim
def rowsP (b : Blk) (K : Nat → List AV → Prop) : Prop := match b with
  | .rows sz xs => K sz xs
  | _ => False
theorem rowsP_inv {b : Blk} {K : Nat → List AV → Prop} (h : rowsP b K) : ∃ sz xs, b = .rows sz xs ∧ K sz xs := by
  cases b <;> first | exact ⟨_, _, rfl, h⟩ | exact h.elim
def growP (b : Blk) (K : Nat → Nat → List AV → Prop) : Prop := match b with
  | .grow e sz xs => K e sz xs
  | _ => False
theorem growP_inv {b : Blk} {K : Nat → Nat → List AV → Prop} (h : growP b K) : ∃ e sz xs, b = .grow e sz xs ∧ K e sz xs := by
  cases b <;> first | exact ⟨_, _, _, rfl, h⟩ | exact h.elim
def goneP (b : Blk) (K : Prop) : Prop := match b with
  | .gone => K
  | _ => False
theorem goneP_inv {b : Blk} {K : Prop} (h : goneP b K) : b = .gone ∧ K := by
  cases b <;> first | exact ⟨rfl, h⟩ | exact h.elim

end
end Go.Proofs.YtelgmdljcbkniaaDoor.Ai
