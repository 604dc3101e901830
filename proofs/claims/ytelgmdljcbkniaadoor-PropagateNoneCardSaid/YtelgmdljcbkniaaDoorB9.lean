/- An interpreter of values for the model's code, base text 9: regions whose operations may come in any order that their edges allow. -/
import Derived.Test.YtelgmdljcbkniaaDoorB7
namespace Go.Proofs.YtelgmdljcbkniaaDoor.Ai
noncomputable section
open Go

/-- A block of the store; what lies behind it is not there. -/
def bat : List Blk → Nat → Blk
  | [], _ => .gone
  | x :: _, 0 => x
  | _ :: r, k + 1 => bat r k

/-- A block is laid at its place, wherever that is. -/
def bset : List Blk → Nat → Blk → List Blk
  | [], 0, b => [b]
  | [], k + 1, b => .gone :: bset [] k b
  | _ :: r, 0, b => b :: r
  | x :: r, k + 1, b => x :: bset r k b

theorem bat_bset : ∀ (bs : List Blk) (k : Nat) (b : Blk) (j : Nat), bat (bset bs k b) j = if k = j then b else bat bs j
  | [], 0, b, 0 => rfl
  | [], 0, b, j + 1 => by simp [bset, bat]
  | [], k + 1, b, 0 => by simp [bset, bat]
  | [], k + 1, b, j + 1 => by simp only [bset, bat]; rw [bat_bset [] k b j]; simp [bat]
  | x :: r, 0, b, 0 => rfl
  | x :: r, 0, b, j + 1 => by simp [bset, bat]
  | x :: r, k + 1, b, 0 => by simp [bset, bat]
  | x :: r, k + 1, b, j + 1 => by simp only [bset, bat]; rw [bat_bset r k b j]; simp

theorem bset_comm : ∀ (bs : List Blk) (k j : Nat) (b c : Blk), k ≠ j → bset (bset bs k b) j c = bset (bset bs j c) k b
  | _, 0, 0, _, _, h => absurd rfl h
  | [], 0, j + 1, b, c, _ => by simp [bset]
  | [], k + 1, 0, b, c, _ => by simp [bset]
  | [], k + 1, j + 1, b, c, h => by simp only [bset]; rw [bset_comm [] k j b c (by omega)]
  | x :: r, 0, j + 1, b, c, _ => by simp [bset]
  | x :: r, k + 1, 0, b, c, _ => by simp [bset]
  | x :: r, k + 1, j + 1, b, c, h => by simp only [bset]; rw [bset_comm r k j b c (by omega)]

theorem bset_set : ∀ (bs : List Blk) (k : Nat) (b : Blk), k < bs.length → bset bs k b = bs.set k b
  | [], k, _, h => by simp at h
  | x :: r, 0, b, _ => rfl
  | x :: r, k + 1, b, h => by simp only [bset, List.set_cons_succ]; rw [bset_set r k b (by simpa using h)]

theorem bset_pad : ∀ (bs : List Blk) (k : Nat) (b : Blk), bset bs k b = (bs ++ List.replicate (k + 1 - bs.length) Blk.gone).set k b
  | [], 0, b => rfl
  | [], k + 1, b => by
    have := bset_pad [] k b
    simp only [List.nil_append, List.length_nil, Nat.sub_zero] at this ⊢
    rw [show k + 1 + 1 = (k + 1) + 1 by omega, List.replicate_succ, List.set_cons_succ]
    simp only [bset]
    rw [this]
  | x :: r, 0, b => by simp [bset]
  | x :: r, k + 1, b => by
    have := bset_pad r k b
    simp only [bset, List.cons_append, List.length_cons, List.set_cons_succ]
    rw [this]
    congr 4
    omega

theorem bat_get : ∀ (bs : List Blk) (k : Nat) (b : Blk), bs[k]? = some b → bat bs k = b
  | [], _, _, h => by simp at h
  | x :: r, 0, b, h => by simpa [bat] using h
  | x :: r, k + 1, b, h => by simp only [bat]; exact bat_get r k b (by simpa using h)

theorem get_bat : ∀ (bs : List Blk) (k : Nat) (b : Blk), bat bs k = b → b ≠ .gone → bs[k]? = some b
  | [], _, _, h, hn => absurd h.symm hn
  | x :: r, 0, b, h, _ => by simpa [bat] using h
  | x :: r, k + 1, b, h, hn => by simp only [bat] at h; simpa using get_bat r k b h hn

theorem bat_ge : ∀ (bs : List Blk) (k : Nat), bs.length ≤ k → bat bs k = .gone
  | [], _, _ => rfl
  | x :: r, 0, h => by simp at h
  | x :: r, k + 1, h => by simp only [bat]; exact bat_ge r k (by simpa using h)

def upd (bs : List Blk) (post : List (Nat × Blk)) : List Blk := post.foldl (fun b p => bset b p.1 p.2) bs

theorem upd_get : ∀ (post : List (Nat × Blk)) (bs : List Blk) (k : Nat), k ∉ post.map Prod.fst → bat (upd bs post) k = bat bs k
  | [], bs, k, _ => rfl
  | p :: r, bs, k, h => by
    simp only [List.map_cons, List.mem_cons, not_or] at h
    have := upd_get r (bset bs p.1 p.2) k h.2
    simp only [upd, List.foldl_cons] at this ⊢
    rw [this, bat_bset, if_neg (fun e => h.1 e.symm)]

theorem upd_set (post : List (Nat × Blk)) : ∀ (bs : List Blk) (k : Nat) (b : Blk), k ∉ post.map Prod.fst → upd (bset bs k b) post = bset (upd bs post) k b := by
  induction post with
  | nil => intro bs k b _; rfl
  | cons p r ih =>
    intro bs k b h
    simp only [List.map_cons, List.mem_cons, not_or] at h
    simp only [upd, List.foldl_cons]
    rw [bset_comm _ _ _ _ _ h.1]
    exact ih _ k b h.2

theorem upd_comm (p : List (Nat × Blk)) : ∀ (q : List (Nat × Blk)) (bs : List Blk), (∀ k, k ∈ p.map Prod.fst → k ∉ q.map Prod.fst) → upd (upd bs p) q = upd (upd bs q) p := by
  induction p with
  | nil => intro q bs _; rfl
  | cons x r ih =>
    intro q bs h
    have e1 : upd bs (x :: r) = upd (bset bs x.1 x.2) r := rfl
    have e2 : upd (upd bs q) (x :: r) = upd (bset (upd bs q) x.1 x.2) r := rfl
    rw [e1, e2, ← upd_set q bs x.1 x.2 (h x.1 (by simp)), ← ih q (bset bs x.1 x.2) fun k hk => h k (by simp [hk])]

theorem upd_has {bs bs' : List Blk} {post : List (Nat × Blk)} {k : Nat} (h : bat bs k = bat bs' k) : bat (upd bs post) k = bat (upd bs' post) k := by
  induction post generalizing bs bs' with
  | nil => exact h
  | cons p r ih =>
    simp only [upd, List.foldl_cons]
    refine ih ?_
    rw [bat_bset, bat_bset, h]

/-- The store after those operations that have run (L), in the text's order. -/
def bsL (L : Nat → Bool) : List (List (Nat × Blk)) → Nat → List Blk → List Blk
  | [], _, bs => bs
  | p :: ps, i, bs => bsL L ps (i + 1) (match L i with | true => upd bs p | false => bs)

/-- The slots likewise. -/
def enL (L : Nat → Bool) : List (Option Nat × AV) → Nat → Env → Env
  | [], _, e => e
  | p :: ps, i, e => enL L ps (i + 1) (match L i, p.1 with | true, some d => (d, p.2) :: e | _, _ => e)

theorem bsL_app (L : Nat → Bool) : ∀ (p q : List (List (Nat × Blk))) (i : Nat) (bs : List Blk), bsL L (p ++ q) i bs = bsL L q (i + p.length) (bsL L p i bs)
  | [], q, i, bs => by simp [bsL]
  | x :: p, q, i, bs => by simp only [List.cons_append, bsL, List.length_cons]; rw [bsL_app L p q (i + 1)]; congr 1; omega

theorem enL_app (L : Nat → Bool) : ∀ (p q : List (Option Nat × AV)) (i : Nat) (e : Env), enL L (p ++ q) i e = enL L q (i + p.length) (enL L p i e)
  | [], q, i, e => by simp [enL]
  | x :: p, q, i, e => by simp only [List.cons_append, enL, List.length_cons]; rw [enL_app L p q (i + 1)]; congr 1; omega

theorem bsL_congr {L L' : Nat → Bool} : ∀ (p : List (List (Nat × Blk))) (i : Nat) (bs : List Blk), (∀ j, i ≤ j → j < i + p.length → L j = L' j) → bsL L p i bs = bsL L' p i bs
  | [], _, _, _ => rfl
  | x :: p, i, bs, h => by
    simp only [bsL]
    rw [h i (Nat.le_refl _) (by simp), bsL_congr p (i + 1) _ fun j h1 h2 => h j (by omega) (by simp at h2 ⊢; omega)]

theorem enL_congr {L L' : Nat → Bool} : ∀ (p : List (Option Nat × AV)) (i : Nat) (e : Env), (∀ j, i ≤ j → j < i + p.length → L j = L' j) → enL L p i e = enL L' p i e
  | [], _, _, _ => rfl
  | x :: p, i, e, h => by
    simp only [enL]
    rw [h i (Nat.le_refl _) (by simp), enL_congr p (i + 1) _ fun j h1 h2 => h j (by omega) (by simp at h2 ⊢; omega)]

/-- What no listed operation writes is as it was. -/
theorem bsL_skip {L : Nat → Bool} {k : Nat} : ∀ (p : List (List (Nat × Blk))) (i : Nat) (bs : List Blk), (∀ j x, p[j]? = some x → k ∈ x.map Prod.fst → L (i + j) = false) → bat (bsL L p i bs) k = bat bs k
  | [], _, _, _ => rfl
  | x :: p, i, bs, h => by
    simp only [bsL]
    rw [bsL_skip p (i + 1) _ fun j y hy hk => by have := h (j + 1) y (by simpa using hy) hk; rwa [show i + 1 + j = i + (j + 1) by omega]]
    cases hL : L i with
    | false => rfl
    | true => exact upd_get _ _ _ fun hk => by have := h 0 x rfl hk; simp [hL] at this

theorem enL_skip {L : Nat → Bool} {t : Nat} : ∀ (p : List (Option Nat × AV)) (i : Nat) (e : Env), (∀ j x, p[j]? = some x → x.1 = some t → L (i + j) = false) → (enL L p i e).get t = e.get t
  | [], _, _, _ => rfl
  | x :: p, i, e, h => by
    simp only [enL]
    rw [enL_skip p (i + 1) _ fun j y hy hk => by have := h (j + 1) y (by simpa using hy) hk; rwa [show i + 1 + j = i + (j + 1) by omega]]
    cases hL : L i with
    | false => rfl
    | true =>
      cases hx : x.1 with
      | none => rfl
      | some d =>
        simp only [Env.get_cons]
        rw [if_neg fun e0 => ?_]
        subst e0
        have := h 0 x rfl hx
        simp [hL] at this

/-- Where all writers are listed, the content is the text's. -/
theorem bsL_full {L : Nat → Bool} {k : Nat} : ∀ (p : List (List (Nat × Blk))) (i : Nat) (bs bs' : List Blk), (∀ j x, p[j]? = some x → k ∈ x.map Prod.fst → L (i + j) = true) → bat bs k = bat bs' k → bat (bsL L p i bs) k = bat (bsL (fun _ => true) p i bs') k
  | [], _, _, _, _, e => e
  | x :: p, i, bs, bs', h, e => by
    simp only [bsL]
    refine bsL_full p (i + 1) _ _ (fun j y hy hk => by have := h (j + 1) y (by simpa using hy) hk; rwa [show i + 1 + j = i + (j + 1) by omega]) ?_
    cases hL : L i with
    | true => exact upd_has e
    | false =>
      rw [upd_get _ _ _ fun hk => ?_]
      · exact e
      · have := h 0 x rfl hk; simp [hL] at this

theorem enL_full {L : Nat → Bool} {t : Nat} : ∀ (p : List (Option Nat × AV)) (i : Nat) (e e' : Env), (∀ j x, p[j]? = some x → x.1 = some t → L (i + j) = true) → e.get t = e'.get t → (enL L p i e).get t = (enL (fun _ => true) p i e').get t
  | [], _, _, _, _, h => h
  | x :: p, i, e, e', h, he => by
    simp only [enL]
    refine enL_full p (i + 1) _ _ (fun j y hy hk => by have := h (j + 1) y (by simpa using hy) hk; rwa [show i + 1 + j = i + (j + 1) by omega]) ?_
    cases hx : x.1 with
    | none => cases L i <;> exact he
    | some d =>
      cases hL : L i with
      | true => simp only [Env.get_cons, he]
      | false =>
        simp only [Env.get_cons]
        rw [if_neg fun e0 => ?_]
        · exact he
        · subst e0; have := h 0 x rfl hx; simp [hL] at this

/-- One more operation runs, ahead of none that shares with it. -/
theorem bsL_later {L : Nat → Bool} {q : List (Nat × Blk)} : ∀ (p : List (List (Nat × Blk))) (i : Nat) (bs : List Blk), (∀ j x k, p[j]? = some x → k ∈ q.map Prod.fst → k ∈ x.map Prod.fst → L (i + j) = false) → bsL L p i (upd bs q) = upd (bsL L p i bs) q
  | [], _, _, _ => rfl
  | x :: p, i, bs, h => by
    simp only [bsL]
    rw [← bsL_later p (i + 1) _ fun j y k hy hk hk2 => by have := h (j + 1) y k (by simpa using hy) hk hk2; rwa [show i + 1 + j = i + (j + 1) by omega]]
    congr 1
    cases hL : L i with
    | false => rfl
    | true => exact upd_comm q x bs fun k hk hk2 => by have := h 0 x k rfl hk hk2; simp [hL] at this

/-! ### the check of the order -/

def um (ms : List Nat) : List Edge → Nat
  | [] => 0
  | e :: r => match Region.binds .any e with
    | true => (1 <<< e.on ||| ms.getD e.on 0) ||| um ms r
    | false => um ms r

theorem um_bit {ms : List Nat} {i : Nat} : ∀ {es : List Edge}, (um ms es).testBit i = true → ∃ e ∈ es, Region.binds .any e = true ∧ (e.on = i ∨ (ms.getD e.on 0).testBit i = true)
  | [], h => by simp [um] at h
  | e :: r, h => by
    simp only [um] at h
    split at h
    · rename_i hb
      simp only [Nat.testBit_or, Bool.or_eq_true] at h
      rcases h with (h | h) | h
      · refine ⟨e, by simp, hb, .inl ?_⟩
        rw [Nat.testBit_shiftLeft] at h
        simp only [Bool.and_eq_true, decide_eq_true_eq] at h
        have h2 := h.2
        have : i - e.on = 0 := by
          by_cases h0 : i - e.on = 0
          · exact h0
          · have : Nat.testBit 1 (i - e.on) = false := by
              obtain ⟨m, hm⟩ : ∃ m, i - e.on = m + 1 := ⟨i - e.on - 1, by omega⟩
              rw [hm, Nat.testBit_succ]; simp
            rw [this] at h2; cases h2
        omega
      · exact ⟨e, by simp, hb, .inr h⟩
      · obtain ⟨e', he, hb', h'⟩ := um_bit h
        exact ⟨e', by simp [he], hb', h'⟩
    · obtain ⟨e', he, hb', h'⟩ := um_bit h
      exact ⟨e', by simp [he], hb', h'⟩

/-- What an operation reads (slots, blocks) and which blocks it writes. -/
abbrev Fp := List Nat × List Nat × List Nat

def shares (a b : List Nat) : Bool := a.any fun x => b.any fun y => Nat.beq x y
theorem shares_mem {a b : List Nat} {x : Nat} (h1 : x ∈ a) (h2 : x ∈ b) : shares a b = true := by
  unfold shares
  rw [List.any_eq_true]
  exact ⟨x, h1, by rw [List.any_eq_true]; exact ⟨x, h2, Nat.beq_refl x⟩⟩

def clash (d1 : Option Nat) (f1 : Fp) (d2 : Option Nat) (f2 : Fp) : Bool :=
  shares d1.toList (d2.toList ++ f2.1) || shares f1.1 d2.toList || shares f1.2.2 (f2.2.1 ++ f2.2.2) || shares f1.2.1 f2.2.2

def ordOk (ms : List Nat) : List Oper → List Fp → Nat → Bool
  | o :: ops, f :: fs, i => rest o f ops fs (i + 1) i && ordOk ms ops fs (i + 1)
  | _, _, _ => true
where
  rest (o : Oper) (f : Fp) : List Oper → List Fp → Nat → Nat → Bool
    | o2 :: ops, f2 :: fs, j, i => (!clash o.dst f o2.dst f2 || (ms.getD j 0).testBit i) && rest o f ops fs (j + 1) i
    | _, _, _, _ => true

theorem ordOk_rest {ms : List Nat} {o : Oper} {f : Fp} : ∀ {ops : List Oper} {fs : List Fp} {j i : Nat}, ordOk.rest ms o f ops fs j i = true → ∀ k o2 f2, ops[k]? = some o2 → fs[k]? = some f2 → clash o.dst f o2.dst f2 = true → (ms.getD (j + k) 0).testBit i = true
  | [], _, _, _, _, k, _, _, h, _, _ => by simp at h
  | _ :: _, [], _, _, _, k, _, _, _, h, _ => by simp at h
  | o2 :: ops, f2 :: fs, j, i, h, k, o', f', h1, h2, hc => by
    simp only [ordOk.rest, Bool.and_eq_true, Bool.or_eq_true, Bool.not_eq_true'] at h
    cases k with
    | zero =>
      simp at h1 h2; subst h1 h2
      rcases h.1 with h0 | h0
      · rw [hc] at h0; cases h0
      · exact h0
    | succ k =>
      have := ordOk_rest h.2 k o' f' (by simpa using h1) (by simpa using h2) hc
      rwa [show j + 1 + k = j + (k + 1) by omega] at this

theorem ordOk_get {ms : List Nat} : ∀ {ops : List Oper} {fs : List Fp} {i0 : Nat}, ordOk ms ops fs i0 = true → ∀ i j o f o2 f2, i < j → ops[i]? = some o → fs[i]? = some f → ops[j]? = some o2 → fs[j]? = some f2 →
    clash o.dst f o2.dst f2 = true → (ms.getD (i0 + j) 0).testBit (i0 + i) = true
  | [], _, _, _, i, _, _, _, _, _, _, h, _, _, _, _ => by simp at h
  | _ :: _, [], _, _, i, _, _, _, _, _, _, _, h, _, _, _ => by simp at h
  | o0 :: ops, f0 :: fs, i0, h, i, j, o, f, o2, f2, hij, h1, h2, h3, h4, hc => by
    simp only [ordOk, Bool.and_eq_true] at h
    cases j with
    | zero => omega
    | succ j =>
      cases i with
      | zero =>
        simp at h1 h2; subst h1 h2
        have := ordOk_rest h.1 j o2 f2 (by simpa using h3) (by simpa using h4) hc
        rwa [show i0 + 1 + j = i0 + (j + 1) by omega] at this
      | succ i =>
        have := ordOk_get h.2 i j o f o2 f2 (by omega) (by simpa using h1) (by simpa using h2) (by simpa using h3) (by simpa using h4) hc
        rwa [show i0 + 1 + j = i0 + (j + 1) by omega, show i0 + 1 + i = i0 + (i + 1) by omega] at this

def msOk (ms : List Nat) : List Oper → Nat → Bool
  | [], _ => true
  | o :: ops, i => Nat.beq (ms.getD i 0) (um ms o.after.toList) && (o.after.toList.all fun e => !Region.binds .any e || Nat.blt e.on i) && msOk ms ops (i + 1)

theorem msOk_get {ms : List Nat} : ∀ {ops : List Oper} {i0 : Nat}, msOk ms ops i0 = true → ∀ i o, ops[i]? = some o → ms.getD (i0 + i) 0 = um ms o.after.toList ∧ ∀ e ∈ o.after.toList, Region.binds .any e = true → e.on < i0 + i
  | [], _, _, i, _, h => by simp at h
  | o0 :: ops, i0, h, i, o, h1 => by
    simp only [msOk, Bool.and_eq_true, List.all_eq_true, Bool.or_eq_true, Bool.not_eq_true'] at h
    cases i with
    | zero =>
      simp at h1; subst h1
      refine ⟨Nat.eq_of_beq_eq_true h.1.1, fun e he hb => ?_⟩
      rcases h.1.2 e he with h0 | h0
      · rw [hb] at h0; cases h0
      · simpa [Nat.blt_eq] using h0
    | succ i =>
      have := msOk_get h.2 i o (by simpa using h1)
      rwa [show i0 + 1 + i = i0 + (i + 1) by omega] at this

/-! ### the text's order tells what each operation does -/

/-- What is known of an operation: it runs, at these slots and blocks, or it is passed over. -/
inductive Dr (P : Program) (n : Nat) (ops : Array Oper) : List Oper → Env → List Blk → List Fp → List AV → List (List (Nat × Blk)) → Env → List Blk → Prop
  | nil (env : Env) (bs : List Blk) : Dr P n ops [] env bs [] [] [] env bs
  | op (o : Oper) (rest : List Oper) (env : Env) (bs : List Blk) (envi : Env) (pre post : List (Nat × Blk)) (v : AV) (rs : List Nat) (fs : List Fp) (vs : List AV) (ps : List (List (Nat × Blk))) (env' : Env) (bs' : List Blk)
      (h1 : ∀ t u, envi.get t = some u → env.get t = some u ∧ t ∈ rs) (h2 : ∀ k b, (k, b) ∈ pre → bat bs k = b)
      (hg : match o.guard with
        | none => True
        | some (j, want) => ∃ d, ((ops[j]?).bind (·.dst)) = some d ∧ env.get d = some (.bool want) ∧ d ∈ rs)
      (hd : ∀ d, o.dst = some d → d < n) (hp : ∀ k, k ∈ post.map Prod.fst → k ∈ pre.map Prod.fst)
      (h : ∀ bs0 : List Blk, (∀ k b, (k, b) ∈ pre → bat bs0 k = b) → OpT P o ⟨envi, bs0⟩ v (upd bs0 post))
      (k : Dr P n ops rest (St.put ⟨env, bs⟩ o.dst v).env (upd bs post) fs vs ps env' bs') :
      Dr P n ops (o :: rest) env bs ((rs, pre.map Prod.fst, post.map Prod.fst) :: fs) (v :: vs) (post :: ps) env' bs'
  | skip (o : Oper) (rest : List Oper) (env : Env) (bs : List Blk) (rs : List Nat) (fs : List Fp) (vs : List AV) (ps : List (List (Nat × Blk))) (env' : Env) (bs' : List Blk)
      (hg : match o.guard with
        | none => False
        | some (j, want) => ∃ d, ((ops[j]?).bind (·.dst)) = some d ∧ (env.get d = some (.bool !want) ∨ env.get d = some (.tup [])) ∧ d ∈ rs)
      (hd : ∀ d, o.dst = some d → d < n) (k : Dr P n ops rest (St.put ⟨env, bs⟩ o.dst (.tup [])).env bs fs vs ps env' bs') :
      Dr P n ops (o :: rest) env bs ((rs, [], []) :: fs) (.tup [] :: vs) ([] :: ps) env' bs'

/-- The slots' writers. -/
def wr (l : List Oper) (vs : List AV) : List (Option Nat × AV) := (l.map (·.dst)).zip vs

theorem Dr.len {P : Program} {n : Nat} {ops : Array Oper} {l : List Oper} {env : Env} {bs : List Blk} {fs : List Fp} {vs : List AV} {ps : List (List (Nat × Blk))} {env' : Env} {bs' : List Blk}
    (h : Dr P n ops l env bs fs vs ps env' bs') : fs.length = l.length ∧ vs.length = l.length ∧ ps.length = l.length := by
  induction h with
  | nil => simp
  | op => simp_all
  | skip => simp_all

theorem Dr.fin {P : Program} {n : Nat} {ops : Array Oper} {l : List Oper} {env : Env} {bs : List Blk} {fs : List Fp} {vs : List AV} {ps : List (List (Nat × Blk))} {env' : Env} {bs' : List Blk}
    (h : Dr P n ops l env bs fs vs ps env' bs') : ∀ i, env' = enL (fun _ => true) (wr l vs) i env ∧ bs' = bsL (fun _ => true) ps i bs := by
  induction h with
  | nil => intro i; exact ⟨rfl, rfl⟩
  | op o rest env bs envi pre post v rs fs vs ps env' bs' h1 h2 hg hd hp h k ih =>
    intro i
    obtain ⟨e1, e2⟩ := ih (i + 1)
    refine ⟨?_, by simpa [bsL] using e2⟩
    rw [e1]
    simp only [wr, List.map_cons, List.zip_cons_cons, enL]
    cases o.dst <;> rfl
  | skip o rest env bs rs fs vs ps env' bs' hg hd k ih =>
    intro i
    obtain ⟨e1, e2⟩ := ih (i + 1)
    refine ⟨?_, by simpa [bsL, upd] using e2⟩
    rw [e1]
    simp only [wr, List.map_cons, List.zip_cons_cons, enL]
    cases o.dst <;> rfl

/-- The text's point ahead of an operation. -/
theorem Dr.at {P : Program} {n : Nat} {ops : Array Oper} {l : List Oper} {env : Env} {bs : List Blk} {fs : List Fp} {vs : List AV} {ps : List (List (Nat × Blk))} {env' : Env} {bs' : List Blk}
    (h : Dr P n ops l env bs fs vs ps env' bs') : ∀ (i i0 : Nat) o, l[i]? = some o →
    ∃ rest fs2 vs2 ps2, Dr P n ops (o :: rest) (enL (fun _ => true) (wr (l.take i) (vs.take i)) i0 env) (bsL (fun _ => true) (ps.take i) i0 bs) fs2 vs2 ps2 env' bs' ∧ fs.drop i = fs2 ∧ vs.drop i = vs2 ∧ ps.drop i = ps2 := by
  induction h with
  | nil => intro i i0 o e; simp at e
  | op o rest env bs envi pre post v rs fs vs ps env' bs' h1 h2 hg hd hp h k ih =>
    intro i i0 o' e
    cases i with
    | zero =>
      simp at e; subst e
      exact ⟨rest, _, _, _, .op o rest env bs envi pre post v rs fs vs ps env' bs' h1 h2 hg hd hp h k, rfl, rfl, rfl⟩
    | succ i =>
      obtain ⟨r2, f2, v2, p2, hD, e1, e2, e3⟩ := ih i (i0 + 1) o' (by simpa using e)
      refine ⟨r2, f2, v2, p2, ?_, by simpa using e1, by simpa using e2, by simpa using e3⟩
      simp only [List.take_succ_cons, wr, List.map_cons, List.zip_cons_cons, enL, bsL]
      cases hdd : o.dst <;> simp only [hdd, St.put] at hD <;> exact hD
  | skip o rest env bs rs fs vs ps env' bs' hg hd k ih =>
    intro i i0 o' e
    cases i with
    | zero =>
      simp at e; subst e
      exact ⟨rest, _, _, _, .skip o rest env bs rs fs vs ps env' bs' hg hd k, rfl, rfl, rfl⟩
    | succ i =>
      obtain ⟨r2, f2, v2, p2, hD, e1, e2, e3⟩ := ih i (i0 + 1) o' (by simpa using e)
      refine ⟨r2, f2, v2, p2, ?_, by simpa using e1, by simpa using e2, by simpa using e3⟩
      simp only [List.take_succ_cons, wr, List.map_cons, List.zip_cons_cons, enL, bsL, upd, List.foldl_nil]
      cases hdd : o.dst <;> simp only [hdd, St.put] at hD <;> exact hD

/-! ### any order -/

theorem enL_same {L : Nat → Bool} {t : Nat} : ∀ (p : List (Option Nat × AV)) (i : Nat) (e e' : Env), e.get t = e'.get t → (enL L p i e).get t = (enL L p i e').get t
  | [], _, _, _, h => h
  | x :: p, i, e, e', h => by
    simp only [enL]
    refine enL_same p (i + 1) _ _ ?_
    cases hL : L i with
    | false => exact h
    | true => cases hx : x.1 <;> simp only [Env.get_cons, h]

theorem wr_split (l : List Oper) (vs : List AV) (h : vs.length = l.length) (i : Nat) : wr l vs = wr (l.take i) (vs.take i) ++ wr (l.drop i) (vs.drop i) := by
  unfold wr
  rw [← List.zip_append (by simp [h]), ← List.map_append, List.take_append_drop, List.take_append_drop]

theorem wr_get {l : List Oper} {vs : List AV} {j : Nat} {x : Option Nat × AV} (h : (wr l vs)[j]? = some x) : ∃ o, l[j]? = some o ∧ o.dst = x.1 := by
  unfold wr at h
  rw [List.getElem?_zip_eq_some] at h
  obtain ⟨h1, _⟩ := h
  rw [List.getElem?_map, Option.map_eq_some_iff] at h1
  exact h1

def unl (L : Nat → Bool) : Nat → Nat
  | 0 => 0
  | k + 1 => unl L k + (match L k with | true => 0 | false => 1)

theorem Dr.keys {P : Program} {n : Nat} {ops : Array Oper} {l : List Oper} {env : Env} {bs : List Blk} {fs : List Fp} {vs : List AV} {ps : List (List (Nat × Blk))} {env' : Env} {bs' : List Blk}
    (h : Dr P n ops l env bs fs vs ps env' bs') : ∀ (j : Nat) p f, ps[j]? = some p → fs[j]? = some f → p.map Prod.fst = f.2.2 ∧ ∀ k, k ∈ f.2.2 → k ∈ f.2.1 := by
  induction h with
  | nil => intro j p f h; simp at h
  | op o rest env bs envi pre post v rs fs vs ps env' bs' h1 h2 hg hd hp h k ih =>
    intro j p f e1 e2
    cases j with
    | zero => simp at e1 e2; subst e1 e2; exact ⟨rfl, hp⟩
    | succ j => exact ih j p f (by simpa using e1) (by simpa using e2)
  | skip o rest env bs rs fs vs ps env' bs' hg hd k ih =>
    intro j p f e1 e2
    cases j with
    | zero => simp at e1 e2; subst e1 e2; exact ⟨rfl, fun k hk => hk⟩
    | succ j => exact ih j p f (by simpa using e1) (by simpa using e2)

theorem unl_zero {L : Nat → Bool} : ∀ {k : Nat}, unl L k = 0 → ∀ j, j < k → L j = true
  | 0, _, j, hj => by omega
  | k + 1, h, j, hj => by
    simp only [unl] at h
    cases hL : L k with
    | false => simp [hL] at h
    | true =>
      by_cases hjk : j = k
      · subst hjk; exact hL
      · exact unl_zero (k := k) (by omega) j (by omega)

theorem unl_congr {L L' : Nat → Bool} : ∀ {k : Nat}, (∀ j, j < k → L j = L' j) → unl L k = unl L' k
  | 0, _ => rfl
  | k + 1, h => by simp only [unl]; rw [unl_congr fun j hj => h j (by omega), h k (by omega)]

theorem unl_set {L L' : Nat → Bool} {i : Nat} (h0 : L i = false) (h1 : L' i = true) (hne : ∀ j, j ≠ i → L' j = L j) : ∀ {k : Nat}, i < k → unl L' k + 1 = unl L k
  | 0, h => by omega
  | k + 1, h => by
    simp only [unl]
    by_cases hik : i = k
    · subst hik
      rw [h0, h1, unl_congr (L := L') (L' := L) fun j hj => hne j (by omega)]
      rfl
    · have := unl_set h0 h1 hne (k := k) (by omega)
      rw [hne k (by omega)]
      omega

theorem drawn_any {P : Program} {n m : Nat} {l : List Oper} {ms : List Nat} {env : Env} {bs : List Blk} {fs : List Fp} {vs : List AV} {ps : List (List (Nat × Blk))} {env' : Env} {bs' : List Blk}
    (hD : Dr P n l.toArray l env bs fs vs ps env' bs') (hm : msOk ms l 0 = true) (ho : ordOk ms l fs 0 = true) {Q : Exit → Act → World → Prop} {X : Prot m} {r : Option Nat}
    (hQ : ∀ a w, Holds n X r ⟨env', bs'⟩ a w → Q .normal a w) :
    ∀ (fuel : Nat) (listed : Array Bool) (a : Act) (w : World), unl (fun j => listed.getD j false) l.length ≤ fuel → listed.size = l.length →
      (∀ j o, listed.getD j false = true → l[j]? = some o → ∀ e ∈ o.after.toList, Region.binds .any e = true → listed.getD e.on false = true) →
      Holds n X r ⟨enL (fun j => listed.getD j false) (wr l vs) 0 env, bsL (fun j => listed.getD j false) ps 0 bs⟩ a w → wpAnyIn (Wd r) 0 P .any l.toArray Q fuel listed a w := by
  obtain ⟨hlf, hlv, hlp⟩ := hD.len
  have allQ : ∀ (listed : Array Bool) (a : Act) (w : World), (∀ j, j < l.length → listed.getD j false = true) →
      Holds n X r ⟨enL (fun j => listed.getD j false) (wr l vs) 0 env, bsL (fun j => listed.getD j false) ps 0 bs⟩ a w → Q .normal a w := by
    intro listed a w hall H
    obtain ⟨e1, e2⟩ := hD.fin 0
    refine hQ a w ?_
    rw [e1, e2]
    rw [enL_congr (L' := fun _ => true) _ _ _ fun j _ hj => hall j (by simp [wr, hlv] at hj; omega), bsL_congr (L' := fun _ => true) _ _ _ fun j _ hj => hall j (by omega)] at H
    exact H
  have inReady : ∀ (listed : Array Bool) (i : Nat), listed.size = l.length → (i ∈ Region.ready .any l.toArray listed ↔ ∃ o, l[i]? = some o ∧ listed.getD i false = false ∧ ∀ e ∈ o.after.toList, Region.binds .any e = true → listed.getD e.on false = true) := by
    intro listed i hsz
    unfold Region.ready
    rw [List.mem_filter]
    constructor
    · rintro ⟨h1, h2⟩
      have hi : i < l.length := by simpa using h1
      simp only [Bool.and_eq_true, Bool.not_eq_true'] at h2
      refine ⟨l[i], by simp [hi], ?_, fun e he hb => ?_⟩
      · have := h2.1
        simp only [Array.getD_eq_getD_getElem?] at this ⊢
        have hl : i < listed.size := by omega
        simpa [hl] using this
      · have := h2.2
        have e0 : l.toArray[i]? = some l[i] := by simp [hi]
        rw [e0] at this
        simp only [Option.map_some, Option.getD_some, Array.all_eq_true_iff_forall_mem] at this
        have := this e (by simpa using he)
        rw [hb] at this
        simpa using this
    · rintro ⟨o, h1, h2, h3⟩
      have hi : i < l.length := lt_of_get h1
      refine ⟨by simpa using hi, ?_⟩
      simp only [Bool.and_eq_true, Bool.not_eq_true']
      refine ⟨?_, ?_⟩
      · simp only [Array.getD_eq_getD_getElem?] at h2 ⊢
        have hl : i < listed.size := by omega
        simpa [hl] using h2
      · have : l.toArray[i]? = some o := by simpa using h1
        rw [this]
        simp only [Option.map_some, Option.getD_some, Array.all_eq_true_iff_forall_mem]
        intro e he
        cases hb : Region.binds .any e with
        | false => rfl
        | true => simpa using h3 e (by simpa using he) hb
  intro fuel
  induction fuel with
  | zero =>
    intro listed a w hu hsz hcl H
    have hall := unl_zero (Nat.le_zero.1 hu)
    refine ⟨?_, allQ listed a w hall H⟩
    rw [List.eq_nil_iff_forall_not_mem]
    intro i hi
    obtain ⟨o, h1, h2, _⟩ := (inReady listed i hsz).1 hi
    rw [hall i (lt_of_get h1)] at h2; cases h2
  | succ fuel ih =>
    intro listed a w hu hsz hcl H
    refine ⟨fun hr => allQ listed a w (fun j hj => ?_) H, fun i hi => ?_⟩
    · induction j using Nat.strongRecOn with
      | _ j ihj =>
        cases hL : listed.getD j false with
        | true => rfl
        | false =>
          have : j ∈ Region.ready .any l.toArray listed := (inReady listed j hsz).2 ⟨l[j], by simp [hj], hL, fun e he hb => by
            have := (msOk_get hm j l[j] (by simp [hj])).2 e he hb
            exact ihj e.on (by omega) (by omega)⟩
          rw [hr] at this; cases this
    · obtain ⟨o, hoi, hLi, hed⟩ := (inReady listed i hsz).1 hi
      have hil : i < l.length := lt_of_get hoi
      let L : Nat → Bool := fun j => listed.getD j false
      -- what is needed of a listed operation is listed
      have closed : ∀ j, j < l.length → L j = true → ∀ k, (ms.getD j 0).testBit k = true → L k = true := by
        intro j
        induction j using Nat.strongRecOn with
        | _ j ihj =>
          intro hj hL k hk
          obtain ⟨h1, h2⟩ := msOk_get hm j l[j] (by simp [hj])
          rw [Nat.zero_add] at h1
          rw [h1] at hk
          obtain ⟨e, he, hb, hk⟩ := um_bit hk
          have hLe := hcl j l[j] hL (by simp [hj]) e he hb
          rcases hk with rfl | hk
          · exact hLe
          · have := h2 e he hb
            exact ihj e.on (by omega) (by omega) hLe k hk
      have before : ∀ k, (ms.getD i 0).testBit k = true → L k = true := by
        intro k hk
        obtain ⟨h1, h2⟩ := msOk_get hm i o hoi
        rw [Nat.zero_add] at h1
        rw [h1] at hk
        obtain ⟨e, he, hb, hk⟩ := um_bit hk
        rcases hk with rfl | hk
        · exact hed e he hb
        · have := h2 e he hb
          exact closed e.on (by omega) (hed e he hb) k hk
      obtain ⟨f, hfi⟩ : ∃ f, fs[i]? = some f := ⟨fs[i], by simp [hlf, hil]⟩
      have clashB : ∀ j o2 f2, j < i → l[j]? = some o2 → fs[j]? = some f2 → clash o2.dst f2 o.dst f = true → L j = true := fun j o2 f2 hj h1 h2 hc => by
        have := ordOk_get ho j i o2 f2 o f hj h1 h2 hoi hfi hc
        simp only [Nat.zero_add] at this
        exact before j this
      have clashA : ∀ j o2 f2, i < j → l[j]? = some o2 → fs[j]? = some f2 → clash o.dst f o2.dst f2 = true → L j = false := fun j o2 f2 hj h1 h2 hc => by
        have := ordOk_get ho i j o f o2 f2 hj hoi hfi h1 h2 hc
        simp only [Nat.zero_add] at this
        cases hL : L j with
        | false => rfl
        | true =>
          have h3 := closed j (lt_of_get h1) hL i this
          rw [show L i = false from hLi] at h3; cases h3
      have fget : ∀ (j : Nat) o2, l[j]? = some o2 → ∃ f2, fs[j]? = some f2 := fun j o2 h => ⟨fs[j]'(hlf.symm ▸ lt_of_get h), List.getElem?_eq_getElem _⟩
      obtain ⟨rest, fs2, vs2, ps2, hDi, hf2, hv2, hp2⟩ := hD.at i 0 o hoi
      have hti : (vs.take i).length = i := by simp [hlv]; omega
      have htp : (ps.take i).length = i := by simp [hlp]; omega
      have htw : (wr (l.take i) (vs.take i)).length = i := by simp [wr, hlv]; omega
      -- the slots that it reads
      have slots : ∀ t, t ∈ f.1 → (enL L (wr l vs) 0 env).get t = (enL (fun _ => true) (wr (l.take i) (vs.take i)) 0 env).get t := by
        intro t ht
        rw [wr_split l vs hlv i, enL_app, htw, enL_skip]
        · refine enL_full _ _ _ _ (fun j x hx hd => ?_) rfl
          obtain ⟨o2, h1, h2⟩ := wr_get hx
          have hj : j < i := by have := lt_of_get hx; omega
          rw [List.getElem?_take, if_pos hj] at h1
          obtain ⟨f2, h3⟩ := fget j o2 h1
          rw [Nat.zero_add]
          refine clashB j o2 f2 hj h1 h3 ?_
          unfold clash
          rw [shares_mem (x := t) (by rw [h2, hd]; simp) (by simp [ht])]; rfl
        · intro j x hx hd
          obtain ⟨o2, h1, h2⟩ := wr_get hx
          rw [List.getElem?_drop] at h1
          rw [Nat.zero_add]
          by_cases hj : j = 0
          · subst hj; exact hLi
          · obtain ⟨f2, h3⟩ := fget _ o2 h1
            refine clashA (i + j) o2 f2 (by omega) h1 h3 ?_
            unfold clash
            rw [shares_mem (a := f.1) (b := o2.dst.toList) (x := t) ht (by rw [h2, hd]; simp)]
            simp
      have psplit : ps = ps.take i ++ ps.drop i := (List.take_append_drop i ps).symm
      have blocks : ∀ k, k ∈ f.2.1 → bat (bsL L ps 0 bs) k = bat (bsL (fun _ => true) (ps.take i) 0 bs) k := by
        intro k hk
        have e0 : bsL L ps 0 bs = bsL L (ps.drop i) (0 + (ps.take i).length) (bsL L (ps.take i) 0 bs) := by
          conv => lhs; rw [psplit]
          exact bsL_app ..
        rw [e0, htp, bsL_skip]
        · refine bsL_full _ _ _ _ (fun j x hx hd => ?_) rfl
          have hj : j < i := by have := lt_of_get hx; omega
          rw [List.getElem?_take, if_pos hj] at hx
          have h1 : l[j]? = some l[j] := List.getElem?_eq_getElem _
          obtain ⟨f2, h3⟩ := fget j _ h1
          have hk2 := (hD.keys j x f2 hx h3).1
          rw [Nat.zero_add]
          refine clashB j _ f2 hj h1 h3 ?_
          unfold clash
          rw [shares_mem (a := f2.2.2) (b := f.2.1 ++ f.2.2) (x := k) (by rw [← hk2]; exact hd) (by simp [hk])]
          simp
        · intro j x hx hd
          rw [List.getElem?_drop] at hx
          rw [Nat.zero_add]
          by_cases hj : j = 0
          · subst hj; exact hLi
          · have hlt : i + j < l.length := by have := lt_of_get hx; omega
            have h1 : l[i + j]? = some l[i + j] := List.getElem?_eq_getElem _
            obtain ⟨f2, h3⟩ := fget _ _ h1
            have hk2 := (hD.keys _ x f2 hx h3).1
            refine clashA (i + j) _ f2 (by omega) h1 h3 ?_
            unfold clash
            rw [shares_mem (a := f.2.1) (b := f2.2.2) (x := k) hk (by rw [← hk2]; exact hd)]
            simp
      -- one more is listed
      let listed' := listed.setIfInBounds i true
      let L' : Nat → Bool := fun j => listed'.getD j false
      have hL'i : L' i = true := by
        show (listed.setIfInBounds i true).getD i false = true
        simp only [Array.getD_eq_getD_getElem?]
        have : i < listed.size := by omega
        simp [this]
      have hL'n : ∀ j, j ≠ i → L' j = L j := fun j hj => by
        show (listed.setIfInBounds i true).getD j false = listed.getD j false
        simp only [Array.getD_eq_getD_getElem?]
        rw [Array.getElem?_setIfInBounds_ne (fun e => hj e.symm)]
      have hu' : unl L' l.length ≤ fuel := by
        have := unl_set (L := L) (L' := L') hLi hL'i hL'n (k := l.length) hil
        have hu0 : unl L l.length ≤ fuel + 1 := hu
        omega
      have hsz' : listed'.size = l.length := by simp [listed', hsz]
      have hcl' : ∀ j o, L' j = true → l[j]? = some o → ∀ e ∈ o.after.toList, Region.binds .any e = true → L' e.on = true := by
        intro j o2 h1 h2 e he hb
        have up : ∀ q, L q = true → L' q = true := fun q hq => by
          by_cases hqi : q = i
          · subst hqi; exact hL'i
          · rw [hL'n q hqi]; exact hq
        by_cases hj : j = i
        · subst hj
          rw [hoi] at h2
          cases h2
          exact up _ (hed e he hb)
        · rw [hL'n j hj] at h1
          exact up _ (hcl j o2 h1 h2 e he hb)
      have next : ∀ (v : AV) (post : List (Nat × Blk)) (a' : Act) (w' : World), vs[i]? = some v → ps[i]? = some post → post.map Prod.fst = f.2.2 →
          Holds n X r (St.put ⟨enL L (wr l vs) 0 env, upd (bsL L ps 0 bs) post⟩ o.dst v) a' w' →
          wpAnyIn (Wd r) 0 P .any l.toArray Q fuel listed' a' w' := by
        intro v post a' w' hv hp hk H'
        refine ih listed' a' w' hu' hsz' hcl' ?_
        have eb : bsL L' ps 0 bs = upd (bsL L ps 0 bs) post := by
          have hd0 : ps.drop i = post :: ps.drop (i + 1) := by
            have hip := lt_of_get hp
            rw [List.drop_eq_getElem_cons hip]
            congr 1
            rw [List.getElem?_eq_getElem hip] at hp
            exact Option.some.inj hp
          have s1 : ∀ M : Nat → Bool, bsL M ps 0 bs = bsL M (ps.drop i) (0 + (ps.take i).length) (bsL M (ps.take i) 0 bs) := fun M => by
            conv => lhs; rw [psplit]
            exact bsL_app ..
          rw [s1 L', s1 L, htp, Nat.zero_add, hd0]
          simp only [bsL, hL'i, show L i = false from hLi]
          rw [bsL_congr (L := L') (L' := L) (ps.take i) 0 bs fun j _ hj => hL'n j (by omega)]
          rw [bsL_congr (L := L') (L' := L) (ps.drop (i + 1)) (i + 1) _ fun j hj _ => hL'n j (by omega)]
          refine bsL_later _ _ _ fun j x k hx hk1 hk2 => ?_
          rw [List.getElem?_drop] at hx
          have hlt : i + 1 + j < l.length := by have := lt_of_get hx; omega
          have h1 : l[i + 1 + j]? = some l[i + 1 + j] := List.getElem?_eq_getElem _
          obtain ⟨f2, h3⟩ := fget _ _ h1
          have hk3 := (hD.keys _ x f2 hx h3).1
          refine clashA (i + 1 + j) _ f2 (by omega) h1 h3 ?_
          unfold clash
          rw [shares_mem (a := f.2.2) (b := f2.2.1 ++ f2.2.2) (x := k) (by rw [← hk]; exact hk1) (by rw [← hk3]; simp [hk2])]
          simp
        have ee : ∀ t, (enL L' (wr l vs) 0 env).get t = ((St.put ⟨enL L (wr l vs) 0 env, upd (bsL L ps 0 bs) post⟩ o.dst v).env).get t := by
          intro t
          have hd0 : wr (l.drop i) (vs.drop i) = (o.dst, v) :: wr (l.drop (i + 1)) (vs.drop (i + 1)) := by
            have hiv := lt_of_get hv
            rw [List.drop_eq_getElem_cons hil, List.drop_eq_getElem_cons hiv]
            have e1 : l[i] = o := by rw [List.getElem?_eq_getElem hil] at hoi; exact Option.some.inj hoi
            have e2 : vs[i] = v := by rw [List.getElem?_eq_getElem hiv] at hv; exact Option.some.inj hv
            simp only [wr, List.map_cons, List.zip_cons_cons, e1, e2]
          have s1 : ∀ M : Nat → Bool, enL M (wr l vs) 0 env = enL M (wr (l.drop (i + 1)) (vs.drop (i + 1))) (i + 1) (match M i, o.dst with | true, some d => (d, v) :: enL M (wr (l.take i) (vs.take i)) 0 env | _, _ => enL M (wr (l.take i) (vs.take i)) 0 env) := fun M => by
            rw [wr_split l vs hlv i, enL_app, htw, Nat.zero_add, hd0]
            rfl
          rw [s1 L', s1 L]
          simp only [hL'i, show L i = false from hLi]
          rw [enL_congr (L := L') (L' := L) (wr (l.take i) (vs.take i)) 0 env fun j _ hj => hL'n j (by rw [htw] at hj; omega)]
          rw [enL_congr (L := L') (L' := L) (wr (l.drop (i + 1)) (vs.drop (i + 1))) (i + 1) _ fun j hj _ => hL'n j (by omega)]
          cases hdd : o.dst with
          | none => rfl
          | some d =>
            simp only [St.put]
            by_cases htd : d = t
            · subst htd
              rw [enL_skip]
              · simp [Env.get_cons]
              · intro j x hx hd
                obtain ⟨o2, h1, h2⟩ := wr_get hx
                rw [List.getElem?_drop] at h1
                obtain ⟨f2, h3⟩ := fget _ _ h1
                refine clashA (i + 1 + j) _ f2 (by omega) h1 h3 ?_
                unfold clash
                rw [shares_mem (a := o.dst.toList) (b := o2.dst.toList ++ f2.1) (x := d) (by simp [hdd]) (by rw [h2, hd]; simp)]
                rfl
            · simp only [Env.get_cons, if_neg htd]
              refine enL_same _ _ _ _ ?_
              simp only [Env.get_cons, if_neg htd]
        have eb' : (St.put ⟨enL L (wr l vs) 0 env, upd (bsL L ps 0 bs) post⟩ o.dst v).bs = upd (bsL L ps 0 bs) post := by cases o.dst <;> rfl
        show Holds n X r ⟨enL L' (wr l vs) 0 env, bsL L' ps 0 bs⟩ a' w'
        rw [eb, ← eb']
        exact Weak.env (fun t u e => (ee t) ▸ e) _ _ _ _ H'
      obtain ⟨G, hE, hI, hx0, ha0⟩ := H.st
      unfold wpOpIn
      have e0 : l.toArray[i]? = some o := by simpa using hoi
      rw [e0]
      cases hDi with
      | op o rest env1 bs1 envi pre post v rs fs3 vs3 ps3 env2 bs2 g1 g2 gg gd gp gh gk =>
        have ef : f = (rs, pre.map Prod.fst, post.map Prod.fst) := by
          have : (fs.drop i)[0]? = some f := by rw [List.getElem?_drop]; simpa using hfi
          rw [hf2] at this; simpa using this.symm
        have hvi : vs[i]? = some v := by
          have : (vs.drop i)[0]? = some v := by rw [hv2]; rfl
          rw [List.getElem?_drop] at this; simpa using this
        have hpi : ps[i]? = some post := by
          have : (ps.drop i)[0]? = some post := by rw [hp2]; rfl
          rw [List.getElem?_drop] at this; simpa using this
        have hw : Region.wanted o (yielded l.toArray a.tmps) = true := by
          unfold Region.wanted
          split at gg
          · rename_i hgd; simp [hgd]
          · rename_i j want hgd
            obtain ⟨d, hj, he, hdr⟩ := gg
            have : (enL L (wr l vs) 0 env).get d = some (.bool want) := by rw [slots d (by rw [ef]; exact hdr)]; exact he
            simp [hgd, yielded_of hE hj this]
        show (if Region.wanted o (yielded l.toArray a.tmps) = true then _ else _)
        rw [if_pos hw]
        refine (gh (bsL L ps 0 bs) (fun k b hkb => ?_) r G w a hI (fun t u e => ?_) _ _ fun cv w' G' hA => ?_)
        · rw [blocks k (by rw [ef]; exact List.mem_map.2 ⟨(k, b), hkb, rfl⟩)]
          exact g2 k b hkb
        · obtain ⟨e1, e2⟩ := g1 t u e
          exact hE t u (by rw [slots t (by rw [ef]; exact e2)]; exact e1)
        · exact next v post _ w' hvi hpi (by rw [ef]) (Holds.put (s := ⟨enL L (wr l vs) 0 env, bsL L ps 0 bs⟩) hE hx0 ha0 H.sz hA gd)
      | skip o rest env1 bs1 rs fs3 vs3 ps3 env2 bs2 gg gd gk =>
        have ef : f = (rs, [], []) := by
          have : (fs.drop i)[0]? = some f := by rw [List.getElem?_drop]; simpa using hfi
          rw [hf2] at this; simpa using this.symm
        have hvi : vs[i]? = some (.tup []) := by
          have : (vs.drop i)[0]? = some (.tup []) := by rw [hv2]; rfl
          rw [List.getElem?_drop] at this; simpa using this
        have hpi : ps[i]? = some [] := by
          have : (ps.drop i)[0]? = some [] := by rw [hp2]; rfl
          rw [List.getElem?_drop] at this; simpa using this
        have hw : ¬ Region.wanted o (yielded l.toArray a.tmps) = true := by
          unfold Region.wanted
          split at gg
          · exact gg.elim
          · rename_i j want hgd
            obtain ⟨d, hj, he, hdr⟩ := gg
            have es := slots d (by rw [ef]; exact hdr)
            rcases he with he | he
            · simp [hgd, yielded_of hE hj (es.trans he)]
            · simp [hgd, yielded_undef hE hj (es.trans he)]
        show (if Region.wanted o (yielded l.toArray a.tmps) = true then _ else _)
        rw [if_neg hw]
        exact ⟨fun _ _ => trivial, next (.tup []) [] _ w hvi hpi (by rw [ef]; rfl) (Holds.put (s := ⟨enL L (wr l vs) 0 env, bsL L ps 0 bs⟩) hE hx0 ha0 H.sz (after_skip hI) gd)⟩

theorem Holds.drew {n m : Nat} {X : Prot m} {r : Option Nat} {s : St} {a : Act} {w : World} (h : Holds n X r s a w) : Holds n X r s a { w with drawn := w.drawn + 1 } := by
  obtain ⟨⟨G, hE, hI, hx, ha⟩, hs⟩ := h
  have hev : Ev G w G { w with drawn := w.drawn + 1 } := ⟨rfl, rfl, rfl, Nat.le_refl _, .refl _, fun _ _ _ h => .inl h, fun _ _ _ => rfl, fun i _ h => .inr ⟨i, h⟩, fun _ rec h => ⟨rec, h⟩⟩
  refine ⟨⟨G, hE, ?_, X.le hx hev (.refl _), ha.ev hev⟩, hs⟩
  refine ⟨fun i b hb => ?_, hI.dom, hI.inj, hI.z⟩
  have := hI.blk i b hb
  cases b <;> exact this

/-- The operations that are left of a region whose order is drawn; acc: what those ahead read and wrote. -/
def RD (P : Program) (n : Nat) (ms : List Nat) (all : List Oper) (l : List Oper) (s : St) (acc : List Fp) (Post : St → Prop) : Prop :=
  ∃ fs vs ps s', Dr P n all.toArray l s.env s.bs fs vs ps s'.env s'.bs ∧ ordOk ms all (acc ++ fs) 0 = true ∧ Post s'

theorem T_drawn {P : Program} {n m id : Nat} {l : List Oper} {s : St} {Q : Exit → St → Prop} (hmix : P.follows .mixedOrders = true) (ms : List Nat) (hm : msOk ms l 0 = true)
    (h : RD P n ms l l s [] (fun s' => ∃ s2, Weak n m s' s2 ∧ Q .normal s2)) : T P n m (.region id l.toArray true) s Q := by
  obtain ⟨fs, vs, ps, s', hD, ho, s2, hw, hq⟩ := h
  simp only [List.nil_append] at ho
  intro X r a w H
  refine wpIn_region_any hmix ?_
  have hlf : ∀ j, (Array.replicate l.toArray.size false).getD j false = false := fun j => by
    simp only [Array.getD_eq_getD_getElem?]
    by_cases hj : j < l.length
    · simp [hj]
    · simp [hj]
  have L0 : (fun j => (Array.replicate l.toArray.size false).getD j false) = fun _ => false := funext hlf
  refine drawn_any (X := X) (r := r) hD hm ho (fun a w H' => ⟨s2, hq, hw _ _ _ _ H'⟩) l.toArray.size _ a _ ?_ (by simp) (fun j o h => by rw [hlf j] at h; cases h) ?_
  · rw [L0]
    have : ∀ k, unl (fun _ => false) k = k := fun k => by induction k with | zero => rfl | succ k ih => simp only [unl, ih]
    rw [this]; simp
  · rw [L0]
    have e1 : ∀ (p : List (Option Nat × AV)) (i : Nat) (e : Env), enL (fun _ => false) p i e = e := by
      intro p; induction p with
      | nil => intro i e; rfl
      | cons x p ih => intro i e; simp only [enL, ih]
    have e2 : ∀ (p : List (List (Nat × Blk))) (i : Nat) (b : List Blk), bsL (fun _ => false) p i b = b := by
      intro p; induction p with
      | nil => intro i e; rfl
      | cons x p ih => intro i e; simp only [bsL, ih]
    rw [e1, e2]
    exact H.drew

theorem T_drawn_out {P : Program} {n m id : Nat} {l : List Oper} {s : St} {Q : Exit → St → Prop} (hmix : P.follows .mixedOrders = true) (ms : List Nat) (hm : msOk ms l 0 = true) (s0 : St)
    (h : RD P n ms l l s [] (fun s' => Weak n m s' s0)) (k : Q .normal s0) : T P n m (.region id l.toArray true) s Q :=
  T_drawn hmix ms hm (let ⟨fs, vs, ps, s', hr, ho, hw⟩ := h; ⟨fs, vs, ps, s', hr, ho, s0, hw, k⟩)

/-! ### the rules in their generated form -/

def Has (bs : List Blk) : List (Nat × Blk) → Prop
  | [] => True
  | (k, b) :: r => bat bs k = b ∧ Has bs r

theorem has_iff {bs : List Blk} : ∀ {l : List (Nat × Blk)}, Has bs l ↔ ∀ k b, (k, b) ∈ l → bat bs k = b
  | [] => by simp [Has]
  | (k, b) :: r => by
    simp only [Has, has_iff (l := r), List.mem_cons, Prod.mk.injEq]
    constructor
    · rintro ⟨h1, h2⟩ k' b' (⟨rfl, rfl⟩ | h)
      · exact h1
      · exact h2 _ _ h
    · intro h
      exact ⟨h _ _ (.inl ⟨rfl, rfl⟩), fun k' b' hk => h _ _ (.inr hk)⟩

theorem sel_mem {env : Env} : ∀ {envi : Env}, Sel env envi → ∀ (t : Nat) (u : AV), envi.get t = some u → env.get t = some u ∧ t ∈ envi.map Prod.fst := by
  intro envi h t u e
  refine ⟨sel_get h t u e, ?_⟩
  clear h
  induction envi with
  | nil => simp [Env.get] at e
  | cons p r ih =>
    obtain ⟨t', u'⟩ := p
    simp only [Env.get_cons] at e
    split at e
    · rename_i e0; simp [e0]
    · simp [ih e]

section
variable {P : Program} {n : Nat} {ms : List Nat} {all : List Oper} {o : Oper} {rest : List Oper} {env : Env} {bs : List Blk} {acc : List Fp} {Post : St → Prop}

theorem RD.nil (ho : ordOk ms all acc 0 = true) (h : Post ⟨env, bs⟩) : RD P n ms all [] ⟨env, bs⟩ acc Post :=
  ⟨[], [], [], ⟨env, bs⟩, .nil _ _, by simpa using ho, h⟩

theorem RD.gen {v : AV} (envi : Env) (pre post : List (Nat × Blk)) (gs : List Nat) (hs : Sel env envi) (hp : Has bs pre)
    (hg : match o.guard with
        | none => True
        | some (j, want) => ∃ d, ((all.toArray[j]?).bind (·.dst)) = some d ∧ env.get d = some (.bool want) ∧ d ∈ gs)
    (hd : ∀ d, o.dst = some d → d < n) (hk : ∀ k, k ∈ post.map Prod.fst → k ∈ pre.map Prod.fst)
    (h : ∀ bs0, Has bs0 pre → OpT P o ⟨envi, bs0⟩ v (upd bs0 post))
    (k : RD P n ms all rest ⟨(St.put ⟨env, bs⟩ o.dst v).env, upd bs post⟩ (acc ++ [(gs ++ envi.map Prod.fst, pre.map Prod.fst, post.map Prod.fst)]) Post) : RD P n ms all (o :: rest) ⟨env, bs⟩ acc Post := by
  obtain ⟨fs, vs, ps, s', hD, ho, hP⟩ := k
  refine ⟨_, _, _, s', .op o rest env bs envi pre post v (gs ++ envi.map Prod.fst) fs vs ps s'.env s'.bs (fun t u e => ?_) (has_iff.1 hp) ?_ hd hk (fun bs0 hb => h bs0 (has_iff.2 hb)) hD, by simpa using ho, hP⟩
  · obtain ⟨e1, e2⟩ := sel_mem hs t u e
    exact ⟨e1, List.mem_append.2 (.inr e2)⟩
  · split
    · trivial
    · rename_i j want e
      rw [e] at hg
      obtain ⟨d, h1, h2, h3⟩ := hg
      exact ⟨d, h1, h2, List.mem_append.2 (.inl h3)⟩

theorem lt_of_blt {o : Oper} {d n : Nat} (hd : o.dst = some d) (hn : Nat.blt d n = true) : ∀ d', o.dst = some d' → d' < n := fun d' e => by
  rw [hd] at e; obtain rfl := Option.some.inj e; simpa [Nat.blt_eq] using hn

theorem RD.skip {d j g : Nat} {want b : Bool} (hg : o.guard = some (j, want)) (hj : ((all.toArray[j]?).bind (·.dst)) = some g) (he : env.get g = some (.bool b)) (hb : b = !want) (hd : o.dst = some d) (hn : Nat.blt d n = true)
    (k : RD P n ms all rest ⟨(d, .tup []) :: env, bs⟩ (acc ++ [([g], [], [])]) Post) : RD P n ms all (o :: rest) ⟨env, bs⟩ acc Post := by
  subst hb
  obtain ⟨fs, vs, ps, s', hD, ho, hP⟩ := k
  refine ⟨_, _, _, s', .skip o rest env bs [g] fs vs ps s'.env s'.bs (by rw [hg]; exact ⟨g, hj, .inl he, by simp⟩) (lt_of_blt hd hn) (by rw [hd]; exact hD), by simpa using ho, hP⟩

theorem RD.skipu {d j g : Nat} {want : Bool} (hg : o.guard = some (j, want)) (hj : ((all.toArray[j]?).bind (·.dst)) = some g) (he : env.get g = some (.tup [])) (hd : o.dst = some d) (hn : Nat.blt d n = true)
    (k : RD P n ms all rest ⟨(d, .tup []) :: env, bs⟩ (acc ++ [([g], [], [])]) Post) : RD P n ms all (o :: rest) ⟨env, bs⟩ acc Post := by
  obtain ⟨fs, vs, ps, s', hD, ho, hP⟩ := k
  refine ⟨_, _, _, s', .skip o rest env bs [g] fs vs ps s'.env s'.bs (by rw [hg]; exact ⟨g, hj, .inr he, by simp⟩) (lt_of_blt hd hn) (by rw [hd]; exact hD), by simpa using ho, hP⟩
end
end
end Go.Proofs.YtelgmdljcbkniaaDoor.Ai
