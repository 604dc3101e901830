/- An interpreter of values for the model's code, part 2: see the comments ahead of each section. -/
import Derived.Test.YtelgmdljcbkniaaGreatDoorBM1
import Derived.Laws.StructEq
import Derived.Great.BuildSlice
import Derived.MapKept
import Derived.ArgAppend
/- An interpreter of values for the model's code, base text 9: regions whose operations may come in any order that their edges allow. -/
namespace Go.Proofs.YtelgmdljcbkniaaGreatDoor.Ai
noncomputable section
open Go

/-- A block of the store; what lies behind it is not there. -/
def bat : List Blk → Nat → Blk
  | [], _ => .gone
  | x :: _, 0 => x
  | _ :: r, k + 1 => bat r k

/-- A block is laid at its place, wherever that is. -/
def bset : List Blk → Nat → Blk → List Blk
  | [], 0, b => [b]
  | [], k + 1, b => .gone :: bset [] k b
  | _ :: r, 0, b => b :: r
  | x :: r, k + 1, b => x :: bset r k b

theorem bat_bset : ∀ (bs : List Blk) (k : Nat) (b : Blk) (j : Nat), bat (bset bs k b) j = if k = j then b else bat bs j
  | [], 0, b, 0 => rfl
  | [], 0, b, j + 1 => by simp [bset, bat]
  | [], k + 1, b, 0 => by simp [bset, bat]
  | [], k + 1, b, j + 1 => by simp only [bset, bat]; rw [bat_bset [] k b j]; simp [bat]
  | x :: r, 0, b, 0 => rfl
  | x :: r, 0, b, j + 1 => by simp [bset, bat]
  | x :: r, k + 1, b, 0 => by simp [bset, bat]
  | x :: r, k + 1, b, j + 1 => by simp only [bset, bat]; rw [bat_bset r k b j]; simp

theorem bset_comm : ∀ (bs : List Blk) (k j : Nat) (b c : Blk), k ≠ j → bset (bset bs k b) j c = bset (bset bs j c) k b
  | _, 0, 0, _, _, h => absurd rfl h
  | [], 0, j + 1, b, c, _ => by simp [bset]
  | [], k + 1, 0, b, c, _ => by simp [bset]
  | [], k + 1, j + 1, b, c, h => by simp only [bset]; rw [bset_comm [] k j b c (by omega)]
  | x :: r, 0, j + 1, b, c, _ => by simp [bset]
  | x :: r, k + 1, 0, b, c, _ => by simp [bset]
  | x :: r, k + 1, j + 1, b, c, h => by simp only [bset]; rw [bset_comm r k j b c (by omega)]

theorem bset_set : ∀ (bs : List Blk) (k : Nat) (b : Blk), k < bs.length → bset bs k b = bs.set k b
  | [], k, _, h => by simp at h
  | x :: r, 0, b, _ => rfl
  | x :: r, k + 1, b, h => by simp only [bset, List.set_cons_succ]; rw [bset_set r k b (by simpa using h)]

theorem bset_pad : ∀ (bs : List Blk) (k : Nat) (b : Blk), bset bs k b = (bs ++ List.replicate (k + 1 - bs.length) Blk.gone).set k b
  | [], 0, b => rfl
  | [], k + 1, b => by
    have := bset_pad [] k b
    simp only [List.nil_append, List.length_nil, Nat.sub_zero] at this ⊢
    rw [show k + 1 + 1 = (k + 1) + 1 by omega, List.replicate_succ, List.set_cons_succ]
    simp only [bset]
    rw [this]
  | x :: r, 0, b => by simp [bset]
  | x :: r, k + 1, b => by
    have := bset_pad r k b
    simp only [bset, List.cons_append, List.length_cons, List.set_cons_succ]
    rw [this]
    congr 4
    omega

theorem bat_get : ∀ (bs : List Blk) (k : Nat) (b : Blk), bs[k]? = some b → bat bs k = b
  | [], _, _, h => by simp at h
  | x :: r, 0, b, h => by simpa [bat] using h
  | x :: r, k + 1, b, h => by simp only [bat]; exact bat_get r k b (by simpa using h)

theorem get_bat : ∀ (bs : List Blk) (k : Nat) (b : Blk), bat bs k = b → b ≠ .gone → bs[k]? = some b
  | [], _, _, h, hn => absurd h.symm hn
  | x :: r, 0, b, h, _ => by simpa [bat] using h
  | x :: r, k + 1, b, h, hn => by simp only [bat] at h; simpa using get_bat r k b h hn

theorem bat_ge : ∀ (bs : List Blk) (k : Nat), bs.length ≤ k → bat bs k = .gone
  | [], _, _ => rfl
  | x :: r, 0, h => by simp at h
  | x :: r, k + 1, h => by simp only [bat]; exact bat_ge r k (by simpa using h)

def upd (bs : List Blk) (post : List (Nat × Blk)) : List Blk := post.foldl (fun b p => bset b p.1 p.2) bs

theorem upd_get : ∀ (post : List (Nat × Blk)) (bs : List Blk) (k : Nat), k ∉ post.map Prod.fst → bat (upd bs post) k = bat bs k
  | [], bs, k, _ => rfl
  | p :: r, bs, k, h => by
    simp only [List.map_cons, List.mem_cons, not_or] at h
    have := upd_get r (bset bs p.1 p.2) k h.2
    simp only [upd, List.foldl_cons] at this ⊢
    rw [this, bat_bset, if_neg (fun e => h.1 e.symm)]

theorem upd_set (post : List (Nat × Blk)) : ∀ (bs : List Blk) (k : Nat) (b : Blk), k ∉ post.map Prod.fst → upd (bset bs k b) post = bset (upd bs post) k b := by
  induction post with
  | nil => intro bs k b _; rfl
  | cons p r ih =>
    intro bs k b h
    simp only [List.map_cons, List.mem_cons, not_or] at h
    simp only [upd, List.foldl_cons]
    rw [bset_comm _ _ _ _ _ h.1]
    exact ih _ k b h.2

theorem upd_comm (p : List (Nat × Blk)) : ∀ (q : List (Nat × Blk)) (bs : List Blk), (∀ k, k ∈ p.map Prod.fst → k ∉ q.map Prod.fst) → upd (upd bs p) q = upd (upd bs q) p := by
  induction p with
  | nil => intro q bs _; rfl
  | cons x r ih =>
    intro q bs h
    have e1 : upd bs (x :: r) = upd (bset bs x.1 x.2) r := rfl
    have e2 : upd (upd bs q) (x :: r) = upd (bset (upd bs q) x.1 x.2) r := rfl
    rw [e1, e2, ← upd_set q bs x.1 x.2 (h x.1 (by simp)), ← ih q (bset bs x.1 x.2) fun k hk => h k (by simp [hk])]

theorem upd_has {bs bs' : List Blk} {post : List (Nat × Blk)} {k : Nat} (h : bat bs k = bat bs' k) : bat (upd bs post) k = bat (upd bs' post) k := by
  induction post generalizing bs bs' with
  | nil => exact h
  | cons p r ih =>
    simp only [upd, List.foldl_cons]
    refine ih ?_
    rw [bat_bset, bat_bset, h]

/-- The store after those operations that have run (L), in the text's order. -/
def bsL (L : Nat → Bool) : List (List (Nat × Blk)) → Nat → List Blk → List Blk
  | [], _, bs => bs
  | p :: ps, i, bs => bsL L ps (i + 1) (match L i with | true => upd bs p | false => bs)

/-- The slots likewise. -/
def enL (L : Nat → Bool) : List (Option Nat × AV) → Nat → Env → Env
  | [], _, e => e
  | p :: ps, i, e => enL L ps (i + 1) (match L i, p.1 with | true, some d => (d, p.2) :: e | _, _ => e)

theorem bsL_app (L : Nat → Bool) : ∀ (p q : List (List (Nat × Blk))) (i : Nat) (bs : List Blk), bsL L (p ++ q) i bs = bsL L q (i + p.length) (bsL L p i bs)
  | [], q, i, bs => by simp [bsL]
  | x :: p, q, i, bs => by simp only [List.cons_append, bsL, List.length_cons]; rw [bsL_app L p q (i + 1)]; congr 1; omega

theorem enL_app (L : Nat → Bool) : ∀ (p q : List (Option Nat × AV)) (i : Nat) (e : Env), enL L (p ++ q) i e = enL L q (i + p.length) (enL L p i e)
  | [], q, i, e => by simp [enL]
  | x :: p, q, i, e => by simp only [List.cons_append, enL, List.length_cons]; rw [enL_app L p q (i + 1)]; congr 1; omega

theorem bsL_congr {L L' : Nat → Bool} : ∀ (p : List (List (Nat × Blk))) (i : Nat) (bs : List Blk), (∀ j, i ≤ j → j < i + p.length → L j = L' j) → bsL L p i bs = bsL L' p i bs
  | [], _, _, _ => rfl
  | x :: p, i, bs, h => by
    simp only [bsL]
    rw [h i (Nat.le_refl _) (by simp), bsL_congr p (i + 1) _ fun j h1 h2 => h j (by omega) (by simp at h2 ⊢; omega)]

theorem enL_congr {L L' : Nat → Bool} : ∀ (p : List (Option Nat × AV)) (i : Nat) (e : Env), (∀ j, i ≤ j → j < i + p.length → L j = L' j) → enL L p i e = enL L' p i e
  | [], _, _, _ => rfl
  | x :: p, i, e, h => by
    simp only [enL]
    rw [h i (Nat.le_refl _) (by simp), enL_congr p (i + 1) _ fun j h1 h2 => h j (by omega) (by simp at h2 ⊢; omega)]

/-- What no listed operation writes is as it was. -/
theorem bsL_skip {L : Nat → Bool} {k : Nat} : ∀ (p : List (List (Nat × Blk))) (i : Nat) (bs : List Blk), (∀ j x, p[j]? = some x → k ∈ x.map Prod.fst → L (i + j) = false) → bat (bsL L p i bs) k = bat bs k
  | [], _, _, _ => rfl
  | x :: p, i, bs, h => by
    simp only [bsL]
    rw [bsL_skip p (i + 1) _ fun j y hy hk => by have := h (j + 1) y (by simpa using hy) hk; rwa [show i + 1 + j = i + (j + 1) by omega]]
    cases hL : L i with
    | false => rfl
    | true => exact upd_get _ _ _ fun hk => by have := h 0 x rfl hk; simp [hL] at this

theorem enL_skip {L : Nat → Bool} {t : Nat} : ∀ (p : List (Option Nat × AV)) (i : Nat) (e : Env), (∀ j x, p[j]? = some x → x.1 = some t → L (i + j) = false) → (enL L p i e).get t = e.get t
  | [], _, _, _ => rfl
  | x :: p, i, e, h => by
    simp only [enL]
    rw [enL_skip p (i + 1) _ fun j y hy hk => by have := h (j + 1) y (by simpa using hy) hk; rwa [show i + 1 + j = i + (j + 1) by omega]]
    cases hL : L i with
    | false => rfl
    | true =>
      cases hx : x.1 with
      | none => rfl
      | some d =>
        simp only [Env.get_cons]
        rw [if_neg fun e0 => ?_]
        subst e0
        have := h 0 x rfl hx
        simp [hL] at this

/-- Where all writers are listed, the content is the text's. -/
theorem bsL_full {L : Nat → Bool} {k : Nat} : ∀ (p : List (List (Nat × Blk))) (i : Nat) (bs bs' : List Blk), (∀ j x, p[j]? = some x → k ∈ x.map Prod.fst → L (i + j) = true) → bat bs k = bat bs' k → bat (bsL L p i bs) k = bat (bsL (fun _ => true) p i bs') k
  | [], _, _, _, _, e => e
  | x :: p, i, bs, bs', h, e => by
    simp only [bsL]
    refine bsL_full p (i + 1) _ _ (fun j y hy hk => by have := h (j + 1) y (by simpa using hy) hk; rwa [show i + 1 + j = i + (j + 1) by omega]) ?_
    cases hL : L i with
    | true => exact upd_has e
    | false =>
      rw [upd_get _ _ _ fun hk => ?_]
      · exact e
      · have := h 0 x rfl hk; simp [hL] at this

theorem enL_full {L : Nat → Bool} {t : Nat} : ∀ (p : List (Option Nat × AV)) (i : Nat) (e e' : Env), (∀ j x, p[j]? = some x → x.1 = some t → L (i + j) = true) → e.get t = e'.get t → (enL L p i e).get t = (enL (fun _ => true) p i e').get t
  | [], _, _, _, _, h => h
  | x :: p, i, e, e', h, he => by
    simp only [enL]
    refine enL_full p (i + 1) _ _ (fun j y hy hk => by have := h (j + 1) y (by simpa using hy) hk; rwa [show i + 1 + j = i + (j + 1) by omega]) ?_
    cases hx : x.1 with
    | none => cases L i <;> exact he
    | some d =>
      cases hL : L i with
      | true => simp only [Env.get_cons, he]
      | false =>
        simp only [Env.get_cons]
        rw [if_neg fun e0 => ?_]
        · exact he
        · subst e0; have := h 0 x rfl hx; simp [hL] at this

/-- One more operation runs, ahead of none that shares with it. -/
theorem bsL_later {L : Nat → Bool} {q : List (Nat × Blk)} : ∀ (p : List (List (Nat × Blk))) (i : Nat) (bs : List Blk), (∀ j x k, p[j]? = some x → k ∈ q.map Prod.fst → k ∈ x.map Prod.fst → L (i + j) = false) → bsL L p i (upd bs q) = upd (bsL L p i bs) q
  | [], _, _, _ => rfl
  | x :: p, i, bs, h => by
    simp only [bsL]
    rw [← bsL_later p (i + 1) _ fun j y k hy hk hk2 => by have := h (j + 1) y k (by simpa using hy) hk hk2; rwa [show i + 1 + j = i + (j + 1) by omega]]
    congr 1
    cases hL : L i with
    | false => rfl
    | true => exact upd_comm q x bs fun k hk hk2 => by have := h 0 x k rfl hk hk2; simp [hL] at this

/-! ### the check of the order -/

def um (ms : List Nat) : List Edge → Nat
  | [] => 0
  | e :: r => match Region.binds .any e with
    | true => (1 <<< e.on ||| ms.getD e.on 0) ||| um ms r
    | false => um ms r

theorem um_bit {ms : List Nat} {i : Nat} : ∀ {es : List Edge}, (um ms es).testBit i = true → ∃ e ∈ es, Region.binds .any e = true ∧ (e.on = i ∨ (ms.getD e.on 0).testBit i = true)
  | [], h => by simp [um] at h
  | e :: r, h => by
    simp only [um] at h
    split at h
    · rename_i hb
      simp only [Nat.testBit_or, Bool.or_eq_true] at h
      rcases h with (h | h) | h
      · refine ⟨e, by simp, hb, .inl ?_⟩
        rw [Nat.testBit_shiftLeft] at h
        simp only [Bool.and_eq_true, decide_eq_true_eq] at h
        have h2 := h.2
        have : i - e.on = 0 := by
          by_cases h0 : i - e.on = 0
          · exact h0
          · have : Nat.testBit 1 (i - e.on) = false := by
              obtain ⟨m, hm⟩ : ∃ m, i - e.on = m + 1 := ⟨i - e.on - 1, by omega⟩
              rw [hm, Nat.testBit_succ]; simp
            rw [this] at h2; cases h2
        omega
      · exact ⟨e, by simp, hb, .inr h⟩
      · obtain ⟨e', he, hb', h'⟩ := um_bit h
        exact ⟨e', by simp [he], hb', h'⟩
    · obtain ⟨e', he, hb', h'⟩ := um_bit h
      exact ⟨e', by simp [he], hb', h'⟩

/-- What an operation reads (slots, blocks) and which blocks it writes. -/
abbrev Fp := List Nat × List Nat × List Nat

def shares (a b : List Nat) : Bool := a.any fun x => b.any fun y => Nat.beq x y
theorem shares_mem {a b : List Nat} {x : Nat} (h1 : x ∈ a) (h2 : x ∈ b) : shares a b = true := by
  unfold shares
  rw [List.any_eq_true]
  exact ⟨x, h1, by rw [List.any_eq_true]; exact ⟨x, h2, Nat.beq_refl x⟩⟩

def clash (d1 : Option Nat) (f1 : Fp) (d2 : Option Nat) (f2 : Fp) : Bool :=
  shares d1.toList (d2.toList ++ f2.1) || shares f1.1 d2.toList || shares f1.2.2 (f2.2.1 ++ f2.2.2) || shares f1.2.1 f2.2.2

def ordOk (ms : List Nat) : List Oper → List Fp → Nat → Bool
  | o :: ops, f :: fs, i => rest o f ops fs (i + 1) i && ordOk ms ops fs (i + 1)
  | _, _, _ => true
where
  rest (o : Oper) (f : Fp) : List Oper → List Fp → Nat → Nat → Bool
    | o2 :: ops, f2 :: fs, j, i => (!clash o.dst f o2.dst f2 || (ms.getD j 0).testBit i) && rest o f ops fs (j + 1) i
    | _, _, _, _ => true

theorem ordOk_rest {ms : List Nat} {o : Oper} {f : Fp} : ∀ {ops : List Oper} {fs : List Fp} {j i : Nat}, ordOk.rest ms o f ops fs j i = true → ∀ k o2 f2, ops[k]? = some o2 → fs[k]? = some f2 → clash o.dst f o2.dst f2 = true → (ms.getD (j + k) 0).testBit i = true
  | [], _, _, _, _, k, _, _, h, _, _ => by simp at h
  | _ :: _, [], _, _, _, k, _, _, _, h, _ => by simp at h
  | o2 :: ops, f2 :: fs, j, i, h, k, o', f', h1, h2, hc => by
    simp only [ordOk.rest, Bool.and_eq_true, Bool.or_eq_true, Bool.not_eq_true'] at h
    cases k with
    | zero =>
      simp at h1 h2; subst h1 h2
      rcases h.1 with h0 | h0
      · rw [hc] at h0; cases h0
      · exact h0
    | succ k =>
      have := ordOk_rest h.2 k o' f' (by simpa using h1) (by simpa using h2) hc
      rwa [show j + 1 + k = j + (k + 1) by omega] at this

theorem ordOk_get {ms : List Nat} : ∀ {ops : List Oper} {fs : List Fp} {i0 : Nat}, ordOk ms ops fs i0 = true → ∀ i j o f o2 f2, i < j → ops[i]? = some o → fs[i]? = some f → ops[j]? = some o2 → fs[j]? = some f2 →
    clash o.dst f o2.dst f2 = true → (ms.getD (i0 + j) 0).testBit (i0 + i) = true
  | [], _, _, _, i, _, _, _, _, _, _, h, _, _, _, _ => by simp at h
  | _ :: _, [], _, _, i, _, _, _, _, _, _, _, h, _, _, _ => by simp at h
  | o0 :: ops, f0 :: fs, i0, h, i, j, o, f, o2, f2, hij, h1, h2, h3, h4, hc => by
    simp only [ordOk, Bool.and_eq_true] at h
    cases j with
    | zero => omega
    | succ j =>
      cases i with
      | zero =>
        simp at h1 h2; subst h1 h2
        have := ordOk_rest h.1 j o2 f2 (by simpa using h3) (by simpa using h4) hc
        rwa [show i0 + 1 + j = i0 + (j + 1) by omega] at this
      | succ i =>
        have := ordOk_get h.2 i j o f o2 f2 (by omega) (by simpa using h1) (by simpa using h2) (by simpa using h3) (by simpa using h4) hc
        rwa [show i0 + 1 + j = i0 + (j + 1) by omega, show i0 + 1 + i = i0 + (i + 1) by omega] at this

def msOk (ms : List Nat) : List Oper → Nat → Bool
  | [], _ => true
  | o :: ops, i => Nat.beq (ms.getD i 0) (um ms o.after.toList) && (o.after.toList.all fun e => !Region.binds .any e || Nat.blt e.on i) && msOk ms ops (i + 1)

theorem msOk_get {ms : List Nat} : ∀ {ops : List Oper} {i0 : Nat}, msOk ms ops i0 = true → ∀ i o, ops[i]? = some o → ms.getD (i0 + i) 0 = um ms o.after.toList ∧ ∀ e ∈ o.after.toList, Region.binds .any e = true → e.on < i0 + i
  | [], _, _, i, _, h => by simp at h
  | o0 :: ops, i0, h, i, o, h1 => by
    simp only [msOk, Bool.and_eq_true, List.all_eq_true, Bool.or_eq_true, Bool.not_eq_true'] at h
    cases i with
    | zero =>
      simp at h1; subst h1
      refine ⟨Nat.eq_of_beq_eq_true h.1.1, fun e he hb => ?_⟩
      rcases h.1.2 e he with h0 | h0
      · rw [hb] at h0; cases h0
      · simpa [Nat.blt_eq] using h0
    | succ i =>
      have := msOk_get h.2 i o (by simpa using h1)
      rwa [show i0 + 1 + i = i0 + (i + 1) by omega] at this

/-! ### the text's order tells what each operation does -/

/-- What is known of an operation: it runs, at these slots and blocks, or it is passed over. -/
inductive Dr (P : Program) (n : Nat) (ops : Array Oper) : List Oper → Env → List Blk → List Fp → List AV → List (List (Nat × Blk)) → Env → List Blk → Prop
  | nil (env : Env) (bs : List Blk) : Dr P n ops [] env bs [] [] [] env bs
  | op (o : Oper) (rest : List Oper) (env : Env) (bs : List Blk) (envi : Env) (pre post : List (Nat × Blk)) (v : AV) (rs : List Nat) (fs : List Fp) (vs : List AV) (ps : List (List (Nat × Blk))) (env' : Env) (bs' : List Blk)
      (h1 : ∀ t u, envi.get t = some u → env.get t = some u ∧ t ∈ rs) (h2 : ∀ k b, (k, b) ∈ pre → bat bs k = b)
      (hg : match o.guard with
        | none => True
        | some (j, want) => ∃ d, ((ops[j]?).bind (·.dst)) = some d ∧ env.get d = some (.bool want) ∧ d ∈ rs)
      (hd : ∀ d, o.dst = some d → d < n) (hp : ∀ k, k ∈ post.map Prod.fst → k ∈ pre.map Prod.fst)
      (h : ∀ bs0 : List Blk, (∀ k b, (k, b) ∈ pre → bat bs0 k = b) → OpT P o ⟨envi, bs0⟩ v (upd bs0 post))
      (k : Dr P n ops rest (St.put ⟨env, bs⟩ o.dst v).env (upd bs post) fs vs ps env' bs') :
      Dr P n ops (o :: rest) env bs ((rs, pre.map Prod.fst, post.map Prod.fst) :: fs) (v :: vs) (post :: ps) env' bs'
  | skip (o : Oper) (rest : List Oper) (env : Env) (bs : List Blk) (rs : List Nat) (fs : List Fp) (vs : List AV) (ps : List (List (Nat × Blk))) (env' : Env) (bs' : List Blk)
      (hg : match o.guard with
        | none => False
        | some (j, want) => ∃ d, ((ops[j]?).bind (·.dst)) = some d ∧ (env.get d = some (.bool !want) ∨ env.get d = some (.tup [])) ∧ d ∈ rs)
      (hd : ∀ d, o.dst = some d → d < n) (k : Dr P n ops rest (St.put ⟨env, bs⟩ o.dst (.tup [])).env bs fs vs ps env' bs') :
      Dr P n ops (o :: rest) env bs ((rs, [], []) :: fs) (.tup [] :: vs) ([] :: ps) env' bs'

/-- The slots' writers. -/
def wr (l : List Oper) (vs : List AV) : List (Option Nat × AV) := (l.map (·.dst)).zip vs

theorem Dr.len {P : Program} {n : Nat} {ops : Array Oper} {l : List Oper} {env : Env} {bs : List Blk} {fs : List Fp} {vs : List AV} {ps : List (List (Nat × Blk))} {env' : Env} {bs' : List Blk}
    (h : Dr P n ops l env bs fs vs ps env' bs') : fs.length = l.length ∧ vs.length = l.length ∧ ps.length = l.length := by
  induction h with
  | nil => simp
  | op => simp_all
  | skip => simp_all

theorem Dr.fin {P : Program} {n : Nat} {ops : Array Oper} {l : List Oper} {env : Env} {bs : List Blk} {fs : List Fp} {vs : List AV} {ps : List (List (Nat × Blk))} {env' : Env} {bs' : List Blk}
    (h : Dr P n ops l env bs fs vs ps env' bs') : ∀ i, env' = enL (fun _ => true) (wr l vs) i env ∧ bs' = bsL (fun _ => true) ps i bs := by
  induction h with
  | nil => intro i; exact ⟨rfl, rfl⟩
  | op o rest env bs envi pre post v rs fs vs ps env' bs' h1 h2 hg hd hp h k ih =>
    intro i
    obtain ⟨e1, e2⟩ := ih (i + 1)
    refine ⟨?_, by simpa [bsL] using e2⟩
    rw [e1]
    simp only [wr, List.map_cons, List.zip_cons_cons, enL]
    cases o.dst <;> rfl
  | skip o rest env bs rs fs vs ps env' bs' hg hd k ih =>
    intro i
    obtain ⟨e1, e2⟩ := ih (i + 1)
    refine ⟨?_, by simpa [bsL, upd] using e2⟩
    rw [e1]
    simp only [wr, List.map_cons, List.zip_cons_cons, enL]
    cases o.dst <;> rfl

/-- The text's point ahead of an operation. -/
theorem Dr.at {P : Program} {n : Nat} {ops : Array Oper} {l : List Oper} {env : Env} {bs : List Blk} {fs : List Fp} {vs : List AV} {ps : List (List (Nat × Blk))} {env' : Env} {bs' : List Blk}
    (h : Dr P n ops l env bs fs vs ps env' bs') : ∀ (i i0 : Nat) o, l[i]? = some o →
    ∃ rest fs2 vs2 ps2, Dr P n ops (o :: rest) (enL (fun _ => true) (wr (l.take i) (vs.take i)) i0 env) (bsL (fun _ => true) (ps.take i) i0 bs) fs2 vs2 ps2 env' bs' ∧ fs.drop i = fs2 ∧ vs.drop i = vs2 ∧ ps.drop i = ps2 := by
  induction h with
  | nil => intro i i0 o e; simp at e
  | op o rest env bs envi pre post v rs fs vs ps env' bs' h1 h2 hg hd hp h k ih =>
    intro i i0 o' e
    cases i with
    | zero =>
      simp at e; subst e
      exact ⟨rest, _, _, _, .op o rest env bs envi pre post v rs fs vs ps env' bs' h1 h2 hg hd hp h k, rfl, rfl, rfl⟩
    | succ i =>
      obtain ⟨r2, f2, v2, p2, hD, e1, e2, e3⟩ := ih i (i0 + 1) o' (by simpa using e)
      refine ⟨r2, f2, v2, p2, ?_, by simpa using e1, by simpa using e2, by simpa using e3⟩
      simp only [List.take_succ_cons, wr, List.map_cons, List.zip_cons_cons, enL, bsL]
      cases hdd : o.dst <;> simp only [hdd, St.put] at hD <;> exact hD
  | skip o rest env bs rs fs vs ps env' bs' hg hd k ih =>
    intro i i0 o' e
    cases i with
    | zero =>
      simp at e; subst e
      exact ⟨rest, _, _, _, .skip o rest env bs rs fs vs ps env' bs' hg hd k, rfl, rfl, rfl⟩
    | succ i =>
      obtain ⟨r2, f2, v2, p2, hD, e1, e2, e3⟩ := ih i (i0 + 1) o' (by simpa using e)
      refine ⟨r2, f2, v2, p2, ?_, by simpa using e1, by simpa using e2, by simpa using e3⟩
      simp only [List.take_succ_cons, wr, List.map_cons, List.zip_cons_cons, enL, bsL, upd, List.foldl_nil]
      cases hdd : o.dst <;> simp only [hdd, St.put] at hD <;> exact hD

/-! ### any order -/

theorem enL_same {L : Nat → Bool} {t : Nat} : ∀ (p : List (Option Nat × AV)) (i : Nat) (e e' : Env), e.get t = e'.get t → (enL L p i e).get t = (enL L p i e').get t
  | [], _, _, _, h => h
  | x :: p, i, e, e', h => by
    simp only [enL]
    refine enL_same p (i + 1) _ _ ?_
    cases hL : L i with
    | false => exact h
    | true => cases hx : x.1 <;> simp only [Env.get_cons, h]

theorem wr_split (l : List Oper) (vs : List AV) (h : vs.length = l.length) (i : Nat) : wr l vs = wr (l.take i) (vs.take i) ++ wr (l.drop i) (vs.drop i) := by
  unfold wr
  rw [← List.zip_append (by simp [h]), ← List.map_append, List.take_append_drop, List.take_append_drop]

theorem wr_get {l : List Oper} {vs : List AV} {j : Nat} {x : Option Nat × AV} (h : (wr l vs)[j]? = some x) : ∃ o, l[j]? = some o ∧ o.dst = x.1 := by
  unfold wr at h
  rw [List.getElem?_zip_eq_some] at h
  obtain ⟨h1, _⟩ := h
  rw [List.getElem?_map, Option.map_eq_some_iff] at h1
  exact h1

def unl (L : Nat → Bool) : Nat → Nat
  | 0 => 0
  | k + 1 => unl L k + (match L k with | true => 0 | false => 1)

theorem Dr.keys {P : Program} {n : Nat} {ops : Array Oper} {l : List Oper} {env : Env} {bs : List Blk} {fs : List Fp} {vs : List AV} {ps : List (List (Nat × Blk))} {env' : Env} {bs' : List Blk}
    (h : Dr P n ops l env bs fs vs ps env' bs') : ∀ (j : Nat) p f, ps[j]? = some p → fs[j]? = some f → p.map Prod.fst = f.2.2 ∧ ∀ k, k ∈ f.2.2 → k ∈ f.2.1 := by
  induction h with
  | nil => intro j p f h; simp at h
  | op o rest env bs envi pre post v rs fs vs ps env' bs' h1 h2 hg hd hp h k ih =>
    intro j p f e1 e2
    cases j with
    | zero => simp at e1 e2; subst e1 e2; exact ⟨rfl, hp⟩
    | succ j => exact ih j p f (by simpa using e1) (by simpa using e2)
  | skip o rest env bs rs fs vs ps env' bs' hg hd k ih =>
    intro j p f e1 e2
    cases j with
    | zero => simp at e1 e2; subst e1 e2; exact ⟨rfl, fun k hk => hk⟩
    | succ j => exact ih j p f (by simpa using e1) (by simpa using e2)

theorem unl_zero {L : Nat → Bool} : ∀ {k : Nat}, unl L k = 0 → ∀ j, j < k → L j = true
  | 0, _, j, hj => by omega
  | k + 1, h, j, hj => by
    simp only [unl] at h
    cases hL : L k with
    | false => simp [hL] at h
    | true =>
      by_cases hjk : j = k
      · subst hjk; exact hL
      · exact unl_zero (k := k) (by omega) j (by omega)

theorem unl_congr {L L' : Nat → Bool} : ∀ {k : Nat}, (∀ j, j < k → L j = L' j) → unl L k = unl L' k
  | 0, _ => rfl
  | k + 1, h => by simp only [unl]; rw [unl_congr fun j hj => h j (by omega), h k (by omega)]

theorem unl_set {L L' : Nat → Bool} {i : Nat} (h0 : L i = false) (h1 : L' i = true) (hne : ∀ j, j ≠ i → L' j = L j) : ∀ {k : Nat}, i < k → unl L' k + 1 = unl L k
  | 0, h => by omega
  | k + 1, h => by
    simp only [unl]
    by_cases hik : i = k
    · subst hik
      rw [h0, h1, unl_congr (L := L') (L' := L) fun j hj => hne j (by omega)]
      rfl
    · have := unl_set h0 h1 hne (k := k) (by omega)
      rw [hne k (by omega)]
      omega

theorem drawn_any {P : Program} {n m : Nat} {l : List Oper} {ms : List Nat} {env : Env} {bs : List Blk} {fs : List Fp} {vs : List AV} {ps : List (List (Nat × Blk))} {env' : Env} {bs' : List Blk}
    (hD : Dr P n l.toArray l env bs fs vs ps env' bs') (hm : msOk ms l 0 = true) (ho : ordOk ms l fs 0 = true) {Q : Exit → Act → World → Prop} {X : Prot m} {r : Option Nat}
    (hQ : ∀ a w, Holds n X r ⟨env', bs'⟩ a w → Q .normal a w) :
    ∀ (fuel : Nat) (listed : Array Bool) (a : Act) (w : World), unl (fun j => listed.getD j false) l.length ≤ fuel → listed.size = l.length →
      (∀ j o, listed.getD j false = true → l[j]? = some o → ∀ e ∈ o.after.toList, Region.binds .any e = true → listed.getD e.on false = true) →
      Holds n X r ⟨enL (fun j => listed.getD j false) (wr l vs) 0 env, bsL (fun j => listed.getD j false) ps 0 bs⟩ a w → wpAnyIn (Wd r) 0 P .any l.toArray Q fuel listed a w := by
  obtain ⟨hlf, hlv, hlp⟩ := hD.len
  have allQ : ∀ (listed : Array Bool) (a : Act) (w : World), (∀ j, j < l.length → listed.getD j false = true) →
      Holds n X r ⟨enL (fun j => listed.getD j false) (wr l vs) 0 env, bsL (fun j => listed.getD j false) ps 0 bs⟩ a w → Q .normal a w := by
    intro listed a w hall H
    obtain ⟨e1, e2⟩ := hD.fin 0
    refine hQ a w ?_
    rw [e1, e2]
    rw [enL_congr (L' := fun _ => true) _ _ _ fun j _ hj => hall j (by simp [wr, hlv] at hj; omega), bsL_congr (L' := fun _ => true) _ _ _ fun j _ hj => hall j (by omega)] at H
    exact H
  have inReady : ∀ (listed : Array Bool) (i : Nat), listed.size = l.length → (i ∈ Region.ready .any l.toArray listed ↔ ∃ o, l[i]? = some o ∧ listed.getD i false = false ∧ ∀ e ∈ o.after.toList, Region.binds .any e = true → listed.getD e.on false = true) := by
    intro listed i hsz
    unfold Region.ready
    rw [List.mem_filter]
    constructor
    · rintro ⟨h1, h2⟩
      have hi : i < l.length := by simpa using h1
      simp only [Bool.and_eq_true, Bool.not_eq_true'] at h2
      refine ⟨l[i], by simp [hi], ?_, fun e he hb => ?_⟩
      · have := h2.1
        simp only [Array.getD_eq_getD_getElem?] at this ⊢
        have hl : i < listed.size := by omega
        simpa [hl] using this
      · have := h2.2
        have e0 : l.toArray[i]? = some l[i] := by simp [hi]
        rw [e0] at this
        simp only [Option.map_some, Option.getD_some, Array.all_eq_true_iff_forall_mem] at this
        have := this e (by simpa using he)
        rw [hb] at this
        simpa using this
    · rintro ⟨o, h1, h2, h3⟩
      have hi : i < l.length := lt_of_get h1
      refine ⟨by simpa using hi, ?_⟩
      simp only [Bool.and_eq_true, Bool.not_eq_true']
      refine ⟨?_, ?_⟩
      · simp only [Array.getD_eq_getD_getElem?] at h2 ⊢
        have hl : i < listed.size := by omega
        simpa [hl] using h2
      · have : l.toArray[i]? = some o := by simpa using h1
        rw [this]
        simp only [Option.map_some, Option.getD_some, Array.all_eq_true_iff_forall_mem]
        intro e he
        cases hb : Region.binds .any e with
        | false => rfl
        | true => simpa using h3 e (by simpa using he) hb
  intro fuel
  induction fuel with
  | zero =>
    intro listed a w hu hsz hcl H
    have hall := unl_zero (Nat.le_zero.1 hu)
    refine ⟨?_, allQ listed a w hall H⟩
    rw [List.eq_nil_iff_forall_not_mem]
    intro i hi
    obtain ⟨o, h1, h2, _⟩ := (inReady listed i hsz).1 hi
    rw [hall i (lt_of_get h1)] at h2; cases h2
  | succ fuel ih =>
    intro listed a w hu hsz hcl H
    refine ⟨fun hr => allQ listed a w (fun j hj => ?_) H, fun i hi => ?_⟩
    · induction j using Nat.strongRecOn with
      | _ j ihj =>
        cases hL : listed.getD j false with
        | true => rfl
        | false =>
          have : j ∈ Region.ready .any l.toArray listed := (inReady listed j hsz).2 ⟨l[j], by simp [hj], hL, fun e he hb => by
            have := (msOk_get hm j l[j] (by simp [hj])).2 e he hb
            exact ihj e.on (by omega) (by omega)⟩
          rw [hr] at this; cases this
    · obtain ⟨o, hoi, hLi, hed⟩ := (inReady listed i hsz).1 hi
      have hil : i < l.length := lt_of_get hoi
      let L : Nat → Bool := fun j => listed.getD j false
      -- what is needed of a listed operation is listed
      have closed : ∀ j, j < l.length → L j = true → ∀ k, (ms.getD j 0).testBit k = true → L k = true := by
        intro j
        induction j using Nat.strongRecOn with
        | _ j ihj =>
          intro hj hL k hk
          obtain ⟨h1, h2⟩ := msOk_get hm j l[j] (by simp [hj])
          rw [Nat.zero_add] at h1
          rw [h1] at hk
          obtain ⟨e, he, hb, hk⟩ := um_bit hk
          have hLe := hcl j l[j] hL (by simp [hj]) e he hb
          rcases hk with rfl | hk
          · exact hLe
          · have := h2 e he hb
            exact ihj e.on (by omega) (by omega) hLe k hk
      have before : ∀ k, (ms.getD i 0).testBit k = true → L k = true := by
        intro k hk
        obtain ⟨h1, h2⟩ := msOk_get hm i o hoi
        rw [Nat.zero_add] at h1
        rw [h1] at hk
        obtain ⟨e, he, hb, hk⟩ := um_bit hk
        rcases hk with rfl | hk
        · exact hed e he hb
        · have := h2 e he hb
          exact closed e.on (by omega) (hed e he hb) k hk
      obtain ⟨f, hfi⟩ : ∃ f, fs[i]? = some f := ⟨fs[i], by simp [hlf, hil]⟩
      have clashB : ∀ j o2 f2, j < i → l[j]? = some o2 → fs[j]? = some f2 → clash o2.dst f2 o.dst f = true → L j = true := fun j o2 f2 hj h1 h2 hc => by
        have := ordOk_get ho j i o2 f2 o f hj h1 h2 hoi hfi hc
        simp only [Nat.zero_add] at this
        exact before j this
      have clashA : ∀ j o2 f2, i < j → l[j]? = some o2 → fs[j]? = some f2 → clash o.dst f o2.dst f2 = true → L j = false := fun j o2 f2 hj h1 h2 hc => by
        have := ordOk_get ho i j o f o2 f2 hj hoi hfi h1 h2 hc
        simp only [Nat.zero_add] at this
        cases hL : L j with
        | false => rfl
        | true =>
          have h3 := closed j (lt_of_get h1) hL i this
          rw [show L i = false from hLi] at h3; cases h3
      have fget : ∀ (j : Nat) o2, l[j]? = some o2 → ∃ f2, fs[j]? = some f2 := fun j o2 h => ⟨fs[j]'(hlf.symm ▸ lt_of_get h), List.getElem?_eq_getElem _⟩
      obtain ⟨rest, fs2, vs2, ps2, hDi, hf2, hv2, hp2⟩ := hD.at i 0 o hoi
      have hti : (vs.take i).length = i := by simp [hlv]; omega
      have htp : (ps.take i).length = i := by simp [hlp]; omega
      have htw : (wr (l.take i) (vs.take i)).length = i := by simp [wr, hlv]; omega
      -- the slots that it reads
      have slots : ∀ t, t ∈ f.1 → (enL L (wr l vs) 0 env).get t = (enL (fun _ => true) (wr (l.take i) (vs.take i)) 0 env).get t := by
        intro t ht
        rw [wr_split l vs hlv i, enL_app, htw, enL_skip]
        · refine enL_full _ _ _ _ (fun j x hx hd => ?_) rfl
          obtain ⟨o2, h1, h2⟩ := wr_get hx
          have hj : j < i := by have := lt_of_get hx; omega
          rw [List.getElem?_take, if_pos hj] at h1
          obtain ⟨f2, h3⟩ := fget j o2 h1
          rw [Nat.zero_add]
          refine clashB j o2 f2 hj h1 h3 ?_
          unfold clash
          rw [shares_mem (x := t) (by rw [h2, hd]; simp) (by simp [ht])]; rfl
        · intro j x hx hd
          obtain ⟨o2, h1, h2⟩ := wr_get hx
          rw [List.getElem?_drop] at h1
          rw [Nat.zero_add]
          by_cases hj : j = 0
          · subst hj; exact hLi
          · obtain ⟨f2, h3⟩ := fget _ o2 h1
            refine clashA (i + j) o2 f2 (by omega) h1 h3 ?_
            unfold clash
            rw [shares_mem (a := f.1) (b := o2.dst.toList) (x := t) ht (by rw [h2, hd]; simp)]
            simp
      have psplit : ps = ps.take i ++ ps.drop i := (List.take_append_drop i ps).symm
      have blocks : ∀ k, k ∈ f.2.1 → bat (bsL L ps 0 bs) k = bat (bsL (fun _ => true) (ps.take i) 0 bs) k := by
        intro k hk
        have e0 : bsL L ps 0 bs = bsL L (ps.drop i) (0 + (ps.take i).length) (bsL L (ps.take i) 0 bs) := by
          conv => lhs; rw [psplit]
          exact bsL_app ..
        rw [e0, htp, bsL_skip]
        · refine bsL_full _ _ _ _ (fun j x hx hd => ?_) rfl
          have hj : j < i := by have := lt_of_get hx; omega
          rw [List.getElem?_take, if_pos hj] at hx
          have h1 : l[j]? = some l[j] := List.getElem?_eq_getElem _
          obtain ⟨f2, h3⟩ := fget j _ h1
          have hk2 := (hD.keys j x f2 hx h3).1
          rw [Nat.zero_add]
          refine clashB j _ f2 hj h1 h3 ?_
          unfold clash
          rw [shares_mem (a := f2.2.2) (b := f.2.1 ++ f.2.2) (x := k) (by rw [← hk2]; exact hd) (by simp [hk])]
          simp
        · intro j x hx hd
          rw [List.getElem?_drop] at hx
          rw [Nat.zero_add]
          by_cases hj : j = 0
          · subst hj; exact hLi
          · have hlt : i + j < l.length := by have := lt_of_get hx; omega
            have h1 : l[i + j]? = some l[i + j] := List.getElem?_eq_getElem _
            obtain ⟨f2, h3⟩ := fget _ _ h1
            have hk2 := (hD.keys _ x f2 hx h3).1
            refine clashA (i + j) _ f2 (by omega) h1 h3 ?_
            unfold clash
            rw [shares_mem (a := f.2.1) (b := f2.2.2) (x := k) hk (by rw [← hk2]; exact hd)]
            simp
      -- one more is listed
      let listed' := listed.setIfInBounds i true
      let L' : Nat → Bool := fun j => listed'.getD j false
      have hL'i : L' i = true := by
        show (listed.setIfInBounds i true).getD i false = true
        simp only [Array.getD_eq_getD_getElem?]
        have : i < listed.size := by omega
        simp [this]
      have hL'n : ∀ j, j ≠ i → L' j = L j := fun j hj => by
        show (listed.setIfInBounds i true).getD j false = listed.getD j false
        simp only [Array.getD_eq_getD_getElem?]
        rw [Array.getElem?_setIfInBounds_ne (fun e => hj e.symm)]
      have hu' : unl L' l.length ≤ fuel := by
        have := unl_set (L := L) (L' := L') hLi hL'i hL'n (k := l.length) hil
        have hu0 : unl L l.length ≤ fuel + 1 := hu
        omega
      have hsz' : listed'.size = l.length := by simp [listed', hsz]
      have hcl' : ∀ j o, L' j = true → l[j]? = some o → ∀ e ∈ o.after.toList, Region.binds .any e = true → L' e.on = true := by
        intro j o2 h1 h2 e he hb
        have up : ∀ q, L q = true → L' q = true := fun q hq => by
          by_cases hqi : q = i
          · subst hqi; exact hL'i
          · rw [hL'n q hqi]; exact hq
        by_cases hj : j = i
        · subst hj
          rw [hoi] at h2
          cases h2
          exact up _ (hed e he hb)
        · rw [hL'n j hj] at h1
          exact up _ (hcl j o2 h1 h2 e he hb)
      have next : ∀ (v : AV) (post : List (Nat × Blk)) (a' : Act) (w' : World), vs[i]? = some v → ps[i]? = some post → post.map Prod.fst = f.2.2 →
          Holds n X r (St.put ⟨enL L (wr l vs) 0 env, upd (bsL L ps 0 bs) post⟩ o.dst v) a' w' →
          wpAnyIn (Wd r) 0 P .any l.toArray Q fuel listed' a' w' := by
        intro v post a' w' hv hp hk H'
        refine ih listed' a' w' hu' hsz' hcl' ?_
        have eb : bsL L' ps 0 bs = upd (bsL L ps 0 bs) post := by
          have hd0 : ps.drop i = post :: ps.drop (i + 1) := by
            have hip := lt_of_get hp
            rw [List.drop_eq_getElem_cons hip]
            congr 1
            rw [List.getElem?_eq_getElem hip] at hp
            exact Option.some.inj hp
          have s1 : ∀ M : Nat → Bool, bsL M ps 0 bs = bsL M (ps.drop i) (0 + (ps.take i).length) (bsL M (ps.take i) 0 bs) := fun M => by
            conv => lhs; rw [psplit]
            exact bsL_app ..
          rw [s1 L', s1 L, htp, Nat.zero_add, hd0]
          simp only [bsL, hL'i, show L i = false from hLi]
          rw [bsL_congr (L := L') (L' := L) (ps.take i) 0 bs fun j _ hj => hL'n j (by omega)]
          rw [bsL_congr (L := L') (L' := L) (ps.drop (i + 1)) (i + 1) _ fun j hj _ => hL'n j (by omega)]
          refine bsL_later _ _ _ fun j x k hx hk1 hk2 => ?_
          rw [List.getElem?_drop] at hx
          have hlt : i + 1 + j < l.length := by have := lt_of_get hx; omega
          have h1 : l[i + 1 + j]? = some l[i + 1 + j] := List.getElem?_eq_getElem _
          obtain ⟨f2, h3⟩ := fget _ _ h1
          have hk3 := (hD.keys _ x f2 hx h3).1
          refine clashA (i + 1 + j) _ f2 (by omega) h1 h3 ?_
          unfold clash
          rw [shares_mem (a := f.2.2) (b := f2.2.1 ++ f2.2.2) (x := k) (by rw [← hk]; exact hk1) (by rw [← hk3]; simp [hk2])]
          simp
        have ee : ∀ t, (enL L' (wr l vs) 0 env).get t = ((St.put ⟨enL L (wr l vs) 0 env, upd (bsL L ps 0 bs) post⟩ o.dst v).env).get t := by
          intro t
          have hd0 : wr (l.drop i) (vs.drop i) = (o.dst, v) :: wr (l.drop (i + 1)) (vs.drop (i + 1)) := by
            have hiv := lt_of_get hv
            rw [List.drop_eq_getElem_cons hil, List.drop_eq_getElem_cons hiv]
            have e1 : l[i] = o := by rw [List.getElem?_eq_getElem hil] at hoi; exact Option.some.inj hoi
            have e2 : vs[i] = v := by rw [List.getElem?_eq_getElem hiv] at hv; exact Option.some.inj hv
            simp only [wr, List.map_cons, List.zip_cons_cons, e1, e2]
          have s1 : ∀ M : Nat → Bool, enL M (wr l vs) 0 env = enL M (wr (l.drop (i + 1)) (vs.drop (i + 1))) (i + 1) (match M i, o.dst with | true, some d => (d, v) :: enL M (wr (l.take i) (vs.take i)) 0 env | _, _ => enL M (wr (l.take i) (vs.take i)) 0 env) := fun M => by
            rw [wr_split l vs hlv i, enL_app, htw, Nat.zero_add, hd0]
            rfl
          rw [s1 L', s1 L]
          simp only [hL'i, show L i = false from hLi]
          rw [enL_congr (L := L') (L' := L) (wr (l.take i) (vs.take i)) 0 env fun j _ hj => hL'n j (by rw [htw] at hj; omega)]
          rw [enL_congr (L := L') (L' := L) (wr (l.drop (i + 1)) (vs.drop (i + 1))) (i + 1) _ fun j hj _ => hL'n j (by omega)]
          cases hdd : o.dst with
          | none => rfl
          | some d =>
            simp only [St.put]
            by_cases htd : d = t
            · subst htd
              rw [enL_skip]
              · simp [Env.get_cons]
              · intro j x hx hd
                obtain ⟨o2, h1, h2⟩ := wr_get hx
                rw [List.getElem?_drop] at h1
                obtain ⟨f2, h3⟩ := fget _ _ h1
                refine clashA (i + 1 + j) _ f2 (by omega) h1 h3 ?_
                unfold clash
                rw [shares_mem (a := o.dst.toList) (b := o2.dst.toList ++ f2.1) (x := d) (by simp [hdd]) (by rw [h2, hd]; simp)]
                rfl
            · simp only [Env.get_cons, if_neg htd]
              refine enL_same _ _ _ _ ?_
              simp only [Env.get_cons, if_neg htd]
        have eb' : (St.put ⟨enL L (wr l vs) 0 env, upd (bsL L ps 0 bs) post⟩ o.dst v).bs = upd (bsL L ps 0 bs) post := by cases o.dst <;> rfl
        show Holds n X r ⟨enL L' (wr l vs) 0 env, bsL L' ps 0 bs⟩ a' w'
        rw [eb, ← eb']
        exact Weak.env (fun t u e => (ee t) ▸ e) _ _ _ _ H'
      obtain ⟨G, hE, hI, hx0, ha0⟩ := H.st
      unfold wpOpIn
      have e0 : l.toArray[i]? = some o := by simpa using hoi
      rw [e0]
      cases hDi with
      | op o rest env1 bs1 envi pre post v rs fs3 vs3 ps3 env2 bs2 g1 g2 gg gd gp gh gk =>
        have ef : f = (rs, pre.map Prod.fst, post.map Prod.fst) := by
          have : (fs.drop i)[0]? = some f := by rw [List.getElem?_drop]; simpa using hfi
          rw [hf2] at this; simpa using this.symm
        have hvi : vs[i]? = some v := by
          have : (vs.drop i)[0]? = some v := by rw [hv2]; rfl
          rw [List.getElem?_drop] at this; simpa using this
        have hpi : ps[i]? = some post := by
          have : (ps.drop i)[0]? = some post := by rw [hp2]; rfl
          rw [List.getElem?_drop] at this; simpa using this
        have hw : Region.wanted o (yielded l.toArray a.tmps) = true := by
          unfold Region.wanted
          split at gg
          · rename_i hgd; simp [hgd]
          · rename_i j want hgd
            obtain ⟨d, hj, he, hdr⟩ := gg
            have : (enL L (wr l vs) 0 env).get d = some (.bool want) := by rw [slots d (by rw [ef]; exact hdr)]; exact he
            simp [hgd, yielded_of hE hj this]
        show (if Region.wanted o (yielded l.toArray a.tmps) = true then _ else _)
        rw [if_pos hw]
        refine (gh (bsL L ps 0 bs) (fun k b hkb => ?_) r G w a hI (fun t u e => ?_) _ _ fun cv w' G' hA => ?_)
        · rw [blocks k (by rw [ef]; exact List.mem_map.2 ⟨(k, b), hkb, rfl⟩)]
          exact g2 k b hkb
        · obtain ⟨e1, e2⟩ := g1 t u e
          exact hE t u (by rw [slots t (by rw [ef]; exact e2)]; exact e1)
        · exact next v post _ w' hvi hpi (by rw [ef]) (Holds.put (s := ⟨enL L (wr l vs) 0 env, bsL L ps 0 bs⟩) hE hx0 ha0 H.sz hA gd)
      | skip o rest env1 bs1 rs fs3 vs3 ps3 env2 bs2 gg gd gk =>
        have ef : f = (rs, [], []) := by
          have : (fs.drop i)[0]? = some f := by rw [List.getElem?_drop]; simpa using hfi
          rw [hf2] at this; simpa using this.symm
        have hvi : vs[i]? = some (.tup []) := by
          have : (vs.drop i)[0]? = some (.tup []) := by rw [hv2]; rfl
          rw [List.getElem?_drop] at this; simpa using this
        have hpi : ps[i]? = some [] := by
          have : (ps.drop i)[0]? = some [] := by rw [hp2]; rfl
          rw [List.getElem?_drop] at this; simpa using this
        have hw : ¬ Region.wanted o (yielded l.toArray a.tmps) = true := by
          unfold Region.wanted
          split at gg
          · exact gg.elim
          · rename_i j want hgd
            obtain ⟨d, hj, he, hdr⟩ := gg
            have es := slots d (by rw [ef]; exact hdr)
            rcases he with he | he
            · simp [hgd, yielded_of hE hj (es.trans he)]
            · simp [hgd, yielded_undef hE hj (es.trans he)]
        show (if Region.wanted o (yielded l.toArray a.tmps) = true then _ else _)
        rw [if_neg hw]
        exact ⟨fun _ _ => trivial, next (.tup []) [] _ w hvi hpi (by rw [ef]; rfl) (Holds.put (s := ⟨enL L (wr l vs) 0 env, bsL L ps 0 bs⟩) hE hx0 ha0 H.sz (after_skip hI) gd)⟩

theorem Holds.drew {n m : Nat} {X : Prot m} {r : Option Nat} {s : St} {a : Act} {w : World} (h : Holds n X r s a w) : Holds n X r s a { w with drawn := w.drawn + 1 } := by
  obtain ⟨⟨G, hE, hI, hx, ha⟩, hs⟩ := h
  have hev : Ev G w G { w with drawn := w.drawn + 1 } := ⟨rfl, rfl, rfl, Nat.le_refl _, .refl _, fun _ _ _ h => .inl h, fun _ _ _ => rfl, fun i _ h => .inr ⟨i, h⟩, fun _ rec h => ⟨rec, h⟩⟩
  refine ⟨⟨G, hE, ?_, X.le hx hev (.refl _), ha.ev hev⟩, hs⟩
  refine ⟨fun i b hb => ?_, hI.dom, hI.inj, hI.z⟩
  have := hI.blk i b hb
  cases b <;> exact this

/-- The operations that are left of a region whose order is drawn; acc: what those ahead read and wrote. -/
def RD (P : Program) (n : Nat) (ms : List Nat) (all : List Oper) (l : List Oper) (s : St) (acc : List Fp) (Post : St → Prop) : Prop :=
  ∃ fs vs ps s', Dr P n all.toArray l s.env s.bs fs vs ps s'.env s'.bs ∧ ordOk ms all (acc ++ fs) 0 = true ∧ Post s'

theorem T_drawn {P : Program} {n m id : Nat} {l : List Oper} {s : St} {Q : Exit → St → Prop} (hmix : P.follows .mixedOrders = true) (ms : List Nat) (hm : msOk ms l 0 = true)
    (h : RD P n ms l l s [] (fun s' => ∃ s2, Weak n m s' s2 ∧ Q .normal s2)) : T P n m (.region id l.toArray true) s Q := by
  obtain ⟨fs, vs, ps, s', hD, ho, s2, hw, hq⟩ := h
  simp only [List.nil_append] at ho
  intro X r a w H
  refine wpIn_region_any hmix ?_
  have hlf : ∀ j, (Array.replicate l.toArray.size false).getD j false = false := fun j => by
    simp only [Array.getD_eq_getD_getElem?]
    by_cases hj : j < l.length
    · simp [hj]
    · simp [hj]
  have L0 : (fun j => (Array.replicate l.toArray.size false).getD j false) = fun _ => false := funext hlf
  refine drawn_any (X := X) (r := r) hD hm ho (fun a w H' => ⟨s2, hq, hw _ _ _ _ H'⟩) l.toArray.size _ a _ ?_ (by simp) (fun j o h => by rw [hlf j] at h; cases h) ?_
  · rw [L0]
    have : ∀ k, unl (fun _ => false) k = k := fun k => by induction k with | zero => rfl | succ k ih => simp only [unl, ih]
    rw [this]; simp
  · rw [L0]
    have e1 : ∀ (p : List (Option Nat × AV)) (i : Nat) (e : Env), enL (fun _ => false) p i e = e := by
      intro p; induction p with
      | nil => intro i e; rfl
      | cons x p ih => intro i e; simp only [enL, ih]
    have e2 : ∀ (p : List (List (Nat × Blk))) (i : Nat) (b : List Blk), bsL (fun _ => false) p i b = b := by
      intro p; induction p with
      | nil => intro i e; rfl
      | cons x p ih => intro i e; simp only [bsL, ih]
    rw [e1, e2]
    exact H.drew

theorem T_drawn_out {P : Program} {n m id : Nat} {l : List Oper} {s : St} {Q : Exit → St → Prop} (hmix : P.follows .mixedOrders = true) (ms : List Nat) (hm : msOk ms l 0 = true) (s0 : St)
    (h : RD P n ms l l s [] (fun s' => Weak n m s' s0)) (k : Q .normal s0) : T P n m (.region id l.toArray true) s Q :=
  T_drawn hmix ms hm (let ⟨fs, vs, ps, s', hr, ho, hw⟩ := h; ⟨fs, vs, ps, s', hr, ho, s0, hw, k⟩)

/-! ### the rules in their generated form -/

def Has (bs : List Blk) : List (Nat × Blk) → Prop
  | [] => True
  | (k, b) :: r => bat bs k = b ∧ Has bs r

theorem has_iff {bs : List Blk} : ∀ {l : List (Nat × Blk)}, Has bs l ↔ ∀ k b, (k, b) ∈ l → bat bs k = b
  | [] => by simp [Has]
  | (k, b) :: r => by
    simp only [Has, has_iff (l := r), List.mem_cons, Prod.mk.injEq]
    constructor
    · rintro ⟨h1, h2⟩ k' b' (⟨rfl, rfl⟩ | h)
      · exact h1
      · exact h2 _ _ h
    · intro h
      exact ⟨h _ _ (.inl ⟨rfl, rfl⟩), fun k' b' hk => h _ _ (.inr hk)⟩

theorem sel_mem {env : Env} : ∀ {envi : Env}, Sel env envi → ∀ (t : Nat) (u : AV), envi.get t = some u → env.get t = some u ∧ t ∈ envi.map Prod.fst := by
  intro envi h t u e
  refine ⟨sel_get h t u e, ?_⟩
  clear h
  induction envi with
  | nil => simp [Env.get] at e
  | cons p r ih =>
    obtain ⟨t', u'⟩ := p
    simp only [Env.get_cons] at e
    split at e
    · rename_i e0; simp [e0]
    · simp [ih e]

section
variable {P : Program} {n : Nat} {ms : List Nat} {all : List Oper} {o : Oper} {rest : List Oper} {env : Env} {bs : List Blk} {acc : List Fp} {Post : St → Prop}

theorem RD.nil (ho : ordOk ms all acc 0 = true) (h : Post ⟨env, bs⟩) : RD P n ms all [] ⟨env, bs⟩ acc Post :=
  ⟨[], [], [], ⟨env, bs⟩, .nil _ _, by simpa using ho, h⟩

theorem RD.gen {v : AV} (envi : Env) (pre post : List (Nat × Blk)) (gs : List Nat) (hs : Sel env envi) (hp : Has bs pre)
    (hg : match o.guard with
        | none => True
        | some (j, want) => ∃ d, ((all.toArray[j]?).bind (·.dst)) = some d ∧ env.get d = some (.bool want) ∧ d ∈ gs)
    (hd : ∀ d, o.dst = some d → d < n) (hk : ∀ k, k ∈ post.map Prod.fst → k ∈ pre.map Prod.fst)
    (h : ∀ bs0, Has bs0 pre → OpT P o ⟨envi, bs0⟩ v (upd bs0 post))
    (k : RD P n ms all rest ⟨(St.put ⟨env, bs⟩ o.dst v).env, upd bs post⟩ (acc ++ [(gs ++ envi.map Prod.fst, pre.map Prod.fst, post.map Prod.fst)]) Post) : RD P n ms all (o :: rest) ⟨env, bs⟩ acc Post := by
  obtain ⟨fs, vs, ps, s', hD, ho, hP⟩ := k
  refine ⟨_, _, _, s', .op o rest env bs envi pre post v (gs ++ envi.map Prod.fst) fs vs ps s'.env s'.bs (fun t u e => ?_) (has_iff.1 hp) ?_ hd hk (fun bs0 hb => h bs0 (has_iff.2 hb)) hD, by simpa using ho, hP⟩
  · obtain ⟨e1, e2⟩ := sel_mem hs t u e
    exact ⟨e1, List.mem_append.2 (.inr e2)⟩
  · split
    · trivial
    · rename_i j want e
      rw [e] at hg
      obtain ⟨d, h1, h2, h3⟩ := hg
      exact ⟨d, h1, h2, List.mem_append.2 (.inl h3)⟩

theorem lt_of_blt {o : Oper} {d n : Nat} (hd : o.dst = some d) (hn : Nat.blt d n = true) : ∀ d', o.dst = some d' → d' < n := fun d' e => by
  rw [hd] at e; obtain rfl := Option.some.inj e; simpa [Nat.blt_eq] using hn

theorem RD.skip {d j g : Nat} {want b : Bool} (hg : o.guard = some (j, want)) (hj : ((all.toArray[j]?).bind (·.dst)) = some g) (he : env.get g = some (.bool b)) (hb : b = !want) (hd : o.dst = some d) (hn : Nat.blt d n = true)
    (k : RD P n ms all rest ⟨(d, .tup []) :: env, bs⟩ (acc ++ [([g], [], [])]) Post) : RD P n ms all (o :: rest) ⟨env, bs⟩ acc Post := by
  subst hb
  obtain ⟨fs, vs, ps, s', hD, ho, hP⟩ := k
  refine ⟨_, _, _, s', .skip o rest env bs [g] fs vs ps s'.env s'.bs (by rw [hg]; exact ⟨g, hj, .inl he, by simp⟩) (lt_of_blt hd hn) (by rw [hd]; exact hD), by simpa using ho, hP⟩

theorem RD.skipu {d j g : Nat} {want : Bool} (hg : o.guard = some (j, want)) (hj : ((all.toArray[j]?).bind (·.dst)) = some g) (he : env.get g = some (.tup [])) (hd : o.dst = some d) (hn : Nat.blt d n = true)
    (k : RD P n ms all rest ⟨(d, .tup []) :: env, bs⟩ (acc ++ [([g], [], [])]) Post) : RD P n ms all (o :: rest) ⟨env, bs⟩ acc Post := by
  obtain ⟨fs, vs, ps, s', hD, ho, hP⟩ := k
  refine ⟨_, _, _, s', .skip o rest env bs [g] fs vs ps s'.env s'.bs (by rw [hg]; exact ⟨g, hj, .inr he, by simp⟩) (lt_of_blt hd hn) (by rw [hd]; exact hD), by simpa using ho, hP⟩
end
end
end Go.Proofs.YtelgmdljcbkniaaGreatDoor.Ai

/- An interpreter of values for the model's code, base text 10: structs compared, slices and arrays written out, elements of arrays, results in memory, functions as results. -/
namespace Go.Proofs.YtelgmdljcbkniaaGreatDoor.Ai
noncomputable section
open Go

/-! ### structs compared -/

def scEq : AV → AV → Bool
  | .int _ a, .int _ b => a == b
  | .bool a, .bool b => a == b
  | _, _ => false
def scEqs : List AV → List AV → Bool
  | x :: xs, y :: ys => scEq x y && scEqs xs ys
  | _, _ => true

/-- The fields of a flat struct, from a place on: of one cell each, numbers (some) or Bools (none). -/
inductive Flat (P : Program) : Nat → List Field → List AV → List AV → Prop
  | nil (off : Nat) : Flat P off [] [] []
  | int (off : Nat) (f : Field) (fs : List Field) (k : IntKind) (a b : Int) (xs ys : List AV) (hn : (f.name == "_") = false) (ho : f.offset = off) (ht : P.underlying f.type = some (.int k)) (size bytes : Nat) (z : Value)
      (hi : Inf P f.type size bytes z (.int k)) (r : Flat P (off + 1) fs xs ys) : Flat P off (f :: fs) (.int k a :: xs) (.int k b :: ys)
  | bool (off : Nat) (f : Field) (fs : List Field) (a b : Bool) (xs ys : List AV) (hn : (f.name == "_") = false) (ho : f.offset = off) (ht : P.underlying f.type = some .bool) (size bytes : Nat) (z : Value)
      (hi : Inf P f.type size bytes z .bool) (r : Flat P (off + 1) fs xs ys) : Flat P off (f :: fs) (.bool a :: xs) (.bool b :: ys)

theorem run_part_one {P : Program} {w : World} {t : TypeId} {size bytes : Nat} {z : Value} {d : TypeDesc} (ht : Inf P t size bytes z d) (hd : isAggD d = false) {cs : Array Value} {off : Nat} {v : Value} (h : cs[off]? = some v) :
    (part t cs off).run P w = .ok v w := by
  simp [part, ht.isAgg, hd, h]

theorem eqFields_flat {P : Program} {w : World} {G : Ghost} (d : Nat) : ∀ {off : Nat} {fs : List Field} {xs ys : List AV}, Flat P off fs xs ys → ∀ (cx cy : Array Value),
    cx.size = off + xs.length → cy.size = off + ys.length → (∀ (j : Nat) v c, xs[j]? = some v → cx[off + j]? = some c → R G v c) → (∀ (j : Nat) v c, ys[j]? = some v → cy[off + j]? = some c → R G v c) →
    (Op.eqFields (d + 1) cx cy fs).run P w = .ok (scEqs xs ys) w := by
  intro off fs xs ys h
  induction h with
  | nil off => intro cx cy _ _ _ _; simp [Op.eqFields, scEqs]
  | int off f fs k a b xs ys hn ho ht size bytes z hi r ih =>
    intro cx cy h1 h2 h3 h4
    simp only [List.length_cons] at h1 h2
    have ex : cx[off]? = some (.int k a) := by
      have hlt : off < cx.size := by omega
      have := h3 0 _ cx[off] rfl (by simp [hlt])
      rw [Array.getElem?_eq_getElem hlt, this.int_inv]
    have ey : cy[off]? = some (.int k b) := by
      have hlt : off < cy.size := by omega
      have := h4 0 _ cy[off] rfl (by simp [hlt])
      rw [Array.getElem?_eq_getElem hlt, this.int_inv]
    have hn' : f.name ≠ "_" := by simpa using hn
    have ihr := ih cx cy (by omega) (by omega) (fun j v c e1 e2 => h3 (j + 1) v c (by simpa using e1) (by rw [← e2]; congr 1; omega)) (fun j v c e1 e2 => h4 (j + 1) v c (by simpa using e1) (by rw [← e2]; congr 1; omega))
    simp only [Op.eqFields, if_pos hn', Sem.run_bind, run_part_one hi rfl (ho ▸ ex), run_part_one hi rfl (ho ▸ ey), run_equalIn_int w d _ k k a b ht, Result.andThen_ok, scEqs, scEq]
    cases hab : a == b
    · simp
    · simpa using ihr
  | bool off f fs a b xs ys hn ho ht size bytes z hi r ih =>
    intro cx cy h1 h2 h3 h4
    simp only [List.length_cons] at h1 h2
    have ex : cx[off]? = some (.bool a) := by
      have hlt : off < cx.size := by omega
      have := h3 0 _ cx[off] rfl (by simp [hlt])
      rw [Array.getElem?_eq_getElem hlt, this.bool_inv]
    have ey : cy[off]? = some (.bool b) := by
      have hlt : off < cy.size := by omega
      have := h4 0 _ cy[off] rfl (by simp [hlt])
      rw [Array.getElem?_eq_getElem hlt, this.bool_inv]
    have hn' : f.name ≠ "_" := by simpa using hn
    have ihr := ih cx cy (by omega) (by omega) (fun j v c e1 e2 => h3 (j + 1) v c (by simpa using e1) (by rw [← e2]; congr 1; omega)) (fun j v c e1 e2 => h4 (j + 1) v c (by simpa using e1) (by rw [← e2]; congr 1; omega))
    simp only [Op.eqFields, if_pos hn', Sem.run_bind, run_part_one hi rfl (ho ▸ ex), run_part_one hi rfl (ho ▸ ey), run_equalIn_bool' w d _ a b ht, Result.andThen_ok, scEqs, scEq]
    cases hab : a == b
    · simp
    · simpa using ihr

theorem run_equal_flat {P : Program} {w : World} {G : Ghost} {t : TypeId} {fs : Array Field} {xs ys : List AV} (hu : P.underlying t = some (.struct fs)) (hp : P.stoodInHeld t = false) (hf : Flat P 0 fs.toList xs ys) {cx cy : Array Value}
    (h1 : cx.size = xs.length) (h2 : cy.size = ys.length) (h3 : ∀ (j : Nat) v c, xs[j]? = some v → cx[j]? = some c → R G v c) (h4 : ∀ (j : Nat) v c, ys[j]? = some v → cy[j]? = some c → R G v c) :
    (Op.equalIn 10000 t (.agg cx) (.agg cy)).run P w = .ok (scEqs xs ys) w := by
  have hfo : P.fieldsOf t = fs := by simp [Program.fieldsOf, hu]
  rw [run_equalIn_struct (P := P) w 9999 t cx cy (by rw [hfo]; exact hu) hp, hfo]
  exact eqFields_flat (G := G) 9998 hf cx cy (by omega) (by omega) (by simpa using h3) (by simpa using h4)

theorem op_eqs {P : Program} {o : Oper} {s : St} {t t' : TypeId} {fs : Array Field} {x y : Operand} {xs ys : List AV} (hu : P.underlying t = some (.struct fs)) (hp : P.stoodInHeld t = false) (hm : P.eqGuardType P.depth t = false) (hf : Flat P 0 fs.toList xs ys)
    (ho : o.op = .binOp .eql t x y t') (hx : ev s.env x = some (.agg xs)) (hy : ev s.env y = some (.agg ys)) : OpT P o s (.bool (scEqs xs ys)) s.bs :=
  op_pure fun G w a hI hE => by
    obtain ⟨cx, e1, l1, r1⟩ := (ev_r hE hx).agg_inv
    obtain ⟨cy, e2, l2, r2⟩ := (ev_r hE hy).agg_inv
    refine ⟨.bool (scEqs xs ys), ?_, .imm _ _ (.bool _)⟩
    simp only [execOp, ho, e1, e2, Sem.run_bind, run_eqGuard_agg w .eql t x y cx cy hm, Result.andThen_ok, run_eql_struct, run_equal_flat hu hp hf l1 l2 r1 r2, Sem.run_pure]

theorem op_nes {P : Program} {o : Oper} {s : St} {t t' : TypeId} {fs : Array Field} {x y : Operand} {xs ys : List AV} (hu : P.underlying t = some (.struct fs)) (hp : P.stoodInHeld t = false) (hm : P.eqGuardType P.depth t = false) (hf : Flat P 0 fs.toList xs ys)
    (ho : o.op = .binOp .neq t x y t') (hx : ev s.env x = some (.agg xs)) (hy : ev s.env y = some (.agg ys)) : OpT P o s (.bool (!(scEqs xs ys))) s.bs :=
  op_pure fun G w a hI hE => by
    obtain ⟨cx, e1, l1, r1⟩ := (ev_r hE hx).agg_inv
    obtain ⟨cy, e2, l2, r2⟩ := (ev_r hE hy).agg_inv
    refine ⟨.bool (!(scEqs xs ys)), ?_, .imm _ _ (.bool _)⟩
    simp only [execOp, ho, e1, e2, Sem.run_bind, run_eqGuard_agg w .neq t x y cx cy hm, Result.andThen_ok, run_neq_struct, run_equal_flat hu hp hf l1 l2 r1 r2, Sem.run_pure]

/-! ### a slice that is written out -/

theorem RI.cells {Z : ZM} {v : AV} {cv : Value} (h : RI Z v cv) (h1 : v.cells.all AV.one = true) : cv.cells.size = v.cells.length ∧ ∀ (j : Nat) x c, v.cells[j]? = some x → cv.cells[j]? = some c → RI Z x c := by
  by_cases ha : ∃ cs, v = .agg cs
  · obtain ⟨cs, rfl⟩ := ha
    cases h with
    | agg _ vs hl hr => exact ⟨hl, hr⟩
  · have hc : v.cells = [v] := by
      cases v <;> first | rfl | exact absurd ⟨_, rfl⟩ ha
    rw [hc] at h1 ⊢
    have hv : v.one = true := by simpa using h1
    have h2 : cv.cells = #[cv] := by
      cases h <;> first | (simp [AV.one] at hv; done) | rfl
    rw [h2]
    refine ⟨rfl, fun j x c e1 e2 => ?_⟩
    cases j with
    | zero => simp at e1 e2; subst e1 e2; exact h
    | succ j => simp at e1

def szAll (size : Nat) : List AV → Bool
  | [] => true
  | d :: r => Nat.beq d.cells.length size && d.cells.all AV.one && szAll size r
theorem szAll_get {size : Nat} : ∀ {ds : List AV}, szAll size ds = true → ∀ (j : Nat) d, ds[j]? = some d → d.cells.length = size ∧ d.cells.all AV.one = true
  | [], _, j, d, e => by simp at e
  | x :: r, h, j, d, e => by
    simp only [szAll, Bool.and_eq_true] at h
    cases j with
    | zero => simp at e; subst e; exact ⟨Nat.eq_of_beq_eq_true h.1.1, h.1.2⟩
    | succ j => exact szAll_get h.2 j d (by simpa using e)

theorem op_bslice {P : Program} {o : Oper} {s : St} {t e : TypeId} {len : Nat} {ps : List (Nat × Operand)} {avs ds : List AV} {size bytes : Nat} {z : Value} {d : TypeDesc}
    (ht : P.underlying t = some (.slice e)) (he : Inf P e size bytes z d) (ho : o.op = .buildSlice t len ps.toArray) (hps : ps = ((ps.map Prod.snd).zipIdx 0).map fun x => (x.2, x.1)) (hlen : (ps.map Prod.snd).length = len)
    (hs0 : 0 < size) (hl0 : 0 < len) (hsmall : len * size ≤ 16777216) (hv : evs s.env (ps.map Prod.snd) = some avs) (hi : imms s.bs avs = some ds) (hd : szAll size ds = true) : OpT P o s (.lst true ds) s.bs := by
  refine OpT.of (by simp [ho]) ?_
  intro G w a hI hE K Q hK
  generalize ps.map Prod.snd = xs at hps hlen hv
  obtain ⟨ie, hie, hsz, _, hz⟩ := he.info
  obtain ⟨hl1, hr1⟩ := evs_r hE hv
  have hr2 : ∀ (j : Nat) x c, ds[j]? = some x → (xs.map a.eval).toArray[j]? = some c → RI G.Z x c := by
    refine imms_ri hI hi fun j v c e1 e2 => ?_
    simp only [List.getElem?_toArray, List.getElem?_map, Option.map_eq_some_iff] at e2
    obtain ⟨y, hy, rfl⟩ := e2
    exact hr1 j v y e1 hy
  have hld : ds.length = xs.length := (imms_get hi).1.trans hl1
  let cvs := xs.map a.eval
  have hcv : ∀ (j : Nat) x, ds[j]? = some x → ∃ c, cvs[j]? = some c ∧ RI G.Z x c := fun j x e => by
    have hj : j < xs.length := hld ▸ lt_of_get e
    exact ⟨a.eval xs[j], by simp [cvs, hj], hr2 j x _ e (by simp [hj])⟩
  have hcs : ∀ v ∈ cvs, v.cells.size = size := fun v hv => by
    obtain ⟨j, hj, rfl⟩ := List.getElem_of_mem hv
    have hj' : j < ds.length := by simp [cvs] at hj; omega
    obtain ⟨c, hc, hri⟩ := hcv j ds[j] (by simp [hj'])
    obtain ⟨g1, g2⟩ := szAll_get hd j ds[j] (by simp [hj'])
    have : cvs[j] = c := by rw [List.getElem?_eq_getElem hj] at hc; exact Option.some.inj hc
    rw [this, (hri.cells g2).1, g1]
  let cells : Array Value := (cvs.flatMap fun v => v.cells.toList).toArray
  have hcells : ∀ (j q : Nat) (x : AV) y, ds[j]? = some x → x.cells[q]? = some y → ∃ c, cells[j * size + q]? = some c ∧ RI G.Z y c := fun j q x y e1 e2 => by
    obtain ⟨c, hc, hri⟩ := hcv j x e1
    obtain ⟨g1, g2⟩ := szAll_get hd j x e1
    have hq : q < size := g1 ▸ lt_of_get e2
    have hqc : q < c.cells.size := by rw [(hri.cells g2).1, g1]; exact hq
    refine ⟨c.cells[q], ?_, (hri.cells g2).2 q y _ e2 (by simp [hqc])⟩
    have e : cells[j * size + q]? = (cvs.flatMap fun v => v.cells.toList)[j * size + q]? := by simp [cells]
    rw [e, Go.Great.flat_get hs0 cvs hcs (j * size + q)]
    have d1 : (j * size + q) / size = j := by
      rw [Nat.mul_comm, Nat.mul_add_div hs0, Nat.div_eq_of_lt hq, Nat.add_zero]
    have d2 : (j * size + q) % size = q := by
      rw [Nat.mul_comm, Nat.mul_add_mod, Nat.mod_eq_of_lt hq]
    rw [d1, d2, hc]
    simp [hqc]
  have hfill : Instr.fill (fun i => some (i * ie.size, ie.size)) ((Array.range (len * ie.size)).map (z.cells[· % z.cells.size]!)) (ps.toArray.map fun (i, x) => (i, a.eval x)).toList = some cells := by
    rw [hsz]
    have : (ps.toArray.map fun (i, x) => (i, a.eval x)).toList = (cvs.zipIdx 0).map fun x => (x.2, x.1) := by
      rw [hps]
      simp [cvs, List.zipIdx_map, Function.comp_def]
    rw [this]
    exact Go.Great.fill_whole hs0 cvs _ hcs (by simp [cvs, hlen])
  refine wp_buildSlice t e len ps.toArray ho cells ie z ht hie hz (by rw [hsz]; omega) (by rw [hsz]; exact Nat.mul_ne_zero (by omega) (by omega)) hfill ?_
  let w' := w.alloc (.cells cells e)
  let Z' : ZM := fun c o => if c = w.heap.size then cells[o]? else G.Z c o
  have hf : ∀ c, c < w.heap.size → w'.heap[c]? = w.heap[c]? := fun c hc => heap_alloc_old w _ c hc
  have hle : G.Z.le Z' := fun c o v ez => by
    have := z_lt hI ez
    simp only [Z']; rw [if_neg (by omega)]; exact ez
  have hzw : ∀ c o v, Z' c o = some v → rd w' c o = some v := fun c o v ez => by
    simp only [Z'] at ez
    split at ez
    · rename_i hc
      subst hc
      have : w'.heap[w.heap.size]? = some (.cells cells e (0, 0)) := heap_alloc_new w _
      refine rd_cells this ez fun ks vs e0 => ?_
      have hol : o < cells.size := (Array.getElem?_eq_some_iff.1 ez).1
      have hcl : ∀ l : List Value, (∀ v ∈ l, v.cells.size = size) → (l.flatMap fun v => v.cells.toList).length = l.length * size := by
        intro l
        induction l with
        | nil => simp
        | cons a r ih => intro h; simp [ih fun v hv => h v (by simp [hv]), h a (by simp), Nat.succ_mul]; omega
      have hsz' : cells.size = ds.length * size := by
        have := hcl cvs hcs
        simp only [cells, List.size_toArray, this]
        simp [cvs, hld]
      have hq1 : o % size < size := Nat.mod_lt _ hs0
      have hq2 : o / size < ds.length := Nat.div_lt_of_lt_mul (by rw [Nat.mul_comm]; omega)
      have hq0 : o / size * size + o % size = o := by have := Nat.div_add_mod o size; rw [Nat.mul_comm] at this; omega
      obtain ⟨g1, _⟩ := szAll_get hd (o / size) ds[o / size] (by simp [hq2])
      obtain ⟨cv, h1, h2⟩ := hcells (o / size) (o % size) ds[o / size] (ds[o / size].cells[o % size]'(by omega)) (by simp [hq2]) (by simp [g1, hq1])
      rw [hq0, ez] at h1
      exact h2.no_code ks vs ((Option.some.inj h1) ▸ e0)
    · rw [rd_of_frame (hf c (z_lt hI ez))]; exact hI.z c o v ez
  have hnew : ∀ c o v, Z' c o = some v → G.Z c o = some v ∨ w.heap.size ≤ c := fun c o v ez => by
    simp only [Z'] at ez
    split at ez
    · rename_i hc; exact .inr (by omega)
    · exact .inl ez
  have hI' := hI.later (w' := w') (Z' := Z') (by simp [w']) hf hle hnew hzw
  refine hK (.slice (some ⟨w.heap.size, 0, none⟩) len len) w' (G.setZ Z' hle) ⟨.imm _ _ ?_, hI', ⟨fun _ _ h => h, fun _ g h => ⟨g, h, .inl rfl⟩, hle⟩, ⟨rfl, rfl, rfl, by simp [w'], hle, fun c o v ez => ?_, fun c hc _ => hf c hc, fun i c h => .inr ⟨i, h⟩, loop_of_same fun c hc => .inl (hf c hc)⟩⟩
  · have hlen2 : len = ds.length := by omega
    rw [hlen2]
    refine .lst true ds size w.heap.size 0 ds.length (fun j x hx => (szAll_get hd j x hx).1) (fun j x q v cv hx hq hz' => ?_) (fun j q hj hq => ?_) (Nat.le_refl _) (fun _ => rfl)
    · obtain ⟨c, hc, hri⟩ := hcells j q x v hx hq
      simp only [Ghost.setZ, Z', if_true, Nat.zero_add] at hz'
      rw [hc] at hz'
      exact (Option.some.inj hz') ▸ hri.mono hle
    · obtain ⟨g1, _⟩ := szAll_get hd j ds[j] (by simp [hj])
      obtain ⟨c, hc, _⟩ := hcells j q ds[j] (ds[j].cells[q]'(by omega)) (by simp [hj]) (by simp [g1, hq])
      exact ⟨c, by simp only [Ghost.setZ, Z', if_true, Nat.zero_add]; exact hc⟩
  · rcases hnew c o v ez with h | h
    · exact .inl h
    · exact .inr (.inl h)

/-! ### arrays -/

theorem op_iaddr_a {P : Program} {o : Oper} {s : St} {t e : TypeId} {len : Nat} {x y : Operand} {i q : Nat} {k : IntKind} {n : Int} {m : Nat} {size bytes : Nat} {z : Value} {d : TypeDesc} (ht : P.underlying t = some (.array len e)) (he : Inf P e size bytes z d)
    (ho : o.op = .indexAddr t x y) (hx : ev s.env x = some (.ptr i q)) (hy : ev s.env y = some (.int k n)) (hm : n = (m : Int)) (hl : Nat.blt m len = true) : OpT P o s (.ptr i (q + m * size)) s.bs :=
  op_pure fun G w a hI hE => by
    obtain ⟨c, hc, hp⟩ := (ev_r hE hx).ptr_inv
    have hl' : m < len := by simpa [Nat.blt_eq] using hl
    have h0 : (0 : Int) ≤ n := by omega
    have h1 : n < (len : Int) := by omega
    have h2 : n.toNat = m := by omega
    exact ⟨_, by simp [execOp, ho, hp, (ev_r hE hy).int_inv, Instr.indexAt, asIntOf, run_underlying ht, Instr.sureAddr, h0, h1, h2, he.size, addr_add], .ptr i _ c hc⟩

theorem op_iaddr_ae {P : Program} {o : Oper} {s : St} {t e : TypeId} {len : Nat} {x y : Operand} {xs : List AV} {i q : Nat} {k : IntKind} {n : Int} {m : Nat} {u : AV} {size bytes : Nat} {z : Value} {d : TypeDesc} (ht : P.underlying t = some (.array len e)) (he : Inf P e size bytes z d)
    (ho : o.op = .indexAddr t x y) (hx : ev s.env x = some (.eptr xs i q)) (hy : ev s.env y = some (.int k n)) (hm : n = (m : Int)) (hl : Nat.blt m len = true) (hu : xs[i]? = some u) (hq : q + m * size < u.cells.length) : OpT P o s (.eptr xs i (q + m * size)) s.bs :=
  op_pure fun G w a hI hE => by
    obtain ⟨sz, c, q0, hp, g1, g2, g3, g4, g5⟩ := (ev_r hE hx).eptr_inv
    have hl' : m < len := by simpa [Nat.blt_eq] using hl
    have h0 : (0 : Int) ≤ n := by omega
    have h1 : n < (len : Int) := by omega
    have h2 : n.toNat = m := by omega
    have hsz := g1 i u hu
    refine ⟨.pointer (some ⟨c, q0 + i * sz + q + m * size, none⟩), by simp [execOp, ho, hp, (ev_r hE hy).int_inv, Instr.indexAt, asIntOf, run_underlying ht, Instr.sureAddr, h0, h1, h2, he.size, addr_add], .imm _ _ ?_⟩
    rw [Nat.add_assoc (q0 + i * sz) q (m * size)]
    exact .eptr xs i (q + m * size) sz c q0 g1 g2 g3 g4 (by omega)

theorem op_index {P : Program} {o : Oper} {s : St} {t e : TypeId} {len : Nat} {x y : Operand} {cs : List AV} {k : IntKind} {n : Int} {m : Nat} {v : AV} {size bytes : Nat} {z : Value} {d : TypeDesc} (ht : P.underlying t = some (.array len e)) (he : Inf P e size bytes z d) (hd : isAggD d = false)
    (ho : o.op = .index t x y) (hx : ev s.env x = some (.agg cs)) (hy : ev s.env y = some (.int k n)) (hm : n = (m : Int)) (hl : Nat.blt m len = true) (hv : cs[m * size]? = some v) : OpT P o s v s.bs :=
  op_pure fun G w a hI hE => by
    obtain ⟨vs, hp, hl2, hr⟩ := (ev_r hE hx).agg_inv
    have hl' : m < len := by simpa [Nat.blt_eq] using hl
    have h0 : (0 : Int) ≤ n := by omega
    have h1 : n < (len : Int) := by omega
    have h2 : n.toNat = m := by omega
    have hlt : m * size < vs.size := by rw [hl2]; exact lt_of_get hv
    refine ⟨vs[m * size], ?_, hr _ v _ hv (by simp [hlt])⟩
    have := run_part_one (w := w) he hd (cs := vs) (off := m * size) (v := vs[m * size]) (by simp [hlt])
    simp [execOp, ho, hp, (ev_r hE hy).int_inv, Instr.index, asIntOf, run_underlying ht, h0, h1, h2, he.size, this]

theorem op_index_agg {P : Program} {o : Oper} {s : St} {t e : TypeId} {len : Nat} {x y : Operand} {cs ds : List AV} {k : IntKind} {n : Int} {m : Nat} {size bytes : Nat} {z : Value} {d : TypeDesc} (ht : P.underlying t = some (.array len e)) (he : Inf P e size bytes z d) (hd : isAggD d = true)
    (ho : o.op = .index t x y) (hx : ev s.env x = some (.agg cs)) (hy : ev s.env y = some (.int k n)) (hm : n = (m : Int)) (hl : Nat.blt m len = true) (hs : m * size + size ≤ cs.length) (hv : (cs.drop (m * size)).take size = ds) : OpT P o s (.agg ds) s.bs :=
  op_pure fun G w a hI hE => by
    subst hv
    obtain ⟨vs, hp, hl2, hr⟩ := (ev_r hE hx).agg_inv
    have hl' : m < len := by simpa [Nat.blt_eq] using hl
    have h0 : (0 : Int) ≤ n := by omega
    have h1 : n < (len : Int) := by omega
    have h2 : n.toNat = m := by omega
    have hpart : (part e vs (m * size)).run P w = .ok (.agg (vs.extract (m * size) (m * size + size))) w := by simp [part, he.isAgg, hd, he.size]
    refine ⟨.agg (vs.extract (m * size) (m * size + size)), ?_, .agg _ _ ?_ fun j v cv e1 e2 => ?_⟩
    · simp [execOp, ho, hp, (ev_r hE hy).int_inv, Instr.index, asIntOf, run_underlying ht, h0, h1, h2, he.size, hpart]
    · simp; omega
    · rw [List.getElem?_take] at e1
      split at e1
      · rename_i hj
        rw [List.getElem?_drop] at e1
        refine hr _ v cv e1 ?_
        rw [Array.getElem?_extract] at e2
        split at e2
        · exact e2
        · cases e2
      · cases e1

theorem op_build_a {P : Program} {o : Oper} {s : St} {t e : TypeId} {len : Nat} {ps : List (Nat × Operand)} {aps : List (Nat × AV)} {size bytes size' bytes' : Nat} {z z' : Value} {d' : TypeDesc} {zs cs : List AV}
    (ht : Inf P t size bytes z (.array len e)) (he : Inf P e size' bytes' z' d') (hz : ofConst z = some (.agg zs)) (ho : o.op = .build t ps.toArray) (hp : evp s.env ps = some aps)
    (hf : afill (fun (i : Nat) => some (i * size', size')) zs aps = some cs) : OpT P o s (.agg cs) s.bs :=
  op_pure fun G w a hI hE => by
    obtain ⟨hl, hr⟩ := evp_r hE hp
    obtain ⟨vs, rfl, hzl, hzr⟩ := (R.imm (G := G) _ _ (ofConst_ri hz)).agg_inv
    obtain ⟨out, h1, h2, h3⟩ := fill_of aps (ps.map fun p => (p.1, a.eval p.2)) zs cs vs hl hr hzl.symm hzr hf
    refine ⟨.agg out, ?_, .agg cs out h2 h3⟩
    simp only [execOp, ho, Instr.build, Sem.run_bind, ht.zero, Result.andThen_ok, ht.under, he.size, Value.cells, List.map_toArray, h1, Sem.run_pure]

/-! ### results -/


/-! ### the results, out of slots and out of memory -/

inductive ResOk (P : Program) (s : St) : ResultVar → AV → Prop where
  | tmp (t : Nat) (v : AV) (h : s.env.get t = some v) : ResOk P s (.tmp t) v
  | cell (a t i o size bytes : Nat) (z : Value) (d : TypeDesc) (cs : List AV) (v : AV) (ht : Inf P t size bytes z d) (hd : isAggD d = false) (h : s.env.get a = some (.ptr i o)) (hb : s.bs[i]? = some (.cells cs)) (hv : cs[o]? = some v) : ResOk P s (.cell a t) v
  | agg (a t i o size bytes : Nat) (z : Value) (d : TypeDesc) (cs ds : List AV) (ht : Inf P t size bytes z d) (hd : isAggD d = true) (h : s.env.get a = some (.ptr i o)) (hb : s.bs[i]? = some (.cells cs)) (hs : o + size ≤ cs.length)
      (hv : (cs.drop o).take size = ds) : ResOk P s (.cell a t) (.agg ds)

inductive ResAll (P : Program) (s : St) : List ResultVar → List AV → Prop where
  | nil : ResAll P s [] []
  | cons {r : ResultVar} {v : AV} {rs : List ResultVar} {vs : List AV} (h : ResOk P s r v) (t : ResAll P s rs vs) : ResAll P s (r :: rs) (v :: vs)

def resRun (tmps : Array Value) : ResultVar → Sem Value
  | .tmp t => pure (tmps.getD t undef)
  | .cell a t => do loadVar t (← asAddr (tmps.getD a undef))

theorem ResOk.run {P : Program} {s : St} {rv : ResultVar} {v : AV} (h : ResOk P s rv v) {G : Ghost} {w : World} {tmps : Array Value} (hE : EnvR G s.env tmps) (hI : Inv G s.bs w) : ∃ cv, (resRun tmps rv).run P w = .ok cv w ∧ R G v cv := by
  cases h with
  | tmp t v h =>
    obtain ⟨cv, e, r⟩ := hE t v h
    exact ⟨cv, by simp [resRun, e], r⟩
  | cell a t i o size bytes z d cs v ht hd h hb hv =>
    obtain ⟨cv, e, r⟩ := hE a _ h
    obtain ⟨c, hc, rfl⟩ := r.ptr_inv
    obtain ⟨arr, et, hh, hl, hrr, _⟩ := inv_cells hI hb hc
    have hk : o < arr.size := Nat.lt_of_lt_of_le (lt_of_get hv) hl
    have hcell : w.cell? ⟨c, o, none⟩ = some arr[o] := by simp [World.cell?, hh, hk]
    exact ⟨arr[o], by simp [resRun, e, asAddr, loadVar, ht.isAgg, hd, hcell], hrr o v _ hv (by simp [hk])⟩
  | agg a t i o size bytes z d cs ds ht hd h hb hs hv =>
    subst hv
    obtain ⟨cv, e, r⟩ := hE a _ h
    obtain ⟨c, hc, rfl⟩ := r.ptr_inv
    obtain ⟨arr, et, hh, hl, hrr, _⟩ := inv_cells hI hb hc
    have hrun := loadCells_at (P := P) hh size (o := o) (by omega)
    refine ⟨.agg (arr.extract o (o + size)), by simp [resRun, e, asAddr, loadVar, ht.isAgg, hd, ht.size, hrun], .agg _ _ (by simp; omega) fun j v cv e1 e2 => ?_⟩
    rw [List.getElem?_take] at e1
    split at e1
    · rename_i hj
      rw [List.getElem?_drop] at e1
      rw [Array.getElem?_extract] at e2
      split at e2
      · exact hrr (o + j) v cv e1 e2
      · cases e2
    · cases e1

theorem ResAll.run {P : Program} {s : St} {rvs : List ResultVar} {vs : List AV} (h : ResAll P s rvs vs) {G : Ghost} {w : World} {tmps : Array Value} (hE : EnvR G s.env tmps) (hI : Inv G s.bs w) :
    ∃ cvs : List Value, (rvs.mapM (resRun tmps)).run P w = .ok cvs w ∧ cvs.length = vs.length ∧ ∀ (j : Nat) v c, vs[j]? = some v → cvs[j]? = some c → R G v c := by
  induction h with
  | nil => exact ⟨[], by simp, rfl, by simp⟩
  | cons h _ ih =>
    obtain ⟨cv, e1, r1⟩ := h.run hE hI
    obtain ⟨cvs, e2, hl, hr⟩ := ih
    refine ⟨cv :: cvs, by simp [List.mapM_cons, e1, e2], by simp [hl], fun j v c f1 f2 => ?_⟩
    cases j with
    | zero => simp at f1 f2; subst f1 f2; exact r1
    | succ j => exact hr j v c (by simpa using f1) (by simpa using f2)

def one1 : List AV → AV
  | [v] => v
  | vs => .tup vs

theorem results_run {P : Program} {fn : Func} {s : St} {rvs : List ResultVar} {vs : List AV} (hr : fn.results = rvs.toArray) (h : ResAll P s rvs vs) {G : Ghost} {w : World} {tmps : Array Value} (hE : EnvR G s.env tmps) (hI : Inv G s.bs w) :
    ∃ cv, (results fn tmps).run P w = .ok cv w ∧ R G (one1 vs) cv := by
  obtain ⟨cvs, e, hl, hrr⟩ := h.run hE hI
  have e2 : (fn.results.mapM (resRun tmps)).run P w = .ok cvs.toArray w := by
    rw [hr, List.mapM_toArray]
    simp [e]
  have e3 : (results fn tmps).run P w = .ok (if h : cvs.toArray.size = 1 then cvs.toArray[0] else .tuple cvs.toArray) w := by
    show (do let vs ← fn.results.mapM (resRun tmps); pure (if h : vs.size = 1 then vs[0] else .tuple vs) : Sem Value).run P w = _
    rw [Sem.run_bind, e2]
    simp
  refine ⟨_, e3, ?_⟩
  match vs, cvs, hl, hrr with
  | [], [], _, hrr => simp only [one1]; exact rtup (cvs := []) rfl hrr
  | [v], [c], _, hrr => simpa [one1] using hrr 0 v c rfl rfl
  | v :: u :: vs, c :: d :: cvs, hl, hrr => simpa [one1] using rtup (cvs := c :: d :: cvs) hl hrr

theorem retN {P : Program} {fn : Func} {s : St} {rvs : List ResultVar} {vs : List AV} {v : AV} (hr : fn.results = rvs.toArray) (h : ResAll P s rvs vs) (k : Nat) (hs : snap s.bs k (one1 vs) = some v) : RetOk P fn s v :=
  fun _ _ _ hE hI => let ⟨cv, e, r⟩ := results_run hr h hE hI; ⟨cv, one1 vs, k, e, r, hs⟩

end
end Go.Proofs.YtelgmdljcbkniaaGreatDoor.Ai

/- An interpreter of values for the model's code, base text 11: the contract of a function that may change blocks that it is handed and hand back new ones, and its call. -/
namespace Go.Proofs.YtelgmdljcbkniaaGreatDoor.Ai
noncomputable section
open Go

mutual
/-- The blocks by other numbers. -/
def ren (σ : Nat → Nat) : AV → AV
  | .agg cs => .agg (rens σ cs)
  | .tup cs => .tup (rens σ cs)
  | .fn f cs => .fn f (rens σ cs)
  | .ptr i o => .ptr (σ i) o
  | .rptr i j z o => .rptr (σ i) j z o
  | .slc i o z l c => .slc (σ i) o z l c
  | .gsl i n => .gsl (σ i) n
  | .map i => .map (σ i)
  | .yld i => .yld (σ i)
  | .optr i n j z o => .optr (σ i) n j z o
  | .oslc i n o z l c => .oslc (σ i) n o z l c
  | v => v
def rens (σ : Nat → Nat) : List AV → List AV
  | [] => []
  | v :: r => ren σ v :: rens σ r
end

theorem rens_get (σ : Nat → Nat) : ∀ (cs : List AV) (j : Nat), (rens σ cs)[j]? = (cs[j]?).map (ren σ)
  | [], j => by simp [rens]
  | v :: r, 0 => by simp [rens]
  | v :: r, j + 1 => by simpa [rens] using rens_get σ r j
theorem rens_len (σ : Nat → Nat) : ∀ (cs : List AV), (rens σ cs).length = cs.length
  | [] => rfl
  | v :: r => by simp [rens, rens_len σ r]

theorem rens_same {σ : Nat → Nat} {cs : List AV} (h : ∀ (j : Nat) v, cs[j]? = some v → ren σ v = v) : rens σ cs = cs := by
  apply List.ext_getElem?
  intro j
  rw [rens_get]
  cases e : cs[j]? with
  | none => rfl
  | some v => simp [h j v e]

theorem ren_ri {Z : ZM} {v : AV} {cv : Value} (σ : Nat → Nat) (h : RI Z v cv) : ren σ v = v := by
  induction h with
  | agg cs vs hl _ ih => simp only [ren]; rw [rens_same fun j v e => ih j v (vs[j]'(by rw [hl]; exact lt_of_get e)) e (by simp [hl, lt_of_get e])]
  | tup cs vs hl _ ih => simp only [ren]; rw [rens_same fun j v e => ih j v (vs[j]'(by rw [hl]; exact lt_of_get e)) e (by simp [hl, lt_of_get e])]
  | fn f cs vs hl _ ih => simp only [ren]; rw [rens_same fun j v e => ih j v (vs[j]'(by rw [hl]; exact lt_of_get e)) e (by simp [hl, lt_of_get e])]
  | _ => rfl

theorem r_ren {G0 G : Ghost} {σ : Nat → Nat} (hc : ∀ i c, G0.cl i = some c → G.cl (σ i) = some c) (hg : ∀ i g, G0.gr i = some g → G.gr (σ i) = some g) (hz : G0.Z.le G.Z) {v : AV} {cv : Value} (h : R G0 v cv) : R G (ren σ v) cv := by
  induction h with
  | imm v cv h => rw [ren_ri σ h]; exact .imm _ _ (h.mono hz)
  | und cv => exact .und cv
  | ptr i o c h => exact .ptr _ _ _ (hc i c h)
  | rptr i j z o c h => exact .rptr _ _ _ _ _ (hc i c h)
  | slc i o sz len cap c ccap h hl hcap => exact .slc _ _ _ _ _ _ _ (hc i c h) hl hcap
  | gsl i len b l c h => exact .gsl _ _ _ _ _ (hg i _ h)
  | stale i len g b l c h hn => exact .stale _ _ g _ _ _ (hg i g h) hn
  | map i c h => exact .map _ _ (hc i c h)
  | yld i c h => exact .yld _ _ (hc i c h)
  | optr i n j sz o c l cap h => exact .optr _ _ _ _ _ _ _ _ (hg i _ h)
  | optrS i n j sz o g b h hn => exact .optrS _ _ _ _ _ g _ (hg i g h) hn
  | oslc i n o sz len cap c l lcap ccap h hl hcap => exact .oslc _ _ _ _ _ _ _ _ _ _ (hg i _ h) hl hcap
  | oslcS i n o sz len cap g b l c h hn => exact .oslcS _ _ _ _ _ _ g _ _ _ (hg i g h) hn
  | agg cs vs hl _ ih =>
    refine .agg _ vs (by rw [rens_len]; exact hl) fun j v cv e1 e2 => ?_
    rw [rens_get, Option.map_eq_some_iff] at e1
    obtain ⟨u, e1, rfl⟩ := e1
    exact ih j u cv e1 e2
  | tup cs vs hl _ ih =>
    refine .tup _ vs (by rw [rens_len]; exact hl) fun j v cv e1 e2 => ?_
    rw [rens_get, Option.map_eq_some_iff] at e1
    obtain ⟨u, e1, rfl⟩ := e1
    exact ih j u cv e1 e2
  | fn f cs vs hl _ ih =>
    refine .fn f _ vs (by rw [rens_len]; exact hl) fun j v cv e1 e2 => ?_
    rw [rens_get, Option.map_eq_some_iff] at e1
    obtain ⟨u, e1, rfl⟩ := e1
    exact ih j u cv e1 e2

mutual
theorem r_unren {G0 G : Ghost} {σ : Nat → Nat} {n : Nat} (hc : ∀ i, i < n → G0.cl i = G.cl (σ i)) (hg : ∀ i, i < n → G0.gr i = G.gr (σ i)) (hz : G0.Z = G.Z) : ∀ {v : AV} {cv : Value}, below n v = true → R G (ren σ v) cv → R G0 v cv := by
  intro v cv hb h
  cases v with
  | ptr i o =>
    have hi : i < n := by simpa [below, Nat.blt_eq] using hb
    simp only [ren] at h
    cases h with
    | imm _ _ h => cases h
    | ptr _ _ c h => exact .ptr _ _ c (by rw [hc i hi]; exact h)
  | rptr i j z o =>
    have hi : i < n := by simpa [below, Nat.blt_eq] using hb
    simp only [ren] at h
    cases h with
    | imm _ _ h => cases h
    | rptr _ _ _ _ c h => exact .rptr _ _ _ _ c (by rw [hc i hi]; exact h)
  | slc i o z l c =>
    have hi : i < n := by simpa [below, Nat.blt_eq] using hb
    simp only [ren] at h
    cases h with
    | imm _ _ h => cases h
    | slc _ _ _ _ _ c ccap h hl hcap => exact .slc _ _ _ _ _ c ccap (by rw [hc i hi]; exact h) hl hcap
  | gsl i l =>
    have hi : i < n := by simpa [below, Nat.blt_eq] using hb
    simp only [ren] at h
    cases h with
    | imm _ _ h => cases h
    | gsl _ _ b l c h => exact .gsl _ _ b l c (by rw [hg i hi]; exact h)
    | stale _ _ g b l c h hn => exact .stale _ _ g b l c (by rw [hg i hi]; exact h) hn
  | map i =>
    have hi : i < n := by simpa [below, Nat.blt_eq] using hb
    simp only [ren] at h
    cases h with
    | imm _ _ h => cases h
    | map _ c h => exact .map _ c (by rw [hc i hi]; exact h)
  | agg cs =>
    simp only [ren] at h
    obtain ⟨vs, rfl, hl, hr⟩ := h.agg_inv
    rw [rens_len] at hl
    exact .agg cs vs hl (rs_unren hc hg hz (by simpa [below] using hb) hr)
  | tup cs =>
    simp only [ren] at h
    obtain ⟨vs, rfl, hl, hr⟩ := h.tup_inv
    rw [rens_len] at hl
    exact .tup cs vs hl (rs_unren hc hg hz (by simpa [below] using hb) hr)
  | fn f cs =>
    simp only [ren] at h
    obtain ⟨vs, rfl, hl, hr⟩ := h.fn_inv
    rw [rens_len] at hl
    exact .fn f cs vs hl (rs_unren hc hg hz (by simpa [below] using hb) hr)
  | und => exact .und _
  | int k m => simp only [ren] at h; cases h with | imm _ _ h => exact .imm _ _ (hz ▸ h)
  | bool b => simp only [ren] at h; cases h with | imm _ _ h => exact .imm _ _ (hz ▸ h)
  | str b => simp only [ren] at h; cases h with | imm _ _ h => exact .imm _ _ (hz ▸ h)
  | nilp => simp only [ren] at h; cases h with | imm _ _ h => exact .imm _ _ (hz ▸ h)
  | eptr xs i o => simp only [ren] at h; cases h with | imm _ _ h => exact .imm _ _ (hz ▸ h)
  | lst ex xs => simp only [ren] at h; cases h with | imm _ _ h => exact .imm _ _ (hz ▸ h)
  | nils => simp only [ren] at h; cases h with | imm _ _ h => exact .imm _ _ (hz ▸ h)
  | nilmap => simp only [ren] at h; cases h with | imm _ _ h => exact .imm _ _ (hz ▸ h)
  | nilfn => simp only [ren] at h; cases h with | imm _ _ h => exact .imm _ _ (hz ▸ h)
  | yld i =>
    have hi : i < n := by simpa [below, Nat.blt_eq] using hb
    simp only [ren] at h
    cases h with
    | imm _ _ h => cases h
    | yld _ c h => exact .yld _ c (by rw [hc i hi]; exact h)
  | optr i m j z o =>
    have hi : i < n := by simpa [below, Nat.blt_eq] using hb
    simp only [ren] at h
    cases h with
    | imm _ _ h => cases h
    | optr _ _ _ _ _ c l cap h => exact .optr _ _ _ _ _ c l cap (by rw [hg i hi]; exact h)
    | optrS _ _ _ _ _ g b h hn => exact .optrS _ _ _ _ _ g b (by rw [hg i hi]; exact h) hn
  | oslc i m o z l cp =>
    have hi : i < n := by simpa [below, Nat.blt_eq] using hb
    simp only [ren] at h
    cases h with
    | imm _ _ h => cases h
    | oslc _ _ _ _ _ _ c l lcap ccap h hl hcap => exact .oslc _ _ _ _ _ _ c l lcap ccap (by rw [hg i hi]; exact h) hl hcap
    | oslcS _ _ _ _ _ _ g b l c h hn => exact .oslcS _ _ _ _ _ _ g b l c (by rw [hg i hi]; exact h) hn
  | imap ks vs => simp only [ren] at h; cases h with | imm _ _ h => exact .imm _ _ (hz ▸ h)
termination_by v => SizeOf.sizeOf v
theorem rs_unren {G0 G : Ghost} {σ : Nat → Nat} {n : Nat} (hc : ∀ i, i < n → G0.cl i = G.cl (σ i)) (hg : ∀ i, i < n → G0.gr i = G.gr (σ i)) (hz : G0.Z = G.Z) : ∀ {cs : List AV} {vs : Array Value}, belows n cs = true →
    (∀ (j : Nat) v c, (rens σ cs)[j]? = some v → vs[j]? = some c → R G v c) → ∀ (j : Nat) x c, cs[j]? = some x → vs[j]? = some c → R G0 x c
  | [], vs, _, _, j, x, c, e, _ => by simp at e
  | v :: r, vs, hb, hr, j, x, c, e1, e2 => by
    have hv : below n v = true ∧ belows n r = true := by
      simp only [belows] at hb
      cases hx : below n v with
      | true => rw [hx] at hb; exact ⟨rfl, hb⟩
      | false => rw [hx] at hb; cases hb
    cases j with
    | zero => simp at e1; subst e1; exact r_unren hc hg hz hv.1 (hr 0 _ c (by simp [rens]) e2)
    | succ j =>
      exact rs_unren hc hg hz (cs := r) (vs := (vs.toList.drop 1).toArray) hv.2 (fun k u d f1 f2 => hr (k + 1) u d (by simpa [rens] using f1) (by simpa [Nat.add_comm] using f2)) j x c (by simpa using e1) (by simpa [Nat.add_comm] using e2)
termination_by cs => SizeOf.sizeOf cs
end

def renE (σ : Nat → Nat) : Env → Env
  | [] => []
  | (d, v) :: r => (d, ren σ v) :: renE σ r

def renB (σ : Nat → Nat) : Blk → Blk
  | .cells cs => .cells (rens σ cs)
  | .rows sz xs => .rows sz (rens σ xs)
  | .grow e sz xs => .grow e sz xs
  | .map es => .map (es.map fun e => (e.1, ren σ e.2))
  | .gone => .gone
  | .own e sz xs => .own e sz (rens σ xs)
  | .lp n env ps as cd st pe => .lp n (renE σ env) ps as cd st pe

theorem renE_get (σ : Nat → Nat) : ∀ (env : Env) (t : Nat), (renE σ env).get t = (env.get t).map (ren σ)
  | [], _ => rfl
  | (d, v) :: r, t => by
    simp only [renE, Env.get_cons, renE_get σ r t]
    split <;> rfl

theorem rens_app (σ : Nat → Nat) : ∀ (xs ys : List AV), rens σ (xs ++ ys) = rens σ xs ++ rens σ ys
  | [], _ => rfl
  | x :: r, ys => by simp [rens, rens_app σ r ys]
theorem ren_cells (σ : Nat → Nat) (x : AV) : (ren σ x).cells = rens σ x.cells := by
  cases x <;> simp [ren, AV.cells, rens]
theorem rens_flat (σ : Nat → Nat) : ∀ (xs : List AV), flat (rens σ xs) = rens σ (flat xs)
  | [] => rfl
  | x :: r => by
    show (ren σ x).cells ++ flat (rens σ r) = rens σ (x.cells ++ flat r)
    rw [rens_app, ren_cells, rens_flat σ r]
theorem rens_sz {σ : Nat → Nat} {sz : Nat} {xs : List AV} : (∀ x ∈ rens σ xs, x.cells.length = sz) ↔ ∀ x ∈ xs, x.cells.length = sz := by
  constructor
  · intro h x hx
    obtain ⟨j, hj, rfl⟩ := List.getElem_of_mem hx
    have := h (ren σ xs[j]) (List.mem_of_getElem? (i := j) (by rw [rens_get, List.getElem?_eq_getElem hj]; rfl))
    rwa [ren_cells, rens_len] at this
  · intro h y hy
    obtain ⟨j, hj, rfl⟩ := List.getElem_of_mem hy
    have hj' : j < xs.length := by rwa [rens_len] at hj
    have e : (rens σ xs)[j]? = some (ren σ xs[j]) := by rw [rens_get, List.getElem?_eq_getElem hj']; rfl
    rw [List.getElem?_eq_getElem hj] at e
    rw [Option.some.inj e, ren_cells, rens_len]
    exact h _ (List.getElem_mem hj')

theorem blk_ren {G0 G : Ghost} {w : World} {σ : Nat → Nat} (hc : ∀ i c, G0.cl i = some c → G.cl (σ i) = some c) (hg : ∀ i g, G0.gr i = some g → G.gr (σ i) = some g) (hz : G0.Z = G.Z) {i : Nat} (hci : G.cl (σ i) = G0.cl i) (hgi : G.gr (σ i) = G0.gr i) {b : Blk}
    (h : BlkOk G0 w i b) : BlkOk G w (σ i) (renB σ b) := by
  have hzl : G0.Z.le G.Z := hz ▸ .refl _
  have key : ∀ cs, CellsOk G0 w i cs → CellsOk G w (σ i) (rens σ cs) := fun cs h => by
    refine ⟨hgi.trans h.1, fun c e => ?_⟩
    rw [hci] at e
    obtain ⟨arr, et, h1, h2, h3, h4⟩ := h.2 c e
    refine ⟨arr, et, h1, by rw [rens_len]; exact h2, fun j v cv e1 e2 => ?_, fun o => by rw [← hz]; exact h4 o⟩
    rw [rens_get, Option.map_eq_some_iff] at e1
    obtain ⟨u, e1, rfl⟩ := e1
    exact r_ren hc hg hzl (h3 j u cv e1 e2)
  cases b with
  | cells cs => exact key cs h
  | rows sz xs => exact ⟨by rw [rens_flat]; exact key _ h.1, h.2.1, rens_sz.2 h.2.2⟩
  | grow e sz xs =>
    refine ⟨hci.trans h.1, fun g e => ?_⟩
    rw [hgi] at e
    rw [← hz]
    exact h.2 g e
  | map es =>
    refine ⟨hgi.trans h.1, fun c e => ?_⟩
    rw [hci] at e
    obtain ⟨ents, clock, h1, h2, h3, h4⟩ := h.2 c e
    refine ⟨ents, clock, h1, by simpa using h2, fun j e ce e1 e2 => ?_, fun o => by rw [← hz]; exact h4 o⟩
    rw [List.getElem?_map, Option.map_eq_some_iff] at e1
    obtain ⟨u, e1, rfl⟩ := e1
    exact ⟨hz ▸ (h3 j u ce e1 e2).1, r_ren hc hg hzl (h3 j u ce e1 e2).2⟩
  | gone => exact ⟨hci.trans h.1, hgi.trans h.2⟩
  | own e sz xs =>
    refine ⟨hci.trans h.1, fun g eg => ?_⟩
    rw [hgi] at eg
    obtain ⟨h1, h2, h3, cs, h4, h5, h6⟩ := h.2 g eg
    refine ⟨by rw [rens_len]; exact h1, h2, fun j x ex => ?_, cs, by rw [rens_len]; exact h4, fun j x q v cv e1 e2 e3 => ?_, fun c ec k => by rw [← hz]; exact h6 c ec k⟩
    · rw [rens_get, Option.map_eq_some_iff] at ex
      obtain ⟨u, eu, rfl⟩ := ex
      rw [ren_cells, rens_len]; exact h3 j u eu
    · rw [rens_get, Option.map_eq_some_iff] at e1
      obtain ⟨u, eu, rfl⟩ := e1
      rw [ren_cells, rens_get, Option.map_eq_some_iff] at e2
      obtain ⟨t, et, rfl⟩ := e2
      exact r_ren hc hg hzl (h5 j u q t cv eu et e3)
  | lp n env ps as cd st pe =>
    refine ⟨hgi.trans h.1, fun c e => ?_⟩
    rw [hci] at e
    obtain ⟨rec, h1, h2, h3, h4, h5, h6, h7, h8, h9⟩ := h.2 c e
    refine ⟨rec, h1, h2, h3, h4, h5, h6, h7, fun t v e => ?_, fun o => by rw [← hz]; exact h9 o⟩
    rw [renE_get, Option.map_eq_some_iff] at e
    obtain ⟨u, eu, rfl⟩ := e
    obtain ⟨cv, e1, r⟩ := h8 t u eu
    exact ⟨cv, e1, r_ren hc hg hzl r⟩

theorem blk_unren {G0 G : Ghost} {w : World} {σ : Nat → Nat} {n : Nat} (hc : ∀ i, i < n → G0.cl i = G.cl (σ i)) (hg : ∀ i, i < n → G0.gr i = G.gr (σ i)) (hz : G0.Z = G.Z) {i : Nat} (hi : i < n) {b : Blk} (hb : belowB n [b] = true)
    (h : BlkOk G w (σ i) (renB σ b)) : BlkOk G0 w i b := by
  have key : ∀ cs, belows n cs = true → CellsOk G w (σ i) (rens σ cs) → CellsOk G0 w i cs := fun cs hb2 h => by
    refine ⟨(hg i hi).trans h.1, fun c e => ?_⟩
    rw [hc i hi] at e
    obtain ⟨arr, et, h1, h2, h3, h4⟩ := h.2 c e
    rw [rens_len] at h2
    exact ⟨arr, et, h1, h2, rs_unren hc hg hz hb2 h3, fun o => by rw [hz]; exact h4 o⟩
  cases b with
  | rows sz xs =>
    have hb2 : belows n xs = true := by
      simp only [belowB] at hb
      cases hx : belows n xs with
      | true => rfl
      | false => rw [hx] at hb; cases hb
    exact ⟨key _ (belows_flat hb2) (by rw [← rens_flat]; exact h.1), h.2.1, rens_sz.1 h.2.2⟩
  | cells cs =>
    have hb2 : belows n cs = true := by
      simp only [belowB] at hb
      cases hx : belows n cs with
      | true => rfl
      | false => rw [hx] at hb; cases hb
    exact key cs hb2 h
  | grow e sz xs =>
    refine ⟨(hc i hi).trans h.1, fun g e => ?_⟩
    rw [hg i hi] at e
    rw [hz]
    exact h.2 g e
  | map es =>
    refine ⟨(hg i hi).trans h.1, fun c e => ?_⟩
    rw [hc i hi] at e
    obtain ⟨ents, clock, h1, h2, h3, h4⟩ := h.2 c e
    have hb2 : belowM n es = true := by
      simp only [belowB] at hb
      cases hx : belowM n es with
      | true => rfl
      | false => rw [hx] at hb; cases hb
    refine ⟨ents, clock, h1, by simpa using h2, fun j e ce e1 e2 => ?_, fun o => by rw [hz]; exact h4 o⟩
    obtain ⟨g1, g2⟩ := h3 j (e.1, ren σ e.2) ce (by rw [List.getElem?_map, e1]; rfl) e2
    exact ⟨hz ▸ g1, r_unren hc hg hz (belowM_get hb2 j e e1) g2⟩
  | gone => exact ⟨(hc i hi).trans h.1, (hg i hi).trans h.2⟩
  | own e sz xs =>
    have hb2 : belows n xs = true := by
      simp only [belowB] at hb
      cases hx : belows n xs with
      | true => rfl
      | false => rw [hx] at hb; cases hb
    refine ⟨(hc i hi).trans h.1, fun g eg => ?_⟩
    rw [hg i hi] at eg
    obtain ⟨h1, h2, h3, cs, h4, h5, h6⟩ := h.2 g eg
    rw [rens_len] at h1 h4
    refine ⟨h1, h2, fun j x ex => ?_, cs, h4, fun j x q v cv e1 e2 e3 => ?_, fun c ec k => by rw [hz]; exact h6 c ec k⟩
    · have := h3 j (ren σ x) (by rw [rens_get, ex]; rfl)
      rwa [ren_cells, rens_len] at this
    · refine r_unren hc hg hz (belows_get (below_cells (belows_get hb2 j x e1)) q v e2) (h5 j (ren σ x) q (ren σ v) cv (by rw [rens_get, e1]; rfl) (by rw [ren_cells, rens_get, e2]; rfl) e3)
  | lp m env ps as cd st pe =>
    have hb2 : belowE n env = true := by
      simp only [belowB] at hb
      cases hx : belowE n env with
      | true => rfl
      | false => rw [hx] at hb; cases hb
    refine ⟨(hg i hi).trans h.1, fun c e => ?_⟩
    rw [hc i hi] at e
    obtain ⟨rec, h1, h2, h3, h4, h5, h6, h7, h8, h9⟩ := h.2 c e
    refine ⟨rec, h1, h2, h3, h4, h5, h6, h7, fun t v e => ?_, fun o => by rw [hz]; exact h9 o⟩
    obtain ⟨cv, e1, r⟩ := h8 t (ren σ v) (by rw [renE_get, e]; rfl)
    exact ⟨cv, e1, r_unren hc hg hz (belowE_get hb2 t v e) r⟩

/-- The contract of a function over its own numbering of the blocks that it is handed: what they hold before and behind it; behind them the new ones. -/
def FOk (P : Program) (f : FuncId) (S : List AV → List Blk → AV → List Blk → Prop) : Prop :=
  ∀ (G : Ghost) (w : World) (cargs : Array Value) (args : List AV) (bs : List Blk) (v : AV) (bs' : List Blk), Inv G bs w → (cargs.size = args.length ∧ ∀ (j : Nat) v c, args[j]? = some v → cargs[j]? = some c → R G v c) → S args bs v bs' →
    Calls P f cargs w fun e w' => ∃ cv G', e = .returned cv ∧ After G w v bs' cv w' G'

/-- The results, read, are the value v; the store is bs'. -/
def endF (P : Program) (fn : Func) (v : AV) (bs' : List Blk) : Exit → St → Prop
  | .normal, s | .ret, s => (∀ (G : Ghost) (w : World) (tmps : Array Value), EnvR G s.env tmps → Inv G s.bs w → ∃ cv, (results fn tmps).run P w = .ok cv w ∧ R G v cv) ∧ s.bs = bs'
  | _, _ => False

theorem F_ok {P : Program} {f : FuncId} {fn : Func} {c : Code} {S : List AV → List Blk → AV → List Blk → Prop} (hf : P.funcs[f]? = some fn) (hb : fn.body = some c)
    (h : ∀ args bs v bs', S args bs v bs' → args.length ≤ fn.ntmps ∧ T P fn.ntmps bs.length c ⟨argEnv args 0, bs⟩ (endF P fn v bs')) : FOk P f S := by
  intro G w cargs args bs v bs' hI hr hS
  obtain ⟨hlen, hT⟩ := h args bs v bs' hS
  refine calls_of_T (G := G) hf hb hI hr hlen hT fun e s' q => ?_
  have fin : ((∀ (G : Ghost) (w : World) (tmps : Array Value), EnvR G s'.env tmps → Inv G s'.bs w → ∃ cv, (results fn tmps).run P w = .ok cv w ∧ R G v cv) ∧ s'.bs = bs') →
      ∀ (G' : Ghost) (w' : World) (tmps : Array Value), EnvR G' s'.env tmps → Inv G' s'.bs w' → G.le G' → Ev G w G' w' → ∃ cv, (results fn tmps).run P w' = .ok cv w' ∧ ∃ cv' G', Ending.returned cv = .returned cv' ∧ After G w v bs' cv' w' G' := by
    intro ⟨hR, hbs⟩ G' w' tmps hE hI' hle hev
    obtain ⟨cv, hrun, hr0⟩ := hR G' w' tmps hE hI'
    exact ⟨cv, hrun, cv, G', rfl, hr0, hbs ▸ hI', hle, hev⟩
  cases e with
  | normal => exact ⟨.inl rfl, fin q⟩
  | ret => exact ⟨.inr rfl, fin q⟩
  | exit id => exact q.elim
  | goto l => exact q.elim
  | panic ch => exact q.elim
  | outgrown => exact q.elim

theorem retF1 {P : Program} {fn : Func} {s : St} {a : Nat} {v : AV} {bs' : List Blk} (hr : fn.results = #[.tmp a]) (h0 : s.env.get a = some v) (hb : s.bs = bs') :
    (∀ (G : Ghost) (w : World) (tmps : Array Value), EnvR G s.env tmps → Inv G s.bs w → ∃ cv, (results fn tmps).run P w = .ok cv w ∧ R G v cv) ∧ s.bs = bs' := by
  refine ⟨fun G w tmps hE _ => ?_, hb⟩
  obtain ⟨cv, e, r⟩ := hE a v h0
  exact ⟨cv, by simp [results, hr, e], r⟩

theorem retF2 {P : Program} {fn : Func} {s : St} {a b : Nat} {v0 v1 : AV} {bs' : List Blk} (hr : fn.results = #[.tmp a, .tmp b]) (h0 : s.env.get a = some v0) (h1 : s.env.get b = some v1) (hb : s.bs = bs') :
    (∀ (G : Ghost) (w : World) (tmps : Array Value), EnvR G s.env tmps → Inv G s.bs w → ∃ cv, (results fn tmps).run P w = .ok cv w ∧ R G (.tup [v0, v1]) cv) ∧ s.bs = bs' := by
  refine ⟨fun G w tmps hE _ => ?_, hb⟩
  obtain ⟨c0, e0, r0⟩ := hE a v0 h0
  obtain ⟨c1, e1, r1⟩ := hE b v1 h1
  refine ⟨.tuple #[c0, c1], by simp [results, hr, e0, e1], rtup (cvs := [c0, c1]) rfl fun j v c f1 f2 => ?_⟩
  match j, f1, f2 with
  | 0, f1, f2 => simp at f1 f2; subst f1 f2; exact r0
  | 1, f1, f2 => simp at f1 f2; subst f1 f2; exact r1
  | j + 2, f1, f2 => simp at f1

theorem retF0 {P : Program} {fn : Func} {s : St} {bs' : List Blk} (hr : fn.results = #[]) (hb : s.bs = bs') :
    (∀ (G : Ghost) (w : World) (tmps : Array Value), EnvR G s.env tmps → Inv G s.bs w → ∃ cv, (results fn tmps).run P w = .ok cv w ∧ R G (.tup []) cv) ∧ s.bs = bs' :=
  ⟨fun G w tmps _ _ => ⟨.tuple #[], by simp [results, hr], .imm _ _ (.tup [] #[] rfl (by simp))⟩, hb⟩

/-! ### the call -/

/-- Where the callee's block i lies in the caller's store of N blocks: the footprint, then the new ones. -/
def spot (fp : List Nat) (N i : Nat) : Nat := match fp[i]? with
  | some k => k
  | none => N + (i - fp.length)

def setAll : List Nat → List Blk → List Blk → List Blk
  | k :: ks, b :: r, bs => setAll ks r (bs.set k b)
  | _, _, bs => bs

/-- The caller's store behind the call: what it handed is as the callee left it; behind it the new blocks. -/
def back (fp : List Nat) (σ : Nat → Nat) (bs bs' : List Blk) : List Blk := setAll fp ((bs'.take fp.length).map (renB σ)) bs ++ (bs'.drop fp.length).map (renB σ)

theorem setAll_len : ∀ (ks : List Nat) (r bs : List Blk), (setAll ks r bs).length = bs.length
  | [], _, _ => rfl
  | _ :: _, [], _ => rfl
  | k :: ks, b :: r, bs => by simp only [setAll]; rw [setAll_len ks r]; simp

theorem setAll_ne : ∀ (ks : List Nat) (r bs : List Blk) (k : Nat), k ∉ ks → (setAll ks r bs)[k]? = bs[k]?
  | [], _, _, _, _ => rfl
  | _ :: _, [], _, _, _ => rfl
  | k' :: ks, b :: r, bs, k, h => by
    simp only [List.mem_cons, not_or] at h
    simp only [setAll]
    rw [setAll_ne ks r _ k h.2, List.getElem?_set_ne (fun e => h.1 e.symm)]

theorem setAll_eq : ∀ (ks : List Nat) (r bs : List Blk) (i k : Nat) (b : Blk), ks.Nodup → ks[i]? = some k → k < bs.length → r[i]? = some b → (setAll ks r bs)[k]? = some b
  | [], _, _, i, _, _, _, h, _, _ => by simp at h
  | _ :: _, [], _, i, _, _, _, _, _, h => by simp at h
  | k' :: ks, b' :: r, bs, i, k, b, hn, h1, h2, h3 => by
    simp only [setAll]
    rw [List.nodup_cons] at hn
    cases i with
    | zero =>
      simp at h1 h3; subst h1 h3
      rw [setAll_ne ks r _ k' hn.1]
      simp [h2]
    | succ i => exact setAll_eq ks r _ i k b hn.2 (by simpa using h1) (by simpa using h2) (by simpa using h3)

def fpOk (N : Nat) : List Nat → Bool
  | [] => true
  | k :: r => Nat.blt k N && !(r.any fun q => Nat.beq q k) && fpOk N r
theorem fpOk_get {N : Nat} : ∀ {fp : List Nat}, fpOk N fp = true → fp.Nodup ∧ ∀ k ∈ fp, k < N
  | [], _ => ⟨.nil, fun k h => by simp at h⟩
  | k :: r, h => by
    simp only [fpOk, Bool.and_eq_true, Bool.not_eq_true'] at h
    obtain ⟨h1, h2⟩ := fpOk_get h.2
    refine ⟨List.nodup_cons.2 ⟨fun hm => ?_, h1⟩, fun q hq => ?_⟩
    · have := h.1.2
      rw [List.any_eq_false] at this
      exact this k hm (Nat.beq_refl k)
    · rcases List.mem_cons.1 hq with rfl | hq
      · simpa [Nat.blt_eq] using h.1.1
      · exact h2 q hq

theorem spot_inj {fp : List Nat} {N : Nat} (hn : fp.Nodup) (hl : ∀ k ∈ fp, k < N) {i j : Nat} (h : spot fp N i = spot fp N j) : i = j := by
  unfold spot at h
  have nn : ∀ q, fp[q]? = none → fp.length ≤ q := fun q e => by simpa using e
  cases hi : fp[i]? with
  | none =>
    have h1 := nn i hi
    cases hj : fp[j]? with
    | none => have h2 := nn j hj; rw [hi, hj] at h; simp only at h; omega
    | some k => rw [hi, hj] at h; simp only at h; have := hl k (List.mem_of_getElem? hj); omega
  | some k =>
    cases hj : fp[j]? with
    | none => rw [hi, hj] at h; simp only at h; have := hl k (List.mem_of_getElem? hi); omega
    | some q =>
      rw [hi, hj] at h; simp only at h; subst h
      obtain ⟨h1, e1⟩ := List.getElem?_eq_some_iff.1 hi
      obtain ⟨h2, e2⟩ := List.getElem?_eq_some_iff.1 hj
      exact (List.getElem_inj hn).1 (e1.trans e2.symm)

def Foot (bs : List Blk) (σ : Nat → Nat) : List Nat → List Blk → Prop
  | k :: ks, b :: r => bs[k]? = some (renB σ b) ∧ Foot bs σ ks r
  | _, _ => True
theorem foot_get {bs : List Blk} {σ : Nat → Nat} : ∀ {ks : List Nat} {r : List Blk}, Foot bs σ ks r → ∀ (i k : Nat) (b : Blk), ks[i]? = some k → r[i]? = some b → bs[k]? = some (renB σ b)
  | [], _, _, i, _, _, h, _ => by simp at h
  | _ :: _, [], _, i, _, _, _, h => by simp at h
  | k' :: ks, b' :: r, h, i, k, b, h1, h2 => by
    cases i with
    | zero => simp at h1 h2; subst h1 h2; exact h.1
    | succ i => exact foot_get h.2 i k b (by simpa using h1) (by simpa using h2)

open Classical in
/-- The ghost behind the call, in the caller's numbers. -/
noncomputable def Ghost.join (G G' : Ghost) (σ : Nat → Nat) : Ghost :=
  ⟨fun k => if h : ∃ i, σ i = k then G'.cl h.choose else G.cl k, fun k => if h : ∃ i, σ i = k then G'.gr h.choose else G.gr k, G'.Z, G'.ok⟩

theorem join_cl {G G' : Ghost} {σ : Nat → Nat} (hi : ∀ i j, σ i = σ j → i = j) (i : Nat) : (G.join G' σ).cl (σ i) = G'.cl i := by
  have h : ∃ j, σ j = σ i := ⟨i, rfl⟩
  simp only [Ghost.join, dif_pos h]
  rw [hi _ _ h.choose_spec]
theorem join_gr {G G' : Ghost} {σ : Nat → Nat} (hi : ∀ i j, σ i = σ j → i = j) (i : Nat) : (G.join G' σ).gr (σ i) = G'.gr i := by
  have h : ∃ j, σ j = σ i := ⟨i, rfl⟩
  simp only [Ghost.join, dif_pos h]
  rw [hi _ _ h.choose_spec]
theorem join_cl_off {G G' : Ghost} {σ : Nat → Nat} {k : Nat} (h : ¬ ∃ i, σ i = k) : (G.join G' σ).cl k = G.cl k := by simp only [Ghost.join, dif_neg h]
theorem join_gr_off {G G' : Ghost} {σ : Nat → Nat} {k : Nat} (h : ¬ ∃ i, σ i = k) : (G.join G' σ).gr k = G.gr k := by simp only [Ghost.join, dif_neg h]

theorem op_callF {P : Program} {o : Oper} {env : Env} {st : List Blk} {x : Operand} {xs : List Operand} {ts : Array TypeId} {f : FuncId} {cap vs : List AV} {S : List AV → List Blk → AV → List Blk → Prop} (fp : List Nat) (args : List AV) (bs : List Blk) (v : AV) (bs' : List Blk) {v2 : AV} {st2 : List Blk}
    (ho : o.op = .call { callee := .value x, args := xs.toArray, argTypes := ts }) (hx : ev env x = some (.fn f cap)) (hv : evs env xs = some vs) (hfp : fpOk st.length fp = true) (hbl : bs.length = fp.length) (hfo : Foot st (spot fp st.length) fp bs)
    (hargs : vs ++ cap = rens (spot fp st.length) args) (hA : belows fp.length args = true) (hB : belowB fp.length bs = true) (hen : Enters P f) (hF : FOk P f S) (hS : S args bs v bs') (hlen : Nat.ble fp.length bs'.length = true)
    (hv2 : ren (spot fp st.length) v = v2) (hst : back fp (spot fp st.length) st bs' = st2) : OpT P o ⟨env, st⟩ v2 st2 := by
  subst hv2 hst
  refine OpT.of (by simp [ho]) ?_
  intro G w a hI hE K Q hK
  obtain ⟨hnd, hlt⟩ := fpOk_get hfp
  have hlen' : fp.length ≤ bs'.length := Nat.le_of_ble_eq_true hlen
  let N := st.length
  let n := fp.length
  let σ := spot fp N
  have hinj : ∀ i j, σ i = σ j → i = j := fun i j h => spot_inj hnd hlt h
  have σlt : ∀ i, i < n → ∃ k, fp[i]? = some k ∧ σ i = k ∧ k < N := fun i hi => by
    have h1 : fp[i]? = some fp[i] := List.getElem?_eq_getElem hi
    refine ⟨fp[i], h1, ?_, hlt _ (List.getElem_mem hi)⟩
    simp only [σ, spot, h1]
  have σge : ∀ i, n ≤ i → σ i = N + (i - n) := fun i hi => by
    have h1 : fp[i]? = none := by simpa using hi
    simp only [σ, spot, h1, n]
  -- the callee's view
  let G0 : Ghost := ⟨fun i => if i < n then G.cl (σ i) else none, fun i => if i < n then G.gr (σ i) else none, G.Z, G.ok⟩
  have hc0 : ∀ i, i < n → G0.cl i = G.cl (σ i) := fun i hi => by simp only [G0, if_pos hi]
  have hg0 : ∀ i, i < n → G0.gr i = G.gr (σ i) := fun i hi => by simp only [G0, if_pos hi]
  have own0 : ∀ i c, G0.owns i c → i < n ∧ G.owns (σ i) c := fun i c h => by
    by_cases hi : i < n
    · refine ⟨hi, ?_⟩
      rcases h with h | ⟨g, h, e⟩
      · exact .inl (by rw [← hc0 i hi]; exact h)
      · exact .inr ⟨g, by rw [← hg0 i hi]; exact h, e⟩
    · rcases h with h | ⟨g, h, _⟩
      · simp [G0, hi] at h
      · simp [G0, hi] at h
  have hI0 : Inv G0 bs w := by
    refine ⟨fun i b hb => ?_, fun i hi => ?_, fun i j c h1 h2 => ?_, hI.z⟩
    · have hi : i < n := by have := lt_of_get hb; omega
      obtain ⟨k, hk, hσ, hkN⟩ := σlt i hi
      have hbb := foot_get hfo i k b hk hb
      refine blk_unren (σ := σ) (n := n) hc0 hg0 rfl hi (belowB_get hB i b hb) ?_
      rw [hσ]
      exact hI.blk k _ hbb
    · have : ¬ i < n := by omega
      simp [G0, this]
    · exact hinj i j (hI.inj _ _ c (own0 i c h1).2 (own0 j c h2).2)
  obtain ⟨cc, hfe, hcl, hcr⟩ := (ev_r hE hx).fn_inv
  obtain ⟨hal, har⟩ := evs_map hE hv
  obtain ⟨hbl2, hbr⟩ := r_append hal hcl har hcr
  unfold Oper.wp execOp
  simp only [ho, resolve, invoke, hfe, Deferred.ofValue, Sem.run_bind, Sem.run_pure, Result.andThen_ok, Array.empty_append, hen _ w, Oper.upon]
  rw [hargs] at hbl2 hbr
  refine (hF G0 w _ args bs v bs' hI0 ⟨by rw [hbl2, rens_len], fun j u c e1 e2 => ?_⟩ hS).mono fun e w' ⟨cv, G0', he, hA'⟩ => ?_
  · exact rs_unren hc0 hg0 rfl hA hbr j u c e1 e2
  subst he
  have hle0 := hA'.le
  let G' := G.join G0' σ
  have c1 : ∀ i, G'.cl (σ i) = G0'.cl i := join_cl hinj
  have c2 : ∀ i, G'.gr (σ i) = G0'.gr i := join_gr hinj
  have hZ : G0'.Z = G'.Z := rfl
  have σall : ∀ k, N ≤ k → σ (n + (k - N)) = k := fun k hk => by rw [σge _ (by omega)]; omega
  have offlt : ∀ k, (¬ ∃ i, σ i = k) → k < N ∧ k ∉ fp := fun k h => by
    constructor
    · rcases Nat.lt_or_ge k N with h' | h'
      · exact h'
      · exact absurd ⟨_, σall k h'⟩ h
    · intro hm
      obtain ⟨i, hi, e⟩ := List.getElem_of_mem hm
      obtain ⟨q, e1, e2, _⟩ := σlt i hi
      refine h ⟨i, ?_⟩
      rw [e2]
      rw [List.getElem?_eq_getElem hi, e] at e1
      exact (Option.some.inj e1).symm
  have ownAt : ∀ i c, G'.owns (σ i) c ↔ G0'.owns i c := fun i c => by unfold Ghost.owns; rw [c1, c2]
  have ownOff : ∀ k c, (¬ ∃ i, σ i = k) → (G'.owns k c ↔ G.owns k c) := fun k c h => by unfold Ghost.owns; rw [join_cl_off h, join_gr_off h]
  have apart : ∀ k c, (¬ ∃ i, σ i = k) → G.owns k c → ∀ i, ¬ G0.owns i c := fun k c h hk i hi => by
    have := hI.inj _ _ c hk (own0 i c hi).2
    exact h ⟨i, this.symm⟩
  have hle : G.le G' := by
    refine ⟨fun k c e => ?_, fun k g e => ?_, hle0.Z⟩
    · by_cases h : ∃ i, σ i = k
      · obtain ⟨i, rfl⟩ := h
        rw [c1]
        have hi : i < n := by
          rcases Nat.lt_or_ge i n with h' | h'
          · exact h'
          · have h3 : σ i < N := (hI.lt (.inl e)).1
            rw [σge i h'] at h3
            omega
        exact hle0.cl i c (by rw [hc0 i hi]; exact e)
      · rw [join_cl_off h]; exact e
    · by_cases h : ∃ i, σ i = k
      · obtain ⟨i, rfl⟩ := h
        rw [c2]
        have hi : i < n := by
          rcases Nat.lt_or_ge i n with h' | h'
          · exact h'
          · have := (hI.dom (σ i) (show N ≤ σ i by rw [σge i h']; omega)).2
            rw [this] at e; cases e
        exact hle0.gr i g (by rw [hg0 i hi]; exact e)
      · rw [join_gr_off h]; exact ⟨g, e, .inl rfl⟩
  have hB' : ∀ k b, (back fp σ st bs')[k]? = some b → (∃ i b0, σ i = k ∧ bs'[i]? = some b0 ∧ b = renB σ b0) ∨ ((¬ ∃ i, σ i = k) ∧ st[k]? = some b) := by
    intro k b hb
    unfold back at hb
    rw [List.getElem?_append, setAll_len] at hb
    split at hb
    · rename_i hk
      by_cases hm : k ∈ fp
      · obtain ⟨i, hi, e⟩ := List.getElem_of_mem hm
        have e1 : fp[i]? = some k := by rw [List.getElem?_eq_getElem hi, e]
        have hi' : i < bs'.length := by omega
        have e2 : ((bs'.take fp.length).map (renB σ))[i]? = some (renB σ bs'[i]) := by
          rw [List.getElem?_map, List.getElem?_take, if_pos hi, List.getElem?_eq_getElem hi']; rfl
        rw [setAll_eq fp _ st i k _ hnd e1 hk e2] at hb
        obtain ⟨q, f1, f2, _⟩ := σlt i hi
        rw [e1] at f1
        exact .inl ⟨i, bs'[i], by rw [f2]; exact (Option.some.inj f1).symm, by simp [hi'], (Option.some.inj hb).symm⟩
      · rw [setAll_ne fp _ st k hm] at hb
        refine .inr ⟨fun ⟨i, e⟩ => ?_, hb⟩
        rcases Nat.lt_or_ge i n with h' | h'
        · obtain ⟨q, f1, f2, _⟩ := σlt i h'
          exact hm (by rw [← e, f2]; exact List.mem_of_getElem? f1)
        · rw [σge i h'] at e; omega
    · rename_i hk
      rw [List.getElem?_map, Option.map_eq_some_iff] at hb
      obtain ⟨b0, hb0, rfl⟩ := hb
      rw [List.getElem?_drop] at hb0
      exact .inl ⟨fp.length + (k - st.length), b0, σall k (by omega), hb0, rfl⟩
  have hinv : Inv G' (back fp σ st bs') w' := by
    refine ⟨fun k b hb => ?_, fun k hk => ?_, fun k q c h1 h2 => ?_, hA'.inv.z⟩
    · rcases hB' k b hb with ⟨i, b0, rfl, hb0, rfl⟩ | ⟨hoff, hb0⟩
      · exact blk_ren (fun i c e => (c1 i).trans e) (fun i g e => (c2 i).trans e) hZ (c1 i) (c2 i) (hA'.inv.blk i b0 hb0)
      · refine (hI.blk k b hb0).keep hle (join_cl_off hoff) (join_gr_off hoff) (fun c hc => hA'.ev.frame c (hI.lt hc).2 (apart k c hoff hc)) fun c hc o => ?_
        have hclt := (hI.lt hc).2
        cases hG : G.Z c o with
        | some u => exact hle0.Z c o u hG
        | none =>
          cases hZ' : G'.Z c o with
          | none => rfl
          | some u =>
            rcases hA'.ev.newZ c o u hZ' with e | e | ⟨i, e⟩
            · have e' : G.Z c o = some u := e
              rw [hG] at e'; cases e'
            · omega
            · exact absurd e (apart k c hoff hc i)
    · have hbl3 : (back fp σ st bs').length = N + (bs'.length - n) := by unfold back; simp [setAll_len, N, n]
      have hkN : N ≤ k := by omega
      have := hA'.inv.dom (n + (k - N)) (by omega)
      rw [← σall k hkN]
      exact ⟨(c1 _).trans this.1, (c2 _).trans this.2⟩
    · by_cases hk : ∃ i, σ i = k <;> by_cases hq : ∃ i, σ i = q
      · obtain ⟨i, rfl⟩ := hk
        obtain ⟨j, rfl⟩ := hq
        rw [ownAt] at h1 h2
        rw [hA'.inv.inj i j c h1 h2]
      · obtain ⟨i, rfl⟩ := hk
        rw [ownAt] at h1
        rw [ownOff q c hq] at h2
        rcases hA'.ev.own i c h1 with e | ⟨j, e⟩
        · have := (hI.lt h2).2; omega
        · exact absurd e (apart q c hq h2 j)
      · obtain ⟨j, rfl⟩ := hq
        rw [ownAt] at h2
        rw [ownOff k c hk] at h1
        rcases hA'.ev.own j c h2 with e | ⟨i, e⟩
        · have := (hI.lt h1).2; omega
        · exact absurd e (apart k c hk h1 i)
      · rw [ownOff k c hk] at h1
        rw [ownOff q c hq] at h2
        exact hI.inj k q c h1 h2
  refine hK cv w' G' ⟨r_ren (fun i c e => (c1 i).trans e) (fun i g e => (c2 i).trans e) (hZ ▸ .refl _) hA'.r, hinv, hle, ⟨hA'.ev.os, hA'.ev.tape, hA'.ev.output, hA'.ev.size, hle0.Z, fun c o u e => ?_, fun c hc hn => hA'.ev.frame c hc fun i hi => hn _ (own0 i c hi).2, fun k c hk => ?_, hA'.ev.loop⟩⟩
  · rcases hA'.ev.newZ c o u e with e | e | ⟨i, e⟩
    · exact .inl e
    · exact .inr (.inl e)
    · exact .inr (.inr ⟨_, (own0 i c e).2⟩)
  · by_cases h : ∃ i, σ i = k
    · obtain ⟨i, rfl⟩ := h
      rw [ownAt] at hk
      rcases hA'.ev.own i c hk with e | ⟨j, e⟩
      · exact .inl e
      · exact .inr ⟨_, (own0 j c e).2⟩
    · rw [ownOff k c h] at hk
      exact .inr ⟨k, hk⟩
end
end Go.Proofs.YtelgmdljcbkniaaGreatDoor.Ai

/- An interpreter of values for the model's code, base text 12: maps whose keys are numbers. -/
namespace Go.Proofs.YtelgmdljcbkniaaGreatDoor.Ai
noncomputable section
set_option linter.unusedVariables false
open Go

/-- The place of the first entry of a key. -/
def mfind {α : Type} (l : List (Int × α)) (n : Int) : Option Nat := match l with
  | [] => none
  | p :: r => if p.1 = n then some 0 else (mfind r n).map (· + 1)
def mget {α : Type} (l : List (Int × α)) (n : Int) : Option α := (mfind l n).bind fun j => (l[j]?).map Prod.snd
def mset {α : Type} (l : List (Int × α)) (n : Int) (v : α) : List (Int × α) := match mfind l n with
  | some j => l.set j (n, v)
  | none => l ++ [(n, v)]

theorem mfind_some {α : Type} : ∀ {l : List (Int × α)} {n : Int} {j : Nat}, mfind l n = some j → ∃ p, l[j]? = some p ∧ p.1 = n
  | [], _, _, h => by simp [mfind] at h
  | p :: r, n, j, h => by
    simp only [mfind] at h
    split at h
    · rename_i e; obtain rfl := Option.some.inj h; exact ⟨p, rfl, e⟩
    · rw [Option.map_eq_some_iff] at h
      obtain ⟨q, h, rfl⟩ := h
      obtain ⟨p', e1, e2⟩ := mfind_some h
      exact ⟨p', by simpa using e1, e2⟩

theorem findNow_int {kk : IntKind} {n : Int} {α : Type} : ∀ (l : List (Int × α)) (ents : List MapEntry) (i : Nat), ents.length = l.length → (∀ (j : Nat) p ce, l[j]? = some p → ents[j]? = some ce → ce.key = .int kk p.1) →
    Instr.findNow (.int kk) (.int kk n) ents i = some ((mfind l n).bind fun j => (ents[j]?).map fun ce => (i + j, ce.val))
  | [], ents, i, hl, _ => by
    have : ents = [] := List.eq_nil_of_length_eq_zero (by simpa using hl)
    subst this
    simp [Instr.findNow, mfind]
  | p :: r, [], i, hl, _ => by simp at hl
  | p :: r, ce :: ents, i, hl, hk => by
    have h0 := hk 0 p ce rfl rfl
    have ih := findNow_int (n := n) r ents (i + 1) (by simpa using hl) fun j q c e1 e2 => hk (j + 1) q c (by simpa using e1) (by simpa using e2)
    simp only [Instr.findNow, h0, Instr.sameNow, if_true, mfind]
    by_cases he : p.1 = n
    · simp [he]
    · have : (n == p.1) = false := by simp; exact fun e => he e.symm
      rw [this, if_neg he]
      simp only [ih]
      cases hm : mfind r n with
      | none => simp
      | some j => simp [Nat.add_assoc, Nat.add_comm 1 j]

theorem after_setmap {G : Ghost} {bs : List Blk} {w : World} (hI : Inv G bs w) {i c : Nat} {es es' : List (AV × AV)} (hb : bs[i]? = some (.map es)) (hc : G.cl i = some c) {ents ents' : Array MapEntry} {clock clock' : Nat}
    (hh : w.heap[c]? = some (.map ents clock)) (hl : ents'.size = es'.length) (hr : ∀ (j : Nat) e ce, es'[j]? = some e → ents'[j]? = some ce → RI G.Z e.1 ce.key ∧ R G e.2 ce.val) :
    Inv G (bs.set i (.map es')) { w with heap := w.heap.setIfInBounds c (.map ents' clock') } ∧ Ev G w G { w with heap := w.heap.setIfInBounds c (.map ents' clock') } := by
  have hB := hI.blk i _ hb
  have hcl : c < w.heap.size := (hI.lt (.inl hc)).2
  have hf : ∀ d, d ≠ c → ({ w with heap := w.heap.setIfInBounds c (.map ents' clock') } : World).heap[d]? = w.heap[d]? := fun d hd => Array.getElem?_setIfInBounds_ne (fun e => hd e.symm)
  refine ⟨⟨fun j b hj => ?_, fun j hj => hI.dom j (by simpa using hj), hI.inj, fun d o v ez => ?_⟩, ⟨rfl, rfl, rfl, by simp, .refl _, fun _ _ _ e => .inl e, fun d hd hn => hf d (fun e => hn i (e ▸ .inl hc)), fun j d hd => .inr ⟨j, hd⟩, loop_of_same fun d hd => by
      by_cases e0 : d = c
      · exact .inr fun rec h => by rw [e0, hh] at h; cases h
      · exact .inl (hf d e0)⟩⟩
  · rw [List.getElem?_set] at hj
    split at hj
    · rename_i hij
      subst hij
      split at hj
      · obtain rfl := Option.some.inj hj
        refine ⟨hB.1, fun c' hc' => ?_⟩
        rw [hc] at hc'
        obtain rfl := Option.some.inj hc'
        exact ⟨ents', clock', by simp [hcl], hl, hr, (hB.2 c hc).elim fun _ h => h.elim fun _ h => h.2.2.2⟩
      · cases hj
    · rename_i hij
      exact (hI.blk j b hj).keep (.refl _) rfl rfl (fun d hd => hf d fun e => hij (hI.inj i j c (.inl hc) (e ▸ hd))) fun _ _ _ => rfl
  · have hzc : ∀ o, G.Z c o = none := (hB.2 c hc).elim fun _ h => h.elim fun _ h => h.2.2.2
    have hd : d ≠ c := fun e => by rw [e, hzc o] at ez; cases ez
    rw [rd_of_frame (hf d hd)]
    exact hI.z d o v ez

/-- A map's block, of entries with numbers as keys. -/
def mb {α : Type} (kk : IntKind) (e : α → AV) (l : List (Int × α)) : Blk := .map (l.map fun p => (.int kk p.1, e p.2))

theorem op_mkmap {P : Program} {o : Oper} {s : St} {t : TypeId} {k : Nat} (ho : o.op = .makeMap t none) (hk : s.bs.length = k) : OpT P o s (.map k) (s.bs ++ [.map []]) := by
  subst hk
  refine OpT.of (by simp [ho]) ?_
  intro G w a hI hE K Q hK
  let G' : Ghost := { G with cl := fun i => if i = s.bs.length then some w.heap.size else G.cl i }
  have hcl : G'.cl s.bs.length = some w.heap.size := by simp [G']
  have hgr0 : G'.gr s.bs.length = none := (hI.dom _ (Nat.le_refl _)).2
  have hf : ∀ c, c < w.heap.size → (w.alloc (.map #[] 0)).heap[c]? = w.heap[c]? := fun c hc => heap_alloc_old w _ c hc
  have hs : ∀ c o v, G.Z c o = some v → rd (w.alloc (.map #[] 0)) c o = some v := fun c o v ez => by
    rw [rd_of_frame (hf c (z_lt hI ez))]; exact hI.z c o v ez
  have hown : ∀ c, G'.owns s.bs.length c → c = w.heap.size := fun c hc => by
    rcases hc with hc | ⟨g, hg, _⟩
    · rw [hcl] at hc; exact (Option.some.inj hc).symm
    · rw [hgr0] at hg; cases hg
  obtain ⟨h1, h2⟩ := hI.push (G' := G') (w' := w.alloc (.map #[] 0)) (.map []) (fun i hi => by simp [G', hi]) (fun _ _ => rfl) (.refl _) (fun _ _ _ e => .inl e) hf hs
    (fun _ => ⟨hgr0, fun c hc => by
      rw [hcl] at hc
      obtain rfl := Option.some.inj hc
      refine ⟨#[], 0, heap_alloc_new w _, rfl, fun j e ce e1 _ => by simp at e1, fun o => ?_⟩
      cases hz : G.Z w.heap.size o with
      | none => rfl
      | some v => have := z_lt hI hz; omega⟩)
    (fun c hc => by rw [hown c hc]; exact Nat.le_refl _)
  unfold Oper.wp execOp
  have hrun : (Instr.makeMap t none).run P w = .ok (.map (some w.heap.size)) (w.alloc (.map #[] 0)) := rfl
  simp only [ho, Option.map_none, Sem.run_bind, hrun, Result.andThen_ok]
  refine hK _ _ G' ⟨.map _ _ hcl, h1, h2, ⟨rfl, rfl, rfl, by simp, .refl _, fun _ _ _ e => .inl e, fun c hc _ => hf c hc, fun i c hc => ?_, loop_of_same fun c hc => .inl (hf c hc)⟩⟩
  by_cases hi : i = s.bs.length
  · subst hi; rw [hown c hc]; exact .inl (Nat.le_refl _)
  · exact .inr ⟨i, by unfold Ghost.owns at hc ⊢; simpa [G', hi] using hc⟩

theorem op_mapset {P : Program} {o : Oper} {s : St} {t kt et : TypeId} {kk : IntKind} {x y z : Operand} {i : Nat} {α : Type} {e : α → AV} {l : List (Int × α)} {n : Int} {v : α} {b' : Blk} (ht : P.underlying t = some (.map kt et)) (hkt : P.underlying kt = some (.int kk))
    (ho : o.op = .mapUpdate t x y z) (hx : ev s.env x = some (.map i)) (hy : ev s.env y = some (.int kk n)) (hz : ev s.env z = some (e v)) (hb : s.bs[i]? = some (mb kk e l)) (hb' : mb kk e (mset l n v) = b') : OpT P o s (.tup []) (s.bs.set i b') := by
  subst hb'
  refine OpT.of (by simp [ho]) ?_
  intro G w a hI hE K Q hK
  obtain ⟨c, hc, hxe⟩ := (ev_r hE hx).map_inv
  have hye := (ev_r hE hy).int_inv
  have hzr := ev_r hE hz
  obtain ⟨ents, clock, hh, hl, hr, hzn⟩ := (hI.blk i _ hb).2 c hc
  have hkey : ∀ (j : Nat) p ce, l[j]? = some p → ents.toList[j]? = some ce → ce.key = .int kk p.1 := fun j p ce e1 e2 => by
    have := (hr j (.int kk p.1, e p.2) ce (by rw [List.getElem?_map, e1]; rfl) (by simpa using e2)).1
    exact (R.imm (G := G) _ _ this).int_inv
  have hl2 : ents.toList.length = l.length := by simpa using hl
  have hfn := findNow_int (n := n) l ents.toList 0 hl2 hkey
  have hck : (Instr.checkKey false 10000 kt (.int kk n)).run P w = .ok () w := by
    unfold Instr.checkKey
    simp [run_underlying hkt]
  have hfk : (Instr.findKey kt (.int kk n) ents.toList).run P w = .ok ((mfind l n).bind fun j => (ents.toList[j]?).map fun ce => (0 + j, ce.val)) w := by
    simp [Instr.findKey, run_underlying hkt, hfn]
  have hun : (none : Option Nat) = none := rfl
  unfold Oper.wp execOp
  cases hm : mfind l n with
  | none =>
    have hset : mset l n v = l ++ [(n, v)] := by simp only [mset, hm]
    rw [hset] at hK
    rw [hm] at hfk
    have hrun : (Instr.mapUpdate t (.map (some c)) (.int kk n) (a.eval z)).run P w = .ok () { w with heap := w.heap.setIfInBounds c (.map (ents.push { key := .int kk n, val := a.eval z, born := clock }) (clock + 1)) } := by
      simp only [Instr.mapUpdate, Sem.run_bind, run_underlying ht, Result.andThen_ok, MapKept.run_getObj_map hh, hck, hfk, Option.bind_none, MapKept.run_setObj_map _ hh]
    simp only [ho, hxe, hye, Sem.run_bind, hrun, Result.andThen_ok]
    obtain ⟨h1, h2⟩ := after_setmap hI hb hc (es' := (l ++ [(n, v)]).map fun p => (.int kk p.1, e p.2)) hh (ents' := ents.push { key := .int kk n, val := a.eval z, born := clock }) (clock' := clock + 1) (by simpa using hl) (fun j p ce e1 e2 => by
      rw [List.map_append, List.getElem?_append] at e1
      rw [Array.getElem?_push] at e2
      split at e1
      · rename_i hj
        rw [if_neg (by simp at hj; simp at hl; omega)] at e2
        exact hr j p ce e1 e2
      · rename_i hj
        have hjl : j - (l.map fun p => ((.int kk p.1, e p.2) : AV × AV)).length = 0 := by
          have := lt_of_get e1; simp at this; simp; omega
        rw [hjl] at e1
        have hje : j = ents.size := by simp at hjl hj hl; omega
        rw [if_pos hje] at e2
        simp at e1 e2
        subst e1 e2
        exact ⟨.int _ _, hzr⟩)
    exact hK _ _ G ⟨.imm _ _ (.tup [] #[] rfl (by simp)), h1, .refl _, h2⟩
  | some j =>
    have hset : mset l n v = l.set j (n, v) := by simp only [mset, hm]
    rw [hset] at hK
    obtain ⟨p, hp, hpn⟩ := mfind_some hm
    have hjl : j < ents.size := by have := lt_of_get hp; simp at hl; omega
    have hce : ents.toList[j]? = some ents[j] := by simp [hjl]
    have hkj : ents[j].key = .int kk n := by rw [hkey j p ents[j] hp hce, hpn]
    rw [hm] at hfk
    simp only [Option.bind_some, hce, Option.map_some, Nat.zero_add] at hfk
    have hkts : (Instr.keyThatStays (.int kk n) (.int kk n)).run P w = .ok (.int kk n) w := by
      simp [Instr.keyThatStays, Instr.sameBits]
    have hrun : (Instr.mapUpdate t (.map (some c)) (.int kk n) (a.eval z)).run P w = .ok () { w with heap := w.heap.setIfInBounds c (.map (ents.modify j fun e => { e with key := .int kk n, val := a.eval z }) clock) } := by
      have : ((ents[j]?).map (·.key)).getD (.int kk n) = .int kk n := by simp [hjl, hkj]
      simp only [Instr.mapUpdate, Sem.run_bind, run_underlying ht, Result.andThen_ok, MapKept.run_getObj_map hh, hck, hfk, this, hkts, MapKept.run_setObj_map _ hh]
    simp only [ho, hxe, hye, Sem.run_bind, hrun, Result.andThen_ok]
    obtain ⟨h1, h2⟩ := after_setmap hI hb hc (es' := (l.set j (n, v)).map fun p => (.int kk p.1, e p.2)) hh (ents' := ents.modify j fun e => { e with key := .int kk n, val := a.eval z }) (clock' := clock) (by simpa using hl) (fun q p ce e1 e2 => by
      rw [List.map_set, List.getElem?_set] at e1
      rw [Array.getElem?_modify] at e2
      split at e1
      · rename_i hjq
        subst hjq
        split at e1
        · rw [if_pos rfl] at e2
          simp only [Option.map_eq_some_iff] at e2
          obtain ⟨c0, _, rfl⟩ := e2
          obtain rfl := Option.some.inj e1
          exact ⟨.int _ _, hzr⟩
        · cases e1
      · rename_i hjq
        rw [if_neg hjq] at e2
        exact hr q p ce e1 e2)
    exact hK _ _ G ⟨.imm _ _ (.tup [] #[] rfl (by simp)), h1, .refl _, h2⟩

theorem run_lookup_int {P : Program} {w : World} {G : Ghost} {t kt et : TypeId} {kk : IntKind} {c : Nat} {α : Type} {e : α → AV} {l : List (Int × α)} {n : Int} {z0 : α} {size bytes : Nat} {z : Value} {d : TypeDesc} (ht : P.underlying t = some (.map kt et)) (hkt : P.underlying kt = some (.int kk))
    (he : Inf P et size bytes z d) (hz : ofConst z = some (e z0)) {ents : Array MapEntry} {clock : Nat} (hh : w.heap[c]? = some (.map ents clock)) (hl : ents.size = (l.map fun p => ((.int kk p.1, e p.2) : AV × AV)).length)
    (hr : ∀ (j : Nat) q ce, (l.map fun p => ((.int kk p.1, e p.2) : AV × AV))[j]? = some q → ents[j]? = some ce → RI G.Z q.1 ce.key ∧ R G q.2 ce.val) (ok : Bool) :
    ∃ cv, (Instr.lookup t (.map (some c)) (.int kk n) ok).run P w = .ok (if ok then .tuple #[cv, .bool (mget l n).isSome] else cv) w ∧ R G (e ((mget l n).getD z0)) cv := by
  have hkey : ∀ (j : Nat) p ce, l[j]? = some p → ents.toList[j]? = some ce → ce.key = .int kk p.1 := fun j p ce e1 e2 => by
    have := (hr j (.int kk p.1, e p.2) ce (by rw [List.getElem?_map, e1]; rfl) (by simpa using e2)).1
    exact (R.imm (G := G) _ _ this).int_inv
  have hl2 : ents.toList.length = l.length := by simpa using hl
  have hfn := findNow_int (n := n) l ents.toList 0 hl2 hkey
  have hck : (Instr.checkKey ents.isEmpty 10000 kt (.int kk n)).run P w = .ok () w := by
    unfold Instr.checkKey
    simp [run_underlying hkt]
  have hfk : (Instr.findKey kt (.int kk n) ents.toList).run P w = .ok ((mfind l n).bind fun j => (ents.toList[j]?).map fun ce => (0 + j, ce.val)) w := by
    simp [Instr.findKey, run_underlying hkt, hfn]
  cases hm : mfind l n with
  | none =>
    rw [hm] at hfk
    refine ⟨z, ?_, ?_⟩
    · simp [Instr.lookup, run_underlying ht, MapKept.run_getObj_map hh, hck, hfk, he.zero w, mget, hm]
    · simp only [mget, hm, Option.bind_none, Option.getD_none]
      exact .imm _ _ (ofConst_ri hz)
  | some j =>
    obtain ⟨p, hp, hpn⟩ := mfind_some hm
    have hjl : j < ents.size := by have := lt_of_get hp; simp at hl; omega
    have hce : ents.toList[j]? = some ents[j] := by simp [hjl]
    rw [hm] at hfk
    simp only [Option.bind_some, hce, Option.map_some, Nat.zero_add] at hfk
    refine ⟨ents[j].val, ?_, ?_⟩
    · simp [Instr.lookup, run_underlying ht, MapKept.run_getObj_map hh, hck, hfk, mget, hm, hp]
    · simp only [mget, hm, Option.bind_some, hp, Option.map_some, Option.getD_some]
      exact (hr j (.int kk p.1, e p.2) ents[j] (by rw [List.getElem?_map, hp]; rfl) (by simp [hjl])).2

theorem op_lookup {P : Program} {o : Oper} {s : St} {t kt et : TypeId} {kk : IntKind} {x y : Operand} {i : Nat} {α : Type} {e : α → AV} {l : List (Int × α)} {n : Int} {z0 : α} {size bytes : Nat} {z : Value} {d : TypeDesc} (ht : P.underlying t = some (.map kt et)) (hkt : P.underlying kt = some (.int kk))
    (he : Inf P et size bytes z d) (hz : ofConst z = some (e z0)) (ho : o.op = .lookup t x y false) (hx : ev s.env x = some (.map i)) (hy : ev s.env y = some (.int kk n)) (hb : s.bs[i]? = some (mb kk e l)) : OpT P o s (e ((mget l n).getD z0)) s.bs :=
  op_pure fun G w a hI hE => by
    obtain ⟨c, hc, hxe⟩ := (ev_r hE hx).map_inv
    obtain ⟨ents, clock, hh, hl, hr, hzn⟩ := (hI.blk i _ hb).2 c hc
    obtain ⟨cv, h1, h2⟩ := run_lookup_int (G := G) (n := n) ht hkt he hz hh hl hr false
    exact ⟨cv, by simp [execOp, ho, hxe, (ev_r hE hy).int_inv, h1], h2⟩

theorem op_lookup_ok {P : Program} {o : Oper} {s : St} {t kt et : TypeId} {kk : IntKind} {x y : Operand} {i : Nat} {α : Type} {e : α → AV} {l : List (Int × α)} {n : Int} {z0 : α} {size bytes : Nat} {z : Value} {d : TypeDesc} (ht : P.underlying t = some (.map kt et)) (hkt : P.underlying kt = some (.int kk))
    (he : Inf P et size bytes z d) (hz : ofConst z = some (e z0)) (ho : o.op = .lookup t x y true) (hx : ev s.env x = some (.map i)) (hy : ev s.env y = some (.int kk n)) (hb : s.bs[i]? = some (mb kk e l)) : OpT P o s (.tup [e ((mget l n).getD z0), .bool (mget l n).isSome]) s.bs :=
  op_pure fun G w a hI hE => by
    obtain ⟨c, hc, hxe⟩ := (ev_r hE hx).map_inv
    obtain ⟨ents, clock, hh, hl, hr, hzn⟩ := (hI.blk i _ hb).2 c hc
    obtain ⟨cv, h1, h2⟩ := run_lookup_int (G := G) (n := n) ht hkt he hz hh hl hr true
    refine ⟨.tuple #[cv, .bool (mget l n).isSome], by simp [execOp, ho, hxe, (ev_r hE hy).int_inv, h1], rtup (cvs := [cv, .bool (mget l n).isSome]) rfl fun j v c f1 f2 => ?_⟩
    match j, f1, f2 with
    | 0, f1, f2 => simp at f1 f2; subst f1 f2; exact h2
    | 1, f1, f2 => simp at f1 f2; subst f1 f2; exact .imm _ _ (.bool _)
    | j + 2, f1, f2 => simp at f1
end
end Go.Proofs.YtelgmdljcbkniaaGreatDoor.Ai

/- An interpreter of values for the model's code, base text 13: variables that are made in regions whose order is drawn. -/
namespace Go.Proofs.YtelgmdljcbkniaaGreatDoor.Ai
noncomputable section
open Go

theorem weak_gone {n m : Nat} {env : Env} {bs : List Blk} (k : Nat) : Weak n m ⟨env, bs⟩ ⟨env, bs ++ List.replicate k .gone⟩ := by
  intro X r a w H
  obtain ⟨G, hE, hI, hle, hev⟩ := H.st
  refine ⟨⟨G, hE, ⟨fun i b hb => ?_, fun i hi => hI.dom i (show bs.length ≤ i by simp at hi; omega), hI.inj, hI.z⟩, hle, hev⟩, H.sz⟩
  rw [List.getElem?_append] at hb
  split at hb
  · exact hI.blk i b hb
  · rename_i hi
    rw [List.getElem?_replicate] at hb
    split at hb
    · obtain rfl := Option.some.inj hb
      exact hI.dom i (show bs.length ≤ i by omega)
    · cases hb

theorem T_gone {P : Program} {n m : Nat} {c : Code} {env : Env} {bs bs' : List Blk} {Q : Exit → St → Prop} (k : Nat) (hb : bs ++ List.replicate k .gone = bs') (h : T P n m c ⟨env, bs'⟩ Q) : T P n m c ⟨env, bs⟩ Q :=
  T_weak (hb ▸ weak_gone k) h

/-- A block is made at its place. -/
theorem Inv.fillat {G : Ghost} {bs : List Blk} {w : World} (hI : Inv G bs w) {k : Nat} (hk : bs[k]? = some .gone) (arr : Array Value) (e : TypeId) (cs : List AV) (hl : cs.length ≤ arr.size)
    (hr : ∀ (j : Nat) v cv, cs[j]? = some v → arr[j]? = some cv → R G v cv) (o : Nat) :
    ∃ G', Inv G' (bs.set k (.cells cs)) (w.alloc (.cells arr e)) ∧ G.le G' ∧ Ev G w G' (w.alloc (.cells arr e)) ∧ G'.cl k = some w.heap.size ∧ R G' (.ptr k o) (.pointer (some ⟨w.heap.size, o, none⟩)) := by
  have hg := hI.blk k _ hk
  let G' : Ghost := { G with cl := fun i => if i = k then some w.heap.size else G.cl i }
  have hcl : G'.cl k = some w.heap.size := by simp [G']
  have hne : ∀ i, i ≠ k → G'.cl i = G.cl i := fun i hi => by simp [G', hi]
  have hf : ∀ c, c < w.heap.size → (w.alloc (.cells arr e)).heap[c]? = w.heap[c]? := fun c hc => heap_alloc_old w _ c hc
  have hs : ∀ c o v, G.Z c o = some v → rd (w.alloc (.cells arr e)) c o = some v := fun c o v ez => by
    rw [rd_of_frame (hf c (z_lt hI ez))]; exact hI.z c o v ez
  have hnone : ∀ o, G.Z w.heap.size o = none := fun o => by
    cases hz : G.Z w.heap.size o with
    | none => rfl
    | some v => have := z_lt hI hz; omega
  have hle : G.le G' := by
    refine ⟨fun i c e => ?_, fun i g e => ⟨g, e, .inl rfl⟩, .refl _⟩
    rw [hne i (fun hi => by rw [hi, hg.1] at e; cases e)]; exact e
  have hownk : ∀ c, G'.owns k c → c = w.heap.size := fun c hc => by
    rcases hc with hc | ⟨g, hgr, _⟩
    · rw [hcl] at hc; exact (Option.some.inj hc).symm
    · have : G.gr k = some g := hgr
      rw [hg.2] at this; cases this
  have howns : ∀ i c, i ≠ k → (G'.owns i c ↔ G.owns i c) := fun i c hi => by unfold Ghost.owns; rw [hne i hi]
  refine ⟨G', ⟨fun i b hb => ?_, fun i hi => ?_, fun i j c h1 h2 => ?_, hs⟩, hle, ⟨rfl, rfl, rfl, by simp, .refl _, fun _ _ _ e => .inl e, fun c hc _ => hf c hc, fun i c hc => ?_, loop_of_same fun c hc => .inl (hf c hc)⟩, hcl, .ptr _ _ _ hcl⟩
  · rw [List.getElem?_set] at hb
    split at hb
    · rename_i hik
      subst hik
      split at hb
      · obtain rfl := Option.some.inj hb
        refine ⟨hg.2, fun c hc => ?_⟩
        rw [hcl] at hc
        obtain rfl := Option.some.inj hc
        exact ⟨arr, e, heap_alloc_new w _, hl, fun j v cv e1 e2 => (hr j v cv e1 e2).mono hle, hnone⟩
      · cases hb
    · rename_i hik
      exact (hI.blk i b hb).keep hle (hne i (fun e => hik e.symm)) rfl (fun c hc => hf c (hI.lt hc).2) fun _ _ _ => rfl
  · have hik : i ≠ k := fun e => by
      have := lt_of_get hk
      simp at hi; omega
    rw [hne i hik]
    exact hI.dom i (by simpa using hi)
  · by_cases hi : i = k <;> by_cases hj : j = k
    · omega
    · rw [howns j c hj] at h2
      have h3 := (hI.lt h2).2
      have := hownk c (hi ▸ h1)
      omega
    · rw [howns i c hi] at h1
      have h3 := (hI.lt h1).2
      have := hownk c (hj ▸ h2)
      omega
    · rw [howns i c hi] at h1
      rw [howns j c hj] at h2
      exact hI.inj i j c h1 h2
  · by_cases hi : i = k
    · subst hi; rw [hownk c hc]; exact .inl (Nat.le_refl _)
    · exact .inr ⟨i, (howns i c hi).1 hc⟩

theorem op_alloc_at {P : Program} {o : Oper} {s : St} {t : TypeId} {size bytes : Nat} {z : Value} {d : TypeDesc} {v : AV} {k : Nat} (ht : Inf P t size bytes z d) (hz : ofConst z = some v) (h1 : v.cells.all AV.one = true)
    (ho : o.op = .alloc t) (hk : s.bs[k]? = some .gone) : OpT P o s (.ptr k 0) (s.bs.set k (.cells v.cells)) := by
  refine OpT.of (by simp [ho]) ?_
  intro G w a hI hE K Q hK
  have hr : R G v z := .imm _ _ (ofConst_ri hz)
  obtain ⟨hsz, hcells, hone⟩ := hr.cells h1
  obtain ⟨G', hI', hle, hev, hcl, hp⟩ := hI.fillat hk z.cells t v.cells (by omega) hcells 0
  unfold Oper.wp
  have : (execOp a.eval o).run P w = .ok (.value (.pointer (some ⟨w.heap.size, 0, none⟩))) (w.alloc (.cells z.cells t)) := by
    simp [execOp, ho, Instr.alloc, ht.zero, newVar, newRow]
  rw [this]
  exact hK _ _ G' ⟨hp, hI', hle, hev⟩

mutual
theorem imm_below (k : Nat) : ∀ {v x : AV}, imm [] v = some x → below k v = true := by
  intro v x h
  cases v with
  | agg cs =>
    simp only [imm] at h
    cases hc : imms [] cs with
    | none => simp [hc] at h
    | some xs => simpa [below] using imms_below k hc
  | tup cs =>
    simp only [imm] at h
    cases hc : imms [] cs with
    | none => simp [hc] at h
    | some xs => simpa [below] using imms_below k hc
  | fn f cs =>
    simp only [imm] at h
    cases hc : imms [] cs with
    | none => simp [hc] at h
    | some xs => simpa [below] using imms_below k hc
  | ptr i o => simp [imm] at h
  | rptr i j z o => simp [imm] at h
  | slc i o z l c => simp [imm] at h
  | gsl i l => simp [imm] at h
  | map i => simp [imm] at h
  | yld i => simp [imm] at h
  | optr i n j z o => simp [imm] at h
  | oslc i n o z l c => simp [imm] at h
  | _ => rfl
termination_by v => SizeOf.sizeOf v
theorem imms_below (k : Nat) : ∀ {cs xs : List AV}, imms [] cs = some xs → belows k cs = true
  | [], _, _ => rfl
  | v :: r, xs, h => by
    simp only [imms] at h
    split at h
    · rename_i x xs' h1 h2
      simp only [belows, imm_below k h1, imms_below k h2]
    · cases h
termination_by cs => SizeOf.sizeOf cs
end

theorem belowB_mb {α : Type} {k : Nat} {kk : IntKind} {e : α → AV} (he : ∀ x, below k (e x) = true) (l : List (Int × α)) (r : List Blk) : belowB k (mb kk e l :: r) = belowB k r := by
  have : ∀ l : List (Int × α), belowM k (l.map fun p => ((.int kk p.1, e p.2) : AV × AV)) = true := by
    intro l
    induction l with
    | nil => rfl
    | cons p l ih => simp only [List.map_cons, belowM, he, ih]
  simp only [mb, belowB, this]

theorem renB_mb {α : Type} {σ : Nat → Nat} {kk : IntKind} {e : α → AV} (he : ∀ x, ren σ (e x) = e x) (l : List (Int × α)) : renB σ (mb kk e l) = mb kk e l := by
  simp only [mb, renB, List.map_map]
  congr 1
  apply List.map_congr_left
  intro p _
  simp [he]

theorem back_nil_mb {α : Type} {σ : Nat → Nat} {kk : IntKind} {e : α → AV} (he : ∀ x, ren σ (e x) = e x) {l : List (Int × α)} {st : List Blk} : back [] σ st [mb kk e l] = st ++ [mb kk e l] := by
  simp [back, setAll, renB_mb he]
end
end Go.Proofs.YtelgmdljcbkniaaGreatDoor.Ai

/- An interpreter of values for the model's code, base text 14: blocks by their places; variables, slices that grow, slices that are made. -/
namespace Go.Proofs.YtelgmdljcbkniaaGreatDoor.Ai
noncomputable section
open Go
set_option linter.unusedVariables false

theorem blkOk_gone {G : Ghost} {w : World} {i : Nat} : BlkOk G w i .gone ↔ G.cl i = none ∧ G.gr i = none := Iff.rfl

theorem Inv.batOk {G : Ghost} {bs : List Blk} {w : World} (h : Inv G bs w) (i : Nat) : BlkOk G w i (bat bs i) := by
  rcases Nat.lt_or_ge i bs.length with hi | hi
  · have e : bs[i]? = some bs[i] := List.getElem?_eq_getElem hi
    rw [bat_get bs i _ e]; exact h.blk i _ e
  · rw [bat_ge bs i hi]; exact h.dom i hi

theorem Inv.of_bat {G : Ghost} {bs : List Blk} {w : World} (h : ∀ i, BlkOk G w i (bat bs i)) (hi : ∀ i j c, G.owns i c → G.owns j c → i = j) (hz : ∀ c o v, G.Z c o = some v → rd w c o = some v) : Inv G bs w :=
  ⟨fun i b e => bat_get bs i b e ▸ h i, fun i hlt => by have := h i; rwa [bat_ge bs i hlt] at this, hi, hz⟩

/-- A block becomes another, in a world that went on: at its place, and elsewhere as it was. -/
theorem Inv.turn {G G' : Ghost} {bs : List Blk} {w w' : World} (h : Inv G bs w) {k : Nat} (b : Blk) (hcl : ∀ i, i ≠ k → G'.cl i = G.cl i) (hgr : ∀ i, i ≠ k → G'.gr i = G.gr i) (hle : G.le G')
    (hf : ∀ c, c < w.heap.size → ¬ G.owns k c → w'.heap[c]? = w.heap[c]?) (hzo : ∀ i c o, i ≠ k → G.owns i c → G'.Z c o = G.Z c o) (hs : ∀ c o v, G'.Z c o = some v → rd w' c o = some v)
    (hb : BlkOk G' w' k b) (hown : ∀ c, G'.owns k c → w.heap.size ≤ c ∨ G.owns k c) : Inv G' (bset bs k b) w' := by
  have howns : ∀ i c, i ≠ k → (G'.owns i c ↔ G.owns i c) := fun i c hi => by unfold Ghost.owns; rw [hcl i hi, hgr i hi]
  refine .of_bat (fun i => ?_) (fun i j c h1 h2 => ?_) hs
  · rw [bat_bset]
    split
    · rename_i e; subst e; exact hb
    · rename_i e
      have e' : i ≠ k := fun x => e x.symm
      refine (h.batOk i).keep hle (hcl i e') (hgr i e') (fun c hc => hf c (h.lt hc).2 fun hk => e' (h.inj i k c hc hk)) fun c hc o => hzo i c o e' hc
  · by_cases hi : i = k <;> by_cases hj : j = k
    · omega
    · rw [howns j c hj] at h2
      have h3 := (h.lt h2).2
      rcases hown c (hi ▸ h1) with e | e
      · omega
      · exact absurd (h.inj j k c h2 e) hj
    · rw [howns i c hi] at h1
      have h3 := (h.lt h1).2
      rcases hown c (hj ▸ h2) with e | e
      · omega
      · exact absurd (h.inj i k c h1 e) hi
    · rw [howns i c hi] at h1
      rw [howns j c hj] at h2
      exact h.inj i j c h1 h2

theorem Inv.pad {G : Ghost} {bs : List Blk} {w : World} (h : Inv G bs w) (n : Nat) : Inv G (bs ++ List.replicate n .gone) w := by
  refine ⟨fun i b hb => ?_, fun i hi => h.dom i (by simp at hi; omega), h.inj, h.z⟩
  rw [List.getElem?_append] at hb
  split at hb
  · exact h.blk i b hb
  · rename_i hi
    rw [List.getElem?_replicate] at hb
    split at hb
    · obtain rfl := Option.some.inj hb
      exact h.dom i (by omega)
    · cases hb

/-- A new block of cells at a free place. -/
theorem after_cells {G : Ghost} {bs : List Blk} {w : World} (hI : Inv G bs w) {k : Nat} (hk : bat bs k = .gone) (arr : Array Value) (e : TypeId) (cs : List AV) (hl : cs.length ≤ arr.size)
    (hr : ∀ (j : Nat) v cv, cs[j]? = some v → arr[j]? = some cv → R G v cv) :
    ∃ G', Inv G' (bset bs k (.cells cs)) (w.alloc (.cells arr e)) ∧ G.le G' ∧ Ev G w G' (w.alloc (.cells arr e)) ∧ G'.cl k = some w.heap.size := by
  have hb : (bs ++ List.replicate (k + 1 - bs.length) Blk.gone)[k]? = some .gone := by
    rcases Nat.lt_or_ge k bs.length with hlt | hge
    · rw [List.getElem?_append_left hlt, List.getElem?_eq_getElem hlt, ← hk, bat_get bs k bs[k] (List.getElem?_eq_getElem hlt)]
    · rw [List.getElem?_append_right hge, List.getElem?_replicate, if_pos (by omega)]
  obtain ⟨G', h1, h2, h3, h4, _⟩ := (hI.pad (k + 1 - bs.length)).fillat hb arr e cs hl hr 0
  exact ⟨G', by rw [bset_pad]; exact h1, h2, h3, h4⟩

theorem op_alloc_b {P : Program} {o : Oper} {s : St} {t : TypeId} {size bytes : Nat} {z : Value} {d : TypeDesc} {v : AV} {k : Nat} (ht : Inf P t size bytes z d) (hz : ofConst z = some v) (h1 : v.cells.all AV.one = true)
    (ho : o.op = .alloc t) (hk : bat s.bs k = .gone) : OpT P o s (.ptr k 0) (bset s.bs k (.cells v.cells)) := by
  refine OpT.of (by simp [ho]) ?_
  intro G w a hI hE K Q hK
  have hr : R G v z := .imm _ _ (ofConst_ri hz)
  obtain ⟨hl, hc, _⟩ := hr.cells h1
  obtain ⟨G', hI', hle, hev, hp⟩ := after_cells hI hk z.cells t v.cells (by omega) hc
  unfold Oper.wp
  have : (execOp a.eval o).run P w = .ok (.value (.pointer (some ⟨w.heap.size, 0, none⟩))) (w.alloc (.cells z.cells t)) := by
    simp [execOp, ho, Instr.alloc, ht.zero, newVar, newRow]
  rw [this]
  exact hK _ _ G' ⟨.ptr _ _ _ hp, hI', hle, hev⟩

theorem op_box_b {P : Program} {o : Oper} {s : St} {t : TypeId} {x : Operand} {v : AV} {k : Nat} (ho : o.op = .box t x) (hx : ev s.env x = some v) (h1 : v.cells.all AV.one = true) (hk : bat s.bs k = .gone) :
    OpT P o s (.ptr k 0) (bset s.bs k (.cells v.cells)) := by
  refine OpT.of (by simp [ho]) ?_
  intro G w a hI hE K Q hK
  have hr := ev_r hE hx
  obtain ⟨hl, hc, _⟩ := hr.cells h1
  obtain ⟨G', hI', hle, hev, hp⟩ := after_cells hI hk (a.eval x).cells t v.cells (by omega) hc
  unfold Oper.wp
  have : (execOp a.eval o).run P w = .ok (.value (.pointer (some ⟨w.heap.size, 0, none⟩))) (w.alloc (.cells (a.eval x).cells t)) := by
    simp [execOp, ho, Instr.box, newVar, newRow]
  rw [this]
  exact hK _ _ G' ⟨.ptr _ _ _ hp, hI', hle, hev⟩

theorem bat_lt {bs : List Blk} {k : Nat} {b : Blk} (h : bat bs k = b) (hn : b ≠ .gone) : k < bs.length := lt_of_get (get_bat bs k b h hn)

theorem op_store_b {P : Program} {o : Oper} {s : St} {t : TypeId} {p x : Operand} {size bytes : Nat} {z : Value} {d : TypeDesc} {i k : Nat} {cs cs' : List AV} {v : AV} (ht : Inf P t size bytes z d)
    (ho : o.op = .store t p x) (hp : ev s.env p = some (.ptr i k)) (hx : ev s.env x = some v) (hb : bat s.bs i = .cells cs) (hs : v.cells.length = size) (h1 : v.cells.all AV.one = true) (hk : k + size ≤ cs.length)
    (hv : cs.take k ++ v.cells ++ cs.drop (k + size) = cs') : OpT P o s (.und) (bset s.bs i (.cells cs')) := by
  rw [bset_set _ _ _ (bat_lt hb (by simp))]
  exact op_store ht ho hp hx (get_bat _ _ _ hb (by simp)) hs h1 hk hv

/-- Maps with new entries; a new map. -/
theorem op_mkmap_b {P : Program} {o : Oper} {s : St} {t : TypeId} {k : Nat} (ho : o.op = .makeMap t none) (hk : bat s.bs k = .gone) : OpT P o s (.map k) (bset s.bs k (.map [])) := by
  refine OpT.of (by simp [ho]) ?_
  intro G w a hI hE K Q hK
  have hg := hI.batOk k
  rw [hk] at hg
  let G' : Ghost := { G with cl := fun i => if i = k then some w.heap.size else G.cl i }
  have hcl : G'.cl k = some w.heap.size := by simp [G']
  have hgr0 : G'.gr k = none := hg.2
  have hf : ∀ c, c < w.heap.size → (w.alloc (.map #[] 0)).heap[c]? = w.heap[c]? := fun c hc => heap_alloc_old w _ c hc
  have hown : ∀ c, G'.owns k c → c = w.heap.size := fun c hc => by
    rcases hc with hc | ⟨g, hg', _⟩
    · rw [hcl] at hc; exact (Option.some.inj hc).symm
    · rw [hgr0] at hg'; cases hg'
  have hle : G.le G' := ⟨fun i c e => by
    have : i ≠ k := fun x => by rw [x, hg.1] at e; cases e
    simp [G', this, e], fun i g e => ⟨g, e, .inl rfl⟩, .refl _⟩
  have h1 := hI.turn (G' := G') (w' := w.alloc (.map #[] 0)) (k := k) (.map []) (fun i hi => by simp [G', hi]) (fun _ _ => rfl) hle (fun c hc _ => hf c hc) (fun _ _ _ _ _ => rfl) (fun c o v ez => by
      rw [rd_of_frame (hf c (hI.z_lt ez))]; exact hI.z c o v ez)
    ⟨hgr0, fun c hc => by
      rw [hcl] at hc
      obtain rfl := Option.some.inj hc
      refine ⟨#[], 0, heap_alloc_new w _, rfl, fun j e ce e1 _ => by simp at e1, fun o => ?_⟩
      cases hz : G.Z w.heap.size o with
      | none => rfl
      | some v => have := hI.z_lt hz; omega⟩ (fun c hc => .inl (by rw [hown c hc]; exact Nat.le_refl _))
  unfold Oper.wp execOp
  have hrun : (Instr.makeMap t none).run P w = .ok (.map (some w.heap.size)) (w.alloc (.map #[] 0)) := rfl
  simp only [ho, Option.map_none, Sem.run_bind, hrun, Result.andThen_ok]
  refine hK _ _ G' ⟨.map _ _ hcl, h1, hle, ⟨rfl, rfl, rfl, by simp, .refl _, fun _ _ _ e => .inl e, fun c hc _ => hf c hc, fun i c hc => ?_, loop_of_same fun c hc => .inl (hf c hc)⟩⟩
  by_cases hi : i = k
  · subst hi; rw [hown c hc]; exact .inl (Nat.le_refl _)
  · exact .inr ⟨i, by unfold Ghost.owns at hc ⊢; simpa [G', hi] using hc⟩

end
end Go.Proofs.YtelgmdljcbkniaaGreatDoor.Ai

/- An interpreter of values for the model's code, base text 15: slices that grow, slices that are made, parts of slices, lengths. -/
namespace Go.Proofs.YtelgmdljcbkniaaGreatDoor.Ai
noncomputable section
open Go
set_option linter.unusedVariables false

theorem cell_add (w : World) (c o j : Nat) : w.cell? ((⟨c, o, none⟩ : Addr).add j) = w.cell? ⟨c, o + j, none⟩ := by rw [addr_add]

/-- The cells of a list that nobody writes. -/
theorem lst_cells {Z : ZM} {ys : List AV} {sz c o : Nat} {w : World} (hs0 : 0 < sz) (he : ∀ (j : Nat) (x : AV), ys[j]? = some x → x.cells.length = sz)
    (hz : ∀ (j : Nat) (x : AV) (q : Nat) v cv, ys[j]? = some x → x.cells[q]? = some v → Z c (o + j * sz + q) = some cv → RI Z v cv)
    (hd : ∀ (j q : Nat), j < ys.length → q < sz → ∃ cv, Z c (o + j * sz + q) = some cv) (hr : ∀ c o v, Z c o = some v → rd w c o = some v) :
    ∃ news : List Value, news.length = ys.length * sz ∧ (∀ j u, news[j]? = some u → w.cell? ⟨c, o + j, none⟩ = some u) ∧
      (∀ (j : Nat) (x : AV) (q : Nat) v, ys[j]? = some x → x.cells[q]? = some v → ∃ cv, news[j * sz + q]? = some cv ∧ RI Z v cv) ∧ (∀ u ∈ news, ∃ (j : Nat) (x : AV) (q : Nat) (v : AV), ys[j]? = some x ∧ x.cells[q]? = some v ∧ RI Z v u) := by
  refine ⟨(List.range (ys.length * sz)).map fun j => (Z c (o + j)).getD undef, by simp, fun j u hj => ?_, fun j x q v hx hq => ?_, fun u hu => ?_⟩
  all_goals
    have key : ∀ j, j < ys.length * sz → ∃ x v cv, ys[j / sz]? = some x ∧ x.cells[j % sz]? = some v ∧ Z c (o + j) = some cv ∧ RI Z v cv := fun j hj => by
      have hq : j % sz < sz := Nat.mod_lt _ hs0
      have hk : j / sz < ys.length := Nat.div_lt_of_lt_mul (by rw [Nat.mul_comm]; exact hj)
      have e : o + j / sz * sz + j % sz = o + j := by have := Nat.div_add_mod j sz; rw [Nat.mul_comm] at this; omega
      obtain ⟨cv, h1⟩ := hd (j / sz) (j % sz) hk hq
      have hx : ys[j / sz]? = some ys[j / sz] := List.getElem?_eq_getElem hk
      have hl := he _ _ hx
      have hv : (ys[j / sz]).cells[j % sz]? = some (ys[j / sz]).cells[j % sz] := List.getElem?_eq_getElem (by omega)
      exact ⟨_, _, cv, hx, hv, e ▸ h1, hz _ _ _ _ _ hx hv h1⟩
  · have hlt : j < ys.length * sz := by have := lt_of_get hj; simpa using this
    obtain ⟨x, v, cv, _, _, h3, h4⟩ := key j hlt
    rw [List.getElem?_map, List.getElem?_range hlt] at hj
    simp only [Option.map_some, h3, Option.getD_some, Option.some.injEq] at hj
    subst hj
    exact rd_cell (hr _ _ _ h3) (RI.no_code h4)
  · have hq' : q < sz := he j x hx ▸ lt_of_get hq
    have hlt : j * sz + q < ys.length * sz := by
      have h1 : j * sz + sz ≤ ys.length * sz := by rw [← Nat.succ_mul]; exact Nat.mul_le_mul_right _ (lt_of_get hx)
      omega
    obtain ⟨cv, h1⟩ := hd j q (lt_of_get hx) hq'
    refine ⟨cv, ?_, hz j x q v cv hx hq h1⟩
    rw [List.getElem?_map, List.getElem?_range hlt]
    simp [← Nat.add_assoc, h1]
  · obtain ⟨j, hj, rfl⟩ := List.mem_map.1 hu
    have hlt : j < ys.length * sz := by simpa using hj
    obtain ⟨x, v, cv, h1, h2, h3, h4⟩ := key j hlt
    exact ⟨_, x, _, v, h1, h2, by rw [h3]; exact h4⟩

theorem one_of_ri {Z : ZM} {v : AV} {u : Value} (h : RI Z v u) (h1 : v.one = true) : u.oneCell' = true := by
  cases h <;> first | rfl | cases h1

/-- Each element has the size, and cells that are one. -/
def Sized (sz : Nat) (ys : List AV) : Prop := ∀ y ∈ ys, y.cells.length = sz ∧ y.cells.all AV.one = true

theorem sized_get {sz : Nat} {ys : List AV} (h : Sized sz ys) (j : Nat) (y : AV) (hy : ys[j]? = some y) : y.cells.length = sz ∧ y.cells.all AV.one = true := h y (List.mem_of_getElem? hy)

theorem grow_turn {e size : Nat} {G : Ghost} {bs : List Blk} {w w' : World} (hI : Inv G bs w) {i : Nat} {xs ys : List AV} {g : Gr} (hb : bat bs i = .grow e size xs) (hg : G.gr i = some g) {cs news : List Value}
    (hs0 : 0 < size) (hn : g.n = xs.length) (hcells : ∀ (j : Nat) (x : AV), xs[j]? = some x → x.cells.length = size) (hlen : cs.length = xs.length * size)
    (hcont : ∀ (j : Nat) (x : AV) (q : Nat) v cv, xs[j]? = some x → x.cells[q]? = some v → cs[j * size + q]? = some cv → RI G.Z v cv)
    (hzz : ∀ c, g.hv.ownBlock = some c → (∀ (k : Nat) cv, cs[k]? = some cv → G.Z c k = some cv) ∧ ∀ k, cs.length ≤ k → G.Z c k = none)
    (hysz : ∀ (j : Nat) (y : AV), ys[j]? = some y → y.cells.length = size) (hy0 : 0 < ys.length) (hnews : ∀ (j : Nat) (x : AV) (q : Nat) v, ys[j]? = some x → x.cells[q]? = some v → ∃ cv, news[j * size + q]? = some cv ∧ RI G.Z v cv)
    {g2 cap2 : Nat} (hown : w'.ownsRow 0 e size (.slice (some ⟨g2, 0, none⟩) (xs.length + ys.length) cap2) (xs.length + ys.length) (cs ++ news)) (hos : w'.os = w.os) (htape : w'.tape = w.tape) (hout : w'.output = w.output) (hsize : w.heap.size ≤ w'.heap.size)
    (hnc : ∀ u ∈ news, ∀ ks vs, u ≠ mapCode ks vs) (hnc0 : ∀ u ∈ cs, ∀ ks vs, u ≠ mapCode ks vs) (hplace : w.heap.size ≤ g2 ∨ g.hv.ownBlock = some g2) (hf : ∀ c, c < w.heap.size → c ≠ g2 → w'.heap[c]? = w.heap[c]?) :
    ∃ G', After G w (.gsl i (xs.length + ys.length)) (bset bs i (.grow e size (xs ++ ys))) (.slice (some ⟨g2, 0, none⟩) (xs.length + ys.length) cap2) w' G' := by
  have hB := hI.batOk i
  rw [hb] at hB
  have hcl := hB.1
  let Z' : ZM := fun c o => if c = g2 then (cs ++ news)[o]? else G.Z c o
  have z0 : ∀ o v, G.Z g2 o = some v → (cs ++ news)[o]? = some v := fun o v ez => by
    rcases hplace with h | h
    · have := hI.z_lt ez; omega
    · obtain ⟨h1, h2⟩ := hzz g2 h
      have ho : o < cs.length := by
        rcases Nat.lt_or_ge o cs.length with h' | h'
        · exact h'
        · rw [h2 o h'] at ez; cases ez
      have := h1 o cs[o] (by simp [ho])
      rw [ez] at this
      rw [List.getElem?_append_left ho, List.getElem?_eq_getElem ho]
      exact this.symm
  have hle : G.Z.le Z' := fun c o v ez => by
    simp only [Z']
    split
    · rename_i h; subst h; exact z0 o v ez
    · exact ez
  let G' : Ghost := ⟨G.cl, fun j => if j = i then some ⟨xs.length + ys.length, .slice (some ⟨g2, 0, none⟩) (xs.length + ys.length) cap2⟩ else G.gr j, Z', G.ok.mono hle⟩
  have hgr : G'.gr i = some ⟨xs.length + ys.length, .slice (some ⟨g2, 0, none⟩) (xs.length + ys.length) cap2⟩ := by simp [G']
  have hgrne : ∀ j, j ≠ i → G'.gr j = G.gr j := fun j hj => by simp [G', hj]
  have hleG : G.le G' := by
    refine ⟨fun _ _ h => h, fun j g' h => ?_, hle⟩
    by_cases hj : j = i
    · subst hj
      rw [hg] at h
      obtain rfl := Option.some.inj h
      exact ⟨_, hgr, .inr (by rw [hn]; show xs.length < xs.length + ys.length; omega)⟩
    · exact ⟨g', by rw [hgrne j hj]; exact h, .inl rfl⟩
  have hown_i : ∀ c, G'.owns i c → c = g2 := fun c hc => by
    rcases hc with hc | ⟨g', h1, h2⟩
    · rw [show G'.cl i = none from hcl] at hc; cases hc
    · rw [hgr] at h1
      obtain rfl := Option.some.inj h1
      simpa [Value.ownBlock] using h2.symm
  have hplace' : w.heap.size ≤ g2 ∨ G.owns i g2 := hplace.imp id fun h => .inr ⟨g, hg, h⟩
  have hinv := hI.turn (G' := G') (w' := w') (k := i) (.grow e size (xs ++ ys)) (fun _ _ => rfl) hgrne hleG
    (fun c hc hno => hf c hc fun e0 => by
      subst e0
      rcases hplace' with h | h
      · omega
      · exact hno h)
    (fun j c o hj hc => by
      show Z' c o = G.Z c o
      simp only [Z']
      rw [if_neg]
      intro e0
      subst e0
      rcases hplace' with h | h
      · have := (hI.lt hc).2; omega
      · exact hj (hI.inj j i c hc h))
    (fun c o v ez => by
      have ez0 : (if c = g2 then (cs ++ news)[o]? else G.Z c o) = some v := ez
      split at ez0
      · rename_i h; subst h
        have ez' : (cs ++ news)[o]? = some v := ez0
        have := hown.cells (g := c) rfl o v ez'
        rw [cell_add, Nat.zero_add] at this
        exact rd_of_cell this ((List.mem_append.1 (List.mem_of_getElem? ez')).elim (hnc0 v) (hnc v))
      · rename_i h
        rw [rd_of_frame (hf c (hI.z_lt ez0) h)]; exact hI.z c o v ez0)
    ⟨hcl, fun g' hg' => by
      rw [hgr] at hg'
      obtain rfl := Option.some.inj hg'
      refine ⟨by simp, hs0, fun j x hx => ?_, cs ++ news, by simpa using hown, fun j x q v cv hx hq hcv => ?_, fun c hc => ?_⟩
      · rw [List.getElem?_append] at hx
        split at hx
        · exact hcells j x hx
        · exact hysz _ x hx
      · have hqs : q < size := by
          rw [List.getElem?_append] at hx
          split at hx
          · exact hcells j x hx ▸ lt_of_get hq
          · exact hysz _ x hx ▸ lt_of_get hq
        rw [List.getElem?_append] at hx
        split at hx
        · rename_i hj
          have h1 : j * size + q < cs.length := by
            have : j * size + size ≤ xs.length * size := by rw [← Nat.succ_mul]; exact Nat.mul_le_mul_right _ hj
            omega
          rw [List.getElem?_append_left h1] at hcv
          exact (hcont j x q v cv hx hq hcv).mono hle
        · rename_i hj
          have e1 : j * size + q = cs.length + ((j - xs.length) * size + q) := by
            have : j * size = xs.length * size + (j - xs.length) * size := by rw [← Nat.add_mul]; congr 1; omega
            omega
          rw [e1, List.getElem?_append_right (by omega), Nat.add_sub_cancel_left] at hcv
          obtain ⟨cv', h1, h2⟩ := hnews _ x q v hx hq
          rw [h1] at hcv
          exact (Option.some.inj hcv) ▸ h2.mono hle
      · have : c = g2 := by simpa [Value.ownBlock] using hc.symm
        subst this
        exact ⟨fun k cv hk => by show Z' c k = some cv; simp only [Z', if_true]; exact hk, fun k hk => by show Z' c k = none; simp only [Z', if_true]; exact List.getElem?_eq_none hk⟩⟩
    (fun c hc => by rw [hown_i c hc]; exact hplace')
  have hcells2 : ∀ rec : Loop, w.heap[g2]? ≠ some (Obj.loop rec) := fun rec e0 => by
    rcases hplace with h | h
    · have := (Array.getElem?_eq_some_iff.1 e0).1; omega
    · obtain ⟨_, _, _, cs0, hown0, _⟩ := hB.2 g hg
      rcases hown0.2 with ⟨hv, _⟩ | ⟨g1, cap1, cur, hv, _, hh, _⟩
      · rw [hv] at h; simp [Value.ownBlock] at h
      · rw [hv] at h
        have : g1 = g2 := by simpa [Value.ownBlock] using h
        subst this
        rw [hh] at e0; cases e0
  refine ⟨G', .gsl _ _ _ _ _ hgr, hinv, hleG, ⟨hos, htape, hout, hsize, hle, fun c o v ez => ?_, fun c hc hno => hf c hc fun e0 => ?_, fun j c hc => ?_, loop_of_same fun c hc => by
    by_cases e0 : c = g2
    · exact .inr (by rw [e0]; exact hcells2)
    · exact .inl (hf c hc e0)⟩⟩
  · have ez : Z' c o = some v := ez
    simp only [Z'] at ez
    split at ez
    · rename_i h; subst h
      rcases hplace' with h | h
      · exact .inr (.inl h)
      · exact .inr (.inr ⟨i, h⟩)
    · exact .inl ez
  · subst e0
    rcases hplace' with h | h
    · omega
    · exact hno i h
  · by_cases hj : j = i
    · subst hj
      rw [hown_i c hc]
      exact hplace'.imp id fun h => ⟨j, h⟩
    · exact .inr ⟨j, by unfold Ghost.owns at hc ⊢; rw [hgrne j hj] at hc; exact hc⟩

theorem run_append_none {P : Program} {t ty e : TypeId} {ie : TypeInfo} {w : World} (ht : P.underlying t = some (.slice e)) (hie : P.info? e = some ie) {b b2 : Option Addr} {n cap c : Nat} (hn : n ≤ cap) :
    (Builtin.append_ #[t, t] ty #[.slice b n cap, .slice b2 0 c]).run P w = .ok (.slice b n cap) w := by
  have hf : (Builtin.firstCells ie.size 0 (.slice b2 0 c)).run P w = .ok #[] w := by
    cases b2 with
    | none => exact run_firstCells_none ..
    | some a => exact run_firstCells_some (P := P) w ie.size 0 a 0 c [] (by simp) (by simp)
  cases b with
  | none => simp [Builtin.append_, run_underlying ht, sizeOf, typeInfo, hie, Builtin.lenOf, hn, hf]
  | some a => simp [Builtin.append_, run_underlying ht, sizeOf, typeInfo, hie, Builtin.lenOf, hn, hf, storeCells]

/-- A list that grows by another: in place or anew. -/
theorem after_append {P : Program} {t ty e : TypeId} {size bytes : Nat} {z : Value} {d : TypeDesc} (ht : P.underlying t = some (.slice e)) (he : Inf P e size bytes z d) (hzs : z.cells.size = size) (hs0 : 0 < size)
    {G : Ghost} {bs : List Blk} {w : World} (hI : Inv G bs w) {i : Nat} {xs ys : List AV} {g : Gr} (hb : bat bs i = .grow e size xs) (hg : G.gr i = some g) {ex : Bool} {cy : Value} (hy : RI G.Z (.lst ex ys) cy) (hsz : Sized size ys) (hbound : (xs.length + ys.length) * bytes ≤ 140737488355328) (hmax : xs.length + ys.length ≤ maxLen) :
    ∃ v' w' G', (Builtin.append_ #[t, t] ty #[g.hv, cy]).run P w = .ok v' w' ∧ After G w (.gsl i (xs.length + ys.length)) (bset bs i (.grow e size (xs ++ ys))) v' w' G' := by
  obtain ⟨ie, hie, hsize, hby, hz⟩ := he.info
  have hB := hI.batOk i
  rw [hb] at hB
  obtain ⟨hcl, hB⟩ := hB
  obtain ⟨hn, _, hcells, cs, hown, hcont, hzz⟩ := hB g hg
  by_cases hy0 : ys = []
  · subst hy0
    have hrun : (Builtin.append_ #[t, t] ty #[g.hv, cy]).run P w = .ok g.hv w := by
      have : ∃ b c, cy = .slice b 0 c := by
        cases hy with
        | nilslice _ b => exact ⟨b, 0, rfl⟩
        | lst _ _ sz c o cap _ _ _ _ _ => exact ⟨_, cap, rfl⟩
      obtain ⟨b, c, rfl⟩ := this
      rcases hown.2 with ⟨hv, _⟩ | ⟨g1, cap, cur, hv, _, _, hc, _⟩
      · rw [hv]; exact run_append_none ht hie (Nat.le_refl _)
      · rw [hv]; exact run_append_none ht hie hc
    have hv : ∃ b l c, g.hv = .slice b l c := by
      rcases hown.2 with ⟨hv, _⟩ | ⟨g1, cap, cur, hv, _⟩
      · exact ⟨_, _, _, hv⟩
      · exact ⟨_, _, _, hv⟩
    obtain ⟨b, l, c, hv⟩ := hv
    refine ⟨g.hv, w, G, hrun, ?_, ?_, .refl _, .refl _ _⟩
    · rw [hv]
      refine .gsl _ _ _ _ _ (hg.trans ?_)
      rw [← hv]
      cases g
      simp at hn ⊢
      exact hn
    · simp only [List.append_nil]
      refine .of_bat (fun j => ?_) hI.inj hI.z
      rw [bat_bset]
      split
      · rename_i e0; subst e0; rw [← hb]; exact hI.batOk i
      · exact hI.batOk j
  · have hy1 : 0 < ys.length := by cases ys with | nil => exact absurd rfl hy0 | cons => simp
    cases hy with
    | nilslice => simp at hy1
    | lst _ _ sz c o cap hel hzr hdr hcap _ =>
      have hszz : sz = size := by
        have h1 : ys[0]? = some ys[0] := List.getElem?_eq_getElem hy1
        rw [← hel 0 _ h1, (sized_get hsz 0 _ h1).1]
      subst hszz
      obtain ⟨news, hl, hcel, hnews, hone⟩ := lst_cells (w := w) hs0 hel hzr hdr hI.z
      have hcel' : ∀ j u, news[j]? = some u → w.cell? ((⟨c, o, none⟩ : Addr).add j) = some u := fun j u e1 => by rw [cell_add]; exact hcel j u e1
      have h1 : ∀ u ∈ news, u.oneCell' = true := fun u hu => by
        obtain ⟨j, x, q, v, e1, e2, e3⟩ := hone u hu
        exact one_of_ri e3 (List.all_eq_true.1 (sized_get hsz j x e1).2 v (List.mem_of_getElem? e2))
      have hnc : ∀ u ∈ news, ∀ ks vs, u ≠ mapCode ks vs := fun u hu => by
        obtain ⟨j, x, q, v, _, _, e3⟩ := hone u hu
        exact e3.no_code
      have hnc0 : ∀ u ∈ cs, ∀ ks vs, u ≠ mapCode ks vs := fun u hu => by
        obtain ⟨j, hj⟩ := List.getElem?_of_mem hu
        rcases hown.2 with ⟨_, h0⟩ | ⟨g1, cap1, cur, hv, _⟩
        · have : cs = [] := List.eq_nil_of_length_eq_zero (by rw [hown.1, h0]; simp)
          rw [this] at hu; cases hu
        · have hob : g.hv.ownBlock = some g1 := by rw [hv]; rfl
          have hc := hown.cells hob j u hj
          rw [cell_add] at hc
          exact rd_nocode (hI.z _ _ _ ((hzz g1 hob).1 j u hj)) ⟨u, by simpa using hc⟩
      have fresh : ∀ v' w', w'.ownsRow w.heap.size e sz v' (xs.length + ys.length) (cs ++ news) → w.grownBy w' none → ∃ G', After G w (.gsl i (xs.length + ys.length)) (bset bs i (.grow e sz (xs ++ ys))) v' w' G' := fun v' w' ho hgb => by
        rcases ho.2 with ⟨_, h0⟩ | ⟨g2, cap2, cur, rfl, hge, hrest⟩
        · omega
        · exact grow_turn hI hb hg hs0 hn hcells hown.1 hcont hzz (fun j y hy => (sized_get hsz j y hy).1) hy1 hnews ⟨ho.1, .inr ⟨g2, cap2, cur, rfl, Nat.zero_le _, hrest⟩⟩ hgb.os hgb.tape hgb.output hgb.size hnc hnc0 (.inl hge) (fun c hc _ => hgb.block c hc (by simp))
      rcases hown.2 with ⟨hv, h0⟩ | ⟨g1, cap1, cur, hv, hbg, hh, hc1, hcm, hcs, htake⟩
      · have hcs0 : cs = [] := List.eq_nil_of_length_eq_zero (by rw [hown.1, h0]; simp)
        have ho := World.ownsRow_nil w w.heap.size e sz
        rw [h0] at hmax hbound
        obtain ⟨v', w', hr, ho', hgb, _⟩ := run_append_own (P := P) w w.heap.size t ty e ie z sz bytes ht hie hz hsize hby hzs hs0 (.slice none 0 0) 0 [] ho ⟨c, o, none⟩ ys.length cap news hl hcel' h1 hmax hbound (Nat.le_refl _)
        obtain ⟨G', hA⟩ := fresh v' w' (by rw [h0, hcs0]; exact ho') (by simpa [Value.ownBlock] using hgb)
        exact ⟨v', w', G', by rw [hv]; exact hr, hA⟩
      · by_cases hroom : xs.length + ys.length ≤ cap1
        · have hfit : xs.length * ie.size + news.length ≤ cur.size := by rw [hl, hcs, hsize, ← Nat.add_mul]; exact Nat.mul_le_mul_right _ hroom
          have hr := run_append_room (P := P) w t ty e ie ht hie g1 xs.length cap1 cur hh ⟨c, o, none⟩ ys.length cap news (by rw [hsize]; exact hl) hcel' h1 hroom hfit
          rw [hsize] at hr hfit
          have hown' : (w.setRow g1 (cur.toList.take (xs.length * sz) ++ news ++ cur.toList.drop (xs.length * sz + news.length)).toArray).ownsRow 0 e sz (.slice (some ⟨g1, 0, none⟩) (xs.length + ys.length) cap1) (xs.length + ys.length) (cs ++ news) := by
            refine ⟨by rw [List.length_append, hown.1, hl, Nat.add_mul], .inr ⟨g1, cap1, _, rfl, Nat.zero_le _, setRow_heap w g1 cur _ e _ hh, hroom, hcm, ?_, ?_⟩⟩
            · simp only [List.size_toArray, List.length_append, List.length_take, List.length_drop, Array.length_toList]
              omega
            · have e0 : cur.toList.take (xs.length * sz) = cs := htake
              rw [e0]
              have e1 : (xs.length + ys.length) * sz = (cs ++ news).length := by rw [List.length_append, hown.1, hl, Nat.add_mul]
              rw [e1]
              exact List.take_left
          obtain ⟨G', hA⟩ := grow_turn (w' := w.setRow g1 (cur.toList.take (xs.length * sz) ++ news ++ cur.toList.drop (xs.length * sz + news.length)).toArray) hI hb hg hs0 hn hcells hown.1 hcont hzz (fun j y hy => (sized_get hsz j y hy).1) hy1 hnews hown' rfl rfl rfl (by simp)
            hnc hnc0 (.inr (by rw [hv]; rfl)) (fun c _ hc => setRow_other w g1 c _ hc)
          exact ⟨_, _, G', by rw [hv]; exact hr, hA⟩
        · have holds : ∀ j u, cs[j]? = some u → w.cell? ((⟨g1, 0, none⟩ : Addr).add j) = some u := hown.cells (g := g1) (by rw [hv]; rfl)
          obtain ⟨v', w', hr, ho', hgb⟩ := run_append_arg_grows (P := P) w t ty e ie z sz bytes ht hie hz hsize hby hzs hs0 ⟨g1, 0, none⟩ xs.length cap1 cs hown.1 holds ⟨c, o, none⟩ ys.length cap news hl hcel' (by omega) hmax hbound
          obtain ⟨G', hA⟩ := fresh v' w' ho' hgb
          exact ⟨v', w', G', by rw [hv]; exact hr, hA⟩

end
end Go.Proofs.YtelgmdljcbkniaaGreatDoor.Ai
