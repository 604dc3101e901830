/- An interpreter of values for the model's code, base text 19: the operations, by evaluation. -/
import Derived.Test.YtelgmdljcbkniaaDoorB18
namespace Go.Proofs.YtelgmdljcbkniaaDoor.Ai
noncomputable section
open Go
set_option linter.unusedVariables false

section
variable {X : Cx} {o : Oper} {env : Env} {bs : List Blk} {K : Ef → Prop}

/-! ### numbers -/

def bin2' (op : BinOp) (k : IntKind) (x y : Int) : Option AV := bin2 op k x y

def binW (X : Cx) (op : BinOp) (t : Nat) (a b : AV) (K : Ef → Prop) : Prop := match a, b with
  | .int k x, .int k' y => match op with
    | .quo => Chk (y ≠ 0) (boolP (k == k') (K ⟨.int k (k.wrap (x.tdiv y)), [], []⟩) False)
    | .rem => Chk (y ≠ 0) (boolP (k == k') (K ⟨.int k (x.tmod y), [], []⟩) False)
    | .shl => Chk (¬ y < 0) (K ⟨.int k (k.wrap (x * 2 ^ (min y.toNat k.bits))), [], []⟩)
    | .shr => Chk (¬ y < 0) (K ⟨.int k (x.fdiv (2 ^ (min y.toNat k.bits))), [], []⟩)
    | op => boolP (k == k') (optP (bin2 op k x y) fun v => K ⟨v, [], []⟩) False
  | .bool x, .bool y => optP (X.ti t) fun i => match i.desc, op with
    | .bool, .eql => K ⟨.bool (x == y), [], []⟩
    | .bool, .neq => K ⟨.bool (!(x == y)), [], []⟩
    | _, _ => False
  | .agg xs, .agg ys => optP (X.ti t) fun i => match i.desc, op with
    | .struct fs, .eql => Chk (X.P.stoodInHeld t = false ∧ X.P.eqGuardType X.P.depth t = false ∧ Flat X.P 0 fs.toList xs ys) (K ⟨.bool (scEqs xs ys), [], []⟩)
    | .struct fs, .neq => Chk (X.P.stoodInHeld t = false ∧ X.P.eqGuardType X.P.depth t = false ∧ Flat X.P 0 fs.toList xs ys) (K ⟨.bool (!(scEqs xs ys)), [], []⟩)
    | _, _ => False
  | v, .nilp => optP (X.ti t) fun i => match i.desc, op with
    | .pointer _, .eql => (match v with
      | .nilp => K ⟨.bool true, [], []⟩
      | .ptr _ _ | .rptr _ _ _ _ | .eptr _ _ _ => K ⟨.bool false, [], []⟩
      | _ => False)
    | .pointer _, .neq => (match v with
      | .nilp => K ⟨.bool false, [], []⟩
      | .ptr _ _ | .rptr _ _ _ _ | .eptr _ _ _ => K ⟨.bool true, [], []⟩
      | _ => False)
    | _, _ => False
  | _, _ => False

theorem binW_ok {op : BinOp} {t t' : Nat} {x y : Operand} {a b : AV} (ho : o.op = .binOp op t x y t') (hx : ev env x = some a) (hy : ev env y = some b) (h : binW X op t a b K) : ∃ e, Sd X.P o env bs e ∧ K e := by
  have mx : x ∈ o.op.operands.toList := by simp [ho, Op.operands]
  have my : y ∈ o.op.operands.toList := by simp [ho, Op.operands]
  unfold binW at h
  split at h
  · rename_i k x' k' y'
    have gen : ∀ op', op = op' → boolP (k == k') (optP (bin2 op' k x' y') fun v => K ⟨v, [], []⟩) False → ∃ e, Sd X.P o env bs e ∧ K e := fun op' e0 hq => by
      clear h
      subst e0
      replace hq := boolP_inv hq
      rcases hq with ⟨e, hq⟩ | ⟨_, hq⟩
      · obtain rfl : k = k' := by simpa using e
        replace hq := optP_inv hq
        obtain ⟨v, hv, hq⟩ := hq
        exact ⟨_, .q fun env' bs0 ha => op_bin ho ((ha x mx).trans hx) ((ha y my).trans hy) hv, hq⟩
      · exact hq.elim
    split at h
    · obtain ⟨h0, h⟩ := h
      replace h := boolP_inv h; rcases h with ⟨e, h⟩ | ⟨_, h⟩
      · obtain rfl : k = k' := by simpa using e
        exact ⟨_, .q fun env' bs0 ha => op_quo ho ((ha x mx).trans hx) ((ha y my).trans hy) h0, h⟩
      · exact h.elim
    · obtain ⟨h0, h⟩ := h
      replace h := boolP_inv h; rcases h with ⟨e, h⟩ | ⟨_, h⟩
      · obtain rfl : k = k' := by simpa using e
        exact ⟨_, .q fun env' bs0 ha => op_rem ho ((ha x mx).trans hx) ((ha y my).trans hy) h0, h⟩
      · exact h.elim
    · obtain ⟨h0, h⟩ := h
      exact ⟨_, .q fun env' bs0 ha => op_shl ho ((ha x mx).trans hx) ((ha y my).trans hy) h0, h⟩
    · obtain ⟨h0, h⟩ := h
      exact ⟨_, .q fun env' bs0 ha => op_shr ho ((ha x mx).trans hx) ((ha y my).trans hy) h0, h⟩
    · exact gen _ rfl h
  · replace h := optP_inv h; obtain ⟨i, hi, h⟩ := h
    have hu := (X.ok t i hi).inf.und
    split at h
    · rename i.desc = _ => hd
      rw [hd] at hu
      exact ⟨_, .q fun env' bs0 ha => op_eqb hu ho ((ha x mx).trans hx) ((ha y my).trans hy), h⟩
    · rename i.desc = _ => hd
      rw [hd] at hu
      exact ⟨_, .q fun env' bs0 ha => op_neb hu ho ((ha x mx).trans hx) ((ha y my).trans hy), h⟩
    · exact h.elim
  · replace h := optP_inv h; obtain ⟨i, hi, h⟩ := h
    have hu := (X.ok t i hi).inf.und
    split at h
    · rename i.desc = _ => hd
      rw [hd] at hu
      obtain ⟨⟨h1, h2, h3⟩, h⟩ := h
      exact ⟨_, .q fun env' bs0 ha => op_eqs hu h1 h2 h3 ho ((ha x mx).trans hx) ((ha y my).trans hy), h⟩
    · rename i.desc = _ => hd
      rw [hd] at hu
      obtain ⟨⟨h1, h2, h3⟩, h⟩ := h
      exact ⟨_, .q fun env' bs0 ha => op_nes hu h1 h2 h3 ho ((ha x mx).trans hx) ((ha y my).trans hy), h⟩
    · exact h.elim
  · replace h := optP_inv h; obtain ⟨i, hi, h⟩ := h
    have hu := (X.ok t i hi).inf.und
    have key : ∀ {v : AV} {b : Bool}, PtrV v b → ev env x = some v → (∃ e, i.desc = .pointer e) → (op = .eql → K ⟨.bool b, [], []⟩ → ∃ e, Sd X.P o env bs e ∧ K e) ∧ (op = .neq → K ⟨.bool (!b), [], []⟩ → ∃ e, Sd X.P o env bs e ∧ K e) := by
      clear h
      rintro v b hv hx ⟨e, hd⟩
      rw [hd] at hu
      refine ⟨fun e0 hq => ?_, fun e0 hq => ?_⟩
      · subst e0; exact ⟨_, .q fun env' bs0 ha => op_eqnil hu ho ((ha x mx).trans hx) hv ((ha y my).trans hy), hq⟩
      · subst e0; exact ⟨_, .q fun env' bs0 ha => op_nenil hu ho ((ha x mx).trans hx) hv ((ha y my).trans hy), hq⟩
    split at h
    · rename i.desc = _ => hd
      split at h
      · exact (key .nilp hx ⟨_, hd⟩).1 rfl h
      · exact (key (.ptr _ _) hx ⟨_, hd⟩).1 rfl h
      · exact (key (.rptr _ _ _ _) hx ⟨_, hd⟩).1 rfl h
      · exact (key (.eptr _ _ _) hx ⟨_, hd⟩).1 rfl h
      · exact h.elim
    · rename i.desc = _ => hd
      split at h
      · exact (key .nilp hx ⟨_, hd⟩).2 rfl h
      · exact (key (.ptr _ _) hx ⟨_, hd⟩).2 rfl h
      · exact (key (.rptr _ _ _ _) hx ⟨_, hd⟩).2 rfl h
      · exact (key (.eptr _ _ _) hx ⟨_, hd⟩).2 rfl h
      · exact h.elim
    · exact h.elim
  · exact h.elim

def unW (op : UnOp) (a : AV) (K : Ef → Prop) : Prop := match op, a with
  | .not, .bool b => K ⟨.bool (!b), [], []⟩
  | .neg, .int k n => K ⟨.int k (k.wrap (0 - n)), [], []⟩
  | _, _ => False
theorem unW_ok {op : UnOp} {t : Nat} {x : Operand} {a : AV} (ho : o.op = .unOp op t x) (hx : ev env x = some a) (h : unW op a K) : ∃ e, Sd X.P o env bs e ∧ K e := by
  have mx : x ∈ o.op.operands.toList := by simp [ho, Op.operands]
  unfold unW at h
  split at h
  · exact ⟨_, .q fun env' bs0 ha => op_not ho ((ha x mx).trans hx), h⟩
  · exact ⟨_, .q fun env' bs0 ha => op_neg ho ((ha x mx).trans hx), h⟩
  · exact h.elim

def convW (X : Cx) (t u : Nat) (a : AV) (K : Ef → Prop) : Prop := optP (X.ti t) fun it => optP (X.ti u) fun iu => match it.desc, iu.desc, a with
  | .int _, .int k', .int _ n => K ⟨.int k' (k'.wrap n), [], []⟩
  | _, _, _ => False
theorem convW_ok {t u : Nat} {x : Operand} {a : AV} (ho : o.op = .convert t u x) (hx : ev env x = some a) (h : convW X t u a K) : ∃ e, Sd X.P o env bs e ∧ K e := by
  have mx : x ∈ o.op.operands.toList := by simp [ho, Op.operands]
  unfold convW at h
  replace h := optP_inv h; obtain ⟨it, h1, h⟩ := h
  replace h := optP_inv h; obtain ⟨iu, h2, h⟩ := h
  split at h
  · rename it.desc = _ => d1
    rename iu.desc = _ => d2
    have u1 := (X.ok t it h1).inf.und
    have u2 := (X.ok u iu h2).inf.und
    rw [d1] at u1
    rw [d2] at u2
    exact ⟨_, .q fun env' bs0 ha => op_conv u1 u2 ho ((ha x mx).trans hx), h⟩
  · exact h.elim

def pickW (c : AV) (a b : Option AV) (K : Ef → Prop) : Prop := match c with
  | .bool t => boolP t (optP a fun v => K ⟨v, [], []⟩) (optP b fun v => K ⟨v, [], []⟩)
  | _ => False
theorem pickW_ok {c x y : Operand} {cv : AV} (ho : o.op = .pick c x y) (hc : ev env c = some cv) (h : pickW cv (ev env x) (ev env y) K) : ∃ e, Sd X.P o env bs e ∧ K e := by
  have mc : c ∈ o.op.operands.toList := by simp [ho, Op.operands]
  have mx : x ∈ o.op.operands.toList := by simp [ho, Op.operands]
  have my : y ∈ o.op.operands.toList := by simp [ho, Op.operands]
  unfold pickW at h
  split at h
  · replace h := boolP_inv h; rcases h with ⟨e, h⟩ | ⟨e, h⟩
    · subst e
      replace h := optP_inv h; obtain ⟨v, hv, h⟩ := h
      exact ⟨_, .q fun env' bs0 ha => op_pick_true ho ((ha c mc).trans hc) ((ha x mx).trans hv), h⟩
    · subst e
      replace h := optP_inv h; obtain ⟨v, hv, h⟩ := h
      exact ⟨_, .q fun env' bs0 ha => op_pick_false ho ((ha c mc).trans hc) ((ha y my).trans hv), h⟩
  · exact h.elim

/-! ### reading and writing -/

def loadW (X : Cx) (t : Nat) (bs : List Blk) (p : AV) (K : Ef → Prop) : Prop := optP (X.ti t) fun i => match p with
  | .ptr b k => cellsP (bat bs b) fun cs => boolP (isAggD i.desc)
      (boolP (lenGe cs (k + i.size)) (boolP (Nat.ble i.size 64) (copyP ((cs.drop k).take i.size) fun ds => K ⟨.agg ds, [(b, .cells cs)], []⟩) (K ⟨.agg ((cs.drop k).take i.size), [(b, .cells cs)], []⟩)) False)
      (optP (nth cs k) fun v => K ⟨v, [(b, .cells cs)], []⟩)
  | .eptr xs j k => optP (nth xs j) fun u => boolP (isAggD i.desc)
      (boolP (lenGe u.cells (k + i.size)) (boolP (Nat.ble i.size 64) (copyP ((u.cells.drop k).take i.size) fun ds => K ⟨.agg ds, [], []⟩) (K ⟨.agg ((u.cells.drop k).take i.size), [], []⟩)) False)
      (optP (nth u.cells k) fun v => K ⟨v, [], []⟩)
  | .rptr b j sz k => rowsP (bat bs b) fun sz' xs => boolP (Nat.beq sz' sz) (optP (nth xs j) fun u => boolP (isAggD i.desc)
      (boolP (lenGe u.cells (k + i.size)) (copyP ((u.cells.drop k).take i.size) fun ds => K ⟨.agg ds, [(b, .rows sz' xs)], []⟩) False)
      (optP (nth u.cells k) fun v => K ⟨v, [(b, .rows sz' xs)], []⟩)) False
  | _ => False

theorem loadW_ok {t : Nat} {x : Operand} {p : AV} (ho : o.op = .load t x) (hx : ev env x = some p) (h : loadW X t bs p K) : ∃ e, Sd X.P o env bs e ∧ K e := by
  have mx : x ∈ o.op.operands.toList := by simp [ho, Op.operands]
  unfold loadW at h
  replace h := optP_inv h; obtain ⟨i, hi, h⟩ := h
  have ht := (X.ok t i hi).inf
  split at h
  · rename_i b k
    replace h := cellsP_inv h; obtain ⟨cs, hb, h⟩ := h
    replace h := boolP_inv h; rcases h with ⟨hd, h⟩ | ⟨hd, h⟩
    · replace h := boolP_inv h; rcases h with ⟨hl, h⟩ | ⟨_, h⟩
      · have h' : K ⟨.agg ((cs.drop k).take i.size), [(b, .cells cs)], []⟩ := by
          replace h := boolP_inv h; rcases h with ⟨_, h⟩ | ⟨_, h⟩
          · exact copyP_inv (K := fun ds => K ⟨.agg ds, [(b, .cells cs)], []⟩) h
          · exact h
        exact ⟨_, .r hb fun env' bs0 ha hb0 => op_load_agg ht hd ho ((ha x mx).trans hx) (get_bat _ _ _ hb0 (by simp)) (lenGe_inv hl) rfl, h'⟩
      · exact h.elim
    · replace h := optP_inv h; obtain ⟨v, hv, h⟩ := h
      rw [nth_eq] at hv
      exact ⟨_, .r hb fun env' bs0 ha hb0 => op_load ht hd ho ((ha x mx).trans hx) (get_bat _ _ _ hb0 (by simp)) hv, h⟩
  · rename_i xs j k
    replace h := optP_inv h; obtain ⟨u, hu, h⟩ := h
    rw [nth_eq] at hu
    replace h := boolP_inv h; rcases h with ⟨hd, h⟩ | ⟨hd, h⟩
    · replace h := boolP_inv h; rcases h with ⟨hl, h⟩ | ⟨_, h⟩
      · have h' : K ⟨.agg ((u.cells.drop k).take i.size), [], []⟩ := by
          replace h := boolP_inv h; rcases h with ⟨_, h⟩ | ⟨_, h⟩
          · exact copyP_inv (K := fun ds => K ⟨.agg ds, [], []⟩) h
          · exact h
        exact ⟨_, .q fun env' bs0 ha => op_load_agg_e ht hd ho ((ha x mx).trans hx) hu (lenGe_inv hl) rfl, h'⟩
      · exact h.elim
    · replace h := optP_inv h; obtain ⟨v, hv, h⟩ := h
      rw [nth_eq] at hv
      exact ⟨_, .q fun env' bs0 ha => op_load_e ht hd ho ((ha x mx).trans hx) hu hv, h⟩
  · rename_i b j sz k
    replace h := rowsP_inv h; obtain ⟨sz', xs, hb, h⟩ := h
    replace h := boolP_inv h; rcases h with ⟨he, h⟩ | ⟨_, h⟩
    · obtain rfl := Nat.eq_of_beq_eq_true he
      replace h := optP_inv h; obtain ⟨u, hu, h⟩ := h
      rw [nth_eq] at hu
      replace h := boolP_inv h; rcases h with ⟨hd, h⟩ | ⟨hd, h⟩
      · replace h := boolP_inv h; rcases h with ⟨hl, h⟩ | ⟨_, h⟩
        · have h' := copyP_inv (K := fun ds => K ⟨.agg ds, [(b, .rows sz' xs)], []⟩) h
          exact ⟨_, .r hb fun env' bs0 ha hb0 => op_load_agg_r ht hd ho ((ha x mx).trans hx) hb0 hu (lenGe_inv hl) rfl, h'⟩
        · exact h.elim
      · replace h := optP_inv h; obtain ⟨v, hv, h⟩ := h
        rw [nth_eq] at hv
        exact ⟨_, .r hb fun env' bs0 ha hb0 => op_load_r ht hd ho ((ha x mx).trans hx) hb0 hu hv, h⟩
    · exact h.elim
  · exact h.elim

def storeW (X : Cx) (t : Nat) (bs : List Blk) (p v : AV) (K : Ef → Prop) : Prop := optP (X.ti t) fun i => boolP (Nat.beq v.cells.length i.size) (boolP (Nat.blt 0 i.size) (boolP (v.cells.all AV.one) (match p with
  | .ptr b k => cellsP (bat bs b) fun cs => setsP cs k v.cells fun cs' => K ⟨.und, [(b, .cells cs)], [(b, .cells cs')]⟩
  | .rptr b j sz k => rowsP (bat bs b) fun sz' xs => boolP (Nat.beq sz' sz) (optP (nth xs j) fun u => boolP (Nat.beq u.cells.length i.size)
      (boolP (Nat.beq k 0) (K ⟨.und, [(b, .rows sz' xs)], [(b, .rows sz' (xs.set j v))]⟩) False)
      (setsP u.cells k v.cells fun cs' => K ⟨.und, [(b, .rows sz' xs)], [(b, .rows sz' (xs.set j (.agg cs')))]⟩)) False
  | _ => False) False) False) False

theorem storeW_ok {t : Nat} {x y : Operand} {p v : AV} (ho : o.op = .store t x y) (hx : ev env x = some p) (hy : ev env y = some v) (h : storeW X t bs p v K) : ∃ e, Sd X.P o env bs e ∧ K e := by
  have mx : x ∈ o.op.operands.toList := by simp [ho, Op.operands]
  have my : y ∈ o.op.operands.toList := by simp [ho, Op.operands]
  unfold storeW at h
  replace h := optP_inv h; obtain ⟨i, hi, h⟩ := h
  have ht := (X.ok t i hi).inf
  replace h := boolP_inv h; rcases h with ⟨hs, h⟩ | ⟨_, h⟩
  rotate_left; · exact h.elim
  replace h := boolP_inv h; rcases h with ⟨hs0, h⟩ | ⟨_, h⟩
  rotate_left; · exact h.elim
  replace h := boolP_inv h; rcases h with ⟨h1, h⟩ | ⟨_, h⟩
  rotate_left; · exact h.elim
  have hs := Nat.eq_of_beq_eq_true hs
  have hs0 : 0 < i.size := by simpa [Nat.blt_eq] using hs0
  have hne : v.cells ≠ [] := fun e => by rw [e] at hs; simp at hs; omega
  have bound : ∀ (cs : List AV) (k : Nat) (K' : List AV → Prop), setsP cs k v.cells K' → k + v.cells.length ≤ cs.length := by
    clear h h1 hs
    generalize v.cells = r at hne
    intro cs k K'
    revert cs k
    induction r with
    | nil => exact absurd rfl hne
    | cons a r ih =>
      intro cs k h
      obtain ⟨h1, h2⟩ := setP_inv h
      by_cases hr : r = []
      · subst hr; simp; omega
      · have := ih hr (cs.set k a) (k + 1) h2
        simp at this ⊢; omega
  split at h
  · rename_i b k
    replace h := cellsP_inv h; obtain ⟨cs, hb, h⟩ := h
    have hk := bound _ _ _ h
    obtain ⟨h, _⟩ := setsP_inv h (.inl hk)
    rw [hs] at h hk
    exact ⟨_, .w hb fun env' bs0 ha hb0 => op_store_b ht ho ((ha x mx).trans hx) ((ha y my).trans hy) hb0 hs h1 hk rfl, h⟩
  · rename_i b j sz k
    replace h := rowsP_inv h; obtain ⟨sz', xs, hb, h⟩ := h
    replace h := boolP_inv h; rcases h with ⟨he, h⟩ | ⟨_, h⟩
    rotate_left; · exact h.elim
    obtain rfl := Nat.eq_of_beq_eq_true he
    replace h := optP_inv h; obtain ⟨u, hu, h⟩ := h
    rw [nth_eq] at hu
    replace h := boolP_inv h; rcases h with ⟨he, h⟩ | ⟨_, h⟩
    · have he := Nat.eq_of_beq_eq_true he
      replace h := boolP_inv h; rcases h with ⟨h0, h⟩ | ⟨_, h⟩
      rotate_left; · exact h.elim
      have h0 := Nat.eq_of_beq_eq_true h0
      subst h0
      exact ⟨_, .w hb fun env' bs0 ha hb0 => op_store_r ht ho ((ha x mx).trans hx) ((ha y my).trans hy) hb0 hu hs h1 (by omega) (by rw [List.drop_eq_nil_of_le (by omega)]; simp), h⟩
    · have hk := bound _ _ _ h
      obtain ⟨h, _⟩ := setsP_inv h (.inl hk)
      rw [hs] at h hk
      exact ⟨_, .w hb fun env' bs0 ha hb0 => op_store_r (u' := .agg (u.cells.take k ++ v.cells ++ u.cells.drop (k + i.size))) ht ho ((ha x mx).trans hx) ((ha y my).trans hy) hb0 hu hs h1 hk rfl, h⟩
  · exact h.elim

/-! ### addresses -/

def fieldW (X : Cx) (t j : Nat) (p : AV) (K : Ef → Prop) : Prop := optP (X.ti t) fun i => optP (i.offs[j]?) fun off => match p with
  | .ptr b k => K ⟨.ptr b (k + off), [], []⟩
  | .rptr b m sz k => K ⟨.rptr b m sz (k + off), [], []⟩
  | .eptr xs m k => optP (nth xs m) fun u => boolP (lenGe u.cells (k + off + 1)) (K ⟨.eptr xs m (k + off), [], []⟩) False
  | _ => False
theorem fieldW_ok {t j : Nat} {x : Operand} {p : AV} (ho : o.op = .fieldAddr t x j) (hx : ev env x = some p) (h : fieldW X t j p K) : ∃ e, Sd X.P o env bs e ∧ K e := by
  have mx : x ∈ o.op.operands.toList := by simp [ho, Op.operands]
  unfold fieldW at h
  replace h := optP_inv h; obtain ⟨i, hi, h⟩ := h
  replace h := optP_inv h; obtain ⟨off, hoff, h⟩ := h
  obtain ⟨fs, f, size, bytes, z, d, hd, hf, rfl, hin, h0⟩ := (X.ok t i hi).offs j off hoff
  have hu := (X.ok t i hi).inf.und
  rw [hd] at hu
  split at h
  · exact ⟨_, .q fun env' bs0 ha => op_faddr hu hf hin h0 ho ((ha x mx).trans hx), h⟩
  · exact ⟨_, .q fun env' bs0 ha => op_faddr_r hu hf hin h0 ho ((ha x mx).trans hx), h⟩
  · replace h := optP_inv h; obtain ⟨u, hu2, h⟩ := h
    rw [nth_eq] at hu2
    replace h := boolP_inv h; rcases h with ⟨hl, h⟩ | ⟨_, h⟩
    · have := lenGe_inv hl
      exact ⟨_, .q fun env' bs0 ha => op_faddr_e hu hf hin h0 ho ((ha x mx).trans hx) hu2 (by omega), h⟩
    · exact h.elim
  · exact h.elim

def idxW (X : Cx) (t : Nat) (bs : List Blk) (p i : AV) (K : Ef → Prop) : Prop := match i with
  | .int _ n => optP (X.ti t) fun it => match it.desc with
    | .slice e => optP (X.ti e) fun ie => boolP (Nat.blt 0 ie.size) (match p with
      | .lst _ xs => optP (idxL xs n) fun u => boolP (Nat.beq u.cells.length ie.size) (K ⟨.eptr [u] 0 0, [], []⟩) False
      | .gsl b ln => growP (bat bs b) fun e' sz xs => Chk (ln = xs.length) (optP (idxL xs n) fun u => boolP (Nat.beq u.cells.length ie.size) (K ⟨.eptr [u] 0 0, [(b, .grow e' sz xs)], []⟩) False)
      | .slc b q sz len _ => Chk (0 ≤ n ∧ n.toNat < len) (boolP (Nat.beq sz ie.size) (K ⟨.rptr b (q + n.toNat) sz 0, [], []⟩) False)
      | _ => False) False
    | .array len e => optP (X.ti e) fun ie => optP (ixN n len) fun m => (match p with
      | .ptr b q => K ⟨.ptr b (q + m * ie.size), [], []⟩
      | .eptr xs j q => optP (nth xs j) fun u => boolP (lenGe u.cells (q + m * ie.size + 1)) (K ⟨.eptr xs j (q + m * ie.size), [], []⟩) False
      | _ => False)
    | _ => False
  | _ => False
theorem idxW_ok {t : Nat} {x y : Operand} {p i : AV} (ho : o.op = .indexAddr t x y) (hx : ev env x = some p) (hy : ev env y = some i) (h : idxW X t bs p i K) : ∃ e, Sd X.P o env bs e ∧ K e := by
  have mx : x ∈ o.op.operands.toList := by simp [ho, Op.operands]
  have my : y ∈ o.op.operands.toList := by simp [ho, Op.operands]
  unfold idxW at h
  split at h
  · rename_i k n
    replace h := optP_inv h; obtain ⟨it, hi, h⟩ := h
    have hu := (X.ok t it hi).inf.und
    split at h
    · rename_i e hd
      rw [hd] at hu
      replace h := optP_inv h; obtain ⟨ie, hie, h⟩ := h
      have he := (X.ok e ie hie).inf
      replace h := boolP_inv h; rcases h with ⟨h0, h⟩ | ⟨_, h⟩
      rotate_left; · exact h.elim
      have h0 : 0 < ie.size := by simpa [Nat.blt_eq] using h0
      split at h
      · replace h := optP_inv h; obtain ⟨u, hu2, h⟩ := h
        obtain ⟨g1, g2⟩ := idxL_inv hu2
        replace h := boolP_inv h; rcases h with ⟨hl, h⟩ | ⟨_, h⟩
        · exact ⟨_, .q fun env' bs0 ha => op_iaddr1 hu he ho ((ha x mx).trans hx) ((ha y my).trans hy) g1 g2 (Nat.eq_of_beq_eq_true hl) h0, h⟩
        · exact h.elim
      · replace h := growP_inv h; obtain ⟨e', sz, xs, hb, h⟩ := h
        obtain ⟨hl, h⟩ := h
        replace h := optP_inv h; obtain ⟨u, hu2, h⟩ := h
        obtain ⟨g1, g2⟩ := idxL_inv hu2
        replace h := boolP_inv h; rcases h with ⟨hl2, h⟩ | ⟨_, h⟩
        · exact ⟨_, .r hb fun env' bs0 ha hb0 => op_iaddr_g hu he ho ((ha x mx).trans hx) hb0 hl ((ha y my).trans hy) g1 g2 (Nat.eq_of_beq_eq_true hl2) h0, h⟩
        · exact h.elim
      · obtain ⟨⟨g1, g2⟩, h⟩ := h
        replace h := boolP_inv h; rcases h with ⟨hl, h⟩ | ⟨_, h⟩
        · exact ⟨_, .q fun env' bs0 ha => op_iaddr_s hu he ho ((ha x mx).trans hx) ((ha y my).trans hy) g1 g2 (Nat.eq_of_beq_eq_true hl), h⟩
        · exact h.elim
      · exact h.elim
    · rename_i len e hd
      rw [hd] at hu
      replace h := optP_inv h; obtain ⟨ie, hie, h⟩ := h
      have he := (X.ok e ie hie).inf
      replace h := optP_inv h; obtain ⟨m, hm, h⟩ := h
      obtain ⟨g1, g2⟩ := ixN_inv hm
      split at h
      · exact ⟨_, .q fun env' bs0 ha => op_iaddr_a hu he ho ((ha x mx).trans hx) ((ha y my).trans hy) g1 g2, h⟩
      · replace h := optP_inv h; obtain ⟨u, hu2, h⟩ := h
        rw [nth_eq] at hu2
        replace h := boolP_inv h; rcases h with ⟨hl, h⟩ | ⟨_, h⟩
        · have := lenGe_inv hl
          exact ⟨_, .q fun env' bs0 ha => op_iaddr_ae hu he ho ((ha x mx).trans hx) ((ha y my).trans hy) g1 g2 hu2 (by omega), h⟩
        · exact h.elim
      · exact h.elim
    · exact h.elim
  · exact h.elim

def indexW (X : Cx) (t : Nat) (p i : AV) (K : Ef → Prop) : Prop := match p, i with
  | .agg cs, .int _ n => optP (X.ti t) fun it => match it.desc with
    | .array len e => optP (X.ti e) fun ie => optP (ixN n len) fun m => boolP (isAggD ie.desc)
      (boolP (lenGe cs (m * ie.size + ie.size)) (copyP ((cs.drop (m * ie.size)).take ie.size) fun ds => K ⟨.agg ds, [], []⟩) False)
      (optP (nth cs (m * ie.size)) fun v => K ⟨v, [], []⟩)
    | _ => False
  | _, _ => False
theorem indexW_ok {t : Nat} {x y : Operand} {p i : AV} (ho : o.op = .index t x y) (hx : ev env x = some p) (hy : ev env y = some i) (h : indexW X t p i K) : ∃ e, Sd X.P o env bs e ∧ K e := by
  have mx : x ∈ o.op.operands.toList := by simp [ho, Op.operands]
  have my : y ∈ o.op.operands.toList := by simp [ho, Op.operands]
  unfold indexW at h
  split at h
  · replace h := optP_inv h; obtain ⟨it, hi, h⟩ := h
    have hu := (X.ok t it hi).inf.und
    split at h
    · rename_i len e hd
      rw [hd] at hu
      replace h := optP_inv h; obtain ⟨ie, hie, h⟩ := h
      have he := (X.ok e ie hie).inf
      replace h := optP_inv h; obtain ⟨m, hm, h⟩ := h
      obtain ⟨g1, g2⟩ := ixN_inv hm
      replace h := boolP_inv h; rcases h with ⟨hd2, h⟩ | ⟨hd2, h⟩
      · replace h := boolP_inv h; rcases h with ⟨hl, h⟩ | ⟨_, h⟩
        · have h' := copyP_inv (K := fun ds => K ⟨.agg ds, [], []⟩) h
          exact ⟨_, .q fun env' bs0 ha => op_index_agg hu he hd2 ho ((ha x mx).trans hx) ((ha y my).trans hy) g1 g2 (lenGe_inv hl) rfl, h'⟩
        · exact h.elim
      · replace h := optP_inv h; obtain ⟨v, hv, h⟩ := h
        rw [nth_eq] at hv
        exact ⟨_, .q fun env' bs0 ha => op_index hu he hd2 ho ((ha x mx).trans hx) ((ha y my).trans hy) g1 g2 hv, h⟩
    · exact h.elim
  · exact h.elim
end
end
end Go.Proofs.YtelgmdljcbkniaaDoor.Ai
