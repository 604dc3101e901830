/- An interpreter of values for the model's code, base text 30: the operations as a function that reckons them (for runs on values that are known). -/
import Derived.Test.YtelgmdljcbkniaaDoorB29
namespace Go.Proofs.YtelgmdljcbkniaaDoor.Ai
noncomputable section
open Go
set_option linter.unusedVariables false

/-- A slice literal that is written later. -/
theorem op_bslice_r {P : Program} {o : Oper} {s : St} {t e : TypeId} {len k : Nat} {ps : List (Nat × Operand)} {avs : List AV} {size bytes : Nat} {z : Value} {d : TypeDesc}
    (ht : P.underlying t = some (.slice e)) (he : Inf P e size bytes z d) (ho : o.op = .buildSlice t len ps.toArray) (hps : ps = ((ps.map Prod.snd).zipIdx 0).map fun x => (x.2, x.1)) (hlen : (ps.map Prod.snd).length = len)
    (hs0 : 0 < size) (hl0 : 0 < len) (hsmall : len * size ≤ 16777216) (hv : evs s.env (ps.map Prod.snd) = some avs) (hd : szAll size avs = true) (hk : bat s.bs k = .gone) : OpT P o s (.slc k 0 size len (some len)) (bset s.bs k (.rows size avs)) := by
  refine OpT.of (by simp [ho]) ?_
  intro G w a hI hE K Q hK
  generalize ps.map Prod.snd = xs at hps hlen hv
  obtain ⟨ie, hie, hsz, _, hz⟩ := he.info
  obtain ⟨hl1, hr1⟩ := evs_r hE hv
  let cvs := xs.map a.eval
  have hcv : ∀ (j : Nat) x, avs[j]? = some x → ∃ c, cvs[j]? = some c ∧ R G x c := fun j x e => by
    have hj : j < xs.length := hl1 ▸ lt_of_get e
    exact ⟨a.eval xs[j], by simp [cvs, hj], hr1 j x _ e (by simp [hj])⟩
  have hcs : ∀ v ∈ cvs, v.cells.size = size := fun v hv => by
    obtain ⟨j, hj, rfl⟩ := List.getElem_of_mem hv
    have hj' : j < avs.length := by simp [cvs] at hj; omega
    obtain ⟨c, hc, hri⟩ := hcv j avs[j] (by simp [hj'])
    obtain ⟨g1, g2⟩ := szAll_get hd j avs[j] (by simp [hj'])
    have : cvs[j] = c := by rw [List.getElem?_eq_getElem hj] at hc; exact Option.some.inj hc
    rw [this, (hri.cells g2).1, g1]
  let cells : Array Value := (cvs.flatMap fun v => v.cells.toList).toArray
  have hsa : ∀ (j : Nat) (x : AV), avs[j]? = some x → x.cells.length = size := fun j x e => (szAll_get hd j x e).1
  have hcells : ∀ (j q : Nat) (x : AV) y, avs[j]? = some x → x.cells[q]? = some y → ∃ c, cells[j * size + q]? = some c ∧ R G y c := fun j q x y e1 e2 => by
    obtain ⟨c, hc, hri⟩ := hcv j x e1
    obtain ⟨g1, g2⟩ := szAll_get hd j x e1
    have hq : q < size := g1 ▸ lt_of_get e2
    have hqc : q < c.cells.size := by rw [(hri.cells g2).1, g1]; exact hq
    refine ⟨c.cells[q], ?_, (hri.cells g2).2.1 q y _ e2 (by simp [hqc])⟩
    have e : cells[j * size + q]? = (cvs.flatMap fun v => v.cells.toList)[j * size + q]? := by simp [cells]
    rw [e, Go.Great.flat_get hs0 cvs hcs (j * size + q)]
    have d1 : (j * size + q) / size = j := by
      rw [Nat.mul_comm, Nat.mul_add_div hs0, Nat.div_eq_of_lt hq, Nat.add_zero]
    have d2 : (j * size + q) % size = q := by
      rw [Nat.mul_comm, Nat.mul_add_mod, Nat.mod_eq_of_lt hq]
    rw [d1, d2, hc]
    simp [hqc]
  have hfill : Instr.fill (fun i => some (i * ie.size, ie.size)) ((Array.range (len * ie.size)).map (z.cells[· % z.cells.size]!)) (ps.toArray.map fun (i, x) => (i, a.eval x)).toList = some cells := by
    rw [hsz]
    have : (ps.toArray.map fun (i, x) => (i, a.eval x)).toList = (cvs.zipIdx 0).map fun x => (x.2, x.1) := by
      rw [hps]
      simp [cvs, List.zipIdx_map, Function.comp_def]
    rw [this]
    exact Go.Great.fill_whole hs0 cvs _ hcs (by simp [cvs, hlen])
  refine wp_buildSlice t e len ps.toArray ho cells ie z ht hie hz (by rw [hsz]; omega) (by rw [hsz]; exact Nat.mul_ne_zero (by omega) (by omega)) hfill ?_
  have hal : avs.length = len := hl1.trans hlen
  have hcl : ∀ l : List Value, (∀ v ∈ l, v.cells.size = size) → (l.flatMap fun v => v.cells.toList).length = l.length * size := by
    intro l
    induction l with
    | nil => simp
    | cons a r ih => intro h; simp [ih fun v hv => h v (by simp [hv]), h a (by simp), Nat.succ_mul]; omega
  have hsz' : cells.size = avs.length * size := by
    have := hcl cvs hcs
    simp only [cells, List.size_toArray, this]
    simp [cvs, hl1]
  obtain ⟨G', hI', hle, hev, hp⟩ := after_cells hI hk cells e (flat avs) (by rw [flat_len _ size hsa, hsz']; exact Nat.le_refl _) fun q u cu e1 e2 => by
    have hql : q < avs.length * size := by have := lt_of_get e1; rwa [flat_len _ size hsa] at this
    have hq1 : q % size < size := Nat.mod_lt _ hs0
    have hq2 : q / size < avs.length := Nat.div_lt_of_lt_mul (by rw [Nat.mul_comm]; exact hql)
    have hq0 : q = q / size * size + q % size := by have := Nat.div_add_mod q size; rw [Nat.mul_comm] at this; omega
    have hx : avs[q / size]? = some avs[q / size] := List.getElem?_eq_getElem hq2
    rw [hq0, flat_get _ size hsa _ _ _ hx hq1] at e1
    obtain ⟨c, h1, h2⟩ := hcells (q / size) (q % size) _ u hx e1
    rw [← hq0, e2] at h1
    exact (Option.some.inj h1) ▸ h2
  have hI'' : Inv G' (bset s.bs k (.rows size avs)) (w.alloc (.cells cells e)) := by
    refine .of_bat (fun i => ?_) hI'.inj hI'.z
    have h := hI'.batOk i
    rw [bat_bset] at h ⊢
    split at h
    · rename_i e0; rw [if_pos e0]
      exact ⟨h, hs0, fun x hx => by obtain ⟨j, hj, rfl⟩ := List.getElem_of_mem hx; exact hsa j _ (List.getElem?_eq_getElem hj)⟩
    · rename_i e0; rw [if_neg e0]; exact h
  refine hK (.slice (some ⟨w.heap.size, 0, none⟩) len len) _ G' ⟨?_, hI'', hle, hev⟩
  have := R.slc (G := G') k 0 size len (some len) w.heap.size len hp (Nat.le_refl _) (fun m hm => Option.some.inj hm)
  simpa using this

/-! ### a field of a struct that is at hand -/

theorem op_field {P : Program} {o : Oper} {s : St} {t : TypeId} {x : Operand} {fs : Array Field} {j : Nat} {f : Field} {cs : List AV} {v : AV} {size bytes : Nat} {z : Value} {d : TypeDesc} (ht : P.underlying t = some (.struct fs)) (hj : fs[j]? = some f) (he : Inf P f.type size bytes z d) (hd : isAggD d = false)
    (ho : o.op = .field t x j) (hx : ev s.env x = some (.agg cs)) (hv : cs[f.offset]? = some v) : OpT P o s v s.bs :=
  op_pure fun G w a hI hE => by
    obtain ⟨vs, hp, hl2, hr⟩ := (ev_r hE hx).agg_inv
    have hlt : f.offset < vs.size := by rw [hl2]; exact lt_of_get hv
    refine ⟨vs[f.offset], ?_, hr _ v _ hv (by simp [hlt])⟩
    have := run_part_one (w := w) he hd (cs := vs) (off := f.offset) (v := vs[f.offset]) (by simp [hlt])
    simp [execOp, ho, hp, Instr.field, run_underlying ht, hj, asAgg, this]

theorem op_field_agg {P : Program} {o : Oper} {s : St} {t : TypeId} {x : Operand} {fs : Array Field} {j : Nat} {f : Field} {cs ds : List AV} {size bytes : Nat} {z : Value} {d : TypeDesc} (ht : P.underlying t = some (.struct fs)) (hj : fs[j]? = some f) (he : Inf P f.type size bytes z d) (hd : isAggD d = true)
    (ho : o.op = .field t x j) (hx : ev s.env x = some (.agg cs)) (hs : f.offset + size ≤ cs.length) (hv : (cs.drop f.offset).take size = ds) : OpT P o s (.agg ds) s.bs :=
  op_pure fun G w a hI hE => by
    subst hv
    obtain ⟨vs, hp, hl2, hr⟩ := (ev_r hE hx).agg_inv
    have hpart : (part f.type vs f.offset).run P w = .ok (.agg (vs.extract f.offset (f.offset + size))) w := by simp [part, he.isAgg, hd, he.size]
    refine ⟨.agg (vs.extract f.offset (f.offset + size)), ?_, .agg _ _ ?_ fun j v cv e1 e2 => ?_⟩
    · simp [execOp, ho, hp, Instr.field, run_underlying ht, hj, asAgg, hpart]
    · simp; omega
    · rw [List.getElem?_take] at e1
      split at e1
      · rename_i hj
        rw [List.getElem?_drop] at e1
        refine hr _ v cv e1 ?_
        rw [Array.getElem?_extract] at e2
        split at e2
        · exact e2
        · cases e2
      · cases e1

/-! ### reckoning -/

def okI {α : Type} (c : Bool) (k : Option α) : Option α := match c with
  | true => k
  | false => none
theorem okI_inv {α : Type} {c : Bool} {k : Option α} {e : α} (h : okI c k = some e) : c = true ∧ k = some e := by
  cases c with
  | true => exact ⟨rfl, h⟩
  | false => cases h
theorem bi {α β : Type} {x : Option α} {f : α → Option β} {e : β} (h : x.bind f = some e) : ∃ v, x = some v ∧ f v = some e := by
  cases x with
  | none => cases h
  | some v => exact ⟨v, rfl, h⟩

/-- A number, reckoned. -/
def frN {α : Type} (n : Nat) (K : Nat → α) : α := match n with
  | 0 => K 0
  | m + 1 => K (m + 1)
theorem frN_eq {α : Type} (n : Nat) (K : Nat → α) : frN n K = K n := by cases n <;> rfl
def frI {α : Type} (n : Int) (K : Int → α) : α := match n with
  | .ofNat m => frN m fun m => K (.ofNat m)
  | .negSucc m => frN m fun m => K (.negSucc m)
theorem frI_eq {α : Type} (n : Int) (K : Int → α) : frI n K = K n := by cases n <;> simp only [frI, frN_eq]
def frV {α : Type} (v : AV) (K : AV → α) : α := match v with
  | .int k n => frI n fun n => K (.int k n)
  | .bool true => K (.bool true)
  | .bool false => K (.bool false)
  | v => K v
theorem frV_eq {α : Type} (v : AV) (K : AV → α) : frV v K = K v := by
  cases v <;> simp only [frV, frI_eq]
  rename_i b; cases b <;> rfl

def szB (size : Nat) : List AV → Bool := szAll size
theorem sized_of {size : Nat} {xs : List AV} (h : szAll size xs = true) : Sized size xs := fun y hy => by
  obtain ⟨j, hj⟩ := List.getElem?_of_mem hy
  exact szAll_get h j y hj

def consO (v : AV) (x : Option (List AV)) : Option (List AV) := Option.rec none (fun r => some (v :: r)) x
theorem consO_eq (v : AV) (x : Option (List AV)) : consO v x = x.map (v :: ·) := by cases x <;> rfl
def sets (cs : List AV) : Nat → List AV → Option (List AV) :=
  List.rec (fun o vs => Nat.rec (List.rec (some []) (fun _ _ _ => none) vs) (fun _ _ => none) o) (fun c r ih o vs => Nat.rec (List.rec (some (c :: r)) (fun v vs _ => consO v (ih 0 vs)) vs) (fun o _ => consO c (ih o vs)) o) cs
theorem sets_nil0 : sets [] 0 [] = some [] := rfl
theorem sets_zero (c : AV) (r : List AV) : sets (c :: r) 0 [] = some (c :: r) := rfl
theorem sets_cons (c : AV) (r : List AV) (v : AV) (vs : List AV) : sets (c :: r) 0 (v :: vs) = (sets r 0 vs).map (v :: ·) := consO_eq _ _
theorem sets_succ (c : AV) (r : List AV) (o : Nat) (vs : List AV) : sets (c :: r) (o + 1) vs = (sets r o vs).map (c :: ·) := consO_eq _ _
theorem sets_ok : ∀ {cs : List AV} {o : Nat} {vs cs' : List AV}, sets cs o vs = some cs' → o + vs.length ≤ cs.length ∧ cs' = cs.take o ++ vs ++ cs.drop (o + vs.length)
  | [], 0, [], cs', h => by
    rw [sets_nil0] at h; obtain rfl := Option.some.inj h; simp
  | c :: r, 0, [], cs', h => by
    rw [sets_zero] at h; obtain rfl := Option.some.inj h; simp
  | c :: r, 0, v :: vs, cs', h => by
    simp only [sets_cons, Option.map_eq_some_iff] at h
    obtain ⟨q, h, rfl⟩ := h
    obtain ⟨h1, h2⟩ := sets_ok h
    refine ⟨by simp at h1 ⊢; omega, ?_⟩
    rw [h2]; simp
  | c :: r, o + 1, vs, cs', h => by
    simp only [sets_succ, Option.map_eq_some_iff] at h
    obtain ⟨q, h, rfl⟩ := h
    obtain ⟨h1, h2⟩ := sets_ok h
    refine ⟨by simp at h1 ⊢; omega, ?_⟩
    rw [h2, show o + 1 + vs.length = (o + vs.length) + 1 by omega]; simp
  | [], 0, v :: vs, cs', h => by cases (show none = some cs' from h)
  | [], o + 1, vs, cs', h => by cases (show none = some cs' from h)

/-- wrap, quick where nothing is cut. -/
def limP : IntKind → Nat
  | .i64 => 9223372036854775808
  | .u64 => 18446744073709551616
  | .u8 => 256
  | _ => 0
def limN : IntKind → Nat
  | .i64 => 9223372036854775808
  | _ => 0
def wrapF (k : IntKind) (n : Int) : Int := Int.rec (fun m => Bool.rec (k.wrap (.ofNat m)) (.ofNat m) (Nat.ble (Nat.succ m) (limP k))) (fun m => Bool.rec (k.wrap (.negSucc m)) (.negSucc m) (Nat.ble (Nat.succ m) (limN k))) n
theorem wrapF_eq (k : IntKind) (n : Int) : wrapF k n = k.wrap n := by
  have e63 : (2 : Int) ^ 63 = 9223372036854775808 := by decide
  have e64 : (2 : Int) ^ 64 = 18446744073709551616 := by decide
  cases n with
  | ofNat m =>
    show (Bool.rec (k.wrap (.ofNat m)) (.ofNat m) (Nat.ble (Nat.succ m) (limP k)) : Int) = _
    cases h : Nat.ble (Nat.succ m) (limP k) with
    | false => rfl
    | true =>
      have h := Nat.le_of_ble_eq_true h
      show (Int.ofNat m) = _
      cases k with
      | i64 => have h : m.succ ≤ 9223372036854775808 := h; exact (w64 (by show (-9223372036854775808 : Int) ≤ (m : Int); omega) (by show (m : Int) < 9223372036854775808; omega)).symm
      | u8 =>
        have h : m.succ ≤ 256 := h
        show (m : Int) = IntKind.u8.wrap m
        simp only [IntKind.wrap, IntKind.signed, IntKind.bits, Bool.false_and]
        simp; omega
      | u64 => have h : m.succ ≤ 18446744073709551616 := h; exact (wu64 (by show (0 : Int) ≤ (m : Int); omega) (by show (m : Int) < 18446744073709551616; omega)).symm
      | _ => exact absurd h (Nat.not_succ_le_zero _)
  | negSucc m =>
    show (Bool.rec (k.wrap (.negSucc m)) (.negSucc m) (Nat.ble (Nat.succ m) (limN k)) : Int) = _
    cases h : Nat.ble (Nat.succ m) (limN k) with
    | false => rfl
    | true =>
      have h := Nat.le_of_ble_eq_true h
      show (Int.negSucc m) = _
      cases k with
      | i64 =>
        have h : m.succ ≤ 9223372036854775808 := h
        have e0 : Int.negSucc m = -(m : Int) - 1 := by rw [Int.negSucc_eq]; omega
        exact (w64 (by rw [e0]; omega) (by rw [e0]; omega)).symm
      | _ => exact absurd h (Nat.not_succ_le_zero _)
def ltI (x y : Int) : Bool := Int.rec (fun a => Int.rec (fun b => Nat.ble (Nat.succ a) b) (fun _ => false) y) (fun a => Int.rec (fun _ => true) (fun b => Nat.ble (Nat.succ b) a) y) x
theorem ltI_eq (x y : Int) : ltI x y = decide (x < y) := by
  cases x with
  | ofNat a =>
    cases y with
    | ofNat b =>
      show Nat.ble (Nat.succ a) b = _
      by_cases h : a < b
      · rw [decide_eq_true (by show (a : Int) < (b : Int); omega)]; exact Nat.ble_eq_true_of_le h
      · rw [decide_eq_false (by show ¬ (a : Int) < (b : Int); omega)]
        cases hb : Nat.ble (Nat.succ a) b with | false => rfl | true => exact absurd (Nat.le_of_ble_eq_true hb) h
    | negSucc b => show false = _; rw [decide_eq_false]; show ¬ (a : Int) < Int.negSucc b; omega
  | negSucc a =>
    cases y with
    | ofNat b => show true = _; rw [decide_eq_true]; show Int.negSucc a < (b : Int); omega
    | negSucc b =>
      show Nat.ble (Nat.succ b) a = _
      by_cases h : b < a
      · rw [decide_eq_true (by omega)]; exact Nat.ble_eq_true_of_le h
      · rw [decide_eq_false (by omega)]
        cases hb : Nat.ble (Nat.succ b) a with | false => rfl | true => exact absurd (Nat.le_of_ble_eq_true hb) h
def eqI (x y : Int) : Bool := Int.rec (fun a => Int.rec (fun b => Nat.beq a b) (fun _ => false) y) (fun a => Int.rec (fun _ => false) (fun b => Nat.beq a b) y) x
theorem natbeq (a b : Nat) : Nat.beq a b = decide (a = b) := by
  by_cases h : a = b
  · subst h; simp
  · rw [decide_eq_false h]; cases hb : Nat.beq a b with | false => rfl | true => exact absurd (Nat.eq_of_beq_eq_true hb) h
theorem eqI_eq (x y : Int) : eqI x y = decide (x = y) := by
  cases x with
  | ofNat a =>
    cases y with
    | ofNat b =>
      show Nat.beq a b = _
      rw [natbeq]
      exact decide_eq_decide.2 ⟨fun h => by rw [h], fun h => by injection h⟩
    | negSucc b => show false = _; simp
  | negSucc a =>
    cases y with
    | ofNat b => show false = _; simp
    | negSucc b =>
      show Nat.beq a b = _
      rw [natbeq]
      exact decide_eq_decide.2 ⟨fun h => by rw [h], fun h => by injection h⟩
def bin2F (op : BinOp) (k : IntKind) (x y : Int) : Option AV := match op with
  | .add => some (.int k (wrapF k (Int.add x y)))
  | .sub => some (.int k (wrapF k (Int.sub x y)))
  | .mul => some (.int k (wrapF k (Int.mul x y)))
  | .eql => some (.bool (eqI x y))
  | .neq => some (.bool (!(eqI x y)))
  | .lss => some (.bool (ltI x y))
  | .leq => some (.bool (!(ltI y x)))
  | .gtr => some (.bool (ltI y x))
  | .geq => some (.bool (!(ltI x y)))
  | op => bin2 op k x y
theorem bin2F_eq (op : BinOp) (k : IntKind) (x y : Int) : bin2F op k x y = bin2 op k x y := by
  have ne : ∀ (a b : Int), (!(decide (a < b))) = decide (b ≤ a) := fun a b => by
    by_cases h : a < b
    · rw [decide_eq_true h, decide_eq_false (by omega)]; rfl
    · rw [decide_eq_false h, decide_eq_true (by omega)]; rfl
  cases op <;> simp only [bin2F, bin2, wrapF_eq, ltI_eq, eqI_eq, ne, gt_iff_lt, ge_iff_le] <;> first | rfl | (congr 2)

section
variable {X : Cx} {o : Oper} {env : Env} {bs : List Blk}

/-- Two structs of numbers and truth values alone. -/
def flatC (X : Cx) (off : Nat) (f : Field) : AV → AV → Bool
  | .int k a, .int k' b => !(f.name == "_") && Nat.beq f.offset off && (match X.ti f.type with
    | some i => (match i.desc with
      | .int kk => decide (kk = k) && decide (kk = k')
      | _ => false)
    | none => false)
  | .bool a, .bool b => !(f.name == "_") && Nat.beq f.offset off && (match X.ti f.type with
    | some i => (match i.desc with
      | .bool => true
      | _ => false)
    | none => false)
  | _, _ => false
def flatB (X : Cx) : Nat → List Field → List AV → List AV → Bool
  | _, [], [], [] => true
  | off, f :: fs, x :: xs, y :: ys => flatC X off f x y && flatB X (off + 1) fs xs ys
  | _, _, _, _ => false
theorem flatC_ok {X : Cx} {off : Nat} {f : Field} {fs : List Field} {x y : AV} {xs ys : List AV} (h : flatC X off f x y = true) (r : Flat X.P (off + 1) fs xs ys) : Flat X.P off (f :: fs) (x :: xs) (y :: ys) := by
  unfold flatC at h
  split at h
  · simp only [Bool.and_eq_true] at h
    obtain ⟨⟨h1, h2⟩, h3⟩ := h
    split at h3
    · rename_i i hi
      split at h3
      · rename_i kk hd
        simp only [Bool.and_eq_true, decide_eq_true_eq] at h3
        obtain ⟨rfl, rfl⟩ := h3
        have hin := (X.ok _ i hi).inf
        rw [hd] at hin
        exact .int off f fs _ _ _ xs ys (by simpa using h1) (Nat.eq_of_beq_eq_true h2) hin.und _ _ _ hin r
      · cases h3
    · cases h3
  · simp only [Bool.and_eq_true] at h
    obtain ⟨⟨h1, h2⟩, h3⟩ := h
    split at h3
    · rename_i i hi
      split at h3
      · rename_i hd
        have hin := (X.ok _ i hi).inf
        rw [hd] at hin
        exact .bool off f fs _ _ xs ys (by simpa using h1) (Nat.eq_of_beq_eq_true h2) hin.und _ _ _ hin r
      · cases h3
    · cases h3
  · cases h
theorem flatB_ok {X : Cx} : ∀ {fs : List Field} {off : Nat} {xs ys : List AV}, flatB X off fs xs ys = true → Flat X.P off fs xs ys
  | [], off, [], [], h => .nil off
  | [], off, [], _ :: _, h => by simp [flatB] at h
  | [], off, _ :: _, _, h => by simp [flatB] at h
  | _ :: _, off, [], _, h => by simp [flatB] at h
  | _ :: _, off, _ :: _, [], h => by simp [flatB] at h
  | f :: fs, off, x :: xs, y :: ys, h => by
    simp only [flatB, Bool.and_eq_true] at h
    exact flatC_ok h.1 (flatB_ok h.2)

def xbin (X : Cx) (op : BinOp) (t : Nat) (a b : AV) : Option Ef := match a, b with
  | .int k x, .int k' y => match op with
    | .quo => okI (k == k' && !(y == 0)) (some ⟨.int k (k.wrap (x.tdiv y)), [], []⟩)
    | .rem => okI (k == k' && !(y == 0)) (some ⟨.int k (x.tmod y), [], []⟩)
    | .shl => okI (decide (0 ≤ y)) (some ⟨.int k (k.wrap (x * 2 ^ (min y.toNat k.bits))), [], []⟩)
    | .shr => okI (decide (0 ≤ y)) (some ⟨.int k (x.fdiv (2 ^ (min y.toNat k.bits))), [], []⟩)
    | op => okI (k == k') ((bin2F op k x y).map fun v => ⟨v, [], []⟩)
  | .bool x, .bool y => (X.ti t).bind fun i => match i.desc, op with
    | .bool, .eql => some ⟨.bool (x == y), [], []⟩
    | .bool, .neq => some ⟨.bool (!(x == y)), [], []⟩
    | _, _ => none
  | .agg xs, .agg ys => (X.ti t).bind fun i => match i.desc, op with
    | .struct fs, .eql => okI (!(X.P.stoodInHeld t) && !(X.P.eqGuardType X.P.depth t) && flatB X 0 fs.toList xs ys) (some ⟨.bool (scEqs xs ys), [], []⟩)
    | .struct fs, .neq => okI (!(X.P.stoodInHeld t) && !(X.P.eqGuardType X.P.depth t) && flatB X 0 fs.toList xs ys) (some ⟨.bool (!(scEqs xs ys)), [], []⟩)
    | _, _ => none
  | v, .nilp => (X.ti t).bind fun i => match i.desc, op with
    | .pointer _, .eql => (match v with
      | .nilp => some ⟨.bool true, [], []⟩
      | .ptr _ _ | .rptr _ _ _ _ | .eptr _ _ _ => some ⟨.bool false, [], []⟩
      | _ => none)
    | .pointer _, .neq => (match v with
      | .nilp => some ⟨.bool false, [], []⟩
      | .ptr _ _ | .rptr _ _ _ _ | .eptr _ _ _ => some ⟨.bool true, [], []⟩
      | _ => none)
    | _, _ => none
  | _, _ => none

theorem xbin_ok {op : BinOp} {t t' : Nat} {x y : Operand} {a b : AV} {e : Ef} (ho : o.op = .binOp op t x y t') (hx : ev env x = some a) (hy : ev env y = some b) (h : xbin X op t a b = some e) : Sd X.P o env bs e := by
  have mx : x ∈ o.op.operands.toList := by simp [ho, Op.operands]
  have my : y ∈ o.op.operands.toList := by simp [ho, Op.operands]
  unfold xbin at h
  split at h
  · rename_i k x' k' y'
    have gen : ∀ op', op = op' → okI (k == k') ((bin2F op' k x' y').map fun v => (⟨v, [], []⟩ : Ef)) = some e → Sd X.P o env bs e := fun op' e0 hq => by
      subst e0
      replace hq := okI_inv hq; obtain ⟨hk, hq⟩ := hq
      obtain rfl : k = k' := by simpa using hk
      rw [bin2F_eq, Option.map_eq_some_iff] at hq
      obtain ⟨v, hv, rfl⟩ := hq
      exact .q fun env' bs0 ha => op_bin ho ((ha x mx).trans hx) ((ha y my).trans hy) hv
    split at h
    · replace h := okI_inv h; obtain ⟨hk, h⟩ := h
      simp only [Bool.and_eq_true] at hk
      obtain rfl : k = k' := by simpa using hk.1
      have h0 : y' ≠ 0 := by simpa using hk.2
      obtain rfl := Option.some.inj h
      exact .q fun env' bs0 ha => op_quo ho ((ha x mx).trans hx) ((ha y my).trans hy) h0
    · replace h := okI_inv h; obtain ⟨hk, h⟩ := h
      simp only [Bool.and_eq_true] at hk
      obtain rfl : k = k' := by simpa using hk.1
      have h0 : y' ≠ 0 := by simpa using hk.2
      obtain rfl := Option.some.inj h
      exact .q fun env' bs0 ha => op_rem ho ((ha x mx).trans hx) ((ha y my).trans hy) h0
    · replace h := okI_inv h; obtain ⟨hk, h⟩ := h
      have h0 := of_decide_eq_true hk
      obtain rfl := Option.some.inj h
      exact .q fun env' bs0 ha => op_shl ho ((ha x mx).trans hx) ((ha y my).trans hy) (by omega)
    · replace h := okI_inv h; obtain ⟨hk, h⟩ := h
      have h0 := of_decide_eq_true hk
      obtain rfl := Option.some.inj h
      exact .q fun env' bs0 ha => op_shr ho ((ha x mx).trans hx) ((ha y my).trans hy) (by omega)
    · exact gen _ rfl h
  · replace h := bi h; obtain ⟨i, hi, h⟩ := h
    have hu := (X.ok t i hi).inf.und
    split at h
    · rename i.desc = _ => hd
      rw [hd] at hu
      obtain rfl := Option.some.inj h
      exact .q fun env' bs0 ha => op_eqb hu ho ((ha x mx).trans hx) ((ha y my).trans hy)
    · rename i.desc = _ => hd
      rw [hd] at hu
      obtain rfl := Option.some.inj h
      exact .q fun env' bs0 ha => op_neb hu ho ((ha x mx).trans hx) ((ha y my).trans hy)
    · cases h
  · replace h := bi h; obtain ⟨i, hi, h⟩ := h
    have hu := (X.ok t i hi).inf.und
    split at h
    · rename i.desc = _ => hd
      rw [hd] at hu
      replace h := okI_inv h; obtain ⟨hc, h⟩ := h
      simp only [Bool.and_eq_true, Bool.not_eq_true'] at hc
      obtain rfl := Option.some.inj h
      exact .q fun env' bs0 ha => op_eqs hu hc.1.1 hc.1.2 (flatB_ok hc.2) ho ((ha x mx).trans hx) ((ha y my).trans hy)
    · rename i.desc = _ => hd
      rw [hd] at hu
      replace h := okI_inv h; obtain ⟨hc, h⟩ := h
      simp only [Bool.and_eq_true, Bool.not_eq_true'] at hc
      obtain rfl := Option.some.inj h
      exact .q fun env' bs0 ha => op_nes hu hc.1.1 hc.1.2 (flatB_ok hc.2) ho ((ha x mx).trans hx) ((ha y my).trans hy)
    · cases h
  · replace h := bi h; obtain ⟨i, hi, h⟩ := h
    have hu := (X.ok t i hi).inf.und
    have key : ∀ {v : AV} {b : Bool}, PtrV v b → ev env x = some v → (∃ e, i.desc = .pointer e) → (op = .eql → e = ⟨.bool b, [], []⟩ → Sd X.P o env bs e) ∧ (op = .neq → e = ⟨.bool (!b), [], []⟩ → Sd X.P o env bs e) := by
      clear h
      rintro v b hv hx ⟨e, hd⟩
      rw [hd] at hu
      refine ⟨fun e0 e1 => ?_, fun e0 e1 => ?_⟩
      · subst e0 e1; exact .q fun env' bs0 ha => op_eqnil hu ho ((ha x mx).trans hx) hv ((ha y my).trans hy)
      · subst e0 e1; exact .q fun env' bs0 ha => op_nenil hu ho ((ha x mx).trans hx) hv ((ha y my).trans hy)
    split at h
    · rename i.desc = _ => hd
      split at h
      · exact (key .nilp hx ⟨_, hd⟩).1 rfl (Option.some.inj h).symm
      · exact (key (.ptr _ _) hx ⟨_, hd⟩).1 rfl (Option.some.inj h).symm
      · exact (key (.rptr _ _ _ _) hx ⟨_, hd⟩).1 rfl (Option.some.inj h).symm
      · exact (key (.eptr _ _ _) hx ⟨_, hd⟩).1 rfl (Option.some.inj h).symm
      · cases h
    · rename i.desc = _ => hd
      split at h
      · exact (key .nilp hx ⟨_, hd⟩).2 rfl (Option.some.inj h).symm
      · exact (key (.ptr _ _) hx ⟨_, hd⟩).2 rfl (Option.some.inj h).symm
      · exact (key (.rptr _ _ _ _) hx ⟨_, hd⟩).2 rfl (Option.some.inj h).symm
      · exact (key (.eptr _ _ _) hx ⟨_, hd⟩).2 rfl (Option.some.inj h).symm
      · cases h
    · cases h
  · cases h

def xun (op : UnOp) (a : AV) : Option Ef := match op, a with
  | .not, .bool b => some ⟨.bool (!b), [], []⟩
  | .neg, .int k n => some ⟨.int k (k.wrap (0 - n)), [], []⟩
  | _, _ => none
theorem xun_ok {op : UnOp} {t : Nat} {x : Operand} {a : AV} {e : Ef} (ho : o.op = .unOp op t x) (hx : ev env x = some a) (h : xun op a = some e) : Sd X.P o env bs e := by
  have mx : x ∈ o.op.operands.toList := by simp [ho, Op.operands]
  unfold xun at h
  split at h
  · obtain rfl := Option.some.inj h; exact .q fun env' bs0 ha => op_not ho ((ha x mx).trans hx)
  · obtain rfl := Option.some.inj h; exact .q fun env' bs0 ha => op_neg ho ((ha x mx).trans hx)
  · cases h

def xconv (X : Cx) (t u : Nat) (a : AV) : Option Ef := (X.ti t).bind fun it => (X.ti u).bind fun iu => match it.desc, iu.desc, a with
  | .int _, .int k', .int _ n => some ⟨.int k' (k'.wrap n), [], []⟩
  | _, _, _ => none
theorem xconv_ok {t u : Nat} {x : Operand} {a : AV} {e : Ef} (ho : o.op = .convert t u x) (hx : ev env x = some a) (h : xconv X t u a = some e) : Sd X.P o env bs e := by
  have mx : x ∈ o.op.operands.toList := by simp [ho, Op.operands]
  unfold xconv at h
  replace h := bi h; obtain ⟨it, h1, h⟩ := h
  replace h := bi h; obtain ⟨iu, h2, h⟩ := h
  split at h
  · rename it.desc = _ => d1
    rename iu.desc = _ => d2
    have u1 := (X.ok t it h1).inf.und
    have u2 := (X.ok u iu h2).inf.und
    rw [d1] at u1
    rw [d2] at u2
    obtain rfl := Option.some.inj h
    exact .q fun env' bs0 ha => op_conv u1 u2 ho ((ha x mx).trans hx)
  · cases h

def xpick (c : AV) (a b : Option AV) : Option Ef := match c with
  | .bool true => a.map fun v => ⟨v, [], []⟩
  | .bool false => b.map fun v => ⟨v, [], []⟩
  | _ => none
theorem xpick_ok {c x y : Operand} {cv : AV} {e : Ef} (ho : o.op = .pick c x y) (hc : ev env c = some cv) (h : xpick cv (ev env x) (ev env y) = some e) : Sd X.P o env bs e := by
  have mc : c ∈ o.op.operands.toList := by simp [ho, Op.operands]
  have mx : x ∈ o.op.operands.toList := by simp [ho, Op.operands]
  have my : y ∈ o.op.operands.toList := by simp [ho, Op.operands]
  unfold xpick at h
  split at h
  · rw [Option.map_eq_some_iff] at h
    obtain ⟨v, hv, rfl⟩ := h
    exact .q fun env' bs0 ha => op_pick_true ho ((ha c mc).trans hc) ((ha x mx).trans hv)
  · rw [Option.map_eq_some_iff] at h
    obtain ⟨v, hv, rfl⟩ := h
    exact .q fun env' bs0 ha => op_pick_false ho ((ha c mc).trans hc) ((ha y my).trans hv)
  · cases h

/-! ### reading and writing -/

def xload (X : Cx) (t : Nat) (look : Nat → Blk) (p : AV) : Option Ef := (X.ti t).bind fun i => match p with
  | .ptr b k => match look b with
    | .cells cs => (match isAggD i.desc with
      | true => okI (lenGe cs (k + i.size)) (some ⟨.agg ((cs.drop k).take i.size), [(b, .cells cs)], []⟩)
      | false => (nth cs k).map fun v => ⟨v, [(b, .cells cs)], []⟩)
    | _ => none
  | .eptr xs j k => (nth xs j).bind fun u => (match isAggD i.desc with
      | true => okI (lenGe u.cells (k + i.size)) (some ⟨.agg ((u.cells.drop k).take i.size), [], []⟩)
      | false => (nth u.cells k).map fun v => ⟨v, [], []⟩)
  | .rptr b j sz k => match look b with
    | .rows sz' xs => okI (Nat.beq sz' sz) ((nth xs j).bind fun u => (match isAggD i.desc with
      | true => okI (lenGe u.cells (k + i.size)) (some ⟨.agg ((u.cells.drop k).take i.size), [(b, .rows sz' xs)], []⟩)
      | false => (nth u.cells k).map fun v => ⟨v, [(b, .rows sz' xs)], []⟩))
    | _ => none
  | .optr b n j sz k => match look b with
    | .own e' sz' xs => okI (Nat.beq sz' sz && Nat.beq n xs.length) ((nth xs j).bind fun u => (match isAggD i.desc with
      | true => okI (lenGe u.cells (k + i.size)) (some ⟨.agg ((u.cells.drop k).take i.size), [(b, .own e' sz' xs)], []⟩)
      | false => (nth u.cells k).map fun v => ⟨v, [(b, .own e' sz' xs)], []⟩))
    | _ => none
  | _ => none

theorem xload_ok {t : Nat} {x : Operand} {p : AV} {e : Ef} (ho : o.op = .load t x) (hx : ev env x = some p) (h : xload X t (bat bs) p = some e) : Sd X.P o env bs e := by
  have mx : x ∈ o.op.operands.toList := by simp [ho, Op.operands]
  unfold xload at h
  replace h := bi h; obtain ⟨i, hi, h⟩ := h
  have ht := (X.ok t i hi).inf
  split at h
  · rename_i b k
    split at h
    · rename_i cs hb
      split at h
      · rename_i hd
        replace h := okI_inv h; obtain ⟨hl, h⟩ := h
        obtain rfl := Option.some.inj h
        exact .r hb fun env' bs0 ha hb0 => op_load_agg ht hd ho ((ha x mx).trans hx) (get_bat _ _ _ hb0 (by simp)) (lenGe_inv hl) rfl
      · rename_i hd
        rw [Option.map_eq_some_iff] at h
        obtain ⟨v, hv, rfl⟩ := h
        rw [nth_eq] at hv
        exact .r hb fun env' bs0 ha hb0 => op_load ht hd ho ((ha x mx).trans hx) (get_bat _ _ _ hb0 (by simp)) hv
    · cases h
  · rename_i xs j k
    replace h := bi h; obtain ⟨u, hu, h⟩ := h
    rw [nth_eq] at hu
    split at h
    · rename_i hd
      replace h := okI_inv h; obtain ⟨hl, h⟩ := h
      obtain rfl := Option.some.inj h
      exact .q fun env' bs0 ha => op_load_agg_e ht hd ho ((ha x mx).trans hx) hu (lenGe_inv hl) rfl
    · rename_i hd
      rw [Option.map_eq_some_iff] at h
      obtain ⟨v, hv, rfl⟩ := h
      rw [nth_eq] at hv
      exact .q fun env' bs0 ha => op_load_e ht hd ho ((ha x mx).trans hx) hu hv
  · rename_i b j sz k
    split at h
    · rename_i sz' xs hb
      replace h := okI_inv h; obtain ⟨he, h⟩ := h
      obtain rfl := Nat.eq_of_beq_eq_true he
      replace h := bi h; obtain ⟨u, hu, h⟩ := h
      rw [nth_eq] at hu
      split at h
      · rename_i hd
        replace h := okI_inv h; obtain ⟨hl, h⟩ := h
        obtain rfl := Option.some.inj h
        exact .r hb fun env' bs0 ha hb0 => op_load_agg_r ht hd ho ((ha x mx).trans hx) hb0 hu (lenGe_inv hl) rfl
      · rename_i hd
        rw [Option.map_eq_some_iff] at h
        obtain ⟨v, hv, rfl⟩ := h
        rw [nth_eq] at hv
        exact .r hb fun env' bs0 ha hb0 => op_load_r ht hd ho ((ha x mx).trans hx) hb0 hu hv
    · cases h
  · rename_i b n j sz k
    split at h
    · rename_i e' sz' xs hb
      replace h := okI_inv h; obtain ⟨he, h⟩ := h
      simp only [Bool.and_eq_true] at he
      obtain rfl := Nat.eq_of_beq_eq_true he.1
      have hn := Nat.eq_of_beq_eq_true he.2
      replace h := bi h; obtain ⟨u, hu, h⟩ := h
      rw [nth_eq] at hu
      split at h
      · rename_i hd
        replace h := okI_inv h; obtain ⟨hl, h⟩ := h
        obtain rfl := Option.some.inj h
        exact .r hb fun env' bs0 ha hb0 => op_load_agg_o ht hd ho ((ha x mx).trans hx) hb0 hn hu (lenGe_inv hl) rfl
      · rename_i hd
        rw [Option.map_eq_some_iff] at h
        obtain ⟨v, hv, rfl⟩ := h
        rw [nth_eq] at hv
        exact .r hb fun env' bs0 ha hb0 => op_load_o ht hd ho ((ha x mx).trans hx) hb0 hn hu hv
    · cases h
  · cases h

/-- The element behind a write. -/
def putEl (u : AV) (k : Nat) (v : AV) : Option AV := match Nat.beq k 0 && Nat.beq u.cells.length v.cells.length with
  | true => some v
  | false => (sets u.cells k v.cells).map .agg
theorem putEl_ok {u v u' : AV} {k : Nat} (h : putEl u k v = some u') : k + v.cells.length ≤ u.cells.length ∧ u.cells.take k ++ v.cells ++ u.cells.drop (k + v.cells.length) = u'.cells := by
  unfold putEl at h
  split at h
  · rename_i hc
    simp only [Bool.and_eq_true] at hc
    have h1 := Nat.eq_of_beq_eq_true hc.1
    have h2 := Nat.eq_of_beq_eq_true hc.2
    obtain rfl := Option.some.inj h
    subst h1
    exact ⟨by omega, by rw [List.drop_eq_nil_of_le (by omega)]; simp⟩
  · rw [Option.map_eq_some_iff] at h
    obtain ⟨cs, h, rfl⟩ := h
    obtain ⟨h1, h2⟩ := sets_ok h
    exact ⟨h1, h2.symm⟩

def lset (xs : List AV) (j : Nat) (u : AV) : List AV := List.rec (fun _ => []) (fun x r ih j => Nat.rec (u :: r) (fun j _ => x :: ih j) j) xs j
theorem lset_eq : ∀ (xs : List AV) (j : Nat) (u : AV), lset xs j u = xs.set j u
  | [], _, _ => by simp [lset]
  | _ :: r, 0, u => rfl
  | x :: r, j + 1, u => by rw [List.set_cons_succ, ← lset_eq r j u]; rfl

def xstore (X : Cx) (t : Nat) (look : Nat → Blk) (p v : AV) : Option Ef := (X.ti t).bind fun i => okI (Nat.beq v.cells.length i.size && Nat.blt 0 i.size && v.cells.all AV.one) (match p with
  | .ptr b k => match look b with
    | .cells cs => (sets cs k v.cells).map fun cs' => ⟨.und, [(b, .cells cs)], [(b, .cells cs')]⟩
    | _ => none
  | .rptr b j sz k => match look b with
    | .rows sz' xs => okI (Nat.beq sz' sz) ((nth xs j).bind fun u => (putEl u k v).map fun u' => ⟨.und, [(b, .rows sz' xs)], [(b, .rows sz' (lset xs j u'))]⟩)
    | _ => none
  | .optr b n j sz k => match look b with
    | .own e' sz' xs => okI (Nat.beq sz' sz && Nat.beq n xs.length) ((nth xs j).bind fun u => (putEl u k v).map fun u' => ⟨.und, [(b, .own e' sz' xs)], [(b, .own e' sz' (lset xs j u'))]⟩)
    | _ => none
  | _ => none)

theorem xstore_ok {t : Nat} {x y : Operand} {p v : AV} {e : Ef} (ho : o.op = .store t x y) (hx : ev env x = some p) (hy : ev env y = some v) (h : xstore X t (bat bs) p v = some e) : Sd X.P o env bs e := by
  have mx : x ∈ o.op.operands.toList := by simp [ho, Op.operands]
  have my : y ∈ o.op.operands.toList := by simp [ho, Op.operands]
  unfold xstore at h
  replace h := bi h; obtain ⟨i, hi, h⟩ := h
  have ht := (X.ok t i hi).inf
  replace h := okI_inv h; obtain ⟨hc, h⟩ := h
  simp only [Bool.and_eq_true] at hc
  obtain ⟨⟨hs, hs0⟩, h1⟩ := hc
  have hs := Nat.eq_of_beq_eq_true hs
  split at h
  · rename_i b k
    split at h
    · rename_i cs hb
      rw [Option.map_eq_some_iff] at h
      obtain ⟨cs', h, rfl⟩ := h
      obtain ⟨hk, rfl⟩ := sets_ok h
      rw [hs] at hk
      rw [hs]
      exact .w hb fun env' bs0 ha hb0 => op_store_b ht ho ((ha x mx).trans hx) ((ha y my).trans hy) hb0 hs h1 hk rfl
    · cases h
  · rename_i b j sz k
    split at h
    · rename_i sz' xs hb
      replace h := okI_inv h; obtain ⟨he, h⟩ := h
      obtain rfl := Nat.eq_of_beq_eq_true he
      replace h := bi h; obtain ⟨u, hu, h⟩ := h
      rw [nth_eq] at hu
      rw [Option.map_eq_some_iff] at h
      obtain ⟨u', h, rfl⟩ := h
      obtain ⟨hk, hv⟩ := putEl_ok h
      rw [hs] at hk hv
      rw [lset_eq]
      exact .w hb fun env' bs0 ha hb0 => op_store_r ht ho ((ha x mx).trans hx) ((ha y my).trans hy) hb0 hu hs h1 hk hv
    · cases h
  · rename_i b n j sz k
    split at h
    · rename_i e' sz' xs hb
      replace h := okI_inv h; obtain ⟨he, h⟩ := h
      simp only [Bool.and_eq_true] at he
      obtain rfl := Nat.eq_of_beq_eq_true he.1
      have hn := Nat.eq_of_beq_eq_true he.2
      replace h := bi h; obtain ⟨u, hu, h⟩ := h
      rw [nth_eq] at hu
      rw [Option.map_eq_some_iff] at h
      obtain ⟨u', h, rfl⟩ := h
      obtain ⟨hk, hv⟩ := putEl_ok h
      rw [hs] at hk hv
      rw [lset_eq]
      exact .w hb fun env' bs0 ha hb0 => op_store_o ht ho ((ha x mx).trans hx) ((ha y my).trans hy) hb0 hn hu hs h1 hk hv
    · cases h
  · cases h

/-! ### addresses -/

def xfield (X : Cx) (t j : Nat) (look : Nat → Blk) (p : AV) : Option Ef := (X.ti t).bind fun i => (i.offs[j]?).bind fun off => match p with
  | .ptr b k => some ⟨.ptr b (k + off), [], []⟩
  | .rptr b m sz k => some ⟨.rptr b m sz (k + off), [], []⟩
  | .optr b n m sz k => match look b with
    | .own e' sz' xs => okI (Nat.beq n xs.length) (some ⟨.optr b n m sz (k + off), [(b, .own e' sz' xs)], []⟩)
    | _ => none
  | .eptr xs m k => (nth xs m).bind fun u => okI (lenGe u.cells (k + off + 1)) (some ⟨.eptr xs m (k + off), [], []⟩)
  | _ => none
theorem xfield_ok {t j : Nat} {x : Operand} {p : AV} {e : Ef} (ho : o.op = .fieldAddr t x j) (hx : ev env x = some p) (h : xfield X t j (bat bs) p = some e) : Sd X.P o env bs e := by
  have mx : x ∈ o.op.operands.toList := by simp [ho, Op.operands]
  unfold xfield at h
  replace h := bi h; obtain ⟨i, hi, h⟩ := h
  replace h := bi h; obtain ⟨off, hoff, h⟩ := h
  obtain ⟨fs, f, size, bytes, z, d, hd, hf, rfl, hin, h0⟩ := (X.ok t i hi).offs j off hoff
  have hu := (X.ok t i hi).inf.und
  rw [hd] at hu
  split at h
  · obtain rfl := Option.some.inj h; exact .q fun env' bs0 ha => op_faddr hu hf hin h0 ho ((ha x mx).trans hx)
  · obtain rfl := Option.some.inj h; exact .q fun env' bs0 ha => op_faddr_r hu hf hin h0 ho ((ha x mx).trans hx)
  · split at h
    · rename_i e' sz' xs hb
      replace h := okI_inv h; obtain ⟨hn, h⟩ := h
      obtain rfl := Option.some.inj h
      exact .r hb fun env' bs0 ha hb0 => op_faddr_o hu hf hin h0 ho ((ha x mx).trans hx) hb0 (Nat.eq_of_beq_eq_true hn)
    · cases h
  · replace h := bi h; obtain ⟨u, hu2, h⟩ := h
    rw [nth_eq] at hu2
    replace h := okI_inv h; obtain ⟨hl, h⟩ := h
    obtain rfl := Option.some.inj h
    have := lenGe_inv hl
    exact .q fun env' bs0 ha => op_faddr_e hu hf hin h0 ho ((ha x mx).trans hx) hu2 (by omega)
  · cases h

def xidx (X : Cx) (t : Nat) (look : Nat → Blk) (p i : AV) : Option Ef := match i with
  | .int _ n => (X.ti t).bind fun it => match it.desc with
    | .slice e => (X.ti e).bind fun ie => okI (Nat.blt 0 ie.size) (match p with
      | .lst _ xs => (idxL xs n).bind fun u => okI (Nat.beq u.cells.length ie.size) (some ⟨.eptr [u] 0 0, [], []⟩)
      | .gsl b ln => (match look b with
        | .grow e' sz xs => okI (Nat.beq ln xs.length) ((idxL xs n).bind fun u => okI (Nat.beq u.cells.length ie.size) (some ⟨.eptr [u] 0 0, [(b, .grow e' sz xs)], []⟩))
        | .own e' sz xs => okI (Nat.beq ln xs.length && decide (0 ≤ n) && Nat.blt n.toNat ln && Nat.beq sz ie.size) (some ⟨.optr b ln n.toNat sz 0, [(b, .own e' sz xs)], []⟩)
        | _ => none)
      | .slc b q sz len _ => okI (decide (0 ≤ n) && Nat.blt n.toNat len && Nat.beq sz ie.size) (some ⟨.rptr b (q + n.toNat) sz 0, [], []⟩)
      | .oslc b m q sz len _ => (match look b with
        | .own e' sz' xs => okI (Nat.beq m xs.length && decide (0 ≤ n) && Nat.blt n.toNat len && Nat.beq sz ie.size) (some ⟨.optr b m (q + n.toNat) sz 0, [(b, .own e' sz' xs)], []⟩)
        | _ => none)
      | _ => none)
    | .array len e => (X.ti e).bind fun ie => (ixN n len).bind fun m => (match p with
      | .ptr b q => some ⟨.ptr b (q + m * ie.size), [], []⟩
      | .eptr xs j q => (nth xs j).bind fun u => okI (lenGe u.cells (q + m * ie.size + 1)) (some ⟨.eptr xs j (q + m * ie.size), [], []⟩)
      | _ => none)
    | _ => none
  | _ => none
theorem xidx_ok {t : Nat} {x y : Operand} {p i : AV} {e : Ef} (ho : o.op = .indexAddr t x y) (hx : ev env x = some p) (hy : ev env y = some i) (h : xidx X t (bat bs) p i = some e) : Sd X.P o env bs e := by
  have mx : x ∈ o.op.operands.toList := by simp [ho, Op.operands]
  have my : y ∈ o.op.operands.toList := by simp [ho, Op.operands]
  unfold xidx at h
  split at h
  · rename_i k n
    replace h := bi h; obtain ⟨it, hi, h⟩ := h
    have hu := (X.ok t it hi).inf.und
    split at h
    · rename_i e1 hd
      rw [hd] at hu
      replace h := bi h; obtain ⟨ie, hie, h⟩ := h
      have he := (X.ok e1 ie hie).inf
      replace h := okI_inv h; obtain ⟨h0, h⟩ := h
      have h0 : 0 < ie.size := by simpa [Nat.blt_eq] using h0
      split at h
      · replace h := bi h; obtain ⟨u, hu2, h⟩ := h
        obtain ⟨g1, g2⟩ := idxL_inv hu2
        replace h := okI_inv h; obtain ⟨hl, h⟩ := h
        obtain rfl := Option.some.inj h
        exact .q fun env' bs0 ha => op_iaddr1 hu he ho ((ha x mx).trans hx) ((ha y my).trans hy) g1 g2 (Nat.eq_of_beq_eq_true hl) h0
      · split at h
        · rename_i e' sz xs hb
          replace h := okI_inv h; obtain ⟨hl, h⟩ := h
          replace h := bi h; obtain ⟨u, hu2, h⟩ := h
          obtain ⟨g1, g2⟩ := idxL_inv hu2
          replace h := okI_inv h; obtain ⟨hl2, h⟩ := h
          obtain rfl := Option.some.inj h
          exact .r hb fun env' bs0 ha hb0 => op_iaddr_g hu he ho ((ha x mx).trans hx) hb0 (Nat.eq_of_beq_eq_true hl) ((ha y my).trans hy) g1 g2 (Nat.eq_of_beq_eq_true hl2) h0
        · rename_i e' sz xs hb
          replace h := okI_inv h; obtain ⟨hl, h⟩ := h
          simp only [Bool.and_eq_true] at hl
          obtain ⟨⟨⟨c1, c2⟩, c3⟩, c4⟩ := hl
          obtain rfl := Option.some.inj h
          exact .r hb fun env' bs0 ha hb0 => op_iaddr_o hu he ho ((ha x mx).trans hx) hb0 (Nat.eq_of_beq_eq_true c1) ((ha y my).trans hy) (of_decide_eq_true c2) (by simpa [Nat.blt_eq] using c3) (Nat.eq_of_beq_eq_true c4)
        · cases h
      · replace h := okI_inv h; obtain ⟨hl, h⟩ := h
        simp only [Bool.and_eq_true] at hl
        obtain ⟨⟨c2, c3⟩, c4⟩ := hl
        obtain rfl := Option.some.inj h
        exact .q fun env' bs0 ha => op_iaddr_s hu he ho ((ha x mx).trans hx) ((ha y my).trans hy) (of_decide_eq_true c2) (by simpa [Nat.blt_eq] using c3) (Nat.eq_of_beq_eq_true c4)
      · split at h
        · rename_i e' sz xs hb
          replace h := okI_inv h; obtain ⟨hl, h⟩ := h
          simp only [Bool.and_eq_true] at hl
          obtain ⟨⟨⟨c1, c2⟩, c3⟩, c4⟩ := hl
          obtain rfl := Option.some.inj h
          exact .r hb fun env' bs0 ha hb0 => op_iaddr_os hu he ho ((ha x mx).trans hx) hb0 (Nat.eq_of_beq_eq_true c1) ((ha y my).trans hy) (of_decide_eq_true c2) (by simpa [Nat.blt_eq] using c3) (Nat.eq_of_beq_eq_true c4)
        · cases h
      · cases h
    · rename_i len e1 hd
      rw [hd] at hu
      replace h := bi h; obtain ⟨ie, hie, h⟩ := h
      have he := (X.ok e1 ie hie).inf
      replace h := bi h; obtain ⟨m, hm, h⟩ := h
      obtain ⟨g1, g2⟩ := ixN_inv hm
      split at h
      · obtain rfl := Option.some.inj h
        exact .q fun env' bs0 ha => op_iaddr_a hu he ho ((ha x mx).trans hx) ((ha y my).trans hy) g1 g2
      · replace h := bi h; obtain ⟨u, hu2, h⟩ := h
        rw [nth_eq] at hu2
        replace h := okI_inv h; obtain ⟨hl, h⟩ := h
        have := lenGe_inv hl
        obtain rfl := Option.some.inj h
        exact .q fun env' bs0 ha => op_iaddr_ae hu he ho ((ha x mx).trans hx) ((ha y my).trans hy) g1 g2 hu2 (by omega)
      · cases h
    · cases h
  · cases h

def xindex (X : Cx) (t : Nat) (p i : AV) : Option Ef := match p, i with
  | .agg cs, .int _ n => (X.ti t).bind fun it => match it.desc with
    | .array len e => (X.ti e).bind fun ie => (ixN n len).bind fun m => (match isAggD ie.desc with
      | true => okI (lenGe cs (m * ie.size + ie.size)) (some ⟨.agg ((cs.drop (m * ie.size)).take ie.size), [], []⟩)
      | false => (nth cs (m * ie.size)).map fun v => ⟨v, [], []⟩)
    | _ => none
  | _, _ => none
theorem xindex_ok {t : Nat} {x y : Operand} {p i : AV} {e : Ef} (ho : o.op = .index t x y) (hx : ev env x = some p) (hy : ev env y = some i) (h : xindex X t p i = some e) : Sd X.P o env bs e := by
  have mx : x ∈ o.op.operands.toList := by simp [ho, Op.operands]
  have my : y ∈ o.op.operands.toList := by simp [ho, Op.operands]
  unfold xindex at h
  split at h
  · replace h := bi h; obtain ⟨it, hi, h⟩ := h
    have hu := (X.ok t it hi).inf.und
    split at h
    · rename_i len e1 hd
      rw [hd] at hu
      replace h := bi h; obtain ⟨ie, hie, h⟩ := h
      have he := (X.ok e1 ie hie).inf
      replace h := bi h; obtain ⟨m, hm, h⟩ := h
      obtain ⟨g1, g2⟩ := ixN_inv hm
      split at h
      · rename_i hd2
        replace h := okI_inv h; obtain ⟨hl, h⟩ := h
        obtain rfl := Option.some.inj h
        exact .q fun env' bs0 ha => op_index_agg hu he hd2 ho ((ha x mx).trans hx) ((ha y my).trans hy) g1 g2 (lenGe_inv hl) rfl
      · rename_i hd2
        rw [Option.map_eq_some_iff] at h
        obtain ⟨v, hv, rfl⟩ := h
        rw [nth_eq] at hv
        exact .q fun env' bs0 ha => op_index hu he hd2 ho ((ha x mx).trans hx) ((ha y my).trans hy) g1 g2 hv
    · cases h
  · cases h


def xfieldV (X : Cx) (t j : Nat) (p : AV) : Option Ef := (X.ti t).bind fun i => match i.desc, p with
  | .struct fs, .agg cs => (fs[j]?).bind fun f => (X.ti f.type).bind fun ie => (match isAggD ie.desc with
    | true => okI (lenGe cs (f.offset + ie.size)) (some ⟨.agg ((cs.drop f.offset).take ie.size), [], []⟩)
    | false => (nth cs f.offset).map fun v => ⟨v, [], []⟩)
  | _, _ => none
theorem xfieldV_ok {t j : Nat} {x : Operand} {p : AV} {e : Ef} (ho : o.op = .field t x j) (hx : ev env x = some p) (h : xfieldV X t j p = some e) : Sd X.P o env bs e := by
  have mx : x ∈ o.op.operands.toList := by simp [ho, Op.operands]
  unfold xfieldV at h
  replace h := bi h; obtain ⟨it, hi, h⟩ := h
  have hu := (X.ok t it hi).inf.und
  split at h
  · rename_i fs cs hd
    rw [hd] at hu
    replace h := bi h; obtain ⟨f, hf, h⟩ := h
    replace h := bi h; obtain ⟨ie, hie, h⟩ := h
    have he := (X.ok f.type ie hie).inf
    split at h
    · rename_i hd2
      replace h := okI_inv h; obtain ⟨hl, h⟩ := h
      obtain rfl := Option.some.inj h
      exact .q fun env' bs0 ha => op_field_agg hu hf he hd2 ho ((ha x mx).trans hx) (lenGe_inv hl) rfl
    · rename_i hd2
      rw [Option.map_eq_some_iff] at h
      obtain ⟨v, hv, rfl⟩ := h
      rw [nth_eq] at hv
      exact .q fun env' bs0 ha => op_field hu hf he hd2 ho ((ha x mx).trans hx) hv
  · cases h

end
end
end Go.Proofs.YtelgmdljcbkniaaDoor.Ai
