/- An interpreter of values for the model's code, base text 5: the operations that compute, read, and make variables. -/
import Derived.Test.YtelgmdljcbkniaaDoorB4
namespace Go.Proofs.YtelgmdljcbkniaaDoor.Ai
noncomputable section
open Go

/-- What is used of a type's row. -/
structure Inf (P : Program) (t : TypeId) (size bytes : Nat) (zero : Value) (d : TypeDesc) : Prop where
  info : ∃ i, P.info? t = some i ∧ i.size = size ∧ i.bytes = bytes ∧ i.zero = some zero
  und : P.underlying t = some d

theorem Inf.size {P : Program} {t : TypeId} {size bytes : Nat} {zero : Value} {d : TypeDesc} (h : Inf P t size bytes zero d) (w : World) : (Go.sizeOf t).run P w = .ok size w := by
  obtain ⟨i, hi, hs, _⟩ := h.info
  simp [Go.sizeOf, typeInfo, hi, hs]
theorem Inf.zero {P : Program} {t : TypeId} {size bytes : Nat} {zero : Value} {d : TypeDesc} (h : Inf P t size bytes zero d) (w : World) : (zeroValue t).run P w = .ok zero w := by
  obtain ⟨i, hi, _, _, hz⟩ := h.info
  simp [zeroValue, typeInfo, hi, hz]
theorem Inf.under {P : Program} {t : TypeId} {size bytes : Nat} {zero : Value} {d : TypeDesc} (h : Inf P t size bytes zero d) (w : World) : (underlying t).run P w = .ok d w := run_underlying h.und w

def isAggD : TypeDesc → Bool
  | .struct _ | .array _ _ => true
  | _ => false

theorem Inf.isAgg {P : Program} {t : TypeId} {size bytes : Nat} {zero : Value} {d : TypeDesc} (h : Inf P t size bytes zero d) (w : World) : (isAgg t).run P w = .ok (isAggD d) w := by
  unfold Go.isAgg
  rw [Sem.run_bind, h.under]
  cases d <;> simp [isAggD]

theorem inf {P : Program} {t : TypeId} {size bytes : Nat} {zero : Value} {d : TypeDesc} (h : (P.info? t).map (fun i => (i.size, i.bytes, i.zero)) = some (size, bytes, some zero)) (hu : P.underlying t = some d) : Inf P t size bytes zero d := by
  cases hi : P.info? t with
  | none => simp [hi] at h
  | some i =>
    simp only [hi, Option.map_some, Option.some.injEq, Prod.mk.injEq] at h
    exact ⟨⟨i, hi, h.1, h.2.1, h.2.2⟩, hu⟩

/-- An operation that yields a value and leaves the world. -/
theorem op_pure {P : Program} {o : Oper} {s : St} {v : AV} (h : ∀ (G : Ghost) (w : World) (a : Act), Inv G s.bs w → EnvR G s.env a.tmps → ∃ cv, (execOp a.eval o).run P w = .ok (.value cv) w ∧ R G v cv)
    (hd : ∀ c, o.op ≠ .defer c := by intro c; rename o.op = _ => ho'; rw [ho']; exact fun h => nomatch h) : OpT P o s v s.bs := by
  refine OpT.of hd ?_
  intro G w a hI hE K Q hK
  obtain ⟨cv, he, hr⟩ := h G w a hI hE
  unfold Oper.wp
  rw [he]
  exact hK cv w G ⟨hr, hI, .refl _, .refl _ _⟩

theorem op_move {P : Program} {o : Oper} {s : St} {x : Operand} {v : AV} (ho : o.op = .move x) (hx : ev s.env x = some v) : OpT P o s v s.bs :=
  op_pure fun _ _ _ _ hE => ⟨_, by simp [execOp, ho], ev_r hE hx⟩
theorem op_assign {P : Program} {o : Oper} {s : St} {x : Operand} {v : AV} (ho : o.op = .assign x) (hx : ev s.env x = some v) : OpT P o s v s.bs :=
  op_pure fun _ _ _ _ hE => ⟨_, by simp [execOp, ho], ev_r hE hx⟩

theorem op_pick_true {P : Program} {o : Oper} {s : St} {c x y : Operand} {v : AV} (ho : o.op = .pick c x y) (hc : ev s.env c = some (.bool true)) (hx : ev s.env x = some v) : OpT P o s v s.bs :=
  op_pure fun _ _ _ _ hE => ⟨_, by simp [execOp, ho, (ev_r hE hc).bool_inv, asBool], ev_r hE hx⟩
theorem op_pick_false {P : Program} {o : Oper} {s : St} {c x y : Operand} {v : AV} (ho : o.op = .pick c x y) (hc : ev s.env c = some (.bool false)) (hx : ev s.env y = some v) : OpT P o s v s.bs :=
  op_pure fun _ _ _ _ hE => ⟨_, by simp [execOp, ho, (ev_r hE hc).bool_inv, asBool], ev_r hE hx⟩

theorem R.int_inv {G : Ghost} {k : IntKind} {n : Int} {cv : Value} (h : R G (.int k n) cv) : cv = .int k n := by
  cases h with | imm _ _ h => cases h; rfl
theorem R.str_inv {G : Ghost} {b : ByteArray} {cv : Value} (h : R G (.str b) cv) : cv = .string b := by
  cases h with | imm _ _ h => cases h; rfl
/-- Two numbers' operation, where it doesn't panic. -/
def bin2 (op : BinOp) (k : IntKind) (x y : Int) : Option AV :=
  match op with
  | .add => some (.int k (k.wrap (x + y)))
  | .sub => some (.int k (k.wrap (x - y)))
  | .mul => some (.int k (k.wrap (x * y)))
  | .and => some (.int k (k.wrap ((BitVec.ofInt k.bits x) &&& (BitVec.ofInt k.bits y)).toNat))
  | .or => some (.int k (k.wrap ((BitVec.ofInt k.bits x) ||| (BitVec.ofInt k.bits y)).toNat))
  | .xor => some (.int k (k.wrap ((BitVec.ofInt k.bits x) ^^^ (BitVec.ofInt k.bits y)).toNat))
  | .andNot => some (.int k (k.wrap ((BitVec.ofInt k.bits x) &&& ~~~ (BitVec.ofInt k.bits y)).toNat))
  | .eql => some (.bool (x == y))
  | .neq => some (.bool (x != y))
  | .lss => some (.bool (decide (x < y)))
  | .leq => some (.bool (decide (x ≤ y)))
  | .gtr => some (.bool (decide (x > y)))
  | .geq => some (.bool (decide (x ≥ y)))
  | _ => none

theorem run_bin {P : Program} {w : World} {Z : ZM} {op : BinOp} {t : TypeId} {k : IntKind} {a b : Int} {v : AV} (hv : bin2 op k a b = some v) :
    ∃ cv, (binOp op t (.int k a) (.int k b)).run P w = .ok cv w ∧ RI Z v cv := by
  cases op <;> simp only [bin2, Option.some.injEq, reduceCtorEq] at hv <;> subst hv <;>
    exact ⟨_, by simp only [binOp, ne_eq, not_true_eq_false, if_false, Op.intArith, Op.intBits, Op.intCmp]; rfl, by constructor⟩

theorem op_bin {P : Program} {o : Oper} {s : St} {op : BinOp} {t t' : TypeId} {x y : Operand} {k : IntKind} {a b : Int} {v : AV} (ho : o.op = .binOp op t x y t')
    (hx : ev s.env x = some (.int k a)) (hy : ev s.env y = some (.int k b)) (hv : bin2 op k a b = some v) : OpT P o s v s.bs := by
  refine op_pure fun G w ac _ hE => ?_
  have h1 := (ev_r hE hx).int_inv
  have h2 := (ev_r hE hy).int_inv
  have hg : (eqGuard op t x y (.int k a) (.int k b)).run P w = .ok () w := by
    unfold eqGuard
    split <;> simp
  obtain ⟨cv, hr, hi⟩ := run_bin (P := P) (w := w) (Z := G.Z) (t := t) hv
  exact ⟨cv, by simp only [execOp, ho, h1, h2, Sem.run_bind, hg, Result.andThen_ok, hr]; rfl, .imm _ _ hi⟩

theorem op_quo {P : Program} {o : Oper} {s : St} {t t' : TypeId} {x y : Operand} {k : IntKind} {a b : Int} (ho : o.op = .binOp .quo t x y t')
    (hx : ev s.env x = some (.int k a)) (hy : ev s.env y = some (.int k b)) (hb : b ≠ 0) : OpT P o s (.int k (k.wrap (a.tdiv b))) s.bs :=
  op_pure fun _ _ _ _ hE => ⟨_, by simp [execOp, ho, (ev_r hE hx).int_inv, (ev_r hE hy).int_inv, eqGuard, binOp, Op.intDiv, hb], .imm _ _ (.int _ _)⟩
theorem op_rem {P : Program} {o : Oper} {s : St} {t t' : TypeId} {x y : Operand} {k : IntKind} {a b : Int} (ho : o.op = .binOp .rem t x y t')
    (hx : ev s.env x = some (.int k a)) (hy : ev s.env y = some (.int k b)) (hb : b ≠ 0) : OpT P o s (.int k (a.tmod b)) s.bs :=
  op_pure fun _ _ _ _ hE => ⟨_, by simp [execOp, ho, (ev_r hE hx).int_inv, (ev_r hE hy).int_inv, eqGuard, binOp, Op.intDiv, hb], .imm _ _ (.int _ _)⟩
theorem op_shl {P : Program} {o : Oper} {s : St} {t t' : TypeId} {x y : Operand} {k k' : IntKind} {a b : Int} (ho : o.op = .binOp .shl t x y t')
    (hx : ev s.env x = some (.int k a)) (hy : ev s.env y = some (.int k' b)) (hb : ¬ b < 0) : OpT P o s (.int k (k.wrap (a * 2 ^ (min b.toNat k.bits)))) s.bs :=
  op_pure fun _ _ _ _ hE => ⟨_, by simp [execOp, ho, (ev_r hE hx).int_inv, (ev_r hE hy).int_inv, eqGuard, binOp, Op.shift, hb], .imm _ _ (.int _ _)⟩
theorem op_shr {P : Program} {o : Oper} {s : St} {t t' : TypeId} {x y : Operand} {k k' : IntKind} {a b : Int} (ho : o.op = .binOp .shr t x y t')
    (hx : ev s.env x = some (.int k a)) (hy : ev s.env y = some (.int k' b)) (hb : ¬ b < 0) : OpT P o s (.int k (a.fdiv (2 ^ (min b.toNat k.bits)))) s.bs :=
  op_pure fun _ _ _ _ hE => ⟨_, by simp [execOp, ho, (ev_r hE hx).int_inv, (ev_r hE hy).int_inv, eqGuard, binOp, Op.shift, hb], .imm _ _ (.int _ _)⟩

theorem run_equalIn_bool {P : Program} {w : World} {t : TypeId} (hu : P.underlying t = some .bool) (d : Nat) (a b : Bool) : (Op.equalIn (d + 1) t (.bool a) (.bool b)).run P w = .ok (a == b) w := by
  simp [Op.equalIn, run_underlying hu]
theorem run_equal_bool {P : Program} {w : World} {t : TypeId} (hu : P.underlying t = some .bool) (a b : Bool) : (Op.equal t (.bool a) (.bool b)).run P w = .ok (a == b) w := run_equalIn_bool hu 9999 a b

theorem op_eqb {P : Program} {o : Oper} {s : St} {t t' : TypeId} {x y : Operand} {a b : Bool} (hu : P.underlying t = some .bool) (ho : o.op = .binOp .eql t x y t')
    (hx : ev s.env x = some (.bool a)) (hy : ev s.env y = some (.bool b)) : OpT P o s (.bool (a == b)) s.bs :=
  op_pure fun _ w _ _ hE => by
    have hb : (binOp .eql t (.bool a) (.bool b)).run P w = .ok (.bool (a == b)) w := by
      show (do pure (Value.bool (← Op.equal t (.bool a) (.bool b))) : Sem Value).run P w = _
      rw [Sem.run_bind, run_equal_bool hu]; rfl
    exact ⟨.bool (a == b), by simp only [execOp, ho, (ev_r hE hx).bool_inv, (ev_r hE hy).bool_inv, eqGuard, Sem.run_bind, Sem.run_pure, ite_self, Result.andThen_ok, hb], .imm _ _ (.bool _)⟩
theorem op_neb {P : Program} {o : Oper} {s : St} {t t' : TypeId} {x y : Operand} {a b : Bool} (hu : P.underlying t = some .bool) (ho : o.op = .binOp .neq t x y t')
    (hx : ev s.env x = some (.bool a)) (hy : ev s.env y = some (.bool b)) : OpT P o s (.bool (!(a == b))) s.bs :=
  op_pure fun _ w _ _ hE => by
    have hb : (binOp .neq t (.bool a) (.bool b)).run P w = .ok (.bool (!(a == b))) w := by
      show (do pure (Value.bool (!(← Op.equal t (.bool a) (.bool b)))) : Sem Value).run P w = _
      rw [Sem.run_bind, run_equal_bool hu]; rfl
    exact ⟨.bool (!(a == b)), by simp only [execOp, ho, (ev_r hE hx).bool_inv, (ev_r hE hy).bool_inv, eqGuard, Sem.run_bind, Sem.run_pure, ite_self, Result.andThen_ok, hb], .imm _ _ (.bool _)⟩

theorem op_not {P : Program} {o : Oper} {s : St} {t : TypeId} {x : Operand} {b : Bool} (ho : o.op = .unOp .not t x) (hx : ev s.env x = some (.bool b)) : OpT P o s (.bool (!b)) s.bs :=
  op_pure fun _ _ _ _ hE => ⟨_, by simp [execOp, ho, (ev_r hE hx).bool_inv, Op.unary], .imm _ _ (.bool _)⟩
theorem op_neg {P : Program} {o : Oper} {s : St} {t : TypeId} {x : Operand} {k : IntKind} {n : Int} (ho : o.op = .unOp .neg t x) (hx : ev s.env x = some (.int k n)) : OpT P o s (.int k (k.wrap (0 - n))) s.bs :=
  op_pure fun _ _ _ _ hE => ⟨_, by simp [execOp, ho, (ev_r hE hx).int_inv, Op.unary, Op.intArith], .imm _ _ (.int _ _)⟩

theorem op_conv {P : Program} {o : Oper} {s : St} {t u : TypeId} {x : Operand} {k k1 k' : IntKind} {n : Int} (h1 : P.underlying t = some (.int k1)) (h2 : P.underlying u = some (.int k'))
    (ho : o.op = .convert t u x) (hx : ev s.env x = some (.int k n)) : OpT P o s (.int k' (k'.wrap n)) s.bs :=
  op_pure fun _ _ _ _ hE => ⟨_, by simp [execOp, ho, (ev_r hE hx).int_inv, convert, run_underlying h1, run_underlying h2, Conv.intToInt], .imm _ _ (.int _ _)⟩

theorem op_extract {P : Program} {o : Oper} {s : St} {x : Operand} {i : Nat} {vs : List AV} {v : AV} (ho : o.op = .extract x i) (hx : ev s.env x = some (.tup vs)) (hv : vs[i]? = some v) : OpT P o s v s.bs :=
  op_pure fun _ _ _ _ hE => by
    obtain ⟨cs, he, hl, hr⟩ := (ev_r hE hx).tup_inv
    have hi : i < cs.size := hl ▸ lt_of_get hv
    exact ⟨cs[i], by simp [execOp, ho, he, Instr.extract, hi], hr i v _ hv (by simp [hi])⟩

theorem op_mkfunc {P : Program} {o : Oper} {s : St} {f : Nat} {xs : List Operand} {vs : List AV} (ho : o.op = .makeFunc (.func f) #[] xs.toArray) (hv : evs s.env xs = some vs) : OpT P o s (.fn f vs) s.bs :=
  op_pure fun _ _ a _ hE => by
    obtain ⟨hl, hr⟩ := evs_map hE hv
    exact ⟨.func (.func f) #[] (xs.map a.eval).toArray, by simp only [execOp, ho, Instr.makeFunc, Sem.run_bind, Sem.run_pure, Result.andThen_ok, List.map_toArray, List.map_nil], by simpa using R.fn f vs _ hl hr⟩

theorem op_nilcheck_ptr {P : Program} {o : Oper} {s : St} {x : Operand} {i k : Nat} (ho : o.op = .nilCheck x) (hx : ev s.env x = some (.ptr i k)) : OpT P o s (.ptr i k) s.bs :=
  op_pure fun _ _ _ _ hE => by
    obtain ⟨c, hc, he⟩ := (ev_r hE hx).ptr_inv
    exact ⟨_, by simp [execOp, ho, he], .ptr i k c hc⟩

/-! ### Reading -/

theorem loadCells_at {P : Program} {w : World} {c o : Nat} {arr : Array Value} {e : TypeId} {fr : Nat × Nat} (hb : w.heap[c]? = some (.cells arr e fr)) (n : Nat) (h : o + n ≤ arr.size) :
    (loadCells ⟨c, o, none⟩ n).run P w = .ok (arr.extract o (o + n)) w := by
  have hl : ((arr.toList.drop o).take n).length = n := by simp; omega
  have := run_loadCells_list (P := P) w ⟨c, o, none⟩ ((arr.toList.drop o).take n) (fun j v hv => by
    have hadd : (⟨c, o, none⟩ : Addr).add j = ⟨c, o + j, none⟩ := by unfold Addr.add; split <;> simp_all
    rw [hadd]
    simp only [World.cell?, hb, Option.isSome_none, Bool.false_eq_true, if_false]
    rw [List.getElem?_take] at hv
    split at hv
    · simpa using hv
    · cases hv)
  rw [hl] at this
  rw [this]
  congr 1
  apply Array.ext'
  simp [Array.toList_extract, List.extract_eq_take_drop]

/-- A variable of one cell is read. -/
theorem op_load {P : Program} {o : Oper} {s : St} {t : TypeId} {x : Operand} {size bytes : Nat} {z : Value} {d : TypeDesc} {i k : Nat} {cs : List AV} {v : AV} (ht : Inf P t size bytes z d) (hd : isAggD d = false)
    (ho : o.op = .load t x) (hx : ev s.env x = some (.ptr i k)) (hb : s.bs[i]? = some (.cells cs)) (hv : cs[k]? = some v) : OpT P o s v s.bs :=
  op_pure fun G w a hI hE => by
    obtain ⟨c, hc, he⟩ := (ev_r hE hx).ptr_inv
    obtain ⟨arr, e, hh, hl, hr, _⟩ := inv_cells hI hb hc
    have hk : k < arr.size := Nat.lt_of_lt_of_le (lt_of_get hv) hl
    have hcell : w.cell? ⟨c, k, none⟩ = some arr[k] := by simp [World.cell?, hh, hk]
    exact ⟨arr[k], by simp [execOp, ho, he, Instr.loadAt, Instr.sureAddr, loadVar, ht.isAgg, hd, hcell], hr k v _ hv (by simp [hk])⟩

/-- A struct or an array is read. -/
theorem op_load_agg {P : Program} {o : Oper} {s : St} {t : TypeId} {x : Operand} {size bytes : Nat} {z : Value} {d : TypeDesc} {i k : Nat} {cs ds : List AV} (ht : Inf P t size bytes z d) (hd : isAggD d = true)
    (ho : o.op = .load t x) (hx : ev s.env x = some (.ptr i k)) (hb : s.bs[i]? = some (.cells cs)) (hs : k + size ≤ cs.length) (hv : (cs.drop k).take size = ds) : OpT P o s (.agg ds) s.bs :=
  op_pure fun G w a hI hE => by
    subst hv
    obtain ⟨c, hc, he⟩ := (ev_r hE hx).ptr_inv
    obtain ⟨arr, e, hh, hl, hr, _⟩ := inv_cells hI hb hc
    have hrun := loadCells_at (P := P) hh size (o := k) (by omega)
    refine ⟨.agg (arr.extract k (k + size)), by simp [execOp, ho, he, Instr.loadAt, Instr.sureAddr, loadVar, ht.isAgg, hd, ht.size, hrun], .agg _ _ (by simp; omega) fun j v cv e1 e2 => ?_⟩
    rw [List.getElem?_take] at e1
    split at e1
    · rename_i hj
      rw [List.getElem?_drop] at e1
      rw [Array.getElem?_extract] at e2
      split at e2
      · exact hr (k + j) v cv e1 e2
      · cases e2
    · cases e1

theorem R.eptr_inv {G : Ghost} {xs : List AV} {i k : Nat} {cv : Value} (h : R G (.eptr xs i k) cv) : ∃ sz c o, cv = .pointer (some ⟨c, o + i * sz + k, none⟩) ∧
    (∀ (j : Nat) (x : AV), xs[j]? = some x → x.cells.length = sz) ∧
    (∀ (j : Nat) (x : AV) (q : Nat) v cv, xs[j]? = some x → x.cells[q]? = some v → G.Z c (o + j * sz + q) = some cv → RI G.Z v cv) ∧
    (∀ (j q : Nat), j < xs.length → q < sz → ∃ cv, G.Z c (o + j * sz + q) = some cv) ∧ i < xs.length ∧ k < sz := by
  cases h with
  | imm _ _ h => cases h with | eptr _ _ _ sz c o he hz hd hi ho => exact ⟨sz, c, o, rfl, he, hz, hd, hi, ho⟩

/-- A field of an element, or an element of one cell, is read. -/
theorem op_load_e {P : Program} {o : Oper} {s : St} {t : TypeId} {x : Operand} {size bytes : Nat} {z : Value} {d : TypeDesc} {i k : Nat} {xs : List AV} {u v : AV} (ht : Inf P t size bytes z d) (hd : isAggD d = false)
    (ho : o.op = .load t x) (hx : ev s.env x = some (.eptr xs i k)) (hu : xs[i]? = some u) (hv : u.cells[k]? = some v) : OpT P o s v s.bs :=
  op_pure fun G w a hI hE => by
    obtain ⟨sz, c, q, he, h1, h2, h3, h4, h5⟩ := (ev_r hE hx).eptr_inv
    obtain ⟨cv, hcv⟩ := h3 i k h4 h5
    have hcell := rd_cell (hI.z _ _ _ hcv) (RI.no_code (h2 i u k v cv hu hv hcv))
    exact ⟨cv, by simp [execOp, ho, he, Instr.loadAt, Instr.sureAddr, loadVar, ht.isAgg, hd, hcell], .imm _ _ (h2 i u k v cv hu hv hcv)⟩

/-- A struct that is an element, or a part of one, is read. -/
theorem op_load_agg_e {P : Program} {o : Oper} {s : St} {t : TypeId} {x : Operand} {size bytes : Nat} {z : Value} {d : TypeDesc} {i k : Nat} {xs ds : List AV} {u : AV} (ht : Inf P t size bytes z d) (hd : isAggD d = true)
    (ho : o.op = .load t x) (hx : ev s.env x = some (.eptr xs i k)) (hu : xs[i]? = some u) (hs : k + size ≤ u.cells.length) (hv : (u.cells.drop k).take size = ds) : OpT P o s (.agg ds) s.bs :=
  op_pure fun G w a hI hE => by
    subst hv
    obtain ⟨sz, c, q, he, h1, h2, h3, h4, h5⟩ := (ev_r hE hx).eptr_inv
    have hsz := h1 i u hu
    obtain ⟨f, hf⟩ : ∃ f : Nat → Value, ∀ j, j < size → G.Z c (q + i * sz + k + j) = some (f j) := by
      refine ⟨fun j => (G.Z c (q + i * sz + k + j)).getD undef, fun j hj => ?_⟩
      obtain ⟨cv, hcv⟩ := h3 i (k + j) h4 (by omega)
      rw [← Nat.add_assoc] at hcv
      simp [hcv]
    have hrun := run_loadCells (P := P) w ⟨c, q + i * sz + k, none⟩ size f (fun j hj => by
      have hadd : (⟨c, q + i * sz + k, none⟩ : Addr).add j = ⟨c, q + i * sz + k + j, none⟩ := by unfold Addr.add; split <;> simp_all
      rw [hadd]
      have hj2 : k + j < u.cells.length := by omega
      exact rd_cell (hI.z _ _ _ (hf j hj)) (RI.no_code (h2 i u (k + j) u.cells[k + j] (f j) hu (by simp [hj2]) (by rw [← Nat.add_assoc]; exact hf j hj))))
    refine ⟨.agg ((List.range size).map f).toArray, by simp [execOp, ho, he, Instr.loadAt, Instr.sureAddr, loadVar, ht.isAgg, hd, ht.size, hrun], .imm _ _ (.agg _ _ (by simp; omega) fun j v cv e1 e2 => ?_)⟩
    rw [List.getElem?_take] at e1
    split at e1
    · rename_i hj
      rw [List.getElem?_drop] at e1
      have e3 : cv = f j := by simp [hj] at e2; exact e2.symm
      have hz := hf j hj
      rw [← e3, Nat.add_assoc] at hz
      exact h2 i u (k + j) v cv hu e1 hz
    · cases e1

/-! ### Addresses -/

theorem run_fieldPlace {P : Program} {w : World} {a : Addr} {f : Field} {size bytes : Nat} {z : Value} {d : TypeDesc} (hf : Inf P f.type size bytes z d) (h0 : (size == 0) = false) :
    (fieldPlace a f).run P w = .ok (a.add f.offset) w := by
  have h0' : size ≠ 0 := by simpa using h0
  simp [fieldPlace, hf.size, h0']

theorem addr_add (c o n : Nat) : (⟨c, o, none⟩ : Addr).add n = ⟨c, o + n, none⟩ := by unfold Addr.add; split <;> simp_all

theorem op_faddr {P : Program} {o : Oper} {s : St} {t : TypeId} {x : Operand} {fs : Array Field} {j : Nat} {f : Field} {i k size bytes : Nat} {z : Value} {d : TypeDesc} (ht : P.underlying t = some (.struct fs)) (hj : fs[j]? = some f)
    (hf : Inf P f.type size bytes z d) (h0 : (size == 0) = false) (ho : o.op = .fieldAddr t x j) (hx : ev s.env x = some (.ptr i k)) : OpT P o s (.ptr i (k + f.offset)) s.bs :=
  op_pure fun G w a hI hE => by
    obtain ⟨c, hc, he⟩ := (ev_r hE hx).ptr_inv
    exact ⟨_, by simp [execOp, ho, he, Instr.fieldAt, run_underlying ht, hj, Instr.sureAddr, run_fieldPlace hf h0, addr_add], .ptr i _ c hc⟩

theorem op_faddr_e {P : Program} {o : Oper} {s : St} {t : TypeId} {x : Operand} {fs : Array Field} {j : Nat} {f : Field} {i k size bytes : Nat} {z : Value} {d : TypeDesc} {xs : List AV} {u : AV} (ht : P.underlying t = some (.struct fs)) (hj : fs[j]? = some f)
    (hf : Inf P f.type size bytes z d) (h0 : (size == 0) = false) (ho : o.op = .fieldAddr t x j) (hx : ev s.env x = some (.eptr xs i k)) (hu : xs[i]? = some u) (hk : k + f.offset < u.cells.length) :
    OpT P o s (.eptr xs i (k + f.offset)) s.bs :=
  op_pure fun G w a hI hE => by
    obtain ⟨sz, c, q, he, h1, h2, h3, h4, h5⟩ := (ev_r hE hx).eptr_inv
    have hsz := h1 i u hu
    refine ⟨_, by simp [execOp, ho, he, Instr.fieldAt, run_underlying ht, hj, Instr.sureAddr, run_fieldPlace hf h0, addr_add]; rfl, .imm _ _ ?_⟩
    rw [Nat.add_assoc]
    exact .eptr xs i (k + f.offset) sz c q h1 h2 h3 h4 (by omega)

theorem R.lst_inv {G : Ghost} {ex : Bool} {xs : List AV} {cv : Value} (h : R G (.lst ex xs) cv) : (xs = [] ∧ ∃ b, cv = .slice b 0 0) ∨ ∃ sz c o cap, cv = .slice (some ⟨c, o, none⟩) xs.length cap ∧
    (∀ (j : Nat) (x : AV), xs[j]? = some x → x.cells.length = sz) ∧
    (∀ (j : Nat) (x : AV) (q : Nat) v cv, xs[j]? = some x → x.cells[q]? = some v → G.Z c (o + j * sz + q) = some cv → RI G.Z v cv) ∧
    (∀ (j q : Nat), j < xs.length → q < sz → ∃ cv, G.Z c (o + j * sz + q) = some cv) ∧ xs.length ≤ cap ∧ (ex = true → cap = xs.length) := by
  cases h with
  | imm _ _ h =>
    cases h with
    | nilslice _ b => exact .inl ⟨rfl, b, rfl⟩
    | lst _ _ sz c o cap he hz hd hc hx => exact .inr ⟨sz, c, o, cap, rfl, he, hz, hd, hc, hx⟩

/-- The address of an element of a list that nobody writes. -/
theorem op_iaddr {P : Program} {o : Oper} {s : St} {t e : TypeId} {x y : Operand} {ex : Bool} {xs : List AV} {k : IntKind} {n : Int} {u : AV} {size bytes : Nat} {z : Value} {d : TypeDesc} (ht : P.underlying t = some (.slice e)) (he : Inf P e size bytes z d)
    (ho : o.op = .indexAddr t x y) (hx : ev s.env x = some (.lst ex xs)) (hy : ev s.env y = some (.int k n)) (h0 : 0 ≤ n) (hu : xs[n.toNat]? = some u) (hs : u.cells.length = size) (hs0 : 0 < size) :
    OpT P o s (.eptr xs n.toNat 0) s.bs :=
  op_pure fun G w a hI hE => by
    have hlt := lt_of_get hu
    rcases (ev_r hE hx).lst_inv with ⟨rfl, _⟩ | ⟨sz, c, q, cap, hv, h1, h2, h3, h4, h5⟩
    · simp at hlt
    · have hsz : sz = size := by rw [← hs]; exact (h1 _ u hu).symm
      subst hsz
      have hn : n < (xs.length : Int) := by omega
      exact ⟨_, by simp [execOp, ho, hv, (ev_r hE hy).int_inv, Instr.indexAt, asIntOf, run_underlying ht, h0, hn, he.size, addr_add], .imm _ _ (.eptr xs n.toNat 0 sz c q h1 h2 h3 hlt hs0)⟩

/-! ### len -/

theorem op_len {P : Program} {o : Oper} {s : St} {t e : TypeId} {x : Operand} {ex : Bool} {xs : List AV} (ht : P.underlying t = some (.slice e))
    (ho : o.op = .call { callee := .builtin .len, args := #[x], argTypes := #[t] }) (hx : ev s.env x = some (.lst ex xs)) : OpT P o s (.int .i64 xs.length) s.bs :=
  op_pure fun G w a hI hE => by
    refine ⟨.int .i64 xs.length, ?_, .imm _ _ (.int _ _)⟩
    rcases (ev_r hE hx).lst_inv with ⟨rfl, b0, hv⟩ | ⟨sz, c, q, cap, hv, _⟩ <;>
      simp [execOp, ho, resolve, invoke, builtin, Builtin.len_, run_underlying ht, hv, goInt]

def mx (a b : Int) : Int := if a < b then b else a
def mn (a b : Int) : Int := if b < a then b else a

theorem op_max {P : Program} {o : Oper} {s : St} {x y : Operand} {ts : Array TypeId} {k : IntKind} {a b : Int} (ho : o.op = .call { callee := .builtin .max, args := #[x, y], argTypes := ts })
    (hx : ev s.env x = some (.int k a)) (hy : ev s.env y = some (.int k b)) : OpT P o s (.int k (mx a b)) s.bs :=
  op_pure fun G w _ hI hE => ⟨_, by simp [execOp, ho, resolve, invoke, builtin, Builtin.max_, (ev_r hE hx).int_inv, (ev_r hE hy).int_inv, Builtin.max2, mx], .imm _ _ (.int _ _)⟩
theorem op_min {P : Program} {o : Oper} {s : St} {x y : Operand} {ts : Array TypeId} {k : IntKind} {a b : Int} (ho : o.op = .call { callee := .builtin .min, args := #[x, y], argTypes := ts })
    (hx : ev s.env x = some (.int k a)) (hy : ev s.env y = some (.int k b)) : OpT P o s (.int k (mn a b)) s.bs :=
  op_pure fun G w _ hI hE => ⟨_, by simp [execOp, ho, resolve, invoke, builtin, Builtin.min_, (ev_r hE hx).int_inv, (ev_r hE hy).int_inv, Builtin.min2, mn], .imm _ _ (.int _ _)⟩

end
end Go.Proofs.YtelgmdljcbkniaaDoor.Ai
