/- An interpreter of values for the model's code, base text 17: slices made, grown and cut; lengths; nil. -/
import Derived.Test.YtelgmdljcbkniaaDoorB16
namespace Go.Proofs.YtelgmdljcbkniaaDoor.Ai
noncomputable section
open Go
set_option linter.unusedVariables false

/-! ### a slice that is made -/

theorem op_make {P : Program} {o : Oper} {s : St} {t e : TypeId} {x y : Operand} {kl kc : IntKind} {n : Int} {size bytes : Nat} {z : Value} {d : TypeDesc} {v : AV} {k : Nat} (ht : P.underlying t = some (.slice e)) (he : Inf P e size bytes z d) (hz : ofConst z = some v)
    (h1 : v.cells.all AV.one = true) (hsz : v.cells.length = size) (hs0 : 0 < size) (ho : o.op = .makeSlice t x y) (hx : ev s.env x = some (.int kl n)) (hy : ev s.env y = some (.int kc n)) (h0 : 0 ≤ n) (hb : (bytes : Int) * n ≤ 281474976710656) (hn : n ≤ 9223372036854775807)
    (hk : bat s.bs k = .gone) : OpT P o s (.slc k 0 size n.toNat (some n.toNat)) (bset s.bs k (.rows size (List.replicate n.toNat v))) := by
  refine OpT.of (by simp [ho]) ?_
  intro G w a hI hE K Q hK
  obtain ⟨ie, hie, hsize, hby, hzz⟩ := he.info
  have hr : R G v z := .imm _ _ (ofConst_ri hz)
  obtain ⟨hl, hc, _⟩ := hr.cells h1
  have hrun := run_make (P := P) w t e ie z ht hie hzz kl kc n n h0 (Int.le_refl _) (by rw [hby]; exact hb) hn
  rw [hsize] at hrun
  have hzl : z.cells.size = size := hl.trans hsz
  have hcells : (madeCells z.cells (n.toNat * size)).size = n.toNat * size := size_madeCells _ _
  have hget : ∀ q cv, (madeCells z.cells (n.toNat * size))[q]? = some cv → z.cells[q % size]? = some cv := fun q cv e1 => by
    have hq : q % size < z.cells.size := by rw [hzl]; exact Nat.mod_lt _ hs0
    simp only [madeCells, Array.getElem?_map, Option.map_eq_some_iff] at e1
    obtain ⟨m, hm, rfl⟩ := e1
    have hm' : m = q := by
      have := Array.getElem?_eq_some_iff.1 hm
      obtain ⟨_, h⟩ := this
      simpa using h.symm
    subst hm'
    rw [hzl, getElem!_pos z.cells (m % size) hq]
    simp [hq]
  have hv : ∀ (j : Nat) (x : AV), (List.replicate n.toNat v)[j]? = some x → x.cells.length = size := fun j x hx => by
    rw [List.getElem?_replicate] at hx
    split at hx
    · obtain rfl := Option.some.inj hx; exact hsz
    · cases hx
  obtain ⟨G', hI', hle, hev, hp⟩ := after_cells hI hk (madeCells z.cells (n.toNat * size)) e (flat (List.replicate n.toNat v)) (by rw [flat_len _ size hv, hcells]; simp) fun q u cu e1 e2 => by
    have hql : q < n.toNat * size := by have := lt_of_get e1; rw [flat_len _ size hv] at this; simpa using this
    have hq1 : q % size < size := Nat.mod_lt _ hs0
    have hq2 : q / size < n.toNat := Nat.div_lt_of_lt_mul (by rw [Nat.mul_comm]; exact hql)
    have hq0 : q = q / size * size + q % size := by have := Nat.div_add_mod q size; rw [Nat.mul_comm] at this; omega
    have hx : (List.replicate n.toNat v)[q / size]? = some v := by rw [List.getElem?_replicate, if_pos hq2]
    rw [hq0, flat_get _ size hv _ _ v hx hq1] at e1
    exact hc _ u cu e1 (hget q cu e2)
  have hI'' : Inv G' (bset s.bs k (.rows size (List.replicate n.toNat v))) (w.alloc (.cells (madeCells z.cells (n.toNat * size)) e)) := by
    refine .of_bat (fun i => ?_) hI'.inj hI'.z
    have h := hI'.batOk i
    rw [bat_bset] at h ⊢
    split at h
    · rename_i e0; rw [if_pos e0]
      exact ⟨h, hs0, fun x hx => by obtain ⟨j, hj, rfl⟩ := List.getElem_of_mem hx; exact hv j _ (List.getElem?_eq_getElem hj)⟩
    · rename_i e0; rw [if_neg e0]; exact h
  unfold Oper.wp execOp
  simp only [ho, (ev_r hE hx).int_inv, (ev_r hE hy).int_inv, Sem.run_bind, hrun, Result.andThen_ok]
  refine hK _ _ G' ⟨?_, hI'', hle, hev⟩
  have := R.slc (G := G') k 0 size n.toNat (some n.toNat) w.heap.size n.toNat hp (Nat.le_refl _) (fun m hm => Option.some.inj hm)
  simpa using this

/-! ### append -/

/-- What is appended: its elements. -/
theorem imm_lst {G : Ghost} {bs : List Blk} {w : World} (hI : Inv G bs w) {yv : AV} {cy : Value} {ys : List AV} (h : imm bs yv = some (.lst false ys)) (hr : R G yv cy) : RI G.Z (.lst false ys) cy := imm_ri hI h hr

theorem op_append_g {P : Program} {o : Oper} {s : St} {t e e' : TypeId} {x y : Operand} {size bytes : Nat} {z : Value} {d : TypeDesc} {i n : Nat} {xs ys : List AV} {yv : AV} (ht : P.underlying t = some (.slice e)) (he : Inf P e size bytes z d) (hzs : z.cells.size = size) (hs0 : 0 < size)
    (ho : o.op = .call { callee := .builtin .append, args := #[x, y], argTypes := #[t, t] }) (hx : ev s.env x = some (.gsl i n)) (hb : bat s.bs i = .grow e size xs) (hn : n = xs.length) (hy : ev s.env y = some yv) (hi : imm s.bs yv = some (.lst false ys)) (hsz : Sized size ys)
    (hbound : (xs.length + ys.length) * bytes ≤ 140737488355328) (hmax : xs.length + ys.length ≤ maxLen) : OpT P o s (.gsl i (xs ++ ys).length) (bset s.bs i (.grow e size (xs ++ ys))) := by
  refine OpT.of (by simp [ho]) ?_
  intro G w a hI hE K Q hK
  have hyr := imm_lst hI hi (ev_r hE hy)
  have hB := hI.batOk i
  rw [hb] at hB
  obtain ⟨g, hg, hv⟩ : ∃ g, G.gr i = some g ∧ a.eval x = g.hv := by
    have hxr := ev_r hE hx
    generalize a.eval x = vx at hxr
    cases hxr with
    | imm _ _ h => cases h
    | gsl _ _ b l c h => exact ⟨_, h, rfl⟩
    | stale _ _ g b l c h hlt =>
      have := (hB.2 g h).1
      omega
  obtain ⟨v', w', G', hr, hA⟩ := after_append (P := P) (ty := o.type) ht he hzs hs0 hI hb hg hyr hsz hbound hmax
  rw [List.length_append] at hK
  unfold Oper.wp execOp
  simp only [ho, resolve, invoke, builtin, Sem.run_bind, Sem.run_pure, Result.andThen_ok, List.map_toArray, List.map_cons, List.map_nil, hv, hr]
  exact hK _ _ G' hA

theorem bset_bset : ∀ (bs : List Blk) (k : Nat) (b c : Blk), bset (bset bs k b) k c = bset bs k c
  | [], 0, _, _ => rfl
  | [], k + 1, b, c => by simp only [bset]; rw [bset_bset [] k b c]
  | x :: r, 0, _, _ => rfl
  | x :: r, k + 1, b, c => by simp only [bset]; rw [bset_bset r k b c]

/-- A list that is nil grows: at a free place. -/
theorem op_append_n {P : Program} {o : Oper} {s : St} {t e : TypeId} {x y : Operand} {size bytes : Nat} {z : Value} {d : TypeDesc} {k : Nat} {ys : List AV} {yv : AV} (ht : P.underlying t = some (.slice e)) (he : Inf P e size bytes z d) (hzs : z.cells.size = size) (hs0 : 0 < size)
    (ho : o.op = .call { callee := .builtin .append, args := #[x, y], argTypes := #[t, t] }) (hx : ev s.env x = some .nils) (hk : bat s.bs k = .gone) (hy : ev s.env y = some yv) (hi : imm s.bs yv = some (.lst false ys)) (hsz : Sized size ys)
    (hbound : ys.length * bytes ≤ 140737488355328) (hmax : ys.length ≤ maxLen) : OpT P o s (.gsl k ys.length) (bset s.bs k (.grow e size ys)) := by
  refine OpT.of (by simp [ho]) ?_
  intro G w a hI hE K Q hK
  have hyr := imm_lst hI hi (ev_r hE hy)
  have hv : a.eval x = .slice none 0 0 := by
    have hxr := ev_r hE hx
    generalize a.eval x = vx at hxr
    cases hxr with
    | imm _ _ h => cases h; rfl
  have hg0 := hI.batOk k
  rw [hk] at hg0
  let G1 : Ghost := { G with gr := fun j => if j = k then some ⟨0, .slice none 0 0⟩ else G.gr j }
  have hgr : G1.gr k = some ⟨0, .slice none 0 0⟩ := by simp [G1]
  have hne : ∀ j, j ≠ k → G1.gr j = G.gr j := fun j hj => by simp [G1, hj]
  have hle : G.le G1 := ⟨fun _ _ h => h, fun j g h => ⟨g, by rw [hne j (fun e0 => by rw [e0, hg0.2] at h; cases h)]; exact h, .inl rfl⟩, .refl _⟩
  have hown : ∀ c, ¬ G1.owns k c := fun c hc => by
    rcases hc with hc | ⟨g, h1, h2⟩
    · rw [show G1.cl k = none from hg0.1] at hc; cases hc
    · rw [hgr] at h1; obtain rfl := Option.some.inj h1; simp [Value.ownBlock] at h2
  have hI1 : Inv G1 (bset s.bs k (.grow e size [])) w := hI.turn (G' := G1) (k := k) (.grow e size []) (fun _ _ => rfl) hne hle (fun _ _ _ => rfl) (fun _ _ _ _ _ => rfl) (fun c o v ez => hI.z c o v ez)
    ⟨hg0.1, fun g hg => by
      rw [hgr] at hg
      obtain rfl := Option.some.inj hg
      exact ⟨rfl, hs0, fun j x h => by simp at h, [], World.ownsRow_nil w 0 e size, fun j x q v cv h => by simp at h, fun c hc => by simp [Value.ownBlock] at hc⟩⟩ (fun c hc => absurd hc (hown c))
  obtain ⟨v', w', G', hr, hA⟩ := after_append (P := P) (ty := o.type) ht he hzs hs0 hI1 (xs := []) (by rw [bat_bset, if_pos rfl]) hgr (hyr.mono hle.Z) hsz (by simpa using hbound) (by simpa using hmax)
  have hbb : bset (bset s.bs k (.grow e size [])) k (.grow e size ([] ++ ys)) = bset s.bs k (.grow e size ys) := by
    rw [List.nil_append, bset_bset]
  rw [hbb] at hA
  have hlen : ([] : List AV).length + ys.length = ys.length := by simp
  rw [hlen] at hA
  have hA2 : After G w (.gsl k ys.length) (bset s.bs k (.grow e size ys)) v' w' G' := by
    refine ⟨hA.r, hA.inv, hle.trans hA.le, ⟨hA.ev.os, hA.ev.tape, hA.ev.output, hA.ev.size, hA.ev.Z, fun c o v e1 => ?_, fun c hc hn => hA.ev.frame c hc fun i hi => ?_, fun i c hc => ?_, hA.ev.loop⟩⟩
    · rcases hA.ev.newZ c o v e1 with h | h | ⟨i, h⟩
      · exact .inl h
      · exact .inr (.inl h)
      · by_cases hik : i = k
        · subst hik; exact absurd h (hown c)
        · exact .inr (.inr ⟨i, by unfold Ghost.owns at h ⊢; rw [hne i hik] at h; exact h⟩)
    · by_cases hik : i = k
      · subst hik; exact hown c hi
      · exact hn i (by unfold Ghost.owns at hi ⊢; rw [hne i hik] at hi; exact hi)
    · rcases hA.ev.own i c hc with h | ⟨j, h⟩
      · exact .inl h
      · by_cases hjk : j = k
        · subst hjk; exact absurd h (hown c)
        · exact .inr ⟨j, by unfold Ghost.owns at h ⊢; rw [hne j hjk] at h; exact h⟩
  unfold Oper.wp execOp
  simp only [ho, resolve, invoke, builtin, Sem.run_bind, Sem.run_pure, Result.andThen_ok, List.map_toArray, List.map_cons, List.map_nil, hv]
  rw [show (Builtin.append_ #[t, t] o.type #[.slice none 0 0, a.eval y]).run P w = .ok v' w' from hr]
  exact hK _ _ G' hA2

/-! ### lengths -/

theorem op_len_g {P : Program} {o : Oper} {s : St} {t e e' : TypeId} {x : Operand} {i n sz : Nat} {xs : List AV} (ht : P.underlying t = some (.slice e))
    (ho : o.op = .call { callee := .builtin .len, args := #[x], argTypes := #[t] }) (hx : ev s.env x = some (.gsl i n)) (hb : bat s.bs i = .grow e' sz xs) (hn : n = xs.length) : OpT P o s (.int .i64 n) s.bs :=
  op_pure fun G w a hI hE => by
    refine ⟨.int .i64 n, ?_, .imm _ _ (.int _ _)⟩
    subst hn
    rcases ((ev_r hE hx).gsl_at hI hb rfl).lst_inv with ⟨rfl, b0, hv⟩ | ⟨sz, c, q, cap, hv, _⟩ <;>
      simp [execOp, ho, resolve, invoke, builtin, Builtin.len_, run_underlying ht, hv, goInt]

theorem op_len_s {P : Program} {o : Oper} {s : St} {t e : TypeId} {x : Operand} {i q sz n : Nat} {cap : Option Nat} (ht : P.underlying t = some (.slice e))
    (ho : o.op = .call { callee := .builtin .len, args := #[x], argTypes := #[t] }) (hx : ev s.env x = some (.slc i q sz n cap)) : OpT P o s (.int .i64 n) s.bs :=
  op_pure fun G w a hI hE => by
    obtain ⟨c, ccap, hc, hl, _, hv⟩ := (ev_r hE hx).slc_inv
    exact ⟨.int .i64 n, by simp [execOp, ho, resolve, invoke, builtin, Builtin.len_, run_underlying ht, hv, goInt], .imm _ _ (.int _ _)⟩

theorem op_len_n {P : Program} {o : Oper} {s : St} {t e : TypeId} {x : Operand} (ht : P.underlying t = some (.slice e))
    (ho : o.op = .call { callee := .builtin .len, args := #[x], argTypes := #[t] }) (hx : ev s.env x = some .nils) : OpT P o s (.int .i64 0) s.bs :=
  op_pure fun G w a hI hE => by
    have hv : a.eval x = .slice none 0 0 := by
      have hxr := ev_r hE hx
      generalize a.eval x = vx at hxr
      cases hxr with | imm _ _ h => cases h; rfl
    exact ⟨.int .i64 0, by simp [execOp, ho, resolve, invoke, builtin, Builtin.len_, run_underlying ht, hv, goInt], .imm _ _ (.int _ _)⟩

/-! ### nil -/

inductive PtrV : AV → Bool → Prop where
  | nilp : PtrV .nilp true
  | ptr (i o : Nat) : PtrV (.ptr i o) false
  | rptr (i j z o : Nat) : PtrV (.rptr i j z o) false
  | eptr (xs : List AV) (i o : Nat) : PtrV (.eptr xs i o) false

theorem PtrV.val {G : Ghost} {v : AV} {b : Bool} {cv : Value} (h : PtrV v b) (hr : R G v cv) : ∃ p, cv = .pointer p ∧ p.isNone = b := by
  cases h with
  | nilp => cases hr with | imm _ _ h => cases h; exact ⟨none, rfl, rfl⟩
  | ptr => obtain ⟨c, _, rfl⟩ := hr.ptr_inv; exact ⟨_, rfl, rfl⟩
  | rptr => obtain ⟨c, _, rfl⟩ := hr.rptr_inv; exact ⟨_, rfl, rfl⟩
  | eptr => obtain ⟨sz, c, q, rfl, _⟩ := hr.eptr_inv; exact ⟨_, rfl, rfl⟩

theorem run_eqIn_nil {P : Program} {w : World} {t e : TypeId} (hu : P.underlying t = some (.pointer e)) (p : Option Addr) (d : Nat) : (Op.equalIn (d + 1) t (.pointer p) (.pointer none)).run P w = .ok p.isNone w := by
  cases p <;> simp [Op.equalIn, run_underlying hu]
theorem run_eq_nil {P : Program} {w : World} {t e : TypeId} (hu : P.underlying t = some (.pointer e)) (p : Option Addr) : (Op.equal t (.pointer p) (.pointer none)).run P w = .ok p.isNone w := run_eqIn_nil hu p 9999

theorem op_eqnil {P : Program} {o : Oper} {s : St} {t e t' : TypeId} {x y : Operand} {v : AV} {b : Bool} (hu : P.underlying t = some (.pointer e)) (ho : o.op = .binOp .eql t x y t')
    (hx : ev s.env x = some v) (hv : PtrV v b) (hy : ev s.env y = some .nilp) : OpT P o s (.bool b) s.bs :=
  op_pure fun G w a _ hE => by
    obtain ⟨p, h1, h2⟩ := hv.val (ev_r hE hx)
    obtain ⟨p2, h3, h4⟩ := PtrV.nilp.val (ev_r hE hy)
    obtain rfl : p2 = none := by cases p2 with | none => rfl | some _ => cases h4
    have hb : (binOp .eql t (.pointer p) (.pointer none)).run P w = .ok (.bool b) w := by
      show (do pure (Value.bool (← Op.equal t (.pointer p) (.pointer none))) : Sem Value).run P w = _
      rw [Sem.run_bind, run_eq_nil hu, h2]; rfl
    exact ⟨.bool b, by simp only [execOp, ho, h1, h3, eqGuard, Sem.run_bind, Sem.run_pure, ite_self, Result.andThen_ok, hb], .imm _ _ (.bool _)⟩

theorem op_nenil {P : Program} {o : Oper} {s : St} {t e t' : TypeId} {x y : Operand} {v : AV} {b : Bool} (hu : P.underlying t = some (.pointer e)) (ho : o.op = .binOp .neq t x y t')
    (hx : ev s.env x = some v) (hv : PtrV v b) (hy : ev s.env y = some .nilp) : OpT P o s (.bool (!b)) s.bs :=
  op_pure fun G w a _ hE => by
    obtain ⟨p, h1, h2⟩ := hv.val (ev_r hE hx)
    obtain ⟨p2, h3, h4⟩ := PtrV.nilp.val (ev_r hE hy)
    obtain rfl : p2 = none := by cases p2 with | none => rfl | some _ => cases h4
    have hb : (binOp .neq t (.pointer p) (.pointer none)).run P w = .ok (.bool (!b)) w := by
      show (do pure (Value.bool (!(← Op.equal t (.pointer p) (.pointer none)))) : Sem Value).run P w = _
      rw [Sem.run_bind, run_eq_nil hu, h2]; rfl
    exact ⟨.bool (!b), by simp only [execOp, ho, h1, h3, eqGuard, Sem.run_bind, Sem.run_pure, ite_self, Result.andThen_ok, hb], .imm _ _ (.bool _)⟩

theorem op_nilcheck {P : Program} {o : Oper} {s : St} {x : Operand} {v : AV} (ho : o.op = .nilCheck x) (hx : ev s.env x = some v) (hv : PtrV v false) : OpT P o s v s.bs :=
  op_pure fun G w a _ hE => by
    obtain ⟨p, h1, h2⟩ := hv.val (ev_r hE hx)
    obtain ⟨q, rfl⟩ : ∃ q, p = some q := by cases p with | none => cases h2 | some q => exact ⟨q, rfl⟩
    exact ⟨.pointer (some q), by simp [execOp, ho, h1], h1 ▸ ev_r hE hx⟩

/-! ### maps that nobody writes -/

theorem op_lookup_i {P : Program} {o : Oper} {s : St} {t kt et : TypeId} {kk : IntKind} {x y : Operand} {α : Type} {e : α → AV} {l : List (Int × α)} {n : Int} {z0 : α} {size bytes : Nat} {z : Value} {d : TypeDesc} (ok : Bool) (ht : P.underlying t = some (.map kt et)) (hkt : P.underlying kt = some (.int kk))
    (he : Inf P et size bytes z d) (hz : ofConst z = some (e z0)) (ho : o.op = .lookup t x y ok) (hx : ev s.env x = some (.imap (l.map fun p => .int kk p.1) (l.map fun p => e p.2))) (hy : ev s.env y = some (.int kk n)) :
    OpT P o s (if ok then .tup [e ((mget l n).getD z0), .bool (mget l n).isSome] else e ((mget l n).getD z0)) s.bs :=
  op_pure fun G w a hI hE => by
    obtain ⟨c, cks, cvs, hxe, hzc, h1, h2, hk, hv⟩ : ∃ c cks cvs, a.eval x = .map (some c) ∧ G.Z c 0 = some (mapCode cks cvs) ∧ cks.length = l.length ∧ cvs.length = l.length ∧
        (∀ (j : Nat) p ck, l[j]? = some p → cks[j]? = some ck → RI G.Z (.int kk p.1) ck) ∧ (∀ (j : Nat) p cv, l[j]? = some p → cvs[j]? = some cv → RI G.Z (e p.2) cv) := by
      have hxr := ev_r hE hx
      generalize a.eval x = vx at hxr
      cases hxr with
      | imm _ _ h =>
        cases h with
        | imap _ _ c cks cvs hz h1 h2 h3 hk hv =>
          exact ⟨c, cks, cvs, rfl, hz, by simpa using h1, by simpa using h2, fun j p ck e1 e2 => hk j _ ck (by rw [List.getElem?_map, e1]; rfl) e2, fun j p cv e1 e2 => hv j _ cv (by rw [List.getElem?_map, e1]; rfl) e2⟩
    have hrd := hI.z c 0 _ hzc
    obtain ⟨ents, clock, hh, e1, e2⟩ := rd_map hrd
    subst e1 e2
    have hl : ents.size = (l.map fun p => ((.int kk p.1, e p.2) : AV × AV)).length := by simpa using h1
    obtain ⟨cv, h1', h2'⟩ := run_lookup_int (G := G) (n := n) ht hkt he hz hh hl (fun j q ce f1 f2 => by
      rw [List.getElem?_map, Option.map_eq_some_iff] at f1
      obtain ⟨p, f1, rfl⟩ := f1
      exact ⟨hk j p ce.key f1 (by simp [f2]), .imm _ _ (hv j p ce.val f1 (by simp [f2]))⟩) ok
    cases ok with
    | false => exact ⟨cv, by simp [execOp, ho, hxe, (ev_r hE hy).int_inv, h1'], h2'⟩
    | true =>
      refine ⟨.tuple #[cv, .bool (mget l n).isSome], by simp [execOp, ho, hxe, (ev_r hE hy).int_inv, h1'], rtup (cvs := [cv, .bool (mget l n).isSome]) rfl fun j v c f1 f2 => ?_⟩
      match j, f1, f2 with
      | 0, f1, f2 => simp at f1 f2; subst f1 f2; exact h2'
      | 1, f1, f2 => simp at f1 f2; subst f1 f2; exact .imm _ _ (.bool _)
      | j + 2, f1, f2 => simp at f1

end
end Go.Proofs.YtelgmdljcbkniaaDoor.Ai
