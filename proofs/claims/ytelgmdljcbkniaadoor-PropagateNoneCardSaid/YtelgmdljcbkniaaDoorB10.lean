/- An interpreter of values for the model's code, base text 10: structs compared, slices and arrays written out, elements of arrays, results in memory, functions as results. -/
import Derived.Test.YtelgmdljcbkniaaDoorB9
import Derived.Laws.StructEq
import Derived.Great.BuildSlice
namespace Go.Proofs.YtelgmdljcbkniaaDoor.Ai
noncomputable section
open Go

/-! ### structs compared -/

def scEq : AV → AV → Bool
  | .int _ a, .int _ b => a == b
  | .bool a, .bool b => a == b
  | _, _ => false
def scEqs : List AV → List AV → Bool
  | x :: xs, y :: ys => scEq x y && scEqs xs ys
  | _, _ => true

/-- The fields of a flat struct, from a place on: of one cell each, numbers (some) or Bools (none). -/
inductive Flat (P : Program) : Nat → List Field → List AV → List AV → Prop
  | nil (off : Nat) : Flat P off [] [] []
  | int (off : Nat) (f : Field) (fs : List Field) (k : IntKind) (a b : Int) (xs ys : List AV) (hn : (f.name == "_") = false) (ho : f.offset = off) (ht : P.underlying f.type = some (.int k)) (size bytes : Nat) (z : Value)
      (hi : Inf P f.type size bytes z (.int k)) (r : Flat P (off + 1) fs xs ys) : Flat P off (f :: fs) (.int k a :: xs) (.int k b :: ys)
  | bool (off : Nat) (f : Field) (fs : List Field) (a b : Bool) (xs ys : List AV) (hn : (f.name == "_") = false) (ho : f.offset = off) (ht : P.underlying f.type = some .bool) (size bytes : Nat) (z : Value)
      (hi : Inf P f.type size bytes z .bool) (r : Flat P (off + 1) fs xs ys) : Flat P off (f :: fs) (.bool a :: xs) (.bool b :: ys)

theorem run_part_one {P : Program} {w : World} {t : TypeId} {size bytes : Nat} {z : Value} {d : TypeDesc} (ht : Inf P t size bytes z d) (hd : isAggD d = false) {cs : Array Value} {off : Nat} {v : Value} (h : cs[off]? = some v) :
    (part t cs off).run P w = .ok v w := by
  simp [part, ht.isAgg, hd, h]

theorem eqFields_flat {P : Program} {w : World} {G : Ghost} (d : Nat) : ∀ {off : Nat} {fs : List Field} {xs ys : List AV}, Flat P off fs xs ys → ∀ (cx cy : Array Value),
    cx.size = off + xs.length → cy.size = off + ys.length → (∀ (j : Nat) v c, xs[j]? = some v → cx[off + j]? = some c → R G v c) → (∀ (j : Nat) v c, ys[j]? = some v → cy[off + j]? = some c → R G v c) →
    (Op.eqFields (d + 1) cx cy fs).run P w = .ok (scEqs xs ys) w := by
  intro off fs xs ys h
  induction h with
  | nil off => intro cx cy _ _ _ _; simp [Op.eqFields, scEqs]
  | int off f fs k a b xs ys hn ho ht size bytes z hi r ih =>
    intro cx cy h1 h2 h3 h4
    simp only [List.length_cons] at h1 h2
    have ex : cx[off]? = some (.int k a) := by
      have hlt : off < cx.size := by omega
      have := h3 0 _ cx[off] rfl (by simp [hlt])
      rw [Array.getElem?_eq_getElem hlt, this.int_inv]
    have ey : cy[off]? = some (.int k b) := by
      have hlt : off < cy.size := by omega
      have := h4 0 _ cy[off] rfl (by simp [hlt])
      rw [Array.getElem?_eq_getElem hlt, this.int_inv]
    have hn' : f.name ≠ "_" := by simpa using hn
    have ihr := ih cx cy (by omega) (by omega) (fun j v c e1 e2 => h3 (j + 1) v c (by simpa using e1) (by rw [← e2]; congr 1; omega)) (fun j v c e1 e2 => h4 (j + 1) v c (by simpa using e1) (by rw [← e2]; congr 1; omega))
    simp only [Op.eqFields, if_pos hn', Sem.run_bind, run_part_one hi rfl (ho ▸ ex), run_part_one hi rfl (ho ▸ ey), run_equalIn_int w d _ k k a b ht, Result.andThen_ok, scEqs, scEq]
    cases hab : a == b
    · simp
    · simpa using ihr
  | bool off f fs a b xs ys hn ho ht size bytes z hi r ih =>
    intro cx cy h1 h2 h3 h4
    simp only [List.length_cons] at h1 h2
    have ex : cx[off]? = some (.bool a) := by
      have hlt : off < cx.size := by omega
      have := h3 0 _ cx[off] rfl (by simp [hlt])
      rw [Array.getElem?_eq_getElem hlt, this.bool_inv]
    have ey : cy[off]? = some (.bool b) := by
      have hlt : off < cy.size := by omega
      have := h4 0 _ cy[off] rfl (by simp [hlt])
      rw [Array.getElem?_eq_getElem hlt, this.bool_inv]
    have hn' : f.name ≠ "_" := by simpa using hn
    have ihr := ih cx cy (by omega) (by omega) (fun j v c e1 e2 => h3 (j + 1) v c (by simpa using e1) (by rw [← e2]; congr 1; omega)) (fun j v c e1 e2 => h4 (j + 1) v c (by simpa using e1) (by rw [← e2]; congr 1; omega))
    simp only [Op.eqFields, if_pos hn', Sem.run_bind, run_part_one hi rfl (ho ▸ ex), run_part_one hi rfl (ho ▸ ey), run_equalIn_bool' w d _ a b ht, Result.andThen_ok, scEqs, scEq]
    cases hab : a == b
    · simp
    · simpa using ihr

theorem run_equal_flat {P : Program} {w : World} {G : Ghost} {t : TypeId} {fs : Array Field} {xs ys : List AV} (hu : P.underlying t = some (.struct fs)) (hp : P.stoodInHeld t = false) (hf : Flat P 0 fs.toList xs ys) {cx cy : Array Value}
    (h1 : cx.size = xs.length) (h2 : cy.size = ys.length) (h3 : ∀ (j : Nat) v c, xs[j]? = some v → cx[j]? = some c → R G v c) (h4 : ∀ (j : Nat) v c, ys[j]? = some v → cy[j]? = some c → R G v c) :
    (Op.equalIn 10000 t (.agg cx) (.agg cy)).run P w = .ok (scEqs xs ys) w := by
  have hfo : P.fieldsOf t = fs := by simp [Program.fieldsOf, hu]
  rw [run_equalIn_struct (P := P) w 9999 t cx cy (by rw [hfo]; exact hu) hp, hfo]
  exact eqFields_flat (G := G) 9998 hf cx cy (by omega) (by omega) (by simpa using h3) (by simpa using h4)

theorem op_eqs {P : Program} {o : Oper} {s : St} {t t' : TypeId} {fs : Array Field} {x y : Operand} {xs ys : List AV} (hu : P.underlying t = some (.struct fs)) (hp : P.stoodInHeld t = false) (hm : P.eqGuardType P.depth t = false) (hf : Flat P 0 fs.toList xs ys)
    (ho : o.op = .binOp .eql t x y t') (hx : ev s.env x = some (.agg xs)) (hy : ev s.env y = some (.agg ys)) : OpT P o s (.bool (scEqs xs ys)) s.bs :=
  op_pure fun G w a hI hE => by
    obtain ⟨cx, e1, l1, r1⟩ := (ev_r hE hx).agg_inv
    obtain ⟨cy, e2, l2, r2⟩ := (ev_r hE hy).agg_inv
    refine ⟨.bool (scEqs xs ys), ?_, .imm _ _ (.bool _)⟩
    simp only [execOp, ho, e1, e2, Sem.run_bind, run_eqGuard_agg w .eql t x y cx cy hm, Result.andThen_ok, run_eql_struct, run_equal_flat hu hp hf l1 l2 r1 r2, Sem.run_pure]

theorem op_nes {P : Program} {o : Oper} {s : St} {t t' : TypeId} {fs : Array Field} {x y : Operand} {xs ys : List AV} (hu : P.underlying t = some (.struct fs)) (hp : P.stoodInHeld t = false) (hm : P.eqGuardType P.depth t = false) (hf : Flat P 0 fs.toList xs ys)
    (ho : o.op = .binOp .neq t x y t') (hx : ev s.env x = some (.agg xs)) (hy : ev s.env y = some (.agg ys)) : OpT P o s (.bool (!(scEqs xs ys))) s.bs :=
  op_pure fun G w a hI hE => by
    obtain ⟨cx, e1, l1, r1⟩ := (ev_r hE hx).agg_inv
    obtain ⟨cy, e2, l2, r2⟩ := (ev_r hE hy).agg_inv
    refine ⟨.bool (!(scEqs xs ys)), ?_, .imm _ _ (.bool _)⟩
    simp only [execOp, ho, e1, e2, Sem.run_bind, run_eqGuard_agg w .neq t x y cx cy hm, Result.andThen_ok, run_neq_struct, run_equal_flat hu hp hf l1 l2 r1 r2, Sem.run_pure]

/-! ### a slice that is written out -/

theorem RI.cells {Z : ZM} {v : AV} {cv : Value} (h : RI Z v cv) (h1 : v.cells.all AV.one = true) : cv.cells.size = v.cells.length ∧ ∀ (j : Nat) x c, v.cells[j]? = some x → cv.cells[j]? = some c → RI Z x c := by
  by_cases ha : ∃ cs, v = .agg cs
  · obtain ⟨cs, rfl⟩ := ha
    cases h with
    | agg _ vs hl hr => exact ⟨hl, hr⟩
  · have hc : v.cells = [v] := by
      cases v <;> first | rfl | exact absurd ⟨_, rfl⟩ ha
    rw [hc] at h1 ⊢
    have hv : v.one = true := by simpa using h1
    have h2 : cv.cells = #[cv] := by
      cases h <;> first | (simp [AV.one] at hv; done) | rfl
    rw [h2]
    refine ⟨rfl, fun j x c e1 e2 => ?_⟩
    cases j with
    | zero => simp at e1 e2; subst e1 e2; exact h
    | succ j => simp at e1

def szAll (size : Nat) : List AV → Bool
  | [] => true
  | d :: r => Nat.beq d.cells.length size && d.cells.all AV.one && szAll size r
theorem szAll_get {size : Nat} : ∀ {ds : List AV}, szAll size ds = true → ∀ (j : Nat) d, ds[j]? = some d → d.cells.length = size ∧ d.cells.all AV.one = true
  | [], _, j, d, e => by simp at e
  | x :: r, h, j, d, e => by
    simp only [szAll, Bool.and_eq_true] at h
    cases j with
    | zero => simp at e; subst e; exact ⟨Nat.eq_of_beq_eq_true h.1.1, h.1.2⟩
    | succ j => exact szAll_get h.2 j d (by simpa using e)

theorem op_bslice {P : Program} {o : Oper} {s : St} {t e : TypeId} {len : Nat} {ps : List (Nat × Operand)} {avs ds : List AV} {size bytes : Nat} {z : Value} {d : TypeDesc}
    (ht : P.underlying t = some (.slice e)) (he : Inf P e size bytes z d) (ho : o.op = .buildSlice t len ps.toArray) (hps : ps = ((ps.map Prod.snd).zipIdx 0).map fun x => (x.2, x.1)) (hlen : (ps.map Prod.snd).length = len)
    (hs0 : 0 < size) (hl0 : 0 < len) (hsmall : len * size ≤ 16777216) (hv : evs s.env (ps.map Prod.snd) = some avs) (hi : imms s.bs avs = some ds) (hd : szAll size ds = true) : OpT P o s (.lst true ds) s.bs := by
  refine OpT.of (by simp [ho]) ?_
  intro G w a hI hE K Q hK
  generalize ps.map Prod.snd = xs at hps hlen hv
  obtain ⟨ie, hie, hsz, _, hz⟩ := he.info
  obtain ⟨hl1, hr1⟩ := evs_r hE hv
  have hr2 : ∀ (j : Nat) x c, ds[j]? = some x → (xs.map a.eval).toArray[j]? = some c → RI G.Z x c := by
    refine imms_ri hI hi fun j v c e1 e2 => ?_
    simp only [List.getElem?_toArray, List.getElem?_map, Option.map_eq_some_iff] at e2
    obtain ⟨y, hy, rfl⟩ := e2
    exact hr1 j v y e1 hy
  have hld : ds.length = xs.length := (imms_get hi).1.trans hl1
  let cvs := xs.map a.eval
  have hcv : ∀ (j : Nat) x, ds[j]? = some x → ∃ c, cvs[j]? = some c ∧ RI G.Z x c := fun j x e => by
    have hj : j < xs.length := hld ▸ lt_of_get e
    exact ⟨a.eval xs[j], by simp [cvs, hj], hr2 j x _ e (by simp [hj])⟩
  have hcs : ∀ v ∈ cvs, v.cells.size = size := fun v hv => by
    obtain ⟨j, hj, rfl⟩ := List.getElem_of_mem hv
    have hj' : j < ds.length := by simp [cvs] at hj; omega
    obtain ⟨c, hc, hri⟩ := hcv j ds[j] (by simp [hj'])
    obtain ⟨g1, g2⟩ := szAll_get hd j ds[j] (by simp [hj'])
    have : cvs[j] = c := by rw [List.getElem?_eq_getElem hj] at hc; exact Option.some.inj hc
    rw [this, (hri.cells g2).1, g1]
  let cells : Array Value := (cvs.flatMap fun v => v.cells.toList).toArray
  have hcells : ∀ (j q : Nat) (x : AV) y, ds[j]? = some x → x.cells[q]? = some y → ∃ c, cells[j * size + q]? = some c ∧ RI G.Z y c := fun j q x y e1 e2 => by
    obtain ⟨c, hc, hri⟩ := hcv j x e1
    obtain ⟨g1, g2⟩ := szAll_get hd j x e1
    have hq : q < size := g1 ▸ lt_of_get e2
    have hqc : q < c.cells.size := by rw [(hri.cells g2).1, g1]; exact hq
    refine ⟨c.cells[q], ?_, (hri.cells g2).2 q y _ e2 (by simp [hqc])⟩
    have e : cells[j * size + q]? = (cvs.flatMap fun v => v.cells.toList)[j * size + q]? := by simp [cells]
    rw [e, Go.Great.flat_get hs0 cvs hcs (j * size + q)]
    have d1 : (j * size + q) / size = j := by
      rw [Nat.mul_comm, Nat.mul_add_div hs0, Nat.div_eq_of_lt hq, Nat.add_zero]
    have d2 : (j * size + q) % size = q := by
      rw [Nat.mul_comm, Nat.mul_add_mod, Nat.mod_eq_of_lt hq]
    rw [d1, d2, hc]
    simp [hqc]
  have hfill : Instr.fill (fun i => some (i * ie.size, ie.size)) ((Array.range (len * ie.size)).map (z.cells[· % z.cells.size]!)) (ps.toArray.map fun (i, x) => (i, a.eval x)).toList = some cells := by
    rw [hsz]
    have : (ps.toArray.map fun (i, x) => (i, a.eval x)).toList = (cvs.zipIdx 0).map fun x => (x.2, x.1) := by
      rw [hps]
      simp [cvs, List.zipIdx_map, Function.comp_def]
    rw [this]
    exact Go.Great.fill_whole hs0 cvs _ hcs (by simp [cvs, hlen])
  refine wp_buildSlice t e len ps.toArray ho cells ie z ht hie hz (by rw [hsz]; omega) (by rw [hsz]; exact Nat.mul_ne_zero (by omega) (by omega)) hfill ?_
  let w' := w.alloc (.cells cells e)
  let Z' : ZM := fun c o => if c = w.heap.size then cells[o]? else G.Z c o
  have hf : ∀ c, c < w.heap.size → w'.heap[c]? = w.heap[c]? := fun c hc => heap_alloc_old w _ c hc
  have hle : G.Z.le Z' := fun c o v ez => by
    have := z_lt hI ez
    simp only [Z']; rw [if_neg (by omega)]; exact ez
  have hzw : ∀ c o v, Z' c o = some v → rd w' c o = some v := fun c o v ez => by
    simp only [Z'] at ez
    split at ez
    · rename_i hc
      subst hc
      have : w'.heap[w.heap.size]? = some (.cells cells e (0, 0)) := heap_alloc_new w _
      refine rd_cells this ez fun ks vs e0 => ?_
      have hol : o < cells.size := (Array.getElem?_eq_some_iff.1 ez).1
      have hcl : ∀ l : List Value, (∀ v ∈ l, v.cells.size = size) → (l.flatMap fun v => v.cells.toList).length = l.length * size := by
        intro l
        induction l with
        | nil => simp
        | cons a r ih => intro h; simp [ih fun v hv => h v (by simp [hv]), h a (by simp), Nat.succ_mul]; omega
      have hsz' : cells.size = ds.length * size := by
        have := hcl cvs hcs
        simp only [cells, List.size_toArray, this]
        simp [cvs, hld]
      have hq1 : o % size < size := Nat.mod_lt _ hs0
      have hq2 : o / size < ds.length := Nat.div_lt_of_lt_mul (by rw [Nat.mul_comm]; omega)
      have hq0 : o / size * size + o % size = o := by have := Nat.div_add_mod o size; rw [Nat.mul_comm] at this; omega
      obtain ⟨g1, _⟩ := szAll_get hd (o / size) ds[o / size] (by simp [hq2])
      obtain ⟨cv, h1, h2⟩ := hcells (o / size) (o % size) ds[o / size] (ds[o / size].cells[o % size]'(by omega)) (by simp [hq2]) (by simp [g1, hq1])
      rw [hq0, ez] at h1
      exact h2.no_code ks vs ((Option.some.inj h1) ▸ e0)
    · rw [rd_of_frame (hf c (z_lt hI ez))]; exact hI.z c o v ez
  have hnew : ∀ c o v, Z' c o = some v → G.Z c o = some v ∨ w.heap.size ≤ c := fun c o v ez => by
    simp only [Z'] at ez
    split at ez
    · rename_i hc; exact .inr (by omega)
    · exact .inl ez
  have hI' := hI.later (w' := w') (Z' := Z') (by simp [w']) hf hle hnew hzw
  refine hK (.slice (some ⟨w.heap.size, 0, none⟩) len len) w' (G.setZ Z' hle) ⟨.imm _ _ ?_, hI', ⟨fun _ _ h => h, fun _ g h => ⟨g, h, .inl rfl⟩, hle⟩, ⟨rfl, rfl, rfl, by simp [w'], hle, fun c o v ez => ?_, fun c hc _ => hf c hc, fun i c h => .inr ⟨i, h⟩, loop_of_same fun c hc => .inl (hf c hc)⟩⟩
  · have hlen2 : len = ds.length := by omega
    rw [hlen2]
    refine .lst true ds size w.heap.size 0 ds.length (fun j x hx => (szAll_get hd j x hx).1) (fun j x q v cv hx hq hz' => ?_) (fun j q hj hq => ?_) (Nat.le_refl _) (fun _ => rfl)
    · obtain ⟨c, hc, hri⟩ := hcells j q x v hx hq
      simp only [Ghost.setZ, Z', if_true, Nat.zero_add] at hz'
      rw [hc] at hz'
      exact (Option.some.inj hz') ▸ hri.mono hle
    · obtain ⟨g1, _⟩ := szAll_get hd j ds[j] (by simp [hj])
      obtain ⟨c, hc, _⟩ := hcells j q ds[j] (ds[j].cells[q]'(by omega)) (by simp [hj]) (by simp [g1, hq])
      exact ⟨c, by simp only [Ghost.setZ, Z', if_true, Nat.zero_add]; exact hc⟩
  · rcases hnew c o v ez with h | h
    · exact .inl h
    · exact .inr (.inl h)

/-! ### arrays -/

theorem op_iaddr_a {P : Program} {o : Oper} {s : St} {t e : TypeId} {len : Nat} {x y : Operand} {i q : Nat} {k : IntKind} {n : Int} {m : Nat} {size bytes : Nat} {z : Value} {d : TypeDesc} (ht : P.underlying t = some (.array len e)) (he : Inf P e size bytes z d)
    (ho : o.op = .indexAddr t x y) (hx : ev s.env x = some (.ptr i q)) (hy : ev s.env y = some (.int k n)) (hm : n = (m : Int)) (hl : Nat.blt m len = true) : OpT P o s (.ptr i (q + m * size)) s.bs :=
  op_pure fun G w a hI hE => by
    obtain ⟨c, hc, hp⟩ := (ev_r hE hx).ptr_inv
    have hl' : m < len := by simpa [Nat.blt_eq] using hl
    have h0 : (0 : Int) ≤ n := by omega
    have h1 : n < (len : Int) := by omega
    have h2 : n.toNat = m := by omega
    exact ⟨_, by simp [execOp, ho, hp, (ev_r hE hy).int_inv, Instr.indexAt, asIntOf, run_underlying ht, Instr.sureAddr, h0, h1, h2, he.size, addr_add], .ptr i _ c hc⟩

theorem op_iaddr_ae {P : Program} {o : Oper} {s : St} {t e : TypeId} {len : Nat} {x y : Operand} {xs : List AV} {i q : Nat} {k : IntKind} {n : Int} {m : Nat} {u : AV} {size bytes : Nat} {z : Value} {d : TypeDesc} (ht : P.underlying t = some (.array len e)) (he : Inf P e size bytes z d)
    (ho : o.op = .indexAddr t x y) (hx : ev s.env x = some (.eptr xs i q)) (hy : ev s.env y = some (.int k n)) (hm : n = (m : Int)) (hl : Nat.blt m len = true) (hu : xs[i]? = some u) (hq : q + m * size < u.cells.length) : OpT P o s (.eptr xs i (q + m * size)) s.bs :=
  op_pure fun G w a hI hE => by
    obtain ⟨sz, c, q0, hp, g1, g2, g3, g4, g5⟩ := (ev_r hE hx).eptr_inv
    have hl' : m < len := by simpa [Nat.blt_eq] using hl
    have h0 : (0 : Int) ≤ n := by omega
    have h1 : n < (len : Int) := by omega
    have h2 : n.toNat = m := by omega
    have hsz := g1 i u hu
    refine ⟨.pointer (some ⟨c, q0 + i * sz + q + m * size, none⟩), by simp [execOp, ho, hp, (ev_r hE hy).int_inv, Instr.indexAt, asIntOf, run_underlying ht, Instr.sureAddr, h0, h1, h2, he.size, addr_add], .imm _ _ ?_⟩
    rw [Nat.add_assoc (q0 + i * sz) q (m * size)]
    exact .eptr xs i (q + m * size) sz c q0 g1 g2 g3 g4 (by omega)

theorem op_index {P : Program} {o : Oper} {s : St} {t e : TypeId} {len : Nat} {x y : Operand} {cs : List AV} {k : IntKind} {n : Int} {m : Nat} {v : AV} {size bytes : Nat} {z : Value} {d : TypeDesc} (ht : P.underlying t = some (.array len e)) (he : Inf P e size bytes z d) (hd : isAggD d = false)
    (ho : o.op = .index t x y) (hx : ev s.env x = some (.agg cs)) (hy : ev s.env y = some (.int k n)) (hm : n = (m : Int)) (hl : Nat.blt m len = true) (hv : cs[m * size]? = some v) : OpT P o s v s.bs :=
  op_pure fun G w a hI hE => by
    obtain ⟨vs, hp, hl2, hr⟩ := (ev_r hE hx).agg_inv
    have hl' : m < len := by simpa [Nat.blt_eq] using hl
    have h0 : (0 : Int) ≤ n := by omega
    have h1 : n < (len : Int) := by omega
    have h2 : n.toNat = m := by omega
    have hlt : m * size < vs.size := by rw [hl2]; exact lt_of_get hv
    refine ⟨vs[m * size], ?_, hr _ v _ hv (by simp [hlt])⟩
    have := run_part_one (w := w) he hd (cs := vs) (off := m * size) (v := vs[m * size]) (by simp [hlt])
    simp [execOp, ho, hp, (ev_r hE hy).int_inv, Instr.index, asIntOf, run_underlying ht, h0, h1, h2, he.size, this]

theorem op_index_agg {P : Program} {o : Oper} {s : St} {t e : TypeId} {len : Nat} {x y : Operand} {cs ds : List AV} {k : IntKind} {n : Int} {m : Nat} {size bytes : Nat} {z : Value} {d : TypeDesc} (ht : P.underlying t = some (.array len e)) (he : Inf P e size bytes z d) (hd : isAggD d = true)
    (ho : o.op = .index t x y) (hx : ev s.env x = some (.agg cs)) (hy : ev s.env y = some (.int k n)) (hm : n = (m : Int)) (hl : Nat.blt m len = true) (hs : m * size + size ≤ cs.length) (hv : (cs.drop (m * size)).take size = ds) : OpT P o s (.agg ds) s.bs :=
  op_pure fun G w a hI hE => by
    subst hv
    obtain ⟨vs, hp, hl2, hr⟩ := (ev_r hE hx).agg_inv
    have hl' : m < len := by simpa [Nat.blt_eq] using hl
    have h0 : (0 : Int) ≤ n := by omega
    have h1 : n < (len : Int) := by omega
    have h2 : n.toNat = m := by omega
    have hpart : (part e vs (m * size)).run P w = .ok (.agg (vs.extract (m * size) (m * size + size))) w := by simp [part, he.isAgg, hd, he.size]
    refine ⟨.agg (vs.extract (m * size) (m * size + size)), ?_, .agg _ _ ?_ fun j v cv e1 e2 => ?_⟩
    · simp [execOp, ho, hp, (ev_r hE hy).int_inv, Instr.index, asIntOf, run_underlying ht, h0, h1, h2, he.size, hpart]
    · simp; omega
    · rw [List.getElem?_take] at e1
      split at e1
      · rename_i hj
        rw [List.getElem?_drop] at e1
        refine hr _ v cv e1 ?_
        rw [Array.getElem?_extract] at e2
        split at e2
        · exact e2
        · cases e2
      · cases e1

theorem op_build_a {P : Program} {o : Oper} {s : St} {t e : TypeId} {len : Nat} {ps : List (Nat × Operand)} {aps : List (Nat × AV)} {size bytes size' bytes' : Nat} {z z' : Value} {d' : TypeDesc} {zs cs : List AV}
    (ht : Inf P t size bytes z (.array len e)) (he : Inf P e size' bytes' z' d') (hz : ofConst z = some (.agg zs)) (ho : o.op = .build t ps.toArray) (hp : evp s.env ps = some aps)
    (hf : afill (fun (i : Nat) => some (i * size', size')) zs aps = some cs) : OpT P o s (.agg cs) s.bs :=
  op_pure fun G w a hI hE => by
    obtain ⟨hl, hr⟩ := evp_r hE hp
    obtain ⟨vs, rfl, hzl, hzr⟩ := (R.imm (G := G) _ _ (ofConst_ri hz)).agg_inv
    obtain ⟨out, h1, h2, h3⟩ := fill_of aps (ps.map fun p => (p.1, a.eval p.2)) zs cs vs hl hr hzl.symm hzr hf
    refine ⟨.agg out, ?_, .agg cs out h2 h3⟩
    simp only [execOp, ho, Instr.build, Sem.run_bind, ht.zero, Result.andThen_ok, ht.under, he.size, Value.cells, List.map_toArray, h1, Sem.run_pure]

/-! ### results -/


/-! ### the results, out of slots and out of memory -/

inductive ResOk (P : Program) (s : St) : ResultVar → AV → Prop where
  | tmp (t : Nat) (v : AV) (h : s.env.get t = some v) : ResOk P s (.tmp t) v
  | cell (a t i o size bytes : Nat) (z : Value) (d : TypeDesc) (cs : List AV) (v : AV) (ht : Inf P t size bytes z d) (hd : isAggD d = false) (h : s.env.get a = some (.ptr i o)) (hb : s.bs[i]? = some (.cells cs)) (hv : cs[o]? = some v) : ResOk P s (.cell a t) v
  | agg (a t i o size bytes : Nat) (z : Value) (d : TypeDesc) (cs ds : List AV) (ht : Inf P t size bytes z d) (hd : isAggD d = true) (h : s.env.get a = some (.ptr i o)) (hb : s.bs[i]? = some (.cells cs)) (hs : o + size ≤ cs.length)
      (hv : (cs.drop o).take size = ds) : ResOk P s (.cell a t) (.agg ds)

inductive ResAll (P : Program) (s : St) : List ResultVar → List AV → Prop where
  | nil : ResAll P s [] []
  | cons {r : ResultVar} {v : AV} {rs : List ResultVar} {vs : List AV} (h : ResOk P s r v) (t : ResAll P s rs vs) : ResAll P s (r :: rs) (v :: vs)

def resRun (tmps : Array Value) : ResultVar → Sem Value
  | .tmp t => pure (tmps.getD t undef)
  | .cell a t => do loadVar t (← asAddr (tmps.getD a undef))

theorem ResOk.run {P : Program} {s : St} {rv : ResultVar} {v : AV} (h : ResOk P s rv v) {G : Ghost} {w : World} {tmps : Array Value} (hE : EnvR G s.env tmps) (hI : Inv G s.bs w) : ∃ cv, (resRun tmps rv).run P w = .ok cv w ∧ R G v cv := by
  cases h with
  | tmp t v h =>
    obtain ⟨cv, e, r⟩ := hE t v h
    exact ⟨cv, by simp [resRun, e], r⟩
  | cell a t i o size bytes z d cs v ht hd h hb hv =>
    obtain ⟨cv, e, r⟩ := hE a _ h
    obtain ⟨c, hc, rfl⟩ := r.ptr_inv
    obtain ⟨arr, et, hh, hl, hrr, _⟩ := inv_cells hI hb hc
    have hk : o < arr.size := Nat.lt_of_lt_of_le (lt_of_get hv) hl
    have hcell : w.cell? ⟨c, o, none⟩ = some arr[o] := by simp [World.cell?, hh, hk]
    exact ⟨arr[o], by simp [resRun, e, asAddr, loadVar, ht.isAgg, hd, hcell], hrr o v _ hv (by simp [hk])⟩
  | agg a t i o size bytes z d cs ds ht hd h hb hs hv =>
    subst hv
    obtain ⟨cv, e, r⟩ := hE a _ h
    obtain ⟨c, hc, rfl⟩ := r.ptr_inv
    obtain ⟨arr, et, hh, hl, hrr, _⟩ := inv_cells hI hb hc
    have hrun := loadCells_at (P := P) hh size (o := o) (by omega)
    refine ⟨.agg (arr.extract o (o + size)), by simp [resRun, e, asAddr, loadVar, ht.isAgg, hd, ht.size, hrun], .agg _ _ (by simp; omega) fun j v cv e1 e2 => ?_⟩
    rw [List.getElem?_take] at e1
    split at e1
    · rename_i hj
      rw [List.getElem?_drop] at e1
      rw [Array.getElem?_extract] at e2
      split at e2
      · exact hrr (o + j) v cv e1 e2
      · cases e2
    · cases e1

theorem ResAll.run {P : Program} {s : St} {rvs : List ResultVar} {vs : List AV} (h : ResAll P s rvs vs) {G : Ghost} {w : World} {tmps : Array Value} (hE : EnvR G s.env tmps) (hI : Inv G s.bs w) :
    ∃ cvs : List Value, (rvs.mapM (resRun tmps)).run P w = .ok cvs w ∧ cvs.length = vs.length ∧ ∀ (j : Nat) v c, vs[j]? = some v → cvs[j]? = some c → R G v c := by
  induction h with
  | nil => exact ⟨[], by simp, rfl, by simp⟩
  | cons h _ ih =>
    obtain ⟨cv, e1, r1⟩ := h.run hE hI
    obtain ⟨cvs, e2, hl, hr⟩ := ih
    refine ⟨cv :: cvs, by simp [List.mapM_cons, e1, e2], by simp [hl], fun j v c f1 f2 => ?_⟩
    cases j with
    | zero => simp at f1 f2; subst f1 f2; exact r1
    | succ j => exact hr j v c (by simpa using f1) (by simpa using f2)

def one1 : List AV → AV
  | [v] => v
  | vs => .tup vs

theorem results_run {P : Program} {fn : Func} {s : St} {rvs : List ResultVar} {vs : List AV} (hr : fn.results = rvs.toArray) (h : ResAll P s rvs vs) {G : Ghost} {w : World} {tmps : Array Value} (hE : EnvR G s.env tmps) (hI : Inv G s.bs w) :
    ∃ cv, (results fn tmps).run P w = .ok cv w ∧ R G (one1 vs) cv := by
  obtain ⟨cvs, e, hl, hrr⟩ := h.run hE hI
  have e2 : (fn.results.mapM (resRun tmps)).run P w = .ok cvs.toArray w := by
    rw [hr, List.mapM_toArray]
    simp [e]
  have e3 : (results fn tmps).run P w = .ok (if h : cvs.toArray.size = 1 then cvs.toArray[0] else .tuple cvs.toArray) w := by
    show (do let vs ← fn.results.mapM (resRun tmps); pure (if h : vs.size = 1 then vs[0] else .tuple vs) : Sem Value).run P w = _
    rw [Sem.run_bind, e2]
    simp
  refine ⟨_, e3, ?_⟩
  match vs, cvs, hl, hrr with
  | [], [], _, hrr => simp only [one1]; exact rtup (cvs := []) rfl hrr
  | [v], [c], _, hrr => simpa [one1] using hrr 0 v c rfl rfl
  | v :: u :: vs, c :: d :: cvs, hl, hrr => simpa [one1] using rtup (cvs := c :: d :: cvs) hl hrr

theorem retN {P : Program} {fn : Func} {s : St} {rvs : List ResultVar} {vs : List AV} {v : AV} (hr : fn.results = rvs.toArray) (h : ResAll P s rvs vs) (k : Nat) (hs : snap s.bs k (one1 vs) = some v) : RetOk P fn s v :=
  fun _ _ _ hE hI => let ⟨cv, e, r⟩ := results_run hr h hE hI; ⟨cv, one1 vs, k, e, r, hs⟩

end
end Go.Proofs.YtelgmdljcbkniaaDoor.Ai
