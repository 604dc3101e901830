/- An interpreter of values for the model's code, base text 31: makers and builtins as a function that reckons them; the dispatcher. -/
import Derived.Test.YtelgmdljcbkniaaDoorB30
namespace Go.Proofs.YtelgmdljcbkniaaDoor.Ai
noncomputable section
open Go
set_option linter.unusedVariables false

theorem op_len_own {P : Program} {o : Oper} {s : St} {t e e' : TypeId} {x : Operand} {i n sz : Nat} {xs : List AV} (ht : P.underlying t = some (.slice e))
    (ho : o.op = .call { callee := .builtin .len, args := #[x], argTypes := #[t] }) (hx : ev s.env x = some (.gsl i n)) (hb : bat s.bs i = .own e' sz xs) (hn : n = xs.length) : OpT P o s (.int .i64 n) s.bs :=
  op_pure fun G w a hI hE => by
    obtain ⟨g, hg, hgn, hv⟩ := (ev_r hE hx).gsl_own hI hb hn
    have hB := hI.batOk i
    rw [hb] at hB
    obtain ⟨_, _, _, cs, hown, _⟩ := hB.2 g hg
    refine ⟨.int .i64 n, ?_, .imm _ _ (.int _ _)⟩
    subst hn
    rcases hown.2 with ⟨hv0, h0⟩ | ⟨g1, cap', cur, hv0, _⟩
    · simp [execOp, ho, resolve, invoke, builtin, Builtin.len_, run_underlying ht, hv, hv0, goInt, h0]
    · simp [execOp, ho, resolve, invoke, builtin, Builtin.len_, run_underlying ht, hv, hv0, goInt]

theorem op_len_os {P : Program} {o : Oper} {s : St} {t e e' : TypeId} {x : Operand} {i n q z len sz : Nat} {cap : Option Nat} {xs : List AV} (ht : P.underlying t = some (.slice e))
    (ho : o.op = .call { callee := .builtin .len, args := #[x], argTypes := #[t] }) (hx : ev s.env x = some (.oslc i n q z len cap)) (hb : bat s.bs i = .own e' sz xs) (hn : n = xs.length) : OpT P o s (.int .i64 len) s.bs :=
  op_pure fun G w a hI hE => by
    obtain ⟨c, l, lcap, ccap, hg, hl, _, hv⟩ := (ev_r hE hx).oslc_inv hI hb hn
    exact ⟨.int .i64 len, by simp [execOp, ho, resolve, invoke, builtin, Builtin.len_, run_underlying ht, hv, goInt], .imm _ _ (.int _ _)⟩

/-- A slice that is made with room for more. -/
theorem op_make_o {P : Program} {o : Oper} {s : St} {t e : TypeId} {x y : Operand} {kl kc : IntKind} {n c : Int} {size bytes : Nat} {z : Value} {d : TypeDesc} {v : AV} {k : Nat} (ht : P.underlying t = some (.slice e)) (he : Inf P e size bytes z d) (hz : ofConst z = some v)
    (h1 : v.cells.all AV.one = true) (hsz : v.cells.length = size) (hs0 : 0 < size) (ho : o.op = .makeSlice t x y) (hx : ev s.env x = some (.int kl n)) (hy : ev s.env y = some (.int kc c)) (h0 : 0 ≤ n) (hnc : n ≤ c) (hb : (bytes : Int) * c ≤ 281474976710656) (hn : c ≤ 9223372036854775807) (hcm : c.toNat ≤ maxLen)
    (hk : bat s.bs k = .gone) : OpT P o s (.gsl k n.toNat) (bset s.bs k (.own e size (List.replicate n.toNat v))) := by
  refine OpT.of (by simp [ho]) ?_
  intro G w a hI hE K Q hK
  obtain ⟨ie, hie, hsize, hby, hzz⟩ := he.info
  have hr : R G v z := .imm _ _ (ofConst_ri hz)
  obtain ⟨hl, hc, _⟩ := hr.cells h1
  have hrun := run_make (P := P) w t e ie z ht hie hzz kl kc n c h0 hnc (by rw [hby]; exact hb) hn
  rw [hsize] at hrun
  have hzl : z.cells.size = size := hl.trans hsz
  have hcells : (madeCells z.cells (c.toNat * size)).size = c.toNat * size := size_madeCells _ _
  have hget : ∀ q cv, (madeCells z.cells (c.toNat * size))[q]? = some cv → z.cells[q % size]? = some cv := fun q cv e1 => by
    have hq : q % size < z.cells.size := by rw [hzl]; exact Nat.mod_lt _ hs0
    simp only [madeCells, Array.getElem?_map, Option.map_eq_some_iff] at e1
    obtain ⟨m, hm, rfl⟩ := e1
    have hm' : m = q := by
      have := Array.getElem?_eq_some_iff.1 hm
      obtain ⟨_, h⟩ := this
      simpa using h.symm
    subst hm'
    rw [hzl, getElem!_pos z.cells (m % size) hq]
    simp [hq]
  have hv : ∀ (j : Nat) (x : AV), (List.replicate n.toNat v)[j]? = some x → x.cells.length = size := fun j x hx => by
    rw [List.getElem?_replicate] at hx
    split at hx
    · obtain rfl := Option.some.inj hx; exact hsz
    · cases hx
  have hnl : n.toNat * size ≤ c.toNat * size := Nat.mul_le_mul_right _ (by omega)
  have hg0 := hI.batOk k
  rw [hk] at hg0
  have hlr : (List.replicate n.toNat v).length = n.toNat := List.length_replicate
  have hown : (w.alloc (.cells (madeCells z.cells (c.toNat * size)) e)).ownsRow 0 e size (.slice (some ⟨w.heap.size, 0, none⟩) (List.replicate n.toNat v).length c.toNat) (List.replicate n.toNat v).length ((madeCells z.cells (c.toNat * size)).toList.take (n.toNat * size)) := by
    rw [hlr]
    exact ⟨by rw [List.length_take, Array.length_toList, hcells]; omega, .inr ⟨w.heap.size, c.toNat, _, rfl, Nat.zero_le _, heap_alloc_new w _, by omega, hcm, hcells, rfl⟩⟩
  obtain ⟨G', hA⟩ := own_turn hI (i := k) (xs := List.replicate n.toNat v) hg0.1 (fun g hg => by rw [hg0.2] at hg; cases hg) hs0 hv hown (fun j x q u cv e1 e2 e3 => by
      have hq : q < size := hv j x e1 ▸ lt_of_get e2
      rw [List.getElem?_replicate] at e1
      split at e1
      · obtain rfl := Option.some.inj e1
        rw [List.getElem?_take] at e3
        split at e3
        · have := hget (j * size + q) cv (by simpa using e3)
          rw [Nat.mul_comm, Nat.mul_add_mod, Nat.mod_eq_of_lt hq] at this
          exact hc q u cv e2 this
        · cases e3
      · cases e1)
    (fun k => by
      cases hz : G.Z w.heap.size k with
      | none => rfl
      | some v => have := hI.z_lt hz; omega) (.inl (Nat.le_refl _)) (fun rec e0 => by have := (Array.getElem?_eq_some_iff.1 e0).1; omega) rfl rfl rfl (by simp) (fun c hc _ => heap_alloc_old w _ c hc)
  rw [hlr] at hA
  unfold Oper.wp execOp
  simp only [ho, (ev_r hE hx).int_inv, (ev_r hE hy).int_inv, Sem.run_bind, hrun, Result.andThen_ok]
  exact hK _ _ G' hA

/-- Whether a slice is nil, where that is known. -/
def snil (look : Nat → Blk) : AV → Option Bool
  | .nils => some true
  | .lst _ (_ :: _) => some false
  | .slc .. => some false
  | .gsl i n => match look i with
    | .own _ _ xs => match Nat.beq n xs.length && Nat.blt 0 n with
      | true => some false
      | false => none
    | .grow _ _ xs => match Nat.beq n xs.length && Nat.blt 0 n with
      | true => some false
      | false => none
    | _ => none
  | .oslc i n _ _ _ _ => match look i with
    | .own _ _ xs => match Nat.beq n xs.length with
      | true => some false
      | false => none
    | _ => none
  | _ => none

theorem snil_ok {G : Ghost} {bs : List Blk} {w : World} (hI : Inv G bs w) {v : AV} {b : Bool} {cv : Value} (h : snil (bat bs) v = some b) (hr : R G v cv) : ∃ a n c, cv = .slice a n c ∧ a.isNone = b := by
  have lst : ∀ {ex : Bool} {x : AV} {r : List AV}, R G (.lst ex (x :: r)) cv → ∃ a n c, cv = .slice a n c ∧ a.isNone = false := fun hr => by
    rcases hr.lst_inv with ⟨h, _⟩ | ⟨sz, c, o, cap, hv, _⟩
    · cases h
    · exact ⟨_, _, _, hv, rfl⟩
  unfold snil at h
  split at h
  · obtain rfl := Option.some.inj h
    cases hr with | imm _ _ h => cases h; exact ⟨_, _, _, rfl, rfl⟩
  · obtain rfl := Option.some.inj h; exact lst hr
  · obtain rfl := Option.some.inj h
    obtain ⟨c, ccap, _, _, _, hv⟩ := hr.slc_inv
    exact ⟨_, _, _, hv, rfl⟩
  · rename_i i n
    split at h
    · rename_i e sz xs hb
      split at h
      · rename_i hc
        simp only [Bool.and_eq_true] at hc
        obtain rfl := Option.some.inj h
        have hn := Nat.eq_of_beq_eq_true hc.1
        have h0 : 0 < n := by simpa [Nat.blt_eq] using hc.2
        obtain ⟨g, hg, hgn, hv⟩ := hr.gsl_own hI hb hn
        have hB := hI.batOk i
        rw [hb] at hB
        obtain ⟨_, _, _, cs, hown, _⟩ := hB.2 g hg
        rcases hown.2 with ⟨hv0, h00⟩ | ⟨g1, cap', cur, hv0, _⟩
        · omega
        · exact ⟨_, _, _, hv.trans hv0, rfl⟩
      · cases h
    · rename_i e sz xs hb
      split at h
      · rename_i hc
        simp only [Bool.and_eq_true] at hc
        obtain rfl := Option.some.inj h
        have hn := Nat.eq_of_beq_eq_true hc.1
        have h0 : 0 < n := by simpa [Nat.blt_eq] using hc.2
        have hl := hr.gsl_at hI hb hn
        cases xs with
        | nil => simp at hn; omega
        | cons x r => exact lst hl
      · cases h
    · cases h
  · rename_i i n q z l cp
    split at h
    · rename_i e sz xs hb
      split at h
      · rename_i hc
        obtain rfl := Option.some.inj h
        obtain ⟨c, l, lcap, ccap, hg, hl, _, hv⟩ := hr.oslc_inv hI hb (Nat.eq_of_beq_eq_true hc)
        exact ⟨_, _, _, hv, rfl⟩
      · cases h
    · cases h
  · cases h

theorem run_eqIn_snil {P : Program} {w : World} {t e : TypeId} (hu : P.underlying t = some (.slice e)) (p : Option Addr) (n c d : Nat) : (Op.equalIn (d + 1) t (.slice p n c) (.slice none 0 0)).run P w = .ok p.isNone w := by
  cases p <;> simp [Op.equalIn, run_underlying hu]
theorem run_eq_snil {P : Program} {w : World} {t e : TypeId} (hu : P.underlying t = some (.slice e)) (p : Option Addr) (n c : Nat) : (Op.equal t (.slice p n c) (.slice none 0 0)).run P w = .ok p.isNone w := run_eqIn_snil hu p n c 9999

theorem op_sneq {P : Program} {o : Oper} {s : St} {t e t' : TypeId} {x y : Operand} {v : AV} {b : Bool} (hu : P.underlying t = some (.slice e)) (ho : o.op = .binOp .neq t x y t')
    (hx : ev s.env x = some v) (hv : snil (bat s.bs) v = some b) (hy : ev s.env y = some .nils) : OpT P o s (.bool (!b)) s.bs :=
  op_pure fun G w a hI hE => by
    obtain ⟨p, n, c, h1, h2⟩ := snil_ok hI hv (ev_r hE hx)
    have h3 : a.eval y = .slice none 0 0 := by
      have hyr := ev_r hE hy
      generalize a.eval y = vy at hyr
      cases hyr with | imm _ _ h => cases h; rfl
    have hb : (binOp .neq t (.slice p n c) (.slice none 0 0)).run P w = .ok (.bool (!b)) w := by
      show (do pure (Value.bool (!(← Op.equal t (.slice p n c) (.slice none 0 0)))) : Sem Value).run P w = _
      rw [Sem.run_bind, run_eq_snil hu, h2]; rfl
    exact ⟨.bool (!b), by simp only [execOp, ho, h1, h3, eqGuard, Sem.run_bind, Sem.run_pure, ite_self, Result.andThen_ok, hb], .imm _ _ (.bool _)⟩
theorem op_seq {P : Program} {o : Oper} {s : St} {t e t' : TypeId} {x y : Operand} {v : AV} {b : Bool} (hu : P.underlying t = some (.slice e)) (ho : o.op = .binOp .eql t x y t')
    (hx : ev s.env x = some v) (hv : snil (bat s.bs) v = some b) (hy : ev s.env y = some .nils) : OpT P o s (.bool b) s.bs :=
  op_pure fun G w a hI hE => by
    obtain ⟨p, n, c, h1, h2⟩ := snil_ok hI hv (ev_r hE hx)
    have h3 : a.eval y = .slice none 0 0 := by
      have hyr := ev_r hE hy
      generalize a.eval y = vy at hyr
      cases hyr with | imm _ _ h => cases h; rfl
    have hb : (binOp .eql t (.slice p n c) (.slice none 0 0)).run P w = .ok (.bool b) w := by
      show (do pure (Value.bool (← Op.equal t (.slice p n c) (.slice none 0 0))) : Sem Value).run P w = _
      rw [Sem.run_bind, run_eq_snil hu, h2]; rfl
    exact ⟨.bool b, by simp only [execOp, ho, h1, h3, eqGuard, Sem.run_bind, Sem.run_pure, ite_self, Result.andThen_ok, hb], .imm _ _ (.bool _)⟩

/-- An empty slice literal. -/
theorem op_bslice0 {P : Program} {o : Oper} {s : St} {t e : TypeId} {size bytes : Nat} {z : Value} {d : TypeDesc} (ht : P.underlying t = some (.slice e)) (he : Inf P e size bytes z d) (ho : o.op = .buildSlice t 0 #[]) : OpT P o s (.lst true []) s.bs := by
  refine OpT.of (by simp [ho]) ?_
  intro G w a hI hE K Q hK
  have hf : ∀ c, c < w.heap.size → (w.alloc (.cells #[] e)).heap[c]? = w.heap[c]? := fun c hc => heap_alloc_old w _ c hc
  have hI' : Inv (G.setZ G.Z (.refl _)) s.bs (w.alloc (.cells #[] e)) := hI.later (by simp) hf (.refl _) (fun _ _ _ e => .inl e) fun c o v ez => by rw [rd_of_frame (hf c (hI.z_lt ez))]; exact hI.z c o v ez
  unfold Oper.wp
  have : (execOp a.eval o).run P w = .ok (.value (.slice (some ⟨w.heap.size, 0, none⟩) 0 0)) (w.alloc (.cells #[] e)) := by
    simp [execOp, ho, Instr.buildSlice, run_underlying ht, he.size, Instr.fill, newRow]
    have e0 : (Array.range 0) = #[] := by simp [Array.range]
    rw [e0, Array.map_empty]
  rw [this]
  exact hK _ _ G ⟨.imm _ _ (.nilslice true _), hI', .refl _, ⟨rfl, rfl, rfl, by simp, .refl _, fun _ _ _ e => .inl e, fun c hc _ => hf c hc, fun i c e => .inr ⟨i, e⟩, loop_of_same fun c hc => .inl (hf c hc)⟩⟩

section
variable {X : Cx} {o : Oper} {env : Env} {bs : List Blk}

/-- The block that a slice lies in. -/
def epre (look : Nat → Blk) : AV → List (Nat × Blk)
  | .gsl i _ => [(i, look i)]
  | .slc i _ _ _ _ => [(i, look i)]
  | .oslc i _ _ _ _ _ => [(i, look i)]
  | _ => []
theorem elems_congr {l l0 : Nat → Blk} {v : AV} (h : ∀ k b, (k, b) ∈ epre l v → l0 k = b) : elems l0 v = elems l v := by
  cases v with
  | gsl i n => have := h i (l i) (by simp [epre]); simp only [elems, this]
  | slc i a b c d => have := h i (l i) (by simp [epre]); simp only [elems, this]
  | oslc i a b c d e => have := h i (l i) (by simp [epre]); simp only [elems, this]
  | lst ex xs => cases ex <;> rfl
  | _ => rfl
theorem cut_congr {l l0 : Nat → Blk} {v : AV} (h : ∀ k b, (k, b) ∈ epre l v → l0 k = b) (xs : List AV) (cap : Option Nat) (a b : Nat) (mo : Option Nat) : cutAV l0 v xs cap a b mo = cutAV l v xs cap a b mo := by
  cases v with
  | gsl i n => have := h i (l i) (by simp [epre]); simp only [cutAV, this]
  | _ => rfl
theorem has_epre {bs : List Blk} {v : AV} : Has bs (epre (bat bs) v) := by
  cases v <;> simp [epre, Has]

def xmove (a : Option AV) : Option Ef := a.map fun v => ⟨v, [], []⟩
theorem xmove_ok {x : Operand} {e : Ef} (ho : o.op = .move x ∨ o.op = .assign x) (h : xmove (ev env x) = some e) : Sd X.P o env bs e := by
  unfold xmove at h
  rw [Option.map_eq_some_iff] at h
  obtain ⟨v, hv, rfl⟩ := h
  rcases ho with ho | ho
  · exact .q fun env' bs0 ha => op_move ho ((ha x (by simp [ho, Op.operands])).trans hv)
  · exact .q fun env' bs0 ha => op_assign ho ((ha x (by simp [ho, Op.operands])).trans hv)

def xalloc (X : Cx) (t nb : Nat) : Option Ef := (X.ti t).map fun i => ⟨.ptr nb 0, [(nb, .gone)], [(nb, .cells i.zav.cells)]⟩
theorem xalloc_ok {t nb : Nat} {e : Ef} (hnb : bat bs nb = .gone) (ho : o.op = .alloc t) (h : xalloc X t nb = some e) : Sd X.P o env bs e := by
  unfold xalloc at h
  rw [Option.map_eq_some_iff] at h
  obtain ⟨i, hi, rfl⟩ := h
  have ht := X.ok t i hi
  exact .w hnb fun env' bs0 ha hb0 => op_alloc_b ht.inf ht.zav.1 ht.zav.2.1 ho hb0

def xbox (a : Option AV) (nb : Nat) : Option Ef := a.bind fun v => okI (v.cells.all AV.one) (some ⟨.ptr nb 0, [(nb, .gone)], [(nb, .cells v.cells)]⟩)
theorem xbox_ok {t nb : Nat} {x : Operand} {e : Ef} (hnb : bat bs nb = .gone) (ho : o.op = .box t x) (h : xbox (ev env x) nb = some e) : Sd X.P o env bs e := by
  replace h := bi h; obtain ⟨v, hv, h⟩ := h
  replace h := okI_inv h; obtain ⟨h1, h⟩ := h
  obtain rfl := Option.some.inj h
  exact .w hnb fun env' bs0 ha hb0 => op_box_b ho ((ha x (by simp [ho, Op.operands])).trans hv) h1 hb0

def xbuild (X : Cx) (t : Nat) (ps : List (Nat × Operand)) (env : Env) : Option Ef := (X.ti t).bind fun i => (evp env ps).bind fun aps => match i.zav with
  | .agg zs => (match i.desc with
    | .struct fs => okI (!i.pl.isEmpty) ((afill (fun (j : Nat) => i.pl[j]?) zs aps).map fun cs => ⟨.agg cs, [], []⟩)
    | .array len e => (X.ti e).bind fun ie => (afill (fun (j : Nat) => some (j * ie.size, ie.size)) zs aps).map fun cs => ⟨.agg cs, [], []⟩
    | _ => none)
  | _ => none
theorem xbuild_ok {t : Nat} {ps : Array (Nat × Operand)} {e : Ef} (ho : o.op = .build t ps) (h : xbuild X t ps.toList env = some e) : Sd X.P o env bs e := by
  replace h := bi h; obtain ⟨i, hi, h⟩ := h
  replace h := bi h; obtain ⟨aps, hp, h⟩ := h
  have ht := X.ok t i hi
  have hops : ∀ env', (∀ x ∈ o.op.operands.toList, ev env' x = ev env x) → evp env' ps.toList = some aps := fun env' ha => evp_congr hp fun x hx => ha x (by simpa [ho, Op.operands] using hx)
  have ho' : o.op = .build t ps.toList.toArray := by simpa using ho
  have hz := ht.zav.1
  split at h
  · rename_i zs hzs
    rw [hzs] at hz
    split at h
    · rename_i fs hd
      have hin := ht.inf
      rw [hd] at hin
      replace h := okI_inv h; obtain ⟨hne, h⟩ := h
      rw [Option.map_eq_some_iff] at h
      obtain ⟨cs, hcs, rfl⟩ := h
      obtain ⟨fs', hd', hpl⟩ := ht.pl (by intro e; rw [e] at hne; cases hne)
      obtain rfl : fs = fs' := by rw [hd] at hd'; simpa using hd'
      exact .q fun env' bs0 ha => op_build hin hpl hz ho' (hops env' ha) hcs
    · rename_i len e1 hd
      have hin := ht.inf
      rw [hd] at hin
      replace h := bi h; obtain ⟨ie, hie, h⟩ := h
      rw [Option.map_eq_some_iff] at h
      obtain ⟨cs, hcs, rfl⟩ := h
      exact .q fun env' bs0 ha => op_build_a hin (X.ok e1 ie hie).inf hz ho' (hops env' ha) hcs
    · cases h
  · cases h

/-- Whether a value holds no block. -/
def immB : AV → Bool
  | .ptr .. | .rptr .. | .slc .. | .map _ | .und | .yld _ | .optr .. | .oslc .. | .gsl .. => false
  | .agg cs => cs.all fun c => match c with
    | .ptr .. | .rptr .. | .slc .. | .map _ | .und | .yld _ | .optr .. | .oslc .. | .gsl .. | .agg _ | .tup _ | .fn .. => false
    | _ => true
  | .tup _ | .fn .. => false
  | _ => true

def xbslice (X : Cx) (t len : Nat) (ps : List (Nat × Operand)) (env : Env) (look : Nat → Blk) (nb : Nat) : Option Ef := (X.ti t).bind fun it => match it.desc with
  | .slice e => (X.ti e).bind fun ie => okI (inRow ps 0 && Nat.beq (ps.map Prod.snd).length len && Nat.blt 0 ie.size && Nat.blt 0 len && Nat.ble (len * ie.size) 16777216)
      ((evs env (ps.map Prod.snd)).bind fun avs => okI (szAll ie.size avs) (some ⟨.slc nb 0 ie.size len (some len), [(nb, .gone)], [(nb, .rows ie.size avs)]⟩))
  | _ => none
theorem xbslice_ok {t len nb : Nat} {ps : Array (Nat × Operand)} {e : Ef} (hnb : bat bs nb = .gone) (ho : o.op = .buildSlice t len ps) (h : xbslice X t len ps.toList env (bat bs) nb = some e) : Sd X.P o env bs e := by
  replace h := bi h; obtain ⟨it, hi, h⟩ := h
  have hu := (X.ok t it hi).inf.und
  split at h
  · rename_i e1 hd
    rw [hd] at hu
    replace h := bi h; obtain ⟨ie, hie, h⟩ := h
    replace h := okI_inv h; obtain ⟨hc, h⟩ := h
    simp only [Bool.and_eq_true] at hc
    obtain ⟨⟨⟨⟨c1, c2⟩, c3⟩, c4⟩, c5⟩ := hc
    replace h := bi h; obtain ⟨avs, ha1, h⟩ := h
    replace h := okI_inv h; obtain ⟨hsz, h⟩ := h
    obtain rfl := Option.some.inj h
    refine .w hnb fun env' bs0 ha hb0 => ?_
    exact op_bslice_r (s := ⟨env', bs0⟩) hu (X.ok e1 ie hie).inf (ps := ps.toList) (by simpa using ho) (inRow_eq c1) (Nat.eq_of_beq_eq_true c2) (by simpa [Nat.blt_eq] using c3) (by simpa [Nat.blt_eq] using c4) (Nat.le_of_ble_eq_true c5)
        (evs_congr ha1 fun x hx => ha x (by simpa [ho, Op.operands] using hx)) hsz hb0
  · cases h

def xmkf (f : Nat) (xs : List Operand) (env : Env) : Option Ef := (evs env xs).map fun vs => ⟨.fn f vs, [], []⟩
theorem xmkf_ok {f : Nat} {xs : Array Operand} {e : Ef} (ho : o.op = .makeFunc (.func f) #[] xs) (h : xmkf f xs.toList env = some e) : Sd X.P o env bs e := by
  unfold xmkf at h
  rw [Option.map_eq_some_iff] at h
  obtain ⟨vs, hv, rfl⟩ := h
  exact .q fun env' bs0 ha => op_mkfunc (xs := xs.toList) (by simpa using ho) (evs_congr hv fun x hx => ha x (by simpa [ho, Op.operands] using hx))

def xmkmap (nb : Nat) : Option Ef := some ⟨.map nb, [(nb, .gone)], [(nb, .map [])]⟩
theorem xmkmap_ok {t nb : Nat} {e : Ef} (hnb : bat bs nb = .gone) (ho : o.op = .makeMap t none) (h : xmkmap nb = some e) : Sd X.P o env bs e := by
  obtain rfl := Option.some.inj h
  exact .w hnb fun env' bs0 ha hb0 => op_mkmap_b ho hb0

def rep : Nat → AV → List AV
  | 0, _ => []
  | n + 1, v => v :: rep n v
theorem rep_eq : ∀ (n : Nat) (v : AV), rep n v = List.replicate n v
  | 0, _ => rfl
  | n + 1, v => by simp only [rep, rep_eq n v, List.replicate_succ]

def xmks (X : Cx) (t : Nat) (a b : AV) (nb : Nat) : Option Ef := match a, b with
  | .int _ n, .int _ m => (X.ti t).bind fun it => match it.desc with
    | .slice e => (X.ti e).bind fun ie => okI (Nat.blt 0 ie.size && decide (0 ≤ n) && decide (n ≤ m) && decide ((ie.bytes : Int) * m ≤ 281474976710656) && decide (m ≤ 9223372036854775807) && decide (m.toNat ≤ maxLen)) (match decide (m = n) with
        | true => some ⟨.slc nb 0 ie.size n.toNat (some n.toNat), [(nb, .gone)], [(nb, .rows ie.size (rep n.toNat ie.zav))]⟩
        | false => some ⟨.gsl nb n.toNat, [(nb, .gone)], [(nb, .own e ie.size (rep n.toNat ie.zav))]⟩)
    | _ => none
  | _, _ => none
theorem xmks_ok {t nb : Nat} {x y : Operand} {a b : AV} {e : Ef} (hnb : bat bs nb = .gone) (ho : o.op = .makeSlice t x y) (hx : ev env x = some a) (hy : ev env y = some b) (h : xmks X t a b nb = some e) : Sd X.P o env bs e := by
  have mx : x ∈ o.op.operands.toList := by simp [ho, Op.operands]
  have my : y ∈ o.op.operands.toList := by simp [ho, Op.operands]
  unfold xmks at h
  split at h
  · replace h := bi h; obtain ⟨it, hi, h⟩ := h
    have hu := (X.ok t it hi).inf.und
    split at h
    · rename_i e1 hd
      rw [hd] at hu
      replace h := bi h; obtain ⟨ie, hie, h⟩ := h
      have he := X.ok e1 ie hie
      replace h := okI_inv h; obtain ⟨hc, h⟩ := h
      simp only [Bool.and_eq_true] at hc
      obtain ⟨⟨⟨⟨⟨h0, c1⟩, c2⟩, c3⟩, c4⟩, c5⟩ := hc
      have h0 : 0 < ie.size := by simpa [Nat.blt_eq] using h0
      have c1 := of_decide_eq_true c1
      have c2 := of_decide_eq_true c2
      have c3 := of_decide_eq_true c3
      have c4 := of_decide_eq_true c4
      have c5 := of_decide_eq_true c5
      split at h
      · rename_i hmn
        have hmn := of_decide_eq_true hmn
        subst hmn
        obtain rfl := Option.some.inj h
        rw [rep_eq]
        exact .w hnb fun env' bs0 ha hb0 => op_make hu he.inf he.zav.1 he.zav.2.1 he.zav.2.2.1 h0 ho ((ha x mx).trans hx) ((ha y my).trans hy) c1 c3 c4 hb0
      · obtain rfl := Option.some.inj h
        rw [rep_eq]
        exact .w hnb fun env' bs0 ha hb0 => op_make_o hu he.inf he.zav.1 he.zav.2.1 he.zav.2.2.1 h0 ho ((ha x mx).trans hx) ((ha y my).trans hy) c1 c2 c3 c4 c5 hb0
    · cases h
  · cases h

def xextr (a : AV) (i : Nat) : Option Ef := match a with
  | .tup vs => (nth vs i).map fun v => ⟨v, [], []⟩
  | _ => none
theorem xextr_ok {x : Operand} {i : Nat} {a : AV} {e : Ef} (ho : o.op = .extract x i) (hx : ev env x = some a) (h : xextr a i = some e) : Sd X.P o env bs e := by
  unfold xextr at h
  split at h
  · rw [Option.map_eq_some_iff] at h
    obtain ⟨v, hv, rfl⟩ := h
    rw [nth_eq] at hv
    exact .q fun env' bs0 ha => op_extract ho ((ha x (by simp [ho, Op.operands])).trans hx) hv
  · cases h

def xnil (a : AV) : Option Ef := match a with
  | .ptr _ _ | .rptr _ _ _ _ | .eptr _ _ _ => some ⟨a, [], []⟩
  | _ => none
theorem xnil_ok {x : Operand} {a : AV} {e : Ef} (ho : o.op = .nilCheck x) (hx : ev env x = some a) (h : xnil a = some e) : Sd X.P o env bs e := by
  have mx : x ∈ o.op.operands.toList := by simp [ho, Op.operands]
  unfold xnil at h
  split at h
  · obtain rfl := Option.some.inj h; exact .q fun env' bs0 ha => op_nilcheck ho ((ha x mx).trans hx) (.ptr _ _)
  · obtain rfl := Option.some.inj h; exact .q fun env' bs0 ha => op_nilcheck ho ((ha x mx).trans hx) (.rptr _ _ _ _)
  · obtain rfl := Option.some.inj h; exact .q fun env' bs0 ha => op_nilcheck ho ((ha x mx).trans hx) (.eptr _ _ _)
  · cases h

/-! ### maps -/

def beqK (a b : IntKind) : Bool := decide (a = b)
def decM (kk : IntKind) : List (AV × AV) → Option (List (Int × AV))
  | [] => some []
  | (.int k n, v) :: r => match decide (k = kk), decM kk r with
    | true, some l => some ((n, v) :: l)
    | _, _ => none
  | _ :: _ => none
theorem decM_ok {kk : IntKind} : ∀ {es : List (AV × AV)} {l : List (Int × AV)}, decM kk es = some l → Blk.map es = mb kk (fun v => v) l
  | [], l, h => by obtain rfl := Option.some.inj h; rfl
  | p :: r, l, h => by
    unfold decM at h
    split at h
    · rename_i e; cases e
    · rename_i k n v r' e
      cases e
      split at h
      · rename_i l' hk hr
        obtain rfl := Option.some.inj h
        have := decM_ok hr
        simp only [mb, Blk.map.injEq] at this ⊢
        rw [this, of_decide_eq_true hk]; rfl
      · cases h
    · cases h

def mfin : List (Int × AV) → Int → Option AV
  | [], _ => none
  | (k, v) :: r, n => match decide (k = n) with
    | true => some v
    | false => mfin r n
theorem mfin_eq : ∀ (l : List (Int × AV)) (n : Int), mget l n = mfin l n
  | [], n => rfl
  | (k, v) :: r, n => by
    have ih := mfin_eq r n
    simp only [mfin, mget, mfind] at ih ⊢
    by_cases h : k = n
    · simp [h]
    · simp only [if_neg h, decide_eq_false h]
      rw [← ih]
      cases mfind r n with
      | none => rfl
      | some j => simp
def mput : List (Int × AV) → Int → AV → List (Int × AV)
  | [], n, v => [(n, v)]
  | (k, u) :: r, n, v => match decide (k = n) with
    | true => (n, v) :: r
    | false => (k, u) :: mput r n v
theorem mput_eq : ∀ (l : List (Int × AV)) (n : Int) (v : AV), mset l n v = mput l n v
  | [], n, v => rfl
  | (k, u) :: r, n, v => by
    have ih := mput_eq r n v
    simp only [mput, mset, mfind] at ih ⊢
    by_cases h : k = n
    · simp [h]
    · simp only [if_neg h, decide_eq_false h]
      rw [← ih]
      cases mfind r n with
      | none => rfl
      | some j => simp

def xlook (X : Cx) (t : Nat) (look : Nat → Blk) (m k : AV) (ok : Bool) : Option Ef := match m, k with
  | .map i, .int kk n => (X.ti t).bind fun it => match it.desc with
    | .map kt et => (X.ti kt).bind fun ik => (match ik.desc with
      | .int kk' => okI (decide (kk' = kk)) ((X.ti et).bind fun ie => match look i with
        | .map es => (decM kk es).map fun l => ⟨(match ok with | true => .tup [(mfin l n).getD ie.zav, .bool (mfin l n).isSome] | false => (mfin l n).getD ie.zav), [(i, .map es)], []⟩
        | _ => none)
      | _ => none)
    | _ => none
  | _, _ => none
theorem xlook_ok {t : Nat} {x y : Operand} {ok : Bool} {m k : AV} {e : Ef} (ho : o.op = .lookup t x y ok) (hx : ev env x = some m) (hy : ev env y = some k) (h : xlook X t (bat bs) m k ok = some e) : Sd X.P o env bs e := by
  have mx : x ∈ o.op.operands.toList := by simp [ho, Op.operands]
  have my : y ∈ o.op.operands.toList := by simp [ho, Op.operands]
  unfold xlook at h
  split at h
  · rename_i i kk n
    replace h := bi h; obtain ⟨it, h1, h⟩ := h
    split at h
    · rename_i kt et h2
      replace h := bi h; obtain ⟨ik, h3, h⟩ := h
      split at h
      · rename_i kk' h4
        replace h := okI_inv h; obtain ⟨hk, h⟩ := h
        have hk := of_decide_eq_true hk
        subst hk
        replace h := bi h; obtain ⟨ie, h5, h⟩ := h
        split at h
        · rename_i es hb
          rw [Option.map_eq_some_iff] at h
          obtain ⟨l, hl, rfl⟩ := h
          have u1 := (X.ok t it h1).inf.und; rw [h2] at u1
          have u2 := (X.ok kt ik h3).inf.und; rw [h4] at u2
          have he := X.ok et ie h5
          have hes := decM_ok hl
          rw [hes] at hb ⊢
          refine .r hb fun env' bs0 ha hb0 => ?_
          have hg := get_bat _ _ _ hb0 (by simp [mb])
          cases ok with
          | false => show OpT X.P o ⟨env', bs0⟩ ((mfin l n).getD ie.zav) bs0; rw [← mfin_eq]; exact op_lookup (e := fun v => v) u1 u2 he.inf he.zav.1 ho ((ha x mx).trans hx) ((ha y my).trans hy) hg
          | true => show OpT X.P o ⟨env', bs0⟩ (.tup [(mfin l n).getD ie.zav, .bool (mfin l n).isSome]) bs0; rw [← mfin_eq]; exact op_lookup_ok (e := fun v => v) u1 u2 he.inf he.zav.1 ho ((ha x mx).trans hx) ((ha y my).trans hy) hg
        · cases h
      · cases h
    · cases h
  · cases h

def encM (kk : IntKind) (l : List (Int × AV)) : List (AV × AV) := l.map fun p => (.int kk p.1, p.2)
def xmapu (X : Cx) (t : Nat) (look : Nat → Blk) (m k v : AV) : Option Ef := match m, k with
  | .map i, .int kk n => (X.ti t).bind fun it => match it.desc with
    | .map kt et => (X.ti kt).bind fun ik => (match ik.desc with
      | .int kk' => okI (decide (kk' = kk)) (match look i with
        | .map es => (decM kk es).map fun l => ⟨.tup [], [(i, .map es)], [(i, .map (encM kk (mput l n v)))]⟩
        | _ => none)
      | _ => none)
    | _ => none
  | _, _ => none
theorem xmapu_ok {t : Nat} {x y z : Operand} {m k v : AV} {e : Ef} (ho : o.op = .mapUpdate t x y z) (hx : ev env x = some m) (hy : ev env y = some k) (hz : ev env z = some v) (h : xmapu X t (bat bs) m k v = some e) : Sd X.P o env bs e := by
  have mx : x ∈ o.op.operands.toList := by simp [ho, Op.operands]
  have my : y ∈ o.op.operands.toList := by simp [ho, Op.operands]
  have mz : z ∈ o.op.operands.toList := by simp [ho, Op.operands]
  unfold xmapu at h
  split at h
  · rename_i i kk n
    replace h := bi h; obtain ⟨it, h1, h⟩ := h
    split at h
    · rename_i kt et h2
      replace h := bi h; obtain ⟨ik, h3, h⟩ := h
      split at h
      · rename_i kk' h4
        replace h := okI_inv h; obtain ⟨hk, h⟩ := h
        have hk := of_decide_eq_true hk
        subst hk
        split at h
        · rename_i es hb
          rw [Option.map_eq_some_iff] at h
          obtain ⟨l, hl, rfl⟩ := h
          have u1 := (X.ok t it h1).inf.und; rw [h2] at u1
          have u2 := (X.ok kt ik h3).inf.und; rw [h4] at u2
          have hes := decM_ok hl
          have he2 : Blk.map (encM kk' (mput l n v)) = mb kk' (fun v => v) (mset l n v) := by rw [mput_eq]; rfl
          rw [he2]
          rw [hes] at hb ⊢
          refine .w hb fun env' bs0 ha hb0 => ?_
          rw [bset_set _ _ _ (bat_lt hb0 (by simp [mb]))]
          exact op_mapset (e := fun v => v) u1 u2 ho ((ha x mx).trans hx) ((ha y my).trans hy) ((ha z mz).trans hz) (get_bat _ _ _ hb0 (by simp [mb])) rfl
        · cases h
      · cases h
    · cases h
  · cases h

/-! ### builtins -/

def xlen (X : Cx) (t : Nat) (look : Nat → Blk) (a : AV) : Option Ef := (X.ti t).bind fun it => match it.desc, a with
  | .slice _, .lst _ xs => some ⟨.int .i64 xs.length, [], []⟩
  | .slice _, .gsl b n => (match look b with
    | .grow e sz xs => okI (Nat.beq n xs.length) (some ⟨.int .i64 n, [(b, .grow e sz xs)], []⟩)
    | .own e sz xs => okI (Nat.beq n xs.length) (some ⟨.int .i64 n, [(b, .own e sz xs)], []⟩)
    | _ => none)
  | .slice _, .oslc b n _ _ len _ => (match look b with
    | .own e sz xs => okI (Nat.beq n xs.length) (some ⟨.int .i64 len, [(b, .own e sz xs)], []⟩)
    | _ => none)
  | .slice _, .slc _ _ _ n _ => some ⟨.int .i64 n, [], []⟩
  | .slice _, .nils => some ⟨.int .i64 0, [], []⟩
  | _, _ => none
theorem xlen_ok {t : Nat} {x : Operand} {a : AV} {e : Ef} (ho : o.op = .call { callee := .builtin .len, args := #[x], argTypes := #[t] }) (hx : ev env x = some a) (h : xlen X t (bat bs) a = some e) : Sd X.P o env bs e := by
  have mx : x ∈ o.op.operands.toList := by simp [ho, Op.operands, Call.operands]
  replace h := bi h; obtain ⟨it, hi, h⟩ := h
  have hu := (X.ok t it hi).inf.und
  split at h
  · rename_i hd; rw [hd] at hu
    obtain rfl := Option.some.inj h
    exact .q fun env' bs0 ha => op_len hu ho ((ha x mx).trans hx)
  · rename_i hd; rw [hd] at hu
    split at h
    · rename_i e sz xs hb
      replace h := okI_inv h; obtain ⟨hn, h⟩ := h
      obtain rfl := Option.some.inj h
      exact .r hb fun env' bs0 ha hb0 => op_len_g hu ho ((ha x mx).trans hx) hb0 (Nat.eq_of_beq_eq_true hn)
    · rename_i e sz xs hb
      replace h := okI_inv h; obtain ⟨hn, h⟩ := h
      obtain rfl := Option.some.inj h
      exact .r hb fun env' bs0 ha hb0 => op_len_own hu ho ((ha x mx).trans hx) hb0 (Nat.eq_of_beq_eq_true hn)
    · cases h
  · rename_i hd; rw [hd] at hu
    split at h
    · rename_i e sz xs hb
      replace h := okI_inv h; obtain ⟨hn, h⟩ := h
      obtain rfl := Option.some.inj h
      exact .r hb fun env' bs0 ha hb0 => op_len_os hu ho ((ha x mx).trans hx) hb0 (Nat.eq_of_beq_eq_true hn)
    · cases h
  · rename_i hd; rw [hd] at hu
    obtain rfl := Option.some.inj h
    exact .q fun env' bs0 ha => op_len_s hu ho ((ha x mx).trans hx)
  · rename_i hd; rw [hd] at hu
    obtain rfl := Option.some.inj h
    exact .q fun env' bs0 ha => op_len_n hu ho ((ha x mx).trans hx)
  · cases h

def nonE : List AV → Bool
  | [] => false
  | _ :: _ => true
theorem nonE_ok {l : List AV} (h : nonE l = true) : l ≠ [] := by cases l with | nil => cases h | cons => simp

def xapp (X : Cx) (t : Nat) (a b : AV) (look : Nat → Blk) (nb : Nat) : Option Ef := (X.ti t).bind fun it => match it.desc with
  | .slice e => (X.ti e).bind fun ie => okI (Nat.blt 0 ie.size) ((elems look b).bind fun ysc => okI (szAll ie.size ysc.1) (match a, nonE ysc.1 with
    | .gsl i n, true => (match look i with
      | .own e' sz xs => okI (Nat.beq e' e && Nat.beq sz ie.size && Nat.beq n xs.length && Nat.ble ((xs.length + ysc.1.length) * ie.bytes) 140737488355328 && Nat.ble (xs.length + ysc.1.length) maxLen)
          (some ⟨.gsl i (xs ++ ysc.1).length, (i, .own e' sz xs) :: epre look b, [(i, .own e' sz (xs ++ ysc.1))]⟩)
      | _ => none)
    | a, true => (elems look a).bind fun xsc => okI (szAll ie.size xsc.1 && (match xsc.2 with | some c => Nat.beq c xsc.1.length | none => false) && Nat.ble ((xsc.1.length + ysc.1.length) * ie.bytes) 140737488355328 && Nat.ble (xsc.1.length + ysc.1.length) maxLen)
        (some ⟨.gsl nb (xsc.1 ++ ysc.1).length, (nb, .gone) :: (epre look a ++ epre look b), [(nb, .own e ie.size (xsc.1 ++ ysc.1))]⟩)
    | a, false => (elems look a).bind fun xsc => okI (szAll ie.size xsc.1) (some ⟨a, epre look a ++ epre look b, []⟩)))
  | _ => none
theorem xapp_ok {t nb : Nat} {x y : Operand} {a b : AV} {e : Ef} (hnb : bat bs nb = .gone) (ho : o.op = .call { callee := .builtin .append, args := #[x, y], argTypes := #[t, t] }) (hx : ev env x = some a) (hy : ev env y = some b) (h : xapp X t a b (bat bs) nb = some e) : Sd X.P o env bs e := by
  have mx : x ∈ o.op.operands.toList := by simp [ho, Op.operands, Call.operands]
  have my : y ∈ o.op.operands.toList := by simp [ho, Op.operands, Call.operands]
  replace h := bi h; obtain ⟨it, hi, h⟩ := h
  have hu := (X.ok t it hi).inf.und
  split at h
  · rename_i e1 hd
    rw [hd] at hu
    replace h := bi h; obtain ⟨ie, hie, h⟩ := h
    have he := X.ok e1 ie hie
    replace h := okI_inv h; obtain ⟨h0, h⟩ := h
    have h0 : 0 < ie.size := by simpa [Nat.blt_eq] using h0
    replace h := bi h; obtain ⟨⟨ys, cy⟩, hys, h⟩ := h
    replace h := okI_inv h; obtain ⟨hsy, h⟩ := h
    have hsy := sized_of hsy
    have econ : ∀ {bs0 : List Blk} {v : AV}, Has bs0 (epre (bat bs) v) → elems (bat bs0) v = elems (bat bs) v := fun hh => elems_congr fun k b hk => has_iff.1 hh k b hk
    have other : nonE ys = true → ((elems (bat bs) a).bind fun xsc => okI (szAll ie.size xsc.1 && (match xsc.2 with | some c => Nat.beq c xsc.1.length | none => false) && Nat.ble ((xsc.1.length + ys.length) * ie.bytes) 140737488355328 && Nat.ble (xsc.1.length + ys.length) maxLen)
        (some (⟨.gsl nb (xsc.1 ++ ys).length, (nb, .gone) :: (epre (bat bs) a ++ epre (bat bs) b), [(nb, .own e1 ie.size (xsc.1 ++ ys))]⟩ : Ef))) = some e → Sd X.P o env bs e := fun hne h => by
      replace h := bi h; obtain ⟨⟨xs, cx⟩, hxs, h⟩ := h
      replace h := okI_inv h; obtain ⟨hc, h⟩ := h
      simp only [Bool.and_eq_true] at hc
      obtain ⟨⟨⟨c1, c2⟩, c3⟩, c4⟩ := hc
      obtain rfl : cx = some xs.length := by
        cases cx with
        | none => cases c2
        | some c => rw [Nat.eq_of_beq_eq_true c2]
      obtain rfl := Option.some.inj h
      refine ⟨⟨hnb, has_app.2 ⟨has_epre, has_epre⟩⟩, fun k hk => by simp at hk; simp [hk], fun env' bs0 ha h1 => ?_⟩
      obtain ⟨g1, g2⟩ := h1
      obtain ⟨g2, g3⟩ := has_app.1 g2
      exact op_append_x hu he.inf he.zav.2.2.2 h0 ho ((ha x mx).trans hx) ((econ g2).trans hxs) (sized_of c1) g1 ((ha y my).trans hy) ((econ g3).trans hys) hsy (nonE_ok hne) (Nat.le_of_ble_eq_true c3) (Nat.le_of_ble_eq_true c4)
    split at h
    · rename_i i n hne
      split at h
      · rename_i e' sz xs hb
        replace h := okI_inv h; obtain ⟨hc, h⟩ := h
        simp only [Bool.and_eq_true] at hc
        obtain ⟨⟨⟨⟨c1, c2⟩, c3⟩, c4⟩, c5⟩ := hc
        obtain rfl := Nat.eq_of_beq_eq_true c1
        have c2 := Nat.eq_of_beq_eq_true c2
        subst c2
        obtain rfl := Option.some.inj h
        refine ⟨⟨hb, has_epre⟩, fun k hk => by simp at hk; simp [hk], fun env' bs0 ha h1 => ?_⟩
        exact op_append_o hu he.inf he.zav.2.2.2 h0 ho ((ha x mx).trans hx) h1.1 (Nat.eq_of_beq_eq_true c3) ((ha y my).trans hy) ((econ h1.2).trans hys) hsy (nonE_ok hne) (Nat.le_of_ble_eq_true c4) (Nat.le_of_ble_eq_true c5)
      · cases h
    · rename_i h1 h2
      first | exact other h1 h | exact other h2 h
    · rename_i hne
      have hys0 : ys = [] := by cases ys with | nil => rfl | cons => cases hne
      subst hys0
      replace h := bi h; obtain ⟨⟨xs, cx⟩, hxs, h⟩ := h
      replace h := okI_inv h; obtain ⟨hsx, h⟩ := h
      obtain rfl := Option.some.inj h
      refine ⟨has_app.2 ⟨has_epre, has_epre⟩, fun _ hk => by simp at hk, fun env' bs0 ha h1 => ?_⟩
      obtain ⟨g2, g3⟩ := has_app.1 h1
      exact op_append_e (s := ⟨env', bs0⟩) hu he.inf h0 ho ((ha x mx).trans hx) ((econ g2).trans hxs) (sized_of hsx) ((ha y my).trans hy) ((econ g3).trans hys)
  · cases h

def xslice (X : Cx) (t : Nat) (v : AV) (lo hi mx : Option Operand) (env : Env) (look : Nat → Blk) : Option Ef := (X.ti t).bind fun it => match it.desc with
  | .slice e => (X.ti e).bind fun ie => okI (Nat.blt 0 ie.size) ((elems look v).bind fun xsc => okI (szAll ie.size xsc.1) ((bndA env 0 lo).bind fun l => (bndA env xsc.1.length hi).bind fun h => okI (Nat.ble l h && Nat.ble h xsc.1.length) (match mx with
      | none => (cutAV look v xsc.1 xsc.2 l h none).map fun r => ⟨r, epre look v, []⟩
      | some m' => (bndA env 0 (some m')).bind fun m => okI (hi.isSome && Nat.ble h m && (Nat.ble m xsc.1.length || (match xsc.2 with | some c => Nat.ble m c | none => false))) ((cutAV look v xsc.1 xsc.2 l h (some m)).map fun r => ⟨r, epre look v, []⟩))))
  | _ => none
theorem xslice_ok {t : Nat} {x : Operand} {v : AV} {lo hi mx : Option Operand} {e : Ef} (ho : o.op = .slice t x lo hi mx) (hx : ev env x = some v) (h : xslice X t v lo hi mx env (bat bs) = some e) : Sd X.P o env bs e := by
  have mx' : x ∈ o.op.operands.toList := by simp [ho, Op.operands]
  have bcon : ∀ {env' : Env} {d : Nat} {oo : Option Operand}, (∀ y ∈ oo.toList, ev env' y = ev env y) → bndA env' d oo = bndA env d oo := fun {env' d oo} hh => by
    cases oo with
    | none => rfl
    | some y => simp only [bndA, hh y (by simp)]
  have mlo : ∀ y ∈ lo.toList, y ∈ o.op.operands.toList := fun y hy => by cases lo <;> simp at hy; subst hy; simp [ho, Op.operands]
  have mhi : ∀ y ∈ hi.toList, y ∈ o.op.operands.toList := fun y hy => by cases hi <;> simp at hy; subst hy; simp [ho, Op.operands]
  have mmx : ∀ y ∈ mx.toList, y ∈ o.op.operands.toList := fun y hy => by cases mx <;> simp at hy; subst hy; simp [ho, Op.operands]
  replace h := bi h; obtain ⟨it, hi0, h⟩ := h
  have hu := (X.ok t it hi0).inf.und
  split at h
  · rename_i e1 hd
    rw [hd] at hu
    replace h := bi h; obtain ⟨ie, hie, h⟩ := h
    have he := X.ok e1 ie hie
    replace h := okI_inv h; obtain ⟨h0, h⟩ := h
    have h0 : 0 < ie.size := by simpa [Nat.blt_eq] using h0
    replace h := bi h; obtain ⟨⟨xs, cx⟩, hxs, h⟩ := h
    replace h := okI_inv h; obtain ⟨hsx, h⟩ := h
    replace h := bi h; obtain ⟨l, hl, h⟩ := h
    replace h := bi h; obtain ⟨hh, hhh, h⟩ := h
    replace h := okI_inv h; obtain ⟨hc, h⟩ := h
    simp only [Bool.and_eq_true] at hc
    have c1 := Nat.le_of_ble_eq_true hc.1
    have c2 := Nat.le_of_ble_eq_true hc.2
    have econ : ∀ {bs0 : List Blk}, Has bs0 (epre (bat bs) v) → elems (bat bs0) v = elems (bat bs) v := fun hh => elems_congr fun k b hk => has_iff.1 hh k b hk
    split at h
    · rw [Option.map_eq_some_iff] at h
      obtain ⟨r, hr, rfl⟩ := h
      refine ⟨has_epre, fun _ hk => by simp at hk, fun env' bs0 ha h1 => ?_⟩
      exact op_slice (s := ⟨env', bs0⟩) none hu he.inf h0 ho ((ha x mx').trans hx) ((econ h1).trans hxs) (sized_of hsx) ((bcon fun y hy => ha y (mlo y hy)).trans hl) ((bcon fun y hy => ha y (mhi y hy)).trans hhh) (fun _ => rfl) (.inl ⟨rfl, rfl⟩) c1 c2
        ((cut_congr (fun k b hk => has_iff.1 h1 k b hk) _ _ _ _ _).trans hr)
    · rename_i m'
      replace h := bi h; obtain ⟨m, hm, h⟩ := h
      replace h := okI_inv h; obtain ⟨hc3, h⟩ := h
      simp only [Bool.and_eq_true] at hc3
      obtain ⟨⟨d1, d2⟩, d3⟩ := hc3
      rw [Option.map_eq_some_iff] at h
      obtain ⟨r, hr, rfl⟩ := h
      refine ⟨has_epre, fun _ hk => by simp at hk, fun env' bs0 ha h1 => ?_⟩
      refine op_slice (s := ⟨env', bs0⟩) (some m) hu he.inf h0 ho ((ha x mx').trans hx) ((econ h1).trans hxs) (sized_of hsx) ((bcon fun y hy => ha y (mlo y hy)).trans hl) ((bcon fun y hy => ha y (mhi y hy)).trans hhh) (fun e => by rw [e] at d1; cases d1)
        (.inr ⟨m, (bcon fun y hy => ha y (mmx y hy)).trans hm, by simp, rfl, Nat.le_of_ble_eq_true d2, ?_⟩) c1 c2 ((cut_congr (fun k b hk => has_iff.1 h1 k b hk) _ _ _ _ _).trans hr)
      simp only [Bool.or_eq_true] at d3
      rcases d3 with d3 | d3
      · exact .inl (Nat.le_of_ble_eq_true d3)
      · cases cx with
        | none => cases d3
        | some c => exact .inr ⟨c, rfl, Nat.le_of_ble_eq_true d3⟩
  · cases h

def xmx (a b : AV) (g : Int → Int → Int) : Option Ef := match a, b with
  | .int k x, .int k' y => okI (k == k') (some ⟨.int k (g x y), [], []⟩)
  | _, _ => none

def xblt (X : Cx) (b : Builtin) (args : List Operand) (ts : List TypeId) (env : Env) (look : Nat → Blk) (nb : Nat) : Option Ef := match b, args, ts with
  | .len, [x], [t] => (ev env x).bind fun a => xlen X t look a
  | .append, [x, y], [t, t'] => okI (Nat.beq t t') ((ev env x).bind fun a => (ev env y).bind fun b => xapp X t a b look nb)
  | .max, [x, y], _ => (ev env x).bind fun a => (ev env y).bind fun b => xmx a b mx
  | .min, [x, y], _ => (ev env x).bind fun a => (ev env y).bind fun b => xmx a b mn
  | _, _, _ => none
theorem xblt_ok {b : Builtin} {args : Array Operand} {ts : Array TypeId} {nb : Nat} {e : Ef} (hnb : bat bs nb = .gone) (ho : o.op = .call { callee := .builtin b, args := args, argTypes := ts }) (h : xblt X b args.toList ts.toList env (bat bs) nb = some e) : Sd X.P o env bs e := by
  rcases args with ⟨args⟩
  rcases ts with ⟨ts⟩
  unfold xblt at h
  simp only at h
  split at h
  · replace h := bi h; obtain ⟨a, ha, h⟩ := h
    exact xlen_ok ho ha h
  · replace h := okI_inv h; obtain ⟨ht, h⟩ := h
    obtain rfl := Nat.eq_of_beq_eq_true ht
    replace h := bi h; obtain ⟨a, ha, h⟩ := h
    replace h := bi h; obtain ⟨b, hb, h⟩ := h
    exact xapp_ok hnb ho ha hb h
  · rename_i _ _ x y
    replace h := bi h; obtain ⟨a, ha, h⟩ := h
    replace h := bi h; obtain ⟨b, hb, h⟩ := h
    unfold xmx at h
    split at h
    · replace h := okI_inv h; obtain ⟨ht, h⟩ := h
      rename_i k x' k' y'
      obtain rfl : k = k' := by simpa using ht
      obtain rfl := Option.some.inj h
      exact .q fun env' bs0 hag => op_max ho ((hag x (by simp [ho, Op.operands, Call.operands])).trans ha) ((hag y (by simp [ho, Op.operands, Call.operands])).trans hb)
    · cases h
  · rename_i _ _ x y
    replace h := bi h; obtain ⟨a, ha, h⟩ := h
    replace h := bi h; obtain ⟨b, hb, h⟩ := h
    unfold xmx at h
    split at h
    · replace h := okI_inv h; obtain ⟨ht, h⟩ := h
      rename_i k x' k' y'
      obtain rfl : k = k' := by simpa using ht
      obtain rfl := Option.some.inj h
      exact .q fun env' bs0 hag => op_min ho ((hag x (by simp [ho, Op.operands, Call.operands])).trans ha) ((hag y (by simp [ho, Op.operands, Call.operands])).trans hb)
    · cases h
  · cases h

theorem snil_congr {l l0 : Nat → Blk} {v : AV} (h : ∀ k b, (k, b) ∈ epre l v → l0 k = b) : snil l0 v = snil l v := by
  cases v with
  | gsl i n => have := h i (l i) (by simp [epre]); simp only [snil, this]
  | oslc i a b c d e => have := h i (l i) (by simp [epre]); simp only [snil, this]
  | lst ex xs => cases xs <;> rfl
  | _ => rfl
def xsn (X : Cx) (op : BinOp) (t : Nat) (a : AV) (look : Nat → Blk) : Option Ef := (X.ti t).bind fun i => match i.desc with
  | .slice _ => (snil look a).bind fun b => match op with
    | .eql => some ⟨.bool b, epre look a, []⟩
    | .neq => some ⟨.bool (!b), epre look a, []⟩
    | _ => none
  | _ => none
theorem xsn_ok {op : BinOp} {t t' : Nat} {x y : Operand} {a : AV} {e : Ef} (ho : o.op = .binOp op t x y t') (hx : ev env x = some a) (hy : ev env y = some .nils) (h : xsn X op t a (bat bs) = some e) : Sd X.P o env bs e := by
  have mx : x ∈ o.op.operands.toList := by simp [ho, Op.operands]
  have my : y ∈ o.op.operands.toList := by simp [ho, Op.operands]
  replace h := bi h; obtain ⟨i, hi, h⟩ := h
  have hu := (X.ok t i hi).inf.und
  split at h
  · rename_i e1 hd
    rw [hd] at hu
    replace h := bi h; obtain ⟨b, hb, h⟩ := h
    split at h
    · obtain rfl := Option.some.inj h
      refine ⟨has_epre, fun _ hk => by simp at hk, fun env' bs0 ha h3 => ?_⟩
      exact op_seq (s := ⟨env', bs0⟩) hu ho ((ha x mx).trans hx) ((snil_congr fun k b hk => has_iff.1 h3 k b hk).trans hb) ((ha y my).trans hy)
    · obtain rfl := Option.some.inj h
      refine ⟨has_epre, fun _ hk => by simp at hk, fun env' bs0 ha h3 => ?_⟩
      exact op_sneq (s := ⟨env', bs0⟩) hu ho ((ha x mx).trans hx) ((snil_congr fun k b hk => has_iff.1 h3 k b hk).trans hb) ((ha y my).trans hy)
    · cases h
  · cases h

def xbs0 (X : Cx) (t : Nat) : Option Ef := (X.ti t).bind fun it => match it.desc with
  | .slice e => (X.ti e).map fun _ => ⟨.lst true [], [], []⟩
  | _ => none
theorem xbs0_ok {t : Nat} {e : Ef} (ho : o.op = .buildSlice t 0 #[]) (h : xbs0 X t = some e) : Sd X.P o env bs e := by
  replace h := bi h; obtain ⟨it, hi, h⟩ := h
  have hu := (X.ok t it hi).inf.und
  split at h
  · rename_i e1 hd
    rw [hd] at hu
    rw [Option.map_eq_some_iff] at h
    obtain ⟨ie, hie, rfl⟩ := h
    exact .q fun env' bs0 ha => op_bslice0 hu (X.ok e1 ie hie).inf ho
  · cases h

def xbsl (X : Cx) (t len : Nat) (ps : List (Nat × Operand)) (env : Env) (look : Nat → Blk) (nb : Nat) : Option Ef := match len, ps with
  | 0, [] => xbs0 X t
  | len, ps => xbslice X t len ps env look nb
theorem xbsl_ok {t len nb : Nat} {ps : Array (Nat × Operand)} {e : Ef} (hnb : bat bs nb = .gone) (ho : o.op = .buildSlice t len ps) (h : xbsl X t len ps.toList env (bat bs) nb = some e) : Sd X.P o env bs e := by
  rcases ps with ⟨ps⟩
  unfold xbsl at h
  split at h
  · rename_i h1; exact xbs0_ok (by simpa using h1 ▸ ho) h
  · exact xbslice_ok hnb ho h

/-- An operation that is no call of a function. -/
def xop (X : Cx) (o : Op) (env : Env) (look : Nat → Blk) (nb : Nat) : Option Ef := match o with
  | .move x => xmove (ev env x)
  | .assign x => xmove (ev env x)
  | .pick c a b => (ev env c).bind fun c => xpick c (ev env a) (ev env b)
  | .alloc t => xalloc X t nb
  | .box _ x => xbox (ev env x) nb
  | .build t ps => xbuild X t ps.toList env
  | .buildSlice t len ps => xbsl X t len ps.toList env look nb
  | .load t x => (ev env x).bind fun p => xload X t look p
  | .store t x y => (ev env x).bind fun p => (ev env y).bind fun v => xstore X t look p v
  | .nilCheck x => (ev env x).bind fun a => xnil a
  | .binOp op t x y _ => (ev env x).bind fun a => (ev env y).bind fun b => (match b with
    | .nils => xsn X op t a look
    | b => xbin X op t a b)
  | .unOp op _ x => (ev env x).bind fun a => xun op a
  | .convert t u x => (ev env x).bind fun a => xconv X t u a
  | .makeFunc (.func f) ⟨[]⟩ xs => xmkf f xs.toList env
  | .makeMap _ none => xmkmap nb
  | .makeSlice t x y => (ev env x).bind fun a => (ev env y).bind fun b => xmks X t a b nb
  | .fieldAddr t x j => (ev env x).bind fun p => xfield X t j look p
  | .field t x j => (ev env x).bind fun p => xfieldV X t j p
  | .indexAddr t x y => (ev env x).bind fun p => (ev env y).bind fun i => xidx X t look p i
  | .index t x y => (ev env x).bind fun p => (ev env y).bind fun i => xindex X t p i
  | .lookup t x y ok => (ev env x).bind fun m => (ev env y).bind fun k => xlook X t look m k ok
  | .mapUpdate t x y z => (ev env x).bind fun m => (ev env y).bind fun k => (ev env z).bind fun v => xmapu X t look m k v
  | .extract x i => (ev env x).bind fun a => xextr a i
  | .slice t x lo hi mx => (ev env x).bind fun v => xslice X t v lo hi mx env look
  | .call ⟨.builtin b, args, ts⟩ => xblt X b args.toList ts.toList env look nb
  | _ => none

theorem xop_ok {nb : Nat} {e : Ef} (hnb : bat bs nb = .gone) (h : xop X o.op env (bat bs) nb = some e) : Sd X.P o env bs e := by
  generalize ho : o.op = op at h
  cases op <;> simp only [xop] at h
  case move x => exact xmove_ok (.inl ho) h
  case assign x => exact xmove_ok (.inr ho) h
  case pick c a b => obtain ⟨v, hv, h⟩ := bi h; exact xpick_ok ho hv h
  case alloc t => exact xalloc_ok hnb ho h
  case box t x => exact xbox_ok hnb ho h
  case build t ps => exact xbuild_ok ho h
  case buildSlice t len ps => exact xbsl_ok hnb ho h
  case load t x => obtain ⟨v, hv, h⟩ := bi h; exact xload_ok ho hv h
  case store t x y => obtain ⟨v, hv, h⟩ := bi h; obtain ⟨u, hu, h⟩ := bi h; exact xstore_ok ho hv hu h
  case nilCheck x => obtain ⟨v, hv, h⟩ := bi h; exact xnil_ok ho hv h
  case binOp op t x y t' =>
    obtain ⟨v, hv, h⟩ := bi h
    obtain ⟨u, hu, h⟩ := bi h
    split at h
    · exact xsn_ok ho hv hu h
    · exact xbin_ok ho hv hu h
  case unOp op t x => obtain ⟨v, hv, h⟩ := bi h; exact xun_ok ho hv h
  case convert t u x => obtain ⟨v, hv, h⟩ := bi h; exact xconv_ok ho hv h
  case makeFunc fn first captured =>
    rcases first with ⟨first⟩
    cases fn with
    | func f =>
      cases first with
      | nil => exact xmkf_ok ho h
      | cons => cases h
    | _ => cases h
  case makeMap t r =>
    cases r with
    | none => exact xmkmap_ok hnb ho h
    | some => cases h
  case makeSlice t x y => obtain ⟨v, hv, h⟩ := bi h; obtain ⟨u, hu, h⟩ := bi h; exact xmks_ok hnb ho hv hu h
  case fieldAddr t x j => obtain ⟨v, hv, h⟩ := bi h; exact xfield_ok ho hv h
  case field t x j => obtain ⟨v, hv, h⟩ := bi h; exact xfieldV_ok ho hv h
  case indexAddr t x y => obtain ⟨v, hv, h⟩ := bi h; obtain ⟨u, hu, h⟩ := bi h; exact xidx_ok ho hv hu h
  case index t x y => obtain ⟨v, hv, h⟩ := bi h; obtain ⟨u, hu, h⟩ := bi h; exact xindex_ok ho hv hu h
  case lookup t x y ok => obtain ⟨v, hv, h⟩ := bi h; obtain ⟨u, hu, h⟩ := bi h; exact xlook_ok ho hv hu h
  case mapUpdate t x y z => obtain ⟨v, hv, h⟩ := bi h; obtain ⟨u, hu, h⟩ := bi h; obtain ⟨q, hq, h⟩ := bi h; exact xmapu_ok ho hv hu hq h
  case extract x i => obtain ⟨v, hv, h⟩ := bi h; exact xextr_ok ho hv h
  case slice t x lo hi mx => obtain ⟨v, hv, h⟩ := bi h; exact xslice_ok ho hv h
  case call c =>
    obtain ⟨cl, args, ts⟩ := c
    cases cl with
    | builtin b => exact xblt_ok hnb ho h
    | _ => cases h
  all_goals cases h

end
end
end Go.Proofs.YtelgmdljcbkniaaDoor.Ai
