/- An interpreter of values for the model's code, base text 16: more operations. -/
import Derived.Test.YtelgmdljcbkniaaDoorB15
namespace Go.Proofs.YtelgmdljcbkniaaDoor.Ai
noncomputable section
open Go
set_option linter.unusedVariables false

/-! ### elements -/

theorem ri_elem {Z : ZM} {ex : Bool} {xs : List AV} {sz c q cap : Nat} (h1 : ∀ (j : Nat) (x : AV), xs[j]? = some x → x.cells.length = sz)
    (h2 : ∀ (j : Nat) (x : AV) (q' : Nat) v cv, xs[j]? = some x → x.cells[q']? = some v → Z c (q + j * sz + q') = some cv → RI Z v cv)
    (h3 : ∀ (j q' : Nat), j < xs.length → q' < sz → ∃ cv, Z c (q + j * sz + q') = some cv) {i : Nat} {u : AV} (hu : xs[i]? = some u) (hs0 : 0 < sz) : RI Z (.eptr [u] 0 0) (.pointer (some ⟨c, q + i * sz, none⟩)) := by
  have := RI.eptr (Z := Z) [u] 0 0 sz c (q + i * sz) (fun j x hx => ?_) (fun j x q' v cv hx hq hz => ?_) (fun j q' hj hq => ?_) (by simp) hs0
  · simpa using this
  · cases j with
    | zero => simp at hx; subst hx; exact h1 i _ hu
    | succ j => simp at hx
  · cases j with
    | zero => simp at hx; subst hx; exact h2 i _ q' v cv hu hq (by simpa using hz)
    | succ j => simp at hx
  · have : j = 0 := by simpa using hj
    subst this
    obtain ⟨cv, e⟩ := h3 i q' (lt_of_get hu) hq
    exact ⟨cv, by simpa using e⟩

theorem op_iaddr1 {P : Program} {o : Oper} {s : St} {t e : TypeId} {x y : Operand} {ex : Bool} {xs : List AV} {k : IntKind} {n : Int} {u : AV} {size bytes : Nat} {z : Value} {d : TypeDesc} (ht : P.underlying t = some (.slice e)) (he : Inf P e size bytes z d)
    (ho : o.op = .indexAddr t x y) (hx : ev s.env x = some (.lst ex xs)) (hy : ev s.env y = some (.int k n)) (h0 : 0 ≤ n) (hu : xs[n.toNat]? = some u) (hs : u.cells.length = size) (hs0 : 0 < size) :
    OpT P o s (.eptr [u] 0 0) s.bs :=
  op_pure fun G w a hI hE => by
    have hlt := lt_of_get hu
    rcases (ev_r hE hx).lst_inv with ⟨rfl, _⟩ | ⟨sz, c, q, cap, hv, h1, h2, h3, h4, h5⟩
    · simp at hlt
    · have hsz : sz = size := by rw [← hs]; exact (h1 _ u hu).symm
      subst hsz
      have hn : n < (xs.length : Int) := by omega
      exact ⟨_, by simp [execOp, ho, hv, (ev_r hE hy).int_inv, Instr.indexAt, asIntOf, run_underlying ht, h0, hn, he.size, addr_add], .imm _ _ (ri_elem (ex := ex) (cap := cap) h1 h2 h3 hu hs0)⟩

theorem R.gsl_at {G : Ghost} {bs : List Blk} {w : World} (hI : Inv G bs w) {i n e sz : Nat} {xs : List AV} {cv : Value} (h : R G (.gsl i n) cv) (hb : bat bs i = .grow e sz xs) (hn : n = xs.length) : R G (.lst false xs) cv :=
  .imm _ _ (h.gsl_lst hI (get_bat _ _ _ hb (by simp)) hn.symm)

theorem op_iaddr_g {P : Program} {o : Oper} {s : St} {t e e' : TypeId} {x y : Operand} {i ln sz : Nat} {xs : List AV} {k : IntKind} {n : Int} {u : AV} {size bytes : Nat} {z : Value} {d : TypeDesc} (ht : P.underlying t = some (.slice e)) (he : Inf P e size bytes z d)
    (ho : o.op = .indexAddr t x y) (hx : ev s.env x = some (.gsl i ln)) (hb : bat s.bs i = .grow e' sz xs) (hl : ln = xs.length) (hy : ev s.env y = some (.int k n)) (h0 : 0 ≤ n) (hu : xs[n.toNat]? = some u) (hs : u.cells.length = size) (hs0 : 0 < size) :
    OpT P o s (.eptr [u] 0 0) s.bs :=
  op_pure fun G w a hI hE => by
    have hlt := lt_of_get hu
    rcases ((ev_r hE hx).gsl_at hI hb hl).lst_inv with ⟨rfl, _⟩ | ⟨sz, c, q, cap, hv, h1, h2, h3, h4, h5⟩
    · simp at hlt
    · have hsz : sz = size := by rw [← hs]; exact (h1 _ u hu).symm
      subst hsz
      have hn : n < (xs.length : Int) := by omega
      exact ⟨_, by simp [execOp, ho, hv, (ev_r hE hy).int_inv, Instr.indexAt, asIntOf, run_underlying ht, h0, hn, he.size, addr_add], .imm _ _ (ri_elem (ex := false) (cap := cap) h1 h2 h3 hu hs0)⟩

/-- An element of a slice that was made here. -/
theorem op_iaddr_s {P : Program} {o : Oper} {s : St} {t e : TypeId} {x y : Operand} {i q sz len : Nat} {cap : Option Nat} {k : IntKind} {n : Int} {size bytes : Nat} {z : Value} {d : TypeDesc} (ht : P.underlying t = some (.slice e)) (he : Inf P e size bytes z d)
    (ho : o.op = .indexAddr t x y) (hx : ev s.env x = some (.slc i q sz len cap)) (hy : ev s.env y = some (.int k n)) (h0 : 0 ≤ n) (hn : n.toNat < len) (hs : sz = size) :
    OpT P o s (.rptr i (q + n.toNat) sz 0) s.bs :=
  op_pure fun G w a hI hE => by
    subst hs
    obtain ⟨c, ccap, hc, hl, _, hv⟩ := (ev_r hE hx).slc_inv
    have hn' : n < (len : Int) := by omega
    refine ⟨_, by simp [execOp, ho, hv, (ev_r hE hy).int_inv, Instr.indexAt, asIntOf, run_underlying ht, h0, hn', he.size, addr_add]; rfl, ?_⟩
    have e0 : q * sz + n.toNat * sz = (q + n.toNat) * sz + 0 := by rw [Nat.add_mul]; omega
    rw [e0]
    exact .rptr i (q + n.toNat) sz 0 c hc

theorem R.rptr_inv {G : Ghost} {i j sz o : Nat} {cv : Value} (h : R G (.rptr i j sz o) cv) : ∃ c, G.cl i = some c ∧ cv = .pointer (some ⟨c, j * sz + o, none⟩) := by
  cases h with
  | imm _ _ h => cases h
  | rptr _ _ _ _ c h => exact ⟨c, h, rfl⟩

theorem inv_rows {G : Ghost} {bs : List Blk} {w : World} (hI : Inv G bs w) {i c sz : Nat} {xs : List AV} (hb : bat bs i = .rows sz xs) (hc : G.cl i = some c) :
    ∃ arr e, w.heap[c]? = some (.cells arr e (0, 0)) ∧ (flat xs).length ≤ arr.size ∧ (∀ (j : Nat) v cv, (flat xs)[j]? = some v → arr[j]? = some cv → R G v cv) ∧ (∀ o, G.Z c o = none) ∧ 0 < sz ∧ ∀ (j : Nat) (x : AV), xs[j]? = some x → x.cells.length = sz := by
  have h := hI.batOk i
  rw [hb] at h
  obtain ⟨arr, e, h1, h2, h3, h4⟩ := h.1.2 c hc
  exact ⟨arr, e, h1, h2, h3, h4, h.2.1, fun j x hx => h.2.2 x (List.mem_of_getElem? hx)⟩

theorem op_faddr_r {P : Program} {o : Oper} {s : St} {t : TypeId} {x : Operand} {fs : Array Field} {j : Nat} {f : Field} {i m sz k size bytes : Nat} {z : Value} {d : TypeDesc} (ht : P.underlying t = some (.struct fs)) (hj : fs[j]? = some f)
    (hf : Inf P f.type size bytes z d) (h0 : (size == 0) = false) (ho : o.op = .fieldAddr t x j) (hx : ev s.env x = some (.rptr i m sz k)) : OpT P o s (.rptr i m sz (k + f.offset)) s.bs :=
  op_pure fun G w a hI hE => by
    obtain ⟨c, hc, he⟩ := (ev_r hE hx).rptr_inv
    refine ⟨_, by simp [execOp, ho, he, Instr.fieldAt, run_underlying ht, hj, Instr.sureAddr, run_fieldPlace hf h0, addr_add]; rfl, ?_⟩
    rw [Nat.add_assoc]
    exact .rptr i m sz (k + f.offset) c hc

theorem op_load_r {P : Program} {o : Oper} {s : St} {t : TypeId} {x : Operand} {size bytes : Nat} {z : Value} {d : TypeDesc} {i j sz k : Nat} {xs : List AV} {u v : AV} (ht : Inf P t size bytes z d) (hd : isAggD d = false)
    (ho : o.op = .load t x) (hx : ev s.env x = some (.rptr i j sz k)) (hb : bat s.bs i = .rows sz xs) (hu : xs[j]? = some u) (hv : u.cells[k]? = some v) : OpT P o s v s.bs :=
  op_pure fun G w a hI hE => by
    obtain ⟨c, hc, he⟩ := (ev_r hE hx).rptr_inv
    obtain ⟨arr, e, hh, hl, hr, _, h0, hsz⟩ := inv_rows hI hb hc
    have hk : k < sz := hsz j u hu ▸ lt_of_get hv
    have hf := (flat_get xs sz hsz j k u hu hk).trans hv
    have hlt : j * sz + k < arr.size := Nat.lt_of_lt_of_le (lt_of_get hf) hl
    have hcell : w.cell? ⟨c, j * sz + k, none⟩ = some arr[j * sz + k] := by simp [World.cell?, hh, hlt]
    exact ⟨arr[j * sz + k], by simp [execOp, ho, he, Instr.loadAt, Instr.sureAddr, loadVar, ht.isAgg, hd, hcell], hr _ v _ hf (by simp [hlt])⟩

theorem op_load_agg_r {P : Program} {o : Oper} {s : St} {t : TypeId} {x : Operand} {size bytes : Nat} {z : Value} {d : TypeDesc} {i j sz k : Nat} {xs ds : List AV} {u : AV} (ht : Inf P t size bytes z d) (hd : isAggD d = true)
    (ho : o.op = .load t x) (hx : ev s.env x = some (.rptr i j sz k)) (hb : bat s.bs i = .rows sz xs) (hu : xs[j]? = some u) (hs : k + size ≤ u.cells.length) (hv : (u.cells.drop k).take size = ds) : OpT P o s (.agg ds) s.bs :=
  op_pure fun G w a hI hE => by
    subst hv
    obtain ⟨c, hc, he⟩ := (ev_r hE hx).rptr_inv
    obtain ⟨arr, e, hh, hl, hr, _, h0, hsz⟩ := inv_rows hI hb hc
    have hul := hsz j u hu
    have fl : ∀ q, q < size → (flat xs)[j * sz + k + q]? = some (u.cells[k + q]?.getD .und) := fun q hq => by
      rw [Nat.add_assoc, flat_get xs sz hsz j (k + q) u hu (by omega), List.getElem?_eq_getElem (by omega)]; rfl
    have hlen : j * sz + k + size ≤ arr.size := by
      rcases Nat.eq_zero_or_pos size with h | h
      · subst h
        by_cases hk : k < sz
        · have := lt_of_get ((flat_get xs sz hsz j k u hu hk).trans (List.getElem?_eq_getElem (by omega))); omega
        · have hk0 : k = sz := by omega
          have := lt_of_get ((flat_get xs sz hsz j (k - 1) u hu (by omega)).trans (List.getElem?_eq_getElem (by omega))); omega
      · have := lt_of_get (fl (size - 1) (by omega)); omega
    have hrun := loadCells_at (P := P) hh size (o := j * sz + k) hlen
    refine ⟨.agg (arr.extract (j * sz + k) (j * sz + k + size)), by simp [execOp, ho, he, Instr.loadAt, Instr.sureAddr, loadVar, ht.isAgg, hd, ht.size, hrun], .agg _ _ (by simp; omega) fun q v cv e1 e2 => ?_⟩
    rw [List.getElem?_take] at e1
    split at e1
    · rename_i hq
      rw [List.getElem?_drop] at e1
      rw [Array.getElem?_extract] at e2
      split at e2
      · have := fl q hq
        rw [e1] at this
        exact hr _ v cv this e2
      · cases e2
    · cases e1

theorem flat_len : ∀ (xs : List AV) (sz : Nat), (∀ (j : Nat) (x : AV), xs[j]? = some x → x.cells.length = sz) → (flat xs).length = xs.length * sz
  | [], _, _ => by simp [flat]
  | y :: r, sz, h => by
    have := flat_len r sz fun j x hx => h (j + 1) x (by simpa using hx)
    show (y.cells ++ flat r).length = _
    rw [List.length_append, this, h 0 y rfl, List.length_cons, Nat.succ_mul]; omega

/-- An element, or a part of it, is written. -/
theorem op_store_r {P : Program} {o : Oper} {s : St} {t : TypeId} {p x : Operand} {size bytes : Nat} {z : Value} {d : TypeDesc} {i j sz k : Nat} {xs : List AV} {u u' v : AV} (ht : Inf P t size bytes z d)
    (ho : o.op = .store t p x) (hp : ev s.env p = some (.rptr i j sz k)) (hx : ev s.env x = some v) (hb : bat s.bs i = .rows sz xs) (hu : xs[j]? = some u) (hs : v.cells.length = size) (h1 : v.cells.all AV.one = true) (hk : k + size ≤ u.cells.length)
    (hv : u.cells.take k ++ v.cells ++ u.cells.drop (k + size) = u'.cells) : OpT P o s (.und) (bset s.bs i (.rows sz (xs.set j u'))) := by
  refine OpT.of (by simp [ho]) ?_
  intro G w a hI hE K Q hK
  obtain ⟨c, hc, he⟩ := (ev_r hE hp).rptr_inv
  obtain ⟨arr, e, hh, hl, hr, hzn, h0, hsz⟩ := inv_rows hI hb hc
  obtain ⟨hvl, hvr, hv1⟩ := (ev_r hE hx).cells h1
  have hul := hsz j u hu
  have hjl := lt_of_get hu
  have hfl : (flat xs).length = xs.length * sz := flat_len xs sz hsz
  have hjs : j * sz + sz ≤ xs.length * sz := by rw [← Nat.succ_mul]; exact Nat.mul_le_mul_right _ hjl
  have hrun := run_storeCells_at P c (j * sz + k) e (a.eval x).cells.toList 0 arr w hh (by simp; omega) hv1
  simp only [Nat.add_zero] at hrun
  have hu'l : u'.cells.length = sz := by rw [← hv]; simp; omega
  have hB := hI.batOk i
  rw [hb] at hB
  have hf : ∀ d, d ≠ c → ∀ arr', (w.setRow c arr').heap[d]? = w.heap[d]? := fun d hd arr' => setRow_other w c d _ hd
  let arr' := (arr.toList.take (j * sz + k) ++ (a.eval x).cells.toList ++ arr.toList.drop (j * sz + k + (a.eval x).cells.toList.length)).toArray
  have hlen : (arr.toList.take (j * sz + k)).length = j * sz + k := by simp; omega
  have hszl : (a.eval x).cells.size = size := hvl.trans hs
  have hset : ∀ (m : Nat) (x : AV), (xs.set j u')[m]? = some x → x.cells.length = sz := fun m x hx => by
    rw [List.getElem?_set] at hx
    by_cases h : j = m
    · subst h; simp only [if_true, hjl] at hx; obtain rfl := Option.some.inj hx; exact hu'l
    · rw [if_neg h] at hx; exact hsz m x hx
  have hflat' : (flat (xs.set j u')).length = xs.length * sz := by rw [flat_len _ sz hset, List.length_set]
  have hinv : Inv G (bset s.bs i (.rows sz (xs.set j u'))) (w.setRow c arr') := by
    refine hI.turn _ (fun _ _ => rfl) (fun _ _ => rfl) (.refl _) (fun d hd hno => hf d (fun e0 => hno (e0 ▸ .inl hc)) _) (fun _ _ _ _ _ => rfl) (fun d q v ez => ?_) ?_ (fun d hd => .inr hd)
    · have hd : d ≠ c := fun e0 => by rw [e0, hzn q] at ez; cases ez
      rw [rd_of_frame (hf d hd _)]; exact hI.z d q v ez
    · refine ⟨⟨hB.1.1, fun c' hc' => ?_⟩, h0, fun y hy => ?_⟩
      · rw [hc] at hc'
        obtain rfl := Option.some.inj hc'
        refine ⟨arr', e, setRow_heap w c arr _ e _ hh, by rw [hflat', ← hfl]; simp [arr']; omega, fun q y cv e1 e2 => ?_, hzn⟩
        have hql : q < xs.length * sz := hflat' ▸ lt_of_get e1
        -- the element and the place in it
        have hq1 : q % sz < sz := Nat.mod_lt _ h0
        have hq2 : q / sz < xs.length := Nat.div_lt_of_lt_mul (by rw [Nat.mul_comm]; exact hql)
        have hq0 : q = q / sz * sz + q % sz := by have := Nat.div_add_mod q sz; rw [Nat.mul_comm] at this; omega
        simp only [arr', List.getElem?_toArray] at e2
        rw [List.getElem?_append, List.getElem?_append] at e2
        simp only [List.length_append, hlen, Array.length_toList, hszl] at e2
        by_cases hjq : q / sz = j
        · have hx' : (xs.set j u')[q / sz]? = some u' := by rw [hjq]; simp [hjl]
          rw [hq0, flat_get _ sz hset _ _ u' hx' hq1, ← hv] at e1
          rw [List.getElem?_append, List.getElem?_append] at e1
          have hlc : (u.cells.take k).length = k := by simp; omega
          simp only [List.length_append, hlc, hs] at e1
          split at e1
          · rename_i hlt
            rw [if_pos (by rw [hq0, hjq]; omega)] at e2
            split at e1
            · rename_i hlt2
              rw [if_pos (by rw [hq0, hjq]; omega), List.getElem?_take, if_pos (by rw [hq0, hjq]; omega)] at e2
              rw [List.getElem?_take, if_pos hlt2] at e1
              refine hr q y cv ?_ (by simpa using e2)
              rw [hq0, flat_get xs sz hsz (q / sz) (q % sz) u (by rw [hjq]; exact hu) hq1]; exact e1
            · rename_i hlt2
              rw [if_neg (by rw [hq0, hjq]; omega)] at e2
              refine hvr (q % sz - k) y cv e1 ?_
              have : q - (j * sz + k) = q % sz - k := by rw [hjq] at hq0; omega
              rw [this] at e2; simpa using e2
          · rename_i hlt
            rw [if_neg (by rw [hq0, hjq]; omega), List.getElem?_drop] at e2
            rw [List.getElem?_drop] at e1
            have e3 : k + size + (q % sz - (k + size)) = q % sz := by omega
            rw [e3] at e1
            have e4 : j * sz + k + size + (q - (j * sz + k + size)) = q := by rw [hjq] at hq0; omega
            rw [e4] at e2
            refine hr q y cv ?_ (by simpa using e2)
            rw [hq0, flat_get xs sz hsz (q / sz) (q % sz) u (by rw [hjq]; exact hu) hq1]; exact e1
        · have hx0 : xs[q / sz]? = some xs[q / sz] := List.getElem?_eq_getElem hq2
          have hx' : (xs.set j u')[q / sz]? = some xs[q / sz] := by rw [List.getElem?_set_ne (fun e0 => hjq e0.symm)]; exact hx0
          rw [hq0, flat_get _ sz hset _ _ _ hx' hq1, ← flat_get xs sz hsz _ _ _ hx0 hq1, ← hq0] at e1
          refine hr q y cv e1 ?_
          have hord : q < j * sz ∨ (j + 1) * sz ≤ q := by
            rcases Nat.lt_or_gt_of_ne hjq with h | h
            · left
              have : q / sz * sz + sz ≤ j * sz := by rw [← Nat.succ_mul]; exact Nat.mul_le_mul_right _ h
              omega
            · right
              have : (j + 1) * sz ≤ q / sz * sz := Nat.mul_le_mul_right _ h
              omega
          rw [Nat.succ_mul] at hord
          rcases hord with h | h
          · rw [if_pos (by omega), if_pos (by omega), List.getElem?_take, if_pos (by omega)] at e2
            simpa using e2
          · rw [if_neg (by omega), List.getElem?_drop] at e2
            have e4 : j * sz + k + size + (q - (j * sz + k + size)) = q := by omega
            rw [e4] at e2
            simpa using e2
      · obtain ⟨m, hm, rfl⟩ := List.getElem_of_mem hy
        have hm' : m < xs.length := by simpa using hm
        rw [List.getElem_set]
        split
        · exact hu'l
        · exact hsz m _ (List.getElem?_eq_getElem hm')
  unfold Oper.wp
  have : (execOp a.eval o).run P w = .ok .skip (w.setRow c arr') := by
    simp only [execOp, ho, he, Instr.storeAt, Instr.sureAddr, storeVar, Sem.run_bind, Sem.run_pure, Result.andThen_ok, ht.size, hszl, ne_eq, not_true_eq_false, if_false, hrun, arr']
  rw [this]
  exact hK undef _ G ⟨.und _, hinv, .refl _, ⟨rfl, rfl, rfl, by simp, .refl _, fun _ _ _ e => .inl e, fun d hd hn => hf d (fun e => hn i (e ▸ .inl hc)) _, fun m d hd => .inr ⟨m, hd⟩, loop_of_same fun d hd => by
      by_cases e0 : d = c
      · exact .inr fun rec h => by rw [e0, hh] at h; cases h
      · exact .inl (hf d e0 _)⟩⟩

end
end Go.Proofs.YtelgmdljcbkniaaDoor.Ai
