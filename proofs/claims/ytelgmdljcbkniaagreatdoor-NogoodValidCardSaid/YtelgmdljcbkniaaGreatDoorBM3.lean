/- An interpreter of values for the model's code, part 3: see the comments ahead of each section. -/
import Derived.Test.YtelgmdljcbkniaaGreatDoorBM2
/- An interpreter of values for the model's code, base text 16: more operations. -/
namespace Go.Proofs.YtelgmdljcbkniaaGreatDoor.Ai
noncomputable section
open Go
set_option linter.unusedVariables false

/-! ### elements -/

theorem ri_elem {Z : ZM} {ex : Bool} {xs : List AV} {sz c q cap : Nat} (h1 : ∀ (j : Nat) (x : AV), xs[j]? = some x → x.cells.length = sz)
    (h2 : ∀ (j : Nat) (x : AV) (q' : Nat) v cv, xs[j]? = some x → x.cells[q']? = some v → Z c (q + j * sz + q') = some cv → RI Z v cv)
    (h3 : ∀ (j q' : Nat), j < xs.length → q' < sz → ∃ cv, Z c (q + j * sz + q') = some cv) {i : Nat} {u : AV} (hu : xs[i]? = some u) (hs0 : 0 < sz) : RI Z (.eptr [u] 0 0) (.pointer (some ⟨c, q + i * sz, none⟩)) := by
  have := RI.eptr (Z := Z) [u] 0 0 sz c (q + i * sz) (fun j x hx => ?_) (fun j x q' v cv hx hq hz => ?_) (fun j q' hj hq => ?_) (by simp) hs0
  · simpa using this
  · cases j with
    | zero => simp at hx; subst hx; exact h1 i _ hu
    | succ j => simp at hx
  · cases j with
    | zero => simp at hx; subst hx; exact h2 i _ q' v cv hu hq (by simpa using hz)
    | succ j => simp at hx
  · have : j = 0 := by simpa using hj
    subst this
    obtain ⟨cv, e⟩ := h3 i q' (lt_of_get hu) hq
    exact ⟨cv, by simpa using e⟩

theorem op_iaddr1 {P : Program} {o : Oper} {s : St} {t e : TypeId} {x y : Operand} {ex : Bool} {xs : List AV} {k : IntKind} {n : Int} {u : AV} {size bytes : Nat} {z : Value} {d : TypeDesc} (ht : P.underlying t = some (.slice e)) (he : Inf P e size bytes z d)
    (ho : o.op = .indexAddr t x y) (hx : ev s.env x = some (.lst ex xs)) (hy : ev s.env y = some (.int k n)) (h0 : 0 ≤ n) (hu : xs[n.toNat]? = some u) (hs : u.cells.length = size) (hs0 : 0 < size) :
    OpT P o s (.eptr [u] 0 0) s.bs :=
  op_pure fun G w a hI hE => by
    have hlt := lt_of_get hu
    rcases (ev_r hE hx).lst_inv with ⟨rfl, _⟩ | ⟨sz, c, q, cap, hv, h1, h2, h3, h4, h5⟩
    · simp at hlt
    · have hsz : sz = size := by rw [← hs]; exact (h1 _ u hu).symm
      subst hsz
      have hn : n < (xs.length : Int) := by omega
      exact ⟨_, by simp [execOp, ho, hv, (ev_r hE hy).int_inv, Instr.indexAt, asIntOf, run_underlying ht, h0, hn, he.size, addr_add], .imm _ _ (ri_elem (ex := ex) (cap := cap) h1 h2 h3 hu hs0)⟩

theorem R.gsl_at {G : Ghost} {bs : List Blk} {w : World} (hI : Inv G bs w) {i n e sz : Nat} {xs : List AV} {cv : Value} (h : R G (.gsl i n) cv) (hb : bat bs i = .grow e sz xs) (hn : n = xs.length) : R G (.lst false xs) cv :=
  .imm _ _ (h.gsl_lst hI (get_bat _ _ _ hb (by simp)) hn.symm)

theorem op_iaddr_g {P : Program} {o : Oper} {s : St} {t e e' : TypeId} {x y : Operand} {i ln sz : Nat} {xs : List AV} {k : IntKind} {n : Int} {u : AV} {size bytes : Nat} {z : Value} {d : TypeDesc} (ht : P.underlying t = some (.slice e)) (he : Inf P e size bytes z d)
    (ho : o.op = .indexAddr t x y) (hx : ev s.env x = some (.gsl i ln)) (hb : bat s.bs i = .grow e' sz xs) (hl : ln = xs.length) (hy : ev s.env y = some (.int k n)) (h0 : 0 ≤ n) (hu : xs[n.toNat]? = some u) (hs : u.cells.length = size) (hs0 : 0 < size) :
    OpT P o s (.eptr [u] 0 0) s.bs :=
  op_pure fun G w a hI hE => by
    have hlt := lt_of_get hu
    rcases ((ev_r hE hx).gsl_at hI hb hl).lst_inv with ⟨rfl, _⟩ | ⟨sz, c, q, cap, hv, h1, h2, h3, h4, h5⟩
    · simp at hlt
    · have hsz : sz = size := by rw [← hs]; exact (h1 _ u hu).symm
      subst hsz
      have hn : n < (xs.length : Int) := by omega
      exact ⟨_, by simp [execOp, ho, hv, (ev_r hE hy).int_inv, Instr.indexAt, asIntOf, run_underlying ht, h0, hn, he.size, addr_add], .imm _ _ (ri_elem (ex := false) (cap := cap) h1 h2 h3 hu hs0)⟩

/-- An element of a slice that was made here. -/
theorem op_iaddr_s {P : Program} {o : Oper} {s : St} {t e : TypeId} {x y : Operand} {i q sz len : Nat} {cap : Option Nat} {k : IntKind} {n : Int} {size bytes : Nat} {z : Value} {d : TypeDesc} (ht : P.underlying t = some (.slice e)) (he : Inf P e size bytes z d)
    (ho : o.op = .indexAddr t x y) (hx : ev s.env x = some (.slc i q sz len cap)) (hy : ev s.env y = some (.int k n)) (h0 : 0 ≤ n) (hn : n.toNat < len) (hs : sz = size) :
    OpT P o s (.rptr i (q + n.toNat) sz 0) s.bs :=
  op_pure fun G w a hI hE => by
    subst hs
    obtain ⟨c, ccap, hc, hl, _, hv⟩ := (ev_r hE hx).slc_inv
    have hn' : n < (len : Int) := by omega
    refine ⟨_, by simp [execOp, ho, hv, (ev_r hE hy).int_inv, Instr.indexAt, asIntOf, run_underlying ht, h0, hn', he.size, addr_add]; rfl, ?_⟩
    have e0 : q * sz + n.toNat * sz = (q + n.toNat) * sz + 0 := by rw [Nat.add_mul]; omega
    rw [e0]
    exact .rptr i (q + n.toNat) sz 0 c hc

theorem R.rptr_inv {G : Ghost} {i j sz o : Nat} {cv : Value} (h : R G (.rptr i j sz o) cv) : ∃ c, G.cl i = some c ∧ cv = .pointer (some ⟨c, j * sz + o, none⟩) := by
  cases h with
  | imm _ _ h => cases h
  | rptr _ _ _ _ c h => exact ⟨c, h, rfl⟩

theorem inv_rows {G : Ghost} {bs : List Blk} {w : World} (hI : Inv G bs w) {i c sz : Nat} {xs : List AV} (hb : bat bs i = .rows sz xs) (hc : G.cl i = some c) :
    ∃ arr e, w.heap[c]? = some (.cells arr e (0, 0)) ∧ (flat xs).length ≤ arr.size ∧ (∀ (j : Nat) v cv, (flat xs)[j]? = some v → arr[j]? = some cv → R G v cv) ∧ (∀ o, G.Z c o = none) ∧ 0 < sz ∧ ∀ (j : Nat) (x : AV), xs[j]? = some x → x.cells.length = sz := by
  have h := hI.batOk i
  rw [hb] at h
  obtain ⟨arr, e, h1, h2, h3, h4⟩ := h.1.2 c hc
  exact ⟨arr, e, h1, h2, h3, h4, h.2.1, fun j x hx => h.2.2 x (List.mem_of_getElem? hx)⟩

theorem op_faddr_r {P : Program} {o : Oper} {s : St} {t : TypeId} {x : Operand} {fs : Array Field} {j : Nat} {f : Field} {i m sz k size bytes : Nat} {z : Value} {d : TypeDesc} (ht : P.underlying t = some (.struct fs)) (hj : fs[j]? = some f)
    (hf : Inf P f.type size bytes z d) (h0 : (size == 0) = false) (ho : o.op = .fieldAddr t x j) (hx : ev s.env x = some (.rptr i m sz k)) : OpT P o s (.rptr i m sz (k + f.offset)) s.bs :=
  op_pure fun G w a hI hE => by
    obtain ⟨c, hc, he⟩ := (ev_r hE hx).rptr_inv
    refine ⟨_, by simp [execOp, ho, he, Instr.fieldAt, run_underlying ht, hj, Instr.sureAddr, run_fieldPlace hf h0, addr_add]; rfl, ?_⟩
    rw [Nat.add_assoc]
    exact .rptr i m sz (k + f.offset) c hc

theorem op_load_r {P : Program} {o : Oper} {s : St} {t : TypeId} {x : Operand} {size bytes : Nat} {z : Value} {d : TypeDesc} {i j sz k : Nat} {xs : List AV} {u v : AV} (ht : Inf P t size bytes z d) (hd : isAggD d = false)
    (ho : o.op = .load t x) (hx : ev s.env x = some (.rptr i j sz k)) (hb : bat s.bs i = .rows sz xs) (hu : xs[j]? = some u) (hv : u.cells[k]? = some v) : OpT P o s v s.bs :=
  op_pure fun G w a hI hE => by
    obtain ⟨c, hc, he⟩ := (ev_r hE hx).rptr_inv
    obtain ⟨arr, e, hh, hl, hr, _, h0, hsz⟩ := inv_rows hI hb hc
    have hk : k < sz := hsz j u hu ▸ lt_of_get hv
    have hf := (flat_get xs sz hsz j k u hu hk).trans hv
    have hlt : j * sz + k < arr.size := Nat.lt_of_lt_of_le (lt_of_get hf) hl
    have hcell : w.cell? ⟨c, j * sz + k, none⟩ = some arr[j * sz + k] := by simp [World.cell?, hh, hlt]
    exact ⟨arr[j * sz + k], by simp [execOp, ho, he, Instr.loadAt, Instr.sureAddr, loadVar, ht.isAgg, hd, hcell], hr _ v _ hf (by simp [hlt])⟩

theorem op_load_agg_r {P : Program} {o : Oper} {s : St} {t : TypeId} {x : Operand} {size bytes : Nat} {z : Value} {d : TypeDesc} {i j sz k : Nat} {xs ds : List AV} {u : AV} (ht : Inf P t size bytes z d) (hd : isAggD d = true)
    (ho : o.op = .load t x) (hx : ev s.env x = some (.rptr i j sz k)) (hb : bat s.bs i = .rows sz xs) (hu : xs[j]? = some u) (hs : k + size ≤ u.cells.length) (hv : (u.cells.drop k).take size = ds) : OpT P o s (.agg ds) s.bs :=
  op_pure fun G w a hI hE => by
    subst hv
    obtain ⟨c, hc, he⟩ := (ev_r hE hx).rptr_inv
    obtain ⟨arr, e, hh, hl, hr, _, h0, hsz⟩ := inv_rows hI hb hc
    have hul := hsz j u hu
    have fl : ∀ q, q < size → (flat xs)[j * sz + k + q]? = some (u.cells[k + q]?.getD .und) := fun q hq => by
      rw [Nat.add_assoc, flat_get xs sz hsz j (k + q) u hu (by omega), List.getElem?_eq_getElem (by omega)]; rfl
    have hlen : j * sz + k + size ≤ arr.size := by
      rcases Nat.eq_zero_or_pos size with h | h
      · subst h
        by_cases hk : k < sz
        · have := lt_of_get ((flat_get xs sz hsz j k u hu hk).trans (List.getElem?_eq_getElem (by omega))); omega
        · have hk0 : k = sz := by omega
          have := lt_of_get ((flat_get xs sz hsz j (k - 1) u hu (by omega)).trans (List.getElem?_eq_getElem (by omega))); omega
      · have := lt_of_get (fl (size - 1) (by omega)); omega
    have hrun := loadCells_at (P := P) hh size (o := j * sz + k) hlen
    refine ⟨.agg (arr.extract (j * sz + k) (j * sz + k + size)), by simp [execOp, ho, he, Instr.loadAt, Instr.sureAddr, loadVar, ht.isAgg, hd, ht.size, hrun], .agg _ _ (by simp; omega) fun q v cv e1 e2 => ?_⟩
    rw [List.getElem?_take] at e1
    split at e1
    · rename_i hq
      rw [List.getElem?_drop] at e1
      rw [Array.getElem?_extract] at e2
      split at e2
      · have := fl q hq
        rw [e1] at this
        exact hr _ v cv this e2
      · cases e2
    · cases e1

theorem flat_len : ∀ (xs : List AV) (sz : Nat), (∀ (j : Nat) (x : AV), xs[j]? = some x → x.cells.length = sz) → (flat xs).length = xs.length * sz
  | [], _, _ => by simp [flat]
  | y :: r, sz, h => by
    have := flat_len r sz fun j x hx => h (j + 1) x (by simpa using hx)
    show (y.cells ++ flat r).length = _
    rw [List.length_append, this, h 0 y rfl, List.length_cons, Nat.succ_mul]; omega

/-- An element, or a part of it, is written. -/
theorem op_store_r {P : Program} {o : Oper} {s : St} {t : TypeId} {p x : Operand} {size bytes : Nat} {z : Value} {d : TypeDesc} {i j sz k : Nat} {xs : List AV} {u u' v : AV} (ht : Inf P t size bytes z d)
    (ho : o.op = .store t p x) (hp : ev s.env p = some (.rptr i j sz k)) (hx : ev s.env x = some v) (hb : bat s.bs i = .rows sz xs) (hu : xs[j]? = some u) (hs : v.cells.length = size) (h1 : v.cells.all AV.one = true) (hk : k + size ≤ u.cells.length)
    (hv : u.cells.take k ++ v.cells ++ u.cells.drop (k + size) = u'.cells) : OpT P o s (.und) (bset s.bs i (.rows sz (xs.set j u'))) := by
  refine OpT.of (by simp [ho]) ?_
  intro G w a hI hE K Q hK
  obtain ⟨c, hc, he⟩ := (ev_r hE hp).rptr_inv
  obtain ⟨arr, e, hh, hl, hr, hzn, h0, hsz⟩ := inv_rows hI hb hc
  obtain ⟨hvl, hvr, hv1⟩ := (ev_r hE hx).cells h1
  have hul := hsz j u hu
  have hjl := lt_of_get hu
  have hfl : (flat xs).length = xs.length * sz := flat_len xs sz hsz
  have hjs : j * sz + sz ≤ xs.length * sz := by rw [← Nat.succ_mul]; exact Nat.mul_le_mul_right _ hjl
  have hrun := run_storeCells_at P c (j * sz + k) e (a.eval x).cells.toList 0 arr w hh (by simp; omega) hv1
  simp only [Nat.add_zero] at hrun
  have hu'l : u'.cells.length = sz := by rw [← hv]; simp; omega
  have hB := hI.batOk i
  rw [hb] at hB
  have hf : ∀ d, d ≠ c → ∀ arr', (w.setRow c arr').heap[d]? = w.heap[d]? := fun d hd arr' => setRow_other w c d _ hd
  let arr' := (arr.toList.take (j * sz + k) ++ (a.eval x).cells.toList ++ arr.toList.drop (j * sz + k + (a.eval x).cells.toList.length)).toArray
  have hlen : (arr.toList.take (j * sz + k)).length = j * sz + k := by simp; omega
  have hszl : (a.eval x).cells.size = size := hvl.trans hs
  have hset : ∀ (m : Nat) (x : AV), (xs.set j u')[m]? = some x → x.cells.length = sz := fun m x hx => by
    rw [List.getElem?_set] at hx
    by_cases h : j = m
    · subst h; simp only [if_true, hjl] at hx; obtain rfl := Option.some.inj hx; exact hu'l
    · rw [if_neg h] at hx; exact hsz m x hx
  have hflat' : (flat (xs.set j u')).length = xs.length * sz := by rw [flat_len _ sz hset, List.length_set]
  have hinv : Inv G (bset s.bs i (.rows sz (xs.set j u'))) (w.setRow c arr') := by
    refine hI.turn _ (fun _ _ => rfl) (fun _ _ => rfl) (.refl _) (fun d hd hno => hf d (fun e0 => hno (e0 ▸ .inl hc)) _) (fun _ _ _ _ _ => rfl) (fun d q v ez => ?_) ?_ (fun d hd => .inr hd)
    · have hd : d ≠ c := fun e0 => by rw [e0, hzn q] at ez; cases ez
      rw [rd_of_frame (hf d hd _)]; exact hI.z d q v ez
    · refine ⟨⟨hB.1.1, fun c' hc' => ?_⟩, h0, fun y hy => ?_⟩
      · rw [hc] at hc'
        obtain rfl := Option.some.inj hc'
        refine ⟨arr', e, setRow_heap w c arr _ e _ hh, by rw [hflat', ← hfl]; simp [arr']; omega, fun q y cv e1 e2 => ?_, hzn⟩
        have hql : q < xs.length * sz := hflat' ▸ lt_of_get e1
        -- the element and the place in it
        have hq1 : q % sz < sz := Nat.mod_lt _ h0
        have hq2 : q / sz < xs.length := Nat.div_lt_of_lt_mul (by rw [Nat.mul_comm]; exact hql)
        have hq0 : q = q / sz * sz + q % sz := by have := Nat.div_add_mod q sz; rw [Nat.mul_comm] at this; omega
        simp only [arr', List.getElem?_toArray] at e2
        rw [List.getElem?_append, List.getElem?_append] at e2
        simp only [List.length_append, hlen, Array.length_toList, hszl] at e2
        by_cases hjq : q / sz = j
        · have hx' : (xs.set j u')[q / sz]? = some u' := by rw [hjq]; simp [hjl]
          rw [hq0, flat_get _ sz hset _ _ u' hx' hq1, ← hv] at e1
          rw [List.getElem?_append, List.getElem?_append] at e1
          have hlc : (u.cells.take k).length = k := by simp; omega
          simp only [List.length_append, hlc, hs] at e1
          split at e1
          · rename_i hlt
            rw [if_pos (by rw [hq0, hjq]; omega)] at e2
            split at e1
            · rename_i hlt2
              rw [if_pos (by rw [hq0, hjq]; omega), List.getElem?_take, if_pos (by rw [hq0, hjq]; omega)] at e2
              rw [List.getElem?_take, if_pos hlt2] at e1
              refine hr q y cv ?_ (by simpa using e2)
              rw [hq0, flat_get xs sz hsz (q / sz) (q % sz) u (by rw [hjq]; exact hu) hq1]; exact e1
            · rename_i hlt2
              rw [if_neg (by rw [hq0, hjq]; omega)] at e2
              refine hvr (q % sz - k) y cv e1 ?_
              have : q - (j * sz + k) = q % sz - k := by rw [hjq] at hq0; omega
              rw [this] at e2; simpa using e2
          · rename_i hlt
            rw [if_neg (by rw [hq0, hjq]; omega), List.getElem?_drop] at e2
            rw [List.getElem?_drop] at e1
            have e3 : k + size + (q % sz - (k + size)) = q % sz := by omega
            rw [e3] at e1
            have e4 : j * sz + k + size + (q - (j * sz + k + size)) = q := by rw [hjq] at hq0; omega
            rw [e4] at e2
            refine hr q y cv ?_ (by simpa using e2)
            rw [hq0, flat_get xs sz hsz (q / sz) (q % sz) u (by rw [hjq]; exact hu) hq1]; exact e1
        · have hx0 : xs[q / sz]? = some xs[q / sz] := List.getElem?_eq_getElem hq2
          have hx' : (xs.set j u')[q / sz]? = some xs[q / sz] := by rw [List.getElem?_set_ne (fun e0 => hjq e0.symm)]; exact hx0
          rw [hq0, flat_get _ sz hset _ _ _ hx' hq1, ← flat_get xs sz hsz _ _ _ hx0 hq1, ← hq0] at e1
          refine hr q y cv e1 ?_
          have hord : q < j * sz ∨ (j + 1) * sz ≤ q := by
            rcases Nat.lt_or_gt_of_ne hjq with h | h
            · left
              have : q / sz * sz + sz ≤ j * sz := by rw [← Nat.succ_mul]; exact Nat.mul_le_mul_right _ h
              omega
            · right
              have : (j + 1) * sz ≤ q / sz * sz := Nat.mul_le_mul_right _ h
              omega
          rw [Nat.succ_mul] at hord
          rcases hord with h | h
          · rw [if_pos (by omega), if_pos (by omega), List.getElem?_take, if_pos (by omega)] at e2
            simpa using e2
          · rw [if_neg (by omega), List.getElem?_drop] at e2
            have e4 : j * sz + k + size + (q - (j * sz + k + size)) = q := by omega
            rw [e4] at e2
            simpa using e2
      · obtain ⟨m, hm, rfl⟩ := List.getElem_of_mem hy
        have hm' : m < xs.length := by simpa using hm
        rw [List.getElem_set]
        split
        · exact hu'l
        · exact hsz m _ (List.getElem?_eq_getElem hm')
  unfold Oper.wp
  have : (execOp a.eval o).run P w = .ok .skip (w.setRow c arr') := by
    simp only [execOp, ho, he, Instr.storeAt, Instr.sureAddr, storeVar, Sem.run_bind, Sem.run_pure, Result.andThen_ok, ht.size, hszl, ne_eq, not_true_eq_false, if_false, hrun, arr']
  rw [this]
  exact hK undef _ G ⟨.und _, hinv, .refl _, ⟨rfl, rfl, rfl, by simp, .refl _, fun _ _ _ e => .inl e, fun d hd hn => hf d (fun e => hn i (e ▸ .inl hc)) _, fun m d hd => .inr ⟨m, hd⟩, loop_of_same fun d hd => by
      by_cases e0 : d = c
      · exact .inr fun rec h => by rw [e0, hh] at h; cases h
      · exact .inl (hf d e0 _)⟩⟩

end
end Go.Proofs.YtelgmdljcbkniaaGreatDoor.Ai

/- An interpreter of values for the model's code, base text 17: slices made, grown and cut; lengths; nil. -/
namespace Go.Proofs.YtelgmdljcbkniaaGreatDoor.Ai
noncomputable section
open Go
set_option linter.unusedVariables false

/-! ### a slice that is made -/

theorem op_make {P : Program} {o : Oper} {s : St} {t e : TypeId} {x y : Operand} {kl kc : IntKind} {n : Int} {size bytes : Nat} {z : Value} {d : TypeDesc} {v : AV} {k : Nat} (ht : P.underlying t = some (.slice e)) (he : Inf P e size bytes z d) (hz : ofConst z = some v)
    (h1 : v.cells.all AV.one = true) (hsz : v.cells.length = size) (hs0 : 0 < size) (ho : o.op = .makeSlice t x y) (hx : ev s.env x = some (.int kl n)) (hy : ev s.env y = some (.int kc n)) (h0 : 0 ≤ n) (hb : (bytes : Int) * n ≤ 281474976710656) (hn : n ≤ 9223372036854775807)
    (hk : bat s.bs k = .gone) : OpT P o s (.slc k 0 size n.toNat (some n.toNat)) (bset s.bs k (.rows size (List.replicate n.toNat v))) := by
  refine OpT.of (by simp [ho]) ?_
  intro G w a hI hE K Q hK
  obtain ⟨ie, hie, hsize, hby, hzz⟩ := he.info
  have hr : R G v z := .imm _ _ (ofConst_ri hz)
  obtain ⟨hl, hc, _⟩ := hr.cells h1
  have hrun := run_make (P := P) w t e ie z ht hie hzz kl kc n n h0 (Int.le_refl _) (by rw [hby]; exact hb) hn
  rw [hsize] at hrun
  have hzl : z.cells.size = size := hl.trans hsz
  have hcells : (madeCells z.cells (n.toNat * size)).size = n.toNat * size := size_madeCells _ _
  have hget : ∀ q cv, (madeCells z.cells (n.toNat * size))[q]? = some cv → z.cells[q % size]? = some cv := fun q cv e1 => by
    have hq : q % size < z.cells.size := by rw [hzl]; exact Nat.mod_lt _ hs0
    simp only [madeCells, Array.getElem?_map, Option.map_eq_some_iff] at e1
    obtain ⟨m, hm, rfl⟩ := e1
    have hm' : m = q := by
      have := Array.getElem?_eq_some_iff.1 hm
      obtain ⟨_, h⟩ := this
      simpa using h.symm
    subst hm'
    rw [hzl, getElem!_pos z.cells (m % size) hq]
    simp [hq]
  have hv : ∀ (j : Nat) (x : AV), (List.replicate n.toNat v)[j]? = some x → x.cells.length = size := fun j x hx => by
    rw [List.getElem?_replicate] at hx
    split at hx
    · obtain rfl := Option.some.inj hx; exact hsz
    · cases hx
  obtain ⟨G', hI', hle, hev, hp⟩ := after_cells hI hk (madeCells z.cells (n.toNat * size)) e (flat (List.replicate n.toNat v)) (by rw [flat_len _ size hv, hcells]; simp) fun q u cu e1 e2 => by
    have hql : q < n.toNat * size := by have := lt_of_get e1; rw [flat_len _ size hv] at this; simpa using this
    have hq1 : q % size < size := Nat.mod_lt _ hs0
    have hq2 : q / size < n.toNat := Nat.div_lt_of_lt_mul (by rw [Nat.mul_comm]; exact hql)
    have hq0 : q = q / size * size + q % size := by have := Nat.div_add_mod q size; rw [Nat.mul_comm] at this; omega
    have hx : (List.replicate n.toNat v)[q / size]? = some v := by rw [List.getElem?_replicate, if_pos hq2]
    rw [hq0, flat_get _ size hv _ _ v hx hq1] at e1
    exact hc _ u cu e1 (hget q cu e2)
  have hI'' : Inv G' (bset s.bs k (.rows size (List.replicate n.toNat v))) (w.alloc (.cells (madeCells z.cells (n.toNat * size)) e)) := by
    refine .of_bat (fun i => ?_) hI'.inj hI'.z
    have h := hI'.batOk i
    rw [bat_bset] at h ⊢
    split at h
    · rename_i e0; rw [if_pos e0]
      exact ⟨h, hs0, fun x hx => by obtain ⟨j, hj, rfl⟩ := List.getElem_of_mem hx; exact hv j _ (List.getElem?_eq_getElem hj)⟩
    · rename_i e0; rw [if_neg e0]; exact h
  unfold Oper.wp execOp
  simp only [ho, (ev_r hE hx).int_inv, (ev_r hE hy).int_inv, Sem.run_bind, hrun, Result.andThen_ok]
  refine hK _ _ G' ⟨?_, hI'', hle, hev⟩
  have := R.slc (G := G') k 0 size n.toNat (some n.toNat) w.heap.size n.toNat hp (Nat.le_refl _) (fun m hm => Option.some.inj hm)
  simpa using this

/-! ### append -/

/-- What is appended: its elements. -/
theorem imm_lst {G : Ghost} {bs : List Blk} {w : World} (hI : Inv G bs w) {yv : AV} {cy : Value} {ys : List AV} (h : imm bs yv = some (.lst false ys)) (hr : R G yv cy) : RI G.Z (.lst false ys) cy := imm_ri hI h hr

theorem op_append_g {P : Program} {o : Oper} {s : St} {t e e' : TypeId} {x y : Operand} {size bytes : Nat} {z : Value} {d : TypeDesc} {i n : Nat} {xs ys : List AV} {yv : AV} (ht : P.underlying t = some (.slice e)) (he : Inf P e size bytes z d) (hzs : z.cells.size = size) (hs0 : 0 < size)
    (ho : o.op = .call { callee := .builtin .append, args := #[x, y], argTypes := #[t, t] }) (hx : ev s.env x = some (.gsl i n)) (hb : bat s.bs i = .grow e size xs) (hn : n = xs.length) (hy : ev s.env y = some yv) (hi : imm s.bs yv = some (.lst false ys)) (hsz : Sized size ys)
    (hbound : (xs.length + ys.length) * bytes ≤ 140737488355328) (hmax : xs.length + ys.length ≤ maxLen) : OpT P o s (.gsl i (xs ++ ys).length) (bset s.bs i (.grow e size (xs ++ ys))) := by
  refine OpT.of (by simp [ho]) ?_
  intro G w a hI hE K Q hK
  have hyr := imm_lst hI hi (ev_r hE hy)
  have hB := hI.batOk i
  rw [hb] at hB
  obtain ⟨g, hg, hv⟩ : ∃ g, G.gr i = some g ∧ a.eval x = g.hv := by
    have hxr := ev_r hE hx
    generalize a.eval x = vx at hxr
    cases hxr with
    | imm _ _ h => cases h
    | gsl _ _ b l c h => exact ⟨_, h, rfl⟩
    | stale _ _ g b l c h hlt =>
      have := (hB.2 g h).1
      omega
  obtain ⟨v', w', G', hr, hA⟩ := after_append (P := P) (ty := o.type) ht he hzs hs0 hI hb hg hyr hsz hbound hmax
  rw [List.length_append] at hK
  unfold Oper.wp execOp
  simp only [ho, resolve, invoke, builtin, Sem.run_bind, Sem.run_pure, Result.andThen_ok, List.map_toArray, List.map_cons, List.map_nil, hv, hr]
  exact hK _ _ G' hA

theorem bset_bset : ∀ (bs : List Blk) (k : Nat) (b c : Blk), bset (bset bs k b) k c = bset bs k c
  | [], 0, _, _ => rfl
  | [], k + 1, b, c => by simp only [bset]; rw [bset_bset [] k b c]
  | x :: r, 0, _, _ => rfl
  | x :: r, k + 1, b, c => by simp only [bset]; rw [bset_bset r k b c]

/-- A list that is nil grows: at a free place. -/
theorem op_append_n {P : Program} {o : Oper} {s : St} {t e : TypeId} {x y : Operand} {size bytes : Nat} {z : Value} {d : TypeDesc} {k : Nat} {ys : List AV} {yv : AV} (ht : P.underlying t = some (.slice e)) (he : Inf P e size bytes z d) (hzs : z.cells.size = size) (hs0 : 0 < size)
    (ho : o.op = .call { callee := .builtin .append, args := #[x, y], argTypes := #[t, t] }) (hx : ev s.env x = some .nils) (hk : bat s.bs k = .gone) (hy : ev s.env y = some yv) (hi : imm s.bs yv = some (.lst false ys)) (hsz : Sized size ys)
    (hbound : ys.length * bytes ≤ 140737488355328) (hmax : ys.length ≤ maxLen) : OpT P o s (.gsl k ys.length) (bset s.bs k (.grow e size ys)) := by
  refine OpT.of (by simp [ho]) ?_
  intro G w a hI hE K Q hK
  have hyr := imm_lst hI hi (ev_r hE hy)
  have hv : a.eval x = .slice none 0 0 := by
    have hxr := ev_r hE hx
    generalize a.eval x = vx at hxr
    cases hxr with
    | imm _ _ h => cases h; rfl
  have hg0 := hI.batOk k
  rw [hk] at hg0
  let G1 : Ghost := { G with gr := fun j => if j = k then some ⟨0, .slice none 0 0⟩ else G.gr j }
  have hgr : G1.gr k = some ⟨0, .slice none 0 0⟩ := by simp [G1]
  have hne : ∀ j, j ≠ k → G1.gr j = G.gr j := fun j hj => by simp [G1, hj]
  have hle : G.le G1 := ⟨fun _ _ h => h, fun j g h => ⟨g, by rw [hne j (fun e0 => by rw [e0, hg0.2] at h; cases h)]; exact h, .inl rfl⟩, .refl _⟩
  have hown : ∀ c, ¬ G1.owns k c := fun c hc => by
    rcases hc with hc | ⟨g, h1, h2⟩
    · rw [show G1.cl k = none from hg0.1] at hc; cases hc
    · rw [hgr] at h1; obtain rfl := Option.some.inj h1; simp [Value.ownBlock] at h2
  have hI1 : Inv G1 (bset s.bs k (.grow e size [])) w := hI.turn (G' := G1) (k := k) (.grow e size []) (fun _ _ => rfl) hne hle (fun _ _ _ => rfl) (fun _ _ _ _ _ => rfl) (fun c o v ez => hI.z c o v ez)
    ⟨hg0.1, fun g hg => by
      rw [hgr] at hg
      obtain rfl := Option.some.inj hg
      exact ⟨rfl, hs0, fun j x h => by simp at h, [], World.ownsRow_nil w 0 e size, fun j x q v cv h => by simp at h, fun c hc => by simp [Value.ownBlock] at hc⟩⟩ (fun c hc => absurd hc (hown c))
  obtain ⟨v', w', G', hr, hA⟩ := after_append (P := P) (ty := o.type) ht he hzs hs0 hI1 (xs := []) (by rw [bat_bset, if_pos rfl]) hgr (hyr.mono hle.Z) hsz (by simpa using hbound) (by simpa using hmax)
  have hbb : bset (bset s.bs k (.grow e size [])) k (.grow e size ([] ++ ys)) = bset s.bs k (.grow e size ys) := by
    rw [List.nil_append, bset_bset]
  rw [hbb] at hA
  have hlen : ([] : List AV).length + ys.length = ys.length := by simp
  rw [hlen] at hA
  have hA2 : After G w (.gsl k ys.length) (bset s.bs k (.grow e size ys)) v' w' G' := by
    refine ⟨hA.r, hA.inv, hle.trans hA.le, ⟨hA.ev.os, hA.ev.tape, hA.ev.output, hA.ev.size, hA.ev.Z, fun c o v e1 => ?_, fun c hc hn => hA.ev.frame c hc fun i hi => ?_, fun i c hc => ?_, hA.ev.loop⟩⟩
    · rcases hA.ev.newZ c o v e1 with h | h | ⟨i, h⟩
      · exact .inl h
      · exact .inr (.inl h)
      · by_cases hik : i = k
        · subst hik; exact absurd h (hown c)
        · exact .inr (.inr ⟨i, by unfold Ghost.owns at h ⊢; rw [hne i hik] at h; exact h⟩)
    · by_cases hik : i = k
      · subst hik; exact hown c hi
      · exact hn i (by unfold Ghost.owns at hi ⊢; rw [hne i hik] at hi; exact hi)
    · rcases hA.ev.own i c hc with h | ⟨j, h⟩
      · exact .inl h
      · by_cases hjk : j = k
        · subst hjk; exact absurd h (hown c)
        · exact .inr ⟨j, by unfold Ghost.owns at h ⊢; rw [hne j hjk] at h; exact h⟩
  unfold Oper.wp execOp
  simp only [ho, resolve, invoke, builtin, Sem.run_bind, Sem.run_pure, Result.andThen_ok, List.map_toArray, List.map_cons, List.map_nil, hv]
  rw [show (Builtin.append_ #[t, t] o.type #[.slice none 0 0, a.eval y]).run P w = .ok v' w' from hr]
  exact hK _ _ G' hA2

/-! ### lengths -/

theorem op_len_g {P : Program} {o : Oper} {s : St} {t e e' : TypeId} {x : Operand} {i n sz : Nat} {xs : List AV} (ht : P.underlying t = some (.slice e))
    (ho : o.op = .call { callee := .builtin .len, args := #[x], argTypes := #[t] }) (hx : ev s.env x = some (.gsl i n)) (hb : bat s.bs i = .grow e' sz xs) (hn : n = xs.length) : OpT P o s (.int .i64 n) s.bs :=
  op_pure fun G w a hI hE => by
    refine ⟨.int .i64 n, ?_, .imm _ _ (.int _ _)⟩
    subst hn
    rcases ((ev_r hE hx).gsl_at hI hb rfl).lst_inv with ⟨rfl, b0, hv⟩ | ⟨sz, c, q, cap, hv, _⟩ <;>
      simp [execOp, ho, resolve, invoke, builtin, Builtin.len_, run_underlying ht, hv, goInt]

theorem op_len_s {P : Program} {o : Oper} {s : St} {t e : TypeId} {x : Operand} {i q sz n : Nat} {cap : Option Nat} (ht : P.underlying t = some (.slice e))
    (ho : o.op = .call { callee := .builtin .len, args := #[x], argTypes := #[t] }) (hx : ev s.env x = some (.slc i q sz n cap)) : OpT P o s (.int .i64 n) s.bs :=
  op_pure fun G w a hI hE => by
    obtain ⟨c, ccap, hc, hl, _, hv⟩ := (ev_r hE hx).slc_inv
    exact ⟨.int .i64 n, by simp [execOp, ho, resolve, invoke, builtin, Builtin.len_, run_underlying ht, hv, goInt], .imm _ _ (.int _ _)⟩

theorem op_len_n {P : Program} {o : Oper} {s : St} {t e : TypeId} {x : Operand} (ht : P.underlying t = some (.slice e))
    (ho : o.op = .call { callee := .builtin .len, args := #[x], argTypes := #[t] }) (hx : ev s.env x = some .nils) : OpT P o s (.int .i64 0) s.bs :=
  op_pure fun G w a hI hE => by
    have hv : a.eval x = .slice none 0 0 := by
      have hxr := ev_r hE hx
      generalize a.eval x = vx at hxr
      cases hxr with | imm _ _ h => cases h; rfl
    exact ⟨.int .i64 0, by simp [execOp, ho, resolve, invoke, builtin, Builtin.len_, run_underlying ht, hv, goInt], .imm _ _ (.int _ _)⟩

/-! ### nil -/

inductive PtrV : AV → Bool → Prop where
  | nilp : PtrV .nilp true
  | ptr (i o : Nat) : PtrV (.ptr i o) false
  | rptr (i j z o : Nat) : PtrV (.rptr i j z o) false
  | eptr (xs : List AV) (i o : Nat) : PtrV (.eptr xs i o) false

theorem PtrV.val {G : Ghost} {v : AV} {b : Bool} {cv : Value} (h : PtrV v b) (hr : R G v cv) : ∃ p, cv = .pointer p ∧ p.isNone = b := by
  cases h with
  | nilp => cases hr with | imm _ _ h => cases h; exact ⟨none, rfl, rfl⟩
  | ptr => obtain ⟨c, _, rfl⟩ := hr.ptr_inv; exact ⟨_, rfl, rfl⟩
  | rptr => obtain ⟨c, _, rfl⟩ := hr.rptr_inv; exact ⟨_, rfl, rfl⟩
  | eptr => obtain ⟨sz, c, q, rfl, _⟩ := hr.eptr_inv; exact ⟨_, rfl, rfl⟩

theorem run_eqIn_nil {P : Program} {w : World} {t e : TypeId} (hu : P.underlying t = some (.pointer e)) (p : Option Addr) (d : Nat) : (Op.equalIn (d + 1) t (.pointer p) (.pointer none)).run P w = .ok p.isNone w := by
  cases p <;> simp [Op.equalIn, run_underlying hu]
theorem run_eq_nil {P : Program} {w : World} {t e : TypeId} (hu : P.underlying t = some (.pointer e)) (p : Option Addr) : (Op.equal t (.pointer p) (.pointer none)).run P w = .ok p.isNone w := run_eqIn_nil hu p 9999

theorem op_eqnil {P : Program} {o : Oper} {s : St} {t e t' : TypeId} {x y : Operand} {v : AV} {b : Bool} (hu : P.underlying t = some (.pointer e)) (ho : o.op = .binOp .eql t x y t')
    (hx : ev s.env x = some v) (hv : PtrV v b) (hy : ev s.env y = some .nilp) : OpT P o s (.bool b) s.bs :=
  op_pure fun G w a _ hE => by
    obtain ⟨p, h1, h2⟩ := hv.val (ev_r hE hx)
    obtain ⟨p2, h3, h4⟩ := PtrV.nilp.val (ev_r hE hy)
    obtain rfl : p2 = none := by cases p2 with | none => rfl | some _ => cases h4
    have hb : (binOp .eql t (.pointer p) (.pointer none)).run P w = .ok (.bool b) w := by
      show (do pure (Value.bool (← Op.equal t (.pointer p) (.pointer none))) : Sem Value).run P w = _
      rw [Sem.run_bind, run_eq_nil hu, h2]; rfl
    exact ⟨.bool b, by simp only [execOp, ho, h1, h3, eqGuard, Sem.run_bind, Sem.run_pure, ite_self, Result.andThen_ok, hb], .imm _ _ (.bool _)⟩

theorem op_nenil {P : Program} {o : Oper} {s : St} {t e t' : TypeId} {x y : Operand} {v : AV} {b : Bool} (hu : P.underlying t = some (.pointer e)) (ho : o.op = .binOp .neq t x y t')
    (hx : ev s.env x = some v) (hv : PtrV v b) (hy : ev s.env y = some .nilp) : OpT P o s (.bool (!b)) s.bs :=
  op_pure fun G w a _ hE => by
    obtain ⟨p, h1, h2⟩ := hv.val (ev_r hE hx)
    obtain ⟨p2, h3, h4⟩ := PtrV.nilp.val (ev_r hE hy)
    obtain rfl : p2 = none := by cases p2 with | none => rfl | some _ => cases h4
    have hb : (binOp .neq t (.pointer p) (.pointer none)).run P w = .ok (.bool (!b)) w := by
      show (do pure (Value.bool (!(← Op.equal t (.pointer p) (.pointer none)))) : Sem Value).run P w = _
      rw [Sem.run_bind, run_eq_nil hu, h2]; rfl
    exact ⟨.bool (!b), by simp only [execOp, ho, h1, h3, eqGuard, Sem.run_bind, Sem.run_pure, ite_self, Result.andThen_ok, hb], .imm _ _ (.bool _)⟩

theorem op_nilcheck {P : Program} {o : Oper} {s : St} {x : Operand} {v : AV} (ho : o.op = .nilCheck x) (hx : ev s.env x = some v) (hv : PtrV v false) : OpT P o s v s.bs :=
  op_pure fun G w a _ hE => by
    obtain ⟨p, h1, h2⟩ := hv.val (ev_r hE hx)
    obtain ⟨q, rfl⟩ : ∃ q, p = some q := by cases p with | none => cases h2 | some q => exact ⟨q, rfl⟩
    exact ⟨.pointer (some q), by simp [execOp, ho, h1], h1 ▸ ev_r hE hx⟩

/-! ### maps that nobody writes -/

theorem op_lookup_i {P : Program} {o : Oper} {s : St} {t kt et : TypeId} {kk : IntKind} {x y : Operand} {α : Type} {e : α → AV} {l : List (Int × α)} {n : Int} {z0 : α} {size bytes : Nat} {z : Value} {d : TypeDesc} (ok : Bool) (ht : P.underlying t = some (.map kt et)) (hkt : P.underlying kt = some (.int kk))
    (he : Inf P et size bytes z d) (hz : ofConst z = some (e z0)) (ho : o.op = .lookup t x y ok) (hx : ev s.env x = some (.imap (l.map fun p => .int kk p.1) (l.map fun p => e p.2))) (hy : ev s.env y = some (.int kk n)) :
    OpT P o s (if ok then .tup [e ((mget l n).getD z0), .bool (mget l n).isSome] else e ((mget l n).getD z0)) s.bs :=
  op_pure fun G w a hI hE => by
    obtain ⟨c, cks, cvs, hxe, hzc, h1, h2, hk, hv⟩ : ∃ c cks cvs, a.eval x = .map (some c) ∧ G.Z c 0 = some (mapCode cks cvs) ∧ cks.length = l.length ∧ cvs.length = l.length ∧
        (∀ (j : Nat) p ck, l[j]? = some p → cks[j]? = some ck → RI G.Z (.int kk p.1) ck) ∧ (∀ (j : Nat) p cv, l[j]? = some p → cvs[j]? = some cv → RI G.Z (e p.2) cv) := by
      have hxr := ev_r hE hx
      generalize a.eval x = vx at hxr
      cases hxr with
      | imm _ _ h =>
        cases h with
        | imap _ _ c cks cvs hz h1 h2 h3 hk hv =>
          exact ⟨c, cks, cvs, rfl, hz, by simpa using h1, by simpa using h2, fun j p ck e1 e2 => hk j _ ck (by rw [List.getElem?_map, e1]; rfl) e2, fun j p cv e1 e2 => hv j _ cv (by rw [List.getElem?_map, e1]; rfl) e2⟩
    have hrd := hI.z c 0 _ hzc
    obtain ⟨ents, clock, hh, e1, e2⟩ := rd_map hrd
    subst e1 e2
    have hl : ents.size = (l.map fun p => ((.int kk p.1, e p.2) : AV × AV)).length := by simpa using h1
    obtain ⟨cv, h1', h2'⟩ := run_lookup_int (G := G) (n := n) ht hkt he hz hh hl (fun j q ce f1 f2 => by
      rw [List.getElem?_map, Option.map_eq_some_iff] at f1
      obtain ⟨p, f1, rfl⟩ := f1
      exact ⟨hk j p ce.key f1 (by simp [f2]), .imm _ _ (hv j p ce.val f1 (by simp [f2]))⟩) ok
    cases ok with
    | false => exact ⟨cv, by simp [execOp, ho, hxe, (ev_r hE hy).int_inv, h1'], h2'⟩
    | true =>
      refine ⟨.tuple #[cv, .bool (mget l n).isSome], by simp [execOp, ho, hxe, (ev_r hE hy).int_inv, h1'], rtup (cvs := [cv, .bool (mget l n).isSome]) rfl fun j v c f1 f2 => ?_⟩
      match j, f1, f2 with
      | 0, f1, f2 => simp at f1 f2; subst f1 f2; exact h2'
      | 1, f1, f2 => simp at f1 f2; subst f1 f2; exact .imm _ _ (.bool _)
      | j + 2, f1, f2 => simp at f1

end
end Go.Proofs.YtelgmdljcbkniaaGreatDoor.Ai

/- An interpreter of values for the model's code, base text 18: what is asked of a piece of code, reckoned by evaluation. -/
namespace Go.Proofs.YtelgmdljcbkniaaGreatDoor.Ai
noncomputable section
open Go
set_option linter.unusedVariables false

/-- What is used of a type. -/
structure TInfo where
  size : Nat
  bytes : Nat
  zero : Value
  zav : AV
  desc : TypeDesc
  offs : List Nat
  pl : List (Nat × Nat)

structure TOk (P : Program) (t : Nat) (i : TInfo) : Prop where
  inf : Inf P t i.size i.bytes i.zero i.desc
  zav : ofConst i.zero = some i.zav ∧ i.zav.cells.all AV.one = true ∧ i.zav.cells.length = i.size ∧ i.zero.cells.size = i.size
  offs : ∀ (j : Nat) off, i.offs[j]? = some off → ∃ fs f size bytes z d, i.desc = .struct fs ∧ fs[j]? = some f ∧ f.offset = off ∧ Inf P f.type size bytes z d ∧ (size == 0) = false
  pl : i.pl ≠ [] → ∃ fs, i.desc = .struct fs ∧ Places P fs i.pl

structure Cx where
  P : Program
  ti : Nat → Option TInfo
  ok : ∀ t i, ti t = some i → TOk P t i
  mix : P.follows .mixedOrders = true

/-! ### small steps of evaluation -/

/-- Where the evaluation has to know x: it stops here as long as x is not told. -/
def optQ {α : Type} {K : α → Prop} : Option α → List Unit → Prop
  | some v, [] => K v
  | none, [] => False
  | x, _ :: r => optQ (K := K) x r
@[reducible] def optP {α : Type} (x : Option α) (K : α → Prop) : Prop := optQ x (K := K) []
theorem optP_inv {α : Type} {x : Option α} {K : α → Prop} (h : optP x K) : ∃ v, x = some v ∧ K v := by
  cases x with
  | none => exact h.elim
  | some v => exact ⟨v, rfl, h⟩
theorem oK {α : Type} {x : Option α} {v : α} {K : α → Prop} (h : x = some v) (k : K v) : optP x K := by rw [h]; exact k

def boolQ {A B : Prop} : Bool → List Unit → Prop
  | true, [] => A
  | false, [] => B
  | b, _ :: r => boolQ (A := A) (B := B) b r
@[reducible] def boolP (b : Bool) (A B : Prop) : Prop := boolQ b (A := A) (B := B) []
theorem boolP_inv {b : Bool} {A B : Prop} (h : boolP b A B) : (b = true ∧ A) ∨ (b = false ∧ B) := by
  cases b with
  | true => exact .inl ⟨rfl, h⟩
  | false => exact .inr ⟨rfl, h⟩
theorem bT {b : Bool} {A B : Prop} (h : b = true) (k : A) : boolP b A B := by rw [h]; exact k
theorem bF {b : Bool} {A B : Prop} (h : b = false) (k : B) : boolP b A B := by rw [h]; exact k
theorem bS {b : Bool} {A B : Prop} (ht : b = true → A) (hf : b = false → B) : boolP b A B := by
  cases b with
  | true => exact ht rfl
  | false => exact hf rfl
theorem bD {p : Prop} [Decidable p] {A B : Prop} (ht : p → A) (hf : ¬p → B) : boolP (decide p) A B := by
  by_cases h : p
  · exact bT (decide_eq_true h) (ht h)
  · exact bF (decide_eq_false h) (hf h)

structure Chk (c K : Prop) : Prop where
  h : c
  k : K

def nth (l : List AV) : Nat → Option AV := List.rec (fun _ => none) (fun x _ ih n => Nat.rec (some x) (fun n _ => ih n) n) l
theorem nth_eq : ∀ (l : List AV) (n : Nat), nth l n = l[n]?
  | [], n => by simp [show nth [] n = none from rfl]
  | x :: r, 0 => rfl
  | x :: r, n + 1 => by rw [show nth (x :: r) (n + 1) = nth r n from rfl, nth_eq r n]; simp

/-- The element at an index. -/
def idxL (xs : List AV) (n : Int) : Option AV := if 0 ≤ n then nth xs n.toNat else none
theorem idxL_inv {xs : List AV} {n : Int} {u : AV} (h : idxL xs n = some u) : 0 ≤ n ∧ xs[n.toNat]? = some u := by
  unfold idxL at h
  split at h
  · rename_i h0; exact ⟨h0, by rw [← nth_eq]; exact h⟩
  · cases h
def ixN (n : Int) (len : Nat) : Option Nat := if 0 ≤ n ∧ n.toNat < len then some n.toNat else none
theorem ixN_inv {n : Int} {len m : Nat} (h : ixN n len = some m) : n = (m : Int) ∧ Nat.blt m len = true := by
  unfold ixN at h
  split at h
  · rename_i h0
    obtain rfl := Option.some.inj h
    exact ⟨by omega, by simp [Nat.blt_eq, h0.2]⟩
  · cases h

def copyP : List AV → (List AV → Prop) → Prop
  | [], K => K []
  | x :: r, K => copyP r fun r' => K (x :: r')
theorem copyP_inv : ∀ {l : List AV} {K : List AV → Prop}, copyP l K → K l
  | [], _, h => h
  | x :: r, K, h => copyP_inv (K := fun r' => K (x :: r')) h

def lenGe : List AV → Nat → Bool
  | _, 0 => true
  | [], _ + 1 => false
  | _ :: r, n + 1 => lenGe r n
theorem lenGe_inv : ∀ {l : List AV} {n : Nat}, lenGe l n = true → n ≤ l.length
  | _, 0, _ => Nat.zero_le _
  | [], _ + 1, h => by cases h
  | _ :: r, n + 1, h => by have := lenGe_inv (l := r) (n := n) h; simp; omega

def setP : List AV → Nat → AV → (List AV → Prop) → Prop
  | x :: r, 0, v, K => K (v :: r)
  | x :: r, n + 1, v, K => setP r n v fun r' => K (x :: r')
  | [], _, _, _ => False
theorem setP_inv : ∀ {l : List AV} {n : Nat} {v : AV} {K : List AV → Prop}, setP l n v K → n < l.length ∧ K (l.set n v)
  | x :: r, 0, v, K, h => ⟨by simp, h⟩
  | x :: r, n + 1, v, K, h => by
    obtain ⟨h1, h2⟩ := setP_inv (l := r) (n := n) (v := v) (K := fun r' => K (x :: r')) h
    exact ⟨by simp; omega, h2⟩
  | [], 0, _, _, h => h.elim
  | [], _ + 1, _, _, h => h.elim
theorem setK {l : List AV} {n : Nat} {v : AV} {K : List AV → Prop} (h : n < l.length) (k : K (l.set n v)) : setP l n v K := by
  induction l generalizing n K with
  | nil => simp at h
  | cons x r ih =>
    cases n with
    | zero => exact k
    | succ n => exact ih (n := n) (K := fun r' => K (x :: r')) (by simpa using h) k

def setsP (cs : List AV) (o : Nat) : List AV → (List AV → Prop) → Prop
  | [], K => K cs
  | v :: r, K => setP cs o v fun cs' => setsP cs' (o + 1) r K
theorem setsP_inv : ∀ {vs cs : List AV} {o : Nat} {K : List AV → Prop}, setsP cs o vs K → o + vs.length ≤ cs.length ∨ vs = [] → K (cs.take o ++ vs ++ cs.drop (o + vs.length)) ∧ (vs ≠ [] → o + vs.length ≤ cs.length)
  | [], cs, o, K, h, _ => by
    have h : K cs := h
    exact ⟨by simpa using h, fun h => absurd rfl h⟩
  | v :: r, cs, o, K, h, _ => by
    obtain ⟨h1, h2⟩ := setP_inv h
    by_cases hr : r = []
    · subst hr
      refine ⟨?_, fun _ => by simp; omega⟩
      have h2 : K (cs.set o v) := h2
      rw [List.set_eq_take_append_cons_drop, if_pos h1] at h2
      simpa using h2
    · have h3 := setsP_inv (vs := r) (cs := cs.set o v) (o := o + 1) h2
      have h4 : o + 1 + r.length ≤ (cs.set o v).length := by
        rcases Nat.lt_or_ge (cs.set o v).length (o + 1 + r.length) with hlt | hge
        · exfalso
          have gen : ∀ (r cs : List AV) (o : Nat), r ≠ [] → setsP cs o r K → o + r.length ≤ cs.length := by
            intro r
            induction r with
            | nil => intro cs o h; exact absurd rfl h
            | cons v r ih =>
              intro cs o _ h
              obtain ⟨h1, h2⟩ := setP_inv h
              by_cases hr : r = []
              · subst hr; simp; omega
              · have := ih (cs.set o v) (o + 1) hr h2
                simp at this ⊢; omega
          have := gen r (cs.set o v) (o + 1) hr h2
          omega
        · exact hge
      obtain ⟨h5, _⟩ := h3 (.inl h4)
      simp only [List.length_set] at h4
      refine ⟨?_, fun _ => by simp; omega⟩
      have e1 : (cs.set o v).take (o + 1) = cs.take o ++ [v] := by
        rw [List.set_eq_take_append_cons_drop, if_pos h1, List.take_append, List.length_take, Nat.min_eq_left (by omega)]
        simp [List.take_take]
      have e2 : (cs.set o v).drop (o + 1 + r.length) = cs.drop (o + (v :: r).length) := by
        rw [List.drop_set_of_lt (by omega)]
        congr 1; simp; omega
      rw [e1, e2] at h5
      simpa using h5

def natP (n : Nat) (K : Nat → Prop) : Prop :=
  boolP (Nat.beq n 0) (K 0) <| boolP (Nat.beq n 1) (K 1) <| boolP (Nat.beq n 2) (K 2) <| boolP (Nat.beq n 3) (K 3) <| boolP (Nat.beq n 4) (K 4) <| boolP (Nat.beq n 5) (K 5) <|
  boolP (Nat.beq n 6) (K 6) <| boolP (Nat.beq n 7) (K 7) <| boolP (Nat.beq n 8) (K 8) <| boolP (Nat.beq n 9) (K 9) <| boolP (Nat.beq n 10) (K 10) <| boolP (Nat.beq n 11) (K 11) <|
  boolP (Nat.beq n 12) (K 12) <| boolP (Nat.beq n 13) (K 13) <| boolP (Nat.beq n 14) (K 14) <| boolP (Nat.beq n 15) (K 15) <| boolP (Nat.beq n 16) (K 16) <| boolP (Nat.beq n 17) (K 17) <|
  boolP (Nat.beq n 18) (K 18) <| boolP (Nat.beq n 19) (K 19) <| boolP (Nat.beq n 20) (K 20) <| boolP (Nat.beq n 21) (K 21) <| boolP (Nat.beq n 22) (K 22) <| boolP (Nat.beq n 23) (K 23) <| K n
theorem natP_inv {n : Nat} {K : Nat → Prop} (h : natP n K) : K n := by
  unfold natP at h
  iterate 24
    rcases boolP_inv h with ⟨e, h⟩ | ⟨_, h⟩
    · rw [Nat.eq_of_beq_eq_true e]; exact h
  exact h

def bsetP : List Blk → Nat → Blk → (List Blk → Prop) → Prop
  | [], 0, b, K => K [b]
  | [], k + 1, b, K => bsetP [] k b fun r => K (.gone :: r)
  | _ :: r, 0, b, K => K (b :: r)
  | x :: r, k + 1, b, K => bsetP r k b fun r' => K (x :: r')
theorem bsetP_inv : ∀ {bs : List Blk} {k : Nat} {b : Blk} {K : List Blk → Prop}, bsetP bs k b K → K (bset bs k b)
  | [], 0, _, _, h => h
  | [], k + 1, b, K, h => bsetP_inv (bs := []) (k := k) (K := fun r => K (.gone :: r)) h
  | _ :: r, 0, _, _, h => h
  | x :: r, k + 1, b, K, h => bsetP_inv (bs := r) (k := k) (K := fun r' => K (x :: r')) h

def updP (bs : List Blk) : List (Nat × Blk) → (List Blk → Prop) → Prop
  | [], K => K bs
  | (k, b) :: r, K => bsetP bs k b fun bs' => updP bs' r K
theorem updP_inv : ∀ {r : List (Nat × Blk)} {bs : List Blk} {K : List Blk → Prop}, updP bs r K → K (upd bs r)
  | [], _, _, h => h
  | (k, b) :: r, bs, K, h => updP_inv (r := r) (bsetP_inv (K := fun bs' => updP bs' r K) h)

def keysP : List (Nat × Blk) → (List Nat → Prop) → Prop
  | [], K => K []
  | (k, _) :: r, K => keysP r fun l => K (k :: l)
theorem keysP_inv : ∀ {r : List (Nat × Blk)} {K : List Nat → Prop}, keysP r K → K (r.map Prod.fst)
  | [], _, h => h
  | (k, b) :: r, K, h => keysP_inv (r := r) (K := fun l => K (k :: l)) h

/-! ### an operation's effect -/

structure Ef where
  v : AV
  pre : List (Nat × Blk)
  post : List (Nat × Blk)

def Sd (P : Program) (o : Oper) (env : Env) (bs : List Blk) (e : Ef) : Prop :=
  Has bs e.pre ∧ (∀ k, k ∈ e.post.map Prod.fst → k ∈ e.pre.map Prod.fst) ∧
  ∀ env' bs0, (∀ x ∈ o.op.operands.toList, ev env' x = ev env x) → Has bs0 e.pre → OpT P o ⟨env', bs0⟩ e.v (upd bs0 e.post)

section
variable {P : Program} {o : Oper} {env : Env} {bs : List Blk}
theorem Sd.q {v : AV} (h : ∀ env' bs0, (∀ x ∈ o.op.operands.toList, ev env' x = ev env x) → OpT P o ⟨env', bs0⟩ v bs0) : Sd P o env bs ⟨v, [], []⟩ :=
  ⟨trivial, fun _ h => h, fun env' bs0 h1 _ => h env' bs0 h1⟩
theorem Sd.r {v : AV} {i : Nat} {b : Blk} (hb : bat bs i = b) (h : ∀ env' bs0, (∀ x ∈ o.op.operands.toList, ev env' x = ev env x) → bat bs0 i = b → OpT P o ⟨env', bs0⟩ v bs0) : Sd P o env bs ⟨v, [(i, b)], []⟩ :=
  ⟨⟨hb, trivial⟩, fun _ h => by simp at h, fun env' bs0 h1 h2 => h env' bs0 h1 h2.1⟩
theorem Sd.w {v : AV} {i : Nat} {b b' : Blk} (hb : bat bs i = b) (h : ∀ env' bs0, (∀ x ∈ o.op.operands.toList, ev env' x = ev env x) → bat bs0 i = b → OpT P o ⟨env', bs0⟩ v (bset bs0 i b')) : Sd P o env bs ⟨v, [(i, b)], [(i, b')]⟩ :=
  ⟨⟨hb, trivial⟩, fun _ h => by simpa using h, fun env' bs0 h1 h2 => h env' bs0 h1 h2.1⟩
end

def cellsP (b : Blk) (K : List AV → Prop) : Prop := match b with
  | .cells cs => K cs
  | _ => False
theorem cellsP_inv {b : Blk} {K : List AV → Prop} (h : cellsP b K) : ∃ cs, b = .cells cs ∧ K cs := by
  cases b <;> first | exact ⟨_, rfl, h⟩ | exact h.elim
def rowsP (b : Blk) (K : Nat → List AV → Prop) : Prop := match b with
  | .rows sz xs => K sz xs
  | _ => False
theorem rowsP_inv {b : Blk} {K : Nat → List AV → Prop} (h : rowsP b K) : ∃ sz xs, b = .rows sz xs ∧ K sz xs := by
  cases b <;> first | exact ⟨_, _, rfl, h⟩ | exact h.elim
def growP (b : Blk) (K : Nat → Nat → List AV → Prop) : Prop := match b with
  | .grow e sz xs => K e sz xs
  | _ => False
theorem growP_inv {b : Blk} {K : Nat → Nat → List AV → Prop} (h : growP b K) : ∃ e sz xs, b = .grow e sz xs ∧ K e sz xs := by
  cases b <;> first | exact ⟨_, _, _, rfl, h⟩ | exact h.elim
def goneP (b : Blk) (K : Prop) : Prop := match b with
  | .gone => K
  | _ => False
theorem goneP_inv {b : Blk} {K : Prop} (h : goneP b K) : b = .gone ∧ K := by
  cases b <;> first | exact ⟨rfl, h⟩ | exact h.elim

end
end Go.Proofs.YtelgmdljcbkniaaGreatDoor.Ai

/- An interpreter of values for the model's code, base text 19: the operations, by evaluation. -/
namespace Go.Proofs.YtelgmdljcbkniaaGreatDoor.Ai
noncomputable section
open Go
set_option linter.unusedVariables false

section
variable {X : Cx} {o : Oper} {env : Env} {bs : List Blk} {K : Ef → Prop}

/-! ### numbers -/

def bin2' (op : BinOp) (k : IntKind) (x y : Int) : Option AV := bin2 op k x y

def binW (X : Cx) (op : BinOp) (t : Nat) (a b : AV) (K : Ef → Prop) : Prop := match a, b with
  | .int k x, .int k' y => match op with
    | .quo => Chk (y ≠ 0) (boolP (k == k') (K ⟨.int k (k.wrap (x.tdiv y)), [], []⟩) False)
    | .rem => Chk (y ≠ 0) (boolP (k == k') (K ⟨.int k (x.tmod y), [], []⟩) False)
    | .shl => Chk (¬ y < 0) (K ⟨.int k (k.wrap (x * 2 ^ (min y.toNat k.bits))), [], []⟩)
    | .shr => Chk (¬ y < 0) (K ⟨.int k (x.fdiv (2 ^ (min y.toNat k.bits))), [], []⟩)
    | op => boolP (k == k') (optP (bin2 op k x y) fun v => K ⟨v, [], []⟩) False
  | .bool x, .bool y => optP (X.ti t) fun i => match i.desc, op with
    | .bool, .eql => K ⟨.bool (x == y), [], []⟩
    | .bool, .neq => K ⟨.bool (!(x == y)), [], []⟩
    | _, _ => False
  | .agg xs, .agg ys => optP (X.ti t) fun i => match i.desc, op with
    | .struct fs, .eql => Chk (X.P.stoodInHeld t = false ∧ X.P.eqGuardType X.P.depth t = false ∧ Flat X.P 0 fs.toList xs ys) (K ⟨.bool (scEqs xs ys), [], []⟩)
    | .struct fs, .neq => Chk (X.P.stoodInHeld t = false ∧ X.P.eqGuardType X.P.depth t = false ∧ Flat X.P 0 fs.toList xs ys) (K ⟨.bool (!(scEqs xs ys)), [], []⟩)
    | _, _ => False
  | v, .nilp => optP (X.ti t) fun i => match i.desc, op with
    | .pointer _, .eql => (match v with
      | .nilp => K ⟨.bool true, [], []⟩
      | .ptr _ _ | .rptr _ _ _ _ | .eptr _ _ _ => K ⟨.bool false, [], []⟩
      | _ => False)
    | .pointer _, .neq => (match v with
      | .nilp => K ⟨.bool false, [], []⟩
      | .ptr _ _ | .rptr _ _ _ _ | .eptr _ _ _ => K ⟨.bool true, [], []⟩
      | _ => False)
    | _, _ => False
  | _, _ => False

theorem binW_ok {op : BinOp} {t t' : Nat} {x y : Operand} {a b : AV} (ho : o.op = .binOp op t x y t') (hx : ev env x = some a) (hy : ev env y = some b) (h : binW X op t a b K) : ∃ e, Sd X.P o env bs e ∧ K e := by
  have mx : x ∈ o.op.operands.toList := by simp [ho, Op.operands]
  have my : y ∈ o.op.operands.toList := by simp [ho, Op.operands]
  unfold binW at h
  split at h
  · rename_i k x' k' y'
    have gen : ∀ op', op = op' → boolP (k == k') (optP (bin2 op' k x' y') fun v => K ⟨v, [], []⟩) False → ∃ e, Sd X.P o env bs e ∧ K e := fun op' e0 hq => by
      clear h
      subst e0
      replace hq := boolP_inv hq
      rcases hq with ⟨e, hq⟩ | ⟨_, hq⟩
      · obtain rfl : k = k' := by simpa using e
        replace hq := optP_inv hq
        obtain ⟨v, hv, hq⟩ := hq
        exact ⟨_, .q fun env' bs0 ha => op_bin ho ((ha x mx).trans hx) ((ha y my).trans hy) hv, hq⟩
      · exact hq.elim
    split at h
    · obtain ⟨h0, h⟩ := h
      replace h := boolP_inv h; rcases h with ⟨e, h⟩ | ⟨_, h⟩
      · obtain rfl : k = k' := by simpa using e
        exact ⟨_, .q fun env' bs0 ha => op_quo ho ((ha x mx).trans hx) ((ha y my).trans hy) h0, h⟩
      · exact h.elim
    · obtain ⟨h0, h⟩ := h
      replace h := boolP_inv h; rcases h with ⟨e, h⟩ | ⟨_, h⟩
      · obtain rfl : k = k' := by simpa using e
        exact ⟨_, .q fun env' bs0 ha => op_rem ho ((ha x mx).trans hx) ((ha y my).trans hy) h0, h⟩
      · exact h.elim
    · obtain ⟨h0, h⟩ := h
      exact ⟨_, .q fun env' bs0 ha => op_shl ho ((ha x mx).trans hx) ((ha y my).trans hy) h0, h⟩
    · obtain ⟨h0, h⟩ := h
      exact ⟨_, .q fun env' bs0 ha => op_shr ho ((ha x mx).trans hx) ((ha y my).trans hy) h0, h⟩
    · exact gen _ rfl h
  · replace h := optP_inv h; obtain ⟨i, hi, h⟩ := h
    have hu := (X.ok t i hi).inf.und
    split at h
    · rename i.desc = _ => hd
      rw [hd] at hu
      exact ⟨_, .q fun env' bs0 ha => op_eqb hu ho ((ha x mx).trans hx) ((ha y my).trans hy), h⟩
    · rename i.desc = _ => hd
      rw [hd] at hu
      exact ⟨_, .q fun env' bs0 ha => op_neb hu ho ((ha x mx).trans hx) ((ha y my).trans hy), h⟩
    · exact h.elim
  · replace h := optP_inv h; obtain ⟨i, hi, h⟩ := h
    have hu := (X.ok t i hi).inf.und
    split at h
    · rename i.desc = _ => hd
      rw [hd] at hu
      obtain ⟨⟨h1, h2, h3⟩, h⟩ := h
      exact ⟨_, .q fun env' bs0 ha => op_eqs hu h1 h2 h3 ho ((ha x mx).trans hx) ((ha y my).trans hy), h⟩
    · rename i.desc = _ => hd
      rw [hd] at hu
      obtain ⟨⟨h1, h2, h3⟩, h⟩ := h
      exact ⟨_, .q fun env' bs0 ha => op_nes hu h1 h2 h3 ho ((ha x mx).trans hx) ((ha y my).trans hy), h⟩
    · exact h.elim
  · replace h := optP_inv h; obtain ⟨i, hi, h⟩ := h
    have hu := (X.ok t i hi).inf.und
    have key : ∀ {v : AV} {b : Bool}, PtrV v b → ev env x = some v → (∃ e, i.desc = .pointer e) → (op = .eql → K ⟨.bool b, [], []⟩ → ∃ e, Sd X.P o env bs e ∧ K e) ∧ (op = .neq → K ⟨.bool (!b), [], []⟩ → ∃ e, Sd X.P o env bs e ∧ K e) := by
      clear h
      rintro v b hv hx ⟨e, hd⟩
      rw [hd] at hu
      refine ⟨fun e0 hq => ?_, fun e0 hq => ?_⟩
      · subst e0; exact ⟨_, .q fun env' bs0 ha => op_eqnil hu ho ((ha x mx).trans hx) hv ((ha y my).trans hy), hq⟩
      · subst e0; exact ⟨_, .q fun env' bs0 ha => op_nenil hu ho ((ha x mx).trans hx) hv ((ha y my).trans hy), hq⟩
    split at h
    · rename i.desc = _ => hd
      split at h
      · exact (key .nilp hx ⟨_, hd⟩).1 rfl h
      · exact (key (.ptr _ _) hx ⟨_, hd⟩).1 rfl h
      · exact (key (.rptr _ _ _ _) hx ⟨_, hd⟩).1 rfl h
      · exact (key (.eptr _ _ _) hx ⟨_, hd⟩).1 rfl h
      · exact h.elim
    · rename i.desc = _ => hd
      split at h
      · exact (key .nilp hx ⟨_, hd⟩).2 rfl h
      · exact (key (.ptr _ _) hx ⟨_, hd⟩).2 rfl h
      · exact (key (.rptr _ _ _ _) hx ⟨_, hd⟩).2 rfl h
      · exact (key (.eptr _ _ _) hx ⟨_, hd⟩).2 rfl h
      · exact h.elim
    · exact h.elim
  · exact h.elim

def unW (op : UnOp) (a : AV) (K : Ef → Prop) : Prop := match op, a with
  | .not, .bool b => K ⟨.bool (!b), [], []⟩
  | .neg, .int k n => K ⟨.int k (k.wrap (0 - n)), [], []⟩
  | _, _ => False
theorem unW_ok {op : UnOp} {t : Nat} {x : Operand} {a : AV} (ho : o.op = .unOp op t x) (hx : ev env x = some a) (h : unW op a K) : ∃ e, Sd X.P o env bs e ∧ K e := by
  have mx : x ∈ o.op.operands.toList := by simp [ho, Op.operands]
  unfold unW at h
  split at h
  · exact ⟨_, .q fun env' bs0 ha => op_not ho ((ha x mx).trans hx), h⟩
  · exact ⟨_, .q fun env' bs0 ha => op_neg ho ((ha x mx).trans hx), h⟩
  · exact h.elim

def convW (X : Cx) (t u : Nat) (a : AV) (K : Ef → Prop) : Prop := optP (X.ti t) fun it => optP (X.ti u) fun iu => match it.desc, iu.desc, a with
  | .int _, .int k', .int _ n => K ⟨.int k' (k'.wrap n), [], []⟩
  | _, _, _ => False
theorem convW_ok {t u : Nat} {x : Operand} {a : AV} (ho : o.op = .convert t u x) (hx : ev env x = some a) (h : convW X t u a K) : ∃ e, Sd X.P o env bs e ∧ K e := by
  have mx : x ∈ o.op.operands.toList := by simp [ho, Op.operands]
  unfold convW at h
  replace h := optP_inv h; obtain ⟨it, h1, h⟩ := h
  replace h := optP_inv h; obtain ⟨iu, h2, h⟩ := h
  split at h
  · rename it.desc = _ => d1
    rename iu.desc = _ => d2
    have u1 := (X.ok t it h1).inf.und
    have u2 := (X.ok u iu h2).inf.und
    rw [d1] at u1
    rw [d2] at u2
    exact ⟨_, .q fun env' bs0 ha => op_conv u1 u2 ho ((ha x mx).trans hx), h⟩
  · exact h.elim

def pickW (c : AV) (a b : Option AV) (K : Ef → Prop) : Prop := match c with
  | .bool t => boolP t (optP a fun v => K ⟨v, [], []⟩) (optP b fun v => K ⟨v, [], []⟩)
  | _ => False
theorem pickW_ok {c x y : Operand} {cv : AV} (ho : o.op = .pick c x y) (hc : ev env c = some cv) (h : pickW cv (ev env x) (ev env y) K) : ∃ e, Sd X.P o env bs e ∧ K e := by
  have mc : c ∈ o.op.operands.toList := by simp [ho, Op.operands]
  have mx : x ∈ o.op.operands.toList := by simp [ho, Op.operands]
  have my : y ∈ o.op.operands.toList := by simp [ho, Op.operands]
  unfold pickW at h
  split at h
  · replace h := boolP_inv h; rcases h with ⟨e, h⟩ | ⟨e, h⟩
    · subst e
      replace h := optP_inv h; obtain ⟨v, hv, h⟩ := h
      exact ⟨_, .q fun env' bs0 ha => op_pick_true ho ((ha c mc).trans hc) ((ha x mx).trans hv), h⟩
    · subst e
      replace h := optP_inv h; obtain ⟨v, hv, h⟩ := h
      exact ⟨_, .q fun env' bs0 ha => op_pick_false ho ((ha c mc).trans hc) ((ha y my).trans hv), h⟩
  · exact h.elim

/-! ### reading and writing -/

def loadW (X : Cx) (t : Nat) (bs : List Blk) (p : AV) (K : Ef → Prop) : Prop := optP (X.ti t) fun i => match p with
  | .ptr b k => cellsP (bat bs b) fun cs => boolP (isAggD i.desc)
      (boolP (lenGe cs (k + i.size)) (boolP (Nat.ble i.size 64) (copyP ((cs.drop k).take i.size) fun ds => K ⟨.agg ds, [(b, .cells cs)], []⟩) (K ⟨.agg ((cs.drop k).take i.size), [(b, .cells cs)], []⟩)) False)
      (optP (nth cs k) fun v => K ⟨v, [(b, .cells cs)], []⟩)
  | .eptr xs j k => optP (nth xs j) fun u => boolP (isAggD i.desc)
      (boolP (lenGe u.cells (k + i.size)) (boolP (Nat.ble i.size 64) (copyP ((u.cells.drop k).take i.size) fun ds => K ⟨.agg ds, [], []⟩) (K ⟨.agg ((u.cells.drop k).take i.size), [], []⟩)) False)
      (optP (nth u.cells k) fun v => K ⟨v, [], []⟩)
  | .rptr b j sz k => rowsP (bat bs b) fun sz' xs => boolP (Nat.beq sz' sz) (optP (nth xs j) fun u => boolP (isAggD i.desc)
      (boolP (lenGe u.cells (k + i.size)) (copyP ((u.cells.drop k).take i.size) fun ds => K ⟨.agg ds, [(b, .rows sz' xs)], []⟩) False)
      (optP (nth u.cells k) fun v => K ⟨v, [(b, .rows sz' xs)], []⟩)) False
  | _ => False

theorem loadW_ok {t : Nat} {x : Operand} {p : AV} (ho : o.op = .load t x) (hx : ev env x = some p) (h : loadW X t bs p K) : ∃ e, Sd X.P o env bs e ∧ K e := by
  have mx : x ∈ o.op.operands.toList := by simp [ho, Op.operands]
  unfold loadW at h
  replace h := optP_inv h; obtain ⟨i, hi, h⟩ := h
  have ht := (X.ok t i hi).inf
  split at h
  · rename_i b k
    replace h := cellsP_inv h; obtain ⟨cs, hb, h⟩ := h
    replace h := boolP_inv h; rcases h with ⟨hd, h⟩ | ⟨hd, h⟩
    · replace h := boolP_inv h; rcases h with ⟨hl, h⟩ | ⟨_, h⟩
      · have h' : K ⟨.agg ((cs.drop k).take i.size), [(b, .cells cs)], []⟩ := by
          replace h := boolP_inv h; rcases h with ⟨_, h⟩ | ⟨_, h⟩
          · exact copyP_inv (K := fun ds => K ⟨.agg ds, [(b, .cells cs)], []⟩) h
          · exact h
        exact ⟨_, .r hb fun env' bs0 ha hb0 => op_load_agg ht hd ho ((ha x mx).trans hx) (get_bat _ _ _ hb0 (by simp)) (lenGe_inv hl) rfl, h'⟩
      · exact h.elim
    · replace h := optP_inv h; obtain ⟨v, hv, h⟩ := h
      rw [nth_eq] at hv
      exact ⟨_, .r hb fun env' bs0 ha hb0 => op_load ht hd ho ((ha x mx).trans hx) (get_bat _ _ _ hb0 (by simp)) hv, h⟩
  · rename_i xs j k
    replace h := optP_inv h; obtain ⟨u, hu, h⟩ := h
    rw [nth_eq] at hu
    replace h := boolP_inv h; rcases h with ⟨hd, h⟩ | ⟨hd, h⟩
    · replace h := boolP_inv h; rcases h with ⟨hl, h⟩ | ⟨_, h⟩
      · have h' : K ⟨.agg ((u.cells.drop k).take i.size), [], []⟩ := by
          replace h := boolP_inv h; rcases h with ⟨_, h⟩ | ⟨_, h⟩
          · exact copyP_inv (K := fun ds => K ⟨.agg ds, [], []⟩) h
          · exact h
        exact ⟨_, .q fun env' bs0 ha => op_load_agg_e ht hd ho ((ha x mx).trans hx) hu (lenGe_inv hl) rfl, h'⟩
      · exact h.elim
    · replace h := optP_inv h; obtain ⟨v, hv, h⟩ := h
      rw [nth_eq] at hv
      exact ⟨_, .q fun env' bs0 ha => op_load_e ht hd ho ((ha x mx).trans hx) hu hv, h⟩
  · rename_i b j sz k
    replace h := rowsP_inv h; obtain ⟨sz', xs, hb, h⟩ := h
    replace h := boolP_inv h; rcases h with ⟨he, h⟩ | ⟨_, h⟩
    · obtain rfl := Nat.eq_of_beq_eq_true he
      replace h := optP_inv h; obtain ⟨u, hu, h⟩ := h
      rw [nth_eq] at hu
      replace h := boolP_inv h; rcases h with ⟨hd, h⟩ | ⟨hd, h⟩
      · replace h := boolP_inv h; rcases h with ⟨hl, h⟩ | ⟨_, h⟩
        · have h' := copyP_inv (K := fun ds => K ⟨.agg ds, [(b, .rows sz' xs)], []⟩) h
          exact ⟨_, .r hb fun env' bs0 ha hb0 => op_load_agg_r ht hd ho ((ha x mx).trans hx) hb0 hu (lenGe_inv hl) rfl, h'⟩
        · exact h.elim
      · replace h := optP_inv h; obtain ⟨v, hv, h⟩ := h
        rw [nth_eq] at hv
        exact ⟨_, .r hb fun env' bs0 ha hb0 => op_load_r ht hd ho ((ha x mx).trans hx) hb0 hu hv, h⟩
    · exact h.elim
  · exact h.elim

def storeW (X : Cx) (t : Nat) (bs : List Blk) (p v : AV) (K : Ef → Prop) : Prop := optP (X.ti t) fun i => boolP (Nat.beq v.cells.length i.size) (boolP (Nat.blt 0 i.size) (boolP (v.cells.all AV.one) (match p with
  | .ptr b k => cellsP (bat bs b) fun cs => setsP cs k v.cells fun cs' => K ⟨.und, [(b, .cells cs)], [(b, .cells cs')]⟩
  | .rptr b j sz k => rowsP (bat bs b) fun sz' xs => boolP (Nat.beq sz' sz) (optP (nth xs j) fun u => boolP (Nat.beq u.cells.length i.size)
      (boolP (Nat.beq k 0) (K ⟨.und, [(b, .rows sz' xs)], [(b, .rows sz' (xs.set j v))]⟩) False)
      (setsP u.cells k v.cells fun cs' => K ⟨.und, [(b, .rows sz' xs)], [(b, .rows sz' (xs.set j (.agg cs')))]⟩)) False
  | _ => False) False) False) False

theorem storeW_ok {t : Nat} {x y : Operand} {p v : AV} (ho : o.op = .store t x y) (hx : ev env x = some p) (hy : ev env y = some v) (h : storeW X t bs p v K) : ∃ e, Sd X.P o env bs e ∧ K e := by
  have mx : x ∈ o.op.operands.toList := by simp [ho, Op.operands]
  have my : y ∈ o.op.operands.toList := by simp [ho, Op.operands]
  unfold storeW at h
  replace h := optP_inv h; obtain ⟨i, hi, h⟩ := h
  have ht := (X.ok t i hi).inf
  replace h := boolP_inv h; rcases h with ⟨hs, h⟩ | ⟨_, h⟩
  rotate_left; · exact h.elim
  replace h := boolP_inv h; rcases h with ⟨hs0, h⟩ | ⟨_, h⟩
  rotate_left; · exact h.elim
  replace h := boolP_inv h; rcases h with ⟨h1, h⟩ | ⟨_, h⟩
  rotate_left; · exact h.elim
  have hs := Nat.eq_of_beq_eq_true hs
  have hs0 : 0 < i.size := by simpa [Nat.blt_eq] using hs0
  have hne : v.cells ≠ [] := fun e => by rw [e] at hs; simp at hs; omega
  have bound : ∀ (cs : List AV) (k : Nat) (K' : List AV → Prop), setsP cs k v.cells K' → k + v.cells.length ≤ cs.length := by
    clear h h1 hs
    generalize v.cells = r at hne
    intro cs k K'
    revert cs k
    induction r with
    | nil => exact absurd rfl hne
    | cons a r ih =>
      intro cs k h
      obtain ⟨h1, h2⟩ := setP_inv h
      by_cases hr : r = []
      · subst hr; simp; omega
      · have := ih hr (cs.set k a) (k + 1) h2
        simp at this ⊢; omega
  split at h
  · rename_i b k
    replace h := cellsP_inv h; obtain ⟨cs, hb, h⟩ := h
    have hk := bound _ _ _ h
    obtain ⟨h, _⟩ := setsP_inv h (.inl hk)
    rw [hs] at h hk
    exact ⟨_, .w hb fun env' bs0 ha hb0 => op_store_b ht ho ((ha x mx).trans hx) ((ha y my).trans hy) hb0 hs h1 hk rfl, h⟩
  · rename_i b j sz k
    replace h := rowsP_inv h; obtain ⟨sz', xs, hb, h⟩ := h
    replace h := boolP_inv h; rcases h with ⟨he, h⟩ | ⟨_, h⟩
    rotate_left; · exact h.elim
    obtain rfl := Nat.eq_of_beq_eq_true he
    replace h := optP_inv h; obtain ⟨u, hu, h⟩ := h
    rw [nth_eq] at hu
    replace h := boolP_inv h; rcases h with ⟨he, h⟩ | ⟨_, h⟩
    · have he := Nat.eq_of_beq_eq_true he
      replace h := boolP_inv h; rcases h with ⟨h0, h⟩ | ⟨_, h⟩
      rotate_left; · exact h.elim
      have h0 := Nat.eq_of_beq_eq_true h0
      subst h0
      exact ⟨_, .w hb fun env' bs0 ha hb0 => op_store_r ht ho ((ha x mx).trans hx) ((ha y my).trans hy) hb0 hu hs h1 (by omega) (by rw [List.drop_eq_nil_of_le (by omega)]; simp), h⟩
    · have hk := bound _ _ _ h
      obtain ⟨h, _⟩ := setsP_inv h (.inl hk)
      rw [hs] at h hk
      exact ⟨_, .w hb fun env' bs0 ha hb0 => op_store_r (u' := .agg (u.cells.take k ++ v.cells ++ u.cells.drop (k + i.size))) ht ho ((ha x mx).trans hx) ((ha y my).trans hy) hb0 hu hs h1 hk rfl, h⟩
  · exact h.elim

/-! ### addresses -/

def fieldW (X : Cx) (t j : Nat) (p : AV) (K : Ef → Prop) : Prop := optP (X.ti t) fun i => optP (i.offs[j]?) fun off => match p with
  | .ptr b k => K ⟨.ptr b (k + off), [], []⟩
  | .rptr b m sz k => K ⟨.rptr b m sz (k + off), [], []⟩
  | .eptr xs m k => optP (nth xs m) fun u => boolP (lenGe u.cells (k + off + 1)) (K ⟨.eptr xs m (k + off), [], []⟩) False
  | _ => False
theorem fieldW_ok {t j : Nat} {x : Operand} {p : AV} (ho : o.op = .fieldAddr t x j) (hx : ev env x = some p) (h : fieldW X t j p K) : ∃ e, Sd X.P o env bs e ∧ K e := by
  have mx : x ∈ o.op.operands.toList := by simp [ho, Op.operands]
  unfold fieldW at h
  replace h := optP_inv h; obtain ⟨i, hi, h⟩ := h
  replace h := optP_inv h; obtain ⟨off, hoff, h⟩ := h
  obtain ⟨fs, f, size, bytes, z, d, hd, hf, rfl, hin, h0⟩ := (X.ok t i hi).offs j off hoff
  have hu := (X.ok t i hi).inf.und
  rw [hd] at hu
  split at h
  · exact ⟨_, .q fun env' bs0 ha => op_faddr hu hf hin h0 ho ((ha x mx).trans hx), h⟩
  · exact ⟨_, .q fun env' bs0 ha => op_faddr_r hu hf hin h0 ho ((ha x mx).trans hx), h⟩
  · replace h := optP_inv h; obtain ⟨u, hu2, h⟩ := h
    rw [nth_eq] at hu2
    replace h := boolP_inv h; rcases h with ⟨hl, h⟩ | ⟨_, h⟩
    · have := lenGe_inv hl
      exact ⟨_, .q fun env' bs0 ha => op_faddr_e hu hf hin h0 ho ((ha x mx).trans hx) hu2 (by omega), h⟩
    · exact h.elim
  · exact h.elim

def idxW (X : Cx) (t : Nat) (bs : List Blk) (p i : AV) (K : Ef → Prop) : Prop := match i with
  | .int _ n => optP (X.ti t) fun it => match it.desc with
    | .slice e => optP (X.ti e) fun ie => boolP (Nat.blt 0 ie.size) (match p with
      | .lst _ xs => optP (idxL xs n) fun u => boolP (Nat.beq u.cells.length ie.size) (K ⟨.eptr [u] 0 0, [], []⟩) False
      | .gsl b ln => growP (bat bs b) fun e' sz xs => Chk (ln = xs.length) (optP (idxL xs n) fun u => boolP (Nat.beq u.cells.length ie.size) (K ⟨.eptr [u] 0 0, [(b, .grow e' sz xs)], []⟩) False)
      | .slc b q sz len _ => Chk (0 ≤ n ∧ n.toNat < len) (boolP (Nat.beq sz ie.size) (K ⟨.rptr b (q + n.toNat) sz 0, [], []⟩) False)
      | _ => False) False
    | .array len e => optP (X.ti e) fun ie => optP (ixN n len) fun m => (match p with
      | .ptr b q => K ⟨.ptr b (q + m * ie.size), [], []⟩
      | .eptr xs j q => optP (nth xs j) fun u => boolP (lenGe u.cells (q + m * ie.size + 1)) (K ⟨.eptr xs j (q + m * ie.size), [], []⟩) False
      | _ => False)
    | _ => False
  | _ => False
theorem idxW_ok {t : Nat} {x y : Operand} {p i : AV} (ho : o.op = .indexAddr t x y) (hx : ev env x = some p) (hy : ev env y = some i) (h : idxW X t bs p i K) : ∃ e, Sd X.P o env bs e ∧ K e := by
  have mx : x ∈ o.op.operands.toList := by simp [ho, Op.operands]
  have my : y ∈ o.op.operands.toList := by simp [ho, Op.operands]
  unfold idxW at h
  split at h
  · rename_i k n
    replace h := optP_inv h; obtain ⟨it, hi, h⟩ := h
    have hu := (X.ok t it hi).inf.und
    split at h
    · rename_i e hd
      rw [hd] at hu
      replace h := optP_inv h; obtain ⟨ie, hie, h⟩ := h
      have he := (X.ok e ie hie).inf
      replace h := boolP_inv h; rcases h with ⟨h0, h⟩ | ⟨_, h⟩
      rotate_left; · exact h.elim
      have h0 : 0 < ie.size := by simpa [Nat.blt_eq] using h0
      split at h
      · replace h := optP_inv h; obtain ⟨u, hu2, h⟩ := h
        obtain ⟨g1, g2⟩ := idxL_inv hu2
        replace h := boolP_inv h; rcases h with ⟨hl, h⟩ | ⟨_, h⟩
        · exact ⟨_, .q fun env' bs0 ha => op_iaddr1 hu he ho ((ha x mx).trans hx) ((ha y my).trans hy) g1 g2 (Nat.eq_of_beq_eq_true hl) h0, h⟩
        · exact h.elim
      · replace h := growP_inv h; obtain ⟨e', sz, xs, hb, h⟩ := h
        obtain ⟨hl, h⟩ := h
        replace h := optP_inv h; obtain ⟨u, hu2, h⟩ := h
        obtain ⟨g1, g2⟩ := idxL_inv hu2
        replace h := boolP_inv h; rcases h with ⟨hl2, h⟩ | ⟨_, h⟩
        · exact ⟨_, .r hb fun env' bs0 ha hb0 => op_iaddr_g hu he ho ((ha x mx).trans hx) hb0 hl ((ha y my).trans hy) g1 g2 (Nat.eq_of_beq_eq_true hl2) h0, h⟩
        · exact h.elim
      · obtain ⟨⟨g1, g2⟩, h⟩ := h
        replace h := boolP_inv h; rcases h with ⟨hl, h⟩ | ⟨_, h⟩
        · exact ⟨_, .q fun env' bs0 ha => op_iaddr_s hu he ho ((ha x mx).trans hx) ((ha y my).trans hy) g1 g2 (Nat.eq_of_beq_eq_true hl), h⟩
        · exact h.elim
      · exact h.elim
    · rename_i len e hd
      rw [hd] at hu
      replace h := optP_inv h; obtain ⟨ie, hie, h⟩ := h
      have he := (X.ok e ie hie).inf
      replace h := optP_inv h; obtain ⟨m, hm, h⟩ := h
      obtain ⟨g1, g2⟩ := ixN_inv hm
      split at h
      · exact ⟨_, .q fun env' bs0 ha => op_iaddr_a hu he ho ((ha x mx).trans hx) ((ha y my).trans hy) g1 g2, h⟩
      · replace h := optP_inv h; obtain ⟨u, hu2, h⟩ := h
        rw [nth_eq] at hu2
        replace h := boolP_inv h; rcases h with ⟨hl, h⟩ | ⟨_, h⟩
        · have := lenGe_inv hl
          exact ⟨_, .q fun env' bs0 ha => op_iaddr_ae hu he ho ((ha x mx).trans hx) ((ha y my).trans hy) g1 g2 hu2 (by omega), h⟩
        · exact h.elim
      · exact h.elim
    · exact h.elim
  · exact h.elim

def indexW (X : Cx) (t : Nat) (p i : AV) (K : Ef → Prop) : Prop := match p, i with
  | .agg cs, .int _ n => optP (X.ti t) fun it => match it.desc with
    | .array len e => optP (X.ti e) fun ie => optP (ixN n len) fun m => boolP (isAggD ie.desc)
      (boolP (lenGe cs (m * ie.size + ie.size)) (copyP ((cs.drop (m * ie.size)).take ie.size) fun ds => K ⟨.agg ds, [], []⟩) False)
      (optP (nth cs (m * ie.size)) fun v => K ⟨v, [], []⟩)
    | _ => False
  | _, _ => False
theorem indexW_ok {t : Nat} {x y : Operand} {p i : AV} (ho : o.op = .index t x y) (hx : ev env x = some p) (hy : ev env y = some i) (h : indexW X t p i K) : ∃ e, Sd X.P o env bs e ∧ K e := by
  have mx : x ∈ o.op.operands.toList := by simp [ho, Op.operands]
  have my : y ∈ o.op.operands.toList := by simp [ho, Op.operands]
  unfold indexW at h
  split at h
  · replace h := optP_inv h; obtain ⟨it, hi, h⟩ := h
    have hu := (X.ok t it hi).inf.und
    split at h
    · rename_i len e hd
      rw [hd] at hu
      replace h := optP_inv h; obtain ⟨ie, hie, h⟩ := h
      have he := (X.ok e ie hie).inf
      replace h := optP_inv h; obtain ⟨m, hm, h⟩ := h
      obtain ⟨g1, g2⟩ := ixN_inv hm
      replace h := boolP_inv h; rcases h with ⟨hd2, h⟩ | ⟨hd2, h⟩
      · replace h := boolP_inv h; rcases h with ⟨hl, h⟩ | ⟨_, h⟩
        · have h' := copyP_inv (K := fun ds => K ⟨.agg ds, [], []⟩) h
          exact ⟨_, .q fun env' bs0 ha => op_index_agg hu he hd2 ho ((ha x mx).trans hx) ((ha y my).trans hy) g1 g2 (lenGe_inv hl) rfl, h'⟩
        · exact h.elim
      · replace h := optP_inv h; obtain ⟨v, hv, h⟩ := h
        rw [nth_eq] at hv
        exact ⟨_, .q fun env' bs0 ha => op_index hu he hd2 ho ((ha x mx).trans hx) ((ha y my).trans hy) g1 g2 hv, h⟩
    · exact h.elim
  · exact h.elim
end
end
end Go.Proofs.YtelgmdljcbkniaaGreatDoor.Ai

/- An interpreter of values for the model's code, base text 20: calls and makers by evaluation; regions; code. -/
namespace Go.Proofs.YtelgmdljcbkniaaGreatDoor.Ai
noncomputable section
open Go
set_option linter.unusedVariables false

/-! ### the lists that values hold -/

mutual
def gpre (bs : List Blk) : AV → List (Nat × Blk)
  | .gsl i _ => [(i, bat bs i)]
  | .agg cs => gpres bs cs
  | .tup cs => gpres bs cs
  | .fn _ cs => gpres bs cs
  | _ => []
def gpres (bs : List Blk) : List AV → List (Nat × Blk)
  | [] => []
  | v :: r => gpre bs v ++ gpres bs r
end

theorem has_app {bs : List Blk} {p q : List (Nat × Blk)} : Has bs (p ++ q) ↔ Has bs p ∧ Has bs q := by
  rw [has_iff, has_iff, has_iff]
  constructor
  · intro h; exact ⟨fun k b hk => h k b (List.mem_append.2 (.inl hk)), fun k b hk => h k b (List.mem_append.2 (.inr hk))⟩
  · rintro ⟨h1, h2⟩ k b hk
    rcases List.mem_append.1 hk with h | h
    · exact h1 k b h
    · exact h2 k b h

mutual
theorem has_gpre (bs : List Blk) : ∀ (v : AV), Has bs (gpre bs v)
  | .gsl i n => by simp [gpre, Has]
  | .agg cs => by simp only [gpre]; exact has_gpres bs cs
  | .tup cs => by simp only [gpre]; exact has_gpres bs cs
  | .fn f cs => by simp only [gpre]; exact has_gpres bs cs
  | .int .. | .bool .. | .str .. | .nilp | .ptr .. | .rptr .. | .eptr .. | .slc .. | .lst .. | .map .. | .nils | .nilmap | .nilfn | .yld .. | .imap .. | .und | .optr .. | .oslc .. => by simp [gpre, Has]
theorem has_gpres (bs : List Blk) : ∀ (vs : List AV), Has bs (gpres bs vs)
  | [] => trivial
  | v :: r => by simp only [gpres]; exact has_app.2 ⟨has_gpre bs v, has_gpres bs r⟩
end

mutual
theorem imm_congr {bs bs0 : List Blk} : ∀ {v x : AV}, imm bs v = some x → Has bs0 (gpre bs v) → imm bs0 v = some x
  | .gsl i n, x, h, h0 => by
    simp only [imm] at h ⊢
    split at h
    · rename_i e sz xs hb
      have : bat bs0 i = .grow e sz xs := by
        have h1 : bat bs0 i = bat bs i := h0.1
        rw [h1, bat_get _ _ _ hb]
      rw [get_bat _ _ _ this (by simp)]
      exact h
    · cases h
  | .agg cs, x, h, h0 => by
    simp only [imm] at h ⊢
    cases hc : imms bs cs with
    | none => simp [hc] at h
    | some ds => rw [imms_congr hc (by simpa [gpre] using h0)]; rw [hc] at h; exact h
  | .tup cs, x, h, h0 => by
    simp only [imm] at h ⊢
    cases hc : imms bs cs with
    | none => simp [hc] at h
    | some ds => rw [imms_congr hc (by simpa [gpre] using h0)]; rw [hc] at h; exact h
  | .fn f cs, x, h, h0 => by
    simp only [imm] at h ⊢
    cases hc : imms bs cs with
    | none => simp [hc] at h
    | some ds => rw [imms_congr hc (by simpa [gpre] using h0)]; rw [hc] at h; exact h
  | .ptr .., x, h, _ | .rptr .., x, h, _ | .slc .., x, h, _ | .map _, x, h, _ | .und, x, h, _ | .yld _, x, h, _ | .optr .., x, h, _ | .oslc .., x, h, _ => by simp [imm] at h
  | .int .., x, h, _ | .bool .., x, h, _ | .str .., x, h, _ | .nilp, x, h, _ | .eptr .., x, h, _ | .lst .., x, h, _ | .nils, x, h, _ | .nilmap, x, h, _ | .nilfn, x, h, _ | .imap .., x, h, _ => by simpa [imm] using h
theorem imms_congr {bs bs0 : List Blk} : ∀ {vs xs : List AV}, imms bs vs = some xs → Has bs0 (gpres bs vs) → imms bs0 vs = some xs
  | [], xs, h, _ => h
  | v :: r, xs, h, h0 => by
    simp only [gpres] at h0
    obtain ⟨h1, h2⟩ := has_app.1 h0
    simp only [imms] at h ⊢
    split at h
    · rename_i y ys e1 e2
      rw [imm_congr e1 h1, imms_congr e2 h2]
      exact h
    · cases h
end

theorem evs_congr {env env' : Env} : ∀ {xs : List Operand} {vs : List AV}, evs env xs = some vs → (∀ x ∈ xs, ev env' x = ev env x) → evs env' xs = some vs
  | [], _, h, _ => h
  | x :: r, vs, h, h0 => by
    simp only [evs] at h ⊢
    split at h
    · rename_i v ws e1 e2
      rw [h0 x (by simp), e1, evs_congr e2 fun y hy => h0 y (by simp [hy])]
      exact h
    · cases h

theorem evp_congr {env env' : Env} : ∀ {ps : List (Nat × Operand)} {vs : List (Nat × AV)}, evp env ps = some vs → (∀ x ∈ ps.map Prod.snd, ev env' x = ev env x) → evp env' ps = some vs
  | [], _, h, _ => h
  | (i, x) :: r, vs, h, h0 => by
    simp only [evp] at h ⊢
    split at h
    · rename_i v ws e1 e2
      rw [h0 x (by simp), e1, evp_congr e2 fun y hy => h0 y (by simp at hy ⊢; exact .inr hy)]
      exact h
    · cases h

/-! ### calls -/

/-- What a call of function f on these values does. -/
def CallOk (P : Program) (f : Nat) (vs : List AV) (bs : List Blk) (e : Ef) : Prop :=
  Has bs e.pre ∧ (∀ k, k ∈ e.post.map Prod.fst → k ∈ e.pre.map Prod.fst) ∧
  ∀ (o : Oper) (env : Env) (bs0 : List Blk) (x : Operand) (xs : List Operand) (ts : Array TypeId) (cap vs' : List AV), o.op = .call { callee := .value x, args := xs.toArray, argTypes := ts } →
    ev env x = some (.fn f cap) → evs env xs = some vs' → vs' ++ cap = vs → Has bs0 e.pre → OpT P o ⟨env, bs0⟩ e.v (upd bs0 e.post)

inductive CallT {P : Program} (f : Nat) (vs : List AV) (bs : List Blk) {K : Ef → Prop} : Prop where
  | mk (e : Ef) (h : CallOk P f vs bs e) (k : K e)

/-- A function's contract: from values to a value. -/
structure V (P : Program) (f : Nat) (args : List AV) (v : AV) : Prop where
  en : Enters P f
  ok : VOk P f fun a u => a = args ∧ u = v

/-- The same, over blocks of its own numbering. -/
structure F (P : Program) (f : Nat) (args : List AV) (bs : List Blk) (v : AV) (bs' : List Blk) : Prop where
  en : Enters P f
  ok : FOk P f fun a b u b' => a = args ∧ b = bs ∧ u = v ∧ b' = bs'

theorem callV {P : Program} {f : Nat} {vs avs : List AV} {bs : List Blk} {K : Ef → Prop} {v : AV} (hV : V P f avs v) (k : K ⟨v, gpres bs vs, []⟩) (hi : imms bs vs = some avs := by rfl) : CallT (P := P) f vs bs (K := K) :=
  .mk _ ⟨has_gpres bs vs, fun _ h => by simp at h, fun o env bs0 x xs ts cap vs' ho hx hxs hvs h0 => by
    subst hvs
    exact op_call (s := ⟨env, bs0⟩) ho hx hxs (imms_congr hi h0) hV.en hV.ok ⟨rfl, rfl⟩⟩ k

/-- The blocks that a snapshot may look at: all. -/
def allB (bs : List Blk) : Nat → List Blk → List (Nat × Blk)
  | _, [] => []
  | i, b :: r => (i, b) :: allB bs (i + 1) r

/-- The function reads one's own blocks (those that are named) and hands back numbers. -/
theorem callR {P : Program} {f : Nat} {vs avs : List AV} {bs : List Blk} {K : Ef → Prop} {v : AV} (n : Nat) (pre : List (Nat × Blk)) (hV : V P f avs v) (hp : Has bs pre) (hi : ∀ bs0, Has bs0 pre → snapL (snap bs0 n) vs = some avs) (hs : scal v = true)
    (k : K ⟨v, pre, []⟩) : CallT (P := P) f vs bs (K := K) :=
  .mk _ ⟨hp, fun _ h => by simp at h, fun o env bs0 x xs ts cap vs' ho hx hxs hvs h0 => by
    subst hvs
    exact op_call_ro (s := ⟨env, bs0⟩) n ho hx hxs (hi bs0 h0) hV.en hV.ok ⟨rfl, rfl⟩ hs⟩ k

end
end Go.Proofs.YtelgmdljcbkniaaGreatDoor.Ai

/- An interpreter of values for the model's code, base text 21: the call of a function that changes blocks, at named places. -/
namespace Go.Proofs.YtelgmdljcbkniaaGreatDoor.Ai
noncomputable section
open Go
set_option linter.unusedVariables false

open Classical in
/-- The ghost behind the call, in the caller's numbers. -/
noncomputable def Ghost.joinM (G G' : Ghost) (σ : Nat → Nat) (m : Nat) : Ghost :=
  ⟨fun k => if h : ∃ i, i < m ∧ σ i = k then G'.cl h.choose else G.cl k, fun k => if h : ∃ i, i < m ∧ σ i = k then G'.gr h.choose else G.gr k, G'.Z, G'.ok⟩

section
variable {G G' : Ghost} {σ : Nat → Nat} {m : Nat} (hi : ∀ i j, i < m → j < m → σ i = σ j → i = j)
include hi
theorem joinM_cl {i : Nat} (h : i < m) : (G.joinM G' σ m).cl (σ i) = G'.cl i := by
  have h0 : ∃ j, j < m ∧ σ j = σ i := ⟨i, h, rfl⟩
  simp only [Ghost.joinM, dif_pos h0]
  rw [hi _ _ h0.choose_spec.1 h h0.choose_spec.2]
theorem joinM_gr {i : Nat} (h : i < m) : (G.joinM G' σ m).gr (σ i) = G'.gr i := by
  have h0 : ∃ j, j < m ∧ σ j = σ i := ⟨i, h, rfl⟩
  simp only [Ghost.joinM, dif_pos h0]
  rw [hi _ _ h0.choose_spec.1 h h0.choose_spec.2]
end
theorem joinM_cl_off {G G' : Ghost} {σ : Nat → Nat} {m k : Nat} (h : ¬ ∃ i, i < m ∧ σ i = k) : (G.joinM G' σ m).cl k = G.cl k := by simp only [Ghost.joinM, dif_neg h]
theorem joinM_gr_off {G G' : Ghost} {σ : Nat → Nat} {m k : Nat} (h : ¬ ∃ i, i < m ∧ σ i = k) : (G.joinM G' σ m).gr k = G.gr k := by simp only [Ghost.joinM, dif_neg h]

def distinct : List Nat → Bool
  | [] => true
  | k :: r => !(r.any fun q => Nat.beq q k) && distinct r
theorem distinct_get : ∀ {l : List Nat}, distinct l = true → l.Nodup
  | [], _ => .nil
  | k :: r, h => by
    simp only [distinct, Bool.and_eq_true, Bool.not_eq_true'] at h
    refine List.nodup_cons.2 ⟨fun hm => ?_, distinct_get h.2⟩
    have := h.1
    rw [List.any_eq_false] at this
    exact this k hm (Nat.beq_refl k)

/-- Where the callee's block i lies. -/
def place (pl : List Nat) (i : Nat) : Nat := (pl[i]?).getD 0

theorem place_inj {pl : List Nat} (hd : distinct pl = true) {i j : Nat} (hi : i < pl.length) (hj : j < pl.length) (h : place pl i = place pl j) : i = j := by
  unfold place at h
  rw [List.getElem?_eq_getElem hi, List.getElem?_eq_getElem hj] at h
  exact (List.getElem_inj (distinct_get hd)).1 h

/-- Ahead of the call: what it is handed, and free places. -/
def preP (σ : Nat → Nat) : List Nat → List Blk → List (Nat × Blk)
  | [], _ => []
  | k :: ks, [] => (k, .gone) :: preP σ ks []
  | k :: ks, b :: r => (k, renB σ b) :: preP σ ks r
def postP (σ : Nat → Nat) : List Nat → List Blk → List (Nat × Blk)
  | k :: ks, b :: r => (k, renB σ b) :: postP σ ks r
  | _, _ => []

theorem preP_get {σ : Nat → Nat} {st : List Blk} : ∀ {pl : List Nat} {bs : List Blk}, Has st (preP σ pl bs) → ∀ (i k : Nat), pl[i]? = some k → bat st k = match bs[i]? with | some b => renB σ b | none => .gone
  | [], _, _, i, k, h => by simp at h
  | k' :: ks, [], h, i, k, h1 => by
    simp only [preP, Has] at h
    cases i with
    | zero => simp at h1; subst h1; exact h.1
    | succ i => have := preP_get h.2 i k (by simpa using h1); simpa using this
  | k' :: ks, b :: r, h, i, k, h1 => by
    simp only [preP, Has] at h
    cases i with
    | zero => simp at h1; subst h1; exact h.1
    | succ i => have := preP_get h.2 i k (by simpa using h1); simpa using this

theorem postP_keys {σ : Nat → Nat} : ∀ {pl : List Nat} {bs : List Blk} (bs' : List Blk) {k : Nat}, k ∈ (postP σ pl bs').map Prod.fst → k ∈ (preP σ pl bs).map Prod.fst
  | [], _, _, k, h => by simp [postP] at h
  | k' :: ks, bs, [], k, h => by simp [postP] at h
  | k' :: ks, [], b :: r, k, h => by
    simp only [postP, preP, List.map_cons, List.mem_cons] at h ⊢
    exact h.imp id fun h => postP_keys r h
  | k' :: ks, c :: q, b :: r, k, h => by
    simp only [postP, preP, List.map_cons, List.mem_cons] at h ⊢
    exact h.imp id fun h => postP_keys r h

theorem upd_postP {σ : Nat → Nat} : ∀ {pl : List Nat} {bs' : List Blk} (st : List Blk), distinct pl = true → pl.length = bs'.length →
    (∀ (i k : Nat) b, pl[i]? = some k → bs'[i]? = some b → bat (upd st (postP σ pl bs')) k = renB σ b) ∧ ∀ k, k ∉ pl → bat (upd st (postP σ pl bs')) k = bat st k
  | [], [], st, _, _ => ⟨fun i k b h => by simp at h, fun k _ => rfl⟩
  | [], _ :: _, _, _, h => by simp at h
  | _ :: _, [], _, _, h => by simp at h
  | k' :: ks, b' :: r, st, hd, hl => by
    have hn := List.nodup_cons.1 (distinct_get hd)
    have hd' : distinct ks = true := by simp only [distinct, Bool.and_eq_true] at hd; exact hd.2
    obtain ⟨h1, h2⟩ := upd_postP (σ := σ) (pl := ks) (bs' := r) (bset st k' (renB σ b')) hd' (by simpa using hl)
    have e : upd st (postP σ (k' :: ks) (b' :: r)) = upd (bset st k' (renB σ b')) (postP σ ks r) := rfl
    rw [e]
    refine ⟨fun i k b f1 f2 => ?_, fun k hk => ?_⟩
    · cases i with
      | zero => simp at f1 f2; subst f1 f2; rw [h2 k' hn.1, bat_bset, if_pos rfl]
      | succ i => exact h1 i k b (by simpa using f1) (by simpa using f2)
    · simp only [List.mem_cons, not_or] at hk
      rw [h2 k hk.2, bat_bset, if_neg fun e0 => hk.1 e0.symm]

theorem op_callP {P : Program} {o : Oper} {env : Env} {st : List Blk} {x : Operand} {xs : List Operand} {ts : Array TypeId} {f : FuncId} {cap vs : List AV} (pl : List Nat) (args : List AV) (bs : List Blk) (v : AV) (bs' : List Blk)
    (ho : o.op = .call { callee := .value x, args := xs.toArray, argTypes := ts }) (hx : ev env x = some (.fn f cap)) (hv : evs env xs = some vs) (hd : distinct pl = true) (hl : pl.length = bs'.length) (hn : bs.length ≤ pl.length) (hpre : Has st (preP (place pl) pl bs))
    (hargs : vs ++ cap = rens (place pl) args) (hA : belows bs.length args = true) (hB : belowB bs.length bs = true) (hF : F P f args bs v bs') : OpT P o ⟨env, st⟩ (ren (place pl) v) (upd st (postP (place pl) pl bs')) := by
  refine OpT.of (by simp [ho]) ?_
  intro G w a hI hE K Q hK
  let m := pl.length
  let n := bs.length
  let σ := place pl
  have hinj : ∀ i j, i < m → j < m → σ i = σ j → i = j := fun i j hi hj h => place_inj hd hi hj h
  have σat : ∀ i (hi : i < m), pl[i]? = some (σ i) := fun i hi => by
    simp only [σ, place, List.getElem?_eq_getElem hi, Option.getD_some]
  have batσ : ∀ i, i < m → bat st (σ i) = match bs[i]? with | some b => renB σ b | none => .gone := fun i hi => preP_get hpre i (σ i) (σat i hi)
  have gone : ∀ i, n ≤ i → i < m → G.cl (σ i) = none ∧ G.gr (σ i) = none := fun i h1 h2 => by
    have h := hI.batOk (σ i)
    rw [batσ i h2, List.getElem?_eq_none h1] at h
    exact h
  let G0 : Ghost := ⟨fun i => if i < n then G.cl (σ i) else none, fun i => if i < n then G.gr (σ i) else none, G.Z, G.ok⟩
  have hc0 : ∀ i, i < n → G0.cl i = G.cl (σ i) := fun i hi => by simp only [G0, if_pos hi]
  have hg0 : ∀ i, i < n → G0.gr i = G.gr (σ i) := fun i hi => by simp only [G0, if_pos hi]
  have own0 : ∀ i c, G0.owns i c → i < n ∧ G.owns (σ i) c := fun i c h => by
    by_cases hi : i < n
    · refine ⟨hi, ?_⟩
      rcases h with h | ⟨g, h, e⟩
      · exact .inl (by rw [← hc0 i hi]; exact h)
      · exact .inr ⟨g, by rw [← hg0 i hi]; exact h, e⟩
    · rcases h with h | ⟨g, h, _⟩
      · simp [G0, hi] at h
      · simp [G0, hi] at h
  have hI0 : Inv G0 bs w := by
    refine ⟨fun i b hb => ?_, fun i hi => ?_, fun i j c h1 h2 => ?_, hI.z⟩
    · have hi : i < n := lt_of_get hb
      refine blk_unren (σ := σ) (n := n) hc0 hg0 rfl hi (belowB_get hB i b hb) ?_
      have h := hI.batOk (σ i)
      rw [batσ i (by omega), hb] at h
      exact h
    · have : ¬ i < n := by simp only [n]; omega
      simp [G0, this]
    · exact hinj i j (by have := (own0 i c h1).1; omega) (by have := (own0 j c h2).1; omega) (hI.inj _ _ c (own0 i c h1).2 (own0 j c h2).2)
  obtain ⟨cc, hfe, hcl, hcr⟩ := (ev_r hE hx).fn_inv
  obtain ⟨hal, har⟩ := evs_map hE hv
  obtain ⟨hbl2, hbr⟩ := r_append hal hcl har hcr
  unfold Oper.wp execOp
  simp only [ho, resolve, invoke, hfe, Deferred.ofValue, Sem.run_bind, Sem.run_pure, Result.andThen_ok, Array.empty_append, hF.en _ w, Oper.upon]
  rw [hargs] at hbl2 hbr
  refine (hF.ok G0 w _ args bs v bs' hI0 ⟨by rw [hbl2, rens_len], fun j u c e1 e2 => ?_⟩ ⟨rfl, rfl, rfl, rfl⟩).mono fun e w' ⟨cv, G0', he, hA'⟩ => ?_
  · exact rs_unren hc0 hg0 rfl hA hbr j u c e1 e2
  subst he
  have hle0 := hA'.le
  have hdom : ∀ i, m ≤ i → G0'.cl i = none ∧ G0'.gr i = none := fun i hi => hA'.inv.dom i (by omega)
  let G' := G.joinM G0' σ m
  have c1 : ∀ i, i < m → G'.cl (σ i) = G0'.cl i := fun i hi => joinM_cl hinj hi
  have c2 : ∀ i, i < m → G'.gr (σ i) = G0'.gr i := fun i hi => joinM_gr hinj hi
  have hZ : G0'.Z = G'.Z := rfl
  have ownAt : ∀ i c, i < m → (G'.owns (σ i) c ↔ G0'.owns i c) := fun i c hi => by unfold Ghost.owns; rw [c1 i hi, c2 i hi]
  have ownOff : ∀ k c, (¬ ∃ i, i < m ∧ σ i = k) → (G'.owns k c ↔ G.owns k c) := fun k c h => by unfold Ghost.owns; rw [joinM_cl_off h, joinM_gr_off h]
  have apart : ∀ k c, (¬ ∃ i, i < m ∧ σ i = k) → G.owns k c → ∀ i, ¬ G0.owns i c := fun k c h hk i hi => by
    have := hI.inj _ _ c hk (own0 i c hi).2
    exact h ⟨i, by have := (own0 i c hi).1; omega, this.symm⟩
  have hle : G.le G' := by
    refine ⟨fun k c e => ?_, fun k g e => ?_, hle0.Z⟩
    · by_cases h : ∃ i, i < m ∧ σ i = k
      · obtain ⟨i, hi, rfl⟩ := h
        rw [c1 i hi]
        have hin : i < n := by
          rcases Nat.lt_or_ge i n with h' | h'
          · exact h'
          · rw [(gone i h' hi).1] at e; cases e
        exact hle0.cl i c (by rw [hc0 i hin]; exact e)
      · rw [joinM_cl_off h]; exact e
    · by_cases h : ∃ i, i < m ∧ σ i = k
      · obtain ⟨i, hi, rfl⟩ := h
        rw [c2 i hi]
        have hin : i < n := by
          rcases Nat.lt_or_ge i n with h' | h'
          · exact h'
          · rw [(gone i h' hi).2] at e; cases e
        exact hle0.gr i g (by rw [hg0 i hin]; exact e)
      · rw [joinM_gr_off h]; exact ⟨g, e, .inl rfl⟩
  obtain ⟨hu1, hu2⟩ := upd_postP (σ := σ) (pl := pl) (bs' := bs') st hd hl
  have hinv : Inv G' (upd st (postP σ pl bs')) w' := by
    refine .of_bat (fun k => ?_) (fun k q c h1 h2 => ?_) hA'.inv.z
    · by_cases h : ∃ i, i < m ∧ σ i = k
      · obtain ⟨i, hi, rfl⟩ := h
        have hb : bs'[i]? = some (bs'[i]'(by omega)) := List.getElem?_eq_getElem _
        rw [hu1 i (σ i) _ (σat i hi) hb]
        exact blk_ren (fun j c e => by
            have hj : j < m := by
              rcases Nat.lt_or_ge j m with h' | h'
              · exact h'
              · rw [(hdom j h').1] at e; cases e
            exact (c1 j hj).trans e) (fun j g e => by
            have hj : j < m := by
              rcases Nat.lt_or_ge j m with h' | h'
              · exact h'
              · rw [(hdom j h').2] at e; cases e
            exact (c2 j hj).trans e) hZ (c1 i hi) (c2 i hi) (hA'.inv.blk i _ hb)
      · have hk : k ∉ pl := fun hm => by
          obtain ⟨i, hi, e⟩ := List.getElem_of_mem hm
          refine h ⟨i, hi, ?_⟩
          have := σat i hi
          rw [List.getElem?_eq_getElem hi, e] at this
          exact (Option.some.inj this).symm
        rw [hu2 k hk]
        refine (hI.batOk k).keep hle (joinM_cl_off h) (joinM_gr_off h) (fun c hc => hA'.ev.frame c (hI.lt hc).2 (apart k c h hc)) fun c hc o => ?_
        have hclt := (hI.lt hc).2
        cases hG : G.Z c o with
        | some u => exact hle0.Z c o u hG
        | none =>
          cases hZ' : G'.Z c o with
          | none => rfl
          | some u =>
            rcases hA'.ev.newZ c o u hZ' with e | e | ⟨i, e⟩
            · have e' : G.Z c o = some u := e
              rw [hG] at e'; cases e'
            · omega
            · exact absurd e (apart k c h hc i)
    · by_cases hk : ∃ i, i < m ∧ σ i = k <;> by_cases hq : ∃ i, i < m ∧ σ i = q
      · obtain ⟨i, hi, rfl⟩ := hk
        obtain ⟨j, hj, rfl⟩ := hq
        rw [ownAt i c hi] at h1
        rw [ownAt j c hj] at h2
        rw [hA'.inv.inj i j c h1 h2]
      · obtain ⟨i, hi, rfl⟩ := hk
        rw [ownAt i c hi] at h1
        rw [ownOff q c hq] at h2
        rcases hA'.ev.own i c h1 with e | ⟨j, e⟩
        · have := (hI.lt h2).2; omega
        · exact absurd e (apart q c hq h2 j)
      · obtain ⟨j, hj, rfl⟩ := hq
        rw [ownAt j c hj] at h2
        rw [ownOff k c hk] at h1
        rcases hA'.ev.own j c h2 with e | ⟨i, e⟩
        · have := (hI.lt h1).2; omega
        · exact absurd e (apart k c hk h1 i)
      · rw [ownOff k c hk] at h1
        rw [ownOff q c hq] at h2
        exact hI.inj k q c h1 h2
  have hrr : R G' (ren σ v) cv := by
    refine r_ren (fun j c e => ?_) (fun j g e => ?_) (hZ ▸ .refl _) hA'.r
    · have hj : j < m := by
        rcases Nat.lt_or_ge j m with h' | h'
        · exact h'
        · rw [(hdom j h').1] at e; cases e
      exact (c1 j hj).trans e
    · have hj : j < m := by
        rcases Nat.lt_or_ge j m with h' | h'
        · exact h'
        · rw [(hdom j h').2] at e; cases e
      exact (c2 j hj).trans e
  refine hK cv w' G' ⟨hrr, hinv, hle, ⟨hA'.ev.os, hA'.ev.tape, hA'.ev.output, hA'.ev.size, hle0.Z, fun c o u e => ?_, fun c hc hn => hA'.ev.frame c hc fun i hi => hn _ (own0 i c hi).2, fun k c hk => ?_, hA'.ev.loop⟩⟩
  · rcases hA'.ev.newZ c o u e with e | e | ⟨i, e⟩
    · exact .inl e
    · exact .inr (.inl e)
    · exact .inr (.inr ⟨_, (own0 i c e).2⟩)
  · by_cases h : ∃ i, i < m ∧ σ i = k
    · obtain ⟨i, hi, rfl⟩ := h
      rw [ownAt i c hi] at hk
      rcases hA'.ev.own i c hk with e | ⟨j, e⟩
      · exact .inl e
      · exact .inr ⟨_, (own0 j c e).2⟩
    · rw [ownOff k c h] at hk
      exact .inr ⟨k, hk⟩

/-- A call that changes blocks: pl tells where the callee's blocks lie (those that it is handed, then free places for new ones). -/
theorem callF {P : Program} {f : Nat} {vs : List AV} {st : List Blk} {K : Ef → Prop} (pl : List Nat) {args : List AV} {bs : List Blk} {v : AV} {bs' : List Blk} (hF : F P f args bs v bs') (hpre : Has st (preP (place pl) pl bs)) (k : K ⟨ren (place pl) v, preP (place pl) pl bs, postP (place pl) pl bs'⟩)
    (hargs : vs = rens (place pl) args := by rfl) (hd : distinct pl = true := by rfl) (hl : pl.length = bs'.length := by rfl) (hn : bs.length ≤ pl.length := by decide) (hA : belows bs.length args = true := by rfl) (hB : belowB bs.length bs = true := by rfl) : CallT (P := P) f vs st (K := K) :=
  .mk _ ⟨hpre, fun k h => postP_keys bs' h, fun o env bs0 x xs ts cap vs' ho hx hxs hvs h0 => op_callP pl args bs v bs' ho hx hxs hd hl hn h0 (hvs.trans hargs) hA hB hF⟩ k

end
end Go.Proofs.YtelgmdljcbkniaaGreatDoor.Ai

/- An interpreter of values for the model's code, base text 22: makers, builtins; regions and code by evaluation. -/
namespace Go.Proofs.YtelgmdljcbkniaaGreatDoor.Ai
noncomputable section
open Go
set_option linter.unusedVariables false

section
variable {X : Cx} {o : Oper} {env : Env} {bs : List Blk} {K : Ef → Prop}

def moveW (a : Option AV) (K : Ef → Prop) : Prop := optP a fun v => K ⟨v, [], []⟩
theorem moveW_ok {x : Operand} (ho : o.op = .move x ∨ o.op = .assign x) (h : moveW (ev env x) K) : ∃ e, Sd X.P o env bs e ∧ K e := by
  replace h := optP_inv h
  obtain ⟨v, hv, h⟩ := h
  rcases ho with ho | ho
  · exact ⟨_, .q fun env' bs0 ha => op_move ho ((ha x (by simp [ho, Op.operands])).trans hv), h⟩
  · exact ⟨_, .q fun env' bs0 ha => op_assign ho ((ha x (by simp [ho, Op.operands])).trans hv), h⟩

def allocW (X : Cx) (t : Nat) (bs : List Blk) (K : Ef → Prop) : Prop := optP (X.ti t) fun i => natP bs.length fun k => goneP (bat bs k) (K ⟨.ptr k 0, [(k, .gone)], [(k, .cells i.zav.cells)]⟩)
theorem allocW_ok {t : Nat} (ho : o.op = .alloc t) (h : allocW X t bs K) : ∃ e, Sd X.P o env bs e ∧ K e := by
  replace h := optP_inv h
  obtain ⟨i, hi, h⟩ := h
  replace h := natP_inv h
  replace h := goneP_inv h
  obtain ⟨hb, h⟩ := h
  have ht := X.ok t i hi
  exact ⟨_, .w hb fun env' bs0 ha hb0 => op_alloc_b ht.inf ht.zav.1 ht.zav.2.1 ho hb0, h⟩

def boxW (a : Option AV) (bs : List Blk) (K : Ef → Prop) : Prop := optP a fun v => boolP (v.cells.all AV.one) (natP bs.length fun k => goneP (bat bs k) (copyP v.cells fun cs => K ⟨.ptr k 0, [(k, .gone)], [(k, .cells cs)]⟩)) False
theorem boxW_ok {t : Nat} {x : Operand} (ho : o.op = .box t x) (h : boxW (ev env x) bs K) : ∃ e, Sd X.P o env bs e ∧ K e := by
  replace h := optP_inv h
  obtain ⟨v, hv, h⟩ := h
  replace h := boolP_inv h; rcases h with ⟨h1, h⟩ | ⟨_, h⟩
  · replace h := natP_inv h
    replace h := goneP_inv h
    obtain ⟨hb, h⟩ := h
    have h' := copyP_inv (K := fun cs => K ⟨.ptr bs.length 0, [(bs.length, .gone)], [(bs.length, .cells cs)]⟩) h
    exact ⟨_, .w hb fun env' bs0 ha hb0 => op_box_b ho ((ha x (by simp [ho, Op.operands])).trans hv) h1 hb0, h'⟩
  · exact h.elim

def buildW (X : Cx) (t : Nat) (ps : List (Nat × Operand)) (env : Env) (K : Ef → Prop) : Prop := optP (X.ti t) fun i => optP (evp env ps) fun aps => match i.zav with
  | .agg zs => (match i.desc with
    | .struct fs => boolP (i.pl.isEmpty) False (optP (afill (fun (j : Nat) => i.pl[j]?) zs aps) fun cs => copyP cs fun cs => K ⟨.agg cs, [], []⟩)
    | .array len e => optP (X.ti e) fun ie => optP (afill (fun (j : Nat) => some (j * ie.size, ie.size)) zs aps) fun cs => copyP cs fun cs => K ⟨.agg cs, [], []⟩
    | _ => False)
  | _ => False
theorem buildW_ok {t : Nat} {ps : Array (Nat × Operand)} (ho : o.op = .build t ps) (h : buildW X t ps.toList env K) : ∃ e, Sd X.P o env bs e ∧ K e := by
  replace h := optP_inv h
  obtain ⟨i, hi, h⟩ := h
  replace h := optP_inv h
  obtain ⟨aps, hp, h⟩ := h
  have ht := X.ok t i hi
  have hops : ∀ env', (∀ x ∈ o.op.operands.toList, ev env' x = ev env x) → evp env' ps.toList = some aps := fun env' ha => evp_congr hp fun x hx => ha x (by simpa [ho, Op.operands] using hx)
  have ho' : o.op = .build t ps.toList.toArray := by simpa using ho
  have hz := ht.zav.1
  split at h
  · rename_i zs hzs
    rw [hzs] at hz
    split at h
    · rename_i fs hd
      have hin := ht.inf
      rw [hd] at hin
      replace h := boolP_inv h; rcases h with ⟨_, h⟩ | ⟨hne, h⟩
      · exact h.elim
      · replace h := optP_inv h
        obtain ⟨cs, hcs, h⟩ := h
        have h' := copyP_inv (K := fun cs => K ⟨.agg cs, [], []⟩) h
        obtain ⟨fs', hd', hpl⟩ := ht.pl (by intro e; rw [e] at hne; cases hne)
        obtain rfl : fs = fs' := by rw [hd] at hd'; simpa using hd'
        exact ⟨_, .q fun env' bs0 ha => op_build hin hpl hz ho' (hops env' ha) hcs, h'⟩
    · rename_i len e hd
      have hin := ht.inf
      rw [hd] at hin
      replace h := optP_inv h
      obtain ⟨ie, hie, h⟩ := h
      replace h := optP_inv h
      obtain ⟨cs, hcs, h⟩ := h
      have h' := copyP_inv (K := fun cs => K ⟨.agg cs, [], []⟩) h
      exact ⟨_, .q fun env' bs0 ha => op_build_a hin (X.ok e ie hie).inf hz ho' (hops env' ha) hcs, h'⟩
    · exact h.elim
  · exact h.elim

/-- The places of a slice literal: one behind the other. -/
def inRow : List (Nat × Operand) → Nat → Bool
  | [], _ => true
  | p :: r, i => Nat.beq p.1 i && inRow r (i + 1)
theorem inRow_eq : ∀ {ps : List (Nat × Operand)} {i : Nat}, inRow ps i = true → ps = ((ps.map Prod.snd).zipIdx i).map fun x => (x.2, x.1)
  | [], _, _ => rfl
  | (j, x) :: r, i, h => by
    simp only [inRow, Bool.and_eq_true] at h
    have e : j = i := Nat.eq_of_beq_eq_true h.1
    subst e
    simp only [List.map_cons, List.zipIdx_cons]
    rw [← inRow_eq h.2]

def bsliceW (X : Cx) (t len : Nat) (ps : List (Nat × Operand)) (env : Env) (bs : List Blk) (K : Ef → Prop) : Prop := optP (X.ti t) fun it => match it.desc with
  | .slice e => optP (X.ti e) fun ie => boolP (inRow ps 0 && Nat.beq (ps.map Prod.snd).length len && Nat.blt 0 ie.size && Nat.blt 0 len && Nat.ble (len * ie.size) 16777216)
      (optP (evs env (ps.map Prod.snd)) fun avs => optP (imms bs avs) fun ds => boolP (szAll ie.size ds) (copyP ds fun ds => K ⟨.lst true ds, gpres bs avs, []⟩) False) False
  | _ => False
theorem bsliceW_ok {t len : Nat} {ps : Array (Nat × Operand)} (ho : o.op = .buildSlice t len ps) (h : bsliceW X t len ps.toList env bs K) : ∃ e, Sd X.P o env bs e ∧ K e := by
  replace h := optP_inv h
  obtain ⟨it, hi, h⟩ := h
  have hu := (X.ok t it hi).inf.und
  split at h
  · rename_i e hd
    rw [hd] at hu
    replace h := optP_inv h
    obtain ⟨ie, hie, h⟩ := h
    replace h := boolP_inv h; rcases h with ⟨hc, h⟩ | ⟨_, h⟩
    · simp only [Bool.and_eq_true] at hc
      obtain ⟨⟨⟨⟨c1, c2⟩, c3⟩, c4⟩, c5⟩ := hc
      replace h := optP_inv h
      obtain ⟨avs, ha1, h⟩ := h
      replace h := optP_inv h
      obtain ⟨ds, hds, h⟩ := h
      replace h := boolP_inv h; rcases h with ⟨hsz, h⟩ | ⟨_, h⟩
      · have h' := copyP_inv (K := fun ds => K ⟨.lst true ds, gpres bs avs, []⟩) h
        refine ⟨_, ⟨has_gpres bs avs, fun _ h => by simp at h, fun env' bs0 ha h0 => ?_⟩, h'⟩
        exact op_bslice (s := ⟨env', bs0⟩) hu (X.ok e ie hie).inf (ps := ps.toList) (by simpa using ho) (inRow_eq c1) (Nat.eq_of_beq_eq_true c2) (by simpa [Nat.blt_eq] using c3) (by simpa [Nat.blt_eq] using c4) (Nat.le_of_ble_eq_true c5)
          (evs_congr ha1 fun x hx => ha x (by simpa [ho, Op.operands] using hx)) (imms_congr hds h0) hsz
      · exact h.elim
    · exact h.elim
  · exact h.elim

def mkfW (f : Nat) (xs : List Operand) (env : Env) (K : Ef → Prop) : Prop := optP (evs env xs) fun vs => K ⟨.fn f vs, [], []⟩
theorem mkfW_ok {f : Nat} {xs : Array Operand} (ho : o.op = .makeFunc (.func f) #[] xs) (h : mkfW f xs.toList env K) : ∃ e, Sd X.P o env bs e ∧ K e := by
  replace h := optP_inv h
  obtain ⟨vs, hv, h⟩ := h
  exact ⟨_, .q fun env' bs0 ha => op_mkfunc (xs := xs.toList) (by simpa using ho) (evs_congr hv fun x hx => ha x (by simpa [ho, Op.operands] using hx)), h⟩

def mkmapW (bs : List Blk) (K : Ef → Prop) : Prop := natP bs.length fun k => goneP (bat bs k) (K ⟨.map k, [(k, .gone)], [(k, .map [])]⟩)
theorem mkmapW_ok {t : Nat} (ho : o.op = .makeMap t none) (h : mkmapW bs K) : ∃ e, Sd X.P o env bs e ∧ K e := by
  replace h := natP_inv h
  replace h := goneP_inv h
  obtain ⟨hb, h⟩ := h
  exact ⟨_, .w hb fun env' bs0 ha hb0 => op_mkmap_b ho hb0, h⟩

def mksW (X : Cx) (t : Nat) (a b : AV) (bs : List Blk) (K : Ef → Prop) : Prop := match a, b with
  | .int _ n, .int _ m => optP (X.ti t) fun it => match it.desc with
    | .slice e => optP (X.ti e) fun ie => boolP (Nat.blt 0 ie.size) (Chk (m = n ∧ 0 ≤ n ∧ (ie.bytes : Int) * n ≤ 281474976710656 ∧ n ≤ 9223372036854775807) (natP bs.length fun k => goneP (bat bs k)
        (K ⟨.slc k 0 ie.size n.toNat (some n.toNat), [(k, .gone)], [(k, .rows ie.size (List.replicate n.toNat ie.zav))]⟩))) False
    | _ => False
  | _, _ => False
theorem mksW_ok {t : Nat} {x y : Operand} {a b : AV} (ho : o.op = .makeSlice t x y) (hx : ev env x = some a) (hy : ev env y = some b) (h : mksW X t a b bs K) : ∃ e, Sd X.P o env bs e ∧ K e := by
  have mx : x ∈ o.op.operands.toList := by simp [ho, Op.operands]
  have my : y ∈ o.op.operands.toList := by simp [ho, Op.operands]
  unfold mksW at h
  split at h
  · replace h := optP_inv h
    obtain ⟨it, hi, h⟩ := h
    have hu := (X.ok t it hi).inf.und
    split at h
    · rename_i e hd
      rw [hd] at hu
      replace h := optP_inv h
      obtain ⟨ie, hie, h⟩ := h
      have he := X.ok e ie hie
      replace h := boolP_inv h; rcases h with ⟨h0, h⟩ | ⟨_, h⟩
      · obtain ⟨⟨rfl, g1, g2, g3⟩, h⟩ := h
        replace h := natP_inv h
        replace h := goneP_inv h
        obtain ⟨hb, h⟩ := h
        exact ⟨_, .w hb fun env' bs0 ha hb0 => op_make hu he.inf he.zav.1 he.zav.2.1 he.zav.2.2.1 (by simpa [Nat.blt_eq] using h0) ho ((ha x mx).trans hx) ((ha y my).trans hy) g1 g2 g3 hb0, h⟩
      · exact h.elim
    · exact h.elim
  · exact h.elim

def extrW (a : AV) (i : Nat) (K : Ef → Prop) : Prop := match a with
  | .tup vs => optP (nth vs i) fun v => K ⟨v, [], []⟩
  | _ => False
theorem extrW_ok {x : Operand} {i : Nat} {a : AV} (ho : o.op = .extract x i) (hx : ev env x = some a) (h : extrW a i K) : ∃ e, Sd X.P o env bs e ∧ K e := by
  unfold extrW at h
  split at h
  · obtain ⟨v, hv, h⟩ := optP_inv h
    rw [nth_eq] at hv
    exact ⟨_, .q fun env' bs0 ha => op_extract ho ((ha x (by simp [ho, Op.operands])).trans hx) hv, h⟩
  · exact h.elim

def nilW (a : AV) (K : Ef → Prop) : Prop := match a with
  | .ptr _ _ | .rptr _ _ _ _ | .eptr _ _ _ => K ⟨a, [], []⟩
  | _ => False
theorem nilW_ok {x : Operand} {a : AV} (ho : o.op = .nilCheck x) (hx : ev env x = some a) (h : nilW a K) : ∃ e, Sd X.P o env bs e ∧ K e := by
  have mx : x ∈ o.op.operands.toList := by simp [ho, Op.operands]
  unfold nilW at h
  split at h
  · exact ⟨_, .q fun env' bs0 ha => op_nilcheck ho ((ha x mx).trans hx) (.ptr _ _), h⟩
  · exact ⟨_, .q fun env' bs0 ha => op_nilcheck ho ((ha x mx).trans hx) (.rptr _ _ _ _), h⟩
  · exact ⟨_, .q fun env' bs0 ha => op_nilcheck ho ((ha x mx).trans hx) (.eptr _ _ _), h⟩
  · exact h.elim

/-! ### maps: told by the list of their entries -/

inductive LookT (X : Cx) (t : Nat) (bs : List Blk) (m k : AV) (ok : Bool) (K : Ef → Prop) : Prop where
  | own {α : Type} (e : α → AV) (l : List (Int × α)) (z0 : α) (kk : IntKind) (n : Int) (i kt et : Nat) (it ik ie : TInfo) (hm : m = .map i) (hk : k = .int kk n) (hb : bat bs i = mb kk e l) (h1 : X.ti t = some it) (h2 : it.desc = .map kt et) (h3 : X.ti kt = some ik) (h4 : ik.desc = .int kk)
      (h5 : X.ti et = some ie) (h6 : ie.zav = e z0) (kx : K ⟨if ok then .tup [e ((mget l n).getD z0), .bool (mget l n).isSome] else e ((mget l n).getD z0), [(i, mb kk e l)], []⟩)
  | imm {α : Type} (e : α → AV) (l : List (Int × α)) (z0 : α) (kk : IntKind) (n : Int) (kt et : Nat) (it ik ie : TInfo) (hm : m = .imap (l.map fun p => .int kk p.1) (l.map fun p => e p.2)) (hk : k = .int kk n) (h1 : X.ti t = some it) (h2 : it.desc = .map kt et) (h3 : X.ti kt = some ik) (h4 : ik.desc = .int kk)
      (h5 : X.ti et = some ie) (h6 : ie.zav = e z0) (kx : K ⟨if ok then .tup [e ((mget l n).getD z0), .bool (mget l n).isSome] else e ((mget l n).getD z0), [], []⟩)

theorem lookT_ok {t : Nat} {x y : Operand} {ok : Bool} {m k : AV} (ho : o.op = .lookup t x y ok) (hx : ev env x = some m) (hy : ev env y = some k) (h : LookT X t bs m k ok K) : ∃ e, Sd X.P o env bs e ∧ K e := by
  have mx : x ∈ o.op.operands.toList := by simp [ho, Op.operands]
  have my : y ∈ o.op.operands.toList := by simp [ho, Op.operands]
  cases h with
  | own e l z0 kk n i kt et it ik ie hm hk hb h1 h2 h3 h4 h5 h6 kx =>
    subst hm hk
    have u1 := (X.ok t it h1).inf.und; rw [h2] at u1
    have u2 := (X.ok kt ik h3).inf.und; rw [h4] at u2
    have he := X.ok et ie h5
    have hz := he.zav.1; rw [h6] at hz
    refine ⟨_, .r hb fun env' bs0 ha hb0 => ?_, kx⟩
    have hg := get_bat _ _ _ hb0 (by simp [mb])
    cases ok with
    | false => exact op_lookup u1 u2 he.inf hz ho ((ha x mx).trans hx) ((ha y my).trans hy) hg
    | true => exact op_lookup_ok u1 u2 he.inf hz ho ((ha x mx).trans hx) ((ha y my).trans hy) hg
  | imm e l z0 kk n kt et it ik ie hm hk h1 h2 h3 h4 h5 h6 kx =>
    subst hm hk
    have u1 := (X.ok t it h1).inf.und; rw [h2] at u1
    have u2 := (X.ok kt ik h3).inf.und; rw [h4] at u2
    have he := X.ok et ie h5
    have hz := he.zav.1; rw [h6] at hz
    exact ⟨_, .q fun env' bs0 ha => op_lookup_i ok u1 u2 he.inf hz ho ((ha x mx).trans hx) ((ha y my).trans hy), kx⟩

inductive MapT (X : Cx) (t : Nat) (bs : List Blk) (m k v : AV) (K : Ef → Prop) : Prop where
  | mk {α : Type} (e : α → AV) (l : List (Int × α)) (u : α) (kk : IntKind) (n : Int) (i kt et : Nat) (it ik : TInfo) (hm : m = .map i) (hk : k = .int kk n) (hv : v = e u) (hb : bat bs i = mb kk e l) (h1 : X.ti t = some it) (h2 : it.desc = .map kt et) (h3 : X.ti kt = some ik) (h4 : ik.desc = .int kk)
      (kx : K ⟨.tup [], [(i, mb kk e l)], [(i, mb kk e (mset l n u))]⟩)

theorem mapT_ok {t : Nat} {x y z : Operand} {m k v : AV} (ho : o.op = .mapUpdate t x y z) (hx : ev env x = some m) (hy : ev env y = some k) (hz : ev env z = some v) (h : MapT X t bs m k v K) : ∃ e, Sd X.P o env bs e ∧ K e := by
  have mx : x ∈ o.op.operands.toList := by simp [ho, Op.operands]
  have my : y ∈ o.op.operands.toList := by simp [ho, Op.operands]
  have mz : z ∈ o.op.operands.toList := by simp [ho, Op.operands]
  cases h with
  | mk e l u kk n i kt et it ik hm hk hv hb h1 h2 h3 h4 kx =>
    subst hm hk hv
    have u1 := (X.ok t it h1).inf.und; rw [h2] at u1
    have u2 := (X.ok kt ik h3).inf.und; rw [h4] at u2
    refine ⟨_, .w hb fun env' bs0 ha hb0 => ?_, kx⟩
    rw [bset_set _ _ _ (bat_lt hb0 (by simp [mb]))]
    exact op_mapset u1 u2 ho ((ha x mx).trans hx) ((ha y my).trans hy) ((ha z mz).trans hz) (get_bat _ _ _ hb0 (by simp [mb])) rfl

/-! ### builtins -/

def lenW (X : Cx) (t : Nat) (a : AV) (bs : List Blk) (K : Ef → Prop) : Prop := optP (X.ti t) fun it => match it.desc, a with
  | .slice _, .lst _ xs => K ⟨.int .i64 xs.length, [], []⟩
  | .slice _, .gsl b n => growP (bat bs b) fun e sz xs => Chk (n = xs.length) (K ⟨.int .i64 n, [(b, .grow e sz xs)], []⟩)
  | .slice _, .slc _ _ _ n _ => K ⟨.int .i64 n, [], []⟩
  | .slice _, .nils => K ⟨.int .i64 0, [], []⟩
  | _, _ => False
theorem lenW_ok {t : Nat} {x : Operand} {a : AV} (ho : o.op = .call { callee := .builtin .len, args := #[x], argTypes := #[t] }) (hx : ev env x = some a) (h : lenW X t a bs K) : ∃ e, Sd X.P o env bs e ∧ K e := by
  have mx : x ∈ o.op.operands.toList := by simp [ho, Op.operands, Call.operands]
  replace h := optP_inv h
  obtain ⟨it, hi, h⟩ := h
  have hu := (X.ok t it hi).inf.und
  split at h
  · rename_i hd; rw [hd] at hu
    exact ⟨_, .q fun env' bs0 ha => op_len hu ho ((ha x mx).trans hx), h⟩
  · rename_i hd; rw [hd] at hu
    replace h := growP_inv h
    obtain ⟨e, sz, xs, hb, h⟩ := h
    obtain ⟨hn, h⟩ := h
    exact ⟨_, .r hb fun env' bs0 ha hb0 => op_len_g hu ho ((ha x mx).trans hx) hb0 hn, h⟩
  · rename_i hd; rw [hd] at hu
    exact ⟨_, .q fun env' bs0 ha => op_len_s hu ho ((ha x mx).trans hx), h⟩
  · rename_i hd; rw [hd] at hu
    exact ⟨_, .q fun env' bs0 ha => op_len_n hu ho ((ha x mx).trans hx), h⟩
  · exact h.elim

/-- The elements of what is appended. -/
def elsW (bs : List Blk) (v : AV) (K : List AV → Prop) : Prop := match v with
  | .lst _ ys => K ys
  | .nils => K []
  | .gsl b n => growP (bat bs b) fun _ _ ys => Chk (ys.length = n) (K ys)
  | _ => False
theorem elsW_ok {v : AV} {K : List AV → Prop} (h : elsW bs v K) : ∃ ys, imm bs v = some (.lst false ys) ∧ K ys := by
  unfold elsW at h
  split at h
  · exact ⟨_, rfl, h⟩
  · exact ⟨_, rfl, h⟩
  · replace h := growP_inv h
    obtain ⟨e, sz, ys, hb, h⟩ := h
    obtain ⟨hn, h⟩ := h
    refine ⟨ys, ?_, h⟩
    simp only [imm, get_bat _ _ _ hb (by simp), hn, if_true]
  · exact h.elim

def appW (X : Cx) (t : Nat) (a b : AV) (bs : List Blk) (K : Ef → Prop) : Prop := optP (X.ti t) fun it => match it.desc with
  | .slice e => optP (X.ti e) fun ie => boolP (Nat.blt 0 ie.size) (elsW bs b fun ys => match a with
    | .nils => Chk (Sized ie.size ys ∧ ys.length * ie.bytes ≤ 140737488355328 ∧ ys.length ≤ maxLen) (natP bs.length fun k => goneP (bat bs k) (K ⟨.gsl k ys.length, (k, .gone) :: gpre bs b, [(k, .grow e ie.size ys)]⟩))
    | .gsl i n => growP (bat bs i) fun e' sz xs => boolP (Nat.beq e' e && Nat.beq sz ie.size) (Chk (n = xs.length ∧ Sized ie.size ys ∧ (xs.length + ys.length) * ie.bytes ≤ 140737488355328 ∧ xs.length + ys.length ≤ maxLen)
        (K ⟨.gsl i (xs ++ ys).length, (i, .grow e' sz xs) :: gpre bs b, [(i, .grow e' sz (xs ++ ys))]⟩)) False
    | _ => False) False
  | _ => False
theorem appW_ok {t : Nat} {x y : Operand} {a b : AV} (ho : o.op = .call { callee := .builtin .append, args := #[x, y], argTypes := #[t, t] }) (hx : ev env x = some a) (hy : ev env y = some b) (h : appW X t a b bs K) : ∃ e, Sd X.P o env bs e ∧ K e := by
  have mx : x ∈ o.op.operands.toList := by simp [ho, Op.operands, Call.operands]
  have my : y ∈ o.op.operands.toList := by simp [ho, Op.operands, Call.operands]
  replace h := optP_inv h
  obtain ⟨it, hi, h⟩ := h
  have hu := (X.ok t it hi).inf.und
  split at h
  · rename_i e hd
    rw [hd] at hu
    replace h := optP_inv h
    obtain ⟨ie, hie, h⟩ := h
    have he := X.ok e ie hie
    replace h := boolP_inv h; rcases h with ⟨h0, h⟩ | ⟨_, h⟩
    · have h0 : 0 < ie.size := by simpa [Nat.blt_eq] using h0
      replace h := elsW_ok h
      obtain ⟨ys, him, h⟩ := h
      split at h
      · obtain ⟨⟨g1, g2, g3⟩, h⟩ := h
        replace h := natP_inv h
        replace h := goneP_inv h
        obtain ⟨hb, h⟩ := h
        refine ⟨_, ?_, h⟩
        refine ⟨⟨hb, has_gpre bs b⟩, fun k hk => ?_, fun env' bs0 ha h1 => ?_⟩
        · simp at hk; simp [hk]
        · exact op_append_n hu he.inf he.zav.2.2.2 h0 ho ((ha x mx).trans hx) h1.1 ((ha y my).trans hy) (imm_congr him h1.2) g1 g2 g3
      · replace h := growP_inv h
        obtain ⟨e', sz, xs, hb, h⟩ := h
        replace h := boolP_inv h; rcases h with ⟨hq, h⟩ | ⟨_, h⟩
        · simp only [Bool.and_eq_true] at hq
          obtain rfl := Nat.eq_of_beq_eq_true hq.1
          have hsz := Nat.eq_of_beq_eq_true hq.2
          subst hsz
          obtain ⟨⟨g0, g1, g2, g3⟩, h⟩ := h
          refine ⟨_, ?_, h⟩
          refine ⟨⟨hb, has_gpre bs b⟩, fun k hk => ?_, fun env' bs0 ha h1 => ?_⟩
          · simp at hk; simp [hk]
          · exact op_append_g (e' := 0) hu he.inf he.zav.2.2.2 h0 ho ((ha x mx).trans hx) h1.1 g0 ((ha y my).trans hy) (imm_congr him h1.2) g1 g2 g3
        · exact h.elim
      · exact h.elim
    · exact h.elim
  · exact h.elim

def mxW (a b : AV) (g : Int → Int → Int) (K : Ef → Prop) : Prop := match a, b with
  | .int k x, .int k' y => boolP (k == k') (K ⟨.int k (g x y), [], []⟩) False
  | _, _ => False

def callW (X : Cx) (c : Call) (env : Env) (bs : List Blk) (K : Ef → Prop) : Prop := match c.callee with
  | .value x => optP (ev env x) fun f => (match f with
    | .fn f cap => optP (evs env c.args.toList) fun vs => copyP (vs ++ cap) fun vs => CallT (P := X.P) f vs bs (K := K)
    | _ => False)
  | .builtin b => (match b, c.args.toList, c.argTypes.toList with
    | .len, [x], [t] => optP (ev env x) fun a => lenW X t a bs K
    | .append, [x, y], [t, t'] => boolP (Nat.beq t t') (optP (ev env x) fun a => optP (ev env y) fun b => appW X t a b bs K) False
    | .max, [x, y], _ => optP (ev env x) fun a => optP (ev env y) fun b => mxW a b mx K
    | .min, [x, y], _ => optP (ev env x) fun a => optP (ev env y) fun b => mxW a b mn K
    | _, _, _ => False)
  | _ => False
theorem callW_ok {c : Call} (ho : o.op = .call c) (h : callW X c env bs K) : ∃ e, Sd X.P o env bs e ∧ K e := by
  obtain ⟨cl, ⟨args⟩, ⟨ts⟩⟩ := c
  unfold callW at h
  simp only at h
  split at h
  · rename_i x
    replace h := optP_inv h
    obtain ⟨fv, hf, h⟩ := h
    split at h
    · rename_i f cap
      replace h := optP_inv h
      obtain ⟨vs, hvs, h⟩ := h
      have h' := copyP_inv (K := fun vs => CallT (P := X.P) f vs bs (K := K)) h
      obtain ⟨e, ⟨c1, c2, c3⟩, hk⟩ := h'
      refine ⟨e, ⟨c1, c2, fun env' bs0 ha h0 => ?_⟩, hk⟩
      exact c3 o env' bs0 x args _ cap vs ho ((ha x (by simp [ho, Op.operands, Call.operands])).trans hf) (evs_congr hvs fun y hy => ha y (by simp [ho, Op.operands, Call.operands, hy])) rfl h0
    · exact h.elim
  · split at h
    · rename_i _ _ x t
      replace h := optP_inv h
      obtain ⟨a, ha, h⟩ := h
      exact lenW_ok ho ha h
    · rename_i _ _ x y t t'
      replace h := boolP_inv h; rcases h with ⟨ht, h⟩ | ⟨_, h⟩
      · obtain rfl := Nat.eq_of_beq_eq_true ht
        replace h := optP_inv h
        obtain ⟨a, ha, h⟩ := h
        replace h := optP_inv h
        obtain ⟨b, hb, h⟩ := h
        exact appW_ok ho ha hb h
      · exact h.elim
    · rename_i _ _ x y
      replace h := optP_inv h
      obtain ⟨a, ha, h⟩ := h
      replace h := optP_inv h
      obtain ⟨b, hb, h⟩ := h
      unfold mxW at h
      split at h
      · replace h := boolP_inv h; rcases h with ⟨ht, h⟩ | ⟨_, h⟩
        · rename_i k x' k' y'
          obtain rfl : k = k' := by simpa using ht
          exact ⟨_, .q fun env' bs0 hag => op_max ho ((hag x (by simp [ho, Op.operands, Call.operands])).trans ha) ((hag y (by simp [ho, Op.operands, Call.operands])).trans hb), h⟩
        · exact h.elim
      · exact h.elim
    · rename_i _ _ x y
      replace h := optP_inv h
      obtain ⟨a, ha, h⟩ := h
      replace h := optP_inv h
      obtain ⟨b, hb, h⟩ := h
      unfold mxW at h
      split at h
      · replace h := boolP_inv h; rcases h with ⟨ht, h⟩ | ⟨_, h⟩
        · rename_i k x' k' y'
          obtain rfl : k = k' := by simpa using ht
          exact ⟨_, .q fun env' bs0 hag => op_min ho ((hag x (by simp [ho, Op.operands, Call.operands])).trans ha) ((hag y (by simp [ho, Op.operands, Call.operands])).trans hb), h⟩
        · exact h.elim
      · exact h.elim
    · exact h.elim
  · exact h.elim

end
end
end Go.Proofs.YtelgmdljcbkniaaGreatDoor.Ai

/- An interpreter of values for the model's code, base text 23: the dispatcher; regions; code. -/
namespace Go.Proofs.YtelgmdljcbkniaaGreatDoor.Ai
noncomputable section
open Go
set_option linter.unusedVariables false

def wop (X : Cx) (o : Op) (env : Env) (bs : List Blk) (K : Ef → Prop) : Prop := match o with
  | .move x => moveW (ev env x) K
  | .assign x => moveW (ev env x) K
  | .pick c a b => optP (ev env c) fun c => pickW c (ev env a) (ev env b) K
  | .alloc t => allocW X t bs K
  | .box _ x => boxW (ev env x) bs K
  | .build t ps => buildW X t ps.toList env K
  | .buildSlice t len ps => bsliceW X t len ps.toList env bs K
  | .load t x => optP (ev env x) fun p => loadW X t bs p K
  | .store t x y => optP (ev env x) fun p => optP (ev env y) fun v => storeW X t bs p v K
  | .nilCheck x => optP (ev env x) fun a => nilW a K
  | .binOp op t x y _ => optP (ev env x) fun a => optP (ev env y) fun b => binW X op t a b K
  | .unOp op _ x => optP (ev env x) fun a => unW op a K
  | .convert t u x => optP (ev env x) fun a => convW X t u a K
  | .makeFunc (.func f) ⟨[]⟩ xs => mkfW f xs.toList env K
  | .makeMap _ none => mkmapW bs K
  | .makeSlice t x y => optP (ev env x) fun a => optP (ev env y) fun b => mksW X t a b bs K
  | .fieldAddr t x j => optP (ev env x) fun p => fieldW X t j p K
  | .indexAddr t x y => optP (ev env x) fun p => optP (ev env y) fun i => idxW X t bs p i K
  | .index t x y => optP (ev env x) fun p => optP (ev env y) fun i => indexW X t p i K
  | .lookup t x y ok => optP (ev env x) fun m => optP (ev env y) fun k => LookT X t bs m k ok K
  | .mapUpdate t x y z => optP (ev env x) fun m => optP (ev env y) fun k => optP (ev env z) fun v => MapT X t bs m k v K
  | .extract x i => optP (ev env x) fun a => extrW a i K
  | .call c => callW X c env bs K
  | _ => False

theorem wop_ok {X : Cx} {o : Oper} {env : Env} {bs : List Blk} {K : Ef → Prop} (h : wop X o.op env bs K) : ∃ e, Sd X.P o env bs e ∧ K e := by
  generalize ho : o.op = op at h
  cases op <;> simp only [wop] at h
  case move x => exact moveW_ok (.inl ho) h
  case assign x => exact moveW_ok (.inr ho) h
  case pick c a b => obtain ⟨v, hv, h⟩ := optP_inv h; exact pickW_ok ho hv h
  case alloc t => exact allocW_ok ho h
  case box t x => exact boxW_ok ho h
  case build t ps => exact buildW_ok ho h
  case buildSlice t len ps => exact bsliceW_ok ho h
  case load t x => obtain ⟨v, hv, h⟩ := optP_inv h; exact loadW_ok ho hv h
  case store t x y => obtain ⟨v, hv, h⟩ := optP_inv h; obtain ⟨u, hu, h⟩ := optP_inv h; exact storeW_ok ho hv hu h
  case nilCheck x => obtain ⟨v, hv, h⟩ := optP_inv h; exact nilW_ok ho hv h
  case binOp op t x y t' => obtain ⟨v, hv, h⟩ := optP_inv h; obtain ⟨u, hu, h⟩ := optP_inv h; exact binW_ok ho hv hu h
  case unOp op t x => obtain ⟨v, hv, h⟩ := optP_inv h; exact unW_ok ho hv h
  case convert t u x => obtain ⟨v, hv, h⟩ := optP_inv h; exact convW_ok ho hv h
  case makeFunc fn first captured =>
    rcases first with ⟨first⟩
    cases fn with
    | func f =>
      cases first with
      | nil => exact mkfW_ok ho h
      | cons => exact h.elim
    | _ => exact h.elim
  case makeMap t r =>
    cases r with
    | none => exact mkmapW_ok ho h
    | some => exact h.elim
  case makeSlice t x y => obtain ⟨v, hv, h⟩ := optP_inv h; obtain ⟨u, hu, h⟩ := optP_inv h; exact mksW_ok ho hv hu h
  case fieldAddr t x j => obtain ⟨v, hv, h⟩ := optP_inv h; exact fieldW_ok ho hv h
  case indexAddr t x y => obtain ⟨v, hv, h⟩ := optP_inv h; obtain ⟨u, hu, h⟩ := optP_inv h; exact idxW_ok ho hv hu h
  case index t x y => obtain ⟨v, hv, h⟩ := optP_inv h; obtain ⟨u, hu, h⟩ := optP_inv h; exact indexW_ok ho hv hu h
  case lookup t x y ok => obtain ⟨v, hv, h⟩ := optP_inv h; obtain ⟨u, hu, h⟩ := optP_inv h; exact lookT_ok ho hv hu h
  case mapUpdate t x y z => obtain ⟨v, hv, h⟩ := optP_inv h; obtain ⟨u, hu, h⟩ := optP_inv h; obtain ⟨q, hq, h⟩ := optP_inv h; exact mapT_ok ho hv hu hq h
  case extract x i => obtain ⟨v, hv, h⟩ := optP_inv h; exact extrW_ok ho hv h
  case call c => exact callW_ok ho h

/-! ### regions -/

def slotsOf : List Operand → List Nat
  | [] => []
  | .tmp t :: r => t :: slotsOf r
  | _ :: r => slotsOf r

theorem ev_keep {env : Env} {xs : List Operand} : ∀ x ∈ xs, ev (env.keep (slotsOf xs)) x = ev env x := by
  have key : ∀ (l : List Nat) (t : Nat), t ∈ l → (env.keep l).get t = env.get t := by
    intro l
    induction l with
    | nil => intro t h; simp at h
    | cons a r ih =>
      intro t h
      simp only [Env.keep]
      cases hg : env.get a with
      | none =>
        simp only
        by_cases e : t = a
        · subst e
          by_cases hr : t ∈ r
          · exact ih t hr
          · rw [hg]
            have gen : ∀ l : List Nat, t ∉ l → (env.keep l).get t = none := by
              intro l
              induction l with
              | nil => intro _; rfl
              | cons b q ih2 =>
                intro hq
                simp only [List.mem_cons, not_or] at hq
                simp only [Env.keep]
                split
                · rw [Env.get_cons, if_neg fun e => hq.1 e.symm]; exact ih2 hq.2
                · exact ih2 hq.2
            exact gen r hr
        · exact ih t (by simpa [e] using h)
      | some v =>
        simp only [Env.get_cons]
        split
        · rename_i e; subst e; exact hg.symm
        · rename_i e; exact ih t (by rcases List.mem_cons.1 h with h | h; exact absurd h.symm e; exact h)
  intro x hx
  cases x with
  | tmp t =>
    refine key _ t ?_
    clear key
    induction xs with
    | nil => simp at hx
    | cons y r ih =>
      rcases List.mem_cons.1 hx with h | h
      · subst h; simp [slotsOf]
      · cases y <;> simp [slotsOf, ih h]
  | const => rfl
  | global => rfl
  | func => rfl

theorem keep_mem {env : Env} : ∀ (l : List Nat) (t : Nat) (u : AV), (env.keep l).get t = some u → env.get t = some u ∧ t ∈ l
  | [], t, u, h => by simp [Env.keep, Env.get] at h
  | a :: r, t, u, h => by
    simp only [Env.keep] at h
    split at h
    · rename_i v hv
      simp only [Env.get_cons] at h
      split at h
      · rename_i e; subst e; exact ⟨hv.trans h, by simp⟩
      · obtain ⟨h1, h2⟩ := keep_mem r t u h; exact ⟨h1, by simp [h2]⟩
    · obtain ⟨h1, h2⟩ := keep_mem r t u h; exact ⟨h1, by simp [h2]⟩

def putE (env : Env) (d : Option Nat) (v : AV) : Env := match d with
  | some d => (d, v) :: env
  | none => env

def putP (env : Env) (d : Option Nat) (v : AV) (K : Env → Prop) : Prop := match d with
  | some d => K ((d, v) :: env)
  | none => K env
theorem putP_inv {env : Env} {d : Option Nat} {v : AV} {K : Env → Prop} (h : putP env d v K) : K (putE env d v) := by cases d <;> exact h

/-- What an operation left: the slots, the store, what it read and wrote. -/
def behP (env : Env) (bs : List Blk) (gs : List Nat) (o : Oper) (acc : List Fp) (e : Ef) (K : Env → List Blk → List Fp → Prop) : Prop := match e with
  | ⟨v, pre, post⟩ => putP env o.dst v fun env' => updP bs post fun bs' => keysP pre fun kp => keysP post fun kq => K env' bs' ((gs ++ slotsOf o.op.operands.toList, kp, kq) :: acc)
theorem behP_inv {env : Env} {bs : List Blk} {gs : List Nat} {o : Oper} {acc : List Fp} {e : Ef} {K : Env → List Blk → List Fp → Prop} (h : behP env bs gs o acc e K) :
    K (putE env o.dst e.v) (upd bs e.post) ((gs ++ slotsOf o.op.operands.toList, e.pre.map Prod.fst, e.post.map Prod.fst) :: acc) := by
  obtain ⟨v, pre, post⟩ := e
  unfold behP at h
  simp only at h
  have h1 := putP_inv h
  have h2 := updP_inv h1
  have h3 := keysP_inv (K := fun kp => keysP post fun kq => K (putE env o.dst v) (upd bs post) ((gs ++ slotsOf o.op.operands.toList, kp, kq) :: acc)) h2
  exact keysP_inv (K := fun kq => K (putE env o.dst v) (upd bs post) ((gs ++ slotsOf o.op.operands.toList, pre.map Prod.fst, kq) :: acc)) h3

def wops (X : Cx) (all : List Oper) : List Oper → Env → List Blk → List Fp → (Env → List Blk → List Fp → Prop) → Prop
  | [], env, bs, acc, K => K env bs acc
  | o :: r, env, bs, acc, K => match o.guard with
    | none => wop X o.op env bs fun e => behP env bs [] o acc e fun env' bs' acc' => wops X all r env' bs' acc' K
    | some (j, want) => optP ((all[j]?).bind (·.dst)) fun d => optP (env.get d) fun g => match g with
      | .bool b => (match want with
        | true => boolP b (wop X o.op env bs fun e => behP env bs [d] o acc e fun env' bs' acc' => wops X all r env' bs' acc' K) (putP env o.dst (.tup []) fun env' => wops X all r env' bs (([d], [], []) :: acc) K)
        | false => boolP b (putP env o.dst (.tup []) fun env' => wops X all r env' bs (([d], [], []) :: acc) K) (wop X o.op env bs fun e => behP env bs [d] o acc e fun env' bs' acc' => wops X all r env' bs' acc' K))
      | .tup [] => putP env o.dst (.tup []) fun env' => wops X all r env' bs (([d], [], []) :: acc) K
      | _ => False

def dstOk (n : Nat) : List Oper → Bool
  | [] => true
  | o :: r => (match o.dst with | some d => Nat.blt d n | none => true) && dstOk n r
theorem dstOk_get {n : Nat} : ∀ {l : List Oper}, dstOk n l = true → ∀ o ∈ l, ∀ d, o.dst = some d → d < n
  | [], _, o, h, _, _ => by simp at h
  | a :: r, h, o, ho, d, hd => by
    simp only [dstOk, Bool.and_eq_true] at h
    rcases List.mem_cons.1 ho with e | e
    · subst e; have := h.1; rw [hd] at this; simpa [Nat.blt_eq] using this
    · exact dstOk_get h.2 o e d hd

theorem wops_dr {X : Cx} {n : Nat} {all : List Oper} : ∀ {l : List Oper} {env : Env} {bs : List Blk} {acc : List Fp} {K : Env → List Blk → List Fp → Prop}, dstOk n l = true → wops X all l env bs acc K →
    ∃ fs vs ps env' bs', Dr X.P n all.toArray l env bs fs vs ps env' bs' ∧ K env' bs' (fs.reverse ++ acc)
  | [], env, bs, acc, K, _, h => ⟨[], [], [], env, bs, .nil _ _, h⟩
  | o :: r, env, bs, acc, K, hd, h => by
    have hdst := dstOk_get hd o (by simp)
    have hd' : dstOk n r = true := by simp only [dstOk, Bool.and_eq_true] at hd; exact hd.2
    have hput : ∀ v, (St.put ⟨env, bs⟩ o.dst v).env = putE env o.dst v := fun v => by cases o.dst <;> rfl
    have skip : ∀ (d j : Nat) (want : Bool), o.guard = some (j, want) → ((all.toArray[j]?).bind (·.dst)) = some d → (env.get d = some (.bool !want) ∨ env.get d = some (.tup [])) →
        (putP env o.dst (.tup []) fun env' => wops X all r env' bs (([d], [], []) :: acc) K) → ∃ fs vs ps env' bs', Dr X.P n all.toArray (o :: r) env bs fs vs ps env' bs' ∧ K env' bs' (fs.reverse ++ acc) := by
      intro d j want hg hj he hk
      obtain ⟨fs, vs, ps, env', bs', hD, hK⟩ := wops_dr hd' (putP_inv hk)
      exact ⟨_, _, _, env', bs', .skip o r env bs [d] fs vs ps env' bs' (by rw [hg]; exact ⟨d, hj, he, by simp⟩) hdst (by rw [hput]; exact hD), by simpa using hK⟩
    have run : ∀ (gs : List Nat), (match o.guard with
        | none => True
        | some (j, want) => ∃ d, ((all.toArray[j]?).bind (·.dst)) = some d ∧ env.get d = some (.bool want) ∧ d ∈ gs) →
        wop X o.op env bs (fun e => behP env bs gs o acc e fun env' bs' acc' => wops X all r env' bs' acc' K) →
        ∃ fs vs ps env' bs', Dr X.P n all.toArray (o :: r) env bs fs vs ps env' bs' ∧ K env' bs' (fs.reverse ++ acc) := by
      intro gs hg hk
      obtain ⟨e, ⟨s1, s2, s3⟩, hk⟩ := wop_ok hk
      obtain ⟨fs, vs, ps, env', bs', hD, hK⟩ := wops_dr hd' (behP_inv hk)
      refine ⟨_, _, _, env', bs', .op o r env bs (env.keep (slotsOf o.op.operands.toList)) e.pre e.post e.v (gs ++ slotsOf o.op.operands.toList) fs vs ps env' bs' (fun t u ht => ?_) (has_iff.1 s1) ?_ hdst s2 (fun bs0 hb => s3 _ bs0 ev_keep (has_iff.2 hb)) (by rw [hput]; exact hD), by simpa using hK⟩
      · obtain ⟨h1, h2⟩ := keep_mem _ t u ht
        exact ⟨h1, List.mem_append.2 (.inr h2)⟩
      · split
        · trivial
        · rename_i j want e0
          rw [e0] at hg
          obtain ⟨d, g1, g2, g3⟩ := hg
          exact ⟨d, g1, g2, List.mem_append.2 (.inl g3)⟩
    simp only [wops] at h
    split at h
    · rename_i hg
      exact run [] (by rw [hg]; trivial) h
    · rename_i j want hg
      replace h := optP_inv h
      obtain ⟨d, hj, h⟩ := h
      replace h := optP_inv h
      obtain ⟨g, hgd, h⟩ := h
      have hj' : ((all.toArray[j]?).bind (·.dst)) = some d := by simpa using hj
      split at h
      · rename_i b
        cases want with
        | true =>
          simp only at h
          replace h := boolP_inv h
          rcases h with ⟨hb, h⟩ | ⟨hb, h⟩
          · subst hb; exact run [d] (by rw [hg]; exact ⟨d, hj', hgd, by simp⟩) h
          · subst hb; exact skip d j true hg hj' (.inl hgd) h
        | false =>
          simp only at h
          replace h := boolP_inv h
          rcases h with ⟨hb, h⟩ | ⟨hb, h⟩
          · subst hb; exact skip d j false hg hj' (.inl hgd) h
          · subst hb; exact run [d] (by rw [hg]; exact ⟨d, hj', hgd, by simp⟩) h
      · exact skip d j want hg hj' (.inr hgd) h
      · exact h.elim

theorem dr_run {P : Program} {n : Nat} {ops : Array Oper} {l : List Oper} {env : Env} {bs : List Blk} {fs : List Fp} {vs : List AV} {ps : List (List (Nat × Blk))} {env' : Env} {bs' : List Blk}
    (h : Dr P n ops l env bs fs vs ps env' bs') : Run P n ops l ⟨env, bs⟩ ⟨env', bs'⟩ := by
  induction h with
  | nil => exact .nil _
  | op o rest env bs envi pre post v rs fs vs ps env' bs' h1 h2 hg hd hp h k ih =>
    refine .op o rest _ v (upd bs post) _ ?_ hd (fun r G w a hI hE K Q hK => h bs h2 r G w a hI (fun t u e => hE t u (h1 t u e).1) K Q hK) ?_
    · split
      · trivial
      · rename_i j want e
        rw [e] at hg
        obtain ⟨d, g1, g2, _⟩ := hg
        exact ⟨d, g1, g2⟩
    · have : St.put ⟨env, upd bs post⟩ o.dst v = ⟨(St.put ⟨env, bs⟩ o.dst v).env, upd bs post⟩ := by cases o.dst <;> rfl
      rw [this]; exact ih
  | skip o rest env bs rs fs vs ps env' bs' hg hd k ih =>
    refine .skip o rest _ _ ?_ hd ?_
    · split
      · rename_i e; rw [e] at hg; exact hg.elim
      · rename_i j want e
        rw [e] at hg
        obtain ⟨d, g1, g2, _⟩ := hg
        exact ⟨d, g1, g2⟩
    · have : (⟨env, bs⟩ : St).put o.dst (.tup []) = ⟨(St.put ⟨env, bs⟩ o.dst (.tup [])).env, bs⟩ := by cases o.dst <;> rfl
      rw [this]; exact ih

/-- The bits of what must have come ahead of each operation. -/
def masks : List Oper → List Nat → List Nat
  | [], ms => ms
  | o :: r, ms => masks r (ms ++ [um ms o.after.toList])

/-! ### code -/

inductive LoopT {P : Program} {n m : Nat} {c : Code} (s : St) {Q : Exit → St → Prop} : Prop where
  | mk (h : T P n m (.loop c) s Q)
inductive RangeT {P : Program} {n m : Nat} {g : Operand} {ps : Array Tmp} {as c : Code} (f : Option AV) (s : St) {Q : Exit → St → Prop} : Prop where
  | mk (h : T P n m (.rangeFunc g ps as c) s Q)
inductive OrdT {ms : List Nat} {l : List Oper} {acc : List Fp} {K : Prop} : Prop where
  | mk (h : ordOk ms l acc.reverse 0 = true) (k : K)

def wpc (X : Cx) (n m : Nat) : Code → St → (Exit → St → Prop) → Prop
  | .skip, s, Q => Q .normal s
  | .label _, s, Q => Q .normal s
  | .exit i, s, Q => Q (.exit i) s
  | .ret, s, Q => Q .ret s
  | .region _ ops draw, s, Q => match draw, s with
    | false, ⟨env, bs⟩ => wops X ops.toList ops.toList env bs [] fun env bs _ => Q .normal ⟨env, bs⟩
    | true, ⟨env, bs⟩ => wops X ops.toList ops.toList env bs [] fun env bs acc => OrdT (ms := masks ops.toList []) (l := ops.toList) (acc := acc) (K := Q .normal ⟨env, bs⟩)
  | .seq a b, s, Q => wpc X n m a s fun e s' => match e with
    | .normal => wpc X n m b s' Q
    | e => Q e s'
  | .cond c a b, ⟨env, bs⟩, Q => optP (ev env c) fun v => match v with
    | .bool t => boolP t (wpc X n m a ⟨env, bs⟩ Q) (wpc X n m b ⟨env, bs⟩ Q)
    | _ => False
  | .block i c, s, Q => wpc X n m c s fun e s' => match e with
    | .exit j => boolP (Nat.beq j i) (Q .normal s') (Q (.exit j) s')
    | e => Q e s'
  | .scope c, s, Q => wpc X n m c s fun e s' => match e with
    | .goto _ => False
    | e => Q e s'
  | .loop c, s, Q => LoopT (P := X.P) (n := n) (m := m) (c := c) s (Q := Q)
  | .rangeFunc g ps as c, ⟨env, bs⟩, Q => RangeT (P := X.P) (n := n) (m := m) (g := g) (ps := ps) (as := as) (c := c) (ev env g) ⟨env, bs⟩ (Q := Q)
  | _, _, _ => False

def okCode (n : Nat) : Code → Bool
  | .region _ ops draw => dstOk n ops.toList && (!draw || msOk (masks ops.toList []) ops.toList 0)
  | .seq a b => okCode n a && okCode n b
  | .cond _ a b => okCode n a && okCode n b
  | .block _ c => okCode n c
  | .scope c => okCode n c
  | _ => true

theorem wpc_ok {X : Cx} {n m : Nat} : ∀ {c : Code} {s : St} {Q : Exit → St → Prop}, okCode n c = true → wpc X n m c s Q → T X.P n m c s Q
  | .skip, s, Q, _, h => T_skip h
  | .label _, s, Q, _, h => T_label h
  | .exit i, s, Q, _, h => T_exit h
  | .ret, s, Q, _, h => T_ret h
  | .region id ⟨ops⟩ draw, ⟨env, bs⟩, Q, ho, h => by
    simp only [okCode, Bool.and_eq_true] at ho
    cases draw with
    | false =>
      obtain ⟨fs, vs, ps, env', bs', hD, hK⟩ := wops_dr ho.1 h
      exact T_region (dr_run hD) hK
    | true =>
      obtain ⟨fs, vs, ps, env', bs', hD, hK⟩ := wops_dr ho.1 h
      obtain ⟨h1, h2⟩ := hK
      have hm : msOk (masks ops []) ops 0 = true := by simpa using ho.2
      exact T_drawn X.mix (masks ops []) hm ⟨fs, vs, ps, ⟨env', bs'⟩, hD, by simpa using h1, ⟨env', bs'⟩, .refl _ _ _, h2⟩
  | .seq a b, s, Q, ho, h => by
    simp only [okCode, Bool.and_eq_true] at ho
    refine T_seq (T_mono (wpc_ok ho.1 h) fun e s' q => ?_)
    cases e with
    | normal => exact wpc_ok ho.2 q
    | _ => exact q
  | .cond c a b, ⟨env, bs⟩, Q, ho, h => by
    simp only [okCode, Bool.and_eq_true] at ho
    obtain ⟨v, hv, h⟩ := optP_inv h
    split at h
    · rename_i t
      refine T_cond hv (fun e => ?_) (fun e => ?_)
      · subst e; exact wpc_ok ho.1 h
      · subst e; exact wpc_ok ho.2 h
    · exact h.elim
  | .block i c, s, Q, ho, h => by
    simp only [okCode] at ho
    refine T_block (T_mono (wpc_ok ho h) fun e s' q => ?_)
    cases e with
    | exit j =>
      simp only [inBlockT]
      replace q := boolP_inv q
      rcases q with ⟨hb, q⟩ | ⟨hb, q⟩
      · rw [hb]; exact q
      · rw [hb]; exact q
    | _ => exact q
  | .loop c, s, Q, _, h => h.1
  | .rangeFunc g ps as c, ⟨env, bs⟩, Q, _, h => h.1
  | .scope c, s, Q, ho, h => by
    simp only [okCode] at ho
    refine T_mono (Q := fun e s' => (match e with | .goto _ => False | e => Q e s')) (T_scope (wpc_ok ho h) fun l s q => q) fun e s' q => ?_
    cases e with
    | goto l => exact q.elim
    | _ => exact q
  | .goto _, _, _, _, h => h.elim
  | .refuse _, _, _, _, h => h.elim

end
end Go.Proofs.YtelgmdljcbkniaaGreatDoor.Ai

/- An interpreter of values for the model's code, base text 24: a table of types; a function's contract by evaluation. -/
namespace Go.Proofs.YtelgmdljcbkniaaGreatDoor.Ai
noncomputable section
open Go
set_option linter.unusedVariables false

inductive TT where
  | leaf
  | node (k : Nat) (v : TInfo) (l r : TT)
def TT.get (t : TT) : Nat → Option TInfo := TT.rec (fun _ => none) (fun k v _ _ ihl ihr n => Bool.rec (Bool.rec (ihr n) (ihl n) (Nat.ble (Nat.succ n) k)) (some v) (Nat.beq n k)) t
theorem TT.get_node (k : Nat) (v : TInfo) (l r : TT) (n : Nat) : (TT.node k v l r).get n = match Nat.beq n k with
    | true => some v
    | false => match Nat.ble (Nat.succ n) k with
      | true => l.get n
      | false => r.get n := by
  show (Bool.rec (Bool.rec (r.get n) (l.get n) (Nat.ble (Nat.succ n) k)) (some v) (Nat.beq n k) : Option TInfo) = _
  cases Nat.beq n k <;> cases Nat.ble (Nat.succ n) k <;> rfl
inductive TT.All (P : Program) : TT → Prop where
  | leaf : TT.All P .leaf
  | node {k : Nat} {v : TInfo} {l r : TT} (h : TOk P k v) (hl : TT.All P l) (hr : TT.All P r) : TT.All P (.node k v l r)
theorem TT.All.get {P : Program} {t : TT} (h : TT.All P t) : ∀ n i, t.get n = some i → TOk P n i := by
  induction h with
  | leaf => intro n i h; cases h
  | node h hl hr ih1 ih2 =>
    intro n i hg
    rw [TT.get_node] at hg
    split at hg
    · rename_i e
      obtain rfl := Nat.eq_of_beq_eq_true e
      obtain rfl := Option.some.inj hg
      exact h
    · split at hg
      · exact ih1 n i hg
      · exact ih2 n i hg

/-! ### the results -/

def resW (X : Cx) (s : St) : List ResultVar → (List AV → Prop) → Prop
  | [], K => K []
  | .tmp t :: r, K => optP (s.env.get t) fun v => resW X s r fun vs => K (v :: vs)
  | .cell a t :: r, K => optP (X.ti t) fun i => optP (s.env.get a) fun p => match p with
    | .ptr b k => cellsP (bat s.bs b) fun cs => boolP (isAggD i.desc)
      (boolP (lenGe cs (k + i.size)) (boolP (Nat.ble i.size 64) (copyP ((cs.drop k).take i.size) fun ds => resW X s r fun vs => K (.agg ds :: vs)) (resW X s r fun vs => K (.agg ((cs.drop k).take i.size) :: vs))) False)
      (optP (nth cs k) fun v => resW X s r fun vs => K (v :: vs))
    | _ => False

theorem resW_ok {X : Cx} {s : St} : ∀ {rvs : List ResultVar} {K : List AV → Prop}, resW X s rvs K → ∃ vs, ResAll X.P s rvs vs ∧ K vs
  | [], K, h => ⟨[], .nil, h⟩
  | .tmp t :: r, K, h => by
    obtain ⟨v, hv, h⟩ := optP_inv h
    obtain ⟨vs, h1, h2⟩ := resW_ok h
    exact ⟨_, .cons (.tmp t v hv) h1, h2⟩
  | .cell a t :: r, K, h => by
    obtain ⟨i, hi, h⟩ := optP_inv h
    replace h := optP_inv h
    obtain ⟨p, hp, h⟩ := h
    have ht := (X.ok t i hi).inf
    split at h
    · rename_i b k
      replace h := cellsP_inv h
      obtain ⟨cs, hb, h⟩ := h
      have hg := get_bat _ _ _ hb (by simp)
      replace h := boolP_inv h
      rcases h with ⟨hd, h⟩ | ⟨hd, h⟩
      · replace h := boolP_inv h
        rcases h with ⟨hl, h⟩ | ⟨_, h⟩
        · have h' : resW X s r fun vs => K (.agg ((cs.drop k).take i.size) :: vs) := by
            replace h := boolP_inv h
            rcases h with ⟨_, h⟩ | ⟨_, h⟩
            · exact copyP_inv (K := fun ds => resW X s r fun vs => K (.agg ds :: vs)) h
            · exact h
          obtain ⟨vs, h1, h2⟩ := resW_ok h'
          exact ⟨_, .cons (.agg a t b k _ _ _ _ cs _ ht hd hp hg (lenGe_inv hl) rfl) h1, h2⟩
        · exact h.elim
      · replace h := optP_inv h
        obtain ⟨v, hv, h⟩ := h
        rw [nth_eq] at hv
        obtain ⟨vs, h1, h2⟩ := resW_ok h
        exact ⟨_, .cons (.cell a t b k _ _ _ _ cs v ht hd hp hg hv) h1, h2⟩
    · exact h.elim

inductive RetT (bs : List Blk) (v0 v : AV) : Prop where
  | mk (k : Nat) (h : snap bs k v0 = some v)
inductive FinT (v0 : AV) (bs : List Blk) (v : AV) (bs' : List Blk) : Prop where
  | mk (h1 : v0 = v) (h2 : bs = bs')

def oneP : List AV → (AV → Prop) → Prop
  | [v], K => K v
  | vs, K => K (.tup vs)
theorem oneP_inv {vs : List AV} {K : AV → Prop} (h : oneP vs K) : K (one1 vs) := by
  match vs, h with
  | [], h => exact h
  | [v], h => exact h
  | _ :: _ :: _, h => exact h

/-- The slots at the start. -/
def argP : List AV → Nat → (Env → Prop) → Prop
  | [], _, K => K []
  | v :: r, k, K => argP r (k + 1) fun e => K ((k, v) :: e)
theorem argP_inv : ∀ {l : List AV} {k : Nat} {K : Env → Prop}, argP l k K → K (argEnv l k)
  | [], _, _, h => h
  | v :: r, k, K, h => argP_inv (l := r) (K := fun e => K ((k, v) :: e)) h

def endV (X : Cx) (rvs : List ResultVar) (v : AV) (e : Exit) (s : St) : Prop := match e with
  | .normal => resW X s rvs fun vs => oneP vs fun v0 => RetT s.bs v0 v
  | .ret => resW X s rvs fun vs => oneP vs fun v0 => RetT s.bs v0 v
  | _ => False
def endW (X : Cx) (rvs : List ResultVar) (v : AV) (bs' : List Blk) (e : Exit) (s : St) : Prop := match e with
  | .normal => resW X s rvs fun vs => oneP vs fun v0 => FinT v0 s.bs v bs'
  | .ret => resW X s rvs fun vs => oneP vs fun v0 => FinT v0 s.bs v bs'
  | _ => False

theorem V_of {X : Cx} {f : FuncId} {fn : Func} {c : Code} {args : List AV} {v : AV} (hf : X.P.funcs[f]? = some fn) (hb : fn.body = some c) (hen : Enters X.P f) (hok : okCode fn.ntmps c = true) (hl : Nat.ble args.length fn.ntmps = true)
    (h : argP args 0 fun env => wpc X fn.ntmps 0 c ⟨env, []⟩ (endV X fn.results.toList v)) : V X.P f args v :=
  ⟨hen, V_ok hf hb fun a u ⟨e1, e2⟩ => by
    subst e1 e2
    refine ⟨Nat.le_of_ble_eq_true hl, T_mono (wpc_ok hok (argP_inv h)) fun e s q => ?_⟩
    have fin : ∀ s, (resW X s fn.results.toList fun vs => oneP vs fun v0 => RetT s.bs v0 u) → RetOk X.P fn s u := fun s q => by
      obtain ⟨vs, h1, h2⟩ := resW_ok q
      obtain ⟨k, h3⟩ := oneP_inv h2
      exact retN (by simp) h1 k h3
    cases e with
    | normal => exact fin s q
    | ret => exact fin s q
    | _ => exact q.elim⟩

theorem F_of {X : Cx} {f : FuncId} {fn : Func} {c : Code} {args : List AV} {bs : List Blk} {v : AV} {bs' : List Blk} (hf : X.P.funcs[f]? = some fn) (hb : fn.body = some c) (hen : Enters X.P f) (hok : okCode fn.ntmps c = true) (hl : Nat.ble args.length fn.ntmps = true)
    (h : argP args 0 fun env => wpc X fn.ntmps bs.length c ⟨env, bs⟩ (endW X fn.results.toList v bs')) : F X.P f args bs v bs' :=
  ⟨hen, F_ok hf hb fun a b u b' ⟨e1, e2, e3, e4⟩ => by
    subst e1 e2 e3 e4
    refine ⟨Nat.le_of_ble_eq_true hl, T_mono (wpc_ok hok (argP_inv h)) fun e s q => ?_⟩
    have fin : ∀ s, (resW X s fn.results.toList fun vs => oneP vs fun v0 => FinT v0 s.bs u b') → (∀ (G : Ghost) (w : World) (tmps : Array Value), EnvR G s.env tmps → Inv G s.bs w → ∃ cv, (results fn tmps).run X.P w = .ok cv w ∧ R G u cv) ∧ s.bs = b' := fun s q => by
      obtain ⟨vs, h1, h2⟩ := resW_ok q
      obtain ⟨h3, h4⟩ := oneP_inv h2
      refine ⟨fun G w tmps hE hI => ?_, h4⟩
      obtain ⟨cv, e, r⟩ := results_run (fn := fn) (by simp) h1 hE hI
      exact ⟨cv, e, h3 ▸ r⟩
    cases e with
    | normal => exact fin s q
    | ret => exact fin s q
    | _ => exact q.elim⟩

/-! ### loops -/

/-- A loop: what holds at its head (told by x), a measure; each round, and how it is left. -/
theorem loopT {X : Cx} {n m : Nat} {c : Code} {A : Type} (inv : A → St) (μ : A → Nat) {s : St} {Q : Exit → St → Prop} (x0 : A) (hok : okCode n c = true) (h0 : Weak n m s (inv x0))
    (round : ∀ x, wpc X n m c (inv x) fun e s' => match e with
      | .normal => ∃ y, μ y < μ x ∧ Weak n m s' (inv y)
      | e => Q e s') : LoopT (P := X.P) (n := n) (m := m) (c := c) s (Q := Q) :=
  ⟨T_loop inv μ x0 h0 fun x => T_mono (wpc_ok hok (round x)) fun e s' q => by cases e <;> exact q⟩

end
end Go.Proofs.YtelgmdljcbkniaaGreatDoor.Ai

/- An interpreter of values for the model's code, base text 25: loops over an index; small facts on numbers. -/
namespace Go.Proofs.YtelgmdljcbkniaaGreatDoor.Ai
noncomputable section
open Go
set_option linter.unusedVariables false

theorem w64 {x : Int} (h1 : -9223372036854775808 ≤ x) (h2 : x < 9223372036854775808) : IntKind.i64.wrap x = x := by
  simp only [IntKind.wrap, IntKind.signed, IntKind.bits, Bool.true_and]
  have e : (2 : Int) ^ (64 - 1) = 9223372036854775808 := by decide
  split <;> rename_i h
  · have h : x % 2 ^ 64 ≥ 2 ^ (64 - 1) := of_decide_eq_true h
    rw [e] at h
    omega
  · have h : ¬ x % 2 ^ 64 ≥ 2 ^ (64 - 1) := of_decide_eq_false (Bool.eq_false_iff.mpr h)
    rw [e] at h
    omega
theorem wu64 {x : Int} (h1 : 0 ≤ x) (h2 : x < 18446744073709551616) : IntKind.u64.wrap x = x := by
  simp only [IntKind.wrap, IntKind.signed, IntKind.bits, Bool.false_and]
  simp
  omega
theorem succ_i {i : Nat} (h : i < 1000000) : some (AV.int .i64 (IntKind.i64.wrap ((i : Int) + 1))) = some (AV.int .i64 ((i + 1 : Nat) : Int)) := by
  rw [w64 (by omega) (by omega)]; rfl

/-- A loop over an index: its state at i; what is known at i. -/
theorem loopI {X : Cx} {n m : Nat} {c : Code} (len : Nat) (inv : Nat → St) (I : Nat → Prop) {s : St} {Q : Exit → St → Prop} (hok : okCode n c = true) (h0 : Weak n m s (inv 0)) (hI : I 0)
    (round : ∀ i, i ≤ len → I i → wpc X n m c (inv i) fun e s' => match e with
      | .normal => i < len ∧ I (i + 1) ∧ Weak n m s' (inv (i + 1))
      | e => Q e s') : LoopT (P := X.P) (n := n) (m := m) (c := c) s (Q := Q) :=
  ⟨T_loop (A := {i : Nat // i ≤ len ∧ I i}) (fun i => inv i.1) (fun i => len - i.1) ⟨0, Nat.zero_le _, hI⟩ h0 fun ⟨i, h1, h2⟩ => T_mono (wpc_ok hok (round i h1 h2)) fun e s' q => by
    cases e with
    | normal =>
      obtain ⟨g1, g2, g3⟩ := q
      exact ⟨⟨i + 1, g1, g2⟩, by show len - (i + 1) < len - i; omega, g3⟩
    | _ => exact q⟩

theorem idxL_map {α : Type} {f : α → AV} {l : List α} {i : Nat} (h : i < l.length) : idxL (l.map f) (i : Int) = some (f l[i]) := by
  unfold idxL
  rw [if_pos (by omega), nth_eq]
  simp [h]
theorem idxL_mapn {α : Type} {f : α → AV} {l : List α} {n : Int} {i : Nat} (e : n = (i : Int)) (h : i < l.length) : idxL (l.map f) n = some (f l[i]) := by
  subst e; exact idxL_map h
theorem nth_map {α : Type} {f : α → AV} {l : List α} {i : Nat} (h : i < l.length) : nth (l.map f) i = some (f l[i]) := by
  rw [nth_eq]; simp [h]

end
end Go.Proofs.YtelgmdljcbkniaaGreatDoor.Ai
