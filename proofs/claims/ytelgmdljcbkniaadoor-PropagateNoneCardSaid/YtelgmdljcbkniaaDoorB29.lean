/- An interpreter of values for the model's code, base text 29: calls over the caller's own store; rounds; the range over a function. -/
import Derived.Test.YtelgmdljcbkniaaDoorB28
namespace Go.Proofs.YtelgmdljcbkniaaDoor.Ai
noncomputable section
open Go
set_option linter.unusedVariables false

/-- A call over the caller's own store. -/
theorem op_callI {P : Program} {o : Oper} {s : St} {x : Operand} {xs : List Operand} {ts : Array TypeId} {f : FuncId} {cap vs : List AV} {v : AV} {bs' : List Blk}
    (ho : o.op = .call { callee := .value x, args := xs.toArray, argTypes := ts }) (hx : ev s.env x = some (.fn f cap)) (hv : evs s.env xs = some vs) (hF : F P f (vs ++ cap) s.bs v bs') : OpT P o s v bs' := by
  refine OpT.of (by simp [ho]) ?_
  intro G w a hI hE K Q hK
  obtain ⟨cc, hfe, hcl, hcr⟩ := (ev_r hE hx).fn_inv
  obtain ⟨hal, har⟩ := evs_map hE hv
  obtain ⟨hbl, hbr⟩ := r_append hal hcl har hcr
  unfold Oper.wp execOp
  simp only [ho, resolve, invoke, hfe, Deferred.ofValue, Sem.run_bind, Sem.run_pure, Result.andThen_ok, Array.empty_append, hF.en _ w, Oper.upon]
  refine (hF.ok G w _ (vs ++ cap) s.bs v bs' hI ⟨hbl, hbr⟩ ⟨rfl, rfl, rfl, rfl⟩).mono fun e w' ⟨cv, G', he, hA⟩ => ?_
  subst he
  exact hK cv w' G' hA

/-! ### loops over functions -/

theorem R.yld_inv {G : Ghost} {i : Nat} {cv : Value} (h : R G (.yld i) cv) : ∃ c, G.cl i = some c ∧ cv = .func (.yield c) #[] #[] := by
  cases h with
  | imm _ _ h => cases h
  | yld _ c h => exact ⟨c, h, rfl⟩

/-- A loop's record where it lies. -/
theorem inv_lp {G : Ghost} {bs : List Blk} {w : World} (hI : Inv G bs w) {i n l : Nat} {env : Env} {ps : Array Tmp} {as cd : Code} {st : LoopState} {pe : Option Code} (hb : bat bs i = .lp n env ps as cd st pe) (hc : G.cl i = some l) :
    G.gr i = none ∧ ∃ rec : Loop, w.heap[l]? = some (.loop rec) ∧ rec.state = st ∧ rec.pending = pe ∧ rec.params = ps ∧ rec.assign = as ∧ rec.body = cd ∧
      rec.tmps.size = n ∧ EnvR G env rec.tmps ∧ ∀ o, G.Z l o = none := by
  have h := hI.batOk i
  rw [hb] at h
  exact ⟨h.1, h.2 l hc⟩

theorem after_lp {G : Ghost} {bs : List Blk} {w : World} (hI : Inv G bs w) {i n l : Nat} {env : Env} {ps : Array Tmp} {as cd : Code} {st : LoopState} {pe : Option Code} (hb : bat bs i = .lp n env ps as cd st pe) (hc : G.cl i = some l) {rec : Loop}
    (hh : w.heap[l]? = some (.loop rec)) (st' : LoopState) (pe' : Option Code) :
    Inv G (bset bs i (.lp n env ps as cd st' pe')) (w.putObj l (.loop { rec with state := st', pending := pe' })) ∧ Ev G w G (w.putObj l (.loop { rec with state := st', pending := pe' })) := by
  obtain ⟨hgr, rec0, h0, h1, h2, h3, h4, h5, h6, h7, h8⟩ := inv_lp hI hb hc
  rw [hh] at h0
  obtain rfl : rec = rec0 := by injection h0 with h; injection h
  have hlt : l < w.heap.size := (Array.getElem?_eq_some_iff.1 hh).1
  have hf : ∀ d, d ≠ l → (w.putObj l (.loop { rec with state := st', pending := pe' })).heap[d]? = w.heap[d]? := fun d hd => World.putObj_heap_other hd
  refine ⟨hI.turn _ (fun _ _ => rfl) (fun _ _ => rfl) (.refl _) (fun d hd hno => hf d (fun e0 => hno (e0 ▸ .inl hc))) (fun _ _ _ _ _ => rfl) (fun d q v ez => ?_) ?_ (fun d hd => .inr hd),
    ⟨rfl, rfl, rfl, by simp [World.putObj_size], .refl _, fun _ _ _ e => .inl e, fun d hd hn => hf d (fun e => hn i (e ▸ .inl hc)), fun j d hd => .inr ⟨j, hd⟩, fun d r e => ?_⟩⟩
  · have hd : d ≠ l := fun e0 => by rw [e0, h8 q] at ez; cases ez
    rw [rd_of_frame (hf d hd)]; exact hI.z d q v ez
  · refine ⟨hgr, fun c hc' => ?_⟩
    rw [hc] at hc'
    obtain rfl := Option.some.inj hc'
    exact ⟨_, World.putObj_heap_same hlt, rfl, rfl, h3, h4, h5, h6, h7, h8⟩
  · by_cases e0 : d = l
    · subst e0; exact ⟨_, World.putObj_heap_same hlt⟩
    · exact ⟨r, (hf d e0).trans e⟩

/-- A loop's record is laid. -/
theorem after_loop {G : Ghost} {bs : List Blk} {w : World} (hI : Inv G bs w) {k : Nat} (hk : bat bs k = .gone) {env : Env} (rec : Loop) (hE : EnvR G env rec.tmps) :
    ∃ G', Inv G' (bset bs k (.lp rec.tmps.size env rec.params rec.assign rec.body rec.state rec.pending)) (w.alloc (.loop rec)) ∧ G.le G' ∧ Ev G w G' (w.alloc (.loop rec)) ∧ G'.cl k = some w.heap.size ∧ ∀ i, i ≠ k → G'.cl i = G.cl i ∧ G'.gr i = G.gr i := by
  have hg0 := hI.batOk k
  rw [hk] at hg0
  let G' : Ghost := { G with cl := fun i => if i = k then some w.heap.size else G.cl i }
  have hcl : G'.cl k = some w.heap.size := by simp [G']
  have hne : ∀ i, i ≠ k → G'.cl i = G.cl i := fun i hi => by simp [G', hi]
  have hle : G.le G' := ⟨fun i c e => by
    by_cases hi : i = k
    · subst hi; rw [hg0.1] at e; cases e
    · rw [hne i hi]; exact e, fun i g e => ⟨g, e, .inl rfl⟩, .refl _⟩
  have hf : ∀ c, c < w.heap.size → (w.alloc (.loop rec)).heap[c]? = w.heap[c]? := fun c hc => heap_alloc_old w _ c hc
  have hown : ∀ c, G'.owns k c → c = w.heap.size := fun c hc => by
    rcases hc with hc | ⟨g, hg, _⟩
    · rw [hcl] at hc; exact (Option.some.inj hc).symm
    · rw [show G'.gr k = none from hg0.2] at hg; cases hg
  have hnone : ∀ o, G.Z w.heap.size o = none := fun o => by
    cases hz : G.Z w.heap.size o with
    | none => rfl
    | some v => have := hI.z_lt hz; omega
  refine ⟨G', hI.turn (G' := G') (k := k) _ hne (fun _ _ => rfl) hle (fun c hc _ => hf c hc) (fun _ _ _ _ _ => rfl) (fun c o v ez => ?_) ⟨hg0.2, fun c hc => ?_⟩ (fun c hc => .inl (by rw [hown c hc]; exact Nat.le_refl _)), hle,
    ⟨rfl, rfl, rfl, by simp, .refl _, fun _ _ _ e => .inl e, fun c hc _ => hf c hc, fun i c hc => ?_, loop_of_same fun c hc => .inl (hf c hc)⟩, hcl, fun i hi => ⟨hne i hi, rfl⟩⟩
  · rw [rd_of_frame (hf c (hI.z_lt ez))]; exact hI.z c o v ez
  · rw [hcl] at hc
    obtain rfl := Option.some.inj hc
    exact ⟨rec, heap_alloc_new w _, rfl, rfl, rfl, rfl, rfl, rfl, hE.mono hle, hnone⟩
  · by_cases hi : i = k
    · subst hi; rw [hown c hc]; exact .inl (Nat.le_refl _)
    · exact .inr ⟨i, by unfold Ghost.owns at hc ⊢; rw [hne i hi] at hc; exact hc⟩

/-- The loop's variables get what is yielded. -/
def parE : List Nat → List AV → Env → Env
  | p :: ps, v :: vs, env => parE ps vs ((p, v) :: env)
  | _, _, env => env

theorem parE_r {G : Ghost} : ∀ {ps : List Nat} {vs : List AV} {cvs : List Value} {env : Env} {tmps : Array Value}, EnvR G env tmps → vs.length = ps.length → cvs.length = ps.length → (∀ (j : Nat) v c, vs[j]? = some v → cvs[j]? = some c → R G v c) → (∀ p ∈ ps, p < tmps.size) →
    EnvR G (parE ps vs env) ((ps.zip cvs).foldl (fun tmps (t, a) => tmps.setIfInBounds t a) tmps) ∧ ((ps.zip cvs).foldl (fun tmps (t, a) => tmps.setIfInBounds t a) tmps).size = tmps.size
  | [], [], [], env, tmps, hE, _, _, _, _ => ⟨hE, rfl⟩
  | p :: ps, v :: vs, c :: cvs, env, tmps, hE, h1, h2, hr, hp => by
    have := parE_r (ps := ps) (vs := vs) (cvs := cvs) (env := (p, v) :: env) (tmps := tmps.setIfInBounds p c) (hE.put (hp p (by simp)) (hr 0 v c rfl rfl)) (by simpa using h1) (by simpa using h2) (fun j u d e1 e2 => hr (j + 1) u d (by simpa using e1) (by simpa using e2)) (fun q hq => by simpa using hp q (by simp [hq]))
    simp only [parE, List.zip_cons_cons, List.foldl_cons]
    exact ⟨this.1, by rw [this.2]; simp⟩
  | [], _ :: _, _, _, _, _, h, _, _, _ => by simp at h
  | [], [], _ :: _, _, _, _, _, h, _, _ => by simp at h
  | _ :: _, [], _, _, _, _, h, _, _, _ => by simp at h
  | _ :: _, _ :: _, [], _, _, _, _, h, _, _ => by simp at h

/-- What jump a round leaves. -/
def jumpOf : Exit → Option (Option Code)
  | .normal => some none
  | .ret => some (some .ret)
  | .exit id => some (some (.exit id))
  | _ => none

/-- A call of yield: one round of the loop. -/
theorem op_yield {P : Program} {o : Oper} {s : St} {x : Operand} {xs : List Operand} {ts : Array TypeId} {i n : Nat} {env : Env} {ps : List Nat} {as cd : Code} {vs : List AV} {b : Bool} {bs' : List Blk}
    (ho : o.op = .call { callee := .value x, args := xs.toArray, argTypes := ts }) (hx : ev s.env x = some (.yld i)) (hv : evs s.env xs = some vs) (hb : bat s.bs i = .lp n env ps.toArray as cd .ready none) (hl : vs.length = ps.length) (hp : ∀ p ∈ ps, p < n)
    (hT : T P n s.bs.length as ⟨parE ps vs env, s.bs⟩ fun e s1 => e = .normal ∧ bat s1.bs i = .lp n env ps.toArray as cd .ready none ∧ T P n s.bs.length cd ⟨s1.env, bset s1.bs i (.lp n env ps.toArray as cd .busy none)⟩ fun e2 s2 =>
      bat s2.bs i = .lp n env ps.toArray as cd .busy none ∧ ∃ j, jumpOf e2 = some j ∧ b = j.isNone ∧ bs' = bset s2.bs i (.lp n env ps.toArray as cd (if j.isNone then .ready else .done) j)) : OpT P o s (.bool b) bs' := by
  intro r G w a hI hE K Q hK
  obtain ⟨l, hc, hfe⟩ := (ev_r hE hx).yld_inv
  obtain ⟨hal, har⟩ := evs_map hE hv
  obtain ⟨hgr, rec, hh, h1, h2, h3, h4, h5, h6, h7, h8⟩ := inv_lp hI hb hc
  refine ⟨fun _ _ => trivial, ?_⟩
  rw [Oper.semAt_eq _ _ _ (by simp [ho])]
  have hrun : (execOp a.eval o).run P w = .ok (.round l rec.fn ((rec.params.zip (xs.toArray.map a.eval)).foldl (fun tmps (t, a) => tmps.setIfInBounds t a) rec.tmps) rec.assign rec.body) w := by
    unfold execOp
    simp only [ho, resolve, hfe, Deferred.ofValue, Sem.run_bind, Sem.run_pure, Result.andThen_ok, Array.empty_append, invoke]
    exact run_yield hh (by rw [h3]; simp [← hl] at hal ⊢; omega)
  rw [hrun, Oper.uponIn_round]
  refine ⟨fun h => by simp [Wd, Fence.wide] at h, roundIn_of_wpIn trivial ?_⟩
  have hpz : ((rec.params.zip (xs.toArray.map a.eval)).foldl (fun tmps (t, a) => tmps.setIfInBounds t a) rec.tmps) = ((ps.zip (xs.map a.eval)).foldl (fun tmps (t, a) => tmps.setIfInBounds t a) rec.tmps) := by
    rw [h3]
    simp
  obtain ⟨hE2, hsz2⟩ := parE_r (G := G) (ps := ps) (vs := vs) (cvs := xs.map a.eval) h7 hl (by rw [List.length_map, ← hl]; simpa using hal) (fun j v c e1 e2 => har j v c e1 (by simpa using e2)) (by rw [h6]; exact hp)
  rw [hpz, h4, h5]
  have hH : Holds n (protOf s.bs.length G w hI.dom) (some l) ⟨parE ps vs env, s.bs⟩ { tmps := (ps.zip (xs.map a.eval)).foldl (fun tmps (t, a) => tmps.setIfInBounds t a) rec.tmps, defers := [] } w :=
    ⟨⟨G, hE2, hI, ⟨.refl _, .refl _ _⟩, ⟨⟨[], rfl, .nil, by simp⟩, fun l' h => by obtain rfl := Option.some.inj h; exact ⟨rec, hh⟩⟩⟩, hsz2.trans h6⟩
  refine wpIn_mono (hT _ (some l) _ w hH) fun e a1 w1 ⟨s1, ⟨he, hb1, hT2⟩, H1⟩ => ?_
  subst he
  obtain ⟨G1, hE1, hI1, hX1, ha1⟩ := H1.st
  have hc1 := hX1.1.cl i l hc
  obtain ⟨_, rec1, hh1, g1, g2, g3, g4, g5, g6, g7, g8⟩ := inv_lp hI1 hb1 hc1
  have hbr := run_beginRound (P := P) hh1 g1
  obtain ⟨hI2, hev2⟩ := after_lp hI1 hb1 hc1 hh1 .busy none
  have hpend : ({ rec1 with state := .busy } : Loop) = { rec1 with state := .busy, pending := none } := by
    cases rec1; simp only [Loop.mk.injEq, true_and, and_true] at g2 ⊢; exact g2
  rw [hpend] at hbr
  refine ⟨_, hbr, ?_⟩
  have hX2 := (protOf s.bs.length G w hI.dom).le hX1 hev2 (.refl _)
  refine wpIn_mono (hT2 _ (some l) a1 _ ⟨⟨G1, hE1, hI2, hX2, ha1.ev hev2⟩, H1.sz⟩) fun e2 a2 w2 ⟨s2, ⟨hb2, j, hj, hbj, hbs⟩, H2⟩ => ?_
  obtain ⟨G2, hE3, hI3, hX3, ha3⟩ := H2.st
  have hc2 := hX3.1.cl i l hc
  obtain ⟨_, rec2, hh2, _⟩ := inv_lp hI3 hb2 hc2
  obtain ⟨hI4, hev4⟩ := after_lp hI3 hb2 hc2 hh2 (if j.isNone then .ready else .done) j
  have fin : K (a.put o.dst (.bool j.isNone)) (w2.putObj l (.loop { rec2 with state := if j.isNone then .ready else .done, pending := j })) := by
    refine hK _ _ G2 ⟨?_, hbs ▸ hI4, hX3.1, hX3.2.trans hev4⟩
    rw [hbj]; exact .imm _ _ (.bool _)
  cases e2 with
  | normal => obtain rfl := Option.some.inj hj; exact ⟨_, _, run_endRound (P := P) none hh2, fin⟩
  | ret => obtain rfl := Option.some.inj hj; exact ⟨_, _, run_endRound (P := P) (some .ret) hh2, fin⟩
  | exit id => obtain rfl := Option.some.inj hj; exact ⟨_, _, run_endRound (P := P) (some (.exit id)) hh2, fin⟩
  | goto t => cases hj
  | panic ch => cases hj
  | outgrown => cases hj

/-- Behind the loop. -/
def rangeEnd (P : Program) (n m : Nat) (pe : Option Code) (s : St) (Q : Exit → St → Prop) : Prop := match pe with
  | none => Q .normal s
  | some c => T P n m c s Q

/-- A range over a function. -/
theorem T_range {P : Program} {n m : Nat} {g : Operand} {ps : Array Tmp} {as cd : Code} {env : Env} {bs bs2 : List Blk} {Q : Exit → St → Prop} {f : Nat} {cap : List AV} {k : Nat} {v : AV} {st : LoopState} {pe : Option Code}
    (hg : ev env g = some (.fn f cap)) (hk : bat bs k = .gone) (hF : F P f (.yld k :: cap) (bset bs k (.lp n env ps as cd .ready none)) v bs2) (hb2 : bat bs2 k = .lp n env ps as cd st pe) (hst : st ≠ .busy)
    (hQ : rangeEnd P n m pe ⟨env, bset bs2 k (.lp n env ps as cd .exhausted pe)⟩ Q) : T P n m (.rangeFunc g ps as cd) ⟨env, bs⟩ Q := by
  intro X r a w H
  obtain ⟨G, hE, hI, hX, ha⟩ := H.st
  obtain ⟨cc, hfe, hcl, hcr⟩ := (ev_r hE hg).fn_inv
  refine wpIn_rangeFunc fun fn _ => ?_
  -- the record is laid
  obtain ⟨l, mrk, w1, G1, rec, henter, hrt, hrs, hrp, hrps, hras, hrcd, hI1, hle1, hev1, hcl1, hds⟩ : ∃ (l : Nat) (mrk : List Deferred) (w1 : World) (G1 : Ghost) (rec : Loop),
      (Instr.enterLoop fn a.tmps ps as cd (Wd r).round).run P w = .ok (l, mrk) w1 ∧ rec.tmps = a.tmps ∧ rec.state = .ready ∧ rec.pending = none ∧ rec.params = ps ∧ rec.assign = as ∧ rec.body = cd ∧
      Inv G1 (bset bs k (.lp n env ps as cd .ready none)) w1 ∧ G.le G1 ∧ Ev G w G1 w1 ∧ G1.cl k = some l ∧
      (∃ Ds : List Nat, mrk = Ds.map mark ∧ Ds.Nodup ∧ ∀ D ∈ Ds, w.heap.size ≤ D ∧ w1.heap[D]? = some (.deferred (some [])) ∧ ∀ i, ¬ G1.owns i D) := by
    cases r with
    | none =>
      let rc : Loop := { state := .ready, pending := none, fn, tmps := a.tmps, params := ps, assign := as, body := cd, defers := w.heap.size }
      have hI0 : Inv (G.setZ G.Z (.refl _)) bs (w.alloc (.deferred (some []))) := hI.later (by simp) (fun c hc => heap_alloc_old w _ c hc) (.refl _) (fun _ _ _ e => .inl e) fun c o v e => by rw [rd_of_frame (heap_alloc_old w _ c (hI.z_lt e))]; exact hI.z c o v e
      have hI0 : Inv G bs (w.alloc (.deferred (some []))) := hI0
      have hev0 : Ev G w G (w.alloc (.deferred (some []))) := ⟨rfl, rfl, rfl, by simp, .refl _, fun _ _ _ e => .inl e, fun c hc _ => heap_alloc_old w _ c hc, fun i c hc => .inr ⟨i, hc⟩, loop_of_same fun c hc => .inl (heap_alloc_old w _ c hc)⟩
      obtain ⟨G1, hI1, hle1, hev1, hc1, hne⟩ := after_loop hI0 hk rc (env := env) hE
      refine ⟨w.heap.size + 1, [mark w.heap.size], _, G1, rc, run_enterLoop_outer _ _ _ _ _, rfl, rfl, rfl, rfl, rfl, rfl, ?_, hle1, hev0.trans hev1, by simpa using hc1, [w.heap.size], rfl, by simp, fun D hD => ?_⟩
      · have : rc.tmps.size = n := H.sz
        rw [this] at hI1; exact hI1
      · obtain rfl : D = w.heap.size := by simpa using hD
        refine ⟨Nat.le_refl _, ?_, fun i hi => ?_⟩
        · rw [heap_alloc_old _ _ _ (by simp)]; exact heap_alloc_new w _
        · rcases hev1.own i _ hi with h | ⟨j, h⟩
          · rw [World.size_alloc] at h; omega
          · have := (hI.lt h).2; omega
    | some l0 =>
      obtain ⟨r0, hr0⟩ := ha.rk l0 rfl
      let rc : Loop := { state := .ready, pending := none, fn, tmps := a.tmps, params := ps, assign := as, body := cd, defers := r0.defers }
      obtain ⟨G1, hI1, hle1, hev1, hc1, hne⟩ := after_loop hI hk rc (env := env) hE
      refine ⟨w.heap.size, [], _, G1, rc, run_enterLoop_inner hr0 _ _ _ _ _, rfl, rfl, rfl, rfl, rfl, rfl, ?_, hle1, hev1, hc1, [], rfl, .nil, by simp⟩
      have : rc.tmps.size = n := H.sz
      rw [this] at hI1; exact hI1
  have hcargs : (#[.func (.yield l) #[] #[]] ++ cc : Array Value).size = (AV.yld k :: cap).length := by simp [hcl]; omega
  refine ⟨l, mrk, w1, { target := .fn (.func f) cc, args := #[.func (.yield l) #[] #[]] }, w1, f, #[.func (.yield l) #[] #[]] ++ cc, w1, henter, ?_, fun _ _ => trivial, ?_, fun h => by simp [Wd, Fence.wide] at h, ?_⟩
  · simp only [resolve, rangeCall, hfe, Deferred.ofValue]
    simp [go_sem, Act.eval]
  · simp only [invoke]
    exact hF.en _ w1
  · refine callsW ((hF.ok G1 w1 _ (.yld k :: cap) _ v bs2 hI1 ⟨hcargs, fun j u c e1 e2 => ?_⟩ ⟨rfl, rfl, rfl, rfl⟩).mono fun e w2 ⟨cv, G2, he, hA⟩ => ?_)
    · cases j with
      | zero => rw [Array.getElem?_append] at e2; simp at e1 e2; subst e1 e2; exact .yld k l hcl1
      | succ j =>
        refine (hcr j u c (by simpa using e1) ?_).mono hle1
        rw [Array.getElem?_append] at e2
        simpa using e2
    · subst he
      have hc2 := hA.le.cl k l hcl1
      obtain ⟨_, rec2, hh2, q1, q2, _⟩ := inv_lp hA.inv hb2 hc2
      obtain ⟨hI3, hev3⟩ := after_lp hA.inv hb2 hc2 hh2 .exhausted pe
      have hend := run_endLoop (P := P) hh2 (by rw [q1]; exact hst)
      have hpend : ({ rec2 with state := .exhausted } : Loop) = { rec2 with state := .exhausted, pending := pe } := by
        cases rec2; simp only [Loop.mk.injEq, true_and, and_true] at q2 ⊢; exact q2
      rw [hpend, q2] at hend
      refine ⟨pe, _, hend, ?_⟩
      have hX2 := X.le (X.le (X.le hX hev1 hle1) hA.ev hA.le) hev3 (.refl _)
      have hHf : Holds n X r ⟨env, bset bs2 k (.lp n env ps as cd .exhausted pe)⟩ { a with defers := mrk ++ a.defers } (w2.putObj l (.loop { rec2 with state := .exhausted, pending := pe })) := by
        refine ⟨⟨G2, (hE.mono hle1).mono hA.le, hI3, hX2, ?_⟩, H.sz⟩
        obtain ⟨Ds, d1, d2, d3⟩ := hds
        have ha1 : Aside X.Y r (mrk ++ a.defers) G1 w1 := by
          obtain ⟨⟨Es, e1, e2, e3⟩, hrk⟩ := ha.ev hev1
          refine ⟨⟨Ds ++ Es, by rw [d1, e1, List.map_append], List.nodup_append.2 ⟨d2, e2, fun D hD D' hD' e => ?_⟩, fun D hD => ?_⟩, hrk⟩
          · obtain ⟨⟨Es', e1', _, e3'⟩, _⟩ := ha
            have hEs : Es = Es' := by
              have h := e1.symm.trans e1'
              exact (List.map_inj_right fun x y h => by simpa [mark] using h).1 h
            subst hEs
            obtain ⟨_, h, _⟩ := e3' D' hD'
            have h1 := (Array.getElem?_eq_some_iff.1 h).1
            have h2 := (d3 D hD).1
            omega
          · rcases List.mem_append.1 hD with h | h
            · obtain ⟨f1, f2, f3⟩ := d3 D h
              exact ⟨X.fresh G w D hX f1, f2, f3⟩
            · exact e3 D h
        exact (ha1.ev hA.ev).ev hev3
      cases pe with
      | none => exact ⟨_, hQ, hHf⟩
      | some c => exact hQ X r _ _ hHf

end
end Go.Proofs.YtelgmdljcbkniaaDoor.Ai
