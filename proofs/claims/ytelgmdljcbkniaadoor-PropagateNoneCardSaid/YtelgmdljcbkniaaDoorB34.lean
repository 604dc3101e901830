/- An interpreter of values for the model's code, base text 34: what a run reckons is so. -/
import Derived.Test.YtelgmdljcbkniaaDoorB33
namespace Go.Proofs.YtelgmdljcbkniaaDoor.Ai
noncomputable section
open Go
set_option linter.unusedVariables false

def GoodB (t : Sto) (nb : Nat) : Prop := (∀ k, nb ≤ k → look t k = .gone) ∧ ∀ i n env ps as cd st pe, look t i = .lp n env ps as cd st pe → okX n as = true ∧ okX n cd = true

structure Stp (t : Sto) (nb wm : Nat) (t' : Sto) (nb' wm' : Nat) : Prop where
  good : GoodB t' nb'
  nb : nb ≤ nb'
  mono : ∀ k, wm.testBit k = true → wm'.testBit k = true
  same : ∀ k, wm'.testBit k = false → look t' k = look t k
  lp : ∀ i n env ps as cd st pe, look t i = .lp n env ps as cd st pe → ∃ st' pe', look t' i = .lp n env ps as cd st' pe'
  bound : ∀ k, wm'.testBit k = true → wm.testBit k = true ∨ k < nb'

theorem Stp.refl {t : Sto} {nb wm : Nat} (h : GoodB t nb) : Stp t nb wm t nb wm := ⟨h, Nat.le_refl _, fun _ h => h, fun _ _ => rfl, fun i n env ps as cd st pe h => ⟨st, pe, h⟩, fun _ h => .inl h⟩
theorem Stp.trans {t t' t'' : Sto} {nb nb' nb'' wm wm' wm'' : Nat} (h : Stp t nb wm t' nb' wm') (k : Stp t' nb' wm' t'' nb'' wm'') : Stp t nb wm t'' nb'' wm'' where
  good := k.good
  nb := Nat.le_trans h.nb k.nb
  mono j e := k.mono j (h.mono j e)
  same j e := by
    rw [k.same j e]
    refine h.same j ?_
    cases hw : wm'.testBit j with
    | false => rfl
    | true => rw [k.mono j hw] at e; cases e
  lp i n env ps as cd st pe e := by
    obtain ⟨st1, pe1, e1⟩ := h.lp i n env ps as cd st pe e
    exact k.lp i n env ps as cd st1 pe1 e1
  bound j e := by
    rcases k.bound j e with e | e
    · rcases h.bound j e with e | e
      · exact .inl e
      · exact .inr (Nat.lt_of_lt_of_le e k.nb)
    · exact .inr e
/-- Among other writes. -/
theorem Stp.widen {t t' : Sto} {nb nb' w : Nat} (wm : Nat) (h : Stp t nb 0 t' nb' w) : Stp t nb wm t' nb' (morM wm w) where
  good := h.good
  nb := h.nb
  mono j e := by rw [morM_test, e]; rfl
  same j e := by
    rw [morM_test, Bool.or_eq_false_iff] at e
    exact h.same j e.2
  lp := h.lp
  bound j e := by
    rw [morM_test, Bool.or_eq_true] at e
    rcases e with e | e
    · exact .inl e
    · rcases h.bound j e with e | e
      · rw [Nat.zero_testBit] at e; cases e
      · exact .inr e

def Agree (N : Nat) (t : Sto) (bs : List Blk) : Prop := ∀ k, k < N → bat bs k = look t k
theorem agree_mer (N : Nat) (t : Sto) (bs : List Blk) : Agree N t (mer N t bs) := fun k hk => by rw [bat_mer, if_pos hk]

/-- What a run of code does; of a loop, from its head. -/
def TL (P : Program) (n m : Nat) (c : Code) (s : St) (Q : Exit → St → Prop) : Prop := match c with
  | .loop c0 => LoopAt P n m c0 s Q
  | c => T P n m c s Q
theorem TL.toT {P : Program} {n m : Nat} {c : Code} {s : St} {Q : Exit → St → Prop} (h : TL P n m c s Q) : T P n m c s Q := by
  cases c <;> first | exact h | exact T_head h

def Snd (P : Program) (n : Nat) (c : Code) (s : XS) (e : Exit) (s' : XS) : Prop := GoodB s.bs s.nb → Stp s.bs s.nb s.wm s'.bs s'.nb s'.wm ∧
  ∀ (N : Nat) (bsL : List Blk) (m : Nat), s'.nb ≤ N → Agree N s.bs bsL → TL P n m c ⟨s.env.l, bsL⟩ fun e1 s1 => e1 = e ∧ s1 = ⟨s'.env.l, mer N s'.bs bsL⟩

def RecOk (P : Program) (rec : Nat → Code → XS → XR) : Prop := ∀ n c s e s', okX n c = true → rec n c s = .ok e s' → Snd P n c s e s'

theorem mer_mer (N : Nat) (t t' : Sto) (bs : List Blk) (k : Nat) : bat (mer N t' (mer N t bs)) k = bat (mer N t' bs) k := by
  rw [bat_mer N t' (mer N t bs), bat_mer N t' bs]
  split
  · rfl
  · rename_i h; rw [bat_mer, if_neg h]

/-- From a state to one that says the same. -/
theorem T_same {P : Program} {n m : Nat} {c : Code} {env env' : Env} {bs bs' : List Blk} {Q : Exit → St → Prop} (h : T P n m c ⟨env, bs⟩ fun e s => ∃ s2, Weak n m s s2 ∧ Q e s2) : T P n m c ⟨env, bs⟩ Q := by
  intro X r a w H
  exact wpIn_mono (h X r a w H) fun e a' w' ⟨s1, ⟨s2, hw, hq⟩, H1⟩ => ⟨s2, hq, hw _ _ _ _ H1⟩

theorem T_mer {P : Program} {n m N : Nat} {c : Code} {env env' : Env} {bs b1 : List Blk} {t' : Sto} {e : Exit} (hb : ∀ k, N ≤ k → bat b1 k = bat bs k)
    (h : T P n m c ⟨env, b1⟩ fun e1 s1 => e1 = e ∧ s1 = ⟨env', mer N t' b1⟩) : T P n m c ⟨env, b1⟩ fun e1 s1 => e1 = e ∧ s1 = ⟨env', mer N t' bs⟩ := by
  refine T_same (env' := env) (bs' := bs) (T_mono h fun e1 s1 ⟨h1, h2⟩ => ⟨⟨env', mer N t' bs⟩, ?_, h1, rfl⟩)
  subst h2
  refine Weak.bat fun k => ?_
  rw [bat_mer, bat_mer]
  split
  · rfl
  · rename_i hk; exact hb k (by omega)

/-! ### results -/

theorem resX_ok {X : Cx} {env : ET} {t : Sto} {bs : List Blk} (hb : ∀ k, look t k ≠ .gone → bat bs k = look t k) : ∀ {rvs : List ResultVar} {vs : List AV}, resX X env t rvs = some vs → ResAll X.P ⟨env.l, bs⟩ rvs vs
  | [], vs, h => by obtain rfl := Option.some.inj h; exact .nil
  | .tmp x :: r, vs, h => by
    unfold resX at h
    replace h := bi h; obtain ⟨v, hv, h⟩ := h
    rw [Option.map_eq_some_iff] at h
    obtain ⟨ws, h, rfl⟩ := h
    exact .cons (.tmp x v ((ET.l_get env x).trans hv)) (resX_ok hb h)
  | .cell a ty :: r, vs, h => by
    unfold resX at h
    replace h := bi h; obtain ⟨i, hi, h⟩ := h
    replace h := bi h; obtain ⟨p, hp, h⟩ := h
    have ht := (X.ok ty i hi).inf
    replace hp : Env.get env.l a = some p := (ET.l_get env a).trans hp
    split at h
    · rename_i b k
      split at h
      · rename_i cs hl
        have hg : bs[b]? = some (.cells cs) := get_bat _ _ _ ((hb b (by rw [hl]; simp)).trans hl) (by simp)
        split at h
        · rename_i hd
          replace h := okI_inv h; obtain ⟨hlen, h⟩ := h
          rw [Option.map_eq_some_iff] at h
          obtain ⟨ws, h, rfl⟩ := h
          exact .cons (.agg a ty b k _ _ _ _ cs _ ht hd hp hg (lenGe_inv hlen) rfl) (resX_ok hb h)
        · rename_i hd
          replace h := bi h; obtain ⟨v, hv, h⟩ := h
          rw [Option.map_eq_some_iff] at h
          obtain ⟨ws, h, rfl⟩ := h
          rw [nth_eq] at hv
          exact .cons (.cell a ty b k _ _ _ _ cs v ht hd hp hg hv) (resX_ok hb h)
      · cases h
    · cases h

/-! ### calls -/

theorem no_cr {v : AV} {bs : Sto} {nb w : Nat} : CR.no ≠ CR.ok v bs nb w := fun h => by cases h
theorem argT_ok {β : CR} (hne : CR.no ≠ β) : ∀ {vs : List AV} {i : Nat} {e : ET} {K : ET → CR}, argT vs i e .no K = β → ∃ e', K e' = β ∧ ∀ t v, e'.get t = some v → e.get t = some v ∨ (argEnv vs i).get t = some v
  | [], i, e, K, h => ⟨e, h, fun t v h => .inl h⟩
  | x :: r, i, e, K, h => by
    replace h : ET.setK i x e .no (fun e' => argT r (Nat.succ i) e' .no K) = β := h
    obtain ⟨hi, h⟩ := setE_inv hne h
    obtain ⟨e', h1, h2⟩ := argT_ok hne h
    refine ⟨e', h1, fun t v ht => ?_⟩
    rcases h2 t v ht with h3 | h3
    · rw [ET.get_set hi] at h3
      split at h3
      · rename_i e0; subst e0; refine .inr ?_; rw [argEnv, Env.get_cons, if_pos rfl]; exact h3
      · exact .inl h3
    · refine .inr ?_
      have := (argEnv_get r (i + 1) t v h3).1
      rw [argEnv, Env.get_cons, if_neg (by omega)]
      exact h3
theorem parT_ok {β : CR} (hne : CR.no ≠ β) : ∀ {ps : List Nat} {vs : List AV} {e : ET} {K : ET → CR}, parT ps vs e .no K = β → ∃ e', K e' = β ∧ ∀ (env : Env), (∀ t v, e.get t = some v → env.get t = some v) → ∀ t v, e'.get t = some v → (parE ps vs env).get t = some v
  | [], vs, e, K, h => ⟨e, h, fun env he t v ht => by cases vs <;> exact he t v ht⟩
  | p :: ps, [], e, K, h => absurd h hne
  | p :: ps, x :: vs, e, K, h => by
    replace h : ET.setK p x e .no (fun e' => parT ps vs e' .no K) = β := h
    obtain ⟨hi, h⟩ := setE_inv hne h
    obtain ⟨e', h1, h2⟩ := parT_ok hne h
    refine ⟨e', h1, fun env he t v ht => h2 ((p, x) :: env) (fun t v ht => ?_) t v ht⟩
    rw [ET.get_set hi] at ht
    rw [Env.get_cons]
    split at ht
    · rename_i e0; rw [if_pos e0]; exact ht
    · rename_i e0; rw [if_neg e0]; exact he t v ht

section
variable {X : Cx} {FT : Nat → Option Func} {rec : Nat → Code → XS → XR} (hFT : ∀ f fn, FT f = some fn → FnOk X.P f fn) (hrec : RecOk X.P rec)
include hFT hrec

theorem callX_ok {f : Nat} {vs : List AV} {bs bs' : Sto} {nb nb' w : Nat} {v : AV} (h : callX X FT rec f vs bs nb = .ok v bs' nb' w) (hg : GoodB bs nb) :
    Stp bs nb 0 bs' nb' w ∧ ∀ (N : Nat) (bsL : List Blk), nb' ≤ N → Agree N bs bsL → F X.P f vs bsL v (mer N bs' bsL) := by
  unfold callX at h
  obtain ⟨fn, hfn, h⟩ := obind_inv no_cr h
  obtain ⟨c, hc, h⟩ := obind_inv no_cr h
  obtain ⟨hlen, h⟩ := bif_inv no_cr h
  obtain ⟨env0, h, henv⟩ := argT_ok no_cr h
  obtain ⟨e, s1, hr, h⟩ := XR.b_inv no_cr h
  obtain ⟨hf, hen, hok⟩ := hFT f fn hfn
  obtain ⟨env1, bs1, nb1, wm1⟩ := s1
  obtain ⟨hst, hT⟩ := hrec _ _ _ _ _ (hok c hc) hr hg
  have henv : ∀ t v, env0.l.get t = some v → (argEnv vs 0).get t = some v := fun t v ht => by
    rw [ET.l_get] at ht
    rcases henv t v ht with h1 | h1
    · rw [ET.get_none] at h1; cases h1
    · exact h1
  have fin : (e = .normal ∨ e = .ret) → (obind (resX X env1 bs1 fn.results.toList) .no fun rs => CR.ok (one1 rs) bs1 nb1 wm1) = .ok v bs' nb' w → Stp bs nb 0 bs' nb' w ∧ ∀ (N : Nat) (bsL : List Blk), nb' ≤ N → Agree N bs bsL → F X.P f vs bsL v (mer N bs' bsL) := fun he h => by
    obtain ⟨rs, hrs, h⟩ := obind_inv no_cr h
    simp only [CR.ok.injEq] at h
    obtain ⟨rfl, rfl, rfl, rfl⟩ := h
    refine ⟨hst, fun N bsL hN hA => ⟨hen, F_ok hf hc fun a b u b' ⟨e1, e2, e3, e4⟩ => ?_⟩⟩
    subst e1 e2 e3 e4
    refine ⟨Nat.le_of_ble_eq_true hlen, T_weak (Weak.env henv) (T_mono (hT N _ _ hN hA).toT fun e2 s2 ⟨q1, q2⟩ => ?_)⟩
    subst q1 q2
    have hres : ResAll X.P ⟨env1.l, mer N bs1 b⟩ fn.results.toList rs := resX_ok (fun k hk => by
      rw [bat_mer, if_pos]
      rcases Nat.lt_or_ge k N with h | h
      · exact h
      · exact absurd (hst.good.1 k (Nat.le_trans hN h)) hk) hrs
    have : (∀ (G : Ghost) (w : World) (tmps : Array Value), EnvR G env1.l tmps → Inv G (mer N bs1 b) w → ∃ cv, (results fn tmps).run X.P w = .ok cv w ∧ R G (one1 rs) cv) ∧ mer N bs1 b = mer N bs1 b := ⟨fun G w tmps hE hI => results_run (fn := fn) (by simp) hres hE hI, rfl⟩
    rcases he with rfl | rfl <;> exact this
  cases e with
  | normal => exact fin (.inl rfl) h
  | ret => exact fin (.inr rfl) h
  | _ => cases (show CR.no = _ from h)

omit hFT hrec in
theorem good_set {t : Sto} {nb i n : Nat} {env : ET} {ps : Array Tmp} {as cd : Code} {st : LoopState} {pe : Option Code} (hg : GoodB t nb) (hi : i < nb) (h65 : i < 65536) (h1 : okX n as = true) (h2 : okX n cd = true) : GoodB (t.set i (.lp n env ps as cd st pe)) nb := by
  refine ⟨fun k hk => ?_, fun j n' env' ps' as' cd' st' pe' h => ?_⟩
  · rw [look_set h65, if_neg (by omega)]; exact hg.1 k hk
  · rw [look_set h65] at h
    split at h
    · injection h with e1 e2 e3 e4 e5
      subst e1 e4 e5
      exact ⟨h1, h2⟩
    · exact hg.2 _ _ _ _ _ _ _ _ h

omit hFT hrec in
theorem opb_eq {P : Program} {o : Oper} {s : St} {b b' : Bool} {bs : List Blk} (h : b = b') (k : OpT P o s (.bool b) bs) : OpT P o s (.bool b') bs := h ▸ k

omit hFT in
theorem yieldX_ok {i : Nat} {vs : List AV} {bs bs' : Sto} {nb nb' w : Nat} {v : AV} (h : yieldX rec i vs bs nb = .ok v bs' nb' w) (hg : GoodB bs nb) :
    Stp bs nb 0 bs' nb' w ∧ ∀ (N : Nat) (bsL : List Blk), nb' ≤ N → Agree N bs bsL → ∀ {o : Oper} {env : Env} {x : Operand} {xs : List Operand} {ts : Array TypeId}, o.op = .call { callee := .value x, args := xs.toArray, argTypes := ts } → ev env x = some (.yld i) → evs env xs = some vs →
      OpT X.P o ⟨env, bsL⟩ v (mer N bs' bsL) := by
  unfold yieldX at h
  split at h
  · rename_i n envT ps as cd hlpF
    have hlp : look bs i = .lp n envT.l ps as cd .ready none := by unfold look; rw [hlpF]; rfl
    obtain ⟨hc, h⟩ := bif_inv no_cr h
    simp only [Bool.and_eq_true] at hc
    obtain ⟨hlen, hps⟩ := hc
    have hlen := Nat.eq_of_beq_eq_true hlen
    have hi : i < nb := by
      rcases Nat.lt_or_ge i nb with h' | h'
      · exact h'
      · rw [hg.1 i h'] at hlp; cases hlp
    obtain ⟨okas, okcd⟩ := hg.2 _ _ _ _ _ _ _ _ hlp
    obtain ⟨envP, h, hpar⟩ := parT_ok no_cr h
    have hpar : ∀ t v, envP.l.get t = some v → (parE ps.toList vs envT.l).get t = some v := fun t v ht => by
      rw [ET.l_get] at ht
      exact hpar envT.l (fun t v h => by rw [ET.l_get]; exact h) t v ht
    obtain ⟨e1, s1, hr1, h⟩ := XR.b_inv no_cr h
    split at h
    · rename_i env1 bs1 nb1 wm1
      obtain ⟨hm1, h⟩ := bif_inv no_cr h
      have hm1 : wm1.testBit i = false := by rw [← mbit_eq]; simpa using hm1
      obtain ⟨h65, h⟩ := setK_inv no_cr h
      obtain ⟨e2, s2, hr2, h⟩ := XR.b_inv no_cr h
      obtain ⟨env3, bs3, nb3, wm3⟩ := s2
      simp only at h
      obtain ⟨hm3, h⟩ := bif_inv no_cr h
      have hm3 : wm3.testBit i = false := by rw [← mbit_eq]; simpa using hm3
      obtain ⟨j, hj, h⟩ := obind_inv no_cr h
      obtain ⟨_, h⟩ := setK_inv no_cr h
      rw [fN_eq] at h
      simp only [CR.ok.injEq] at h
      obtain ⟨rfl, rfl, rfl, rfl⟩ := h
      generalize hb2 : bs1.set i (.lp n envT ps as cd .busy none) = bs2 at *
      generalize hb4 : bs3.set i (.lp n envT ps as cd (stOf j) j) = bs4 at *
      have hs2 : ∀ k, look bs2 k = if i = k then .lp n envT.l ps as cd .busy none else look bs1 k := fun k => by rw [← hb2, look_set h65]; rfl
      have hs4 : ∀ k, look bs4 k = if i = k then .lp n envT.l ps as cd (stOf j) j else look bs3 k := fun k => by rw [← hb4, look_set h65]; rfl
      obtain ⟨S1, T1⟩ := hrec _ _ _ _ _ okas hr1 hg
      have hn1 : nb ≤ nb1 := S1.nb
      have hl1 : look bs1 i = .lp n envT.l ps as cd .ready none := (S1.same i hm1).trans hlp
      have g2 : GoodB bs2 nb1 := hb2 ▸ good_set S1.good (by omega) h65 okas okcd
      obtain ⟨S2, T2⟩ := hrec _ _ _ _ _ okcd hr2 g2
      have hn2 : nb1 ≤ nb3 := S2.nb
      have hl2 : look bs2 i = .lp n envT.l ps as cd .busy none := by rw [hs2, if_pos rfl]
      have hl3 : look bs3 i = .lp n envT.l ps as cd .busy none := (S2.same i hm3).trans hl2
      have g4 : GoodB bs4 nb3 := hb4 ▸ good_set S2.good (by omega) h65 okas okcd
      refine ⟨⟨g4, Nat.le_trans hn1 hn2, fun k h => (by rw [Nat.zero_testBit] at h; cases h), fun k h => ?_, fun q n' env' ps' as' cd' st' pe' h => ?_, fun k h => ?_⟩, fun N bsL hN hA o env x xs ts ho hx hv => ?_⟩
      · rw [morM_test, morM_test, bitOf_test, Bool.or_eq_false_iff, Bool.or_eq_false_iff] at h
        have hik : ¬ i = k := of_decide_eq_false h.1
        rw [hs4, if_neg hik, S2.same k h.2.2, hs2, if_neg hik]
        exact S1.same k h.2.1
      · by_cases hqi : i = q
        · subst hqi
          rw [hlp] at h
          injection h with e1 e2 e3 e4 e5
          subst e1 e2 e3 e4 e5
          exact ⟨_, _, by rw [hs4, if_pos rfl]⟩
        · obtain ⟨st1, pe1, h1⟩ := S1.lp _ _ _ _ _ _ _ _ h
          obtain ⟨st2, pe2, h2⟩ := S2.lp q n' env' ps' as' cd' st1 pe1 (by rw [hs2, if_neg hqi]; exact h1)
          exact ⟨st2, pe2, by rw [hs4, if_neg hqi]; exact h2⟩
      · rw [morM_test, morM_test, bitOf_test, Bool.or_eq_true, Bool.or_eq_true] at h
        refine .inr ?_
        rcases h with h | h | h
        · have : i = k := of_decide_eq_true h
          omega
        · rcases S1.bound k h with h | h
          · rw [Nat.zero_testBit] at h; cases h
          · exact Nat.lt_of_lt_of_le h hn2
        · rcases S2.bound k h with h | h
          · rw [Nat.zero_testBit] at h; cases h
          · exact h
      · have hN' : nb3 ≤ N := hN
        have hiN : i < N := by omega
        have hpa : ps.toList.toArray = ps := by simp
        refine OpT.congr (bs' := bset (mer N bs3 (bset (mer N bs1 bsL) i (.lp n envT.l ps.toList.toArray as cd .busy none))) i (.lp n envT.l ps.toList.toArray as cd (if j.isNone then .ready else .done) j)) (fun k => ?_) ?_
        · rw [bat_bset, bat_mer, bat_mer N bs4 bsL, hs4, hpa]
          by_cases hik : i = k
          · subst hik; rw [if_pos rfl, if_pos hiN, if_pos rfl]; cases j <;> rfl
          · rw [if_neg hik, if_neg hik]
            split
            · rfl
            · rename_i hk; rw [bat_bset, if_neg hik, bat_mer, if_neg hk]
        · refine opb_eq (b := j.isNone) (by cases j <;> rfl) ?_
          refine op_yield (s := ⟨env, bsL⟩) (n := n) (env := envT.l) (ps := ps.toList) (as := as) (cd := cd) ho hx hv (by rw [hpa, hA i hiN]; exact hlp) hlen (fun p hp => by simpa [Nat.blt_eq] using List.all_eq_true.1 hps p hp) ?_
          refine T_weak (Weak.env hpar) (T_mono (T1 N bsL _ (Nat.le_trans hn2 hN') hA).toT fun e s ⟨q1, q2⟩ => ?_)
          subst q2
          refine ⟨q1, by rw [bat_mer, if_pos hiN, hpa]; exact hl1, ?_⟩
          refine T_mono (T2 N (bset (mer N bs1 bsL) i (.lp n envT.l ps.toList.toArray as cd .busy none)) _ hN' fun k hk => ?_).toT fun e' s' ⟨r1, r2⟩ => ?_
          · rw [bat_bset, hs2, hpa]
            split
            · rfl
            · rw [bat_mer, if_pos hk]
          · subst r1 r2
            exact ⟨by rw [bat_mer, if_pos hiN, hpa]; exact hl3, j, hj, rfl, rfl⟩
    · cases h
  · cases h

end
end
end Go.Proofs.YtelgmdljcbkniaaDoor.Ai
