/- An interpreter of values for the model's code, base text 35: operations in a row, and code, reckoned: it is so. -/
import Derived.Test.YtelgmdljcbkniaaDoorB34
namespace Go.Proofs.YtelgmdljcbkniaaDoor.Ai
noncomputable section
open Go
set_option linter.unusedVariables false

theorem posts_cons {k0 : Nat} {b : Blk} {r : List (Nat × Blk)} {t t' : Sto} {m m' : Nat} (h : posts ((k0, b) :: r) t m = some (t', m')) : isLp (look t k0) = false ∧ isLp b = false ∧ k0 < 65536 ∧ posts r (t.set k0 (.b b)) (morM m (bitOf k0)) = some (t', m') := by
  replace h : bif' (isLp (look t k0)) (bif' (isLp b) (t.setK k0 (.b b) none fun t' => fN (morM m (bitOf k0)) fun m' => posts r t' m') none) none = some (t', m') := h
  cases h1 : isLp (look t k0) with
  | true => rw [h1] at h; cases h
  | false =>
    rw [h1] at h
    cases h2 : isLp b with
    | true => rw [h2] at h; cases h
    | false =>
      rw [h2] at h
      replace h : (t.setK k0 (.b b) none fun t' => fN (morM m (bitOf k0)) fun m' => posts r t' m') = some (t', m') := h
      obtain ⟨h3, h⟩ := setK_inv (by simp) h
      rw [fN_eq] at h
      exact ⟨rfl, rfl, h3, h⟩
theorem look_setb {t : Sto} {k : Nat} {b : Blk} (h : k < 65536) (j : Nat) : look (t.set k (.b b)) j = if k = j then b else look t j := look_set h j

theorem posts_keep : ∀ {l : List (Nat × Blk)} {t t' : Sto} {m m' : Nat}, posts l t m = some (t', m') → ∀ k, k ∉ l.map Prod.fst → look t' k = look t k
  | [], t, t', m, m', h, k, _ => by obtain ⟨rfl, rfl⟩ := Prod.mk.inj (Option.some.inj h); rfl
  | (k0, b) :: r, t, t', m, m', h, k, hk => by
    obtain ⟨_, _, h65, h⟩ := posts_cons h
    simp only [List.map_cons, List.mem_cons, not_or] at hk
    rw [posts_keep h k hk.2, look_setb h65, if_neg fun e => hk.1 e.symm]

theorem posts_upd : ∀ {l : List (Nat × Blk)} {t t' : Sto} {m m' : Nat}, posts l t m = some (t', m') → ∀ (bs : List Blk) k, bat (upd bs l) k = if k ∈ l.map Prod.fst then look t' k else bat bs k
  | [], t, t', m, m', h, bs, k => by simp [upd]
  | (k0, b) :: r, t, t', m, m', h, bs, k => by
    obtain ⟨_, _, h65, h⟩ := posts_cons h
    have e : upd bs ((k0, b) :: r) = upd (bset bs k0 b) r := rfl
    rw [e, posts_upd h]
    by_cases hr : k ∈ r.map Prod.fst
    · rw [if_pos hr, if_pos (by simp only [List.map_cons, List.mem_cons]; exact .inr hr)]
    · rw [if_neg hr, bat_bset]
      by_cases hk : k0 = k
      · subst hk
        rw [if_pos rfl, if_pos (by simp), posts_keep h k0 hr, look_setb h65, if_pos rfl]
      · rw [if_neg hk, if_neg (by simp only [List.map_cons, List.mem_cons, not_or]; exact ⟨fun e => hk e.symm, hr⟩)]

theorem isLp_not {b : Blk} (h : isLp b = false) : ∀ n env ps as cd st pe, b ≠ .lp n env ps as cd st pe := fun n env ps as cd st pe e => by subst e; cases h

theorem posts_stp {nb1 : Nat} : ∀ {l : List (Nat × Blk)} {t t' : Sto} {m m' : Nat}, posts l t m = some (t', m') → (∀ k ∈ l.map Prod.fst, k < nb1) → GoodB t nb1 → Stp t nb1 m t' nb1 m' ∧ ∀ k ∈ l.map Prod.fst, m'.testBit k = true
  | [], t, t', m, m', h, _, hg => by obtain ⟨rfl, rfl⟩ := Prod.mk.inj (Option.some.inj h); exact ⟨.refl hg, by simp⟩
  | (k0, b) :: r, t, t', m, m', h, hk, hg => by
    obtain ⟨l1, l2, h65, h⟩ := posts_cons h
    have l1 := isLp_not l1
    have l2 := isLp_not l2
    have hk0 : k0 < nb1 := hk k0 (by simp)
    have g1 : GoodB (t.set k0 (.b b)) nb1 := by
      refine ⟨fun k hk => ?_, fun j n env ps as cd st pe e => ?_⟩
      · rw [look_setb h65, if_neg (by omega)]; exact hg.1 k hk
      · rw [look_setb h65] at e
        split at e
        · exact absurd e (l2 _ _ _ _ _ _ _)
        · exact hg.2 _ _ _ _ _ _ _ _ e
    have s1 : Stp t nb1 m (t.set k0 (.b b)) nb1 (morM m (bitOf k0)) := by
      refine ⟨g1, Nat.le_refl _, fun k e => by rw [morM_test, e]; rfl, fun k e => ?_, fun j n env ps as cd st pe e => ⟨st, pe, ?_⟩, fun k e => ?_⟩
      · rw [morM_test, bitOf_test, Bool.or_eq_false_iff] at e
        rw [look_setb h65, if_neg (of_decide_eq_false e.2)]
      · rw [look_setb h65, if_neg]
        · exact e
        · intro e0; subst e0; exact l1 _ _ _ _ _ _ _ e
      · rw [morM_test, bitOf_test, Bool.or_eq_true] at e
        rcases e with e | e
        · exact .inl e
        · have := of_decide_eq_true e
          exact .inr (by omega)
    obtain ⟨s2, b2⟩ := posts_stp h (fun k hk' => hk k (by simp only [List.map_cons, List.mem_cons]; exact .inr hk')) g1
    refine ⟨s1.trans s2, fun k hk' => ?_⟩
    simp only [List.map_cons, List.mem_cons] at hk'
    rcases hk' with rfl | hk'
    · exact s2.mono _ (by rw [morM_test, bitOf_test]; simp)
    · exact b2 k hk'

theorem keysLt_ok : ∀ {l : List (Nat × Blk)} {nb : Nat}, keysLt nb l = true → ∀ k ∈ l.map Prod.fst, k < nb
  | [], _, _, k, h => by simp at h
  | (k0, b) :: r, nb, h, k, hk => by
    replace h : bif' (Nat.ble (Nat.succ k0) nb) false (keysLt nb r) = true := h
    obtain ⟨h1, h2⟩ := bif_inv (by simp) h
    simp only [List.map_cons, List.mem_cons] at hk
    rcases hk with rfl | hk
    · exact Nat.le_of_ble_eq_true h1
    · exact keysLt_ok h2 k hk

theorem maskOf_ok : ∀ {l : List (Nat × Blk)}, ∀ k ∈ l.map Prod.fst, (maskOf l).testBit k = true
  | [], k, h => by simp at h
  | (k0, b) :: r, k, hk => by
    simp only [List.map_cons, List.mem_cons] at hk
    show (morM (bitOf k0) (maskOf r)).testBit k = true
    rw [morM_test, bitOf_test]
    rcases hk with rfl | hk
    · simp
    · rw [maskOf_ok k hk]; simp

theorem nextNb_le (nb : Nat) (l : List (Nat × Blk)) : nb ≤ nextNb nb l := by
  cases l with
  | nil => exact Nat.le_refl _
  | cons p r =>
    show nb ≤ bif' (Nat.beq p.1 nb) nb (Nat.succ nb)
    cases Nat.beq p.1 nb
    · exact Nat.le_refl _
    · exact Nat.le_succ nb

theorem upd_map (g : Nat → Blk) : ∀ (l : List Nat) (bs : List Blk) (j : Nat), bat (upd bs (l.map fun k => (k, g k))) j = if j ∈ l then g j else bat bs j
  | [], bs, j => by simp [upd]
  | k :: r, bs, j => by
    have e : upd bs ((k :: r).map fun k => (k, g k)) = upd (bset bs k (g k)) (r.map fun k => (k, g k)) := rfl
    rw [e, upd_map g r, bat_bset]
    by_cases hr : j ∈ r
    · rw [if_pos hr, if_pos (by simp [hr])]
    · rw [if_neg hr]
      by_cases hk : k = j
      · subst hk; rw [if_pos rfl, if_pos (by simp)]
      · rw [if_neg hk, if_neg (by simp only [List.mem_cons, not_or]; exact ⟨fun e => hk e.symm, hr⟩)]

structure OneOk (P : Program) (o : Oper) (env : Env) (bs : Sto) (nb wm : Nat) (v : AV) (bs' : Sto) (nb' wm' rm w : Nat) (pre post : List (Nat × Blk)) : Prop where
  stp : Stp bs nb wm bs' nb' wm'
  agr : ∀ (N : Nat) (bsL : List Blk), nb' ≤ N → Agree N bs bsL → Has bsL pre ∧ ∀ k, bat (upd bsL post) k = if k < N then look bs' k else bat bsL k
  sub : ∀ k, k ∈ post.map Prod.fst → k ∈ pre.map Prod.fst
  op : ∀ env' bs0, (∀ x ∈ o.op.operands.toList, ev env' x = ev env x) → Has bs0 pre → OpT P o ⟨env', bs0⟩ v (upd bs0 post)
  rm : ∀ k ∈ pre.map Prod.fst, rm.testBit k = true
  w : ∀ k ∈ post.map Prod.fst, w.testBit k = true

/-- An operation that reckons the whole store. -/
theorem one_all {P : Program} {o : Oper} {env : Env} {bs bs' : Sto} {nb nb' wm w : Nat} {v : AV} (hst : Stp bs nb 0 bs' nb' w) (hg : GoodB bs nb)
    (h : ∀ (bs0 : List Blk) env', (∀ x ∈ o.op.operands.toList, ev env' x = ev env x) → Agree nb' bs bs0 → OpT P o ⟨env', bs0⟩ v (mer nb' bs' bs0)) :
    ∃ pre post, OneOk P o env bs nb wm v bs' nb' (morM wm w) (lowM nb') w pre post := by
  have keys : ∀ (l : List Nat) (g : Nat → Blk), (l.map fun k => (k, g k)).map Prod.fst = l := fun l g => by simp [List.map_map, Function.comp_def]
  have hb : ∀ k, w.testBit k = true → k < nb' := fun k e => by
    rcases hst.bound k e with e | e
    · rw [Nat.zero_testBit] at e; cases e
    · exact e
  have key : ∀ (N : Nat) (bsL : List Blk), nb' ≤ N → Agree N bs bsL → ∀ k, bat (upd bsL (((List.range nb').filter fun k => w.testBit k).map fun k => (k, look bs' k))) k = if k < N then look bs' k else bat bsL k := fun N bsL hN hA k => by
    rw [upd_map]
    simp only [List.mem_filter, List.mem_range]
    by_cases hw : w.testBit k = true
    · have := hb k hw
      rw [if_pos ⟨this, hw⟩, if_pos (by omega)]
    · rw [if_neg fun e => hw e.2]
      by_cases hk : k < N
      · rw [if_pos hk, hA k hk]; exact (hst.same k (by simpa using hw)).symm
      · rw [if_neg hk]
  refine ⟨(List.range nb').map fun k => (k, look bs k), ((List.range nb').filter fun k => w.testBit k).map fun k => (k, look bs' k), hst.widen wm, fun N bsL hN hA => ⟨?_, key N bsL hN hA⟩, fun k hk => ?_, fun env' bs0 he h0 => ?_, fun k hk => ?_, fun k hk => ?_⟩
  · rw [has_iff]
    intro k b hk
    obtain ⟨j, hj, e⟩ := List.mem_map.1 hk
    obtain ⟨rfl, rfl⟩ := Prod.mk.inj e
    exact hA j (by have := List.mem_range.1 hj; omega)
  · rw [keys] at hk ⊢
    exact (List.mem_filter.1 hk).1
  · have hA : Agree nb' bs bs0 := fun k hk => has_iff.1 h0 k _ (List.mem_map.2 ⟨k, List.mem_range.2 hk, rfl⟩)
    refine (h bs0 env' he hA).congr fun k => ?_
    rw [key nb' bs0 (Nat.le_refl _) hA k, bat_mer]
  · rw [keys] at hk
    rw [lowM_test]; exact decide_eq_true (List.mem_range.1 hk)
  · rw [keys] at hk
    exact (List.mem_filter.1 hk).2

theorem no_or {v : AV} {bs : Sto} {nb wm rm w : Nat} : OR.no ≠ OR.ok v bs nb wm rm w := fun h => by cases h

/-- A snapshot by the blocks of the run. -/
theorem snapL_mono {f g : AV → Option AV} (hf : ∀ v x, f v = some x → g v = some x) : ∀ {l r : List AV}, snapL f l = some r → snapL g l = some r
  | [], r, h => h
  | v :: l, r, h => by
    simp only [snapL] at h ⊢
    split at h
    · rename_i x xs e1 e2
      rw [hf v x e1, snapL_mono hf e2]
      exact h
    · cases h
theorem snapX_ok {lk : Nat → Blk} {bs : List Blk} (hb : ∀ k, lk k ≠ .gone → bat bs k = lk k) : ∀ (n : Nat) (v x : AV), snapX lk n v = some x → snap bs n v = some x
  | 0, _, _, h => by cases h
  | n + 1, v, x, h => by
    have ih := snapX_ok hb n
    have get : ∀ {i : Nat} {b : Blk}, lk i = b → b ≠ .gone → bs[i]? = some b := fun {i b} e hne => get_bat _ _ _ ((hb i (by rw [e]; exact hne)).trans e) hne
    cases v <;> simp only [snapX] at h <;> try (cases h; done)
    case int => simpa [snap] using h
    case bool => simpa [snap] using h
    case nils => simpa [snap] using h
    case lst => simpa [snap] using h
    case agg cs =>
      rw [Option.map_eq_some_iff] at h
      obtain ⟨ds, h, rfl⟩ := h
      simp only [snap, snapL_mono (fun v x => ih v x) h, Option.map_some]
    case gsl i len =>
      split at h
      · rename_i e sz xs hl
        simp only [snap, get hl (by simp)]
        exact h
      · cases h
    case slc i o sz len cap =>
      split at h
      · rename_i sz' xs hl
        split at h
        · rename_i hc
          rw [Option.map_eq_some_iff] at h
          obtain ⟨ds, h, rfl⟩ := h
          simp only [snap, get hl (by simp), if_pos hc, snapL_mono (fun v x => ih v x) h, Option.map_some]
        · cases h
      · cases h

section
variable {X : Cx} {FT : Nat → Option Func} {CT : Nat → Option (List AV → Option AV)} {rec : Nat → Code → XS → XR} (hFT : ∀ f fn, FT f = some fn → FnOk X.P f fn) (hCT : ∀ f C vs v, CT f = some C → C vs = some v → V X.P f vs v) (hrec : RecOk X.P rec)
include hFT hCT hrec

omit hFT hCT hrec in
theorem finX_inv {x : Option Ef} {bs bs' : Sto} {nb nb' wm wm' rm w : Nat} {v : AV} (h : finX x bs nb wm = .ok v bs' nb' wm' rm w) : ∃ e, x = some e ∧ v = e.v ∧
    ((e.pre = [] ∧ bs' = bs ∧ nb' = nb ∧ wm' = wm ∧ rm = 0 ∧ w = 0) ∨ (keysLt (nextNb nb e.pre) e.pre = true ∧ nb' = nextNb nb e.pre ∧ rm = maskOf e.pre ∧ w = maskOf e.post ∧ posts e.post bs wm = some (bs', wm'))) := by
  unfold finX at h
  obtain ⟨⟨u, pre, post⟩, hx, h⟩ := obind_inv no_or h
  refine ⟨_, hx, ?_⟩
  cases pre with
  | nil =>
    replace h : OR.ok u bs nb wm 0 0 = .ok v bs' nb' wm' rm w := h
    simp only [OR.ok.injEq] at h
    obtain ⟨rfl, rfl, rfl, rfl, rfl, rfl⟩ := h
    exact ⟨rfl, .inl ⟨rfl, rfl, rfl, rfl, rfl, rfl⟩⟩
  | cons p r =>
    replace h : finS u (p :: r) post bs nb wm = .ok v bs' nb' wm' rm w := h
    unfold finS at h
    rw [fN_eq] at h
    obtain ⟨hk, h⟩ := bif_inv no_or h
    cases post with
    | nil =>
      replace h : OR.ok u bs (nextNb nb (p :: r)) wm (maskOf (p :: r)) 0 = .ok v bs' nb' wm' rm w := h
      simp only [OR.ok.injEq] at h
      obtain ⟨rfl, rfl, rfl, rfl, rfl, rfl⟩ := h
      exact ⟨rfl, .inr ⟨hk, rfl, rfl, rfl, rfl⟩⟩
    | cons q l =>
      replace h : (obind (posts (q :: l) bs wm) OR.no fun p' => Prod.rec (fun bs' wm' => .ok u bs' (nextNb nb (p :: r)) wm' (maskOf (p :: r)) (maskOf (q :: l))) p') = .ok v bs' nb' wm' rm w := h
      obtain ⟨⟨b1, w1⟩, hp, h⟩ := obind_inv no_or h
      replace h : OR.ok u b1 (nextNb nb (p :: r)) w1 (maskOf (p :: r)) (maskOf (q :: l)) = .ok v bs' nb' wm' rm w := h
      simp only [OR.ok.injEq] at h
      obtain ⟨rfl, rfl, rfl, rfl, rfl, rfl⟩ := h
      exact ⟨rfl, .inr ⟨hk, rfl, rfl, rfl, hp⟩⟩

omit hFT hCT hrec in
theorem xnon_ok {o : Oper} {env : ET} {bs bs' : Sto} {nb nb' wm wm' rm w : Nat} {v : AV} (hg : GoodB bs nb)
    (h : finX (xopG X o.op (evE env) (look bs) nb) bs nb wm = .ok v bs' nb' wm' rm w) :
    ∃ pre post, OneOk X.P o env.l bs nb wm v bs' nb' wm' rm w pre post := by
  obtain ⟨e, he, rfl, hc⟩ := finX_inv h
  have hev : evE env = ev env.l := funext fun x => evE_eq env x
  rw [hev, xopG_eq] at he
  obtain ⟨bsC, hC⟩ := tree_list hg.1
  rw [← hC] at he
  obtain ⟨s1, s2, s3⟩ := xop_ok (bs := bsC) (by rw [hC]; exact hg.1 nb (Nat.le_refl _)) he
  rcases hc with ⟨hp, rfl, rfl, rfl, rfl, rfl⟩ | ⟨hk, rfl, rfl, rfl, hp⟩
  · have hq : e.post = [] := by
      cases hq : e.post with
      | nil => rfl
      | cons q l => exact absurd (s2 q.1 (by rw [hq]; simp)) (by rw [hp]; simp)
    rw [hp] at s3
    rw [hq] at s3
    refine ⟨[], [], .refl hg, fun N bsL hN hA => ⟨trivial, fun k => ?_⟩, fun k h => h, fun env' bs0 ha h0 => s3 env' bs0 ha h0, fun k h => by simp at h, fun k h => by simp at h⟩
    show bat bsL k = _
    split
    · rename_i hk; exact hA k hk
    · rfl
  · have hlt := keysLt_ok hk
    have hle := nextNb_le nb e.pre
    have hpost : ∀ k ∈ e.post.map Prod.fst, k < nextNb nb e.pre := fun k hk => hlt k (s2 k hk)
    have g1 : GoodB bs (nextNb nb e.pre) := ⟨fun k hk => hg.1 k (by omega), hg.2⟩
    obtain ⟨st, _⟩ := posts_stp hp hpost g1
    refine ⟨e.pre, e.post, ⟨st.good, hle, st.mono, st.same, st.lp, st.bound⟩, fun N bsL hN hA => ⟨?_, fun k => ?_⟩, s2, s3, fun k hk => maskOf_ok k hk, fun k hk => maskOf_ok k hk⟩
    · rw [has_iff] at s1 ⊢
      intro k b hkb
      have hk' : k < nextNb nb e.pre := hlt k (List.mem_map.2 ⟨_, hkb, rfl⟩)
      rw [hA k (by omega), ← hC]
      exact s1 k b hkb
    · rw [posts_upd hp]
      by_cases hk : k ∈ e.post.map Prod.fst
      · rw [if_pos hk, if_pos (by have := hpost k hk; omega)]
      · rw [if_neg hk]
        by_cases hN' : k < N
        · rw [if_pos hN', hA k hN', posts_keep hp k hk]
        · rw [if_neg hN']

theorem xcall_ok {o : Oper} {x : Operand} {args : List Operand} {ts : Array TypeId} (ho : o.op = .call { callee := .value x, args := args.toArray, argTypes := ts }) {env : ET} {bs bs' : Sto} {nb nb' wm wm' rm w : Nat} {v : AV} (hg : GoodB bs nb)
    (h : xcall X FT CT rec x args env bs nb wm = .ok v bs' nb' wm' rm w) : ∃ pre post, OneOk X.P o env.l bs nb wm v bs' nb' wm' rm w pre post := by
  have hev : evE env = ev env.l := funext fun x => evE_eq env x
  unfold xcall at h
  replace h := obind_inv no_or h; obtain ⟨fv, hfv, h⟩ := h
  replace h := obind_inv no_or h; obtain ⟨vs, hvs, h⟩ := h
  rw [hev] at hfv hvs
  rw [evsG_eq] at hvs
  have mx : x ∈ o.op.operands.toList := by simp [ho, Op.operands, Call.operands]
  have ma : ∀ y ∈ args, y ∈ o.op.operands.toList := fun y hy => by simp [ho, Op.operands, Call.operands]; exact .inr (by simpa using hy)
  split at h
  · rename_i f cap
    generalize hq : ((CT f).bind fun C => (snapL (snapX (look bs) 16) (vs ++ cap)).bind fun avs => (C avs).bind fun v => okI (scal v) (some v)) = q at h
    cases q with
    | some u =>
      replace h : OR.ok u bs nb wm (lowM nb) 0 = .ok v bs' nb' wm' rm w := h
      simp only [OR.ok.injEq] at h
      obtain ⟨rfl, rfl, rfl, rfl, rfl, rfl⟩ := h
      replace hq := bi hq; obtain ⟨C, hC, hq⟩ := hq
      replace hq := bi hq; obtain ⟨avs, hs, hq⟩ := hq
      replace hq := bi hq; obtain ⟨u', hu, hq⟩ := hq
      replace hq := okI_inv hq; obtain ⟨hsc, hq⟩ := hq
      obtain rfl := Option.some.inj hq
      have hV := hCT f C avs u' hC hu
      have key := one_all (P := X.P) (o := o) (env := env.l) (wm := wm) (w := 0) (v := u') (Stp.refl (nb := nb) (wm := 0) hg) hg fun bs0 env' he hA => by
        have hb : ∀ k, look bs k ≠ .gone → bat bs0 k = look bs k := fun k hk => hA k (by
          rcases Nat.lt_or_ge k nb with h | h
          · exact h
          · exact absurd (hg.1 k h) hk)
        refine OpT.congr (bs' := bs0) (fun k => ?_) (op_call_ro (s := ⟨env', bs0⟩) 16 ho ((he x mx).trans hfv) (evs_congr hvs fun y hy => he y (ma y hy)) (snapL_mono (fun v x => snapX_ok hb 16 v x) hs) hV.en hV.ok ⟨rfl, rfl⟩ hsc)
        rw [bat_mer]
        split
        · rename_i hk; exact hA k hk
        · rfl
      have e0 : morM wm 0 = wm := Nat.or_zero wm
      rw [e0] at key
      exact key
    | none =>
      replace h : (CR.b (callX X FT rec f (vs ++ cap) bs nb) OR.no fun v bs1 nb1 w => fN (morM wm w) fun wm' => .ok v bs1 nb1 wm' (lowM nb1) w) = .ok v bs' nb' wm' rm w := h
      obtain ⟨v0, bs1, nb1, w1, hc, h⟩ := CR.b_inv no_or h
      simp only [fN_eq, OR.ok.injEq] at h
      obtain ⟨rfl, rfl, rfl, rfl, rfl, rfl⟩ := h
      obtain ⟨hst, hF⟩ := callX_ok hFT hrec hc hg
      exact one_all hst hg fun bs0 env' he hA => op_callI (s := ⟨env', bs0⟩) ho ((he x mx).trans hfv) (evs_congr hvs fun y hy => he y (ma y hy)) (hF nb1 bs0 (Nat.le_refl _) hA)
  · rename_i i
    obtain ⟨v0, bs1, nb1, w1, hc, h⟩ := CR.b_inv no_or h
    simp only [fN_eq, OR.ok.injEq] at h
    obtain ⟨rfl, rfl, rfl, rfl, rfl, rfl⟩ := h
    obtain ⟨hst, hO⟩ := yieldX_ok hrec hc hg
    exact one_all hst hg fun bs0 env' he hA => hO nb1 bs0 (Nat.le_refl _) hA ho ((he x mx).trans hfv) (evs_congr hvs fun y hy => he y (ma y hy))
  · cases h

theorem xone_ok {o : Oper} {env : ET} {bs bs' : Sto} {nb nb' wm wm' rm w : Nat} {v : AV} (hg : GoodB bs nb) (h : xone X FT CT rec o.op env bs nb wm = .ok v bs' nb' wm' rm w) :
    ∃ pre post, OneOk X.P o env.l bs nb wm v bs' nb' wm' rm w pre post := by
  unfold xone at h
  cases hc : isCall o.op with
  | none => rw [hc] at h; exact xnon_ok hg h
  | some p =>
    rw [hc] at h
    unfold isCall at hc
    split at hc
    · rename_i x args ts ho
      obtain rfl := Option.some.inj hc
      exact xcall_ok hFT hCT hrec (ts := ts) (by simpa using ho) hg h
    · cases hc

end
end
end Go.Proofs.YtelgmdljcbkniaaDoor.Ai
