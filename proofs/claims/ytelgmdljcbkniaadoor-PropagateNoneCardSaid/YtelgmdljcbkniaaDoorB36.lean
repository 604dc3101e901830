/- An interpreter of values for the model's code, base text 36: a run of code that was reckoned is so. -/
import Derived.Test.YtelgmdljcbkniaaDoorB35
namespace Go.Proofs.YtelgmdljcbkniaaDoor.Ai
noncomputable section
open Go
set_option linter.unusedVariables false

/-- A list of slots that tells what the tree tells. -/
def E2 (env : Env) (e : ET) : Prop := ∀ t, Env.get env t = e.get t
theorem E2.l (e : ET) : E2 e.l e := ET.l_get e
theorem E2.ev {env : Env} {e : ET} (h : E2 env e) (x : Operand) : ev env x = Ai.ev e.l x := by
  cases x with
  | tmp t => exact (h t).trans (ET.l_get e t).symm
  | _ => rfl

theorem no_sr {s : XS} {a : List Mp} : SR.no ≠ SR.ok s a := fun h => by cases h
theorem no_xr {e : Exit} {s : XS} : XR.no ≠ XR.ok e s := fun h => by cases h

theorem putT_ok {β : SR} (hne : SR.no ≠ β) {d : Option Nat} {v : AV} {e : ET} {K : ET → SR} (h : putT d v e .no K = β) : ∃ e1, K e1 = β ∧ ∀ env0, E2 env0 e → E2 (putE env0 d v) e1 := by
  cases d with
  | none => exact ⟨e, h, fun env0 h => h⟩
  | some d =>
    replace h : ET.setK d v e .no K = β := h
    obtain ⟨hd, h⟩ := setE_inv hne h
    refine ⟨_, h, fun env0 h0 t => ?_⟩
    show Env.get ((d, v) :: env0) t = _
    rw [Env.get_cons, ET.get_set hd, h0 t]

def SeqOk (X : Cx) (n : Nat) (all l : List Oper) (env : ET) (bs : Sto) (nb wm : Nat) (acc acc' : List Mp) (env' : ET) (bs' : Sto) (nb' wm' : Nat) : Prop :=
  Stp bs nb wm bs' nb' wm' ∧ ∃ ps : List Mp, acc' = ps.reverse ++ acc ∧ ∀ (N : Nat) (bsL : List Blk) (env0 : Env), nb' ≤ N → Agree N bs bsL → E2 env0 env →
      ∃ fs vs pss bsR env1, E2 env1 env' ∧ Dr X.P n all.toArray l env0 bsL fs vs pss env1 bsR ∧ (∀ k, bat bsR k = if k < N then look bs' k else bat bsL k) ∧ FpsM fs ps

section
variable {X : Cx} {FT : Nat → Option Func} {CT : Nat → Option (List AV → Option AV)} {fz : Bool} {rec : Nat → Code → XS → XR} (hFT : ∀ f fn, FT f = some fn → FnOk X.P f fn) (hCT : ∀ f C vs v, CT f = some C → C vs = some v → V X.P f vs v) (hrec : RecOk X.P rec)
include hFT hCT hrec

theorem xseq_dr {n : Nat} {all : List Oper} : ∀ {l : List Oper} {env : ET} {bs : Sto} {nb wm : Nat} {acc acc' : List Mp} {env' : ET} {bs' : Sto} {nb' wm' : Nat}, dstOk n l = true → xseq X FT CT fz rec all l ⟨env, bs, nb, wm⟩ acc = .ok ⟨env', bs', nb', wm'⟩ acc' → GoodB bs nb → SeqOk X n all l env bs nb wm acc acc' env' bs' nb' wm'
  | [], env, bs, nb, wm, acc, acc', env', bs', nb', wm', _, h, hg => by
    have h : SR.ok (⟨env, bs, nb, wm⟩ : XS) acc = .ok ⟨env', bs', nb', wm'⟩ acc' := h
    simp only [SR.ok.injEq, XS.mk.injEq] at h
    obtain ⟨⟨rfl, rfl, rfl, rfl⟩, rfl⟩ := h
    refine ⟨.refl hg, [], rfl, fun N bsL env0 hN hA hE => ⟨[], [], [], bsL, env0, hE, .nil _ _, fun k => ?_, .nil⟩⟩
    split
    · rename_i hk; exact hA k hk
    · rfl
  | o :: r, env, bs, nb, wm, acc, acc', env', bs', nb', wm', hd, h, hg => by
    have hdst := dstOk_get hd o (by simp)
    have hd' : dstOk n r = true := by simp only [dstOk, Bool.and_eq_true] at hd; exact hd.2
    have hput : ∀ (env : Env) (b : List Blk) v, (St.put ⟨env, b⟩ o.dst v).env = putE env o.dst v := fun env b v => by cases o.dst <;> rfl
    have run : ∀ gs : List Nat, (match o.guard with
        | none => True
        | some (j, want) => ∃ d, ((all.toArray[j]?).bind (·.dst)) = some d ∧ env.get d = some (.bool want) ∧ d ∈ gs) →
        xgo X FT CT fz rec o gs (xseq X FT CT fz rec all r) ⟨env, bs, nb, wm⟩ acc = .ok ⟨env', bs', nb', wm'⟩ acc' → SeqOk X n all (o :: r) env bs nb wm acc acc' env' bs' nb' wm' := fun gs hgu h => by
      replace h : (OR.b (xone X FT CT rec o.op env bs nb wm) SR.no fun v bs1 nb1 wm1 rm w => fVz fz v fun v => putT o.dst v env .no fun env1 => xseq X FT CT fz rec all r ⟨env1, bs1, nb1, wm1⟩ (⟨gs ++ slotsOf o.op.operands.toList, rm, w⟩ :: acc)) = .ok ⟨env', bs', nb', wm'⟩ acc' := h
      obtain ⟨v, bs1, nb1, wm1, rm, w, hx, h⟩ := OR.b_inv h
      rw [fVz_eq] at h
      obtain ⟨env1, h, hE1⟩ := putT_ok no_sr h
      obtain ⟨pre, post, ho⟩ := xone_ok hFT hCT hrec hg hx
      obtain ⟨s2, ps, hps, hD⟩ := xseq_dr hd' h ho.stp.good
      refine ⟨ho.stp.trans s2, ⟨gs ++ slotsOf o.op.operands.toList, rm, w⟩ :: ps, by rw [hps]; simp, fun N bsL env0 hN hA hE => ?_⟩
      obtain ⟨a1, a2⟩ := ho.agr N bsL (Nat.le_trans s2.nb hN) hA
      obtain ⟨fs, vs, pss, bsR, envR, hER, hDr, hR, hF⟩ := hD N (upd bsL post) (putE env0 o.dst v) hN (fun k hk => by rw [a2, if_pos hk]) (hE1 env0 hE)
      refine ⟨_, _, _, bsR, envR, hER, .op o r env0 bsL (env0.keep (slotsOf o.op.operands.toList)) pre post v (gs ++ slotsOf o.op.operands.toList) fs vs pss envR bsR (fun t u ht => ?_) (has_iff.1 a1) ?_ hdst ho.sub
        (fun bs0 hb => ho.op _ bs0 (fun x hx => (ev_keep x hx).trans (hE.ev x)) (has_iff.2 hb)) (by rw [hput]; exact hDr), fun k => ?_, .cons ⟨rfl, ho.rm, ho.w⟩ hF⟩
      · obtain ⟨h1, h2⟩ := keep_mem _ t u ht
        exact ⟨h1, List.mem_append.2 (.inr h2)⟩
      · split
        · trivial
        · rename_i j want e0
          rw [e0] at hgu
          obtain ⟨d, g1, g2, g3⟩ := hgu
          exact ⟨d, g1, (hE d).trans g2, List.mem_append.2 (.inl g3)⟩
      · rw [hR, a2]
        split <;> rfl
    have skip : ∀ (d j : Nat) (want : Bool), o.guard = some (j, want) → ((all.toArray[j]?).bind (·.dst)) = some d → (env.get d = some (.bool !want) ∨ env.get d = some (.tup [])) →
        xskip o d (xseq X FT CT fz rec all r) ⟨env, bs, nb, wm⟩ acc = .ok ⟨env', bs', nb', wm'⟩ acc' → SeqOk X n all (o :: r) env bs nb wm acc acc' env' bs' nb' wm' := fun d j want hgu hj he h => by
      replace h : (putT o.dst (.tup []) env SR.no fun env1 => xseq X FT CT fz rec all r ⟨env1, bs, nb, wm⟩ (⟨[d], 0, 0⟩ :: acc)) = .ok ⟨env', bs', nb', wm'⟩ acc' := h
      obtain ⟨env1, h, hE1⟩ := putT_ok no_sr h
      obtain ⟨s2, ps, hps, hD⟩ := xseq_dr hd' h hg
      refine ⟨s2, ⟨[d], 0, 0⟩ :: ps, by rw [hps]; simp, fun N bsL env0 hN hA hE => ?_⟩
      obtain ⟨fs, vs, pss, bsR, envR, hER, hDr, hR, hF⟩ := hD N bsL (putE env0 o.dst (.tup [])) hN hA (hE1 env0 hE)
      exact ⟨_, _, _, bsR, envR, hER, .skip o r env0 bsL [d] fs vs pss envR bsR (by rw [hgu]; exact ⟨d, hj, he.imp (hE d).trans (hE d).trans, by simp⟩) hdst (by rw [hput]; exact hDr), hR, .cons ⟨rfl, by simp, by simp⟩ hF⟩
    replace h : xstp X FT CT fz rec all o (xseq X FT CT fz rec all r) ⟨env, bs, nb, wm⟩ acc = .ok ⟨env', bs', nb', wm'⟩ acc' := h
    unfold xstp at h
    cases hgd : o.guard with
    | none =>
      rw [hgd] at h run
      exact run [] trivial h
    | some p =>
      obtain ⟨j, want⟩ := p
      rw [hgd] at h
      replace h : xguard X FT CT fz rec all o j want (xseq X FT CT fz rec all r) ⟨env, bs, nb, wm⟩ acc = .ok ⟨env', bs', nb', wm'⟩ acc' := h
      unfold xguard at h
      replace h := obind_inv no_sr h; obtain ⟨oj, hj0, h⟩ := h
      replace h := obind_inv no_sr h; obtain ⟨d, hj1, h⟩ := h
      replace h := obind_inv no_sr h; obtain ⟨g, hgd2, h⟩ := h
      rw [nthOp_eq] at hj0
      have hj' : ((all.toArray[j]?).bind (·.dst)) = some d := by simp [hj0, hj1]
      split at h
      · rename_i b
        split at h
        · rename_i hb
          have hb : b = want := by simpa using hb
          subst hb
          rw [hgd] at run
          exact run [d] ⟨d, hj', hgd2, by simp⟩ h
        · rename_i hb
          have hb : b = !want := by cases b <;> cases want <;> simp_all
          subst hb
          exact skip d j want hgd hj' (.inl hgd2) h
      · exact skip d j want hgd hj' (.inr hgd2) h
      · cases h

omit hCT in
theorem rangeX_ok {n : Nat} {g : Operand} {ps : Array Tmp} {as cd : Code} {s s' : XS} {e : Exit} (h1 : okX n as = true) (h2 : okX n cd = true) (h : rangeX X FT rec n g ps as cd s = .ok e s') : Snd X.P n (.rangeFunc g ps as cd) s e s' := by
  obtain ⟨env, bs, nb, wm⟩ := s
  intro hg
  have hg : GoodB bs nb := hg
  replace h : (obind (evE env g) XR.no fun fv => match fv with
    | .fn f cap => bs.setK nb (.lp n env ps as cd .ready none) .no fun bs1 => fN (Nat.succ nb) fun nb1 => CR.b (callX X FT rec f (.yld nb :: cap) bs1 nb1) .no fun v bs2 nb2 w => match lookF bs2 nb with
        | .lp _ _ _ _ _ st pe => (match st with
          | .busy => .no
          | _ => bs2.setK nb (.lp n env ps as cd .exhausted pe) .no fun bs3 => fN (morM (bitOf nb) (morM wm w)) fun wm' => match pe with
            | none => .ok .normal ⟨env, bs3, nb2, wm'⟩
            | some .ret => .ok .ret ⟨env, bs3, nb2, wm'⟩
            | some (.exit id) => .ok (.exit id) ⟨env, bs3, nb2, wm'⟩
            | _ => .no)
        | _ => .no
    | _ => .no) = .ok e s' := h
  replace h := obind_inv no_xr h; obtain ⟨fv, hfv, h⟩ := h
  rw [evE_eq] at hfv
  split at h
  · rename_i f cap
    replace h := setK_inv no_xr h; obtain ⟨h65, h⟩ := h
    rw [fN_eq] at h
    generalize hbs1 : bs.set nb (.lp n env ps as cd .ready none) = bs1 at h
    have hs1 : ∀ k, look bs1 k = if nb = k then .lp n env.l ps as cd .ready none else look bs k := fun k => by rw [← hbs1, look_set h65]; rfl
    replace h := CR.b_inv no_xr h; obtain ⟨v, bs2, nb2, w, hc, h⟩ := h
    have g0 : GoodB bs (nb + 1) := ⟨fun k hk => hg.1 k (by omega), hg.2⟩
    have g1 : GoodB bs1 (nb + 1) := hbs1 ▸ good_set g0 (by omega) h65 h1 h2
    obtain ⟨S1, hF⟩ := callX_ok hFT hrec hc g1
    have hn : nb + 1 ≤ nb2 := S1.nb
    obtain ⟨st2, pe2, hl2⟩ := S1.lp nb n env.l ps as cd .ready none (by rw [hs1, if_pos rfl])
    split at h
    · rename_i n' env' ps' as' cd' st pe hl
      have hl3 : look bs2 nb = .lp n' env'.l ps' as' cd' st pe := by unfold look; rw [hl]; rfl
      rw [hl2] at hl3
      injection hl3 with e1 e2 e3 e4 e5 e6 e7
      subst e6 e7
      have fin : st2 ≠ .busy → ∀ {bs3 : Sto} {e' : Exit}, bs2.set nb (.lp n env ps as cd .exhausted pe2) = bs3 → (∀ (m : Nat) (s : St) Q, Q e' s → rangeEnd X.P n m pe2 s Q) → e = e' → s' = ⟨env, bs3, nb2, morM (bitOf nb) (morM wm w)⟩ →
          Stp bs nb wm s'.bs s'.nb s'.wm ∧ ∀ (N : Nat) (bsL : List Blk) (m : Nat), s'.nb ≤ N → Agree N bs bsL → T X.P n m (.rangeFunc g ps as cd) ⟨env.l, bsL⟩ fun e1 s1 => e1 = e ∧ s1 = ⟨s'.env.l, mer N s'.bs bsL⟩ := fun hst {bs3 e'} hbs3 hend he hs' => by
        have hs3 : ∀ k, look bs3 k = if nb = k then .lp n env.l ps as cd .exhausted pe2 else look bs2 k := fun k => by rw [← hbs3, look_set h65]; rfl
        subst he hs'
        have g3 : GoodB bs3 nb2 := hbs3 ▸ good_set S1.good (by omega) h65 h1 h2
        refine ⟨⟨g3, by show nb ≤ nb2; omega, fun k hk => ?_, fun k hk => ?_, fun j n' env' ps' as' cd' st' pe' hj => ?_, fun k hk => ?_⟩, fun N bsL m hN hA => ?_⟩
        · rw [morM_test, morM_test, hk]; simp
        · rw [morM_test, morM_test, bitOf_test, Bool.or_eq_false_iff, Bool.or_eq_false_iff] at hk
          have hne : ¬ nb = k := of_decide_eq_false hk.1
          show look bs3 k = look bs k
          rw [hs3, if_neg hne, S1.same k hk.2.2, hs1, if_neg hne]
        · have hne : ¬ nb = j := fun e0 => by subst e0; rw [hg.1 _ (Nat.le_refl _)] at hj; cases hj
          obtain ⟨st1, pe1, hj1⟩ := S1.lp j n' env' ps' as' cd' st' pe' (by rw [hs1, if_neg hne]; exact hj)
          exact ⟨st1, pe1, by show look bs3 j = _; rw [hs3, if_neg hne]; exact hj1⟩
        · rw [morM_test, morM_test, bitOf_test, Bool.or_eq_true, Bool.or_eq_true] at hk
          rcases hk with hk | hk | hk
          · have := of_decide_eq_true hk
            exact .inr (by show k < nb2; omega)
          · exact .inl hk
          · rcases S1.bound k hk with hk | hk
            · rw [Nat.zero_testBit] at hk; cases hk
            · exact .inr hk
        · have hN : nb2 ≤ N := hN
          have hnN : nb < N := by omega
          have hA1 : Agree N bs1 (bset bsL nb (.lp n env.l ps as cd .ready none)) := fun k hk => by
            rw [bat_bset, hs1]
            by_cases e0 : nb = k
            · rw [if_pos e0, if_pos e0]
            · rw [if_neg e0, if_neg e0]; exact hA k hk
          refine T_same (env' := env.l) (bs' := bsL) (T_range (k := nb) (bs2 := mer N bs2 (bset bsL nb (.lp n env.l ps as cd .ready none))) (v := v) (st := st2) (pe := pe2) hfv (by rw [hA nb hnN]; exact hg.1 nb (Nat.le_refl _)) (hF N _ hN hA1) (by rw [bat_mer, if_pos hnN]; exact hl2) hst (hend m _ _ ⟨⟨env.l, mer N bs3 bsL⟩, Weak.bat fun k => ?_, rfl, rfl⟩))
          · rw [bat_bset, bat_mer, bat_mer N bs3 bsL, hs3]
            by_cases hk : nb = k
            · subst hk; rw [if_pos rfl, if_pos hnN, if_pos rfl]
            · rw [if_neg hk, if_neg hk]
              split
              · rfl
              · rw [bat_bset, if_neg hk]
      have four : st2 ≠ .busy → (bs2.setK nb (.lp n env ps as cd .exhausted pe2) .no fun bs3 => fN (morM (bitOf nb) (morM wm w)) fun wm' => match pe2 with
            | none => XR.ok Exit.normal (⟨env, bs3, nb2, wm'⟩ : XS)
            | some .ret => .ok .ret ⟨env, bs3, nb2, wm'⟩
            | some (.exit id) => .ok (.exit id) ⟨env, bs3, nb2, wm'⟩
            | _ => .no) = .ok e s' → Stp bs nb wm s'.bs s'.nb s'.wm ∧ ∀ (N : Nat) (bsL : List Blk) (m : Nat), s'.nb ≤ N → Agree N bs bsL → T X.P n m (.rangeFunc g ps as cd) ⟨env.l, bsL⟩ fun e1 s1 => e1 = e ∧ s1 = ⟨s'.env.l, mer N s'.bs bsL⟩ := fun hst h => by
        replace h := setK_inv no_xr h; obtain ⟨_, h⟩ := h
        rw [fN_eq] at h
        split at h
        · simp only [XR.ok.injEq] at h
          exact fin hst rfl (fun m s Q q => q) h.1.symm h.2.symm
        · simp only [XR.ok.injEq] at h
          exact fin hst rfl (fun m s Q q => T_ret q) h.1.symm h.2.symm
        · simp only [XR.ok.injEq] at h
          exact fin hst rfl (fun m s Q q => T_exit q) h.1.symm h.2.symm
        · cases h
      split at h
      · cases h
      · rename_i hne
        exact four (fun e => hne e) h
    · cases h
  · cases h

end
end
end Go.Proofs.YtelgmdljcbkniaaDoor.Ai
