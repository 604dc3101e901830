/- An interpreter of values for the model's code, base text 37: code that was reckoned, and calls that are closed. -/
import Derived.Test.YtelgmdljcbkniaaDoorB36
namespace Go.Proofs.YtelgmdljcbkniaaDoor.Ai
noncomputable section
open Go
set_option linter.unusedVariables false

theorem LoopAt_mono {P : Program} {n m : Nat} {c : Code} {s : St} {Q Q' : Exit → St → Prop} (h : LoopAt P n m c s Q) (hq : ∀ e s, Q e s → ∃ s2, Weak n m s s2 ∧ Q' e s2) : LoopAt P n m c s Q' := by
  intro X r a w H b k cs hro hb hr
  obtain ⟨e, a', w', ⟨s1, q, H1⟩, harr⟩ := h X r a w H b k cs hro hb hr
  obtain ⟨s2, hw, q2⟩ := hq e s1 q
  exact ⟨e, a', w', ⟨s2, q2, hw _ _ _ _ H1⟩, harr⟩

theorem weak_mer {n m N : Nat} {env : Env} {t' : Sto} {bs b1 : List Blk} (hb : ∀ k, N ≤ k → bat b1 k = bat bs k) : Weak n m ⟨env, mer N t' b1⟩ ⟨env, mer N t' bs⟩ := Weak.bat fun k => by
  rw [bat_mer, bat_mer]
  split
  · rfl
  · exact hb k (by omega)
theorem mer_off (N : Nat) (t : Sto) (bs : List Blk) : ∀ k, N ≤ k → bat (mer N t bs) k = bat bs k := fun k hk => by rw [bat_mer, if_neg (by omega)]
theorem weak_same {n m N : Nat} {env : Env} {t : Sto} {bs : List Blk} (h : Agree N t bs) : Weak n m ⟨env, bs⟩ ⟨env, mer N t bs⟩ := Weak.bat fun k => by
  rw [bat_mer]
  split
  · rename_i hk; exact h k hk
  · rfl

section
variable {X : Cx} {FT : Nat → Option Func} {CT : Nat → Option (List AV → Option AV)} {fz : Bool} {rec : Nat → Code → XS → XR} (hFT : ∀ f fn, FT f = some fn → FnOk X.P f fn) (hCT : ∀ f C vs v, CT f = some C → C vs = some v → V X.P f vs v) (hrec : RecOk X.P rec)
include hFT hCT hrec

theorem xcode_ok {n : Nat} {c : Code} {s s' : XS} {e : Exit} (hok : okX n c = true) (h : xcode X FT CT fz rec n c s = .ok e s') : Snd X.P n c s e s' := by
  have idle : ∀ {c : Code} {e0 : Exit}, (∀ m (s : St) (Q : Exit → St → Prop), Q e0 s → T X.P n m c s Q) → (∀ c0, c ≠ .loop c0) → XR.ok e0 s = .ok e s' → Snd X.P n c s e s' := fun {c e0} hT hl h => by
    simp only [XR.ok.injEq] at h
    obtain ⟨rfl, rfl⟩ := h
    refine fun hg => ⟨.refl hg, fun N bsL m hN hA => ?_⟩
    have : T X.P n m c ⟨s.env.l, bsL⟩ fun e1 s1 => e1 = e0 ∧ s1 = ⟨s.env.l, mer N s.bs bsL⟩ := T_same (env' := s.env.l) (bs' := bsL) (hT m _ _ ⟨_, weak_same hA, rfl, rfl⟩)
    cases c <;> first | exact this | exact absurd rfl (hl _)
  cases c with
  | skip => exact idle (fun m s Q q => T_skip q) (fun _ h => by cases h) h
  | label l => exact idle (fun m s Q q => T_label q) (fun _ h => by cases h) h
  | exit i => exact idle (fun m s Q q => T_exit q) (fun _ h => by cases h) h
  | ret => exact idle (fun m s Q q => T_ret q) (fun _ h => by cases h) h
  | region id ops draw =>
    obtain ⟨env, bs, nb, wm⟩ := s
    simp only [okX, Bool.and_eq_true] at hok
    have hop : ops.toList.toArray = ops := by simp
    have fin : ∀ {N : Nat} {bsL bsR : List Blk} {env1 : Env} {envE : ET} {bs1 : Sto}, E2 env1 envE → (∀ k, bat bsR k = if k < N then look bs1 k else bat bsL k) → ∀ m, Weak n m ⟨env1, bsR⟩ ⟨envE.l, mer N bs1 bsL⟩ := fun {N bsL bsR env1 envE bs1} hE hR m => by
      have w1 : Weak n m ⟨env1, bsR⟩ ⟨env1, mer N bs1 bsL⟩ := Weak.bat fun k => by rw [hR, bat_mer]
      have w2 : Weak n m ⟨env1, mer N bs1 bsL⟩ ⟨envE.l, mer N bs1 bsL⟩ := Weak.env fun t v ht => by rw [hE t, ← ET.l_get]; exact ht
      exact fun X r a w H => w2 _ _ _ _ (w1 _ _ _ _ H)
    cases draw with
    | false =>
      replace h : SR.b (β := XR) (xseq X FT CT fz rec ops.toList ops.toList ⟨env, bs, nb, wm⟩ []) .no (fun s' _ => XR.ok .normal s') = .ok e s' := h
      obtain ⟨⟨env1, bs1, nb1, wm1⟩, acc, hs, h⟩ := SR.b_inv no_xr h
      simp only [XR.ok.injEq] at h
      obtain ⟨rfl, rfl⟩ := h
      intro hg
      obtain ⟨st, ps, hps, hD⟩ := xseq_dr hFT hCT hrec hok.1 hs hg
      refine ⟨st, fun N bsL m hN hA => ?_⟩
      obtain ⟨fs, vs, pss, bsR, envR, hER, hDr, hR, hF⟩ := hD N bsL env.l hN hA (E2.l env)
      show T X.P n m (.region id ops false) ⟨env.l, bsL⟩ _
      rw [← hop]
      exact T_same (env' := env.l) (bs' := bsL) (T_region (dr_run hDr) ⟨⟨env1.l, mer N bs1 bsL⟩, fin hER hR m, rfl, rfl⟩)
    | true =>
      replace h : SR.b (β := XR) (xseq X FT CT fz rec ops.toList ops.toList ⟨env, bs, nb, wm⟩ []) .no (fun s' acc => Bool.rec (motive := fun _ => XR) (bif' (ordN (masksF ops.toList []) ops.toList acc.reverse) .no (XR.ok .normal s')) (.ok .normal s') (allOrd (masksF ops.toList []) 0)) = .ok e s' := h
      obtain ⟨⟨env1, bs1, nb1, wm1⟩, acc, hs, h⟩ := SR.b_inv no_xr h
      have hh : (allOrd (masksF ops.toList []) 0 = true ∨ ordN (masksF ops.toList []) ops.toList acc.reverse = true) ∧ XR.ok .normal (⟨env1, bs1, nb1, wm1⟩ : XS) = .ok e s' := by
        cases ha : allOrd (masksF ops.toList []) 0 with
        | true => rw [ha] at h; exact ⟨.inl rfl, h⟩
        | false =>
          rw [ha] at h
          obtain ⟨h1, h2⟩ := bif_inv no_xr h
          exact ⟨.inr h1, h2⟩
      obtain ⟨hord, h⟩ := hh
      simp only [XR.ok.injEq] at h
      obtain ⟨rfl, rfl⟩ := h
      rw [masksF_eq] at hord
      intro hg
      obtain ⟨st, ps, hps, hD⟩ := xseq_dr hFT hCT hrec hok.1 hs hg
      refine ⟨st, fun N bsL m hN hA => ?_⟩
      obtain ⟨fs, vs, pss, bsR, envR, hER, hDr, hR, hF⟩ := hD N bsL env.l hN hA (E2.l env)
      show T X.P n m (.region id ops true) ⟨env.l, bsL⟩ _
      have hm : msOk (masks ops.toList []) ops.toList 0 = true := by simpa using hok.2
      rw [hps] at hord
      have hord2 : ordOk (masks ops.toList []) ops.toList fs 0 = true := ordN_ok (by rw [masks_len]; simp) hF (by simpa using hord)
      rw [← hop]
      exact T_drawn X.mix (masks ops.toList []) hm ⟨fs, vs, pss, ⟨envR, bsR⟩, hDr, by simpa using hord2, ⟨env1.l, mer N bs1 bsL⟩, fin hER hR m, rfl, rfl⟩
  | seq a b =>
    simp only [okX, Bool.and_eq_true] at hok
    replace h : XR.b (β := XR) (rec n a s) .no (fun e s' => Exit.rec (motive := fun _ => XR) (rec n b s') (fun i => .ok (.exit i) s') (fun l => .ok (.goto l) s') (.ok .ret s') (fun c => .ok (.panic c) s') (.ok .outgrown s') e) = .ok e s' := h
    obtain ⟨e1, s1, h1, h⟩ := XR.b_inv no_xr h
    intro hg
    obtain ⟨S1, T1⟩ := hrec _ _ _ _ _ hok.1 h1 hg
    have other : e1 ≠ .normal → XR.ok e1 s1 = .ok e s' → Stp s.bs s.nb s.wm s'.bs s'.nb s'.wm ∧ ∀ (N : Nat) (bsL : List Blk) (m : Nat), s'.nb ≤ N → Agree N s.bs bsL → T X.P n m (.seq a b) ⟨s.env.l, bsL⟩ fun e1 s1 => e1 = e ∧ s1 = ⟨s'.env.l, mer N s'.bs bsL⟩ := fun hne h => by
      simp only [XR.ok.injEq] at h
      obtain ⟨rfl, rfl⟩ := h
      refine ⟨S1, fun N bsL m hN hA => T_seq (T_mono (T1 N bsL m hN hA).toT fun e2 s2 ⟨q1, q2⟩ => ?_)⟩
      subst q1 q2
      cases e2 <;> first | exact absurd rfl hne | exact ⟨rfl, rfl⟩
    cases e1 with
    | normal =>
      obtain ⟨S2, T2⟩ := hrec _ _ _ _ _ hok.2 h S1.good
      refine ⟨S1.trans S2, fun N bsL m hN hA => T_seq (T_mono (T1 N bsL m (Nat.le_trans S2.nb hN) hA).toT fun e2 s2 ⟨q1, q2⟩ => ?_)⟩
      subst q1 q2
      exact T_mer (mer_off N _ _) (T2 N _ m hN (agree_mer N _ _)).toT
    | ret => exact other (by simp) h
    | exit i => exact other (by simp) h
    | goto l => exact other (by simp) h
    | panic ch => exact other (by simp) h
    | outgrown => exact other (by simp) h
  | cond c a b =>
    simp only [okX, Bool.and_eq_true] at hok
    replace h : (obind (evE s.env c) XR.no fun v => AV.sel (fun _ _ => .no) (fun t => Bool.rec (motive := fun _ => XR) (rec n b s) (rec n a s) t) (fun _ _ => .no) .no v) = .ok e s' := h
    obtain ⟨v, hv, h⟩ := obind_inv no_xr h
    rw [evE_eq] at hv
    intro hg
    cases v with
    | bool t =>
      cases t with
      | true =>
        obtain ⟨S1, T1⟩ := hrec _ _ _ _ _ hok.1 h hg
        exact ⟨S1, fun N bsL m hN hA => T_cond hv (fun _ => (T1 N bsL m hN hA).toT) (fun e => by cases e)⟩
      | false =>
        obtain ⟨S1, T1⟩ := hrec _ _ _ _ _ hok.2 h hg
        exact ⟨S1, fun N bsL m hN hA => T_cond hv (fun e => by cases e) (fun _ => (T1 N bsL m hN hA).toT)⟩
    | _ => cases (show XR.no = _ from h)
  | block i c =>
    simp only [okX] at hok
    replace h : XR.b (β := XR) (rec n c s) .no (fun e s' => match e with
      | .exit j => (match Nat.beq j i with
        | true => .ok .normal s'
        | false => .ok (.exit j) s')
      | e => .ok e s') = .ok e s' := h
    obtain ⟨e1, s1, h1, h⟩ := XR.b_inv no_xr h
    intro hg
    obtain ⟨S1, T1⟩ := hrec _ _ _ _ _ hok h1 hg
    have fin : s1 = s' → (∀ s2, s2 = (⟨s'.env.l, s2.bs⟩ : St) → inBlockT i (fun e2 s3 => e2 = e ∧ s3 = s2) e1 s2) → Stp s.bs s.nb s.wm s'.bs s'.nb s'.wm ∧ ∀ (N : Nat) (bsL : List Blk) (m : Nat), s'.nb ≤ N → Agree N s.bs bsL → T X.P n m (.block i c) ⟨s.env.l, bsL⟩ fun e1 s1 => e1 = e ∧ s1 = ⟨s'.env.l, mer N s'.bs bsL⟩ := fun hs hq => by
      subst hs
      refine ⟨S1, fun N bsL m hN hA => T_block (T_mono (T1 N bsL m hN hA).toT fun e2 s2 ⟨q1, q2⟩ => ?_)⟩
      subst q1 q2
      exact hq _ rfl
    cases e1 with
    | exit j =>
      simp only at h
      split at h
      · rename_i hb
        simp only [XR.ok.injEq] at h
        obtain ⟨rfl, rfl⟩ := h
        exact fin rfl fun s2 _ => by simp [inBlockT, hb]
      · rename_i hb
        simp only [XR.ok.injEq] at h
        obtain ⟨rfl, rfl⟩ := h
        exact fin rfl fun s2 _ => by simp [inBlockT, hb]
    | _ =>
      simp only [XR.ok.injEq] at h
      obtain ⟨rfl, rfl⟩ := h
      exact fin rfl fun s2 _ => ⟨rfl, rfl⟩
  | loop c =>
    simp only [okX] at hok
    replace h : XR.b (β := XR) (rec n c s) .no (fun e s' => Exit.rec (motive := fun _ => XR) (rec n (.loop c) s') (fun i => .ok (.exit i) s') (fun l => .ok (.goto l) s') (.ok .ret s') (fun c => .ok (.panic c) s') (.ok .outgrown s') e) = .ok e s' := h
    obtain ⟨e1, s1, h1, h⟩ := XR.b_inv no_xr h
    intro hg
    obtain ⟨S1, T1⟩ := hrec _ _ _ _ _ hok h1 hg
    have other : e1 ≠ .normal → XR.ok e1 s1 = .ok e s' → Stp s.bs s.nb s.wm s'.bs s'.nb s'.wm ∧ ∀ (N : Nat) (bsL : List Blk) (m : Nat), s'.nb ≤ N → Agree N s.bs bsL → LoopAt X.P n m c ⟨s.env.l, bsL⟩ fun e1 s1 => e1 = e ∧ s1 = ⟨s'.env.l, mer N s'.bs bsL⟩ := fun hne h => by
      simp only [XR.ok.injEq] at h
      obtain ⟨rfl, rfl⟩ := h
      refine ⟨S1, fun N bsL m hN hA => loop_round (T_mono (T1 N bsL m hN hA).toT fun e2 s2 ⟨q1, q2⟩ => ?_)⟩
      subst q1 q2
      cases e2 <;> first | exact absurd rfl hne | exact ⟨rfl, rfl⟩
    cases e1 with
    | normal =>
      obtain ⟨S2, T2⟩ := hrec _ _ _ _ _ (show okX n (.loop c) = true from hok) h S1.good
      refine ⟨S1.trans S2, fun N bsL m hN hA => loop_round (T_mono (T1 N bsL m (Nat.le_trans S2.nb hN) hA).toT fun e2 s2 ⟨q1, q2⟩ => ?_)⟩
      subst q1 q2
      refine (LoopAt_mono (T2 N (mer N s1.bs bsL) m hN (agree_mer N _ _)) fun e3 s3 ⟨q1, q2⟩ => ?_)
      subst q1 q2
      exact ⟨_, weak_mer (mer_off N _ _), rfl, rfl⟩
    | ret => exact other (by simp) h
    | exit i => exact other (by simp) h
    | goto l => exact other (by simp) h
    | panic ch => exact other (by simp) h
    | outgrown => exact other (by simp) h
  | rangeFunc g ps as cd =>
    simp only [okX, Bool.and_eq_true] at hok
    exact rangeX_ok hFT hrec hok.1 hok.2 h
  | scope c =>
    simp only [okX] at hok
    replace h : XR.b (β := XR) (rec n c s) .no (fun e s' => match e with
      | .goto _ => .no
      | e => .ok e s') = .ok e s' := h
    obtain ⟨e1, s1, h1, h⟩ := XR.b_inv no_xr h
    intro hg
    obtain ⟨S1, T1⟩ := hrec _ _ _ _ _ hok h1 hg
    cases e1 with
    | goto l => cases (show XR.no = _ from h)
    | _ =>
      simp only [XR.ok.injEq] at h
      obtain ⟨rfl, rfl⟩ := h
      exact ⟨S1, fun N bsL m hN hA => T_scope (T1 N bsL m hN hA).toT fun l s2 ⟨q1, _⟩ => by cases q1⟩
  | goto l => cases (show XR.no = _ from h)
  | refuse w => cases (show XR.no = _ from h)
end

theorem exec_ok {X : Cx} {FT : Nat → Option Func} {CT : Nat → Option (List AV → Option AV)} {fz : Bool} (hFT : ∀ f fn, FT f = some fn → FnOk X.P f fn) (hCT : ∀ f C vs v, CT f = some C → C vs = some v → V X.P f vs v) : ∀ f, RecOk X.P (exec X FT CT fz f)
  | 0 => fun n c s e s' _ h => by cases (show XR.no = XR.ok e s' from h)
  | f + 1 => fun n c s e s' hok h => xcode_ok hFT hCT (exec_ok hFT hCT f) hok h

theorem scal_r {G : Ghost} {Z : ZM} {v : AV} {cv : Value} (h : R G v cv) : scal v = true → RI Z v cv := by
  induction h with
  | imm v cv h => exact fun hs => scal_ri h hs
  | agg cs vs hl _ ih => exact fun hs => .agg cs vs hl fun j v cv e1 e2 => ih j v cv e1 e2 (scals_get (by simpa [scal] using hs) j v e1)
  | tup cs vs hl _ ih => exact fun hs => .tup cs vs hl fun j v cv e1 e2 => ih j v cv e1 e2 (scals_get (by simpa [scal] using hs) j v e1)
  | _ => intro hs; cases hs

/-- A call on values alone that hands back numbers. -/
theorem V_of_F {P : Program} {f : Nat} {args : List AV} {v : AV} {bs' : List Blk} (hF : F P f args [] v bs') (hs : scal v = true) : V P f args v := by
  refine ⟨hF.en, fun Z w cargs a u hg hz hr ⟨e1, e2⟩ => ?_⟩
  subst e1 e2
  let G : Ghost := ⟨fun _ => none, fun _ => none, Z, hg⟩
  have own : ∀ i c, ¬ G.owns i c := fun i c hi => by rcases hi with hi | ⟨g, hi, _⟩ <;> cases hi
  have hI : Inv G [] w := ⟨fun i b hb => by simp at hb, fun i _ => ⟨rfl, rfl⟩, fun i j c h1 => absurd h1 (own i c), hz⟩
  refine (hF.ok G w cargs a [] u bs' hI ⟨hr.1, fun j v c e1 e2 => .imm _ _ (hr.2 j v c e1 e2)⟩ ⟨rfl, rfl, rfl, rfl⟩).mono fun e w' ⟨cv, G', he, hA⟩ => ?_
  have hf : ∀ c, c < w.heap.size → w'.heap[c]? = w.heap[c]? := fun c hc => hA.ev.frame c hc fun i => own i c
  exact ⟨cv, Z, he, scal_r hA.r hs, hA.ev.os, hA.ev.tape, hA.ev.output, hA.ev.size, hf, .refl _, fun _ _ _ e => .inl e, fun c o x e => by rw [rd_of_frame (hf c (rd_lt (hz c o x e)))]; exact hz c o x e⟩

/-- A call that was reckoned; of the functions in CT a contract stands. -/
theorem V_run {X : Cx} {FT : FF} (hFT : FF.All X.P FT) {CT : Nat → Option (List AV → Option AV)} (hCT : ∀ f C vs v, CT f = some C → C vs = some v → V X.P f vs v) (fz : Bool) (fuel : Nat) {f : Nat} {vs : List AV} {v : AV} (hs : scal v = true)
    (h : ∃ bs nb w, callX X FT.get (exec X FT.get CT fz fuel) f vs .none 0 = .ok v bs nb w) : V X.P f vs v := by
  obtain ⟨bs1, nb1, w, h⟩ := h
  obtain ⟨_, hF⟩ := callX_ok (fun f fn e => hFT.get f fn e) (exec_ok (fun f fn e => hFT.get f fn e) hCT fuel) h ⟨fun k _ => look_none k, fun i n env ps as cd st pe e => by rw [look_none] at e; cases e⟩
  exact V_of_F (hF nb1 [] (Nat.le_refl _) fun k _ => by rw [look_none]; simp [bat]) hs
/-- The run told true. -/
def saysTrue (r : CR) : Bool := CR.b r false fun v _ _ _ => AV.sel (fun _ _ => false) (fun b => b) (fun _ _ => false) false v
theorem V_true {X : Cx} {FT : FF} (hFT : FF.All X.P FT) {CT : Nat → Option (List AV → Option AV)} (hCT : ∀ f C vs v, CT f = some C → C vs = some v → V X.P f vs v) (fz : Bool) (fuel : Nat) {f : Nat} {vs : List AV}
    (h : saysTrue (callX X FT.get (exec X FT.get CT fz fuel) f vs .none 0) = true) : V X.P f vs (.bool true) := by
  refine V_run hFT hCT fz fuel rfl ?_
  revert h
  generalize callX X FT.get (exec X FT.get CT fz fuel) f vs .none 0 = r
  intro h
  cases r with
  | no => cases h
  | ok v bs nb w =>
    cases v with
    | bool b => cases b with
      | true => exact ⟨bs, nb, w, rfl⟩
      | false => cases h
    | _ => cases h

end
end Go.Proofs.YtelgmdljcbkniaaDoor.Ai
