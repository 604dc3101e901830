/- An interpreter of values for the model's code, base text 28: parts of slices; slices made with room; calls over the caller's own store. -/
import Derived.Test.YtelgmdljcbkniaaDoorB27
namespace Go.Proofs.YtelgmdljcbkniaaDoor.Ai
noncomputable section
open Go
set_option linter.unusedVariables false

/-! ### parts of slices -/

/-- A bound: the operand's value, or what it is when there is none. -/
inductive Bnd (ov : Option Value) (d n : Nat) : Prop where
  | none (h : ov = none) (hn : n = d)
  | some (k : IntKind) (h : ov = some (.int k (n : Int)))

theorem run_sliceBound {P : Program} {w : World} (k : IntKind) (n y : Nat) (code : BoundsCode) (h : n ≤ y) : (Instr.sliceBound (.int k (n : Int)) y code).run P w = .ok n w := by
  unfold Instr.sliceBound
  have h1 : (0 : Int) ≤ (n : Int) ∧ (n : Int) ≤ (y : Int) := by omega
  simp [asIntOf, h1]

theorem run_slice {P : Program} {w : World} {t e : TypeId} {size bytes : Nat} {z : Value} {d : TypeDesc} (ht : P.underlying t = some (.slice e)) (he : Inf P e size bytes z d) (b : Option Addr) {len cap l h m : Nat} {lo hi mx : Option Value}
    (hl : Bnd lo 0 l) (hh : Bnd hi len h) (hm : Bnd mx cap m) (hx : hi = none → mx = none) (h1 : l ≤ h) (h2 : h ≤ m) (h3 : m ≤ cap) :
    (Instr.slice t (.slice b len cap) lo hi mx).run P w = .ok (.slice (if m = l then b else b.map (·.add (l * size))) (h - l) (m - l)) w := by
  have hb : (Instr.sliceBounds true len cap lo hi mx).run P w = .ok (l, h, m) w := by
    unfold Instr.sliceBounds
    cases hm with
    | none e1 e2 =>
      subst e1 e2
      cases hh with
      | none f1 f2 =>
        subst f1 f2
        cases hl with
        | none g1 g2 => subst g1 g2; simp
        | some k g => subst g; simp [run_sliceBound k l h _ h1]
      | some k f =>
        subst f
        cases hl with
        | none g1 g2 => subst g1 g2; simp [run_sliceBound k h m _ h2]
        | some k' g => subst g; simp [run_sliceBound k h m _ h2, run_sliceBound k' l h _ h1]
    | some k0 e0 =>
      subst e0
      cases hh with
      | none f1 f2 => have := hx f1; cases this
      | some k f =>
        subst f
        cases hl with
        | none g1 g2 => subst g1 g2; simp [run_sliceBound k0 m cap _ h3, run_sliceBound k h m _ h2]
        | some k' g => subst g; simp [run_sliceBound k0 m cap _ h3, run_sliceBound k h m _ h2, run_sliceBound k' l h _ h1]
  unfold Instr.slice
  simp [run_underlying ht, hb, he.size]

theorem slice_base {G : Ghost} {bs : List Blk} {w : World} (hI : Inv G bs w) {v : AV} {xs : List AV} {cap : Option Nat} {b : Option Addr} {n c : Nat} (h : elems (bat bs) v = some (xs, cap)) (hr : R G v (.slice b n c)) : c = 0 ∨ ∃ c0 o0, b = some ⟨c0, o0, none⟩ := by
  unfold elems at h
  split at h
  · cases hr with
    | imm _ _ h => cases h; exact .inl rfl
  · cases hr with
    | imm _ _ h =>
      cases h with
      | nilslice => exact .inl rfl
      | lst => exact .inr ⟨_, _, rfl⟩
  · cases hr with
    | imm _ _ h =>
      cases h with
      | nilslice => exact .inl rfl
      | lst => exact .inr ⟨_, _, rfl⟩
  · rename_i i m
    split at h
    · rename_i e sz' ys hb
      split at h
      · rename_i hn
        obtain ⟨g, hg, h1, hv⟩ := hr.gsl_own hI hb (Nat.eq_of_beq_eq_true hn)
        have hB := hI.batOk i
        rw [hb] at hB
        obtain ⟨_, _, _, cs, hown, _⟩ := hB.2 g hg
        rcases hown.2 with ⟨hv0, h0⟩ | ⟨g1, cap', cur, hv0, _⟩
        · rw [hv0] at hv; injection hv with _ _ e3; exact .inl e3
        · rw [hv0] at hv; injection hv with e1 _ _; exact .inr ⟨_, _, e1⟩
      · cases h
    · rename_i e sz' ys hb
      split at h
      · rename_i hn
        have := hr.gsl_at hI hb (Nat.eq_of_beq_eq_true hn)
        cases this with
        | imm _ _ h =>
          cases h with
          | nilslice => exact .inl rfl
          | lst => exact .inr ⟨_, _, rfl⟩
      · cases h
    · cases h
  · obtain ⟨c1, ccap, hc, hl, hcp, e⟩ := hr.slc_inv
    injection e with e1 _ _; exact .inr ⟨_, _, e1⟩
  · rename_i i m o z len cp
    split at h
    · rename_i e sz' ys hb
      split at h
      · rename_i hn
        simp only [Bool.and_eq_true] at hn
        obtain ⟨c1, l, lcap, ccap, hg, hl, hcp, e⟩ := hr.oslc_inv hI hb (Nat.eq_of_beq_eq_true hn.1.1)
        injection e with e1 _ _; exact .inr ⟨_, _, e1⟩
      · cases h
    · cases h
  · cases h

/-- The part [l:h:m] of a slice. -/
def cutAV (look : Nat → Blk) (v : AV) (xs : List AV) (cap : Option Nat) (l h : Nat) (mo : Option Nat) : Option AV :=
  match Nat.ble h l with
  | true => match mo, cap with
    | some m, _ => some (.lst (Nat.beq m l) [])
    | none, some c => some (.lst (Nat.beq c l) [])
    | none, none => some (.lst false [])
  | false => match v with
    | .lst ex _ => some (.lst (match mo with | some m => Nat.beq m h | none => ex && Nat.beq h xs.length) ((xs.drop l).take (h - l)))
    | .gsl i n => match look i with
      | .own _ sz _ => match Nat.beq l 0 && Nat.beq h n && mo.isNone with
        | true => some (.gsl i n)
        | false => some (.oslc i n l sz (h - l) (mo.map fun m => m - l))
      | _ => none
    | .slc i o sz _ cp => some (.slc i (o + l) sz (h - l) (match mo with | some m => some (m - l) | none => cp.map fun c => c - l))
    | .oslc i n o sz _ cp => some (.oslc i n (o + l) sz (h - l) (match mo with | some m => some (m - l) | none => cp.map fun c => c - l))
    | _ => none

theorem cut_ok {G : Ghost} {bs : List Blk} {w : World} (hI : Inv G bs w) {size : Nat} {v r : AV} {xs : List AV} {cap mo : Option Nat} {b : Option Addr} {c l h m : Nat} (hs0 : 0 < size) (he : elems (bat bs) v = some (xs, cap)) (hsz : Sized size xs) (hr : R G v (.slice b xs.length c))
    (hcap : ∀ k, cap = some k → c = k) (hm : (mo = none ∧ m = c) ∨ mo = some m) (h1 : l ≤ h) (h2 : h ≤ m) (h3 : m ≤ c) (h4 : h ≤ xs.length) (hc : cutAV (bat bs) v xs cap l h mo = some r) :
    R G r (.slice (if m = l then b else b.map (·.add (l * size))) (h - l) (m - l)) := by
  have empty : ∀ ex, h ≤ l → (ex = true → m = l) → R G (.lst ex []) (.slice (if m = l then b else b.map (·.add (l * size))) (h - l) (m - l)) := fun ex hle hex => by
    have e0 : h - l = 0 := by omega
    rw [e0]
    by_cases hml : m = l
    · have : m - l = 0 := by omega
      rw [this]
      exact .imm _ _ (.nilslice ex _)
    · rw [if_neg hml]
      have hex' : ex = false := by cases ex with | false => rfl | true => exact absurd (hex rfl) hml
      subst hex'
      rcases slice_base hI he hr with hc0 | ⟨c0, o0, rfl⟩
      · omega
      · simp only [Option.map_some, addr_add]
        exact .imm _ _ (.lst false [] size c0 (o0 + l * size) (m - l) (by simp) (by simp) (by simp) (Nat.zero_le _) (by simp))
  unfold cutAV at hc
  split at hc
  · rename_i hle
    have hle := Nat.le_of_ble_eq_true hle
    split at hc
    · rename_i m'
      obtain rfl := Option.some.inj hc
      rcases hm with ⟨e, _⟩ | e
      · cases e
      · obtain rfl := Option.some.inj e
        exact empty _ hle fun h => Nat.eq_of_beq_eq_true h
    · rename_i k
      obtain rfl := Option.some.inj hc
      rcases hm with ⟨_, e⟩ | e
      · exact empty _ hle fun h => by rw [e, hcap _ rfl]; exact Nat.eq_of_beq_eq_true h
      · cases e
    · obtain rfl := Option.some.inj hc
      exact empty _ hle (by simp)
  · rename_i hle
    have hlt : l < h := by
      rcases Nat.lt_or_ge l h with h' | h'
      · exact h'
      · rw [Nat.ble_eq_true_of_le h'] at hle; cases hle
    have hml : ¬ m = l := by omega
    rw [if_neg hml]
    have hxl : xs ≠ [] := fun e => by rw [e] at h4; simp at h4; omega
    have sub : ∀ ex ex', R G (.lst ex xs) (.slice b xs.length c) → (ex' = true → m = h) → R G (.lst ex' ((xs.drop l).take (h - l))) (.slice (b.map (·.add (l * size))) (h - l) (m - l)) := fun ex ex' hr hex => by
      cases hr with
      | imm _ _ hr =>
        cases hr with
        | nilslice => exact absurd rfl hxl
        | lst _ _ sz c0 o0 _ hel hz hd hcp hx =>
          have hss : sz = size := by
            have h0 : xs[0]? = some (xs[0]'(by omega)) := List.getElem?_eq_getElem _
            rw [← hel 0 _ h0]; exact (sized_get hsz 0 _ h0).1
          subst hss
          simp only [Option.map_some, addr_add]
          have hlen : ((xs.drop l).take (h - l)).length = h - l := by simp; omega
          have get : ∀ (j : Nat) (x : AV), ((xs.drop l).take (h - l))[j]? = some x → xs[l + j]? = some x := fun j x e => by
            rw [List.getElem?_take] at e
            split at e
            · rwa [List.getElem?_drop] at e
            · cases e
          have := RI.lst (Z := G.Z) ex' ((xs.drop l).take (h - l)) sz c0 (o0 + l * sz) (m - l) (fun j x e => hel _ x (get j x e)) (fun j x q v cv e1 e2 e3 => hz _ x q v cv (get j x e1) e2 (by rw [Nat.add_mul]; rw [show o0 + l * sz + j * sz + q = o0 + (l * sz + j * sz) + q by omega] at e3; exact e3))
            (fun j q hj hq => by
              rw [hlen] at hj
              obtain ⟨cv, e⟩ := hd (l + j) q (by omega) hq
              exact ⟨cv, by rw [show o0 + l * sz + j * sz + q = o0 + (l + j) * sz + q by rw [Nat.add_mul]; omega]; exact e⟩) (by rw [hlen]; omega) (fun e => by rw [hlen]; have := hex e; omega)
          rw [hlen] at this
          exact .imm _ _ this
    split at hc
    · rename_i ex ys
      have hxs : ys = xs := by
        cases ex <;> (simp only [elems, Option.some.injEq, Prod.mk.injEq] at he; exact he.1)
      subst hxs
      obtain rfl := Option.some.inj hc
      refine sub ex _ hr fun e => ?_
      split at e
      · rename_i m'
        rcases hm with ⟨e', _⟩ | e'
        · cases e'
        · obtain rfl := Option.some.inj e'; exact Nat.eq_of_beq_eq_true e
      · simp only [Bool.and_eq_true] at e
        obtain ⟨e1, e2⟩ := e
        subst e1
        rcases hm with ⟨_, e'⟩ | e'
        · simp only [elems, Option.some.injEq, Prod.mk.injEq] at he
          rw [e', hcap _ he.2.symm]; exact (Nat.eq_of_beq_eq_true e2).symm
        · cases e'
    · rename_i i n
      simp only [elems] at he
      split at hc
      · rename_i e sz ys hb
        rw [hb] at he
        simp only at he
        split at he
        · rename_i hn
          have hn := Nat.eq_of_beq_eq_true hn
          obtain ⟨rfl, _⟩ := Prod.mk.inj (Option.some.inj he)
          obtain ⟨g, hg, hgn, hv⟩ := hr.gsl_own hI hb hn
          have hB := hI.batOk i
          rw [hb] at hB
          obtain ⟨_, _, hcl, cs, hown, _⟩ := hB.2 g hg
          rcases hown.2 with ⟨hv0, h0⟩ | ⟨g1, cap', cur, hv0, _⟩
          · omega
          · rw [hv0] at hv
            injection hv with e1 e2 e3
            subst e1 e3
            split at hc
            · rename_i hfull
              obtain rfl := Option.some.inj hc
              simp only [Bool.and_eq_true] at hfull
              obtain ⟨⟨f1, f2⟩, f3⟩ := hfull
              have f1 := Nat.eq_of_beq_eq_true f1
              have f2 := Nat.eq_of_beq_eq_true f2
              subst f1 f2
              rcases hm with ⟨_, e'⟩ | e'
              · subst e'
                simp only [Option.map_some, addr_add, Nat.zero_mul, Nat.sub_zero, Nat.add_zero]
                rw [hn]
                exact hn ▸ hr
              · rw [e'] at f3; cases f3
            · obtain rfl := Option.some.inj hc
              have hss : sz = size := by
                have h0 : ys[0]? = some (ys[0]'(by omega)) := List.getElem?_eq_getElem _
                rw [← hcl 0 _ h0]; exact (sized_get hsz 0 _ h0).1
              subst hss
              simp only [Option.map_some, addr_add, Nat.zero_add]
              refine .oslc i n l sz (h - l) _ g1 ys.length _ (m - l) (by rw [hg, ← hv0, ← hgn]) (by omega) fun k hk => ?_
              rcases hm with ⟨e', _⟩ | e'
              · rw [e'] at hk; cases hk
              · rw [e'] at hk; simpa using hk
        · cases he
      · cases hc
    · rename_i i o sz len cp
      obtain rfl := Option.some.inj hc
      obtain ⟨c1, ccap, hcl, hl, hcp, e⟩ := hr.slc_inv
      injection e with e1 e2 e3
      subst e1 e3
      simp only [elems] at he
      split at he
      · rename_i sz' ys hb
        split at he
        · rename_i hn
          simp only [Bool.and_eq_true] at hn
          obtain ⟨f1, f2⟩ := Prod.mk.inj (Option.some.inj he)
          obtain ⟨arr, e, q1, q2, q3, q4, q5, q6⟩ := inv_rows hI hb hcl
          have hss : sz = size := by
            obtain ⟨x0, h0⟩ : ∃ x0, xs[0]? = some x0 := ⟨_, List.getElem?_eq_getElem (by omega)⟩
            have h00 := h0
            rw [← f1, List.getElem?_take] at h00
            split at h00
            · rw [List.getElem?_drop] at h00
              rw [Nat.eq_of_beq_eq_true hn.1, ← q6 _ _ h00]; exact (sized_get hsz 0 _ h0).1
            · cases h00
          subst hss
          simp only [Option.map_some, addr_add]
          rw [← Nat.add_mul]
          refine .slc i (o + l) sz (h - l) _ c1 (m - l) hcl (by omega) fun k hk => ?_
          split at hk
          · rename_i m'
            rcases hm with ⟨e', _⟩ | e'
            · cases e'
            · obtain rfl := Option.some.inj e'; simpa using hk
          · rcases hm with ⟨_, e'⟩ | e'
            · rw [Option.map_eq_some_iff] at hk
              obtain ⟨c', hk1, hk2⟩ := hk
              rw [e', hcp _ hk1]; exact hk2
            · cases e'
        · cases he
      · cases he
    · rename_i i n o sz len cp
      obtain rfl := Option.some.inj hc
      simp only [elems] at he
      split at he
      · rename_i e0 sz' ys hb
        split at he
        · rename_i hn
          simp only [Bool.and_eq_true] at hn
          obtain ⟨f1, f2⟩ := Prod.mk.inj (Option.some.inj he)
          obtain ⟨c1, ll, lcap, ccap, hg, hl, hcp, e⟩ := hr.oslc_inv hI hb (Nat.eq_of_beq_eq_true hn.1.1)
          injection e with e1 e2 e3
          subst e1 e3
          obtain ⟨p1, p2, p3, p4, p5, _⟩ := inv_own hI hb hg
          have hss : sz = size := by
            obtain ⟨x0, h0⟩ : ∃ x0, xs[0]? = some x0 := ⟨_, List.getElem?_eq_getElem (by omega)⟩
            have h00 := h0
            rw [← f1, List.getElem?_take] at h00
            split at h00
            · rw [List.getElem?_drop] at h00
              rw [Nat.eq_of_beq_eq_true hn.1.2, ← p5 _ _ h00]; exact (sized_get hsz 0 _ h0).1
            · cases h00
          subst hss
          simp only [Option.map_some, addr_add]
          rw [← Nat.add_mul]
          refine .oslc i n (o + l) sz (h - l) _ c1 ll lcap (m - l) hg (by omega) fun k hk => ?_
          split at hk
          · rename_i m'
            rcases hm with ⟨e', _⟩ | e'
            · cases e'
            · obtain rfl := Option.some.inj e'; simpa using hk
          · rcases hm with ⟨_, e'⟩ | e'
            · rw [Option.map_eq_some_iff] at hk
              obtain ⟨c', hk1, hk2⟩ := hk
              rw [e', hcp _ hk1]; exact hk2
            · cases e'
        · cases he
      · cases he
    · cases hc

/-- A bound's operand. -/
def bndA (env : Env) (d : Nat) : Option Operand → Option Nat
  | none => some d
  | some x => match ev env x with
    | some (.int _ n) => match decide (0 ≤ n) with
      | true => some n.toNat
      | false => none
    | _ => none

theorem bndA_ok {G : Ghost} {env : Env} {a : Act} (hE : EnvR G env a.tmps) {d n : Nat} {oo : Option Operand} (h : bndA env d oo = some n) : Bnd (oo.map a.eval) d n := by
  cases oo with
  | none => exact .none rfl (Option.some.inj h).symm
  | some x =>
    simp only [bndA] at h
    split at h
    · rename_i k m hx
      split at h
      · rename_i h0
        have h0 := of_decide_eq_true h0
        obtain rfl := Option.some.inj h
        refine .some k ?_
        rw [Option.map_some, (ev_r hE hx).int_inv, Int.toNat_of_nonneg h0]
      · cases h
    · cases h

theorem op_slice {P : Program} {o : Oper} {s : St} {t e : TypeId} {x : Operand} {lo hi mx : Option Operand} {size bytes : Nat} {z : Value} {d : TypeDesc} {xv r : AV} {xs : List AV} {cap : Option Nat} {l h : Nat} (mo : Option Nat) (ht : P.underlying t = some (.slice e)) (he : Inf P e size bytes z d) (hs0 : 0 < size)
    (ho : o.op = .slice t x lo hi mx) (hx : ev s.env x = some xv) (hxe : elems (bat s.bs) xv = some (xs, cap)) (hxs : Sized size xs) (hl : bndA s.env 0 lo = some l) (hh : bndA s.env xs.length hi = some h) (hxm : hi = none → mx = none)
    (hm : (mx = none ∧ mo = none) ∨ ∃ m, bndA s.env 0 mx = some m ∧ mx ≠ none ∧ mo = some m ∧ h ≤ m ∧ (m ≤ xs.length ∨ ∃ c, cap = some c ∧ m ≤ c)) (h1 : l ≤ h) (h2 : h ≤ xs.length) (hc : cutAV (bat s.bs) xv xs cap l h mo = some r) : OpT P o s r s.bs :=
  op_pure fun G w a hI hE => by
    obtain ⟨b1, c1, hcx, hc1, hcap, _⟩ := elems_reads hI hs0 hxe hxs (ev_r hE hx)
    have hr := ev_r hE hx
    rw [hcx] at hr
    obtain ⟨m, hmb, hmo, hhm, hmc⟩ : ∃ m, Bnd (mx.map a.eval) c1 m ∧ ((mo = none ∧ m = c1) ∨ mo = some m) ∧ h ≤ m ∧ m ≤ c1 := by
      rcases hm with ⟨e1, e2⟩ | ⟨m, e1, e2, e3, e4, e5⟩
      · subst e1; exact ⟨c1, .none rfl rfl, .inl ⟨e2, rfl⟩, by omega, Nat.le_refl _⟩
      · refine ⟨m, ?_, .inr e3, e4, ?_⟩
        · cases bndA_ok hE e1 with
          | none h _ => cases mx with | none => exact absurd rfl e2 | some _ => cases h
          | some k h => exact .some k h
        · rcases e5 with e5 | ⟨c, e5, e6⟩
          · omega
          · have := hcap c e5; omega
    have hrun := run_slice (P := P) (w := w) ht he b1 (bndA_ok hE hl) (bndA_ok hE hh) hmb (fun e => by
      cases hi with
      | none => rw [hxm rfl]; rfl
      | some _ => cases e) h1 hhm hmc
    refine ⟨_, ?_, cut_ok hI hs0 hxe hxs hr hcap hmo h1 hhm hmc h2 hc⟩
    have hne : ∀ n e', P.underlying t ≠ some (.array n e') := fun n e' e => by rw [ht] at e; cases e
    simp only [execOp, ho, Instr.sliceAt, run_underlying ht, Sem.run_bind, Result.andThen_ok, hcx, hrun, Sem.run_pure]

end
end Go.Proofs.YtelgmdljcbkniaaDoor.Ai
