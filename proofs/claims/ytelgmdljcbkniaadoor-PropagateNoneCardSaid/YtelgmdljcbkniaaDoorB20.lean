/- An interpreter of values for the model's code, base text 20: calls and makers by evaluation; regions; code. -/
import Derived.Test.YtelgmdljcbkniaaDoorB19
namespace Go.Proofs.YtelgmdljcbkniaaDoor.Ai
noncomputable section
open Go
set_option linter.unusedVariables false

/-! ### the lists that values hold -/

mutual
def gpre (bs : List Blk) : AV → List (Nat × Blk)
  | .gsl i _ => [(i, bat bs i)]
  | .agg cs => gpres bs cs
  | .tup cs => gpres bs cs
  | .fn _ cs => gpres bs cs
  | _ => []
def gpres (bs : List Blk) : List AV → List (Nat × Blk)
  | [] => []
  | v :: r => gpre bs v ++ gpres bs r
end

theorem has_app {bs : List Blk} {p q : List (Nat × Blk)} : Has bs (p ++ q) ↔ Has bs p ∧ Has bs q := by
  rw [has_iff, has_iff, has_iff]
  constructor
  · intro h; exact ⟨fun k b hk => h k b (List.mem_append.2 (.inl hk)), fun k b hk => h k b (List.mem_append.2 (.inr hk))⟩
  · rintro ⟨h1, h2⟩ k b hk
    rcases List.mem_append.1 hk with h | h
    · exact h1 k b h
    · exact h2 k b h

mutual
theorem has_gpre (bs : List Blk) : ∀ (v : AV), Has bs (gpre bs v)
  | .gsl i n => by simp [gpre, Has]
  | .agg cs => by simp only [gpre]; exact has_gpres bs cs
  | .tup cs => by simp only [gpre]; exact has_gpres bs cs
  | .fn f cs => by simp only [gpre]; exact has_gpres bs cs
  | .int .. | .bool .. | .str .. | .nilp | .ptr .. | .rptr .. | .eptr .. | .slc .. | .lst .. | .map .. | .nils | .nilmap | .nilfn | .yld .. | .imap .. | .und | .optr .. | .oslc .. => by simp [gpre, Has]
theorem has_gpres (bs : List Blk) : ∀ (vs : List AV), Has bs (gpres bs vs)
  | [] => trivial
  | v :: r => by simp only [gpres]; exact has_app.2 ⟨has_gpre bs v, has_gpres bs r⟩
end

mutual
theorem imm_congr {bs bs0 : List Blk} : ∀ {v x : AV}, imm bs v = some x → Has bs0 (gpre bs v) → imm bs0 v = some x
  | .gsl i n, x, h, h0 => by
    simp only [imm] at h ⊢
    split at h
    · rename_i e sz xs hb
      have : bat bs0 i = .grow e sz xs := by
        have h1 : bat bs0 i = bat bs i := h0.1
        rw [h1, bat_get _ _ _ hb]
      rw [get_bat _ _ _ this (by simp)]
      exact h
    · cases h
  | .agg cs, x, h, h0 => by
    simp only [imm] at h ⊢
    cases hc : imms bs cs with
    | none => simp [hc] at h
    | some ds => rw [imms_congr hc (by simpa [gpre] using h0)]; rw [hc] at h; exact h
  | .tup cs, x, h, h0 => by
    simp only [imm] at h ⊢
    cases hc : imms bs cs with
    | none => simp [hc] at h
    | some ds => rw [imms_congr hc (by simpa [gpre] using h0)]; rw [hc] at h; exact h
  | .fn f cs, x, h, h0 => by
    simp only [imm] at h ⊢
    cases hc : imms bs cs with
    | none => simp [hc] at h
    | some ds => rw [imms_congr hc (by simpa [gpre] using h0)]; rw [hc] at h; exact h
  | .ptr .., x, h, _ | .rptr .., x, h, _ | .slc .., x, h, _ | .map _, x, h, _ | .und, x, h, _ | .yld _, x, h, _ | .optr .., x, h, _ | .oslc .., x, h, _ => by simp [imm] at h
  | .int .., x, h, _ | .bool .., x, h, _ | .str .., x, h, _ | .nilp, x, h, _ | .eptr .., x, h, _ | .lst .., x, h, _ | .nils, x, h, _ | .nilmap, x, h, _ | .nilfn, x, h, _ | .imap .., x, h, _ => by simpa [imm] using h
theorem imms_congr {bs bs0 : List Blk} : ∀ {vs xs : List AV}, imms bs vs = some xs → Has bs0 (gpres bs vs) → imms bs0 vs = some xs
  | [], xs, h, _ => h
  | v :: r, xs, h, h0 => by
    simp only [gpres] at h0
    obtain ⟨h1, h2⟩ := has_app.1 h0
    simp only [imms] at h ⊢
    split at h
    · rename_i y ys e1 e2
      rw [imm_congr e1 h1, imms_congr e2 h2]
      exact h
    · cases h
end

theorem evs_congr {env env' : Env} : ∀ {xs : List Operand} {vs : List AV}, evs env xs = some vs → (∀ x ∈ xs, ev env' x = ev env x) → evs env' xs = some vs
  | [], _, h, _ => h
  | x :: r, vs, h, h0 => by
    simp only [evs] at h ⊢
    split at h
    · rename_i v ws e1 e2
      rw [h0 x (by simp), e1, evs_congr e2 fun y hy => h0 y (by simp [hy])]
      exact h
    · cases h

theorem evp_congr {env env' : Env} : ∀ {ps : List (Nat × Operand)} {vs : List (Nat × AV)}, evp env ps = some vs → (∀ x ∈ ps.map Prod.snd, ev env' x = ev env x) → evp env' ps = some vs
  | [], _, h, _ => h
  | (i, x) :: r, vs, h, h0 => by
    simp only [evp] at h ⊢
    split at h
    · rename_i v ws e1 e2
      rw [h0 x (by simp), e1, evp_congr e2 fun y hy => h0 y (by simp at hy ⊢; exact .inr hy)]
      exact h
    · cases h

/-! ### calls -/

/-- What a call of function f on these values does. -/
def CallOk (P : Program) (f : Nat) (vs : List AV) (bs : List Blk) (e : Ef) : Prop :=
  Has bs e.pre ∧ (∀ k, k ∈ e.post.map Prod.fst → k ∈ e.pre.map Prod.fst) ∧
  ∀ (o : Oper) (env : Env) (bs0 : List Blk) (x : Operand) (xs : List Operand) (ts : Array TypeId) (cap vs' : List AV), o.op = .call { callee := .value x, args := xs.toArray, argTypes := ts } →
    ev env x = some (.fn f cap) → evs env xs = some vs' → vs' ++ cap = vs → Has bs0 e.pre → OpT P o ⟨env, bs0⟩ e.v (upd bs0 e.post)

inductive CallT {P : Program} (f : Nat) (vs : List AV) (bs : List Blk) {K : Ef → Prop} : Prop where
  | mk (e : Ef) (h : CallOk P f vs bs e) (k : K e)

/-- A function's contract: from values to a value. -/
structure V (P : Program) (f : Nat) (args : List AV) (v : AV) : Prop where
  en : Enters P f
  ok : VOk P f fun a u => a = args ∧ u = v

/-- The same, over blocks of its own numbering. -/
structure F (P : Program) (f : Nat) (args : List AV) (bs : List Blk) (v : AV) (bs' : List Blk) : Prop where
  en : Enters P f
  ok : FOk P f fun a b u b' => a = args ∧ b = bs ∧ u = v ∧ b' = bs'

theorem callV {P : Program} {f : Nat} {vs avs : List AV} {bs : List Blk} {K : Ef → Prop} {v : AV} (hV : V P f avs v) (k : K ⟨v, gpres bs vs, []⟩) (hi : imms bs vs = some avs := by rfl) : CallT (P := P) f vs bs (K := K) :=
  .mk _ ⟨has_gpres bs vs, fun _ h => by simp at h, fun o env bs0 x xs ts cap vs' ho hx hxs hvs h0 => by
    subst hvs
    exact op_call (s := ⟨env, bs0⟩) ho hx hxs (imms_congr hi h0) hV.en hV.ok ⟨rfl, rfl⟩⟩ k

/-- The blocks that a snapshot may look at: all. -/
def allB (bs : List Blk) : Nat → List Blk → List (Nat × Blk)
  | _, [] => []
  | i, b :: r => (i, b) :: allB bs (i + 1) r

/-- The function reads one's own blocks (those that are named) and hands back numbers. -/
theorem callR {P : Program} {f : Nat} {vs avs : List AV} {bs : List Blk} {K : Ef → Prop} {v : AV} (n : Nat) (pre : List (Nat × Blk)) (hV : V P f avs v) (hp : Has bs pre) (hi : ∀ bs0, Has bs0 pre → snapL (snap bs0 n) vs = some avs) (hs : scal v = true)
    (k : K ⟨v, pre, []⟩) : CallT (P := P) f vs bs (K := K) :=
  .mk _ ⟨hp, fun _ h => by simp at h, fun o env bs0 x xs ts cap vs' ho hx hxs hvs h0 => by
    subst hvs
    exact op_call_ro (s := ⟨env, bs0⟩) n ho hx hxs (hi bs0 h0) hV.en hV.ok ⟨rfl, rfl⟩ hs⟩ k

end
end Go.Proofs.YtelgmdljcbkniaaDoor.Ai
