/- An interpreter of values for the model's code, base text 21: the call of a function that changes blocks, at named places. -/
import Derived.Test.YtelgmdljcbkniaaDoorB20
namespace Go.Proofs.YtelgmdljcbkniaaDoor.Ai
noncomputable section
open Go
set_option linter.unusedVariables false

open Classical in
/-- The ghost behind the call, in the caller's numbers. -/
noncomputable def Ghost.joinM (G G' : Ghost) (σ : Nat → Nat) (m : Nat) : Ghost :=
  ⟨fun k => if h : ∃ i, i < m ∧ σ i = k then G'.cl h.choose else G.cl k, fun k => if h : ∃ i, i < m ∧ σ i = k then G'.gr h.choose else G.gr k, G'.Z, G'.ok⟩

section
variable {G G' : Ghost} {σ : Nat → Nat} {m : Nat} (hi : ∀ i j, i < m → j < m → σ i = σ j → i = j)
include hi
theorem joinM_cl {i : Nat} (h : i < m) : (G.joinM G' σ m).cl (σ i) = G'.cl i := by
  have h0 : ∃ j, j < m ∧ σ j = σ i := ⟨i, h, rfl⟩
  simp only [Ghost.joinM, dif_pos h0]
  rw [hi _ _ h0.choose_spec.1 h h0.choose_spec.2]
theorem joinM_gr {i : Nat} (h : i < m) : (G.joinM G' σ m).gr (σ i) = G'.gr i := by
  have h0 : ∃ j, j < m ∧ σ j = σ i := ⟨i, h, rfl⟩
  simp only [Ghost.joinM, dif_pos h0]
  rw [hi _ _ h0.choose_spec.1 h h0.choose_spec.2]
end
theorem joinM_cl_off {G G' : Ghost} {σ : Nat → Nat} {m k : Nat} (h : ¬ ∃ i, i < m ∧ σ i = k) : (G.joinM G' σ m).cl k = G.cl k := by simp only [Ghost.joinM, dif_neg h]
theorem joinM_gr_off {G G' : Ghost} {σ : Nat → Nat} {m k : Nat} (h : ¬ ∃ i, i < m ∧ σ i = k) : (G.joinM G' σ m).gr k = G.gr k := by simp only [Ghost.joinM, dif_neg h]

def distinct : List Nat → Bool
  | [] => true
  | k :: r => !(r.any fun q => Nat.beq q k) && distinct r
theorem distinct_get : ∀ {l : List Nat}, distinct l = true → l.Nodup
  | [], _ => .nil
  | k :: r, h => by
    simp only [distinct, Bool.and_eq_true, Bool.not_eq_true'] at h
    refine List.nodup_cons.2 ⟨fun hm => ?_, distinct_get h.2⟩
    have := h.1
    rw [List.any_eq_false] at this
    exact this k hm (Nat.beq_refl k)

/-- Where the callee's block i lies. -/
def place (pl : List Nat) (i : Nat) : Nat := (pl[i]?).getD 0

theorem place_inj {pl : List Nat} (hd : distinct pl = true) {i j : Nat} (hi : i < pl.length) (hj : j < pl.length) (h : place pl i = place pl j) : i = j := by
  unfold place at h
  rw [List.getElem?_eq_getElem hi, List.getElem?_eq_getElem hj] at h
  exact (List.getElem_inj (distinct_get hd)).1 h

/-- Ahead of the call: what it is handed, and free places. -/
def preP (σ : Nat → Nat) : List Nat → List Blk → List (Nat × Blk)
  | [], _ => []
  | k :: ks, [] => (k, .gone) :: preP σ ks []
  | k :: ks, b :: r => (k, renB σ b) :: preP σ ks r
def postP (σ : Nat → Nat) : List Nat → List Blk → List (Nat × Blk)
  | k :: ks, b :: r => (k, renB σ b) :: postP σ ks r
  | _, _ => []

theorem preP_get {σ : Nat → Nat} {st : List Blk} : ∀ {pl : List Nat} {bs : List Blk}, Has st (preP σ pl bs) → ∀ (i k : Nat), pl[i]? = some k → bat st k = match bs[i]? with | some b => renB σ b | none => .gone
  | [], _, _, i, k, h => by simp at h
  | k' :: ks, [], h, i, k, h1 => by
    simp only [preP, Has] at h
    cases i with
    | zero => simp at h1; subst h1; exact h.1
    | succ i => have := preP_get h.2 i k (by simpa using h1); simpa using this
  | k' :: ks, b :: r, h, i, k, h1 => by
    simp only [preP, Has] at h
    cases i with
    | zero => simp at h1; subst h1; exact h.1
    | succ i => have := preP_get h.2 i k (by simpa using h1); simpa using this

theorem postP_keys {σ : Nat → Nat} : ∀ {pl : List Nat} {bs : List Blk} (bs' : List Blk) {k : Nat}, k ∈ (postP σ pl bs').map Prod.fst → k ∈ (preP σ pl bs).map Prod.fst
  | [], _, _, k, h => by simp [postP] at h
  | k' :: ks, bs, [], k, h => by simp [postP] at h
  | k' :: ks, [], b :: r, k, h => by
    simp only [postP, preP, List.map_cons, List.mem_cons] at h ⊢
    exact h.imp id fun h => postP_keys r h
  | k' :: ks, c :: q, b :: r, k, h => by
    simp only [postP, preP, List.map_cons, List.mem_cons] at h ⊢
    exact h.imp id fun h => postP_keys r h

theorem upd_postP {σ : Nat → Nat} : ∀ {pl : List Nat} {bs' : List Blk} (st : List Blk), distinct pl = true → pl.length = bs'.length →
    (∀ (i k : Nat) b, pl[i]? = some k → bs'[i]? = some b → bat (upd st (postP σ pl bs')) k = renB σ b) ∧ ∀ k, k ∉ pl → bat (upd st (postP σ pl bs')) k = bat st k
  | [], [], st, _, _ => ⟨fun i k b h => by simp at h, fun k _ => rfl⟩
  | [], _ :: _, _, _, h => by simp at h
  | _ :: _, [], _, _, h => by simp at h
  | k' :: ks, b' :: r, st, hd, hl => by
    have hn := List.nodup_cons.1 (distinct_get hd)
    have hd' : distinct ks = true := by simp only [distinct, Bool.and_eq_true] at hd; exact hd.2
    obtain ⟨h1, h2⟩ := upd_postP (σ := σ) (pl := ks) (bs' := r) (bset st k' (renB σ b')) hd' (by simpa using hl)
    have e : upd st (postP σ (k' :: ks) (b' :: r)) = upd (bset st k' (renB σ b')) (postP σ ks r) := rfl
    rw [e]
    refine ⟨fun i k b f1 f2 => ?_, fun k hk => ?_⟩
    · cases i with
      | zero => simp at f1 f2; subst f1 f2; rw [h2 k' hn.1, bat_bset, if_pos rfl]
      | succ i => exact h1 i k b (by simpa using f1) (by simpa using f2)
    · simp only [List.mem_cons, not_or] at hk
      rw [h2 k hk.2, bat_bset, if_neg fun e0 => hk.1 e0.symm]

theorem op_callP {P : Program} {o : Oper} {env : Env} {st : List Blk} {x : Operand} {xs : List Operand} {ts : Array TypeId} {f : FuncId} {cap vs : List AV} (pl : List Nat) (args : List AV) (bs : List Blk) (v : AV) (bs' : List Blk)
    (ho : o.op = .call { callee := .value x, args := xs.toArray, argTypes := ts }) (hx : ev env x = some (.fn f cap)) (hv : evs env xs = some vs) (hd : distinct pl = true) (hl : pl.length = bs'.length) (hn : bs.length ≤ pl.length) (hpre : Has st (preP (place pl) pl bs))
    (hargs : vs ++ cap = rens (place pl) args) (hA : belows bs.length args = true) (hB : belowB bs.length bs = true) (hF : F P f args bs v bs') : OpT P o ⟨env, st⟩ (ren (place pl) v) (upd st (postP (place pl) pl bs')) := by
  refine OpT.of (by simp [ho]) ?_
  intro G w a hI hE K Q hK
  let m := pl.length
  let n := bs.length
  let σ := place pl
  have hinj : ∀ i j, i < m → j < m → σ i = σ j → i = j := fun i j hi hj h => place_inj hd hi hj h
  have σat : ∀ i (hi : i < m), pl[i]? = some (σ i) := fun i hi => by
    simp only [σ, place, List.getElem?_eq_getElem hi, Option.getD_some]
  have batσ : ∀ i, i < m → bat st (σ i) = match bs[i]? with | some b => renB σ b | none => .gone := fun i hi => preP_get hpre i (σ i) (σat i hi)
  have gone : ∀ i, n ≤ i → i < m → G.cl (σ i) = none ∧ G.gr (σ i) = none := fun i h1 h2 => by
    have h := hI.batOk (σ i)
    rw [batσ i h2, List.getElem?_eq_none h1] at h
    exact h
  let G0 : Ghost := ⟨fun i => if i < n then G.cl (σ i) else none, fun i => if i < n then G.gr (σ i) else none, G.Z, G.ok⟩
  have hc0 : ∀ i, i < n → G0.cl i = G.cl (σ i) := fun i hi => by simp only [G0, if_pos hi]
  have hg0 : ∀ i, i < n → G0.gr i = G.gr (σ i) := fun i hi => by simp only [G0, if_pos hi]
  have own0 : ∀ i c, G0.owns i c → i < n ∧ G.owns (σ i) c := fun i c h => by
    by_cases hi : i < n
    · refine ⟨hi, ?_⟩
      rcases h with h | ⟨g, h, e⟩
      · exact .inl (by rw [← hc0 i hi]; exact h)
      · exact .inr ⟨g, by rw [← hg0 i hi]; exact h, e⟩
    · rcases h with h | ⟨g, h, _⟩
      · simp [G0, hi] at h
      · simp [G0, hi] at h
  have hI0 : Inv G0 bs w := by
    refine ⟨fun i b hb => ?_, fun i hi => ?_, fun i j c h1 h2 => ?_, hI.z⟩
    · have hi : i < n := lt_of_get hb
      refine blk_unren (σ := σ) (n := n) hc0 hg0 rfl hi (belowB_get hB i b hb) ?_
      have h := hI.batOk (σ i)
      rw [batσ i (by omega), hb] at h
      exact h
    · have : ¬ i < n := by simp only [n]; omega
      simp [G0, this]
    · exact hinj i j (by have := (own0 i c h1).1; omega) (by have := (own0 j c h2).1; omega) (hI.inj _ _ c (own0 i c h1).2 (own0 j c h2).2)
  obtain ⟨cc, hfe, hcl, hcr⟩ := (ev_r hE hx).fn_inv
  obtain ⟨hal, har⟩ := evs_map hE hv
  obtain ⟨hbl2, hbr⟩ := r_append hal hcl har hcr
  unfold Oper.wp execOp
  simp only [ho, resolve, invoke, hfe, Deferred.ofValue, Sem.run_bind, Sem.run_pure, Result.andThen_ok, Array.empty_append, hF.en _ w, Oper.upon]
  rw [hargs] at hbl2 hbr
  refine (hF.ok G0 w _ args bs v bs' hI0 ⟨by rw [hbl2, rens_len], fun j u c e1 e2 => ?_⟩ ⟨rfl, rfl, rfl, rfl⟩).mono fun e w' ⟨cv, G0', he, hA'⟩ => ?_
  · exact rs_unren hc0 hg0 rfl hA hbr j u c e1 e2
  subst he
  have hle0 := hA'.le
  have hdom : ∀ i, m ≤ i → G0'.cl i = none ∧ G0'.gr i = none := fun i hi => hA'.inv.dom i (by omega)
  let G' := G.joinM G0' σ m
  have c1 : ∀ i, i < m → G'.cl (σ i) = G0'.cl i := fun i hi => joinM_cl hinj hi
  have c2 : ∀ i, i < m → G'.gr (σ i) = G0'.gr i := fun i hi => joinM_gr hinj hi
  have hZ : G0'.Z = G'.Z := rfl
  have ownAt : ∀ i c, i < m → (G'.owns (σ i) c ↔ G0'.owns i c) := fun i c hi => by unfold Ghost.owns; rw [c1 i hi, c2 i hi]
  have ownOff : ∀ k c, (¬ ∃ i, i < m ∧ σ i = k) → (G'.owns k c ↔ G.owns k c) := fun k c h => by unfold Ghost.owns; rw [joinM_cl_off h, joinM_gr_off h]
  have apart : ∀ k c, (¬ ∃ i, i < m ∧ σ i = k) → G.owns k c → ∀ i, ¬ G0.owns i c := fun k c h hk i hi => by
    have := hI.inj _ _ c hk (own0 i c hi).2
    exact h ⟨i, by have := (own0 i c hi).1; omega, this.symm⟩
  have hle : G.le G' := by
    refine ⟨fun k c e => ?_, fun k g e => ?_, hle0.Z⟩
    · by_cases h : ∃ i, i < m ∧ σ i = k
      · obtain ⟨i, hi, rfl⟩ := h
        rw [c1 i hi]
        have hin : i < n := by
          rcases Nat.lt_or_ge i n with h' | h'
          · exact h'
          · rw [(gone i h' hi).1] at e; cases e
        exact hle0.cl i c (by rw [hc0 i hin]; exact e)
      · rw [joinM_cl_off h]; exact e
    · by_cases h : ∃ i, i < m ∧ σ i = k
      · obtain ⟨i, hi, rfl⟩ := h
        rw [c2 i hi]
        have hin : i < n := by
          rcases Nat.lt_or_ge i n with h' | h'
          · exact h'
          · rw [(gone i h' hi).2] at e; cases e
        exact hle0.gr i g (by rw [hg0 i hin]; exact e)
      · rw [joinM_gr_off h]; exact ⟨g, e, .inl rfl⟩
  obtain ⟨hu1, hu2⟩ := upd_postP (σ := σ) (pl := pl) (bs' := bs') st hd hl
  have hinv : Inv G' (upd st (postP σ pl bs')) w' := by
    refine .of_bat (fun k => ?_) (fun k q c h1 h2 => ?_) hA'.inv.z
    · by_cases h : ∃ i, i < m ∧ σ i = k
      · obtain ⟨i, hi, rfl⟩ := h
        have hb : bs'[i]? = some (bs'[i]'(by omega)) := List.getElem?_eq_getElem _
        rw [hu1 i (σ i) _ (σat i hi) hb]
        exact blk_ren (fun j c e => by
            have hj : j < m := by
              rcases Nat.lt_or_ge j m with h' | h'
              · exact h'
              · rw [(hdom j h').1] at e; cases e
            exact (c1 j hj).trans e) (fun j g e => by
            have hj : j < m := by
              rcases Nat.lt_or_ge j m with h' | h'
              · exact h'
              · rw [(hdom j h').2] at e; cases e
            exact (c2 j hj).trans e) hZ (c1 i hi) (c2 i hi) (hA'.inv.blk i _ hb)
      · have hk : k ∉ pl := fun hm => by
          obtain ⟨i, hi, e⟩ := List.getElem_of_mem hm
          refine h ⟨i, hi, ?_⟩
          have := σat i hi
          rw [List.getElem?_eq_getElem hi, e] at this
          exact (Option.some.inj this).symm
        rw [hu2 k hk]
        refine (hI.batOk k).keep hle (joinM_cl_off h) (joinM_gr_off h) (fun c hc => hA'.ev.frame c (hI.lt hc).2 (apart k c h hc)) fun c hc o => ?_
        have hclt := (hI.lt hc).2
        cases hG : G.Z c o with
        | some u => exact hle0.Z c o u hG
        | none =>
          cases hZ' : G'.Z c o with
          | none => rfl
          | some u =>
            rcases hA'.ev.newZ c o u hZ' with e | e | ⟨i, e⟩
            · have e' : G.Z c o = some u := e
              rw [hG] at e'; cases e'
            · omega
            · exact absurd e (apart k c h hc i)
    · by_cases hk : ∃ i, i < m ∧ σ i = k <;> by_cases hq : ∃ i, i < m ∧ σ i = q
      · obtain ⟨i, hi, rfl⟩ := hk
        obtain ⟨j, hj, rfl⟩ := hq
        rw [ownAt i c hi] at h1
        rw [ownAt j c hj] at h2
        rw [hA'.inv.inj i j c h1 h2]
      · obtain ⟨i, hi, rfl⟩ := hk
        rw [ownAt i c hi] at h1
        rw [ownOff q c hq] at h2
        rcases hA'.ev.own i c h1 with e | ⟨j, e⟩
        · have := (hI.lt h2).2; omega
        · exact absurd e (apart q c hq h2 j)
      · obtain ⟨j, hj, rfl⟩ := hq
        rw [ownAt j c hj] at h2
        rw [ownOff k c hk] at h1
        rcases hA'.ev.own j c h2 with e | ⟨i, e⟩
        · have := (hI.lt h1).2; omega
        · exact absurd e (apart k c hk h1 i)
      · rw [ownOff k c hk] at h1
        rw [ownOff q c hq] at h2
        exact hI.inj k q c h1 h2
  have hrr : R G' (ren σ v) cv := by
    refine r_ren (fun j c e => ?_) (fun j g e => ?_) (hZ ▸ .refl _) hA'.r
    · have hj : j < m := by
        rcases Nat.lt_or_ge j m with h' | h'
        · exact h'
        · rw [(hdom j h').1] at e; cases e
      exact (c1 j hj).trans e
    · have hj : j < m := by
        rcases Nat.lt_or_ge j m with h' | h'
        · exact h'
        · rw [(hdom j h').2] at e; cases e
      exact (c2 j hj).trans e
  refine hK cv w' G' ⟨hrr, hinv, hle, ⟨hA'.ev.os, hA'.ev.tape, hA'.ev.output, hA'.ev.size, hle0.Z, fun c o u e => ?_, fun c hc hn => hA'.ev.frame c hc fun i hi => hn _ (own0 i c hi).2, fun k c hk => ?_, hA'.ev.loop⟩⟩
  · rcases hA'.ev.newZ c o u e with e | e | ⟨i, e⟩
    · exact .inl e
    · exact .inr (.inl e)
    · exact .inr (.inr ⟨_, (own0 i c e).2⟩)
  · by_cases h : ∃ i, i < m ∧ σ i = k
    · obtain ⟨i, hi, rfl⟩ := h
      rw [ownAt i c hi] at hk
      rcases hA'.ev.own i c hk with e | ⟨j, e⟩
      · exact .inl e
      · exact .inr ⟨_, (own0 j c e).2⟩
    · rw [ownOff k c h] at hk
      exact .inr ⟨k, hk⟩

/-- A call that changes blocks: pl tells where the callee's blocks lie (those that it is handed, then free places for new ones). -/
theorem callF {P : Program} {f : Nat} {vs : List AV} {st : List Blk} {K : Ef → Prop} (pl : List Nat) {args : List AV} {bs : List Blk} {v : AV} {bs' : List Blk} (hF : F P f args bs v bs') (hpre : Has st (preP (place pl) pl bs)) (k : K ⟨ren (place pl) v, preP (place pl) pl bs, postP (place pl) pl bs'⟩)
    (hargs : vs = rens (place pl) args := by rfl) (hd : distinct pl = true := by rfl) (hl : pl.length = bs'.length := by rfl) (hn : bs.length ≤ pl.length := by decide) (hA : belows bs.length args = true := by rfl) (hB : belowB bs.length bs = true := by rfl) : CallT (P := P) f vs st (K := K) :=
  .mk _ ⟨hpre, fun k h => postP_keys bs' h, fun o env bs0 x xs ts cap vs' ho hx hxs hvs h0 => op_callP pl args bs v bs' ho hx hxs hd hl hn h0 (hvs.trans hargs) hA hB hF⟩ k

end
end Go.Proofs.YtelgmdljcbkniaaDoor.Ai
