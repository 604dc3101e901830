/- An interpreter of values for the model's code, base text 7: the rules in the form in which a program writes their use. -/
import Derived.Test.YtelgmdljcbkniaaDoorB6
namespace Go.Proofs.YtelgmdljcbkniaaDoor.Ai
noncomputable section
open Go

theorem imms_append {bs : List Blk} : ∀ {vs ws xs ys : List AV}, imms bs vs = some xs → imms bs ws = some ys → imms bs (vs ++ ws) = some (xs ++ ys)
  | [], ws, xs, ys, h1, h2 => by simp only [imms, Option.some.injEq] at h1; subst h1; exact h2
  | v :: r, ws, xs, ys, h1, h2 => by
    simp only [imms] at h1
    split at h1
    · rename_i x xs' e1 e2
      obtain rfl := Option.some.inj h1
      simp only [List.cons_append, imms, e1, imms_append e2 h2]
    · cases h1

/-- A call of a function that came in as a parameter. -/
theorem op_callp {P : Program} {o : Oper} {s : St} {x : Operand} {xs : List Operand} {ts : Array TypeId} {f : FuncId} {cap vs avs : List AV} {S : List AV → AV → Prop} {v : AV}
    (ho : o.op = .call { callee := .value x, args := xs.toArray, argTypes := ts }) (hx : ev s.env x = some (.fn f cap)) (hv : evs s.env xs = some vs)
    (hC : ∀ bs, imms bs cap = some cap) (hen : Enters P f) (hS : VOk P f S) (h : S (avs ++ cap) v) (hi : imms s.bs vs = some avs := by rfl) : OpT P o s v s.bs :=
  op_call ho hx hv (imms_append hi (hC _)) hen hS h

/-- The operations that are left of a region lead to a point where Post holds. -/
def RE (P : Program) (n : Nat) (ops : Array Oper) (l : List Oper) (s : St) (Post : St → Prop) : Prop := ∃ s', Run P n ops l s s' ∧ Post s'

theorem RE.nil {P : Program} {n : Nat} {ops : Array Oper} {s : St} {Post : St → Prop} (h : Post s) : RE P n ops [] s Post := ⟨s, .nil s, h⟩

theorem RE.op {P : Program} {n : Nat} {ops : Array Oper} {o : Oper} {rest : List Oper} {env : Env} {bs bs' : List Blk} {d : Nat} {v : AV} {Post : St → Prop}
    (h : OpT P o ⟨env, bs⟩ v bs') (hg : o.guard = none) (hd : o.dst = some d) (hn : Nat.blt d n = true) (k : RE P n ops rest ⟨(d, v) :: env, bs'⟩ Post) : RE P n ops (o :: rest) ⟨env, bs⟩ Post := by
  obtain ⟨s', hr, hp⟩ := k
  refine ⟨s', .op o rest ⟨env, bs⟩ v bs' s' (by rw [hg]; trivial) (fun d' e => ?_) h ?_, hp⟩
  · rw [hd] at e; obtain rfl := Option.some.inj e; simpa [Nat.blt_eq] using hn
  · rw [hd]; exact hr

theorem RE.op0 {P : Program} {n : Nat} {ops : Array Oper} {o : Oper} {rest : List Oper} {env : Env} {bs bs' : List Blk} {v : AV} {Post : St → Prop}
    (h : OpT P o ⟨env, bs⟩ v bs') (hg : o.guard = none) (hd : o.dst = none) (k : RE P n ops rest ⟨env, bs'⟩ Post) : RE P n ops (o :: rest) ⟨env, bs⟩ Post := by
  obtain ⟨s', hr, hp⟩ := k
  refine ⟨s', .op o rest ⟨env, bs⟩ v bs' s' (by rw [hg]; trivial) (fun d' e => by rw [hd] at e; cases e) h ?_, hp⟩
  rw [hd]; exact hr

theorem RE.opg {P : Program} {n : Nat} {ops : Array Oper} {o : Oper} {rest : List Oper} {env : Env} {bs bs' : List Blk} {d j g : Nat} {want : Bool} {v : AV} {Post : St → Prop}
    (h : OpT P o ⟨env, bs⟩ v bs') (hg : o.guard = some (j, want)) (hj : ((ops[j]?).bind (·.dst)) = some g) (he : env.get g = some (.bool want)) (hd : o.dst = some d) (hn : Nat.blt d n = true)
    (k : RE P n ops rest ⟨(d, v) :: env, bs'⟩ Post) : RE P n ops (o :: rest) ⟨env, bs⟩ Post := by
  obtain ⟨s', hr, hp⟩ := k
  refine ⟨s', .op o rest ⟨env, bs⟩ v bs' s' (by rw [hg]; exact ⟨g, hj, he⟩) (fun d' e => ?_) h ?_, hp⟩
  · rw [hd] at e; obtain rfl := Option.some.inj e; simpa [Nat.blt_eq] using hn
  · rw [hd]; exact hr

theorem RE.skip {P : Program} {n : Nat} {ops : Array Oper} {o : Oper} {rest : List Oper} {env : Env} {bs : List Blk} {d j g : Nat} {want b : Bool} {Post : St → Prop}
    (hg : o.guard = some (j, want)) (hj : ((ops[j]?).bind (·.dst)) = some g) (he : env.get g = some (.bool b)) (hb : b = !want) (hd : o.dst = some d) (hn : Nat.blt d n = true)
    (k : RE P n ops rest ⟨(d, .tup []) :: env, bs⟩ Post) : RE P n ops (o :: rest) ⟨env, bs⟩ Post := by
  subst hb
  obtain ⟨s', hr, hp⟩ := k
  refine ⟨s', .skip o rest ⟨env, bs⟩ s' (by rw [hg]; exact ⟨g, hj, .inl he⟩) (fun d' e => ?_) ?_, hp⟩
  · rw [hd] at e; obtain rfl := Option.some.inj e; simpa [Nat.blt_eq] using hn
  · simp only [St.put, hd]; exact hr

theorem RE.skip0 {P : Program} {n : Nat} {ops : Array Oper} {o : Oper} {rest : List Oper} {env : Env} {bs : List Blk} {j g : Nat} {want b : Bool} {Post : St → Prop}
    (hg : o.guard = some (j, want)) (hj : ((ops[j]?).bind (·.dst)) = some g) (he : env.get g = some (.bool b)) (hb : b = !want) (hd : o.dst = none)
    (k : RE P n ops rest ⟨env, bs⟩ Post) : RE P n ops (o :: rest) ⟨env, bs⟩ Post := by
  subst hb
  obtain ⟨s', hr, hp⟩ := k
  refine ⟨s', .skip o rest ⟨env, bs⟩ s' (by rw [hg]; exact ⟨g, hj, .inl he⟩) (fun d' e => by rw [hd] at e; cases e) ?_, hp⟩
  simp only [St.put, hd]; exact hr

theorem RE.skipu {P : Program} {n : Nat} {ops : Array Oper} {o : Oper} {rest : List Oper} {env : Env} {bs : List Blk} {d j g : Nat} {want : Bool} {Post : St → Prop}
    (hg : o.guard = some (j, want)) (hj : ((ops[j]?).bind (·.dst)) = some g) (he : env.get g = some (.tup [])) (hd : o.dst = some d) (hn : Nat.blt d n = true)
    (k : RE P n ops rest ⟨(d, .tup []) :: env, bs⟩ Post) : RE P n ops (o :: rest) ⟨env, bs⟩ Post := by
  obtain ⟨s', hr, hp⟩ := k
  refine ⟨s', .skip o rest ⟨env, bs⟩ s' (by rw [hg]; exact ⟨g, hj, .inr he⟩) (fun d' e => ?_) ?_, hp⟩
  · rw [hd] at e; obtain rfl := Option.some.inj e; simpa [Nat.blt_eq] using hn
  · simp only [St.put, hd]; exact hr

theorem T_reg {P : Program} {n m id : Nat} {ops : List Oper} {s : St} {Q : Exit → St → Prop} (h : RE P n ops.toArray ops s (fun s' => ∃ s2, Weak n m s' s2 ∧ Q .normal s2)) :
    T P n m (.region id ops.toArray false) s Q := by
  obtain ⟨s', hr, s2, hw, hq⟩ := h
  intro X r a w H
  exact wpIn_mono (T_region (Q := fun e s3 => e = .normal ∧ s3 = s') hr ⟨rfl, rfl⟩ X r a w H) fun e a' w' ⟨s3, ⟨he, hs⟩, H'⟩ => by subst he hs; exact ⟨s2, hq, hw _ _ _ _ H'⟩

theorem T_out {P : Program} {n m : Nat} {c : Code} {s : St} {Q : Exit → St → Prop} (e0 : Exit) (s0 : St) (h : T P n m c s (fun e s' => e = e0 ∧ Weak n m s' s0)) (k : Q e0 s0) : T P n m c s Q := by
  intro X r a w H
  exact wpIn_mono (h X r a w H) fun e a' w' ⟨s3, ⟨he, hs⟩, H'⟩ => by subst he; exact ⟨s0, k, hs _ _ _ _ H'⟩

theorem T_reg_out {P : Program} {n m id : Nat} {ops : List Oper} {s : St} {Q : Exit → St → Prop} (s0 : St) (h : RE P n ops.toArray ops s (fun s' => Weak n m s' s0)) (k : Q .normal s0) :
    T P n m (.region id ops.toArray false) s Q :=
  T_reg (let ⟨s', hr, hw⟩ := h; ⟨s', hr, s0, hw, k⟩)

theorem getb {env : Env} {g : Nat} {b c : Bool} (h : b = c) (e : env.get g = some (.bool b)) : env.get g = some (.bool c) := by rw [e, h]
theorem evb {env : Env} {x : Operand} {b c : Bool} (h : b = c) (e : ev env x = some (.bool b)) : ev env x = some (.bool c) := by rw [e, h]
theorem not_t {b : Bool} (h : b = false) : (!b) = true := by rw [h]; rfl
theorem not_f {b : Bool} (h : b = true) : (!b) = false := by rw [h]; rfl

theorem T_yes {P : Program} {n m : Nat} {c : Operand} {x y : Code} {s : St} {Q : Exit → St → Prop} {b : Bool} (hc : ev s.env c = some (.bool b)) (hb : b = true) (h : T P n m x s Q) : T P n m (.cond c x y) s Q :=
  T_cond hc (fun _ => h) (fun e => by rw [hb] at e; cases e)
theorem T_no {P : Program} {n m : Nat} {c : Operand} {x y : Code} {s : St} {Q : Exit → St → Prop} {b : Bool} (hc : ev s.env c = some (.bool b)) (hb : b = false) (h : T P n m y s Q) : T P n m (.cond c x y) s Q :=
  T_cond hc (fun e => by rw [hb] at e; cases e) (fun _ => h)

/-- An element of a list, where there is one. -/
def idx {α : Type} (l : List α) (i : Int) : Option α := if 0 ≤ i then l[i.toNat]? else none

theorem idx_pos {α : Type} {l : List α} {i : Int} {x : α} (h : idx l i = some x) : 0 ≤ i := by
  unfold idx at h; split at h
  · assumption
  · cases h
theorem idx_get {α : Type} {l : List α} {i : Int} {x : α} (h : idx l i = some x) : l[i.toNat]? = some x := by
  unfold idx at h; split at h
  · exact h
  · cases h
theorem idx_map {α : Type} {l : List α} {i : Int} {x : α} (h : idx l i = some x) (f : α → AV) : (l.map f)[i.toNat]? = some (f x) := by
  rw [List.getElem?_map, idx_get h]; rfl

def Sel (env : Env) : Env → Prop
  | [] => True
  | (t, v) :: r => env.get t = some v ∧ Sel env r

theorem sel_get {env : Env} : ∀ {env' : Env}, Sel env env' → ∀ (t : Nat) (v : AV), env'.get t = some v → env.get t = some v
  | [], _, t, v, e => by simp [Env.get] at e
  | (t', v') :: r, h, t, v, e => by
    simp only [Env.get_cons] at e
    split at e
    · rename_i ht; subst ht; obtain rfl := Option.some.inj e; exact h.1
    · exact sel_get h.2 t v e

theorem weak_sel {n m : Nat} {env env' : Env} {bs bs' : List Blk} (h : Sel env env') (hb : bs = bs') : Weak n m ⟨env, bs⟩ ⟨env', bs'⟩ := by
  subst hb
  exact Weak.env (sel_get h)

mutual
/-- No block from number k on is in the value. -/
def below (k : Nat) : AV → Bool
  | .ptr i _ | .rptr i _ _ _ | .slc i _ _ _ _ | .gsl i _ | .map i | .yld i | .optr i _ _ _ _ | .oslc i _ _ _ _ _ => Nat.blt i k
  | .agg cs | .tup cs | .fn _ cs => belows k cs
  | _ => true
def belows (k : Nat) : List AV → Bool
  | [] => true
  | v :: r => match below k v with
    | true => belows k r
    | false => false
end
def belowE (k : Nat) : Env → Bool
  | [] => true
  | (_, v) :: r => match below k v with
    | true => belowE k r
    | false => false
def belowM (k : Nat) : List (AV × AV) → Bool
  | [] => true
  | (_, v) :: r => match below k v with
    | true => belowM k r
    | false => false
def belowB (k : Nat) : List Blk → Bool
  | [] => true
  | .cells cs :: r => match belows k cs with
    | true => belowB k r
    | false => false
  | .rows _ xs :: r => match belows k xs with
    | true => belowB k r
    | false => false
  | .grow _ _ _ :: r => belowB k r
  | .gone :: r => belowB k r
  | .own _ _ xs :: r => match belows k xs with
    | true => belowB k r
    | false => false
  | .lp _ env _ _ _ _ _ :: r => match belowE k env with
    | true => belowB k r
    | false => false
  | .map es :: r => match belowM k es with
    | true => belowB k r
    | false => false

theorem belows_get {k : Nat} : ∀ {cs : List AV}, belows k cs = true → ∀ (j : Nat) v, cs[j]? = some v → below k v = true
  | [], _, j, v, e => by simp at e
  | u :: r, h, j, v, e => by
    simp only [belows] at h
    split at h
    · rename_i hu
      cases j with
      | zero => simp at e; subst e; exact hu
      | succ j => exact belows_get h j v (by simpa using e)
    · cases h

theorem belows_app {k : Nat} : ∀ {cs ds : List AV}, belows k cs = true → belows k ds = true → belows k (cs ++ ds) = true
  | [], _, _, h => h
  | u :: r, ds, h, h' => by
    simp only [List.cons_append, belows] at h ⊢
    split at h
    · rename_i e; exact belows_app h h'
    · cases h

theorem below_cells {k : Nat} {x : AV} (h : below k x = true) : belows k x.cells = true := by
  cases x with
  | agg cs => simpa [below, AV.cells] using h
  | _ => simp only [AV.cells, belows, h]

theorem belows_flat {k : Nat} : ∀ {xs : List AV}, belows k xs = true → belows k (flat xs) = true
  | [], _ => rfl
  | u :: r, h => by
    simp only [belows] at h
    split at h
    · rename_i e
      exact belows_app (below_cells e) (belows_flat h)
    · cases h

theorem belowE_get {k : Nat} : ∀ {env : Env}, belowE k env = true → ∀ (t : Nat) v, env.get t = some v → below k v = true
  | [], _, t, v, e => by simp [Env.get] at e
  | (d, u) :: r, h, t, v, e => by
    simp only [belowE] at h
    split at h
    · rename_i hu
      simp only [Env.get_cons] at e
      split at e
      · obtain rfl := Option.some.inj e; exact hu
      · exact belowE_get h t v e
    · cases h

theorem belowM_get {k : Nat} : ∀ {es : List (AV × AV)}, belowM k es = true → ∀ (j : Nat) e, es[j]? = some e → below k e.2 = true
  | [], _, j, e, h => by simp at h
  | (a, u) :: r, h, j, e, he => by
    simp only [belowM] at h
    split at h
    · rename_i hu
      cases j with
      | zero => simp at he; subst he; exact hu
      | succ j => exact belowM_get h j e (by simpa using he)
    · cases h

theorem belowB_get {k : Nat} : ∀ {bs : List Blk}, belowB k bs = true → ∀ (j : Nat) b, bs[j]? = some b → belowB k [b] = true
  | [], _, j, b, e => by simp at e
  | c :: r, h, j, b, e => by
    have hc : belowB k [c] = true ∧ belowB k r = true := by
      cases c with
      | cells cs =>
        simp only [belowB] at h ⊢
        split at h
        · exact ⟨rfl, h⟩
        · cases h
      | rows sz xs =>
        simp only [belowB] at h ⊢
        split at h
        · exact ⟨rfl, h⟩
        · cases h
      | grow => exact ⟨rfl, h⟩
      | gone => exact ⟨rfl, h⟩
      | own e sz xs =>
        simp only [belowB] at h ⊢
        split at h
        · exact ⟨rfl, h⟩
        · cases h
      | lp n env ps as cd st pe =>
        simp only [belowB] at h ⊢
        split at h
        · exact ⟨rfl, h⟩
        · cases h
      | map es =>
        simp only [belowB] at h ⊢
        split at h
        · exact ⟨rfl, h⟩
        · cases h
    cases j with
    | zero => simp at e; subst e; exact hc.1
    | succ j => exact belowB_get hc.2 j b (by simpa using e)

def Ghost.cut (G : Ghost) (k : Nat) : Ghost := ⟨fun i => if i < k then G.cl i else none, fun i => if i < k then G.gr i else none, G.Z, G.ok⟩

theorem r_cut {G : Ghost} {k : Nat} {v : AV} {cv : Value} (h : R G v cv) : below k v = true → R (G.cut k) v cv := by
  induction h with
  | imm v cv h => exact fun _ => .imm v cv h
  | und cv => exact fun _ => .und cv
  | ptr i o c h => intro hb; have : i < k := by simpa [below, Nat.blt_eq] using hb
                   exact .ptr i o c (by simp [Ghost.cut, this, h])
  | rptr i j sz o c h => intro hb; have : i < k := by simpa [below, Nat.blt_eq] using hb
                         exact .rptr i j sz o c (by simp [Ghost.cut, this, h])
  | slc i o sz len cap c ccap h hl hc => intro hb; have : i < k := by simpa [below, Nat.blt_eq] using hb
                                         exact .slc i o sz len cap c ccap (by simp [Ghost.cut, this, h]) hl hc
  | gsl i len b l c h => intro hb; have : i < k := by simpa [below, Nat.blt_eq] using hb
                         exact .gsl i len b l c (by simp [Ghost.cut, this, h])
  | stale i len g b l c h hn => intro hb; have : i < k := by simpa [below, Nat.blt_eq] using hb
                                exact .stale i len g b l c (by simp [Ghost.cut, this, h]) hn
  | map i c h => intro hb; have : i < k := by simpa [below, Nat.blt_eq] using hb
                 exact .map i c (by simp [Ghost.cut, this, h])
  | yld i c h => intro hb; have : i < k := by simpa [below, Nat.blt_eq] using hb
                 exact .yld i c (by simp [Ghost.cut, this, h])
  | optr i n j sz o c l cap h => intro hb; have : i < k := by simpa [below, Nat.blt_eq] using hb
                                 exact .optr i n j sz o c l cap (by simp [Ghost.cut, this, h])
  | optrS i n j sz o g b h hn => intro hb; have : i < k := by simpa [below, Nat.blt_eq] using hb
                                 exact .optrS i n j sz o g b (by simp [Ghost.cut, this, h]) hn
  | oslc i n o sz len cap c l lcap ccap h hl hc => intro hb; have : i < k := by simpa [below, Nat.blt_eq] using hb
                                                   exact .oslc i n o sz len cap c l lcap ccap (by simp [Ghost.cut, this, h]) hl hc
  | oslcS i n o sz len cap g b l c h hn => intro hb; have : i < k := by simpa [below, Nat.blt_eq] using hb
                                           exact .oslcS i n o sz len cap g b l c (by simp [Ghost.cut, this, h]) hn
  | agg cs vs hl _ ih => exact fun hb => .agg cs vs hl fun j v cv e1 e2 => ih j v cv e1 e2 (belows_get (by simpa [below] using hb) j v e1)
  | tup cs vs hl _ ih => exact fun hb => .tup cs vs hl fun j v cv e1 e2 => ih j v cv e1 e2 (belows_get (by simpa [below] using hb) j v e1)
  | fn f cs vs hl _ ih => exact fun hb => .fn f cs vs hl fun j v cv e1 e2 => ih j v cv e1 e2 (belows_get (by simpa [below] using hb) j v e1)

theorem cut_cl {G : Ghost} {k i c : Nat} (h : (G.cut k).cl i = some c) : i < k ∧ G.cl i = some c := by
  simp only [Ghost.cut] at h; split at h
  · exact ⟨by assumption, h⟩
  · cases h
theorem cut_gr {G : Ghost} {k i : Nat} {g : Gr} (h : (G.cut k).gr i = some g) : i < k ∧ G.gr i = some g := by
  simp only [Ghost.cut] at h; split at h
  · exact ⟨by assumption, h⟩
  · cases h
theorem cut_owns {G : Ghost} {k i c : Nat} (h : (G.cut k).owns i c) : G.owns i c := by
  rcases h with h | ⟨g, h, e⟩
  · exact .inl (cut_cl h).2
  · exact .inr ⟨g, (cut_gr h).2, e⟩

theorem Inv.cut {G : Ghost} {bs : List Blk} {w : World} (h : Inv G bs w) {k : Nat} (hB : belowB k (bs.take k) = true) : Inv (G.cut k) (bs.take k) w where
  blk i b hb := by
    rw [List.getElem?_take] at hb
    split at hb
    · rename_i hi
      have hB' := belowB_get hB i b (by rw [List.getElem?_take, if_pos hi]; exact hb)
      have hO := h.blk i b hb
      have key : ∀ cs, belows k cs = true → CellsOk G w i cs → CellsOk (G.cut k) w i cs := fun cs hb2 hO => by
        refine ⟨by simp [Ghost.cut, hO.1], fun c hc => ?_⟩
        obtain ⟨arr, e, h1, h2, h3, h4⟩ := hO.2 c (cut_cl hc).2
        exact ⟨arr, e, h1, h2, fun j v cv e1 e2 => r_cut (h3 j v cv e1 e2) (belows_get hb2 j v e1), h4⟩
      cases b with
      | rows sz xs =>
        have hb2 : belows k xs = true := by
          simp only [belowB] at hB'
          cases hx : belows k xs with
          | true => rfl
          | false => rw [hx] at hB'; cases hB'
        exact ⟨key _ (belows_flat hb2) hO.1, hO.2⟩
      | cells cs =>
        have hb2 : belows k cs = true := by
          simp only [belowB] at hB'
          cases hx : belows k cs with
          | true => rfl
          | false => rw [hx] at hB'; cases hB'
        exact key cs hb2 hO
      | grow e sz xs => exact ⟨by simp [Ghost.cut, hO.1], fun g hg => hO.2 g (cut_gr hg).2⟩
      | own e sz xs =>
        have hb2 : belows k xs = true := by
          simp only [belowB] at hB'
          cases hx : belows k xs with
          | true => rfl
          | false => rw [hx] at hB'; cases hB'
        refine ⟨by simp [Ghost.cut, hO.1], fun g hg => ?_⟩
        obtain ⟨h1, h2, h3, cs, h4, h5, h6⟩ := hO.2 g (cut_gr hg).2
        exact ⟨h1, h2, h3, cs, h4, fun j x q v cv e1 e2 e3 => r_cut (h5 j x q v cv e1 e2 e3) (belows_get (below_cells (belows_get hb2 j x e1)) q v e2), h6⟩
      | lp n env ps as cd st pe =>
        have hb2 : belowE k env = true := by
          simp only [belowB] at hB'
          cases hx : belowE k env with
          | true => rfl
          | false => rw [hx] at hB'; cases hB'
        refine ⟨by simp [Ghost.cut, hO.1], fun c hc => ?_⟩
        obtain ⟨rec, h1, h2, h3, h4, h5, h6, h7, h8, h9⟩ := hO.2 c (cut_cl hc).2
        exact ⟨rec, h1, h2, h3, h4, h5, h6, h7, fun t v e => let ⟨cv, e1, r⟩ := h8 t v e; ⟨cv, e1, r_cut r (belowE_get hb2 t v e)⟩, h9⟩
      | gone => exact ⟨by simp [Ghost.cut, hO.1], by simp [Ghost.cut, hO.2]⟩
      | map es =>
        refine ⟨by simp [Ghost.cut, hO.1], fun c hc => ?_⟩
        obtain ⟨ents, clock, h1, h2, h3, h4⟩ := hO.2 c (cut_cl hc).2
        have hb2 : belowM k es = true := by
          simp only [belowB] at hB'
          cases hx : belowM k es with
          | true => rfl
          | false => rw [hx] at hB'; cases hB'
        exact ⟨ents, clock, h1, h2, fun j e ce e1 e2 => ⟨(h3 j e ce e1 e2).1, r_cut (h3 j e ce e1 e2).2 (belowM_get hb2 j e e1)⟩, h4⟩
    · cases hb
  dom i hi := by
    by_cases hk : i < k
    · have : bs.length ≤ i := by simp at hi; omega
      simp [Ghost.cut, hk, h.dom i this]
    · simp [Ghost.cut, hk]
  inj i j c h1 h2 := h.inj i j c (cut_owns h1) (cut_owns h2)
  z := h.z

/-- Fewer slots, and the store's newest blocks forgotten. -/
theorem Ev.cut (G : Ghost) (w : World) (k : Nat) : Ev G w (G.cut k) w :=
  ⟨rfl, rfl, rfl, Nat.le_refl _, .refl _, fun _ _ _ h => .inl h, fun _ _ _ => rfl, fun i _ h => .inr ⟨i, cut_owns h⟩, fun _ rec h => ⟨rec, h⟩⟩

theorem weak_cut {n m : Nat} {env env' : Env} {bs bs' : List Blk} (k : Nat) (h : Sel env env') (hb : bs.take k = bs') (hm : Nat.ble m k = true) (hE : belowE k env' = true) (hB : belowB k bs' = true) :
    Weak n m ⟨env, bs⟩ ⟨env', bs'⟩ := by
  subst hb
  intro X r a w H
  obtain ⟨G, hEn, hI, hx, ha⟩ := H.st
  have hmk : m ≤ k := Nat.le_of_ble_eq_true hm
  refine ⟨⟨G.cut k, fun t v e => ?_, hI.cut hB, X.go G w _ w hx (Ev.cut G w k) (fun i hi c e => ?_) (fun i hi g e => ⟨g, ?_, .inl rfl⟩), ha.ev (Ev.cut G w k)⟩, H.sz⟩
  · obtain ⟨cv, e1, r⟩ := hEn t v (sel_get h t v e)
    exact ⟨cv, e1, r_cut r (belowE_get hE t v e)⟩
  · simp [Ghost.cut, show i < k by omega, e]
  · simp [Ghost.cut, show i < k by omega, e]

theorem then_normal {next : St → Prop} {Q : Exit → St → Prop} {s : St} (h : next s) : thenT next Q .normal s := h
theorem then_exit {next : St → Prop} {Q : Exit → St → Prop} {s : St} {i : Nat} (h : Q (.exit i) s) : thenT next Q (.exit i) s := h
theorem then_ret {next : St → Prop} {Q : Exit → St → Prop} {s : St} (h : Q .ret s) : thenT next Q .ret s := h
theorem block_normal {i : Nat} {Q : Exit → St → Prop} {s : St} (h : Q .normal s) : inBlockT i Q .normal s := h
theorem block_ret {i : Nat} {Q : Exit → St → Prop} {s : St} (h : Q .ret s) : inBlockT i Q .ret s := h
theorem block_eq {i : Nat} {Q : Exit → St → Prop} {s : St} (h : Q .normal s) : inBlockT i Q (.exit i) s := by simp only [inBlockT, Nat.beq_refl]; exact h
theorem block_ne {i j : Nat} {Q : Exit → St → Prop} {s : St} (hn : Nat.beq j i = false) (h : Q (.exit j) s) : inBlockT i Q (.exit j) s := by simp only [inBlockT, hn]; exact h

/-- At the head of a loop with the body c. -/
def LoopAt (P : Program) (n m : Nat) (c : Code) (s : St) (Q : Exit → St → Prop) : Prop :=
  ∀ (X : Prot m) r a w, Holds n X r s a w → ∀ (b : Frame) (k : List Item) (cs : List Frame), b.roundOf = (Wd r).round → (Wd r).fn b.fn → (Wd r).room (cs.length + 1 + 0) →
    ∃ e a' w', (∃ s', Q e s' ∧ Holds n X r s' a' w') ∧ ArrivesIn (Machine.fenced P (Wd r)) P (lone (b.atR a (.code c :: .inLoop c :: k)) cs w) b k cs e a' w'

theorem loop_round {P : Program} {n m : Nat} {c : Code} {s : St} {Q : Exit → St → Prop} (h : T P n m c s (thenT (fun s' => LoopAt P n m c s' Q) Q)) : LoopAt P n m c s Q := by
  intro X r a w H b k cs hro hb hr
  obtain ⟨e, a1, w1, ⟨s', q, H'⟩, harr⟩ := h X r a w H b (.inLoop c :: k) cs hro hb hr
  cases e with
  | normal =>
    obtain ⟨e2, a2, w2, hq2, harr2⟩ := q X r a1 w1 H' b k cs hro hb hr
    exact ⟨e2, a2, w2, hq2, .of_steps (StepsIn.trans harr (.one (fenced_calm hb hr rfl) stepR_inLoop)) harr2⟩
  | exit id => exact ⟨_, a1, w1, ⟨s', q, H'⟩, .pass (x := .inLoop c) rfl (fun _ _ => .inl (by simp)) harr⟩
  | goto l => exact ⟨_, a1, w1, ⟨s', q, H'⟩, .pass (x := .inLoop c) rfl (fun _ _ => .inl (by simp)) harr⟩
  | ret => exact ⟨_, a1, w1, ⟨s', q, H'⟩, .pass (x := .inLoop c) rfl (fun _ _ => .inl (by simp)) harr⟩
  | panic ch => exact ⟨_, a1, w1, ⟨s', q, H'⟩, .pass (x := .inLoop c) rfl (fun _ _ => .inl (by simp)) harr⟩
  | outgrown => exact ⟨_, a1, w1, ⟨s', q, H'⟩, .pass (x := .inLoop c) rfl (fun _ _ => .inl (by simp)) harr⟩

theorem LoopAt.weak {P : Program} {n m : Nat} {c : Code} {s s' : St} {Q : Exit → St → Prop} (hw : Weak n m s s') (h : LoopAt P n m c s' Q) : LoopAt P n m c s Q :=
  fun X r a w H => h X r a w (hw _ _ _ _ H)

theorem T_head {P : Program} {n m : Nat} {c : Code} {s : St} {Q : Exit → St → Prop} (h : LoopAt P n m c s Q) : T P n m (.loop c) s Q := by
  intro X r a w H b k cs hro hb hr
  obtain ⟨e, a', w', hq, harr⟩ := h X r a w H b k cs hro hb hr
  exact ⟨e, a', w', hq, .of_steps (.one (fenced_calm hb hr rfl) stepR_loop) harr⟩

/-- A loop of which a plain function, by rounds, tells where it ends. -/
theorem T_fix {P : Program} {n m : Nat} {c : Code} {X O : Type} (L : Nat → X → Option O) (inv : X → St) (eo : O → Exit) (so : O → St) (h0 : ∀ x, L 0 x = none)
    (hs : ∀ k, (∀ x o, L k x = some o → LoopAt P n m c (inv x) (fun e s' => e = eo o ∧ Weak n m s' (so o))) →
      ∀ x o, L (k + 1) x = some o → T P n m c (inv x) (thenT (fun s' => LoopAt P n m c s' (fun e s' => e = eo o ∧ Weak n m s' (so o))) (fun e s' => e = eo o ∧ Weak n m s' (so o)))) :
    ∀ k x o, L k x = some o → LoopAt P n m c (inv x) (fun e s' => e = eo o ∧ Weak n m s' (so o)) := by
  intro k
  induction k with
  | zero => intro x o h; rw [h0] at h; cases h
  | succ k ih => exact fun x o h => loop_round (hs k ih x o h)

/-- A loop, and what stands behind it. -/
theorem T_loop_out {P : Program} {n m : Nat} {c : Code} {s : St} {Q : Exit → St → Prop} (s1 : St) (e0 : Exit) (s0 : St) (hw : Weak n m s s1)
    (h : LoopAt P n m c s1 (fun e s' => e = e0 ∧ Weak n m s' s0)) (k : Q e0 s0) : T P n m (.loop c) s Q :=
  T_out e0 s0 (T_head (h.weak hw)) k

/-! ### scopes -/

theorem stepR_scope {P : Program} {b : Frame} {a : Act} {k : List Item} {cs : List Frame} {w : World} {c : Code} :
    step P (lone (b.atR a (.code (.scope c) :: k)) cs w) = .next (lone (b.atR a (.code c :: .inScope c :: k)) cs w) :=
  step_lone_go (by simp [stepG, stepG.exec, Frame.atR])
theorem stepR_inScope {P : Program} {b : Frame} {a : Act} {k : List Item} {cs : List Frame} {w : World} {c : Code} :
    step P (lone (b.atR a (.inScope c :: k)) cs w) = .next (lone (b.atR a k) cs w) :=
  step_lone_go (by simp [stepG, stepG.exec, Frame.atR])

theorem T_scope {P : Program} {n m : Nat} {c : Code} {s : St} {Q : Exit → St → Prop} (h : T P n m c s Q) (hg : ∀ l s, ¬ Q (.goto l) s) : T P n m (.scope c) s Q := by
  intro X r a w H b k cs hro hb hr
  obtain ⟨e, a1, w1, ⟨s', q, H'⟩, harr⟩ := h X r a w H b (.inScope c :: k) cs hro hb hr
  have h0 : StepsIn (Machine.fenced P (Wd r)) P (lone (b.atR a (.code (.scope c) :: k)) cs w) (lone (b.atR a (.code c :: .inScope c :: k)) cs w) := .one (fenced_calm hb hr rfl) stepR_scope
  cases e with
  | normal => exact ⟨.normal, a1, w1, ⟨s', q, H'⟩, StepsIn.trans h0 (StepsIn.trans harr (.one (fenced_calm hb hr rfl) stepR_inScope))⟩
  | exit id =>
    have hx : exitTo id (.inScope c :: k) = exitTo id k := by simp [exitTo]
    exact ⟨_, a1, w1, ⟨s', q, H'⟩, .of_steps h0 ⟨fun k' hk => harr.1 k' (by rw [hx]; exact hk), fun hr hk => harr.2 hr (by rw [hx]; exact hk)⟩⟩
  | goto l => exact absurd q (hg _ _)
  | ret => exact ⟨_, a1, w1, ⟨s', q, H'⟩, .of_steps h0 harr⟩
  | panic ch => exact ⟨_, a1, w1, ⟨s', q, H'⟩, .of_steps h0 harr⟩
  | outgrown => exact ⟨_, a1, w1, ⟨s', q, H'⟩, .of_steps h0 harr⟩

end
end Go.Proofs.YtelgmdljcbkniaaDoor.Ai
