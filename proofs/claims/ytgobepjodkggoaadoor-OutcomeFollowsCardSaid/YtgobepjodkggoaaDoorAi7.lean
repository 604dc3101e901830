/- An interpreter of values for the model's code, text 7: the rules in the form in which a program writes their use. -/
import Derived.Test.YtgobepjodkggoaaDoorAi6
namespace Go.Proofs.YtgobepjodkggoaaDoor.Ai
open Go

theorem imms_append {bs : List Blk} : ∀ {vs ws xs ys : List AV}, imms bs vs = some xs → imms bs ws = some ys → imms bs (vs ++ ws) = some (xs ++ ys)
  | [], ws, xs, ys, h1, h2 => by simp only [imms, Option.some.injEq] at h1; subst h1; exact h2
  | v :: r, ws, xs, ys, h1, h2 => by
    simp only [imms] at h1
    split at h1
    · rename_i x xs' e1 e2
      obtain rfl := Option.some.inj h1
      simp only [List.cons_append, imms, e1, imms_append e2 h2]
    · cases h1

/-- A call of a function that came in as a parameter. -/
theorem op_callp {P : Program} {o : Oper} {s : St} {x : Operand} {xs : List Operand} {ts : Array TypeId} {f : FuncId} {cap vs avs : List AV} {S : List AV → AV → Prop} {v : AV}
    (ho : o.op = .call { callee := .value x, args := xs.toArray, argTypes := ts }) (hx : ev s.env x = some (.fn f cap)) (hv : evs s.env xs = some vs)
    (hC : ∀ bs, imms bs cap = some cap) (hen : Enters P f) (hS : VOk P f S) (h : S (avs ++ cap) v) (hi : imms s.bs vs = some avs := by rfl) : OpT P o s v s.bs :=
  op_call ho hx hv (imms_append hi (hC _)) hen hS h

mutual
/-- A value as one reads it now: a variable of the store with what it holds. -/
def immr (bs : List Blk) : AV → Option AV
  | .ptr i o => match bs[i]? with
    | some (.cells cs) => if o < cs.length then (imms bs cs).map fun ds => .eptr [.agg ds] 0 o else none
    | _ => none
  | .fn f cs => (immrs bs cs).map (.fn f)
  | v => imm bs v
def immrs (bs : List Blk) : List AV → Option (List AV)
  | [] => some []
  | v :: r => match immr bs v, immrs bs r with
    | some x, some xs => some (x :: xs)
    | _, _ => none
end

theorem immrs_get {bs : List Blk} : ∀ {vs xs : List AV}, immrs bs vs = some xs → xs.length = vs.length ∧ ∀ (j : Nat) v x, vs[j]? = some v → xs[j]? = some x → immr bs v = some x
  | [], xs, h => by simp only [immrs, Option.some.injEq] at h; subst h; simp
  | v :: r, xs, h => by
    simp only [immrs] at h
    split at h
    · rename_i x xs' h1 h2
      obtain rfl := Option.some.inj h
      obtain ⟨hl, hr⟩ := immrs_get h2
      refine ⟨by simp [hl], fun j y z hy hz => ?_⟩
      cases j with
      | zero => simp at hy hz; subst hy hz; exact h1
      | succ j => exact hr j y z (by simpa using hy) (by simpa using hz)
    · cases h

open Classical in
/-- The cells that are not written while a function runs that only reads. -/
noncomputable def zread (G : Ghost) (w : World) : ZM := fun c o =>
  match G.Z c o with
  | some v => some v
  | none => if ∃ i, G.cl i = some c then w.cell? ⟨c, o, none⟩ else none

theorem zread_le (G : Ghost) (w : World) : G.Z.le (zread G w) := fun c o v h => by simp [zread, h]
theorem zread_ok {G : Ghost} {bs : List Blk} {w : World} (hI : Inv G bs w) {c o : Nat} {v : Value} (h : zread G w c o = some v) : w.cell? ⟨c, o, none⟩ = some v := by
  unfold zread at h
  split at h
  · rename_i u hu; obtain rfl := Option.some.inj h; exact hI.z c o _ hu
  · split at h
    · exact h
    · cases h

mutual
theorem immr_ri {G : Ghost} {bs : List Blk} {w : World} (hI : Inv G bs w) : ∀ {v : AV} {x : AV} {cv : Value}, immr bs v = some x → R G v cv → RI (zread G w) x cv := by
  intro v x cv hx h
  by_cases hp : ∃ i o, v = .ptr i o
  · obtain ⟨i, o, rfl⟩ := hp
    obtain ⟨c, hc, rfl⟩ := h.ptr_inv
    simp only [immr] at hx
    split at hx
    · rename_i cs hb
      split at hx
      · rename_i ho
        cases hd : imms bs cs with
        | none => simp [hd] at hx
        | some ds =>
          simp only [hd, Option.map_some, Option.some.injEq] at hx
          subst hx
          obtain ⟨arr, e, hh, hl, hr, hz⟩ := inv_cells hI hb hc
          have hlen := (imms_get hd).1
          have hcell : ∀ q, q < cs.length → zread G w c q = arr[q]? := fun q hq => by
            have : ∃ i, G.cl i = some c := ⟨i, hc⟩
            simp only [zread, hz q, this, if_true]
            simp [World.cell?, hh]
          have := RI.eptr (Z := zread G w) [.agg ds] 0 o ds.length c 0 (fun j y hy => by
              cases j with
              | zero => simp at hy; subst hy; rfl
              | succ j => simp at hy)
            (fun j y q u cu hy hq hcu => by
              cases j with
              | zero =>
                simp at hy; subst hy
                have hq2 : q < cs.length := by have := lt_of_get hq; simp only [AV.cells] at this; omega
                rw [show 0 + 0 * ds.length + q = q by omega, hcell q hq2] at hcu
                exact (imms_ri hI hd hr q u cu hq hcu).mono (zread_le G w)
              | succ j => simp at hy)
            (fun j q hj hq => by
              have hj0 : j = 0 := by simp at hj; omega
              subst hj0
              have hq2 : q < cs.length := by omega
              exact ⟨arr[q]'(by omega), by rw [show 0 + 0 * ds.length + q = q by omega, hcell q hq2]; simp⟩)
            (by simp) (by omega)
          simpa using this
      · cases hx
    · cases hx
  · by_cases hf : ∃ f cs, v = .fn f cs
    · obtain ⟨f, cs, rfl⟩ := hf
      obtain ⟨vs, rfl, hl, hr⟩ := h.fn_inv
      simp only [immr] at hx
      cases hc : immrs bs cs with
      | none => simp [hc] at hx
      | some xs =>
        simp only [hc, Option.map_some, Option.some.injEq] at hx
        subst hx
        exact .fn f xs vs (hl.trans (immrs_get hc).1.symm) (immrs_ri hI hc hr)
    · have : immr bs v = imm bs v := by
        cases v <;> first | rfl | exact absurd ⟨_, _, rfl⟩ hp | exact absurd ⟨_, _, rfl⟩ hf
      rw [this] at hx
      exact (imm_ri hI hx h).mono (zread_le G w)
termination_by v => SizeOf.sizeOf v
theorem immrs_ri {G : Ghost} {bs : List Blk} {w : World} (hI : Inv G bs w) : ∀ {cs xs : List AV} {vs : Array Value}, immrs bs cs = some xs →
    (∀ (j : Nat) v c, cs[j]? = some v → vs[j]? = some c → R G v c) → ∀ (j : Nat) x c, xs[j]? = some x → vs[j]? = some c → RI (zread G w) x c
  | [], xs, vs, hx, _, j, x, c, e, _ => by simp only [immrs, Option.some.injEq] at hx; subst hx; simp at e
  | v :: r, xs, vs, hx, hr, j, x, c, e1, e2 => by
    simp only [immrs] at hx
    split at hx
    · rename_i y ys h1 h2
      obtain rfl := Option.some.inj hx
      cases j with
      | zero => simp at e1; subst e1; exact immr_ri hI h1 (hr 0 v c (by simp) e2)
      | succ j =>
        exact immrs_ri hI (cs := r) (vs := (vs.toList.drop 1).toArray) h2 (fun k u d f1 f2 => hr (k + 1) u d (by simpa using f1) (by simpa [Nat.add_comm] using f2)) j x c (by simpa using e1) (by simpa [Nat.add_comm] using e2)
    · cases hx
termination_by cs => SizeOf.sizeOf cs
end

mutual
/-- Numbers, Bools and strings, alone or together: of no cell. -/
def scal : AV → Bool
  | .int _ _ | .bool _ | .str _ => true
  | .agg cs => scals cs
  | .tup cs => scals cs
  | _ => false
def scals : List AV → Bool
  | [] => true
  | v :: r => scal v && scals r
end

theorem scals_get : ∀ {cs : List AV}, scals cs = true → ∀ (j : Nat) v, cs[j]? = some v → scal v = true
  | [], _, j, v, e => by simp at e
  | u :: r, h, j, v, e => by
    simp only [scals, Bool.and_eq_true] at h
    cases j with
    | zero => simp at e; subst e; exact h.1
    | succ j => exact scals_get h.2 j v (by simpa using e)

theorem scal_ri {Z Z' : ZM} {v : AV} {cv : Value} (h : RI Z v cv) : scal v = true → RI Z' v cv := by
  induction h with
  | int k n => exact fun _ => .int k n
  | bool b => exact fun _ => .bool b
  | str s => exact fun _ => .str s
  | agg cs vs hl _ ih => exact fun hs => .agg cs vs hl fun j v cv e1 e2 => ih j v cv e1 e2 (scals_get (by simpa [scal] using hs) j v e1)
  | tup cs vs hl _ ih => exact fun hs => .tup cs vs hl fun j v cv e1 e2 => ih j v cv e1 e2 (scals_get (by simpa [scal] using hs) j v e1)
  | _ => intro hs; simp [scal] at hs

/-- A call that only reads, of variables of the store too (a closure's); the result is of no cell. -/
theorem op_call_ro {P : Program} {o : Oper} {s : St} {x : Operand} {xs : List Operand} {ts : Array TypeId} {f : FuncId} {cap vs avs : List AV} {S : List AV → AV → Prop} {v : AV}
    (ho : o.op = .call { callee := .value x, args := xs.toArray, argTypes := ts }) (hx : ev s.env x = some (.fn f cap)) (hv : evs s.env xs = some vs)
    (hi : immrs s.bs (vs ++ cap) = some avs) (hen : Enters P f) (hS : VOk P f S) (h : S avs v) (hs : scal v = true) : OpT P o s v s.bs := by
  intro G w a hI hE K Q hK
  obtain ⟨cc, hfe, hcl, hcr⟩ := (ev_r hE hx).fn_inv
  obtain ⟨hal, har⟩ := evs_map hE hv
  obtain ⟨hbl, hbr⟩ := r_append hal hcl har hcr
  unfold Oper.wp execOp
  simp only [ho, resolve, invoke, hfe, Deferred.ofValue, Sem.run_bind, Sem.run_pure, Result.andThen_ok, Array.empty_append, hen _ w, Oper.upon]
  refine (hS (zread G w) w _ avs v (G.ok.mono (zread_le G w)) (fun c o x e => zread_ok hI e) ⟨hbl.trans (immrs_get hi).1.symm, immrs_ri hI hi hbr⟩ h).mono fun e w' ⟨cv, Z', he, hA⟩ => ?_
  subst he
  have hz : ∀ c o v, G.Z c o = some v → w'.cell? ⟨c, o, none⟩ = some v := fun c o v e => by
    rw [cell_of_frame (hA.frame c (z_lt hI e))]; exact hI.z c o v e
  have hI' : Inv (G.setZ G.Z (.refl _)) s.bs w' := hI.later hA.size hA.frame (.refl _) (fun _ _ _ e => .inl e) hz
  exact hK cv w' G ⟨.imm _ _ (scal_ri hA.r hs), hI', .refl _, ⟨hA.os, hA.tape, hA.output, hA.size, .refl _, fun _ _ _ e => .inl e, fun c hc _ => hA.frame c hc, fun i c e => .inr ⟨i, e⟩⟩⟩

/-- The operations that are left of a region lead to a point where Post holds. -/
def RE (P : Program) (n : Nat) (ops : Array Oper) (l : List Oper) (s : St) (Post : St → Prop) : Prop := ∃ s', Run P n ops l s s' ∧ Post s'

theorem RE.nil {P : Program} {n : Nat} {ops : Array Oper} {s : St} {Post : St → Prop} (h : Post s) : RE P n ops [] s Post := ⟨s, .nil s, h⟩

theorem RE.op {P : Program} {n : Nat} {ops : Array Oper} {o : Oper} {rest : List Oper} {env : Env} {bs bs' : List Blk} {d : Nat} {v : AV} {Post : St → Prop}
    (h : OpT P o ⟨env, bs⟩ v bs') (hg : o.guard = none) (hd : o.dst = some d) (hn : Nat.blt d n = true) (k : RE P n ops rest ⟨(d, v) :: env, bs'⟩ Post) : RE P n ops (o :: rest) ⟨env, bs⟩ Post := by
  obtain ⟨s', hr, hp⟩ := k
  refine ⟨s', .op o rest ⟨env, bs⟩ v bs' s' (by rw [hg]; trivial) (fun d' e => ?_) h ?_, hp⟩
  · rw [hd] at e; obtain rfl := Option.some.inj e; simpa [Nat.blt_eq] using hn
  · rw [hd]; exact hr

theorem RE.op0 {P : Program} {n : Nat} {ops : Array Oper} {o : Oper} {rest : List Oper} {env : Env} {bs bs' : List Blk} {v : AV} {Post : St → Prop}
    (h : OpT P o ⟨env, bs⟩ v bs') (hg : o.guard = none) (hd : o.dst = none) (k : RE P n ops rest ⟨env, bs'⟩ Post) : RE P n ops (o :: rest) ⟨env, bs⟩ Post := by
  obtain ⟨s', hr, hp⟩ := k
  refine ⟨s', .op o rest ⟨env, bs⟩ v bs' s' (by rw [hg]; trivial) (fun d' e => by rw [hd] at e; cases e) h ?_, hp⟩
  rw [hd]; exact hr

theorem RE.opg {P : Program} {n : Nat} {ops : Array Oper} {o : Oper} {rest : List Oper} {env : Env} {bs bs' : List Blk} {d j g : Nat} {want : Bool} {v : AV} {Post : St → Prop}
    (h : OpT P o ⟨env, bs⟩ v bs') (hg : o.guard = some (j, want)) (hj : ((ops[j]?).bind (·.dst)) = some g) (he : env.get g = some (.bool want)) (hd : o.dst = some d) (hn : Nat.blt d n = true)
    (k : RE P n ops rest ⟨(d, v) :: env, bs'⟩ Post) : RE P n ops (o :: rest) ⟨env, bs⟩ Post := by
  obtain ⟨s', hr, hp⟩ := k
  refine ⟨s', .op o rest ⟨env, bs⟩ v bs' s' (by rw [hg]; exact ⟨g, hj, he⟩) (fun d' e => ?_) h ?_, hp⟩
  · rw [hd] at e; obtain rfl := Option.some.inj e; simpa [Nat.blt_eq] using hn
  · rw [hd]; exact hr

theorem RE.skip {P : Program} {n : Nat} {ops : Array Oper} {o : Oper} {rest : List Oper} {env : Env} {bs : List Blk} {d j g : Nat} {want b : Bool} {Post : St → Prop}
    (hg : o.guard = some (j, want)) (hj : ((ops[j]?).bind (·.dst)) = some g) (he : env.get g = some (.bool b)) (hb : b = !want) (hd : o.dst = some d) (hn : Nat.blt d n = true)
    (k : RE P n ops rest ⟨(d, .tup []) :: env, bs⟩ Post) : RE P n ops (o :: rest) ⟨env, bs⟩ Post := by
  subst hb
  obtain ⟨s', hr, hp⟩ := k
  refine ⟨s', .skip o rest ⟨env, bs⟩ s' (by rw [hg]; exact ⟨g, hj, .inl he⟩) (fun d' e => ?_) ?_, hp⟩
  · rw [hd] at e; obtain rfl := Option.some.inj e; simpa [Nat.blt_eq] using hn
  · simp only [St.put, hd]; exact hr

theorem RE.skip0 {P : Program} {n : Nat} {ops : Array Oper} {o : Oper} {rest : List Oper} {env : Env} {bs : List Blk} {j g : Nat} {want b : Bool} {Post : St → Prop}
    (hg : o.guard = some (j, want)) (hj : ((ops[j]?).bind (·.dst)) = some g) (he : env.get g = some (.bool b)) (hb : b = !want) (hd : o.dst = none)
    (k : RE P n ops rest ⟨env, bs⟩ Post) : RE P n ops (o :: rest) ⟨env, bs⟩ Post := by
  subst hb
  obtain ⟨s', hr, hp⟩ := k
  refine ⟨s', .skip o rest ⟨env, bs⟩ s' (by rw [hg]; exact ⟨g, hj, .inl he⟩) (fun d' e => by rw [hd] at e; cases e) ?_, hp⟩
  simp only [St.put, hd]; exact hr

theorem RE.skipu {P : Program} {n : Nat} {ops : Array Oper} {o : Oper} {rest : List Oper} {env : Env} {bs : List Blk} {d j g : Nat} {want : Bool} {Post : St → Prop}
    (hg : o.guard = some (j, want)) (hj : ((ops[j]?).bind (·.dst)) = some g) (he : env.get g = some (.tup [])) (hd : o.dst = some d) (hn : Nat.blt d n = true)
    (k : RE P n ops rest ⟨(d, .tup []) :: env, bs⟩ Post) : RE P n ops (o :: rest) ⟨env, bs⟩ Post := by
  obtain ⟨s', hr, hp⟩ := k
  refine ⟨s', .skip o rest ⟨env, bs⟩ s' (by rw [hg]; exact ⟨g, hj, .inr he⟩) (fun d' e => ?_) ?_, hp⟩
  · rw [hd] at e; obtain rfl := Option.some.inj e; simpa [Nat.blt_eq] using hn
  · simp only [St.put, hd]; exact hr

theorem T_reg {P : Program} {n m id : Nat} {ops : List Oper} {s : St} {Q : Exit → St → Prop} (h : RE P n ops.toArray ops s (fun s' => ∃ s2, Weak n m s' s2 ∧ Q .normal s2)) :
    T P n m (.region id ops.toArray false) s Q := by
  obtain ⟨s', hr, s2, hw, hq⟩ := h
  intro G0 w0 a w H
  exact wp_mono (T_region (Q := fun e s3 => e = .normal ∧ s3 = s') hr ⟨rfl, rfl⟩ G0 w0 a w H) fun e a' w' ⟨s3, ⟨he, hs⟩, H'⟩ => by subst he hs; exact ⟨s2, hq, hw _ _ _ _ H'⟩

/-- A point that is told by a name: the piece of code ends there, and goes on from there. -/
theorem T_out {P : Program} {n m : Nat} {c : Code} {s : St} {Q : Exit → St → Prop} (e0 : Exit) (s0 : St) (h : T P n m c s (fun e s' => e = e0 ∧ Weak n m s' s0)) (k : Q e0 s0) : T P n m c s Q := by
  intro G0 w0 a w H
  exact wp_mono (h G0 w0 a w H) fun e a' w' ⟨s3, ⟨he, hs⟩, H'⟩ => by subst he; exact ⟨s0, k, hs _ _ _ _ H'⟩

theorem T_reg_out {P : Program} {n m id : Nat} {ops : List Oper} {s : St} {Q : Exit → St → Prop} (s0 : St) (h : RE P n ops.toArray ops s (fun s' => Weak n m s' s0)) (k : Q .normal s0) :
    T P n m (.region id ops.toArray false) s Q :=
  T_reg (let ⟨s', hr, hw⟩ := h; ⟨s', hr, s0, hw, k⟩)

theorem getb {env : Env} {g : Nat} {b c : Bool} (h : b = c) (e : env.get g = some (.bool b)) : env.get g = some (.bool c) := by rw [e, h]
theorem evb {env : Env} {x : Operand} {b c : Bool} (h : b = c) (e : ev env x = some (.bool b)) : ev env x = some (.bool c) := by rw [e, h]
theorem not_t {b : Bool} (h : b = false) : (!b) = true := by rw [h]; rfl
theorem not_f {b : Bool} (h : b = true) : (!b) = false := by rw [h]; rfl

theorem T_yes {P : Program} {n m : Nat} {c : Operand} {x y : Code} {s : St} {Q : Exit → St → Prop} {b : Bool} (hc : ev s.env c = some (.bool b)) (hb : b = true) (h : T P n m x s Q) : T P n m (.cond c x y) s Q :=
  T_cond hc (fun _ => h) (fun e => by rw [hb] at e; cases e)
theorem T_no {P : Program} {n m : Nat} {c : Operand} {x y : Code} {s : St} {Q : Exit → St → Prop} {b : Bool} (hc : ev s.env c = some (.bool b)) (hb : b = false) (h : T P n m y s Q) : T P n m (.cond c x y) s Q :=
  T_cond hc (fun e => by rw [hb] at e; cases e) (fun _ => h)

/-- An element of a list, where there is one. -/
def idx {α : Type} (l : List α) (i : Int) : Option α := if 0 ≤ i then l[i.toNat]? else none

theorem idx_pos {α : Type} {l : List α} {i : Int} {x : α} (h : idx l i = some x) : 0 ≤ i := by
  unfold idx at h; split at h
  · assumption
  · cases h
theorem idx_get {α : Type} {l : List α} {i : Int} {x : α} (h : idx l i = some x) : l[i.toNat]? = some x := by
  unfold idx at h; split at h
  · exact h
  · cases h
theorem idx_map {α : Type} {l : List α} {i : Int} {x : α} (h : idx l i = some x) (f : α → AV) : (l.map f)[i.toNat]? = some (f x) := by
  rw [List.getElem?_map, idx_get h]; rfl

def Sel (env : Env) : Env → Prop
  | [] => True
  | (t, v) :: r => env.get t = some v ∧ Sel env r

theorem sel_get {env : Env} : ∀ {env' : Env}, Sel env env' → ∀ (t : Nat) (v : AV), env'.get t = some v → env.get t = some v
  | [], _, t, v, e => by simp [Env.get] at e
  | (t', v') :: r, h, t, v, e => by
    simp only [Env.get_cons] at e
    split at e
    · rename_i ht; subst ht; obtain rfl := Option.some.inj e; exact h.1
    · exact sel_get h.2 t v e

theorem weak_sel {n m : Nat} {env env' : Env} {bs bs' : List Blk} (h : Sel env env') (hb : bs = bs') : Weak n m ⟨env, bs⟩ ⟨env', bs'⟩ := by
  subst hb
  exact Weak.env (sel_get h)

mutual
/-- No block from number k on is in the value. -/
def below (k : Nat) : AV → Bool
  | .ptr i _ | .slc i _ _ _ | .gsl i _ | .map i => Nat.blt i k
  | .agg cs | .tup cs | .fn _ cs => belows k cs
  | _ => true
def belows (k : Nat) : List AV → Bool
  | [] => true
  | v :: r => match below k v with
    | true => belows k r
    | false => false
end
def belowE (k : Nat) : Env → Bool
  | [] => true
  | (_, v) :: r => match below k v with
    | true => belowE k r
    | false => false
def belowM (k : Nat) : List (AV × AV) → Bool
  | [] => true
  | (_, v) :: r => match below k v with
    | true => belowM k r
    | false => false
def belowB (k : Nat) : List Blk → Bool
  | [] => true
  | .cells cs :: r => match belows k cs with
    | true => belowB k r
    | false => false
  | .grow _ _ _ :: r => belowB k r
  | .gone :: r => belowB k r
  | .map es :: r => match belowM k es with
    | true => belowB k r
    | false => false

theorem belows_get {k : Nat} : ∀ {cs : List AV}, belows k cs = true → ∀ (j : Nat) v, cs[j]? = some v → below k v = true
  | [], _, j, v, e => by simp at e
  | u :: r, h, j, v, e => by
    simp only [belows] at h
    split at h
    · rename_i hu
      cases j with
      | zero => simp at e; subst e; exact hu
      | succ j => exact belows_get h j v (by simpa using e)
    · cases h

theorem belowE_get {k : Nat} : ∀ {env : Env}, belowE k env = true → ∀ (t : Nat) v, env.get t = some v → below k v = true
  | [], _, t, v, e => by simp [Env.get] at e
  | (d, u) :: r, h, t, v, e => by
    simp only [belowE] at h
    split at h
    · rename_i hu
      simp only [Env.get_cons] at e
      split at e
      · obtain rfl := Option.some.inj e; exact hu
      · exact belowE_get h t v e
    · cases h

theorem belowM_get {k : Nat} : ∀ {es : List (AV × AV)}, belowM k es = true → ∀ (j : Nat) e, es[j]? = some e → below k e.2 = true
  | [], _, j, e, h => by simp at h
  | (a, u) :: r, h, j, e, he => by
    simp only [belowM] at h
    split at h
    · rename_i hu
      cases j with
      | zero => simp at he; subst he; exact hu
      | succ j => exact belowM_get h j e (by simpa using he)
    · cases h

theorem belowB_get {k : Nat} : ∀ {bs : List Blk}, belowB k bs = true → ∀ (j : Nat) b, bs[j]? = some b → belowB k [b] = true
  | [], _, j, b, e => by simp at e
  | c :: r, h, j, b, e => by
    have hc : belowB k [c] = true ∧ belowB k r = true := by
      cases c with
      | cells cs =>
        simp only [belowB] at h ⊢
        split at h
        · exact ⟨rfl, h⟩
        · cases h
      | grow => exact ⟨rfl, h⟩
      | gone => exact ⟨rfl, h⟩
      | map es =>
        simp only [belowB] at h ⊢
        split at h
        · exact ⟨rfl, h⟩
        · cases h
    cases j with
    | zero => simp at e; subst e; exact hc.1
    | succ j => exact belowB_get hc.2 j b (by simpa using e)

def Ghost.cut (G : Ghost) (k : Nat) : Ghost := ⟨fun i => if i < k then G.cl i else none, fun i => if i < k then G.gr i else none, G.Z, G.ok⟩

theorem r_cut {G : Ghost} {k : Nat} {v : AV} {cv : Value} (h : R G v cv) : below k v = true → R (G.cut k) v cv := by
  induction h with
  | imm v cv h => exact fun _ => .imm v cv h
  | und cv => exact fun _ => .und cv
  | ptr i o c h => intro hb; have : i < k := by simpa [below, Nat.blt_eq] using hb
                   exact .ptr i o c (by simp [Ghost.cut, this, h])
  | slc i o len cap c ccap h hl hc => intro hb; have : i < k := by simpa [below, Nat.blt_eq] using hb
                                      exact .slc i o len cap c ccap (by simp [Ghost.cut, this, h]) hl hc
  | gsl i len b l c h => intro hb; have : i < k := by simpa [below, Nat.blt_eq] using hb
                         exact .gsl i len b l c (by simp [Ghost.cut, this, h])
  | stale i len g b l c h hn => intro hb; have : i < k := by simpa [below, Nat.blt_eq] using hb
                                exact .stale i len g b l c (by simp [Ghost.cut, this, h]) hn
  | map i c h => intro hb; have : i < k := by simpa [below, Nat.blt_eq] using hb
                 exact .map i c (by simp [Ghost.cut, this, h])
  | agg cs vs hl _ ih => exact fun hb => .agg cs vs hl fun j v cv e1 e2 => ih j v cv e1 e2 (belows_get (by simpa [below] using hb) j v e1)
  | tup cs vs hl _ ih => exact fun hb => .tup cs vs hl fun j v cv e1 e2 => ih j v cv e1 e2 (belows_get (by simpa [below] using hb) j v e1)
  | fn f cs vs hl _ ih => exact fun hb => .fn f cs vs hl fun j v cv e1 e2 => ih j v cv e1 e2 (belows_get (by simpa [below] using hb) j v e1)

theorem cut_cl {G : Ghost} {k i c : Nat} (h : (G.cut k).cl i = some c) : i < k ∧ G.cl i = some c := by
  simp only [Ghost.cut] at h; split at h
  · exact ⟨by assumption, h⟩
  · cases h
theorem cut_gr {G : Ghost} {k i : Nat} {g : Gr} (h : (G.cut k).gr i = some g) : i < k ∧ G.gr i = some g := by
  simp only [Ghost.cut] at h; split at h
  · exact ⟨by assumption, h⟩
  · cases h
theorem cut_owns {G : Ghost} {k i c : Nat} (h : (G.cut k).owns i c) : G.owns i c := by
  rcases h with h | ⟨g, h, e⟩
  · exact .inl (cut_cl h).2
  · exact .inr ⟨g, (cut_gr h).2, e⟩

theorem Inv.cut {G : Ghost} {bs : List Blk} {w : World} (h : Inv G bs w) {k : Nat} (hB : belowB k (bs.take k) = true) : Inv (G.cut k) (bs.take k) w where
  blk i b hb := by
    rw [List.getElem?_take] at hb
    split at hb
    · rename_i hi
      have hB' := belowB_get hB i b (by rw [List.getElem?_take, if_pos hi]; exact hb)
      have hO := h.blk i b hb
      cases b with
      | cells cs =>
        refine ⟨by simp [Ghost.cut, hO.1], fun c hc => ?_⟩
        obtain ⟨arr, e, h1, h2, h3, h4⟩ := hO.2 c (cut_cl hc).2
        have hb2 : belows k cs = true := by
          simp only [belowB] at hB'
          cases hx : belows k cs with
          | true => rfl
          | false => rw [hx] at hB'; cases hB'
        exact ⟨arr, e, h1, h2, fun j v cv e1 e2 => r_cut (h3 j v cv e1 e2) (belows_get hb2 j v e1), h4⟩
      | grow e sz xs => exact ⟨by simp [Ghost.cut, hO.1], fun g hg => hO.2 g (cut_gr hg).2⟩
      | gone => exact ⟨by simp [Ghost.cut, hO.1], by simp [Ghost.cut, hO.2]⟩
      | map es =>
        refine ⟨by simp [Ghost.cut, hO.1], fun c hc => ?_⟩
        obtain ⟨ents, clock, h1, h2, h3⟩ := hO.2 c (cut_cl hc).2
        have hb2 : belowM k es = true := by
          simp only [belowB] at hB'
          cases hx : belowM k es with
          | true => rfl
          | false => rw [hx] at hB'; cases hB'
        exact ⟨ents, clock, h1, h2, fun j e ce e1 e2 => ⟨(h3 j e ce e1 e2).1, r_cut (h3 j e ce e1 e2).2 (belowM_get hb2 j e e1)⟩⟩
    · cases hb
  dom i hi := by
    by_cases hk : i < k
    · have : bs.length ≤ i := by simp at hi; omega
      simp [Ghost.cut, hk, h.dom i this]
    · simp [Ghost.cut, hk]
  inj i j c h1 h2 := h.inj i j c (cut_owns h1) (cut_owns h2)
  z := h.z

/-- Fewer slots, and the store's newest blocks forgotten. -/
theorem weak_cut {n m : Nat} {env env' : Env} {bs bs' : List Blk} (k : Nat) (h : Sel env env') (hb : bs.take k = bs') (hm : Nat.ble m k = true) (hE : belowE k env' = true) (hB : belowB k bs' = true) :
    Weak n m ⟨env, bs⟩ ⟨env', bs'⟩ := by
  subst hb
  intro G0 w0 a w H
  obtain ⟨G, hEn, hI, hle, hev⟩ := H.st
  have hmk : m ≤ k := Nat.le_of_ble_eq_true hm
  refine ⟨⟨G.cut k, fun t v e => ?_, hI.cut hB, ⟨fun i c e => ?_, fun i g e => ?_, hle.Z⟩, ⟨hev.os, hev.tape, hev.output, hev.size, hev.Z, hev.newZ, hev.frame, fun i c e => hev.own i c (cut_owns e)⟩⟩, H.df, H.sz, H.fp⟩
  · obtain ⟨cv, e1, r⟩ := hEn t v (sel_get h t v e)
    exact ⟨cv, e1, r_cut r (belowE_get hE t v e)⟩
  · have hi : i < k := by
      rcases Nat.lt_or_ge i m with h' | h'
      · omega
      · rw [(H.fp i h').1] at e; cases e
    simp [Ghost.cut, hi, hle.cl i c e]
  · have hi : i < k := by
      rcases Nat.lt_or_ge i m with h' | h'
      · omega
      · rw [(H.fp i h').2] at e; cases e
    obtain ⟨g', e1, e2⟩ := hle.gr i g e
    exact ⟨g', by simp [Ghost.cut, hi, e1], e2⟩

theorem then_normal {next : St → Prop} {Q : Exit → St → Prop} {s : St} (h : next s) : thenT next Q .normal s := h
theorem then_exit {next : St → Prop} {Q : Exit → St → Prop} {s : St} {i : Nat} (h : Q (.exit i) s) : thenT next Q (.exit i) s := h
theorem then_ret {next : St → Prop} {Q : Exit → St → Prop} {s : St} (h : Q .ret s) : thenT next Q .ret s := h
theorem block_normal {i : Nat} {Q : Exit → St → Prop} {s : St} (h : Q .normal s) : inBlockT i Q .normal s := h
theorem block_ret {i : Nat} {Q : Exit → St → Prop} {s : St} (h : Q .ret s) : inBlockT i Q .ret s := h
theorem block_eq {i : Nat} {Q : Exit → St → Prop} {s : St} (h : Q .normal s) : inBlockT i Q (.exit i) s := by simp only [inBlockT, Nat.beq_refl]; exact h
theorem block_ne {i j : Nat} {Q : Exit → St → Prop} {s : St} (hn : Nat.beq j i = false) (h : Q (.exit j) s) : inBlockT i Q (.exit j) s := by simp only [inBlockT, hn]; exact h

/-- At the head of a loop with the body c. -/
def LoopAt (P : Program) (n m : Nat) (c : Code) (s : St) (Q : Exit → St → Prop) : Prop :=
  ∀ G0 w0 a w, Holds n m G0 w0 s a w → ∀ (b : Frame) (k : List Item) (cs : List Frame),
    ∃ e a' w', (∃ s', Q e s' ∧ Holds n m G0 w0 s' a' w') ∧ Arrives P (lone (b.at a (.code c :: .inLoop c :: k)) cs w) b k cs e a' w'

theorem loop_round {P : Program} {n m : Nat} {c : Code} {s : St} {Q : Exit → St → Prop} (h : T P n m c s (thenT (fun s' => LoopAt P n m c s' Q) Q)) : LoopAt P n m c s Q := by
  intro G0 w0 a w H b k cs
  obtain ⟨e, a1, w1, ⟨s', q, H'⟩, harr⟩ := h G0 w0 a w H b (.inLoop c :: k) cs
  cases e with
  | normal =>
    obtain ⟨e2, a2, w2, hq2, harr2⟩ := q G0 w0 a1 w1 H' b k cs
    exact ⟨e2, a2, w2, hq2, .of_steps (Steps.trans harr (.one step_inLoop)) harr2⟩
  | exit id => exact ⟨_, a1, w1, ⟨s', q, H'⟩, .pass (x := .inLoop c) rfl (fun _ _ => .inl (by simp)) harr⟩
  | goto l => exact ⟨_, a1, w1, ⟨s', q, H'⟩, .pass (x := .inLoop c) rfl (fun _ _ => .inl (by simp)) harr⟩
  | ret => exact ⟨_, a1, w1, ⟨s', q, H'⟩, .pass (x := .inLoop c) rfl (fun _ _ => .inl (by simp)) harr⟩
  | panic ch => exact ⟨_, a1, w1, ⟨s', q, H'⟩, .pass (x := .inLoop c) rfl (fun _ _ => .inl (by simp)) harr⟩
  | outgrown => exact ⟨_, a1, w1, ⟨s', q, H'⟩, .pass (x := .inLoop c) rfl (fun _ _ => .inl (by simp)) harr⟩

theorem LoopAt.weak {P : Program} {n m : Nat} {c : Code} {s s' : St} {Q : Exit → St → Prop} (hw : Weak n m s s') (h : LoopAt P n m c s' Q) : LoopAt P n m c s Q :=
  fun G0 w0 a w H => h G0 w0 a w (hw _ _ _ _ H)

theorem T_head {P : Program} {n m : Nat} {c : Code} {s : St} {Q : Exit → St → Prop} (h : LoopAt P n m c s Q) : T P n m (.loop c) s Q := by
  intro G0 w0 a w H b k cs
  obtain ⟨e, a', w', hq, harr⟩ := h G0 w0 a w H b k cs
  exact ⟨e, a', w', hq, .of_steps (.one step_loop) harr⟩

/-- A loop of which a plain function, by rounds, tells where it ends. -/
theorem T_fix {P : Program} {n m : Nat} {c : Code} {X O : Type} (L : Nat → X → Option O) (inv : X → St) (eo : O → Exit) (so : O → St) (h0 : ∀ x, L 0 x = none)
    (hs : ∀ k, (∀ x o, L k x = some o → LoopAt P n m c (inv x) (fun e s' => e = eo o ∧ Weak n m s' (so o))) →
      ∀ x o, L (k + 1) x = some o → T P n m c (inv x) (thenT (fun s' => LoopAt P n m c s' (fun e s' => e = eo o ∧ Weak n m s' (so o))) (fun e s' => e = eo o ∧ Weak n m s' (so o)))) :
    ∀ k x o, L k x = some o → LoopAt P n m c (inv x) (fun e s' => e = eo o ∧ Weak n m s' (so o)) := by
  intro k
  induction k with
  | zero => intro x o h; rw [h0] at h; cases h
  | succ k ih => exact fun x o h => loop_round (hs k ih x o h)

/-- A loop, and what stands behind it. -/
theorem T_loop_out {P : Program} {n m : Nat} {c : Code} {s : St} {Q : Exit → St → Prop} (s1 : St) (e0 : Exit) (s0 : St) (hw : Weak n m s s1)
    (h : LoopAt P n m c s1 (fun e s' => e = e0 ∧ Weak n m s' s0)) (k : Q e0 s0) : T P n m (.loop c) s Q :=
  T_out e0 s0 (T_head (h.weak hw)) k

end Go.Proofs.YtgobepjodkggoaaDoor.Ai
