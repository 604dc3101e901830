/- An interpreter of values for the model's code, text 4: a function's contract and its call. -/
import Derived.Test.YtgobepjodkggoaaDoorAi3
namespace Go.Proofs.YtgobepjodkggoaaDoor.Ai
open Go

def RIs (Z : ZM) (vs : List AV) (cvs : Array Value) : Prop := cvs.size = vs.length ∧ ∀ (j : Nat) v c, vs[j]? = some v → cvs[j]? = some c → RI Z v c

/-- Behind a call that writes nothing that was there. -/
structure VAfter (Z : ZM) (w : World) (v : AV) (cv : Value) (w' : World) (Z' : ZM) : Prop where
  r : RI Z' v cv
  os : w'.os = w.os
  tape : w'.tape = w.tape
  output : w'.output = w.output
  size : w.heap.size ≤ w'.heap.size
  frame : ∀ c, c < w.heap.size → w'.heap[c]? = w.heap[c]?
  zle : Z.le Z'
  znew : ∀ c o v, Z' c o = some v → Z c o = some v ∨ w.heap.size ≤ c
  zs : ∀ c o v, Z' c o = some v → w'.cell? ⟨c, o, none⟩ = some v

/-- The contract of a function from values to a value: S tells the result. -/
def VOk (P : Program) (f : FuncId) (S : List AV → AV → Prop) : Prop :=
  ∀ (Z : ZM) (w : World) (cargs : Array Value) (args : List AV) (v : AV), GlobOk Z → (∀ c o x, Z c o = some x → w.cell? ⟨c, o, none⟩ = some x) → RIs Z args cargs → S args v →
    Calls P f cargs w fun e w' => ∃ cv Z', e = .returned cv ∧ VAfter Z w v cv w' Z'

theorem VOk.imp {P : Program} {f : FuncId} {S S' : List AV → AV → Prop} (h : VOk P f S) (hs : ∀ args v, S' args v → S args v) : VOk P f S' :=
  fun Z w cargs args v hg hz hr hv => h Z w cargs args v hg hz hr (hs args v hv)

def argEnv : List AV → Nat → Env
  | [], _ => []
  | v :: r, k => (k, v) :: argEnv r (k + 1)

theorem argEnv_get : ∀ (l : List AV) (k t : Nat) (v : AV), (argEnv l k).get t = some v → k ≤ t ∧ l[t - k]? = some v
  | [], k, t, v, h => by simp [argEnv, Env.get] at h
  | u :: r, k, t, v, h => by
    simp only [argEnv, Env.get_cons] at h
    split at h
    · rename_i e; subst e; simpa using h
    · obtain ⟨h1, h2⟩ := argEnv_get r (k + 1) t v h
      refine ⟨by omega, ?_⟩
      have : t - k = (t - (k + 1)) + 1 := by omega
      rw [this]; simpa using h2

/-- The results, read, are the value v. -/
def RetOk (P : Program) (fn : Func) (s : St) (v : AV) : Prop :=
  ∀ (G : Ghost) (w : World) (tmps : Array Value), EnvR G s.env tmps → Inv G s.bs w → ∃ cv v0, (results fn tmps).run P w = .ok cv w ∧ R G v0 cv ∧ imm s.bs v0 = some v

def endT (P : Program) (fn : Func) (v : AV) : Exit → St → Prop
  | .normal, s | .ret, s => RetOk P fn s v
  | _, _ => False

theorem V_ok {P : Program} {f : FuncId} {fn : Func} {c : Code} {S : List AV → AV → Prop} (hf : P.funcs[f]? = some fn) (hb : fn.body = some c)
    (h : ∀ args v, S args v → args.length ≤ fn.ntmps ∧ T P fn.ntmps 0 c ⟨argEnv args 0, []⟩ (endT P fn v)) : VOk P f S := by
  intro Z w cargs args v hg hz hr hS
  obtain ⟨hlen, hT⟩ := h args v hS
  refine calls_of_wp hf hb ?_
  let G : Ghost := ⟨fun _ => none, fun _ => none, Z, hg⟩
  have hI : Inv G [] w := by
    refine ⟨fun i b hb => by simp at hb, fun i _ => ⟨rfl, rfl⟩, fun i j c h1 => ?_, hz⟩
    rcases h1 with h1 | ⟨g, h1, _⟩ <;> cases h1
  have hH : Holds fn.ntmps 0 G w ⟨argEnv args 0, []⟩ { tmps := cargs ++ Array.replicate (fn.ntmps - cargs.size) undef, defers := [] } w := by
    refine ⟨⟨G, fun t u e => ?_, hI, .refl _, .refl _ _⟩, rfl, ?_, fun i _ => ⟨rfl, rfl⟩⟩
    · obtain ⟨_, e2⟩ := argEnv_get args 0 t u e
      rw [Nat.sub_zero] at e2
      have ht : t < cargs.size := by rw [hr.1]; exact lt_of_get e2
      refine ⟨cargs[t], ?_, .imm _ _ (hr.2 t u _ e2 (by simp [ht]))⟩
      simp [Array.getElem?_append, ht]
    · simp [hr.1]; omega
  refine wp_mono (hT G w _ w hH) fun e a' w' ⟨s', q, H'⟩ => ?_
  have fin : RetOk P fn s' v → a'.defers = [] ∧ ∃ v0, (results fn a'.tmps).run P w' = .ok v0 w' ∧ ∃ cv Z', Ending.returned v0 = .returned cv ∧ VAfter Z w v cv w' Z' := fun hR => by
    obtain ⟨G', hE, hI', hle, hev⟩ := H'.st
    obtain ⟨cv, v0, hrun, hr0, himm⟩ := hR G' w' a'.tmps hE hI'
    refine ⟨H'.df, cv, hrun, cv, G'.Z, rfl, imm_ri hI' himm hr0, hev.os, hev.tape, hev.output, hev.size, fun c hc => hev.frame c hc fun i hi => ?_, hev.Z, fun c o x e => ?_, hI'.z⟩
    · rcases hi with hi | ⟨g, hi, _⟩ <;> cases hi
    · rcases hev.newZ c o x e with e | e | ⟨i, hi⟩
      · exact .inl e
      · exact .inr e
      · rcases hi with hi | ⟨g, hi, _⟩ <;> cases hi
  cases e with
  | normal => exact fin q
  | ret => exact fin q
  | exit id => exact q.elim
  | goto l => exact q.elim
  | panic ch => exact q.elim
  | outgrown => exact q.elim

theorem ret1 {P : Program} {fn : Func} {s : St} {a : Nat} {v0 v : AV} (hr : fn.results = #[.tmp a]) (h0 : s.env.get a = some v0) (h1 : imm s.bs v0 = some v) : RetOk P fn s v := by
  intro G w tmps hE _
  obtain ⟨cv, e, r⟩ := hE a v0 h0
  exact ⟨cv, v0, by simp [results, hr, e], r, h1⟩

theorem rtup {G : Ghost} {vs : List AV} {cvs : List Value} (hl : cvs.length = vs.length) (h : ∀ (j : Nat) v c, vs[j]? = some v → cvs[j]? = some c → R G v c) : R G (.tup vs) (.tuple cvs.toArray) :=
  .tup vs _ (by simpa using hl) fun j v c e1 e2 => h j v c e1 (by simpa using e2)

theorem ret2 {P : Program} {fn : Func} {s : St} {a b : Nat} {v0 v1 v : AV} (hr : fn.results = #[.tmp a, .tmp b]) (h0 : s.env.get a = some v0) (h1 : s.env.get b = some v1)
    (hi : imm s.bs (.tup [v0, v1]) = some v) : RetOk P fn s v := by
  intro G w tmps hE _
  obtain ⟨c0, e0, r0⟩ := hE a v0 h0
  obtain ⟨c1, e1, r1⟩ := hE b v1 h1
  refine ⟨.tuple #[c0, c1], .tup [v0, v1], by simp [results, hr, e0, e1], ?_, hi⟩
  refine rtup (cvs := [c0, c1]) rfl fun j v c f1 f2 => ?_
  match j, f1, f2 with
  | 0, f1, f2 => simp at f1 f2; subst f1 f2; exact r0
  | 1, f1, f2 => simp at f1 f2; subst f1 f2; exact r1
  | j + 2, f1, f2 => simp at f1

theorem ret3 {P : Program} {fn : Func} {s : St} {a b c : Nat} {v0 v1 v2 v : AV} (hr : fn.results = #[.tmp a, .tmp b, .tmp c]) (h0 : s.env.get a = some v0) (h1 : s.env.get b = some v1) (h2 : s.env.get c = some v2)
    (hi : imm s.bs (.tup [v0, v1, v2]) = some v) : RetOk P fn s v := by
  intro G w tmps hE _
  obtain ⟨c0, e0, r0⟩ := hE a v0 h0
  obtain ⟨c1, e1, r1⟩ := hE b v1 h1
  obtain ⟨c2, e2, r2⟩ := hE c v2 h2
  refine ⟨.tuple #[c0, c1, c2], .tup [v0, v1, v2], by simp [results, hr, e0, e1, e2], ?_, hi⟩
  refine rtup (cvs := [c0, c1, c2]) rfl fun j v c f1 f2 => ?_
  match j, f1, f2 with
  | 0, f1, f2 => simp at f1 f2; subst f1 f2; exact r0
  | 1, f1, f2 => simp at f1 f2; subst f1 f2; exact r1
  | 2, f1, f2 => simp at f1 f2; subst f1 f2; exact r2
  | j + 3, f1, f2 => simp at f1

/-- The function is one with a body. -/
def Enters (P : Program) (f : FuncId) : Prop := ∀ args w, (callFunc f args).run P w = .ok (.enter f args) w

theorem enters {P : Program} {f : FuncId} {fn : Func} (hf : P.funcs[f]? = some fn) (hb : fn.body.isNone = false) (hn : (fn.name == "runtime.NumGoroutine") = false) : Enters P f := by
  intro args w
  unfold callFunc
  rw [Sem.run_bind, run_program, Result.andThen_ok]
  simp only [hf, hn, hb, Bool.false_eq_true, if_false]
  rfl

theorem evs_map {G : Ghost} {env : Env} {a : Act} (h : EnvR G env a.tmps) {xs : List Operand} {vs : List AV} (e : evs env xs = some vs) :
    (xs.toArray.map a.eval).size = vs.length ∧ ∀ (j : Nat) v c, vs[j]? = some v → (xs.toArray.map a.eval)[j]? = some c → R G v c := by
  obtain ⟨hl, hr⟩ := evs_r h e
  refine ⟨by simp [hl], fun j v c e1 e2 => ?_⟩
  simp only [Array.getElem?_map, List.getElem?_toArray, Option.map_eq_some_iff] at e2
  obtain ⟨x, hx, rfl⟩ := e2
  exact hr j v x e1 hx

theorem r_append {G : Ghost} {vs ws : List AV} {cvs cws : Array Value} (h1 : cvs.size = vs.length) (h2 : cws.size = ws.length)
    (r1 : ∀ (j : Nat) v c, vs[j]? = some v → cvs[j]? = some c → R G v c) (r2 : ∀ (j : Nat) v c, ws[j]? = some v → cws[j]? = some c → R G v c) :
    (cvs ++ cws).size = (vs ++ ws).length ∧ ∀ (j : Nat) v c, (vs ++ ws)[j]? = some v → (cvs ++ cws)[j]? = some c → R G v c := by
  refine ⟨by simp [h1, h2], fun j v c e1 e2 => ?_⟩
  rw [List.getElem?_append] at e1
  rw [Array.getElem?_append] at e2
  rw [h1] at e2
  split at e1
  · rename_i hj; rw [if_pos hj] at e2; exact r1 j v c e1 e2
  · rename_i hj; rw [if_neg hj] at e2; exact r2 _ v c e1 e2

theorem after_v {G : Ghost} {bs : List Blk} {w w' : World} {v : AV} {cv : Value} {Z' : ZM} (hI : Inv G bs w) (h : VAfter G.Z w v cv w' Z') : After G w v bs cv w' (G.setZ Z' h.zle) where
  r := .imm _ _ h.r
  inv := hI.later h.size h.frame h.zle h.znew h.zs
  le := ⟨fun _ _ e => e, fun _ g e => ⟨g, e, .inl rfl⟩, h.zle⟩
  ev := ⟨h.os, h.tape, h.output, h.size, h.zle, fun c o x e => by rcases h.znew c o x e with e | e; exact .inl e; exact .inr (.inl e),
    fun c hc _ => h.frame c hc, fun i c e => .inr ⟨i, e⟩⟩

/-- A call of a function, or of a closure, with a contract from values to a value. -/
theorem op_call {P : Program} {o : Oper} {s : St} {x : Operand} {xs : List Operand} {ts : Array TypeId} {f : FuncId} {cap vs avs : List AV} {S : List AV → AV → Prop} {v : AV}
    (ho : o.op = .call { callee := .value x, args := xs.toArray, argTypes := ts }) (hx : ev s.env x = some (.fn f cap)) (hv : evs s.env xs = some vs)
    (hi : imms s.bs (vs ++ cap) = some avs) (hen : Enters P f) (hS : VOk P f S) (h : S avs v) : OpT P o s v s.bs := by
  intro G w a hI hE K Q hK
  obtain ⟨cc, hfe, hcl, hcr⟩ := (ev_r hE hx).fn_inv
  obtain ⟨hal, har⟩ := evs_map hE hv
  obtain ⟨hbl, hbr⟩ := r_append hal hcl har hcr
  unfold Oper.wp execOp
  simp only [ho, resolve, invoke, hfe, Deferred.ofValue, Sem.run_bind, Sem.run_pure, Result.andThen_ok, Array.empty_append, hen _ w, Oper.upon]
  refine (hS G.Z w _ avs v G.ok hI.z ⟨hbl.trans (imms_get hi).1.symm, imms_ri hI hi hbr⟩ h).mono fun e w' ⟨cv, Z', he, hA⟩ => ?_
  subst he
  exact hK cv w' _ (after_v hI hA)

end Go.Proofs.YtgobepjodkggoaaDoor.Ai
