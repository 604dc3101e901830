/- An interpreter of values for the model's code, base text 12: maps whose keys are numbers. -/
import Derived.Test.YtelgmdljcbkniaaDoorB11
import Derived.MapKept
namespace Go.Proofs.YtelgmdljcbkniaaDoor.Ai
noncomputable section
set_option linter.unusedVariables false
open Go

/-- The place of the first entry of a key. -/
def mfind {α : Type} (l : List (Int × α)) (n : Int) : Option Nat := match l with
  | [] => none
  | p :: r => if p.1 = n then some 0 else (mfind r n).map (· + 1)
def mget {α : Type} (l : List (Int × α)) (n : Int) : Option α := (mfind l n).bind fun j => (l[j]?).map Prod.snd
def mset {α : Type} (l : List (Int × α)) (n : Int) (v : α) : List (Int × α) := match mfind l n with
  | some j => l.set j (n, v)
  | none => l ++ [(n, v)]

theorem mfind_some {α : Type} : ∀ {l : List (Int × α)} {n : Int} {j : Nat}, mfind l n = some j → ∃ p, l[j]? = some p ∧ p.1 = n
  | [], _, _, h => by simp [mfind] at h
  | p :: r, n, j, h => by
    simp only [mfind] at h
    split at h
    · rename_i e; obtain rfl := Option.some.inj h; exact ⟨p, rfl, e⟩
    · rw [Option.map_eq_some_iff] at h
      obtain ⟨q, h, rfl⟩ := h
      obtain ⟨p', e1, e2⟩ := mfind_some h
      exact ⟨p', by simpa using e1, e2⟩

theorem findNow_int {kk : IntKind} {n : Int} {α : Type} : ∀ (l : List (Int × α)) (ents : List MapEntry) (i : Nat), ents.length = l.length → (∀ (j : Nat) p ce, l[j]? = some p → ents[j]? = some ce → ce.key = .int kk p.1) →
    Instr.findNow (.int kk) (.int kk n) ents i = some ((mfind l n).bind fun j => (ents[j]?).map fun ce => (i + j, ce.val))
  | [], ents, i, hl, _ => by
    have : ents = [] := List.eq_nil_of_length_eq_zero (by simpa using hl)
    subst this
    simp [Instr.findNow, mfind]
  | p :: r, [], i, hl, _ => by simp at hl
  | p :: r, ce :: ents, i, hl, hk => by
    have h0 := hk 0 p ce rfl rfl
    have ih := findNow_int (n := n) r ents (i + 1) (by simpa using hl) fun j q c e1 e2 => hk (j + 1) q c (by simpa using e1) (by simpa using e2)
    simp only [Instr.findNow, h0, Instr.sameNow, if_true, mfind]
    by_cases he : p.1 = n
    · simp [he]
    · have : (n == p.1) = false := by simp; exact fun e => he e.symm
      rw [this, if_neg he]
      simp only [ih]
      cases hm : mfind r n with
      | none => simp
      | some j => simp [Nat.add_assoc, Nat.add_comm 1 j]

theorem after_setmap {G : Ghost} {bs : List Blk} {w : World} (hI : Inv G bs w) {i c : Nat} {es es' : List (AV × AV)} (hb : bs[i]? = some (.map es)) (hc : G.cl i = some c) {ents ents' : Array MapEntry} {clock clock' : Nat}
    (hh : w.heap[c]? = some (.map ents clock)) (hl : ents'.size = es'.length) (hr : ∀ (j : Nat) e ce, es'[j]? = some e → ents'[j]? = some ce → RI G.Z e.1 ce.key ∧ R G e.2 ce.val) :
    Inv G (bs.set i (.map es')) { w with heap := w.heap.setIfInBounds c (.map ents' clock') } ∧ Ev G w G { w with heap := w.heap.setIfInBounds c (.map ents' clock') } := by
  have hB := hI.blk i _ hb
  have hcl : c < w.heap.size := (hI.lt (.inl hc)).2
  have hf : ∀ d, d ≠ c → ({ w with heap := w.heap.setIfInBounds c (.map ents' clock') } : World).heap[d]? = w.heap[d]? := fun d hd => Array.getElem?_setIfInBounds_ne (fun e => hd e.symm)
  refine ⟨⟨fun j b hj => ?_, fun j hj => hI.dom j (by simpa using hj), hI.inj, fun d o v ez => ?_⟩, ⟨rfl, rfl, rfl, by simp, .refl _, fun _ _ _ e => .inl e, fun d hd hn => hf d (fun e => hn i (e ▸ .inl hc)), fun j d hd => .inr ⟨j, hd⟩, loop_of_same fun d hd => by
      by_cases e0 : d = c
      · exact .inr fun rec h => by rw [e0, hh] at h; cases h
      · exact .inl (hf d e0)⟩⟩
  · rw [List.getElem?_set] at hj
    split at hj
    · rename_i hij
      subst hij
      split at hj
      · obtain rfl := Option.some.inj hj
        refine ⟨hB.1, fun c' hc' => ?_⟩
        rw [hc] at hc'
        obtain rfl := Option.some.inj hc'
        exact ⟨ents', clock', by simp [hcl], hl, hr, (hB.2 c hc).elim fun _ h => h.elim fun _ h => h.2.2.2⟩
      · cases hj
    · rename_i hij
      exact (hI.blk j b hj).keep (.refl _) rfl rfl (fun d hd => hf d fun e => hij (hI.inj i j c (.inl hc) (e ▸ hd))) fun _ _ _ => rfl
  · have hzc : ∀ o, G.Z c o = none := (hB.2 c hc).elim fun _ h => h.elim fun _ h => h.2.2.2
    have hd : d ≠ c := fun e => by rw [e, hzc o] at ez; cases ez
    rw [rd_of_frame (hf d hd)]
    exact hI.z d o v ez

/-- A map's block, of entries with numbers as keys. -/
def mb {α : Type} (kk : IntKind) (e : α → AV) (l : List (Int × α)) : Blk := .map (l.map fun p => (.int kk p.1, e p.2))

theorem op_mkmap {P : Program} {o : Oper} {s : St} {t : TypeId} {k : Nat} (ho : o.op = .makeMap t none) (hk : s.bs.length = k) : OpT P o s (.map k) (s.bs ++ [.map []]) := by
  subst hk
  refine OpT.of (by simp [ho]) ?_
  intro G w a hI hE K Q hK
  let G' : Ghost := { G with cl := fun i => if i = s.bs.length then some w.heap.size else G.cl i }
  have hcl : G'.cl s.bs.length = some w.heap.size := by simp [G']
  have hgr0 : G'.gr s.bs.length = none := (hI.dom _ (Nat.le_refl _)).2
  have hf : ∀ c, c < w.heap.size → (w.alloc (.map #[] 0)).heap[c]? = w.heap[c]? := fun c hc => heap_alloc_old w _ c hc
  have hs : ∀ c o v, G.Z c o = some v → rd (w.alloc (.map #[] 0)) c o = some v := fun c o v ez => by
    rw [rd_of_frame (hf c (z_lt hI ez))]; exact hI.z c o v ez
  have hown : ∀ c, G'.owns s.bs.length c → c = w.heap.size := fun c hc => by
    rcases hc with hc | ⟨g, hg, _⟩
    · rw [hcl] at hc; exact (Option.some.inj hc).symm
    · rw [hgr0] at hg; cases hg
  obtain ⟨h1, h2⟩ := hI.push (G' := G') (w' := w.alloc (.map #[] 0)) (.map []) (fun i hi => by simp [G', hi]) (fun _ _ => rfl) (.refl _) (fun _ _ _ e => .inl e) hf hs
    (fun _ => ⟨hgr0, fun c hc => by
      rw [hcl] at hc
      obtain rfl := Option.some.inj hc
      refine ⟨#[], 0, heap_alloc_new w _, rfl, fun j e ce e1 _ => by simp at e1, fun o => ?_⟩
      cases hz : G.Z w.heap.size o with
      | none => rfl
      | some v => have := z_lt hI hz; omega⟩)
    (fun c hc => by rw [hown c hc]; exact Nat.le_refl _)
  unfold Oper.wp execOp
  have hrun : (Instr.makeMap t none).run P w = .ok (.map (some w.heap.size)) (w.alloc (.map #[] 0)) := rfl
  simp only [ho, Option.map_none, Sem.run_bind, hrun, Result.andThen_ok]
  refine hK _ _ G' ⟨.map _ _ hcl, h1, h2, ⟨rfl, rfl, rfl, by simp, .refl _, fun _ _ _ e => .inl e, fun c hc _ => hf c hc, fun i c hc => ?_, loop_of_same fun c hc => .inl (hf c hc)⟩⟩
  by_cases hi : i = s.bs.length
  · subst hi; rw [hown c hc]; exact .inl (Nat.le_refl _)
  · exact .inr ⟨i, by unfold Ghost.owns at hc ⊢; simpa [G', hi] using hc⟩

theorem op_mapset {P : Program} {o : Oper} {s : St} {t kt et : TypeId} {kk : IntKind} {x y z : Operand} {i : Nat} {α : Type} {e : α → AV} {l : List (Int × α)} {n : Int} {v : α} {b' : Blk} (ht : P.underlying t = some (.map kt et)) (hkt : P.underlying kt = some (.int kk))
    (ho : o.op = .mapUpdate t x y z) (hx : ev s.env x = some (.map i)) (hy : ev s.env y = some (.int kk n)) (hz : ev s.env z = some (e v)) (hb : s.bs[i]? = some (mb kk e l)) (hb' : mb kk e (mset l n v) = b') : OpT P o s (.tup []) (s.bs.set i b') := by
  subst hb'
  refine OpT.of (by simp [ho]) ?_
  intro G w a hI hE K Q hK
  obtain ⟨c, hc, hxe⟩ := (ev_r hE hx).map_inv
  have hye := (ev_r hE hy).int_inv
  have hzr := ev_r hE hz
  obtain ⟨ents, clock, hh, hl, hr, hzn⟩ := (hI.blk i _ hb).2 c hc
  have hkey : ∀ (j : Nat) p ce, l[j]? = some p → ents.toList[j]? = some ce → ce.key = .int kk p.1 := fun j p ce e1 e2 => by
    have := (hr j (.int kk p.1, e p.2) ce (by rw [List.getElem?_map, e1]; rfl) (by simpa using e2)).1
    exact (R.imm (G := G) _ _ this).int_inv
  have hl2 : ents.toList.length = l.length := by simpa using hl
  have hfn := findNow_int (n := n) l ents.toList 0 hl2 hkey
  have hck : (Instr.checkKey false 10000 kt (.int kk n)).run P w = .ok () w := by
    unfold Instr.checkKey
    simp [run_underlying hkt]
  have hfk : (Instr.findKey kt (.int kk n) ents.toList).run P w = .ok ((mfind l n).bind fun j => (ents.toList[j]?).map fun ce => (0 + j, ce.val)) w := by
    simp [Instr.findKey, run_underlying hkt, hfn]
  have hun : (none : Option Nat) = none := rfl
  unfold Oper.wp execOp
  cases hm : mfind l n with
  | none =>
    have hset : mset l n v = l ++ [(n, v)] := by simp only [mset, hm]
    rw [hset] at hK
    rw [hm] at hfk
    have hrun : (Instr.mapUpdate t (.map (some c)) (.int kk n) (a.eval z)).run P w = .ok () { w with heap := w.heap.setIfInBounds c (.map (ents.push { key := .int kk n, val := a.eval z, born := clock }) (clock + 1)) } := by
      simp only [Instr.mapUpdate, Sem.run_bind, run_underlying ht, Result.andThen_ok, MapKept.run_getObj_map hh, hck, hfk, Option.bind_none, MapKept.run_setObj_map _ hh]
    simp only [ho, hxe, hye, Sem.run_bind, hrun, Result.andThen_ok]
    obtain ⟨h1, h2⟩ := after_setmap hI hb hc (es' := (l ++ [(n, v)]).map fun p => (.int kk p.1, e p.2)) hh (ents' := ents.push { key := .int kk n, val := a.eval z, born := clock }) (clock' := clock + 1) (by simpa using hl) (fun j p ce e1 e2 => by
      rw [List.map_append, List.getElem?_append] at e1
      rw [Array.getElem?_push] at e2
      split at e1
      · rename_i hj
        rw [if_neg (by simp at hj; simp at hl; omega)] at e2
        exact hr j p ce e1 e2
      · rename_i hj
        have hjl : j - (l.map fun p => ((.int kk p.1, e p.2) : AV × AV)).length = 0 := by
          have := lt_of_get e1; simp at this; simp; omega
        rw [hjl] at e1
        have hje : j = ents.size := by simp at hjl hj hl; omega
        rw [if_pos hje] at e2
        simp at e1 e2
        subst e1 e2
        exact ⟨.int _ _, hzr⟩)
    exact hK _ _ G ⟨.imm _ _ (.tup [] #[] rfl (by simp)), h1, .refl _, h2⟩
  | some j =>
    have hset : mset l n v = l.set j (n, v) := by simp only [mset, hm]
    rw [hset] at hK
    obtain ⟨p, hp, hpn⟩ := mfind_some hm
    have hjl : j < ents.size := by have := lt_of_get hp; simp at hl; omega
    have hce : ents.toList[j]? = some ents[j] := by simp [hjl]
    have hkj : ents[j].key = .int kk n := by rw [hkey j p ents[j] hp hce, hpn]
    rw [hm] at hfk
    simp only [Option.bind_some, hce, Option.map_some, Nat.zero_add] at hfk
    have hkts : (Instr.keyThatStays (.int kk n) (.int kk n)).run P w = .ok (.int kk n) w := by
      simp [Instr.keyThatStays, Instr.sameBits]
    have hrun : (Instr.mapUpdate t (.map (some c)) (.int kk n) (a.eval z)).run P w = .ok () { w with heap := w.heap.setIfInBounds c (.map (ents.modify j fun e => { e with key := .int kk n, val := a.eval z }) clock) } := by
      have : ((ents[j]?).map (·.key)).getD (.int kk n) = .int kk n := by simp [hjl, hkj]
      simp only [Instr.mapUpdate, Sem.run_bind, run_underlying ht, Result.andThen_ok, MapKept.run_getObj_map hh, hck, hfk, this, hkts, MapKept.run_setObj_map _ hh]
    simp only [ho, hxe, hye, Sem.run_bind, hrun, Result.andThen_ok]
    obtain ⟨h1, h2⟩ := after_setmap hI hb hc (es' := (l.set j (n, v)).map fun p => (.int kk p.1, e p.2)) hh (ents' := ents.modify j fun e => { e with key := .int kk n, val := a.eval z }) (clock' := clock) (by simpa using hl) (fun q p ce e1 e2 => by
      rw [List.map_set, List.getElem?_set] at e1
      rw [Array.getElem?_modify] at e2
      split at e1
      · rename_i hjq
        subst hjq
        split at e1
        · rw [if_pos rfl] at e2
          simp only [Option.map_eq_some_iff] at e2
          obtain ⟨c0, _, rfl⟩ := e2
          obtain rfl := Option.some.inj e1
          exact ⟨.int _ _, hzr⟩
        · cases e1
      · rename_i hjq
        rw [if_neg hjq] at e2
        exact hr q p ce e1 e2)
    exact hK _ _ G ⟨.imm _ _ (.tup [] #[] rfl (by simp)), h1, .refl _, h2⟩

theorem run_lookup_int {P : Program} {w : World} {G : Ghost} {t kt et : TypeId} {kk : IntKind} {c : Nat} {α : Type} {e : α → AV} {l : List (Int × α)} {n : Int} {z0 : α} {size bytes : Nat} {z : Value} {d : TypeDesc} (ht : P.underlying t = some (.map kt et)) (hkt : P.underlying kt = some (.int kk))
    (he : Inf P et size bytes z d) (hz : ofConst z = some (e z0)) {ents : Array MapEntry} {clock : Nat} (hh : w.heap[c]? = some (.map ents clock)) (hl : ents.size = (l.map fun p => ((.int kk p.1, e p.2) : AV × AV)).length)
    (hr : ∀ (j : Nat) q ce, (l.map fun p => ((.int kk p.1, e p.2) : AV × AV))[j]? = some q → ents[j]? = some ce → RI G.Z q.1 ce.key ∧ R G q.2 ce.val) (ok : Bool) :
    ∃ cv, (Instr.lookup t (.map (some c)) (.int kk n) ok).run P w = .ok (if ok then .tuple #[cv, .bool (mget l n).isSome] else cv) w ∧ R G (e ((mget l n).getD z0)) cv := by
  have hkey : ∀ (j : Nat) p ce, l[j]? = some p → ents.toList[j]? = some ce → ce.key = .int kk p.1 := fun j p ce e1 e2 => by
    have := (hr j (.int kk p.1, e p.2) ce (by rw [List.getElem?_map, e1]; rfl) (by simpa using e2)).1
    exact (R.imm (G := G) _ _ this).int_inv
  have hl2 : ents.toList.length = l.length := by simpa using hl
  have hfn := findNow_int (n := n) l ents.toList 0 hl2 hkey
  have hck : (Instr.checkKey ents.isEmpty 10000 kt (.int kk n)).run P w = .ok () w := by
    unfold Instr.checkKey
    simp [run_underlying hkt]
  have hfk : (Instr.findKey kt (.int kk n) ents.toList).run P w = .ok ((mfind l n).bind fun j => (ents.toList[j]?).map fun ce => (0 + j, ce.val)) w := by
    simp [Instr.findKey, run_underlying hkt, hfn]
  cases hm : mfind l n with
  | none =>
    rw [hm] at hfk
    refine ⟨z, ?_, ?_⟩
    · simp [Instr.lookup, run_underlying ht, MapKept.run_getObj_map hh, hck, hfk, he.zero w, mget, hm]
    · simp only [mget, hm, Option.bind_none, Option.getD_none]
      exact .imm _ _ (ofConst_ri hz)
  | some j =>
    obtain ⟨p, hp, hpn⟩ := mfind_some hm
    have hjl : j < ents.size := by have := lt_of_get hp; simp at hl; omega
    have hce : ents.toList[j]? = some ents[j] := by simp [hjl]
    rw [hm] at hfk
    simp only [Option.bind_some, hce, Option.map_some, Nat.zero_add] at hfk
    refine ⟨ents[j].val, ?_, ?_⟩
    · simp [Instr.lookup, run_underlying ht, MapKept.run_getObj_map hh, hck, hfk, mget, hm, hp]
    · simp only [mget, hm, Option.bind_some, hp, Option.map_some, Option.getD_some]
      exact (hr j (.int kk p.1, e p.2) ents[j] (by rw [List.getElem?_map, hp]; rfl) (by simp [hjl])).2

theorem op_lookup {P : Program} {o : Oper} {s : St} {t kt et : TypeId} {kk : IntKind} {x y : Operand} {i : Nat} {α : Type} {e : α → AV} {l : List (Int × α)} {n : Int} {z0 : α} {size bytes : Nat} {z : Value} {d : TypeDesc} (ht : P.underlying t = some (.map kt et)) (hkt : P.underlying kt = some (.int kk))
    (he : Inf P et size bytes z d) (hz : ofConst z = some (e z0)) (ho : o.op = .lookup t x y false) (hx : ev s.env x = some (.map i)) (hy : ev s.env y = some (.int kk n)) (hb : s.bs[i]? = some (mb kk e l)) : OpT P o s (e ((mget l n).getD z0)) s.bs :=
  op_pure fun G w a hI hE => by
    obtain ⟨c, hc, hxe⟩ := (ev_r hE hx).map_inv
    obtain ⟨ents, clock, hh, hl, hr, hzn⟩ := (hI.blk i _ hb).2 c hc
    obtain ⟨cv, h1, h2⟩ := run_lookup_int (G := G) (n := n) ht hkt he hz hh hl hr false
    exact ⟨cv, by simp [execOp, ho, hxe, (ev_r hE hy).int_inv, h1], h2⟩

theorem op_lookup_ok {P : Program} {o : Oper} {s : St} {t kt et : TypeId} {kk : IntKind} {x y : Operand} {i : Nat} {α : Type} {e : α → AV} {l : List (Int × α)} {n : Int} {z0 : α} {size bytes : Nat} {z : Value} {d : TypeDesc} (ht : P.underlying t = some (.map kt et)) (hkt : P.underlying kt = some (.int kk))
    (he : Inf P et size bytes z d) (hz : ofConst z = some (e z0)) (ho : o.op = .lookup t x y true) (hx : ev s.env x = some (.map i)) (hy : ev s.env y = some (.int kk n)) (hb : s.bs[i]? = some (mb kk e l)) : OpT P o s (.tup [e ((mget l n).getD z0), .bool (mget l n).isSome]) s.bs :=
  op_pure fun G w a hI hE => by
    obtain ⟨c, hc, hxe⟩ := (ev_r hE hx).map_inv
    obtain ⟨ents, clock, hh, hl, hr, hzn⟩ := (hI.blk i _ hb).2 c hc
    obtain ⟨cv, h1, h2⟩ := run_lookup_int (G := G) (n := n) ht hkt he hz hh hl hr true
    refine ⟨.tuple #[cv, .bool (mget l n).isSome], by simp [execOp, ho, hxe, (ev_r hE hy).int_inv, h1], rtup (cvs := [cv, .bool (mget l n).isSome]) rfl fun j v c f1 f2 => ?_⟩
    match j, f1, f2 with
    | 0, f1, f2 => simp at f1 f2; subst f1 f2; exact h2
    | 1, f1, f2 => simp at f1 f2; subst f1 f2; exact .imm _ _ (.bool _)
    | j + 2, f1, f2 => simp at f1
end
end Go.Proofs.YtelgmdljcbkniaaDoor.Ai
