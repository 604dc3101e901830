/- An interpreter of values for the model's code, base text 14: blocks by their places; variables, slices that grow, slices that are made. -/
import Derived.Test.YtelgmdljcbkniaaDoorB13
import Derived.ArgAppend
namespace Go.Proofs.YtelgmdljcbkniaaDoor.Ai
noncomputable section
open Go
set_option linter.unusedVariables false

theorem blkOk_gone {G : Ghost} {w : World} {i : Nat} : BlkOk G w i .gone ↔ G.cl i = none ∧ G.gr i = none := Iff.rfl

theorem Inv.batOk {G : Ghost} {bs : List Blk} {w : World} (h : Inv G bs w) (i : Nat) : BlkOk G w i (bat bs i) := by
  rcases Nat.lt_or_ge i bs.length with hi | hi
  · have e : bs[i]? = some bs[i] := List.getElem?_eq_getElem hi
    rw [bat_get bs i _ e]; exact h.blk i _ e
  · rw [bat_ge bs i hi]; exact h.dom i hi

theorem Inv.of_bat {G : Ghost} {bs : List Blk} {w : World} (h : ∀ i, BlkOk G w i (bat bs i)) (hi : ∀ i j c, G.owns i c → G.owns j c → i = j) (hz : ∀ c o v, G.Z c o = some v → rd w c o = some v) : Inv G bs w :=
  ⟨fun i b e => bat_get bs i b e ▸ h i, fun i hlt => by have := h i; rwa [bat_ge bs i hlt] at this, hi, hz⟩

/-- A block becomes another, in a world that went on: at its place, and elsewhere as it was. -/
theorem Inv.turn {G G' : Ghost} {bs : List Blk} {w w' : World} (h : Inv G bs w) {k : Nat} (b : Blk) (hcl : ∀ i, i ≠ k → G'.cl i = G.cl i) (hgr : ∀ i, i ≠ k → G'.gr i = G.gr i) (hle : G.le G')
    (hf : ∀ c, c < w.heap.size → ¬ G.owns k c → w'.heap[c]? = w.heap[c]?) (hzo : ∀ i c o, i ≠ k → G.owns i c → G'.Z c o = G.Z c o) (hs : ∀ c o v, G'.Z c o = some v → rd w' c o = some v)
    (hb : BlkOk G' w' k b) (hown : ∀ c, G'.owns k c → w.heap.size ≤ c ∨ G.owns k c) : Inv G' (bset bs k b) w' := by
  have howns : ∀ i c, i ≠ k → (G'.owns i c ↔ G.owns i c) := fun i c hi => by unfold Ghost.owns; rw [hcl i hi, hgr i hi]
  refine .of_bat (fun i => ?_) (fun i j c h1 h2 => ?_) hs
  · rw [bat_bset]
    split
    · rename_i e; subst e; exact hb
    · rename_i e
      have e' : i ≠ k := fun x => e x.symm
      refine (h.batOk i).keep hle (hcl i e') (hgr i e') (fun c hc => hf c (h.lt hc).2 fun hk => e' (h.inj i k c hc hk)) fun c hc o => hzo i c o e' hc
  · by_cases hi : i = k <;> by_cases hj : j = k
    · omega
    · rw [howns j c hj] at h2
      have h3 := (h.lt h2).2
      rcases hown c (hi ▸ h1) with e | e
      · omega
      · exact absurd (h.inj j k c h2 e) hj
    · rw [howns i c hi] at h1
      have h3 := (h.lt h1).2
      rcases hown c (hj ▸ h2) with e | e
      · omega
      · exact absurd (h.inj i k c h1 e) hi
    · rw [howns i c hi] at h1
      rw [howns j c hj] at h2
      exact h.inj i j c h1 h2

theorem Inv.pad {G : Ghost} {bs : List Blk} {w : World} (h : Inv G bs w) (n : Nat) : Inv G (bs ++ List.replicate n .gone) w := by
  refine ⟨fun i b hb => ?_, fun i hi => h.dom i (by simp at hi; omega), h.inj, h.z⟩
  rw [List.getElem?_append] at hb
  split at hb
  · exact h.blk i b hb
  · rename_i hi
    rw [List.getElem?_replicate] at hb
    split at hb
    · obtain rfl := Option.some.inj hb
      exact h.dom i (by omega)
    · cases hb

/-- A new block of cells at a free place. -/
theorem after_cells {G : Ghost} {bs : List Blk} {w : World} (hI : Inv G bs w) {k : Nat} (hk : bat bs k = .gone) (arr : Array Value) (e : TypeId) (cs : List AV) (hl : cs.length ≤ arr.size)
    (hr : ∀ (j : Nat) v cv, cs[j]? = some v → arr[j]? = some cv → R G v cv) :
    ∃ G', Inv G' (bset bs k (.cells cs)) (w.alloc (.cells arr e)) ∧ G.le G' ∧ Ev G w G' (w.alloc (.cells arr e)) ∧ G'.cl k = some w.heap.size := by
  have hb : (bs ++ List.replicate (k + 1 - bs.length) Blk.gone)[k]? = some .gone := by
    rcases Nat.lt_or_ge k bs.length with hlt | hge
    · rw [List.getElem?_append_left hlt, List.getElem?_eq_getElem hlt, ← hk, bat_get bs k bs[k] (List.getElem?_eq_getElem hlt)]
    · rw [List.getElem?_append_right hge, List.getElem?_replicate, if_pos (by omega)]
  obtain ⟨G', h1, h2, h3, h4, _⟩ := (hI.pad (k + 1 - bs.length)).fillat hb arr e cs hl hr 0
  exact ⟨G', by rw [bset_pad]; exact h1, h2, h3, h4⟩

theorem op_alloc_b {P : Program} {o : Oper} {s : St} {t : TypeId} {size bytes : Nat} {z : Value} {d : TypeDesc} {v : AV} {k : Nat} (ht : Inf P t size bytes z d) (hz : ofConst z = some v) (h1 : v.cells.all AV.one = true)
    (ho : o.op = .alloc t) (hk : bat s.bs k = .gone) : OpT P o s (.ptr k 0) (bset s.bs k (.cells v.cells)) := by
  refine OpT.of (by simp [ho]) ?_
  intro G w a hI hE K Q hK
  have hr : R G v z := .imm _ _ (ofConst_ri hz)
  obtain ⟨hl, hc, _⟩ := hr.cells h1
  obtain ⟨G', hI', hle, hev, hp⟩ := after_cells hI hk z.cells t v.cells (by omega) hc
  unfold Oper.wp
  have : (execOp a.eval o).run P w = .ok (.value (.pointer (some ⟨w.heap.size, 0, none⟩))) (w.alloc (.cells z.cells t)) := by
    simp [execOp, ho, Instr.alloc, ht.zero, newVar, newRow]
  rw [this]
  exact hK _ _ G' ⟨.ptr _ _ _ hp, hI', hle, hev⟩

theorem op_box_b {P : Program} {o : Oper} {s : St} {t : TypeId} {x : Operand} {v : AV} {k : Nat} (ho : o.op = .box t x) (hx : ev s.env x = some v) (h1 : v.cells.all AV.one = true) (hk : bat s.bs k = .gone) :
    OpT P o s (.ptr k 0) (bset s.bs k (.cells v.cells)) := by
  refine OpT.of (by simp [ho]) ?_
  intro G w a hI hE K Q hK
  have hr := ev_r hE hx
  obtain ⟨hl, hc, _⟩ := hr.cells h1
  obtain ⟨G', hI', hle, hev, hp⟩ := after_cells hI hk (a.eval x).cells t v.cells (by omega) hc
  unfold Oper.wp
  have : (execOp a.eval o).run P w = .ok (.value (.pointer (some ⟨w.heap.size, 0, none⟩))) (w.alloc (.cells (a.eval x).cells t)) := by
    simp [execOp, ho, Instr.box, newVar, newRow]
  rw [this]
  exact hK _ _ G' ⟨.ptr _ _ _ hp, hI', hle, hev⟩

theorem bat_lt {bs : List Blk} {k : Nat} {b : Blk} (h : bat bs k = b) (hn : b ≠ .gone) : k < bs.length := lt_of_get (get_bat bs k b h hn)

theorem op_store_b {P : Program} {o : Oper} {s : St} {t : TypeId} {p x : Operand} {size bytes : Nat} {z : Value} {d : TypeDesc} {i k : Nat} {cs cs' : List AV} {v : AV} (ht : Inf P t size bytes z d)
    (ho : o.op = .store t p x) (hp : ev s.env p = some (.ptr i k)) (hx : ev s.env x = some v) (hb : bat s.bs i = .cells cs) (hs : v.cells.length = size) (h1 : v.cells.all AV.one = true) (hk : k + size ≤ cs.length)
    (hv : cs.take k ++ v.cells ++ cs.drop (k + size) = cs') : OpT P o s (.und) (bset s.bs i (.cells cs')) := by
  rw [bset_set _ _ _ (bat_lt hb (by simp))]
  exact op_store ht ho hp hx (get_bat _ _ _ hb (by simp)) hs h1 hk hv

/-- Maps with new entries; a new map. -/
theorem op_mkmap_b {P : Program} {o : Oper} {s : St} {t : TypeId} {k : Nat} (ho : o.op = .makeMap t none) (hk : bat s.bs k = .gone) : OpT P o s (.map k) (bset s.bs k (.map [])) := by
  refine OpT.of (by simp [ho]) ?_
  intro G w a hI hE K Q hK
  have hg := hI.batOk k
  rw [hk] at hg
  let G' : Ghost := { G with cl := fun i => if i = k then some w.heap.size else G.cl i }
  have hcl : G'.cl k = some w.heap.size := by simp [G']
  have hgr0 : G'.gr k = none := hg.2
  have hf : ∀ c, c < w.heap.size → (w.alloc (.map #[] 0)).heap[c]? = w.heap[c]? := fun c hc => heap_alloc_old w _ c hc
  have hown : ∀ c, G'.owns k c → c = w.heap.size := fun c hc => by
    rcases hc with hc | ⟨g, hg', _⟩
    · rw [hcl] at hc; exact (Option.some.inj hc).symm
    · rw [hgr0] at hg'; cases hg'
  have hle : G.le G' := ⟨fun i c e => by
    have : i ≠ k := fun x => by rw [x, hg.1] at e; cases e
    simp [G', this, e], fun i g e => ⟨g, e, .inl rfl⟩, .refl _⟩
  have h1 := hI.turn (G' := G') (w' := w.alloc (.map #[] 0)) (k := k) (.map []) (fun i hi => by simp [G', hi]) (fun _ _ => rfl) hle (fun c hc _ => hf c hc) (fun _ _ _ _ _ => rfl) (fun c o v ez => by
      rw [rd_of_frame (hf c (hI.z_lt ez))]; exact hI.z c o v ez)
    ⟨hgr0, fun c hc => by
      rw [hcl] at hc
      obtain rfl := Option.some.inj hc
      refine ⟨#[], 0, heap_alloc_new w _, rfl, fun j e ce e1 _ => by simp at e1, fun o => ?_⟩
      cases hz : G.Z w.heap.size o with
      | none => rfl
      | some v => have := hI.z_lt hz; omega⟩ (fun c hc => .inl (by rw [hown c hc]; exact Nat.le_refl _))
  unfold Oper.wp execOp
  have hrun : (Instr.makeMap t none).run P w = .ok (.map (some w.heap.size)) (w.alloc (.map #[] 0)) := rfl
  simp only [ho, Option.map_none, Sem.run_bind, hrun, Result.andThen_ok]
  refine hK _ _ G' ⟨.map _ _ hcl, h1, hle, ⟨rfl, rfl, rfl, by simp, .refl _, fun _ _ _ e => .inl e, fun c hc _ => hf c hc, fun i c hc => ?_, loop_of_same fun c hc => .inl (hf c hc)⟩⟩
  by_cases hi : i = k
  · subst hi; rw [hown c hc]; exact .inl (Nat.le_refl _)
  · exact .inr ⟨i, by unfold Ghost.owns at hc ⊢; simpa [G', hi] using hc⟩

end
end Go.Proofs.YtelgmdljcbkniaaDoor.Ai
