/- An interpreter of values for the model's code, base text 13: variables that are made in regions whose order is drawn. -/
import Derived.Test.YtelgmdljcbkniaaDoorB12
namespace Go.Proofs.YtelgmdljcbkniaaDoor.Ai
noncomputable section
open Go

theorem weak_gone {n m : Nat} {env : Env} {bs : List Blk} (k : Nat) : Weak n m ⟨env, bs⟩ ⟨env, bs ++ List.replicate k .gone⟩ := by
  intro X r a w H
  obtain ⟨G, hE, hI, hle, hev⟩ := H.st
  refine ⟨⟨G, hE, ⟨fun i b hb => ?_, fun i hi => hI.dom i (show bs.length ≤ i by simp at hi; omega), hI.inj, hI.z⟩, hle, hev⟩, H.sz⟩
  rw [List.getElem?_append] at hb
  split at hb
  · exact hI.blk i b hb
  · rename_i hi
    rw [List.getElem?_replicate] at hb
    split at hb
    · obtain rfl := Option.some.inj hb
      exact hI.dom i (show bs.length ≤ i by omega)
    · cases hb

theorem T_gone {P : Program} {n m : Nat} {c : Code} {env : Env} {bs bs' : List Blk} {Q : Exit → St → Prop} (k : Nat) (hb : bs ++ List.replicate k .gone = bs') (h : T P n m c ⟨env, bs'⟩ Q) : T P n m c ⟨env, bs⟩ Q :=
  T_weak (hb ▸ weak_gone k) h

/-- A block is made at its place. -/
theorem Inv.fillat {G : Ghost} {bs : List Blk} {w : World} (hI : Inv G bs w) {k : Nat} (hk : bs[k]? = some .gone) (arr : Array Value) (e : TypeId) (cs : List AV) (hl : cs.length ≤ arr.size)
    (hr : ∀ (j : Nat) v cv, cs[j]? = some v → arr[j]? = some cv → R G v cv) (o : Nat) :
    ∃ G', Inv G' (bs.set k (.cells cs)) (w.alloc (.cells arr e)) ∧ G.le G' ∧ Ev G w G' (w.alloc (.cells arr e)) ∧ G'.cl k = some w.heap.size ∧ R G' (.ptr k o) (.pointer (some ⟨w.heap.size, o, none⟩)) := by
  have hg := hI.blk k _ hk
  let G' : Ghost := { G with cl := fun i => if i = k then some w.heap.size else G.cl i }
  have hcl : G'.cl k = some w.heap.size := by simp [G']
  have hne : ∀ i, i ≠ k → G'.cl i = G.cl i := fun i hi => by simp [G', hi]
  have hf : ∀ c, c < w.heap.size → (w.alloc (.cells arr e)).heap[c]? = w.heap[c]? := fun c hc => heap_alloc_old w _ c hc
  have hs : ∀ c o v, G.Z c o = some v → rd (w.alloc (.cells arr e)) c o = some v := fun c o v ez => by
    rw [rd_of_frame (hf c (z_lt hI ez))]; exact hI.z c o v ez
  have hnone : ∀ o, G.Z w.heap.size o = none := fun o => by
    cases hz : G.Z w.heap.size o with
    | none => rfl
    | some v => have := z_lt hI hz; omega
  have hle : G.le G' := by
    refine ⟨fun i c e => ?_, fun i g e => ⟨g, e, .inl rfl⟩, .refl _⟩
    rw [hne i (fun hi => by rw [hi, hg.1] at e; cases e)]; exact e
  have hownk : ∀ c, G'.owns k c → c = w.heap.size := fun c hc => by
    rcases hc with hc | ⟨g, hgr, _⟩
    · rw [hcl] at hc; exact (Option.some.inj hc).symm
    · have : G.gr k = some g := hgr
      rw [hg.2] at this; cases this
  have howns : ∀ i c, i ≠ k → (G'.owns i c ↔ G.owns i c) := fun i c hi => by unfold Ghost.owns; rw [hne i hi]
  refine ⟨G', ⟨fun i b hb => ?_, fun i hi => ?_, fun i j c h1 h2 => ?_, hs⟩, hle, ⟨rfl, rfl, rfl, by simp, .refl _, fun _ _ _ e => .inl e, fun c hc _ => hf c hc, fun i c hc => ?_, loop_of_same fun c hc => .inl (hf c hc)⟩, hcl, .ptr _ _ _ hcl⟩
  · rw [List.getElem?_set] at hb
    split at hb
    · rename_i hik
      subst hik
      split at hb
      · obtain rfl := Option.some.inj hb
        refine ⟨hg.2, fun c hc => ?_⟩
        rw [hcl] at hc
        obtain rfl := Option.some.inj hc
        exact ⟨arr, e, heap_alloc_new w _, hl, fun j v cv e1 e2 => (hr j v cv e1 e2).mono hle, hnone⟩
      · cases hb
    · rename_i hik
      exact (hI.blk i b hb).keep hle (hne i (fun e => hik e.symm)) rfl (fun c hc => hf c (hI.lt hc).2) fun _ _ _ => rfl
  · have hik : i ≠ k := fun e => by
      have := lt_of_get hk
      simp at hi; omega
    rw [hne i hik]
    exact hI.dom i (by simpa using hi)
  · by_cases hi : i = k <;> by_cases hj : j = k
    · omega
    · rw [howns j c hj] at h2
      have h3 := (hI.lt h2).2
      have := hownk c (hi ▸ h1)
      omega
    · rw [howns i c hi] at h1
      have h3 := (hI.lt h1).2
      have := hownk c (hj ▸ h2)
      omega
    · rw [howns i c hi] at h1
      rw [howns j c hj] at h2
      exact hI.inj i j c h1 h2
  · by_cases hi : i = k
    · subst hi; rw [hownk c hc]; exact .inl (Nat.le_refl _)
    · exact .inr ⟨i, (howns i c hi).1 hc⟩

theorem op_alloc_at {P : Program} {o : Oper} {s : St} {t : TypeId} {size bytes : Nat} {z : Value} {d : TypeDesc} {v : AV} {k : Nat} (ht : Inf P t size bytes z d) (hz : ofConst z = some v) (h1 : v.cells.all AV.one = true)
    (ho : o.op = .alloc t) (hk : s.bs[k]? = some .gone) : OpT P o s (.ptr k 0) (s.bs.set k (.cells v.cells)) := by
  refine OpT.of (by simp [ho]) ?_
  intro G w a hI hE K Q hK
  have hr : R G v z := .imm _ _ (ofConst_ri hz)
  obtain ⟨hsz, hcells, hone⟩ := hr.cells h1
  obtain ⟨G', hI', hle, hev, hcl, hp⟩ := hI.fillat hk z.cells t v.cells (by omega) hcells 0
  unfold Oper.wp
  have : (execOp a.eval o).run P w = .ok (.value (.pointer (some ⟨w.heap.size, 0, none⟩))) (w.alloc (.cells z.cells t)) := by
    simp [execOp, ho, Instr.alloc, ht.zero, newVar, newRow]
  rw [this]
  exact hK _ _ G' ⟨hp, hI', hle, hev⟩

mutual
theorem imm_below (k : Nat) : ∀ {v x : AV}, imm [] v = some x → below k v = true := by
  intro v x h
  cases v with
  | agg cs =>
    simp only [imm] at h
    cases hc : imms [] cs with
    | none => simp [hc] at h
    | some xs => simpa [below] using imms_below k hc
  | tup cs =>
    simp only [imm] at h
    cases hc : imms [] cs with
    | none => simp [hc] at h
    | some xs => simpa [below] using imms_below k hc
  | fn f cs =>
    simp only [imm] at h
    cases hc : imms [] cs with
    | none => simp [hc] at h
    | some xs => simpa [below] using imms_below k hc
  | ptr i o => simp [imm] at h
  | rptr i j z o => simp [imm] at h
  | slc i o z l c => simp [imm] at h
  | gsl i l => simp [imm] at h
  | map i => simp [imm] at h
  | yld i => simp [imm] at h
  | optr i n j z o => simp [imm] at h
  | oslc i n o z l c => simp [imm] at h
  | _ => rfl
termination_by v => SizeOf.sizeOf v
theorem imms_below (k : Nat) : ∀ {cs xs : List AV}, imms [] cs = some xs → belows k cs = true
  | [], _, _ => rfl
  | v :: r, xs, h => by
    simp only [imms] at h
    split at h
    · rename_i x xs' h1 h2
      simp only [belows, imm_below k h1, imms_below k h2]
    · cases h
termination_by cs => SizeOf.sizeOf cs
end

theorem belowB_mb {α : Type} {k : Nat} {kk : IntKind} {e : α → AV} (he : ∀ x, below k (e x) = true) (l : List (Int × α)) (r : List Blk) : belowB k (mb kk e l :: r) = belowB k r := by
  have : ∀ l : List (Int × α), belowM k (l.map fun p => ((.int kk p.1, e p.2) : AV × AV)) = true := by
    intro l
    induction l with
    | nil => rfl
    | cons p l ih => simp only [List.map_cons, belowM, he, ih]
  simp only [mb, belowB, this]

theorem renB_mb {α : Type} {σ : Nat → Nat} {kk : IntKind} {e : α → AV} (he : ∀ x, ren σ (e x) = e x) (l : List (Int × α)) : renB σ (mb kk e l) = mb kk e l := by
  simp only [mb, renB, List.map_map]
  congr 1
  apply List.map_congr_left
  intro p _
  simp [he]

theorem back_nil_mb {α : Type} {σ : Nat → Nat} {kk : IntKind} {e : α → AV} (he : ∀ x, ren σ (e x) = e x) {l : List (Int × α)} {st : List Blk} : back [] σ st [mb kk e l] = st ++ [mb kk e l] := by
  simp [back, setAll, renB_mb he]
end
end Go.Proofs.YtelgmdljcbkniaaDoor.Ai
