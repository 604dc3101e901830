/- An interpreter of values for the model's code, base text 15: slices that grow, slices that are made, parts of slices, lengths. -/
import Derived.Test.YtelgmdljcbkniaaDoorB14
namespace Go.Proofs.YtelgmdljcbkniaaDoor.Ai
noncomputable section
open Go
set_option linter.unusedVariables false

theorem cell_add (w : World) (c o j : Nat) : w.cell? ((⟨c, o, none⟩ : Addr).add j) = w.cell? ⟨c, o + j, none⟩ := by rw [addr_add]

/-- The cells of a list that nobody writes. -/
theorem lst_cells {Z : ZM} {ys : List AV} {sz c o : Nat} {w : World} (hs0 : 0 < sz) (he : ∀ (j : Nat) (x : AV), ys[j]? = some x → x.cells.length = sz)
    (hz : ∀ (j : Nat) (x : AV) (q : Nat) v cv, ys[j]? = some x → x.cells[q]? = some v → Z c (o + j * sz + q) = some cv → RI Z v cv)
    (hd : ∀ (j q : Nat), j < ys.length → q < sz → ∃ cv, Z c (o + j * sz + q) = some cv) (hr : ∀ c o v, Z c o = some v → rd w c o = some v) :
    ∃ news : List Value, news.length = ys.length * sz ∧ (∀ j u, news[j]? = some u → w.cell? ⟨c, o + j, none⟩ = some u) ∧
      (∀ (j : Nat) (x : AV) (q : Nat) v, ys[j]? = some x → x.cells[q]? = some v → ∃ cv, news[j * sz + q]? = some cv ∧ RI Z v cv) ∧ (∀ u ∈ news, ∃ (j : Nat) (x : AV) (q : Nat) (v : AV), ys[j]? = some x ∧ x.cells[q]? = some v ∧ RI Z v u) := by
  refine ⟨(List.range (ys.length * sz)).map fun j => (Z c (o + j)).getD undef, by simp, fun j u hj => ?_, fun j x q v hx hq => ?_, fun u hu => ?_⟩
  all_goals
    have key : ∀ j, j < ys.length * sz → ∃ x v cv, ys[j / sz]? = some x ∧ x.cells[j % sz]? = some v ∧ Z c (o + j) = some cv ∧ RI Z v cv := fun j hj => by
      have hq : j % sz < sz := Nat.mod_lt _ hs0
      have hk : j / sz < ys.length := Nat.div_lt_of_lt_mul (by rw [Nat.mul_comm]; exact hj)
      have e : o + j / sz * sz + j % sz = o + j := by have := Nat.div_add_mod j sz; rw [Nat.mul_comm] at this; omega
      obtain ⟨cv, h1⟩ := hd (j / sz) (j % sz) hk hq
      have hx : ys[j / sz]? = some ys[j / sz] := List.getElem?_eq_getElem hk
      have hl := he _ _ hx
      have hv : (ys[j / sz]).cells[j % sz]? = some (ys[j / sz]).cells[j % sz] := List.getElem?_eq_getElem (by omega)
      exact ⟨_, _, cv, hx, hv, e ▸ h1, hz _ _ _ _ _ hx hv h1⟩
  · have hlt : j < ys.length * sz := by have := lt_of_get hj; simpa using this
    obtain ⟨x, v, cv, _, _, h3, h4⟩ := key j hlt
    rw [List.getElem?_map, List.getElem?_range hlt] at hj
    simp only [Option.map_some, h3, Option.getD_some, Option.some.injEq] at hj
    subst hj
    exact rd_cell (hr _ _ _ h3) (RI.no_code h4)
  · have hq' : q < sz := he j x hx ▸ lt_of_get hq
    have hlt : j * sz + q < ys.length * sz := by
      have h1 : j * sz + sz ≤ ys.length * sz := by rw [← Nat.succ_mul]; exact Nat.mul_le_mul_right _ (lt_of_get hx)
      omega
    obtain ⟨cv, h1⟩ := hd j q (lt_of_get hx) hq'
    refine ⟨cv, ?_, hz j x q v cv hx hq h1⟩
    rw [List.getElem?_map, List.getElem?_range hlt]
    simp [← Nat.add_assoc, h1]
  · obtain ⟨j, hj, rfl⟩ := List.mem_map.1 hu
    have hlt : j < ys.length * sz := by simpa using hj
    obtain ⟨x, v, cv, h1, h2, h3, h4⟩ := key j hlt
    exact ⟨_, x, _, v, h1, h2, by rw [h3]; exact h4⟩

theorem one_of_ri {Z : ZM} {v : AV} {u : Value} (h : RI Z v u) (h1 : v.one = true) : u.oneCell' = true := by
  cases h <;> first | rfl | cases h1

/-- Each element has the size, and cells that are one. -/
def Sized (sz : Nat) (ys : List AV) : Prop := ∀ y ∈ ys, y.cells.length = sz ∧ y.cells.all AV.one = true

theorem sized_get {sz : Nat} {ys : List AV} (h : Sized sz ys) (j : Nat) (y : AV) (hy : ys[j]? = some y) : y.cells.length = sz ∧ y.cells.all AV.one = true := h y (List.mem_of_getElem? hy)

theorem grow_turn {e size : Nat} {G : Ghost} {bs : List Blk} {w w' : World} (hI : Inv G bs w) {i : Nat} {xs ys : List AV} {g : Gr} (hb : bat bs i = .grow e size xs) (hg : G.gr i = some g) {cs news : List Value}
    (hs0 : 0 < size) (hn : g.n = xs.length) (hcells : ∀ (j : Nat) (x : AV), xs[j]? = some x → x.cells.length = size) (hlen : cs.length = xs.length * size)
    (hcont : ∀ (j : Nat) (x : AV) (q : Nat) v cv, xs[j]? = some x → x.cells[q]? = some v → cs[j * size + q]? = some cv → RI G.Z v cv)
    (hzz : ∀ c, g.hv.ownBlock = some c → (∀ (k : Nat) cv, cs[k]? = some cv → G.Z c k = some cv) ∧ ∀ k, cs.length ≤ k → G.Z c k = none)
    (hysz : ∀ (j : Nat) (y : AV), ys[j]? = some y → y.cells.length = size) (hy0 : 0 < ys.length) (hnews : ∀ (j : Nat) (x : AV) (q : Nat) v, ys[j]? = some x → x.cells[q]? = some v → ∃ cv, news[j * size + q]? = some cv ∧ RI G.Z v cv)
    {g2 cap2 : Nat} (hown : w'.ownsRow 0 e size (.slice (some ⟨g2, 0, none⟩) (xs.length + ys.length) cap2) (xs.length + ys.length) (cs ++ news)) (hos : w'.os = w.os) (htape : w'.tape = w.tape) (hout : w'.output = w.output) (hsize : w.heap.size ≤ w'.heap.size)
    (hnc : ∀ u ∈ news, ∀ ks vs, u ≠ mapCode ks vs) (hnc0 : ∀ u ∈ cs, ∀ ks vs, u ≠ mapCode ks vs) (hplace : w.heap.size ≤ g2 ∨ g.hv.ownBlock = some g2) (hf : ∀ c, c < w.heap.size → c ≠ g2 → w'.heap[c]? = w.heap[c]?) :
    ∃ G', After G w (.gsl i (xs.length + ys.length)) (bset bs i (.grow e size (xs ++ ys))) (.slice (some ⟨g2, 0, none⟩) (xs.length + ys.length) cap2) w' G' := by
  have hB := hI.batOk i
  rw [hb] at hB
  have hcl := hB.1
  let Z' : ZM := fun c o => if c = g2 then (cs ++ news)[o]? else G.Z c o
  have z0 : ∀ o v, G.Z g2 o = some v → (cs ++ news)[o]? = some v := fun o v ez => by
    rcases hplace with h | h
    · have := hI.z_lt ez; omega
    · obtain ⟨h1, h2⟩ := hzz g2 h
      have ho : o < cs.length := by
        rcases Nat.lt_or_ge o cs.length with h' | h'
        · exact h'
        · rw [h2 o h'] at ez; cases ez
      have := h1 o cs[o] (by simp [ho])
      rw [ez] at this
      rw [List.getElem?_append_left ho, List.getElem?_eq_getElem ho]
      exact this.symm
  have hle : G.Z.le Z' := fun c o v ez => by
    simp only [Z']
    split
    · rename_i h; subst h; exact z0 o v ez
    · exact ez
  let G' : Ghost := ⟨G.cl, fun j => if j = i then some ⟨xs.length + ys.length, .slice (some ⟨g2, 0, none⟩) (xs.length + ys.length) cap2⟩ else G.gr j, Z', G.ok.mono hle⟩
  have hgr : G'.gr i = some ⟨xs.length + ys.length, .slice (some ⟨g2, 0, none⟩) (xs.length + ys.length) cap2⟩ := by simp [G']
  have hgrne : ∀ j, j ≠ i → G'.gr j = G.gr j := fun j hj => by simp [G', hj]
  have hleG : G.le G' := by
    refine ⟨fun _ _ h => h, fun j g' h => ?_, hle⟩
    by_cases hj : j = i
    · subst hj
      rw [hg] at h
      obtain rfl := Option.some.inj h
      exact ⟨_, hgr, .inr (by rw [hn]; show xs.length < xs.length + ys.length; omega)⟩
    · exact ⟨g', by rw [hgrne j hj]; exact h, .inl rfl⟩
  have hown_i : ∀ c, G'.owns i c → c = g2 := fun c hc => by
    rcases hc with hc | ⟨g', h1, h2⟩
    · rw [show G'.cl i = none from hcl] at hc; cases hc
    · rw [hgr] at h1
      obtain rfl := Option.some.inj h1
      simpa [Value.ownBlock] using h2.symm
  have hplace' : w.heap.size ≤ g2 ∨ G.owns i g2 := hplace.imp id fun h => .inr ⟨g, hg, h⟩
  have hinv := hI.turn (G' := G') (w' := w') (k := i) (.grow e size (xs ++ ys)) (fun _ _ => rfl) hgrne hleG
    (fun c hc hno => hf c hc fun e0 => by
      subst e0
      rcases hplace' with h | h
      · omega
      · exact hno h)
    (fun j c o hj hc => by
      show Z' c o = G.Z c o
      simp only [Z']
      rw [if_neg]
      intro e0
      subst e0
      rcases hplace' with h | h
      · have := (hI.lt hc).2; omega
      · exact hj (hI.inj j i c hc h))
    (fun c o v ez => by
      have ez0 : (if c = g2 then (cs ++ news)[o]? else G.Z c o) = some v := ez
      split at ez0
      · rename_i h; subst h
        have ez' : (cs ++ news)[o]? = some v := ez0
        have := hown.cells (g := c) rfl o v ez'
        rw [cell_add, Nat.zero_add] at this
        exact rd_of_cell this ((List.mem_append.1 (List.mem_of_getElem? ez')).elim (hnc0 v) (hnc v))
      · rename_i h
        rw [rd_of_frame (hf c (hI.z_lt ez0) h)]; exact hI.z c o v ez0)
    ⟨hcl, fun g' hg' => by
      rw [hgr] at hg'
      obtain rfl := Option.some.inj hg'
      refine ⟨by simp, hs0, fun j x hx => ?_, cs ++ news, by simpa using hown, fun j x q v cv hx hq hcv => ?_, fun c hc => ?_⟩
      · rw [List.getElem?_append] at hx
        split at hx
        · exact hcells j x hx
        · exact hysz _ x hx
      · have hqs : q < size := by
          rw [List.getElem?_append] at hx
          split at hx
          · exact hcells j x hx ▸ lt_of_get hq
          · exact hysz _ x hx ▸ lt_of_get hq
        rw [List.getElem?_append] at hx
        split at hx
        · rename_i hj
          have h1 : j * size + q < cs.length := by
            have : j * size + size ≤ xs.length * size := by rw [← Nat.succ_mul]; exact Nat.mul_le_mul_right _ hj
            omega
          rw [List.getElem?_append_left h1] at hcv
          exact (hcont j x q v cv hx hq hcv).mono hle
        · rename_i hj
          have e1 : j * size + q = cs.length + ((j - xs.length) * size + q) := by
            have : j * size = xs.length * size + (j - xs.length) * size := by rw [← Nat.add_mul]; congr 1; omega
            omega
          rw [e1, List.getElem?_append_right (by omega), Nat.add_sub_cancel_left] at hcv
          obtain ⟨cv', h1, h2⟩ := hnews _ x q v hx hq
          rw [h1] at hcv
          exact (Option.some.inj hcv) ▸ h2.mono hle
      · have : c = g2 := by simpa [Value.ownBlock] using hc.symm
        subst this
        exact ⟨fun k cv hk => by show Z' c k = some cv; simp only [Z', if_true]; exact hk, fun k hk => by show Z' c k = none; simp only [Z', if_true]; exact List.getElem?_eq_none hk⟩⟩
    (fun c hc => by rw [hown_i c hc]; exact hplace')
  have hcells2 : ∀ rec : Loop, w.heap[g2]? ≠ some (Obj.loop rec) := fun rec e0 => by
    rcases hplace with h | h
    · have := (Array.getElem?_eq_some_iff.1 e0).1; omega
    · obtain ⟨_, _, _, cs0, hown0, _⟩ := hB.2 g hg
      rcases hown0.2 with ⟨hv, _⟩ | ⟨g1, cap1, cur, hv, _, hh, _⟩
      · rw [hv] at h; simp [Value.ownBlock] at h
      · rw [hv] at h
        have : g1 = g2 := by simpa [Value.ownBlock] using h
        subst this
        rw [hh] at e0; cases e0
  refine ⟨G', .gsl _ _ _ _ _ hgr, hinv, hleG, ⟨hos, htape, hout, hsize, hle, fun c o v ez => ?_, fun c hc hno => hf c hc fun e0 => ?_, fun j c hc => ?_, loop_of_same fun c hc => by
    by_cases e0 : c = g2
    · exact .inr (by rw [e0]; exact hcells2)
    · exact .inl (hf c hc e0)⟩⟩
  · have ez : Z' c o = some v := ez
    simp only [Z'] at ez
    split at ez
    · rename_i h; subst h
      rcases hplace' with h | h
      · exact .inr (.inl h)
      · exact .inr (.inr ⟨i, h⟩)
    · exact .inl ez
  · subst e0
    rcases hplace' with h | h
    · omega
    · exact hno i h
  · by_cases hj : j = i
    · subst hj
      rw [hown_i c hc]
      exact hplace'.imp id fun h => ⟨j, h⟩
    · exact .inr ⟨j, by unfold Ghost.owns at hc ⊢; rw [hgrne j hj] at hc; exact hc⟩

theorem run_append_none {P : Program} {t ty e : TypeId} {ie : TypeInfo} {w : World} (ht : P.underlying t = some (.slice e)) (hie : P.info? e = some ie) {b b2 : Option Addr} {n cap c : Nat} (hn : n ≤ cap) :
    (Builtin.append_ #[t, t] ty #[.slice b n cap, .slice b2 0 c]).run P w = .ok (.slice b n cap) w := by
  have hf : (Builtin.firstCells ie.size 0 (.slice b2 0 c)).run P w = .ok #[] w := by
    cases b2 with
    | none => exact run_firstCells_none ..
    | some a => exact run_firstCells_some (P := P) w ie.size 0 a 0 c [] (by simp) (by simp)
  cases b with
  | none => simp [Builtin.append_, run_underlying ht, sizeOf, typeInfo, hie, Builtin.lenOf, hn, hf]
  | some a => simp [Builtin.append_, run_underlying ht, sizeOf, typeInfo, hie, Builtin.lenOf, hn, hf, storeCells]

/-- A list that grows by another: in place or anew. -/
theorem after_append {P : Program} {t ty e : TypeId} {size bytes : Nat} {z : Value} {d : TypeDesc} (ht : P.underlying t = some (.slice e)) (he : Inf P e size bytes z d) (hzs : z.cells.size = size) (hs0 : 0 < size)
    {G : Ghost} {bs : List Blk} {w : World} (hI : Inv G bs w) {i : Nat} {xs ys : List AV} {g : Gr} (hb : bat bs i = .grow e size xs) (hg : G.gr i = some g) {ex : Bool} {cy : Value} (hy : RI G.Z (.lst ex ys) cy) (hsz : Sized size ys) (hbound : (xs.length + ys.length) * bytes ≤ 140737488355328) (hmax : xs.length + ys.length ≤ maxLen) :
    ∃ v' w' G', (Builtin.append_ #[t, t] ty #[g.hv, cy]).run P w = .ok v' w' ∧ After G w (.gsl i (xs.length + ys.length)) (bset bs i (.grow e size (xs ++ ys))) v' w' G' := by
  obtain ⟨ie, hie, hsize, hby, hz⟩ := he.info
  have hB := hI.batOk i
  rw [hb] at hB
  obtain ⟨hcl, hB⟩ := hB
  obtain ⟨hn, _, hcells, cs, hown, hcont, hzz⟩ := hB g hg
  by_cases hy0 : ys = []
  · subst hy0
    have hrun : (Builtin.append_ #[t, t] ty #[g.hv, cy]).run P w = .ok g.hv w := by
      have : ∃ b c, cy = .slice b 0 c := by
        cases hy with
        | nilslice _ b => exact ⟨b, 0, rfl⟩
        | lst _ _ sz c o cap _ _ _ _ _ => exact ⟨_, cap, rfl⟩
      obtain ⟨b, c, rfl⟩ := this
      rcases hown.2 with ⟨hv, _⟩ | ⟨g1, cap, cur, hv, _, _, hc, _⟩
      · rw [hv]; exact run_append_none ht hie (Nat.le_refl _)
      · rw [hv]; exact run_append_none ht hie hc
    have hv : ∃ b l c, g.hv = .slice b l c := by
      rcases hown.2 with ⟨hv, _⟩ | ⟨g1, cap, cur, hv, _⟩
      · exact ⟨_, _, _, hv⟩
      · exact ⟨_, _, _, hv⟩
    obtain ⟨b, l, c, hv⟩ := hv
    refine ⟨g.hv, w, G, hrun, ?_, ?_, .refl _, .refl _ _⟩
    · rw [hv]
      refine .gsl _ _ _ _ _ (hg.trans ?_)
      rw [← hv]
      cases g
      simp at hn ⊢
      exact hn
    · simp only [List.append_nil]
      refine .of_bat (fun j => ?_) hI.inj hI.z
      rw [bat_bset]
      split
      · rename_i e0; subst e0; rw [← hb]; exact hI.batOk i
      · exact hI.batOk j
  · have hy1 : 0 < ys.length := by cases ys with | nil => exact absurd rfl hy0 | cons => simp
    cases hy with
    | nilslice => simp at hy1
    | lst _ _ sz c o cap hel hzr hdr hcap _ =>
      have hszz : sz = size := by
        have h1 : ys[0]? = some ys[0] := List.getElem?_eq_getElem hy1
        rw [← hel 0 _ h1, (sized_get hsz 0 _ h1).1]
      subst hszz
      obtain ⟨news, hl, hcel, hnews, hone⟩ := lst_cells (w := w) hs0 hel hzr hdr hI.z
      have hcel' : ∀ j u, news[j]? = some u → w.cell? ((⟨c, o, none⟩ : Addr).add j) = some u := fun j u e1 => by rw [cell_add]; exact hcel j u e1
      have h1 : ∀ u ∈ news, u.oneCell' = true := fun u hu => by
        obtain ⟨j, x, q, v, e1, e2, e3⟩ := hone u hu
        exact one_of_ri e3 (List.all_eq_true.1 (sized_get hsz j x e1).2 v (List.mem_of_getElem? e2))
      have hnc : ∀ u ∈ news, ∀ ks vs, u ≠ mapCode ks vs := fun u hu => by
        obtain ⟨j, x, q, v, _, _, e3⟩ := hone u hu
        exact e3.no_code
      have hnc0 : ∀ u ∈ cs, ∀ ks vs, u ≠ mapCode ks vs := fun u hu => by
        obtain ⟨j, hj⟩ := List.getElem?_of_mem hu
        rcases hown.2 with ⟨_, h0⟩ | ⟨g1, cap1, cur, hv, _⟩
        · have : cs = [] := List.eq_nil_of_length_eq_zero (by rw [hown.1, h0]; simp)
          rw [this] at hu; cases hu
        · have hob : g.hv.ownBlock = some g1 := by rw [hv]; rfl
          have hc := hown.cells hob j u hj
          rw [cell_add] at hc
          exact rd_nocode (hI.z _ _ _ ((hzz g1 hob).1 j u hj)) ⟨u, by simpa using hc⟩
      have fresh : ∀ v' w', w'.ownsRow w.heap.size e sz v' (xs.length + ys.length) (cs ++ news) → w.grownBy w' none → ∃ G', After G w (.gsl i (xs.length + ys.length)) (bset bs i (.grow e sz (xs ++ ys))) v' w' G' := fun v' w' ho hgb => by
        rcases ho.2 with ⟨_, h0⟩ | ⟨g2, cap2, cur, rfl, hge, hrest⟩
        · omega
        · exact grow_turn hI hb hg hs0 hn hcells hown.1 hcont hzz (fun j y hy => (sized_get hsz j y hy).1) hy1 hnews ⟨ho.1, .inr ⟨g2, cap2, cur, rfl, Nat.zero_le _, hrest⟩⟩ hgb.os hgb.tape hgb.output hgb.size hnc hnc0 (.inl hge) (fun c hc _ => hgb.block c hc (by simp))
      rcases hown.2 with ⟨hv, h0⟩ | ⟨g1, cap1, cur, hv, hbg, hh, hc1, hcm, hcs, htake⟩
      · have hcs0 : cs = [] := List.eq_nil_of_length_eq_zero (by rw [hown.1, h0]; simp)
        have ho := World.ownsRow_nil w w.heap.size e sz
        rw [h0] at hmax hbound
        obtain ⟨v', w', hr, ho', hgb, _⟩ := run_append_own (P := P) w w.heap.size t ty e ie z sz bytes ht hie hz hsize hby hzs hs0 (.slice none 0 0) 0 [] ho ⟨c, o, none⟩ ys.length cap news hl hcel' h1 hmax hbound (Nat.le_refl _)
        obtain ⟨G', hA⟩ := fresh v' w' (by rw [h0, hcs0]; exact ho') (by simpa [Value.ownBlock] using hgb)
        exact ⟨v', w', G', by rw [hv]; exact hr, hA⟩
      · by_cases hroom : xs.length + ys.length ≤ cap1
        · have hfit : xs.length * ie.size + news.length ≤ cur.size := by rw [hl, hcs, hsize, ← Nat.add_mul]; exact Nat.mul_le_mul_right _ hroom
          have hr := run_append_room (P := P) w t ty e ie ht hie g1 xs.length cap1 cur hh ⟨c, o, none⟩ ys.length cap news (by rw [hsize]; exact hl) hcel' h1 hroom hfit
          rw [hsize] at hr hfit
          have hown' : (w.setRow g1 (cur.toList.take (xs.length * sz) ++ news ++ cur.toList.drop (xs.length * sz + news.length)).toArray).ownsRow 0 e sz (.slice (some ⟨g1, 0, none⟩) (xs.length + ys.length) cap1) (xs.length + ys.length) (cs ++ news) := by
            refine ⟨by rw [List.length_append, hown.1, hl, Nat.add_mul], .inr ⟨g1, cap1, _, rfl, Nat.zero_le _, setRow_heap w g1 cur _ e _ hh, hroom, hcm, ?_, ?_⟩⟩
            · simp only [List.size_toArray, List.length_append, List.length_take, List.length_drop, Array.length_toList]
              omega
            · have e0 : cur.toList.take (xs.length * sz) = cs := htake
              rw [e0]
              have e1 : (xs.length + ys.length) * sz = (cs ++ news).length := by rw [List.length_append, hown.1, hl, Nat.add_mul]
              rw [e1]
              exact List.take_left
          obtain ⟨G', hA⟩ := grow_turn (w' := w.setRow g1 (cur.toList.take (xs.length * sz) ++ news ++ cur.toList.drop (xs.length * sz + news.length)).toArray) hI hb hg hs0 hn hcells hown.1 hcont hzz (fun j y hy => (sized_get hsz j y hy).1) hy1 hnews hown' rfl rfl rfl (by simp)
            hnc hnc0 (.inr (by rw [hv]; rfl)) (fun c _ hc => setRow_other w g1 c _ hc)
          exact ⟨_, _, G', by rw [hv]; exact hr, hA⟩
        · have holds : ∀ j u, cs[j]? = some u → w.cell? ((⟨g1, 0, none⟩ : Addr).add j) = some u := hown.cells (g := g1) (by rw [hv]; rfl)
          obtain ⟨v', w', hr, ho', hgb⟩ := run_append_arg_grows (P := P) w t ty e ie z sz bytes ht hie hz hsize hby hzs hs0 ⟨g1, 0, none⟩ xs.length cap1 cs hown.1 holds ⟨c, o, none⟩ ys.length cap news hl hcel' (by omega) hmax hbound
          obtain ⟨G', hA⟩ := fresh v' w' ho' hgb
          exact ⟨v', w', G', by rw [hv]; exact hr, hA⟩

end
end Go.Proofs.YtelgmdljcbkniaaDoor.Ai
