/- An interpreter of values for the model's code, base text 27: operations on lists of one's own. -/
import Derived.Test.YtelgmdljcbkniaaDoorB26
namespace Go.Proofs.YtelgmdljcbkniaaDoor.Ai
noncomputable section
open Go
set_option linter.unusedVariables false

/-- A list of one's own that lies anew, or longer. -/
theorem own_turn {G : Ghost} {bs : List Blk} {w w' : World} (hI : Inv G bs w) {i e size : Nat} {xs : List AV} (hcl : G.cl i = none) (hlt : ∀ g, G.gr i = some g → g.n < xs.length) (hs0 : 0 < size) (hsz : ∀ (j : Nat) (x : AV), xs[j]? = some x → x.cells.length = size)
    {g2 cap2 : Nat} {cs : List Value} (hown : w'.ownsRow 0 e size (.slice (some ⟨g2, 0, none⟩) xs.length cap2) xs.length cs) (hcont : ∀ (j : Nat) (x : AV) (q : Nat) v cv, xs[j]? = some x → x.cells[q]? = some v → cs[j * size + q]? = some cv → R G v cv)
    (hz2 : ∀ k, G.Z g2 k = none) (hplace : w.heap.size ≤ g2 ∨ G.owns i g2) (hnl : ∀ rec : Loop, w.heap[g2]? ≠ some (Obj.loop rec)) (hos : w'.os = w.os) (htape : w'.tape = w.tape) (hout : w'.output = w.output) (hsize : w.heap.size ≤ w'.heap.size)
    (hf : ∀ c, c < w.heap.size → c ≠ g2 → w'.heap[c]? = w.heap[c]?) :
    ∃ G', After G w (.gsl i xs.length) (bset bs i (.own e size xs)) (.slice (some ⟨g2, 0, none⟩) xs.length cap2) w' G' := by
  let G' : Ghost := ⟨G.cl, fun j => if j = i then some ⟨xs.length, .slice (some ⟨g2, 0, none⟩) xs.length cap2⟩ else G.gr j, G.Z, G.ok⟩
  have hgr : G'.gr i = some ⟨xs.length, .slice (some ⟨g2, 0, none⟩) xs.length cap2⟩ := by simp [G']
  have hgrne : ∀ j, j ≠ i → G'.gr j = G.gr j := fun j hj => by simp [G', hj]
  have hleG : G.le G' := by
    refine ⟨fun _ _ h => h, fun j g' h => ?_, .refl _⟩
    by_cases hj : j = i
    · subst hj
      exact ⟨_, hgr, .inr (hlt g' h)⟩
    · exact ⟨g', by rw [hgrne j hj]; exact h, .inl rfl⟩
  have hown_i : ∀ c, G'.owns i c → c = g2 := fun c hc => by
    rcases hc with hc | ⟨g', h1, h2⟩
    · rw [show G'.cl i = none from hcl] at hc; cases hc
    · rw [hgr] at h1
      obtain rfl := Option.some.inj h1
      simpa [Value.ownBlock] using h2.symm
  have hinv := hI.turn (G' := G') (w' := w') (k := i) (.own e size xs) (fun _ _ => rfl) hgrne hleG
    (fun c hc hno => hf c hc fun e0 => by
      subst e0
      rcases hplace with h | h
      · omega
      · exact hno h)
    (fun j c o hj hc => rfl)
    (fun c o v ez => by
      have hc : c ≠ g2 := fun e0 => by have ez' : G.Z c o = some v := ez; rw [e0, hz2 o] at ez'; cases ez'
      rw [rd_of_frame (hf c (hI.z_lt ez) hc)]; exact hI.z c o v ez)
    ⟨hcl, fun g' hg' => by
      rw [hgr] at hg'
      obtain rfl := Option.some.inj hg'
      exact ⟨rfl, hs0, hsz, cs, hown, fun j x q v cv e1 e2 e3 => (hcont j x q v cv e1 e2 e3).mono hleG, fun c hc k => by
        have : c = g2 := by simpa [Value.ownBlock] using hc.symm
        subst this
        exact hz2 k⟩⟩
    (fun c hc => by rw [hown_i c hc]; exact hplace)
  refine ⟨G', .gsl _ _ _ _ _ hgr, hinv, hleG, ⟨hos, htape, hout, hsize, .refl _, fun c o v ez => .inl ez, fun c hc hno => hf c hc fun e0 => ?_, fun j c hc => ?_, loop_of_same fun c hc => by
    by_cases e0 : c = g2
    · exact .inr (by rw [e0]; exact hnl)
    · exact .inl (hf c hc e0)⟩⟩
  · subst e0
    rcases hplace with h | h
    · omega
    · exact hno i h
  · by_cases hj : j = i
    · subst hj
      rw [hown_i c hc]
      exact hplace.imp id fun h => ⟨j, h⟩
    · exact .inr ⟨j, by unfold Ghost.owns at hc ⊢; rw [hgrne j hj] at hc; exact hc⟩

/-- The cells of a slice that is read. -/
theorem reads_cells {G : Ghost} {w : World} {sz : Nat} {xs : List AV} {c o : Nat} (hs0 : 0 < sz) (hsz : Sized sz xs)
    (h : ∀ (j : Nat) (x : AV) (q : Nat) v, xs[j]? = some x → x.cells[q]? = some v → ∃ u, w.cell? ⟨c, o + j * sz + q, none⟩ = some u ∧ R G v u) :
    ∃ news : List Value, news.length = xs.length * sz ∧ (∀ j u, news[j]? = some u → w.cell? ((⟨c, o, none⟩ : Addr).add j) = some u) ∧ (∀ u ∈ news, u.oneCell' = true) ∧
      (∀ (j : Nat) (x : AV) (q : Nat) v cv, xs[j]? = some x → x.cells[q]? = some v → news[j * sz + q]? = some cv → R G v cv) := by
  have key : ∀ j, j < xs.length * sz → ∃ x v u, xs[j / sz]? = some x ∧ x.cells[j % sz]? = some v ∧ w.cell? ⟨c, o + j, none⟩ = some u ∧ R G v u ∧ v.one = true := fun j hj => by
    have hq : j % sz < sz := Nat.mod_lt _ hs0
    have hk : j / sz < xs.length := Nat.div_lt_of_lt_mul (by rw [Nat.mul_comm]; exact hj)
    have e : o + j / sz * sz + j % sz = o + j := by have := Nat.div_add_mod j sz; rw [Nat.mul_comm] at this; omega
    have hx : xs[j / sz]? = some xs[j / sz] := List.getElem?_eq_getElem hk
    obtain ⟨hl, h1⟩ := sized_get hsz _ _ hx
    have hv : (xs[j / sz]).cells[j % sz]? = some (xs[j / sz]).cells[j % sz] := List.getElem?_eq_getElem (by omega)
    obtain ⟨u, hu, hr⟩ := h _ _ _ _ hx hv
    exact ⟨_, _, u, hx, hv, e ▸ hu, hr, List.all_eq_true.1 h1 _ (List.getElem_mem _)⟩
  refine ⟨(List.range (xs.length * sz)).map fun j => (w.cell? ⟨c, o + j, none⟩).getD undef, by simp, fun j u hj => ?_, fun u hu => ?_, fun j x q v cv e1 e2 e3 => ?_⟩
  · have hlt : j < xs.length * sz := by have := lt_of_get hj; simpa using this
    obtain ⟨x, v, u', _, _, h3, _⟩ := key j hlt
    rw [List.getElem?_map, List.getElem?_range hlt] at hj
    simp only [Option.map_some, h3, Option.getD_some, Option.some.injEq] at hj
    subst hj
    rw [cell_add]; exact h3
  · obtain ⟨j, hj, rfl⟩ := List.mem_map.1 hu
    have hlt : j < xs.length * sz := by simpa using hj
    obtain ⟨x, v, u', _, _, h3, h4, h5⟩ := key j hlt
    rw [h3]
    exact (h4.one_cells h5).2
  · have hq' : q < sz := (sized_get hsz j x e1).1 ▸ lt_of_get e2
    have hlt : j * sz + q < xs.length * sz := by
      have h1 : j * sz + sz ≤ xs.length * sz := by rw [← Nat.succ_mul]; exact Nat.mul_le_mul_right _ (lt_of_get e1)
      omega
    rw [List.getElem?_map, List.getElem?_range hlt] at e3
    obtain ⟨u, hu, hr⟩ := h j x q v e1 e2
    simp only [Option.map_some, ← Nat.add_assoc, hu, Option.getD_some, Option.some.injEq] at e3
    exact e3 ▸ hr

theorem getAppend {G : Ghost} {size : Nat} {xs ys : List AV} {cs news : List Value} (hcs : cs.length = xs.length * size) (hx : ∀ (j : Nat) (x : AV), xs[j]? = some x → x.cells.length = size)
    (h1 : ∀ (j : Nat) (x : AV) (q : Nat) v cv, xs[j]? = some x → x.cells[q]? = some v → cs[j * size + q]? = some cv → R G v cv)
    (h2 : ∀ (j : Nat) (x : AV) (q : Nat) v cv, ys[j]? = some x → x.cells[q]? = some v → news[j * size + q]? = some cv → R G v cv) :
    ∀ (j : Nat) (x : AV) (q : Nat) v cv, (xs ++ ys)[j]? = some x → x.cells[q]? = some v → (cs ++ news)[j * size + q]? = some cv → R G v cv := by
  intro j x q v cv e1 e2 e3
  rw [List.getElem?_append] at e1
  split at e1
  · rename_i hj
    have hq := hx j x e1 ▸ lt_of_get e2
    have h0 : j * size + q < cs.length := by
      have : j * size + size ≤ xs.length * size := by rw [← Nat.succ_mul]; exact Nat.mul_le_mul_right _ hj
      omega
    rw [List.getElem?_append_left h0] at e3
    exact h1 j x q v cv e1 e2 e3
  · rename_i hj
    have e0 : j * size + q = cs.length + ((j - xs.length) * size + q) := by
      have : j * size = xs.length * size + (j - xs.length) * size := by rw [← Nat.add_mul]; congr 1; omega
      omega
    rw [e0, List.getElem?_append_right (by omega), Nat.add_sub_cancel_left] at e3
    exact h2 _ x q v cv e1 e2 e3

theorem sized_len {size : Nat} {xs ys : List AV} (hx : ∀ (j : Nat) (x : AV), xs[j]? = some x → x.cells.length = size) (hy : Sized size ys) : ∀ (j : Nat) (x : AV), (xs ++ ys)[j]? = some x → x.cells.length = size := by
  intro j x e
  rw [List.getElem?_append] at e
  split at e
  · exact hx j x e
  · exact (sized_get hy _ x e).1

/-- A list of one's own grows. -/
theorem op_append_o {P : Program} {o : Oper} {s : St} {t e : TypeId} {x y : Operand} {size bytes : Nat} {z : Value} {d : TypeDesc} {i n : Nat} {xs ys : List AV} {yv : AV} {cap : Option Nat} (ht : P.underlying t = some (.slice e)) (he : Inf P e size bytes z d) (hzs : z.cells.size = size) (hs0 : 0 < size)
    (ho : o.op = .call { callee := .builtin .append, args := #[x, y], argTypes := #[t, t] }) (hx : ev s.env x = some (.gsl i n)) (hb : bat s.bs i = .own e size xs) (hn : n = xs.length) (hy : ev s.env y = some yv) (hi : elems (bat s.bs) yv = some (ys, cap)) (hsz : Sized size ys) (hy0 : ys ≠ [])
    (hbound : (xs.length + ys.length) * bytes ≤ 140737488355328) (hmax : xs.length + ys.length ≤ maxLen) : OpT P o s (.gsl i (xs ++ ys).length) (bset s.bs i (.own e size (xs ++ ys))) := by
  refine OpT.of (by simp [ho]) ?_
  intro G w a hI hE K Q hK
  obtain ⟨ie, hie, hsize, hby, hz⟩ := he.info
  obtain ⟨b2, c2, hcy, hc2, _, hcell⟩ := elems_reads hI hs0 hi hsz (ev_r hE hy)
  obtain ⟨c, q, hb2, hcell2⟩ := hcell hy0
  subst hb2
  obtain ⟨news, hl, hcel, h1, hnews⟩ := reads_cells hs0 hsz hcell2
  have hB := hI.batOk i
  rw [hb] at hB
  obtain ⟨g, hg, hgn, hv⟩ := (ev_r hE hx).gsl_own hI hb hn
  obtain ⟨q1, _, hcells, cs, hown, hcont, hzz⟩ := hB.2 g hg
  have hy1 : 0 < ys.length := List.length_pos_iff.2 hy0
  have hcont2 := getAppend hown.1 hcells hcont hnews
  have hlen2 := sized_len hcells hsz
  have hlt : ∀ g', G.gr i = some g' → g'.n < (xs ++ ys).length := fun g' hg' => by
    rw [hg] at hg'
    obtain rfl := Option.some.inj hg'
    rw [List.length_append]; omega
  have fin : ∀ v' w', (Builtin.append_ #[t, t] o.type #[g.hv, a.eval y]).run P w = .ok v' w' → (∃ G', After G w (.gsl i (xs ++ ys).length) (bset s.bs i (.own e size (xs ++ ys))) v' w' G') → Oper.wp P o a w K Q := fun v' w' hr ⟨G', hA⟩ => by
    unfold Oper.wp execOp
    simp only [ho, resolve, invoke, builtin, Sem.run_bind, Sem.run_pure, Result.andThen_ok, List.map_toArray, List.map_cons, List.map_nil, hv, hr]
    exact hK _ _ G' hA
  have fresh : ∀ v' w', w'.ownsRow w.heap.size e size v' (xs.length + ys.length) (cs ++ news) → w.grownBy w' none → ∃ G', After G w (.gsl i (xs ++ ys).length) (bset s.bs i (.own e size (xs ++ ys))) v' w' G' := fun v' w' hw hgb => by
    rcases hw.2 with ⟨_, h0⟩ | ⟨g2, cap2, cur, rfl, hge, hrest⟩
    · omega
    · have ho' : w'.ownsRow 0 e size (.slice (some ⟨g2, 0, none⟩) (xs ++ ys).length cap2) (xs ++ ys).length (cs ++ news) := by
        rw [List.length_append]; exact ⟨hw.1, .inr ⟨g2, cap2, cur, rfl, Nat.zero_le _, hrest⟩⟩
      have := own_turn hI (i := i) (xs := xs ++ ys) hB.1 hlt hs0 hlen2 ho' hcont2 (fun k => by
        cases hz : G.Z g2 k with
        | none => rfl
        | some v => have := hI.z_lt hz; omega) (.inl hge) (fun rec e0 => by have := (Array.getElem?_eq_some_iff.1 e0).1; omega) hgb.os hgb.tape hgb.output hgb.size (fun c hc _ => hgb.block c hc (by simp))
      rwa [List.length_append] at this ⊢
  rcases hown.2 with ⟨hv0, h0⟩ | ⟨g1, cap1, cur, hv0, hbg, hh, hc1, hcm, hcs, htake⟩
  · have hcs0 : cs = [] := List.eq_nil_of_length_eq_zero (by rw [hown.1, h0]; simp)
    have ho2 := World.ownsRow_nil w w.heap.size e size
    obtain ⟨v', w', hr, ho', hgb, _⟩ := run_append_own (P := P) w w.heap.size t o.type e ie z size bytes ht hie hz hsize hby hzs hs0 (.slice none 0 0) 0 [] ho2 ⟨c, q, none⟩ ys.length c2 news hl hcel h1 (by omega) (by rw [h0] at hbound; exact hbound) (Nat.le_refl _)
    exact fin v' w' (by rw [hv0, hcy]; exact hr) (fresh v' w' (by rw [h0, hcs0]; exact ho') (by simpa [Value.ownBlock] using hgb))
  · by_cases hroom : xs.length + ys.length ≤ cap1
    · have hfit : xs.length * ie.size + news.length ≤ cur.size := by rw [hl, hcs, hsize, ← Nat.add_mul]; exact Nat.mul_le_mul_right _ hroom
      have hr := run_append_room (P := P) w t o.type e ie ht hie g1 xs.length cap1 cur hh ⟨c, q, none⟩ ys.length c2 news (by rw [hsize]; exact hl) hcel h1 hroom hfit
      rw [hsize] at hr hfit
      have hown' : (w.setRow g1 (cur.toList.take (xs.length * size) ++ news ++ cur.toList.drop (xs.length * size + news.length)).toArray).ownsRow 0 e size (.slice (some ⟨g1, 0, none⟩) (xs ++ ys).length cap1) (xs ++ ys).length (cs ++ news) := by
        rw [List.length_append]
        refine ⟨by rw [List.length_append, hown.1, hl, Nat.add_mul], .inr ⟨g1, cap1, _, rfl, Nat.zero_le _, setRow_heap w g1 cur _ e _ hh, hroom, hcm, ?_, ?_⟩⟩
        · simp only [List.size_toArray, List.length_append, List.length_take, List.length_drop, Array.length_toList]
          omega
        · have e0 : cur.toList.take (xs.length * size) = cs := htake
          rw [e0]
          have e1 : (xs.length + ys.length) * size = (cs ++ news).length := by rw [List.length_append, hown.1, hl, Nat.add_mul]
          rw [e1]
          exact List.take_left
      refine fin _ _ (by rw [hv0, hcy]; exact hr) ?_
      have := own_turn (w' := w.setRow g1 (cur.toList.take (xs.length * size) ++ news ++ cur.toList.drop (xs.length * size + news.length)).toArray) hI (i := i) (xs := xs ++ ys) hB.1 hlt hs0 hlen2 hown' hcont2 (hzz g1 (by rw [hv0]; rfl))
        (.inr (.inr ⟨g, hg, by rw [hv0]; rfl⟩)) (fun rec e0 => by rw [hh] at e0; cases e0) rfl rfl rfl (by simp) (fun c _ hc => setRow_other w g1 c _ hc)
      simpa only [List.length_append] using this
    · have holds : ∀ j u, cs[j]? = some u → w.cell? ((⟨g1, 0, none⟩ : Addr).add j) = some u := hown.cells (g := g1) (by rw [hv0]; rfl)
      obtain ⟨v', w', hr, ho', hgb⟩ := run_append_arg_grows (P := P) w t o.type e ie z size bytes ht hie hz hsize hby hzs hs0 ⟨g1, 0, none⟩ xs.length cap1 cs hown.1 holds ⟨c, q, none⟩ ys.length c2 news hl hcel (by omega) hmax hbound
      exact fin v' w' (by rw [hv0, hcy]; exact hr) (fresh v' w' ho' hgb)

/-- A list without room grows: anew, at a free place. -/
theorem op_append_x {P : Program} {o : Oper} {s : St} {t e : TypeId} {x y : Operand} {size bytes : Nat} {z : Value} {d : TypeDesc} {k : Nat} {xs ys : List AV} {xv yv : AV} {cap : Option Nat} (ht : P.underlying t = some (.slice e)) (he : Inf P e size bytes z d) (hzs : z.cells.size = size) (hs0 : 0 < size)
    (ho : o.op = .call { callee := .builtin .append, args := #[x, y], argTypes := #[t, t] }) (hx : ev s.env x = some xv) (hxe : elems (bat s.bs) xv = some (xs, some xs.length)) (hxs : Sized size xs) (hk : bat s.bs k = .gone) (hy : ev s.env y = some yv) (hi : elems (bat s.bs) yv = some (ys, cap)) (hsz : Sized size ys) (hy0 : ys ≠ [])
    (hbound : (xs.length + ys.length) * bytes ≤ 140737488355328) (hmax : xs.length + ys.length ≤ maxLen) : OpT P o s (.gsl k (xs ++ ys).length) (bset s.bs k (.own e size (xs ++ ys))) := by
  refine OpT.of (by simp [ho]) ?_
  intro G w a hI hE K Q hK
  obtain ⟨ie, hie, hsize, hby, hz⟩ := he.info
  obtain ⟨b2, c2, hcy, hc2, _, hcell⟩ := elems_reads hI hs0 hi hsz (ev_r hE hy)
  obtain ⟨c, q, hb2, hcell2⟩ := hcell hy0
  subst hb2
  obtain ⟨news, hl, hcel, h1, hnews⟩ := reads_cells hs0 hsz hcell2
  obtain ⟨b1, c1, hcx, hc1, hcap, hcellx⟩ := elems_reads hI hs0 hxe hxs (ev_r hE hx)
  have hcap := hcap _ rfl
  subst hcap
  have hg0 := hI.batOk k
  rw [hk] at hg0
  have hy1 : 0 < ys.length := List.length_pos_iff.2 hy0
  have hxc : ∀ (j : Nat) (x : AV), xs[j]? = some x → x.cells.length = size := fun j x hx => (sized_get hxs j x hx).1
  have fresh : ∀ cs, cs.length = xs.length * size → (∀ (j : Nat) (x : AV) (q : Nat) v cv, xs[j]? = some x → x.cells[q]? = some v → cs[j * size + q]? = some cv → R G v cv) → ∀ v' w', (Builtin.append_ #[t, t] o.type #[a.eval x, a.eval y]).run P w = .ok v' w' →
      w'.ownsRow w.heap.size e size v' (xs.length + ys.length) (cs ++ news) → w.grownBy w' none → Oper.wp P o a w K Q := fun cs hcsl hcont v' w' hr hw hgb => by
    rcases hw.2 with ⟨_, h0⟩ | ⟨g2, cap2, cur, rfl, hge, hrest⟩
    · omega
    · have ho' : w'.ownsRow 0 e size (.slice (some ⟨g2, 0, none⟩) (xs ++ ys).length cap2) (xs ++ ys).length (cs ++ news) := by
        rw [List.length_append]; exact ⟨hw.1, .inr ⟨g2, cap2, cur, rfl, Nat.zero_le _, hrest⟩⟩
      obtain ⟨G', hA⟩ := own_turn hI (i := k) (xs := xs ++ ys) hg0.1 (fun g hg => by rw [hg0.2] at hg; cases hg) hs0 (sized_len hxc hsz) ho' (getAppend hcsl hxc hcont hnews) (fun k => by
        cases hz : G.Z g2 k with
        | none => rfl
        | some v => have := hI.z_lt hz; omega) (.inl hge) (fun rec e0 => by have := (Array.getElem?_eq_some_iff.1 e0).1; omega) hgb.os hgb.tape hgb.output hgb.size (fun c hc _ => hgb.block c hc (by simp))
      unfold Oper.wp execOp
      simp only [ho, resolve, invoke, builtin, Sem.run_bind, Sem.run_pure, Result.andThen_ok, List.map_toArray, List.map_cons, List.map_nil, hr]
      rw [List.length_append] at hA
      exact hK _ _ G' (by rw [List.length_append]; exact hA)
  by_cases hx0 : xs = []
  · subst hx0
    cases b1 with
    | none =>
      obtain ⟨v', w', hr, ho', hgb, _⟩ := run_append_own (P := P) w w.heap.size t o.type e ie z size bytes ht hie hz hsize hby hzs hs0 (.slice none 0 0) 0 [] (World.ownsRow_nil w w.heap.size e size) ⟨c, q, none⟩ ys.length c2 news hl hcel h1 (by simpa using hmax) (by simpa using hbound) (Nat.le_refl _)
      exact fresh [] (by simp) (fun j x q v cv h => by simp at h) v' w' (by rw [hcx, hcy]; exact hr) (by simpa using ho') (by simpa [Value.ownBlock] using hgb)
    | some a1 =>
      obtain ⟨v', w', hr, ho', hgb⟩ := run_append_arg_grows (P := P) w t o.type e ie z size bytes ht hie hz hsize hby hzs hs0 a1 0 0 [] (by simp) (by simp) ⟨c, q, none⟩ ys.length c2 news hl hcel (by omega) (by simpa using hmax) (by simpa using hbound)
      exact fresh [] (by simp) (fun j x q v cv h => by simp at h) v' w' (by rw [hcx, hcy]; exact hr) (by simpa using ho') hgb
  · obtain ⟨c0, q0, hb1, hcellx2⟩ := hcellx hx0
    subst hb1
    obtain ⟨olds, hol, hocel, ho1, holds⟩ := reads_cells hs0 hxs hcellx2
    obtain ⟨v', w', hr, ho', hgb⟩ := run_append_arg_grows (P := P) w t o.type e ie z size bytes ht hie hz hsize hby hzs hs0 ⟨c0, q0, none⟩ xs.length xs.length olds hol hocel ⟨c, q, none⟩ ys.length c2 news hl hcel (by omega) hmax hbound
    exact fresh olds hol holds v' w' (by rw [hcx, hcy]; exact hr) ho' hgb

/-- Nothing is appended. -/
theorem op_append_e {P : Program} {o : Oper} {s : St} {t e : TypeId} {x y : Operand} {size bytes : Nat} {z : Value} {d : TypeDesc} {xs : List AV} {xv yv : AV} {cap cap' : Option Nat} (ht : P.underlying t = some (.slice e)) (he : Inf P e size bytes z d) (hs0 : 0 < size)
    (ho : o.op = .call { callee := .builtin .append, args := #[x, y], argTypes := #[t, t] }) (hx : ev s.env x = some xv) (hxe : elems (bat s.bs) xv = some (xs, cap')) (hxs : Sized size xs) (hy : ev s.env y = some yv) (hi : elems (bat s.bs) yv = some ([], cap)) : OpT P o s xv s.bs :=
  op_pure fun G w a hI hE => by
    obtain ⟨ie, hie, hsize, hby, hz⟩ := he.info
    obtain ⟨b2, c2, hcy, hc2, _⟩ := elems_reads hI hs0 hi (by simp [Sized]) (ev_r hE hy)
    obtain ⟨b1, c1, hcx, hc1, _⟩ := elems_reads hI hs0 hxe hxs (ev_r hE hx)
    refine ⟨a.eval x, ?_, ev_r hE hx⟩
    have := run_append_none (P := P) (t := t) (ty := o.type) (w := w) ht hie (b := b1) (b2 := b2) (n := xs.length) (cap := c1) (c := c2) hc1
    have hcy' : a.eval y = .slice b2 0 c2 := hcy
    simp [execOp, ho, resolve, invoke, builtin, hcx, hcy', this]

theorem op_len_e {P : Program} {o : Oper} {s : St} {t e : TypeId} {x : Operand} {size bytes : Nat} {z : Value} {d : TypeDesc} {xs : List AV} {xv : AV} {cap : Option Nat} (ht : P.underlying t = some (.slice e)) (hs0 : 0 < size)
    (ho : o.op = .call { callee := .builtin .len, args := #[x], argTypes := #[t] }) (hx : ev s.env x = some xv) (hxe : elems (bat s.bs) xv = some (xs, cap)) (hxs : Sized size xs) : OpT P o s (.int .i64 xs.length) s.bs :=
  op_pure fun G w a hI hE => by
    obtain ⟨b1, c1, hcx, hc1, _⟩ := elems_reads hI hs0 hxe hxs (ev_r hE hx)
    exact ⟨.int .i64 xs.length, by simp [execOp, ho, resolve, invoke, builtin, Builtin.len_, run_underlying ht, hcx, goInt], .imm _ _ (.int _ _)⟩

/-! ### elements -/

theorem op_iaddr_o {P : Program} {o : Oper} {s : St} {t e e' : TypeId} {x y : Operand} {i ln sz : Nat} {xs : List AV} {k : IntKind} {n : Int} {size bytes : Nat} {z : Value} {d : TypeDesc} (ht : P.underlying t = some (.slice e)) (he : Inf P e size bytes z d)
    (ho : o.op = .indexAddr t x y) (hx : ev s.env x = some (.gsl i ln)) (hb : bat s.bs i = .own e' sz xs) (hl : ln = xs.length) (hy : ev s.env y = some (.int k n)) (h0 : 0 ≤ n) (hn : n.toNat < ln) (hs : sz = size) :
    OpT P o s (.optr i ln n.toNat sz 0) s.bs :=
  op_pure fun G w a hI hE => by
    subst hs
    obtain ⟨g, hg, hgn, hv⟩ := (ev_r hE hx).gsl_own hI hb hl
    have hB := hI.batOk i
    rw [hb] at hB
    obtain ⟨_, _, _, cs, hown, _⟩ := hB.2 g hg
    rcases hown.2 with ⟨hv0, h00⟩ | ⟨g1, cap', cur, hv0, _⟩
    · omega
    · have hn' : n < (xs.length : Int) := by omega
      refine ⟨.pointer (some ⟨g1, n.toNat * sz + 0, none⟩), by simp [execOp, ho, hv, hv0, (ev_r hE hy).int_inv, Instr.indexAt, asIntOf, run_underlying ht, h0, hn', he.size, addr_add], ?_⟩
      exact .optr i ln n.toNat sz 0 g1 xs.length cap' (by rw [hg, ← hv0, ← hgn])

theorem op_iaddr_os {P : Program} {o : Oper} {s : St} {t e e' : TypeId} {x y : Operand} {i m q ln sz sz' : Nat} {cap : Option Nat} {xs : List AV} {k : IntKind} {n : Int} {size bytes : Nat} {z : Value} {d : TypeDesc} (ht : P.underlying t = some (.slice e)) (he : Inf P e size bytes z d)
    (ho : o.op = .indexAddr t x y) (hx : ev s.env x = some (.oslc i m q sz ln cap)) (hb : bat s.bs i = .own e' sz' xs) (hl : m = xs.length) (hy : ev s.env y = some (.int k n)) (h0 : 0 ≤ n) (hn : n.toNat < ln) (hs : sz = size) :
    OpT P o s (.optr i m (q + n.toNat) sz 0) s.bs :=
  op_pure fun G w a hI hE => by
    subst hs
    obtain ⟨c, l, lcap, ccap, hg, hlc, _, hv⟩ := (ev_r hE hx).oslc_inv hI hb hl
    have hn' : n < (ln : Int) := by omega
    refine ⟨_, by simp [execOp, ho, hv, (ev_r hE hy).int_inv, Instr.indexAt, asIntOf, run_underlying ht, h0, hn', he.size, addr_add]; rfl, ?_⟩
    have e0 : q * sz + n.toNat * sz = (q + n.toNat) * sz + 0 := by rw [Nat.add_mul]; omega
    rw [e0]
    exact .optr i m (q + n.toNat) sz 0 c l lcap hg

theorem op_faddr_o {P : Program} {o : Oper} {s : St} {t : TypeId} {x : Operand} {fs : Array Field} {j : Nat} {f : Field} {i n m sz k e sz' size bytes : Nat} {xs : List AV} {z : Value} {d : TypeDesc} (ht : P.underlying t = some (.struct fs)) (hj : fs[j]? = some f)
    (hf : Inf P f.type size bytes z d) (h0 : (size == 0) = false) (ho : o.op = .fieldAddr t x j) (hx : ev s.env x = some (.optr i n m sz k)) (hb : bat s.bs i = .own e sz' xs) (hn : n = xs.length) : OpT P o s (.optr i n m sz (k + f.offset)) s.bs :=
  op_pure fun G w a hI hE => by
    obtain ⟨c, l, cap, hg, he⟩ := (ev_r hE hx).optr_inv hI hb hn
    refine ⟨_, by simp [execOp, ho, he, Instr.fieldAt, run_underlying ht, hj, Instr.sureAddr, run_fieldPlace hf h0, addr_add]; rfl, ?_⟩
    rw [Nat.add_assoc]
    exact .optr i n m sz (k + f.offset) c l cap hg

theorem op_load_o {P : Program} {o : Oper} {s : St} {t : TypeId} {x : Operand} {size bytes : Nat} {z : Value} {d : TypeDesc} {i n j sz e k : Nat} {xs : List AV} {u v : AV} (ht : Inf P t size bytes z d) (hd : isAggD d = false)
    (ho : o.op = .load t x) (hx : ev s.env x = some (.optr i n j sz k)) (hb : bat s.bs i = .own e sz xs) (hn : n = xs.length) (hu : xs[j]? = some u) (hv : u.cells[k]? = some v) : OpT P o s v s.bs :=
  op_pure fun G w a hI hE => by
    obtain ⟨c, l, cap, hg, he⟩ := (ev_r hE hx).optr_inv hI hb hn
    obtain ⟨q1, q2, q3, h0, hsz, q6, q7, _, arr, hh, hasz, hr⟩ := inv_own hI hb hg
    have hk : k < sz := hsz j u hu ▸ lt_of_get hv
    have hf := (flat_get xs sz hsz j k u hu hk).trans hv
    have hlt : j * sz + k < arr.size := Nat.lt_of_lt_of_le (lt_of_get hf) (by rw [flat_len xs sz hsz, hasz]; exact Nat.mul_le_mul_right _ q7)
    have hcell : w.cell? ⟨c, j * sz + k, none⟩ = some arr[j * sz + k] := by simp [World.cell?, hh, hlt]
    exact ⟨arr[j * sz + k], by simp [execOp, ho, he, Instr.loadAt, Instr.sureAddr, loadVar, ht.isAgg, hd, hcell], hr _ v _ hf (by simp [hlt])⟩

theorem op_load_agg_o {P : Program} {o : Oper} {s : St} {t : TypeId} {x : Operand} {size bytes : Nat} {z : Value} {d : TypeDesc} {i n j sz e k : Nat} {xs ds : List AV} {u : AV} (ht : Inf P t size bytes z d) (hd : isAggD d = true)
    (ho : o.op = .load t x) (hx : ev s.env x = some (.optr i n j sz k)) (hb : bat s.bs i = .own e sz xs) (hn : n = xs.length) (hu : xs[j]? = some u) (hs : k + size ≤ u.cells.length) (hv : (u.cells.drop k).take size = ds) : OpT P o s (.agg ds) s.bs :=
  op_pure fun G w a hI hE => by
    subst hv
    obtain ⟨c, l, cap, hg, he⟩ := (ev_r hE hx).optr_inv hI hb hn
    obtain ⟨q1, q2, q3, h0, hsz, q6, q7, _, arr, hh, hasz, hr⟩ := inv_own hI hb hg
    have hul := hsz j u hu
    have fl : ∀ q, q < size → (flat xs)[j * sz + k + q]? = some (u.cells[k + q]?.getD .und) := fun q hq => by
      rw [Nat.add_assoc, flat_get xs sz hsz j (k + q) u hu (by omega), List.getElem?_eq_getElem (by omega)]; rfl
    have hlen : j * sz + k + size ≤ arr.size := by
      have h1 : j * sz + sz ≤ xs.length * sz := by rw [← Nat.succ_mul]; exact Nat.mul_le_mul_right _ (lt_of_get hu)
      have h2 : xs.length * sz ≤ cap * sz := Nat.mul_le_mul_right _ q7
      omega
    have hrun := loadCells_at (P := P) hh size (o := j * sz + k) hlen
    refine ⟨.agg (arr.extract (j * sz + k) (j * sz + k + size)), by simp [execOp, ho, he, Instr.loadAt, Instr.sureAddr, loadVar, ht.isAgg, hd, ht.size, hrun], .agg _ _ (by simp; omega) fun q v cv e1 e2 => ?_⟩
    rw [List.getElem?_take] at e1
    split at e1
    · rename_i hq
      rw [List.getElem?_drop] at e1
      rw [Array.getElem?_extract] at e2
      split at e2
      · have := fl q hq
        rw [e1] at this
        exact hr _ v cv this e2
      · cases e2
    · cases e1

theorem op_store_o {P : Program} {o : Oper} {s : St} {t : TypeId} {p x : Operand} {size bytes : Nat} {z : Value} {d : TypeDesc} {i n j sz e k : Nat} {xs : List AV} {u u' v : AV} (ht : Inf P t size bytes z d)
    (ho : o.op = .store t p x) (hp : ev s.env p = some (.optr i n j sz k)) (hx : ev s.env x = some v) (hb : bat s.bs i = .own e sz xs) (hn : n = xs.length) (hu : xs[j]? = some u) (hs : v.cells.length = size) (h1 : v.cells.all AV.one = true) (hk : k + size ≤ u.cells.length)
    (hv : u.cells.take k ++ v.cells ++ u.cells.drop (k + size) = u'.cells) : OpT P o s (.und) (bset s.bs i (.own e sz (xs.set j u'))) := by
  refine OpT.of (by simp [ho]) ?_
  intro G w a hI hE K Q hK
  obtain ⟨c, l, cap, hg, he⟩ := (ev_r hE hp).optr_inv hI hb hn
  obtain ⟨q1, q2, q3, h0, hsz, hzn, q7, q8, arr, hh, hasz, hr⟩ := inv_own hI hb hg
  obtain ⟨hvl, hvr, hv1⟩ := (ev_r hE hx).cells h1
  have hul := hsz j u hu
  have hjl := lt_of_get hu
  have hjs : j * sz + sz ≤ xs.length * sz := by rw [← Nat.succ_mul]; exact Nat.mul_le_mul_right _ hjl
  have hcs : xs.length * sz ≤ cap * sz := Nat.mul_le_mul_right _ q7
  have hrun := run_storeCells_at P c (j * sz + k) e (a.eval x).cells.toList 0 arr w hh (by simp; omega) hv1
  simp only [Nat.add_zero] at hrun
  have hszl : (a.eval x).cells.size = size := hvl.trans hs
  let arr' := (arr.toList.take (j * sz + k) ++ (a.eval x).cells.toList ++ arr.toList.drop (j * sz + k + (a.eval x).cells.toList.length)).toArray
  have hf : ∀ d, d ≠ c → (w.setRow c arr').heap[d]? = w.heap[d]? := fun d hd => setRow_other w c d _ hd
  have hst := flat_store (G := G) (news := (a.eval x).cells.toList) hsz h0 hu hs (by simp [hszl]) hk hv (by omega) hr (fun q x c e1 e2 => hvr q x c e1 (by simpa using e2))
  have hasz' : arr'.size = cap * sz := by
    rw [← hasz]
    simp only [arr', List.size_toArray, List.length_append, List.length_take, List.length_drop, Array.length_toList]
    omega
  have hu'l : u'.cells.length = sz := by rw [← hv]; simp; omega
  have hset : ∀ (m : Nat) (x : AV), (xs.set j u')[m]? = some x → x.cells.length = sz := fun m x hx => by
    rw [List.getElem?_set] at hx
    by_cases h : j = m
    · subst h; simp only [if_true, hjl] at hx; obtain rfl := Option.some.inj hx; exact hu'l
    · rw [if_neg h] at hx; exact hsz m x hx
  have hinv : Inv G (bset s.bs i (.own e sz (xs.set j u'))) (w.setRow c arr') := by
    refine hI.turn _ (fun _ _ => rfl) (fun _ _ => rfl) (.refl _) (fun d hd hno => hf d (fun e0 => hno (e0 ▸ .inr ⟨_, hg, rfl⟩))) (fun _ _ _ _ _ => rfl) (fun d q v ez => ?_) ?_ (fun d hd => .inr hd)
    · have hd : d ≠ c := fun e0 => by rw [e0, hzn q] at ez; cases ez
      rw [rd_of_frame (hf d hd)]; exact hI.z d q v ez
    · refine ⟨q3, fun g hg' => ?_⟩
      rw [hg] at hg'
      obtain rfl := Option.some.inj hg'
      refine ⟨by simp [hn], h0, hset, arr'.toList.take (xs.length * sz), ⟨by have e0 : arr'.toList.length = cap * sz := hasz'; rw [List.length_take, e0, List.length_set]; omega, .inr ⟨c, cap, arr', ?_, Nat.zero_le _, setRow_heap w c arr _ e _ hh, by simpa using q7, q8, hasz', by simp⟩⟩, fun m x q v cv e1 e2 e3 => ?_, fun c' hc' k => ?_⟩
      · rw [q2, List.length_set]
      · have hq := hset m x e1 ▸ lt_of_get e2
        have hfq := (flat_get _ sz hset m q x e1 hq).trans e2
        rw [List.getElem?_take] at e3
        split at e3
        · exact hst _ v cv hfq (by simpa [arr'] using e3)
        · cases e3
      · have : c' = c := by simpa [Value.ownBlock] using hc'.symm
        subst this; exact hzn k
  unfold Oper.wp
  have : (execOp a.eval o).run P w = .ok .skip (w.setRow c arr') := by
    simp only [execOp, ho, he, Instr.storeAt, Instr.sureAddr, storeVar, Sem.run_bind, Sem.run_pure, Result.andThen_ok, ht.size, hszl, ne_eq, not_true_eq_false, if_false, hrun, arr']
  rw [this]
  exact hK undef _ G ⟨.und _, hinv, .refl _, ⟨rfl, rfl, rfl, by simp, .refl _, fun _ _ _ e => .inl e, fun d hd hn => hf d (fun e => hn i (e ▸ .inr ⟨_, hg, rfl⟩)), fun m d hd => .inr ⟨m, hd⟩, loop_of_same fun d hd => by
      by_cases e0 : d = c
      · exact .inr fun rec h => by rw [e0, hh] at h; cases h
      · exact .inl (hf d e0)⟩⟩

end
end Go.Proofs.YtelgmdljcbkniaaDoor.Ai
