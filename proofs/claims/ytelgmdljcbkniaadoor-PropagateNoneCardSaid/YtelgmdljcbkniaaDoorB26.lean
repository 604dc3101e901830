/- An interpreter of values for the model's code, base text 26: lists of one's own that grow and are written. -/
import Derived.Test.YtelgmdljcbkniaaDoorB25
namespace Go.Proofs.YtelgmdljcbkniaaDoor.Ai
noncomputable section
open Go
set_option linter.unusedVariables false

/-- What a list's cells are behind a write into one element. -/
theorem flat_store {G : Ghost} {xs : List AV} {sz j k size : Nat} {u u' v : AV} {arr : Array Value} {news : List Value} (hsz : ∀ (m : Nat) (x : AV), xs[m]? = some x → x.cells.length = sz) (h0 : 0 < sz) (hu : xs[j]? = some u) (hs : v.cells.length = size) (hnl : news.length = size)
    (hk : k + size ≤ u.cells.length) (hv : u.cells.take k ++ v.cells ++ u.cells.drop (k + size) = u'.cells) (hl : xs.length * sz ≤ arr.size) (hr : ∀ (q : Nat) v cv, (flat xs)[q]? = some v → arr[q]? = some cv → R G v cv)
    (hvr : ∀ (q : Nat) x c, v.cells[q]? = some x → news[q]? = some c → R G x c) :
    ∀ (q : Nat) y cv, (flat (xs.set j u'))[q]? = some y → (arr.toList.take (j * sz + k) ++ news ++ arr.toList.drop (j * sz + k + news.length))[q]? = some cv → R G y cv := by
  have hul := hsz j u hu
  have hjl := lt_of_get hu
  have hfl : (flat xs).length = xs.length * sz := flat_len xs sz hsz
  have hjs : j * sz + sz ≤ xs.length * sz := by rw [← Nat.succ_mul]; exact Nat.mul_le_mul_right _ hjl
  have hu'l : u'.cells.length = sz := by rw [← hv]; simp; omega
  have hlen : (arr.toList.take (j * sz + k)).length = j * sz + k := by simp; omega
  have hset : ∀ (m : Nat) (x : AV), (xs.set j u')[m]? = some x → x.cells.length = sz := fun m x hx => by
    rw [List.getElem?_set] at hx
    by_cases h : j = m
    · subst h; simp only [if_true, hjl] at hx; obtain rfl := Option.some.inj hx; exact hu'l
    · rw [if_neg h] at hx; exact hsz m x hx
  have hflat' : (flat (xs.set j u')).length = xs.length * sz := by rw [flat_len _ sz hset, List.length_set]
  intro q y cv e1 e2
  have hql : q < xs.length * sz := hflat' ▸ lt_of_get e1
  have hq1 : q % sz < sz := Nat.mod_lt _ h0
  have hq2 : q / sz < xs.length := Nat.div_lt_of_lt_mul (by rw [Nat.mul_comm]; exact hql)
  have hq0 : q = q / sz * sz + q % sz := by have := Nat.div_add_mod q sz; rw [Nat.mul_comm] at this; omega
  rw [List.getElem?_append, List.getElem?_append] at e2
  simp only [List.length_append, hlen, hnl] at e2
  by_cases hjq : q / sz = j
  · have hx' : (xs.set j u')[q / sz]? = some u' := by rw [hjq]; simp [hjl]
    rw [hq0, flat_get _ sz hset _ _ u' hx' hq1, ← hv] at e1
    rw [List.getElem?_append, List.getElem?_append] at e1
    have hlc : (u.cells.take k).length = k := by simp; omega
    simp only [List.length_append, hlc, hs] at e1
    split at e1
    · rename_i hlt
      rw [if_pos (by rw [hq0, hjq]; omega)] at e2
      split at e1
      · rename_i hlt2
        rw [if_pos (by rw [hq0, hjq]; omega), List.getElem?_take, if_pos (by rw [hq0, hjq]; omega)] at e2
        rw [List.getElem?_take, if_pos hlt2] at e1
        refine hr q y cv ?_ (by simpa using e2)
        rw [hq0, flat_get xs sz hsz (q / sz) (q % sz) u (by rw [hjq]; exact hu) hq1]; exact e1
      · rename_i hlt2
        rw [if_neg (by rw [hq0, hjq]; omega)] at e2
        refine hvr (q % sz - k) y cv e1 ?_
        have : q - (j * sz + k) = q % sz - k := by rw [hjq] at hq0; omega
        rw [this] at e2; exact e2
    · rename_i hlt
      rw [if_neg (by rw [hq0, hjq]; omega), List.getElem?_drop] at e2
      rw [List.getElem?_drop] at e1
      have e3 : k + size + (q % sz - (k + size)) = q % sz := by omega
      rw [e3] at e1
      have e4 : j * sz + k + size + (q - (j * sz + k + size)) = q := by rw [hjq] at hq0; omega
      rw [e4] at e2
      refine hr q y cv ?_ (by simpa using e2)
      rw [hq0, flat_get xs sz hsz (q / sz) (q % sz) u (by rw [hjq]; exact hu) hq1]; exact e1
  · have hx0 : xs[q / sz]? = some xs[q / sz] := List.getElem?_eq_getElem hq2
    have hx' : (xs.set j u')[q / sz]? = some xs[q / sz] := by rw [List.getElem?_set_ne (fun e0 => hjq e0.symm)]; exact hx0
    rw [hq0, flat_get _ sz hset _ _ _ hx' hq1, ← flat_get xs sz hsz _ _ _ hx0 hq1, ← hq0] at e1
    refine hr q y cv e1 ?_
    have hord : q < j * sz ∨ (j + 1) * sz ≤ q := by
      rcases Nat.lt_or_gt_of_ne hjq with h | h
      · left
        have : q / sz * sz + sz ≤ j * sz := by rw [← Nat.succ_mul]; exact Nat.mul_le_mul_right _ h
        omega
      · right
        have : (j + 1) * sz ≤ q / sz * sz := Nat.mul_le_mul_right _ h
        omega
    rw [Nat.succ_mul] at hord
    rcases hord with h | h
    · rw [if_pos (by omega), if_pos (by omega), List.getElem?_take, if_pos (by omega)] at e2
      simpa using e2
    · rw [if_neg (by omega), List.getElem?_drop] at e2
      have e4 : j * sz + k + size + (q - (j * sz + k + size)) = q := by omega
      rw [e4] at e2
      simpa using e2

/-- A list of one's own, where it lies. -/
theorem inv_own {G : Ghost} {bs : List Blk} {w : World} (hI : Inv G bs w) {i e sz n c l cap : Nat} {xs : List AV} (hb : bat bs i = .own e sz xs) (hg : G.gr i = some ⟨n, .slice (some ⟨c, 0, none⟩) l cap⟩) :
    n = xs.length ∧ l = xs.length ∧ G.cl i = none ∧ 0 < sz ∧ (∀ (j : Nat) (x : AV), xs[j]? = some x → x.cells.length = sz) ∧ (∀ o, G.Z c o = none) ∧ xs.length ≤ cap ∧ cap ≤ maxLen ∧
      ∃ arr, w.heap[c]? = some (.cells arr e (0, 0)) ∧ arr.size = cap * sz ∧ ∀ (q : Nat) v cv, (flat xs)[q]? = some v → arr[q]? = some cv → R G v cv := by
  have h := hI.batOk i
  rw [hb] at h
  obtain ⟨h1, h2⟩ := h
  obtain ⟨g1, g2, g3, cs, g4, g5, g6⟩ := h2 _ hg
  rcases g4.2 with ⟨hv, _⟩ | ⟨g, cap', cur, hv, _, hh, hc1, hc2, hsz, htk⟩
  · cases hv
  · obtain ⟨rfl, rfl, rfl⟩ : c = g ∧ l = xs.length ∧ cap = cap' := by simpa using hv
    refine ⟨g1, rfl, h1, g2, g3, g6 c rfl, hc1, hc2, cur, hh, hsz, fun q v cv e1 e2 => ?_⟩
    have hql : q < xs.length * sz := by have := lt_of_get e1; rwa [flat_len xs sz g3] at this
    have hq1 : q % sz < sz := Nat.mod_lt _ g2
    have hq2 : q / sz < xs.length := Nat.div_lt_of_lt_mul (by rw [Nat.mul_comm]; exact hql)
    have hq0 : q = q / sz * sz + q % sz := by have := Nat.div_add_mod q sz; rw [Nat.mul_comm] at this; omega
    have hx0 : xs[q / sz]? = some xs[q / sz] := List.getElem?_eq_getElem hq2
    rw [hq0, flat_get xs sz g3 _ _ _ hx0 hq1] at e1
    refine g5 (q / sz) _ (q % sz) v cv hx0 e1 ?_
    rw [← hq0, ← htk, List.getElem?_take, if_pos hql]
    simpa using e2

theorem R.gsl_own {G : Ghost} {bs : List Blk} {w : World} (hI : Inv G bs w) {i n e sz : Nat} {xs : List AV} {cv : Value} (h : R G (.gsl i n) cv) (hb : bat bs i = .own e sz xs) (hn : n = xs.length) : ∃ g, G.gr i = some g ∧ g.n = n ∧ cv = g.hv := by
  have hB := hI.batOk i
  rw [hb] at hB
  cases h with
  | imm _ _ h => cases h
  | gsl _ _ b l c h => exact ⟨_, h, rfl, rfl⟩
  | stale _ _ g b l c h hlt => have := (hB.2 g h).1; omega

theorem R.optr_inv {G : Ghost} {bs : List Blk} {w : World} (hI : Inv G bs w) {i n j z o e sz : Nat} {xs : List AV} {cv : Value} (h : R G (.optr i n j z o) cv) (hb : bat bs i = .own e sz xs) (hn : n = xs.length) :
    ∃ c l cap, G.gr i = some ⟨n, .slice (some ⟨c, 0, none⟩) l cap⟩ ∧ cv = .pointer (some ⟨c, j * z + o, none⟩) := by
  have hB := hI.batOk i
  rw [hb] at hB
  cases h with
  | imm _ _ h => cases h
  | optr _ _ _ _ _ c l cap h => exact ⟨c, l, cap, h, rfl⟩
  | optrS _ _ _ _ _ g b h hlt => have := (hB.2 g h).1; omega

theorem R.oslc_inv {G : Ghost} {bs : List Blk} {w : World} (hI : Inv G bs w) {i n o z len e sz : Nat} {cp : Option Nat} {xs : List AV} {cv : Value} (h : R G (.oslc i n o z len cp) cv) (hb : bat bs i = .own e sz xs) (hn : n = xs.length) :
    ∃ c l cap ccap, G.gr i = some ⟨n, .slice (some ⟨c, 0, none⟩) l cap⟩ ∧ len ≤ ccap ∧ (∀ m, cp = some m → ccap = m) ∧ cv = .slice (some ⟨c, o * z, none⟩) len ccap := by
  have hB := hI.batOk i
  rw [hb] at hB
  cases h with
  | imm _ _ h => cases h
  | oslc _ _ _ _ _ _ c l lcap ccap h hl hc => exact ⟨c, l, lcap, ccap, h, hl, hc, rfl⟩
  | oslcS _ _ _ _ _ _ g b l c h hlt => have := (hB.2 g h).1; omega

/-! ### a slice as it is read -/

def Reads (G : Ghost) (w : World) (sz : Nat) (xs : List AV) (cv : Value) (cap : Option Nat) : Prop :=
  ∃ b ccap, cv = .slice b xs.length ccap ∧ xs.length ≤ ccap ∧ (∀ m, cap = some m → ccap = m) ∧
    (xs ≠ [] → ∃ c o, b = some ⟨c, o, none⟩ ∧ ∀ (j : Nat) (x : AV) (q : Nat) v, xs[j]? = some x → x.cells[q]? = some v → ∃ u, w.cell? ⟨c, o + j * sz + q, none⟩ = some u ∧ R G v u)

def elems (look : Nat → Blk) : AV → Option (List AV × Option Nat)
  | .nils => some ([], some 0)
  | .lst true xs => some (xs, some xs.length)
  | .lst false xs => some (xs, none)
  | .gsl i n => match look i with
    | .own _ _ xs => match Nat.beq n xs.length with
      | true => some (xs, none)
      | false => none
    | .grow _ _ xs => match Nat.beq n xs.length with
      | true => some (xs, none)
      | false => none
    | _ => none
  | .slc i o sz len cap => match look i with
    | .rows sz' xs => match Nat.beq sz sz' && Nat.ble (o + len) xs.length with
      | true => some ((xs.drop o).take len, cap)
      | false => none
    | _ => none
  | .oslc i n o sz len cap => match look i with
    | .own _ sz' xs => match Nat.beq n xs.length && Nat.beq sz sz' && Nat.ble (o + len) n with
      | true => some ((xs.drop o).take len, cap)
      | false => none
    | _ => none
  | _ => none

theorem reads_lst {G : Ghost} {bs : List Blk} {w : World} (hI : Inv G bs w) {sz : Nat} {ex : Bool} {xs : List AV} {cv : Value} (hs0 : 0 < sz) (hsz : Sized sz xs) (h : R G (.lst ex xs) cv) : Reads G w sz xs cv (if ex then some xs.length else none) := by
  cases h with
  | imm _ _ h =>
    cases h with
    | nilslice _ b => exact ⟨b, 0, rfl, Nat.le_refl _, fun m hm => by cases ex <;> simp at hm; exact hm, fun h => absurd rfl h⟩
    | lst _ _ sz' c o cap hel hzr hdr hcap hx =>
      refine ⟨_, cap, rfl, hcap, fun m hm => by
        cases ex with
        | false => cases hm
        | true => rw [hx rfl]; exact Option.some.inj hm, fun hne => ⟨c, o, rfl, fun j x q v e1 e2 => ?_⟩⟩
      have hss : sz' = sz := by rw [← hel j x e1]; exact (sized_get hsz j x e1).1
      subst hss
      obtain ⟨u, hu⟩ := hdr j q (lt_of_get e1) (hel j x e1 ▸ lt_of_get e2)
      have hr := hzr j x q v u e1 e2 hu
      exact ⟨u, rd_cell (hI.z _ _ _ hu) (RI.no_code hr), .imm _ _ hr⟩

theorem reads_flat {G : Ghost} {w : World} {sz c o len : Nat} {xs : List AV} {arr : Array Value} {e : TypeId} (hh : w.heap[c]? = some (.cells arr e (0, 0))) (hsz : ∀ (j : Nat) (x : AV), xs[j]? = some x → x.cells.length = sz) (hl : xs.length * sz ≤ arr.size)
    (hr : ∀ (q : Nat) v cv, (flat xs)[q]? = some v → arr[q]? = some cv → R G v cv) :
    ∀ (j : Nat) (x : AV) (q : Nat) v, ((xs.drop o).take len)[j]? = some x → x.cells[q]? = some v → ∃ u, w.cell? ⟨c, o * sz + j * sz + q, none⟩ = some u ∧ R G v u := by
  intro j x q v e1 e2
  rw [List.getElem?_take] at e1
  split at e1
  · rw [List.getElem?_drop] at e1
    have hq : q < sz := hsz _ x e1 ▸ lt_of_get e2
    have hf := (flat_get xs sz hsz _ q x e1 hq).trans e2
    have hlt : (o + j) * sz + q < arr.size := Nat.lt_of_lt_of_le (by rw [← flat_len xs sz hsz]; exact lt_of_get hf) hl
    have e0 : o * sz + j * sz + q = (o + j) * sz + q := by rw [Nat.add_mul]
    rw [e0]
    exact ⟨arr[(o + j) * sz + q], by simp [World.cell?, hh, hlt], hr _ v _ hf (by simp [hlt])⟩
  · cases e1

theorem elems_reads {G : Ghost} {bs : List Blk} {w : World} (hI : Inv G bs w) {sz : Nat} {v : AV} {xs : List AV} {cap : Option Nat} {cv : Value} (hs0 : 0 < sz) (h : elems (bat bs) v = some (xs, cap)) (hsz : Sized sz xs) (hr : R G v cv) : Reads G w sz xs cv cap := by
  unfold elems at h
  split at h
  · obtain ⟨rfl, rfl⟩ : [] = xs ∧ some 0 = cap := by simpa using h
    cases hr with
    | imm _ _ h => cases h; exact ⟨none, 0, rfl, Nat.le_refl _, fun m hm => Option.some.inj hm, fun h => absurd rfl h⟩
  · obtain ⟨rfl, rfl⟩ := Prod.mk.inj (Option.some.inj h)
    exact reads_lst hI hs0 hsz hr
  · obtain ⟨rfl, rfl⟩ := Prod.mk.inj (Option.some.inj h)
    exact reads_lst hI hs0 hsz hr
  · rename_i i n
    split at h
    · rename_i e sz' ys hb
      split at h
      · rename_i hn
        obtain ⟨rfl, rfl⟩ := Prod.mk.inj (Option.some.inj h)
        have hn := Nat.eq_of_beq_eq_true hn
        obtain ⟨g, hg, h1, rfl⟩ := hr.gsl_own hI hb hn
        have hB := hI.batOk i
        rw [hb] at hB
        obtain ⟨_, _, _, cs, hown, _⟩ := hB.2 g hg
        rcases hown.2 with ⟨hv, h0⟩ | ⟨g1, cap', cur, hv, _⟩
        · have : ys = [] := List.eq_nil_of_length_eq_zero h0
          subst this
          exact ⟨none, 0, hv, Nat.le_refl _, by simp, fun h => absurd rfl h⟩
        · have hg' : G.gr i = some ⟨g.n, .slice (some ⟨g1, 0, none⟩) ys.length cap'⟩ := by rw [hg, ← hv]
          obtain ⟨q1, q2, q3, q4, q5, q6, q7, _, arr, q8, q9, q10⟩ := inv_own hI hb hg'
          refine ⟨_, cap', hv, q7, by simp, fun hne => ⟨g1, 0, rfl, fun j x q v e1 e2 => ?_⟩⟩
          have hss : sz' = sz := by rw [← q5 j x e1]; exact (sized_get hsz j x e1).1
          subst hss
          have := reads_flat (o := 0) (len := ys.length) q8 q5 (by rw [q9]; exact Nat.mul_le_mul_right _ q7) q10 j x q v (by simpa using e1) e2
          simpa using this
      · cases h
    · rename_i e sz' ys hb
      split at h
      · rename_i hn
        obtain ⟨rfl, rfl⟩ := Prod.mk.inj (Option.some.inj h)
        exact reads_lst (ex := false) hI hs0 hsz (hr.gsl_at hI hb (Nat.eq_of_beq_eq_true hn))
      · cases h
    · cases h
  · rename_i i o z len cp
    split at h
    · rename_i sz' ys hb
      split at h
      · rename_i hn
        obtain ⟨rfl, rfl⟩ := Prod.mk.inj (Option.some.inj h)
        simp only [Bool.and_eq_true] at hn
        have hz := Nat.eq_of_beq_eq_true hn.1
        have hle := Nat.le_of_ble_eq_true hn.2
        subst hz
        obtain ⟨c, ccap, hc, hl, hcp, rfl⟩ := hr.slc_inv
        obtain ⟨arr, e, q1, q2, q3, q4, q5, q6⟩ := inv_rows hI hb hc
        have hlen : ((ys.drop o).take len).length = len := by simp; omega
        refine ⟨_, ccap, by rw [hlen], by rw [hlen]; exact hl, hcp, fun hne => ⟨c, o * z, rfl, fun j x q v e1 e2 => ?_⟩⟩
        have hss : z = sz := by
          have h1 := (sized_get hsz j x e1).1
          rw [List.getElem?_take] at e1
          split at e1
          · rw [List.getElem?_drop] at e1; rw [← q6 _ x e1]; exact h1
          · cases e1
        subst hss
        exact reads_flat q1 q6 (by rw [← flat_len ys z q6]; exact q2) q3 j x q v e1 e2
      · cases h
    · cases h
  · rename_i i n o z len cp
    split at h
    · rename_i e sz' ys hb
      split at h
      · rename_i hn
        obtain ⟨rfl, rfl⟩ := Prod.mk.inj (Option.some.inj h)
        simp only [Bool.and_eq_true] at hn
        have hn0 := Nat.eq_of_beq_eq_true hn.1.1
        have hz := Nat.eq_of_beq_eq_true hn.1.2
        have hle := Nat.le_of_ble_eq_true hn.2
        subst hz
        obtain ⟨c, l, lcap, ccap, hg, hl, hcp, rfl⟩ := hr.oslc_inv hI hb hn0
        obtain ⟨q1, q2, q3, q4, q5, q6, q7, _, arr, q8, q9, q10⟩ := inv_own hI hb hg
        have hlen : ((ys.drop o).take len).length = len := by simp; omega
        refine ⟨_, ccap, by rw [hlen], by rw [hlen]; exact hl, hcp, fun hne => ⟨c, o * z, rfl, fun j x q v e1 e2 => ?_⟩⟩
        have hss : z = sz := by
          have h1 := (sized_get hsz j x e1).1
          rw [List.getElem?_take] at e1
          split at e1
          · rw [List.getElem?_drop] at e1; rw [← q5 _ x e1]; exact h1
          · cases e1
        subst hss
        exact reads_flat q8 q5 (by rw [q9]; exact Nat.mul_le_mul_right _ q7) q10 j x q v e1 e2
      · cases h
    · cases h
  · cases h

end
end Go.Proofs.YtelgmdljcbkniaaDoor.Ai
