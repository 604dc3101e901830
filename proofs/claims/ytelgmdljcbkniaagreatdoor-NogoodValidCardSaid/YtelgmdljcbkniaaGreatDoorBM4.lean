/- An interpreter of values for the model's code, part 4: see the comments ahead of each section. -/
import Derived.Test.YtelgmdljcbkniaaGreatDoorBM3
/- An interpreter of values for the model's code, base text 26: lists of one's own that grow and are written. -/
namespace Go.Proofs.YtelgmdljcbkniaaGreatDoor.Ai
noncomputable section
open Go
set_option linter.unusedVariables false

/-- What a list's cells are behind a write into one element. -/
theorem flat_store {G : Ghost} {xs : List AV} {sz j k size : Nat} {u u' v : AV} {arr : Array Value} {news : List Value} (hsz : ∀ (m : Nat) (x : AV), xs[m]? = some x → x.cells.length = sz) (h0 : 0 < sz) (hu : xs[j]? = some u) (hs : v.cells.length = size) (hnl : news.length = size)
    (hk : k + size ≤ u.cells.length) (hv : u.cells.take k ++ v.cells ++ u.cells.drop (k + size) = u'.cells) (hl : xs.length * sz ≤ arr.size) (hr : ∀ (q : Nat) v cv, (flat xs)[q]? = some v → arr[q]? = some cv → R G v cv)
    (hvr : ∀ (q : Nat) x c, v.cells[q]? = some x → news[q]? = some c → R G x c) :
    ∀ (q : Nat) y cv, (flat (xs.set j u'))[q]? = some y → (arr.toList.take (j * sz + k) ++ news ++ arr.toList.drop (j * sz + k + news.length))[q]? = some cv → R G y cv := by
  have hul := hsz j u hu
  have hjl := lt_of_get hu
  have hfl : (flat xs).length = xs.length * sz := flat_len xs sz hsz
  have hjs : j * sz + sz ≤ xs.length * sz := by rw [← Nat.succ_mul]; exact Nat.mul_le_mul_right _ hjl
  have hu'l : u'.cells.length = sz := by rw [← hv]; simp; omega
  have hlen : (arr.toList.take (j * sz + k)).length = j * sz + k := by simp; omega
  have hset : ∀ (m : Nat) (x : AV), (xs.set j u')[m]? = some x → x.cells.length = sz := fun m x hx => by
    rw [List.getElem?_set] at hx
    by_cases h : j = m
    · subst h; simp only [if_true, hjl] at hx; obtain rfl := Option.some.inj hx; exact hu'l
    · rw [if_neg h] at hx; exact hsz m x hx
  have hflat' : (flat (xs.set j u')).length = xs.length * sz := by rw [flat_len _ sz hset, List.length_set]
  intro q y cv e1 e2
  have hql : q < xs.length * sz := hflat' ▸ lt_of_get e1
  have hq1 : q % sz < sz := Nat.mod_lt _ h0
  have hq2 : q / sz < xs.length := Nat.div_lt_of_lt_mul (by rw [Nat.mul_comm]; exact hql)
  have hq0 : q = q / sz * sz + q % sz := by have := Nat.div_add_mod q sz; rw [Nat.mul_comm] at this; omega
  rw [List.getElem?_append, List.getElem?_append] at e2
  simp only [List.length_append, hlen, hnl] at e2
  by_cases hjq : q / sz = j
  · have hx' : (xs.set j u')[q / sz]? = some u' := by rw [hjq]; simp [hjl]
    rw [hq0, flat_get _ sz hset _ _ u' hx' hq1, ← hv] at e1
    rw [List.getElem?_append, List.getElem?_append] at e1
    have hlc : (u.cells.take k).length = k := by simp; omega
    simp only [List.length_append, hlc, hs] at e1
    split at e1
    · rename_i hlt
      rw [if_pos (by rw [hq0, hjq]; omega)] at e2
      split at e1
      · rename_i hlt2
        rw [if_pos (by rw [hq0, hjq]; omega), List.getElem?_take, if_pos (by rw [hq0, hjq]; omega)] at e2
        rw [List.getElem?_take, if_pos hlt2] at e1
        refine hr q y cv ?_ (by simpa using e2)
        rw [hq0, flat_get xs sz hsz (q / sz) (q % sz) u (by rw [hjq]; exact hu) hq1]; exact e1
      · rename_i hlt2
        rw [if_neg (by rw [hq0, hjq]; omega)] at e2
        refine hvr (q % sz - k) y cv e1 ?_
        have : q - (j * sz + k) = q % sz - k := by rw [hjq] at hq0; omega
        rw [this] at e2; exact e2
    · rename_i hlt
      rw [if_neg (by rw [hq0, hjq]; omega), List.getElem?_drop] at e2
      rw [List.getElem?_drop] at e1
      have e3 : k + size + (q % sz - (k + size)) = q % sz := by omega
      rw [e3] at e1
      have e4 : j * sz + k + size + (q - (j * sz + k + size)) = q := by rw [hjq] at hq0; omega
      rw [e4] at e2
      refine hr q y cv ?_ (by simpa using e2)
      rw [hq0, flat_get xs sz hsz (q / sz) (q % sz) u (by rw [hjq]; exact hu) hq1]; exact e1
  · have hx0 : xs[q / sz]? = some xs[q / sz] := List.getElem?_eq_getElem hq2
    have hx' : (xs.set j u')[q / sz]? = some xs[q / sz] := by rw [List.getElem?_set_ne (fun e0 => hjq e0.symm)]; exact hx0
    rw [hq0, flat_get _ sz hset _ _ _ hx' hq1, ← flat_get xs sz hsz _ _ _ hx0 hq1, ← hq0] at e1
    refine hr q y cv e1 ?_
    have hord : q < j * sz ∨ (j + 1) * sz ≤ q := by
      rcases Nat.lt_or_gt_of_ne hjq with h | h
      · left
        have : q / sz * sz + sz ≤ j * sz := by rw [← Nat.succ_mul]; exact Nat.mul_le_mul_right _ h
        omega
      · right
        have : (j + 1) * sz ≤ q / sz * sz := Nat.mul_le_mul_right _ h
        omega
    rw [Nat.succ_mul] at hord
    rcases hord with h | h
    · rw [if_pos (by omega), if_pos (by omega), List.getElem?_take, if_pos (by omega)] at e2
      simpa using e2
    · rw [if_neg (by omega), List.getElem?_drop] at e2
      have e4 : j * sz + k + size + (q - (j * sz + k + size)) = q := by omega
      rw [e4] at e2
      simpa using e2

/-- A list of one's own, where it lies. -/
theorem inv_own {G : Ghost} {bs : List Blk} {w : World} (hI : Inv G bs w) {i e sz n c l cap : Nat} {xs : List AV} (hb : bat bs i = .own e sz xs) (hg : G.gr i = some ⟨n, .slice (some ⟨c, 0, none⟩) l cap⟩) :
    n = xs.length ∧ l = xs.length ∧ G.cl i = none ∧ 0 < sz ∧ (∀ (j : Nat) (x : AV), xs[j]? = some x → x.cells.length = sz) ∧ (∀ o, G.Z c o = none) ∧ xs.length ≤ cap ∧ cap ≤ maxLen ∧
      ∃ arr, w.heap[c]? = some (.cells arr e (0, 0)) ∧ arr.size = cap * sz ∧ ∀ (q : Nat) v cv, (flat xs)[q]? = some v → arr[q]? = some cv → R G v cv := by
  have h := hI.batOk i
  rw [hb] at h
  obtain ⟨h1, h2⟩ := h
  obtain ⟨g1, g2, g3, cs, g4, g5, g6⟩ := h2 _ hg
  rcases g4.2 with ⟨hv, _⟩ | ⟨g, cap', cur, hv, _, hh, hc1, hc2, hsz, htk⟩
  · cases hv
  · obtain ⟨rfl, rfl, rfl⟩ : c = g ∧ l = xs.length ∧ cap = cap' := by simpa using hv
    refine ⟨g1, rfl, h1, g2, g3, g6 c rfl, hc1, hc2, cur, hh, hsz, fun q v cv e1 e2 => ?_⟩
    have hql : q < xs.length * sz := by have := lt_of_get e1; rwa [flat_len xs sz g3] at this
    have hq1 : q % sz < sz := Nat.mod_lt _ g2
    have hq2 : q / sz < xs.length := Nat.div_lt_of_lt_mul (by rw [Nat.mul_comm]; exact hql)
    have hq0 : q = q / sz * sz + q % sz := by have := Nat.div_add_mod q sz; rw [Nat.mul_comm] at this; omega
    have hx0 : xs[q / sz]? = some xs[q / sz] := List.getElem?_eq_getElem hq2
    rw [hq0, flat_get xs sz g3 _ _ _ hx0 hq1] at e1
    refine g5 (q / sz) _ (q % sz) v cv hx0 e1 ?_
    rw [← hq0, ← htk, List.getElem?_take, if_pos hql]
    simpa using e2

theorem R.gsl_own {G : Ghost} {bs : List Blk} {w : World} (hI : Inv G bs w) {i n e sz : Nat} {xs : List AV} {cv : Value} (h : R G (.gsl i n) cv) (hb : bat bs i = .own e sz xs) (hn : n = xs.length) : ∃ g, G.gr i = some g ∧ g.n = n ∧ cv = g.hv := by
  have hB := hI.batOk i
  rw [hb] at hB
  cases h with
  | imm _ _ h => cases h
  | gsl _ _ b l c h => exact ⟨_, h, rfl, rfl⟩
  | stale _ _ g b l c h hlt => have := (hB.2 g h).1; omega

theorem R.optr_inv {G : Ghost} {bs : List Blk} {w : World} (hI : Inv G bs w) {i n j z o e sz : Nat} {xs : List AV} {cv : Value} (h : R G (.optr i n j z o) cv) (hb : bat bs i = .own e sz xs) (hn : n = xs.length) :
    ∃ c l cap, G.gr i = some ⟨n, .slice (some ⟨c, 0, none⟩) l cap⟩ ∧ cv = .pointer (some ⟨c, j * z + o, none⟩) := by
  have hB := hI.batOk i
  rw [hb] at hB
  cases h with
  | imm _ _ h => cases h
  | optr _ _ _ _ _ c l cap h => exact ⟨c, l, cap, h, rfl⟩
  | optrS _ _ _ _ _ g b h hlt => have := (hB.2 g h).1; omega

theorem R.oslc_inv {G : Ghost} {bs : List Blk} {w : World} (hI : Inv G bs w) {i n o z len e sz : Nat} {cp : Option Nat} {xs : List AV} {cv : Value} (h : R G (.oslc i n o z len cp) cv) (hb : bat bs i = .own e sz xs) (hn : n = xs.length) :
    ∃ c l cap ccap, G.gr i = some ⟨n, .slice (some ⟨c, 0, none⟩) l cap⟩ ∧ len ≤ ccap ∧ (∀ m, cp = some m → ccap = m) ∧ cv = .slice (some ⟨c, o * z, none⟩) len ccap := by
  have hB := hI.batOk i
  rw [hb] at hB
  cases h with
  | imm _ _ h => cases h
  | oslc _ _ _ _ _ _ c l lcap ccap h hl hc => exact ⟨c, l, lcap, ccap, h, hl, hc, rfl⟩
  | oslcS _ _ _ _ _ _ g b l c h hlt => have := (hB.2 g h).1; omega

/-! ### a slice as it is read -/

def Reads (G : Ghost) (w : World) (sz : Nat) (xs : List AV) (cv : Value) (cap : Option Nat) : Prop :=
  ∃ b ccap, cv = .slice b xs.length ccap ∧ xs.length ≤ ccap ∧ (∀ m, cap = some m → ccap = m) ∧
    (xs ≠ [] → ∃ c o, b = some ⟨c, o, none⟩ ∧ ∀ (j : Nat) (x : AV) (q : Nat) v, xs[j]? = some x → x.cells[q]? = some v → ∃ u, w.cell? ⟨c, o + j * sz + q, none⟩ = some u ∧ R G v u)

def elems (look : Nat → Blk) : AV → Option (List AV × Option Nat)
  | .nils => some ([], some 0)
  | .lst true xs => some (xs, some xs.length)
  | .lst false xs => some (xs, none)
  | .gsl i n => match look i with
    | .own _ _ xs => match Nat.beq n xs.length with
      | true => some (xs, none)
      | false => none
    | .grow _ _ xs => match Nat.beq n xs.length with
      | true => some (xs, none)
      | false => none
    | _ => none
  | .slc i o sz len cap => match look i with
    | .rows sz' xs => match Nat.beq sz sz' && Nat.ble (o + len) xs.length with
      | true => some ((xs.drop o).take len, cap)
      | false => none
    | _ => none
  | .oslc i n o sz len cap => match look i with
    | .own _ sz' xs => match Nat.beq n xs.length && Nat.beq sz sz' && Nat.ble (o + len) n with
      | true => some ((xs.drop o).take len, cap)
      | false => none
    | _ => none
  | _ => none

theorem reads_lst {G : Ghost} {bs : List Blk} {w : World} (hI : Inv G bs w) {sz : Nat} {ex : Bool} {xs : List AV} {cv : Value} (hs0 : 0 < sz) (hsz : Sized sz xs) (h : R G (.lst ex xs) cv) : Reads G w sz xs cv (if ex then some xs.length else none) := by
  cases h with
  | imm _ _ h =>
    cases h with
    | nilslice _ b => exact ⟨b, 0, rfl, Nat.le_refl _, fun m hm => by cases ex <;> simp at hm; exact hm, fun h => absurd rfl h⟩
    | lst _ _ sz' c o cap hel hzr hdr hcap hx =>
      refine ⟨_, cap, rfl, hcap, fun m hm => by
        cases ex with
        | false => cases hm
        | true => rw [hx rfl]; exact Option.some.inj hm, fun hne => ⟨c, o, rfl, fun j x q v e1 e2 => ?_⟩⟩
      have hss : sz' = sz := by rw [← hel j x e1]; exact (sized_get hsz j x e1).1
      subst hss
      obtain ⟨u, hu⟩ := hdr j q (lt_of_get e1) (hel j x e1 ▸ lt_of_get e2)
      have hr := hzr j x q v u e1 e2 hu
      exact ⟨u, rd_cell (hI.z _ _ _ hu) (RI.no_code hr), .imm _ _ hr⟩

theorem reads_flat {G : Ghost} {w : World} {sz c o len : Nat} {xs : List AV} {arr : Array Value} {e : TypeId} (hh : w.heap[c]? = some (.cells arr e (0, 0))) (hsz : ∀ (j : Nat) (x : AV), xs[j]? = some x → x.cells.length = sz) (hl : xs.length * sz ≤ arr.size)
    (hr : ∀ (q : Nat) v cv, (flat xs)[q]? = some v → arr[q]? = some cv → R G v cv) :
    ∀ (j : Nat) (x : AV) (q : Nat) v, ((xs.drop o).take len)[j]? = some x → x.cells[q]? = some v → ∃ u, w.cell? ⟨c, o * sz + j * sz + q, none⟩ = some u ∧ R G v u := by
  intro j x q v e1 e2
  rw [List.getElem?_take] at e1
  split at e1
  · rw [List.getElem?_drop] at e1
    have hq : q < sz := hsz _ x e1 ▸ lt_of_get e2
    have hf := (flat_get xs sz hsz _ q x e1 hq).trans e2
    have hlt : (o + j) * sz + q < arr.size := Nat.lt_of_lt_of_le (by rw [← flat_len xs sz hsz]; exact lt_of_get hf) hl
    have e0 : o * sz + j * sz + q = (o + j) * sz + q := by rw [Nat.add_mul]
    rw [e0]
    exact ⟨arr[(o + j) * sz + q], by simp [World.cell?, hh, hlt], hr _ v _ hf (by simp [hlt])⟩
  · cases e1

theorem elems_reads {G : Ghost} {bs : List Blk} {w : World} (hI : Inv G bs w) {sz : Nat} {v : AV} {xs : List AV} {cap : Option Nat} {cv : Value} (hs0 : 0 < sz) (h : elems (bat bs) v = some (xs, cap)) (hsz : Sized sz xs) (hr : R G v cv) : Reads G w sz xs cv cap := by
  unfold elems at h
  split at h
  · obtain ⟨rfl, rfl⟩ : [] = xs ∧ some 0 = cap := by simpa using h
    cases hr with
    | imm _ _ h => cases h; exact ⟨none, 0, rfl, Nat.le_refl _, fun m hm => Option.some.inj hm, fun h => absurd rfl h⟩
  · obtain ⟨rfl, rfl⟩ := Prod.mk.inj (Option.some.inj h)
    exact reads_lst hI hs0 hsz hr
  · obtain ⟨rfl, rfl⟩ := Prod.mk.inj (Option.some.inj h)
    exact reads_lst hI hs0 hsz hr
  · rename_i i n
    split at h
    · rename_i e sz' ys hb
      split at h
      · rename_i hn
        obtain ⟨rfl, rfl⟩ := Prod.mk.inj (Option.some.inj h)
        have hn := Nat.eq_of_beq_eq_true hn
        obtain ⟨g, hg, h1, rfl⟩ := hr.gsl_own hI hb hn
        have hB := hI.batOk i
        rw [hb] at hB
        obtain ⟨_, _, _, cs, hown, _⟩ := hB.2 g hg
        rcases hown.2 with ⟨hv, h0⟩ | ⟨g1, cap', cur, hv, _⟩
        · have : ys = [] := List.eq_nil_of_length_eq_zero h0
          subst this
          exact ⟨none, 0, hv, Nat.le_refl _, by simp, fun h => absurd rfl h⟩
        · have hg' : G.gr i = some ⟨g.n, .slice (some ⟨g1, 0, none⟩) ys.length cap'⟩ := by rw [hg, ← hv]
          obtain ⟨q1, q2, q3, q4, q5, q6, q7, _, arr, q8, q9, q10⟩ := inv_own hI hb hg'
          refine ⟨_, cap', hv, q7, by simp, fun hne => ⟨g1, 0, rfl, fun j x q v e1 e2 => ?_⟩⟩
          have hss : sz' = sz := by rw [← q5 j x e1]; exact (sized_get hsz j x e1).1
          subst hss
          have := reads_flat (o := 0) (len := ys.length) q8 q5 (by rw [q9]; exact Nat.mul_le_mul_right _ q7) q10 j x q v (by simpa using e1) e2
          simpa using this
      · cases h
    · rename_i e sz' ys hb
      split at h
      · rename_i hn
        obtain ⟨rfl, rfl⟩ := Prod.mk.inj (Option.some.inj h)
        exact reads_lst (ex := false) hI hs0 hsz (hr.gsl_at hI hb (Nat.eq_of_beq_eq_true hn))
      · cases h
    · cases h
  · rename_i i o z len cp
    split at h
    · rename_i sz' ys hb
      split at h
      · rename_i hn
        obtain ⟨rfl, rfl⟩ := Prod.mk.inj (Option.some.inj h)
        simp only [Bool.and_eq_true] at hn
        have hz := Nat.eq_of_beq_eq_true hn.1
        have hle := Nat.le_of_ble_eq_true hn.2
        subst hz
        obtain ⟨c, ccap, hc, hl, hcp, rfl⟩ := hr.slc_inv
        obtain ⟨arr, e, q1, q2, q3, q4, q5, q6⟩ := inv_rows hI hb hc
        have hlen : ((ys.drop o).take len).length = len := by simp; omega
        refine ⟨_, ccap, by rw [hlen], by rw [hlen]; exact hl, hcp, fun hne => ⟨c, o * z, rfl, fun j x q v e1 e2 => ?_⟩⟩
        have hss : z = sz := by
          have h1 := (sized_get hsz j x e1).1
          rw [List.getElem?_take] at e1
          split at e1
          · rw [List.getElem?_drop] at e1; rw [← q6 _ x e1]; exact h1
          · cases e1
        subst hss
        exact reads_flat q1 q6 (by rw [← flat_len ys z q6]; exact q2) q3 j x q v e1 e2
      · cases h
    · cases h
  · rename_i i n o z len cp
    split at h
    · rename_i e sz' ys hb
      split at h
      · rename_i hn
        obtain ⟨rfl, rfl⟩ := Prod.mk.inj (Option.some.inj h)
        simp only [Bool.and_eq_true] at hn
        have hn0 := Nat.eq_of_beq_eq_true hn.1.1
        have hz := Nat.eq_of_beq_eq_true hn.1.2
        have hle := Nat.le_of_ble_eq_true hn.2
        subst hz
        obtain ⟨c, l, lcap, ccap, hg, hl, hcp, rfl⟩ := hr.oslc_inv hI hb hn0
        obtain ⟨q1, q2, q3, q4, q5, q6, q7, _, arr, q8, q9, q10⟩ := inv_own hI hb hg
        have hlen : ((ys.drop o).take len).length = len := by simp; omega
        refine ⟨_, ccap, by rw [hlen], by rw [hlen]; exact hl, hcp, fun hne => ⟨c, o * z, rfl, fun j x q v e1 e2 => ?_⟩⟩
        have hss : z = sz := by
          have h1 := (sized_get hsz j x e1).1
          rw [List.getElem?_take] at e1
          split at e1
          · rw [List.getElem?_drop] at e1; rw [← q5 _ x e1]; exact h1
          · cases e1
        subst hss
        exact reads_flat q8 q5 (by rw [q9]; exact Nat.mul_le_mul_right _ q7) q10 j x q v e1 e2
      · cases h
    · cases h
  · cases h

end
end Go.Proofs.YtelgmdljcbkniaaGreatDoor.Ai

/- An interpreter of values for the model's code, base text 27: operations on lists of one's own. -/
namespace Go.Proofs.YtelgmdljcbkniaaGreatDoor.Ai
noncomputable section
open Go
set_option linter.unusedVariables false

/-- A list of one's own that lies anew, or longer. -/
theorem own_turn {G : Ghost} {bs : List Blk} {w w' : World} (hI : Inv G bs w) {i e size : Nat} {xs : List AV} (hcl : G.cl i = none) (hlt : ∀ g, G.gr i = some g → g.n < xs.length) (hs0 : 0 < size) (hsz : ∀ (j : Nat) (x : AV), xs[j]? = some x → x.cells.length = size)
    {g2 cap2 : Nat} {cs : List Value} (hown : w'.ownsRow 0 e size (.slice (some ⟨g2, 0, none⟩) xs.length cap2) xs.length cs) (hcont : ∀ (j : Nat) (x : AV) (q : Nat) v cv, xs[j]? = some x → x.cells[q]? = some v → cs[j * size + q]? = some cv → R G v cv)
    (hz2 : ∀ k, G.Z g2 k = none) (hplace : w.heap.size ≤ g2 ∨ G.owns i g2) (hnl : ∀ rec : Loop, w.heap[g2]? ≠ some (Obj.loop rec)) (hos : w'.os = w.os) (htape : w'.tape = w.tape) (hout : w'.output = w.output) (hsize : w.heap.size ≤ w'.heap.size)
    (hf : ∀ c, c < w.heap.size → c ≠ g2 → w'.heap[c]? = w.heap[c]?) :
    ∃ G', After G w (.gsl i xs.length) (bset bs i (.own e size xs)) (.slice (some ⟨g2, 0, none⟩) xs.length cap2) w' G' := by
  let G' : Ghost := ⟨G.cl, fun j => if j = i then some ⟨xs.length, .slice (some ⟨g2, 0, none⟩) xs.length cap2⟩ else G.gr j, G.Z, G.ok⟩
  have hgr : G'.gr i = some ⟨xs.length, .slice (some ⟨g2, 0, none⟩) xs.length cap2⟩ := by simp [G']
  have hgrne : ∀ j, j ≠ i → G'.gr j = G.gr j := fun j hj => by simp [G', hj]
  have hleG : G.le G' := by
    refine ⟨fun _ _ h => h, fun j g' h => ?_, .refl _⟩
    by_cases hj : j = i
    · subst hj
      exact ⟨_, hgr, .inr (hlt g' h)⟩
    · exact ⟨g', by rw [hgrne j hj]; exact h, .inl rfl⟩
  have hown_i : ∀ c, G'.owns i c → c = g2 := fun c hc => by
    rcases hc with hc | ⟨g', h1, h2⟩
    · rw [show G'.cl i = none from hcl] at hc; cases hc
    · rw [hgr] at h1
      obtain rfl := Option.some.inj h1
      simpa [Value.ownBlock] using h2.symm
  have hinv := hI.turn (G' := G') (w' := w') (k := i) (.own e size xs) (fun _ _ => rfl) hgrne hleG
    (fun c hc hno => hf c hc fun e0 => by
      subst e0
      rcases hplace with h | h
      · omega
      · exact hno h)
    (fun j c o hj hc => rfl)
    (fun c o v ez => by
      have hc : c ≠ g2 := fun e0 => by have ez' : G.Z c o = some v := ez; rw [e0, hz2 o] at ez'; cases ez'
      rw [rd_of_frame (hf c (hI.z_lt ez) hc)]; exact hI.z c o v ez)
    ⟨hcl, fun g' hg' => by
      rw [hgr] at hg'
      obtain rfl := Option.some.inj hg'
      exact ⟨rfl, hs0, hsz, cs, hown, fun j x q v cv e1 e2 e3 => (hcont j x q v cv e1 e2 e3).mono hleG, fun c hc k => by
        have : c = g2 := by simpa [Value.ownBlock] using hc.symm
        subst this
        exact hz2 k⟩⟩
    (fun c hc => by rw [hown_i c hc]; exact hplace)
  refine ⟨G', .gsl _ _ _ _ _ hgr, hinv, hleG, ⟨hos, htape, hout, hsize, .refl _, fun c o v ez => .inl ez, fun c hc hno => hf c hc fun e0 => ?_, fun j c hc => ?_, loop_of_same fun c hc => by
    by_cases e0 : c = g2
    · exact .inr (by rw [e0]; exact hnl)
    · exact .inl (hf c hc e0)⟩⟩
  · subst e0
    rcases hplace with h | h
    · omega
    · exact hno i h
  · by_cases hj : j = i
    · subst hj
      rw [hown_i c hc]
      exact hplace.imp id fun h => ⟨j, h⟩
    · exact .inr ⟨j, by unfold Ghost.owns at hc ⊢; rw [hgrne j hj] at hc; exact hc⟩

/-- The cells of a slice that is read. -/
theorem reads_cells {G : Ghost} {w : World} {sz : Nat} {xs : List AV} {c o : Nat} (hs0 : 0 < sz) (hsz : Sized sz xs)
    (h : ∀ (j : Nat) (x : AV) (q : Nat) v, xs[j]? = some x → x.cells[q]? = some v → ∃ u, w.cell? ⟨c, o + j * sz + q, none⟩ = some u ∧ R G v u) :
    ∃ news : List Value, news.length = xs.length * sz ∧ (∀ j u, news[j]? = some u → w.cell? ((⟨c, o, none⟩ : Addr).add j) = some u) ∧ (∀ u ∈ news, u.oneCell' = true) ∧
      (∀ (j : Nat) (x : AV) (q : Nat) v cv, xs[j]? = some x → x.cells[q]? = some v → news[j * sz + q]? = some cv → R G v cv) := by
  have key : ∀ j, j < xs.length * sz → ∃ x v u, xs[j / sz]? = some x ∧ x.cells[j % sz]? = some v ∧ w.cell? ⟨c, o + j, none⟩ = some u ∧ R G v u ∧ v.one = true := fun j hj => by
    have hq : j % sz < sz := Nat.mod_lt _ hs0
    have hk : j / sz < xs.length := Nat.div_lt_of_lt_mul (by rw [Nat.mul_comm]; exact hj)
    have e : o + j / sz * sz + j % sz = o + j := by have := Nat.div_add_mod j sz; rw [Nat.mul_comm] at this; omega
    have hx : xs[j / sz]? = some xs[j / sz] := List.getElem?_eq_getElem hk
    obtain ⟨hl, h1⟩ := sized_get hsz _ _ hx
    have hv : (xs[j / sz]).cells[j % sz]? = some (xs[j / sz]).cells[j % sz] := List.getElem?_eq_getElem (by omega)
    obtain ⟨u, hu, hr⟩ := h _ _ _ _ hx hv
    exact ⟨_, _, u, hx, hv, e ▸ hu, hr, List.all_eq_true.1 h1 _ (List.getElem_mem _)⟩
  refine ⟨(List.range (xs.length * sz)).map fun j => (w.cell? ⟨c, o + j, none⟩).getD undef, by simp, fun j u hj => ?_, fun u hu => ?_, fun j x q v cv e1 e2 e3 => ?_⟩
  · have hlt : j < xs.length * sz := by have := lt_of_get hj; simpa using this
    obtain ⟨x, v, u', _, _, h3, _⟩ := key j hlt
    rw [List.getElem?_map, List.getElem?_range hlt] at hj
    simp only [Option.map_some, h3, Option.getD_some, Option.some.injEq] at hj
    subst hj
    rw [cell_add]; exact h3
  · obtain ⟨j, hj, rfl⟩ := List.mem_map.1 hu
    have hlt : j < xs.length * sz := by simpa using hj
    obtain ⟨x, v, u', _, _, h3, h4, h5⟩ := key j hlt
    rw [h3]
    exact (h4.one_cells h5).2
  · have hq' : q < sz := (sized_get hsz j x e1).1 ▸ lt_of_get e2
    have hlt : j * sz + q < xs.length * sz := by
      have h1 : j * sz + sz ≤ xs.length * sz := by rw [← Nat.succ_mul]; exact Nat.mul_le_mul_right _ (lt_of_get e1)
      omega
    rw [List.getElem?_map, List.getElem?_range hlt] at e3
    obtain ⟨u, hu, hr⟩ := h j x q v e1 e2
    simp only [Option.map_some, ← Nat.add_assoc, hu, Option.getD_some, Option.some.injEq] at e3
    exact e3 ▸ hr

theorem getAppend {G : Ghost} {size : Nat} {xs ys : List AV} {cs news : List Value} (hcs : cs.length = xs.length * size) (hx : ∀ (j : Nat) (x : AV), xs[j]? = some x → x.cells.length = size)
    (h1 : ∀ (j : Nat) (x : AV) (q : Nat) v cv, xs[j]? = some x → x.cells[q]? = some v → cs[j * size + q]? = some cv → R G v cv)
    (h2 : ∀ (j : Nat) (x : AV) (q : Nat) v cv, ys[j]? = some x → x.cells[q]? = some v → news[j * size + q]? = some cv → R G v cv) :
    ∀ (j : Nat) (x : AV) (q : Nat) v cv, (xs ++ ys)[j]? = some x → x.cells[q]? = some v → (cs ++ news)[j * size + q]? = some cv → R G v cv := by
  intro j x q v cv e1 e2 e3
  rw [List.getElem?_append] at e1
  split at e1
  · rename_i hj
    have hq := hx j x e1 ▸ lt_of_get e2
    have h0 : j * size + q < cs.length := by
      have : j * size + size ≤ xs.length * size := by rw [← Nat.succ_mul]; exact Nat.mul_le_mul_right _ hj
      omega
    rw [List.getElem?_append_left h0] at e3
    exact h1 j x q v cv e1 e2 e3
  · rename_i hj
    have e0 : j * size + q = cs.length + ((j - xs.length) * size + q) := by
      have : j * size = xs.length * size + (j - xs.length) * size := by rw [← Nat.add_mul]; congr 1; omega
      omega
    rw [e0, List.getElem?_append_right (by omega), Nat.add_sub_cancel_left] at e3
    exact h2 _ x q v cv e1 e2 e3

theorem sized_len {size : Nat} {xs ys : List AV} (hx : ∀ (j : Nat) (x : AV), xs[j]? = some x → x.cells.length = size) (hy : Sized size ys) : ∀ (j : Nat) (x : AV), (xs ++ ys)[j]? = some x → x.cells.length = size := by
  intro j x e
  rw [List.getElem?_append] at e
  split at e
  · exact hx j x e
  · exact (sized_get hy _ x e).1

/-- A list of one's own grows. -/
theorem op_append_o {P : Program} {o : Oper} {s : St} {t e : TypeId} {x y : Operand} {size bytes : Nat} {z : Value} {d : TypeDesc} {i n : Nat} {xs ys : List AV} {yv : AV} {cap : Option Nat} (ht : P.underlying t = some (.slice e)) (he : Inf P e size bytes z d) (hzs : z.cells.size = size) (hs0 : 0 < size)
    (ho : o.op = .call { callee := .builtin .append, args := #[x, y], argTypes := #[t, t] }) (hx : ev s.env x = some (.gsl i n)) (hb : bat s.bs i = .own e size xs) (hn : n = xs.length) (hy : ev s.env y = some yv) (hi : elems (bat s.bs) yv = some (ys, cap)) (hsz : Sized size ys) (hy0 : ys ≠ [])
    (hbound : (xs.length + ys.length) * bytes ≤ 140737488355328) (hmax : xs.length + ys.length ≤ maxLen) : OpT P o s (.gsl i (xs ++ ys).length) (bset s.bs i (.own e size (xs ++ ys))) := by
  refine OpT.of (by simp [ho]) ?_
  intro G w a hI hE K Q hK
  obtain ⟨ie, hie, hsize, hby, hz⟩ := he.info
  obtain ⟨b2, c2, hcy, hc2, _, hcell⟩ := elems_reads hI hs0 hi hsz (ev_r hE hy)
  obtain ⟨c, q, hb2, hcell2⟩ := hcell hy0
  subst hb2
  obtain ⟨news, hl, hcel, h1, hnews⟩ := reads_cells hs0 hsz hcell2
  have hB := hI.batOk i
  rw [hb] at hB
  obtain ⟨g, hg, hgn, hv⟩ := (ev_r hE hx).gsl_own hI hb hn
  obtain ⟨q1, _, hcells, cs, hown, hcont, hzz⟩ := hB.2 g hg
  have hy1 : 0 < ys.length := List.length_pos_iff.2 hy0
  have hcont2 := getAppend hown.1 hcells hcont hnews
  have hlen2 := sized_len hcells hsz
  have hlt : ∀ g', G.gr i = some g' → g'.n < (xs ++ ys).length := fun g' hg' => by
    rw [hg] at hg'
    obtain rfl := Option.some.inj hg'
    rw [List.length_append]; omega
  have fin : ∀ v' w', (Builtin.append_ #[t, t] o.type #[g.hv, a.eval y]).run P w = .ok v' w' → (∃ G', After G w (.gsl i (xs ++ ys).length) (bset s.bs i (.own e size (xs ++ ys))) v' w' G') → Oper.wp P o a w K Q := fun v' w' hr ⟨G', hA⟩ => by
    unfold Oper.wp execOp
    simp only [ho, resolve, invoke, builtin, Sem.run_bind, Sem.run_pure, Result.andThen_ok, List.map_toArray, List.map_cons, List.map_nil, hv, hr]
    exact hK _ _ G' hA
  have fresh : ∀ v' w', w'.ownsRow w.heap.size e size v' (xs.length + ys.length) (cs ++ news) → w.grownBy w' none → ∃ G', After G w (.gsl i (xs ++ ys).length) (bset s.bs i (.own e size (xs ++ ys))) v' w' G' := fun v' w' hw hgb => by
    rcases hw.2 with ⟨_, h0⟩ | ⟨g2, cap2, cur, rfl, hge, hrest⟩
    · omega
    · have ho' : w'.ownsRow 0 e size (.slice (some ⟨g2, 0, none⟩) (xs ++ ys).length cap2) (xs ++ ys).length (cs ++ news) := by
        rw [List.length_append]; exact ⟨hw.1, .inr ⟨g2, cap2, cur, rfl, Nat.zero_le _, hrest⟩⟩
      have := own_turn hI (i := i) (xs := xs ++ ys) hB.1 hlt hs0 hlen2 ho' hcont2 (fun k => by
        cases hz : G.Z g2 k with
        | none => rfl
        | some v => have := hI.z_lt hz; omega) (.inl hge) (fun rec e0 => by have := (Array.getElem?_eq_some_iff.1 e0).1; omega) hgb.os hgb.tape hgb.output hgb.size (fun c hc _ => hgb.block c hc (by simp))
      rwa [List.length_append] at this ⊢
  rcases hown.2 with ⟨hv0, h0⟩ | ⟨g1, cap1, cur, hv0, hbg, hh, hc1, hcm, hcs, htake⟩
  · have hcs0 : cs = [] := List.eq_nil_of_length_eq_zero (by rw [hown.1, h0]; simp)
    have ho2 := World.ownsRow_nil w w.heap.size e size
    obtain ⟨v', w', hr, ho', hgb, _⟩ := run_append_own (P := P) w w.heap.size t o.type e ie z size bytes ht hie hz hsize hby hzs hs0 (.slice none 0 0) 0 [] ho2 ⟨c, q, none⟩ ys.length c2 news hl hcel h1 (by omega) (by rw [h0] at hbound; exact hbound) (Nat.le_refl _)
    exact fin v' w' (by rw [hv0, hcy]; exact hr) (fresh v' w' (by rw [h0, hcs0]; exact ho') (by simpa [Value.ownBlock] using hgb))
  · by_cases hroom : xs.length + ys.length ≤ cap1
    · have hfit : xs.length * ie.size + news.length ≤ cur.size := by rw [hl, hcs, hsize, ← Nat.add_mul]; exact Nat.mul_le_mul_right _ hroom
      have hr := run_append_room (P := P) w t o.type e ie ht hie g1 xs.length cap1 cur hh ⟨c, q, none⟩ ys.length c2 news (by rw [hsize]; exact hl) hcel h1 hroom hfit
      rw [hsize] at hr hfit
      have hown' : (w.setRow g1 (cur.toList.take (xs.length * size) ++ news ++ cur.toList.drop (xs.length * size + news.length)).toArray).ownsRow 0 e size (.slice (some ⟨g1, 0, none⟩) (xs ++ ys).length cap1) (xs ++ ys).length (cs ++ news) := by
        rw [List.length_append]
        refine ⟨by rw [List.length_append, hown.1, hl, Nat.add_mul], .inr ⟨g1, cap1, _, rfl, Nat.zero_le _, setRow_heap w g1 cur _ e _ hh, hroom, hcm, ?_, ?_⟩⟩
        · simp only [List.size_toArray, List.length_append, List.length_take, List.length_drop, Array.length_toList]
          omega
        · have e0 : cur.toList.take (xs.length * size) = cs := htake
          rw [e0]
          have e1 : (xs.length + ys.length) * size = (cs ++ news).length := by rw [List.length_append, hown.1, hl, Nat.add_mul]
          rw [e1]
          exact List.take_left
      refine fin _ _ (by rw [hv0, hcy]; exact hr) ?_
      have := own_turn (w' := w.setRow g1 (cur.toList.take (xs.length * size) ++ news ++ cur.toList.drop (xs.length * size + news.length)).toArray) hI (i := i) (xs := xs ++ ys) hB.1 hlt hs0 hlen2 hown' hcont2 (hzz g1 (by rw [hv0]; rfl))
        (.inr (.inr ⟨g, hg, by rw [hv0]; rfl⟩)) (fun rec e0 => by rw [hh] at e0; cases e0) rfl rfl rfl (by simp) (fun c _ hc => setRow_other w g1 c _ hc)
      simpa only [List.length_append] using this
    · have holds : ∀ j u, cs[j]? = some u → w.cell? ((⟨g1, 0, none⟩ : Addr).add j) = some u := hown.cells (g := g1) (by rw [hv0]; rfl)
      obtain ⟨v', w', hr, ho', hgb⟩ := run_append_arg_grows (P := P) w t o.type e ie z size bytes ht hie hz hsize hby hzs hs0 ⟨g1, 0, none⟩ xs.length cap1 cs hown.1 holds ⟨c, q, none⟩ ys.length c2 news hl hcel (by omega) hmax hbound
      exact fin v' w' (by rw [hv0, hcy]; exact hr) (fresh v' w' ho' hgb)

/-- A list without room grows: anew, at a free place. -/
theorem op_append_x {P : Program} {o : Oper} {s : St} {t e : TypeId} {x y : Operand} {size bytes : Nat} {z : Value} {d : TypeDesc} {k : Nat} {xs ys : List AV} {xv yv : AV} {cap : Option Nat} (ht : P.underlying t = some (.slice e)) (he : Inf P e size bytes z d) (hzs : z.cells.size = size) (hs0 : 0 < size)
    (ho : o.op = .call { callee := .builtin .append, args := #[x, y], argTypes := #[t, t] }) (hx : ev s.env x = some xv) (hxe : elems (bat s.bs) xv = some (xs, some xs.length)) (hxs : Sized size xs) (hk : bat s.bs k = .gone) (hy : ev s.env y = some yv) (hi : elems (bat s.bs) yv = some (ys, cap)) (hsz : Sized size ys) (hy0 : ys ≠ [])
    (hbound : (xs.length + ys.length) * bytes ≤ 140737488355328) (hmax : xs.length + ys.length ≤ maxLen) : OpT P o s (.gsl k (xs ++ ys).length) (bset s.bs k (.own e size (xs ++ ys))) := by
  refine OpT.of (by simp [ho]) ?_
  intro G w a hI hE K Q hK
  obtain ⟨ie, hie, hsize, hby, hz⟩ := he.info
  obtain ⟨b2, c2, hcy, hc2, _, hcell⟩ := elems_reads hI hs0 hi hsz (ev_r hE hy)
  obtain ⟨c, q, hb2, hcell2⟩ := hcell hy0
  subst hb2
  obtain ⟨news, hl, hcel, h1, hnews⟩ := reads_cells hs0 hsz hcell2
  obtain ⟨b1, c1, hcx, hc1, hcap, hcellx⟩ := elems_reads hI hs0 hxe hxs (ev_r hE hx)
  have hcap := hcap _ rfl
  subst hcap
  have hg0 := hI.batOk k
  rw [hk] at hg0
  have hy1 : 0 < ys.length := List.length_pos_iff.2 hy0
  have hxc : ∀ (j : Nat) (x : AV), xs[j]? = some x → x.cells.length = size := fun j x hx => (sized_get hxs j x hx).1
  have fresh : ∀ cs, cs.length = xs.length * size → (∀ (j : Nat) (x : AV) (q : Nat) v cv, xs[j]? = some x → x.cells[q]? = some v → cs[j * size + q]? = some cv → R G v cv) → ∀ v' w', (Builtin.append_ #[t, t] o.type #[a.eval x, a.eval y]).run P w = .ok v' w' →
      w'.ownsRow w.heap.size e size v' (xs.length + ys.length) (cs ++ news) → w.grownBy w' none → Oper.wp P o a w K Q := fun cs hcsl hcont v' w' hr hw hgb => by
    rcases hw.2 with ⟨_, h0⟩ | ⟨g2, cap2, cur, rfl, hge, hrest⟩
    · omega
    · have ho' : w'.ownsRow 0 e size (.slice (some ⟨g2, 0, none⟩) (xs ++ ys).length cap2) (xs ++ ys).length (cs ++ news) := by
        rw [List.length_append]; exact ⟨hw.1, .inr ⟨g2, cap2, cur, rfl, Nat.zero_le _, hrest⟩⟩
      obtain ⟨G', hA⟩ := own_turn hI (i := k) (xs := xs ++ ys) hg0.1 (fun g hg => by rw [hg0.2] at hg; cases hg) hs0 (sized_len hxc hsz) ho' (getAppend hcsl hxc hcont hnews) (fun k => by
        cases hz : G.Z g2 k with
        | none => rfl
        | some v => have := hI.z_lt hz; omega) (.inl hge) (fun rec e0 => by have := (Array.getElem?_eq_some_iff.1 e0).1; omega) hgb.os hgb.tape hgb.output hgb.size (fun c hc _ => hgb.block c hc (by simp))
      unfold Oper.wp execOp
      simp only [ho, resolve, invoke, builtin, Sem.run_bind, Sem.run_pure, Result.andThen_ok, List.map_toArray, List.map_cons, List.map_nil, hr]
      rw [List.length_append] at hA
      exact hK _ _ G' (by rw [List.length_append]; exact hA)
  by_cases hx0 : xs = []
  · subst hx0
    cases b1 with
    | none =>
      obtain ⟨v', w', hr, ho', hgb, _⟩ := run_append_own (P := P) w w.heap.size t o.type e ie z size bytes ht hie hz hsize hby hzs hs0 (.slice none 0 0) 0 [] (World.ownsRow_nil w w.heap.size e size) ⟨c, q, none⟩ ys.length c2 news hl hcel h1 (by simpa using hmax) (by simpa using hbound) (Nat.le_refl _)
      exact fresh [] (by simp) (fun j x q v cv h => by simp at h) v' w' (by rw [hcx, hcy]; exact hr) (by simpa using ho') (by simpa [Value.ownBlock] using hgb)
    | some a1 =>
      obtain ⟨v', w', hr, ho', hgb⟩ := run_append_arg_grows (P := P) w t o.type e ie z size bytes ht hie hz hsize hby hzs hs0 a1 0 0 [] (by simp) (by simp) ⟨c, q, none⟩ ys.length c2 news hl hcel (by omega) (by simpa using hmax) (by simpa using hbound)
      exact fresh [] (by simp) (fun j x q v cv h => by simp at h) v' w' (by rw [hcx, hcy]; exact hr) (by simpa using ho') hgb
  · obtain ⟨c0, q0, hb1, hcellx2⟩ := hcellx hx0
    subst hb1
    obtain ⟨olds, hol, hocel, ho1, holds⟩ := reads_cells hs0 hxs hcellx2
    obtain ⟨v', w', hr, ho', hgb⟩ := run_append_arg_grows (P := P) w t o.type e ie z size bytes ht hie hz hsize hby hzs hs0 ⟨c0, q0, none⟩ xs.length xs.length olds hol hocel ⟨c, q, none⟩ ys.length c2 news hl hcel (by omega) hmax hbound
    exact fresh olds hol holds v' w' (by rw [hcx, hcy]; exact hr) ho' hgb

/-- Nothing is appended. -/
theorem op_append_e {P : Program} {o : Oper} {s : St} {t e : TypeId} {x y : Operand} {size bytes : Nat} {z : Value} {d : TypeDesc} {xs : List AV} {xv yv : AV} {cap cap' : Option Nat} (ht : P.underlying t = some (.slice e)) (he : Inf P e size bytes z d) (hs0 : 0 < size)
    (ho : o.op = .call { callee := .builtin .append, args := #[x, y], argTypes := #[t, t] }) (hx : ev s.env x = some xv) (hxe : elems (bat s.bs) xv = some (xs, cap')) (hxs : Sized size xs) (hy : ev s.env y = some yv) (hi : elems (bat s.bs) yv = some ([], cap)) : OpT P o s xv s.bs :=
  op_pure fun G w a hI hE => by
    obtain ⟨ie, hie, hsize, hby, hz⟩ := he.info
    obtain ⟨b2, c2, hcy, hc2, _⟩ := elems_reads hI hs0 hi (by simp [Sized]) (ev_r hE hy)
    obtain ⟨b1, c1, hcx, hc1, _⟩ := elems_reads hI hs0 hxe hxs (ev_r hE hx)
    refine ⟨a.eval x, ?_, ev_r hE hx⟩
    have := run_append_none (P := P) (t := t) (ty := o.type) (w := w) ht hie (b := b1) (b2 := b2) (n := xs.length) (cap := c1) (c := c2) hc1
    have hcy' : a.eval y = .slice b2 0 c2 := hcy
    simp [execOp, ho, resolve, invoke, builtin, hcx, hcy', this]

theorem op_len_e {P : Program} {o : Oper} {s : St} {t e : TypeId} {x : Operand} {size bytes : Nat} {z : Value} {d : TypeDesc} {xs : List AV} {xv : AV} {cap : Option Nat} (ht : P.underlying t = some (.slice e)) (hs0 : 0 < size)
    (ho : o.op = .call { callee := .builtin .len, args := #[x], argTypes := #[t] }) (hx : ev s.env x = some xv) (hxe : elems (bat s.bs) xv = some (xs, cap)) (hxs : Sized size xs) : OpT P o s (.int .i64 xs.length) s.bs :=
  op_pure fun G w a hI hE => by
    obtain ⟨b1, c1, hcx, hc1, _⟩ := elems_reads hI hs0 hxe hxs (ev_r hE hx)
    exact ⟨.int .i64 xs.length, by simp [execOp, ho, resolve, invoke, builtin, Builtin.len_, run_underlying ht, hcx, goInt], .imm _ _ (.int _ _)⟩

/-! ### elements -/

theorem op_iaddr_o {P : Program} {o : Oper} {s : St} {t e e' : TypeId} {x y : Operand} {i ln sz : Nat} {xs : List AV} {k : IntKind} {n : Int} {size bytes : Nat} {z : Value} {d : TypeDesc} (ht : P.underlying t = some (.slice e)) (he : Inf P e size bytes z d)
    (ho : o.op = .indexAddr t x y) (hx : ev s.env x = some (.gsl i ln)) (hb : bat s.bs i = .own e' sz xs) (hl : ln = xs.length) (hy : ev s.env y = some (.int k n)) (h0 : 0 ≤ n) (hn : n.toNat < ln) (hs : sz = size) :
    OpT P o s (.optr i ln n.toNat sz 0) s.bs :=
  op_pure fun G w a hI hE => by
    subst hs
    obtain ⟨g, hg, hgn, hv⟩ := (ev_r hE hx).gsl_own hI hb hl
    have hB := hI.batOk i
    rw [hb] at hB
    obtain ⟨_, _, _, cs, hown, _⟩ := hB.2 g hg
    rcases hown.2 with ⟨hv0, h00⟩ | ⟨g1, cap', cur, hv0, _⟩
    · omega
    · have hn' : n < (xs.length : Int) := by omega
      refine ⟨.pointer (some ⟨g1, n.toNat * sz + 0, none⟩), by simp [execOp, ho, hv, hv0, (ev_r hE hy).int_inv, Instr.indexAt, asIntOf, run_underlying ht, h0, hn', he.size, addr_add], ?_⟩
      exact .optr i ln n.toNat sz 0 g1 xs.length cap' (by rw [hg, ← hv0, ← hgn])

theorem op_iaddr_os {P : Program} {o : Oper} {s : St} {t e e' : TypeId} {x y : Operand} {i m q ln sz sz' : Nat} {cap : Option Nat} {xs : List AV} {k : IntKind} {n : Int} {size bytes : Nat} {z : Value} {d : TypeDesc} (ht : P.underlying t = some (.slice e)) (he : Inf P e size bytes z d)
    (ho : o.op = .indexAddr t x y) (hx : ev s.env x = some (.oslc i m q sz ln cap)) (hb : bat s.bs i = .own e' sz' xs) (hl : m = xs.length) (hy : ev s.env y = some (.int k n)) (h0 : 0 ≤ n) (hn : n.toNat < ln) (hs : sz = size) :
    OpT P o s (.optr i m (q + n.toNat) sz 0) s.bs :=
  op_pure fun G w a hI hE => by
    subst hs
    obtain ⟨c, l, lcap, ccap, hg, hlc, _, hv⟩ := (ev_r hE hx).oslc_inv hI hb hl
    have hn' : n < (ln : Int) := by omega
    refine ⟨_, by simp [execOp, ho, hv, (ev_r hE hy).int_inv, Instr.indexAt, asIntOf, run_underlying ht, h0, hn', he.size, addr_add]; rfl, ?_⟩
    have e0 : q * sz + n.toNat * sz = (q + n.toNat) * sz + 0 := by rw [Nat.add_mul]; omega
    rw [e0]
    exact .optr i m (q + n.toNat) sz 0 c l lcap hg

theorem op_faddr_o {P : Program} {o : Oper} {s : St} {t : TypeId} {x : Operand} {fs : Array Field} {j : Nat} {f : Field} {i n m sz k e sz' size bytes : Nat} {xs : List AV} {z : Value} {d : TypeDesc} (ht : P.underlying t = some (.struct fs)) (hj : fs[j]? = some f)
    (hf : Inf P f.type size bytes z d) (h0 : (size == 0) = false) (ho : o.op = .fieldAddr t x j) (hx : ev s.env x = some (.optr i n m sz k)) (hb : bat s.bs i = .own e sz' xs) (hn : n = xs.length) : OpT P o s (.optr i n m sz (k + f.offset)) s.bs :=
  op_pure fun G w a hI hE => by
    obtain ⟨c, l, cap, hg, he⟩ := (ev_r hE hx).optr_inv hI hb hn
    refine ⟨_, by simp [execOp, ho, he, Instr.fieldAt, run_underlying ht, hj, Instr.sureAddr, run_fieldPlace hf h0, addr_add]; rfl, ?_⟩
    rw [Nat.add_assoc]
    exact .optr i n m sz (k + f.offset) c l cap hg

theorem op_load_o {P : Program} {o : Oper} {s : St} {t : TypeId} {x : Operand} {size bytes : Nat} {z : Value} {d : TypeDesc} {i n j sz e k : Nat} {xs : List AV} {u v : AV} (ht : Inf P t size bytes z d) (hd : isAggD d = false)
    (ho : o.op = .load t x) (hx : ev s.env x = some (.optr i n j sz k)) (hb : bat s.bs i = .own e sz xs) (hn : n = xs.length) (hu : xs[j]? = some u) (hv : u.cells[k]? = some v) : OpT P o s v s.bs :=
  op_pure fun G w a hI hE => by
    obtain ⟨c, l, cap, hg, he⟩ := (ev_r hE hx).optr_inv hI hb hn
    obtain ⟨q1, q2, q3, h0, hsz, q6, q7, _, arr, hh, hasz, hr⟩ := inv_own hI hb hg
    have hk : k < sz := hsz j u hu ▸ lt_of_get hv
    have hf := (flat_get xs sz hsz j k u hu hk).trans hv
    have hlt : j * sz + k < arr.size := Nat.lt_of_lt_of_le (lt_of_get hf) (by rw [flat_len xs sz hsz, hasz]; exact Nat.mul_le_mul_right _ q7)
    have hcell : w.cell? ⟨c, j * sz + k, none⟩ = some arr[j * sz + k] := by simp [World.cell?, hh, hlt]
    exact ⟨arr[j * sz + k], by simp [execOp, ho, he, Instr.loadAt, Instr.sureAddr, loadVar, ht.isAgg, hd, hcell], hr _ v _ hf (by simp [hlt])⟩

theorem op_load_agg_o {P : Program} {o : Oper} {s : St} {t : TypeId} {x : Operand} {size bytes : Nat} {z : Value} {d : TypeDesc} {i n j sz e k : Nat} {xs ds : List AV} {u : AV} (ht : Inf P t size bytes z d) (hd : isAggD d = true)
    (ho : o.op = .load t x) (hx : ev s.env x = some (.optr i n j sz k)) (hb : bat s.bs i = .own e sz xs) (hn : n = xs.length) (hu : xs[j]? = some u) (hs : k + size ≤ u.cells.length) (hv : (u.cells.drop k).take size = ds) : OpT P o s (.agg ds) s.bs :=
  op_pure fun G w a hI hE => by
    subst hv
    obtain ⟨c, l, cap, hg, he⟩ := (ev_r hE hx).optr_inv hI hb hn
    obtain ⟨q1, q2, q3, h0, hsz, q6, q7, _, arr, hh, hasz, hr⟩ := inv_own hI hb hg
    have hul := hsz j u hu
    have fl : ∀ q, q < size → (flat xs)[j * sz + k + q]? = some (u.cells[k + q]?.getD .und) := fun q hq => by
      rw [Nat.add_assoc, flat_get xs sz hsz j (k + q) u hu (by omega), List.getElem?_eq_getElem (by omega)]; rfl
    have hlen : j * sz + k + size ≤ arr.size := by
      have h1 : j * sz + sz ≤ xs.length * sz := by rw [← Nat.succ_mul]; exact Nat.mul_le_mul_right _ (lt_of_get hu)
      have h2 : xs.length * sz ≤ cap * sz := Nat.mul_le_mul_right _ q7
      omega
    have hrun := loadCells_at (P := P) hh size (o := j * sz + k) hlen
    refine ⟨.agg (arr.extract (j * sz + k) (j * sz + k + size)), by simp [execOp, ho, he, Instr.loadAt, Instr.sureAddr, loadVar, ht.isAgg, hd, ht.size, hrun], .agg _ _ (by simp; omega) fun q v cv e1 e2 => ?_⟩
    rw [List.getElem?_take] at e1
    split at e1
    · rename_i hq
      rw [List.getElem?_drop] at e1
      rw [Array.getElem?_extract] at e2
      split at e2
      · have := fl q hq
        rw [e1] at this
        exact hr _ v cv this e2
      · cases e2
    · cases e1

theorem op_store_o {P : Program} {o : Oper} {s : St} {t : TypeId} {p x : Operand} {size bytes : Nat} {z : Value} {d : TypeDesc} {i n j sz e k : Nat} {xs : List AV} {u u' v : AV} (ht : Inf P t size bytes z d)
    (ho : o.op = .store t p x) (hp : ev s.env p = some (.optr i n j sz k)) (hx : ev s.env x = some v) (hb : bat s.bs i = .own e sz xs) (hn : n = xs.length) (hu : xs[j]? = some u) (hs : v.cells.length = size) (h1 : v.cells.all AV.one = true) (hk : k + size ≤ u.cells.length)
    (hv : u.cells.take k ++ v.cells ++ u.cells.drop (k + size) = u'.cells) : OpT P o s (.und) (bset s.bs i (.own e sz (xs.set j u'))) := by
  refine OpT.of (by simp [ho]) ?_
  intro G w a hI hE K Q hK
  obtain ⟨c, l, cap, hg, he⟩ := (ev_r hE hp).optr_inv hI hb hn
  obtain ⟨q1, q2, q3, h0, hsz, hzn, q7, q8, arr, hh, hasz, hr⟩ := inv_own hI hb hg
  obtain ⟨hvl, hvr, hv1⟩ := (ev_r hE hx).cells h1
  have hul := hsz j u hu
  have hjl := lt_of_get hu
  have hjs : j * sz + sz ≤ xs.length * sz := by rw [← Nat.succ_mul]; exact Nat.mul_le_mul_right _ hjl
  have hcs : xs.length * sz ≤ cap * sz := Nat.mul_le_mul_right _ q7
  have hrun := run_storeCells_at P c (j * sz + k) e (a.eval x).cells.toList 0 arr w hh (by simp; omega) hv1
  simp only [Nat.add_zero] at hrun
  have hszl : (a.eval x).cells.size = size := hvl.trans hs
  let arr' := (arr.toList.take (j * sz + k) ++ (a.eval x).cells.toList ++ arr.toList.drop (j * sz + k + (a.eval x).cells.toList.length)).toArray
  have hf : ∀ d, d ≠ c → (w.setRow c arr').heap[d]? = w.heap[d]? := fun d hd => setRow_other w c d _ hd
  have hst := flat_store (G := G) (news := (a.eval x).cells.toList) hsz h0 hu hs (by simp [hszl]) hk hv (by omega) hr (fun q x c e1 e2 => hvr q x c e1 (by simpa using e2))
  have hasz' : arr'.size = cap * sz := by
    rw [← hasz]
    simp only [arr', List.size_toArray, List.length_append, List.length_take, List.length_drop, Array.length_toList]
    omega
  have hu'l : u'.cells.length = sz := by rw [← hv]; simp; omega
  have hset : ∀ (m : Nat) (x : AV), (xs.set j u')[m]? = some x → x.cells.length = sz := fun m x hx => by
    rw [List.getElem?_set] at hx
    by_cases h : j = m
    · subst h; simp only [if_true, hjl] at hx; obtain rfl := Option.some.inj hx; exact hu'l
    · rw [if_neg h] at hx; exact hsz m x hx
  have hinv : Inv G (bset s.bs i (.own e sz (xs.set j u'))) (w.setRow c arr') := by
    refine hI.turn _ (fun _ _ => rfl) (fun _ _ => rfl) (.refl _) (fun d hd hno => hf d (fun e0 => hno (e0 ▸ .inr ⟨_, hg, rfl⟩))) (fun _ _ _ _ _ => rfl) (fun d q v ez => ?_) ?_ (fun d hd => .inr hd)
    · have hd : d ≠ c := fun e0 => by rw [e0, hzn q] at ez; cases ez
      rw [rd_of_frame (hf d hd)]; exact hI.z d q v ez
    · refine ⟨q3, fun g hg' => ?_⟩
      rw [hg] at hg'
      obtain rfl := Option.some.inj hg'
      refine ⟨by simp [hn], h0, hset, arr'.toList.take (xs.length * sz), ⟨by have e0 : arr'.toList.length = cap * sz := hasz'; rw [List.length_take, e0, List.length_set]; omega, .inr ⟨c, cap, arr', ?_, Nat.zero_le _, setRow_heap w c arr _ e _ hh, by simpa using q7, q8, hasz', by simp⟩⟩, fun m x q v cv e1 e2 e3 => ?_, fun c' hc' k => ?_⟩
      · rw [q2, List.length_set]
      · have hq := hset m x e1 ▸ lt_of_get e2
        have hfq := (flat_get _ sz hset m q x e1 hq).trans e2
        rw [List.getElem?_take] at e3
        split at e3
        · exact hst _ v cv hfq (by simpa [arr'] using e3)
        · cases e3
      · have : c' = c := by simpa [Value.ownBlock] using hc'.symm
        subst this; exact hzn k
  unfold Oper.wp
  have : (execOp a.eval o).run P w = .ok .skip (w.setRow c arr') := by
    simp only [execOp, ho, he, Instr.storeAt, Instr.sureAddr, storeVar, Sem.run_bind, Sem.run_pure, Result.andThen_ok, ht.size, hszl, ne_eq, not_true_eq_false, if_false, hrun, arr']
  rw [this]
  exact hK undef _ G ⟨.und _, hinv, .refl _, ⟨rfl, rfl, rfl, by simp, .refl _, fun _ _ _ e => .inl e, fun d hd hn => hf d (fun e => hn i (e ▸ .inr ⟨_, hg, rfl⟩)), fun m d hd => .inr ⟨m, hd⟩, loop_of_same fun d hd => by
      by_cases e0 : d = c
      · exact .inr fun rec h => by rw [e0, hh] at h; cases h
      · exact .inl (hf d e0)⟩⟩

end
end Go.Proofs.YtelgmdljcbkniaaGreatDoor.Ai

/- An interpreter of values for the model's code, base text 28: parts of slices; slices made with room; calls over the caller's own store. -/
namespace Go.Proofs.YtelgmdljcbkniaaGreatDoor.Ai
noncomputable section
open Go
set_option linter.unusedVariables false

/-! ### parts of slices -/

/-- A bound: the operand's value, or what it is when there is none. -/
inductive Bnd (ov : Option Value) (d n : Nat) : Prop where
  | none (h : ov = none) (hn : n = d)
  | some (k : IntKind) (h : ov = some (.int k (n : Int)))

theorem run_sliceBound {P : Program} {w : World} (k : IntKind) (n y : Nat) (code : BoundsCode) (h : n ≤ y) : (Instr.sliceBound (.int k (n : Int)) y code).run P w = .ok n w := by
  unfold Instr.sliceBound
  have h1 : (0 : Int) ≤ (n : Int) ∧ (n : Int) ≤ (y : Int) := by omega
  simp [asIntOf, h1]

theorem run_slice {P : Program} {w : World} {t e : TypeId} {size bytes : Nat} {z : Value} {d : TypeDesc} (ht : P.underlying t = some (.slice e)) (he : Inf P e size bytes z d) (b : Option Addr) {len cap l h m : Nat} {lo hi mx : Option Value}
    (hl : Bnd lo 0 l) (hh : Bnd hi len h) (hm : Bnd mx cap m) (hx : hi = none → mx = none) (h1 : l ≤ h) (h2 : h ≤ m) (h3 : m ≤ cap) :
    (Instr.slice t (.slice b len cap) lo hi mx).run P w = .ok (.slice (if m = l then b else b.map (·.add (l * size))) (h - l) (m - l)) w := by
  have hb : (Instr.sliceBounds true len cap lo hi mx).run P w = .ok (l, h, m) w := by
    unfold Instr.sliceBounds
    cases hm with
    | none e1 e2 =>
      subst e1 e2
      cases hh with
      | none f1 f2 =>
        subst f1 f2
        cases hl with
        | none g1 g2 => subst g1 g2; simp
        | some k g => subst g; simp [run_sliceBound k l h _ h1]
      | some k f =>
        subst f
        cases hl with
        | none g1 g2 => subst g1 g2; simp [run_sliceBound k h m _ h2]
        | some k' g => subst g; simp [run_sliceBound k h m _ h2, run_sliceBound k' l h _ h1]
    | some k0 e0 =>
      subst e0
      cases hh with
      | none f1 f2 => have := hx f1; cases this
      | some k f =>
        subst f
        cases hl with
        | none g1 g2 => subst g1 g2; simp [run_sliceBound k0 m cap _ h3, run_sliceBound k h m _ h2]
        | some k' g => subst g; simp [run_sliceBound k0 m cap _ h3, run_sliceBound k h m _ h2, run_sliceBound k' l h _ h1]
  unfold Instr.slice
  simp [run_underlying ht, hb, he.size]

theorem slice_base {G : Ghost} {bs : List Blk} {w : World} (hI : Inv G bs w) {v : AV} {xs : List AV} {cap : Option Nat} {b : Option Addr} {n c : Nat} (h : elems (bat bs) v = some (xs, cap)) (hr : R G v (.slice b n c)) : c = 0 ∨ ∃ c0 o0, b = some ⟨c0, o0, none⟩ := by
  unfold elems at h
  split at h
  · cases hr with
    | imm _ _ h => cases h; exact .inl rfl
  · cases hr with
    | imm _ _ h =>
      cases h with
      | nilslice => exact .inl rfl
      | lst => exact .inr ⟨_, _, rfl⟩
  · cases hr with
    | imm _ _ h =>
      cases h with
      | nilslice => exact .inl rfl
      | lst => exact .inr ⟨_, _, rfl⟩
  · rename_i i m
    split at h
    · rename_i e sz' ys hb
      split at h
      · rename_i hn
        obtain ⟨g, hg, h1, hv⟩ := hr.gsl_own hI hb (Nat.eq_of_beq_eq_true hn)
        have hB := hI.batOk i
        rw [hb] at hB
        obtain ⟨_, _, _, cs, hown, _⟩ := hB.2 g hg
        rcases hown.2 with ⟨hv0, h0⟩ | ⟨g1, cap', cur, hv0, _⟩
        · rw [hv0] at hv; injection hv with _ _ e3; exact .inl e3
        · rw [hv0] at hv; injection hv with e1 _ _; exact .inr ⟨_, _, e1⟩
      · cases h
    · rename_i e sz' ys hb
      split at h
      · rename_i hn
        have := hr.gsl_at hI hb (Nat.eq_of_beq_eq_true hn)
        cases this with
        | imm _ _ h =>
          cases h with
          | nilslice => exact .inl rfl
          | lst => exact .inr ⟨_, _, rfl⟩
      · cases h
    · cases h
  · obtain ⟨c1, ccap, hc, hl, hcp, e⟩ := hr.slc_inv
    injection e with e1 _ _; exact .inr ⟨_, _, e1⟩
  · rename_i i m o z len cp
    split at h
    · rename_i e sz' ys hb
      split at h
      · rename_i hn
        simp only [Bool.and_eq_true] at hn
        obtain ⟨c1, l, lcap, ccap, hg, hl, hcp, e⟩ := hr.oslc_inv hI hb (Nat.eq_of_beq_eq_true hn.1.1)
        injection e with e1 _ _; exact .inr ⟨_, _, e1⟩
      · cases h
    · cases h
  · cases h

/-- The part [l:h:m] of a slice. -/
def cutAV (look : Nat → Blk) (v : AV) (xs : List AV) (cap : Option Nat) (l h : Nat) (mo : Option Nat) : Option AV :=
  match Nat.ble h l with
  | true => match mo, cap with
    | some m, _ => some (.lst (Nat.beq m l) [])
    | none, some c => some (.lst (Nat.beq c l) [])
    | none, none => some (.lst false [])
  | false => match v with
    | .lst ex _ => some (.lst (match mo with | some m => Nat.beq m h | none => ex && Nat.beq h xs.length) ((xs.drop l).take (h - l)))
    | .gsl i n => match look i with
      | .own _ sz _ => match Nat.beq l 0 && Nat.beq h n && mo.isNone with
        | true => some (.gsl i n)
        | false => some (.oslc i n l sz (h - l) (mo.map fun m => m - l))
      | _ => none
    | .slc i o sz _ cp => some (.slc i (o + l) sz (h - l) (match mo with | some m => some (m - l) | none => cp.map fun c => c - l))
    | .oslc i n o sz _ cp => some (.oslc i n (o + l) sz (h - l) (match mo with | some m => some (m - l) | none => cp.map fun c => c - l))
    | _ => none

theorem cut_ok {G : Ghost} {bs : List Blk} {w : World} (hI : Inv G bs w) {size : Nat} {v r : AV} {xs : List AV} {cap mo : Option Nat} {b : Option Addr} {c l h m : Nat} (hs0 : 0 < size) (he : elems (bat bs) v = some (xs, cap)) (hsz : Sized size xs) (hr : R G v (.slice b xs.length c))
    (hcap : ∀ k, cap = some k → c = k) (hm : (mo = none ∧ m = c) ∨ mo = some m) (h1 : l ≤ h) (h2 : h ≤ m) (h3 : m ≤ c) (h4 : h ≤ xs.length) (hc : cutAV (bat bs) v xs cap l h mo = some r) :
    R G r (.slice (if m = l then b else b.map (·.add (l * size))) (h - l) (m - l)) := by
  have empty : ∀ ex, h ≤ l → (ex = true → m = l) → R G (.lst ex []) (.slice (if m = l then b else b.map (·.add (l * size))) (h - l) (m - l)) := fun ex hle hex => by
    have e0 : h - l = 0 := by omega
    rw [e0]
    by_cases hml : m = l
    · have : m - l = 0 := by omega
      rw [this]
      exact .imm _ _ (.nilslice ex _)
    · rw [if_neg hml]
      have hex' : ex = false := by cases ex with | false => rfl | true => exact absurd (hex rfl) hml
      subst hex'
      rcases slice_base hI he hr with hc0 | ⟨c0, o0, rfl⟩
      · omega
      · simp only [Option.map_some, addr_add]
        exact .imm _ _ (.lst false [] size c0 (o0 + l * size) (m - l) (by simp) (by simp) (by simp) (Nat.zero_le _) (by simp))
  unfold cutAV at hc
  split at hc
  · rename_i hle
    have hle := Nat.le_of_ble_eq_true hle
    split at hc
    · rename_i m'
      obtain rfl := Option.some.inj hc
      rcases hm with ⟨e, _⟩ | e
      · cases e
      · obtain rfl := Option.some.inj e
        exact empty _ hle fun h => Nat.eq_of_beq_eq_true h
    · rename_i k
      obtain rfl := Option.some.inj hc
      rcases hm with ⟨_, e⟩ | e
      · exact empty _ hle fun h => by rw [e, hcap _ rfl]; exact Nat.eq_of_beq_eq_true h
      · cases e
    · obtain rfl := Option.some.inj hc
      exact empty _ hle (by simp)
  · rename_i hle
    have hlt : l < h := by
      rcases Nat.lt_or_ge l h with h' | h'
      · exact h'
      · rw [Nat.ble_eq_true_of_le h'] at hle; cases hle
    have hml : ¬ m = l := by omega
    rw [if_neg hml]
    have hxl : xs ≠ [] := fun e => by rw [e] at h4; simp at h4; omega
    have sub : ∀ ex ex', R G (.lst ex xs) (.slice b xs.length c) → (ex' = true → m = h) → R G (.lst ex' ((xs.drop l).take (h - l))) (.slice (b.map (·.add (l * size))) (h - l) (m - l)) := fun ex ex' hr hex => by
      cases hr with
      | imm _ _ hr =>
        cases hr with
        | nilslice => exact absurd rfl hxl
        | lst _ _ sz c0 o0 _ hel hz hd hcp hx =>
          have hss : sz = size := by
            have h0 : xs[0]? = some (xs[0]'(by omega)) := List.getElem?_eq_getElem _
            rw [← hel 0 _ h0]; exact (sized_get hsz 0 _ h0).1
          subst hss
          simp only [Option.map_some, addr_add]
          have hlen : ((xs.drop l).take (h - l)).length = h - l := by simp; omega
          have get : ∀ (j : Nat) (x : AV), ((xs.drop l).take (h - l))[j]? = some x → xs[l + j]? = some x := fun j x e => by
            rw [List.getElem?_take] at e
            split at e
            · rwa [List.getElem?_drop] at e
            · cases e
          have := RI.lst (Z := G.Z) ex' ((xs.drop l).take (h - l)) sz c0 (o0 + l * sz) (m - l) (fun j x e => hel _ x (get j x e)) (fun j x q v cv e1 e2 e3 => hz _ x q v cv (get j x e1) e2 (by rw [Nat.add_mul]; rw [show o0 + l * sz + j * sz + q = o0 + (l * sz + j * sz) + q by omega] at e3; exact e3))
            (fun j q hj hq => by
              rw [hlen] at hj
              obtain ⟨cv, e⟩ := hd (l + j) q (by omega) hq
              exact ⟨cv, by rw [show o0 + l * sz + j * sz + q = o0 + (l + j) * sz + q by rw [Nat.add_mul]; omega]; exact e⟩) (by rw [hlen]; omega) (fun e => by rw [hlen]; have := hex e; omega)
          rw [hlen] at this
          exact .imm _ _ this
    split at hc
    · rename_i ex ys
      have hxs : ys = xs := by
        cases ex <;> (simp only [elems, Option.some.injEq, Prod.mk.injEq] at he; exact he.1)
      subst hxs
      obtain rfl := Option.some.inj hc
      refine sub ex _ hr fun e => ?_
      split at e
      · rename_i m'
        rcases hm with ⟨e', _⟩ | e'
        · cases e'
        · obtain rfl := Option.some.inj e'; exact Nat.eq_of_beq_eq_true e
      · simp only [Bool.and_eq_true] at e
        obtain ⟨e1, e2⟩ := e
        subst e1
        rcases hm with ⟨_, e'⟩ | e'
        · simp only [elems, Option.some.injEq, Prod.mk.injEq] at he
          rw [e', hcap _ he.2.symm]; exact (Nat.eq_of_beq_eq_true e2).symm
        · cases e'
    · rename_i i n
      simp only [elems] at he
      split at hc
      · rename_i e sz ys hb
        rw [hb] at he
        simp only at he
        split at he
        · rename_i hn
          have hn := Nat.eq_of_beq_eq_true hn
          obtain ⟨rfl, _⟩ := Prod.mk.inj (Option.some.inj he)
          obtain ⟨g, hg, hgn, hv⟩ := hr.gsl_own hI hb hn
          have hB := hI.batOk i
          rw [hb] at hB
          obtain ⟨_, _, hcl, cs, hown, _⟩ := hB.2 g hg
          rcases hown.2 with ⟨hv0, h0⟩ | ⟨g1, cap', cur, hv0, _⟩
          · omega
          · rw [hv0] at hv
            injection hv with e1 e2 e3
            subst e1 e3
            split at hc
            · rename_i hfull
              obtain rfl := Option.some.inj hc
              simp only [Bool.and_eq_true] at hfull
              obtain ⟨⟨f1, f2⟩, f3⟩ := hfull
              have f1 := Nat.eq_of_beq_eq_true f1
              have f2 := Nat.eq_of_beq_eq_true f2
              subst f1 f2
              rcases hm with ⟨_, e'⟩ | e'
              · subst e'
                simp only [Option.map_some, addr_add, Nat.zero_mul, Nat.sub_zero, Nat.add_zero]
                rw [hn]
                exact hn ▸ hr
              · rw [e'] at f3; cases f3
            · obtain rfl := Option.some.inj hc
              have hss : sz = size := by
                have h0 : ys[0]? = some (ys[0]'(by omega)) := List.getElem?_eq_getElem _
                rw [← hcl 0 _ h0]; exact (sized_get hsz 0 _ h0).1
              subst hss
              simp only [Option.map_some, addr_add, Nat.zero_add]
              refine .oslc i n l sz (h - l) _ g1 ys.length _ (m - l) (by rw [hg, ← hv0, ← hgn]) (by omega) fun k hk => ?_
              rcases hm with ⟨e', _⟩ | e'
              · rw [e'] at hk; cases hk
              · rw [e'] at hk; simpa using hk
        · cases he
      · cases hc
    · rename_i i o sz len cp
      obtain rfl := Option.some.inj hc
      obtain ⟨c1, ccap, hcl, hl, hcp, e⟩ := hr.slc_inv
      injection e with e1 e2 e3
      subst e1 e3
      simp only [elems] at he
      split at he
      · rename_i sz' ys hb
        split at he
        · rename_i hn
          simp only [Bool.and_eq_true] at hn
          obtain ⟨f1, f2⟩ := Prod.mk.inj (Option.some.inj he)
          obtain ⟨arr, e, q1, q2, q3, q4, q5, q6⟩ := inv_rows hI hb hcl
          have hss : sz = size := by
            obtain ⟨x0, h0⟩ : ∃ x0, xs[0]? = some x0 := ⟨_, List.getElem?_eq_getElem (by omega)⟩
            have h00 := h0
            rw [← f1, List.getElem?_take] at h00
            split at h00
            · rw [List.getElem?_drop] at h00
              rw [Nat.eq_of_beq_eq_true hn.1, ← q6 _ _ h00]; exact (sized_get hsz 0 _ h0).1
            · cases h00
          subst hss
          simp only [Option.map_some, addr_add]
          rw [← Nat.add_mul]
          refine .slc i (o + l) sz (h - l) _ c1 (m - l) hcl (by omega) fun k hk => ?_
          split at hk
          · rename_i m'
            rcases hm with ⟨e', _⟩ | e'
            · cases e'
            · obtain rfl := Option.some.inj e'; simpa using hk
          · rcases hm with ⟨_, e'⟩ | e'
            · rw [Option.map_eq_some_iff] at hk
              obtain ⟨c', hk1, hk2⟩ := hk
              rw [e', hcp _ hk1]; exact hk2
            · cases e'
        · cases he
      · cases he
    · rename_i i n o sz len cp
      obtain rfl := Option.some.inj hc
      simp only [elems] at he
      split at he
      · rename_i e0 sz' ys hb
        split at he
        · rename_i hn
          simp only [Bool.and_eq_true] at hn
          obtain ⟨f1, f2⟩ := Prod.mk.inj (Option.some.inj he)
          obtain ⟨c1, ll, lcap, ccap, hg, hl, hcp, e⟩ := hr.oslc_inv hI hb (Nat.eq_of_beq_eq_true hn.1.1)
          injection e with e1 e2 e3
          subst e1 e3
          obtain ⟨p1, p2, p3, p4, p5, _⟩ := inv_own hI hb hg
          have hss : sz = size := by
            obtain ⟨x0, h0⟩ : ∃ x0, xs[0]? = some x0 := ⟨_, List.getElem?_eq_getElem (by omega)⟩
            have h00 := h0
            rw [← f1, List.getElem?_take] at h00
            split at h00
            · rw [List.getElem?_drop] at h00
              rw [Nat.eq_of_beq_eq_true hn.1.2, ← p5 _ _ h00]; exact (sized_get hsz 0 _ h0).1
            · cases h00
          subst hss
          simp only [Option.map_some, addr_add]
          rw [← Nat.add_mul]
          refine .oslc i n (o + l) sz (h - l) _ c1 ll lcap (m - l) hg (by omega) fun k hk => ?_
          split at hk
          · rename_i m'
            rcases hm with ⟨e', _⟩ | e'
            · cases e'
            · obtain rfl := Option.some.inj e'; simpa using hk
          · rcases hm with ⟨_, e'⟩ | e'
            · rw [Option.map_eq_some_iff] at hk
              obtain ⟨c', hk1, hk2⟩ := hk
              rw [e', hcp _ hk1]; exact hk2
            · cases e'
        · cases he
      · cases he
    · cases hc

/-- A bound's operand. -/
def bndA (env : Env) (d : Nat) : Option Operand → Option Nat
  | none => some d
  | some x => match ev env x with
    | some (.int _ n) => match decide (0 ≤ n) with
      | true => some n.toNat
      | false => none
    | _ => none

theorem bndA_ok {G : Ghost} {env : Env} {a : Act} (hE : EnvR G env a.tmps) {d n : Nat} {oo : Option Operand} (h : bndA env d oo = some n) : Bnd (oo.map a.eval) d n := by
  cases oo with
  | none => exact .none rfl (Option.some.inj h).symm
  | some x =>
    simp only [bndA] at h
    split at h
    · rename_i k m hx
      split at h
      · rename_i h0
        have h0 := of_decide_eq_true h0
        obtain rfl := Option.some.inj h
        refine .some k ?_
        rw [Option.map_some, (ev_r hE hx).int_inv, Int.toNat_of_nonneg h0]
      · cases h
    · cases h

theorem op_slice {P : Program} {o : Oper} {s : St} {t e : TypeId} {x : Operand} {lo hi mx : Option Operand} {size bytes : Nat} {z : Value} {d : TypeDesc} {xv r : AV} {xs : List AV} {cap : Option Nat} {l h : Nat} (mo : Option Nat) (ht : P.underlying t = some (.slice e)) (he : Inf P e size bytes z d) (hs0 : 0 < size)
    (ho : o.op = .slice t x lo hi mx) (hx : ev s.env x = some xv) (hxe : elems (bat s.bs) xv = some (xs, cap)) (hxs : Sized size xs) (hl : bndA s.env 0 lo = some l) (hh : bndA s.env xs.length hi = some h) (hxm : hi = none → mx = none)
    (hm : (mx = none ∧ mo = none) ∨ ∃ m, bndA s.env 0 mx = some m ∧ mx ≠ none ∧ mo = some m ∧ h ≤ m ∧ (m ≤ xs.length ∨ ∃ c, cap = some c ∧ m ≤ c)) (h1 : l ≤ h) (h2 : h ≤ xs.length) (hc : cutAV (bat s.bs) xv xs cap l h mo = some r) : OpT P o s r s.bs :=
  op_pure fun G w a hI hE => by
    obtain ⟨b1, c1, hcx, hc1, hcap, _⟩ := elems_reads hI hs0 hxe hxs (ev_r hE hx)
    have hr := ev_r hE hx
    rw [hcx] at hr
    obtain ⟨m, hmb, hmo, hhm, hmc⟩ : ∃ m, Bnd (mx.map a.eval) c1 m ∧ ((mo = none ∧ m = c1) ∨ mo = some m) ∧ h ≤ m ∧ m ≤ c1 := by
      rcases hm with ⟨e1, e2⟩ | ⟨m, e1, e2, e3, e4, e5⟩
      · subst e1; exact ⟨c1, .none rfl rfl, .inl ⟨e2, rfl⟩, by omega, Nat.le_refl _⟩
      · refine ⟨m, ?_, .inr e3, e4, ?_⟩
        · cases bndA_ok hE e1 with
          | none h _ => cases mx with | none => exact absurd rfl e2 | some _ => cases h
          | some k h => exact .some k h
        · rcases e5 with e5 | ⟨c, e5, e6⟩
          · omega
          · have := hcap c e5; omega
    have hrun := run_slice (P := P) (w := w) ht he b1 (bndA_ok hE hl) (bndA_ok hE hh) hmb (fun e => by
      cases hi with
      | none => rw [hxm rfl]; rfl
      | some _ => cases e) h1 hhm hmc
    refine ⟨_, ?_, cut_ok hI hs0 hxe hxs hr hcap hmo h1 hhm hmc h2 hc⟩
    have hne : ∀ n e', P.underlying t ≠ some (.array n e') := fun n e' e => by rw [ht] at e; cases e
    simp only [execOp, ho, Instr.sliceAt, run_underlying ht, Sem.run_bind, Result.andThen_ok, hcx, hrun, Sem.run_pure]

end
end Go.Proofs.YtelgmdljcbkniaaGreatDoor.Ai

/- An interpreter of values for the model's code, base text 29: calls over the caller's own store; rounds; the range over a function. -/
namespace Go.Proofs.YtelgmdljcbkniaaGreatDoor.Ai
noncomputable section
open Go
set_option linter.unusedVariables false

/-- A call over the caller's own store. -/
theorem op_callI {P : Program} {o : Oper} {s : St} {x : Operand} {xs : List Operand} {ts : Array TypeId} {f : FuncId} {cap vs : List AV} {v : AV} {bs' : List Blk}
    (ho : o.op = .call { callee := .value x, args := xs.toArray, argTypes := ts }) (hx : ev s.env x = some (.fn f cap)) (hv : evs s.env xs = some vs) (hF : F P f (vs ++ cap) s.bs v bs') : OpT P o s v bs' := by
  refine OpT.of (by simp [ho]) ?_
  intro G w a hI hE K Q hK
  obtain ⟨cc, hfe, hcl, hcr⟩ := (ev_r hE hx).fn_inv
  obtain ⟨hal, har⟩ := evs_map hE hv
  obtain ⟨hbl, hbr⟩ := r_append hal hcl har hcr
  unfold Oper.wp execOp
  simp only [ho, resolve, invoke, hfe, Deferred.ofValue, Sem.run_bind, Sem.run_pure, Result.andThen_ok, Array.empty_append, hF.en _ w, Oper.upon]
  refine (hF.ok G w _ (vs ++ cap) s.bs v bs' hI ⟨hbl, hbr⟩ ⟨rfl, rfl, rfl, rfl⟩).mono fun e w' ⟨cv, G', he, hA⟩ => ?_
  subst he
  exact hK cv w' G' hA

/-! ### loops over functions -/

theorem R.yld_inv {G : Ghost} {i : Nat} {cv : Value} (h : R G (.yld i) cv) : ∃ c, G.cl i = some c ∧ cv = .func (.yield c) #[] #[] := by
  cases h with
  | imm _ _ h => cases h
  | yld _ c h => exact ⟨c, h, rfl⟩

/-- A loop's record where it lies. -/
theorem inv_lp {G : Ghost} {bs : List Blk} {w : World} (hI : Inv G bs w) {i n l : Nat} {env : Env} {ps : Array Tmp} {as cd : Code} {st : LoopState} {pe : Option Code} (hb : bat bs i = .lp n env ps as cd st pe) (hc : G.cl i = some l) :
    G.gr i = none ∧ ∃ rec : Loop, w.heap[l]? = some (.loop rec) ∧ rec.state = st ∧ rec.pending = pe ∧ rec.params = ps ∧ rec.assign = as ∧ rec.body = cd ∧
      rec.tmps.size = n ∧ EnvR G env rec.tmps ∧ ∀ o, G.Z l o = none := by
  have h := hI.batOk i
  rw [hb] at h
  exact ⟨h.1, h.2 l hc⟩

theorem after_lp {G : Ghost} {bs : List Blk} {w : World} (hI : Inv G bs w) {i n l : Nat} {env : Env} {ps : Array Tmp} {as cd : Code} {st : LoopState} {pe : Option Code} (hb : bat bs i = .lp n env ps as cd st pe) (hc : G.cl i = some l) {rec : Loop}
    (hh : w.heap[l]? = some (.loop rec)) (st' : LoopState) (pe' : Option Code) :
    Inv G (bset bs i (.lp n env ps as cd st' pe')) (w.putObj l (.loop { rec with state := st', pending := pe' })) ∧ Ev G w G (w.putObj l (.loop { rec with state := st', pending := pe' })) := by
  obtain ⟨hgr, rec0, h0, h1, h2, h3, h4, h5, h6, h7, h8⟩ := inv_lp hI hb hc
  rw [hh] at h0
  obtain rfl : rec = rec0 := by injection h0 with h; injection h
  have hlt : l < w.heap.size := (Array.getElem?_eq_some_iff.1 hh).1
  have hf : ∀ d, d ≠ l → (w.putObj l (.loop { rec with state := st', pending := pe' })).heap[d]? = w.heap[d]? := fun d hd => World.putObj_heap_other hd
  refine ⟨hI.turn _ (fun _ _ => rfl) (fun _ _ => rfl) (.refl _) (fun d hd hno => hf d (fun e0 => hno (e0 ▸ .inl hc))) (fun _ _ _ _ _ => rfl) (fun d q v ez => ?_) ?_ (fun d hd => .inr hd),
    ⟨rfl, rfl, rfl, by simp [World.putObj_size], .refl _, fun _ _ _ e => .inl e, fun d hd hn => hf d (fun e => hn i (e ▸ .inl hc)), fun j d hd => .inr ⟨j, hd⟩, fun d r e => ?_⟩⟩
  · have hd : d ≠ l := fun e0 => by rw [e0, h8 q] at ez; cases ez
    rw [rd_of_frame (hf d hd)]; exact hI.z d q v ez
  · refine ⟨hgr, fun c hc' => ?_⟩
    rw [hc] at hc'
    obtain rfl := Option.some.inj hc'
    exact ⟨_, World.putObj_heap_same hlt, rfl, rfl, h3, h4, h5, h6, h7, h8⟩
  · by_cases e0 : d = l
    · subst e0; exact ⟨_, World.putObj_heap_same hlt⟩
    · exact ⟨r, (hf d e0).trans e⟩

/-- A loop's record is laid. -/
theorem after_loop {G : Ghost} {bs : List Blk} {w : World} (hI : Inv G bs w) {k : Nat} (hk : bat bs k = .gone) {env : Env} (rec : Loop) (hE : EnvR G env rec.tmps) :
    ∃ G', Inv G' (bset bs k (.lp rec.tmps.size env rec.params rec.assign rec.body rec.state rec.pending)) (w.alloc (.loop rec)) ∧ G.le G' ∧ Ev G w G' (w.alloc (.loop rec)) ∧ G'.cl k = some w.heap.size ∧ ∀ i, i ≠ k → G'.cl i = G.cl i ∧ G'.gr i = G.gr i := by
  have hg0 := hI.batOk k
  rw [hk] at hg0
  let G' : Ghost := { G with cl := fun i => if i = k then some w.heap.size else G.cl i }
  have hcl : G'.cl k = some w.heap.size := by simp [G']
  have hne : ∀ i, i ≠ k → G'.cl i = G.cl i := fun i hi => by simp [G', hi]
  have hle : G.le G' := ⟨fun i c e => by
    by_cases hi : i = k
    · subst hi; rw [hg0.1] at e; cases e
    · rw [hne i hi]; exact e, fun i g e => ⟨g, e, .inl rfl⟩, .refl _⟩
  have hf : ∀ c, c < w.heap.size → (w.alloc (.loop rec)).heap[c]? = w.heap[c]? := fun c hc => heap_alloc_old w _ c hc
  have hown : ∀ c, G'.owns k c → c = w.heap.size := fun c hc => by
    rcases hc with hc | ⟨g, hg, _⟩
    · rw [hcl] at hc; exact (Option.some.inj hc).symm
    · rw [show G'.gr k = none from hg0.2] at hg; cases hg
  have hnone : ∀ o, G.Z w.heap.size o = none := fun o => by
    cases hz : G.Z w.heap.size o with
    | none => rfl
    | some v => have := hI.z_lt hz; omega
  refine ⟨G', hI.turn (G' := G') (k := k) _ hne (fun _ _ => rfl) hle (fun c hc _ => hf c hc) (fun _ _ _ _ _ => rfl) (fun c o v ez => ?_) ⟨hg0.2, fun c hc => ?_⟩ (fun c hc => .inl (by rw [hown c hc]; exact Nat.le_refl _)), hle,
    ⟨rfl, rfl, rfl, by simp, .refl _, fun _ _ _ e => .inl e, fun c hc _ => hf c hc, fun i c hc => ?_, loop_of_same fun c hc => .inl (hf c hc)⟩, hcl, fun i hi => ⟨hne i hi, rfl⟩⟩
  · rw [rd_of_frame (hf c (hI.z_lt ez))]; exact hI.z c o v ez
  · rw [hcl] at hc
    obtain rfl := Option.some.inj hc
    exact ⟨rec, heap_alloc_new w _, rfl, rfl, rfl, rfl, rfl, rfl, hE.mono hle, hnone⟩
  · by_cases hi : i = k
    · subst hi; rw [hown c hc]; exact .inl (Nat.le_refl _)
    · exact .inr ⟨i, by unfold Ghost.owns at hc ⊢; rw [hne i hi] at hc; exact hc⟩

/-- The loop's variables get what is yielded. -/
def parE : List Nat → List AV → Env → Env
  | p :: ps, v :: vs, env => parE ps vs ((p, v) :: env)
  | _, _, env => env

theorem parE_r {G : Ghost} : ∀ {ps : List Nat} {vs : List AV} {cvs : List Value} {env : Env} {tmps : Array Value}, EnvR G env tmps → vs.length = ps.length → cvs.length = ps.length → (∀ (j : Nat) v c, vs[j]? = some v → cvs[j]? = some c → R G v c) → (∀ p ∈ ps, p < tmps.size) →
    EnvR G (parE ps vs env) ((ps.zip cvs).foldl (fun tmps (t, a) => tmps.setIfInBounds t a) tmps) ∧ ((ps.zip cvs).foldl (fun tmps (t, a) => tmps.setIfInBounds t a) tmps).size = tmps.size
  | [], [], [], env, tmps, hE, _, _, _, _ => ⟨hE, rfl⟩
  | p :: ps, v :: vs, c :: cvs, env, tmps, hE, h1, h2, hr, hp => by
    have := parE_r (ps := ps) (vs := vs) (cvs := cvs) (env := (p, v) :: env) (tmps := tmps.setIfInBounds p c) (hE.put (hp p (by simp)) (hr 0 v c rfl rfl)) (by simpa using h1) (by simpa using h2) (fun j u d e1 e2 => hr (j + 1) u d (by simpa using e1) (by simpa using e2)) (fun q hq => by simpa using hp q (by simp [hq]))
    simp only [parE, List.zip_cons_cons, List.foldl_cons]
    exact ⟨this.1, by rw [this.2]; simp⟩
  | [], _ :: _, _, _, _, _, h, _, _, _ => by simp at h
  | [], [], _ :: _, _, _, _, _, h, _, _ => by simp at h
  | _ :: _, [], _, _, _, _, h, _, _, _ => by simp at h
  | _ :: _, _ :: _, [], _, _, _, _, h, _, _ => by simp at h

/-- What jump a round leaves. -/
def jumpOf : Exit → Option (Option Code)
  | .normal => some none
  | .ret => some (some .ret)
  | .exit id => some (some (.exit id))
  | _ => none

/-- A call of yield: one round of the loop. -/
theorem op_yield {P : Program} {o : Oper} {s : St} {x : Operand} {xs : List Operand} {ts : Array TypeId} {i n : Nat} {env : Env} {ps : List Nat} {as cd : Code} {vs : List AV} {b : Bool} {bs' : List Blk}
    (ho : o.op = .call { callee := .value x, args := xs.toArray, argTypes := ts }) (hx : ev s.env x = some (.yld i)) (hv : evs s.env xs = some vs) (hb : bat s.bs i = .lp n env ps.toArray as cd .ready none) (hl : vs.length = ps.length) (hp : ∀ p ∈ ps, p < n)
    (hT : T P n s.bs.length as ⟨parE ps vs env, s.bs⟩ fun e s1 => e = .normal ∧ bat s1.bs i = .lp n env ps.toArray as cd .ready none ∧ T P n s.bs.length cd ⟨s1.env, bset s1.bs i (.lp n env ps.toArray as cd .busy none)⟩ fun e2 s2 =>
      bat s2.bs i = .lp n env ps.toArray as cd .busy none ∧ ∃ j, jumpOf e2 = some j ∧ b = j.isNone ∧ bs' = bset s2.bs i (.lp n env ps.toArray as cd (if j.isNone then .ready else .done) j)) : OpT P o s (.bool b) bs' := by
  intro r G w a hI hE K Q hK
  obtain ⟨l, hc, hfe⟩ := (ev_r hE hx).yld_inv
  obtain ⟨hal, har⟩ := evs_map hE hv
  obtain ⟨hgr, rec, hh, h1, h2, h3, h4, h5, h6, h7, h8⟩ := inv_lp hI hb hc
  refine ⟨fun _ _ => trivial, ?_⟩
  rw [Oper.semAt_eq _ _ _ (by simp [ho])]
  have hrun : (execOp a.eval o).run P w = .ok (.round l rec.fn ((rec.params.zip (xs.toArray.map a.eval)).foldl (fun tmps (t, a) => tmps.setIfInBounds t a) rec.tmps) rec.assign rec.body) w := by
    unfold execOp
    simp only [ho, resolve, hfe, Deferred.ofValue, Sem.run_bind, Sem.run_pure, Result.andThen_ok, Array.empty_append, invoke]
    exact run_yield hh (by rw [h3]; simp [← hl] at hal ⊢; omega)
  rw [hrun, Oper.uponIn_round]
  refine ⟨fun h => by simp [Wd, Fence.wide] at h, roundIn_of_wpIn trivial ?_⟩
  have hpz : ((rec.params.zip (xs.toArray.map a.eval)).foldl (fun tmps (t, a) => tmps.setIfInBounds t a) rec.tmps) = ((ps.zip (xs.map a.eval)).foldl (fun tmps (t, a) => tmps.setIfInBounds t a) rec.tmps) := by
    rw [h3]
    simp
  obtain ⟨hE2, hsz2⟩ := parE_r (G := G) (ps := ps) (vs := vs) (cvs := xs.map a.eval) h7 hl (by rw [List.length_map, ← hl]; simpa using hal) (fun j v c e1 e2 => har j v c e1 (by simpa using e2)) (by rw [h6]; exact hp)
  rw [hpz, h4, h5]
  have hH : Holds n (protOf s.bs.length G w hI.dom) (some l) ⟨parE ps vs env, s.bs⟩ { tmps := (ps.zip (xs.map a.eval)).foldl (fun tmps (t, a) => tmps.setIfInBounds t a) rec.tmps, defers := [] } w :=
    ⟨⟨G, hE2, hI, ⟨.refl _, .refl _ _⟩, ⟨⟨[], rfl, .nil, by simp⟩, fun l' h => by obtain rfl := Option.some.inj h; exact ⟨rec, hh⟩⟩⟩, hsz2.trans h6⟩
  refine wpIn_mono (hT _ (some l) _ w hH) fun e a1 w1 ⟨s1, ⟨he, hb1, hT2⟩, H1⟩ => ?_
  subst he
  obtain ⟨G1, hE1, hI1, hX1, ha1⟩ := H1.st
  have hc1 := hX1.1.cl i l hc
  obtain ⟨_, rec1, hh1, g1, g2, g3, g4, g5, g6, g7, g8⟩ := inv_lp hI1 hb1 hc1
  have hbr := run_beginRound (P := P) hh1 g1
  obtain ⟨hI2, hev2⟩ := after_lp hI1 hb1 hc1 hh1 .busy none
  have hpend : ({ rec1 with state := .busy } : Loop) = { rec1 with state := .busy, pending := none } := by
    cases rec1; simp only [Loop.mk.injEq, true_and, and_true] at g2 ⊢; exact g2
  rw [hpend] at hbr
  refine ⟨_, hbr, ?_⟩
  have hX2 := (protOf s.bs.length G w hI.dom).le hX1 hev2 (.refl _)
  refine wpIn_mono (hT2 _ (some l) a1 _ ⟨⟨G1, hE1, hI2, hX2, ha1.ev hev2⟩, H1.sz⟩) fun e2 a2 w2 ⟨s2, ⟨hb2, j, hj, hbj, hbs⟩, H2⟩ => ?_
  obtain ⟨G2, hE3, hI3, hX3, ha3⟩ := H2.st
  have hc2 := hX3.1.cl i l hc
  obtain ⟨_, rec2, hh2, _⟩ := inv_lp hI3 hb2 hc2
  obtain ⟨hI4, hev4⟩ := after_lp hI3 hb2 hc2 hh2 (if j.isNone then .ready else .done) j
  have fin : K (a.put o.dst (.bool j.isNone)) (w2.putObj l (.loop { rec2 with state := if j.isNone then .ready else .done, pending := j })) := by
    refine hK _ _ G2 ⟨?_, hbs ▸ hI4, hX3.1, hX3.2.trans hev4⟩
    rw [hbj]; exact .imm _ _ (.bool _)
  cases e2 with
  | normal => obtain rfl := Option.some.inj hj; exact ⟨_, _, run_endRound (P := P) none hh2, fin⟩
  | ret => obtain rfl := Option.some.inj hj; exact ⟨_, _, run_endRound (P := P) (some .ret) hh2, fin⟩
  | exit id => obtain rfl := Option.some.inj hj; exact ⟨_, _, run_endRound (P := P) (some (.exit id)) hh2, fin⟩
  | goto t => cases hj
  | panic ch => cases hj
  | outgrown => cases hj

/-- Behind the loop. -/
def rangeEnd (P : Program) (n m : Nat) (pe : Option Code) (s : St) (Q : Exit → St → Prop) : Prop := match pe with
  | none => Q .normal s
  | some c => T P n m c s Q

/-- A range over a function. -/
theorem T_range {P : Program} {n m : Nat} {g : Operand} {ps : Array Tmp} {as cd : Code} {env : Env} {bs bs2 : List Blk} {Q : Exit → St → Prop} {f : Nat} {cap : List AV} {k : Nat} {v : AV} {st : LoopState} {pe : Option Code}
    (hg : ev env g = some (.fn f cap)) (hk : bat bs k = .gone) (hF : F P f (.yld k :: cap) (bset bs k (.lp n env ps as cd .ready none)) v bs2) (hb2 : bat bs2 k = .lp n env ps as cd st pe) (hst : st ≠ .busy)
    (hQ : rangeEnd P n m pe ⟨env, bset bs2 k (.lp n env ps as cd .exhausted pe)⟩ Q) : T P n m (.rangeFunc g ps as cd) ⟨env, bs⟩ Q := by
  intro X r a w H
  obtain ⟨G, hE, hI, hX, ha⟩ := H.st
  obtain ⟨cc, hfe, hcl, hcr⟩ := (ev_r hE hg).fn_inv
  refine wpIn_rangeFunc fun fn _ => ?_
  -- the record is laid
  obtain ⟨l, mrk, w1, G1, rec, henter, hrt, hrs, hrp, hrps, hras, hrcd, hI1, hle1, hev1, hcl1, hds⟩ : ∃ (l : Nat) (mrk : List Deferred) (w1 : World) (G1 : Ghost) (rec : Loop),
      (Instr.enterLoop fn a.tmps ps as cd (Wd r).round).run P w = .ok (l, mrk) w1 ∧ rec.tmps = a.tmps ∧ rec.state = .ready ∧ rec.pending = none ∧ rec.params = ps ∧ rec.assign = as ∧ rec.body = cd ∧
      Inv G1 (bset bs k (.lp n env ps as cd .ready none)) w1 ∧ G.le G1 ∧ Ev G w G1 w1 ∧ G1.cl k = some l ∧
      (∃ Ds : List Nat, mrk = Ds.map mark ∧ Ds.Nodup ∧ ∀ D ∈ Ds, w.heap.size ≤ D ∧ w1.heap[D]? = some (.deferred (some [])) ∧ ∀ i, ¬ G1.owns i D) := by
    cases r with
    | none =>
      let rc : Loop := { state := .ready, pending := none, fn, tmps := a.tmps, params := ps, assign := as, body := cd, defers := w.heap.size }
      have hI0 : Inv (G.setZ G.Z (.refl _)) bs (w.alloc (.deferred (some []))) := hI.later (by simp) (fun c hc => heap_alloc_old w _ c hc) (.refl _) (fun _ _ _ e => .inl e) fun c o v e => by rw [rd_of_frame (heap_alloc_old w _ c (hI.z_lt e))]; exact hI.z c o v e
      have hI0 : Inv G bs (w.alloc (.deferred (some []))) := hI0
      have hev0 : Ev G w G (w.alloc (.deferred (some []))) := ⟨rfl, rfl, rfl, by simp, .refl _, fun _ _ _ e => .inl e, fun c hc _ => heap_alloc_old w _ c hc, fun i c hc => .inr ⟨i, hc⟩, loop_of_same fun c hc => .inl (heap_alloc_old w _ c hc)⟩
      obtain ⟨G1, hI1, hle1, hev1, hc1, hne⟩ := after_loop hI0 hk rc (env := env) hE
      refine ⟨w.heap.size + 1, [mark w.heap.size], _, G1, rc, run_enterLoop_outer _ _ _ _ _, rfl, rfl, rfl, rfl, rfl, rfl, ?_, hle1, hev0.trans hev1, by simpa using hc1, [w.heap.size], rfl, by simp, fun D hD => ?_⟩
      · have : rc.tmps.size = n := H.sz
        rw [this] at hI1; exact hI1
      · obtain rfl : D = w.heap.size := by simpa using hD
        refine ⟨Nat.le_refl _, ?_, fun i hi => ?_⟩
        · rw [heap_alloc_old _ _ _ (by simp)]; exact heap_alloc_new w _
        · rcases hev1.own i _ hi with h | ⟨j, h⟩
          · rw [World.size_alloc] at h; omega
          · have := (hI.lt h).2; omega
    | some l0 =>
      obtain ⟨r0, hr0⟩ := ha.rk l0 rfl
      let rc : Loop := { state := .ready, pending := none, fn, tmps := a.tmps, params := ps, assign := as, body := cd, defers := r0.defers }
      obtain ⟨G1, hI1, hle1, hev1, hc1, hne⟩ := after_loop hI hk rc (env := env) hE
      refine ⟨w.heap.size, [], _, G1, rc, run_enterLoop_inner hr0 _ _ _ _ _, rfl, rfl, rfl, rfl, rfl, rfl, ?_, hle1, hev1, hc1, [], rfl, .nil, by simp⟩
      have : rc.tmps.size = n := H.sz
      rw [this] at hI1; exact hI1
  have hcargs : (#[.func (.yield l) #[] #[]] ++ cc : Array Value).size = (AV.yld k :: cap).length := by simp [hcl]; omega
  refine ⟨l, mrk, w1, { target := .fn (.func f) cc, args := #[.func (.yield l) #[] #[]] }, w1, f, #[.func (.yield l) #[] #[]] ++ cc, w1, henter, ?_, fun _ _ => trivial, ?_, fun h => by simp [Wd, Fence.wide] at h, ?_⟩
  · simp only [resolve, hfe, Deferred.ofValue]
    simp [go_sem, Act.eval]
  · simp only [invoke]
    exact hF.en _ w1
  · refine callsW ((hF.ok G1 w1 _ (.yld k :: cap) _ v bs2 hI1 ⟨hcargs, fun j u c e1 e2 => ?_⟩ ⟨rfl, rfl, rfl, rfl⟩).mono fun e w2 ⟨cv, G2, he, hA⟩ => ?_)
    · cases j with
      | zero => rw [Array.getElem?_append] at e2; simp at e1 e2; subst e1 e2; exact .yld k l hcl1
      | succ j =>
        refine (hcr j u c (by simpa using e1) ?_).mono hle1
        rw [Array.getElem?_append] at e2
        simpa using e2
    · subst he
      have hc2 := hA.le.cl k l hcl1
      obtain ⟨_, rec2, hh2, q1, q2, _⟩ := inv_lp hA.inv hb2 hc2
      obtain ⟨hI3, hev3⟩ := after_lp hA.inv hb2 hc2 hh2 .exhausted pe
      have hend := run_endLoop (P := P) hh2 (by rw [q1]; exact hst)
      have hpend : ({ rec2 with state := .exhausted } : Loop) = { rec2 with state := .exhausted, pending := pe } := by
        cases rec2; simp only [Loop.mk.injEq, true_and, and_true] at q2 ⊢; exact q2
      rw [hpend, q2] at hend
      refine ⟨pe, _, hend, ?_⟩
      have hX2 := X.le (X.le (X.le hX hev1 hle1) hA.ev hA.le) hev3 (.refl _)
      have hHf : Holds n X r ⟨env, bset bs2 k (.lp n env ps as cd .exhausted pe)⟩ { a with defers := mrk ++ a.defers } (w2.putObj l (.loop { rec2 with state := .exhausted, pending := pe })) := by
        refine ⟨⟨G2, (hE.mono hle1).mono hA.le, hI3, hX2, ?_⟩, H.sz⟩
        obtain ⟨Ds, d1, d2, d3⟩ := hds
        have ha1 : Aside X.Y r (mrk ++ a.defers) G1 w1 := by
          obtain ⟨⟨Es, e1, e2, e3⟩, hrk⟩ := ha.ev hev1
          refine ⟨⟨Ds ++ Es, by rw [d1, e1, List.map_append], List.nodup_append.2 ⟨d2, e2, fun D hD D' hD' e => ?_⟩, fun D hD => ?_⟩, hrk⟩
          · obtain ⟨⟨Es', e1', _, e3'⟩, _⟩ := ha
            have hEs : Es = Es' := by
              have h := e1.symm.trans e1'
              exact (List.map_inj_right fun x y h => by simpa [mark] using h).1 h
            subst hEs
            obtain ⟨_, h, _⟩ := e3' D' hD'
            have h1 := (Array.getElem?_eq_some_iff.1 h).1
            have h2 := (d3 D hD).1
            omega
          · rcases List.mem_append.1 hD with h | h
            · obtain ⟨f1, f2, f3⟩ := d3 D h
              exact ⟨X.fresh G w D hX f1, f2, f3⟩
            · exact e3 D h
        exact (ha1.ev hA.ev).ev hev3
      cases pe with
      | none => exact ⟨_, hQ, hHf⟩
      | some c => exact hQ X r _ _ hHf

end
end Go.Proofs.YtelgmdljcbkniaaGreatDoor.Ai

/- An interpreter of values for the model's code, base text 30: the operations as a function that reckons them (for runs on values that are known). -/
namespace Go.Proofs.YtelgmdljcbkniaaGreatDoor.Ai
noncomputable section
open Go
set_option linter.unusedVariables false

/-- A slice literal that is written later. -/
theorem op_bslice_r {P : Program} {o : Oper} {s : St} {t e : TypeId} {len k : Nat} {ps : List (Nat × Operand)} {avs : List AV} {size bytes : Nat} {z : Value} {d : TypeDesc}
    (ht : P.underlying t = some (.slice e)) (he : Inf P e size bytes z d) (ho : o.op = .buildSlice t len ps.toArray) (hps : ps = ((ps.map Prod.snd).zipIdx 0).map fun x => (x.2, x.1)) (hlen : (ps.map Prod.snd).length = len)
    (hs0 : 0 < size) (hl0 : 0 < len) (hsmall : len * size ≤ 16777216) (hv : evs s.env (ps.map Prod.snd) = some avs) (hd : szAll size avs = true) (hk : bat s.bs k = .gone) : OpT P o s (.slc k 0 size len (some len)) (bset s.bs k (.rows size avs)) := by
  refine OpT.of (by simp [ho]) ?_
  intro G w a hI hE K Q hK
  generalize ps.map Prod.snd = xs at hps hlen hv
  obtain ⟨ie, hie, hsz, _, hz⟩ := he.info
  obtain ⟨hl1, hr1⟩ := evs_r hE hv
  let cvs := xs.map a.eval
  have hcv : ∀ (j : Nat) x, avs[j]? = some x → ∃ c, cvs[j]? = some c ∧ R G x c := fun j x e => by
    have hj : j < xs.length := hl1 ▸ lt_of_get e
    exact ⟨a.eval xs[j], by simp [cvs, hj], hr1 j x _ e (by simp [hj])⟩
  have hcs : ∀ v ∈ cvs, v.cells.size = size := fun v hv => by
    obtain ⟨j, hj, rfl⟩ := List.getElem_of_mem hv
    have hj' : j < avs.length := by simp [cvs] at hj; omega
    obtain ⟨c, hc, hri⟩ := hcv j avs[j] (by simp [hj'])
    obtain ⟨g1, g2⟩ := szAll_get hd j avs[j] (by simp [hj'])
    have : cvs[j] = c := by rw [List.getElem?_eq_getElem hj] at hc; exact Option.some.inj hc
    rw [this, (hri.cells g2).1, g1]
  let cells : Array Value := (cvs.flatMap fun v => v.cells.toList).toArray
  have hsa : ∀ (j : Nat) (x : AV), avs[j]? = some x → x.cells.length = size := fun j x e => (szAll_get hd j x e).1
  have hcells : ∀ (j q : Nat) (x : AV) y, avs[j]? = some x → x.cells[q]? = some y → ∃ c, cells[j * size + q]? = some c ∧ R G y c := fun j q x y e1 e2 => by
    obtain ⟨c, hc, hri⟩ := hcv j x e1
    obtain ⟨g1, g2⟩ := szAll_get hd j x e1
    have hq : q < size := g1 ▸ lt_of_get e2
    have hqc : q < c.cells.size := by rw [(hri.cells g2).1, g1]; exact hq
    refine ⟨c.cells[q], ?_, (hri.cells g2).2.1 q y _ e2 (by simp [hqc])⟩
    have e : cells[j * size + q]? = (cvs.flatMap fun v => v.cells.toList)[j * size + q]? := by simp [cells]
    rw [e, Go.Great.flat_get hs0 cvs hcs (j * size + q)]
    have d1 : (j * size + q) / size = j := by
      rw [Nat.mul_comm, Nat.mul_add_div hs0, Nat.div_eq_of_lt hq, Nat.add_zero]
    have d2 : (j * size + q) % size = q := by
      rw [Nat.mul_comm, Nat.mul_add_mod, Nat.mod_eq_of_lt hq]
    rw [d1, d2, hc]
    simp [hqc]
  have hfill : Instr.fill (fun i => some (i * ie.size, ie.size)) ((Array.range (len * ie.size)).map (z.cells[· % z.cells.size]!)) (ps.toArray.map fun (i, x) => (i, a.eval x)).toList = some cells := by
    rw [hsz]
    have : (ps.toArray.map fun (i, x) => (i, a.eval x)).toList = (cvs.zipIdx 0).map fun x => (x.2, x.1) := by
      rw [hps]
      simp [cvs, List.zipIdx_map, Function.comp_def]
    rw [this]
    exact Go.Great.fill_whole hs0 cvs _ hcs (by simp [cvs, hlen])
  refine wp_buildSlice t e len ps.toArray ho cells ie z ht hie hz (by rw [hsz]; omega) (by rw [hsz]; exact Nat.mul_ne_zero (by omega) (by omega)) hfill ?_
  have hal : avs.length = len := hl1.trans hlen
  have hcl : ∀ l : List Value, (∀ v ∈ l, v.cells.size = size) → (l.flatMap fun v => v.cells.toList).length = l.length * size := by
    intro l
    induction l with
    | nil => simp
    | cons a r ih => intro h; simp [ih fun v hv => h v (by simp [hv]), h a (by simp), Nat.succ_mul]; omega
  have hsz' : cells.size = avs.length * size := by
    have := hcl cvs hcs
    simp only [cells, List.size_toArray, this]
    simp [cvs, hl1]
  obtain ⟨G', hI', hle, hev, hp⟩ := after_cells hI hk cells e (flat avs) (by rw [flat_len _ size hsa, hsz']; exact Nat.le_refl _) fun q u cu e1 e2 => by
    have hql : q < avs.length * size := by have := lt_of_get e1; rwa [flat_len _ size hsa] at this
    have hq1 : q % size < size := Nat.mod_lt _ hs0
    have hq2 : q / size < avs.length := Nat.div_lt_of_lt_mul (by rw [Nat.mul_comm]; exact hql)
    have hq0 : q = q / size * size + q % size := by have := Nat.div_add_mod q size; rw [Nat.mul_comm] at this; omega
    have hx : avs[q / size]? = some avs[q / size] := List.getElem?_eq_getElem hq2
    rw [hq0, flat_get _ size hsa _ _ _ hx hq1] at e1
    obtain ⟨c, h1, h2⟩ := hcells (q / size) (q % size) _ u hx e1
    rw [← hq0, e2] at h1
    exact (Option.some.inj h1) ▸ h2
  have hI'' : Inv G' (bset s.bs k (.rows size avs)) (w.alloc (.cells cells e)) := by
    refine .of_bat (fun i => ?_) hI'.inj hI'.z
    have h := hI'.batOk i
    rw [bat_bset] at h ⊢
    split at h
    · rename_i e0; rw [if_pos e0]
      exact ⟨h, hs0, fun x hx => by obtain ⟨j, hj, rfl⟩ := List.getElem_of_mem hx; exact hsa j _ (List.getElem?_eq_getElem hj)⟩
    · rename_i e0; rw [if_neg e0]; exact h
  refine hK (.slice (some ⟨w.heap.size, 0, none⟩) len len) _ G' ⟨?_, hI'', hle, hev⟩
  have := R.slc (G := G') k 0 size len (some len) w.heap.size len hp (Nat.le_refl _) (fun m hm => Option.some.inj hm)
  simpa using this

/-! ### a field of a struct that is at hand -/

theorem op_field {P : Program} {o : Oper} {s : St} {t : TypeId} {x : Operand} {fs : Array Field} {j : Nat} {f : Field} {cs : List AV} {v : AV} {size bytes : Nat} {z : Value} {d : TypeDesc} (ht : P.underlying t = some (.struct fs)) (hj : fs[j]? = some f) (he : Inf P f.type size bytes z d) (hd : isAggD d = false)
    (ho : o.op = .field t x j) (hx : ev s.env x = some (.agg cs)) (hv : cs[f.offset]? = some v) : OpT P o s v s.bs :=
  op_pure fun G w a hI hE => by
    obtain ⟨vs, hp, hl2, hr⟩ := (ev_r hE hx).agg_inv
    have hlt : f.offset < vs.size := by rw [hl2]; exact lt_of_get hv
    refine ⟨vs[f.offset], ?_, hr _ v _ hv (by simp [hlt])⟩
    have := run_part_one (w := w) he hd (cs := vs) (off := f.offset) (v := vs[f.offset]) (by simp [hlt])
    simp [execOp, ho, hp, Instr.field, run_underlying ht, hj, asAgg, this]

theorem op_field_agg {P : Program} {o : Oper} {s : St} {t : TypeId} {x : Operand} {fs : Array Field} {j : Nat} {f : Field} {cs ds : List AV} {size bytes : Nat} {z : Value} {d : TypeDesc} (ht : P.underlying t = some (.struct fs)) (hj : fs[j]? = some f) (he : Inf P f.type size bytes z d) (hd : isAggD d = true)
    (ho : o.op = .field t x j) (hx : ev s.env x = some (.agg cs)) (hs : f.offset + size ≤ cs.length) (hv : (cs.drop f.offset).take size = ds) : OpT P o s (.agg ds) s.bs :=
  op_pure fun G w a hI hE => by
    subst hv
    obtain ⟨vs, hp, hl2, hr⟩ := (ev_r hE hx).agg_inv
    have hpart : (part f.type vs f.offset).run P w = .ok (.agg (vs.extract f.offset (f.offset + size))) w := by simp [part, he.isAgg, hd, he.size]
    refine ⟨.agg (vs.extract f.offset (f.offset + size)), ?_, .agg _ _ ?_ fun j v cv e1 e2 => ?_⟩
    · simp [execOp, ho, hp, Instr.field, run_underlying ht, hj, asAgg, hpart]
    · simp; omega
    · rw [List.getElem?_take] at e1
      split at e1
      · rename_i hj
        rw [List.getElem?_drop] at e1
        refine hr _ v cv e1 ?_
        rw [Array.getElem?_extract] at e2
        split at e2
        · exact e2
        · cases e2
      · cases e1

/-! ### reckoning -/

def okI {α : Type} (c : Bool) (k : Option α) : Option α := match c with
  | true => k
  | false => none
theorem okI_inv {α : Type} {c : Bool} {k : Option α} {e : α} (h : okI c k = some e) : c = true ∧ k = some e := by
  cases c with
  | true => exact ⟨rfl, h⟩
  | false => cases h
theorem bi {α β : Type} {x : Option α} {f : α → Option β} {e : β} (h : x.bind f = some e) : ∃ v, x = some v ∧ f v = some e := by
  cases x with
  | none => cases h
  | some v => exact ⟨v, rfl, h⟩

/-- A number, reckoned. -/
def frN {α : Type} (n : Nat) (K : Nat → α) : α := match n with
  | 0 => K 0
  | m + 1 => K (m + 1)
theorem frN_eq {α : Type} (n : Nat) (K : Nat → α) : frN n K = K n := by cases n <;> rfl
def frI {α : Type} (n : Int) (K : Int → α) : α := match n with
  | .ofNat m => frN m fun m => K (.ofNat m)
  | .negSucc m => frN m fun m => K (.negSucc m)
theorem frI_eq {α : Type} (n : Int) (K : Int → α) : frI n K = K n := by cases n <;> simp only [frI, frN_eq]
def frV {α : Type} (v : AV) (K : AV → α) : α := match v with
  | .int k n => frI n fun n => K (.int k n)
  | .bool true => K (.bool true)
  | .bool false => K (.bool false)
  | v => K v
theorem frV_eq {α : Type} (v : AV) (K : AV → α) : frV v K = K v := by
  cases v <;> simp only [frV, frI_eq]
  rename_i b; cases b <;> rfl

def szB (size : Nat) : List AV → Bool := szAll size
theorem sized_of {size : Nat} {xs : List AV} (h : szAll size xs = true) : Sized size xs := fun y hy => by
  obtain ⟨j, hj⟩ := List.getElem?_of_mem hy
  exact szAll_get h j y hj

def consO (v : AV) (x : Option (List AV)) : Option (List AV) := Option.rec none (fun r => some (v :: r)) x
theorem consO_eq (v : AV) (x : Option (List AV)) : consO v x = x.map (v :: ·) := by cases x <;> rfl
def sets (cs : List AV) : Nat → List AV → Option (List AV) :=
  List.rec (fun o vs => Nat.rec (List.rec (some []) (fun _ _ _ => none) vs) (fun _ _ => none) o) (fun c r ih o vs => Nat.rec (List.rec (some (c :: r)) (fun v vs _ => consO v (ih 0 vs)) vs) (fun o _ => consO c (ih o vs)) o) cs
theorem sets_nil0 : sets [] 0 [] = some [] := rfl
theorem sets_zero (c : AV) (r : List AV) : sets (c :: r) 0 [] = some (c :: r) := rfl
theorem sets_cons (c : AV) (r : List AV) (v : AV) (vs : List AV) : sets (c :: r) 0 (v :: vs) = (sets r 0 vs).map (v :: ·) := consO_eq _ _
theorem sets_succ (c : AV) (r : List AV) (o : Nat) (vs : List AV) : sets (c :: r) (o + 1) vs = (sets r o vs).map (c :: ·) := consO_eq _ _
theorem sets_ok : ∀ {cs : List AV} {o : Nat} {vs cs' : List AV}, sets cs o vs = some cs' → o + vs.length ≤ cs.length ∧ cs' = cs.take o ++ vs ++ cs.drop (o + vs.length)
  | [], 0, [], cs', h => by
    rw [sets_nil0] at h; obtain rfl := Option.some.inj h; simp
  | c :: r, 0, [], cs', h => by
    rw [sets_zero] at h; obtain rfl := Option.some.inj h; simp
  | c :: r, 0, v :: vs, cs', h => by
    simp only [sets_cons, Option.map_eq_some_iff] at h
    obtain ⟨q, h, rfl⟩ := h
    obtain ⟨h1, h2⟩ := sets_ok h
    refine ⟨by simp at h1 ⊢; omega, ?_⟩
    rw [h2]; simp
  | c :: r, o + 1, vs, cs', h => by
    simp only [sets_succ, Option.map_eq_some_iff] at h
    obtain ⟨q, h, rfl⟩ := h
    obtain ⟨h1, h2⟩ := sets_ok h
    refine ⟨by simp at h1 ⊢; omega, ?_⟩
    rw [h2, show o + 1 + vs.length = (o + vs.length) + 1 by omega]; simp
  | [], 0, v :: vs, cs', h => by cases (show none = some cs' from h)
  | [], o + 1, vs, cs', h => by cases (show none = some cs' from h)

/-- wrap, quick where nothing is cut. -/
def limP : IntKind → Nat
  | .i64 => 9223372036854775808
  | .u64 => 18446744073709551616
  | .u8 => 256
  | _ => 0
def limN : IntKind → Nat
  | .i64 => 9223372036854775808
  | _ => 0
def wrapF (k : IntKind) (n : Int) : Int := Int.rec (fun m => Bool.rec (k.wrap (.ofNat m)) (.ofNat m) (Nat.ble (Nat.succ m) (limP k))) (fun m => Bool.rec (k.wrap (.negSucc m)) (.negSucc m) (Nat.ble (Nat.succ m) (limN k))) n
theorem wrapF_eq (k : IntKind) (n : Int) : wrapF k n = k.wrap n := by
  have e63 : (2 : Int) ^ 63 = 9223372036854775808 := by decide
  have e64 : (2 : Int) ^ 64 = 18446744073709551616 := by decide
  cases n with
  | ofNat m =>
    show (Bool.rec (k.wrap (.ofNat m)) (.ofNat m) (Nat.ble (Nat.succ m) (limP k)) : Int) = _
    cases h : Nat.ble (Nat.succ m) (limP k) with
    | false => rfl
    | true =>
      have h := Nat.le_of_ble_eq_true h
      show (Int.ofNat m) = _
      cases k with
      | i64 => have h : m.succ ≤ 9223372036854775808 := h; exact (w64 (by show (-9223372036854775808 : Int) ≤ (m : Int); omega) (by show (m : Int) < 9223372036854775808; omega)).symm
      | u8 =>
        have h : m.succ ≤ 256 := h
        show (m : Int) = IntKind.u8.wrap m
        simp only [IntKind.wrap, IntKind.signed, IntKind.bits, Bool.false_and]
        simp; omega
      | u64 => have h : m.succ ≤ 18446744073709551616 := h; exact (wu64 (by show (0 : Int) ≤ (m : Int); omega) (by show (m : Int) < 18446744073709551616; omega)).symm
      | _ => exact absurd h (Nat.not_succ_le_zero _)
  | negSucc m =>
    show (Bool.rec (k.wrap (.negSucc m)) (.negSucc m) (Nat.ble (Nat.succ m) (limN k)) : Int) = _
    cases h : Nat.ble (Nat.succ m) (limN k) with
    | false => rfl
    | true =>
      have h := Nat.le_of_ble_eq_true h
      show (Int.negSucc m) = _
      cases k with
      | i64 =>
        have h : m.succ ≤ 9223372036854775808 := h
        have e0 : Int.negSucc m = -(m : Int) - 1 := by rw [Int.negSucc_eq]; omega
        exact (w64 (by rw [e0]; omega) (by rw [e0]; omega)).symm
      | _ => exact absurd h (Nat.not_succ_le_zero _)
def ltI (x y : Int) : Bool := Int.rec (fun a => Int.rec (fun b => Nat.ble (Nat.succ a) b) (fun _ => false) y) (fun a => Int.rec (fun _ => true) (fun b => Nat.ble (Nat.succ b) a) y) x
theorem ltI_eq (x y : Int) : ltI x y = decide (x < y) := by
  cases x with
  | ofNat a =>
    cases y with
    | ofNat b =>
      show Nat.ble (Nat.succ a) b = _
      by_cases h : a < b
      · rw [decide_eq_true (by show (a : Int) < (b : Int); omega)]; exact Nat.ble_eq_true_of_le h
      · rw [decide_eq_false (by show ¬ (a : Int) < (b : Int); omega)]
        cases hb : Nat.ble (Nat.succ a) b with | false => rfl | true => exact absurd (Nat.le_of_ble_eq_true hb) h
    | negSucc b => show false = _; rw [decide_eq_false]; show ¬ (a : Int) < Int.negSucc b; omega
  | negSucc a =>
    cases y with
    | ofNat b => show true = _; rw [decide_eq_true]; show Int.negSucc a < (b : Int); omega
    | negSucc b =>
      show Nat.ble (Nat.succ b) a = _
      by_cases h : b < a
      · rw [decide_eq_true (by omega)]; exact Nat.ble_eq_true_of_le h
      · rw [decide_eq_false (by omega)]
        cases hb : Nat.ble (Nat.succ b) a with | false => rfl | true => exact absurd (Nat.le_of_ble_eq_true hb) h
def eqI (x y : Int) : Bool := Int.rec (fun a => Int.rec (fun b => Nat.beq a b) (fun _ => false) y) (fun a => Int.rec (fun _ => false) (fun b => Nat.beq a b) y) x
theorem natbeq (a b : Nat) : Nat.beq a b = decide (a = b) := by
  by_cases h : a = b
  · subst h; simp
  · rw [decide_eq_false h]; cases hb : Nat.beq a b with | false => rfl | true => exact absurd (Nat.eq_of_beq_eq_true hb) h
theorem eqI_eq (x y : Int) : eqI x y = decide (x = y) := by
  cases x with
  | ofNat a =>
    cases y with
    | ofNat b =>
      show Nat.beq a b = _
      rw [natbeq]
      exact decide_eq_decide.2 ⟨fun h => by rw [h], fun h => by injection h⟩
    | negSucc b => show false = _; simp
  | negSucc a =>
    cases y with
    | ofNat b => show false = _; simp
    | negSucc b =>
      show Nat.beq a b = _
      rw [natbeq]
      exact decide_eq_decide.2 ⟨fun h => by rw [h], fun h => by injection h⟩
def bin2F (op : BinOp) (k : IntKind) (x y : Int) : Option AV := match op with
  | .add => some (.int k (wrapF k (Int.add x y)))
  | .sub => some (.int k (wrapF k (Int.sub x y)))
  | .mul => some (.int k (wrapF k (Int.mul x y)))
  | .eql => some (.bool (eqI x y))
  | .neq => some (.bool (!(eqI x y)))
  | .lss => some (.bool (ltI x y))
  | .leq => some (.bool (!(ltI y x)))
  | .gtr => some (.bool (ltI y x))
  | .geq => some (.bool (!(ltI x y)))
  | op => bin2 op k x y
theorem bin2F_eq (op : BinOp) (k : IntKind) (x y : Int) : bin2F op k x y = bin2 op k x y := by
  have ne : ∀ (a b : Int), (!(decide (a < b))) = decide (b ≤ a) := fun a b => by
    by_cases h : a < b
    · rw [decide_eq_true h, decide_eq_false (by omega)]; rfl
    · rw [decide_eq_false h, decide_eq_true (by omega)]; rfl
  cases op <;> simp only [bin2F, bin2, wrapF_eq, ltI_eq, eqI_eq, ne, gt_iff_lt, ge_iff_le] <;> first | rfl | (congr 2)

section
variable {X : Cx} {o : Oper} {env : Env} {bs : List Blk}

/-- Two structs of numbers and truth values alone. -/
def flatC (X : Cx) (off : Nat) (f : Field) : AV → AV → Bool
  | .int k a, .int k' b => !(f.name == "_") && Nat.beq f.offset off && (match X.ti f.type with
    | some i => (match i.desc with
      | .int kk => decide (kk = k) && decide (kk = k')
      | _ => false)
    | none => false)
  | .bool a, .bool b => !(f.name == "_") && Nat.beq f.offset off && (match X.ti f.type with
    | some i => (match i.desc with
      | .bool => true
      | _ => false)
    | none => false)
  | _, _ => false
def flatB (X : Cx) : Nat → List Field → List AV → List AV → Bool
  | _, [], [], [] => true
  | off, f :: fs, x :: xs, y :: ys => flatC X off f x y && flatB X (off + 1) fs xs ys
  | _, _, _, _ => false
theorem flatC_ok {X : Cx} {off : Nat} {f : Field} {fs : List Field} {x y : AV} {xs ys : List AV} (h : flatC X off f x y = true) (r : Flat X.P (off + 1) fs xs ys) : Flat X.P off (f :: fs) (x :: xs) (y :: ys) := by
  unfold flatC at h
  split at h
  · simp only [Bool.and_eq_true] at h
    obtain ⟨⟨h1, h2⟩, h3⟩ := h
    split at h3
    · rename_i i hi
      split at h3
      · rename_i kk hd
        simp only [Bool.and_eq_true, decide_eq_true_eq] at h3
        obtain ⟨rfl, rfl⟩ := h3
        have hin := (X.ok _ i hi).inf
        rw [hd] at hin
        exact .int off f fs _ _ _ xs ys (by simpa using h1) (Nat.eq_of_beq_eq_true h2) hin.und _ _ _ hin r
      · cases h3
    · cases h3
  · simp only [Bool.and_eq_true] at h
    obtain ⟨⟨h1, h2⟩, h3⟩ := h
    split at h3
    · rename_i i hi
      split at h3
      · rename_i hd
        have hin := (X.ok _ i hi).inf
        rw [hd] at hin
        exact .bool off f fs _ _ xs ys (by simpa using h1) (Nat.eq_of_beq_eq_true h2) hin.und _ _ _ hin r
      · cases h3
    · cases h3
  · cases h
theorem flatB_ok {X : Cx} : ∀ {fs : List Field} {off : Nat} {xs ys : List AV}, flatB X off fs xs ys = true → Flat X.P off fs xs ys
  | [], off, [], [], h => .nil off
  | [], off, [], _ :: _, h => by simp [flatB] at h
  | [], off, _ :: _, _, h => by simp [flatB] at h
  | _ :: _, off, [], _, h => by simp [flatB] at h
  | _ :: _, off, _ :: _, [], h => by simp [flatB] at h
  | f :: fs, off, x :: xs, y :: ys, h => by
    simp only [flatB, Bool.and_eq_true] at h
    exact flatC_ok h.1 (flatB_ok h.2)

def xbin (X : Cx) (op : BinOp) (t : Nat) (a b : AV) : Option Ef := match a, b with
  | .int k x, .int k' y => match op with
    | .quo => okI (k == k' && !(y == 0)) (some ⟨.int k (k.wrap (x.tdiv y)), [], []⟩)
    | .rem => okI (k == k' && !(y == 0)) (some ⟨.int k (x.tmod y), [], []⟩)
    | .shl => okI (decide (0 ≤ y)) (some ⟨.int k (k.wrap (x * 2 ^ (min y.toNat k.bits))), [], []⟩)
    | .shr => okI (decide (0 ≤ y)) (some ⟨.int k (x.fdiv (2 ^ (min y.toNat k.bits))), [], []⟩)
    | op => okI (k == k') ((bin2F op k x y).map fun v => ⟨v, [], []⟩)
  | .bool x, .bool y => (X.ti t).bind fun i => match i.desc, op with
    | .bool, .eql => some ⟨.bool (x == y), [], []⟩
    | .bool, .neq => some ⟨.bool (!(x == y)), [], []⟩
    | _, _ => none
  | .agg xs, .agg ys => (X.ti t).bind fun i => match i.desc, op with
    | .struct fs, .eql => okI (!(X.P.stoodInHeld t) && !(X.P.eqGuardType X.P.depth t) && flatB X 0 fs.toList xs ys) (some ⟨.bool (scEqs xs ys), [], []⟩)
    | .struct fs, .neq => okI (!(X.P.stoodInHeld t) && !(X.P.eqGuardType X.P.depth t) && flatB X 0 fs.toList xs ys) (some ⟨.bool (!(scEqs xs ys)), [], []⟩)
    | _, _ => none
  | v, .nilp => (X.ti t).bind fun i => match i.desc, op with
    | .pointer _, .eql => (match v with
      | .nilp => some ⟨.bool true, [], []⟩
      | .ptr _ _ | .rptr _ _ _ _ | .eptr _ _ _ => some ⟨.bool false, [], []⟩
      | _ => none)
    | .pointer _, .neq => (match v with
      | .nilp => some ⟨.bool false, [], []⟩
      | .ptr _ _ | .rptr _ _ _ _ | .eptr _ _ _ => some ⟨.bool true, [], []⟩
      | _ => none)
    | _, _ => none
  | _, _ => none

theorem xbin_ok {op : BinOp} {t t' : Nat} {x y : Operand} {a b : AV} {e : Ef} (ho : o.op = .binOp op t x y t') (hx : ev env x = some a) (hy : ev env y = some b) (h : xbin X op t a b = some e) : Sd X.P o env bs e := by
  have mx : x ∈ o.op.operands.toList := by simp [ho, Op.operands]
  have my : y ∈ o.op.operands.toList := by simp [ho, Op.operands]
  unfold xbin at h
  split at h
  · rename_i k x' k' y'
    have gen : ∀ op', op = op' → okI (k == k') ((bin2F op' k x' y').map fun v => (⟨v, [], []⟩ : Ef)) = some e → Sd X.P o env bs e := fun op' e0 hq => by
      subst e0
      replace hq := okI_inv hq; obtain ⟨hk, hq⟩ := hq
      obtain rfl : k = k' := by simpa using hk
      rw [bin2F_eq, Option.map_eq_some_iff] at hq
      obtain ⟨v, hv, rfl⟩ := hq
      exact .q fun env' bs0 ha => op_bin ho ((ha x mx).trans hx) ((ha y my).trans hy) hv
    split at h
    · replace h := okI_inv h; obtain ⟨hk, h⟩ := h
      simp only [Bool.and_eq_true] at hk
      obtain rfl : k = k' := by simpa using hk.1
      have h0 : y' ≠ 0 := by simpa using hk.2
      obtain rfl := Option.some.inj h
      exact .q fun env' bs0 ha => op_quo ho ((ha x mx).trans hx) ((ha y my).trans hy) h0
    · replace h := okI_inv h; obtain ⟨hk, h⟩ := h
      simp only [Bool.and_eq_true] at hk
      obtain rfl : k = k' := by simpa using hk.1
      have h0 : y' ≠ 0 := by simpa using hk.2
      obtain rfl := Option.some.inj h
      exact .q fun env' bs0 ha => op_rem ho ((ha x mx).trans hx) ((ha y my).trans hy) h0
    · replace h := okI_inv h; obtain ⟨hk, h⟩ := h
      have h0 := of_decide_eq_true hk
      obtain rfl := Option.some.inj h
      exact .q fun env' bs0 ha => op_shl ho ((ha x mx).trans hx) ((ha y my).trans hy) (by omega)
    · replace h := okI_inv h; obtain ⟨hk, h⟩ := h
      have h0 := of_decide_eq_true hk
      obtain rfl := Option.some.inj h
      exact .q fun env' bs0 ha => op_shr ho ((ha x mx).trans hx) ((ha y my).trans hy) (by omega)
    · exact gen _ rfl h
  · replace h := bi h; obtain ⟨i, hi, h⟩ := h
    have hu := (X.ok t i hi).inf.und
    split at h
    · rename i.desc = _ => hd
      rw [hd] at hu
      obtain rfl := Option.some.inj h
      exact .q fun env' bs0 ha => op_eqb hu ho ((ha x mx).trans hx) ((ha y my).trans hy)
    · rename i.desc = _ => hd
      rw [hd] at hu
      obtain rfl := Option.some.inj h
      exact .q fun env' bs0 ha => op_neb hu ho ((ha x mx).trans hx) ((ha y my).trans hy)
    · cases h
  · replace h := bi h; obtain ⟨i, hi, h⟩ := h
    have hu := (X.ok t i hi).inf.und
    split at h
    · rename i.desc = _ => hd
      rw [hd] at hu
      replace h := okI_inv h; obtain ⟨hc, h⟩ := h
      simp only [Bool.and_eq_true, Bool.not_eq_true'] at hc
      obtain rfl := Option.some.inj h
      exact .q fun env' bs0 ha => op_eqs hu hc.1.1 hc.1.2 (flatB_ok hc.2) ho ((ha x mx).trans hx) ((ha y my).trans hy)
    · rename i.desc = _ => hd
      rw [hd] at hu
      replace h := okI_inv h; obtain ⟨hc, h⟩ := h
      simp only [Bool.and_eq_true, Bool.not_eq_true'] at hc
      obtain rfl := Option.some.inj h
      exact .q fun env' bs0 ha => op_nes hu hc.1.1 hc.1.2 (flatB_ok hc.2) ho ((ha x mx).trans hx) ((ha y my).trans hy)
    · cases h
  · replace h := bi h; obtain ⟨i, hi, h⟩ := h
    have hu := (X.ok t i hi).inf.und
    have key : ∀ {v : AV} {b : Bool}, PtrV v b → ev env x = some v → (∃ e, i.desc = .pointer e) → (op = .eql → e = ⟨.bool b, [], []⟩ → Sd X.P o env bs e) ∧ (op = .neq → e = ⟨.bool (!b), [], []⟩ → Sd X.P o env bs e) := by
      clear h
      rintro v b hv hx ⟨e, hd⟩
      rw [hd] at hu
      refine ⟨fun e0 e1 => ?_, fun e0 e1 => ?_⟩
      · subst e0 e1; exact .q fun env' bs0 ha => op_eqnil hu ho ((ha x mx).trans hx) hv ((ha y my).trans hy)
      · subst e0 e1; exact .q fun env' bs0 ha => op_nenil hu ho ((ha x mx).trans hx) hv ((ha y my).trans hy)
    split at h
    · rename i.desc = _ => hd
      split at h
      · exact (key .nilp hx ⟨_, hd⟩).1 rfl (Option.some.inj h).symm
      · exact (key (.ptr _ _) hx ⟨_, hd⟩).1 rfl (Option.some.inj h).symm
      · exact (key (.rptr _ _ _ _) hx ⟨_, hd⟩).1 rfl (Option.some.inj h).symm
      · exact (key (.eptr _ _ _) hx ⟨_, hd⟩).1 rfl (Option.some.inj h).symm
      · cases h
    · rename i.desc = _ => hd
      split at h
      · exact (key .nilp hx ⟨_, hd⟩).2 rfl (Option.some.inj h).symm
      · exact (key (.ptr _ _) hx ⟨_, hd⟩).2 rfl (Option.some.inj h).symm
      · exact (key (.rptr _ _ _ _) hx ⟨_, hd⟩).2 rfl (Option.some.inj h).symm
      · exact (key (.eptr _ _ _) hx ⟨_, hd⟩).2 rfl (Option.some.inj h).symm
      · cases h
    · cases h
  · cases h

def xun (op : UnOp) (a : AV) : Option Ef := match op, a with
  | .not, .bool b => some ⟨.bool (!b), [], []⟩
  | .neg, .int k n => some ⟨.int k (k.wrap (0 - n)), [], []⟩
  | _, _ => none
theorem xun_ok {op : UnOp} {t : Nat} {x : Operand} {a : AV} {e : Ef} (ho : o.op = .unOp op t x) (hx : ev env x = some a) (h : xun op a = some e) : Sd X.P o env bs e := by
  have mx : x ∈ o.op.operands.toList := by simp [ho, Op.operands]
  unfold xun at h
  split at h
  · obtain rfl := Option.some.inj h; exact .q fun env' bs0 ha => op_not ho ((ha x mx).trans hx)
  · obtain rfl := Option.some.inj h; exact .q fun env' bs0 ha => op_neg ho ((ha x mx).trans hx)
  · cases h

def xconv (X : Cx) (t u : Nat) (a : AV) : Option Ef := (X.ti t).bind fun it => (X.ti u).bind fun iu => match it.desc, iu.desc, a with
  | .int _, .int k', .int _ n => some ⟨.int k' (k'.wrap n), [], []⟩
  | _, _, _ => none
theorem xconv_ok {t u : Nat} {x : Operand} {a : AV} {e : Ef} (ho : o.op = .convert t u x) (hx : ev env x = some a) (h : xconv X t u a = some e) : Sd X.P o env bs e := by
  have mx : x ∈ o.op.operands.toList := by simp [ho, Op.operands]
  unfold xconv at h
  replace h := bi h; obtain ⟨it, h1, h⟩ := h
  replace h := bi h; obtain ⟨iu, h2, h⟩ := h
  split at h
  · rename it.desc = _ => d1
    rename iu.desc = _ => d2
    have u1 := (X.ok t it h1).inf.und
    have u2 := (X.ok u iu h2).inf.und
    rw [d1] at u1
    rw [d2] at u2
    obtain rfl := Option.some.inj h
    exact .q fun env' bs0 ha => op_conv u1 u2 ho ((ha x mx).trans hx)
  · cases h

def xpick (c : AV) (a b : Option AV) : Option Ef := match c with
  | .bool true => a.map fun v => ⟨v, [], []⟩
  | .bool false => b.map fun v => ⟨v, [], []⟩
  | _ => none
theorem xpick_ok {c x y : Operand} {cv : AV} {e : Ef} (ho : o.op = .pick c x y) (hc : ev env c = some cv) (h : xpick cv (ev env x) (ev env y) = some e) : Sd X.P o env bs e := by
  have mc : c ∈ o.op.operands.toList := by simp [ho, Op.operands]
  have mx : x ∈ o.op.operands.toList := by simp [ho, Op.operands]
  have my : y ∈ o.op.operands.toList := by simp [ho, Op.operands]
  unfold xpick at h
  split at h
  · rw [Option.map_eq_some_iff] at h
    obtain ⟨v, hv, rfl⟩ := h
    exact .q fun env' bs0 ha => op_pick_true ho ((ha c mc).trans hc) ((ha x mx).trans hv)
  · rw [Option.map_eq_some_iff] at h
    obtain ⟨v, hv, rfl⟩ := h
    exact .q fun env' bs0 ha => op_pick_false ho ((ha c mc).trans hc) ((ha y my).trans hv)
  · cases h

/-! ### reading and writing -/

def xload (X : Cx) (t : Nat) (look : Nat → Blk) (p : AV) : Option Ef := (X.ti t).bind fun i => match p with
  | .ptr b k => match look b with
    | .cells cs => (match isAggD i.desc with
      | true => okI (lenGe cs (k + i.size)) (some ⟨.agg ((cs.drop k).take i.size), [(b, .cells cs)], []⟩)
      | false => (nth cs k).map fun v => ⟨v, [(b, .cells cs)], []⟩)
    | _ => none
  | .eptr xs j k => (nth xs j).bind fun u => (match isAggD i.desc with
      | true => okI (lenGe u.cells (k + i.size)) (some ⟨.agg ((u.cells.drop k).take i.size), [], []⟩)
      | false => (nth u.cells k).map fun v => ⟨v, [], []⟩)
  | .rptr b j sz k => match look b with
    | .rows sz' xs => okI (Nat.beq sz' sz) ((nth xs j).bind fun u => (match isAggD i.desc with
      | true => okI (lenGe u.cells (k + i.size)) (some ⟨.agg ((u.cells.drop k).take i.size), [(b, .rows sz' xs)], []⟩)
      | false => (nth u.cells k).map fun v => ⟨v, [(b, .rows sz' xs)], []⟩))
    | _ => none
  | .optr b n j sz k => match look b with
    | .own e' sz' xs => okI (Nat.beq sz' sz && Nat.beq n xs.length) ((nth xs j).bind fun u => (match isAggD i.desc with
      | true => okI (lenGe u.cells (k + i.size)) (some ⟨.agg ((u.cells.drop k).take i.size), [(b, .own e' sz' xs)], []⟩)
      | false => (nth u.cells k).map fun v => ⟨v, [(b, .own e' sz' xs)], []⟩))
    | _ => none
  | _ => none

theorem xload_ok {t : Nat} {x : Operand} {p : AV} {e : Ef} (ho : o.op = .load t x) (hx : ev env x = some p) (h : xload X t (bat bs) p = some e) : Sd X.P o env bs e := by
  have mx : x ∈ o.op.operands.toList := by simp [ho, Op.operands]
  unfold xload at h
  replace h := bi h; obtain ⟨i, hi, h⟩ := h
  have ht := (X.ok t i hi).inf
  split at h
  · rename_i b k
    split at h
    · rename_i cs hb
      split at h
      · rename_i hd
        replace h := okI_inv h; obtain ⟨hl, h⟩ := h
        obtain rfl := Option.some.inj h
        exact .r hb fun env' bs0 ha hb0 => op_load_agg ht hd ho ((ha x mx).trans hx) (get_bat _ _ _ hb0 (by simp)) (lenGe_inv hl) rfl
      · rename_i hd
        rw [Option.map_eq_some_iff] at h
        obtain ⟨v, hv, rfl⟩ := h
        rw [nth_eq] at hv
        exact .r hb fun env' bs0 ha hb0 => op_load ht hd ho ((ha x mx).trans hx) (get_bat _ _ _ hb0 (by simp)) hv
    · cases h
  · rename_i xs j k
    replace h := bi h; obtain ⟨u, hu, h⟩ := h
    rw [nth_eq] at hu
    split at h
    · rename_i hd
      replace h := okI_inv h; obtain ⟨hl, h⟩ := h
      obtain rfl := Option.some.inj h
      exact .q fun env' bs0 ha => op_load_agg_e ht hd ho ((ha x mx).trans hx) hu (lenGe_inv hl) rfl
    · rename_i hd
      rw [Option.map_eq_some_iff] at h
      obtain ⟨v, hv, rfl⟩ := h
      rw [nth_eq] at hv
      exact .q fun env' bs0 ha => op_load_e ht hd ho ((ha x mx).trans hx) hu hv
  · rename_i b j sz k
    split at h
    · rename_i sz' xs hb
      replace h := okI_inv h; obtain ⟨he, h⟩ := h
      obtain rfl := Nat.eq_of_beq_eq_true he
      replace h := bi h; obtain ⟨u, hu, h⟩ := h
      rw [nth_eq] at hu
      split at h
      · rename_i hd
        replace h := okI_inv h; obtain ⟨hl, h⟩ := h
        obtain rfl := Option.some.inj h
        exact .r hb fun env' bs0 ha hb0 => op_load_agg_r ht hd ho ((ha x mx).trans hx) hb0 hu (lenGe_inv hl) rfl
      · rename_i hd
        rw [Option.map_eq_some_iff] at h
        obtain ⟨v, hv, rfl⟩ := h
        rw [nth_eq] at hv
        exact .r hb fun env' bs0 ha hb0 => op_load_r ht hd ho ((ha x mx).trans hx) hb0 hu hv
    · cases h
  · rename_i b n j sz k
    split at h
    · rename_i e' sz' xs hb
      replace h := okI_inv h; obtain ⟨he, h⟩ := h
      simp only [Bool.and_eq_true] at he
      obtain rfl := Nat.eq_of_beq_eq_true he.1
      have hn := Nat.eq_of_beq_eq_true he.2
      replace h := bi h; obtain ⟨u, hu, h⟩ := h
      rw [nth_eq] at hu
      split at h
      · rename_i hd
        replace h := okI_inv h; obtain ⟨hl, h⟩ := h
        obtain rfl := Option.some.inj h
        exact .r hb fun env' bs0 ha hb0 => op_load_agg_o ht hd ho ((ha x mx).trans hx) hb0 hn hu (lenGe_inv hl) rfl
      · rename_i hd
        rw [Option.map_eq_some_iff] at h
        obtain ⟨v, hv, rfl⟩ := h
        rw [nth_eq] at hv
        exact .r hb fun env' bs0 ha hb0 => op_load_o ht hd ho ((ha x mx).trans hx) hb0 hn hu hv
    · cases h
  · cases h

/-- The element behind a write. -/
def putEl (u : AV) (k : Nat) (v : AV) : Option AV := match Nat.beq k 0 && Nat.beq u.cells.length v.cells.length with
  | true => some v
  | false => (sets u.cells k v.cells).map .agg
theorem putEl_ok {u v u' : AV} {k : Nat} (h : putEl u k v = some u') : k + v.cells.length ≤ u.cells.length ∧ u.cells.take k ++ v.cells ++ u.cells.drop (k + v.cells.length) = u'.cells := by
  unfold putEl at h
  split at h
  · rename_i hc
    simp only [Bool.and_eq_true] at hc
    have h1 := Nat.eq_of_beq_eq_true hc.1
    have h2 := Nat.eq_of_beq_eq_true hc.2
    obtain rfl := Option.some.inj h
    subst h1
    exact ⟨by omega, by rw [List.drop_eq_nil_of_le (by omega)]; simp⟩
  · rw [Option.map_eq_some_iff] at h
    obtain ⟨cs, h, rfl⟩ := h
    obtain ⟨h1, h2⟩ := sets_ok h
    exact ⟨h1, h2.symm⟩

def lset (xs : List AV) (j : Nat) (u : AV) : List AV := List.rec (fun _ => []) (fun x r ih j => Nat.rec (u :: r) (fun j _ => x :: ih j) j) xs j
theorem lset_eq : ∀ (xs : List AV) (j : Nat) (u : AV), lset xs j u = xs.set j u
  | [], _, _ => by simp [lset]
  | _ :: r, 0, u => rfl
  | x :: r, j + 1, u => by rw [List.set_cons_succ, ← lset_eq r j u]; rfl

def xstore (X : Cx) (t : Nat) (look : Nat → Blk) (p v : AV) : Option Ef := (X.ti t).bind fun i => okI (Nat.beq v.cells.length i.size && Nat.blt 0 i.size && v.cells.all AV.one) (match p with
  | .ptr b k => match look b with
    | .cells cs => (sets cs k v.cells).map fun cs' => ⟨.und, [(b, .cells cs)], [(b, .cells cs')]⟩
    | _ => none
  | .rptr b j sz k => match look b with
    | .rows sz' xs => okI (Nat.beq sz' sz) ((nth xs j).bind fun u => (putEl u k v).map fun u' => ⟨.und, [(b, .rows sz' xs)], [(b, .rows sz' (lset xs j u'))]⟩)
    | _ => none
  | .optr b n j sz k => match look b with
    | .own e' sz' xs => okI (Nat.beq sz' sz && Nat.beq n xs.length) ((nth xs j).bind fun u => (putEl u k v).map fun u' => ⟨.und, [(b, .own e' sz' xs)], [(b, .own e' sz' (lset xs j u'))]⟩)
    | _ => none
  | _ => none)

theorem xstore_ok {t : Nat} {x y : Operand} {p v : AV} {e : Ef} (ho : o.op = .store t x y) (hx : ev env x = some p) (hy : ev env y = some v) (h : xstore X t (bat bs) p v = some e) : Sd X.P o env bs e := by
  have mx : x ∈ o.op.operands.toList := by simp [ho, Op.operands]
  have my : y ∈ o.op.operands.toList := by simp [ho, Op.operands]
  unfold xstore at h
  replace h := bi h; obtain ⟨i, hi, h⟩ := h
  have ht := (X.ok t i hi).inf
  replace h := okI_inv h; obtain ⟨hc, h⟩ := h
  simp only [Bool.and_eq_true] at hc
  obtain ⟨⟨hs, hs0⟩, h1⟩ := hc
  have hs := Nat.eq_of_beq_eq_true hs
  split at h
  · rename_i b k
    split at h
    · rename_i cs hb
      rw [Option.map_eq_some_iff] at h
      obtain ⟨cs', h, rfl⟩ := h
      obtain ⟨hk, rfl⟩ := sets_ok h
      rw [hs] at hk
      rw [hs]
      exact .w hb fun env' bs0 ha hb0 => op_store_b ht ho ((ha x mx).trans hx) ((ha y my).trans hy) hb0 hs h1 hk rfl
    · cases h
  · rename_i b j sz k
    split at h
    · rename_i sz' xs hb
      replace h := okI_inv h; obtain ⟨he, h⟩ := h
      obtain rfl := Nat.eq_of_beq_eq_true he
      replace h := bi h; obtain ⟨u, hu, h⟩ := h
      rw [nth_eq] at hu
      rw [Option.map_eq_some_iff] at h
      obtain ⟨u', h, rfl⟩ := h
      obtain ⟨hk, hv⟩ := putEl_ok h
      rw [hs] at hk hv
      rw [lset_eq]
      exact .w hb fun env' bs0 ha hb0 => op_store_r ht ho ((ha x mx).trans hx) ((ha y my).trans hy) hb0 hu hs h1 hk hv
    · cases h
  · rename_i b n j sz k
    split at h
    · rename_i e' sz' xs hb
      replace h := okI_inv h; obtain ⟨he, h⟩ := h
      simp only [Bool.and_eq_true] at he
      obtain rfl := Nat.eq_of_beq_eq_true he.1
      have hn := Nat.eq_of_beq_eq_true he.2
      replace h := bi h; obtain ⟨u, hu, h⟩ := h
      rw [nth_eq] at hu
      rw [Option.map_eq_some_iff] at h
      obtain ⟨u', h, rfl⟩ := h
      obtain ⟨hk, hv⟩ := putEl_ok h
      rw [hs] at hk hv
      rw [lset_eq]
      exact .w hb fun env' bs0 ha hb0 => op_store_o ht ho ((ha x mx).trans hx) ((ha y my).trans hy) hb0 hn hu hs h1 hk hv
    · cases h
  · cases h

/-! ### addresses -/

def xfield (X : Cx) (t j : Nat) (look : Nat → Blk) (p : AV) : Option Ef := (X.ti t).bind fun i => (i.offs[j]?).bind fun off => match p with
  | .ptr b k => some ⟨.ptr b (k + off), [], []⟩
  | .rptr b m sz k => some ⟨.rptr b m sz (k + off), [], []⟩
  | .optr b n m sz k => match look b with
    | .own e' sz' xs => okI (Nat.beq n xs.length) (some ⟨.optr b n m sz (k + off), [(b, .own e' sz' xs)], []⟩)
    | _ => none
  | .eptr xs m k => (nth xs m).bind fun u => okI (lenGe u.cells (k + off + 1)) (some ⟨.eptr xs m (k + off), [], []⟩)
  | _ => none
theorem xfield_ok {t j : Nat} {x : Operand} {p : AV} {e : Ef} (ho : o.op = .fieldAddr t x j) (hx : ev env x = some p) (h : xfield X t j (bat bs) p = some e) : Sd X.P o env bs e := by
  have mx : x ∈ o.op.operands.toList := by simp [ho, Op.operands]
  unfold xfield at h
  replace h := bi h; obtain ⟨i, hi, h⟩ := h
  replace h := bi h; obtain ⟨off, hoff, h⟩ := h
  obtain ⟨fs, f, size, bytes, z, d, hd, hf, rfl, hin, h0⟩ := (X.ok t i hi).offs j off hoff
  have hu := (X.ok t i hi).inf.und
  rw [hd] at hu
  split at h
  · obtain rfl := Option.some.inj h; exact .q fun env' bs0 ha => op_faddr hu hf hin h0 ho ((ha x mx).trans hx)
  · obtain rfl := Option.some.inj h; exact .q fun env' bs0 ha => op_faddr_r hu hf hin h0 ho ((ha x mx).trans hx)
  · split at h
    · rename_i e' sz' xs hb
      replace h := okI_inv h; obtain ⟨hn, h⟩ := h
      obtain rfl := Option.some.inj h
      exact .r hb fun env' bs0 ha hb0 => op_faddr_o hu hf hin h0 ho ((ha x mx).trans hx) hb0 (Nat.eq_of_beq_eq_true hn)
    · cases h
  · replace h := bi h; obtain ⟨u, hu2, h⟩ := h
    rw [nth_eq] at hu2
    replace h := okI_inv h; obtain ⟨hl, h⟩ := h
    obtain rfl := Option.some.inj h
    have := lenGe_inv hl
    exact .q fun env' bs0 ha => op_faddr_e hu hf hin h0 ho ((ha x mx).trans hx) hu2 (by omega)
  · cases h

def xidx (X : Cx) (t : Nat) (look : Nat → Blk) (p i : AV) : Option Ef := match i with
  | .int _ n => (X.ti t).bind fun it => match it.desc with
    | .slice e => (X.ti e).bind fun ie => okI (Nat.blt 0 ie.size) (match p with
      | .lst _ xs => (idxL xs n).bind fun u => okI (Nat.beq u.cells.length ie.size) (some ⟨.eptr [u] 0 0, [], []⟩)
      | .gsl b ln => (match look b with
        | .grow e' sz xs => okI (Nat.beq ln xs.length) ((idxL xs n).bind fun u => okI (Nat.beq u.cells.length ie.size) (some ⟨.eptr [u] 0 0, [(b, .grow e' sz xs)], []⟩))
        | .own e' sz xs => okI (Nat.beq ln xs.length && decide (0 ≤ n) && Nat.blt n.toNat ln && Nat.beq sz ie.size) (some ⟨.optr b ln n.toNat sz 0, [(b, .own e' sz xs)], []⟩)
        | _ => none)
      | .slc b q sz len _ => okI (decide (0 ≤ n) && Nat.blt n.toNat len && Nat.beq sz ie.size) (some ⟨.rptr b (q + n.toNat) sz 0, [], []⟩)
      | .oslc b m q sz len _ => (match look b with
        | .own e' sz' xs => okI (Nat.beq m xs.length && decide (0 ≤ n) && Nat.blt n.toNat len && Nat.beq sz ie.size) (some ⟨.optr b m (q + n.toNat) sz 0, [(b, .own e' sz' xs)], []⟩)
        | _ => none)
      | _ => none)
    | .array len e => (X.ti e).bind fun ie => (ixN n len).bind fun m => (match p with
      | .ptr b q => some ⟨.ptr b (q + m * ie.size), [], []⟩
      | .eptr xs j q => (nth xs j).bind fun u => okI (lenGe u.cells (q + m * ie.size + 1)) (some ⟨.eptr xs j (q + m * ie.size), [], []⟩)
      | _ => none)
    | _ => none
  | _ => none
theorem xidx_ok {t : Nat} {x y : Operand} {p i : AV} {e : Ef} (ho : o.op = .indexAddr t x y) (hx : ev env x = some p) (hy : ev env y = some i) (h : xidx X t (bat bs) p i = some e) : Sd X.P o env bs e := by
  have mx : x ∈ o.op.operands.toList := by simp [ho, Op.operands]
  have my : y ∈ o.op.operands.toList := by simp [ho, Op.operands]
  unfold xidx at h
  split at h
  · rename_i k n
    replace h := bi h; obtain ⟨it, hi, h⟩ := h
    have hu := (X.ok t it hi).inf.und
    split at h
    · rename_i e1 hd
      rw [hd] at hu
      replace h := bi h; obtain ⟨ie, hie, h⟩ := h
      have he := (X.ok e1 ie hie).inf
      replace h := okI_inv h; obtain ⟨h0, h⟩ := h
      have h0 : 0 < ie.size := by simpa [Nat.blt_eq] using h0
      split at h
      · replace h := bi h; obtain ⟨u, hu2, h⟩ := h
        obtain ⟨g1, g2⟩ := idxL_inv hu2
        replace h := okI_inv h; obtain ⟨hl, h⟩ := h
        obtain rfl := Option.some.inj h
        exact .q fun env' bs0 ha => op_iaddr1 hu he ho ((ha x mx).trans hx) ((ha y my).trans hy) g1 g2 (Nat.eq_of_beq_eq_true hl) h0
      · split at h
        · rename_i e' sz xs hb
          replace h := okI_inv h; obtain ⟨hl, h⟩ := h
          replace h := bi h; obtain ⟨u, hu2, h⟩ := h
          obtain ⟨g1, g2⟩ := idxL_inv hu2
          replace h := okI_inv h; obtain ⟨hl2, h⟩ := h
          obtain rfl := Option.some.inj h
          exact .r hb fun env' bs0 ha hb0 => op_iaddr_g hu he ho ((ha x mx).trans hx) hb0 (Nat.eq_of_beq_eq_true hl) ((ha y my).trans hy) g1 g2 (Nat.eq_of_beq_eq_true hl2) h0
        · rename_i e' sz xs hb
          replace h := okI_inv h; obtain ⟨hl, h⟩ := h
          simp only [Bool.and_eq_true] at hl
          obtain ⟨⟨⟨c1, c2⟩, c3⟩, c4⟩ := hl
          obtain rfl := Option.some.inj h
          exact .r hb fun env' bs0 ha hb0 => op_iaddr_o hu he ho ((ha x mx).trans hx) hb0 (Nat.eq_of_beq_eq_true c1) ((ha y my).trans hy) (of_decide_eq_true c2) (by simpa [Nat.blt_eq] using c3) (Nat.eq_of_beq_eq_true c4)
        · cases h
      · replace h := okI_inv h; obtain ⟨hl, h⟩ := h
        simp only [Bool.and_eq_true] at hl
        obtain ⟨⟨c2, c3⟩, c4⟩ := hl
        obtain rfl := Option.some.inj h
        exact .q fun env' bs0 ha => op_iaddr_s hu he ho ((ha x mx).trans hx) ((ha y my).trans hy) (of_decide_eq_true c2) (by simpa [Nat.blt_eq] using c3) (Nat.eq_of_beq_eq_true c4)
      · split at h
        · rename_i e' sz xs hb
          replace h := okI_inv h; obtain ⟨hl, h⟩ := h
          simp only [Bool.and_eq_true] at hl
          obtain ⟨⟨⟨c1, c2⟩, c3⟩, c4⟩ := hl
          obtain rfl := Option.some.inj h
          exact .r hb fun env' bs0 ha hb0 => op_iaddr_os hu he ho ((ha x mx).trans hx) hb0 (Nat.eq_of_beq_eq_true c1) ((ha y my).trans hy) (of_decide_eq_true c2) (by simpa [Nat.blt_eq] using c3) (Nat.eq_of_beq_eq_true c4)
        · cases h
      · cases h
    · rename_i len e1 hd
      rw [hd] at hu
      replace h := bi h; obtain ⟨ie, hie, h⟩ := h
      have he := (X.ok e1 ie hie).inf
      replace h := bi h; obtain ⟨m, hm, h⟩ := h
      obtain ⟨g1, g2⟩ := ixN_inv hm
      split at h
      · obtain rfl := Option.some.inj h
        exact .q fun env' bs0 ha => op_iaddr_a hu he ho ((ha x mx).trans hx) ((ha y my).trans hy) g1 g2
      · replace h := bi h; obtain ⟨u, hu2, h⟩ := h
        rw [nth_eq] at hu2
        replace h := okI_inv h; obtain ⟨hl, h⟩ := h
        have := lenGe_inv hl
        obtain rfl := Option.some.inj h
        exact .q fun env' bs0 ha => op_iaddr_ae hu he ho ((ha x mx).trans hx) ((ha y my).trans hy) g1 g2 hu2 (by omega)
      · cases h
    · cases h
  · cases h

def xindex (X : Cx) (t : Nat) (p i : AV) : Option Ef := match p, i with
  | .agg cs, .int _ n => (X.ti t).bind fun it => match it.desc with
    | .array len e => (X.ti e).bind fun ie => (ixN n len).bind fun m => (match isAggD ie.desc with
      | true => okI (lenGe cs (m * ie.size + ie.size)) (some ⟨.agg ((cs.drop (m * ie.size)).take ie.size), [], []⟩)
      | false => (nth cs (m * ie.size)).map fun v => ⟨v, [], []⟩)
    | _ => none
  | _, _ => none
theorem xindex_ok {t : Nat} {x y : Operand} {p i : AV} {e : Ef} (ho : o.op = .index t x y) (hx : ev env x = some p) (hy : ev env y = some i) (h : xindex X t p i = some e) : Sd X.P o env bs e := by
  have mx : x ∈ o.op.operands.toList := by simp [ho, Op.operands]
  have my : y ∈ o.op.operands.toList := by simp [ho, Op.operands]
  unfold xindex at h
  split at h
  · replace h := bi h; obtain ⟨it, hi, h⟩ := h
    have hu := (X.ok t it hi).inf.und
    split at h
    · rename_i len e1 hd
      rw [hd] at hu
      replace h := bi h; obtain ⟨ie, hie, h⟩ := h
      have he := (X.ok e1 ie hie).inf
      replace h := bi h; obtain ⟨m, hm, h⟩ := h
      obtain ⟨g1, g2⟩ := ixN_inv hm
      split at h
      · rename_i hd2
        replace h := okI_inv h; obtain ⟨hl, h⟩ := h
        obtain rfl := Option.some.inj h
        exact .q fun env' bs0 ha => op_index_agg hu he hd2 ho ((ha x mx).trans hx) ((ha y my).trans hy) g1 g2 (lenGe_inv hl) rfl
      · rename_i hd2
        rw [Option.map_eq_some_iff] at h
        obtain ⟨v, hv, rfl⟩ := h
        rw [nth_eq] at hv
        exact .q fun env' bs0 ha => op_index hu he hd2 ho ((ha x mx).trans hx) ((ha y my).trans hy) g1 g2 hv
    · cases h
  · cases h


def xfieldV (X : Cx) (t j : Nat) (p : AV) : Option Ef := (X.ti t).bind fun i => match i.desc, p with
  | .struct fs, .agg cs => (fs[j]?).bind fun f => (X.ti f.type).bind fun ie => (match isAggD ie.desc with
    | true => okI (lenGe cs (f.offset + ie.size)) (some ⟨.agg ((cs.drop f.offset).take ie.size), [], []⟩)
    | false => (nth cs f.offset).map fun v => ⟨v, [], []⟩)
  | _, _ => none
theorem xfieldV_ok {t j : Nat} {x : Operand} {p : AV} {e : Ef} (ho : o.op = .field t x j) (hx : ev env x = some p) (h : xfieldV X t j p = some e) : Sd X.P o env bs e := by
  have mx : x ∈ o.op.operands.toList := by simp [ho, Op.operands]
  unfold xfieldV at h
  replace h := bi h; obtain ⟨it, hi, h⟩ := h
  have hu := (X.ok t it hi).inf.und
  split at h
  · rename_i fs cs hd
    rw [hd] at hu
    replace h := bi h; obtain ⟨f, hf, h⟩ := h
    replace h := bi h; obtain ⟨ie, hie, h⟩ := h
    have he := (X.ok f.type ie hie).inf
    split at h
    · rename_i hd2
      replace h := okI_inv h; obtain ⟨hl, h⟩ := h
      obtain rfl := Option.some.inj h
      exact .q fun env' bs0 ha => op_field_agg hu hf he hd2 ho ((ha x mx).trans hx) (lenGe_inv hl) rfl
    · rename_i hd2
      rw [Option.map_eq_some_iff] at h
      obtain ⟨v, hv, rfl⟩ := h
      rw [nth_eq] at hv
      exact .q fun env' bs0 ha => op_field hu hf he hd2 ho ((ha x mx).trans hx) hv
  · cases h

end
end
end Go.Proofs.YtelgmdljcbkniaaGreatDoor.Ai

/- An interpreter of values for the model's code, base text 31: makers and builtins as a function that reckons them; the dispatcher. -/
namespace Go.Proofs.YtelgmdljcbkniaaGreatDoor.Ai
noncomputable section
open Go
set_option linter.unusedVariables false

theorem op_len_own {P : Program} {o : Oper} {s : St} {t e e' : TypeId} {x : Operand} {i n sz : Nat} {xs : List AV} (ht : P.underlying t = some (.slice e))
    (ho : o.op = .call { callee := .builtin .len, args := #[x], argTypes := #[t] }) (hx : ev s.env x = some (.gsl i n)) (hb : bat s.bs i = .own e' sz xs) (hn : n = xs.length) : OpT P o s (.int .i64 n) s.bs :=
  op_pure fun G w a hI hE => by
    obtain ⟨g, hg, hgn, hv⟩ := (ev_r hE hx).gsl_own hI hb hn
    have hB := hI.batOk i
    rw [hb] at hB
    obtain ⟨_, _, _, cs, hown, _⟩ := hB.2 g hg
    refine ⟨.int .i64 n, ?_, .imm _ _ (.int _ _)⟩
    subst hn
    rcases hown.2 with ⟨hv0, h0⟩ | ⟨g1, cap', cur, hv0, _⟩
    · simp [execOp, ho, resolve, invoke, builtin, Builtin.len_, run_underlying ht, hv, hv0, goInt, h0]
    · simp [execOp, ho, resolve, invoke, builtin, Builtin.len_, run_underlying ht, hv, hv0, goInt]

theorem op_len_os {P : Program} {o : Oper} {s : St} {t e e' : TypeId} {x : Operand} {i n q z len sz : Nat} {cap : Option Nat} {xs : List AV} (ht : P.underlying t = some (.slice e))
    (ho : o.op = .call { callee := .builtin .len, args := #[x], argTypes := #[t] }) (hx : ev s.env x = some (.oslc i n q z len cap)) (hb : bat s.bs i = .own e' sz xs) (hn : n = xs.length) : OpT P o s (.int .i64 len) s.bs :=
  op_pure fun G w a hI hE => by
    obtain ⟨c, l, lcap, ccap, hg, hl, _, hv⟩ := (ev_r hE hx).oslc_inv hI hb hn
    exact ⟨.int .i64 len, by simp [execOp, ho, resolve, invoke, builtin, Builtin.len_, run_underlying ht, hv, goInt], .imm _ _ (.int _ _)⟩

/-- A slice that is made with room for more. -/
theorem op_make_o {P : Program} {o : Oper} {s : St} {t e : TypeId} {x y : Operand} {kl kc : IntKind} {n c : Int} {size bytes : Nat} {z : Value} {d : TypeDesc} {v : AV} {k : Nat} (ht : P.underlying t = some (.slice e)) (he : Inf P e size bytes z d) (hz : ofConst z = some v)
    (h1 : v.cells.all AV.one = true) (hsz : v.cells.length = size) (hs0 : 0 < size) (ho : o.op = .makeSlice t x y) (hx : ev s.env x = some (.int kl n)) (hy : ev s.env y = some (.int kc c)) (h0 : 0 ≤ n) (hnc : n ≤ c) (hb : (bytes : Int) * c ≤ 281474976710656) (hn : c ≤ 9223372036854775807) (hcm : c.toNat ≤ maxLen)
    (hk : bat s.bs k = .gone) : OpT P o s (.gsl k n.toNat) (bset s.bs k (.own e size (List.replicate n.toNat v))) := by
  refine OpT.of (by simp [ho]) ?_
  intro G w a hI hE K Q hK
  obtain ⟨ie, hie, hsize, hby, hzz⟩ := he.info
  have hr : R G v z := .imm _ _ (ofConst_ri hz)
  obtain ⟨hl, hc, _⟩ := hr.cells h1
  have hrun := run_make (P := P) w t e ie z ht hie hzz kl kc n c h0 hnc (by rw [hby]; exact hb) hn
  rw [hsize] at hrun
  have hzl : z.cells.size = size := hl.trans hsz
  have hcells : (madeCells z.cells (c.toNat * size)).size = c.toNat * size := size_madeCells _ _
  have hget : ∀ q cv, (madeCells z.cells (c.toNat * size))[q]? = some cv → z.cells[q % size]? = some cv := fun q cv e1 => by
    have hq : q % size < z.cells.size := by rw [hzl]; exact Nat.mod_lt _ hs0
    simp only [madeCells, Array.getElem?_map, Option.map_eq_some_iff] at e1
    obtain ⟨m, hm, rfl⟩ := e1
    have hm' : m = q := by
      have := Array.getElem?_eq_some_iff.1 hm
      obtain ⟨_, h⟩ := this
      simpa using h.symm
    subst hm'
    rw [hzl, getElem!_pos z.cells (m % size) hq]
    simp [hq]
  have hv : ∀ (j : Nat) (x : AV), (List.replicate n.toNat v)[j]? = some x → x.cells.length = size := fun j x hx => by
    rw [List.getElem?_replicate] at hx
    split at hx
    · obtain rfl := Option.some.inj hx; exact hsz
    · cases hx
  have hnl : n.toNat * size ≤ c.toNat * size := Nat.mul_le_mul_right _ (by omega)
  have hg0 := hI.batOk k
  rw [hk] at hg0
  have hlr : (List.replicate n.toNat v).length = n.toNat := List.length_replicate
  have hown : (w.alloc (.cells (madeCells z.cells (c.toNat * size)) e)).ownsRow 0 e size (.slice (some ⟨w.heap.size, 0, none⟩) (List.replicate n.toNat v).length c.toNat) (List.replicate n.toNat v).length ((madeCells z.cells (c.toNat * size)).toList.take (n.toNat * size)) := by
    rw [hlr]
    exact ⟨by rw [List.length_take, Array.length_toList, hcells]; omega, .inr ⟨w.heap.size, c.toNat, _, rfl, Nat.zero_le _, heap_alloc_new w _, by omega, hcm, hcells, rfl⟩⟩
  obtain ⟨G', hA⟩ := own_turn hI (i := k) (xs := List.replicate n.toNat v) hg0.1 (fun g hg => by rw [hg0.2] at hg; cases hg) hs0 hv hown (fun j x q u cv e1 e2 e3 => by
      have hq : q < size := hv j x e1 ▸ lt_of_get e2
      rw [List.getElem?_replicate] at e1
      split at e1
      · obtain rfl := Option.some.inj e1
        rw [List.getElem?_take] at e3
        split at e3
        · have := hget (j * size + q) cv (by simpa using e3)
          rw [Nat.mul_comm, Nat.mul_add_mod, Nat.mod_eq_of_lt hq] at this
          exact hc q u cv e2 this
        · cases e3
      · cases e1)
    (fun k => by
      cases hz : G.Z w.heap.size k with
      | none => rfl
      | some v => have := hI.z_lt hz; omega) (.inl (Nat.le_refl _)) (fun rec e0 => by have := (Array.getElem?_eq_some_iff.1 e0).1; omega) rfl rfl rfl (by simp) (fun c hc _ => heap_alloc_old w _ c hc)
  rw [hlr] at hA
  unfold Oper.wp execOp
  simp only [ho, (ev_r hE hx).int_inv, (ev_r hE hy).int_inv, Sem.run_bind, hrun, Result.andThen_ok]
  exact hK _ _ G' hA

/-- Whether a slice is nil, where that is known. -/
def snil (look : Nat → Blk) : AV → Option Bool
  | .nils => some true
  | .lst _ (_ :: _) => some false
  | .slc .. => some false
  | .gsl i n => match look i with
    | .own _ _ xs => match Nat.beq n xs.length && Nat.blt 0 n with
      | true => some false
      | false => none
    | .grow _ _ xs => match Nat.beq n xs.length && Nat.blt 0 n with
      | true => some false
      | false => none
    | _ => none
  | .oslc i n _ _ _ _ => match look i with
    | .own _ _ xs => match Nat.beq n xs.length with
      | true => some false
      | false => none
    | _ => none
  | _ => none

theorem snil_ok {G : Ghost} {bs : List Blk} {w : World} (hI : Inv G bs w) {v : AV} {b : Bool} {cv : Value} (h : snil (bat bs) v = some b) (hr : R G v cv) : ∃ a n c, cv = .slice a n c ∧ a.isNone = b := by
  have lst : ∀ {ex : Bool} {x : AV} {r : List AV}, R G (.lst ex (x :: r)) cv → ∃ a n c, cv = .slice a n c ∧ a.isNone = false := fun hr => by
    rcases hr.lst_inv with ⟨h, _⟩ | ⟨sz, c, o, cap, hv, _⟩
    · cases h
    · exact ⟨_, _, _, hv, rfl⟩
  unfold snil at h
  split at h
  · obtain rfl := Option.some.inj h
    cases hr with | imm _ _ h => cases h; exact ⟨_, _, _, rfl, rfl⟩
  · obtain rfl := Option.some.inj h; exact lst hr
  · obtain rfl := Option.some.inj h
    obtain ⟨c, ccap, _, _, _, hv⟩ := hr.slc_inv
    exact ⟨_, _, _, hv, rfl⟩
  · rename_i i n
    split at h
    · rename_i e sz xs hb
      split at h
      · rename_i hc
        simp only [Bool.and_eq_true] at hc
        obtain rfl := Option.some.inj h
        have hn := Nat.eq_of_beq_eq_true hc.1
        have h0 : 0 < n := by simpa [Nat.blt_eq] using hc.2
        obtain ⟨g, hg, hgn, hv⟩ := hr.gsl_own hI hb hn
        have hB := hI.batOk i
        rw [hb] at hB
        obtain ⟨_, _, _, cs, hown, _⟩ := hB.2 g hg
        rcases hown.2 with ⟨hv0, h00⟩ | ⟨g1, cap', cur, hv0, _⟩
        · omega
        · exact ⟨_, _, _, hv.trans hv0, rfl⟩
      · cases h
    · rename_i e sz xs hb
      split at h
      · rename_i hc
        simp only [Bool.and_eq_true] at hc
        obtain rfl := Option.some.inj h
        have hn := Nat.eq_of_beq_eq_true hc.1
        have h0 : 0 < n := by simpa [Nat.blt_eq] using hc.2
        have hl := hr.gsl_at hI hb hn
        cases xs with
        | nil => simp at hn; omega
        | cons x r => exact lst hl
      · cases h
    · cases h
  · rename_i i n q z l cp
    split at h
    · rename_i e sz xs hb
      split at h
      · rename_i hc
        obtain rfl := Option.some.inj h
        obtain ⟨c, l, lcap, ccap, hg, hl, _, hv⟩ := hr.oslc_inv hI hb (Nat.eq_of_beq_eq_true hc)
        exact ⟨_, _, _, hv, rfl⟩
      · cases h
    · cases h
  · cases h

theorem run_eqIn_snil {P : Program} {w : World} {t e : TypeId} (hu : P.underlying t = some (.slice e)) (p : Option Addr) (n c d : Nat) : (Op.equalIn (d + 1) t (.slice p n c) (.slice none 0 0)).run P w = .ok p.isNone w := by
  cases p <;> simp [Op.equalIn, run_underlying hu]
theorem run_eq_snil {P : Program} {w : World} {t e : TypeId} (hu : P.underlying t = some (.slice e)) (p : Option Addr) (n c : Nat) : (Op.equal t (.slice p n c) (.slice none 0 0)).run P w = .ok p.isNone w := run_eqIn_snil hu p n c 9999

theorem op_sneq {P : Program} {o : Oper} {s : St} {t e t' : TypeId} {x y : Operand} {v : AV} {b : Bool} (hu : P.underlying t = some (.slice e)) (ho : o.op = .binOp .neq t x y t')
    (hx : ev s.env x = some v) (hv : snil (bat s.bs) v = some b) (hy : ev s.env y = some .nils) : OpT P o s (.bool (!b)) s.bs :=
  op_pure fun G w a hI hE => by
    obtain ⟨p, n, c, h1, h2⟩ := snil_ok hI hv (ev_r hE hx)
    have h3 : a.eval y = .slice none 0 0 := by
      have hyr := ev_r hE hy
      generalize a.eval y = vy at hyr
      cases hyr with | imm _ _ h => cases h; rfl
    have hb : (binOp .neq t (.slice p n c) (.slice none 0 0)).run P w = .ok (.bool (!b)) w := by
      show (do pure (Value.bool (!(← Op.equal t (.slice p n c) (.slice none 0 0)))) : Sem Value).run P w = _
      rw [Sem.run_bind, run_eq_snil hu, h2]; rfl
    exact ⟨.bool (!b), by simp only [execOp, ho, h1, h3, eqGuard, Sem.run_bind, Sem.run_pure, ite_self, Result.andThen_ok, hb], .imm _ _ (.bool _)⟩
theorem op_seq {P : Program} {o : Oper} {s : St} {t e t' : TypeId} {x y : Operand} {v : AV} {b : Bool} (hu : P.underlying t = some (.slice e)) (ho : o.op = .binOp .eql t x y t')
    (hx : ev s.env x = some v) (hv : snil (bat s.bs) v = some b) (hy : ev s.env y = some .nils) : OpT P o s (.bool b) s.bs :=
  op_pure fun G w a hI hE => by
    obtain ⟨p, n, c, h1, h2⟩ := snil_ok hI hv (ev_r hE hx)
    have h3 : a.eval y = .slice none 0 0 := by
      have hyr := ev_r hE hy
      generalize a.eval y = vy at hyr
      cases hyr with | imm _ _ h => cases h; rfl
    have hb : (binOp .eql t (.slice p n c) (.slice none 0 0)).run P w = .ok (.bool b) w := by
      show (do pure (Value.bool (← Op.equal t (.slice p n c) (.slice none 0 0))) : Sem Value).run P w = _
      rw [Sem.run_bind, run_eq_snil hu, h2]; rfl
    exact ⟨.bool b, by simp only [execOp, ho, h1, h3, eqGuard, Sem.run_bind, Sem.run_pure, ite_self, Result.andThen_ok, hb], .imm _ _ (.bool _)⟩

/-- An empty slice literal. -/
theorem op_bslice0 {P : Program} {o : Oper} {s : St} {t e : TypeId} {size bytes : Nat} {z : Value} {d : TypeDesc} (ht : P.underlying t = some (.slice e)) (he : Inf P e size bytes z d) (ho : o.op = .buildSlice t 0 #[]) : OpT P o s (.lst true []) s.bs := by
  refine OpT.of (by simp [ho]) ?_
  intro G w a hI hE K Q hK
  have hf : ∀ c, c < w.heap.size → (w.alloc (.cells #[] e)).heap[c]? = w.heap[c]? := fun c hc => heap_alloc_old w _ c hc
  have hI' : Inv (G.setZ G.Z (.refl _)) s.bs (w.alloc (.cells #[] e)) := hI.later (by simp) hf (.refl _) (fun _ _ _ e => .inl e) fun c o v ez => by rw [rd_of_frame (hf c (hI.z_lt ez))]; exact hI.z c o v ez
  unfold Oper.wp
  have : (execOp a.eval o).run P w = .ok (.value (.slice (some ⟨w.heap.size, 0, none⟩) 0 0)) (w.alloc (.cells #[] e)) := by
    simp [execOp, ho, Instr.buildSlice, run_underlying ht, he.size, Instr.fill, newRow]
    have e0 : (Array.range 0) = #[] := by simp [Array.range]
    rw [e0, Array.map_empty]
  rw [this]
  exact hK _ _ G ⟨.imm _ _ (.nilslice true _), hI', .refl _, ⟨rfl, rfl, rfl, by simp, .refl _, fun _ _ _ e => .inl e, fun c hc _ => hf c hc, fun i c e => .inr ⟨i, e⟩, loop_of_same fun c hc => .inl (hf c hc)⟩⟩

section
variable {X : Cx} {o : Oper} {env : Env} {bs : List Blk}

/-- The block that a slice lies in. -/
def epre (look : Nat → Blk) : AV → List (Nat × Blk)
  | .gsl i _ => [(i, look i)]
  | .slc i _ _ _ _ => [(i, look i)]
  | .oslc i _ _ _ _ _ => [(i, look i)]
  | _ => []
theorem elems_congr {l l0 : Nat → Blk} {v : AV} (h : ∀ k b, (k, b) ∈ epre l v → l0 k = b) : elems l0 v = elems l v := by
  cases v with
  | gsl i n => have := h i (l i) (by simp [epre]); simp only [elems, this]
  | slc i a b c d => have := h i (l i) (by simp [epre]); simp only [elems, this]
  | oslc i a b c d e => have := h i (l i) (by simp [epre]); simp only [elems, this]
  | lst ex xs => cases ex <;> rfl
  | _ => rfl
theorem cut_congr {l l0 : Nat → Blk} {v : AV} (h : ∀ k b, (k, b) ∈ epre l v → l0 k = b) (xs : List AV) (cap : Option Nat) (a b : Nat) (mo : Option Nat) : cutAV l0 v xs cap a b mo = cutAV l v xs cap a b mo := by
  cases v with
  | gsl i n => have := h i (l i) (by simp [epre]); simp only [cutAV, this]
  | _ => rfl
theorem has_epre {bs : List Blk} {v : AV} : Has bs (epre (bat bs) v) := by
  cases v <;> simp [epre, Has]

def xmove (a : Option AV) : Option Ef := a.map fun v => ⟨v, [], []⟩
theorem xmove_ok {x : Operand} {e : Ef} (ho : o.op = .move x ∨ o.op = .assign x) (h : xmove (ev env x) = some e) : Sd X.P o env bs e := by
  unfold xmove at h
  rw [Option.map_eq_some_iff] at h
  obtain ⟨v, hv, rfl⟩ := h
  rcases ho with ho | ho
  · exact .q fun env' bs0 ha => op_move ho ((ha x (by simp [ho, Op.operands])).trans hv)
  · exact .q fun env' bs0 ha => op_assign ho ((ha x (by simp [ho, Op.operands])).trans hv)

def xalloc (X : Cx) (t nb : Nat) : Option Ef := (X.ti t).map fun i => ⟨.ptr nb 0, [(nb, .gone)], [(nb, .cells i.zav.cells)]⟩
theorem xalloc_ok {t nb : Nat} {e : Ef} (hnb : bat bs nb = .gone) (ho : o.op = .alloc t) (h : xalloc X t nb = some e) : Sd X.P o env bs e := by
  unfold xalloc at h
  rw [Option.map_eq_some_iff] at h
  obtain ⟨i, hi, rfl⟩ := h
  have ht := X.ok t i hi
  exact .w hnb fun env' bs0 ha hb0 => op_alloc_b ht.inf ht.zav.1 ht.zav.2.1 ho hb0

def xbox (a : Option AV) (nb : Nat) : Option Ef := a.bind fun v => okI (v.cells.all AV.one) (some ⟨.ptr nb 0, [(nb, .gone)], [(nb, .cells v.cells)]⟩)
theorem xbox_ok {t nb : Nat} {x : Operand} {e : Ef} (hnb : bat bs nb = .gone) (ho : o.op = .box t x) (h : xbox (ev env x) nb = some e) : Sd X.P o env bs e := by
  replace h := bi h; obtain ⟨v, hv, h⟩ := h
  replace h := okI_inv h; obtain ⟨h1, h⟩ := h
  obtain rfl := Option.some.inj h
  exact .w hnb fun env' bs0 ha hb0 => op_box_b ho ((ha x (by simp [ho, Op.operands])).trans hv) h1 hb0

def xbuild (X : Cx) (t : Nat) (ps : List (Nat × Operand)) (env : Env) : Option Ef := (X.ti t).bind fun i => (evp env ps).bind fun aps => match i.zav with
  | .agg zs => (match i.desc with
    | .struct fs => okI (!i.pl.isEmpty) ((afill (fun (j : Nat) => i.pl[j]?) zs aps).map fun cs => ⟨.agg cs, [], []⟩)
    | .array len e => (X.ti e).bind fun ie => (afill (fun (j : Nat) => some (j * ie.size, ie.size)) zs aps).map fun cs => ⟨.agg cs, [], []⟩
    | _ => none)
  | _ => none
theorem xbuild_ok {t : Nat} {ps : Array (Nat × Operand)} {e : Ef} (ho : o.op = .build t ps) (h : xbuild X t ps.toList env = some e) : Sd X.P o env bs e := by
  replace h := bi h; obtain ⟨i, hi, h⟩ := h
  replace h := bi h; obtain ⟨aps, hp, h⟩ := h
  have ht := X.ok t i hi
  have hops : ∀ env', (∀ x ∈ o.op.operands.toList, ev env' x = ev env x) → evp env' ps.toList = some aps := fun env' ha => evp_congr hp fun x hx => ha x (by simpa [ho, Op.operands] using hx)
  have ho' : o.op = .build t ps.toList.toArray := by simpa using ho
  have hz := ht.zav.1
  split at h
  · rename_i zs hzs
    rw [hzs] at hz
    split at h
    · rename_i fs hd
      have hin := ht.inf
      rw [hd] at hin
      replace h := okI_inv h; obtain ⟨hne, h⟩ := h
      rw [Option.map_eq_some_iff] at h
      obtain ⟨cs, hcs, rfl⟩ := h
      obtain ⟨fs', hd', hpl⟩ := ht.pl (by intro e; rw [e] at hne; cases hne)
      obtain rfl : fs = fs' := by rw [hd] at hd'; simpa using hd'
      exact .q fun env' bs0 ha => op_build hin hpl hz ho' (hops env' ha) hcs
    · rename_i len e1 hd
      have hin := ht.inf
      rw [hd] at hin
      replace h := bi h; obtain ⟨ie, hie, h⟩ := h
      rw [Option.map_eq_some_iff] at h
      obtain ⟨cs, hcs, rfl⟩ := h
      exact .q fun env' bs0 ha => op_build_a hin (X.ok e1 ie hie).inf hz ho' (hops env' ha) hcs
    · cases h
  · cases h

/-- Whether a value holds no block. -/
def immB : AV → Bool
  | .ptr .. | .rptr .. | .slc .. | .map _ | .und | .yld _ | .optr .. | .oslc .. | .gsl .. => false
  | .agg cs => cs.all fun c => match c with
    | .ptr .. | .rptr .. | .slc .. | .map _ | .und | .yld _ | .optr .. | .oslc .. | .gsl .. | .agg _ | .tup _ | .fn .. => false
    | _ => true
  | .tup _ | .fn .. => false
  | _ => true

def xbslice (X : Cx) (t len : Nat) (ps : List (Nat × Operand)) (env : Env) (look : Nat → Blk) (nb : Nat) : Option Ef := (X.ti t).bind fun it => match it.desc with
  | .slice e => (X.ti e).bind fun ie => okI (inRow ps 0 && Nat.beq (ps.map Prod.snd).length len && Nat.blt 0 ie.size && Nat.blt 0 len && Nat.ble (len * ie.size) 16777216)
      ((evs env (ps.map Prod.snd)).bind fun avs => okI (szAll ie.size avs) (some ⟨.slc nb 0 ie.size len (some len), [(nb, .gone)], [(nb, .rows ie.size avs)]⟩))
  | _ => none
theorem xbslice_ok {t len nb : Nat} {ps : Array (Nat × Operand)} {e : Ef} (hnb : bat bs nb = .gone) (ho : o.op = .buildSlice t len ps) (h : xbslice X t len ps.toList env (bat bs) nb = some e) : Sd X.P o env bs e := by
  replace h := bi h; obtain ⟨it, hi, h⟩ := h
  have hu := (X.ok t it hi).inf.und
  split at h
  · rename_i e1 hd
    rw [hd] at hu
    replace h := bi h; obtain ⟨ie, hie, h⟩ := h
    replace h := okI_inv h; obtain ⟨hc, h⟩ := h
    simp only [Bool.and_eq_true] at hc
    obtain ⟨⟨⟨⟨c1, c2⟩, c3⟩, c4⟩, c5⟩ := hc
    replace h := bi h; obtain ⟨avs, ha1, h⟩ := h
    replace h := okI_inv h; obtain ⟨hsz, h⟩ := h
    obtain rfl := Option.some.inj h
    refine .w hnb fun env' bs0 ha hb0 => ?_
    exact op_bslice_r (s := ⟨env', bs0⟩) hu (X.ok e1 ie hie).inf (ps := ps.toList) (by simpa using ho) (inRow_eq c1) (Nat.eq_of_beq_eq_true c2) (by simpa [Nat.blt_eq] using c3) (by simpa [Nat.blt_eq] using c4) (Nat.le_of_ble_eq_true c5)
        (evs_congr ha1 fun x hx => ha x (by simpa [ho, Op.operands] using hx)) hsz hb0
  · cases h

def xmkf (f : Nat) (xs : List Operand) (env : Env) : Option Ef := (evs env xs).map fun vs => ⟨.fn f vs, [], []⟩
theorem xmkf_ok {f : Nat} {xs : Array Operand} {e : Ef} (ho : o.op = .makeFunc (.func f) #[] xs) (h : xmkf f xs.toList env = some e) : Sd X.P o env bs e := by
  unfold xmkf at h
  rw [Option.map_eq_some_iff] at h
  obtain ⟨vs, hv, rfl⟩ := h
  exact .q fun env' bs0 ha => op_mkfunc (xs := xs.toList) (by simpa using ho) (evs_congr hv fun x hx => ha x (by simpa [ho, Op.operands] using hx))

def xmkmap (nb : Nat) : Option Ef := some ⟨.map nb, [(nb, .gone)], [(nb, .map [])]⟩
theorem xmkmap_ok {t nb : Nat} {e : Ef} (hnb : bat bs nb = .gone) (ho : o.op = .makeMap t none) (h : xmkmap nb = some e) : Sd X.P o env bs e := by
  obtain rfl := Option.some.inj h
  exact .w hnb fun env' bs0 ha hb0 => op_mkmap_b ho hb0

def rep : Nat → AV → List AV
  | 0, _ => []
  | n + 1, v => v :: rep n v
theorem rep_eq : ∀ (n : Nat) (v : AV), rep n v = List.replicate n v
  | 0, _ => rfl
  | n + 1, v => by simp only [rep, rep_eq n v, List.replicate_succ]

def xmks (X : Cx) (t : Nat) (a b : AV) (nb : Nat) : Option Ef := match a, b with
  | .int _ n, .int _ m => (X.ti t).bind fun it => match it.desc with
    | .slice e => (X.ti e).bind fun ie => okI (Nat.blt 0 ie.size && decide (0 ≤ n) && decide (n ≤ m) && decide ((ie.bytes : Int) * m ≤ 281474976710656) && decide (m ≤ 9223372036854775807) && decide (m.toNat ≤ maxLen)) (match decide (m = n) with
        | true => some ⟨.slc nb 0 ie.size n.toNat (some n.toNat), [(nb, .gone)], [(nb, .rows ie.size (rep n.toNat ie.zav))]⟩
        | false => some ⟨.gsl nb n.toNat, [(nb, .gone)], [(nb, .own e ie.size (rep n.toNat ie.zav))]⟩)
    | _ => none
  | _, _ => none
theorem xmks_ok {t nb : Nat} {x y : Operand} {a b : AV} {e : Ef} (hnb : bat bs nb = .gone) (ho : o.op = .makeSlice t x y) (hx : ev env x = some a) (hy : ev env y = some b) (h : xmks X t a b nb = some e) : Sd X.P o env bs e := by
  have mx : x ∈ o.op.operands.toList := by simp [ho, Op.operands]
  have my : y ∈ o.op.operands.toList := by simp [ho, Op.operands]
  unfold xmks at h
  split at h
  · replace h := bi h; obtain ⟨it, hi, h⟩ := h
    have hu := (X.ok t it hi).inf.und
    split at h
    · rename_i e1 hd
      rw [hd] at hu
      replace h := bi h; obtain ⟨ie, hie, h⟩ := h
      have he := X.ok e1 ie hie
      replace h := okI_inv h; obtain ⟨hc, h⟩ := h
      simp only [Bool.and_eq_true] at hc
      obtain ⟨⟨⟨⟨⟨h0, c1⟩, c2⟩, c3⟩, c4⟩, c5⟩ := hc
      have h0 : 0 < ie.size := by simpa [Nat.blt_eq] using h0
      have c1 := of_decide_eq_true c1
      have c2 := of_decide_eq_true c2
      have c3 := of_decide_eq_true c3
      have c4 := of_decide_eq_true c4
      have c5 := of_decide_eq_true c5
      split at h
      · rename_i hmn
        have hmn := of_decide_eq_true hmn
        subst hmn
        obtain rfl := Option.some.inj h
        rw [rep_eq]
        exact .w hnb fun env' bs0 ha hb0 => op_make hu he.inf he.zav.1 he.zav.2.1 he.zav.2.2.1 h0 ho ((ha x mx).trans hx) ((ha y my).trans hy) c1 c3 c4 hb0
      · obtain rfl := Option.some.inj h
        rw [rep_eq]
        exact .w hnb fun env' bs0 ha hb0 => op_make_o hu he.inf he.zav.1 he.zav.2.1 he.zav.2.2.1 h0 ho ((ha x mx).trans hx) ((ha y my).trans hy) c1 c2 c3 c4 c5 hb0
    · cases h
  · cases h

def xextr (a : AV) (i : Nat) : Option Ef := match a with
  | .tup vs => (nth vs i).map fun v => ⟨v, [], []⟩
  | _ => none
theorem xextr_ok {x : Operand} {i : Nat} {a : AV} {e : Ef} (ho : o.op = .extract x i) (hx : ev env x = some a) (h : xextr a i = some e) : Sd X.P o env bs e := by
  unfold xextr at h
  split at h
  · rw [Option.map_eq_some_iff] at h
    obtain ⟨v, hv, rfl⟩ := h
    rw [nth_eq] at hv
    exact .q fun env' bs0 ha => op_extract ho ((ha x (by simp [ho, Op.operands])).trans hx) hv
  · cases h

def xnil (a : AV) : Option Ef := match a with
  | .ptr _ _ | .rptr _ _ _ _ | .eptr _ _ _ => some ⟨a, [], []⟩
  | _ => none
theorem xnil_ok {x : Operand} {a : AV} {e : Ef} (ho : o.op = .nilCheck x) (hx : ev env x = some a) (h : xnil a = some e) : Sd X.P o env bs e := by
  have mx : x ∈ o.op.operands.toList := by simp [ho, Op.operands]
  unfold xnil at h
  split at h
  · obtain rfl := Option.some.inj h; exact .q fun env' bs0 ha => op_nilcheck ho ((ha x mx).trans hx) (.ptr _ _)
  · obtain rfl := Option.some.inj h; exact .q fun env' bs0 ha => op_nilcheck ho ((ha x mx).trans hx) (.rptr _ _ _ _)
  · obtain rfl := Option.some.inj h; exact .q fun env' bs0 ha => op_nilcheck ho ((ha x mx).trans hx) (.eptr _ _ _)
  · cases h

/-! ### maps -/

def beqK (a b : IntKind) : Bool := decide (a = b)
def decM (kk : IntKind) : List (AV × AV) → Option (List (Int × AV))
  | [] => some []
  | (.int k n, v) :: r => match decide (k = kk), decM kk r with
    | true, some l => some ((n, v) :: l)
    | _, _ => none
  | _ :: _ => none
theorem decM_ok {kk : IntKind} : ∀ {es : List (AV × AV)} {l : List (Int × AV)}, decM kk es = some l → Blk.map es = mb kk (fun v => v) l
  | [], l, h => by obtain rfl := Option.some.inj h; rfl
  | p :: r, l, h => by
    unfold decM at h
    split at h
    · rename_i e; cases e
    · rename_i k n v r' e
      cases e
      split at h
      · rename_i l' hk hr
        obtain rfl := Option.some.inj h
        have := decM_ok hr
        simp only [mb, Blk.map.injEq] at this ⊢
        rw [this, of_decide_eq_true hk]; rfl
      · cases h
    · cases h

def mfin : List (Int × AV) → Int → Option AV
  | [], _ => none
  | (k, v) :: r, n => match decide (k = n) with
    | true => some v
    | false => mfin r n
theorem mfin_eq : ∀ (l : List (Int × AV)) (n : Int), mget l n = mfin l n
  | [], n => rfl
  | (k, v) :: r, n => by
    have ih := mfin_eq r n
    simp only [mfin, mget, mfind] at ih ⊢
    by_cases h : k = n
    · simp [h]
    · simp only [if_neg h, decide_eq_false h]
      rw [← ih]
      cases mfind r n with
      | none => rfl
      | some j => simp
def mput : List (Int × AV) → Int → AV → List (Int × AV)
  | [], n, v => [(n, v)]
  | (k, u) :: r, n, v => match decide (k = n) with
    | true => (n, v) :: r
    | false => (k, u) :: mput r n v
theorem mput_eq : ∀ (l : List (Int × AV)) (n : Int) (v : AV), mset l n v = mput l n v
  | [], n, v => rfl
  | (k, u) :: r, n, v => by
    have ih := mput_eq r n v
    simp only [mput, mset, mfind] at ih ⊢
    by_cases h : k = n
    · simp [h]
    · simp only [if_neg h, decide_eq_false h]
      rw [← ih]
      cases mfind r n with
      | none => rfl
      | some j => simp

def xlook (X : Cx) (t : Nat) (look : Nat → Blk) (m k : AV) (ok : Bool) : Option Ef := match m, k with
  | .map i, .int kk n => (X.ti t).bind fun it => match it.desc with
    | .map kt et => (X.ti kt).bind fun ik => (match ik.desc with
      | .int kk' => okI (decide (kk' = kk)) ((X.ti et).bind fun ie => match look i with
        | .map es => (decM kk es).map fun l => ⟨(match ok with | true => .tup [(mfin l n).getD ie.zav, .bool (mfin l n).isSome] | false => (mfin l n).getD ie.zav), [(i, .map es)], []⟩
        | _ => none)
      | _ => none)
    | _ => none
  | _, _ => none
theorem xlook_ok {t : Nat} {x y : Operand} {ok : Bool} {m k : AV} {e : Ef} (ho : o.op = .lookup t x y ok) (hx : ev env x = some m) (hy : ev env y = some k) (h : xlook X t (bat bs) m k ok = some e) : Sd X.P o env bs e := by
  have mx : x ∈ o.op.operands.toList := by simp [ho, Op.operands]
  have my : y ∈ o.op.operands.toList := by simp [ho, Op.operands]
  unfold xlook at h
  split at h
  · rename_i i kk n
    replace h := bi h; obtain ⟨it, h1, h⟩ := h
    split at h
    · rename_i kt et h2
      replace h := bi h; obtain ⟨ik, h3, h⟩ := h
      split at h
      · rename_i kk' h4
        replace h := okI_inv h; obtain ⟨hk, h⟩ := h
        have hk := of_decide_eq_true hk
        subst hk
        replace h := bi h; obtain ⟨ie, h5, h⟩ := h
        split at h
        · rename_i es hb
          rw [Option.map_eq_some_iff] at h
          obtain ⟨l, hl, rfl⟩ := h
          have u1 := (X.ok t it h1).inf.und; rw [h2] at u1
          have u2 := (X.ok kt ik h3).inf.und; rw [h4] at u2
          have he := X.ok et ie h5
          have hes := decM_ok hl
          rw [hes] at hb ⊢
          refine .r hb fun env' bs0 ha hb0 => ?_
          have hg := get_bat _ _ _ hb0 (by simp [mb])
          cases ok with
          | false => show OpT X.P o ⟨env', bs0⟩ ((mfin l n).getD ie.zav) bs0; rw [← mfin_eq]; exact op_lookup (e := fun v => v) u1 u2 he.inf he.zav.1 ho ((ha x mx).trans hx) ((ha y my).trans hy) hg
          | true => show OpT X.P o ⟨env', bs0⟩ (.tup [(mfin l n).getD ie.zav, .bool (mfin l n).isSome]) bs0; rw [← mfin_eq]; exact op_lookup_ok (e := fun v => v) u1 u2 he.inf he.zav.1 ho ((ha x mx).trans hx) ((ha y my).trans hy) hg
        · cases h
      · cases h
    · cases h
  · cases h

def encM (kk : IntKind) (l : List (Int × AV)) : List (AV × AV) := l.map fun p => (.int kk p.1, p.2)
def xmapu (X : Cx) (t : Nat) (look : Nat → Blk) (m k v : AV) : Option Ef := match m, k with
  | .map i, .int kk n => (X.ti t).bind fun it => match it.desc with
    | .map kt et => (X.ti kt).bind fun ik => (match ik.desc with
      | .int kk' => okI (decide (kk' = kk)) (match look i with
        | .map es => (decM kk es).map fun l => ⟨.tup [], [(i, .map es)], [(i, .map (encM kk (mput l n v)))]⟩
        | _ => none)
      | _ => none)
    | _ => none
  | _, _ => none
theorem xmapu_ok {t : Nat} {x y z : Operand} {m k v : AV} {e : Ef} (ho : o.op = .mapUpdate t x y z) (hx : ev env x = some m) (hy : ev env y = some k) (hz : ev env z = some v) (h : xmapu X t (bat bs) m k v = some e) : Sd X.P o env bs e := by
  have mx : x ∈ o.op.operands.toList := by simp [ho, Op.operands]
  have my : y ∈ o.op.operands.toList := by simp [ho, Op.operands]
  have mz : z ∈ o.op.operands.toList := by simp [ho, Op.operands]
  unfold xmapu at h
  split at h
  · rename_i i kk n
    replace h := bi h; obtain ⟨it, h1, h⟩ := h
    split at h
    · rename_i kt et h2
      replace h := bi h; obtain ⟨ik, h3, h⟩ := h
      split at h
      · rename_i kk' h4
        replace h := okI_inv h; obtain ⟨hk, h⟩ := h
        have hk := of_decide_eq_true hk
        subst hk
        split at h
        · rename_i es hb
          rw [Option.map_eq_some_iff] at h
          obtain ⟨l, hl, rfl⟩ := h
          have u1 := (X.ok t it h1).inf.und; rw [h2] at u1
          have u2 := (X.ok kt ik h3).inf.und; rw [h4] at u2
          have hes := decM_ok hl
          have he2 : Blk.map (encM kk' (mput l n v)) = mb kk' (fun v => v) (mset l n v) := by rw [mput_eq]; rfl
          rw [he2]
          rw [hes] at hb ⊢
          refine .w hb fun env' bs0 ha hb0 => ?_
          rw [bset_set _ _ _ (bat_lt hb0 (by simp [mb]))]
          exact op_mapset (e := fun v => v) u1 u2 ho ((ha x mx).trans hx) ((ha y my).trans hy) ((ha z mz).trans hz) (get_bat _ _ _ hb0 (by simp [mb])) rfl
        · cases h
      · cases h
    · cases h
  · cases h

/-! ### builtins -/

def xlen (X : Cx) (t : Nat) (look : Nat → Blk) (a : AV) : Option Ef := (X.ti t).bind fun it => match it.desc, a with
  | .slice _, .lst _ xs => some ⟨.int .i64 xs.length, [], []⟩
  | .slice _, .gsl b n => (match look b with
    | .grow e sz xs => okI (Nat.beq n xs.length) (some ⟨.int .i64 n, [(b, .grow e sz xs)], []⟩)
    | .own e sz xs => okI (Nat.beq n xs.length) (some ⟨.int .i64 n, [(b, .own e sz xs)], []⟩)
    | _ => none)
  | .slice _, .oslc b n _ _ len _ => (match look b with
    | .own e sz xs => okI (Nat.beq n xs.length) (some ⟨.int .i64 len, [(b, .own e sz xs)], []⟩)
    | _ => none)
  | .slice _, .slc _ _ _ n _ => some ⟨.int .i64 n, [], []⟩
  | .slice _, .nils => some ⟨.int .i64 0, [], []⟩
  | _, _ => none
theorem xlen_ok {t : Nat} {x : Operand} {a : AV} {e : Ef} (ho : o.op = .call { callee := .builtin .len, args := #[x], argTypes := #[t] }) (hx : ev env x = some a) (h : xlen X t (bat bs) a = some e) : Sd X.P o env bs e := by
  have mx : x ∈ o.op.operands.toList := by simp [ho, Op.operands, Call.operands]
  replace h := bi h; obtain ⟨it, hi, h⟩ := h
  have hu := (X.ok t it hi).inf.und
  split at h
  · rename_i hd; rw [hd] at hu
    obtain rfl := Option.some.inj h
    exact .q fun env' bs0 ha => op_len hu ho ((ha x mx).trans hx)
  · rename_i hd; rw [hd] at hu
    split at h
    · rename_i e sz xs hb
      replace h := okI_inv h; obtain ⟨hn, h⟩ := h
      obtain rfl := Option.some.inj h
      exact .r hb fun env' bs0 ha hb0 => op_len_g hu ho ((ha x mx).trans hx) hb0 (Nat.eq_of_beq_eq_true hn)
    · rename_i e sz xs hb
      replace h := okI_inv h; obtain ⟨hn, h⟩ := h
      obtain rfl := Option.some.inj h
      exact .r hb fun env' bs0 ha hb0 => op_len_own hu ho ((ha x mx).trans hx) hb0 (Nat.eq_of_beq_eq_true hn)
    · cases h
  · rename_i hd; rw [hd] at hu
    split at h
    · rename_i e sz xs hb
      replace h := okI_inv h; obtain ⟨hn, h⟩ := h
      obtain rfl := Option.some.inj h
      exact .r hb fun env' bs0 ha hb0 => op_len_os hu ho ((ha x mx).trans hx) hb0 (Nat.eq_of_beq_eq_true hn)
    · cases h
  · rename_i hd; rw [hd] at hu
    obtain rfl := Option.some.inj h
    exact .q fun env' bs0 ha => op_len_s hu ho ((ha x mx).trans hx)
  · rename_i hd; rw [hd] at hu
    obtain rfl := Option.some.inj h
    exact .q fun env' bs0 ha => op_len_n hu ho ((ha x mx).trans hx)
  · cases h

def nonE : List AV → Bool
  | [] => false
  | _ :: _ => true
theorem nonE_ok {l : List AV} (h : nonE l = true) : l ≠ [] := by cases l with | nil => cases h | cons => simp

def xapp (X : Cx) (t : Nat) (a b : AV) (look : Nat → Blk) (nb : Nat) : Option Ef := (X.ti t).bind fun it => match it.desc with
  | .slice e => (X.ti e).bind fun ie => okI (Nat.blt 0 ie.size) ((elems look b).bind fun ysc => okI (szAll ie.size ysc.1) (match a, nonE ysc.1 with
    | .gsl i n, true => (match look i with
      | .own e' sz xs => okI (Nat.beq e' e && Nat.beq sz ie.size && Nat.beq n xs.length && Nat.ble ((xs.length + ysc.1.length) * ie.bytes) 140737488355328 && Nat.ble (xs.length + ysc.1.length) maxLen)
          (some ⟨.gsl i (xs ++ ysc.1).length, (i, .own e' sz xs) :: epre look b, [(i, .own e' sz (xs ++ ysc.1))]⟩)
      | _ => none)
    | a, true => (elems look a).bind fun xsc => okI (szAll ie.size xsc.1 && (match xsc.2 with | some c => Nat.beq c xsc.1.length | none => false) && Nat.ble ((xsc.1.length + ysc.1.length) * ie.bytes) 140737488355328 && Nat.ble (xsc.1.length + ysc.1.length) maxLen)
        (some ⟨.gsl nb (xsc.1 ++ ysc.1).length, (nb, .gone) :: (epre look a ++ epre look b), [(nb, .own e ie.size (xsc.1 ++ ysc.1))]⟩)
    | a, false => (elems look a).bind fun xsc => okI (szAll ie.size xsc.1) (some ⟨a, epre look a ++ epre look b, []⟩)))
  | _ => none
theorem xapp_ok {t nb : Nat} {x y : Operand} {a b : AV} {e : Ef} (hnb : bat bs nb = .gone) (ho : o.op = .call { callee := .builtin .append, args := #[x, y], argTypes := #[t, t] }) (hx : ev env x = some a) (hy : ev env y = some b) (h : xapp X t a b (bat bs) nb = some e) : Sd X.P o env bs e := by
  have mx : x ∈ o.op.operands.toList := by simp [ho, Op.operands, Call.operands]
  have my : y ∈ o.op.operands.toList := by simp [ho, Op.operands, Call.operands]
  replace h := bi h; obtain ⟨it, hi, h⟩ := h
  have hu := (X.ok t it hi).inf.und
  split at h
  · rename_i e1 hd
    rw [hd] at hu
    replace h := bi h; obtain ⟨ie, hie, h⟩ := h
    have he := X.ok e1 ie hie
    replace h := okI_inv h; obtain ⟨h0, h⟩ := h
    have h0 : 0 < ie.size := by simpa [Nat.blt_eq] using h0
    replace h := bi h; obtain ⟨⟨ys, cy⟩, hys, h⟩ := h
    replace h := okI_inv h; obtain ⟨hsy, h⟩ := h
    have hsy := sized_of hsy
    have econ : ∀ {bs0 : List Blk} {v : AV}, Has bs0 (epre (bat bs) v) → elems (bat bs0) v = elems (bat bs) v := fun hh => elems_congr fun k b hk => has_iff.1 hh k b hk
    have other : nonE ys = true → ((elems (bat bs) a).bind fun xsc => okI (szAll ie.size xsc.1 && (match xsc.2 with | some c => Nat.beq c xsc.1.length | none => false) && Nat.ble ((xsc.1.length + ys.length) * ie.bytes) 140737488355328 && Nat.ble (xsc.1.length + ys.length) maxLen)
        (some (⟨.gsl nb (xsc.1 ++ ys).length, (nb, .gone) :: (epre (bat bs) a ++ epre (bat bs) b), [(nb, .own e1 ie.size (xsc.1 ++ ys))]⟩ : Ef))) = some e → Sd X.P o env bs e := fun hne h => by
      replace h := bi h; obtain ⟨⟨xs, cx⟩, hxs, h⟩ := h
      replace h := okI_inv h; obtain ⟨hc, h⟩ := h
      simp only [Bool.and_eq_true] at hc
      obtain ⟨⟨⟨c1, c2⟩, c3⟩, c4⟩ := hc
      obtain rfl : cx = some xs.length := by
        cases cx with
        | none => cases c2
        | some c => rw [Nat.eq_of_beq_eq_true c2]
      obtain rfl := Option.some.inj h
      refine ⟨⟨hnb, has_app.2 ⟨has_epre, has_epre⟩⟩, fun k hk => by simp at hk; simp [hk], fun env' bs0 ha h1 => ?_⟩
      obtain ⟨g1, g2⟩ := h1
      obtain ⟨g2, g3⟩ := has_app.1 g2
      exact op_append_x hu he.inf he.zav.2.2.2 h0 ho ((ha x mx).trans hx) ((econ g2).trans hxs) (sized_of c1) g1 ((ha y my).trans hy) ((econ g3).trans hys) hsy (nonE_ok hne) (Nat.le_of_ble_eq_true c3) (Nat.le_of_ble_eq_true c4)
    split at h
    · rename_i i n hne
      split at h
      · rename_i e' sz xs hb
        replace h := okI_inv h; obtain ⟨hc, h⟩ := h
        simp only [Bool.and_eq_true] at hc
        obtain ⟨⟨⟨⟨c1, c2⟩, c3⟩, c4⟩, c5⟩ := hc
        obtain rfl := Nat.eq_of_beq_eq_true c1
        have c2 := Nat.eq_of_beq_eq_true c2
        subst c2
        obtain rfl := Option.some.inj h
        refine ⟨⟨hb, has_epre⟩, fun k hk => by simp at hk; simp [hk], fun env' bs0 ha h1 => ?_⟩
        exact op_append_o hu he.inf he.zav.2.2.2 h0 ho ((ha x mx).trans hx) h1.1 (Nat.eq_of_beq_eq_true c3) ((ha y my).trans hy) ((econ h1.2).trans hys) hsy (nonE_ok hne) (Nat.le_of_ble_eq_true c4) (Nat.le_of_ble_eq_true c5)
      · cases h
    · rename_i h1 h2
      first | exact other h1 h | exact other h2 h
    · rename_i hne
      have hys0 : ys = [] := by cases ys with | nil => rfl | cons => cases hne
      subst hys0
      replace h := bi h; obtain ⟨⟨xs, cx⟩, hxs, h⟩ := h
      replace h := okI_inv h; obtain ⟨hsx, h⟩ := h
      obtain rfl := Option.some.inj h
      refine ⟨has_app.2 ⟨has_epre, has_epre⟩, fun _ hk => by simp at hk, fun env' bs0 ha h1 => ?_⟩
      obtain ⟨g2, g3⟩ := has_app.1 h1
      exact op_append_e (s := ⟨env', bs0⟩) hu he.inf h0 ho ((ha x mx).trans hx) ((econ g2).trans hxs) (sized_of hsx) ((ha y my).trans hy) ((econ g3).trans hys)
  · cases h

def xslice (X : Cx) (t : Nat) (v : AV) (lo hi mx : Option Operand) (env : Env) (look : Nat → Blk) : Option Ef := (X.ti t).bind fun it => match it.desc with
  | .slice e => (X.ti e).bind fun ie => okI (Nat.blt 0 ie.size) ((elems look v).bind fun xsc => okI (szAll ie.size xsc.1) ((bndA env 0 lo).bind fun l => (bndA env xsc.1.length hi).bind fun h => okI (Nat.ble l h && Nat.ble h xsc.1.length) (match mx with
      | none => (cutAV look v xsc.1 xsc.2 l h none).map fun r => ⟨r, epre look v, []⟩
      | some m' => (bndA env 0 (some m')).bind fun m => okI (hi.isSome && Nat.ble h m && (Nat.ble m xsc.1.length || (match xsc.2 with | some c => Nat.ble m c | none => false))) ((cutAV look v xsc.1 xsc.2 l h (some m)).map fun r => ⟨r, epre look v, []⟩))))
  | _ => none
theorem xslice_ok {t : Nat} {x : Operand} {v : AV} {lo hi mx : Option Operand} {e : Ef} (ho : o.op = .slice t x lo hi mx) (hx : ev env x = some v) (h : xslice X t v lo hi mx env (bat bs) = some e) : Sd X.P o env bs e := by
  have mx' : x ∈ o.op.operands.toList := by simp [ho, Op.operands]
  have bcon : ∀ {env' : Env} {d : Nat} {oo : Option Operand}, (∀ y ∈ oo.toList, ev env' y = ev env y) → bndA env' d oo = bndA env d oo := fun {env' d oo} hh => by
    cases oo with
    | none => rfl
    | some y => simp only [bndA, hh y (by simp)]
  have mlo : ∀ y ∈ lo.toList, y ∈ o.op.operands.toList := fun y hy => by cases lo <;> simp at hy; subst hy; simp [ho, Op.operands]
  have mhi : ∀ y ∈ hi.toList, y ∈ o.op.operands.toList := fun y hy => by cases hi <;> simp at hy; subst hy; simp [ho, Op.operands]
  have mmx : ∀ y ∈ mx.toList, y ∈ o.op.operands.toList := fun y hy => by cases mx <;> simp at hy; subst hy; simp [ho, Op.operands]
  replace h := bi h; obtain ⟨it, hi0, h⟩ := h
  have hu := (X.ok t it hi0).inf.und
  split at h
  · rename_i e1 hd
    rw [hd] at hu
    replace h := bi h; obtain ⟨ie, hie, h⟩ := h
    have he := X.ok e1 ie hie
    replace h := okI_inv h; obtain ⟨h0, h⟩ := h
    have h0 : 0 < ie.size := by simpa [Nat.blt_eq] using h0
    replace h := bi h; obtain ⟨⟨xs, cx⟩, hxs, h⟩ := h
    replace h := okI_inv h; obtain ⟨hsx, h⟩ := h
    replace h := bi h; obtain ⟨l, hl, h⟩ := h
    replace h := bi h; obtain ⟨hh, hhh, h⟩ := h
    replace h := okI_inv h; obtain ⟨hc, h⟩ := h
    simp only [Bool.and_eq_true] at hc
    have c1 := Nat.le_of_ble_eq_true hc.1
    have c2 := Nat.le_of_ble_eq_true hc.2
    have econ : ∀ {bs0 : List Blk}, Has bs0 (epre (bat bs) v) → elems (bat bs0) v = elems (bat bs) v := fun hh => elems_congr fun k b hk => has_iff.1 hh k b hk
    split at h
    · rw [Option.map_eq_some_iff] at h
      obtain ⟨r, hr, rfl⟩ := h
      refine ⟨has_epre, fun _ hk => by simp at hk, fun env' bs0 ha h1 => ?_⟩
      exact op_slice (s := ⟨env', bs0⟩) none hu he.inf h0 ho ((ha x mx').trans hx) ((econ h1).trans hxs) (sized_of hsx) ((bcon fun y hy => ha y (mlo y hy)).trans hl) ((bcon fun y hy => ha y (mhi y hy)).trans hhh) (fun _ => rfl) (.inl ⟨rfl, rfl⟩) c1 c2
        ((cut_congr (fun k b hk => has_iff.1 h1 k b hk) _ _ _ _ _).trans hr)
    · rename_i m'
      replace h := bi h; obtain ⟨m, hm, h⟩ := h
      replace h := okI_inv h; obtain ⟨hc3, h⟩ := h
      simp only [Bool.and_eq_true] at hc3
      obtain ⟨⟨d1, d2⟩, d3⟩ := hc3
      rw [Option.map_eq_some_iff] at h
      obtain ⟨r, hr, rfl⟩ := h
      refine ⟨has_epre, fun _ hk => by simp at hk, fun env' bs0 ha h1 => ?_⟩
      refine op_slice (s := ⟨env', bs0⟩) (some m) hu he.inf h0 ho ((ha x mx').trans hx) ((econ h1).trans hxs) (sized_of hsx) ((bcon fun y hy => ha y (mlo y hy)).trans hl) ((bcon fun y hy => ha y (mhi y hy)).trans hhh) (fun e => by rw [e] at d1; cases d1)
        (.inr ⟨m, (bcon fun y hy => ha y (mmx y hy)).trans hm, by simp, rfl, Nat.le_of_ble_eq_true d2, ?_⟩) c1 c2 ((cut_congr (fun k b hk => has_iff.1 h1 k b hk) _ _ _ _ _).trans hr)
      simp only [Bool.or_eq_true] at d3
      rcases d3 with d3 | d3
      · exact .inl (Nat.le_of_ble_eq_true d3)
      · cases cx with
        | none => cases d3
        | some c => exact .inr ⟨c, rfl, Nat.le_of_ble_eq_true d3⟩
  · cases h

def xmx (a b : AV) (g : Int → Int → Int) : Option Ef := match a, b with
  | .int k x, .int k' y => okI (k == k') (some ⟨.int k (g x y), [], []⟩)
  | _, _ => none

def xblt (X : Cx) (b : Builtin) (args : List Operand) (ts : List TypeId) (env : Env) (look : Nat → Blk) (nb : Nat) : Option Ef := match b, args, ts with
  | .len, [x], [t] => (ev env x).bind fun a => xlen X t look a
  | .append, [x, y], [t, t'] => okI (Nat.beq t t') ((ev env x).bind fun a => (ev env y).bind fun b => xapp X t a b look nb)
  | .max, [x, y], _ => (ev env x).bind fun a => (ev env y).bind fun b => xmx a b mx
  | .min, [x, y], _ => (ev env x).bind fun a => (ev env y).bind fun b => xmx a b mn
  | _, _, _ => none
theorem xblt_ok {b : Builtin} {args : Array Operand} {ts : Array TypeId} {nb : Nat} {e : Ef} (hnb : bat bs nb = .gone) (ho : o.op = .call { callee := .builtin b, args := args, argTypes := ts }) (h : xblt X b args.toList ts.toList env (bat bs) nb = some e) : Sd X.P o env bs e := by
  rcases args with ⟨args⟩
  rcases ts with ⟨ts⟩
  unfold xblt at h
  simp only at h
  split at h
  · replace h := bi h; obtain ⟨a, ha, h⟩ := h
    exact xlen_ok ho ha h
  · replace h := okI_inv h; obtain ⟨ht, h⟩ := h
    obtain rfl := Nat.eq_of_beq_eq_true ht
    replace h := bi h; obtain ⟨a, ha, h⟩ := h
    replace h := bi h; obtain ⟨b, hb, h⟩ := h
    exact xapp_ok hnb ho ha hb h
  · rename_i _ _ x y
    replace h := bi h; obtain ⟨a, ha, h⟩ := h
    replace h := bi h; obtain ⟨b, hb, h⟩ := h
    unfold xmx at h
    split at h
    · replace h := okI_inv h; obtain ⟨ht, h⟩ := h
      rename_i k x' k' y'
      obtain rfl : k = k' := by simpa using ht
      obtain rfl := Option.some.inj h
      exact .q fun env' bs0 hag => op_max ho ((hag x (by simp [ho, Op.operands, Call.operands])).trans ha) ((hag y (by simp [ho, Op.operands, Call.operands])).trans hb)
    · cases h
  · rename_i _ _ x y
    replace h := bi h; obtain ⟨a, ha, h⟩ := h
    replace h := bi h; obtain ⟨b, hb, h⟩ := h
    unfold xmx at h
    split at h
    · replace h := okI_inv h; obtain ⟨ht, h⟩ := h
      rename_i k x' k' y'
      obtain rfl : k = k' := by simpa using ht
      obtain rfl := Option.some.inj h
      exact .q fun env' bs0 hag => op_min ho ((hag x (by simp [ho, Op.operands, Call.operands])).trans ha) ((hag y (by simp [ho, Op.operands, Call.operands])).trans hb)
    · cases h
  · cases h

theorem snil_congr {l l0 : Nat → Blk} {v : AV} (h : ∀ k b, (k, b) ∈ epre l v → l0 k = b) : snil l0 v = snil l v := by
  cases v with
  | gsl i n => have := h i (l i) (by simp [epre]); simp only [snil, this]
  | oslc i a b c d e => have := h i (l i) (by simp [epre]); simp only [snil, this]
  | lst ex xs => cases xs <;> rfl
  | _ => rfl
def xsn (X : Cx) (op : BinOp) (t : Nat) (a : AV) (look : Nat → Blk) : Option Ef := (X.ti t).bind fun i => match i.desc with
  | .slice _ => (snil look a).bind fun b => match op with
    | .eql => some ⟨.bool b, epre look a, []⟩
    | .neq => some ⟨.bool (!b), epre look a, []⟩
    | _ => none
  | _ => none
theorem xsn_ok {op : BinOp} {t t' : Nat} {x y : Operand} {a : AV} {e : Ef} (ho : o.op = .binOp op t x y t') (hx : ev env x = some a) (hy : ev env y = some .nils) (h : xsn X op t a (bat bs) = some e) : Sd X.P o env bs e := by
  have mx : x ∈ o.op.operands.toList := by simp [ho, Op.operands]
  have my : y ∈ o.op.operands.toList := by simp [ho, Op.operands]
  replace h := bi h; obtain ⟨i, hi, h⟩ := h
  have hu := (X.ok t i hi).inf.und
  split at h
  · rename_i e1 hd
    rw [hd] at hu
    replace h := bi h; obtain ⟨b, hb, h⟩ := h
    split at h
    · obtain rfl := Option.some.inj h
      refine ⟨has_epre, fun _ hk => by simp at hk, fun env' bs0 ha h3 => ?_⟩
      exact op_seq (s := ⟨env', bs0⟩) hu ho ((ha x mx).trans hx) ((snil_congr fun k b hk => has_iff.1 h3 k b hk).trans hb) ((ha y my).trans hy)
    · obtain rfl := Option.some.inj h
      refine ⟨has_epre, fun _ hk => by simp at hk, fun env' bs0 ha h3 => ?_⟩
      exact op_sneq (s := ⟨env', bs0⟩) hu ho ((ha x mx).trans hx) ((snil_congr fun k b hk => has_iff.1 h3 k b hk).trans hb) ((ha y my).trans hy)
    · cases h
  · cases h

def xbs0 (X : Cx) (t : Nat) : Option Ef := (X.ti t).bind fun it => match it.desc with
  | .slice e => (X.ti e).map fun _ => ⟨.lst true [], [], []⟩
  | _ => none
theorem xbs0_ok {t : Nat} {e : Ef} (ho : o.op = .buildSlice t 0 #[]) (h : xbs0 X t = some e) : Sd X.P o env bs e := by
  replace h := bi h; obtain ⟨it, hi, h⟩ := h
  have hu := (X.ok t it hi).inf.und
  split at h
  · rename_i e1 hd
    rw [hd] at hu
    rw [Option.map_eq_some_iff] at h
    obtain ⟨ie, hie, rfl⟩ := h
    exact .q fun env' bs0 ha => op_bslice0 hu (X.ok e1 ie hie).inf ho
  · cases h

def xbsl (X : Cx) (t len : Nat) (ps : List (Nat × Operand)) (env : Env) (look : Nat → Blk) (nb : Nat) : Option Ef := match len, ps with
  | 0, [] => xbs0 X t
  | len, ps => xbslice X t len ps env look nb
theorem xbsl_ok {t len nb : Nat} {ps : Array (Nat × Operand)} {e : Ef} (hnb : bat bs nb = .gone) (ho : o.op = .buildSlice t len ps) (h : xbsl X t len ps.toList env (bat bs) nb = some e) : Sd X.P o env bs e := by
  rcases ps with ⟨ps⟩
  unfold xbsl at h
  split at h
  · rename_i h1; exact xbs0_ok (by simpa using h1 ▸ ho) h
  · exact xbslice_ok hnb ho h

/-- An operation that is no call of a function. -/
def xop (X : Cx) (o : Op) (env : Env) (look : Nat → Blk) (nb : Nat) : Option Ef := match o with
  | .move x => xmove (ev env x)
  | .assign x => xmove (ev env x)
  | .pick c a b => (ev env c).bind fun c => xpick c (ev env a) (ev env b)
  | .alloc t => xalloc X t nb
  | .box _ x => xbox (ev env x) nb
  | .build t ps => xbuild X t ps.toList env
  | .buildSlice t len ps => xbsl X t len ps.toList env look nb
  | .load t x => (ev env x).bind fun p => xload X t look p
  | .store t x y => (ev env x).bind fun p => (ev env y).bind fun v => xstore X t look p v
  | .nilCheck x => (ev env x).bind fun a => xnil a
  | .binOp op t x y _ => (ev env x).bind fun a => (ev env y).bind fun b => (match b with
    | .nils => xsn X op t a look
    | b => xbin X op t a b)
  | .unOp op _ x => (ev env x).bind fun a => xun op a
  | .convert t u x => (ev env x).bind fun a => xconv X t u a
  | .makeFunc (.func f) ⟨[]⟩ xs => xmkf f xs.toList env
  | .makeMap _ none => xmkmap nb
  | .makeSlice t x y => (ev env x).bind fun a => (ev env y).bind fun b => xmks X t a b nb
  | .fieldAddr t x j => (ev env x).bind fun p => xfield X t j look p
  | .field t x j => (ev env x).bind fun p => xfieldV X t j p
  | .indexAddr t x y => (ev env x).bind fun p => (ev env y).bind fun i => xidx X t look p i
  | .index t x y => (ev env x).bind fun p => (ev env y).bind fun i => xindex X t p i
  | .lookup t x y ok => (ev env x).bind fun m => (ev env y).bind fun k => xlook X t look m k ok
  | .mapUpdate t x y z => (ev env x).bind fun m => (ev env y).bind fun k => (ev env z).bind fun v => xmapu X t look m k v
  | .extract x i => (ev env x).bind fun a => xextr a i
  | .slice t x lo hi mx => (ev env x).bind fun v => xslice X t v lo hi mx env look
  | .call ⟨.builtin b, args, ts⟩ => xblt X b args.toList ts.toList env look nb
  | _ => none

theorem xop_ok {nb : Nat} {e : Ef} (hnb : bat bs nb = .gone) (h : xop X o.op env (bat bs) nb = some e) : Sd X.P o env bs e := by
  generalize ho : o.op = op at h
  cases op <;> simp only [xop] at h
  case move x => exact xmove_ok (.inl ho) h
  case assign x => exact xmove_ok (.inr ho) h
  case pick c a b => obtain ⟨v, hv, h⟩ := bi h; exact xpick_ok ho hv h
  case alloc t => exact xalloc_ok hnb ho h
  case box t x => exact xbox_ok hnb ho h
  case build t ps => exact xbuild_ok ho h
  case buildSlice t len ps => exact xbsl_ok hnb ho h
  case load t x => obtain ⟨v, hv, h⟩ := bi h; exact xload_ok ho hv h
  case store t x y => obtain ⟨v, hv, h⟩ := bi h; obtain ⟨u, hu, h⟩ := bi h; exact xstore_ok ho hv hu h
  case nilCheck x => obtain ⟨v, hv, h⟩ := bi h; exact xnil_ok ho hv h
  case binOp op t x y t' =>
    obtain ⟨v, hv, h⟩ := bi h
    obtain ⟨u, hu, h⟩ := bi h
    split at h
    · exact xsn_ok ho hv hu h
    · exact xbin_ok ho hv hu h
  case unOp op t x => obtain ⟨v, hv, h⟩ := bi h; exact xun_ok ho hv h
  case convert t u x => obtain ⟨v, hv, h⟩ := bi h; exact xconv_ok ho hv h
  case makeFunc fn first captured =>
    rcases first with ⟨first⟩
    cases fn with
    | func f =>
      cases first with
      | nil => exact xmkf_ok ho h
      | cons => cases h
    | _ => cases h
  case makeMap t r =>
    cases r with
    | none => exact xmkmap_ok hnb ho h
    | some => cases h
  case makeSlice t x y => obtain ⟨v, hv, h⟩ := bi h; obtain ⟨u, hu, h⟩ := bi h; exact xmks_ok hnb ho hv hu h
  case fieldAddr t x j => obtain ⟨v, hv, h⟩ := bi h; exact xfield_ok ho hv h
  case field t x j => obtain ⟨v, hv, h⟩ := bi h; exact xfieldV_ok ho hv h
  case indexAddr t x y => obtain ⟨v, hv, h⟩ := bi h; obtain ⟨u, hu, h⟩ := bi h; exact xidx_ok ho hv hu h
  case index t x y => obtain ⟨v, hv, h⟩ := bi h; obtain ⟨u, hu, h⟩ := bi h; exact xindex_ok ho hv hu h
  case lookup t x y ok => obtain ⟨v, hv, h⟩ := bi h; obtain ⟨u, hu, h⟩ := bi h; exact xlook_ok ho hv hu h
  case mapUpdate t x y z => obtain ⟨v, hv, h⟩ := bi h; obtain ⟨u, hu, h⟩ := bi h; obtain ⟨q, hq, h⟩ := bi h; exact xmapu_ok ho hv hu hq h
  case extract x i => obtain ⟨v, hv, h⟩ := bi h; exact xextr_ok ho hv h
  case slice t x lo hi mx => obtain ⟨v, hv, h⟩ := bi h; exact xslice_ok ho hv h
  case call c =>
    obtain ⟨cl, args, ts⟩ := c
    cases cl with
    | builtin b => exact xblt_ok hnb ho h
    | _ => cases h
  all_goals cases h

end
end
end Go.Proofs.YtelgmdljcbkniaaGreatDoor.Ai
