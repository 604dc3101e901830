/- An interpreter of values for the model's code, base text 39: what a law's arguments read as, and the row of a law whose contract is known. -/
import Derived.Test.YtelgmdljcbkniaaDoorB37
import Derived.Carry
import Derived.WalkKit
import Derived.ProofKit
import Derived.OpenShut
import Derived.ShutString
import Derived.ChangeOld
import Derived.SizedLaws
namespace Go.Proofs.YtelgmdljcbkniaaDoor.Ai
open Go Go.ChangeShapes Go.WideShapes Go.ChangeAt Go.RowKit

/-- All that lies in a world. -/
noncomputable def zm (W : World) : ZM := rd W

/-- What reads in cells of a type is one of the values e x. -/
def Rd (P : Program) (t : TypeId) {X : Type} (e : X → AV) (ok : X → Prop) : Prop :=
  ∀ (H : Type) (enc : TypeId × Value → H) (W : World) (fuel : Nat) (cs : List Value) (d : DataW H) (ps : List MemPlace),
    DataW.trod enc P W 0 (fun _ => true) true fuel t cs = some (d, ps) →
    ∃ x, ok x ∧ (e x).cells.length = cs.length ∧ ∀ (j : Nat) v cv, (e x).cells[j]? = some v → cs[j]? = some cv → RI (zm W) v cv

theorem Rd.int {P : Program} {t : TypeId} {k : IntKind} (ht : P.underlying t = some (.int k)) : Rd P t (AV.int k) (fun n => (Lit.int k n).wf = true) := by
  intro H enc W fuel cs d ps h
  cases fuel with
  | zero => simp [DataW.trod] at h
  | succ fuel =>
    simp only [DataW.trod, ht] at h
    obtain ⟨n, rfl, hw⟩ : ∃ n, cs = [.int k n] ∧ (Lit.int k n).wf = true := by
      split at h <;> simp_all
    refine ⟨n, hw, rfl, fun j v cv h1 h2 => ?_⟩
    match j, h1, h2 with
    | 0, h1, h2 => simp [AV.cells] at h1 h2; subst h1 h2; exact .int _ _
    | j + 1, h1, h2 => simp at h2

theorem Rd.bool {P : Program} {t : TypeId} (ht : P.underlying t = some .bool) : Rd P t AV.bool (fun _ => True) := by
  intro H enc W fuel cs d ps h
  cases fuel with
  | zero => simp [DataW.trod] at h
  | succ fuel =>
    simp only [DataW.trod, ht] at h
    obtain ⟨b, rfl⟩ : ∃ b, cs = [.bool b] := by
      split at h <;> simp_all
    refine ⟨b, trivial, rfl, fun j v cv h1 h2 => ?_⟩
    match j, h1, h2 with
    | 0, h1, h2 => simp [AV.cells] at h1 h2; subst h1 h2; exact .bool _
    | j + 1, h1, h2 => simp at h2

theorem Rd.str {P : Program} {t : TypeId} (ht : P.underlying t = some .string) : Rd P t AV.str (fun s => s.size ≤ maxLen) := by
  intro H enc W fuel cs d ps h
  cases fuel with
  | zero => simp [DataW.trod] at h
  | succ fuel =>
    simp only [DataW.trod, ht] at h
    obtain ⟨s, rfl, hs⟩ : ∃ s, cs = [.string s] ∧ s.size ≤ maxLen := by
      split at h <;> simp_all
    refine ⟨s, hs, rfl, fun j v cv h1 h2 => ?_⟩
    match j, h1, h2 with
    | 0, h1, h2 => simp [AV.cells] at h1 h2; subst h1 h2; exact .str _
    | j + 1, h1, h2 => simp at h2

theorem mapM_some {α β : Type} {f : α → Option β} : ∀ {l : List α} {r : List β}, l.mapM f = some r → ∀ (x : α), x ∈ l → ∃ y, f x = some y
  | [], _, _, x, hx => by simp at hx
  | a :: l, r, h, x, hx => by
    simp only [List.mapM_cons, Option.pure_def, Option.bind_eq_bind, Option.bind_eq_some_iff] at h
    obtain ⟨b, hb, r', hr, _⟩ := h
    rcases List.mem_cons.1 hx with rfl | hx
    · exact ⟨b, hb⟩
    · exact mapM_some hr x hx

theorem mapM_range_get {β : Type} (f : Nat → Option β) (n : Nat) {r : List β} (h : (List.range n).mapM f = some r) : r.length = n ∧ ∀ j, j < n → ∃ y, f j = some y ∧ r[j]? = some y := by
  have gen : ∀ (l : List Nat) (r : List β), l.mapM f = some r → r.length = l.length ∧ ∀ (i : Nat) x, l[i]? = some x → ∃ y, f x = some y ∧ r[i]? = some y := by
    intro l
    induction l with
    | nil => intro r h; simp at h; subst h; exact ⟨rfl, fun i x e => by simp at e⟩
    | cons a l ih =>
      intro r h
      simp only [List.mapM_cons, Option.pure_def, Option.bind_eq_bind, Option.bind_eq_some_iff] at h
      obtain ⟨b, hb, r', hr, e⟩ := h
      cases e
      obtain ⟨h1, h2⟩ := ih _ hr
      refine ⟨by simp [h1], fun i x e => ?_⟩
      match i, e with
      | 0, e => simp at e; subst e; exact ⟨b, hb, rfl⟩
      | i + 1, e => simp at e; simpa using h2 i x e
  obtain ⟨h1, h2⟩ := gen _ _ h
  refine ⟨by simpa using h1, fun j hj => h2 j j (by simp [hj])⟩

theorem cells?_get {w : World} {base : Nat} {a : Addr} {n : Nat} {cs : List Value} (h : w.cells? base a n = some cs) : cs.length = n ∧ ∀ q, q < n → ∃ cv, cs[q]? = some cv ∧ w.cell? (a.add q) = some cv := by
  unfold World.cells? at h
  split at h
  · obtain ⟨h1, h2⟩ := mapM_range_get _ _ h
    exact ⟨h1, fun q hq => let ⟨y, e1, e2⟩ := h2 q hq; ⟨y, e2, e1⟩⟩
  · cases h

theorem add_pl (b o k : Nat) : (⟨b, o, none⟩ : Addr).add k = ⟨b, o + k, none⟩ := by
  unfold Addr.add
  split
  · rename_i h; subst h; rfl
  · rfl

/-- A list, element by element. -/
theorem choose_list {X : Type} (ok : X → Prop) (p : Nat → X → Prop) : ∀ (n : Nat), (∀ j, j < n → ∃ x, ok x ∧ p j x) → ∃ xs : List X, xs.length = n ∧ (∀ x ∈ xs, ok x) ∧ ∀ (j : Nat) x, xs[j]? = some x → p j x
  | 0, _ => ⟨[], rfl, fun x hx => by simp at hx, fun j x hx => by simp at hx⟩
  | n + 1, h => by
    obtain ⟨xs, h1, h2, h3⟩ := choose_list ok p n fun j hj => h j (by omega)
    obtain ⟨x, hx, px⟩ := h n (by omega)
    refine ⟨xs ++ [x], by simp [h1], fun y hy => ?_, fun j y hj => ?_⟩
    · rcases List.mem_append.1 hy with hy | hy
      · exact h2 y hy
      · simp at hy; subst hy; exact hx
    · rw [List.getElem?_append] at hj
      split at hj
      · exact h3 j y hj
      · rename_i hge
        have : j - xs.length = 0 := by
          have := lt_of_get hj; simp at this; omega
        rw [this] at hj
        simp at hj
        have hjn : j = n := by omega
        subst hj; subst hjn; exact px

theorem Rd.slice {P : Program} {t u : TypeId} {X : Type} {e : X → AV} {ok : X → Prop} {sz : Nat} (ht : P.underlying t = some (.slice u)) (hs : P.cellsOf u = sz) (hsz : sz ≠ 0) (hu : Rd P u e ok)
    (he : ∀ x, (e x).cells.length = sz) : Rd P t (fun l : List X => .lst false (l.map e)) (fun l => l.length ≤ maxLen ∧ ∀ x ∈ l, ok x) := by
  intro H enc W fuel cs d ps h
  cases fuel with
  | zero => simp [DataW.trod] at h
  | succ fuel =>
    simp only [DataW.trod, ht] at h
    split at h
    case h_7 =>
      refine ⟨[], ⟨by simp, fun x hx => by simp at hx⟩, rfl, fun j v cv h1 h2 => ?_⟩
      match j, h1, h2 with
      | 0, h1, h2 => simp [AV.cells] at h1 h2; subst h1 h2; exact .nilslice _ _
      | j + 1, h1, h2 => simp at h2
    case h_8 a len cap ht' =>
      cases ht'
      rw [hs] at h
      split at h
      case isFalse => cases h
      rename_i hb
      simp only [if_true, Option.bind_eq_some_iff, Option.map_eq_some_iff] at h
      obtain ⟨elems, h1, rest, h2, _⟩ := h
      obtain ⟨_, g1⟩ := mapM_range_get _ _ h1
      obtain ⟨_, g2⟩ := mapM_range_get _ _ h2
      have el : ∀ j, j < len → ∃ x, ok x ∧ ∃ ys : List Value, W.cells? 0 (a.add (j * sz)) sz = some ys ∧ (e x).cells.length = ys.length ∧
          ∀ (q : Nat) v cv, (e x).cells[q]? = some v → ys[q]? = some cv → RI (zm W) v cv := by
        intro j hj
        obtain ⟨y, e1, _⟩ := g1 j hj
        simp only [Option.bind_eq_some_iff] at e1
        obtain ⟨ys, e2, e3⟩ := e1
        obtain ⟨x, hx, hl, hr⟩ := hu H enc W fuel ys y.1 y.2 e3
        exact ⟨x, hx, ys, e2, hl, hr⟩
      obtain ⟨xs, hl, hok, hx⟩ := choose_list ok _ len el
      refine ⟨xs, ⟨by omega, hok⟩, rfl, fun j v cv h1 h2 => ?_⟩
      match j, h1, h2 with
      | j + 1, h1, h2 => simp at h2
      | 0, h1, h2 =>
        simp [AV.cells] at h1 h2; subst h1 h2
        by_cases hc : cap = 0
        · have : len = 0 := by omega
          subst hc
          have : xs = [] := List.length_eq_zero_iff.1 (by omega)
          subst this
          have : len = 0 := by omega
          subst this
          exact .nilslice _ _
        · have hspot : ∃ y, W.cell? (a.add 0) = some y := by
            by_cases hlen : 0 < len
            · obtain ⟨y, e1, _⟩ := g1 0 hlen
              simp only [Option.bind_eq_some_iff] at e1
              obtain ⟨ys, e2, e3⟩ := e1
              obtain ⟨_, hq⟩ := cells?_get e2
              obtain ⟨cv, _, hcv⟩ := hq 0 (by omega)
              exact ⟨cv, by simpa [Addr.add] using hcv⟩
            · obtain ⟨y, e1, _⟩ := g2 0 (by omega)
              simp only [Option.bind_eq_some_iff] at e1
              obtain ⟨ys, e2, e3⟩ := e1
              obtain ⟨_, hq⟩ := cells?_get e2
              obtain ⟨cv, _, hcv⟩ := hq 0 (by omega)
              have : len = 0 := by omega
              subst this
              exact ⟨cv, by simpa [Addr.add] using hcv⟩
          obtain ⟨y0, hy0⟩ := hspot
          obtain ⟨b, off, spot⟩ := a
          have hsp : spot = none := by simpa [Addr.add] using World.cell?_spot hy0
          subst hsp
          have hlen : len = (xs.map e).length := by simp [hl]
          rw [hlen]
          refine .lst false _ sz b off cap (fun j x hjx => ?_) (fun j x q v cv hjx hq hz => ?_) (fun j q hj hq => ?_) (by rw [← hlen]; omega) (fun e => by cases e)
          · rw [List.getElem?_map, Option.map_eq_some_iff] at hjx
            obtain ⟨x', _, rfl⟩ := hjx
            exact he x'
          · rw [List.getElem?_map, Option.map_eq_some_iff] at hjx
            obtain ⟨x', hx', rfl⟩ := hjx
            obtain ⟨ys, e2, hl2, hr⟩ := hx j x' hx'
            obtain ⟨_, hq2⟩ := cells?_get e2
            have hqs : q < sz := he x' ▸ lt_of_get hq
            obtain ⟨cv', e3, e4⟩ := hq2 q hqs
            have : cv' = cv := by
              simp only [add_pl] at e4
              have hz : rd W b (off + j * sz + q) = some cv := hz
              have h2 := rd_cell hz (rd_nocode hz ⟨cv', e4⟩)
              rw [e4] at h2
              exact Option.some.inj h2
            exact hr q v cv hq (this ▸ e3)
          · rw [← hlen] at hj
            obtain ⟨x, _, ys, e2, hl3, hr3⟩ := el j hj
            obtain ⟨_, hq2⟩ := cells?_get e2
            obtain ⟨cv', e3, e4⟩ := hq2 q hq
            have hq4 : q < (e x).cells.length := by rw [he x]; exact hq
            have hri := hr3 q (e x).cells[q] cv' (List.getElem?_eq_getElem hq4) e3
            exact ⟨cv', rd_of_cell (by simpa [add_pl] using e4) hri.no_code⟩
    all_goals first | (rename_i e; cases e) | (simp_all)

/-- The fields of a struct, from a place on. -/
def RdF (P : Program) (off : Nat) (fs : List Field) {X : Type} (e : X → List AV) (ok : X → Prop) : Prop :=
  ∀ (H : Type) (enc : TypeId × Value → H) (W : World) (fuel : Nat) (cs : List Value) (xs : List (DataW H × List MemPlace)),
    (fs.mapM fun f => DataW.trod enc P W 0 (fun _ => true) true fuel f.type ((cs.drop f.offset).take (P.cellsOf f.type))) = some xs →
    ∃ x, ok x ∧ ∀ (j : Nat) v cv, (e x)[j]? = some v → cs[off + j]? = some cv → RI (zm W) v cv

theorem RdF.nil {P : Program} {off : Nat} : RdF P off [] (fun _ : Unit => []) (fun _ => True) := by
  intro H enc W fuel cs xs _
  exact ⟨(), trivial, fun j v cv h => by simp at h⟩

theorem RdF.cons {P : Program} {off sz : Nat} {f : Field} {fs : List Field} {X Y : Type} {e : X → AV} {ok : X → Prop} {e' : Y → List AV} {ok' : Y → Prop}
    (hf : Rd P f.type e ok) (ho : f.offset = off) (hs : P.cellsOf f.type = sz) (he : ∀ x, (e x).cells.length = sz) (hr : RdF P (off + sz) fs e' ok') :
    RdF P off (f :: fs) (fun x : X × Y => (e x.1).cells ++ e' x.2) (fun x => ok x.1 ∧ ok' x.2) := by
  intro H enc W fuel cs xs h
  simp only [List.mapM_cons, Option.pure_def, Option.bind_eq_bind, Option.bind_eq_some_iff] at h
  obtain ⟨y, hy, ys, hys, _⟩ := h
  rw [hs, ho] at hy
  obtain ⟨x, hx, _, h1⟩ := hf H enc W fuel _ y.1 y.2 hy
  obtain ⟨x', hx', h2⟩ := hr H enc W fuel cs ys hys
  refine ⟨(x, x'), ⟨hx, hx'⟩, fun j v cv g1 g2 => ?_⟩
  rw [List.getElem?_append, he] at g1
  split at g1
  · refine h1 j v cv g1 ?_
    rw [List.getElem?_take, if_pos (by assumption), List.getElem?_drop]
    exact g2
  · refine h2 (j - sz) v cv g1 ?_
    rw [show off + sz + (j - sz) = off + j by omega]; exact g2

theorem Rd.struct {P : Program} {t : TypeId} {fs : Array Field} {X S : Type} {e : X → List AV} {ok : X → Prop} {es : S → AV} {oks : S → Prop} (g : X → S) (ht : P.underlying t = some (.struct fs)) (hf : RdF P 0 fs.toList e ok)
    (hg : ∀ x, es (g x) = .agg (e x)) (hl : ∀ x, (e x).length = P.cellsOf t) (hok : ∀ x, ok x → oks (g x)) : Rd P t es oks := by
  intro H enc W fuel cs d ps h
  cases fuel with
  | zero => simp [DataW.trod] at h
  | succ fuel =>
    simp only [DataW.trod, ht] at h
    split at h
    all_goals first
      | (rename_i fs' cs' e1 e2; cases e1; split at h)
      | skip
    case succ.isTrue hlen =>
      simp only [Option.map_eq_some_iff] at h
      obtain ⟨xs, hxs, _⟩ := h
      obtain ⟨x, hx, hr⟩ := hf H enc W fuel cs xs hxs
      refine ⟨g x, hok x hx, by rw [hg]; simp only [AV.cells]; rw [hl, hlen], fun j v cv h1 h2 => ?_⟩
      rw [hg] at h1
      exact hr j v cv h1 (by simpa using h2)
    all_goals simp_all

/-- An argument. -/
def RdA (P : Program) (t : TypeId) {X : Type} (e : X → AV) (ok : X → Prop) : Prop :=
  ∀ (H : Type) (enc : TypeId × Value → H) (W : World) (base : Nat) (v : Value) (d : DataW H) (ps : List MemPlace), Value.okWide P W .any base t v → DataW.Trod enc P W 0 (fun _ => true) true t v d ps → ∃ x, ok x ∧ RI (zm W) (e x) v

theorem one_cell {Z : ZM} {a : AV} {v : Value} (h : a.one = true) (hl : a.cells.length = 1 → True) (hr : ∀ (j : Nat) u cv, a.cells[j]? = some u → [v][j]? = some cv → RI Z u cv) : RI Z a v := by
  have : a.cells = [a] := by cases a <;> simp_all [AV.one, AV.cells]
  rw [this] at hr
  exact hr 0 a v rfl rfl

theorem RdA.cell {P : Program} {t : TypeId} {X : Type} {e : X → AV} {ok : X → Prop} (h : Rd P t e ok) (ho : ∀ x, (e x).one = true)
    (hv : ∀ (W : World) (base : Nat) (v : Value), Value.okWide P W .any base t v → v.cells = #[v]) : RdA P t e ok := by
  intro H enc W base v d ps hok ⟨fuel, hf⟩
  rw [hv W base v hok] at hf
  obtain ⟨x, hx, hl, hr⟩ := h H enc W fuel _ d ps hf
  exact ⟨x, hx, one_cell (ho x) (fun _ => trivial) hr⟩

theorem RdA.int {P : Program} {t : TypeId} {k : IntKind} (ht : P.underlying t = some (.int k)) : RdA P t (AV.int k) (fun n => (Lit.int k n).wf = true) :=
  .cell (.int ht) (fun _ => rfl) fun W base v h => by obtain ⟨n, rfl⟩ := okWide_int ht h; rfl

theorem RdA.bool {P : Program} {t : TypeId} (ht : P.underlying t = some .bool) : RdA P t AV.bool (fun _ => True) :=
  .cell (.bool ht) (fun _ => rfl) fun W base v h => by
    simp only [Value.okWide, ht, Cell.okWide, Cell.ok] at h
    cases v <;> simp_all [Value.cells]

theorem RdA.str {P : Program} {t : TypeId} (ht : P.underlying t = some .string) : RdA P t AV.str (fun s => s.size ≤ maxLen) :=
  .cell (.str ht) (fun _ => rfl) fun W base v h => by obtain ⟨n, rfl⟩ := okWide_string ht h; rfl

theorem RdA.slice {P : Program} {t u : TypeId} {X : Type} {e : X → AV} {ok : X → Prop} {sz : Nat} (ht : P.underlying t = some (.slice u)) (hs : P.cellsOf u = sz) (hsz : sz ≠ 0) (hu : Rd P u e ok)
    (he : ∀ x, (e x).cells.length = sz) : RdA P t (fun l : List X => .lst false (l.map e)) (fun l => l.length ≤ maxLen ∧ ∀ x ∈ l, ok x) :=
  .cell (.slice ht hs hsz hu he) (fun _ => rfl) fun W base v h => by obtain ⟨a, len, cap, rfl⟩ := okWide_slice ht h; rfl

theorem RdA.struct {P : Program} {t : TypeId} {fs : Array Field} {S : Type} {es : S → AV} {oks : S → Prop} (ht : P.underlying t = some (.struct fs)) (h : Rd P t es oks) (hg : ∀ x, ∃ cs, es x = .agg cs) : RdA P t es oks := by
  intro H enc W base v d ps hok ⟨fuel, hf⟩
  simp only [Value.okWide, ht] at hok
  obtain ⟨cs, rfl, hcs, _⟩ := hok
  obtain ⟨x, hx, hl, hr⟩ := h H enc W fuel _ d ps hf
  obtain ⟨as, has⟩ := hg x
  refine ⟨x, hx, ?_⟩
  rw [has] at hr hl ⊢
  exact .agg _ _ (by simpa [AV.cells, Value.cells] using hl.symm) fun j v cv h1 h2 => hr j v cv h1 (by simpa [Value.cells] using h2)

/-- All arguments. -/
def RdL (P : Program) (ts : List TypeId) {X : Type} (e : X → List AV) (ok : X → Prop) : Prop :=
  ∀ (H : Type) (enc : TypeId × Value → H) (W : World) (base : Nat) (vs : List Value) (ds : List (DataW H)) (ps : List MemPlace),
    (∀ (j : Nat) t v, ts[j]? = some t → vs[j]? = some v → Value.okWide P W .any base t v) → DataW.TrodAll enc P W 0 (fun _ => true) true ts vs ds ps →
    ∃ x, ok x ∧ vs.length = (e x).length ∧ ∀ (j : Nat) v cv, (e x)[j]? = some v → vs[j]? = some cv → RI (zm W) v cv

theorem RdL.nil {P : Program} : RdL P [] (fun _ : Unit => []) (fun _ => True) := by
  intro H enc W base vs ds ps _ h
  obtain ⟨rfl, _, _⟩ := trodAll_nil h
  exact ⟨(), trivial, rfl, fun j v cv h => by simp at h⟩

theorem RdL.cons {P : Program} {t : TypeId} {ts : List TypeId} {X Y : Type} {e : X → AV} {ok : X → Prop} {e' : Y → List AV} {ok' : Y → Prop} (h : RdA P t e ok) (hr : RdL P ts e' ok') :
    RdL P (t :: ts) (fun x : X × Y => e x.1 :: e' x.2) (fun x => ok x.1 ∧ ok' x.2) := by
  intro H enc W base vs ds ps hok hA
  obtain ⟨v, vs', d, ds', p, q, rfl, rfl, rfl, h1, h2⟩ := trodAll_cons hA
  obtain ⟨x, hx, g1⟩ := h H enc W base v d p (hok 0 t v rfl rfl) h1
  obtain ⟨y, hy, g2, g3⟩ := hr H enc W base vs' ds' q (fun j t' v' e1 e2 => hok (j + 1) t' v' (by simpa using e1) (by simpa using e2)) h2
  refine ⟨(x, y), ⟨hx, hy⟩, by simp [g2], fun j u cv e1 e2 => ?_⟩
  match j, e1, e2 with
  | 0, e1, e2 => simp at e1 e2; subst e1 e2; exact g1
  | j + 1, e1, e2 => exact g3 j u cv (by simpa using e1) (by simpa using e2)

theorem trodAll_below {H : Type} {enc : TypeId × Value → H} {P : Program} {W W' : World} (hl : laidOutB P = true) (hb : Below W.heap.size W W') :
    ∀ (ts : List TypeId) (vs : List Value) (ds : List (DataW H)) (ps : List MemPlace), ts.all (fun t => P.readableRec t && decide (t < P.types.size)) = true → (∀ x ∈ ps, x.block < W.heap.size) →
      DataW.TrodAll enc P W 0 (fun _ => true) true ts vs ds ps → DataW.TrodAll enc P W' 0 (fun b => decide (b < W.heap.size)) true ts vs ds ps
  | [], vs, ds, ps, _, _, h => by obtain ⟨rfl, rfl, rfl⟩ := trodAll_nil h; exact trodAll_mk0
  | t :: ts, vs, ds, ps, hp, hlt, h => by
    obtain ⟨v, vs', d, ds', p, q, rfl, rfl, rfl, h1, h2⟩ := trodAll_cons h
    simp only [List.all_cons, Bool.and_eq_true, decide_eq_true_eq] at hp
    exact trodAll_cons_mk (Below.trod hl hp.1.1 hp.1.2 h1 hb fun x hx => hlt x (List.mem_append.2 (.inl hx))) (trodAll_below hl hb ts vs' ds' q hp.2 (fun x hx => hlt x (List.mem_append.2 (.inr hx))) h2)

theorem VAfter.below {Z : ZM} {w : World} {v : AV} {cv : Value} {w' : World} {Z' : ZM} (h : VAfter Z w v cv w' Z') : Below w.heap.size w w' :=
  ⟨h.os, h.tape, h.output, h.size, h.frame⟩

/-- The row of a law: its contract says true, whatever it read. -/
theorem law_lifted {a : Assume} {C : Checked} {os : Os} {f : FuncId} {fn : Func} {s : ChangeSpec} {conds : List PathCond} {apart fresh handsOn : Bool} {H : Type} {enc : TypeId × Value → H} {X : Type} {e : X → List AV} {ok : X → Prop} {S : List AV → AV → Prop} {bt : TypeId}
    (own : ownKnob C.prog.godebug = none) (started : os.Started) (noInit : C.prog.inits.idxOf? f = none) (hfn : C.prog.funcs[f]? = some fn)
    (witness : ∃ (w : World) (tape : Tape) (i : Input), w.os = os ∧ (w.forCall tape i).Shaped C.prog ∧ i.vars = [] ∧ Input.okWide C.prog (w.forCall tape i) .any w.heap.size f i ∧
      s.pre6 enc C.prog fn conds apart (w.forCall tape i).memory i.args ∧ a.holds C.prog (lone (Frame.enter C.prog f i.args .normal) [] (w.forCall tape i)))
    (hl : laidOutB C.prog = true) (hp : fn.params.toList.all (fun t => C.prog.readableRec t && decide (t < C.prog.types.size)) = true) (hv : s.vars = []) (hrt : fn.resultTypes = #[bt]) (hb : C.prog.underlying bt = some .bool)
    (hspec : ∀ ds : List (DataW H), ds.length = fn.params.toList.length → s.fn H ds = { results := [.lit (.bool true)], args := ds })
    (hgl : ∀ Z, GlobOk Z) (hrd : RdL C.prog fn.params.toList e ok) (hok : VOk C.prog f S) (hS : ∀ x, ok x → S (e x) (.bool true)) :
    ReturnsInHanded a C os f .any (s.pre6 enc C.prog fn conds apart) (s.post enc C.prog fn apart fresh handsOn false) := by
  refine returnsInHanded_of_change_sized own started noInit hfn witness ?_
  intro W base args ds gs before hval hW _ _ _
  have hW' := hW
  obtain ⟨p, q, hA, hV, rfl, _, _⟩ := hW
  rw [hv] at hV
  obtain ⟨rfl, rfl⟩ := trodVars_none hV
  obtain ⟨x, hx, hlen, hri⟩ := hrd H enc W base args.toList ds p (fun j t v e1 e2 => hval j t v (by simpa using e1) (by simpa using e2)) hA
  refine (hok (zm W) W args (e x) (.bool true) (hgl _) (fun c o x e => e) ⟨by simpa using hlen, fun j v c e1 e2 => hri j v c e1 (by simpa using e2)⟩ (hS x hx)).mono ?_
  rintro en W' ⟨cv, Z', rfl, h⟩
  have hbel := h.below
  have hcv : cv = .bool true := by cases h.r; rfl
  subst hcv
  have hdl : ds.length = fn.params.toList.length := by
    have gen : ∀ (ts : List TypeId) (vs : List Value) (ds : List (DataW H)) (ps : List MemPlace), DataW.TrodAll enc C.prog W 0 (fun _ => true) true ts vs ds ps → ds.length = ts.length := by
      intro ts
      induction ts with
      | nil => intro vs ds ps h; obtain ⟨_, rfl, _⟩ := trodAll_nil h; rfl
      | cons t ts ih => intro vs ds ps h; obtain ⟨_, _, _, _, _, _, _, rfl, _, _, h2⟩ := trodAll_cons h; simp [ih _ _ _ h2]
    exact gen _ _ _ _ hA
  have hsp := hspec (ds ++ []) (by simpa using hdl)
  refine ⟨_, rfl, ds, [], p ++ [], [], p, [], hW', ?_, ?_, ?_, hbel.frame _, fun h => by cases h⟩
  · rw [hsp, hrt]
    refine trodAll_mk1 ⟨1, ?_⟩
    simp [Value.cells, DataW.trod, hb]
  · rw [hsp]
    simp only [List.append_nil]
    exact trodAll_below hl hbel _ _ _ _ hp (fun x hx => by simpa using hW'.lt x (by simpa using hx)) hA
  · rw [hsp, hv]; rfl
end Go.Proofs.YtelgmdljcbkniaaDoor.Ai
