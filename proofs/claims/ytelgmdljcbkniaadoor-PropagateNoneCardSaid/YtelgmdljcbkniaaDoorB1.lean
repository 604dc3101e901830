/- An interpreter of values for the model's code, base text 1: values with contents, what they stand for in a world, and how that is kept. -/
import Derived.CallsIn
import Derived.OrdersIn
import Derived.RangeFuncIn
import Derived.RangeFuncNested
import Derived.KernelRfl
import Derived.Laws.AppendOwn
import Derived.Laws.CopyRow
import Derived.Laws.MakeOwn
import Derived.Below
namespace Go.Proofs.YtelgmdljcbkniaaDoor.Ai
noncomputable section
open Go

/-- A value: numbers as they are; a slice that nobody writes any more with its contents; what is written by the number of its block in the function's own store. -/
inductive AV where
  | int (k : IntKind) (n : Int)
  | bool (b : Bool)
  | str (s : ByteArray)
  | agg (cs : List AV)
  | tup (vs : List AV)
  | nilp
  | ptr (i o : Nat)
  | rptr (i j sz o : Nat)
  | eptr (xs : List AV) (i o : Nat)
  | slc (i o sz len : Nat) (cap : Option Nat)
  | gsl (i len : Nat)
  | lst (ex : Bool) (xs : List AV)
  | map (i : Nat)
  | nils
  | nilmap
  | fn (f : Nat) (cap : List AV)
  | nilfn
  | yld (i : Nat)
  | optr (i n j sz o : Nat)
  | oslc (i n o sz len : Nat) (cap : Option Nat)
  | imap (ks vs : List AV)
  | und
  deriving Inhabited

def AV.cells : AV → List AV
  | .agg cs => cs
  | v => [v]

def AV.one : AV → Bool
  | .agg _ | .tup _ | .und => false
  | _ => true

abbrev ZM := Nat → Nat → Option Value

/-- A map's entries as one value: what is read of a map that nobody writes. -/
def mapCode (ks vs : List Value) : Value := .func (.yield 0) #[] #[.tuple ks.toArray, .tuple vs.toArray]

open Classical in
/-- What lies at a place: a cell; at place 0 of a map its entries. -/
noncomputable def rd (w : World) (c o : Nat) : Option Value := match w.heap[c]? with
  | some (.map ents _) => if o = 0 then some (mapCode (ents.toList.map (·.key)) (ents.toList.map (·.val))) else none
  | _ => match w.cell? ⟨c, o, none⟩ with
    | some v => if ∃ ks vs, v = mapCode ks vs then none else some v
    | none => none

/-- A value without a block of its own: what it stands for, by the cells that nobody writes (Z). -/
inductive RI (Z : ZM) : AV → Value → Prop where
  | int (k : IntKind) (n : Int) : RI Z (.int k n) (.int k n)
  | bool (b : Bool) : RI Z (.bool b) (.bool b)
  | str (s : ByteArray) : RI Z (.str s) (.string s)
  | agg (cs : List AV) (vs : Array Value) (hl : vs.size = cs.length)
      (h : ∀ (j : Nat) v cv, cs[j]? = some v → vs[j]? = some cv → RI Z v cv) : RI Z (.agg cs) (.agg vs)
  | tup (cs : List AV) (vs : Array Value) (hl : vs.size = cs.length)
      (h : ∀ (j : Nat) v cv, cs[j]? = some v → vs[j]? = some cv → RI Z v cv) : RI Z (.tup cs) (.tuple vs)
  | nilp : RI Z .nilp (.pointer none)
  | eptr (xs : List AV) (i off sz c o : Nat) (he : ∀ (j : Nat) (x : AV), xs[j]? = some x → x.cells.length = sz)
      (hz : ∀ (j : Nat) (x : AV) (q : Nat) v cv, xs[j]? = some x → x.cells[q]? = some v → Z c (o + j * sz + q) = some cv → RI Z v cv)
      (hd : ∀ (j q : Nat), j < xs.length → q < sz → ∃ cv, Z c (o + j * sz + q) = some cv)
      (hi : i < xs.length) (ho : off < sz) : RI Z (.eptr xs i off) (.pointer (some ⟨c, o + i * sz + off, none⟩))
  | nils : RI Z .nils (.slice none 0 0)
  | nilslice (ex : Bool) (b : Option Addr) : RI Z (.lst ex []) (.slice b 0 0)
  | lst (ex : Bool) (xs : List AV) (sz c o cap : Nat) (he : ∀ (j : Nat) (x : AV), xs[j]? = some x → x.cells.length = sz)
      (hz : ∀ (j : Nat) (x : AV) (q : Nat) v cv, xs[j]? = some x → x.cells[q]? = some v → Z c (o + j * sz + q) = some cv → RI Z v cv)
      (hd : ∀ (j q : Nat), j < xs.length → q < sz → ∃ cv, Z c (o + j * sz + q) = some cv)
      (hc : xs.length ≤ cap) (hx : ex = true → cap = xs.length) : RI Z (.lst ex xs) (.slice (some ⟨c, o, none⟩) xs.length cap)
  | nilmap : RI Z .nilmap (.map none)
  | nilfn : RI Z .nilfn .nilFunc
  | imap (ks vs : List AV) (c : Nat) (cks cvs : List Value) (hz : Z c 0 = some (mapCode cks cvs)) (hlk : cks.length = ks.length) (hlv : cvs.length = vs.length) (hkv : ks.length = vs.length)
      (hk : ∀ (j : Nat) v cv, ks[j]? = some v → cks[j]? = some cv → RI Z v cv) (hv : ∀ (j : Nat) v cv, vs[j]? = some v → cvs[j]? = some cv → RI Z v cv) : RI Z (.imap ks vs) (.map (some c))
  | fn (f : Nat) (cs : List AV) (vs : Array Value) (hl : vs.size = cs.length)
      (h : ∀ (j : Nat) v cv, cs[j]? = some v → vs[j]? = some cv → RI Z v cv) : RI Z (.fn f cs) (.func (.func f) #[] vs)

def ZM.le (Z Z' : ZM) : Prop := ∀ c o v, Z c o = some v → Z' c o = some v
theorem ZM.le.refl (Z : ZM) : Z.le Z := fun _ _ _ h => h
theorem ZM.le.trans {Z Z' Z'' : ZM} (h : Z.le Z') (h' : Z'.le Z'') : Z.le Z'' := fun c o v e => h' c o v (h c o v e)

theorem lt_of_get {α : Type} {l : List α} {j : Nat} {x : α} (h : l[j]? = some x) : j < l.length := (List.getElem?_eq_some_iff.1 h).1

theorem RI.mono {Z Z' : ZM} (hz : Z.le Z') {v : AV} {cv : Value} (h : RI Z v cv) : RI Z' v cv := by
  induction h with
  | int k n => exact .int k n
  | bool b => exact .bool b
  | str s => exact .str s
  | agg cs vs hl _ ih => exact .agg cs vs hl ih
  | tup cs vs hl _ ih => exact .tup cs vs hl ih
  | nilp => exact .nilp
  | eptr xs i off sz c o he _ hd hi ho ih =>
    refine .eptr xs i off sz c o he (fun j x q v cv hx hq hcv => ?_) (fun j q hj hq => let ⟨cv, e⟩ := hd j q hj hq; ⟨cv, hz _ _ _ e⟩) hi ho
    have hq' : q < sz := he j x hx ▸ lt_of_get hq
    obtain ⟨cv', e⟩ := hd j q (lt_of_get hx) hq'
    have : cv' = cv := by have := hz _ _ _ e; rw [hcv] at this; exact (Option.some.inj this).symm
    exact ih j x q v cv hx hq (this ▸ e)
  | nils => exact .nils
  | nilslice ex b => exact .nilslice ex b
  | lst ex xs sz c o cap he _ hd hc hx ih =>
    refine .lst ex xs sz c o cap he (fun j x q v cv hx hq hcv => ?_) (fun j q hj hq => let ⟨cv, e⟩ := hd j q hj hq; ⟨cv, hz _ _ _ e⟩) hc hx
    have hq' : q < sz := he j x hx ▸ lt_of_get hq
    obtain ⟨cv', e⟩ := hd j q (lt_of_get hx) hq'
    have : cv' = cv := by have := hz _ _ _ e; rw [hcv] at this; exact (Option.some.inj this).symm
    exact ih j x q v cv hx hq (this ▸ e)
  | nilmap => exact .nilmap
  | nilfn => exact .nilfn
  | fn f cs vs hl _ ih => exact .fn f cs vs hl ih
  | imap ks vs c cks cvs e hlk hlv hkv _ _ ih1 ih2 => exact .imap ks vs c cks cvs (hz _ _ _ e) hlk hlv hkv ih1 ih2

theorem RI.no_code {Z : ZM} {v : AV} {cv : Value} (h : RI Z v cv) (ks vs : List Value) : cv ≠ mapCode ks vs := by
  intro e
  subst e
  unfold mapCode at h
  cases h

theorem rd_cell {w : World} {c o : Nat} {v : Value} (h : rd w c o = some v) (hn : ∀ ks vs, v ≠ mapCode ks vs) : w.cell? ⟨c, o, none⟩ = some v := by
  unfold rd at h
  split at h
  · split at h
    · exact absurd (Option.some.inj h).symm (hn _ _)
    · cases h
  · split at h
    · rename_i u hu
      split at h
      · cases h
      · rw [hu, h]
    · cases h

theorem rd_of_cell {w : World} {c o : Nat} {v : Value} (h : w.cell? ⟨c, o, none⟩ = some v) (hn : ∀ ks vs, v ≠ mapCode ks vs) : rd w c o = some v := by
  unfold rd
  split
  · rename_i e; simp [World.cell?, e] at h
  · rw [h]
    simp only
    rw [if_neg]
    rintro ⟨ks, vs, e⟩
    exact hn ks vs e

theorem rd_map {w : World} {c : Nat} {ks vs : List Value} (h : rd w c 0 = some (mapCode ks vs)) : ∃ ents clock, w.heap[c]? = some (.map ents clock) ∧ ents.toList.map (·.key) = ks ∧ ents.toList.map (·.val) = vs := by
  unfold rd at h
  split at h
  · rename_i ents clock hh
    simp only [if_true, Option.some.injEq, mapCode, Value.func.injEq, Array.mk.injEq, true_and] at h
    have h2 := h
    simp at h2
    exact ⟨ents, clock, hh, h2.1, h2.2⟩
  · split at h
    · rename_i u hu
      split at h
      · cases h
      · rename_i hn
        exact absurd ⟨ks, vs, Option.some.inj h⟩ hn
    · cases h

theorem rd_nocode {w : World} {c o : Nat} {v : Value} (h : rd w c o = some v) (hc : ∃ x, w.cell? ⟨c, o, none⟩ = some x) : ∀ ks vs, v ≠ mapCode ks vs := by
  obtain ⟨x, hx⟩ := hc
  unfold rd at h
  split at h
  · rename_i e; simp [World.cell?, e] at hx
  · rw [hx] at h
    simp only at h
    split at h
    · cases h
    · rename_i hn
      obtain rfl := Option.some.inj h
      exact fun ks vs e => hn ⟨ks, vs, e⟩

theorem rd_of_frame {w w' : World} {c o : Nat} (h : w'.heap[c]? = w.heap[c]?) : rd w' c o = rd w c o := by
  unfold rd; rw [h]; simp [World.cell?, h]

theorem rd_lt {w : World} {c o : Nat} {v : Value} (h : rd w c o = some v) : c < w.heap.size := by
  rcases Nat.lt_or_ge c w.heap.size with h' | h'
  · exact h'
  · unfold rd at h
    rw [Array.getElem?_eq_none h'] at h
    simp [World.cell?, Array.getElem?_eq_none h'] at h

/-- A list that grows: how long it is, and the slice that holds it now. -/
structure Gr where
  n : Nat
  hv : Value

/-- The package variables that are laid: their cells. -/
def tables : List (Nat × List AV) := [(0, [.int .u8 0, .int .u8 1, .int .u8 56, .int .u8 2, .int .u8 57, .int .u8 49, .int .u8 28, .int .u8 3, .int .u8 61, .int .u8 58, .int .u8 42, .int .u8 50, .int .u8 38, .int .u8 29, .int .u8 17, .int .u8 4, .int .u8 62, .int .u8 47, .int .u8 59, .int .u8 36, .int .u8 45, .int .u8 43, .int .u8 51, .int .u8 22, .int .u8 53, .int .u8 39, .int .u8 33, .int .u8 30, .int .u8 24, .int .u8 18, .int .u8 12, .int .u8 5, .int .u8 63, .int .u8 55, .int .u8 48, .int .u8 27, .int .u8 60, .int .u8 41, .int .u8 37, .int .u8 16, .int .u8 46, .int .u8 35, .int .u8 44, .int .u8 21, .int .u8 52, .int .u8 32, .int .u8 23, .int .u8 11, .int .u8 54, .int .u8 26, .int .u8 40, .int .u8 15, .int .u8 34, .int .u8 20, .int .u8 31, .int .u8 10, .int .u8 25, .int .u8 14, .int .u8 19, .int .u8 9, .int .u8 13, .int .u8 8, .int .u8 7, .int .u8 6])]
def tableOf : List (Nat × List AV) → Nat → Option (List AV)
  | [], _ => none
  | (g, cs) :: r, n => match Nat.beq g n with
    | true => some cs
    | false => tableOf r n

/-- They lie where nobody writes. -/
def GlobOk (Z : ZM) : Prop := ∀ g cs, tableOf tables g = some cs → 0 < cs.length ∧ ∀ (j : Nat) v, cs[j]? = some v → ∃ cv, Z g j = some cv ∧ RI Z v cv

theorem GlobOk.mono {Z Z' : ZM} (h : GlobOk Z) (hz : Z.le Z') : GlobOk Z' := fun g cs e =>
  let ⟨h1, h2⟩ := h g cs e
  ⟨h1, fun j v ev => let ⟨cv, e1, e2⟩ := h2 j v ev; ⟨cv, hz _ _ _ e1, e2.mono hz⟩⟩

theorem GlobOk.ri {Z : ZM} (h : GlobOk Z) {g : Nat} {cs : List AV} (e : tableOf tables g = some cs) : RI Z (.eptr [.agg cs] 0 0) (.pointer (some ⟨g, 0, none⟩)) := by
  obtain ⟨h1, h2⟩ := h g cs e
  have := RI.eptr (Z := Z) [.agg cs] 0 0 cs.length g 0 (fun j x hx => ?_) (fun j x q v cv hx hq hz => ?_) (fun j q hj hq => ?_) (by simp) h1
  · simpa using this
  · match j, hx with
    | 0, hx => simp at hx; subst hx; rfl
    | j + 1, hx => simp at hx
  · match j, hx with
    | 0, hx =>
      simp at hx; subst hx
      obtain ⟨cv', e1, e2⟩ := h2 q v hq
      simp only [Nat.zero_mul, Nat.zero_add] at hz
      rw [e1] at hz
      exact (Option.some.inj hz) ▸ e2
    | j + 1, hx => simp at hx
  · have : j = 0 := by simpa using hj
    subst this
    obtain ⟨cv', e1, _⟩ := h2 q cs[q] (by simp [hq])
    exact ⟨cv', by simpa using e1⟩

/-- Where the blocks of a function's store lie in the world: a block of cells or a map (cl), a list that grows (gr); the cells that nobody writes (Z). -/
structure Ghost where
  cl : Nat → Option Nat
  gr : Nat → Option Gr
  Z : ZM
  ok : GlobOk Z

def Ghost.setZ (G : Ghost) (Z' : ZM) (h : G.Z.le Z') : Ghost := ⟨G.cl, G.gr, Z', G.ok.mono h⟩

inductive R (G : Ghost) : AV → Value → Prop where
  | imm (v : AV) (cv : Value) (h : RI G.Z v cv) : R G v cv
  | und (cv : Value) : R G .und cv
  | ptr (i o c : Nat) (h : G.cl i = some c) : R G (.ptr i o) (.pointer (some ⟨c, o, none⟩))
  | rptr (i j sz o c : Nat) (h : G.cl i = some c) : R G (.rptr i j sz o) (.pointer (some ⟨c, j * sz + o, none⟩))
  | slc (i o sz len : Nat) (cap : Option Nat) (c ccap : Nat) (h : G.cl i = some c) (hl : len ≤ ccap) (hc : ∀ n, cap = some n → ccap = n) :
      R G (.slc i o sz len cap) (.slice (some ⟨c, o * sz, none⟩) len ccap)
  | gsl (i len : Nat) (b : Option Addr) (l c : Nat) (h : G.gr i = some ⟨len, .slice b l c⟩) : R G (.gsl i len) (.slice b l c)
  | stale (i len : Nat) (g : Gr) (b : Option Addr) (l c : Nat) (h : G.gr i = some g) (hn : len < g.n) : R G (.gsl i len) (.slice b l c)
  | map (i c : Nat) (h : G.cl i = some c) : R G (.map i) (.map (some c))
  | yld (i c : Nat) (h : G.cl i = some c) : R G (.yld i) (.func (.yield c) #[] #[])
  | optr (i n j sz o c l cap : Nat) (h : G.gr i = some ⟨n, .slice (some ⟨c, 0, none⟩) l cap⟩) : R G (.optr i n j sz o) (.pointer (some ⟨c, j * sz + o, none⟩))
  | optrS (i n j sz o : Nat) (g : Gr) (b : Option Addr) (h : G.gr i = some g) (hn : n < g.n) : R G (.optr i n j sz o) (.pointer b)
  | oslc (i n o sz len : Nat) (cap : Option Nat) (c l lcap ccap : Nat) (h : G.gr i = some ⟨n, .slice (some ⟨c, 0, none⟩) l lcap⟩) (hl : len ≤ ccap) (hc : ∀ m, cap = some m → ccap = m) :
      R G (.oslc i n o sz len cap) (.slice (some ⟨c, o * sz, none⟩) len ccap)
  | oslcS (i n o sz len : Nat) (cap : Option Nat) (g : Gr) (b : Option Addr) (l c : Nat) (h : G.gr i = some g) (hn : n < g.n) : R G (.oslc i n o sz len cap) (.slice b l c)
  | agg (cs : List AV) (vs : Array Value) (hl : vs.size = cs.length)
      (h : ∀ (j : Nat) v cv, cs[j]? = some v → vs[j]? = some cv → R G v cv) : R G (.agg cs) (.agg vs)
  | tup (cs : List AV) (vs : Array Value) (hl : vs.size = cs.length)
      (h : ∀ (j : Nat) v cv, cs[j]? = some v → vs[j]? = some cv → R G v cv) : R G (.tup cs) (.tuple vs)
  | fn (f : Nat) (cs : List AV) (vs : Array Value) (hl : vs.size = cs.length)
      (h : ∀ (j : Nat) v cv, cs[j]? = some v → vs[j]? = some cv → R G v cv) : R G (.fn f cs) (.func (.func f) #[] vs)

abbrev Env := List (Nat × AV)
def Env.get (e : Env) (t : Nat) : Option AV := List.rec none (fun p _ ih => Bool.rec ih (some p.2) (Nat.beq p.1 t)) e
theorem Env.get_nil (t : Nat) : Env.get [] t = none := rfl
theorem Env.get_cons (d : Nat) (v : AV) (r : Env) (t : Nat) : Env.get ((d, v) :: r) t = if d = t then some v else Env.get r t := by
  show (Bool.rec (Env.get r t) (some v) (Nat.beq d t) : Option AV) = _
  cases h : Nat.beq d t with
  | true => simp [Nat.eq_of_beq_eq_true h]
  | false => simp [Nat.ne_of_beq_eq_false h]

/-- What stays: a block where it lies; a list that grows may have grown. -/
structure Ghost.le (G G' : Ghost) : Prop where
  cl : ∀ i c, G.cl i = some c → G'.cl i = some c
  gr : ∀ i g, G.gr i = some g → ∃ g', G'.gr i = some g' ∧ (g' = g ∨ g.n < g'.n)
  Z : G.Z.le G'.Z

theorem Ghost.le.refl (G : Ghost) : G.le G := ⟨fun _ _ h => h, fun _ g h => ⟨g, h, .inl rfl⟩, .refl _⟩
theorem Ghost.le.trans {G G' G'' : Ghost} (h : G.le G') (h' : G'.le G'') : G.le G'' :=
  ⟨fun i c e => h'.cl i c (h.cl i c e), fun i g e => by
    obtain ⟨g1, e1, r1⟩ := h.gr i g e
    obtain ⟨g2, e2, r2⟩ := h'.gr i g1 e1
    refine ⟨g2, e2, ?_⟩
    rcases r1 with rfl | r1
    · exact r2
    · rcases r2 with rfl | r2
      · exact .inr r1
      · exact .inr (Nat.lt_trans r1 r2), h.Z.trans h'.Z⟩

theorem R.mono {G G' : Ghost} (hg : G.le G') {v : AV} {cv : Value} (h : R G v cv) : R G' v cv := by
  induction h with
  | imm v cv h => exact .imm v cv (h.mono hg.Z)
  | und cv => exact .und cv
  | ptr i o c h => exact .ptr i o c (hg.cl i c h)
  | rptr i j sz o c h => exact .rptr i j sz o c (hg.cl i c h)
  | slc i o sz len cap c ccap h hl hc => exact .slc i o sz len cap c ccap (hg.cl i c h) hl hc
  | gsl i len b l c h =>
    obtain ⟨g', e, r⟩ := hg.gr i _ h
    rcases r with rfl | r
    · exact .gsl i len b l c e
    · exact .stale i len g' b l c e r
  | stale i len g b l c h hn =>
    obtain ⟨g', e, r⟩ := hg.gr i g h
    rcases r with rfl | r
    · exact .stale i len g' b l c e hn
    · exact .stale i len g' b l c e (Nat.lt_trans hn r)
  | map i c h => exact .map i c (hg.cl i c h)
  | yld i c h => exact .yld i c (hg.cl i c h)
  | optr i n j sz o c l cap h =>
    obtain ⟨g', e, r⟩ := hg.gr i _ h
    rcases r with rfl | r
    · exact .optr i n j sz o c l cap e
    · exact .optrS i n j sz o g' _ e r
  | optrS i n j sz o g b h hn =>
    obtain ⟨g', e, r⟩ := hg.gr i g h
    rcases r with rfl | r
    · exact .optrS i n j sz o g' b e hn
    · exact .optrS i n j sz o g' b e (Nat.lt_trans hn r)
  | oslc i n o sz len cap c l lcap ccap h hl hc =>
    obtain ⟨g', e, r⟩ := hg.gr i _ h
    rcases r with rfl | r
    · exact .oslc i n o sz len cap c l lcap ccap e hl hc
    · exact .oslcS i n o sz len cap g' _ _ _ e r
  | oslcS i n o sz len cap g b l c h hn =>
    obtain ⟨g', e, r⟩ := hg.gr i g h
    rcases r with rfl | r
    · exact .oslcS i n o sz len cap g' b l c e hn
    · exact .oslcS i n o sz len cap g' b l c e (Nat.lt_trans hn r)
  | agg cs vs hl _ ih => exact .agg cs vs hl ih
  | tup cs vs hl _ ih => exact .tup cs vs hl ih
  | fn f cs vs hl _ ih => exact .fn f cs vs hl ih

inductive Blk where
  | cells (cs : List AV)
  | rows (sz : Nat) (xs : List AV)
  | grow (e sz : Nat) (xs : List AV)
  | own (e sz : Nat) (xs : List AV)
  | lp (n : Nat) (env : Env) (ps : Array Tmp) (as cd : Code) (st : LoopState) (pe : Option Code)
  | map (es : List (AV × AV))
  | gone
  deriving Inhabited

def CellsOk (G : Ghost) (w : World) (i : Nat) (cs : List AV) : Prop :=
  G.gr i = none ∧ ∀ c, G.cl i = some c → ∃ arr e, w.heap[c]? = some (.cells arr e (0, 0)) ∧ cs.length ≤ arr.size ∧
      (∀ (j : Nat) v cv, cs[j]? = some v → arr[j]? = some cv → R G v cv) ∧ ∀ o, G.Z c o = none

/-- The elements' cells, one behind the other. -/
def flat (xs : List AV) : List AV := xs.flatMap AV.cells

/-- A block of the store and what lies for it in the world (where it lies at all). -/
def BlkOk (G : Ghost) (w : World) (i : Nat) : Blk → Prop
  | .cells cs => CellsOk G w i cs
  | .rows sz xs => CellsOk G w i (flat xs) ∧ 0 < sz ∧ ∀ x ∈ xs, x.cells.length = sz
  | .grow e sz xs => G.cl i = none ∧ ∀ g, G.gr i = some g → g.n = xs.length ∧ 0 < sz ∧ (∀ (j : Nat) (x : AV), xs[j]? = some x → x.cells.length = sz) ∧
      ∃ cs : List Value, w.ownsRow 0 e sz g.hv xs.length cs ∧
        (∀ (j : Nat) (x : AV) (q : Nat) v cv, xs[j]? = some x → x.cells[q]? = some v → cs[j * sz + q]? = some cv → RI G.Z v cv) ∧
        ∀ c, g.hv.ownBlock = some c → (∀ (k : Nat) cv, cs[k]? = some cv → G.Z c k = some cv) ∧ ∀ k, cs.length ≤ k → G.Z c k = none
  | .own e sz xs => G.cl i = none ∧ ∀ g, G.gr i = some g → g.n = xs.length ∧ 0 < sz ∧ (∀ (j : Nat) (x : AV), xs[j]? = some x → x.cells.length = sz) ∧
      ∃ cs : List Value, w.ownsRow 0 e sz g.hv xs.length cs ∧
        (∀ (j : Nat) (x : AV) (q : Nat) v cv, xs[j]? = some x → x.cells[q]? = some v → cs[j * sz + q]? = some cv → R G v cv) ∧
        ∀ c, g.hv.ownBlock = some c → ∀ k, G.Z c k = none
  | .lp n env ps as cd st pe => G.gr i = none ∧ ∀ c, G.cl i = some c → ∃ rec : Loop, w.heap[c]? = some (.loop rec) ∧ rec.state = st ∧ rec.pending = pe ∧ rec.params = ps ∧ rec.assign = as ∧ rec.body = cd ∧
      rec.tmps.size = n ∧ (∀ t v, env.get t = some v → ∃ cv, rec.tmps[t]? = some cv ∧ R G v cv) ∧ ∀ o, G.Z c o = none
  | .map es => G.gr i = none ∧ ∀ c, G.cl i = some c → ∃ ents clock, w.heap[c]? = some (.map ents clock) ∧ ents.size = es.length ∧
      (∀ (j : Nat) e ce, es[j]? = some e → ents[j]? = some ce → RI G.Z e.1 ce.key ∧ R G e.2 ce.val) ∧ ∀ o, G.Z c o = none
  | .gone => G.cl i = none ∧ G.gr i = none

/-- Block i lies at c. -/
def Ghost.owns (G : Ghost) (i c : Nat) : Prop := G.cl i = some c ∨ ∃ g, G.gr i = some g ∧ g.hv.ownBlock = some c

structure Inv (G : Ghost) (bs : List Blk) (w : World) : Prop where
  blk : ∀ (i : Nat) b, bs[i]? = some b → BlkOk G w i b
  dom : ∀ i, bs.length ≤ i → G.cl i = none ∧ G.gr i = none
  inj : ∀ i j c, G.owns i c → G.owns j c → i = j
  z : ∀ c o v, G.Z c o = some v → rd w c o = some v

/-- From (G, w) to (G', w'): what lay elsewhere is as it was. -/
structure Ev (G : Ghost) (w : World) (G' : Ghost) (w' : World) : Prop where
  os : w'.os = w.os
  tape : w'.tape = w.tape
  output : w'.output = w.output
  size : w.heap.size ≤ w'.heap.size
  Z : G.Z.le G'.Z
  newZ : ∀ c o v, G'.Z c o = some v → G.Z c o = some v ∨ w.heap.size ≤ c ∨ ∃ i, G.owns i c
  frame : ∀ c, c < w.heap.size → (∀ i, ¬ G.owns i c) → w'.heap[c]? = w.heap[c]?
  own : ∀ i c, G'.owns i c → w.heap.size ≤ c ∨ ∃ j, G.owns j c
  loop : ∀ (c : Nat) (rec : Loop), w.heap[c]? = some (Obj.loop rec) → ∃ rec' : Loop, w'.heap[c]? = some (Obj.loop rec')

theorem Ev.refl (G : Ghost) (w : World) : Ev G w G w := ⟨rfl, rfl, rfl, Nat.le_refl _, .refl _, fun _ _ _ h => .inl h, fun _ _ _ => rfl, fun i _ h => .inr ⟨i, h⟩, fun _ rec h => ⟨rec, h⟩⟩

theorem Ev.trans {G G' G'' : Ghost} {w w' w'' : World} (h : Ev G w G' w') (k : Ev G' w' G'' w'') : Ev G w G'' w'' where
  os := k.os.trans h.os
  tape := k.tape.trans h.tape
  output := k.output.trans h.output
  size := Nat.le_trans h.size k.size
  Z := h.Z.trans k.Z
  newZ c o v e := by
    rcases k.newZ c o v e with e | e | ⟨i, e⟩
    · exact h.newZ c o v e
    · exact .inr (.inl (Nat.le_trans h.size e))
    · exact .inr (h.own i c e)
  frame c hc hn := by
    rw [k.frame c (Nat.lt_of_lt_of_le hc h.size) (fun i hi => ?_), h.frame c hc hn]
    rcases h.own i c hi with e | ⟨j, e⟩
    · omega
    · exact hn j e
  own i c e := by
    rcases k.own i c e with e | ⟨j, e⟩
    · exact .inl (Nat.le_trans h.size e)
    · exact h.own j c e
  loop c rec e := by
    obtain ⟨rec', e'⟩ := h.loop c rec e
    exact k.loop c rec' e'

/-- Loops stay where all that changed is no loop. -/
theorem loop_of_same {w w' : World} (h : ∀ c, c < w.heap.size → w'.heap[c]? = w.heap[c]? ∨ ∀ rec : Loop, w.heap[c]? ≠ some (Obj.loop rec)) (c : Nat) (rec : Loop) (e : w.heap[c]? = some (Obj.loop rec)) : ∃ rec' : Loop, w'.heap[c]? = some (Obj.loop rec') := by
  rcases h c (Array.getElem?_eq_some_iff.1 e).1 with h | h
  · exact ⟨rec, h.trans e⟩
  · exact absurd e (h rec)

end
end Go.Proofs.YtelgmdljcbkniaaDoor.Ai
