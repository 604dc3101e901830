/- An interpreter of values for the model's code, part 1: see the comments ahead of each section. -/
import Derived.CallsIn
import Derived.OrdersIn
import Derived.RangeFuncIn
import Derived.RangeFuncNested
import Derived.KernelRfl
import Derived.Laws.AppendOwn
import Derived.Laws.CopyRow
import Derived.Laws.MakeOwn
import Derived.Below
/- An interpreter of values for the model's code, base text 1: values with contents, what they stand for in a world, and how that is kept. -/
namespace Go.Proofs.YtelgmdljcbkniaaGreatDoor.Ai
noncomputable section
open Go

/-- A value: numbers as they are; a slice that nobody writes any more with its contents; what is written by the number of its block in the function's own store. -/
inductive AV where
  | int (k : IntKind) (n : Int)
  | bool (b : Bool)
  | str (s : ByteArray)
  | agg (cs : List AV)
  | tup (vs : List AV)
  | nilp
  | ptr (i o : Nat)
  | rptr (i j sz o : Nat)
  | eptr (xs : List AV) (i o : Nat)
  | slc (i o sz len : Nat) (cap : Option Nat)
  | gsl (i len : Nat)
  | lst (ex : Bool) (xs : List AV)
  | map (i : Nat)
  | nils
  | nilmap
  | fn (f : Nat) (cap : List AV)
  | nilfn
  | yld (i : Nat)
  | optr (i n j sz o : Nat)
  | oslc (i n o sz len : Nat) (cap : Option Nat)
  | imap (ks vs : List AV)
  | und
  deriving Inhabited

def AV.cells : AV → List AV
  | .agg cs => cs
  | v => [v]

def AV.one : AV → Bool
  | .agg _ | .tup _ | .und => false
  | _ => true

abbrev ZM := Nat → Nat → Option Value

/-- A map's entries as one value: what is read of a map that nobody writes. -/
def mapCode (ks vs : List Value) : Value := .func (.yield 0) #[] #[.tuple ks.toArray, .tuple vs.toArray]

open Classical in
/-- What lies at a place: a cell; at place 0 of a map its entries. -/
noncomputable def rd (w : World) (c o : Nat) : Option Value := match w.heap[c]? with
  | some (.map ents _) => if o = 0 then some (mapCode (ents.toList.map (·.key)) (ents.toList.map (·.val))) else none
  | _ => match w.cell? ⟨c, o, none⟩ with
    | some v => if ∃ ks vs, v = mapCode ks vs then none else some v
    | none => none

/-- A value without a block of its own: what it stands for, by the cells that nobody writes (Z). -/
inductive RI (Z : ZM) : AV → Value → Prop where
  | int (k : IntKind) (n : Int) : RI Z (.int k n) (.int k n)
  | bool (b : Bool) : RI Z (.bool b) (.bool b)
  | str (s : ByteArray) : RI Z (.str s) (.string s)
  | agg (cs : List AV) (vs : Array Value) (hl : vs.size = cs.length)
      (h : ∀ (j : Nat) v cv, cs[j]? = some v → vs[j]? = some cv → RI Z v cv) : RI Z (.agg cs) (.agg vs)
  | tup (cs : List AV) (vs : Array Value) (hl : vs.size = cs.length)
      (h : ∀ (j : Nat) v cv, cs[j]? = some v → vs[j]? = some cv → RI Z v cv) : RI Z (.tup cs) (.tuple vs)
  | nilp : RI Z .nilp (.pointer none)
  | eptr (xs : List AV) (i off sz c o : Nat) (he : ∀ (j : Nat) (x : AV), xs[j]? = some x → x.cells.length = sz)
      (hz : ∀ (j : Nat) (x : AV) (q : Nat) v cv, xs[j]? = some x → x.cells[q]? = some v → Z c (o + j * sz + q) = some cv → RI Z v cv)
      (hd : ∀ (j q : Nat), j < xs.length → q < sz → ∃ cv, Z c (o + j * sz + q) = some cv)
      (hi : i < xs.length) (ho : off < sz) : RI Z (.eptr xs i off) (.pointer (some ⟨c, o + i * sz + off, none⟩))
  | nils : RI Z .nils (.slice none 0 0)
  | nilslice (ex : Bool) (b : Option Addr) : RI Z (.lst ex []) (.slice b 0 0)
  | lst (ex : Bool) (xs : List AV) (sz c o cap : Nat) (he : ∀ (j : Nat) (x : AV), xs[j]? = some x → x.cells.length = sz)
      (hz : ∀ (j : Nat) (x : AV) (q : Nat) v cv, xs[j]? = some x → x.cells[q]? = some v → Z c (o + j * sz + q) = some cv → RI Z v cv)
      (hd : ∀ (j q : Nat), j < xs.length → q < sz → ∃ cv, Z c (o + j * sz + q) = some cv)
      (hc : xs.length ≤ cap) (hx : ex = true → cap = xs.length) : RI Z (.lst ex xs) (.slice (some ⟨c, o, none⟩) xs.length cap)
  | nilmap : RI Z .nilmap (.map none)
  | nilfn : RI Z .nilfn .nilFunc
  | imap (ks vs : List AV) (c : Nat) (cks cvs : List Value) (hz : Z c 0 = some (mapCode cks cvs)) (hlk : cks.length = ks.length) (hlv : cvs.length = vs.length) (hkv : ks.length = vs.length)
      (hk : ∀ (j : Nat) v cv, ks[j]? = some v → cks[j]? = some cv → RI Z v cv) (hv : ∀ (j : Nat) v cv, vs[j]? = some v → cvs[j]? = some cv → RI Z v cv) : RI Z (.imap ks vs) (.map (some c))
  | fn (f : Nat) (cs : List AV) (vs : Array Value) (hl : vs.size = cs.length)
      (h : ∀ (j : Nat) v cv, cs[j]? = some v → vs[j]? = some cv → RI Z v cv) : RI Z (.fn f cs) (.func (.func f) #[] vs)

def ZM.le (Z Z' : ZM) : Prop := ∀ c o v, Z c o = some v → Z' c o = some v
theorem ZM.le.refl (Z : ZM) : Z.le Z := fun _ _ _ h => h
theorem ZM.le.trans {Z Z' Z'' : ZM} (h : Z.le Z') (h' : Z'.le Z'') : Z.le Z'' := fun c o v e => h' c o v (h c o v e)

theorem lt_of_get {α : Type} {l : List α} {j : Nat} {x : α} (h : l[j]? = some x) : j < l.length := (List.getElem?_eq_some_iff.1 h).1

theorem RI.mono {Z Z' : ZM} (hz : Z.le Z') {v : AV} {cv : Value} (h : RI Z v cv) : RI Z' v cv := by
  induction h with
  | int k n => exact .int k n
  | bool b => exact .bool b
  | str s => exact .str s
  | agg cs vs hl _ ih => exact .agg cs vs hl ih
  | tup cs vs hl _ ih => exact .tup cs vs hl ih
  | nilp => exact .nilp
  | eptr xs i off sz c o he _ hd hi ho ih =>
    refine .eptr xs i off sz c o he (fun j x q v cv hx hq hcv => ?_) (fun j q hj hq => let ⟨cv, e⟩ := hd j q hj hq; ⟨cv, hz _ _ _ e⟩) hi ho
    have hq' : q < sz := he j x hx ▸ lt_of_get hq
    obtain ⟨cv', e⟩ := hd j q (lt_of_get hx) hq'
    have : cv' = cv := by have := hz _ _ _ e; rw [hcv] at this; exact (Option.some.inj this).symm
    exact ih j x q v cv hx hq (this ▸ e)
  | nils => exact .nils
  | nilslice ex b => exact .nilslice ex b
  | lst ex xs sz c o cap he _ hd hc hx ih =>
    refine .lst ex xs sz c o cap he (fun j x q v cv hx hq hcv => ?_) (fun j q hj hq => let ⟨cv, e⟩ := hd j q hj hq; ⟨cv, hz _ _ _ e⟩) hc hx
    have hq' : q < sz := he j x hx ▸ lt_of_get hq
    obtain ⟨cv', e⟩ := hd j q (lt_of_get hx) hq'
    have : cv' = cv := by have := hz _ _ _ e; rw [hcv] at this; exact (Option.some.inj this).symm
    exact ih j x q v cv hx hq (this ▸ e)
  | nilmap => exact .nilmap
  | nilfn => exact .nilfn
  | fn f cs vs hl _ ih => exact .fn f cs vs hl ih
  | imap ks vs c cks cvs e hlk hlv hkv _ _ ih1 ih2 => exact .imap ks vs c cks cvs (hz _ _ _ e) hlk hlv hkv ih1 ih2

theorem RI.no_code {Z : ZM} {v : AV} {cv : Value} (h : RI Z v cv) (ks vs : List Value) : cv ≠ mapCode ks vs := by
  intro e
  subst e
  unfold mapCode at h
  cases h

theorem rd_cell {w : World} {c o : Nat} {v : Value} (h : rd w c o = some v) (hn : ∀ ks vs, v ≠ mapCode ks vs) : w.cell? ⟨c, o, none⟩ = some v := by
  unfold rd at h
  split at h
  · split at h
    · exact absurd (Option.some.inj h).symm (hn _ _)
    · cases h
  · split at h
    · rename_i u hu
      split at h
      · cases h
      · rw [hu, h]
    · cases h

theorem rd_of_cell {w : World} {c o : Nat} {v : Value} (h : w.cell? ⟨c, o, none⟩ = some v) (hn : ∀ ks vs, v ≠ mapCode ks vs) : rd w c o = some v := by
  unfold rd
  split
  · rename_i e; simp [World.cell?, e] at h
  · rw [h]
    simp only
    rw [if_neg]
    rintro ⟨ks, vs, e⟩
    exact hn ks vs e

theorem rd_map {w : World} {c : Nat} {ks vs : List Value} (h : rd w c 0 = some (mapCode ks vs)) : ∃ ents clock, w.heap[c]? = some (.map ents clock) ∧ ents.toList.map (·.key) = ks ∧ ents.toList.map (·.val) = vs := by
  unfold rd at h
  split at h
  · rename_i ents clock hh
    simp only [if_true, Option.some.injEq, mapCode, Value.func.injEq, Array.mk.injEq, true_and] at h
    have h2 := h
    simp at h2
    exact ⟨ents, clock, hh, h2.1, h2.2⟩
  · split at h
    · rename_i u hu
      split at h
      · cases h
      · rename_i hn
        exact absurd ⟨ks, vs, Option.some.inj h⟩ hn
    · cases h

theorem rd_nocode {w : World} {c o : Nat} {v : Value} (h : rd w c o = some v) (hc : ∃ x, w.cell? ⟨c, o, none⟩ = some x) : ∀ ks vs, v ≠ mapCode ks vs := by
  obtain ⟨x, hx⟩ := hc
  unfold rd at h
  split at h
  · rename_i e; simp [World.cell?, e] at hx
  · rw [hx] at h
    simp only at h
    split at h
    · cases h
    · rename_i hn
      obtain rfl := Option.some.inj h
      exact fun ks vs e => hn ⟨ks, vs, e⟩

theorem rd_of_frame {w w' : World} {c o : Nat} (h : w'.heap[c]? = w.heap[c]?) : rd w' c o = rd w c o := by
  unfold rd; rw [h]; simp [World.cell?, h]

theorem rd_lt {w : World} {c o : Nat} {v : Value} (h : rd w c o = some v) : c < w.heap.size := by
  rcases Nat.lt_or_ge c w.heap.size with h' | h'
  · exact h'
  · unfold rd at h
    rw [Array.getElem?_eq_none h'] at h
    simp [World.cell?, Array.getElem?_eq_none h'] at h

/-- A list that grows: how long it is, and the slice that holds it now. -/
structure Gr where
  n : Nat
  hv : Value

/-- The package variables that are laid: their cells. -/
def tables : List (Nat × List AV) := [(0, [.int .u8 0, .int .u8 1, .int .u8 56, .int .u8 2, .int .u8 57, .int .u8 49, .int .u8 28, .int .u8 3, .int .u8 61, .int .u8 58, .int .u8 42, .int .u8 50, .int .u8 38, .int .u8 29, .int .u8 17, .int .u8 4, .int .u8 62, .int .u8 47, .int .u8 59, .int .u8 36, .int .u8 45, .int .u8 43, .int .u8 51, .int .u8 22, .int .u8 53, .int .u8 39, .int .u8 33, .int .u8 30, .int .u8 24, .int .u8 18, .int .u8 12, .int .u8 5, .int .u8 63, .int .u8 55, .int .u8 48, .int .u8 27, .int .u8 60, .int .u8 41, .int .u8 37, .int .u8 16, .int .u8 46, .int .u8 35, .int .u8 44, .int .u8 21, .int .u8 52, .int .u8 32, .int .u8 23, .int .u8 11, .int .u8 54, .int .u8 26, .int .u8 40, .int .u8 15, .int .u8 34, .int .u8 20, .int .u8 31, .int .u8 10, .int .u8 25, .int .u8 14, .int .u8 19, .int .u8 9, .int .u8 13, .int .u8 8, .int .u8 7, .int .u8 6])]
def tableOf : List (Nat × List AV) → Nat → Option (List AV)
  | [], _ => none
  | (g, cs) :: r, n => match Nat.beq g n with
    | true => some cs
    | false => tableOf r n

/-- They lie where nobody writes. -/
def GlobOk (Z : ZM) : Prop := ∀ g cs, tableOf tables g = some cs → 0 < cs.length ∧ ∀ (j : Nat) v, cs[j]? = some v → ∃ cv, Z g j = some cv ∧ RI Z v cv

theorem GlobOk.mono {Z Z' : ZM} (h : GlobOk Z) (hz : Z.le Z') : GlobOk Z' := fun g cs e =>
  let ⟨h1, h2⟩ := h g cs e
  ⟨h1, fun j v ev => let ⟨cv, e1, e2⟩ := h2 j v ev; ⟨cv, hz _ _ _ e1, e2.mono hz⟩⟩

theorem GlobOk.ri {Z : ZM} (h : GlobOk Z) {g : Nat} {cs : List AV} (e : tableOf tables g = some cs) : RI Z (.eptr [.agg cs] 0 0) (.pointer (some ⟨g, 0, none⟩)) := by
  obtain ⟨h1, h2⟩ := h g cs e
  have := RI.eptr (Z := Z) [.agg cs] 0 0 cs.length g 0 (fun j x hx => ?_) (fun j x q v cv hx hq hz => ?_) (fun j q hj hq => ?_) (by simp) h1
  · simpa using this
  · match j, hx with
    | 0, hx => simp at hx; subst hx; rfl
    | j + 1, hx => simp at hx
  · match j, hx with
    | 0, hx =>
      simp at hx; subst hx
      obtain ⟨cv', e1, e2⟩ := h2 q v hq
      simp only [Nat.zero_mul, Nat.zero_add] at hz
      rw [e1] at hz
      exact (Option.some.inj hz) ▸ e2
    | j + 1, hx => simp at hx
  · have : j = 0 := by simpa using hj
    subst this
    obtain ⟨cv', e1, _⟩ := h2 q cs[q] (by simp [hq])
    exact ⟨cv', by simpa using e1⟩

/-- Where the blocks of a function's store lie in the world: a block of cells or a map (cl), a list that grows (gr); the cells that nobody writes (Z). -/
structure Ghost where
  cl : Nat → Option Nat
  gr : Nat → Option Gr
  Z : ZM
  ok : GlobOk Z

def Ghost.setZ (G : Ghost) (Z' : ZM) (h : G.Z.le Z') : Ghost := ⟨G.cl, G.gr, Z', G.ok.mono h⟩

inductive R (G : Ghost) : AV → Value → Prop where
  | imm (v : AV) (cv : Value) (h : RI G.Z v cv) : R G v cv
  | und (cv : Value) : R G .und cv
  | ptr (i o c : Nat) (h : G.cl i = some c) : R G (.ptr i o) (.pointer (some ⟨c, o, none⟩))
  | rptr (i j sz o c : Nat) (h : G.cl i = some c) : R G (.rptr i j sz o) (.pointer (some ⟨c, j * sz + o, none⟩))
  | slc (i o sz len : Nat) (cap : Option Nat) (c ccap : Nat) (h : G.cl i = some c) (hl : len ≤ ccap) (hc : ∀ n, cap = some n → ccap = n) :
      R G (.slc i o sz len cap) (.slice (some ⟨c, o * sz, none⟩) len ccap)
  | gsl (i len : Nat) (b : Option Addr) (l c : Nat) (h : G.gr i = some ⟨len, .slice b l c⟩) : R G (.gsl i len) (.slice b l c)
  | stale (i len : Nat) (g : Gr) (b : Option Addr) (l c : Nat) (h : G.gr i = some g) (hn : len < g.n) : R G (.gsl i len) (.slice b l c)
  | map (i c : Nat) (h : G.cl i = some c) : R G (.map i) (.map (some c))
  | yld (i c : Nat) (h : G.cl i = some c) : R G (.yld i) (.func (.yield c) #[] #[])
  | optr (i n j sz o c l cap : Nat) (h : G.gr i = some ⟨n, .slice (some ⟨c, 0, none⟩) l cap⟩) : R G (.optr i n j sz o) (.pointer (some ⟨c, j * sz + o, none⟩))
  | optrS (i n j sz o : Nat) (g : Gr) (b : Option Addr) (h : G.gr i = some g) (hn : n < g.n) : R G (.optr i n j sz o) (.pointer b)
  | oslc (i n o sz len : Nat) (cap : Option Nat) (c l lcap ccap : Nat) (h : G.gr i = some ⟨n, .slice (some ⟨c, 0, none⟩) l lcap⟩) (hl : len ≤ ccap) (hc : ∀ m, cap = some m → ccap = m) :
      R G (.oslc i n o sz len cap) (.slice (some ⟨c, o * sz, none⟩) len ccap)
  | oslcS (i n o sz len : Nat) (cap : Option Nat) (g : Gr) (b : Option Addr) (l c : Nat) (h : G.gr i = some g) (hn : n < g.n) : R G (.oslc i n o sz len cap) (.slice b l c)
  | agg (cs : List AV) (vs : Array Value) (hl : vs.size = cs.length)
      (h : ∀ (j : Nat) v cv, cs[j]? = some v → vs[j]? = some cv → R G v cv) : R G (.agg cs) (.agg vs)
  | tup (cs : List AV) (vs : Array Value) (hl : vs.size = cs.length)
      (h : ∀ (j : Nat) v cv, cs[j]? = some v → vs[j]? = some cv → R G v cv) : R G (.tup cs) (.tuple vs)
  | fn (f : Nat) (cs : List AV) (vs : Array Value) (hl : vs.size = cs.length)
      (h : ∀ (j : Nat) v cv, cs[j]? = some v → vs[j]? = some cv → R G v cv) : R G (.fn f cs) (.func (.func f) #[] vs)

abbrev Env := List (Nat × AV)
def Env.get (e : Env) (t : Nat) : Option AV := List.rec none (fun p _ ih => Bool.rec ih (some p.2) (Nat.beq p.1 t)) e
theorem Env.get_nil (t : Nat) : Env.get [] t = none := rfl
theorem Env.get_cons (d : Nat) (v : AV) (r : Env) (t : Nat) : Env.get ((d, v) :: r) t = if d = t then some v else Env.get r t := by
  show (Bool.rec (Env.get r t) (some v) (Nat.beq d t) : Option AV) = _
  cases h : Nat.beq d t with
  | true => simp [Nat.eq_of_beq_eq_true h]
  | false => simp [Nat.ne_of_beq_eq_false h]

/-- What stays: a block where it lies; a list that grows may have grown. -/
structure Ghost.le (G G' : Ghost) : Prop where
  cl : ∀ i c, G.cl i = some c → G'.cl i = some c
  gr : ∀ i g, G.gr i = some g → ∃ g', G'.gr i = some g' ∧ (g' = g ∨ g.n < g'.n)
  Z : G.Z.le G'.Z

theorem Ghost.le.refl (G : Ghost) : G.le G := ⟨fun _ _ h => h, fun _ g h => ⟨g, h, .inl rfl⟩, .refl _⟩
theorem Ghost.le.trans {G G' G'' : Ghost} (h : G.le G') (h' : G'.le G'') : G.le G'' :=
  ⟨fun i c e => h'.cl i c (h.cl i c e), fun i g e => by
    obtain ⟨g1, e1, r1⟩ := h.gr i g e
    obtain ⟨g2, e2, r2⟩ := h'.gr i g1 e1
    refine ⟨g2, e2, ?_⟩
    rcases r1 with rfl | r1
    · exact r2
    · rcases r2 with rfl | r2
      · exact .inr r1
      · exact .inr (Nat.lt_trans r1 r2), h.Z.trans h'.Z⟩

theorem R.mono {G G' : Ghost} (hg : G.le G') {v : AV} {cv : Value} (h : R G v cv) : R G' v cv := by
  induction h with
  | imm v cv h => exact .imm v cv (h.mono hg.Z)
  | und cv => exact .und cv
  | ptr i o c h => exact .ptr i o c (hg.cl i c h)
  | rptr i j sz o c h => exact .rptr i j sz o c (hg.cl i c h)
  | slc i o sz len cap c ccap h hl hc => exact .slc i o sz len cap c ccap (hg.cl i c h) hl hc
  | gsl i len b l c h =>
    obtain ⟨g', e, r⟩ := hg.gr i _ h
    rcases r with rfl | r
    · exact .gsl i len b l c e
    · exact .stale i len g' b l c e r
  | stale i len g b l c h hn =>
    obtain ⟨g', e, r⟩ := hg.gr i g h
    rcases r with rfl | r
    · exact .stale i len g' b l c e hn
    · exact .stale i len g' b l c e (Nat.lt_trans hn r)
  | map i c h => exact .map i c (hg.cl i c h)
  | yld i c h => exact .yld i c (hg.cl i c h)
  | optr i n j sz o c l cap h =>
    obtain ⟨g', e, r⟩ := hg.gr i _ h
    rcases r with rfl | r
    · exact .optr i n j sz o c l cap e
    · exact .optrS i n j sz o g' _ e r
  | optrS i n j sz o g b h hn =>
    obtain ⟨g', e, r⟩ := hg.gr i g h
    rcases r with rfl | r
    · exact .optrS i n j sz o g' b e hn
    · exact .optrS i n j sz o g' b e (Nat.lt_trans hn r)
  | oslc i n o sz len cap c l lcap ccap h hl hc =>
    obtain ⟨g', e, r⟩ := hg.gr i _ h
    rcases r with rfl | r
    · exact .oslc i n o sz len cap c l lcap ccap e hl hc
    · exact .oslcS i n o sz len cap g' _ _ _ e r
  | oslcS i n o sz len cap g b l c h hn =>
    obtain ⟨g', e, r⟩ := hg.gr i g h
    rcases r with rfl | r
    · exact .oslcS i n o sz len cap g' b l c e hn
    · exact .oslcS i n o sz len cap g' b l c e (Nat.lt_trans hn r)
  | agg cs vs hl _ ih => exact .agg cs vs hl ih
  | tup cs vs hl _ ih => exact .tup cs vs hl ih
  | fn f cs vs hl _ ih => exact .fn f cs vs hl ih

inductive Blk where
  | cells (cs : List AV)
  | rows (sz : Nat) (xs : List AV)
  | grow (e sz : Nat) (xs : List AV)
  | own (e sz : Nat) (xs : List AV)
  | lp (n : Nat) (env : Env) (ps : Array Tmp) (as cd : Code) (st : LoopState) (pe : Option Code)
  | map (es : List (AV × AV))
  | gone
  deriving Inhabited

def CellsOk (G : Ghost) (w : World) (i : Nat) (cs : List AV) : Prop :=
  G.gr i = none ∧ ∀ c, G.cl i = some c → ∃ arr e, w.heap[c]? = some (.cells arr e (0, 0)) ∧ cs.length ≤ arr.size ∧
      (∀ (j : Nat) v cv, cs[j]? = some v → arr[j]? = some cv → R G v cv) ∧ ∀ o, G.Z c o = none

/-- The elements' cells, one behind the other. -/
def flat (xs : List AV) : List AV := xs.flatMap AV.cells

/-- A block of the store and what lies for it in the world (where it lies at all). -/
def BlkOk (G : Ghost) (w : World) (i : Nat) : Blk → Prop
  | .cells cs => CellsOk G w i cs
  | .rows sz xs => CellsOk G w i (flat xs) ∧ 0 < sz ∧ ∀ x ∈ xs, x.cells.length = sz
  | .grow e sz xs => G.cl i = none ∧ ∀ g, G.gr i = some g → g.n = xs.length ∧ 0 < sz ∧ (∀ (j : Nat) (x : AV), xs[j]? = some x → x.cells.length = sz) ∧
      ∃ cs : List Value, w.ownsRow 0 e sz g.hv xs.length cs ∧
        (∀ (j : Nat) (x : AV) (q : Nat) v cv, xs[j]? = some x → x.cells[q]? = some v → cs[j * sz + q]? = some cv → RI G.Z v cv) ∧
        ∀ c, g.hv.ownBlock = some c → (∀ (k : Nat) cv, cs[k]? = some cv → G.Z c k = some cv) ∧ ∀ k, cs.length ≤ k → G.Z c k = none
  | .own e sz xs => G.cl i = none ∧ ∀ g, G.gr i = some g → g.n = xs.length ∧ 0 < sz ∧ (∀ (j : Nat) (x : AV), xs[j]? = some x → x.cells.length = sz) ∧
      ∃ cs : List Value, w.ownsRow 0 e sz g.hv xs.length cs ∧
        (∀ (j : Nat) (x : AV) (q : Nat) v cv, xs[j]? = some x → x.cells[q]? = some v → cs[j * sz + q]? = some cv → R G v cv) ∧
        ∀ c, g.hv.ownBlock = some c → ∀ k, G.Z c k = none
  | .lp n env ps as cd st pe => G.gr i = none ∧ ∀ c, G.cl i = some c → ∃ rec : Loop, w.heap[c]? = some (.loop rec) ∧ rec.state = st ∧ rec.pending = pe ∧ rec.params = ps ∧ rec.assign = as ∧ rec.body = cd ∧
      rec.tmps.size = n ∧ (∀ t v, env.get t = some v → ∃ cv, rec.tmps[t]? = some cv ∧ R G v cv) ∧ ∀ o, G.Z c o = none
  | .map es => G.gr i = none ∧ ∀ c, G.cl i = some c → ∃ ents clock, w.heap[c]? = some (.map ents clock) ∧ ents.size = es.length ∧
      (∀ (j : Nat) e ce, es[j]? = some e → ents[j]? = some ce → RI G.Z e.1 ce.key ∧ R G e.2 ce.val) ∧ ∀ o, G.Z c o = none
  | .gone => G.cl i = none ∧ G.gr i = none

/-- Block i lies at c. -/
def Ghost.owns (G : Ghost) (i c : Nat) : Prop := G.cl i = some c ∨ ∃ g, G.gr i = some g ∧ g.hv.ownBlock = some c

structure Inv (G : Ghost) (bs : List Blk) (w : World) : Prop where
  blk : ∀ (i : Nat) b, bs[i]? = some b → BlkOk G w i b
  dom : ∀ i, bs.length ≤ i → G.cl i = none ∧ G.gr i = none
  inj : ∀ i j c, G.owns i c → G.owns j c → i = j
  z : ∀ c o v, G.Z c o = some v → rd w c o = some v

/-- From (G, w) to (G', w'): what lay elsewhere is as it was. -/
structure Ev (G : Ghost) (w : World) (G' : Ghost) (w' : World) : Prop where
  os : w'.os = w.os
  tape : w'.tape = w.tape
  output : w'.output = w.output
  size : w.heap.size ≤ w'.heap.size
  Z : G.Z.le G'.Z
  newZ : ∀ c o v, G'.Z c o = some v → G.Z c o = some v ∨ w.heap.size ≤ c ∨ ∃ i, G.owns i c
  frame : ∀ c, c < w.heap.size → (∀ i, ¬ G.owns i c) → w'.heap[c]? = w.heap[c]?
  own : ∀ i c, G'.owns i c → w.heap.size ≤ c ∨ ∃ j, G.owns j c
  loop : ∀ (c : Nat) (rec : Loop), w.heap[c]? = some (Obj.loop rec) → ∃ rec' : Loop, w'.heap[c]? = some (Obj.loop rec')

theorem Ev.refl (G : Ghost) (w : World) : Ev G w G w := ⟨rfl, rfl, rfl, Nat.le_refl _, .refl _, fun _ _ _ h => .inl h, fun _ _ _ => rfl, fun i _ h => .inr ⟨i, h⟩, fun _ rec h => ⟨rec, h⟩⟩

theorem Ev.trans {G G' G'' : Ghost} {w w' w'' : World} (h : Ev G w G' w') (k : Ev G' w' G'' w'') : Ev G w G'' w'' where
  os := k.os.trans h.os
  tape := k.tape.trans h.tape
  output := k.output.trans h.output
  size := Nat.le_trans h.size k.size
  Z := h.Z.trans k.Z
  newZ c o v e := by
    rcases k.newZ c o v e with e | e | ⟨i, e⟩
    · exact h.newZ c o v e
    · exact .inr (.inl (Nat.le_trans h.size e))
    · exact .inr (h.own i c e)
  frame c hc hn := by
    rw [k.frame c (Nat.lt_of_lt_of_le hc h.size) (fun i hi => ?_), h.frame c hc hn]
    rcases h.own i c hi with e | ⟨j, e⟩
    · omega
    · exact hn j e
  own i c e := by
    rcases k.own i c e with e | ⟨j, e⟩
    · exact .inl (Nat.le_trans h.size e)
    · exact h.own j c e
  loop c rec e := by
    obtain ⟨rec', e'⟩ := h.loop c rec e
    exact k.loop c rec' e'

/-- Loops stay where all that changed is no loop. -/
theorem loop_of_same {w w' : World} (h : ∀ c, c < w.heap.size → w'.heap[c]? = w.heap[c]? ∨ ∀ rec : Loop, w.heap[c]? ≠ some (Obj.loop rec)) (c : Nat) (rec : Loop) (e : w.heap[c]? = some (Obj.loop rec)) : ∃ rec' : Loop, w'.heap[c]? = some (Obj.loop rec') := by
  rcases h c (Array.getElem?_eq_some_iff.1 e).1 with h | h
  · exact ⟨rec, h.trans e⟩
  · exact absurd e (h rec)

end
end Go.Proofs.YtelgmdljcbkniaaGreatDoor.Ai

/- An interpreter of values for the model's code, base text 2: what a piece of code does to the slots and the store, and the rules of its control flow. -/
namespace Go.Proofs.YtelgmdljcbkniaaGreatDoor.Ai
noncomputable section
open Go

/-- The slots and the store. -/
structure St where
  env : Env
  bs : List Blk

def St.put (s : St) (d : Option Nat) (v : AV) : St :=
  match d with
  | some d => { s with env := (d, v) :: s.env }
  | none => s

/-- The slots hold what the environment says. -/
def EnvR (G : Ghost) (env : Env) (tmps : Array Value) : Prop := ∀ t v, env.get t = some v → ∃ cv, tmps[t]? = some cv ∧ R G v cv

theorem EnvR.mono {G G' : Ghost} {env : Env} {tmps : Array Value} (h : EnvR G env tmps) (hg : G.le G') : EnvR G' env tmps :=
  fun t v e => let ⟨cv, e1, r⟩ := h t v e; ⟨cv, e1, r.mono hg⟩

theorem EnvR.put {G : Ghost} {env : Env} {tmps : Array Value} (h : EnvR G env tmps) {d : Nat} {v : AV} {cv : Value} (hd : d < tmps.size) (r : R G v cv) :
    EnvR G ((d, v) :: env) (tmps.setIfInBounds d cv) := by
  intro t u e
  simp only [Env.get_cons] at e
  split at e
  · rename_i hdt
    subst hdt
    obtain rfl : v = u := Option.some.inj e
    exact ⟨cv, by simp [hd], r⟩
  · rename_i hdt
    obtain ⟨cv', e1, r'⟩ := h t u e
    exact ⟨cv', by rw [Array.getElem?_setIfInBounds_ne hdt]; exact e1, r'⟩

def ofConst1 : Value → Option AV
  | .int k n => some (.int k n)
  | .bool b => some (.bool b)
  | .string s => some (.str s)
  | .pointer none => some .nilp
  | .slice none 0 0 => some .nils
  | .map none => some .nilmap
  | .nilFunc => some .nilfn
  | _ => none

def ofConsts : List Value → Option (List AV)
  | [] => some []
  | v :: r => match ofConst1 v, ofConsts r with
    | some x, some xs => some (x :: xs)
    | _, _ => none

def ofConst : Value → Option AV
  | .agg cs => (ofConsts cs.toList).map .agg
  | .tuple cs => if cs.size = 0 then some (.tup []) else none
  | v => ofConst1 v

theorem ofConst1_ri {Z : ZM} {v : Value} {x : AV} (h : ofConst1 v = some x) : RI Z x v := by
  unfold ofConst1 at h
  split at h <;> first
    | (obtain rfl := Option.some.inj h; constructor; done)
    | cases h

theorem ofConsts_ri {Z : ZM} : ∀ {vs : List Value} {xs : List AV}, ofConsts vs = some xs → xs.length = vs.length ∧ ∀ (j : Nat) x cv, xs[j]? = some x → vs[j]? = some cv → RI Z x cv
  | [], xs, h => by obtain rfl := Option.some.inj h; simp
  | v :: r, xs, h => by
    simp only [ofConsts] at h
    split at h
    · rename_i x xs' h1 h2
      obtain rfl := Option.some.inj h
      obtain ⟨hl, hr⟩ := ofConsts_ri (Z := Z) h2
      refine ⟨by simp [hl], fun j y cv hy hcv => ?_⟩
      cases j with
      | zero => simp at hy hcv; subst hy hcv; exact ofConst1_ri h1
      | succ j => exact hr j y cv (by simpa using hy) (by simpa using hcv)
    · cases h

theorem ofConst_ri {Z : ZM} {v : Value} {x : AV} (h : ofConst v = some x) : RI Z x v := by
  unfold ofConst at h
  split at h
  · rename_i cs
    cases hc : ofConsts cs.toList with
    | none => simp [hc] at h
    | some xs =>
      simp only [hc, Option.map_some, Option.some.injEq] at h
      subst h
      obtain ⟨hl, hr⟩ := ofConsts_ri (Z := Z) hc
      exact .agg xs cs (by simpa using hl.symm) fun j v cv hv hcv => hr j v cv hv (by simpa using hcv)
  · rename_i cs
    split at h
    · rename_i h0
      obtain rfl := Option.some.inj h
      exact .tup [] cs (by simpa using h0) (by simp)
    · cases h
  · exact ofConst1_ri h

/-- An operand's value. -/
def ev (env : Env) : Operand → Option AV
  | .tmp t => env.get t
  | .const v => ofConst v
  | .global g => (tableOf tables g).map fun cs => .eptr [.agg cs] 0 0
  | .func f => some (.fn f [])

theorem ev_r {G : Ghost} {env : Env} {a : Act} (h : EnvR G env a.tmps) {x : Operand} {v : AV} (e : ev env x = some v) : R G v (a.eval x) := by
  cases x with
  | tmp t =>
    obtain ⟨cv, e1, r⟩ := h t v e
    have : a.eval (.tmp t) = cv := by simp [Act.eval, e1]
    rw [this]; exact r
  | const c => exact .imm _ _ (ofConst_ri e)
  | global g =>
    simp only [ev, Option.map_eq_some_iff] at e
    obtain ⟨cs, e, rfl⟩ := e
    exact .imm _ _ (G.ok.ri e)
  | func f =>
    obtain rfl := Option.some.inj e
    exact .imm _ _ (.fn f [] #[] rfl (by simp))

def evs (env : Env) : List Operand → Option (List AV)
  | [] => some []
  | x :: r => match ev env x, evs env r with
    | some v, some vs => some (v :: vs)
    | _, _ => none

theorem evs_r {G : Ghost} {env : Env} {a : Act} (h : EnvR G env a.tmps) : ∀ {xs : List Operand} {vs : List AV}, evs env xs = some vs →
    vs.length = xs.length ∧ ∀ (j : Nat) v x, vs[j]? = some v → xs[j]? = some x → R G v (a.eval x)
  | [], vs, e => by obtain rfl := Option.some.inj e; simp
  | x :: r, vs, e => by
    simp only [evs] at e
    split at e
    · rename_i v vs' h1 h2
      obtain rfl := Option.some.inj e
      obtain ⟨hl, hr⟩ := evs_r h h2
      refine ⟨by simp [hl], fun j y z hy hz => ?_⟩
      cases j with
      | zero => simp at hy hz; subst hy hz; exact ev_r h h1
      | succ j => exact hr j y z (by simpa using hy) (by simpa using hz)
    · cases e

/-- What an operation must leave: its value, the store, and all that is elsewhere as it was. -/
structure After (G : Ghost) (w : World) (v : AV) (bs' : List Blk) (cv : Value) (w' : World) (G' : Ghost) : Prop where
  r : R G' v cv
  inv : Inv G' bs' w'
  le : G.le G'
  ev : Ev G w G' w'


/-- What a function's frame may lean on and what it owes to all that is elsewhere: what is so in every world that it comes to (X); the blocks that it may lay aside for its own loops (Y). -/
structure Prot (m : Nat) where
  X : Ghost → World → Prop
  Y : Nat → Prop
  go : ∀ G w G' w', X G w → Ev G w G' w' → (∀ i, i < m → ∀ c, G.cl i = some c → G'.cl i = some c) →
    (∀ i, i < m → ∀ g, G.gr i = some g → ∃ g', G'.gr i = some g' ∧ (g' = g ∨ g.n < g'.n)) → X G' w'
  fresh : ∀ G w D, X G w → w.heap.size ≤ D → Y D
  put : ∀ G w D o, X G w → Y D → (∀ i, ¬ G.owns i D) → (∀ o, rd w D o = none) → (∀ o', rd (w.putObj D o) D o' = none) → (∀ rec : Loop, w.heap[D]? ≠ some (Obj.loop rec)) → X G (w.putObj D o)

/-- The frame's own mark among its deferred calls. -/
def mark (D : Nat) : Deferred := { target := .collected D, args := #[] }

/-- The loops' blocks: they lie aside from the store. -/
structure Aside (Y : Nat → Prop) (r : Option Nat) (ds : List Deferred) (G : Ghost) (w : World) : Prop where
  ds : ∃ Ds : List Nat, ds = Ds.map mark ∧ Ds.Nodup ∧ ∀ D ∈ Ds, Y D ∧ w.heap[D]? = some (.deferred (some [])) ∧ ∀ i, ¬ G.owns i D
  rk : ∀ l, r = some l → ∃ rec : Loop, w.heap[l]? = some (Obj.loop rec)

theorem Aside.ev {Y : Nat → Prop} {r : Option Nat} {ds : List Deferred} {G G' : Ghost} {w w' : World} (h : Aside Y r ds G w) (e : Ev G w G' w') : Aside Y r ds G' w' := by
  have key : ∀ D (o : Obj), w.heap[D]? = some o → (∀ i, ¬ G.owns i D) → w'.heap[D]? = some o ∧ ∀ i, ¬ G'.owns i D := fun D o ho hn => by
    have hlt : D < w.heap.size := (Array.getElem?_eq_some_iff.1 ho).1
    refine ⟨(e.frame D hlt hn).trans ho, fun i hi => ?_⟩
    rcases e.own i D hi with h1 | ⟨j, h1⟩
    · omega
    · exact hn j h1
  obtain ⟨⟨Ds, e1, e2, e3⟩, h2⟩ := h
  refine ⟨⟨Ds, e1, e2, fun D hD => ?_⟩, fun l hl => ?_⟩
  · obtain ⟨h3, h4, h5⟩ := e3 D hD
    exact ⟨h3, key D _ h4 h5⟩
  · obtain ⟨rec, h3⟩ := h2 l hl
    exact e.loop l rec h3

def Wd (r : Option Nat) : Fence := { Fence.wide with round := r }

theorem callsW {r : Option Nat} {n : Nat} {P : Program} {f : FuncId} {args : Array Value} {w : World} {R : Ending → World → Prop} (h : Calls P f args w R) : CallsIn (Wd r) n P f args w R :=
  (callsIn_wide (n := n)).2 h

theorem wpIn_of_wp {P : Program} {o : Oper} {a : Act} {w : World} {K : Act → World → Prop} {Q : Exit → Act → World → Prop} {r : Option Nat} (hd : ∀ c, o.op ≠ .defer c) (h : o.wp P a w K Q) : o.wpIn (Wd r) 0 P a w K Q := by
  refine ⟨fun _ _ => trivial, ?_⟩
  rw [Oper.semAt_eq _ _ _ hd]
  unfold Oper.wp at h
  generalize (execOp a.eval o).run P w = x at *
  cases x with
  | ok x w' =>
    cases x <;> simp only [Oper.upon, Oper.uponIn] at h ⊢ <;> first
      | exact h
      | exact ⟨fun h => by simp [Wd, Fence.wide] at h, callsW h⟩
      | exact ⟨fun h => by simp [Wd, Fence.wide] at h, fun c cs _ => let ⟨v, w', r, s⟩ := h c cs; ⟨v, w', r, (stepsIn_wide.2 s : StepsIn (Machine.fenced _ Fence.wide) _ _ _)⟩⟩
      | exact h.elim
  | halt x w' => cases x <;> simp only [Oper.upon, Oper.uponIn] at h ⊢ <;> first | exact h | exact h.elim

/-- The operation, at these slots and this store, yields the value v and leaves the store bs'. -/
def OpT (P : Program) (o : Oper) (s : St) (v : AV) (bs' : List Blk) : Prop :=
  ∀ (r : Option Nat) (G : Ghost) (w : World) (a : Act), Inv G s.bs w → EnvR G s.env a.tmps → ∀ (K : Act → World → Prop) (Q : Exit → Act → World → Prop),
    (∀ cv w' G', After G w v bs' cv w' G' → K (a.put o.dst cv) w') → o.wpIn (Wd r) 0 P a w K Q

theorem OpT.of {P : Program} {o : Oper} {s : St} {v : AV} {bs' : List Blk} (hd : ∀ c, o.op ≠ .defer c)
    (h : ∀ (G : Ghost) (w : World) (a : Act), Inv G s.bs w → EnvR G s.env a.tmps → ∀ (K : Act → World → Prop) (Q : Exit → Act → World → Prop),
      (∀ cv w' G', After G w v bs' cv w' G' → K (a.put o.dst cv) w') → o.wp P a w K Q) : OpT P o s v bs' :=
  fun _ G w a hI hE K Q hK => wpIn_of_wp hd (h G w a hI hE K Q hK)

/-- A run of operations in the order of the text. -/
inductive Run (P : Program) (n : Nat) (ops : Array Oper) : List Oper → St → St → Prop where
  | nil (s : St) : Run P n ops [] s s
  | op (o : Oper) (rest : List Oper) (s : St) (v : AV) (bs' : List Blk) (s' : St)
      (hg : match o.guard with
        | none => True
        | some (j, want) => ∃ d, ((ops[j]?).bind (·.dst)) = some d ∧ s.env.get d = some (.bool want))
      (hd : ∀ d, o.dst = some d → d < n) (h : OpT P o s v bs') (k : Run P n ops rest (St.put ⟨s.env, bs'⟩ o.dst v) s') : Run P n ops (o :: rest) s s'
  | skip (o : Oper) (rest : List Oper) (s s' : St)
      (hg : match o.guard with
        | none => False
        | some (j, want) => ∃ d, ((ops[j]?).bind (·.dst)) = some d ∧ (s.env.get d = some (.bool !want) ∨ s.env.get d = some (.tup [])))
      (hd : ∀ d, o.dst = some d → d < n) (k : Run P n ops rest (s.put o.dst (.tup [])) s') : Run P n ops (o :: rest) s s'

/-- What holds at a point of a function's body. -/
structure Holds (n : Nat) {m : Nat} (X : Prot m) (r : Option Nat) (s : St) (a : Act) (w : World) : Prop where
  st : ∃ G, EnvR G s.env a.tmps ∧ Inv G s.bs w ∧ X.X G w ∧ Aside X.Y r a.defers G w
  sz : a.tmps.size = n

def T (P : Program) (n m : Nat) (c : Code) (s : St) (Q : Exit → St → Prop) : Prop :=
  ∀ (X : Prot m) r a w, Holds n X r s a w → c.wpIn (Wd r) 0 P (fun e a' w' => ∃ s', Q e s' ∧ Holds n X r s' a' w') a w

theorem R.bool_inv {G : Ghost} {b : Bool} {cv : Value} (h : R G (.bool b) cv) : cv = .bool b := by
  cases h with
  | imm _ _ h => cases h; rfl

theorem put_size (a : Act) (d : Option Nat) (v : Value) : (a.put d v).tmps.size = a.tmps.size := by cases d <;> simp [Act.put]
theorem put_defers (a : Act) (d : Option Nat) (v : Value) : (a.put d v).defers = a.defers := by cases d <;> rfl

theorem Prot.le {m : Nat} (X : Prot m) {G G' : Ghost} {w w' : World} (h : X.X G w) (e : Ev G w G' w') (l : G.le G') : X.X G' w' :=
  X.go G w G' w' h e (fun i _ c => l.cl i c) (fun i _ g => l.gr i g)

theorem Holds.put {n m : Nat} {X : Prot m} {r : Option Nat} {s : St} {a : Act} {w : World} {G G' : Ghost} {w' : World} {v : AV} {bs' : List Blk} {cv : Value} {d : Option Nat}
    (hE : EnvR G s.env a.tmps) (hx : X.X G w) (ha : Aside X.Y r a.defers G w) (hsz : a.tmps.size = n)
    (h : After G w v bs' cv w' G') (hd : ∀ k, d = some k → k < n) : Holds n X r (St.put ⟨s.env, bs'⟩ d v) (a.put d cv) w' := by
  refine ⟨⟨G', ?_, ?_, X.le hx h.ev h.le, by rw [put_defers]; exact ha.ev h.ev⟩, by rw [put_size]; exact hsz⟩
  · cases d with
    | none => exact hE.mono h.le
    | some d => exact (hE.mono h.le).put (hsz ▸ hd d rfl) h.r
  · cases d <;> exact h.inv

theorem yielded_of {G : Ghost} {env : Env} {a : Act} (hE : EnvR G env a.tmps) {ops : Array Oper} {j d : Nat} {b : Bool} (hj : ((ops[j]?).bind (·.dst)) = some d) (he : env.get d = some (.bool b)) :
    yielded ops a.tmps j = some b := by
  obtain ⟨cv, e1, r⟩ := hE d _ he
  have := r.bool_inv
  subst this
  simp [yielded, hj, e1]

theorem yielded_undef {G : Ghost} {env : Env} {a : Act} (hE : EnvR G env a.tmps) {ops : Array Oper} {j d : Nat} (hj : ((ops[j]?).bind (·.dst)) = some d) (he : env.get d = some (.tup [])) :
    yielded ops a.tmps j = none := by
  obtain ⟨cv, e1, r⟩ := hE d _ he
  have : ∃ vs, cv = .tuple vs := by
    cases r with
    | imm _ _ h => cases h with | tup _ vs => exact ⟨vs, rfl⟩
    | tup _ vs => exact ⟨vs, rfl⟩
  obtain ⟨vs, rfl⟩ := this
  simp [yielded, hj, e1]

theorem wanted_yes {G : Ghost} {env : Env} {a : Act} (hE : EnvR G env a.tmps) {ops : Array Oper} {o : Oper}
    (hg : match o.guard with
        | none => True
        | some (j, want) => ∃ d, ((ops[j]?).bind (·.dst)) = some d ∧ env.get d = some (.bool want)) : Region.wanted o (yielded ops a.tmps) = true := by
  unfold Region.wanted
  split at hg
  · rename_i hgd; simp [hgd]
  · rename_i j want hgd
    obtain ⟨d, hj, he⟩ := hg
    simp [hgd, yielded_of hE hj he]

theorem wanted_no {G : Ghost} {env : Env} {a : Act} (hE : EnvR G env a.tmps) {ops : Array Oper} {o : Oper}
    (hg : match o.guard with
        | none => False
        | some (j, want) => ∃ d, ((ops[j]?).bind (·.dst)) = some d ∧ (env.get d = some (.bool !want) ∨ env.get d = some (.tup []))) : ¬ Region.wanted o (yielded ops a.tmps) = true := by
  unfold Region.wanted
  split at hg
  · exact hg.elim
  · rename_i j want hgd
    obtain ⟨d, hj, he | he⟩ := hg
    · simp [hgd, yielded_of hE hj he]
    · simp [hgd, yielded_undef hE hj he]

theorem after_skip {G : Ghost} {bs : List Blk} {w : World} (hI : Inv G bs w) : After G w (.tup []) bs undef w G := ⟨.imm _ _ (.tup [] #[] rfl (by simp)), hI, .refl _, .refl _ _⟩

theorem run_ops {P : Program} {n m : Nat} {X : Prot m} {r : Option Nat} {ops : Array Oper} {Q : Exit → Act → World → Prop} : ∀ {l : List Oper} {s s' : St}, Run P n ops l s s' → ∀ {k : Nat},
    (∀ j, l[j]? = ops[k + j]?) → k + l.length = ops.size → ∀ {a : Act} {w : World}, Holds n X r s a w →
    (∀ a' w', Holds n X r s' a' w' → Q .normal a' w') → wpOpsIn (Wd r) 0 P ops Q ((List.range ops.size).drop k) a w := by
  intro l s s' h
  induction h with
  | nil s =>
    intro k _ hk a w H hQ
    have : (List.range ops.size).drop k = [] := by simp at hk ⊢; omega
    rw [this]
    exact hQ a w H
  | op o rest s v bs' s' hg hd h _ ih =>
    intro k hl hk a w H hQ
    have hlt : k < ops.size := by simp at hk; omega
    have hd0 : (List.range ops.size).drop k = k :: (List.range ops.size).drop (k + 1) := by
      rw [List.drop_eq_getElem_cons (by simpa using hlt)]; simp
    have ho : ops[k]? = some o := by simpa using (hl 0).symm
    obtain ⟨G, hE, hI, hx, ha⟩ := H.st
    rw [hd0]
    simp only [wpOpsIn, ho]
    rw [if_pos (wanted_yes hE hg)]
    refine h r G w a hI hE _ _ fun cv w' G' hA => ?_
    refine ih (k := k + 1) (fun j => ?_) (by simp at hk; omega) (Holds.put (s := s) hE hx ha H.sz hA hd) hQ
    have := hl (j + 1)
    simpa [Nat.add_assoc, Nat.add_comm 1 j] using this
  | skip o rest s s' hg hd _ ih =>
    intro k hl hk a w H hQ
    have hlt : k < ops.size := by simp at hk; omega
    have hd0 : (List.range ops.size).drop k = k :: (List.range ops.size).drop (k + 1) := by
      rw [List.drop_eq_getElem_cons (by simpa using hlt)]; simp
    have ho : ops[k]? = some o := by simpa using (hl 0).symm
    obtain ⟨G, hE, hI, hx, ha⟩ := H.st
    rw [hd0]
    simp only [wpOpsIn, ho]
    rw [if_neg (wanted_no hE hg)]
    refine ⟨fun _ _ => trivial, ih (k := k + 1) (fun j => ?_) (by simp at hk; omega) (Holds.put (s := s) hE hx ha H.sz (after_skip hI) hd) hQ⟩
    have := hl (j + 1)
    simpa [Nat.add_assoc, Nat.add_comm 1 j] using this

/-- A region whose order is the text's. -/
theorem T_region {P : Program} {n m id : Nat} {ops : List Oper} {s s' : St} {Q : Exit → St → Prop} (h : Run P n ops.toArray ops s s') (hQ : Q .normal s') :
    T P n m (.region id ops.toArray false) s Q := by
  intro X r a w H
  refine wpIn_region ?_
  have := run_ops (P := P) (n := n) (Q := fun e a' w' => ∃ s', Q e s' ∧ Holds n X r s' a' w') h (k := 0) (by simp) (by simp) H (fun _ _ H' => ⟨s', hQ, H'⟩)
  simpa using this

theorem T_mono {P : Program} {n m : Nat} {c : Code} {s : St} {Q Q' : Exit → St → Prop} (h : T P n m c s Q) (hq : ∀ e s, Q e s → Q' e s) : T P n m c s Q' :=
  fun X r a w H => wpIn_mono (h X r a w H) fun e _ _ ⟨s', q, H'⟩ => ⟨s', hq e s' q, H'⟩

theorem T_skip {P : Program} {n m : Nat} {s : St} {Q : Exit → St → Prop} (h : Q .normal s) : T P n m .skip s Q := fun _ _ _ _ H => wpIn_skip ⟨s, h, H⟩
theorem T_label {P : Program} {n m l : Nat} {s : St} {Q : Exit → St → Prop} (h : Q .normal s) : T P n m (.label l) s Q := fun _ _ _ _ H => wpIn_label ⟨s, h, H⟩
theorem T_exit {P : Program} {n m id : Nat} {s : St} {Q : Exit → St → Prop} (h : Q (.exit id) s) : T P n m (.exit id) s Q := fun _ _ _ _ H => wpIn_exit ⟨s, h, H⟩
theorem T_ret {P : Program} {n m : Nat} {s : St} {Q : Exit → St → Prop} (h : Q .ret s) : T P n m .ret s Q := fun _ _ _ _ H => wpIn_ret ⟨s, h, H⟩

/-- Behind a piece of code: where it goes on normally, what is asked there. -/
def thenT (next : St → Prop) (Q : Exit → St → Prop) : Exit → St → Prop
  | .normal, s => next s
  | e, s => Q e s

theorem T_seq {P : Program} {n m : Nat} {x y : Code} {s : St} {Q : Exit → St → Prop} (h : T P n m x s (thenT (fun s' => T P n m y s' Q) Q)) : T P n m (.seq x y) s Q := by
  intro X r a w H
  refine wpIn_seq (wpIn_mono (h X r a w H) fun e a' w' ⟨s', q, H'⟩ => ?_)
  cases e with
  | normal => exact q X r a' w' H'
  | exit id => exact ⟨s', q, H'⟩
  | goto l => exact ⟨s', q, H'⟩
  | ret => exact ⟨s', q, H'⟩
  | panic c => exact ⟨s', q, H'⟩
  | outgrown => exact ⟨s', q, H'⟩

theorem T_cond {P : Program} {n m : Nat} {c : Operand} {x y : Code} {s : St} {Q : Exit → St → Prop} {b : Bool} (hc : ev s.env c = some (.bool b))
    (ht : b = true → T P n m x s Q) (hf : b = false → T P n m y s Q) : T P n m (.cond c x y) s Q := by
  intro X r a w H
  obtain ⟨G, hE, -⟩ := H.st
  have h := (ev_r hE hc).bool_inv
  exact wpIn_cond_split h (fun e => ht e X r a w H) (fun e => hf e X r a w H)

def inBlockT (id : Nat) (Q : Exit → St → Prop) : Exit → St → Prop
  | .exit id', s => match Nat.beq id' id with
    | true => Q .normal s
    | false => Q (.exit id') s
  | e, s => Q e s

theorem T_block {P : Program} {n m id : Nat} {c : Code} {s : St} {Q : Exit → St → Prop} (h : T P n m c s (inBlockT id Q)) : T P n m (.block id c) s Q := by
  intro X r a w H
  refine wpIn_block (wpIn_mono (h X r a w H) fun e a' w' ⟨s', q, H'⟩ => ?_)
  cases e with
  | exit id' =>
    simp only [inBlockT] at q
    simp only [Exit.inBlock]
    cases hb : Nat.beq id' id with
    | true => rw [hb] at q; rw [if_pos (Nat.eq_of_beq_eq_true hb)]; exact ⟨s', q, H'⟩
    | false => rw [hb] at q; rw [if_neg (Nat.ne_of_beq_eq_false hb)]; exact ⟨s', q, H'⟩
  | normal => exact ⟨s', q, H'⟩
  | goto l => exact ⟨s', q, H'⟩
  | ret => exact ⟨s', q, H'⟩
  | panic c => exact ⟨s', q, H'⟩
  | outgrown => exact ⟨s', q, H'⟩

/-- What holds at s holds at s', too: s' says less. -/
def Weak (n m : Nat) (s s' : St) : Prop := ∀ (X : Prot m) r a w, Holds n X r s a w → Holds n X r s' a w

theorem Weak.refl (n m : Nat) (s : St) : Weak n m s s := fun _ _ _ _ h => h
theorem Weak.trans {n m : Nat} {s s' s'' : St} (h : Weak n m s s') (k : Weak n m s' s'') : Weak n m s s'' := fun _ _ _ _ H => k _ _ _ _ (h _ _ _ _ H)
theorem T_weak {P : Program} {n m : Nat} {c : Code} {s s' : St} {Q : Exit → St → Prop} (hw : Weak n m s s') (h : T P n m c s' Q) : T P n m c s Q :=
  fun X r a w H => h X r a w (hw _ _ _ _ H)

/-- Fewer slots. -/
theorem Weak.env {n m : Nat} {env env' : Env} {bs : List Blk} (h : ∀ t v, env'.get t = some v → env.get t = some v) : Weak n m ⟨env, bs⟩ ⟨env', bs⟩ :=
  fun _ _ _ _ H => ⟨let ⟨G, hE, r⟩ := H.st; ⟨G, fun t v e => hE t v (h t v e), r⟩, H.sz⟩

/-- The slots that are listed, alone. -/
def Env.keep (env : Env) : List Nat → Env
  | [] => []
  | t :: r => match env.get t with
    | some v => (t, v) :: Env.keep env r
    | none => Env.keep env r

theorem keep_get (env : Env) : ∀ (l : List Nat) (t : Nat) (v : AV), (env.keep l).get t = some v → env.get t = some v
  | [], t, v, h => by simp [Env.keep, Env.get] at h
  | a :: r, t, v, h => by
    simp only [Env.keep] at h
    split at h
    · rename_i u hu
      simp only [Env.get_cons] at h
      split at h
      · rename_i e; subst e; rw [hu, h]
      · exact keep_get env r t v h
    · exact keep_get env r t v h

theorem Weak.keep {n m : Nat} {env : Env} {bs : List Blk} (l : List Nat) : Weak n m ⟨env, bs⟩ ⟨env.keep l, bs⟩ := .env (keep_get env l)

/-- A loop: what holds at its head, told by x; each round that goes on lowers the measure. -/
theorem T_loop {P : Program} {n m : Nat} {c : Code} {A : Type} (inv : A → St) (μ : A → Nat) {s : St} {Q : Exit → St → Prop} (x0 : A) (h0 : Weak n m s (inv x0))
    (round : ∀ x, T P n m c (inv x) (thenT (fun s' => ∃ y, μ y < μ x ∧ Weak n m s' (inv y)) Q)) : T P n m (.loop c) s Q := by
  intro X r a w H b k cs hro hb hr
  have key : ∀ u x a w, μ x = u → Holds n X r (inv x) a w →
      ∃ e a' w', (∃ s', Q e s' ∧ Holds n X r s' a' w') ∧ ArrivesIn (Machine.fenced P (Wd r)) P (lone (b.atR a (.code c :: .inLoop c :: k)) cs w) b k cs e a' w' := by
    intro u
    induction u using Nat.strongRecOn with
    | _ u ih =>
      intro x a w hm hH
      obtain ⟨e, a1, w1, ⟨s', q, H'⟩, harr⟩ := round x X r a w hH b (.inLoop c :: k) cs hro hb hr
      cases e with
      | normal =>
        obtain ⟨y, hlt, hw⟩ := q
        obtain ⟨e2, a2, w2, hq2, harr2⟩ := ih (μ y) (hm ▸ hlt) y a1 w1 rfl (hw _ _ _ _ H')
        exact ⟨e2, a2, w2, hq2, .of_steps (StepsIn.trans harr (.one (fenced_calm hb hr rfl) stepR_inLoop)) harr2⟩
      | exit id => exact ⟨_, a1, w1, ⟨s', q, H'⟩, .pass (x := .inLoop c) rfl (fun _ _ => .inl (by simp)) harr⟩
      | goto l => exact ⟨_, a1, w1, ⟨s', q, H'⟩, .pass (x := .inLoop c) rfl (fun _ _ => .inl (by simp)) harr⟩
      | ret => exact ⟨_, a1, w1, ⟨s', q, H'⟩, .pass (x := .inLoop c) rfl (fun _ _ => .inl (by simp)) harr⟩
      | panic ch => exact ⟨_, a1, w1, ⟨s', q, H'⟩, .pass (x := .inLoop c) rfl (fun _ _ => .inl (by simp)) harr⟩
      | outgrown => exact ⟨_, a1, w1, ⟨s', q, H'⟩, .pass (x := .inLoop c) rfl (fun _ _ => .inl (by simp)) harr⟩
  obtain ⟨e, a', w', hq, harr⟩ := key _ x0 a w rfl (h0 _ _ _ _ H)
  exact ⟨e, a', w', hq, .of_steps (.one (fenced_calm hb hr rfl) stepR_loop) harr⟩

end
end Go.Proofs.YtelgmdljcbkniaaGreatDoor.Ai

/- An interpreter of values for the model's code, base text 3: what is kept when the world goes on, a function's contract, and the call of one. -/
namespace Go.Proofs.YtelgmdljcbkniaaGreatDoor.Ai
noncomputable section
open Go

theorem cell_of_frame {w w' : World} {c o : Nat} (h : w'.heap[c]? = w.heap[c]?) : w'.cell? ⟨c, o, none⟩ = w.cell? ⟨c, o, none⟩ := by simp [World.cell?, h]

theorem ownsRow_frame {w w' : World} {base e size : Nat} {v : Value} {n : Nat} {xs : List Value} (h : w.ownsRow base e size v n xs)
    (hf : ∀ c, v.ownBlock = some c → w'.heap[c]? = w.heap[c]?) : w'.ownsRow base e size v n xs := by
  refine ⟨h.1, ?_⟩
  rcases h.2 with hn | ⟨g, cap, cur, rfl, hb, hgg, rest⟩
  · exact .inl hn
  · exact .inr ⟨g, cap, cur, rfl, hb, (hf g rfl).trans hgg, rest⟩

/-- A block that lies where nothing was written, and of which no cell became one that nobody writes. -/
theorem BlkOk.keep {G G' : Ghost} {w w' : World} {i : Nat} {b : Blk} (h : BlkOk G w i b) (hle : G.le G') (hcl : G'.cl i = G.cl i) (hgr : G'.gr i = G.gr i)
    (hf : ∀ c, G.owns i c → w'.heap[c]? = w.heap[c]?) (hz : ∀ c, G.owns i c → ∀ o, G'.Z c o = G.Z c o) : BlkOk G' w' i b := by
  have key : ∀ cs, CellsOk G w i cs → CellsOk G' w' i cs := fun cs h => by
    obtain ⟨h1, h2⟩ := h
    refine ⟨hgr ▸ h1, fun c hc => ?_⟩
    rw [hcl] at hc
    obtain ⟨arr, e, hh, hl, hr, hzn⟩ := h2 c hc
    exact ⟨arr, e, (hf c (.inl hc)).trans hh, hl, fun j v cv hv hcv => (hr j v cv hv hcv).mono hle, fun o => (hz c (.inl hc) o).trans (hzn o)⟩
  cases b with
  | cells cs => exact key cs h
  | rows sz xs => exact ⟨key _ h.1, h.2⟩
  | grow e sz xs =>
    obtain ⟨h1, h2⟩ := h
    refine ⟨hcl ▸ h1, fun g hg => ?_⟩
    rw [hgr] at hg
    obtain ⟨hn, hsz, hcells, cs, hown, hcont, hzz⟩ := h2 g hg
    have ho : ∀ c, g.hv.ownBlock = some c → G.owns i c := fun c hc => .inr ⟨g, hg, hc⟩
    refine ⟨hn, hsz, hcells, cs, ownsRow_frame hown fun c hc => hf c (ho c hc), fun j x q v cv hx hq hc => (hcont j x q v cv hx hq hc).mono hle.Z, fun c hc => ?_⟩
    obtain ⟨h3, h4⟩ := hzz c hc
    exact ⟨fun k cv hk => (hz c (ho c hc) k).trans (h3 k cv hk), fun k hk => (hz c (ho c hc) k).trans (h4 k hk)⟩
  | own e sz xs =>
    obtain ⟨h1, h2⟩ := h
    refine ⟨hcl ▸ h1, fun g hg => ?_⟩
    rw [hgr] at hg
    obtain ⟨hn, hsz, hcells, cs, hown, hcont, hzz⟩ := h2 g hg
    have ho : ∀ c, g.hv.ownBlock = some c → G.owns i c := fun c hc => .inr ⟨g, hg, hc⟩
    exact ⟨hn, hsz, hcells, cs, ownsRow_frame hown fun c hc => hf c (ho c hc), fun j x q v cv hx hq hc => (hcont j x q v cv hx hq hc).mono hle, fun c hc k => (hz c (ho c hc) k).trans (hzz c hc k)⟩
  | lp n env ps as cd st pe =>
    obtain ⟨h1, h2⟩ := h
    refine ⟨hgr ▸ h1, fun c hc => ?_⟩
    rw [hcl] at hc
    obtain ⟨rec, hh, g1, g2, g3, g4, g5, g6, g7, hzn⟩ := h2 c hc
    exact ⟨rec, (hf c (.inl hc)).trans hh, g1, g2, g3, g4, g5, g6, fun t v e => let ⟨cv, e1, r⟩ := g7 t v e; ⟨cv, e1, r.mono hle⟩, fun o => (hz c (.inl hc) o).trans (hzn o)⟩
  | map es =>
    obtain ⟨h1, h2⟩ := h
    refine ⟨hgr ▸ h1, fun c hc => ?_⟩
    rw [hcl] at hc
    obtain ⟨ents, clock, hh, hl, hr, hzn⟩ := h2 c hc
    exact ⟨ents, clock, (hf c (.inl hc)).trans hh, hl, fun j e ce he hce => ⟨(hr j e ce he hce).1.mono hle.Z, (hr j e ce he hce).2.mono hle⟩, fun o => (hz c (.inl hc) o).trans (hzn o)⟩
  | gone => exact ⟨hcl.trans h.1, hgr.trans h.2⟩

theorem Inv.lt {G : Ghost} {bs : List Blk} {w : World} (h : Inv G bs w) {i c : Nat} (ho : G.owns i c) : i < bs.length ∧ c < w.heap.size := by
  have hi : i < bs.length := by
    rcases Nat.lt_or_ge i bs.length with h' | h'
    · exact h'
    · obtain ⟨h1, h2⟩ := h.dom i h'
      rcases ho with ho | ⟨g, hg, _⟩
      · rw [h1] at ho; cases ho
      · rw [h2] at hg; cases hg
  refine ⟨hi, ?_⟩
  have hb := h.blk i bs[i] (by simp [hi])
  have hlt : ∀ {o : Obj}, w.heap[c]? = some o → c < w.heap.size := fun {o} e => (Array.getElem?_eq_some_iff.1 e).1
  cases hbi : bs[i] with
  | cells cs =>
    rw [hbi] at hb
    rcases ho with ho | ⟨g, hg, _⟩
    · obtain ⟨arr, e, hh, _⟩ := hb.2 c ho; exact hlt hh
    · rw [hb.1] at hg; cases hg
  | rows sz xs =>
    rw [hbi] at hb
    rcases ho with ho | ⟨g, hg, _⟩
    · obtain ⟨arr, e, hh, _⟩ := hb.1.2 c ho; exact hlt hh
    · rw [hb.1.1] at hg; cases hg
  | grow e sz xs =>
    rw [hbi] at hb
    rcases ho with ho | ⟨g, hg, hgb⟩
    · rw [hb.1] at ho; cases ho
    · obtain ⟨_, _, _, cs, hown, _⟩ := hb.2 g hg; exact (hown.lt c hgb).2
  | own e sz xs =>
    rw [hbi] at hb
    rcases ho with ho | ⟨g, hg, hgb⟩
    · rw [hb.1] at ho; cases ho
    · obtain ⟨_, _, _, cs, hown, _⟩ := hb.2 g hg; exact (hown.lt c hgb).2
  | lp n env ps as cd st pe =>
    rw [hbi] at hb
    rcases ho with ho | ⟨g, hg, _⟩
    · obtain ⟨rec, hh, _⟩ := hb.2 c ho; exact hlt hh
    · rw [hb.1] at hg; cases hg
  | map es =>
    rw [hbi] at hb
    rcases ho with ho | ⟨g, hg, _⟩
    · obtain ⟨ents, clock, hh, _⟩ := hb.2 c ho; exact hlt hh
    · rw [hb.1] at hg; cases hg
  | gone =>
    rw [hbi] at hb
    rcases ho with ho | ⟨g, hg, _⟩
    · rw [hb.1] at ho; cases ho
    · rw [hb.2] at hg; cases hg

/-- The world went on elsewhere: new blocks, and new cells that nobody writes, in them. -/
theorem Inv.later {G : Ghost} {bs : List Blk} {w w' : World} {Z' : ZM} (h : Inv G bs w) (hsz : w.heap.size ≤ w'.heap.size) (hf : ∀ c, c < w.heap.size → w'.heap[c]? = w.heap[c]?)
    (hz : G.Z.le Z') (hnew : ∀ c o v, Z' c o = some v → G.Z c o = some v ∨ w.heap.size ≤ c) (hs : ∀ c o v, Z' c o = some v → rd w' c o = some v) :
    Inv (G.setZ Z' hz) bs w' := by
  have _ := hsz
  have hle : G.le (G.setZ Z' hz) := ⟨fun _ _ e => e, fun _ g e => ⟨g, e, .inl rfl⟩, hz⟩
  refine ⟨fun i b hb => (h.blk i b hb).keep hle rfl rfl (fun c hc => hf c (h.lt hc).2) (fun c hc o => ?_), h.dom, h.inj, hs⟩
  have hlt := (h.lt hc).2
  cases hG : G.Z c o with
  | some v => exact hz c o v hG
  | none =>
    cases hZ : Z' c o with
    | none => exact hZ
    | some v =>
      rcases hnew c o v hZ with e | e
      · rw [hG] at e; cases e
      · omega

/-! ### A value's snapshot: without blocks of its own -/

mutual
def imm (bs : List Blk) : AV → Option AV
  | .gsl i len => match bs[i]? with
    | some (.grow _ _ xs) => if xs.length = len then some (.lst false xs) else none
    | _ => none
  | .agg cs => (imms bs cs).map .agg
  | .tup cs => (imms bs cs).map .tup
  | .fn f cs => (imms bs cs).map (.fn f)
  | .nils => some (.lst false [])
  | .lst _ xs => some (.lst false xs)
  | .ptr .. | .rptr .. | .slc .. | .map _ | .und | .yld _ | .optr .. | .oslc .. => none
  | v => some v
def imms (bs : List Blk) : List AV → Option (List AV)
  | [] => some []
  | v :: r => match imm bs v, imms bs r with
    | some x, some xs => some (x :: xs)
    | _, _ => none
end

theorem imms_get {bs : List Blk} : ∀ {vs xs : List AV}, imms bs vs = some xs → xs.length = vs.length ∧ ∀ (j : Nat) v x, vs[j]? = some v → xs[j]? = some x → imm bs v = some x
  | [], xs, h => by simp only [imms, Option.some.injEq] at h; subst h; simp
  | v :: r, xs, h => by
    simp only [imms] at h
    split at h
    · rename_i x xs' h1 h2
      obtain rfl := Option.some.inj h
      obtain ⟨hl, hr⟩ := imms_get h2
      refine ⟨by simp [hl], fun j y z hy hz => ?_⟩
      cases j with
      | zero => simp at hy hz; subst hy hz; exact h1
      | succ j => exact hr j y z (by simpa using hy) (by simpa using hz)
    · cases h

theorem ri_of_row {Z : ZM} {w : World} {e sz : Nat} {hv : Value} {xs : List AV} {cs : List Value} (hsz : 0 < sz) (hcells : ∀ (j : Nat) (x : AV), xs[j]? = some x → x.cells.length = sz)
    (hown : w.ownsRow 0 e sz hv xs.length cs) (hcont : ∀ (j : Nat) (x : AV) (q : Nat) v cv, xs[j]? = some x → x.cells[q]? = some v → cs[j * sz + q]? = some cv → RI Z v cv)
    (hz : ∀ c, hv.ownBlock = some c → ∀ (k : Nat) cv, cs[k]? = some cv → Z c k = some cv) : RI Z (.lst false xs) hv := by
  have _ := hsz
  rcases hown.2 with ⟨rfl, h0⟩ | ⟨g, cap, cur, rfl, _, hg, hnc, _, _, _⟩
  · have : xs = [] := List.eq_nil_of_length_eq_zero h0
    subst this
    exact .nilslice false _
  · have hd : ∀ (j q : Nat), j < xs.length → q < sz → ∃ cv, Z g (0 + j * sz + q) = some cv ∧ cs[j * sz + q]? = some cv := fun j q hj hq => by
      have hlt : j * sz + q < cs.length := by
        rw [hown.1]
        calc j * sz + q < j * sz + sz := by omega
          _ = (j + 1) * sz := by rw [Nat.succ_mul]
          _ ≤ xs.length * sz := Nat.mul_le_mul_right _ hj
      exact ⟨cs[j * sz + q], by rw [Nat.zero_add]; exact hz g rfl _ _ (by simp [hlt]), by simp [hlt]⟩
    refine .lst false xs sz g 0 cap hcells (fun j x q v cv hx hq hcv => ?_) (fun j q hj hq => let ⟨cv, e, _⟩ := hd j q hj hq; ⟨cv, e⟩) hnc (by simp)
    obtain ⟨cv', e1, e2⟩ := hd j q (lt_of_get hx) (hcells j x hx ▸ lt_of_get hq)
    rw [e1] at hcv
    obtain rfl := Option.some.inj hcv
    exact hcont j x q v cv' hx hq e2

theorem R.agg_inv {G : Ghost} {cs : List AV} {cv : Value} (h : R G (.agg cs) cv) : ∃ vs : Array Value, cv = .agg vs ∧ vs.size = cs.length ∧
    ∀ (j : Nat) v c, cs[j]? = some v → vs[j]? = some c → R G v c := by
  cases h with
  | imm _ _ h => cases h with | agg _ vs hl hr => exact ⟨vs, rfl, hl, fun j v c e1 e2 => .imm _ _ (hr j v c e1 e2)⟩
  | agg _ vs hl hr => exact ⟨vs, rfl, hl, hr⟩

theorem R.tup_inv {G : Ghost} {cs : List AV} {cv : Value} (h : R G (.tup cs) cv) : ∃ vs : Array Value, cv = .tuple vs ∧ vs.size = cs.length ∧
    ∀ (j : Nat) v c, cs[j]? = some v → vs[j]? = some c → R G v c := by
  cases h with
  | imm _ _ h => cases h with | tup _ vs hl hr => exact ⟨vs, rfl, hl, fun j v c e1 e2 => .imm _ _ (hr j v c e1 e2)⟩
  | tup _ vs hl hr => exact ⟨vs, rfl, hl, hr⟩

theorem R.fn_inv {G : Ghost} {f : Nat} {cs : List AV} {cv : Value} (h : R G (.fn f cs) cv) : ∃ vs : Array Value, cv = .func (.func f) #[] vs ∧ vs.size = cs.length ∧
    ∀ (j : Nat) v c, cs[j]? = some v → vs[j]? = some c → R G v c := by
  cases h with
  | imm _ _ h => cases h with | fn _ _ vs hl hr => exact ⟨vs, rfl, hl, fun j v c e1 e2 => .imm _ _ (hr j v c e1 e2)⟩
  | fn _ _ vs hl hr => exact ⟨vs, rfl, hl, hr⟩

mutual
theorem imm_ri {G : Ghost} {bs : List Blk} {w : World} (hI : Inv G bs w) : ∀ {v : AV} {x : AV} {cv : Value}, imm bs v = some x → R G v cv → RI G.Z x cv := by
  intro v x cv hx h
  cases v with
  | gsl i len =>
    simp only [imm] at hx
    split at hx
    · rename_i e sz xs hb
      split at hx
      · rename_i hlen
        obtain rfl := Option.some.inj hx
        have hB := hI.blk i _ hb
        cases h with
        | imm _ _ h => cases h
        | gsl _ _ b l c hg =>
          obtain ⟨_, hsz, hcells, cs, hown, hcont, hz⟩ := hB.2 _ hg
          exact ri_of_row hsz hcells hown hcont fun c hc => (hz c hc).1
        | stale _ _ g b l c hg hn =>
          have := (hB.2 g hg).1
          omega
      · cases hx
    · cases hx
  | agg cs =>
    obtain ⟨vs, rfl, hl, hr⟩ := h.agg_inv
    simp only [imm] at hx
    cases hc : imms bs cs with
    | none => simp [hc] at hx
    | some xs =>
      simp only [hc, Option.map_some, Option.some.injEq] at hx
      subst hx
      exact .agg xs vs (hl.trans (imms_get hc).1.symm) (imms_ri hI hc hr)
  | tup cs =>
    obtain ⟨vs, rfl, hl, hr⟩ := h.tup_inv
    simp only [imm] at hx
    cases hc : imms bs cs with
    | none => simp [hc] at hx
    | some xs =>
      simp only [hc, Option.map_some, Option.some.injEq] at hx
      subst hx
      exact .tup xs vs (hl.trans (imms_get hc).1.symm) (imms_ri hI hc hr)
  | fn f cs =>
    obtain ⟨vs, rfl, hl, hr⟩ := h.fn_inv
    simp only [imm] at hx
    cases hc : imms bs cs with
    | none => simp [hc] at hx
    | some xs =>
      simp only [hc, Option.map_some, Option.some.injEq] at hx
      subst hx
      exact .fn f xs vs (hl.trans (imms_get hc).1.symm) (imms_ri hI hc hr)
  | ptr i o => simp [imm] at hx
  | rptr i j z o => simp [imm] at hx
  | slc i o z l c => simp [imm] at hx
  | map i => simp [imm] at hx
  | und => simp [imm] at hx
  | yld l => simp [imm] at hx
  | optr i n j z o => simp [imm] at hx
  | oslc i n o z l c => simp [imm] at hx
  | nils =>
    simp only [imm, Option.some.injEq] at hx; subst hx
    cases h with | imm _ _ h => cases h; exact .nilslice false _
  | int k n => simp only [imm, Option.some.injEq] at hx; subst hx; cases h with | imm _ _ h => exact h
  | bool b => simp only [imm, Option.some.injEq] at hx; subst hx; cases h with | imm _ _ h => exact h
  | str s => simp only [imm, Option.some.injEq] at hx; subst hx; cases h with | imm _ _ h => exact h
  | nilp => simp only [imm, Option.some.injEq] at hx; subst hx; cases h with | imm _ _ h => exact h
  | eptr xs i o => simp only [imm, Option.some.injEq] at hx; subst hx; cases h with | imm _ _ h => exact h
  | lst ex xs =>
    simp only [imm, Option.some.injEq] at hx
    subst hx
    cases h with
    | imm _ _ h =>
      cases h with
      | nilslice => exact .nilslice false _
      | lst _ _ sz c o cap he hz hd hc hx => exact .lst false xs sz c o cap he hz hd hc (by simp)
  | nilmap => simp only [imm, Option.some.injEq] at hx; subst hx; cases h with | imm _ _ h => exact h
  | nilfn => simp only [imm, Option.some.injEq] at hx; subst hx; cases h with | imm _ _ h => exact h
  | imap ks vs => simp only [imm, Option.some.injEq] at hx; subst hx; cases h with | imm _ _ h => exact h
termination_by v => SizeOf.sizeOf v
theorem imms_ri {G : Ghost} {bs : List Blk} {w : World} (hI : Inv G bs w) : ∀ {cs xs : List AV} {vs : Array Value}, imms bs cs = some xs →
    (∀ (j : Nat) v c, cs[j]? = some v → vs[j]? = some c → R G v c) → ∀ (j : Nat) x c, xs[j]? = some x → vs[j]? = some c → RI G.Z x c
  | [], xs, vs, hx, _, j, x, c, e, _ => by simp only [imms, Option.some.injEq] at hx; subst hx; simp at e
  | v :: r, xs, vs, hx, hr, j, x, c, e1, e2 => by
    simp only [imms] at hx
    split at hx
    · rename_i y ys h1 h2
      obtain rfl := Option.some.inj hx
      cases j with
      | zero => simp at e1; subst e1; exact imm_ri hI h1 (hr 0 v c (by simp) e2)
      | succ j =>
        exact imms_ri hI (cs := r) (vs := (vs.toList.drop 1).toArray) h2 (fun k u d f1 f2 => hr (k + 1) u d (by simpa using f1) (by simpa [Nat.add_comm] using f2)) j x c (by simpa using e1) (by simpa [Nat.add_comm] using e2)
    · cases hx
termination_by cs => SizeOf.sizeOf cs
end

end
end Go.Proofs.YtelgmdljcbkniaaGreatDoor.Ai

/- An interpreter of values for the model's code, base text 4: a function's contract and its call. -/
namespace Go.Proofs.YtelgmdljcbkniaaGreatDoor.Ai
noncomputable section
open Go

def RIs (Z : ZM) (vs : List AV) (cvs : Array Value) : Prop := cvs.size = vs.length ∧ ∀ (j : Nat) v c, vs[j]? = some v → cvs[j]? = some c → RI Z v c

/-- Behind a call that writes nothing that was there. -/
structure VAfter (Z : ZM) (w : World) (v : AV) (cv : Value) (w' : World) (Z' : ZM) : Prop where
  r : RI Z' v cv
  os : w'.os = w.os
  tape : w'.tape = w.tape
  output : w'.output = w.output
  size : w.heap.size ≤ w'.heap.size
  frame : ∀ c, c < w.heap.size → w'.heap[c]? = w.heap[c]?
  zle : Z.le Z'
  znew : ∀ c o v, Z' c o = some v → Z c o = some v ∨ w.heap.size ≤ c
  zs : ∀ c o v, Z' c o = some v → rd w' c o = some v

/-- The contract of a function from values to a value: S tells the result. -/
def VOk (P : Program) (f : FuncId) (S : List AV → AV → Prop) : Prop :=
  ∀ (Z : ZM) (w : World) (cargs : Array Value) (args : List AV) (v : AV), GlobOk Z → (∀ c o x, Z c o = some x → rd w c o = some x) → RIs Z args cargs → S args v →
    Calls P f cargs w fun e w' => ∃ cv Z', e = .returned cv ∧ VAfter Z w v cv w' Z'

theorem VOk.imp {P : Program} {f : FuncId} {S S' : List AV → AV → Prop} (h : VOk P f S) (hs : ∀ args v, S' args v → S args v) : VOk P f S' :=
  fun Z w cargs args v hg hz hr hv => h Z w cargs args v hg hz hr (hs args v hv)

def argEnv : List AV → Nat → Env
  | [], _ => []
  | v :: r, k => (k, v) :: argEnv r (k + 1)

theorem argEnv_get : ∀ (l : List AV) (k t : Nat) (v : AV), (argEnv l k).get t = some v → k ≤ t ∧ l[t - k]? = some v
  | [], k, t, v, h => by simp [argEnv, Env.get] at h
  | u :: r, k, t, v, h => by
    simp only [argEnv, Env.get_cons] at h
    split at h
    · rename_i e; subst e; simpa using h
    · obtain ⟨h1, h2⟩ := argEnv_get r (k + 1) t v h
      refine ⟨by omega, ?_⟩
      have : t - k = (t - (k + 1)) + 1 := by omega
      rw [this]; simpa using h2

/-- The frame's conditions of a function that was called in the world w0 with what G0 says. -/
def protOf (m : Nat) (G0 : Ghost) (w0 : World) (hd : ∀ i, m ≤ i → G0.cl i = none ∧ G0.gr i = none) : Prot m where
  X G w := G0.le G ∧ Ev G0 w0 G w
  Y D := w0.heap.size ≤ D
  go G w G' w' h e hc hg := by
    have lt : ∀ i, (G0.cl i ≠ none ∨ G0.gr i ≠ none) → i < m := fun i h => by
      rcases Nat.lt_or_ge i m with h' | h'
      · exact h'
      · have := hd i h'; rcases h with h | h <;> simp [this] at h
    refine ⟨⟨fun i c e1 => hc i (lt i (.inl (by simp [e1]))) c (h.1.cl i c e1), fun i g e1 => ?_, h.1.Z.trans e.Z⟩, h.2.trans e⟩
    obtain ⟨g1, f1, f2⟩ := h.1.gr i g e1
    obtain ⟨g2, f3, f4⟩ := hg i (lt i (.inr (by simp [e1]))) g1 f1
    refine ⟨g2, f3, ?_⟩
    rcases f2 with rfl | f2
    · exact f4
    · rcases f4 with rfl | f4
      · exact .inr f2
      · exact .inr (Nat.lt_trans f2 f4)
  fresh G w D h hD := Nat.le_trans h.2.size hD
  put G w D o h hD hn _ _ hl := ⟨h.1, ⟨h.2.os, h.2.tape, h.2.output, by simp [World.putObj_size]; exact h.2.size, h.2.Z, h.2.newZ, fun c hc hn => by
      rw [World.putObj_heap_other (by omega)]; exact h.2.frame c hc hn, h.2.own, fun c rec e => by
        obtain ⟨rec', e'⟩ := h.2.loop c rec e
        have : c ≠ D := fun e0 => hl rec' (e0 ▸ e')
        exact ⟨rec', (World.putObj_heap_other this).trans e'⟩⟩⟩

theorem rd_other {w : World} {D o : Nat} {x : Option (List Deferred)} (h : w.heap[D]? = some (.deferred x)) : rd w D o = none := by
  unfold rd; rw [h]; simp [World.cell?, h]
theorem rd_loop {w : World} {D o : Nat} {x : Loop} (h : w.heap[D]? = some (.loop x)) : rd w D o = none := by
  unfold rd; rw [h]; simp [World.cell?, h]

theorem Inv.putObj {G : Ghost} {bs : List Blk} {w : World} (h : Inv G bs w) {D : Nat} {o : Obj} (hn : ∀ i, ¬ G.owns i D) (hr : ∀ q, rd w D q = none) : Inv G bs (w.putObj D o) := by
  refine ⟨fun i b hb => (h.blk i b hb).keep (.refl _) rfl rfl (fun c hc => ?_) (fun _ _ _ => rfl), h.dom, h.inj, fun c q v e => ?_⟩
  · exact World.putObj_heap_other fun e => hn i (e ▸ hc)
  · have : c ≠ D := fun e' => by have := h.z c q v e; rw [e', hr q] at this; cases this
    rw [rd_of_frame (World.putObj_heap_other this)]; exact h.z c q v e

theorem leaves_marks {m : Nat} {P : Program} {fn : Func} {tmps : Array Value} {R : Ending → World → Prop} {X : Prot m} {G : Ghost} {bs : List Blk} : ∀ (Ds : List Nat) (w : World), Ds.Nodup →
    (∀ D ∈ Ds, X.Y D ∧ w.heap[D]? = some (.deferred (some [])) ∧ ∀ i, ¬ G.owns i D) → Inv G bs w → X.X G w →
    (∀ w', Inv G bs w' → X.X G w' → ∃ v, (results fn tmps).run P w' = .ok v w' ∧ R (.returned v) w') → LeavesInM Fence.wide 0 P fn tmps R (Ds.map mark) .returning w
  | [], w, _, _, hI, hX, h => h w hI hX
  | D :: Ds, w, hn, hD, hI, hX, h => by
    obtain ⟨h1, h2, h3⟩ := hD D (by simp)
    have r0 : ∀ q, rd w D q = none := fun q => rd_other h2
    have hlt : D < w.heap.size := (Array.getElem?_eq_some_iff.1 h2).1
    have r1 : ∀ q, rd (w.putObj D (.deferred none)) D q = none := fun q => rd_other (World.putObj_heap_same hlt)
    refine ⟨by simp, .inl ⟨D, _, rfl, run_takeDeferred h2, ?_⟩⟩
    rw [List.nodup_cons] at hn
    refine leaves_marks Ds _ hn.2 (fun D' hD' => ?_) (hI.putObj h3 r0) (X.put G w D _ hX h1 h3 r0 r1 (fun rec e => by rw [h2] at e; cases e)) h
    obtain ⟨g1, g2, g3⟩ := hD D' (by simp [hD'])
    exact ⟨g1, (World.putObj_heap_other (fun e : D' = D => hn.1 (e ▸ hD'))).trans g2, g3⟩

/-- A function's contract from its body. -/
theorem calls_of_T {P : Program} {f : FuncId} {fn : Func} {c : Code} {cargs : Array Value} {args : List AV} {bs : List Blk} {G : Ghost} {w : World} {R' : Ending → World → Prop} {Q : Exit → St → Prop} (hf : P.funcs[f]? = some fn) (hb : fn.body = some c)
    (hI : Inv G bs w) (hr : cargs.size = args.length ∧ ∀ (j : Nat) v c, args[j]? = some v → cargs[j]? = some c → R G v c) (hlen : args.length ≤ fn.ntmps) (hT : T P fn.ntmps bs.length c ⟨argEnv args 0, bs⟩ Q)
    (hQ : ∀ e s', Q e s' → (e = .normal ∨ e = .ret) ∧ ∀ (G' : Ghost) (w' : World) (tmps : Array Value), EnvR G' s'.env tmps → Inv G' s'.bs w' → G.le G' → Ev G w G' w' → ∃ cv, (results fn tmps).run P w' = .ok cv w' ∧ R' (.returned cv) w') :
    Calls P f cargs w R' := by
  refine callsIn_wide.1 (callsIn_of_wp_marks (n := 0) hf hb trivial ?_)
  have hH : Holds fn.ntmps (protOf bs.length G w hI.dom) none ⟨argEnv args 0, bs⟩ { tmps := cargs ++ Array.replicate (fn.ntmps - cargs.size) undef, defers := [] } w := by
    refine ⟨⟨G, fun t u e => ?_, hI, ⟨.refl _, .refl _ _⟩, ⟨⟨[], rfl, .nil, by simp⟩, fun l h => by cases h⟩⟩, ?_⟩
    · obtain ⟨_, e2⟩ := argEnv_get args 0 t u e
      rw [Nat.sub_zero] at e2
      have ht : t < cargs.size := by rw [hr.1]; exact lt_of_get e2
      refine ⟨cargs[t], ?_, hr.2 t u _ e2 (by simp [ht])⟩
      simp [Array.getElem?_append, ht]
    · simp [hr.1]; omega
  refine wpIn_mono (hT _ none _ w hH) fun e a' w' ⟨s', q, H'⟩ => ?_
  obtain ⟨he, hfin⟩ := hQ e s' q
  obtain ⟨G', hE, hI', hX, ⟨⟨Ds, e1, e2, e3⟩, _⟩⟩ := H'.st
  have fin : LeavesInM Fence.wide 0 P fn a'.tmps R' a'.defers .returning w' := by
    rw [e1]
    exact leaves_marks Ds w' e2 e3 hI' hX fun w2 h1 h2 => hfin G' w2 a'.tmps hE h1 h2.1 h2.2
  rcases he with rfl | rfl <;> exact fin

/-! ### snapshots: what a value is when all that is reached is as it stays -/

def snapL (f : AV → Option AV) : List AV → Option (List AV)
  | [] => some []
  | v :: r => match f v, snapL f r with
    | some x, some xs => some (x :: xs)
    | _, _ => none

def snap (bs : List Blk) : Nat → AV → Option AV
  | 0, _ => none
  | k + 1, v => match v with
    | .gsl i len => match bs[i]? with
      | some (.grow _ _ xs) => if xs.length = len then some (.lst false xs) else none
      | _ => none
    | .ptr i o => match bs[i]? with
      | some (.cells cs) => if o < cs.length then (snapL (snap bs k) cs).map fun ds => .eptr [.agg ds] 0 o else none
      | _ => none
    | .slc i o sz len _ => match bs[i]? with
      | some (.rows sz' xs) => if sz' = sz ∧ o + len ≤ xs.length then (snapL (snap bs k) xs).map fun ds => .lst false ((ds.drop o).take len) else none
      | _ => none
    | .rptr .. => none
    | .map i => match bs[i]? with
      | some (.map es) => (snapL (snap bs k) (es.map Prod.snd)).map fun ds => .imap (es.map Prod.fst) ds
      | _ => none
    | .agg cs => (snapL (snap bs k) cs).map .agg
    | .tup cs => (snapL (snap bs k) cs).map .tup
    | .fn f cs => (snapL (snap bs k) cs).map (.fn f)
    | .nils => some (.lst false [])
    | .lst _ xs => some (.lst false xs)
    | .und | .yld _ | .optr .. | .oslc .. => none
    | v => some v

theorem snapL_get {f : AV → Option AV} : ∀ {vs xs : List AV}, snapL f vs = some xs → xs.length = vs.length ∧ ∀ (j : Nat) v x, vs[j]? = some v → xs[j]? = some x → f v = some x
  | [], xs, h => by simp only [snapL, Option.some.injEq] at h; subst h; simp
  | v :: r, xs, h => by
    simp only [snapL] at h
    split at h
    · rename_i x xs' h1 h2
      obtain rfl := Option.some.inj h
      obtain ⟨hl, hr⟩ := snapL_get h2
      refine ⟨by simp [hl], fun j y z hy hz => ?_⟩
      cases j with
      | zero => simp at hy hz; subst hy hz; exact h1
      | succ j => exact hr j y z (by simpa using hy) (by simpa using hz)
    · cases h

theorem snapL_map {α : Type} {f : AV → Option AV} {e g : α → AV} (l : List α) (h : ∀ x ∈ l, f (e x) = some (g x)) : snapL f (l.map e) = some (l.map g) := by
  induction l with
  | nil => rfl
  | cons x r ih => simp only [List.map_cons, snapL, h x (by simp), ih fun y hy => h y (by simp [hy])]

open Classical in
/-- The cells that nobody writes, and all that is one's own as it lies. -/
noncomputable def zread (G : Ghost) (w : World) : ZM := fun c o => match G.Z c o with
  | some v => some v
  | none => if ∃ i, G.cl i = some c then rd w c o else none

theorem zread_le (G : Ghost) (w : World) : G.Z.le (zread G w) := fun c o v h => by simp [zread, h]
theorem zread_ok {G : Ghost} {bs : List Blk} {w : World} (hI : Inv G bs w) {c o : Nat} {v : Value} (h : zread G w c o = some v) : rd w c o = some v := by
  unfold zread at h
  split at h
  · rename_i u hu; obtain rfl := Option.some.inj h; exact hI.z c o _ hu
  · split at h
    · exact h
    · cases h

theorem R.gsl_lst {G : Ghost} {bs : List Blk} {w : World} (hI : Inv G bs w) {i len e sz : Nat} {xs : List AV} {cv : Value} (hb : bs[i]? = some (.grow e sz xs)) (hl : xs.length = len) (h : R G (.gsl i len) cv) : RI G.Z (.lst false xs) cv := by
  have hB := hI.blk i _ hb
  cases h with
  | imm _ _ h => cases h
  | gsl _ _ b l c hg =>
    obtain ⟨_, hsz, hcells, cs, hown, hcont, hz⟩ := hB.2 _ hg
    exact ri_of_row hsz hcells hown hcont fun c hc => (hz c hc).1
  | stale _ _ g b l c hg hn =>
    have := (hB.2 g hg).1
    omega
theorem R.slc_inv {G : Ghost} {i o sz len : Nat} {cap : Option Nat} {cv : Value} (h : R G (.slc i o sz len cap) cv) : ∃ c ccap, G.cl i = some c ∧ len ≤ ccap ∧ (∀ n, cap = some n → ccap = n) ∧ cv = .slice (some ⟨c, o * sz, none⟩) len ccap := by
  cases h with
  | imm _ _ h => cases h
  | slc _ _ _ _ _ c ccap h hl hc => exact ⟨c, ccap, h, hl, hc, rfl⟩

theorem R.map_inv {G : Ghost} {i : Nat} {cv : Value} (h : R G (.map i) cv) : ∃ c, G.cl i = some c ∧ cv = .map (some c) := by
  cases h with
  | imm _ _ h => cases h
  | map _ c h => exact ⟨c, h, rfl⟩

theorem R.ptr_inv {G : Ghost} {i o : Nat} {cv : Value} (h : R G (.ptr i o) cv) : ∃ c, G.cl i = some c ∧ cv = .pointer (some ⟨c, o, none⟩) := by
  cases h with
  | imm _ _ h => cases h
  | ptr _ _ c h => exact ⟨c, h, rfl⟩

theorem inv_cells {G : Ghost} {bs : List Blk} {w : World} (hI : Inv G bs w) {i c : Nat} {cs : List AV} (hb : bs[i]? = some (.cells cs)) (hc : G.cl i = some c) :
    ∃ arr e, w.heap[c]? = some (.cells arr e (0, 0)) ∧ cs.length ≤ arr.size ∧ (∀ (j : Nat) v cv, cs[j]? = some v → arr[j]? = some cv → R G v cv) ∧ ∀ o, G.Z c o = none :=
  (hI.blk i _ hb).2 c hc

theorem rd_cells {w : World} {c o : Nat} {arr : Array Value} {e : TypeId} (h : w.heap[c]? = some (.cells arr e (0, 0))) {v : Value} (hv : arr[o]? = some v) (hn : ∀ ks vs, v ≠ mapCode ks vs) : rd w c o = some v :=
  rd_of_cell (by simp [World.cell?, h, hv]) hn

theorem flat_get : ∀ (xs : List AV) (sz : Nat), (∀ (j : Nat) (x : AV), xs[j]? = some x → x.cells.length = sz) → ∀ (j q : Nat) (x : AV), xs[j]? = some x → q < sz → (flat xs)[j * sz + q]? = x.cells[q]?
  | [], _, _, j, _, _, h, _ => by simp at h
  | y :: r, sz, hl, 0, q, x, h, hq => by
    simp at h; subst h
    have h0 := hl 0 y rfl
    show (y.cells ++ flat r)[0 * sz + q]? = _
    rw [Nat.zero_mul, Nat.zero_add, List.getElem?_append_left (by omega)]
  | y :: r, sz, hl, j + 1, q, x, h, hq => by
    have h0 := hl 0 y rfl
    show (y.cells ++ flat r)[(j + 1) * sz + q]? = _
    rw [List.getElem?_append_right (by rw [h0, Nat.succ_mul]; omega), h0]
    have : (j + 1) * sz + q - sz = j * sz + q := by rw [Nat.succ_mul]; omega
    rw [this]
    exact flat_get r sz (fun j x hx => hl (j + 1) x (by simpa using hx)) j q x (by simpa using h) hq

theorem snap_cells {bs : List Blk} {k : Nat} {x y : AV} (h : snap bs k x = some y) : y.cells.length = x.cells.length := by
  cases k with
  | zero => cases h
  | succ k =>
    cases x with
    | agg cs =>
      simp only [snap] at h
      cases hd : snapL (snap bs k) cs with
      | none => simp [hd] at h
      | some ds => simp only [hd, Option.map_some, Option.some.injEq] at h; subst h; exact (snapL_get hd).1
    | _ =>
      simp only [snap] at h
      repeat' split at h
      all_goals first
        | cases h; done
        | (simp only [Option.some.injEq] at h; subst h; rfl)
        | (rw [Option.map_eq_some_iff] at h; obtain ⟨_, _, rfl⟩ := h; rfl)

theorem snap_cell {bs : List Blk} {k : Nat} {x y v u : AV} {q : Nat} (h : snap bs k x = some y) (hv : x.cells[q]? = some v) (hu : y.cells[q]? = some u) : ∃ k', k' ≤ k ∧ snap bs k' v = some u := by
  cases k with
  | zero => cases h
  | succ k =>
    cases x with
    | agg cs =>
      simp only [snap] at h
      cases hd : snapL (snap bs k) cs with
      | none => simp [hd] at h
      | some ds => simp only [hd, Option.map_some, Option.some.injEq] at h; subst h; exact ⟨k, by omega, (snapL_get hd).2 q v u hv hu⟩
    | _ =>
      refine ⟨k + 1, Nat.le_refl _, ?_⟩
      have h0 := lt_of_get hv
      simp only [AV.cells, List.length_singleton] at h0 hv
      have hq : q = 0 := by omega
      subst hq
      have hy : y.cells = [y] := by
        have hh := h
        simp only [snap] at hh
        repeat' split at hh
        all_goals first
          | cases hh; done
          | (simp only [Option.some.injEq] at hh; subst hh; rfl)
          | (rw [Option.map_eq_some_iff] at hh; obtain ⟨_, _, rfl⟩ := hh; rfl)
      rw [hy] at hu
      simp at hv hu
      subst hv hu
      exact h

theorem snap_ri {G : Ghost} {bs : List Blk} {w : World} (hI : Inv G bs w) : ∀ (k : Nat) {v x : AV} {cv : Value}, snap bs k v = some x → R G v cv → RI (zread G w) x cv := by
  intro k
  induction k using Nat.strongRecOn with
  | _ k ih0 =>
  cases k with
  | zero => intro v x cv hx; cases hx
  | succ k =>
    have ih' : ∀ k', k' ≤ k → ∀ {v x : AV} {cv : Value}, snap bs k' v = some x → R G v cv → RI (zread G w) x cv := fun k' h => ih0 k' (by omega)
    have ih : ∀ {v x : AV} {cv : Value}, snap bs k v = some x → R G v cv → RI (zread G w) x cv := ih' k (Nat.le_refl _)
    intro v x cv hx h
    have cellsOk : ∀ {i c : Nat} {cs ds : List AV}, bs[i]? = some (.cells cs) → G.cl i = some c → snapL (snap bs k) cs = some ds →
        ∀ (q : Nat) v, ds[q]? = some v → ∃ cv, zread G w c q = some cv ∧ RI (zread G w) v cv := fun {i c cs ds} hb hc hd q v hq => by
      obtain ⟨arr, e, hh, hl, hr, hz⟩ := inv_cells hI hb hc
      obtain ⟨hlen, hg⟩ := snapL_get hd
      have hq2 : q < cs.length := hlen ▸ lt_of_get hq
      have ex : ∃ i, G.cl i = some c := ⟨i, hc⟩
      have hri := ih (hg q cs[q] v (by simp [hq2]) hq) (hr q _ (arr[q]'(by omega)) (by simp [hq2]) (by simp))
      refine ⟨arr[q]'(by omega), ?_, hri⟩
      simp only [zread, hz q, ex, if_true]
      exact rd_cells hh (by simp) hri.no_code
    cases v with
    | gsl i len =>
      simp only [snap] at hx
      split at hx
      · rename_i e sz xs hb
        split at hx
        · rename_i hlen
          obtain rfl := Option.some.inj hx
          exact (h.gsl_lst hI hb hlen).mono (zread_le G w)
        · cases hx
      · cases hx
    | ptr i o =>
      obtain ⟨c, hc, rfl⟩ := h.ptr_inv
      simp only [snap] at hx
      split at hx
      · rename_i cs hb
        split at hx
        · rename_i ho
          cases hd : snapL (snap bs k) cs with
          | none => simp [hd] at hx
          | some ds =>
            simp only [hd, Option.map_some, Option.some.injEq] at hx
            subst hx
            have hlen := (snapL_get hd).1
            have hok := cellsOk hb hc hd
            have := RI.eptr (Z := zread G w) [.agg ds] 0 o ds.length c 0 (fun j y hy => by
                cases j with
                | zero => simp at hy; subst hy; rfl
                | succ j => simp at hy)
              (fun j y q u cu hy hq hcu => by
                cases j with
                | zero =>
                  simp at hy; subst hy
                  obtain ⟨cv', e1, e2⟩ := hok q u hq
                  rw [show 0 + 0 * ds.length + q = q by omega, e1] at hcu
                  exact (Option.some.inj hcu) ▸ e2
                | succ j => simp at hy)
              (fun j q hj hq => by
                have hj0 : j = 0 := by simp at hj; omega
                subst hj0
                obtain ⟨cv', e1, _⟩ := hok q ds[q] (by simp [hq])
                exact ⟨cv', by rw [show 0 + 0 * ds.length + q = q by omega]; exact e1⟩)
              (by simp) (by omega)
            simpa using this
        · cases hx
      · cases hx
    | rptr i j z o => simp [snap] at hx
    | slc i o sz len cap =>
      obtain ⟨c, ccap, hc, hle, _, rfl⟩ := h.slc_inv
      simp only [snap] at hx
      split at hx
      · rename_i sz' xs hb
        split at hx
        · rename_i ho
          obtain ⟨rfl, ho⟩ := ho
          cases hd : snapL (snap bs k) xs with
          | none => simp [hd] at hx
          | some ds =>
            simp only [hd, Option.map_some, Option.some.injEq] at hx
            subst hx
            obtain ⟨hC, h0, hsz⟩ := hI.blk i _ hb
            obtain ⟨arr, e, hh, hl, hr, hz⟩ := hC.2 c hc
            obtain ⟨hlen, hg⟩ := snapL_get hd
            have ex : ∃ i, G.cl i = some c := ⟨i, hc⟩
            have hzr : ∀ q (hq : q < arr.size), (∀ ks vs, arr[q] ≠ mapCode ks vs) → zread G w c q = some arr[q] := fun q hq hn => by
              simp only [zread, hz q, ex, if_true]
              exact rd_cells hh (by simp [hq]) hn
            have elem : ∀ (j : Nat) (y : AV), ((ds.drop o).take len)[j]? = some y → ∃ x, xs[o + j]? = some x ∧ snap bs k x = some y ∧ y.cells.length = x.cells.length ∧ x ∈ xs ∧ j < len := fun j y hy => by
              rw [List.getElem?_take] at hy
              split at hy
              · rename_i hj
                rw [List.getElem?_drop] at hy
                have hjl : o + j < xs.length := hlen ▸ lt_of_get hy
                have hx := List.getElem?_eq_getElem hjl
                have hs := hg (o + j) _ y hx hy
                exact ⟨_, hx, hs, snap_cells hs, List.getElem_mem hjl, hj⟩
              · cases hy
            have lk : ∀ (j : Nat) (x : AV), xs[j]? = some x → x.cells.length = sz' := fun j x hx => hsz x (List.mem_of_getElem? hx)
            have fl : ∀ (j q : Nat) (x : AV), xs[j]? = some x → q < sz' → (flat xs)[j * sz' + q]? = x.cells[q]? := fun j q x hx hq => flat_get xs sz' lk j q x hx hq
            have := RI.lst (Z := zread G w) false ((ds.drop o).take len) sz' c (o * sz') ccap (fun j y hy => by
                obtain ⟨x, h1, _, h3, h4, _⟩ := elem j y hy; rw [h3]; exact hsz x h4)
              (fun j y q u cu hy hq hcu => by
                obtain ⟨x, h1, h2, h3, h4, hj⟩ := elem j y hy
                have hqs : q < sz' := by rw [← hsz x h4, ← h3]; exact lt_of_get hq
                have e0 : o * sz' + j * sz' + q = (o + j) * sz' + q := by rw [Nat.add_mul]
                rw [e0] at hcu
                have hxq : x.cells[q]? = some (x.cells[q]'(by rw [hsz x h4]; exact hqs)) := List.getElem?_eq_getElem _
                have hfl := (fl (o + j) q x h1 hqs).trans hxq
                have hlt : (o + j) * sz' + q < arr.size := Nat.lt_of_lt_of_le (lt_of_get hfl) hl
                have hrr := hr _ _ _ hfl (Array.getElem?_eq_getElem hlt)
                rcases snap_cell h2 hxq hq with ⟨k', hle', hk'⟩
                have hri := ih' k' hle' hk' hrr
                rw [hzr _ hlt hri.no_code] at hcu
                exact (Option.some.inj hcu) ▸ hri)
              (fun j q hj hq => by
                have hj' : j < len ∧ o + j < xs.length := by simp at hj; omega
                have hx := List.getElem?_eq_getElem hj'.2
                have e0 : o * sz' + j * sz' + q = (o + j) * sz' + q := by rw [Nat.add_mul]
                have hxq : (xs[o + j]).cells[q]? = some ((xs[o + j]).cells[q]'(by rw [lk _ _ hx]; exact hq)) := List.getElem?_eq_getElem _
                have hfl := (fl (o + j) q _ hx hq).trans hxq
                have hlt : (o + j) * sz' + q < arr.size := Nat.lt_of_lt_of_le (lt_of_get hfl) hl
                have hrr := hr _ _ _ hfl (Array.getElem?_eq_getElem hlt)
                have hjd : o + j < ds.length := by omega
                have hs := hg (o + j) _ ds[o + j] hx (by simp [hjd])
                have hyq : (ds[o + j]).cells[q]? = some ((ds[o + j]).cells[q]'(by rw [snap_cells hs, lk _ _ hx]; exact hq)) := List.getElem?_eq_getElem _
                rcases snap_cell hs hxq hyq with ⟨k', hle', hk'⟩
                exact ⟨_, by rw [e0]; exact hzr _ hlt (ih' k' hle' hk' hrr).no_code⟩)
              (by simp; omega) (by simp)
            have hlen2 : ((ds.drop o).take len).length = len := by simp; omega
            rw [hlen2] at this
            exact this
        · cases hx
      · cases hx
    | map i =>
      obtain ⟨c, hc, rfl⟩ := h.map_inv
      simp only [snap] at hx
      split at hx
      · rename_i es hb
        cases hd : snapL (snap bs k) (es.map Prod.snd) with
        | none => simp [hd] at hx
        | some ds =>
          simp only [hd, Option.map_some, Option.some.injEq] at hx
          subst hx
          obtain ⟨hlen, hg⟩ := snapL_get hd
          obtain ⟨ents, clock, hh, hl, hr, hzn⟩ := (hI.blk i _ hb).2 c hc
          have ex : ∃ i, G.cl i = some c := ⟨i, hc⟩
          have hz : G.Z c 0 = none := hzn 0
          refine .imap (es.map Prod.fst) ds c (ents.toList.map (·.key)) (ents.toList.map (·.val)) ?_ (by simp [hl]) (by simp at hlen ⊢; omega) (by simp at hlen ⊢; omega) (fun j v cv e1 e2 => ?_) (fun j v cv e1 e2 => ?_)
          · simp only [zread, hz, ex, if_true]
            unfold rd; rw [hh]; simp
          · rw [List.getElem?_map, Option.map_eq_some_iff] at e1 e2
            obtain ⟨a, e1, rfl⟩ := e1
            obtain ⟨b, e2, rfl⟩ := e2
            exact (hr j a b e1 (by simpa using e2)).1.mono (zread_le G w)
          · have hj : j < es.length := by have := lt_of_get e1; simp at hlen; omega
            rw [List.getElem?_map, Option.map_eq_some_iff] at e2
            obtain ⟨b, e2, rfl⟩ := e2
            exact ih (hg j es[j].2 v (by simp [hj]) e1) (hr j es[j] b (by simp [hj]) (by simpa using e2)).2
      · cases hx
    | agg cs =>
      obtain ⟨vs, rfl, hl, hr⟩ := h.agg_inv
      simp only [snap] at hx
      cases hd : snapL (snap bs k) cs with
      | none => simp [hd] at hx
      | some ds =>
        simp only [hd, Option.map_some, Option.some.injEq] at hx
        subst hx
        obtain ⟨hlen, hg⟩ := snapL_get hd
        exact .agg ds vs (hl.trans hlen.symm) fun j v cv e1 e2 => ih (hg j (cs[j]'(hlen ▸ lt_of_get e1)) v (by simp) e1) (hr j _ cv (by simp) e2)
    | tup cs =>
      obtain ⟨vs, rfl, hl, hr⟩ := h.tup_inv
      simp only [snap] at hx
      cases hd : snapL (snap bs k) cs with
      | none => simp [hd] at hx
      | some ds =>
        simp only [hd, Option.map_some, Option.some.injEq] at hx
        subst hx
        obtain ⟨hlen, hg⟩ := snapL_get hd
        exact .tup ds vs (hl.trans hlen.symm) fun j v cv e1 e2 => ih (hg j (cs[j]'(hlen ▸ lt_of_get e1)) v (by simp) e1) (hr j _ cv (by simp) e2)
    | fn f cs =>
      obtain ⟨vs, rfl, hl, hr⟩ := h.fn_inv
      simp only [snap] at hx
      cases hd : snapL (snap bs k) cs with
      | none => simp [hd] at hx
      | some ds =>
        simp only [hd, Option.map_some, Option.some.injEq] at hx
        subst hx
        obtain ⟨hlen, hg⟩ := snapL_get hd
        exact .fn f ds vs (hl.trans hlen.symm) fun j v cv e1 e2 => ih (hg j (cs[j]'(hlen ▸ lt_of_get e1)) v (by simp) e1) (hr j _ cv (by simp) e2)
    | nils =>
      simp only [snap, Option.some.injEq] at hx; subst hx
      cases h with | imm _ _ h => cases h; exact .nilslice false _
    | lst ex xs =>
      simp only [snap, Option.some.injEq] at hx
      subst hx
      cases h with
      | imm _ _ h =>
        cases h with
        | nilslice => exact .nilslice false _
        | lst _ _ sz c o cap he hz hd hc hx => exact (RI.lst false xs sz c o cap he hz hd hc (by simp)).mono (zread_le G w)
    | und => simp [snap] at hx
    | yld l => simp [snap] at hx
    | optr i n j z o => simp [snap] at hx
    | oslc i n o z l c => simp [snap] at hx
    | int k n => simp only [snap, Option.some.injEq] at hx; subst hx; cases h with | imm _ _ h => exact h.mono (zread_le G w)
    | bool b => simp only [snap, Option.some.injEq] at hx; subst hx; cases h with | imm _ _ h => exact h.mono (zread_le G w)
    | str s => simp only [snap, Option.some.injEq] at hx; subst hx; cases h with | imm _ _ h => exact h.mono (zread_le G w)
    | nilp => simp only [snap, Option.some.injEq] at hx; subst hx; cases h with | imm _ _ h => exact h.mono (zread_le G w)
    | eptr xs i o => simp only [snap, Option.some.injEq] at hx; subst hx; cases h with | imm _ _ h => exact h.mono (zread_le G w)
    | nilmap => simp only [snap, Option.some.injEq] at hx; subst hx; cases h with | imm _ _ h => exact h.mono (zread_le G w)
    | nilfn => simp only [snap, Option.some.injEq] at hx; subst hx; cases h with | imm _ _ h => exact h.mono (zread_le G w)
    | imap ks vs => simp only [snap, Option.some.injEq] at hx; subst hx; cases h with | imm _ _ h => exact h.mono (zread_le G w)

/-- The results, read, are the value v: nobody writes what it holds any more. -/
def RetOk (P : Program) (fn : Func) (s : St) (v : AV) : Prop :=
  ∀ (G : Ghost) (w : World) (tmps : Array Value), EnvR G s.env tmps → Inv G s.bs w → ∃ cv v0 k, (results fn tmps).run P w = .ok cv w ∧ R G v0 cv ∧ snap s.bs k v0 = some v

def endT (P : Program) (fn : Func) (v : AV) : Exit → St → Prop
  | .normal, s | .ret, s => RetOk P fn s v
  | _, _ => False

theorem V_ok {P : Program} {f : FuncId} {fn : Func} {c : Code} {S : List AV → AV → Prop} (hf : P.funcs[f]? = some fn) (hb : fn.body = some c)
    (h : ∀ args v, S args v → args.length ≤ fn.ntmps ∧ T P fn.ntmps 0 c ⟨argEnv args 0, []⟩ (endT P fn v)) : VOk P f S := by
  intro Z w cargs args v hg hz hr hS
  obtain ⟨hlen, hT⟩ := h args v hS
  let G : Ghost := ⟨fun _ => none, fun _ => none, Z, hg⟩
  have hI : Inv G [] w := by
    refine ⟨fun i b hb => by simp at hb, fun i _ => ⟨rfl, rfl⟩, fun i j c h1 => ?_, hz⟩
    rcases h1 with h1 | ⟨g, h1, _⟩ <;> cases h1
  have own : ∀ i c, ¬ G.owns i c := fun i c hi => by rcases hi with hi | ⟨g, hi, _⟩ <;> cases hi
  refine calls_of_T (G := G) hf hb hI ⟨hr.1, fun j u c e1 e2 => .imm _ _ (hr.2 j u c e1 e2)⟩ hlen hT fun e s' q => ?_
  have fin : RetOk P fn s' v → ∀ (G' : Ghost) (w' : World) (tmps : Array Value), EnvR G' s'.env tmps → Inv G' s'.bs w' → G.le G' → Ev G w G' w' → ∃ cv, (results fn tmps).run P w' = .ok cv w' ∧ ∃ cv' Z', Ending.returned cv = .returned cv' ∧ VAfter Z w v cv' w' Z' := by
    intro hR G' w' tmps hE hI' hle hev
    obtain ⟨cv, v0, k, hrun, hr0, hsn⟩ := hR G' w' tmps hE hI'
    refine ⟨cv, hrun, cv, zread G' w', rfl, snap_ri hI' k hsn hr0, hev.os, hev.tape, hev.output, hev.size, fun c hc => hev.frame c hc fun i hi => own i c hi, hev.Z.trans (zread_le G' w'), fun c o x e => ?_, fun c o x e => zread_ok hI' e⟩
    have old : G'.Z c o = some x → Z c o = some x ∨ w.heap.size ≤ c := fun e => by
      rcases hev.newZ c o x e with e | e | ⟨i, hi⟩
      · exact .inl e
      · exact .inr e
      · exact absurd hi (own i c)
    unfold zread at e
    split at e
    · rename_i v1 e1
      obtain rfl := Option.some.inj e
      exact old e1
    · split at e
      · rename_i hc
        obtain ⟨i, hi⟩ := hc
        rcases hev.own i c (.inl hi) with h1 | ⟨j, hj⟩
        · exact .inr h1
        · exact absurd hj (own j c)
      · cases e
  cases e with
  | normal => exact ⟨.inl rfl, fin q⟩
  | ret => exact ⟨.inr rfl, fin q⟩
  | exit id => exact q.elim
  | goto l => exact q.elim
  | panic ch => exact q.elim
  | outgrown => exact q.elim

theorem ret1 {P : Program} {fn : Func} {s : St} {a : Nat} {v0 v : AV} (hr : fn.results = #[.tmp a]) (h0 : s.env.get a = some v0) (k : Nat) (h1 : snap s.bs k v0 = some v) : RetOk P fn s v := by
  intro G w tmps hE _
  obtain ⟨cv, e, r⟩ := hE a v0 h0
  exact ⟨cv, v0, k, by simp [results, hr, e], r, h1⟩

theorem rtup {G : Ghost} {vs : List AV} {cvs : List Value} (hl : cvs.length = vs.length) (h : ∀ (j : Nat) v c, vs[j]? = some v → cvs[j]? = some c → R G v c) : R G (.tup vs) (.tuple cvs.toArray) :=
  .tup vs _ (by simpa using hl) fun j v c e1 e2 => h j v c e1 (by simpa using e2)

theorem ret2 {P : Program} {fn : Func} {s : St} {a b : Nat} {v0 v1 v : AV} (hr : fn.results = #[.tmp a, .tmp b]) (h0 : s.env.get a = some v0) (h1 : s.env.get b = some v1)
    (k : Nat) (hi : snap s.bs k (.tup [v0, v1]) = some v) : RetOk P fn s v := by
  intro G w tmps hE _
  obtain ⟨c0, e0, r0⟩ := hE a v0 h0
  obtain ⟨c1, e1, r1⟩ := hE b v1 h1
  refine ⟨.tuple #[c0, c1], .tup [v0, v1], k, by simp [results, hr, e0, e1], ?_, hi⟩
  refine rtup (cvs := [c0, c1]) rfl fun j v c f1 f2 => ?_
  match j, f1, f2 with
  | 0, f1, f2 => simp at f1 f2; subst f1 f2; exact r0
  | 1, f1, f2 => simp at f1 f2; subst f1 f2; exact r1
  | j + 2, f1, f2 => simp at f1

theorem ret3 {P : Program} {fn : Func} {s : St} {a b c : Nat} {v0 v1 v2 v : AV} (hr : fn.results = #[.tmp a, .tmp b, .tmp c]) (h0 : s.env.get a = some v0) (h1 : s.env.get b = some v1) (h2 : s.env.get c = some v2)
    (k : Nat) (hi : snap s.bs k (.tup [v0, v1, v2]) = some v) : RetOk P fn s v := by
  intro G w tmps hE _
  obtain ⟨c0, e0, r0⟩ := hE a v0 h0
  obtain ⟨c1, e1, r1⟩ := hE b v1 h1
  obtain ⟨c2, e2, r2⟩ := hE c v2 h2
  refine ⟨.tuple #[c0, c1, c2], .tup [v0, v1, v2], k, by simp [results, hr, e0, e1, e2], ?_, hi⟩
  refine rtup (cvs := [c0, c1, c2]) rfl fun j v c f1 f2 => ?_
  match j, f1, f2 with
  | 0, f1, f2 => simp at f1 f2; subst f1 f2; exact r0
  | 1, f1, f2 => simp at f1 f2; subst f1 f2; exact r1
  | 2, f1, f2 => simp at f1 f2; subst f1 f2; exact r2
  | j + 3, f1, f2 => simp at f1

/-- The function is one with a body. -/
def Enters (P : Program) (f : FuncId) : Prop := ∀ args w, (callFunc f args).run P w = .ok (.enter f args) w

theorem enters {P : Program} {f : FuncId} {fn : Func} (hf : P.funcs[f]? = some fn) (hb : fn.body.isNone = false) (hn : (fn.name == "runtime.NumGoroutine") = false) : Enters P f := by
  intro args w
  unfold callFunc
  rw [Sem.run_bind, run_program, Result.andThen_ok]
  simp only [hf, hn, hb, Bool.false_eq_true, if_false]
  rfl

theorem evs_map {G : Ghost} {env : Env} {a : Act} (h : EnvR G env a.tmps) {xs : List Operand} {vs : List AV} (e : evs env xs = some vs) :
    (xs.toArray.map a.eval).size = vs.length ∧ ∀ (j : Nat) v c, vs[j]? = some v → (xs.toArray.map a.eval)[j]? = some c → R G v c := by
  obtain ⟨hl, hr⟩ := evs_r h e
  refine ⟨by simp [hl], fun j v c e1 e2 => ?_⟩
  simp only [Array.getElem?_map, List.getElem?_toArray, Option.map_eq_some_iff] at e2
  obtain ⟨x, hx, rfl⟩ := e2
  exact hr j v x e1 hx

theorem r_append {G : Ghost} {vs ws : List AV} {cvs cws : Array Value} (h1 : cvs.size = vs.length) (h2 : cws.size = ws.length)
    (r1 : ∀ (j : Nat) v c, vs[j]? = some v → cvs[j]? = some c → R G v c) (r2 : ∀ (j : Nat) v c, ws[j]? = some v → cws[j]? = some c → R G v c) :
    (cvs ++ cws).size = (vs ++ ws).length ∧ ∀ (j : Nat) v c, (vs ++ ws)[j]? = some v → (cvs ++ cws)[j]? = some c → R G v c := by
  refine ⟨by simp [h1, h2], fun j v c e1 e2 => ?_⟩
  rw [List.getElem?_append] at e1
  rw [Array.getElem?_append] at e2
  rw [h1] at e2
  split at e1
  · rename_i hj; rw [if_pos hj] at e2; exact r1 j v c e1 e2
  · rename_i hj; rw [if_neg hj] at e2; exact r2 _ v c e1 e2

theorem after_v {G : Ghost} {bs : List Blk} {w w' : World} {v : AV} {cv : Value} {Z' : ZM} (hI : Inv G bs w) (h : VAfter G.Z w v cv w' Z') : After G w v bs cv w' (G.setZ Z' h.zle) where
  r := .imm _ _ h.r
  inv := hI.later h.size h.frame h.zle h.znew h.zs
  le := ⟨fun _ _ e => e, fun _ g e => ⟨g, e, .inl rfl⟩, h.zle⟩
  ev := ⟨h.os, h.tape, h.output, h.size, h.zle, fun c o x e => by rcases h.znew c o x e with e | e; exact .inl e; exact .inr (.inl e),
    fun c hc _ => h.frame c hc, fun i c e => .inr ⟨i, e⟩, loop_of_same fun c hc => .inl (h.frame c hc)⟩

/-- A call of a function, or of a closure, with a contract from values to a value. -/
theorem op_call {P : Program} {o : Oper} {s : St} {x : Operand} {xs : List Operand} {ts : Array TypeId} {f : FuncId} {cap vs avs : List AV} {S : List AV → AV → Prop} {v : AV}
    (ho : o.op = .call { callee := .value x, args := xs.toArray, argTypes := ts }) (hx : ev s.env x = some (.fn f cap)) (hv : evs s.env xs = some vs)
    (hi : imms s.bs (vs ++ cap) = some avs) (hen : Enters P f) (hS : VOk P f S) (h : S avs v) : OpT P o s v s.bs := by
  refine OpT.of (by simp [ho]) ?_
  intro G w a hI hE K Q hK
  obtain ⟨cc, hfe, hcl, hcr⟩ := (ev_r hE hx).fn_inv
  obtain ⟨hal, har⟩ := evs_map hE hv
  obtain ⟨hbl, hbr⟩ := r_append hal hcl har hcr
  unfold Oper.wp execOp
  simp only [ho, resolve, invoke, hfe, Deferred.ofValue, Sem.run_bind, Sem.run_pure, Result.andThen_ok, Array.empty_append, hen _ w, Oper.upon]
  refine (hS G.Z w _ avs v G.ok hI.z ⟨hbl.trans (imms_get hi).1.symm, imms_ri hI hi hbr⟩ h).mono fun e w' ⟨cv, Z', he, hA⟩ => ?_
  subst he
  exact hK cv w' _ (after_v hI hA)

/-! ### a value of numbers alone -/

mutual
def scal : AV → Bool
  | .int _ _ | .bool _ | .str _ | .nilp | .nils | .nilmap | .nilfn => true
  | .agg cs => scals cs
  | .tup cs => scals cs
  | _ => false
def scals : List AV → Bool
  | [] => true
  | v :: r => match scal v with
    | true => scals r
    | false => false
end
theorem scals_get : ∀ {cs : List AV}, scals cs = true → ∀ (j : Nat) v, cs[j]? = some v → scal v = true
  | [], _, j, v, e => by simp at e
  | u :: r, h, j, v, e => by
    simp only [scals] at h
    split at h
    · rename_i hu
      cases j with
      | zero => simp at e; subst e; exact hu
      | succ j => exact scals_get h j v (by simpa using e)
    · cases h

theorem scal_ri {Z Z' : ZM} {v : AV} {cv : Value} (h : RI Z v cv) : scal v = true → RI Z' v cv := by
  induction h with
  | int k n => exact fun _ => .int k n
  | bool b => exact fun _ => .bool b
  | str s => exact fun _ => .str s
  | nilp => exact fun _ => .nilp
  | nils => exact fun _ => .nils
  | nilmap => exact fun _ => .nilmap
  | nilfn => exact fun _ => .nilfn
  | agg cs vs hl _ ih => exact fun hs => .agg cs vs hl fun j v cv e1 e2 => ih j v cv e1 e2 (scals_get (by simpa [scal] using hs) j v e1)
  | tup cs vs hl _ ih => exact fun hs => .tup cs vs hl fun j v cv e1 e2 => ih j v cv e1 e2 (scals_get (by simpa [scal] using hs) j v e1)
  | _ => intro hs; cases hs

theorem Inv.z_lt {G : Ghost} {bs : List Blk} {w : World} (h : Inv G bs w) {c o : Nat} {v : Value} (e : G.Z c o = some v) : c < w.heap.size := rd_lt (h.z c o v e)

/-- The same, where the function reads one's own blocks and hands back numbers alone. -/
theorem op_call_ro {P : Program} {o : Oper} {s : St} {x : Operand} {xs : List Operand} {ts : Array TypeId} {f : FuncId} {cap vs avs : List AV} {S : List AV → AV → Prop} {v : AV} (k : Nat)
    (ho : o.op = .call { callee := .value x, args := xs.toArray, argTypes := ts }) (hx : ev s.env x = some (.fn f cap)) (hv : evs s.env xs = some vs)
    (hi : snapL (snap s.bs k) (vs ++ cap) = some avs) (hen : Enters P f) (hS : VOk P f S) (h : S avs v) (hs : scal v = true) : OpT P o s v s.bs := by
  refine OpT.of (by simp [ho]) ?_
  intro G w a hI hE K Q hK
  obtain ⟨cc, hfe, hcl, hcr⟩ := (ev_r hE hx).fn_inv
  obtain ⟨hal, har⟩ := evs_map hE hv
  obtain ⟨hbl, hbr⟩ := r_append hal hcl har hcr
  unfold Oper.wp execOp
  simp only [ho, resolve, invoke, hfe, Deferred.ofValue, Sem.run_bind, Sem.run_pure, Result.andThen_ok, Array.empty_append, hen _ w, Oper.upon]
  obtain ⟨hsl, hsg⟩ := snapL_get hi
  refine (hS (zread G w) w _ avs v (G.ok.mono (zread_le G w)) (fun c o x e => zread_ok hI e) ⟨hbl.trans hsl.symm, fun j v c e1 e2 => ?_⟩ h).mono fun e w' ⟨cv, Z', he, hA⟩ => ?_
  · have hj : j < (vs ++ cap).length := hsl ▸ lt_of_get e1
    exact snap_ri hI k (hsg j (vs ++ cap)[j] v (List.getElem?_eq_getElem hj) e1) (hbr j _ c (List.getElem?_eq_getElem hj) e2)
  subst he
  have hz : ∀ c o v, G.Z c o = some v → rd w' c o = some v := fun c o v e => by
    rw [rd_of_frame (hA.frame c (hI.z_lt e))]; exact hI.z c o v e
  have hI' : Inv (G.setZ G.Z (.refl _)) s.bs w' := hI.later hA.size hA.frame (.refl _) (fun _ _ _ e => .inl e) hz
  exact hK cv w' G ⟨.imm _ _ (scal_ri hA.r hs), hI', .refl _, ⟨hA.os, hA.tape, hA.output, hA.size, .refl _, fun _ _ _ e => .inl e, fun c hc _ => hA.frame c hc, fun i c e => .inr ⟨i, e⟩, loop_of_same fun c hc => .inl (hA.frame c hc)⟩⟩

end
end Go.Proofs.YtelgmdljcbkniaaGreatDoor.Ai

/- An interpreter of values for the model's code, base text 5: the operations that compute, read, and make variables. -/
namespace Go.Proofs.YtelgmdljcbkniaaGreatDoor.Ai
noncomputable section
open Go

/-- What is used of a type's row. -/
structure Inf (P : Program) (t : TypeId) (size bytes : Nat) (zero : Value) (d : TypeDesc) : Prop where
  info : ∃ i, P.info? t = some i ∧ i.size = size ∧ i.bytes = bytes ∧ i.zero = some zero
  und : P.underlying t = some d

theorem Inf.size {P : Program} {t : TypeId} {size bytes : Nat} {zero : Value} {d : TypeDesc} (h : Inf P t size bytes zero d) (w : World) : (Go.sizeOf t).run P w = .ok size w := by
  obtain ⟨i, hi, hs, _⟩ := h.info
  simp [Go.sizeOf, typeInfo, hi, hs]
theorem Inf.zero {P : Program} {t : TypeId} {size bytes : Nat} {zero : Value} {d : TypeDesc} (h : Inf P t size bytes zero d) (w : World) : (zeroValue t).run P w = .ok zero w := by
  obtain ⟨i, hi, _, _, hz⟩ := h.info
  simp [zeroValue, typeInfo, hi, hz]
theorem Inf.under {P : Program} {t : TypeId} {size bytes : Nat} {zero : Value} {d : TypeDesc} (h : Inf P t size bytes zero d) (w : World) : (underlying t).run P w = .ok d w := run_underlying h.und w

def isAggD : TypeDesc → Bool
  | .struct _ | .array _ _ => true
  | _ => false

theorem Inf.isAgg {P : Program} {t : TypeId} {size bytes : Nat} {zero : Value} {d : TypeDesc} (h : Inf P t size bytes zero d) (w : World) : (isAgg t).run P w = .ok (isAggD d) w := by
  unfold Go.isAgg
  rw [Sem.run_bind, h.under]
  cases d <;> simp [isAggD]

theorem inf {P : Program} {t : TypeId} {size bytes : Nat} {zero : Value} {d : TypeDesc} (h : (P.info? t).map (fun i => (i.size, i.bytes, i.zero)) = some (size, bytes, some zero)) (hu : P.underlying t = some d) : Inf P t size bytes zero d := by
  cases hi : P.info? t with
  | none => simp [hi] at h
  | some i =>
    simp only [hi, Option.map_some, Option.some.injEq, Prod.mk.injEq] at h
    exact ⟨⟨i, hi, h.1, h.2.1, h.2.2⟩, hu⟩

/-- An operation that yields a value and leaves the world. -/
theorem op_pure {P : Program} {o : Oper} {s : St} {v : AV} (h : ∀ (G : Ghost) (w : World) (a : Act), Inv G s.bs w → EnvR G s.env a.tmps → ∃ cv, (execOp a.eval o).run P w = .ok (.value cv) w ∧ R G v cv)
    (hd : ∀ c, o.op ≠ .defer c := by intro c; rename o.op = _ => ho'; rw [ho']; exact fun h => nomatch h) : OpT P o s v s.bs := by
  refine OpT.of hd ?_
  intro G w a hI hE K Q hK
  obtain ⟨cv, he, hr⟩ := h G w a hI hE
  unfold Oper.wp
  rw [he]
  exact hK cv w G ⟨hr, hI, .refl _, .refl _ _⟩

theorem op_move {P : Program} {o : Oper} {s : St} {x : Operand} {v : AV} (ho : o.op = .move x) (hx : ev s.env x = some v) : OpT P o s v s.bs :=
  op_pure fun _ _ _ _ hE => ⟨_, by simp [execOp, ho], ev_r hE hx⟩
theorem op_assign {P : Program} {o : Oper} {s : St} {x : Operand} {v : AV} (ho : o.op = .assign x) (hx : ev s.env x = some v) : OpT P o s v s.bs :=
  op_pure fun _ _ _ _ hE => ⟨_, by simp [execOp, ho], ev_r hE hx⟩

theorem op_pick_true {P : Program} {o : Oper} {s : St} {c x y : Operand} {v : AV} (ho : o.op = .pick c x y) (hc : ev s.env c = some (.bool true)) (hx : ev s.env x = some v) : OpT P o s v s.bs :=
  op_pure fun _ _ _ _ hE => ⟨_, by simp [execOp, ho, (ev_r hE hc).bool_inv, asBool], ev_r hE hx⟩
theorem op_pick_false {P : Program} {o : Oper} {s : St} {c x y : Operand} {v : AV} (ho : o.op = .pick c x y) (hc : ev s.env c = some (.bool false)) (hx : ev s.env y = some v) : OpT P o s v s.bs :=
  op_pure fun _ _ _ _ hE => ⟨_, by simp [execOp, ho, (ev_r hE hc).bool_inv, asBool], ev_r hE hx⟩

theorem R.int_inv {G : Ghost} {k : IntKind} {n : Int} {cv : Value} (h : R G (.int k n) cv) : cv = .int k n := by
  cases h with | imm _ _ h => cases h; rfl
theorem R.str_inv {G : Ghost} {b : ByteArray} {cv : Value} (h : R G (.str b) cv) : cv = .string b := by
  cases h with | imm _ _ h => cases h; rfl
/-- Two numbers' operation, where it doesn't panic. -/
def bin2 (op : BinOp) (k : IntKind) (x y : Int) : Option AV :=
  match op with
  | .add => some (.int k (k.wrap (x + y)))
  | .sub => some (.int k (k.wrap (x - y)))
  | .mul => some (.int k (k.wrap (x * y)))
  | .and => some (.int k (k.wrap ((BitVec.ofInt k.bits x) &&& (BitVec.ofInt k.bits y)).toNat))
  | .or => some (.int k (k.wrap ((BitVec.ofInt k.bits x) ||| (BitVec.ofInt k.bits y)).toNat))
  | .xor => some (.int k (k.wrap ((BitVec.ofInt k.bits x) ^^^ (BitVec.ofInt k.bits y)).toNat))
  | .andNot => some (.int k (k.wrap ((BitVec.ofInt k.bits x) &&& ~~~ (BitVec.ofInt k.bits y)).toNat))
  | .eql => some (.bool (x == y))
  | .neq => some (.bool (x != y))
  | .lss => some (.bool (decide (x < y)))
  | .leq => some (.bool (decide (x ≤ y)))
  | .gtr => some (.bool (decide (x > y)))
  | .geq => some (.bool (decide (x ≥ y)))
  | _ => none

theorem run_bin {P : Program} {w : World} {Z : ZM} {op : BinOp} {t : TypeId} {k : IntKind} {a b : Int} {v : AV} (hv : bin2 op k a b = some v) :
    ∃ cv, (binOp op t (.int k a) (.int k b)).run P w = .ok cv w ∧ RI Z v cv := by
  cases op <;> simp only [bin2, Option.some.injEq, reduceCtorEq] at hv <;> subst hv <;>
    exact ⟨_, by simp only [binOp, ne_eq, not_true_eq_false, if_false, Op.intArith, Op.intBits, Op.intCmp]; rfl, by constructor⟩

theorem op_bin {P : Program} {o : Oper} {s : St} {op : BinOp} {t t' : TypeId} {x y : Operand} {k : IntKind} {a b : Int} {v : AV} (ho : o.op = .binOp op t x y t')
    (hx : ev s.env x = some (.int k a)) (hy : ev s.env y = some (.int k b)) (hv : bin2 op k a b = some v) : OpT P o s v s.bs := by
  refine op_pure fun G w ac _ hE => ?_
  have h1 := (ev_r hE hx).int_inv
  have h2 := (ev_r hE hy).int_inv
  have hg : (eqGuard op t x y (.int k a) (.int k b)).run P w = .ok () w := by
    unfold eqGuard
    split <;> simp
  obtain ⟨cv, hr, hi⟩ := run_bin (P := P) (w := w) (Z := G.Z) (t := t) hv
  exact ⟨cv, by simp only [execOp, ho, h1, h2, Sem.run_bind, hg, Result.andThen_ok, hr]; rfl, .imm _ _ hi⟩

theorem op_quo {P : Program} {o : Oper} {s : St} {t t' : TypeId} {x y : Operand} {k : IntKind} {a b : Int} (ho : o.op = .binOp .quo t x y t')
    (hx : ev s.env x = some (.int k a)) (hy : ev s.env y = some (.int k b)) (hb : b ≠ 0) : OpT P o s (.int k (k.wrap (a.tdiv b))) s.bs :=
  op_pure fun _ _ _ _ hE => ⟨_, by simp [execOp, ho, (ev_r hE hx).int_inv, (ev_r hE hy).int_inv, eqGuard, binOp, Op.intDiv, hb], .imm _ _ (.int _ _)⟩
theorem op_rem {P : Program} {o : Oper} {s : St} {t t' : TypeId} {x y : Operand} {k : IntKind} {a b : Int} (ho : o.op = .binOp .rem t x y t')
    (hx : ev s.env x = some (.int k a)) (hy : ev s.env y = some (.int k b)) (hb : b ≠ 0) : OpT P o s (.int k (a.tmod b)) s.bs :=
  op_pure fun _ _ _ _ hE => ⟨_, by simp [execOp, ho, (ev_r hE hx).int_inv, (ev_r hE hy).int_inv, eqGuard, binOp, Op.intDiv, hb], .imm _ _ (.int _ _)⟩
theorem op_shl {P : Program} {o : Oper} {s : St} {t t' : TypeId} {x y : Operand} {k k' : IntKind} {a b : Int} (ho : o.op = .binOp .shl t x y t')
    (hx : ev s.env x = some (.int k a)) (hy : ev s.env y = some (.int k' b)) (hb : ¬ b < 0) : OpT P o s (.int k (k.wrap (a * 2 ^ (min b.toNat k.bits)))) s.bs :=
  op_pure fun _ _ _ _ hE => ⟨_, by simp [execOp, ho, (ev_r hE hx).int_inv, (ev_r hE hy).int_inv, eqGuard, binOp, Op.shift, hb], .imm _ _ (.int _ _)⟩
theorem op_shr {P : Program} {o : Oper} {s : St} {t t' : TypeId} {x y : Operand} {k k' : IntKind} {a b : Int} (ho : o.op = .binOp .shr t x y t')
    (hx : ev s.env x = some (.int k a)) (hy : ev s.env y = some (.int k' b)) (hb : ¬ b < 0) : OpT P o s (.int k (a.fdiv (2 ^ (min b.toNat k.bits)))) s.bs :=
  op_pure fun _ _ _ _ hE => ⟨_, by simp [execOp, ho, (ev_r hE hx).int_inv, (ev_r hE hy).int_inv, eqGuard, binOp, Op.shift, hb], .imm _ _ (.int _ _)⟩

theorem run_equalIn_bool {P : Program} {w : World} {t : TypeId} (hu : P.underlying t = some .bool) (d : Nat) (a b : Bool) : (Op.equalIn (d + 1) t (.bool a) (.bool b)).run P w = .ok (a == b) w := by
  simp [Op.equalIn, run_underlying hu]
theorem run_equal_bool {P : Program} {w : World} {t : TypeId} (hu : P.underlying t = some .bool) (a b : Bool) : (Op.equal t (.bool a) (.bool b)).run P w = .ok (a == b) w := run_equalIn_bool hu 9999 a b

theorem op_eqb {P : Program} {o : Oper} {s : St} {t t' : TypeId} {x y : Operand} {a b : Bool} (hu : P.underlying t = some .bool) (ho : o.op = .binOp .eql t x y t')
    (hx : ev s.env x = some (.bool a)) (hy : ev s.env y = some (.bool b)) : OpT P o s (.bool (a == b)) s.bs :=
  op_pure fun _ w _ _ hE => by
    have hb : (binOp .eql t (.bool a) (.bool b)).run P w = .ok (.bool (a == b)) w := by
      show (do pure (Value.bool (← Op.equal t (.bool a) (.bool b))) : Sem Value).run P w = _
      rw [Sem.run_bind, run_equal_bool hu]; rfl
    exact ⟨.bool (a == b), by simp only [execOp, ho, (ev_r hE hx).bool_inv, (ev_r hE hy).bool_inv, eqGuard, Sem.run_bind, Sem.run_pure, ite_self, Result.andThen_ok, hb], .imm _ _ (.bool _)⟩
theorem op_neb {P : Program} {o : Oper} {s : St} {t t' : TypeId} {x y : Operand} {a b : Bool} (hu : P.underlying t = some .bool) (ho : o.op = .binOp .neq t x y t')
    (hx : ev s.env x = some (.bool a)) (hy : ev s.env y = some (.bool b)) : OpT P o s (.bool (!(a == b))) s.bs :=
  op_pure fun _ w _ _ hE => by
    have hb : (binOp .neq t (.bool a) (.bool b)).run P w = .ok (.bool (!(a == b))) w := by
      show (do pure (Value.bool (!(← Op.equal t (.bool a) (.bool b)))) : Sem Value).run P w = _
      rw [Sem.run_bind, run_equal_bool hu]; rfl
    exact ⟨.bool (!(a == b)), by simp only [execOp, ho, (ev_r hE hx).bool_inv, (ev_r hE hy).bool_inv, eqGuard, Sem.run_bind, Sem.run_pure, ite_self, Result.andThen_ok, hb], .imm _ _ (.bool _)⟩

theorem op_not {P : Program} {o : Oper} {s : St} {t : TypeId} {x : Operand} {b : Bool} (ho : o.op = .unOp .not t x) (hx : ev s.env x = some (.bool b)) : OpT P o s (.bool (!b)) s.bs :=
  op_pure fun _ _ _ _ hE => ⟨_, by simp [execOp, ho, (ev_r hE hx).bool_inv, Op.unary], .imm _ _ (.bool _)⟩
theorem op_neg {P : Program} {o : Oper} {s : St} {t : TypeId} {x : Operand} {k : IntKind} {n : Int} (ho : o.op = .unOp .neg t x) (hx : ev s.env x = some (.int k n)) : OpT P o s (.int k (k.wrap (0 - n))) s.bs :=
  op_pure fun _ _ _ _ hE => ⟨_, by simp [execOp, ho, (ev_r hE hx).int_inv, Op.unary, Op.intArith], .imm _ _ (.int _ _)⟩

theorem op_conv {P : Program} {o : Oper} {s : St} {t u : TypeId} {x : Operand} {k k1 k' : IntKind} {n : Int} (h1 : P.underlying t = some (.int k1)) (h2 : P.underlying u = some (.int k'))
    (ho : o.op = .convert t u x) (hx : ev s.env x = some (.int k n)) : OpT P o s (.int k' (k'.wrap n)) s.bs :=
  op_pure fun _ _ _ _ hE => ⟨_, by simp [execOp, ho, (ev_r hE hx).int_inv, convert, run_underlying h1, run_underlying h2, Conv.intToInt], .imm _ _ (.int _ _)⟩

theorem op_extract {P : Program} {o : Oper} {s : St} {x : Operand} {i : Nat} {vs : List AV} {v : AV} (ho : o.op = .extract x i) (hx : ev s.env x = some (.tup vs)) (hv : vs[i]? = some v) : OpT P o s v s.bs :=
  op_pure fun _ _ _ _ hE => by
    obtain ⟨cs, he, hl, hr⟩ := (ev_r hE hx).tup_inv
    have hi : i < cs.size := hl ▸ lt_of_get hv
    exact ⟨cs[i], by simp [execOp, ho, he, Instr.extract, hi], hr i v _ hv (by simp [hi])⟩

theorem op_mkfunc {P : Program} {o : Oper} {s : St} {f : Nat} {xs : List Operand} {vs : List AV} (ho : o.op = .makeFunc (.func f) #[] xs.toArray) (hv : evs s.env xs = some vs) : OpT P o s (.fn f vs) s.bs :=
  op_pure fun _ _ a _ hE => by
    obtain ⟨hl, hr⟩ := evs_map hE hv
    exact ⟨.func (.func f) #[] (xs.map a.eval).toArray, by simp only [execOp, ho, Instr.makeFunc, Sem.run_bind, Sem.run_pure, Result.andThen_ok, List.map_toArray, List.map_nil], by simpa using R.fn f vs _ hl hr⟩

theorem op_nilcheck_ptr {P : Program} {o : Oper} {s : St} {x : Operand} {i k : Nat} (ho : o.op = .nilCheck x) (hx : ev s.env x = some (.ptr i k)) : OpT P o s (.ptr i k) s.bs :=
  op_pure fun _ _ _ _ hE => by
    obtain ⟨c, hc, he⟩ := (ev_r hE hx).ptr_inv
    exact ⟨_, by simp [execOp, ho, he], .ptr i k c hc⟩

/-! ### Reading -/

theorem loadCells_at {P : Program} {w : World} {c o : Nat} {arr : Array Value} {e : TypeId} {fr : Nat × Nat} (hb : w.heap[c]? = some (.cells arr e fr)) (n : Nat) (h : o + n ≤ arr.size) :
    (loadCells ⟨c, o, none⟩ n).run P w = .ok (arr.extract o (o + n)) w := by
  have hl : ((arr.toList.drop o).take n).length = n := by simp; omega
  have := run_loadCells_list (P := P) w ⟨c, o, none⟩ ((arr.toList.drop o).take n) (fun j v hv => by
    have hadd : (⟨c, o, none⟩ : Addr).add j = ⟨c, o + j, none⟩ := by unfold Addr.add; split <;> simp_all
    rw [hadd]
    simp only [World.cell?, hb, Option.isSome_none, Bool.false_eq_true, if_false]
    rw [List.getElem?_take] at hv
    split at hv
    · simpa using hv
    · cases hv)
  rw [hl] at this
  rw [this]
  congr 1
  apply Array.ext'
  simp [Array.toList_extract, List.extract_eq_take_drop]

/-- A variable of one cell is read. -/
theorem op_load {P : Program} {o : Oper} {s : St} {t : TypeId} {x : Operand} {size bytes : Nat} {z : Value} {d : TypeDesc} {i k : Nat} {cs : List AV} {v : AV} (ht : Inf P t size bytes z d) (hd : isAggD d = false)
    (ho : o.op = .load t x) (hx : ev s.env x = some (.ptr i k)) (hb : s.bs[i]? = some (.cells cs)) (hv : cs[k]? = some v) : OpT P o s v s.bs :=
  op_pure fun G w a hI hE => by
    obtain ⟨c, hc, he⟩ := (ev_r hE hx).ptr_inv
    obtain ⟨arr, e, hh, hl, hr, _⟩ := inv_cells hI hb hc
    have hk : k < arr.size := Nat.lt_of_lt_of_le (lt_of_get hv) hl
    have hcell : w.cell? ⟨c, k, none⟩ = some arr[k] := by simp [World.cell?, hh, hk]
    exact ⟨arr[k], by simp [execOp, ho, he, Instr.loadAt, Instr.sureAddr, loadVar, ht.isAgg, hd, hcell], hr k v _ hv (by simp [hk])⟩

/-- A struct or an array is read. -/
theorem op_load_agg {P : Program} {o : Oper} {s : St} {t : TypeId} {x : Operand} {size bytes : Nat} {z : Value} {d : TypeDesc} {i k : Nat} {cs ds : List AV} (ht : Inf P t size bytes z d) (hd : isAggD d = true)
    (ho : o.op = .load t x) (hx : ev s.env x = some (.ptr i k)) (hb : s.bs[i]? = some (.cells cs)) (hs : k + size ≤ cs.length) (hv : (cs.drop k).take size = ds) : OpT P o s (.agg ds) s.bs :=
  op_pure fun G w a hI hE => by
    subst hv
    obtain ⟨c, hc, he⟩ := (ev_r hE hx).ptr_inv
    obtain ⟨arr, e, hh, hl, hr, _⟩ := inv_cells hI hb hc
    have hrun := loadCells_at (P := P) hh size (o := k) (by omega)
    refine ⟨.agg (arr.extract k (k + size)), by simp [execOp, ho, he, Instr.loadAt, Instr.sureAddr, loadVar, ht.isAgg, hd, ht.size, hrun], .agg _ _ (by simp; omega) fun j v cv e1 e2 => ?_⟩
    rw [List.getElem?_take] at e1
    split at e1
    · rename_i hj
      rw [List.getElem?_drop] at e1
      rw [Array.getElem?_extract] at e2
      split at e2
      · exact hr (k + j) v cv e1 e2
      · cases e2
    · cases e1

theorem R.eptr_inv {G : Ghost} {xs : List AV} {i k : Nat} {cv : Value} (h : R G (.eptr xs i k) cv) : ∃ sz c o, cv = .pointer (some ⟨c, o + i * sz + k, none⟩) ∧
    (∀ (j : Nat) (x : AV), xs[j]? = some x → x.cells.length = sz) ∧
    (∀ (j : Nat) (x : AV) (q : Nat) v cv, xs[j]? = some x → x.cells[q]? = some v → G.Z c (o + j * sz + q) = some cv → RI G.Z v cv) ∧
    (∀ (j q : Nat), j < xs.length → q < sz → ∃ cv, G.Z c (o + j * sz + q) = some cv) ∧ i < xs.length ∧ k < sz := by
  cases h with
  | imm _ _ h => cases h with | eptr _ _ _ sz c o he hz hd hi ho => exact ⟨sz, c, o, rfl, he, hz, hd, hi, ho⟩

/-- A field of an element, or an element of one cell, is read. -/
theorem op_load_e {P : Program} {o : Oper} {s : St} {t : TypeId} {x : Operand} {size bytes : Nat} {z : Value} {d : TypeDesc} {i k : Nat} {xs : List AV} {u v : AV} (ht : Inf P t size bytes z d) (hd : isAggD d = false)
    (ho : o.op = .load t x) (hx : ev s.env x = some (.eptr xs i k)) (hu : xs[i]? = some u) (hv : u.cells[k]? = some v) : OpT P o s v s.bs :=
  op_pure fun G w a hI hE => by
    obtain ⟨sz, c, q, he, h1, h2, h3, h4, h5⟩ := (ev_r hE hx).eptr_inv
    obtain ⟨cv, hcv⟩ := h3 i k h4 h5
    have hcell := rd_cell (hI.z _ _ _ hcv) (RI.no_code (h2 i u k v cv hu hv hcv))
    exact ⟨cv, by simp [execOp, ho, he, Instr.loadAt, Instr.sureAddr, loadVar, ht.isAgg, hd, hcell], .imm _ _ (h2 i u k v cv hu hv hcv)⟩

/-- A struct that is an element, or a part of one, is read. -/
theorem op_load_agg_e {P : Program} {o : Oper} {s : St} {t : TypeId} {x : Operand} {size bytes : Nat} {z : Value} {d : TypeDesc} {i k : Nat} {xs ds : List AV} {u : AV} (ht : Inf P t size bytes z d) (hd : isAggD d = true)
    (ho : o.op = .load t x) (hx : ev s.env x = some (.eptr xs i k)) (hu : xs[i]? = some u) (hs : k + size ≤ u.cells.length) (hv : (u.cells.drop k).take size = ds) : OpT P o s (.agg ds) s.bs :=
  op_pure fun G w a hI hE => by
    subst hv
    obtain ⟨sz, c, q, he, h1, h2, h3, h4, h5⟩ := (ev_r hE hx).eptr_inv
    have hsz := h1 i u hu
    obtain ⟨f, hf⟩ : ∃ f : Nat → Value, ∀ j, j < size → G.Z c (q + i * sz + k + j) = some (f j) := by
      refine ⟨fun j => (G.Z c (q + i * sz + k + j)).getD undef, fun j hj => ?_⟩
      obtain ⟨cv, hcv⟩ := h3 i (k + j) h4 (by omega)
      rw [← Nat.add_assoc] at hcv
      simp [hcv]
    have hrun := run_loadCells (P := P) w ⟨c, q + i * sz + k, none⟩ size f (fun j hj => by
      have hadd : (⟨c, q + i * sz + k, none⟩ : Addr).add j = ⟨c, q + i * sz + k + j, none⟩ := by unfold Addr.add; split <;> simp_all
      rw [hadd]
      have hj2 : k + j < u.cells.length := by omega
      exact rd_cell (hI.z _ _ _ (hf j hj)) (RI.no_code (h2 i u (k + j) u.cells[k + j] (f j) hu (by simp [hj2]) (by rw [← Nat.add_assoc]; exact hf j hj))))
    refine ⟨.agg ((List.range size).map f).toArray, by simp [execOp, ho, he, Instr.loadAt, Instr.sureAddr, loadVar, ht.isAgg, hd, ht.size, hrun], .imm _ _ (.agg _ _ (by simp; omega) fun j v cv e1 e2 => ?_)⟩
    rw [List.getElem?_take] at e1
    split at e1
    · rename_i hj
      rw [List.getElem?_drop] at e1
      have e3 : cv = f j := by simp [hj] at e2; exact e2.symm
      have hz := hf j hj
      rw [← e3, Nat.add_assoc] at hz
      exact h2 i u (k + j) v cv hu e1 hz
    · cases e1

/-! ### Addresses -/

theorem run_fieldPlace {P : Program} {w : World} {a : Addr} {f : Field} {size bytes : Nat} {z : Value} {d : TypeDesc} (hf : Inf P f.type size bytes z d) (h0 : (size == 0) = false) :
    (fieldPlace a f).run P w = .ok (a.add f.offset) w := by
  have h0' : size ≠ 0 := by simpa using h0
  simp [fieldPlace, hf.size, h0']

theorem addr_add (c o n : Nat) : (⟨c, o, none⟩ : Addr).add n = ⟨c, o + n, none⟩ := by unfold Addr.add; split <;> simp_all

theorem op_faddr {P : Program} {o : Oper} {s : St} {t : TypeId} {x : Operand} {fs : Array Field} {j : Nat} {f : Field} {i k size bytes : Nat} {z : Value} {d : TypeDesc} (ht : P.underlying t = some (.struct fs)) (hj : fs[j]? = some f)
    (hf : Inf P f.type size bytes z d) (h0 : (size == 0) = false) (ho : o.op = .fieldAddr t x j) (hx : ev s.env x = some (.ptr i k)) : OpT P o s (.ptr i (k + f.offset)) s.bs :=
  op_pure fun G w a hI hE => by
    obtain ⟨c, hc, he⟩ := (ev_r hE hx).ptr_inv
    exact ⟨_, by simp [execOp, ho, he, Instr.fieldAt, run_underlying ht, hj, Instr.sureAddr, run_fieldPlace hf h0, addr_add], .ptr i _ c hc⟩

theorem op_faddr_e {P : Program} {o : Oper} {s : St} {t : TypeId} {x : Operand} {fs : Array Field} {j : Nat} {f : Field} {i k size bytes : Nat} {z : Value} {d : TypeDesc} {xs : List AV} {u : AV} (ht : P.underlying t = some (.struct fs)) (hj : fs[j]? = some f)
    (hf : Inf P f.type size bytes z d) (h0 : (size == 0) = false) (ho : o.op = .fieldAddr t x j) (hx : ev s.env x = some (.eptr xs i k)) (hu : xs[i]? = some u) (hk : k + f.offset < u.cells.length) :
    OpT P o s (.eptr xs i (k + f.offset)) s.bs :=
  op_pure fun G w a hI hE => by
    obtain ⟨sz, c, q, he, h1, h2, h3, h4, h5⟩ := (ev_r hE hx).eptr_inv
    have hsz := h1 i u hu
    refine ⟨_, by simp [execOp, ho, he, Instr.fieldAt, run_underlying ht, hj, Instr.sureAddr, run_fieldPlace hf h0, addr_add]; rfl, .imm _ _ ?_⟩
    rw [Nat.add_assoc]
    exact .eptr xs i (k + f.offset) sz c q h1 h2 h3 h4 (by omega)

theorem R.lst_inv {G : Ghost} {ex : Bool} {xs : List AV} {cv : Value} (h : R G (.lst ex xs) cv) : (xs = [] ∧ ∃ b, cv = .slice b 0 0) ∨ ∃ sz c o cap, cv = .slice (some ⟨c, o, none⟩) xs.length cap ∧
    (∀ (j : Nat) (x : AV), xs[j]? = some x → x.cells.length = sz) ∧
    (∀ (j : Nat) (x : AV) (q : Nat) v cv, xs[j]? = some x → x.cells[q]? = some v → G.Z c (o + j * sz + q) = some cv → RI G.Z v cv) ∧
    (∀ (j q : Nat), j < xs.length → q < sz → ∃ cv, G.Z c (o + j * sz + q) = some cv) ∧ xs.length ≤ cap ∧ (ex = true → cap = xs.length) := by
  cases h with
  | imm _ _ h =>
    cases h with
    | nilslice _ b => exact .inl ⟨rfl, b, rfl⟩
    | lst _ _ sz c o cap he hz hd hc hx => exact .inr ⟨sz, c, o, cap, rfl, he, hz, hd, hc, hx⟩

/-- The address of an element of a list that nobody writes. -/
theorem op_iaddr {P : Program} {o : Oper} {s : St} {t e : TypeId} {x y : Operand} {ex : Bool} {xs : List AV} {k : IntKind} {n : Int} {u : AV} {size bytes : Nat} {z : Value} {d : TypeDesc} (ht : P.underlying t = some (.slice e)) (he : Inf P e size bytes z d)
    (ho : o.op = .indexAddr t x y) (hx : ev s.env x = some (.lst ex xs)) (hy : ev s.env y = some (.int k n)) (h0 : 0 ≤ n) (hu : xs[n.toNat]? = some u) (hs : u.cells.length = size) (hs0 : 0 < size) :
    OpT P o s (.eptr xs n.toNat 0) s.bs :=
  op_pure fun G w a hI hE => by
    have hlt := lt_of_get hu
    rcases (ev_r hE hx).lst_inv with ⟨rfl, _⟩ | ⟨sz, c, q, cap, hv, h1, h2, h3, h4, h5⟩
    · simp at hlt
    · have hsz : sz = size := by rw [← hs]; exact (h1 _ u hu).symm
      subst hsz
      have hn : n < (xs.length : Int) := by omega
      exact ⟨_, by simp [execOp, ho, hv, (ev_r hE hy).int_inv, Instr.indexAt, asIntOf, run_underlying ht, h0, hn, he.size, addr_add], .imm _ _ (.eptr xs n.toNat 0 sz c q h1 h2 h3 hlt hs0)⟩

/-! ### len -/

theorem op_len {P : Program} {o : Oper} {s : St} {t e : TypeId} {x : Operand} {ex : Bool} {xs : List AV} (ht : P.underlying t = some (.slice e))
    (ho : o.op = .call { callee := .builtin .len, args := #[x], argTypes := #[t] }) (hx : ev s.env x = some (.lst ex xs)) : OpT P o s (.int .i64 xs.length) s.bs :=
  op_pure fun G w a hI hE => by
    refine ⟨.int .i64 xs.length, ?_, .imm _ _ (.int _ _)⟩
    rcases (ev_r hE hx).lst_inv with ⟨rfl, b0, hv⟩ | ⟨sz, c, q, cap, hv, _⟩ <;>
      simp [execOp, ho, resolve, invoke, builtin, Builtin.len_, run_underlying ht, hv, goInt]

def mx (a b : Int) : Int := if a < b then b else a
def mn (a b : Int) : Int := if b < a then b else a

theorem op_max {P : Program} {o : Oper} {s : St} {x y : Operand} {ts : Array TypeId} {k : IntKind} {a b : Int} (ho : o.op = .call { callee := .builtin .max, args := #[x, y], argTypes := ts })
    (hx : ev s.env x = some (.int k a)) (hy : ev s.env y = some (.int k b)) : OpT P o s (.int k (mx a b)) s.bs :=
  op_pure fun G w _ hI hE => ⟨_, by simp [execOp, ho, resolve, invoke, builtin, Builtin.max_, (ev_r hE hx).int_inv, (ev_r hE hy).int_inv, Builtin.max2, mx], .imm _ _ (.int _ _)⟩
theorem op_min {P : Program} {o : Oper} {s : St} {x y : Operand} {ts : Array TypeId} {k : IntKind} {a b : Int} (ho : o.op = .call { callee := .builtin .min, args := #[x, y], argTypes := ts })
    (hx : ev s.env x = some (.int k a)) (hy : ev s.env y = some (.int k b)) : OpT P o s (.int k (mn a b)) s.bs :=
  op_pure fun G w _ hI hE => ⟨_, by simp [execOp, ho, resolve, invoke, builtin, Builtin.min_, (ev_r hE hx).int_inv, (ev_r hE hy).int_inv, Builtin.min2, mn], .imm _ _ (.int _ _)⟩

end
end Go.Proofs.YtelgmdljcbkniaaGreatDoor.Ai

/- An interpreter of values for the model's code, base text 6: variables that are made and written, structs and slices that are built. -/
namespace Go.Proofs.YtelgmdljcbkniaaGreatDoor.Ai
noncomputable section
open Go

theorem R.one_cells {G : Ghost} {v : AV} {cv : Value} (h : R G v cv) (h1 : v.one = true) : cv.cells = #[cv] ∧ cv.oneCell' = true := by
  cases h with
  | imm _ _ h => cases h <;> first | (simp [AV.one] at h1; done) | exact ⟨rfl, rfl⟩
  | und => simp [AV.one] at h1
  | agg => simp [AV.one] at h1
  | tup => simp [AV.one] at h1
  | rptr => exact ⟨rfl, rfl⟩
  | ptr => exact ⟨rfl, rfl⟩
  | slc => exact ⟨rfl, rfl⟩
  | gsl => exact ⟨rfl, rfl⟩
  | stale => exact ⟨rfl, rfl⟩
  | map => exact ⟨rfl, rfl⟩
  | fn => exact ⟨rfl, rfl⟩
  | yld => exact ⟨rfl, rfl⟩
  | optr => exact ⟨rfl, rfl⟩
  | optrS => exact ⟨rfl, rfl⟩
  | oslc => exact ⟨rfl, rfl⟩
  | oslcS => exact ⟨rfl, rfl⟩

/-- The cells of a value, one by one. -/
theorem R.cells {G : Ghost} {v : AV} {cv : Value} (h : R G v cv) (h1 : v.cells.all AV.one = true) :
    cv.cells.size = v.cells.length ∧ (∀ (j : Nat) x c, v.cells[j]? = some x → cv.cells[j]? = some c → R G x c) ∧ ∀ c ∈ cv.cells.toList, c.oneCell' = true := by
  by_cases ha : ∃ cs, v = .agg cs
  · obtain ⟨cs, rfl⟩ := ha
    obtain ⟨vs, rfl, hl, hr⟩ := h.agg_inv
    refine ⟨hl, hr, fun c hc => ?_⟩
    obtain ⟨j, hj, rfl⟩ := List.getElem_of_mem hc
    simp only [Value.cells, Array.length_toList] at hj
    have hj' : j < cs.length := hl ▸ hj
    have h2 := hr j cs[j] vs[j] (by simp [hj']) (by simp [hj])
    have h3 : cs[j].one = true := by
      simp only [AV.cells, List.all_eq_true] at h1
      exact h1 _ (List.getElem_mem hj')
    simpa [Value.cells] using (h2.one_cells h3).2
  · have hc : v.cells = [v] := by
      cases v <;> first | rfl | exact absurd ⟨_, rfl⟩ ha
    rw [hc] at h1 ⊢
    have hv : v.one = true := by simpa using h1
    obtain ⟨h2, h3⟩ := h.one_cells hv
    rw [h2]
    refine ⟨rfl, fun j x c e1 e2 => ?_, by simpa using h3⟩
    cases j with
    | zero => simp at e1 e2; subst e1 e2; exact h
    | succ j => simp at e1

/-- A new block of the store. -/
theorem Inv.push {G G' : Ghost} {bs : List Blk} {w w' : World} (h : Inv G bs w) (b : Blk) (hcl : ∀ i, i ≠ bs.length → G'.cl i = G.cl i) (hgr : ∀ i, i ≠ bs.length → G'.gr i = G.gr i)
    (hz : G.Z.le G'.Z) (hnew : ∀ c o v, G'.Z c o = some v → G.Z c o = some v ∨ w.heap.size ≤ c) (hf : ∀ c, c < w.heap.size → w'.heap[c]? = w.heap[c]?)
    (hs : ∀ c o v, G'.Z c o = some v → rd w' c o = some v) (hb : G.le G' → BlkOk G' w' bs.length b) (hown : ∀ c, G'.owns bs.length c → w.heap.size ≤ c) :
    Inv G' (bs ++ [b]) w' ∧ G.le G' := by
  have hle : G.le G' := by
    refine ⟨fun i c e => ?_, fun i g e => ⟨g, ?_, .inl rfl⟩, hz⟩
    · rw [hcl i (fun hi => by rw [hi] at e; rw [(h.dom _ (Nat.le_refl _)).1] at e; cases e)]; exact e
    · rw [hgr i (fun hi => by rw [hi] at e; rw [(h.dom _ (Nat.le_refl _)).2] at e; cases e)]; exact e
  have howns : ∀ i c, i ≠ bs.length → (G'.owns i c ↔ G.owns i c) := fun i c hi => by unfold Ghost.owns; rw [hcl i hi, hgr i hi]
  refine ⟨⟨fun i b' hb' => ?_, fun i hi => ?_, fun i j c h1 h2 => ?_, hs⟩, hle⟩
  · rw [List.getElem?_append] at hb'
    split at hb'
    · rename_i hi
      have hne : i ≠ bs.length := by omega
      refine (h.blk i b' hb').keep hle (hcl i hne) (hgr i hne) (fun c hc => hf c (h.lt hc).2) fun c hc o => ?_
      have hlt := (h.lt hc).2
      cases hG : G.Z c o with
      | some v => exact hz c o v hG
      | none =>
        cases hZ : G'.Z c o with
        | none => rfl
        | some v =>
          rcases hnew c o v hZ with e | e
          · rw [hG] at e; cases e
          · omega
    · rename_i hi
      have : i - bs.length = 0 := by have := lt_of_get hb'; simp at this; omega
      have hi2 : i = bs.length := by omega
      rw [this] at hb'
      simp at hb'
      subst hb' hi2
      exact hb hle
  · simp at hi
    rw [hcl i (by omega), hgr i (by omega)]
    exact h.dom i (by omega)
  · by_cases hi : i = bs.length <;> by_cases hj : j = bs.length
    · omega
    · rw [howns j c hj] at h2
      have h3 := (h.lt h2).2
      have := hown c (hi ▸ h1)
      omega
    · rw [howns i c hi] at h1
      have h3 := (h.lt h1).2
      have := hown c (hj ▸ h2)
      omega
    · rw [howns i c hi] at h1
      rw [howns j c hj] at h2
      exact h.inj i j c h1 h2

theorem z_lt {G : Ghost} {bs : List Blk} {w : World} (h : Inv G bs w) {c o : Nat} {v : Value} (e : G.Z c o = some v) : c < w.heap.size :=
  rd_lt (h.z c o v e)

/-- A new variable, or an array: a block of cells. -/
theorem after_new {G : Ghost} {bs : List Blk} {w : World} (hI : Inv G bs w) (arr : Array Value) (e : TypeId) (cs : List AV) (hl : cs.length ≤ arr.size)
    (hr : ∀ (j : Nat) v cv, cs[j]? = some v → arr[j]? = some cv → R G v cv) (o : Nat) :
    ∃ G', Inv G' (bs ++ [.cells cs]) (w.alloc (.cells arr e)) ∧ G.le G' ∧ Ev G w G' (w.alloc (.cells arr e)) ∧ G'.cl bs.length = some w.heap.size ∧ R G' (.ptr bs.length o) (.pointer (some ⟨w.heap.size, o, none⟩)) := by
  let G' : Ghost := { G with cl := fun i => if i = bs.length then some w.heap.size else G.cl i }
  have hcl : G'.cl bs.length = some w.heap.size := by simp [G']
  have hgr0 : G'.gr bs.length = none := (hI.dom _ (Nat.le_refl _)).2
  have hf : ∀ c, c < w.heap.size → (w.alloc (.cells arr e)).heap[c]? = w.heap[c]? := fun c hc => heap_alloc_old w _ c hc
  have hs : ∀ c o v, G.Z c o = some v → rd (w.alloc (.cells arr e)) c o = some v := fun c o v ez => by
    rw [rd_of_frame (hf c (z_lt hI ez))]; exact hI.z c o v ez
  have hnone : ∀ o, G.Z w.heap.size o = none := fun o => by
    cases hz : G.Z w.heap.size o with
    | none => rfl
    | some v => have := z_lt hI hz; omega
  have hown : ∀ c, G'.owns bs.length c → c = w.heap.size := fun c hc => by
    rcases hc with hc | ⟨g, hg, _⟩
    · rw [hcl] at hc; exact (Option.some.inj hc).symm
    · rw [hgr0] at hg; cases hg
  obtain ⟨h1, h2⟩ := hI.push (G' := G') (w' := w.alloc (.cells arr e)) (.cells cs) (fun i hi => by simp [G', hi]) (fun _ _ => rfl) (.refl _) (fun _ _ _ e => .inl e) hf hs
    (fun hle => ⟨hgr0, fun c hc => by
      rw [hcl] at hc
      obtain rfl := Option.some.inj hc
      exact ⟨arr, e, heap_alloc_new w _, hl, fun j v cv e1 e2 => (hr j v cv e1 e2).mono hle, hnone⟩⟩)
    (fun c hc => by rw [hown c hc]; exact Nat.le_refl _)
  refine ⟨G', h1, h2, ⟨rfl, rfl, rfl, by simp, .refl _, fun _ _ _ e => .inl e, fun c hc _ => hf c hc, fun i c hc => ?_, loop_of_same fun c hc => .inl (hf c hc)⟩, hcl, .ptr _ _ _ hcl⟩
  by_cases hi : i = bs.length
  · subst hi; rw [hown c hc]; exact .inl (Nat.le_refl _)
  · exact .inr ⟨i, by unfold Ghost.owns at hc ⊢; simpa [G', hi] using hc⟩

theorem op_box {P : Program} {o : Oper} {s : St} {t : TypeId} {x : Operand} {v : AV} {k : Nat} (ho : o.op = .box t x) (hx : ev s.env x = some v) (h1 : v.cells.all AV.one = true) (hk : s.bs.length = k) :
    OpT P o s (.ptr k 0) (s.bs ++ [.cells v.cells]) := by
  subst hk
  refine OpT.of (by simp [ho]) ?_
  intro G w a hI hE K Q hK
  have hr := ev_r hE hx
  obtain ⟨hl, hc, _⟩ := hr.cells h1
  obtain ⟨G', hI', hle, hev, _, hp⟩ := after_new hI (a.eval x).cells t v.cells (by omega) hc 0
  unfold Oper.wp
  have : (execOp a.eval o).run P w = .ok (.value (.pointer (some ⟨w.heap.size, 0, none⟩))) (w.alloc (.cells (a.eval x).cells t)) := by
    simp [execOp, ho, Instr.box, newVar, newRow]
  rw [this]
  exact hK _ _ G' ⟨hp, hI', hle, hev⟩

theorem op_alloc {P : Program} {o : Oper} {s : St} {t : TypeId} {size bytes : Nat} {z : Value} {d : TypeDesc} {v : AV} {k : Nat} (ht : Inf P t size bytes z d) (hz : ofConst z = some v) (h1 : v.cells.all AV.one = true)
    (ho : o.op = .alloc t) (hk : s.bs.length = k) : OpT P o s (.ptr k 0) (s.bs ++ [.cells v.cells]) := by
  subst hk
  refine OpT.of (by simp [ho]) ?_
  intro G w a hI hE K Q hK
  have hr : R G v z := .imm _ _ (ofConst_ri hz)
  obtain ⟨hl, hc, _⟩ := hr.cells h1
  obtain ⟨G', hI', hle, hev, _, hp⟩ := after_new hI z.cells t v.cells (by omega) hc 0
  unfold Oper.wp
  have : (execOp a.eval o).run P w = .ok (.value (.pointer (some ⟨w.heap.size, 0, none⟩))) (w.alloc (.cells z.cells t)) := by
    simp [execOp, ho, Instr.alloc, ht.zero, newVar, newRow]
  rw [this]
  exact hK _ _ G' ⟨hp, hI', hle, hev⟩

/-! ### Writing -/

/-- A block of cells is written. -/
theorem after_set {G : Ghost} {bs : List Blk} {w : World} (hI : Inv G bs w) {i c : Nat} {cs cs' : List AV} (hb : bs[i]? = some (.cells cs)) (hc : G.cl i = some c) {arr : Array Value} {e : TypeId}
    (hh : w.heap[c]? = some (.cells arr e (0, 0))) (arr' : Array Value) (hl : cs'.length ≤ arr'.size) (hr : ∀ (j : Nat) v cv, cs'[j]? = some v → arr'[j]? = some cv → R G v cv) :
    Inv G (bs.set i (.cells cs')) (w.setRow c arr') ∧ Ev G w G (w.setRow c arr') := by
  have hB := hI.blk i _ hb
  obtain ⟨_, _, _, _, _, hz⟩ := hB.2 c hc
  have hf : ∀ d, d ≠ c → (w.setRow c arr').heap[d]? = w.heap[d]? := fun d hd => setRow_other w c d _ hd
  refine ⟨⟨fun j b hj => ?_, fun j hj => hI.dom j (by simpa using hj), hI.inj, fun d o v ez => ?_⟩, ⟨rfl, rfl, rfl, by simp, .refl _, fun _ _ _ e => .inl e, fun d hd hn => hf d (fun e => hn i (e ▸ .inl hc)), fun j d hd => .inr ⟨j, hd⟩, loop_of_same fun d hd => by
      by_cases e0 : d = c
      · exact .inr fun rec h => by rw [e0, hh] at h; cases h
      · exact .inl (hf d e0)⟩⟩
  · rw [List.getElem?_set] at hj
    split at hj
    · rename_i hij
      subst hij
      split at hj
      · obtain rfl := Option.some.inj hj
        refine ⟨hB.1, fun c' hc' => ?_⟩
        rw [hc] at hc'
        obtain rfl := Option.some.inj hc'
        exact ⟨arr', e, setRow_heap w c arr _ e _ hh, hl, hr, hz⟩
      · cases hj
    · rename_i hij
      exact (hI.blk j b hj).keep (.refl _) rfl rfl (fun d hd => hf d fun e => hij (hI.inj i j c (.inl hc) (e ▸ hd))) fun _ _ _ => rfl
  · have hd : d ≠ c := fun e => by rw [e, hz o] at ez; cases ez
    rw [rd_of_frame (hf d hd)]
    exact hI.z d o v ez

/-- A variable, or a part of one, is written. -/
theorem op_store {P : Program} {o : Oper} {s : St} {t : TypeId} {p x : Operand} {size bytes : Nat} {z : Value} {d : TypeDesc} {i k : Nat} {cs cs' : List AV} {v : AV} (ht : Inf P t size bytes z d)
    (ho : o.op = .store t p x) (hp : ev s.env p = some (.ptr i k)) (hx : ev s.env x = some v) (hb : s.bs[i]? = some (.cells cs)) (hs : v.cells.length = size) (h1 : v.cells.all AV.one = true) (hk : k + size ≤ cs.length)
    (hv : cs.take k ++ v.cells ++ cs.drop (k + size) = cs') : OpT P o s (.und) (s.bs.set i (.cells cs')) := by
  subst hv
  refine OpT.of (by simp [ho]) ?_
  intro G w a hI hE K Q hK
  obtain ⟨c, hc, he⟩ := (ev_r hE hp).ptr_inv
  obtain ⟨arr, e, hh, hl, hr, _⟩ := inv_cells hI hb hc
  obtain ⟨hvl, hvr, hv1⟩ := (ev_r hE hx).cells h1
  have hrun := run_storeCells_at P c k e (a.eval x).cells.toList 0 arr w hh (by simp; omega) hv1
  simp only [Nat.add_zero] at hrun
  have hlen : (arr.toList.take k).length = k := by simp; omega
  have hlc : (cs.take k).length = k := by simp; omega
  obtain ⟨hI', hev⟩ := after_set hI hb hc hh (arr.toList.take k ++ (a.eval x).cells.toList ++ arr.toList.drop (k + (a.eval x).cells.toList.length)).toArray (cs' := cs.take k ++ v.cells ++ cs.drop (k + size)) (by simp; omega) fun j u cu e1 e2 => by
    simp only [List.getElem?_toArray] at e2
    rw [List.getElem?_append, List.getElem?_append] at e1 e2
    simp only [List.length_append, hlen, hlc, Array.length_toList, hvl] at e1 e2
    split at e1
    · rename_i hj; rw [if_pos hj] at e2
      split at e1
      · rename_i hj2; rw [if_pos hj2] at e2
        rw [List.getElem?_take, if_pos hj2] at e1 e2
        exact hr j u cu e1 (by simpa using e2)
      · rename_i hj2; rw [if_neg hj2] at e2
        exact hvr _ u cu e1 (by simpa using e2)
    · rename_i hj; rw [if_neg hj] at e2
      rw [List.getElem?_drop] at e1 e2
      rw [hs] at e1 e2
      exact hr _ u cu e1 (by simpa using e2)
  unfold Oper.wp
  have : (execOp a.eval o).run P w = .ok .skip (w.setRow c (arr.toList.take k ++ (a.eval x).cells.toList ++ arr.toList.drop (k + (a.eval x).cells.toList.length)).toArray) := by
    have hsz : (a.eval x).cells.size = size := hvl.trans hs
    simp only [execOp, ho, he, Instr.storeAt, Instr.sureAddr, storeVar, Sem.run_bind, Sem.run_pure, Result.andThen_ok, ht.size, hsz, ne_eq, not_true_eq_false, if_false, hrun]
  rw [this]
  exact hK undef _ G ⟨.und _, hI', .refl _, hev⟩

/-! ### Structs -/

def setL : List AV → Nat → List AV → List AV
  | cs, _, [] => cs
  | cs, k, y :: ys => setL (cs.set k y) (k + 1) ys

theorem setL_length : ∀ (ys cs : List AV) (k : Nat), (setL cs k ys).length = cs.length
  | [], _, _ => rfl
  | y :: ys, cs, k => by simp [setL, setL_length ys]

theorem fold_set {G : Ghost} : ∀ (ys : List AV) (vs : List Value) (k q : Nat) (cs : List AV) (arr : Array Value), vs.length = ys.length → (∀ (j : Nat) v cv, ys[j]? = some v → vs[j]? = some cv → R G v cv) →
    cs.length = arr.size → (∀ (j : Nat) v cv, cs[j]? = some v → arr[j]? = some cv → R G v cv) →
    ((vs.zipIdx q).foldl (fun (cs : Array Value) (x : Value × Nat) => cs.setIfInBounds (k + x.2) x.1) arr).size = (setL cs (k + q) ys).length ∧
    ∀ (j : Nat) v cv, (setL cs (k + q) ys)[j]? = some v → ((vs.zipIdx q).foldl (fun (cs : Array Value) (x : Value × Nat) => cs.setIfInBounds (k + x.2) x.1) arr)[j]? = some cv → R G v cv
  | [], vs, k, q, cs, arr, hl, _, hs, hr => by
    have : vs = [] := List.eq_nil_of_length_eq_zero (by simpa using hl)
    subst this
    exact ⟨by simpa [setL] using hs.symm, by simpa [setL] using hr⟩
  | y :: ys, [], _, _, _, _, hl, _, _, _ => by simp at hl
  | y :: ys, u :: vs, k, q, cs, arr, hl, hy, hs, hr => by
    simp only [List.zipIdx_cons, List.foldl_cons, setL]
    have := fold_set ys vs k (q + 1) (cs.set (k + q) y) (arr.setIfInBounds (k + q) u) (by simpa using hl) (fun j v cv e1 e2 => hy (j + 1) v cv (by simpa using e1) (by simpa using e2)) (by simpa using hs)
      (fun j v cv e1 e2 => by
        rw [List.getElem?_set] at e1
        by_cases hj : k + q = j
        · subst hj
          rw [if_pos rfl] at e1
          split at e1
          · rename_i hlt
            rw [Array.getElem?_setIfInBounds_self_of_lt (by omega)] at e2
            obtain rfl := Option.some.inj e1
            obtain rfl := Option.some.inj e2
            exact hy 0 y u (by simp) (by simp)
          · cases e1
        · rw [if_neg hj] at e1
          rw [Array.getElem?_setIfInBounds_ne hj] at e2
          exact hr j v cv e1 e2)
    rw [← Nat.add_assoc] at this
    exact this

/-- The parts of a literal, laid into the zero value. -/
def afill (place : Nat → Option (Nat × Nat)) : List AV → List (Nat × AV) → Option (List AV)
  | cs, [] => some cs
  | cs, (i, v) :: rest =>
    match place i with
    | none => none
    | some (off, size) => if v.cells.length = size ∧ off + size ≤ cs.length ∧ v.cells.all AV.one = true then afill place (setL cs off v.cells) rest else none

theorem fill_of {G : Ghost} {place : Nat → Option (Nat × Nat)} : ∀ (ps : List (Nat × AV)) (cps : List (Nat × Value)) (cs ds : List AV) (arr : Array Value), cps.length = ps.length →
    (∀ (j : Nat) p c, ps[j]? = some p → cps[j]? = some c → p.1 = c.1 ∧ R G p.2 c.2) → cs.length = arr.size → (∀ (j : Nat) v cv, cs[j]? = some v → arr[j]? = some cv → R G v cv) → afill place cs ps = some ds →
    ∃ out, Instr.fill place arr cps = some out ∧ out.size = ds.length ∧ ∀ (j : Nat) v cv, ds[j]? = some v → out[j]? = some cv → R G v cv
  | [], cps, cs, ds, arr, hl, _, hs, hr, h => by
    have : cps = [] := List.eq_nil_of_length_eq_zero (by simpa using hl)
    subst this
    obtain rfl := Option.some.inj h
    exact ⟨arr, rfl, hs.symm, hr⟩
  | (i, v) :: ps, [], _, _, _, hl, _, _, _, _ => by simp at hl
  | (i, v) :: ps, (i', u) :: cps, cs, ds, arr, hl, hp, hs, hr, h => by
    obtain ⟨rfl, hv⟩ := hp 0 (i, v) (i', u) (by simp) (by simp)
    simp only at hv
    simp only [afill] at h
    split at h
    · cases h
    · rename_i off size hpl
      split at h
      · rename_i hc
        obtain ⟨h1, h2, h3⟩ := hc
        obtain ⟨c1, c2, _⟩ := hv.cells h3
        obtain ⟨f1, f2⟩ := fold_set v.cells u.cells.toList off 0 cs arr (by simpa using c1) (fun j x c e1 e2 => c2 j x c e1 (by simpa using e2)) hs hr
        rw [Nat.add_zero] at f1 f2
        obtain ⟨out, g1, g2, g3⟩ := fill_of ps cps (setL cs off v.cells) ds _ (by simpa using hl) (fun j p c e1 e2 => hp (j + 1) p c (by simpa using e1) (by simpa using e2)) f1.symm f2 h
        refine ⟨out, ?_, g2, g3⟩
        have hsz : u.cells.size = size := c1.trans h1
        have hcond : ¬ (u.cells.size ≠ size ∨ off + u.cells.size > arr.size) := by omega
        simp only [Instr.fill, hpl]
        rw [if_neg (by simpa using hcond)]
        have hfold : u.cells.zipIdx.foldl (fun (cs : Array Value) (x : Value × Nat) => cs.setIfInBounds (off + x.2) x.1) arr = (u.cells.toList.zipIdx 0).foldl (fun (cs : Array Value) (x : Value × Nat) => cs.setIfInBounds (off + x.2) x.1) arr := by
          rw [← Array.foldl_toList]; simp
        have hg := g1
        rw [← hfold] at hg
        exact hg
      · cases h

def evp (env : Env) : List (Nat × Operand) → Option (List (Nat × AV))
  | [] => some []
  | (i, x) :: r => match ev env x, evp env r with
    | some v, some vs => some ((i, v) :: vs)
    | _, _ => none

theorem evp_r {G : Ghost} {env : Env} {a : Act} (h : EnvR G env a.tmps) : ∀ {ps : List (Nat × Operand)} {aps : List (Nat × AV)}, evp env ps = some aps →
    (ps.map fun p => (p.1, a.eval p.2)).length = aps.length ∧ ∀ (j : Nat) p c, aps[j]? = some p → (ps.map fun p => (p.1, a.eval p.2))[j]? = some c → p.1 = c.1 ∧ R G p.2 c.2
  | [], aps, e => by obtain rfl := Option.some.inj e; simp
  | (i, x) :: r, aps, e => by
    simp only [evp] at e
    split at e
    · rename_i v vs h1 h2
      obtain rfl := Option.some.inj e
      obtain ⟨hl, hr⟩ := evp_r h h2
      refine ⟨by simpa using hl, fun j p c e1 e2 => ?_⟩
      cases j with
      | zero => simp at e1 e2; subst e1 e2; exact ⟨rfl, ev_r h h1⟩
      | succ j => exact hr j p c (by simpa using e1) (by simpa using e2)
    · cases e

/-- The places of a struct's fields. -/
def Places (P : Program) (fs : Array Field) (pl : List (Nat × Nat)) : Prop :=
  ∀ w : World, (fs.mapM (fun (f : Field) => (do pure (f.offset, ← Go.sizeOf f.type) : Sem (Nat × Nat)))).run P w = .ok pl.toArray w

theorem op_build {P : Program} {o : Oper} {s : St} {t : TypeId} {ps : List (Nat × Operand)} {aps : List (Nat × AV)} {fs : Array Field} {pl : List (Nat × Nat)} {size bytes : Nat} {z : Value} {zs cs : List AV}
    (ht : Inf P t size bytes z (.struct fs)) (hpl : Places P fs pl) (hz : ofConst z = some (.agg zs)) (ho : o.op = .build t ps.toArray) (hp : evp s.env ps = some aps)
    (hf : afill (fun (i : Nat) => pl[i]?) zs aps = some cs) : OpT P o s (.agg cs) s.bs :=
  op_pure fun G w a hI hE => by
    obtain ⟨hl, hr⟩ := evp_r hE hp
    obtain ⟨vs, rfl, hzl, hzr⟩ := (R.imm (G := G) _ _ (ofConst_ri hz)).agg_inv
    obtain ⟨out, h1, h2, h3⟩ := fill_of aps (ps.map fun p => (p.1, a.eval p.2)) zs cs vs hl hr hzl.symm hzr hf
    refine ⟨.agg out, ?_, .agg cs out h2 h3⟩
    have hplace : (fun (i : Nat) => (pl.toArray)[i]?) = fun (i : Nat) => pl[i]? := by funext i; simp
    have := hpl w
    simp only [execOp, ho, Instr.build, Sem.run_bind, ht.zero, Result.andThen_ok, ht.under, this, Value.cells, hplace, List.map_toArray, h1, Sem.run_pure]

end
end Go.Proofs.YtelgmdljcbkniaaGreatDoor.Ai

/- An interpreter of values for the model's code, base text 7: the rules in the form in which a program writes their use. -/
namespace Go.Proofs.YtelgmdljcbkniaaGreatDoor.Ai
noncomputable section
open Go

theorem imms_append {bs : List Blk} : ∀ {vs ws xs ys : List AV}, imms bs vs = some xs → imms bs ws = some ys → imms bs (vs ++ ws) = some (xs ++ ys)
  | [], ws, xs, ys, h1, h2 => by simp only [imms, Option.some.injEq] at h1; subst h1; exact h2
  | v :: r, ws, xs, ys, h1, h2 => by
    simp only [imms] at h1
    split at h1
    · rename_i x xs' e1 e2
      obtain rfl := Option.some.inj h1
      simp only [List.cons_append, imms, e1, imms_append e2 h2]
    · cases h1

/-- A call of a function that came in as a parameter. -/
theorem op_callp {P : Program} {o : Oper} {s : St} {x : Operand} {xs : List Operand} {ts : Array TypeId} {f : FuncId} {cap vs avs : List AV} {S : List AV → AV → Prop} {v : AV}
    (ho : o.op = .call { callee := .value x, args := xs.toArray, argTypes := ts }) (hx : ev s.env x = some (.fn f cap)) (hv : evs s.env xs = some vs)
    (hC : ∀ bs, imms bs cap = some cap) (hen : Enters P f) (hS : VOk P f S) (h : S (avs ++ cap) v) (hi : imms s.bs vs = some avs := by rfl) : OpT P o s v s.bs :=
  op_call ho hx hv (imms_append hi (hC _)) hen hS h

/-- The operations that are left of a region lead to a point where Post holds. -/
def RE (P : Program) (n : Nat) (ops : Array Oper) (l : List Oper) (s : St) (Post : St → Prop) : Prop := ∃ s', Run P n ops l s s' ∧ Post s'

theorem RE.nil {P : Program} {n : Nat} {ops : Array Oper} {s : St} {Post : St → Prop} (h : Post s) : RE P n ops [] s Post := ⟨s, .nil s, h⟩

theorem RE.op {P : Program} {n : Nat} {ops : Array Oper} {o : Oper} {rest : List Oper} {env : Env} {bs bs' : List Blk} {d : Nat} {v : AV} {Post : St → Prop}
    (h : OpT P o ⟨env, bs⟩ v bs') (hg : o.guard = none) (hd : o.dst = some d) (hn : Nat.blt d n = true) (k : RE P n ops rest ⟨(d, v) :: env, bs'⟩ Post) : RE P n ops (o :: rest) ⟨env, bs⟩ Post := by
  obtain ⟨s', hr, hp⟩ := k
  refine ⟨s', .op o rest ⟨env, bs⟩ v bs' s' (by rw [hg]; trivial) (fun d' e => ?_) h ?_, hp⟩
  · rw [hd] at e; obtain rfl := Option.some.inj e; simpa [Nat.blt_eq] using hn
  · rw [hd]; exact hr

theorem RE.op0 {P : Program} {n : Nat} {ops : Array Oper} {o : Oper} {rest : List Oper} {env : Env} {bs bs' : List Blk} {v : AV} {Post : St → Prop}
    (h : OpT P o ⟨env, bs⟩ v bs') (hg : o.guard = none) (hd : o.dst = none) (k : RE P n ops rest ⟨env, bs'⟩ Post) : RE P n ops (o :: rest) ⟨env, bs⟩ Post := by
  obtain ⟨s', hr, hp⟩ := k
  refine ⟨s', .op o rest ⟨env, bs⟩ v bs' s' (by rw [hg]; trivial) (fun d' e => by rw [hd] at e; cases e) h ?_, hp⟩
  rw [hd]; exact hr

theorem RE.opg {P : Program} {n : Nat} {ops : Array Oper} {o : Oper} {rest : List Oper} {env : Env} {bs bs' : List Blk} {d j g : Nat} {want : Bool} {v : AV} {Post : St → Prop}
    (h : OpT P o ⟨env, bs⟩ v bs') (hg : o.guard = some (j, want)) (hj : ((ops[j]?).bind (·.dst)) = some g) (he : env.get g = some (.bool want)) (hd : o.dst = some d) (hn : Nat.blt d n = true)
    (k : RE P n ops rest ⟨(d, v) :: env, bs'⟩ Post) : RE P n ops (o :: rest) ⟨env, bs⟩ Post := by
  obtain ⟨s', hr, hp⟩ := k
  refine ⟨s', .op o rest ⟨env, bs⟩ v bs' s' (by rw [hg]; exact ⟨g, hj, he⟩) (fun d' e => ?_) h ?_, hp⟩
  · rw [hd] at e; obtain rfl := Option.some.inj e; simpa [Nat.blt_eq] using hn
  · rw [hd]; exact hr

theorem RE.skip {P : Program} {n : Nat} {ops : Array Oper} {o : Oper} {rest : List Oper} {env : Env} {bs : List Blk} {d j g : Nat} {want b : Bool} {Post : St → Prop}
    (hg : o.guard = some (j, want)) (hj : ((ops[j]?).bind (·.dst)) = some g) (he : env.get g = some (.bool b)) (hb : b = !want) (hd : o.dst = some d) (hn : Nat.blt d n = true)
    (k : RE P n ops rest ⟨(d, .tup []) :: env, bs⟩ Post) : RE P n ops (o :: rest) ⟨env, bs⟩ Post := by
  subst hb
  obtain ⟨s', hr, hp⟩ := k
  refine ⟨s', .skip o rest ⟨env, bs⟩ s' (by rw [hg]; exact ⟨g, hj, .inl he⟩) (fun d' e => ?_) ?_, hp⟩
  · rw [hd] at e; obtain rfl := Option.some.inj e; simpa [Nat.blt_eq] using hn
  · simp only [St.put, hd]; exact hr

theorem RE.skip0 {P : Program} {n : Nat} {ops : Array Oper} {o : Oper} {rest : List Oper} {env : Env} {bs : List Blk} {j g : Nat} {want b : Bool} {Post : St → Prop}
    (hg : o.guard = some (j, want)) (hj : ((ops[j]?).bind (·.dst)) = some g) (he : env.get g = some (.bool b)) (hb : b = !want) (hd : o.dst = none)
    (k : RE P n ops rest ⟨env, bs⟩ Post) : RE P n ops (o :: rest) ⟨env, bs⟩ Post := by
  subst hb
  obtain ⟨s', hr, hp⟩ := k
  refine ⟨s', .skip o rest ⟨env, bs⟩ s' (by rw [hg]; exact ⟨g, hj, .inl he⟩) (fun d' e => by rw [hd] at e; cases e) ?_, hp⟩
  simp only [St.put, hd]; exact hr

theorem RE.skipu {P : Program} {n : Nat} {ops : Array Oper} {o : Oper} {rest : List Oper} {env : Env} {bs : List Blk} {d j g : Nat} {want : Bool} {Post : St → Prop}
    (hg : o.guard = some (j, want)) (hj : ((ops[j]?).bind (·.dst)) = some g) (he : env.get g = some (.tup [])) (hd : o.dst = some d) (hn : Nat.blt d n = true)
    (k : RE P n ops rest ⟨(d, .tup []) :: env, bs⟩ Post) : RE P n ops (o :: rest) ⟨env, bs⟩ Post := by
  obtain ⟨s', hr, hp⟩ := k
  refine ⟨s', .skip o rest ⟨env, bs⟩ s' (by rw [hg]; exact ⟨g, hj, .inr he⟩) (fun d' e => ?_) ?_, hp⟩
  · rw [hd] at e; obtain rfl := Option.some.inj e; simpa [Nat.blt_eq] using hn
  · simp only [St.put, hd]; exact hr

theorem T_reg {P : Program} {n m id : Nat} {ops : List Oper} {s : St} {Q : Exit → St → Prop} (h : RE P n ops.toArray ops s (fun s' => ∃ s2, Weak n m s' s2 ∧ Q .normal s2)) :
    T P n m (.region id ops.toArray false) s Q := by
  obtain ⟨s', hr, s2, hw, hq⟩ := h
  intro X r a w H
  exact wpIn_mono (T_region (Q := fun e s3 => e = .normal ∧ s3 = s') hr ⟨rfl, rfl⟩ X r a w H) fun e a' w' ⟨s3, ⟨he, hs⟩, H'⟩ => by subst he hs; exact ⟨s2, hq, hw _ _ _ _ H'⟩

theorem T_out {P : Program} {n m : Nat} {c : Code} {s : St} {Q : Exit → St → Prop} (e0 : Exit) (s0 : St) (h : T P n m c s (fun e s' => e = e0 ∧ Weak n m s' s0)) (k : Q e0 s0) : T P n m c s Q := by
  intro X r a w H
  exact wpIn_mono (h X r a w H) fun e a' w' ⟨s3, ⟨he, hs⟩, H'⟩ => by subst he; exact ⟨s0, k, hs _ _ _ _ H'⟩

theorem T_reg_out {P : Program} {n m id : Nat} {ops : List Oper} {s : St} {Q : Exit → St → Prop} (s0 : St) (h : RE P n ops.toArray ops s (fun s' => Weak n m s' s0)) (k : Q .normal s0) :
    T P n m (.region id ops.toArray false) s Q :=
  T_reg (let ⟨s', hr, hw⟩ := h; ⟨s', hr, s0, hw, k⟩)

theorem getb {env : Env} {g : Nat} {b c : Bool} (h : b = c) (e : env.get g = some (.bool b)) : env.get g = some (.bool c) := by rw [e, h]
theorem evb {env : Env} {x : Operand} {b c : Bool} (h : b = c) (e : ev env x = some (.bool b)) : ev env x = some (.bool c) := by rw [e, h]
theorem not_t {b : Bool} (h : b = false) : (!b) = true := by rw [h]; rfl
theorem not_f {b : Bool} (h : b = true) : (!b) = false := by rw [h]; rfl

theorem T_yes {P : Program} {n m : Nat} {c : Operand} {x y : Code} {s : St} {Q : Exit → St → Prop} {b : Bool} (hc : ev s.env c = some (.bool b)) (hb : b = true) (h : T P n m x s Q) : T P n m (.cond c x y) s Q :=
  T_cond hc (fun _ => h) (fun e => by rw [hb] at e; cases e)
theorem T_no {P : Program} {n m : Nat} {c : Operand} {x y : Code} {s : St} {Q : Exit → St → Prop} {b : Bool} (hc : ev s.env c = some (.bool b)) (hb : b = false) (h : T P n m y s Q) : T P n m (.cond c x y) s Q :=
  T_cond hc (fun e => by rw [hb] at e; cases e) (fun _ => h)

/-- An element of a list, where there is one. -/
def idx {α : Type} (l : List α) (i : Int) : Option α := if 0 ≤ i then l[i.toNat]? else none

theorem idx_pos {α : Type} {l : List α} {i : Int} {x : α} (h : idx l i = some x) : 0 ≤ i := by
  unfold idx at h; split at h
  · assumption
  · cases h
theorem idx_get {α : Type} {l : List α} {i : Int} {x : α} (h : idx l i = some x) : l[i.toNat]? = some x := by
  unfold idx at h; split at h
  · exact h
  · cases h
theorem idx_map {α : Type} {l : List α} {i : Int} {x : α} (h : idx l i = some x) (f : α → AV) : (l.map f)[i.toNat]? = some (f x) := by
  rw [List.getElem?_map, idx_get h]; rfl

def Sel (env : Env) : Env → Prop
  | [] => True
  | (t, v) :: r => env.get t = some v ∧ Sel env r

theorem sel_get {env : Env} : ∀ {env' : Env}, Sel env env' → ∀ (t : Nat) (v : AV), env'.get t = some v → env.get t = some v
  | [], _, t, v, e => by simp [Env.get] at e
  | (t', v') :: r, h, t, v, e => by
    simp only [Env.get_cons] at e
    split at e
    · rename_i ht; subst ht; obtain rfl := Option.some.inj e; exact h.1
    · exact sel_get h.2 t v e

theorem weak_sel {n m : Nat} {env env' : Env} {bs bs' : List Blk} (h : Sel env env') (hb : bs = bs') : Weak n m ⟨env, bs⟩ ⟨env', bs'⟩ := by
  subst hb
  exact Weak.env (sel_get h)

mutual
/-- No block from number k on is in the value. -/
def below (k : Nat) : AV → Bool
  | .ptr i _ | .rptr i _ _ _ | .slc i _ _ _ _ | .gsl i _ | .map i | .yld i | .optr i _ _ _ _ | .oslc i _ _ _ _ _ => Nat.blt i k
  | .agg cs | .tup cs | .fn _ cs => belows k cs
  | _ => true
def belows (k : Nat) : List AV → Bool
  | [] => true
  | v :: r => match below k v with
    | true => belows k r
    | false => false
end
def belowE (k : Nat) : Env → Bool
  | [] => true
  | (_, v) :: r => match below k v with
    | true => belowE k r
    | false => false
def belowM (k : Nat) : List (AV × AV) → Bool
  | [] => true
  | (_, v) :: r => match below k v with
    | true => belowM k r
    | false => false
def belowB (k : Nat) : List Blk → Bool
  | [] => true
  | .cells cs :: r => match belows k cs with
    | true => belowB k r
    | false => false
  | .rows _ xs :: r => match belows k xs with
    | true => belowB k r
    | false => false
  | .grow _ _ _ :: r => belowB k r
  | .gone :: r => belowB k r
  | .own _ _ xs :: r => match belows k xs with
    | true => belowB k r
    | false => false
  | .lp _ env _ _ _ _ _ :: r => match belowE k env with
    | true => belowB k r
    | false => false
  | .map es :: r => match belowM k es with
    | true => belowB k r
    | false => false

theorem belows_get {k : Nat} : ∀ {cs : List AV}, belows k cs = true → ∀ (j : Nat) v, cs[j]? = some v → below k v = true
  | [], _, j, v, e => by simp at e
  | u :: r, h, j, v, e => by
    simp only [belows] at h
    split at h
    · rename_i hu
      cases j with
      | zero => simp at e; subst e; exact hu
      | succ j => exact belows_get h j v (by simpa using e)
    · cases h

theorem belows_app {k : Nat} : ∀ {cs ds : List AV}, belows k cs = true → belows k ds = true → belows k (cs ++ ds) = true
  | [], _, _, h => h
  | u :: r, ds, h, h' => by
    simp only [List.cons_append, belows] at h ⊢
    split at h
    · rename_i e; exact belows_app h h'
    · cases h

theorem below_cells {k : Nat} {x : AV} (h : below k x = true) : belows k x.cells = true := by
  cases x with
  | agg cs => simpa [below, AV.cells] using h
  | _ => simp only [AV.cells, belows, h]

theorem belows_flat {k : Nat} : ∀ {xs : List AV}, belows k xs = true → belows k (flat xs) = true
  | [], _ => rfl
  | u :: r, h => by
    simp only [belows] at h
    split at h
    · rename_i e
      exact belows_app (below_cells e) (belows_flat h)
    · cases h

theorem belowE_get {k : Nat} : ∀ {env : Env}, belowE k env = true → ∀ (t : Nat) v, env.get t = some v → below k v = true
  | [], _, t, v, e => by simp [Env.get] at e
  | (d, u) :: r, h, t, v, e => by
    simp only [belowE] at h
    split at h
    · rename_i hu
      simp only [Env.get_cons] at e
      split at e
      · obtain rfl := Option.some.inj e; exact hu
      · exact belowE_get h t v e
    · cases h

theorem belowM_get {k : Nat} : ∀ {es : List (AV × AV)}, belowM k es = true → ∀ (j : Nat) e, es[j]? = some e → below k e.2 = true
  | [], _, j, e, h => by simp at h
  | (a, u) :: r, h, j, e, he => by
    simp only [belowM] at h
    split at h
    · rename_i hu
      cases j with
      | zero => simp at he; subst he; exact hu
      | succ j => exact belowM_get h j e (by simpa using he)
    · cases h

theorem belowB_get {k : Nat} : ∀ {bs : List Blk}, belowB k bs = true → ∀ (j : Nat) b, bs[j]? = some b → belowB k [b] = true
  | [], _, j, b, e => by simp at e
  | c :: r, h, j, b, e => by
    have hc : belowB k [c] = true ∧ belowB k r = true := by
      cases c with
      | cells cs =>
        simp only [belowB] at h ⊢
        split at h
        · exact ⟨rfl, h⟩
        · cases h
      | rows sz xs =>
        simp only [belowB] at h ⊢
        split at h
        · exact ⟨rfl, h⟩
        · cases h
      | grow => exact ⟨rfl, h⟩
      | gone => exact ⟨rfl, h⟩
      | own e sz xs =>
        simp only [belowB] at h ⊢
        split at h
        · exact ⟨rfl, h⟩
        · cases h
      | lp n env ps as cd st pe =>
        simp only [belowB] at h ⊢
        split at h
        · exact ⟨rfl, h⟩
        · cases h
      | map es =>
        simp only [belowB] at h ⊢
        split at h
        · exact ⟨rfl, h⟩
        · cases h
    cases j with
    | zero => simp at e; subst e; exact hc.1
    | succ j => exact belowB_get hc.2 j b (by simpa using e)

def Ghost.cut (G : Ghost) (k : Nat) : Ghost := ⟨fun i => if i < k then G.cl i else none, fun i => if i < k then G.gr i else none, G.Z, G.ok⟩

theorem r_cut {G : Ghost} {k : Nat} {v : AV} {cv : Value} (h : R G v cv) : below k v = true → R (G.cut k) v cv := by
  induction h with
  | imm v cv h => exact fun _ => .imm v cv h
  | und cv => exact fun _ => .und cv
  | ptr i o c h => intro hb; have : i < k := by simpa [below, Nat.blt_eq] using hb
                   exact .ptr i o c (by simp [Ghost.cut, this, h])
  | rptr i j sz o c h => intro hb; have : i < k := by simpa [below, Nat.blt_eq] using hb
                         exact .rptr i j sz o c (by simp [Ghost.cut, this, h])
  | slc i o sz len cap c ccap h hl hc => intro hb; have : i < k := by simpa [below, Nat.blt_eq] using hb
                                         exact .slc i o sz len cap c ccap (by simp [Ghost.cut, this, h]) hl hc
  | gsl i len b l c h => intro hb; have : i < k := by simpa [below, Nat.blt_eq] using hb
                         exact .gsl i len b l c (by simp [Ghost.cut, this, h])
  | stale i len g b l c h hn => intro hb; have : i < k := by simpa [below, Nat.blt_eq] using hb
                                exact .stale i len g b l c (by simp [Ghost.cut, this, h]) hn
  | map i c h => intro hb; have : i < k := by simpa [below, Nat.blt_eq] using hb
                 exact .map i c (by simp [Ghost.cut, this, h])
  | yld i c h => intro hb; have : i < k := by simpa [below, Nat.blt_eq] using hb
                 exact .yld i c (by simp [Ghost.cut, this, h])
  | optr i n j sz o c l cap h => intro hb; have : i < k := by simpa [below, Nat.blt_eq] using hb
                                 exact .optr i n j sz o c l cap (by simp [Ghost.cut, this, h])
  | optrS i n j sz o g b h hn => intro hb; have : i < k := by simpa [below, Nat.blt_eq] using hb
                                 exact .optrS i n j sz o g b (by simp [Ghost.cut, this, h]) hn
  | oslc i n o sz len cap c l lcap ccap h hl hc => intro hb; have : i < k := by simpa [below, Nat.blt_eq] using hb
                                                   exact .oslc i n o sz len cap c l lcap ccap (by simp [Ghost.cut, this, h]) hl hc
  | oslcS i n o sz len cap g b l c h hn => intro hb; have : i < k := by simpa [below, Nat.blt_eq] using hb
                                           exact .oslcS i n o sz len cap g b l c (by simp [Ghost.cut, this, h]) hn
  | agg cs vs hl _ ih => exact fun hb => .agg cs vs hl fun j v cv e1 e2 => ih j v cv e1 e2 (belows_get (by simpa [below] using hb) j v e1)
  | tup cs vs hl _ ih => exact fun hb => .tup cs vs hl fun j v cv e1 e2 => ih j v cv e1 e2 (belows_get (by simpa [below] using hb) j v e1)
  | fn f cs vs hl _ ih => exact fun hb => .fn f cs vs hl fun j v cv e1 e2 => ih j v cv e1 e2 (belows_get (by simpa [below] using hb) j v e1)

theorem cut_cl {G : Ghost} {k i c : Nat} (h : (G.cut k).cl i = some c) : i < k ∧ G.cl i = some c := by
  simp only [Ghost.cut] at h; split at h
  · exact ⟨by assumption, h⟩
  · cases h
theorem cut_gr {G : Ghost} {k i : Nat} {g : Gr} (h : (G.cut k).gr i = some g) : i < k ∧ G.gr i = some g := by
  simp only [Ghost.cut] at h; split at h
  · exact ⟨by assumption, h⟩
  · cases h
theorem cut_owns {G : Ghost} {k i c : Nat} (h : (G.cut k).owns i c) : G.owns i c := by
  rcases h with h | ⟨g, h, e⟩
  · exact .inl (cut_cl h).2
  · exact .inr ⟨g, (cut_gr h).2, e⟩

theorem Inv.cut {G : Ghost} {bs : List Blk} {w : World} (h : Inv G bs w) {k : Nat} (hB : belowB k (bs.take k) = true) : Inv (G.cut k) (bs.take k) w where
  blk i b hb := by
    rw [List.getElem?_take] at hb
    split at hb
    · rename_i hi
      have hB' := belowB_get hB i b (by rw [List.getElem?_take, if_pos hi]; exact hb)
      have hO := h.blk i b hb
      have key : ∀ cs, belows k cs = true → CellsOk G w i cs → CellsOk (G.cut k) w i cs := fun cs hb2 hO => by
        refine ⟨by simp [Ghost.cut, hO.1], fun c hc => ?_⟩
        obtain ⟨arr, e, h1, h2, h3, h4⟩ := hO.2 c (cut_cl hc).2
        exact ⟨arr, e, h1, h2, fun j v cv e1 e2 => r_cut (h3 j v cv e1 e2) (belows_get hb2 j v e1), h4⟩
      cases b with
      | rows sz xs =>
        have hb2 : belows k xs = true := by
          simp only [belowB] at hB'
          cases hx : belows k xs with
          | true => rfl
          | false => rw [hx] at hB'; cases hB'
        exact ⟨key _ (belows_flat hb2) hO.1, hO.2⟩
      | cells cs =>
        have hb2 : belows k cs = true := by
          simp only [belowB] at hB'
          cases hx : belows k cs with
          | true => rfl
          | false => rw [hx] at hB'; cases hB'
        exact key cs hb2 hO
      | grow e sz xs => exact ⟨by simp [Ghost.cut, hO.1], fun g hg => hO.2 g (cut_gr hg).2⟩
      | own e sz xs =>
        have hb2 : belows k xs = true := by
          simp only [belowB] at hB'
          cases hx : belows k xs with
          | true => rfl
          | false => rw [hx] at hB'; cases hB'
        refine ⟨by simp [Ghost.cut, hO.1], fun g hg => ?_⟩
        obtain ⟨h1, h2, h3, cs, h4, h5, h6⟩ := hO.2 g (cut_gr hg).2
        exact ⟨h1, h2, h3, cs, h4, fun j x q v cv e1 e2 e3 => r_cut (h5 j x q v cv e1 e2 e3) (belows_get (below_cells (belows_get hb2 j x e1)) q v e2), h6⟩
      | lp n env ps as cd st pe =>
        have hb2 : belowE k env = true := by
          simp only [belowB] at hB'
          cases hx : belowE k env with
          | true => rfl
          | false => rw [hx] at hB'; cases hB'
        refine ⟨by simp [Ghost.cut, hO.1], fun c hc => ?_⟩
        obtain ⟨rec, h1, h2, h3, h4, h5, h6, h7, h8, h9⟩ := hO.2 c (cut_cl hc).2
        exact ⟨rec, h1, h2, h3, h4, h5, h6, h7, fun t v e => let ⟨cv, e1, r⟩ := h8 t v e; ⟨cv, e1, r_cut r (belowE_get hb2 t v e)⟩, h9⟩
      | gone => exact ⟨by simp [Ghost.cut, hO.1], by simp [Ghost.cut, hO.2]⟩
      | map es =>
        refine ⟨by simp [Ghost.cut, hO.1], fun c hc => ?_⟩
        obtain ⟨ents, clock, h1, h2, h3, h4⟩ := hO.2 c (cut_cl hc).2
        have hb2 : belowM k es = true := by
          simp only [belowB] at hB'
          cases hx : belowM k es with
          | true => rfl
          | false => rw [hx] at hB'; cases hB'
        exact ⟨ents, clock, h1, h2, fun j e ce e1 e2 => ⟨(h3 j e ce e1 e2).1, r_cut (h3 j e ce e1 e2).2 (belowM_get hb2 j e e1)⟩, h4⟩
    · cases hb
  dom i hi := by
    by_cases hk : i < k
    · have : bs.length ≤ i := by simp at hi; omega
      simp [Ghost.cut, hk, h.dom i this]
    · simp [Ghost.cut, hk]
  inj i j c h1 h2 := h.inj i j c (cut_owns h1) (cut_owns h2)
  z := h.z

/-- Fewer slots, and the store's newest blocks forgotten. -/
theorem Ev.cut (G : Ghost) (w : World) (k : Nat) : Ev G w (G.cut k) w :=
  ⟨rfl, rfl, rfl, Nat.le_refl _, .refl _, fun _ _ _ h => .inl h, fun _ _ _ => rfl, fun i _ h => .inr ⟨i, cut_owns h⟩, fun _ rec h => ⟨rec, h⟩⟩

theorem weak_cut {n m : Nat} {env env' : Env} {bs bs' : List Blk} (k : Nat) (h : Sel env env') (hb : bs.take k = bs') (hm : Nat.ble m k = true) (hE : belowE k env' = true) (hB : belowB k bs' = true) :
    Weak n m ⟨env, bs⟩ ⟨env', bs'⟩ := by
  subst hb
  intro X r a w H
  obtain ⟨G, hEn, hI, hx, ha⟩ := H.st
  have hmk : m ≤ k := Nat.le_of_ble_eq_true hm
  refine ⟨⟨G.cut k, fun t v e => ?_, hI.cut hB, X.go G w _ w hx (Ev.cut G w k) (fun i hi c e => ?_) (fun i hi g e => ⟨g, ?_, .inl rfl⟩), ha.ev (Ev.cut G w k)⟩, H.sz⟩
  · obtain ⟨cv, e1, r⟩ := hEn t v (sel_get h t v e)
    exact ⟨cv, e1, r_cut r (belowE_get hE t v e)⟩
  · simp [Ghost.cut, show i < k by omega, e]
  · simp [Ghost.cut, show i < k by omega, e]

theorem then_normal {next : St → Prop} {Q : Exit → St → Prop} {s : St} (h : next s) : thenT next Q .normal s := h
theorem then_exit {next : St → Prop} {Q : Exit → St → Prop} {s : St} {i : Nat} (h : Q (.exit i) s) : thenT next Q (.exit i) s := h
theorem then_ret {next : St → Prop} {Q : Exit → St → Prop} {s : St} (h : Q .ret s) : thenT next Q .ret s := h
theorem block_normal {i : Nat} {Q : Exit → St → Prop} {s : St} (h : Q .normal s) : inBlockT i Q .normal s := h
theorem block_ret {i : Nat} {Q : Exit → St → Prop} {s : St} (h : Q .ret s) : inBlockT i Q .ret s := h
theorem block_eq {i : Nat} {Q : Exit → St → Prop} {s : St} (h : Q .normal s) : inBlockT i Q (.exit i) s := by simp only [inBlockT, Nat.beq_refl]; exact h
theorem block_ne {i j : Nat} {Q : Exit → St → Prop} {s : St} (hn : Nat.beq j i = false) (h : Q (.exit j) s) : inBlockT i Q (.exit j) s := by simp only [inBlockT, hn]; exact h

/-- At the head of a loop with the body c. -/
def LoopAt (P : Program) (n m : Nat) (c : Code) (s : St) (Q : Exit → St → Prop) : Prop :=
  ∀ (X : Prot m) r a w, Holds n X r s a w → ∀ (b : Frame) (k : List Item) (cs : List Frame), b.roundOf = (Wd r).round → (Wd r).fn b.fn → (Wd r).room (cs.length + 1 + 0) →
    ∃ e a' w', (∃ s', Q e s' ∧ Holds n X r s' a' w') ∧ ArrivesIn (Machine.fenced P (Wd r)) P (lone (b.atR a (.code c :: .inLoop c :: k)) cs w) b k cs e a' w'

theorem loop_round {P : Program} {n m : Nat} {c : Code} {s : St} {Q : Exit → St → Prop} (h : T P n m c s (thenT (fun s' => LoopAt P n m c s' Q) Q)) : LoopAt P n m c s Q := by
  intro X r a w H b k cs hro hb hr
  obtain ⟨e, a1, w1, ⟨s', q, H'⟩, harr⟩ := h X r a w H b (.inLoop c :: k) cs hro hb hr
  cases e with
  | normal =>
    obtain ⟨e2, a2, w2, hq2, harr2⟩ := q X r a1 w1 H' b k cs hro hb hr
    exact ⟨e2, a2, w2, hq2, .of_steps (StepsIn.trans harr (.one (fenced_calm hb hr rfl) stepR_inLoop)) harr2⟩
  | exit id => exact ⟨_, a1, w1, ⟨s', q, H'⟩, .pass (x := .inLoop c) rfl (fun _ _ => .inl (by simp)) harr⟩
  | goto l => exact ⟨_, a1, w1, ⟨s', q, H'⟩, .pass (x := .inLoop c) rfl (fun _ _ => .inl (by simp)) harr⟩
  | ret => exact ⟨_, a1, w1, ⟨s', q, H'⟩, .pass (x := .inLoop c) rfl (fun _ _ => .inl (by simp)) harr⟩
  | panic ch => exact ⟨_, a1, w1, ⟨s', q, H'⟩, .pass (x := .inLoop c) rfl (fun _ _ => .inl (by simp)) harr⟩
  | outgrown => exact ⟨_, a1, w1, ⟨s', q, H'⟩, .pass (x := .inLoop c) rfl (fun _ _ => .inl (by simp)) harr⟩

theorem LoopAt.weak {P : Program} {n m : Nat} {c : Code} {s s' : St} {Q : Exit → St → Prop} (hw : Weak n m s s') (h : LoopAt P n m c s' Q) : LoopAt P n m c s Q :=
  fun X r a w H => h X r a w (hw _ _ _ _ H)

theorem T_head {P : Program} {n m : Nat} {c : Code} {s : St} {Q : Exit → St → Prop} (h : LoopAt P n m c s Q) : T P n m (.loop c) s Q := by
  intro X r a w H b k cs hro hb hr
  obtain ⟨e, a', w', hq, harr⟩ := h X r a w H b k cs hro hb hr
  exact ⟨e, a', w', hq, .of_steps (.one (fenced_calm hb hr rfl) stepR_loop) harr⟩

/-- A loop of which a plain function, by rounds, tells where it ends. -/
theorem T_fix {P : Program} {n m : Nat} {c : Code} {X O : Type} (L : Nat → X → Option O) (inv : X → St) (eo : O → Exit) (so : O → St) (h0 : ∀ x, L 0 x = none)
    (hs : ∀ k, (∀ x o, L k x = some o → LoopAt P n m c (inv x) (fun e s' => e = eo o ∧ Weak n m s' (so o))) →
      ∀ x o, L (k + 1) x = some o → T P n m c (inv x) (thenT (fun s' => LoopAt P n m c s' (fun e s' => e = eo o ∧ Weak n m s' (so o))) (fun e s' => e = eo o ∧ Weak n m s' (so o)))) :
    ∀ k x o, L k x = some o → LoopAt P n m c (inv x) (fun e s' => e = eo o ∧ Weak n m s' (so o)) := by
  intro k
  induction k with
  | zero => intro x o h; rw [h0] at h; cases h
  | succ k ih => exact fun x o h => loop_round (hs k ih x o h)

/-- A loop, and what stands behind it. -/
theorem T_loop_out {P : Program} {n m : Nat} {c : Code} {s : St} {Q : Exit → St → Prop} (s1 : St) (e0 : Exit) (s0 : St) (hw : Weak n m s s1)
    (h : LoopAt P n m c s1 (fun e s' => e = e0 ∧ Weak n m s' s0)) (k : Q e0 s0) : T P n m (.loop c) s Q :=
  T_out e0 s0 (T_head (h.weak hw)) k

/-! ### scopes -/

theorem stepR_scope {P : Program} {b : Frame} {a : Act} {k : List Item} {cs : List Frame} {w : World} {c : Code} :
    step P (lone (b.atR a (.code (.scope c) :: k)) cs w) = .next (lone (b.atR a (.code c :: .inScope c :: k)) cs w) :=
  step_lone_go (by simp [stepG, stepG.exec, Frame.atR])
theorem stepR_inScope {P : Program} {b : Frame} {a : Act} {k : List Item} {cs : List Frame} {w : World} {c : Code} :
    step P (lone (b.atR a (.inScope c :: k)) cs w) = .next (lone (b.atR a k) cs w) :=
  step_lone_go (by simp [stepG, stepG.exec, Frame.atR])

theorem T_scope {P : Program} {n m : Nat} {c : Code} {s : St} {Q : Exit → St → Prop} (h : T P n m c s Q) (hg : ∀ l s, ¬ Q (.goto l) s) : T P n m (.scope c) s Q := by
  intro X r a w H b k cs hro hb hr
  obtain ⟨e, a1, w1, ⟨s', q, H'⟩, harr⟩ := h X r a w H b (.inScope c :: k) cs hro hb hr
  have h0 : StepsIn (Machine.fenced P (Wd r)) P (lone (b.atR a (.code (.scope c) :: k)) cs w) (lone (b.atR a (.code c :: .inScope c :: k)) cs w) := .one (fenced_calm hb hr rfl) stepR_scope
  cases e with
  | normal => exact ⟨.normal, a1, w1, ⟨s', q, H'⟩, StepsIn.trans h0 (StepsIn.trans harr (.one (fenced_calm hb hr rfl) stepR_inScope))⟩
  | exit id =>
    have hx : exitTo id (.inScope c :: k) = exitTo id k := by simp [exitTo]
    exact ⟨_, a1, w1, ⟨s', q, H'⟩, .of_steps h0 ⟨fun k' hk => harr.1 k' (by rw [hx]; exact hk), fun hr hk => harr.2 hr (by rw [hx]; exact hk)⟩⟩
  | goto l => exact absurd q (hg _ _)
  | ret => exact ⟨_, a1, w1, ⟨s', q, H'⟩, .of_steps h0 harr⟩
  | panic ch => exact ⟨_, a1, w1, ⟨s', q, H'⟩, .of_steps h0 harr⟩
  | outgrown => exact ⟨_, a1, w1, ⟨s', q, H'⟩, .of_steps h0 harr⟩

end
end Go.Proofs.YtelgmdljcbkniaaGreatDoor.Ai
