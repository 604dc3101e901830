/- An interpreter of values for the model's code, text 1: values with contents, what they stand for in a world, and how that is kept. -/
import Derived.Calls
import Derived.Orders
import Derived.KernelRfl
import Derived.Laws.AppendOwn
import Derived.Laws.CopyRow
import Derived.Laws.MakeOwn
import Derived.Below
namespace Go.Proofs.YtgobepjodkggoaaDoor.Ai
open Go

/-- A value: numbers as they are; a slice that nobody writes any more with its contents; what is written by the number of its block in the function's own store. -/
inductive AV where
  | int (k : IntKind) (n : Int)
  | bool (b : Bool)
  | str (s : ByteArray)
  | agg (cs : List AV)
  | tup (vs : List AV)
  | nilp
  | ptr (i o : Nat)
  | eptr (xs : List AV) (i o : Nat)
  | slc (i o len : Nat) (cap : Option Nat)
  | gsl (i len : Nat)
  | lst (ex : Bool) (xs : List AV)
  | map (i : Nat)
  | nils
  | nilmap
  | fn (f : Nat) (cap : List AV)
  | nilfn
  | und
  deriving Inhabited

def AV.cells : AV → List AV
  | .agg cs => cs
  | v => [v]

def AV.one : AV → Bool
  | .agg _ | .tup _ | .und => false
  | _ => true

abbrev ZM := Nat → Nat → Option Value

/-- A value without a block of its own: what it stands for, by the cells that nobody writes (Z). -/
inductive RI (Z : ZM) : AV → Value → Prop where
  | int (k : IntKind) (n : Int) : RI Z (.int k n) (.int k n)
  | bool (b : Bool) : RI Z (.bool b) (.bool b)
  | str (s : ByteArray) : RI Z (.str s) (.string s)
  | agg (cs : List AV) (vs : Array Value) (hl : vs.size = cs.length)
      (h : ∀ (j : Nat) v cv, cs[j]? = some v → vs[j]? = some cv → RI Z v cv) : RI Z (.agg cs) (.agg vs)
  | tup (cs : List AV) (vs : Array Value) (hl : vs.size = cs.length)
      (h : ∀ (j : Nat) v cv, cs[j]? = some v → vs[j]? = some cv → RI Z v cv) : RI Z (.tup cs) (.tuple vs)
  | nilp : RI Z .nilp (.pointer none)
  | eptr (xs : List AV) (i off sz c o : Nat) (he : ∀ (j : Nat) (x : AV), xs[j]? = some x → x.cells.length = sz)
      (hz : ∀ (j : Nat) (x : AV) (q : Nat) v cv, xs[j]? = some x → x.cells[q]? = some v → Z c (o + j * sz + q) = some cv → RI Z v cv)
      (hd : ∀ (j q : Nat), j < xs.length → q < sz → ∃ cv, Z c (o + j * sz + q) = some cv)
      (hi : i < xs.length) (ho : off < sz) : RI Z (.eptr xs i off) (.pointer (some ⟨c, o + i * sz + off, none⟩))
  | nils : RI Z .nils (.slice none 0 0)
  | nilslice (ex : Bool) (b : Option Addr) : RI Z (.lst ex []) (.slice b 0 0)
  | lst (ex : Bool) (xs : List AV) (sz c o cap : Nat) (he : ∀ (j : Nat) (x : AV), xs[j]? = some x → x.cells.length = sz)
      (hz : ∀ (j : Nat) (x : AV) (q : Nat) v cv, xs[j]? = some x → x.cells[q]? = some v → Z c (o + j * sz + q) = some cv → RI Z v cv)
      (hd : ∀ (j q : Nat), j < xs.length → q < sz → ∃ cv, Z c (o + j * sz + q) = some cv)
      (hc : xs.length ≤ cap) (hx : ex = true → cap = xs.length) : RI Z (.lst ex xs) (.slice (some ⟨c, o, none⟩) xs.length cap)
  | nilmap : RI Z .nilmap (.map none)
  | nilfn : RI Z .nilfn .nilFunc
  | fn (f : Nat) (cs : List AV) (vs : Array Value) (hl : vs.size = cs.length)
      (h : ∀ (j : Nat) v cv, cs[j]? = some v → vs[j]? = some cv → RI Z v cv) : RI Z (.fn f cs) (.func (.func f) #[] vs)

def ZM.le (Z Z' : ZM) : Prop := ∀ c o v, Z c o = some v → Z' c o = some v
theorem ZM.le.refl (Z : ZM) : Z.le Z := fun _ _ _ h => h
theorem ZM.le.trans {Z Z' Z'' : ZM} (h : Z.le Z') (h' : Z'.le Z'') : Z.le Z'' := fun c o v e => h' c o v (h c o v e)

theorem lt_of_get {α : Type} {l : List α} {j : Nat} {x : α} (h : l[j]? = some x) : j < l.length := (List.getElem?_eq_some_iff.1 h).1

theorem RI.mono {Z Z' : ZM} (hz : Z.le Z') {v : AV} {cv : Value} (h : RI Z v cv) : RI Z' v cv := by
  induction h with
  | int k n => exact .int k n
  | bool b => exact .bool b
  | str s => exact .str s
  | agg cs vs hl _ ih => exact .agg cs vs hl ih
  | tup cs vs hl _ ih => exact .tup cs vs hl ih
  | nilp => exact .nilp
  | eptr xs i off sz c o he _ hd hi ho ih =>
    refine .eptr xs i off sz c o he (fun j x q v cv hx hq hcv => ?_) (fun j q hj hq => let ⟨cv, e⟩ := hd j q hj hq; ⟨cv, hz _ _ _ e⟩) hi ho
    have hq' : q < sz := he j x hx ▸ lt_of_get hq
    obtain ⟨cv', e⟩ := hd j q (lt_of_get hx) hq'
    have : cv' = cv := by have := hz _ _ _ e; rw [hcv] at this; exact (Option.some.inj this).symm
    exact ih j x q v cv hx hq (this ▸ e)
  | nils => exact .nils
  | nilslice ex b => exact .nilslice ex b
  | lst ex xs sz c o cap he _ hd hc hx ih =>
    refine .lst ex xs sz c o cap he (fun j x q v cv hx hq hcv => ?_) (fun j q hj hq => let ⟨cv, e⟩ := hd j q hj hq; ⟨cv, hz _ _ _ e⟩) hc hx
    have hq' : q < sz := he j x hx ▸ lt_of_get hq
    obtain ⟨cv', e⟩ := hd j q (lt_of_get hx) hq'
    have : cv' = cv := by have := hz _ _ _ e; rw [hcv] at this; exact (Option.some.inj this).symm
    exact ih j x q v cv hx hq (this ▸ e)
  | nilmap => exact .nilmap
  | nilfn => exact .nilfn
  | fn f cs vs hl _ ih => exact .fn f cs vs hl ih

/-- A list that grows: how long it is, and the slice that holds it now. -/
structure Gr where
  n : Nat
  hv : Value

/-- The package variables that are laid: their cells. -/
def tables : List (Nat × List AV) := [(0, [.int .i64 0, .int .i64 250, .int .i64 600, .int .i64 1000])]
def tableOf : List (Nat × List AV) → Nat → Option (List AV)
  | [], _ => none
  | (g, cs) :: r, n => match Nat.beq g n with
    | true => some cs
    | false => tableOf r n

/-- They lie where nobody writes. -/
def GlobOk (Z : ZM) : Prop := ∀ g cs, tableOf tables g = some cs → 0 < cs.length ∧ ∀ (j : Nat) v, cs[j]? = some v → ∃ cv, Z g j = some cv ∧ RI Z v cv

theorem GlobOk.mono {Z Z' : ZM} (h : GlobOk Z) (hz : Z.le Z') : GlobOk Z' := fun g cs e =>
  let ⟨h1, h2⟩ := h g cs e
  ⟨h1, fun j v ev => let ⟨cv, e1, e2⟩ := h2 j v ev; ⟨cv, hz _ _ _ e1, e2.mono hz⟩⟩

theorem GlobOk.ri {Z : ZM} (h : GlobOk Z) {g : Nat} {cs : List AV} (e : tableOf tables g = some cs) : RI Z (.eptr [.agg cs] 0 0) (.pointer (some ⟨g, 0, none⟩)) := by
  obtain ⟨h1, h2⟩ := h g cs e
  have := RI.eptr (Z := Z) [.agg cs] 0 0 cs.length g 0 (fun j x hx => ?_) (fun j x q v cv hx hq hz => ?_) (fun j q hj hq => ?_) (by simp) h1
  · simpa using this
  · match j, hx with
    | 0, hx => simp at hx; subst hx; rfl
    | j + 1, hx => simp at hx
  · match j, hx with
    | 0, hx =>
      simp at hx; subst hx
      obtain ⟨cv', e1, e2⟩ := h2 q v hq
      simp only [Nat.zero_mul, Nat.zero_add] at hz
      rw [e1] at hz
      exact (Option.some.inj hz) ▸ e2
    | j + 1, hx => simp at hx
  · have : j = 0 := by simpa using hj
    subst this
    obtain ⟨cv', e1, _⟩ := h2 q cs[q] (by simp [hq])
    exact ⟨cv', by simpa using e1⟩

/-- Where the blocks of a function's store lie in the world: a block of cells or a map (cl), a list that grows (gr); the cells that nobody writes (Z). -/
structure Ghost where
  cl : Nat → Option Nat
  gr : Nat → Option Gr
  Z : ZM
  ok : GlobOk Z

def Ghost.setZ (G : Ghost) (Z' : ZM) (h : G.Z.le Z') : Ghost := ⟨G.cl, G.gr, Z', G.ok.mono h⟩

inductive R (G : Ghost) : AV → Value → Prop where
  | imm (v : AV) (cv : Value) (h : RI G.Z v cv) : R G v cv
  | und (cv : Value) : R G .und cv
  | ptr (i o c : Nat) (h : G.cl i = some c) : R G (.ptr i o) (.pointer (some ⟨c, o, none⟩))
  | slc (i o len : Nat) (cap : Option Nat) (c ccap : Nat) (h : G.cl i = some c) (hl : len ≤ ccap) (hc : ∀ n, cap = some n → ccap = n) :
      R G (.slc i o len cap) (.slice (some ⟨c, o, none⟩) len ccap)
  | gsl (i len : Nat) (b : Option Addr) (l c : Nat) (h : G.gr i = some ⟨len, .slice b l c⟩) : R G (.gsl i len) (.slice b l c)
  | stale (i len : Nat) (g : Gr) (b : Option Addr) (l c : Nat) (h : G.gr i = some g) (hn : len < g.n) : R G (.gsl i len) (.slice b l c)
  | map (i c : Nat) (h : G.cl i = some c) : R G (.map i) (.map (some c))
  | agg (cs : List AV) (vs : Array Value) (hl : vs.size = cs.length)
      (h : ∀ (j : Nat) v cv, cs[j]? = some v → vs[j]? = some cv → R G v cv) : R G (.agg cs) (.agg vs)
  | tup (cs : List AV) (vs : Array Value) (hl : vs.size = cs.length)
      (h : ∀ (j : Nat) v cv, cs[j]? = some v → vs[j]? = some cv → R G v cv) : R G (.tup cs) (.tuple vs)
  | fn (f : Nat) (cs : List AV) (vs : Array Value) (hl : vs.size = cs.length)
      (h : ∀ (j : Nat) v cv, cs[j]? = some v → vs[j]? = some cv → R G v cv) : R G (.fn f cs) (.func (.func f) #[] vs)

/-- What stays: a block where it lies; a list that grows may have grown. -/
structure Ghost.le (G G' : Ghost) : Prop where
  cl : ∀ i c, G.cl i = some c → G'.cl i = some c
  gr : ∀ i g, G.gr i = some g → ∃ g', G'.gr i = some g' ∧ (g' = g ∨ g.n < g'.n)
  Z : G.Z.le G'.Z

theorem Ghost.le.refl (G : Ghost) : G.le G := ⟨fun _ _ h => h, fun _ g h => ⟨g, h, .inl rfl⟩, .refl _⟩
theorem Ghost.le.trans {G G' G'' : Ghost} (h : G.le G') (h' : G'.le G'') : G.le G'' :=
  ⟨fun i c e => h'.cl i c (h.cl i c e), fun i g e => by
    obtain ⟨g1, e1, r1⟩ := h.gr i g e
    obtain ⟨g2, e2, r2⟩ := h'.gr i g1 e1
    refine ⟨g2, e2, ?_⟩
    rcases r1 with rfl | r1
    · exact r2
    · rcases r2 with rfl | r2
      · exact .inr r1
      · exact .inr (Nat.lt_trans r1 r2), h.Z.trans h'.Z⟩

theorem R.mono {G G' : Ghost} (hg : G.le G') {v : AV} {cv : Value} (h : R G v cv) : R G' v cv := by
  induction h with
  | imm v cv h => exact .imm v cv (h.mono hg.Z)
  | und cv => exact .und cv
  | ptr i o c h => exact .ptr i o c (hg.cl i c h)
  | slc i o len cap c ccap h hl hc => exact .slc i o len cap c ccap (hg.cl i c h) hl hc
  | gsl i len b l c h =>
    obtain ⟨g', e, r⟩ := hg.gr i _ h
    rcases r with rfl | r
    · exact .gsl i len b l c e
    · exact .stale i len g' b l c e r
  | stale i len g b l c h hn =>
    obtain ⟨g', e, r⟩ := hg.gr i g h
    rcases r with rfl | r
    · exact .stale i len g' b l c e hn
    · exact .stale i len g' b l c e (Nat.lt_trans hn r)
  | map i c h => exact .map i c (hg.cl i c h)
  | agg cs vs hl _ ih => exact .agg cs vs hl ih
  | tup cs vs hl _ ih => exact .tup cs vs hl ih
  | fn f cs vs hl _ ih => exact .fn f cs vs hl ih

inductive Blk where
  | cells (cs : List AV)
  | grow (e sz : Nat) (xs : List AV)
  | map (es : List (AV × AV))
  | gone
  deriving Inhabited

/-- A block of the store and what lies for it in the world (where it lies at all). -/
def BlkOk (G : Ghost) (w : World) (i : Nat) : Blk → Prop
  | .cells cs => G.gr i = none ∧ ∀ c, G.cl i = some c → ∃ arr e, w.heap[c]? = some (.cells arr e (0, 0)) ∧ cs.length ≤ arr.size ∧
      (∀ (j : Nat) v cv, cs[j]? = some v → arr[j]? = some cv → R G v cv) ∧ ∀ o, G.Z c o = none
  | .grow e sz xs => G.cl i = none ∧ ∀ g, G.gr i = some g → g.n = xs.length ∧ 0 < sz ∧ (∀ (j : Nat) (x : AV), xs[j]? = some x → x.cells.length = sz) ∧
      ∃ cs : List Value, w.ownsRow 0 e sz g.hv xs.length cs ∧
        (∀ (j : Nat) (x : AV) (q : Nat) v cv, xs[j]? = some x → x.cells[q]? = some v → cs[j * sz + q]? = some cv → RI G.Z v cv) ∧
        ∀ c, g.hv.ownBlock = some c → (∀ (k : Nat) cv, cs[k]? = some cv → G.Z c k = some cv) ∧ ∀ k, cs.length ≤ k → G.Z c k = none
  | .map es => G.gr i = none ∧ ∀ c, G.cl i = some c → ∃ ents clock, w.heap[c]? = some (.map ents clock) ∧ ents.size = es.length ∧
      ∀ (j : Nat) e ce, es[j]? = some e → ents[j]? = some ce → RI G.Z e.1 ce.key ∧ R G e.2 ce.val
  | .gone => G.cl i = none ∧ G.gr i = none

/-- Block i lies at c. -/
def Ghost.owns (G : Ghost) (i c : Nat) : Prop := G.cl i = some c ∨ ∃ g, G.gr i = some g ∧ g.hv.ownBlock = some c

structure Inv (G : Ghost) (bs : List Blk) (w : World) : Prop where
  blk : ∀ (i : Nat) b, bs[i]? = some b → BlkOk G w i b
  dom : ∀ i, bs.length ≤ i → G.cl i = none ∧ G.gr i = none
  inj : ∀ i j c, G.owns i c → G.owns j c → i = j
  z : ∀ c o v, G.Z c o = some v → w.cell? ⟨c, o, none⟩ = some v

/-- From (G, w) to (G', w'): what lay elsewhere is as it was. -/
structure Ev (G : Ghost) (w : World) (G' : Ghost) (w' : World) : Prop where
  os : w'.os = w.os
  tape : w'.tape = w.tape
  output : w'.output = w.output
  size : w.heap.size ≤ w'.heap.size
  Z : G.Z.le G'.Z
  newZ : ∀ c o v, G'.Z c o = some v → G.Z c o = some v ∨ w.heap.size ≤ c ∨ ∃ i, G.owns i c
  frame : ∀ c, c < w.heap.size → (∀ i, ¬ G.owns i c) → w'.heap[c]? = w.heap[c]?
  own : ∀ i c, G'.owns i c → w.heap.size ≤ c ∨ ∃ j, G.owns j c

theorem Ev.refl (G : Ghost) (w : World) : Ev G w G w := ⟨rfl, rfl, rfl, Nat.le_refl _, .refl _, fun _ _ _ h => .inl h, fun _ _ _ => rfl, fun i _ h => .inr ⟨i, h⟩⟩

theorem Ev.trans {G G' G'' : Ghost} {w w' w'' : World} (h : Ev G w G' w') (k : Ev G' w' G'' w'') : Ev G w G'' w'' where
  os := k.os.trans h.os
  tape := k.tape.trans h.tape
  output := k.output.trans h.output
  size := Nat.le_trans h.size k.size
  Z := h.Z.trans k.Z
  newZ c o v e := by
    rcases k.newZ c o v e with e | e | ⟨i, e⟩
    · exact h.newZ c o v e
    · exact .inr (.inl (Nat.le_trans h.size e))
    · exact .inr (h.own i c e)
  frame c hc hn := by
    rw [k.frame c (Nat.lt_of_lt_of_le hc h.size) (fun i hi => ?_), h.frame c hc hn]
    rcases h.own i c hi with e | ⟨j, e⟩
    · omega
    · exact hn j e
  own i c e := by
    rcases k.own i c e with e | ⟨j, e⟩
    · exact .inl (Nat.le_trans h.size e)
    · exact h.own j c e

end Go.Proofs.YtgobepjodkggoaaDoor.Ai
