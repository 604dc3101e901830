/- An interpreter of values for the model's code, base text 40: the row of a law that reads a laid table of numbers. -/
import Derived.Test.YtelgmdljcbkniaaDoorB39
import Derived.LaidMore
import Derived.Stop.Joined
import Derived.MakeChecks
namespace Go.Proofs.YtelgmdljcbkniaaDoor.Ai
open Go Go.ChangeShapes Go.WideShapes Go.ChangeAt Go.RowKit

def ints (kk : IntKind) (ns : List Int) : DataW Unit := .agg (ns.map fun n => .lit (.int kk n))

theorem laid_cell {P : Program} {W : World} {name : String} {kk : IntKind} {ns : List Int} {g t e n : Nat} (hg : P.globalNamed name = some g) (ht : (P.globals[g]?).map (·.type) = some t) (hu : P.underlying t = some (.array n e))
    (he : P.underlying e = some (.int kk)) (hc : P.cellsOf e = 1) (hn : ns.length = n) (h : laidMetH P [(name, ints kk ns)] W) : ∀ (j : Nat) (v : Int), ns[j]? = some v → W.cell? ⟨g, j, none⟩ = some (.int kk v) := by
  rw [MakeChecks.laidMetH_plain _ _ _ rfl] at h
  obtain ⟨ps, ⟨g0, t0, cs0, f0, p0, q0, hg0, ht0, hv0, hd0, _, _⟩, _, _⟩ := h
  obtain rfl := Option.some.inj (hg.symm.trans hg0)
  obtain rfl := Option.some.inj (ht.symm.trans ht0)
  obtain ⟨xs, m, rfl, hx, hlen, hxn, hel⟩ := DataW.trod_array hu hd0
  intro j v hj
  have hjn : j < n := hn ▸ lt_of_get hj
  have h1 := hel j hjn
  rw [hc, Nat.mul_one] at h1
  have hjx : j < xs.length := by omega
  rw [List.getElem?_eq_getElem hjx] at h1
  obtain ⟨k, e1, e2, _⟩ := DataW.trod_int he h1
  simp only [ints, Prod.mk.injEq, DataW.agg.injEq] at hx
  have h2 : (xs.map (·.1))[j]? = (ns.map fun n => (DataW.lit (.int kk n) : DataW Unit))[j]? := by rw [← hx.1]
  rw [List.getElem?_map, List.getElem?_map, List.getElem?_eq_getElem hjx, hj] at h2
  simp only [Option.map_some, Option.some.injEq, e2] at h2
  have hk : k = v := by injection h2 with h2; injection h2
  subst hk
  rw [World.var?_cell hg hv0 j]
  have h3 : (((cs0.toList.drop j).take 1))[0]? = some (.int kk k) := by rw [e1]; rfl
  rw [List.getElem?_take, if_pos (by omega), List.getElem?_drop] at h3
  simpa using h3

theorem law_lifted_laid {a : Assume} {C : Checked} {os : Os} {f : FuncId} {fn : Func} {s : ChangeSpec} {conds : List PathCond} {apart fresh handsOn : Bool} {H : Type} {enc : TypeId × Value → H} {laid : List (String × DataW Unit)} {X : Type} {e : X → List AV} {ok : X → Prop} {S : List AV → AV → Prop} {bt : TypeId}
    (own : ownKnob C.prog.godebug = none) (started : os.Started) (noInit : C.prog.inits.idxOf? f = none) (hfn : C.prog.funcs[f]? = some fn)
    (witness : ∃ (w : World) (tape : Tape) (i : Input), w.os = os ∧ (w.forCall tape i).Shaped C.prog ∧ i.vars = [] ∧ Input.okWide C.prog (w.forCall tape i) .any w.heap.size f i ∧
      ((s.pre enc C.prog fn conds apart (w.forCall tape i).memory i.args ∧ laidMetH C.prog laid (w.forCall tape i).memory) ∧ sizedMet enc C.prog fn (OpenSpec.ofChange s) apart (w.forCall tape i).memory i.args) ∧ a.holds C.prog (lone (Frame.enter C.prog f i.args .normal) [] (w.forCall tape i)))
    (hl : laidOutB C.prog = true) (hp : fn.params.toList.all (fun t => C.prog.readableRec t && decide (t < C.prog.types.size)) = true) (hv : s.vars = []) (hrt : fn.resultTypes = #[bt]) (hb : C.prog.underlying bt = some .bool)
    (hspec : ∀ ds : List (DataW H), ds.length = fn.params.toList.length → s.fn H ds = { results := [.lit (.bool true)], args := ds })
    (hgl : ∀ W, laidMetH C.prog laid W → GlobOk (zm W)) (hrd : RdL C.prog fn.params.toList e ok) (hok : VOk C.prog f S) (hS : ∀ x, ok x → S (e x) (.bool true)) :
    ReturnsInHanded a C os f .any (fun w args => (s.pre enc C.prog fn conds apart w args ∧ laidMetH C.prog laid w) ∧ sizedMet enc C.prog fn (OpenSpec.ofChange s) apart w args) (s.post enc C.prog fn apart fresh handsOn false) := by
  refine returnsInHanded_of_change_and (X := fun w _ => laidMetH C.prog laid w) (fun _ _ _ hh h => h.of_heap hh) own started noInit hfn witness ?_
  intro W base args ds gs before hval hW _ _ hL _
  have hW' := hW
  obtain ⟨p, q, hA, hV, rfl, _, _⟩ := hW
  rw [hv] at hV
  obtain ⟨rfl, rfl⟩ := trodVars_none hV
  obtain ⟨x, hx, hlen, hri⟩ := hrd H enc W base args.toList ds p (fun j t v e1 e2 => hval j t v (by simpa using e1) (by simpa using e2)) hA
  refine (hok (zm W) W args (e x) (.bool true) (hgl W hL) (fun c o x e => e) ⟨by simpa using hlen, fun j v c e1 e2 => hri j v c e1 (by simpa using e2)⟩ (hS x hx)).mono ?_
  rintro en W' ⟨cv, Z', rfl, h⟩
  have hbel := h.below
  have hcv : cv = .bool true := by cases h.r; rfl
  subst hcv
  have hdl : ds.length = fn.params.toList.length := by
    have gen : ∀ (ts : List TypeId) (vs : List Value) (ds : List (DataW H)) (ps : List MemPlace), DataW.TrodAll enc C.prog W 0 (fun _ => true) true ts vs ds ps → ds.length = ts.length := by
      intro ts
      induction ts with
      | nil => intro vs ds ps h; obtain ⟨_, rfl, _⟩ := trodAll_nil h; rfl
      | cons t ts ih => intro vs ds ps h; obtain ⟨_, _, _, _, _, _, _, rfl, _, _, h2⟩ := trodAll_cons h; simp [ih _ _ _ h2]
    exact gen _ _ _ _ hA
  have hsp := hspec (ds ++ []) (by simpa using hdl)
  refine ⟨_, rfl, ds, [], p ++ [], [], p, [], hW', ?_, ?_, ?_, hbel.frame _, fun h => by cases h⟩
  · rw [hsp, hrt]
    refine trodAll_mk1 ⟨1, ?_⟩
    simp [Value.cells, DataW.trod, hb]
  · rw [hsp]
    simp only [List.append_nil]
    exact trodAll_below hl hbel _ _ _ _ hp (fun x hx => by simpa using hW'.lt x (by simpa using hx)) hA
  · rw [hsp, hv]; rfl

/-- One laid table of numbers. -/
theorem glob_one {W : World} {kk : IntKind} {ns : List Int} {g : Nat} (ht : tables = [(g, ns.map (AV.int kk))]) (h0 : 0 < ns.length) (h : ∀ (j : Nat) (v : Int), ns[j]? = some v → W.cell? ⟨g, j, none⟩ = some (.int kk v)) : GlobOk (zm W) := by
  intro g' cs e
  rw [ht] at e
  simp only [tableOf] at e
  split at e
  · rename_i hgg
    obtain rfl := Option.some.inj e
    have : g = g' := Nat.eq_of_beq_eq_true hgg
    subst this
    refine ⟨by simpa using h0, fun j v ev => ?_⟩
    rw [List.getElem?_map, Option.map_eq_some_iff] at ev
    obtain ⟨z, ez, rfl⟩ := ev
    exact ⟨.int kk z, rd_of_cell (h j z ez) (fun ks vs e => by unfold mapCode at e; cases e), .int _ _⟩
  · cases e
end Go.Proofs.YtelgmdljcbkniaaDoor.Ai
