/- An interpreter of values for the model's code, base text 33: a run of code, reckoned. -/
import Derived.Test.YtelgmdljcbkniaaDoorB38
namespace Go.Proofs.YtelgmdljcbkniaaDoor.Ai
noncomputable section
open Go
set_option linter.unusedVariables false

/-- A number, reckoned. -/
def fN {β : Type} (n : Nat) (K : Nat → β) : β := Nat.rec (K 0) (fun m _ => K (Nat.succ m)) n
theorem fN_eq {β : Type} (n : Nat) (K : Nat → β) : fN n K = K n := by cases n <;> rfl
def fI {β : Type} (n : Int) (K : Int → β) : β := Int.rec (fun m => fN m fun m => K (.ofNat m)) (fun m => fN m fun m => K (.negSucc m)) n
theorem fI_eq {β : Type} (n : Int) (K : Int → β) : fI n K = K n := by
  cases n with
  | ofNat m => exact fN_eq m fun m => K (.ofNat m)
  | negSucc m => exact fN_eq m fun m => K (.negSucc m)
/-- A value, reckoned. -/
def fV {β : Type} (v : AV) (K : AV → β) : β := AV.rec (motive_1 := fun _ => β) (motive_2 := fun _ => β) (fun k n => fI n fun n => K (.int k n)) (fun b => Bool.rec (K (.bool false)) (K (.bool true)) b) (fun s => K (.str s)) (fun cs _ => K (.agg cs)) (fun vs _ => K (.tup vs)) (K .nilp)
  (fun i o => fN o fun o => K (.ptr i o)) (fun i j sz o => K (.rptr i j sz o)) (fun xs i o _ => K (.eptr xs i o)) (fun i o sz len cap => K (.slc i o sz len cap)) (fun i len => K (.gsl i len)) (fun ex xs _ => K (.lst ex xs)) (fun i => K (.map i)) (K .nils) (K .nilmap)
  (fun f cap _ => K (.fn f cap)) (K .nilfn) (fun i => K (.yld i)) (fun i n j sz o => K (.optr i n j sz o)) (fun i n o sz len cap => K (.oslc i n o sz len cap)) (fun ks vs _ _ => K (.imap ks vs)) (K .und) (K .und) (fun _ _ _ _ => K .und) v
theorem fV_eq {β : Type} (v : AV) (K : AV → β) : fV v K = K v := by
  cases v with
  | int k n => exact fI_eq n fun n => K (.int k n)
  | bool b => cases b <;> rfl
  | ptr i o => exact fN_eq o fun o => K (.ptr i o)
  | _ => rfl

/-- A value, reckoned if that is wanted (b). -/
def fVz {β : Type} (b : Bool) (v : AV) (K : AV → β) : β := Bool.rec (K v) (fV v K) b
theorem fVz_eq {β : Type} (b : Bool) (v : AV) (K : AV → β) : fVz b v K = K v := by
  cases b with
  | false => rfl
  | true => exact fV_eq v K

structure XS where
  env : ET
  bs : Sto
  nb : Nat
  wm : Nat

inductive OR where | no | ok (v : AV) (bs : Sto) (nb wm rm w : Nat)
inductive SR where | no | ok (s : XS) (acc : List Mp)
inductive XR where | no | ok (e : Exit) (s : XS)
inductive CR where | no | ok (v : AV) (bs : Sto) (nb w : Nat)

def OR.b {β : Type} (r : OR) (no : β) (K : AV → Sto → Nat → Nat → Nat → Nat → β) : β := OR.rec no K r
def SR.b {β : Type} (r : SR) (no : β) (K : XS → List Mp → β) : β := SR.rec no K r
def XR.b {β : Type} (r : XR) (no : β) (K : Exit → XS → β) : β := XR.rec no K r
def CR.b {β : Type} (r : CR) (no : β) (K : AV → Sto → Nat → Nat → β) : β := CR.rec no K r
def obind {α β : Type} (x : Option α) (no : β) (K : α → β) : β := Option.rec no K x
def bif' {β : Type} (c : Bool) (no k : β) : β := Bool.rec no k c

theorem OR.b_inv {r : OR} {K : AV → Sto → Nat → Nat → Nat → Nat → SR} {s : XS} {a : List Mp} (h : r.b .no K = .ok s a) : ∃ v bs nb wm rm w, r = .ok v bs nb wm rm w ∧ K v bs nb wm rm w = .ok s a := by
  cases r with
  | no => cases (show SR.no = SR.ok s a from h)
  | ok v bs nb wm rm w => exact ⟨_, _, _, _, _, _, rfl, h⟩

section inv
variable {α β : Type} {no e : β} (hne : no ≠ e)
include hne
theorem obind_inv {x : Option α} {K : α → β} (h : obind x no K = e) : ∃ v, x = some v ∧ K v = e := by
  cases x with
  | none => exact absurd h hne
  | some v => exact ⟨v, rfl, h⟩
theorem bif_inv {c : Bool} {k : β} (h : bif' c no k = e) : c = true ∧ k = e := by
  cases c with
  | false => exact absurd h hne
  | true => exact ⟨rfl, h⟩
theorem XR.b_inv {r : XR} {K : Exit → XS → β} (h : r.b no K = e) : ∃ x s, r = .ok x s ∧ K x s = e := by
  cases r with
  | no => exact absurd h hne
  | ok x s => exact ⟨_, _, rfl, h⟩
theorem CR.b_inv {r : CR} {K : AV → Sto → Nat → Nat → β} (h : r.b no K = e) : ∃ v bs nb w, r = .ok v bs nb w ∧ K v bs nb w = e := by
  cases r with
  | no => exact absurd h hne
  | ok v bs nb w => exact ⟨_, _, _, _, rfl, h⟩
theorem SR.b_inv {r : SR} {K : XS → List Mp → β} (h : r.b no K = e) : ∃ s a, r = .ok s a ∧ K s a = e := by
  cases r with
  | no => exact absurd h hne
  | ok s a => exact ⟨_, _, rfl, h⟩
theorem setK_inv {s : Sto} {k : Nat} {x : FBlk} {K : Sto → β} (h : s.setK k x no K = e) : k < 65536 ∧ K (s.set k x) = e := by
  rw [Sto.setK_eq] at h
  split at h
  · exact ⟨by assumption, h⟩
  · exact absurd h hne
theorem setE_inv {s : ET} {k : Nat} {x : AV} {K : ET → β} (h : ET.setK k x s no K = e) : k < 256 ∧ K (s.set k x) = e := by
  rw [ET.setK_eq] at h
  split at h
  · exact ⟨by assumption, h⟩
  · exact absurd h hne
end inv

def isLp (b : Blk) : Bool := Blk.rec (motive := fun _ => Bool) (fun _ => false) (fun _ _ => false) (fun _ _ _ => false) (fun _ _ _ => false) (fun _ _ _ _ _ _ _ => true) (fun _ => false) false b

def posts (l : List (Nat × Blk)) : Sto → Nat → Option (Sto × Nat) := List.rec (motive := fun _ => Sto → Nat → Option (Sto × Nat)) (fun t m => some (t, m))
  (fun p _ ih t m => bif' (isLp (look t p.1)) (bif' (isLp p.2) (t.setK p.1 (.b p.2) none fun t' => fN (morM m (bitOf p.1)) fun m' => ih t' m') none) none) l

def nextNb (nb : Nat) (l : List (Nat × Blk)) : Nat := List.rec nb (fun p _ _ => bif' (Nat.beq p.1 nb) nb (Nat.succ nb)) l
def keysLt (nb : Nat) (l : List (Nat × Blk)) : Bool := List.rec true (fun p _ ih => bif' (Nat.ble (Nat.succ p.1) nb) false ih) l
def maskOf (l : List (Nat × Blk)) : Nat := List.rec 0 (fun p _ ih => morM (bitOf p.1) ih) l

def resX (X : Cx) (env : ET) (t : Sto) : List ResultVar → Option (List AV)
  | [] => some []
  | .tmp x :: r => (env.get x).bind fun v => (resX X env t r).map (v :: ·)
  | .cell a ty :: r => (X.ti ty).bind fun i => (env.get a).bind fun p => match p with
    | .ptr b k => match look t b with
      | .cells cs => (match isAggD i.desc with
        | true => okI (lenGe cs (k + i.size)) ((resX X env t r).map (.agg ((cs.drop k).take i.size) :: ·))
        | false => (nth cs k).bind fun v => (resX X env t r).map (v :: ·))
      | _ => none
    | _ => none

def argT (vs : List AV) : Nat → ET → CR → (ET → CR) → CR := List.rec (motive := fun _ => Nat → ET → CR → (ET → CR) → CR) (fun _ e _ K => K e) (fun v _ ih i e nx K => ET.setK i v e nx fun e' => ih (Nat.succ i) e' nx K) vs

/-- What a snapshot of a value is, by the blocks. -/
def snapX (look : Nat → Blk) : Nat → AV → Option AV
  | 0, _ => none
  | k + 1, v => match v with
    | .gsl i len => match look i with
      | .grow _ _ xs => if xs.length = len then some (.lst false xs) else none
      | _ => none
    | .slc i o sz len _ => match look i with
      | .rows sz' xs => if sz' = sz ∧ o + len ≤ xs.length then (snapL (snapX look k) xs).map fun ds => .lst false ((ds.drop o).take len) else none
      | _ => none
    | .agg cs => (snapL (snapX look k) cs).map .agg
    | .nils => some (.lst false [])
    | .lst _ xs => some (.lst false xs)
    | .int k n => some (.int k n)
    | .bool b => some (.bool b)
    | _ => none

section
variable (X : Cx) (FT : Nat → Option Func) (CT : Nat → Option (List AV → Option AV)) (fz : Bool) (rec : Nat → Code → XS → XR)

def stOf (j : Option Code) : LoopState := match j with | none => .ready | some _ => .done
def goOn (j : Option Code) : Bool := match j with | none => true | some _ => false

/-- A call: the value, the store, its free place, what it wrote. -/
def callX (f : Nat) (vs : List AV) (bs : Sto) (nb : Nat) : CR :=
  obind (FT f) .no fun fn => obind fn.body .no fun c => bif' (Nat.ble vs.length fn.ntmps) .no (argT vs 0 .none .no fun env => XR.b (rec fn.ntmps c ⟨env, bs, nb, 0⟩) .no fun e s => XS.rec (fun env1 bs1 nb1 wm1 => Exit.rec (motive := fun _ => CR)
    (obind (resX X env1 bs1 fn.results.toList) .no fun rs => .ok (one1 rs) bs1 nb1 wm1) (fun _ => .no) (fun _ => .no) (obind (resX X env1 bs1 fn.results.toList) .no fun rs => .ok (one1 rs) bs1 nb1 wm1) (fun _ => .no) .no e) s)

def parT (ps : List Nat) : List AV → ET → CR → (ET → CR) → CR := List.rec (motive := fun _ => List AV → ET → CR → (ET → CR) → CR) (fun _ e _ K => K e)
  (fun p _ ih vs e nx K => List.rec (motive := fun _ => CR) nx (fun v r _ => ET.setK p v e nx fun e' => ih r e' nx K) vs) ps

def yieldX (i : Nat) (vs : List AV) (bs : Sto) (nb : Nat) : CR := match lookF bs i with
  | .lp n env ps as cd .ready none => bif' (Nat.beq vs.length ps.toList.length && ps.toList.all (fun p => Nat.blt p n)) .no (parT ps.toList vs env .no fun env1 => XR.b (rec n as ⟨env1, bs, nb, 0⟩) .no fun e1 s1 => match e1, s1 with
    | .normal, ⟨env1, bs1, nb1, wm1⟩ => bif' (!(mbit wm1 i)) .no (bs1.setK i (.lp n env ps as cd .busy none) .no fun bs2 => XR.b (rec n cd ⟨env1, bs2, nb1, 0⟩) .no fun e2 s2 => match s2 with
      | ⟨_, bs3, nb3, wm3⟩ => bif' (!(mbit wm3 i)) .no (obind (jumpOf e2) .no fun j => bs3.setK i (.lp n env ps as cd (stOf j) j) .no fun bs4 =>
          fN (morM (bitOf i) (morM wm1 wm3)) fun wm => .ok (.bool (goOn j)) bs4 nb3 wm))
    | _, _ => .no)
  | _ => .no

def finS (v : AV) (pre post : List (Nat × Blk)) (bs : Sto) (nb wm : Nat) : OR := fN (nextNb nb pre) fun nb1 => bif' (keysLt nb1 pre) .no (List.rec (.ok v bs nb1 wm (maskOf pre) 0) (fun _ _ _ => obind (posts post bs wm) .no fun p => Prod.rec (fun bs' wm' => .ok v bs' nb1 wm' (maskOf pre) (maskOf post)) p) post)
def finX (x : Option Ef) (bs : Sto) (nb wm : Nat) : OR := obind x .no fun e => Ef.rec (fun v pre post => List.rec (.ok v bs nb wm 0 0) (fun _ _ _ => finS v pre post bs nb wm) pre) e

/-- A call of a function value. -/
def xcall (x : Operand) (args : List Operand) (env : ET) (bs : Sto) (nb wm : Nat) : OR := obind (evE env x) .no fun fv => obind (evsG (evE env) args) .no fun vs => match fv with
    | .fn f cap => obind ((CT f).bind fun C => (snapL (snapX (look bs) 16) (vs ++ cap)).bind fun avs => (C avs).bind fun v => okI (scal v) (some v)) (CR.b (callX X FT rec f (vs ++ cap) bs nb) .no fun v bs1 nb1 w => fN (morM wm w) fun wm' => .ok v bs1 nb1 wm' (lowM nb1) w) fun v => .ok v bs nb wm (lowM nb) 0
    | .yld i => CR.b (yieldX rec i vs bs nb) .no fun v bs1 nb1 w => fN (morM wm w) fun wm' => .ok v bs1 nb1 wm' (lowM nb1) w
    | _ => .no

def isCall (o : Op) : Option (Operand × List Operand) := match o with
  | .call ⟨.value x, args, _⟩ => some (x, args.toList)
  | _ => none

/-- One operation: its value, the store, what it read and wrote. -/
def xone (o : Op) : ET → Sto → Nat → Nat → OR := Option.rec (motive := fun _ => ET → Sto → Nat → Nat → OR) (fun env bs nb wm => finX (xopG X o (evE env) (look bs) nb) bs nb wm) (fun p env bs nb wm => xcall X FT CT rec p.1 p.2 env bs nb wm) (isCall o)

def putT (d : Option Nat) : AV → ET → SR → (ET → SR) → SR := Option.rec (motive := fun _ => AV → ET → SR → (ET → SR) → SR) (fun _ e _ K => K e) (fun d v e nx K => ET.setK d v e nx K) d

/-- The rest of the operations behind one that has run, or was passed over. -/
def xgo (o : Oper) (gs : List Nat) (ih : XS → List Mp → SR) (s : XS) (acc : List Mp) : SR := XS.rec (fun env bs nb wm =>
  OR.b (xone X FT CT rec o.op env bs nb wm) .no fun v bs1 nb1 wm1 rm w => fVz fz v fun v => putT o.dst v env .no fun env1 => ih ⟨env1, bs1, nb1, wm1⟩ (⟨gs ++ slotsOf o.op.operands.toList, rm, w⟩ :: acc)) s
def xskip (o : Oper) (d : Nat) (ih : XS → List Mp → SR) (s : XS) (acc : List Mp) : SR := XS.rec (fun env bs nb wm => putT o.dst (.tup []) env .no fun env1 => ih ⟨env1, bs, nb, wm⟩ (⟨[d], 0, 0⟩ :: acc)) s
def xguard (all : List Oper) (o : Oper) (j : Nat) (want : Bool) (ih : XS → List Mp → SR) (s : XS) (acc : List Mp) : SR :=
  obind (nthOp all j) .no fun o' => obind o'.dst .no fun d => obind (s.env.get d) .no fun g => match g with
      | .bool b => (match b == want with
        | true => xgo X FT CT fz rec o [d] ih s acc
        | false => xskip o d ih s acc)
      | .tup [] => xskip o d ih s acc
      | _ => .no
def xstp (all : List Oper) (o : Oper) : (XS → List Mp → SR) → XS → List Mp → SR :=
  Option.rec (motive := fun _ => (XS → List Mp → SR) → XS → List Mp → SR) (xgo X FT CT fz rec o []) (fun p => xguard X FT CT fz rec all o p.1 p.2) o.guard
def xseq (all : List Oper) (l : List Oper) : XS → List Mp → SR :=
  List.rec (motive := fun _ => XS → List Mp → SR) (fun s acc => .ok s acc) (fun o _ ih s acc => xstp X FT CT fz rec all o ih s acc) l

def rangeX (n : Nat) (g : Operand) (ps : Array Tmp) (as cd : Code) (s : XS) : XR := XS.rec (fun env bs nb wm =>
  obind (evE env g) .no fun fv => match fv with
    | .fn f cap => bs.setK nb (.lp n env ps as cd .ready none) .no fun bs1 => fN (Nat.succ nb) fun nb1 => CR.b (callX X FT rec f (.yld nb :: cap) bs1 nb1) .no fun v bs2 nb2 w => match lookF bs2 nb with
        | .lp _ _ _ _ _ st pe => (match st with
          | .busy => .no
          | _ => bs2.setK nb (.lp n env ps as cd .exhausted pe) .no fun bs3 => fN (morM (bitOf nb) (morM wm w)) fun wm' => match pe with
            | none => .ok .normal ⟨env, bs3, nb2, wm'⟩
            | some .ret => .ok .ret ⟨env, bs3, nb2, wm'⟩
            | some (.exit id) => .ok (.exit id) ⟨env, bs3, nb2, wm'⟩
            | _ => .no)
        | _ => .no
    | _ => .no) s

def xcode (n : Nat) (c : Code) : XS → XR := match c with
    | .skip => fun s => .ok .normal s
    | .label _ => fun s => .ok .normal s
    | .exit i => fun s => .ok (.exit i) s
    | .ret => fun s => .ok .ret s
    | .region _ ops draw => match draw with
      | false => fun s => SR.b (xseq X FT CT fz rec ops.toList ops.toList s []) .no fun s' _ => .ok .normal s'
      | true => fun s => SR.b (xseq X FT CT fz rec ops.toList ops.toList s []) .no fun s' acc => Bool.rec (bif' (ordN (masksF ops.toList []) ops.toList acc.reverse) .no (.ok .normal s')) (.ok .normal s') (allOrd (masksF ops.toList []) 0)
    | .seq a b => fun s => XR.b (rec n a s) .no fun e s' => Exit.rec (motive := fun _ => XR) (rec n b s') (fun i => .ok (.exit i) s') (fun l => .ok (.goto l) s') (.ok .ret s') (fun c => .ok (.panic c) s') (.ok .outgrown s') e
    | .cond c a b => fun s => obind (evE s.env c) .no fun v => AV.sel (fun _ _ => .no) (fun t => Bool.rec (rec n b s) (rec n a s) t) (fun _ _ => .no) .no v
    | .block i c => fun s => XR.b (rec n c s) .no fun e s' => match e with
      | .exit j => (match Nat.beq j i with
        | true => .ok .normal s'
        | false => .ok (.exit j) s')
      | e => .ok e s'
    | .loop c => fun s => XR.b (rec n c s) .no fun e s' => Exit.rec (motive := fun _ => XR) (rec n (.loop c) s') (fun i => .ok (.exit i) s') (fun l => .ok (.goto l) s') (.ok .ret s') (fun c => .ok (.panic c) s') (.ok .outgrown s') e
    | .rangeFunc g ps as cd => fun s => rangeX X FT rec n g ps as cd s
    | .scope c => fun s => XR.b (rec n c s) .no fun e s' => match e with
      | .goto _ => .no
      | e => .ok e s'
    | _ => fun _ => .no
end

def exec (X : Cx) (FT : Nat → Option Func) (CT : Nat → Option (List AV → Option AV)) (fz : Bool) (f : Nat) : Nat → Code → XS → XR :=
  Nat.rec (motive := fun _ => Nat → Code → XS → XR) (fun _ _ _ => .no) (fun _ ih => xcode X FT CT fz ih) f
/-! ### a table of functions -/

inductive FF where
  | leaf
  | node (k : Nat) (v : Func) (l r : FF)
def FF.get (t : FF) : Nat → Option Func := FF.rec (fun _ => none) (fun k v _ _ ihl ihr n => Bool.rec (Bool.rec (ihr n) (ihl n) (Nat.ble (Nat.succ n) k)) (some v) (Nat.beq n k)) t
theorem FF.get_node (k : Nat) (v : Func) (l r : FF) (n : Nat) : (FF.node k v l r).get n = match Nat.beq n k with
    | true => some v
    | false => match Nat.ble (Nat.succ n) k with
      | true => l.get n
      | false => r.get n := by
  show (Bool.rec (Bool.rec (r.get n) (l.get n) (Nat.ble (Nat.succ n) k)) (some v) (Nat.beq n k) : Option Func) = _
  cases Nat.beq n k <;> cases Nat.ble (Nat.succ n) k <;> rfl

def okX (n : Nat) : Code → Bool
  | .region _ ops draw => dstOk n ops.toList && (!draw || msOk (masks ops.toList []) ops.toList 0)
  | .seq a b => okX n a && okX n b
  | .cond _ a b => okX n a && okX n b
  | .block _ c => okX n c
  | .loop c => okX n c
  | .scope c => okX n c
  | .rangeFunc _ ps as c => okX n as && okX n c
  | _ => true

structure FnOk (P : Program) (f : Nat) (fn : Func) : Prop where
  hf : P.funcs[f]? = some fn
  en : Enters P f
  ok : ∀ c, fn.body = some c → okX fn.ntmps c = true

def okF (fn : Func) : Bool := match fn.body with
  | some c => okX fn.ntmps c
  | none => true
theorem okF_of {fn : Func} (h : okF fn = true) : ∀ c, fn.body = some c → okX fn.ntmps c = true := fun c e => by
  unfold okF at h; rw [e] at h; exact h

inductive FF.All (P : Program) : FF → Prop where
  | leaf : FF.All P .leaf
  | node {k : Nat} {v : Func} {l r : FF} (h : FnOk P k v) (hl : FF.All P l) (hr : FF.All P r) : FF.All P (.node k v l r)
theorem FF.All.get {P : Program} {t : FF} (h : FF.All P t) : ∀ n i, t.get n = some i → FnOk P n i := by
  induction h with
  | leaf => intro n i h; cases h
  | node h hl hr ih1 ih2 =>
    intro n i hg
    rw [FF.get_node] at hg
    split at hg
    · rename_i e
      obtain rfl := Nat.eq_of_beq_eq_true e
      obtain rfl := Option.some.inj hg
      exact h
    · split at hg
      · exact ih1 n i hg
      · exact ih2 n i hg

end
end Go.Proofs.YtelgmdljcbkniaaDoor.Ai
