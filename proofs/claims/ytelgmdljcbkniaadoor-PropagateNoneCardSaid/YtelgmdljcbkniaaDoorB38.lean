/- An interpreter of values for the model's code, base text 38: the operations again, arranged for the kernel. -/
import Derived.Test.YtelgmdljcbkniaaDoorB32
namespace Go.Proofs.YtelgmdljcbkniaaDoor.Ai
noncomputable section
open Go
set_option linter.unusedVariables false

/-- A value by its kind: numbers, truth values, pointers into cells, others. -/
def AV.sel {β : Type} (fint : IntKind → Int → β) (fbool : Bool → β) (fptr : Nat → Nat → β) (o : β) (v : AV) : β := AV.rec (motive_1 := fun _ => β) (motive_2 := fun _ => β) fint fbool (fun _ => o) (fun _ _ => o) (fun _ _ => o) o fptr (fun _ _ _ _ => o) (fun _ _ _ _ => o) (fun _ _ _ _ _ => o) (fun _ _ => o) (fun _ _ _ => o) (fun _ => o) o o (fun _ _ _ => o) o (fun _ => o) (fun _ _ _ _ _ => o) (fun _ _ _ _ _ _ => o) (fun _ _ _ _ => o) o o (fun _ _ _ _ => o) v
/-- A value by its kind: lists, slices, pointers, others. -/
def AV.sel2 {β : Type} (fg : Nat → Nat → β) (fl : List AV → β) (fs : Nat → Nat → Nat → Nat → Option Nat → β) (fptr : Nat → Nat → β) (o : β) (v : AV) : β := AV.rec (motive_1 := fun _ => β) (motive_2 := fun _ => β) (fun _ _ => o) (fun _ => o) (fun _ => o) (fun _ _ => o) (fun _ _ => o) o fptr (fun _ _ _ _ => o) (fun _ _ _ _ => o) fs fg (fun ex xs _ => fl xs) (fun _ => o) o o (fun _ _ _ => o) o (fun _ => o) (fun _ _ _ _ _ => o) (fun _ _ _ _ _ _ => o) (fun _ _ _ _ => o) o o (fun _ _ _ _ => o) v
def Blk.selC {β : Type} (f : List AV → β) (o : β) (b : Blk) : β := Blk.rec (motive := fun _ => β) f (fun _ _ => o) (fun _ _ _ => o) (fun _ _ _ => o) (fun _ _ _ _ _ _ _ => o) (fun _ => o) o b
def Blk.selR {β : Type} (fr : Nat → List AV → β) (fo : Nat → Nat → List AV → β) (o : β) (b : Blk) : β := Blk.rec (motive := fun _ => β) (fun _ => o) fr (fun _ _ _ => o) fo (fun _ _ _ _ _ _ _ => o) (fun _ => o) o b
def mapV (a : Option AV) : Option Ef := Option.rec none (fun v => some ⟨v, [], []⟩) a
def bindV {β : Type} (a : Option AV) (K : AV → Option β) : Option β := Option.rec none K a
theorem bindV_eq {β : Type} (a : Option AV) (K : AV → Option β) : bindV a K = a.bind K := by cases a <;> rfl
def bindT {β : Type} (a : Option TInfo) (K : TInfo → Option β) : Option β := Option.rec none K a
theorem bindT_eq {β : Type} (a : Option TInfo) (K : TInfo → Option β) : bindT a K = a.bind K := by cases a <;> rfl
def okB {β : Type} (c : Bool) (k : Option β) : Option β := Bool.rec none k c
theorem okB_eq {β : Type} (c : Bool) (k : Option β) : okB c k = okI c k := by cases c <;> rfl

def lenF (l : List AV) : Nat := List.rec 0 (fun _ _ ih => Nat.succ ih) l
theorem lenF_eq : ∀ l : List AV, lenF l = l.length
  | [] => rfl
  | _ :: r => by rw [List.length_cons, ← lenF_eq r]; rfl

/-! ### numbers -/

def addF (k : IntKind) (x y : Int) : Int := Int.rec (fun a => Int.rec (fun b => wrapF k (.ofNat (Nat.add a b))) (fun b => wrapF k (Int.add (.ofNat a) (.negSucc b))) y) (fun a => wrapF k (Int.add (.negSucc a) y)) x
theorem addF_eq (k : IntKind) (x y : Int) : addF k x y = wrapF k (Int.add x y) := by cases x <;> cases y <;> rfl
def subF (k : IntKind) (x y : Int) : Int := Int.rec (fun a => Int.rec (fun b => Bool.rec (wrapF k (Int.sub (.ofNat a) (.ofNat b))) (wrapF k (.ofNat (Nat.sub a b))) (Nat.ble b a)) (fun b => wrapF k (Int.sub (.ofNat a) (.negSucc b))) y) (fun a => wrapF k (Int.sub (.negSucc a) y)) x
theorem subF_eq (k : IntKind) (x y : Int) : subF k x y = wrapF k (Int.sub x y) := by
  cases x with
  | negSucc a => rfl
  | ofNat a =>
    cases y with
    | negSucc b => rfl
    | ofNat b =>
      show (Bool.rec (wrapF k (Int.sub (.ofNat a) (.ofNat b))) (wrapF k (.ofNat (Nat.sub a b))) (Nat.ble b a) : Int) = _
      cases h : Nat.ble b a with
      | false => rfl
      | true =>
        have := Nat.le_of_ble_eq_true h
        show wrapF k (((a - b : Nat) : Int)) = wrapF k ((a : Int) - (b : Int))
        rw [Int.ofNat_sub this]
def mulF (k : IntKind) (x y : Int) : Int := Int.rec (fun a => Int.rec (fun b => wrapF k (.ofNat (Nat.mul a b))) (fun b => wrapF k (Int.mul (.ofNat a) (.negSucc b))) y) (fun a => wrapF k (Int.mul (.negSucc a) y)) x
theorem mulF_eq (k : IntKind) (x y : Int) : mulF k x y = wrapF k (Int.mul x y) := by cases x <;> cases y <;> rfl

def bitW : IntKind → Nat
  | .i64 => 64
  | .u64 => 64
  | .u8 => 8
  | _ => 0
/-- Bits of numbers that are not negative: f on numbers; s otherwise. -/
def bitF (k : IntKind) (f : Nat → Nat → Nat) (s x y : Int) : Int := Int.rec (fun a => Int.rec (fun b => Bool.rec s (Bool.rec s (.ofNat (f a b)) (Nat.ble (Nat.succ b) (limP k))) (Nat.ble (Nat.succ a) (limP k))) (fun _ => s) y) (fun _ => s) x
theorem bitF_eq {k : IntKind} {f : Nat → Nat → Nat} {s x y : Int} (h : ∀ a b : Nat, a < limP k → b < limP k → x = (a : Int) → y = (b : Int) → ((f a b : Nat) : Int) = s) : bitF k f s x y = s := by
  cases x with
  | negSucc a => rfl
  | ofNat a =>
    cases y with
    | negSucc b => rfl
    | ofNat b =>
      show (Bool.rec s (Bool.rec s (.ofNat (f a b)) (Nat.ble (Nat.succ b) (limP k))) (Nat.ble (Nat.succ a) (limP k)) : Int) = _
      cases h1 : Nat.ble (Nat.succ a) (limP k) with
      | false => rfl
      | true =>
        cases h2 : Nat.ble (Nat.succ b) (limP k) with
        | false => rfl
        | true => exact h a b (Nat.le_of_ble_eq_true h1) (Nat.le_of_ble_eq_true h2) rfl rfl
theorem limP_wrap {k : IntKind} {n : Nat} (h : n < limP k) : k.wrap (n : Int) = (n : Int) := by
  rw [← wrapF_eq]
  show (Bool.rec (k.wrap (.ofNat n)) (.ofNat n) (Nat.ble (Nat.succ n) (limP k)) : Int) = _
  rw [Nat.ble_eq_true_of_le h]
  rfl
theorem limP_pow {k : IntKind} (h : limP k ≠ 0) : (limP k = 2 ^ k.bits ∨ 2 * limP k = 2 ^ k.bits) ∧ ∃ m, limP k = 2 ^ m := by
  cases k <;> first | exact absurd rfl h | exact ⟨by decide, 63, by decide⟩ | exact ⟨by decide, 64, by decide⟩ | exact ⟨by decide, 8, by decide⟩
theorem limP_le {k : IntKind} : limP k ≤ 2 ^ k.bits := by cases k <;> decide
theorem ofInt_nat {n a : Nat} (h : a < 2 ^ n) : (BitVec.ofInt n (a : Int)).toNat = a := by
  rw [BitVec.ofInt_natCast, BitVec.toNat_ofNat, Nat.mod_eq_of_lt h]
theorem land_eq {k : IntKind} {a b : Nat} (ha : a < limP k) (hb : b < limP k) : ((Nat.land a b : Nat) : Int) = k.wrap ((BitVec.ofInt k.bits (a : Int)) &&& (BitVec.ofInt k.bits (b : Int))).toNat := by
  rw [BitVec.toNat_and, ofInt_nat (Nat.lt_of_lt_of_le ha limP_le), ofInt_nat (Nat.lt_of_lt_of_le hb limP_le)]
  exact (limP_wrap (Nat.lt_of_le_of_lt Nat.and_le_left ha)).symm
theorem lor_eq {k : IntKind} {a b : Nat} (ha : a < limP k) (hb : b < limP k) : ((Nat.lor a b : Nat) : Int) = k.wrap ((BitVec.ofInt k.bits (a : Int)) ||| (BitVec.ofInt k.bits (b : Int))).toNat := by
  rw [BitVec.toNat_or, ofInt_nat (Nat.lt_of_lt_of_le ha limP_le), ofInt_nat (Nat.lt_of_lt_of_le hb limP_le)]
  obtain ⟨_, m, hm⟩ := limP_pow (k := k) (by omega)
  exact (limP_wrap (by rw [hm] at ha hb ⊢; exact Nat.or_lt_two_pow ha hb)).symm
theorem xor_eq {k : IntKind} {a b : Nat} (ha : a < limP k) (hb : b < limP k) : ((Nat.xor a b : Nat) : Int) = k.wrap ((BitVec.ofInt k.bits (a : Int)) ^^^ (BitVec.ofInt k.bits (b : Int))).toNat := by
  rw [BitVec.toNat_xor, ofInt_nat (Nat.lt_of_lt_of_le ha limP_le), ofInt_nat (Nat.lt_of_lt_of_le hb limP_le)]
  obtain ⟨_, m, hm⟩ := limP_pow (k := k) (by omega)
  exact (limP_wrap (by rw [hm] at ha hb ⊢; exact Nat.xor_lt_two_pow ha hb)).symm
theorem anot_eq {k : IntKind} {a b : Nat} (ha : a < limP k) (hb : b < limP k) : ((Nat.xor a (Nat.land a b) : Nat) : Int) = k.wrap ((BitVec.ofInt k.bits (a : Int)) &&& ~~~ (BitVec.ofInt k.bits (b : Int))).toNat := by
  have ha' := Nat.lt_of_lt_of_le ha limP_le
  have hb' := Nat.lt_of_lt_of_le hb limP_le
  rw [BitVec.toNat_and, BitVec.toNat_not, ofInt_nat ha', ofInt_nat hb']
  have e : a &&& (2 ^ k.bits - 1 - b) = Nat.xor a (Nat.land a b) := by
    apply Nat.eq_of_testBit_eq
    intro i
    have h1 : (2 ^ k.bits - 1 - b).testBit i = (decide (i < k.bits) && !b.testBit i) := by
      rw [Nat.sub_sub, Nat.add_comm 1 b]; exact Nat.testBit_two_pow_sub_succ hb' i
    have h2 : (Nat.xor a (Nat.land a b)).testBit i = ((a.testBit i) ^^ (a.testBit i && b.testBit i)) := by
      show (a ^^^ (a &&& b)).testBit i = _
      rw [Nat.testBit_xor, Nat.testBit_and]
    rw [Nat.testBit_and, h1, h2]
    by_cases hi : i < k.bits
    · simp only [hi, decide_true, Bool.true_and]
      cases a.testBit i <;> cases b.testBit i <;> rfl
    · have : a.testBit i = false := Nat.testBit_lt_two_pow (Nat.lt_of_lt_of_le ha' (Nat.pow_le_pow_right (by decide) (by omega)))
      simp [this]
  rw [e]
  refine (limP_wrap (Nat.lt_of_le_of_lt ?_ ha)).symm
  rw [← e]; exact Nat.and_le_left
def minF (a b : Nat) : Nat := Bool.rec b a (Nat.ble a b)
theorem minF_eq (a b : Nat) : minF a b = min a b := by
  unfold minF
  cases h : Nat.ble a b with
  | false => show b = _; have : ¬ a ≤ b := fun q => by rw [Nat.ble_eq_true_of_le q] at h; cases h
             omega
  | true => have := Nat.le_of_ble_eq_true h; show a = _; omega
def shlF (k : IntKind) (x y : Int) : Int := Int.rec (fun a => Int.rec (fun b => wrapF k (.ofNat (Nat.mul a (Nat.pow 2 (minF b k.bits))))) (fun _ => k.wrap (x * 2 ^ (min y.toNat k.bits))) y) (fun _ => k.wrap (x * 2 ^ (min y.toNat k.bits))) x
theorem shlF_eq (k : IntKind) (x y : Int) : shlF k x y = k.wrap (x * 2 ^ (min y.toNat k.bits)) := by
  cases x with
  | negSucc a => rfl
  | ofNat a =>
    cases y with
    | negSucc b => rfl
    | ofNat b =>
      show wrapF k (.ofNat (Nat.mul a (Nat.pow 2 (minF b k.bits)))) = _
      rw [wrapF_eq, minF_eq]
      congr 1
def shrF (k : IntKind) (x y : Int) : Int := Int.rec (fun a => Int.rec (fun b => .ofNat (Nat.div a (Nat.pow 2 (minF b k.bits)))) (fun _ => x.fdiv (2 ^ (min y.toNat k.bits))) y) (fun _ => x.fdiv (2 ^ (min y.toNat k.bits))) x
theorem shrF_eq (k : IntKind) (x y : Int) : shrF k x y = x.fdiv (2 ^ (min y.toNat k.bits)) := by
  cases x with
  | negSucc a => rfl
  | ofNat a =>
    cases y with
    | negSucc b => rfl
    | ofNat b =>
      show ((Nat.div a (Nat.pow 2 (minF b k.bits)) : Nat) : Int) = (a : Int).fdiv (2 ^ (min b k.bits))
      rw [minF_eq, Int.fdiv_eq_ediv_of_nonneg _ (by exact_mod_cast Nat.zero_le _)]
      have : ((2 : Int) ^ (min b k.bits)) = ((2 ^ (min b k.bits) : Nat) : Int) := by rw [Int.natCast_pow]; try rfl
      rw [this]; first | rfl | (rw [← Int.natCast_div]; rfl)
def quoF (k : IntKind) (x y : Int) : Int := Int.rec (fun a => Int.rec (fun b => wrapF k (.ofNat (Nat.div a b))) (fun b => k.wrap (x.tdiv y)) y) (fun _ => k.wrap (x.tdiv y)) x
theorem quoF_eq (k : IntKind) (x y : Int) : quoF k x y = k.wrap (x.tdiv y) := by
  cases x with
  | negSucc a => rfl
  | ofNat a =>
    cases y with
    | negSucc b => rfl
    | ofNat b => show wrapF k (.ofNat (Nat.div a b)) = _; rw [wrapF_eq]; rfl
def remF (x y : Int) : Int := Int.rec (fun a => Int.rec (fun b => .ofNat (Nat.mod a b)) (fun b => x.tmod y) y) (fun _ => x.tmod y) x
theorem remF_eq (x y : Int) : remF x y = x.tmod y := by cases x <;> cases y <;> rfl

def IntKind.same (k k' : IntKind) : Bool := k == k'
def e0 (v : AV) : Option Ef := some ⟨v, [], []⟩
def ibin (op : BinOp) : IntKind → IntKind → Int → Int → Option Ef := BinOp.rec (motive := fun _ => IntKind → IntKind → Int → Int → Option Ef)
  (fun k k' x y => okB (IntKind.same k k') (e0 (.int k (addF k x y))))
  (fun k k' x y => okB (IntKind.same k k') (e0 (.int k (subF k x y))))
  (fun k k' x y => okB (IntKind.same k k') (e0 (.int k (mulF k x y))))
  (fun k k' x y => okB (IntKind.same k k') (okB (Bool.not (eqI y (.ofNat 0))) (e0 (.int k (quoF k x y)))))
  (fun k k' x y => okB (IntKind.same k k') (okB (Bool.not (eqI y (.ofNat 0))) (e0 (.int k (remF x y)))))
  (fun k k' x y => okB (IntKind.same k k') (e0 (.int k (bitF k Nat.land (k.wrap ((BitVec.ofInt k.bits x) &&& (BitVec.ofInt k.bits y)).toNat) x y))))
  (fun k k' x y => okB (IntKind.same k k') (e0 (.int k (bitF k Nat.lor (k.wrap ((BitVec.ofInt k.bits x) ||| (BitVec.ofInt k.bits y)).toNat) x y))))
  (fun k k' x y => okB (IntKind.same k k') (e0 (.int k (bitF k Nat.xor (k.wrap ((BitVec.ofInt k.bits x) ^^^ (BitVec.ofInt k.bits y)).toNat) x y))))
  (fun k k' x y => okB (ltI (.negSucc 0) y) (e0 (.int k (shlF k x y))))
  (fun k k' x y => okB (ltI (.negSucc 0) y) (e0 (.int k (shrF k x y))))
  (fun k k' x y => okB (IntKind.same k k') (e0 (.int k (bitF k (fun a b => Nat.xor a (Nat.land a b)) (k.wrap ((BitVec.ofInt k.bits x) &&& ~~~ (BitVec.ofInt k.bits y)).toNat) x y))))
  (fun k k' x y => okB (IntKind.same k k') (e0 (.bool (eqI x y))))
  (fun k k' x y => okB (IntKind.same k k') (e0 (.bool (Bool.not (eqI x y)))))
  (fun k k' x y => okB (IntKind.same k k') (e0 (.bool (ltI x y))))
  (fun k k' x y => okB (IntKind.same k k') (e0 (.bool (Bool.not (ltI y x)))))
  (fun k k' x y => okB (IntKind.same k k') (e0 (.bool (ltI y x))))
  (fun k k' x y => okB (IntKind.same k k') (e0 (.bool (Bool.not (ltI x y)))))
  op
theorem ibin_eq (X : Cx) (op : BinOp) (t : Nat) (k k' : IntKind) (x y : Int) : ibin op k k' x y = xbin X op t (.int k x) (.int k' y) := by
  have h0 : ltI (.negSucc 0) y = decide (0 ≤ y) := by
    rw [ltI_eq]
    have : (Int.negSucc 0 < y) ↔ 0 ≤ y := by omega
    exact decide_eq_decide.2 this
  have hy : Bool.not (eqI y (.ofNat 0)) = !(y == 0) := by rw [eqI_eq]; rfl
  have b1 := bitF_eq (k := k) (f := Nat.land) (s := k.wrap ((BitVec.ofInt k.bits x) &&& (BitVec.ofInt k.bits y)).toNat) (x := x) (y := y) fun a b ha hb e1 e2 => by subst e1 e2; exact land_eq ha hb
  have b2 := bitF_eq (k := k) (f := Nat.lor) (s := k.wrap ((BitVec.ofInt k.bits x) ||| (BitVec.ofInt k.bits y)).toNat) (x := x) (y := y) fun a b ha hb e1 e2 => by subst e1 e2; exact lor_eq ha hb
  have b3 := bitF_eq (k := k) (f := Nat.xor) (s := k.wrap ((BitVec.ofInt k.bits x) ^^^ (BitVec.ofInt k.bits y)).toNat) (x := x) (y := y) fun a b ha hb e1 e2 => by subst e1 e2; exact xor_eq ha hb
  have b4 := bitF_eq (k := k) (f := fun a b => Nat.xor a (Nat.land a b)) (s := k.wrap ((BitVec.ofInt k.bits x) &&& ~~~ (BitVec.ofInt k.bits y)).toNat) (x := x) (y := y) fun a b ha hb e1 e2 => by subst e1 e2; exact anot_eq ha hb
  have ok2 : ∀ (c d : Bool) (z : Option Ef), okB c (okB d z) = okI (c && d) z := fun c d z => by cases c <;> cases d <;> rfl
  cases op <;> simp only [ibin, xbin, bin2F, bin2, addF_eq, subF_eq, mulF_eq, shlF_eq, shrF_eq, quoF_eq, remF_eq, okB_eq, h0, b1, b2, b3, b4, e0, IntKind.same, Option.map_some] <;> try rfl
  all_goals (rw [← okB_eq, ← okB_eq, ok2, hy])

/-! ### operands -/

def evE (e : ET) (x : Operand) : Option AV := Operand.rec (motive := fun _ => ET → Option AV) (fun t e => e.get t) (fun v _ => ofConst v) (fun g _ => (tableOf tables g).map fun cs => .eptr [.agg cs] 0 0) (fun f _ => some (.fn f [])) x e
theorem evE_eq (e : ET) (x : Operand) : evE e x = ev e.l x := by
  cases x with
  | tmp t => exact (ET.l_get e t).symm
  | _ => rfl
def evsG (g : Operand → Option AV) (xs : List Operand) : Option (List AV) := List.rec (some []) (fun x _ ih => bindV (g x) fun v => Option.rec none (fun vs => some (v :: vs)) ih) xs
theorem evsG_eq (env : Env) : ∀ xs, evsG (ev env) xs = evs env xs
  | [] => rfl
  | x :: r => by
    show bindV (ev env x) (fun v => Option.rec none (fun vs => some (v :: vs)) (evsG (ev env) r)) = _
    rw [evsG_eq env r]
    simp only [evs]
    cases ev env x with
    | none => rfl
    | some v => cases evs env r <;> rfl
def evpG (g : Operand → Option AV) (xs : List (Nat × Operand)) : Option (List (Nat × AV)) := List.rec (some []) (fun x _ ih => bindV (g x.2) fun v => Option.rec none (fun vs => some ((x.1, v) :: vs)) ih) xs
theorem evpG_eq (env : Env) : ∀ xs, evpG (ev env) xs = evp env xs
  | [] => rfl
  | (i, x) :: r => by
    show bindV (ev env x) (fun v => Option.rec none (fun vs => some ((i, v) :: vs)) (evpG (ev env) r)) = _
    rw [evpG_eq env r]
    simp only [evp]
    cases ev env x with
    | none => rfl
    | some v => cases evp env r <;> rfl

/-! ### operations -/

def buildG (X : Cx) (t : Nat) (ps : List (Nat × Operand)) (g : Operand → Option AV) : Option Ef := (X.ti t).bind fun i => (evpG g ps).bind fun aps => match i.zav with
  | .agg zs => (match i.desc with
    | .struct fs => okI (!i.pl.isEmpty) ((afill (fun (j : Nat) => i.pl[j]?) zs aps).map fun cs => ⟨.agg cs, [], []⟩)
    | .array len e => (X.ti e).bind fun ie => (afill (fun (j : Nat) => some (j * ie.size, ie.size)) zs aps).map fun cs => ⟨.agg cs, [], []⟩
    | _ => none)
  | _ => none
theorem buildG_eq (X : Cx) (t : Nat) (ps : List (Nat × Operand)) (env : Env) : buildG X t ps (ev env) = xbuild X t ps env := by unfold buildG xbuild; rw [evpG_eq]; rfl
def bsliceG (X : Cx) (t len : Nat) (ps : List (Nat × Operand)) (g : Operand → Option AV) (look : Nat → Blk) (nb : Nat) : Option Ef := (X.ti t).bind fun it => match it.desc with
  | .slice e => (X.ti e).bind fun ie => okI (inRow ps 0 && Nat.beq (ps.map Prod.snd).length len && Nat.blt 0 ie.size && Nat.blt 0 len && Nat.ble (len * ie.size) 16777216)
      ((evsG g (ps.map Prod.snd)).bind fun avs => okI (szAll ie.size avs) (some ⟨.slc nb 0 ie.size len (some len), [(nb, .gone)], [(nb, .rows ie.size avs)]⟩))
  | _ => none
def bslG (X : Cx) (t len : Nat) (ps : List (Nat × Operand)) (g : Operand → Option AV) (look : Nat → Blk) (nb : Nat) : Option Ef := match len, ps with
  | 0, [] => xbs0 X t
  | len, ps => bsliceG X t len ps g look nb
theorem bslG_eq (X : Cx) (t len : Nat) (ps : List (Nat × Operand)) (env : Env) (look : Nat → Blk) (nb : Nat) : bslG X t len ps (ev env) look nb = xbsl X t len ps env look nb := by
  unfold bslG xbsl
  split
  · rfl
  · unfold bsliceG xbslice; simp only [evsG_eq]; rfl
def loadG (X : Cx) (t : Nat) (look : Nat → Blk) (p : AV) : Option Ef := AV.sel (fun _ _ => none) (fun _ => none)
  (fun b k => bindT (X.ti t) fun i => Blk.selC (fun cs => Bool.rec (Option.rec none (fun v => some ⟨v, [(b, .cells cs)], []⟩) (nth cs k)) (okI (lenGe cs (k + i.size)) (some ⟨.agg ((cs.drop k).take i.size), [(b, .cells cs)], []⟩)) (isAggD i.desc)) none (look b)) (xload X t look p) p
theorem loadG_eq (X : Cx) (t : Nat) (look : Nat → Blk) (p : AV) : loadG X t look p = xload X t look p := by
  cases p with
  | ptr b k =>
    show bindT (X.ti t) _ = _
    unfold xload
    rw [bindT_eq]
    refine congrArg _ (funext fun i => ?_)
    dsimp only
    generalize look b = q
    cases q with
    | cells cs =>
      dsimp only [Blk.selC]
      cases isAggD i.desc with
      | true => rfl
      | false => dsimp only; cases nth cs k <;> rfl
    | _ => rfl
  | _ => first | rfl | (show none = xload X t look _; unfold xload; cases X.ti t <;> rfl)
def store1 (X : Cx) (t : Nat) (look : Nat → Blk) (p v : AV) : Option Ef := AV.sel (fun _ _ => none) (fun _ => none)
  (fun b k => bindT (X.ti t) fun i => okB (Nat.beq 1 i.size) (Blk.selC (fun cs => Option.rec none (fun cs' => some ⟨.und, [(b, .cells cs)], [(b, .cells cs')]⟩) (sets cs k [v])) none (look b))) (xstore X t look p v) p
def storeG (X : Cx) (t : Nat) (look : Nat → Blk) (p v : AV) : Option Ef := AV.sel (fun _ _ => store1 X t look p v) (fun _ => store1 X t look p v) (fun _ _ => store1 X t look p v) (xstore X t look p v) v
theorem store1_eq (X : Cx) (t : Nat) (look : Nat → Blk) (p v : AV) (hv : v.cells = [v]) (h1 : v.one = true) : store1 X t look p v = xstore X t look p v := by
  have hc : ∀ i : TInfo, (Nat.beq v.cells.length i.size && Nat.blt 0 i.size && v.cells.all AV.one) = Nat.beq 1 i.size := fun i => by
    rw [hv]
    simp only [List.length_singleton, List.all_cons, List.all_nil, h1, Bool.and_true]
    cases h : Nat.beq 1 i.size with
    | false => rfl
    | true => rw [← Nat.eq_of_beq_eq_true h]; rfl
  cases p with
  | ptr b k =>
    show bindT (X.ti t) _ = _
    unfold xstore
    rw [bindT_eq]
    refine congrArg _ (funext fun i => ?_)
    rw [hc, okB_eq]
    refine congrArg _ ?_
    rw [hv]
    dsimp only
    generalize look b = q
    cases q with
    | cells cs => dsimp only [Blk.selC]; cases sets cs k [v] <;> rfl
    | _ => rfl
  | _ => first | rfl | (show none = xstore X t look _ v; unfold xstore; cases X.ti t <;> first | rfl | (simp only [Option.bind_some]; exact (by cases hq : (Nat.beq _ _ && _ && _) <;> rfl)))
theorem storeG_eq (X : Cx) (t : Nat) (look : Nat → Blk) (p v : AV) : storeG X t look p v = xstore X t look p v := by
  cases v <;> first | rfl | exact store1_eq X t look p _ rfl rfl
def fieldG (X : Cx) (t j : Nat) (look : Nat → Blk) (p : AV) : Option Ef := AV.sel (fun _ _ => none) (fun _ => none)
  (fun b k => bindT (X.ti t) fun i => Option.rec none (fun off => some ⟨.ptr b (Nat.add k off), [], []⟩) (i.offs[j]?)) (xfield X t j look p) p
theorem fieldG_eq (X : Cx) (t j : Nat) (look : Nat → Blk) (p : AV) : fieldG X t j look p = xfield X t j look p := by
  cases p with
  | ptr b k =>
    show bindT (X.ti t) _ = _
    unfold xfield
    rw [bindT_eq]
    refine congrArg _ (funext fun i => ?_)
    cases i.offs[j]? <;> rfl
  | _ => first | rfl | (show none = xfield X t j look _; unfold xfield; cases X.ti t with
    | none => rfl
    | some i => simp only [Option.bind_some]; cases i.offs[j]? <;> rfl)
def binG (X : Cx) (op : BinOp) (t : Nat) (look : Nat → Blk) (a b : AV) : Option Ef := AV.sel (fun k x => AV.sel (fun k' y => ibin op k k' x y) (fun _ => xbin X op t a b) (fun _ _ => xbin X op t a b) (match b with
    | .nils => xsn X op t a look
    | b => xbin X op t a b) b) (fun _ => (match b with
    | .nils => xsn X op t a look
    | b => xbin X op t a b)) (fun _ _ => (match b with
    | .nils => xsn X op t a look
    | b => xbin X op t a b)) (match b with
    | .nils => xsn X op t a look
    | b => xbin X op t a b) a
theorem binG_eq (X : Cx) (op : BinOp) (t : Nat) (look : Nat → Blk) (a b : AV) : binG X op t look a b = (match b with
    | .nils => xsn X op t a look
    | b => xbin X op t a b) := by
  cases a with
  | int k x =>
    cases b with
    | int k' y => exact ibin_eq X op t k k' x y
    | _ => rfl
  | _ => rfl
def convG (X : Cx) (t u : Nat) (a : AV) : Option Ef := (X.ti t).bind fun it => (X.ti u).bind fun iu => match it.desc, iu.desc, a with
  | .int _, .int k', .int _ n => some ⟨.int k' (wrapF k' n), [], []⟩
  | _, _, _ => none
theorem convG_eq (X : Cx) (t u : Nat) (a : AV) : convG X t u a = xconv X t u a := by unfold convG xconv; simp only [wrapF_eq]; rfl
def mkfG (fn : Fn) (first : List Operand) (xs : List Operand) (g : Operand → Option AV) : Option Ef := match fn, first with
  | .func f, [] => (evsG g xs).map fun vs => ⟨.fn f vs, [], []⟩
  | _, _ => none
def bndG (g : Operand → Option AV) (d : Nat) : Option Operand → Option Nat
  | none => some d
  | some x => match g x with
    | some (.int _ n) => match decide (0 ≤ n) with
      | true => some n.toNat
      | false => none
    | _ => none
theorem bndG_eq (env : Env) (d : Nat) (x : Option Operand) : bndG (ev env) d x = bndA env d x := by cases x <;> rfl
def sliceG (X : Cx) (t : Nat) (v : AV) (lo hi mx : Option Operand) (g : Operand → Option AV) (look : Nat → Blk) : Option Ef := (X.ti t).bind fun it => match it.desc with
  | .slice e => (X.ti e).bind fun ie => okI (Nat.blt 0 ie.size) ((elems look v).bind fun xsc => okI (szAll ie.size xsc.1) ((bndG g 0 lo).bind fun l => (bndG g xsc.1.length hi).bind fun h => okI (Nat.ble l h && Nat.ble h xsc.1.length) (match mx with
      | none => (cutAV look v xsc.1 xsc.2 l h none).map fun r => ⟨r, epre look v, []⟩
      | some m' => (bndG g 0 (some m')).bind fun m => okI (hi.isSome && Nat.ble h m && (Nat.ble m xsc.1.length || (match xsc.2 with | some c => Nat.ble m c | none => false))) ((cutAV look v xsc.1 xsc.2 l h (some m)).map fun r => ⟨r, epre look v, []⟩))))
  | _ => none
theorem sliceG_eq (X : Cx) (t : Nat) (v : AV) (lo hi mx : Option Operand) (env : Env) (look : Nat → Blk) : sliceG X t v lo hi mx (ev env) look = xslice X t v lo hi mx env look := by
  unfold sliceG xslice; simp only [bndG_eq]; rfl
def idxG (X : Cx) (t : Nat) (look : Nat → Blk) (p i : AV) : Option Ef := xidx X t look p i
def bltG (X : Cx) (b : Builtin) (args : List Operand) (ts : List TypeId) (g : Operand → Option AV) (look : Nat → Blk) (nb : Nat) : Option Ef := match b, args, ts with
  | .len, [x], [t] => (g x).bind fun a => xlen X t look a
  | .append, [x, y], [t, t'] => okI (Nat.beq t t') ((g x).bind fun a => (g y).bind fun b => xapp X t a b look nb)
  | .max, [x, y], _ => (g x).bind fun a => (g y).bind fun b => xmx a b mx
  | .min, [x, y], _ => (g x).bind fun a => (g y).bind fun b => xmx a b mn
  | _, _, _ => none
theorem bltG_eq (X : Cx) (b : Builtin) (args : List Operand) (ts : List TypeId) (env : Env) (look : Nat → Blk) (nb : Nat) : bltG X b args ts (ev env) look nb = xblt X b args ts env look nb := rfl
def callG (X : Cx) (c : Call) (g : Operand → Option AV) (look : Nat → Blk) (nb : Nat) : Option Ef := match c with
  | ⟨.builtin b, args, ts⟩ => bltG X b args.toList ts.toList g look nb
  | _ => none

def xopG (X : Cx) (o : Op) : (Operand → Option AV) → (Nat → Blk) → Nat → Option Ef := Op.rec (motive := fun _ => (Operand → Option AV) → (Nat → Blk) → Nat → Option Ef)
  (fun x g look nb => mapV (g x))
  (fun x g look nb => mapV (g x))
  (fun c a b0 g look nb => bindV (g c) fun c => AV.sel (fun _ _ => none) (fun b => Bool.rec (mapV (g b0)) (mapV (g a)) b) (fun _ _ => none) none c)
  (fun t g look nb => xalloc X t nb)
  (fun t x g look nb => xbox (g x) nb)
  (fun t ps g look nb => buildG X t ps.toList g)
  (fun t len ps g look nb => bslG X t len ps.toList g look nb)
  (fun _ _ _ _ g look nb => none)
  (fun t x g look nb => bindV (g x) fun p => loadG X t look p)
  (fun t x y g look nb => bindV (g x) fun p => bindV (g y) fun v => storeG X t look p v)
  (fun _ g look nb => none)
  (fun _ g look nb => none)
  (fun x g look nb => bindV (g x) fun a => xnil a)
  (fun op t x y t' g look nb => bindV (g x) fun a => bindV (g y) fun b => binG X op t look a b)
  (fun op t x g look nb => bindV (g x) fun a => xun op a)
  (fun t u x g look nb => bindV (g x) fun a => convG X t u a)
  (fun _ _ g look nb => none)
  (fun _ _ g look nb => none)
  (fun fn first xs g look nb => mkfG fn first.toList xs.toList g)
  (fun t r g look nb => (match r with | none => xmkmap nb | some _ => none))
  (fun _ _ g look nb => none)
  (fun t x y g look nb => bindV (g x) fun a => bindV (g y) fun b => xmks X t a b nb)
  (fun t x lo hi mx g look nb => bindV (g x) fun v => sliceG X t v lo hi mx g look)
  (fun t x j g look nb => bindV (g x) fun p => fieldG X t j look p)
  (fun t x j g look nb => bindV (g x) fun p => xfieldV X t j p)
  (fun t x y g look nb => bindV (g x) fun p => bindV (g y) fun i => idxG X t look p i)
  (fun t x y g look nb => bindV (g x) fun p => bindV (g y) fun i => xindex X t p i)
  (fun t x y ok g look nb => bindV (g x) fun m => bindV (g y) fun k => xlook X t look m k ok)
  (fun t x y z g look nb => bindV (g x) fun m => bindV (g y) fun k => bindV (g z) fun v => xmapu X t look m k v)
  (fun _ _ _ g look nb => none)
  (fun _ _ _ _ g look nb => none)
  (fun _ _ g look nb => none)
  (fun _ _ g look nb => none)
  (fun _ g look nb => none)
  (fun _ _ _ _ g look nb => none)
  (fun x i g look nb => bindV (g x) fun a => xextr a i)
  (fun c g look nb => callG X c g look nb)
  (fun _ g look nb => none)
  (fun _ g look nb => none)
  (fun _ g look nb => none)
  (fun _ _ g look nb => none)
  (fun _ _ _ g look nb => none)
  (fun _ _ g look nb => none)
  o
theorem xopG_eq (X : Cx) (o : Op) (env : Env) (look : Nat → Blk) (nb : Nat) : xopG X o (ev env) look nb = xop X o env look nb := by
  have hm : ∀ a : Option AV, mapV a = xmove a := fun a => by cases a <;> rfl
  cases o with
  | move x => exact hm _
  | assign x => exact hm _
  | pick c a b =>
    show bindV (ev env c) _ = (ev env c).bind _
    rw [bindV_eq]
    refine congrArg _ (funext fun v => ?_)
    cases v with
    | bool q => cases q <;> first | exact hm _ | rfl
    | _ => rfl
  | alloc t => rfl
  | box t x => rfl
  | build t ps => exact buildG_eq X t ps.toList env
  | buildSlice t len ps => exact bslG_eq X t len ps.toList env look nb
  | load t x =>
    show bindV (ev env x) _ = (ev env x).bind _
    rw [bindV_eq]; exact congrArg _ (funext fun p => loadG_eq X t look p)
  | store t x y =>
    show bindV (ev env x) (fun p => bindV (ev env y) fun v => storeG X t look p v) = (ev env x).bind _
    rw [bindV_eq]
    refine congrArg _ (funext fun p => ?_)
    rw [bindV_eq]; exact congrArg _ (funext fun v => storeG_eq X t look p v)
  | nilCheck x => show bindV _ _ = _; rw [bindV_eq]; rfl
  | binOp op t x y t' =>
    show bindV (ev env x) (fun p => bindV (ev env y) fun v => binG X op t look p v) = (ev env x).bind _
    rw [bindV_eq]
    refine congrArg _ (funext fun p => ?_)
    rw [bindV_eq]; exact congrArg _ (funext fun v => binG_eq X op t look p v)
  | unOp op t x => show bindV _ _ = _; rw [bindV_eq]; rfl
  | convert t u x => show bindV _ _ = _; rw [bindV_eq]; exact congrArg _ (funext fun v => convG_eq X t u v)
  | makeFunc fn first xs =>
    obtain ⟨first⟩ := first
    show mkfG fn first xs.toList (ev env) = _
    cases fn with
    | func f =>
      cases first with
      | nil => show (evsG (ev env) xs.toList).map _ = _; rw [evsG_eq]; rfl
      | cons => rfl
    | _ => cases first <;> rfl
  | makeMap t r => cases r <;> rfl
  | makeSlice t x y => show bindV (ev env x) (fun p => bindV (ev env y) fun v => xmks X t p v nb) = _; simp only [bindV_eq]; rfl
  | slice t x lo hi mx => show bindV _ _ = _; rw [bindV_eq]; exact congrArg _ (funext fun v => sliceG_eq X t v lo hi mx env look)
  | fieldAddr t x j => show bindV _ _ = _; rw [bindV_eq]; exact congrArg _ (funext fun v => fieldG_eq X t j look v)
  | field t x j => show bindV _ _ = _; rw [bindV_eq]; rfl
  | indexAddr t x y => show bindV (ev env x) (fun p => bindV (ev env y) fun v => idxG X t look p v) = _; simp only [bindV_eq]; rfl
  | index t x y => show bindV (ev env x) (fun p => bindV (ev env y) fun v => xindex X t p v) = _; simp only [bindV_eq]; rfl
  | lookup t x y ok => show bindV (ev env x) (fun p => bindV (ev env y) fun v => xlook X t look p v ok) = _; simp only [bindV_eq]; rfl
  | mapUpdate t x y z => show bindV (ev env x) (fun p => bindV (ev env y) fun v => bindV (ev env z) fun u => xmapu X t look p v u) = _; simp only [bindV_eq]; rfl
  | extract x i => show bindV _ _ = _; rw [bindV_eq]; rfl
  | call c =>
    obtain ⟨cl, args, ts⟩ := c
    cases cl <;> rfl
  | _ => rfl

end
end Go.Proofs.YtelgmdljcbkniaaDoor.Ai
