/- An interpreter of values for the model's code, base text 22: makers, builtins; regions and code by evaluation. -/
import Derived.Test.YtelgmdljcbkniaaDoorB21
namespace Go.Proofs.YtelgmdljcbkniaaDoor.Ai
noncomputable section
open Go
set_option linter.unusedVariables false

section
variable {X : Cx} {o : Oper} {env : Env} {bs : List Blk} {K : Ef → Prop}

def moveW (a : Option AV) (K : Ef → Prop) : Prop := optP a fun v => K ⟨v, [], []⟩
theorem moveW_ok {x : Operand} (ho : o.op = .move x ∨ o.op = .assign x) (h : moveW (ev env x) K) : ∃ e, Sd X.P o env bs e ∧ K e := by
  replace h := optP_inv h
  obtain ⟨v, hv, h⟩ := h
  rcases ho with ho | ho
  · exact ⟨_, .q fun env' bs0 ha => op_move ho ((ha x (by simp [ho, Op.operands])).trans hv), h⟩
  · exact ⟨_, .q fun env' bs0 ha => op_assign ho ((ha x (by simp [ho, Op.operands])).trans hv), h⟩

def allocW (X : Cx) (t : Nat) (bs : List Blk) (K : Ef → Prop) : Prop := optP (X.ti t) fun i => natP bs.length fun k => goneP (bat bs k) (K ⟨.ptr k 0, [(k, .gone)], [(k, .cells i.zav.cells)]⟩)
theorem allocW_ok {t : Nat} (ho : o.op = .alloc t) (h : allocW X t bs K) : ∃ e, Sd X.P o env bs e ∧ K e := by
  replace h := optP_inv h
  obtain ⟨i, hi, h⟩ := h
  replace h := natP_inv h
  replace h := goneP_inv h
  obtain ⟨hb, h⟩ := h
  have ht := X.ok t i hi
  exact ⟨_, .w hb fun env' bs0 ha hb0 => op_alloc_b ht.inf ht.zav.1 ht.zav.2.1 ho hb0, h⟩

def boxW (a : Option AV) (bs : List Blk) (K : Ef → Prop) : Prop := optP a fun v => boolP (v.cells.all AV.one) (natP bs.length fun k => goneP (bat bs k) (copyP v.cells fun cs => K ⟨.ptr k 0, [(k, .gone)], [(k, .cells cs)]⟩)) False
theorem boxW_ok {t : Nat} {x : Operand} (ho : o.op = .box t x) (h : boxW (ev env x) bs K) : ∃ e, Sd X.P o env bs e ∧ K e := by
  replace h := optP_inv h
  obtain ⟨v, hv, h⟩ := h
  replace h := boolP_inv h; rcases h with ⟨h1, h⟩ | ⟨_, h⟩
  · replace h := natP_inv h
    replace h := goneP_inv h
    obtain ⟨hb, h⟩ := h
    have h' := copyP_inv (K := fun cs => K ⟨.ptr bs.length 0, [(bs.length, .gone)], [(bs.length, .cells cs)]⟩) h
    exact ⟨_, .w hb fun env' bs0 ha hb0 => op_box_b ho ((ha x (by simp [ho, Op.operands])).trans hv) h1 hb0, h'⟩
  · exact h.elim

def buildW (X : Cx) (t : Nat) (ps : List (Nat × Operand)) (env : Env) (K : Ef → Prop) : Prop := optP (X.ti t) fun i => optP (evp env ps) fun aps => match i.zav with
  | .agg zs => (match i.desc with
    | .struct fs => boolP (i.pl.isEmpty) False (optP (afill (fun (j : Nat) => i.pl[j]?) zs aps) fun cs => copyP cs fun cs => K ⟨.agg cs, [], []⟩)
    | .array len e => optP (X.ti e) fun ie => optP (afill (fun (j : Nat) => some (j * ie.size, ie.size)) zs aps) fun cs => copyP cs fun cs => K ⟨.agg cs, [], []⟩
    | _ => False)
  | _ => False
theorem buildW_ok {t : Nat} {ps : Array (Nat × Operand)} (ho : o.op = .build t ps) (h : buildW X t ps.toList env K) : ∃ e, Sd X.P o env bs e ∧ K e := by
  replace h := optP_inv h
  obtain ⟨i, hi, h⟩ := h
  replace h := optP_inv h
  obtain ⟨aps, hp, h⟩ := h
  have ht := X.ok t i hi
  have hops : ∀ env', (∀ x ∈ o.op.operands.toList, ev env' x = ev env x) → evp env' ps.toList = some aps := fun env' ha => evp_congr hp fun x hx => ha x (by simpa [ho, Op.operands] using hx)
  have ho' : o.op = .build t ps.toList.toArray := by simpa using ho
  have hz := ht.zav.1
  split at h
  · rename_i zs hzs
    rw [hzs] at hz
    split at h
    · rename_i fs hd
      have hin := ht.inf
      rw [hd] at hin
      replace h := boolP_inv h; rcases h with ⟨_, h⟩ | ⟨hne, h⟩
      · exact h.elim
      · replace h := optP_inv h
        obtain ⟨cs, hcs, h⟩ := h
        have h' := copyP_inv (K := fun cs => K ⟨.agg cs, [], []⟩) h
        obtain ⟨fs', hd', hpl⟩ := ht.pl (by intro e; rw [e] at hne; cases hne)
        obtain rfl : fs = fs' := by rw [hd] at hd'; simpa using hd'
        exact ⟨_, .q fun env' bs0 ha => op_build hin hpl hz ho' (hops env' ha) hcs, h'⟩
    · rename_i len e hd
      have hin := ht.inf
      rw [hd] at hin
      replace h := optP_inv h
      obtain ⟨ie, hie, h⟩ := h
      replace h := optP_inv h
      obtain ⟨cs, hcs, h⟩ := h
      have h' := copyP_inv (K := fun cs => K ⟨.agg cs, [], []⟩) h
      exact ⟨_, .q fun env' bs0 ha => op_build_a hin (X.ok e ie hie).inf hz ho' (hops env' ha) hcs, h'⟩
    · exact h.elim
  · exact h.elim

/-- The places of a slice literal: one behind the other. -/
def inRow : List (Nat × Operand) → Nat → Bool
  | [], _ => true
  | p :: r, i => Nat.beq p.1 i && inRow r (i + 1)
theorem inRow_eq : ∀ {ps : List (Nat × Operand)} {i : Nat}, inRow ps i = true → ps = ((ps.map Prod.snd).zipIdx i).map fun x => (x.2, x.1)
  | [], _, _ => rfl
  | (j, x) :: r, i, h => by
    simp only [inRow, Bool.and_eq_true] at h
    have e : j = i := Nat.eq_of_beq_eq_true h.1
    subst e
    simp only [List.map_cons, List.zipIdx_cons]
    rw [← inRow_eq h.2]

def bsliceW (X : Cx) (t len : Nat) (ps : List (Nat × Operand)) (env : Env) (bs : List Blk) (K : Ef → Prop) : Prop := optP (X.ti t) fun it => match it.desc with
  | .slice e => optP (X.ti e) fun ie => boolP (inRow ps 0 && Nat.beq (ps.map Prod.snd).length len && Nat.blt 0 ie.size && Nat.blt 0 len && Nat.ble (len * ie.size) 16777216)
      (optP (evs env (ps.map Prod.snd)) fun avs => optP (imms bs avs) fun ds => boolP (szAll ie.size ds) (copyP ds fun ds => K ⟨.lst true ds, gpres bs avs, []⟩) False) False
  | _ => False
theorem bsliceW_ok {t len : Nat} {ps : Array (Nat × Operand)} (ho : o.op = .buildSlice t len ps) (h : bsliceW X t len ps.toList env bs K) : ∃ e, Sd X.P o env bs e ∧ K e := by
  replace h := optP_inv h
  obtain ⟨it, hi, h⟩ := h
  have hu := (X.ok t it hi).inf.und
  split at h
  · rename_i e hd
    rw [hd] at hu
    replace h := optP_inv h
    obtain ⟨ie, hie, h⟩ := h
    replace h := boolP_inv h; rcases h with ⟨hc, h⟩ | ⟨_, h⟩
    · simp only [Bool.and_eq_true] at hc
      obtain ⟨⟨⟨⟨c1, c2⟩, c3⟩, c4⟩, c5⟩ := hc
      replace h := optP_inv h
      obtain ⟨avs, ha1, h⟩ := h
      replace h := optP_inv h
      obtain ⟨ds, hds, h⟩ := h
      replace h := boolP_inv h; rcases h with ⟨hsz, h⟩ | ⟨_, h⟩
      · have h' := copyP_inv (K := fun ds => K ⟨.lst true ds, gpres bs avs, []⟩) h
        refine ⟨_, ⟨has_gpres bs avs, fun _ h => by simp at h, fun env' bs0 ha h0 => ?_⟩, h'⟩
        exact op_bslice (s := ⟨env', bs0⟩) hu (X.ok e ie hie).inf (ps := ps.toList) (by simpa using ho) (inRow_eq c1) (Nat.eq_of_beq_eq_true c2) (by simpa [Nat.blt_eq] using c3) (by simpa [Nat.blt_eq] using c4) (Nat.le_of_ble_eq_true c5)
          (evs_congr ha1 fun x hx => ha x (by simpa [ho, Op.operands] using hx)) (imms_congr hds h0) hsz
      · exact h.elim
    · exact h.elim
  · exact h.elim

def mkfW (f : Nat) (xs : List Operand) (env : Env) (K : Ef → Prop) : Prop := optP (evs env xs) fun vs => K ⟨.fn f vs, [], []⟩
theorem mkfW_ok {f : Nat} {xs : Array Operand} (ho : o.op = .makeFunc (.func f) #[] xs) (h : mkfW f xs.toList env K) : ∃ e, Sd X.P o env bs e ∧ K e := by
  replace h := optP_inv h
  obtain ⟨vs, hv, h⟩ := h
  exact ⟨_, .q fun env' bs0 ha => op_mkfunc (xs := xs.toList) (by simpa using ho) (evs_congr hv fun x hx => ha x (by simpa [ho, Op.operands] using hx)), h⟩

def mkmapW (bs : List Blk) (K : Ef → Prop) : Prop := natP bs.length fun k => goneP (bat bs k) (K ⟨.map k, [(k, .gone)], [(k, .map [])]⟩)
theorem mkmapW_ok {t : Nat} (ho : o.op = .makeMap t none) (h : mkmapW bs K) : ∃ e, Sd X.P o env bs e ∧ K e := by
  replace h := natP_inv h
  replace h := goneP_inv h
  obtain ⟨hb, h⟩ := h
  exact ⟨_, .w hb fun env' bs0 ha hb0 => op_mkmap_b ho hb0, h⟩

def mksW (X : Cx) (t : Nat) (a b : AV) (bs : List Blk) (K : Ef → Prop) : Prop := match a, b with
  | .int _ n, .int _ m => optP (X.ti t) fun it => match it.desc with
    | .slice e => optP (X.ti e) fun ie => boolP (Nat.blt 0 ie.size) (Chk (m = n ∧ 0 ≤ n ∧ (ie.bytes : Int) * n ≤ 281474976710656 ∧ n ≤ 9223372036854775807) (natP bs.length fun k => goneP (bat bs k)
        (K ⟨.slc k 0 ie.size n.toNat (some n.toNat), [(k, .gone)], [(k, .rows ie.size (List.replicate n.toNat ie.zav))]⟩))) False
    | _ => False
  | _, _ => False
theorem mksW_ok {t : Nat} {x y : Operand} {a b : AV} (ho : o.op = .makeSlice t x y) (hx : ev env x = some a) (hy : ev env y = some b) (h : mksW X t a b bs K) : ∃ e, Sd X.P o env bs e ∧ K e := by
  have mx : x ∈ o.op.operands.toList := by simp [ho, Op.operands]
  have my : y ∈ o.op.operands.toList := by simp [ho, Op.operands]
  unfold mksW at h
  split at h
  · replace h := optP_inv h
    obtain ⟨it, hi, h⟩ := h
    have hu := (X.ok t it hi).inf.und
    split at h
    · rename_i e hd
      rw [hd] at hu
      replace h := optP_inv h
      obtain ⟨ie, hie, h⟩ := h
      have he := X.ok e ie hie
      replace h := boolP_inv h; rcases h with ⟨h0, h⟩ | ⟨_, h⟩
      · obtain ⟨⟨rfl, g1, g2, g3⟩, h⟩ := h
        replace h := natP_inv h
        replace h := goneP_inv h
        obtain ⟨hb, h⟩ := h
        exact ⟨_, .w hb fun env' bs0 ha hb0 => op_make hu he.inf he.zav.1 he.zav.2.1 he.zav.2.2.1 (by simpa [Nat.blt_eq] using h0) ho ((ha x mx).trans hx) ((ha y my).trans hy) g1 g2 g3 hb0, h⟩
      · exact h.elim
    · exact h.elim
  · exact h.elim

def extrW (a : AV) (i : Nat) (K : Ef → Prop) : Prop := match a with
  | .tup vs => optP (nth vs i) fun v => K ⟨v, [], []⟩
  | _ => False
theorem extrW_ok {x : Operand} {i : Nat} {a : AV} (ho : o.op = .extract x i) (hx : ev env x = some a) (h : extrW a i K) : ∃ e, Sd X.P o env bs e ∧ K e := by
  unfold extrW at h
  split at h
  · obtain ⟨v, hv, h⟩ := optP_inv h
    rw [nth_eq] at hv
    exact ⟨_, .q fun env' bs0 ha => op_extract ho ((ha x (by simp [ho, Op.operands])).trans hx) hv, h⟩
  · exact h.elim

def nilW (a : AV) (K : Ef → Prop) : Prop := match a with
  | .ptr _ _ | .rptr _ _ _ _ | .eptr _ _ _ => K ⟨a, [], []⟩
  | _ => False
theorem nilW_ok {x : Operand} {a : AV} (ho : o.op = .nilCheck x) (hx : ev env x = some a) (h : nilW a K) : ∃ e, Sd X.P o env bs e ∧ K e := by
  have mx : x ∈ o.op.operands.toList := by simp [ho, Op.operands]
  unfold nilW at h
  split at h
  · exact ⟨_, .q fun env' bs0 ha => op_nilcheck ho ((ha x mx).trans hx) (.ptr _ _), h⟩
  · exact ⟨_, .q fun env' bs0 ha => op_nilcheck ho ((ha x mx).trans hx) (.rptr _ _ _ _), h⟩
  · exact ⟨_, .q fun env' bs0 ha => op_nilcheck ho ((ha x mx).trans hx) (.eptr _ _ _), h⟩
  · exact h.elim

/-! ### maps: told by the list of their entries -/

inductive LookT (X : Cx) (t : Nat) (bs : List Blk) (m k : AV) (ok : Bool) (K : Ef → Prop) : Prop where
  | own {α : Type} (e : α → AV) (l : List (Int × α)) (z0 : α) (kk : IntKind) (n : Int) (i kt et : Nat) (it ik ie : TInfo) (hm : m = .map i) (hk : k = .int kk n) (hb : bat bs i = mb kk e l) (h1 : X.ti t = some it) (h2 : it.desc = .map kt et) (h3 : X.ti kt = some ik) (h4 : ik.desc = .int kk)
      (h5 : X.ti et = some ie) (h6 : ie.zav = e z0) (kx : K ⟨if ok then .tup [e ((mget l n).getD z0), .bool (mget l n).isSome] else e ((mget l n).getD z0), [(i, mb kk e l)], []⟩)
  | imm {α : Type} (e : α → AV) (l : List (Int × α)) (z0 : α) (kk : IntKind) (n : Int) (kt et : Nat) (it ik ie : TInfo) (hm : m = .imap (l.map fun p => .int kk p.1) (l.map fun p => e p.2)) (hk : k = .int kk n) (h1 : X.ti t = some it) (h2 : it.desc = .map kt et) (h3 : X.ti kt = some ik) (h4 : ik.desc = .int kk)
      (h5 : X.ti et = some ie) (h6 : ie.zav = e z0) (kx : K ⟨if ok then .tup [e ((mget l n).getD z0), .bool (mget l n).isSome] else e ((mget l n).getD z0), [], []⟩)

theorem lookT_ok {t : Nat} {x y : Operand} {ok : Bool} {m k : AV} (ho : o.op = .lookup t x y ok) (hx : ev env x = some m) (hy : ev env y = some k) (h : LookT X t bs m k ok K) : ∃ e, Sd X.P o env bs e ∧ K e := by
  have mx : x ∈ o.op.operands.toList := by simp [ho, Op.operands]
  have my : y ∈ o.op.operands.toList := by simp [ho, Op.operands]
  cases h with
  | own e l z0 kk n i kt et it ik ie hm hk hb h1 h2 h3 h4 h5 h6 kx =>
    subst hm hk
    have u1 := (X.ok t it h1).inf.und; rw [h2] at u1
    have u2 := (X.ok kt ik h3).inf.und; rw [h4] at u2
    have he := X.ok et ie h5
    have hz := he.zav.1; rw [h6] at hz
    refine ⟨_, .r hb fun env' bs0 ha hb0 => ?_, kx⟩
    have hg := get_bat _ _ _ hb0 (by simp [mb])
    cases ok with
    | false => exact op_lookup u1 u2 he.inf hz ho ((ha x mx).trans hx) ((ha y my).trans hy) hg
    | true => exact op_lookup_ok u1 u2 he.inf hz ho ((ha x mx).trans hx) ((ha y my).trans hy) hg
  | imm e l z0 kk n kt et it ik ie hm hk h1 h2 h3 h4 h5 h6 kx =>
    subst hm hk
    have u1 := (X.ok t it h1).inf.und; rw [h2] at u1
    have u2 := (X.ok kt ik h3).inf.und; rw [h4] at u2
    have he := X.ok et ie h5
    have hz := he.zav.1; rw [h6] at hz
    exact ⟨_, .q fun env' bs0 ha => op_lookup_i ok u1 u2 he.inf hz ho ((ha x mx).trans hx) ((ha y my).trans hy), kx⟩

inductive MapT (X : Cx) (t : Nat) (bs : List Blk) (m k v : AV) (K : Ef → Prop) : Prop where
  | mk {α : Type} (e : α → AV) (l : List (Int × α)) (u : α) (kk : IntKind) (n : Int) (i kt et : Nat) (it ik : TInfo) (hm : m = .map i) (hk : k = .int kk n) (hv : v = e u) (hb : bat bs i = mb kk e l) (h1 : X.ti t = some it) (h2 : it.desc = .map kt et) (h3 : X.ti kt = some ik) (h4 : ik.desc = .int kk)
      (kx : K ⟨.tup [], [(i, mb kk e l)], [(i, mb kk e (mset l n u))]⟩)

theorem mapT_ok {t : Nat} {x y z : Operand} {m k v : AV} (ho : o.op = .mapUpdate t x y z) (hx : ev env x = some m) (hy : ev env y = some k) (hz : ev env z = some v) (h : MapT X t bs m k v K) : ∃ e, Sd X.P o env bs e ∧ K e := by
  have mx : x ∈ o.op.operands.toList := by simp [ho, Op.operands]
  have my : y ∈ o.op.operands.toList := by simp [ho, Op.operands]
  have mz : z ∈ o.op.operands.toList := by simp [ho, Op.operands]
  cases h with
  | mk e l u kk n i kt et it ik hm hk hv hb h1 h2 h3 h4 kx =>
    subst hm hk hv
    have u1 := (X.ok t it h1).inf.und; rw [h2] at u1
    have u2 := (X.ok kt ik h3).inf.und; rw [h4] at u2
    refine ⟨_, .w hb fun env' bs0 ha hb0 => ?_, kx⟩
    rw [bset_set _ _ _ (bat_lt hb0 (by simp [mb]))]
    exact op_mapset u1 u2 ho ((ha x mx).trans hx) ((ha y my).trans hy) ((ha z mz).trans hz) (get_bat _ _ _ hb0 (by simp [mb])) rfl

/-! ### builtins -/

def lenW (X : Cx) (t : Nat) (a : AV) (bs : List Blk) (K : Ef → Prop) : Prop := optP (X.ti t) fun it => match it.desc, a with
  | .slice _, .lst _ xs => K ⟨.int .i64 xs.length, [], []⟩
  | .slice _, .gsl b n => growP (bat bs b) fun e sz xs => Chk (n = xs.length) (K ⟨.int .i64 n, [(b, .grow e sz xs)], []⟩)
  | .slice _, .slc _ _ _ n _ => K ⟨.int .i64 n, [], []⟩
  | .slice _, .nils => K ⟨.int .i64 0, [], []⟩
  | _, _ => False
theorem lenW_ok {t : Nat} {x : Operand} {a : AV} (ho : o.op = .call { callee := .builtin .len, args := #[x], argTypes := #[t] }) (hx : ev env x = some a) (h : lenW X t a bs K) : ∃ e, Sd X.P o env bs e ∧ K e := by
  have mx : x ∈ o.op.operands.toList := by simp [ho, Op.operands, Call.operands]
  replace h := optP_inv h
  obtain ⟨it, hi, h⟩ := h
  have hu := (X.ok t it hi).inf.und
  split at h
  · rename_i hd; rw [hd] at hu
    exact ⟨_, .q fun env' bs0 ha => op_len hu ho ((ha x mx).trans hx), h⟩
  · rename_i hd; rw [hd] at hu
    replace h := growP_inv h
    obtain ⟨e, sz, xs, hb, h⟩ := h
    obtain ⟨hn, h⟩ := h
    exact ⟨_, .r hb fun env' bs0 ha hb0 => op_len_g hu ho ((ha x mx).trans hx) hb0 hn, h⟩
  · rename_i hd; rw [hd] at hu
    exact ⟨_, .q fun env' bs0 ha => op_len_s hu ho ((ha x mx).trans hx), h⟩
  · rename_i hd; rw [hd] at hu
    exact ⟨_, .q fun env' bs0 ha => op_len_n hu ho ((ha x mx).trans hx), h⟩
  · exact h.elim

/-- The elements of what is appended. -/
def elsW (bs : List Blk) (v : AV) (K : List AV → Prop) : Prop := match v with
  | .lst _ ys => K ys
  | .nils => K []
  | .gsl b n => growP (bat bs b) fun _ _ ys => Chk (ys.length = n) (K ys)
  | _ => False
theorem elsW_ok {v : AV} {K : List AV → Prop} (h : elsW bs v K) : ∃ ys, imm bs v = some (.lst false ys) ∧ K ys := by
  unfold elsW at h
  split at h
  · exact ⟨_, rfl, h⟩
  · exact ⟨_, rfl, h⟩
  · replace h := growP_inv h
    obtain ⟨e, sz, ys, hb, h⟩ := h
    obtain ⟨hn, h⟩ := h
    refine ⟨ys, ?_, h⟩
    simp only [imm, get_bat _ _ _ hb (by simp), hn, if_true]
  · exact h.elim

def appW (X : Cx) (t : Nat) (a b : AV) (bs : List Blk) (K : Ef → Prop) : Prop := optP (X.ti t) fun it => match it.desc with
  | .slice e => optP (X.ti e) fun ie => boolP (Nat.blt 0 ie.size) (elsW bs b fun ys => match a with
    | .nils => Chk (Sized ie.size ys ∧ ys.length * ie.bytes ≤ 140737488355328 ∧ ys.length ≤ maxLen) (natP bs.length fun k => goneP (bat bs k) (K ⟨.gsl k ys.length, (k, .gone) :: gpre bs b, [(k, .grow e ie.size ys)]⟩))
    | .gsl i n => growP (bat bs i) fun e' sz xs => boolP (Nat.beq e' e && Nat.beq sz ie.size) (Chk (n = xs.length ∧ Sized ie.size ys ∧ (xs.length + ys.length) * ie.bytes ≤ 140737488355328 ∧ xs.length + ys.length ≤ maxLen)
        (K ⟨.gsl i (xs ++ ys).length, (i, .grow e' sz xs) :: gpre bs b, [(i, .grow e' sz (xs ++ ys))]⟩)) False
    | _ => False) False
  | _ => False
theorem appW_ok {t : Nat} {x y : Operand} {a b : AV} (ho : o.op = .call { callee := .builtin .append, args := #[x, y], argTypes := #[t, t] }) (hx : ev env x = some a) (hy : ev env y = some b) (h : appW X t a b bs K) : ∃ e, Sd X.P o env bs e ∧ K e := by
  have mx : x ∈ o.op.operands.toList := by simp [ho, Op.operands, Call.operands]
  have my : y ∈ o.op.operands.toList := by simp [ho, Op.operands, Call.operands]
  replace h := optP_inv h
  obtain ⟨it, hi, h⟩ := h
  have hu := (X.ok t it hi).inf.und
  split at h
  · rename_i e hd
    rw [hd] at hu
    replace h := optP_inv h
    obtain ⟨ie, hie, h⟩ := h
    have he := X.ok e ie hie
    replace h := boolP_inv h; rcases h with ⟨h0, h⟩ | ⟨_, h⟩
    · have h0 : 0 < ie.size := by simpa [Nat.blt_eq] using h0
      replace h := elsW_ok h
      obtain ⟨ys, him, h⟩ := h
      split at h
      · obtain ⟨⟨g1, g2, g3⟩, h⟩ := h
        replace h := natP_inv h
        replace h := goneP_inv h
        obtain ⟨hb, h⟩ := h
        refine ⟨_, ?_, h⟩
        refine ⟨⟨hb, has_gpre bs b⟩, fun k hk => ?_, fun env' bs0 ha h1 => ?_⟩
        · simp at hk; simp [hk]
        · exact op_append_n hu he.inf he.zav.2.2.2 h0 ho ((ha x mx).trans hx) h1.1 ((ha y my).trans hy) (imm_congr him h1.2) g1 g2 g3
      · replace h := growP_inv h
        obtain ⟨e', sz, xs, hb, h⟩ := h
        replace h := boolP_inv h; rcases h with ⟨hq, h⟩ | ⟨_, h⟩
        · simp only [Bool.and_eq_true] at hq
          obtain rfl := Nat.eq_of_beq_eq_true hq.1
          have hsz := Nat.eq_of_beq_eq_true hq.2
          subst hsz
          obtain ⟨⟨g0, g1, g2, g3⟩, h⟩ := h
          refine ⟨_, ?_, h⟩
          refine ⟨⟨hb, has_gpre bs b⟩, fun k hk => ?_, fun env' bs0 ha h1 => ?_⟩
          · simp at hk; simp [hk]
          · exact op_append_g (e' := 0) hu he.inf he.zav.2.2.2 h0 ho ((ha x mx).trans hx) h1.1 g0 ((ha y my).trans hy) (imm_congr him h1.2) g1 g2 g3
        · exact h.elim
      · exact h.elim
    · exact h.elim
  · exact h.elim

def mxW (a b : AV) (g : Int → Int → Int) (K : Ef → Prop) : Prop := match a, b with
  | .int k x, .int k' y => boolP (k == k') (K ⟨.int k (g x y), [], []⟩) False
  | _, _ => False

def callW (X : Cx) (c : Call) (env : Env) (bs : List Blk) (K : Ef → Prop) : Prop := match c.callee with
  | .value x => optP (ev env x) fun f => (match f with
    | .fn f cap => optP (evs env c.args.toList) fun vs => copyP (vs ++ cap) fun vs => CallT (P := X.P) f vs bs (K := K)
    | _ => False)
  | .builtin b => (match b, c.args.toList, c.argTypes.toList with
    | .len, [x], [t] => optP (ev env x) fun a => lenW X t a bs K
    | .append, [x, y], [t, t'] => boolP (Nat.beq t t') (optP (ev env x) fun a => optP (ev env y) fun b => appW X t a b bs K) False
    | .max, [x, y], _ => optP (ev env x) fun a => optP (ev env y) fun b => mxW a b mx K
    | .min, [x, y], _ => optP (ev env x) fun a => optP (ev env y) fun b => mxW a b mn K
    | _, _, _ => False)
  | _ => False
theorem callW_ok {c : Call} (ho : o.op = .call c) (h : callW X c env bs K) : ∃ e, Sd X.P o env bs e ∧ K e := by
  obtain ⟨cl, ⟨args⟩, ⟨ts⟩⟩ := c
  unfold callW at h
  simp only at h
  split at h
  · rename_i x
    replace h := optP_inv h
    obtain ⟨fv, hf, h⟩ := h
    split at h
    · rename_i f cap
      replace h := optP_inv h
      obtain ⟨vs, hvs, h⟩ := h
      have h' := copyP_inv (K := fun vs => CallT (P := X.P) f vs bs (K := K)) h
      obtain ⟨e, ⟨c1, c2, c3⟩, hk⟩ := h'
      refine ⟨e, ⟨c1, c2, fun env' bs0 ha h0 => ?_⟩, hk⟩
      exact c3 o env' bs0 x args _ cap vs ho ((ha x (by simp [ho, Op.operands, Call.operands])).trans hf) (evs_congr hvs fun y hy => ha y (by simp [ho, Op.operands, Call.operands, hy])) rfl h0
    · exact h.elim
  · split at h
    · rename_i _ _ x t
      replace h := optP_inv h
      obtain ⟨a, ha, h⟩ := h
      exact lenW_ok ho ha h
    · rename_i _ _ x y t t'
      replace h := boolP_inv h; rcases h with ⟨ht, h⟩ | ⟨_, h⟩
      · obtain rfl := Nat.eq_of_beq_eq_true ht
        replace h := optP_inv h
        obtain ⟨a, ha, h⟩ := h
        replace h := optP_inv h
        obtain ⟨b, hb, h⟩ := h
        exact appW_ok ho ha hb h
      · exact h.elim
    · rename_i _ _ x y
      replace h := optP_inv h
      obtain ⟨a, ha, h⟩ := h
      replace h := optP_inv h
      obtain ⟨b, hb, h⟩ := h
      unfold mxW at h
      split at h
      · replace h := boolP_inv h; rcases h with ⟨ht, h⟩ | ⟨_, h⟩
        · rename_i k x' k' y'
          obtain rfl : k = k' := by simpa using ht
          exact ⟨_, .q fun env' bs0 hag => op_max ho ((hag x (by simp [ho, Op.operands, Call.operands])).trans ha) ((hag y (by simp [ho, Op.operands, Call.operands])).trans hb), h⟩
        · exact h.elim
      · exact h.elim
    · rename_i _ _ x y
      replace h := optP_inv h
      obtain ⟨a, ha, h⟩ := h
      replace h := optP_inv h
      obtain ⟨b, hb, h⟩ := h
      unfold mxW at h
      split at h
      · replace h := boolP_inv h; rcases h with ⟨ht, h⟩ | ⟨_, h⟩
        · rename_i k x' k' y'
          obtain rfl : k = k' := by simpa using ht
          exact ⟨_, .q fun env' bs0 hag => op_min ho ((hag x (by simp [ho, Op.operands, Call.operands])).trans ha) ((hag y (by simp [ho, Op.operands, Call.operands])).trans hb), h⟩
        · exact h.elim
      · exact h.elim
    · exact h.elim
  · exact h.elim

end
end
end Go.Proofs.YtelgmdljcbkniaaDoor.Ai
