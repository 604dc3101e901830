/- Contracts that the run may use. -/
import Derived.Test.YtelgmdljcbkniaaGreatDoorPr4
import Derived.Test.YtelgmdljcbkniaaGreatDoorFt
namespace Go.Proofs.YtelgmdljcbkniaaGreatDoor.Pr
open Go Go.Proofs Go.Proofs.YtelgmdljcbkniaaGreatDoor.Ai Go.Proofs.YtelgmdljcbkniaaGreatDoor.Ti Go.Proofs.YtelgmdljcbkniaaGreatDoor.Dt
noncomputable section
def decI : AV → Option Int
  | .int .i64 n => some n
  | _ => none
theorem decI_ok {v : AV} {n : Int} (h : decI v = some n) : v = .int .i64 n := by
  unfold decI at h
  split at h
  · obtain rfl := Option.some.inj h; rfl
  · cases h
def decM {α : Type} (d : AV → Option α) (l : List AV) : Option (List α) := List.rec (some []) (fun v _ ih => (d v).bind fun x => ih.bind fun xs => some (x :: xs)) l
theorem decM_ok {α : Type} {d : AV → Option α} {e : α → AV} (hd : ∀ v x, d v = some x → v = e x) : ∀ {l : List AV} {xs : List α}, decM d l = some xs → l = xs.map e
  | [], xs, h => by obtain rfl := Option.some.inj h; rfl
  | v :: r, xs, h => by
    replace h : ((d v).bind fun x => (decM d r).bind fun xs => some (x :: xs)) = some xs := h
    replace h := bi h; obtain ⟨x, hx, h⟩ := h
    replace h := bi h; obtain ⟨ys, hy, h⟩ := h
    obtain rfl := Option.some.inj h
    rw [hd v x hx, decM_ok hd hy]; rfl
def decL {α : Type} (d : AV → Option α) : AV → Option (List α)
  | .lst false xs => decM d xs
  | _ => none
theorem decL_ok {α : Type} {d : AV → Option α} {e : α → AV} (hd : ∀ v x, d v = some x → v = e x) {v : AV} {xs : List α} (h : decL d v = some xs) : v = encL e xs := by
  unfold decL at h
  split at h
  · rw [decM_ok hd h]; rfl
  · cases h
def decDom : AV → Option S_api_Domain
  | .agg [s, c] => (decI s).bind fun s => (decL decI c).bind fun c => some ⟨s, c⟩
  | _ => none
theorem decDom_ok (v : AV) (x : S_api_Domain) (h : decDom v = some x) : v = x.enc := by
  unfold decDom at h
  split at h
  · replace h := bi h; obtain ⟨s, hs, h⟩ := h
    replace h := bi h; obtain ⟨c, hc, h⟩ := h
    obtain rfl := Option.some.inj h
    rw [decI_ok hs, decL_ok (e := AV.int .i64) (fun v x => decI_ok) hc]; rfl
  · cases h
def decPair : AV → Option S_api_Pair
  | .agg [a, b, c, d, e] => (decI a).bind fun a => (decI b).bind fun b => (decI c).bind fun c => (decI d).bind fun d => (decI e).bind fun e => some ⟨a, b, c, d, e⟩
  | _ => none
theorem decPair_ok (v : AV) (x : S_api_Pair) (h : decPair v = some x) : v = x.enc := by
  unfold decPair at h
  split at h
  · replace h := bi h; obtain ⟨_, h1, h⟩ := h
    replace h := bi h; obtain ⟨_, h2, h⟩ := h
    replace h := bi h; obtain ⟨_, h3, h⟩ := h
    replace h := bi h; obtain ⟨_, h4, h⟩ := h
    replace h := bi h; obtain ⟨_, h5, h⟩ := h
    obtain rfl := Option.some.inj h
    rw [decI_ok h1, decI_ok h2, decI_ok h3, decI_ok h4, decI_ok h5]; rfl
  · cases h
def decLoad : AV → Option S_api_Load
  | .agg [a, b, c, d, e] => (decI a).bind fun a => (decI b).bind fun b => (decI c).bind fun c => (decI d).bind fun d => (decI e).bind fun e => some ⟨a, b, c, d, e⟩
  | _ => none
theorem decLoad_ok (v : AV) (x : S_api_Load) (h : decLoad v = some x) : v = x.enc := by
  unfold decLoad at h
  split at h
  · replace h := bi h; obtain ⟨_, h1, h⟩ := h
    replace h := bi h; obtain ⟨_, h2, h⟩ := h
    replace h := bi h; obtain ⟨_, h3, h⟩ := h
    replace h := bi h; obtain ⟨_, h4, h⟩ := h
    replace h := bi h; obtain ⟨_, h5, h⟩ := h
    obtain rfl := Option.some.inj h
    rw [decI_ok h1, decI_ok h2, decI_ok h3, decI_ok h4, decI_ok h5]; rfl
  · cases h
def decCap : AV → Option S_api_Cap
  | .agg [a, b, c, d] => (decI a).bind fun a => (decI b).bind fun b => (decI c).bind fun c => (decI d).bind fun d => some ⟨a, b, c, d⟩
  | _ => none
theorem decCap_ok (v : AV) (x : S_api_Cap) (h : decCap v = some x) : v = x.enc := by
  unfold decCap at h
  split at h
  · replace h := bi h; obtain ⟨_, h1, h⟩ := h
    replace h := bi h; obtain ⟨_, h2, h⟩ := h
    replace h := bi h; obtain ⟨_, h3, h⟩ := h
    replace h := bi h; obtain ⟨_, h4, h⟩ := h
    obtain rfl := Option.some.inj h
    rw [decI_ok h1, decI_ok h2, decI_ok h3, decI_ok h4]; rfl
  · cases h
def decProblem : AV → Option S_api_Problem
  | .agg [a, b, c, d] => (decL decDom a).bind fun a => (decL decPair b).bind fun b => (decL decLoad c).bind fun c => (decL decCap d).bind fun d => some ⟨a, ⟨b, c, d⟩⟩
  | _ => none
theorem decProblem_ok (v : AV) (x : S_api_Problem) (h : decProblem v = some x) : v = x.enc := by
  unfold decProblem at h
  split at h
  · replace h := bi h; obtain ⟨_, h1, h⟩ := h
    replace h := bi h; obtain ⟨_, h2, h⟩ := h
    replace h := bi h; obtain ⟨_, h3, h⟩ := h
    replace h := bi h; obtain ⟨_, h4, h⟩ := h
    obtain rfl := Option.some.inj h
    rw [decL_ok decDom_ok h1, decL_ok decPair_ok h2, decL_ok decLoad_ok h3, decL_ok decCap_ok h4]; rfl
  · cases h
/-- Short enough. -/
def shortB {α : Type} (l : List α) : Bool := decide (l.length < 1000000)
def cValid : List AV → Option AV
  | [v] => (decProblem v).bind fun p => okI (shortB p.f_Domains && p.f_Domains.all fun d => shortB d.f_Channels) (some (.bool (validB p)))
  | _ => none
theorem cValid_ok (vs : List AV) (v : AV) (h : cValid vs = some v) : V cx.P 49 vs v := by
  unfold cValid at h
  split at h
  · replace h := bi h; obtain ⟨p, hp, h⟩ := h
    replace h := okI_inv h; obtain ⟨hc, h⟩ := h
    obtain rfl := Option.some.inj h
    simp only [Bool.and_eq_true, shortB, decide_eq_true_eq, List.all_eq_true] at hc
    rw [decProblem_ok _ _ hp]
    exact valid_ok p hc.1 hc.2
  · cases h
def ct (f : Nat) : Option (List AV → Option AV) := Bool.rec none (some cValid) (Nat.beq f 49)
theorem ct_ok (f : Nat) (C : List AV → Option AV) (vs : List AV) (v : AV) (h : ct f = some C) (hv : C vs = some v) : V cx.P f vs v := by
  unfold ct at h
  cases hf : Nat.beq f 49 with
  | false => rw [hf] at h; cases h
  | true =>
    rw [hf] at h
    obtain rfl := Option.some.inj h
    rw [Nat.eq_of_beq_eq_true hf]
    exact cValid_ok vs v hv
end
end Go.Proofs.YtelgmdljcbkniaaGreatDoor.Pr
