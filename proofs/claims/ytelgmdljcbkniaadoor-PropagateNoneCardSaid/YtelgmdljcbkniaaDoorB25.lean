/- An interpreter of values for the model's code, base text 25: loops over an index; small facts on numbers. -/
import Derived.Test.YtelgmdljcbkniaaDoorB24
namespace Go.Proofs.YtelgmdljcbkniaaDoor.Ai
noncomputable section
open Go
set_option linter.unusedVariables false

theorem w64 {x : Int} (h1 : -9223372036854775808 ≤ x) (h2 : x < 9223372036854775808) : IntKind.i64.wrap x = x := by
  simp only [IntKind.wrap, IntKind.signed, IntKind.bits, Bool.true_and]
  have e : (2 : Int) ^ (64 - 1) = 9223372036854775808 := by decide
  split <;> rename_i h
  · have h : x % 2 ^ 64 ≥ 2 ^ (64 - 1) := of_decide_eq_true h
    rw [e] at h
    omega
  · have h : ¬ x % 2 ^ 64 ≥ 2 ^ (64 - 1) := of_decide_eq_false (Bool.eq_false_iff.mpr h)
    rw [e] at h
    omega
theorem wu64 {x : Int} (h1 : 0 ≤ x) (h2 : x < 18446744073709551616) : IntKind.u64.wrap x = x := by
  simp only [IntKind.wrap, IntKind.signed, IntKind.bits, Bool.false_and]
  simp
  omega
theorem succ_i {i : Nat} (h : i < 1000000) : some (AV.int .i64 (IntKind.i64.wrap ((i : Int) + 1))) = some (AV.int .i64 ((i + 1 : Nat) : Int)) := by
  rw [w64 (by omega) (by omega)]; rfl

/-- A loop over an index: its state at i; what is known at i. -/
theorem loopI {X : Cx} {n m : Nat} {c : Code} (len : Nat) (inv : Nat → St) (I : Nat → Prop) {s : St} {Q : Exit → St → Prop} (hok : okCode n c = true) (h0 : Weak n m s (inv 0)) (hI : I 0)
    (round : ∀ i, i ≤ len → I i → wpc X n m c (inv i) fun e s' => match e with
      | .normal => i < len ∧ I (i + 1) ∧ Weak n m s' (inv (i + 1))
      | e => Q e s') : LoopT (P := X.P) (n := n) (m := m) (c := c) s (Q := Q) :=
  ⟨T_loop (A := {i : Nat // i ≤ len ∧ I i}) (fun i => inv i.1) (fun i => len - i.1) ⟨0, Nat.zero_le _, hI⟩ h0 fun ⟨i, h1, h2⟩ => T_mono (wpc_ok hok (round i h1 h2)) fun e s' q => by
    cases e with
    | normal =>
      obtain ⟨g1, g2, g3⟩ := q
      exact ⟨⟨i + 1, g1, g2⟩, by show len - (i + 1) < len - i; omega, g3⟩
    | _ => exact q⟩

theorem idxL_map {α : Type} {f : α → AV} {l : List α} {i : Nat} (h : i < l.length) : idxL (l.map f) (i : Int) = some (f l[i]) := by
  unfold idxL
  rw [if_pos (by omega), nth_eq]
  simp [h]
theorem idxL_mapn {α : Type} {f : α → AV} {l : List α} {n : Int} {i : Nat} (e : n = (i : Int)) (h : i < l.length) : idxL (l.map f) n = some (f l[i]) := by
  subst e; exact idxL_map h
theorem nth_map {α : Type} {f : α → AV} {l : List α} {i : Nat} (h : i < l.length) : nth (l.map f) i = some (f l[i]) := by
  rw [nth_eq]; simp [h]

end
end Go.Proofs.YtelgmdljcbkniaaDoor.Ai
