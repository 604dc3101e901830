/- The functions of the closing rule and of its reference as plain arithmetic. -/
import Derived.Test.YtgobepjodkggoaaFn
namespace Go.Proofs.Ytgobepjodkggoaa.Pu
open Go Go.Proofs Go.Proofs.Ytgobepjodkggoaa.Ai Go.Proofs.Ytgobepjodkggoaa.Dt Go.Proofs.Ytgobepjodkggoaa.Fn
set_option maxRecDepth 100000

theorem wrap64 {x : Int} (h1 : -9223372036854775808 ≤ x) (h2 : x < 9223372036854775808) : IntKind.i64.wrap x = x := by
  simp only [IntKind.wrap, IntKind.signed, IntKind.bits, Bool.true_and]
  have e : (2 : Int) ^ (64 - 1) = 9223372036854775808 := by decide
  split <;> rename_i h
  · have h : x % 2 ^ 64 ≥ 2 ^ (64 - 1) := of_decide_eq_true h
    rw [e] at h
    omega
  · have h : ¬ x % 2 ^ 64 ≥ 2 ^ (64 - 1) := of_decide_eq_false (Bool.eq_false_iff.mpr h)
    rw [e] at h
    omega
theorem wrapu {x : Int} (h1 : 0 ≤ x) (h2 : x < 18446744073709551616) : IntKind.u64.wrap x = x := by
  simp only [IntKind.wrap, IntKind.signed, IntKind.bits, Bool.false_and, Bool.false_eq_true, if_false]
  omega

theorem known_true : bandplanlaw37_known.f 20 = some true := by kernel_rfl

/-- The terms and numbers that are let in. -/
def V (a0 : S_api_Terms) (a1 a2 : Int) : Prop :=
  (0 ≤ a0.f_Fixed ∧ a0.f_Fixed ≤ 1125899906842624) ∧ (0 ≤ a0.f_Benchmark ∧ a0.f_Benchmark ≤ 1000000000) ∧ (0 ≤ a1 ∧ a1 ≤ 1125899906842624) ∧ 0 ≤ a2 ∧ a2 ≤ 2457600000
instance (a0 : S_api_Terms) (a1 a2 : Int) : Decidable (V a0 a1 a2) := by unfold V; infer_instance
def N (a0 : S_api_Terms) (a1 a2 : Int) : Int := mx (a1 + a0.f_Fixed) (a0.f_Benchmark * a2)

theorem prod_le {b u : Int} (hb : 0 ≤ b ∧ b ≤ 1000000000) (hu : 0 ≤ u ∧ u ≤ 2457600000) : 0 ≤ b * u ∧ b * u ≤ 2457600000000000000 := by
  refine ⟨Int.mul_nonneg hb.1 hu.1, ?_⟩
  have := Int.mul_le_mul hb.2 hu.2 hu.1 (by omega)
  omega

theorem N_le {a0 : S_api_Terms} {a1 a2 : Int} (h : V a0 a1 a2) : 0 ≤ N a0 a1 a2 ∧ N a0 a1 a2 ≤ 2457600000000000000 ∧ a1 ≤ N a0 a1 a2 := by
  obtain ⟨h1, h2, h3, h4⟩ := h
  have := prod_le h2 h4
  unfold N mx
  split <;> omega

theorem to_eq (n m : Int) : closing_to.f n m = some (decide (0 ≤ n ∧ n ≤ m)) := by
  unfold closing_to.f
  by_cases h : n ≥ 0
  · simp [h]
  · simp [h]

theorem needed_eq (a0 : S_api_Terms) (a1 a2 : Int) : closing_Needed.f a0 a1 a2 = some (if V a0 a1 a2 then (N a0 a1 a2, 0) else (0, 2)) := by
  have e1 : closing_ValidTerms.f a0 = some (decide ((0 ≤ a0.f_Fixed ∧ a0.f_Fixed ≤ 1125899906842624) ∧ (0 ≤ a0.f_Benchmark ∧ a0.f_Benchmark ≤ 1000000000))) := by
    unfold closing_ValidTerms.f
    simp only [to_eq, Option.bind_some]
    by_cases h : 0 ≤ a0.f_Fixed ∧ a0.f_Fixed ≤ 1125899906842624
    · simp [h]
    · simp [h]
  unfold closing_Needed.f
  simp only [e1, to_eq, Option.bind_some]
  by_cases hv : V a0 a1 a2
  · obtain ⟨h1, h2, h3, h4⟩ := id hv
    have hp := prod_le h2 h4
    simp only [hv, h1, h2, h3, h4]
    simp only [N, if_true, and_self, decide_true]
    rw [wrap64 (by omega) (by omega), wrap64 (by omega) (by omega)]
    rfl
  · rw [if_neg hv]
    unfold V at hv
    by_cases g1 : (0 ≤ a0.f_Fixed ∧ a0.f_Fixed ≤ 1125899906842624) ∧ (0 ≤ a0.f_Benchmark ∧ a0.f_Benchmark ≤ 1000000000)
    · by_cases g2 : 0 ≤ a1 ∧ a1 ≤ 1125899906842624
      · have g3 : ¬ (0 ≤ a2 ∧ a2 ≤ 2457600000) := fun g3 => hv ⟨g1.1, g1.2, g2, g3⟩
        simp only [g1, g2, g3]; rfl
      · simp only [g1, g2]; rfl
    · simp only [g1]; rfl

theorem rneeded_eq (a0 : S_api_Terms) (a1 a2 : Int) : bandplanref37_Needed.f a0 a1 a2 = some (if V a0 a1 a2 then (N a0 a1 a2, 0) else (0, 2)) := by
  have e1 : bandplanref37_Terms.f a0 = some (decide ((0 ≤ a0.f_Fixed ∧ a0.f_Fixed ≤ 1125899906842624) ∧ (0 ≤ a0.f_Benchmark ∧ a0.f_Benchmark ≤ 1000000000))) := by
    unfold bandplanref37_Terms.f
    by_cases h1 : a0.f_Fixed ≥ 0 <;> by_cases h2 : a0.f_Fixed ≤ 1125899906842624 <;> by_cases h3 : a0.f_Benchmark ≥ 0 <;> simp [h1, h2, h3]
  unfold bandplanref37_Needed.f
  simp only [e1, Option.bind_some]
  by_cases hv : V a0 a1 a2
  · obtain ⟨h1, h2, h3, h4⟩ := id hv
    have hp := prod_le h2 h4
    have n1 : ¬ a1 < 0 := by omega
    have n2 : ¬ a1 > 1125899906842624 := by omega
    have n3 : ¬ a2 < 0 := by omega
    have n4 : ¬ a2 > 2457600000 := by omega
    rw [wrap64 (x := a0.f_Benchmark * a2) (by omega) (by omega), wrap64 (x := a1 + a0.f_Fixed) (by omega) (by omega)]
    simp only [hv, h1, h2, n1, n2, n3, n4, N, mx]
    by_cases hm : a1 + a0.f_Fixed < a0.f_Benchmark * a2
    · simp [hm]
    · simp [hm]
  · rw [if_neg hv]
    unfold V at hv
    by_cases g1 : (0 ≤ a0.f_Fixed ∧ a0.f_Fixed ≤ 1125899906842624) ∧ (0 ≤ a0.f_Benchmark ∧ a0.f_Benchmark ≤ 1000000000)
    · by_cases n1 : a1 < 0
      · simp only [g1, n1]; rfl
      · by_cases n2 : a1 > 1125899906842624
        · simp only [g1, n1, n2]; rfl
        · by_cases n3 : a2 < 0
          · simp only [g1, n1, n2, n3]; rfl
          · have n4 : a2 > 2457600000 := by
              by_cases n4 : a2 > 2457600000
              · exact n4
              · exact absurd ⟨g1.1, g1.2, ⟨by omega, by omega⟩, by omega, by omega⟩ hv
            simp only [g1, n1, n2, n3, n4]; rfl
    · simp only [g1]; rfl

theorem terms_eq (a0 : S_api_Terms) : closing_ValidTerms.f a0 = some (decide ((0 ≤ a0.f_Fixed ∧ a0.f_Fixed ≤ 1125899906842624) ∧ (0 ≤ a0.f_Benchmark ∧ a0.f_Benchmark ≤ 1000000000))) := by
  unfold closing_ValidTerms.f
  simp only [to_eq, Option.bind_some]
  by_cases h : 0 ≤ a0.f_Fixed ∧ a0.f_Fixed ≤ 1125899906842624
  · simp [h]
  · simp [h]

theorem rterms_eq (a0 : S_api_Terms) : bandplanref37_Terms.f a0 = some (decide ((0 ≤ a0.f_Fixed ∧ a0.f_Fixed ≤ 1125899906842624) ∧ (0 ≤ a0.f_Benchmark ∧ a0.f_Benchmark ≤ 1000000000))) := by
  unfold bandplanref37_Terms.f
  by_cases h1 : a0.f_Fixed ≥ 0 <;> by_cases h2 : a0.f_Fixed ≤ 1125899906842624 <;> by_cases h3 : a0.f_Benchmark ≥ 0 <;> simp [h1, h2, h3]

theorem law_needed (a0 : S_api_Terms) (a1 a2 : Int) : bandplanlaw37_ClosingNeeded.f 20 a0 a1 a2 = some true := by
  unfold bandplanlaw37_ClosingNeeded.f
  simp [needed_eq, rneeded_eq, terms_eq, rterms_eq, known_true]

/-- What is missing, or the error. -/
def M (a0 : S_api_Terms) (a1 a2 a3 : Int) : Int × Int := if V a0 a1 a2 ∧ 0 ≤ a3 ∧ a3 ≤ 1125899906842624 then (mx 0 (N a0 a1 a2 - a3), 0) else (0, 2)

theorem missing_eq (a0 : S_api_Terms) (a1 a2 a3 : Int) : closing_Missing.f a0 a1 a2 a3 = some (M a0 a1 a2 a3) := by
  unfold closing_Missing.f M
  simp only [needed_eq, to_eq, Option.bind_some]
  by_cases hv : V a0 a1 a2
  · have := N_le hv
    by_cases h3 : 0 ≤ a3 ∧ a3 ≤ 1125899906842624
    · simp only [hv, h3]
      rw [if_pos trivial, wrap64 (by omega) (by omega)]; rfl
    · simp only [hv, h3]; rfl
  · simp only [hv]; rfl

theorem rmissing_eq (a0 : S_api_Terms) (a1 a2 a3 : Int) : bandplanref37_Missing.f a0 a1 a2 a3 = some (M a0 a1 a2 a3) := by
  unfold bandplanref37_Missing.f M
  simp only [rneeded_eq, Option.bind_some]
  by_cases hv : V a0 a1 a2
  · have := N_le hv
    by_cases n1 : a3 < 0
    · have h3 : ¬ (0 ≤ a3 ∧ a3 ≤ 1125899906842624) := by omega
      simp only [hv, h3, n1]; rfl
    · by_cases n2 : a3 > 1125899906842624
      · have h3 : ¬ (0 ≤ a3 ∧ a3 ≤ 1125899906842624) := by omega
        simp only [hv, h3, n1, n2]; rfl
      · have h3 : (0 ≤ a3 ∧ a3 ≤ 1125899906842624) := by omega
        simp only [hv, h3, n1, n2]
        rw [if_pos trivial, wrap64 (by omega) (by omega)]; rfl
  · simp only [hv]; rfl

def Mt (a0 : S_api_Terms) (a1 a2 a3 : Int) : Bool × Int := if V a0 a1 a2 ∧ 0 ≤ a3 ∧ a3 ≤ 1125899906842624 then (decide (N a0 a1 a2 ≤ a3), 0) else (false, 2)

theorem met_eq (a0 : S_api_Terms) (a1 a2 a3 : Int) : closing_Met.f a0 a1 a2 a3 = some (Mt a0 a1 a2 a3) := by
  unfold closing_Met.f Mt
  simp only [missing_eq, M, Option.bind_some]
  by_cases h : V a0 a1 a2 ∧ 0 ≤ a3 ∧ a3 ≤ 1125899906842624
  · simp only [if_pos h, mx]
    by_cases g : 0 < N a0 a1 a2 - a3
    · have g' : ¬ N a0 a1 a2 ≤ a3 := by omega
      have g2 : ¬ N a0 a1 a2 - a3 = 0 := by omega
      simp [g', g2]
    · have g' : N a0 a1 a2 ≤ a3 := by omega
      simp [g']
      omega
  · simp [if_neg h]

theorem rmet_eq (a0 : S_api_Terms) (a1 a2 a3 : Int) : bandplanref37_Met.f a0 a1 a2 a3 = some (Mt a0 a1 a2 a3) := by
  rw [← met_eq]
  unfold bandplanref37_Met.f closing_Met.f
  rw [rmissing_eq, missing_eq]

theorem law_met (a0 : S_api_Terms) (a1 a2 a3 : Int) : bandplanlaw37_ClosingMet.f 20 a0 a1 a2 a3 = some true := by
  unfold bandplanlaw37_ClosingMet.f
  simp [missing_eq, rmissing_eq, met_eq, rmet_eq, known_true]

/-- Whether a raise by r per cent is enough. -/
def enough (p n r : Int) : Bool := decide (p * (100 + r) / 100 ≥ n)

theorem enough_eq {p n r : Int} (hp : 0 ≤ p ∧ p ≤ 1125899906842624) (hr : 0 ≤ r ∧ r ≤ 1001) : decide ((IntKind.i64.wrap (Int.tdiv (IntKind.i64.wrap (p * (IntKind.i64.wrap (100 + r)))) 100)) ≥ n) = enough p n r := by
  have h1 : 0 ≤ p * (100 + r) := Int.mul_nonneg hp.1 (by omega)
  have h2 : p * (100 + r) ≤ 1125899906842624 * 1101 := Int.mul_le_mul hp.2 (by omega) (by omega) (by omega)
  rw [wrap64 (x := 100 + r) (by omega) (by omega), wrap64 (x := p * (100 + r)) (by omega) (by omega), Int.tdiv_eq_ediv_of_nonneg h1]
  unfold enough
  generalize p * (100 + r) = z at *
  rw [wrap64 (by omega) (by omega)]

theorem enough_mono {p n r q : Int} (hp : 0 ≤ p) (hr : r ≤ q) (h : enough p n r = true) : enough p n q = true := by
  unfold enough at *
  simp only [decide_eq_true_eq] at *
  have : p * (100 + r) ≤ p * (100 + q) := Int.mul_le_mul_of_nonneg_left (by omega) hp
  generalize p * (100 + r) = z at *
  generalize p * (100 + q) = y at *
  omega

/-- The least raise that is enough; 1001 if there is none. -/
def Least (p n r : Int) : Prop := 0 ≤ r ∧ r ≤ 1001 ∧ (∀ y, 0 ≤ y → y < r → enough p n y = false) ∧ (r < 1001 → enough p n r = true)

theorem Least.uniq {p n r q : Int} (h : Least p n r) (k : Least p n q) : r = q := by
  obtain ⟨h1, h2, h3, h4⟩ := h
  obtain ⟨k1, k2, k3, k4⟩ := k
  rcases Int.lt_trichotomy r q with l | l | l
  · have := k3 r h1 l
    rw [h4 (by omega)] at this; cases this
  · exact l
  · have := h3 q k1 l
    rw [k4 (by omega)] at this; cases this

theorem search_ok {p n : Int} (hp : 0 ≤ p ∧ p ≤ 1125899906842624) : ∀ (k : Nat) (x y : Int), 0 ≤ x → x ≤ y → y ≤ 1001 → y - x < 2 ^ k → (∀ z, 0 ≤ z → z < x → enough p n z = false) → (y < 1001 → enough p n y = true) →
    ∃ r, sort_Search.l0 (fun y0 => closing_Raise_1.f y0 p n) (k + 1) (x, y) = some r ∧ Least p n r := by
  intro k
  induction k with
  | zero =>
    intro x y h0 hxy hy hd h1 h2
    have : x = y := by simp at hd; omega
    subst this
    refine ⟨x, ?_, h0, hy, h1, h2⟩
    simp [sort_Search.l0]
  | succ k ih =>
    intro x y h0 hxy hy hd h1 h2
    unfold sort_Search.l0
    by_cases hlt : x < y
    · simp only [if_pos hlt]
      have e1 : IntKind.i64.wrap (x + y) = x + y := wrap64 (by omega) (by omega)
      have e2 : IntKind.u64.wrap (x + y) = x + y := wrapu (by omega) (by omega)
      have e3 : (2 : Int) ^ (min (Int.toNat 1) (IntKind.bits .u64)) = 2 := by decide
      have e4 : Int.fdiv (x + y) 2 = (x + y) / 2 := Int.fdiv_eq_ediv_of_nonneg _ (by omega)
      rw [e1, e2, e3, e4]
      have e5 : IntKind.i64.wrap ((x + y) / 2) = (x + y) / 2 := wrap64 (by omega) (by omega)
      have e6 : IntKind.i64.wrap ((x + y) / 2 + 1) = (x + y) / 2 + 1 := wrap64 (by omega) (by omega)
      rw [e5, e6]
      have hm : x ≤ (x + y) / 2 ∧ (x + y) / 2 < y := by omega
      have hpow : (2 : Int) ^ (k + 1) = 2 * 2 ^ k := by rw [Int.pow_succ]; omega
      have hd2 : y - ((x + y) / 2 + 1) < 2 ^ k ∧ (x + y) / 2 - x < 2 ^ k := by rw [hpow] at hd; omega
      have hf : closing_Raise_1.f ((x + y) / 2) p n = some (enough p n ((x + y) / 2)) := by
        unfold closing_Raise_1.f
        rw [enough_eq hp (by omega)]
      simp only [hf, Option.bind_some]
      generalize (x + y) / 2 = m at *
      by_cases hq : enough p n m = true
      · simp only [hq]
        exact ih x m h0 hm.1 (by omega) hd2.2 h1 fun _ => hq
      · simp only [hq]
        refine ih (m + 1) y (by omega) (by omega) hy hd2.1 (fun z hz hz2 => ?_) h2
        by_cases he : enough p n z = true
        · exact absurd (enough_mono hp.1 (by omega) he) hq
        · exact Bool.eq_false_iff.mpr he
    · have : x = y := by omega
      subst this
      refine ⟨x, by simp, h0, hy, h1, h2⟩

theorem linear_ok {p n : Int} (e : Int) (hp : 0 ≤ p ∧ p ≤ 1125899906842624) : ∀ (k : Nat) (x : Int), 0 ≤ x → x ≤ 1001 → 1001 - x < k → (∀ z, 0 ≤ z → z < x → enough p n z = false) →
    ∃ r, Least p n r ∧ bandplanref37_Raise.l0 p (n, e) k x = some (if r > 1000 then .inr () else .inl r) := by
  intro k
  induction k with
  | zero => intro x h0 hx hd; omega
  | succ k ih =>
    intro x h0 hx hd h1
    unfold bandplanref37_Raise.l0
    by_cases hlt : x ≤ 1000
    · simp only [if_pos hlt]
      have := enough_eq (n := n) hp (r := x) (by omega)
      by_cases hq : (IntKind.i64.wrap (Int.tdiv (IntKind.i64.wrap (p * (IntKind.i64.wrap (100 + x)))) 100)) ≥ n
      · rw [decide_eq_true hq] at this
        refine ⟨x, ⟨h0, by omega, h1, fun _ => this.symm⟩, ?_⟩
        rw [if_pos hq, if_neg (by omega)]
      · rw [decide_eq_false hq] at this
        rw [if_neg hq, wrap64 (by omega) (by omega)]
        refine ih (x + 1) (by omega) (by omega) (by omega) fun z hz hz2 => ?_
        by_cases hzx : z = x
        · subst hzx; exact this.symm
        · exact h1 z hz (by omega)
    · have : x = 1001 := by omega
      subst this
      exact ⟨1001, ⟨by omega, by omega, h1, fun h => by omega⟩, by simp⟩

theorem search_more {p n : Int} : ∀ (k : Nat) (st : Int × Int) (r : Int), sort_Search.l0 (fun y0 => closing_Raise_1.f y0 p n) k st = some r → sort_Search.l0 (fun y0 => closing_Raise_1.f y0 p n) (k + 1) st = some r := by
  intro k
  induction k with
  | zero => intro st r h; simp [sort_Search.l0] at h
  | succ k ih =>
    intro ⟨x, y⟩ r h
    unfold sort_Search.l0 at h ⊢
    by_cases hlt : x < y
    · simp only [if_pos hlt] at h ⊢
      simp only [Option.bind_eq_some_iff] at h ⊢
      obtain ⟨b, hb, q, hq, h⟩ := h
      exact ⟨b, hb, q, hq, ih _ _ h⟩
    · simpa only [if_neg hlt] using h

theorem search_le {p n : Int} {k k' : Nat} (hk : k ≤ k') {st : Int × Int} {r : Int} (h : sort_Search.l0 (fun y0 => closing_Raise_1.f y0 p n) k st = some r) : sort_Search.l0 (fun y0 => closing_Raise_1.f y0 p n) k' st = some r := by
  induction hk with
  | refl => exact h
  | step _ ih => exact search_more _ _ _ ih

theorem raise_ok (a0 : S_api_Terms) (a1 a2 a3 : Int) :
    (¬ (V a0 a1 a2 ∧ 0 ≤ a3 ∧ a3 ≤ 1125899906842624) ∧ closing_Raise.f 1100 a0 a1 a2 a3 = some (0, 2) ∧ bandplanref37_Raise.f 1100 a0 a1 a2 a3 = some (0, 2)) ∨
    (V a0 a1 a2 ∧ 0 ≤ a3 ∧ a3 ≤ 1125899906842624) ∧ ∃ r, Least a3 (N a0 a1 a2) r ∧ closing_Raise.f 1100 a0 a1 a2 a3 = some (if r > 1000 then (0, 9) else (r, 0)) ∧ bandplanref37_Raise.f 1100 a0 a1 a2 a3 = some (if r > 1000 then (0, 9) else (r, 0)) := by
  unfold closing_Raise.f bandplanref37_Raise.f
  simp only [needed_eq, rneeded_eq, to_eq, Option.bind_some]
  by_cases hv : V a0 a1 a2
  · by_cases h3 : 0 ≤ a3 ∧ a3 ≤ 1125899906842624
    · refine .inr ⟨⟨hv, h3⟩, ?_⟩
      obtain ⟨r, hr, hl⟩ := search_ok (n := N a0 a1 a2) h3 20 0 1001 (by omega) (by omega) (by omega) (by decide) (fun z h1 h2 => by omega) (fun h => by omega)
      obtain ⟨q, hq, hm⟩ := linear_ok (n := N a0 a1 a2) 0 h3 1100 0 (by omega) (by omega) (by omega) (fun z h1 h2 => by omega)
      have := hl.uniq hq
      subst this
      have n1 : ¬ a3 < 0 := by omega
      have n2 : ¬ a3 > 1125899906842624 := by omega
      have hr := search_le (k' := 1100) (by omega) hr
      refine ⟨r, hl, ?_, ?_⟩
      · simp only [hv, h3, if_true]
        simp only [sort_Search.f]
        simp [hr]
        by_cases hr2 : 1000 < r <;> simp [hr2]
      · simp only [hv, n1, n2, if_true]
        simp [hm]
        by_cases hr2 : 1000 < r <;> simp [hr2]
    · refine .inl ⟨fun h => h3 h.2, ?_, ?_⟩
      · simp only [hv, h3]; rfl
      · by_cases n1 : a3 < 0
        · simp only [hv, n1]; rfl
        · have n2 : a3 > 1125899906842624 := by omega
          simp only [hv, n1, n2]; rfl
  · refine .inl ⟨fun h => hv h.1, ?_, ?_⟩ <;> (simp only [hv]; rfl)

theorem known_true2 : bandplanlaw37_known.f 1100 = some true := by kernel_rfl

theorem law_raise (a0 : S_api_Terms) (a1 a2 a3 : Int) : bandplanlaw37_ClosingRaise.f 1100 a0 a1 a2 a3 = some true := by
  unfold bandplanlaw37_ClosingRaise.f
  rcases raise_ok a0 a1 a2 a3 with ⟨_, e1, e2⟩ | ⟨_, r, _, e1, e2⟩ <;> simp [e1, e2, known_true2]

theorem law_holds (a0 : S_api_Terms) (a1 a2 a3 a4 a5 a6 : Int) : bandplanlaw37_ClosingHolds.f 1100 a0 a1 a2 a3 a4 a5 a6 = some true := by
  unfold bandplanlaw37_ClosingHolds.f
  simp only [met_eq, missing_eq, known_true2, Option.bind_some]
  rcases raise_ok a0 a1 a2 a3 with ⟨hn, e1, _⟩ | ⟨hv, r, hl, e1, _⟩
  · simp [Mt, hn]
  · simp only [e1, Option.bind_some, Mt, M, if_pos hv]
    have hz : r = 0 ↔ N a0 a1 a2 ≤ a3 := by
      have ha : enough a3 (N a0 a1 a2) 0 = decide (N a0 a1 a2 ≤ a3) := by
        unfold enough
        have : a3 * (100 + 0) / 100 = a3 := by omega
        rw [this]
      constructor
      · intro h0
        subst h0
        have := hl.2.2.2 (by omega)
        rw [ha] at this
        exact of_decide_eq_true this
      · intro h0
        have := hl.2.2.1 0 (by omega)
        rw [ha, decide_eq_true h0] at this
        have h1 := hl.1
        by_cases hr : 0 < r
        · exact absurd (this hr) (by decide)
        · omega
    have hN := N_le hv.1
    have hr0 := hl.1
    have hr1 := hl.2.1
    have hmono : ¬ a5 > a1 → ¬ a6 > a2 → V a0 a5 a6 → N a0 a5 a6 ≤ N a0 a1 a2 := by
      intro h1 h2 h3
      have : a0.f_Benchmark * a6 ≤ a0.f_Benchmark * a2 := Int.mul_le_mul_of_nonneg_left (by omega) hv.1.2.1.1
      unfold N mx
      split <;> split <;> omega
    by_cases hmt : N a0 a1 a2 ≤ a3
    · have h0 : r = 0 := hz.2 hmt
      subst h0
      have hx : mx 0 (N a0 a1 a2 - a3) = 0 := by unfold mx; split <;> omega
      have hlt : ¬ a3 < a1 := by omega
      by_cases g1 : a4 < a3
      · simp [hmt, hx, hlt, g1]
      · by_cases g2 : a5 > a1
        · simp [hmt, hx, hlt, g1, g2]
        · by_cases g3 : a6 > a2
          · simp [hmt, hx, hlt, g1, g2, g3]
          · by_cases g4 : V a0 a5 a6 ∧ 0 ≤ a4 ∧ a4 ≤ 1125899906842624
            · have := hmono g2 g3 g4.1
              have g5 : N a0 a5 a6 ≤ a4 := by omega
              simp [hmt, hx, hlt, g1, g2, g3, g4, g5]
            · simp [hmt, hx, hlt, g1, g2, g3, g4]
    · have h0 : ¬ r = 0 := fun h => hmt (hz.1 h)
      have hx : mx 0 (N a0 a1 a2 - a3) = N a0 a1 a2 - a3 := by unfold mx; split <;> omega
      have hx2 : ¬ N a0 a1 a2 - a3 = 0 := by omega
      by_cases g0 : 1000 < r <;> by_cases g1 : a4 < a3 <;> by_cases g2 : a5 > a1 <;> by_cases g3 : a6 > a2 <;> by_cases g4 : V a0 a5 a6 ∧ 0 ≤ a4 ∧ a4 ≤ 1125899906842624 <;> by_cases g5 : N a0 a5 a6 ≤ a4 <;>
        simp [hmt, hx, hx2, h0, g0, g1, g2, g3, g4, g5]
end Go.Proofs.Ytgobepjodkggoaa.Pu
