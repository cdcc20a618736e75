/-
  Which sheets may be: the program's check and the page's.
-/
import Derived.Test.YtlmajdbchmnhdaaGreatDoorLMedian
set_option maxRecDepth 100000
namespace Go.Proofs.YtlmajdbchmnhdaaGreatDoor
open Go Go.Av

/-! ### Vectors that stay within -/
def inW (v : Int) (w : Nat) : Bool := decide (0 ≤ v) && decide (v + 31 < 2 * (w : Int))
def rngOK (mv : List Int) : Bool := (decide (-32 ≤ mv.getD 0 0) && decide (mv.getD 0 0 ≤ 31)) && (decide (-32 ≤ mv.getD 1 0) && decide (mv.getD 1 0 ≤ 31))
def motOK (f n : Nat) (mv : List Int) : Bool := decide (n < cwN f * chN f) && (rngOK mv && (inW (((32 * (n % cwN f) : Nat) : Int) + mv.getD 0 0) (wdN f) && inW (((32 * (n / cwN f) : Nat) : Int) + mv.getD 1 0) (hgN f)))
theorem within_p (k : Nat) {v : Int} {w : Nat} (hv : v ≤ 1000000000) (hv2 : -1000000000 ≤ v) (hw : w ≤ 10000) (h16 : w % 16 = 0) : motion_within k v 16 (w : Int) = some (inW v w) := by
  simp only [motion_within, inW]
  by_cases h : 0 ≤ v
  · have e1 : wr .i64 (v + 1) = v + 1 := by rw [wr, wrap64 (by omega) (by omega)]
    obtain ⟨n, rfl⟩ : ∃ n : Nat, v = n := ⟨v.toNat, by omega⟩
    have e2 : Int.tdiv ((n : Int) + 1) 2 = (((n + 1) / 2 : Nat) : Int) := rfl
    have e3 : wr .i64 ((((n + 1) / 2 : Nat) : Int)) = (((n + 1) / 2 : Nat) : Int) := by rw [wr, wrap64 (by omega) (by omega)]
    have e4 : wr .i64 ((((n + 1) / 2 : Nat) : Int) + 16) = (((n + 1) / 2 : Nat) : Int) + 16 := by rw [wr, wrap64 (by omega) (by omega)]
    rw [decide_eq_true h]
    simp only [cond_true, e1, e2, e3, e4, Bool.true_and]
    congr 1
    rw [decide_eq_decide]; omega
  · rw [decide_eq_false h]; rfl
theorem inside_r (k : Nat) {v : Int} {w : Nat} (hv : v ≤ 1000000000) (hv2 : -1000000000 ≤ v) (hw : w ≤ 10000) (h16 : w % 16 = 0) : overspillref18_inside k v (w : Int) = some (inW v w) := by
  simp only [overspillref18_inside, inW]
  by_cases h : 0 ≤ v
  · have e1 : wr .i64 (v + 30) = v + 30 := by rw [wr, wrap64 (by omega) (by omega)]
    obtain ⟨n, rfl⟩ : ∃ n : Nat, v = n := ⟨v.toNat, by omega⟩
    have e2 : Int.tdiv ((n : Int) + 30) 2 = (((n + 30) / 2 : Nat) : Int) := rfl
    have e2' : Int.tmod ((n : Int) + 30) 2 = (((n + 30) % 2 : Nat) : Int) := rfl
    have e3 : wr .i64 ((((n + 30) / 2 : Nat) : Int)) = (((n + 30) / 2 : Nat) : Int) := by rw [wr, wrap64 (by omega) (by omega)]
    have e4 : wr .i64 ((((n + 30) / 2 : Nat) : Int) + (((n + 30) % 2 : Nat) : Int)) = (((n + 30) / 2 : Nat) : Int) + (((n + 30) % 2 : Nat) : Int) := by rw [wr, wrap64 (by omega) (by omega)]
    rw [decide_eq_true h]
    simp only [cond_true, e1, e2, e2', e3, e4, Bool.true_and]
    congr 1
    rw [decide_eq_decide]; omega
  · rw [decide_eq_false h]; rfl
theorem fm_facts {n : Nat} (h : n ≤ 6) : wdN n ≤ 10000 ∧ hgN n ≤ 10000 ∧ wdN n % 16 = 0 ∧ hgN n % 16 = 0 ∧ cwN n ≤ 100 ∧ chN n ≤ 100 ∧ rwN n ≤ 18 ∧ mlN n ≤ 4 ∧ (n ≠ 0 → 1 ≤ cwN n ∧ 1 ≤ rwN n) := by
  have : n = 0 ∨ n = 1 ∨ n = 2 ∨ n = 3 ∨ n = 4 ∨ n = 5 ∨ n = 6 := by omega
  rcases this with rfl | rfl | rfl | rfl | rfl | rfl | rfl <;> decide
theorem rng_p (k : Nat) (mv : List Int) : motion_Mayu1 (k + 3) (k + 3) mv 0 = some (bif rngOK mv then .inr () else .inl false) := by
  have d0 : decide ((0 : Int) < 2) = true := rfl
  have d1 : decide ((1 : Int) < 2) = true := rfl
  have d2 : decide ((2 : Int) < 2) = false := rfl
  have w0 : wr .i64 ((0 : Int) + 1) = 1 := rfl
  have w1 : wr .i64 ((1 : Int) + 1) = 2 := rfl
  have i0 : inR 0 2 = true := rfl
  have i1 : inR 1 2 = true := rfl
  have z0 : Int.toNat 0 = 0 := rfl
  have z1 : Int.toNat 1 = 1 := rfl
  have n0 : decide (mv.getD 0 0 < -32) = !decide (-32 ≤ mv.getD 0 0) := by rw [← decide_not, decide_eq_decide]; omega
  have n1 : decide (mv.getD 1 0 < -32) = !decide (-32 ≤ mv.getD 1 0) := by rw [← decide_not, decide_eq_decide]; omega
  have u0 : decide (31 < mv.getD 0 0) = !decide (mv.getD 0 0 ≤ 31) := by rw [← decide_not, decide_eq_decide]; omega
  have u1 : decide (31 < mv.getD 1 0) = !decide (mv.getD 1 0 ≤ 31) := by rw [← decide_not, decide_eq_decide]; omega
  simp only [motion_Mayu1, d0, d1, d2, w0, w1, i0, i1, z0, z1, cond_true, cond_false, n0, n1, u0, u1, rngOK, Option.bind_some]
  cases decide (-32 ≤ mv.getD 0 0) <;> cases decide (mv.getD 0 0 ≤ 31) <;> cases decide (-32 ≤ mv.getD 1 0) <;> cases decide (mv.getD 1 0 ≤ 31) <;> rfl
theorem rng_r (k : Nat) (mv : List Int) : overspillref18_Mayu1 (k + 3) (k + 3) 0 mv = some (bif rngOK mv then .inr ((), mv) else .inl (false, mv)) := by
  have d0 : decide ((0 : Int) < 2) = true := rfl
  have d1 : decide ((1 : Int) < 2) = true := rfl
  have d2 : decide ((2 : Int) < 2) = false := rfl
  have w0 : wr .i64 ((0 : Int) + 1) = 1 := rfl
  have w1 : wr .i64 ((1 : Int) + 1) = 2 := rfl
  have i0 : inR 0 2 = true := rfl
  have i1 : inR 1 2 = true := rfl
  have z0 : Int.toNat 0 = 0 := rfl
  have z1 : Int.toNat 1 = 1 := rfl
  have n0 : decide (mv.getD 0 0 < -32) = !decide (-32 ≤ mv.getD 0 0) := by rw [← decide_not, decide_eq_decide]; omega
  have n1 : decide (mv.getD 1 0 < -32) = !decide (-32 ≤ mv.getD 1 0) := by rw [← decide_not, decide_eq_decide]; omega
  have u0 : decide (31 < mv.getD 0 0) = !decide (mv.getD 0 0 ≤ 31) := by rw [← decide_not, decide_eq_decide]; omega
  have u1 : decide (31 < mv.getD 1 0) = !decide (mv.getD 1 0 ≤ 31) := by rw [← decide_not, decide_eq_decide]; omega
  simp only [overspillref18_Mayu1, d0, d1, d2, w0, w1, i0, i1, z0, z1, cond_true, cond_false, n0, n1, u0, u1, rngOK, Option.bind_some]
  cases decide (-32 ≤ mv.getD 0 0) <;> cases decide (mv.getD 0 0 ≤ 31) <;> cases decide (-32 ≤ mv.getD 1 0) <;> cases decide (mv.getD 1 0 ≤ 31) <;> rfl
theorem may_p {k : Nat} (hk : 3 ≤ k) (f : Int) {n : Nat} (hn : n ≤ 10000) (mv : List Int) : motion_May k f (n : Int) mv = some (motOK (fm f) n mv) := by
  obtain ⟨k', rfl⟩ : ∃ k', k = k' + 3 := ⟨k - 3, by omega⟩
  have hf := fm_le f
  obtain ⟨a1, a2, a3, a4, a5, a6, _⟩ := fm_facts hf
  have hu0 : motion_Mayu0 (k' + 3) (n : Int) ((cwN (fm f) : Nat) : Int) ((chN (fm f) : Nat) : Int) (decide (fm f ≠ 0)) = some (!decide (n < cwN (fm f) * chN (fm f))) := by
    have hm : cwN (fm f) * chN (fm f) ≤ 100 * 100 := Nat.mul_le_mul a5 a6
    have e : wr .i64 (((cwN (fm f) : Nat) : Int) * ((chN (fm f) : Nat) : Int)) = ((cwN (fm f) * chN (fm f) : Nat) : Int) := by
      rw [← Int.natCast_mul]
      generalize cwN (fm f) * chN (fm f) = p at *
      rw [wr, wrap64 (by omega) (by omega)]
    simp only [motion_Mayu0, e]
    by_cases h0 : fm f = 0
    · rw [h0]; rfl
    · generalize cwN (fm f) * chN (fm f) = p at *
      rw [decide_eq_true (show fm f ≠ 0 from h0)]
      simp only [Bool.not_true, cond_false, decide_eq_false (show ¬ (n : Int) < 0 by omega)]
      congr 1
      rw [← decide_not, decide_eq_decide]; omega
  simp only [motion_May, Cells_spec, Size_spec, Option.bind_some, hu0, motOK]
  by_cases hin : n < cwN (fm f) * chN (fm f)
  · have hcw : 1 ≤ cwN (fm f) := by
      rcases Nat.eq_zero_or_pos (cwN (fm f)) with h | h
      · rw [h] at hin; simp at hin
      · exact h
    rw [decide_eq_true hin]
    simp only [Bool.not_true, cond_false, rng_p, Option.bind_some, Bool.true_and]
    cases hr : rngOK mv with
    | false => rfl
    | true =>
      have hr' := hr
      simp only [rngOK, Bool.and_eq_true, decide_eq_true_eq] at hr'
      have hz : decide (((cwN (fm f) : Nat) : Int) = 0) = false := by simp <;> omega
      have e0 : Int.tmod (n : Int) ((cwN (fm f) : Nat) : Int) = ((n % cwN (fm f) : Nat) : Int) := rfl
      have e1 : wr .i64 (Int.tdiv (n : Int) ((cwN (fm f) : Nat) : Int)) = ((n / cwN (fm f) : Nat) : Int) := quo _ (by omega)
      have hml : n % cwN (fm f) ≤ n := Nat.mod_le _ _
      have hdl : n / cwN (fm f) ≤ n := Nat.div_le_self _ _
      generalize n % cwN (fm f) = q at *
      generalize n / cwN (fm f) = d at *
      have e2 : wr .i64 (32 * (q : Int)) = ((32 * q : Nat) : Int) := by rw [wr, wrap64 (by omega) (by omega)]; simp
      have e3 : wr .i64 (32 * (d : Int)) = ((32 * d : Nat) : Int) := by rw [wr, wrap64 (by omega) (by omega)]; simp
      have e4 : wr .i64 (((32 * q : Nat) : Int) + mv.getD 0 0) = ((32 * q : Nat) : Int) + mv.getD 0 0 := by rw [wr, wrap64 (by omega) (by omega)]
      have e5 : wr .i64 (((32 * d : Nat) : Int) + mv.getD 1 0) = ((32 * d : Nat) : Int) + mv.getD 1 0 := by rw [wr, wrap64 (by omega) (by omega)]
      simp only [cond_true, Sum.elim_inr, hz, cond_false, e0, e1, e2, e3, e4, e5, within_p (k' + 3) (show ((32 * q : Nat) : Int) + mv.getD 0 0 ≤ 1000000000 by omega) (by omega) a1 a3, within_p (k' + 3) (show ((32 * d : Nat) : Int) + mv.getD 1 0 ≤ 1000000000 by omega) (by omega) a2 a4, Option.bind_some, Bool.true_and]
      cases inW (((32 * q : Nat) : Int) + mv.getD 0 0) (wdN (fm f)) <;> rfl
  · rw [decide_eq_false hin]; rfl
theorem may_r {k : Nat} (hk : 3 ≤ k) (f : Int) {n : Nat} (hn : n ≤ 10000) (mv : List Int) : overspillref18_May k f (n : Int) mv = some (motOK (fm f) n mv) := by
  obtain ⟨k', rfl⟩ : ∃ k', k = k' + 3 := ⟨k - 3, by omega⟩
  have hf := fm_le f
  obtain ⟨a1, a2, a3, a4, a5, a6, _⟩ := fm_facts hf
  have hu0 : overspillref18_Mayu0 (k' + 3) f (n : Int) = some (!decide (n < cwN (fm f) * chN (fm f))) := by
    simp only [overspillref18_Mayu0, rMany_spec, Option.bind_some, decide_eq_false (show ¬ (n : Int) < 0 by omega), cond_false]
    generalize cwN (fm f) * chN (fm f) = p at *
    congr 1
    rw [← decide_not, decide_eq_decide]; omega
  simp only [overspillref18_May, hu0, Option.bind_some, motOK, rAcross_spec]
  by_cases hin : n < cwN (fm f) * chN (fm f)
  · have hcw : 1 ≤ cwN (fm f) := by
      rcases Nat.eq_zero_or_pos (cwN (fm f)) with h | h
      · rw [h] at hin; simp at hin
      · exact h
    have hz : decide (((cwN (fm f) : Nat) : Int) = 0) = false := by simp <;> omega
    rw [decide_eq_true hin]
    simp only [Bool.not_true, cond_false, hz, rng_r, Option.bind_some, Bool.true_and]
    cases hr : rngOK mv with
    | false => rfl
    | true =>
      have hr' := hr
      simp only [rngOK, Bool.and_eq_true, decide_eq_true_eq] at hr'
      have e0 : Int.tmod (n : Int) ((cwN (fm f) : Nat) : Int) = ((n % cwN (fm f) : Nat) : Int) := rfl
      have e1 : wr .i64 (Int.tdiv (n : Int) ((cwN (fm f) : Nat) : Int)) = ((n / cwN (fm f) : Nat) : Int) := quo _ (by omega)
      have hml : n % cwN (fm f) ≤ n := Nat.mod_le _ _
      have hdl : n / cwN (fm f) ≤ n := Nat.div_le_self _ _
      generalize n % cwN (fm f) = q at *
      generalize n / cwN (fm f) = d at *
      have e2 : wr .i64 (32 * (q : Int)) = ((32 * q : Nat) : Int) := by rw [wr, wrap64 (by omega) (by omega)]; simp
      have e3 : wr .i64 (32 * (d : Int)) = ((32 * d : Nat) : Int) := by rw [wr, wrap64 (by omega) (by omega)]; simp
      have e4 : wr .i64 (((32 * q : Nat) : Int) + mv.getD 0 0) = ((32 * q : Nat) : Int) + mv.getD 0 0 := by rw [wr, wrap64 (by omega) (by omega)]
      have e5 : wr .i64 (((32 * d : Nat) : Int) + mv.getD 1 0) = ((32 * d : Nat) : Int) + mv.getD 1 0 := by rw [wr, wrap64 (by omega) (by omega)]
      have g0 : ∀ a b c d : Int, ([a, b, c, d] : List Int).getD 0 0 = a := fun _ _ _ _ => rfl
      have g1 : ∀ a b c d : Int, ([a, b, c, d] : List Int).getD 1 0 = b := fun _ _ _ _ => rfl
      simp only [cond_true, Sum.elim_inr, e0, e1, e2, e3, e4, e5, rSize_spec, Option.bind_some, g0, g1, inside_r (k' + 3) (show ((32 * q : Nat) : Int) + mv.getD 0 0 ≤ 1000000000 by omega) (by omega) a1 a3, inside_r (k' + 3) (show ((32 * d : Nat) : Int) + mv.getD 1 0 ≤ 1000000000 by omega) (by omega) a2 a4, Bool.true_and]
      cases inW (((32 * q : Nat) : Int) + mv.getD 0 0) (wdN (fm f)) <;> rfl
  · rw [decide_eq_false hin]; rfl
end Go.Proofs.YtlmajdbchmnhdaaGreatDoor
