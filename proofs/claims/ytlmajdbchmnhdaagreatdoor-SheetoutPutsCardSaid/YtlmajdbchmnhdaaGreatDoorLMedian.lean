/-
  What is foretold of a vector: the program's and the page's.
-/
import Derived.Test.YtlmajdbchmnhdaaGreatDoorLHeads2
set_option maxRecDepth 100000
namespace Go.Proofs.YtlmajdbchmnhdaaGreatDoor
open Go Go.Av

def mid3 (a b c : Int) : Int := mxI (mnI a b) (mnI (mxI a b) c)
theorem Middle_p (k : Nat) (a b c : Int) : whole_Middle k a b c = some (mid3 a b c) := rfl
theorem Middle_r (k : Nat) (a b c : Int) : overspillref01_Middle k a b c = some (mid3 a b c) := by
  simp only [overspillref01_Middle, overspillref01_Middleu0, mid3, mxI, mnI]
  by_cases h1 : b < a
  · simp only [decide_eq_true h1, decide_eq_false (show ¬ a < b by omega), cond_true, cond_false, Option.bind_some]
    by_cases h2 : c ≤ b
    · simp only [decide_eq_true h2, cond_true]
      by_cases h3 : a < c
      · omega
      · by_cases h4 : c < a
        · simp only [h4, h3, decide_true, decide_false, cond_true, cond_false]
          by_cases h5 : b < c
          · omega
          · simp only [h5, decide_false, cond_false]
        · simp only [h4, h3, decide_false, cond_false]
          by_cases h5 : b < a
          · have : c = a := by omega
            omega
          · omega
    · simp only [decide_eq_false h2, cond_false]
      by_cases h3 : a ≤ c
      · simp only [decide_eq_true h3, cond_true, decide_eq_false (show ¬ c < a by omega), cond_false, h1, decide_true]
      · simp only [decide_eq_false h3, cond_false, decide_eq_true (show c < a by omega), cond_true, decide_eq_true (show b < c by omega)]
  · simp only [decide_eq_false h1, cond_false, Option.bind_some]
    by_cases h6 : a < b
    · simp only [decide_eq_true h6, cond_true]
      by_cases h2 : c ≤ a
      · simp only [decide_eq_true h2, cond_true, decide_eq_true (show c < b by omega), decide_eq_false (show ¬ a < c by omega), cond_false]
      · simp only [decide_eq_false h2, cond_false]
        by_cases h3 : b ≤ c
        · simp only [decide_eq_true h3, cond_true, decide_eq_false (show ¬ c < b by omega), cond_false, decide_eq_true h6]
        · simp only [decide_eq_false h3, cond_false, decide_eq_true (show c < b by omega), cond_true, decide_eq_true (show a < c by omega)]
    · have : a = b := by omega
      subst this
      simp only [decide_eq_false h6, cond_false]
      by_cases h2 : c ≤ a
      · simp only [decide_eq_true h2, cond_true]
        by_cases h7 : c < a
        · simp only [decide_eq_true h7, cond_true, decide_eq_false (show ¬ a < c by omega), cond_false]
        · simp only [decide_eq_false h7, cond_false, decide_eq_false h6]
      · simp only [decide_eq_false h2, cond_false, decide_eq_true (show a ≤ c by omega), cond_true, decide_eq_false (show ¬ c < a by omega), decide_eq_false h6]

def medL (seen : List (List Int)) (cw : Nat) : List Int := if 0 < seen.length % cw then seen.getD (seen.length - 1) Y2 else Y2
def medU (seen : List (List Int)) (cw : Nat) : List Int := seen.getD (seen.length - cw) Y2
def medR (seen : List (List Int)) (cw : Nat) : List Int := if seen.length % cw + 1 < cw then seen.getD (seen.length - cw + 1) Y2 else Y2
/-- What is foretold: no rows above count, or those that do. -/
def med (seen : List (List Int)) (cw top : Nat) : List Int :=
  if seen.length / cw ≤ top then [mid3 ((medL seen cw).getD 0 0) ((medL seen cw).getD 0 0) ((medL seen cw).getD 0 0), mid3 ((medL seen cw).getD 1 0) ((medL seen cw).getD 1 0) ((medL seen cw).getD 1 0)]
  else [mid3 ((medL seen cw).getD 0 0) ((medU seen cw).getD 0 0) ((medR seen cw).getD 0 0), mid3 ((medL seen cw).getD 1 0) ((medU seen cw).getD 1 0) ((medR seen cw).getD 1 0)]
theorem med_loop (k : Nat) (a b c : List Int) : median_Ofu0 (k + 3) (k + 3) 0 a b c Y2 = some ((), (a, (b, (c, [mid3 (a.getD 0 0) (b.getD 0 0) (c.getD 0 0), mid3 (a.getD 1 0) (b.getD 1 0) (c.getD 1 0)])))) := by
  have d0 : decide ((0 : Int) < 2) = true := rfl
  have d1 : decide ((1 : Int) < 2) = true := rfl
  have d2 : decide ((2 : Int) < 2) = false := rfl
  have w0 : wr .i64 ((0 : Int) + 1) = 1 := rfl
  have w1 : wr .i64 ((1 : Int) + 1) = 2 := rfl
  have i0 : inR 0 2 = true := rfl
  have i1 : inR 1 2 = true := rfl
  have z0 : Int.toNat 0 = 0 := rfl
  have z1 : Int.toNat 1 = 1 := rfl
  simp only [median_Ofu0, d0, d1, d2, w0, w1, i0, i1, z0, z1, cond_true, cond_false, Middle_p, Option.bind_some]
  rfl
theorem quo {n : Nat} (cw : Nat) (hn : n ≤ 1000000) : wr .i64 (Int.tdiv ((n : Nat) : Int) (cw : Int)) = ((n / cw : Nat) : Int) := by
  rw [show Int.tdiv ((n : Nat) : Int) (cw : Int) = ((n / cw : Nat) : Int) from rfl]
  have := Nat.div_le_self n cw
  generalize n / cw = q at *
  rw [wr, wrap64 (by omega) (by omega)]
theorem med_p {k : Nat} (hk : 3 ≤ k) {seen : List (List Int)} {cw top : Nat} (hcw : 1 ≤ cw) (hcw2 : cw ≤ 1000) (hn : seen.length ≤ 1000000) (ht : top ≤ 1000000) : median_Of k seen (cw : Int) (top : Int) = some (med seen cw top) := by
  obtain ⟨k', rfl⟩ : ∃ k', k = k' + 3 := ⟨k - 3, by omega⟩
  have hmod : seen.length % cw < cw := Nat.mod_lt _ (by omega)
  have hdm := Nat.div_add_mod seen.length cw
  have hne : decide ((cw : Int) = 0) = false := by simp <;> omega
  have e0 : Int.tmod ((seen.length : Nat) : Int) (cw : Int) = ((seen.length % cw : Nat) : Int) := rfl
  have hdle : seen.length / cw ≤ seen.length := Nat.div_le_self _ _
  have e1 : wr .i64 (Int.tdiv ((seen.length : Nat) : Int) (cw : Int)) = ((seen.length / cw : Nat) : Int) := quo cw hn
  have e2 : mxI (top : Int) 0 = (top : Int) := by
    unfold mxI
    rw [decide_eq_false (by omega)]; rfl
  have hu0 : median_aroundu0 (k' + 3) seen ((seen.length : Nat) : Int) (decide ((0 : Int) < ((seen.length % cw : Nat) : Int))) Y2 = some ((), medL seen cw) := by
    unfold medL
    by_cases h : 0 < seen.length % cw
    · have hpos : 0 < seen.length := by
        rcases Nat.eq_zero_or_pos seen.length with h0 | h0
        · rw [h0] at h; simp at h
        · exact h0
      have e3 : wr .i64 (((seen.length : Nat) : Int) - 1) = ((seen.length - 1 : Nat) : Int) := by rw [wr, wrap64 (by omega) (by omega)]; omega
      rw [if_pos h, decide_eq_true (show (0 : Int) < ((seen.length % cw : Nat) : Int) by omega)]
      simp only [median_aroundu0, cond_true, e3, inR_nat, decide_eq_true (show seen.length - 1 < seen.length by omega), Int.toNat_natCast]
    · rw [if_neg h, decide_eq_false (show ¬ (0 : Int) < ((seen.length % cw : Nat) : Int) by omega)]
      rfl
  have har : median_around (k' + 3) seen (cw : Int) (top : Int) = some (if seen.length / cw ≤ top then (medL seen cw, (medL seen cw, (medL seen cw, ()))) else (medL seen cw, (medU seen cw, (medR seen cw, ())))) := by
    have hu0' : median_aroundu0 (k' + 3) seen ((seen.length : Nat) : Int) (decide ((0 : Int) < ((seen.length % cw : Nat) : Int))) (Ty.zero (.arr 2 (.int .i64))) = _ := hu0
    simp only [median_around, hne, cond_false, e0, e1, e2, hu0', Option.bind_some]
    by_cases h : seen.length / cw ≤ top
    · rw [if_pos h, decide_eq_true (show ((seen.length / cw : Nat) : Int) ≤ (top : Int) by omega)]; rfl
    · have h1 : 1 ≤ seen.length / cw := by omega
      have hge : cw ≤ seen.length := by
        have := Nat.mul_le_mul_left cw h1
        omega
      have e3 : wr .i64 (((seen.length : Nat) : Int) - (cw : Int)) = ((seen.length - cw : Nat) : Int) := by rw [wr, wrap64 (by omega) (by omega)]; omega
      have e4 : wr .i64 ((cw : Int) - 1) = ((cw - 1 : Nat) : Int) := by rw [wr, wrap64 (by omega) (by omega)]; omega
      have e5 : wr .i64 (((seen.length - cw : Nat) : Int) + 1) = ((seen.length - cw + 1 : Nat) : Int) := by rw [wr, wrap64 (by omega) (by omega)]; simp
      rw [if_neg h, decide_eq_false (show ¬ ((seen.length / cw : Nat) : Int) ≤ (top : Int) by omega)]
      simp only [cond_false, e3, e4, e5, inR_nat, decide_eq_true (show seen.length - cw < seen.length by omega), cond_true, Int.toNat_natCast]
      unfold medU medR
      by_cases h2 : seen.length % cw + 1 < cw
      · rw [if_pos h2, decide_eq_true (show ((seen.length % cw : Nat) : Int) < ((cw - 1 : Nat) : Int) by omega), decide_eq_true (show seen.length - cw + 1 < seen.length by omega)]; rfl
      · rw [if_neg h2, decide_eq_false (show ¬ ((seen.length % cw : Nat) : Int) < ((cw - 1 : Nat) : Int) by omega)]; rfl
  have hlt : decide ((cw : Int) < 1) = false := by simp <;> omega
  simp only [median_Of, hlt, cond_false, har, Option.bind_some]
  unfold med
  by_cases h : seen.length / cw ≤ top
  · rw [if_pos h, if_pos h]
    have hl := med_loop k' (medL seen cw) (medL seen cw) (medL seen cw)
    have hl' : median_Ofu0 (k' + 3) (k' + 3) 0 (medL seen cw) (medL seen cw) (medL seen cw) (Ty.zero (.arr 2 (.int .i64))) = _ := hl
    simp only [hl', Option.bind_some]
  · rw [if_neg h, if_neg h]
    have hl := med_loop k' (medL seen cw) (medU seen cw) (medR seen cw)
    have hl' : median_Ofu0 (k' + 3) (k' + 3) 0 (medL seen cw) (medU seen cw) (medR seen cw) (Ty.zero (.arr 2 (.int .i64))) = _ := hl
    simp only [hl', Option.bind_some]
theorem med_r (k : Nat) {seen : List (List Int)} {cw top : Nat} (hcw : 1 ≤ cw) (hcw2 : cw ≤ 1000) (hn : seen.length ≤ 1000000) (ht : top ≤ 1000000) : overspillref19_Of k seen (cw : Int) (top : Int) = some (med seen cw top) := by
  have hmod : seen.length % cw < cw := Nat.mod_lt _ (by omega)
  have hdm := Nat.div_add_mod seen.length cw
  have hne : decide ((cw : Int) = 0) = false := by simp <;> omega
  have hlt : decide ((cw : Int) < 1) = false := by simp <;> omega
  have e0 : Int.tmod ((seen.length : Nat) : Int) (cw : Int) = ((seen.length % cw : Nat) : Int) := rfl
  have hdle : seen.length / cw ≤ seen.length := Nat.div_le_self _ _
  have e1 : wr .i64 (Int.tdiv ((seen.length : Nat) : Int) (cw : Int)) = ((seen.length / cw : Nat) : Int) := quo cw hn
  have hat : ∀ (col : Int) (row : Nat), row ≤ seen.length / cw → (0 ≤ col → col < (cw : Int) → row * cw + col.toNat < seen.length) →
      overspillref19_at k seen (cw : Int) col (row : Int) = some (if 0 ≤ col ∧ col < (cw : Int) then seen.getD (row * cw + col.toNat) Y2 else Y2) := fun col row hrow hin => by
    have hu : overspillref19_atu0 k (cw : Int) col = some (!(decide (0 ≤ col ∧ col < (cw : Int)))) := by
      simp only [overspillref19_atu0]
      by_cases h : col < 0
      · rw [decide_eq_true h, decide_eq_false (show ¬ (0 ≤ col ∧ col < (cw : Int)) by omega)]; rfl
      · rw [decide_eq_false h, cond_false]
        congr 1
        rw [← decide_not, decide_eq_decide]; omega
    simp only [overspillref19_at, hu, Option.bind_some]
    by_cases h : 0 ≤ col ∧ col < (cw : Int)
    · have hb := hin h.1 h.2
      have hmul : row * cw ≤ seen.length := by omega
      obtain ⟨c, rfl⟩ : ∃ c : Nat, col = c := ⟨col.toNat, by omega⟩
      have e2 : wr .i64 ((row : Int) * (cw : Int)) = ((row * cw : Nat) : Int) := by
        rw [← Int.natCast_mul, wr, wrap64 (by omega) (by omega)]
      have e3 : wr .i64 (((row * cw : Nat) : Int) + (c : Int)) = ((row * cw + c : Nat) : Int) := by rw [wr, wrap64 (by omega) (by omega)]; simp
      rw [if_pos h, decide_eq_true h]
      simp only [Bool.not_true, cond_false, e2, e3, inR_nat, decide_eq_true (show row * cw + c < seen.length from hb), cond_true, Int.toNat_natCast]
    · rw [if_neg h, decide_eq_false h]; rfl
  have e2 : wr .i64 (((seen.length % cw : Nat) : Int) - 1) = ((seen.length % cw : Nat) : Int) - 1 := by rw [wr, wrap64 (by omega) (by omega)]
  have hcomm : seen.length / cw * cw = cw * (seen.length / cw) := Nat.mul_comm _ _
  have hL : overspillref19_at k seen (cw : Int) (((seen.length % cw : Nat) : Int) - 1) ((seen.length / cw : Nat) : Int) = some (medL seen cw) := by
    rw [hat _ _ (Nat.le_refl _) (fun h1 h2 => by omega)]
    unfold medL
    by_cases h : 0 < seen.length % cw
    · rw [if_pos h, if_pos (by omega), show seen.length / cw * cw + (((seen.length % cw : Nat) : Int) - 1).toNat = seen.length - 1 by omega]
    · rw [if_neg h, if_neg (by omega)]
  have hu0 : overspillref19_Ofu0 k (top : Int) ((seen.length / cw : Nat) : Int) = some (!decide (seen.length / cw ≤ top)) := by
    simp only [overspillref19_Ofu0]
    by_cases h : seen.length / cw ≤ top
    · rw [decide_eq_true h]
      by_cases h0 : 0 < seen.length / cw
      · rw [decide_eq_true (show (0 : Int) < ((seen.length / cw : Nat) : Int) by omega), decide_eq_false (show ¬ (top : Int) < ((seen.length / cw : Nat) : Int) by omega)]; rfl
      · rw [decide_eq_false (show ¬ (0 : Int) < ((seen.length / cw : Nat) : Int) by omega)]; rfl
    · rw [decide_eq_false h, decide_eq_true (show (0 : Int) < ((seen.length / cw : Nat) : Int) by omega), decide_eq_true (show (top : Int) < ((seen.length / cw : Nat) : Int) by omega)]; rfl
  simp only [overspillref19_Of, hlt, hne, cond_false, e0, e1, e2, hL, Option.bind_some, hu0]
  unfold med
  by_cases h : seen.length / cw ≤ top
  · rw [if_pos h, decide_eq_true h]
    simp only [Bool.not_true, overspillref19_Ofu1, cond_false, Option.bind_some, Middle_r]
    rfl
  · have h1 : 1 ≤ seen.length / cw := by omega
    have hge : cw ≤ seen.length := by
      have := Nat.mul_le_mul_left cw h1
      omega
    have hsub : (seen.length / cw - 1) * cw = cw * (seen.length / cw) - cw := by rw [Nat.sub_mul, hcomm, Nat.one_mul]
    have e3 : wr .i64 (((seen.length / cw : Nat) : Int) - 1) = ((seen.length / cw - 1 : Nat) : Int) := by rw [wr, wrap64 (by omega) (by omega)]; omega
    have e4 : wr .i64 (((seen.length % cw : Nat) : Int) + 1) = ((seen.length % cw : Nat) : Int) + 1 := by rw [wr, wrap64 (by omega) (by omega)]
    have hgem : cw ≤ cw * (seen.length / cw) := by
      have := Nat.mul_le_mul_left cw h1
      omega
    have hU : overspillref19_at k seen (cw : Int) ((seen.length % cw : Nat) : Int) ((seen.length / cw - 1 : Nat) : Int) = some (medU seen cw) := by
      rw [hat _ _ (by omega) (fun h1 h2 => by rw [hsub]; omega), if_pos (by omega), hsub, Int.toNat_natCast]
      unfold medU
      rw [show cw * (seen.length / cw) - cw + seen.length % cw = seen.length - cw by omega]
    have hR : overspillref19_at k seen (cw : Int) (((seen.length % cw : Nat) : Int) + 1) ((seen.length / cw - 1 : Nat) : Int) = some (medR seen cw) := by
      rw [hat _ _ (by omega) (fun h1 h2 => by rw [hsub]; omega)]
      unfold medR
      by_cases h2 : seen.length % cw + 1 < cw
      · rw [if_pos h2, if_pos (by omega), hsub, show cw * (seen.length / cw) - cw + (((seen.length % cw : Nat) : Int) + 1).toNat = seen.length - cw + 1 by omega]
      · rw [if_neg h2, if_neg (by omega)]
    rw [if_neg h, decide_eq_false h]
    simp only [Bool.not_false, overspillref19_Ofu1, cond_true, e3, e4, hU, hR, Option.bind_some, Middle_r]
    rfl
end Go.Proofs.YtlmajdbchmnhdaaGreatDoor
