/-
  The rows of the codes, and what of them is looked up.
-/
import Derived.Test.YtlmajdbchmnhdaaGreatDoorOut
import Derived.Test.YtlmajdbchmnhdaaGreatDoorM5
set_option maxRecDepth 100000
namespace Go.Proofs.YtlmajdbchmnhdaaGreatDoor
open Go Go.Av

noncomputable def rows6 (inter : Bool) : List (List UInt8) := ((overspillref06_rows 0 inter).getD []).filter fun r => !r.isEmpty
theorem rows6_short (inter : Bool) : ((rows6 inter).all fun r => Nat.ble r.length 24) = true ∧ (rows6 inter).length ≤ 1000 := by cases inter <;> exact ⟨by kernel_rfl, of_decide_eq_true (by kernel_rfl)⟩
theorem short_of {rows : List (List UInt8)} (h : (rows.all fun r => Nat.ble r.length 24) = true) : ∀ r ∈ rows, r.length ≤ 24 := fun r hr => Nat.le_of_ble_eq_true (List.all_eq_true.1 h r hr)
noncomputable def rows7 : List (List UInt8) := (overspillref07_rows 0).getD []
theorem rows7_short : (rows7.all fun r => Nat.ble r.length 24) = true ∧ rows7.length ≤ 1000 := ⟨by kernel_rfl, of_decide_eq_true (by kernel_rfl)⟩
noncomputable def rows8 : List (List UInt8) := (List.range 64).map fun (p : Nat) => ((overspillref08_Row 200 ((p : Int) - 32)).getD [])
theorem rows8_short : (rows8.all fun r => Nat.ble r.length 24) = true := by kernel_rfl
noncomputable def rowsOf (l : Bool) (r : Nat) : List (List UInt8) := (overspillref09_rows 200 l (r : Int)).getD []
noncomputable def tabFact (k : Nat) (l : Bool) (r : Nat) : Bool :=
  decide (tcoef_many (k + 200) l (r : Int) = some (((rowsOf l r).length : Nat) : Int)) && decide (overspillref09_rows (k + 200) l (r : Int) = some (rowsOf l r)) && ((rowsOf l r).all fun x => !x.isEmpty) && Nat.ble (rowsOf l r).length 12 &&
    ((List.range (rowsOf l r).length).all fun j => match tcoef_place (k + 200) l (r : Int) ((j + 1 : Nat) : Int) with | some p => decide (0 ≤ p) && decide (p < 102) | none => false)
theorem tab_facts (k : Nat) : ((List.range 64).all fun r => tabFact k false r && tabFact k true r) = true := by kernel_rfl
theorem tab_fact (k : Nat) (l : Bool) {r : Nat} (h : r < 64) : tabFact k l r = true := by
  have := List.all_eq_true.1 (tab_facts k) r (List.mem_range.2 h)
  simp only [Bool.and_eq_true] at this
  cases l
  · exact this.1
  · exact this.2
theorem many_at (k : Nat) (l : Bool) {r : Nat} (h : r < 64) : tcoef_many (k + 200) l (r : Int) = some (((rowsOf l r).length : Nat) : Int) ∧ overspillref09_rows (k + 200) l (r : Int) = some (rowsOf l r) ∧ (∀ x ∈ rowsOf l r, x ≠ []) ∧ (rowsOf l r).length ≤ 12 := by
  have := tab_fact k l h
  simp only [tabFact, Bool.and_eq_true, decide_eq_true_eq] at this
  obtain ⟨⟨⟨⟨h1, h2⟩, h3⟩, h4⟩, _⟩ := this
  refine ⟨h1, h2, fun x hx => ?_, Nat.le_of_ble_eq_true h4⟩
  have := List.all_eq_true.1 h3 x hx
  rintro rfl
  cases this
theorem place_at (k : Nat) (l : Bool) {r m : Nat} (h : r < 64) (hm : 1 ≤ m) : ∃ p : Int, tcoef_place (k + 200) l (r : Int) (m : Int) = some p ∧ (decide (0 ≤ p) = decide (m ≤ (rowsOf l r).length)) ∧ p < 102 := by
  obtain ⟨h1, _, _, _⟩ := many_at k l h
  by_cases hle : m ≤ (rowsOf l r).length
  · have := tab_fact k l h
    simp only [tabFact, Bool.and_eq_true] at this
    have h5 := List.all_eq_true.1 this.2 (m - 1) (List.mem_range.2 (by omega))
    rw [show m - 1 + 1 = m by omega] at h5
    split at h5
    · rename_i p hp
      simp only [Bool.and_eq_true, decide_eq_true_eq] at h5
      exact ⟨p, hp, by simp [h5.1, hle], h5.2⟩
    · cases h5
  · refine ⟨-1, ?_, by simp <;> omega, by omega⟩
    simp only [tcoef_place, h1, Option.bind_some, show decide ((((rowsOf l r).length : Nat) : Int) < (m : Int)) = true by simp <;> omega, cond_true]
/-- An event is in the table. -/
noncomputable def inTab (l : Bool) (r m : Nat) : Bool := decide (m ≤ (rowsOf l r).length)
theorem has_at (k : Nat) (l : Bool) {r m : Nat} (h : r < 64) (hm : 1 ≤ m) (hm2 : m ≤ 1000) : ∃ x, overspillref09_has (k + 200) l (r : Int) (m : Int) = some x ∧ decide (x = []) = !inTab l r m ∧ (inTab l r m = true → x = (rowsOf l r).getD (m - 1) []) := by
  obtain ⟨_, h2, h3, h4⟩ := many_at k l h
  simp only [overspillref09_has, h2, Option.bind_some, inTab]
  by_cases hle : m ≤ (rowsOf l r).length
  · have e1 : wr .i64 ((m : Int) - 1) = ((m - 1 : Nat) : Int) := by rw [wr, wrap64 (by omega) (by omega)]; omega
    simp only [show decide ((((rowsOf l r).length : Nat) : Int) < (m : Int)) = false by simp <;> omega, cond_false, e1, inR_nat, show decide (m - 1 < (rowsOf l r).length) = true by simp <;> omega, cond_true, Int.toNat_natCast]
    refine ⟨_, rfl, ?_, fun _ => rfl⟩
    have hmem : (rowsOf l r).getD (m - 1) [] ∈ rowsOf l r := by
      rw [List.getD_eq_getElem?_getD, List.getElem?_eq_getElem (by omega)]
      exact List.getElem_mem _
    rw [decide_eq_false (h3 _ hmem), decide_eq_true hle]; rfl
  · simp only [show decide ((((rowsOf l r).length : Nat) : Int) < (m : Int)) = true by simp <;> omega, cond_true]
    exact ⟨_, rfl, by simp [hle], fun h => by simp [hle] at h⟩
theorem mx_abs {v : Int} (h1 : -1000 ≤ v) (h2 : v ≤ 1000) : mxI v (wr .i64 (0 - v)) = ((v.natAbs : Nat) : Int) := by
  rw [wr, wrap64 (by omega) (by omega)]
  unfold mxI
  by_cases h : v < 0 - v
  · simp only [h, decide_true, cond_true]; omega
  · simp only [h, decide_false, cond_false]; omega

/-! ### Numbers from -32 to 31 -/
def wrapI (n : Int) : Int := if Int.tmod n 64 < -32 then Int.tmod n 64 + 64 else if 32 ≤ Int.tmod n 64 then Int.tmod n 64 - 64 else Int.tmod n 64
theorem tmod64 (n : Int) : -64 < Int.tmod n 64 ∧ Int.tmod n 64 < 64 := by
  constructor
  · have := Int.lt_tmod_of_pos n (b := 64) (by decide); omega
  · exact Int.tmod_lt_of_pos n (by decide)
theorem wrapI_range (n : Int) : -32 ≤ wrapI n ∧ wrapI n ≤ 31 := by
  have := tmod64 n
  unfold wrapI
  split
  · omega
  · split <;> omega
theorem Wrap_spec (k : Nat) (n : Int) : whole_Wrap k n = some (wrapI n) := by
  have := tmod64 n
  simp only [whole_Wrap, wrapI]
  by_cases h1 : Int.tmod n 64 < -32
  · rw [if_pos h1, decide_eq_true h1, cond_true, wr, wrap64 (by omega) (by omega)]
  · rw [if_neg h1, decide_eq_false h1, cond_false]
    by_cases h2 : 32 ≤ Int.tmod n 64
    · rw [if_pos h2, decide_eq_true h2, cond_true, wr, wrap64 (by omega) (by omega)]
    · rw [if_neg h2, decide_eq_false h2, cond_false]
theorem ref01_Wrap_spec (k : Nat) (n : Int) : overspillref01_Wrap k n = some (wrapI n) := by
  have := tmod64 n
  simp only [overspillref01_Wrap, wrapI]
  by_cases h0 : Int.tmod n 64 < 0
  · rw [decide_eq_true h0, cond_true, wr, wr, wrap64 (x := Int.tmod n 64 + 64) (by omega) (by omega)]
    by_cases h1 : 31 < Int.tmod n 64 + 64
    · rw [decide_eq_true h1, cond_true, wrap64 (by omega) (by omega), if_neg (by omega), if_neg (by omega)]
      congr 1; omega
    · rw [decide_eq_false h1, cond_false, if_pos (by omega)]
  · rw [decide_eq_false h0, cond_false]
    by_cases h1 : 31 < Int.tmod n 64
    · rw [decide_eq_true h1, cond_true, wr, wrap64 (by omega) (by omega), if_neg (by omega), if_pos (by omega)]
    · rw [decide_eq_false h1, cond_false, if_neg (by omega), if_neg (by omega)]
end Go.Proofs.YtlmajdbchmnhdaaGreatDoor
