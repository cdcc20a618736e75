/-
  Which sheets may be: rows, and the whole.
-/
import Derived.Test.YtlmajdbchmnhdaaGreatDoorLCheck
set_option maxRecDepth 100000
namespace Go.Proofs.YtlmajdbchmnhdaaGreatDoor
open Go Go.Av

abbrev cellsR (r : DRow) : List DCell := r.2.2.2.1
abbrev CZ : DCell := (0, (false, (0, (0, (Y2, (Y6, (Ye, ())))))))
abbrev RZ : DRow := (false, (0, (0, ([], ()))))
def rowHead (i : Nat) (r : DRow) : Bool := bif r.1 then decide (i ≠ 0) && decide (0 ≤ r.2.1) && decide (r.2.1 ≤ 3) && decide (1 ≤ r.2.2.1) && decide (r.2.2.1 ≤ 31) else decide (r.2.1 = 0) && decide (r.2.2.1 = 0)
def rowOK (f : Nat) (inter : Bool) (i : Nat) (r : DRow) : Bool := decide ((cellsR r).length = cwN f * mlN f) && (rowHead i r && (cellsR r).all (cellOK inter))
def rowsOK (f : Nat) (inter : Bool) : Nat → List DRow → Bool
  | _, [] => true
  | i, r :: l => rowOK f inter i r && rowsOK f inter (i + 1) l
/-- Light rows: few cells, few events. -/
structure LightR (m : Nat) (r : DRow) : Prop where
  few : (cellsR r).length ≤ 1000
  cells : ∀ c ∈ cellsR r, CellF m c

theorem getD_mem {α : Type} {l : List α} {i : Nat} (h : i < l.length) (d : α) : l.getD i d ∈ l := by
  rw [List.getD_eq_getElem?_getD, List.getElem?_eq_getElem h]; exact List.getElem_mem _
theorem drop_getD {α : Type} {l : List α} {i : Nat} (h : i < l.length) (d : α) : l.drop i = l.getD i d :: l.drop (i + 1) := by
  rw [List.drop_eq_getElem_cons h]; simp [h]

theorem cells_p {k m : Nat} (hm : m ≤ 100000) (hk : m + 300 < k) (x : DSheet) {l : List DCell} (hl : l.length ≤ 1000) (hc : ∀ c ∈ l, CellF m c) : ∀ (n i : Nat), i ≤ l.length → l.length < n + i →
    sound_sheet_rowu2 k n l ((l.length : Nat) : Int) (i : Int) x = some (bif (l.drop i).all (cellOK (interS x)) then .inr ((), x) else .inl (false, x))
  | 0, i, h1, h2 => by omega
  | n + 1, i, h1, h2 => by
    simp only [sound_sheet_rowu2]
    by_cases h : i < l.length
    · have ih := cells_p hm hk x hl hc n (i + 1) h (by omega)
      have ew : wr .i64 ((i : Int) + 1) = ((i + 1 : Nat) : Int) := by rw [wr, wrap64 (by omega) (by omega)]; simp
      have hr := Right_spec_w hm hk (hc _ (getD_mem h CZ)) (interS x)
      rw [drop_getD h CZ]
      simp only [show decide ((i : Int) < ((l.length : Nat) : Int)) = true by simp [h], cond_true, inR_nat, h, decide_true, Int.toNat_natCast, hr, Option.bind_some, ew, ih, List.all_cons]
      cases cellOK (interS x) (l.getD i CZ) with
      | false => rfl
      | true =>
        simp only [Bool.not_true, cond_false, Bool.true_and]
        cases (l.drop (i + 1)).all (cellOK (interS x)) <;> rfl
    · have : i = l.length := by omega
      subst this
      simp
theorem row_p {k m : Nat} (hm : m ≤ 100000) (hk : m + 2000 < k) {x : DSheet} (hlr : ∀ r ∈ rowsS x, LightR m r) {i : Nat} (hi : i < (rowsS x).length) : sound_sheet_row k x (i : Int) = some (rowOK (fmS x) (interS x) i ((rowsS x).getD i RZ)) := by
  have hL := hlr _ (getD_mem hi RZ)
  generalize hg : (rowsS x).getD i RZ = r at hL
  have hf := fm_le x.2.2.1
  obtain ⟨_, _, _, _, a5, _, _, a8, _⟩ := fm_facts hf
  have hu1 : sound_sheet_rowu1 k (i : Int) ((cwN (fm x.2.2.1) : Nat) : Int) ((mlN (fm x.2.2.1) : Nat) : Int) r = some (bif decide ((cellsR r).length = cwN (fmS x) * mlN (fmS x)) && rowHead i r then .inr ((), r) else .inl (false, r)) := by
    have hmm : cwN (fm x.2.2.1) * mlN (fm x.2.2.1) ≤ 100 * 4 := Nat.mul_le_mul a5 a8
    have e : wr .i64 (((cwN (fm x.2.2.1) : Nat) : Int) * ((mlN (fm x.2.2.1) : Nat) : Int)) = ((cwN (fm x.2.2.1) * mlN (fm x.2.2.1) : Nat) : Int) := by
      rw [← Int.natCast_mul]
      generalize cwN (fm x.2.2.1) * mlN (fm x.2.2.1) = p at *
      rw [wr, wrap64 (by omega) (by omega)]
    have e2 : decide ((((cellsR r).length : Nat) : Int) = ((cwN (fm x.2.2.1) * mlN (fm x.2.2.1) : Nat) : Int)) = decide ((cellsR r).length = cwN (fmS x) * mlN (fmS x)) := by
      rw [decide_eq_decide]; exact Int.ofNat_inj
    simp only [sound_sheet_rowu1, e, e2]
    cases decide ((cellsR r).length = cwN (fmS x) * mlN (fmS x)) with
    | false => rfl
    | true =>
      simp only [Bool.not_true, cond_false, Bool.true_and, rowHead, sound_sheet_rowu0]
      have n0 : decide (r.2.1 < 0) = !decide (0 ≤ r.2.1) := by rw [← decide_not, decide_eq_decide]; omega
      have n1 : decide (3 < r.2.1) = !decide (r.2.1 ≤ 3) := by rw [← decide_not, decide_eq_decide]; omega
      have n2 : decide (r.2.2.1 < 1) = !decide (1 ≤ r.2.2.1) := by rw [← decide_not, decide_eq_decide]; omega
      have n3 : decide (31 < r.2.2.1) = !decide (r.2.2.1 ≤ 31) := by rw [← decide_not, decide_eq_decide]; omega
      have n4 : decide ((i : Int) = 0) = !decide (i ≠ 0) := by rw [← decide_not, decide_eq_decide]; omega
      simp only [n0, n1, n2, n3, n4]
      cases hh : r.1 with
      | true =>
        simp only [Bool.not_true, cond_false, Option.bind_some, cond_true, hh, n0, n1, n2, n3, n4]
        cases decide (i ≠ 0) <;> cases decide (0 ≤ r.2.1) <;> cases decide (r.2.1 ≤ 3) <;> cases decide (1 ≤ r.2.2.1) <;> cases decide (r.2.2.1 ≤ 31) <;> rfl
      | false =>
        simp only [Bool.not_false, cond_true, cond_false]
        cases decide (r.2.1 = 0) with
        | false => rfl
        | true =>
          cases decide (r.2.2.1 = 0) with
          | false => rfl
          | true => simp only [Bool.not_true, cond_false, Option.bind_some, hh, Bool.and_self, cond_true]
  have hc := cells_p hm (show m + 300 < k by omega) x hL.few hL.cells k 0 (by omega) (by have := hL.few; omega)
  rw [List.drop_zero] at hc
  have hc' : sound_sheet_rowu2 k k r.2.2.2.1 ((r.2.2.2.1.length : Nat) : Int) 0 x = _ := hc
  simp only [sound_sheet_row, Cells_spec, Rows_spec, Option.bind_some, inR_nat, hi, decide_true, cond_true, Int.toNat_natCast, hg, hu1, rowOK]
  cases decide ((cellsR r).length = cwN (fmS x) * mlN (fmS x)) with
  | false => rfl
  | true =>
    cases rowHead i r with
    | false => rfl
    | true =>
      simp only [Bool.and_self, cond_true, Sum.elim_inr, hc', Option.bind_some, Bool.true_and]
      cases (cellsR r).all (cellOK (interS x)) <;> rfl
theorem every_p {k m : Nat} (hm : m ≤ 100000) (hk : m + 2000 < k) {x : DSheet} (hn : (rowsS x).length ≤ 100) (hlr : ∀ r ∈ rowsS x, LightR m r) : ∀ (n i : Nat), i ≤ (rowsS x).length → (rowsS x).length < n + i →
    sound_everyu0 k n x (((rowsS x).length : Nat) : Int) (i : Int) = some (bif rowsOK (fmS x) (interS x) i ((rowsS x).drop i) then .inr () else .inl false)
  | 0, i, h1, h2 => by omega
  | n + 1, i, h1, h2 => by
    simp only [sound_everyu0]
    by_cases h : i < (rowsS x).length
    · have ih := every_p hm hk hn hlr n (i + 1) h (by omega)
      have ew : wr .i64 ((i : Int) + 1) = ((i + 1 : Nat) : Int) := by rw [wr, wrap64 (by omega) (by omega)]; simp
      rw [drop_getD h RZ]
      simp only [show decide ((i : Int) < (((rowsS x).length : Nat) : Int)) = true by simp [h], cond_true, row_p hm hk hlr h, Option.bind_some, ew, ih, rowsOK]
      cases rowOK (fmS x) (interS x) i ((rowsS x).getD i RZ) with
      | false => rfl
      | true =>
        simp only [Bool.not_true, cond_false, Bool.true_and]
        cases rowsOK (fmS x) (interS x) (i + 1) ((rowsS x).drop (i + 1)) <;> rfl
    · have : i = (rowsS x).length := by omega
      subst this
      simp [rowsOK]
/-! ### The page's rows -/
theorem cells_r {k m : Nat} (hm : m ≤ 100000) (hk : m + 300 < k) (x : DSheet) {r : DRow} (hL : LightR m r) : ∀ (n i : Nat), i ≤ (cellsR r).length → (cellsR r).length < n + i →
    overspillref25_rowu1 k n (i : Int) x r = some (bif ((cellsR r).drop i).all (cellOK (interS x)) then .inr ((), (x, r)) else .inl (false, (x, r)))
  | 0, i, h1, h2 => by omega
  | n + 1, i, h1, h2 => by
    simp only [overspillref25_rowu1]
    by_cases h : i < (cellsR r).length
    · have ih := cells_r hm hk x hL n (i + 1) h (by omega)
      have hfew := hL.few
      have ew : wr .i64 ((i : Int) + 1) = ((i + 1 : Nat) : Int) := by rw [wr, wrap64 (by omega) (by omega)]; simp
      have hr := ref22_Right_spec hm hk (hL.cells _ (getD_mem h CZ)) (interS x)
      rw [drop_getD h CZ]
      simp only [show decide ((i : Int) < (((cellsR r).length : Nat) : Int)) = true by simp [h], cond_true, inR_nat, h, decide_true, Int.toNat_natCast, hr, Option.bind_some, ew, ih, List.all_cons]
      cases cellOK (interS x) ((cellsR r).getD i CZ) with
      | false => rfl
      | true =>
        simp only [Bool.not_true, cond_false, Bool.true_and]
        cases ((cellsR r).drop (i + 1)).all (cellOK (interS x)) <;> rfl
    · have : i = (cellsR r).length := by omega
      subst this
      simp
theorem row_r {k m : Nat} (hm : m ≤ 100000) (hk : m + 2000 < k) {x : DSheet} (hlr : ∀ r ∈ rowsS x, LightR m r) {i : Nat} (hi : i < (rowsS x).length) : overspillref25_row k x (i : Int) = some (rowOK (fmS x) (interS x) i ((rowsS x).getD i RZ)) := by
  have hL := hlr _ (getD_mem hi RZ)
  generalize hg : (rowsS x).getD i RZ = r at hL
  have hf := fm_le x.2.2.1
  obtain ⟨_, _, _, _, a5, _, _, a8, _⟩ := fm_facts hf
  have hmm : cwN (fm x.2.2.1) * mlN (fm x.2.2.1) ≤ 100 * 4 := Nat.mul_le_mul a5 a8
  have e : wr .i64 (((cwN (fm x.2.2.1) : Nat) : Int) * ((mlN (fm x.2.2.1) : Nat) : Int)) = ((cwN (fm x.2.2.1) * mlN (fm x.2.2.1) : Nat) : Int) := by
    rw [← Int.natCast_mul]
    generalize cwN (fm x.2.2.1) * mlN (fm x.2.2.1) = p at *
    rw [wr, wrap64 (by omega) (by omega)]
  have e2 : decide ((((cellsR r).length : Nat) : Int) = ((cwN (fm x.2.2.1) * mlN (fm x.2.2.1) : Nat) : Int)) = decide ((cellsR r).length = cwN (fmS x) * mlN (fmS x)) := by
    rw [decide_eq_decide]; exact Int.ofNat_inj
  have g3 : ∀ a b c d : Int, ([a, b, c, d] : List Int).getD 3 0 = d := fun _ _ _ _ => rfl
  have hu0 : overspillref25_rowu0 k (i : Int) r.1 r = some (bif rowHead i r then .inr ((), r) else .inl (false, r)) := by
    have n0 : decide (r.2.1 < 0) = !decide (0 ≤ r.2.1) := by rw [← decide_not, decide_eq_decide]; omega
    have n1 : decide (3 < r.2.1) = !decide (r.2.1 ≤ 3) := by rw [← decide_not, decide_eq_decide]; omega
    have n2 : decide (r.2.2.1 < 1) = !decide (1 ≤ r.2.2.1) := by rw [← decide_not, decide_eq_decide]; omega
    have n3 : decide (31 < r.2.2.1) = !decide (r.2.2.1 ≤ 31) := by rw [← decide_not, decide_eq_decide]; omega
    have n4 : decide ((i : Int) = 0) = !decide (i ≠ 0) := by rw [← decide_not, decide_eq_decide]; omega
    simp only [overspillref25_rowu0, rowHead, n0, n1, n2, n3, n4]
    cases r.1 with
    | true =>
      simp only [cond_true]
      cases decide (i ≠ 0) <;> cases decide (0 ≤ r.2.1) <;> cases decide (r.2.1 ≤ 3) <;> cases decide (1 ≤ r.2.2.1) <;> cases decide (r.2.2.1 ≤ 31) <;> rfl
    | false =>
      simp only [cond_false]
      cases decide (r.2.1 = 0) <;> cases decide (r.2.2.1 = 0) <;> rfl
  have hc := cells_r hm (show m + 300 < k by omega) x hL k 0 (by omega) (by have := hL.few; omega)
  rw [List.drop_zero] at hc
  have hc' : overspillref25_rowu1 k k 0 x r = _ := hc
  simp only [overspillref25_row, inR_nat, hi, decide_true, cond_true, Int.toNat_natCast, hg, rAcross_spec, rSize_spec, Option.bind_some, g3, e, e2, hu0, rowOK]
  cases decide ((cellsR r).length = cwN (fmS x) * mlN (fmS x)) with
  | false => rfl
  | true =>
    simp only [Bool.not_true, cond_false, Bool.true_and]
    cases rowHead i r with
    | false => rfl
    | true =>
      simp only [cond_true, Sum.elim_inr, hc', Option.bind_some, Bool.true_and]
      cases (cellsR r).all (cellOK (interS x)) <;> rfl
theorem every_r {k m : Nat} (hm : m ≤ 100000) (hk : m + 2000 < k) {x : DSheet} (hn : (rowsS x).length ≤ 100) (hlr : ∀ r ∈ rowsS x, LightR m r) : ∀ (n i : Nat), i ≤ (rowsS x).length → (rowsS x).length < n + i →
    overspillref25_Checku1 k n (i : Int) x = some (bif rowsOK (fmS x) (interS x) i ((rowsS x).drop i) then .inr ((), x) else .inl (12, x))
  | 0, i, h1, h2 => by omega
  | n + 1, i, h1, h2 => by
    simp only [overspillref25_Checku1]
    by_cases h : i < (rowsS x).length
    · have ih := every_r hm hk hn hlr n (i + 1) h (by omega)
      have ew : wr .i64 ((i : Int) + 1) = ((i + 1 : Nat) : Int) := by rw [wr, wrap64 (by omega) (by omega)]; simp
      rw [drop_getD h RZ]
      simp only [show decide ((i : Int) < (((rowsS x).length : Nat) : Int)) = true by simp [h], cond_true, row_r hm hk hlr h, Option.bind_some, ew, ih, rowsOK]
      cases rowOK (fmS x) (interS x) i ((rowsS x).getD i RZ) with
      | false => rfl
      | true =>
        simp only [Bool.not_true, cond_false, Bool.true_and]
        cases rowsOK (fmS x) (interS x) (i + 1) ((rowsS x).drop (i + 1)) <;> rfl
    · have : i = (rowsS x).length := by omega
      subst this
      simp [rowsOK]
end Go.Proofs.YtlmajdbchmnhdaaGreatDoor
