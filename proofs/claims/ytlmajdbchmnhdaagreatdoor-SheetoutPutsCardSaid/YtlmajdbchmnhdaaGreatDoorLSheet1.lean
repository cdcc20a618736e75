/-
  Sheets: formats, heads, marks: what may be, and the bits that are written.
-/
import Derived.Test.YtlmajdbchmnhdaaGreatDoorLRef22
set_option maxRecDepth 100000
namespace Go.Proofs.YtlmajdbchmnhdaaGreatDoor
open Go Go.Av

/-! ### Formats -/
def fm (f : Int) : Nat := if 1 ≤ f ∧ f ≤ 6 then f.toNat else 0
def wdN (f : Nat) : Nat := [0, 128, 176, 352, 704, 1408, 32].getD f 0
def hgN (f : Nat) : Nat := [0, 96, 144, 288, 576, 1152, 32].getD f 0
def cwN (f : Nat) : Nat := [0, 8, 11, 22, 44, 88, 2].getD f 0
def chN (f : Nat) : Nat := [0, 6, 9, 18, 36, 72, 2].getD f 0
def rwN (f : Nat) : Nat := [0, 6, 9, 18, 18, 18, 2].getD f 0
def mlN (f : Nat) : Nat := [0, 1, 1, 1, 2, 4, 1].getD f 0
theorem fm_le (f : Int) : fm f ≤ 6 := by unfold fm; split <;> omega
theorem fm_cases (f : Int) : (fm f = 0 ∧ (f < 1 ∨ 6 < f)) ∨ (f = 1 ∧ fm f = 1) ∨ (f = 2 ∧ fm f = 2) ∨ (f = 3 ∧ fm f = 3) ∨ (f = 4 ∧ fm f = 4) ∨ (f = 5 ∧ fm f = 5) ∨ (f = 6 ∧ fm f = 6) := by
  unfold fm; split <;> omega
theorem Size_spec (k : Nat) (f : Int) : formats_Size k f = some (((wdN (fm f) : Nat) : Int), (((hgN (fm f) : Nat) : Int), (decide (fm f ≠ 0), ()))) := by
  rcases fm_cases f with ⟨h, h1⟩ | ⟨rfl, h⟩ | ⟨rfl, h⟩ | ⟨rfl, h⟩ | ⟨rfl, h⟩ | ⟨rfl, h⟩ | ⟨rfl, h⟩
  · rw [h]
    simp only [formats_Size, decide_eq_false (show ¬ f = 1 by omega), decide_eq_false (show ¬ f = 2 by omega), decide_eq_false (show ¬ f = 3 by omega), decide_eq_false (show ¬ f = 4 by omega), decide_eq_false (show ¬ f = 5 by omega), decide_eq_false (show ¬ f = 6 by omega), cond_false]
    rfl
  all_goals rw [h]; rfl
theorem Cells_spec (k : Nat) (f : Int) : formats_Cells k f = some (((cwN (fm f) : Nat) : Int), (((chN (fm f) : Nat) : Int), ())) := by
  simp only [formats_Cells, Size_spec, Option.bind_some]
  have := fm_le f
  generalize fm f = n at this
  have : n = 0 ∨ n = 1 ∨ n = 2 ∨ n = 3 ∨ n = 4 ∨ n = 5 ∨ n = 6 := by omega
  rcases this with rfl | rfl | rfl | rfl | rfl | rfl | rfl <;> rfl
theorem Rows_spec (k : Nat) (f : Int) : formats_Rows k f = some (((rwN (fm f) : Nat) : Int), (((mlN (fm f) : Nat) : Int), ())) := by
  simp only [formats_Rows, Cells_spec, Option.bind_some]
  rcases fm_cases f with ⟨h, h1⟩ | ⟨rfl, h⟩ | ⟨rfl, h⟩ | ⟨rfl, h⟩ | ⟨rfl, h⟩ | ⟨rfl, h⟩ | ⟨rfl, h⟩
  · rw [h]
    simp only [formats_Rowsu0, decide_eq_false (show ¬ f = 4 by omega), decide_eq_false (show ¬ f = 5 by omega), cond_false, Option.bind_some]
    rfl
  all_goals rw [h]; rfl
theorem rSize_spec (k : Nat) (f : Int) : overspillref16_Size k f = some [((wdN (fm f) : Nat) : Int), ((hgN (fm f) : Nat) : Int), ((rwN (fm f) : Nat) : Int), ((mlN (fm f) : Nat) : Int)] := by
  rcases fm_cases f with ⟨h, h1⟩ | ⟨rfl, h⟩ | ⟨rfl, h⟩ | ⟨rfl, h⟩ | ⟨rfl, h⟩ | ⟨rfl, h⟩ | ⟨rfl, h⟩
  · rw [h]
    by_cases h0 : f < 0
    · simp only [overspillref16_Size, decide_eq_true h0, cond_true]; rfl
    · by_cases h7 : 7 ≤ f
      · simp only [overspillref16_Size, decide_eq_false h0, decide_eq_true h7, cond_true, cond_false]; rfl
      · have : f = 0 := by omega
        subst this; rfl
  all_goals rw [h]; rfl
theorem rMany_spec (k : Nat) (f : Int) : overspillref16_Many k f = some ((cwN (fm f) * chN (fm f) : Nat) : Int) := by
  simp only [overspillref16_Many, rSize_spec, Option.bind_some]
  have := fm_le f
  generalize fm f = n at this
  have : n = 0 ∨ n = 1 ∨ n = 2 ∨ n = 3 ∨ n = 4 ∨ n = 5 ∨ n = 6 := by omega
  rcases this with rfl | rfl | rfl | rfl | rfl | rfl | rfl <;> rfl
theorem rAcross_spec (k : Nat) (f : Int) : overspillref16_Across k f = some ((cwN (fm f) : Nat) : Int) := by
  simp only [overspillref16_Across, rSize_spec, Option.bind_some]
  have := fm_le f
  generalize fm f = n at this
  have : n = 0 ∨ n = 1 ∨ n = 2 ∨ n = 3 ∨ n = 4 ∨ n = 5 ∨ n = 6 := by omega
  rcases this with rfl | rfl | rfl | rfl | rfl | rfl | rfl <;> rfl

/-! ### Heads of sheets -/
abbrev extS (x : DSheet) : List Int := x.2.2.2.2.2.1
abbrev rowsS (x : DSheet) : List DRow := x.2.2.2.2.2.2.1
abbrev fmS (x : DSheet) : Nat := fm x.2.2.1
abbrev interS (x : DSheet) : Bool := x.2.2.2.1
def byteI (v : Int) : Bool := decide (0 ≤ v) && decide (v ≤ 255)
def headOK (x : DSheet) : Bool := (decide (fmS x ≠ 0) && decide (0 ≤ x.1) && decide (x.1 ≤ 255) && decide (0 ≤ x.2.1) && decide (x.2.1 ≤ 7) && decide (1 ≤ x.2.2.2.2.1) && decide (x.2.2.2.2.1 ≤ 31) && decide ((extS x).length ≤ 8)) && (extS x).all byteI
theorem may_loop (k : Nat) {l : List Int} (hl : l.length ≤ 100000) : ∀ (n i : Nat) (b : Bool), i ≤ l.length → l.length < n + i → sheethead_mayu1 k n b l ((l.length : Nat) : Int) (i : Int) = some (b && (l.drop i).all byteI)
  | 0, i, b, h1, h2 => by omega
  | n + 1, i, b, h1, h2 => by
    simp only [sheethead_mayu1]
    by_cases h : i < l.length
    · have hd : l.drop i = l.getD i 0 :: l.drop (i + 1) := by
        rw [List.drop_eq_getElem_cons h]; simp [h]
      have ih := fun b => may_loop k hl n (i + 1) b h (by omega)
      have ew : wr .i64 ((i : Int) + 1) = ((i + 1 : Nat) : Int) := by rw [wr, wrap64 (by omega) (by omega)]; simp
      rw [hd]
      simp only [show decide ((i : Int) < ((l.length : Nat) : Int)) = true by simp [h], cond_true, inR_nat, h, decide_true, Int.toNat_natCast, ew, ih, List.all_cons, byteI, Option.bind_some]
      cases b with
      | false => rfl
      | true => cases decide (0 ≤ l.getD i 0) <;> simp
    · have : i = l.length := by omega
      subst this
      simp
theorem head_may {k : Nat} {x : DSheet} (hl : (extS x).length ≤ 100000) (hk : (extS x).length < k) : sheethead_may k x = some (headOK x) := by
  have hu0 : sheethead_mayu0 k (decide (fmS x ≠ 0)) x = some (decide (fmS x ≠ 0) && decide (0 ≤ x.1) && decide (x.1 ≤ 255) && decide (0 ≤ x.2.1) && decide (x.2.1 ≤ 7) && decide (1 ≤ x.2.2.2.2.1) && decide (x.2.2.2.2.1 ≤ 31) && decide ((extS x).length ≤ 8), x) := by
    have e : decide ((((extS x).length : Nat) : Int) ≤ 8) = decide ((extS x).length ≤ 8) := by rw [decide_eq_decide]; omega
    simp only [sheethead_mayu0, e]
    cases decide (fmS x ≠ 0) <;> cases decide (0 ≤ x.1) <;> cases decide (x.1 ≤ 255) <;> cases decide (0 ≤ x.2.1) <;> cases decide (x.2.1 ≤ 7) <;> cases decide (1 ≤ x.2.2.2.2.1) <;> cases decide (x.2.2.2.2.1 ≤ 31) <;> rfl
  have h := may_loop k hl k 0 (decide (fmS x ≠ 0) && decide (0 ≤ x.1) && decide (x.1 ≤ 255) && decide (0 ≤ x.2.1) && decide (x.2.1 ≤ 7) && decide (1 ≤ x.2.2.2.2.1) && decide (x.2.2.2.2.1 ≤ 31) && decide ((extS x).length ≤ 8)) (by omega) (by omega)
  rw [List.drop_zero] at h
  have h' : sheethead_mayu1 k k (decide (fmS x ≠ 0) && decide (0 ≤ x.1) && decide (x.1 ≤ 255) && decide (0 ≤ x.2.1) && decide (x.2.1 ≤ 7) && decide (1 ≤ x.2.2.2.2.1) && decide (x.2.2.2.2.1 ≤ 31) && decide ((extS x).length ≤ 8)) x.2.2.2.2.2.1 ((x.2.2.2.2.2.1.length : Nat) : Int) 0 = _ := h
  simp only [sheethead_may, Size_spec, Option.bind_some, hu0, h', headOK]
theorem ref24_loop (k : Nat) {x : DSheet} (hl : (extS x).length ≤ 100000) : ∀ (n i : Nat), i ≤ (extS x).length → (extS x).length < n + i → overspillref24_Rightu1 k n (i : Int) x = some (bif ((extS x).drop i).all byteI then .inr ((), x) else .inl (false, x))
  | 0, i, h1, h2 => by omega
  | n + 1, i, h1, h2 => by
    simp only [overspillref24_Rightu1]
    by_cases h : i < (extS x).length
    · have hd : (extS x).drop i = (extS x).getD i 0 :: (extS x).drop (i + 1) := by
        rw [List.drop_eq_getElem_cons h]; simp [h]
      have ih := ref24_loop k hl n (i + 1) h (by omega)
      have ew : wr .i64 ((i : Int) + 1) = ((i + 1 : Nat) : Int) := by rw [wr, wrap64 (by omega) (by omega)]; simp
      have n0 : decide ((extS x).getD i 0 < 0) = !decide (0 ≤ (extS x).getD i 0) := by rw [← decide_not, decide_eq_decide]; omega
      have n1 : decide (255 < (extS x).getD i 0) = !decide ((extS x).getD i 0 ≤ 255) := by rw [← decide_not, decide_eq_decide]; omega
      rw [hd]
      simp only [show decide ((i : Int) < (((extS x).length : Nat) : Int)) = true by simp [h], cond_true, inR_nat, h, decide_true, Int.toNat_natCast, ew, ih, List.all_cons, byteI, Option.bind_some, n0, n1]
      cases decide (0 ≤ (extS x).getD i 0) with
      | false => rfl
      | true =>
        cases decide ((extS x).getD i 0 ≤ 255) with
        | false => rfl
        | true =>
          simp only [Bool.not_true, cond_false, Bool.true_and, Bool.and_self]
          cases ((extS x).drop (i + 1)).all byteI <;> rfl
    · have : i = (extS x).length := by omega
      subst this
      simp
theorem ref24_Right_spec {k : Nat} {x : DSheet} (hl : (extS x).length ≤ 100000) (hk : (extS x).length < k) : overspillref24_Right k x = some (headOK x) := by
  have hm : decide (((cwN (fmS x) * chN (fmS x) : Nat) : Int) = 0) = !decide (fmS x ≠ 0) := by
    have := fm_le x.2.2.1
    show decide (((cwN (fm x.2.2.1) * chN (fm x.2.2.1) : Nat) : Int) = 0) = !decide (fm x.2.2.1 ≠ 0)
    generalize fm x.2.2.1 = n at this
    have : n = 0 ∨ n = 1 ∨ n = 2 ∨ n = 3 ∨ n = 4 ∨ n = 5 ∨ n = 6 := by omega
    rcases this with rfl | rfl | rfl | rfl | rfl | rfl | rfl <;> rfl
  have hu0 : overspillref24_Rightu0 k x = some (!(decide (fmS x ≠ 0) && decide (0 ≤ x.1) && decide (x.1 ≤ 255) && decide (0 ≤ x.2.1) && decide (x.2.1 ≤ 7) && decide (1 ≤ x.2.2.2.2.1) && decide (x.2.2.2.2.1 ≤ 31) && decide ((extS x).length ≤ 8)), x) := by
    have c1 : decide (x.1 < 0) = !decide (0 ≤ x.1) := by rw [← decide_not, decide_eq_decide]; omega
    have c2 : decide (255 < x.1) = !decide (x.1 ≤ 255) := by rw [← decide_not, decide_eq_decide]; omega
    have c3 : decide (x.2.1 < 0) = !decide (0 ≤ x.2.1) := by rw [← decide_not, decide_eq_decide]; omega
    have c4 : decide (7 < x.2.1) = !decide (x.2.1 ≤ 7) := by rw [← decide_not, decide_eq_decide]; omega
    have c5 : decide (x.2.2.2.2.1 < 1) = !decide (1 ≤ x.2.2.2.2.1) := by rw [← decide_not, decide_eq_decide]; omega
    have c6 : decide (31 < x.2.2.2.2.1) = !decide (x.2.2.2.2.1 ≤ 31) := by rw [← decide_not, decide_eq_decide]; omega
    have c7 : decide ((8 : Int) < (((extS x).length : Nat) : Int)) = !decide ((extS x).length ≤ 8) := by rw [← decide_not, decide_eq_decide]; omega
    simp only [overspillref24_Rightu0, rMany_spec, Option.bind_some, c1, c2, c3, c4, c5, c6, c7, hm]
    cases decide (fmS x ≠ 0) <;> cases decide (0 ≤ x.1) <;> cases decide (x.1 ≤ 255) <;> cases decide (0 ≤ x.2.1) <;> cases decide (x.2.1 ≤ 7) <;> cases decide (1 ≤ x.2.2.2.2.1) <;> cases decide (x.2.2.2.2.1 ≤ 31) <;> rfl
  have h := ref24_loop k hl k 0 (by omega) (by omega)
  rw [List.drop_zero] at h
  have h' : overspillref24_Rightu1 k k 0 x = _ := h
  simp only [overspillref24_Right, hu0, Option.bind_some, headOK]
  cases (decide (fmS x ≠ 0) && decide (0 ≤ x.1) && decide (x.1 ≤ 255) && decide (0 ≤ x.2.1) && decide (x.2.1 ≤ 7) && decide (1 ≤ x.2.2.2.2.1) && decide (x.2.2.2.2.1 ≤ 31) && decide ((extS x).length ≤ 8)) with
  | false => rfl
  | true =>
    simp only [Bool.not_true, cond_false, h', Option.bind_some, Bool.true_and]
    cases (extS x).all byteI <;> rfl

end Go.Proofs.YtlmajdbchmnhdaaGreatDoor
