/-
  Which sheets may be: the whole.
-/
import Derived.Test.YtlmajdbchmnhdaaGreatDoorLCheck2
set_option maxRecDepth 100000
namespace Go.Proofs.YtlmajdbchmnhdaaGreatDoor
open Go Go.Av

def allC (x : DSheet) : List DCell := (rowsS x).flatMap cellsR
theorem rowMax_small {n : Nat} (h : n ≤ 1000000000) : decide (n ≤ rowMax) = true := by rw [decide_eq_true_eq]; unfold rowMax; omega

/-! ### All cells -/
theorem set_same {α : Type} {l : List α} {i : Nat} (h : i < l.length) (d : α) : l.set i (l.getD i d) = l := by
  rw [List.getD_eq_getElem?_getD, List.getElem?_eq_getElem h, Option.getD_some]
  exact List.set_getElem_self h
theorem own_loop (k : Nat) {m : Nat} (hm : m ≤ 100000) {c : DCell} (hc : CellF m c) : ∀ (n i : Nat), i ≤ 6 → 6 < n + i → sound_ownu0 k n (evW c) (i : Int) c = some ((), c)
  | 0, i, h1, h2 => by omega
  | n + 1, i, h1, h2 => by
    simp only [sound_ownu0]
    by_cases h : i < 6
    · have ih := own_loop k hm hc n (i + 1) h (by omega)
      have ew : wr .i64 ((i : Int) + 1) = ((i + 1 : Nat) : Int) := by rw [wr, wrap64 (by omega) (by omega)]; simp
      have hfew := hc.few i
      have hcl : slices_Clone_Event_2 k ((evW c).getD i []) = some ((evW c).getD i []) := by
        simp only [slices_Clone_Event_2, rowMax_small (show 0 + ((evW c).getD i []).length ≤ 1000000000 by omega), cond_true, List.nil_append]
      have hs : List.set (evW c) i ((evW c).getD i []) = evW c := set_same (by rw [hc.ev]; exact h) []
      simp only [show decide ((i : Int) < 6) = true by simp <;> omega, cond_true, inR_nat, h, decide_true, Int.toNat_natCast, hcl, Option.bind_some, ew, hs]
      have ih' : sound_ownu0 k n (evW c) ((i + 1 : Nat) : Int) (c.1, (c.2.1, (c.2.2.1, (c.2.2.2.1, (c.2.2.2.2.1, (c.2.2.2.2.2.1, (evW c, c.2.2.2.2.2.2.2))))))) = _ := ih
      rw [ih']; rfl
    · simp only [show decide ((i : Int) < 6) = false by simp <;> omega, cond_false]
theorem own_p {k m : Nat} (hm : m ≤ 100000) (hk : 10 < k) {c : DCell} (hc : CellF m c) : sound_own k c = some c := by
  have h := own_loop k hm hc k 0 (by omega) (by omega)
  have h' : sound_ownu0 k k c.2.2.2.2.2.2.1 0 c = _ := h
  simp only [sound_own, h', Option.bind_some]
theorem cellsP_inner (k : Nat) {m : Nat} (hm : m ≤ 100000) (hk : 10 < k) {l : List DCell} (hl : l.length ≤ 1000) (hc : ∀ c ∈ l, CellF m c) : ∀ (n i : Nat) (acc : List DCell), i ≤ l.length → l.length < n + i → acc.length ≤ 100000000 + i →
    sound_Cellsu0 k n l ((l.length : Nat) : Int) (i : Int) acc = some ((), acc ++ l.drop i)
  | 0, i, acc, h1, h2, h3 => by omega
  | n + 1, i, acc, h1, h2, h3 => by
    simp only [sound_Cellsu0]
    by_cases h : i < l.length
    · have ih := cellsP_inner k hm hk hl hc n (i + 1) (acc ++ [l.getD i CZ]) h (by omega) (by simp; omega)
      have ew : wr .i64 ((i : Int) + 1) = ((i + 1 : Nat) : Int) := by rw [wr, wrap64 (by omega) (by omega)]; simp
      rw [drop_getD h CZ]
      simp only [show decide ((i : Int) < ((l.length : Nat) : Int)) = true by simp [h], cond_true, inR_nat, h, decide_true, Int.toNat_natCast, own_p hm hk (hc _ (getD_mem h CZ)), Option.bind_some, rowMax_small (show acc.length + 1 ≤ 1000000000 by omega), ew, ih, List.append_assoc, List.singleton_append]
    · have : i = l.length := by omega
      subst this
      simp
theorem cellsP_outer (k : Nat) {m : Nat} (hm : m ≤ 100000) (hk : 2000 < k) {l : List DRow} (hl : l.length ≤ 1000) (hc : ∀ r ∈ l, LightR m r) : ∀ (n i : Nat) (acc : List DCell), i ≤ l.length → l.length < n + i → acc.length ≤ 1000 * i →
    sound_Cellsu1 k n l ((l.length : Nat) : Int) (i : Int) acc = some ((), acc ++ (l.drop i).flatMap cellsR)
  | 0, i, acc, h1, h2, h3 => by omega
  | n + 1, i, acc, h1, h2, h3 => by
    simp only [sound_Cellsu1]
    by_cases h : i < l.length
    · have hL := hc _ (getD_mem h RZ)
      have hfew := hL.few
      have ih := cellsP_outer k hm hk hl hc n (i + 1) (acc ++ cellsR (l.getD i RZ)) h (by omega) (by rw [List.length_append]; omega)
      have ew : wr .i64 ((i : Int) + 1) = ((i + 1 : Nat) : Int) := by rw [wr, wrap64 (by omega) (by omega)]; simp
      have hin := cellsP_inner k hm (by omega) hL.few hL.cells k 0 acc (by omega) (by omega) (by omega)
      rw [List.drop_zero] at hin
      have hin' : sound_Cellsu0 k k (cellsR (l.getD i RZ)) (((cellsR (l.getD i RZ)).length : Nat) : Int) 0 acc = _ := hin
      rw [drop_getD h RZ, List.flatMap_cons]
      simp only [show decide ((i : Int) < ((l.length : Nat) : Int)) = true by simp [h], cond_true, inR_nat, h, decide_true, Int.toNat_natCast, hin', Option.bind_some, ew, ih, List.append_assoc]
    · have : i = l.length := by omega
      subst this
      simp
theorem Cells_p {k m : Nat} (hm : m ≤ 100000) (hk : 2000 < k) {x : DSheet} (hn : (rowsS x).length ≤ 100) (hlr : ∀ r ∈ rowsS x, LightR m r) : sound_Cells k x = some (allC x) := by
  have h := cellsP_outer k hm hk (by omega) hlr k 0 [] (by omega) (by omega) (by simp)
  rw [List.drop_zero, List.nil_append] at h
  have h' : sound_Cellsu1 k k x.2.2.2.2.2.2.1 ((x.2.2.2.2.2.2.1.length : Nat) : Int) 0 ([] : List DCell) = _ := h
  simp only [sound_Cells, h', Option.bind_some, allC]
theorem cellsR_outer (k : Nat) {m : Nat} {x : DSheet} (hl : (rowsS x).length ≤ 1000) (hc : ∀ r ∈ rowsS x, LightR m r) : ∀ (n i : Nat) (acc : List DCell), i ≤ (rowsS x).length → (rowsS x).length < n + i → acc.length ≤ 1000 * i →
    overspillref25_Cellsu0 k n (i : Int) x acc = some ((), (x, acc ++ ((rowsS x).drop i).flatMap cellsR))
  | 0, i, acc, h1, h2, h3 => by omega
  | n + 1, i, acc, h1, h2, h3 => by
    simp only [overspillref25_Cellsu0]
    by_cases h : i < (rowsS x).length
    · have hfew := (hc _ (getD_mem h RZ)).few
      have ih := cellsR_outer k hl hc n (i + 1) (acc ++ cellsR ((rowsS x).getD i RZ)) h (by omega) (by rw [List.length_append]; omega)
      have ew : wr .i64 ((i : Int) + 1) = ((i + 1 : Nat) : Int) := by rw [wr, wrap64 (by omega) (by omega)]; simp
      rw [drop_getD h RZ, List.flatMap_cons]
      simp only [show decide ((i : Int) < (((rowsS x).length : Nat) : Int)) = true by simp [h], cond_true, inR_nat, h, decide_true, Int.toNat_natCast, rowMax_small (show acc.length + (cellsR ((rowsS x).getD i RZ)).length ≤ 1000000000 by omega), ew, ih, Option.bind_some, List.append_assoc]
    · have : i = (rowsS x).length := by omega
      subst this
      simp
theorem Cells_r {k m : Nat} (hk : 2000 < k) {x : DSheet} (hn : (rowsS x).length ≤ 100) (hlr : ∀ r ∈ rowsS x, LightR m r) : overspillref25_Cells k x = some (allC x) := by
  have h := cellsR_outer k (by omega) hlr k 0 [] (by omega) (by omega) (by simp)
  rw [List.drop_zero, List.nil_append] at h
  have h' : overspillref25_Cellsu0 k k 0 x ([] : List DCell) = _ := h
  simp only [overspillref25_Cells, h', Option.bind_some, allC]

/-! ### Vectors -/
def movOK (f : Nat) : Nat → List DCell → Bool
  | _, [] => true
  | n, c :: l => (intraI c.2.2.1 || motOK f n (mvW c)) && movOK f (n + 1) l
theorem mov_p (k : Nat) (hk : 3 ≤ k) (x : DSheet) {l : List DCell} (hl : l.length ≤ 10000) : ∀ (n i : Nat), i ≤ l.length → l.length < n + i → sound_Checku1 k n l ((l.length : Nat) : Int) (i : Int) x = some (bif movOK (fmS x) i (l.drop i) then .inr ((), x) else .inl (8, x))
  | 0, i, h1, h2 => by omega
  | n + 1, i, h1, h2 => by
    simp only [sound_Checku1]
    by_cases h : i < l.length
    · have ih := mov_p k hk x hl n (i + 1) h (by omega)
      have ew : wr .i64 ((i : Int) + 1) = ((i + 1 : Nat) : Int) := by rw [wr, wrap64 (by omega) (by omega)]; simp
      rw [drop_getD h CZ]
      simp only [show decide ((i : Int) < ((l.length : Nat) : Int)) = true by simp [h], cond_true, inR_nat, h, decide_true, Int.toNat_natCast, may_p hk x.2.2.1 (show i ≤ 10000 by omega) (mvW (l.getD i CZ)), Option.bind_some, ew, ih, movOK, intraI]
      cases decide ((l.getD i CZ).2.2.1 = 3) with
      | true =>
        simp only [Bool.not_true, cond_false, Bool.true_or, Bool.true_and]
        cases movOK (fmS x) (i + 1) (l.drop (i + 1)) <;> rfl
      | false =>
        simp only [Bool.not_false, cond_true, Bool.false_or]
        cases decide ((l.getD i CZ).2.2.1 = 4) with
        | true =>
          simp only [Bool.not_true, cond_false, Bool.true_or, Bool.true_and]
          cases movOK (fmS x) (i + 1) (l.drop (i + 1)) <;> rfl
        | false =>
          simp only [Bool.not_false, cond_true, Bool.false_or]
          cases motOK (fm x.2.2.1) i (mvW (l.getD i CZ)) with
          | false => rfl
          | true =>
            simp only [Bool.not_true, cond_false, Bool.true_and]
            cases movOK (fmS x) (i + 1) (l.drop (i + 1)) <;> rfl
    · have : i = l.length := by omega
      subst this
      simp [movOK]
theorem mov_r (k : Nat) (hk : 3 ≤ k) (x : DSheet) {l : List DCell} (hl : l.length ≤ 10000) : ∀ (n i : Nat), i ≤ l.length → l.length < n + i → overspillref25_Checku2 k n l (i : Int) x = some (bif movOK (fmS x) i (l.drop i) then .inr ((), x) else .inl (8, x))
  | 0, i, h1, h2 => by omega
  | n + 1, i, h1, h2 => by
    simp only [overspillref25_Checku2]
    by_cases h : i < l.length
    · have ih := mov_r k hk x hl n (i + 1) h (by omega)
      have ew : wr .i64 ((i : Int) + 1) = ((i + 1 : Nat) : Int) := by rw [wr, wrap64 (by omega) (by omega)]; simp
      rw [drop_getD h CZ]
      simp only [show decide ((i : Int) < ((l.length : Nat) : Int)) = true by simp [h], cond_true, inR_nat, h, decide_true, Int.toNat_natCast, may_r hk x.2.2.1 (show i ≤ 10000 by omega) (mvW (l.getD i CZ)), Option.bind_some, ew, ih, movOK, Intra_p]
      cases intraI (l.getD i CZ).2.2.1 with
      | true =>
        simp only [Bool.not_true, cond_false, Bool.true_or, Bool.true_and]
        cases movOK (fmS x) (i + 1) (l.drop (i + 1)) <;> rfl
      | false =>
        simp only [Bool.not_false, cond_true, Bool.false_or]
        cases motOK (fm x.2.2.1) i (mvW (l.getD i CZ)) with
        | false => rfl
        | true =>
          simp only [Bool.not_true, cond_false, Bool.true_and]
          cases movOK (fmS x) (i + 1) (l.drop (i + 1)) <;> rfl
    · have : i = l.length := by omega
      subst this
      simp [movOK]

/-! ### The whole -/
abbrev stuffS (x : DSheet) : Int := x.2.2.2.2.2.2.2.1
def formOK (x : DSheet) : Bool := headOK x && (decide (0 ≤ stuffS x) && (decide (stuffS x ≤ 262144) && (decide ((rowsS x).length = rwN (fmS x)) && rowsOK (fmS x) (interS x) 0 (rowsS x))))
def checkI (x : DSheet) : Int := bif formOK x then (bif movOK (fmS x) 0 (allC x) then 0 else 8) else 12
/-- Light sheets. -/
structure LightS (m : Nat) (x : DSheet) : Prop where
  ext : (extS x).length ≤ 100
  rows : (rowsS x).length ≤ 100
  all : (allC x).length ≤ 10000
  light : ∀ r ∈ rowsS x, LightR m r
theorem Check_p {k m : Nat} (hm : m ≤ 100000) (hk : m + 20000 < k) {x : DSheet} (hL : LightS m x) : sound_Check k x = some (checkI x) := by
  have s0 : decide (stuffS x < 0) = !decide (0 ≤ stuffS x) := by rw [← decide_not, decide_eq_decide]; omega
  have s1 : decide ((262144 : Int) < stuffS x) = !decide (stuffS x ≤ 262144) := by rw [← decide_not, decide_eq_decide]; omega
  have s2 : decide ((((rowsS x).length : Nat) : Int) = ((rwN (fm x.2.2.1) : Nat) : Int)) = decide ((rowsS x).length = rwN (fmS x)) := by rw [decide_eq_decide]; exact Int.ofNat_inj
  have hu0 : sound_Checku0 k ((rwN (fm x.2.2.1) : Nat) : Int) x = some (!formOK x, x) := by
    simp only [sound_Checku0, outbits_New, Option.bind_some, formOK]
    cases hh : headOK x with
    | false =>
      have h := sheethead_bad (k := k) (x := x) (by have := hL.ext; omega) (by have := hL.ext; omega) hh []
      have h' : sheethead_Put k x 0 ([] : List Int) = _ := h
      rw [h']; rfl
    | true =>
      have h := sheethead_ok (k := k) (by omega) hh (B := []) (by simp)
      have h' : sheethead_Put k x 0 ([] : List Int) = _ := h
      simp only [h', Option.bind_some, decide_true, Bool.not_true, cond_false, s0, s1, s2, Bool.true_and]
      cases decide (0 ≤ stuffS x) with
      | false => rfl
      | true =>
        cases decide (stuffS x ≤ 262144) with
        | false => rfl
        | true =>
          simp only [Bool.not_true, cond_false, Bool.true_and]
          by_cases hr : (rowsS x).length = rwN (fmS x)
          · rw [decide_eq_true hr]
            have he := every_p hm (show m + 2000 < k by omega) hL.rows hL.light k 0 (by omega) (by have := hL.rows; omega)
            rw [List.drop_zero] at he
            rw [show ((rwN (fm x.2.2.1) : Nat) : Int) = (((rowsS x).length : Nat) : Int) by rw [hr]]
            have he' : sound_everyu0 k k x (((rowsS x).length : Nat) : Int) 0 = _ := he
            simp only [Bool.not_true, cond_false, sound_every, he', Option.bind_some, Bool.true_and]
            cases rowsOK (fmS x) (interS x) 0 (rowsS x) <;> rfl
          · rw [decide_eq_false hr]; rfl
  simp only [sound_Check, Rows_spec, Option.bind_some, hu0, checkI]
  cases formOK x with
  | false => rfl
  | true =>
    have hmv := mov_p k (by omega) x hL.all k 0 (by omega) (by have := hL.all; omega)
    rw [List.drop_zero] at hmv
    have hmv' : sound_Checku1 k k (allC x) (((allC x).length : Nat) : Int) 0 x = _ := hmv
    simp only [Bool.not_true, cond_false, Cells_p hm (show 2000 < k by omega) hL.rows hL.light, Option.bind_some, hmv', cond_true]
    cases movOK (fmS x) 0 (allC x) <;> rfl
theorem Check_r {k m : Nat} (hm : m ≤ 100000) (hk : m + 20000 < k) {x : DSheet} (hL : LightS m x) : overspillref25_Check k x = some (checkI x) := by
  have s0 : decide (stuffS x < 0) = !decide (0 ≤ stuffS x) := by rw [← decide_not, decide_eq_decide]; omega
  have s1 : decide ((262144 : Int) < stuffS x) = !decide (stuffS x ≤ 262144) := by rw [← decide_not, decide_eq_decide]; omega
  have s2 : decide ((((rowsS x).length : Nat) : Int) = ((rwN (fm x.2.2.1) : Nat) : Int)) = decide ((rowsS x).length = rwN (fmS x)) := by rw [decide_eq_decide]; exact Int.ofNat_inj
  have g2 : ∀ a b c d : Int, ([a, b, c, d] : List Int).getD 2 0 = c := fun _ _ _ _ => rfl
  have hu0 : overspillref25_Checku0 k x = some (!(headOK x && (decide (0 ≤ stuffS x) && (decide (stuffS x ≤ 262144) && decide ((rowsS x).length = rwN (fmS x))))), x) := by
    simp only [overspillref25_Checku0, ref24_Right_spec (k := k) (x := x) (by have := hL.ext; omega) (by have := hL.ext; omega), Option.bind_some, rSize_spec, g2, s0, s1, s2]
    cases headOK x <;> cases decide (0 ≤ stuffS x) <;> cases decide (stuffS x ≤ 262144) <;> rfl
  have he := every_r hm (show m + 2000 < k by omega) hL.rows hL.light k 0 (by omega) (by have := hL.rows; omega)
  rw [List.drop_zero] at he
  have he' : overspillref25_Checku1 k k 0 x = _ := he
  have hmv := mov_r k (by omega) x hL.all k 0 (by omega) (by have := hL.all; omega)
  rw [List.drop_zero] at hmv
  have hmv' : overspillref25_Checku2 k k (allC x) 0 x = _ := hmv
  simp only [overspillref25_Check, hu0, Option.bind_some, checkI, formOK]
  cases headOK x with
  | false => rfl
  | true =>
    cases decide (0 ≤ stuffS x) with
    | false => rfl
    | true =>
      cases decide (stuffS x ≤ 262144) with
      | false => rfl
      | true =>
        cases decide ((rowsS x).length = rwN (fmS x)) with
        | false => rfl
        | true =>
          simp only [Bool.and_self, Bool.not_true, cond_false, he', Option.bind_some, Bool.true_and]
          cases rowsOK (fmS x) (interS x) 0 (rowsS x) with
          | false => rfl
          | true =>
            simp only [cond_true, Sum.elim_inr, Cells_r (show 2000 < k by omega) hL.rows hL.light, Option.bind_some, hmv']
            cases movOK (fmS x) 0 (allC x) <;> rfl
end Go.Proofs.YtlmajdbchmnhdaaGreatDoor
