/-
  Reading codes: an event as the page tells it.
-/
import Derived.Test.YtlemoepklgfjoaaDoorLCodes5
set_option maxRecDepth 100000
namespace Go.Proofs.YtlemoepklgfjoaaDoor
open Go Go.Av

theorem chs_drop_take (B : List Bool) (a m : Nat) : (((chs B).take (a + m)).drop a) = chs ((B.drop a).take m) := by
  simp only [chs, ← List.map_take, ← List.map_drop]
  congr 1
  rw [List.drop_take]; congr 1; omega
theorem chs_getD {B : List Bool} {a : Nat} (h : a < B.length) : ((UInt8.toNat ((chs B).getD a 0) : Nat) : Int) = bif (B.drop a).headD false then 49 else 48 := by
  have h1 : (chs B).getD a 0 = chB B[a] := by simp [chs, h]
  have h2 : (B.drop a).headD false = B[a] := by rw [List.drop_eq_getElem_cons h]; rfl
  rw [h1, h2]
  cases B[a] <;> rfl
theorem dig49 (b : Bool) : decide ((bif b then (49 : Int) else 48) = 49) = b := by cases b <;> decide
theorem dig48 (b : Bool) : decide ((bif b then (49 : Int) else 48) = 48) = !b := by cases b <;> decide

theorem wlk_row_len {rows : List (List UInt8)} (h0 : ∀ r ∈ rows, r ≠ []) : True := trivial

theorem ref09_spec {k : Nat} (hk : 1000 < k) {B : List Bool} {a : Nat} (hb : B.length ≤ 1000000000000) (ha : a ≤ B.length) :
    overspillref09_Take k (chs B) (a : Int) = some (match rdTcoef (B.drop a) with | .inr x => (x.1, (((a + x.2 : Nat) : Int), (0, ()))) | .inl e => ((false, (0, (0, ()))), ((a : Int), ((e : Int), ())))) := by
  obtain ⟨k', rfl⟩ : ∃ k', k = k' + 200 := ⟨k - 200, by omega⟩
  have hl : overspillref09_Takeu2 (k' + 200) (k' + 200) 0 [[48, 48, 48, 48, 48, 49, 49]] [(false, (0, (0, ())))] = some (((), ()), list9) := list9_ok k'
  simp only [overspillref09_Take, hl, Option.bind_some, ref05_spec hk (rows := rows9) (by rw [list9_len.1]; omega) (short_of rows9_short) hb ha, rdTcoef]
  cases hw : wlk (rowStep rows9) [] (B.drop a) 0 with
  | inl e =>
    rcases wlk_err hw with rfl | rfl <;> rfl
  | inr x =>
    obtain ⟨i, m⟩ := x
    have hi := wlk_row_lt hw
    rw [list9_len.1] at hi
    have hm := (wlk_le hw).2
    rw [List.length_drop] at hm
    simp only [decide_true, Bool.not_true, cond_false, chs_length, List.drop_drop]
    have hdl : (B.drop (a + m)).length = B.length - (a + m) := List.length_drop
    by_cases hi0 : i = 0
    · subst hi0
      rw [if_pos rfl]
      have e0 : decide ((0 : Int) < ((0 : Nat) : Int)) = false := rfl
      have e1 : wr .i64 (((B.length : Nat) : Int) - ((a + m : Nat) : Int)) = ((B.length - (a + m) : Nat) : Int) := by rw [wr, wrap64 (by omega) (by omega)]; omega
      simp only [e0, cond_false, e1, escOf, hdl]
      by_cases h15 : B.length - (a + m) < 15
      · rw [if_pos h15, show decide (((B.length - (a + m) : Nat) : Int) < 15) = true by simp <;> omega]; rfl
      · rw [if_neg h15, show decide (((B.length - (a + m) : Nat) : Int) < 15) = false by simp <;> omega]
        have f1 : wr .i64 (((a + m : Nat) : Int) + 1) = ((a + m + 1 : Nat) : Int) := by rw [wr, wrap64 (by omega) (by omega)]; simp
        have f7 : wr .i64 (((a + m : Nat) : Int) + 7) = ((a + m + 7 : Nat) : Int) := by rw [wr, wrap64 (by omega) (by omega)]; simp
        have f15 : wr .i64 (((a + m : Nat) : Int) + 15) = ((a + m + 15 : Nat) : Int) := by rw [wr, wrap64 (by omega) (by omega)]; simp
        have g1 : decide ((0 : Int) ≤ ((a + m + 1 : Nat) : Int) ∧ ((a + m + 1 : Nat) : Int) ≤ ((a + m + 7 : Nat) : Int) ∧ ((a + m + 7 : Nat) : Int) ≤ ((B.length : Nat) : Int)) = true := by simp <;> omega
        have g2 : decide ((0 : Int) ≤ ((a + m + 7 : Nat) : Int) ∧ ((a + m + 7 : Nat) : Int) ≤ ((a + m + 15 : Nat) : Int) ∧ ((a + m + 15 : Nat) : Int) ≤ ((B.length : Nat) : Int)) = true := by simp <;> omega
        have s1 : List.drop (a + m + 1) (List.take (a + m + 7) (chs B)) = chs (((B.drop (a + m)).drop 1).take 6) := by
          rw [show a + m + 7 = (a + m + 1) + 6 by omega, chs_drop_take, List.drop_drop]
        have s2 : List.drop (a + m + 7) (List.take (a + m + 15) (chs B)) = chs (((B.drop (a + m)).drop 7).take 8) := by
          rw [show a + m + 15 = (a + m + 7) + 8 by omega, chs_drop_take, List.drop_drop]
        simp only [cond_false, f1, f7, f15, g1, g2, cond_true, inR_nat, chs_length, show decide (a + m < B.length) = true by simp <;> omega, Int.toNat_natCast, s1, s2]
        have hx6 : (((B.drop (a + m)).drop 1).take 6).length ≤ 6 := by rw [List.length_take]; omega
        have hy8 : (((B.drop (a + m)).drop 7).take 8).length ≤ 8 := by rw [List.length_take]; omega
        simp only [chs_getD (show a + m < B.length by omega), dig49, ref02_Number_spec (k := k' + 200) (show (((B.drop (a + m)).drop 1).take 6).length ≤ 60 by omega) (by omega), ref02_Number_spec (k := k' + 200) (show (((B.drop (a + m)).drop 7).take 8).length ≤ 60 by omega) (by omega), Option.bind_some]
        have hx : numB (((B.drop (a + m)).drop 1).take 6) < 64 := numB_lt_of (n := 6) hx6
        have hy : numB (((B.drop (a + m)).drop 7).take 8) < 256 := numB_lt_of (n := 8) hy8
        generalize (B.drop (a + m)).headD false = b
        generalize numB (((B.drop (a + m)).drop 1).take 6) = x at hx
        generalize numB (((B.drop (a + m)).drop 7).take 8) = y at hy
        have hlv := lvl_range hy
        have e5 : overspillref09_Takeu4 (k' + 200) (decide ((127 : Int) < ((y : Nat) : Int))) (b, (((x : Nat) : Int), (((y : Nat) : Int), ()))) = some ((), (b, (((x : Nat) : Int), (lvl y, ())))) := by
          simp only [overspillref09_Takeu4, lvl]
          by_cases hc : 127 < y
          · rw [if_pos hc, show decide ((127 : Int) < ((y : Nat) : Int)) = true by simp <;> omega, wr, wrap64 (by omega) (by omega)]; rfl
          · rw [if_neg hc, show decide ((127 : Int) < ((y : Nat) : Int)) = false by simp <;> omega]; rfl
        simp only [e5, Option.bind_some, overspillref09_Takeu5, ref09_Right_spec hx]
        by_cases hR : lvl y ≠ 0 ∧ -127 ≤ lvl y ∧ lvl y ≤ 127
        · rw [decide_eq_true hR]
          have ham : overspillref09_amount (k' + 200) (lvl y) = some (((lvl y).natAbs : Nat) : Int) := by
            simp only [overspillref09_amount]
            by_cases hn : lvl y < 0
            · rw [decide_eq_true hn, cond_true, wr, wrap64 (by omega) (by omega)]; congr 1; omega
            · rw [decide_eq_false hn, cond_false]; congr 1; omega
          obtain ⟨z, hz, hz2, _⟩ := has_at k' b hx (m := (lvl y).natAbs) (by omega) (by omega)
          simp only [Bool.not_true, cond_false, ham, Option.bind_some, hz, hz2, Bool.not_not]
          have hn1 : ¬ lvl y = 0 := hR.1
          have hn2 : ¬ lvl y = -128 := by omega
          cases ht : inTab b x (lvl y).natAbs with
          | true => rw [if_pos (by simp)]; rfl
          | false => rw [if_neg (by simp [hn1, hn2])]; simp only [cond_false]; rw [Nat.add_assoc]
        · have hR' : lvl y = 0 ∨ lvl y = -128 := by omega
          rw [decide_eq_false hR, if_pos (by rcases hR' with h | h <;> simp [h])]
          rfl
    · rw [if_neg hi0]
      have e0 : decide ((0 : Int) < ((i : Nat) : Int)) = true := by simp <;> omega
      simp only [e0, cond_true]
      cases hr : B.drop (a + m) with
      | nil =>
        rw [hr] at hdl
        simp only [List.length_nil] at hdl
        rw [show decide (((a + m : Nat) : Int) = ((B.length : Nat) : Int)) = true by simp <;> omega]
        rfl
      | cons b r =>
        have hlt : a + m < B.length := by rw [hr] at hdl; simp at hdl; omega
        have hev : list9.2.getD i (false, (0, (0, ()))) = evAt i := rfl
        have hbb : (B.drop (a + m)).headD false = b := by rw [hr]; rfl
        simp only [show decide (((a + m : Nat) : Int) = ((B.length : Nat) : Int)) = false by simp <;> omega, cond_false, inR_nat, list9_len.2, show decide (i < 103) = true by simp <;> omega, cond_true, chs_length, show decide (a + m < B.length) = true by simp <;> omega, Int.toNat_natCast, hev]
        simp only [chs_getD hlt, dig49, hbb]
        have f1 : wr .i64 (((a + m : Nat) : Int) + 1) = ((a + (m + 1) : Nat) : Int) := by rw [wr, wrap64 (by omega) (by omega)]; simp <;> omega
        obtain ⟨_, _, h1, h2⟩ := evAt_small i
        cases b with
        | true =>
          simp only [overspillref09_Takeu3, cond_true, Option.bind_some, f1]
          rw [wr, wrap64 (by omega) (by omega), Int.zero_sub]
        | false =>
          simp only [overspillref09_Takeu3, cond_false, Option.bind_some, f1]
end Go.Proofs.YtlemoepklgfjoaaDoor
