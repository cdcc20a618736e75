/-
  The page's cells: which may be, and their bits.
-/
import Derived.Test.YtlmajdbchmnhdaaGreatDoorLRowsRef
set_option maxRecDepth 100000
namespace Go.Proofs.YtlmajdbchmnhdaaGreatDoor
open Go Go.Av

theorem Intra_p (k : Nat) (kind : Int) : overspillref21_Intra k kind = some (intraI kind) := by
  simp only [overspillref21_Intra, intraI]
  cases decide (kind = 3) <;> rfl
theorem listSix {α : Type} {l : List α} (h : l.length = 6) : ∃ a b c d e f, l = [a, b, c, d, e, f] := by
  match l, h with
  | [a, b, c, d, e, f], _ => exact ⟨a, b, c, d, e, f, rfl⟩
theorem listTwo {α : Type} {l : List α} (h : l.length = 2) : ∃ a b, l = [a, b] := by
  match l, h with
  | [a, b], _ => exact ⟨a, b, rfl⟩
theorem wrapI_small {n : Int} (h1 : -96 ≤ n) (h2 : n < 96) : wrapI n = if n < -32 then n + 64 else if 32 ≤ n then n - 64 else n := by
  have h : ∀ z : Fin 192, wrapI ((z.val : Int) - 96) = if ((z.val : Int) - 96) < -32 then ((z.val : Int) - 96) + 64 else if 32 ≤ ((z.val : Int) - 96) then ((z.val : Int) - 96) - 64 else ((z.val : Int) - 96) := by decide +kernel
  have h3 := h ⟨(n + 96).toNat, by omega⟩
  simp only at h3
  rw [show (((n + 96).toNat : Nat) : Int) - 96 = n by omega] at h3
  exact h3
theorem wrap_fix (n : Int) : decide (wrapI n = n) = (decide (-32 ≤ n) && decide (n ≤ 31)) := by
  have hr := wrapI_range n
  by_cases h : -32 ≤ n ∧ n ≤ 31
  · rw [wrapI_small (by omega) (by omega), if_neg (by omega), if_neg (by omega), decide_eq_true rfl, decide_eq_true h.1, decide_eq_true h.2]; rfl
  · rw [decide_eq_false (by omega)]
    by_cases h1 : -32 ≤ n
    · rw [decide_eq_false (show ¬ n ≤ 31 by omega), Bool.and_false]
    · rw [decide_eq_false h1, Bool.false_and]

/-! ### A cell without anything -/
theorem zero_loop (k : Nat) {c : DCell} (hl : (evW c).length = 6) (hd : (dcW c).length = 6) : ∀ (n i : Nat), i ≤ 6 → 6 < n + i →
    overspillref22_zerou0 k n (i : Int) c = some (bif ((evW c).drop i).all List.isEmpty && ((dcW c).drop i).all (fun x => decide (x = 0)) then .inr ((), c) else .inl (false, c))
  | 0, i, h1, h2 => by omega
  | n + 1, i, h1, h2 => by
    simp only [overspillref22_zerou0]
    by_cases h : i < 6
    · have e0 : (evW c).drop i = (evW c).getD i [] :: (evW c).drop (i + 1) := by
        rw [List.drop_eq_getElem_cons (by omega)]; simp [hl, h]
      have e1 : (dcW c).drop i = (dcW c).getD i 0 :: (dcW c).drop (i + 1) := by
        rw [List.drop_eq_getElem_cons (by omega)]; simp [hd, h]
      have e2 : decide ((0 : Int) < ((((evW c).getD i []).length : Nat) : Int)) = !((evW c).getD i []).isEmpty := by
        cases (evW c).getD i [] with
        | nil => rfl
        | cons a b => simp <;> omega
      have e3 : wr .i64 ((i : Int) + 1) = ((i + 1 : Nat) : Int) := by rw [wr, wrap64 (by omega) (by omega)]; simp
      have ih := zero_loop k hl hd n (i + 1) h (by omega)
      rw [e0, e1]
      simp only [show decide ((i : Int) < 6) = true by simp <;> omega, cond_true, inR_nat, h, decide_true, Int.toNat_natCast, e2, e3, ih, List.all_cons]
      cases ((evW c).getD i []).isEmpty with
      | false => rfl
      | true =>
        simp only [Bool.not_true, cond_false, Bool.true_and]
        by_cases hz : (dcW c).getD i 0 = 0
        · rw [decide_eq_true hz]
          simp only [Bool.not_true, cond_false, Bool.true_and, Option.bind_some]
          cases (((evW c).drop (i + 1)).all List.isEmpty && ((dcW c).drop (i + 1)).all fun x => decide (x = 0)) <;> rfl
        · rw [decide_eq_false hz]
          simp only [Bool.not_false, cond_true, Bool.false_and, Bool.and_false, cond_false]
    · have : i = 6 := by omega
      subst this
      have e0 : (evW c).drop 6 = [] := List.drop_eq_nil_of_le (by omega)
      have e1 : (dcW c).drop 6 = [] := List.drop_eq_nil_of_le (by omega)
      rw [e0, e1]; rfl
theorem eqY6 {l : List Int} (h : l.length = 6) : decide (l = Y6) = l.all fun x => decide (x = 0) := by
  obtain ⟨a, b, c, d, e, f, rfl⟩ := listSix h
  have : Y6 = [0, 0, 0, 0, 0, 0] := rfl
  rw [this, Bool.eq_iff_iff, decide_eq_true_eq]
  simp
theorem eqY2 {l : List Int} (h : l.length = 2) : decide (l = Y2) = (decide (l.getD 0 0 = 0) && decide (l.getD 1 0 = 0)) := by
  obtain ⟨a, b, rfl⟩ := listTwo h
  have : Y2 = [0, 0] := rfl
  rw [this, Bool.eq_iff_iff, decide_eq_true_eq]
  simp
theorem zero_spec {k m : Nat} (hk : 10 < k) {c : DCell} (hc : CellF m c) : overspillref22_zero k c = some (bareC c) := by
  have h := zero_loop k hc.ev hc.dc k 0 (by omega) (by omega)
  have h' : overspillref22_zerou0 k k 0 c = _ := h
  rw [List.drop_zero, List.drop_zero, ← eqY6 hc.dc] at h'
  simp only [overspillref22_zero, h', Option.bind_some, bareC, eqY2 hc.mv]
  cases (evW c).all List.isEmpty with
  | false => simp only [Bool.false_and, cond_false, Bool.and_false, Sum.elim_inl]
  | true =>
    cases decide (dcW c = Y6) with
    | false => simp only [Bool.and_false, cond_false, Sum.elim_inl, Bool.false_and]
    | true =>
      simp only [Bool.true_and, cond_true, Sum.elim_inr, Bool.and_true]
      cases decide (c.2.2.1 = 0) <;> cases decide (c.2.2.2.1 = 0) <;> cases decide ((mvW c).getD 0 0 = 0) <;> rfl

/-! ### Cells that may be -/
theorem wStep_nil (st : Int) : decide (chs (wStep st) = ([] : List UInt8)) = !stepOK st := by
  unfold wStep stepOK
  by_cases h1 : st = -1
  · subst h1; rfl
  · by_cases h2 : st = -2
    · subst h2; rfl
    · by_cases h3 : st = 1
      · subst h3; rfl
      · by_cases h4 : st = 2
        · subst h4; rfl
        · rw [if_neg h1, if_neg h2, if_neg h3, if_neg h4, decide_eq_false (show ¬ (st = -1 ∨ st = -2 ∨ st = 1 ∨ st = 2) by omega)]; rfl
theorem ref22_vec (k : Nat) (c : DCell) (hmv : (mvW c).length = 2) (hk : -1 ≤ c.2.2.1 ∧ c.2.2.1 ≤ 4 ∧ c.2.2.1 ≠ 2) : overspillref22_Rightu5 (k + 3) (k + 3) 0 c = some (bif vecOK c then .inr ((), c) else .inl (false, c)) := by
  have d0 : decide ((0 : Int) < 2) = true := rfl
  have d1 : decide ((1 : Int) < 2) = true := rfl
  have d2 : decide ((2 : Int) < 2) = false := rfl
  have w0 : wr .i64 ((0 : Int) + 1) = 1 := rfl
  have w1 : wr .i64 ((1 : Int) + 1) = 2 := rfl
  have i0 : inR 0 2 = true := rfl
  have i1 : inR 1 2 = true := rfl
  have z0 : Int.toNat 0 = 0 := rfl
  have z1 : Int.toNat 1 = 1 := rfl
  have hi : intraI c.2.2.1 = decide (2 < c.2.2.1) := by
    unfold intraI
    rw [Bool.eq_iff_iff, Bool.or_eq_true, decide_eq_true_eq, decide_eq_true_eq, decide_eq_true_eq]; omega
  simp only [overspillref22_Rightu5, d0, d1, d2, w0, w1, i0, i1, z0, z1, cond_true, cond_false, Option.bind_some, vecOK, hi, eqY2 hmv, wrap_fix]
  have n0 : decide ((mvW c).getD 0 0 < -32) = !decide (-32 ≤ (mvW c).getD 0 0) := by rw [← decide_not, decide_eq_decide]; omega
  have n1 : decide ((mvW c).getD 1 0 < -32) = !decide (-32 ≤ (mvW c).getD 1 0) := by rw [← decide_not, decide_eq_decide]; omega
  have u0 : decide (31 < (mvW c).getD 0 0) = !decide ((mvW c).getD 0 0 ≤ 31) := by rw [← decide_not, decide_eq_decide]; omega
  have u1 : decide (31 < (mvW c).getD 1 0) = !decide ((mvW c).getD 1 0 ≤ 31) := by rw [← decide_not, decide_eq_decide]; omega
  simp only [n0, n1, u0, u1]
  cases decide (2 < c.2.2.1) with
  | true =>
    simp only [cond_true]
    by_cases a0 : (mvW c).getD 0 0 = 0
    · rw [decide_eq_true a0, decide_eq_true (show -32 ≤ (mvW c).getD 0 0 by omega), decide_eq_true (show (mvW c).getD 0 0 ≤ 31 by omega)]
      by_cases a1 : (mvW c).getD 1 0 = 0
      · rw [decide_eq_true a1, decide_eq_true (show -32 ≤ (mvW c).getD 1 0 by omega), decide_eq_true (show (mvW c).getD 1 0 ≤ 31 by omega)]; rfl
      · rw [decide_eq_false a1]
        cases decide (-32 ≤ (mvW c).getD 1 0) <;> cases decide ((mvW c).getD 1 0 ≤ 31) <;> rfl
    · rw [decide_eq_false a0]
      cases decide (-32 ≤ (mvW c).getD 0 0) <;> cases decide ((mvW c).getD 0 0 ≤ 31) <;> rfl
  | false =>
    simp only [cond_false]
    cases decide (-32 ≤ (mvW c).getD 0 0) <;> cases decide ((mvW c).getD 0 0 ≤ 31) <;> cases decide (-32 ≤ (mvW c).getD 1 0) <;> cases decide ((mvW c).getD 1 0 ≤ 31) <;> rfl
theorem ref22_blocks {k m : Nat} (hm : m ≤ 100000) (hk : m + 300 < k) {c : DCell} (hc : CellF m c) : ∀ (n i : Nat), i ≤ 6 → 6 < n + i → overspillref22_Rightu6 k n (i : Int) c = some (bif blocksOK c i then .inr ((), c) else .inl (false, c))
  | 0, i, h1, h2 => by omega
  | n + 1, i, h1, h2 => by
    simp only [overspillref22_Rightu6]
    by_cases h : i < 6
    · have ih := ref22_blocks hm hk hc n (i + 1) h (by omega)
      have ew : wr .i64 ((i : Int) + 1) = ((i + 1 : Nat) : Int) := by rw [wr, wrap64 (by omega) (by omega)]; simp
      have hb : blocksOK c i = (blockOK (intraI c.2.2.1) ((dcW c).getD i 0) ((evW c).getD i []) && blocksOK c (i + 1)) := by
        unfold blocksOK
        rw [show 6 - i = (6 - (i + 1)) + 1 by omega, List.range'_succ, List.all_cons]
      have hfew := hc.few i
      rw [hb]
      simp only [show decide ((i : Int) < 6) = true by simp <;> omega, cond_true, inR_nat, h, decide_true, Int.toNat_natCast, Option.bind_some, Intra_p, ref15_May_spec (k := k) (intraI c.2.2.1) ((dcW c).getD i 0) (l := (evW c).getD i []) (by omega) (by omega), ew, ih]
      cases blockOK (intraI c.2.2.1) ((dcW c).getD i 0) ((evW c).getD i []) with
      | false => rfl
      | true =>
        simp only [Bool.not_true, cond_false, Bool.true_and]
        cases blocksOK c (i + 1) <;> rfl
    · have : i = 6 := by omega
      subst this
      rfl
theorem ref22_Right_spec {k m : Nat} (hm : m ≤ 100000) (hk : m + 300 < k) {c : DCell} (hc : CellF m c) (inter : Bool) : overspillref22_Right k inter c = some (cellOK inter c) := by
  have hu0 : overspillref22_Rightu0 k c = some (!(decide (0 ≤ c.1) && decide (c.1 ≤ 64)), c) := by
    simp only [overspillref22_Rightu0]
    by_cases h1 : c.1 < 0
    · rw [decide_eq_true h1, decide_eq_false (show ¬ 0 ≤ c.1 by omega)]; rfl
    · rw [decide_eq_false h1, decide_eq_true (show 0 ≤ c.1 by omega)]
      by_cases h2 : c.1 ≤ 64
      · rw [decide_eq_true h2, decide_eq_false (show ¬ 64 < c.1 by omega)]; rfl
      · rw [decide_eq_false h2, decide_eq_true (show 64 < c.1 by omega)]; rfl
  simp only [overspillref22_Right, hu0, Option.bind_some, cellOK]
  cases (decide (0 ≤ c.1) && decide (c.1 ≤ 64)) with
  | false => rfl
  | true =>
    simp only [Bool.not_true, cond_false, Bool.true_and]
    cases hsk : c.2.1 with
    | true =>
      simp only [cond_true, overspillref22_Rightu1]
      cases inter with
      | false => rfl
      | true => simp only [cond_true, zero_spec (k := k) (by omega) hc, Option.bind_some, Bool.true_and]
    | false =>
      simp only [cond_false]
      have hu2 : overspillref22_Rightu2 k inter c = some (!kindOK inter c.2.2.1, c) := by
        have e : ∀ kind : Int, decide (kind < 0) = false ∨ kindOK inter kind = false := fun kind => by
          by_cases h : kind < 0
          · right
            unfold kindOK intraI
            rw [decide_eq_false (show ¬ kind = 3 by omega), decide_eq_false (show ¬ kind = 4 by omega), decide_eq_false (show ¬ kind = 0 by omega), decide_eq_false (show ¬ kind = 1 by omega)]
            cases inter <;> rfl
          · left; exact decide_eq_false h
        simp only [overspillref22_Rightu2, kindOK, intraI]
        by_cases h0 : c.2.2.1 < 0
        · rw [decide_eq_true h0, decide_eq_false (show ¬ c.2.2.1 = 3 by omega), decide_eq_false (show ¬ c.2.2.1 = 4 by omega), decide_eq_false (show ¬ c.2.2.1 = 0 by omega), decide_eq_false (show ¬ c.2.2.1 = 1 by omega)]
          cases inter <;> rfl
        · by_cases h4 : 4 < c.2.2.1
          · rw [decide_eq_false h0, decide_eq_true h4, decide_eq_false (show ¬ c.2.2.1 = 3 by omega), decide_eq_false (show ¬ c.2.2.1 = 4 by omega), decide_eq_false (show ¬ c.2.2.1 = 0 by omega), decide_eq_false (show ¬ c.2.2.1 = 1 by omega)]
            cases inter <;> rfl
          · have : c.2.2.1 = 0 ∨ c.2.2.1 = 1 ∨ c.2.2.1 = 2 ∨ c.2.2.1 = 3 ∨ c.2.2.1 = 4 := by omega
            rcases this with h | h | h | h | h <;> rw [h] <;> cases inter <;> rfl
      simp only [hu2, Option.bind_some]
      cases hko : kindOK inter c.2.2.1 with
      | false => rfl
      | true =>
        have hkr : 0 ≤ c.2.2.1 ∧ c.2.2.1 ≤ 4 ∧ c.2.2.1 ≠ 2 := by
          simp only [kindOK, intraI, Bool.or_eq_true, Bool.and_eq_true, decide_eq_true_eq] at hko
          omega
        have hu3 : overspillref22_Rightu3 k c = some (steppedI c.2.2.1, c) := by
          simp only [overspillref22_Rightu3, steppedI]
          cases decide (c.2.2.1 = 1) <;> rfl
        have hu4 : overspillref22_Rightu4 k (steppedI c.2.2.1) c = some (bif (stepOK c.2.2.2.1 == steppedI c.2.2.1) && (stepOK c.2.2.2.1 || decide (c.2.2.2.1 = 0)) then .inr ((), c) else .inl (false, c)) := by
          simp only [overspillref22_Rightu4, ref20_Row_spec, Option.bind_some, wStep_nil]
          cases steppedI c.2.2.1 with
          | true => cases stepOK c.2.2.2.1 <;> rfl
          | false =>
            by_cases h0 : c.2.2.2.1 = 0
            · rw [h0]; rfl
            · rw [decide_eq_false h0]
              cases stepOK c.2.2.2.1 <;> rfl
        obtain ⟨k', rfl⟩ : ∃ k', k = k' + 3 := ⟨k - 3, by omega⟩
        simp only [Bool.not_true, cond_false, hu3, Option.bind_some, hu4, Bool.true_and]
        cases ((stepOK c.2.2.2.1 == steppedI c.2.2.1) && (stepOK c.2.2.2.1 || decide (c.2.2.2.1 = 0))) with
        | false => rfl
        | true =>
          simp only [cond_true, Sum.elim_inr, ref22_vec k' c hc.mv (by omega), Option.bind_some, Bool.true_and]
          cases vecOK c with
          | false => rfl
          | true =>
            have h6 := ref22_blocks hm hk hc (k' + 3) 0 (by omega) (by omega)
            have h6' : overspillref22_Rightu6 (k' + 3) (k' + 3) 0 c = _ := h6
            simp only [cond_true, Sum.elim_inr, h6', Option.bind_some, Bool.true_and]
            cases blocksOK c 0 <;> rfl

/-! ### A cell's bits -/
theorem ref22_stuff (k : Nat) {c : DCell} {inter : Bool} {st : Nat} (hst : c.1 = st) (h64 : st ≤ 64) : ∀ (n i : Nat) (B : List Bool), i ≤ st → st < n + i → B.length ≤ 25 * i →
    overspillref22_Rowu1 k n inter (chs (again inter)) (chs B) (i : Int) c = some (chs (B ++ wStuff inter (st - i)), c)
  | 0, i, B, h1, h2, h3 => by omega
  | n + 1, i, B, h1, h2, h3 => by
    simp only [overspillref22_Rowu1, hst]
    by_cases h : i < st
    · have hal := again_len inter
      have hml := wMcbpc_len inter 5 0
      have ih := ref22_stuff k (c := c) (inter := inter) hst h64 n (i + 1) (B ++ again inter ++ wMcbpc inter 5 0) h (by omega) (by simp only [List.length_append]; omega)
      rw [chs_append, chs_append] at ih
      have ew : wr .i64 ((i : Int) + 1) = ((i + 1 : Nat) : Int) := by rw [wr, wrap64 (by omega) (by omega)]; simp
      have m1 : decide ((chs B).length + (chs (again inter)).length ≤ strMax) = true := mx_add (by rw [chs_length, chs_length]; omega)
      have m2 : decide ((chs B ++ chs (again inter)).length + (chs (wMcbpc inter 5 0)).length ≤ strMax) = true := mx_add (by rw [List.length_append, chs_length, chs_length, chs_length]; omega)
      simp only [show decide ((i : Int) < (st : Int)) = true by simp [h], cond_true, m1, ref06_stuff, Option.bind_some, m2, ew, ih]
      have e : wStuff inter (st - i) = again inter ++ wMcbpc inter 5 0 ++ wStuff inter (st - (i + 1)) := by
        rw [show st - i = (st - (i + 1)) + 1 by omega]
        simp only [wStuff, List.replicate_succ, List.flatten_cons]
      rw [e]
      simp only [List.append_assoc]
    · have : i = st := by omega
      subst this
      simp [wStuff]
theorem numB6 : ∀ (a b c d e f : Bool), numB [a, b, c, d, e, f] / 4 = numB [a, b, c, d] ∧ numB [a, b, c, d, e, f] % 4 = (bif e then 2 else 0) + f.toNat := by decide
theorem pattern_loop (k : Nat) {c : DCell} (hl : (evW c).length = 6) : ∀ (n i : Nat), i ≤ 4 → 4 < n + i →
    overspillref22_Rowu2 k n ((numB (((evW c).take i).map fun l => !l.isEmpty) : Nat) : Int) (i : Int) c = some (((numB (((evW c).take 4).map fun l => !l.isEmpty) : Nat) : Int), c)
  | 0, i, h1, h2 => by omega
  | n + 1, i, h1, h2 => by
    simp only [overspillref22_Rowu2]
    by_cases h : i < 4
    · have hlt := numB_lt_of (B := ((evW c).take i).map fun l => !l.isEmpty) (n := 6) (by simp; omega)
      have ht : (evW c).take (i + 1) = (evW c).take i ++ [(evW c).getD i []] := by
        rw [List.take_succ_eq_append_getElem (by omega)]; simp [hl, show i < 6 by omega]
      have ew : wr .i64 ((i : Int) + 1) = ((i + 1 : Nat) : Int) := by rw [wr, wrap64 (by omega) (by omega)]; simp
      have ih := pattern_loop k hl n (i + 1) h (by omega)
      rw [ht, List.map_append, List.map_cons, List.map_nil, numB_snoc] at ih
      have e1 : decide ((0 : Int) < ((((evW c).getD i []).length : Nat) : Int)) = !((evW c).getD i []).isEmpty := by
        cases (evW c).getD i [] with
        | nil => rfl
        | cons a b => simp <;> omega
      have e2 : wr .i64 (2 * ((numB (((evW c).take i).map fun l => !l.isEmpty) : Nat) : Int)) = ((2 * numB (((evW c).take i).map fun l => !l.isEmpty) : Nat) : Int) := by
        rw [wr, wrap64 (by omega) (by omega)]; omega
      simp only [show decide ((i : Int) < 4) = true by simp <;> omega, cond_true, inR_nat, show i < 6 by omega, decide_true, Int.toNat_natCast, e1, e2, ew]
      cases hq : ((evW c).getD i []).isEmpty with
      | true =>
        rw [hq] at ih
        simp only [Bool.not_true, cond_false]
        have ih' : overspillref22_Rowu2 k n ((2 * numB (((evW c).take i).map fun l => !l.isEmpty) : Nat) : Int) ((i + 1 : Nat) : Int) c = _ := ih
        rw [ih']; rfl
      | false =>
        rw [hq] at ih
        simp only [Bool.not_false, cond_true]
        rw [show wr .i64 (((2 * numB (((evW c).take i).map fun l => !l.isEmpty) : Nat) : Int) + 1) = ((2 * numB (((evW c).take i).map fun l => !l.isEmpty) + (!false).toNat : Nat) : Int) by rw [wr, wrap64 (by omega) (by omega)]; simp, ih]; rfl
    · have : i = 4 := by omega
      subst this
      rfl
theorem ref22_vecs (k : Nat) (p0 p1 : Int) {m : Nat} {c : DCell} (hc : CellF m c) (hv : vecOK c = true) (hkd : 0 ≤ c.2.2.1 ∧ c.2.2.1 ≤ 4 ∧ c.2.2.1 ≠ 2) {B : List Bool} (hB : B.length ≤ 100000) :
    overspillref22_Rowu6 (k + 200) (k + 200) (chs B) 0 [p0, p1] c = some (chs (B ++ wVec p0 p1 c), ([p0, p1], c)) := by
  have d0 : decide ((0 : Int) < 2) = true := rfl
  have d1 : decide ((1 : Int) < 2) = true := rfl
  have d2 : decide ((2 : Int) < 2) = false := rfl
  have w0 : wr .i64 ((0 : Int) + 1) = 1 := rfl
  have w1 : wr .i64 ((1 : Int) + 1) = 2 := rfl
  have i0 : inR 0 2 = true := rfl
  have i1 : inR 1 2 = true := rfl
  have z0 : Int.toNat 0 = 0 := rfl
  have z1 : Int.toNat 1 = 1 := rfl
  have g0 : ([p0, p1] : List Int).getD 0 0 = p0 := rfl
  have g1 : ([p0, p1] : List Int).getD 1 0 = p1 := rfl
  have hi : decide (c.2.2.1 < 2) = !intraI c.2.2.1 := by
    unfold intraI
    rw [Bool.eq_iff_iff, Bool.not_eq_true', Bool.or_eq_false_iff, decide_eq_true_eq, decide_eq_false_iff_not, decide_eq_false_iff_not]; omega
  obtain ⟨n, hn⟩ : ∃ n, k + 200 = n + 3 := ⟨k + 197, by omega⟩
  conv => lhs; arg 2; rw [hn]
  cases hq : intraI c.2.2.1 with
  | true =>
    have hw : wVec p0 p1 c = [] := by simp only [wVec, hq, cond_true]
    rw [hw, List.append_nil]
    simp only [overspillref22_Rowu6, overspillref22_Rowu5, d0, cond_true, hi, hq, Bool.not_true, Option.bind_some, cond_false]
  | false =>
    simp only [vecOK, hq, cond_false, Bool.and_eq_true, decide_eq_true_eq] at hv
    have r0 := wrapI_range ((mvW c).getD 0 0)
    have r1 := wrapI_range ((mvW c).getD 1 0)
    have q0 := wrapI_range p0
    have q1 := wrapI_range p1
    rw [hv.1] at r0
    rw [hv.2] at r1
    have t0 := wrapI_range ((mvW c).getD 0 0 - wrapI p0)
    have t1 := wrapI_range ((mvW c).getD 1 0 - wrapI p1)
    have s0 : wr .i64 ((mvW c).getD 0 0 - wrapI p0) = (mvW c).getD 0 0 - wrapI p0 := by rw [wr, wrap64 (by omega) (by omega)]
    have s1 : wr .i64 ((mvW c).getD 1 0 - wrapI p1) = (mvW c).getD 1 0 - wrapI p1 := by rw [wr, wrap64 (by omega) (by omega)]
    have l0 := wMvd_len (wrapI ((mvW c).getD 0 0 - wrapI p0))
    have l1 := wMvd_len (wrapI ((mvW c).getD 1 0 - wrapI p1))
    have m0 := ref08_Row_spec (k + 200) t0.1 t0.2
    have m1 := ref08_Row_spec (k + 200) t1.1 t1.2
    have a0 : decide ((chs B).length + (chs (wMvd (wrapI ((mvW c).getD 0 0 - wrapI p0)))).length ≤ strMax) = true := mx_add (by rw [chs_length, chs_length]; omega)
    have a1 : decide ((chs B ++ chs (wMvd (wrapI ((mvW c).getD 0 0 - wrapI p0)))).length + (chs (wMvd (wrapI ((mvW c).getD 1 0 - wrapI p1)))).length ≤ strMax) = true := mx_add (by rw [List.length_append, chs_length, chs_length, chs_length]; omega)
    have hw : wVec p0 p1 c = wMvd (wrapI ((mvW c).getD 0 0 - wrapI p0)) ++ wMvd (wrapI ((mvW c).getD 1 0 - wrapI p1)) := by simp only [wVec, hq, cond_false]
    rw [hw]
    simp only [overspillref22_Rowu6, overspillref22_Rowu5, d0, d1, d2, w0, w1, i0, i1, cond_true, cond_false, hi, hq, Bool.not_false, Option.bind_some, ref01_Wrap_spec, g0, g1, z0, z1, s0, s1, m0, m1, a0, a1, chs_append, List.append_assoc]
theorem ref22_blks {k m : Nat} (hm : m ≤ 100000) (hk : m + 300 < k) {c : DCell} (hc : CellF m c) : ∀ (n i : Nat) (B : List Bool), i ≤ 6 → 6 < n + i → blocksOK c i = true → B.length ≤ 100000 + 3000000 * i →
    overspillref22_Rowu7 k n (chs B) (i : Int) c = some (chs (B ++ wBlocks c i), c)
  | 0, i, B, h1, h2, h3, h4 => by omega
  | n + 1, i, B, h1, h2, h3, h4 => by
    simp only [overspillref22_Rowu7]
    by_cases h : i < 6
    · have ew : wr .i64 ((i : Int) + 1) = ((i + 1 : Nat) : Int) := by rw [wr, wrap64 (by omega) (by omega)]; simp
      have hb : blocksOK c i = (blockOK (intraI c.2.2.1) ((dcW c).getD i 0) ((evW c).getD i []) && blocksOK c (i + 1)) := by
        unfold blocksOK
        rw [show 6 - i = (6 - (i + 1)) + 1 by omega, List.range'_succ, List.all_cons]
      have hw : wBlocks c i = wBlock (intraI c.2.2.1) ((dcW c).getD i 0) ((evW c).getD i []) ++ wBlocks c (i + 1) := by
        unfold wBlocks
        rw [show 6 - i = (6 - (i + 1)) + 1 by omega, List.range'_succ, List.flatMap_cons]
      rw [hb, Bool.and_eq_true] at h3
      have hfew := hc.few i
      have hbl : (wBlock (intraI c.2.2.1) ((dcW c).getD i 0) ((evW c).getD i [])).length ≤ 8 + 22 * m := by
        have h5 := h3.1
        simp only [blockOK, Bool.and_eq_true] at h5
        have h6 := wEvents_length (levOK_right h5.2)
        unfold wBlock
        rw [List.length_append]
        cases intraI c.2.2.1 <;> simp only [cond_true, cond_false, bitsN_length, List.length_nil] <;> omega
      have hp := ref15_Row_spec (k := k) (by omega) (by omega) h3.1
      have ih := ref22_blks hm hk hc n (i + 1) (B ++ wBlock (intraI c.2.2.1) ((dcW c).getD i 0) ((evW c).getD i [])) h (by omega) h3.2 (by simp only [List.length_append]; omega)
      rw [chs_append] at ih
      have m1 : decide ((chs B).length + (chs (wBlock (intraI c.2.2.1) ((dcW c).getD i 0) ((evW c).getD i []))).length ≤ strMax) = true := mx_add (by rw [chs_length, chs_length]; omega)
      simp only [show decide ((i : Int) < 6) = true by simp <;> omega, cond_true, inR_nat, h, decide_true, Int.toNat_natCast, Intra_p, Option.bind_some, hp, ew, m1, ih, hw, List.append_assoc]
    · have : i = 6 := by omega
      subst this
      have : wBlocks c 6 = [] := rfl
      rw [this, List.append_nil]; rfl
theorem ref22_Row_spec {k m : Nat} (hm : m ≤ 100000) (hk : m + 500 < k) {c : DCell} (hc : CellF m c) {inter : Bool} (hok : cellOK inter c = true) (p0 p1 : Int) : overspillref22_Row k inter [p0, p1] c = some (chs (wCell inter p0 p1 c)) := by
  obtain ⟨k', rfl⟩ : ∃ k', k = k' + 200 := ⟨k - 200, by omega⟩
  simp only [cellOK, Bool.and_eq_true, decide_eq_true_eq] at hok
  obtain ⟨⟨h1, h2⟩, h3⟩ := hok
  obtain ⟨st, hst⟩ : ∃ st : Nat, c.1 = st := ⟨c.1.toNat, by omega⟩
  have hal := again_len inter
  have hu0 : overspillref22_Rowu0 (k' + 200) ([] : List UInt8) inter = some (chs (again inter)) := by cases inter <;> rfl
  have hu1 := ref22_stuff (k' + 200) (c := c) (inter := inter) hst (by omega) (k' + 200) 0 [] (by omega) (by omega) (by simp)
  rw [Nat.sub_zero, List.nil_append] at hu1
  have hu1' : overspillref22_Rowu1 (k' + 200) (k' + 200) inter (chs (again inter)) ([] : List UInt8) 0 c = _ := hu1
  have hsl := wStuff_len inter st
  have htn : c.1.toNat = st := by omega
  simp only [overspillref22_Row, hu0, Option.bind_some, hu1', wCell, wHead, htn]
  cases hsk : c.2.1 with
  | true =>
    have m1 : decide ((chs (wStuff inter st)).length + 1 ≤ strMax) = true := mx_add (by rw [chs_length]; omega)
    simp only [cond_true, m1, chs_append, List.append_nil]
    rfl
  | false =>
    rw [hsk] at h3
    simp only [cond_false, Bool.and_eq_true] at h3
    obtain ⟨⟨hkd, ⟨⟨hs1, hs2⟩, hv⟩⟩, hbl⟩ := h3
    have hkr : ∃ kd : Nat, c.2.2.1 = kd ∧ (kd ≤ 4 ∧ kd ≠ 2) ∧ (inter = false → 3 ≤ kd) := by
      simp only [kindOK, intraI, Bool.or_eq_true, Bool.and_eq_true, decide_eq_true_eq] at hkd
      refine ⟨c.2.2.1.toNat, by omega, by omega, fun h => ?_⟩
      rcases hkd with hkd | hkd
      · omega
      · rw [h] at hkd; cases hkd.1
    obtain ⟨kd, hkd1, hkd2, hkd3⟩ := hkr
    have hcn := codedN_lt hc.ev
    have hnum : numB (((evW c).take 4).map fun l => !l.isEmpty) = codedN c / 4 ∧ codedN c % 4 = (bif !((evW c).getD 4 []).isEmpty then 2 else 0) + (!((evW c).getD 5 []).isEmpty).toNat := by
      obtain ⟨a, b, d, e, f, g, hl⟩ := listSix hc.ev
      unfold codedN
      rw [hl]
      obtain ⟨n1, n2⟩ := numB6 (!a.isEmpty) (!b.isEmpty) (!d.isEmpty) (!e.isEmpty) (!f.isEmpty) (!g.isEmpty)
      exact ⟨n1.symm, n2⟩
    have hu2 := pattern_loop (k' + 200) hc.ev (k' + 200) 0 (by omega) (by omega)
    have hu2' : overspillref22_Rowu2 (k' + 200) (k' + 200) 0 0 c = _ := hu2
    rw [hnum.1] at hu2'
    have e4 : ∀ j, decide ((0 : Int) < ((((evW c).getD j []).length : Nat) : Int)) = !((evW c).getD j []).isEmpty := fun j => by
      cases (evW c).getD j [] with
      | nil => rfl
      | cons a b => simp <;> omega
    have hu34 : (Option.bind (overspillref22_Rowu3 (k' + 200) 0 (!((evW c).getD 4 []).isEmpty)) fun v => overspillref22_Rowu4 (k' + 200) v (!((evW c).getD 5 []).isEmpty)) = some ((codedN c % 4 : Nat) : Int) := by
      rw [hnum.2]
      cases ((evW c).getD 4 []).isEmpty <;> cases ((evW c).getD 5 []).isEmpty <;> rfl
    obtain ⟨v3, hv3, hv4⟩ := Option.bind_eq_some_iff.1 hu34
    have hml2 := wMcbpc_len inter kd (codedN c % 4)
    have m1 : decide ((chs (wStuff inter st)).length + (chs (again inter)).length ≤ strMax) = true := mx_add (by rw [chs_length, chs_length]; omega)
    have m2 : decide ((chs (wStuff inter st) ++ chs (again inter)).length + (chs (wMcbpc inter kd (codedN c % 4))).length ≤ strMax) = true := mx_add (by rw [List.length_append, chs_length, chs_length, chs_length]; omega)
    have cl := wCbpy_len (intraI (kd : Int)) (codedN c / 4)
    have m3 : decide ((chs (wStuff inter st) ++ chs (again inter) ++ chs (wMcbpc inter kd (codedN c % 4))).length + (chs (wCbpy (intraI (kd : Int)) (codedN c / 4))).length ≤ strMax) = true := mx_add (by simp only [List.length_append, chs_length]; omega)
    have sl := wStep_len c.2.2.2.1
    have m4 : decide ((chs (wStuff inter st) ++ chs (again inter) ++ chs (wMcbpc inter kd (codedN c % 4)) ++ chs (wCbpy (intraI (kd : Int)) (codedN c / 4))).length + (chs (wStep c.2.2.2.1)).length ≤ strMax) = true := mx_add (by simp only [List.length_append, chs_length]; omega)
    have hws : wStep c.2.2.2.1 = wSteps c := by
      unfold wSteps
      cases hsp : steppedI c.2.2.1 with
      | true => rfl
      | false =>
        rw [hsp] at hs1
        have : c.2.2.2.1 = 0 := by
          cases ho : stepOK c.2.2.2.1 with
          | true => rw [ho] at hs1; cases hs1
          | false => rw [ho] at hs2; simpa using hs2
        rw [this]; rfl
    have hvs := ref22_vecs k' p0 p1 hc hv (by omega) (B := wStuff inter st ++ again inter ++ wMcbpc inter kd (codedN c % 4) ++ wCbpy (intraI (kd : Int)) (codedN c / 4) ++ wStep c.2.2.2.1) (by simp only [List.length_append]; omega)
    have hvl : (wVec p0 p1 c).length ≤ 48 := by
      have t0 := wMvd_len (wrapI ((mvW c).getD 0 0 - wrapI p0))
      have t1 := wMvd_len (wrapI ((mvW c).getD 1 0 - wrapI p1))
      unfold wVec
      cases intraI c.2.2.1 <;> simp only [cond_true, cond_false, List.length_append, List.length_nil] <;> omega
    have hbs := ref22_blks hm (k := k' + 200) (by omega) hc (k' + 200) 0 (wStuff inter st ++ again inter ++ wMcbpc inter kd (codedN c % 4) ++ wCbpy (intraI (kd : Int)) (codedN c / 4) ++ wStep c.2.2.2.1 ++ wVec p0 p1 c) (by omega) (by omega) hbl (by simp only [List.length_append]; omega)
    have hbs' : overspillref22_Rowu7 (k' + 200) (k' + 200) (chs (wStuff inter st ++ again inter ++ wMcbpc inter kd (codedN c % 4) ++ wCbpy (intraI (kd : Int)) (codedN c / 4) ++ wStep c.2.2.2.1 ++ wVec p0 p1 c)) 0 c = _ := hbs
    simp only [chs_append] at hvs
    simp only [cond_false, hu2', Option.bind_some, e4, hv3, hv4, m1, cond_true, hkd1, ref06_Row_spec (k' + 200) hkd2 hkd3 (show codedN c % 4 < 4 by omega), m2, Intra_p, ref07_Row_spec (k' + 200) (intraI (kd : Int)) (show codedN c / 4 < 16 by omega), m3, ref20_Row_spec, m4, hvs]
    simp only [← chs_append, hbs', Option.bind_some]
    simp only [Int.toNat_natCast, wBody, hkd1, hws, List.append_assoc]
end Go.Proofs.YtlmajdbchmnhdaaGreatDoor
