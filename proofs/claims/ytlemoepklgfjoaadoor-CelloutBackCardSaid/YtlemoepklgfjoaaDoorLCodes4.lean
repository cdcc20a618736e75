/-
  Reading codes: events: the program's reader tells what the page's does.
-/
import Derived.Test.YtlemoepklgfjoaaDoorLCodes3
set_option maxRecDepth 100000
namespace Go.Proofs.YtlemoepklgfjoaaDoor
open Go Go.Av

/-! ### Numbers -/
theorem ref02_Number_loop (k : Nat) {B : List Bool} (hB : B.length ≤ 60) : ∀ (n i : Nat), i ≤ B.length → B.length < n + i →
    overspillref02_Numberu0 k n (chs B) ((numB (B.take i) : Nat) : Int) (i : Int) = some ((numB B : Nat) : Int)
  | 0, i, h1, h2 => by omega
  | n + 1, i, h1, h2 => by
    simp only [overspillref02_Numberu0, chs_length]
    by_cases h : i < B.length
    · have hlt := numB_lt_of (B := B.take i) (n := 60) (by simp; omega)
      have e1 : wr .i64 (2 * ((numB (B.take i) : Nat) : Int)) = ((2 * numB (B.take i) : Nat) : Int) := by rw [wr, wrap64 (by omega) (by omega)]; simp
      have e2 : ((UInt8.toNat ((chs B).getD i 0) : Nat) : Int) - 48 = ((B[i].toNat : Nat) : Int) := by
        have : (chs B).getD i 0 = chB B[i] := by simp [chs, h]
        rw [this]; cases B[i] <;> decide
      have e3 : wr .i64 (wr .u8 ((B[i].toNat : Nat) : Int)) = ((B[i].toNat : Nat) : Int) := by cases B[i] <;> decide
      have e4 : B.take (i + 1) = B.take i ++ [B[i]] := by rw [List.take_succ_eq_append_getElem h]
      have hb : B[i].toNat ≤ 1 := by cases B[i] <;> decide
      have e5 : wr .i64 (((2 * numB (B.take i) : Nat) : Int) + ((B[i].toNat : Nat) : Int)) = ((numB (B.take (i + 1)) : Nat) : Int) := by
        rw [e4, numB_snoc, wr, wrap64 (by omega) (by omega)]; simp
      have ih := ref02_Number_loop k hB n (i + 1) h (by omega)
      rw [show wr .i64 ((i : Int) + 1) = ((i + 1 : Nat) : Int) by rw [wr, wrap64 (by omega) (by omega)]; simp]
      simp only [Int.toNat_natCast, e1, e2, e3, e5, ih, inR_nat, chs_length, h, decide_true, cond_true, Option.bind_some, Int.ofNat_lt]
    · have : i = B.length := by omega
      subst this
      simp
theorem ref02_Number_spec {k : Nat} {B : List Bool} (hB : B.length ≤ 60) (hk : 60 < k) : overspillref02_Number k (chs B) = some ((numB B : Nat) : Int) := by
  have h := ref02_Number_loop k hB k 0 (by omega) (by omega)
  simp only [List.take_zero] at h
  have h' : overspillref02_Numberu0 k k (chs B) 0 0 = _ := h
  simp only [overspillref02_Number, h', Option.bind_some]

/-! ### The page's table -/
noncomputable def start9 : List (List UInt8) × List DEvent := ([[48, 48, 48, 48, 48, 49, 49]], [(false, (0, (0, ())))])
noncomputable def list9 : List (List UInt8) × List DEvent := ((overspillref09_Takeu2 200 200 0 start9.1 start9.2).getD (((), ()), ([], []))).2
theorem list9_ok (k : Nat) : overspillref09_Takeu2 (k + 200) (k + 200) 0 start9.1 start9.2 = some (((), ()), list9) := by kernel_rfl
noncomputable abbrev rows9 : List (List UInt8) := list9.1
theorem list9_len : rows9.length = 103 ∧ list9.2.length = 103 := ⟨by kernel_rfl, by kernel_rfl⟩
theorem rows9_short : (rows9.all fun r => Nat.ble r.length 24) = true := by kernel_rfl
noncomputable def rowsOf (l : Bool) (r : Nat) : List (List UInt8) := (overspillref09_rows 200 l (r : Int)).getD []
noncomputable def tabFact (k : Nat) (l : Bool) (r : Nat) : Bool :=
  decide (tcoef_many (k + 200) l (r : Int) = some (((rowsOf l r).length : Nat) : Int)) && decide (overspillref09_rows (k + 200) l (r : Int) = some (rowsOf l r)) && ((rowsOf l r).all fun x => !x.isEmpty) && Nat.ble (rowsOf l r).length 12 &&
    ((List.range (rowsOf l r).length).all fun j => match tcoef_place (k + 200) l (r : Int) ((j + 1 : Nat) : Int) with | some p => decide (0 ≤ p) && decide (p < 102) | none => false)
theorem tab_facts (k : Nat) : ((List.range 64).all fun r => tabFact k false r && tabFact k true r) = true := by kernel_rfl
theorem tab_fact (k : Nat) (l : Bool) {r : Nat} (h : r < 64) : tabFact k l r = true := by
  have := List.all_eq_true.1 (tab_facts k) r (List.mem_range.2 h)
  simp only [Bool.and_eq_true] at this
  cases l
  · exact this.1
  · exact this.2
theorem many_at (k : Nat) (l : Bool) {r : Nat} (h : r < 64) : tcoef_many (k + 200) l (r : Int) = some (((rowsOf l r).length : Nat) : Int) ∧ overspillref09_rows (k + 200) l (r : Int) = some (rowsOf l r) ∧ (∀ x ∈ rowsOf l r, x ≠ []) ∧ (rowsOf l r).length ≤ 12 := by
  have := tab_fact k l h
  simp only [tabFact, Bool.and_eq_true, decide_eq_true_eq] at this
  obtain ⟨⟨⟨⟨h1, h2⟩, h3⟩, h4⟩, _⟩ := this
  refine ⟨h1, h2, fun x hx => ?_, Nat.le_of_ble_eq_true h4⟩
  have := List.all_eq_true.1 h3 x hx
  rintro rfl
  cases this
theorem place_at (k : Nat) (l : Bool) {r m : Nat} (h : r < 64) (hm : 1 ≤ m) : ∃ p : Int, tcoef_place (k + 200) l (r : Int) (m : Int) = some p ∧ (decide (0 ≤ p) = decide (m ≤ (rowsOf l r).length)) ∧ p < 102 := by
  obtain ⟨h1, _, _, _⟩ := many_at k l h
  by_cases hle : m ≤ (rowsOf l r).length
  · have := tab_fact k l h
    simp only [tabFact, Bool.and_eq_true] at this
    have h5 := List.all_eq_true.1 this.2 (m - 1) (List.mem_range.2 (by omega))
    rw [show m - 1 + 1 = m by omega] at h5
    split at h5
    · rename_i p hp
      simp only [Bool.and_eq_true, decide_eq_true_eq] at h5
      exact ⟨p, hp, by simp [h5.1, hle], h5.2⟩
    · cases h5
  · refine ⟨-1, ?_, by simp <;> omega, by omega⟩
    simp only [tcoef_place, h1, Option.bind_some, show decide ((((rowsOf l r).length : Nat) : Int) < (m : Int)) = true by simp <;> omega, cond_true]

/-- An event is in the table. -/
noncomputable def inTab (l : Bool) (r m : Nat) : Bool := decide (m ≤ (rowsOf l r).length)
theorem has_at (k : Nat) (l : Bool) {r m : Nat} (h : r < 64) (hm : 1 ≤ m) (hm2 : m ≤ 1000) : ∃ x, overspillref09_has (k + 200) l (r : Int) (m : Int) = some x ∧ decide (x = []) = !inTab l r m ∧ (inTab l r m = true → x = (rowsOf l r).getD (m - 1) []) := by
  obtain ⟨_, h2, h3, h4⟩ := many_at k l h
  simp only [overspillref09_has, h2, Option.bind_some, inTab]
  by_cases hle : m ≤ (rowsOf l r).length
  · have e1 : wr .i64 ((m : Int) - 1) = ((m - 1 : Nat) : Int) := by rw [wr, wrap64 (by omega) (by omega)]; omega
    simp only [show decide ((((rowsOf l r).length : Nat) : Int) < (m : Int)) = false by simp <;> omega, cond_false, e1, inR_nat, show decide (m - 1 < (rowsOf l r).length) = true by simp <;> omega, cond_true, Int.toNat_natCast]
    refine ⟨_, rfl, ?_, fun _ => rfl⟩
    have hmem : (rowsOf l r).getD (m - 1) [] ∈ rowsOf l r := by
      rw [List.getD_eq_getElem?_getD, List.getElem?_eq_getElem (by omega)]
      exact List.getElem_mem _
    rw [decide_eq_false (h3 _ hmem), decide_eq_true hle]; rfl
  · simp only [show decide ((((rowsOf l r).length : Nat) : Int) < (m : Int)) = true by simp <;> omega, cond_true]
    exact ⟨_, rfl, by simp [hle], fun h => by simp [hle] at h⟩

/-! ### What the page tells -/
def lvl (c : Nat) : Int := if 127 < c then (c : Int) - 256 else c
noncomputable def escOf (r : List Bool) : Sum Nat DEvent :=
  if r.length < 15 then .inl 2
  else if lvl (numB ((r.drop 7).take 8)) = 0 ∨ lvl (numB ((r.drop 7).take 8)) = -128 ∨ inTab (r.headD false) (numB ((r.drop 1).take 6)) (lvl (numB ((r.drop 7).take 8))).natAbs = true then .inl 7
  else .inr (r.headD false, ((numB ((r.drop 1).take 6) : Nat), (lvl (numB ((r.drop 7).take 8)), ())))
noncomputable def evAt (i : Nat) : DEvent := list9.2.getD i (false, (0, (0, ())))
noncomputable def rdTcoef (rest : List Bool) : Sum Nat (DEvent × Nat) :=
  match wlk (rowStep rows9) [] rest 0 with
  | .inl e => .inl e
  | .inr (i, m) => if i = 0 then (match escOf (rest.drop m) with | .inl e => .inl e | .inr x => .inr (x, m + 15))
    else match rest.drop m with
      | [] => .inl 2
      | b :: _ => .inr (((evAt i).1, ((evAt i).2.1, ((bif b then -(evAt i).2.2.1 else (evAt i).2.2.1), ()))), m + 1)

theorem lvl_range {c : Nat} (h : c < 256) : -128 ≤ lvl c ∧ lvl c ≤ 127 := by unfold lvl; split <;> omega
theorem num15 (r : List Bool) (h : 15 ≤ r.length) : numB (r.take 15) = (r.headD false).toNat * 16384 + numB ((r.drop 1).take 6) * 256 + numB ((r.drop 7).take 8) := by
  have e : r.take 15 = r.take 1 ++ ((r.drop 1).take 6 ++ (r.drop 7).take 8) := by
    rw [show (15 : Nat) = 1 + 14 from rfl, List.take_add, show (14 : Nat) = 6 + 8 from rfl, List.take_add, List.drop_drop]
  have h1 : ((r.drop 1).take 6).length = 6 := by simp; omega
  have h2 : ((r.drop 7).take 8).length = 8 := by simp; omega
  have h3 : numB (r.take 1) = (r.headD false).toNat := by
    cases r with
    | nil => simp at h
    | cons b r => simp [numB, numA]
  rw [e]
  simp only [numB, numA_append]
  rw [numA_eq, numA_eq ((r.drop 1).take 6), h1, h2]
  have h4 : numA 0 (r.take 1) = (r.headD false).toNat := h3
  rw [h4]
  simp only [numB]
  omega

theorem Right_spec {k : Nat} {l : Bool} {r : Nat} {v : Int} (hr : r < 64) : tcoef_Right k (l, ((r : Int), (v, ()))) = some (decide (v ≠ 0 ∧ -127 ≤ v ∧ v ≤ 127)) := by
  simp only [tcoef_Right, show decide ((0 : Int) ≤ (r : Int)) = true by simp, show decide ((r : Int) ≤ 63) = true by simp <;> omega, cond_true]
  by_cases h1 : v = 0
  · simp [h1]
  · by_cases h2 : -127 ≤ v
    · simp [h1, h2]
    · simp [h1, h2]
theorem ref09_Right_spec {k : Nat} {l : Bool} {r : Nat} {v : Int} (hr : r < 64) : overspillref09_Right k (l, ((r : Int), (v, ()))) = some (decide (v ≠ 0 ∧ -127 ≤ v ∧ v ≤ 127)) := by
  simp only [overspillref09_Right, show decide ((0 : Int) ≤ (r : Int)) = true by simp, show decide ((r : Int) ≤ 63) = true by simp <;> omega, cond_true]
  by_cases h1 : v = 0
  · simp [h1]
  · by_cases h2 : -127 ≤ v
    · by_cases h3 : v ≤ 127 <;> simp [h1, h2, h3]
    · simp [h1, h2]
theorem mx_abs {v : Int} (h1 : -1000 ≤ v) (h2 : v ≤ 1000) : mxI v (wr .i64 (0 - v)) = ((v.natAbs : Nat) : Int) := by
  rw [wr, wrap64 (by omega) (by omega)]
  unfold mxI
  by_cases h : v < 0 - v
  · simp only [h, decide_true, cond_true]; omega
  · simp only [h, decide_false, cond_false]; omega

theorem escaped_spec (k : Nat) {s : List UInt8} (hs : Small s) {a : Nat} (ha : a ≤ 8 * s.length) :
    ∃ rd : DReader, rd.1 = s ∧ tcoef_escaped (k + 200) (Rd s a) = some (match escOf (bitsFrom s a) with | .inr ev => ((ev, (0, ())), Rd s (a + 15)) | .inl e => (((false, (0, (0, ()))), ((e : Int), ())), rd)) := by
  have h15 := Take_spec (k := k + 200) hs (m := 15) (by decide) ha (by omega)
  have h15' : inbits_Reader_Take (k + 200) 15 (Rd s a) = _ := h15
  simp only [tcoef_escaped, h15', Option.bind_some, escOf]
  generalize bitsFrom s a = r
  by_cases hl : 15 ≤ r.length
  · rw [if_pos hl, if_neg (by omega), num15 r hl]
    have hx : numB ((r.drop 1).take 6) < 64 := by
      have := numB_lt ((r.drop 1).take 6)
      have e : ((r.drop 1).take 6).length = 6 := by simp; omega
      rw [e] at this; exact this
    have hy : numB ((r.drop 7).take 8) < 256 := by
      have := numB_lt ((r.drop 7).take 8)
      have e : ((r.drop 7).take 8).length = 8 := by simp; omega
      rw [e] at this; exact this
    generalize hxx : numB ((r.drop 1).take 6) = x at hx
    generalize hyy : numB ((r.drop 7).take 8) = y at hy
    generalize r.headD false = b
    obtain ⟨v, hv⟩ : ∃ v, v = b.toNat * 16384 + x * 256 + y := ⟨_, rfl⟩
    rw [← hv]
    have hb : b.toNat ≤ 1 := by cases b <;> decide
    have e1 : Int.tmod (v : Int) 256 = ((y : Nat) : Int) := by
      rw [show Int.tmod (v : Int) 256 = ((v % 256 : Nat) : Int) from rfl]; omega
    have e2 : shrI .i64 (v : Int) 14 = ((b.toNat : Nat) : Int) := by
      have h := shrI_nat (a := v) (n := 14) (by decide)
      have h' : shrI .i64 (v : Int) 14 = ((v / 2 ^ 14 : Nat) : Int) := h
      rw [h']; omega
    have e3 : bitop .and .i64 (shrI .i64 (v : Int) 8) 63 = ((x : Nat) : Int) := by
      have h := shrI_nat (a := v) (n := 8) (by decide)
      have h' : shrI .i64 (v : Int) 8 = ((v / 2 ^ 8 : Nat) : Int) := h
      have h2 := bitop_and (a := v / 2 ^ 8) (b := 63) (by omega) (by decide)
      have h2' : bitop .and .i64 ((v / 2 ^ 8 : Nat) : Int) 63 = ((v / 2 ^ 8 &&& 63 : Nat) : Int) := h2
      rw [h', h2', show (63 : Nat) = 2 ^ 6 - 1 from rfl, Nat.and_two_pow_sub_one_eq_mod]; omega
    have e4 : decide (((b.toNat : Nat) : Int) = 1) = b := by cases b <;> decide
    have e5 : (bif decide ((128 : Int) ≤ ((y : Nat) : Int)) then some (wr .i64 (((y : Nat) : Int) - 256)) else some ((y : Nat) : Int)) = some (lvl y) := by
      unfold lvl
      by_cases hc : 127 < y
      · rw [if_pos hc, show decide ((128 : Int) ≤ ((y : Nat) : Int)) = true by simp <;> omega, wr, wrap64 (by omega) (by omega)]; rfl
      · rw [if_neg hc, show decide ((128 : Int) ≤ ((y : Nat) : Int)) = false by simp <;> omega]; rfl
    have hlv := lvl_range hy
    simp only [decide_true, Bool.not_true, cond_false, e1, e2, e3, e4, tcoef_escapedu0, e5, Option.bind_some, Right_spec hx]
    by_cases hR : lvl y ≠ 0 ∧ -127 ≤ lvl y ∧ lvl y ≤ 127
    · rw [decide_eq_true hR]
      simp only [Bool.not_true, cond_false, mx_abs (show -1000 ≤ lvl y by omega) (show lvl y ≤ 1000 by omega)]
      obtain ⟨p, hp, hp2, _⟩ := place_at k b hx (m := (lvl y).natAbs) (by omega)
      simp only [hp, Option.bind_some, hp2]
      have hn1 : ¬ lvl y = 0 := hR.1
      have hn2 : ¬ lvl y = -128 := by omega
      cases ht : inTab b x (lvl y).natAbs with
      | true =>
        have ht' := ht
        unfold inTab at ht'
        rw [ht', if_pos (by simp)]
        exact ⟨Rd s (a + 15), rfl, rfl⟩
      | false =>
        have ht' := ht
        unfold inTab at ht'
        rw [ht', if_neg (by simp [hn1, hn2])]
        exact ⟨Rd s (a + 15), rfl, rfl⟩
    · have hR' : lvl y = 0 ∨ lvl y = -128 := by omega
      rw [show decide (lvl y ≠ 0 ∧ -127 ≤ lvl y ∧ lvl y ≤ 127) = false by simp only [hR, decide_false], if_pos (by rcases hR' with h | h <;> simp [h])]
      exact ⟨Rd s (a + 15), rfl, rfl⟩
  · rw [if_neg hl, if_pos (by omega)]
    exact ⟨Rd s a, rfl, rfl⟩
end Go.Proofs.YtlemoepklgfjoaaDoor
