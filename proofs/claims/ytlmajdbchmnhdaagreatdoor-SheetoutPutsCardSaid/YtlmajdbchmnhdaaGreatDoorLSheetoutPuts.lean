/-
  The plain law of SheetoutPuts: any sheet is written as the page says, behind what is there, or refused.
-/
import Derived.Test.YtlmajdbchmnhdaaGreatDoorLSheetPut3
import Derived.Test.YtlmajdbchmnhdaaGreatDoorM4
set_option maxRecDepth 100000
namespace Go.Proofs.YtlmajdbchmnhdaaGreatDoor
open Go Go.Av

theorem lives_27 (k : Nat) : overspilllaw27_lives (k + 300) = some true := by kernel_rfl

/-! ### Light sheets -/
theorem light1 (k : Nat) {x : DSheet} {i j : Nat} (hi : i < (rowsS x).length) (hj : j < (cellsR ((rowsS x).getD i RZ)).length) : ∀ (n e : Nat), e ≤ 6 → 6 < n + e →
    overspilllaw25_Lightu1 k n (i : Int) (j : Int) (e : Int) x = some (.inl (false, x)) ∨ (overspilllaw25_Lightu1 k n (i : Int) (j : Int) (e : Int) x = some (.inr ((), x)) ∧ ∀ q, e ≤ q → q < 6 → ((evW ((cellsR ((rowsS x).getD i RZ)).getD j CZ)).getD q []).length ≤ 100)
  | 0, e, h1, h2 => by omega
  | n + 1, e, h1, h2 => by
    simp only [overspilllaw25_Lightu1]
    by_cases h : e < 6
    · have ew : wr .i64 ((e : Int) + 1) = ((e + 1 : Nat) : Int) := by rw [wr, wrap64 (by omega) (by omega)]; simp
      have ed : decide ((100 : Int) < ((((evW ((cellsR ((rowsS x).getD i RZ)).getD j CZ)).getD e []).length : Nat) : Int)) = decide (100 < ((evW ((cellsR ((rowsS x).getD i RZ)).getD j CZ)).getD e []).length) := by rw [decide_eq_decide]; omega
      simp only [show decide ((e : Int) < 6) = true by simp <;> omega, cond_true, inR_nat, hi, hj, h, decide_true, Int.toNat_natCast, ed, ew]
      by_cases hq : 100 < ((evW ((cellsR ((rowsS x).getD i RZ)).getD j CZ)).getD e []).length
      · left; rw [decide_eq_true hq]; rfl
      · rw [decide_eq_false hq]
        rcases light1 k hi hj n (e + 1) h (by omega) with h4 | ⟨h4, h5⟩
        · left; rw [h4]; rfl
        · right; rw [h4]
          refine ⟨rfl, fun q h6 h7 => ?_⟩
          by_cases hqe : q = e
          · subst hqe; omega
          · exact h5 q (by omega) h7
    · have : e = 6 := by omega
      subst this
      right; exact ⟨rfl, fun q h6 h7 => by omega⟩
theorem light2 (k : Nat) (hk : 10 < k) {x : DSheet} {i : Nat} (hi : i < (rowsS x).length) (hl : (cellsR ((rowsS x).getD i RZ)).length ≤ 200) : ∀ (n j : Nat) (cnt : Nat), j ≤ (cellsR ((rowsS x).getD i RZ)).length → (cellsR ((rowsS x).getD i RZ)).length < n + j → cnt ≤ 100000 + j →
    overspilllaw25_Lightu2 k n (cnt : Int) (i : Int) (j : Int) x = some (.inl (false, x)) ∨ (overspilllaw25_Lightu2 k n (cnt : Int) (i : Int) (j : Int) x = some (.inr (((cnt + ((cellsR ((rowsS x).getD i RZ)).length - j) : Nat) : Int), x)) ∧ ∀ p, j ≤ p → p < (cellsR ((rowsS x).getD i RZ)).length → ∀ q, q < 6 → ((evW ((cellsR ((rowsS x).getD i RZ)).getD p CZ)).getD q []).length ≤ 100)
  | 0, j, cnt, h1, h2, h3 => by omega
  | n + 1, j, cnt, h1, h2, h3 => by
    simp only [overspilllaw25_Lightu2, inR_nat, hi, decide_true, cond_true, Int.toNat_natCast]
    by_cases h : j < (cellsR ((rowsS x).getD i RZ)).length
    · have ew : wr .i64 ((j : Int) + 1) = ((j + 1 : Nat) : Int) := by rw [wr, wrap64 (by omega) (by omega)]; simp
      have ec : wr .i64 ((cnt : Int) + 1) = ((cnt + 1 : Nat) : Int) := by rw [wr, wrap64 (by omega) (by omega)]; simp
      simp only [decide_eq_true (show (j : Int) < (((cellsR ((rowsS x).getD i RZ)).length : Nat) : Int) by omega), cond_true, ew, ec]
      rcases light1 k hi h k 0 (by omega) (by omega) with h4 | ⟨h4, h5⟩
      · left
        have h4' : overspilllaw25_Lightu1 k k (i : Int) (j : Int) 0 x = _ := h4
        rw [h4']; rfl
      · have h4' : overspilllaw25_Lightu1 k k (i : Int) (j : Int) 0 x = _ := h4
        rw [h4']
        simp only [Option.bind_some, Sum.elim_inr]
        rcases light2 k hk hi hl n (j + 1) (cnt + 1) h (by omega) (by omega) with h6 | ⟨h6, h7⟩
        · left; rw [h6]; rfl
        · right; rw [h6]
          refine ⟨?_, fun p h8 h9 q h10 => ?_⟩
          · simp only [Option.bind_some, Sum.elim_inr]
            rw [show cnt + 1 + ((cellsR ((rowsS x).getD i RZ)).length - (j + 1)) = cnt + ((cellsR ((rowsS x).getD i RZ)).length - j) by omega]
          · by_cases hp : p = j
            · subst hp; exact h5 q (by omega) h10
            · exact h7 p (by omega) h9 q h10
    · have : j = (cellsR ((rowsS x).getD i RZ)).length := by omega
      subst this
      right
      exact ⟨by simp, fun p h8 h9 => by omega⟩
def fewR (r : DRow) : Prop := (cellsR r).length ≤ 200 ∧ ∀ p, p < (cellsR r).length → ∀ q, q < 6 → ((evW ((cellsR r).getD p CZ)).getD q []).length ≤ 100
theorem light3 (k : Nat) (hk : 300 < k) {x : DSheet} (hl : (rowsS x).length ≤ 30) : ∀ (n i : Nat) (cnt : Nat), i ≤ (rowsS x).length → (rowsS x).length < n + i → cnt ≤ 200 * i →
    overspilllaw25_Lightu3 k n (cnt : Int) (i : Int) x = some (.inl (false, x)) ∨ (overspilllaw25_Lightu3 k n (cnt : Int) (i : Int) x = some (.inr (((cnt + (((rowsS x).drop i).flatMap cellsR).length : Nat) : Int), x)) ∧ ∀ p, i ≤ p → p < (rowsS x).length → fewR ((rowsS x).getD p RZ))
  | 0, i, cnt, h1, h2, h3 => by omega
  | n + 1, i, cnt, h1, h2, h3 => by
    simp only [overspilllaw25_Lightu3]
    by_cases h : i < (rowsS x).length
    · have ew : wr .i64 ((i : Int) + 1) = ((i + 1 : Nat) : Int) := by rw [wr, wrap64 (by omega) (by omega)]; simp
      have ed : decide ((200 : Int) < (((cellsR ((rowsS x).getD i RZ)).length : Nat) : Int)) = decide (200 < (cellsR ((rowsS x).getD i RZ)).length) := by rw [decide_eq_decide]; omega
      simp only [show decide ((i : Int) < (((rowsS x).length : Nat) : Int)) = true by simp [h], cond_true, inR_nat, h, decide_true, Int.toNat_natCast, ew, ed]
      by_cases hq : 200 < (cellsR ((rowsS x).getD i RZ)).length
      · left; rw [decide_eq_true hq]; rfl
      · rw [decide_eq_false hq]
        simp only [cond_false]
        rcases light2 k (by omega) h (by omega) k 0 cnt (by omega) (by omega) (by omega) with h4 | ⟨h4, h5⟩
        · left
          have h4' : overspilllaw25_Lightu2 k k (cnt : Int) (i : Int) 0 x = _ := h4
          rw [h4']; rfl
        · have h4' : overspilllaw25_Lightu2 k k (cnt : Int) (i : Int) 0 x = _ := h4
          rw [h4']
          simp only [Option.bind_some, Sum.elim_inr]
          rcases light3 k hk hl n (i + 1) (cnt + ((cellsR ((rowsS x).getD i RZ)).length - 0)) h (by omega) (by omega) with h6 | ⟨h6, h7⟩
          · left; rw [h6]; rfl
          · right; rw [h6]
            refine ⟨?_, fun p h8 h9 => ?_⟩
            · simp only [Option.bind_some, Sum.elim_inr]
              rw [drop_getD h RZ, List.flatMap_cons, List.length_append, show cnt + ((cellsR ((rowsS x).getD i RZ)).length - 0) + (((rowsS x).drop (i + 1)).flatMap cellsR).length = cnt + ((cellsR ((rowsS x).getD i RZ)).length + (((rowsS x).drop (i + 1)).flatMap cellsR).length) by omega]
            · by_cases hp : p = i
              · subst hp; exact ⟨by omega, fun p h10 q h11 => h5 p (by omega) h10 q h11⟩
              · exact h7 p (by omega) h9
    · have : i = (rowsS x).length := by omega
      subst this
      right
      exact ⟨by simp, fun p h8 h9 => by omega⟩
theorem wf_cells {x : DSheet} (hx : wfT YSheet x) {r : DRow} (hr : r ∈ rowsS x) {c : DCell} (hc : c ∈ cellsR r) : (evW c).length = 6 ∧ (dcW c).length = 6 ∧ (mvW c).length = 2 := by
  have h1 := hx.2.2.2.2.2.2.1.2 r hr
  have h2 := h1.2.2.2.1.2 c hc
  exact ⟨h2.2.2.2.2.2.2.1.1, h2.2.2.2.2.2.1.1, h2.2.2.2.2.1.1⟩
theorem light_spec {k : Nat} (hk : 300 < k) {x : DSheet} (hx : wfT YSheet x) : overspilllaw27_light k x = some false ∨ (overspilllaw27_light k x = some true ∧ LightS 100 x ∧ stuffS x ≤ 1000) := by
  have u0 : overspilllaw25_Lightu0 k x = some (decide (30 < (rowsS x).length) || decide (100 < (extS x).length), x) := by
    have e1 : decide ((30 : Int) < (((rowsS x).length : Nat) : Int)) = decide (30 < (rowsS x).length) := by rw [decide_eq_decide]; omega
    have e2 : decide ((100 : Int) < (((extS x).length : Nat) : Int)) = decide (100 < (extS x).length) := by rw [decide_eq_decide]; omega
    simp only [overspilllaw25_Lightu0, e1, e2]
    cases decide (30 < (rowsS x).length) <;> rfl
  simp only [overspilllaw27_light, overspilllaw25_Light, u0, Option.bind_some]
  by_cases h1 : 30 < (rowsS x).length
  · left; rw [decide_eq_true h1]; rfl
  · by_cases h2 : 100 < (extS x).length
    · left; rw [decide_eq_true h2, Bool.or_true]; rfl
    · rw [decide_eq_false h1, decide_eq_false h2]
      simp only [Bool.or_self, cond_false]
      rcases light3 k hk (show (rowsS x).length ≤ 30 by omega) k 0 0 (by omega) (by omega) (by omega) with h4 | ⟨h4, h5⟩
      · left
        have h4' : overspilllaw25_Lightu3 k k 0 0 x = _ := h4
        rw [h4']; rfl
      · have h4' : overspilllaw25_Lightu3 k k 0 0 x = _ := h4
        rw [List.drop_zero, Nat.zero_add] at h4'
        rw [h4']
        simp only [Option.bind_some, Sum.elim_inr]
        by_cases h6 : ((rowsS x).flatMap cellsR).length ≤ 200
        · rw [decide_eq_true (show ((((rowsS x).flatMap cellsR).length : Nat) : Int) ≤ 200 by omega)]
          simp only [cond_true]
          by_cases h7 : stuffS x ≤ 1000
          · right
            refine ⟨by rw [decide_eq_true h7], ⟨by omega, by omega, by unfold allC; omega, fun r hr => ?_⟩, h7⟩
            obtain ⟨p, hp, hpe⟩ := List.getElem_of_mem hr
            have hf := h5 p (by omega) hp
            rw [show (rowsS x).getD p RZ = r by rw [List.getD_eq_getElem?_getD, List.getElem?_eq_getElem hp]; exact hpe] at hf
            refine ⟨by have := hf.1; omega, fun c hc => ?_⟩
            obtain ⟨w1, w2, w3⟩ := wf_cells hx hr hc
            obtain ⟨q, hq, hqe⟩ := List.getElem_of_mem hc
            have hff := hf.2 q hq
            rw [show (cellsR r).getD q CZ = c by rw [List.getD_eq_getElem?_getD, List.getElem?_eq_getElem hq]; exact hqe] at hff
            refine ⟨w1, w2, w3, fun i => ?_⟩
            by_cases hi : i < 6
            · exact hff i hi
            · rw [List.getD_eq_getElem?_getD, List.getElem?_eq_none (by omega)]; simp
          · left; rw [decide_eq_false h7]
        · left
          rw [decide_eq_false (show ¬ ((((rowsS x).flatMap cellsR).length : Nat) : Int) ≤ 200 by omega)]; rfl

/-! ### Texts of digits, packed -/
theorem rPlain_loop (k : Nat) {s : List UInt8} (hs : s.length ≤ 100000) : ∀ (n i : Nat), i ≤ s.length → s.length < n + i → overspillref02_Plainu0 k n s (i : Int) = some (bif isPlain (s.drop i) then .inr () else .inl false)
  | 0, i, h1, h2 => by omega
  | n + 1, i, h1, h2 => by
    simp only [overspillref02_Plainu0]
    by_cases h : i < s.length
    · have ih := rPlain_loop k hs n (i + 1) h (by omega)
      have ew : wr .i64 ((i : Int) + 1) = ((i + 1 : Nat) : Int) := by rw [wr, wrap64 (by omega) (by omega)]; simp
      have e48 : decide (((UInt8.toNat (s.getD i 0) : Nat) : Int) = 48) = decide (s.getD i 0 = 48) := by
        rw [decide_eq_decide]
        constructor
        · intro h; exact UInt8.toNat_inj.1 (by have : (48 : UInt8).toNat = 48 := rfl; omega)
        · intro h; rw [h]; rfl
      have e49 : decide (((UInt8.toNat (s.getD i 0) : Nat) : Int) = 49) = decide (s.getD i 0 = 49) := by
        rw [decide_eq_decide]
        constructor
        · intro h; exact UInt8.toNat_inj.1 (by have : (49 : UInt8).toNat = 49 := rfl; omega)
        · intro h; rw [h]; rfl
      have hd : isPlain (s.drop i) = ((decide (s.getD i 0 = 48) || decide (s.getD i 0 = 49)) && isPlain (s.drop (i + 1))) := by
        rw [drop_getD h 0]; rfl
      rw [hd]
      simp only [show decide ((i : Int) < ((s.length : Nat) : Int)) = true by simp [h], cond_true, inR_nat, h, decide_true, Int.toNat_natCast, e48, e49, ew, ih, Option.bind_some]
      cases decide (s.getD i 0 = 48) with
      | true => cases isPlain (s.drop (i + 1)) <;> rfl
      | false =>
        cases decide (s.getD i 0 = 49) with
        | true => cases isPlain (s.drop (i + 1)) <;> rfl
        | false => rfl
    · have : i = s.length := by omega
      subst this
      simp [isPlain]
theorem rPlain_spec {k : Nat} {s : List UInt8} (hs : s.length ≤ 100000) (hk : s.length < k) : overspillref02_Plain k s = some (isPlain s) := by
  have h := rPlain_loop k hs k 0 (by omega) (by omega)
  rw [List.drop_zero] at h
  have h' : overspillref02_Plainu0 k k s 0 = _ := h
  simp only [overspillref02_Plain, h', Option.bind_some]
  cases isPlain s <;> rfl
theorem rNumber_loop (k : Nat) {B : List Bool} (hB : B.length ≤ 60) : ∀ (n i : Nat), i ≤ B.length → B.length < n + i →
    overspillref02_Numberu0 k n (chs B) ((numB (B.take i) : Nat) : Int) (i : Int) = some ((numB B : Nat) : Int)
  | 0, i, h1, h2 => by omega
  | n + 1, i, h1, h2 => by
    simp only [overspillref02_Numberu0, chs_length]
    by_cases h : i < B.length
    · have hlt := numB_lt_of (B := B.take i) (n := 60) (by simp; omega)
      have e1 : wr .i64 (2 * ((numB (B.take i) : Nat) : Int)) = ((2 * numB (B.take i) : Nat) : Int) := by rw [wr, wrap64 (by omega) (by omega)]; simp
      have e2 : ((UInt8.toNat ((chs B).getD i 0) : Nat) : Int) - 48 = ((B[i].toNat : Nat) : Int) := by
        have : (chs B).getD i 0 = chB B[i] := by simp [chs, h]
        rw [this]; cases B[i] <;> decide
      have e3 : wr .i64 (wr .u8 ((B[i].toNat : Nat) : Int)) = ((B[i].toNat : Nat) : Int) := by cases B[i] <;> decide
      have e4 : B.take (i + 1) = B.take i ++ [B[i]] := by rw [List.take_succ_eq_append_getElem h]
      have hb : B[i].toNat ≤ 1 := by cases B[i] <;> decide
      have e5 : wr .i64 (((2 * numB (B.take i) : Nat) : Int) + ((B[i].toNat : Nat) : Int)) = ((numB (B.take (i + 1)) : Nat) : Int) := by
        rw [e4, numB_snoc, wr, wrap64 (by omega) (by omega)]; simp
      have ih := rNumber_loop k hB n (i + 1) h (by omega)
      rw [show wr .i64 ((i : Int) + 1) = ((i + 1 : Nat) : Int) by rw [wr, wrap64 (by omega) (by omega)]; simp]
      simp only [Int.toNat_natCast, e1, e2, e3, e5, ih, inR_nat, chs_length, h, decide_true, cond_true, Option.bind_some, Int.ofNat_lt]
    · have : i = B.length := by omega
      subst this
      simp
theorem rNumber_spec {k : Nat} {B : List Bool} (hB : B.length ≤ 60) (hk : 60 < k) : overspillref02_Number k (chs B) = some ((numB B : Nat) : Int) := by
  have h := rNumber_loop k hB k 0 (by omega) (by omega)
  simp only [List.take_zero] at h
  have h' : overspillref02_Numberu0 k k (chs B) 0 0 = _ := h
  simp only [overspillref02_Number, h', Option.bind_some]
theorem chs_cut (B : List Bool) (a m : Nat) : (((chs B).take (a + m)).drop a) = chs ((B.drop a).take m) := by
  simp only [chs, ← List.map_take, ← List.map_drop]
  congr 1
  rw [List.drop_take]; congr 1; omega
theorem rPack_loop (k : Nat) (hk : 60 < k) {B : List Bool} {q : Nat} (hq : B.length = 8 * q) (hB : B.length ≤ 1000000000) : ∀ (n i : Nat) (acc : List Int), i ≤ q → q < n + i → acc.length ≤ i → overspillref02_Packu1 k n (chs B) ((8 * i : Nat) : Int) acc = some ((), acc ++ pkN (q - i) (B.drop (8 * i)))
  | 0, i, acc, h1, h2, h3 => by omega
  | n + 1, i, acc, h1, h2, h3 => by
    simp only [overspillref02_Packu1, chs_length, hq]
    by_cases h : i < q
    · have e8 : wr .i64 (((8 * i : Nat) : Int) + 8) = ((8 * i + 8 : Nat) : Int) := by rw [wr, wrap64 (by omega) (by omega)]; simp
      have g1 : decide ((0 : Int) ≤ ((8 * i : Nat) : Int) ∧ ((8 * i : Nat) : Int) ≤ ((8 * i + 8 : Nat) : Int) ∧ ((8 * i + 8 : Nat) : Int) ≤ ((8 * q : Nat) : Int)) = true := by rw [decide_eq_true_eq]; omega
      have hl8 : ((B.drop (8 * i)).take 8).length = 8 := by rw [List.length_take, List.length_drop]; omega
      have hlt : numB ((B.drop (8 * i)).take 8) < 256 := by have := numB_lt ((B.drop (8 * i)).take 8); rw [hl8] at this; exact this
      have e9 : wr .u8 ((numB ((B.drop (8 * i)).take 8) : Nat) : Int) = ((numB ((B.drop (8 * i)).take 8) : Nat) : Int) := by
        have hh : ∀ v : Fin 256, wr .u8 ((v.val : Nat) : Int) = ((v.val : Nat) : Int) := by decide +kernel
        exact hh ⟨_, hlt⟩
      have ih := rPack_loop k hk hq hB n (i + 1) (acc ++ [((numB ((B.drop (8 * i)).take 8) : Nat) : Int)]) h (by omega) (by simp; omega)
      rw [show 8 * (i + 1) = 8 * i + 8 by omega] at ih
      have ep : pkN (q - i) (B.drop (8 * i)) = ((numB ((B.drop (8 * i)).take 8) : Nat) : Int) :: pkN (q - (i + 1)) (B.drop (8 * i + 8)) := by
        rw [show q - i = (q - (i + 1)) + 1 by omega]
        simp only [pkN]
        rw [pad8_long (by rw [List.length_drop]; omega), List.drop_drop]
      simp only [show decide (((8 * i : Nat) : Int) < ((8 * q : Nat) : Int)) = true by simp <;> omega, cond_true, e8, g1, Int.toNat_natCast, chs_cut, rNumber_spec (k := k) (show ((B.drop (8 * i)).take 8).length ≤ 60 by omega) hk, Option.bind_some, rowMax_small (show acc.length + 1 ≤ 1000000000 by omega), e9, ih, ep, List.append_assoc, List.singleton_append]
    · have : i = q := by omega
      subst this
      simp [pkN]
theorem rPack_spec {k : Nat} {B : List Bool} {q : Nat} (hq : B.length = 8 * q) (hB : B.length ≤ 1000000000) (hk : q + 60 < k) : overspillref02_Pack k (chs B) = some ((pk B).map toU8) := by
  have hu0 : overspillref02_Packu0 k k (chs B) = some (chs B) := by
    obtain ⟨k', rfl⟩ : ∃ k', k = k' + 1 := ⟨k - 1, by omega⟩
    have e : Int.tmod ((8 * q : Nat) : Int) 8 = ((8 * q % 8 : Nat) : Int) := rfl
    simp only [overspillref02_Packu0, chs_length, hq, e, show decide (((8 * q % 8 : Nat) : Int) = 0) = true by simp <;> omega, Bool.not_true, cond_false]
  have h := rPack_loop k (by omega) hq hB k 0 [] (by omega) (by omega) (by simp)
  rw [Nat.sub_zero, Nat.mul_zero, List.drop_zero, List.nil_append] at h
  have h' : overspillref02_Packu1 k k (chs B) 0 ([] : List Int) = _ := h
  have e : pk B = pkN q B := by unfold pk; rw [show (B.length + 7) / 8 = q by omega]
  simp only [overspillref02_Pack, hu0, Option.bind_some, h', e]

/-! ### The law -/
theorem wSheet_len8 (at_ : Nat) (x : DSheet) : (at_ + (wSheet at_ x).length) % 8 = 0 := by
  unfold wSheet
  rw [List.length_append, List.length_append, List.length_replicate, List.length_replicate]
  unfold fillN
  omega
theorem plain_SheetoutPuts (x : DSheet) (s : List UInt8) (hx : wfT YSheet x) (hs : wfT .str s) : ∃ k, overspilllaw27_SheetoutPuts k x s = some true := by
  by_cases h100 : 100 < s.length
  · refine ⟨s.length + 100000 + 300, ?_⟩
    have hu0 : overspilllaw27_SheetoutPutsu0 (s.length + 100000 + 300) s x = some (true, x) := by
      simp only [overspilllaw27_SheetoutPutsu0]
      rcases light_spec (k := s.length + 100000 + 300) (by omega) hx with hl | ⟨hl, _⟩
      · simp only [hl, Option.bind_some, Bool.not_false, cond_true]
      · simp only [hl, Option.bind_some, Bool.not_true, cond_false, decide_eq_true (show (100 : Int) < ((s.length : Nat) : Int) by omega), cond_true]
    simp only [overspilllaw27_SheetoutPuts, hu0, Option.bind_some, cond_true, lives_27]
  · refine ⟨100000000 + 300, ?_⟩
    rcases light_spec (k := 100000000 + 300) (by omega) hx with hl | ⟨hl, hL, hst⟩
    · have hu0 : overspilllaw27_SheetoutPutsu0 (100000000 + 300) s x = some (true, x) := by
        simp only [overspilllaw27_SheetoutPutsu0, hl, Option.bind_some, Bool.not_false, cond_true]
      simp only [overspilllaw27_SheetoutPuts, hu0, Option.bind_some, cond_true, lives_27]
    · have hu0 : overspilllaw27_SheetoutPutsu0 (100000000 + 300) s x = some (!isPlain s, x) := by
        simp only [overspilllaw27_SheetoutPutsu0, hl, Option.bind_some, Bool.not_true, cond_false, decide_eq_false (show ¬ (100 : Int) < ((s.length : Nat) : Int) by omega), rPlain_spec (k := 100000000 + 300) (show s.length ≤ 100000 by omega) (by omega)]
      simp only [overspilllaw27_SheetoutPuts, hu0, Option.bind_some]
      cases hp : isPlain s with
      | false => simp only [Bool.not_false, cond_true, lives_27, Option.bind_some]
      | true =>
        obtain ⟨A, rfl⟩ : ∃ A, s = chs A := ⟨bitsRow s, (chs_bitsRow hp).symm⟩
        have hA : A.length ≤ 100 := by rw [chs_length] at h100; omega
        have hadd := Add_spec (k := 100000000 + 300) (B := []) (C := A) (by omega) (by simp; omega)
        have hadd' : outbits_Writer_Add (100000000 + 300) (chs A) 0 ([] : List Int) = _ := hadd
        have hchk := Check_r (k := 100000000 + 300) (m := 100) (by omega) (by omega) hL
        rw [List.nil_append] at hadd'
        simp only [Bool.not_true, cond_false, outbits_New, Option.bind_some, hadd', sheetout_Bits, outbits_Writer_Len, overspilllaw27_SheetoutPutsu1, sheetout_Put_2, decide_true, hchk]
        by_cases hok : checkI x = 0
        · have h1 := PutSheet_ok (k := 100000000 + 300) (by omega) hL hst hok (B := A) (by omega)
          have h2 := PutSheet_ok (k := 100000000 + 300) (by omega) hL hst hok (B := []) (by simp)
          have h2' : sheetout_Put (100000000 + 300) x 0 ([] : List Int) = some (0, Wr (wSheet 0 x)) := h2
          have hlen : ∀ a : Nat, (wSheet a x).length ≤ 400100000 := fun a => by
            have hfl := wFront_len (at_ := a) hL (check_form hok)
            unfold wSheet
            rw [List.length_append, List.length_append, List.length_replicate, List.length_replicate]
            have : fillN (a + (wFront a x).length) < 8 := by unfold fillN; omega
            omega
          have hr := ref27_Row_spec (k := 100000000 + 300) (by omega) hL hst hok (at_ := A.length) (by omega)
          have hr0 := ref27_Row_spec (k := 100000000 + 300) (by omega) hL hst hok (at_ := 0) (by omega)
          have hr0' : overspillref27_Row (100000000 + 300) 0 x = _ := hr0
          have hl1 := hlen A.length
          have hmx : decide (A.length + (wSheet A.length x).length ≤ strMax) = true := mx_add (by omega)
          have h8 := wSheet_len8 A.length x
          have h80 := wSheet_len8 0 x
          have hpack := rPack_spec (k := 100000000 + 300) (B := A ++ wSheet A.length x) (q := (A ++ wSheet A.length x).length / 8) (by rw [List.length_append]; omega) (by rw [List.length_append]; omega) (by rw [List.length_append]; omega)
          rw [chs_append] at hpack
          have e0 : Int.tmod (((wSheet 0 x).length : Nat) : Int) 8 = (((wSheet 0 x).length % 8 : Nat) : Int) := rfl
          have e1 : decide ((((wSheet 0 x).length % 8 : Nat) : Int) = 0) = true := by simp <;> omega
          simp only [h1, h2', hok, Option.bind_some, decide_true, Bool.not_true, cond_false, cond_true, chs_length, hr, hmx, List.length_append, outbits_Writer_Text, hpack, overspillref27_Bits, hr0', e0, e1, lives_27]
        · have h1 := PutSheet_bad (k := 100000000 + 300) (by omega) hL hok A
          have h2 := PutSheet_bad (k := 100000000 + 300) (by omega) hL hok []
          have h2' : sheetout_Put (100000000 + 300) x 0 ([] : List Int) = some (checkI x, Wr []) := h2
          simp only [h1, h2', Option.bind_some, decide_true, Bool.not_true, cond_false, decide_eq_false hok, Bool.not_false, cond_true, overspilllaw27_SheetoutPutsu2, outbits_Writer_Len, List.length_nil, chs_length, lives_27]
          rfl
end Go.Proofs.YtlmajdbchmnhdaaGreatDoor
