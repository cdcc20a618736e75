/-
  The page's rows: kinds, patterns, steps, differences, events, blocks.
-/
import Derived.Test.YtlmajdbchmnhdaaGreatDoorLCellout2
set_option maxRecDepth 100000
namespace Go.Proofs.YtlmajdbchmnhdaaGreatDoor
open Go Go.Av

theorem mx_add {a b : Nat} (h : a + b ≤ 1000000000) : decide (a + b ≤ strMax) = true := by rw [decide_eq_true_eq]; unfold strMax; omega

/-! ### Numbers -/
theorem bitsN_low : ∀ (n v : Nat), bitsN (n + 1) v = bitsN n (v / 2) ++ [v.testBit 0]
  | 0, v => rfl
  | n + 1, v => by
    rw [bitsN, bitsN_low n v, bitsN, List.cons_append, Nat.testBit_succ]
theorem ref02_Row_loop (k : Nat) {m : Nat} (hm : m ≤ 64) : ∀ (n i v : Nat) (acc : List Bool), i ≤ m → m < n + i → v < 9223372036854775808 → acc.length ≤ 64 + i → overspillref02_Rowu0 k n (v : Int) (m : Int) (chs acc) (i : Int) = some (chs (bitsN (m - i) v ++ acc))
  | 0, i, v, acc, h1, h2, h3, h4 => by omega
  | n + 1, i, v, acc, h1, h2, h3, h4 => by
    simp only [overspillref02_Rowu0]
    by_cases h : i < m
    · have e0 : Int.tmod (v : Int) 2 = ((v % 2 : Nat) : Int) := rfl
      have e1 : wr .i64 (((v % 2 : Nat) : Int) + 1) = ((v % 2 + 1 : Nat) : Int) := by rw [wr, wrap64 (by omega) (by omega)]; simp
      have e2 : wr .i64 (Int.tdiv (v : Int) 2) = ((v / 2 : Nat) : Int) := by rw [show Int.tdiv (v : Int) 2 = ((v / 2 : Nat) : Int) from rfl, wr, wrap64 (by omega) (by omega)]
      have e3 : wr .i64 ((i : Int) + 1) = ((i + 1 : Nat) : Int) := by rw [wr, wrap64 (by omega) (by omega)]; simp
      have e4 : decide ((0 : Int) ≤ ((v % 2 : Nat) : Int) ∧ ((v % 2 : Nat) : Int) ≤ ((v % 2 + 1 : Nat) : Int) ∧ ((v % 2 + 1 : Nat) : Int) ≤ ((2 : Nat) : Int)) = true := by rw [decide_eq_true_eq]; omega
      have e5 : List.drop (v % 2) (List.take (v % 2 + 1) ([48, 49] : List UInt8)) = chs [v.testBit 0] := by
        have : v % 2 = 0 ∨ v % 2 = 1 := by omega
        have ht : v.testBit 0 = decide (v % 2 = 1) := by rw [testBit_div]; simp
        rw [ht]
        rcases this with h | h <;> rw [h] <;> rfl
      have ih := ref02_Row_loop k hm n (i + 1) (v / 2) ([v.testBit 0] ++ acc) h (by omega) (by omega) (by simp; omega)
      rw [chs_append] at ih
      have e6 : decide ((chs [v.testBit 0]).length + (chs acc).length ≤ strMax) = true := mx_add (by rw [chs_length, chs_length, List.length_singleton]; omega)
      simp only [show decide ((i : Int) < (m : Int)) = true by simp [h], cond_true, e0, e1, e2, e3, e4, Int.toNat_natCast, e5, e6]
      rw [ih, show m - i = (m - (i + 1)) + 1 by omega, bitsN_low, List.append_assoc]
      rfl
    · have : i = m := by omega
      subst this
      simp [bitsN]
theorem ref02_Row_spec {k m v : Nat} (hm : m ≤ 64) (hk : m < k) (hv : v < 9223372036854775808) : overspillref02_Row k (v : Int) (m : Int) = some (chs (bitsN m v)) := by
  have h := ref02_Row_loop k hm k 0 v [] (by omega) (by omega) hv (by simp)
  have h' : overspillref02_Rowu0 k k (v : Int) (m : Int) ([] : List UInt8) 0 = _ := h
  simp only [overspillref02_Row, h', Option.bind_some, Nat.sub_zero, List.append_nil]

/-! ### Rows of codes -/
theorem ref06_rowsOk (k : Nat) : ([(true, 0), (true, 1), (true, 3), (true, 4), (false, 3), (false, 4)].all fun x => (List.range 4).all fun ch => decide (overspillref06_Row k x.1 ((x.2 : Nat) : Int) (ch : Int) = some (chs (wMcbpc x.1 x.2 ch)))) = true := by kernel_rfl
theorem ref06_stuff (k : Nat) (inter : Bool) : overspillref06_Row k inter 5 0 = some (chs (wMcbpc inter 5 0)) := by cases inter <;> kernel_rfl
theorem ref06_Row_spec (k : Nat) {inter : Bool} {kind ch : Nat} (h1 : kind ≤ 4 ∧ kind ≠ 2) (h2 : inter = false → 3 ≤ kind) (h3 : ch < 4) : overspillref06_Row k inter (kind : Int) (ch : Int) = some (chs (wMcbpc inter kind ch)) := by
  have hm : (inter, kind) ∈ [(true, 0), (true, 1), (true, 3), (true, 4), (false, 3), (false, 4)] := by
    cases inter
    · have := h2 rfl
      have : kind = 3 ∨ kind = 4 := by omega
      rcases this with rfl | rfl <;> simp
    · have : kind = 0 ∨ kind = 1 ∨ kind = 3 ∨ kind = 4 := by omega
      rcases this with rfl | rfl | rfl | rfl <;> simp
  have h4 := List.all_eq_true.1 (ref06_rowsOk k) _ hm
  have h5 := List.all_eq_true.1 h4 ch (List.mem_range.2 h3)
  exact of_decide_eq_true h5
theorem ref07_rowsOk (k : Nat) : ((List.range 16).all fun p => decide (overspillref07_Row k true (p : Int) = some (chs (wCbpy true p))) && decide (overspillref07_Row k false (p : Int) = some (chs (wCbpy false p)))) = true := by kernel_rfl
theorem ref07_Row_spec (k : Nat) (intra : Bool) {p : Nat} (h : p < 16) : overspillref07_Row k intra (p : Int) = some (chs (wCbpy intra p)) := by
  have := List.all_eq_true.1 (ref07_rowsOk k) p (List.mem_range.2 h)
  simp only [Bool.and_eq_true, decide_eq_true_eq] at this
  cases intra
  · exact this.2
  · exact this.1
theorem ref08_rowsOk (k : Nat) : ((List.range 64).all fun p => decide (overspillref08_Row k ((p : Int) - 32) = some (chs (rowBits rows8 p)))) = true := by kernel_rfl
theorem ref08_Row_spec (k : Nat) {d : Int} (h1 : -32 ≤ d) (h2 : d ≤ 31) : overspillref08_Row k d = some (chs (wMvd d)) := by
  have := List.all_eq_true.1 (ref08_rowsOk k) (d + 32).toNat (List.mem_range.2 (by omega))
  have h3 := of_decide_eq_true this
  rw [show (((d + 32).toNat : Nat) : Int) - 32 = d by omega] at h3
  exact h3
theorem ref20_Row_spec (k : Nat) (st : Int) : overspillref20_Row k st = some (chs (wStep st)) := by
  simp only [overspillref20_Row, wStep]
  by_cases h1 : st < -2
  · rw [decide_eq_true h1, if_neg (by omega), if_neg (by omega), if_neg (by omega), if_neg (by omega)]; rfl
  · rw [decide_eq_false h1, cond_false]
    by_cases h2 : 2 < st
    · rw [decide_eq_true h2, if_neg (by omega), if_neg (by omega), if_neg (by omega), if_neg (by omega)]; rfl
    · rw [decide_eq_false h2, cond_false]
      have : st = -2 ∨ st = -1 ∨ st = 0 ∨ st = 1 ∨ st = 2 := by omega
      rcases this with rfl | rfl | rfl | rfl | rfl <;> rfl
theorem ref09_Right_any (k : Nat) (e : DEvent) : overspillref09_Right k e = some (rightEv e) := by
  simp only [overspillref09_Right, rightEv, decide_not]
  cases decide (0 ≤ e.2.1) <;> cases decide (e.2.1 ≤ 63) <;> cases decide (e.2.2.1 = 0) <;> cases decide (-127 ≤ e.2.2.1) <;> cases decide (e.2.2.1 ≤ 127) <;> rfl
theorem plain_tab : ((List.range 64).all fun r => [false, true].all fun l => (rowsOf l r).all fun x => isPlain x && Nat.ble x.length 12) = true := by kernel_rfl
theorem ref09_Row_spec (k : Nat) {e : DEvent} (h : rightEv e = true) : overspillref09_Row (k + 200) e = some (chs (wEvent e)) := by
  have h' := h
  simp only [rightEv, Bool.and_eq_true, decide_eq_true_eq] at h'
  obtain ⟨⟨⟨⟨h1, h2⟩, h3⟩, h4⟩, h5⟩ := h'
  obtain ⟨l, r, v, u⟩ := e
  simp only at h1 h2 h3 h4 h5
  obtain ⟨r, rfl⟩ : ∃ n : Nat, r = n := ⟨r.toNat, by omega⟩
  have ham : overspillref09_amount (k + 200) v = some ((v.natAbs : Nat) : Int) := by
    unfold overspillref09_amount
    by_cases hv : v < 0
    · rw [decide_eq_true hv, cond_true, wr, wrap64 (by omega) (by omega)]; congr 1; omega
    · rw [decide_eq_false hv, cond_false]; congr 1; omega
  have hsg : overspillref09_sign (k + 200) v = some (chs [decide (v < 0)]) := by
    unfold overspillref09_sign
    by_cases hv : v < 0
    · rw [decide_eq_true hv]; rfl
    · rw [decide_eq_false hv]; rfl
  obtain ⟨x, hx, hx2, hx3⟩ := has_at k l (r := r) (m := v.natAbs) (by omega) (by omega) (by omega)
  simp only [overspillref09_Row, ref09_Right_any, h, Option.bind_some, Bool.not_true, cond_false, ham, hx, wEvent, Int.toNat_natCast]
  cases ht : inTab l r v.natAbs with
  | true =>
    rw [ht, Bool.not_true] at hx2
    have hxx := hx3 ht
    have hle : v.natAbs ≤ (rowsOf l r).length := of_decide_eq_true ht
    have hmem : x ∈ rowsOf l r := by
      rw [hxx, List.getD_eq_getElem?_getD, List.getElem?_eq_getElem (by omega)]
      exact List.getElem_mem _
    have p1 := List.all_eq_true.1 plain_tab r (List.mem_range.2 (by omega))
    have p2 := List.all_eq_true.1 p1 l (by cases l <;> simp)
    have p3 := List.all_eq_true.1 p2 x hmem
    simp only [Bool.and_eq_true] at p3
    have hlen := Nat.le_of_ble_eq_true p3.2
    have hmx : decide (x.length + (chs [decide (v < 0)]).length ≤ strMax) = true := mx_add (by rw [chs_length, List.length_singleton]; omega)
    simp only [hx2, Bool.not_false, cond_true, hsg, Option.bind_some, hmx, chs_append, ← hxx, chs_bitsRow p3.1]
  | false =>
    rw [ht, Bool.not_false] at hx2
    have hl0 : overspillref09_Rowu0 (k + 200) ([48] : List UInt8) l = some (chs [l]) := by cases l <;> rfl
    have e : Int.emod v 256 = v % 256 := rfl
    have hl1 : overspillref09_Rowu1 (k + 200) v (decide (v < 0)) = some (((Int.emod v 256).toNat : Nat) : Int) := by
      unfold overspillref09_Rowu1
      by_cases hv : v < 0
      · rw [decide_eq_true hv, cond_true, wr, wrap64 (by omega) (by omega), e]; congr 1; omega
      · rw [decide_eq_false hv, cond_false, e]; congr 1; omega
    have r6 : overspillref02_Row (k + 200) (r : Int) 6 = some (chs (bitsN 6 r)) := ref02_Row_spec (m := 6) (by decide) (by omega) (by omega)
    have r8 : overspillref02_Row (k + 200) (((Int.emod v 256).toNat : Nat) : Int) 8 = some (chs (bitsN 8 (Int.emod v 256).toNat)) := ref02_Row_spec (m := 8) (by decide) (by omega) (by rw [e]; omega)
    have r7 : ([48, 48, 48, 48, 48, 49, 49] : List UInt8) = chs (bitsN 7 3) := by decide +kernel
    simp only [hx2, Bool.not_true, cond_false, hl0, hl1, Option.bind_some, r6, r8, r7]
    have m1 : decide (7 + (chs [l]).length ≤ strMax) = true := mx_add (by rw [chs_length, List.length_singleton]; omega)
    have m2 : decide ((chs (bitsN 7 3) ++ chs [l]).length + (chs (bitsN 6 r)).length ≤ strMax) = true := mx_add (by simp [chs_length, bitsN_length])
    have m3 : decide ((chs (bitsN 7 3) ++ chs [l] ++ chs (bitsN 6 r)).length + (chs (bitsN 8 (Int.emod v 256).toNat)).length ≤ strMax) = true := mx_add (by simp [chs_length, bitsN_length])
    rw [m1, m2, m3]
    simp only [cond_true, ← chs_append]
    simp

/-! ### Blocks -/
theorem ref15_from_w (k : Nat) (intra : Bool) : overspillref15_from k intra = some ((fromW intra : Nat) : Int) := by cases intra <;> rfl
theorem ref10_loop (k : Nat) {l : List DEvent} (hl : l.length ≤ 100000) (y : List Int) : ∀ (n i a : Nat) (lv : List Int), i ≤ l.length → l.length < n + i → a ≤ 64 →
    (∃ z, overspillref10_Levelsu2 k n l ((a : Int) - 1) (i : Int) y lv = some (.inr ((), (y, z))) ∧ levOK a (l.drop i) = true) ∨ (∃ y2 z, overspillref10_Levelsu2 k n l ((a : Int) - 1) (i : Int) y lv = some (.inl (7, (y2, z))) ∧ levOK a (l.drop i) = false)
  | 0, i, a, lv, h1, h2, h3 => by omega
  | n + 1, i, a, lv, h1, h2, h3 => by
    simp only [overspillref10_Levelsu2]
    by_cases h : i < l.length
    · have hd : l.drop i = l[i] :: l.drop (i + 1) := List.drop_eq_getElem_cons h
      have hg : l.getD i (false, (0, (0, ()))) = l[i] := by simp [h]
      generalize hx : l[i] = x at hd hg
      have e1 : wr .i64 ((i : Int) + 1) = ((i + 1 : Nat) : Int) := by rw [wr, wrap64 (by omega) (by omega)]; simp
      have e2 : decide (((i + 1 : Nat) : Int) = ((l.length : Nat) : Int)) = (l.drop (i + 1)).isEmpty := by
        have : (l.drop (i + 1)).isEmpty = decide (l.length ≤ i + 1) := by
          rw [Bool.eq_iff_iff, List.isEmpty_iff, List.drop_eq_nil_iff, decide_eq_true_eq]
        rw [this, decide_eq_decide]; omega
      rw [hd]
      have hu : overspillref10_Levelsu1 k l (i : Int) = some (!(rightEv x && (x.1 == (l.drop (i + 1)).isEmpty))) := by
        simp only [overspillref10_Levelsu1, inR_nat, h, decide_true, cond_true, Int.toNat_natCast, hg, ref09_Right_any, Option.bind_some, e1, e2, Bool.true_xor]
        cases rightEv x <;> rfl
      simp only [show decide ((i : Int) < ((l.length : Nat) : Int)) = true by simp [h], cond_true, hu, Option.bind_some, inR_nat, h, decide_true, Int.toNat_natCast, hg, levOK]
      cases hr : (rightEv x && (x.1 == (l.drop (i + 1)).isEmpty)) with
      | false => right; exact ⟨_, _, rfl, by simp⟩
      | true =>
        have hr' := hr
        simp only [rightEv, Bool.and_eq_true, decide_eq_true_eq] at hr'
        obtain ⟨⟨⟨⟨⟨b1, b2⟩, _⟩, _⟩, _⟩, _⟩ := hr'
        obtain ⟨q, hq⟩ : ∃ q : Nat, x.2.1 = q := ⟨x.2.1.toNat, by omega⟩
        have e3 : wr .i64 (wr .i64 (((a : Int) - 1) + x.2.1) + 1) = ((a + q : Nat) : Int) := by
          rw [hq, wr, wr, wrap64 (x := (a : Int) - 1 + (q : Int)) (by omega) (by omega), wrap64 (by omega) (by omega)]; omega
        have e4 : x.2.1.toNat = q := by rw [hq]; simp
        simp only [Bool.not_true, cond_false, e3, e4, Bool.true_and]
        by_cases h64 : a + q < 64
        · have ih := ref10_loop k hl y n (i + 1) (a + q + 1) (lv.set (a + q) x.2.2.1) h (by omega) (by omega)
          rw [show (((a + q + 1 : Nat) : Int) - 1) = ((a + q : Nat) : Int) by omega] at ih
          simp only [show decide ((63 : Int) < ((a + q : Nat) : Int)) = false by simp <;> omega, cond_false, show decide (a + q < 64) = true by simp [h64], cond_true, inR_nat, h64, decide_true, Int.toNat_natCast, e1, Bool.true_and]
          rcases ih with ⟨z, h5, h6⟩ | ⟨y2, z, h5, h6⟩
          · left; rw [h5]; exact ⟨z, rfl, h6⟩
          · right; rw [h5]; exact ⟨y2, z, rfl, h6⟩
        · simp only [show decide ((63 : Int) < ((a + q : Nat) : Int)) = true by simp <;> omega, cond_true, show decide (a + q < 64) = false by simp <;> omega, Bool.false_and]
          right; exact ⟨_, _, rfl, trivial⟩
    · have : i = l.length := by omega
      subst this
      left
      exact ⟨lv, by simp, by simp [levOK]⟩
theorem ref15_May_spec {k : Nat} (intra : Bool) (dc : Int) {l : List DEvent} (hl : l.length ≤ 100000) (hk : l.length < k) : overspillref15_May k intra dc l = some (blockOK intra dc l) := by
  have h0 : overspillref10_Levelsu0 k ((fromW intra : Nat) : Int) = some false := by cases intra <;> rfl
  have e1 : wr .i64 (((fromW intra : Nat) : Int) - 1) = ((fromW intra : Nat) : Int) - 1 := by cases intra <;> decide
  have hL : ∃ z, overspillref10_Levels k l ((fromW intra : Nat) : Int) = some (z, ((bif levOK (fromW intra) l then 0 else 7), ())) := by
    simp only [overspillref10_Levels, h0, Option.bind_some, cond_false, e1]
    rcases ref10_loop k hl Y64 k 0 (fromW intra) Y64 (by omega) (by omega) (by cases intra <;> decide) with ⟨z, h5, h6⟩ | ⟨y2, z, h5, h6⟩
    · rw [List.drop_zero] at h6
      have h5' : overspillref10_Levelsu2 k k l (((fromW intra : Nat) : Int) - 1) 0 Y64 Y64 = _ := h5
      rw [h5', h6]; exact ⟨z, rfl⟩
    · rw [List.drop_zero] at h6
      have h5' : overspillref10_Levelsu2 k k l (((fromW intra : Nat) : Int) - 1) 0 Y64 Y64 = _ := h5
      rw [h5', h6]; exact ⟨y2, rfl⟩
  obtain ⟨z, hL⟩ := hL
  simp only [overspillref15_May, ref15_from_w, Option.bind_some, hL, blockOK]
  have h255 : decide (dc ≤ 254) = decide (dc < 255) := by rw [decide_eq_decide]; omega
  cases levOK (fromW intra) l with
  | false =>
    have e7 : decide ((7 : Int) = 0) = false := rfl
    cases intra <;> simp only [cond_true, cond_false, e7, Bool.and_false]
  | true =>
    cases intra with
    | true =>
      simp only [cond_true, decide_true, h255, Bool.and_true]
      by_cases h1 : 1 ≤ dc
      · rw [decide_eq_true h1, decide_eq_false (show ¬ dc = 0 by omega), decide_eq_true (show 0 ≤ dc by omega)]; rfl
      · rw [decide_eq_false h1]
        by_cases h2 : dc = 0
        · rw [decide_eq_true h2]; rfl
        · rw [decide_eq_false h2, decide_eq_false (show ¬ 0 ≤ dc by omega)]; rfl
    | false =>
      simp only [cond_true, cond_false, decide_true, Bool.and_true]
      by_cases h2 : dc = 0
      · subst h2; rfl
      · rw [decide_eq_false h2]; rfl
theorem ref15_Row_loop (k : Nat) {l : List DEvent} (hl : l.length ≤ 100000) (hr : ∀ e ∈ l, rightEv e = true) : ∀ (n i : Nat) (B : List Bool), i ≤ l.length → l.length < n + i → B.length ≤ 100 + 22 * i →
    overspillref15_Rowu2 (k + 200) n l (chs B) (i : Int) = some (chs (B ++ (l.drop i).flatMap wEvent))
  | 0, i, B, h1, h2, h3 => by omega
  | n + 1, i, B, h1, h2, h3 => by
    simp only [overspillref15_Rowu2]
    by_cases h : i < l.length
    · have hd : l.drop i = l[i] :: l.drop (i + 1) := List.drop_eq_getElem_cons h
      have hg : l.getD i (false, (0, (0, ()))) = l[i] := by simp [h]
      have hri := hr l[i] (List.getElem_mem _)
      have hwl := wEvent_length hri
      have ih := ref15_Row_loop k hl hr n (i + 1) (B ++ wEvent l[i]) h (by omega) (by simp only [List.length_append]; omega)
      rw [chs_append] at ih
      have e1 : wr .i64 ((i : Int) + 1) = ((i + 1 : Nat) : Int) := by rw [wr, wrap64 (by omega) (by omega)]; simp
      have e2 : decide ((chs B).length + (chs (wEvent l[i])).length ≤ strMax) = true := mx_add (by rw [chs_length, chs_length]; omega)
      rw [hd, List.flatMap_cons]
      simp only [show decide ((i : Int) < ((l.length : Nat) : Int)) = true by simp [h], cond_true, inR_nat, h, decide_true, Int.toNat_natCast, hg, ref09_Row_spec k hri, Option.bind_some, e1, e2, ih, List.append_assoc]
    · have : i = l.length := by omega
      subst this
      simp
theorem ref15_Row_spec {k : Nat} {intra : Bool} {dc : Int} {l : List DEvent} (hl : l.length ≤ 100000) (hk : l.length + 300 < k) (hok : blockOK intra dc l = true) : overspillref15_Row k intra dc l = some (chs (wBlock intra dc l)) := by
  obtain ⟨k', rfl⟩ : ∃ k', k = k' + 200 := ⟨k - 200, by omega⟩
  simp only [blockOK, Bool.and_eq_true, decide_eq_true_eq] at hok
  obtain ⟨⟨⟨h1, h2⟩, h3⟩, h4⟩ := hok
  have hlt : (if dc = 128 then 255 else dc.toNat : Nat) < 256 := by split <;> omega
  have hu1 : overspillref15_Rowu1 (k' + 200) dc ([] : List UInt8) intra = some (chs (bif intra then bitsN 8 (if dc = 128 then 255 else dc.toNat) else [])) := by
    cases intra with
    | false => rfl
    | true =>
      have hu0 : overspillref15_Rowu0 (k' + 200) dc (decide (dc = 128)) = some (((if dc = 128 then 255 else dc.toNat : Nat)) : Int) := by
        simp only [overspillref15_Rowu0]
        by_cases h : dc = 128
        · rw [if_pos h, decide_eq_true h]; rfl
        · rw [if_neg h, decide_eq_false h, cond_false]; congr 1; omega
      have r8 : overspillref02_Row (k' + 200) (((if dc = 128 then 255 else dc.toNat : Nat)) : Int) 8 = _ := ref02_Row_spec (m := 8) (k := k' + 200) (by decide) (by omega) (by omega)
      simp only [overspillref15_Rowu1, cond_true, hu0, Option.bind_some, r8]
  have hlp := ref15_Row_loop k' hl (levOK_right h4) (k' + 200) 0 (bif intra then bitsN 8 (if dc = 128 then 255 else dc.toNat) else []) (by omega) (by omega) (by cases intra <;> simp [bitsN_length])
  rw [List.drop_zero] at hlp
  have hlp' : overspillref15_Rowu2 (k' + 200) (k' + 200) l (chs (bif intra then bitsN 8 (if dc = 128 then 255 else dc.toNat) else [])) 0 = _ := hlp
  simp only [overspillref15_Row, hu1, Option.bind_some, hlp', wBlock]
end Go.Proofs.YtlmajdbchmnhdaaGreatDoor
