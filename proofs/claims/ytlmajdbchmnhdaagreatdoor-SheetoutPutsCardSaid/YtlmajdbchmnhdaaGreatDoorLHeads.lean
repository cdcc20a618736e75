/-
  Heads of sheets and rows: the bits that are written.
-/
import Derived.Test.YtlmajdbchmnhdaaGreatDoorLMarks
import Derived.Test.YtlmajdbchmnhdaaGreatDoorLSheet1
set_option maxRecDepth 100000
namespace Go.Proofs.YtlmajdbchmnhdaaGreatDoor
open Go Go.Av

theorem PutI {k : Nat} (hk : 32 < k) {B : List Bool} {v' n' : Int} {v n : Nat} (hn' : n' = (n : Int)) (hv' : v' = (v : Int)) (hn : n ≤ 32) (hv : v < 2 ^ n) (hB : B.length ≤ 4000000000) : outbits_Writer_Put k v' n' ((B.length : Nat) : Int) (pk B) = some (0, Wr (B ++ bitsN n v)) := by
  subst hn' hv'
  exact Put_spec hn hv hk (by omega)
theorem or256 {v : Nat} (h : v < 256) : bitop .or .i64 256 (v : Int) = ((256 + v : Nat) : Int) := by
  have h0 := bitop_or (a := 256) (b := v) (by omega) (by omega)
  have h1 := Nat.two_pow_add_eq_or_of_lt (i := 8) (b := v) (by omega) 1
  rw [show (2 : Nat) ^ 8 * 1 = 256 from rfl] at h1
  rw [← h1] at h0
  exact h0

/-! ### Sheets -/
noncomputable def wExt (l : List Int) : List Bool := l.flatMap fun v => bitsN 9 (256 + v.toNat)
theorem wExt_len (l : List Int) : (wExt l).length = 9 * l.length := by
  induction l with
  | nil => rfl
  | cons a l ih =>
    unfold wExt at ih ⊢
    simp only [List.flatMap_cons, List.length_append, bitsN_length, ih, List.length_cons]; omega
theorem ext_loop (k : Nat) (hk : 32 < k) {l : List Int} (hl : l.length ≤ 100) (hb : l.all byteI = true) : ∀ (n i : Nat) (B : List Bool), i ≤ l.length → l.length < n + i → B.length ≤ 3000000000 + 9 * i →
    sheethead_Putu1 k n l ((l.length : Nat) : Int) (i : Int) ((B.length : Nat) : Int) (pk B) = some ((), Wr (B ++ wExt (l.drop i)))
  | 0, i, B, h1, h2, h3 => by omega
  | n + 1, i, B, h1, h2, h3 => by
    simp only [sheethead_Putu1]
    by_cases h : i < l.length
    · have hd : l.drop i = l.getD i 0 :: l.drop (i + 1) := by
        rw [List.drop_eq_getElem_cons h]; simp [h]
      have hv : byteI (l.getD i 0) = true := by
        have := List.all_eq_true.1 hb (l.getD i 0) (by rw [List.getD_eq_getElem?_getD, List.getElem?_eq_getElem h]; exact List.getElem_mem _)
        exact this
      simp only [byteI, Bool.and_eq_true, decide_eq_true_eq] at hv
      generalize hg : l.getD i 0 = v at hv hd
      obtain ⟨v, rfl⟩ : ∃ w : Nat, v = w := ⟨v.toNat, by omega⟩
      have ew : wr .i64 ((i : Int) + 1) = ((i + 1 : Nat) : Int) := by rw [wr, wrap64 (by omega) (by omega)]; simp
      have hp := PutI (k := k) hk (B := B) (v' := ((256 + v : Nat) : Int)) (n' := 9) (v := 256 + v) (n := 9) rfl rfl (by decide) (by omega) (by omega)
      have ih := ext_loop k hk hl hb n (i + 1) (B ++ bitsN 9 (256 + v)) h (by omega) (by simp only [List.length_append, bitsN_length]; omega)
      rw [hd]
      simp only [show decide ((i : Int) < ((l.length : Nat) : Int)) = true by simp [h], cond_true, inR_nat, h, decide_true, Int.toNat_natCast, hg, or256 (show v < 256 by omega), hp, Option.bind_some, ew]
      have ih' : sheethead_Putu1 k n l ((l.length : Nat) : Int) ((i + 1 : Nat) : Int) (Wr (B ++ bitsN 9 (256 + v))).1.2.1 (Wr (B ++ bitsN 9 (256 + v))).2 = _ := ih
      rw [ih', List.append_assoc]
      rfl
    · have : i = l.length := by omega
      subst this
      simp [wExt]
noncomputable def wHeadS (at_ : Nat) (x : DSheet) : List Bool :=
  wMark at_ 0 ++ (bitsN 8 x.1.toNat ++ (bitsN 2 2 ++ (bitsN 3 x.2.1.toNat ++ (bitsN 3 (fmS x) ++ (bitsN 1 (interS x).toNat ++ (bitsN 4 0 ++ (bitsN 5 x.2.2.2.2.1.toNat ++ (bitsN 1 0 ++ (wExt (extS x) ++ bitsN 1 0)))))))))
theorem wHeadS_len {at_ : Nat} {x : DSheet} (h : headOK x = true) : (wHeadS at_ x).length ≤ 200 := by
  simp only [headOK, Bool.and_eq_true, decide_eq_true_eq] at h
  have h1 := wMark_len at_ 0
  have h2 := wExt_len (extS x)
  simp only [wHeadS, List.length_append, bitsN_length]
  omega
theorem sheethead_ok {k : Nat} (hk : 300 < k) {x : DSheet} (hok : headOK x = true) {B : List Bool} (hB : B.length ≤ 1000000000) : sheethead_Put k x ((B.length : Nat) : Int) (pk B) = some (0, Wr (B ++ wHeadS B.length x)) := by
  have hok' := hok
  simp only [headOK, Bool.and_eq_true, decide_eq_true_eq] at hok'
  obtain ⟨⟨⟨⟨⟨⟨⟨⟨a1, a2⟩, a3⟩, a4⟩, a5⟩, a6⟩, a7⟩, a8⟩, a9⟩ := hok'
  have hf : x.2.2.1 = ((fmS x : Nat) : Int) := by
    have := fm_cases x.2.2.1
    show x.2.2.1 = ((fm x.2.2.1 : Nat) : Int)
    have a1' : fm x.2.2.1 ≠ 0 := a1
    omega
  have hf6 := fm_le x.2.2.1
  have hmay := head_may (k := k) (x := x) (by omega) (by omega)
  rw [hok] at hmay
  have hi : sheethead_Putu0 k 0 x.2.2.2.1 = some (((interS x).toNat : Nat) : Int) := by
    show sheethead_Putu0 k 0 (interS x) = _
    cases interS x <;> rfl
  have hml := wMark_len B.length 0
  have h0 := Mark_spec (k := k) (by omega) (B := B) (m := 0) (by omega) (by omega)
  have h0' : marks_Put k 0 ((B.length : Nat) : Int) (pk B) = _ := h0
  obtain ⟨B1, e1⟩ : ∃ B1, B1 = B ++ wMark B.length 0 := ⟨_, rfl⟩
  rw [← e1] at h0'
  have l1 : B1.length ≤ 1000000100 := by rw [e1, List.length_append]; omega
  have h1 := PutI (k := k) (by omega) (B := B1) (v' := x.1) (n' := 8) (v := x.1.toNat) (n := 8) rfl (by omega) (by decide) (by omega) (by omega)
  obtain ⟨B2, e2⟩ : ∃ B2, B2 = B1 ++ bitsN 8 x.1.toNat := ⟨_, rfl⟩
  rw [← e2] at h1
  have l2 : B2.length ≤ 1000000200 := by rw [e2, List.length_append, bitsN_length]; omega
  have h2 := PutI (k := k) (by omega) (B := B2) (v' := 2) (n' := 2) (v := 2) (n := 2) rfl rfl (by decide) (by omega) (by omega)
  obtain ⟨B3, e3⟩ : ∃ B3, B3 = B2 ++ bitsN 2 2 := ⟨_, rfl⟩
  rw [← e3] at h2
  have l3 : B3.length ≤ 1000000300 := by rw [e3, List.length_append, bitsN_length]; omega
  have h3 := PutI (k := k) (by omega) (B := B3) (v' := x.2.1) (n' := 3) (v := x.2.1.toNat) (n := 3) rfl (by omega) (by decide) (by omega) (by omega)
  obtain ⟨B4, e4⟩ : ∃ B4, B4 = B3 ++ bitsN 3 x.2.1.toNat := ⟨_, rfl⟩
  rw [← e4] at h3
  have l4 : B4.length ≤ 1000000400 := by rw [e4, List.length_append, bitsN_length]; omega
  have h4 := PutI (k := k) (by omega) (B := B4) (v' := x.2.2.1) (n' := 3) (v := fmS x) (n := 3) rfl hf (by decide) (Nat.lt_of_le_of_lt hf6 (by decide)) (by omega)
  obtain ⟨B5, e5⟩ : ∃ B5, B5 = B4 ++ bitsN 3 (fmS x) := ⟨_, rfl⟩
  rw [← e5] at h4
  have l5 : B5.length ≤ 1000000500 := by rw [e5, List.length_append, bitsN_length]; omega
  have h5 := PutI (k := k) (by omega) (B := B5) (v' := (((interS x).toNat : Nat) : Int)) (n' := 1) (v := (interS x).toNat) (n := 1) rfl rfl (by decide) (by cases interS x <;> decide) (by omega)
  obtain ⟨B6, e6⟩ : ∃ B6, B6 = B5 ++ bitsN 1 (interS x).toNat := ⟨_, rfl⟩
  rw [← e6] at h5
  have l6 : B6.length ≤ 1000000600 := by rw [e6, List.length_append, bitsN_length]; omega
  have h6 := PutI (k := k) (by omega) (B := B6) (v' := 0) (n' := 4) (v := 0) (n := 4) rfl rfl (by decide) (by decide) (by omega)
  obtain ⟨B7, e7⟩ : ∃ B7, B7 = B6 ++ bitsN 4 0 := ⟨_, rfl⟩
  rw [← e7] at h6
  have l7 : B7.length ≤ 1000000700 := by rw [e7, List.length_append, bitsN_length]; omega
  have h7 := PutI (k := k) (by omega) (B := B7) (v' := x.2.2.2.2.1) (n' := 5) (v := x.2.2.2.2.1.toNat) (n := 5) rfl (by omega) (by decide) (by omega) (by omega)
  obtain ⟨B8, e8⟩ : ∃ B8, B8 = B7 ++ bitsN 5 x.2.2.2.2.1.toNat := ⟨_, rfl⟩
  rw [← e8] at h7
  have l8 : B8.length ≤ 1000000800 := by rw [e8, List.length_append, bitsN_length]; omega
  have h8 := PutI (k := k) (by omega) (B := B8) (v' := 0) (n' := 1) (v := 0) (n := 1) rfl rfl (by decide) (by decide) (by omega)
  obtain ⟨B9, e9⟩ : ∃ B9, B9 = B8 ++ bitsN 1 0 := ⟨_, rfl⟩
  rw [← e9] at h8
  have l9 : B9.length ≤ 1000000900 := by rw [e9, List.length_append, bitsN_length]; omega
  have h9 := ext_loop k (by omega) (l := extS x) (by omega) a9 k 0 B9 (by omega) (by omega) (by omega)
  rw [List.drop_zero] at h9
  have h9' : sheethead_Putu1 k k x.2.2.2.2.2.1 ((x.2.2.2.2.2.1.length : Nat) : Int) 0 ((B9.length : Nat) : Int) (pk B9) = _ := h9
  have hxl := wExt_len (extS x)
  have h10 := PutI (k := k) (by omega) (B := B9 ++ wExt (extS x)) (v' := 0) (n' := 1) (v := 0) (n := 1) rfl rfl (by decide) (by decide) (by rw [List.length_append]; omega)
  simp only [sheethead_Put, hmay, Option.bind_some, Bool.not_true, cond_false, hi, h0', h1, h2, h3, h4, h5, h6, h7, h8, h9', h10]
  rw [e9, e8, e7, e6, e5, e4, e3, e2, e1]
  simp only [wHeadS, List.append_assoc]
theorem sheethead_bad {k : Nat} {x : DSheet} (hl : (extS x).length ≤ 100000) (hk : (extS x).length < k) (hok : headOK x = false) (B : List Bool) : sheethead_Put k x ((B.length : Nat) : Int) (pk B) = some (12, Wr B) := by
  have hmay := head_may (k := k) (x := x) hl hk
  rw [hok] at hmay
  simp only [sheethead_Put, hmay, Option.bind_some, Bool.not_false, cond_true]
/-! ### The page's heads -/
theorem ref_ext_loop (k : Nat) (hk : 32 < k) {x : DSheet} (hl : (extS x).length ≤ 100) (hb : (extS x).all byteI = true) : ∀ (n i : Nat) (B : List Bool), i ≤ (extS x).length → (extS x).length < n + i → B.length ≤ 1000 + 9 * i →
    overspillref24_Rowu2 k n (chs B) (i : Int) x = some (chs (B ++ wExt ((extS x).drop i)), x)
  | 0, i, B, h1, h2, h3 => by omega
  | n + 1, i, B, h1, h2, h3 => by
    simp only [overspillref24_Rowu2]
    by_cases h : i < (extS x).length
    · have hd : (extS x).drop i = (extS x).getD i 0 :: (extS x).drop (i + 1) := by
        rw [List.drop_eq_getElem_cons h]; simp [h]
      have hv : byteI ((extS x).getD i 0) = true := by
        have := List.all_eq_true.1 hb ((extS x).getD i 0) (by rw [List.getD_eq_getElem?_getD, List.getElem?_eq_getElem h]; exact List.getElem_mem _)
        exact this
      simp only [byteI, Bool.and_eq_true, decide_eq_true_eq] at hv
      generalize hg : (extS x).getD i 0 = v at hv hd
      obtain ⟨v, rfl⟩ : ∃ w : Nat, v = w := ⟨v.toNat, by omega⟩
      have ew : wr .i64 ((i : Int) + 1) = ((i + 1 : Nat) : Int) := by rw [wr, wrap64 (by omega) (by omega)]; simp
      have r8 : overspillref02_Row k (v : Int) 8 = _ := ref02_Row_spec (k := k) (m := 8) (v := v) (by decide) (by omega) (by omega)
      have e9 : bitsN 9 (256 + v) = true :: bitsN 8 v := by
        have hh : ∀ v : Fin 256, bitsN 9 (256 + v.val) = true :: bitsN 8 v.val := by decide +kernel
        exact hh ⟨v, by omega⟩
      have ih := ref_ext_loop k hk hl hb n (i + 1) (B ++ bitsN 9 (256 + v)) h (by omega) (by simp only [List.length_append, bitsN_length]; omega)
      have m1 : decide ((chs B).length + 1 ≤ strMax) = true := mx_add (by rw [chs_length]; omega)
      have m2 : decide ((chs B ++ ([49] : List UInt8)).length + (chs (bitsN 8 v)).length ≤ strMax) = true := mx_add (by rw [List.length_append, chs_length, chs_length, bitsN_length]; simp; omega)
      have e10 : chs B ++ ([49] : List UInt8) ++ chs (bitsN 8 v) = chs (B ++ bitsN 9 (256 + v)) := by
        rw [e9, chs_append]
        show chs B ++ ([49] : List UInt8) ++ chs (bitsN 8 v) = chs B ++ (49 :: chs (bitsN 8 v))
        simp
      rw [hd]
      simp only [show decide ((i : Int) < (((extS x).length : Nat) : Int)) = true by simp [h], cond_true, inR_nat, h, decide_true, Int.toNat_natCast, hg, r8, Option.bind_some, m1, m2, ew, e10, ih]
      rw [List.append_assoc]
      rfl
    · have : i = (extS x).length := by omega
      subst this
      simp [wExt]
end Go.Proofs.YtlmajdbchmnhdaaGreatDoor
