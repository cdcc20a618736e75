/-
  The page's heads; rows' heads.
-/
import Derived.Test.YtlmajdbchmnhdaaGreatDoorLHeads
set_option maxRecDepth 100000
namespace Go.Proofs.YtlmajdbchmnhdaaGreatDoor
open Go Go.Av

theorem ref24_Row_spec {k : Nat} (hk : 300 < k) {x : DSheet} (hok : headOK x = true) {at_ : Nat} (hat : at_ ≤ 1000000000) : overspillref24_Row k (at_ : Int) x = some (chs (wHeadS at_ x)) := by
  have hok' := hok
  simp only [headOK, Bool.and_eq_true, decide_eq_true_eq] at hok'
  obtain ⟨⟨⟨⟨⟨⟨⟨⟨a1, a2⟩, a3⟩, a4⟩, a5⟩, a6⟩, a7⟩, a8⟩, a9⟩ := hok'
  have hf : x.2.2.1 = ((fmS x : Nat) : Int) := by
    have := fm_cases x.2.2.1
    show x.2.2.1 = ((fm x.2.2.1 : Nat) : Int)
    have a1' : fm x.2.2.1 ≠ 0 := a1
    omega
  have hf6 : fmS x ≤ 6 := fm_le x.2.2.1
  have h0 := ref_fill_loop k hat k 0 (by omega) (by unfold fillN; omega)
  have h0' : overspillref24_Rowu0 k k (at_ : Int) ([] : List UInt8) = _ := h0
  have h1 : overspillref24_Rowu1 k ([48] : List UInt8) x.2.2.2.1 = some (chs (bitsN 1 (interS x).toNat)) := by
    show overspillref24_Rowu1 k ([48] : List UInt8) (interS x) = _
    cases interS x <;> rfl
  have h2 : overspillref04_Row k 0 = some (chs (bitsN 22 32)) := ref04_spec (k := k) (by omega) (m := 0) (by omega)
  have r8 : overspillref02_Row k x.1 8 = some (chs (bitsN 8 x.1.toNat)) := by
    have h : overspillref02_Row k ((x.1.toNat : Nat) : Int) 8 = _ := ref02_Row_spec (k := k) (m := 8) (v := x.1.toNat) (by decide) (by omega) (by omega)
    rw [show ((x.1.toNat : Nat) : Int) = x.1 by omega] at h
    exact h
  have r3 : overspillref02_Row k x.2.1 3 = some (chs (bitsN 3 x.2.1.toNat)) := by
    have h : overspillref02_Row k ((x.2.1.toNat : Nat) : Int) 3 = _ := ref02_Row_spec (k := k) (m := 3) (v := x.2.1.toNat) (by decide) (by omega) (by omega)
    rw [show ((x.2.1.toNat : Nat) : Int) = x.2.1 by omega] at h
    exact h
  have r3f : overspillref02_Row k x.2.2.1 3 = some (chs (bitsN 3 (fmS x))) := by
    have h : overspillref02_Row k ((fmS x : Nat) : Int) 3 = _ := ref02_Row_spec (k := k) (m := 3) (v := fmS x) (by decide) (by omega) (by omega)
    rw [← hf] at h
    exact h
  have r5 : overspillref02_Row k x.2.2.2.2.1 5 = some (chs (bitsN 5 x.2.2.2.2.1.toNat)) := by
    have h : overspillref02_Row k ((x.2.2.2.2.1.toNat : Nat) : Int) 5 = _ := ref02_Row_spec (k := k) (m := 5) (v := x.2.2.2.2.1.toNat) (by decide) (by omega) (by omega)
    rw [show ((x.2.2.2.2.1.toNat : Nat) : Int) = x.2.2.2.2.1 by omega] at h
    exact h
  have c10 : ([49, 48] : List UInt8) = chs (bitsN 2 2) := by decide +kernel
  have c0000 : ([48, 48, 48, 48] : List UInt8) = chs (bitsN 4 0) := by decide +kernel
  have c0 : ([48] : List UInt8) = chs (bitsN 1 0) := by decide +kernel
  have hfl : fillN at_ < 8 := by unfold fillN; omega
  have hx := ref_ext_loop k (by omega) (x := x) (by omega) a9 k 0 (noughts (fillN at_) ++ bitsN 22 32 ++ bitsN 8 x.1.toNat ++ bitsN 2 2 ++ bitsN 3 x.2.1.toNat ++ bitsN 3 (fmS x) ++ bitsN 1 (interS x).toNat ++ bitsN 4 0 ++ bitsN 5 x.2.2.2.2.1.toNat ++ bitsN 1 0) (by omega) (by omega) (by simp only [List.length_append, bitsN_length, List.length_replicate]; omega)
  rw [List.drop_zero] at hx
  simp only [chs_append] at hx
  have hx' : overspillref24_Rowu2 k k (chs (noughts (fillN at_)) ++ chs (bitsN 22 32) ++ chs (bitsN 8 x.1.toNat) ++ chs (bitsN 2 2) ++ chs (bitsN 3 x.2.1.toNat) ++ chs (bitsN 3 (fmS x)) ++ chs (bitsN 1 (interS x).toNat) ++ chs (bitsN 4 0) ++ chs (bitsN 5 x.2.2.2.2.1.toNat) ++ chs (bitsN 1 0)) 0 x = _ := hx
  have hxl := wExt_len (extS x)
  have mx : ∀ (A B : List UInt8), A.length ≤ 1000 → B.length ≤ 1000 → decide (A.length + B.length ≤ strMax) = true := fun A B h1 h2 => mx_add (by omega)
  have mx1 : ∀ (A : List UInt8) (n : Nat), A.length ≤ 1000 → n ≤ 1000 → decide (A.length + n ≤ strMax) = true := fun A B h1 h2 => mx_add (by omega)
  have ln : ∀ n v, (chs (bitsN n v)).length = n := fun n v => by rw [chs_length, bitsN_length]
  have lf : (chs (noughts (fillN at_))).length = fillN at_ := by rw [chs_length, List.length_replicate]
  have b1 : (chs (noughts (fillN at_))).length ≤ 1000 := by rw [lf]; omega
  simp only [overspillref24_Row, h0', h1, h2, Option.bind_some, r8, r3, r3f, r5]
  rw [c10, c0000, c0]
  rw [mx _ _ b1 (by rw [ln]; omega)]; simp only [cond_true]
  rw [mx _ _ (by simp only [List.length_append, ln, lf]; omega) (by rw [ln]; omega)]; simp only [cond_true]
  rw [mx1 _ 2 (by simp only [List.length_append, ln, lf]; omega) (by omega)]; simp only [cond_true]
  rw [mx _ _ (by simp only [List.length_append, ln, lf]; omega) (by rw [ln]; omega)]; simp only [cond_true]
  rw [mx _ _ (by simp only [List.length_append, ln, lf]; omega) (by rw [ln]; omega)]; simp only [cond_true]
  rw [mx _ _ (by simp only [List.length_append, ln, lf]; omega) (by rw [ln]; omega)]; simp only [cond_true]
  rw [mx1 _ 4 (by simp only [List.length_append, ln, lf]; omega) (by omega)]; simp only [cond_true]
  rw [mx _ _ (by simp only [List.length_append, ln, lf]; omega) (by rw [ln]; omega)]; simp only [cond_true]
  rw [mx1 _ 1 (by simp only [List.length_append, ln, lf]; omega) (by omega)]; simp only [cond_true]
  rw [hx']
  simp only [Option.bind_some]
  rw [mx1 _ 1 (by simp only [List.length_append, ln, lf, chs_length, hxl]; omega) (by omega)]
  simp only [cond_true, ← chs_append, wHeadS, wMark, List.append_assoc]

/-! ### Heads of rows -/
noncomputable def wHeadR (at_ i : Nat) (a b : Int) : List Bool := wMark at_ i ++ (bitsN 2 a.toNat ++ bitsN 5 b.toNat)
theorem wHeadR_len (at_ i : Nat) (a b : Int) : (wHeadR at_ i a b).length ≤ 36 := by
  have h1 := wMark_len at_ i
  simp only [wHeadR, List.length_append, bitsN_length]
  omega
theorem rowhead_spec {k : Nat} (hk : 300 < k) {i : Nat} (h1 : 1 ≤ i) (h2 : i ≤ 17) {a b : Int} (ha : 0 ≤ a ∧ a ≤ 3) (hb : 1 ≤ b ∧ b ≤ 31) {B : List Bool} (hB : B.length ≤ 1000000000) : rowhead_Put k (i : Int) a b ((B.length : Nat) : Int) (pk B) = some (0, Wr (B ++ wHeadR B.length i a b)) := by
  have hu0 : rowhead_Putu0 k (i : Int) a b ((B.length : Nat) : Int) (pk B) = some (.inr ((), Wr B)) := by
    simp only [rowhead_Putu0, decide_eq_false (show ¬ (i : Int) < 1 by omega), decide_eq_false (show ¬ (17 : Int) < (i : Int) by omega), decide_eq_false (show ¬ a < 0 by omega), decide_eq_false (show ¬ 3 < a by omega), decide_eq_false (show ¬ b < 1 by omega), decide_eq_false (show ¬ 31 < b by omega), cond_false]
  have hml := wMark_len B.length i
  have hm := Mark_spec (k := k) (by omega) (B := B) (m := i) (by omega) (by omega)
  have p1 := PutI (k := k) (by omega) (B := B ++ wMark B.length i) (v' := a) (n' := 2) (v := a.toNat) (n := 2) rfl (by omega) (by decide) (by omega) (by rw [List.length_append]; omega)
  have p2 := PutI (k := k) (by omega) (B := B ++ wMark B.length i ++ bitsN 2 a.toNat) (v' := b) (n' := 5) (v := b.toNat) (n := 5) rfl (by omega) (by decide) (by omega) (by simp only [List.length_append, bitsN_length]; omega)
  simp only [rowhead_Put, hu0, Option.bind_some, Sum.elim_inr, hm, p1, p2]
  simp only [wHeadR, List.append_assoc]
theorem ref23_fill_loop (k : Nat) {at_ : Nat} (hat : at_ ≤ 1000000000) : ∀ (n i : Nat), i ≤ fillN at_ → fillN at_ < n + i → overspillref23_Rowu0 k n (at_ : Int) (chs (noughts i)) = some (chs (noughts (fillN at_)))
  | 0, i, h1, h2 => by omega
  | n + 1, i, h1, h2 => by
    have hf : fillN at_ < 8 := by unfold fillN; omega
    have e1 : wr .i64 ((at_ : Int) + (((chs (noughts i)).length : Nat) : Int)) = ((at_ + i : Nat) : Int) := by
      rw [chs_length, List.length_replicate, wr, wrap64 (by omega) (by omega)]; simp
    have e2 : Int.tmod ((at_ + i : Nat) : Int) 8 = (((at_ + i) % 8 : Nat) : Int) := rfl
    simp only [overspillref23_Rowu0, e1, e2]
    by_cases h : i < fillN at_
    · have hm : decide ((((at_ + i) % 8 : Nat) : Int) = 0) = false := by
        unfold fillN at h
        simp <;> omega
      have ih := ref23_fill_loop k hat n (i + 1) h (by omega)
      have e3 : chs (noughts i) ++ ([48] : List UInt8) = chs (noughts (i + 1)) := by
        unfold noughts
        rw [List.replicate_succ', chs_append]; rfl
      have hmx : decide ((chs (noughts i)).length + 1 ≤ strMax) = true := mx_add (by rw [chs_length, List.length_replicate]; omega)
      simp only [hm, Bool.not_false, cond_true, hmx, e3, ih, Option.bind_some]
    · have : i = fillN at_ := by omega
      subst this
      have hm : decide ((((at_ + fillN at_) % 8 : Nat) : Int) = 0) = true := by
        unfold fillN
        simp <;> omega
      simp only [hm, Bool.not_true, cond_false]
theorem ref23_Row_spec {k : Nat} (hk : 300 < k) {i at_ : Nat} (h2 : i ≤ 17) {a b : Int} (ha : 0 ≤ a ∧ a ≤ 3) (hb : 1 ≤ b ∧ b ≤ 31) (hat : at_ ≤ 1000000000) : overspillref23_Row k (at_ : Int) (i : Int) a b = some (chs (wHeadR at_ i a b)) := by
  have h0 := ref23_fill_loop k hat k 0 (by omega) (by unfold fillN; omega)
  have h0' : overspillref23_Rowu0 k k (at_ : Int) ([] : List UInt8) = _ := h0
  have h4 := ref04_spec (k := k) (by omega) (m := i) (by omega)
  have r2 : overspillref02_Row k a 2 = some (chs (bitsN 2 a.toNat)) := by
    have h : overspillref02_Row k ((a.toNat : Nat) : Int) 2 = _ := ref02_Row_spec (k := k) (m := 2) (v := a.toNat) (by decide) (by omega) (by omega)
    rw [show ((a.toNat : Nat) : Int) = a by omega] at h
    exact h
  have r5 : overspillref02_Row k b 5 = some (chs (bitsN 5 b.toNat)) := by
    have h : overspillref02_Row k ((b.toNat : Nat) : Int) 5 = _ := ref02_Row_spec (k := k) (m := 5) (v := b.toNat) (by decide) (by omega) (by omega)
    rw [show ((b.toNat : Nat) : Int) = b by omega] at h
    exact h
  have hfl : fillN at_ < 8 := by unfold fillN; omega
  have mx : ∀ (A B : List UInt8), A.length ≤ 1000 → B.length ≤ 1000 → decide (A.length + B.length ≤ strMax) = true := fun A B h1 h2 => mx_add (by omega)
  have ln : ∀ n v, (chs (bitsN n v)).length = n := fun n v => by rw [chs_length, bitsN_length]
  have lf : (chs (noughts (fillN at_))).length = fillN at_ := by rw [chs_length, List.length_replicate]
  simp only [overspillref23_Row, h0', h4, r2, r5, Option.bind_some]
  rw [mx _ _ (by rw [lf]; omega) (by rw [ln]; omega)]; simp only [cond_true]
  rw [mx _ _ (by simp only [List.length_append, ln, lf]; omega) (by rw [ln]; omega)]; simp only [cond_true]
  rw [mx _ _ (by simp only [List.length_append, ln, lf]; omega) (by rw [ln]; omega)]
  simp only [cond_true, ← chs_append, wHeadR, wMark, List.append_assoc]
end Go.Proofs.YtlmajdbchmnhdaaGreatDoor
