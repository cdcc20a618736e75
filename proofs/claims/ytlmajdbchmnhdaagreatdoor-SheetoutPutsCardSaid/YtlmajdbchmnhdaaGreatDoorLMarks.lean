/-
  Marks: the bits that are written.
-/
import Derived.Test.YtlmajdbchmnhdaaGreatDoorLRowsRef
set_option maxRecDepth 100000
namespace Go.Proofs.YtlmajdbchmnhdaaGreatDoor
open Go Go.Av

/-! ### Marks as bits -/
def fillN (at_ : Nat) : Nat := (8 - at_ % 8) % 8
abbrev noughts (n : Nat) : List Bool := List.replicate n false
theorem Fill_spec (k : Nat) {B : List Bool} (hB : B.length ≤ 4000000000) : outbits_Writer_Fill k ((B.length : Nat) : Int) (pk B) = some (((fillN B.length : Nat) : Int), Wr (B ++ noughts (fillN B.length))) := by
  have e0 : Int.tmod ((B.length : Nat) : Int) 8 = ((B.length % 8 : Nat) : Int) := rfl
  have e1 : wr .i64 (8 - ((B.length % 8 : Nat) : Int)) = ((8 - B.length % 8 : Nat) : Int) := by rw [wr, wrap64 (by omega) (by omega)]; omega
  have e2 : Int.tmod ((8 - B.length % 8 : Nat) : Int) 8 = ((fillN B.length : Nat) : Int) := rfl
  have hf : fillN B.length < 8 := by unfold fillN; omega
  have e3 : wr .i64 (((B.length : Nat) : Int) + ((fillN B.length : Nat) : Int)) = (((B ++ noughts (fillN B.length)).length : Nat) : Int) := by
    rw [List.length_append, List.length_replicate, wr, wrap64 (by omega) (by omega)]; simp
  have e4 : pk (B ++ noughts (fillN B.length)) = pk B := pk_fill B (fillN B.length) (by unfold fillN; omega)
  simp only [outbits_Writer_Fill, e0, e1, e2, e3]
  simp only [Wr, e4]
theorem or32 {m : Nat} (h : m < 32) : (32 ||| m) = 32 + m := by
  have h1 := Nat.two_pow_add_eq_or_of_lt (i := 5) (b := m) (by omega) 1
  rw [show (2 : Nat) ^ 5 * 1 = 32 from rfl] at h1
  exact h1.symm
noncomputable def wMark (at_ m : Nat) : List Bool := noughts (fillN at_) ++ bitsN 22 (32 + m)
theorem wMark_len (at_ m : Nat) : (wMark at_ m).length ≤ 29 := by
  unfold wMark
  rw [List.length_append, List.length_replicate, bitsN_length]
  unfold fillN; omega
theorem or32I {m : Nat} (hm : m < 32) : bitop .or .i64 32 (m : Int) = ((32 + m : Nat) : Int) := by
  have h := bitop_or (a := 32) (b := m) (by omega) (by omega)
  rw [or32 hm] at h
  exact h
theorem marks_u0 (k : Nat) {m : Nat} (hm : m < 32) (B : List Bool) : marks_Putu0 k (m : Int) ((B.length : Nat) : Int) (pk B) = some (false, Wr B) := by
  simp only [marks_Putu0, show decide ((m : Int) < 0) = false by simp, show decide ((31 : Int) < (m : Int)) = false by simp <;> omega, cond_false]
theorem put22 {k : Nat} (hk : 32 < k) {C : List Bool} {v : Nat} (hv : v < 2 ^ 22) (hC : C.length ≤ 4000000000) : outbits_Writer_Put k (v : Int) 22 ((C.length : Nat) : Int) (pk C) = some (0, Wr (C ++ bitsN 22 v)) := Put_spec (k := k) (B := C) (v := v) (n := 22) (by omega) hv hk (by omega)
theorem Mark_1 {k : Nat} {B : List Bool} {m : Nat} (hm : m < 32) (hB : B.length ≤ 2000000000) : marks_Put k (m : Int) ((B.length : Nat) : Int) (pk B) = Option.bind (outbits_Writer_Put k (bitop .or .i64 32 (m : Int)) 22 (((B ++ noughts (fillN B.length)).length : Nat) : Int) (pk (B ++ noughts (fillN B.length)))) fun v => some (v.1, (((), (v.2.1.2.1, ())), v.2.2)) := by
  simp only [marks_Put, marks_u0 k hm B, Option.bind_some, cond_false, Fill_spec k (show B.length ≤ 4000000000 by omega)]
theorem Mark_2 {k : Nat} (hk : 32 < k) {B : List Bool} {m : Nat} (hm : m < 32) (hB : B.length ≤ 2000000000) : outbits_Writer_Put k ((32 + m : Nat) : Int) 22 (((B ++ noughts (fillN B.length)).length : Nat) : Int) (pk (B ++ noughts (fillN B.length))) = some (0, Wr ((B ++ noughts (fillN B.length)) ++ bitsN 22 (32 + m))) := by
  have hf : fillN B.length < 8 := by unfold fillN; omega
  exact put22 hk (C := B ++ noughts (fillN B.length)) (v := 32 + m) (by omega) (by rw [List.length_append, List.length_replicate]; omega)
theorem Mark_3 {k : Nat} (hk : 32 < k) {B : List Bool} {m : Nat} (hm : m < 32) (hB : B.length ≤ 2000000000) : marks_Put k (m : Int) ((B.length : Nat) : Int) (pk B) = some (0, Wr ((B ++ noughts (fillN B.length)) ++ bitsN 22 (32 + m))) := by
  rw [Mark_1 hm hB, or32I hm, Mark_2 hk hm hB]; rfl
theorem Mark_spec {k : Nat} (hk : 32 < k) {B : List Bool} {m : Nat} (hm : m < 32) (hB : B.length ≤ 2000000000) : marks_Put k (m : Int) ((B.length : Nat) : Int) (pk B) = some (0, Wr (B ++ wMark B.length m)) := by
  rw [Mark_3 hk hm hB, List.append_assoc]; rfl
theorem ref04_spec {k : Nat} (hk : 32 < k) {m : Nat} (hm : m < 32) : overspillref04_Row k (m : Int) = some (chs (bitsN 22 (32 + m))) := by
  have r5 : overspillref02_Row k (m : Int) 5 = _ := ref02_Row_spec (k := k) (m := 5) (v := m) (by decide) (by omega) (by omega)
  have hmx : decide (17 + (chs (bitsN 5 m)).length ≤ strMax) = true := mx_add (by rw [chs_length, bitsN_length]; omega)
  have e : chs (bitsN 22 (32 + m)) = ([48, 48, 48, 48, 48, 48, 48, 48, 48, 48, 48, 48, 48, 48, 48, 48, 49] : List UInt8) ++ chs (bitsN 5 m) := by
    have h : ∀ m : Fin 32, chs (bitsN 22 (32 + m.val)) = ([48, 48, 48, 48, 48, 48, 48, 48, 48, 48, 48, 48, 48, 48, 48, 48, 49] : List UInt8) ++ chs (bitsN 5 m.val) := by decide +kernel
    exact h ⟨m, hm⟩
  simp only [overspillref04_Row, r5, Option.bind_some, hmx, cond_true, e]
theorem ref_fill_loop (k : Nat) {at_ : Nat} (hat : at_ ≤ 1000000000) : ∀ (n i : Nat), i ≤ fillN at_ → fillN at_ < n + i → overspillref24_Rowu0 k n (at_ : Int) (chs (noughts i)) = some (chs (noughts (fillN at_)))
  | 0, i, h1, h2 => by omega
  | n + 1, i, h1, h2 => by
    have hf : fillN at_ < 8 := by unfold fillN; omega
    have e1 : wr .i64 ((at_ : Int) + (((chs (noughts i)).length : Nat) : Int)) = ((at_ + i : Nat) : Int) := by
      rw [chs_length, List.length_replicate, wr, wrap64 (by omega) (by omega)]; simp
    have e2 : Int.tmod ((at_ + i : Nat) : Int) 8 = (((at_ + i) % 8 : Nat) : Int) := rfl
    simp only [overspillref24_Rowu0, e1, e2]
    by_cases h : i < fillN at_
    · have hm : decide ((((at_ + i) % 8 : Nat) : Int) = 0) = false := by
        unfold fillN at h
        simp <;> omega
      have ih := ref_fill_loop k hat n (i + 1) h (by omega)
      have e3 : chs (noughts i) ++ ([48] : List UInt8) = chs (noughts (i + 1)) := by
        unfold noughts
        rw [List.replicate_succ', chs_append]; rfl
      have hmx : decide ((chs (noughts i)).length + 1 ≤ strMax) = true := mx_add (by rw [chs_length, List.length_replicate]; omega)
      simp only [hm, Bool.not_false, cond_true, hmx, e3, ih, Option.bind_some]
    · have : i = fillN at_ := by omega
      subst this
      have hm : decide ((((at_ + fillN at_) % 8 : Nat) : Int) = 0) = true := by
        unfold fillN
        simp <;> omega
      simp only [hm, Bool.not_true, cond_false]
end Go.Proofs.YtlmajdbchmnhdaaGreatDoor
