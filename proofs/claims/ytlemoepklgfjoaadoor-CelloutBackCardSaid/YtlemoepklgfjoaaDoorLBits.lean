/-
  What the reader of bits tells, as a function of the bits.
-/
import Derived.Test.YtlemoepklgfjoaaDoorOut
import Derived.Test.YtlemoepklgfjoaaDoorM5
set_option maxRecDepth 100000
namespace Go.Proofs.YtlemoepklgfjoaaDoor
open Go Go.Av

/-- A reader of s that stands at a bit. -/
abbrev Rd (s : List UInt8) (at_ : Nat) : DReader := (s, ((at_ : Int), ()))
/-- The bits from a place on. -/
abbrev bitsFrom (s : List UInt8) (at_ : Nat) : List Bool := (bitsOf s).drop at_

theorem bitsFrom_length (s : List UInt8) (a : Nat) : (bitsFrom s a).length = 8 * s.length - a := by simp [bitsOf_length]

/-- A text that is short enough for all numbers to fit. -/
def Small (s : List UInt8) : Prop := s.length ≤ 1000000000

theorem Peek_loop (k : Nat) {s : List UInt8} (hs : Small s) {a m : Nat} (hm : m ≤ 32) (ha : a + m ≤ 8 * s.length) : ∀ (n i : Nat) (v : Nat), i ≤ m → m < n + i → v < 2 ^ i →
    inbits_Reader_Peeku1 k n (v : Int) (m : Int) (i : Int) (Rd s a) = some (((numA v ((bitsFrom s (a + i)).take (m - i)) : Nat) : Int), Rd s a)
  | 0, i, v, h1, h2, hv => by omega
  | n + 1, i, v, h1, h2, hv => by
    simp only [inbits_Reader_Peeku1]
    unfold Small at hs
    by_cases h : i < m
    · have hlt : a + i < 8 * s.length := by omega
      have e1 : wr .i64 ((a : Int) + (i : Int)) = ((a + i : Nat) : Int) := by rw [wr, wrap64 (by omega) (by omega)]; simp
      have e2 : wr .i64 (Int.tdiv ((a + i : Nat) : Int) 8) = (((a + i) / 8 : Nat) : Int) := by
        rw [show Int.tdiv ((a + i : Nat) : Int) 8 = (((a + i) / 8 : Nat) : Int) from rfl, wr, wrap64 (by omega) (by omega)]
      have e3 : Int.tmod ((a + i : Nat) : Int) 8 = (((a + i) % 8 : Nat) : Int) := rfl
      have e4 : wr .u64 (wr .i64 (7 - (((a + i) % 8 : Nat) : Int))) = ((7 - (a + i) % 8 : Nat) : Int) := by
        have : (7 : Int) - (((a + i) % 8 : Nat) : Int) = ((7 - (a + i) % 8 : Nat) : Int) := by omega
        rw [this, wr, wr, wrap64 (by omega) (by omega), wrapU64 (by omega) (by omega)]
      have hb : s.getD ((a + i) / 8) 0 = s.getD ((a + i) / 8) 0 := rfl
      have e5 := byte_bit (s.getD ((a + i) / 8) 0).toNat (u8_lt _) (7 - (a + i) % 8) (by omega)
      have hv2 : v < 4294967296 := Nat.lt_of_lt_of_le hv (Nat.pow_le_pow_right (n := 2) (i := i) (j := 32) (by decide) (by omega))
      have e6 : shlI .i64 (v : Int) 1 = ((v * 2 : Nat) : Int) := by
        have := shlI_nat (a := v) (n := 1) (by decide) (by omega)
        simpa using this
      simp only [show decide ((i : Int) < (m : Int)) = true by simp <;> omega, cond_true, e1, e2, e3, e4, Int.toNat_natCast, inR_nat, show decide ((a + i) / 8 < s.length) = true by simp <;> omega,
        show decide (((7 - (a + i) % 8 : Nat) : Int) < 0) = false by simp <;> omega, cond_false]
      rw [wr, e5, e6]
      generalize hbb : (s.getD ((a + i) / 8) 0).toNat.testBit (7 - (a + i) % 8) = b
      rw [bitop_or (by omega) (by cases b <;> decide), Nat.mul_comm v 2, or_bit b, wr, wrap64 (by omega) (by omega), show (i : Int) + 1 = ((i + 1 : Nat) : Int) by omega]
      have hv3 : 2 * v + b.toNat < 2 ^ (i + 1) := by
        have : b.toNat ≤ 1 := by cases b <;> decide
        rw [Nat.pow_succ]; omega
      have h3 := Peek_loop k hs hm ha n (i + 1) (2 * v + b.toNat) h (by omega) hv3
      simp only [Rd] at h3 ⊢
      rw [h3]
      have hg := bitsOf_get s (a + i) hlt
      rw [hbb] at hg
      have hlen : a + i < (bitsOf s).length := by rw [bitsOf_length]; exact hlt
      have hd : bitsFrom s (a + i) = b :: bitsFrom s (a + i + 1) := by
        rw [List.getElem?_eq_getElem hlen, Option.some.injEq] at hg
        simp only [bitsFrom]
        rw [List.drop_eq_getElem_cons hlen, hg]
      rw [hd, show m - i = (m - (i + 1)) + 1 by omega, List.take_succ_cons]
      rfl
    · have : i = m := by omega
      subst this
      simp [numA]

theorem Peek_spec {k : Nat} {s : List UInt8} (hs : Small s) {a m : Nat} (hm : m ≤ 32) (ha : a ≤ 8 * s.length) (hk : 32 < k) :
    inbits_Reader_Peek k (m : Int) (Rd s a) = some (if m ≤ (bitsFrom s a).length then ((((numB ((bitsFrom s a).take m) : Nat) : Int), ((0 : Int), ())), Rd s a) else (((0 : Int), ((2 : Int), ())), Rd s a)) := by
  have hs' := hs
  unfold Small at hs'
  simp only [inbits_Reader_Peek, inbits_Reader_Peeku0]
  have e1 : wr .i64 (wr .i64 (8 * ((s.length : Nat) : Int)) - (a : Int)) = ((8 * s.length - a : Nat) : Int) := by
    have : (8 : Int) * ((s.length : Nat) : Int) - (a : Int) = ((8 * s.length - a : Nat) : Int) := by omega
    rw [wr, wr, wrap64 (x := 8 * ((s.length : Nat) : Int)) (by omega) (by omega), this, wrap64 (by omega) (by omega)]
  simp only [show decide ((m : Int) < 0) = false by simp <;> omega, show decide ((32 : Int) < (m : Int)) = false by simp <;> omega, cond_false, Option.bind_some, e1, bitsFrom_length]
  by_cases h : m ≤ 8 * s.length - a
  · have := Peek_loop k hs hm (a := a) (by omega) k 0 0 (by omega) (by omega) (by decide)
    rw [cast0] at this
    simp only [Rd] at this ⊢
    rw [this, if_pos h, show decide (((8 * s.length - a : Nat) : Int) < (m : Int)) = false by simp <;> omega]
    simp [numB]
  · rw [if_neg h, show decide (((8 * s.length - a : Nat) : Int) < (m : Int)) = true by simp <;> omega]
    rfl

theorem Take_spec {k : Nat} {s : List UInt8} (hs : Small s) {a m : Nat} (hm : m ≤ 32) (ha : a ≤ 8 * s.length) (hk : 32 < k) :
    inbits_Reader_Take k (m : Int) (Rd s a) = some (if m ≤ (bitsFrom s a).length then ((((numB ((bitsFrom s a).take m) : Nat) : Int), ((0 : Int), ())), Rd s (a + m)) else (((0 : Int), ((2 : Int), ())), Rd s a)) := by
  have hs' := hs
  unfold Small at hs'
  simp only [inbits_Reader_Take, Peek_spec hs hm ha hk, Option.bind_some]
  by_cases h : m ≤ (bitsFrom s a).length
  · rw [if_pos h, if_pos h]
    rw [bitsFrom_length] at h
    have e : wr .i64 ((a : Int) + (m : Int)) = ((a + m : Nat) : Int) := by rw [wr, wrap64 (by omega) (by omega)]; simp
    simp only [decide_true, cond_true, e]
  · rw [if_neg h, if_neg h]
    rfl

/-- One bit. -/
theorem Take1 {k : Nat} {s : List UInt8} (hs : Small s) {a : Nat} (ha : a ≤ 8 * s.length) (hk : 32 < k) :
    inbits_Reader_Take k 1 (Rd s a) = some (match bitsFrom s a with | b :: _ => ((((b.toNat : Nat) : Int), ((0 : Int), ())), Rd s (a + 1)) | [] => (((0 : Int), ((2 : Int), ())), Rd s a)) := by
  have h := Take_spec hs (m := 1) (by decide) ha hk
  rw [show ((1 : Nat) : Int) = 1 from rfl] at h
  rw [h]
  cases hb : bitsFrom s a with
  | nil => rfl
  | cons b r => simp [numB, numA]

theorem bitsFrom_cons {s : List UInt8} {a : Nat} {b : Bool} {r : List Bool} (h : bitsFrom s a = b :: r) : bitsFrom s (a + 1) = r ∧ a + 1 ≤ 8 * s.length := by
  constructor
  · have : bitsFrom s (a + 1) = (bitsFrom s a).drop 1 := by simp [bitsFrom, List.drop_drop]
    rw [this, h]; rfl
  · have := congrArg List.length h
    rw [bitsFrom_length] at this
    simp at this; omega
theorem bitsFrom_add (s : List UInt8) (a n : Nat) : bitsFrom s (a + n) = (bitsFrom s a).drop n := by simp [bitsFrom, List.drop_drop]

theorem Seek_spec {k : Nat} {s : List UInt8} (hs : Small s) {a b : Nat} (hb : b ≤ 8 * s.length) : inbits_Reader_Seek k (b : Int) (Rd s a) = some (0, Rd s b) := by
  unfold Small at hs
  simp only [inbits_Reader_Seek]
  have e1 : wr .i64 (8 * ((s.length : Nat) : Int)) = ((8 * s.length : Nat) : Int) := by
    rw [wr, wrap64 (by omega) (by omega)]; simp
  simp only [show decide ((b : Int) < 0) = false by simp <;> omega, cond_false, e1, show decide (((8 * s.length : Nat) : Int) < (b : Int)) = false by simp <;> omega]

theorem Seek_any {k : Nat} {s : List UInt8} (hs : Small s) (x : Int) (r : DReader) (hr : r.1 = s) : inbits_Reader_Seek k x r = some (if 0 ≤ x ∧ x ≤ ((8 * s.length : Nat) : Int) then (0, (s, (x, r.2.2))) else (1, r)) := by
  unfold Small at hs
  obtain ⟨s', a, u⟩ := r
  simp only at hr
  subst hr
  simp only [inbits_Reader_Seek]
  have e1 : wr .i64 (8 * ((s'.length : Nat) : Int)) = ((8 * s'.length : Nat) : Int) := by
    rw [wr, wrap64 (by omega) (by omega)]; simp
  rw [e1]
  by_cases h1 : x < 0
  · rw [if_neg (by omega), show decide (x < 0) = true by simp [h1]]; rfl
  · rw [show decide (x < 0) = false by simp [h1]]
    by_cases h2 : ((8 * s'.length : Nat) : Int) < x
    · rw [if_neg (by omega), show decide (((8 * s'.length : Nat) : Int) < x) = true by simp only [h2, decide_true]]; rfl
    · rw [if_pos (by omega), show decide (((8 * s'.length : Nat) : Int) < x) = false by simp only [h2, decide_false]]; rfl
end Go.Proofs.YtlemoepklgfjoaaDoor
