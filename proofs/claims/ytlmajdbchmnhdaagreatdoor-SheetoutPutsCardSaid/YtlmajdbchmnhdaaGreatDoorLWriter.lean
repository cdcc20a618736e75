/-
  The program's writer of bits: what it holds is the bits that were written.
-/
import Derived.Test.YtlmajdbchmnhdaaGreatDoorOut
import Derived.Test.YtlmajdbchmnhdaaGreatDoorM5
set_option maxRecDepth 100000
namespace Go.Proofs.YtlmajdbchmnhdaaGreatDoor
open Go Go.Av

/-- The writer that holds these bits, as the calls hand it on. -/
abbrev WrT : Type := (Unit) × (((Unit) × ((Int) × (Unit))) × (List (Int)))
abbrev Wr (B : List Bool) : ((Unit) × ((Int) × (Unit))) × (List (Int)) := (((), (((B.length : Nat) : Int), ())), pk B)

theorem orU8 {a r : Nat} (ha : a < 2 ^ r) (hr : r < 8) : bitop .or .u8 ((a * 2 ^ (8 - r) : Nat) : Int) (shlI .u8 1 ((7 - r : Nat) : Int)) = (((2 * a + 1) * 2 ^ (7 - r) : Nat) : Int) := by
  have h : ∀ r : Fin 8, ∀ a : Fin (2 ^ r.val), bitop .or .u8 ((a.val * 2 ^ (8 - r.val) : Nat) : Int) (shlI .u8 1 ((7 - r.val : Nat) : Int)) = (((2 * a.val + 1) * 2 ^ (7 - r.val) : Nat) : Int) := by decide +kernel
  exact h ⟨r, hr⟩ ⟨a, ha⟩

theorem numA_zeros (v n : Nat) : numA v (List.replicate n false) = v * 2 ^ n := by
  rw [numA_eq]
  have : numB (List.replicate n false) = 0 := by
    induction n with
    | zero => rfl
    | succ n ih =>
      rw [List.replicate_succ]
      simp only [numB, numA] at ih ⊢
      exact ih
  simp [this]
theorem num_last {L : List Bool} (h : L.length < 8) (b : Bool) : numB (pad8 (L ++ [b])) = (2 * numB L + b.toNat) * 2 ^ (7 - L.length) := by
  rw [pad8_snoc b ⟨by omega, h⟩, show L ++ b :: List.replicate (7 - L.length) false = (L ++ [b]) ++ List.replicate (7 - L.length) false by simp]
  simp only [numB, numA_append, numA_zeros, numA]
theorem num_part {L : List Bool} (h : L.length < 8) : numB (pad8 L) = numB L * 2 ^ (8 - L.length) := by
  rw [pad8_short (by omega)]
  simp only [numB, numA_append, numA_zeros]

theorem bit_spec_w {k : Nat} {B : List Bool} (hB : B.length ≤ 8000000000) (b : Bool) : outbits_Writer_bit k b ((B.length : Nat) : Int) (pk B) = some ((), Wr (B ++ [b])) := by
  have e1 : Int.tmod ((B.length : Nat) : Int) 8 = ((B.length % 8 : Nat) : Int) := rfl
  have e2 : wr .i64 (Int.tdiv ((B.length : Nat) : Int) 8) = ((B.length / 8 : Nat) : Int) := by
    rw [show Int.tdiv ((B.length : Nat) : Int) 8 = ((B.length / 8 : Nat) : Int) from rfl, wr, wrap64 (by omega) (by omega)]
  have e3 : wr .u64 (wr .i64 (7 - ((B.length % 8 : Nat) : Int))) = ((7 - B.length % 8 : Nat) : Int) := by
    rw [wr, wr, wrap64 (by omega) (by omega), wrapU64 (by omega) (by omega)]; omega
  have hpl := pk_length B
  -- the bytes, with a new one where one is wanted
  obtain ⟨X, hX⟩ : ∃ X, X = (if B.length % 8 = 0 then pk B ++ [0] else pk B) := ⟨_, rfl⟩
  have hXl : X.length = B.length / 8 + 1 := by
    rw [hX]
    split
    · rw [List.length_append, hpl]; simp; omega
    · rw [hpl]; omega
  have hu0 : outbits_Writer_bitu0 k (decide (((B.length % 8 : Nat) : Int) = 0)) ((B.length : Nat) : Int) (pk B) = some ((), (((), (((B.length : Nat) : Int), ())), X)) := by
    rw [hX]
    by_cases h : B.length % 8 = 0
    · rw [if_pos h, h]
      have : decide ((pk B).length + 1 ≤ rowMax) = true := by rw [hpl]; simp [rowMax]; omega
      simp only [outbits_Writer_bitu0, this]
      rfl
    · rw [if_neg h, show decide (((B.length % 8 : Nat) : Int) = 0) = false by simp <;> omega]
      rfl
  -- what stands in it
  have hXj : ∀ j, j < B.length / 8 → X[j]? = some ((numB (pad8 (B.drop (8 * j))) : Nat) : Int) := fun j hj => by
    rw [hX]
    have hg : (pk B)[j]? = some ((numB (pad8 (B.drop (8 * j))) : Nat) : Int) := pkN_get _ _ _ (by omega)
    split
    · rw [List.getElem?_append_left (by rw [hpl]; omega)]; exact hg
    · exact hg
  have hr : (B.drop (8 * (B.length / 8))).length = B.length % 8 := by rw [List.length_drop]; omega
  have hXlast : X[B.length / 8]? = some ((numB (B.drop (8 * (B.length / 8))) * 2 ^ (8 - B.length % 8) : Nat) : Int) := by
    rw [hX]
    split
    · rename_i h
      rw [List.getElem?_append_right (by rw [hpl]; omega), hpl]
      have : B.drop (8 * (B.length / 8)) = [] := List.drop_eq_nil_of_le (by omega)
      rw [this, show B.length / 8 - (B.length + 7) / 8 = 0 by omega]
      simp [numB, numA]
    · rename_i h
      have hg : (pk B)[B.length / 8]? = some ((numB (pad8 (B.drop (8 * (B.length / 8)))) : Nat) : Int) := pkN_get _ _ _ (by omega)
      rw [hg, num_part (by rw [hr]; omega), hr]
  have hres : pk (B ++ [b]) = bif b then X.set (B.length / 8) (bitop .or .u8 (X.getD (B.length / 8) 0) (shlI .u8 1 ((7 - B.length % 8 : Nat) : Int))) else X := by
    have hl2 : ((B ++ [b]).length + 7) / 8 = B.length / 8 + 1 := by simp; omega
    apply List.ext_getElem?
    intro j
    by_cases hj : j < B.length / 8
    · have h1 : (pk (B ++ [b]))[j]? = some ((numB (pad8 ((B ++ [b]).drop (8 * j))) : Nat) : Int) := pkN_get _ _ _ (by omega)
      have h2 : pad8 ((B ++ [b]).drop (8 * j)) = pad8 (B.drop (8 * j)) := by
        rw [List.drop_append_of_le_length (by omega), pad8_far _ (by rw [List.length_drop]; omega)]
      rw [h1, h2]
      cases b with
      | false => exact (hXj j hj).symm
      | true => simp only [cond_true]; rw [List.getElem?_set_ne (by omega)]; exact (hXj j hj).symm
    · by_cases hj2 : j = B.length / 8
      · subst hj2
        have h1 : (pk (B ++ [b]))[B.length / 8]? = some ((numB (pad8 ((B ++ [b]).drop (8 * (B.length / 8)))) : Nat) : Int) := pkN_get _ _ _ (by omega)
        have h2 : (B ++ [b]).drop (8 * (B.length / 8)) = B.drop (8 * (B.length / 8)) ++ [b] := List.drop_append_of_le_length (by omega)
        rw [h1, h2, num_last (by rw [hr]; omega), hr]
        cases b with
        | false =>
          simp only [cond_false, hXlast, Bool.toNat_false, Nat.add_zero]
          congr 2
          rw [show 8 - B.length % 8 = (7 - B.length % 8) + 1 by omega, Nat.pow_succ, Nat.mul_comm 2, Nat.mul_assoc, Nat.mul_comm 2]
        | true =>
          simp only [cond_true, Bool.toNat_true]
          have hg : X.getD (B.length / 8) 0 = ((numB (B.drop (8 * (B.length / 8))) * 2 ^ (8 - B.length % 8) : Nat) : Int) := by
            rw [List.getD_eq_getElem?_getD, hXlast]; rfl
          rw [List.getElem?_set_self (by omega), hg, orU8 (by have := numB_lt (B.drop (8 * (B.length / 8))); rwa [hr] at this) (by omega)]
      · have h1 : (pk (B ++ [b]))[j]? = none := List.getElem?_eq_none (by rw [pk_length]; omega)
        rw [h1]
        cases b with
        | false => simp only [cond_false]; exact (List.getElem?_eq_none (by omega)).symm
        | true => simp only [cond_true]; exact (List.getElem?_eq_none (by rw [List.length_set]; omega)).symm
  have hu1 : outbits_Writer_bitu1 k b ((B.length : Nat) : Int) X = some ((), (((), (((B.length : Nat) : Int), ())), pk (B ++ [b]))) := by
    rw [hres]
    simp only [outbits_Writer_bitu1, e1, e2, e3]
    cases b with
    | false => rfl
    | true =>
      have hin : inR ((B.length / 8 : Nat) : Int) X.length = true := by rw [inR_nat, hXl]; simp
      simp only [cond_true, hin, show decide (((7 - B.length % 8 : Nat) : Int) < 0) = false by simp <;> omega, cond_false, Int.toNat_natCast]
  simp only [outbits_Writer_bit, e1, hu0, Option.bind_some, hu1]
  rw [wr, wrap64 (by omega) (by omega)]
  simp [Wr]

/-! ### Rows -/
theorem plain_loop (k : Nat) {s : List UInt8} : ∀ (n i : Nat), i ≤ s.length → s.length < n + i → (∃ z, outbits_plainu0 k n s i = some (.inr ((), z)) ∧ isPlain (s.drop i) = true) ∨ (∃ z, outbits_plainu0 k n s i = some (.inl (false, z)) ∧ isPlain (s.drop i) = false)
  | 0, i, h1, h2 => by omega
  | n + 1, i, h1, h2 => by
    simp only [outbits_plainu0]
    by_cases h : i < s.length
    · have hd : s.drop i = s[i] :: s.drop (i + 1) := List.drop_eq_getElem_cons h
      rw [hd]
      simp only [show decide (i < s.length) = true by simp [h], cond_true]
      by_cases h48 : s[i] = 48
      · have hdec := decode_dig h (.inl h48)
        simp only [hdec]
        have e1 : ((s[i].toNat : Nat) : Int) = 48 := by rw [h48]; rfl
        simp only [e1, decide_true, Bool.not_true, cond_false]
        rcases plain_loop k n (i + 1) h (by omega) with ⟨z, h3, h4⟩ | ⟨z, h3, h4⟩
        · left; exact ⟨z, by rw [h3]; rfl, by simp only [isPlain, List.all_cons, h48, decide_true, Bool.true_or, Bool.true_and] at h4 ⊢; exact h4⟩
        · right; exact ⟨z, by rw [h3]; rfl, by simp only [isPlain, List.all_cons, h48, decide_true, Bool.true_or, Bool.true_and] at h4 ⊢; exact h4⟩
      · by_cases h49 : s[i] = 49
        · have hdec := decode_dig h (.inr h49)
          simp only [hdec]
          have e1 : ((s[i].toNat : Nat) : Int) = 49 := by rw [h49]; rfl
          have e2 : decide ((49 : Int) = 48) = false := rfl
          simp only [e1, e2, decide_true, decide_false, Bool.not_true, Bool.not_false, cond_true, cond_false]
          rcases plain_loop k n (i + 1) h (by omega) with ⟨z, h3, h4⟩ | ⟨z, h3, h4⟩
          · left; exact ⟨z, by rw [h3]; rfl, by simp only [isPlain, List.all_cons, h49, decide_true, Bool.or_true, Bool.true_and] at h4 ⊢; exact h4⟩
          · right; exact ⟨z, by rw [h3]; rfl, by simp only [isPlain, List.all_cons, h49, decide_true, Bool.or_true, Bool.true_and] at h4 ⊢; exact h4⟩
        · obtain ⟨h3, h4⟩ := decode_other h h48 h49
          right
          refine ⟨(s, i + (Utf8.decode ⟨s.toArray⟩ i).2), ?_, ?_⟩
          · simp only [show decide (((Utf8.decode ⟨s.toArray⟩ i).1 : Int) = 48) = false by simp <;> omega, show decide (((Utf8.decode ⟨s.toArray⟩ i).1 : Int) = 49) = false by simp <;> omega, Bool.not_false, cond_true]
          · simp only [isPlain, List.all_cons, h48, h49, decide_false, Bool.or_self, Bool.false_and]
    · have : i = s.length := by omega
      subst this
      left
      exact ⟨(s, s.length), by simp only [Nat.lt_irrefl, decide_false, cond_false], by simp [isPlain]⟩
theorem plain_spec {k : Nat} {s : List UInt8} (hk : s.length < k) : outbits_plain k s = some (isPlain s) := by
  simp only [outbits_plain]
  rcases plain_loop k (s := s) k 0 (by omega) (by omega) with ⟨z, h3, h4⟩ | ⟨z, h3, h4⟩
  · rw [h3]; rw [List.drop_zero] at h4; rw [h4]; rfl
  · rw [h3]; rw [List.drop_zero] at h4; rw [h4]; rfl

theorem Add_loop (k : Nat) {C : List Bool} : ∀ (n i : Nat) (B : List Bool), i ≤ C.length → C.length < n + i → B.length + C.length ≤ 8000000000 + i →
    ∃ z, outbits_Writer_Addu1 k n ((B.length : Nat) : Int) (chs C) i (pk B) = some ((), (((), ((((B ++ C.drop i).length : Nat) : Int), ())), (z, pk (B ++ C.drop i))))
  | 0, i, B, h1, h2, h3 => by omega
  | n + 1, i, B, h1, h2, h3 => by
    simp only [outbits_Writer_Addu1, chs_length]
    by_cases h : i < C.length
    · have hg : (chs C)[i]'(by rw [chs_length]; exact h) = chB C[i] := by simp [chs]
      have hdec := decode_dig (s := chs C) (i := i) (by rw [chs_length]; exact h) (by rw [hg]; cases C[i] <;> simp [chB])
      rw [hg] at hdec
      have e1 : decide (((chB C[i]).toNat : Int) = 49) = C[i] := by cases C[i] <;> decide
      obtain ⟨z, ih⟩ := Add_loop k n (i + 1) (B ++ [C[i]]) h (by omega) (by simp; omega)
      refine ⟨z, ?_⟩
      simp only [show decide (i < C.length) = true by simp [h], cond_true, hdec, e1, bit_spec_w (k := k) (B := B) (by omega), Option.bind_some]
      have ih' : outbits_Writer_Addu1 k n (Wr (B ++ [C[i]])).1.2.1 (chs C) (i + 1) (Wr (B ++ [C[i]])).2 = _ := ih
      rw [ih', List.drop_eq_getElem_cons h, List.append_assoc]
      rfl
    · have : i = C.length := by omega
      subst this
      exact ⟨(chs C, C.length), by simp⟩
/-- A row is written behind what is there. -/
theorem Add_spec {k : Nat} {B C : List Bool} (hk : C.length < k) (hB : B.length + C.length ≤ 8000000000) : outbits_Writer_Add k (chs C) ((B.length : Nat) : Int) (pk B) = some (0, Wr (B ++ C)) := by
  obtain ⟨z, h⟩ := Add_loop k (C := C) k 0 B (by omega) (by omega) (by omega)
  rw [List.drop_zero] at h
  simp only [outbits_Writer_Add, outbits_Writer_Addu0, plain_spec (k := k) (s := chs C) (by rw [chs_length]; exact hk), isPlain_chs, Option.bind_some, Bool.not_true, cond_false, h]
theorem Add_bad {k : Nat} {B : List Bool} {s : List UInt8} (hk : s.length < k) (hp : isPlain s = false) : outbits_Writer_Add k s ((B.length : Nat) : Int) (pk B) = some (1, Wr B) := by
  simp only [outbits_Writer_Add, outbits_Writer_Addu0, plain_spec hk, hp, Option.bind_some, Bool.not_false, cond_true]

/-! ### Numbers -/
theorem fits_spec (k : Nat) {v n : Nat} (hn : n ≤ 32) : outbits_fits k (v : Int) (n : Int) = some (decide (v < 2 ^ n)) := by
  have e1 : wr .u64 (n : Int) = (n : Int) := by rw [wr, wrapU64 (by omega) (by omega)]
  have hp : 2 ^ n ≤ 2 ^ 32 := Nat.pow_le_pow_right (by decide) hn
  have e2 : shlI .i64 1 (n : Int) = ((2 ^ n : Nat) : Int) := by
    have := shlI_nat (a := 1) (n := n) (by omega) (by omega)
    rw [Nat.one_mul] at this
    exact this
  simp only [outbits_fits, e1, e2, show decide ((0 : Int) ≤ (n : Int)) = true by simp, show decide ((n : Int) ≤ 32) = true by simp <;> omega, show decide ((0 : Int) ≤ (v : Int)) = true by simp, show decide ((n : Int) < 0) = false by simp, cond_true, cond_false]
  congr 1
  rw [decide_eq_decide]; exact Int.ofNat_lt
theorem num_bit {v : Nat} (hv : v < 4294967296) (m : Nat) (hm : m < 32) : decide (bitop .and .i64 (shrI .i64 (v : Int) (wr .u64 (m : Int))) 1 = 1) = v.testBit m := by
  have e1 : wr .u64 (m : Int) = (m : Int) := by rw [wr, wrapU64 (by omega) (by omega)]
  have h1 := shrI_nat (a := v) (n := m) (by omega)
  have h2 : bitop .and .i64 ((v / 2 ^ m : Nat) : Int) 1 = _ := bitop_and (a := v / 2 ^ m) (b := 1) (by have := Nat.div_le_self v (2 ^ m); omega) (by decide)
  rw [e1, h1, h2, and_one, testBit_div, decide_eq_decide]
  omega
theorem Put_loop (k : Nat) {v : Nat} (hv : v < 4294967296) : ∀ (m n : Nat) (B : List Bool), m ≤ 32 → m < n → B.length + m ≤ 8000000000 →
    outbits_Writer_Putu1 k n (v : Int) ((m : Int) - 1) ((B.length : Nat) : Int) (pk B) = some ((), Wr (B ++ bitsN m v))
  | 0, 0, B, h1, h2, h3 => by omega
  | 0, n + 1, B, h1, h2, h3 => by
    have : decide ((0 : Int) ≤ ((0 : Nat) : Int) - 1) = false := by decide
    simp only [outbits_Writer_Putu1, this, cond_false, bitsN, List.append_nil]
  | m + 1, 0, B, h1, h2, h3 => by omega
  | m + 1, n + 1, B, h1, h2, h3 => by
    have e1 : (((m + 1 : Nat) : Int) - 1) = (m : Int) := by omega
    have e2 : decide (wr .u64 (m : Int) < 0) = false := by rw [wr, wrapU64 (by omega) (by omega)]; simp
    have e3 : wr .i64 ((m : Int) - 1) = (m : Int) - 1 := by rw [wr, wrap64 (by omega) (by omega)]
    have ih := Put_loop k hv m n (B ++ [v.testBit m]) (by omega) (by omega) (by simp; omega)
    simp only [outbits_Writer_Putu1, e1, e2, e3, show decide ((0 : Int) ≤ (m : Int)) = true by simp, cond_true, cond_false, num_bit hv m (by omega), bit_spec_w (k := k) (B := B) (by omega), Option.bind_some, ih, bitsN]
    rw [List.append_assoc]; rfl
theorem Put_spec {k : Nat} {B : List Bool} {v n : Nat} (hn : n ≤ 32) (hv : v < 2 ^ n) (hk : 32 < k) (hB : B.length + n ≤ 8000000000) : outbits_Writer_Put k (v : Int) (n : Int) ((B.length : Nat) : Int) (pk B) = some (0, Wr (B ++ bitsN n v)) := by
  have hv2 : v < 4294967296 := Nat.lt_of_lt_of_le hv (Nat.pow_le_pow_right (n := 2) (i := n) (j := 32) (by decide) hn)
  have e3 : wr .i64 ((n : Int) - 1) = (n : Int) - 1 := by rw [wr, wrap64 (by omega) (by omega)]
  simp only [outbits_Writer_Put, outbits_Writer_Putu0, fits_spec k hn, hv, decide_true, Option.bind_some, Bool.not_true, cond_false, e3, Put_loop k hv2 n k B hn (by omega) hB]
theorem Row_loop (k : Nat) {v : Nat} (hv : v < 4294967296) : ∀ (m n : Nat) (C : List Bool), m ≤ 32 → m < n → C.length + m ≤ 1000 →
    outbits_Rowu0 k n (v : Int) ((m : Int) - 1) (C.map fun b => (((48 + b.toNat) : Nat) : Int)) = some ((), (C ++ bitsN m v).map fun b => (((48 + b.toNat) : Nat) : Int))
  | 0, 0, C, h1, h2, h3 => by omega
  | 0, n + 1, C, h1, h2, h3 => by
    have : decide ((0 : Int) ≤ ((0 : Nat) : Int) - 1) = false := by decide
    simp only [outbits_Rowu0, this, cond_false, bitsN, List.append_nil]
  | m + 1, 0, C, h1, h2, h3 => by omega
  | m + 1, n + 1, C, h1, h2, h3 => by
    have e1 : (((m + 1 : Nat) : Int) - 1) = (m : Int) := by omega
    have e2 : decide (wr .u64 (m : Int) < 0) = false := by rw [wr, wrapU64 (by omega) (by omega)]; simp
    have e3 : wr .i64 ((m : Int) - 1) = (m : Int) - 1 := by rw [wr, wrap64 (by omega) (by omega)]
    have e4 : decide ((C.map fun b => (((48 + b.toNat) : Nat) : Int)).length + 1 ≤ rowMax) = true := by simp [rowMax]; omega
    have e5 : wr .u8 (48 + wr .u8 (bitop .and .i64 (shrI .i64 (v : Int) (wr .u64 (m : Int))) 1)) = (((48 + (v.testBit m).toNat) : Nat) : Int) := by
      have h0 : wr .u64 (m : Int) = (m : Int) := by rw [wr, wrapU64 (by omega) (by omega)]
      have h1 := shrI_nat (a := v) (n := m) (by omega)
      have h2 : bitop .and .i64 ((v / 2 ^ m : Nat) : Int) 1 = _ := bitop_and (a := v / 2 ^ m) (b := 1) (by have := Nat.div_le_self v (2 ^ m); omega) (by decide)
      rw [h0, h1, h2, and_one, testBit_div]
      have h3 : v / 2 ^ m % 2 = 0 ∨ v / 2 ^ m % 2 = 1 := by omega
      rcases h3 with h3 | h3 <;> rw [h3] <;> rfl
    have ih := Row_loop k hv m n (C ++ [v.testBit m]) (by omega) (by omega) (by simp; omega)
    rw [List.map_append] at ih
    simp only [outbits_Rowu0, e1, e2, e3, e4, e5, show decide ((0 : Int) ≤ (m : Int)) = true by simp, cond_true, cond_false, bitsN]
    have ih' : outbits_Rowu0 k n (v : Int) ((m : Int) - 1) ((C.map fun b => (((48 + b.toNat) : Nat) : Int)) ++ [(((48 + (v.testBit m).toNat) : Nat) : Int)]) = _ := ih
    rw [ih', List.append_assoc]; rfl
/-- A number's digits. -/
theorem Row_spec {k : Nat} {v n : Nat} (hn : n ≤ 32) (hv : v < 2 ^ n) (hk : 32 < k) : outbits_Row k (v : Int) (n : Int) = some (chs (bitsN n v), (0, ())) := by
  have hv2 : v < 4294967296 := Nat.lt_of_lt_of_le hv (Nat.pow_le_pow_right (n := 2) (i := n) (j := 32) (by decide) hn)
  have e3 : wr .i64 ((n : Int) - 1) = (n : Int) - 1 := by rw [wr, wrap64 (by omega) (by omega)]
  have e4 : decide ((0 : Int) ≤ 0 ∧ 0 ≤ (n : Int) ∧ (n : Int) ≤ ((rowMax : Nat) : Int)) = true := by simp [rowMax]; omega
  have h := Row_loop k hv2 n k [] hn (by omega) (by simp; omega)
  simp only [List.map_nil, List.nil_append] at h
  simp only [outbits_Row, fits_spec k hn, hv, decide_true, Option.bind_some, Bool.not_true, cond_false, e4, cond_true, e3, h]
  congr 2
  simp only [chs, List.map_map]
  apply List.map_congr_left
  intro b _
  cases b <;> rfl
end Go.Proofs.YtlmajdbchmnhdaaGreatDoor
