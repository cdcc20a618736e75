/-
  Plain lemmas for the typed functions: numbers that fit, indices, lists.
-/
import Derived.Test.YtlmajdbchmnhdaaGreatDoorM3
import Derived.Laws.RangeString
import Derived.Laws.RangeAny
namespace Go.Av
open Go

theorem wrap_fit {k : IntKind} {x : Int} (h1 : k.min ≤ x) (h2 : x ≤ k.max) : k.wrap x = x := by
  unfold IntKind.wrap
  unfold IntKind.min IntKind.max at *
  cases k <;> simp [IntKind.bits, IntKind.signed] at * <;> omega
theorem wrap64 {x : Int} (h1 : -9223372036854775808 ≤ x) (h2 : x ≤ 9223372036854775807) : IntKind.wrap .i64 x = x := wrap_fit (k := .i64) h1 h2
theorem wrap64_nat {n : Nat} (h : n ≤ 9223372036854775807) : IntKind.wrap .i64 (n : Int) = n := wrap64 (by omega) (by omega)
theorem wrapU64 {x : Int} (h1 : 0 ≤ x) (h2 : x ≤ 18446744073709551615) : IntKind.wrap .u64 x = x := wrap_fit (k := .u64) h1 h2
theorem wrapU8 {x : Int} (h1 : 0 ≤ x) (h2 : x ≤ 255) : IntKind.wrap .u8 x = x := wrap_fit (k := .u8) h1 h2
theorem wrap32 {x : Int} (h1 : -2147483648 ≤ x) (h2 : x ≤ 2147483647) : IntKind.wrap .i32 x = x := wrap_fit (k := .i32) h1 h2

theorem cast0 : ((0 : Nat) : Int) = 0 := rfl
theorem inR_nat {n m : Nat} : inR (n : Int) m = decide (n < m) := by
  unfold inR; simp
theorem inR_true {i : Int} {n : Nat} (h1 : 0 ≤ i) (h2 : i < n) : inR i n = true := by
  unfold inR; simp [h1, h2]

theorem allEq_refl {α : Type} {f : α → α → Bool} (hf : ∀ x, f x x = true) : ∀ l : List α, allEq f l l = true
  | [] => rfl
  | x :: l => by simp [allEq, hf x, allEq_refl hf l]
theorem allEq_length {α : Type} {f : α → α → Bool} : ∀ {a b : List α}, allEq f a b = true → a.length = b.length
  | [], [], _ => rfl
  | [], _ :: _, h => by simp [allEq] at h
  | _ :: _, [], h => by simp [allEq] at h
  | _ :: a, _ :: b, h => by
    simp only [allEq, Bool.and_eq_true] at h
    simp [allEq_length h.2]
theorem allEq_drop {α : Type} {f : α → α → Bool} {a b : List α} {i : Nat} (d : α) (ha : i < a.length) (hb : i < b.length) : allEq f (a.drop i) (b.drop i) = (f (a.getD i d) (b.getD i d) && allEq f (a.drop (i + 1)) (b.drop (i + 1))) := by
  rw [List.drop_eq_getElem_cons ha, List.drop_eq_getElem_cons hb, allEq]
  simp [ha, hb]

mutual
theorem eqB_refl : ∀ {τ : Ty} (x : τ.T), τ.eqs = true → τ.eqB x x = true
  | .int _, x, _ => by simp [Ty.eqB]
  | .bool, x, _ => by simp [Ty.eqB]
  | .str, x, _ => by simp [Ty.eqB]
  | .sl _, x, h => by simp [Ty.eqs] at h
  | .arr n e, x, h => by
    simp only [Ty.eqB]
    exact allEq_refl (fun y => eqB_refl (τ := e) y (by simpa [Ty.eqs] using h)) x
  | .pr a b, x, h => by
    simp only [Ty.eqs, Bool.and_eq_true] at h
    simp only [Ty.eqB, eqB_refl x.1 h.1, eqB_refl x.2 h.2, Bool.and_self]
  | .nil, _, _ => rfl
end
theorem allEq_of {α : Type} {f : α → α → Bool} (hf : ∀ x y, f x y = true → x = y) : ∀ {a b : List α}, allEq f a b = true → a = b
  | [], [], _ => rfl
  | [], _ :: _, h => by simp [allEq] at h
  | _ :: _, [], h => by simp [allEq] at h
  | x :: a, y :: b, h => by
    simp only [allEq, Bool.and_eq_true] at h
    rw [hf x y h.1, allEq_of hf h.2]
theorem eqB_of : ∀ {τ : Ty} {x y : τ.T}, τ.eqB x y = true → x = y
  | .int _, x, y, h => by simpa [Ty.eqB] using h
  | .bool, x, y, h => by simpa [Ty.eqB] using h
  | .str, x, y, h => by simpa [Ty.eqB] using h
  | .sl _, x, _, h => by simp [Ty.eqB] at h
  | .arr n e, x, y, h => by
    simp only [Ty.eqB] at h
    exact allEq_of (fun _ _ => eqB_of (τ := e)) h
  | .pr a b, x, y, h => by
    simp only [Ty.eqB, Bool.and_eq_true] at h
    exact Prod.ext (eqB_of h.1) (eqB_of h.2)
  | .nil, _, _, _ => rfl
theorem eqB_iff {τ : Ty} (hτ : τ.eqs = true) {x y : τ.T} : τ.eqB x y = true ↔ x = y := ⟨eqB_of, fun h => by subst h; exact eqB_refl x hτ⟩
theorem allEq_iff {α : Type} {f : α → α → Bool} (hf : ∀ x y, f x y = true ↔ x = y) {a b : List α} : allEq f a b = true ↔ a = b :=
  ⟨allEq_of fun x y => (hf x y).1, fun h => by subst h; exact allEq_refl (fun x => (hf x x).2 rfl) a⟩
end Go.Av

/-
  Plain lemmas: bits of bytes, numbers of bits, the operations on bits.
-/
namespace Go.Av
open Go

def chB (b : Bool) : UInt8 := bif b then 49 else 48
def chs (B : List Bool) : List UInt8 := B.map chB
def byteBits (b : UInt8) : List Bool := [b.toNat.testBit 7, b.toNat.testBit 6, b.toNat.testBit 5, b.toNat.testBit 4, b.toNat.testBit 3, b.toNat.testBit 2, b.toNat.testBit 1, b.toNat.testBit 0]
def bitsOf : List UInt8 → List Bool
  | [] => []
  | b :: s => byteBits b ++ bitsOf s
def numA (v : Nat) : List Bool → Nat
  | [] => v
  | b :: r => numA (2 * v + b.toNat) r
def numB (B : List Bool) : Nat := numA 0 B
/-- A number's n lowest bits, the highest first. -/
def bitsN : Nat → Nat → List Bool
  | 0, _ => []
  | n + 1, v => v.testBit n :: bitsN n v

theorem chs_length (B : List Bool) : (chs B).length = B.length := by simp [chs]
theorem chs_append (A B : List Bool) : chs (A ++ B) = chs A ++ chs B := by simp [chs]
theorem chB_inj {a b : Bool} (h : chB a = chB b) : a = b := by revert h; cases a <;> cases b <;> decide
theorem chs_inj {A B : List Bool} (h : chs A = chs B) : A = B := by
  induction A generalizing B with
  | nil => cases B with
    | nil => rfl
    | cons b B => simp [chs] at h
  | cons a A ih => cases B with
    | nil => simp [chs] at h
    | cons b B =>
      simp only [chs, List.map_cons, List.cons.injEq] at h
      rw [chB_inj h.1, ih h.2]
theorem bitsOf_length (s : List UInt8) : (bitsOf s).length = 8 * s.length := by
  induction s with
  | nil => rfl
  | cons b s ih => simp only [bitsOf, List.length_append, ih, List.length_cons, byteBits, List.length_nil]; omega
theorem byteBits_get (b : UInt8) (i : Nat) (h : i < 8) : (byteBits b)[i]? = some (b.toNat.testBit (7 - i)) := by
  match i, h with
  | 0, _ | 1, _ | 2, _ | 3, _ | 4, _ | 5, _ | 6, _ | 7, _ => rfl
theorem bitsOf_get : ∀ (s : List UInt8) (i : Nat), i < 8 * s.length → (bitsOf s)[i]? = some ((s.getD (i / 8) 0).toNat.testBit (7 - i % 8))
  | [], i, h => by simp at h
  | b :: s, i, h => by
    simp only [bitsOf]
    by_cases h8 : i < 8
    · rw [List.getElem?_append_left (by simpa [byteBits] using h8), byteBits_get b i h8]
      have h1 : i / 8 = 0 := by omega
      have h2 : i % 8 = i := by omega
      rw [h1, h2]; rfl
    · have hl : (byteBits b).length = 8 := rfl
      rw [List.getElem?_append_right (by rw [hl]; omega), hl, bitsOf_get s (i - 8) (by simp only [List.length_cons] at h; omega)]
      have h1 : i / 8 = (i - 8) / 8 + 1 := by omega
      have h2 : i % 8 = (i - 8) % 8 := by omega
      rw [h1, h2]; rfl

theorem numA_append (A B : List Bool) (v : Nat) : numA v (A ++ B) = numA (numA v A) B := by
  induction A generalizing v with
  | nil => rfl
  | cons a A ih => exact ih _
theorem numA_lt : ∀ (B : List Bool) (v m : Nat), v < 2 ^ m → numA v B < 2 ^ (m + B.length)
  | [], v, m, h => h
  | b :: B, v, m, h => by
    have h1 : 2 * v + b.toNat < 2 ^ (m + 1) := by
      have : b.toNat ≤ 1 := by cases b <;> decide
      rw [Nat.pow_succ]; omega
    have := numA_lt B _ _ h1
    simp only [numA, List.length_cons]
    rwa [show m + (B.length + 1) = m + 1 + B.length by omega]
theorem numB_lt (B : List Bool) : numB B < 2 ^ B.length := by
  have := numA_lt B 0 0 (by decide)
  simpa [numB] using this
theorem numB_lt_of {B : List Bool} {n : Nat} (h : B.length ≤ n) : numB B < 2 ^ n := Nat.lt_of_lt_of_le (numB_lt B) (Nat.pow_le_pow_right (by decide) h)
theorem numA_eq (B : List Bool) (v : Nat) : numA v B = v * 2 ^ B.length + numB B := by
  induction B generalizing v with
  | nil => simp [numA, numB]
  | cons b B ih =>
    have h1 := ih (2 * v + b.toNat)
    have h2 := ih b.toNat
    have h3 : numB (b :: B) = numA b.toNat B := by simp [numB, numA]
    simp only [numA, h1, h3, h2, List.length_cons, Nat.pow_succ]
    rw [Nat.add_mul, Nat.mul_comm 2 v, Nat.mul_assoc, Nat.mul_comm 2 (2 ^ B.length)]
    omega
theorem numB_snoc (B : List Bool) (b : Bool) : numB (B ++ [b]) = 2 * numB B + b.toNat := by simp only [numB, numA_append, numA]
theorem bitsN_length (n v : Nat) : (bitsN n v).length = n := by
  induction n with
  | zero => rfl
  | succ n ih => simp [bitsN, ih]
theorem numA_bitsN (n v w : Nat) : numA w (bitsN n v) = w * 2 ^ n + v % 2 ^ n := by
  induction n generalizing w with
  | zero => simp [bitsN, numA]; omega
  | succ n ih =>
    simp only [bitsN, numA, ih]
    have h1 : v % 2 ^ (n + 1) = (v.testBit n).toNat * 2 ^ n + v % 2 ^ n := by
      rw [Nat.mod_pow_succ, Nat.testBit_eq_decide_div_mod_eq]
      have h2 : v / 2 ^ n % 2 = 0 ∨ v / 2 ^ n % 2 = 1 := by omega
      rcases h2 with h2 | h2 <;> simp [h2] <;> omega
    rw [h1, Nat.add_mul, Nat.pow_succ, Nat.mul_comm 2 w, Nat.mul_assoc, Nat.mul_comm 2 (2 ^ n)]
    omega
theorem numB_bitsN {n v : Nat} (h : v < 2 ^ n) : numB (bitsN n v) = v := by
  simp only [numB, numA_bitsN, Nat.zero_mul, Nat.zero_add, Nat.mod_eq_of_lt h]
theorem bitsN_numB : ∀ (B : List Bool), bitsN B.length (numB B) = B := by
  have key : ∀ (B : List Bool) (v : Nat), bitsN B.length (numA v B) = B := by
    intro B
    induction B with
    | nil => intro v; rfl
    | cons b B ih =>
      intro v
      simp only [List.length_cons, bitsN, numA, ih]
      congr 1
      rw [numA_eq]
      have hb := numB_lt B
      rw [Nat.mul_comm, Nat.testBit_two_pow_mul_add _ hb]
      simp
      cases b <;> simp
  exact fun B => key B 0
theorem bitsN_8 (b : UInt8) : bitsN 8 b.toNat = byteBits b := rfl

/-! ### The operations on numbers that are not below nothing -/
theorem bitop_or {a b : Nat} (ha : a < 9223372036854775808) (hb : b < 9223372036854775808) : bitop .or .i64 (a : Int) (b : Int) = ((a ||| b : Nat) : Int) := by
  have h1 : a ||| b < 2 ^ 63 := Nat.or_lt_two_pow ha hb
  have hx : ∀ a : Nat, a < 9223372036854775808 → (BitVec.ofInt (IntKind.bits .i64) (a : Int)).toNat = a := fun a ha => by
    rw [BitVec.ofInt_natCast]; simp [IntKind.bits]; omega
  simp only [bitop, BitVec.toNat_or, hx a ha, hx b hb]
  exact wrap64 (by omega) (by omega)
theorem bitop_and {a b : Nat} (ha : a < 9223372036854775808) (hb : b < 9223372036854775808) : bitop .and .i64 (a : Int) (b : Int) = ((a &&& b : Nat) : Int) := by
  have h1 : a &&& b < 2 ^ 63 := Nat.and_lt_two_pow a hb
  have hx : ∀ a : Nat, a < 9223372036854775808 → (BitVec.ofInt (IntKind.bits .i64) (a : Int)).toNat = a := fun a ha => by
    rw [BitVec.ofInt_natCast]; simp [IntKind.bits]; omega
  simp only [bitop, BitVec.toNat_and, hx a ha, hx b hb]
  exact wrap64 (by omega) (by omega)
theorem shlI_nat {a n : Nat} (hn : n ≤ 64) (h : a * 2 ^ n < 9223372036854775808) : shlI .i64 (a : Int) (n : Int) = ((a * 2 ^ n : Nat) : Int) := by
  simp only [shlI, Int.toNat_natCast]
  rw [show min n (IntKind.bits .i64) = n from Nat.min_eq_left hn]
  rw [show (a : Int) * 2 ^ n = ((a * 2 ^ n : Nat) : Int) by simp]
  exact wrap64 (by omega) (by omega)
theorem shrI_nat {a n : Nat} (hn : n ≤ 64) : shrI .i64 (a : Int) (n : Int) = ((a / 2 ^ n : Nat) : Int) := by
  simp only [shrI, Int.toNat_natCast]
  rw [show min n (IntKind.bits .i64) = n from Nat.min_eq_left hn]
  rw [Int.fdiv_eq_ediv_of_nonneg _ (by exact Int.pow_nonneg (by decide))]
  simp
theorem and_one (a : Nat) : a &&& 1 = a % 2 := Nat.and_one_is_mod a
theorem testBit_div (v n : Nat) : v.testBit n = decide (v / 2 ^ n % 2 = 1) := Nat.testBit_eq_decide_div_mod_eq
theorem or_bit {v : Nat} (b : Bool) : (2 * v) ||| b.toNat = 2 * v + b.toNat := by
  cases b
  · simp
  · have h := Nat.two_pow_add_eq_or_of_lt (i := 1) (b := 1) (by decide) v
    simpa using h.symm
theorem byte_bit (c : Nat) (hc : c < 256) (m : Nat) (hm : m < 8) : IntKind.wrap .i64 (bitop .and .u8 (shrI .u8 (c : Int) (m : Int)) 1) = ((c.testBit m).toNat : Int) := by
  have h : ∀ c : Fin 256, ∀ m : Fin 8, IntKind.wrap .i64 (bitop .and .u8 (shrI .u8 ((c.val : Nat) : Int) ((m.val : Nat) : Int)) 1) = ((c.val.testBit m.val).toNat : Int) := by decide +kernel
  exact h ⟨c, hc⟩ ⟨m, hm⟩
theorem u8_lt (b : UInt8) : b.toNat < 256 := b.toNat_lt
end Go.Av

/-
  Plain lemmas: reading a code bit by bit; two readers that go side by side.
-/
namespace Go.Av
open Go

inductive Vd (σ α : Type) where
  | bad | hit (a : α) | go (s : σ)

/-- Reads on: which error (2: no more bits; 3: no code), or what was found and how many bits that took. -/
def wlk {σ α : Type} (step : σ → Bool → Vd σ α) : σ → List Bool → Nat → Sum Nat (α × Nat)
  | _, [], _ => .inl 2
  | s, b :: r, n => match step s b with
    | .bad => .inl 3
    | .hit a => .inr (a, n + 1)
    | .go s' => wlk step s' r (n + 1)

def okStep {σ τ α β : Type} [DecidableEq σ] [DecidableEq τ] [DecidableEq β] (R : List (σ × τ)) (m : α → β) : Vd σ α → Vd τ β → Bool
  | .bad, .bad => true
  | .hit a, .hit c => decide (m a = c)
  | .go s, .go t => R.any fun x => decide (x.1 = s) && decide (x.2 = t)
  | _, _ => false
def okR {σ τ α β : Type} [DecidableEq σ] [DecidableEq τ] [DecidableEq β] (f : σ → Bool → Vd σ α) (g : τ → Bool → Vd τ β) (m : α → β) (R : List (σ × τ)) : Bool :=
  R.all fun p => okStep R m (f p.1 false) (g p.2 false) && okStep R m (f p.1 true) (g p.2 true)

def mapW {α β : Type} (m : α → β) : Sum Nat (α × Nat) → Sum Nat (β × Nat)
  | .inl e => .inl e
  | .inr x => .inr (m x.1, x.2)

theorem wlk_same {σ τ α β : Type} [DecidableEq σ] [DecidableEq τ] [DecidableEq β] {f : σ → Bool → Vd σ α} {g : τ → Bool → Vd τ β} {m : α → β} {R : List (σ × τ)} (h : okR f g m R = true) :
    ∀ (rest : List Bool) (s : σ) (t : τ) (n : Nat), (s, t) ∈ R → wlk g t rest n = mapW m (wlk f s rest n)
  | [], s, t, n, _ => rfl
  | b :: r, s, t, n, hm => by
    have h1 := List.all_eq_true.1 h (s, t) hm
    simp only [Bool.and_eq_true] at h1
    have h2 : okStep R m (f s b) (g t b) = true := by cases b; exact h1.1; exact h1.2
    simp only [wlk]
    revert h2
    cases f s b with
    | bad => cases g t b <;> intro h2 <;> first | rfl | cases h2
    | hit a => cases g t b with
      | hit c => intro h2; have := of_decide_eq_true h2; subst this; rfl
      | _ => intro h2; cases h2
    | go s' => cases g t b with
      | go t' =>
        intro h2
        simp only [okStep, List.any_eq_true, Bool.and_eq_true, decide_eq_true_eq] at h2
        obtain ⟨⟨x, y⟩, h3, rfl, rfl⟩ := h2
        exact wlk_same h r x y (n + 1) h3
      | _ => intro h2; cases h2

/-- How many bits were taken: at least one more; and no more than there are. -/
theorem wlk_le {σ α : Type} {step : σ → Bool → Vd σ α} : ∀ {rest : List Bool} {s : σ} {n : Nat} {a : α} {m : Nat}, wlk step s rest n = .inr (a, m) → n < m ∧ m ≤ n + rest.length
  | [], s, n, a, m, h => by simp [wlk] at h
  | b :: r, s, n, a, m, h => by
    simp only [wlk] at h
    cases hs : step s b with
    | bad => rw [hs] at h; cases h
    | hit c =>
      rw [hs] at h
      simp only [Sum.inr.injEq, Prod.mk.injEq] at h
      simp only [List.length_cons]; omega
    | go s' =>
      rw [hs] at h
      have := wlk_le h
      simp only [List.length_cons]; omega
theorem wlk_err {σ α : Type} {step : σ → Bool → Vd σ α} : ∀ {rest : List Bool} {s : σ} {n e : Nat}, wlk step s rest n = .inl e → e = 2 ∨ e = 3
  | [], s, n, e, h => by simp only [wlk, Sum.inl.injEq] at h; omega
  | b :: r, s, n, e, h => by
    simp only [wlk] at h
    cases hs : step s b with
    | bad => rw [hs] at h; simp only [Sum.inl.injEq] at h; omega
    | hit c => rw [hs] at h; cases h
    | go s' => rw [hs] at h; exact wlk_err h

/-! ### A list of rows -/
def begs : List UInt8 → List UInt8 → Bool
  | _, [] => true
  | [], _ :: _ => false
  | x :: a, y :: b => decide (x = y) && begs a b
theorem begs_iff : ∀ {a b : List UInt8}, begs a b = true ↔ b.length ≤ a.length ∧ a.take b.length = b
  | _, [] => by simp [begs]
  | [], _ :: _ => by simp [begs]
  | x :: a, y :: b => by
    simp only [begs, Bool.and_eq_true, decide_eq_true_eq, begs_iff (a := a) (b := b), List.length_cons, List.take_succ_cons, List.cons.injEq, Nat.add_le_add_iff_right]
    constructor
    · rintro ⟨rfl, h1, h2⟩; exact ⟨h1, rfl, h2⟩
    · rintro ⟨h1, rfl, h2⟩; exact ⟨rfl, h1, h2⟩

/-- The first row that is q, from number i on. -/
def findRow (q : List UInt8) : List (List UInt8) → Nat → Option Nat
  | [], _ => none
  | r :: l, i => bif decide (r = q) then some i else findRow q l (i + 1)
def anyBeg (q : List UInt8) : List (List UInt8) → Bool
  | [] => false
  | r :: l => begs r q || anyBeg q l
def rowStep (rows : List (List UInt8)) (p : List Bool) (b : Bool) : Vd (List Bool) Nat :=
  match findRow (chs (p ++ [b])) rows 0 with
  | some i => .hit i
  | none => bif anyBeg (chs (p ++ [b])) rows then .go (p ++ [b]) else .bad

theorem anyBeg_long {q : List UInt8} : ∀ {rows : List (List UInt8)}, (∀ r ∈ rows, r.length < q.length) → anyBeg q rows = false
  | [], _ => rfl
  | r :: l, h => by
    have h1 : begs r q = false := by
      cases hb : begs r q with
      | false => rfl
      | true => have := (begs_iff.1 hb).1; have := h r (List.mem_cons_self ..); omega
    simp only [anyBeg, h1, Bool.false_or]
    exact anyBeg_long fun x hx => h x (List.mem_cons_of_mem _ hx)

/-- All proper beginnings of rows, as bits. -/
def inits (r : List UInt8) : List (List Bool) := (List.range r.length).map fun n => (r.take n).map fun c => decide (c = 49)
def nodesOf (rows : List (List UInt8)) : List (List Bool) := (rows.flatMap inits).eraseDups
end Go.Av

/-
  Plain lemmas: bits packed into bytes.
-/
namespace Go.Av
open Go

/-- The first eight bits, filled up. -/
def pad8 (B : List Bool) : List Bool := (B ++ List.replicate 8 false).take 8
def pkN : Nat → List Bool → List Int
  | 0, _ => []
  | m + 1, B => (numB (pad8 B) : Int) :: pkN m (B.drop 8)
/-- Bits as bytes. -/
def pk (B : List Bool) : List Int := pkN ((B.length + 7) / 8) B

theorem pad8_length (B : List Bool) : (pad8 B).length = 8 := by simp [pad8]
theorem pad8_lt (B : List Bool) : numB (pad8 B) < 256 := numB_lt_of (n := 8) (by rw [pad8_length]; exact Nat.le_refl _)
theorem pkN_length : ∀ (m : Nat) (B : List Bool), (pkN m B).length = m
  | 0, _ => rfl
  | m + 1, B => by simp [pkN, pkN_length m]
theorem pk_length (B : List Bool) : (pk B).length = (B.length + 7) / 8 := pkN_length _ _
theorem pkN_get : ∀ (m j : Nat) (B : List Bool), j < m → (pkN m B)[j]? = some ((numB (pad8 (B.drop (8 * j))) : Nat) : Int)
  | 0, j, B, h => by omega
  | m + 1, 0, B, h => by simp [pkN]
  | m + 1, j + 1, B, h => by
    simp only [pkN, List.getElem?_cons_succ]
    rw [pkN_get m j (B.drop 8) (by omega), List.drop_drop]
    rw [show 8 + 8 * j = 8 * (j + 1) by omega]
theorem pk_getD {B : List Bool} {j : Nat} (h : j < (B.length + 7) / 8) : (pk B).getD j 0 = ((numB (pad8 (B.drop (8 * j))) : Nat) : Int) := by
  rw [List.getD_eq_getElem?_getD, pk, pkN_get _ _ _ h]; rfl
theorem pad8_long {B : List Bool} (h : 8 ≤ B.length) : pad8 B = B.take 8 := by
  unfold pad8
  rw [List.take_append_of_le_length h]
theorem pad8_short {B : List Bool} (h : B.length ≤ 8) : pad8 B = B ++ List.replicate (8 - B.length) false := by
  unfold pad8
  rw [List.take_append, List.take_of_length_le h, List.take_replicate]
  congr 2; omega
theorem pad8_snoc {B : List Bool} (b : Bool) (h : B.length ≠ 8 ∧ B.length < 8) : pad8 (B ++ [b]) = B ++ b :: List.replicate (7 - B.length) false := by
  rw [pad8_short (by simp; omega)]
  simp
theorem pad8_far {B : List Bool} (b : Bool) (h : 8 ≤ B.length) : pad8 (B ++ [b]) = pad8 B := by
  rw [pad8_long h, pad8_long (by simp; omega), List.take_append_of_le_length h]

theorem toU8_nat {n : Nat} (h : n < 256) : (toU8 ((n : Nat) : Int)).toNat = n := by
  simp [toU8, UInt8.toNat_ofNat']; omega
theorem byteBits_toU8 (B : List Bool) : byteBits (toU8 ((numB (pad8 B) : Nat) : Int)) = pad8 B := by
  rw [← bitsN_8, toU8_nat (pad8_lt B)]
  have := bitsN_numB (pad8 B)
  rwa [pad8_length] at this
/-- The bytes' bits are the bits, filled up with noughts. -/
theorem bits_pkN : ∀ (m : Nat) (B : List Bool), B.length ≤ 8 * m → bitsOf ((pkN m B).map toU8) = B ++ List.replicate (8 * m - B.length) false
  | 0, B, h => by
    have : B = [] := by cases B with
      | nil => rfl
      | cons b B => simp at h
    subst this; rfl
  | m + 1, B, h => by
    simp only [pkN, List.map_cons, bitsOf, byteBits_toU8]
    rw [bits_pkN m (B.drop 8) (by rw [List.length_drop]; omega), List.length_drop]
    by_cases h8 : 8 ≤ B.length
    · rw [pad8_long h8, ← List.append_assoc, List.take_append_drop]
      congr 2; omega
    · rw [pad8_short (by omega), List.drop_eq_nil_of_le (by omega), List.nil_append, List.append_assoc, List.replicate_append_replicate]
      congr 2; omega
theorem bits_pk (B : List Bool) : bitsOf ((pk B).map toU8) = B ++ List.replicate (8 * ((B.length + 7) / 8) - B.length) false := bits_pkN _ _ (by omega)
theorem pad8_zeros (B : List Bool) (z : Nat) : pad8 (B ++ List.replicate z false) = pad8 B := by
  unfold pad8
  rw [List.append_assoc, List.replicate_append_replicate, List.take_append, List.take_append, List.take_replicate, List.take_replicate]
  congr 2
  rw [Nat.min_eq_left (by omega), Nat.min_eq_left (by omega)]
theorem pkN_zeros : ∀ (m : Nat) (B : List Bool) (z : Nat), pkN m (B ++ List.replicate z false) = pkN m B
  | 0, B, z => rfl
  | m + 1, B, z => by
    simp only [pkN, pad8_zeros]
    rw [List.drop_append, List.drop_replicate, pkN_zeros m (B.drop 8)]
theorem pk_fill (B : List Bool) (z : Nat) (h : (B.length + z + 7) / 8 = (B.length + 7) / 8) : pk (B ++ List.replicate z false) = pk B := by
  have hl : (B ++ List.replicate z false).length = B.length + z := by simp
  unfold pk
  rw [hl, h, pkN_zeros]

/-! ### Texts of digits -/
def isPlain (s : List UInt8) : Bool := s.all fun b => decide (b = 48) || decide (b = 49)
def bitsRow (s : List UInt8) : List Bool := s.map fun b => decide (b = 49)
theorem chs_bitsRow {s : List UInt8} (h : isPlain s = true) : chs (bitsRow s) = s := by
  induction s with
  | nil => rfl
  | cons b s ih =>
    simp only [isPlain, List.all_cons, Bool.and_eq_true, Bool.or_eq_true, decide_eq_true_eq] at h
    have ih := ih (by simpa [isPlain] using h.2)
    simp only [chs, bitsRow, List.map_map] at ih
    simp only [chs, bitsRow, List.map_map, List.map_cons, ih]
    rcases h.1 with rfl | rfl <;> rfl
theorem bitsRow_chs (B : List Bool) : bitsRow (chs B) = B := by
  induction B with
  | nil => rfl
  | cons b B ih =>
    simp only [bitsRow, chs, List.map_map] at ih
    simp only [bitsRow, chs, List.map_cons, List.map_map, ih]
    cases b <;> rfl
theorem isPlain_chs (B : List Bool) : isPlain (chs B) = true := by
  induction B with
  | nil => rfl
  | cons b B ih =>
    simp only [isPlain, chs, List.map_cons, List.all_cons, Bool.and_eq_true] at ih ⊢
    exact ⟨by cases b <;> rfl, ih⟩
theorem decode_dig {s : List UInt8} {i : Nat} (h : i < s.length) (hd : s[i] = 48 ∨ s[i] = 49) : Utf8.decode ⟨s.toArray⟩ i = (s[i].toNat, 1) := by
  have hsz : i < (ByteArray.mk s.toArray).size := by simpa [ByteArray.size] using h
  have hg : (ByteArray.mk s.toArray)[i]'hsz = s[i] := by simp [ByteArray.getElem_eq_getElem_data]
  rw [decode_ascii _ _ hsz (by rw [hg]; rcases hd with h | h <;> rw [h] <;> decide), hg]
theorem decode_other {s : List UInt8} {i : Nat} (h : i < s.length) (h0 : s[i] ≠ 48) (h1 : s[i] ≠ 49) : (Utf8.decode ⟨s.toArray⟩ i).1 ≠ 48 ∧ (Utf8.decode ⟨s.toArray⟩ i).1 ≠ 49 := by
  have hsz : i < (ByteArray.mk s.toArray).size := by simpa [ByteArray.size] using h
  have hg : (ByteArray.mk s.toArray)[i]'hsz = s[i] := by simp [ByteArray.getElem_eq_getElem_data]
  by_cases ha : s[i].toNat < 128
  · rw [decode_ascii _ _ hsz (by rw [hg]; exact ha), hg]
    constructor
    · intro e; exact h0 (UInt8.toNat_inj.1 (by simpa using e))
    · intro e; exact h1 (UInt8.toNat_inj.1 (by simpa using e))
  · have := decode_high (ByteArray.mk s.toArray) i hsz (by rw [hg]; omega)
    omega
end Go.Av
