/-
  Plain lemmas for the typed functions: numbers that fit, indices, lists.
-/
import Derived.Test.YtlemoepklgfjoaaDoorA29
namespace Go.Av
open Go

theorem wrap_fit {k : IntKind} {x : Int} (h1 : k.min ≤ x) (h2 : x ≤ k.max) : k.wrap x = x := by
  unfold IntKind.wrap
  unfold IntKind.min IntKind.max at *
  cases k <;> simp [IntKind.bits, IntKind.signed] at * <;> omega
theorem wrap64 {x : Int} (h1 : -9223372036854775808 ≤ x) (h2 : x ≤ 9223372036854775807) : IntKind.wrap .i64 x = x := wrap_fit (k := .i64) h1 h2
theorem wrap64_nat {n : Nat} (h : n ≤ 9223372036854775807) : IntKind.wrap .i64 (n : Int) = n := wrap64 (by omega) (by omega)
theorem wrapU64 {x : Int} (h1 : 0 ≤ x) (h2 : x ≤ 18446744073709551615) : IntKind.wrap .u64 x = x := wrap_fit (k := .u64) h1 h2
theorem wrapU8 {x : Int} (h1 : 0 ≤ x) (h2 : x ≤ 255) : IntKind.wrap .u8 x = x := wrap_fit (k := .u8) h1 h2
theorem wrap32 {x : Int} (h1 : -2147483648 ≤ x) (h2 : x ≤ 2147483647) : IntKind.wrap .i32 x = x := wrap_fit (k := .i32) h1 h2

theorem cast0 : ((0 : Nat) : Int) = 0 := rfl
theorem inR_nat {n m : Nat} : inR (n : Int) m = decide (n < m) := by
  unfold inR; simp
theorem inR_true {i : Int} {n : Nat} (h1 : 0 ≤ i) (h2 : i < n) : inR i n = true := by
  unfold inR; simp [h1, h2]

theorem allEq_refl {α : Type} {f : α → α → Bool} (hf : ∀ x, f x x = true) : ∀ l : List α, allEq f l l = true
  | [] => rfl
  | x :: l => by simp [allEq, hf x, allEq_refl hf l]
theorem allEq_length {α : Type} {f : α → α → Bool} : ∀ {a b : List α}, allEq f a b = true → a.length = b.length
  | [], [], _ => rfl
  | [], _ :: _, h => by simp [allEq] at h
  | _ :: _, [], h => by simp [allEq] at h
  | _ :: a, _ :: b, h => by
    simp only [allEq, Bool.and_eq_true] at h
    simp [allEq_length h.2]
theorem allEq_drop {α : Type} {f : α → α → Bool} {a b : List α} {i : Nat} (d : α) (ha : i < a.length) (hb : i < b.length) : allEq f (a.drop i) (b.drop i) = (f (a.getD i d) (b.getD i d) && allEq f (a.drop (i + 1)) (b.drop (i + 1))) := by
  rw [List.drop_eq_getElem_cons ha, List.drop_eq_getElem_cons hb, allEq]
  simp [ha, hb]

mutual
theorem eqB_refl : ∀ {τ : Ty} (x : τ.T), τ.eqs = true → τ.eqB x x = true
  | .int _, x, _ => by simp [Ty.eqB]
  | .bool, x, _ => by simp [Ty.eqB]
  | .str, x, _ => by simp [Ty.eqB]
  | .sl _, x, h => by simp [Ty.eqs] at h
  | .arr n e, x, h => by
    simp only [Ty.eqB]
    exact allEq_refl (fun y => eqB_refl (τ := e) y (by simpa [Ty.eqs] using h)) x
  | .pr a b, x, h => by
    simp only [Ty.eqs, Bool.and_eq_true] at h
    simp only [Ty.eqB, eqB_refl x.1 h.1, eqB_refl x.2 h.2, Bool.and_self]
  | .nil, _, _ => rfl
end
theorem allEq_of {α : Type} {f : α → α → Bool} (hf : ∀ x y, f x y = true → x = y) : ∀ {a b : List α}, allEq f a b = true → a = b
  | [], [], _ => rfl
  | [], _ :: _, h => by simp [allEq] at h
  | _ :: _, [], h => by simp [allEq] at h
  | x :: a, y :: b, h => by
    simp only [allEq, Bool.and_eq_true] at h
    rw [hf x y h.1, allEq_of hf h.2]
theorem eqB_of : ∀ {τ : Ty} {x y : τ.T}, τ.eqB x y = true → x = y
  | .int _, x, y, h => by simpa [Ty.eqB] using h
  | .bool, x, y, h => by simpa [Ty.eqB] using h
  | .str, x, y, h => by simpa [Ty.eqB] using h
  | .sl _, x, _, h => by simp [Ty.eqB] at h
  | .arr n e, x, y, h => by
    simp only [Ty.eqB] at h
    exact allEq_of (fun _ _ => eqB_of (τ := e)) h
  | .pr a b, x, y, h => by
    simp only [Ty.eqB, Bool.and_eq_true] at h
    exact Prod.ext (eqB_of h.1) (eqB_of h.2)
  | .nil, _, _, _ => rfl
theorem eqB_iff {τ : Ty} (hτ : τ.eqs = true) {x y : τ.T} : τ.eqB x y = true ↔ x = y := ⟨eqB_of, fun h => by subst h; exact eqB_refl x hτ⟩
theorem allEq_iff {α : Type} {f : α → α → Bool} (hf : ∀ x y, f x y = true ↔ x = y) {a b : List α} : allEq f a b = true ↔ a = b :=
  ⟨allEq_of fun x y => (hf x y).1, fun h => by subst h; exact allEq_refl (fun x => (hf x x).2 rfl) a⟩
end Go.Av
