/-
  Reading steps and vectors.
-/
import Derived.Test.YtlemoepklgfjoaaDoorLBlocks
set_option maxRecDepth 100000
namespace Go.Proofs.YtlemoepklgfjoaaDoor
open Go Go.Av

/-! ### Steps -/
def rdStep (rest : List Bool) : Sum Nat (Int × Nat) :=
  match rest with
  | a :: b :: _ => .inr (bif a then (bif b then 2 else 1) else (bif b then -2 else -1), 2)
  | _ => .inl 2
theorem step_spec {k : Nat} {s : List UInt8} (hs : Small s) (hk : 32 < k) {a : Nat} (ha : a ≤ 8 * s.length) :
    steps_Take k (Rd s a) = some (match rdStep (bitsFrom s a) with | .inr x => ((x.1, (0, ())), Rd s (a + x.2)) | .inl e => ((0, ((e : Int), ())), Rd s a)) := by
  have h2 : inbits_Reader_Take k 2 (Rd s a) = _ := Take_spec hs (m := 2) (by decide) ha hk
  simp only [steps_Take, h2]
  match hb : bitsFrom s a with
  | [] => rfl
  | [_] => rfl
  | x :: y :: r =>
    rw [if_pos (by simp)]
    cases x <;> cases y <;> rfl
/-! ### Numbers from -32 to 31 -/
def wrapI (n : Int) : Int := if Int.tmod n 64 < -32 then Int.tmod n 64 + 64 else if 32 ≤ Int.tmod n 64 then Int.tmod n 64 - 64 else Int.tmod n 64
theorem tmod64 (n : Int) : -64 < Int.tmod n 64 ∧ Int.tmod n 64 < 64 := by
  constructor
  · have := Int.lt_tmod_of_pos n (b := 64) (by decide); omega
  · exact Int.tmod_lt_of_pos n (by decide)
theorem wrapI_range (n : Int) : -32 ≤ wrapI n ∧ wrapI n ≤ 31 := by
  have := tmod64 n
  unfold wrapI
  split
  · omega
  · split <;> omega
theorem Wrap_spec (k : Nat) (n : Int) : whole_Wrap k n = some (wrapI n) := by
  have := tmod64 n
  simp only [whole_Wrap, wrapI]
  by_cases h1 : Int.tmod n 64 < -32
  · rw [if_pos h1, decide_eq_true h1, cond_true, wr, wrap64 (by omega) (by omega)]
  · rw [if_neg h1, decide_eq_false h1, cond_false]
    by_cases h2 : 32 ≤ Int.tmod n 64
    · rw [if_pos h2, decide_eq_true h2, cond_true, wr, wrap64 (by omega) (by omega)]
    · rw [if_neg h2, decide_eq_false h2, cond_false]
theorem rdMvd_range {r : List Bool} {d : Int} {m : Nat} (h : rdMvd r = .inr (d, m)) : m ≤ r.length ∧ -32 ≤ d ∧ d ≤ 31 := by
  unfold rdMvd at h
  cases hw : wlk (rowStep rows8) [] r 0 with
  | inl e => rw [hw] at h; cases h
  | inr p =>
    obtain ⟨i, c⟩ := p
    have hc := wlk_le hw
    have hi := wlk_row_lt hw
    rw [rows8_len] at hi
    rw [hw] at h
    simp only [Sum.inr.injEq, Prod.mk.injEq] at h
    obtain ⟨rfl, rfl⟩ := h
    omega
theorem rdMvd_err {r : List Bool} {e : Nat} (h : rdMvd r = .inl e) : e ≠ 0 := by
  unfold rdMvd at h
  cases hw : wlk (rowStep rows8) [] r 0 with
  | inl e' => rw [hw] at h; simp only [Sum.inl.injEq] at h; have := wlk_err hw; omega
  | inr p => rw [hw] at h; cases h
theorem rdMcbpc_range {inter : Bool} {r : List Bool} {x : Nat × Nat} {m : Nat} (h : rdMcbpc inter r = .inr (x, m)) : 1 ≤ m ∧ m ≤ r.length ∧ x.1 ≤ 5 ∧ x.1 ≠ 2 ∧ x.2 ≤ 3 ∧ (inter = false → 3 ≤ x.1) := by
  unfold rdMcbpc at h
  cases hw : wlk (rowStep (rows6 inter)) [] r 0 with
  | inl e => rw [hw] at h; cases h
  | inr p =>
    obtain ⟨i, c⟩ := p
    have hc := wlk_le hw
    have hi := wlk_row_lt hw
    rw [rows6_idx] at hi
    rw [hw] at h
    simp only at h
    split at h
    · cases h
    · rename_i h2
      simp only [Sum.inr.injEq, Prod.mk.injEq] at h
      obtain ⟨rfl, rfl⟩ := h
      simp only
      cases inter <;> simp at hi h2 ⊢ <;> omega
theorem rdMcbpc_err {inter : Bool} {r : List Bool} {e : Nat} (h : rdMcbpc inter r = .inl e) : e ≠ 0 := by
  unfold rdMcbpc at h
  cases hw : wlk (rowStep (rows6 inter)) [] r 0 with
  | inl e' => rw [hw] at h; simp only [Sum.inl.injEq] at h; have := wlk_err hw; omega
  | inr p =>
    obtain ⟨i, c⟩ := p
    rw [hw] at h
    simp only at h
    split at h
    · simp only [Sum.inl.injEq] at h; omega
    · cases h
theorem rdCbpy_range {intra : Bool} {r : List Bool} {x m : Nat} (h : rdCbpy intra r = .inr (x, m)) : m ≤ r.length ∧ x ≤ 15 := by
  unfold rdCbpy at h
  cases hw : wlk (rowStep rows7) [] r 0 with
  | inl e => rw [hw] at h; cases h
  | inr p =>
    obtain ⟨i, c⟩ := p
    have hc := wlk_le hw
    have hi := wlk_row_lt hw
    rw [rows7_len] at hi
    rw [hw] at h
    simp only [Sum.inr.injEq, Prod.mk.injEq] at h
    obtain ⟨rfl, rfl⟩ := h
    cases intra <;> simp <;> omega
theorem rdCbpy_err {intra : Bool} {r : List Bool} {e : Nat} (h : rdCbpy intra r = .inl e) : e ≠ 0 := by
  unfold rdCbpy at h
  cases hw : wlk (rowStep rows7) [] r 0 with
  | inl e' => rw [hw] at h; simp only [Sum.inl.injEq] at h; have := wlk_err hw; omega
  | inr p => rw [hw] at h; cases h
theorem rdStep_range {r : List Bool} {x : Int} {m : Nat} (h : rdStep r = .inr (x, m)) : m = 2 ∧ 2 ≤ r.length := by
  unfold rdStep at h
  split at h
  · simp only [Sum.inr.injEq, Prod.mk.injEq] at h
    exact ⟨h.2.symm, by simp⟩
  · cases h
theorem rdStep_err {r : List Bool} {e : Nat} (h : rdStep r = .inl e) : e ≠ 0 := by
  unfold rdStep at h
  split at h
  · cases h
  · simp only [Sum.inl.injEq] at h; omega
end Go.Proofs.YtlemoepklgfjoaaDoor
