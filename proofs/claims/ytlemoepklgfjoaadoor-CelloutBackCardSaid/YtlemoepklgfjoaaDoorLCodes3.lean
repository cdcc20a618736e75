/-
  Reading codes: differences of vectors: the program's reader tells what the page's does.
-/
import Derived.Test.YtlemoepklgfjoaaDoorLCodes2
set_option maxRecDepth 100000
namespace Go.Proofs.YtlemoepklgfjoaaDoor
open Go Go.Av

noncomputable def rows8 : List (List UInt8) := ((overspillref08_Takeu0 200 200 (-32) []).getD ((), [])).2
theorem rows8_ok (k : Nat) : overspillref08_Takeu0 (k + 200) (k + 200) (-32) [] = some ((), rows8) := by kernel_rfl
theorem rows8_len : rows8.length = 64 := by kernel_rfl
theorem rows8_short : (rows8.all fun r => Nat.ble r.length 24) = true := by kernel_rfl
noncomputable def rdMvd (rest : List Bool) : Sum Nat (Int × Nat) :=
  match wlk (rowStep rows8) [] rest 0 with
  | .inl e => .inl e
  | .inr (i, m) => .inr ((i : Int) - 32, m)

theorem ref08_spec {k : Nat} (hk : 1000 < k) {B : List Bool} {a : Nat} (hb : B.length ≤ 1000000000000) (ha : a ≤ B.length) :
    overspillref08_Take k (chs B) (a : Int) = some (match rdMvd (B.drop a) with | .inr x => (x.1, (((a + x.2 : Nat) : Int), (0, ()))) | .inl e => (0, ((a : Int), ((e : Int), ())))) := by
  obtain ⟨k', rfl⟩ : ∃ k', k = k' + 200 := ⟨k - 200, by omega⟩
  simp only [overspillref08_Take, rows8_ok, Option.bind_some, ref05_spec hk (rows := rows8) (by rw [rows8_len]; omega) (short_of rows8_short) hb ha, rdMvd]
  cases hw : wlk (rowStep rows8) [] (B.drop a) 0 with
  | inl e =>
    have he := wlk_err hw
    rcases he with rfl | rfl <;> rfl
  | inr x =>
    obtain ⟨i, m⟩ := x
    have hi := wlk_row_lt hw
    rw [rows8_len] at hi
    simp only [decide_true, Bool.not_true, cond_false]
    rw [wr, wrap64 (by omega) (by omega)]

/-- The program's reader of a difference, bit by bit: how many bits so far and their number; then the amount whose sign is read. -/
abbrev MS := (Nat × Nat) ⊕ Nat
noncomputable def mvdStep (k : Nat) : MS → Bool → Vd MS Int
  | .inl (n, v), b => match mvd_found (k + 200) ((2 * v + b.toNat : Nat) : Int) ((n + 1 : Nat) : Int) with
    | some (a, (is, (may, _))) => bif !may then .bad else bif is then (bif decide (a = 0) then .hit 0 else .go (.inr a.toNat)) else .go (.inl (n + 1, 2 * v + b.toNat))
    | none => .bad
  | .inr a, b => bif b then .hit (-(a : Int)) else bif decide (31 < a) then .bad else .hit (a : Int)
def nums8 : List (Nat × Nat) := [(0, 0), (1, 0), (2, 0), (3, 0), (4, 0), (5, 0), (5, 1), (6, 0), (6, 1), (6, 2), (7, 0), (7, 1), (7, 2), (8, 0), (8, 1), (8, 2), (8, 3), (8, 4), (8, 5), (9, 0), (9, 1), (9, 2), (9, 3), (9, 4), (9, 5), (9, 6), (9, 7), (9, 8), (10, 0), (10, 1), (10, 2), (10, 3), (11, 1)]
def sigs8 : List (Nat × Nat × Nat) := [(2, 1, 1), (3, 1, 2), (4, 1, 3), (6, 3, 4), (7, 3, 7), (7, 4, 6), (7, 5, 5), (9, 9, 10), (9, 10, 9), (9, 11, 8), (10, 4, 24), (10, 5, 23), (10, 6, 22), (10, 7, 21), (10, 8, 20), (10, 9, 19), (10, 10, 18), (10, 11, 17), (10, 12, 16), (10, 13, 15), (10, 14, 14), (10, 15, 13), (10, 16, 12), (10, 17, 11), (11, 2, 30), (11, 3, 29), (11, 4, 28), (11, 5, 27), (11, 6, 26), (11, 7, 25), (12, 2, 32), (12, 3, 31)]
def pairs8 : List (List Bool × MS) := (nums8.map fun x => (bitsN x.1 x.2, Sum.inl x)) ++ sigs8.map fun x => (bitsN x.1 x.2.1, Sum.inr x.2.2)
/-- What is asked of the numbers' states: all that the loop does is told. -/
noncomputable def mvdFine (k : Nat) (x : Nat × Nat) : Bool :=
  Nat.ble x.2 100000 && Nat.ble x.1 20 && [false, true].all fun b => match mvd_found (k + 200) ((2 * x.2 + b.toNat : Nat) : Int) ((x.1 + 1 : Nat) : Int) with
    | some (a, (is, (may, _))) => decide (0 ≤ a) && decide (a ≤ 32) && (!is || may) && (is || !may || nums8.any fun s => decide (s = (x.1 + 1, 2 * x.2 + b.toNat)))
    | none => false
theorem mvd_same (k : Nat) : okR (rowStep rows8) (mvdStep k) (fun i => (i : Int) - 32) pairs8 = true := by kernel_rfl
theorem mvd_fine (k : Nat) : nums8.all (mvdFine k) = true := by kernel_rfl
theorem mvd_start : ([], Sum.inl (0, 0)) ∈ pairs8 := List.mem_append_left _ (List.mem_map.2 ⟨(0, 0), List.mem_cons_self .., rfl⟩)

theorem num_step {v : Nat} (hv : v ≤ 100000) (b : Bool) : bitop .or .i64 (shlI .i64 (v : Int) 1) ((b.toNat : Nat) : Int) = ((2 * v + b.toNat : Nat) : Int) := by
  have e6 : shlI .i64 (v : Int) 1 = ((v * 2 : Nat) : Int) := by
    have := shlI_nat (a := v) (n := 1) (by decide) (by omega)
    simpa using this
  rw [e6, bitop_or (by omega) (by cases b <;> decide), Nat.mul_comm v 2, or_bit b]

theorem mvd_found_at (k : Nat) {n v : Nat} (hm : (n, v) ∈ nums8) (b : Bool) : v ≤ 100000 ∧ n ≤ 20 ∧ ∃ a is may, mvd_found (k + 200) ((2 * v + b.toNat : Nat) : Int) ((n + 1 : Nat) : Int) = some (a, (is, (may, ()))) ∧ 0 ≤ a ∧ a ≤ 32 ∧ (is = true → may = true) ∧ (is = false → may = true → (n + 1, 2 * v + b.toNat) ∈ nums8) := by
  have hf := List.all_eq_true.1 (mvd_fine k) _ hm
  simp only [mvdFine, Bool.and_eq_true] at hf
  obtain ⟨⟨hv, hn⟩, hfd⟩ := hf
  have hb := List.all_eq_true.1 hfd b (by cases b <;> simp)
  refine ⟨Nat.le_of_ble_eq_true hv, Nat.le_of_ble_eq_true hn, ?_⟩
  split at hb
  case h_2 => cases hb
  rename_i a is may u heq
  simp only [Bool.and_eq_true, decide_eq_true_eq, Bool.or_eq_true, Bool.not_eq_true'] at hb
  obtain ⟨⟨⟨h1, h2⟩, h3⟩, h4⟩ := hb
  refine ⟨a, is, may, heq, h1, h2, fun h => ?_, fun h h' => ?_⟩
  · rcases h3 with h3 | h3
    · rw [h] at h3; cases h3
    · exact h3
  · rcases h4 with (h4 | h4) | h4
    · rw [h] at h4; cases h4
    · rw [h'] at h4; cases h4
    · obtain ⟨y, h5, h6⟩ := List.any_eq_true.1 h4
      have := of_decide_eq_true h6
      subst this; exact h5

theorem mvd_walk (k : Nat) {s : List UInt8} (hs : Small s) {a0 : Nat} : ∀ (rest : List Bool) (n v fuel : Nat), bitsFrom s (a0 + n) = rest → a0 + n ≤ 8 * s.length → rest.length < fuel → (n, v) ∈ nums8 →
    mvd_Takeu4 (k + 200) fuel (a0 : Int) (v : Int) ((n + 1 : Nat) : Int) (Rd s (a0 + n)) = some (match wlk (mvdStep k) (.inl (n, v)) rest n with
      | .inr x => ((x.1, 0), Rd s (a0 + x.2))
      | .inl e => ((0, (e : Int)), Rd s a0))
  | rest, n, v, 0, h1, h2, h3, h4 => by omega
  | [], n, v, fuel + 1, h1, h2, h3, h4 => by
    obtain ⟨hv, hn, a, is, may, hfd, _⟩ := mvd_found_at k h4 false
    have hs' := hs
    unfold Small at hs'
    have e0 : bitop .or .i64 (shlI .i64 (v : Int) 1) 0 = ((2 * v + false.toNat : Nat) : Int) := num_step hv false
    simp only [mvd_Takeu4, Take1 (k := k + 200) hs h2 (by omega), h1, Option.bind_some, e0, hfd, mvd_Takeu0, mvd_Takeu1, mvd_Takeu2, mvd_Takeu3, wlk]
    have e1 : decide ((2 : Int) = 0) = false := rfl
    simp only [decide_true, decide_false, e1, cond_false, Option.bind_some, Bool.not_false, cond_true, Seek_spec hs (show a0 ≤ 8 * s.length by omega)]
    rfl
  | b :: r, n, v, fuel + 1, h1, h2, h3, h4 => by
    obtain ⟨hv, hn, a, is, may, hfd, ha0, ha1, hi1, hi2⟩ := mvd_found_at k h4 b
    have hs' := hs
    unfold Small at hs'
    obtain ⟨hr1, hle⟩ := bitsFrom_cons h1
    have e1 : decide ((0 : Int) = 0) = true := rfl
    have e3 : decide ((3 : Int) = 0) = false := rfl
    simp only [mvd_Takeu4, Take1 (k := k + 200) hs h2 (by omega), h1, Option.bind_some, num_step hv, hfd, mvd_Takeu0, mvd_Takeu1, mvd_Takeu2, mvd_Takeu3, wlk, mvdStep, e1, decide_true, cond_true]
    cases may with
    | false =>
      simp only [Bool.not_false, cond_true, Option.bind_some, e3, decide_false, cond_false, Seek_spec hs (show a0 ≤ 8 * s.length by omega)]
      rfl
    | true =>
      simp only [Bool.not_true, cond_false, Option.bind_some, e1, decide_true, cond_true]
      cases is with
      | true =>
        simp only [cond_true, mvd_signed]
        cases hz : decide (a = 0) with
        | true =>
          have := of_decide_eq_true hz
          subst this
          simp only [cond_true, Option.bind_some, e1, decide_true, Bool.not_true, cond_false]
          rw [Nat.add_assoc]
        | false =>
          have hz' := of_decide_eq_false hz
          obtain ⟨c, rfl⟩ : ∃ c : Nat, a = (c : Int) := ⟨a.toNat, by omega⟩
          simp only [cond_false, Take1 (k := k + 200) hs hle (by omega), hr1, Option.bind_some, Int.toNat_natCast]
          cases r with
          | nil =>
            have e2 : decide ((2 : Int) = 0) = false := rfl
            simp only [wlk, e2, decide_false, Bool.not_false, cond_true, Option.bind_some, Seek_spec hs (show a0 ≤ 8 * s.length by omega)]
            rfl
          | cons b2 r2 =>
            simp only [wlk, mvdStep, e1, decide_true, Bool.not_true, cond_false]
            cases b2 with
            | true =>
              have e4 : decide (((true.toNat : Nat) : Int) = 1) = true := rfl
              simp only [e4, cond_true, Option.bind_some, e1, decide_true, Bool.not_true, cond_false]
              rw [wr, wrap64 (by omega) (by omega), Int.zero_sub]
              rw [Nat.add_assoc, Nat.add_assoc]
            | false =>
              have e4 : decide (((false.toNat : Nat) : Int) = 1) = false := rfl
              simp only [e4, cond_false]
              by_cases h31 : 31 < c
              · simp only [show decide ((31 : Int) < (c : Int)) = true by simp <;> omega, show decide (31 < c) = true by simp <;> omega, cond_true, Option.bind_some, e3, decide_false, Bool.not_false, Seek_spec hs (show a0 ≤ 8 * s.length by omega)]
                rfl
              · simp only [show decide ((31 : Int) < (c : Int)) = false by simp <;> omega, show decide (31 < c) = false by simp <;> omega, cond_false, Option.bind_some, e1, decide_true, Bool.not_true]
                rw [Nat.add_assoc, Nat.add_assoc]
      | false =>
        simp only [cond_false, Option.bind_some, e1, decide_true, Bool.not_true]
        have ih := mvd_walk k hs (a0 := a0) r (n + 1) (2 * v + b.toNat) fuel hr1 hle (by simp at h3; omega) (hi2 rfl rfl)
        rw [show wr .i64 (((n + 1 : Nat) : Int) + 1) = ((n + 1 + 1 : Nat) : Int) by rw [wr, wrap64 (by omega) (by omega)]; simp]
        rw [show a0 + n + 1 = a0 + (n + 1) by omega, ih]
        rfl

theorem mvd_spec {k : Nat} {s : List UInt8} (hs : Small s) (hk : 8 * s.length + 300 < k) {a : Nat} (ha : a ≤ 8 * s.length) :
    mvd_Take k (Rd s a) = some (match rdMvd (bitsFrom s a) with | .inr x => ((x.1, (0, ())), Rd s (a + x.2)) | .inl e => ((0, ((e : Int), ())), Rd s a)) := by
  obtain ⟨k', rfl⟩ : ∃ k', k = k' + 200 := ⟨k - 200, by omega⟩
  have h := mvd_walk k' hs (a0 := a) (bitsFrom s a) 0 0 (k' + 200) rfl ha (by rw [bitsFrom_length]; omega) (List.mem_cons_self ..)
  have hw := wlk_same (mvd_same k') (bitsFrom s a) [] (.inl (0, 0)) 0 mvd_start
  rw [hw] at h
  simp only [mvd_Take, inbits_Reader_At, Option.bind_some]
  have h' : mvd_Takeu4 (k' + 200) (k' + 200) (a : Int) 0 1 (Rd s a) = _ := h
  rw [h']
  simp only [rdMvd, Option.bind_some]
  cases wlk (rowStep rows8) [] (bitsFrom s a) 0 <;> rfl
end Go.Proofs.YtlemoepklgfjoaaDoor
