/-
  Reading a block as the page tells it; steps; vectors.
-/
import Derived.Test.YtlemoepklgfjoaaDoorLBlocks
set_option maxRecDepth 100000
namespace Go.Proofs.YtlemoepklgfjoaaDoor
open Go Go.Av

theorem ref15_loop {k : Nat} (hk : 1000 < k) {B : List Bool} {a0 : Int} (hb : B.length ≤ 1000000000000) : ∀ (f n fuel to : Nat) (acc : List DEvent), 65 ≤ n + f → f < fuel → n ≤ 64 → to ≤ B.length → acc.length ≤ n →
    overspillref15_Takeu2 k fuel (chs B) a0 true (to : Int) ((n : Int) - 1) acc = some (match rdEvents f n (B.drop to) with | .inr x => .inr ((((to + x.2 : Nat) : Int), ()), acc ++ x.1) | .inl e => .inl ((0, ((), (a0, ((e : Int), ())))), ([], match overspillref15_Takeu2 k fuel (chs B) a0 true (to : Int) ((n : Int) - 1) acc with | some (.inl z) => z.2.2 | _ => [])))
  | 0, n, fuel, to, acc, h1, h2, h3, h4, h5 => by omega
  | f + 1, n, 0, to, acc, h1, h2, h3, h4, h5 => by omega
  | f + 1, n, fuel + 1, to, acc, h1, h2, h3, h4, h5 => by
    simp only [overspillref15_Takeu2, cond_true, ref09_spec hk hb h4, rdEvents]
    cases hr : rdTcoef (B.drop to) with
    | inl e =>
      have he := rdTcoef_err hr
      simp only [Option.bind_some, show decide ((e : Int) = 0) = false by simp <;> omega, Bool.not_false, cond_true]
    | inr p =>
      obtain ⟨x, m⟩ := p
      obtain ⟨hm1, hm2, ⟨q, hq, hq2⟩, _, _⟩ := rdTcoef_range hr
      rw [List.length_drop] at hm2
      have e1 : wr .i64 (wr .i64 (((n : Int) - 1) + x.2.1) + 1) = ((n + q : Nat) : Int) := by
        rw [hq, wr, wr, wrap64 (x := (n : Int) - 1 + (q : Int)) (by omega) (by omega), wrap64 (by omega) (by omega)]; simp <;> omega
      have e2 : x.2.1.toNat = q := by rw [hq]; simp
      simp only [Option.bind_some, decide_true, Bool.not_true, cond_false, e1, e2]
      by_cases h64 : 64 < n + q + 1
      · rw [if_pos h64, show decide ((63 : Int) < ((n + q : Nat) : Int)) = true by simp <;> omega]
        rfl
      · rw [if_neg h64, show decide ((63 : Int) < ((n + q : Nat) : Int)) = false by simp <;> omega]
        have e3 : decide (acc.length + 1 ≤ rowMax) = true := by simp [rowMax]; omega
        simp only [cond_false, e3, cond_true]
        cases hx : x.1 with
        | true =>
          cases fuel with
          | zero => omega
          | succ fuel => rfl
        | false =>
          have ih := ref15_loop hk (a0 := a0) hb f (n + q + 1) fuel (to + m) (acc ++ [x]) (by omega) (by omega) (by omega) (by omega) (by simp; omega)
          rw [← List.drop_drop, show (((n + q + 1 : Nat) : Int) - 1) = ((n + q : Nat) : Int) by omega] at ih
          simp only [Bool.not_false, cond_false]
          rw [ih]
          cases hz : rdEvents f (n + q + 1) ((B.drop to).drop m) with
          | inl e => rfl
          | inr y =>
            simp only [Option.bind_some, Sum.elim_inr, List.append_assoc, List.singleton_append, Nat.add_assoc]

theorem ref15_spec {k : Nat} (hk : 1000 < k) {B : List Bool} {a : Nat} (hb : B.length ≤ 1000000000000) (ha : a ≤ B.length) (intra coded : Bool) :
    overspillref15_Take k (chs B) (a : Int) intra coded = some (match rdBlock intra coded (B.drop a) with | .inr x => (x.1.1, (x.1.2, (((a + x.2 : Nat) : Int), (0, ())))) | .inl e => (0, ([], ((a : Int), ((e : Int), ()))))) := by
  have h1 : overspillref15_Takeu1 k (chs B) (a : Int) 0 (a : Int) intra = some (match rdFirst intra (B.drop a) with | .inr x => .inr (x.1, ((a + x.2 : Nat) : Int)) | .inl e => .inl ((0, ((), ((a : Int), (e : Int)))), [])) := by
    cases intra with
    | false => rfl
    | true =>
      have e0 : wr .i64 ((((chs B).length : Nat) : Int) - (a : Int)) = ((B.length - a : Nat) : Int) := by rw [chs_length, wr, wrap64 (by omega) (by omega)]; omega
      simp only [overspillref15_Takeu1, cond_true, e0, rdFirst, List.length_drop]
      by_cases h8 : B.length - a < 8
      · rw [if_pos h8, show decide (((B.length - a : Nat) : Int) < 8) = true by simp <;> omega]; rfl
      · rw [if_neg h8, show decide (((B.length - a : Nat) : Int) < 8) = false by simp <;> omega]
        have f8 : wr .i64 ((a : Int) + 8) = ((a + 8 : Nat) : Int) := by rw [wr, wrap64 (by omega) (by omega)]; simp
        have g1 : decide ((0 : Int) ≤ (a : Int) ∧ (a : Int) ≤ ((a + 8 : Nat) : Int) ∧ ((a + 8 : Nat) : Int) ≤ (((chs B).length : Nat) : Int)) = true := by rw [chs_length]; simp <;> omega
        have hl : ((B.drop a).take 8).length ≤ 60 := by rw [List.length_take]; omega
        simp only [cond_false, f8, g1, cond_true, Int.toNat_natCast, chs_drop_take, ref02_Number_spec (k := k) hl (by omega), Option.bind_some, overspillref15_Takeu0]
        have hlt := num8_lt (B.drop a)
        generalize numB ((B.drop a).take 8) = v at hlt
        by_cases h0 : v = 0
        · subst h0; rw [if_pos (.inl rfl)]; rfl
        · rw [show decide (((v : Nat) : Int) = 0) = false by simp <;> omega]
          by_cases h128 : v = 128
          · subst h128; rw [if_pos (.inr rfl)]; rfl
          · rw [if_neg (by omega)]
            simp only [cond_false, show decide (((v : Nat) : Int) = 128) = false by simp <;> omega, Option.bind_some]
            by_cases h255 : v = 255
            · subst h255; rfl
            · rw [if_neg h255]
              simp only [show decide (((v : Nat) : Int) = 255) = false by simp <;> omega, cond_false]
  simp only [overspillref15_Take, h1, Option.bind_some, rdBlock]
  cases hf : rdFirst intra (B.drop a) with
  | inl e => rfl
  | inr p =>
    obtain ⟨d, c⟩ := p
    have hc := rdFirst_range hf
    rw [List.length_drop] at hc
    have hfrom : overspillref15_from k intra = some ((fromN intra : Nat) : Int) := by cases intra <;> rfl
    have e1 : wr .i64 (((fromN intra : Nat) : Int) - 1) = ((fromN intra : Nat) : Int) - 1 := by cases intra <;> decide
    simp only [Sum.elim_inr, hfrom, Option.bind_some, e1]
    cases coded with
    | false =>
      obtain ⟨k', rfl⟩ : ∃ k', k = k' + 1 := ⟨k - 1, by omega⟩
      simp only [overspillref15_Takeu2, cond_false, Option.bind_some, Sum.elim_inr, rdCoded, Nat.add_zero]
    | true =>
      have h2 := ref15_loop hk (a0 := (a : Int)) hb (65 - fromN intra) (fromN intra) k (a + c) [] (by cases intra <;> decide) (by omega) (by cases intra <;> decide) (by omega) (by simp)
      rw [← List.drop_drop] at h2
      rw [h2]
      simp only [rdCoded, cond_true]
      cases hq : rdEvents (65 - fromN intra) (fromN intra) ((B.drop a).drop c) with
      | inl e => rfl
      | inr y => simp only [Option.bind_some, Sum.elim_inr, List.nil_append, Nat.add_assoc]

/-! ### Steps -/
def rdStep (rest : List Bool) : Sum Nat (Int × Nat) :=
  match rest with
  | a :: b :: _ => .inr (bif a then (bif b then 2 else 1) else (bif b then -2 else -1), 2)
  | _ => .inl 2
theorem step_spec {k : Nat} {s : List UInt8} (hs : Small s) (hk : 32 < k) {a : Nat} (ha : a ≤ 8 * s.length) :
    steps_Take k (Rd s a) = some (match rdStep (bitsFrom s a) with | .inr x => ((x.1, (0, ())), Rd s (a + x.2)) | .inl e => ((0, ((e : Int), ())), Rd s a)) := by
  have h2 : inbits_Reader_Take k 2 (Rd s a) = _ := Take_spec hs (m := 2) (by decide) ha hk
  simp only [steps_Take, h2]
  match hb : bitsFrom s a with
  | [] => rfl
  | [_] => rfl
  | x :: y :: r =>
    rw [if_pos (by simp)]
    cases x <;> cases y <;> rfl
theorem ref20_spec {k : Nat} (hk : 60 < k) {B : List Bool} {a : Nat} (hb : B.length ≤ 1000000000000) (ha : a ≤ B.length) :
    overspillref20_Take k (chs B) (a : Int) = some (match rdStep (B.drop a) with | .inr x => (x.1, (((a + x.2 : Nat) : Int), (0, ()))) | .inl e => (0, ((a : Int), ((e : Int), ())))) := by
  have e0 : wr .i64 ((((chs B).length : Nat) : Int) - (a : Int)) = (((B.drop a).length : Nat) : Int) := by rw [chs_length, List.length_drop, wr, wrap64 (by omega) (by omega)]; omega
  have f2 : wr .i64 ((a : Int) + 2) = ((a + 2 : Nat) : Int) := by rw [wr, wrap64 (by omega) (by omega)]; simp
  simp only [overspillref20_Take, e0, f2]
  have hl := List.length_drop (l := B) (i := a)
  match hd : B.drop a with
  | [] => rfl
  | [_] => rfl
  | x :: y :: r =>
    rw [hd] at hl
    simp only [List.length_cons] at hl
    have g1 : decide ((0 : Int) ≤ (a : Int) ∧ (a : Int) ≤ ((a + 2 : Nat) : Int) ∧ ((a + 2 : Nat) : Int) ≤ (((chs B).length : Nat) : Int)) = true := by rw [chs_length]; simp <;> omega
    have g2 : decide (((((x :: y :: r).length : Nat)) : Int) < 2) = false := by simp <;> omega
    have hl2 : ((B.drop a).take 2).length ≤ 60 := by rw [List.length_take]; omega
    simp only [g2, cond_false, g1, cond_true, Int.toNat_natCast, chs_drop_take, ref02_Number_spec (k := k) hl2 hk, Option.bind_some]
    rw [hd]
    cases x <;> cases y <;> rfl

/-! ### Numbers from -32 to 31 -/
def wrapI (n : Int) : Int := if Int.tmod n 64 < -32 then Int.tmod n 64 + 64 else if 32 ≤ Int.tmod n 64 then Int.tmod n 64 - 64 else Int.tmod n 64
theorem tmod64 (n : Int) : -64 < Int.tmod n 64 ∧ Int.tmod n 64 < 64 := by
  constructor
  · have := Int.lt_tmod_of_pos n (b := 64) (by decide); omega
  · exact Int.tmod_lt_of_pos n (by decide)
theorem wrapI_range (n : Int) : -32 ≤ wrapI n ∧ wrapI n ≤ 31 := by
  have := tmod64 n
  unfold wrapI
  split
  · omega
  · split <;> omega
theorem Wrap_spec (k : Nat) (n : Int) : whole_Wrap k n = some (wrapI n) := by
  have := tmod64 n
  simp only [whole_Wrap, wrapI]
  by_cases h1 : Int.tmod n 64 < -32
  · rw [if_pos h1, decide_eq_true h1, cond_true, wr, wrap64 (by omega) (by omega)]
  · rw [if_neg h1, decide_eq_false h1, cond_false]
    by_cases h2 : 32 ≤ Int.tmod n 64
    · rw [if_pos h2, decide_eq_true h2, cond_true, wr, wrap64 (by omega) (by omega)]
    · rw [if_neg h2, decide_eq_false h2, cond_false]
theorem ref01_Wrap_spec (k : Nat) (n : Int) : overspillref01_Wrap k n = some (wrapI n) := by
  have := tmod64 n
  simp only [overspillref01_Wrap, wrapI]
  by_cases h0 : Int.tmod n 64 < 0
  · rw [decide_eq_true h0, cond_true, wr, wr, wrap64 (x := Int.tmod n 64 + 64) (by omega) (by omega)]
    by_cases h1 : 31 < Int.tmod n 64 + 64
    · rw [decide_eq_true h1, cond_true, wrap64 (by omega) (by omega), if_neg (by omega), if_neg (by omega)]
      congr 1; omega
    · rw [decide_eq_false h1, cond_false, if_pos (by omega)]
  · rw [decide_eq_false h0, cond_false]
    by_cases h1 : 31 < Int.tmod n 64
    · rw [decide_eq_true h1, cond_true, wr, wrap64 (by omega) (by omega), if_neg (by omega), if_pos (by omega)]
    · rw [decide_eq_false h1, cond_false, if_neg (by omega), if_neg (by omega)]
theorem rdMvd_range {r : List Bool} {d : Int} {m : Nat} (h : rdMvd r = .inr (d, m)) : m ≤ r.length ∧ -32 ≤ d ∧ d ≤ 31 := by
  unfold rdMvd at h
  cases hw : wlk (rowStep rows8) [] r 0 with
  | inl e => rw [hw] at h; cases h
  | inr p =>
    obtain ⟨i, c⟩ := p
    have hc := wlk_le hw
    have hi := wlk_row_lt hw
    rw [rows8_len] at hi
    rw [hw] at h
    simp only [Sum.inr.injEq, Prod.mk.injEq] at h
    obtain ⟨rfl, rfl⟩ := h
    omega
theorem rdMvd_err {r : List Bool} {e : Nat} (h : rdMvd r = .inl e) : e ≠ 0 := by
  unfold rdMvd at h
  cases hw : wlk (rowStep rows8) [] r 0 with
  | inl e' => rw [hw] at h; simp only [Sum.inl.injEq] at h; have := wlk_err hw; omega
  | inr p => rw [hw] at h; cases h
theorem rdMcbpc_range {inter : Bool} {r : List Bool} {x : Nat × Nat} {m : Nat} (h : rdMcbpc inter r = .inr (x, m)) : 1 ≤ m ∧ m ≤ r.length ∧ x.1 ≤ 5 ∧ x.1 ≠ 2 ∧ x.2 ≤ 3 ∧ (inter = false → 3 ≤ x.1) := by
  unfold rdMcbpc at h
  cases hw : wlk (rowStep (rows6 inter)) [] r 0 with
  | inl e => rw [hw] at h; cases h
  | inr p =>
    obtain ⟨i, c⟩ := p
    have hc := wlk_le hw
    have hi := wlk_row_lt hw
    rw [rows6_idx] at hi
    rw [hw] at h
    simp only at h
    split at h
    · cases h
    · rename_i h2
      simp only [Sum.inr.injEq, Prod.mk.injEq] at h
      obtain ⟨rfl, rfl⟩ := h
      simp only
      cases inter <;> simp at hi h2 ⊢ <;> omega
theorem rdMcbpc_err {inter : Bool} {r : List Bool} {e : Nat} (h : rdMcbpc inter r = .inl e) : e ≠ 0 := by
  unfold rdMcbpc at h
  cases hw : wlk (rowStep (rows6 inter)) [] r 0 with
  | inl e' => rw [hw] at h; simp only [Sum.inl.injEq] at h; have := wlk_err hw; omega
  | inr p =>
    obtain ⟨i, c⟩ := p
    rw [hw] at h
    simp only at h
    split at h
    · simp only [Sum.inl.injEq] at h; omega
    · cases h
theorem rdCbpy_range {intra : Bool} {r : List Bool} {x m : Nat} (h : rdCbpy intra r = .inr (x, m)) : m ≤ r.length ∧ x ≤ 15 := by
  unfold rdCbpy at h
  cases hw : wlk (rowStep rows7) [] r 0 with
  | inl e => rw [hw] at h; cases h
  | inr p =>
    obtain ⟨i, c⟩ := p
    have hc := wlk_le hw
    have hi := wlk_row_lt hw
    rw [rows7_len] at hi
    rw [hw] at h
    simp only [Sum.inr.injEq, Prod.mk.injEq] at h
    obtain ⟨rfl, rfl⟩ := h
    cases intra <;> simp <;> omega
theorem rdCbpy_err {intra : Bool} {r : List Bool} {e : Nat} (h : rdCbpy intra r = .inl e) : e ≠ 0 := by
  unfold rdCbpy at h
  cases hw : wlk (rowStep rows7) [] r 0 with
  | inl e' => rw [hw] at h; simp only [Sum.inl.injEq] at h; have := wlk_err hw; omega
  | inr p => rw [hw] at h; cases h
theorem rdStep_range {r : List Bool} {x : Int} {m : Nat} (h : rdStep r = .inr (x, m)) : m = 2 ∧ 2 ≤ r.length := by
  unfold rdStep at h
  split at h
  · simp only [Sum.inr.injEq, Prod.mk.injEq] at h
    exact ⟨h.2.symm, by simp⟩
  · cases h
theorem rdStep_err {r : List Bool} {e : Nat} (h : rdStep r = .inl e) : e ≠ 0 := by
  unfold rdStep at h
  split at h
  · cases h
  · simp only [Sum.inl.injEq] at h; omega
end Go.Proofs.YtlemoepklgfjoaaDoor
