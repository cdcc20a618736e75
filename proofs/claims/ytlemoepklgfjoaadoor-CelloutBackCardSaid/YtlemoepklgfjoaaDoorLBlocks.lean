/-
  Reading a block: the program's reader tells what the page's does.
-/
import Derived.Test.YtlemoepklgfjoaaDoorLCodes5
set_option maxRecDepth 100000
namespace Go.Proofs.YtlemoepklgfjoaaDoor
open Go Go.Av

abbrev EvD : DEvent := (false, (0, (0, ())))
theorem escOf_range {r : List Bool} {x : DEvent} (h : escOf r = .inr x) : 15 ≤ r.length ∧ (∃ n : Nat, x.2.1 = n ∧ n < 64) ∧ -127 ≤ x.2.2.1 ∧ x.2.2.1 ≤ 127 := by
  unfold escOf at h
  split at h
  · cases h
  · rename_i h15
    split at h
    · cases h
    · rename_i hl
      simp only [Sum.inr.injEq] at h
      subst h
      have h6 : ((r.drop 1).take 6).length ≤ 6 := by rw [List.length_take]; omega
      have h8 : ((r.drop 7).take 8).length ≤ 8 := by rw [List.length_take]; omega
      have hy := lvl_range (c := numB ((r.drop 7).take 8)) (numB_lt_of (n := 8) h8)
      refine ⟨by omega, ⟨_, rfl, numB_lt_of (n := 6) h6⟩, ?_, hy.2⟩
      simp only
      omega
theorem rdTcoef_range {r : List Bool} {x : DEvent} {m : Nat} (h : rdTcoef r = .inr (x, m)) : 1 ≤ m ∧ m ≤ r.length ∧ (∃ n : Nat, x.2.1 = n ∧ n < 64) ∧ -127 ≤ x.2.2.1 ∧ x.2.2.1 ≤ 127 := by
  unfold rdTcoef at h
  cases hw : wlk (rowStep rows9) [] r 0 with
  | inl e => rw [hw] at h; cases h
  | inr p =>
    obtain ⟨i, c⟩ := p
    have hc := wlk_le hw
    rw [hw] at h
    simp only at h
    split at h
    · cases he : escOf (r.drop c) with
      | inl e => rw [he] at h; cases h
      | inr y =>
        rw [he] at h
        simp only [Sum.inr.injEq, Prod.mk.injEq] at h
        obtain ⟨rfl, rfl⟩ := h
        have := escOf_range he
        rw [List.length_drop] at this
        exact ⟨by omega, by omega, this.2⟩
    · cases hd : r.drop c with
      | nil => rw [hd] at h; cases h
      | cons b q =>
        rw [hd] at h
        simp only [Sum.inr.injEq, Prod.mk.injEq] at h
        obtain ⟨rfl, rfl⟩ := h
        have hl := congrArg List.length hd
        simp only [List.length_drop, List.length_cons] at hl
        obtain ⟨h1, h2, h3, h4⟩ := evAt_small i
        refine ⟨by omega, by omega, ⟨(evAt i).2.1.toNat, by simp only; omega, by omega⟩, ?_, ?_⟩ <;> cases b <;> simp only [cond_true, cond_false] <;> omega
theorem escOf_err {r : List Bool} {e : Nat} (h : escOf r = .inl e) : e = 2 ∨ e = 7 := by
  unfold escOf at h
  split at h
  · simp only [Sum.inl.injEq] at h; omega
  · split at h
    · simp only [Sum.inl.injEq] at h; omega
    · cases h
theorem rdTcoef_err {r : List Bool} {e : Nat} (h : rdTcoef r = .inl e) : e ≠ 0 := by
  unfold rdTcoef at h
  cases hw : wlk (rowStep rows9) [] r 0 with
  | inl e' =>
    rw [hw] at h
    simp only [Sum.inl.injEq] at h
    have := wlk_err hw; omega
  | inr p =>
    obtain ⟨i, c⟩ := p
    rw [hw] at h
    simp only at h
    split at h
    · cases he : escOf (r.drop c) with
      | inl e' =>
        rw [he] at h
        simp only [Sum.inl.injEq] at h
        have := escOf_err he; omega
      | inr y => rw [he] at h; cases h
    · cases hd : r.drop c with
      | nil => rw [hd] at h; simp only [Sum.inl.injEq] at h; omega
      | cons b q => rw [hd] at h; cases h

/-- Events up to the last one. -/
noncomputable def rdEvents : Nat → Nat → List Bool → Sum Nat (List DEvent × Nat)
  | 0, _, _ => .inl 7
  | f + 1, n, rest => match rdTcoef rest with
    | .inl e => .inl e
    | .inr (x, m) => if 64 < n + x.2.1.toNat + 1 then .inl 7 else bif x.1 then .inr ([x], m) else (match rdEvents f (n + x.2.1.toNat + 1) (rest.drop m) with
      | .inl e => .inl e
      | .inr (l, m') => .inr (x :: l, m + m'))
theorem rdEvents_range : ∀ {f n : Nat} {rest : List Bool} {l : List DEvent} {m : Nat}, rdEvents f n rest = .inr (l, m) → m ≤ rest.length ∧ l.length ≤ f
  | 0, n, rest, l, m, h => by cases h
  | f + 1, n, rest, l, m, h => by
    simp only [rdEvents] at h
    cases hr : rdTcoef rest with
    | inl e => rw [hr] at h; cases h
    | inr p =>
      obtain ⟨x, c⟩ := p
      have hc := rdTcoef_range hr
      rw [hr] at h
      simp only at h
      split at h
      · cases h
      · cases hx : x.1 with
        | true =>
          rw [hx] at h
          simp only [cond_true, Sum.inr.injEq, Prod.mk.injEq] at h
          obtain ⟨rfl, rfl⟩ := h
          exact ⟨hc.2.1, by simp⟩
        | false =>
          rw [hx] at h
          simp only [cond_false] at h
          cases hq : rdEvents f (n + x.2.1.toNat + 1) (rest.drop c) with
          | inl e => rw [hq] at h; cases h
          | inr y =>
            obtain ⟨l', m'⟩ := y
            rw [hq] at h
            simp only [Sum.inr.injEq, Prod.mk.injEq] at h
            obtain ⟨rfl, rfl⟩ := h
            have := rdEvents_range hq
            rw [List.length_drop] at this
            exact ⟨by omega, by simp; omega⟩
theorem rdEvents_err : ∀ {f n : Nat} {rest : List Bool} {e : Nat}, rdEvents f n rest = .inl e → e ≠ 0
  | 0, n, rest, e, h => by simp only [rdEvents, Sum.inl.injEq] at h; omega
  | f + 1, n, rest, e, h => by
    simp only [rdEvents] at h
    cases hr : rdTcoef rest with
    | inl e' => rw [hr] at h; simp only [Sum.inl.injEq] at h; subst h; exact rdTcoef_err hr
    | inr p =>
      obtain ⟨x, c⟩ := p
      rw [hr] at h
      simp only at h
      split at h
      · simp only [Sum.inl.injEq] at h; omega
      · cases hx : x.1 with
        | true => rw [hx] at h; cases h
        | false =>
          rw [hx] at h
          simp only [cond_false] at h
          cases hq : rdEvents f (n + x.2.1.toNat + 1) (rest.drop c) with
          | inl e' => rw [hq] at h; simp only [Sum.inl.injEq] at h; subst h; exact rdEvents_err hq
          | inr y => rw [hq] at h; cases h

theorem events_loop {k : Nat} {s : List UInt8} (hs : Small s) (hk : 8 * s.length + 300 < k) : ∀ (f n fuel a : Nat) (acc : List DEvent), 65 ≤ n + f → f ≤ fuel → n ≤ 64 → a ≤ 8 * s.length → acc.length ≤ n →
    ∃ rd : DReader, rd.1 = s ∧ blocks_eventsu0 k fuel (n : Int) (Rd s a) acc = some (match rdEvents f n (bitsFrom s a) with | .inr x => .inr ((), (Rd s (a + x.2), acc ++ x.1)) | .inl e => .inl (((), ((e : Int), ())), (rd, ([], match blocks_eventsu0 k fuel (n : Int) (Rd s a) acc with | some (.inl z) => z.2.2.2 | _ => []))))
  | 0, n, fuel, a, acc, h1, h2, h3, h4, h5 => by omega
  | f + 1, n, 0, a, acc, h1, h2, h3, h4, h5 => by omega
  | f + 1, n, fuel + 1, a, acc, h1, h2, h3, h4, h5 => by
    simp only [blocks_eventsu0, tcoef_spec hs hk h4, rdEvents]
    cases hr : rdTcoef (bitsFrom s a) with
    | inl e =>
      have he := rdTcoef_err hr
      refine ⟨Rd s a, rfl, ?_⟩
      simp only [Option.bind_some, show decide ((e : Int) = 0) = false by simp <;> omega, Bool.not_false, cond_true]
    | inr p =>
      obtain ⟨x, m⟩ := p
      obtain ⟨hm1, hm2, ⟨q, hq, hq2⟩, _, _⟩ := rdTcoef_range hr
      rw [bitsFrom_length] at hm2
      have e1 : wr .i64 ((n : Int) + wr .i64 (x.2.1 + 1)) = ((n + q + 1 : Nat) : Int) := by
        rw [hq, wr, wr, wrap64 (x := (q : Int) + 1) (by omega) (by omega), wrap64 (by omega) (by omega)]; simp <;> omega
      have e2 : x.2.1.toNat = q := by rw [hq]; simp
      simp only [Option.bind_some, decide_true, Bool.not_true, cond_false, e1, e2]
      by_cases h64 : 64 < n + q + 1
      · rw [if_pos h64, show decide ((64 : Int) < ((n + q + 1 : Nat) : Int)) = true by simp <;> omega]
        exact ⟨Rd s (a + m), rfl, rfl⟩
      · rw [if_neg h64, show decide ((64 : Int) < ((n + q + 1 : Nat) : Int)) = false by simp <;> omega]
        have e3 : decide (acc.length + 1 ≤ rowMax) = true := by simp [rowMax]; omega
        simp only [cond_false, e3, cond_true]
        cases hx : x.1 with
        | true => exact ⟨Rd s (a + m), rfl, rfl⟩
        | false =>
          obtain ⟨rd, hrd, ih⟩ := events_loop hs hk f (n + q + 1) fuel (a + m) (acc ++ [x]) (by omega) (by omega) (by omega) (by omega) (by simp; omega)
          rw [bitsFrom_add] at ih
          refine ⟨rd, hrd, ?_⟩
          simp only [cond_false]
          rw [ih]
          cases hz : rdEvents f (n + q + 1) ((bitsFrom s a).drop m) with
          | inl e => rfl
          | inr y =>
            simp only [Option.bind_some, Sum.elim_inr, List.append_assoc, List.singleton_append, Nat.add_assoc]

theorem events_spec {k : Nat} {s : List UInt8} (hs : Small s) (hk : 8 * s.length + 300 < k) {n a : Nat} (hn : n ≤ 1) (ha : a ≤ 8 * s.length) :
    ∃ rd : DReader, rd.1 = s ∧ blocks_events k (n : Int) (Rd s a) = some (match rdEvents (65 - n) n (bitsFrom s a) with | .inr x => ((x.1, (0, ())), Rd s (a + x.2)) | .inl e => (([], ((e : Int), ())), rd)) := by
  obtain ⟨rd, hrd, h⟩ := events_loop hs hk (65 - n) n k a [] (by omega) (by omega) (by omega) ha (by simp)
  refine ⟨rd, hrd, ?_⟩
  simp only [blocks_events]
  rw [h]
  cases rdEvents (65 - n) n (bitsFrom s a) <;> rfl

/-! ### A block -/
def fromN (intra : Bool) : Nat := bif intra then 1 else 0
/-- The first number of a block. -/
def rdFirst (intra : Bool) (rest : List Bool) : Sum Nat (Int × Nat) :=
  bif intra then (if rest.length < 8 then .inl 2 else if numB (rest.take 8) = 0 ∨ numB (rest.take 8) = 128 then .inl 7 else .inr (if numB (rest.take 8) = 255 then 128 else (numB (rest.take 8) : Nat), 8)) else .inr (0, 0)
noncomputable def rdCoded (intra coded : Bool) (rest : List Bool) : Sum Nat (List DEvent × Nat) :=
  bif coded then rdEvents (65 - fromN intra) (fromN intra) rest else .inr ([], 0)
noncomputable def rdBlock (intra coded : Bool) (rest : List Bool) : Sum Nat ((Int × List DEvent) × Nat) :=
  match rdFirst intra rest with
  | .inl e => .inl e
  | .inr (d, m) => match rdCoded intra coded (rest.drop m) with
    | .inl e => .inl e
    | .inr (l, m') => .inr ((d, l), m + m')
theorem rdFirst_range {intra : Bool} {rest : List Bool} {d : Int} {m : Nat} (h : rdFirst intra rest = .inr (d, m)) : m ≤ rest.length := by
  unfold rdFirst at h
  cases intra with
  | false => simp only [cond_false, Sum.inr.injEq, Prod.mk.injEq] at h; omega
  | true =>
    simp only [cond_true] at h
    split at h
    · cases h
    · split at h
      · cases h
      · simp only [Sum.inr.injEq, Prod.mk.injEq] at h; omega
theorem rdFirst_err {intra : Bool} {rest : List Bool} {e : Nat} (h : rdFirst intra rest = .inl e) : e ≠ 0 := by
  unfold rdFirst at h
  cases intra with
  | false => cases h
  | true =>
    simp only [cond_true] at h
    split at h
    · simp only [Sum.inl.injEq] at h; omega
    · split at h
      · simp only [Sum.inl.injEq] at h; omega
      · cases h
theorem rdCoded_range {intra coded : Bool} {rest : List Bool} {l : List DEvent} {m : Nat} (h : rdCoded intra coded rest = .inr (l, m)) : m ≤ rest.length ∧ l.length ≤ 65 := by
  unfold rdCoded at h
  cases coded with
  | false => simp only [cond_false, Sum.inr.injEq, Prod.mk.injEq] at h; obtain ⟨rfl, rfl⟩ := h; exact ⟨Nat.zero_le _, by simp⟩
  | true => have := rdEvents_range h; omega
theorem rdCoded_err {intra coded : Bool} {rest : List Bool} {e : Nat} (h : rdCoded intra coded rest = .inl e) : e ≠ 0 := by
  unfold rdCoded at h
  cases coded with
  | false => cases h
  | true => exact rdEvents_err h
theorem rdBlock_range {intra coded : Bool} {rest : List Bool} {x : Int × List DEvent} {m : Nat} (h : rdBlock intra coded rest = .inr (x, m)) : m ≤ rest.length ∧ x.2.length ≤ 65 := by
  unfold rdBlock at h
  cases hf : rdFirst intra rest with
  | inl e => rw [hf] at h; cases h
  | inr p =>
    obtain ⟨d, c⟩ := p
    rw [hf] at h
    simp only at h
    cases hq : rdCoded intra coded (rest.drop c) with
    | inl e => rw [hq] at h; cases h
    | inr y =>
      obtain ⟨l, c'⟩ := y
      rw [hq] at h
      simp only [Sum.inr.injEq, Prod.mk.injEq] at h
      obtain ⟨rfl, rfl⟩ := h
      have h1 := rdFirst_range hf
      have h2 := rdCoded_range hq
      rw [List.length_drop] at h2
      exact ⟨by omega, h2.2⟩
theorem rdBlock_err {intra coded : Bool} {rest : List Bool} {e : Nat} (h : rdBlock intra coded rest = .inl e) : e ≠ 0 := by
  unfold rdBlock at h
  cases hf : rdFirst intra rest with
  | inl e' => rw [hf] at h; simp only [Sum.inl.injEq] at h; subst h; exact rdFirst_err hf
  | inr p =>
    obtain ⟨d, c⟩ := p
    rw [hf] at h
    simp only at h
    cases hq : rdCoded intra coded (rest.drop c) with
    | inl e' => rw [hq] at h; simp only [Sum.inl.injEq] at h; subst h; exact rdCoded_err hq
    | inr y => rw [hq] at h; cases h

theorem num8_lt (rest : List Bool) : numB (rest.take 8) < 256 := numB_lt_of (n := 8) (by rw [List.length_take]; omega)

theorem first_spec {k : Nat} {s : List UInt8} (hs : Small s) (hk : 32 < k) {a : Nat} (ha : a ≤ 8 * s.length) :
    ∃ rd : DReader, rd.1 = s ∧ blocks_first k (Rd s a) = some (match rdFirst true (bitsFrom s a) with | .inr x => ((x.1, (0, ())), Rd s (a + x.2)) | .inl e => ((0, ((e : Int), ())), rd)) := by
  have h8 : inbits_Reader_Take k 8 (Rd s a) = _ := Take_spec hs (m := 8) (by decide) ha hk
  simp only [blocks_first, h8, rdFirst, cond_true]
  have hlt := num8_lt (bitsFrom s a)
  by_cases h : 8 ≤ (bitsFrom s a).length
  · rw [if_pos h, if_neg (by omega)]
    generalize numB ((bitsFrom s a).take 8) = v at hlt
    simp only [Option.bind_some, decide_true, Bool.not_true, cond_false, blocks_firstu0]
    refine ⟨Rd s (a + 8), rfl, ?_⟩
    by_cases h0 : v = 0
    · subst h0; rw [if_pos (.inl rfl)]; rfl
    · rw [show decide (((v : Nat) : Int) = 0) = false by simp <;> omega]
      by_cases h128 : v = 128
      · subst h128; rw [if_pos (.inr rfl)]; rfl
      · rw [if_neg (by omega)]
        simp only [cond_false, show decide (((v : Nat) : Int) = 128) = false by simp <;> omega, Option.bind_some]
        by_cases h255 : v = 255
        · subst h255; rfl
        · rw [if_neg h255]
          simp only [show decide (((v : Nat) : Int) = 255) = false by simp <;> omega, cond_false]
  · rw [if_neg h, if_pos (by omega)]
    exact ⟨Rd s a, rfl, rfl⟩

theorem block_spec {k : Nat} {s : List UInt8} (hs : Small s) (hk : 8 * s.length + 300 < k) {a : Nat} (ha : a ≤ 8 * s.length) (intra coded : Bool) :
    blocks_Take k intra coded (Rd s a) = some (match rdBlock intra coded (bitsFrom s a) with | .inr x => ((x.1.1, (x.1.2, (0, ()))), Rd s (a + x.2)) | .inl e => ((0, ([], ((e : Int), ()))), Rd s a)) := by
  have hseek : ∀ rd : DReader, rd.1 = s → inbits_Reader_Seek k (a : Int) rd = some (0, Rd s a) := fun rd hrd => by
    have := Seek_any (k := k) hs (a : Int) rd hrd
    rw [if_pos (by omega)] at this
    exact this
  have h0 : ∃ rd : DReader, rd.1 = s ∧ blocks_Takeu0 k 0 0 intra (Rd s a) = some (match rdFirst intra (bitsFrom s a) with | .inr x => ((x.1, 0), Rd s (a + x.2)) | .inl e => ((0, (e : Int)), rd)) := by
    cases intra with
    | false => exact ⟨Rd s a, rfl, rfl⟩
    | true =>
      obtain ⟨rd, hrd, h⟩ := first_spec (k := k) hs (by omega) ha
      refine ⟨rd, hrd, ?_⟩
      simp only [blocks_Takeu0, cond_true, h]
      cases rdFirst true (bitsFrom s a) <;> rfl
  obtain ⟨rd, hrd, h0⟩ := h0
  simp only [blocks_Take, inbits_Reader_At, Option.bind_some, h0, rdBlock]
  cases hf : rdFirst intra (bitsFrom s a) with
  | inl e =>
    have he := rdFirst_err hf
    simp only [blocks_Takeu1, show decide ((e : Int) = 0) = false by simp <;> omega, cond_false, Option.bind_some, blocks_Takeu2, Bool.not_false, cond_true, hseek rd hrd]
  | inr p =>
    obtain ⟨d, c⟩ := p
    have hc := rdFirst_range hf
    rw [bitsFrom_length] at hc
    simp only [blocks_Takeu1, decide_true, cond_true, Option.bind_some, blocks_Takeu2]
    cases coded with
    | false =>
      simp only [cond_false, Option.bind_some, decide_true, Bool.not_true, rdCoded, Nat.add_zero]
    | true =>
      have hfrom : blocks_from k intra = some ((fromN intra : Nat) : Int) := by cases intra <;> rfl
      obtain ⟨rd2, hrd2, h2⟩ := events_spec hs hk (n := fromN intra) (a := a + c) (by cases intra <;> decide) (by omega)
      simp only [cond_true, hfrom, Option.bind_some, h2, rdCoded, bitsFrom_add]
      cases hq : rdEvents (65 - fromN intra) (fromN intra) ((bitsFrom s a).drop c) with
      | inl e =>
        have he := rdEvents_err hq
        simp only [Option.bind_some, show decide ((e : Int) = 0) = false by simp <;> omega, Bool.not_false, cond_true, hseek rd2 hrd2]
      | inr y =>
        simp only [Option.bind_some, decide_true, Bool.not_true, cond_false, Nat.add_assoc]
end Go.Proofs.YtlemoepklgfjoaaDoor
