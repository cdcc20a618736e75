/-
  Reading a cell: the program's reader tells what is told of the bits.
-/
import Derived.Test.YtlemoepklgfjoaaDoorLCellin
set_option maxRecDepth 100000
namespace Go.Proofs.YtlemoepklgfjoaaDoor
open Go Go.Av

theorem bit_spec {k : Nat} {s : List UInt8} (hs : Small s) (hk : 32 < k) {a : Nat} (ha : a ≤ 8 * s.length) : cellin_reader_bit k 0 (Rd s a) = some (match bitsFrom s a with | b :: _ => (((b.toNat : Nat) : Int), (((), (0, ())), Rd s (a + 1))) | [] => (0, (((), (2, ())), Rd s a))) := by
  simp only [cellin_reader_bit, decide_true, Bool.not_true, cond_false, Take1 hs ha hk]
  cases bitsFrom s a <;> rfl

theorem head_loop {k : Nat} {s : List UInt8} (hs : Small s) (hk : 8 * s.length + 300 < k) (inter : Bool) (zz : List Int × List Int × List (List DEvent) × Unit) : ∀ (f st fuel a : Nat), 65 ≤ st + f → f ≤ fuel → st ≤ 64 → a ≤ 8 * s.length →
    ∃ (rd : DReader) (c : DCell), rd.1 = s ∧ cellin_reader_headu1 k fuel inter 0 (Rd s a) ((st : Int), (false, (0, (0, zz)))) = some (match rdBegin f inter st (bitsFrom s a) with
      | .inl e => .inr ((), (((), ((e : Int), ())), (rd, c)))
      | .inr ((st', none), m) => .inl ((0, false), (((), (0, ())), (Rd s (a + m), ((st' : Int), (true, (0, (0, zz)))))))
      | .inr ((st', some x), m) => .inl (((x.2 : Int), true), (((), (0, ())), (Rd s (a + m), ((st' : Int), (false, ((x.1 : Int), (0, zz))))))))
  | 0, st, fuel, a, h1, h2, h3, h4 => by omega
  | f + 1, st, 0, a, h1, h2, h3, h4 => by omega
  | f + 1, st, fuel + 1, a, h1, h2, h3, h4 => by
    have hu : cellin_reader_headu0 k inter 0 (Rd s a) = some (match rdSkip inter (bitsFrom s a) with
        | .inl e => (false, (((), ((e : Int), ())), Rd s a))
        | .inr (b, m) => (b, (((), (0, ())), Rd s (a + m)))) := by
      cases inter with
      | false => rfl
      | true =>
        simp only [cellin_reader_headu0, cond_true, bit_spec hs (show 32 < k by omega) h4, rdSkip]
        cases bitsFrom s a with
        | nil => rfl
        | cons b r => cases b <;> rfl
    simp only [cellin_reader_headu1, decide_true, cond_true, hu, Option.bind_some, rdBegin]
    cases hsk : rdSkip inter (bitsFrom s a) with
    | inl e =>
      have he := rdSkip_err hsk
      refine ⟨Rd s a, ?c, rfl, ?_⟩
      rotate_left
      simp only [cond_false, show decide ((e : Int) = 0) = false by simp <;> omega, Bool.not_false, cond_true]
      rfl
    | inr p =>
      obtain ⟨b, m⟩ := p
      have hm := rdSkip_range hsk
      rw [bitsFrom_length] at hm
      cases b with
      | true => exact ⟨Rd s a, CellD, rfl, rfl⟩
      | false =>
        simp only [cond_false, decide_true, Bool.not_true, mcbpc_spec hs hk (show a + m ≤ 8 * s.length by omega), bitsFrom_add]
        cases hmc : rdMcbpc inter ((bitsFrom s a).drop m) with
        | inl e =>
          have he := rdMcbpc_err hmc
          refine ⟨Rd s (a + m), ?c, rfl, ?_⟩
          rotate_left
          simp only [Option.bind_some, show decide ((e : Int) = 0) = false by simp <;> omega, Bool.not_false, cond_true]
        | inr q =>
          obtain ⟨x, m1⟩ := q
          have hx := rdMcbpc_range hmc
          rw [List.length_drop, bitsFrom_length] at hx
          simp only [Option.bind_some, decide_true, Bool.not_true, cond_false]
          by_cases h5 : x.1 = 5
          · rw [if_neg (by omega)]
            simp only [show decide ((x.1 : Int) = 5) = true by simp <;> omega, Bool.not_true, cond_false]
            by_cases h64 : st = 64
            · rw [if_pos h64]
              simp only [show decide ((st : Int) = 64) = true by simp <;> omega, cond_true]
              exact ⟨Rd s (a + m + m1), _, rfl, rfl⟩
            · rw [if_neg h64]
              simp only [show decide ((st : Int) = 64) = false by simp <;> omega, cond_false]
              obtain ⟨rd, c, hrd, ih⟩ := head_loop hs hk inter zz f (st + 1) fuel (a + m + m1) (by omega) (by omega) (by omega) (by omega)
              refine ⟨rd, c, hrd, ?_⟩
              rw [show wr .i64 ((st : Int) + 1) = ((st + 1 : Nat) : Int) by rw [wr, wrap64 (by omega) (by omega)]; simp, ih]
              rw [show a + m + m1 = a + (m + m1) by omega, bitsFrom_add]
              cases hr : rdBegin f inter (st + 1) ((bitsFrom s a).drop (m + m1)) with
              | inl e => rfl
              | inr y =>
                obtain ⟨⟨st', o⟩, m2⟩ := y
                cases o with
                | none => simp only [Option.bind_some, Sum.elim_inl, Nat.add_assoc]
                | some z => simp only [Option.bind_some, Sum.elim_inl, Nat.add_assoc]
          · rw [if_pos h5]
            simp only [show decide ((x.1 : Int) = 5) = false by simp <;> omega, Bool.not_false, cond_true]
            exact ⟨Rd s a, CellD, rfl, by rw [Nat.add_assoc]⟩

theorem head_spec {k : Nat} {s : List UInt8} (hs : Small s) (hk : 8 * s.length + 300 < k) (inter : Bool) {a : Nat} (ha : a ≤ 8 * s.length) :
    ∃ (rd : DReader) (c : DCell), rd.1 = s ∧ cellin_reader_head k inter 0 (Rd s a) CellD = some (match rdBegin 65 inter 0 (bitsFrom s a) with
      | .inl e => ((0, (false, ())), (((), ((e : Int), ())), (rd, c)))
      | .inr ((st', none), m) => ((0, (false, ())), (((), (0, ())), (Rd s (a + m), cellOf st' true 0 0 Z2 Z6 Ze)))
      | .inr ((st', some x), m) => (((x.2 : Int), (true, ())), (((), (0, ())), (Rd s (a + m), cellOf st' false x.1 0 Z2 Z6 Ze)))) := by
  obtain ⟨rd, c, hrd, h⟩ := head_loop hs hk inter (Z2, (Z6, (Ze, ()))) 65 0 k a (by omega) (by omega) (by omega) ha
  have h' : cellin_reader_headu1 k k inter 0 (Rd s a) CellD = _ := h
  refine ⟨rd, c, hrd, ?_⟩
  simp only [cellin_reader_head, h', Option.bind_some]
  cases rdBegin 65 inter 0 (bitsFrom s a) with
  | inl e => rfl
  | inr y =>
    obtain ⟨⟨st', o⟩, m2⟩ := y
    cases o <;> rfl

theorem intra_spec (k : Nat) (kind : Nat) : cellin_intra k (kind : Int) = some (isIntra kind) := by
  simp only [cellin_intra, isIntra]
  have h3 : decide ((kind : Int) = 3) = decide (kind = 3) := by rw [decide_eq_decide]; omega
  have h4 : decide ((kind : Int) = 4) = decide (kind = 4) := by rw [decide_eq_decide]; omega
  rw [h3, h4]
  cases decide (kind = 3) <;> rfl

/-- The vector's two differences. -/
theorem vec_spec {k : Nat} {s : List UInt8} (hs : Small s) (hk : 8 * s.length + 300 < k) {a : Nat} (ha : a ≤ 8 * s.length) (chroma : Int) (st : Int) (kind : Nat) (step : Int) (p0 p1 : Int) :
    ∃ (rd : DReader) (c : DCell), rd.1 = s ∧ cellin_reader_middleu3 k k 0 0 chroma (Rd s a) (cellOf st false kind step Z2 Z6 Ze) [p0, p1] = some (match rdVec (isIntra kind) p0 p1 (bitsFrom s a) with
      | .inl e => ((e : Int), (((), (chroma, ())), (rd, (c, [p0, p1]))))
      | .inr x => (0, (((), (chroma, ())), (Rd s (a + x.2), (cellOf st false kind step x.1 Z6 Ze, [p0, p1]))))) := by
  obtain ⟨k', rfl⟩ : ∃ k', k = k' + 3 := ⟨k - 3, by omega⟩
  have w1 : wr .i64 (0 + 1) = 1 := by kernel_rfl
  have w2 : wr .i64 (1 + 1) = 2 := by kernel_rfl
  have r0 : inR 0 2 = true := by kernel_rfl
  have r1 : inR 1 2 = true := by kernel_rfl
  have d0 : decide ((0 : Int) < 2) = true := by decide
  have d1 : decide ((1 : Int) < 2) = true := by decide
  have d2 : decide ((2 : Int) < 2) = false := by decide
  have t0 : Int.toNat 0 = 0 := rfl
  have t1 : Int.toNat 1 = 1 := rfl
  simp only [cellin_reader_middleu3, cellin_reader_middleu2, d0, d1, d2, decide_true, cond_true, cond_false, intra_spec, Option.bind_some, rdVec, w1, w2]
  cases hi : isIntra kind with
  | true => exact ⟨Rd s a, CellD, rfl, rfl⟩
  | false =>
    simp only [Bool.not_false, cond_true, cond_false, mvd_spec hs hk ha, r0, r1, Wrap_spec, Option.bind_some]
    cases h0 : rdMvd (bitsFrom s a) with
    | inl e =>
      have he := rdMvd_err h0
      simp only [show decide ((e : Int) = 0) = false by simp <;> omega, cond_false, Option.bind_some]
      exact ⟨Rd s a, _, rfl, rfl⟩
    | inr x =>
      obtain ⟨v0, m0⟩ := x
      have hr0 := rdMvd_range h0
      rw [bitsFrom_length] at hr0
      simp only [decide_true, cond_true, Option.bind_some, Bool.not_false, mvd_spec hs hk (show a + m0 ≤ 8 * s.length by omega), bitsFrom_add, intra_spec, hi]
      cases h1 : rdMvd ((bitsFrom s a).drop m0) with
      | inl e => exact ⟨Rd s (a + m0), _, rfl, rfl⟩
      | inr y =>
        obtain ⟨v1, m1⟩ := y
        have hr1 := rdMvd_range h1
        have hw0 := wrapI_range p0
        have hw1 := wrapI_range p1
        refine ⟨Rd s a, CellD, rfl, ?_⟩
        have g0 : List.getD [p0, p1] 0 0 = p0 := rfl
        have g1 : List.getD [p0, p1] 1 0 = p1 := rfl
        simp only [Option.bind_some, t0, t1, g0, g1]
        rw [wr, wr, wrap64 (x := wrapI p0 + v0) (by omega) (by omega), wrap64 (x := wrapI p1 + v1) (by omega) (by omega), Nat.add_assoc]

/-- What stands between the kind and the blocks. -/
noncomputable def rdMid (kind : Nat) (p0 p1 : Int) (rest : List Bool) : Sum Nat ((Nat × Int × List Int) × Nat) :=
  match rdCbpy (isIntra kind) rest with
  | .inl e => .inl e
  | .inr (pat, m1) => match rdSteps kind (rest.drop m1) with
    | .inl e => .inl e
    | .inr (step, m2) => match rdVec (isIntra kind) p0 p1 (rest.drop (m1 + m2)) with
      | .inl e => .inl e
      | .inr (mv, m3) => .inr ((pat, step, mv), m1 + m2 + m3)

theorem skip_vec {k : Nat} (e : Int) (he : e ≠ 0) (chroma : Int) (rd : DReader) (c : DCell) (l : List Int) : cellin_reader_middleu3 (k + 3) (k + 3) e 0 chroma rd c l = some (e, (((), (chroma, ())), (rd, (c, l)))) := by
  have w1 : wr .i64 (0 + 1) = 1 := by kernel_rfl
  have w2 : wr .i64 (1 + 1) = 2 := by kernel_rfl
  have d0 : decide ((0 : Int) < 2) = true := by decide
  have d1 : decide ((1 : Int) < 2) = true := by decide
  have d2 : decide ((2 : Int) < 2) = false := by decide
  simp only [cellin_reader_middleu3, cellin_reader_middleu2, d0, d1, d2, cond_true, cond_false, decide_eq_false he, Option.bind_some, w1, w2]

theorem middle_spec {k : Nat} {s : List UInt8} (hs : Small s) (hk : 8 * s.length + 300 < k) {a : Nat} (ha : a ≤ 8 * s.length) (st : Int) (kind : Nat) (p0 p1 : Int) :
    ∃ (rd : DReader) (c : DCell) (pt : Int), rd.1 = s ∧ cellin_reader_middle k [p0, p1] 0 (Rd s a) (cellOf st false kind 0 Z2 Z6 Ze) = some (match rdMid kind p0 p1 (bitsFrom s a) with
      | .inl e => (pt, (((), ((e : Int), ())), (rd, c)))
      | .inr x => ((x.1.1 : Int), (((), (0, ())), (Rd s (a + x.2), cellOf st false kind x.1.2.1 x.1.2.2 Z6 Ze)))) := by
  simp only [cellin_reader_middle, intra_spec, Option.bind_some, cbpy_spec hs hk ha, rdMid]
  obtain ⟨k', hk3⟩ : ∃ k', k = k' + 3 := ⟨k - 3, by omega⟩
  cases h0 : rdCbpy (isIntra kind) (bitsFrom s a) with
  | inl e =>
    have he := rdCbpy_err h0
    have he' : (e : Int) ≠ 0 := by omega
    simp only [cellin_reader_middleu0, decide_eq_false he', cond_false, Option.bind_some, cellin_reader_middleu1]
    rw [hk3, skip_vec _ he']
    exact ⟨Rd s a, _, _, rfl, rfl⟩
  | inr x =>
    obtain ⟨pat, m1⟩ := x
    have hr1 := rdCbpy_range h0
    rw [bitsFrom_length] at hr1
    have hst : cellin_reader_middleu0 k 0 (cellOf st false kind 0 Z2 Z6 Ze) = some (stepped kind, cellOf st false kind 0 Z2 Z6 Ze) := by
      simp only [cellin_reader_middleu0, stepped, decide_true, cond_true]
      have h3 : decide ((kind : Int) = 1) = decide (kind = 1) := by rw [decide_eq_decide]; omega
      have h4 : decide ((kind : Int) = 4) = decide (kind = 4) := by rw [decide_eq_decide]; omega
      rw [h3, h4]
      cases decide (kind = 1) <;> rfl
    have hst2 : ∃ rd c, rd.1 = s ∧ cellin_reader_middleu1 k 0 (stepped kind) 0 (Rd s (a + m1)) (cellOf st false kind 0 Z2 Z6 Ze) = some (match rdSteps kind ((bitsFrom s a).drop m1) with
        | .inl e => ((e : Int), (((), (0, ())), (rd, c)))
        | .inr y => (0, (((), (0, ())), (Rd s (a + m1 + y.2), cellOf st false kind y.1 Z2 Z6 Ze)))) := by
      simp only [cellin_reader_middleu1, rdSteps]
      cases stepped kind with
      | false => exact ⟨Rd s a, CellD, rfl, rfl⟩
      | true =>
        simp only [cond_true, step_spec hs (show 32 < k by omega) (show a + m1 ≤ 8 * s.length by omega), bitsFrom_add]
        cases rdStep ((bitsFrom s a).drop m1) with
        | inl e => exact ⟨Rd s (a + m1), _, rfl, rfl⟩
        | inr y => exact ⟨Rd s a, CellD, rfl, rfl⟩
    obtain ⟨rd, c, hrd, hst2⟩ := hst2
    simp only [hst, Option.bind_some, hst2]
    cases h1 : rdSteps kind ((bitsFrom s a).drop m1) with
    | inl e =>
      have he := rdSteps_err h1
      have he' : (e : Int) ≠ 0 := by omega
      simp only
      rw [hk3, skip_vec _ he']
      exact ⟨rd, c, _, hrd, rfl⟩
    | inr y =>
      obtain ⟨step, m2⟩ := y
      have hr2 := rdSteps_range h1
      rw [List.length_drop, bitsFrom_length] at hr2
      obtain ⟨rd2, c2, hrd2, h3⟩ := vec_spec hs hk (show a + m1 + m2 ≤ 8 * s.length by omega) 0 st kind step p0 p1
      have eA : a + m1 + m2 = a + (m1 + m2) := by omega
      rw [eA, bitsFrom_add] at h3
      simp only [eA, h3]
      refine ⟨rd2, c2, (pat : Int), hrd2, ?_⟩
      cases rdVec (isIntra kind) p0 p1 ((bitsFrom s a).drop (m1 + m2)) with
      | inl e => rfl
      | inr z => simp only [Option.bind_some, Nat.add_assoc]

theorem coded_bit {cbp n : Nat} (hn : n ≤ 5) (hc : cbp < 64) : decide (bitop .and .i64 (shrI .i64 (cbp : Int) (wr .u64 (wr .i64 (5 - ((5 - n : Nat) : Int))))) 1 = 1) = cbp.testBit n := by
  have e1 : wr .u64 (wr .i64 (5 - ((5 - n : Nat) : Int))) = ((n : Nat) : Int) := by
    rw [wr, wr, wrap64 (by omega) (by omega), wrapU64 (by omega) (by omega)]; omega
  have h1 := shrI_nat (a := cbp) (n := n) (by omega)
  have h2 : bitop .and .i64 ((cbp / 2 ^ n : Nat) : Int) 1 = _ := bitop_and (a := cbp / 2 ^ n) (b := 1) (by have := Nat.div_le_self cbp (2 ^ n); omega) (by decide)
  rw [e1, h1, h2, and_one, testBit_div, decide_eq_decide]
  omega

theorem body_loop {k : Nat} {s : List UInt8} (hs : Small s) (hk : 8 * s.length + 300 < k) {cbp : Nat} (hc : cbp < 64) (st : Int) (kind : Nat) (step : Int) (mv : List Int) : ∀ (n fuel a : Nat) (dc : List Int) (ev : List (List DEvent)), n ≤ 6 → n < fuel → a ≤ 8 * s.length →
    ∃ (rd : DReader) (c : DCell), rd.1 = s ∧ (match rdBlocks (isIntra kind) cbp n dc ev (bitsFrom s a) with
      | .inl e => cellin_reader_bodyu0 k fuel (cbp : Int) ((6 - n : Nat) : Int) 0 (Rd s a) (cellOf st false kind step mv dc ev) = some (.inl ((), (((), ((e : Int), ())), (rd, c)))) ∨ cellin_reader_bodyu0 k fuel (cbp : Int) ((6 - n : Nat) : Int) 0 (Rd s a) (cellOf st false kind step mv dc ev) = some (.inr ((), (((), ((e : Int), ())), (rd, c))))
      | .inr y => cellin_reader_bodyu0 k fuel (cbp : Int) ((6 - n : Nat) : Int) 0 (Rd s a) (cellOf st false kind step mv dc ev) = some (.inr ((), (((), (0, ())), (Rd s (a + y.2), cellOf st false kind step mv y.1.1 y.1.2)))))
  | 0, 0, a, dc, ev, h1, h2, h3 => by omega
  | 0, fuel + 1, a, dc, ev, h1, h2, h3 => ⟨Rd s a, CellD, rfl, rfl⟩
  | n + 1, 0, a, dc, ev, h1, h2, h3 => by omega
  | n + 1, fuel + 1, a, dc, ev, h1, h2, h3 => by
    have hlt : decide (((6 - (n + 1) : Nat) : Int) < 6) = true := by simp <;> omega
    have e5 : (6 - (n + 1) : Nat) = 5 - n := by omega
    have eneg : decide (wr .u64 (wr .i64 (5 - ((5 - n : Nat) : Int))) < 0) = false := by
      rw [wr, wr, wrap64 (by omega) (by omega), wrapU64 (by omega) (by omega)]; simp <;> omega
    have ew : wr .i64 (((5 - n : Nat) : Int) + 1) = ((6 - n : Nat) : Int) := by rw [wr, wrap64 (by omega) (by omega)]; omega
    rw [e5] at hlt
    simp only [e5, rdBlocks]
    have hu : ∀ Q, cellin_reader_bodyu0 k (fuel + 1) (cbp : Int) ((5 - n : Nat) : Int) 0 (Rd s a) (cellOf st false kind step mv dc ev) = Q ↔ (Option.bind (some (match rdBlock (isIntra kind) (cbp.testBit n) (bitsFrom s a) with | .inr x => ((x.1.1, (x.1.2, ((0 : Int), ()))), Rd s (a + x.2)) | .inl e => ((0, ([], ((e : Int), ()))), Rd s a))) fun (v : ((Int) × ((List (DEvent)) × ((Int) × (Unit)))) × (DReader)) =>
        Option.bind (cellin_reader_bodyu0 k fuel (cbp : Int) ((6 - n : Nat) : Int) v.1.2.2.1 v.2 (cellOf st false kind step mv (dc.set (5 - n) v.1.1) (ev.set (5 - n) v.1.2.1))) fun r => Sum.elim (fun w => some (Sum.inl w)) (fun w => some (Sum.inr w)) r) = Q := fun Q => by
      simp only [cellin_reader_bodyu0, hlt, cond_true, decide_true, Bool.not_true, cond_false, intra_spec, Option.bind_some, eneg, coded_bit (show n ≤ 5 by omega) hc, block_spec hs hk h3, inR_nat, show decide (5 - n < 6) = true by simp <;> omega, Int.toNat_natCast, ew] <;> exact Iff.rfl
    simp only [hu]
    cases hb : rdBlock (isIntra kind) (cbp.testBit n) (bitsFrom s a) with
    | inl e =>
      have he := rdBlock_err hb
      have he' : (e : Int) ≠ 0 := by omega
      cases fuel with
      | zero => omega
      | succ fuel =>
        simp only [Option.bind_some, cellin_reader_bodyu0, decide_eq_false he', Bool.not_false, cond_true]
        by_cases hn : n = 0
        · subst hn
          exact ⟨Rd s a, _, rfl, .inr rfl⟩
        · simp only [show decide (((6 - n : Nat) : Int) < 6) = true by simp <;> omega, cond_true]
          exact ⟨Rd s a, _, rfl, .inl rfl⟩
    | inr p =>
      obtain ⟨x, m⟩ := p
      have hm := (rdBlock_range hb).1
      rw [bitsFrom_length] at hm
      obtain ⟨rd, c, hrd, ih⟩ := body_loop hs hk hc st kind step mv n fuel (a + m) (dc.set (5 - n) x.1) (ev.set (5 - n) x.2) (by omega) (by omega) (by omega)
      rw [bitsFrom_add] at ih
      refine ⟨rd, c, hrd, ?_⟩
      simp only [Option.bind_some]
      cases hq : rdBlocks (isIntra kind) cbp n (dc.set (5 - n) x.1) (ev.set (5 - n) x.2) ((bitsFrom s a).drop m) with
      | inl e =>
        rw [hq] at ih
        rcases ih with ih | ih
        · left; rw [ih]; rfl
        · right; rw [ih]; rfl
      | inr y =>
        rw [hq] at ih
        simp only at ih ⊢
        rw [ih, ← Nat.add_assoc]; rfl

theorem body_spec {k : Nat} {s : List UInt8} (hs : Small s) (hk : 8 * s.length + 300 < k) {cbp : Nat} (hc : cbp < 64) (st : Int) (kind : Nat) (step : Int) (mv : List Int) {a : Nat} (ha : a ≤ 8 * s.length) :
    ∃ (rd : DReader) (c : DCell), rd.1 = s ∧ cellin_reader_body k (cbp : Int) 0 (Rd s a) (cellOf st false kind step mv Z6 Ze) = some (match rdBlocks (isIntra kind) cbp 6 Z6 Ze (bitsFrom s a) with
      | .inl e => ((), (((), ((e : Int), ())), (rd, c)))
      | .inr y => ((), (((), (0, ())), (Rd s (a + y.2), cellOf st false kind step mv y.1.1 y.1.2)))) := by
  obtain ⟨rd, c, hrd, h⟩ := body_loop hs hk hc st kind step mv 6 k a Z6 Ze (by omega) (by omega) ha
  refine ⟨rd, c, hrd, ?_⟩
  simp only [cellin_reader_body]
  cases hq : rdBlocks (isIntra kind) cbp 6 Z6 Ze (bitsFrom s a) with
  | inl e =>
    rw [hq] at h
    rcases h with h | h
    · have h' : cellin_reader_bodyu0 k k (cbp : Int) 0 0 (Rd s a) (cellOf st false kind step mv Z6 Ze) = _ := h
      rw [h']; rfl
    · have h' : cellin_reader_bodyu0 k k (cbp : Int) 0 0 (Rd s a) (cellOf st false kind step mv Z6 Ze) = _ := h
      rw [h']; rfl
  | inr y =>
    rw [hq] at h
    have h' : cellin_reader_bodyu0 k k (cbp : Int) 0 0 (Rd s a) (cellOf st false kind step mv Z6 Ze) = _ := h
    rw [h']; rfl

theorem body_skip {k : Nat} (hk : 2 < k) (cbp e : Int) (he : e ≠ 0) (rd : DReader) (c : DCell) : cellin_reader_body k cbp e rd c = some ((), (((), (e, ())), (rd, c))) := by
  obtain ⟨k', rfl⟩ : ∃ k', k = k' + 1 := ⟨k - 1, by omega⟩
  have d0 : decide ((0 : Int) < 6) = true := by decide
  simp only [cellin_reader_body, cellin_reader_bodyu0, d0, cond_true, decide_eq_false he, Bool.not_false]
  rfl

theorem cbp_or {pat ch : Nat} (hp : pat ≤ 15) (hc : ch ≤ 3) : bitop .or .i64 (shlI .i64 (pat : Int) 2) (ch : Int) = ((4 * pat + ch : Nat) : Int) := by
  have e6 : shlI .i64 (pat : Int) 2 = ((pat * 2 ^ 2 : Nat) : Int) := shlI_nat (a := pat) (n := 2) (by decide) (by omega)
  rw [e6, bitop_or (by omega) (by omega)]
  have h := Nat.two_pow_add_eq_or_of_lt (i := 2) (b := ch) (by omega) pat
  rw [Nat.mul_comm pat (2 ^ 2), ← h]

theorem rdTail_mid (st kind ch : Nat) (p0 p1 : Int) (rest : List Bool) : rdTail st kind ch p0 p1 rest = (match rdMid kind p0 p1 rest with
    | .inl e => .inl e
    | .inr (x, m) => match rdBlocks (isIntra kind) (4 * x.1 + ch) 6 Z6 Ze (rest.drop m) with
      | .inl e => .inl e
      | .inr (y, m4) => .inr (cellOf st false kind x.2.1 x.2.2 y.1 y.2, m + m4)) := by
  simp only [rdTail, rdMid]
  cases rdCbpy (isIntra kind) rest with
  | inl e => rfl
  | inr x =>
    obtain ⟨pat, m1⟩ := x
    simp only
    cases rdSteps kind (rest.drop m1) with
    | inl e => rfl
    | inr y =>
      obtain ⟨step, m2⟩ := y
      simp only
      cases rdVec (isIntra kind) p0 p1 (rest.drop (m1 + m2)) <;> rfl
theorem rdMid_range {kind : Nat} {p0 p1 : Int} {rest : List Bool} {x : Nat × Int × List Int} {m : Nat} (h : rdMid kind p0 p1 rest = .inr (x, m)) : m ≤ rest.length ∧ x.1 ≤ 15 := by
  unfold rdMid at h
  cases h0 : rdCbpy (isIntra kind) rest with
  | inl e => rw [h0] at h; cases h
  | inr p =>
    obtain ⟨pat, m1⟩ := p
    have r0 := rdCbpy_range h0
    rw [h0] at h
    simp only at h
    cases h1 : rdSteps kind (rest.drop m1) with
    | inl e => rw [h1] at h; cases h
    | inr q =>
      obtain ⟨step, m2⟩ := q
      have r1 := rdSteps_range h1
      rw [List.length_drop] at r1
      rw [h1] at h
      simp only at h
      cases h2 : rdVec (isIntra kind) p0 p1 (rest.drop (m1 + m2)) with
      | inl e => rw [h2] at h; cases h
      | inr z =>
        obtain ⟨mv, m3⟩ := z
        have r2 := rdVec_range h2
        rw [List.length_drop] at r2
        rw [h2] at h
        simp only [Sum.inr.injEq, Prod.mk.injEq] at h
        obtain ⟨rfl, rfl⟩ := h
        exact ⟨by omega, r0.2⟩
theorem rdMid_err {kind : Nat} {p0 p1 : Int} {rest : List Bool} {e : Nat} (h : rdMid kind p0 p1 rest = .inl e) : e ≠ 0 := by
  unfold rdMid at h
  cases h0 : rdCbpy (isIntra kind) rest with
  | inl e' => rw [h0] at h; simp only [Sum.inl.injEq] at h; subst h; exact rdCbpy_err h0
  | inr p =>
    obtain ⟨pat, m1⟩ := p
    rw [h0] at h
    simp only at h
    cases h1 : rdSteps kind (rest.drop m1) with
    | inl e' => rw [h1] at h; simp only [Sum.inl.injEq] at h; subst h; exact rdSteps_err h1
    | inr q =>
      obtain ⟨step, m2⟩ := q
      rw [h1] at h
      simp only at h
      cases h2 : rdVec (isIntra kind) p0 p1 (rest.drop (m1 + m2)) with
      | inl e' => rw [h2] at h; simp only [Sum.inl.injEq] at h; subst h; exact rdVec_err h2
      | inr z => rw [h2] at h; cases h

/-- The program's reader of a cell tells what is told of the bits. -/
theorem Take_cell {k : Nat} {s : List UInt8} (hs : Small s) (hk : 8 * s.length + 300 < k) (inter : Bool) (p0 p1 : Int) {a : Nat} (ha : a ≤ 8 * s.length) :
    cellin_Take k inter [p0, p1] (Rd s a) = some (match rdCell inter p0 p1 (bitsFrom s a) with | .inr x => ((x.1, (0, ())), Rd s (a + x.2)) | .inl e => ((CellD, ((e : Int), ())), Rd s a)) := by
  have hseek : ∀ rd : DReader, rd.1 = s → inbits_Reader_Seek k (a : Int) rd = some (0, Rd s a) := fun rd hrd => by
    have := Seek_any (k := k) hs (a : Int) rd hrd
    rw [if_pos (by omega)] at this
    exact this
  obtain ⟨rd, c, hrd, hh⟩ := head_spec hs hk inter ha
  simp only [cellin_Take, inbits_Reader_At, Option.bind_some, rdCell]
  rw [hh]
  cases hb : rdBegin 65 inter 0 (bitsFrom s a) with
  | inl e =>
    have he := rdBegin_err hb
    have he' : (e : Int) ≠ 0 := by omega
    simp only [Option.bind_some, cellin_Takeu0, cond_false, decide_eq_false he', Bool.not_false, cond_true, hseek rd hrd]
  | inr q =>
    obtain ⟨⟨st, o⟩, m⟩ := q
    have hr := rdBegin_range (by omega) hb
    rw [bitsFrom_length] at hr
    cases o with
    | none => simp only [Option.bind_some, cellin_Takeu0, cond_false, decide_true, Bool.not_true]
    | some x =>
      have hx := hr.2.2.1 x rfl
      obtain ⟨rd2, c2, pt, hrd2, hm⟩ := middle_spec hs hk (show a + m ≤ 8 * s.length by omega) (st : Int) x.1 p0 p1
      rw [bitsFrom_add] at hm
      simp only [Option.bind_some, cellin_Takeu0, cond_true, hm, rdTail_mid]
      cases hmid : rdMid x.1 p0 p1 ((bitsFrom s a).drop m) with
      | inl e =>
        have he := rdMid_err hmid
        have he' : (e : Int) ≠ 0 := by omega
        simp only [Option.bind_some, body_skip (show 2 < k by omega) _ _ he', decide_eq_false he', Bool.not_false, cond_true, hseek rd2 hrd2]
      | inr z =>
        obtain ⟨y, m1⟩ := z
        have hr1 := rdMid_range hmid
        rw [List.length_drop, bitsFrom_length] at hr1
        obtain ⟨rd3, c3, hrd3, hbd⟩ := body_spec hs hk (cbp := 4 * y.1 + x.2) (by omega) (st : Int) x.1 y.2.1 y.2.2 (show a + m + m1 ≤ 8 * s.length by omega)
        rw [show a + m + m1 = a + (m + m1) by omega, bitsFrom_add, ← List.drop_drop] at hbd
        simp only [cbp_or hr1.2 hx.2.2.1, Option.bind_some, show a + m + m1 = a + (m + m1) by omega, hbd]
        cases hq : rdBlocks (isIntra x.1) (4 * y.1 + x.2) 6 Z6 Ze (((bitsFrom s a).drop m).drop m1) with
        | inl e =>
          have he := rdBlocks_err hq
          have he' : (e : Int) ≠ 0 := by omega
          simp only [Option.bind_some, decide_eq_false he', Bool.not_false, cond_true, hseek rd3 hrd3]
        | inr w =>
          simp only [Option.bind_some, decide_true, Bool.not_true, cond_false]
          rw [show a + (m + m1) + w.2 = a + (m + (m1 + w.2)) by omega]
end Go.Proofs.YtlemoepklgfjoaaDoor
