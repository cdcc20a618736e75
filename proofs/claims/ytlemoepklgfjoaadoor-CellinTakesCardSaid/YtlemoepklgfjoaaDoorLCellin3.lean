/-
  Reading a cell as the page tells it; a text's bits.
-/
import Derived.Test.YtlemoepklgfjoaaDoorLCellin2
set_option maxRecDepth 100000
namespace Go.Proofs.YtlemoepklgfjoaaDoor
open Go Go.Av

theorem ref21_begin_loop {k : Nat} (hk : 1000 < k) {B : List Bool} (hb : B.length ≤ 1000000000000) (inter : Bool) (zz : List Int × List Int × List (List DEvent) × Unit) (d : DCell) : ∀ (f st fuel a : Nat), 65 ≤ st + f → f ≤ fuel → st ≤ 64 → a ≤ B.length →
    ∃ (c2 : DCell) (t ch : Int), overspillref21_beginu1 k fuel (chs B) (a : Int) inter d ((st : Int), (false, (0, (0, zz)))) = some (match rdBegin f inter st (B.drop a) with
      | .inl e => ((ch, (t, (e : Int))), (CellD, c2))
      | .inr ((st', none), m) => ((0, (((a + m : Nat) : Int), 0)), (((st' : Int), (true, (0, (0, zz)))), ((st' : Int), (true, (0, (0, zz))))))
      | .inr ((st', some x), m) => (((x.2 : Int), (((a + m : Nat) : Int), 0)), (((st' : Int), (false, ((x.1 : Int), (0, zz)))), ((st' : Int), (false, ((x.1 : Int), (0, zz)))))))
  | 0, st, fuel, a, h1, h2, h3, h4 => by omega
  | f + 1, st, 0, a, h1, h2, h3, h4 => by omega
  | f + 1, st, fuel + 1, a, h1, h2, h3, h4 => by
    have hu : overspillref21_beginu0 k (chs B) (a : Int) inter d ((st : Int), (false, (0, (0, zz)))) = some (match rdSkip inter (B.drop a) with
        | .inl e => .inl ((0, (0, (e : Int))), (CellD, ((st : Int), (false, (0, (0, zz))))))
        | .inr (true, m) => .inl ((0, (((a + m : Nat) : Int), 0)), (((st : Int), (true, (0, (0, zz)))), ((st : Int), (true, (0, (0, zz))))))
        | .inr (false, m) => .inr (((a + m : Nat) : Int), (d, ((st : Int), (false, (0, (0, zz))))))) := by
      cases inter with
      | false => rfl
      | true =>
        have e1 : wr .i64 (((a + 1 : Nat) : Int) - 1) = (a : Int) := by rw [wr, wrap64 (by omega) (by omega)]; omega
        have e2 : wr .i64 ((a : Int) + 1) = ((a + 1 : Nat) : Int) := by rw [wr, wrap64 (by omega) (by omega)]; simp
        simp only [overspillref21_beginu0, cond_true, chs_length, e1, e2, rdSkip, inR_nat, Int.toNat_natCast]
        cases hd : B.drop a with
        | nil =>
          have hl := congrArg List.length hd
          simp only [List.length_drop, List.length_nil] at hl
          rw [show decide ((a : Int) = ((B.length : Nat) : Int)) = true by simp <;> omega]
          rfl
        | cons b r =>
          have hl := congrArg List.length hd
          simp only [List.length_drop, List.length_cons] at hl
          have hlt : a < B.length := by omega
          have hbb : (B.drop a).headD false = b := by rw [hd]; rfl
          simp only [show decide ((a : Int) = ((B.length : Nat) : Int)) = false by simp <;> omega, cond_false, show decide (a < B.length) = true by simp [hlt], cond_true, chs_getD hlt, dig49, hbb]
          cases b <;> rfl
    simp only [overspillref21_beginu1, hu, Option.bind_some, rdBegin]
    cases hsk : rdSkip inter (B.drop a) with
    | inl e => exact ⟨_, _, _, rfl⟩
    | inr p =>
      obtain ⟨b, m⟩ := p
      have hm := rdSkip_range hsk
      rw [List.length_drop] at hm
      cases b with
      | true => exact ⟨CellD, 0, 0, rfl⟩
      | false =>
        simp only [Sum.elim_inr, ref06_spec hk hb (show a + m ≤ B.length by omega), ← List.drop_drop]
        cases hmc : rdMcbpc inter ((B.drop a).drop m) with
        | inl e =>
          have he := rdMcbpc_err hmc
          have he' : (e : Int) ≠ 0 := by omega
          simp only [Option.bind_some, decide_eq_false he', Bool.not_false, cond_true]
          exact ⟨_, _, _, rfl⟩
        | inr q =>
          obtain ⟨x, m1⟩ := q
          have hx := rdMcbpc_range hmc
          rw [List.length_drop, List.length_drop] at hx
          simp only [Option.bind_some, decide_true, Bool.not_true, cond_false]
          by_cases h5 : x.1 = 5
          · rw [if_neg (by omega)]
            have ew : wr .i64 ((st : Int) + 1) = ((st + 1 : Nat) : Int) := by rw [wr, wrap64 (by omega) (by omega)]; simp
            simp only [show decide ((x.1 : Int) < 5) = false by simp <;> omega, cond_false, ew]
            by_cases h64 : st = 64
            · rw [if_pos h64]
              simp only [show decide ((64 : Int) < ((st + 1 : Nat) : Int)) = true by simp <;> omega, cond_true]
              exact ⟨_, _, _, rfl⟩
            · rw [if_neg h64]
              simp only [show decide ((64 : Int) < ((st + 1 : Nat) : Int)) = false by simp <;> omega, cond_false]
              obtain ⟨c2, t, ch, ih⟩ := ref21_begin_loop hk hb inter zz d f (st + 1) fuel (a + m + m1) (by omega) (by omega) (by omega) (by omega)
              refine ⟨c2, t, ch, ?_⟩
              rw [ih, show B.drop (a + m + m1) = ((B.drop a).drop m).drop m1 by simp only [List.drop_drop, Nat.add_assoc]]
              cases hr : rdBegin f inter (st + 1) (((B.drop a).drop m).drop m1) with
              | inl e => rfl
              | inr y =>
                obtain ⟨⟨st', o⟩, m2⟩ := y
                cases o with
                | none => simp only [Option.bind_some, Nat.add_assoc]
                | some z => simp only [Option.bind_some, Nat.add_assoc]
          · rw [if_pos h5]
            simp only [show decide ((x.1 : Int) < 5) = true by simp <;> omega, cond_true]
            exact ⟨CellD, 0, 0, by rw [Nat.add_assoc]⟩

theorem ref21_begin_spec {k : Nat} (hk : 1000 < k) {B : List Bool} {a : Nat} (hb : B.length ≤ 1000000000000) (ha : a ≤ B.length) (inter : Bool) :
    ∃ (c : DCell) (t ch : Int), overspillref21_begin k (chs B) (a : Int) inter = some (match rdBegin 65 inter 0 (B.drop a) with
      | .inl e => (c, (ch, (t, ((e : Int), ()))))
      | .inr ((st', none), m) => (cellOf st' true 0 0 Z2 Z6 Ze, (0, (((a + m : Nat) : Int), (0, ()))))
      | .inr ((st', some x), m) => (cellOf st' false x.1 0 Z2 Z6 Ze, ((x.2 : Int), (((a + m : Nat) : Int), (0, ()))))) := by
  obtain ⟨c2, t, ch, h⟩ := ref21_begin_loop hk hb inter (Z2, (Z6, (Ze, ()))) CellD 65 0 k a (by omega) (by omega) (by omega) ha
  have h' : overspillref21_beginu1 k k (chs B) (a : Int) inter CellD CellD = _ := h
  refine ⟨CellD, t, ch, ?_⟩
  simp only [overspillref21_begin, h', Option.bind_some]
  cases rdBegin 65 inter 0 (B.drop a) with
  | inl e => rfl
  | inr y =>
    obtain ⟨⟨st', o⟩, m2⟩ := y
    cases o <;> rfl

theorem ref21_Intra_spec (k : Nat) (kind : Nat) : overspillref21_Intra k (kind : Int) = some (isIntra kind) := by
  simp only [overspillref21_Intra, isIntra]
  have h3 : decide ((kind : Int) = 3) = decide (kind = 3) := by rw [decide_eq_decide]; omega
  have h4 : decide ((kind : Int) = 4) = decide (kind = 4) := by rw [decide_eq_decide]; omega
  rw [h3, h4]
  cases decide (kind = 3) <;> rfl

theorem ref21_vec {k : Nat} (hk : 1000 < k) {B : List Bool} {a : Nat} (hb : B.length ≤ 1000000000000) (ha : a ≤ B.length) (a0 : Int) (st : Int) {kind : Nat} (hkd : kind ≤ 4 ∧ kind ≠ 2) (step : Int) (p0 p1 : Int) (d : DCell) :
    ∃ c : DCell, overspillref21_Takeu3 k k (chs B) a0 (a : Int) 0 [p0, p1] d (cellOf st false kind step Z2 Z6 Ze) = some (match rdVec (isIntra kind) p0 p1 (B.drop a) with
      | .inl e => .inl ((a0, (e : Int)), ([p0, p1], (CellD, c)))
      | .inr x => .inr (((a + x.2 : Nat) : Int), ([p0, p1], (d, cellOf st false kind step x.1 Z6 Ze)))) := by
  obtain ⟨k', rfl⟩ : ∃ k', k = k' + 3 := ⟨k - 3, by omega⟩
  have w1 : wr .i64 (0 + 1) = 1 := by kernel_rfl
  have w2 : wr .i64 (1 + 1) = 2 := by kernel_rfl
  have r0 : inR 0 2 = true := by kernel_rfl
  have r1 : inR 1 2 = true := by kernel_rfl
  have d0 : decide ((0 : Int) < 2) = true := by decide
  have d1 : decide ((1 : Int) < 2) = true := by decide
  have d2 : decide ((2 : Int) < 2) = false := by decide
  have t0 : Int.toNat 0 = 0 := rfl
  have t1 : Int.toNat 1 = 1 := rfl
  have g0 : List.getD [p0, p1] 0 0 = p0 := rfl
  have g1 : List.getD [p0, p1] 1 0 = p1 := rfl
  have hkk : decide ((kind : Int) < 2) = !isIntra kind := by
    have : kind = 0 ∨ kind = 1 ∨ kind = 3 ∨ kind = 4 := by omega
    rcases this with rfl | rfl | rfl | rfl <;> rfl
  simp only [overspillref21_Takeu3, overspillref21_Takeu2, d0, d1, d2, cond_true, cond_false, hkk, Option.bind_some, rdVec, w1, w2]
  cases hi : isIntra kind with
  | true => exact ⟨CellD, rfl⟩
  | false =>
    simp only [Bool.not_false, cond_true, cond_false, ref08_spec hk hb ha, r0, r1, ref01_Wrap_spec, Option.bind_some]
    cases h0 : rdMvd (B.drop a) with
    | inl e =>
      have he := rdMvd_err h0
      have he' : (e : Int) ≠ 0 := by omega
      simp only [decide_eq_false he', Bool.not_false, cond_true]
      exact ⟨_, rfl⟩
    | inr x =>
      obtain ⟨v0, m0⟩ := x
      have hr0 := rdMvd_range h0
      rw [List.length_drop] at hr0
      simp only [decide_true, Bool.not_true, cond_false, Option.bind_some, ref08_spec hk hb (show a + m0 ≤ B.length by omega), ← List.drop_drop]
      cases h1 : rdMvd ((B.drop a).drop m0) with
      | inl e =>
        have he := rdMvd_err h1
        have he' : (e : Int) ≠ 0 := by omega
        simp only [decide_eq_false he', Bool.not_false, cond_true]
        exact ⟨_, rfl⟩
      | inr y =>
        obtain ⟨v1, m1⟩ := y
        have hr1 := rdMvd_range h1
        have hw0 := wrapI_range p0
        have hw1 := wrapI_range p1
        refine ⟨CellD, ?_⟩
        simp only [decide_true, Bool.not_true, cond_false, Option.bind_some, t0, t1, g0, g1, Sum.elim_inr]
        rw [wr, wr, wrap64 (x := wrapI p0 + v0) (by omega) (by omega), wrap64 (x := wrapI p1 + v1) (by omega) (by omega), Nat.add_assoc]

theorem ref21_blocks {k : Nat} (hk : 1000 < k) {B : List Bool} (hb : B.length ≤ 1000000000000) (a0 : Int) {cbp : Nat} (hc : cbp < 64) (st : Int) (kind : Nat) (step : Int) (mv : List Int) (d : DCell) : ∀ (n fuel a : Nat) (dc : List Int) (ev : List (List DEvent)), n ≤ 6 → n < fuel → a ≤ B.length → ∀ by_ : Int, (∀ m, n = m + 1 → by_ = ((2 ^ m : Nat) : Int)) →
    ∃ c : DCell, overspillref21_Takeu4 k fuel (chs B) a0 (a : Int) (cbp : Int) by_ ((6 - n : Nat) : Int) d (cellOf st false kind step mv dc ev) = some (match rdBlocks (isIntra kind) cbp n dc ev (B.drop a) with
      | .inl e => .inl ((a0, (e : Int)), (CellD, c))
      | .inr y => .inr (((a + y.2 : Nat) : Int), (d, cellOf st false kind step mv y.1.1 y.1.2)))
  | 0, 0, a, dc, ev, h1, h2, h3, by_, h4 => by omega
  | 0, fuel + 1, a, dc, ev, h1, h2, h3, by_, h4 => ⟨CellD, rfl⟩
  | n + 1, 0, a, dc, ev, h1, h2, h3, by_, h4 => by omega
  | n + 1, fuel + 1, a, dc, ev, h1, h2, h3, by_, h4 => by
    have hby := h4 n rfl
    subst hby
    have hp : 1 ≤ 2 ^ n := Nat.one_le_two_pow
    have hp2 : 2 ^ n ≤ 2 ^ 5 := Nat.pow_le_pow_right (by decide) (by omega)
    have e5 : (6 - (n + 1) : Nat) = 5 - n := by omega
    have hlt : decide (((5 - n : Nat) : Int) < 6) = true := by simp <;> omega
    have ew : wr .i64 (((5 - n : Nat) : Int) + 1) = ((6 - n : Nat) : Int) := by rw [wr, wrap64 (by omega) (by omega)]; omega
    have hz : decide (((2 ^ n : Nat) : Int) = 0) = false := by
      generalize 2 ^ n = q at hp
      exact decide_eq_false (by omega)
    have hbit : decide (Int.tmod (wr .i64 (Int.tdiv (cbp : Int) ((2 ^ n : Nat) : Int))) 2 = 1) = cbp.testBit n := by
      have hdv : Int.tdiv (cbp : Int) ((2 ^ n : Nat) : Int) = ((cbp / 2 ^ n : Nat) : Int) := rfl
      have hle := Nat.div_le_self cbp (2 ^ n)
      rw [hdv, testBit_div]
      generalize cbp / 2 ^ n = q at hle
      rw [wr, wrap64 (by omega) (by omega), show Int.tmod ((q : Nat) : Int) 2 = ((q % 2 : Nat) : Int) from rfl, decide_eq_decide]
      omega
    have hb2 : ∀ m, n = m + 1 → wr .i64 (Int.tdiv ((2 ^ n : Nat) : Int) 2) = ((2 ^ m : Nat) : Int) := fun m hm => by
      subst hm
      rw [Nat.pow_succ] at hp2
      rw [show Int.tdiv ((2 ^ (m + 1) : Nat) : Int) 2 = ((2 ^ (m + 1) / 2 : Nat) : Int) from rfl, Nat.pow_succ, Nat.mul_div_cancel _ (by decide)]
      generalize 2 ^ m = q at hp2
      rw [wr, wrap64 (by omega) (by omega)]
    simp only [overspillref21_Takeu4, e5, hlt, cond_true, ref21_Intra_spec, Option.bind_some, hz, cond_false, hbit, ref15_spec hk hb h3, rdBlocks, inR_nat, show decide (5 - n < 6) = true by simp <;> omega, Int.toNat_natCast, ew]
    cases hbk : rdBlock (isIntra kind) (cbp.testBit n) (B.drop a) with
    | inl e =>
      have he := rdBlock_err hbk
      have he' : (e : Int) ≠ 0 := by omega
      simp only [Option.bind_some, decide_eq_false he', Bool.not_false, cond_true]
      exact ⟨_, rfl⟩
    | inr p =>
      obtain ⟨x, m⟩ := p
      have hm := (rdBlock_range hbk).1
      rw [List.length_drop] at hm
      obtain ⟨c, ih⟩ := ref21_blocks hk hb a0 hc st kind step mv d n fuel (a + m) (dc.set (5 - n) x.1) (ev.set (5 - n) x.2) (by omega) (by omega) (by omega) _ hb2
      rw [← List.drop_drop] at ih
      refine ⟨c, ?_⟩
      simp only [Option.bind_some, decide_true, Bool.not_true, cond_false]
      rw [ih]
      cases rdBlocks (isIntra kind) cbp n (dc.set (5 - n) x.1) (ev.set (5 - n) x.2) ((B.drop a).drop m) with
      | inl e => rfl
      | inr y => simp only [Option.bind_some, Sum.elim_inr, Nat.add_assoc]

/-- The page tells of a cell what is told of the bits. -/
theorem ref21_cell {k : Nat} (hk : 1000 < k) {B : List Bool} {a : Nat} (hb : B.length ≤ 1000000000000) (ha : a ≤ B.length) (inter : Bool) (p0 p1 : Int) :
    overspillref21_Take k (chs B) (a : Int) inter [p0, p1] = some (match rdCell inter p0 p1 (B.drop a) with | .inr x => (x.1, (((a + x.2 : Nat) : Int), (0, ()))) | .inl e => (CellD, ((a : Int), ((e : Int), ())))) := by
  obtain ⟨c, t, ch, hh⟩ := ref21_begin_spec hk hb ha inter
  simp only [overspillref21_Take, hh, Option.bind_some, rdCell]
  cases hbg : rdBegin 65 inter 0 (B.drop a) with
  | inl e =>
    have he := rdBegin_err hbg
    have he' : (e : Int) ≠ 0 := by omega
    simp only [decide_eq_false he', Bool.not_false, cond_true]
  | inr q =>
    obtain ⟨⟨st, o⟩, m⟩ := q
    have hr := rdBegin_range (by omega) hbg
    rw [List.length_drop] at hr
    cases o with
    | none => simp only [decide_true, Bool.not_true, cond_false, cond_true]
    | some x =>
      have hx := hr.2.2.1 x rfl
      simp only [decide_true, Bool.not_true, cond_false, ref21_Intra_spec, Option.bind_some, ref07_spec hk hb (show a + m ≤ B.length by omega), ← List.drop_drop, rdTail]
      cases h0 : rdCbpy (isIntra x.1) ((B.drop a).drop m) with
      | inl e =>
        have he := rdCbpy_err h0
        have he' : (e : Int) ≠ 0 := by omega
        simp only [decide_eq_false he', Bool.not_false, cond_true]
      | inr y =>
        obtain ⟨pat, m1⟩ := y
        have hr1 := rdCbpy_range h0
        rw [List.length_drop, List.length_drop] at hr1
        have hst : overspillref21_Takeu0 k (cellOf st false x.1 0 Z2 Z6 Ze) = some (stepped x.1, cellOf st false x.1 0 Z2 Z6 Ze) := by
          simp only [overspillref21_Takeu0, stepped]
          have h3 : decide ((x.1 : Int) = 1) = decide (x.1 = 1) := by rw [decide_eq_decide]; omega
          have h4 : decide ((x.1 : Int) = 4) = decide (x.1 = 4) := by rw [decide_eq_decide]; omega
          rw [h3, h4]
          cases decide (x.1 = 1) <;> rfl
        have hst2 : ∃ c, overspillref21_Takeu1 k (chs B) (a : Int) ((a + m + m1 : Nat) : Int) (stepped x.1) CellD (cellOf st false x.1 0 Z2 Z6 Ze) = some (match rdSteps x.1 (((B.drop a).drop m).drop m1) with
            | .inl e => .inl (((a : Int), (e : Int)), (CellD, c))
            | .inr y => .inr (((a + m + m1 + y.2 : Nat) : Int), (CellD, cellOf st false x.1 y.1 Z2 Z6 Ze))) := by
          simp only [overspillref21_Takeu1, rdSteps]
          cases stepped x.1 with
          | false => exact ⟨CellD, rfl⟩
          | true =>
            simp only [cond_true, ref20_spec (show 60 < k by omega) hb (show a + m + m1 ≤ B.length by omega), ← List.drop_drop]
            cases hs : rdStep (((B.drop a).drop m).drop m1) with
            | inl e =>
              have he := rdStep_err hs
              have he' : (e : Int) ≠ 0 := by omega
              simp only [Option.bind_some, decide_eq_false he', Bool.not_false, cond_true]
              exact ⟨_, rfl⟩
            | inr y => exact ⟨CellD, rfl⟩
        obtain ⟨c3, hst2⟩ := hst2
        simp only [decide_true, Bool.not_true, cond_false, hst, Option.bind_some, hst2]
        cases h1 : rdSteps x.1 (((B.drop a).drop m).drop m1) with
        | inl e => rfl
        | inr z =>
          obtain ⟨step, m2⟩ := z
          have hr2 := rdSteps_range h1
          rw [List.length_drop, List.length_drop, List.length_drop] at hr2
          obtain ⟨c4, hv⟩ := ref21_vec hk hb (show a + m + m1 + m2 ≤ B.length by omega) (a : Int) (st : Int) (kind := x.1) ⟨hx.1, hx.2.1⟩ step p0 p1 CellD
          rw [show B.drop (a + m + m1 + m2) = (((B.drop a).drop m).drop m1).drop m2 by simp only [List.drop_drop, Nat.add_assoc]] at hv
          simp only [Sum.elim_inr, hv, Option.bind_some]
          cases h2 : rdVec (isIntra x.1) p0 p1 ((((B.drop a).drop m).drop m1).drop m2) with
          | inl e => rfl
          | inr w =>
            obtain ⟨mv, m3⟩ := w
            have hr3 := rdVec_range h2
            simp only [List.length_drop] at hr3
            have ec : wr .i64 (wr .i64 (4 * ((pat : Nat) : Int)) + ((x.2 : Nat) : Int)) = ((4 * pat + x.2 : Nat) : Int) := by
              rw [wr, wr, wrap64 (x := 4 * ((pat : Nat) : Int)) (by omega) (by omega), wrap64 (by omega) (by omega)]; simp
            obtain ⟨c5, hbl⟩ := ref21_blocks hk hb (a : Int) (cbp := 4 * pat + x.2) (by omega) (st : Int) x.1 step mv CellD 6 k (a + m + m1 + m2 + m3) Z6 Ze (by omega) (by omega) (by omega) 32 (fun m hm => by
              have : m = 5 := by omega
              subst this; rfl)
            rw [show B.drop (a + m + m1 + m2 + m3) = ((((B.drop a).drop m).drop m1).drop m2).drop m3 by simp only [List.drop_drop, Nat.add_assoc]] at hbl
            have hbl' : overspillref21_Takeu4 k k (chs B) (a : Int) ((a + m + m1 + m2 + m3 : Nat) : Int) ((4 * pat + x.2 : Nat) : Int) 32 0 CellD (cellOf st false x.1 step mv Z6 Ze) = _ := hbl
            simp only [Sum.elim_inr, ec, hbl', Option.bind_some]
            cases rdBlocks (isIntra x.1) (4 * pat + x.2) 6 Z6 Ze (((((B.drop a).drop m).drop m1).drop m2).drop m3) with
            | inl e => rfl
            | inr u => simp only [Sum.elim_inr, Nat.add_assoc]
end Go.Proofs.YtlemoepklgfjoaaDoor
