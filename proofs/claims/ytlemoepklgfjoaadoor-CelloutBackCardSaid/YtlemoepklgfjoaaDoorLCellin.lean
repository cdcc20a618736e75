/-
  Reading a cell: what is told of its bits.
-/
import Derived.Test.YtlemoepklgfjoaaDoorLBlocks2
set_option maxRecDepth 100000
namespace Go.Proofs.YtlemoepklgfjoaaDoor
open Go Go.Av

abbrev Z2 : List Int := Ty.zero (.arr 2 (.int .i64))
abbrev Z6 : List Int := Ty.zero (.arr 6 (.int .i64))
abbrev Ze : List (List DEvent) := Ty.zero (.arr 6 (.sl YEvent))
abbrev cellOf (st : Int) (skip : Bool) (kind step : Int) (mv dc : List Int) (ev : List (List DEvent)) : DCell := (st, (skip, (kind, (step, (mv, (dc, (ev, ())))))))
abbrev CellD : DCell := cellOf 0 false 0 0 Z2 Z6 Ze

def rdSkip (inter : Bool) (rest : List Bool) : Sum Nat (Bool × Nat) :=
  bif inter then (match rest with | [] => .inl 2 | b :: _ => .inr (b, 1)) else .inr (false, 0)
/-- What stands ahead of a cell's pattern: how often nothing, and kind and colours, if it is not skipped. -/
noncomputable def rdBegin : Nat → Bool → Nat → List Bool → Sum Nat ((Nat × Option (Nat × Nat)) × Nat)
  | 0, _, _, _ => .inl 13
  | f + 1, inter, st, rest => match rdSkip inter rest with
    | .inl e => .inl e
    | .inr (true, m) => .inr ((st, none), m)
    | .inr (false, m) => match rdMcbpc inter (rest.drop m) with
      | .inl e => .inl e
      | .inr (x, m1) => if x.1 ≠ 5 then .inr ((st, some x), m + m1) else if st = 64 then .inl 13 else match rdBegin f inter (st + 1) (rest.drop (m + m1)) with
        | .inl e => .inl e
        | .inr (y, m2) => .inr (y, m + m1 + m2)
theorem rdSkip_range {inter : Bool} {rest : List Bool} {b : Bool} {m : Nat} (h : rdSkip inter rest = .inr (b, m)) : m ≤ rest.length := by
  unfold rdSkip at h
  cases inter with
  | false => simp only [cond_false, Sum.inr.injEq, Prod.mk.injEq] at h; omega
  | true => cases rest with
    | nil => cases h
    | cons c r => simp only [cond_true, Sum.inr.injEq, Prod.mk.injEq] at h; simp only [List.length_cons]; omega
theorem rdSkip_err {inter : Bool} {rest : List Bool} {e : Nat} (h : rdSkip inter rest = .inl e) : e ≠ 0 := by
  unfold rdSkip at h
  cases inter with
  | false => cases h
  | true => cases rest with
    | nil => simp only [cond_true, Sum.inl.injEq] at h; omega
    | cons c r => cases h
theorem rdBegin_range : ∀ {f : Nat} {inter : Bool} {st : Nat} {rest : List Bool} {st' m : Nat} {o : Option (Nat × Nat)}, st ≤ 64 → rdBegin f inter st rest = .inr ((st', o), m) → m ≤ rest.length ∧ st' ≤ 64 ∧ (∀ x, o = some x → x.1 ≤ 4 ∧ x.1 ≠ 2 ∧ x.2 ≤ 3 ∧ (inter = false → 3 ≤ x.1)) ∧ (o = none → inter = true)
  | 0, inter, st, rest, st', m, o, _, h => by cases h
  | f + 1, inter, st, rest, st', m, o, hst, h => by
    simp only [rdBegin] at h
    cases hs : rdSkip inter rest with
    | inl e => rw [hs] at h; cases h
    | inr p =>
      obtain ⟨b, m0⟩ := p
      have h0 := rdSkip_range hs
      rw [hs] at h
      cases b with
      | true =>
        simp only [Sum.inr.injEq, Prod.mk.injEq] at h
        obtain ⟨⟨rfl, rfl⟩, rfl⟩ := h
        refine ⟨h0, hst, fun x hx => (by cases hx), fun _ => ?_⟩
        cases inter
        · cases hs
        · rfl
      | false =>
        simp only at h
        cases hm : rdMcbpc inter (rest.drop m0) with
        | inl e => rw [hm] at h; cases h
        | inr q =>
          obtain ⟨x, m1⟩ := q
          have h1 := rdMcbpc_range hm
          rw [List.length_drop] at h1
          rw [hm] at h
          simp only at h
          split at h
          · simp only [Sum.inr.injEq, Prod.mk.injEq] at h
            obtain ⟨⟨rfl, rfl⟩, rfl⟩ := h
            refine ⟨by omega, hst, fun y hy => ?_, fun hy => by cases hy⟩
            cases hy
            exact ⟨by omega, h1.2.2.2.1, h1.2.2.2.2⟩
          · split at h
            · cases h
            · cases hb : rdBegin f inter (st + 1) (rest.drop (m0 + m1)) with
              | inl e => rw [hb] at h; cases h
              | inr y =>
                obtain ⟨⟨st2, o2⟩, m2⟩ := y
                rw [hb] at h
                simp only [Sum.inr.injEq, Prod.mk.injEq] at h
                obtain ⟨⟨rfl, rfl⟩, rfl⟩ := h
                have h2 := rdBegin_range (by omega) hb
                rw [List.length_drop] at h2
                exact ⟨by omega, h2.2⟩
theorem rdBegin_err : ∀ {f : Nat} {inter : Bool} {st : Nat} {rest : List Bool} {e : Nat}, rdBegin f inter st rest = .inl e → e ≠ 0
  | 0, inter, st, rest, e, h => by simp only [rdBegin, Sum.inl.injEq] at h; omega
  | f + 1, inter, st, rest, e, h => by
    simp only [rdBegin] at h
    cases hs : rdSkip inter rest with
    | inl e' => rw [hs] at h; simp only [Sum.inl.injEq] at h; subst h; exact rdSkip_err hs
    | inr p =>
      obtain ⟨b, m0⟩ := p
      rw [hs] at h
      cases b with
      | true => cases h
      | false =>
        simp only at h
        cases hm : rdMcbpc inter (rest.drop m0) with
        | inl e' => rw [hm] at h; simp only [Sum.inl.injEq] at h; subst h; exact rdMcbpc_err hm
        | inr q =>
          obtain ⟨x, m1⟩ := q
          rw [hm] at h
          simp only at h
          split at h
          · cases h
          · split at h
            · simp only [Sum.inl.injEq] at h; omega
            · cases hb : rdBegin f inter (st + 1) (rest.drop (m0 + m1)) with
              | inl e' => rw [hb] at h; simp only [Sum.inl.injEq] at h; subst h; exact rdBegin_err hb
              | inr y => rw [hb] at h; cases h

def isIntra (kind : Nat) : Bool := decide (kind = 3) || decide (kind = 4)
def stepped (kind : Nat) : Bool := decide (kind = 1) || decide (kind = 4)
noncomputable def rdSteps (kind : Nat) (rest : List Bool) : Sum Nat (Int × Nat) := bif stepped kind then rdStep rest else .inr (0, 0)
noncomputable def rdVec (intra : Bool) (p0 p1 : Int) (rest : List Bool) : Sum Nat (List Int × Nat) :=
  bif intra then .inr (Z2, 0) else match rdMvd rest with
    | .inl e => .inl e
    | .inr (d0, m0) => match rdMvd (rest.drop m0) with
      | .inl e => .inl e
      | .inr (d1, m1) => .inr (List.set (List.set Z2 0 (wrapI (wrapI p0 + d0))) 1 (wrapI (wrapI p1 + d1)), m0 + m1)
theorem rdVec_range {intra : Bool} {p0 p1 : Int} {rest : List Bool} {v : List Int} {m : Nat} (h : rdVec intra p0 p1 rest = .inr (v, m)) : m ≤ rest.length := by
  unfold rdVec at h
  cases intra with
  | true => simp only [cond_true, Sum.inr.injEq, Prod.mk.injEq] at h; omega
  | false =>
    simp only [cond_false] at h
    cases h0 : rdMvd rest with
    | inl e => rw [h0] at h; cases h
    | inr p =>
      obtain ⟨d0, m0⟩ := p
      have := rdMvd_range h0
      rw [h0] at h
      simp only at h
      cases h1 : rdMvd (rest.drop m0) with
      | inl e => rw [h1] at h; cases h
      | inr q =>
        obtain ⟨d1, m1⟩ := q
        have h2 := rdMvd_range h1
        rw [List.length_drop] at h2
        rw [h1] at h
        simp only [Sum.inr.injEq, Prod.mk.injEq] at h
        omega
theorem rdVec_err {intra : Bool} {p0 p1 : Int} {rest : List Bool} {e : Nat} (h : rdVec intra p0 p1 rest = .inl e) : e ≠ 0 := by
  unfold rdVec at h
  cases intra with
  | true => cases h
  | false =>
    simp only [cond_false] at h
    cases h0 : rdMvd rest with
    | inl e' => rw [h0] at h; simp only [Sum.inl.injEq] at h; subst h; exact rdMvd_err h0
    | inr p =>
      obtain ⟨d0, m0⟩ := p
      rw [h0] at h
      simp only at h
      cases h1 : rdMvd (rest.drop m0) with
      | inl e' => rw [h1] at h; simp only [Sum.inl.injEq] at h; subst h; exact rdMvd_err h1
      | inr q => rw [h1] at h; cases h
theorem rdSteps_range {kind : Nat} {rest : List Bool} {v : Int} {m : Nat} (h : rdSteps kind rest = .inr (v, m)) : m ≤ rest.length := by
  unfold rdSteps at h
  cases hk : stepped kind with
  | false => rw [hk] at h; simp only [cond_false, Sum.inr.injEq, Prod.mk.injEq] at h; omega
  | true => rw [hk] at h; have := rdStep_range h; omega
theorem rdSteps_err {kind : Nat} {rest : List Bool} {e : Nat} (h : rdSteps kind rest = .inl e) : e ≠ 0 := by
  unfold rdSteps at h
  cases hk : stepped kind with
  | false => rw [hk] at h; cases h
  | true => rw [hk] at h; exact rdStep_err h

/-- The blocks: so many are left. -/
noncomputable def rdBlocks (intra : Bool) (cbp : Nat) : Nat → List Int → List (List DEvent) → List Bool → Sum Nat ((List Int × List (List DEvent)) × Nat)
  | 0, dc, ev, _ => .inr ((dc, ev), 0)
  | n + 1, dc, ev, rest => match rdBlock intra (cbp.testBit n) rest with
    | .inl e => .inl e
    | .inr (x, m) => match rdBlocks intra cbp n (dc.set (5 - n) x.1) (ev.set (5 - n) x.2) (rest.drop m) with
      | .inl e => .inl e
      | .inr (y, m') => .inr (y, m + m')
theorem rdBlocks_range {intra : Bool} {cbp : Nat} : ∀ {n : Nat} {dc : List Int} {ev : List (List DEvent)} {rest : List Bool} {y : List Int × List (List DEvent)} {m : Nat}, rdBlocks intra cbp n dc ev rest = .inr (y, m) → m ≤ rest.length ∧ y.1.length = dc.length ∧ y.2.length = ev.length ∧ ((∀ l ∈ ev, l.length ≤ 65) → ∀ l ∈ y.2, l.length ≤ 65)
  | 0, dc, ev, rest, y, m, h => by
    simp only [rdBlocks, Sum.inr.injEq, Prod.mk.injEq] at h
    obtain ⟨rfl, rfl⟩ := h
    exact ⟨Nat.zero_le _, rfl, rfl, fun h => h⟩
  | n + 1, dc, ev, rest, y, m, h => by
    simp only [rdBlocks] at h
    cases hb : rdBlock intra (cbp.testBit n) rest with
    | inl e => rw [hb] at h; cases h
    | inr p =>
      obtain ⟨x, c⟩ := p
      have hc := rdBlock_range hb
      rw [hb] at h
      simp only at h
      cases hq : rdBlocks intra cbp n (dc.set (5 - n) x.1) (ev.set (5 - n) x.2) (rest.drop c) with
      | inl e => rw [hq] at h; cases h
      | inr z =>
        obtain ⟨z, c'⟩ := z
        rw [hq] at h
        simp only [Sum.inr.injEq, Prod.mk.injEq] at h
        obtain ⟨rfl, rfl⟩ := h
        have := rdBlocks_range hq
        rw [List.length_drop, List.length_set, List.length_set] at this
        refine ⟨by omega, this.2.1, this.2.2.1, fun hl => this.2.2.2 fun l hm => ?_⟩
        rcases List.mem_or_eq_of_mem_set hm with h1 | h1
        · exact hl l h1
        · subst h1; exact hc.2
theorem rdBlocks_err {intra : Bool} {cbp : Nat} : ∀ {n : Nat} {dc : List Int} {ev : List (List DEvent)} {rest : List Bool} {e : Nat}, rdBlocks intra cbp n dc ev rest = .inl e → e ≠ 0
  | 0, dc, ev, rest, e, h => by cases h
  | n + 1, dc, ev, rest, e, h => by
    simp only [rdBlocks] at h
    cases hb : rdBlock intra (cbp.testBit n) rest with
    | inl e' => rw [hb] at h; simp only [Sum.inl.injEq] at h; subst h; exact rdBlock_err hb
    | inr p =>
      obtain ⟨x, c⟩ := p
      rw [hb] at h
      simp only at h
      cases hq : rdBlocks intra cbp n (dc.set (5 - n) x.1) (ev.set (5 - n) x.2) (rest.drop c) with
      | inl e' => rw [hq] at h; simp only [Sum.inl.injEq] at h; subst h; exact rdBlocks_err hq
      | inr z => rw [hq] at h; cases h

/-- A cell that is not skipped, behind its kind. -/
noncomputable def rdTail (st kind ch : Nat) (p0 p1 : Int) (rest : List Bool) : Sum Nat (DCell × Nat) :=
  match rdCbpy (isIntra kind) rest with
  | .inl e => .inl e
  | .inr (pat, m1) => match rdSteps kind (rest.drop m1) with
    | .inl e => .inl e
    | .inr (step, m2) => match rdVec (isIntra kind) p0 p1 (rest.drop (m1 + m2)) with
      | .inl e => .inl e
      | .inr (mv, m3) => match rdBlocks (isIntra kind) (4 * pat + ch) 6 Z6 Ze (rest.drop (m1 + m2 + m3)) with
        | .inl e => .inl e
        | .inr (y, m4) => .inr (cellOf st false kind step mv y.1 y.2, m1 + m2 + m3 + m4)
noncomputable def rdCell (inter : Bool) (p0 p1 : Int) (rest : List Bool) : Sum Nat (DCell × Nat) :=
  match rdBegin 65 inter 0 rest with
  | .inl e => .inl e
  | .inr ((st, none), m) => .inr (cellOf st true 0 0 Z2 Z6 Ze, m)
  | .inr ((st, some x), m) => match rdTail st x.1 x.2 p0 p1 (rest.drop m) with
    | .inl e => .inl e
    | .inr (c, m') => .inr (c, m + m')
end Go.Proofs.YtlemoepklgfjoaaDoor
