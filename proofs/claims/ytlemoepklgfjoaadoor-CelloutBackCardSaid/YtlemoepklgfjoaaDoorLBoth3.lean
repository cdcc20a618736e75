/-
  Cells, both ways.
-/
import Derived.Test.YtlemoepklgfjoaaDoorLBoth2
import Derived.Test.YtlemoepklgfjoaaDoorLCellin
set_option maxRecDepth 100000
namespace Go.Proofs.YtlemoepklgfjoaaDoor
open Go Go.Av

theorem intra_nat (kind : Nat) : intraI (kind : Int) = isIntra kind := by
  unfold intraI isIntra
  congr 1 <;> (rw [decide_eq_decide]; omega)
theorem stepped_nat (kind : Nat) : steppedI (kind : Int) = stepped kind := by
  unfold steppedI stepped
  congr 1 <;> (rw [decide_eq_decide]; omega)

theorem getD_ne {α : Type} {l : List α} {i j : Nat} {x d : α} (h : i ≠ j) : (l.set i x).getD j d = l.getD j d := by
  rw [List.getD_eq_getElem?_getD, List.getElem?_set_ne h, ← List.getD_eq_getElem?_getD]
theorem getD_self {α : Type} {l : List α} {i : Nat} {x d : α} (h : i < l.length) : (l.set i x).getD i d = x := by
  rw [List.getD_eq_getElem?_getD, List.getElem?_set_self h]; rfl

/-! ### A cell's blocks -/
theorem blocks_dec {intra : Bool} {cbp : Nat} : ∀ {n : Nat} {dc : List Int} {ev : List (List DEvent)} {rest : List Bool} {DC : List Int} {EV : List (List DEvent)} {m : Nat}, n ≤ 6 → dc.length = 6 → ev.length = 6 →
    rdBlocks intra cbp n dc ev rest = .inr ((DC, EV), m) →
    DC.length = 6 ∧ EV.length = 6 ∧ (∀ j, j < 6 - n → DC.getD j 0 = dc.getD j 0 ∧ EV.getD j [] = ev.getD j []) ∧
    (∀ j, 6 - n ≤ j → j < 6 → blockOK intra (DC.getD j 0) (EV.getD j []) = true ∧ (!(EV.getD j []).isEmpty) = cbp.testBit (5 - j)) ∧
    (List.range' (6 - n) n).flatMap (fun j => wBlock intra (DC.getD j 0) (EV.getD j [])) = rest.take m
  | 0, dc, ev, rest, DC, EV, m, hn, h1, h2, h => by
    simp only [rdBlocks, Sum.inr.injEq, Prod.mk.injEq] at h
    obtain ⟨⟨rfl, rfl⟩, rfl⟩ := h
    exact ⟨h1, h2, fun j _ => ⟨rfl, rfl⟩, fun j h3 h4 => by omega, by simp⟩
  | n + 1, dc, ev, rest, DC, EV, m, hn, h1, h2, h => by
    simp only [rdBlocks] at h
    cases hb : rdBlock intra (cbp.testBit n) rest with
    | inl e => rw [hb] at h; cases h
    | inr p =>
      obtain ⟨⟨d, l⟩, c⟩ := p
      rw [hb] at h
      simp only at h
      cases hq : rdBlocks intra cbp n (dc.set (5 - n) d) (ev.set (5 - n) l) (rest.drop c) with
      | inl e => rw [hq] at h; cases h
      | inr y =>
        obtain ⟨⟨DC', EV'⟩, c'⟩ := y
        rw [hq] at h
        simp only [Sum.inr.injEq, Prod.mk.injEq] at h
        obtain ⟨⟨rfl, rfl⟩, rfl⟩ := h
        obtain ⟨g1, g2, g3, g4, g5⟩ := blocks_dec (by omega) (by rw [List.length_set]; exact h1) (by rw [List.length_set]; exact h2) hq
        obtain ⟨b1, b2, b3⟩ := block_dec hb
        have at5 := g3 (5 - n) (by omega)
        have e1 : (dc.set (5 - n) d).getD (5 - n) 0 = d := by rw [List.getD_eq_getElem?_getD, List.getElem?_set_self (by omega)]; rfl
        have e2 : (ev.set (5 - n) l).getD (5 - n) [] = l := by rw [List.getD_eq_getElem?_getD, List.getElem?_set_self (by omega)]; rfl
        rw [e1, e2] at at5
        refine ⟨g1, g2, fun j hj => ?_, fun j h3 h4 => ?_, ?_⟩
        · have := g3 j (by omega)
          rw [getD_ne (by omega), getD_ne (by omega)] at this
          exact this
        · by_cases hj : j = 5 - n
          · subst hj
            rw [at5.1, at5.2, show 5 - (5 - n) = n by omega]
            exact ⟨b1, b3⟩
          · exact g4 j (by omega) h4
        · rw [List.range'_succ, List.flatMap_cons, show 6 - (n + 1) = 5 - n by omega, at5.1, at5.2, b2, show 5 - n + 1 = 6 - n by omega, g5, List.take_add]
theorem blocks_enc {intra : Bool} {cbp : Nat} {DC : List Int} {EV : List (List DEvent)} (hD : DC.length = 6) (hE : EV.length = 6) (hok : ∀ j, j < 6 → blockOK intra (DC.getD j 0) (EV.getD j []) = true) (hcb : ∀ j, j < 6 → (!(EV.getD j []).isEmpty) = cbp.testBit (5 - j)) (rest : List Bool) :
    ∀ (n : Nat) (dc : List Int) (ev : List (List DEvent)), n ≤ 6 → dc.length = 6 → ev.length = 6 → (∀ j, j < 6 - n → DC.getD j 0 = dc.getD j 0 ∧ EV.getD j [] = ev.getD j []) →
    rdBlocks intra cbp n dc ev ((List.range' (6 - n) n).flatMap (fun j => wBlock intra (DC.getD j 0) (EV.getD j [])) ++ rest) = .inr ((DC, EV), ((List.range' (6 - n) n).flatMap (fun j => wBlock intra (DC.getD j 0) (EV.getD j []))).length)
  | 0, dc, ev, hn, h1, h2, h3 => by
    have e1 : dc = DC := by
      apply List.ext_getElem (by omega)
      intro j g1 g2
      have := (h3 j (by omega)).1
      simp only [List.getD_eq_getElem?_getD, List.getElem?_eq_getElem g1, List.getElem?_eq_getElem g2, Option.getD_some] at this
      exact this.symm
    have e2 : ev = EV := by
      apply List.ext_getElem (by omega)
      intro j g1 g2
      have := (h3 j (by omega)).2
      simp only [List.getD_eq_getElem?_getD, List.getElem?_eq_getElem g1, List.getElem?_eq_getElem g2, Option.getD_some] at this
      exact this.symm
    subst e1 e2
    rfl
  | n + 1, dc, ev, hn, h1, h2, h3 => by
    rw [List.range'_succ, List.flatMap_cons, List.append_assoc]
    have hb := block_enc (hok (6 - (n + 1)) (by omega)) ((List.range' (6 - (n + 1) + 1) n).flatMap (fun j => wBlock intra (DC.getD j 0) (EV.getD j [])) ++ rest)
    rw [hcb _ (show 6 - (n + 1) < 6 by omega), show 5 - (6 - (n + 1)) = n by omega] at hb
    have ih := blocks_enc hD hE hok hcb rest n (dc.set (5 - n) (DC.getD (5 - n) 0)) (ev.set (5 - n) (EV.getD (5 - n) [])) (by omega) (by rw [List.length_set]; exact h1) (by rw [List.length_set]; exact h2) (fun j hj => by
      by_cases hj5 : j = 5 - n
      · subst hj5
        rw [getD_self (by omega), getD_self (by omega)]
        exact ⟨rfl, rfl⟩
      · rw [getD_ne (by omega), getD_ne (by omega)]
        exact h3 j (by omega))
    simp only [rdBlocks]
    rw [show 6 - (n + 1) = 5 - n by omega] at hb ⊢
    rw [show 5 - n + 1 = 6 - n by omega] at hb ⊢
    rw [hb]
    simp only [List.drop_left, ih, List.length_append]

/-- Which blocks have events, bit by bit. -/
theorem six {α : Type} {l : List α} (h : l.length = 6) : ∃ a b c d e f, l = [a, b, c, d, e, f] := by
  match l, h with
  | [a, b, c, d, e, f], _ => exact ⟨a, b, c, d, e, f, rfl⟩
theorem numB6 : ∀ (a b c d e f : Bool), (numB [a, b, c, d, e, f]).testBit 5 = a ∧ (numB [a, b, c, d, e, f]).testBit 4 = b ∧ (numB [a, b, c, d, e, f]).testBit 3 = c ∧ (numB [a, b, c, d, e, f]).testBit 2 = d ∧ (numB [a, b, c, d, e, f]).testBit 1 = e ∧ (numB [a, b, c, d, e, f]).testBit 0 = f := by decide
theorem coded_bits {EV : List (List DEvent)} (h : EV.length = 6) : ∀ j, j < 6 → (!(EV.getD j []).isEmpty) = (numB (EV.map fun l => !l.isEmpty)).testBit (5 - j) := by
  obtain ⟨a, b, c, d, e, f, rfl⟩ := six h
  obtain ⟨g1, g2, g3, g4, g5, g6⟩ := numB6 (!a.isEmpty) (!b.isEmpty) (!c.isEmpty) (!d.isEmpty) (!e.isEmpty) (!f.isEmpty)
  intro j hj
  have : j = 0 ∨ j = 1 ∨ j = 2 ∨ j = 3 ∨ j = 4 ∨ j = 5 := by omega
  rcases this with rfl | rfl | rfl | rfl | rfl | rfl
  · exact g1.symm
  · exact g2.symm
  · exact g3.symm
  · exact g4.symm
  · exact g5.symm
  · exact g6.symm
theorem coded_of {EV : List (List DEvent)} (h : EV.length = 6) {cbp : Nat} (hc : cbp < 64) (hb : ∀ j, j < 6 → (!(EV.getD j []).isEmpty) = cbp.testBit (5 - j)) : numB (EV.map fun l => !l.isEmpty) = cbp := by
  have e : EV.map (fun l => !l.isEmpty) = bitsN 6 cbp := by
    obtain ⟨a, b, c, d, e, f, rfl⟩ := six h
    have h0 : (!a.isEmpty) = cbp.testBit 5 := hb 0 (by omega)
    have h1 : (!b.isEmpty) = cbp.testBit 4 := hb 1 (by omega)
    have h2 : (!c.isEmpty) = cbp.testBit 3 := hb 2 (by omega)
    have h3 : (!d.isEmpty) = cbp.testBit 2 := hb 3 (by omega)
    have h4 : (!e.isEmpty) = cbp.testBit 1 := hb 4 (by omega)
    have h5 : (!f.isEmpty) = cbp.testBit 0 := hb 5 (by omega)
    simp only [List.map_cons, List.map_nil, bitsN, h0, h1, h2, h3, h4, h5]
  rw [e, numB_bitsN hc]

/-! ### Vectors -/
theorem wrapI_small {n : Int} (h1 : -96 ≤ n) (h2 : n < 96) : wrapI n = if n < -32 then n + 64 else if 32 ≤ n then n - 64 else n := by
  have h : ∀ z : Fin 192, wrapI ((z.val : Int) - 96) = if ((z.val : Int) - 96) < -32 then ((z.val : Int) - 96) + 64 else if 32 ≤ ((z.val : Int) - 96) then ((z.val : Int) - 96) - 64 else ((z.val : Int) - 96) := by decide +kernel
  have h3 := h ⟨(n + 96).toNat, by omega⟩
  simp only at h3
  rw [show (((n + 96).toNat : Nat) : Int) - 96 = n by omega] at h3
  exact h3
theorem wrap_back {a d : Int} (ha : -32 ≤ a ∧ a ≤ 31) (hd : -32 ≤ d ∧ d ≤ 31) : wrapI (wrapI (a + d) - a) = d := by
  rw [wrapI_small (n := a + d) (by omega) (by omega), wrapI_small (by split <;> (try split) <;> omega) (by split <;> (try split) <;> omega)]
  split <;> split <;> (try split) <;> (try split) <;> omega
theorem wrap_fwd {a v : Int} (ha : -32 ≤ a ∧ a ≤ 31) (hv : -32 ≤ v ∧ v ≤ 31) : wrapI (a + wrapI (v - a)) = v := by
  rw [wrapI_small (n := v - a) (by omega) (by omega), wrapI_small (by split <;> (try split) <;> omega) (by split <;> (try split) <;> omega)]
  split <;> split <;> (try split) <;> (try split) <;> omega
theorem wrap_idem (n : Int) : wrapI (wrapI n) = wrapI n := by
  have := wrapI_range n
  rw [wrapI_small (n := wrapI n) (by omega) (by omega), if_neg (by omega), if_neg (by omega)]

/-! ### The beginning -/
theorem skip_again (inter : Bool) (rest : List Bool) : rdSkip inter (again inter ++ rest) = .inr (false, (again inter).length) := by cases inter <;> rfl
theorem skip_dec {inter : Bool} {rest : List Bool} {b : Bool} {m : Nat} (h : rdSkip inter rest = .inr (b, m)) : rest.take m = (bif b then [true] else again inter) ∧ (b = true → inter = true) := by
  unfold rdSkip at h
  cases inter with
  | false =>
    simp only [cond_false, Sum.inr.injEq, Prod.mk.injEq] at h
    obtain ⟨rfl, rfl⟩ := h
    exact ⟨rfl, fun h => by cases h⟩
  | true =>
    simp only [cond_true] at h
    cases rest with
    | nil => cases h
    | cons c r =>
      simp only [Sum.inr.injEq, Prod.mk.injEq] at h
      obtain ⟨rfl, rfl⟩ := h
      exact ⟨by cases c <;> rfl, fun _ => rfl⟩
/-- What is written at the end of a beginning. -/
noncomputable def wLast (inter : Bool) : Option (Nat × Nat) → List Bool
  | none => [true]
  | some x => again inter ++ wMcbpc inter x.1 x.2
theorem wStuff_succ (inter : Bool) (n : Nat) : wStuff inter (n + 1) = again inter ++ wMcbpc inter 5 0 ++ wStuff inter n := by simp only [wStuff, List.replicate_succ, List.flatten_cons]
theorem begin_dec : ∀ {f : Nat} {inter : Bool} {st : Nat} {rest : List Bool} {st' m : Nat} {o : Option (Nat × Nat)}, rdBegin f inter st rest = .inr ((st', o), m) → st ≤ st' ∧ rest.take m = wStuff inter (st' - st) ++ wLast inter o
  | 0, inter, st, rest, st', m, o, h => by cases h
  | f + 1, inter, st, rest, st', m, o, h => by
    simp only [rdBegin] at h
    cases hs : rdSkip inter rest with
    | inl e => rw [hs] at h; cases h
    | inr p =>
      obtain ⟨b, m0⟩ := p
      have h0 := (skip_dec hs).1
      rw [hs] at h
      cases b with
      | true =>
        simp only [Sum.inr.injEq, Prod.mk.injEq] at h
        obtain ⟨⟨rfl, rfl⟩, rfl⟩ := h
        exact ⟨Nat.le_refl _, by rw [h0, Nat.sub_self]; rfl⟩
      | false =>
        simp only at h
        cases hm : rdMcbpc inter (rest.drop m0) with
        | inl e => rw [hm] at h; cases h
        | inr q =>
          obtain ⟨x, m1⟩ := q
          obtain ⟨h1, h5⟩ := mcbpc_dec hm
          rw [hm] at h
          simp only at h
          split at h
          · simp only [Sum.inr.injEq, Prod.mk.injEq] at h
            obtain ⟨⟨rfl, rfl⟩, rfl⟩ := h
            exact ⟨Nat.le_refl _, by rw [List.take_add, h0, ← h1, Nat.sub_self]; rfl⟩
          · rename_i hx
            have hx5 : x.1 = 5 := by omega
            split at h
            · cases h
            · cases hb : rdBegin f inter (st + 1) (rest.drop (m0 + m1)) with
              | inl e => rw [hb] at h; cases h
              | inr y =>
                obtain ⟨⟨st2, o2⟩, m2⟩ := y
                rw [hb] at h
                simp only [Sum.inr.injEq, Prod.mk.injEq] at h
                obtain ⟨⟨rfl, rfl⟩, rfl⟩ := h
                obtain ⟨g1, g2⟩ := begin_dec hb
                refine ⟨by omega, ?_⟩
                rw [List.take_add, List.take_add, h0, ← h1, g2, hx5, h5 hx5, show st2 - st = (st2 - (st + 1)) + 1 by omega, wStuff_succ]
                simp only [cond_false, List.append_assoc]
theorem begin_enc {inter : Bool} {o : Option (Nat × Nat)} (h1 : o = none → inter = true) (h2 : ∀ x, o = some x → (x.1 ≤ 4 ∧ x.1 ≠ 2) ∧ x.2 < 4 ∧ (inter = false → 3 ≤ x.1)) (rest : List Bool) : ∀ (n f st : Nat), st + n ≤ 64 → 65 ≤ st + f →
    rdBegin f inter st (wStuff inter n ++ wLast inter o ++ rest) = .inr ((st + n, o), (wStuff inter n ++ wLast inter o).length)
  | n, 0, st, g1, g2 => by omega
  | 0, f + 1, st, g1, g2 => by
    have e : wStuff inter 0 = [] := rfl
    rw [e, List.nil_append]
    cases o with
    | none =>
      rw [h1 rfl]
      rfl
    | some x =>
      obtain ⟨a1, a2, a3⟩ := h2 x rfl
      simp only [wLast, List.append_assoc]
      simp only [rdBegin, skip_again, List.drop_left, mcbpc_enc (show x.1 ≤ 5 ∧ x.1 ≠ 2 by omega) a3 a2 (by omega), List.length_append, Nat.add_zero]
      rw [if_pos (by omega)]
  | n + 1, f + 1, st, g1, g2 => by
    have ih := begin_enc h1 h2 rest n f (st + 1) (by omega) (by omega)
    rw [wStuff_succ]
    simp only [List.append_assoc] at ih ⊢
    have hd : (again inter ++ (wMcbpc inter 5 0 ++ (wStuff inter n ++ (wLast inter o ++ rest)))).drop ((again inter).length + (wMcbpc inter 5 0).length) = wStuff inter n ++ (wLast inter o ++ rest) := by
      rw [← List.append_assoc]; exact List.drop_left' (by rw [List.length_append])
    simp only [rdBegin, skip_again, List.drop_left, mcbpc_enc (inter := inter) (kind := 5) (ch := 0) (by decide) (fun _ => by decide) (by decide) (fun _ => rfl), hd, ih]
    rw [if_neg (by simp), if_neg (by omega)]
    simp only [List.length_append, Nat.add_assoc, Nat.add_comm 1 n]
end Go.Proofs.YtlemoepklgfjoaaDoor
