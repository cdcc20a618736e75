/-
  Codes, both ways: what is read is what would be written, and what is written is read again.
-/
import Derived.Test.YtlemoepklgfjoaaDoorLRowsOut
import Derived.Test.YtlemoepklgfjoaaDoorLBlocks2
set_option maxRecDepth 100000
namespace Go.Proofs.YtlemoepklgfjoaaDoor
open Go Go.Av

/-! ### Rows of a code -/
theorem findRow_some {q : List UInt8} : ∀ {rows : List (List UInt8)} {i j : Nat}, findRow q rows i = some j → i ≤ j ∧ j - i < rows.length ∧ rows.getD (j - i) [] = q
  | [], i, j, h => by cases h
  | r :: l, i, j, h => by
    simp only [findRow] at h
    cases hd : decide (r = q) with
    | true =>
      rw [hd] at h
      simp only [cond_true, Option.some.injEq] at h
      subst h
      have := of_decide_eq_true hd
      subst this
      simp
    | false =>
      rw [hd] at h
      obtain ⟨h1, h2, h3⟩ := findRow_some (rows := l) h
      refine ⟨by omega, by simp only [List.length_cons]; omega, ?_⟩
      rw [show j - i = (j - (i + 1)) + 1 by omega, List.getD_cons_succ]; exact h3
theorem findRow_none {q : List UInt8} : ∀ {rows : List (List UInt8)} {i : Nat}, findRow q rows i = none → ∀ r ∈ rows, r ≠ q
  | [], i, h, r, hr => by cases hr
  | x :: l, i, h, r, hr => by
    simp only [findRow] at h
    cases hd : decide (x = q) with
    | true => rw [hd] at h; cases h
    | false =>
      rw [hd] at h
      rcases List.mem_cons.1 hr with rfl | h1
      · exact of_decide_eq_false hd
      · exact findRow_none h r h1
theorem anyBeg_of {q r : List UInt8} (hb : begs r q = true) : ∀ {rows : List (List UInt8)}, r ∈ rows → anyBeg q rows = true
  | [], h => by cases h
  | x :: l, h => by
    simp only [anyBeg]
    rcases List.mem_cons.1 h with rfl | h1
    · rw [hb]; rfl
    · rw [anyBeg_of hb h1, Bool.or_true]

/-- What was found is what stands there. -/
theorem wlk_row_eq {rows : List (List UInt8)} : ∀ {rest p : List Bool} {n i m : Nat}, wlk (rowStep rows) p rest n = .inr (i, m) → rows.getD i [] = chs (p ++ rest.take (m - n))
  | [], p, n, i, m, h => by cases h
  | b :: r, p, n, i, m, h => by
    have hle := wlk_le h
    simp only [wlk, rowStep] at h
    cases hf : findRow (chs (p ++ [b])) rows 0 with
    | some j =>
      rw [hf] at h
      simp only [Sum.inr.injEq, Prod.mk.injEq] at h
      obtain ⟨rfl, rfl⟩ := h
      have := (findRow_some hf).2.2
      rw [Nat.sub_zero] at this
      rw [this, show n + 1 - n = 1 by omega]; rfl
    | none =>
      rw [hf] at h
      cases ha : anyBeg (chs (p ++ [b])) rows with
      | false => rw [ha] at h; cases h
      | true =>
        rw [ha] at h
        rw [wlk_row_eq h, show m - n = (m - (n + 1)) + 1 by have := wlk_le h; omega, List.take_succ_cons, List.append_assoc]; rfl
theorem rowBits_eq {rows : List (List UInt8)} {rest : List Bool} {i m : Nat} (h : wlk (rowStep rows) [] rest 0 = .inr (i, m)) : rowBits rows i = rest.take m := by
  have := wlk_row_eq h
  rw [rowBits, this, bitsRow_chs]; simp

/-- No row begins another one. -/
def preFree (rows : List (List UInt8)) : Bool := (List.range rows.length).all fun i => isPlain (rows.getD i []) && (!(rows.getD i []).isEmpty) && (List.range rows.length).all fun j => Nat.beq i j || !begs (rows.getD i []) (rows.getD j [])
theorem begs_chs (A B : List Bool) : begs (chs (A ++ B)) (chs A) = true := begs_iff.2 ⟨by rw [chs_length, chs_length, List.length_append]; omega, by rw [chs_append, chs_length]; exact List.take_left' (chs_length A)⟩
theorem getD_of_mem {α : Type} {l : List α} {x d : α} (h : x ∈ l) : ∃ j, j < l.length ∧ l.getD j d = x := by
  obtain ⟨j, hj, rfl⟩ := List.getElem_of_mem h
  exact ⟨j, hj, by simp [hj]⟩
theorem wlk_enc {rows : List (List UInt8)} (hp : preFree rows = true) {i : Nat} (hi : i < rows.length) (rest : List Bool) : ∀ (q p : List Bool) (n : Nat), q ≠ [] → rows.getD i [] = chs (p ++ q) →
    wlk (rowStep rows) p (q ++ rest) n = .inr (i, n + q.length)
  | [], p, n, h, _ => absurd rfl h
  | b :: q, p, n, _, h => by
    have hno : ∀ j, j < rows.length → begs (rows.getD i []) (rows.getD j []) = true → j = i := fun j hj hb => by
      have h1 := List.all_eq_true.1 hp i (List.mem_range.2 hi)
      simp only [Bool.and_eq_true] at h1
      have h2 := List.all_eq_true.1 h1.2 j (List.mem_range.2 hj)
      rw [hb, Bool.not_true, Bool.or_false] at h2
      exact (Nat.eq_of_beq_eq_true h2).symm
    have hcut : p ++ b :: q = (p ++ [b]) ++ q := by simp
    rw [List.cons_append]
    simp only [wlk, rowStep]
    cases hf : findRow (chs (p ++ [b])) rows 0 with
    | some j =>
      obtain ⟨_, h2, h3⟩ := findRow_some hf
      rw [Nat.sub_zero] at h2 h3
      have hj : j = i := hno j h2 (by rw [h3, h, hcut]; exact begs_chs _ _)
      subst hj
      rw [h3] at h
      have h4 := chs_inj h
      rw [hcut] at h4
      have h5 := List.append_cancel_left ((List.append_nil (p ++ [b])).trans h4)
      subst h5
      rfl
    | none =>
      have hmem : rows.getD i [] ∈ rows := by
        rw [List.getD_eq_getElem?_getD, List.getElem?_eq_getElem hi]; exact List.getElem_mem _
      have ha : anyBeg (chs (p ++ [b])) rows = true := anyBeg_of (by rw [h, hcut]; exact begs_chs _ _) hmem
      have hq : q ≠ [] := by
        rintro rfl
        exact findRow_none hf _ hmem h
      have ih := wlk_enc hp hi rest q (p ++ [b]) (n + 1) hq (by rw [h, hcut])
      simp only [ha, cond_true, ih, List.length_cons]
      rw [show n + 1 + q.length = n + (q.length + 1) by omega]
theorem rowBits_enc {rows : List (List UInt8)} (hp : preFree rows = true) {i : Nat} (hi : i < rows.length) (rest : List Bool) : wlk (rowStep rows) [] (rowBits rows i ++ rest) 0 = .inr (i, (rowBits rows i).length) := by
  have h1 := List.all_eq_true.1 hp i (List.mem_range.2 hi)
  simp only [Bool.and_eq_true] at h1
  have h := wlk_enc hp hi rest (rowBits rows i) [] 0 (by
    intro h
    have h2 := h1.1.2
    unfold rowBits bitsRow at h
    rw [List.map_eq_nil_iff] at h
    rw [h] at h2; cases h2) (by rw [List.nil_append, rowBits, chs_bitsRow h1.1.1])
  rw [h, Nat.zero_add]

/-! ### Kinds, patterns, differences, steps -/
theorem pre6 (inter : Bool) : preFree (rows6 inter) = true := by cases inter <;> kernel_rfl
theorem pre7 : preFree rows7 = true := by kernel_rfl
theorem pre8 : preFree rows8 = true := by kernel_rfl
theorem pre9 : preFree rows9 = true := by kernel_rfl

theorem mcbpc_dec {inter : Bool} {rest : List Bool} {x : Nat × Nat} {m : Nat} (h : rdMcbpc inter rest = .inr (x, m)) : wMcbpc inter x.1 x.2 = rest.take m ∧ (x.1 = 5 → x.2 = 0) := by
  unfold rdMcbpc at h
  cases hw : wlk (rowStep (rows6 inter)) [] rest 0 with
  | inl e => rw [hw] at h; cases h
  | inr p =>
    obtain ⟨i, c⟩ := p
    have hi := wlk_row_lt hw
    rw [rows6_idx] at hi
    rw [hw] at h
    simp only at h
    split at h
    · cases h
    · simp only [Sum.inr.injEq, Prod.mk.injEq] at h
      obtain ⟨rfl, rfl⟩ := h
      rw [← rowBits_eq hw]
      unfold wMcbpc
      cases inter
      · simp only [cond_false] at hi ⊢
        exact ⟨by congr 1; omega, by omega⟩
      · simp only [cond_true] at hi ⊢
        exact ⟨by congr 1; omega, by omega⟩
theorem mcbpc_enc {inter : Bool} {kind ch : Nat} (h1 : kind ≤ 5 ∧ kind ≠ 2) (h2 : inter = false → 3 ≤ kind) (h3 : ch < 4) (h5 : kind = 5 → ch = 0) (rest : List Bool) : rdMcbpc inter (wMcbpc inter kind ch ++ rest) = .inr ((kind, ch), (wMcbpc inter kind ch).length) := by
  unfold rdMcbpc wMcbpc
  have hi : (bif inter then 4 * kind + ch else 4 * kind + ch - 12) < (rows6 inter).length := by
    rw [rows6_idx]
    cases inter
    · have := h2 rfl; simp only [cond_false]; omega
    · simp only [cond_true]; omega
  rw [rowBits_enc (pre6 inter) hi]
  have hj : (bif inter then (bif inter then 4 * kind + ch else 4 * kind + ch - 12) else (bif inter then 4 * kind + ch else 4 * kind + ch - 12) + 12) = 4 * kind + ch := by
    cases inter
    · have := h2 rfl; simp only [cond_false]; omega
    · rfl
  simp only [hj]
  rw [if_neg (by omega), show (4 * kind + ch) / 4 = kind by omega, show (4 * kind + ch) % 4 = ch by omega]
theorem cbpy_dec {intra : Bool} {rest : List Bool} {x m : Nat} (h : rdCbpy intra rest = .inr (x, m)) : wCbpy intra x = rest.take m := by
  unfold rdCbpy at h
  cases hw : wlk (rowStep rows7) [] rest 0 with
  | inl e => rw [hw] at h; cases h
  | inr p =>
    obtain ⟨i, c⟩ := p
    have hi := wlk_row_lt hw
    rw [rows7_len] at hi
    rw [hw] at h
    simp only [Sum.inr.injEq, Prod.mk.injEq] at h
    obtain ⟨rfl, rfl⟩ := h
    rw [← rowBits_eq hw]
    unfold wCbpy
    cases intra
    · rfl
    · simp only [cond_true]; congr 1; omega
theorem cbpy_enc {intra : Bool} {x : Nat} (hx : x < 16) (rest : List Bool) : rdCbpy intra (wCbpy intra x ++ rest) = .inr (x, (wCbpy intra x).length) := by
  unfold rdCbpy wCbpy
  rw [rowBits_enc pre7 (by rw [rows7_len]; cases intra <;> simp <;> omega)]
  cases intra
  · rfl
  · simp only [cond_true]; congr 2; omega
theorem mvd_dec {rest : List Bool} {d : Int} {m : Nat} (h : rdMvd rest = .inr (d, m)) : wMvd d = rest.take m := by
  unfold rdMvd at h
  cases hw : wlk (rowStep rows8) [] rest 0 with
  | inl e => rw [hw] at h; cases h
  | inr p =>
    obtain ⟨i, c⟩ := p
    rw [hw] at h
    simp only [Sum.inr.injEq, Prod.mk.injEq] at h
    obtain ⟨rfl, rfl⟩ := h
    rw [← rowBits_eq hw, wMvd]
    congr 1; omega
theorem mvd_enc {d : Int} (h1 : -32 ≤ d) (h2 : d ≤ 31) (rest : List Bool) : rdMvd (wMvd d ++ rest) = .inr (d, (wMvd d).length) := by
  unfold rdMvd wMvd
  rw [rowBits_enc pre8 (by rw [rows8_len]; omega)]
  simp only
  congr 2; omega
theorem step_dec {rest : List Bool} {st : Int} {m : Nat} (h : rdStep rest = .inr (st, m)) : wStep st = rest.take m ∧ (st = -1 ∨ st = -2 ∨ st = 1 ∨ st = 2) := by
  unfold rdStep at h
  split at h
  · rename_i a b r
    simp only [Sum.inr.injEq, Prod.mk.injEq] at h
    obtain ⟨rfl, rfl⟩ := h
    cases a <;> cases b <;> exact ⟨rfl, by decide⟩
  · cases h
theorem step_enc {st : Int} (h : st = -1 ∨ st = -2 ∨ st = 1 ∨ st = 2) (rest : List Bool) : rdStep (wStep st ++ rest) = .inr (st, (wStep st).length) := by
  rcases h with rfl | rfl | rfl | rfl <;> rfl

/-! ### Events -/
/-- Each row of the page's table is the row of its event. -/
theorem tab9_dec : ((List.range 103).all fun i => Nat.beq i 0 || (inTab (evAt i).1 (evAt i).2.1.toNat (evAt i).2.2.1.natAbs && decide (1 ≤ (evAt i).2.2.1) && decide ((evAt i).2.2.1 ≤ 127) && decide (0 ≤ (evAt i).2.1) && decide ((evAt i).2.1 ≤ 63) && decide ((rowsOf (evAt i).1 (evAt i).2.1.toNat).getD ((evAt i).2.2.1.natAbs - 1) [] = rows9.getD i []))) = true := by kernel_rfl
theorem tab9_enc : ((List.range 64).all fun r => [false, true].all fun l => (List.range (rowsOf l r).length).all fun j => (List.range 103).any fun i => (!Nat.beq i 0) && decide (rows9.getD i [] = (rowsOf l r).getD j []) && decide (evAt i = (l, ((r : Int), (((j + 1 : Nat) : Int), ()))))) = true := by kernel_rfl
theorem esc9 : rowBits rows9 0 = bitsN 7 3 := by kernel_rfl
end Go.Proofs.YtlemoepklgfjoaaDoor
