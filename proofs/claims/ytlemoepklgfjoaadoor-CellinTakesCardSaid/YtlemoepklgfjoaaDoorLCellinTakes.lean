/-
  The plain law of CellinTakes: which cell is read at any bit of any text is what the page says.
-/
import Derived.Test.YtlemoepklgfjoaaDoorLCellin3
import Derived.Test.YtlemoepklgfjoaaDoorM4
set_option maxRecDepth 100000
namespace Go.Proofs.YtlemoepklgfjoaaDoor
open Go Go.Av

/-! ### A text's bits, as the page tells them -/
theorem ref02_Row_byte (k : Nat) : ((List.range 256).all fun v => decide (overspillref02_Row (k + 20) (v : Int) 8 = some (chs (bitsN 8 v)))) = true := by kernel_rfl
theorem ref02_Row8 (k : Nat) (b : UInt8) : overspillref02_Row (k + 20) (wr .i64 ((b.toNat : Nat) : Int)) 8 = some (chs (byteBits b)) := by
  have hb := u8_lt b
  rw [wr, wrap64 (by omega) (by omega), ← bitsN_8]
  have := List.all_eq_true.1 (ref02_Row_byte k) b.toNat (List.mem_range.2 hb)
  exact of_decide_eq_true this
theorem toU8_chs (B : List Bool) : List.map toU8 (List.map (fun (b : UInt8) => (b.toNat : Int)) (chs B)) = chs B := by
  rw [List.map_map]
  conv => rhs; rw [← List.map_id (chs B)]
  apply List.map_congr_left
  intro b _
  simp [toU8]
theorem Show_loop (k : Nat) {s : List UInt8} (hs : s.length ≤ 100000000) : ∀ (n i : Nat) (acc : List Bool), i ≤ s.length → s.length < n + i → acc.length = 8 * i →
    overspillref02_Showu0 (k + 20) n s (i : Int) (List.map (fun (b : UInt8) => (b.toNat : Int)) (chs acc)) = some ((), List.map (fun (b : UInt8) => (b.toNat : Int)) (chs (acc ++ bitsOf (s.drop i))))
  | 0, i, acc, h1, h2, h3 => by omega
  | n + 1, i, acc, h1, h2, h3 => by
    simp only [overspillref02_Showu0]
    by_cases h : i < s.length
    · have hd : s.drop i = s.getD i 0 :: s.drop (i + 1) := by
        rw [List.drop_eq_getElem_cons h]; simp [h]
      have hl : decide ((List.map (fun (b : UInt8) => (b.toNat : Int)) (chs acc)).length + (List.map (fun (b : UInt8) => (b.toNat : Int)) (chs (byteBits (s.getD i 0)))).length ≤ rowMax) = true := by
        simp only [List.length_map, chs_length, h3, rowMax, decide_eq_true_eq]
        have : (byteBits (s.getD i 0)).length = 8 := rfl
        omega
      have ih := Show_loop k hs n (i + 1) (acc ++ byteBits (s.getD i 0)) h (by omega) (by
        have hbl : ∀ b, (byteBits b).length = 8 := fun _ => rfl
        simp only [List.length_append, h3, hbl]; omega)
      rw [chs_append, List.map_append] at ih
      simp only [Int.ofNat_lt, h, decide_true, cond_true, inR_nat, Int.toNat_natCast, ref02_Row8, Option.bind_some, hl]
      rw [show wr .i64 ((i : Int) + 1) = ((i + 1 : Nat) : Int) by rw [wr, wrap64 (by omega) (by omega)]; simp, ih, hd, bitsOf]
      simp only [Option.bind_some, List.append_assoc]
    · have : i = s.length := by omega
      subst this
      simp [bitsOf]
theorem Show_spec {k : Nat} {s : List UInt8} (hs : s.length ≤ 100000000) (hk : s.length + 20 < k) : overspillref02_Show k s = some (chs (bitsOf s)) := by
  obtain ⟨k', rfl⟩ : ∃ k', k = k' + 20 := ⟨k - 20, by omega⟩
  have h := Show_loop k' hs (k' + 20) 0 [] (by omega) (by omega) rfl
  have h' : overspillref02_Showu0 (k' + 20) (k' + 20) s 0 [] = _ := h
  simp only [overspillref02_Show, h', Option.bind_some, List.nil_append, List.drop_zero, toU8_chs]

/-! ### Cells that are the same -/
theorem ref10_Same_refl_loop (k : Nat) {a : List DEvent} (hb : a.length ≤ 100000) : ∀ (n i : Nat), i ≤ a.length → a.length < n + i → overspillref10_Sameu0 k n a a (i : Int) = some (.inr ())
  | 0, i, h1, h2 => by omega
  | n + 1, i, h1, h2 => by
    simp only [overspillref10_Sameu0]
    by_cases h : i < a.length
    · have h3 := ref10_Same_refl_loop k hb n (i + 1) h (by omega)
      have hq := eqB_refl (τ := YEvent) (a.getD i (false, (0, (0, ())))) rfl
      simp only [inR_nat, Int.toNat_natCast, Int.ofNat_lt, h, decide_true, cond_true, hq, Bool.true_xor, Bool.not_true, cond_false]
      rw [show wr .i64 ((i : Int) + 1) = ((i + 1 : Nat) : Int) by rw [wr, wrap64 (by omega) (by omega)]; simp, h3]
      rfl
    · simp [h]
theorem ref10_Same_refl {k : Nat} {a : List DEvent} (hb : a.length ≤ 100000) (hk : a.length < k) : overspillref10_Same k a a = some true := by
  have h := ref10_Same_refl_loop k hb k 0 (by omega) (by omega)
  have h' : overspillref10_Sameu0 k k a a 0 = _ := h
  simp only [overspillref10_Same, decide_true, Bool.not_true, cond_false, h']
  rfl
theorem ref21_Same_refl_loop {k m : Nat} (hm : m ≤ 100000) (hk : m < k) {c : DCell} (hc : ∀ i, (c.2.2.2.2.2.2.1.getD i []).length ≤ m) : ∀ (n i : Nat), i ≤ 6 → 6 < n + i → overspillref21_Sameu1 k n (i : Int) c c = some (.inr ((), (c, c)))
  | 0, i, h1, h2 => by omega
  | n + 1, i, h1, h2 => by
    simp only [overspillref21_Sameu1]
    by_cases h : i < 6
    · have h3 := ref21_Same_refl_loop hm hk hc n (i + 1) h (by omega)
      have hl := hc i
      simp only [inR_nat, Int.toNat_natCast, show decide ((i : Int) < 6) = true by simp <;> omega, h, decide_true, cond_true, ref10_Same_refl (k := k) (show (c.2.2.2.2.2.2.1.getD i []).length ≤ 100000 by omega) (by omega), Option.bind_some, Bool.not_true, cond_false]
      rw [show wr .i64 ((i : Int) + 1) = ((i + 1 : Nat) : Int) by rw [wr, wrap64 (by omega) (by omega)]; simp, h3]
      rfl
    · simp only [show decide ((i : Int) < 6) = false by simp <;> omega, cond_false]
theorem ref21_Same_refl {k m : Nat} (hm : m ≤ 100000) (hk : m < k) (h6 : 6 < k) {c : DCell} (hc : ∀ i, (c.2.2.2.2.2.2.1.getD i []).length ≤ m) : overspillref21_Same k c c = some true := by
  have h := ref21_Same_refl_loop hm hk hc k 0 (by omega) (by omega)
  have h' : overspillref21_Sameu1 k k 0 c c = _ := h
  have h1 := eqB_refl (τ := .arr 2 (.int .i64)) c.2.2.2.2.1 rfl
  have h2 := eqB_refl (τ := .arr 6 (.int .i64)) c.2.2.2.2.2.1 rfl
  have hu : overspillref21_Sameu0 k c c = some (false, (c, c)) := by
    simp only [overspillref21_Sameu0, decide_true, Bool.not_true, cond_false, beq_self_eq_true, Bool.true_xor, h1, h2]
  simp only [overspillref21_Same, hu, Option.bind_some, cond_false, h']
  rfl

theorem getD_len {l : List (List DEvent)} {m : Nat} (h : ∀ x ∈ l, x.length ≤ m) (i : Nat) : (l.getD i []).length ≤ m := by
  by_cases hi : i < l.length
  · rw [List.getD_eq_getElem?_getD, List.getElem?_eq_getElem hi]; exact h _ (List.getElem_mem _)
  · rw [List.getD_eq_getElem?_getD, List.getElem?_eq_none (by omega)]; simp
theorem Ze_len : ∀ x ∈ Ze, x.length ≤ 65 := by
  intro x hx
  have : x = [] := by
    simp only [Ze, Ty.zero, List.mem_replicate] at hx
    exact hx.2
  subst this; simp
theorem rdCell_events {inter : Bool} {p0 p1 : Int} {rest : List Bool} {c : DCell} {m : Nat} (h : rdCell inter p0 p1 rest = .inr (c, m)) : m ≤ rest.length ∧ ∀ x ∈ c.2.2.2.2.2.2.1, x.length ≤ 65 := by
  unfold rdCell at h
  cases hb : rdBegin 65 inter 0 rest with
  | inl e => rw [hb] at h; cases h
  | inr q =>
    obtain ⟨⟨st, o⟩, m0⟩ := q
    have hr := rdBegin_range (by omega) hb
    rw [hb] at h
    cases o with
    | none =>
      simp only [Sum.inr.injEq, Prod.mk.injEq] at h
      obtain ⟨rfl, rfl⟩ := h
      exact ⟨hr.1, Ze_len⟩
    | some x =>
      simp only [rdTail_mid] at h
      cases hm : rdMid x.1 p0 p1 (rest.drop m0) with
      | inl e => rw [hm] at h; cases h
      | inr z =>
        obtain ⟨y, m1⟩ := z
        have hr1 := rdMid_range hm
        rw [List.length_drop] at hr1
        rw [hm] at h
        simp only at h
        cases hq : rdBlocks (isIntra x.1) (4 * y.1 + x.2) 6 Z6 Ze ((rest.drop m0).drop m1) with
        | inl e => rw [hq] at h; cases h
        | inr w =>
          obtain ⟨w, m4⟩ := w
          have hr2 := rdBlocks_range hq
          rw [List.length_drop, List.length_drop] at hr2
          rw [hq] at h
          simp only [Sum.inr.injEq, Prod.mk.injEq] at h
          obtain ⟨rfl, rfl⟩ := h
          exact ⟨by omega, hr2.2.2.2 Ze_len⟩

theorem lives_21 (k : Nat) : overspilllaw21_lives (k + 200) = some true := by kernel_rfl

theorem plain_CellinTakes (s : List UInt8) (how : DHow) (pred : List Int) (hs : wfT .str s) (hh : wfT YHow how) (hp : wfT (.arr 2 (.int .i64)) pred) : ∃ k, overspilllaw21_CellinTakes k s how pred = some true := by
  refine ⟨9800 + 200, ?_⟩
  obtain ⟨p0, p1, rfl⟩ : ∃ p0 p1, pred = [p0, p1] := by
    obtain ⟨hl, _⟩ := hp
    match pred, hl with
    | [a, b], _ => exact ⟨a, b, rfl⟩
  obtain ⟨from_, inter, u⟩ := how
  simp only [overspilllaw21_CellinTakes, inbits_New, Option.bind_some, overspilllaw21_CellinTakesu0]
  by_cases h500 : 500 < s.length
  · simp only [show decide ((500 : Int) < ((s.length : Nat) : Int)) = true by simp <;> omega, cond_true, Option.bind_some, lives_21]
  · have hsm : Small s := by unfold Small; omega
    have hseek := Seek_any (k := 9800 + 200) hsm from_ (s, ((0 : Int), ())) rfl
    simp only [show decide ((500 : Int) < ((s.length : Nat) : Int)) = false by simp <;> omega, cond_false, hseek, Option.bind_some]
    by_cases hf : 0 ≤ from_ ∧ from_ ≤ ((8 * s.length : Nat) : Int)
    · rw [if_pos hf]
      obtain ⟨a, rfl⟩ : ∃ a : Nat, from_ = a := ⟨from_.toNat, by omega⟩
      have ha : a ≤ 8 * s.length := by omega
      have hbl : (bitsOf s).length ≤ 1000000000000 := by rw [bitsOf_length]; omega
      have hT := Take_cell (k := 9800 + 200) hsm (by omega) inter p0 p1 ha
      have hR := ref21_cell (k := 9800 + 200) (by omega) (B := bitsOf s) (a := a) hbl (by rw [bitsOf_length]; exact ha) inter p0 p1
      have e1 : decide ((1 : Int) = 1) = true := rfl
      have hT' : cellin_Take (9800 + 200) inter [p0, p1] (s, ((a : Int), ())) = _ := hT
      simp only [decide_true, Bool.not_true, cond_false, hT', Show_spec (k := 9800 + 200) (show s.length ≤ 100000000 by omega) (by omega), Option.bind_some, hR, cellin_Take_2]
      have hsame : ∀ c : DCell, (∀ x ∈ c.2.2.2.2.2.2.1, x.length ≤ 65) → overspillref21_Same (9800 + 200) c c = some true := fun c hc => ref21_Same_refl (m := 65) (by omega) (by omega) (by omega) (getD_len hc)
      cases hc : rdCell inter p0 p1 (bitsFrom s a) with
      | inl e =>
        simp only [hsame CellD Ze_len, Option.bind_some, cond_true, decide_true, inbits_Reader_At, lives_21]
      | inr x =>
        obtain ⟨c, m⟩ := x
        simp only [hsame c (rdCell_events hc).2, Option.bind_some, cond_true, decide_true, inbits_Reader_At, lives_21]
    · rw [if_neg hf]
      have e1 : decide ((1 : Int) = 0) = false := rfl
      simp only [e1, decide_false, Bool.not_false, cond_true, lives_21, Option.bind_some]
end Go.Proofs.YtlemoepklgfjoaaDoor
