/-
  The plain law of CelloutBack: a cell that may be is read again from what was written of it; another one is not written.
-/
import Derived.Test.YtlemoepklgfjoaaDoorLBoth4
import Derived.Test.YtlemoepklgfjoaaDoorLCellin2
import Derived.Test.YtlemoepklgfjoaaDoorM4
set_option maxRecDepth 100000
namespace Go.Proofs.YtlemoepklgfjoaaDoor
open Go Go.Av

theorem lives_22b (k : Nat) : overspilllaw22_lives (k + 200) = some true := by kernel_rfl

theorem slices_refl_loop (k : Nat) {a : List DEvent} (hb : a.length ≤ 100000) : ∀ (n i : Nat), i ≤ a.length → a.length < n + i → slices_Equal_Eventu0 k n a a (a.length : Int) (i : Int) = some (.inr ())
  | 0, i, h1, h2 => by omega
  | n + 1, i, h1, h2 => by
    simp only [slices_Equal_Eventu0]
    by_cases h : i < a.length
    · have h3 := slices_refl_loop k hb n (i + 1) h (by omega)
      have hq := eqB_refl (τ := YEvent) (a.getD i (false, (0, (0, ())))) rfl
      simp only [inR_nat, Int.toNat_natCast, Int.ofNat_lt, h, decide_true, cond_true, hq, Bool.true_xor, Bool.not_true, cond_false]
      rw [show wr .i64 ((i : Int) + 1) = ((i + 1 : Nat) : Int) by rw [wr, wrap64 (by omega) (by omega)]; simp, h3]
      rfl
    · simp [h]
theorem slices_refl {k : Nat} {a : List DEvent} (hb : a.length ≤ 100000) (hk : a.length < k) : slices_Equal_Event k a a = some true := by
  have h := slices_refl_loop k hb k 0 (by omega) (by omega)
  have h' : slices_Equal_Eventu0 k k a a (a.length : Int) 0 = _ := h
  simp only [slices_Equal_Event, decide_true, Bool.not_true, cond_false, h']
  rfl
theorem cellin_refl_loop {k m : Nat} (hm : m ≤ 100000) (hk : m < k) {c : DCell} (hc : ∀ i, (c.2.2.2.2.2.2.1.getD i []).length ≤ m) : ∀ (n i : Nat), i ≤ 6 → 6 < n + i → cellin_Sameu1 k n true (i : Int) c c = some (true, (c, c))
  | 0, i, h1, h2 => by omega
  | n + 1, i, h1, h2 => by
    simp only [cellin_Sameu1]
    by_cases h : i < 6
    · have h3 := cellin_refl_loop hm hk hc n (i + 1) h (by omega)
      have hl := hc i
      simp only [inR_nat, Int.toNat_natCast, show decide ((i : Int) < 6) = true by simp <;> omega, h, decide_true, cond_true, slices_refl (k := k) (show (c.2.2.2.2.2.2.1.getD i []).length ≤ 100000 by omega) (by omega), Option.bind_some]
      rw [show wr .i64 ((i : Int) + 1) = ((i + 1 : Nat) : Int) by rw [wr, wrap64 (by omega) (by omega)]; simp, h3]
      rfl
    · simp only [show decide ((i : Int) < 6) = false by simp <;> omega, cond_false]
theorem cellin_refl {k m : Nat} (hm : m ≤ 100000) (hk : m < k) (h6 : 6 < k) {c : DCell} (hc : ∀ i, (c.2.2.2.2.2.2.1.getD i []).length ≤ m) : cellin_Same k c c = some true := by
  have h := cellin_refl_loop hm hk hc k 0 (by omega) (by omega)
  have h' : cellin_Sameu1 k k true 0 c c = _ := h
  have h1 := eqB_refl (τ := .arr 2 (.int .i64)) c.2.2.2.2.1 rfl
  have h2 := eqB_refl (τ := .arr 6 (.int .i64)) c.2.2.2.2.2.1 rfl
  have hu : cellin_Sameu0 k c c = some (true, (c, c)) := by
    simp only [cellin_Sameu0, decide_true, cond_true, beq_self_eq_true, Bool.false_xor, h1, h2]
  simp only [cellin_Same, hu, Option.bind_some, h']

theorem few_loop (k : Nat) {c : DCell} : ∀ (n i : Nat), i ≤ 6 → 6 < n + i → overspilllaw22_fewu0 k n (i : Int) c = some (.inl (false, c)) ∨ (overspilllaw22_fewu0 k n (i : Int) c = some (.inr ((), c)) ∧ ∀ j, i ≤ j → j < 6 → ((evW c).getD j []).length ≤ 100)
  | 0, i, h1, h2 => by omega
  | n + 1, i, h1, h2 => by
    simp only [overspilllaw22_fewu0]
    by_cases h : i < 6
    · have e : decide ((100 : Int) < ((((evW c).getD i []).length : Nat) : Int)) = decide (100 < ((evW c).getD i []).length) := by rw [decide_eq_decide]; omega
      simp only [inR_nat, Int.toNat_natCast, show decide ((i : Int) < 6) = true by simp <;> omega, h, decide_true, cond_true, e]
      by_cases hq : 100 < ((evW c).getD i []).length
      · left; rw [decide_eq_true hq]; rfl
      · rw [decide_eq_false hq, show wr .i64 ((i : Int) + 1) = ((i + 1 : Nat) : Int) by rw [wr, wrap64 (by omega) (by omega)]; simp]
        rcases few_loop k (c := c) n (i + 1) h (by omega) with h4 | ⟨h4, h5⟩
        · left; rw [h4]; rfl
        · right; rw [h4]
          refine ⟨rfl, fun j h6 h7 => ?_⟩
          by_cases hj : j = i
          · subst hj; omega
          · exact h5 j (by omega) h7
    · have : i = 6 := by omega
      subst this
      right; exact ⟨rfl, fun j h6 h7 => by omega⟩
theorem few_spec_w {k : Nat} (hk : 6 < k) {c : DCell} (hc : (evW c).length = 6) : overspilllaw22_few k c = some false ∨ (overspilllaw22_few k c = some true ∧ ∀ i, ((evW c).getD i []).length ≤ 100) := by
  simp only [overspilllaw22_few]
  rcases few_loop k (c := c) k 0 (by omega) (by omega) with h | ⟨h, h2⟩
  · left
    have h' : overspilllaw22_fewu0 k k 0 c = _ := h
    rw [h']; rfl
  · right
    have h' : overspilllaw22_fewu0 k k 0 c = _ := h
    refine ⟨by rw [h']; rfl, fun i => ?_⟩
    by_cases hi : i < 6
    · exact h2 i (by omega) hi
    · rw [List.getD_eq_getElem?_getD, List.getElem?_eq_none (by omega)]; simp

theorem wBlock_len {intra : Bool} {d : Int} {l : List DEvent} {m : Nat} (h : blockOK intra d l = true) (hl : l.length ≤ m) : (wBlock intra d l).length ≤ 8 + 22 * m := by
  simp only [blockOK, Bool.and_eq_true] at h
  have h6 := wEvents_length (levOK_right h.2)
  unfold wBlock
  rw [List.length_append]
  cases intra <;> simp only [cond_true, cond_false, bitsN_length, List.length_nil] <;> omega
theorem wBlocks_len {m : Nat} {c : DCell} (hc : CellF m c) (h : blocksOK c 0 = true) : (wBlocks c 0).length ≤ 6 * (8 + 22 * m) := by
  have hb : ∀ j, j < 6 → (wBlock (intraI c.2.2.1) ((dcW c).getD j 0) ((evW c).getD j [])).length ≤ 8 + 22 * m := fun j hj =>
    wBlock_len (List.all_eq_true.1 h j (List.mem_range'_1.2 (by omega))) (hc.few j)
  have h0 := hb 0 (by omega); have h1 := hb 1 (by omega); have h2 := hb 2 (by omega); have h3 := hb 3 (by omega); have h4 := hb 4 (by omega); have h5 := hb 5 (by omega)
  have e : List.range' 0 (6 - 0) = [0, 1, 2, 3, 4, 5] := rfl
  unfold wBlocks
  rw [e]
  simp only [List.flatMap_cons, List.flatMap_nil, List.length_append, List.length_nil]
  omega
theorem wCell_len {m : Nat} {c : DCell} (hc : CellF m c) {inter : Bool} (hok : cellOK inter c = true) (p0 p1 : Int) : (wCell inter p0 p1 c).length ≤ 1700 + 6 * (8 + 22 * m) := by
  have hok' := hok
  simp only [cellOK, Bool.and_eq_true, decide_eq_true_eq] at hok
  have hsl := wStuff_len inter c.1.toNat
  have h1 := again_len inter
  have h2 := wMcbpc_len inter c.2.2.1.toNat (codedN c % 4)
  unfold wCell wHead
  rw [List.length_append, List.length_append]
  cases hsk : c.2.1 with
  | true => simp only [cond_true, List.length_cons, List.length_nil]; omega
  | false =>
    rw [hsk] at hok
    simp only [cond_false, Bool.and_eq_true] at hok
    have hb := wBlocks_len hc hok.2.2
    have t0 := wMvd_len (wrapI ((mvW c).getD 0 0 - wrapI p0))
    have t1 := wMvd_len (wrapI ((mvW c).getD 1 0 - wrapI p1))
    have hvl : (wVec p0 p1 c).length ≤ 48 := by
      unfold wVec
      cases intraI c.2.2.1 <;> simp only [cond_true, cond_false, List.length_append, List.length_nil] <;> omega
    have sl := wStep_len c.2.2.2.1
    have ssl : (wSteps c).length ≤ 2 := by unfold wSteps; cases steppedI c.2.2.1 <;> simp; exact sl
    have cl := wCbpy_len (intraI c.2.2.1) (codedN c / 4)
    unfold wBody
    simp only [cond_false, List.length_append]
    omega

theorem plain_CelloutBack (c : DCell) (how : Doverspilllaw22_How) (pred : List Int) (hc : wfT YCell c) (hh : wfT Yoverspilllaw22_How how) (hp : wfT (.arr 2 (.int .i64)) pred) : ∃ k, overspilllaw22_CelloutBack k c how pred = some true := by
  refine ⟨39800 + 200, ?_⟩
  have l1 : (evW c).length = 6 := hc.2.2.2.2.2.2.1.1
  have l2 : (dcW c).length = 6 := hc.2.2.2.2.2.1.1
  have l3 : (mvW c).length = 2 := hc.2.2.2.2.1.1
  obtain ⟨p0, p1, rfl⟩ : ∃ p0 p1, pred = [p0, p1] := by
    obtain ⟨hl, _⟩ := hp
    match pred, hl with
    | [a, b], _ => exact ⟨a, b, rfl⟩
  obtain ⟨ahead, inter, u⟩ := how
  simp only [overspilllaw22_CelloutBack, overspilllaw22_CelloutBacku0]
  rcases few_spec_w (k := 39800 + 200) (by omega) l1 with hfew | ⟨hfew, hall⟩
  · simp only [hfew, Option.bind_some, Bool.not_false, cond_true, lives_22b]
  · simp only [hfew, Option.bind_some, Bool.not_true, cond_false]
    by_cases h100 : 100 < ahead.length
    · simp only [show decide ((100 : Int) < ((ahead.length : Nat) : Int)) = true by simp <;> omega, cond_true, lives_22b, Option.bind_some]
    · have hcf : CellF 100 c := ⟨l1, l2, l3, hall⟩
      have hadd : ∃ A : List Bool, A.length ≤ 100 ∧ ∃ e, outbits_Writer_Add (39800 + 200) ahead 0 [] = some (e, Wr A) := by
        cases hpl : isPlain ahead with
        | true =>
          have h := Add_spec (k := 39800 + 200) (B := []) (C := bitsRow ahead) (by simp only [bitsRow, List.length_map]; omega) (by simp only [bitsRow, List.length_map, List.length_nil]; omega)
          rw [chs_bitsRow hpl] at h
          exact ⟨bitsRow ahead, by simp only [bitsRow, List.length_map]; omega, 0, h⟩
        | false => exact ⟨[], by simp, 1, Add_bad (k := 39800 + 200) (B := []) (by omega) hpl⟩
      obtain ⟨A, hA, e, hadd⟩ := hadd
      simp only [show decide ((100 : Int) < ((ahead.length : Nat) : Int)) = false by simp <;> omega, cond_false, outbits_New, Option.bind_some, hadd, outbits_Writer_Len]
      cases hok : cellOK inter c with
      | false =>
        have hright := Right_spec_w (k := 39800 + 200) (m := 100) (by omega) (by omega) hcf inter
        rw [hok] at hright
        have e12 : decide ((12 : Int) = 0) = false := rfl
        simp only [PutCell_bad (k := 39800 + 200) (m := 100) (by omega) (by omega) hcf hok p0 p1 A, Option.bind_some, e12, Bool.not_false, cond_true, overspilllaw22_CelloutBacku1, outbits_Writer_Len, decide_true, hright, lives_22b]
      | true =>
        have hwl := wCell_len hcf hok p0 p1
        have hput := PutCell_ok (k := 39800 + 200) (m := 100) (B := A) (by omega) (by omega) hcf hok p0 p1 (by omega)
        simp only [hput, Option.bind_some, decide_true, Bool.not_true, cond_false, outbits_Writer_Text, inbits_New]
        have hpl := pk_length (A ++ wCell inter p0 p1 c)
        rw [List.length_append] at hpl
        obtain ⟨s, hs⟩ : ∃ s, s = (pk (A ++ wCell inter p0 p1 c)).map toU8 := ⟨_, rfl⟩
        have hsl : s.length = (A.length + (wCell inter p0 p1 c).length + 7) / 8 := by rw [hs, List.length_map, hpl]
        have hbits := bits_pk (A ++ wCell inter p0 p1 c)
        rw [← hs] at hbits
        rw [← hs]
        have hsm : Small s := by unfold Small; omega
        have hseek := Seek_any (k := 39800 + 200) hsm ((A.length : Nat) : Int) (s, ((0 : Int), ())) rfl
        rw [if_pos (by omega)] at hseek
        have hT := Take_cell (k := 39800 + 200) hsm (by omega) inter p0 p1 (show A.length ≤ 8 * s.length by omega)
        have hfr : bitsFrom s A.length = wCell inter p0 p1 c ++ List.replicate (8 * (((A ++ wCell inter p0 p1 c).length + 7) / 8) - (A ++ wCell inter p0 p1 c).length) false := by
          unfold bitsFrom
          rw [hbits, List.append_assoc]; exact List.drop_left' rfl
        rw [hfr, cell_enc hcf hok] at hT
        have hT' : cellin_Take (39800 + 200) inter [p0, p1] (s, (((A.length : Nat) : Int), ())) = _ := hT
        have hsame := cellin_refl (k := 39800 + 200) (m := 100) (by omega) (by omega) (by omega) (c := c) hall
        simp only [hseek, Option.bind_some, hT', decide_true, cond_true, hsame, inbits_Reader_At, List.length_append, lives_22b]
end Go.Proofs.YtlemoepklgfjoaaDoor
