/-
  The plain law of CelloutOnce: a cell that is read is written with the very bits that were read.
-/
import Derived.Test.YtlemoepklgfjoaaDoorLBoth4
import Derived.Test.YtlemoepklgfjoaaDoorLShow
set_option maxRecDepth 100000
namespace Go.Proofs.YtlemoepklgfjoaaDoor
open Go Go.Av

theorem lives_22 (k : Nat) : overspilllaw22_lives (k + 200) = some true := by kernel_rfl

theorem rdCell_err {inter : Bool} {p0 p1 : Int} {rest : List Bool} {e : Nat} (h : rdCell inter p0 p1 rest = .inl e) : e ≠ 0 := by
  unfold rdCell at h
  cases hb : rdBegin 65 inter 0 rest with
  | inl e' => rw [hb] at h; simp only [Sum.inl.injEq] at h; subst h; exact rdBegin_err hb
  | inr q =>
    obtain ⟨⟨st, o⟩, m0⟩ := q
    rw [hb] at h
    cases o with
    | none => cases h
    | some x =>
      simp only [rdTail_mid] at h
      cases hm : rdMid x.1 p0 p1 (rest.drop m0) with
      | inl e' => rw [hm] at h; simp only [Sum.inl.injEq] at h; subst h; exact rdMid_err hm
      | inr z =>
        obtain ⟨y, m1⟩ := z
        rw [hm] at h
        simp only at h
        cases hq : rdBlocks (isIntra x.1) (4 * y.1 + x.2) 6 Z6 Ze ((rest.drop m0).drop m1) with
        | inl e' => rw [hq] at h; simp only [Sum.inl.injEq] at h; subst h; exact rdBlocks_err hq
        | inr w => rw [hq] at h; cases h

theorem plain_CelloutOnce (s : List UInt8) (how : Doverspilllaw22_How) (pred : List Int) (hs : wfT .str s) (hh : wfT Yoverspilllaw22_How how) (hp : wfT (.arr 2 (.int .i64)) pred) : ∃ k, overspilllaw22_CelloutOnce k s how pred = some true := by
  refine ⟨9800 + 200, ?_⟩
  obtain ⟨p0, p1, rfl⟩ : ∃ p0 p1, pred = [p0, p1] := by
    obtain ⟨hl, _⟩ := hp
    match pred, hl with
    | [a, b], _ => exact ⟨a, b, rfl⟩
  obtain ⟨ahead, inter, u⟩ := how
  simp only [overspilllaw22_CelloutOnce, inbits_New, Option.bind_some, overspilllaw22_CelloutOnceu0]
  by_cases h500 : 500 < s.length
  · simp only [show decide ((500 : Int) < ((s.length : Nat) : Int)) = true by simp <;> omega, cond_true, Option.bind_some, lives_22]
  · have hsm : Small s := by unfold Small; omega
    have hseek := Seek_any (k := 9800 + 200) hsm ((ahead.length : Nat) : Int) (s, ((0 : Int), ())) rfl
    simp only [show decide ((500 : Int) < ((s.length : Nat) : Int)) = false by simp <;> omega, cond_false, hseek, Option.bind_some]
    by_cases hf : 0 ≤ ((ahead.length : Nat) : Int) ∧ ((ahead.length : Nat) : Int) ≤ ((8 * s.length : Nat) : Int)
    · rw [if_pos hf]
      have ha : ahead.length ≤ 8 * s.length := by omega
      have hbl : (bitsOf s).length ≤ 1000000000000 := by rw [bitsOf_length]; omega
      have hT := Take_cell (k := 9800 + 200) hsm (by omega) inter p0 p1 ha
      have hT' : cellin_Take (9800 + 200) inter [p0, p1] (s, (((ahead.length : Nat) : Int), ())) = _ := hT
      simp only [decide_true, Bool.not_true, cond_false, hT']
      cases hc : rdCell inter p0 p1 (bitsFrom s ahead.length) with
      | inl e =>
        have he : e ≠ 0 := rdCell_err hc
        have e1 : decide ((e : Int) = 0) = false := by simp <;> omega
        simp only [Option.bind_some, e1, Bool.not_false, cond_true, overspilllaw22_CelloutOnceu1, inbits_Reader_At, decide_true, lives_22]
      | inr x =>
        obtain ⟨c, m⟩ := x
        obtain ⟨hcf, hok, hw⟩ := cell_dec hc
        have hm := (rdCell_events hc).1
        rw [bitsFrom_length] at hm
        have hwl : (wCell inter p0 p1 c).length = m := by rw [hw, List.length_take, bitsFrom_length]; omega
        have hput : cellout_Put (9800 + 200) inter [p0, p1] c 0 [] = _ := PutCell_ok (k := 9800 + 200) (m := 65) (B := []) (by omega) (by omega) hcf hok p0 p1 (by simp)
        have hright := Right_spec_w (k := 9800 + 200) (m := 65) (by omega) (by omega) hcf inter
        rw [hok] at hright
        rw [List.nil_append] at hput
        have e1 : wr .i64 (((ahead.length + m : Nat) : Int) - ((ahead.length : Nat) : Int)) = (m : Int) := by rw [wr, wrap64 (by omega) (by omega)]; omega
        have hpl := pk_length (wCell inter p0 p1 c)
        have hs1 := Show_spec (k := 9800 + 200) (s := (pk (wCell inter p0 p1 c)).map toU8) (by rw [List.length_map, hpl]; omega) (by rw [List.length_map, hpl]; omega)
        have hs2 := Show_spec (k := 9800 + 200) (s := s) (by omega) (by omega)
        have g1 : decide ((0 : Int) ≤ (m : Int) ∧ (m : Int) ≤ (((chs (bitsOf ((pk (wCell inter p0 p1 c)).map toU8))).length : Nat) : Int)) = true := by
          rw [chs_length, bitsOf_length, List.length_map, hpl, hwl, decide_eq_true_eq]; omega
        have g2 : decide ((0 : Int) ≤ ((ahead.length : Nat) : Int) ∧ ((ahead.length : Nat) : Int) ≤ ((ahead.length + m : Nat) : Int) ∧ ((ahead.length + m : Nat) : Int) ≤ (((chs (bitsOf s)).length : Nat) : Int)) = true := by
          rw [chs_length, bitsOf_length, decide_eq_true_eq]; omega
        have t1 : List.take m (chs (bitsOf ((pk (wCell inter p0 p1 c)).map toU8))) = chs (wCell inter p0 p1 c) := by
          rw [bits_pk, chs_append, List.take_left' (by rw [chs_length, hwl])]
        have t2 : List.drop ahead.length (List.take (ahead.length + m) (chs (bitsOf s))) = chs (wCell inter p0 p1 c) := by
          rw [chs_cut, hw]
        simp only [Option.bind_some, decide_true, Bool.not_true, cond_false, cond_true, outbits_New, hput, hright, outbits_Writer_Len, outbits_Writer_Text, inbits_Reader_At, hwl, e1, hs1, hs2, g1, g2, Int.toNat_natCast, List.drop_zero, t1, t2, lives_22]
    · rw [if_neg hf]
      have e1 : decide ((1 : Int) = 0) = false := rfl
      simp only [e1, decide_false, Bool.not_false, cond_true, lives_22, Option.bind_some]
end Go.Proofs.YtlemoepklgfjoaaDoor
