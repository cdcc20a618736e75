/-
  Events and blocks, both ways.
-/
import Derived.Test.YtlemoepklgfjoaaDoorLBoth
import Derived.Test.YtlemoepklgfjoaaDoorLCellout2
set_option maxRecDepth 100000
namespace Go.Proofs.YtlemoepklgfjoaaDoor
open Go Go.Av

theorem event_dec {rest : List Bool} {x : DEvent} {m : Nat} (h : rdTcoef rest = .inr (x, m)) : rightEv x = true ∧ wEvent x = rest.take m := by
  unfold rdTcoef at h
  cases hw : wlk (rowStep rows9) [] rest 0 with
  | inl e => rw [hw] at h; cases h
  | inr p =>
    obtain ⟨i, c⟩ := p
    have hi := wlk_row_lt hw
    have hr := rowBits_eq hw
    rw [hw] at h
    simp only at h
    by_cases h0 : i = 0
    · rw [if_pos h0] at h
      subst h0
      rw [esc9] at hr
      cases he : escOf (rest.drop c) with
      | inl e => rw [he] at h; cases h
      | inr y =>
        rw [he] at h
        simp only [Sum.inr.injEq, Prod.mk.injEq] at h
        obtain ⟨rfl, rfl⟩ := h
        generalize hq : rest.drop c = q at he
        unfold escOf at he
        split at he
        · cases he
        · rename_i h15
          split at he
          · cases he
          · rename_i hne
            simp only [Sum.inr.injEq] at he
            subst he
            have l6 : ((q.drop 1).take 6).length = 6 := by simp; omega
            have l8 : ((q.drop 7).take 8).length = 8 := by simp; omega
            have n6 : numB ((q.drop 1).take 6) < 64 := by have := numB_lt ((q.drop 1).take 6); rw [l6] at this; exact this
            have n8 : numB ((q.drop 7).take 8) < 256 := by have := numB_lt ((q.drop 7).take 8); rw [l8] at this; exact this
            have b6 : bitsN 6 (numB ((q.drop 1).take 6)) = (q.drop 1).take 6 := by have := bitsN_numB ((q.drop 1).take 6); rwa [l6] at this
            have b8 : bitsN 8 (numB ((q.drop 7).take 8)) = (q.drop 7).take 8 := by have := bitsN_numB ((q.drop 7).take 8); rwa [l8] at this
            have hlv := lvl_range n8
            rw [not_or, not_or] at hne
            obtain ⟨hn1, hn2, hn3⟩ := hne
            have hem : (Int.emod (lvl (numB ((q.drop 7).take 8))) 256).toNat = numB ((q.drop 7).take 8) := by
              have e : ∀ z : Int, Int.emod z 256 = z % 256 := fun _ => rfl
              rw [e]
              unfold lvl
              split <;> omega
            have hcut : rest.take (c + 15) = rest.take c ++ q.take 15 := by rw [List.take_add, hq]
            have hcut2 : q.take 15 = q.headD false :: ((q.drop 1).take 6 ++ (q.drop 7).take 8) := by
              have e : q.take 15 = q.take 1 ++ ((q.drop 1).take 6 ++ (q.drop 7).take 8) := by
                rw [show (15 : Nat) = 1 + 14 from rfl, List.take_add, show (14 : Nat) = 6 + 8 from rfl, List.take_add, List.drop_drop]
              rw [e]
              cases q with
              | nil => simp at h15
              | cons b q => rfl
            refine ⟨?_, ?_⟩
            · simp only [rightEv, Bool.and_eq_true, decide_eq_true_eq]
              omega
            · simp only [wEvent, Int.toNat_natCast, Bool.eq_false_iff.2 hn3, cond_false, hem, b6, b8, hr, hcut, hcut2]
    · rw [if_neg h0] at h
      have ht := List.all_eq_true.1 tab9_dec i (List.mem_range.2 (by rw [← list9_len.1]; exact hi))
      have hb0 : Nat.beq i 0 = false := by
        cases hq : Nat.beq i 0 with
        | false => rfl
        | true => exact absurd (Nat.eq_of_beq_eq_true hq) h0
      simp only [hb0, Bool.false_or, Bool.and_eq_true, decide_eq_true_eq] at ht
      obtain ⟨⟨⟨⟨⟨t1, t2⟩, t3⟩, t4⟩, t5⟩, t6⟩ := ht
      cases hd : rest.drop c with
      | nil => rw [hd] at h; cases h
      | cons b q =>
        rw [hd] at h
        simp only [Sum.inr.injEq, Prod.mk.injEq] at h
        obtain ⟨rfl, rfl⟩ := h
        have hcut : rest.take (c + 1) = rest.take c ++ [b] := by rw [List.take_add, hd]; rfl
        have hab : (bif b then -(evAt i).2.2.1 else (evAt i).2.2.1).natAbs = (evAt i).2.2.1.natAbs := by cases b <;> simp
        have hsg : decide ((bif b then -(evAt i).2.2.1 else (evAt i).2.2.1) < 0) = b := by cases b <;> simp <;> omega
        refine ⟨?_, ?_⟩
        · simp only [rightEv, Bool.and_eq_true, decide_eq_true_eq]
          cases b <;> simp only [cond_true, cond_false] <;> omega
        · simp only [wEvent, hab, t1, cond_true, hsg, t6, hcut, ← hr, rowBits]

theorem event_enc {x : DEvent} (h : rightEv x = true) (rest : List Bool) : rdTcoef (wEvent x ++ rest) = .inr (x, (wEvent x).length) := by
  have h' := h
  simp only [rightEv, Bool.and_eq_true, decide_eq_true_eq] at h'
  obtain ⟨⟨⟨⟨h1, h2⟩, h3⟩, h4⟩, h5⟩ := h'
  obtain ⟨l, r, v, u⟩ := x
  simp only at h1 h2 h3 h4 h5
  obtain ⟨r, rfl⟩ : ∃ n : Nat, r = n := ⟨r.toNat, by omega⟩
  simp only [wEvent, Int.toNat_natCast]
  cases ht : inTab l r v.natAbs with
  | true =>
    have hle : v.natAbs ≤ (rowsOf l r).length := of_decide_eq_true ht
    have t1 := List.all_eq_true.1 tab9_enc r (List.mem_range.2 (by omega))
    have t2 := List.all_eq_true.1 t1 l (by cases l <;> simp)
    have t3 := List.all_eq_true.1 t2 (v.natAbs - 1) (List.mem_range.2 (by omega))
    obtain ⟨i, hi, t4⟩ := List.any_eq_true.1 t3
    have hi := List.mem_range.1 hi
    simp only [Bool.and_eq_true, decide_eq_true_eq, Bool.not_eq_true'] at t4
    obtain ⟨⟨t5, t6⟩, t7⟩ := t4
    have h0 : i ≠ 0 := by rintro rfl; cases t5
    have hrow : bitsRow ((rowsOf l r).getD (v.natAbs - 1) []) = rowBits rows9 i := by rw [rowBits, t6]
    have hd : ∀ b, (rowBits rows9 i ++ (b :: rest)).drop (rowBits rows9 i).length = b :: rest := fun b => List.drop_left' rfl
    rw [cond_true, hrow, List.append_assoc]
    unfold rdTcoef
    rw [rowBits_enc pre9 (by rw [list9_len.1]; exact hi)]
    simp only
    rw [if_neg h0, List.singleton_append, hd]
    simp only [t7, List.length_append, List.length_cons, List.length_nil]
    have hv : (bif decide (v < 0) then -(((v.natAbs - 1 + 1 : Nat)) : Int) else ((v.natAbs - 1 + 1 : Nat) : Int)) = v := by
      by_cases hn : v < 0
      · rw [decide_eq_true hn, cond_true]; omega
      · rw [decide_eq_false hn, cond_false]; omega
    rw [hv]
  | false =>
    have e : Int.emod v 256 = v % 256 := rfl
    have hlt : (Int.emod v 256).toNat < 256 := by rw [e]; omega
    have hcut : bitsN 7 3 ++ l :: (bitsN 6 r ++ bitsN 8 (Int.emod v 256).toNat) ++ rest = rowBits rows9 0 ++ (l :: (bitsN 6 r ++ (bitsN 8 (Int.emod v 256).toNat ++ rest))) := by rw [esc9]; simp
    have hl7 : (rowBits rows9 0).length = 7 := by rw [esc9, bitsN_length]
    rw [cond_false, hcut]
    unfold rdTcoef
    rw [rowBits_enc pre9 (by rw [list9_len.1]; decide)]
    simp only
    rw [if_pos trivial, List.drop_left' rfl]
    have d1 : ((l :: (bitsN 6 r ++ (bitsN 8 (Int.emod v 256).toNat ++ rest))).drop 1).take 6 = bitsN 6 r := by
      rw [List.drop_one, List.tail_cons]; exact List.take_left' (bitsN_length _ _)
    have d7 : ((l :: (bitsN 6 r ++ (bitsN 8 (Int.emod v 256).toNat ++ rest))).drop 7).take 8 = bitsN 8 (Int.emod v 256).toNat := by
      rw [List.drop_succ_cons, List.drop_left' (bitsN_length 6 r)]; exact List.take_left' (bitsN_length _ _)
    have hll : lvl (Int.emod v 256).toNat = v := by
      unfold lvl
      rw [e]
      split <;> omega
    have hesc : escOf (l :: (bitsN 6 r ++ (bitsN 8 (Int.emod v 256).toNat ++ rest))) = .inr (l, ((r : Int), (v, ()))) := by
      unfold escOf
      rw [if_neg (by simp only [List.length_cons, List.length_append, bitsN_length]; omega), d1, d7, numB_bitsN (show r < 2 ^ 6 by omega), numB_bitsN (show (Int.emod v 256).toNat < 2 ^ 8 by omega), hll, if_neg]
      · rfl
      · rintro (h | h | h)
        · omega
        · omega
        · rw [show (l :: (bitsN 6 r ++ (bitsN 8 (Int.emod v 256).toNat ++ rest))).headD false = l from rfl, ht] at h; cases h
    rw [hesc]
    simp only [hl7, List.length_append, List.length_cons, bitsN_length]

theorem events_dec : ∀ {f n : Nat} {rest : List Bool} {l : List DEvent} {m : Nat}, rdEvents f n rest = .inr (l, m) → l ≠ [] ∧ levOK n l = true ∧ l.flatMap wEvent = rest.take m
  | 0, n, rest, l, m, h => by cases h
  | f + 1, n, rest, l, m, h => by
    simp only [rdEvents] at h
    cases hr : rdTcoef rest with
    | inl e => rw [hr] at h; cases h
    | inr p =>
      obtain ⟨x, c⟩ := p
      obtain ⟨hx1, hx2⟩ := event_dec hr
      rw [hr] at h
      simp only at h
      split at h
      · cases h
      · rename_i h64
        cases hx : x.1 with
        | true =>
          rw [hx] at h
          simp only [cond_true, Sum.inr.injEq, Prod.mk.injEq] at h
          obtain ⟨rfl, rfl⟩ := h
          refine ⟨by simp, ?_, by simp [hx2]⟩
          simp only [levOK, hx1, hx, List.isEmpty_nil, beq_self_eq_true, Bool.true_and, Bool.and_true, decide_eq_true_eq]
          omega
        | false =>
          rw [hx] at h
          simp only [cond_false] at h
          cases hq : rdEvents f (n + x.2.1.toNat + 1) (rest.drop c) with
          | inl e => rw [hq] at h; cases h
          | inr y =>
            obtain ⟨l', m'⟩ := y
            rw [hq] at h
            simp only [Sum.inr.injEq, Prod.mk.injEq] at h
            obtain ⟨rfl, rfl⟩ := h
            obtain ⟨g1, g2, g3⟩ := events_dec hq
            refine ⟨by simp, ?_, ?_⟩
            · have : l'.isEmpty = false := by cases l' with
                | nil => exact absurd rfl g1
                | cons a b => rfl
              simp only [levOK, hx1, hx, this, beq_self_eq_true, g2, Bool.true_and, Bool.and_true, decide_eq_true_eq]
              omega
            · rw [List.flatMap_cons, hx2, g3, List.take_add]
theorem events_enc (rest : List Bool) : ∀ {l : List DEvent} {f n : Nat}, l ≠ [] → levOK n l = true → 65 ≤ n + f → rdEvents f n (l.flatMap wEvent ++ rest) = .inr (l, (l.flatMap wEvent).length)
  | [], f, n, h, _, _ => absurd rfl h
  | x :: l, 0, n, _, h2, h3 => by
    simp only [levOK, Bool.and_eq_true, decide_eq_true_eq] at h2
    omega
  | x :: l, f + 1, n, _, h2, h3 => by
    simp only [levOK, Bool.and_eq_true, decide_eq_true_eq, beq_iff_eq] at h2
    obtain ⟨⟨⟨g1, g2⟩, g3⟩, g4⟩ := h2
    rw [List.flatMap_cons, List.append_assoc]
    simp only [rdEvents, event_enc g1]
    rw [if_neg (by omega), g2]
    cases l with
    | nil => simp
    | cons y l =>
      have ih := events_enc rest (l := y :: l) (f := f) (n := n + x.2.1.toNat + 1) (by simp) g4 (by omega)
      simp only [List.isEmpty_cons, cond_false, List.drop_left, ih, List.length_append]

/-! ### Blocks -/
theorem block_dec {intra coded : Bool} {rest : List Bool} {d : Int} {l : List DEvent} {m : Nat} (h : rdBlock intra coded rest = .inr ((d, l), m)) : blockOK intra d l = true ∧ wBlock intra d l = rest.take m ∧ (!l.isEmpty) = coded := by
  unfold rdBlock at h
  cases hf : rdFirst intra rest with
  | inl e => rw [hf] at h; cases h
  | inr p =>
    obtain ⟨d', c⟩ := p
    rw [hf] at h
    simp only at h
    cases hq : rdCoded intra coded (rest.drop c) with
    | inl e => rw [hq] at h; cases h
    | inr y =>
      obtain ⟨l', c'⟩ := y
      rw [hq] at h
      simp only [Sum.inr.injEq, Prod.mk.injEq] at h
      obtain ⟨⟨rfl, rfl⟩, rfl⟩ := h
      have hc : levOK (fromW intra) l' = true ∧ l'.flatMap wEvent = (rest.drop c).take c' ∧ (!l'.isEmpty) = coded := by
        unfold rdCoded at hq
        cases coded with
        | false =>
          simp only [cond_false, Sum.inr.injEq, Prod.mk.injEq] at hq
          obtain ⟨rfl, rfl⟩ := hq
          exact ⟨rfl, by simp, rfl⟩
        | true =>
          obtain ⟨g1, g2, g3⟩ := events_dec hq
          refine ⟨g2, g3, ?_⟩
          cases l' with
          | nil => exact absurd rfl g1
          | cons a b => rfl
      have hd : ((intra == !decide (d' = 0)) && decide (0 ≤ d') && decide (d' < 255)) = true ∧ (bif intra then bitsN 8 (if d' = 128 then 255 else d'.toNat) else []) = rest.take c := by
        unfold rdFirst at hf
        cases intra with
        | false =>
          simp only [cond_false, Sum.inr.injEq, Prod.mk.injEq] at hf
          obtain ⟨rfl, rfl⟩ := hf
          exact ⟨rfl, by simp⟩
        | true =>
          simp only [cond_true] at hf
          split at hf
          · cases hf
          · rename_i h8
            split at hf
            · cases hf
            · rename_i hne
              have hlt := num8_lt rest
              have hb := bitsN_numB (rest.take 8)
              rw [show (rest.take 8).length = 8 by rw [List.length_take]; omega] at hb
              simp only [Sum.inr.injEq, Prod.mk.injEq] at hf
              obtain ⟨rfl, rfl⟩ := hf
              rw [not_or] at hne
              simp only [cond_true]
              by_cases h255 : numB (rest.take 8) = 255
              · rw [if_pos h255, if_pos rfl]
                rw [h255] at hb
                exact ⟨rfl, hb⟩
              · rw [if_neg h255, if_neg (by omega), Int.toNat_natCast]
                refine ⟨?_, hb⟩
                rw [decide_eq_false (show ¬ ((numB (rest.take 8) : Nat) : Int) = 0 by omega), decide_eq_true (show (0 : Int) ≤ ((numB (rest.take 8) : Nat) : Int) by omega), decide_eq_true (show ((numB (rest.take 8) : Nat) : Int) < 255 by omega)]
                rfl
      refine ⟨?_, ?_, hc.2.2⟩
      · unfold blockOK; rw [hd.1, hc.1]; rfl
      · unfold wBlock; rw [hd.2, hc.2.1, List.take_add]
theorem block_enc {intra : Bool} {d : Int} {l : List DEvent} (h : blockOK intra d l = true) (rest : List Bool) : rdBlock intra (!l.isEmpty) (wBlock intra d l ++ rest) = .inr ((d, l), (wBlock intra d l).length) := by
  simp only [blockOK, Bool.and_eq_true, decide_eq_true_eq, beq_iff_eq] at h
  obtain ⟨⟨⟨h1, h2⟩, h3⟩, h4⟩ := h
  have hf : rdFirst intra (wBlock intra d l ++ rest) = .inr (d, (bif intra then bitsN 8 (if d = 128 then 255 else d.toNat) else []).length) := by
    unfold rdFirst wBlock
    cases intra with
    | false =>
      have : d = 0 := by simpa using h1
      subst this; rfl
    | true =>
      have hd : d ≠ 0 := by simpa using h1
      simp only [cond_true, bitsN_length]
      rw [List.append_assoc, if_neg (by simp only [List.length_append, bitsN_length]; omega), List.take_left' (bitsN_length _ _)]
      by_cases h128 : d = 128
      · rw [if_pos h128, numB_bitsN (by decide), if_neg (by decide), if_pos rfl, h128]
      · rw [if_neg h128, numB_bitsN (show d.toNat < 2 ^ 8 by omega), if_neg (by omega), if_neg (by omega)]
        congr 2; omega
  unfold rdBlock
  rw [hf]
  simp only
  have hcut : (wBlock intra d l ++ rest).drop (bif intra then bitsN 8 (if d = 128 then 255 else d.toNat) else []).length = l.flatMap wEvent ++ rest := by
    unfold wBlock; rw [List.append_assoc]; exact List.drop_left' rfl
  rw [hcut]
  have hc : rdCoded intra (!l.isEmpty) (l.flatMap wEvent ++ rest) = .inr (l, (l.flatMap wEvent).length) := by
    unfold rdCoded
    cases l with
    | nil => rfl
    | cons a b =>
      have h4' : levOK (fromN intra) (a :: b) = true := h4
      exact events_enc rest (by simp) h4' (by cases intra <;> decide)
  rw [hc]
  simp only [wBlock, List.length_append]
end Go.Proofs.YtlemoepklgfjoaaDoor
