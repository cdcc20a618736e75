/-
  Cells, both ways: the whole.
-/
import Derived.Test.YtlemoepklgfjoaaDoorLBoth3
set_option maxRecDepth 100000
namespace Go.Proofs.YtlemoepklgfjoaaDoor
open Go Go.Av

theorem vec_dec {intra : Bool} {p0 p1 : Int} {rest : List Bool} {v : List Int} {m : Nat} (h : rdVec intra p0 p1 rest = .inr (v, m)) :
    v.length = 2 ∧ (bif intra then v = Z2 ∧ m = 0 else wrapI (v.getD 0 0) = v.getD 0 0 ∧ wrapI (v.getD 1 0) = v.getD 1 0 ∧ wMvd (wrapI (v.getD 0 0 - wrapI p0)) ++ wMvd (wrapI (v.getD 1 0 - wrapI p1)) = rest.take m) := by
  unfold rdVec at h
  cases intra with
  | true =>
    simp only [cond_true, Sum.inr.injEq, Prod.mk.injEq] at h
    obtain ⟨rfl, rfl⟩ := h
    exact ⟨rfl, rfl, rfl⟩
  | false =>
    simp only [cond_false] at h ⊢
    cases h0 : rdMvd rest with
    | inl e => rw [h0] at h; cases h
    | inr p =>
      obtain ⟨d0, m0⟩ := p
      have r0 := rdMvd_range h0
      have w0 := mvd_dec h0
      rw [h0] at h
      simp only at h
      cases h1 : rdMvd (rest.drop m0) with
      | inl e => rw [h1] at h; cases h
      | inr q =>
        obtain ⟨d1, m1⟩ := q
        have r1 := rdMvd_range h1
        have w1 := mvd_dec h1
        rw [h1] at h
        simp only [Sum.inr.injEq, Prod.mk.injEq] at h
        obtain ⟨rfl, rfl⟩ := h
        have e0 : (List.set (List.set Z2 0 (wrapI (wrapI p0 + d0))) 1 (wrapI (wrapI p1 + d1))).getD 0 0 = wrapI (wrapI p0 + d0) := rfl
        have e1 : (List.set (List.set Z2 0 (wrapI (wrapI p0 + d0))) 1 (wrapI (wrapI p1 + d1))).getD 1 0 = wrapI (wrapI p1 + d1) := rfl
        refine ⟨rfl, ?_⟩
        rw [e0, e1, wrap_back (wrapI_range p0) r0.2, wrap_back (wrapI_range p1) r1.2, w0, w1, List.take_add]
        exact ⟨wrap_idem _, wrap_idem _, rfl⟩
theorem vec_enc {intra : Bool} {p0 p1 : Int} {v : List Int} (hl : v.length = 2) (hv : bif intra then v = Z2 else wrapI (v.getD 0 0) = v.getD 0 0 ∧ wrapI (v.getD 1 0) = v.getD 1 0) (rest : List Bool) :
    rdVec intra p0 p1 ((bif intra then [] else wMvd (wrapI (v.getD 0 0 - wrapI p0)) ++ wMvd (wrapI (v.getD 1 0 - wrapI p1))) ++ rest) = .inr (v, (bif intra then [] else wMvd (wrapI (v.getD 0 0 - wrapI p0)) ++ wMvd (wrapI (v.getD 1 0 - wrapI p1))).length) := by
  unfold rdVec
  cases intra with
  | true => rw [cond_true] at hv; subst hv; rfl
  | false =>
    simp only [cond_false] at hv ⊢
    have r0 := wrapI_range (v.getD 0 0)
    have r1 := wrapI_range (v.getD 1 0)
    rw [hv.1] at r0
    rw [hv.2] at r1
    have q0 := wrapI_range p0
    have q1 := wrapI_range p1
    have t0 := wrapI_range (v.getD 0 0 - wrapI p0)
    have t1 := wrapI_range (v.getD 1 0 - wrapI p1)
    rw [List.append_assoc, mvd_enc t0.1 t0.2]
    simp only [List.drop_left]
    rw [mvd_enc t1.1 t1.2]
    simp only [wrap_fwd q0 r0, wrap_fwd q1 r1, List.length_append]
    congr 2
    match v, hl with
    | [a, b], _ => rfl
theorem steps_dec {kind : Nat} {rest : List Bool} {st : Int} {m : Nat} (h : rdSteps kind rest = .inr (st, m)) : (bif stepped kind then wStep st else []) = rest.take m ∧ ((stepOK st == stepped kind) && (stepOK st || decide (st = 0))) = true := by
  unfold rdSteps at h
  cases hk : stepped kind with
  | false =>
    rw [hk] at h
    simp only [cond_false, Sum.inr.injEq, Prod.mk.injEq] at h
    obtain ⟨rfl, rfl⟩ := h
    exact ⟨by simp, by decide⟩
  | true =>
    rw [hk] at h
    obtain ⟨h1, h2⟩ := step_dec h
    refine ⟨h1, ?_⟩
    simp only [stepOK, decide_eq_true h2]
    rfl
theorem steps_enc {kind : Nat} {st : Int} (h : ((stepOK st == stepped kind) && (stepOK st || decide (st = 0))) = true) (rest : List Bool) : rdSteps kind ((bif stepped kind then wStep st else []) ++ rest) = .inr (st, (bif stepped kind then wStep st else []).length) := by
  unfold rdSteps
  cases hk : stepped kind with
  | false =>
    rw [hk] at h
    cases ho : stepOK st with
    | true => rw [ho] at h; cases h
    | false =>
      rw [ho] at h
      have : st = 0 := by simpa using h
      subst this; rfl
  | true =>
    rw [hk] at h
    cases ho : stepOK st with
    | false => rw [ho] at h; cases h
    | true => exact step_enc (of_decide_eq_true ho) rest

theorem Y2Z2 : Y2 = Z2 := rfl
theorem Ze_getD (j : Nat) : Ze.getD j [] = [] := by
  rw [List.getD_eq_getElem?_getD]
  cases h : Ze[j]? with
  | none => rfl
  | some l =>
    have h2 : ∀ l ∈ Ze, l = [] := fun l hl => List.eq_of_mem_replicate (n := 6) hl
    exact h2 l (List.mem_of_getElem? h)
/-- A cell that was read may be, and its bits are those that were read. -/
theorem cell_dec {inter : Bool} {p0 p1 : Int} {rest : List Bool} {c : DCell} {m : Nat} (h : rdCell inter p0 p1 rest = .inr (c, m)) : CellF 65 c ∧ cellOK inter c = true ∧ wCell inter p0 p1 c = rest.take m := by
  unfold rdCell at h
  cases hb : rdBegin 65 inter 0 rest with
  | inl e => rw [hb] at h; cases h
  | inr q =>
    obtain ⟨⟨st, o⟩, m1⟩ := q
    have hr := rdBegin_range (by omega) hb
    obtain ⟨_, hd⟩ := begin_dec hb
    rw [Nat.sub_zero] at hd
    rw [hb] at h
    cases o with
    | none =>
      simp only [Sum.inr.injEq, Prod.mk.injEq] at h
      obtain ⟨rfl, rfl⟩ := h
      have hi := hr.2.2.2 rfl
      subst hi
      refine ⟨⟨rfl, rfl, rfl, fun i => ?_⟩, ?_, ?_⟩
      · rw [show evW (cellOf (st : Int) true 0 0 Z2 Z6 Ze) = Ze from rfl, Ze_getD]; simp
      · have e : bareC (cellOf (st : Int) true 0 0 Z2 Z6 Ze) = true := rfl
        have : cellOK true (cellOf (st : Int) true 0 0 Z2 Z6 Ze) = (decide ((0 : Int) ≤ (st : Int)) && decide ((st : Int) ≤ 64) && bareC (cellOf (st : Int) true 0 0 Z2 Z6 Ze)) := rfl
        rw [this, e, decide_eq_true (show (0 : Int) ≤ (st : Int) by omega), decide_eq_true (show (st : Int) ≤ 64 by omega)]; rfl
      · rw [hd]
        simp only [wCell, wHead, wLast, Int.toNat_natCast, cond_true, List.append_nil]
    | some x =>
      obtain ⟨x1, x2, x3, x4⟩ := hr.2.2.1 x rfl
      simp only at h
      cases ht : rdTail (st : Nat) x.1 x.2 p0 p1 (rest.drop m1) with
      | inl e => rw [ht] at h; cases h
      | inr y =>
        obtain ⟨c', m'⟩ := y
        rw [ht] at h
        simp only [Sum.inr.injEq, Prod.mk.injEq] at h
        obtain ⟨rfl, rfl⟩ := h
        unfold rdTail at ht
        cases h1 : rdCbpy (isIntra x.1) (rest.drop m1) with
        | inl e => rw [h1] at ht; cases ht
        | inr a1 =>
          obtain ⟨pat, n1⟩ := a1
          rw [h1] at ht
          simp only at ht
          cases h2 : rdSteps x.1 ((rest.drop m1).drop n1) with
          | inl e => rw [h2] at ht; cases ht
          | inr a2 =>
            obtain ⟨step, n2⟩ := a2
            rw [h2] at ht
            simp only at ht
            cases h3 : rdVec (isIntra x.1) p0 p1 ((rest.drop m1).drop (n1 + n2)) with
            | inl e => rw [h3] at ht; cases ht
            | inr a3 =>
              obtain ⟨mv, n3⟩ := a3
              rw [h3] at ht
              simp only at ht
              cases h4 : rdBlocks (isIntra x.1) (4 * pat + x.2) 6 Z6 Ze ((rest.drop m1).drop (n1 + n2 + n3)) with
              | inl e => rw [h4] at ht; cases ht
              | inr a4 =>
                obtain ⟨⟨DC, EV⟩, n4⟩ := a4
                rw [h4] at ht
                simp only [Sum.inr.injEq, Prod.mk.injEq] at ht
                obtain ⟨rfl, rfl⟩ := ht
                have pr := (rdCbpy_range h1).2
                obtain ⟨g1, g2, _, g4, g5⟩ := blocks_dec (by omega) rfl rfl h4
                have hcn : codedN (cellOf (st : Int) false (x.1 : Int) step mv DC EV) = 4 * pat + x.2 := coded_of g2 (by omega) fun j hj => (g4 j (by omega) hj).2
                obtain ⟨s1, s2⟩ := steps_dec h2
                obtain ⟨v1, v2⟩ := vec_dec h3
                have hfew := (rdBlocks_range h4).2.2.2 (fun l hl => by rw [show l = [] from List.eq_of_mem_replicate (n := 6) hl]; simp)
                have hvok : vecOK (cellOf (st : Int) false (x.1 : Int) step mv DC EV) = true := by
                  simp only [vecOK, intra_nat]
                  cases hi : isIntra x.1 with
                  | true => rw [hi] at v2; simp only [cond_true] at v2 ⊢; exact decide_eq_true v2.1
                  | false => rw [hi] at v2; simp only [cond_false] at v2 ⊢; rw [decide_eq_true v2.1, decide_eq_true v2.2.1]; rfl
                refine ⟨⟨g2, g1, v1, fun i => ?_⟩, ?_, ?_⟩
                · rw [show evW (cellOf (st : Int) false (x.1 : Int) step mv DC EV) = EV from rfl, List.getD_eq_getElem?_getD]
                  cases hi : EV[i]? with
                  | none => simp
                  | some l => exact hfew l (List.mem_of_getElem? hi)
                · have hk : kindOK inter (x.1 : Int) = true := by
                    unfold kindOK
                    rw [intra_nat]
                    cases inter with
                    | false =>
                      have := x4 rfl
                      have : x.1 = 3 ∨ x.1 = 4 := by omega
                      rcases this with h | h <;> rw [h] <;> rfl
                    | true =>
                      have : x.1 = 0 ∨ x.1 = 1 ∨ x.1 = 3 ∨ x.1 = 4 := by omega
                      rcases this with h | h | h | h <;> rw [h] <;> rfl
                  have hbl : blocksOK (cellOf (st : Int) false (x.1 : Int) step mv DC EV) 0 = true := by
                    refine List.all_eq_true.2 fun j hj => ?_
                    rw [List.mem_range'_1] at hj
                    rw [intra_nat]
                    exact (g4 j (by omega) (by omega)).1
                  have s3 : ((stepOK step == steppedI (x.1 : Int)) && (stepOK step || decide (step = 0))) = true := by rw [stepped_nat]; exact s2
                  have : cellOK inter (cellOf (st : Int) false (x.1 : Int) step mv DC EV) = (decide ((0 : Int) ≤ (st : Int)) && decide ((st : Int) ≤ 64) && (kindOK inter (x.1 : Int) && (((stepOK step == steppedI (x.1 : Int)) && (stepOK step || decide (step = 0))) && vecOK (cellOf (st : Int) false (x.1 : Int) step mv DC EV)) && blocksOK (cellOf (st : Int) false (x.1 : Int) step mv DC EV) 0)) := rfl
                  rw [this, hk, s3, hvok, hbl, decide_eq_true (show (0 : Int) ≤ (st : Int) by omega), decide_eq_true (show (st : Int) ≤ 64 by omega)]; rfl
                · have hw : wVec p0 p1 (cellOf (st : Int) false (x.1 : Int) step mv DC EV) = ((rest.drop m1).drop (n1 + n2)).take n3 := by
                    simp only [wVec, intra_nat]
                    cases hi : isIntra x.1 with
                    | true => rw [hi] at v2; rw [v2.2]; simp
                    | false => rw [hi] at v2; simp only [cond_false] at v2 ⊢; exact v2.2.2
                  have hs : wSteps (cellOf (st : Int) false (x.1 : Int) step mv DC EV) = ((rest.drop m1).drop n1).take n2 := by
                    simp only [wSteps, stepped_nat]; exact s1
                  have hbk : wBlocks (cellOf (st : Int) false (x.1 : Int) step mv DC EV) 0 = ((rest.drop m1).drop (n1 + n2 + n3)).take n4 := by
                    simp only [wBlocks, intra_nat]; exact g5
                  have hh : wHead inter (cellOf (st : Int) false (x.1 : Int) step mv DC EV) = rest.take m1 := by
                    rw [hd]
                    simp only [wHead, hcn, Int.toNat_natCast, cond_false, wLast]
                    rw [show (4 * pat + x.2) % 4 = x.2 by omega]
                  unfold wCell wBody
                  rw [hh, hcn, hs, hw, hbk, show (4 * pat + x.2) / 4 = pat by omega, intra_nat, cbpy_dec h1, List.take_add (j := n1 + n2 + n3 + n4), List.take_add (i := n1 + n2 + n3), List.take_add (i := n1 + n2), List.take_add (i := n1)]
                  simp only [cond_false, List.append_assoc]

/-- A cell that may be is read again from its bits. -/
theorem cell_enc {inter : Bool} {p0 p1 : Int} {c : DCell} {mm : Nat} (hf : CellF mm c) (hok : cellOK inter c = true) (rest : List Bool) : rdCell inter p0 p1 (wCell inter p0 p1 c ++ rest) = .inr (c, (wCell inter p0 p1 c).length) := by
  obtain ⟨st, skip, kind, step, mv, dc, ev, u⟩ := c
  obtain ⟨f1, f2, f3, _⟩ := hf
  simp only [cellOK, Bool.and_eq_true, decide_eq_true_eq] at hok
  obtain ⟨⟨a1, a2⟩, a3⟩ := hok
  obtain ⟨n, rfl⟩ : ∃ n : Nat, st = n := ⟨st.toNat, by omega⟩
  cases skip with
  | true =>
    try simp only [cond_true, Bool.and_eq_true] at a3
    obtain ⟨hi, hb⟩ := a3
    subst hi
    simp only [bareC, Bool.and_eq_true, decide_eq_true_eq] at hb
    obtain ⟨⟨⟨⟨b1, b2⟩, b3⟩, b4⟩, b5⟩ := hb
    have b6 : ev = Ze := by
      obtain ⟨a, b, c, d, e, f, rfl⟩ := six f1
      have b5 : ([a, b, c, d, e, f] : List (List DEvent)).all List.isEmpty = true := b5
      simp only [List.all_cons, List.all_nil, Bool.and_true, Bool.and_eq_true, List.isEmpty_iff] at b5
      obtain ⟨rfl, rfl, rfl, rfl, rfl, rfl⟩ := b5
      rfl
    subst b1 b2 b3 b4 b6
    have hbg := begin_enc (inter := true) (o := none) (fun _ => rfl) (fun x hx => by cases hx) rest n 65 0 (by omega) (by omega)
    have hw : wCell true p0 p1 ((n : Int), (true, (0, (0, (Y2, (Y6, (Ze, u))))))) = wStuff true n ++ wLast true none := by
      simp only [wCell, wHead, wLast, Int.toNat_natCast, cond_true, List.append_nil]
    rw [hw]
    unfold rdCell
    rw [hbg, Nat.zero_add]
  | false =>
    try simp only [cond_false, Bool.and_eq_true] at a3
    obtain ⟨⟨a4, ⟨⟨a5, a6⟩, a7⟩⟩, a8⟩ := a3
    have hkr : ∃ kd : Nat, kind = kd ∧ (kd ≤ 4 ∧ kd ≠ 2) ∧ (inter = false → 3 ≤ kd) := by
      simp only [kindOK, intraI, Bool.or_eq_true, Bool.and_eq_true, decide_eq_true_eq] at a4
      refine ⟨kind.toNat, by omega, by omega, fun h => ?_⟩
      rcases a4 with a4 | a4
      · omega
      · rw [h] at a4; cases a4.1
    obtain ⟨kd, rfl, k2, k3⟩ := hkr
    obtain ⟨c, hcc⟩ : ∃ c : DCell, (((n : Nat) : Int), (false, (((kd : Nat) : Int), (step, (mv, (dc, (ev, u))))))) = c := ⟨_, rfl⟩
    rw [hcc] at a7 a8 ⊢
    have hcn : codedN c < 64 := codedN_lt (by rw [← hcc]; exact f1)
    have e1 : codedN c = numB (ev.map fun l => !l.isEmpty) := by rw [← hcc]; rfl
    have hbg := begin_enc (inter := inter) (o := some (kd, codedN c % 4)) (fun h => by cases h) (fun x hx => by cases hx; exact ⟨k2, by omega, k3⟩) (wBody p0 p1 c ++ rest) n 65 0 (by omega) (by omega)
    have hw : wCell inter p0 p1 c = wStuff inter n ++ wLast inter (some (kd, codedN c % 4)) ++ wBody p0 p1 c := by
      unfold wCell wHead wLast
      rw [← hcc]
      simp only [Int.toNat_natCast, cond_false]
    rw [hw, List.append_assoc]
    unfold rdCell
    rw [hbg]
    simp only [List.drop_left, Nat.zero_add]
    have ht : rdTail n kd (codedN c % 4) p0 p1 (wBody p0 p1 c ++ rest) = .inr (c, (wBody p0 p1 c).length) := by
      have hi : intraI c.2.2.1 = isIntra kd := by rw [← hcc]; exact intra_nat kd
      have hs : steppedI c.2.2.1 = stepped kd := by rw [← hcc]; exact stepped_nat kd
      have w1 : wSteps c = (bif stepped kd then wStep step else []) := by unfold wSteps; rw [hs, ← hcc]
      have w2 : wVec p0 p1 c = (bif isIntra kd then [] else wMvd (wrapI (mv.getD 0 0 - wrapI p0)) ++ wMvd (wrapI (mv.getD 1 0 - wrapI p1))) := by unfold wVec; rw [hi, ← hcc]
      have w3 : wBlocks c 0 = (List.range' (6 - 6) 6).flatMap (fun j => wBlock (isIntra kd) (dc.getD j 0) (ev.getD j [])) := by unfold wBlocks; rw [hi, ← hcc]
      have o1 : ((stepOK step == stepped kd) && (stepOK step || decide (step = 0))) = true := by
        rw [← stepped_nat]
        rw [a5, a6]; rfl
      have o2 : bif isIntra kd then mv = Z2 else wrapI (mv.getD 0 0) = mv.getD 0 0 ∧ wrapI (mv.getD 1 0) = mv.getD 1 0 := by
        unfold vecOK at a7
        rw [hi, ← hcc] at a7
        cases hq : isIntra kd with
        | true => rw [hq] at a7; rw [cond_true] at a7; rw [cond_true]; exact of_decide_eq_true a7
        | false =>
          rw [hq] at a7
          simp only [cond_false, Bool.and_eq_true, decide_eq_true_eq] at a7 ⊢
          exact a7
      have o3 : ∀ j, j < 6 → blockOK (isIntra kd) (dc.getD j 0) (ev.getD j []) = true := fun j hj => by
        have := List.all_eq_true.1 a8 j (List.mem_range'_1.2 (by omega))
        rw [hi, ← hcc] at this
        exact this
      unfold wBody
      rw [hi, w1, w2, w3]
      simp only [List.append_assoc]
      unfold rdTail
      rw [cbpy_enc (show codedN c / 4 < 16 by omega)]
      simp only [List.drop_left]
      rw [steps_enc o1]
      simp only
      rw [← List.drop_drop, List.drop_left, List.drop_left, vec_enc f3 o2]
      simp only
      rw [← List.drop_drop, ← List.drop_drop, List.drop_left, List.drop_left, List.drop_left, show 4 * (codedN c / 4) + codedN c % 4 = codedN c by omega]
      rw [blocks_enc f2 f1 o3 (by rw [e1]; exact coded_bits f1) rest 6 Z6 Ze (by omega) rfl rfl (fun j hj => by omega)]
      simp only [List.length_append, ← hcc, Nat.add_assoc]
    rw [ht]
    simp only [List.length_append]
end Go.Proofs.YtlemoepklgfjoaaDoor
