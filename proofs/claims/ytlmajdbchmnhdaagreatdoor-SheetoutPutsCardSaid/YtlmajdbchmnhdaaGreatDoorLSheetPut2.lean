/-
  Sheets: the bits that are written: rows and the whole.
-/
import Derived.Test.YtlmajdbchmnhdaaGreatDoorLSheetPut
set_option maxRecDepth 100000
namespace Go.Proofs.YtlmajdbchmnhdaaGreatDoor
open Go Go.Av

theorem fits_i {i ml : Nat} (h1 : ml ≤ 4) (h2 : i ≤ 100) : wr .i64 ((i : Int) * (ml : Int)) = ((i * ml : Nat) : Int) := by
  have : i * ml ≤ 100 * 4 := Nat.mul_le_mul h2 h1
  rw [← Int.natCast_mul]
  generalize i * ml = p at *
  rw [wr, wrap64 (by omega) (by omega)]
theorem putRows {k : Nat} (hk : 5000 < k) {x : DSheet} (hcw : 1 ≤ cwN (fmS x)) {l : List DRow} (hl : l.length ≤ 18) (hL : ∀ r ∈ l, LightR 100 r) :
    ∀ (n i : Nat) (B : List Bool) (top : Nat) (seen : List (List Int)), i ≤ l.length → l.length < n + i → rowsOK (fmS x) (interS x) i (l.drop i) = true → top ≤ 1000000 → seen.length ≤ 1000 * i → B.length + 20100000 * (l.length - i) ≤ 600000000 →
    ∃ (t : Int) (sn : List (List Int)), sheetout_Putu2 k n ((mlN (fmS x) : Nat) : Int) l ((l.length : Nat) : Int) (i : Int) ((B.length : Nat) : Int) (top : Int) x ((cwN (fmS x) : Nat) : Int) (pk B) seen =
      some ((), ((), (((), ((((B ++ wRows (fmS x) (interS x) B.length i top seen (l.drop i)).length : Nat) : Int), ())), (t, (x, ((), (((cwN (fmS x) : Nat) : Int), (pk (B ++ wRows (fmS x) (interS x) B.length i top seen (l.drop i)), sn))))))))
  | 0, i, B, top, seen, h1, h2, h3, h4, h5, h6 => by omega
  | n + 1, i, B, top, seen, h1, h2, h3, h4, h5, h6 => by
    simp only [sheetout_Putu2]
    by_cases h : i < l.length
    · have hLi := hL _ (getD_mem h RZ)
      rw [drop_getD h RZ] at h3 ⊢
      generalize hg : l.getD i RZ = r at hLi h3
      simp only [rowsOK, rowOK, Bool.and_eq_true] at h3
      obtain ⟨⟨a1, a2, a3⟩, a4⟩ := h3
      have hff := fm_facts (fm_le x.2.2.1)
      have hml : mlN (fmS x) ≤ 4 := hff.2.2.2.2.2.2.2.1
      have hcw2 : cwN (fmS x) ≤ 1000 := by have := hff.2.2.2.2.1; show cwN (fm x.2.2.1) ≤ 1000; omega
      have htop := topR_le (ml := mlN (fmS x)) (i := i) (top := top) (r := r) hml (by omega) h4
      have hfew := hLi.few
      have hu0 : sheetout_Putu0 k ((mlN (fmS x) : Nat) : Int) (i : Int) r.1 ((B.length : Nat) : Int) (top : Int) r (pk B) = some ((), ((), (((), ((((B ++ hR B.length i r).length : Nat) : Int), ())), (((topR (mlN (fmS x)) i top r : Nat) : Int), (r, pk (B ++ hR B.length i r)))))) := by
        unfold hR topR
        simp only [rowHead] at a2
        cases hh : r.1 with
        | false => simp only [sheetout_Putu0, cond_false, List.append_nil]
        | true =>
          rw [hh] at a2
          simp only [cond_true, Bool.and_eq_true, decide_eq_true_eq] at a2
          have hr := rowhead_spec (k := k) (by omega) (i := i) (by omega) (by omega) (a := r.2.1) (b := r.2.2.1) (by omega) (by omega) (B := B) (by omega)
          simp only [sheetout_Putu0, cond_true, hr, Option.bind_some, fits_i hml (show i ≤ 100 by omega)]
      have hhl := hR_len B.length i r
      have hcl := wCells_len (inter := interS x) (cw := cwN (fmS x)) (top := topR (mlN (fmS x)) i top r) (l := cellsR r) seen hLi.cells a3
      have hc := putCells hk (x := x) hcw hcw2 htop (l := cellsR r) (by omega) hLi.cells a3 k 0 (B ++ hR B.length i r) seen (by omega) (by omega) (by omega) (by rw [List.length_append]; omega)
      rw [List.drop_zero] at hc
      have hc' : sheetout_Putu1 k k (cellsR r) (((cellsR r).length : Nat) : Int) 0 (((B ++ hR B.length i r).length : Nat) : Int) x ((cwN (fmS x) : Nat) : Int) ((topR (mlN (fmS x)) i top r : Nat) : Int) (pk (B ++ hR B.length i r)) seen = _ := hc
      have ew : wr .i64 ((i : Int) + 1) = ((i + 1 : Nat) : Int) := by rw [wr, wrap64 (by omega) (by omega)]; simp
      obtain ⟨t, sn, ih⟩ := putRows hk hcw hl hL n (i + 1) (B ++ hR B.length i r ++ wCells (interS x) (cwN (fmS x)) (topR (mlN (fmS x)) i top r) seen (cellsR r)) (topR (mlN (fmS x)) i top r) (seen ++ (cellsR r).map mvW) h (by omega) a4 htop (by rw [List.length_append, List.length_map]; omega) (by simp only [List.length_append]; omega)
      refine ⟨t, sn, ?_⟩
      simp only [show decide ((i : Int) < ((l.length : Nat) : Int)) = true by simp [h], cond_true, inR_nat, h, decide_true, Int.toNat_natCast, hg, hu0, Option.bind_some, hc', ew, ih, wRows]
      have e : (B ++ hR B.length i r ++ wCells (interS x) (cwN (fmS x)) (topR (mlN (fmS x)) i top r) seen (cellsR r)).length = B.length + (hR B.length i r ++ wCells (interS x) (cwN (fmS x)) (topR (mlN (fmS x)) i top r) seen (cellsR r)).length := by simp only [List.length_append]; omega
      rw [e]
      simp only [List.append_assoc]
    · have : i = l.length := by omega
      subst this
      exact ⟨(top : Int), seen, by simp [wRows]⟩
theorem refRows {k : Nat} (hk : 5000 < k) {x : DSheet} (hcw : 1 ≤ cwN (fmS x)) {at0 : Nat} (hat : at0 ≤ 1000) (hl : (rowsS x).length ≤ 18) (hL : ∀ r ∈ rowsS x, LightR 100 r) :
    ∀ (n i : Nat) (B : List Bool) (top : Nat) (seen : List (List Int)), i ≤ (rowsS x).length → (rowsS x).length < n + i → rowsOK (fmS x) (interS x) i ((rowsS x).drop i) = true → top ≤ 1000000 → seen.length ≤ 1000 * i → B.length + 20100000 * ((rowsS x).length - i) ≤ 600000000 →
    ∃ (sn : List (List Int)), overspillref27_Rowu2 k n (at0 : Int) (chs B) (top : Int) (i : Int) x seen = some ((chs (B ++ wRows (fmS x) (interS x) (at0 + B.length) i top seen ((rowsS x).drop i)), ()), (x, sn))
  | 0, i, B, top, seen, h1, h2, h3, h4, h5, h6 => by omega
  | n + 1, i, B, top, seen, h1, h2, h3, h4, h5, h6 => by
    simp only [overspillref27_Rowu2]
    by_cases h : i < (rowsS x).length
    · have hLi := hL _ (getD_mem h RZ)
      rw [drop_getD h RZ] at h3 ⊢
      generalize hg : (rowsS x).getD i RZ = r at hLi h3
      simp only [rowsOK, rowOK, Bool.and_eq_true] at h3
      obtain ⟨⟨a1, a2, a3⟩, a4⟩ := h3
      have hff := fm_facts (fm_le x.2.2.1)
      have hml : mlN (fmS x) ≤ 4 := hff.2.2.2.2.2.2.2.1
      have htop := topR_le (ml := mlN (fmS x)) (i := i) (top := top) (r := r) hml (by omega) h4
      have hfew := hLi.few
      have hhl := hR_len (at0 + B.length) i r
      have hcl := wCells_len (inter := interS x) (cw := cwN (fmS x)) (top := topR (mlN (fmS x)) i top r) (l := cellsR r) seen hLi.cells a3
      have g3 : ∀ a b c d : Int, ([a, b, c, d] : List Int).getD 3 0 = d := fun _ _ _ _ => rfl
      have hu0 : overspillref27_Rowu0 k (at0 : Int) (chs B) (top : Int) (i : Int) r.1 x = some ((chs (B ++ hR (at0 + B.length) i r), ((topR (mlN (fmS x)) i top r : Nat) : Int)), x) := by
        unfold hR topR
        simp only [rowHead] at a2
        cases hh : r.1 with
        | false => simp only [overspillref27_Rowu0, cond_false, List.append_nil]
        | true =>
          rw [hh] at a2
          simp only [cond_true, Bool.and_eq_true, decide_eq_true_eq] at a2
          have e1 : wr .i64 ((at0 : Int) + (((chs B).length : Nat) : Int)) = ((at0 + B.length : Nat) : Int) := by rw [chs_length, wr, wrap64 (by omega) (by omega)]; simp
          have hr := ref23_Row_spec (k := k) (by omega) (i := i) (at_ := at0 + B.length) (by omega) (a := r.2.1) (b := r.2.2.1) (by omega) (by omega) (by omega)
          have hrl := wHeadR_len (at0 + B.length) i r.2.1 r.2.2.1
          have hmx : decide ((chs B).length + (chs (wHeadR (at0 + B.length) i r.2.1 r.2.2.1)).length ≤ strMax) = true := mx_add (by rw [chs_length, chs_length]; omega)
          simp only [overspillref27_Rowu0, cond_true, inR_nat, h, decide_true, Int.toNat_natCast, hg, e1, hr, Option.bind_some, hmx, rSize_spec, g3, fits_i hml (show i ≤ 100 by omega), chs_append]
      have hc := refCells hk (x := x) hcw htop (l := cellsR r) (by omega) hLi.cells a3 k 0 (B ++ hR (at0 + B.length) i r) seen (by omega) (by omega) (by omega) (by rw [List.length_append]; omega)
      rw [List.drop_zero] at hc
      have hc' : overspillref27_Rowu1 k k (chs (B ++ hR (at0 + B.length) i r)) ((topR (mlN (fmS x)) i top r : Nat) : Int) (cellsR r) 0 x seen = _ := hc
      have ew : wr .i64 ((i : Int) + 1) = ((i + 1 : Nat) : Int) := by rw [wr, wrap64 (by omega) (by omega)]; simp
      obtain ⟨sn, ih⟩ := refRows hk hcw hat hl hL n (i + 1) (B ++ hR (at0 + B.length) i r ++ wCells (interS x) (cwN (fmS x)) (topR (mlN (fmS x)) i top r) seen (cellsR r)) (topR (mlN (fmS x)) i top r) (seen ++ (cellsR r).map mvW) h (by omega) a4 htop (by rw [List.length_append, List.length_map]; omega) (by simp only [List.length_append]; omega)
      refine ⟨sn, ?_⟩
      simp only [show decide ((i : Int) < (((rowsS x).length : Nat) : Int)) = true by simp [h], cond_true, inR_nat, h, decide_true, Int.toNat_natCast, hg, hu0, Option.bind_some, hc', ew, ih, wRows]
      have e : at0 + (B ++ hR (at0 + B.length) i r ++ wCells (interS x) (cwN (fmS x)) (topR (mlN (fmS x)) i top r) seen (cellsR r)).length = at0 + B.length + (hR (at0 + B.length) i r ++ wCells (interS x) (cwN (fmS x)) (topR (mlN (fmS x)) i top r) seen (cellsR r)).length := by simp only [List.length_append]; omega
      rw [e]
      simp only [List.append_assoc]
    · have : i = (rowsS x).length := by omega
      subst this
      exact ⟨seen, by simp [wRows]⟩

/-! ### The whole -/
noncomputable def wFront (at_ : Nat) (x : DSheet) : List Bool := wHeadS at_ x ++ wRows (fmS x) (interS x) (at_ + (wHeadS at_ x).length) 0 0 [] (rowsS x)
noncomputable def wSheet (at_ : Nat) (x : DSheet) : List Bool := wFront at_ x ++ (noughts (fillN (at_ + (wFront at_ x).length)) ++ noughts (8 * (stuffS x).toNat))
theorem stuff_loop (k : Nat) (hk : 32 < k) {st : Nat} (hst : st ≤ 300000) : ∀ (n i : Nat) (B : List Bool), i ≤ st → st < n + i → B.length + 8 * (st - i) ≤ 1000000000 →
    sheetout_Putu3 k n (st : Int) (i : Int) ((B.length : Nat) : Int) (pk B) = some ((), ((), (((), ((((B ++ noughts (8 * (st - i))).length : Nat) : Int), ())), pk (B ++ noughts (8 * (st - i))))))
  | 0, i, B, h1, h2, h3 => by omega
  | n + 1, i, B, h1, h2, h3 => by
    simp only [sheetout_Putu3]
    by_cases h : i < st
    · have hp := PutI (k := k) hk (B := B) (v' := 0) (n' := 8) (v := 0) (n := 8) rfl rfl (by decide) (by decide) (by omega)
      have e8 : bitsN 8 0 = noughts 8 := by decide
      rw [e8] at hp
      have ew : wr .i64 ((i : Int) + 1) = ((i + 1 : Nat) : Int) := by rw [wr, wrap64 (by omega) (by omega)]; simp
      have ih := stuff_loop k hk hst n (i + 1) (B ++ noughts 8) h (by omega) (by rw [List.length_append, List.length_replicate]; omega)
      have e9 : noughts (8 * (st - i)) = noughts 8 ++ noughts (8 * (st - (i + 1))) := by
        unfold noughts
        rw [List.replicate_append_replicate]; congr 1; omega
      simp only [show decide ((i : Int) < (st : Int)) = true by simp [h], cond_true, hp, Option.bind_some, ew, ih]
      rw [e9, List.append_assoc]
    · have : i = st := by omega
      subst this
      simp
end Go.Proofs.YtlmajdbchmnhdaaGreatDoor
