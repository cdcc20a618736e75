/-
  Sheets: the bits that are written, by the program and by the page.
-/
import Derived.Test.YtlmajdbchmnhdaaGreatDoorLCheck3
import Derived.Test.YtlmajdbchmnhdaaGreatDoorLCellLen
set_option maxRecDepth 100000
namespace Go.Proofs.YtlmajdbchmnhdaaGreatDoor
open Go Go.Av

/-! ### Cells in a row -/
noncomputable def wCells (inter : Bool) (cw top : Nat) : List (List Int) → List DCell → List Bool
  | _, [] => []
  | seen, c :: l => wCell inter ((med seen cw top).getD 0 0) ((med seen cw top).getD 1 0) c ++ wCells inter cw top (seen ++ [mvW c]) l
theorem med_two (seen : List (List Int)) (cw top : Nat) : med seen cw top = [(med seen cw top).getD 0 0, (med seen cw top).getD 1 0] := by
  unfold med; split <;> rfl
theorem putCells {k : Nat} (hk : 5000 < k) {x : DSheet} {cw top : Nat} (hcw : 1 ≤ cw) (hcw2 : cw ≤ 1000) (ht : top ≤ 1000000) {l : List DCell} (hl : l.length ≤ 10000) (hc : ∀ c ∈ l, CellF 100 c) (hok : l.all (cellOK (interS x)) = true) :
    ∀ (n i : Nat) (B : List Bool) (seen : List (List Int)), i ≤ l.length → l.length < n + i → seen.length ≤ 500000 + i → B.length + 20000 * (l.length - i) ≤ 700000000 →
    sheetout_Putu1 k n l ((l.length : Nat) : Int) (i : Int) ((B.length : Nat) : Int) x (cw : Int) (top : Int) (pk B) seen = some ((), ((), (((), ((((B ++ wCells (interS x) cw top seen (l.drop i)).length : Nat) : Int), ())), (x, ((), ((cw : Int), ((top : Int), (pk (B ++ wCells (interS x) cw top seen (l.drop i)), seen ++ (l.drop i).map mvW))))))))
  | 0, i, B, seen, h1, h2, h3, h4 => by omega
  | n + 1, i, B, seen, h1, h2, h3, h4 => by
    simp only [sheetout_Putu1]
    by_cases h : i < l.length
    · have hci := hc _ (getD_mem h CZ)
      have hoki := List.all_eq_true.1 hok _ (getD_mem h CZ)
      have hwl := wCell_len hci hoki ((med seen cw top).getD 0 0) ((med seen cw top).getD 1 0)
      have hp := PutCell_ok (k := k) (m := 100) (by omega) (by omega) hci hoki ((med seen cw top).getD 0 0) ((med seen cw top).getD 1 0) (B := B) (by omega)
      rw [← med_two] at hp
      have ew : wr .i64 ((i : Int) + 1) = ((i + 1 : Nat) : Int) := by rw [wr, wrap64 (by omega) (by omega)]; simp
      have ih := putCells hk (x := x) hcw hcw2 ht hl hc hok n (i + 1) (B ++ wCell (interS x) ((med seen cw top).getD 0 0) ((med seen cw top).getD 1 0) (l.getD i CZ)) (seen ++ [mvW (l.getD i CZ)]) h (by omega) (by simp; omega) (by rw [List.length_append]; omega)
      have hf : sheetout_Put_f1_2 k (l.getD i CZ) ((B.length : Nat) : Int) x (cw : Int) (top : Int) (pk B) seen = some ((), ((), (((), ((((B ++ wCell (interS x) ((med seen cw top).getD 0 0) ((med seen cw top).getD 1 0) (l.getD i CZ)).length : Nat) : Int), ())), (x, ((), ((cw : Int), ((top : Int), (pk (B ++ wCell (interS x) ((med seen cw top).getD 0 0) ((med seen cw top).getD 1 0) (l.getD i CZ)), seen ++ [mvW (l.getD i CZ)])))))))) := by
        simp only [sheetout_Put_f1_2, med_p (k := k) (by omega) hcw hcw2 (show seen.length ≤ 1000000 by omega) ht, Option.bind_some, hp, rowMax_small (show seen.length + 1 ≤ 1000000000 by omega), cond_true]
      rw [drop_getD h CZ]
      simp only [show decide ((i : Int) < ((l.length : Nat) : Int)) = true by simp [h], cond_true, inR_nat, h, decide_true, Int.toNat_natCast, hf, Option.bind_some, ew, ih, wCells, List.map_cons, List.append_assoc, List.singleton_append]
    · have : i = l.length := by omega
      subst this
      simp [wCells]
theorem refCells {k : Nat} (hk : 5000 < k) {x : DSheet} {top : Nat} (hcw : 1 ≤ cwN (fmS x)) (ht : top ≤ 1000000) {l : List DCell} (hl : l.length ≤ 10000) (hc : ∀ c ∈ l, CellF 100 c) (hok : l.all (cellOK (interS x)) = true) :
    ∀ (n i : Nat) (B : List Bool) (seen : List (List Int)), i ≤ l.length → l.length < n + i → seen.length ≤ 500000 + i → B.length + 20000 * (l.length - i) ≤ 700000000 →
    overspillref27_Rowu1 k n (chs B) (top : Int) l (i : Int) x seen = some ((chs (B ++ wCells (interS x) (cwN (fmS x)) top seen (l.drop i)), ()), (x, seen ++ (l.drop i).map mvW))
  | 0, i, B, seen, h1, h2, h3, h4 => by omega
  | n + 1, i, B, seen, h1, h2, h3, h4 => by
    simp only [overspillref27_Rowu1]
    by_cases h : i < l.length
    · have hci := hc _ (getD_mem h CZ)
      have hoki := List.all_eq_true.1 hok _ (getD_mem h CZ)
      have hcw2 : cwN (fm x.2.2.1) ≤ 1000 := by have := (fm_facts (fm_le x.2.2.1)).2.2.2.2.1; omega
      have hwl := wCell_len hci hoki ((med seen (cwN (fm x.2.2.1)) top).getD 0 0) ((med seen (cwN (fm x.2.2.1)) top).getD 1 0)
      have hp := ref22_Row_spec (k := k) (m := 100) (by omega) (by omega) hci hoki ((med seen (cwN (fm x.2.2.1)) top).getD 0 0) ((med seen (cwN (fm x.2.2.1)) top).getD 1 0)
      rw [← med_two] at hp
      have ew : wr .i64 ((i : Int) + 1) = ((i + 1 : Nat) : Int) := by rw [wr, wrap64 (by omega) (by omega)]; simp
      have ih := refCells hk (x := x) hcw ht hl hc hok n (i + 1) (B ++ wCell (interS x) ((med seen (cwN (fm x.2.2.1)) top).getD 0 0) ((med seen (cwN (fm x.2.2.1)) top).getD 1 0) (l.getD i CZ)) (seen ++ [mvW (l.getD i CZ)]) h (by omega) (by simp; omega) (by rw [List.length_append]; omega)
      rw [chs_append] at ih
      have hmx : decide ((chs B).length + (chs (wCell (interS x) ((med seen (cwN (fm x.2.2.1)) top).getD 0 0) ((med seen (cwN (fm x.2.2.1)) top).getD 1 0) (l.getD i CZ))).length ≤ strMax) = true := mx_add (by rw [chs_length, chs_length]; omega)
      rw [drop_getD h CZ]
      simp only [show decide ((i : Int) < ((l.length : Nat) : Int)) = true by simp [h], cond_true, inR_nat, h, decide_true, Int.toNat_natCast, rAcross_spec, med_r k hcw hcw2 (show seen.length ≤ 1000000 by omega) ht, hp, Option.bind_some, hmx, rowMax_small (show seen.length + 1 ≤ 1000000000 by omega), ew, ih, wCells, List.map_cons, List.append_assoc, List.singleton_append]
    · have : i = l.length := by omega
      subst this
      simp [wCells]

/-! ### Rows -/
noncomputable def hR (at_ i : Nat) (r : DRow) : List Bool := bif r.1 then wHeadR at_ i r.2.1 r.2.2.1 else []
def topR (ml i top : Nat) (r : DRow) : Nat := bif r.1 then i * ml else top
noncomputable def wRows (f : Nat) (inter : Bool) : Nat → Nat → Nat → List (List Int) → List DRow → List Bool
  | _, _, _, _, [] => []
  | at_, i, top, seen, r :: l => hR at_ i r ++ (wCells inter (cwN f) (topR (mlN f) i top r) seen (cellsR r) ++
      wRows f inter (at_ + (hR at_ i r ++ wCells inter (cwN f) (topR (mlN f) i top r) seen (cellsR r)).length) (i + 1) (topR (mlN f) i top r) (seen ++ (cellsR r).map mvW) l)
theorem hR_len (at_ i : Nat) (r : DRow) : (hR at_ i r).length ≤ 36 := by
  unfold hR
  have := wHeadR_len at_ i r.2.1 r.2.2.1
  cases r.1 <;> simp only [cond_true, cond_false, List.length_nil] <;> omega
theorem topR_le {ml i top : Nat} {r : DRow} (h1 : ml ≤ 4) (h2 : i ≤ 100) (h3 : top ≤ 1000000) : topR ml i top r ≤ 1000000 := by
  have : i * ml ≤ 100 * 4 := Nat.mul_le_mul h2 h1
  unfold topR
  cases r.1 <;> simp only [cond_true, cond_false] <;> omega
theorem wCells_len {inter : Bool} {cw top : Nat} : ∀ {l : List DCell} (seen : List (List Int)), (∀ c ∈ l, CellF 100 c) → l.all (cellOK inter) = true → (wCells inter cw top seen l).length ≤ 20000 * l.length
  | [], seen, _, _ => by simp [wCells]
  | c :: l, seen, h1, h2 => by
    simp only [List.all_cons, Bool.and_eq_true] at h2
    have hwl := wCell_len (h1 c (by simp)) h2.1 ((med seen cw top).getD 0 0) ((med seen cw top).getD 1 0)
    have ih := wCells_len (cw := cw) (top := top) (seen ++ [mvW c]) (fun c hc => h1 c (by simp [hc])) h2.2
    simp only [wCells, List.length_append, List.length_cons]
    omega
end Go.Proofs.YtlmajdbchmnhdaaGreatDoor
