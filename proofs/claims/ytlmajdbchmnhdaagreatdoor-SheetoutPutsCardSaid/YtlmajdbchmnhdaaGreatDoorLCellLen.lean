/-
  How many bits a cell has.
-/
import Derived.Test.YtlmajdbchmnhdaaGreatDoorLCellout2
set_option maxRecDepth 100000
namespace Go.Proofs.YtlmajdbchmnhdaaGreatDoor
open Go Go.Av

theorem wBlock_len {intra : Bool} {d : Int} {l : List DEvent} {m : Nat} (h : blockOK intra d l = true) (hl : l.length ≤ m) : (wBlock intra d l).length ≤ 8 + 22 * m := by
  simp only [blockOK, Bool.and_eq_true] at h
  have h6 := wEvents_length (levOK_right h.2)
  unfold wBlock
  rw [List.length_append]
  cases intra <;> simp only [cond_true, cond_false, bitsN_length, List.length_nil] <;> omega
theorem wBlocks_len {m : Nat} {c : DCell} (hc : CellF m c) (h : blocksOK c 0 = true) : (wBlocks c 0).length ≤ 6 * (8 + 22 * m) := by
  have hb : ∀ j, j < 6 → (wBlock (intraI c.2.2.1) ((dcW c).getD j 0) ((evW c).getD j [])).length ≤ 8 + 22 * m := fun j hj =>
    wBlock_len (List.all_eq_true.1 h j (List.mem_range'_1.2 (by omega))) (hc.few j)
  have h0 := hb 0 (by omega); have h1 := hb 1 (by omega); have h2 := hb 2 (by omega); have h3 := hb 3 (by omega); have h4 := hb 4 (by omega); have h5 := hb 5 (by omega)
  have e : List.range' 0 (6 - 0) = [0, 1, 2, 3, 4, 5] := rfl
  unfold wBlocks
  rw [e]
  simp only [List.flatMap_cons, List.flatMap_nil, List.length_append, List.length_nil]
  omega
theorem wCell_len {m : Nat} {c : DCell} (hc : CellF m c) {inter : Bool} (hok : cellOK inter c = true) (p0 p1 : Int) : (wCell inter p0 p1 c).length ≤ 1700 + 6 * (8 + 22 * m) := by
  have hok' := hok
  simp only [cellOK, Bool.and_eq_true, decide_eq_true_eq] at hok
  have hsl := wStuff_len inter c.1.toNat
  have h1 := again_len inter
  have h2 := wMcbpc_len inter c.2.2.1.toNat (codedN c % 4)
  unfold wCell wHead
  rw [List.length_append, List.length_append]
  cases hsk : c.2.1 with
  | true => simp only [cond_true, List.length_cons, List.length_nil]; omega
  | false =>
    rw [hsk] at hok
    simp only [cond_false, Bool.and_eq_true] at hok
    have hb := wBlocks_len hc hok.2.2
    have t0 := wMvd_len (wrapI ((mvW c).getD 0 0 - wrapI p0))
    have t1 := wMvd_len (wrapI ((mvW c).getD 1 0 - wrapI p1))
    have hvl : (wVec p0 p1 c).length ≤ 48 := by
      unfold wVec
      cases intraI c.2.2.1 <;> simp only [cond_true, cond_false, List.length_append, List.length_nil] <;> omega
    have sl := wStep_len c.2.2.2.1
    have ssl : (wSteps c).length ≤ 2 := by unfold wSteps; cases steppedI c.2.2.1 <;> simp; exact sl
    have cl := wCbpy_len (intraI c.2.2.1) (codedN c / 4)
    unfold wBody
    simp only [cond_false, List.length_append]
    omega

end Go.Proofs.YtlmajdbchmnhdaaGreatDoor
