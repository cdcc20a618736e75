/-
  Sheets: the bits that are written: by the program and by the page.
-/
import Derived.Test.YtlmajdbchmnhdaaGreatDoorLSheetPut2
set_option maxRecDepth 100000
namespace Go.Proofs.YtlmajdbchmnhdaaGreatDoor
open Go Go.Av

theorem wRows_len {f : Nat} {inter : Bool} : ∀ {l : List DRow} (at_ i top : Nat) (seen : List (List Int)), (∀ r ∈ l, LightR 100 r) → rowsOK f inter i l = true → (wRows f inter at_ i top seen l).length ≤ 20100000 * l.length
  | [], at_, i, top, seen, _, _ => by simp [wRows]
  | r :: l, at_, i, top, seen, h1, h2 => by
    simp only [rowsOK, rowOK, Bool.and_eq_true] at h2
    obtain ⟨⟨_, _, a3⟩, a4⟩ := h2
    have hL := h1 r (by simp)
    have hfew := hL.few
    have hhl := hR_len at_ i r
    have hcl := wCells_len (inter := inter) (cw := cwN f) (top := topR (mlN f) i top r) (l := cellsR r) seen hL.cells a3
    have ih := wRows_len (at_ + (hR at_ i r ++ wCells inter (cwN f) (topR (mlN f) i top r) seen (cellsR r)).length) (i + 1) (topR (mlN f) i top r) (seen ++ (cellsR r).map mvW) (fun r hr => h1 r (by simp [hr])) a4
    simp only [wRows, List.length_append, List.length_cons] at ih ⊢
    omega
theorem form_facts {x : DSheet} (h : formOK x = true) : headOK x = true ∧ 0 ≤ stuffS x ∧ (rowsS x).length ≤ 18 ∧ 1 ≤ cwN (fmS x) ∧ rowsOK (fmS x) (interS x) 0 (rowsS x) = true := by
  simp only [formOK, Bool.and_eq_true, decide_eq_true_eq] at h
  obtain ⟨h1, h2, h3, h4, h5⟩ := h
  have hff := fm_facts (fm_le x.2.2.1)
  have hne : fmS x ≠ 0 := by
    simp only [headOK, Bool.and_eq_true, decide_eq_true_eq] at h1
    exact h1.1.1.1.1.1.1.1.1
  refine ⟨h1, h2, ?_, (hff.2.2.2.2.2.2.2.2 hne).1, h5⟩
  rw [h4]; exact hff.2.2.2.2.2.2.1
theorem check_form {x : DSheet} (h : checkI x = 0) : formOK x = true := by
  unfold checkI at h
  cases hf : formOK x with
  | true => rfl
  | false => rw [hf] at h; cases h
theorem wFront_len {at_ : Nat} {x : DSheet} (hL : LightS 100 x) (hf : formOK x = true) : (wFront at_ x).length ≤ 400000000 := by
  obtain ⟨h1, _, h3, _, h5⟩ := form_facts hf
  have hh := wHeadS_len (at_ := at_) h1
  have hr := wRows_len (f := fmS x) (inter := interS x) (at_ + (wHeadS at_ x).length) 0 0 [] hL.light h5
  simp only [wFront, List.length_append]
  omega
theorem PutSheet_ok {k : Nat} (hk : 30000 < k) {x : DSheet} (hL : LightS 100 x) (hs : stuffS x ≤ 1000) (hok : checkI x = 0) {B : List Bool} (hB : B.length ≤ 1000) : sheetout_Put k x ((B.length : Nat) : Int) (pk B) = some (0, Wr (B ++ wSheet B.length x)) := by
  have hf := check_form hok
  obtain ⟨h1, h2, h3, h4, h5⟩ := form_facts hf
  have hch := Check_p (k := k) (m := 100) (by omega) (by omega) hL
  rw [hok] at hch
  have hh := sheethead_ok (k := k) (by omega) h1 (B := B) (by omega)
  have hhl := wHeadS_len (at_ := B.length) h1
  obtain ⟨t, sn, hr⟩ := putRows (k := k) (by omega) (x := x) h4 h3 hL.light k 0 (B ++ wHeadS B.length x) 0 [] (by omega) (by omega) (by rw [List.drop_zero]; exact h5) (by omega) (by simp) (by rw [List.length_append]; omega)
  rw [List.drop_zero] at hr
  have hr' : sheetout_Putu2 k k ((mlN (fm x.2.2.1) : Nat) : Int) x.2.2.2.2.2.2.1 ((x.2.2.2.2.2.2.1.length : Nat) : Int) 0 (((B ++ wHeadS B.length x).length : Nat) : Int) 0 x ((cwN (fm x.2.2.1) : Nat) : Int) (pk (B ++ wHeadS B.length x)) ([] : List (List Int)) = _ := hr
  have hfl := wFront_len (at_ := B.length) hL hf
  have e1 : B ++ wHeadS B.length x ++ wRows (fmS x) (interS x) (B ++ wHeadS B.length x).length 0 0 [] (rowsS x) = B ++ wFront B.length x := by
    rw [List.length_append, List.append_assoc]; rfl
  rw [e1] at hr'
  have hfill := Fill_spec k (B := B ++ wFront B.length x) (by rw [List.length_append]; omega)
  have hfn : fillN (B ++ wFront B.length x).length < 8 := by unfold fillN; omega
  obtain ⟨st, hst⟩ : ∃ st : Nat, stuffS x = st := ⟨(stuffS x).toNat, by omega⟩
  have hsl := stuff_loop k (by omega) (st := st) (by omega) k 0 (B ++ wFront B.length x ++ noughts (fillN (B ++ wFront B.length x).length)) (by omega) (by omega) (by simp only [List.length_append, List.length_replicate] at hfn ⊢; omega)
  rw [Nat.sub_zero] at hsl
  rw [← hst, show ((0 : Nat) : Int) = 0 from rfl] at hsl
  simp only [sheetout_Put, hch, Option.bind_some, decide_true, Bool.not_true, cond_false, hh, Cells_spec, Rows_spec, hr', hfill, hsl]
  have e2 : (stuffS x).toNat = st := by omega
  have e3 : B ++ wSheet B.length x = B ++ wFront B.length x ++ noughts (fillN (B ++ wFront B.length x).length) ++ noughts (8 * st) := by
    unfold wSheet
    rw [e2, List.length_append]
    simp only [List.append_assoc]
  rw [e3]
theorem PutSheet_bad {k : Nat} (hk : 30000 < k) {x : DSheet} (hL : LightS 100 x) (hok : checkI x ≠ 0) (B : List Bool) : sheetout_Put k x ((B.length : Nat) : Int) (pk B) = some (checkI x, Wr B) := by
  have hch := Check_p (k := k) (m := 100) (by omega) (by omega) hL
  simp only [sheetout_Put, hch, Option.bind_some, decide_eq_false hok, Bool.not_false, cond_true]

/-! ### The page's text -/
theorem ref27_fill (k : Nat) {at_ : Nat} (hat : at_ ≤ 1000) {T : List Bool} (hT : T.length ≤ 500000000) : ∀ (n i : Nat), i ≤ fillN (at_ + T.length) → fillN (at_ + T.length) < n + i → overspillref27_Rowu3 k n (at_ : Int) (chs (T ++ noughts i)) = some (chs (T ++ noughts (fillN (at_ + T.length))))
  | 0, i, h1, h2 => by omega
  | n + 1, i, h1, h2 => by
    have hf : fillN (at_ + T.length) < 8 := by unfold fillN; omega
    have e1 : wr .i64 ((at_ : Int) + (((chs (T ++ noughts i)).length : Nat) : Int)) = ((at_ + T.length + i : Nat) : Int) := by
      rw [chs_length, List.length_append, List.length_replicate, wr, wrap64 (by omega) (by omega)]; simp; omega
    have e2 : Int.tmod ((at_ + T.length + i : Nat) : Int) 8 = (((at_ + T.length + i) % 8 : Nat) : Int) := rfl
    simp only [overspillref27_Rowu3, e1, e2]
    by_cases h : i < fillN (at_ + T.length)
    · have hm : decide ((((at_ + T.length + i) % 8 : Nat) : Int) = 0) = false := by
        unfold fillN at h
        simp <;> omega
      have ih := ref27_fill k hat hT n (i + 1) h (by omega)
      have e3 : chs (T ++ noughts i) ++ ([48] : List UInt8) = chs (T ++ noughts (i + 1)) := by
        unfold noughts
        rw [List.replicate_succ', ← List.append_assoc, chs_append (T ++ List.replicate i false)]; rfl
      have hmx : decide ((chs (T ++ noughts i)).length + 1 ≤ strMax) = true := mx_add (by rw [chs_length, List.length_append, List.length_replicate]; omega)
      simp only [hm, Bool.not_false, cond_true, hmx, e3, ih, Option.bind_some]
    · have : i = fillN (at_ + T.length) := by omega
      subst this
      have hm : decide ((((at_ + T.length + fillN (at_ + T.length)) % 8 : Nat) : Int) = 0) = true := by
        unfold fillN
        simp <;> omega
      simp only [hm, Bool.not_true, cond_false]
theorem ref27_stuff (k : Nat) {s : Nat} (hs : s ≤ 100000) : ∀ (n i : Nat), i ≤ s → s < n + i → overspillref27_Rowu4 k n (i : Int) (List.replicate i 48 ++ List.replicate (s - i) 0) = some ((), List.replicate s 48)
  | 0, i, h1, h2 => by omega
  | n + 1, i, h1, h2 => by
    have hl : (List.replicate i (48 : Int) ++ List.replicate (s - i) 0).length = s := by simp; omega
    simp only [overspillref27_Rowu4, hl]
    by_cases h : i < s
    · have ih := ref27_stuff k hs n (i + 1) h (by omega)
      have ew : wr .i64 ((i : Int) + 1) = ((i + 1 : Nat) : Int) := by rw [wr, wrap64 (by omega) (by omega)]; simp
      have e : List.set (List.replicate i (48 : Int) ++ List.replicate (s - i) 0) i 48 = List.replicate (i + 1) 48 ++ List.replicate (s - (i + 1)) 0 := by
        rw [show s - i = (s - (i + 1)) + 1 by omega, List.replicate_succ (n := s - (i + 1)), List.set_append_right _ _ (by simp), List.length_replicate, Nat.sub_self, List.set_cons_zero, List.replicate_succ' (n := i), List.append_assoc]; rfl
      simp only [show decide ((i : Int) < (s : Int)) = true by simp [h], cond_true, inR_nat, h, decide_true, Int.toNat_natCast, ew, e, ih, Option.bind_some]
    · have : i = s := by omega
      subst this
      simp
theorem ref27_Row_spec {k : Nat} (hk : 30000 < k) {x : DSheet} (hL : LightS 100 x) (hs : stuffS x ≤ 1000) (hok : checkI x = 0) {at_ : Nat} (hat : at_ ≤ 1000) : overspillref27_Row k (at_ : Int) x = some (chs (wSheet at_ x)) := by
  have hf := check_form hok
  obtain ⟨h1, h2, h3, h4, h5⟩ := form_facts hf
  have hhl := wHeadS_len (at_ := at_) h1
  have hh := ref24_Row_spec (k := k) (by omega) h1 (at_ := at_) (by omega)
  obtain ⟨sn, hr⟩ := refRows (k := k) (by omega) (x := x) h4 hat h3 hL.light k 0 (wHeadS at_ x) 0 [] (by omega) (by omega) (by rw [List.drop_zero]; exact h5) (by omega) (by simp) (by omega)
  rw [List.drop_zero] at hr
  have hr' : overspillref27_Rowu2 k k (at_ : Int) (chs (wHeadS at_ x)) 0 0 x ([] : List (List Int)) = some ((chs (wFront at_ x), ()), (x, sn)) := hr
  have hfl := wFront_len (at_ := at_) hL hf
  have hfill := ref27_fill k hat (T := wFront at_ x) (by omega) k 0 (by omega) (by unfold fillN; omega)
  have hfill' : overspillref27_Rowu3 k k (at_ : Int) (chs (wFront at_ x)) = some (chs (wFront at_ x ++ noughts (fillN (at_ + (wFront at_ x).length)))) := by
    have e : noughts 0 = [] := rfl
    rw [e, List.append_nil] at hfill
    exact hfill
  obtain ⟨st, hst⟩ : ∃ st : Nat, stuffS x = st := ⟨(stuffS x).toNat, by omega⟩
  have e8 : wr .i64 (8 * stuffS x) = ((8 * st : Nat) : Int) := by rw [hst, wr, wrap64 (by omega) (by omega)]; simp
  have g1 : decide ((0 : Int) ≤ ((8 * st : Nat) : Int) ∧ ((8 * st : Nat) : Int) ≤ ((8 * st : Nat) : Int) ∧ ((8 * st : Nat) : Int) ≤ ((rowMax : Nat) : Int)) = true := by
    rw [decide_eq_true_eq]; unfold rowMax; omega
  have hst4 := ref27_stuff k (s := 8 * st) (by omega) k 0 (by omega) (by omega)
  have hst4' : overspillref27_Rowu4 k k 0 (List.replicate (8 * st) 0) = some ((), List.replicate (8 * st) 48) := hst4
  have e9 : List.map toU8 (List.replicate (8 * st) 48) = chs (noughts (8 * st)) := by
    rw [List.map_replicate]; unfold chs noughts; rw [List.map_replicate]; rfl
  have hfn : fillN (at_ + (wFront at_ x).length) < 8 := by unfold fillN; omega
  have hmx : decide ((chs (wFront at_ x ++ noughts (fillN (at_ + (wFront at_ x).length)))).length + (chs (noughts (8 * st))).length ≤ strMax) = true := mx_add (by rw [chs_length, chs_length, List.length_append, List.length_replicate, List.length_replicate]; omega)
  have e10 : (stuffS x).toNat = st := by omega
  simp only [overspillref27_Row, hh, Option.bind_some, hr', hfill', e8, g1, cond_true, Int.toNat_natCast, hst4', e9, hmx]
  simp only [wSheet, e10, chs_append, List.append_assoc]
end Go.Proofs.YtlmajdbchmnhdaaGreatDoor
