/-
  The program's writer of blocks and cells: which cells may be, and the bits that are written.
-/
import Derived.Test.YtlmajdbchmnhdaaGreatDoorLRowsOut
set_option maxRecDepth 100000
namespace Go.Proofs.YtlmajdbchmnhdaaGreatDoor
open Go Go.Av

abbrev Y2 : List Int := Ty.zero (.arr 2 (.int .i64))
abbrev Y6 : List Int := Ty.zero (.arr 6 (.int .i64))
abbrev Ye : List (List DEvent) := Ty.zero (.arr 6 (.sl YEvent))
abbrev Y64 : List Int := Ty.zero (.arr 64 (.int .i64))

/-! ### Blocks -/
/-- Events that may be those of a block, the next level at this place. -/
def levOK : Nat → List DEvent → Bool
  | _, [] => true
  | n, e :: l => rightEv e && (e.1 == l.isEmpty) && decide (n + e.2.1.toNat < 64) && levOK (n + e.2.1.toNat + 1) l
def fromW (intra : Bool) : Nat := bif intra then 1 else 0
def blockOK (intra : Bool) (dc : Int) (l : List DEvent) : Bool := (intra == !decide (dc = 0)) && decide (0 ≤ dc) && decide (dc < 255) && levOK (fromW intra) l
def wEvents (w : DEvent → List Bool) (l : List DEvent) : List Bool := l.flatMap w
noncomputable def wBlock (intra : Bool) (dc : Int) (l : List DEvent) : List Bool := (bif intra then bitsN 8 (if dc = 128 then 255 else dc.toNat) else []) ++ l.flatMap wEvent

theorem Levels_loop (k : Nat) {l : List DEvent} (hl : l.length ≤ 100000) (y : List Int) : ∀ (n i a : Nat) (lv : List Int), i ≤ l.length → l.length < n + i → a ≤ 64 →
    (∃ z, runs_Levelsu2 k n l (a : Int) l ((l.length : Nat) : Int) (i : Int) y lv = some (.inr ((), (y, z))) ∧ levOK a (l.drop i) = true) ∨ (∃ y2 z, runs_Levelsu2 k n l (a : Int) l ((l.length : Nat) : Int) (i : Int) y lv = some (.inl (7, (y2, z))) ∧ levOK a (l.drop i) = false)
  | 0, i, a, lv, h1, h2, h3 => by omega
  | n + 1, i, a, lv, h1, h2, h3 => by
    simp only [runs_Levelsu2]
    by_cases h : i < l.length
    · have hd : l.drop i = l[i] :: l.drop (i + 1) := List.drop_eq_getElem_cons h
      have hg : l.getD i (false, (0, (0, ()))) = l[i] := by simp [h]
      generalize hx : l[i] = x at hd hg
      have e1 : wr .i64 (((l.length : Nat) : Int) - 1) = ((l.length - 1 : Nat) : Int) := by rw [wr, wrap64 (by omega) (by omega)]; omega
      have e2 : decide ((i : Int) = ((l.length - 1 : Nat) : Int)) = (l.drop (i + 1)).isEmpty := by
        have : (l.drop (i + 1)).isEmpty = decide (l.length ≤ i + 1) := by
          rw [Bool.eq_iff_iff, List.isEmpty_iff, List.drop_eq_nil_iff, decide_eq_true_eq]
        rw [this, decide_eq_decide]; omega
      rw [hd]
      simp only [show decide ((i : Int) < ((l.length : Nat) : Int)) = true by simp [h], cond_true, inR_nat, h, decide_true, Int.toNat_natCast, hg, runs_Levelsu1, Right_any, Option.bind_some, e1, e2, levOK]
      cases hr : rightEv x with
      | false => right; exact ⟨_, _, rfl, by simp⟩
      | true =>
        have hr' := hr
        simp only [rightEv, Bool.and_eq_true, decide_eq_true_eq] at hr'
        obtain ⟨⟨⟨⟨b1, b2⟩, _⟩, _⟩, _⟩ := hr'
        obtain ⟨q, hq⟩ : ∃ q : Nat, x.2.1 = q := ⟨x.2.1.toNat, by omega⟩
        have e3 : wr .i64 ((a : Int) + x.2.1) = ((a + q : Nat) : Int) := by rw [hq, wr, wrap64 (by omega) (by omega)]; simp
        have e4 : x.2.1.toNat = q := by rw [hq]; simp
        simp only [Bool.not_true, cond_false, e3, e4, Bool.true_and, Bool.true_xor]
        cases hlast : (x.1 == (l.drop (i + 1)).isEmpty) with
        | false => right; exact ⟨_, _, rfl, by simp⟩
        | true =>
          simp only [Bool.not_true, cond_false, Option.bind_some, Bool.true_and]
          by_cases h64 : a + q < 64
          · simp only [show decide ((64 : Int) ≤ ((a + q : Nat) : Int)) = false by simp <;> omega, cond_false, show decide (a + q < 64) = true by simp [h64], cond_true, inR_nat, e3, h64, decide_true, Int.toNat_natCast, Option.bind_some]
            rw [show wr .i64 (((a + q : Nat) : Int) + 1) = ((a + q + 1 : Nat) : Int) by rw [wr, wrap64 (by omega) (by omega)]; simp, show wr .i64 ((i : Int) + 1) = ((i + 1 : Nat) : Int) by rw [wr, wrap64 (by omega) (by omega)]; simp]
            rcases Levels_loop k hl y n (i + 1) (a + q + 1) (lv.set (a + q) x.2.2.1) h (by omega) (by omega) with ⟨z, h5, h6⟩ | ⟨y2, z, h5, h6⟩
            · left; rw [h5]; exact ⟨z, rfl, by simpa using h6⟩
            · right; rw [h5]; exact ⟨y2, z, rfl, by simpa using h6⟩
          · simp only [show decide ((64 : Int) ≤ ((a + q : Nat) : Int)) = true by simp <;> omega, cond_true, show decide (a + q < 64) = false by simp <;> omega]
            right; exact ⟨_, _, rfl, by simp⟩
    · have : i = l.length := by omega
      subst this
      left
      exact ⟨lv, by simp, by simp [levOK]⟩

theorem may_spec {k : Nat} (intra : Bool) (dc : Int) {l : List DEvent} (hl : l.length ≤ 100000) (hk : l.length < k) : blocks_may k intra dc l = some (blockOK intra dc l) := by
  have hu : blocks_mayu0 k intra dc = some (!((intra == !decide (dc = 0)) && decide (0 ≤ dc) && decide (dc < 255))) := by
    simp only [blocks_mayu0, Bool.true_xor]
    cases (intra == !decide (dc = 0)) with
    | false => rfl
    | true =>
      simp only [Bool.not_true, cond_false, Bool.true_and]
      by_cases h1 : dc < 0
      · rw [decide_eq_true h1, decide_eq_false (show ¬ 0 ≤ dc by omega)]; rfl
      · rw [decide_eq_false h1, decide_eq_true (show 0 ≤ dc by omega)]
        by_cases h2 : dc < 255
        · rw [decide_eq_true h2, decide_eq_false (show ¬ 255 ≤ dc by omega)]; rfl
        · rw [decide_eq_false h2, decide_eq_true (show 255 ≤ dc by omega)]; rfl
  have hfrom : blocks_from k intra = some ((fromW intra : Nat) : Int) := by cases intra <;> rfl
  have hz : runs_Levelsu0 k ((fromW intra : Nat) : Int) = some false := by cases intra <;> rfl
  simp only [blocks_may, hu, Option.bind_some, blockOK]
  cases ((intra == !decide (dc = 0)) && decide (0 ≤ dc) && decide (dc < 255)) with
  | false => rfl
  | true =>
    simp only [Bool.not_true, cond_false, hfrom, Option.bind_some, runs_Levels, hz, Bool.true_and]
    rcases Levels_loop k hl Y64 k 0 (fromW intra) Y64 (by omega) (by omega) (by cases intra <;> decide) with ⟨z, h5, h6⟩ | ⟨y2, z, h5, h6⟩
    · rw [List.drop_zero] at h6
      have h5' : runs_Levelsu2 k k l ((fromW intra : Nat) : Int) l ((l.length : Nat) : Int) 0 Y64 Y64 = _ := h5
      rw [h5', h6]; rfl
    · rw [List.drop_zero] at h6
      have h5' : runs_Levelsu2 k k l ((fromW intra : Nat) : Int) l ((l.length : Nat) : Int) 0 Y64 Y64 = _ := h5
      rw [h5', h6]; rfl

theorem levOK_right : ∀ {n : Nat} {l : List DEvent}, levOK n l = true → ∀ e ∈ l, rightEv e = true
  | _, [], _, e, h => by cases h
  | n, x :: l, h, e, he => by
    simp only [levOK, Bool.and_eq_true] at h
    rcases List.mem_cons.1 he with rfl | h1
    · exact h.1.1.1
    · exact levOK_right h.2 e h1
theorem wEvents_length {l : List DEvent} (h : ∀ e ∈ l, rightEv e = true) : (l.flatMap wEvent).length ≤ 22 * l.length := by
  induction l with
  | nil => simp
  | cons x l ih =>
    have h1 := wEvent_length (h x (by simp))
    have h2 := ih fun e he => h e (by simp [he])
    simp only [List.flatMap_cons, List.length_append, List.length_cons]; omega

theorem PutEv_loop (k : Nat) {l : List DEvent} (hl : l.length ≤ 100000) (hr : ∀ e ∈ l, rightEv e = true) : ∀ (n i : Nat) (B : List Bool), i ≤ l.length → l.length < n + i → B.length ≤ 1000000000 + 22 * i →
    blocks_Putu2 (k + 200) n l ((l.length : Nat) : Int) (i : Int) ((B.length : Nat) : Int) (pk B) = some ((), Wr (B ++ (l.drop i).flatMap wEvent))
  | 0, i, B, h1, h2, h3 => by omega
  | n + 1, i, B, h1, h2, h3 => by
    simp only [blocks_Putu2]
    by_cases h : i < l.length
    · have hd : l.drop i = l[i] :: l.drop (i + 1) := List.drop_eq_getElem_cons h
      have hg : l.getD i (false, (0, (0, ()))) = l[i] := by simp [h]
      have hri := hr l[i] (List.getElem_mem _)
      have hwl := wEvent_length hri
      rw [hd, List.flatMap_cons]
      have ih := PutEv_loop k hl hr n (i + 1) (B ++ wEvent l[i]) h (by omega) (by simp only [List.length_append]; omega)
      simp only [show decide ((i : Int) < ((l.length : Nat) : Int)) = true by simp [h], cond_true, inR_nat, h, decide_true, Int.toNat_natCast, hg, tcoef_Row_spec k hri, Option.bind_some, Add_spec (k := k + 200) (B := B) (C := wEvent l[i]) (by omega) (by omega)]
      rw [show wr .i64 ((i : Int) + 1) = ((i + 1 : Nat) : Int) by rw [wr, wrap64 (by omega) (by omega)]; simp]
      have ih' : blocks_Putu2 (k + 200) n l ((l.length : Nat) : Int) ((i + 1 : Nat) : Int) (Wr (B ++ wEvent l[i])).1.2.1 (Wr (B ++ wEvent l[i])).2 = _ := ih
      rw [ih', List.append_assoc]; rfl
    · have : i = l.length := by omega
      subst this
      simp
theorem PutBlock_ok {k : Nat} {intra : Bool} {dc : Int} {l : List DEvent} {B : List Bool} (hl : l.length ≤ 100000) (hk : l.length + 300 < k) (hB : B.length ≤ 900000000) (hok : blockOK intra dc l = true) :
    blocks_Put k intra dc l ((B.length : Nat) : Int) (pk B) = some (0, Wr (B ++ wBlock intra dc l)) := by
  obtain ⟨k', rfl⟩ : ∃ k', k = k' + 200 := ⟨k - 200, by omega⟩
  have hm := may_spec (k := k' + 200) intra dc hl (by omega)
  rw [hok] at hm
  simp only [blockOK, Bool.and_eq_true, decide_eq_true_eq] at hok
  obtain ⟨⟨⟨h1, h2⟩, h3⟩, h4⟩ := hok
  simp only [blocks_Put, hm, Option.bind_some, Bool.not_true, cond_false]
  have hu0 : blocks_Putu0 (k' + 200) dc (decide (dc = 128)) = some (((if dc = 128 then 255 else dc.toNat : Nat)) : Int) := by
    simp only [blocks_Putu0]
    by_cases h : dc = 128
    · rw [if_pos h, decide_eq_true h]; rfl
    · rw [if_neg h, decide_eq_false h, cond_false]; congr 1; omega
  have hlt : (if dc = 128 then 255 else dc.toNat : Nat) < 2 ^ 8 := by split <;> omega
  have hu1 : blocks_Putu1 (k' + 200) ((if dc = 128 then 255 else dc.toNat : Nat) : Int) intra ((B.length : Nat) : Int) (pk B) = some ((), Wr (B ++ (bif intra then bitsN 8 (if dc = 128 then 255 else dc.toNat) else []))) := by
    cases intra with
    | false => simp only [blocks_Putu1, cond_false, List.append_nil]
    | true =>
      have hp : outbits_Writer_Put (k' + 200) ((if dc = 128 then 255 else dc.toNat : Nat) : Int) 8 ((B.length : Nat) : Int) (pk B) = _ := Put_spec (k := k' + 200) (B := B) (n := 8) (by decide) hlt (by omega) (by omega)
      simp only [blocks_Putu1, cond_true, hp, Option.bind_some]
  have hbl : (B ++ (bif intra then bitsN 8 (if dc = 128 then 255 else dc.toNat) else [])).length ≤ 1000000000 := by
    cases intra <;> simp [bitsN_length] <;> omega
  have hlp := PutEv_loop k' hl (levOK_right h4) (k' + 200) 0 (B ++ (bif intra then bitsN 8 (if dc = 128 then 255 else dc.toNat) else [])) (by omega) (by omega) (by omega)
  rw [List.drop_zero] at hlp
  have hlp' : blocks_Putu2 (k' + 200) (k' + 200) l ((l.length : Nat) : Int) 0 (Wr (B ++ (bif intra then bitsN 8 (if dc = 128 then 255 else dc.toNat) else []))).1.2.1 (Wr (B ++ (bif intra then bitsN 8 (if dc = 128 then 255 else dc.toNat) else []))).2 = _ := hlp
  simp only [hu0, Option.bind_some, hu1]
  rw [hlp']
  simp only [Option.bind_some, wBlock, List.append_assoc]
theorem PutBlock_bad {k : Nat} {intra : Bool} {dc : Int} {l : List DEvent} {B : List Bool} (hl : l.length ≤ 100000) (hk : l.length + 300 < k) (hok : blockOK intra dc l = false) :
    blocks_Put k intra dc l ((B.length : Nat) : Int) (pk B) = some (7, Wr B) := by
  have hm := may_spec (k := k) intra dc hl (by omega)
  rw [hok] at hm
  simp only [blocks_Put, hm, Option.bind_some, Bool.not_false, cond_true]

/-! ### Cells that may be -/
def intraI (kind : Int) : Bool := decide (kind = 3) || decide (kind = 4)
def steppedI (kind : Int) : Bool := decide (kind = 1) || decide (kind = 4)
theorem intra_w (k : Nat) (kind : Int) : cellout_intra k kind = some (intraI kind) := by
  simp only [cellout_intra, intraI]
  cases decide (kind = 3) <;> rfl
theorem stepped_w (k : Nat) (kind : Int) : cellout_stepped k kind = some (steppedI kind) := by
  simp only [cellout_stepped, steppedI]
  cases decide (kind = 1) <;> rfl
abbrev evW (c : DCell) : List (List DEvent) := c.2.2.2.2.2.2.1
abbrev dcW (c : DCell) : List Int := c.2.2.2.2.2.1
abbrev mvW (c : DCell) : List Int := c.2.2.2.2.1
/-- A cell's form: six blocks, two parts of a vector, and few events. -/
structure CellF (m : Nat) (c : DCell) : Prop where
  ev : (evW c).length = 6
  dc : (dcW c).length = 6
  mv : (mvW c).length = 2
  few : ∀ i, ((evW c).getD i []).length ≤ m
def bareC (c : DCell) : Bool := decide (c.2.2.1 = 0) && decide (c.2.2.2.1 = 0) && decide (mvW c = Y2) && decide (dcW c = Y6) && (evW c).all List.isEmpty
def vecOK (c : DCell) : Bool := bif intraI c.2.2.1 then decide (mvW c = Y2) else decide (wrapI ((mvW c).getD 0 0) = (mvW c).getD 0 0) && decide (wrapI ((mvW c).getD 1 0) = (mvW c).getD 1 0)
def stepOK (st : Int) : Bool := decide (st = -1 ∨ st = -2 ∨ st = 1 ∨ st = 2)
def kindOK (inter : Bool) (kind : Int) : Bool := intraI kind || (inter && (decide (kind = 0) || decide (kind = 1)))
def blocksOK (c : DCell) (i : Nat) : Bool := (List.range' i (6 - i)).all fun j => blockOK (intraI c.2.2.1) ((dcW c).getD j 0) ((evW c).getD j [])
def cellOK (inter : Bool) (c : DCell) : Bool :=
  decide (0 ≤ c.1) && decide (c.1 ≤ 64) && bif c.2.1 then inter && bareC c else
    kindOK inter c.2.2.1 && ((stepOK c.2.2.2.1 == steppedI c.2.2.1) && (stepOK c.2.2.2.1 || decide (c.2.2.2.1 = 0)) && vecOK c) && blocksOK c 0

theorem bare_loop (k : Nat) {l : List (List DEvent)} (hl : l.length = 6) : ∀ (n i : Nat) (x : Bool), i ≤ 6 → 6 < n + i → cellout_bareu1 k n x l (i : Int) = some (x && (l.drop i).all List.isEmpty)
  | 0, i, x, h1, h2 => by omega
  | n + 1, i, x, h1, h2 => by
    simp only [cellout_bareu1]
    by_cases h : i < 6
    · have hd : l.drop i = l.getD i [] :: l.drop (i + 1) := by
        rw [List.drop_eq_getElem_cons (by omega)]; simp [hl, h]
      have ih := fun y => bare_loop k hl n (i + 1) y h (by omega)
      have e1 : decide (((((l.getD i []).length : Nat)) : Int) = 0) = (l.getD i []).isEmpty := by
        cases l.getD i [] with
        | nil => rfl
        | cons a b => simp <;> omega
      have ew : wr .i64 ((i : Int) + 1) = ((i + 1 : Nat) : Int) := by rw [wr, wrap64 (by omega) (by omega)]; simp
      rw [hd]
      simp only [show decide ((i : Int) < 6) = true by simp <;> omega, cond_true, inR_nat, h, decide_true, Int.toNat_natCast, e1, ew, ih, Option.bind_some, List.all_cons]
      cases x <;> simp
    · have : i = 6 := by omega
      subst this
      have : l.drop 6 = [] := List.drop_eq_nil_of_le (by omega)
      rw [this]; simp
theorem eqB_dec {τ : Ty} (hτ : τ.eqs = true) (x y : τ.T) [Decidable (x = y)] : τ.eqB x y = decide (x = y) := by
  rw [Bool.eq_iff_iff, eqB_iff hτ, decide_eq_true_eq]
theorem bare_spec {k : Nat} (hk : 10 < k) {c : DCell} (hc : (evW c).length = 6) : cellout_bare k c = some (bareC c) := by
  have h1 : Ty.eqB (.arr 2 (.int .i64)) c.2.2.2.2.1 (Ty.zero (.arr 2 (.int .i64))) = decide (mvW c = Y2) := eqB_dec (τ := .arr 2 (.int .i64)) rfl (mvW c) Y2
  have h2 : Ty.eqB (.arr 6 (.int .i64)) c.2.2.2.2.2.1 (Ty.zero (.arr 6 (.int .i64))) = decide (dcW c = Y6) := eqB_dec (τ := .arr 6 (.int .i64)) rfl (dcW c) Y6
  have hu : cellout_bareu0 k c = some (decide (c.2.2.1 = 0) && decide (c.2.2.2.1 = 0) && decide (mvW c = Y2) && decide (dcW c = Y6), c) := by
    simp only [cellout_bareu0, h1, h2, Bool.false_xor]
    cases decide (c.2.2.1 = 0) <;> cases decide (c.2.2.2.1 = 0) <;> cases decide (mvW c = Y2) <;> rfl
  have h3 := bare_loop k hc k 0 (decide (c.2.2.1 = 0) && decide (c.2.2.2.1 = 0) && decide (mvW c = Y2) && decide (dcW c = Y6)) (by omega) (by omega)
  rw [List.drop_zero] at h3
  have h3' : cellout_bareu1 k k (decide (c.2.2.1 = 0) && decide (c.2.2.2.1 = 0) && decide (mvW c = Y2) && decide (dcW c = Y6)) c.2.2.2.2.2.2.1 0 = _ := h3
  simp only [cellout_bare, hu, Option.bind_some, h3', bareC]
theorem vector_spec (k : Nat) (c : DCell) : cellout_vector k c = some (vecOK c) := by
  have h1 : Ty.eqB (.arr 2 (.int .i64)) c.2.2.2.2.1 (Ty.zero (.arr 2 (.int .i64))) = decide (mvW c = Y2) := eqB_dec (τ := .arr 2 (.int .i64)) rfl (mvW c) Y2
  simp only [cellout_vector, intra_w, Option.bind_some, h1, Bool.false_xor, Wrap_spec, vecOK]
  cases intraI c.2.2.1 with
  | true => rfl
  | false =>
    simp only [cond_false]
    cases decide (wrapI ((mvW c).getD 0 0) = (mvW c).getD 0 0) <;> rfl

theorem Right_loop {k m : Nat} (hm : m ≤ 100000) (hk : m + 300 < k) {c : DCell} (hc : CellF m c) : ∀ (n i : Nat), i ≤ 6 → 6 < n + i → cellout_Rightu4 k n (i : Int) c = some (bif blocksOK c i then .inr ((), c) else .inl (false, c))
  | 0, i, h1, h2 => by omega
  | n + 1, i, h1, h2 => by
    simp only [cellout_Rightu4]
    by_cases h : i < 6
    · have ih := Right_loop hm hk hc n (i + 1) h (by omega)
      have ew : wr .i64 ((i : Int) + 1) = ((i + 1 : Nat) : Int) := by rw [wr, wrap64 (by omega) (by omega)]; simp
      have hb : blocksOK c i = (blockOK (intraI c.2.2.1) ((dcW c).getD i 0) ((evW c).getD i []) && blocksOK c (i + 1)) := by
        unfold blocksOK
        rw [show 6 - i = (6 - (i + 1)) + 1 by omega, List.range'_succ, List.all_cons]
      rw [hb]
      simp only [show decide ((i : Int) < 6) = true by simp <;> omega, cond_true, inR_nat, h, decide_true, Int.toNat_natCast, outbits_New, Option.bind_some, intra_w]
      have hfew := hc.few i
      cases hok : blockOK (intraI c.2.2.1) ((dcW c).getD i 0) ((evW c).getD i []) with
      | false =>
        have hp : blocks_Put k (intraI c.2.2.1) ((dcW c).getD i 0) ((evW c).getD i []) 0 [] = _ := PutBlock_bad (k := k) (B := []) (by omega) (by omega) hok
        rw [hp]
        rfl
      | true =>
        have hp : blocks_Put k (intraI c.2.2.1) ((dcW c).getD i 0) ((evW c).getD i []) 0 [] = _ := PutBlock_ok (k := k) (B := []) (by omega) (by omega) (by simp) hok
        rw [hp]
        simp only [Option.bind_some, decide_true, Bool.not_true, cond_false, ew, ih, Bool.true_and]
        cases blocksOK c (i + 1) <;> rfl
    · have : i = 6 := by omega
      subst this
      rfl
theorem Right_spec_w {k m : Nat} (hm : m ≤ 100000) (hk : m + 300 < k) {c : DCell} (hc : CellF m c) (inter : Bool) : cellout_Right k inter c = some (cellOK inter c) := by
  have hu0 : cellout_Rightu0 k c = some (!(decide (0 ≤ c.1) && decide (c.1 ≤ 64)), c) := by
    simp only [cellout_Rightu0]
    by_cases h1 : c.1 < 0
    · rw [decide_eq_true h1, decide_eq_false (show ¬ 0 ≤ c.1 by omega)]; rfl
    · rw [decide_eq_false h1, decide_eq_true (show 0 ≤ c.1 by omega)]
      by_cases h2 : c.1 ≤ 64
      · rw [decide_eq_true h2, decide_eq_false (show ¬ 64 < c.1 by omega)]; rfl
      · rw [decide_eq_false h2, decide_eq_true (show 64 < c.1 by omega)]; rfl
  simp only [cellout_Right, hu0, Option.bind_some, cellOK]
  cases (decide (0 ≤ c.1) && decide (c.1 ≤ 64)) with
  | false => rfl
  | true =>
    simp only [Bool.not_true, cond_false, Bool.true_and]
    cases hsk : c.2.1 with
    | true =>
      simp only [cond_true, cellout_Rightu1, bare_spec (k := k) (by omega) hc.ev, Option.bind_some]
      cases inter <;> rfl
    | false =>
      simp only [cond_false]
      have hu2 : cellout_Rightu2 k inter c = some (!kindOK inter c.2.2.1, c) := by
        simp only [cellout_Rightu2, intra_w, Option.bind_some, kindOK]
        cases intraI c.2.2.1 with
        | true => rfl
        | false =>
          cases inter with
          | false => rfl
          | true =>
            simp only [Bool.not_false, Bool.not_true, cond_true, cond_false, Bool.false_or, Bool.true_and]
            cases decide (c.2.2.1 = 0) <;> rfl
      have hu3 : cellout_Rightu3 k (stepOK c.2.2.2.1) c = some (!((stepOK c.2.2.2.1 == steppedI c.2.2.1) && (stepOK c.2.2.2.1 || decide (c.2.2.2.1 = 0)) && vecOK c), c) := by
        simp only [cellout_Rightu3, stepped_w, Option.bind_some, vector_spec, Bool.true_xor]
        cases (stepOK c.2.2.2.1 == steppedI c.2.2.1) with
        | false => rfl
        | true =>
          cases stepOK c.2.2.2.1 with
          | true => rfl
          | false =>
            simp only [Bool.not_true, Bool.not_false, cond_false, cond_true, Bool.true_and, Bool.false_or]
            cases decide (c.2.2.2.1 = 0) <;> rfl
      simp only [hu2, Option.bind_some]
      cases kindOK inter c.2.2.1 with
      | false => rfl
      | true =>
        have hst : (steps_Row k c.2.2.2.1) = some (chs (wStep c.2.2.2.1), (stepOK c.2.2.2.1, ())) := steps_Row_spec k _
        simp only [Bool.not_true, cond_false, hst, Option.bind_some, hu3, Bool.true_and]
        cases ((stepOK c.2.2.2.1 == steppedI c.2.2.1) && (stepOK c.2.2.2.1 || decide (c.2.2.2.1 = 0)) && vecOK c) with
        | false => rfl
        | true =>
          have h4 := Right_loop hm hk hc k 0 (by omega) (by omega)
          have h4' : cellout_Rightu4 k k 0 c = _ := h4
          simp only [Bool.not_true, cond_false, h4', Option.bind_some, Bool.true_and]
          cases blocksOK c 0 <;> rfl
end Go.Proofs.YtlmajdbchmnhdaaGreatDoor
