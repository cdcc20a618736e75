/-
  The rows that the program writes: kinds, patterns, steps, differences, events.
-/
import Derived.Test.YtlmajdbchmnhdaaGreatDoorLTables
import Derived.Test.YtlmajdbchmnhdaaGreatDoorLWriter
set_option maxRecDepth 100000
namespace Go.Proofs.YtlmajdbchmnhdaaGreatDoor
open Go Go.Av

noncomputable def rowBits (rows : List (List UInt8)) (i : Nat) : List Bool := bitsRow (rows.getD i [])
noncomputable def wMcbpc (inter : Bool) (kind ch : Nat) : List Bool := rowBits (rows6 inter) (bif inter then 4 * kind + ch else 4 * kind + ch - 12)
noncomputable def wCbpy (intra : Bool) (pat : Nat) : List Bool := rowBits rows7 (bif intra then 15 - pat else pat)
noncomputable def wMvd (d : Int) : List Bool := rowBits rows8 (d + 32).toNat
def wStep (st : Int) : List Bool := if st = -1 then [false, false] else if st = -2 then [false, true] else if st = 1 then [true, false] else if st = 2 then [true, true] else []

theorem mcbpc_rows (k : Nat) : ([(true, 0), (true, 1), (true, 3), (true, 4), (false, 3), (false, 4)].all fun x => (List.range 4).all fun ch => decide (mcbpc_Row (k + 200) x.1 ((x.2 : Nat) : Int) (ch : Int) = some (chs (wMcbpc x.1 x.2 ch), (true, ())))) = true := by kernel_rfl
theorem mcbpc_stuff (k : Nat) (inter : Bool) : mcbpc_Row (k + 200) inter 5 0 = some (chs (wMcbpc inter 5 0), (true, ())) := by cases inter <;> kernel_rfl
theorem mcbpc_Row_spec (k : Nat) {inter : Bool} {kind ch : Nat} (h1 : kind ≤ 4 ∧ kind ≠ 2) (h2 : inter = false → 3 ≤ kind) (h3 : ch < 4) : mcbpc_Row (k + 200) inter (kind : Int) (ch : Int) = some (chs (wMcbpc inter kind ch), (true, ())) := by
  have hm : (inter, kind) ∈ [(true, 0), (true, 1), (true, 3), (true, 4), (false, 3), (false, 4)] := by
    cases inter
    · have := h2 rfl
      have : kind = 3 ∨ kind = 4 := by omega
      rcases this with rfl | rfl <;> simp
    · have : kind = 0 ∨ kind = 1 ∨ kind = 3 ∨ kind = 4 := by omega
      rcases this with rfl | rfl | rfl | rfl <;> simp
  have h4 := List.all_eq_true.1 (mcbpc_rows k) _ hm
  have h5 := List.all_eq_true.1 h4 ch (List.mem_range.2 h3)
  exact of_decide_eq_true h5
theorem cbpy_rowsOk (k : Nat) : ((List.range 16).all fun p => decide (cbpy_Row k true (p : Int) = some (chs (wCbpy true p), (true, ()))) && decide (cbpy_Row k false (p : Int) = some (chs (wCbpy false p), (true, ())))) = true := by kernel_rfl
theorem cbpy_Row_spec (k : Nat) (intra : Bool) {p : Nat} (h : p < 16) : cbpy_Row k intra (p : Int) = some (chs (wCbpy intra p), (true, ())) := by
  have := List.all_eq_true.1 (cbpy_rowsOk k) p (List.mem_range.2 h)
  simp only [Bool.and_eq_true, decide_eq_true_eq] at this
  cases intra
  · exact this.2
  · exact this.1
theorem mvd_rowsOk (k : Nat) : ((List.range 64).all fun p => decide (mvd_Row (k + 100) ((p : Int) - 32) = some (chs (rowBits rows8 p), (true, ())))) = true := by kernel_rfl
theorem mvd_Row_spec (k : Nat) {d : Int} (h1 : -32 ≤ d) (h2 : d ≤ 31) : mvd_Row (k + 100) d = some (chs (wMvd d), (true, ())) := by
  have := List.all_eq_true.1 (mvd_rowsOk k) (d + 32).toNat (List.mem_range.2 (by omega))
  have h3 := of_decide_eq_true this
  rw [show (((d + 32).toNat : Nat) : Int) - 32 = d by omega] at h3
  exact h3
theorem steps_Row_spec (k : Nat) (st : Int) : steps_Row k st = some (chs (wStep st), (decide (st = -1 ∨ st = -2 ∨ st = 1 ∨ st = 2), ())) := by
  simp only [steps_Row, wStep]
  by_cases h1 : st = -1
  · subst h1; rfl
  · by_cases h2 : st = -2
    · subst h2; rfl
    · by_cases h3 : st = 1
      · subst h3; rfl
      · by_cases h4 : st = 2
        · subst h4; rfl
        · simp only [h1, h2, h3, h4, decide_false, cond_false, if_false, or_self]; rfl

/-! ### Events -/
def rightEv (e : DEvent) : Bool := decide (0 ≤ e.2.1) && decide (e.2.1 ≤ 63) && decide (e.2.2.1 ≠ 0) && decide (-127 ≤ e.2.2.1) && decide (e.2.2.1 ≤ 127)
theorem Right_any (k : Nat) (e : DEvent) : tcoef_Right k e = some (rightEv e) := by
  simp only [tcoef_Right, rightEv, decide_not]
  cases decide (0 ≤ e.2.1) <;> cases decide (e.2.1 ≤ 63) <;> cases decide (e.2.2.1 = 0) <;> cases decide (-127 ≤ e.2.2.1) <;> rfl
noncomputable def wEvent (e : DEvent) : List Bool :=
  bif inTab e.1 e.2.1.toNat e.2.2.1.natAbs then bitsRow ((rowsOf e.1 e.2.1.toNat).getD (e.2.2.1.natAbs - 1) []) ++ [decide (e.2.2.1 < 0)]
  else bitsN 7 3 ++ e.1 :: (bitsN 6 e.2.1.toNat ++ bitsN 8 (Int.emod e.2.2.1 256).toNat)
noncomputable def tabRow (k : Nat) (l : Bool) (r : Nat) : Bool :=
  (List.range (rowsOf l r).length).all fun j => match tcoef_place (k + 200) l (r : Int) ((j + 1 : Nat) : Int) with
    | some p => decide (outbits_Row (k + 200) (List.getD tbl1 (Int.toNat p) 0) (List.getD tbl2 (Int.toNat p) 0) = some ((rowsOf l r).getD j [], (0, ()))) && isPlain ((rowsOf l r).getD j []) && Nat.ble ((rowsOf l r).getD j []).length 12
    | none => false
theorem tab_rows (k : Nat) : ((List.range 64).all fun r => tabRow k false r && tabRow k true r) = true := by kernel_rfl
theorem row_at (k : Nat) (l : Bool) {r m : Nat} (h : r < 64) (hm : 1 ≤ m) (ht : inTab l r m = true) : ∃ p : Int, tcoef_place (k + 200) l (r : Int) (m : Int) = some p ∧ 0 ≤ p ∧ p < 102 ∧
    outbits_Row (k + 200) (List.getD tbl1 (Int.toNat p) 0) (List.getD tbl2 (Int.toNat p) 0) = some ((rowsOf l r).getD (m - 1) [], (0, ())) ∧ isPlain ((rowsOf l r).getD (m - 1) []) = true ∧ ((rowsOf l r).getD (m - 1) []).length ≤ 12 := by
  obtain ⟨p, hp, h1, h2⟩ := place_at k l h hm
  have hle : m ≤ (rowsOf l r).length := of_decide_eq_true ht
  have h3 := List.all_eq_true.1 (tab_rows k) r (List.mem_range.2 h)
  simp only [Bool.and_eq_true] at h3
  have h4 : tabRow k l r = true := by cases l; exact h3.1; exact h3.2
  have h5 := List.all_eq_true.1 h4 (m - 1) (List.mem_range.2 (by omega))
  rw [show m - 1 + 1 = m by omega, hp] at h5
  simp only [Bool.and_eq_true, decide_eq_true_eq] at h5
  refine ⟨p, hp, ?_, h2, h5.1.1, h5.1.2, Nat.le_of_ble_eq_true h5.2⟩
  rw [decide_eq_true hle] at h1
  exact of_decide_eq_true h1
theorem digit_spec (k : Nat) (b : Bool) : tcoef_digit k b = some (chs [b]) := by cases b <;> rfl
theorem lev256 {v : Int} (h1 : -127 ≤ v) (h2 : v ≤ 127) : Int.tmod (wr .i64 (v + 256)) 256 = (((Int.emod v 256).toNat : Nat) : Int) ∧ (Int.emod v 256).toNat < 256 := by
  have h : ∀ n : Fin 255, Int.tmod (((n.val : Int) - 127) + 256) 256 = (((Int.emod ((n.val : Int) - 127) 256).toNat : Nat) : Int) := by decide +kernel
  have h3 := h ⟨(v + 127).toNat, by omega⟩
  simp only at h3
  rw [show (((v + 127).toNat : Nat) : Int) - 127 = v by omega] at h3
  rw [wr, wrap64 (by omega) (by omega)]
  refine ⟨h3, ?_⟩
  have := Int.emod_nonneg v (b := 256) (by decide)
  have := Int.emod_lt_of_pos v (b := 256) (by decide)
  have e : Int.emod v 256 = v % 256 := rfl
  rw [e]; omega
theorem wEvent_length {e : DEvent} (h : rightEv e = true) : (wEvent e).length ≤ 22 := by
  simp only [rightEv, Bool.and_eq_true, decide_eq_true_eq] at h
  obtain ⟨⟨⟨⟨h1, h2⟩, h3⟩, h4⟩, h5⟩ := h
  unfold wEvent
  cases ht : inTab e.1 e.2.1.toNat e.2.2.1.natAbs with
  | true =>
    obtain ⟨p, _, _, _, _, _, hl⟩ := row_at 0 e.1 (r := e.2.1.toNat) (m := e.2.2.1.natAbs) (by omega) (by omega) ht
    simp only [cond_true, List.length_append, bitsRow, List.length_map, List.length_cons, List.length_nil]
    omega
  | false => simp [bitsN_length]
theorem tcoef_Row_spec (k : Nat) {e : DEvent} (h : rightEv e = true) : tcoef_Row (k + 200) e = some (chs (wEvent e), (true, ())) := by
  have h' := h
  simp only [rightEv, Bool.and_eq_true, decide_eq_true_eq] at h'
  obtain ⟨⟨⟨⟨h1, h2⟩, h3⟩, h4⟩, h5⟩ := h'
  obtain ⟨l, r, v, u⟩ := e
  simp only at h1 h2 h3 h4 h5
  obtain ⟨r, rfl⟩ : ∃ n : Nat, r = n := ⟨r.toNat, by omega⟩
  simp only [tcoef_Row, Right_any, h, Option.bind_some, Bool.not_true, cond_false, mx_abs (show -1000 ≤ v by omega) (show v ≤ 1000 by omega), wEvent, Int.toNat_natCast]
  cases ht : inTab l r v.natAbs with
  | true =>
    obtain ⟨p, hp, hp0, hp1, hrow, hpl, hlen⟩ := row_at k l (r := r) (m := v.natAbs) (by omega) (by omega) ht
    have hin : inR p 102 = true := inR_true hp0 (by omega)
    have hmx : decide (((rowsOf l r).getD (v.natAbs - 1) []).length + (chs [decide (v < 0)]).length ≤ strMax) = true := by
      simp only [chs_length, List.length_cons, List.length_nil, strMax, decide_eq_true_eq]; omega
    simp only [hp, Option.bind_some, decide_eq_true hp0, cond_true, hin, hrow, digit_spec, hmx, chs_append, chs_bitsRow hpl]
  | false =>
    obtain ⟨p, hp, hp2, _⟩ := place_at k l (r := r) (m := v.natAbs) (by omega) (by omega)
    have hpn : decide (0 ≤ p) = false := by rw [hp2]; exact ht
    have r7 : outbits_Row (k + 200) 3 7 = some (chs (bitsN 7 3), (0, ())) := Row_spec (k := k + 200) (v := 3) (n := 7) (by decide) (by decide) (by omega)
    have r6 : outbits_Row (k + 200) (r : Int) 6 = some (chs (bitsN 6 r), (0, ())) := Row_spec (k := k + 200) (v := r) (n := 6) (by decide) (by omega) (by omega)
    obtain ⟨e1, e2⟩ := lev256 h4 h5
    have r8 : outbits_Row (k + 200) (((Int.emod v 256).toNat : Nat) : Int) 8 = some (chs (bitsN 8 (Int.emod v 256).toNat), (0, ())) := Row_spec (k := k + 200) (v := (Int.emod v 256).toNat) (n := 8) (by decide) e2 (by omega)
    simp only [hp, Option.bind_some, hpn, cond_false, r7, r6, e1, r8, digit_spec]
    have m1 : decide ((chs (bitsN 7 3)).length + (chs [l]).length ≤ strMax) = true := by simp [chs_length, bitsN_length, strMax]
    have m2 : decide ((chs (bitsN 7 3) ++ chs [l]).length + (chs (bitsN 6 r)).length ≤ strMax) = true := by simp [chs_length, bitsN_length, strMax]
    have m3 : decide ((chs (bitsN 7 3) ++ chs [l] ++ chs (bitsN 6 r)).length + (chs (bitsN 8 (Int.emod v 256).toNat)).length ≤ strMax) = true := by simp [chs_length, bitsN_length, strMax]
    rw [m1, m2, m3]
    simp only [cond_true, ← chs_append]
    simp
end Go.Proofs.YtlmajdbchmnhdaaGreatDoor
