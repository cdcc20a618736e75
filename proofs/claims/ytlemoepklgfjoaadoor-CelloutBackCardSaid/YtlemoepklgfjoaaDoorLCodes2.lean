/-
  Reading codes: kinds, patterns, differences of vectors: the program's readers tell what the page's do.
-/
import Derived.Test.YtlemoepklgfjoaaDoorLCodes
set_option maxRecDepth 100000
namespace Go.Proofs.YtlemoepklgfjoaaDoor
open Go Go.Av

theorem nodes_mem {rows : List (List UInt8)} (h : (nodesOf rows).contains [] = true) : ([], []) ∈ (nodesOf rows).map fun p => (p, p) := by
  refine List.mem_map.2 ⟨[], ?_, rfl⟩
  simpa using h

/-! ### Kind and colours -/
theorem rows6_nil (inter : Bool) : (nodesOf (rows6 inter)).contains [] = true := by cases inter <;> kernel_rfl
theorem rows6_short (inter : Bool) : ((rows6 inter).all fun r => Nat.ble r.length 24) = true ∧ (rows6 inter).length ≤ 1000 := by cases inter <;> exact ⟨by kernel_rfl, of_decide_eq_true (by kernel_rfl)⟩
theorem short_of {rows : List (List UInt8)} (h : (rows.all fun r => Nat.ble r.length 24) = true) : ∀ r ∈ rows, r.length ≤ 24 := fun r hr => Nat.le_of_ble_eq_true (List.all_eq_true.1 h r hr)
theorem rows6_ok (k : Nat) (inter : Bool) : (Option.bind (overspillref06_rows (k + 100) inter) fun v => overspillref06_Takeu0 (k + 100) (k + 100) v 0 []) = some ((), rows6 inter) := by cases inter <;> kernel_rfl
theorem rows6_idx (inter : Bool) : (rows6 inter).length = bif inter then 21 else 9 := by cases inter <;> kernel_rfl

theorem findRow_lt {q : List UInt8} : ∀ {rows : List (List UInt8)} {i j : Nat}, findRow q rows i = some j → j < i + rows.length
  | [], i, j, h => by cases h
  | r :: l, i, j, h => by
    simp only [findRow] at h
    cases hd : decide (r = q) with
    | true => rw [hd] at h; cases h; simp
    | false => rw [hd] at h; have := findRow_lt (rows := l) h; simp only [List.length_cons]; omega
theorem wlk_row_lt {rows : List (List UInt8)} : ∀ {rest p : List Bool} {n i m : Nat}, wlk (rowStep rows) p rest n = .inr (i, m) → i < rows.length
  | [], p, n, i, m, h => by cases h
  | b :: r, p, n, i, m, h => by
    simp only [wlk, rowStep] at h
    cases hf : findRow (chs (p ++ [b])) rows 0 with
    | some j =>
      rw [hf] at h
      simp only [Sum.inr.injEq, Prod.mk.injEq] at h
      have := findRow_lt hf
      omega
    | none =>
      rw [hf] at h
      cases ha : anyBeg (chs (p ++ [b])) rows with
      | false => rw [ha] at h; cases h
      | true => rw [ha] at h; exact wlk_row_lt h

theorem ref06_spec {k : Nat} (hk : 1000 < k) {B : List Bool} {a : Nat} (hb : B.length ≤ 1000000000000) (ha : a ≤ B.length) (inter : Bool) :
    overspillref06_Take k (chs B) (a : Int) inter = some (match rdMcbpc inter (B.drop a) with | .inr x => ((x.1.1 : Int), ((x.1.2 : Int), (((a + x.2 : Nat) : Int), (0, ())))) | .inl e => (0, (0, ((a : Int), ((e : Int), ()))))) := by
  obtain ⟨k', rfl⟩ : ∃ k', k = k' + 100 := ⟨k - 100, by omega⟩
  have h1 := rows6_ok k' inter
  obtain ⟨rs, hrs, h2⟩ := Option.bind_eq_some_iff.1 h1
  simp only [overspillref06_Take, hrs, h2, Option.bind_some, ref05_spec hk (rows6_short inter).2 (short_of (rows6_short inter).1) hb ha, rdMcbpc]
  cases hw : wlk (rowStep (rows6 inter)) [] (B.drop a) 0 with
  | inl e =>
    have he := wlk_err hw
    simp only
    rw [show decide ((e : Int) = 0) = false by simp <;> omega]
    rfl
  | inr x =>
    obtain ⟨i, m⟩ := x
    have hi := wlk_row_lt hw
    rw [rows6_idx] at hi
    have hi2 : i < 21 := by cases inter <;> simp at hi <;> omega
    simp only [decide_true, Bool.not_true, cond_false, overspillref06_Takeu1]
    have e1 : (bif !inter then some (wr .i64 ((i : Int) + 12)) else some (i : Int)) = some (((bif inter then i else i + 12 : Nat)) : Int) := by
      cases inter
      · simp only [Bool.not_false, cond_true, cond_false]; rw [wr, wrap64 (by omega) (by omega)]; rfl
      · rfl
    rw [e1, Option.bind_some]
    have hj : (bif inter then i else i + 12) < 33 := by cases inter <;> simp <;> omega
    generalize (bif inter then i else i + 12) = j at hj ⊢
    have e2 : wr .i64 (Int.tdiv (j : Int) 4) = ((j / 4 : Nat) : Int) := by
      rw [show Int.tdiv (j : Int) 4 = ((j / 4 : Nat) : Int) from rfl, wr, wrap64 (by omega) (by omega)]
    have e3 : Int.tmod (j : Int) 4 = ((j % 4 : Nat) : Int) := rfl
    rw [e2, e3]
    by_cases h : j / 4 = 2
    · rw [if_pos h, h]; rfl
    · rw [if_neg h, show decide (((j / 4 : Nat) : Int) = 2) = false by simp <;> omega]; rfl

theorem mcbpc_spec {k : Nat} {s : List UInt8} (hs : Small s) (hk : 8 * s.length + 300 < k) {a : Nat} (ha : a ≤ 8 * s.length) (inter : Bool) :
    mcbpc_Take k inter (Rd s a) = some (match rdMcbpc inter (bitsFrom s a) with | .inr x => (((x.1.1 : Int), ((x.1.2 : Int), (0, ()))), Rd s (a + x.2)) | .inl e => ((0, (0, ((e : Int), ()))), Rd s a)) := by
  obtain ⟨k', rfl⟩ : ∃ k', k = k' + 300 := ⟨k - 300, by omega⟩
  have ht := mcbpc_tab k' inter
  split at ht
  case h_2 => cases ht
  rename_i t heq
  simp only [tabOk, Bool.and_eq_true] at ht
  obtain ⟨hin, hok⟩ := ht
  have hw := wlk_same hok (bitsFrom s a) [] [] 0 (nodes_mem (rows6_nil inter))
  simp only [mcbpc_Take, inbits_Reader_At, Option.bind_some, heq, Sum.elim_inr]
  have hT := Table_spec hs (k := k' + 300) (by omega) (by omega) ha t.2.1.2.2.2.2.1 (begins := t.2.2.2.2.1) t.2.2.2.1 hin
  rw [hw] at hT
  rw [hT]
  simp only [Option.bind_some, rdMcbpc]
  cases hw2 : wlk (rowStep (rows6 inter)) [] (bitsFrom s a) 0 with
  | inl e =>
    have he := wlk_err hw2
    rcases he with rfl | rfl <;> rfl
  | inr x =>
    obtain ⟨i, m⟩ := x
    have hi := wlk_row_lt hw2
    rw [rows6_idx] at hi
    simp only [mapW, decide_true, Bool.not_true, cond_false, symOf]
    have hj : (bif inter then i else i + 12) < 33 := by cases inter <;> simp at hi ⊢ <;> omega
    have e2 : ∀ j : Nat, j < 33 → wr .i64 (Int.tdiv ((10 * (j / 4) + j % 4 : Nat) : Int) 10) = ((j / 4 : Nat) : Int) := fun j hj => by
      rw [show Int.tdiv ((10 * (j / 4) + j % 4 : Nat) : Int) 10 = (((10 * (j / 4) + j % 4) / 10 : Nat) : Int) from rfl, wr, wrap64 (by omega) (by omega)]
      omega
    have e3 : ∀ j : Nat, Int.tmod ((10 * (j / 4) + j % 4 : Nat) : Int) 10 = ((j % 4 : Nat) : Int) := fun j => by
      rw [show Int.tmod ((10 * (j / 4) + j % 4 : Nat) : Int) 10 = (((10 * (j / 4) + j % 4) % 10 : Nat) : Int) from rfl]
      omega
    simp only [e2 _ hj, e3]
    by_cases h : (bif inter then i else i + 12) / 4 = 2
    · simp only [h, if_pos, Seek_spec hs ha]
      rfl
    · simp only [h, if_false, show decide ((((bif inter then i else i + 12) / 4 : Nat) : Int) = 2) = false by simp <;> omega, cond_false]

/-! ### Patterns of luma -/
noncomputable def rows7 : List (List UInt8) := (overspillref07_rows 0).getD []
noncomputable def rdCbpy (intra : Bool) (rest : List Bool) : Sum Nat (Nat × Nat) :=
  match wlk (rowStep rows7) [] rest 0 with
  | .inl e => .inl e
  | .inr (i, m) => .inr (bif intra then 15 - i else i, m)
theorem rows7_nil : (nodesOf rows7).contains [] = true := by kernel_rfl
theorem rows7_short : (rows7.all fun r => Nat.ble r.length 24) = true ∧ rows7.length ≤ 1000 := ⟨by kernel_rfl, of_decide_eq_true (by kernel_rfl)⟩
theorem rows7_len : rows7.length = 16 := by kernel_rfl
theorem cbpy_tab (k : Nat) (intra : Bool) : (match (Option.bind (cbpy_rows (k + 300)) fun v => Option.bind (cbpy_Takeu0 (k + 300) (k + 300) intra v 0 []) fun l => prefix_Make_int (k + 300) l.2) with
    | some (.inr t) => tabOk rows7 (fun i => ((bif intra then 15 - i else i : Nat) : Int)) ((), t.2) | _ => false) = true := by
  cases intra <;> kernel_rfl

theorem ref07_spec {k : Nat} (hk : 1000 < k) {B : List Bool} {a : Nat} (hb : B.length ≤ 1000000000000) (ha : a ≤ B.length) (intra : Bool) :
    overspillref07_Take k (chs B) (a : Int) intra = some (match rdCbpy intra (B.drop a) with | .inr x => ((x.1 : Int), (((a + x.2 : Nat) : Int), (0, ()))) | .inl e => (0, ((a : Int), ((e : Int), ())))) := by
  have h1 : overspillref07_rows k = some rows7 := rfl
  simp only [overspillref07_Take, h1, Option.bind_some, ref05_spec hk rows7_short.2 (short_of rows7_short.1) hb ha, rdCbpy, overspillref07_Takeu0]
  cases hw : wlk (rowStep rows7) [] (B.drop a) 0 with
  | inl e =>
    have he := wlk_err hw
    simp only
    rw [show decide ((e : Int) = 0) = false by simp <;> omega]
    rfl
  | inr x =>
    obtain ⟨i, m⟩ := x
    have hi := wlk_row_lt hw
    rw [rows7_len] at hi
    simp only [decide_true, cond_true, Option.bind_some]
    cases intra
    · rfl
    · simp only [cond_true]
      rw [wr, wrap64 (by omega) (by omega)]
      rw [show (15 : Int) - (i : Int) = ((15 - i : Nat) : Int) by omega]

theorem cbpy_spec {k : Nat} {s : List UInt8} (hs : Small s) (hk : 8 * s.length + 300 < k) {a : Nat} (ha : a ≤ 8 * s.length) (intra : Bool) :
    cbpy_Take k intra (Rd s a) = some (match rdCbpy intra (bitsFrom s a) with | .inr x => (((x.1 : Int), (0, ())), Rd s (a + x.2)) | .inl e => ((0, ((e : Int), ())), Rd s a)) := by
  obtain ⟨k', rfl⟩ : ∃ k', k = k' + 300 := ⟨k - 300, by omega⟩
  have ht := cbpy_tab k' intra
  split at ht
  case h_2 => cases ht
  rename_i t heq
  obtain ⟨rs, hrs, h2⟩ := Option.bind_eq_some_iff.1 heq
  obtain ⟨l, hl, h3⟩ := Option.bind_eq_some_iff.1 h2
  simp only [tabOk, Bool.and_eq_true] at ht
  obtain ⟨hin, hok⟩ := ht
  have hw := wlk_same hok (bitsFrom s a) [] [] 0 (nodes_mem rows7_nil)
  simp only [cbpy_Take, hrs, hl, h3, Option.bind_some, Sum.elim_inr]
  have hT := Table_spec hs (k := k' + 300) (by omega) (by omega) ha t.2.1.2.2.2.2.1 (begins := t.2.2.2.2.1) t.2.2.2.1 hin
  rw [hw] at hT
  rw [hT]
  simp only [Option.bind_some, rdCbpy]
  cases hw2 : wlk (rowStep rows7) [] (bitsFrom s a) 0 <;> rfl
end Go.Proofs.YtlemoepklgfjoaaDoor
