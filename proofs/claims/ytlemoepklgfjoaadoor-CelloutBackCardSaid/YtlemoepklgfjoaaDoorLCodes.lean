/-
  Reading codes: the page's reader of a list of rows, and the program's tables, as walks over bits.
-/
import Derived.Test.YtlemoepklgfjoaaDoorLBits
import Derived.Test.YtlemoepklgfjoaaDoorM5
set_option maxRecDepth 100000
namespace Go.Proofs.YtlemoepklgfjoaaDoor
open Go Go.Av

theorem ref05_begins (k : Nat) {r q : List UInt8} : overspillref05_begins k r q = some (begs r q) := by
  simp only [overspillref05_begins, Int.toNat_natCast, Int.ofNat_le, List.drop_zero]
  by_cases h : q.length ≤ r.length
  · simp only [h, Int.natCast_nonneg, and_self, decide_true, cond_true, Option.some.injEq]
    cases hb : begs r q with
    | true => simp [(begs_iff.1 hb).2]
    | false =>
      rw [decide_eq_false_iff_not]
      intro e
      rw [begs_iff.2 ⟨h, e⟩] at hb; cases hb
  · have : begs r q = false := by
      cases hb : begs r q with
      | false => rfl
      | true => exact absurd (begs_iff.1 hb).1 h
    simp only [h, decide_false, cond_false, this]

theorem ref05_find (k : Nat) {rows : List (List UInt8)} {bits q : List UInt8} {a m : Nat} (hr : rows.length ≤ 1000) (hb : bits.length ≤ 1000000000000) (hm : a + m ≤ bits.length) (hq : (bits.take (a + m)).drop a = q) : ∀ (n i : Nat) (acc : Bool), i ≤ rows.length → rows.length < n + i →
    overspillref05_Takeu0 k n rows bits (a : Int) (m : Int) acc (i : Int) = some (match findRow q (rows.drop i) i with | some j => .inl ((j : Int), (((a + m : Nat) : Int), 0)) | none => .inr (acc || anyBeg q (rows.drop i)))
  | 0, i, acc, h1, h2 => by omega
  | n + 1, i, acc, h1, h2 => by
    simp only [overspillref05_Takeu0]
    by_cases h : i < rows.length
    · have e1 : wr .i64 ((a : Int) + (m : Int)) = ((a + m : Nat) : Int) := by rw [wr, wrap64 (by omega) (by omega)]; simp
      have e2 : decide ((0 : Int) ≤ (a : Int) ∧ (a : Int) ≤ ((a + m : Nat) : Int) ∧ ((a + m : Nat) : Int) ≤ ((bits.length : Nat) : Int)) = true := by simp <;> omega
      have hd : rows.drop i = rows.getD i [] :: rows.drop (i + 1) := by
        rw [List.drop_eq_getElem_cons h]; simp [h]
      have ih := fun acc => ref05_find k hr hb hm hq n (i + 1) acc h (by omega)
      have e3 : wr .i64 ((i : Int) + 1) = ((i + 1 : Nat) : Int) := by rw [wr, wrap64 (by omega) (by omega)]; simp
      simp only [e1, e2, e3, hd, ih, show decide ((i : Int) < ((rows.length : Nat) : Int)) = true by simp <;> omega, inR_nat, h, decide_true, cond_true, Int.toNat_natCast, hq, findRow, anyBeg, ref05_begins, Option.bind_some]
      cases hdq : decide (rows.getD i [] = q) with
      | true => rfl
      | false =>
        simp only [cond_false]
        cases acc with
        | true =>
          simp only [cond_true, Bool.true_or]
          cases findRow q (rows.drop (i + 1)) (i + 1) <;> rfl
        | false =>
          simp only [cond_false, Bool.false_or]
          cases findRow q (rows.drop (i + 1)) (i + 1) <;> rfl
    · have : i = rows.length := by omega
      subst this
      simp [findRow, anyBeg]

theorem chs_slice {B p r : List Bool} {a : Nat} (h : B.drop a = p ++ r) (ha : a ≤ B.length) : ((chs B).take (a + p.length)).drop a = chs p := by
  simp only [chs]
  rw [← List.map_take, ← List.map_drop, List.take_add, List.drop_append]
  have h1 : (B.take a).length = a := by simp [ha]
  simp [h1, h]

theorem ref05_walk (k : Nat) {rows : List (List UInt8)} {B : List Bool} {a : Nat} (hk : 1000 < k) (hr : rows.length ≤ 1000) (hs : ∀ r ∈ rows, r.length ≤ 24) (hb : B.length ≤ 1000000000000) (ha : a ≤ B.length) : ∀ (rest p : List Bool) (n : Nat), B.drop a = p ++ rest → p.length ≤ 24 → 25 < n + p.length →
    overspillref05_Takeu1 k n rows (chs B) (a : Int) ((p.length + 1 : Nat) : Int) = some (.inl (match wlk (rowStep rows) p rest p.length with | .inr x => ((x.1 : Int), (((a + x.2 : Nat) : Int), 0)) | .inl e => (0, ((a : Int), (e : Int)))))
  | rest, p, 0, h1, h2, h3 => by omega
  | [], p, n + 1, h1, h2, h3 => by
    have hl := congrArg List.length h1
    simp only [List.length_drop, List.append_nil] at hl
    have e1 : wr .i64 (((chs B).length : Nat) - (a : Int)) = ((p.length : Nat) : Int) := by rw [chs_length, wr, wrap64 (by omega) (by omega)]; omega
    simp only [overspillref05_Takeu1, e1, wlk]
    rw [show decide (((p.length + 1 : Nat) : Int) ≤ 25) = true by simp <;> omega, show decide (((p.length : Nat) : Int) < ((p.length + 1 : Nat) : Int)) = true by simp <;> omega]
    rfl
  | b :: r, p, n + 1, h1, h2, h3 => by
    have hl := congrArg List.length h1
    simp only [List.length_drop, List.length_append, List.length_cons] at hl
    have e1 : wr .i64 (((chs B).length : Nat) - (a : Int)) = ((p.length + (r.length + 1) : Nat) : Int) := by rw [chs_length, wr, wrap64 (by omega) (by omega)]; omega
    have hpb : (p ++ [b]).length = p.length + 1 := by simp
    have h1' : B.drop a = (p ++ [b]) ++ r := by rw [h1]; simp
    have hsl := chs_slice h1' ha
    rw [hpb] at hsl
    have hf := ref05_find k hr (bits := chs B) (q := chs (p ++ [b])) (a := a) (m := p.length + 1) (by rw [chs_length]; exact hb) (by rw [chs_length]; omega) hsl k 0 false (by omega) (by omega)
    rw [cast0, List.drop_zero] at hf
    simp only [overspillref05_Takeu1, e1, wlk, rowStep]
    rw [show decide (((p.length + 1 : Nat) : Int) ≤ 25) = true by simp <;> omega, show decide (((p.length + (r.length + 1) : Nat) : Int) < ((p.length + 1 : Nat) : Int)) = false by simp <;> omega, hf]
    simp only [cond_true, cond_false, Option.bind_some]
    cases hfr : findRow (chs (p ++ [b])) rows 0 with
    | some j => simp only [Sum.elim_inl]
    | none =>
      simp only [Sum.elim_inr, Bool.false_or]
      cases hab : anyBeg (chs (p ++ [b])) rows with
      | false => rfl
      | true =>
        simp only [Bool.not_true, cond_false, cond_true]
        have hlt : (p ++ [b]).length ≤ 24 := by
          by_cases hx : (p ++ [b]).length ≤ 24
          · exact hx
          · have := anyBeg_long (q := chs (p ++ [b])) (rows := rows) (fun x hx' => by have := hs x hx'; rw [chs_length]; omega)
            rw [hab] at this; cases this
        have ih := ref05_walk k hk hr hs hb ha r (p ++ [b]) n h1' hlt (by rw [hpb]; omega)
        rw [hpb] at ih
        rw [show wr .i64 (((p.length + 1 : Nat) : Int) + 1) = ((p.length + 1 + 1 : Nat) : Int) by rw [wr, wrap64 (by omega) (by omega)]; simp, ih]
        rfl

theorem ref05_spec {k : Nat} {rows : List (List UInt8)} {B : List Bool} {a : Nat} (hk : 1000 < k) (hr : rows.length ≤ 1000) (hs : ∀ r ∈ rows, r.length ≤ 24) (hb : B.length ≤ 1000000000000) (ha : a ≤ B.length) :
    overspillref05_Take k rows (chs B) (a : Int) = some (match wlk (rowStep rows) [] (B.drop a) 0 with | .inr x => ((x.1 : Int), (((a + x.2 : Nat) : Int), (0, ()))) | .inl e => (0, ((a : Int), ((e : Int), ())))) := by
  have h := ref05_walk k hk hr hs hb ha (B.drop a) [] k rfl (by simp) (by simp; omega)
  simp only [List.length_nil, Nat.zero_add] at h
  simp only [overspillref05_Take]
  rw [show (1 : Int) = ((1 : Nat) : Int) from rfl, h]
  simp only [Option.bind_some, Sum.elim_inl]
  cases wlk (rowStep rows) [] (B.drop a) 0 <;> rfl

/-! ### The program's tables -/
abbrev Syms := List ((List UInt8) × Int)
def tabStep (syms begins : Syms) (codes : List DReader) (p : List Bool) (b : Bool) : Vd (List Bool) Int :=
  bif mhas .str (chs (p ++ [b])) syms then .hit (List.getD codes (Int.toNat (mval .str (chs (p ++ [b])) syms)) (([] : List UInt8), (0, ()))).2.1
  else bif decide (mval .str (chs (p ++ [b])) begins = 0) then .bad else .go (p ++ [b])

theorem mhas_mem {κ : Ty} {x : κ.T} : ∀ {l : List (κ.T × Int)}, mhas κ x l = true → ∃ p ∈ l, mval κ x l = p.2
  | [], h => by simp [mhas, mget] at h
  | (y, v) :: r, h => by
    simp only [mhas, mget, mval] at h ⊢
    cases he : κ.eqB x y with
    | true => exact ⟨(y, v), List.mem_cons_self .., rfl⟩
    | false =>
      rw [he] at h
      obtain ⟨p, h1, h2⟩ := mhas_mem (l := r) h
      exact ⟨p, List.mem_cons_of_mem _ h1, h2⟩

theorem digit_slice (b : Bool) : (List.drop (Int.toNat ((b.toNat : Nat) : Int)) (List.take (Int.toNat (wr .i64 (((b.toNat : Nat) : Int) + 1))) ([48, 49] : List UInt8))) = chs [b] := by
  cases b <;> kernel_rfl

theorem Table_walk (k : Nat) {s : List UInt8} (hs : Small s) (hk : 32 < k) {a0 : Nat} (lng : Int) {syms begins : Syms} (rws : List (Int × Int)) {codes : List DReader} (hin : (syms.all fun x => inR x.2 codes.length) = true) :
    ∀ (rest p : List Bool) (n : Nat), bitsFrom s (a0 + p.length) = rest → a0 + p.length ≤ 8 * s.length → rest.length < n →
    prefix_Table_Take_int_2u1 k n 0 (a0 : Int) (chs p) lng syms rws begins (Rd s (a0 + p.length)) codes = some (match wlk (tabStep syms begins codes) p rest p.length with
      | .inr x => ((x.1, 0), (((), ((), ((), ((), (lng, ()))))), (syms, (rws, (begins, (Rd s (a0 + x.2), codes))))))
      | .inl e => ((0, (e : Int)), (((), ((), ((), ((), (lng, ()))))), (syms, (rws, (begins, (Rd s a0, codes)))))))
  | [], p, 0, hr, ha, hn => by simp at hn
  | [], p, n + 1, hr, ha, hn => by
    simp only [prefix_Table_Take_int_2u1, Take1 hs ha hk, hr, Option.bind_some, Seek_spec hs (show a0 ≤ 8 * s.length by omega), wlk]
    rfl
  | b :: r, p, 0, hr, ha, hn => by simp at hn
  | b :: r, p, n + 1, hr, ha, hn => by
    have hle : a0 + p.length < 8 * s.length := by
      have := congrArg List.length hr
      rw [bitsFrom_length] at this; simp at this; omega
    obtain ⟨hr1, ha1⟩ := bitsFrom_cons hr
    have hs' := hs
    unfold Small at hs'
    have e0 : decide ((0 : Int) ≤ ((b.toNat : Nat) : Int) ∧ ((b.toNat : Nat) : Int) ≤ (wr .i64 (((b.toNat : Nat) : Int) + 1)) ∧ (wr .i64 (((b.toNat : Nat) : Int) + 1)) ≤ ((2 : Nat) : Int)) = true := by cases b <;> kernel_rfl
    have e1 : decide (List.length (chs p) + List.length (chs [b]) ≤ strMax) = true := by
      simp only [chs_length, List.length_cons, List.length_nil, strMax]; simp; omega
    have hpb : (p ++ [b]).length = p.length + 1 := by simp
    simp only [prefix_Table_Take_int_2u1, Take1 hs ha hk, hr, Option.bind_some, decide_true, Bool.not_true, cond_false, e0, cond_true, digit_slice, e1, ← chs_append, wlk, tabStep]
    cases hm : mhas .str (chs (p ++ [b])) syms with
    | true =>
      obtain ⟨q, hq1, hq2⟩ := mhas_mem hm
      have h1 := List.all_eq_true.1 hin q hq1
      rw [← hq2] at h1
      simp only [cond_true, h1]
      rfl
    | false =>
      simp only [cond_false]
      cases hz : decide (mval .str (chs (p ++ [b])) begins = 0) with
      | true =>
        simp only [cond_true, Seek_spec hs (show a0 ≤ 8 * s.length by omega), Option.bind_some]
        rfl
      | false =>
        simp only [cond_false]
        have ih := Table_walk k hs hk (a0 := a0) lng (begins := begins) rws hin r (p ++ [b]) n (by rw [hpb]; exact hr1) (by rw [hpb]; exact ha1) (by simp at hn; omega)
        rw [hpb] at ih
        rw [show a0 + p.length + 1 = a0 + (p.length + 1) by omega, ih]
        rfl

theorem Table_spec {k : Nat} {s : List UInt8} (hs : Small s) (hk : 8 * s.length < k) (hk' : 32 < k) {a : Nat} (ha : a ≤ 8 * s.length) (lng : Int) {syms begins : Syms} (rws : List (Int × Int)) {codes : List DReader} (hin : (syms.all fun x => inR x.2 codes.length) = true) :
    prefix_Table_Take_int_2 k lng syms rws begins (Rd s a) codes = some (match wlk (tabStep syms begins codes) [] (bitsFrom s a) 0 with
      | .inr x => ((x.1, (0, ())), (((), ((), ((), ((), (lng, ()))))), (syms, (rws, (begins, (Rd s (a + x.2), codes))))))
      | .inl e => ((0, ((e : Int), ())), (((), ((), ((), ((), (lng, ()))))), (syms, (rws, (begins, (Rd s a, codes))))))) := by
  have h := Table_walk k hs hk' (a0 := a) lng (begins := begins) rws hin (bitsFrom s a) [] k rfl ha (by rw [bitsFrom_length]; omega)
  simp only [List.length_nil, Nat.add_zero] at h
  have hc : chs [] = [] := rfl
  rw [hc] at h
  simp only [prefix_Table_Take_int_2, prefix_Table_Take_int_2u0, Option.bind_some, cond_false, inbits_Reader_At, h]
  cases wlk (tabStep syms begins codes) [] (bitsFrom s a) 0 <;> rfl

/-! ### Kind and colours -/
noncomputable def rows6 (inter : Bool) : List (List UInt8) := ((overspillref06_rows 0 inter).getD []).filter fun r => !r.isEmpty
/-- What the page tells of a kind's code. -/
noncomputable def rdMcbpc (inter : Bool) (rest : List Bool) : Sum Nat ((Nat × Nat) × Nat) :=
  match wlk (rowStep (rows6 inter)) [] rest 0 with
  | .inl e => .inl e
  | .inr (i, m) => if (bif inter then i else i + 12) / 4 = 2 then .inl 6 else .inr (((bif inter then i else i + 12) / 4, (bif inter then i else i + 12) % 4), m)

abbrev TabT : Type := (Unit) × (((Unit) × ((Unit) × ((Unit) × ((Unit) × ((Int) × (Unit)))))) × ((List ((List UInt8) × Int)) × ((List ((Int) × Int)) × ((List ((List UInt8) × Int)) × (List (DReader))))))
/-- A table that reads as rows do: its walk over all beginnings is theirs. -/
def tabOk (rows : List (List UInt8)) (m : Nat → Int) (t : TabT) : Bool :=
  (t.2.2.1.all fun x => inR x.2 t.2.2.2.2.2.length) && okR (rowStep rows) (tabStep t.2.2.1 t.2.2.2.2.1 t.2.2.2.2.2) m ((nodesOf rows).map fun p => (p, p))
def symOf (inter : Bool) (i : Nat) : Int := (10 * ((bif inter then i else i + 12) / 4) + (bif inter then i else i + 12) % 4 : Nat)
theorem mcbpc_tab (k : Nat) (inter : Bool) : (match mcbpc_table (k + 300) inter with | some (.inr t) => tabOk (rows6 inter) (symOf inter) t | _ => false) = true := by
  cases inter <;> kernel_rfl
end Go.Proofs.YtlemoepklgfjoaaDoor
