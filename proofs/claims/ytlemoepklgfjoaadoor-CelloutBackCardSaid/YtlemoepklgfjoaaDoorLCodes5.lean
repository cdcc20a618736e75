/-
  Reading codes: an event: the program's reader tells what the page's does, further on.
-/
import Derived.Test.YtlemoepklgfjoaaDoorLCodes4
set_option maxRecDepth 100000
namespace Go.Proofs.YtlemoepklgfjoaaDoor
open Go Go.Av

def nums9 : List (Nat × Nat) := [(0, 0), (1, 0), (1, 1), (2, 0), (2, 1), (2, 3), (3, 0), (3, 1), (3, 2), (3, 3), (3, 7), (4, 0), (4, 1), (4, 2), (4, 3), (4, 4), (4, 5), (4, 6), (5, 0), (5, 1), (5, 2), (5, 3), (5, 4), (5, 5), (5, 6), (5, 7), (5, 8), (5, 9), (5, 10), (6, 0), (6, 1), (6, 2), (6, 3), (6, 4), (6, 5), (6, 6), (6, 7), (6, 8), (6, 9), (6, 10), (6, 11), (7, 0), (7, 1), (7, 2), (7, 4), (7, 5), (7, 6), (7, 7), (7, 8), (7, 9), (7, 10), (7, 11), (7, 12), (7, 13), (7, 14), (7, 15), (8, 0), (8, 1), (8, 2), (8, 3), (8, 4), (8, 5), (8, 8), (8, 9), (8, 10), (8, 11), (8, 12), (8, 13), (8, 14), (8, 15), (8, 16), (8, 17), (8, 18), (9, 1), (9, 2), (9, 3), (9, 4), (9, 5), (9, 6), (9, 7), (9, 8), (9, 9), (9, 10), (9, 11), (9, 16), (10, 2), (10, 3), (10, 16), (10, 17), (10, 18), (10, 19), (10, 20), (10, 21), (10, 22), (10, 23), (11, 40), (11, 41), (11, 42), (11, 43), (11, 44), (11, 45), (11, 46), (11, 47)]
def pairs9 : List (List Bool × (Nat × Nat)) := nums9.map fun x => (bitsN x.1 x.2, x)
/-- The program's reader of an event, bit by bit: how many bits so far and their number. -/
noncomputable def tcStep (k : Nat) : Nat × Nat → Bool → Vd (Nat × Nat) (Option DEvent)
  | (n, v), b => bif decide (n = 6) && decide (2 * v + b.toNat = 3) then .hit none else
    match tcoef_find (k + 200) ((2 * v + b.toNat : Nat) : Int) ((n + 1 : Nat) : Int) with
    | some (at_, (may, _)) => bif decide (0 ≤ at_) then (match tcoef_event (k + 200) at_ with | some ev => .hit (some ev) | none => .bad) else bif may then .go (n + 1, 2 * v + b.toNat) else .bad
    | none => .bad
noncomputable def evOf (i : Nat) : Option DEvent := bif decide (i = 0) then none else some (evAt i)
/-- What is asked of the states. -/
noncomputable def tcFine (k : Nat) (x : Nat × Nat) : Bool :=
  Nat.ble x.2 100000 && Nat.ble x.1 11 && [false, true].all fun b => match tcoef_find (k + 200) ((2 * x.2 + b.toNat : Nat) : Int) ((x.1 + 1 : Nat) : Int) with
    | some (at_, (may, _)) => bif decide (0 ≤ at_) then (tcoef_event (k + 200) at_).isSome else (!may || (nums9.any fun s => decide (s = (x.1 + 1, 2 * x.2 + b.toNat))) || (decide (x.1 = 6) && decide (2 * x.2 + b.toNat = 3)))
    | none => false
theorem tc_same (k : Nat) : okR (rowStep rows9) (tcStep k) evOf pairs9 = true := by kernel_rfl
theorem tc_fine (k : Nat) : nums9.all (tcFine k) = true := by kernel_rfl
theorem tc_start : ([], (0, 0)) ∈ pairs9 := List.mem_map.2 ⟨(0, 0), List.mem_cons_self .., rfl⟩
/-- All levels of the table are small. -/
theorem ev_small : (list9.2.all fun e => decide (0 ≤ e.2.1) && decide (e.2.1 ≤ 63) && decide (0 ≤ e.2.2.1) && decide (e.2.2.1 ≤ 12)) = true := by kernel_rfl
theorem evAt_small (i : Nat) : 0 ≤ (evAt i).2.1 ∧ (evAt i).2.1 ≤ 63 ∧ 0 ≤ (evAt i).2.2.1 ∧ (evAt i).2.2.1 ≤ 12 := by
  unfold evAt
  by_cases h : i < list9.2.length
  · have hm : list9.2.getD i (false, (0, (0, ()))) ∈ list9.2 := by
      rw [List.getD_eq_getElem?_getD, List.getElem?_eq_getElem h]; exact List.getElem_mem _
    have := List.all_eq_true.1 ev_small _ hm
    simp only [Bool.and_eq_true, decide_eq_true_eq] at this
    exact ⟨this.1.1.1, this.1.1.2, this.1.2, this.2⟩
  · rw [List.getD_eq_getElem?_getD, List.getElem?_eq_none (by omega)]
    exact ⟨Int.le_refl _, by decide, Int.le_refl _, by decide⟩

theorem tc_at (k : Nat) {n v : Nat} (hm : (n, v) ∈ nums9) (b : Bool) : v ≤ 100000 ∧ n ≤ 11 ∧ ∃ at_ may, tcoef_find (k + 200) ((2 * v + b.toNat : Nat) : Int) ((n + 1 : Nat) : Int) = some (at_, (may, ())) ∧
    (0 ≤ at_ → ∃ ev, tcoef_event (k + 200) at_ = some ev) ∧ (¬ 0 ≤ at_ → may = true → ¬ (n = 6 ∧ 2 * v + b.toNat = 3) → (n + 1, 2 * v + b.toNat) ∈ nums9) := by
  have hf := List.all_eq_true.1 (tc_fine k) _ hm
  simp only [tcFine, Bool.and_eq_true] at hf
  obtain ⟨⟨hv, hn⟩, hfd⟩ := hf
  have hb := List.all_eq_true.1 hfd b (by cases b <;> simp)
  refine ⟨Nat.le_of_ble_eq_true hv, Nat.le_of_ble_eq_true hn, ?_⟩
  split at hb
  case h_2 => cases hb
  rename_i at_ may u heq
  refine ⟨at_, may, heq, fun h => ?_, fun h h' h2 => ?_⟩
  · rw [decide_eq_true h] at hb
    exact Option.isSome_iff_exists.1 hb
  · rw [decide_eq_false h] at hb
    simp only [cond_false, Bool.or_eq_true, Bool.not_eq_true', Bool.and_eq_true, decide_eq_true_eq] at hb
    rcases hb with (h4 | h4) | h4
    · rw [h'] at h4; cases h4
    · obtain ⟨y, h5, h6⟩ := List.any_eq_true.1 h4
      have := of_decide_eq_true h6
      subst this; exact h5
    · exact absurd h4 h2

/-- What comes of a code that was found. -/
noncomputable def tcTail (c : Option DEvent) (r : List Bool) : Sum Nat (DEvent × Nat) :=
  match c with
  | none => (match escOf r with | .inl e => .inl e | .inr x => .inr (x, 15))
  | some ev => (match r with
    | [] => .inl 2
    | b :: _ => .inr ((ev.1, (ev.2.1, (wr .i64 (ev.2.2.1 * wr .i64 (1 - wr .i64 (2 * ((b.toNat : Nat) : Int)))), ev.2.2.2))), 1))
noncomputable def tcAll (step : Nat × Nat → Bool → Vd (Nat × Nat) (Option DEvent)) (st : Nat × Nat) (rest : List Bool) : Sum Nat (DEvent × Nat) :=
  match wlk step st rest 0 with
  | .inl e => .inl e
  | .inr (c, m) => (match tcTail c (rest.drop m) with | .inl e => .inl e | .inr x => .inr (x.1, m + x.2))

theorem wlk_shift {σ α : Type} {step : σ → Bool → Vd σ α} : ∀ (rest : List Bool) (s : σ) (n : Nat), wlk step s rest (n + 1) = (match wlk step s rest n with | .inl e => .inl e | .inr x => .inr (x.1, x.2 + 1))
  | [], s, n => rfl
  | b :: r, s, n => by
    simp only [wlk]
    cases step s b with
    | bad => rfl
    | hit a => rfl
    | go s' => exact wlk_shift r s' (n + 1)

theorem tc_walk (k : Nat) {s : List UInt8} (hs : Small s) : ∀ (rest : List Bool) (n v a fuel : Nat), bitsFrom s a = rest → a ≤ 8 * s.length → rest.length < fuel → (n, v) ∈ nums9 →
    ∃ rd : DReader, rd.1 = s ∧ (match tcAll (tcStep k) (n, v) rest with
      | .inr x => tcoef_readu1 (k + 200) fuel (v : Int) ((n + 1 : Nat) : Int) (Rd s a) (false, (0, (0, ()))) = some (.inl (0, (Rd s (a + x.2), x.1)))
      | .inl e => tcoef_readu1 (k + 200) fuel (v : Int) ((n + 1 : Nat) : Int) (Rd s a) (false, (0, (0, ()))) = some (.inl ((e : Int), (rd, (false, (0, (0, ())))))) ∧ e ≠ 0 ∨ (e = 3 ∧ tcoef_readu1 (k + 200) fuel (v : Int) ((n + 1 : Nat) : Int) (Rd s a) (false, (0, (0, ()))) = some (.inr ((), (rd, (false, (0, (0, ()))))))))
  | rest, n, v, a, 0, h1, h2, h3, h4 => by omega
  | [], n, v, a, fuel + 1, h1, h2, h3, h4 => by
    obtain ⟨hv, hn, _⟩ := tc_at k h4 false
    refine ⟨Rd s a, rfl, ?_⟩
    simp only [tcAll, wlk]
    left
    refine ⟨?_, by decide⟩
    simp only [tcoef_readu1, Take1 (k := k + 200) hs h2 (by omega), h1, Option.bind_some, show decide (((n + 1 : Nat) : Int) ≤ 12) = true by simp <;> omega, cond_true]
    rfl
  | b :: r, n, v, a, fuel + 1, h1, h2, h3, h4 => by
    obtain ⟨hv, hn, at_, may, hfd, hev, hgo⟩ := tc_at k h4 b
    have hs' := hs
    unfold Small at hs'
    obtain ⟨hr1, hle⟩ := bitsFrom_cons h1
    have e7 : decide (((n + 1 : Nat) : Int) = 7) = decide (n = 6) := by rw [decide_eq_decide]; omega
    have e3 : decide (((2 * v + b.toNat : Nat) : Int) = 3) = decide (2 * v + b.toNat = 3) := by rw [decide_eq_decide]; omega
    have e8 : (bif decide (n = 6) then some (decide (2 * v + b.toNat = 3)) else some false) = some (decide (n = 6) && decide (2 * v + b.toNat = 3)) := by cases decide (n = 6) <;> rfl
    simp only [tcoef_readu1, Take1 (k := k + 200) hs h2 (by omega), h1, Option.bind_some, show decide (((n + 1 : Nat) : Int) ≤ 12) = true by simp <;> omega, cond_true, decide_true, Bool.not_true, cond_false, num_step hv, tcoef_readu0, e7, e3, e8, tcAll, wlk, tcStep, hfd]
    cases hesc : (decide (n = 6) && decide (2 * v + b.toNat = 3)) with
    | true =>
      simp only [cond_true, tcTail, List.drop_succ_cons, List.drop_zero]
      obtain ⟨rd, hrd, he⟩ := escaped_spec k hs hle
      rw [hr1] at he
      refine ⟨rd, hrd, ?_⟩
      rw [he]
      cases hq : escOf r with
      | inl e =>
        left
        refine ⟨rfl, ?_⟩
        unfold escOf at hq
        split at hq
        · simp only [Sum.inl.injEq] at hq; omega
        · split at hq
          · simp only [Sum.inl.injEq] at hq; omega
          · cases hq
      | inr x =>
        simp only [Option.bind_some]
    | false =>
      have hesc' : ¬ (n = 6 ∧ 2 * v + b.toNat = 3) := by
        rintro ⟨h5, h6⟩
        rw [decide_eq_true h5, decide_eq_true h6] at hesc; cases hesc
      simp only [cond_false]
      cases hat : decide (0 ≤ at_) with
      | true =>
        obtain ⟨ev, hev⟩ := hev (of_decide_eq_true hat)
        simp only [cond_true, hev, Take1 (k := k + 200) hs hle (by omega), hr1, Option.bind_some, tcTail, List.drop_succ_cons, List.drop_zero]
        cases r with
        | nil => exact ⟨Rd s (a + 1), rfl, .inl ⟨rfl, by decide⟩⟩
        | cons b2 r2 => exact ⟨Rd s (a + 1), rfl, rfl⟩
      | false =>
        simp only [cond_false]
        cases may with
        | false => exact ⟨Rd s (a + 1), rfl, .inr ⟨rfl, rfl⟩⟩
        | true =>
          simp only [Bool.not_true, cond_false, cond_true]
          obtain ⟨rd, hrd, ih⟩ := tc_walk k hs r (n + 1) (2 * v + b.toNat) (a + 1) fuel hr1 hle (by simp at h3; omega) (hgo (of_decide_eq_false hat) rfl hesc')
          refine ⟨rd, hrd, ?_⟩
          rw [show wr .i64 (((n + 1 : Nat) : Int) + 1) = ((n + 1 + 1 : Nat) : Int) by rw [wr, wrap64 (by omega) (by omega)]; simp]
          rw [wlk_shift r (n + 1, 2 * v + b.toNat) 0]
          simp only [tcAll] at ih
          cases hw : wlk (tcStep k) (n + 1, 2 * v + b.toNat) r 0 with
          | inl e =>
            rw [hw] at ih
            rcases ih with ⟨ih, he⟩ | ⟨he, ih⟩
            · left; rw [ih]; exact ⟨rfl, he⟩
            · right; rw [ih]; exact ⟨he, rfl⟩
          | inr x =>
            obtain ⟨c, m⟩ := x
            rw [hw] at ih
            simp only [List.drop_succ_cons] at ih ⊢
            cases ht : tcTail c (r.drop m) with
            | inl e =>
              rw [ht] at ih
              rcases ih with ⟨ih, he⟩ | ⟨he, ih⟩
              · left; rw [ih]; exact ⟨rfl, he⟩
              · right; rw [ih]; exact ⟨he, rfl⟩
            | inr y =>
              rw [ht] at ih
              simp only at ih ⊢
              rw [ih, show a + 1 + (m + y.2) = a + (m + 1 + y.2) by omega]; rfl

theorem tc_rd (k : Nat) (rest : List Bool) : tcAll (tcStep k) (0, 0) rest = rdTcoef rest := by
  have hw := wlk_same (tc_same k) rest [] (0, 0) 0 tc_start
  simp only [tcAll, rdTcoef, hw]
  cases wlk (rowStep rows9) [] rest 0 with
  | inl e => rfl
  | inr x =>
    obtain ⟨i, m⟩ := x
    simp only [mapW, evOf]
    by_cases hi : i = 0
    · rw [if_pos hi, decide_eq_true hi]
      simp only [cond_true, tcTail]
      cases escOf (rest.drop m) <;> rfl
    · rw [if_neg hi, decide_eq_false hi]
      simp only [cond_false, tcTail]
      cases rest.drop m with
      | nil => rfl
      | cons b r =>
        obtain ⟨_, _, h1, h2⟩ := evAt_small i
        cases b with
        | true =>
          have : wr .i64 (1 - wr .i64 (2 * ((true.toNat : Nat) : Int))) = -1 := by kernel_rfl
          simp only [this, cond_true]
          rw [wr, wrap64 (by omega) (by omega), Int.mul_neg_one]
        | false =>
          have : wr .i64 (1 - wr .i64 (2 * ((false.toNat : Nat) : Int))) = 1 := by kernel_rfl
          simp only [this, cond_false]
          rw [wr, Int.mul_one, wrap64 (by omega) (by omega)]

theorem tcoef_spec {k : Nat} {s : List UInt8} (hs : Small s) (hk : 8 * s.length + 300 < k) {a : Nat} (ha : a ≤ 8 * s.length) :
    tcoef_Take k (Rd s a) = some (match rdTcoef (bitsFrom s a) with | .inr x => ((x.1, (0, ())), Rd s (a + x.2)) | .inl e => (((false, (0, (0, ()))), ((e : Int), ())), Rd s a)) := by
  obtain ⟨k', rfl⟩ : ∃ k', k = k' + 200 := ⟨k - 200, by omega⟩
  obtain ⟨rd, hrd, h⟩ := tc_walk k' hs (bitsFrom s a) 0 0 a (k' + 200) rfl ha (by rw [bitsFrom_length]; omega) (List.mem_cons_self ..)
  rw [tc_rd] at h
  simp only [tcoef_Take, inbits_Reader_At, Option.bind_some, tcoef_read]
  have hseek := Seek_any (k := k' + 200) hs (a : Int) rd hrd
  rw [if_pos (by omega)] at hseek
  cases hx : rdTcoef (bitsFrom s a) with
  | inr x =>
    rw [hx] at h
    have h' : tcoef_readu1 (k' + 200) (k' + 200) 0 1 (Rd s a) (false, (0, (0, ()))) = _ := h
    rw [h']; rfl
  | inl e =>
    rw [hx] at h
    rcases h with ⟨h, he⟩ | ⟨rfl, h⟩
    · have h' : tcoef_readu1 (k' + 200) (k' + 200) 0 1 (Rd s a) (false, (0, (0, ()))) = _ := h
      rw [h']
      simp only [Option.bind_some, Sum.elim_inl, show decide ((e : Int) = 0) = false by simp <;> omega, Bool.not_false, cond_true, hseek]
    · have h' : tcoef_readu1 (k' + 200) (k' + 200) 0 1 (Rd s a) (false, (0, (0, ()))) = _ := h
      rw [h']
      have e3 : decide ((3 : Int) = 0) = false := rfl
      simp only [Option.bind_some, Sum.elim_inr, e3, decide_false, Bool.not_false, cond_true, hseek]
      rfl
end Go.Proofs.YtlemoepklgfjoaaDoor
