/-
  The plain law of CellinSame: whether two cells are the same is what the page says; a cell is itself.
-/
import Derived.Test.YtlemoepklgfjoaaDoorOut
import Derived.Test.YtlemoepklgfjoaaDoorP1
import Derived.Test.YtlemoepklgfjoaaDoorA32
set_option maxRecDepth 100000
namespace Go.Proofs.YtlemoepklgfjoaaDoor
open Go Go.Av

theorem slices_Equal_loop (k : Nat) {a b : List DEvent} (hl : a.length = b.length) (hb : a.length ≤ 4611686018427387904) : ∀ (n i : Nat), i ≤ a.length → a.length < n + i →
    slices_Equal_Eventu0 k n a b (a.length : Int) (i : Int) = some (bif allEq (Ty.eqB YEvent) (a.drop i) (b.drop i) then .inr () else .inl false)
  | 0, i, h1, h2 => by omega
  | n + 1, i, h1, h2 => by
    simp only [slices_Equal_Eventu0]
    by_cases h : i < a.length
    · rw [allEq_drop (false, (0, (0, ()))) h (by omega)]
      simp only [inR_nat, Int.toNat_natCast, Int.ofNat_lt, h, hl ▸ h, decide_true, cond_true, wr]
      cases hq : Ty.eqB YEvent (a.getD i (false, (0, (0, ())))) (b.getD i (false, (0, (0, ())))) with
      | false => simp only [Bool.false_and, Bool.true_xor, Bool.not_false, cond_true, cond_false]
      | true =>
        have h3 := slices_Equal_loop k hl hb n (i + 1) h (by omega)
        rw [wrap64 (by omega) (by omega), show (i : Int) + 1 = ((i + 1 : Nat) : Int) by omega, h3]
        simp only [Bool.true_and, Bool.true_xor, Bool.not_true, cond_false, Option.bind_some]
        cases allEq (Ty.eqB YEvent) (a.drop (i + 1)) (b.drop (i + 1)) <;> rfl
    · have : i = a.length := by omega
      subst this
      have e1 : a.drop a.length = [] := List.drop_length
      have e2 : b.drop a.length = [] := by rw [hl]; exact List.drop_length
      simp [e1, e2, allEq]

theorem slices_Equal_spec {k : Nat} {a b : List DEvent} (hb : a.length ≤ 4611686018427387904) (hk : a.length < k) : slices_Equal_Event k a b = some (allEq (Ty.eqB YEvent) a b) := by
  simp only [slices_Equal_Event]
  by_cases h : a.length = b.length
  · have : slices_Equal_Eventu0 k k a b (a.length : Int) 0 = _ := slices_Equal_loop k h hb k 0 (Nat.zero_le _) (by omega)
    rw [this]
    simp only [h, decide_true, Bool.not_true, cond_false, List.drop_zero, Option.bind_some]
    cases allEq (Ty.eqB YEvent) a b <;> rfl
  · have : allEq (Ty.eqB YEvent) a b = false := by
      cases hq : allEq (Ty.eqB YEvent) a b with
      | false => rfl
      | true => exact absurd (allEq_length hq) h
    rw [this]
    have h1 : decide (((a.length : Nat) : Int) = ((b.length : Nat) : Int)) = false := by simp; omega
    rw [h1]; rfl

theorem ref10_Same_loop (k : Nat) {a b : List DEvent} (hl : a.length = b.length) (hb : a.length ≤ 4611686018427387904) : ∀ (n i : Nat), i ≤ a.length → a.length < n + i →
    overspillref10_Sameu0 k n a b (i : Int) = some (bif allEq (Ty.eqB YEvent) (a.drop i) (b.drop i) then .inr () else .inl false)
  | 0, i, h1, h2 => by omega
  | n + 1, i, h1, h2 => by
    simp only [overspillref10_Sameu0]
    by_cases h : i < a.length
    · rw [allEq_drop (false, (0, (0, ()))) h (by omega)]
      simp only [inR_nat, Int.toNat_natCast, Int.ofNat_lt, h, hl ▸ h, decide_true, cond_true, wr]
      cases hq : Ty.eqB YEvent (a.getD i (false, (0, (0, ())))) (b.getD i (false, (0, (0, ())))) with
      | false => simp only [Bool.false_and, Bool.true_xor, Bool.not_false, cond_true, cond_false]
      | true =>
        have h3 := ref10_Same_loop k hl hb n (i + 1) h (by omega)
        rw [wrap64 (by omega) (by omega), show (i : Int) + 1 = ((i + 1 : Nat) : Int) by omega, h3]
        simp only [Bool.true_and, Bool.true_xor, Bool.not_true, cond_false, Option.bind_some]
        cases allEq (Ty.eqB YEvent) (a.drop (i + 1)) (b.drop (i + 1)) <;> rfl
    · have : i = a.length := by omega
      subst this
      have e1 : a.drop a.length = [] := List.drop_length
      have e2 : b.drop a.length = [] := by rw [hl]; exact List.drop_length
      simp [e1, e2, allEq]

theorem ref10_Same_spec {k : Nat} {a b : List DEvent} (hb : a.length ≤ 4611686018427387904) (hk : a.length < k) : overspillref10_Same k a b = some (allEq (Ty.eqB YEvent) a b) := by
  simp only [overspillref10_Same]
  by_cases h : a.length = b.length
  · have : overspillref10_Sameu0 k k a b 0 = _ := ref10_Same_loop k h hb k 0 (Nat.zero_le _) (by omega)
    rw [this]
    simp only [h, decide_true, Bool.not_true, cond_false, List.drop_zero, Option.bind_some]
    cases allEq (Ty.eqB YEvent) a b <;> rfl
  · have : allEq (Ty.eqB YEvent) a b = false := by
      cases hq : allEq (Ty.eqB YEvent) a b with
      | false => rfl
      | true => exact absurd (allEq_length hq) h
    rw [this]
    have h1 : decide (((a.length : Nat) : Int) = ((b.length : Nat) : Int)) = false := by simp; omega
    rw [h1]; rfl

/-- A cell's events. -/
abbrev evsOf (c : DCell) : List (List DEvent) := c.2.2.2.2.2.2.1

abbrev headEq (a b : DCell) : Bool :=
  decide (a.1 = b.1) && ((a.2.1 == b.2.1) && (decide (a.2.2.1 = b.2.2.1) && (decide (a.2.2.2.1 = b.2.2.2.1) && (Ty.eqB (.arr 2 (.int .i64)) a.2.2.2.2.1 b.2.2.2.2.1 && Ty.eqB (.arr 6 (.int .i64)) a.2.2.2.2.2.1 b.2.2.2.2.2.1))))

theorem cellin_Same_head (k : Nat) (a b : DCell) : cellin_Sameu0 k a b = some (headEq a b, (a, b)) := by
  simp only [cellin_Sameu0, headEq, Bool.false_xor]
  cases decide (a.1 = b.1) <;> cases (a.2.1 == b.2.1) <;> cases decide (a.2.2.1 = b.2.2.1) <;> cases decide (a.2.2.2.1 = b.2.2.2.1) <;> cases Ty.eqB (.arr 2 (.int .i64)) a.2.2.2.2.1 b.2.2.2.2.1 <;> rfl

theorem ref21_Same_head (k : Nat) (a b : DCell) : overspillref21_Sameu0 k a b = some (!headEq a b, (a, b)) := by
  simp only [overspillref21_Sameu0, headEq, Bool.true_xor]
  cases decide (a.1 = b.1) <;> cases (a.2.1 == b.2.1) <;> cases decide (a.2.2.1 = b.2.2.1) <;> cases decide (a.2.2.2.1 = b.2.2.2.1) <;> cases Ty.eqB (.arr 2 (.int .i64)) a.2.2.2.2.1 b.2.2.2.2.1 <;> rfl

/-- Few events everywhere. -/
def Few (n : Nat) (c : DCell) : Prop := (evsOf c).length = 6 ∧ ∀ i, ((evsOf c).getD i []).length ≤ n

theorem cellin_Same_loop {k m : Nat} (hm : m ≤ 4611686018427387904) (hk : m < k) {a b : DCell} (ha : Few m a) (hb : Few m b) : ∀ (n i : Nat) (x : Bool), i ≤ 6 → 6 < n + i →
    cellin_Sameu1 k n x (i : Int) a b = some (x && allEq (allEq (Ty.eqB YEvent)) ((evsOf a).drop i) ((evsOf b).drop i), (a, b))
  | 0, i, x, h1, h2 => by omega
  | n + 1, i, x, h1, h2 => by
    simp only [cellin_Sameu1]
    by_cases h : i < 6
    · have h3 := fun y => cellin_Same_loop hm hk ha hb n (i + 1) y h (by omega)
      have h6 : decide ((i : Int) < 6) = true := by simp; omega
      rw [wr, wrap64 (by omega) (by omega), show (i : Int) + 1 = ((i + 1 : Nat) : Int) by omega]
      rw [h6, allEq_drop [] (by rw [ha.1]; exact h) (by rw [hb.1]; exact h)]
      simp only [inR_nat, h, decide_true, cond_true, h3, Int.toNat_natCast, Option.bind_some]
      rw [slices_Equal_spec (Nat.le_trans (ha.2 i) hm) (Nat.lt_of_le_of_lt (ha.2 i) hk)]
      cases x
      · rfl
      · simp only [cond_true, Option.bind_some, h3, Bool.true_and]
    · have : i = 6 := by omega
      subst this
      have e1 : (evsOf a).drop 6 = [] := by apply List.drop_eq_nil_of_le; rw [ha.1]; exact Nat.le_refl _
      have e2 : (evsOf b).drop 6 = [] := by apply List.drop_eq_nil_of_le; rw [hb.1]; exact Nat.le_refl _
      rw [e1, e2]
      simp [allEq]

theorem cellin_Same_spec {k m : Nat} (hm : m ≤ 4611686018427387904) (hk : m < k) (h6 : 6 < k) {a b : DCell} (ha : Few m a) (hb : Few m b) : cellin_Same k a b = some (headEq a b && allEq (allEq (Ty.eqB YEvent)) (evsOf a) (evsOf b)) := by
  simp only [cellin_Same, cellin_Same_head, Option.bind_some]
  have : cellin_Sameu1 k k (headEq a b) 0 a b = _ := cellin_Same_loop hm hk ha hb k 0 (headEq a b) (by omega) (by omega)
  rw [this]; rfl

theorem ref21_Same_loop {k m : Nat} (hm : m ≤ 4611686018427387904) (hk : m < k) {a b : DCell} (ha : Few m a) (hb : Few m b) : ∀ (n i : Nat), i ≤ 6 → 6 < n + i →
    overspillref21_Sameu1 k n (i : Int) a b = some (bif allEq (allEq (Ty.eqB YEvent)) ((evsOf a).drop i) ((evsOf b).drop i) then .inr ((), (a, b)) else .inl (false, (a, b)))
  | 0, i, h1, h2 => by omega
  | n + 1, i, h1, h2 => by
    simp only [overspillref21_Sameu1]
    by_cases h : i < 6
    · have h3 := ref21_Same_loop hm hk ha hb n (i + 1) h (by omega)
      have h6 : decide ((i : Int) < 6) = true := by simp; omega
      rw [wr, wrap64 (by omega) (by omega), show (i : Int) + 1 = ((i + 1 : Nat) : Int) by omega]
      rw [h6, allEq_drop [] (by rw [ha.1]; exact h) (by rw [hb.1]; exact h)]
      simp only [inR_nat, h, decide_true, cond_true, h3, Int.toNat_natCast]
      rw [ref10_Same_spec (Nat.le_trans (ha.2 i) hm) (Nat.lt_of_le_of_lt (ha.2 i) hk)]
      simp only [Option.bind_some]
      cases allEq (Ty.eqB YEvent) ((evsOf a).getD i []) ((evsOf b).getD i [])
      · rfl
      · simp only [Bool.not_true, cond_false, Bool.true_and]
        cases allEq (allEq (Ty.eqB YEvent)) ((evsOf a).drop (i + 1)) ((evsOf b).drop (i + 1)) <;> rfl
    · have : i = 6 := by omega
      subst this
      have e1 : (evsOf a).drop 6 = [] := by apply List.drop_eq_nil_of_le; rw [ha.1]; exact Nat.le_refl _
      have e2 : (evsOf b).drop 6 = [] := by apply List.drop_eq_nil_of_le; rw [hb.1]; exact Nat.le_refl _
      rw [e1, e2]
      simp [allEq]

theorem ref21_Same_spec {k m : Nat} (hm : m ≤ 4611686018427387904) (hk : m < k) (h6 : 6 < k) {a b : DCell} (ha : Few m a) (hb : Few m b) : overspillref21_Same k a b = some (headEq a b && allEq (allEq (Ty.eqB YEvent)) (evsOf a) (evsOf b)) := by
  simp only [overspillref21_Same, ref21_Same_head, Option.bind_some]
  have : overspillref21_Sameu1 k k 0 a b = _ := ref21_Same_loop hm hk ha hb k 0 (by omega) (by omega)
  rw [List.drop_zero, List.drop_zero] at this
  rw [this]
  cases headEq a b
  · rfl
  · simp only [Bool.not_true, cond_false, Option.bind_some, Bool.true_and]
    cases allEq (allEq (Ty.eqB YEvent)) (evsOf a) (evsOf b) <;> rfl

theorem same_refl (a : DCell) : (headEq a a && allEq (allEq (Ty.eqB YEvent)) (evsOf a) (evsOf a)) = true := by
  have h1 := eqB_refl (τ := .arr 2 (.int .i64)) a.2.2.2.2.1 rfl
  have h2 := eqB_refl (τ := .arr 6 (.int .i64)) a.2.2.2.2.2.1 rfl
  have h3 : allEq (allEq (Ty.eqB YEvent)) (evsOf a) (evsOf a) = true := allEq_refl (fun l => allEq_refl (fun x => eqB_refl (τ := YEvent) x rfl) l) _
  simp only [headEq, h1, h2, h3, decide_true, beq_self_eq_true, Bool.and_self]

theorem lives_same (k : Nat) : overspilllaw21_lives (k + 200) = some true := by kernel_rfl

/-- The guard: it answers at once, or all is light. -/
theorem same_guard (k : Nat) {a b : DCell} (ha : (evsOf a).length = 6) (hb : (evsOf b).length = 6) : ∀ (n i : Nat), i ≤ 6 → 6 < n + i → (∀ j, j < i → ((evsOf a).getD j []).length ≤ 100 ∧ ((evsOf b).getD j []).length ≤ 100) →
    overspilllaw21_CellinSameu1 (k + 200) n (i : Int) a b = some (.inl (true, (a, b))) ∨ (overspilllaw21_CellinSameu1 (k + 200) n (i : Int) a b = some (.inr ((), (a, b))) ∧ Few 100 a ∧ Few 100 b)
  | 0, i, h1, h2, h3 => by omega
  | n + 1, i, h1, h2, h3 => by
    simp only [overspilllaw21_CellinSameu1]
    by_cases h : i < 6
    · have h6 : decide ((i : Int) < 6) = true := by simp; omega
      have hu : overspilllaw21_CellinSameu0 (k + 200) (i : Int) a b = some (decide (100 < ((evsOf a).getD i []).length) || decide (100 < ((evsOf b).getD i []).length), (a, b)) := by
        simp only [overspilllaw21_CellinSameu0, inR_nat, h, decide_true, cond_true, Int.toNat_natCast]
        have e : ∀ l : List DEvent, decide ((100 : Int) < ((l.length : Nat) : Int)) = decide (100 < l.length) := fun l => by
          rw [decide_eq_decide]; omega
        rw [e, e]
        cases decide (100 < ((evsOf a).getD i []).length) <;> rfl
      rw [hu, h6]
      simp only [cond_true, Option.bind_some]
      cases hq : (decide (100 < ((evsOf a).getD i []).length) || decide (100 < ((evsOf b).getD i []).length)) with
      | true =>
        left
        simp only [cond_true, lives_same, Option.bind_some]
      | false =>
        simp only [Bool.or_eq_false_iff, decide_eq_false_iff_not, Nat.not_lt] at hq
        simp only [cond_false]
        rw [wr, wrap64 (by omega) (by omega), show (i : Int) + 1 = ((i + 1 : Nat) : Int) by omega]
        rcases same_guard k ha hb n (i + 1) h (by omega) (fun j hj => by
          by_cases e : j = i
          · subst e; exact hq
          · exact h3 j (by omega)) with h4 | ⟨h4, h5⟩
        · left; rw [h4]; rfl
        · right; rw [h4]; exact ⟨rfl, h5⟩
    · have : i = 6 := by omega
      subst this
      right
      refine ⟨rfl, ⟨ha, fun j => ?_⟩, ⟨hb, fun j => ?_⟩⟩
      · by_cases e : j < 6
        · exact (h3 j e).1
        · rw [List.getD_eq_getElem?_getD, List.getElem?_eq_none (by rw [ha]; omega)]; simp
      · by_cases e : j < 6
        · exact (h3 j e).2
        · rw [List.getD_eq_getElem?_getD, List.getElem?_eq_none (by rw [hb]; omega)]; simp

theorem plain_CellinSame (a b : DCell) (ha : wfT YCell a) (hb : wfT YCell b) : ∃ k, overspilllaw21_CellinSame k a b = some true := by
  have la : (evsOf a).length = 6 := ha.2.2.2.2.2.2.1.1
  have lb : (evsOf b).length = 6 := hb.2.2.2.2.2.2.1.1
  refine ⟨800 + 200, ?_⟩
  simp only [overspilllaw21_CellinSame]
  rcases same_guard 800 la lb (800 + 200) 0 (by omega) (by omega) (fun j hj => by omega) with h | ⟨h, fa, fb⟩ <;> rw [cast0] at h <;> rw [h]
  · rfl
  · simp only [Option.bind_some, Sum.elim_inr, cellin_Same_spec (m := 100) (k := 800 + 200) (by omega) (by omega) (by omega) fa fb, ref21_Same_spec (m := 100) (k := 800 + 200) (by omega) (by omega) (by omega) fa fb, cellin_Same_spec (m := 100) (k := 800 + 200) (by omega) (by omega) (by omega) fa fa,
      cellin_Same_spec (m := 100) (k := 800 + 200) (by omega) (by omega) (by omega) fb fb, lives_same, beq_self_eq_true, Bool.false_xor, cond_true]
    rw [same_refl a, same_refl b]; rfl
end Go.Proofs.YtlemoepklgfjoaaDoor
