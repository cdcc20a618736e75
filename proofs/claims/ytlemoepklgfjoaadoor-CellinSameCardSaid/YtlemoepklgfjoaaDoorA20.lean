/-
  A part of the abstract memory is worked on alone; the rest stays as it is.
-/
import Derived.Test.YtlemoepklgfjoaaDoorA19
namespace Go.Av

theorem alGet_append {α : Type} : ∀ (A B : List (Nat × α)) (i : Nat), alGet (A ++ B) i = (match alGet A i with | some v => some v | none => alGet B i)
  | [], _, _ => rfl
  | (k, v) :: r, B, i => by
    rw [List.cons_append, alGet_cons, alGet_cons]
    split
    · rfl
    · exact alGet_append r B i

theorem hget_app (A B : Hp) (i : Nat) : hget (A ++ B) i = (match alGet A i with | some v => v | none => hget B i) := by
  unfold hget
  rw [alGet_append]
  cases alGet A i <;> rfl

def ownOf (μ : Map) (H : Hp) (b : Nat) : Prop := ∃ i k l, hget H i = some k ∧ μ i = some l ∧ l.blk = some b

theorem Hold.part {c : Ctx} {M : Mem} {μ : Map} {H H' : Hp} {w : World} (h : Hold c M μ H w) (hs : ∀ i k, hget H' i = some k → hget H i = some k) : Hold ⟨w, ownOf μ H', M⟩ M μ H' w where
  mem := h.mem
  blks i k hk := h.blks i k (hs i k hk)
  inj i j k k' l l' b hi hj := h.inj i j k k' l l' b (hs i k hi) (hs j k' hj)
  exc i k l b o v hi := h.exc i k l b o v (hs i k hi)
  own i k l b hi hl hb := .inl ⟨i, k, l, hi, hl, hb⟩
  mle := Mem.le.refl _
  mown b o v hv := .inl hv
  os := rfl
  tape := rfl
  output := rfl
  size := Nat.le_refl _
  frame b hb hn := rfl
  fz a := rfl

theorem Hold.unpart {c : Ctx} {M M' : Mem} {μ μ' : Map} {H H' U : Hp} {w w' : World} (h : Hold c M μ H w) (hs : ∀ i k, hget H' i = some k → hget H i = some k) (hc : Hold ⟨w, ownOf μ H', M⟩ M' μ' (U ++ H') w') (hle : μ.le μ') : Hold c M' μ' (U ++ H) w' := by
  have key : ∀ {i k}, hget (U ++ H) i = some k → hget (U ++ H') i = some k ∨ (hget H i = some k ∧ hget H' i = none) := by
    intro i k hi
    rw [hget_app] at hi ⊢
    cases hu : alGet U i with
    | some x => rw [hu] at hi; exact .inl hi
    | none =>
      rw [hu] at hi
      cases h' : hget H' i with
      | none => exact .inr ⟨hi, rfl⟩
      | some k' =>
        have := hs i k' h'
        simp only at hi
        rw [this] at hi
        exact .inl hi
  have cmay : ∀ {b}, ownOf μ H' b ∨ w.heap.size ≤ b → c.may b := by
    rintro b (⟨i, k, l, h1, h2, h3⟩ | h1)
    · exact h.own i k l b (hs i k h1) h2 h3
    · exact .inr (Nat.le_trans h.size h1)
  have rest : ∀ {i k l b}, hget H i = some k → hget H' i = none → μ i = some l → l.blk = some b → ¬ (ownOf μ H' b ∨ w.heap.size ≤ b) := by
    rintro i k l b hi hn hl hb (⟨i', k', l', h1, h3, h4⟩ | h1)
    · have := h.inj i' i k' k l' l b (hs i' k' h1) hi h3 hl h4 hb
      subst this
      rw [hn] at h1; cases h1
    · obtain ⟨l1, h2, h3⟩ := h.blks i k hi
      rw [hl] at h2
      cases h2
      have := h3.lt hb
      omega
  have back : ∀ {i k l}, hget H i = some k → μ' i = some l → μ i = some l := by
    intro i k l h1 h2
    obtain ⟨l2, h3, _⟩ := h.blks i k h1
    rw [hle _ _ h3] at h2
    cases h2
    exact h3
  exact {
    mem := hc.mem
    blks := fun i k hi => by
      rcases key hi with h1 | ⟨h1, h2⟩
      · exact hc.blks i k h1
      · obtain ⟨l, h3, h4⟩ := h.blks i k h1
        refine ⟨l, hle i l h3, h4.mono hc.mle hle fun b hb => ?_⟩
        exact hc.frame b (h4.lt hb) (fun hx => rest h1 h2 h3 hb (.inl hx))
    inj := fun i i' k k' l l' b hi hi' hl hl' hb hb' => by
      rcases key hi with h1 | ⟨h1, h2⟩ <;> rcases key hi' with h1' | ⟨h1', h2'⟩
      · exact hc.inj i i' k k' l l' b h1 h1' hl hl' hb hb'
      · exact absurd (hc.own i k l b h1 hl hb) (rest h1' h2' (back h1' hl') hb')
      · exact absurd (hc.own i' k' l' b h1' hl' hb') (rest h1 h2 (back h1 hl) hb)
      · exact h.inj i i' k k' l l' b h1 h1' (back h1 hl) (back h1' hl') hb hb'
    exc := fun i k l b o v hi hl hb hv => by
      rcases key hi with h1 | ⟨h1, h2⟩
      · exact hc.exc i k l b o v h1 hl hb hv
      · rcases hc.mown b o v hv with h4 | h4
        · exact h.exc i k l b o v h1 (back h1 hl) hb h4
        · exact absurd h4 (rest h1 h2 (back h1 hl) hb)
    own := fun i k l b hi hl hb => by
      rcases key hi with h1 | ⟨h1, h2⟩
      · exact cmay (hc.own i k l b h1 hl hb)
      · exact h.own i k l b h1 (back h1 hl) hb
    mle := h.mle.trans hc.mle
    mown := fun b o v hv => by
      rcases hc.mown b o v hv with h4 | h4
      · exact h.mown b o v h4
      · exact .inr (cmay h4)
    fz := fun a => (hc.fz a).trans (h.fz a)
    os := hc.os.trans h.os
    tape := hc.tape.trans h.tape
    output := hc.output.trans h.output
    size := Nat.le_trans h.size hc.size
    frame := fun b hb hn => by
      have h1 : b < w.heap.size := Nat.lt_of_lt_of_le hb h.size
      rw [hc.frame b h1 (fun hx => ?_)]
      · exact h.frame b hb hn
      · rcases cmay (.inl hx) with h2 | h2
        · exact hn h2
        · omega }

end Go.Av
