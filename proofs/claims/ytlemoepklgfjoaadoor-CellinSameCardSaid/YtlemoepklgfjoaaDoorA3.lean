/-
  The abstract memory beside the machine's: what holds between them, and how each step keeps it.
-/
import Derived.Test.YtlemoepklgfjoaaDoorA2
namespace Go.Av
open Go.RowKit (Below)

def alGet {α : Type} : List (Nat × α) → Nat → Option α
  | [], _ => none
  | (k, v) :: r, i => bif Nat.beq k i then some v else alGet r i

abbrev Hp := List (Nat × Option Blk)

def hget (H : Hp) (i : Nat) : Option Blk :=
  match alGet H i with
  | some b => b
  | none => none

theorem alGet_cons {α : Type} (k : Nat) (v : α) (r : List (Nat × α)) (i : Nat) : alGet ((k, v) :: r) i = if k = i then some v else alGet r i := by
  simp only [alGet]
  by_cases h : k = i
  · subst h; simp
  · rw [if_neg h]
    have : Nat.beq k i = false := by
      cases hb : Nat.beq k i with
      | false => rfl
      | true => exact absurd (Nat.eq_of_beq_eq_true hb) h
    rw [this]; rfl

theorem hget_cons (k : Nat) (x : Option Blk) (H : Hp) (i : Nat) : hget ((k, x) :: H) i = if k = i then x else hget H i := by
  simp only [hget, alGet_cons]
  by_cases h : k = i
  · rw [if_pos h, if_pos h]
  · rw [if_neg h, if_neg h]

theorem hget_append (H1 H2 : Hp) (i : Nat) (h : alGet H1 i = none) : hget (H1 ++ H2) i = hget H2 i := by
  induction H1 with
  | nil => rfl
  | cons p r ih =>
    obtain ⟨k, v⟩ := p
    rw [alGet_cons] at h
    split at h
    · cases h
    · rename_i hk
      rw [List.cons_append, hget_cons, if_neg hk]
      exact ih h

/-- A block of the abstract memory, at its place. -/
def BR (M : Mem) (μ : Map) (w : World) : Loc → Blk → Prop
  | .box b, .box v => ∃ cs T, w.heap[b]? = some (.cells cs T (0, 0)) ∧ AVC M μ v cs.toList
  | .row none len cap, .row _ xs _ => xs = [] ∧ len = 0 ∧ cap = 0
  | .row (some b) len cap, .row e xs _ => ∃ cs T, w.heap[b]? = some (.cells cs T (0, 0)) ∧ xs.length = len ∧ len ≤ cap ∧ cap ≤ maxLen ∧ cs.size = cap * e.n ∧ oneC cs.toList ∧ RowC (TC M e) xs (cs.toList.take (len * e.n))
  | .obj b, .iter s pos => w.heap[b]? = some (.stringIter ⟨s.toArray⟩ pos)
  | .obj b, .mp κ l => w.heap[b]? = some (.map (mEnts κ 0 l).toArray l.length)
  | _, _ => False

theorem BR.mono {M M' : Mem} {μ μ' : Map} {w w' : World} (hM : M.le M') (hμ : μ.le μ') {l : Loc} {k : Blk} (hw : ∀ b, l.blk = some b → w'.heap[b]? = w.heap[b]?) (h : BR M μ w l k) : BR M' μ' w' l k := by
  cases l with
  | box b =>
    cases k with
    | box v =>
      obtain ⟨cs, T, h1, h2⟩ := h
      exact ⟨cs, T, by rw [hw b rfl]; exact h1, h2.mono hM hμ⟩
    | _ => exact h.elim
  | row b len cap =>
    cases b with
    | none =>
      cases k with
      | row e xs fz => exact h
      | _ => exact h.elim
    | some b =>
      cases k with
      | row e xs fz =>
        obtain ⟨cs, T, h1, h2, h3, h4, h5, h6, h7⟩ := h
        exact ⟨cs, T, by rw [hw b rfl]; exact h1, h2, h3, h4, h5, h6, h7.mono fun _ _ h => TC.mono hM h⟩
      | _ => exact h.elim
  | obj b =>
    cases k with
    | iter s pos =>
      simp only [BR] at h ⊢
      rw [hw b rfl]; exact h
    | mp κ l =>
      simp only [BR] at h ⊢
      rw [hw b rfl]; exact h
    | _ => exact h.elim

theorem BR.lt {M : Mem} {μ : Map} {w : World} {l : Loc} {k : Blk} (h : BR M μ w l k) {b : Nat} (hb : l.blk = some b) : b < w.heap.size := by
  cases l with
  | box b' =>
    simp only [Loc.blk, Option.some.injEq] at hb
    subst hb
    cases k with
    | box v =>
      obtain ⟨cs, T, h1, _⟩ := h
      exact (Array.getElem?_eq_some_iff.1 h1).1
    | _ => exact h.elim
  | row b' len cap =>
    simp only [Loc.blk] at hb
    subst hb
    cases k with
    | row e xs fz =>
      obtain ⟨cs, T, h1, _⟩ := h
      exact (Array.getElem?_eq_some_iff.1 h1).1
    | _ => exact h.elim
  | obj b' =>
    simp only [Loc.blk, Option.some.injEq] at hb
    subst hb
    cases k with
    | iter s pos => exact (Array.getElem?_eq_some_iff.1 h).1
    | mp κ l => exact (Array.getElem?_eq_some_iff.1 h).1
    | _ => exact h.elim

/-- Where the run stands that is spoken of: the world at its begin, the blocks that it may write, the memory that was still then. -/
structure Ctx where
  w0 : World
  own : Nat → Prop
  M0 : Mem

def Ctx.may (c : Ctx) (b : Nat) : Prop := c.own b ∨ c.w0.heap.size ≤ b

structure Hold (c : Ctx) (M : Mem) (μ : Map) (H : Hp) (w : World) : Prop where
  mem : ∀ b o v, M b o = some v → w.cell? ⟨b, o, none⟩ = some v
  blks : ∀ i k, hget H i = some k → ∃ l, μ i = some l ∧ BR M μ w l k
  inj : ∀ i j k k' l l' b, hget H i = some k → hget H j = some k' → μ i = some l → μ j = some l' → l.blk = some b → l'.blk = some b → i = j
  exc : ∀ i k l b o v, hget H i = some k → μ i = some l → l.blk = some b → M b o = some v → ∃ e xs, k = .row e xs true ∧ o < xs.length * e.n
  own : ∀ i k l b, hget H i = some k → μ i = some l → l.blk = some b → c.may b
  mle : c.M0.le M
  mown : ∀ b o v, M b o = some v → c.M0 b o = some v ∨ c.may b
  os : w.os = c.w0.os
  tape : w.tape = c.w0.tape
  output : w.output = c.w0.output
  size : c.w0.heap.size ≤ w.heap.size
  frame : ∀ b, b < c.w0.heap.size → ¬ c.own b → w.heap[b]? = c.w0.heap[b]?
  fz : ∀ a, w.frozen? a = c.w0.frozen? a

theorem cell_heap {w w' : World} {b o : Nat} (h : w'.heap[b]? = w.heap[b]?) : w'.cell? ⟨b, o, none⟩ = w.cell? ⟨b, o, none⟩ := by
  simp [World.cell?, h]

/-- A world with the same blocks below the old size, and more. -/
structure Grows (w w' : World) : Prop where
  os : w'.os = w.os
  tape : w'.tape = w.tape
  output : w'.output = w.output
  size : w.heap.size ≤ w'.heap.size
  old : ∀ b, b < w.heap.size → w'.heap[b]? = w.heap[b]?
  fz : ∀ a, w'.frozen? a = w.frozen? a

theorem Grows.refl (w : World) : Grows w w := ⟨rfl, rfl, rfl, Nat.le_refl _, fun _ _ => rfl, fun _ => rfl⟩
theorem Grows.drew {w w' : World} (h : Grows w w') : Grows w w'.drew := ⟨h.os, h.tape, h.output, h.size, h.old, h.fz⟩
theorem Grows.alloc {w w' : World} (h : Grows w w') (o : Obj) (ho : ∀ cs T fr, o = .cells cs T fr → fr = (0, 0)) : Grows w (w'.alloc o) :=
  ⟨h.os, h.tape, h.output, by simp; have := h.size; omega, fun b hb => by
    rw [← h.old b hb]
    show (w'.heap.push o)[b]? = _
    rw [Array.getElem?_push, if_neg (by have := h.size; omega)], fun a => by
    rw [← h.fz a]
    unfold World.frozen?
    show (match (w'.heap.push o)[a.block]? with
      | some (.cells _ _ (lo, hi)) => decide (lo ≤ a.off) && decide (a.off < hi)
      | _ => false) = _
    rw [Array.getElem?_push]
    by_cases e : a.block = w'.heap.size
    · rw [if_pos e, e]
      rw [Array.getElem?_eq_none (Nat.le_refl _)]
      cases o with
      | cells cs T fr => rw [ho cs T fr rfl]; simp
      | _ => rfl
    · rw [if_neg e]; rfl⟩

theorem Hold.grow {c : Ctx} {M : Mem} {μ : Map} {H : Hp} {w w' : World} (h : Hold c M μ H w) (hg : Grows w w') : Hold c M μ H w' where
  mem b o v hv := by
    have h1 := h.mem b o v hv
    rw [cell_heap (hg.old b (World.block_lt_of_cell? w _ h1))]
    exact h1
  blks i k hk := by
    obtain ⟨l, hl, hb⟩ := h.blks i k hk
    exact ⟨l, hl, hb.mono (Mem.le.refl _) (Map.le.refl _) fun b hb' => hg.old b (hb.lt hb')⟩
  inj := h.inj
  exc := h.exc
  own := h.own
  mle := h.mle
  mown := h.mown
  os := hg.os.trans h.os
  tape := hg.tape.trans h.tape
  output := hg.output.trans h.output
  size := Nat.le_trans h.size hg.size
  frame b hb hn := (hg.old b (Nat.lt_of_lt_of_le hb h.size)).trans (h.frame b hb hn)
  fz a := (hg.fz a).trans (h.fz a)

/-- What is known of the blocks of the map alone: it may say more of other numbers. -/
theorem Hold.map {c : Ctx} {M : Mem} {μ μ' : Map} {H : Hp} {w : World} (h : Hold c M μ H w) (hμ : μ.le μ') : Hold c M μ' H w where
  mem := h.mem
  blks i k hk := by
    obtain ⟨l, hl, hb⟩ := h.blks i k hk
    exact ⟨l, hμ _ _ hl, hb.mono (Mem.le.refl _) hμ fun _ _ => rfl⟩
  inj i j k k' l l' b hi hj hl hl' hb hb' := by
    obtain ⟨l1, h1, _⟩ := h.blks i k hi
    obtain ⟨l2, h2, _⟩ := h.blks j k' hj
    obtain rfl : l1 = l := Option.some.inj ((hμ _ _ h1).symm.trans hl)
    obtain rfl : l2 = l' := Option.some.inj ((hμ _ _ h2).symm.trans hl')
    exact h.inj i j k k' _ _ b hi hj h1 h2 hb hb'
  exc i k l b o v hi hl hb hv := by
    obtain ⟨l1, h1, _⟩ := h.blks i k hi
    obtain rfl : l1 = l := Option.some.inj ((hμ _ _ h1).symm.trans hl)
    exact h.exc i k _ b o v hi h1 hb hv
  own i k l b hi hl hb := by
    obtain ⟨l1, h1, _⟩ := h.blks i k hi
    obtain rfl : l1 = l := Option.some.inj ((hμ _ _ h1).symm.trans hl)
    exact h.own i k _ b hi h1 hb
  mle := h.mle
  mown := h.mown
  os := h.os
  tape := h.tape
  output := h.output
  size := h.size
  frame := h.frame
  fz := h.fz

theorem Hold.drop {c : Ctx} {M : Mem} {μ : Map} {H : Hp} {w : World} (h : Hold c M μ H w) (i : Nat) : Hold c M μ ((i, none) :: H) w := by
  have key : ∀ {j k}, hget ((i, none) :: H) j = some k → hget H j = some k := by
    intro j k hj
    rw [hget_cons] at hj
    split at hj
    · cases hj
    · exact hj
  exact { h with
    blks := fun j k hk => h.blks j k (key hk)
    inj := fun j j' k k' l l' b hj hj' => h.inj j j' k k' l l' b (key hj) (key hj')
    exc := fun j k l b o v hj => h.exc j k l b o v (key hj)
    own := fun j k l b hj => h.own j k l b (key hj) }

/-- Any part of the abstract memory may be forgotten. -/
theorem Hold.sub {c : Ctx} {M : Mem} {μ : Map} {H H' : Hp} {w : World} (h : Hold c M μ H w) (hs : ∀ i k, hget H' i = some k → hget H i = some k) : Hold c M μ H' w :=
  { h with
    blks := fun j k hk => h.blks j k (hs j k hk)
    inj := fun j j' k k' l l' b hj hj' => h.inj j j' k k' l l' b (hs j k hj) (hs j' k' hj')
    exc := fun j k l b o v hj => h.exc j k l b o v (hs j k hj)
    own := fun j k l b hj => h.own j k l b (hs j k hj) }

def Map.ins (μ : Map) (i : Nat) (l : Loc) : Map := fun j => if j = i then some l else μ j
theorem Map.ins_same (μ : Map) (i : Nat) (l : Loc) : μ.ins i l i = some l := by simp [Map.ins]
theorem Map.ins_other (μ : Map) (i : Nat) (l : Loc) {j : Nat} (h : j ≠ i) : μ.ins i l j = μ j := by simp [Map.ins, h]
theorem Map.le_ins {μ : Map} {i : Nat} {l : Loc} (h : μ i = none) : μ.le (μ.ins i l) := fun j l' hj => by
  by_cases e : j = i
  · subst e; rw [h] at hj; cases hj
  · rw [Map.ins_other _ _ _ e]; exact hj

/-- A new number, at a place that none of the others has. -/
theorem Hold.add {c : Ctx} {M : Mem} {μ : Map} {H : Hp} {w : World} (h : Hold c M μ H w) {i : Nat} {l : Loc} {k : Blk} (hi : μ i = none) (hb : BR M (μ.ins i l) w l k)
    (hn : ∀ b, l.blk = some b → (∀ j k' l', hget H j = some k' → μ j = some l' → l'.blk ≠ some b) ∧ c.may b ∧ ∀ o v, M b o = some v → ∃ e xs, k = .row e xs true ∧ o < xs.length * e.n) :
    Hold c M (μ.ins i l) ((i, some k) :: H) w := by
  have h' := h.map (Map.le_ins (l := l) hi)
  have hne : ∀ j k', hget H j = some k' → j ≠ i := fun j k' hj e => by
    subst e
    obtain ⟨l1, h1, _⟩ := h.blks j k' hj
    rw [hi] at h1; cases h1
  have old : ∀ {j k'}, j ≠ i → hget ((i, some k) :: H) j = some k' → hget H j = some k' := by
    intro j k' e hj
    rw [hget_cons, if_neg (fun h => e h.symm)] at hj
    exact hj
  have new : ∀ {k'}, hget ((i, some k) :: H) i = some k' → k' = k := by
    intro k' hj
    rw [hget_cons, if_pos rfl] at hj
    exact (Option.some.inj hj).symm
  have loc : ∀ {l'}, μ.ins i l i = some l' → l' = l := fun hl => (Option.some.inj ((Map.ins_same μ i l).symm.trans hl)).symm
  exact { h' with
    blks := fun j k' hj => by
      by_cases e : j = i
      · subst e
        rw [new hj]
        exact ⟨l, Map.ins_same _ _ _, hb⟩
      · exact h'.blks j k' (old e hj)
    inj := fun j j' k1 k2 l1 l2 b hj hj' hl hl' hbb hbb' => by
      by_cases e : j = i
      · by_cases e' : j' = i
        · rw [e, e']
        · subst e
          rw [Map.ins_other _ _ _ e'] at hl'
          rw [loc hl] at hbb
          exact absurd hbb' ((hn b hbb).1 j' k2 l2 (old e' hj') hl')
      · by_cases e' : j' = i
        · subst e'
          rw [Map.ins_other _ _ _ e] at hl
          rw [loc hl'] at hbb'
          exact absurd hbb ((hn b hbb').1 j k1 l1 (old e hj) hl)
        · exact h'.inj j j' k1 k2 l1 l2 b (old e hj) (old e' hj') hl hl' hbb hbb'
    exc := fun j k1 l1 b o v hj hl hbb hv => by
      by_cases e : j = i
      · subst e
        rw [new hj]
        rw [loc hl] at hbb
        exact (hn b hbb).2.2 o v hv
      · exact h'.exc j k1 l1 b o v (old e hj) hl hbb hv
    own := fun j k1 l1 b hj hl hbb => by
      by_cases e : j = i
      · subst e
        rw [loc hl] at hbb
        exact (hn b hbb).2.1
      · exact h'.own j k1 l1 b (old e hj) hl hbb }

/-- One block of the run's own is written; the memory that is still in it stays. -/
structure Writes (w w' : World) (b : Nat) : Prop where
  os : w'.os = w.os
  tape : w'.tape = w.tape
  output : w'.output = w.output
  size : w'.heap.size = w.heap.size
  other : ∀ k, k ≠ b → w'.heap[k]? = w.heap[k]?
  fz : ∀ a, w'.frozen? a = w.frozen? a

theorem Hold.write {c : Ctx} {M : Mem} {μ : Map} {H : Hp} {w w' : World} (h : Hold c M μ H w) {i : Nat} {l : Loc} {k k' : Blk} {b : Nat} (hi : hget H i = some k) (hl : μ i = some l) (hb : l.blk = some b)
    (hw : Writes w w' b) (hbr : BR M μ w' l k') (hM : ∀ o v, M b o = some v → w'.cell? ⟨b, o, none⟩ = some v ∧ ∃ e xs, k' = .row e xs true ∧ o < xs.length * e.n) :
    Hold c M μ ((i, some k') :: H) w' := by
  have old : ∀ {j k1}, j ≠ i → hget ((i, some k') :: H) j = some k1 → hget H j = some k1 := by
    intro j k1 e hj
    rw [hget_cons, if_neg (fun h => e h.symm)] at hj
    exact hj
  have new : ∀ {k1}, hget ((i, some k') :: H) i = some k1 → k1 = k' := by
    intro k1 hj
    rw [hget_cons, if_pos rfl] at hj
    exact (Option.some.inj hj).symm
  have any : ∀ {j k1}, hget ((i, some k') :: H) j = some k1 → ∃ k2, hget H j = some k2 := by
    intro j k1 hj
    by_cases e : j = i
    · subst e; exact ⟨k, hi⟩
    · exact ⟨k1, old e hj⟩
  exact {
    mem := fun b' o v hv => by
      by_cases e : b' = b
      · subst e; exact (hM o v hv).1
      · rw [cell_heap (hw.other b' e)]; exact h.mem b' o v hv
    blks := fun j k1 hj => by
      by_cases e : j = i
      · subst e
        rw [new hj]
        exact ⟨l, hl, hbr⟩
      · obtain ⟨l1, h1, h2⟩ := h.blks j k1 (old e hj)
        refine ⟨l1, h1, h2.mono (Mem.le.refl _) (Map.le.refl _) fun b' hb' => hw.other b' ?_⟩
        intro e'
        subst e'
        exact e (h.inj j i k1 k l1 l b' (old e hj) hi h1 hl hb' hb)
    inj := fun j j' k1 k2 l1 l2 b' hj hj' => by
      obtain ⟨k3, h3⟩ := any hj
      obtain ⟨k4, h4⟩ := any hj'
      exact h.inj j j' k3 k4 l1 l2 b' h3 h4
    exc := fun j k1 l1 b' o v hj hl1 hb' hv => by
      by_cases e : j = i
      · subst e
        rw [new hj]
        obtain rfl : l1 = l := Option.some.inj (hl1.symm.trans hl)
        obtain rfl : b' = b := Option.some.inj (hb'.symm.trans hb)
        exact (hM o v hv).2
      · exact h.exc j k1 l1 b' o v (old e hj) hl1 hb' hv
    own := fun j k1 l1 b' hj => by
      obtain ⟨k3, h3⟩ := any hj
      exact h.own j k3 l1 b' h3
    mle := h.mle
    mown := h.mown
    os := hw.os.trans h.os
    tape := hw.tape.trans h.tape
    output := hw.output.trans h.output
    size := by rw [hw.size]; exact h.size
    frame := fun b' hb' hn => by
      have hne : b' ≠ b := by
        intro e
        subst e
        rcases h.own i k l b' hi hl hb with ho | ho
        · exact hn ho
        · omega
      rw [hw.other b' hne]
      exact h.frame b' hb' hn
    fz := fun a => (hw.fz a).trans (h.fz a) }

/-- Cells of a block that nobody writes from now on. -/
def Mem.frz (M : Mem) (w : World) (b n : Nat) : Mem := fun b' o => if b' = b ∧ o < n then w.cell? ⟨b', o, none⟩ else M b' o

theorem Mem.le_frz {M : Mem} {w : World} {b n : Nat} (h : ∀ b o v, M b o = some v → w.cell? ⟨b, o, none⟩ = some v) : M.le (M.frz w b n) := fun b' o v hv => by
  unfold Mem.frz
  split
  · exact h b' o v hv
  · exact hv

theorem cell_of_heap {w : World} {b : Nat} {cs : Array Value} {T : TypeId} {fr : Nat × Nat} (h : w.heap[b]? = some (.cells cs T fr)) (o : Nat) : w.cell? ⟨b, o, none⟩ = cs[o]? := cell_of_row w b o cs T fr h

/-- A row becomes still: from now on it is a tree. -/
theorem Hold.freeze {c : Ctx} {M : Mem} {μ : Map} {H : Hp} {w : World} (h : Hold c M μ H w) {i : Nat} {e : Ty} {xs : List e.T} {fz : Bool} (hi : hget H i = some (.row e xs fz)) :
    ∃ M', M.le M' ∧ Hold c M' μ ((i, some (.row e xs true)) :: H) w ∧ ∀ cs, AVC M μ (.row i) cs → AVC M' μ (.tv (.sl e) xs) cs := by
  obtain ⟨l, hl, hbr⟩ := h.blks i _ hi
  cases l with
  | box b => exact hbr.elim
  | obj b => exact hbr.elim
  | row bo len cap =>
    cases bo with
    | none =>
      obtain ⟨rfl, rfl, rfl⟩ := hbr
      refine ⟨M, Mem.le.refl _, ?_, ?_⟩
      · have key : ∀ {j k}, hget ((i, some (.row e [] true)) :: H) j = some k → ∃ k', hget H j = some k' ∧ (j ≠ i → k' = k) ∧ (j = i → k = .row e [] true) := by
          intro j k hj
          rw [hget_cons] at hj
          split at hj
          · rename_i e1
            subst e1
            exact ⟨_, hi, fun e => absurd rfl e, fun _ => (Option.some.inj hj).symm⟩
          · rename_i e1
            exact ⟨k, hj, fun _ => rfl, fun e => absurd e.symm e1⟩
        exact { h with
          blks := fun j k hj => by
            by_cases e1 : j = i
            · subst e1
              obtain ⟨_, _, _, h3⟩ := key hj
              rw [h3 rfl]
              exact ⟨_, hl, ⟨rfl, rfl, rfl⟩⟩
            · obtain ⟨k', h1, h2, _⟩ := key hj
              rw [← h2 e1]
              exact h.blks j k' h1
          inj := fun j j' k k' l l' b hj hj' => by
            obtain ⟨k1, h1, _⟩ := key hj
            obtain ⟨k2, h2, _⟩ := key hj'
            exact h.inj j j' k1 k2 l l' b h1 h2
          exc := fun j k l b o v hj hl1 hb hv => by
            by_cases e1 : j = i
            · subst e1
              rw [hl] at hl1
              cases hl1
              cases hb
            · obtain ⟨k', h1, h2, _⟩ := key hj
              rw [← h2 e1]
              exact h.exc j k' l b o v h1 hl1 hb hv
          own := fun j k l b hj => by
            obtain ⟨k1, h1, _⟩ := key hj
            exact h.own j k1 l b h1 }
      · intro cs hcs
        simp only [AVC] at hcs ⊢
        obtain ⟨b1, len1, cap1, h1, h2⟩ := hcs
        rw [hl] at h1
        cases h1
        simp only [TC]
        exact ⟨none, 0, by simpa using h2, [], rfl, .inl trivial, Nat.le_refl _⟩
    | some b =>
      obtain ⟨cs, T, hb, hlen, hle, hcap, hsz, hone, hrow⟩ := hbr
      have hM : M.le (M.frz w b (len * e.n)) := Mem.le_frz h.mem
      have hfr : ∀ o v, (M.frz w b (len * e.n)) b o = some v → w.cell? ⟨b, o, none⟩ = some v ∧ (o < len * e.n) := by
        intro o v hv
        unfold Mem.frz at hv
        split at hv
        · rename_i h1
          exact ⟨hv, h1.2⟩
        · refine ⟨h.mem b o v hv, ?_⟩
          obtain ⟨e', xs', h1, h2⟩ := h.exc i _ _ b o v hi hl rfl hv
          cases h1
          rw [← hlen]; exact h2
      have hoth : ∀ b' o, b' ≠ b → (M.frz w b (len * e.n)) b' o = M b' o := by
        intro b' o hne
        unfold Mem.frz
        rw [if_neg (fun h => hne h.1)]
      refine ⟨M.frz w b (len * e.n), hM, ?_, ?_⟩
      · have key : ∀ {j k}, hget ((i, some (.row e xs true)) :: H) j = some k → ∃ k', hget H j = some k' ∧ (j ≠ i → k' = k) ∧ (j = i → k = .row e xs true) := by
          intro j k hj
          rw [hget_cons] at hj
          split at hj
          · rename_i e1
            subst e1
            exact ⟨_, hi, fun e => absurd rfl e, fun _ => (Option.some.inj hj).symm⟩
          · rename_i e1
            exact ⟨k, hj, fun _ => rfl, fun e => absurd e.symm e1⟩
        exact { h with
          mem := fun b' o v hv => by
            by_cases e1 : b' = b
            · subst e1; exact (hfr o v hv).1
            · rw [hoth b' o e1] at hv; exact h.mem b' o v hv
          blks := fun j k hj => by
            by_cases e1 : j = i
            · subst e1
              obtain ⟨_, _, _, h3⟩ := key hj
              rw [h3 rfl]
              exact ⟨_, hl, ⟨cs, T, hb, hlen, hle, hcap, hsz, hone, hrow.mono fun _ _ h => TC.mono hM h⟩⟩
            · obtain ⟨k', h1, h2, _⟩ := key hj
              rw [← h2 e1]
              obtain ⟨l1, h3, h4⟩ := h.blks j k' h1
              exact ⟨l1, h3, h4.mono hM (Map.le.refl _) fun _ _ => rfl⟩
          inj := fun j j' k k' l l' b hj hj' => by
            obtain ⟨k1, h1, _⟩ := key hj
            obtain ⟨k2, h2, _⟩ := key hj'
            exact h.inj j j' k1 k2 l l' b h1 h2
          exc := fun j k l b' o v hj hl1 hb' hv => by
            by_cases e1 : j = i
            · subst e1
              obtain ⟨_, _, _, h3⟩ := key hj
              rw [hl] at hl1
              cases hl1
              simp only [Loc.blk, Option.some.injEq] at hb'
              subst hb'
              exact ⟨e, xs, h3 rfl, by rw [hlen]; exact (hfr o v hv).2⟩
            · obtain ⟨k', h1, h2, _⟩ := key hj
              have hne : b' ≠ b := by
                intro e2
                subst e2
                exact e1 (h.inj j i k' _ l _ b' h1 hi hl1 hl hb' rfl)
              rw [hoth b' o hne] at hv
              rw [← h2 e1]
              exact h.exc j k' l b' o v h1 hl1 hb' hv
          own := fun j k l b hj => by
            obtain ⟨k1, h1, _⟩ := key hj
            exact h.own j k1 l b h1
          mle := h.mle.trans hM
          mown := fun b' o v hv => by
            by_cases e1 : b' = b
            · subst e1
              exact .inr (h.own i _ _ b' hi hl rfl)
            · rw [hoth b' o e1] at hv; exact h.mown b' o v hv }
      · intro cs' hcs
        simp only [AVC] at hcs ⊢
        obtain ⟨b1, len1, cap1, h1, h2⟩ := hcs
        rw [hl] at h1
        cases h1
        simp only [TC]
        refine ⟨some ⟨b, 0, none⟩, cap, by simpa [hlen] using h2, cs.toList.take (len * e.n), hrow.mono fun _ _ h => TC.mono hM h, .inr ⟨b, 0, rfl, ?_⟩, by omega⟩
        intro j v hv
        have hj : j < len * e.n := by
          have := (List.getElem?_eq_some_iff.1 hv).1
          simp at this; omega
        unfold Mem.frz
        rw [if_pos ⟨rfl, by omega⟩, cell_of_heap hb]
        rw [List.getElem?_take, if_pos hj] at hv
        simpa using hv

end Go.Av
