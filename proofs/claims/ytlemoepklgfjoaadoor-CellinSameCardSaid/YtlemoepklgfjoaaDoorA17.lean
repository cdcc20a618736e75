/-
  Calls: what the callee is handed of the abstract memory, and what comes back.
-/
import Derived.Test.YtlemoepklgfjoaaDoorAM
namespace Go.Av

def AV.refs : AV → List Nat
  | .ptr id _ => [id]
  | .row id => [id]
  | .obj id => [id]
  | .mp id => [id]
  | .cons a b => a.refs ++ b.refs
  | .fn _ b c => b.refs ++ c.refs
  | .tup l => l.refs
  | _ => []

def Blk.refs : Blk → List Nat
  | .box v => v.refs
  | _ => []

def Blk.isRow : Blk → Bool
  | .row _ _ _ => true
  | _ => false

def memB (i : Nat) : List Nat → Bool
  | [] => false
  | j :: r => bif Nat.beq i j then true else memB i r

theorem memB_iff {i : Nat} : ∀ {l : List Nat}, memB i l = true ↔ i ∈ l
  | [] => by simp [memB]
  | j :: r => by
    simp only [memB]
    cases h : Nat.beq i j with
    | true => have := Nat.eq_of_beq_eq_true h; subst this; simp
    | false =>
      simp only [cond_false, memB_iff, List.mem_cons]
      constructor
      · exact .inr
      · rintro (e | e)
        · subst e; simp at h
        · exact e

/-- All that is reached, in the order in which it is met. -/
def coll : Nat → List Nat → Hp → List Nat → List Nat
  | 0, _, _, seen => seen
  | _ + 1, [], _, seen => seen
  | n + 1, i :: wl, H, seen => bif memB i seen then coll n wl H seen else (match hget H i with
    | some k => coll n (k.refs ++ wl) H (seen ++ [i])
    | none => coll n wl H seen)

def pickB (f : Blk → Bool) (H : Hp) : List Nat → List Nat
  | [] => []
  | i :: r => (match hget H i with
    | some k => bif f k then i :: pickB f H r else pickB f H r
    | none => pickB f H r)

/-- What is reached from these: the variables first, then the rows. -/
def reach (roots : List Nat) (H : Hp) : List Nat :=
  pickB (fun k => !k.isRow) H (coll 200 roots H []) ++ pickB Blk.isRow H (coll 200 roots H [])

def posOf : Nat → List Nat → Nat → Option Nat
  | _, [], _ => none
  | i, j :: r, n => bif Nat.beq i j then some n else posOf i r (n + 1)

def AV.ren (ρ : Nat → Option Nat) : AV → AV
  | .ptr id p => (match ρ id with | some j => .ptr j p | none => .junk)
  | .row id => (match ρ id with | some j => .row j | none => .junk)
  | .obj id => (match ρ id with | some j => .obj j | none => .junk)
  | .mp id => (match ρ id with | some j => .mp j | none => .junk)
  | .cons a b => .cons (a.ren ρ) (b.ren ρ)
  | .fn f b c => .fn f (b.ren ρ) (c.ren ρ)
  | .tup l => .tup (l.ren ρ)
  | a => a

def Blk.ren (ρ : Nat → Option Nat) : Blk → Blk
  | .box v => .box (v.ren ρ)
  | b => b

/-- The blocks of these numbers, seen by their places. -/
def take (ρ : Nat → Option Nat) (H : Hp) : List Nat → Option (List Blk)
  | [] => some []
  | i :: r => (match hget H i, take ρ H r with
    | some k, some l => some (k.ren ρ :: l)
    | _, _ => none)

def enumB : Nat → List Blk → Hp
  | _, [] => []
  | n, k :: r => (n, some k) :: enumB (n + 1) r

def distinct : List Nat → Bool
  | [] => true
  | i :: r => !memB i r && distinct r

abbrev Entry := ∀ {R : Type}, List AV → List Blk → (AV → List Blk → Option R) → Option R

/-- How many of the blocks are variables: they come first. -/
def nBox : List Blk → Nat
  | [] => 0
  | k :: r => bif k.isRow then 0 else nBox r + 1

/-- How a caller numbers what comes back: its own variables keep their numbers; all else is new. -/
def backTo (ids : List Nat) (nb nid len : Nat) (j : Nat) : Option Nat :=
  bif Nat.blt j len then (bif Nat.blt j nb then ids[j]? else some (nid + j)) else none

def enumR (ρ : Nat → Option Nat) : Nat → List Blk → Hp
  | _, [] => []
  | j, k :: r => (match ρ j with | some i => [(i, some (k.ren ρ))] | none => []) ++ enumR ρ (j + 1) r

def gone : List Nat → Hp
  | [] => []
  | i :: r => (i, none) :: gone r

/-! ### Laws -/
theorem AVC_ren {M : Mem} {μ μ' : Map} {ρ : Nat → Option Nat} (h : ∀ i j, ρ i = some j → μ' j = μ i) : ∀ (a : AV),
    (∀ cs, AVC M μ a cs → AVC M μ' (a.ren ρ) cs) ∧ (∀ vs, AVL M μ a vs → AVL M μ' (a.ren ρ) vs) ∧ (a.ren ρ).isAgg = a.isAgg
  | .tv τ x => ⟨fun cs h => h, fun vs h => h, rfl⟩
  | .ptr id p => by
    have h2 : (AV.ren ρ (.ptr id p)).isAgg = false := by simp only [AV.ren]; split <;> rfl
    refine ⟨fun cs hc => ?_, fun vs hv => by simp only [AVL] at hv, h2⟩
    simp only [AVC] at hc
    obtain ⟨l, b, h1, h2, rfl, h3⟩ := hc
    simp only [AV.ren]
    split
    · rename_i j hj
      simp only [AVC]
      exact ⟨l, b, by rw [h id j hj]; exact h1, h2, rfl, h3⟩
    · simp only [AVC]; exact ⟨_, rfl, rfl⟩
  | .row id => by
    have h2 : (AV.ren ρ (.row id)).isAgg = false := by simp only [AV.ren]; split <;> rfl
    refine ⟨fun cs hc => ?_, fun vs hv => by simp only [AVL] at hv, h2⟩
    simp only [AVC] at hc
    obtain ⟨b, len, cap, h1, rfl⟩ := hc
    simp only [AV.ren]
    split
    · rename_i j hj
      simp only [AVC]
      exact ⟨b, len, cap, by rw [h id j hj]; exact h1, rfl⟩
    · simp only [AVC]; exact ⟨_, rfl, rfl⟩
  | .obj id => by
    have h2 : (AV.ren ρ (.obj id)).isAgg = false := by simp only [AV.ren]; split <;> rfl
    refine ⟨fun cs hc => ?_, fun vs hv => by simp only [AVL] at hv, h2⟩
    simp only [AVC] at hc
    obtain ⟨b, h1, rfl⟩ := hc
    simp only [AV.ren]
    split
    · rename_i j hj
      simp only [AVC]
      exact ⟨b, by rw [h id j hj]; exact h1, rfl⟩
    · simp only [AVC]; exact ⟨_, rfl, rfl⟩
  | .mp id => by
    have h2 : (AV.ren ρ (.mp id)).isAgg = false := by simp only [AV.ren]; split <;> rfl
    refine ⟨fun cs hc => ?_, fun vs hv => by simp only [AVL] at hv, h2⟩
    simp only [AVC] at hc
    obtain ⟨b, h1, rfl⟩ := hc
    simp only [AV.ren]
    split
    · rename_i j hj
      simp only [AVC]
      exact ⟨b, by rw [h id j hj]; exact h1, rfl⟩
    · simp only [AVC]; exact ⟨_, rfl, rfl⟩
  | .fp τ x => ⟨fun cs h => by simpa only [AVC, AV.ren] using h, fun vs h => by simp only [AVL] at h, rfl⟩
  | .sln b e xs => ⟨fun cs h => by simpa only [AVC, AV.ren] using h, fun vs h => by simp only [AVL] at h, rfl⟩
  | .nilp => ⟨fun cs h => by simpa only [AVC, AV.ren] using h, fun vs h => by simp only [AVL] at h, rfl⟩
  | .nilf => ⟨fun cs h => by simpa only [AVC, AV.ren] using h, fun vs h => by simp only [AVL] at h, rfl⟩
  | .junk => ⟨fun cs h => by simpa only [AVC, AV.ren] using h, fun vs h => by simp only [AVL] at h, rfl⟩
  | .dead => ⟨fun cs h => by simp only [AVC] at h, fun vs h => by simp only [AVL] at h, rfl⟩
  | .nil => ⟨fun cs h => by simpa only [AVC, AV.ren] using h, fun vs h => by simpa only [AVL, AV.ren] using h, rfl⟩
  | .cons a b => by
    obtain ⟨a1, _, a3⟩ := AVC_ren h a
    obtain ⟨b1, b2, _⟩ := AVC_ren h b
    refine ⟨fun cs hc => ?_, fun vs hv => ?_, rfl⟩
    · simp only [AVC, AV.ren] at hc ⊢
      obtain ⟨c1, c2, e, h1, h2⟩ := hc
      exact ⟨c1, c2, e, a1 _ h1, b1 _ h2⟩
    · simp only [AVL, AV.ren] at hv ⊢
      obtain ⟨v, r, c, e, h1, h2, h3⟩ := hv
      exact ⟨v, r, c, e, a1 _ h1, by rw [a3]; exact h2, b2 _ h3⟩
  | .fn f b c => by
    obtain ⟨_, b2, _⟩ := AVC_ren h b
    obtain ⟨_, c2, _⟩ := AVC_ren h c
    refine ⟨fun cs hc => ?_, fun vs hv => by simp only [AVL] at hv, rfl⟩
    simp only [AVC, AV.ren] at hc ⊢
    obtain ⟨us, vs, e, h0, h1⟩ := hc
    exact ⟨us, vs, e, b2 _ h0, c2 _ h1⟩
  | .tup l => ⟨fun cs h => by simp only [AVC] at h, fun vs h => by simp only [AVL] at h, rfl⟩

theorem AVV_ren {M : Mem} {μ μ' : Map} {ρ : Nat → Option Nat} (h : ∀ i j, ρ i = some j → μ' j = μ i) {a : AV} {v : Value} (ha : AVV M μ a v) : AVV M μ' (a.ren ρ) v := by
  cases hl : a.live with
  | true =>
    obtain ⟨cs, h1, h2⟩ := AVV_live ha hl
    obtain ⟨r1, _, r3⟩ := AVC_ren (M := M) h a
    exact AVV_of (r1 _ h1) (by rw [r3]; exact h2)
  | false =>
    cases a with
    | dead => trivial
    | tup l =>
      obtain ⟨vs, e, h1⟩ := ha
      exact ⟨vs, e, (AVC_ren (M := M) h l).2.1 _ h1⟩
    | _ => cases hl

theorem BR_ren {M : Mem} {μ μ' : Map} {ρ : Nat → Option Nat} (h : ∀ i j, ρ i = some j → μ' j = μ i) {w : World} {l : Loc} {k : Blk} (hb : BR M μ w l k) : BR M μ' w l (k.ren ρ) := by
  cases k with
  | box v =>
    cases l with
    | box b =>
      obtain ⟨cs, T, h1, h2⟩ := hb
      exact ⟨cs, T, h1, (AVC_ren h v).1 _ h2⟩
    | row b len cap => cases b <;> exact hb.elim
    | obj b => exact hb.elim
  | row e xs fz =>
    cases l with
    | row b len cap => cases b <;> exact hb
    | box b => exact hb.elim
    | obj b => exact hb.elim
  | iter s pos =>
    cases l with
    | obj b => exact hb
    | box b => exact hb.elim
    | row b len cap => cases b <;> exact hb.elim
  | mp κ l0 =>
    cases l with
    | obj b => exact hb
    | box b => exact hb.elim
    | row b len cap => cases b <;> exact hb.elim

theorem Blk.ren_row {ρ : Nat → Option Nat} {k : Blk} {e : Ty} {xs : List e.T} {fz : Bool} (h : k.ren ρ = .row e xs fz) : k = .row e xs fz := by
  cases k <;> simp [Blk.ren] at h ⊢ <;> exact h

theorem posOf_some : ∀ {l : List Nat} {i n j : Nat}, posOf i l n = some j → n ≤ j ∧ l[j - n]? = some i
  | [], i, n, j, h => by simp [posOf] at h
  | k :: r, i, n, j, h => by
    simp only [posOf] at h
    cases hb : Nat.beq i k with
    | true =>
      rw [hb] at h
      simp only [cond_true, Option.some.injEq] at h
      subst h
      have := Nat.eq_of_beq_eq_true hb
      subst this
      simp
    | false =>
      rw [hb] at h
      simp only [cond_false] at h
      obtain ⟨h1, h2⟩ := posOf_some h
      refine ⟨by omega, ?_⟩
      have : j - n = (j - (n + 1)) + 1 := by omega
      rw [this]
      simpa using h2

theorem take_some : ∀ {ρ : Nat → Option Nat} {H : Hp} {ids : List Nat} {l : List Blk}, take ρ H ids = some l → l.length = ids.length ∧ ∀ (j i : Nat), ids[j]? = some i → ∃ k, hget H i = some k ∧ l[j]? = some (k.ren ρ)
  | ρ, H, [], l, h => by
    simp only [take, Option.some.injEq] at h
    subst h
    exact ⟨rfl, fun j i hi => by simp at hi⟩
  | ρ, H, i :: r, l, h => by
    simp only [take] at h
    split at h
    case h_2 => cases h
    rename_i k l' hk hl'
    simp only [Option.some.injEq] at h
    subst h
    obtain ⟨h1, h2⟩ := take_some hl'
    refine ⟨by simp [h1], fun j i' hi => ?_⟩
    cases j with
    | zero =>
      simp only [List.getElem?_cons_zero, Option.some.injEq] at hi
      subst hi
      exact ⟨k, hk, rfl⟩
    | succ j => simpa using h2 j i' (by simpa using hi)

theorem enumB_get : ∀ (l : List Blk) (n i : Nat), hget (enumB n l) i = if n ≤ i then l[i - n]? else none
  | [], n, i => by simp [enumB, hget, alGet]
  | k :: r, n, i => by
    rw [enumB, hget_cons, enumB_get r (n + 1) i]
    by_cases h : n = i
    · subst h; simp
    · rw [if_neg h]
      by_cases h2 : n ≤ i
      · rw [if_pos h2, if_pos (by omega)]
        have : i - n = (i - (n + 1)) + 1 := by omega
        rw [this]; simp
      · rw [if_neg h2, if_neg (by omega)]

theorem distinct_inj : ∀ {l : List Nat}, distinct l = true → ∀ {i j a : Nat}, l[i]? = some a → l[j]? = some a → i = j
  | [], _, i, j, a, h, _ => by simp at h
  | x :: r, hd, i, j, a, hi, hj => by
    simp only [distinct, Bool.and_eq_true, Bool.not_eq_true'] at hd
    obtain ⟨h1, h2⟩ := hd
    have hx : ∀ (k : Nat), r[k]? = some x → False := by
      intro k hk
      have : memB x r = true := memB_iff.2 (List.mem_of_getElem? hk)
      rw [h1] at this; cases this
    cases i with
    | zero =>
      simp only [List.getElem?_cons_zero, Option.some.injEq] at hi
      subst hi
      cases j with
      | zero => rfl
      | succ j => exact absurd (by simpa using hj) (hx j)
    | succ i =>
      cases j with
      | zero =>
        simp only [List.getElem?_cons_zero, Option.some.injEq] at hj
        subst hj
        exact absurd (by simpa using hi) (hx i)
      | succ j =>
        have := distinct_inj h2 (i := i) (j := j) (a := a) (by simpa using hi) (by simpa using hj)
        omega

/-- The callee's view of the memory. -/
theorem Hold.outTo {c : Ctx} {M : Mem} {μ : Map} {H : Hp} {w : World} (h : Hold c M μ H w) {ids : List Nat} (hd : distinct ids = true) {blks : List Blk} (ht : take (fun i => posOf i ids 0) H ids = some blks) :
    Hold ⟨w, fun b => ∃ i k l, i ∈ ids ∧ hget H i = some k ∧ μ i = some l ∧ l.blk = some b, M⟩ M (fun j => (ids[j]?).bind μ) (enumB 0 blks) w ∧ ∀ i j, posOf i ids 0 = some j → (fun j => (ids[j]?).bind μ) j = μ i := by
  have hρ : ∀ i j, posOf i ids 0 = some j → (fun j => (ids[j]?).bind μ) j = μ i := by
    intro i j hj
    obtain ⟨_, h2⟩ := posOf_some hj
    simp only [Nat.sub_zero] at h2
    simp only [h2, Option.bind_some]
  obtain ⟨hlen, hget1⟩ := take_some ht
  have key : ∀ j k, hget (enumB 0 blks) j = some k → ∃ i k', ids[j]? = some i ∧ hget H i = some k' ∧ k = k'.ren (fun i => posOf i ids 0) ∧ i ∈ ids := by
    intro j k hj
    rw [enumB_get, if_pos (Nat.zero_le _), Nat.sub_zero] at hj
    have hjl : j < ids.length := by rw [← hlen]; exact (List.getElem?_eq_some_iff.1 hj).1
    obtain ⟨k', h1, h2⟩ := hget1 j ids[j] (List.getElem?_eq_getElem hjl)
    rw [hj] at h2
    exact ⟨ids[j], k', List.getElem?_eq_getElem hjl, h1, Option.some.inj h2, List.getElem_mem _⟩
  refine ⟨?_, hρ⟩
  exact {
    mem := h.mem
    blks := fun j k hj => by
      obtain ⟨i, k', h1, h2, rfl, _⟩ := key j k hj
      obtain ⟨l, h3, h4⟩ := h.blks i k' h2
      exact ⟨l, by simp only [h1, Option.bind_some]; exact h3, BR_ren hρ h4⟩
    inj := fun j j' k k' l l' b hj hj' hl hl' hb hb' => by
      obtain ⟨i, k1, h1, h2, _, _⟩ := key j k hj
      obtain ⟨i', k2, h1', h2', _, _⟩ := key j' k' hj'
      simp only [h1, Option.bind_some] at hl
      simp only [h1', Option.bind_some] at hl'
      have := h.inj i i' k1 k2 l l' b h2 h2' hl hl' hb hb'
      subst this
      exact distinct_inj hd h1 h1'
    exc := fun j k l b o v hj hl hb hv => by
      obtain ⟨i, k1, h1, h2, h3, _⟩ := key j k hj
      simp only [h1, Option.bind_some] at hl
      obtain ⟨e, xs, h4, h5⟩ := h.exc i k1 l b o v h2 hl hb hv
      exact ⟨e, xs, by rw [h3, h4]; rfl, h5⟩
    own := fun j k l b hj hl hb => by
      obtain ⟨i, k1, h1, h2, h3, h4⟩ := key j k hj
      simp only [h1, Option.bind_some] at hl
      exact .inl ⟨i, k1, l, h4, h2, hl, hb⟩
    mle := Mem.le.refl _
    mown := fun b o v hv => .inl hv
    os := rfl
    tape := rfl
    output := rfl
    size := Nat.le_refl _
    frame := fun b hb hn => rfl
    fz := fun a => rfl }

theorem enumR_get : ∀ (l : List Blk) (ρ : Nat → Option Nat) (n i : Nat) (k : Blk), hget (enumR ρ n l ++ ([] : Hp)) i = some k → ∃ j k', n ≤ j ∧ l[j - n]? = some k' ∧ ρ j = some i ∧ k = k'.ren ρ
  | [], ρ, n, i, k, h => by simp [enumR, hget, alGet] at h
  | b :: r, ρ, n, i, k, h => by
    simp only [enumR, List.append_nil] at h
    split at h
    · rename_i i' hi'
      rw [List.singleton_append, hget_cons] at h
      split at h
      · rename_i e
        subst e
        exact ⟨n, b, Nat.le_refl _, by simp, hi', (Option.some.inj h).symm⟩
      · obtain ⟨j, k', h1, h2, h3⟩ := enumR_get r ρ (n + 1) i k (by simpa using h)
        refine ⟨j, k', by omega, ?_, h3⟩
        have : j - n = (j - (n + 1)) + 1 := by omega
        rw [this]; simpa using h2
    · obtain ⟨j, k', h1, h2, h3⟩ := enumR_get r ρ (n + 1) i k (by simpa using h)
      refine ⟨j, k', by omega, ?_, h3⟩
      have : j - n = (j - (n + 1)) + 1 := by omega
      rw [this]; simpa using h2

theorem hget_enumR_append : ∀ (l : List Blk) (ρ : Nat → Option Nat) (n : Nat) (H : Hp) (i : Nat), (hget (enumR ρ n l ++ H) i = hget (enumR ρ n l ++ []) i ∧ ∃ k, hget (enumR ρ n l ++ []) i = some k) ∨ hget (enumR ρ n l ++ H) i = hget H i
  | [], ρ, n, H, i => .inr rfl
  | b :: r, ρ, n, H, i => by
    simp only [enumR]
    split
    · rename_i i' hi'
      rw [List.singleton_append, List.cons_append, List.cons_append, hget_cons, hget_cons]
      by_cases e : i' = i
      · rw [if_pos e, if_pos e]; exact .inl ⟨rfl, _, rfl⟩
      · rw [if_neg e, if_neg e]; exact hget_enumR_append r ρ (n + 1) H i
    · rw [List.nil_append]; exact hget_enumR_append r ρ (n + 1) H i

theorem hget_gone : ∀ (ids : List Nat) (H : Hp) (i : Nat) (k : Blk), hget (gone ids ++ H) i = some k → i ∉ ids ∧ hget H i = some k
  | [], H, i, k, h => ⟨by simp, h⟩
  | j :: r, H, i, k, h => by
    rw [gone, List.cons_append, hget_cons] at h
    split at h
    · cases h
    · rename_i e
      obtain ⟨h1, h2⟩ := hget_gone r H i k h
      exact ⟨by simp only [List.mem_cons, not_or]; exact ⟨fun e' => e e'.symm, h1⟩, h2⟩

/-- What the caller makes of the places of what comes back. -/
def backMap (μ μ' : Map) (nid len : Nat) : Map := fun i => if nid ≤ i ∧ i < nid + len then μ' (i - nid) else μ i

/-- The caller's view, when the callee has come back. -/
theorem Hold.back {c : Ctx} {M M' : Mem} {μ μ' : Map} {H : Hp} {w w' : World} (h : Hold c M μ H w) {ids : List Nat} {nb nid : Nat} {blks : List Blk} (hnb : nb ≤ ids.length)
    (hlive : ∀ i ∈ ids, ∃ k, hget H i = some k) (hf : ∀ i, nid ≤ i → i < nid + blks.length → μ i = none)
    (hc : Hold ⟨w, fun b => ∃ i k l, i ∈ ids ∧ hget H i = some k ∧ μ i = some l ∧ l.blk = some b, M⟩ M' μ' (enumB 0 blks) w')
    (hbox : ∀ j i, j < nb → ids[j]? = some i → μ' j = μ i) (hdist : distinct ids = true) :
    Hold c M' (backMap μ μ' nid blks.length) (enumR (backTo ids nb nid blks.length) 0 blks ++ (gone ids ++ H)) w' ∧ μ.le (backMap μ μ' nid blks.length) ∧
      (∀ j i, backTo ids nb nid blks.length j = some i → backMap μ μ' nid blks.length i = μ' j) ∧ ∀ i, backMap μ μ' nid blks.length i ≠ none → μ i ≠ none ∨ (nid ≤ i ∧ i < nid + blks.length) := by
  have hle : μ.le (backMap μ μ' nid blks.length) := by
    intro i l hi
    unfold backMap
    split
    · rename_i h1
      rw [hf i h1.1 h1.2] at hi; cases hi
    · exact hi
  have hρ : ∀ j i, backTo ids nb nid blks.length j = some i → backMap μ μ' nid blks.length i = μ' j := by
    intro j i hj
    unfold backTo at hj
    cases h1 : Nat.blt j blks.length with
    | false => rw [h1] at hj; simp at hj
    | true =>
      rw [h1] at hj
      have h1 : j < blks.length := by simpa [Nat.blt_eq] using h1
      simp only [cond_true] at hj
      cases h2 : Nat.blt j nb with
      | true =>
        rw [h2] at hj
        have h2 : j < nb := by simpa [Nat.blt_eq] using h2
        simp only [cond_true] at hj
        rw [hbox j i h2 hj]
        obtain ⟨k, hk⟩ := hlive i (List.mem_of_getElem? hj)
        obtain ⟨l, hl, _⟩ := h.blks i k hk
        rw [hl, hle i l hl]
      | false =>
        rw [h2] at hj
        simp only [cond_false, Option.some.injEq] at hj
        subst hj
        unfold backMap
        rw [if_pos ⟨by omega, by omega⟩]
        congr 1; omega
  have hrho_inj : ∀ j j' i, backTo ids nb nid blks.length j = some i → backTo ids nb nid blks.length j' = some i → j = j' := by
    intro j j' i hj hj'
    have split_ : ∀ j, backTo ids nb nid blks.length j = some i → (j < nb ∧ ids[j]? = some i) ∨ (i = nid + j ∧ j < blks.length) := by
      intro j hj
      unfold backTo at hj
      cases h1 : Nat.blt j blks.length with
      | false => rw [h1] at hj; simp at hj
      | true =>
        rw [h1] at hj
        have h1 : j < blks.length := by simpa [Nat.blt_eq] using h1
        simp only [cond_true] at hj
        cases h2 : Nat.blt j nb with
        | true =>
          rw [h2] at hj
          exact .inl ⟨by simpa [Nat.blt_eq] using h2, hj⟩
        | false =>
          rw [h2] at hj
          simp only [cond_false, Option.some.injEq] at hj
          exact .inr ⟨hj.symm, h1⟩
    have no : ∀ {j j' : Nat}, ids[j]? = some i → (i = nid + j' ∧ j' < blks.length) → False := by
      intro j j' h1 h2
      obtain ⟨k, hk⟩ := hlive i (List.mem_of_getElem? h1)
      obtain ⟨l, hl, _⟩ := h.blks i k hk
      rw [hf i (by omega) (by omega)] at hl; cases hl
    rcases split_ j hj with ⟨_, h1⟩ | h1 <;> rcases split_ j' hj' with ⟨_, h2⟩ | h2
    · exact distinct_inj hdist h1 h2
    · exact (no h1 h2).elim
    · exact (no h2 h1).elim
    · omega
  have key : ∀ {i k}, hget (enumR (backTo ids nb nid blks.length) 0 blks ++ (gone ids ++ H)) i = some k →
      (∃ j k', hget (enumB 0 blks) j = some k' ∧ backTo ids nb nid blks.length j = some i ∧ k = k'.ren (backTo ids nb nid blks.length)) ∨ (hget H i = some k ∧ i ∉ ids) := by
    intro i k hi
    rcases hget_enumR_append blks (backTo ids nb nid blks.length) 0 (gone ids ++ H) i with ⟨h1, _⟩ | h1
    · rw [h1] at hi
      obtain ⟨j, k', h2, h3, h4, h5⟩ := enumR_get blks _ 0 i k hi
      refine .inl ⟨j, k', ?_, h4, h5⟩
      rw [enumB_get, if_pos (Nat.zero_le _)]; exact h3
    · rw [h1] at hi
      obtain ⟨h2, h3⟩ := hget_gone ids H i k hi
      exact .inr ⟨h3, h2⟩
  have cmay : ∀ {b}, (∃ i k l, i ∈ ids ∧ hget H i = some k ∧ μ i = some l ∧ l.blk = some b) ∨ w.heap.size ≤ b → c.may b := by
    rintro b (⟨i, k, l, _, h1, h2, h3⟩ | h1)
    · exact h.own i k l b h1 h2 h3
    · exact .inr (Nat.le_trans h.size h1)
  -- a block of the caller's own that was not handed over
  have rest : ∀ {i k l b}, hget H i = some k → i ∉ ids → μ i = some l → l.blk = some b → ¬ ((∃ i k l, i ∈ ids ∧ hget H i = some k ∧ μ i = some l ∧ l.blk = some b) ∨ w.heap.size ≤ b) := by
    rintro i k l b hi hn hl hb (⟨i', k', l', h1, h2, h3, h4⟩ | h1)
    · exact hn (h.inj i' i k' k l' l b h2 hi h3 hl h4 hb ▸ h1)
    · obtain ⟨l1, h2, h3⟩ := h.blks i k hi
      rw [hl] at h2
      cases h2
      have := h3.lt hb
      omega
  have memle : M.le M' := hc.mle
  refine ⟨?_, hle, hρ, ?_⟩
  · exact {
      mem := hc.mem
      blks := fun i k hi => by
        rcases key hi with ⟨j, k', h1, h2, rfl⟩ | ⟨h1, h2⟩
        · obtain ⟨l, h3, h4⟩ := hc.blks j k' h1
          exact ⟨l, by rw [hρ j i h2]; exact h3, BR_ren hρ h4⟩
        · obtain ⟨l, h3, h4⟩ := h.blks i k h1
          refine ⟨l, hle i l h3, h4.mono memle hle fun b hb => ?_⟩
          have hnot := rest h1 h2 h3 hb
          exact hc.frame b (h4.lt hb) (fun hx => hnot (.inl hx))
      inj := fun i i' k k' l l' b hi hi' hl hl' hb hb' => by
        rcases key hi with ⟨j, k1, h1, h2, _⟩ | ⟨h1, h2⟩ <;> rcases key hi' with ⟨j', k2, h1', h2', _⟩ | ⟨h1', h2'⟩
        · rw [hρ j i h2] at hl
          rw [hρ j' i' h2'] at hl'
          have := hc.inj j j' k1 k2 l l' b h1 h1' hl hl' hb hb'
          subst this
          rw [h2] at h2'
          exact Option.some.inj h2'
        · rw [hρ j i h2] at hl
          obtain ⟨l2, h3, _⟩ := h.blks i' k' h1'
          obtain rfl : l2 = l' := Option.some.inj ((hle _ _ h3).symm.trans hl')
          exact absurd (hc.own j k1 l b h1 hl hb) (rest h1' h2' h3 hb')
        · rw [hρ j' i' h2'] at hl'
          obtain ⟨l2, h3, _⟩ := h.blks i k h1
          obtain rfl : l2 = l := Option.some.inj ((hle _ _ h3).symm.trans hl)
          exact absurd (hc.own j' k2 l' b h1' hl' hb') (rest h1 h2 h3 hb)
        · obtain ⟨l2, h3, _⟩ := h.blks i k h1
          obtain rfl : l2 = l := Option.some.inj ((hle _ _ h3).symm.trans hl)
          obtain ⟨l3, h4, _⟩ := h.blks i' k' h1'
          obtain rfl : l3 = l' := Option.some.inj ((hle _ _ h4).symm.trans hl')
          exact h.inj i i' k k' _ _ b h1 h1' h3 h4 hb hb'
      exc := fun i k l b o v hi hl hb hv => by
        rcases key hi with ⟨j, k1, h1, h2, rfl⟩ | ⟨h1, h2⟩
        · rw [hρ j i h2] at hl
          obtain ⟨e, xs, h4, h5⟩ := hc.exc j k1 l b o v h1 hl hb hv
          exact ⟨e, xs, by rw [h4]; rfl, h5⟩
        · obtain ⟨l2, h3, _⟩ := h.blks i k h1
          obtain rfl : l2 = l := Option.some.inj ((hle _ _ h3).symm.trans hl)
          rcases hc.mown b o v hv with h4 | h4
          · exact h.exc i k _ b o v h1 h3 hb h4
          · exact absurd h4 (rest h1 h2 h3 hb)
      own := fun i k l b hi hl hb => by
        rcases key hi with ⟨j, k1, h1, h2, _⟩ | ⟨h1, h2⟩
        · rw [hρ j i h2] at hl
          exact cmay (hc.own j k1 l b h1 hl hb)
        · obtain ⟨l2, h3, _⟩ := h.blks i k h1
          obtain rfl : l2 = l := Option.some.inj ((hle _ _ h3).symm.trans hl)
          exact h.own i k _ b h1 h3 hb
      mle := h.mle.trans memle
      mown := fun b o v hv => by
        rcases hc.mown b o v hv with h4 | h4
        · exact h.mown b o v h4
        · exact .inr (cmay h4)
      fz := fun a => (hc.fz a).trans (h.fz a)
      os := hc.os.trans h.os
      tape := hc.tape.trans h.tape
      output := hc.output.trans h.output
      size := Nat.le_trans h.size hc.size
      frame := fun b hb hn => by
        have h1 : b < w.heap.size := Nat.lt_of_lt_of_le hb h.size
        rw [hc.frame b h1 (fun hx => ?_)]
        · exact h.frame b hb hn
        · rcases cmay (.inl hx) with h2 | h2
          · exact hn h2
          · omega }
  · intro i hi
    unfold backMap at hi
    split at hi
    · rename_i h1; exact .inr h1
    · exact .inl hi

end Go.Av
