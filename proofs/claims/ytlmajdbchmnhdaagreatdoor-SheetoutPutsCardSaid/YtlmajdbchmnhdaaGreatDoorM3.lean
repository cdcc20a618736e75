/-
  Calls: what the callee is handed of the abstract memory, and what comes back.
-/
import Derived.Test.YtlmajdbchmnhdaaGreatDoorM2
import Derived.Deep.LoopGhost
import Derived.Scope
namespace Go.Av

def AV.refs : AV → List Nat
  | .ptr id _ => [id]
  | .row id => [id]
  | .obj id => [id]
  | .mp id => [id]
  | .cons a b => a.refs ++ b.refs
  | .fn _ b c => b.refs ++ c.refs
  | .tup l => l.refs
  | _ => []

def Blk.refs : Blk → List Nat
  | .box v => v.refs
  | _ => []

def Blk.isRow : Blk → Bool
  | .row _ _ _ => true
  | _ => false

def memB (i : Nat) : List Nat → Bool
  | [] => false
  | j :: r => bif Nat.beq i j then true else memB i r

theorem memB_iff {i : Nat} : ∀ {l : List Nat}, memB i l = true ↔ i ∈ l
  | [] => by simp [memB]
  | j :: r => by
    simp only [memB]
    cases h : Nat.beq i j with
    | true => have := Nat.eq_of_beq_eq_true h; subst this; simp
    | false =>
      simp only [cond_false, memB_iff, List.mem_cons]
      constructor
      · exact .inr
      · rintro (e | e)
        · subst e; simp at h
        · exact e

/-- All that is reached, in the order in which it is met. -/
def coll : Nat → List Nat → Hp → List Nat → List Nat
  | 0, _, _, seen => seen
  | _ + 1, [], _, seen => seen
  | n + 1, i :: wl, H, seen => bif memB i seen then coll n wl H seen else (match hget H i with
    | some k => coll n (k.refs ++ wl) H (seen ++ [i])
    | none => coll n wl H seen)

def pickB (f : Blk → Bool) (H : Hp) : List Nat → List Nat
  | [] => []
  | i :: r => (match hget H i with
    | some k => bif f k then i :: pickB f H r else pickB f H r
    | none => pickB f H r)

/-- What is reached from these: the variables first, then the rows. -/
def reach (roots : List Nat) (H : Hp) : List Nat :=
  pickB (fun k => !k.isRow) H (coll 200 roots H []) ++ pickB Blk.isRow H (coll 200 roots H [])

def posOf : Nat → List Nat → Nat → Option Nat
  | _, [], _ => none
  | i, j :: r, n => bif Nat.beq i j then some n else posOf i r (n + 1)

def AV.ren (ρ : Nat → Option Nat) : AV → AV
  | .ptr id p => (match ρ id with | some j => .ptr j p | none => .junk)
  | .row id => (match ρ id with | some j => .row j | none => .junk)
  | .obj id => (match ρ id with | some j => .obj j | none => .junk)
  | .mp id => (match ρ id with | some j => .mp j | none => .junk)
  | .cons a b => .cons (a.ren ρ) (b.ren ρ)
  | .fn f b c => .fn f (b.ren ρ) (c.ren ρ)
  | .tup l => .tup (l.ren ρ)
  | a => a

def Blk.ren (ρ : Nat → Option Nat) : Blk → Blk
  | .box v => .box (v.ren ρ)
  | b => b

/-- The blocks of these numbers, seen by their places. -/
def take (ρ : Nat → Option Nat) (H : Hp) : List Nat → Option (List Blk)
  | [] => some []
  | i :: r => (match hget H i, take ρ H r with
    | some k, some l => some (k.ren ρ :: l)
    | _, _ => none)

def enumB : Nat → List Blk → Hp
  | _, [] => []
  | n, k :: r => (n, some k) :: enumB (n + 1) r

def distinct : List Nat → Bool
  | [] => true
  | i :: r => !memB i r && distinct r

abbrev Entry := ∀ {R : Type}, List AV → List Blk → (AV → List Blk → Option R) → Option R

/-- How many of the blocks are variables: they come first. -/
def nBox : List Blk → Nat
  | [] => 0
  | k :: r => bif k.isRow then 0 else nBox r + 1

/-- How a caller numbers what comes back: its own variables keep their numbers; all else is new. -/
def backTo (ids : List Nat) (nb nid len : Nat) (j : Nat) : Option Nat :=
  bif Nat.blt j len then (bif Nat.blt j nb then ids[j]? else some (nid + j)) else none

def enumR (ρ : Nat → Option Nat) : Nat → List Blk → Hp
  | _, [] => []
  | j, k :: r => (match ρ j with | some i => [(i, some (k.ren ρ))] | none => []) ++ enumR ρ (j + 1) r

def gone : List Nat → Hp
  | [] => []
  | i :: r => (i, none) :: gone r

/-! ### Laws -/
theorem AVC_ren {M : Mem} {μ μ' : Map} {ρ : Nat → Option Nat} (h : ∀ i j, ρ i = some j → μ' j = μ i) : ∀ (a : AV),
    (∀ cs, AVC M μ a cs → AVC M μ' (a.ren ρ) cs) ∧ (∀ vs, AVL M μ a vs → AVL M μ' (a.ren ρ) vs) ∧ (a.ren ρ).isAgg = a.isAgg
  | .tv τ x => ⟨fun cs h => h, fun vs h => h, rfl⟩
  | .ptr id p => by
    have h2 : (AV.ren ρ (.ptr id p)).isAgg = false := by simp only [AV.ren]; split <;> rfl
    refine ⟨fun cs hc => ?_, fun vs hv => by simp only [AVL] at hv, h2⟩
    simp only [AVC] at hc
    obtain ⟨l, b, h1, h2, rfl, h3⟩ := hc
    simp only [AV.ren]
    split
    · rename_i j hj
      simp only [AVC]
      exact ⟨l, b, by rw [h id j hj]; exact h1, h2, rfl, h3⟩
    · simp only [AVC]; exact ⟨_, rfl, rfl⟩
  | .row id => by
    have h2 : (AV.ren ρ (.row id)).isAgg = false := by simp only [AV.ren]; split <;> rfl
    refine ⟨fun cs hc => ?_, fun vs hv => by simp only [AVL] at hv, h2⟩
    simp only [AVC] at hc
    obtain ⟨b, len, cap, h1, rfl⟩ := hc
    simp only [AV.ren]
    split
    · rename_i j hj
      simp only [AVC]
      exact ⟨b, len, cap, by rw [h id j hj]; exact h1, rfl⟩
    · simp only [AVC]; exact ⟨_, rfl, rfl⟩
  | .obj id => by
    have h2 : (AV.ren ρ (.obj id)).isAgg = false := by simp only [AV.ren]; split <;> rfl
    refine ⟨fun cs hc => ?_, fun vs hv => by simp only [AVL] at hv, h2⟩
    simp only [AVC] at hc
    obtain ⟨b, h1, rfl⟩ := hc
    simp only [AV.ren]
    split
    · rename_i j hj
      simp only [AVC]
      exact ⟨b, by rw [h id j hj]; exact h1, rfl⟩
    · simp only [AVC]; exact ⟨_, rfl, rfl⟩
  | .mp id => by
    have h2 : (AV.ren ρ (.mp id)).isAgg = false := by simp only [AV.ren]; split <;> rfl
    refine ⟨fun cs hc => ?_, fun vs hv => by simp only [AVL] at hv, h2⟩
    simp only [AVC] at hc
    obtain ⟨b, h1, rfl⟩ := hc
    simp only [AV.ren]
    split
    · rename_i j hj
      simp only [AVC]
      exact ⟨b, by rw [h id j hj]; exact h1, rfl⟩
    · simp only [AVC]; exact ⟨_, rfl, rfl⟩
  | .fp τ x => ⟨fun cs h => by simpa only [AVC, AV.ren] using h, fun vs h => by simp only [AVL] at h, rfl⟩
  | .sln b e xs => ⟨fun cs h => by simpa only [AVC, AV.ren] using h, fun vs h => by simp only [AVL] at h, rfl⟩
  | .nilp => ⟨fun cs h => by simpa only [AVC, AV.ren] using h, fun vs h => by simp only [AVL] at h, rfl⟩
  | .nilf => ⟨fun cs h => by simpa only [AVC, AV.ren] using h, fun vs h => by simp only [AVL] at h, rfl⟩
  | .junk => ⟨fun cs h => by simpa only [AVC, AV.ren] using h, fun vs h => by simp only [AVL] at h, rfl⟩
  | .dead => ⟨fun cs h => by simp only [AVC] at h, fun vs h => by simp only [AVL] at h, rfl⟩
  | .nil => ⟨fun cs h => by simpa only [AVC, AV.ren] using h, fun vs h => by simpa only [AVL, AV.ren] using h, rfl⟩
  | .cons a b => by
    obtain ⟨a1, _, a3⟩ := AVC_ren h a
    obtain ⟨b1, b2, _⟩ := AVC_ren h b
    refine ⟨fun cs hc => ?_, fun vs hv => ?_, rfl⟩
    · simp only [AVC, AV.ren] at hc ⊢
      obtain ⟨c1, c2, e, h1, h2⟩ := hc
      exact ⟨c1, c2, e, a1 _ h1, b1 _ h2⟩
    · simp only [AVL, AV.ren] at hv ⊢
      obtain ⟨v, r, c, e, h1, h2, h3⟩ := hv
      exact ⟨v, r, c, e, a1 _ h1, by rw [a3]; exact h2, b2 _ h3⟩
  | .fn f b c => by
    obtain ⟨_, b2, _⟩ := AVC_ren h b
    obtain ⟨_, c2, _⟩ := AVC_ren h c
    refine ⟨fun cs hc => ?_, fun vs hv => by simp only [AVL] at hv, rfl⟩
    simp only [AVC, AV.ren] at hc ⊢
    obtain ⟨us, vs, e, h0, h1⟩ := hc
    exact ⟨us, vs, e, b2 _ h0, c2 _ h1⟩
  | .tup l => ⟨fun cs h => by simp only [AVC] at h, fun vs h => by simp only [AVL] at h, rfl⟩

theorem AVV_ren {M : Mem} {μ μ' : Map} {ρ : Nat → Option Nat} (h : ∀ i j, ρ i = some j → μ' j = μ i) {a : AV} {v : Value} (ha : AVV M μ a v) : AVV M μ' (a.ren ρ) v := by
  cases hl : a.live with
  | true =>
    obtain ⟨cs, h1, h2⟩ := AVV_live ha hl
    obtain ⟨r1, _, r3⟩ := AVC_ren (M := M) h a
    exact AVV_of (r1 _ h1) (by rw [r3]; exact h2)
  | false =>
    cases a with
    | dead => trivial
    | tup l =>
      obtain ⟨vs, e, h1⟩ := ha
      exact ⟨vs, e, (AVC_ren (M := M) h l).2.1 _ h1⟩
    | _ => cases hl

theorem BR_ren {M : Mem} {μ μ' : Map} {ρ : Nat → Option Nat} (h : ∀ i j, ρ i = some j → μ' j = μ i) {w : World} {l : Loc} {k : Blk} (hb : BR M μ w l k) : BR M μ' w l (k.ren ρ) := by
  cases k with
  | box v =>
    cases l with
    | box b =>
      obtain ⟨cs, T, h1, h2⟩ := hb
      exact ⟨cs, T, h1, (AVC_ren h v).1 _ h2⟩
    | row b len cap => cases b <;> exact hb.elim
    | obj b => exact hb.elim
  | row e xs fz =>
    cases l with
    | row b len cap => cases b <;> exact hb
    | box b => exact hb.elim
    | obj b => exact hb.elim
  | iter s pos =>
    cases l with
    | obj b => exact hb
    | box b => exact hb.elim
    | row b len cap => cases b <;> exact hb.elim
  | mp κ l0 =>
    cases l with
    | obj b => exact hb
    | box b => exact hb.elim
    | row b len cap => cases b <;> exact hb.elim

theorem Blk.ren_row {ρ : Nat → Option Nat} {k : Blk} {e : Ty} {xs : List e.T} {fz : Bool} (h : k.ren ρ = .row e xs fz) : k = .row e xs fz := by
  cases k <;> simp [Blk.ren] at h ⊢ <;> exact h

theorem posOf_some : ∀ {l : List Nat} {i n j : Nat}, posOf i l n = some j → n ≤ j ∧ l[j - n]? = some i
  | [], i, n, j, h => by simp [posOf] at h
  | k :: r, i, n, j, h => by
    simp only [posOf] at h
    cases hb : Nat.beq i k with
    | true =>
      rw [hb] at h
      simp only [cond_true, Option.some.injEq] at h
      subst h
      have := Nat.eq_of_beq_eq_true hb
      subst this
      simp
    | false =>
      rw [hb] at h
      simp only [cond_false] at h
      obtain ⟨h1, h2⟩ := posOf_some h
      refine ⟨by omega, ?_⟩
      have : j - n = (j - (n + 1)) + 1 := by omega
      rw [this]
      simpa using h2

theorem take_some : ∀ {ρ : Nat → Option Nat} {H : Hp} {ids : List Nat} {l : List Blk}, take ρ H ids = some l → l.length = ids.length ∧ ∀ (j i : Nat), ids[j]? = some i → ∃ k, hget H i = some k ∧ l[j]? = some (k.ren ρ)
  | ρ, H, [], l, h => by
    simp only [take, Option.some.injEq] at h
    subst h
    exact ⟨rfl, fun j i hi => by simp at hi⟩
  | ρ, H, i :: r, l, h => by
    simp only [take] at h
    split at h
    case h_2 => cases h
    rename_i k l' hk hl'
    simp only [Option.some.injEq] at h
    subst h
    obtain ⟨h1, h2⟩ := take_some hl'
    refine ⟨by simp [h1], fun j i' hi => ?_⟩
    cases j with
    | zero =>
      simp only [List.getElem?_cons_zero, Option.some.injEq] at hi
      subst hi
      exact ⟨k, hk, rfl⟩
    | succ j => simpa using h2 j i' (by simpa using hi)

theorem enumB_get : ∀ (l : List Blk) (n i : Nat), hget (enumB n l) i = if n ≤ i then l[i - n]? else none
  | [], n, i => by simp [enumB, hget, alGet]
  | k :: r, n, i => by
    rw [enumB, hget_cons, enumB_get r (n + 1) i]
    by_cases h : n = i
    · subst h; simp
    · rw [if_neg h]
      by_cases h2 : n ≤ i
      · rw [if_pos h2, if_pos (by omega)]
        have : i - n = (i - (n + 1)) + 1 := by omega
        rw [this]; simp
      · rw [if_neg h2, if_neg (by omega)]

theorem distinct_inj : ∀ {l : List Nat}, distinct l = true → ∀ {i j a : Nat}, l[i]? = some a → l[j]? = some a → i = j
  | [], _, i, j, a, h, _ => by simp at h
  | x :: r, hd, i, j, a, hi, hj => by
    simp only [distinct, Bool.and_eq_true, Bool.not_eq_true'] at hd
    obtain ⟨h1, h2⟩ := hd
    have hx : ∀ (k : Nat), r[k]? = some x → False := by
      intro k hk
      have : memB x r = true := memB_iff.2 (List.mem_of_getElem? hk)
      rw [h1] at this; cases this
    cases i with
    | zero =>
      simp only [List.getElem?_cons_zero, Option.some.injEq] at hi
      subst hi
      cases j with
      | zero => rfl
      | succ j => exact absurd (by simpa using hj) (hx j)
    | succ i =>
      cases j with
      | zero =>
        simp only [List.getElem?_cons_zero, Option.some.injEq] at hj
        subst hj
        exact absurd (by simpa using hi) (hx i)
      | succ j =>
        have := distinct_inj h2 (i := i) (j := j) (a := a) (by simpa using hi) (by simpa using hj)
        omega

/-- The callee's view of the memory. -/
theorem Hold.outTo {c : Ctx} {M : Mem} {μ : Map} {H : Hp} {w : World} (h : Hold c M μ H w) {ids : List Nat} (hd : distinct ids = true) {blks : List Blk} (ht : take (fun i => posOf i ids 0) H ids = some blks) :
    Hold ⟨w, fun b => ∃ i k l, i ∈ ids ∧ hget H i = some k ∧ μ i = some l ∧ l.blk = some b, M⟩ M (fun j => (ids[j]?).bind μ) (enumB 0 blks) w ∧ ∀ i j, posOf i ids 0 = some j → (fun j => (ids[j]?).bind μ) j = μ i := by
  have hρ : ∀ i j, posOf i ids 0 = some j → (fun j => (ids[j]?).bind μ) j = μ i := by
    intro i j hj
    obtain ⟨_, h2⟩ := posOf_some hj
    simp only [Nat.sub_zero] at h2
    simp only [h2, Option.bind_some]
  obtain ⟨hlen, hget1⟩ := take_some ht
  have key : ∀ j k, hget (enumB 0 blks) j = some k → ∃ i k', ids[j]? = some i ∧ hget H i = some k' ∧ k = k'.ren (fun i => posOf i ids 0) ∧ i ∈ ids := by
    intro j k hj
    rw [enumB_get, if_pos (Nat.zero_le _), Nat.sub_zero] at hj
    have hjl : j < ids.length := by rw [← hlen]; exact (List.getElem?_eq_some_iff.1 hj).1
    obtain ⟨k', h1, h2⟩ := hget1 j ids[j] (List.getElem?_eq_getElem hjl)
    rw [hj] at h2
    exact ⟨ids[j], k', List.getElem?_eq_getElem hjl, h1, Option.some.inj h2, List.getElem_mem _⟩
  refine ⟨?_, hρ⟩
  exact {
    mem := h.mem
    blks := fun j k hj => by
      obtain ⟨i, k', h1, h2, rfl, _⟩ := key j k hj
      obtain ⟨l, h3, h4⟩ := h.blks i k' h2
      exact ⟨l, by simp only [h1, Option.bind_some]; exact h3, BR_ren hρ h4⟩
    inj := fun j j' k k' l l' b hj hj' hl hl' hb hb' => by
      obtain ⟨i, k1, h1, h2, _, _⟩ := key j k hj
      obtain ⟨i', k2, h1', h2', _, _⟩ := key j' k' hj'
      simp only [h1, Option.bind_some] at hl
      simp only [h1', Option.bind_some] at hl'
      have := h.inj i i' k1 k2 l l' b h2 h2' hl hl' hb hb'
      subst this
      exact distinct_inj hd h1 h1'
    exc := fun j k l b o v hj hl hb hv => by
      obtain ⟨i, k1, h1, h2, h3, _⟩ := key j k hj
      simp only [h1, Option.bind_some] at hl
      obtain ⟨e, xs, h4, h5⟩ := h.exc i k1 l b o v h2 hl hb hv
      exact ⟨e, xs, by rw [h3, h4]; rfl, h5⟩
    own := fun j k l b hj hl hb => by
      obtain ⟨i, k1, h1, h2, h3, h4⟩ := key j k hj
      simp only [h1, Option.bind_some] at hl
      exact .inl ⟨i, k1, l, h4, h2, hl, hb⟩
    mle := Mem.le.refl _
    mown := fun b o v hv => .inl hv
    os := rfl
    tape := rfl
    output := rfl
    size := Nat.le_refl _
    frame := fun b hb hn => rfl
    fz := fun a => rfl }

theorem enumR_get : ∀ (l : List Blk) (ρ : Nat → Option Nat) (n i : Nat) (k : Blk), hget (enumR ρ n l ++ ([] : Hp)) i = some k → ∃ j k', n ≤ j ∧ l[j - n]? = some k' ∧ ρ j = some i ∧ k = k'.ren ρ
  | [], ρ, n, i, k, h => by simp [enumR, hget, alGet] at h
  | b :: r, ρ, n, i, k, h => by
    simp only [enumR, List.append_nil] at h
    split at h
    · rename_i i' hi'
      rw [List.singleton_append, hget_cons] at h
      split at h
      · rename_i e
        subst e
        exact ⟨n, b, Nat.le_refl _, by simp, hi', (Option.some.inj h).symm⟩
      · obtain ⟨j, k', h1, h2, h3⟩ := enumR_get r ρ (n + 1) i k (by simpa using h)
        refine ⟨j, k', by omega, ?_, h3⟩
        have : j - n = (j - (n + 1)) + 1 := by omega
        rw [this]; simpa using h2
    · obtain ⟨j, k', h1, h2, h3⟩ := enumR_get r ρ (n + 1) i k (by simpa using h)
      refine ⟨j, k', by omega, ?_, h3⟩
      have : j - n = (j - (n + 1)) + 1 := by omega
      rw [this]; simpa using h2

theorem hget_enumR_append : ∀ (l : List Blk) (ρ : Nat → Option Nat) (n : Nat) (H : Hp) (i : Nat), (hget (enumR ρ n l ++ H) i = hget (enumR ρ n l ++ []) i ∧ ∃ k, hget (enumR ρ n l ++ []) i = some k) ∨ hget (enumR ρ n l ++ H) i = hget H i
  | [], ρ, n, H, i => .inr rfl
  | b :: r, ρ, n, H, i => by
    simp only [enumR]
    split
    · rename_i i' hi'
      rw [List.singleton_append, List.cons_append, List.cons_append, hget_cons, hget_cons]
      by_cases e : i' = i
      · rw [if_pos e, if_pos e]; exact .inl ⟨rfl, _, rfl⟩
      · rw [if_neg e, if_neg e]; exact hget_enumR_append r ρ (n + 1) H i
    · rw [List.nil_append]; exact hget_enumR_append r ρ (n + 1) H i

theorem hget_gone : ∀ (ids : List Nat) (H : Hp) (i : Nat) (k : Blk), hget (gone ids ++ H) i = some k → i ∉ ids ∧ hget H i = some k
  | [], H, i, k, h => ⟨by simp, h⟩
  | j :: r, H, i, k, h => by
    rw [gone, List.cons_append, hget_cons] at h
    split at h
    · cases h
    · rename_i e
      obtain ⟨h1, h2⟩ := hget_gone r H i k h
      exact ⟨by simp only [List.mem_cons, not_or]; exact ⟨fun e' => e e'.symm, h1⟩, h2⟩

/-- What the caller makes of the places of what comes back. -/
def backMap (μ μ' : Map) (nid len : Nat) : Map := fun i => if nid ≤ i ∧ i < nid + len then μ' (i - nid) else μ i

/-- The caller's view, when the callee has come back. -/
theorem Hold.back {c : Ctx} {M M' : Mem} {μ μ' : Map} {H : Hp} {w w' : World} (h : Hold c M μ H w) {ids : List Nat} {nb nid : Nat} {blks : List Blk} (hnb : nb ≤ ids.length)
    (hlive : ∀ i ∈ ids, ∃ k, hget H i = some k) (hf : ∀ i, nid ≤ i → i < nid + blks.length → μ i = none)
    (hc : Hold ⟨w, fun b => ∃ i k l, i ∈ ids ∧ hget H i = some k ∧ μ i = some l ∧ l.blk = some b, M⟩ M' μ' (enumB 0 blks) w')
    (hbox : ∀ j i, j < nb → ids[j]? = some i → μ' j = μ i) (hdist : distinct ids = true) :
    Hold c M' (backMap μ μ' nid blks.length) (enumR (backTo ids nb nid blks.length) 0 blks ++ (gone ids ++ H)) w' ∧ μ.le (backMap μ μ' nid blks.length) ∧
      (∀ j i, backTo ids nb nid blks.length j = some i → backMap μ μ' nid blks.length i = μ' j) ∧ ∀ i, backMap μ μ' nid blks.length i ≠ none → μ i ≠ none ∨ (nid ≤ i ∧ i < nid + blks.length) := by
  have hle : μ.le (backMap μ μ' nid blks.length) := by
    intro i l hi
    unfold backMap
    split
    · rename_i h1
      rw [hf i h1.1 h1.2] at hi; cases hi
    · exact hi
  have hρ : ∀ j i, backTo ids nb nid blks.length j = some i → backMap μ μ' nid blks.length i = μ' j := by
    intro j i hj
    unfold backTo at hj
    cases h1 : Nat.blt j blks.length with
    | false => rw [h1] at hj; simp at hj
    | true =>
      rw [h1] at hj
      have h1 : j < blks.length := by simpa [Nat.blt_eq] using h1
      simp only [cond_true] at hj
      cases h2 : Nat.blt j nb with
      | true =>
        rw [h2] at hj
        have h2 : j < nb := by simpa [Nat.blt_eq] using h2
        simp only [cond_true] at hj
        rw [hbox j i h2 hj]
        obtain ⟨k, hk⟩ := hlive i (List.mem_of_getElem? hj)
        obtain ⟨l, hl, _⟩ := h.blks i k hk
        rw [hl, hle i l hl]
      | false =>
        rw [h2] at hj
        simp only [cond_false, Option.some.injEq] at hj
        subst hj
        unfold backMap
        rw [if_pos ⟨by omega, by omega⟩]
        congr 1; omega
  have hrho_inj : ∀ j j' i, backTo ids nb nid blks.length j = some i → backTo ids nb nid blks.length j' = some i → j = j' := by
    intro j j' i hj hj'
    have split_ : ∀ j, backTo ids nb nid blks.length j = some i → (j < nb ∧ ids[j]? = some i) ∨ (i = nid + j ∧ j < blks.length) := by
      intro j hj
      unfold backTo at hj
      cases h1 : Nat.blt j blks.length with
      | false => rw [h1] at hj; simp at hj
      | true =>
        rw [h1] at hj
        have h1 : j < blks.length := by simpa [Nat.blt_eq] using h1
        simp only [cond_true] at hj
        cases h2 : Nat.blt j nb with
        | true =>
          rw [h2] at hj
          exact .inl ⟨by simpa [Nat.blt_eq] using h2, hj⟩
        | false =>
          rw [h2] at hj
          simp only [cond_false, Option.some.injEq] at hj
          exact .inr ⟨hj.symm, h1⟩
    have no : ∀ {j j' : Nat}, ids[j]? = some i → (i = nid + j' ∧ j' < blks.length) → False := by
      intro j j' h1 h2
      obtain ⟨k, hk⟩ := hlive i (List.mem_of_getElem? h1)
      obtain ⟨l, hl, _⟩ := h.blks i k hk
      rw [hf i (by omega) (by omega)] at hl; cases hl
    rcases split_ j hj with ⟨_, h1⟩ | h1 <;> rcases split_ j' hj' with ⟨_, h2⟩ | h2
    · exact distinct_inj hdist h1 h2
    · exact (no h1 h2).elim
    · exact (no h2 h1).elim
    · omega
  have key : ∀ {i k}, hget (enumR (backTo ids nb nid blks.length) 0 blks ++ (gone ids ++ H)) i = some k →
      (∃ j k', hget (enumB 0 blks) j = some k' ∧ backTo ids nb nid blks.length j = some i ∧ k = k'.ren (backTo ids nb nid blks.length)) ∨ (hget H i = some k ∧ i ∉ ids) := by
    intro i k hi
    rcases hget_enumR_append blks (backTo ids nb nid blks.length) 0 (gone ids ++ H) i with ⟨h1, _⟩ | h1
    · rw [h1] at hi
      obtain ⟨j, k', h2, h3, h4, h5⟩ := enumR_get blks _ 0 i k hi
      refine .inl ⟨j, k', ?_, h4, h5⟩
      rw [enumB_get, if_pos (Nat.zero_le _)]; exact h3
    · rw [h1] at hi
      obtain ⟨h2, h3⟩ := hget_gone ids H i k hi
      exact .inr ⟨h3, h2⟩
  have cmay : ∀ {b}, (∃ i k l, i ∈ ids ∧ hget H i = some k ∧ μ i = some l ∧ l.blk = some b) ∨ w.heap.size ≤ b → c.may b := by
    rintro b (⟨i, k, l, _, h1, h2, h3⟩ | h1)
    · exact h.own i k l b h1 h2 h3
    · exact .inr (Nat.le_trans h.size h1)
  -- a block of the caller's own that was not handed over
  have rest : ∀ {i k l b}, hget H i = some k → i ∉ ids → μ i = some l → l.blk = some b → ¬ ((∃ i k l, i ∈ ids ∧ hget H i = some k ∧ μ i = some l ∧ l.blk = some b) ∨ w.heap.size ≤ b) := by
    rintro i k l b hi hn hl hb (⟨i', k', l', h1, h2, h3, h4⟩ | h1)
    · exact hn (h.inj i' i k' k l' l b h2 hi h3 hl h4 hb ▸ h1)
    · obtain ⟨l1, h2, h3⟩ := h.blks i k hi
      rw [hl] at h2
      cases h2
      have := h3.lt hb
      omega
  have memle : M.le M' := hc.mle
  refine ⟨?_, hle, hρ, ?_⟩
  · exact {
      mem := hc.mem
      blks := fun i k hi => by
        rcases key hi with ⟨j, k', h1, h2, rfl⟩ | ⟨h1, h2⟩
        · obtain ⟨l, h3, h4⟩ := hc.blks j k' h1
          exact ⟨l, by rw [hρ j i h2]; exact h3, BR_ren hρ h4⟩
        · obtain ⟨l, h3, h4⟩ := h.blks i k h1
          refine ⟨l, hle i l h3, h4.mono memle hle fun b hb => ?_⟩
          have hnot := rest h1 h2 h3 hb
          exact hc.frame b (h4.lt hb) (fun hx => hnot (.inl hx))
      inj := fun i i' k k' l l' b hi hi' hl hl' hb hb' => by
        rcases key hi with ⟨j, k1, h1, h2, _⟩ | ⟨h1, h2⟩ <;> rcases key hi' with ⟨j', k2, h1', h2', _⟩ | ⟨h1', h2'⟩
        · rw [hρ j i h2] at hl
          rw [hρ j' i' h2'] at hl'
          have := hc.inj j j' k1 k2 l l' b h1 h1' hl hl' hb hb'
          subst this
          rw [h2] at h2'
          exact Option.some.inj h2'
        · rw [hρ j i h2] at hl
          obtain ⟨l2, h3, _⟩ := h.blks i' k' h1'
          obtain rfl : l2 = l' := Option.some.inj ((hle _ _ h3).symm.trans hl')
          exact absurd (hc.own j k1 l b h1 hl hb) (rest h1' h2' h3 hb')
        · rw [hρ j' i' h2'] at hl'
          obtain ⟨l2, h3, _⟩ := h.blks i k h1
          obtain rfl : l2 = l := Option.some.inj ((hle _ _ h3).symm.trans hl)
          exact absurd (hc.own j' k2 l' b h1' hl' hb') (rest h1 h2 h3 hb)
        · obtain ⟨l2, h3, _⟩ := h.blks i k h1
          obtain rfl : l2 = l := Option.some.inj ((hle _ _ h3).symm.trans hl)
          obtain ⟨l3, h4, _⟩ := h.blks i' k' h1'
          obtain rfl : l3 = l' := Option.some.inj ((hle _ _ h4).symm.trans hl')
          exact h.inj i i' k k' _ _ b h1 h1' h3 h4 hb hb'
      exc := fun i k l b o v hi hl hb hv => by
        rcases key hi with ⟨j, k1, h1, h2, rfl⟩ | ⟨h1, h2⟩
        · rw [hρ j i h2] at hl
          obtain ⟨e, xs, h4, h5⟩ := hc.exc j k1 l b o v h1 hl hb hv
          exact ⟨e, xs, by rw [h4]; rfl, h5⟩
        · obtain ⟨l2, h3, _⟩ := h.blks i k h1
          obtain rfl : l2 = l := Option.some.inj ((hle _ _ h3).symm.trans hl)
          rcases hc.mown b o v hv with h4 | h4
          · exact h.exc i k _ b o v h1 h3 hb h4
          · exact absurd h4 (rest h1 h2 h3 hb)
      own := fun i k l b hi hl hb => by
        rcases key hi with ⟨j, k1, h1, h2, _⟩ | ⟨h1, h2⟩
        · rw [hρ j i h2] at hl
          exact cmay (hc.own j k1 l b h1 hl hb)
        · obtain ⟨l2, h3, _⟩ := h.blks i k h1
          obtain rfl : l2 = l := Option.some.inj ((hle _ _ h3).symm.trans hl)
          exact h.own i k _ b h1 h3 hb
      mle := h.mle.trans memle
      mown := fun b o v hv => by
        rcases hc.mown b o v hv with h4 | h4
        · exact h.mown b o v h4
        · exact .inr (cmay h4)
      fz := fun a => (hc.fz a).trans (h.fz a)
      os := hc.os.trans h.os
      tape := hc.tape.trans h.tape
      output := hc.output.trans h.output
      size := Nat.le_trans h.size hc.size
      frame := fun b hb hn => by
        have h1 : b < w.heap.size := Nat.lt_of_lt_of_le hb h.size
        rw [hc.frame b h1 (fun hx => ?_)]
        · exact h.frame b hb hn
        · rcases cmay (.inl hx) with h2 | h2
          · exact hn h2
          · omega }
  · intro i hi
    unfold backMap at hi
    split at hi
    · rename_i h1; exact .inr h1
    · exact .inl hi

end Go.Av

/-
  An operation or a call, as one step; a statement's list of them in the text's order.
-/
namespace Go.Av
section
variable {P : Program}

def AVs (M : Mem) (μ : Map) : List AV → List Value → Prop
  | [], vs => vs = []
  | a :: r, vs => ∃ v vr, vs = v :: vr ∧ AVV M μ a v ∧ AVs M μ r vr

theorem AVs.mono {M M' : Mem} {μ μ' : Map} (hM : M.le M') (hμ : μ.le μ') : ∀ {as : List AV} {vs : List Value}, AVs M μ as vs → AVs M' μ' as vs
  | [], _, h => h
  | _ :: _, _, ⟨v, vr, e, h1, h2⟩ => ⟨v, vr, e, h1.mono hM hμ, AVs.mono hM hμ h2⟩

theorem AVs.append {M : Mem} {μ : Map} : ∀ {as bs : List AV} {vs us : List Value}, AVs M μ as vs → AVs M μ bs us → AVs M μ (as ++ bs) (vs ++ us)
  | [], _, _, _, h, k => by simp only [AVs] at h; subst h; exact k
  | _ :: _, _, _, _, ⟨v, vr, e, h1, h2⟩, k => by subst e; exact ⟨v, _, rfl, h1, AVs.append h2 k⟩

theorem AVs.ren {M : Mem} {μ μ' : Map} {ρ : Nat → Option Nat} (h : ∀ i j, ρ i = some j → μ' j = μ i) : ∀ {as : List AV} {vs : List Value}, AVs M μ as vs → AVs M μ' (as.map (AV.ren ρ)) vs
  | [], _, h => h
  | _ :: _, _, ⟨v, vr, e, h1, h2⟩ => ⟨v, vr, e, AVV_ren h h1, AVs.ren h h2⟩

def chainList : AV → List AV
  | .cons a b => a :: chainList b
  | _ => []

theorem AVL_list {M : Mem} {μ : Map} : ∀ {a : AV} {vs : List Value}, AVL M μ a vs → AVs M μ (chainList a) vs
  | .cons a b, vs, h => by
    simp only [AVL] at h
    obtain ⟨v, r, c, e, h1, h2, h3⟩ := h
    exact ⟨v, r, e, AVV_of h1 h2, AVL_list h3⟩
  | .nil, vs, h => by simp only [AVL] at h; exact h
  | .tv _ _, _, h | .ptr _ _, _, h | .row _, _, h | .fp _ _, _, h | .obj _, _, h | .mp _, _, h | .sln _ _ _, _, h | .nilp, _, h | .nilf, _, h | .fn _ _ _, _, h | .tup _, _, h | .junk, _, h | .dead, _, h => by simp only [AVL] at h

/-- A function's own part of the bargain: where the abstract call answers, the machine's call does, and so. -/
def FnOK (P : Program) (G : Nat → AV) (f : FuncId) (E : Entry) : Prop :=
  ∀ {R : Type} {args : List AV} {blks : List Blk} {K : AV → List Blk → Option R} {r : R}, E args blks K = some r →
    (∃ fn, P.funcs[f]? = some fn ∧ (fn.name == "runtime.NumGoroutine") = false ∧ fn.body.isNone = false) ∧
    ∀ {c : Ctx} {M : Mem} {μ : Map} {w : World} {vs : List Value}, c.w0 = w → c.M0 = M → Hold c M μ (enumB 0 blks) w → GlobOk M G → AVs M μ args vs → (∀ i, blks.length ≤ i → μ i = none) →
      Calls P f vs.toArray w fun e w' => ∃ v out blks' M' μ', e = .returned v ∧ K out blks' = some r ∧ Hold c M' μ' (enumB 0 blks') w' ∧ AVV M' μ' out v ∧ ∀ j, j < nBox blks → μ' j = μ j

abbrev Orc := FuncId → Entry

/-- What an entry tells does not hang on what is done with it. -/
def Natural (E : Entry) : Prop := ∀ {R : Type} (args : List AV) (blks : List Blk) (K : AV → List Blk → Option R), E args blks K = (E args blks fun o b => some (o, b)).bind fun p => K p.1 p.2

structure OrcOK (P : Program) (G : Nat → AV) (orc : Orc) : Prop where
  ok : ∀ f, FnOK P G f (orc f)
  nat : ∀ f, Natural (orc f)

def evArgs (G : Nat → AV) (S : St) : List (Opd × Option Ty) → Hp → Option (List AV × Hp)
  | [], _ => some ([], [])
  | (x, none) :: r, H => bif (ev G S x).live then (match evArgs G S r H with
    | some (as, d) => some (ev G S x :: as, d)
    | none => none) else none
  | (x, some τ) :: r, H => (match toTF τ (ev G S x) H with
    | some (y, d) => (match evArgs G S r (d ++ H) with
      | some (as, d') => some (.tv τ y :: as, d' ++ d)
      | none => none)
    | none => none)

def refsOf : List AV → List Nat
  | [] => []
  | a :: r => a.refs ++ refsOf r

/-- The call of a function: what it is handed, and what comes back. -/
def acall {R : Type} (orc : Orc) (f : FuncId) (all : List AV) (H d : Hp) (nid : Nat) (K : AV → Upd → Option R) : Option R :=
  bif distinct (reach (refsOf all) H) then (match take (fun i => posOf i (reach (refsOf all) H) 0) H (reach (refsOf all) H) with
    | some blks => orc f (all.map (AV.ren fun i => posOf i (reach (refsOf all) H) 0)) blks fun out blks' =>
        K (out.ren (backTo (reach (refsOf all) H) (nBox blks) nid blks'.length)) ⟨enumR (backTo (reach (refsOf all) H) (nBox blks) nid blks'.length) 0 blks' ++ (gone (reach (refsOf all) H) ++ d), blks'.length⟩
    | none => none) else none

inductive AAct where
  | op (o : AOp)
  | call (fn : Opd) (args : List (Opd × Option Ty))

def actK {R : Type} (G : Nat → AV) (orc : Orc) (act : AAct) (S : St) (nid : Nat) (K : AV → Upd → Option R) : Option R :=
  match act with
  | .op o => aop G o S nid K
  | .call fn args => (match ev G S fn with
    | .fn f first caps => (match evArgs G S args S.H with
      | some (as, d) => acall orc f (chainList first ++ (as ++ chainList caps)) (d ++ S.H) d nid K
      | none => none)
    | _ => none)

def margs : List (Opd × Option Ty) → List Operand → Bool
  | [], [] => true
  | (x, _) :: r, y :: r' => mo x y && margs r r'
  | _, _ => false

def mact (P : Program) : AAct → Op → Bool
  | .op o, q => mop P o q
  | .call fn args, .call c => (match c.callee with
    | .value f => mo fn f && margs args c.args.toList
    | _ => false)
  | .call _ _, _ => false

/-! ### One step -/
theorem sound_all (op : AOp) : Sound P op := by
  cases op with
  | mv x => exact sound_mv x
  | pick x y z => exact sound_pick x y z
  | alloc T sh => exact sound_alloc T sh
  | box x => exact sound_box x
  | build T sh parts => exact sound_build T sh parts
  | bslice e parts => exact sound_bslice e parts
  | load agg n x => exact sound_load agg n x
  | store n cv x v => exact sound_store n cv x v
  | nilc x => exact sound_nilc x
  | bin op x y => exact sound_bin op x y
  | eqa neg τ x y => exact sound_eqa neg τ x y
  | eqb neg x y => exact sound_eqb neg x y
  | eqp neg x y => exact sound_eqp neg x y
  | eqf neg x y => exact sound_eqf neg x y
  | eqn neg x => exact sound_eqn neg x
  | un op x => exact sound_un op x
  | conv k x => exact sound_conv k x
  | bstr x => exact sound_bstr x
  | mkfn f first caps => exact sound_mkfn f first caps
  | mkslice e n c => exact sound_mkslice e n c
  | slis x lo hi => exact sound_slis x lo hi
  | slia e x lo hi => exact sound_slia e x lo hi
  | fad i off x => exact sound_fad i off x
  | fld i off n agg x => exact sound_fld i off n agg x
  | iad n sz x i => exact sound_iad n sz x i
  | iads e x i => exact sound_iads e x i
  | ix n sz agg x i => exact sound_ix n sz agg x i
  | ixs x i => exact sound_ixs x i
  | ext x i => exact sound_ext x i
  | app e x y => exact sound_app e x y
  | len x => exact sound_len x
  | lens x => exact sound_lens x
  | lenc n x => exact sound_lenc n x
  | mx x y => exact sound_mx x y
  | mn x y => exact sound_mn x y
  | rng x => exact sound_rng x
  | nxt x => exact sound_nxt x
  | nrow e => exact sound_nrow e
  | mkmap κ => exact sound_mkmap κ
  | mlook κ ok m k => exact sound_mlook κ ok m k
  | mput κ m k v => exact sound_mput κ m k v
  | ment κ m k => exact sound_ment κ m k
  | mest m s v => exact sound_mest m s v
  | bad => exact sound_bad

theorem evArgs_ok {c : Ctx} {μ : Map} {w : World} {G : Nat → AV} {S : St} {a : Act} : ∀ (xs : List (Opd × Option Ty)) (ys : List Operand) {M : Mem} {H : Hp} {as : List AV} {d : Hp}, GlobOk M G → EnvOk M μ S a → margs xs ys = true → evArgs G S xs H = some (as, d) → Hold c M μ H w →
    ∃ M', M.le M' ∧ Hold c M' μ (d ++ H) w ∧ AVs M' μ as (ys.map a.eval)
  | [], [], M, H, as, d, _, _, _, h, hH => by
    simp only [evArgs, Option.some.injEq, Prod.mk.injEq] at h
    obtain ⟨rfl, rfl⟩ := h
    exact ⟨M, Mem.le.refl _, hH, rfl⟩
  | (x, none) :: xs, y :: ys, M, H, as, d, hG, hE, hm, h, hH => by
    simp only [margs, Bool.and_eq_true] at hm
    simp only [evArgs] at h
    cases hl : (ev G S x).live with
    | false => rw [hl] at h; simp at h
    | true =>
      rw [hl] at h
      simp only [cond_true] at h
      split at h
      case h_2 => cases h
      rename_i as' d' h'
      simp only [Option.some.injEq, Prod.mk.injEq] at h
      obtain ⟨rfl, rfl⟩ := h
      obtain ⟨M', l1, H1, A1⟩ := evArgs_ok xs ys hG hE hm.2 h' hH
      exact ⟨M', l1, H1, _, _, rfl, (mo_ok hG hE hm.1).mono l1 (Map.le.refl _), A1⟩
  | (x, some τ) :: xs, y :: ys, M, H, as, d, hG, hE, hm, h, hH => by
    simp only [margs, Bool.and_eq_true] at hm
    simp only [evArgs] at h
    split at h
    case h_2 => cases h
    rename_i y1 d1 h1
    split at h
    case h_2 => cases h
    rename_i as' d' h'
    simp only [Option.some.injEq, Prod.mk.injEq] at h
    obtain ⟨rfl, rfl⟩ := h
    obtain ⟨M1, l1, H1, cs, t1, v1⟩ := toTF_AVV h1 hH (mo_ok hG hE hm.1)
    obtain ⟨M', l2, H2, A2⟩ := evArgs_ok xs ys (hG.mono l1) (fun t => (hE t).mono l1 (Map.le.refl _)) hm.2 h' H1
    exact ⟨M', l1.trans l2, by simpa only [List.append_assoc] using H2, _, _, rfl, AVV_tv.2 ⟨cs, t1.mono l2, v1⟩, A2⟩
  | [], _ :: _, _, _, _, _, _, _, hm, _, _ => by simp [margs] at hm
  | (_, none) :: _, [], _, _, _, _, _, _, hm, _, _ => by simp [margs] at hm
  | (_, some _) :: _, [], _, _, _, _, _, _, hm, _, _ => by simp [margs] at hm

theorem nBox_le : ∀ l : List Blk, nBox l ≤ l.length
  | [] => Nat.le_refl _
  | k :: r => by
    simp only [nBox]
    cases k.isRow with
    | true => simp
    | false => simpa using nBox_le r

/-- What is needed of a step's new numbers. -/
def Fresh (μ : Map) (nid na : Nat) : Prop := ∀ i, nid ≤ i → i < nid + na → μ i = none

theorem act_ok {c : Ctx} {M : Mem} {μ : Map} {G : Nat → AV} {orc : Orc} {S : St} {a : Act} {w : World} {nid : Nat} {o : Oper} {v : AV} {u : Upd} {act : AAct} (hp : Pre P c M μ G S a w) (ho : OrcOK P G orc) (hm : mact P act o.op = true)
    (hr : actK G orc act S nid (fun v u => some (v, u)) = some (v, u)) (hf : Fresh μ nid u.na) {next : Act → World → Prop} {Q : Exit → Act → World → Prop}
    (hn : ∀ v' w' M' μ', M.le M' → μ.le μ' → Hold c M' μ' (u.hs ++ S.H) w' → AVV M' μ' v v' → (∀ i, μ' i ≠ none → μ i ≠ none ∨ (nid ≤ i ∧ i < nid + u.na)) → next (a.put o.dst v') w') : o.wp P a w next Q := by
  cases act with
  | op op =>
    obtain ⟨M', μ', v', w', hrun, h1, h2, h3, h4, h5⟩ := sound_all op hp hm hr hf
    unfold Oper.wp
    rcases hrun with hrun | ⟨hrun, rfl⟩
    · rw [hrun]; exact hn v' w' M' μ' h1 h2 h3 h4 h5
    · rw [hrun]; exact hn undef w' M' μ' h1 h2 h3 h4 h5
  | call fn args =>
    generalize hq : o.op = q at hm
    cases q with
    | call cl =>
      simp only [mact] at hm
      split at hm
      case h_2 => cases hm
      rename_i f' hcallee
      simp only [Bool.and_eq_true] at hm
      have hfn := mo_ok hp.glob hp.env hm.1
      simp only [actK] at hr
      split at hr
      case h_2 => cases hr
      rename_i f first caps hef
      split at hr
      case h_2 => cases hr
      rename_i as d has
      rw [hef, AVV_fn] at hfn
      obtain ⟨fvs, cvs, hfv, hfirst, hcaps⟩ := hfn
      obtain ⟨M1, l1, H1, A1⟩ := evArgs_ok args cl.args.toList hp.glob hp.env hm.2 has hp.hold
      have A2 := ((AVL_list hfirst).mono l1 (Map.le.refl _)).append (A1.append ((AVL_list hcaps).mono l1 (Map.le.refl _)))
      unfold acall at hr
      generalize hids : reach (refsOf (chainList first ++ (as ++ chainList caps))) (d ++ S.H) = ids at hr
      cases hd : distinct ids with
      | false => rw [hd] at hr; simp at hr
      | true =>
        rw [hd] at hr
        simp only [cond_true] at hr
        split at hr
        case h_2 => cases hr
        rename_i blks htake
        obtain ⟨hexp, hρ⟩ := H1.outTo hd htake
        have hlen := (take_some htake).1
        obtain ⟨⟨fnc, hfnc, hname, hbody⟩, hcalls⟩ := ho.ok f hr
        have hC := hcalls (c := ⟨w, fun b => ∃ i k l, i ∈ ids ∧ hget (d ++ S.H) i = some k ∧ μ i = some l ∧ l.blk = some b, M1⟩) rfl rfl hexp (hp.glob.mono l1) (A2.ren hρ) (fun i hi => by
          rw [List.getElem?_eq_none (by omega)]; rfl)
        have hrun : (execOp a.eval o).run P w = .ok (.enter f (fvs ++ ((cl.args.toList.map a.eval) ++ cvs)).toArray) w := by
          have harr : fvs.toArray ++ (cl.args.map a.eval) ++ cvs.toArray = (fvs ++ ((cl.args.toList.map a.eval) ++ cvs)).toArray := by
            apply Array.ext'; simp
          simp only [execOp, hq, resolve, hcallee, hfv, Deferred.ofValue, Sem.run_bind, Sem.run_pure, Result.andThen_ok, invoke, callFunc, run_program, hfnc, hname, Bool.false_eq_true, if_false, hbody, harr]
        unfold Oper.wp
        rw [hrun]
        show Calls P f _ w _
        refine hC.mono ?_
        rintro e w' ⟨v', out, blks', M', μ', rfl, hK, hH', hv', hbx⟩
        simp only [Option.some.injEq, Prod.mk.injEq] at hK
        obtain ⟨hK1, hK2⟩ := hK
        subst hK1
        have hfr : ∀ i, nid ≤ i → i < nid + blks'.length → μ i = none := by
          intro i h1 h2
          refine hf i h1 ?_
          rw [← hK2]; exact h2
        obtain ⟨B1, B2, B3, B4⟩ := H1.back (nb := nBox blks) (by rw [← hlen]; exact nBox_le blks) (fun i hi => by
          obtain ⟨j, hj⟩ := List.mem_iff_getElem?.1 hi
          obtain ⟨k, hk, _⟩ := (take_some htake).2 j i hj
          exact ⟨k, hk⟩) hfr hH' (fun j i hj hi => by
            rw [hbx j hj, hi]; rfl) hd
        refine hn v' w' M' _ (l1.trans hH'.mle) B2 ?_ (AVV_ren B3 hv') ?_
        · rw [← hK2]
          simpa only [List.append_assoc] using B1
        · rw [← hK2]; exact B4
    | _ => simp [mact] at hm

end
end Go.Av

/-
  What a step tells does not hang on what is done with it.
-/
namespace Go.Av
section
variable {R : Type}

theorem binI_nat (op : BinOp) (k k' : IntKind) (x y : Int) (f : AV → AV × Upd) (K : AV × Upd → Option R) : binI op k k' x y (fun v => K (f v)) = (binI op k k' x y fun v => some (f v)).bind K := by
  unfold binI
  split
  · cases decide (y < 0) <;> rfl
  · cases decide (y < 0) <;> rfl
  · cases kEq k k'
    · rfl
    · simp only [cond_true]
      split <;> first | rfl | (cases decide (y = 0) <;> rfl)

theorem binS_nat (op : BinOp) (x y : List UInt8) (f : AV → AV × Upd) (K : AV × Upd → Option R) : binS op x y (fun v => K (f v)) = (binS op x y fun v => some (f v)).bind K := by
  unfold binS
  split
  · cases decide (x.length + y.length ≤ strMax) <;> rfl
  · rfl
  · rfl
  · rfl

theorem bnds_nat (n : Nat) (lo hi : Option AV) (f : Nat → Nat → AV × Upd) (K : AV × Upd → Option R) : bnds n lo hi (fun l h => K (f l h)) = (bnds n lo hi fun l h => some (f l h)).bind K := by
  unfold bnds
  split
  · rfl
  · rename_i k l; cases decide (0 ≤ (l : Int) ∧ (l : Int) ≤ n) <;> rfl
  · rename_i k h; cases decide (0 ≤ (h : Int) ∧ (h : Int) ≤ n) <;> rfl
  · rename_i k l k' h; cases decide (0 ≤ (l : Int) ∧ (l : Int) ≤ h ∧ (h : Int) ≤ n) <;> rfl
  · rfl

theorem cond_nat {α : Type} {b : Bool} {A B : Option R} {A' B' : Option α} {K : α → Option R} (hA : A = A'.bind K) (hB : B = B'.bind K) : (bif b then A else B) = (bif b then A' else B').bind K := by
  cases b
  · exact hB
  · exact hA

theorem aop_nat (G : Nat → AV) (op : AOp) (S : St) (nid : Nat) (K : AV → Upd → Option R) : aop G op S nid K = (aop G op S nid fun v u => some (v, u)).bind fun p => K p.1 p.2 := by
  cases op with
  | bin op x y =>
    simp only [aop, binV]
    split
    · exact binI_nat op _ _ _ _ (fun v => (v, U0)) (fun p => K p.1 p.2)
    · exact binS_nat op _ _ (fun v => (v, U0)) (fun p => K p.1 p.2)
    · rfl
  | slis x lo hi =>
    simp only [aop]
    split
    · exact bnds_nat _ _ _ (fun l h => (_, U0)) (fun p => K p.1 p.2)
    · rfl
  | slia e x lo hi =>
    simp only [aop]
    split
    · exact bnds_nat _ _ _ (fun l h => (_, _)) (fun p => K p.1 p.2)
    · rfl
  | _ =>
    simp only [aop, eqaV, eqbV, eqpV, eqfV, unV]
    repeat' (first | rfl | exact cond_nat ?_ ?_ | split | refine cond_nat ?_ ?_)

end
end Go.Av

/-
  A part of the abstract memory is worked on alone; the rest stays as it is.
-/
namespace Go.Av

theorem alGet_append {α : Type} : ∀ (A B : List (Nat × α)) (i : Nat), alGet (A ++ B) i = (match alGet A i with | some v => some v | none => alGet B i)
  | [], _, _ => rfl
  | (k, v) :: r, B, i => by
    rw [List.cons_append, alGet_cons, alGet_cons]
    split
    · rfl
    · exact alGet_append r B i

theorem hget_app (A B : Hp) (i : Nat) : hget (A ++ B) i = (match alGet A i with | some v => v | none => hget B i) := by
  unfold hget
  rw [alGet_append]
  cases alGet A i <;> rfl

def ownOf (μ : Map) (H : Hp) (b : Nat) : Prop := ∃ i k l, hget H i = some k ∧ μ i = some l ∧ l.blk = some b

theorem Hold.part {c : Ctx} {M : Mem} {μ : Map} {H H' : Hp} {w : World} (h : Hold c M μ H w) (hs : ∀ i k, hget H' i = some k → hget H i = some k) : Hold ⟨w, ownOf μ H', M⟩ M μ H' w where
  mem := h.mem
  blks i k hk := h.blks i k (hs i k hk)
  inj i j k k' l l' b hi hj := h.inj i j k k' l l' b (hs i k hi) (hs j k' hj)
  exc i k l b o v hi := h.exc i k l b o v (hs i k hi)
  own i k l b hi hl hb := .inl ⟨i, k, l, hi, hl, hb⟩
  mle := Mem.le.refl _
  mown b o v hv := .inl hv
  os := rfl
  tape := rfl
  output := rfl
  size := Nat.le_refl _
  frame b hb hn := rfl
  fz a := rfl

theorem Hold.unpart {c : Ctx} {M M' : Mem} {μ μ' : Map} {H H' U : Hp} {w w' : World} (h : Hold c M μ H w) (hs : ∀ i k, hget H' i = some k → hget H i = some k) (hc : Hold ⟨w, ownOf μ H', M⟩ M' μ' (U ++ H') w') (hle : μ.le μ') : Hold c M' μ' (U ++ H) w' := by
  have key : ∀ {i k}, hget (U ++ H) i = some k → hget (U ++ H') i = some k ∨ (hget H i = some k ∧ hget H' i = none) := by
    intro i k hi
    rw [hget_app] at hi ⊢
    cases hu : alGet U i with
    | some x => rw [hu] at hi; exact .inl hi
    | none =>
      rw [hu] at hi
      cases h' : hget H' i with
      | none => exact .inr ⟨hi, rfl⟩
      | some k' =>
        have := hs i k' h'
        simp only at hi
        rw [this] at hi
        exact .inl hi
  have cmay : ∀ {b}, ownOf μ H' b ∨ w.heap.size ≤ b → c.may b := by
    rintro b (⟨i, k, l, h1, h2, h3⟩ | h1)
    · exact h.own i k l b (hs i k h1) h2 h3
    · exact .inr (Nat.le_trans h.size h1)
  have rest : ∀ {i k l b}, hget H i = some k → hget H' i = none → μ i = some l → l.blk = some b → ¬ (ownOf μ H' b ∨ w.heap.size ≤ b) := by
    rintro i k l b hi hn hl hb (⟨i', k', l', h1, h3, h4⟩ | h1)
    · have := h.inj i' i k' k l' l b (hs i' k' h1) hi h3 hl h4 hb
      subst this
      rw [hn] at h1; cases h1
    · obtain ⟨l1, h2, h3⟩ := h.blks i k hi
      rw [hl] at h2
      cases h2
      have := h3.lt hb
      omega
  have back : ∀ {i k l}, hget H i = some k → μ' i = some l → μ i = some l := by
    intro i k l h1 h2
    obtain ⟨l2, h3, _⟩ := h.blks i k h1
    rw [hle _ _ h3] at h2
    cases h2
    exact h3
  exact {
    mem := hc.mem
    blks := fun i k hi => by
      rcases key hi with h1 | ⟨h1, h2⟩
      · exact hc.blks i k h1
      · obtain ⟨l, h3, h4⟩ := h.blks i k h1
        refine ⟨l, hle i l h3, h4.mono hc.mle hle fun b hb => ?_⟩
        exact hc.frame b (h4.lt hb) (fun hx => rest h1 h2 h3 hb (.inl hx))
    inj := fun i i' k k' l l' b hi hi' hl hl' hb hb' => by
      rcases key hi with h1 | ⟨h1, h2⟩ <;> rcases key hi' with h1' | ⟨h1', h2'⟩
      · exact hc.inj i i' k k' l l' b h1 h1' hl hl' hb hb'
      · exact absurd (hc.own i k l b h1 hl hb) (rest h1' h2' (back h1' hl') hb')
      · exact absurd (hc.own i' k' l' b h1' hl' hb') (rest h1 h2 (back h1 hl) hb)
      · exact h.inj i i' k k' l l' b h1 h1' (back h1 hl) (back h1' hl') hb hb'
    exc := fun i k l b o v hi hl hb hv => by
      rcases key hi with h1 | ⟨h1, h2⟩
      · exact hc.exc i k l b o v h1 hl hb hv
      · rcases hc.mown b o v hv with h4 | h4
        · exact h.exc i k l b o v h1 (back h1 hl) hb h4
        · exact absurd h4 (rest h1 h2 (back h1 hl) hb)
    own := fun i k l b hi hl hb => by
      rcases key hi with h1 | ⟨h1, h2⟩
      · exact cmay (hc.own i k l b h1 hl hb)
      · exact h.own i k l b h1 (back h1 hl) hb
    mle := h.mle.trans hc.mle
    mown := fun b o v hv => by
      rcases hc.mown b o v hv with h4 | h4
      · exact h.mown b o v h4
      · exact .inr (cmay h4)
    fz := fun a => (hc.fz a).trans (h.fz a)
    os := hc.os.trans h.os
    tape := hc.tape.trans h.tape
    output := hc.output.trans h.output
    size := Nat.le_trans h.size hc.size
    frame := fun b hb hn => by
      have h1 : b < w.heap.size := Nat.lt_of_lt_of_le hb h.size
      rw [hc.frame b h1 (fun hx => ?_)]
      · exact h.frame b hb hn
      · rcases cmay (.inl hx) with h2 | h2
        · exact hn h2
        · omega }

end Go.Av

/-
  A statement's list of steps, in the text's order.
-/
namespace Go.Av

theorem actK_nat {R : Type} (G : Nat → AV) {orc : Orc} (ho : ∀ f, Natural (orc f)) (act : AAct) (S : St) (nid : Nat) (K : AV → Upd → Option R) : actK G orc act S nid K = (actK G orc act S nid fun v u => some (v, u)).bind fun p => K p.1 p.2 := by
  cases act with
  | op o => exact aop_nat G o S nid K
  | call fn args =>
    simp only [actK]
    split
    · split
      · unfold acall
        refine cond_nat ?_ rfl
        split
        · rename_i blks _
          refine (ho _ _ _ _).trans ?_
          refine Eq.trans ?_ (congrArg (fun z : Option (AV × Upd) => Option.bind z fun p => K p.1 p.2) (ho _ _ _ _)).symm
          rw [Option.bind_assoc]; rfl
        · rfl
      · rfl
    · rfl

theorem actK_some {R : Type} {G : Nat → AV} {orc : Orc} (ho : ∀ f, Natural (orc f)) {act : AAct} {S : St} {nid : Nat} {K : AV → Upd → Option R} {r : R} (h : actK G orc act S nid K = some r) : ∃ v u, actK G orc act S nid (fun v u => some (v, u)) = some (v, u) ∧ K v u = some r := by
  rw [actK_nat G ho] at h
  cases hq : actK G orc act S nid (fun v u => some (v, u)) with
  | none => rw [hq] at h; cases h
  | some p => rw [hq] at h; exact ⟨p.1, p.2, rfl, h⟩

structure AItem where
  dst : Option Nat
  guard : Option (Nat × Nat × Bool)
  act : AAct
  anc : List Nat

def envPut (dst : Option Nat) (v : AV) (env : List (Nat × AV)) : List (Nat × AV) :=
  match dst with
  | some d => (d, v) :: env
  | none => env

def St.upd (S : St) (dst : Option Nat) (v : AV) (u : Upd) : St := ⟨envPut dst v S.env, u.hs ++ S.H, S.nid + u.na⟩

def St.set (S : St) (d : Nat) (v : AV) : St := ⟨(d, v) :: S.env, S.H, S.nid⟩

section
variable {R : Type}

def evItems (G : Nat → AV) (orc : Orc) : List AItem → St → (St → Option R) → Option R
  | [], S, K => K S
  | it :: r, S, K => (match it.guard with
    | none => actK G orc it.act S S.nid fun v u => evItems G orc r (S.upd it.dst v u) K
    | some (_, g, true) => (match S.get g with
      | .tv .bool b => bif b then actK G orc it.act (S.set g (.tv .bool true)) S.nid fun v u => evItems G orc r ((S.set g (.tv .bool true)).upd it.dst v u) K
          else evItems G orc r ((S.set g (.tv .bool false)).upd it.dst (.tup .nil) U0) K
      | .tup .nil => evItems G orc r (S.upd it.dst (.tup .nil) U0) K
      | _ => none)
    | some (_, g, false) => (match S.get g with
      | .tup .nil => evItems G orc r (S.upd it.dst (.tup .nil) U0) K
      | .tv .bool b => bif b then evItems G orc r ((S.set g (.tv .bool true)).upd it.dst (.tup .nil) U0) K
          else actK G orc it.act (S.set g (.tv .bool false)) S.nid fun v u => evItems G orc r ((S.set g (.tv .bool false)).upd it.dst v u) K
      | _ => none))
end

def eqO : Option Nat → Option Nat → Bool
  | none, none => true
  | some a, some b => Nat.beq a b
  | _, _ => false

theorem eqO_eq {a b : Option Nat} (h : eqO a b = true) : a = b := by
  unfold eqO at h
  split at h
  · rfl
  · rw [Nat.eq_of_beq_eq_true h]
  · cases h

def inN (N : Nat) : Option Nat → Bool
  | none => true
  | some d => Nat.blt d N

def inKs (ks : List Nat) : Option Nat → Bool
  | none => true
  | some d => memB d ks

/-- The slot that an operation of a list fills. -/
def dstOf (ops : Array Oper) (j : Nat) : Option Nat := (ops[j]?).bind (·.dst)

def mguard (ops : Array Oper) : Option (Nat × Nat × Bool) → Option (Nat × Bool) → Bool
  | none, none => true
  | some (j, g, want), some (j', want') => Nat.beq j j' && eqO (dstOf ops j) (some g) && (want == want')
  | _, _ => false

def mitem (P : Program) (N : Nat) (kills : List Nat) (ops : Array Oper) (it : AItem) (o : Oper) : Bool :=
  eqO it.dst o.dst && inN N o.dst && inKs kills o.dst && mguard ops it.guard o.guard && mact P it.act o.op

def mitems (P : Program) (N : Nat) (kills : List Nat) (ops : Array Oper) : List AItem → List Oper → Bool
  | [], [] => true
  | it :: r, o :: r' => mitem P N kills ops it o && mitems P N kills ops r r'
  | _, _ => false

/-- What a piece of code begins with. -/
structure Base where
  c : Ctx
  μ0 : Map
  a0 : Act
  kills : List Nat

/-- The machine's state is the abstract one. -/
structure SOk (B : Base) (P : Program) (G : Nat → AV) (M : Mem) (μ : Map) (S : St) (a : Act) (w : World) : Prop where
  hold : Hold B.c M μ S.H w
  glob : GlobOk M G
  env : EnvOk M μ S a
  fresh : ∀ i, S.nid ≤ i → μ i = none
  defs : a.defers = []
  size : a.tmps.size = B.a0.tmps.size
  base : B.μ0.le μ
  keep : ∀ t, memB t B.kills = false → a.tmps.getD t undef = B.a0.tmps.getD t undef

section
variable {P : Program} {G : Nat → AV} {orc : Orc} {B : Base}

theorem getD_set (xs : Array Value) (d t : Nat) (v : Value) : (xs.setIfInBounds d v).getD t undef = if d = t ∧ d < xs.size then v else xs.getD t undef := by
  by_cases h : d = t
  · subst h
    by_cases h2 : d < xs.size
    · rw [if_pos ⟨rfl, h2⟩]; simp [Array.getD, h2]
    · rw [if_neg (by omega)]; simp [Array.getD, h2]
  · rw [if_neg (by omega)]
    simp [Array.getElem?_setIfInBounds_ne h]

theorem St.get_cons (d : Nat) (v : AV) (env : List (Nat × AV)) (H : Hp) (n t : Nat) : (St.mk ((d, v) :: env) H n).get t = if d = t then v else (St.mk env H n).get t := by
  simp only [St.get, alGet_cons]
  by_cases h : d = t
  · rw [if_pos h, if_pos h]
  · rw [if_neg h, if_neg h]

theorem EnvOk.put {M : Mem} {μ : Map} {env : List (Nat × AV)} {H H' : Hp} {n n' : Nat} {a : Act} {dst : Option Nat} {v : AV} {v' : Value} (h : EnvOk M μ ⟨env, H, n⟩ a) (hv : AVV M μ v v') (hd : inN a.tmps.size dst = true) :
    EnvOk M μ ⟨envPut dst v env, H', n'⟩ (a.put dst v') := by
  cases dst with
  | none => exact h
  | some d =>
    intro t
    show AVV M μ ((St.mk ((d, v) :: env) H' n').get t) ((a.tmps.setIfInBounds d v').getD t undef)
    rw [St.get_cons, getD_set]
    have hd' : d < a.tmps.size := by simpa [inN, Nat.blt_eq] using hd
    by_cases e : d = t
    · rw [if_pos e, if_pos ⟨e, hd'⟩]; exact hv
    · rw [if_neg e, if_neg (fun h => e h.1)]; exact h t

theorem put_defs (a : Act) (dst : Option Nat) (v : Value) : (a.put dst v).defers = a.defers := by cases dst <;> rfl
theorem put_size (a : Act) (dst : Option Nat) (v : Value) : (a.put dst v).tmps.size = a.tmps.size := by cases dst <;> simp [Act.put]
theorem put_keep {a : Act} {dst : Option Nat} {v : Value} {ks : List Nat} (h : inKs ks dst = true) {t : Nat} (ht : memB t ks = false) : (a.put dst v).tmps.getD t undef = a.tmps.getD t undef := by
  cases dst with
  | none => rfl
  | some d =>
    show (a.tmps.setIfInBounds d v).getD t undef = _
    rw [getD_set, if_neg]
    rintro ⟨e, _⟩
    subst e
    simp only [inKs] at h
    rw [h] at ht; cases ht

theorem SOk.step {M M' : Mem} {μ μ' : Map} {S : St} {a : Act} {w w' : World} {dst : Option Nat} {v : AV} {v' : Value} {u : Upd} (h : SOk B P G M μ S a w) (hM : M.le M') (hμ : μ.le μ') (hH : Hold B.c M' μ' (u.hs ++ S.H) w') (hv : AVV M' μ' v v')
    (hn : ∀ i, μ' i ≠ none → μ i ≠ none ∨ (S.nid ≤ i ∧ i < S.nid + u.na)) (hd : inN B.a0.tmps.size dst = true) (hk : inKs B.kills dst = true) : SOk B P G M' μ' (S.upd dst v u) (a.put dst v') w' where
  hold := hH
  glob := h.glob.mono hM
  env := EnvOk.put (env := S.env) (H := S.H) (n := S.nid) (fun t => (h.env t).mono hM hμ) hv (by rw [h.size]; exact hd)
  fresh := fun i (hi : S.nid + u.na ≤ i) => by
    cases hq : μ' i with
    | none => rfl
    | some l =>
      rcases hn i (by rw [hq]; simp) with h1 | h1
      · exact absurd (h.fresh i (by omega)) h1
      · omega
  defs := (put_defs _ _ _).trans h.defs
  size := (put_size _ _ _).trans h.size
  base := h.base.trans hμ
  keep := fun t ht => (put_keep hk ht).trans (h.keep t ht)

theorem AVV_undef {M : Mem} {μ : Map} : AVV M μ (.tup .nil) undef := ⟨[], rfl, by simp only [AVL]⟩

theorem SOk.skip {M : Mem} {μ : Map} {S : St} {a : Act} {w : World} {dst : Option Nat} (h : SOk B P G M μ S a w) (hd : inN B.a0.tmps.size dst = true) (hk : inKs B.kills dst = true) : SOk B P G M μ (S.upd dst (.tup .nil) U0) (a.put dst undef) w :=
  h.step (Mem.le.refl _) (Map.le.refl _) h.hold AVV_undef (fun _ h => .inl h) hd hk

theorem SOk.set {M : Mem} {μ : Map} {S : St} {a : Act} {w : World} {g : Nat} {b : Bool} (h : SOk B P G M μ S a w) (hg : S.get g = .tv .bool b) : SOk B P G M μ (S.set g (.tv .bool b)) a w :=
  { h with
    env := fun t => by
      unfold St.set
      rw [St.get_cons]
      by_cases e : g = t
      · subst e; rw [if_pos rfl, ← hg]; exact h.env g
      · rw [if_neg e]; exact h.env t }

theorem yielded_of {M : Mem} {μ : Map} {ops : Array Oper} {a : Act} {S : St} {j g : Nat} {b : Bool} (hE : EnvOk M μ S a) (hj : dstOf ops j = some g) (hg : S.get g = .tv .bool b) : yielded ops a.tmps j = some b := by
  have h1 := hE g
  rw [hg, AVV_bool] at h1
  unfold yielded
  unfold dstOf at hj
  rw [hj, Option.bind_some]
  cases hq : a.tmps[g]? with
  | none => rw [Array.getD_eq_getD_getElem?, hq] at h1; cases h1
  | some x =>
    rw [Array.getD_eq_getD_getElem?, hq] at h1
    simp only [Option.getD_some] at h1
    rw [h1]

theorem yielded_undef {M : Mem} {μ : Map} {ops : Array Oper} {a : Act} {S : St} {j g : Nat} (hE : EnvOk M μ S a) (hj : dstOf ops j = some g) (hg : S.get g = .tup .nil) : yielded ops a.tmps j = none := by
  have h1 := hE g
  rw [hg] at h1
  obtain ⟨vs, h1, h2⟩ := h1
  unfold yielded
  unfold dstOf at hj
  rw [hj, Option.bind_some]
  cases hq : a.tmps[g]? with
  | none => rfl
  | some x =>
    rw [Array.getD_eq_getD_getElem?, hq] at h1
    simp only [Option.getD_some] at h1
    rw [h1]

theorem mguard_none {ops : Array Oper} {og : Option (Nat × Bool)} (h : mguard ops none og = true) : og = none := by
  cases og with
  | none => rfl
  | some p => simp [mguard] at h
theorem mguard_some {ops : Array Oper} {j g : Nat} {want : Bool} {og : Option (Nat × Bool)} (h : mguard ops (some (j, g, want)) og = true) : og = some (j, want) ∧ dstOf ops j = some g := by
  cases og with
  | none => simp [mguard] at h
  | some p =>
    obtain ⟨j', want'⟩ := p
    simp only [mguard, Bool.and_eq_true, beq_iff_eq] at h
    obtain ⟨⟨h1, h2⟩, h3⟩ := h
    rw [Nat.eq_of_beq_eq_true h1, h3]
    exact ⟨rfl, by rw [← Nat.eq_of_beq_eq_true h1]; exact eqO_eq h2⟩

theorem evItems_ok {ops : Array Oper} {Q : Exit → Act → World → Prop} {R : Type} {r : R} {K : St → Option R} (ho : OrcOK P G orc) : ∀ (its : List AItem) (os : List Oper) {M : Mem} {μ : Map} {S : St} {a : Act} {w : World},
    mitems P B.a0.tmps.size B.kills ops its os = true → SOk B P G M μ S a w → evItems G orc its S K = some r →
    (∀ M' μ' S' a' w', K S' = some r → SOk B P G M' μ' S' a' w' → Q .normal a' w') → wpList P ops Q os a w
  | [], [], M, μ, S, a, w, _, h, hr, hQ => hQ M μ S a w hr h
  | it :: its, o :: os, M, μ, S, a, w, hm, h, hr, hQ => by
    simp only [mitems, mitem, Bool.and_eq_true] at hm
    obtain ⟨⟨⟨⟨⟨h1, h2⟩, h3⟩, h4⟩, h5⟩, h6⟩ := hm
    have hd := eqO_eq h1
    have run : ∀ (S : St), SOk B P G M μ S a w → (actK G orc it.act S S.nid fun v u => evItems G orc its (S.upd it.dst v u) K) = some r → o.wp P a w (wpList P ops Q os) Q := by
      intro S h hr
      obtain ⟨v, u, hr1, hr2⟩ := actK_some ho.nat hr
      refine act_ok ⟨h.hold, h.glob, h.env⟩ ho h5 hr1 (fun i hi _ => h.fresh i hi) ?_
      intro v' w' M' μ' l1 l2 hH hv hn
      rw [← hd]
      refine evItems_ok ho its os h6 (h.step (dst := it.dst) l1 l2 hH hv hn (by rw [hd]; exact h2) (by rw [hd]; exact h3)) hr2 hQ
    simp only [wpList]
    simp only [evItems] at hr
    split at hr
    · rename_i hg
      rw [hg] at h4
      have : Region.wanted o (yielded ops a.tmps) = true := by simp only [Region.wanted, mguard_none h4]
      rw [if_pos this]
      exact .inl (run S h hr)
    · rename_i j g hg
      rw [hg] at h4
      obtain ⟨h7, h8⟩ := mguard_some h4
      split at hr
      case h_3 => cases hr
      case h_2 =>
        rename_i hb
        have hy := yielded_undef h.env h8 hb
        have : ¬ Region.wanted o (yielded ops a.tmps) = true := by simp only [Region.wanted, h7, hy]; simp
        rw [if_neg this]
        rw [← hd]
        exact evItems_ok ho its os h6 (h.skip (dst := it.dst) (by rw [hd]; exact h2) (by rw [hd]; exact h3)) hr hQ
      rename_i b hb
      have hy := yielded_of h.env h8 hb
      cases b with
      | true =>
        have : Region.wanted o (yielded ops a.tmps) = true := by simp only [Region.wanted, h7, hy]; rfl
        rw [if_pos this]
        exact .inl (run _ (h.set hb) hr)
      | false =>
        have : ¬ Region.wanted o (yielded ops a.tmps) = true := by simp only [Region.wanted, h7, hy]; simp
        rw [if_neg this]
        rw [← hd]
        exact evItems_ok ho its os h6 ((h.set hb).skip (dst := it.dst) (by rw [hd]; exact h2) (by rw [hd]; exact h3)) hr hQ
    · rename_i j g hg
      rw [hg] at h4
      obtain ⟨h7, h8⟩ := mguard_some h4
      split at hr
      case h_3 => cases hr
      case h_1 =>
        rename_i hb
        have hy := yielded_undef h.env h8 hb
        have : ¬ Region.wanted o (yielded ops a.tmps) = true := by simp only [Region.wanted, h7, hy]; simp
        rw [if_neg this]
        rw [← hd]
        exact evItems_ok ho its os h6 (h.skip (dst := it.dst) (by rw [hd]; exact h2) (by rw [hd]; exact h3)) hr hQ
      rename_i b hb
      have hy := yielded_of h.env h8 hb
      cases b with
      | false =>
        have : Region.wanted o (yielded ops a.tmps) = true := by simp only [Region.wanted, h7, hy]; rfl
        rw [if_pos this]
        exact .inl (run _ (h.set hb) hr)
      | true =>
        have : ¬ Region.wanted o (yielded ops a.tmps) = true := by simp only [Region.wanted, h7, hy]; simp
        rw [if_neg this]
        rw [← hd]
        exact evItems_ok ho its os h6 ((h.set hb).skip (dst := it.dst) (by rw [hd]; exact h2) (by rw [hd]; exact h3)) hr hQ
  | [], _ :: _, _, _, _, _, _, hm, _, _, _ => by simp [mitems] at hm
  | _ :: _, [], _, _, _, _, _, hm, _, _, _ => by simp [mitems] at hm
end
end Go.Av

/-
  A statement whose steps may come in several orders: what each of them tells does not hang on the order.
-/
namespace Go.Av

structure Rec where
  dst : Option Nat
  v : AV
  hs : Hp
  rf : List Nat
  base : Nat
  na : Nat

abbrev Done := List (Nat × Rec)

def envOf (p : Nat → Bool) : Done → List (Nat × AV) → List (Nat × AV)
  | [], env => env
  | (j, d) :: r, env => bif p j then envPut d.dst d.v (envOf p r env) else envOf p r env

def heapOf (p : Nat → Bool) : Done → Hp → Hp
  | [], H => H
  | (j, d) :: r, H => bif p j then d.hs ++ heapOf p r H else heapOf p r H

/-- The slots of those that may come before or after. -/
def deadsOf (i : Nat) (anc : List Nat) : Nat → List AItem → List (Nat × AV)
  | _, [] => []
  | j, it :: r => bif Nat.beq j i || (memB j anc || memB i it.anc) then deadsOf i anc (j + 1) r else envPut it.dst .dead (deadsOf i anc (j + 1) r)

def envI (all : List AItem) (S0 : St) (done : Done) (i : Nat) (anc : List Nat) : List (Nat × AV) := deadsOf i anc 0 all ++ envOf (fun j => memB j anc) done S0.env
def heapI (S0 : St) (done : Done) (anc : List Nat) : Hp := heapOf (fun j => memB j anc) done S0.H

def restr : List Nat → Hp → Hp
  | [], _ => []
  | i :: r, H => (i, hget H i) :: restr r H

def AOp.opds : AOp → List Opd
  | .mv _ | .nilc _ | .fad _ _ _ | .iad _ _ _ _ | .ext _ _ | .lenc _ _ => []
  | .box x | .load _ _ x | .un _ x | .conv _ x | .bstr x | .fld _ _ _ _ x | .len x | .lens x | .rng x | .nxt x => [x]
  | .pick c a b => [c, a, b]
  | .alloc _ _ => []
  | .nrow _ => []
  | .mkmap _ => []
  | .mlook _ _ m k => [m, k]
  | .mput _ m k v => [m, k, v]
  | .ment _ m k => [m, k]
  | .mest m s v => [m, s, v]
  | .bad => []
  | .build _ _ parts => parts.map fun p => p.2.2.2
  | .bslice _ parts => parts
  | .store _ _ x v => [x, v]
  | .bin _ x y | .eqa _ _ x y | .eqb _ x y | .eqp _ x y | .eqf _ x y | .iads _ x y | .ix _ _ _ x y | .ixs x y | .app _ x y | .mx x y | .mn x y => [x, y]
  | .mkfn _ first caps => first ++ caps
  | .mkslice _ n c => [n, c]
  | .slis x _ _ => [x]
  | .slia _ x _ _ => [x]
  | .eqn _ x => [x]

/-- The blocks that a step may look at. -/
def foot (G : Nat → AV) (S : St) : AAct → List Nat
  | .op o => refsOf (o.opds.map (ev G S))
  | .call fn args => reach (refsOf (ev G S fn :: args.map fun x => ev G S x.1)) S.H

def keysOf : Hp → List Nat
  | [] => []
  | (i, _) :: r => i :: keysOf r

def disj : List Nat → List Nat → Bool
  | [], _ => true
  | i :: r, l => !memB i l && disj r l

def chk (anc : List Nat) (rf : List Nat) (hs : Hp) : Done → Bool
  | [] => true
  | (j, d) :: r => (bif memB j anc then true else disj (keysOf hs) (d.rf ++ keysOf d.hs) && disj (keysOf d.hs) rf) && chk anc rf hs r

def donePut (j : Nat) (b : Bool) : Done → Done
  | [] => []
  | (k, d) :: r => bif Nat.beq k j then (k, ⟨d.dst, .tv .bool b, d.hs, d.rf, d.base, d.na⟩) :: r else (k, d) :: donePut j b r

section
variable {R : Type}

def runD (G : Nat → AV) (orc : Orc) (all : List AItem) (S0 : St) (i : Nat) (it : AItem) (nid : Nat) (done : Done) (cont : Rec → Option R) : Option R :=
  actK G orc it.act ⟨envI all S0 done i it.anc, restr (foot G ⟨envI all S0 done i it.anc, heapI S0 done it.anc, 0⟩ it.act) (heapI S0 done it.anc), 0⟩ nid fun v u =>
    bif chk it.anc (foot G ⟨envI all S0 done i it.anc, heapI S0 done it.anc, 0⟩ it.act) u.hs done then
      cont ⟨it.dst, v, u.hs, foot G ⟨envI all S0 done i it.anc, heapI S0 done it.anc, 0⟩ it.act, nid, u.na⟩ else none

def evDraw (G : Nat → AV) (orc : Orc) (all : List AItem) (S0 : St) : List AItem → Nat → Nat → Done → (St → Option R) → Option R
  | [], _, nid, done, K => K ⟨envOf (fun _ => true) done S0.env, heapOf (fun _ => true) done S0.H, nid⟩
  | it :: r, i, nid, done, K => (match it.guard with
    | none => runD G orc all S0 i it nid done fun d => evDraw G orc all S0 r (i + 1) (nid + d.na) ((i, d) :: done) K
    | some (j, _, true) => (match alGet done j with
      | some e => (match e.v with
        | .tv .bool b => bif b then runD G orc all S0 i it nid (donePut j true done) fun d => evDraw G orc all S0 r (i + 1) (nid + d.na) ((i, d) :: donePut j true done) K
            else evDraw G orc all S0 r (i + 1) nid ((i, ⟨it.dst, .tup .nil, [], [], nid, 0⟩) :: donePut j false done) K
        | .tup .nil => evDraw G orc all S0 r (i + 1) nid ((i, ⟨it.dst, .tup .nil, [], [], nid, 0⟩) :: done) K
        | _ => none)
      | none => none)
    | some (j, _, false) => (match alGet done j with
      | some e => (match e.v with
        | .tup .nil => evDraw G orc all S0 r (i + 1) nid ((i, ⟨it.dst, .tup .nil, [], [], nid, 0⟩) :: done) K
        | .tv .bool b => bif b then evDraw G orc all S0 r (i + 1) nid ((i, ⟨it.dst, .tup .nil, [], [], nid, 0⟩) :: donePut j true done) K
            else runD G orc all S0 i it nid (donePut j false done) fun d => evDraw G orc all S0 r (i + 1) (nid + d.na) ((i, d) :: donePut j false done) K
        | _ => none)
      | none => none))
end

def ancAt (all : List AItem) (i : Nat) : List Nat :=
  match all[i]? with
  | some it => it.anc
  | none => []

def mdraw (P : Program) (N : Nat) (kills : List Nat) (ops : Array Oper) (all : List AItem) : Nat → List AItem → List Oper → Bool
  | _, [], [] => true
  | i, it :: r, o :: r' => mitem P N kills ops it o && ((it.anc.all fun j => Nat.blt j i && o.after.any fun e => Region.binds .any e && (Nat.beq e.on j || memB j (ancAt all e.on))) &&
      (o.after.all fun e => !Region.binds .any e || Nat.blt e.on i)) && (match it.guard with | some (j, _, _) => memB j it.anc | none => true) && mdraw P N kills ops all (i + 1) r r'
  | _, _, _ => false

def dstsOf : List AItem → List Nat
  | [] => []
  | it :: r => (match it.dst with | some d => [d] | none => []) ++ dstsOf r

/-! ### Laws -/
theorem alGet_mem {α : Type} : ∀ {l : List (Nat × α)} {i : Nat} {v : α}, alGet l i = some v → (i, v) ∈ l
  | [], i, v, h => by simp [alGet] at h
  | (k, x) :: r, i, v, h => by
    rw [alGet_cons] at h
    split at h
    · rename_i e; subst e; cases h; exact List.mem_cons_self ..
    · exact List.mem_cons_of_mem _ (alGet_mem h)

theorem keysOf_mem : ∀ {H : Hp} {i : Nat}, alGet H i ≠ none → i ∈ keysOf H
  | [], i, h => by simp [alGet] at h
  | (k, x) :: r, i, h => by
    rw [alGet_cons] at h
    simp only [keysOf, List.mem_cons]
    split at h
    · rename_i e; exact .inl e.symm
    · exact .inr (keysOf_mem h)

theorem disj_spec : ∀ {a b : List Nat}, disj a b = true → ∀ i ∈ a, i ∉ b
  | [], _, _, i, hi => by cases hi
  | x :: r, b, h, i, hi => by
    simp only [disj, Bool.and_eq_true, Bool.not_eq_true'] at h
    rcases List.mem_cons.1 hi with e | e
    · subst e
      intro hm
      rw [memB_iff.2 hm] at h
      cases h.1
    · exact disj_spec h.2 i e

theorem hget_restr : ∀ (rf : List Nat) (H : Hp) (i : Nat) (k : Blk), hget (restr rf H) i = some k → i ∈ rf ∧ hget H i = some k
  | [], H, i, k, h => by simp [restr, hget, alGet] at h
  | j :: r, H, i, k, h => by
    rw [restr, hget_cons] at h
    split at h
    · rename_i e; subst e; exact ⟨List.mem_cons_self .., h⟩
    · obtain ⟨h1, h2⟩ := hget_restr r H i k h
      exact ⟨List.mem_cons_of_mem _ h1, h2⟩

theorem heapOf_congr {q p : Nat → Bool} {H0 : Hp} {id : Nat} : ∀ (ds : Done), (∀ j e, (j, e) ∈ ds → q j = p j ∨ alGet e.hs id = none) → hget (heapOf q ds H0) id = hget (heapOf p ds H0) id
  | [], _ => rfl
  | (j, e) :: r, h => by
    have ih := heapOf_congr r (H0 := H0) fun j e hm => h j e (List.mem_cons_of_mem _ hm)
    rcases h j e (List.mem_cons_self ..) with h1 | h1
    · simp only [heapOf, h1]
      cases p j
      · exact ih
      · simp only [cond_true, hget_app, ih]
    · have hx : ∀ (b : Bool) (X : Hp), hget (bif b then e.hs ++ X else X) id = hget X id := by
        intro b X
        cases b
        · rfl
        · simp only [cond_true, hget_app, h1]
      simp only [heapOf, hx, ih]

theorem alGet_envPut (dst : Option Nat) (v : AV) (env : List (Nat × AV)) (t : Nat) : alGet (envPut dst v env) t = if dst = some t then some v else alGet env t := by
  cases dst with
  | none => simp [envPut]
  | some d => simp [envPut, alGet_cons]

theorem envOf_congr {q p : Nat → Bool} {env : List (Nat × AV)} {t : Nat} : ∀ (ds : Done), (∀ j e, (j, e) ∈ ds → q j = p j ∨ e.dst ≠ some t) → alGet (envOf q ds env) t = alGet (envOf p ds env) t
  | [], _ => rfl
  | (j, e) :: r, h => by
    have ih := envOf_congr r (env := env) fun j e hm => h j e (List.mem_cons_of_mem _ hm)
    rcases h j e (List.mem_cons_self ..) with h1 | h1
    · simp only [envOf, h1]
      cases p j
      · exact ih
      · simp only [cond_true, alGet_envPut, ih]
    · have hx : ∀ (b : Bool) (X : List (Nat × AV)), alGet (bif b then envPut e.dst e.v X else X) t = alGet X t := by
        intro b X
        cases b
        · rfl
        · simp only [cond_true, alGet_envPut, if_neg h1]
      simp only [envOf, hx, ih]

def Desc : Nat → Done → Prop
  | 0, d => d = []
  | n + 1, d => ∃ e r, d = (n, e) :: r ∧ Desc n r

theorem Desc.lt : ∀ {n : Nat} {d : Done}, Desc n d → ∀ {i e}, (i, e) ∈ d → i < n
  | 0, _, h, i, e, hm => by simp only [Desc] at h; subst h; cases hm
  | n + 1, _, ⟨e', r, h, h'⟩, i, e, hm => by
    subst h
    rcases List.mem_cons.1 hm with h1 | h1
    · cases h1; omega
    · have := h'.lt h1; omega

theorem Desc.uniq : ∀ {n : Nat} {d : Done}, Desc n d → ∀ {i e e'}, (i, e) ∈ d → (i, e') ∈ d → e = e'
  | 0, _, h, i, e, e', hm, _ => by simp only [Desc] at h; subst h; cases hm
  | n + 1, _, ⟨e1, r, h, h'⟩, i, e, e', hm, hm' => by
    subst h
    rcases List.mem_cons.1 hm with h1 | h1 <;> rcases List.mem_cons.1 hm' with h2 | h2
    · cases h1; cases h2; rfl
    · cases h1; have := h'.lt h2; omega
    · cases h2; have := h'.lt h1; omega
    · exact h'.uniq h1 h2

theorem Desc.has : ∀ {n : Nat} {d : Done}, Desc n d → ∀ {i}, i < n → ∃ e, (i, e) ∈ d
  | 0, _, _, i, hi => by omega
  | n + 1, _, ⟨e1, r, h, h'⟩, i, hi => by
    subst h
    by_cases e : i = n
    · subst e; exact ⟨e1, List.mem_cons_self ..⟩
    · obtain ⟨e2, h2⟩ := h'.has (i := i) (by omega)
      exact ⟨e2, List.mem_cons_of_mem _ h2⟩

theorem heapOf_hit {p : Nat → Bool} {H0 : Hp} {id i : Nat} {d : Rec} {x : Option Blk} (hp : p i = true) (hx : alGet d.hs id = some x) : ∀ {n : Nat} {ds : Done}, Desc n ds → (i, d) ∈ ds → (∀ j e, (j, e) ∈ ds → i < j → p j = true → alGet e.hs id = none) → hget (heapOf p ds H0) id = x
  | 0, _, h, hm, _ => by simp only [Desc] at h; subst h; cases hm
  | n + 1, _, ⟨e, r, h, h'⟩, hm, hn => by
    subst h
    rcases List.mem_cons.1 hm with h1 | h1
    · cases h1
      simp only [heapOf, hp, cond_true, hget_app, hx]
    · have ih := heapOf_hit (H0 := H0) hp hx h' h1 fun j e hm => hn j e (List.mem_cons_of_mem _ hm)
      simp only [heapOf]
      cases hpn : p n with
      | false => exact ih
      | true =>
        simp only [cond_true, hget_app, hn n e (List.mem_cons_self ..) (h'.lt h1) hpn]
        exact ih

theorem envOf_hit {p : Nat → Bool} {env : List (Nat × AV)} {t i : Nat} {d : Rec} (hp : p i = true) (hx : d.dst = some t) : ∀ {n : Nat} {ds : Done}, Desc n ds → (i, d) ∈ ds → (∀ j e, (j, e) ∈ ds → j ≠ i → e.dst ≠ some t) → alGet (envOf p ds env) t = some d.v
  | 0, _, h, hm, _ => by simp only [Desc] at h; subst h; cases hm
  | n + 1, _, ⟨e, r, h, h'⟩, hm, hn => by
    subst h
    rcases List.mem_cons.1 hm with h1 | h1
    · cases h1
      simp only [envOf, hp, cond_true, alGet_envPut, hx, if_true]
    · have ih := envOf_hit (env := env) hp hx h' h1 fun j e hm => hn j e (List.mem_cons_of_mem _ hm)
      simp only [envOf]
      have hne : n ≠ i := by have := h'.lt h1; omega
      cases hpn : p n with
      | false => exact ih
      | true =>
        simp only [cond_true, alGet_envPut, if_neg (hn n e (List.mem_cons_self ..) hne)]
        exact ih

theorem donePut_same {j : Nat} {b : Bool} : ∀ {done : Done} {e : Rec}, alGet done j = some e → e.v = .tv .bool b → donePut j b done = done
  | [], e, h, _ => rfl
  | (k, d) :: r, e, h, hv => by
    simp only [donePut]
    rw [alGet_cons] at h
    split at h
    · rename_i hk
      subst hk
      cases h
      rw [Nat.beq_refl]
      simp only [cond_true]
      rw [← hv]
    · rename_i hk
      have : Nat.beq k j = false := by
        cases hb : Nat.beq k j with
        | false => rfl
        | true => exact absurd (Nat.eq_of_beq_eq_true hb) hk
      rw [this]
      simp only [cond_false, donePut_same h hv]

theorem deadsOf_get {i : Nat} {anc : List Nat} {t : Nat} : ∀ {l : List AItem} {n : Nat}, alGet (deadsOf i anc n l) t = some .dead ∨ (alGet (deadsOf i anc n l) t = none ∧ ∀ k it, l[k]? = some it → n + k ≠ i → memB (n + k) anc = false → memB i it.anc = false → it.dst ≠ some t)
  | [], n => .inr ⟨rfl, fun k it h => by simp at h⟩
  | it :: r, n => by
    simp only [deadsOf]
    cases hc : (Nat.beq n i || (memB n anc || memB i it.anc)) with
    | true =>
      rcases deadsOf_get (l := r) (n := n + 1) with h | ⟨h1, h2⟩
      · exact .inl h
      · refine .inr ⟨h1, fun k it' hk hne ha hb => ?_⟩
        cases k with
        | zero =>
          simp only [List.getElem?_cons_zero, Option.some.injEq] at hk
          subst hk
          have : Nat.beq n i = false := by
            cases hq : Nat.beq n i with
            | false => rfl
            | true => exact absurd (Nat.eq_of_beq_eq_true hq) hne
          simp only [Nat.add_zero] at ha
          rw [this, ha, hb] at hc
          cases hc
        | succ k =>
          have e : n + (k + 1) = n + 1 + k := by omega
          exact h2 k it' (by simpa using hk) (by omega) (by rw [← e]; exact ha) hb
    | false =>
      simp only [cond_false, alGet_envPut]
      by_cases ht : it.dst = some t
      · rw [if_pos ht]; exact .inl rfl
      · rw [if_neg ht]
        rcases deadsOf_get (l := r) (n := n + 1) with h | ⟨h1, h2⟩
        · exact .inl h
        · refine .inr ⟨h1, fun k it' hk hne ha hb => ?_⟩
          cases k with
          | zero =>
            simp only [List.getElem?_cons_zero, Option.some.injEq] at hk
            subst hk
            exact ht
          | succ k =>
            have e : n + (k + 1) = n + 1 + k := by omega
            exact h2 k it' (by simpa using hk) (by omega) (by rw [← e]; exact ha) hb

end Go.Av

/-
  What is known of each step of such a statement, when all were tried in the text's order.
-/
namespace Go.Av

def Acts (G : Nat → AV) (orc : Orc) (all : List AItem) (S0 : St) (done : Done) (i : Nat) (it : AItem) (d : Rec) : Prop :=
  actK G orc it.act ⟨envI all S0 done i it.anc, restr d.rf (heapI S0 done it.anc), 0⟩ d.base (fun v u => some (v, u)) = some (d.v, ⟨d.hs, d.na⟩)

def StepFact (G : Nat → AV) (orc : Orc) (all : List AItem) (S0 : St) (done : Done) (i : Nat) (it : AItem) (d : Rec) : Prop :=
  (∃ j g want e, it.guard = some (j, g, want) ∧ (j, e) ∈ done ∧ (e.v = .tv .bool (!want) ∨ e.v = .tup .nil) ∧ d.v = .tup .nil ∧ d.hs = [] ∧ d.na = 0) ∨
  (Acts G orc all S0 done i it d ∧ (it.guard = none ∨ ∃ j g want e, it.guard = some (j, g, want) ∧ (j, e) ∈ done ∧ e.v = .tv .bool want))

structure TOK (G : Nat → AV) (orc : Orc) (all : List AItem) (S0 : St) (n nid : Nat) (done : Done) : Prop where
  desc : Desc n done
  fact : ∀ i d, (i, d) ∈ done → ∃ it, all[i]? = some it ∧ d.dst = it.dst ∧ StepFact G orc all S0 done i it d
  pair : ∀ i d j e, (i, d) ∈ done → (j, e) ∈ done → j < i → memB j (ancAt all i) = false → (∀ id ∈ keysOf d.hs, id ∉ e.rf ∧ id ∉ keysOf e.hs) ∧ (∀ id ∈ keysOf e.hs, id ∉ d.rf)
  lo : S0.nid ≤ nid
  rng : ∀ i d, (i, d) ∈ done → S0.nid ≤ d.base ∧ d.base + d.na ≤ nid
  sep : ∀ i d j e, (i, d) ∈ done → (j, e) ∈ done → j < i → e.base + e.na ≤ d.base

theorem chk_spec {anc rf : List Nat} {hs : Hp} : ∀ {done : Done}, chk anc rf hs done = true → ∀ j e, (j, e) ∈ done → memB j anc = false → (∀ id ∈ keysOf hs, id ∉ e.rf ∧ id ∉ keysOf e.hs) ∧ (∀ id ∈ keysOf e.hs, id ∉ rf)
  | [], _, j, e, hm, _ => by cases hm
  | (k, d) :: r, h, j, e, hm, hj => by
    simp only [chk, Bool.and_eq_true] at h
    rcases List.mem_cons.1 hm with h1 | h1
    · cases h1
      have h2 := h.1
      rw [hj] at h2
      simp only [cond_false, Bool.and_eq_true] at h2
      refine ⟨fun id hid => ?_, fun id hid => disj_spec h2.2 id hid⟩
      have := disj_spec h2.1 id hid
      simp only [List.mem_append, not_or] at this
      exact this
    · exact chk_spec h.2 j e h1 hj

section
variable {G : Nat → AV} {orc : Orc} {all : List AItem} {S0 : St}

theorem TOK.cons (hanc : ∀ i it, all[i]? = some it → ∀ j, memB j it.anc = true → j < i) {n nid : Nat} {done : Done} (h : TOK G orc all S0 n nid done) {it : AItem} {d : Rec} (hit : all[n]? = some it) (hd : d.dst = it.dst)
    (hs : StepFact G orc all S0 done n it d) (hc : chk it.anc d.rf d.hs done = true) (hb : d.base = nid) : TOK G orc all S0 (n + 1) (nid + d.na) ((n, d) :: done) := by
  have keepE : ∀ i it, all[i]? = some it → i ≤ n → envI all S0 ((n, d) :: done) i it.anc = envI all S0 done i it.anc ∧ heapI S0 ((n, d) :: done) it.anc = heapI S0 done it.anc := by
    intro i it' hi hle
    have : memB n it'.anc = false := by
      cases hq : memB n it'.anc with
      | false => rfl
      | true => have := hanc i it' hi n hq; omega
    constructor
    · simp only [envI, envOf, this, cond_false]
    · simp only [heapI, heapOf, this, cond_false]
  have keepS : ∀ i it e, all[i]? = some it → i ≤ n → StepFact G orc all S0 done i it e → StepFact G orc all S0 ((n, d) :: done) i it e := by
    intro i it' e hi hle hf
    rcases hf with ⟨j, g, want, e', h1, h2, h3⟩ | ⟨h1, h2⟩
    · exact .inl ⟨j, g, want, e', h1, List.mem_cons_of_mem _ h2, h3⟩
    · refine .inr ⟨?_, ?_⟩
      · obtain ⟨k1, k2⟩ := keepE i it' hi hle
        unfold Acts at h1 ⊢
        rw [k1, k2]; exact h1
      · rcases h2 with h2 | ⟨j, g, want, e', h3, h4, h5⟩
        · exact .inl h2
        · exact .inr ⟨j, g, want, e', h3, List.mem_cons_of_mem _ h4, h5⟩
  have hanN : ancAt all n = it.anc := by simp only [ancAt, hit]
  exact {
    desc := ⟨d, done, rfl, h.desc⟩
    fact := fun i e hm => by
      rcases List.mem_cons.1 hm with h1 | h1
      · cases h1; exact ⟨it, hit, hd, keepS n it d hit (Nat.le_refl _) hs⟩
      · obtain ⟨it', h2, h3, h4⟩ := h.fact i e h1
        exact ⟨it', h2, h3, keepS i it' e h2 (Nat.le_of_lt (h.desc.lt h1)) h4⟩
    pair := fun i e j e' hm hm' hji ha => by
      rcases List.mem_cons.1 hm with h1 | h1
      · cases h1
        rcases List.mem_cons.1 hm' with h2 | h2
        · cases h2; omega
        · exact chk_spec hc j e' h2 (by rw [← hanN]; exact ha)
      · rcases List.mem_cons.1 hm' with h2 | h2
        · cases h2; have := h.desc.lt h1; omega
        · exact h.pair i e j e' h1 h2 hji ha
    lo := Nat.le_trans h.lo (Nat.le_add_right _ _)
    rng := fun i e hm => by
      rcases List.mem_cons.1 hm with h1 | h1
      · cases h1; exact ⟨by rw [hb]; exact h.lo, by rw [hb]; exact Nat.le_refl _⟩
      · obtain ⟨h2, h3⟩ := h.rng i e h1; exact ⟨h2, by omega⟩
    sep := fun i e j e' hm hm' hji => by
      rcases List.mem_cons.1 hm with h1 | h1
      · cases h1
        rcases List.mem_cons.1 hm' with h2 | h2
        · cases h2; omega
        · rw [hb]; exact (h.rng j e' h2).2
      · rcases List.mem_cons.1 hm' with h2 | h2
        · cases h2; have := h.desc.lt h1; omega
        · exact h.sep i e j e' h1 h2 hji }

theorem chk_nil {anc : List Nat} : ∀ (done : Done), chk anc [] [] done = true
  | [] => rfl
  | (j, d) :: r => by
    simp only [chk, Bool.and_eq_true]
    refine ⟨?_, chk_nil r⟩
    cases memB j anc with
    | true => rfl
    | false =>
      simp only [cond_false, keysOf, disj, Bool.true_and]
      have : ∀ l : List Nat, disj l [] = true := by
        intro l
        induction l with
        | nil => rfl
        | cons x r ih => simp [disj, memB, ih]
      exact this _

theorem evDraw_trace {R : Type} {r : R} {K : St → Option R} (ho : ∀ f, Natural (orc f)) (hanc : ∀ i it, all[i]? = some it → ∀ j, memB j it.anc = true → j < i) : ∀ (its : List AItem) (i nid : Nat) (done : Done), (∀ k, its[k]? = all[i + k]?) →
    TOK G orc all S0 i nid done → evDraw G orc all S0 its i nid done K = some r → ∃ nid' done', TOK G orc all S0 all.length nid' done' ∧ K ⟨envOf (fun _ => true) done' S0.env, heapOf (fun _ => true) done' S0.H, nid'⟩ = some r
  | [], i, nid, done, hk, ht, hr => by
    have h1 : all[i]? = none := by simpa using (hk 0).symm
    have h2 : all.length ≤ i := by simpa using h1
    have h3 : i ≤ all.length := by
      cases i with
      | zero => omega
      | succ n =>
        obtain ⟨e, he⟩ := ht.desc.has (i := n) (by omega)
        obtain ⟨it, h4, _⟩ := ht.fact n e he
        have := (List.getElem?_eq_some_iff.1 h4).1
        omega
    have : i = all.length := by omega
    subst this
    exact ⟨nid, done, ht, hr⟩
  | it :: its, i, nid, done, hk, ht, hr => by
    have hit : all[i]? = some it := by simpa using (hk 0).symm
    have hk' : ∀ k, its[k]? = all[i + 1 + k]? := fun k => by
      have := hk (k + 1)
      rw [List.getElem?_cons_succ] at this
      rw [this]; congr 1; omega
    have run : ∀ {cont : Rec → Option R}, runD G orc all S0 i it nid done cont = some r → (it.guard = none ∨ ∃ j g want e, it.guard = some (j, g, want) ∧ (j, e) ∈ done ∧ e.v = .tv .bool want) → ∃ d, cont d = some r ∧ TOK G orc all S0 (i + 1) (nid + d.na) ((i, d) :: done) := by
      intro cont h hg
      unfold runD at h
      obtain ⟨v, u, h1, h2⟩ := actK_some ho h
      cases hc : chk it.anc (foot G ⟨envI all S0 done i it.anc, heapI S0 done it.anc, 0⟩ it.act) u.hs done with
      | false => rw [hc] at h2; cases h2
      | true =>
        rw [hc] at h2
        exact ⟨_, h2, ht.cons hanc hit rfl (.inr ⟨h1, hg⟩) hc rfl⟩
    have skip : ∀ {j g want e}, it.guard = some (j, g, want) → (j, e) ∈ done → (e.v = .tv .bool (!want) ∨ e.v = .tup .nil) → TOK G orc all S0 (i + 1) nid ((i, ⟨it.dst, .tup .nil, [], [], nid, 0⟩) :: done) := by
      intro j g want e h1 h2 h3
      exact ht.cons (d := ⟨it.dst, .tup .nil, [], [], nid, 0⟩) hanc hit rfl (.inl ⟨j, g, want, e, h1, h2, h3, rfl, rfl, rfl⟩) (chk_nil done) rfl
    simp only [evDraw] at hr
    split at hr
    · rename_i hg
      obtain ⟨d, h1, h2⟩ := run hr (.inl hg)
      exact evDraw_trace ho hanc its _ _ _ hk' h2 h1
    · rename_i j g hg
      split at hr
      case h_2 => cases hr
      rename_i e he
      split at hr
      case h_3 => cases hr
      case h_2 =>
        rename_i hb
        exact evDraw_trace ho hanc its _ _ _ hk' (skip hg (alGet_mem he) (.inr hb)) hr
      rename_i b hb
      have hme := alGet_mem he
      cases b with
      | true =>
        simp only [cond_true] at hr
        rw [donePut_same he hb] at hr
        obtain ⟨d, h1, h2⟩ := run hr (.inr ⟨j, g, true, e, hg, hme, hb⟩)
        exact evDraw_trace ho hanc its _ _ _ hk' h2 h1
      | false =>
        simp only [cond_false] at hr
        rw [donePut_same he hb] at hr
        exact evDraw_trace ho hanc its _ _ _ hk' (skip hg hme (.inl hb)) hr
    · rename_i j g hg
      split at hr
      case h_2 => cases hr
      rename_i e he
      split at hr
      case h_3 => cases hr
      case h_1 =>
        rename_i hb
        exact evDraw_trace ho hanc its _ _ _ hk' (skip hg (alGet_mem he) (.inr hb)) hr
      rename_i b hb
      have hme := alGet_mem he
      cases b with
      | false =>
        simp only [cond_false] at hr
        rw [donePut_same he hb] at hr
        obtain ⟨d, h1, h2⟩ := run hr (.inr ⟨j, g, false, e, hg, hme, hb⟩)
        exact evDraw_trace ho hanc its _ _ _ hk' h2 h1
      | true =>
        simp only [cond_true] at hr
        rw [donePut_same he hb] at hr
        exact evDraw_trace ho hanc its _ _ _ hk' (skip hg hme (.inl hb)) hr

/-! ### What the static check tells -/
variable {P : Program}

theorem all_memB {l : List Nat} {f : Nat → Bool} (h : l.all f = true) {j : Nat} (hj : memB j l = true) : f j = true := List.all_eq_true.1 h j (memB_iff.1 hj)

theorem mdraw_at {N : Nat} {kills : List Nat} {ops : Array Oper} : ∀ (its : List AItem) (os : List Oper) (i : Nat), mdraw P N kills ops all i its os = true → its.length = os.length ∧ ∀ k it o, its[k]? = some it → os[k]? = some o →
    mitem P N kills ops it o = true ∧ (∀ j, memB j it.anc = true → j < i + k ∧ ∃ e ∈ o.after, Region.binds .any e = true ∧ (e.on = j ∨ memB j (ancAt all e.on) = true)) ∧ (∀ e ∈ o.after, Region.binds .any e = true → e.on < i + k) ∧ ∀ j g want, it.guard = some (j, g, want) → memB j it.anc = true
  | [], [], _, _ => ⟨rfl, fun k it o h => by simp at h⟩
  | it :: its, o :: os, i, h => by
    simp only [mdraw, Bool.and_eq_true] at h
    obtain ⟨⟨⟨h1, h2, h3⟩, h4⟩, h5⟩ := h
    obtain ⟨l, ih⟩ := mdraw_at its os (i + 1) h5
    refine ⟨by simp [l], fun k it' o' hk ho => ?_⟩
    cases k with
    | zero =>
      simp only [List.getElem?_cons_zero, Option.some.injEq] at hk ho
      subst hk; subst ho
      refine ⟨h1, fun j hj => ?_, fun e he hb => ?_, fun j g want hg => ?_⟩
      · have := all_memB h2 hj
        simp only [Bool.and_eq_true, Nat.blt_eq, Array.any_eq_true', Bool.or_eq_true] at this
        obtain ⟨h6, e, h7, h8, h9⟩ := this
        refine ⟨by omega, e, h7, h8, h9.imp (fun h => Nat.eq_of_beq_eq_true h) id⟩
      · have := Array.all_eq_true_iff_forall_mem.1 h3 e he
        simp only [hb, Bool.not_true, Bool.false_or, Nat.blt_eq] at this
        omega
      · rw [hg] at h4; exact h4
    | succ k =>
      have := ih k it' o' (by simpa using hk) (by simpa using ho)
      have e : i + (k + 1) = i + 1 + k := by omega
      rw [e]; exact this
  | [], _ :: _, _, h => by simp [mdraw] at h
  | _ :: _, [], _, h => by simp [mdraw] at h

theorem dsts_inj : ∀ {l : List AItem}, distinct (dstsOf l) = true → ∀ {i j : Nat} {a b : AItem} {t : Nat}, l[i]? = some a → l[j]? = some b → a.dst = some t → b.dst = some t → i = j
  | [], _, i, j, a, b, t, h, _, _, _ => by simp at h
  | it :: r, hd, i, j, a, b, t, hi, hj, ha, hb => by
    have hmem : ∀ {k : Nat} {c : AItem}, r[k]? = some c → c.dst = some t → t ∈ dstsOf r := by
      intro k c hk hc
      clear hd hi hj
      induction r generalizing k with
      | nil => simp at hk
      | cons x r ih =>
        cases k with
        | zero =>
          simp only [List.getElem?_cons_zero, Option.some.injEq] at hk
          subst hk
          simp [dstsOf, hc]
        | succ k => simp only [dstsOf, List.mem_append]; exact .inr (ih (by simpa using hk))
    have htail : distinct (dstsOf r) = true := by
      simp only [dstsOf] at hd
      cases hq : it.dst with
      | none => rw [hq] at hd; exact hd
      | some d =>
        rw [hq] at hd
        simp only [List.singleton_append, distinct, Bool.and_eq_true] at hd
        exact hd.2
    have hhead : it.dst = some t → t ∈ dstsOf r → False := by
      intro hq hm
      simp only [dstsOf, hq, List.singleton_append, distinct, Bool.and_eq_true, Bool.not_eq_true'] at hd
      rw [memB_iff.2 hm] at hd
      cases hd.1
    cases i with
    | zero =>
      simp only [List.getElem?_cons_zero, Option.some.injEq] at hi
      subst hi
      cases j with
      | zero => rfl
      | succ j => exact (hhead ha (hmem (by simpa using hj) hb)).elim
    | succ i =>
      cases j with
      | zero =>
        simp only [List.getElem?_cons_zero, Option.some.injEq] at hj
        subst hj
        exact (hhead hb (hmem (by simpa using hi) ha)).elim
      | succ j =>
        have := dsts_inj htail (i := i) (j := j) (by simpa using hi) (by simpa using hj) ha hb
        omega
end
end Go.Av

/-
  A statement whose steps may come in several orders is what it is in the text's order.
-/
namespace Go.Av

def lst (l : Array Bool) (j : Nat) : Bool := l.getD j false

theorem lst_set {l : Array Bool} {i j : Nat} (hi : i < l.size) : lst (l.setIfInBounds i true) j = if j = i then true else lst l j := by
  unfold lst
  by_cases h : j = i
  · subst h; simp [hi]
  · rw [if_neg h]; simp [Array.getElem?_setIfInBounds_ne (Ne.symm h)]

theorem EnvOk.congr {M : Mem} {μ : Map} {S S' : St} {a : Act} (h : EnvOk M μ S a) (hg : ∀ t, S'.get t = S.get t) : EnvOk M μ S' a := fun t => by rw [hg t]; exact h t

theorem get_of_alGet {env env' : List (Nat × AV)} {H H' : Hp} {n n' t : Nat} (h : alGet env t = alGet env' t) : (St.mk env H n).get t = (St.mk env' H' n').get t := by simp only [St.get, h]

section
variable {P : Program} {G : Nat → AV} {orc : Orc} {B : Base} {all : List AItem} {S0 : St} {ops : Array Oper} {done : Done} {nid' : Nat}

structure Inv (B : Base) (P : Program) (G : Nat → AV) (all : List AItem) (S0 : St) (ops : Array Oper) (done : Done) (l : Array Bool) (a : Act) (w : World) : Prop where
  down : ∀ j, lst l j = true → ∀ k, memB k (ancAt all j) = true → lst l k = true
  size : l.size = ops.size
  real : ∃ M μ, Hold B.c M μ (heapOf (lst l) done S0.H) w ∧ GlobOk M G ∧ EnvOk M μ ⟨envOf (lst l) done S0.env, [], 0⟩ a ∧
    (∀ id, μ id ≠ none → id < S0.nid ∨ ∃ i d, (i, d) ∈ done ∧ lst l i = true ∧ d.base ≤ id ∧ id < d.base + d.na) ∧
    a.defers = [] ∧ a.tmps.size = B.a0.tmps.size ∧ B.μ0.le μ ∧ ∀ t, memB t B.kills = false → a.tmps.getD t undef = B.a0.tmps.getD t undef

structure Stat (B : Base) (P : Program) (ops : Array Oper) (all : List AItem) : Prop where
  m : mdraw P B.a0.tmps.size B.kills ops all 0 all ops.toList = true
  d : distinct (dstsOf all) = true

theorem Stat.item (hs : Stat B P ops all) {i : Nat} {o : Oper} (ho : ops[i]? = some o) : ∃ it, all[i]? = some it ∧ mitem P B.a0.tmps.size B.kills ops it o = true ∧ (∀ j, memB j it.anc = true → j < i ∧ ∃ e ∈ o.after, Region.binds .any e = true ∧ (e.on = j ∨ memB j (ancAt all e.on) = true)) ∧
    (∀ e ∈ o.after, Region.binds .any e = true → e.on < i) ∧ ∀ j g want, it.guard = some (j, g, want) → memB j it.anc = true := by
  obtain ⟨hl, h⟩ := mdraw_at _ _ _ hs.m
  have hi : i < ops.size := (Array.getElem?_eq_some_iff.1 ho).1
  have hi' : i < all.length := by rw [hl]; simpa using hi
  refine ⟨all[i], List.getElem?_eq_getElem hi', ?_⟩
  have := h i all[i] o (List.getElem?_eq_getElem hi') (by rw [← ho]; simp)
  simpa only [Nat.zero_add] using this

theorem Stat.len (hs : Stat B P ops all) : all.length = ops.size := by
  obtain ⟨hl, _⟩ := mdraw_at _ _ _ hs.m
  rw [hl]; simp

theorem Stat.anc (hs : Stat B P ops all) : ∀ i it, all[i]? = some it → ∀ j, memB j it.anc = true → j < i := by
  intro i it hi j hj
  have h1 : i < ops.size := by rw [← hs.len]; exact (List.getElem?_eq_some_iff.1 hi).1
  obtain ⟨it', h2, _, h3, _⟩ := hs.item (Array.getElem?_eq_getElem h1)
  rw [hi] at h2
  cases h2
  exact (h3 j hj).1

theorem Inv.start {M : Mem} {μ : Map} {a : Act} {w : World} (h : SOk B P G M μ S0 a w) : Inv B P G all S0 ops done (Array.replicate ops.size false) a w where
  down := fun j hj => by
    unfold lst at hj
    have : (Array.replicate ops.size false).getD j false = false := by
      rw [Array.getD_eq_getD_getElem?, Array.getElem?_replicate]; split <;> rfl
    rw [this] at hj; cases hj
  size := by simp
  real := by
    have hf : ∀ j, lst (Array.replicate ops.size false) j = false := fun j => by
      unfold lst
      rw [Array.getD_eq_getD_getElem?, Array.getElem?_replicate]; split <;> rfl
    have he : ∀ (ds : Done) env, envOf (lst (Array.replicate ops.size false)) ds env = env := by
      intro ds env
      induction ds with
      | nil => rfl
      | cons x r ih => obtain ⟨j, e⟩ := x; simp only [envOf, hf, cond_false, ih]
    have hh : ∀ (ds : Done) H, heapOf (lst (Array.replicate ops.size false)) ds H = H := by
      intro ds H
      induction ds with
      | nil => rfl
      | cons x r ih => obtain ⟨j, e⟩ := x; simp only [heapOf, hf, cond_false, ih]
    refine ⟨M, μ, by rw [hh]; exact h.hold, h.glob, by rw [he]; exact h.env.congr fun t => rfl, fun id hid => ?_, h.defs, h.size, h.base, h.keep⟩
    by_cases hlt : id < S0.nid
    · exact .inl hlt
    · exact absurd (h.fresh id (by omega)) hid

theorem Inv.step (hs : Stat B P ops all) (ho : OrcOK P G orc) (ht : TOK G orc all S0 all.length nid' done) {Q : Exit → Act → World → Prop} {l : Array Bool} {a : Act} {w : World} {i : Nat} (h : Inv B P G all S0 ops done l a w) (hi : i ∈ Region.ready .any ops l) :
    wpOp P ops Q i (fun a' w' => Inv B P G all S0 ops done (l.setIfInBounds i true) a' w') a w := by
  obtain ⟨hun, o, hoi, hedge⟩ := mem_ready.1 hi
  have hio : i < ops.size := (Array.getElem?_eq_some_iff.1 hoi).1
  have hil : i < l.size := by rw [h.size]; exact hio
  have hpi : lst l i = false := by
    unfold lst
    rw [Array.getD_eq_getD_getElem?, Array.getElem?_eq_getElem hil] at hun ⊢
    simpa using hun
  obtain ⟨it, hit, hm, hanc, _, hgu⟩ := hs.item hoi
  have hai : ancAt all i = it.anc := by simp only [ancAt, hit]
  have hin : ∀ j, memB j it.anc = true → lst l j = true := by
    intro j hj
    obtain ⟨_, e, he, hb, hor⟩ := hanc j hj
    have := hedge e he hb
    rcases hor with rfl | hor
    · exact this
    · exact h.down _ this j hor
  obtain ⟨d, hd⟩ := ht.desc.has (i := i) (by rw [hs.len]; exact hio)
  obtain ⟨it', hit', hdst, hfact⟩ := ht.fact i d hd
  rw [hit] at hit'
  cases hit'
  simp only [mitem, Bool.and_eq_true] at hm
  obtain ⟨⟨⟨⟨m1, m2⟩, m3⟩, m4⟩, m5⟩ := hm
  have hod : it.dst = o.dst := eqO_eq m1
  have un : ∀ j e, (j, e) ∈ done → lst l j = true → memB j it.anc = false → (∀ id ∈ keysOf e.hs, id ∉ d.rf) ∧ (∀ id ∈ keysOf d.hs, id ∉ keysOf e.hs) := by
    intro j e hje hpj hnj
    rcases Nat.lt_trichotomy j i with h1 | h1 | h1
    · obtain ⟨h2, h3⟩ := ht.pair i d j e hd hje h1 (by rw [hai]; exact hnj)
      exact ⟨h3, fun id hid => (h2 id hid).2⟩
    · subst h1; rw [hpi] at hpj; cases hpj
    · have hni : memB i (ancAt all j) = false := by
        cases hq : memB i (ancAt all j) with
        | false => rfl
        | true => have := h.down j hpj i hq; rw [hpi] at this; cases this
      obtain ⟨h2, h3⟩ := ht.pair j e i d hje hd h1 hni
      exact ⟨fun id hid => (h2 id hid).1, fun id hid hid' => (h2 id hid').2 hid⟩
  have dnot : ∀ {t : Nat}, d.dst = some t → ∀ j e, (j, e) ∈ done → j ≠ i → e.dst ≠ some t := by
    intro t hdt j e hje hne het
    obtain ⟨it2, h2, h3, _⟩ := ht.fact j e hje
    exact hne (dsts_inj hs.d h2 hit (by rw [← h3]; exact het) (by rw [← hdst]; exact hdt))
  obtain ⟨M, μ, hH, hG, hE, hF, hD, hS, hB, hK⟩ := h.real
  -- what follows any outcome
  have next : ∀ {M' μ' v' w'}, M.le M' → μ.le μ' → Hold B.c M' μ' (d.hs ++ heapOf (lst l) done S0.H) w' → AVV M' μ' d.v v' → (∀ id, μ' id ≠ none → μ id ≠ none ∨ (d.base ≤ id ∧ id < d.base + d.na)) → Inv B P G all S0 ops done (l.setIfInBounds i true) (a.put o.dst v') w' := by
    intro M' μ' v' w' lM lμ hH' hv hn
    have pq : ∀ j, j ≠ i → lst (l.setIfInBounds i true) j = lst l j := fun j hj => by rw [lst_set hil, if_neg hj]
    have pi : lst (l.setIfInBounds i true) i = true := by rw [lst_set hil, if_pos rfl]
    refine ⟨fun j hj k hk => ?_, by simpa using h.size, M', μ', hH'.sub ?_, hG.mono lM, ?_, fun id hid => ?_, (put_defs _ _ _).trans hD, (put_size _ _ _).trans hS, hB.trans lμ, fun t htt => (put_keep m3 htt).trans (hK t htt)⟩
    · have hk' : lst l k = true := by
        by_cases e : j = i
        · subst e; rw [hai] at hk; exact hin k hk
        · rw [pq j e] at hj; exact h.down j hj k hk
      by_cases e : k = i
      · subst e; exact pi
      · rw [pq k e]; exact hk'
    · intro id k hk
      rw [hget_app]
      cases hx : alGet d.hs id with
      | none =>
        rw [← heapOf_congr (q := lst (l.setIfInBounds i true)) done fun j e hje => ?_]
        · exact hk
        · by_cases hj : j = i
          · subst hj
            rw [ht.desc.uniq hje hd]; exact .inr hx
          · exact .inl (pq j hj)
      | some x =>
        have := heapOf_hit (H0 := S0.H) pi hx ht.desc hd fun j e hje hij hpj => by
          rw [pq j (by omega)] at hpj
          have hnj : memB j it.anc = false := by
            cases hq : memB j it.anc with
            | false => rfl
            | true => have := (hanc j hq).1; omega
          cases hq : alGet e.hs id with
          | none => rfl
          | some y => exact absurd (keysOf_mem (by rw [hq]; simp)) ((un j e hje hpj hnj).2 id (keysOf_mem (by rw [hx]; simp)))
        rw [this] at hk
        exact hk
    · have h1 : EnvOk M' μ' ⟨envPut o.dst d.v (envOf (lst l) done S0.env), [], 0⟩ (a.put o.dst v') := EnvOk.put (H := []) (n := 0) (fun t => (hE t).mono lM lμ) hv (by rw [hS]; exact m2)
      refine h1.congr fun t => get_of_alGet ?_
      rw [alGet_envPut]
      by_cases e : o.dst = some t
      · rw [if_pos e]
        exact envOf_hit pi (by rw [hdst, hod]; exact e) ht.desc hd (dnot (by rw [hdst, hod]; exact e))
      · rw [if_neg e]
        refine envOf_congr done fun j e' hje => ?_
        by_cases hj : j = i
        · subst hj
          rw [ht.desc.uniq hje hd, hdst, hod]; exact .inr e
        · exact .inl (pq j hj)
    · rcases hn id hid with h1 | h1
      · rcases hF id h1 with h2 | ⟨j, e, h2, h3, h4⟩
        · exact .inl h2
        · refine .inr ⟨j, e, h2, ?_, h4⟩
          by_cases hj : j = i
          · subst hj; exact pi
          · rw [pq j hj]; exact h3
      · exact .inr ⟨i, d, hd, pi, h1⟩
  -- the guard
  have gval0 : ∀ {j g want e}, it.guard = some (j, g, want) → (j, e) ∈ done → o.guard = some (j, want) ∧ dstOf ops j = some g ∧ (St.mk (envOf (lst l) done S0.env) [] 0).get g = e.v := by
    intro j g want e hg hje
    rw [hg] at m4
    obtain ⟨h1, h2⟩ := mguard_some m4
    refine ⟨h1, h2, ?_⟩
    have hpj : lst l j = true := hin j (hgu j g want hg)
    obtain ⟨it2, h3, h4, _⟩ := ht.fact j e hje
    have hed : e.dst = some g := by
      unfold dstOf at h2
      cases hoj : ops[j]? with
      | none => rw [hoj] at h2; cases h2
      | some oj =>
        rw [hoj] at h2
        obtain ⟨it3, h5, h6, _⟩ := hs.item hoj
        rw [h3] at h5
        cases h5
        simp only [mitem, Bool.and_eq_true] at h6
        rw [h4, eqO_eq h6.1.1.1.1]; exact h2
    have : alGet (envOf (lst l) done S0.env) g = some e.v := envOf_hit hpj hed ht.desc hje fun j' e' hje' hne het => by
      obtain ⟨it3, h5, h6, _⟩ := ht.fact j' e' hje'
      exact hne (dsts_inj hs.d h5 h3 (by rw [← h6]; exact het) (by rw [← h4]; exact hed))
    simp only [St.get, this]
  have gval : ∀ {j g want e b}, it.guard = some (j, g, want) → (j, e) ∈ done → e.v = .tv .bool b → o.guard = some (j, want) ∧ yielded ops a.tmps j = some b := by
    intro j g want e b hg hje hv
    obtain ⟨h1, h2, h3⟩ := gval0 hg hje
    exact ⟨h1, yielded_of hE h2 (by rw [h3, hv])⟩
  unfold wpOp
  simp only [hoi]
  rcases hfact with ⟨j, g, want, e, h1, h2, h3, h4, h5, h6⟩ | ⟨hact, hguard⟩
  · have : ¬ Region.wanted o (yielded ops a.tmps) = true := by
      rcases h3 with h3 | h3
      · obtain ⟨h7, h8⟩ := gval h1 h2 h3
        simp only [Region.wanted, h7, h8]
        cases want <;> simp
      · obtain ⟨h7, h8⟩ := gval0 h1 h2
        simp only [Region.wanted, h7, yielded_undef hE h8.1 (by rw [h8.2, h3])]
        simp
    rw [if_neg this]
    refine next (Mem.le.refl _) (Map.le.refl _) ?_ (by rw [h4]; exact AVV_undef) (fun _ h => .inl h)
    rw [h5]; exact hH
  · have hw : Region.wanted o (yielded ops a.tmps) = true := by
      rcases hguard with hg | ⟨j, g, want, e, h1, h2, h3⟩
      · rw [hg] at m4
        simp only [Region.wanted, mguard_none m4]
      · obtain ⟨h7, h8⟩ := gval h1 h2 h3
        simp only [Region.wanted, h7, h8, beq_self_eq_true]
    rw [if_pos hw]
    refine .inl ?_
    have hsub : ∀ id k, hget (restr d.rf (heapI S0 done it.anc)) id = some k → hget (heapOf (lst l) done S0.H) id = some k := by
      intro id k hk
      obtain ⟨h1, h2⟩ := hget_restr _ _ _ _ hk
      unfold heapI at h2
      rw [← h2]
      symm
      refine heapOf_congr done fun j e hje => ?_
      cases hq : memB j it.anc with
      | true => rw [hin j hq]; exact .inl rfl
      | false =>
        cases hp : lst l j with
        | false => exact .inl rfl
        | true =>
          refine .inr ?_
          cases hx : alGet e.hs id with
          | none => rfl
          | some x => exact absurd h1 ((un j e hje hp hq).1 id (keysOf_mem (by rw [hx]; simp)))
    have hEi : EnvOk M μ ⟨envI all S0 done i it.anc, restr d.rf (heapI S0 done it.anc), 0⟩ a := by
      intro t
      have key : (St.mk (envI all S0 done i it.anc) (restr d.rf (heapI S0 done it.anc)) 0).get t = .dead ∨ (St.mk (envI all S0 done i it.anc) (restr d.rf (heapI S0 done it.anc)) 0).get t = (St.mk (envOf (lst l) done S0.env) [] 0).get t := by
        simp only [St.get, envI, alGet_append]
        rcases deadsOf_get (i := i) (anc := it.anc) (t := t) (l := all) (n := 0) with h1 | ⟨h1, h2⟩
        · left; rw [h1]
        · right
          rw [h1]
          simp only
          rw [envOf_congr (q := fun j => memB j it.anc) (p := lst l) done fun j e hje => ?_]
          cases hq : memB j it.anc with
          | true => rw [hin j hq]; exact .inl rfl
          | false =>
            cases hp : lst l j with
            | false => exact .inl rfl
            | true =>
              refine .inr ?_
              obtain ⟨it2, h3, h4, _⟩ := ht.fact j e hje
              rw [h4]
              refine h2 j it2 h3 (fun e => ?_) (by simpa using hq) ?_
              · have e : j = i := by omega
                subst e; rw [hpi] at hp; cases hp
              · cases hq2 : memB i it2.anc with
                | false => rfl
                | true =>
                  have := h.down j hp i (by simp only [ancAt, h3]; exact hq2)
                  rw [hpi] at this; cases this
      rcases key with h1 | h1
      · rw [h1]; trivial
      · rw [h1]; exact hE t
    refine act_ok (c := ⟨w, ownOf μ (restr d.rf (heapI S0 done it.anc)), M⟩) (S := ⟨envI all S0 done i it.anc, restr d.rf (heapI S0 done it.anc), 0⟩) ⟨hH.part hsub, hG, hEi⟩ ho m5 hact ?_ ?_
    · intro id h1 h2
      cases hq : μ id with
      | none => rfl
      | some x =>
        simp only at h2
        obtain ⟨r1, r2⟩ := ht.rng i d hd
        rcases hF id (by rw [hq]; simp) with h3 | ⟨j, e, h3, h4, h5, h6⟩
        · omega
        · have hne : j ≠ i := fun e => by subst e; rw [hpi] at h4; cases h4
          rcases Nat.lt_or_gt_of_ne hne with h7 | h7
          · have := ht.sep i d j e hd h3 h7; omega
          · have := ht.sep j e i d h3 hd h7; omega
    · intro v' w' M' μ' l1 l2 hH' hv hn
      exact next l1 l2 (hH.unpart hsub hH' l2) hv hn

theorem filter_lt {α : Type} {p q : α → Bool} {x : α} : ∀ {l : List α}, (∀ y, q y = true → p y = true) → x ∈ l → p x = true → q x = false → (l.filter q).length < (l.filter p).length
  | [], _, hx, _, _ => by cases hx
  | y :: r, hle, hx, hp, hq => by
    have hmono : (r.filter q).length ≤ (r.filter p).length := by
      clear hx
      induction r with
      | nil => exact Nat.le_refl _
      | cons z r ih =>
        simp only [List.filter_cons]
        cases hqz : q z with
        | true => rw [hle z hqz]; simp; exact ih
        | false => cases p z <;> simp <;> omega
    rcases List.mem_cons.1 hx with e | e
    · subst e
      simp only [List.filter_cons, hp, hq]
      simp; omega
    · have := filter_lt hle e hp hq
      simp only [List.filter_cons]
      cases hqy : q y with
      | true => rw [hle y hqy]; simp; exact this
      | false => cases p y <;> simp <;> omega

theorem ready_nil (hs : Stat B P ops all) {l : Array Bool} (hsz : l.size = ops.size) (h : Region.ready .any ops l = []) : ∀ i, i < ops.size → lst l i = true := by
  intro i
  induction i using Nat.strongRecOn with
  | _ i ih =>
    intro hi
    cases hq : lst l i with
    | true => rfl
    | false =>
      obtain ⟨it, _, _, _, hed, _⟩ := hs.item (Array.getElem?_eq_getElem hi)
      have : i ∈ Region.ready .any ops l := by
        rw [mem_ready]
        refine ⟨?_, ops[i], Array.getElem?_eq_getElem hi, fun e he hb => ?_⟩
        · unfold lst at hq
          rw [Array.getD_eq_getD_getElem?, Array.getElem?_eq_getElem (by omega)] at hq ⊢
          simpa using hq
        · have := hed e he hb
          exact ih e.on this (by omega)
      rw [h] at this; cases this

theorem Inv.fin (hs : Stat B P ops all) (ht : TOK G orc all S0 all.length nid' done) {l : Array Bool} {a : Act} {w : World} (h : Inv B P G all S0 ops done l a w) (hl : ∀ i, i < ops.size → lst l i = true) :
    ∃ M μ, SOk B P G M μ ⟨envOf (fun _ => true) done S0.env, heapOf (fun _ => true) done S0.H, nid'⟩ a w := by
  obtain ⟨M, μ, hH, hG, hE, hF, hD, hS, hB, hK⟩ := h.real
  have hp : ∀ j e, (j, e) ∈ done → lst l j = true := fun j e hje => hl j (by rw [← hs.len]; exact ht.desc.lt hje)
  refine ⟨M, μ, hH.sub fun id k hk => ?_, hG, hE.congr fun t => get_of_alGet ?_, fun id hid => ?_, hD, hS, hB, hK⟩
  · rw [← heapOf_congr (q := fun _ => true) done fun j e hje => .inl (hp j e hje).symm]
    exact hk
  · exact envOf_congr done fun j e hje => .inl (hp j e hje).symm
  · cases hq : μ id with
    | none => rfl
    | some x =>
      simp only at hid
      rcases hF id (by rw [hq]; simp) with h1 | ⟨j, e, h2, h3, h4, h5⟩
      · have := ht.lo; omega
      · have := (ht.rng j e h2).2; omega

theorem Inv.any (hs : Stat B P ops all) (ho : OrcOK P G orc) (ht : TOK G orc all S0 all.length nid' done) {Q : Exit → Act → World → Prop} (hQ : ∀ M μ a w, SOk B P G M μ ⟨envOf (fun _ => true) done S0.env, heapOf (fun _ => true) done S0.H, nid'⟩ a w → Q .normal a w) :
    ∀ (fuel : Nat) (l : Array Bool) (a : Act) (w : World), Inv B P G all S0 ops done l a w → ((List.range ops.size).filter fun i => !lst l i).length ≤ fuel → wpAny P .any ops Q fuel l a w := by
  intro fuel
  have fin : ∀ {l a w}, Inv B P G all S0 ops done l a w → (∀ i, i < ops.size → lst l i = true) → Q .normal a w := by
    intro l a w h hl
    obtain ⟨M, μ, h1⟩ := h.fin hs ht hl
    exact hQ M μ a w h1
  induction fuel with
  | zero =>
    intro l a w h hc
    have hl : ∀ i, i < ops.size → lst l i = true := by
      intro i hi
      cases hq : lst l i with
      | true => rfl
      | false =>
        have : i ∈ (List.range ops.size).filter fun i => !lst l i := by simp [hi, hq]
        have := List.length_pos_of_mem this
        omega
    refine ⟨?_, fin h hl⟩
    cases hr : Region.ready .any ops l with
    | nil => rfl
    | cons x r =>
      have hx : x ∈ Region.ready .any ops l := by rw [hr]; exact List.mem_cons_self ..
      obtain ⟨h1, o, h2, _⟩ := mem_ready.1 hx
      have hxs : x < ops.size := (Array.getElem?_eq_some_iff.1 h2).1
      have := hl x hxs
      unfold lst at this
      rw [Array.getD_eq_getD_getElem?, Array.getElem?_eq_getElem (by rw [h.size]; exact hxs)] at this h1
      simp at this h1
      rw [this] at h1; cases h1
  | succ fuel ih =>
    intro l a w h hc
    refine ⟨fun hr => fin h (ready_nil hs h.size hr), fun i hi => ?_⟩
    refine wpOp_mono (fun a' w' h' => ih _ a' w' h' ?_) (h.step hs ho ht hi)
    obtain ⟨h1, o, h2, _⟩ := mem_ready.1 hi
    have hio : i < ops.size := (Array.getElem?_eq_some_iff.1 h2).1
    have hil : i < l.size := by rw [h.size]; exact hio
    have hlt := filter_lt (p := fun i => !lst l i) (q := fun j => !lst (l.setIfInBounds i true) j) (x := i) (l := List.range ops.size) (fun y hy => by
      rw [lst_set hil] at hy
      split at hy
      · cases hy
      · exact hy) (by simpa using hio) (by
        unfold lst
        rw [Array.getD_eq_getD_getElem?, Array.getElem?_eq_getElem hil] at h1 ⊢
        simpa using h1) (by rw [lst_set hil, if_pos rfl]; rfl)
    omega

theorem wp_draw {R : Type} {r : R} {K : St → Option R} {id : Nat} {Q : Exit → Act → World → Prop} {M : Mem} {μ : Map} {a : Act} {w : World} (hmo : P.follows .mixedOrders = true) (hs : Stat B P ops all) (ho : OrcOK P G orc) (h : SOk B P G M μ S0 a w)
    (hr : evDraw G orc all S0 all 0 S0.nid [] K = some r) (hQ : ∀ M' μ' S' a' w', K S' = some r → SOk B P G M' μ' S' a' w' → Q .normal a' w') : (Code.region id ops true).wp P Q a w := by
  obtain ⟨nid', done, ht, hK⟩ := evDraw_trace ho.nat hs.anc all 0 S0.nid [] (fun k => by rw [Nat.zero_add]) { desc := rfl, fact := (fun _ _ h => nomatch h), pair := (fun _ _ _ _ h => nomatch h), lo := Nat.le_refl _, rng := (fun _ _ h => nomatch h), sep := (fun _ _ _ _ h => nomatch h) } hr
  refine wp_region_any hmo ?_
  have hw : SOk B P G M μ S0 a { w with drawn := w.drawn + 1 } := { h with hold := h.hold.grow ((Grows.refl w).drew) }
  refine Inv.any hs ho ht (fun M' μ' a' w' h' => hQ M' μ' _ a' w' hK h') _ _ _ _ (Inv.start (done := done) hw) ?_
  refine Nat.le_trans (List.length_filter_le _ _) ?_
  simp
end
end Go.Av

/-
  The forms of what a piece of code takes and gives: typed functions in place of abstract ones; what leaves a piece of code.
-/
namespace Go.Av

inductive AExit where
  | normal
  | exit (id : Nat)
  | ret

def AExit.eq : AExit → AExit → Bool
  | .normal, .normal => true
  | .exit i, .exit j => Nat.beq i j
  | .ret, .ret => true
  | _, _ => false

theorem AExit.eq_of {x y : AExit} (h : x.eq y = true) : x = y := by
  unfold AExit.eq at h
  split at h
  · rfl
  · rw [Nat.eq_of_beq_eq_true h]
  · rfl
  · cases h

inductive APat where
  | sln (b : Bool) (e : Ty) | tv (τ : Ty) | fp (τ : Ty) | ptr (id : Nat) (p : List Step) | row (id : Nat) | obj (id : Nat) | mp (id : Nat) | nilp | nilf
  | cons (a b : APat) | nil | fn (f : FuncId) (first caps : APat) | tup (l : APat)

@[reducible] def APat.D : APat → Type
  | .tv τ => τ.T
  | .fp τ => τ.T
  | .sln _ e => List e.T
  | .cons a b => a.D × b.D
  | .fn _ b c => b.D × c.D
  | .tup l => l.D
  | _ => Unit

def APat.mk : (p : APat) → p.D → AV
  | .tv τ, x => .tv τ x
  | .fp τ, x => .fp τ x
  | .sln b e, x => .sln b e x
  | .ptr id p, _ => .ptr id p
  | .row id, _ => .row id
  | .obj id, _ => .obj id
  | .mp id, _ => .mp id
  | .nilp, _ => .nilp
  | .nilf, _ => .nilf
  | .cons a b, x => .cons (a.mk x.1) (b.mk x.2)
  | .nil, _ => .nil
  | .fn f b c, x => .fn f (b.mk x.1) (c.mk x.2)
  | .tup l, x => .tup (l.mk x)

def APat.of : (p : APat) → AV → Option p.D
  | .tv τ, .tv σ x => if h : σ = τ then some (h ▸ x) else none
  | .fp τ, .fp σ x => if h : σ = τ then some (h ▸ x) else none
  | .sln b e, .sln b' e' xs => if h : e' = e then (bif b == b' then some (h ▸ xs) else none) else none
  | .ptr id p, .ptr id' p' => if id = id' ∧ p = p' then some () else none
  | .row id, .row id' => bif Nat.beq id id' then some () else none
  | .obj id, .obj id' => bif Nat.beq id id' then some () else none
  | .mp id, .mp id' => bif Nat.beq id id' then some () else none
  | .nilp, .nilp => some ()
  | .nilf, .nilf => some ()
  | .cons a b, .cons u v => (match a.of u, b.of v with
    | some x, some y => some (x, y)
    | _, _ => none)
  | .nil, .nil => some ()
  | .fn f b c, .fn f' b' c' => bif Nat.beq f f' then (match b.of b', c.of c' with
    | some x, some y => some (x, y)
    | _, _ => none) else none
  | .tup l, .tup l' => l.of l'
  | _, _ => none

theorem APat.of_mk : ∀ {p : APat} {a : AV} {d : p.D}, p.of a = some d → a = p.mk d := by
  intro p
  induction p with
  | tv τ =>
    intro a d h
    cases a <;> simp only [APat.of] at h <;> try cases h
    split at h
    · rename_i e; subst e; cases h; rfl
    · cases h
  | fp τ =>
    intro a d h
    cases a <;> simp only [APat.of] at h <;> try cases h
    split at h
    · rename_i e; subst e; cases h; rfl
    · cases h
  | sln b e =>
    intro a d h
    cases a <;> simp only [APat.of] at h <;> try cases h
    rename_i b' e' xs
    split at h
    · rename_i he; subst he
      cases hq : (b == b') with
      | false => rw [hq] at h; cases h
      | true =>
        rw [hq] at h; cases h
        rw [beq_iff_eq] at hq; subst hq; rfl
    · cases h
  | ptr id p =>
    intro a d h
    cases a <;> simp only [APat.of] at h <;> try cases h
    split at h
    · rename_i e; obtain ⟨rfl, rfl⟩ := e; rfl
    · cases h
  | row id =>
    intro a d h
    cases a <;> simp only [APat.of] at h <;> try cases h
    rename_i id'
    cases hq : Nat.beq id id' with
    | false => rw [hq] at h; cases h
    | true => rw [Nat.eq_of_beq_eq_true hq]; rfl
  | obj id =>
    intro a d h
    cases a <;> simp only [APat.of] at h <;> try cases h
    rename_i id'
    cases hq : Nat.beq id id' with
    | false => rw [hq] at h; cases h
    | true => rw [Nat.eq_of_beq_eq_true hq]; rfl
  | mp id =>
    intro a d h
    cases a <;> simp only [APat.of] at h <;> try cases h
    rename_i id'
    cases hq : Nat.beq id id' with
    | false => rw [hq] at h; cases h
    | true => rw [Nat.eq_of_beq_eq_true hq]; rfl
  | nilp =>
    intro a d h
    cases a <;> simp only [APat.of] at h <;> first | rfl | cases h
  | nilf =>
    intro a d h
    cases a <;> simp only [APat.of] at h <;> first | rfl | cases h
  | cons x y ihx ihy =>
    intro a d h
    cases a <;> simp only [APat.of] at h <;> try cases h
    split at h
    · rename_i u v hu hv
      cases h
      rw [ihx hu, ihy hv]; rfl
    · cases h
  | nil =>
    intro a d h
    cases a <;> simp only [APat.of] at h <;> first | rfl | cases h
  | fn f b c ihb ihc =>
    intro a d h
    cases a <;> simp only [APat.of] at h <;> try cases h
    rename_i f' b' c'
    cases hq : Nat.beq f f' with
    | false => rw [hq] at h; cases h
    | true =>
      rw [hq] at h
      simp only [cond_true] at h
      split at h
      · rename_i x y hx hy
        cases h
        rw [Nat.eq_of_beq_eq_true hq, ihb hx, ihc hy]; rfl
      · cases h
  | tup l ih =>
    intro a d h
    cases a <;> simp only [APat.of] at h <;> try cases h
    rw [ih h]; rfl

inductive BPat where
  | box (p : APat) | row (e : Ty) (fz : Bool) | iter | mp (κ : Ty)

@[reducible] def BPat.D : BPat → Type
  | .box p => p.D
  | .row e _ => List e.T
  | .iter => List UInt8 × Nat
  | .mp κ => List (κ.T × Int)

def BPat.mk : (p : BPat) → p.D → Blk
  | .box p, x => .box (p.mk x)
  | .row e fz, x => .row e x fz
  | .iter, x => .iter x.1 x.2
  | .mp κ, x => .mp κ x

def BPat.of : (p : BPat) → Blk → Option p.D
  | .box p, .box v => p.of v
  | .row e fz, .row e' xs fz' => if h : e' = e then (bif fz == fz' then some (h ▸ xs) else none) else none
  | .iter, .iter s n => some (s, n)
  | .mp κ, .mp κ' l => if h : κ' = κ then some (h ▸ l) else none
  | _, _ => none

theorem BPat.of_mk {p : BPat} {a : Blk} {d : p.D} (h : p.of a = some d) : a = p.mk d := by
  cases p with
  | box p =>
    cases a <;> simp only [BPat.of] at h <;> try cases h
    rw [APat.of_mk h]; rfl
  | row e fz =>
    cases a <;> simp only [BPat.of] at h <;> try cases h
    rename_i e' xs fz'
    split at h
    · rename_i e; subst e
      cases hq : (fz == fz') with
      | false => rw [hq] at h; cases h
      | true =>
        rw [hq] at h; cases h
        rw [beq_iff_eq] at hq; subst hq; rfl
    · cases h
  | iter =>
    cases a <;> simp only [BPat.of] at h <;> cases h
    rfl
  | mp κ =>
    cases a <;> simp only [BPat.of] at h <;> try cases h
    split at h
    · rename_i e; subst e; cases h; rfl
    · cases h

@[reducible] def LD : List APat → Type
  | [] => Unit
  | [p] => p.D
  | p :: q :: r => p.D × LD (q :: r)
def lmk : (ps : List APat) → LD ps → List AV
  | [], _ => []
  | [p], d => [p.mk d]
  | p :: q :: r, d => p.mk d.1 :: lmk (q :: r) d.2
def lof : (ps : List APat) → List AV → Option (LD ps)
  | [], [] => some ()
  | [p], [a] => p.of a
  | p :: q :: r, a :: b => (match p.of a, lof (q :: r) b with
    | some x, some y => some (x, y)
    | _, _ => none)
  | _, _ => none
theorem lof_mk : ∀ {ps : List APat} {as : List AV} {d : LD ps}, lof ps as = some d → as = lmk ps d
  | [], [], _, _ => rfl
  | [p], [a], d, h => by rw [APat.of_mk h]; rfl
  | p :: q :: r, a :: b, d, h => by
    simp only [lof] at h
    split at h
    · rename_i x y h1 h2
      cases h
      rw [APat.of_mk h1, lof_mk h2]; rfl
    · cases h
  | [], _ :: _, _, h => by simp [lof] at h
  | [p], [], _, h => by simp [lof] at h
  | [p], _ :: _ :: _, _, h => by simp [lof] at h
  | p :: q :: r, [], _, h => by simp [lof] at h

@[reducible] def BD : List BPat → Type
  | [] => Unit
  | [p] => p.D
  | p :: q :: r => p.D × BD (q :: r)
def bmk : (ps : List BPat) → BD ps → List Blk
  | [], _ => []
  | [p], d => [p.mk d]
  | p :: q :: r, d => p.mk d.1 :: bmk (q :: r) d.2
def bof : (ps : List BPat) → List Blk → Option (BD ps)
  | [], [] => some ()
  | [p], [a] => p.of a
  | p :: q :: r, a :: b => (match p.of a, bof (q :: r) b with
    | some x, some y => some (x, y)
    | _, _ => none)
  | _, _ => none
theorem bof_mk : ∀ {ps : List BPat} {as : List Blk} {d : BD ps}, bof ps as = some d → as = bmk ps d
  | [], [], _, _ => rfl
  | [p], [a], d, h => by rw [BPat.of_mk h]; rfl
  | p :: q :: r, a :: b, d, h => by
    simp only [bof] at h
    split at h
    · rename_i x y h1 h2
      cases h
      rw [BPat.of_mk h1, bof_mk h2]; rfl
    · cases h
  | [], _ :: _, _, h => by simp [bof] at h
  | [p], [], _, h => by simp [bof] at h
  | [p], _ :: _ :: _, _, h => by simp [bof] at h
  | p :: q :: r, [], _, h => by simp [bof] at h

/-- What a piece of code takes, or gives at one of its ends. -/
structure XPat where
  x : AExit
  vs : List APat
  bs : List BPat

@[reducible] def XPat.D (p : XPat) : Type :=
  match p.bs with
  | [] => LD p.vs
  | b :: r => LD p.vs × BD (b :: r)

def XPat.vals (p : XPat) (d : p.D) : List AV :=
  match p, d with
  | ⟨_, vs, []⟩, d => lmk vs d
  | ⟨_, vs, _ :: _⟩, d => lmk vs d.1
def XPat.blks (p : XPat) (d : p.D) : List Blk :=
  match p, d with
  | ⟨_, _, []⟩, _ => []
  | ⟨_, _, b :: r⟩, d => bmk (b :: r) d.2
def XPat.of (p : XPat) (as : List AV) (bs : List Blk) : Option p.D :=
  match p with
  | ⟨_, vs, []⟩ => (match bs with
    | [] => lof vs as
    | _ :: _ => none)
  | ⟨_, vs, b :: r⟩ => (match lof vs as, bof (b :: r) bs with
    | some x, some y => some (x, y)
    | _, _ => none)
theorem XPat.of_mk {p : XPat} {as : List AV} {bs : List Blk} {d : p.D} (h : p.of as bs = some d) : as = p.vals d ∧ bs = p.blks d := by
  obtain ⟨x, vs, ps⟩ := p
  cases ps with
  | nil =>
    simp only [XPat.of] at h
    split at h
    · exact ⟨lof_mk h, rfl⟩
    · cases h
  | cons b r =>
    simp only [XPat.of] at h
    split at h
    · rename_i y z h1 h2
      cases h
      exact ⟨lof_mk h1, bof_mk h2⟩
    · cases h

@[reducible] def XD : List XPat → Type
  | [] => Empty
  | [p] => p.D
  | p :: q :: r => p.D ⊕ XD (q :: r)

section
variable {R : Type}
def xout : (ps : List XPat) → XD ps → (AExit → List AV → List Blk → Option R) → Option R
  | [], d, _ => nomatch d
  | [p], d, K => K p.x (p.vals d) (p.blks d)
  | p :: q :: r, d, K => Sum.elim (fun d => K p.x (p.vals d) (p.blks d)) (fun d => xout (q :: r) d K) d
end

def xof : (ps : List XPat) → AExit → List AV → List Blk → Option (XD ps)
  | [], _, _, _ => none
  | [p], x, as, bs => bif p.x.eq x then p.of as bs else none
  | p :: q :: r, x, as, bs => (match (bif p.x.eq x then p.of as bs else none) with
    | some d => some (.inl d)
    | none => (match xof (q :: r) x as bs with
      | some d => some (.inr d)
      | none => none))

theorem xof_out {R : Type} {K : AExit → List AV → List Blk → Option R} : ∀ {ps : List XPat} {x : AExit} {as : List AV} {bs : List Blk} {d : XD ps}, xof ps x as bs = some d → xout ps d K = K x as bs
  | [], _, _, _, _, h => by simp [xof] at h
  | [p], x, as, bs, d, h => by
    simp only [xof] at h
    cases hx : p.x.eq x with
    | false => rw [hx] at h; cases h
    | true =>
      rw [hx] at h
      obtain ⟨h1, h2⟩ := XPat.of_mk h
      rw [← AExit.eq_of hx, h1, h2]; rfl
  | p :: q :: r, x, as, bs, d, h => by
    simp only [xof] at h
    split at h
    · rename_i d' h'
      cases h
      cases hx : p.x.eq x with
      | false => rw [hx] at h'; cases h'
      | true =>
        rw [hx] at h'
        obtain ⟨h1, h2⟩ := XPat.of_mk h'
        rw [← AExit.eq_of hx, h1, h2]; rfl
    · split at h
      · rename_i d' h'
        cases h
        have h2 := xof_out (K := K) h'
        exact h2
      · cases h

abbrev UEntry := ∀ {R : Type}, List AV → List Blk → (AExit → List AV → List Blk → Option R) → Option R

def UNat (E : UEntry) : Prop := ∀ {R : Type} (args : List AV) (blks : List Blk) (K : AExit → List AV → List Blk → Option R), E args blks K = (E args blks fun x o b => some (x, o, b)).bind fun p => K p.1 p.2.1 p.2.2

def nilU : UEntry := fun _ _ _ => none

/-- A typed function, as what it takes and gives lies. -/
def mkU (pat : XPat) (xs : List XPat) (f : pat.D → Option (XD xs)) (E' : UEntry) : UEntry := fun args blks K =>
  match pat.of args blks with
  | some d => (f d).bind fun r => xout xs r K
  | none => E' args blks K

theorem xout_ex : ∀ (ps : List XPat) (d : XD ps), ∃ x as bs, ∀ {R : Type} (K : AExit → List AV → List Blk → Option R), xout ps d K = K x as bs
  | [], d => nomatch d
  | [p], d => ⟨_, _, _, fun _ => rfl⟩
  | p :: q :: r, .inl d => ⟨_, _, _, fun _ => rfl⟩
  | p :: q :: r, .inr d => by
    obtain ⟨x, as, bs, h⟩ := xout_ex (q :: r) d
    exact ⟨x, as, bs, fun K => h K⟩

theorem nilU_nat : UNat nilU := fun _ _ _ => rfl
theorem mkU_nat {pat : XPat} {xs : List XPat} {f : pat.D → Option (XD xs)} {E' : UEntry} (h : UNat E') : UNat (mkU pat xs f E') := by
  intro R args blks K
  show mkU pat xs f E' args blks K = (mkU pat xs f E' args blks fun x o b => some (x, o, b)).bind fun p => K p.1 p.2.1 p.2.2
  simp only [mkU]
  cases pat.of args blks with
  | none => exact h args blks K
  | some d =>
    cases hf : f d with
    | none => simp only [hf, Option.bind_none]
    | some r =>
      obtain ⟨x, as, bs, hx⟩ := xout_ex xs r
      simp only [hf, Option.bind_some, hx]

/-- A function's entry. -/
def fnE (E : UEntry) : Entry := fun args blks K => E args blks fun _ outs bs => match outs with
  | [o] => K o bs
  | _ => none

theorem fnE_nat {E : UEntry} (h : UNat E) : Natural (fnE E) := by
  intro R args blks K
  unfold fnE
  rw [h]
  conv => rhs; rw [h]
  rw [Option.bind_assoc]
  congr 1
  funext p
  rcases p.2.1 with _ | ⟨o, _ | _⟩ <;> rfl

def rangeL : Nat → Nat → List Nat
  | _, 0 => []
  | i, n + 1 => i :: rangeL (i + 1) n

def geN (n : Nat) : List Nat → List Nat
  | [] => []
  | i :: r => bif Nat.ble n i then i :: geN n r else geN n r

def outIds (nb : Nat) (roots : List Nat) (H : Hp) : List Nat := rangeL 0 nb ++ geN nb (reach (rangeL 0 nb ++ roots) H)

def exportK {R : Type} (nb : Nat) (as : List AV) (H : Hp) (K : List AV → List Blk → Option R) : Option R :=
  bif distinct (outIds nb (refsOf as) H) then (match take (fun i => posOf i (outIds nb (refsOf as) H) 0) H (outIds nb (refsOf as) H) with
    | some blks => K (as.map (AV.ren fun i => posOf i (outIds nb (refsOf as) H) 0)) blks
    | none => none) else none

theorem exportK_nat {R : Type} (nb : Nat) (as : List AV) (H : Hp) (K : List AV → List Blk → Option R) : exportK nb as H K = (exportK nb as H fun a b => some (a, b)).bind fun p => K p.1 p.2 := by
  unfold exportK
  refine cond_nat ?_ rfl
  split <;> rfl

theorem rangeL_get : ∀ (n i j : Nat), j < n → (rangeL i n)[j]? = some (i + j)
  | n + 1, i, 0, _ => by simp [rangeL]
  | n + 1, i, j + 1, h => by
    simp only [rangeL, List.getElem?_cons_succ]
    rw [rangeL_get n (i + 1) j (by omega)]
    congr 1; omega
theorem rangeL_len : ∀ (n i : Nat), (rangeL i n).length = n
  | 0, _ => rfl
  | n + 1, i => by simp [rangeL, rangeL_len n (i + 1)]

theorem outIds_get {nb : Nat} {roots : List Nat} {H : Hp} {j : Nat} (h : j < nb) : (outIds nb roots H)[j]? = some j := by
  unfold outIds
  rw [List.getElem?_append_left (by rw [rangeL_len]; exact h), rangeL_get nb 0 j h, Nat.zero_add]

/-- The same memory under other numbers. -/
theorem Hold.view {c : Ctx} {M : Mem} {μ : Map} {H : Hp} {w : World} (h : Hold c M μ H w) {ids : List Nat} (hd : distinct ids = true) {blks : List Blk} (ht : take (fun i => posOf i ids 0) H ids = some blks) :
    Hold c M (fun j => (ids[j]?).bind μ) (enumB 0 blks) w ∧ (∀ i j, posOf i ids 0 = some j → (fun j => (ids[j]?).bind μ) j = μ i) ∧ blks.length = ids.length := by
  have hρ : ∀ i j, posOf i ids 0 = some j → (fun j => (ids[j]?).bind μ) j = μ i := by
    intro i j hj
    obtain ⟨_, h2⟩ := posOf_some hj
    simp only [Nat.sub_zero] at h2
    simp only [h2, Option.bind_some]
  obtain ⟨hlen, hget1⟩ := take_some ht
  have key : ∀ j k, hget (enumB 0 blks) j = some k → ∃ i k', ids[j]? = some i ∧ hget H i = some k' ∧ k = k'.ren (fun i => posOf i ids 0) := by
    intro j k hj
    rw [enumB_get, if_pos (Nat.zero_le _), Nat.sub_zero] at hj
    have hjl : j < ids.length := by rw [← hlen]; exact (List.getElem?_eq_some_iff.1 hj).1
    obtain ⟨k', h1, h2⟩ := hget1 j ids[j] (List.getElem?_eq_getElem hjl)
    rw [hj] at h2
    exact ⟨ids[j], k', List.getElem?_eq_getElem hjl, h1, Option.some.inj h2⟩
  refine ⟨?_, hρ, hlen⟩
  exact { h with
    blks := fun j k hj => by
      obtain ⟨i, k', h1, h2, rfl⟩ := key j k hj
      obtain ⟨l, h3, h4⟩ := h.blks i k' h2
      exact ⟨l, by simp only [h1, Option.bind_some]; exact h3, BR_ren hρ h4⟩
    inj := fun j j' k k' l l' b hj hj' hl hl' hb hb' => by
      obtain ⟨i, k1, h1, h2, _⟩ := key j k hj
      obtain ⟨i', k2, h1', h2', _⟩ := key j' k' hj'
      simp only [h1, Option.bind_some] at hl
      simp only [h1', Option.bind_some] at hl'
      have := h.inj i i' k1 k2 l l' b h2 h2' hl hl' hb hb'
      subst this
      exact distinct_inj hd h1 h1'
    exc := fun j k l b o v hj hl hb hv => by
      obtain ⟨i, k1, h1, h2, h3⟩ := key j k hj
      simp only [h1, Option.bind_some] at hl
      obtain ⟨e, xs, h4, h5⟩ := h.exc i k1 l b o v h2 hl hb hv
      exact ⟨e, xs, by rw [h3, h4]; rfl, h5⟩
    own := fun j k l b hj hl hb => by
      obtain ⟨i, k1, h1, h2, _⟩ := key j k hj
      simp only [h1, Option.bind_some] at hl
      exact h.own i k1 l b h2 hl hb }

end Go.Av

/-
  Code: its abstract run, and that the run is the machine's.
-/
namespace Go.Av

structure UDef where
  ins : List (Nat × Option Ty)
  kills : List Nat
  outs : List (AExit × List (Nat × Option Ty))
  fz : List Nat

/-- Rows become still. -/
def frzAll : List Nat → Hp → Hp
  | [], _ => []
  | i :: r, H => (match hget H i with
    | some (.row e xs _) => (i, some (.row e xs true)) :: frzAll r H
    | _ => frzAll r H)

def atAll : List Nat → List Nat → List Nat
  | [], _ => []
  | j :: r, ids => (match ids[j]? with
    | some i => i :: atAll r ids
    | none => atAll r ids)

def fzH (ps ids : List Nat) (H : Hp) : Hp := frzAll (atAll ps ids) H ++ H

inductive AC where
  | skip | ret | label | bad
  | exit (id : Nat)
  | seq (a b : AC)
  | cond (c : Opd) (a b : AC)
  | block (id : Nat) (a : AC)
  | scope (a : AC)
  | region (its : List AItem)
  | draw (its : List AItem)
  | unit (u : Nat) (ud : UDef) (loop : Bool) (body : AC)

def outsOf : List (AExit × List (Nat × Option Ty)) → AExit → Option (List (Nat × Option Ty))
  | [], _ => none
  | (y, l) :: r, x => bif y.eq x then some l else outsOf r x

def slotsOf : List (Nat × Option Ty) → List Nat
  | [] => []
  | (s, _) :: r => s :: slotsOf r

def asOpd : List (Nat × Option Ty) → List (Opd × Option Ty)
  | [] => []
  | (s, f) :: r => (.t s, f) :: asOpd r

def zipO : List Nat → List AV → List (Nat × AV)
  | s :: r, a :: r' => (s, a) :: zipO r r'
  | _, _ => []

def dropKs (ks : List Nat) : List (Nat × AV) → List (Nat × AV)
  | [] => []
  | (s, a) :: r => bif memB s ks then dropKs ks r else (s, a) :: dropKs ks r

section
variable {R : Type}

def exitU (G : Nat → AV) (outs : List (AExit × List (Nat × Option Ty))) (nb : Nat) (x : AExit) (S : St) (K : AExit → List AV → List Blk → Option R) : Option R :=
  match outsOf outs x with
  | some l => (match evArgs G S (asOpd l) S.H with
    | some (as, d) => exportK nb as (d ++ S.H) (K x)
    | none => none)
  | none => none

def aunit (E : UEntry) (ud : UDef) (as : List AV) (d : Hp) (S : St) (K : AExit → St → Option R) : Option R :=
  bif distinct (reach (refsOf as) (d ++ S.H)) then (match take (fun i => posOf i (reach (refsOf as) (d ++ S.H)) 0) (fzH ud.fz (reach (refsOf as) (d ++ S.H)) (d ++ S.H)) (reach (refsOf as) (d ++ S.H)) with
    | some blks => E (as.map (AV.ren fun i => posOf i (reach (refsOf as) (d ++ S.H)) 0)) blks fun x outs blks' => (match outsOf ud.outs x with
      | some l => K x ⟨zipO (slotsOf l) (outs.map (AV.ren (backTo (reach (refsOf as) (d ++ S.H)) (nBox blks) S.nid blks'.length))) ++ dropKs ud.kills S.env,
          enumR (backTo (reach (refsOf as) (d ++ S.H)) (nBox blks) S.nid blks'.length) 0 blks' ++ (gone (reach (refsOf as) (d ++ S.H)) ++ fzH ud.fz (reach (refsOf as) (d ++ S.H)) (d ++ S.H)), S.nid + blks'.length⟩
      | none => none)
    | none => none) else none

def evC (G : Nat → AV) (orc : Orc) (uorc : Nat → UEntry) : AC → St → (AExit → St → Option R) → Option R
  | .bad, _, _ => none
  | .skip, S, K => K .normal S
  | .label, S, K => K .normal S
  | .ret, S, K => K .ret S
  | .exit id, S, K => K (.exit id) S
  | .seq a b, S, K => evC G orc uorc a S fun x S' => (match x with
    | .normal => evC G orc uorc b S' K
    | .exit i => K (.exit i) S'
    | .ret => K .ret S')
  | .cond c a b, S, K => (match ev G S c with
    | .tv .bool v => bif v then evC G orc uorc a S K else evC G orc uorc b S K
    | _ => none)
  | .block id a, S, K => evC G orc uorc a S fun x S' => (match x with
    | .normal => K .normal S'
    | .exit i => bif Nat.beq i id then K .normal S' else K (.exit i) S'
    | .ret => K .ret S')
  | .scope a, S, K => evC G orc uorc a S K
  | .region its, S, K => evItems G orc its S fun S' => K .normal S'
  | .draw its, S, K => evDraw G orc its S its 0 S.nid [] fun S' => K .normal S'
  | .unit u ud _ _, S, K => (match evArgs G S (asOpd ud.ins) S.H with
    | some (as, d) => aunit (uorc u) ud as d S K
    | none => none)
end

def subL (a b : List Nat) : Bool := a.all fun i => memB i b

def mcode (P : Program) (N : Nat) : List Nat → AC → Code → Bool
  | _, .bad, _ => true
  | _, .skip, .skip => true
  | _, .ret, .ret => true
  | _, .label, .label _ => true
  | _, .exit i, .exit j => Nat.beq i j
  | ks, .seq a b, .seq x y => mcode P N ks a x && mcode P N ks b y
  | ks, .cond c a b, .cond o x y => mo c o && mcode P N ks a x && mcode P N ks b y
  | ks, .block i a, .block j x => Nat.beq i j && mcode P N ks a x
  | ks, .scope a, .scope x => mcode P N ks a x
  | ks, .region its, .region _ ops false => mitems P N ks ops its ops.toList
  | ks, .draw its, .region _ ops true => mdraw P N ks ops its 0 its ops.toList && distinct (dstsOf its)
  | ks, .unit _ ud true body, .loop c => subL ud.kills ks && mcode P N ud.kills body c
  | ks, .unit _ ud false body, c => subL ud.kills ks && mcode P N ud.kills body c
  | _, _, _ => false

def absX : Exit → Option AExit
  | .normal => some .normal
  | .exit i => some (.exit i)
  | .ret => some .ret
  | _ => none

/-! ### What is told does not hang on what is done with it -/
section
variable {R : Type} {G : Nat → AV} {orc : Orc} {uorc : Nat → UEntry}

theorem actK_nat2 {A : Type} (ho : ∀ f, Natural (orc f)) (act : AAct) (S : St) (nid : Nat) (F : AV → Upd → Option A) (K : A → Option R) : actK G orc act S nid (fun v u => (F v u).bind K) = (actK G orc act S nid F).bind K := by
  rw [actK_nat G ho act S nid fun v u => (F v u).bind K, actK_nat G ho act S nid F, Option.bind_assoc]

theorem evItems_nat (ho : ∀ f, Natural (orc f)) : ∀ (its : List AItem) (S : St) (K : St → Option R), evItems G orc its S K = (evItems G orc its S some).bind K
  | [], S, K => rfl
  | it :: its, S, K => by
    have ih := fun S => evItems_nat ho its S K
    simp only [evItems]
    split
    · simp only [ih]; exact actK_nat2 ho _ _ _ _ _
    · split
      · refine cond_nat ?_ (ih _)
        simp only [ih]; exact actK_nat2 ho _ _ _ _ _
      · exact ih _
      · rfl
    · split
      · exact ih _
      · refine cond_nat (ih _) ?_
        simp only [ih]; exact actK_nat2 ho _ _ _ _ _
      · rfl

theorem runD_nat {A : Type} {all : List AItem} {S0 : St} (ho : ∀ f, Natural (orc f)) (i : Nat) (it : AItem) (nid : Nat) (done : Done) (F : Rec → Option A) (K : A → Option R) : runD G orc all S0 i it nid done (fun d => (F d).bind K) = (runD G orc all S0 i it nid done F).bind K := by
  unfold runD
  rw [← actK_nat2 ho]
  congr 1
  funext v u
  exact cond_nat rfl rfl

theorem evDraw_nat {all : List AItem} {S0 : St} (ho : ∀ f, Natural (orc f)) : ∀ (its : List AItem) (i nid : Nat) (done : Done) (K : St → Option R), evDraw G orc all S0 its i nid done K = (evDraw G orc all S0 its i nid done some).bind K
  | [], _, _, _, K => rfl
  | it :: its, i, nid, done, K => by
    have ih := fun i nid done => evDraw_nat (all := all) (S0 := S0) ho its i nid done K
    simp only [evDraw]
    split
    · simp only [ih]; exact runD_nat ho _ _ _ _ _ _
    · split
      · split
        · refine cond_nat ?_ (ih _ _ _)
          simp only [ih]; exact runD_nat ho _ _ _ _ _ _
        · exact ih _ _ _
        · rfl
      · rfl
    · split
      · split
        · exact ih _ _ _
        · refine cond_nat (ih _ _ _) ?_
          simp only [ih]; exact runD_nat ho _ _ _ _ _ _
        · rfl
      · rfl

theorem aunit_nat {E : UEntry} (hE : UNat E) (ud : UDef) (as : List AV) (d : Hp) (S : St) (K : AExit → St → Option R) : aunit E ud as d S K = (aunit E ud as d S fun x S => some (x, S)).bind fun p => K p.1 p.2 := by
  unfold aunit
  refine cond_nat ?_ rfl
  split
  · refine (hE _ _ _).trans ?_
    refine Eq.trans ?_ (congrArg (fun z : Option (AExit × St) => Option.bind z fun p => K p.1 p.2) (hE _ _ _)).symm
    rw [Option.bind_assoc]
    congr 1
    funext p
    dsimp only
    split <;> rfl
  · rfl

theorem evC_nat (ho : ∀ f, Natural (orc f)) (hu : ∀ u, UNat (uorc u)) : ∀ (c : AC) {R : Type} (S : St) (K : AExit → St → Option R), evC G orc uorc c S K = (evC G orc uorc c S fun x S => some (x, S)).bind fun p => K p.1 p.2
  | .bad, _, _, _ | .skip, _, _, _ | .label, _, _, _ | .ret, _, _, _ | .exit _, _, _, _ => rfl
  | .seq a b, R, S, K => by
    simp only [evC]
    rw [evC_nat ho hu a, evC_nat ho hu a S fun x S' => (match x with
      | .normal => evC G orc uorc b S' fun x S => some (x, S)
      | .exit i => some (.exit i, S')
      | .ret => some (.ret, S')), Option.bind_assoc]
    congr 1
    funext p
    obtain ⟨x, S'⟩ := p
    cases x with
    | normal => exact evC_nat ho hu b S' K
    | exit i => rfl
    | ret => rfl
  | .cond c a b, R, S, K => by
    simp only [evC]
    split
    · exact cond_nat (evC_nat ho hu a S K) (evC_nat ho hu b S K)
    · rfl
  | .block id a, R, S, K => by
    simp only [evC]
    refine (evC_nat ho hu a _ _).trans ?_
    refine Eq.trans ?_ (congrArg (fun z : Option (AExit × St) => Option.bind z fun p => K p.1 p.2) (evC_nat ho hu a _ _)).symm
    rw [Option.bind_assoc]
    congr 1
    funext p
    obtain ⟨x, S'⟩ := p
    cases x with
    | normal => rfl
    | exit i => exact cond_nat rfl rfl
    | ret => rfl
  | .scope a, R, S, K => by
    simp only [evC]
    exact evC_nat ho hu a S K
  | .region its, R, S, K => by
    simp only [evC]
    rw [evItems_nat ho, evItems_nat ho its S fun S' => some (AExit.normal, S'), Option.bind_assoc]; rfl
  | .draw its, R, S, K => by
    simp only [evC]
    rw [evDraw_nat ho, evDraw_nat ho its 0 S.nid [] fun S' => some (AExit.normal, S'), Option.bind_assoc]; rfl
  | .unit u ud l body, R, S, K => by
    simp only [evC]
    split
    · exact aunit_nat (hu u) ud _ _ S K
    · rfl

theorem exitU_nat (outs : List (AExit × List (Nat × Option Ty))) (nb : Nat) (x : AExit) (S : St) (K : AExit → List AV → List Blk → Option R) : exitU G outs nb x S K = (exitU G outs nb x S fun x o b => some (x, o, b)).bind fun p => K p.1 p.2.1 p.2.2 := by
  unfold exitU
  split
  · split
    · rw [exportK_nat, exportK_nat _ _ _ fun o b => some (x, o, b), Option.bind_assoc]; rfl
    · rfl
  · rfl
end
end Go.Av

/-
  The abstract run of code is the machine's.
-/
namespace Go.Av

theorem alGet_dropKs (ks : List Nat) : ∀ (env : List (Nat × AV)) (t : Nat), alGet (dropKs ks env) t = if memB t ks = true then none else alGet env t
  | [], t => by simp [dropKs, alGet]
  | (s, a) :: r, t => by
    simp only [dropKs]
    cases h : memB s ks with
    | true =>
      simp only [cond_true, alGet_dropKs ks r t, alGet_cons]
      by_cases e : s = t
      · subst e; rw [if_pos h, if_pos h]
      · rw [if_neg e]
    | false =>
      simp only [cond_false, alGet_cons, alGet_dropKs ks r t]
      by_cases e : s = t
      · subst e; rw [if_pos rfl, if_pos rfl, h]; rfl
      · rw [if_neg e, if_neg e]

theorem zipO_get {M : Mem} {μ : Map} {f : Nat → Value} : ∀ {l : List Nat} {as : List AV} {t : Nat} {v : AV}, AVs M μ as (l.map f) → alGet (zipO l as) t = some v → AVV M μ v (f t)
  | [], [], _, _, _, h => by simp [zipO, alGet] at h
  | s :: l, a :: as, t, v, ha, h => by
    obtain ⟨x, y, e, h1, h2⟩ := ha
    simp only [List.map_cons, List.cons.injEq] at e
    obtain ⟨rfl, rfl⟩ := e
    simp only [zipO, alGet_cons] at h
    split at h
    · rename_i e; subst e; cases h; exact h1
    · exact zipO_get h2 h
  | [], _ :: _, _, _, ha, _ => by
    obtain ⟨x, y, e, _⟩ := ha
    cases e
  | _ :: _, [], _, _, ha, h => by simp [zipO, alGet] at h

theorem EnvOk_zip {M : Mem} {μ : Map} {a : Act} {l : List Nat} {as : List AV} {H : Hp} {n : Nat} (h : AVs M μ as (l.map fun t => a.tmps.getD t undef)) : EnvOk M μ ⟨zipO l as, H, n⟩ a := by
  intro t
  simp only [St.get]
  split
  · rename_i v hv; exact zipO_get (f := fun t => a.tmps.getD t undef) h hv
  · trivial

def slotOps : List (Nat × Option Ty) → List Operand
  | [] => []
  | (s, _) :: r => .tmp s :: slotOps r

theorem margs_asOpd : ∀ l : List (Nat × Option Ty), margs (asOpd l) (slotOps l) = true
  | [] => rfl
  | (s, f) :: r => by simp only [asOpd, slotOps, margs, mo, Nat.beq_refl, margs_asOpd r, Bool.and_self]

theorem slotOps_eval (a : Act) : ∀ l : List (Nat × Option Ty), (slotOps l).map a.eval = (slotsOf l).map fun t => a.tmps.getD t undef
  | [] => rfl
  | (s, f) :: r => by simp only [slotOps, slotsOf, List.map_cons, slotOps_eval a r, Act.eval]

theorem frzAll_get : ∀ (ids : List Nat) {H : Hp} {i : Nat} {e : Ty} {xs : List e.T} {b : Bool}, hget H i = some (.row e xs b) → ∃ b', hget (frzAll ids H ++ H) i = some (.row e xs b')
  | [], H, i, e, xs, b, h => ⟨b, h⟩
  | j :: r, H, i, e, xs, b, h => by
    simp only [frzAll]
    split
    · rename_i e' xs' b' hj
      rw [List.cons_append, hget_cons]
      split
      · rename_i hji
        subst hji
        rw [h] at hj
        cases hj
        exact ⟨true, rfl⟩
      · exact frzAll_get r h
    · exact frzAll_get r h

theorem Hold.frzAll {c : Ctx} {M : Mem} {μ : Map} {H : Hp} {w : World} (h : Hold c M μ H w) : ∀ (ids : List Nat), ∃ M', M.le M' ∧ Hold c M' μ (frzAll ids H ++ H) w
  | [] => ⟨M, Mem.le.refl _, h⟩
  | j :: r => by
    obtain ⟨M1, l1, h1⟩ := Hold.frzAll h r
    simp only [Av.frzAll]
    split
    · rename_i e xs b hj
      obtain ⟨b', hb⟩ := frzAll_get r hj
      obtain ⟨M2, l2, h2, _⟩ := h1.freeze hb
      exact ⟨M2, l1.trans l2, h2⟩
    · exact ⟨M1, l1, h1⟩

theorem Hold.fzH {c : Ctx} {M : Mem} {μ : Map} {H : Hp} {w : World} (h : Hold c M μ H w) (ps ids : List Nat) : ∃ M', M.le M' ∧ Hold c M' μ (fzH ps ids H) w := h.frzAll (atAll ps ids)

section
variable {P : Program} {G : Nat → AV} {orc : Orc} {uorc : Nat → UEntry}

def UPost (c : Ctx) (μ : Map) (a : Act) (blks : List Blk) (outs : List (AExit × List (Nat × Option Ty))) (kills : List Nat) {R : Type} (K : AExit → List AV → List Blk → Option R) (r : R) (e : Exit) (a' : Act) (w' : World) : Prop :=
  ∃ x l as blks' M' μ', absX e = some x ∧ outsOf outs x = some l ∧ K x as blks' = some r ∧ Hold c M' μ' (enumB 0 blks') w' ∧ AVs M' μ' as ((slotsOf l).map fun t => a'.tmps.getD t undef) ∧
    (∀ j, j < nBox blks → μ' j = μ j) ∧ a'.defers = [] ∧ a'.tmps.size = a.tmps.size ∧ ∀ t, memB t kills = false → a'.tmps.getD t undef = a.tmps.getD t undef

def ucode (P : Program) (N : Nat) (ud : UDef) (loop : Bool) (body : AC) (c : Code) : Bool :=
  match loop with
  | true => (match c with | .loop c' => mcode P N ud.kills body c' | _ => false)
  | false => mcode P N ud.kills body c

def UnitOK (P : Program) (G : Nat → AV) (E : UEntry) (ud : UDef) (loop : Bool) (body : AC) : Prop :=
  ∀ {R : Type} {args : List AV} {blks : List Blk} {K : AExit → List AV → List Blk → Option R} {r : R}, E args blks K = some r →
    ∀ {code : Code} {c : Ctx} {M : Mem} {μ : Map} {a : Act} {w : World}, c.w0 = w → c.M0 = M → ucode P a.tmps.size ud loop body code = true → Hold c M μ (enumB 0 blks) w → GlobOk M G → AVs M μ args ((slotsOf ud.ins).map fun t => a.tmps.getD t undef) → a.defers = [] →
      (∀ i, blks.length ≤ i → μ i = none) → code.wp P (UPost c μ a blks ud.outs ud.kills K r) a w

structure UOK (P : Program) (G : Nat → AV) (E : UEntry) (ud : UDef) (loop : Bool) (body : AC) : Prop where
  ok : UnitOK P G E ud loop body

def AllU (P : Program) (G : Nat → AV) (uorc : Nat → UEntry) : AC → Prop
  | .seq a b => AllU P G uorc a ∧ AllU P G uorc b
  | .cond _ a b => AllU P G uorc a ∧ AllU P G uorc b
  | .block _ a => AllU P G uorc a
  | .scope a => AllU P G uorc a
  | .unit u ud l body => UOK P G (uorc u) ud l body
  | _ => True

theorem subL_mem {a b : List Nat} (h : subL a b = true) {t : Nat} (ht : memB t b = false) : memB t a = false := by
  cases hq : memB t a with
  | false => rfl
  | true => have := all_memB h hq; rw [this] at ht; cases ht

theorem ucode_of {N : Nat} {ks : List Nat} {u : Nat} {ud : UDef} {l : Bool} {body : AC} {c : Code} (h : mcode P N ks (.unit u ud l body) c = true) : subL ud.kills ks = true ∧ ucode P N ud l body c = true := by
  cases l with
  | true => cases c <;> simp only [mcode, Bool.and_eq_true, Bool.false_eq_true] at h <;> exact h
  | false => cases c <;> simp only [mcode, Bool.and_eq_true] at h <;> exact h

theorem region_code {N : Nat} {ks : List Nat} {its : List AItem} {code : Code} (h : mcode P N ks (.region its) code = true) : ∃ id ops, code = .region id ops false ∧ mitems P N ks ops its ops.toList = true := by
  cases code with
  | region id ops dr =>
    cases dr with
    | false => exact ⟨id, ops, rfl, h⟩
    | true => simp [mcode] at h
  | _ => simp [mcode] at h

theorem draw_code {N : Nat} {ks : List Nat} {its : List AItem} {code : Code} (h : mcode P N ks (.draw its) code = true) : ∃ id ops, code = .region id ops true ∧ mdraw P N ks ops its 0 its ops.toList = true ∧ distinct (dstsOf its) = true := by
  cases code with
  | region id ops dr =>
    cases dr with
    | true => simp only [mcode, Bool.and_eq_true] at h; exact ⟨id, ops, rfl, h⟩
    | false => simp [mcode] at h
  | _ => simp [mcode] at h

theorem evC_ok (hmo : P.follows .mixedOrders = true) (ho : OrcOK P G orc) : ∀ (ac : AC) (code : Code) {B : Base} {M : Mem} {μ : Map} {S : St} {a : Act} {w : World} {R : Type} {r : R} {K : AExit → St → Option R} {Q : Exit → Act → World → Prop},
    AllU P G uorc ac → mcode P B.a0.tmps.size B.kills ac code = true → SOk B P G M μ S a w → evC G orc uorc ac S K = some r →
    (∀ e x M' μ' S' a' w', absX e = some x → K x S' = some r → SOk B P G M' μ' S' a' w' → Q e a' w') → code.wp P Q a w
  | .bad, code, B, M, μ, S, a, w, R, r, K, Q, hu, hm, h, hr, hQ => by cases hr
  | .skip, code, B, M, μ, S, a, w, R, r, K, Q, hu, hm, h, hr, hQ => by
    cases code <;> simp only [mcode, Bool.false_eq_true] at hm
    exact wp_skip (hQ .normal .normal M μ S a w rfl hr h)
  | .label, code, B, M, μ, S, a, w, R, r, K, Q, hu, hm, h, hr, hQ => by
    cases code <;> simp only [mcode, Bool.false_eq_true] at hm
    exact wp_label (hQ .normal .normal M μ S a w rfl hr h)
  | .ret, code, B, M, μ, S, a, w, R, r, K, Q, hu, hm, h, hr, hQ => by
    cases code <;> simp only [mcode, Bool.false_eq_true] at hm
    exact wp_ret (hQ .ret .ret M μ S a w rfl hr h)
  | .exit i, code, B, M, μ, S, a, w, R, r, K, Q, hu, hm, h, hr, hQ => by
    cases code <;> simp only [mcode, Bool.false_eq_true] at hm
    rename_i j
    have := Nat.eq_of_beq_eq_true hm
    subst this
    exact wp_exit (hQ (.exit i) (.exit i) M μ S a w rfl hr h)
  | .seq x y, code, B, M, μ, S, a, w, R, r, K, Q, hu, hm, h, hr, hQ => by
    cases code <;> simp only [mcode, Bool.false_eq_true, Bool.and_eq_true] at hm
    simp only [evC] at hr
    refine wp_seq (evC_ok hmo ho x _ hu.1 hm.1 h hr ?_)
    intro e z M' μ' S' a' w' he hk h'
    cases e <;> simp only [absX, Option.some.injEq, reduceCtorEq] at he <;> subst he
    · exact evC_ok hmo ho y _ hu.2 hm.2 h' hk hQ
    · exact hQ _ _ M' μ' S' a' w' rfl hk h'
    · exact hQ _ _ M' μ' S' a' w' rfl hk h'
  | .cond c x y, code, B, M, μ, S, a, w, R, r, K, Q, hu, hm, h, hr, hQ => by
    cases code <;> simp only [mcode, Bool.false_eq_true, Bool.and_eq_true] at hm
    rename_i o t f
    simp only [evC] at hr
    split at hr
    case h_2 => cases hr
    rename_i v hv
    have h1 := mo_ok h.glob h.env hm.1.1
    rw [hv, AVV_bool] at h1
    refine wp_cond h1 ?_
    have hb : ∀ v : Bool, v = true ∨ v = false := fun v => by cases v <;> simp
    rcases hb v with e | e
    · rw [e] at hr ⊢
      exact evC_ok hmo ho x _ hu.1 hm.1.2 h hr hQ
    · rw [e] at hr ⊢
      exact evC_ok hmo ho y _ hu.2 hm.2 h hr hQ
  | .block i x, code, B, M, μ, S, a, w, R, r, K, Q, hu, hm, h, hr, hQ => by
    cases code <;> simp only [mcode, Bool.false_eq_true, Bool.and_eq_true] at hm
    rename_i j c
    have := Nat.eq_of_beq_eq_true hm.1
    subst this
    simp only [evC] at hr
    refine wp_block (evC_ok hmo ho x _ hu hm.2 h hr ?_)
    intro e z M' μ' S' a' w' he hk h'
    cases e <;> simp only [absX, Option.some.injEq, reduceCtorEq] at he <;> subst he
    · exact hQ _ _ M' μ' S' a' w' rfl hk h'
    · rename_i j
      simp only at hk
      show (if j = i then Q .normal a' w' else Q (.exit j) a' w')
      cases hq : Nat.beq j i with
      | true =>
        rw [hq] at hk
        rw [if_pos (Nat.eq_of_beq_eq_true hq)]
        exact hQ _ _ M' μ' S' a' w' rfl hk h'
      | false =>
        rw [hq] at hk
        rw [if_neg (fun e => by subst e; rw [Nat.beq_refl] at hq; cases hq)]
        exact hQ _ _ M' μ' S' a' w' rfl hk h'
    · exact hQ _ _ M' μ' S' a' w' rfl hk h'
  | .scope x, code, B, M, μ, S, a, w, R, r, K, Q, hu, hm, h, hr, hQ => by
    cases code <;> simp only [mcode, Bool.false_eq_true] at hm
    simp only [evC] at hr
    refine wp_scope_straight (evC_ok hmo ho x _ hu hm h hr ?_)
    intro e z M' μ' S' a' w' he hk h'
    have := hQ e z M' μ' S' a' w' he hk h'
    cases e <;> first | exact this | (cases he)
  | .region its, code, B, M, μ, S, a, w, R, r, K, Q, hu, hm, h, hr, hQ => by
    obtain ⟨id, ops, rfl, hm2⟩ := region_code hm
    simp only [evC] at hr
    refine wp_region_list (evItems_ok ho its _ hm2 h hr ?_)
    intro M' μ' S' a' w' hk h'
    exact hQ _ _ M' μ' S' a' w' rfl hk h'
  | .draw its, code, B, M, μ, S, a, w, R, r, K, Q, hu, hm, h, hr, hQ => by
    obtain ⟨id, ops, rfl, hm2⟩ := draw_code hm
    simp only [evC] at hr
    refine wp_draw hmo ⟨hm2.1, hm2.2⟩ ho h hr ?_
    intro M' μ' S' a' w' hk h'
    exact hQ _ _ M' μ' S' a' w' rfl hk h'
  | .unit u ud l body, code, B, M, μ, S, a, w, R, r, K, Q, hu, hm, h, hr, hQ => by
    obtain ⟨hsub, hcode⟩ := ucode_of hm
    simp only [evC] at hr
    split at hr
    case h_2 => cases hr
    rename_i as d has
    obtain ⟨M0, l0, H0, A0⟩ := evArgs_ok (asOpd ud.ins) (slotOps ud.ins) h.glob h.env (margs_asOpd _) has h.hold
    rw [slotOps_eval] at A0
    unfold aunit at hr
    generalize hids : reach (refsOf as) (d ++ S.H) = ids at hr
    obtain ⟨M1, l01, H1⟩ := H0.fzH ud.fz ids
    have A1 := A0.mono l01 (Map.le.refl _)
    have l1 := l0.trans l01
    generalize hHH : fzH ud.fz ids (d ++ S.H) = HH at hr H1
    cases hd : distinct ids with
    | false => rw [hd] at hr; simp at hr
    | true =>
      rw [hd] at hr
      simp only [cond_true] at hr
      split at hr
      case h_2 => cases hr
      rename_i blks htake
      obtain ⟨hexp, hρ⟩ := H1.outTo hd htake
      have hlen := (take_some htake).1
      have hC := hu.ok hr (code := code) (c := ⟨w, fun b => ∃ i k l, i ∈ ids ∧ hget HH i = some k ∧ μ i = some l ∧ l.blk = some b, M1⟩) (a := a) rfl rfl (by rw [h.size]; exact hcode) hexp (h.glob.mono l1) (A1.ren hρ) h.defs (fun i hi => by
        rw [List.getElem?_eq_none (by omega)]; rfl)
      refine wp_mono hC ?_
      rintro e a' w' ⟨x, lo, outs, blks', M', μ', he, hlo, hK, hH', hv', hbx, hdef, hsz, hkp⟩
      simp only [hlo] at hK
      have hfr : ∀ i, S.nid ≤ i → i < S.nid + blks'.length → μ i = none := fun i h1 _ => h.fresh i h1
      obtain ⟨B1, B2, B3, B4⟩ := H1.back (nb := nBox blks) (by rw [← hlen]; exact nBox_le blks) (fun i hi => by
        obtain ⟨j, hj⟩ := List.mem_iff_getElem?.1 hi
        obtain ⟨k, hk, _⟩ := (take_some htake).2 j i hj
        exact ⟨k, hk⟩) hfr hH' (fun j i hj hi => by
          rw [hbx j hj]; show (ids[j]?).bind μ = μ i; rw [hi]; rfl) hd
      have hM : M.le M' := l1.trans hH'.mle
      have A2 := hv'.ren B3
      refine hQ e x M' _ _ a' w' he hK ⟨by simpa only [List.append_assoc] using B1, h.glob.mono hM, ?_, fun i hi => ?_, hdef, hsz.trans h.size, h.base.trans B2, fun t ht => (hkp t (subL_mem hsub ht)).trans (h.keep t ht)⟩
      · intro t
        simp only [St.get, alGet_append]
        cases hz : alGet (zipO (slotsOf lo) (outs.map (AV.ren (backTo ids (nBox blks) S.nid blks'.length)))) t with
        | some v => exact zipO_get (f := fun t => a'.tmps.getD t undef) A2 hz
        | none =>
          simp only [alGet_dropKs]
          cases hq : memB t ud.kills with
          | true => trivial
          | false =>
            simp only [Bool.false_eq_true, if_false]
            rw [hkp t hq]
            exact (h.env t).mono hM B2
      · simp only at hi
        cases hq : backMap μ μ' S.nid blks'.length i with
        | none => rfl
        | some z =>
          rcases B4 i (by rw [hq]; simp) with h1 | h1
          · exact absurd (h.fresh i (by omega)) h1
          · omega
end
end Go.Av

/-
  Pieces of code, loops and functions as typed functions.
-/
namespace Go.Av

inductive ARes where
  | tmp (t : Nat) (fz : Option Ty)
  | cell (t n : Nat) (agg : Bool) (fz : Option Ty)

structure FDef where
  np : Nat
  nt : Nat
  res : List ARes
  body : AC

def frz (fz : Option Ty) (v : AV) (H : Hp) : Option (AV × Hp) :=
  match fz with
  | none => bif v.live then some (v, []) else none
  | some τ => (match toTF τ v H with
    | some (y, d) => some (.tv τ y, d)
    | none => none)

def evRes (S : St) : List ARes → Hp → Option (List AV × Hp)
  | [], _ => some ([], [])
  | .tmp t fz :: r, H => (match frz fz (S.get t) H with
    | some (v, d) => (match evRes S r (d ++ H) with
      | some (as, d') => some (v :: as, d' ++ d)
      | none => none)
    | none => none)
  | .cell t n agg fz :: r, H => (match readAt H (S.get t) with
    | some v => bif Nat.beq v.nsz n && (v.isAgg == agg) then (match frz fz v H with
      | some (v, d) => (match evRes S r (d ++ H) with
        | some (as, d') => some (v :: as, d' ++ d)
        | none => none)
      | none => none) else none
    | none => none)

def resOut : List AV → AV
  | [a] => a
  | l => .tup (chainOf l)

section
variable {R : Type}
def evU (G : Nat → AV) (orc : Orc) (uorc : Nat → UEntry) (ud : UDef) (body : AC) (args : List AV) (blks : List Blk) (K : AExit → List AV → List Blk → Option R) : Option R :=
  evC G orc uorc body ⟨zipO (slotsOf ud.ins) args, enumB 0 blks, blks.length⟩ fun x S => exitU G ud.outs (nBox blks) x S K

def evL (G : Nat → AV) (orc : Orc) (uorc : Nat → UEntry) (ud : UDef) (body : AC) (E : UEntry) (args : List AV) (blks : List Blk) (K : AExit → List AV → List Blk → Option R) : Option R :=
  evC G orc uorc body ⟨zipO (slotsOf ud.ins) args, enumB 0 blks, blks.length⟩ fun x S => (match x with
    | .normal => (match evArgs G S (asOpd ud.ins) S.H with
      | some (as, d) => exportK (nBox blks) as (fzH ud.fz (outIds (nBox blks) (refsOf as) (d ++ S.H)) (d ++ S.H)) fun as' blks' => bif Nat.ble (nBox blks) (nBox blks') then E as' blks' K else none
      | none => none)
    | .exit i => exitU G ud.outs (nBox blks) (.exit i) S K
    | .ret => exitU G ud.outs (nBox blks) .ret S K)

def evF (G : Nat → AV) (orc : Orc) (uorc : Nat → UEntry) (fd : FDef) (args : List AV) (blks : List Blk) (K : AExit → List AV → List Blk → Option R) : Option R :=
  bif Nat.beq args.length fd.np then evC G orc uorc fd.body ⟨zipO (rangeL 0 fd.np) args, enumB 0 blks, blks.length⟩ fun x S => (match x with
    | .exit _ => none
    | _ => (match evRes S fd.res S.H with
      | some (as, d) => exportK (nBox blks) [resOut as] (d ++ S.H) (K .ret)
      | none => none)) else none
end

def mres (P : Program) : List ARes → List ResultVar → Bool
  | [], [] => true
  | .tmp t _ :: r, .tmp t' :: r' => Nat.beq t t' && mres P r r'
  | .cell t n agg _ :: r, .cell t' T :: r' => Nat.beq t t' && isSz P T n agg && mres P r r'
  | _, _ => false

def mfn (P : Program) (fd : FDef) (fn : Func) : Bool :=
  (match fn.body with | some c => mcode P fd.nt (rangeL 0 fd.nt) fd.body c | none => false) && Nat.beq fn.ntmps fd.nt && Nat.ble fd.np fd.nt && mres P fd.res fn.results.toList && !(fn.name == "runtime.NumGoroutine")

/-- What an entry that ends as a function does tells of the machine's call. -/
def FU (P : Program) (G : Nat → AV) (f : FuncId) (E : UEntry) : Prop :=
  ∀ {R : Type} {args : List AV} {blks : List Blk} {K : AExit → List AV → List Blk → Option R} {r : R}, E args blks K = some r →
    (∃ fn, P.funcs[f]? = some fn ∧ (fn.name == "runtime.NumGoroutine") = false ∧ fn.body.isNone = false) ∧
    ∀ {c : Ctx} {M : Mem} {μ : Map} {w : World} {vs : List Value}, c.w0 = w → c.M0 = M → Hold c M μ (enumB 0 blks) w → GlobOk M G → AVs M μ args vs → (∀ i, blks.length ≤ i → μ i = none) →
      Calls P f vs.toArray w fun e w' => ∃ v out blks' M' μ', e = .returned v ∧ K .ret [out] blks' = some r ∧ Hold c M' μ' (enumB 0 blks') w' ∧ AVV M' μ' out v ∧ ∀ j, j < nBox blks → μ' j = μ j

theorem FnOK_of {P : Program} {G : Nat → AV} {f : FuncId} {E : UEntry} (h : FU P G f E) : FnOK P G f (fnE E) := by
  intro R args blks K r hr
  obtain ⟨h1, h2⟩ := h hr
  refine ⟨h1, fun h3 h4 h5 h6 h7 h8 => ?_⟩
  refine (h2 h3 h4 h5 h6 h7 h8).mono ?_
  rintro e w' ⟨v, out, blks', M', μ', he, hK, hrest⟩
  exact ⟨v, out, blks', M', μ', he, hK, hrest⟩

section
variable {P : Program} {G : Nat → AV} {orc : Orc} {uorc : Nat → UEntry}

theorem AVs.length_eq {M : Mem} {μ : Map} : ∀ {as : List AV} {vs : List Value}, AVs M μ as vs → as.length = vs.length
  | [], _, h => by simp only [AVs] at h; subst h; rfl
  | _ :: _, _, ⟨v, vr, e, _, h⟩ => by subst e; simp [h.length_eq]

/-- What leaves a piece of code. -/
theorem export_ok {c : Ctx} {M : Mem} {μ0 μ : Map} {H : Hp} {w : World} {nb : Nat} {as : List AV} {vs : List Value} {R : Type} {K : List AV → List Blk → Option R} {r : R} (hH : Hold c M μ H w) (ha : AVs M μ as vs) (h0 : ∀ j, j < nb → μ j = μ0 j) (hr : exportK nb as H K = some r) :
    ∃ as' blks' μ', K as' blks' = some r ∧ Hold c M μ' (enumB 0 blks') w ∧ AVs M μ' as' vs ∧ (∀ j, j < nb → μ' j = μ0 j) ∧ (∀ i, blks'.length ≤ i → μ' i = none) ∧ ∃ f, as' = as.map f := by
  unfold exportK at hr
  generalize hids : outIds nb (refsOf as) H = ids at hr
  cases hd : distinct ids with
  | false => rw [hd] at hr; cases hr
  | true =>
    rw [hd] at hr
    simp only [cond_true] at hr
    split at hr
    case h_2 => cases hr
    rename_i blks' ht
    obtain ⟨h1, h2, h3⟩ := hH.view hd ht
    refine ⟨_, blks', _, hr, h1, ha.ren h2, fun j hj => ?_, fun i hi => ?_, _, rfl⟩
    · show (ids[j]?).bind μ = μ0 j
      rw [← hids, outIds_get hj]
      exact h0 j hj
    · show (ids[i]?).bind μ = none
      rw [List.getElem?_eq_none (by omega)]; rfl

theorem Map.le.eq {μ0 μ : Map} (h : μ0.le μ) {j : Nat} (hn : μ0 j ≠ none) : μ j = μ0 j := by
  cases hq : μ0 j with
  | none => exact absurd hq hn
  | some y => exact h _ _ hq

theorem exitU_ok {c : Ctx} {μ0 : Map} {a0 : Act} {kills : List Nat} {M : Mem} {μ : Map} {S : St} {a' : Act} {w' : World} {blks : List Blk} {outs : List (AExit × List (Nat × Option Ty))} {R : Type} {K : AExit → List AV → List Blk → Option R} {r : R} {e : Exit} {x : AExit}
    (h : SOk ⟨c, μ0, a0, kills⟩ P G M μ S a' w') (he : absX e = some x) (hμ : ∀ j, j < nBox blks → μ0 j ≠ none) (hr : exitU G outs (nBox blks) x S K = some r) : UPost c μ0 a0 blks outs kills K r e a' w' := by
  unfold exitU at hr
  split at hr
  case h_2 => cases hr
  rename_i l hl
  split at hr
  case h_2 => cases hr
  rename_i as d has
  obtain ⟨M1, l1, H1, A1⟩ := evArgs_ok (asOpd l) (slotOps l) h.glob h.env (margs_asOpd _) has h.hold
  rw [slotOps_eval] at A1
  obtain ⟨as', blks', μ', h1, h2, h3, h4, _⟩ := export_ok H1 A1 (fun j hj => h.base.eq (hμ j hj)) hr
  exact ⟨x, l, as', blks', M1, μ', he, hl, h1, h2, h3, h4, h.defs, h.size, h.keep⟩

theorem nBox_some {c : Ctx} {M : Mem} {μ : Map} {blks : List Blk} {w : World} (h : Hold c M μ (enumB 0 blks) w) {j : Nat} (hj : j < nBox blks) : μ j ≠ none := by
  have hjl : j < blks.length := Nat.lt_of_lt_of_le hj (nBox_le blks)
  have : hget (enumB 0 blks) j = some blks[j] := by
    rw [enumB_get, if_pos (Nat.zero_le _), Nat.sub_zero]; exact List.getElem?_eq_getElem hjl
  obtain ⟨l, hl, _⟩ := h.blks j _ this
  rw [hl]; simp

theorem SOk_start {c : Ctx} {M : Mem} {μ : Map} {a : Act} {w : World} {kills : List Nat} {args : List AV} {blks : List Blk} {l : List Nat} (hH : Hold c M μ (enumB 0 blks) w) (hG : GlobOk M G) (ha : AVs M μ args (l.map fun t => a.tmps.getD t undef)) (hd : a.defers = []) (hf : ∀ i, blks.length ≤ i → μ i = none) :
    SOk ⟨c, μ, a, kills⟩ P G M μ ⟨zipO l args, enumB 0 blks, blks.length⟩ a w :=
  ⟨hH, hG, EnvOk_zip ha, hf, hd, rfl, Map.le.refl _, fun _ _ => rfl⟩

theorem unit_ok (hmo : P.follows .mixedOrders = true) (ho : OrcOK P G orc) {ud : UDef} {body : AC} (hu : AllU P G uorc body) {E : UEntry}
    (hE : ∀ {R : Type} (args : List AV) (blks : List Blk) (K : AExit → List AV → List Blk → Option R) (r : R), E args blks K = some r → evU G orc uorc ud body args blks K = some r) : UnitOK P G E ud false body := by
  intro R args blks K r hr code c M μ a w _ _ hc hH hG ha hd hf
  refine evC_ok (B := ⟨c, μ, a, ud.kills⟩) hmo ho body code hu hc (SOk_start hH hG ha hd hf) (hE _ _ _ _ hr) ?_
  intro e x M' μ' S' a' w' he hk h'
  exact exitU_ok h' he (fun j hj => nBox_some hH hj) hk

theorem loop_ok (hmo : P.follows .mixedOrders = true) (ho : OrcOK P G orc) {ud : UDef} {body : AC} (hu : AllU P G uorc body) {E : Nat → UEntry}
    (h0 : ∀ {R : Type} (args : List AV) (blks : List Blk) (K : AExit → List AV → List Blk → Option R) (r : R), E 0 args blks K ≠ some r)
    (hE : ∀ (n : Nat) {R : Type} (args : List AV) (blks : List Blk) (K : AExit → List AV → List Blk → Option R) (r : R), E (n + 1) args blks K = some r → evL G orc uorc ud body (E n) args blks K = some r) (n : Nat) : UnitOK P G (E n) ud true body := by
  intro R args blks K r hr code c M μ a w _ _ hc hH hG ha hd hf
  unfold ucode at hc
  simp only at hc
  split at hc
  case h_2 => cases hc
  rename_i c'
  refine wp_loop_ghost (fun n a' w' => ∃ args' blks' M' μ', E n args' blks' K = some r ∧ Hold c M' μ' (enumB 0 blks') w' ∧ GlobOk M' G ∧ AVs M' μ' args' ((slotsOf ud.ins).map fun t => a'.tmps.getD t undef) ∧ a'.defers = [] ∧ (∀ i, blks'.length ≤ i → μ' i = none) ∧
      nBox blks ≤ nBox blks' ∧ (∀ j, j < nBox blks → μ' j = μ j) ∧ a'.tmps.size = a.tmps.size ∧ ∀ t, memB t ud.kills = false → a'.tmps.getD t undef = a.tmps.getD t undef) n
    ⟨args, blks, M, μ, hr, hH, hG, ha, hd, hf, Nat.le_refl _, fun _ _ => rfl, rfl, fun _ _ => rfl⟩ ?_
  rintro n a1 w1 ⟨args1, blks1, M1, μ1, hr1, hH1, hG1, ha1, hd1, hf1, hnb, hμ1, hsz1, hk1⟩
  cases n with
  | zero => exact absurd hr1 (h0 _ _ _ _)
  | succ n =>
    refine evC_ok (B := ⟨c, μ1, a1, ud.kills⟩) hmo ho body c' hu (by rw [hsz1]; exact hc) (SOk_start hH1 hG1 ha1 hd1 hf1) (hE _ _ _ _ _ hr1) ?_
    intro e x M' μ' S' a' w' he hk h'
    have post : ∀ {x}, absX e = some x → exitU G ud.outs (nBox blks1) x S' K = some r → UPost c μ a blks ud.outs ud.kills K r e a' w' := by
      intro x he hk
      obtain ⟨x', l, as, blks', M2, μ2, p1, p2, p3, p4, p5, p6, p7, p8, p9⟩ := exitU_ok h' he (fun j hj => nBox_some hH1 hj) hk
      exact ⟨x', l, as, blks', M2, μ2, p1, p2, p3, p4, p5, fun j hj => (p6 j (Nat.lt_of_lt_of_le hj hnb)).trans (hμ1 j hj), p7, p8.trans hsz1, fun t ht => (p9 t ht).trans (hk1 t ht)⟩
    cases e with
    | normal =>
      simp only [absX, Option.some.injEq] at he
      subst he
      simp only at hk
      split at hk
      case h_2 => cases hk
      rename_i as d has
      obtain ⟨M0, l0, H0, A0⟩ := evArgs_ok (asOpd ud.ins) (slotOps ud.ins) h'.glob h'.env (margs_asOpd _) has h'.hold
      rw [slotOps_eval] at A0
      obtain ⟨M2, l02, H2⟩ := H0.fzH ud.fz (outIds (nBox blks1) (refsOf as) (d ++ S'.H))
      have A2 := A0.mono l02 (Map.le.refl _)
      have l2 := l0.trans l02
      obtain ⟨as', blks', μ2, q1, q2, q3, q4, q5, _⟩ := export_ok H2 A2 (fun j hj => h'.base.eq (nBox_some hH1 hj)) hk
      cases hb : Nat.ble (nBox blks1) (nBox blks') with
      | false => rw [hb] at q1; cases q1
      | true =>
        rw [hb] at q1
        exact ⟨n, Nat.lt_succ_self _, as', blks', M2, μ2, q1, q2, h'.glob.mono l2, q3, h'.defs, q5, Nat.le_trans hnb (Nat.le_of_ble_eq_true hb), fun j hj => (q4 j (Nat.lt_of_lt_of_le hj hnb)).trans (hμ1 j hj), h'.size.trans hsz1, fun t ht => (h'.keep t ht).trans (hk1 t ht)⟩
    | exit i =>
      simp only [absX, Option.some.injEq] at he
      subst he
      exact post rfl hk
    | ret =>
      simp only [absX, Option.some.injEq] at he
      subst he
      exact post rfl hk
    | goto l => cases he
    | panic ch => cases he
    | outgrown => cases he

theorem frz_ok {c : Ctx} {M : Mem} {μ : Map} {w : World} {fz : Option Ty} {v v' : AV} {H d : Hp} {x : Value} (h : frz fz v H = some (v', d)) (hH : Hold c M μ H w) (hv : AVV M μ v x) : ∃ M', M.le M' ∧ Hold c M' μ (d ++ H) w ∧ AVV M' μ v' x ∧ v'.live = true := by
  cases fz with
  | none =>
    simp only [frz] at h
    cases hl : v.live with
    | false => rw [hl] at h; cases h
    | true =>
      rw [hl] at h
      simp only [cond_true, Option.some.injEq, Prod.mk.injEq] at h
      obtain ⟨rfl, rfl⟩ := h
      exact ⟨M, Mem.le.refl _, hH, hv, hl⟩
  | some τ =>
    simp only [frz] at h
    split at h
    case h_2 => cases h
    rename_i y d1 h1
    simp only [Option.some.injEq, Prod.mk.injEq] at h
    obtain ⟨rfl, rfl⟩ := h
    obtain ⟨M1, l1, H1, cs, t1, v1⟩ := toTF_AVV h1 hH hv
    exact ⟨M1, l1, H1, AVV_tv.2 ⟨cs, t1, v1⟩, rfl⟩

def resRun (tmps : Array Value) : ResultVar → Sem Value
  | .tmp t => pure (tmps.getD t undef)
  | .cell a t => do loadVar t (← asAddr (tmps.getD a undef))

theorem evRes_ok {c : Ctx} {μ : Map} {w : World} {S : St} {a : Act} : ∀ (rs : List ARes) (xs : List ResultVar) {M : Mem} {H : Hp} {as : List AV} {d : Hp}, EnvOk M μ S a → mres P rs xs = true → evRes S rs H = some (as, d) → Hold c M μ H w →
    ∃ M' vs, M.le M' ∧ Hold c M' μ (d ++ H) w ∧ AVs M' μ as vs ∧ allLive as = true ∧ (xs.mapM (resRun a.tmps)).run P w = .ok vs w
  | [], [], M, H, as, d, _, _, h, hH => by
    simp only [evRes, Option.some.injEq, Prod.mk.injEq] at h
    obtain ⟨rfl, rfl⟩ := h
    exact ⟨M, [], Mem.le.refl _, hH, rfl, rfl, rfl⟩
  | .tmp t fz :: rs, .tmp t' :: xs, M, H, as, d, hE, hm, h, hH => by
    simp only [mres, Bool.and_eq_true] at hm
    have := Nat.eq_of_beq_eq_true hm.1
    subst this
    simp only [evRes] at h
    split at h
    case h_2 => cases h
    rename_i v d1 h1
    split at h
    case h_2 => cases h
    rename_i as' d' h2
    simp only [Option.some.injEq, Prod.mk.injEq] at h
    obtain ⟨rfl, rfl⟩ := h
    obtain ⟨M1, l1, H1, A1, L1⟩ := frz_ok h1 hH (hE t)
    obtain ⟨M2, vs, l2, H2, A2, L2, R2⟩ := evRes_ok rs xs (fun t => (hE t).mono l1 (Map.le.refl _)) hm.2 h2 H1
    refine ⟨M2, _ :: vs, l1.trans l2, by simpa only [List.append_assoc] using H2, ⟨_, _, rfl, A1.mono l2 (Map.le.refl _), A2⟩, by simp [allLive, L1, L2], ?_⟩
    simp only [List.mapM_cons, resRun, Sem.run_bind, Sem.run_pure, Result.andThen_ok, R2]
  | .cell t n agg fz :: rs, .cell t' T :: xs, M, H, as, d, hE, hm, h, hH => by
    simp only [mres, Bool.and_eq_true] at hm
    obtain ⟨⟨hm1, hm2⟩, hm3⟩ := hm
    have := Nat.eq_of_beq_eq_true hm1
    subst this
    simp only [evRes] at h
    split at h
    case h_2 => cases h
    rename_i v0 h0
    cases hb : (Nat.beq v0.nsz n && (v0.isAgg == agg)) with
    | false => rw [hb] at h; cases h
    | true =>
      rw [hb] at h
      simp only [Bool.and_eq_true, beq_iff_eq] at hb
      have hn := Nat.eq_of_beq_eq_true hb.1
      simp only [cond_true] at h
      split at h
      case h_2 => cases h
      rename_i v d1 h1
      split at h
      case h_2 => cases h
      rename_i as' d' h2
      simp only [Option.some.injEq, Prod.mk.injEq] at h
      obtain ⟨rfl, rfl⟩ := h
      obtain ⟨b, o1, mid, hva, hrng, hmid⟩ := readAt_ok hH (hE t) h0
      obtain ⟨dd, inf, hdd, hi, hsz, hag, hone⟩ := isSz_ty hm2
      obtain ⟨v', hv'⟩ := VofC_ex (agg := agg) (cs := mid) (fun h => by rw [hmid.length, hn, hone h])
      have hld := run_load_at hm2 hrng (by rw [hmid.length, hn]) hv'
      obtain ⟨M1, l1, H1, A1, L1⟩ := frz_ok h1 hH (AVV_of hmid (by rw [hb.2]; exact hv'))
      obtain ⟨M2, vs, l2, H2, A2, L2, R2⟩ := evRes_ok rs xs (fun t => (hE t).mono l1 (Map.le.refl _)) hm3 h2 H1
      refine ⟨M2, _ :: vs, l1.trans l2, by simpa only [List.append_assoc] using H2, ⟨_, _, rfl, A1.mono l2 (Map.le.refl _), A2⟩, by simp [allLive, L1, L2], ?_⟩
      have e1 : (resRun a.tmps (.cell t T)).run P w = .ok v' w := by
        rw [← hld]
        simp only [resRun, hva]
        rfl
      simp only [List.mapM_cons, Sem.run_bind, Sem.run_pure, e1, Result.andThen_ok, R2]
  | [], _ :: _, _, _, _, _, _, hm, _, _ => by simp [mres] at hm
  | .tmp _ _ :: _, [], _, _, _, _, _, hm, _, _ => by simp [mres] at hm
  | .cell _ _ _ _ :: _, [], _, _, _, _, _, hm, _, _ => by simp [mres] at hm
  | .tmp _ _ :: _, .cell _ _ :: _, _, _, _, _, _, hm, _, _ => by simp [mres] at hm
  | .cell _ _ _ _ :: _, .tmp _ :: _, _, _, _, _, _, hm, _, _ => by simp [mres] at hm

theorem AVL_chain {M : Mem} {μ : Map} : ∀ {as : List AV} {vs : List Value}, AVs M μ as vs → allLive as = true → AVL M μ (chainOf as) vs
  | [], vs, h, _ => by simp only [AVs] at h; subst h; simp only [chainOf, AVL]
  | a :: as, vs, ⟨v, vr, e, h1, h2⟩, hl => by
    subst e
    simp only [allLive, Bool.and_eq_true] at hl
    obtain ⟨c, h3, h4⟩ := AVV_live h1 hl.1
    simp only [chainOf, AVL]
    exact ⟨v, vr, c, rfl, h3, h4, AVL_chain h2 hl.2⟩

theorem resOut_ok {M : Mem} {μ : Map} {as : List AV} {vs : List Value} (h : AVs M μ as vs) (hl : allLive as = true) : AVV M μ (resOut as) (if h : vs.length = 1 then vs[0] else .tuple vs.toArray) := by
  rcases as with _ | ⟨a, _ | ⟨b, as⟩⟩
  · simp only [AVs] at h
    subst h
    simp only [resOut, List.length_nil, Nat.zero_ne_one, dite_false]
    exact ⟨[], rfl, AVL_chain (as := []) rfl rfl⟩
  · obtain ⟨v, vr, e, h1, h2⟩ := h
    simp only [AVs] at h2
    subst h2; subst e
    simpa [resOut] using h1
  · have h' := h
    obtain ⟨v, vr, e, h1, v2, vr2, e2, _, _⟩ := h'
    subst e; subst e2
    have : ¬ (v :: v2 :: vr2).length = 1 := by simp
    rw [dif_neg this]
    exact ⟨_, rfl, AVL_chain h hl⟩

theorem results_run {fn : Func} {tmps : Array Value} {w : World} {vs : List Value} (h : (fn.results.toList.mapM (resRun tmps)).run P w = .ok vs w) : (results fn tmps).run P w = .ok (if h : vs.length = 1 then vs[0] else .tuple vs.toArray) w := by
  have e : results fn tmps = (do let vs ← fn.results.mapM (resRun tmps); pure (if h : vs.size = 1 then vs[0] else .tuple vs)) := by
    unfold results
    congr 1
  rw [e, Array.mapM_eq_mapM_toList]
  simp only [Sem.run_bind, Sem.run_map, h, Result.andThen_ok, Sem.run_pure]
  simp

theorem fd_ok (hmo : P.follows .mixedOrders = true) (ho : OrcOK P G orc) {fd : FDef} (hu : AllU P G uorc fd.body) {f : FuncId} {fn : Func} (hf : P.funcs[f]? = some fn) (hm : mfn P fd fn = true) : FU P G f (fun args blks K => evF G orc uorc fd args blks K) := by
  intro R args blks K r hr
  unfold mfn at hm
  simp only [Bool.and_eq_true, Bool.not_eq_true'] at hm
  obtain ⟨⟨⟨⟨hb, hn⟩, hnp⟩, hres⟩, hname⟩ := hm
  have hn := Nat.eq_of_beq_eq_true hn
  have hnp := Nat.le_of_ble_eq_true hnp
  split at hb
  case h_2 => cases hb
  rename_i code hbody
  refine ⟨⟨fn, hf, hname, by rw [hbody]; rfl⟩, ?_⟩
  intro c M μ w vs _ _ hH hG ha hfr
  change evF G orc uorc fd args blks K = some r at hr
  unfold evF at hr
  cases hq : Nat.beq args.length fd.np with
  | false => rw [hq] at hr; cases hr
  | true =>
    rw [hq] at hr
    simp only [cond_true] at hr
    have hlen := Nat.eq_of_beq_eq_true hq
    have hvl := ha.length_eq
    have hsize : (vs.toArray ++ Array.replicate (fn.ntmps - vs.toArray.size) undef).size = fd.nt := by simp; omega
    have hslots : (rangeL 0 fd.np).map (fun t => (vs.toArray ++ Array.replicate (fn.ntmps - vs.toArray.size) undef).getD t undef) = vs := by
      apply List.ext_getElem?
      intro i
      by_cases hi : i < fd.np
      · rw [List.getElem?_map, rangeL_get fd.np 0 i hi]
        simp only [Nat.zero_add, Option.map_some]
        rw [Array.getD_eq_getD_getElem?, Array.getElem?_append_left (by simp; omega)]
        have : i < vs.length := by omega
        simp [this]
      · rw [List.getElem?_eq_none (by simp [rangeL_len]; omega), List.getElem?_eq_none (by omega)]
    refine calls_of_wp hf hbody ?_
    refine evC_ok (B := ⟨c, μ, ⟨vs.toArray ++ Array.replicate (fn.ntmps - vs.toArray.size) undef, []⟩, rangeL 0 fd.nt⟩) hmo ho fd.body code hu (by rw [hsize]; exact hb) (SOk_start hH hG (by rw [hslots]; exact ha) rfl hfr) hr ?_
    intro e x M' μ' S' a' w' he hk h'
    have fin : ∀ {o : Option (List AV × Hp)}, o = evRes S' fd.res S'.H → (match o with
      | some (as, d) => exportK (nBox blks) [resOut as] (d ++ S'.H) (K .ret)
      | none => none) = some r → a'.defers = [] ∧ ∃ v, (results fn a'.tmps).run P w' = .ok v w' ∧ ∃ v1 out blks' M' μ', Ending.returned v = .returned v1 ∧ K .ret [out] blks' = some r ∧ Hold c M' μ' (enumB 0 blks') w' ∧ AVV M' μ' out v1 ∧ ∀ j, j < nBox blks → μ' j = μ j := by
      intro o ho hk
      split at hk
      case h_2 => cases hk
      rename_i as d
      obtain ⟨M1, us, l1, H1, A1, L1, R1⟩ := evRes_ok fd.res fn.results.toList h'.env hres ho.symm h'.hold
      have A2 := resOut_ok A1 L1
      obtain ⟨as', blks', μ1, q1, q2, q3, q4, _, f, rfl⟩ := export_ok (as := [resOut as]) H1 ⟨_, _, rfl, A2, rfl⟩ (fun j hj => h'.base.eq (nBox_some hH hj)) hk
      obtain ⟨v1, vr, e1, B1, B2⟩ := q3
      cases e1
      exact ⟨h'.defs, _, results_run R1, _, _, blks', M1, μ1, rfl, q1, q2, B1, q4⟩
    cases e with
    | normal =>
      simp only [absX, Option.some.injEq] at he
      subst he
      exact fin rfl hk
    | ret =>
      simp only [absX, Option.some.injEq] at he
      subst he
      exact fin rfl hk
    | exit i =>
      simp only [absX, Option.some.injEq] at he
      subst he
      cases hk
    | goto l => cases he
    | panic ch => cases he
    | outgrown => cases he
end
end Go.Av

/-
  From the typed functions' equations to what is told of the machine.
-/
namespace Go.Av

structure Ent where
  e : UEntry

def tabE : List (Nat × Ent) → Nat → Ent
  | [], _ => ⟨nilU⟩
  | (k, e) :: r, f => bif Nat.beq k f then e else tabE r f

def orcT (t : List (Nat × Ent)) : Orc := fun f => fnE (tabE t f).e
def uorT (t : List (Nat × Ent)) : Nat → UEntry := fun u => (tabE t u).e

section
variable {P : Program} {G : Nat → AV} {orc : Orc} {uorc : Nat → UEntry}

structure TabOK (P : Program) (G : Nat → AV) (t : List (Nat × Ent)) : Prop where
  fu : ∀ f, FU P G f (tabE t f).e
  nat : ∀ f, UNat (tabE t f).e

theorem FU_nil {f : FuncId} : FU P G f nilU := fun h => by cases h

theorem TabOK.nil : TabOK P G [] := ⟨fun _ => FU_nil, fun _ => nilU_nat⟩

theorem TabOK.cons {f : FuncId} {e : UEntry} {t : List (Nat × Ent)} (h : TabOK P G t) (h1 : FU P G f e) (h2 : UNat e) : TabOK P G ((f, ⟨e⟩) :: t) := by
  constructor
  · intro g
    simp only [tabE]
    cases hq : Nat.beq f g with
    | true => rw [← Nat.eq_of_beq_eq_true hq]; exact h1
    | false => exact h.fu g
  · intro g
    simp only [tabE]
    cases hq : Nat.beq f g with
    | true => exact h2
    | false => exact h.nat g

theorem TabOK.oo {t : List (Nat × Ent)} (h : TabOK P G t) : OrcOK P G (orcT t) := ⟨fun f => FnOK_of (h.fu f), fun f => fnE_nat (h.nat f)⟩

def noU : AC → Bool
  | .seq a b => noU a && noU b
  | .cond _ a b => noU a && noU b
  | .block _ a => noU a
  | .scope a => noU a
  | .unit _ _ _ _ => false
  | _ => true

theorem AllU.no : ∀ {c : AC}, noU c = true → AllU P G uorc c
  | .seq a b, h => by simp only [noU, Bool.and_eq_true] at h; exact ⟨AllU.no h.1, AllU.no h.2⟩
  | .cond _ a b, h => by simp only [noU, Bool.and_eq_true] at h; exact ⟨AllU.no h.1, AllU.no h.2⟩
  | .block _ a, h => by simp only [noU] at h; exact AllU.no (c := a) h
  | .scope a, h => by simp only [noU] at h; exact AllU.no (c := a) h
  | .unit _ _ _ _, h => by cases h
  | .skip, _ | .ret, _ | .label, _ | .bad, _ | .exit _, _ | .region _, _ | .draw _, _ => trivial
theorem AllU.seq {a b : AC} (h1 : AllU P G uorc a) (h2 : AllU P G uorc b) : AllU P G uorc (.seq a b) := ⟨h1, h2⟩
theorem AllU.cond {c : Opd} {a b : AC} (h1 : AllU P G uorc a) (h2 : AllU P G uorc b) : AllU P G uorc (.cond c a b) := ⟨h1, h2⟩
theorem AllU.unit {u : Nat} {ud : UDef} {l : Bool} {body : AC} (h : UOK P G (uorc u) ud l body) : AllU P G uorc (.unit u ud l body) := h
theorem AllU.scope {a : AC} (h1 : AllU P G uorc a) : AllU P G uorc (.scope a) := h1
theorem AllU.block {i : Nat} {a : AC} (h1 : AllU P G uorc a) : AllU P G uorc (.block i a) := h1

def UTab (t : List (Nat × Ent)) : Prop := ∀ u, UNat (tabE t u).e
theorem UTab.nil : UTab [] := fun _ => nilU_nat
theorem UTab.cons {u : Nat} {e : UEntry} {t : List (Nat × Ent)} (h : UTab t) (h2 : UNat e) : UTab ((u, ⟨e⟩) :: t) := by
  intro g
  simp only [tabE]
  cases hq : Nat.beq u g with
  | true => exact h2
  | false => exact h g

theorem evU_nat (ho : ∀ f, Natural (orc f)) (hu : ∀ u, UNat (uorc u)) (ud : UDef) (body : AC) : UNat fun args blks K => evU G orc uorc ud body args blks K := by
  intro R args blks K
  show evU G orc uorc ud body args blks K = (evU G orc uorc ud body args blks _).bind _
  unfold evU
  rw [evC_nat ho hu, evC_nat ho hu body _ fun x S => exitU G ud.outs (nBox blks) x S fun x o b => some (x, o, b), Option.bind_assoc]
  congr 1
  funext p
  exact exitU_nat _ _ _ _ _

theorem evL_nat (ho : ∀ f, Natural (orc f)) (hu : ∀ u, UNat (uorc u)) (ud : UDef) (body : AC) {E : UEntry} (hE : UNat E) : UNat fun args blks K => evL G orc uorc ud body E args blks K := by
  intro R args blks K
  show evL G orc uorc ud body E args blks K = (evL G orc uorc ud body E args blks _).bind _
  unfold evL
  refine (evC_nat ho hu body _ _).trans ?_
  refine Eq.trans ?_ (congrArg (fun z : Option (AExit × List AV × List Blk) => Option.bind z fun p => K p.1 p.2.1 p.2.2) (evC_nat ho hu body _ _)).symm
  rw [Option.bind_assoc]
  congr 1
  funext p
  obtain ⟨x, S⟩ := p
  cases x with
  | normal =>
    dsimp only
    split
    · rw [exportK_nat, exportK_nat _ _ _ fun as' blks' => bif Nat.ble (nBox blks) (nBox blks') then E as' blks' (fun x o b => some (x, o, b)) else none, Option.bind_assoc]
      congr 1
      funext q
      exact cond_nat (hE _ _ _) rfl
    · rfl
  | exit i => exact exitU_nat _ _ _ _ _
  | ret => exact exitU_nat _ _ _ _ _

theorem evF_nat (ho : ∀ f, Natural (orc f)) (hu : ∀ u, UNat (uorc u)) (fd : FDef) : UNat fun args blks K => evF G orc uorc fd args blks K := by
  intro R args blks K
  show evF G orc uorc fd args blks K = (evF G orc uorc fd args blks _).bind _
  unfold evF
  refine cond_nat ?_ rfl
  refine (evC_nat ho hu fd.body _ _).trans ?_
  refine Eq.trans ?_ (congrArg (fun z : Option (AExit × List AV × List Blk) => Option.bind z fun p => K p.1 p.2.1 p.2.2) (evC_nat ho hu fd.body _ _)).symm
  rw [Option.bind_assoc]
  congr 1
  funext p
  obtain ⟨x, S⟩ := p
  have key : ∀ o : Option (List AV × Hp), (match o with
      | some (as, d) => exportK (nBox blks) [resOut as] (d ++ S.H) (K .ret)
      | none => none) = (match o with
      | some (as, d) => exportK (nBox blks) [resOut as] (d ++ S.H) (fun o b => some (AExit.ret, o, b))
      | none => none).bind fun p => K p.1 p.2.1 p.2.2 := by
    intro o
    split
    · rw [exportK_nat, exportK_nat _ _ _ fun o b => some (AExit.ret, o, b), Option.bind_assoc]; rfl
    · rfl
  cases x with
  | normal => exact key _
  | exit i => rfl
  | ret => exact key _

theorem typed_run {E : UEntry} (hE : UNat E) {args : List AV} {blks : List Blk} {xs : List XPat} {t : Option (XD xs)} (ht : E args blks (xof xs) = t) {R : Type} {K : AExit → List AV → List Blk → Option R} {r : R} (h : (t.bind fun d => xout xs d K) = some r) : E args blks K = some r := by
  cases t with
  | none => cases h
  | some d =>
    have e1 : ((E args blks fun x o b => some (x, o, b)).bind fun p => xof xs p.1 p.2.1 p.2.2) = some d := (hE args blks (xof xs)).symm.trans ht
    have e2 : E args blks K = (E args blks fun x o b => some (x, o, b)).bind fun p => K p.1 p.2.1 p.2.2 := hE args blks K
    rw [e2]
    cases hp : E args blks fun x o b => some (x, o, b) with
    | none => rw [hp] at e1; cases e1
    | some p =>
      rw [hp] at e1
      simp only [Option.bind_some] at e1 h ⊢
      rw [← xof_out (K := K) e1]
      exact h

theorem mkU_run {pat : XPat} {xs : List XPat} {t : pat.D → Option (XD xs)} {E E' : UEntry} (hE : UNat E) (heq : ∀ d, E (pat.vals d) (pat.blks d) (xof xs) = t d) {R : Type} {args : List AV} {blks : List Blk} {K : AExit → List AV → List Blk → Option R} {r : R} (h : mkU pat xs t E' args blks K = some r) : E args blks K = some r ∨ E' args blks K = some r := by
  simp only [mkU] at h
  split at h
  · rename_i d hd
    obtain ⟨rfl, rfl⟩ := XPat.of_mk hd
    exact .inl (typed_run hE (heq d) h)
  · exact .inr h

theorem unit_typed (hmo : P.follows .mixedOrders = true) (ho : OrcOK P G orc) (hu : ∀ u, UNat (uorc u)) {ud : UDef} {body : AC} (ha : AllU P G uorc body) {pat : XPat} {xs : List XPat} {t : pat.D → Option (XD xs)}
    (heq : ∀ d, evU G orc uorc ud body (pat.vals d) (pat.blks d) (xof xs) = t d) : UOK P G (mkU pat xs t nilU) ud false body :=
  ⟨unit_ok hmo ho ha fun args blks K r h => (mkU_run (E := fun args blks K => evU G orc uorc ud body args blks K) (evU_nat ho.nat hu ud body) heq h).resolve_right (fun h => by cases h)⟩

theorem loop_typed (hmo : P.follows .mixedOrders = true) (ho : OrcOK P G orc) (hu : ∀ u, UNat (uorc u)) {ud : UDef} {body : AC} (ha : AllU P G uorc body) {pat : XPat} {xs : List XPat} {t : Nat → pat.D → Option (XD xs)}
    (h0 : ∀ d, t 0 d = none) (heq : ∀ n d, evL G orc uorc ud body (mkU pat xs (t n) nilU) (pat.vals d) (pat.blks d) (xof xs) = t (n + 1) d) (n : Nat) : UOK P G (mkU pat xs (t n) nilU) ud true body := by
  refine ⟨loop_ok (E := fun n => mkU pat xs (t n) nilU) hmo ho ha ?_ ?_ n⟩
  · intro R args blks K r h
    simp only [mkU] at h
    split at h
    · rw [h0] at h; cases h
    · cases h
  · intro n R args blks K r h
    exact (mkU_run (E := fun args blks K => evL G orc uorc ud body (mkU pat xs (t n) nilU) args blks K) (evL_nat ho.nat hu ud body (mkU_nat nilU_nat)) (heq n) h).resolve_right (fun h => by cases h)

theorem fn_typed (hmo : P.follows .mixedOrders = true) (ho : OrcOK P G orc) (hu : ∀ u, UNat (uorc u)) {fd : FDef} (ha : AllU P G uorc fd.body) {f : FuncId} {fn : Func} (hf : P.funcs[f]? = some fn) (hm : mfn P fd fn = true) {pat : XPat} {xs : List XPat} {t : pat.D → Option (XD xs)}
    (heq : ∀ d, evF G orc uorc fd (pat.vals d) (pat.blks d) (xof xs) = t d) {E' : UEntry} (hE' : FU P G f E') : FU P G f (mkU pat xs t E') := by
  intro R args blks K r h
  rcases mkU_run (E := fun args blks K => evF G orc uorc fd args blks K) (evF_nat ho.nat hu fd) heq h with h1 | h1
  · exact fd_ok hmo ho ha hf hm h1
  · exact hE' h1

/-- A function of a slice, taken in two forms: the slice is nil, or is not. -/
theorem FU_slice {f : FuncId} {e : Ty} {xs : List XPat} {t1 t2 : List e.T → Option (XD xs)} (h1 : FU P G f (mkU ⟨.normal, [.sln true e], []⟩ xs t1 nilU)) (h2 : FU P G f (mkU ⟨.normal, [.sln false e], []⟩ xs t2 nilU)) (h : t1 [] = t2 []) {E' : UEntry} (hE' : FU P G f E') :
    FU P G f (mkU ⟨.normal, [.tv (.sl e)], []⟩ xs t2 E') := by
  intro R args blks K r hr
  simp only [mkU] at hr
  split at hr
  case h_2 => exact hE' hr
  rename_i d hd
  obtain ⟨rfl, rfl⟩ := XPat.of_mk hd
  have e2 : mkU ⟨.normal, [.sln false e], []⟩ xs t2 nilU [.sln false e d] [] K = some r := by
    have : XPat.of ⟨.normal, [.sln false e], []⟩ [.sln false e d] [] = some d := by simp [XPat.of, lof, APat.of]
    simp only [mkU, this]
    exact hr
  obtain ⟨p1, p2⟩ := h2 e2
  refine ⟨p1, ?_⟩
  intro c M μ w vs q1 q2 q3 q4 q5 q6
  obtain ⟨v, vr, rfl, a1, a2⟩ := q5
  simp only [AVs] at a2
  subst a2
  have a1 : AVV M μ (.tv (.sl e) d) v := a1
  rw [AVV_tv] at a1
  obtain ⟨cs, ht, hv⟩ := a1
  have ht' := ht
  obtain ⟨ad, cap, rfl, es, hrow, hmem, hcap⟩ := ht'
  cases ad with
  | some ad =>
    exact p2 q1 q2 q3 q4 ⟨v, [], rfl, ⟨_, ⟨ht, some ad, _, _, rfl, rfl⟩, hv⟩, rfl⟩ q6
  | none =>
    have hd0 : d = [] := by
      rcases hmem with h | ⟨b, o, h, _⟩
      · exact h
      · cases h
    subst hd0
    have e1 : mkU ⟨.normal, [.sln true e], []⟩ xs t1 nilU [.sln true e []] [] K = some r := by
      have : XPat.of ⟨.normal, [.sln true e], []⟩ [.sln true e []] [] = some [] := by simp [XPat.of, lof, APat.of]
      simp only [mkU, this, h]
      exact hr
    exact (h1 e1).2 q1 q2 q3 q4 ⟨v, [], rfl, ⟨_, ⟨ht, none, _, _, rfl, rfl⟩, hv⟩, rfl⟩ q6
end
end Go.Av
namespace Go.Av
/-! ### Short forms for printed code -/
def iO (d : Nat) (a : AOp) : AItem := ⟨some d, none, .op a, []⟩
def iS (a : AOp) : AItem := ⟨none, none, .op a, []⟩
def iOa (d : Nat) (a : AOp) (l : List Nat) : AItem := ⟨some d, none, .op a, l⟩
def iSa (a : AOp) (l : List Nat) : AItem := ⟨none, none, .op a, l⟩
def iC (d f : Nat) (l : List (Opd × Option Ty)) : AItem := ⟨some d, none, .call (.c (.fn f .nil .nil)) l, []⟩
def iCa (d f : Nat) (l : List (Opd × Option Ty)) (a : List Nat) : AItem := ⟨some d, none, .call (.c (.fn f .nil .nil)) l, a⟩
def nI (x : Int) : Opd := .c (.tv (.int .i64) x)
def rg : List Nat → List Nat
  | a :: n :: r => List.range' a n ++ rg r
  | _ => []
end Go.Av
