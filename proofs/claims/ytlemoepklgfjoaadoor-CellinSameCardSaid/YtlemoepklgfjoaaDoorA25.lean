/-
  The forms of what a piece of code takes and gives: typed functions in place of abstract ones; what leaves a piece of code.
-/
import Derived.Test.YtlemoepklgfjoaaDoorA24
import Derived.Deep.LoopGhost
import Derived.Scope
namespace Go.Av

inductive AExit where
  | normal
  | exit (id : Nat)
  | ret

def AExit.eq : AExit → AExit → Bool
  | .normal, .normal => true
  | .exit i, .exit j => Nat.beq i j
  | .ret, .ret => true
  | _, _ => false

theorem AExit.eq_of {x y : AExit} (h : x.eq y = true) : x = y := by
  unfold AExit.eq at h
  split at h
  · rfl
  · rw [Nat.eq_of_beq_eq_true h]
  · rfl
  · cases h

inductive APat where
  | sln (b : Bool) (e : Ty) | tv (τ : Ty) | fp (τ : Ty) | ptr (id : Nat) (p : List Step) | row (id : Nat) | obj (id : Nat) | mp (id : Nat) | nilp | nilf
  | cons (a b : APat) | nil | fn (f : FuncId) (first caps : APat) | tup (l : APat)

@[reducible] def APat.D : APat → Type
  | .tv τ => τ.T
  | .fp τ => τ.T
  | .sln _ e => List e.T
  | .cons a b => a.D × b.D
  | .fn _ b c => b.D × c.D
  | .tup l => l.D
  | _ => Unit

def APat.mk : (p : APat) → p.D → AV
  | .tv τ, x => .tv τ x
  | .fp τ, x => .fp τ x
  | .sln b e, x => .sln b e x
  | .ptr id p, _ => .ptr id p
  | .row id, _ => .row id
  | .obj id, _ => .obj id
  | .mp id, _ => .mp id
  | .nilp, _ => .nilp
  | .nilf, _ => .nilf
  | .cons a b, x => .cons (a.mk x.1) (b.mk x.2)
  | .nil, _ => .nil
  | .fn f b c, x => .fn f (b.mk x.1) (c.mk x.2)
  | .tup l, x => .tup (l.mk x)

def APat.of : (p : APat) → AV → Option p.D
  | .tv τ, .tv σ x => if h : σ = τ then some (h ▸ x) else none
  | .fp τ, .fp σ x => if h : σ = τ then some (h ▸ x) else none
  | .sln b e, .sln b' e' xs => if h : e' = e then (bif b == b' then some (h ▸ xs) else none) else none
  | .ptr id p, .ptr id' p' => if id = id' ∧ p = p' then some () else none
  | .row id, .row id' => bif Nat.beq id id' then some () else none
  | .obj id, .obj id' => bif Nat.beq id id' then some () else none
  | .mp id, .mp id' => bif Nat.beq id id' then some () else none
  | .nilp, .nilp => some ()
  | .nilf, .nilf => some ()
  | .cons a b, .cons u v => (match a.of u, b.of v with
    | some x, some y => some (x, y)
    | _, _ => none)
  | .nil, .nil => some ()
  | .fn f b c, .fn f' b' c' => bif Nat.beq f f' then (match b.of b', c.of c' with
    | some x, some y => some (x, y)
    | _, _ => none) else none
  | .tup l, .tup l' => l.of l'
  | _, _ => none

theorem APat.of_mk : ∀ {p : APat} {a : AV} {d : p.D}, p.of a = some d → a = p.mk d := by
  intro p
  induction p with
  | tv τ =>
    intro a d h
    cases a <;> simp only [APat.of] at h <;> try cases h
    split at h
    · rename_i e; subst e; cases h; rfl
    · cases h
  | fp τ =>
    intro a d h
    cases a <;> simp only [APat.of] at h <;> try cases h
    split at h
    · rename_i e; subst e; cases h; rfl
    · cases h
  | sln b e =>
    intro a d h
    cases a <;> simp only [APat.of] at h <;> try cases h
    rename_i b' e' xs
    split at h
    · rename_i he; subst he
      cases hq : (b == b') with
      | false => rw [hq] at h; cases h
      | true =>
        rw [hq] at h; cases h
        rw [beq_iff_eq] at hq; subst hq; rfl
    · cases h
  | ptr id p =>
    intro a d h
    cases a <;> simp only [APat.of] at h <;> try cases h
    split at h
    · rename_i e; obtain ⟨rfl, rfl⟩ := e; rfl
    · cases h
  | row id =>
    intro a d h
    cases a <;> simp only [APat.of] at h <;> try cases h
    rename_i id'
    cases hq : Nat.beq id id' with
    | false => rw [hq] at h; cases h
    | true => rw [Nat.eq_of_beq_eq_true hq]; rfl
  | obj id =>
    intro a d h
    cases a <;> simp only [APat.of] at h <;> try cases h
    rename_i id'
    cases hq : Nat.beq id id' with
    | false => rw [hq] at h; cases h
    | true => rw [Nat.eq_of_beq_eq_true hq]; rfl
  | mp id =>
    intro a d h
    cases a <;> simp only [APat.of] at h <;> try cases h
    rename_i id'
    cases hq : Nat.beq id id' with
    | false => rw [hq] at h; cases h
    | true => rw [Nat.eq_of_beq_eq_true hq]; rfl
  | nilp =>
    intro a d h
    cases a <;> simp only [APat.of] at h <;> first | rfl | cases h
  | nilf =>
    intro a d h
    cases a <;> simp only [APat.of] at h <;> first | rfl | cases h
  | cons x y ihx ihy =>
    intro a d h
    cases a <;> simp only [APat.of] at h <;> try cases h
    split at h
    · rename_i u v hu hv
      cases h
      rw [ihx hu, ihy hv]; rfl
    · cases h
  | nil =>
    intro a d h
    cases a <;> simp only [APat.of] at h <;> first | rfl | cases h
  | fn f b c ihb ihc =>
    intro a d h
    cases a <;> simp only [APat.of] at h <;> try cases h
    rename_i f' b' c'
    cases hq : Nat.beq f f' with
    | false => rw [hq] at h; cases h
    | true =>
      rw [hq] at h
      simp only [cond_true] at h
      split at h
      · rename_i x y hx hy
        cases h
        rw [Nat.eq_of_beq_eq_true hq, ihb hx, ihc hy]; rfl
      · cases h
  | tup l ih =>
    intro a d h
    cases a <;> simp only [APat.of] at h <;> try cases h
    rw [ih h]; rfl

inductive BPat where
  | box (p : APat) | row (e : Ty) (fz : Bool) | iter | mp (κ : Ty)

@[reducible] def BPat.D : BPat → Type
  | .box p => p.D
  | .row e _ => List e.T
  | .iter => List UInt8 × Nat
  | .mp κ => List (κ.T × Int)

def BPat.mk : (p : BPat) → p.D → Blk
  | .box p, x => .box (p.mk x)
  | .row e fz, x => .row e x fz
  | .iter, x => .iter x.1 x.2
  | .mp κ, x => .mp κ x

def BPat.of : (p : BPat) → Blk → Option p.D
  | .box p, .box v => p.of v
  | .row e fz, .row e' xs fz' => if h : e' = e then (bif fz == fz' then some (h ▸ xs) else none) else none
  | .iter, .iter s n => some (s, n)
  | .mp κ, .mp κ' l => if h : κ' = κ then some (h ▸ l) else none
  | _, _ => none

theorem BPat.of_mk {p : BPat} {a : Blk} {d : p.D} (h : p.of a = some d) : a = p.mk d := by
  cases p with
  | box p =>
    cases a <;> simp only [BPat.of] at h <;> try cases h
    rw [APat.of_mk h]; rfl
  | row e fz =>
    cases a <;> simp only [BPat.of] at h <;> try cases h
    rename_i e' xs fz'
    split at h
    · rename_i e; subst e
      cases hq : (fz == fz') with
      | false => rw [hq] at h; cases h
      | true =>
        rw [hq] at h; cases h
        rw [beq_iff_eq] at hq; subst hq; rfl
    · cases h
  | iter =>
    cases a <;> simp only [BPat.of] at h <;> cases h
    rfl
  | mp κ =>
    cases a <;> simp only [BPat.of] at h <;> try cases h
    split at h
    · rename_i e; subst e; cases h; rfl
    · cases h

@[reducible] def LD : List APat → Type
  | [] => Unit
  | [p] => p.D
  | p :: q :: r => p.D × LD (q :: r)
def lmk : (ps : List APat) → LD ps → List AV
  | [], _ => []
  | [p], d => [p.mk d]
  | p :: q :: r, d => p.mk d.1 :: lmk (q :: r) d.2
def lof : (ps : List APat) → List AV → Option (LD ps)
  | [], [] => some ()
  | [p], [a] => p.of a
  | p :: q :: r, a :: b => (match p.of a, lof (q :: r) b with
    | some x, some y => some (x, y)
    | _, _ => none)
  | _, _ => none
theorem lof_mk : ∀ {ps : List APat} {as : List AV} {d : LD ps}, lof ps as = some d → as = lmk ps d
  | [], [], _, _ => rfl
  | [p], [a], d, h => by rw [APat.of_mk h]; rfl
  | p :: q :: r, a :: b, d, h => by
    simp only [lof] at h
    split at h
    · rename_i x y h1 h2
      cases h
      rw [APat.of_mk h1, lof_mk h2]; rfl
    · cases h
  | [], _ :: _, _, h => by simp [lof] at h
  | [p], [], _, h => by simp [lof] at h
  | [p], _ :: _ :: _, _, h => by simp [lof] at h
  | p :: q :: r, [], _, h => by simp [lof] at h

@[reducible] def BD : List BPat → Type
  | [] => Unit
  | [p] => p.D
  | p :: q :: r => p.D × BD (q :: r)
def bmk : (ps : List BPat) → BD ps → List Blk
  | [], _ => []
  | [p], d => [p.mk d]
  | p :: q :: r, d => p.mk d.1 :: bmk (q :: r) d.2
def bof : (ps : List BPat) → List Blk → Option (BD ps)
  | [], [] => some ()
  | [p], [a] => p.of a
  | p :: q :: r, a :: b => (match p.of a, bof (q :: r) b with
    | some x, some y => some (x, y)
    | _, _ => none)
  | _, _ => none
theorem bof_mk : ∀ {ps : List BPat} {as : List Blk} {d : BD ps}, bof ps as = some d → as = bmk ps d
  | [], [], _, _ => rfl
  | [p], [a], d, h => by rw [BPat.of_mk h]; rfl
  | p :: q :: r, a :: b, d, h => by
    simp only [bof] at h
    split at h
    · rename_i x y h1 h2
      cases h
      rw [BPat.of_mk h1, bof_mk h2]; rfl
    · cases h
  | [], _ :: _, _, h => by simp [bof] at h
  | [p], [], _, h => by simp [bof] at h
  | [p], _ :: _ :: _, _, h => by simp [bof] at h
  | p :: q :: r, [], _, h => by simp [bof] at h

/-- What a piece of code takes, or gives at one of its ends. -/
structure XPat where
  x : AExit
  vs : List APat
  bs : List BPat

@[reducible] def XPat.D (p : XPat) : Type :=
  match p.bs with
  | [] => LD p.vs
  | b :: r => LD p.vs × BD (b :: r)

def XPat.vals (p : XPat) (d : p.D) : List AV :=
  match p, d with
  | ⟨_, vs, []⟩, d => lmk vs d
  | ⟨_, vs, _ :: _⟩, d => lmk vs d.1
def XPat.blks (p : XPat) (d : p.D) : List Blk :=
  match p, d with
  | ⟨_, _, []⟩, _ => []
  | ⟨_, _, b :: r⟩, d => bmk (b :: r) d.2
def XPat.of (p : XPat) (as : List AV) (bs : List Blk) : Option p.D :=
  match p with
  | ⟨_, vs, []⟩ => (match bs with
    | [] => lof vs as
    | _ :: _ => none)
  | ⟨_, vs, b :: r⟩ => (match lof vs as, bof (b :: r) bs with
    | some x, some y => some (x, y)
    | _, _ => none)
theorem XPat.of_mk {p : XPat} {as : List AV} {bs : List Blk} {d : p.D} (h : p.of as bs = some d) : as = p.vals d ∧ bs = p.blks d := by
  obtain ⟨x, vs, ps⟩ := p
  cases ps with
  | nil =>
    simp only [XPat.of] at h
    split at h
    · exact ⟨lof_mk h, rfl⟩
    · cases h
  | cons b r =>
    simp only [XPat.of] at h
    split at h
    · rename_i y z h1 h2
      cases h
      exact ⟨lof_mk h1, bof_mk h2⟩
    · cases h

@[reducible] def XD : List XPat → Type
  | [] => Empty
  | [p] => p.D
  | p :: q :: r => p.D ⊕ XD (q :: r)

section
variable {R : Type}
def xout : (ps : List XPat) → XD ps → (AExit → List AV → List Blk → Option R) → Option R
  | [], d, _ => nomatch d
  | [p], d, K => K p.x (p.vals d) (p.blks d)
  | p :: q :: r, d, K => Sum.elim (fun d => K p.x (p.vals d) (p.blks d)) (fun d => xout (q :: r) d K) d
end

def xof : (ps : List XPat) → AExit → List AV → List Blk → Option (XD ps)
  | [], _, _, _ => none
  | [p], x, as, bs => bif p.x.eq x then p.of as bs else none
  | p :: q :: r, x, as, bs => (match (bif p.x.eq x then p.of as bs else none) with
    | some d => some (.inl d)
    | none => (match xof (q :: r) x as bs with
      | some d => some (.inr d)
      | none => none))

theorem xof_out {R : Type} {K : AExit → List AV → List Blk → Option R} : ∀ {ps : List XPat} {x : AExit} {as : List AV} {bs : List Blk} {d : XD ps}, xof ps x as bs = some d → xout ps d K = K x as bs
  | [], _, _, _, _, h => by simp [xof] at h
  | [p], x, as, bs, d, h => by
    simp only [xof] at h
    cases hx : p.x.eq x with
    | false => rw [hx] at h; cases h
    | true =>
      rw [hx] at h
      obtain ⟨h1, h2⟩ := XPat.of_mk h
      rw [← AExit.eq_of hx, h1, h2]; rfl
  | p :: q :: r, x, as, bs, d, h => by
    simp only [xof] at h
    split at h
    · rename_i d' h'
      cases h
      cases hx : p.x.eq x with
      | false => rw [hx] at h'; cases h'
      | true =>
        rw [hx] at h'
        obtain ⟨h1, h2⟩ := XPat.of_mk h'
        rw [← AExit.eq_of hx, h1, h2]; rfl
    · split at h
      · rename_i d' h'
        cases h
        have h2 := xof_out (K := K) h'
        exact h2
      · cases h

abbrev UEntry := ∀ {R : Type}, List AV → List Blk → (AExit → List AV → List Blk → Option R) → Option R

def UNat (E : UEntry) : Prop := ∀ {R : Type} (args : List AV) (blks : List Blk) (K : AExit → List AV → List Blk → Option R), E args blks K = (E args blks fun x o b => some (x, o, b)).bind fun p => K p.1 p.2.1 p.2.2

def nilU : UEntry := fun _ _ _ => none

/-- A typed function, as what it takes and gives lies. -/
def mkU (pat : XPat) (xs : List XPat) (f : pat.D → Option (XD xs)) (E' : UEntry) : UEntry := fun args blks K =>
  match pat.of args blks with
  | some d => (f d).bind fun r => xout xs r K
  | none => E' args blks K

theorem xout_ex : ∀ (ps : List XPat) (d : XD ps), ∃ x as bs, ∀ {R : Type} (K : AExit → List AV → List Blk → Option R), xout ps d K = K x as bs
  | [], d => nomatch d
  | [p], d => ⟨_, _, _, fun _ => rfl⟩
  | p :: q :: r, .inl d => ⟨_, _, _, fun _ => rfl⟩
  | p :: q :: r, .inr d => by
    obtain ⟨x, as, bs, h⟩ := xout_ex (q :: r) d
    exact ⟨x, as, bs, fun K => h K⟩

theorem nilU_nat : UNat nilU := fun _ _ _ => rfl
theorem mkU_nat {pat : XPat} {xs : List XPat} {f : pat.D → Option (XD xs)} {E' : UEntry} (h : UNat E') : UNat (mkU pat xs f E') := by
  intro R args blks K
  show mkU pat xs f E' args blks K = (mkU pat xs f E' args blks fun x o b => some (x, o, b)).bind fun p => K p.1 p.2.1 p.2.2
  simp only [mkU]
  cases pat.of args blks with
  | none => exact h args blks K
  | some d =>
    cases hf : f d with
    | none => simp only [hf, Option.bind_none]
    | some r =>
      obtain ⟨x, as, bs, hx⟩ := xout_ex xs r
      simp only [hf, Option.bind_some, hx]

/-- A function's entry. -/
def fnE (E : UEntry) : Entry := fun args blks K => E args blks fun _ outs bs => match outs with
  | [o] => K o bs
  | _ => none

theorem fnE_nat {E : UEntry} (h : UNat E) : Natural (fnE E) := by
  intro R args blks K
  unfold fnE
  rw [h]
  conv => rhs; rw [h]
  rw [Option.bind_assoc]
  congr 1
  funext p
  rcases p.2.1 with _ | ⟨o, _ | _⟩ <;> rfl

def rangeL : Nat → Nat → List Nat
  | _, 0 => []
  | i, n + 1 => i :: rangeL (i + 1) n

def geN (n : Nat) : List Nat → List Nat
  | [] => []
  | i :: r => bif Nat.ble n i then i :: geN n r else geN n r

def outIds (nb : Nat) (roots : List Nat) (H : Hp) : List Nat := rangeL 0 nb ++ geN nb (reach (rangeL 0 nb ++ roots) H)

def exportK {R : Type} (nb : Nat) (as : List AV) (H : Hp) (K : List AV → List Blk → Option R) : Option R :=
  bif distinct (outIds nb (refsOf as) H) then (match take (fun i => posOf i (outIds nb (refsOf as) H) 0) H (outIds nb (refsOf as) H) with
    | some blks => K (as.map (AV.ren fun i => posOf i (outIds nb (refsOf as) H) 0)) blks
    | none => none) else none

theorem exportK_nat {R : Type} (nb : Nat) (as : List AV) (H : Hp) (K : List AV → List Blk → Option R) : exportK nb as H K = (exportK nb as H fun a b => some (a, b)).bind fun p => K p.1 p.2 := by
  unfold exportK
  refine cond_nat ?_ rfl
  split <;> rfl

theorem rangeL_get : ∀ (n i j : Nat), j < n → (rangeL i n)[j]? = some (i + j)
  | n + 1, i, 0, _ => by simp [rangeL]
  | n + 1, i, j + 1, h => by
    simp only [rangeL, List.getElem?_cons_succ]
    rw [rangeL_get n (i + 1) j (by omega)]
    congr 1; omega
theorem rangeL_len : ∀ (n i : Nat), (rangeL i n).length = n
  | 0, _ => rfl
  | n + 1, i => by simp [rangeL, rangeL_len n (i + 1)]

theorem outIds_get {nb : Nat} {roots : List Nat} {H : Hp} {j : Nat} (h : j < nb) : (outIds nb roots H)[j]? = some j := by
  unfold outIds
  rw [List.getElem?_append_left (by rw [rangeL_len]; exact h), rangeL_get nb 0 j h, Nat.zero_add]

/-- The same memory under other numbers. -/
theorem Hold.view {c : Ctx} {M : Mem} {μ : Map} {H : Hp} {w : World} (h : Hold c M μ H w) {ids : List Nat} (hd : distinct ids = true) {blks : List Blk} (ht : take (fun i => posOf i ids 0) H ids = some blks) :
    Hold c M (fun j => (ids[j]?).bind μ) (enumB 0 blks) w ∧ (∀ i j, posOf i ids 0 = some j → (fun j => (ids[j]?).bind μ) j = μ i) ∧ blks.length = ids.length := by
  have hρ : ∀ i j, posOf i ids 0 = some j → (fun j => (ids[j]?).bind μ) j = μ i := by
    intro i j hj
    obtain ⟨_, h2⟩ := posOf_some hj
    simp only [Nat.sub_zero] at h2
    simp only [h2, Option.bind_some]
  obtain ⟨hlen, hget1⟩ := take_some ht
  have key : ∀ j k, hget (enumB 0 blks) j = some k → ∃ i k', ids[j]? = some i ∧ hget H i = some k' ∧ k = k'.ren (fun i => posOf i ids 0) := by
    intro j k hj
    rw [enumB_get, if_pos (Nat.zero_le _), Nat.sub_zero] at hj
    have hjl : j < ids.length := by rw [← hlen]; exact (List.getElem?_eq_some_iff.1 hj).1
    obtain ⟨k', h1, h2⟩ := hget1 j ids[j] (List.getElem?_eq_getElem hjl)
    rw [hj] at h2
    exact ⟨ids[j], k', List.getElem?_eq_getElem hjl, h1, Option.some.inj h2⟩
  refine ⟨?_, hρ, hlen⟩
  exact { h with
    blks := fun j k hj => by
      obtain ⟨i, k', h1, h2, rfl⟩ := key j k hj
      obtain ⟨l, h3, h4⟩ := h.blks i k' h2
      exact ⟨l, by simp only [h1, Option.bind_some]; exact h3, BR_ren hρ h4⟩
    inj := fun j j' k k' l l' b hj hj' hl hl' hb hb' => by
      obtain ⟨i, k1, h1, h2, _⟩ := key j k hj
      obtain ⟨i', k2, h1', h2', _⟩ := key j' k' hj'
      simp only [h1, Option.bind_some] at hl
      simp only [h1', Option.bind_some] at hl'
      have := h.inj i i' k1 k2 l l' b h2 h2' hl hl' hb hb'
      subst this
      exact distinct_inj hd h1 h1'
    exc := fun j k l b o v hj hl hb hv => by
      obtain ⟨i, k1, h1, h2, h3⟩ := key j k hj
      simp only [h1, Option.bind_some] at hl
      obtain ⟨e, xs, h4, h5⟩ := h.exc i k1 l b o v h2 hl hb hv
      exact ⟨e, xs, by rw [h3, h4]; rfl, h5⟩
    own := fun j k l b hj hl hb => by
      obtain ⟨i, k1, h1, h2, _⟩ := key j k hj
      simp only [h1, Option.bind_some] at hl
      exact h.own i k1 l b h2 hl hb }

end Go.Av
