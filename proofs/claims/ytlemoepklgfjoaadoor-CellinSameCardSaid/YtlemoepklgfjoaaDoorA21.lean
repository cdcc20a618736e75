/-
  A statement's list of steps, in the text's order.
-/
import Derived.Test.YtlemoepklgfjoaaDoorA20
namespace Go.Av

theorem actK_nat {R : Type} (G : Nat → AV) {orc : Orc} (ho : ∀ f, Natural (orc f)) (act : AAct) (S : St) (nid : Nat) (K : AV → Upd → Option R) : actK G orc act S nid K = (actK G orc act S nid fun v u => some (v, u)).bind fun p => K p.1 p.2 := by
  cases act with
  | op o => exact aop_nat G o S nid K
  | call fn args =>
    simp only [actK]
    split
    · split
      · unfold acall
        refine cond_nat ?_ rfl
        split
        · rename_i blks _
          refine (ho _ _ _ _).trans ?_
          refine Eq.trans ?_ (congrArg (fun z : Option (AV × Upd) => Option.bind z fun p => K p.1 p.2) (ho _ _ _ _)).symm
          rw [Option.bind_assoc]; rfl
        · rfl
      · rfl
    · rfl

theorem actK_some {R : Type} {G : Nat → AV} {orc : Orc} (ho : ∀ f, Natural (orc f)) {act : AAct} {S : St} {nid : Nat} {K : AV → Upd → Option R} {r : R} (h : actK G orc act S nid K = some r) : ∃ v u, actK G orc act S nid (fun v u => some (v, u)) = some (v, u) ∧ K v u = some r := by
  rw [actK_nat G ho] at h
  cases hq : actK G orc act S nid (fun v u => some (v, u)) with
  | none => rw [hq] at h; cases h
  | some p => rw [hq] at h; exact ⟨p.1, p.2, rfl, h⟩

structure AItem where
  dst : Option Nat
  guard : Option (Nat × Nat × Bool)
  act : AAct
  anc : List Nat

def envPut (dst : Option Nat) (v : AV) (env : List (Nat × AV)) : List (Nat × AV) :=
  match dst with
  | some d => (d, v) :: env
  | none => env

def St.upd (S : St) (dst : Option Nat) (v : AV) (u : Upd) : St := ⟨envPut dst v S.env, u.hs ++ S.H, S.nid + u.na⟩

def St.set (S : St) (d : Nat) (v : AV) : St := ⟨(d, v) :: S.env, S.H, S.nid⟩

section
variable {R : Type}

def evItems (G : Nat → AV) (orc : Orc) : List AItem → St → (St → Option R) → Option R
  | [], S, K => K S
  | it :: r, S, K => (match it.guard with
    | none => actK G orc it.act S S.nid fun v u => evItems G orc r (S.upd it.dst v u) K
    | some (_, g, true) => (match S.get g with
      | .tv .bool b => bif b then actK G orc it.act (S.set g (.tv .bool true)) S.nid fun v u => evItems G orc r ((S.set g (.tv .bool true)).upd it.dst v u) K
          else evItems G orc r ((S.set g (.tv .bool false)).upd it.dst (.tup .nil) U0) K
      | .tup .nil => evItems G orc r (S.upd it.dst (.tup .nil) U0) K
      | _ => none)
    | some (_, g, false) => (match S.get g with
      | .tup .nil => evItems G orc r (S.upd it.dst (.tup .nil) U0) K
      | .tv .bool b => bif b then evItems G orc r ((S.set g (.tv .bool true)).upd it.dst (.tup .nil) U0) K
          else actK G orc it.act (S.set g (.tv .bool false)) S.nid fun v u => evItems G orc r ((S.set g (.tv .bool false)).upd it.dst v u) K
      | _ => none))
end

def eqO : Option Nat → Option Nat → Bool
  | none, none => true
  | some a, some b => Nat.beq a b
  | _, _ => false

theorem eqO_eq {a b : Option Nat} (h : eqO a b = true) : a = b := by
  unfold eqO at h
  split at h
  · rfl
  · rw [Nat.eq_of_beq_eq_true h]
  · cases h

def inN (N : Nat) : Option Nat → Bool
  | none => true
  | some d => Nat.blt d N

def inKs (ks : List Nat) : Option Nat → Bool
  | none => true
  | some d => memB d ks

/-- The slot that an operation of a list fills. -/
def dstOf (ops : Array Oper) (j : Nat) : Option Nat := (ops[j]?).bind (·.dst)

def mguard (ops : Array Oper) : Option (Nat × Nat × Bool) → Option (Nat × Bool) → Bool
  | none, none => true
  | some (j, g, want), some (j', want') => Nat.beq j j' && eqO (dstOf ops j) (some g) && (want == want')
  | _, _ => false

def mitem (P : Program) (N : Nat) (kills : List Nat) (ops : Array Oper) (it : AItem) (o : Oper) : Bool :=
  eqO it.dst o.dst && inN N o.dst && inKs kills o.dst && mguard ops it.guard o.guard && mact P it.act o.op

def mitems (P : Program) (N : Nat) (kills : List Nat) (ops : Array Oper) : List AItem → List Oper → Bool
  | [], [] => true
  | it :: r, o :: r' => mitem P N kills ops it o && mitems P N kills ops r r'
  | _, _ => false

/-- What a piece of code begins with. -/
structure Base where
  c : Ctx
  μ0 : Map
  a0 : Act
  kills : List Nat

/-- The machine's state is the abstract one. -/
structure SOk (B : Base) (P : Program) (G : Nat → AV) (M : Mem) (μ : Map) (S : St) (a : Act) (w : World) : Prop where
  hold : Hold B.c M μ S.H w
  glob : GlobOk M G
  env : EnvOk M μ S a
  fresh : ∀ i, S.nid ≤ i → μ i = none
  defs : a.defers = []
  size : a.tmps.size = B.a0.tmps.size
  base : B.μ0.le μ
  keep : ∀ t, memB t B.kills = false → a.tmps.getD t undef = B.a0.tmps.getD t undef

section
variable {P : Program} {G : Nat → AV} {orc : Orc} {B : Base}

theorem getD_set (xs : Array Value) (d t : Nat) (v : Value) : (xs.setIfInBounds d v).getD t undef = if d = t ∧ d < xs.size then v else xs.getD t undef := by
  by_cases h : d = t
  · subst h
    by_cases h2 : d < xs.size
    · rw [if_pos ⟨rfl, h2⟩]; simp [Array.getD, h2]
    · rw [if_neg (by omega)]; simp [Array.getD, h2]
  · rw [if_neg (by omega)]
    simp [Array.getElem?_setIfInBounds_ne h]

theorem St.get_cons (d : Nat) (v : AV) (env : List (Nat × AV)) (H : Hp) (n t : Nat) : (St.mk ((d, v) :: env) H n).get t = if d = t then v else (St.mk env H n).get t := by
  simp only [St.get, alGet_cons]
  by_cases h : d = t
  · rw [if_pos h, if_pos h]
  · rw [if_neg h, if_neg h]

theorem EnvOk.put {M : Mem} {μ : Map} {env : List (Nat × AV)} {H H' : Hp} {n n' : Nat} {a : Act} {dst : Option Nat} {v : AV} {v' : Value} (h : EnvOk M μ ⟨env, H, n⟩ a) (hv : AVV M μ v v') (hd : inN a.tmps.size dst = true) :
    EnvOk M μ ⟨envPut dst v env, H', n'⟩ (a.put dst v') := by
  cases dst with
  | none => exact h
  | some d =>
    intro t
    show AVV M μ ((St.mk ((d, v) :: env) H' n').get t) ((a.tmps.setIfInBounds d v').getD t undef)
    rw [St.get_cons, getD_set]
    have hd' : d < a.tmps.size := by simpa [inN, Nat.blt_eq] using hd
    by_cases e : d = t
    · rw [if_pos e, if_pos ⟨e, hd'⟩]; exact hv
    · rw [if_neg e, if_neg (fun h => e h.1)]; exact h t

theorem put_defs (a : Act) (dst : Option Nat) (v : Value) : (a.put dst v).defers = a.defers := by cases dst <;> rfl
theorem put_size (a : Act) (dst : Option Nat) (v : Value) : (a.put dst v).tmps.size = a.tmps.size := by cases dst <;> simp [Act.put]
theorem put_keep {a : Act} {dst : Option Nat} {v : Value} {ks : List Nat} (h : inKs ks dst = true) {t : Nat} (ht : memB t ks = false) : (a.put dst v).tmps.getD t undef = a.tmps.getD t undef := by
  cases dst with
  | none => rfl
  | some d =>
    show (a.tmps.setIfInBounds d v).getD t undef = _
    rw [getD_set, if_neg]
    rintro ⟨e, _⟩
    subst e
    simp only [inKs] at h
    rw [h] at ht; cases ht

theorem SOk.step {M M' : Mem} {μ μ' : Map} {S : St} {a : Act} {w w' : World} {dst : Option Nat} {v : AV} {v' : Value} {u : Upd} (h : SOk B P G M μ S a w) (hM : M.le M') (hμ : μ.le μ') (hH : Hold B.c M' μ' (u.hs ++ S.H) w') (hv : AVV M' μ' v v')
    (hn : ∀ i, μ' i ≠ none → μ i ≠ none ∨ (S.nid ≤ i ∧ i < S.nid + u.na)) (hd : inN B.a0.tmps.size dst = true) (hk : inKs B.kills dst = true) : SOk B P G M' μ' (S.upd dst v u) (a.put dst v') w' where
  hold := hH
  glob := h.glob.mono hM
  env := EnvOk.put (env := S.env) (H := S.H) (n := S.nid) (fun t => (h.env t).mono hM hμ) hv (by rw [h.size]; exact hd)
  fresh := fun i (hi : S.nid + u.na ≤ i) => by
    cases hq : μ' i with
    | none => rfl
    | some l =>
      rcases hn i (by rw [hq]; simp) with h1 | h1
      · exact absurd (h.fresh i (by omega)) h1
      · omega
  defs := (put_defs _ _ _).trans h.defs
  size := (put_size _ _ _).trans h.size
  base := h.base.trans hμ
  keep := fun t ht => (put_keep hk ht).trans (h.keep t ht)

theorem AVV_undef {M : Mem} {μ : Map} : AVV M μ (.tup .nil) undef := ⟨[], rfl, by simp only [AVL]⟩

theorem SOk.skip {M : Mem} {μ : Map} {S : St} {a : Act} {w : World} {dst : Option Nat} (h : SOk B P G M μ S a w) (hd : inN B.a0.tmps.size dst = true) (hk : inKs B.kills dst = true) : SOk B P G M μ (S.upd dst (.tup .nil) U0) (a.put dst undef) w :=
  h.step (Mem.le.refl _) (Map.le.refl _) h.hold AVV_undef (fun _ h => .inl h) hd hk

theorem SOk.set {M : Mem} {μ : Map} {S : St} {a : Act} {w : World} {g : Nat} {b : Bool} (h : SOk B P G M μ S a w) (hg : S.get g = .tv .bool b) : SOk B P G M μ (S.set g (.tv .bool b)) a w :=
  { h with
    env := fun t => by
      unfold St.set
      rw [St.get_cons]
      by_cases e : g = t
      · subst e; rw [if_pos rfl, ← hg]; exact h.env g
      · rw [if_neg e]; exact h.env t }

theorem yielded_of {M : Mem} {μ : Map} {ops : Array Oper} {a : Act} {S : St} {j g : Nat} {b : Bool} (hE : EnvOk M μ S a) (hj : dstOf ops j = some g) (hg : S.get g = .tv .bool b) : yielded ops a.tmps j = some b := by
  have h1 := hE g
  rw [hg, AVV_bool] at h1
  unfold yielded
  unfold dstOf at hj
  rw [hj, Option.bind_some]
  cases hq : a.tmps[g]? with
  | none => rw [Array.getD_eq_getD_getElem?, hq] at h1; cases h1
  | some x =>
    rw [Array.getD_eq_getD_getElem?, hq] at h1
    simp only [Option.getD_some] at h1
    rw [h1]

theorem yielded_undef {M : Mem} {μ : Map} {ops : Array Oper} {a : Act} {S : St} {j g : Nat} (hE : EnvOk M μ S a) (hj : dstOf ops j = some g) (hg : S.get g = .tup .nil) : yielded ops a.tmps j = none := by
  have h1 := hE g
  rw [hg] at h1
  obtain ⟨vs, h1, h2⟩ := h1
  unfold yielded
  unfold dstOf at hj
  rw [hj, Option.bind_some]
  cases hq : a.tmps[g]? with
  | none => rfl
  | some x =>
    rw [Array.getD_eq_getD_getElem?, hq] at h1
    simp only [Option.getD_some] at h1
    rw [h1]

theorem mguard_none {ops : Array Oper} {og : Option (Nat × Bool)} (h : mguard ops none og = true) : og = none := by
  cases og with
  | none => rfl
  | some p => simp [mguard] at h
theorem mguard_some {ops : Array Oper} {j g : Nat} {want : Bool} {og : Option (Nat × Bool)} (h : mguard ops (some (j, g, want)) og = true) : og = some (j, want) ∧ dstOf ops j = some g := by
  cases og with
  | none => simp [mguard] at h
  | some p =>
    obtain ⟨j', want'⟩ := p
    simp only [mguard, Bool.and_eq_true, beq_iff_eq] at h
    obtain ⟨⟨h1, h2⟩, h3⟩ := h
    rw [Nat.eq_of_beq_eq_true h1, h3]
    exact ⟨rfl, by rw [← Nat.eq_of_beq_eq_true h1]; exact eqO_eq h2⟩

theorem evItems_ok {ops : Array Oper} {Q : Exit → Act → World → Prop} {R : Type} {r : R} {K : St → Option R} (ho : OrcOK P G orc) : ∀ (its : List AItem) (os : List Oper) {M : Mem} {μ : Map} {S : St} {a : Act} {w : World},
    mitems P B.a0.tmps.size B.kills ops its os = true → SOk B P G M μ S a w → evItems G orc its S K = some r →
    (∀ M' μ' S' a' w', K S' = some r → SOk B P G M' μ' S' a' w' → Q .normal a' w') → wpList P ops Q os a w
  | [], [], M, μ, S, a, w, _, h, hr, hQ => hQ M μ S a w hr h
  | it :: its, o :: os, M, μ, S, a, w, hm, h, hr, hQ => by
    simp only [mitems, mitem, Bool.and_eq_true] at hm
    obtain ⟨⟨⟨⟨⟨h1, h2⟩, h3⟩, h4⟩, h5⟩, h6⟩ := hm
    have hd := eqO_eq h1
    have run : ∀ (S : St), SOk B P G M μ S a w → (actK G orc it.act S S.nid fun v u => evItems G orc its (S.upd it.dst v u) K) = some r → o.wp P a w (wpList P ops Q os) Q := by
      intro S h hr
      obtain ⟨v, u, hr1, hr2⟩ := actK_some ho.nat hr
      refine act_ok ⟨h.hold, h.glob, h.env⟩ ho h5 hr1 (fun i hi _ => h.fresh i hi) ?_
      intro v' w' M' μ' l1 l2 hH hv hn
      rw [← hd]
      refine evItems_ok ho its os h6 (h.step (dst := it.dst) l1 l2 hH hv hn (by rw [hd]; exact h2) (by rw [hd]; exact h3)) hr2 hQ
    simp only [wpList]
    simp only [evItems] at hr
    split at hr
    · rename_i hg
      rw [hg] at h4
      have : Region.wanted o (yielded ops a.tmps) = true := by simp only [Region.wanted, mguard_none h4]
      rw [if_pos this]
      exact .inl (run S h hr)
    · rename_i j g hg
      rw [hg] at h4
      obtain ⟨h7, h8⟩ := mguard_some h4
      split at hr
      case h_3 => cases hr
      case h_2 =>
        rename_i hb
        have hy := yielded_undef h.env h8 hb
        have : ¬ Region.wanted o (yielded ops a.tmps) = true := by simp only [Region.wanted, h7, hy]; simp
        rw [if_neg this]
        rw [← hd]
        exact evItems_ok ho its os h6 (h.skip (dst := it.dst) (by rw [hd]; exact h2) (by rw [hd]; exact h3)) hr hQ
      rename_i b hb
      have hy := yielded_of h.env h8 hb
      cases b with
      | true =>
        have : Region.wanted o (yielded ops a.tmps) = true := by simp only [Region.wanted, h7, hy]; rfl
        rw [if_pos this]
        exact .inl (run _ (h.set hb) hr)
      | false =>
        have : ¬ Region.wanted o (yielded ops a.tmps) = true := by simp only [Region.wanted, h7, hy]; simp
        rw [if_neg this]
        rw [← hd]
        exact evItems_ok ho its os h6 ((h.set hb).skip (dst := it.dst) (by rw [hd]; exact h2) (by rw [hd]; exact h3)) hr hQ
    · rename_i j g hg
      rw [hg] at h4
      obtain ⟨h7, h8⟩ := mguard_some h4
      split at hr
      case h_3 => cases hr
      case h_1 =>
        rename_i hb
        have hy := yielded_undef h.env h8 hb
        have : ¬ Region.wanted o (yielded ops a.tmps) = true := by simp only [Region.wanted, h7, hy]; simp
        rw [if_neg this]
        rw [← hd]
        exact evItems_ok ho its os h6 (h.skip (dst := it.dst) (by rw [hd]; exact h2) (by rw [hd]; exact h3)) hr hQ
      rename_i b hb
      have hy := yielded_of h.env h8 hb
      cases b with
      | false =>
        have : Region.wanted o (yielded ops a.tmps) = true := by simp only [Region.wanted, h7, hy]; rfl
        rw [if_pos this]
        exact .inl (run _ (h.set hb) hr)
      | true =>
        have : ¬ Region.wanted o (yielded ops a.tmps) = true := by simp only [Region.wanted, h7, hy]; simp
        rw [if_neg this]
        rw [← hd]
        exact evItems_ok ho its os h6 ((h.set hb).skip (dst := it.dst) (by rw [hd]; exact h2) (by rw [hd]; exact h3)) hr hQ
  | [], _ :: _, _, _, _, _, _, hm, _, _, _ => by simp [mitems] at hm
  | _ :: _, [], _, _, _, _, _, hm, _, _, _ => by simp [mitems] at hm
end
end Go.Av
