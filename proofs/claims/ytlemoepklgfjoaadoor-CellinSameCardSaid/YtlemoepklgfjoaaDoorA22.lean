/-
  A statement whose steps may come in several orders: what each of them tells does not hang on the order.
-/
import Derived.Test.YtlemoepklgfjoaaDoorA21
namespace Go.Av

structure Rec where
  dst : Option Nat
  v : AV
  hs : Hp
  rf : List Nat
  base : Nat
  na : Nat

abbrev Done := List (Nat × Rec)

def envOf (p : Nat → Bool) : Done → List (Nat × AV) → List (Nat × AV)
  | [], env => env
  | (j, d) :: r, env => bif p j then envPut d.dst d.v (envOf p r env) else envOf p r env

def heapOf (p : Nat → Bool) : Done → Hp → Hp
  | [], H => H
  | (j, d) :: r, H => bif p j then d.hs ++ heapOf p r H else heapOf p r H

/-- The slots of those that may come before or after. -/
def deadsOf (i : Nat) (anc : List Nat) : Nat → List AItem → List (Nat × AV)
  | _, [] => []
  | j, it :: r => bif Nat.beq j i || (memB j anc || memB i it.anc) then deadsOf i anc (j + 1) r else envPut it.dst .dead (deadsOf i anc (j + 1) r)

def envI (all : List AItem) (S0 : St) (done : Done) (i : Nat) (anc : List Nat) : List (Nat × AV) := deadsOf i anc 0 all ++ envOf (fun j => memB j anc) done S0.env
def heapI (S0 : St) (done : Done) (anc : List Nat) : Hp := heapOf (fun j => memB j anc) done S0.H

def restr : List Nat → Hp → Hp
  | [], _ => []
  | i :: r, H => (i, hget H i) :: restr r H

def AOp.opds : AOp → List Opd
  | .mv _ | .nilc _ | .fad _ _ _ | .iad _ _ _ _ | .ext _ _ | .lenc _ _ => []
  | .box x | .load _ _ x | .un _ x | .conv _ x | .bstr x | .fld _ _ _ _ x | .len x | .lens x | .rng x | .nxt x => [x]
  | .pick c a b => [c, a, b]
  | .alloc _ _ => []
  | .nrow _ => []
  | .mkmap _ => []
  | .mlook _ _ m k => [m, k]
  | .mput _ m k v => [m, k, v]
  | .ment _ m k => [m, k]
  | .mest m s v => [m, s, v]
  | .bad => []
  | .build _ _ parts => parts.map fun p => p.2.2.2
  | .bslice _ parts => parts
  | .store _ _ x v => [x, v]
  | .bin _ x y | .eqa _ _ x y | .eqb _ x y | .eqp _ x y | .eqf _ x y | .iads _ x y | .ix _ _ _ x y | .ixs x y | .app _ x y | .mx x y | .mn x y => [x, y]
  | .mkfn _ first caps => first ++ caps
  | .mkslice _ n c => [n, c]
  | .slis x _ _ => [x]
  | .slia _ x _ _ => [x]
  | .eqn _ x => [x]

/-- The blocks that a step may look at. -/
def foot (G : Nat → AV) (S : St) : AAct → List Nat
  | .op o => refsOf (o.opds.map (ev G S))
  | .call fn args => reach (refsOf (ev G S fn :: args.map fun x => ev G S x.1)) S.H

def keysOf : Hp → List Nat
  | [] => []
  | (i, _) :: r => i :: keysOf r

def disj : List Nat → List Nat → Bool
  | [], _ => true
  | i :: r, l => !memB i l && disj r l

def chk (anc : List Nat) (rf : List Nat) (hs : Hp) : Done → Bool
  | [] => true
  | (j, d) :: r => (bif memB j anc then true else disj (keysOf hs) (d.rf ++ keysOf d.hs) && disj (keysOf d.hs) rf) && chk anc rf hs r

def donePut (j : Nat) (b : Bool) : Done → Done
  | [] => []
  | (k, d) :: r => bif Nat.beq k j then (k, ⟨d.dst, .tv .bool b, d.hs, d.rf, d.base, d.na⟩) :: r else (k, d) :: donePut j b r

section
variable {R : Type}

def runD (G : Nat → AV) (orc : Orc) (all : List AItem) (S0 : St) (i : Nat) (it : AItem) (nid : Nat) (done : Done) (cont : Rec → Option R) : Option R :=
  actK G orc it.act ⟨envI all S0 done i it.anc, restr (foot G ⟨envI all S0 done i it.anc, heapI S0 done it.anc, 0⟩ it.act) (heapI S0 done it.anc), 0⟩ nid fun v u =>
    bif chk it.anc (foot G ⟨envI all S0 done i it.anc, heapI S0 done it.anc, 0⟩ it.act) u.hs done then
      cont ⟨it.dst, v, u.hs, foot G ⟨envI all S0 done i it.anc, heapI S0 done it.anc, 0⟩ it.act, nid, u.na⟩ else none

def evDraw (G : Nat → AV) (orc : Orc) (all : List AItem) (S0 : St) : List AItem → Nat → Nat → Done → (St → Option R) → Option R
  | [], _, nid, done, K => K ⟨envOf (fun _ => true) done S0.env, heapOf (fun _ => true) done S0.H, nid⟩
  | it :: r, i, nid, done, K => (match it.guard with
    | none => runD G orc all S0 i it nid done fun d => evDraw G orc all S0 r (i + 1) (nid + d.na) ((i, d) :: done) K
    | some (j, _, true) => (match alGet done j with
      | some e => (match e.v with
        | .tv .bool b => bif b then runD G orc all S0 i it nid (donePut j true done) fun d => evDraw G orc all S0 r (i + 1) (nid + d.na) ((i, d) :: donePut j true done) K
            else evDraw G orc all S0 r (i + 1) nid ((i, ⟨it.dst, .tup .nil, [], [], nid, 0⟩) :: donePut j false done) K
        | .tup .nil => evDraw G orc all S0 r (i + 1) nid ((i, ⟨it.dst, .tup .nil, [], [], nid, 0⟩) :: done) K
        | _ => none)
      | none => none)
    | some (j, _, false) => (match alGet done j with
      | some e => (match e.v with
        | .tup .nil => evDraw G orc all S0 r (i + 1) nid ((i, ⟨it.dst, .tup .nil, [], [], nid, 0⟩) :: done) K
        | .tv .bool b => bif b then evDraw G orc all S0 r (i + 1) nid ((i, ⟨it.dst, .tup .nil, [], [], nid, 0⟩) :: donePut j true done) K
            else runD G orc all S0 i it nid (donePut j false done) fun d => evDraw G orc all S0 r (i + 1) (nid + d.na) ((i, d) :: donePut j false done) K
        | _ => none)
      | none => none))
end

def ancAt (all : List AItem) (i : Nat) : List Nat :=
  match all[i]? with
  | some it => it.anc
  | none => []

def mdraw (P : Program) (N : Nat) (kills : List Nat) (ops : Array Oper) (all : List AItem) : Nat → List AItem → List Oper → Bool
  | _, [], [] => true
  | i, it :: r, o :: r' => mitem P N kills ops it o && ((it.anc.all fun j => Nat.blt j i && o.after.any fun e => Region.binds .any e && (Nat.beq e.on j || memB j (ancAt all e.on))) &&
      (o.after.all fun e => !Region.binds .any e || Nat.blt e.on i)) && (match it.guard with | some (j, _, _) => memB j it.anc | none => true) && mdraw P N kills ops all (i + 1) r r'
  | _, _, _ => false

def dstsOf : List AItem → List Nat
  | [] => []
  | it :: r => (match it.dst with | some d => [d] | none => []) ++ dstsOf r

/-! ### Laws -/
theorem alGet_mem {α : Type} : ∀ {l : List (Nat × α)} {i : Nat} {v : α}, alGet l i = some v → (i, v) ∈ l
  | [], i, v, h => by simp [alGet] at h
  | (k, x) :: r, i, v, h => by
    rw [alGet_cons] at h
    split at h
    · rename_i e; subst e; cases h; exact List.mem_cons_self ..
    · exact List.mem_cons_of_mem _ (alGet_mem h)

theorem keysOf_mem : ∀ {H : Hp} {i : Nat}, alGet H i ≠ none → i ∈ keysOf H
  | [], i, h => by simp [alGet] at h
  | (k, x) :: r, i, h => by
    rw [alGet_cons] at h
    simp only [keysOf, List.mem_cons]
    split at h
    · rename_i e; exact .inl e.symm
    · exact .inr (keysOf_mem h)

theorem disj_spec : ∀ {a b : List Nat}, disj a b = true → ∀ i ∈ a, i ∉ b
  | [], _, _, i, hi => by cases hi
  | x :: r, b, h, i, hi => by
    simp only [disj, Bool.and_eq_true, Bool.not_eq_true'] at h
    rcases List.mem_cons.1 hi with e | e
    · subst e
      intro hm
      rw [memB_iff.2 hm] at h
      cases h.1
    · exact disj_spec h.2 i e

theorem hget_restr : ∀ (rf : List Nat) (H : Hp) (i : Nat) (k : Blk), hget (restr rf H) i = some k → i ∈ rf ∧ hget H i = some k
  | [], H, i, k, h => by simp [restr, hget, alGet] at h
  | j :: r, H, i, k, h => by
    rw [restr, hget_cons] at h
    split at h
    · rename_i e; subst e; exact ⟨List.mem_cons_self .., h⟩
    · obtain ⟨h1, h2⟩ := hget_restr r H i k h
      exact ⟨List.mem_cons_of_mem _ h1, h2⟩

theorem heapOf_congr {q p : Nat → Bool} {H0 : Hp} {id : Nat} : ∀ (ds : Done), (∀ j e, (j, e) ∈ ds → q j = p j ∨ alGet e.hs id = none) → hget (heapOf q ds H0) id = hget (heapOf p ds H0) id
  | [], _ => rfl
  | (j, e) :: r, h => by
    have ih := heapOf_congr r (H0 := H0) fun j e hm => h j e (List.mem_cons_of_mem _ hm)
    rcases h j e (List.mem_cons_self ..) with h1 | h1
    · simp only [heapOf, h1]
      cases p j
      · exact ih
      · simp only [cond_true, hget_app, ih]
    · have hx : ∀ (b : Bool) (X : Hp), hget (bif b then e.hs ++ X else X) id = hget X id := by
        intro b X
        cases b
        · rfl
        · simp only [cond_true, hget_app, h1]
      simp only [heapOf, hx, ih]

theorem alGet_envPut (dst : Option Nat) (v : AV) (env : List (Nat × AV)) (t : Nat) : alGet (envPut dst v env) t = if dst = some t then some v else alGet env t := by
  cases dst with
  | none => simp [envPut]
  | some d => simp [envPut, alGet_cons]

theorem envOf_congr {q p : Nat → Bool} {env : List (Nat × AV)} {t : Nat} : ∀ (ds : Done), (∀ j e, (j, e) ∈ ds → q j = p j ∨ e.dst ≠ some t) → alGet (envOf q ds env) t = alGet (envOf p ds env) t
  | [], _ => rfl
  | (j, e) :: r, h => by
    have ih := envOf_congr r (env := env) fun j e hm => h j e (List.mem_cons_of_mem _ hm)
    rcases h j e (List.mem_cons_self ..) with h1 | h1
    · simp only [envOf, h1]
      cases p j
      · exact ih
      · simp only [cond_true, alGet_envPut, ih]
    · have hx : ∀ (b : Bool) (X : List (Nat × AV)), alGet (bif b then envPut e.dst e.v X else X) t = alGet X t := by
        intro b X
        cases b
        · rfl
        · simp only [cond_true, alGet_envPut, if_neg h1]
      simp only [envOf, hx, ih]

def Desc : Nat → Done → Prop
  | 0, d => d = []
  | n + 1, d => ∃ e r, d = (n, e) :: r ∧ Desc n r

theorem Desc.lt : ∀ {n : Nat} {d : Done}, Desc n d → ∀ {i e}, (i, e) ∈ d → i < n
  | 0, _, h, i, e, hm => by simp only [Desc] at h; subst h; cases hm
  | n + 1, _, ⟨e', r, h, h'⟩, i, e, hm => by
    subst h
    rcases List.mem_cons.1 hm with h1 | h1
    · cases h1; omega
    · have := h'.lt h1; omega

theorem Desc.uniq : ∀ {n : Nat} {d : Done}, Desc n d → ∀ {i e e'}, (i, e) ∈ d → (i, e') ∈ d → e = e'
  | 0, _, h, i, e, e', hm, _ => by simp only [Desc] at h; subst h; cases hm
  | n + 1, _, ⟨e1, r, h, h'⟩, i, e, e', hm, hm' => by
    subst h
    rcases List.mem_cons.1 hm with h1 | h1 <;> rcases List.mem_cons.1 hm' with h2 | h2
    · cases h1; cases h2; rfl
    · cases h1; have := h'.lt h2; omega
    · cases h2; have := h'.lt h1; omega
    · exact h'.uniq h1 h2

theorem Desc.has : ∀ {n : Nat} {d : Done}, Desc n d → ∀ {i}, i < n → ∃ e, (i, e) ∈ d
  | 0, _, _, i, hi => by omega
  | n + 1, _, ⟨e1, r, h, h'⟩, i, hi => by
    subst h
    by_cases e : i = n
    · subst e; exact ⟨e1, List.mem_cons_self ..⟩
    · obtain ⟨e2, h2⟩ := h'.has (i := i) (by omega)
      exact ⟨e2, List.mem_cons_of_mem _ h2⟩

theorem heapOf_hit {p : Nat → Bool} {H0 : Hp} {id i : Nat} {d : Rec} {x : Option Blk} (hp : p i = true) (hx : alGet d.hs id = some x) : ∀ {n : Nat} {ds : Done}, Desc n ds → (i, d) ∈ ds → (∀ j e, (j, e) ∈ ds → i < j → p j = true → alGet e.hs id = none) → hget (heapOf p ds H0) id = x
  | 0, _, h, hm, _ => by simp only [Desc] at h; subst h; cases hm
  | n + 1, _, ⟨e, r, h, h'⟩, hm, hn => by
    subst h
    rcases List.mem_cons.1 hm with h1 | h1
    · cases h1
      simp only [heapOf, hp, cond_true, hget_app, hx]
    · have ih := heapOf_hit (H0 := H0) hp hx h' h1 fun j e hm => hn j e (List.mem_cons_of_mem _ hm)
      simp only [heapOf]
      cases hpn : p n with
      | false => exact ih
      | true =>
        simp only [cond_true, hget_app, hn n e (List.mem_cons_self ..) (h'.lt h1) hpn]
        exact ih

theorem envOf_hit {p : Nat → Bool} {env : List (Nat × AV)} {t i : Nat} {d : Rec} (hp : p i = true) (hx : d.dst = some t) : ∀ {n : Nat} {ds : Done}, Desc n ds → (i, d) ∈ ds → (∀ j e, (j, e) ∈ ds → j ≠ i → e.dst ≠ some t) → alGet (envOf p ds env) t = some d.v
  | 0, _, h, hm, _ => by simp only [Desc] at h; subst h; cases hm
  | n + 1, _, ⟨e, r, h, h'⟩, hm, hn => by
    subst h
    rcases List.mem_cons.1 hm with h1 | h1
    · cases h1
      simp only [envOf, hp, cond_true, alGet_envPut, hx, if_true]
    · have ih := envOf_hit (env := env) hp hx h' h1 fun j e hm => hn j e (List.mem_cons_of_mem _ hm)
      simp only [envOf]
      have hne : n ≠ i := by have := h'.lt h1; omega
      cases hpn : p n with
      | false => exact ih
      | true =>
        simp only [cond_true, alGet_envPut, if_neg (hn n e (List.mem_cons_self ..) hne)]
        exact ih

theorem donePut_same {j : Nat} {b : Bool} : ∀ {done : Done} {e : Rec}, alGet done j = some e → e.v = .tv .bool b → donePut j b done = done
  | [], e, h, _ => rfl
  | (k, d) :: r, e, h, hv => by
    simp only [donePut]
    rw [alGet_cons] at h
    split at h
    · rename_i hk
      subst hk
      cases h
      rw [Nat.beq_refl]
      simp only [cond_true]
      rw [← hv]
    · rename_i hk
      have : Nat.beq k j = false := by
        cases hb : Nat.beq k j with
        | false => rfl
        | true => exact absurd (Nat.eq_of_beq_eq_true hb) hk
      rw [this]
      simp only [cond_false, donePut_same h hv]

theorem deadsOf_get {i : Nat} {anc : List Nat} {t : Nat} : ∀ {l : List AItem} {n : Nat}, alGet (deadsOf i anc n l) t = some .dead ∨ (alGet (deadsOf i anc n l) t = none ∧ ∀ k it, l[k]? = some it → n + k ≠ i → memB (n + k) anc = false → memB i it.anc = false → it.dst ≠ some t)
  | [], n => .inr ⟨rfl, fun k it h => by simp at h⟩
  | it :: r, n => by
    simp only [deadsOf]
    cases hc : (Nat.beq n i || (memB n anc || memB i it.anc)) with
    | true =>
      rcases deadsOf_get (l := r) (n := n + 1) with h | ⟨h1, h2⟩
      · exact .inl h
      · refine .inr ⟨h1, fun k it' hk hne ha hb => ?_⟩
        cases k with
        | zero =>
          simp only [List.getElem?_cons_zero, Option.some.injEq] at hk
          subst hk
          have : Nat.beq n i = false := by
            cases hq : Nat.beq n i with
            | false => rfl
            | true => exact absurd (Nat.eq_of_beq_eq_true hq) hne
          simp only [Nat.add_zero] at ha
          rw [this, ha, hb] at hc
          cases hc
        | succ k =>
          have e : n + (k + 1) = n + 1 + k := by omega
          exact h2 k it' (by simpa using hk) (by omega) (by rw [← e]; exact ha) hb
    | false =>
      simp only [cond_false, alGet_envPut]
      by_cases ht : it.dst = some t
      · rw [if_pos ht]; exact .inl rfl
      · rw [if_neg ht]
        rcases deadsOf_get (l := r) (n := n + 1) with h | ⟨h1, h2⟩
        · exact .inl h
        · refine .inr ⟨h1, fun k it' hk hne ha hb => ?_⟩
          cases k with
          | zero =>
            simp only [List.getElem?_cons_zero, Option.some.injEq] at hk
            subst hk
            exact ht
          | succ k =>
            have e : n + (k + 1) = n + 1 + k := by omega
            exact h2 k it' (by simpa using hk) (by omega) (by rw [← e]; exact ha) hb

end Go.Av
