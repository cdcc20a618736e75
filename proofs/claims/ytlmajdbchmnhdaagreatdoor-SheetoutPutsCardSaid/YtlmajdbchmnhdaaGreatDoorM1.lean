/-
  The abstract values: typed trees, and what of them lies in the machine's memory.
-/
import Derived.Calls
import Derived.Orders
import Derived.Below
import Derived.Deep.MidRow
import Derived.Deep.AppendSrc
import Derived.Laws.MakeOwn
import Derived.Laws.StructEq
import Derived.Laws.BytesString
import Derived.KernelRfl
import Derived.ChangeKeysEq
namespace Go.Av

/-- Types of trees. A struct is a chain of pairs that ends in 'nil'. -/
inductive Ty where
  | int (k : IntKind) | bool | str | sl (e : Ty) | arr (n : Nat) (e : Ty) | pr (a b : Ty) | nil
  deriving DecidableEq

@[reducible] def Ty.T : Ty → Type
  | .int _ => Int
  | .bool => Bool
  | .str => List UInt8
  | .sl e => List e.T
  | .arr _ e => List e.T
  | .pr a b => a.T × b.T
  | .nil => Unit

def Ty.zero : (τ : Ty) → τ.T
  | .int _ => (0 : Int)
  | .bool => false
  | .str => ([] : List UInt8)
  | .sl e => ([] : List e.T)
  | .arr n e => List.replicate n e.zero
  | .pr a b => (a.zero, b.zero)
  | .nil => ()

/-- How many cells a variable of the type has. -/
def Ty.n : Ty → Nat
  | .int _ => 1 | .bool => 1 | .str => 1 | .sl _ => 1
  | .arr n e => n * e.n
  | .pr a b => a.n + b.n
  | .nil => 0

def Ty.isAgg : Ty → Bool
  | .arr _ _ => true | .pr _ _ => true | .nil => true
  | _ => false

/-- A step of an address inside a block: a field (its number, and the cells ahead of it), an element (its number, how many there are, the cells of each). -/
inductive Step where
  | fld (i off : Nat)
  | idx (i n sz : Nat)
  deriving DecidableEq

def Step.off : Step → Nat
  | .fld _ o => o
  | .idx i _ sz => i * sz

def pathOff : List Step → Nat
  | [] => 0
  | s :: r => s.off + pathOff r

/-- Inside its array? -/
def Step.okS : Step → Prop
  | .fld _ _ => True
  | .idx i n _ => i < n

inductive AV where
  | tv (τ : Ty) (x : τ.T)
  | ptr (id : Nat) (path : List Step)
  | row (id : Nat)
  | fp (τ : Ty) (x : τ.T)
  | sln (b : Bool) (e : Ty) (xs : List e.T)
  | obj (id : Nat)
  | mp (id : Nat)
  | nilp
  | nilf
  | cons (a b : AV)
  | nil
  | fn (f : FuncId) (first caps : AV)
  | tup (l : AV)
  | junk
  | dead

inductive Blk where
  | box (v : AV)
  | row (e : Ty) (xs : List e.T) (fz : Bool)
  | iter (s : List UInt8) (pos : Nat)
  | mp (κ : Ty) (l : List (κ.T × Int))

/-- A map's key as a cell. -/
def keyV : (κ : Ty) → κ.T → Value
  | .int k, n => .int k n
  | .str, s => .string ⟨s.toArray⟩
  | _, _ => .nilFunc

/-- A map's entries, stamped by their places. -/
def mEnts (κ : Ty) : Nat → List (κ.T × Int) → List MapEntry
  | _, [] => []
  | i, (x, v) :: r => { key := keyV κ x, val := .int .i64 v, born := i } :: mEnts κ (i + 1) r

inductive Loc where
  | box (b : Nat)
  | row (b : Option Nat) (len cap : Nat)
  | obj (b : Nat)

/-- An address inside a row begins with an element of it. -/
def Loc.head : Loc → List Step → Prop
  | .row _ len _, .idx _ n _ :: _ => n ≤ len
  | .row _ _ _, _ => False
  | .box _, _ => True
  | .obj _, _ => False

def Loc.blk : Loc → Option Nat
  | .box b => some b
  | .row b _ _ => b
  | .obj b => some b

/-- Memory that nobody writes any more: cell by cell. -/
abbrev Mem := Nat → Nat → Option Value
abbrev Map := Nat → Option Loc

def Mem.le (M M' : Mem) : Prop := ∀ b o v, M b o = some v → M' b o = some v
def Map.le (μ μ' : Map) : Prop := ∀ i l, μ i = some l → μ' i = some l
theorem Mem.le.refl (M : Mem) : M.le M := fun _ _ _ h => h
theorem Map.le.refl (μ : Map) : μ.le μ := fun _ _ h => h
theorem Mem.le.trans {A B C : Mem} (h : A.le B) (k : B.le C) : A.le C := fun b o v e => k b o v (h b o v e)
theorem Map.le.trans {A B C : Map} (h : A.le B) (k : B.le C) : A.le C := fun i l e => k i l (h i l e)

def RowC {α : Type} (R : α → List Value → Prop) : List α → List Value → Prop
  | [], cs => cs = []
  | x :: xs, cs => ∃ c1 c2, cs = c1 ++ c2 ∧ R x c1 ∧ RowC R xs c2

/-- The cells cs hold the tree x; what slices lead to lies in M. -/
def TC (M : Mem) : (τ : Ty) → τ.T → List Value → Prop
  | .int k, n, cs => cs = [.int k n]
  | .bool, b, cs => cs = [.bool b]
  | .str, s, cs => cs = [.string ⟨s.toArray⟩]
  | .sl e, xs, cs => ∃ a cap, cs = [.slice a xs.length cap] ∧ ∃ es, RowC (TC M e) xs es ∧ (xs = [] ∨ ∃ b o, a = some ⟨b, o, none⟩ ∧ ∀ j v, es[j]? = some v → M b (o + j) = some v) ∧ xs.length ≤ cap
  | .arr n e, xs, cs => xs.length = n ∧ RowC (TC M e) xs cs
  | .pr a b, x, cs => ∃ c1 c2, cs = c1 ++ c2 ∧ TC M a x.1 c1 ∧ TC M b x.2 c2
  | .nil, _, cs => cs = []

def oneC (cs : List Value) : Prop := ∀ v ∈ cs, v.oneCell' = true

def AV.isAgg : AV → Bool
  | .tv τ _ => τ.isAgg
  | .cons _ _ => true
  | .nil => true
  | _ => false

/-- How many cells the value takes. -/
def AV.nsz : AV → Nat
  | .tv τ _ => τ.n
  | .cons a b => a.nsz + b.nsz
  | .nil => 0
  | _ => 1

/-- A value out of its cells. -/
def VofC (agg : Bool) (cs : List Value) (v : Value) : Prop := bif agg then v = .agg cs.toArray else cs = [v]

mutual
/-- The cells cs hold the value a. -/
def AVC (M : Mem) (μ : Map) : AV → List Value → Prop
  | .tv τ x, cs => TC M τ x cs
  | .ptr id p, cs => ∃ l b, μ id = some l ∧ l.blk = some b ∧ cs = [.pointer (some ⟨b, pathOff p, none⟩)] ∧ (∀ s ∈ p, s.okS) ∧ l.head p
  | .row id, cs => ∃ b len cap, μ id = some (.row b len cap) ∧ cs = [.slice (b.map fun b => ⟨b, 0, none⟩) len cap]
  | .fp τ x, cs => ∃ b o es, cs = [.pointer (some ⟨b, o, none⟩)] ∧ TC M τ x es ∧ ∀ j v, es[j]? = some v → M b (o + j) = some v
  | .sln b e xs, cs => TC M (.sl e) xs cs ∧ ∃ a l k, cs = [.slice a l k] ∧ a.isNone = b
  | .obj id, cs => ∃ b, μ id = some (.obj b) ∧ cs = [.pointer (some ⟨b, 0, none⟩)]
  | .mp id, cs => ∃ b, μ id = some (.obj b) ∧ cs = [.map (some b)]
  | .nilp, cs => cs = [.pointer none]
  | .nilf, cs => cs = [.nilFunc]
  | .cons a b, cs => ∃ c1 c2, cs = c1 ++ c2 ∧ AVC M μ a c1 ∧ AVC M μ b c2
  | .nil, cs => cs = []
  | .fn f fi caps, cs => ∃ us vs : List Value, cs = [.func (.func f) us.toArray vs.toArray] ∧ AVL M μ fi us ∧ AVL M μ caps vs
  | .tup _, _ => False
  | .junk, cs => ∃ v : Value, cs = [v] ∧ v.oneCell' = true
  | .dead, _ => False
/-- A chain's values, one by one. -/
def AVL (M : Mem) (μ : Map) : AV → List Value → Prop
  | .cons a b, vs => ∃ v r c, vs = v :: r ∧ AVC M μ a c ∧ VofC a.isAgg c v ∧ AVL M μ b r
  | .nil, vs => vs = []
  | _, _ => False
end

/-- The value v is a. -/
def AVV (M : Mem) (μ : Map) : AV → Value → Prop
  | .dead, _ => True
  | .tup l, v => ∃ vs, v = .tuple vs.toArray ∧ AVL M μ l vs
  | a, v => ∃ c, AVC M μ a c ∧ VofC a.isAgg c v

/-! ### Laws -/
theorem RowC.mono {α : Type} {R R' : α → List Value → Prop} (h : ∀ x c, R x c → R' x c) : ∀ {xs cs}, RowC R xs cs → RowC R' xs cs
  | [], _, e => e
  | _ :: _, _, ⟨c1, c2, e, h1, h2⟩ => ⟨c1, c2, e, h _ _ h1, RowC.mono h h2⟩

theorem TC.mono {M M' : Mem} (hM : M.le M') : ∀ {τ : Ty} {x : τ.T} {cs}, TC M τ x cs → TC M' τ x cs
  | .int _, _, _, h => h
  | .bool, _, _, h => h
  | .str, _, _, h => h
  | .sl _, _, _, ⟨a, cap, e, es, hr, hb, hc⟩ =>
    ⟨a, cap, e, es, RowC.mono (fun _ _ h => TC.mono hM h) hr, hb.imp id fun ⟨b, o, ha, h⟩ => ⟨b, o, ha, fun j v hv => hM _ _ _ (h j v hv)⟩, hc⟩
  | .arr _ _, _, _, ⟨hl, hr⟩ => ⟨hl, RowC.mono (fun _ _ h => TC.mono hM h) hr⟩
  | .pr _ _, _, _, ⟨c1, c2, e, h1, h2⟩ => ⟨c1, c2, e, TC.mono hM h1, TC.mono hM h2⟩
  | .nil, _, _, h => h

theorem RowC.length {α : Type} {R : α → List Value → Prop} {k : Nat} (h : ∀ x c, R x c → c.length = k) : ∀ {xs cs}, RowC R xs cs → cs.length = xs.length * k
  | [], _, e => by simp only [RowC] at e; subst e; simp
  | x :: xs, _, ⟨c1, c2, e, h1, h2⟩ => by
    subst e
    rw [List.length_append, h _ _ h1, RowC.length h h2, List.length_cons, Nat.succ_mul, Nat.add_comm]

theorem TC.length {M : Mem} : ∀ {τ : Ty} {x : τ.T} {cs}, TC M τ x cs → cs.length = τ.n
  | .int _, _, _, h => by simp only [TC] at h; subst h; rfl
  | .bool, _, _, h => by simp only [TC] at h; subst h; rfl
  | .str, _, _, h => by simp only [TC] at h; subst h; rfl
  | .sl _, _, _, ⟨a, cap, e, _⟩ => by subst e; rfl
  | .arr n e, _, _, ⟨hl, hr⟩ => by rw [RowC.length (fun _ _ h => TC.length h) hr, hl]; rfl
  | .pr a b, _, _, ⟨c1, c2, e, h1, h2⟩ => by subst e; rw [List.length_append, TC.length h1, TC.length h2]; rfl
  | .nil, _, _, h => by simp only [TC] at h; subst h; rfl

theorem oneC.append {a b : List Value} (ha : oneC a) (hb : oneC b) : oneC (a ++ b) := fun v hv => by
  rcases List.mem_append.1 hv with h | h
  · exact ha v h
  · exact hb v h
theorem oneC.single {v : Value} (h : v.oneCell' = true) : oneC [v] := fun u hu => by
  simp only [List.mem_singleton] at hu; subst hu; exact h
theorem oneC.nil : oneC [] := fun _ h => by cases h

theorem RowC.one {α : Type} {R : α → List Value → Prop} (h : ∀ x c, R x c → oneC c) : ∀ {xs cs}, RowC R xs cs → oneC cs
  | [], _, e => by simp only [RowC] at e; subst e; exact oneC.nil
  | _ :: _, _, ⟨_, _, e, h1, h2⟩ => by subst e; exact (h _ _ h1).append (RowC.one h h2)

theorem TC.one {M : Mem} : ∀ {τ : Ty} {x : τ.T} {cs}, TC M τ x cs → oneC cs
  | .int _, _, _, h => by simp only [TC] at h; subst h; exact oneC.single rfl
  | .bool, _, _, h => by simp only [TC] at h; subst h; exact oneC.single rfl
  | .str, _, _, h => by simp only [TC] at h; subst h; exact oneC.single rfl
  | .sl _, _, _, ⟨a, cap, e, _⟩ => by subst e; exact oneC.single rfl
  | .arr n e, _, _, ⟨_, hr⟩ => RowC.one (fun _ _ h => TC.one h) hr
  | .pr a b, _, _, ⟨_, _, e, h1, h2⟩ => by subst e; exact h1.one.append h2.one
  | .nil, _, _, h => by simp only [TC] at h; subst h; exact oneC.nil

mutual
theorem AVC.mono {M M' : Mem} {μ μ' : Map} (hM : M.le M') (hμ : μ.le μ') : ∀ {a : AV} {cs}, AVC M μ a cs → AVC M' μ' a cs
  | .tv _ _, _, h => by simp only [AVC] at h ⊢; exact TC.mono hM h
  | .ptr _ _, _, h => by
    simp only [AVC] at h ⊢
    obtain ⟨l, b, h1, h2⟩ := h
    exact ⟨l, b, hμ _ _ h1, h2⟩
  | .row _, _, h => by
    simp only [AVC] at h ⊢
    obtain ⟨b, len, cap, h1, h2⟩ := h
    exact ⟨b, len, cap, hμ _ _ h1, h2⟩
  | .fp _ _, _, h => by
    simp only [AVC] at h ⊢
    obtain ⟨b, o, es, h1, h2, h3⟩ := h
    exact ⟨b, o, es, h1, TC.mono hM h2, fun j v hv => hM _ _ _ (h3 j v hv)⟩
  | .obj _, _, h => by
    simp only [AVC] at h ⊢
    obtain ⟨b, h1, h2⟩ := h
    exact ⟨b, hμ _ _ h1, h2⟩
  | .mp _, _, h => by
    simp only [AVC] at h ⊢
    obtain ⟨b, h1, h2⟩ := h
    exact ⟨b, hμ _ _ h1, h2⟩
  | .sln _ _ _, _, h => by simp only [AVC] at h ⊢; exact ⟨TC.mono hM h.1, h.2⟩
  | .nilp, _, h => by simp only [AVC] at h ⊢; exact h
  | .nilf, _, h => by simp only [AVC] at h ⊢; exact h
  | .cons _ _, _, h => by
    simp only [AVC] at h ⊢
    obtain ⟨c1, c2, e, h1, h2⟩ := h
    exact ⟨c1, c2, e, AVC.mono hM hμ h1, AVC.mono hM hμ h2⟩
  | .nil, _, h => by simp only [AVC] at h ⊢; exact h
  | .fn _ _ _, _, h => by
    simp only [AVC] at h ⊢
    obtain ⟨us, vs, e, h0, h1⟩ := h
    exact ⟨us, vs, e, AVL.mono hM hμ h0, AVL.mono hM hμ h1⟩
  | .tup _, _, h => by simp only [AVC] at h
  | .junk, _, h => by simp only [AVC] at h ⊢; exact h
  | .dead, _, h => by simp only [AVC] at h
theorem AVL.mono {M M' : Mem} {μ μ' : Map} (hM : M.le M') (hμ : μ.le μ') : ∀ {a : AV} {vs}, AVL M μ a vs → AVL M' μ' a vs
  | .cons _ _, _, h => by
    simp only [AVL] at h ⊢
    obtain ⟨v, r, c, e, h1, h2, h3⟩ := h
    exact ⟨v, r, c, e, AVC.mono hM hμ h1, h2, AVL.mono hM hμ h3⟩
  | .nil, _, h => by simp only [AVL] at h ⊢; exact h
  | .tv _ _, _, h | .ptr _ _, _, h | .row _, _, h | .fp _ _, _, h | .obj _, _, h | .mp _, _, h | .nilp, _, h | .nilf, _, h | .fn _ _ _, _, h | .tup _, _, h | .junk, _, h | .dead, _, h | .sln _ _ _, _, h => by simp only [AVL] at h
end

theorem AVV.mono {M M' : Mem} {μ μ' : Map} (hM : M.le M') (hμ : μ.le μ') {a : AV} {v : Value} (h : AVV M μ a v) : AVV M' μ' a v := by
  cases a with
  | dead => trivial
  | tup l =>
    simp only [AVV] at h ⊢
    obtain ⟨vs, e, h⟩ := h
    exact ⟨vs, e, h.mono hM hμ⟩
  | _ =>
    simp only [AVV] at h ⊢
    obtain ⟨c, h1, h2⟩ := h
    exact ⟨c, h1.mono hM hμ, h2⟩

theorem AVC.length {M : Mem} {μ : Map} : ∀ {a : AV} {cs}, AVC M μ a cs → cs.length = a.nsz
  | .tv _ _, _, h => by simp only [AVC] at h; exact h.length
  | .ptr _ _, _, h => by
    simp only [AVC] at h
    obtain ⟨l, b, _, _, e, _⟩ := h
    subst e; rfl
  | .row _, _, h => by
    simp only [AVC] at h
    obtain ⟨_, _, _, _, e⟩ := h
    subst e; rfl
  | .fp _ _, _, h => by
    simp only [AVC] at h
    obtain ⟨_, _, _, e, _⟩ := h
    subst e; rfl
  | .obj _, _, h => by
    simp only [AVC] at h
    obtain ⟨_, _, e⟩ := h
    subst e; rfl
  | .mp _, _, h => by
    simp only [AVC] at h
    obtain ⟨_, _, e⟩ := h
    subst e; rfl
  | .sln _ _ _, _, h => by
    simp only [AVC] at h
    obtain ⟨_, _, _, _, e, _⟩ := h
    subst e; rfl
  | .nilp, _, h => by simp only [AVC] at h; subst h; rfl
  | .nilf, _, h => by simp only [AVC] at h; subst h; rfl
  | .cons _ _, _, h => by
    simp only [AVC] at h
    obtain ⟨c1, c2, e, h1, h2⟩ := h
    subst e
    rw [List.length_append, h1.length, h2.length]; rfl
  | .nil, _, h => by simp only [AVC] at h; subst h; rfl
  | .fn _ _ _, _, h => by
    simp only [AVC] at h
    obtain ⟨us, vs, e, _⟩ := h
    subst e; rfl
  | .tup _, _, h => by simp only [AVC] at h
  | .junk, _, h => by
    simp only [AVC] at h
    obtain ⟨v, e, _⟩ := h
    subst e; rfl
  | .dead, _, h => by simp only [AVC] at h

theorem AVC.one {M : Mem} {μ : Map} : ∀ {a : AV} {cs}, AVC M μ a cs → oneC cs
  | .tv _ _, _, h => by simp only [AVC] at h; exact h.one
  | .ptr _ _, _, h => by
    simp only [AVC] at h
    obtain ⟨l, b, _, _, e, _⟩ := h
    subst e; exact oneC.single rfl
  | .row _, _, h => by
    simp only [AVC] at h
    obtain ⟨_, _, _, _, e⟩ := h
    subst e; exact oneC.single rfl
  | .fp _ _, _, h => by
    simp only [AVC] at h
    obtain ⟨_, _, _, e, _⟩ := h
    subst e; exact oneC.single rfl
  | .obj _, _, h => by
    simp only [AVC] at h
    obtain ⟨_, _, e⟩ := h
    subst e; exact oneC.single rfl
  | .mp _, _, h => by
    simp only [AVC] at h
    obtain ⟨_, _, e⟩ := h
    subst e; exact oneC.single rfl
  | .sln _ _ _, _, h => by
    simp only [AVC] at h
    obtain ⟨_, _, _, _, e, _⟩ := h
    subst e; exact oneC.single rfl
  | .nilp, _, h => by simp only [AVC] at h; subst h; exact oneC.single rfl
  | .nilf, _, h => by simp only [AVC] at h; subst h; exact oneC.single rfl
  | .cons _ _, _, h => by
    simp only [AVC] at h
    obtain ⟨c1, c2, e, h1, h2⟩ := h
    subst e
    exact h1.one.append h2.one
  | .nil, _, h => by simp only [AVC] at h; subst h; exact oneC.nil
  | .fn _ _ _, _, h => by
    simp only [AVC] at h
    obtain ⟨us, vs, e, _⟩ := h
    subst e; exact oneC.single rfl
  | .tup _, _, h => by simp only [AVC] at h
  | .junk, _, h => by
    simp only [AVC] at h
    obtain ⟨v, e, h⟩ := h
    subst e; exact oneC.single h
  | .dead, _, h => by simp only [AVC] at h

/-- The cells of a value that is one, and whether it is an aggregate. -/
theorem VofC.cells {agg : Bool} {cs : List Value} {v : Value} (h : VofC agg cs v) (h1 : oneC cs) : v.cells.toList = cs := by
  cases agg with
  | true => simp only [VofC, cond_true] at h; subst h; simp [Value.cells]
  | false =>
    simp only [VofC, cond_false] at h; subst h
    have := h1 v (by simp)
    cases v <;> simp_all [Value.cells, Value.oneCell']
end Go.Av

/-
  Parts of values: reading and writing along a path; what a value's cells are under it.
-/
namespace Go.Av

/-- A typed value as another type's, where the types are one. -/
def castK {R : Type} {σ : Ty} (τ : Ty) (x : σ.T) (K : τ.T → Option R) : Option R := if h : σ = τ then K (h ▸ x) else none

/-- A pair, typed where both parts are. -/
def joinPr (a b : Ty) (u v : AV) : AV :=
  match u, v with
  | .tv σ x, .tv ρ y => if h : σ = a then (if h' : ρ = b then .tv (.pr a b) (h ▸ x, h' ▸ y) else .cons u v) else .cons u v
  | _, _ => .cons u v

def fldGet : Nat → Nat → AV → Option AV
  | 0, off, .tv (.pr a _) x => bif Nat.beq off 0 then some (.tv a x.1) else none
  | i + 1, off, .tv (.pr a b) x => bif Nat.ble a.n off then fldGet i (off - a.n) (.tv b x.2) else none
  | 0, off, .cons a _ => bif Nat.beq off 0 then some a else none
  | i + 1, off, .cons a b => bif Nat.ble a.nsz off then fldGet i (off - a.nsz) b else none
  | _, _, _ => none

def fldSet : Nat → Nat → AV → AV → Option AV
  | 0, off, .tv (.pr a b) x, v => bif Nat.beq off 0 && Nat.beq v.nsz a.n then some (joinPr a b v (.tv b x.2)) else none
  | i + 1, off, .tv (.pr a b) x, v => bif Nat.ble a.n off then
      (match fldSet i (off - a.n) (.tv b x.2) v with | some r => some (joinPr a b (.tv a x.1) r) | none => none) else none
  | 0, off, .cons a b, v => bif Nat.beq off 0 && Nat.beq v.nsz a.nsz then some (.cons v b) else none
  | i + 1, off, .cons a b, v => bif Nat.ble a.nsz off then
      (match fldSet i (off - a.nsz) b v with | some r => some (.cons a r) | none => none) else none
  | _, _, _, _ => none

def chainGet : Nat → Nat → AV → Option AV
  | 0, sz, .cons a _ => bif Nat.beq a.nsz sz then some a else none
  | i + 1, sz, .cons a b => bif Nat.beq a.nsz sz then chainGet i sz b else none
  | _, _, _ => none

def chainSet : Nat → Nat → AV → AV → Option AV
  | 0, sz, .cons a b, v => bif Nat.beq a.nsz sz && Nat.beq v.nsz sz then some (.cons v b) else none
  | i + 1, sz, .cons a b, v => bif Nat.beq a.nsz sz then (match chainSet i sz b v with | some r => some (.cons a r) | none => none) else none
  | _, _, _, _ => none

def stepGet (s : Step) (a : AV) : Option AV :=
  match s with
  | .fld i off => fldGet i off a
  | .idx i n sz =>
    match a with
    | .tv (.arr m e) xs => bif Nat.beq m n && Nat.beq e.n sz then some (.tv e (xs.getD i e.zero)) else none
    | .cons u v => chainGet i sz (.cons u v)
    | _ => none

def stepSet (s : Step) (a v : AV) : Option AV :=
  match s with
  | .fld i off => fldSet i off a v
  | .idx i n sz =>
    match a, v with
    | .tv (.arr m e) xs, .tv e' y => bif Nat.beq m n && Nat.beq e.n sz then (if h : e' = e then some (.tv (.arr m e) (xs.set i (h ▸ y))) else none) else none
    | .cons u w, v => chainSet i sz (.cons u w) v
    | _, _ => none

def pathGet : List Step → AV → Option AV
  | [], a => some a
  | s :: r, a => match stepGet s a with | some b => pathGet r b | none => none

def pathSet : List Step → AV → AV → Option AV
  | [], a, v => bif Nat.beq v.nsz a.nsz then some v else none
  | s :: r, a, v => match stepGet s a with
    | some b => (match pathSet r b v with | some b' => stepSet s a b' | none => none)
    | none => none

/-- What lies where: a's cells hold v's at offset 'off', and with other cells there they hold a' . -/
structure Focus (M : Mem) (μ : Map) (cs : List Value) (off : Nat) (v : AV) (set : AV → Option AV) : Prop where
  split : ∃ pre mid post, cs = pre ++ mid ++ post ∧ pre.length = off ∧ AVC M μ v mid ∧
    ∀ v' mid', AVC M μ v' mid' → v'.nsz = v.nsz → ∀ a', set v' = some a' → AVC M μ a' (pre ++ mid' ++ post)

theorem joinPr_AVC {M : Mem} {μ : Map} {a b : Ty} {u v : AV} {c1 c2 : List Value} (h1 : AVC M μ u c1) (h2 : AVC M μ v c2) : AVC M μ (joinPr a b u v) (c1 ++ c2) := by
  have hc : AVC M μ (.cons u v) (c1 ++ c2) := by simp only [AVC]; exact ⟨c1, c2, rfl, h1, h2⟩
  unfold joinPr
  split
  · split
    · rename_i σ x ρ y h
      subst h
      split
      · rename_i h'
        subst h'
        simp only [AVC, TC] at h1 h2 ⊢
        exact ⟨c1, c2, rfl, h1, h2⟩
      · exact hc
    · exact hc
  · exact hc

theorem fldGet_focus {M : Mem} {μ : Map} : ∀ (i off : Nat) (a v : AV) (cs : List Value), fldGet i off a = some v → AVC M μ a cs → Focus M μ cs off v (fldSet i off a)
  | 0, off, .tv (.pr a b) x, v, cs, h, hc => by
    simp only [fldGet] at h
    cases he : Nat.beq off 0 with
    | false => simp [he] at h
    | true =>
      have h0 : off = 0 := Nat.eq_of_beq_eq_true he
      subst h0
      simp at h
      subst h
      simp only [AVC, TC] at hc
      obtain ⟨c1, c2, e, h1, h2⟩ := hc
      refine ⟨⟨[], c1, c2, by simpa using e, rfl, by simpa only [AVC] using h1, ?_⟩⟩
      intro v' mid' hv hn a' ha
      simp only [fldSet] at ha
      simp only [AV.nsz] at hn
      simp [hn] at ha
      subst ha
      exact joinPr_AVC hv (by simpa only [AVC] using h2)
  | i + 1, off, .tv (.pr a b) x, v, cs, h, hc => by
    simp only [fldGet] at h
    cases he : Nat.ble a.n off with
    | false => simp [he] at h
    | true =>
      have h0 : a.n ≤ off := Nat.le_of_ble_eq_true he
      simp only [he, cond_true] at h
      simp only [AVC, TC] at hc
      obtain ⟨c1, c2, e, h1, h2⟩ := hc
      obtain ⟨pre, mid, post, e2, hl, hm, hset⟩ := (fldGet_focus (M := M) (μ := μ) i (off - a.n) (.tv b x.2) v c2 h (by simpa only [AVC] using h2)).split
      refine ⟨⟨c1 ++ pre, mid, post, by rw [e, e2]; simp, by rw [List.length_append, hl, h1.length]; omega, hm, ?_⟩⟩
      intro v' mid' hv hn a' ha
      simp only [fldSet, he, cond_true] at ha
      split at ha
      · rename_i r hr
        simp at ha
        subst ha
        have := joinPr_AVC (a := a) (b := b) (u := .tv a x.1) (by simpa only [AVC] using h1) (hset v' mid' hv hn r hr)
        simpa [List.append_assoc] using this
      · simp at ha
  | 0, off, .cons a b, v, cs, h, hc => by
    simp only [fldGet] at h
    cases he : Nat.beq off 0 with
    | false => simp [he] at h
    | true =>
      have h0 : off = 0 := Nat.eq_of_beq_eq_true he
      subst h0
      simp at h
      subst h
      simp only [AVC] at hc
      obtain ⟨c1, c2, e, h1, h2⟩ := hc
      refine ⟨⟨[], c1, c2, by simpa using e, rfl, h1, ?_⟩⟩
      intro v' mid' hv hn a' ha
      simp only [fldSet, hn] at ha
      simp at ha
      subst ha
      simp only [AVC]
      exact ⟨mid', c2, by simp, hv, h2⟩
  | i + 1, off, .cons a b, v, cs, h, hc => by
    simp only [fldGet] at h
    cases he : Nat.ble a.nsz off with
    | false => simp [he] at h
    | true =>
      have h0 : a.nsz ≤ off := Nat.le_of_ble_eq_true he
      simp only [he, cond_true] at h
      simp only [AVC] at hc
      obtain ⟨c1, c2, e, h1, h2⟩ := hc
      obtain ⟨pre, mid, post, e2, hl, hm, hset⟩ := (fldGet_focus (M := M) (μ := μ) i (off - a.nsz) b v c2 h h2).split
      refine ⟨⟨c1 ++ pre, mid, post, by rw [e, e2]; simp, by rw [List.length_append, hl, h1.length]; omega, hm, ?_⟩⟩
      intro v' mid' hv hn a' ha
      simp only [fldSet, he, cond_true] at ha
      split at ha
      · rename_i r hr
        simp at ha
        subst ha
        simp only [AVC]
        exact ⟨c1, pre ++ mid' ++ post, by simp, h1, hset v' mid' hv hn r hr⟩
      · simp at ha
  | 0, _, .tv (.int _) _, _, _, h, _ | 0, _, .tv .bool _, _, _, h, _ | 0, _, .tv .str _, _, _, h, _ | 0, _, .tv (.sl _) _, _, _, h, _ | 0, _, .tv (.arr _ _) _, _, _, h, _ | 0, _, .tv .nil _, _, _, h, _
  | _ + 1, _, .tv (.int _) _, _, _, h, _ | _ + 1, _, .tv .bool _, _, _, h, _ | _ + 1, _, .tv .str _, _, _, h, _ | _ + 1, _, .tv (.sl _) _, _, _, h, _ | _ + 1, _, .tv (.arr _ _) _, _, _, h, _ | _ + 1, _, .tv .nil _, _, _, h, _
  | 0, _, .ptr _ _, _, _, h, _ | 0, _, .row _, _, _, h, _ | 0, _, .fp _ _, _, _, h, _ | 0, _, .obj _, _, _, h, _ | 0, _, .mp _, _, _, h, _ | 0, _, .sln _ _ _, _, _, h, _ | 0, _, .nilp, _, _, h, _ | 0, _, .nilf, _, _, h, _ | 0, _, .nil, _, _, h, _ | 0, _, .fn _ _ _, _, _, h, _ | 0, _, .tup _, _, _, h, _ | 0, _, .junk, _, _, h, _ | 0, _, .dead, _, _, h, _
  | _ + 1, _, .ptr _ _, _, _, h, _ | _ + 1, _, .row _, _, _, h, _ | _ + 1, _, .fp _ _, _, _, h, _ | _ + 1, _, .obj _, _, _, h, _ | _ + 1, _, .mp _, _, _, h, _ | _ + 1, _, .sln _ _ _, _, _, h, _ | _ + 1, _, .nilp, _, _, h, _ | _ + 1, _, .nilf, _, _, h, _ | _ + 1, _, .nil, _, _, h, _ | _ + 1, _, .fn _ _ _, _, _, h, _ | _ + 1, _, .tup _, _, _, h, _ | _ + 1, _, .junk, _, _, h, _ | _ + 1, _, .dead, _, _, h, _ => by
    simp [fldGet] at h

theorem chainGet_focus {M : Mem} {μ : Map} : ∀ (i sz : Nat) (a v : AV) (cs : List Value), chainGet i sz a = some v → AVC M μ a cs → v.nsz = sz ∧ Focus M μ cs (i * sz) v (chainSet i sz a)
  | 0, sz, .cons a b, v, cs, h, hc => by
    simp only [chainGet] at h
    cases he : Nat.beq a.nsz sz with
    | false => simp [he] at h
    | true =>
      have h0 : a.nsz = sz := Nat.eq_of_beq_eq_true he
      simp [he] at h
      subst h
      simp only [AVC] at hc
      obtain ⟨c1, c2, e, h1, h2⟩ := hc
      refine ⟨h0, ⟨⟨[], c1, c2, by simpa using e, by simp, h1, ?_⟩⟩⟩
      intro v' mid' hv hn a' ha
      simp only [chainSet, hn, he] at ha
      simp at ha
      subst ha
      simp only [AVC]
      exact ⟨mid', c2, by simp, hv, h2⟩
  | i + 1, sz, .cons a b, v, cs, h, hc => by
    simp only [chainGet] at h
    cases he : Nat.beq a.nsz sz with
    | false => simp [he] at h
    | true =>
      have h0 : a.nsz = sz := Nat.eq_of_beq_eq_true he
      simp only [he, cond_true] at h
      simp only [AVC] at hc
      obtain ⟨c1, c2, e, h1, h2⟩ := hc
      obtain ⟨hs, ⟨pre, mid, post, e2, hl, hm, hset⟩⟩ := chainGet_focus (M := M) (μ := μ) i sz b v c2 h h2
      refine ⟨hs, ⟨⟨c1 ++ pre, mid, post, by rw [e, e2]; simp, by rw [List.length_append, hl, h1.length, h0, Nat.succ_mul, Nat.add_comm], hm, ?_⟩⟩⟩
      intro v' mid' hv hn a' ha
      simp only [chainSet, he, cond_true] at ha
      split at ha
      · rename_i r hr
        simp at ha
        subst ha
        simp only [AVC]
        exact ⟨c1, pre ++ mid' ++ post, by simp, h1, hset v' mid' hv hn r hr⟩
      · simp at ha
  | 0, _, .tv _ _, _, _, h, _ | 0, _, .ptr _ _, _, _, h, _ | 0, _, .row _, _, _, h, _ | 0, _, .fp _ _, _, _, h, _ | 0, _, .obj _, _, _, h, _ | 0, _, .mp _, _, _, h, _ | 0, _, .sln _ _ _, _, _, h, _ | 0, _, .nilp, _, _, h, _ | 0, _, .nilf, _, _, h, _ | 0, _, .nil, _, _, h, _ | 0, _, .fn _ _ _, _, _, h, _ | 0, _, .tup _, _, _, h, _ | 0, _, .junk, _, _, h, _ | 0, _, .dead, _, _, h, _
  | _ + 1, _, .tv _ _, _, _, h, _ | _ + 1, _, .ptr _ _, _, _, h, _ | _ + 1, _, .row _, _, _, h, _ | _ + 1, _, .fp _ _, _, _, h, _ | _ + 1, _, .obj _, _, _, h, _ | _ + 1, _, .mp _, _, _, h, _ | _ + 1, _, .sln _ _ _, _, _, h, _ | _ + 1, _, .nilp, _, _, h, _ | _ + 1, _, .nilf, _, _, h, _ | _ + 1, _, .nil, _, _, h, _ | _ + 1, _, .fn _ _ _, _, _, h, _ | _ + 1, _, .tup _, _, _, h, _ | _ + 1, _, .junk, _, _, h, _ | _ + 1, _, .dead, _, _, h, _ => by
    simp [chainGet] at h

theorem RowC.focus {α : Type} {R : α → List Value → Prop} {sz : Nat} (hR : ∀ x c, R x c → c.length = sz) (z : α) : ∀ (xs : List α) (cs : List Value) (i : Nat), RowC R xs cs → i < xs.length →
    ∃ pre mid post, cs = pre ++ mid ++ post ∧ pre.length = i * sz ∧ R (xs.getD i z) mid ∧ ∀ y mid', R y mid' → RowC R (xs.set i y) (pre ++ mid' ++ post)
  | [], _, _, _, h => by simp at h
  | x :: xs, cs, 0, ⟨c1, c2, e, h1, h2⟩, _ => ⟨[], c1, c2, by simpa using e, by simp, by simpa using h1, fun y mid' hy => by
      simp only [List.set_cons_zero, List.nil_append]; exact ⟨mid', c2, rfl, hy, h2⟩⟩
  | x :: xs, cs, i + 1, ⟨c1, c2, e, h1, h2⟩, h => by
    obtain ⟨pre, mid, post, e2, hl, hm, hset⟩ := RowC.focus hR z xs c2 i h2 (by simpa using h)
    refine ⟨c1 ++ pre, mid, post, by rw [e, e2]; simp, by rw [List.length_append, hl, hR _ _ h1, Nat.succ_mul, Nat.add_comm], by simpa using hm, fun y mid' hy => ?_⟩
    simp only [List.set_cons_succ]
    exact ⟨c1, pre ++ mid' ++ post, by simp, h1, hset y mid' hy⟩

theorem stepGet_focus {M : Mem} {μ : Map} {s : Step} (hs : s.okS) {a v : AV} {cs : List Value} (h : stepGet s a = some v) (hc : AVC M μ a cs) : Focus M μ cs s.off v (stepSet s a) := by
  cases s with
  | fld i off => exact fldGet_focus i off a v cs h hc
  | idx i n sz =>
    simp only [stepGet] at h
    split at h
    · rename_i m e xs
      cases he : (Nat.beq m n && Nat.beq e.n sz) with
      | false => simp [he] at h
      | true =>
        have he' := he
        simp only [Bool.and_eq_true] at he
        have h1 : m = n := Nat.eq_of_beq_eq_true he.1
        have h2 : e.n = sz := Nat.eq_of_beq_eq_true he.2
        subst h1; subst h2
        rw [he'] at h
        simp only [cond_true, Option.some.injEq] at h
        subst h
        simp only [AVC, TC] at hc
        obtain ⟨hl, hr⟩ := hc
        obtain ⟨pre, mid, post, e2, hp, hm, hset⟩ := RowC.focus (fun _ _ h => TC.length h) e.zero xs cs i hr (by rw [hl]; exact hs)
        refine ⟨⟨pre, mid, post, e2, hp, by simpa only [AVC] using hm, ?_⟩⟩
        intro v' mid' hv hn a' ha
        simp only [stepSet] at ha
        split at ha
        · rename_i m1 e1 xs1 e' y hq
          injection hq with hq1 hq2
          injection hq1 with hq3 hq4
          subst hq3; subst hq4
          have hq2 := eq_of_heq hq2
          subst hq2
          simp only [he', cond_true] at ha
          split at ha
          · rename_i h'
            subst h'
            simp at ha
            subst ha
            simp only [AVC, TC] at hv ⊢
            exact ⟨by simpa using hl, hset y mid' hv⟩
          · simp at ha
        · rename_i hq; cases hq
        · simp at ha
    · obtain ⟨_, hf⟩ := chainGet_focus i sz _ v cs h hc
      obtain ⟨pre, mid, post, e2, hp, hm, hset⟩ := hf.split
      refine ⟨⟨pre, mid, post, e2, hp, hm, ?_⟩⟩
      intro v' mid' hv hn a' ha
      exact hset v' mid' hv hn a' (by simpa only [stepSet] using ha)
    · simp at h

theorem pathGet_focus {M : Mem} {μ : Map} : ∀ (p : List Step) (a v : AV) (cs : List Value), (∀ s ∈ p, s.okS) → pathGet p a = some v → AVC M μ a cs → Focus M μ cs (pathOff p) v (pathSet p a)
  | [], a, v, cs, _, h, hc => by
    simp only [pathGet, Option.some.injEq] at h
    subst h
    refine ⟨⟨[], cs, [], by simp, rfl, hc, ?_⟩⟩
    intro v' mid' hv hn a' ha
    simp [pathSet, hn] at ha
    subst ha
    simpa using hv
  | s :: r, a, v, cs, hs, h, hc => by
    simp only [pathGet] at h
    split at h
    · rename_i b hb
      obtain ⟨pre, mid, post, e, hl, hm, hset⟩ := (stepGet_focus (hs s (by simp)) hb hc).split
      obtain ⟨pre2, mid2, post2, e2, hl2, hm2, hset2⟩ := (pathGet_focus r b v mid (fun t ht => hs t (by simp [ht])) h hm).split
      refine ⟨⟨pre ++ pre2, mid2, post2 ++ post, by rw [e, e2]; simp, by simp [pathOff, hl, hl2], hm2, ?_⟩⟩
      intro v' mid' hv hn a' ha
      simp only [pathSet, hb] at ha
      split at ha
      · rename_i b' hb'
        have h3 := hset2 v' mid' hv hn b' hb'
        have hn' : b'.nsz = b.nsz := by
          have l1 := h3.length
          have l2 := hm.length
          rw [e2] at l2
          have l3 := hv.length
          have l4 := hm2.length
          simp only [List.length_append] at l1 l2
          omega
        have := hset b' _ h3 hn' a' ha
        simpa [List.append_assoc] using this
      · simp at ha
    · simp at h

end Go.Av

/-
  The abstract memory beside the machine's: what holds between them, and how each step keeps it.
-/
namespace Go.Av
open Go.RowKit (Below)

def alGet {α : Type} : List (Nat × α) → Nat → Option α
  | [], _ => none
  | (k, v) :: r, i => bif Nat.beq k i then some v else alGet r i

abbrev Hp := List (Nat × Option Blk)

def hget (H : Hp) (i : Nat) : Option Blk :=
  match alGet H i with
  | some b => b
  | none => none

theorem alGet_cons {α : Type} (k : Nat) (v : α) (r : List (Nat × α)) (i : Nat) : alGet ((k, v) :: r) i = if k = i then some v else alGet r i := by
  simp only [alGet]
  by_cases h : k = i
  · subst h; simp
  · rw [if_neg h]
    have : Nat.beq k i = false := by
      cases hb : Nat.beq k i with
      | false => rfl
      | true => exact absurd (Nat.eq_of_beq_eq_true hb) h
    rw [this]; rfl

theorem hget_cons (k : Nat) (x : Option Blk) (H : Hp) (i : Nat) : hget ((k, x) :: H) i = if k = i then x else hget H i := by
  simp only [hget, alGet_cons]
  by_cases h : k = i
  · rw [if_pos h, if_pos h]
  · rw [if_neg h, if_neg h]

theorem hget_append (H1 H2 : Hp) (i : Nat) (h : alGet H1 i = none) : hget (H1 ++ H2) i = hget H2 i := by
  induction H1 with
  | nil => rfl
  | cons p r ih =>
    obtain ⟨k, v⟩ := p
    rw [alGet_cons] at h
    split at h
    · cases h
    · rename_i hk
      rw [List.cons_append, hget_cons, if_neg hk]
      exact ih h

/-- A block of the abstract memory, at its place. -/
def BR (M : Mem) (μ : Map) (w : World) : Loc → Blk → Prop
  | .box b, .box v => ∃ cs T, w.heap[b]? = some (.cells cs T (0, 0)) ∧ AVC M μ v cs.toList
  | .row none len cap, .row _ xs _ => xs = [] ∧ len = 0 ∧ cap = 0
  | .row (some b) len cap, .row e xs _ => ∃ cs T, w.heap[b]? = some (.cells cs T (0, 0)) ∧ xs.length = len ∧ len ≤ cap ∧ cap ≤ maxLen ∧ cs.size = cap * e.n ∧ oneC cs.toList ∧ RowC (TC M e) xs (cs.toList.take (len * e.n))
  | .obj b, .iter s pos => w.heap[b]? = some (.stringIter ⟨s.toArray⟩ pos)
  | .obj b, .mp κ l => w.heap[b]? = some (.map (mEnts κ 0 l).toArray l.length)
  | _, _ => False

theorem BR.mono {M M' : Mem} {μ μ' : Map} {w w' : World} (hM : M.le M') (hμ : μ.le μ') {l : Loc} {k : Blk} (hw : ∀ b, l.blk = some b → w'.heap[b]? = w.heap[b]?) (h : BR M μ w l k) : BR M' μ' w' l k := by
  cases l with
  | box b =>
    cases k with
    | box v =>
      obtain ⟨cs, T, h1, h2⟩ := h
      exact ⟨cs, T, by rw [hw b rfl]; exact h1, h2.mono hM hμ⟩
    | _ => exact h.elim
  | row b len cap =>
    cases b with
    | none =>
      cases k with
      | row e xs fz => exact h
      | _ => exact h.elim
    | some b =>
      cases k with
      | row e xs fz =>
        obtain ⟨cs, T, h1, h2, h3, h4, h5, h6, h7⟩ := h
        exact ⟨cs, T, by rw [hw b rfl]; exact h1, h2, h3, h4, h5, h6, h7.mono fun _ _ h => TC.mono hM h⟩
      | _ => exact h.elim
  | obj b =>
    cases k with
    | iter s pos =>
      simp only [BR] at h ⊢
      rw [hw b rfl]; exact h
    | mp κ l =>
      simp only [BR] at h ⊢
      rw [hw b rfl]; exact h
    | _ => exact h.elim

theorem BR.lt {M : Mem} {μ : Map} {w : World} {l : Loc} {k : Blk} (h : BR M μ w l k) {b : Nat} (hb : l.blk = some b) : b < w.heap.size := by
  cases l with
  | box b' =>
    simp only [Loc.blk, Option.some.injEq] at hb
    subst hb
    cases k with
    | box v =>
      obtain ⟨cs, T, h1, _⟩ := h
      exact (Array.getElem?_eq_some_iff.1 h1).1
    | _ => exact h.elim
  | row b' len cap =>
    simp only [Loc.blk] at hb
    subst hb
    cases k with
    | row e xs fz =>
      obtain ⟨cs, T, h1, _⟩ := h
      exact (Array.getElem?_eq_some_iff.1 h1).1
    | _ => exact h.elim
  | obj b' =>
    simp only [Loc.blk, Option.some.injEq] at hb
    subst hb
    cases k with
    | iter s pos => exact (Array.getElem?_eq_some_iff.1 h).1
    | mp κ l => exact (Array.getElem?_eq_some_iff.1 h).1
    | _ => exact h.elim

/-- Where the run stands that is spoken of: the world at its begin, the blocks that it may write, the memory that was still then. -/
structure Ctx where
  w0 : World
  own : Nat → Prop
  M0 : Mem

def Ctx.may (c : Ctx) (b : Nat) : Prop := c.own b ∨ c.w0.heap.size ≤ b

structure Hold (c : Ctx) (M : Mem) (μ : Map) (H : Hp) (w : World) : Prop where
  mem : ∀ b o v, M b o = some v → w.cell? ⟨b, o, none⟩ = some v
  blks : ∀ i k, hget H i = some k → ∃ l, μ i = some l ∧ BR M μ w l k
  inj : ∀ i j k k' l l' b, hget H i = some k → hget H j = some k' → μ i = some l → μ j = some l' → l.blk = some b → l'.blk = some b → i = j
  exc : ∀ i k l b o v, hget H i = some k → μ i = some l → l.blk = some b → M b o = some v → ∃ e xs, k = .row e xs true ∧ o < xs.length * e.n
  own : ∀ i k l b, hget H i = some k → μ i = some l → l.blk = some b → c.may b
  mle : c.M0.le M
  mown : ∀ b o v, M b o = some v → c.M0 b o = some v ∨ c.may b
  os : w.os = c.w0.os
  tape : w.tape = c.w0.tape
  output : w.output = c.w0.output
  size : c.w0.heap.size ≤ w.heap.size
  frame : ∀ b, b < c.w0.heap.size → ¬ c.own b → w.heap[b]? = c.w0.heap[b]?
  fz : ∀ a, w.frozen? a = c.w0.frozen? a

theorem cell_heap {w w' : World} {b o : Nat} (h : w'.heap[b]? = w.heap[b]?) : w'.cell? ⟨b, o, none⟩ = w.cell? ⟨b, o, none⟩ := by
  simp [World.cell?, h]

/-- A world with the same blocks below the old size, and more. -/
structure Grows (w w' : World) : Prop where
  os : w'.os = w.os
  tape : w'.tape = w.tape
  output : w'.output = w.output
  size : w.heap.size ≤ w'.heap.size
  old : ∀ b, b < w.heap.size → w'.heap[b]? = w.heap[b]?
  fz : ∀ a, w'.frozen? a = w.frozen? a

theorem Grows.refl (w : World) : Grows w w := ⟨rfl, rfl, rfl, Nat.le_refl _, fun _ _ => rfl, fun _ => rfl⟩
theorem Grows.drew {w w' : World} (h : Grows w w') : Grows w w'.drew := ⟨h.os, h.tape, h.output, h.size, h.old, h.fz⟩
theorem Grows.alloc {w w' : World} (h : Grows w w') (o : Obj) (ho : ∀ cs T fr, o = .cells cs T fr → fr = (0, 0)) : Grows w (w'.alloc o) :=
  ⟨h.os, h.tape, h.output, by simp; have := h.size; omega, fun b hb => by
    rw [← h.old b hb]
    show (w'.heap.push o)[b]? = _
    rw [Array.getElem?_push, if_neg (by have := h.size; omega)], fun a => by
    rw [← h.fz a]
    unfold World.frozen?
    show (match (w'.heap.push o)[a.block]? with
      | some (.cells _ _ (lo, hi)) => decide (lo ≤ a.off) && decide (a.off < hi)
      | _ => false) = _
    rw [Array.getElem?_push]
    by_cases e : a.block = w'.heap.size
    · rw [if_pos e, e]
      rw [Array.getElem?_eq_none (Nat.le_refl _)]
      cases o with
      | cells cs T fr => rw [ho cs T fr rfl]; simp
      | _ => rfl
    · rw [if_neg e]; rfl⟩

theorem Hold.grow {c : Ctx} {M : Mem} {μ : Map} {H : Hp} {w w' : World} (h : Hold c M μ H w) (hg : Grows w w') : Hold c M μ H w' where
  mem b o v hv := by
    have h1 := h.mem b o v hv
    rw [cell_heap (hg.old b (World.block_lt_of_cell? w _ h1))]
    exact h1
  blks i k hk := by
    obtain ⟨l, hl, hb⟩ := h.blks i k hk
    exact ⟨l, hl, hb.mono (Mem.le.refl _) (Map.le.refl _) fun b hb' => hg.old b (hb.lt hb')⟩
  inj := h.inj
  exc := h.exc
  own := h.own
  mle := h.mle
  mown := h.mown
  os := hg.os.trans h.os
  tape := hg.tape.trans h.tape
  output := hg.output.trans h.output
  size := Nat.le_trans h.size hg.size
  frame b hb hn := (hg.old b (Nat.lt_of_lt_of_le hb h.size)).trans (h.frame b hb hn)
  fz a := (hg.fz a).trans (h.fz a)

/-- What is known of the blocks of the map alone: it may say more of other numbers. -/
theorem Hold.map {c : Ctx} {M : Mem} {μ μ' : Map} {H : Hp} {w : World} (h : Hold c M μ H w) (hμ : μ.le μ') : Hold c M μ' H w where
  mem := h.mem
  blks i k hk := by
    obtain ⟨l, hl, hb⟩ := h.blks i k hk
    exact ⟨l, hμ _ _ hl, hb.mono (Mem.le.refl _) hμ fun _ _ => rfl⟩
  inj i j k k' l l' b hi hj hl hl' hb hb' := by
    obtain ⟨l1, h1, _⟩ := h.blks i k hi
    obtain ⟨l2, h2, _⟩ := h.blks j k' hj
    obtain rfl : l1 = l := Option.some.inj ((hμ _ _ h1).symm.trans hl)
    obtain rfl : l2 = l' := Option.some.inj ((hμ _ _ h2).symm.trans hl')
    exact h.inj i j k k' _ _ b hi hj h1 h2 hb hb'
  exc i k l b o v hi hl hb hv := by
    obtain ⟨l1, h1, _⟩ := h.blks i k hi
    obtain rfl : l1 = l := Option.some.inj ((hμ _ _ h1).symm.trans hl)
    exact h.exc i k _ b o v hi h1 hb hv
  own i k l b hi hl hb := by
    obtain ⟨l1, h1, _⟩ := h.blks i k hi
    obtain rfl : l1 = l := Option.some.inj ((hμ _ _ h1).symm.trans hl)
    exact h.own i k _ b hi h1 hb
  mle := h.mle
  mown := h.mown
  os := h.os
  tape := h.tape
  output := h.output
  size := h.size
  frame := h.frame
  fz := h.fz

theorem Hold.drop {c : Ctx} {M : Mem} {μ : Map} {H : Hp} {w : World} (h : Hold c M μ H w) (i : Nat) : Hold c M μ ((i, none) :: H) w := by
  have key : ∀ {j k}, hget ((i, none) :: H) j = some k → hget H j = some k := by
    intro j k hj
    rw [hget_cons] at hj
    split at hj
    · cases hj
    · exact hj
  exact { h with
    blks := fun j k hk => h.blks j k (key hk)
    inj := fun j j' k k' l l' b hj hj' => h.inj j j' k k' l l' b (key hj) (key hj')
    exc := fun j k l b o v hj => h.exc j k l b o v (key hj)
    own := fun j k l b hj => h.own j k l b (key hj) }

/-- Any part of the abstract memory may be forgotten. -/
theorem Hold.sub {c : Ctx} {M : Mem} {μ : Map} {H H' : Hp} {w : World} (h : Hold c M μ H w) (hs : ∀ i k, hget H' i = some k → hget H i = some k) : Hold c M μ H' w :=
  { h with
    blks := fun j k hk => h.blks j k (hs j k hk)
    inj := fun j j' k k' l l' b hj hj' => h.inj j j' k k' l l' b (hs j k hj) (hs j' k' hj')
    exc := fun j k l b o v hj => h.exc j k l b o v (hs j k hj)
    own := fun j k l b hj => h.own j k l b (hs j k hj) }

def Map.ins (μ : Map) (i : Nat) (l : Loc) : Map := fun j => if j = i then some l else μ j
theorem Map.ins_same (μ : Map) (i : Nat) (l : Loc) : μ.ins i l i = some l := by simp [Map.ins]
theorem Map.ins_other (μ : Map) (i : Nat) (l : Loc) {j : Nat} (h : j ≠ i) : μ.ins i l j = μ j := by simp [Map.ins, h]
theorem Map.le_ins {μ : Map} {i : Nat} {l : Loc} (h : μ i = none) : μ.le (μ.ins i l) := fun j l' hj => by
  by_cases e : j = i
  · subst e; rw [h] at hj; cases hj
  · rw [Map.ins_other _ _ _ e]; exact hj

/-- A new number, at a place that none of the others has. -/
theorem Hold.add {c : Ctx} {M : Mem} {μ : Map} {H : Hp} {w : World} (h : Hold c M μ H w) {i : Nat} {l : Loc} {k : Blk} (hi : μ i = none) (hb : BR M (μ.ins i l) w l k)
    (hn : ∀ b, l.blk = some b → (∀ j k' l', hget H j = some k' → μ j = some l' → l'.blk ≠ some b) ∧ c.may b ∧ ∀ o v, M b o = some v → ∃ e xs, k = .row e xs true ∧ o < xs.length * e.n) :
    Hold c M (μ.ins i l) ((i, some k) :: H) w := by
  have h' := h.map (Map.le_ins (l := l) hi)
  have hne : ∀ j k', hget H j = some k' → j ≠ i := fun j k' hj e => by
    subst e
    obtain ⟨l1, h1, _⟩ := h.blks j k' hj
    rw [hi] at h1; cases h1
  have old : ∀ {j k'}, j ≠ i → hget ((i, some k) :: H) j = some k' → hget H j = some k' := by
    intro j k' e hj
    rw [hget_cons, if_neg (fun h => e h.symm)] at hj
    exact hj
  have new : ∀ {k'}, hget ((i, some k) :: H) i = some k' → k' = k := by
    intro k' hj
    rw [hget_cons, if_pos rfl] at hj
    exact (Option.some.inj hj).symm
  have loc : ∀ {l'}, μ.ins i l i = some l' → l' = l := fun hl => (Option.some.inj ((Map.ins_same μ i l).symm.trans hl)).symm
  exact { h' with
    blks := fun j k' hj => by
      by_cases e : j = i
      · subst e
        rw [new hj]
        exact ⟨l, Map.ins_same _ _ _, hb⟩
      · exact h'.blks j k' (old e hj)
    inj := fun j j' k1 k2 l1 l2 b hj hj' hl hl' hbb hbb' => by
      by_cases e : j = i
      · by_cases e' : j' = i
        · rw [e, e']
        · subst e
          rw [Map.ins_other _ _ _ e'] at hl'
          rw [loc hl] at hbb
          exact absurd hbb' ((hn b hbb).1 j' k2 l2 (old e' hj') hl')
      · by_cases e' : j' = i
        · subst e'
          rw [Map.ins_other _ _ _ e] at hl
          rw [loc hl'] at hbb'
          exact absurd hbb ((hn b hbb').1 j k1 l1 (old e hj) hl)
        · exact h'.inj j j' k1 k2 l1 l2 b (old e hj) (old e' hj') hl hl' hbb hbb'
    exc := fun j k1 l1 b o v hj hl hbb hv => by
      by_cases e : j = i
      · subst e
        rw [new hj]
        rw [loc hl] at hbb
        exact (hn b hbb).2.2 o v hv
      · exact h'.exc j k1 l1 b o v (old e hj) hl hbb hv
    own := fun j k1 l1 b hj hl hbb => by
      by_cases e : j = i
      · subst e
        rw [loc hl] at hbb
        exact (hn b hbb).2.1
      · exact h'.own j k1 l1 b (old e hj) hl hbb }

/-- One block of the run's own is written; the memory that is still in it stays. -/
structure Writes (w w' : World) (b : Nat) : Prop where
  os : w'.os = w.os
  tape : w'.tape = w.tape
  output : w'.output = w.output
  size : w'.heap.size = w.heap.size
  other : ∀ k, k ≠ b → w'.heap[k]? = w.heap[k]?
  fz : ∀ a, w'.frozen? a = w.frozen? a

theorem Hold.write {c : Ctx} {M : Mem} {μ : Map} {H : Hp} {w w' : World} (h : Hold c M μ H w) {i : Nat} {l : Loc} {k k' : Blk} {b : Nat} (hi : hget H i = some k) (hl : μ i = some l) (hb : l.blk = some b)
    (hw : Writes w w' b) (hbr : BR M μ w' l k') (hM : ∀ o v, M b o = some v → w'.cell? ⟨b, o, none⟩ = some v ∧ ∃ e xs, k' = .row e xs true ∧ o < xs.length * e.n) :
    Hold c M μ ((i, some k') :: H) w' := by
  have old : ∀ {j k1}, j ≠ i → hget ((i, some k') :: H) j = some k1 → hget H j = some k1 := by
    intro j k1 e hj
    rw [hget_cons, if_neg (fun h => e h.symm)] at hj
    exact hj
  have new : ∀ {k1}, hget ((i, some k') :: H) i = some k1 → k1 = k' := by
    intro k1 hj
    rw [hget_cons, if_pos rfl] at hj
    exact (Option.some.inj hj).symm
  have any : ∀ {j k1}, hget ((i, some k') :: H) j = some k1 → ∃ k2, hget H j = some k2 := by
    intro j k1 hj
    by_cases e : j = i
    · subst e; exact ⟨k, hi⟩
    · exact ⟨k1, old e hj⟩
  exact {
    mem := fun b' o v hv => by
      by_cases e : b' = b
      · subst e; exact (hM o v hv).1
      · rw [cell_heap (hw.other b' e)]; exact h.mem b' o v hv
    blks := fun j k1 hj => by
      by_cases e : j = i
      · subst e
        rw [new hj]
        exact ⟨l, hl, hbr⟩
      · obtain ⟨l1, h1, h2⟩ := h.blks j k1 (old e hj)
        refine ⟨l1, h1, h2.mono (Mem.le.refl _) (Map.le.refl _) fun b' hb' => hw.other b' ?_⟩
        intro e'
        subst e'
        exact e (h.inj j i k1 k l1 l b' (old e hj) hi h1 hl hb' hb)
    inj := fun j j' k1 k2 l1 l2 b' hj hj' => by
      obtain ⟨k3, h3⟩ := any hj
      obtain ⟨k4, h4⟩ := any hj'
      exact h.inj j j' k3 k4 l1 l2 b' h3 h4
    exc := fun j k1 l1 b' o v hj hl1 hb' hv => by
      by_cases e : j = i
      · subst e
        rw [new hj]
        obtain rfl : l1 = l := Option.some.inj (hl1.symm.trans hl)
        obtain rfl : b' = b := Option.some.inj (hb'.symm.trans hb)
        exact (hM o v hv).2
      · exact h.exc j k1 l1 b' o v (old e hj) hl1 hb' hv
    own := fun j k1 l1 b' hj => by
      obtain ⟨k3, h3⟩ := any hj
      exact h.own j k3 l1 b' h3
    mle := h.mle
    mown := h.mown
    os := hw.os.trans h.os
    tape := hw.tape.trans h.tape
    output := hw.output.trans h.output
    size := by rw [hw.size]; exact h.size
    frame := fun b' hb' hn => by
      have hne : b' ≠ b := by
        intro e
        subst e
        rcases h.own i k l b' hi hl hb with ho | ho
        · exact hn ho
        · omega
      rw [hw.other b' hne]
      exact h.frame b' hb' hn
    fz := fun a => (hw.fz a).trans (h.fz a) }

/-- Cells of a block that nobody writes from now on. -/
def Mem.frz (M : Mem) (w : World) (b n : Nat) : Mem := fun b' o => if b' = b ∧ o < n then w.cell? ⟨b', o, none⟩ else M b' o

theorem Mem.le_frz {M : Mem} {w : World} {b n : Nat} (h : ∀ b o v, M b o = some v → w.cell? ⟨b, o, none⟩ = some v) : M.le (M.frz w b n) := fun b' o v hv => by
  unfold Mem.frz
  split
  · exact h b' o v hv
  · exact hv

theorem cell_of_heap {w : World} {b : Nat} {cs : Array Value} {T : TypeId} {fr : Nat × Nat} (h : w.heap[b]? = some (.cells cs T fr)) (o : Nat) : w.cell? ⟨b, o, none⟩ = cs[o]? := cell_of_row w b o cs T fr h

/-- A row becomes still: from now on it is a tree. -/
theorem Hold.freeze {c : Ctx} {M : Mem} {μ : Map} {H : Hp} {w : World} (h : Hold c M μ H w) {i : Nat} {e : Ty} {xs : List e.T} {fz : Bool} (hi : hget H i = some (.row e xs fz)) :
    ∃ M', M.le M' ∧ Hold c M' μ ((i, some (.row e xs true)) :: H) w ∧ ∀ cs, AVC M μ (.row i) cs → AVC M' μ (.tv (.sl e) xs) cs := by
  obtain ⟨l, hl, hbr⟩ := h.blks i _ hi
  cases l with
  | box b => exact hbr.elim
  | obj b => exact hbr.elim
  | row bo len cap =>
    cases bo with
    | none =>
      obtain ⟨rfl, rfl, rfl⟩ := hbr
      refine ⟨M, Mem.le.refl _, ?_, ?_⟩
      · have key : ∀ {j k}, hget ((i, some (.row e [] true)) :: H) j = some k → ∃ k', hget H j = some k' ∧ (j ≠ i → k' = k) ∧ (j = i → k = .row e [] true) := by
          intro j k hj
          rw [hget_cons] at hj
          split at hj
          · rename_i e1
            subst e1
            exact ⟨_, hi, fun e => absurd rfl e, fun _ => (Option.some.inj hj).symm⟩
          · rename_i e1
            exact ⟨k, hj, fun _ => rfl, fun e => absurd e.symm e1⟩
        exact { h with
          blks := fun j k hj => by
            by_cases e1 : j = i
            · subst e1
              obtain ⟨_, _, _, h3⟩ := key hj
              rw [h3 rfl]
              exact ⟨_, hl, ⟨rfl, rfl, rfl⟩⟩
            · obtain ⟨k', h1, h2, _⟩ := key hj
              rw [← h2 e1]
              exact h.blks j k' h1
          inj := fun j j' k k' l l' b hj hj' => by
            obtain ⟨k1, h1, _⟩ := key hj
            obtain ⟨k2, h2, _⟩ := key hj'
            exact h.inj j j' k1 k2 l l' b h1 h2
          exc := fun j k l b o v hj hl1 hb hv => by
            by_cases e1 : j = i
            · subst e1
              rw [hl] at hl1
              cases hl1
              cases hb
            · obtain ⟨k', h1, h2, _⟩ := key hj
              rw [← h2 e1]
              exact h.exc j k' l b o v h1 hl1 hb hv
          own := fun j k l b hj => by
            obtain ⟨k1, h1, _⟩ := key hj
            exact h.own j k1 l b h1 }
      · intro cs hcs
        simp only [AVC] at hcs ⊢
        obtain ⟨b1, len1, cap1, h1, h2⟩ := hcs
        rw [hl] at h1
        cases h1
        simp only [TC]
        exact ⟨none, 0, by simpa using h2, [], rfl, .inl trivial, Nat.le_refl _⟩
    | some b =>
      obtain ⟨cs, T, hb, hlen, hle, hcap, hsz, hone, hrow⟩ := hbr
      have hM : M.le (M.frz w b (len * e.n)) := Mem.le_frz h.mem
      have hfr : ∀ o v, (M.frz w b (len * e.n)) b o = some v → w.cell? ⟨b, o, none⟩ = some v ∧ (o < len * e.n) := by
        intro o v hv
        unfold Mem.frz at hv
        split at hv
        · rename_i h1
          exact ⟨hv, h1.2⟩
        · refine ⟨h.mem b o v hv, ?_⟩
          obtain ⟨e', xs', h1, h2⟩ := h.exc i _ _ b o v hi hl rfl hv
          cases h1
          rw [← hlen]; exact h2
      have hoth : ∀ b' o, b' ≠ b → (M.frz w b (len * e.n)) b' o = M b' o := by
        intro b' o hne
        unfold Mem.frz
        rw [if_neg (fun h => hne h.1)]
      refine ⟨M.frz w b (len * e.n), hM, ?_, ?_⟩
      · have key : ∀ {j k}, hget ((i, some (.row e xs true)) :: H) j = some k → ∃ k', hget H j = some k' ∧ (j ≠ i → k' = k) ∧ (j = i → k = .row e xs true) := by
          intro j k hj
          rw [hget_cons] at hj
          split at hj
          · rename_i e1
            subst e1
            exact ⟨_, hi, fun e => absurd rfl e, fun _ => (Option.some.inj hj).symm⟩
          · rename_i e1
            exact ⟨k, hj, fun _ => rfl, fun e => absurd e.symm e1⟩
        exact { h with
          mem := fun b' o v hv => by
            by_cases e1 : b' = b
            · subst e1; exact (hfr o v hv).1
            · rw [hoth b' o e1] at hv; exact h.mem b' o v hv
          blks := fun j k hj => by
            by_cases e1 : j = i
            · subst e1
              obtain ⟨_, _, _, h3⟩ := key hj
              rw [h3 rfl]
              exact ⟨_, hl, ⟨cs, T, hb, hlen, hle, hcap, hsz, hone, hrow.mono fun _ _ h => TC.mono hM h⟩⟩
            · obtain ⟨k', h1, h2, _⟩ := key hj
              rw [← h2 e1]
              obtain ⟨l1, h3, h4⟩ := h.blks j k' h1
              exact ⟨l1, h3, h4.mono hM (Map.le.refl _) fun _ _ => rfl⟩
          inj := fun j j' k k' l l' b hj hj' => by
            obtain ⟨k1, h1, _⟩ := key hj
            obtain ⟨k2, h2, _⟩ := key hj'
            exact h.inj j j' k1 k2 l l' b h1 h2
          exc := fun j k l b' o v hj hl1 hb' hv => by
            by_cases e1 : j = i
            · subst e1
              obtain ⟨_, _, _, h3⟩ := key hj
              rw [hl] at hl1
              cases hl1
              simp only [Loc.blk, Option.some.injEq] at hb'
              subst hb'
              exact ⟨e, xs, h3 rfl, by rw [hlen]; exact (hfr o v hv).2⟩
            · obtain ⟨k', h1, h2, _⟩ := key hj
              have hne : b' ≠ b := by
                intro e2
                subst e2
                exact e1 (h.inj j i k' _ l _ b' h1 hi hl1 hl hb' rfl)
              rw [hoth b' o hne] at hv
              rw [← h2 e1]
              exact h.exc j k' l b' o v h1 hl1 hb' hv
          own := fun j k l b hj => by
            obtain ⟨k1, h1, _⟩ := key hj
            exact h.own j k1 l b h1
          mle := h.mle.trans hM
          mown := fun b' o v hv => by
            by_cases e1 : b' = b
            · subst e1
              exact .inr (h.own i _ _ b' hi hl rfl)
            · rw [hoth b' o e1] at hv; exact h.mown b' o v hv }
      · intro cs' hcs
        simp only [AVC] at hcs ⊢
        obtain ⟨b1, len1, cap1, h1, h2⟩ := hcs
        rw [hl] at h1
        cases h1
        simp only [TC]
        refine ⟨some ⟨b, 0, none⟩, cap, by simpa [hlen] using h2, cs.toList.take (len * e.n), hrow.mono fun _ _ h => TC.mono hM h, .inr ⟨b, 0, rfl, ?_⟩, by omega⟩
        intro j v hv
        have hj : j < len * e.n := by
          have := (List.getElem?_eq_some_iff.1 hv).1
          simp at this; omega
        unfold Mem.frz
        rw [if_pos ⟨rfl, by omega⟩, cell_of_heap hb]
        rw [List.getElem?_take, if_pos hj] at hv
        simpa using hv

end Go.Av

/-
  The operations, as the abstract machine has them; and when a loaded operation is one of them.
-/
namespace Go.Av

/-! ### Zero values -/
def zc : Ty → List Value
  | .int k => [.int k 0]
  | .bool => [.bool false]
  | .str => [.string ⟨#[]⟩]
  | .sl _ => [.slice none 0 0]
  | .arr n e => (List.replicate n (zc e)).flatten
  | .pr a b => zc a ++ zc b
  | .nil => []

/-- How a new variable is seen: a slice that is going to be written is a row. -/
inductive Sh where
  | tv (τ : Ty) | row (e : Ty) | cons (a b : Sh) | nil | nilp | junk

def Sh.mk : Sh → Nat → AV × Hp × Nat
  | .tv τ, n => (.tv τ τ.zero, [], n)
  | .row e, n => (.row n, [(n, some (.row e [] false))], n + 1)
  | .cons a b, n => (.cons (a.mk n).1 (b.mk (a.mk n).2.2).1, (b.mk (a.mk n).2.2).2.1 ++ (a.mk n).2.1, (b.mk (a.mk n).2.2).2.2)
  | .nil, n => (.nil, [], n)
  | .nilp, n => (.nilp, [], n)
  | .junk, n => (.junk, [], n)

/-- One cell is the other: of the kinds that zero values have. -/
def veq : Value → Value → Bool
  | .int k n, .int k' n' => (decide (k = k')) && (decide (n = n'))
  | .bool b, .bool b' => (decide (b = b'))
  | .string s, .string s' => (decide (s.data.toList = s'.data.toList))
  | .slice none l c, .slice none l' c' => Nat.beq l l' && Nat.beq c c'
  | .pointer none, .pointer none => true
  | _, _ => false

/-- The cells that a zero value of this shape has, taken off the front. -/
def takeEq : List Value → List Value → Option (List Value)
  | [], r => some r
  | x :: xs, y :: ys => bif veq x y then takeEq xs ys else none
  | _ :: _, [] => none

def Sh.fits : Sh → List Value → Option (List Value)
  | .tv τ, cs => takeEq (zc τ) cs
  | .row _, c :: cs => bif veq (.slice none 0 0) c then some cs else none
  | .cons a b, cs => (match a.fits cs with | some r => b.fits r | none => none)
  | .nil, cs => some cs
  | .nilp, c :: cs => bif veq (.pointer none) c then some cs else none
  | .junk, c :: cs => bif c.oneCell' then some cs else none
  | _, [] => none

def Sh.agg : Sh → Bool
  | .tv τ => τ.isAgg | .cons _ _ => true | .nil => true | _ => false

/-! ### Trees out of values: rows become still -/
def toTF : (τ : Ty) → AV → Hp → Option (τ.T × Hp)
  | τ, .tv σ x, _ => if h : σ = τ then some (h ▸ x, []) else none
  | τ, .row i, H =>
    match τ with
    | .sl e => (match hget H i with
      | some (.row e' xs _) => if h : e' = e then some (h ▸ xs, [(i, some (.row e' xs true))]) else none
      | _ => none)
    | _ => none
  | τ, .sln _ e' xs, _ =>
    match τ with
    | .sl e => if h : e' = e then some (h ▸ xs, []) else none
    | _ => none
  | τ, .cons u v, H =>
    match τ with
    | .pr a b => (match toTF a u H with
      | some (x, d) => (match toTF b v (d ++ H) with
        | some (y, d') => some ((x, y), d' ++ d)
        | none => none)
      | none => none)
    | .arr (n + 1) e => (match toTF e u H with
      | some (x, d) => (match toTF (.arr n e) v (d ++ H) with
        | some (y, d') => some (x :: y, d' ++ d)
        | none => none)
      | none => none)
    | _ => none
  | τ, .nil, _ =>
    match τ with
    | .nil => some ((), [])
    | .arr 0 _ => some ([], [])
    | _ => none
  | _, _, _ => none

/-! ### Equality of trees -/
def Ty.eqs : Ty → Bool
  | .sl _ => false
  | .arr _ e => e.eqs
  | .pr a b => a.eqs && b.eqs
  | _ => true

def allEq {α : Type} (f : α → α → Bool) : List α → List α → Bool
  | [], [] => true
  | x :: xs, y :: ys => f x y && allEq f xs ys
  | _, _ => false

def Ty.eqB : (τ : Ty) → τ.T → τ.T → Bool
  | .int _, (x : Int), (y : Int) => x == y
  | .bool, (x : Bool), (y : Bool) => x == y
  | .str, (x : List UInt8), (y : List UInt8) => x == y
  | .sl _, _, _ => false
  | .arr _ e, xs, ys => allEq e.eqB xs ys
  | .pr a b, x, y => a.eqB x.1 y.1 && b.eqB x.2 y.2
  | .nil, _, _ => true

/-! ### Maps to whole numbers -/
def keyOk : Ty → Bool
  | .int _ => true
  | .str => true
  | _ => false
def mget (κ : Ty) (x : κ.T) : List (κ.T × Int) → Option Int
  | [] => none
  | (y, v) :: r => bif κ.eqB x y then some v else mget κ x r
def mpos (κ : Ty) (x : κ.T) : List (κ.T × Int) → Nat
  | [] => 0
  | (y, _) :: r => bif κ.eqB x y then 0 else mpos κ x r + 1
def mset (κ : Ty) (x : κ.T) (v : Int) : List (κ.T × Int) → List (κ.T × Int)
  | [] => [(x, v)]
  | (y, u) :: r => bif κ.eqB x y then (x, v) :: r else (y, u) :: mset κ x v r
def mtouch (κ : Ty) (x : κ.T) : List (κ.T × Int) → List (κ.T × Int)
  | [] => [(x, 0)]
  | (y, u) :: r => bif κ.eqB x y then (x, u) :: r else (y, u) :: mtouch κ x r
def mstore {α : Type} (v : Int) : Nat → List (α × Int) → List (α × Int)
  | _, [] => []
  | 0, (y, _) :: r => (y, v) :: r
  | n + 1, p :: r => p :: mstore v n r
def mval (κ : Ty) (x : κ.T) (l : List (κ.T × Int)) : Int := (mget κ x l).getD 0
def mhas (κ : Ty) (x : κ.T) (l : List (κ.T × Int)) : Bool := (mget κ x l).isSome

/-! ### The operations -/
inductive Opd where
  | t (s : Nat) | c (a : AV) | z (τ : Ty) | g (n : Nat)

structure St where
  env : List (Nat × AV)
  H : Hp
  nid : Nat

def St.get (S : St) (t : Nat) : AV :=
  match alGet S.env t with
  | some a => a
  | none => .dead

structure Upd where
  hs : Hp
  na : Nat

def U0 : Upd := ⟨[], 0⟩

def ev (G : Nat → AV) (S : St) : Opd → AV
  | .t s => S.get s
  | .c a => a
  | .z τ => .tv τ τ.zero
  | .g n => G n

inductive AOp where
  | mv (x : Opd)
  | pick (c a b : Opd)
  | alloc (T : TypeId) (sh : Sh)
  | box (x : Opd)
  | build (T : TypeId) (sh : Sh) (parts : List (Nat × Step × Nat × Opd))
  | bslice (e : Ty) (parts : List Opd)
  | load (agg : Bool) (n : Nat) (x : Opd)
  | store (n : Nat) (cv : Option Ty) (x v : Opd)
  | nilc (x : Opd)
  | bin (op : BinOp) (x y : Opd)
  | eqa (neg : Bool) (τ : Ty) (x y : Opd)
  | eqb (neg : Bool) (x y : Opd)
  | eqp (neg : Bool) (x y : Opd)
  | eqf (neg : Bool) (x y : Opd)
  | eqn (neg : Bool) (x : Opd)
  | un (op : UnOp) (x : Opd)
  | conv (k : IntKind) (x : Opd)
  | bstr (x : Opd)
  | mkfn (f : FuncId) (first caps : List Opd)
  | mkslice (e : Ty) (n c : Opd)
  | slis (x : Opd) (lo hi : Option Opd)
  | slia (e : Ty) (x : Opd) (lo hi : Option Opd)
  | fad (i off : Nat) (x : Opd)
  | fld (i off n : Nat) (agg : Bool) (x : Opd)
  | iad (n sz : Nat) (x i : Opd)
  | iads (e : Ty) (x i : Opd)
  | ix (n sz : Nat) (agg : Bool) (x i : Opd)
  | ixs (x i : Opd)
  | ext (x : Opd) (i : Nat)
  | app (e : Ty) (x y : Opd)
  | len (x : Opd)
  | lens (x : Opd)
  | lenc (n : Nat) (x : Opd)
  | mx (x y : Opd)
  | mn (x y : Opd)
  | rng (x : Opd)
  | nxt (x : Opd)
  | nrow (e : Ty)
  | mkmap (κ : Ty)
  | mlook (κ : Ty) (ok : Bool) (m k : Opd)
  | mput (κ : Ty) (m k v : Opd)
  | ment (κ : Ty) (m k : Opd)
  | mest (m s v : Opd)
  | bad

def kEq (a b : IntKind) : Bool := decide (a = b)

def bitop (op : BinOp) (k : IntKind) (x y : Int) : Int :=
  match op with
  | .and => k.wrap ((BitVec.ofInt k.bits x &&& BitVec.ofInt k.bits y).toNat)
  | .or => k.wrap ((BitVec.ofInt k.bits x ||| BitVec.ofInt k.bits y).toNat)
  | .xor => k.wrap ((BitVec.ofInt k.bits x ^^^ BitVec.ofInt k.bits y).toNat)
  | _ => k.wrap ((BitVec.ofInt k.bits x &&& ~~~ BitVec.ofInt k.bits y).toNat)

def shlI (k : IntKind) (x y : Int) : Int := k.wrap (x * 2 ^ (min y.toNat k.bits))
def shrI (k : IntKind) (x y : Int) : Int := x.fdiv (2 ^ (min y.toNat k.bits))

section
variable {R : Type}

def binI (op : BinOp) (k k' : IntKind) (x y : Int) (K : AV → Option R) : Option R :=
  match op with
  | .shl => bif decide (y < 0) then none else K (.tv (.int k) (shlI k x y))
  | .shr => bif decide (y < 0) then none else K (.tv (.int k) (shrI k x y))
  | _ => bif kEq k k' then (match op with
    | .add => K (.tv (.int k) (k.wrap (x + y)))
    | .sub => K (.tv (.int k) (k.wrap (x - y)))
    | .mul => K (.tv (.int k) (k.wrap (x * y)))
    | .quo => bif decide (y = 0) then none else K (.tv (.int k) (k.wrap (x.tdiv y)))
    | .rem => bif decide (y = 0) then none else K (.tv (.int k) (x.tmod y))
    | .and => K (.tv (.int k) (bitop .and k x y))
    | .or => K (.tv (.int k) (bitop .or k x y))
    | .xor => K (.tv (.int k) (bitop .xor k x y))
    | .andNot => K (.tv (.int k) (bitop .andNot k x y))
    | .eql => K (.tv .bool (decide (x = y)))
    | .neq => K (.tv .bool (!decide (x = y)))
    | .lss => K (.tv .bool (decide (x < y)))
    | .leq => K (.tv .bool (decide (x ≤ y)))
    | .gtr => K (.tv .bool (decide (y < x)))
    | .geq => K (.tv .bool (decide (y ≤ x)))
    | _ => none) else none

def strMax : Nat := 4611686018427387904

def binS (op : BinOp) (x y : List UInt8) (K : AV → Option R) : Option R :=
  match op with
  | .add => bif decide (x.length + y.length ≤ strMax) then K (.tv .str (x ++ y)) else none
  | .eql => K (.tv .bool (decide (x = y)))
  | .neq => K (.tv .bool (!decide (x = y)))
  | _ => none

def binV (op : BinOp) (a b : AV) (K : AV → Option R) : Option R :=
  match a, b with
  | .tv (.int k) x, .tv (.int k') y => binI op k k' x y K
  | .tv .str x, .tv .str y => binS op x y K
  | _, _ => none

def eqaV (neg : Bool) (τ : Ty) (a b : AV) (K : AV → Option R) : Option R :=
  match a, b with
  | .tv σ x, .tv ρ y => if h : σ = τ then (if h' : ρ = τ then K (.tv .bool (neg ^^ τ.eqB (h ▸ x) (h' ▸ y))) else none) else none
  | _, _ => none

def eqbV (neg : Bool) (a b : AV) (K : AV → Option R) : Option R :=
  match a, b with
  | .tv .bool x, .tv .bool y => K (.tv .bool (neg ^^ ((x : Bool) == y)))
  | _, _ => none

def eqpV (neg : Bool) (a b : AV) (K : AV → Option R) : Option R :=
  match a, b with
  | .ptr _ _, .nilp => K (.tv .bool neg)
  | .nilp, .ptr _ _ => K (.tv .bool neg)
  | .nilp, .nilp => K (.tv .bool !neg)
  | _, _ => none

def eqfV (neg : Bool) (a b : AV) (K : AV → Option R) : Option R :=
  match a, b with
  | .fn _ _ _, .nilf => K (.tv .bool neg)
  | .nilf, .fn _ _ _ => K (.tv .bool neg)
  | .nilf, .nilf => K (.tv .bool !neg)
  | _, _ => none

def unV (op : UnOp) (a : AV) (K : AV → Option R) : Option R :=
  match op, a with
  | .neg, .tv (.int k) x => K (.tv (.int k) (k.wrap (0 - x)))
  | .not, .tv .bool b => K (.tv .bool (!b))
  | .xor, .tv (.int k) x => K (.tv (.int k) (bitop .xor k (if k.signed then -1 else k.max) x))
  | _, _ => none

def inR (i : Int) (n : Nat) : Bool := decide (0 ≤ i ∧ i < n)

/-- The bounds of a slice expression: the low and the high one, in this many elements. -/
def bnds (n : Nat) (lo hi : Option AV) (K : Nat → Nat → Option R) : Option R :=
  match lo, hi with
  | none, none => K 0 n
  | some (.tv (.int _) l), none => bif decide (0 ≤ (l : Int) ∧ (l : Int) ≤ n) then K (l : Int).toNat n else none
  | none, some (.tv (.int _) h) => bif decide (0 ≤ (h : Int) ∧ (h : Int) ≤ n) then K 0 (h : Int).toNat else none
  | some (.tv (.int _) l), some (.tv (.int _) h) => bif decide (0 ≤ (l : Int) ∧ (l : Int) ≤ h ∧ (h : Int) ≤ n) then K (l : Int).toNat (h : Int).toNat else none
  | _, _ => none

def chainOf : List AV → AV
  | [] => .nil
  | a :: r => .cons a (chainOf r)

def AV.live : AV → Bool
  | .dead => false
  | .tup _ => false
  | _ => true

def allLive : List AV → Bool
  | [] => true
  | a :: r => a.live && allLive r

def chainAt : Nat → AV → Option AV
  | 0, .cons a _ => some a
  | i + 1, .cons _ b => chainAt i b
  | _, _ => none

/-- The parts of a literal laid into its zero value. -/
def lay : AV → List (Step × Nat × AV) → Option AV
  | z, [] => some z
  | z, (s, n, v) :: r => (match stepGet s z with
    | some o => bif Nat.beq v.nsz n && Nat.beq o.nsz n then (match stepSet s z v with | some z' => lay z' r | none => none) else none
    | none => none)

/-- Some trees of one type out of values. -/
def toTFs (e : Ty) : List AV → Hp → Option (List e.T × Hp)
  | [], _ => some ([], [])
  | a :: r, H => (match toTF e a H with
    | some (x, d) => (match toTFs e r (d ++ H) with
      | some (xs, d') => some (x :: xs, d' ++ d)
      | none => none)
    | none => none)

def rowMax : Nat := 1073741824

/-- What stands at an address. -/
def readAt (H : Hp) (a : AV) : Option AV :=
  match a with
  | .ptr id p => (match hget H id with
    | some (.box v) => pathGet p v
    | some (.row e xs _) => (match p with
      | .idx i _ sz :: r => bif Nat.beq e.n sz then pathGet r (.tv e (xs.getD i e.zero)) else none
      | _ => none)
    | _ => none)
  | .fp τ x => some (.tv τ x)
  | _ => none

/-- The store of a value at an address: what becomes of the block. -/
def writeAt (H : Hp) (a v : AV) : Option (Nat × Blk) :=
  match a with
  | .ptr id p => (match hget H id with
    | some (.box u) => (match pathGet p u, pathSet p u v with
      | some old, some u' => bif Nat.beq v.nsz old.nsz then some (id, .box u') else none
      | _, _ => none)
    | some (.row e xs false) => (match p with
      | .idx i _ sz :: r => bif Nat.beq e.n sz then
          (match pathGet r (.tv e (xs.getD i e.zero)), pathSet r (.tv e (xs.getD i e.zero)) v with
          | some old, some (.tv e' y) => bif Nat.beq v.nsz old.nsz then (if h : e' = e then some (id, .row e (xs.set i (h ▸ y)) false) else none) else none
          | _, _ => none) else none
      | _ => none)
    | _ => none)
  | _ => none

/-- The elements that an append is handed. -/
def srcOf (e : Ty) (H : Hp) (i : Nat) (a : AV) : Option (List e.T) :=
  match a with
  | .tv (.sl e') ys => if h : e' = e then some (h ▸ ys) else none
  | .sln _ e' ys => if h : e' = e then some (h ▸ ys) else none
  | .tv .str s => if h : Ty.int .u8 = e then some (h ▸ (s.map fun (b : UInt8) => (b.toNat : Int) : List Int)) else none
  | .row j => bif Nat.beq i j then none else (match hget H j with
    | some (.row e' ys _) => if h : e' = e then some (h ▸ ys) else none
    | _ => none)
  | _ => none

def mxI (x y : Int) : Int := bif decide (x < y) then y else x
def mnI (x y : Int) : Int := bif decide (y < x) then y else x
def toU8 (n : Int) : UInt8 := UInt8.ofNat n.toNat

/-- An operation: what it tells, and what becomes of the abstract memory. New blocks are numbered from 'nid' on. -/
def aop (G : Nat → AV) (op : AOp) (S : St) (nid : Nat) (K : AV → Upd → Option R) : Option R :=
  match op with
  | .mv x => K (ev G S x) U0
  | .pick c a b => (match ev G S c with
    | .tv .bool x => (match ev G S a, ev G S b with
      | .tv τ u, .tv σ v => if h : σ = τ then K (.tv τ (bif x then u else h ▸ v)) U0 else none
      | u, v => bif x then K u U0 else K v U0)
    | _ => none)
  | .alloc _ sh => K (.ptr nid []) ⟨(nid, some (.box (sh.mk (nid + 1)).1)) :: (sh.mk (nid + 1)).2.1, (sh.mk (nid + 1)).2.2 - nid⟩
  | .box x => bif (ev G S x).live then K (.ptr nid []) ⟨[(nid, some (.box (ev G S x)))], 1⟩ else none
  | .build _ sh parts => bif allLive (parts.map fun p => ev G S p.2.2.2) then (match lay (sh.mk nid).1 (parts.map fun p => (p.2.1, p.2.2.1, ev G S p.2.2.2)) with
    | some a => K a ⟨(sh.mk nid).2.1, (sh.mk nid).2.2 - nid⟩
    | none => none) else none
  | .bslice e parts => (match toTFs e (parts.map (ev G S)) S.H with
    | some (xs, d) => K (.row nid) ⟨(nid, some (.row e xs false)) :: d, 1⟩
    | none => none)
  | .load agg n x => (match readAt S.H (ev G S x) with
    | some v => bif Nat.beq v.nsz n && (v.isAgg == agg) then K v U0 else none
    | none => none)
  | .store n cv x v => (match cv with
    | none => bif (ev G S v).live && Nat.beq (ev G S v).nsz n then (match writeAt S.H (ev G S x) (ev G S v) with
      | some (id, k) => K .dead ⟨[(id, some k)], 0⟩
      | none => none) else none
    | some τ => (match toTF τ (ev G S v) S.H with
      | some (y, d) => bif Nat.beq τ.n n then (match writeAt (d ++ S.H) (ev G S x) (.tv τ y) with
        | some (id, k) => K .dead ⟨(id, some k) :: d, 0⟩
        | none => none) else none
      | none => none))
  | .nilc x => (match ev G S x with
    | .ptr id p => K (.ptr id p) U0
    | .fp τ y => K (.fp τ y) U0
    | .fn f b c => K (.fn f b c) U0
    | _ => none)
  | .bin op x y => binV op (ev G S x) (ev G S y) fun v => K v U0
  | .eqa neg τ x y => eqaV neg τ (ev G S x) (ev G S y) fun v => K v U0
  | .eqb neg x y => eqbV neg (ev G S x) (ev G S y) fun v => K v U0
  | .eqp neg x y => eqpV neg (ev G S x) (ev G S y) fun v => K v U0
  | .eqn neg x => (match ev G S x with
    | .sln b _ _ => K (.tv .bool (neg ^^ b)) U0
    | _ => none)
  | .eqf neg x y => eqfV neg (ev G S x) (ev G S y) fun v => K v U0
  | .un op x => unV op (ev G S x) fun v => K v U0
  | .conv k x => (match ev G S x with
    | .tv (.int _) n => K (.tv (.int k) (k.wrap n)) U0
    | _ => none)
  | .bstr x => (match ev G S x with
    | .tv (.sl (.int .u8)) xs => K (.tv .str (List.map toU8 xs)) U0
    | .row i => (match hget S.H i with
      | some (.row (.int .u8) xs _) => K (.tv .str (List.map toU8 xs)) U0
      | _ => none)
    | _ => none)
  | .mkfn f first caps => bif allLive (first.map (ev G S)) && allLive (caps.map (ev G S)) then K (.fn f (chainOf (first.map (ev G S))) (chainOf (caps.map (ev G S)))) U0 else none
  | .mkslice e n c => (match ev G S n, ev G S c with
    | .tv (.int _) n, .tv (.int _) c => bif decide (0 ≤ (n : Int) ∧ (n : Int) ≤ c ∧ (c : Int) ≤ rowMax) then
        K (.row nid) ⟨[(nid, some (.row e (List.replicate (n : Int).toNat e.zero) false))], 1⟩ else none
    | _, _ => none)
  | .slis x lo hi => (match ev G S x with
    | .tv .str s => bnds s.length (lo.map (ev G S)) (hi.map (ev G S)) fun l h => K (.tv .str ((s.take h).drop l)) U0
    | _ => none)
  | .slia e x lo hi => (match toTF (.sl e) (ev G S x) S.H with
    | some (xs, d) => bnds xs.length (lo.map (ev G S)) (hi.map (ev G S)) fun l h => K (.tv (.sl e) ((xs.take h).drop l)) ⟨d, 0⟩
    | none => none)
  | .fad i off x => (match ev G S x with
    | .ptr id p => K (.ptr id (p ++ [.fld i off])) U0
    | .fp τ y => (match fldGet i off (.tv τ y) with
      | some (.tv σ z) => K (.fp σ z) U0
      | _ => none)
    | _ => none)
  | .fld i off n agg x => (match fldGet i off (ev G S x) with
    | some v => bif Nat.beq v.nsz n && (v.isAgg == agg) then K v U0 else none
    | none => none)
  | .iad n sz x i => (match ev G S i with
    | .tv (.int _) j => bif inR j n then (match ev G S x with
      | .ptr id p => K (.ptr id (p ++ [.idx (j : Int).toNat n sz])) U0
      | .fp (.arr m e) xs => bif Nat.beq m n && Nat.beq e.n sz then K (.fp e (xs.getD (j : Int).toNat e.zero)) U0 else none
      | _ => none) else none
    | _ => none)
  | .iads e x i => (match ev G S i with
    | .tv (.int _) j => (match ev G S x with
      | .tv (.sl e') xs => bif Nat.beq e'.n e.n then (bif inR j xs.length then K (.fp e' (xs.getD (j : Int).toNat e'.zero)) U0 else none) else none
      | .row id => (match hget S.H id with
        | some (.row e' xs _) => bif Nat.beq e'.n e.n then (bif inR j xs.length then K (.ptr id [.idx (j : Int).toNat xs.length e.n]) U0 else none) else none
        | _ => none)
      | _ => none)
    | _ => none)
  | .ix n sz agg x i => (match ev G S i with
    | .tv (.int _) j => (match ev G S x with
      | .tv (.arr m e) xs => bif Nat.beq m n && Nat.beq e.n sz && (e.isAgg == agg) then (bif inR j n then K (.tv e (xs.getD (j : Int).toNat e.zero)) U0 else none) else none
      | .cons u v => bif inR j n then (match chainGet (j : Int).toNat sz (.cons u v) with
        | some a => bif (a.isAgg == agg) then K a U0 else none
        | none => none) else none
      | _ => none)
    | _ => none)
  | .ixs x i => (match ev G S i, ev G S x with
    | .tv (.int _) j, .tv .str s => bif inR j s.length then K (.tv (.int .u8) ((s.getD (j : Int).toNat 0).toNat : Int)) U0 else none
    | _, _ => none)
  | .ext x i => (match ev G S x with
    | .tup l => (match chainAt i l with | some a => K a U0 | none => none)
    | _ => none)
  | .app e x y => (match ev G S x with
    | .row i => (match hget S.H i with
      | some (.row e' xs fz) => if h : e' = e then (match srcOf e S.H i (ev G S y) with
        | some ys => bif decide (xs.length + ys.length ≤ rowMax) then K (.row nid) ⟨[(nid, some (.row e ((h ▸ xs : List e.T) ++ ys) fz)), (i, none)], 1⟩ else none
        | none => none) else none
      | _ => none)
    | _ => none)
  | .lens x => (match ev G S x with
    | .tv .str s => K (.tv (.int .i64) (s.length : Int)) U0
    | _ => none)
  | .len x => (match ev G S x with
    | .tv (.sl _) xs => K (.tv (.int .i64) (xs.length : Int)) U0
    | .row i => (match hget S.H i with
      | some (.row _ xs _) => K (.tv (.int .i64) (xs.length : Int)) U0
      | _ => none)
    | _ => none)
  | .lenc n _ => K (.tv (.int .i64) (n : Int)) U0
  | .bad => none
  | .mkmap κ => K (.mp nid) ⟨[(nid, some (.mp κ []))], 1⟩
  | .mlook κ ok m k => (match ev G S m with
    | .mp id => (match hget S.H id with
      | some (.mp κ' l) => (match ev G S k with
        | .tv σ x => if h : σ = κ' then (bif decide (κ' = κ) && keyOk κ then
            K (bif ok then .tup (.cons (.tv (.int .i64) (mval κ' (h ▸ x) l)) (.cons (.tv .bool (mhas κ' (h ▸ x) l)) .nil)) else .tv (.int .i64) (mval κ' (h ▸ x) l)) U0 else none) else none
        | _ => none)
      | _ => none)
    | _ => none)
  | .mput κ m k v => (match ev G S m with
    | .mp id => (match hget S.H id with
      | some (.mp κ' l) => (match ev G S k, ev G S v with
        | .tv σ x, .tv (.int .i64) n => if h : σ = κ' then (bif decide (κ' = κ) && keyOk κ then K .dead ⟨[(id, some (.mp κ' (mset κ' (h ▸ x) n l)))], 0⟩ else none) else none
        | _, _ => none)
      | _ => none)
    | _ => none)
  | .ment κ m k => (match ev G S m with
    | .mp id => (match hget S.H id with
      | some (.mp κ' l) => (match ev G S k with
        | .tv σ x => if h : σ = κ' then (bif decide (κ' = κ) && keyOk κ then
            K (.tup (.cons (.tv (.int .i64) (mval κ' (h ▸ x) l)) (.cons (.tv (.int .i64) (mpos κ' (h ▸ x) l : Int)) .nil))) ⟨[(id, some (.mp κ' (mtouch κ' (h ▸ x) l)))], 0⟩ else none) else none
        | _ => none)
      | _ => none)
    | _ => none)
  | .mest m s v => (match ev G S m with
    | .mp id => (match hget S.H id with
      | some (.mp κ' l) => (match ev G S s, ev G S v with
        | .tv (.int .i64) n, .tv (.int .i64) y => bif inR n l.length then K .dead ⟨[(id, some (.mp κ' (mstore y (n : Int).toNat l)))], 0⟩ else none
        | _, _ => none)
      | _ => none)
    | _ => none)
  | .nrow e => K (.row nid) ⟨[(nid, some (.row e [] false))], 1⟩
  | .mx x y => (match ev G S x, ev G S y with
    | .tv (.int k) x, .tv (.int k') y => bif kEq k k' then K (.tv (.int k) (mxI x y)) U0 else none
    | _, _ => none)
  | .mn x y => (match ev G S x, ev G S y with
    | .tv (.int k) x, .tv (.int k') y => bif kEq k k' then K (.tv (.int k) (mnI x y)) U0 else none
    | _, _ => none)
  | .rng x => (match ev G S x with
    | .tv .str s => K (.obj nid) ⟨[(nid, some (.iter s 0))], 1⟩
    | _ => none)
  | .nxt x => (match ev G S x with
    | .obj id => (match hget S.H id with
      | some (.iter s pos) => bif decide (pos < s.length) then
          K (.tup (.cons (.tv .bool true) (.cons (.tv (.int .i64) (pos : Int)) (.cons (.tv (.int .i32) ((Utf8.decode ⟨s.toArray⟩ pos).1 : Int)) .nil))))
            ⟨[(id, some (.iter s (pos + (Utf8.decode ⟨s.toArray⟩ pos).2)))], 0⟩
        else K (.tup (.cons (.tv .bool false) .nil)) U0
      | _ => none)
    | _ => none)

end
end Go.Av

/-
  When a loaded operation is one of the abstract machine's.
-/
namespace Go.Av

def TypeDesc.agg : TypeDesc → Bool
  | .struct _ => true
  | .array _ _ => true
  | _ => false

def aggOf (P : Program) (t : TypeId) : Bool :=
  match P.underlying t with
  | some d => TypeDesc.agg d
  | none => false

def hasTy (P : Program) (t : TypeId) : Bool := (P.underlying t).isSome && (P.info? t).isSome

/-- Of a type: so many cells, an aggregate or not. -/
def isSz (P : Program) (t : TypeId) (n : Nat) (agg : Bool) : Bool := hasTy P t && Nat.beq (P.cellsOf t) n && (aggOf P t == agg) && (agg || Nat.beq n 1)

def zeroIs (P : Program) (t : TypeId) (sh : Sh) : Bool :=
  match P.info? t with
  | some i => (match i.zero with
    | some z => (match sh.fits z.cells.toList with | some [] => true | _ => false)
    | none => false)
  | none => false

def fieldOf (P : Program) (t : TypeId) (i : Nat) : Option Field :=
  match P.underlying t with
  | some (.struct fs) => fs[i]?
  | _ => none

def arrOf (P : Program) (t : TypeId) : Option (Nat × TypeId) :=
  match P.underlying t with
  | some (.array n e) => some (n, e)
  | _ => none

def slOf (P : Program) (t : TypeId) : Option TypeId :=
  match P.underlying t with
  | some (.slice e) => some e
  | _ => none

def isStr (P : Program) (t : TypeId) : Bool :=
  match P.underlying t with
  | some .string => true
  | _ => false

def isInt (P : Program) (t : TypeId) (k : IntKind) : Bool :=
  match P.underlying t with
  | some (.int k') => kEq k k'
  | _ => false

/-- An element type of rows: its cells, its bytes, its zero value. -/
def elOk (P : Program) (t : TypeId) (e : Ty) : Bool :=
  match P.info? t with
  | some i => Nat.beq i.size e.n && Nat.ble 1 i.size && Nat.ble i.bytes 16384 && (match i.zero with
    | some z => (match takeEq (zc e) z.cells.toList with | some [] => true | _ => false)
    | none => false)
  | none => false

def teqs (P : Program) (rec : TypeId → Ty → Bool) : Nat → List Field → Ty → Bool
  | _, [], .nil => true
  | off, f :: fs, .pr a b => (f.name != "_") && Nat.beq f.offset off && Nat.beq (P.cellsOf f.type) a.n && hasTy P f.type && (aggOf P f.type == a.isAgg) && rec f.type a && teqs P rec (off + a.n) fs b
  | _, _, _ => false

/-- A type whose values '==' holds against each other as trees of this type. -/
def teq (P : Program) : Nat → TypeId → Ty → Bool
  | 0, _, _ => false
  | d + 1, t, τ =>
    match P.underlying t, τ with
    | some (.int k), .int k' => kEq k k'
    | some .bool, .bool => true
    | some .string, .str => true
    | some (.array n e), .arr m σ => Nat.beq n m && Nat.beq (P.cellsOf e) σ.n && hasTy P e && (aggOf P e == σ.isAgg) && teq P d e σ
    | some (.struct fs), τ => !P.stoodInHeld t && teqs P (teq P d) 0 fs.toList τ
    | _, _ => false

def mapOf (P : Program) (t : TypeId) : Option (TypeId × TypeId) :=
  match P.underlying t with
  | some (.map k e) => some (k, e)
  | _ => none

/-- A map from keys of this type to whole numbers. -/
def mapOk (P : Program) (t : TypeId) (κ : Ty) : Bool :=
  match mapOf P t with
  | some (k, e) => (match κ with | .int q => isInt P k q | .str => isStr P k | _ => false) && (match P.info? e with
    | some i => (match i.zero with | some (.int .i64 0) => true | _ => false)
    | none => false)
  | none => false

def cok : AV → Value → Bool
  | .tv (.int k) n, .int k' n' => kEq k k' && decide ((n : Int) = n')
  | .tv .bool b, .bool b' => decide ((b : Bool) = b')
  | .tv .str s, .string s' => decide ((s : List UInt8) = s'.data.toList)
  | .tv (.sl _) xs, .slice none 0 0 => xs.isEmpty
  | .nilp, .pointer none => true
  | .nilf, .nilFunc => true
  | _, _ => false

def mo : Opd → Operand → Bool
  | .t s, .tmp s' => Nat.beq s s'
  | .c (.fn f .nil .nil), .func f' => Nat.beq f f'
  | .c a, .const v => cok a v
  | .z τ, .const (.agg cs) => τ.isAgg && (match takeEq (zc τ) cs.toList with | some [] => true | _ => false)
  | .g n, .global n' => Nat.beq n n'
  | _, _ => false

def mos : List Opd → List Operand → Bool
  | [], [] => true
  | x :: xs, y :: ys => mo x y && mos xs ys
  | _, _ => false

def moo : Option Opd → Option Operand → Bool
  | none, none => true
  | some x, some y => mo x y
  | _, _ => false

/-- A literal's parts. -/
def mparts (place : Nat → Option (Nat × Nat)) : List (Nat × Step × Nat × Opd) → List (Nat × Operand) → Bool
  | [], [] => true
  | (i, s, n, x) :: r, (i', y) :: r' => Nat.beq i i' && mo x y && (match place i with | some (o, m) => Nat.beq s.off o && Nat.beq n m | none => false) &&
      (match s with | .fld _ _ => true | .idx i n _ => Nat.blt i n) && mparts place r r'
  | _, _ => false

def mpartsS : Nat → List Opd → List (Nat × Operand) → Bool
  | _, [], [] => true
  | k, x :: r, (i, y) :: r' => Nat.beq i k && mo x y && mpartsS (k + 1) r r'
  | _, _, _ => false

def fieldsOf (P : Program) (t : TypeId) : Option (Array Field) :=
  match P.underlying t with
  | some (.struct fs) => some fs
  | _ => none

def negOf (op : BinOp) (neg : Bool) : Bool :=
  match op with
  | .eql => !neg
  | .neq => neg
  | _ => false

def binEq : BinOp → BinOp → Bool
  | a, b => decide (a = b)

def mop (P : Program) : AOp → Op → Bool
  | .mv x, .move y => mo x y
  | .mv x, .assign y => mo x y
  | .pick c a b, .pick c' a' b' => mo c c' && mo a a' && mo b b'
  | .alloc T sh, .alloc t => Nat.beq T t && zeroIs P t sh
  | .box x, .box _ y => mo x y
  | .build T sh parts, .build t ps => Nat.beq T t && zeroIs P t sh && sh.agg &&
      (match P.underlying t with
      | some (.struct fs) => (fs.toList.all fun f => hasTy P f.type) && mparts (fun i => (fs[i]?).map fun f => (f.offset, P.cellsOf f.type)) parts ps.toList
      | some (.array _ e) => hasTy P e && mparts (fun i => some (i * P.cellsOf e, P.cellsOf e)) parts ps.toList
      | _ => false)
  | .bslice e parts, .buildSlice t len ps => (match slOf P t with
      | some e' => elOk P e' e && Nat.beq parts.length len && Nat.ble (len * e.n) 16777216 && mpartsS 0 parts ps.toList
      | none => false)
  | .load agg n x, .load t y => isSz P t n agg && mo x y
  | .store n _ x v, .store t a y => hasTy P t && Nat.beq (P.cellsOf t) n && mo x a && mo v y
  | .nilc x, .nilCheck y => mo x y
  | .bin op x y, .binOp op' _ a b _ => binEq op op' && mo x a && mo y b
  | .eqa neg τ x y, .binOp op T a b _ => negOf op neg && τ.isAgg && τ.eqs && teq P 100 T τ && !P.eqGuardType P.depth T && mo x a && mo y b
  | .eqb neg x y, .binOp op T a b _ => negOf op neg && (match P.underlying T with | some .bool => true | _ => false) && mo x a && mo y b
  | .eqp neg x y, .binOp op T a b _ => negOf op neg && (match P.underlying T with | some (.pointer _) => true | _ => false) && mo x a && mo y b
  | .eqf neg x y, .binOp op T a b _ => negOf op neg && (match P.underlying T with | some (.func ..) => true | _ => false) && mo x a && mo y b
  | .eqn neg x, .binOp op T a (.const (.slice none 0 0)) _ => negOf op neg && (slOf P T).isSome && mo x a
  | .un op x, .unOp op' _ y => decide (op = op') && mo x y
  | .conv k x, .convert s d y => (P.underlying s).isSome && isInt P d k && mo x y
  | .bstr x, .convert s d y => (match slOf P s with | some e => isInt P e .u8 | none => false) && isStr P d && mo x y
  | .mkfn f first caps, .makeFunc (.func f') fi captured => Nat.beq f f' && mos first fi.toList && mos caps captured.toList
  | .mkslice e n c, .makeSlice t l k => (match slOf P t with | some e' => elOk P e' e | none => false) && mo n l && mo c k
  | .slis x lo hi, .slice t y l h m => isStr P t && m.isNone && mo x y && moo lo l && moo hi h
  | .slia e x lo hi, .slice t y l h m => (match slOf P t with | some e' => elOk P e' e | none => false) && m.isNone && mo x y && moo lo l && moo hi h
  | .fad i off x, .fieldAddr t y f => Nat.beq i f && (match fieldOf P t f with | some fd => Nat.beq fd.offset off && hasTy P fd.type && !Nat.beq (P.cellsOf fd.type) 0 | none => false) && mo x y
  | .fld i off n agg x, .field t y f => Nat.beq i f && (match fieldOf P t f with | some fd => Nat.beq fd.offset off && isSz P fd.type n agg | none => false) && mo x y
  | .iad n sz x i, .indexAddr t y j => (match arrOf P t with | some (m, e) => Nat.beq n m && hasTy P e && Nat.beq (P.cellsOf e) sz | none => false) && mo x y && mo i j
  | .iads e x i, .indexAddr t y j => (match slOf P t with | some e' => elOk P e' e | none => false) && mo x y && mo i j
  | .ix n sz agg x i, .index t y j => (match arrOf P t with | some (m, e) => Nat.beq n m && isSz P e sz agg | none => false) && mo x y && mo i j
  | .ixs x i, .index t y j => isStr P t && mo x y && mo i j
  | .ext x i, .extract y j => Nat.beq i j && mo x y
  | .app e x y, .call c => (match c.callee, c.args.toList, c.argTypes.toList with
      | .builtin .append, [a, b], [t, tx] => (match slOf P t with | some e' => elOk P e' e | none => false) && ((slOf P tx).isSome || isStr P tx) && mo x a && mo y b
      | _, _, _ => false)
  | .len x, .call c => (match c.callee, c.args.toList, c.argTypes.toList with
      | .builtin .len, [a], [t] => (slOf P t).isSome && mo x a
      | _, _, _ => false)
  | .lens x, .call c => (match c.callee, c.args.toList, c.argTypes.toList with
      | .builtin .len, [a], [t] => isStr P t && mo x a
      | _, _, _ => false)
  | .lenc n x, .call c => (match c.callee, c.args.toList, c.argTypes.toList with
      | .builtin .len, [a], [t] => (match arrOf P t with | some (m, _) => Nat.beq n m | none => false) && mo x a
      | _, _, _ => false)
  | .mx x y, .call c => (match c.callee, c.args.toList with
      | .builtin .max, [a, b] => mo x a && mo y b
      | _, _ => false)
  | .mn x y, .call c => (match c.callee, c.args.toList with
      | .builtin .min, [a, b] => mo x a && mo y b
      | _, _ => false)
  | .rng x, .range t y => isStr P t && mo x y
  | .nxt x, .next y isS => isS && mo x y
  | .mkmap κ, .makeMap t none => mapOk P t κ
  | .mlook κ ok m k, .lookup t m' k' ok' => (ok == ok') && mapOk P t κ && mo m m' && mo k k'
  | .mput κ m k v, .mapUpdate t m' k' v' => mapOk P t κ && mo m m' && mo k k' && mo v v'
  | .ment κ m k, .mapEntry t m' k' => mapOk P t κ && mo m m' && mo k k'
  | .mest m s v, .entryStore _ m' s' v' => mo m m' && mo s s' && mo v v'
  | .bad, _ => true
  | .nrow _, .move (.const (.slice none 0 0)) => true
  | .nrow _, .assign (.const (.slice none 0 0)) => true
  | _, _ => false

end Go.Av

/-
  Each operation of the abstract machine is the machine's: those that leave memory alone.
-/
namespace Go.Av

theorem veq_eq {a b : Value} (h : veq a b = true) : a = b := by
  unfold veq at h
  split at h
  · simp only [Bool.and_eq_true, decide_eq_true_eq] at h
    rw [h.1, h.2]
  · simp only [decide_eq_true_eq] at h; rw [h]
  · rename_i s s'
    simp only [decide_eq_true_eq] at h
    congr 1
    obtain ⟨⟨l⟩⟩ := s
    obtain ⟨⟨l'⟩⟩ := s'
    simp at h
    rw [h]
  · simp only [Bool.and_eq_true] at h
    rw [Nat.eq_of_beq_eq_true h.1, Nat.eq_of_beq_eq_true h.2]
  · rfl
  · cases h

theorem takeEq_eq : ∀ {xs cs r : List Value}, takeEq xs cs = some r → cs = xs ++ r
  | [], cs, r, h => by simp only [takeEq, Option.some.injEq] at h; simpa using h
  | x :: xs, [], r, h => by simp [takeEq] at h
  | x :: xs, y :: ys, r, h => by
    simp only [takeEq] at h
    cases hv : veq x y with
    | false => simp [hv] at h
    | true =>
      simp only [hv, cond_true] at h
      rw [← veq_eq hv, takeEq_eq h]; rfl

theorem RowC_replicate {α : Type} {R : α → List Value → Prop} {x : α} {c : List Value} (h : R x c) : ∀ n, RowC R (List.replicate n x) (List.replicate n c).flatten
  | 0 => by simp [RowC]
  | n + 1 => by
    rw [List.replicate_succ, List.replicate_succ, List.flatten_cons]
    exact ⟨c, _, rfl, h, RowC_replicate h n⟩

theorem TC_zero (M : Mem) : ∀ τ : Ty, TC M τ τ.zero (zc τ)
  | .int _ => rfl
  | .bool => rfl
  | .str => rfl
  | .sl _ => ⟨none, 0, rfl, [], rfl, .inl rfl, Nat.le_refl _⟩
  | .arr n e => ⟨by simp [Ty.zero], RowC_replicate (TC_zero M e) n⟩
  | .pr a b => ⟨zc a, zc b, rfl, TC_zero M a, TC_zero M b⟩
  | .nil => rfl

theorem AVV_of {M : Mem} {μ : Map} {a : AV} {c : List Value} {v : Value} (h : AVC M μ a c) (hv : VofC a.isAgg c v) : AVV M μ a v := by
  cases a with
  | dead => trivial
  | tup l => simp only [AVC] at h
  | _ => exact ⟨c, h, hv⟩

theorem AVV_tv {M : Mem} {μ : Map} {τ : Ty} {x : τ.T} {v : Value} : AVV M μ (.tv τ x) v ↔ ∃ c, TC M τ x c ∧ VofC τ.isAgg c v := by
  simp only [AVV, AVC, AV.isAgg]

theorem AVV_int {M : Mem} {μ : Map} {k : IntKind} {n : Int} {v : Value} : AVV M μ (.tv (.int k) n) v ↔ v = .int k n := by
  rw [AVV_tv]
  simp only [TC, VofC, Ty.isAgg, cond_false]
  constructor
  · rintro ⟨c, rfl, h⟩; simpa using h.symm
  · rintro rfl; exact ⟨_, rfl, rfl⟩
theorem AVV_bool {M : Mem} {μ : Map} {b : Bool} {v : Value} : AVV M μ (.tv .bool b) v ↔ v = .bool b := by
  rw [AVV_tv]
  simp only [TC, VofC, Ty.isAgg, cond_false]
  constructor
  · rintro ⟨c, rfl, h⟩; simpa using h.symm
  · rintro rfl; exact ⟨_, rfl, rfl⟩
theorem AVV_str {M : Mem} {μ : Map} {s : List UInt8} {v : Value} : AVV M μ (.tv .str s) v ↔ v = .string ⟨s.toArray⟩ := by
  rw [AVV_tv]
  simp only [TC, VofC, Ty.isAgg, cond_false]
  constructor
  · rintro ⟨c, rfl, h⟩; simpa using h.symm
  · rintro rfl; exact ⟨_, rfl, rfl⟩

theorem cok_ok {M : Mem} {μ : Map} {a : AV} {v : Value} (h : cok a v = true) : AVV M μ a v := by
  unfold cok at h
  split at h
  · simp only [kEq, Bool.and_eq_true, decide_eq_true_eq] at h
    rw [AVV_int, h.1, h.2]
  · simp only [decide_eq_true_eq] at h
    rw [AVV_bool, h]
  · rename_i s s'
    simp only [decide_eq_true_eq] at h
    rw [AVV_str, h]
  · rename_i e xs
    have : xs = [] := by simpa using h
    subst this
    rw [AVV_tv]
    exact ⟨[.slice none 0 0], ⟨none, 0, rfl, [], rfl, .inl rfl, Nat.le_refl _⟩, rfl⟩
  · exact ⟨[.pointer none], by simp only [AVC], rfl⟩
  · exact ⟨[.nilFunc], by simp only [AVC], rfl⟩
  · cases h

/-- The package-level tables, as they lie. -/
def GlobOk (M : Mem) (G : Nat → AV) : Prop := ∀ μ n, AVV M μ (G n) (.pointer (some ⟨n, 0, none⟩))
theorem GlobOk.mono {M M' : Mem} {G : Nat → AV} (h : GlobOk M G) (hM : M.le M') : GlobOk M' G := fun μ n => (h μ n).mono hM (Map.le.refl μ)

def EnvOk (M : Mem) (μ : Map) (S : St) (a : Act) : Prop := ∀ t, AVV M μ (S.get t) (a.tmps.getD t undef)

theorem mo_ok {M : Mem} {μ : Map} {G : Nat → AV} {S : St} {a : Act} (hG : GlobOk M G) (hE : EnvOk M μ S a) {x : Opd} {y : Operand} (h : mo x y = true) : AVV M μ (ev G S x) (a.eval y) := by
  unfold mo at h
  split at h
  · rw [Nat.eq_of_beq_eq_true h]; exact hE _
  · rw [Nat.eq_of_beq_eq_true h]
    rename_i f'
    show AVV M μ (.fn f' .nil .nil) (.func (.func f') #[] #[])
    exact ⟨[.func (.func f') #[] #[]], by simp only [AVC, AVL]; exact ⟨[], [], rfl, rfl, rfl⟩, rfl⟩
  · exact cok_ok h
  · rename_i τ cs
    simp only [Bool.and_eq_true] at h
    obtain ⟨h1, h2⟩ := h
    split at h2
    · rename_i hq
      have := takeEq_eq hq
      show AVV M μ (.tv τ τ.zero) (.agg cs)
      rw [AVV_tv]
      refine ⟨zc τ, TC_zero M τ, ?_⟩
      rw [h1]
      simp only [VofC, cond_true]
      rw [List.append_nil] at this
      rw [← this]
    · cases h2
  · rw [Nat.eq_of_beq_eq_true h]; exact hG μ _
  · cases h

theorem AVV_live {M : Mem} {μ : Map} {a : AV} {v : Value} (h : AVV M μ a v) (hl : a.live = true) : ∃ c, AVC M μ a c ∧ VofC a.isAgg c v := by
  cases a with
  | dead => cases hl
  | tup l => cases hl
  | _ => exact h

theorem mos_ok {M : Mem} {μ : Map} {G : Nat → AV} {S : St} {a : Act} (hG : GlobOk M G) (hE : EnvOk M μ S a) : ∀ {xs : List Opd} {ys : List Operand}, mos xs ys = true → allLive (xs.map (ev G S)) = true → AVL M μ (chainOf (xs.map (ev G S))) (ys.map a.eval)
  | [], [], _, _ => by simp only [List.map_nil, chainOf, AVL]
  | x :: xs, y :: ys, h, hl => by
    simp only [mos, Bool.and_eq_true] at h
    simp only [List.map_cons, allLive, Bool.and_eq_true] at hl
    obtain ⟨cs, h1, h2⟩ := AVV_live (mo_ok hG hE h.1) hl.1
    simp only [List.map_cons, chainOf, AVL]
    exact ⟨_, _, cs, rfl, h1, h2, mos_ok hG hE h.2 hl.2⟩
  | [], _ :: _, h, _ => by simp [mos] at h
  | _ :: _, [], h, _ => by simp [mos] at h

/-- What an operation comes to. -/
def OpOk (c : Ctx) (M : Mem) (μ : Map) (H : Hp) (nid : Nat) (r : Result Next) (v : AV) (u : Upd) : Prop :=
  ∃ M' μ' v' w', (r = .ok (.value v') w' ∨ (r = .ok .skip w' ∧ v' = undef)) ∧ M.le M' ∧ μ.le μ' ∧ Hold c M' μ' (u.hs ++ H) w' ∧ AVV M' μ' v v' ∧ ∀ i, μ' i ≠ none → μ i ≠ none ∨ (nid ≤ i ∧ i < nid + u.na)

theorem OpOk.same {c : Ctx} {M : Mem} {μ : Map} {H : Hp} {nid : Nat} {w : World} {r : Result Next} {v : AV} {v' : Value} (hH : Hold c M μ H w) (hr : r = .ok (.value v') w) (hv : AVV M μ v v') : OpOk c M μ H nid r v U0 :=
  ⟨M, μ, v', w, .inl hr, Mem.le.refl _, Map.le.refl _, hH, hv, fun _ h => .inl h⟩

section
variable {P : Program} {c : Ctx} {M : Mem} {μ : Map} {G : Nat → AV} {S : St} {a : Act} {w : World} {nid : Nat} {o : Oper}

/-- What an operation is proved under. -/
structure Pre (P : Program) (c : Ctx) (M : Mem) (μ : Map) (G : Nat → AV) (S : St) (a : Act) (w : World) : Prop where
  hold : Hold c M μ S.H w
  glob : GlobOk M G
  env : EnvOk M μ S a

abbrev aopO (G : Nat → AV) (op : AOp) (S : St) (nid : Nat) : Option (AV × Upd) := aop G op S nid fun v u => some (v, u)

def Sound (P : Program) (op : AOp) : Prop :=
  ∀ {c : Ctx} {M : Mem} {μ : Map} {G : Nat → AV} {S : St} {a : Act} {w : World} {nid : Nat} {o : Oper} {v : AV} {u : Upd}, Pre P c M μ G S a w → mop P op o.op = true → aopO G op S nid = some (v, u) →
    (∀ i, nid ≤ i → i < nid + u.na → μ i = none) → OpOk c M μ S.H nid ((execOp a.eval o).run P w) v u

theorem sound_bad : Sound P .bad := by
  intro c M μ G S a w nid o v u hp hm hr _
  cases hr

theorem sound_mv (x : Opd) : Sound P (.mv x) := by
  intro c M μ G S a w nid o v u hp hm hr _
  simp only [aopO, aop, Option.some.injEq, Prod.mk.injEq] at hr
  obtain ⟨rfl, rfl⟩ := hr
  generalize hq : o.op = q at hm
  cases q <;> simp only [mop, Bool.false_eq_true] at hm
  all_goals exact OpOk.same hp.hold (by simp only [execOp, hq, Sem.run_pure]) (mo_ok hp.glob hp.env hm)

theorem sound_pick (x y z : Opd) : Sound P (.pick x y z) := by
  intro c M μ G S a w nid o v u hp hm hr _
  generalize hq : o.op = q at hm
  cases q <;> simp only [mop, Bool.false_eq_true, Bool.and_eq_true] at hm
  rename_i x' y' z'
  obtain ⟨⟨h1, h2⟩, h3⟩ := hm
  have hx := mo_ok hp.glob hp.env h1
  have hy := mo_ok hp.glob hp.env h2
  have hz := mo_ok hp.glob hp.env h3
  simp only [aopO, aop] at hr
  split at hr
  · rename_i b hb
    rw [hb, AVV_bool] at hx
    have hrun : (execOp a.eval o).run P w = .ok (.value (if b then a.eval y' else a.eval z')) w := by
      simp only [execOp, hq, hx, asBool, Sem.run_bind, Sem.run_pure, Result.andThen_ok]
    split at hr
    · rename_i τ u1 σ v1 e1 e2
      split at hr
      · rename_i h
        subst h
        simp only [Option.some.injEq, Prod.mk.injEq] at hr
        obtain ⟨rfl, rfl⟩ := hr
        rw [e1] at hy
        rw [e2] at hz
        refine OpOk.same hp.hold hrun ?_
        cases b <;> simp <;> assumption
      · cases hr
    · cases b
      · simp only [cond_false, Option.some.injEq, Prod.mk.injEq] at hr
        obtain ⟨rfl, rfl⟩ := hr
        exact OpOk.same hp.hold hrun (by simpa using hz)
      · simp only [cond_true, Option.some.injEq, Prod.mk.injEq] at hr
        obtain ⟨rfl, rfl⟩ := hr
        exact OpOk.same hp.hold hrun (by simpa using hy)
  · cases hr

theorem sound_nilc (x : Opd) : Sound P (.nilc x) := by
  intro c M μ G S a w nid o v u hp hm hr _
  generalize hq : o.op = q at hm
  cases q <;> simp only [mop, Bool.false_eq_true] at hm
  rename_i x'
  have hx := mo_ok hp.glob hp.env hm
  simp only [aopO, aop] at hr
  split at hr
  · rename_i id p hb
    simp only [Option.some.injEq, Prod.mk.injEq] at hr
    obtain ⟨rfl, rfl⟩ := hr
    rw [hb] at hx
    have hx' := hx
    obtain ⟨cs, h1, h2⟩ := hx
    simp only [AVC] at h1
    obtain ⟨l, b, _, _, rfl, _⟩ := h1
    simp only [VofC, AV.isAgg, cond_false, List.cons.injEq, and_true] at h2
    refine OpOk.same hp.hold (v' := a.eval x') ?_ hx'
    simp only [execOp, hq, ← h2, Sem.run_pure]
  · rename_i τ y hb
    simp only [Option.some.injEq, Prod.mk.injEq] at hr
    obtain ⟨rfl, rfl⟩ := hr
    rw [hb] at hx
    have hx' := hx
    obtain ⟨cs, h1, h2⟩ := hx
    simp only [AVC] at h1
    obtain ⟨b, o1, es, rfl, _⟩ := h1
    simp only [VofC, AV.isAgg, cond_false, List.cons.injEq, and_true] at h2
    refine OpOk.same hp.hold (v' := a.eval x') ?_ hx'
    simp only [execOp, hq, ← h2, Sem.run_pure]
  · rename_i f c1 hb
    simp only [Option.some.injEq, Prod.mk.injEq] at hr
    obtain ⟨rfl, rfl⟩ := hr
    rw [hb] at hx
    have hx' := hx
    obtain ⟨cs, h1, h2⟩ := hx
    simp only [AVC] at h1
    obtain ⟨us, vs, rfl, _⟩ := h1
    simp only [VofC, AV.isAgg, cond_false, List.cons.injEq, and_true] at h2
    refine OpOk.same hp.hold (v' := a.eval x') ?_ hx'
    simp only [execOp, hq, ← h2, Sem.run_pure]
  · cases hr

end
end Go.Av

/-
  Each operation of the abstract machine is the machine's: numbers, texts, tests.
-/
namespace Go.Av
section
variable {P : Program}

theorem run_eqGuard_plain (op : BinOp) (t : TypeId) (x y : Operand) (a b : Value) (w : World) (h1 : a.oneCell' = true) (h2 : a ≠ .nilIface) : (eqGuard op t x y a b).run P w = .ok () w := by
  unfold eqGuard
  split
  · rw [if_neg (by simp)]
    cases a <;> first | rfl | (exact absurd rfl h2) | (cases h1)
  · rw [if_neg (by simp)]
    cases a <;> first | rfl | (exact absurd rfl h2) | (cases h1)
  · rw [if_pos (by simp)]; rfl

theorem beq_dec (x y : List UInt8) : (x == y) = decide (x = y) := by rw [Bool.eq_iff_iff]; simp

theorem bin_int {op : BinOp} {T : TypeId} {k k' : IntKind} {x y : Int} {v : AV} {u : Upd} {w : World} {x' y' : Operand} (h : binI op k k' x y (fun v => some (v, U0)) = some (v, u)) {c : Ctx} {M : Mem} {μ : Map} {H : Hp} {nid : Nat} (hH : Hold c M μ H w) {r : Result Next}
    (hr : r = (((eqGuard op T x' y' (.int k x) (.int k' y)).run P w).andThen (fun _ w' => ((binOp op T (.int k x) (.int k' y)).run P w'))).andThen fun v w' => .ok (.value v) w') : OpOk c M μ H nid r v u := by
  rw [run_eqGuard_plain op T x' y' _ _ w rfl (by intro h; cases h), Result.andThen_ok] at hr
  unfold binI at h
  split at h
  · cases hy : decide (y < 0) with
    | true => simp [hy] at h
    | false =>
      rw [hy] at h
      have hy' : ¬ y < 0 := of_decide_eq_false hy
      simp only [cond_false, Option.some.injEq, Prod.mk.injEq] at h
      obtain ⟨rfl, rfl⟩ := h
      refine OpOk.same hH (v' := .int k (shlI k x y)) ?_ (AVV_int.2 rfl)
      rw [hr]
      simp [binOp, Op.shift, hy', shlI]
  · cases hy : decide (y < 0) with
    | true => simp [hy] at h
    | false =>
      rw [hy] at h
      have hy' : ¬ y < 0 := of_decide_eq_false hy
      simp only [cond_false, Option.some.injEq, Prod.mk.injEq] at h
      obtain ⟨rfl, rfl⟩ := h
      refine OpOk.same hH (v' := .int k (shrI k x y)) ?_ (AVV_int.2 rfl)
      rw [hr]
      simp [binOp, Op.shift, hy', shrI]
  · cases hk : kEq k k' with
    | false => simp [hk] at h
    | true =>
      have : k = k' := of_decide_eq_true hk
      subst this
      rw [hk] at h
      simp only [cond_true] at h
      split at h
      case h_4 =>
        cases hy : decide (y = 0) with
        | true => simp [hy] at h
        | false =>
          rw [hy] at h
          have hy' : ¬ y = 0 := of_decide_eq_false hy
          simp only [cond_false, Option.some.injEq, Prod.mk.injEq] at h
          obtain ⟨rfl, rfl⟩ := h
          refine OpOk.same hH (v' := .int k (k.wrap (x.tdiv y))) ?_ (AVV_int.2 rfl)
          rw [hr]
          simp [binOp, Op.intDiv, hy']
      case h_5 =>
        cases hy : decide (y = 0) with
        | true => simp [hy] at h
        | false =>
          rw [hy] at h
          have hy' : ¬ y = 0 := of_decide_eq_false hy
          simp only [cond_false, Option.some.injEq, Prod.mk.injEq] at h
          obtain ⟨rfl, rfl⟩ := h
          refine OpOk.same hH (v' := .int k (x.tmod y)) ?_ (AVV_int.2 rfl)
          rw [hr]
          simp [binOp, Op.intDiv, hy']
      case h_16 => cases h
      all_goals
        simp only [Option.some.injEq, Prod.mk.injEq] at h
        obtain ⟨rfl, rfl⟩ := h
      case h_1 => exact OpOk.same hH (v' := .int k (k.wrap (x + y))) (by rw [hr]; simp [binOp, Op.intArith]) (AVV_int.2 rfl)
      case h_2 => exact OpOk.same hH (v' := .int k (k.wrap (x - y))) (by rw [hr]; simp [binOp, Op.intArith]) (AVV_int.2 rfl)
      case h_3 => exact OpOk.same hH (v' := .int k (k.wrap (x * y))) (by rw [hr]; simp [binOp, Op.intArith]) (AVV_int.2 rfl)
      case h_6 => exact OpOk.same hH (v' := .int k (bitop .and k x y)) (by rw [hr]; simp [binOp, Op.intBits, bitop]) (AVV_int.2 rfl)
      case h_7 => exact OpOk.same hH (v' := .int k (bitop .or k x y)) (by rw [hr]; simp [binOp, Op.intBits, bitop]) (AVV_int.2 rfl)
      case h_8 => exact OpOk.same hH (v' := .int k (bitop .xor k x y)) (by rw [hr]; simp [binOp, Op.intBits, bitop]) (AVV_int.2 rfl)
      case h_9 => exact OpOk.same hH (v' := .int k (bitop .andNot k x y)) (by rw [hr]; simp [binOp, Op.intBits, bitop]) (AVV_int.2 rfl)
      case h_10 => exact OpOk.same hH (v' := .bool (decide (x = y))) (by rw [hr]; simp [binOp, Op.intCmp]; rfl) (AVV_bool.2 rfl)
      case h_11 => exact OpOk.same hH (v' := .bool (!decide (x = y))) (by rw [hr]; simp [binOp, Op.intCmp]; rfl) (AVV_bool.2 rfl)
      case h_12 => exact OpOk.same hH (v' := .bool (decide (x < y))) (by rw [hr]; simp [binOp, Op.intCmp]) (AVV_bool.2 rfl)
      case h_13 => exact OpOk.same hH (v' := .bool (decide (x ≤ y))) (by rw [hr]; simp [binOp, Op.intCmp]) (AVV_bool.2 rfl)
      case h_14 => exact OpOk.same hH (v' := .bool (decide (y < x))) (by rw [hr]; simp [binOp, Op.intCmp]) (AVV_bool.2 rfl)
      case h_15 => exact OpOk.same hH (v' := .bool (decide (y ≤ x))) (by rw [hr]; simp [binOp, Op.intCmp]) (AVV_bool.2 rfl)

theorem toList_arr (s : List UInt8) : (ByteArray.mk s.toArray).toList = s := by
  rw [ByteArray.toList_eq]

theorem size_arr (s : List UInt8) : (ByteArray.mk s.toArray).size = s.length := by
  simp [ByteArray.size]

theorem append_arr (s t : List UInt8) : (ByteArray.mk s.toArray) ++ (ByteArray.mk t.toArray) = ByteArray.mk (s ++ t).toArray := by
  apply ByteArray.ext
  simp

theorem bin_str {op : BinOp} {T : TypeId} {x y : List UInt8} {v : AV} {u : Upd} {w : World} {x' y' : Operand} (h : binS op x y (fun v => some (v, U0)) = some (v, u)) {c : Ctx} {M : Mem} {μ : Map} {H : Hp} {nid : Nat} (hH : Hold c M μ H w) {r : Result Next}
    (hr : r = (((eqGuard op T x' y' (.string ⟨x.toArray⟩) (.string ⟨y.toArray⟩)).run P w).andThen (fun _ w' => ((binOp op T (.string ⟨x.toArray⟩) (.string ⟨y.toArray⟩)).run P w'))).andThen fun v w' => .ok (.value v) w') : OpOk c M μ H nid r v u := by
  rw [run_eqGuard_plain op T x' y' _ _ w rfl (by intro h; cases h), Result.andThen_ok] at hr
  unfold binS at h
  split at h
  · cases hy : decide (x.length + y.length ≤ strMax) with
    | false => simp [hy] at h
    | true =>
      rw [hy] at h
      have hy' : x.length + y.length ≤ strMax := of_decide_eq_true hy
      simp only [cond_true, Option.some.injEq, Prod.mk.injEq] at h
      obtain ⟨rfl, rfl⟩ := h
      refine OpOk.same hH (v' := .string ⟨(x ++ y).toArray⟩) ?_ (AVV_str.2 rfl)
      rw [hr]
      have h63 : ¬ (IntKind.i64.max < (((ByteArray.mk x.toArray).size + (ByteArray.mk y.toArray).size : Nat) : Int)) := by
        rw [size_arr, size_arr]
        have : IntKind.i64.max = 9223372036854775807 := by decide
        rw [this]
        simp only [strMax] at hy'
        omega
      simp only [binOp, Op.stringOp, Sem.run_pure, gt_iff_lt, h63, if_false, append_arr, Result.andThen_ok]
  · simp only [Option.some.injEq, Prod.mk.injEq] at h
    obtain ⟨rfl, rfl⟩ := h
    refine OpOk.same hH (v' := .bool (decide (x = y))) ?_ (AVV_bool.2 rfl)
    rw [hr]
    simp only [binOp, Op.stringOp, Sem.run_pure, Result.andThen_ok, toList_arr, beq_dec]
  · simp only [Option.some.injEq, Prod.mk.injEq] at h
    obtain ⟨rfl, rfl⟩ := h
    refine OpOk.same hH (v' := .bool (!decide (x = y))) ?_ (AVV_bool.2 rfl)
    rw [hr]
    simp only [binOp, Op.stringOp, Sem.run_pure, Result.andThen_ok, toList_arr, beq_dec]
  · cases h

theorem sound_bin (op : BinOp) (x y : Opd) : Sound P (.bin op x y) := by
  intro c M μ G S a w nid o v u hp hm hr _
  generalize hq : o.op = q at hm
  cases q <;> simp only [mop, Bool.false_eq_true, Bool.and_eq_true, binEq, decide_eq_true_eq] at hm
  rename_i op' T x' y' T'
  obtain ⟨⟨h1, h2⟩, h3⟩ := hm
  subst h1
  have hx := mo_ok hp.glob hp.env h2
  have hy := mo_ok hp.glob hp.env h3
  simp only [aopO, aop] at hr
  unfold binV at hr
  split at hr
  · rename_i k m k' n e1 e2
    rw [e1, AVV_int] at hx
    rw [e2, AVV_int] at hy
    exact bin_int hr hp.hold (P := P) (T := T) (x' := x') (y' := y') (by simp only [execOp, hq, hx, hy, Sem.run_bind, Sem.run_pure])
  · rename_i m n e1 e2
    rw [e1, AVV_str] at hx
    rw [e2, AVV_str] at hy
    exact bin_str hr hp.hold (P := P) (T := T) (x' := x') (y' := y') (by simp only [execOp, hq, hx, hy, Sem.run_bind, Sem.run_pure])
  · cases hr

end
end Go.Av

/-
  Each operation of the abstract machine is the machine's: tests for equality, conversions, parts of values.
-/
namespace Go.Av
section
variable {P : Program}

theorem negOf_eq {op : BinOp} {neg : Bool} (h : negOf op neg = true) : (op = .eql ∧ neg = false) ∨ (op = .neq ∧ neg = true) := by
  cases op <;> cases neg <;> simp_all [negOf]

theorem run_eq_of {op : BinOp} {neg : Bool} (hn : negOf op neg = true) {T : TypeId} {x y : Value} {b : Bool} {w : World} (hx : x.oneCell' = true) (hi : ∀ k n, x ≠ .int k n) (hs : ∀ s, x ≠ .string s) (hf : ∀ k n, x ≠ .float k n) (hc : ∀ k n m, x ≠ .complex k n m)
    (h : (Op.equal T x y).run P w = .ok b w) : (binOp op T x y).run P w = .ok (.bool (neg ^^ b)) w := by
  rcases negOf_eq hn with ⟨rfl, rfl⟩ | ⟨rfl, rfl⟩
  · have : binOp .eql T x y = (do pure (.bool (← Op.equal T x y))) := by
      cases x <;> first | rfl | (exact absurd rfl (hi _ _)) | (exact absurd rfl (hs _)) | (exact absurd rfl (hf _ _)) | (exact absurd rfl (hc _ _ _)) | (cases y <;> rfl)
    rw [this]
    simp [h]
  · have : binOp .neq T x y = (do pure (.bool (!(← Op.equal T x y)))) := by
      cases x <;> first | rfl | (exact absurd rfl (hi _ _)) | (exact absurd rfl (hs _)) | (exact absurd rfl (hf _ _)) | (exact absurd rfl (hc _ _ _)) | (cases y <;> rfl)
    rw [this]
    simp [h]

theorem eq_ok {op : BinOp} {neg : Bool} (hn : negOf op neg = true) {T : TypeId} {x y : Value} {x' y' : Operand} {b : Bool} {w : World} (hx : x.oneCell' = true) (hni : x ≠ .nilIface) (hi : ∀ k n, x ≠ .int k n) (hs : ∀ s, x ≠ .string s) (hf : ∀ k n, x ≠ .float k n) (hc : ∀ k n m, x ≠ .complex k n m)
    (h : (Op.equal T x y).run P w = .ok b w) {c : Ctx} {M : Mem} {μ : Map} {H : Hp} {nid : Nat} (hH : Hold c M μ H w) {r : Result Next}
    (hr : r = (((eqGuard op T x' y' x y).run P w).andThen (fun _ w' => (binOp op T x y).run P w')).andThen fun v w' => .ok (.value v) w') : OpOk c M μ H nid r (.tv .bool (neg ^^ b)) U0 := by
  rw [run_eqGuard_plain op T x' y' x y w hx hni, Result.andThen_ok, run_eq_of hn hx hi hs hf hc h, Result.andThen_ok] at hr
  exact OpOk.same hH hr (AVV_bool.2 rfl)

theorem equalIn_ptr {T e : TypeId} (hT : P.underlying T = some (.pointer e)) (d : Nat) (p q : Option Addr) (w : World) (h : p = none ∨ q = none) : (Op.equalIn (d + 1) T (.pointer p) (.pointer q)).run P w = .ok (p.isNone && q.isNone) w := by
  rcases h with rfl | rfl
  · simp [Op.equalIn, run_underlying hT]
  · cases p <;> simp [Op.equalIn, run_underlying hT]

theorem equalIn_fn {T : TypeId} {e1 e2 : Array TypeId} {e3 : Bool} (hT : P.underlying T = some (.func e1 e2 e3)) (d : Nat) (w : World) :
    (Op.equalIn (d + 1) T .nilFunc .nilFunc).run P w = .ok true w ∧ (∀ f a b, (Op.equalIn (d + 1) T .nilFunc (.func f a b)).run P w = .ok false w) ∧ ∀ f a b, (Op.equalIn (d + 1) T (.func f a b) .nilFunc).run P w = .ok false w := by
  refine ⟨?_, ?_, ?_⟩ <;> (try intro f a b) <;> simp [Op.equalIn, run_underlying hT]

theorem sound_eqb (neg : Bool) (x y : Opd) : Sound P (.eqb neg x y) := by
  intro c M μ G S a w nid o v u hp hm hr _
  generalize hq : o.op = q at hm
  cases q <;> simp only [mop, Bool.false_eq_true, Bool.and_eq_true] at hm
  rename_i op' T x' y' T'
  obtain ⟨⟨⟨hn, ht⟩, h2⟩, h3⟩ := hm
  have hx := mo_ok hp.glob hp.env h2
  have hy := mo_ok hp.glob hp.env h3
  split at ht
  case h_2 => cases ht
  rename_i hT
  simp only [aopO, aop, eqbV] at hr
  split at hr
  · rename_i b1 b2 e1 e2
    rw [e1, AVV_bool] at hx
    rw [e2, AVV_bool] at hy
    simp only [Option.some.injEq, Prod.mk.injEq] at hr
    obtain ⟨rfl, rfl⟩ := hr
    exact eq_ok hn (T := T) (x := .bool b1) (y := .bool b2) (x' := x') (y' := y') rfl (by intro h; cases h) (by intro _ _ h; cases h) (by intro _ h; cases h) (by intro _ _ h; cases h) (by intro _ _ _ h; cases h)
      (b := b1 == b2) (w := w) (run_equalIn_bool' w 9999 T b1 b2 hT) hp.hold (by simp only [execOp, hq, hx, hy, Sem.run_bind, Sem.run_pure])
  · cases hr

theorem AVV_nilp {M : Mem} {μ : Map} {v : Value} : AVV M μ .nilp v ↔ v = .pointer none := by
  simp only [AVV, AVC, VofC, AV.isAgg, cond_false]
  constructor
  · rintro ⟨c, rfl, h⟩; simpa using h.symm
  · rintro rfl; exact ⟨_, rfl, rfl⟩
theorem AVV_nilf {M : Mem} {μ : Map} {v : Value} : AVV M μ .nilf v ↔ v = .nilFunc := by
  simp only [AVV, AVC, VofC, AV.isAgg, cond_false]
  constructor
  · rintro ⟨c, rfl, h⟩; simpa using h.symm
  · rintro rfl; exact ⟨_, rfl, rfl⟩
theorem AVV_ptr {M : Mem} {μ : Map} {id : Nat} {p : List Step} {v : Value} : AVV M μ (.ptr id p) v ↔ ∃ l b, μ id = some l ∧ l.blk = some b ∧ v = .pointer (some ⟨b, pathOff p, none⟩) ∧ (∀ s ∈ p, s.okS) ∧ l.head p := by
  simp only [AVV, AVC, VofC, AV.isAgg, cond_false]
  constructor
  · rintro ⟨cs, ⟨l, b, h1, h2, rfl, h3⟩, h⟩
    exact ⟨l, b, h1, h2, by simpa using h.symm, h3⟩
  · rintro ⟨l, b, h1, h2, rfl, h3⟩
    exact ⟨_, ⟨l, b, h1, h2, rfl, h3⟩, rfl⟩
theorem AVV_row {M : Mem} {μ : Map} {id : Nat} {v : Value} : AVV M μ (.row id) v ↔ ∃ b len cap, μ id = some (.row b len cap) ∧ v = .slice (b.map fun b => ⟨b, 0, none⟩) len cap := by
  simp only [AVV, AVC, VofC, AV.isAgg, cond_false]
  constructor
  · rintro ⟨cs, ⟨b, len, cap, h1, rfl⟩, h⟩
    exact ⟨b, len, cap, h1, by simpa using h.symm⟩
  · rintro ⟨b, len, cap, h1, rfl⟩
    exact ⟨_, ⟨b, len, cap, h1, rfl⟩, rfl⟩
theorem AVV_fp {M : Mem} {μ : Map} {τ : Ty} {x : τ.T} {v : Value} : AVV M μ (.fp τ x) v ↔ ∃ b o es, v = .pointer (some ⟨b, o, none⟩) ∧ TC M τ x es ∧ ∀ j v, es[j]? = some v → M b (o + j) = some v := by
  simp only [AVV, AVC, VofC, AV.isAgg, cond_false]
  constructor
  · rintro ⟨cs, ⟨b, o, es, rfl, h1⟩, h⟩
    exact ⟨b, o, es, by simpa using h.symm, h1⟩
  · rintro ⟨b, o, es, rfl, h1⟩
    exact ⟨_, ⟨b, o, es, rfl, h1⟩, rfl⟩
theorem AVV_fn {M : Mem} {μ : Map} {f : FuncId} {first caps : AV} {v : Value} : AVV M μ (.fn f first caps) v ↔ ∃ us vs : List Value, v = .func (.func f) us.toArray vs.toArray ∧ AVL M μ first us ∧ AVL M μ caps vs := by
  simp only [AVV, AVC, VofC, AV.isAgg, cond_false]
  constructor
  · rintro ⟨cs, ⟨us, vs, rfl, h1⟩, h⟩
    exact ⟨us, vs, by simpa using h.symm, h1⟩
  · rintro ⟨us, vs, rfl, h1⟩
    exact ⟨_, ⟨us, vs, rfl, h1⟩, rfl⟩

theorem equal_ptr {T e : TypeId} (hT : P.underlying T = some (.pointer e)) (p q : Option Addr) (w : World) (h : p = none ∨ q = none) : (Op.equal T (.pointer p) (.pointer q)).run P w = .ok (p.isNone && q.isNone) w := equalIn_ptr hT 9999 p q w h

theorem sound_eqp (neg : Bool) (x y : Opd) : Sound P (.eqp neg x y) := by
  intro c M μ G S a w nid o v u hp hm hr _
  generalize hq : o.op = q at hm
  cases q <;> simp only [mop, Bool.false_eq_true, Bool.and_eq_true] at hm
  rename_i op' T x' y' T'
  obtain ⟨⟨⟨hn, ht⟩, h2⟩, h3⟩ := hm
  have hx := mo_ok hp.glob hp.env h2
  have hy := mo_ok hp.glob hp.env h3
  split at ht
  case h_2 => cases ht
  rename_i e hT
  simp only [aopO, aop, eqpV] at hr
  have fin : ∀ {p q : Option Addr} {b : Bool}, (Op.equal T (.pointer p) (.pointer q)).run P w = .ok b w → a.eval x' = .pointer p → a.eval y' = .pointer q → OpOk c M μ S.H nid ((execOp a.eval o).run P w) (.tv .bool (neg ^^ b)) U0 := by
    intro p q b h hx hy
    exact eq_ok hn (T := T) (x := .pointer p) (y := .pointer q) (x' := x') (y' := y') rfl (by intro h; cases h) (by intro _ _ h; cases h) (by intro _ h; cases h) (by intro _ _ h; cases h) (by intro _ _ _ h; cases h)
      (b := b) (w := w) h hp.hold (by simp only [execOp, hq, hx, hy, Sem.run_bind, Sem.run_pure])
  split at hr
  · rename_i id p e1 e2
    rw [e1, AVV_ptr] at hx
    rw [e2, AVV_nilp] at hy
    obtain ⟨l, b, _, _, hx, _⟩ := hx
    simp only [Option.some.injEq, Prod.mk.injEq] at hr
    obtain ⟨rfl, rfl⟩ := hr
    simpa using fin (equal_ptr hT _ _ w (.inr rfl)) hx hy
  · rename_i id p e1 e2
    rw [e1, AVV_nilp] at hx
    rw [e2, AVV_ptr] at hy
    obtain ⟨l, b, _, _, hy, _⟩ := hy
    simp only [Option.some.injEq, Prod.mk.injEq] at hr
    obtain ⟨rfl, rfl⟩ := hr
    simpa using fin (equal_ptr hT _ _ w (.inl rfl)) hx hy
  · rename_i e1 e2
    rw [e1, AVV_nilp] at hx
    rw [e2, AVV_nilp] at hy
    simp only [Option.some.injEq, Prod.mk.injEq] at hr
    obtain ⟨rfl, rfl⟩ := hr
    have := fin (equal_ptr hT _ _ w (.inl rfl)) hx hy
    simpa using this
  · cases hr

theorem sound_eqf (neg : Bool) (x y : Opd) : Sound P (.eqf neg x y) := by
  intro c M μ G S a w nid o v u hp hm hr _
  generalize hq : o.op = q at hm
  cases q <;> simp only [mop, Bool.false_eq_true, Bool.and_eq_true] at hm
  rename_i op' T x' y' T'
  obtain ⟨⟨⟨hn, ht⟩, h2⟩, h3⟩ := hm
  have hx := mo_ok hp.glob hp.env h2
  have hy := mo_ok hp.glob hp.env h3
  split at ht
  case h_2 => cases ht
  rename_i e1 e2 e3 hT
  simp only [aopO, aop, eqfV] at hr
  have fin : ∀ {p q : Value} {b : Bool}, (p = .nilFunc ∨ ∃ f us vs, p = .func f us vs) → (Op.equal T p q).run P w = .ok b w → a.eval x' = p → a.eval y' = q → OpOk c M μ S.H nid ((execOp a.eval o).run P w) (.tv .bool (neg ^^ b)) U0 := by
    intro p q b hpp h hx hy
    refine eq_ok hn (T := T) (x := p) (y := q) (x' := x') (y' := y') ?_ ?_ ?_ ?_ ?_ ?_
      (b := b) (w := w) h hp.hold (by simp only [execOp, hq, hx, hy, Sem.run_bind, Sem.run_pure])
    all_goals
      rcases hpp with rfl | ⟨f, us, vs, rfl⟩
      all_goals (intros; first | rfl | (intro h; cases h))
  split at hr
  · rename_i id p e1 e2
    rw [e1, AVV_fn] at hx
    rw [e2, AVV_nilf] at hy
    obtain ⟨us, vs, hx, _⟩ := hx
    simp only [Option.some.injEq, Prod.mk.injEq] at hr
    obtain ⟨rfl, rfl⟩ := hr
    simpa using fin (b := false) (.inr ⟨_, _, _, rfl⟩) ((equalIn_fn hT 9999 w).2.2 _ _ _) hx hy
  · rename_i id p e1 e2
    rw [e1, AVV_nilf] at hx
    rw [e2, AVV_fn] at hy
    obtain ⟨us, vs, hy, _⟩ := hy
    simp only [Option.some.injEq, Prod.mk.injEq] at hr
    obtain ⟨rfl, rfl⟩ := hr
    simpa using fin (b := false) (.inl rfl) ((equalIn_fn hT 9999 w).2.1 _ _ _) hx hy
  · rename_i e1 e2
    rw [e1, AVV_nilf] at hx
    rw [e2, AVV_nilf] at hy
    simp only [Option.some.injEq, Prod.mk.injEq] at hr
    obtain ⟨rfl, rfl⟩ := hr
    have := fin (b := true) (.inl rfl) (equalIn_fn hT 9999 w).1 hx hy
    simpa using this
  · cases hr

theorem equalIn_sl {T e : TypeId} (hT : P.underlying T = some (.slice e)) (d : Nat) (a : Option Addr) (l k : Nat) (w : World) : (Op.equalIn (d + 1) T (.slice a l k) (.slice none 0 0)).run P w = .ok a.isNone w := by
  cases a <;> simp [Op.equalIn, run_underlying hT]

theorem sound_un (op : UnOp) (x : Opd) : Sound P (.un op x) := by
  intro c M μ G S a w nid o v u hp hm hr _
  generalize hq : o.op = q at hm
  cases q <;> simp only [mop, Bool.false_eq_true, Bool.and_eq_true, decide_eq_true_eq] at hm
  rename_i op' T x'
  obtain ⟨rfl, h2⟩ := hm
  have hx := mo_ok hp.glob hp.env h2
  simp only [aopO, aop] at hr
  unfold unV at hr
  split at hr
  · rename_i k n e1
    rw [e1, AVV_int] at hx
    simp only [Option.some.injEq, Prod.mk.injEq] at hr
    obtain ⟨rfl, rfl⟩ := hr
    exact OpOk.same hp.hold (v' := .int k (k.wrap (0 - n))) (by simp [execOp, hq, hx, Op.unary, Op.intArith]) (AVV_int.2 rfl)
  · rename_i b e1
    rw [e1, AVV_bool] at hx
    simp only [Option.some.injEq, Prod.mk.injEq] at hr
    obtain ⟨rfl, rfl⟩ := hr
    exact OpOk.same hp.hold (v' := .bool !b) (by simp [execOp, hq, hx, Op.unary]) (AVV_bool.2 rfl)
  · rename_i k n e1
    rw [e1, AVV_int] at hx
    simp only [Option.some.injEq, Prod.mk.injEq] at hr
    obtain ⟨rfl, rfl⟩ := hr
    exact OpOk.same hp.hold (v' := .int k (bitop .xor k (if k.signed then -1 else k.max) n)) (by simp [execOp, hq, hx, Op.unary, Op.intBits, bitop]) (AVV_int.2 rfl)
  · cases hr

theorem isInt_ty {t : TypeId} {k : IntKind} (h : isInt P t k = true) : P.underlying t = some (.int k) := by
  unfold isInt at h
  split at h
  · rename_i k' hk
    have : k = k' := of_decide_eq_true h
    rw [hk, this]
  · cases h
theorem isStr_ty {t : TypeId} (h : isStr P t = true) : P.underlying t = some .string := by
  unfold isStr at h
  split at h
  · assumption
  · cases h
theorem slOf_ty {t e : TypeId} (h : slOf P t = some e) : P.underlying t = some (.slice e) := by
  unfold slOf at h
  split at h
  · rename_i e' he
    simp only [Option.some.injEq] at h
    rw [he, h]
  · cases h
theorem arrOf_ty {t e : TypeId} {n : Nat} (h : arrOf P t = some (n, e)) : P.underlying t = some (.array n e) := by
  unfold arrOf at h
  split at h
  · rename_i n' e' he
    simp only [Option.some.injEq, Prod.mk.injEq] at h
    rw [he, h.1, h.2]
  · cases h
theorem fieldOf_ty {t : TypeId} {i : Nat} {f : Field} (h : fieldOf P t i = some f) : ∃ fs, P.underlying t = some (.struct fs) ∧ fs[i]? = some f := by
  unfold fieldOf at h
  split at h
  · rename_i fs he
    exact ⟨fs, he, h⟩
  · cases h

theorem sound_eqn (neg : Bool) (x : Opd) : Sound P (.eqn neg x) := by
  intro c M μ G S a w nid o v u hp hm hr _
  generalize hq : o.op = q at hm
  unfold mop at hm
  split at hm <;> first | (cases hm; done) | skip
  all_goals first | (rename_i heq _; cases heq; done) | (rename_i heq; cases heq; done) | skip
  rename_i neg' x1 op' T x' T' heq
  cases heq
  simp only [Bool.and_eq_true] at hm
  obtain ⟨⟨hn, ht⟩, h2⟩ := hm
  have hx := mo_ok hp.glob hp.env h2
  cases hsl : slOf P T with
  | none => rw [hsl] at ht; cases ht
  | some e =>
    have hT := slOf_ty hsl
    simp only [aopO, aop] at hr
    split at hr
    case h_2 => cases hr
    rename_i b e' xs hb
    simp only [Option.some.injEq, Prod.mk.injEq] at hr
    obtain ⟨rfl, rfl⟩ := hr
    rw [hb] at hx
    obtain ⟨cs, ⟨_, ad, l, k, rfl, hbn⟩, hv⟩ := hx
    have hv : a.eval x' = .slice ad l k := by simpa [VofC, AV.isAgg] using hv.symm
    have hy : a.eval (.const (.slice none 0 0)) = .slice none 0 0 := rfl
    have key := equalIn_sl hT 9999 ad l k w
    rw [hbn] at key
    refine eq_ok hn (T := T) (x := .slice ad l k) (y := .slice none 0 0) (x' := x') (y' := .const (.slice none 0 0)) rfl ?_ ?_ ?_ ?_ ?_ (b := b) (w := w) key hp.hold (by simp only [execOp, hq, hv, hy, Sem.run_bind, Sem.run_pure])
    all_goals (intros; intro h; cases h)

theorem sound_conv (k : IntKind) (x : Opd) : Sound P (.conv k x) := by
  intro c M μ G S a w nid o v u hp hm hr _
  generalize hq : o.op = q at hm
  cases q <;> simp only [mop, Bool.false_eq_true, Bool.and_eq_true] at hm
  rename_i s d x'
  obtain ⟨⟨h0, h1⟩, h2⟩ := hm
  have hx := mo_ok hp.glob hp.env h2
  obtain ⟨ds, hs⟩ := Option.isSome_iff_exists.1 h0
  simp only [aopO, aop] at hr
  split at hr
  · rename_i k' n e1
    rw [e1, AVV_int] at hx
    simp only [Option.some.injEq, Prod.mk.injEq] at hr
    obtain ⟨rfl, rfl⟩ := hr
    refine OpOk.same hp.hold (v' := .int k (k.wrap n)) ?_ (AVV_int.2 rfl)
    simp only [execOp, hq, hx, Sem.run_bind, convert, run_underlying hs, run_underlying (isInt_ty h1), Result.andThen_ok, Conv.intToInt, Sem.run_pure]
  · cases hr

theorem sound_mkfn (f : FuncId) (first caps : List Opd) : Sound P (.mkfn f first caps) := by
  intro c M μ G S a w nid o v u hp hm hr _
  generalize hq : o.op = q at hm
  cases q with
  | makeFunc fn fi captured =>
    cases fn <;> simp only [mop, Bool.false_eq_true, Bool.and_eq_true] at hm
    rename_i f'
    obtain ⟨⟨h0, h1⟩, h2⟩ := hm
    obtain rfl := Nat.eq_of_beq_eq_true h0
    simp only [aopO, aop] at hr
    cases hl0 : (allLive (first.map (ev G S)) && allLive (caps.map (ev G S))) with
    | false => simp [hl0] at hr
    | true =>
      rw [hl0] at hr
      simp only [Bool.and_eq_true] at hl0
      obtain ⟨hl1, hl⟩ := hl0
      simp only [cond_true, Option.some.injEq, Prod.mk.injEq] at hr
      obtain ⟨rfl, rfl⟩ := hr
      refine OpOk.same hp.hold (v' := .func (.func f) (fi.toList.map a.eval).toArray (captured.toList.map a.eval).toArray) ?_ (AVV_fn.2 ⟨_, _, rfl, mos_ok hp.glob hp.env h1 hl1, mos_ok hp.glob hp.env h2 hl⟩)
      have hmap : ∀ xs : Array Operand, Array.map a.eval xs = (List.map a.eval xs.toList).toArray := by
        intro xs
        apply Array.ext'
        simp
      simp only [execOp, hq, Instr.makeFunc, Sem.run_bind, Sem.run_pure, Result.andThen_ok, hmap]
  | _ => simp only [mop, Bool.false_eq_true] at hm

end
end Go.Av

/-
  Each operation of the abstract machine is the machine's: parts of values, addresses, loads.
-/
namespace Go.Av
section
variable {P : Program}

theorem VofC_true {cs : List Value} {v : Value} : VofC true cs v ↔ v = .agg cs.toArray := Iff.rfl
theorem VofC_false {cs : List Value} {v : Value} : VofC false cs v ↔ cs = [v] := Iff.rfl

theorem isSz_ty {t : TypeId} {n : Nat} {agg : Bool} (h : isSz P t n agg = true) :
    ∃ d i, P.underlying t = some d ∧ P.info? t = some i ∧ i.size = n ∧ TypeDesc.agg d = agg ∧ (agg = false → n = 1) := by
  unfold isSz hasTy aggOf at h
  simp only [Bool.and_eq_true, beq_iff_eq, Bool.or_eq_true] at h
  obtain ⟨⟨⟨⟨h1, h2⟩, h3⟩, h4⟩, h5⟩ := h
  obtain ⟨d, hd⟩ := Option.isSome_iff_exists.1 h1
  obtain ⟨i, hi⟩ := Option.isSome_iff_exists.1 h2
  rw [hd] at h4
  refine ⟨d, i, hd, hi, ?_, h4, ?_⟩
  · have := Nat.eq_of_beq_eq_true h3
    simpa [Program.cellsOf, hi] using this
  · intro hf
    rcases h5 with h5 | h5
    · rw [hf] at h5; cases h5
    · exact Nat.eq_of_beq_eq_true h5

theorem run_isAgg {t : TypeId} {d : TypeDesc} (h : P.underlying t = some d) (w : World) : (isAgg t).run P w = .ok (TypeDesc.agg d) w := by
  unfold isAgg
  rw [Sem.run_bind, run_underlying h w, Result.andThen_ok]
  cases d <;> rfl

theorem run_sizeOf {t : TypeId} {i : TypeInfo} (h : P.info? t = some i) (w : World) : (sizeOf t).run P w = .ok i.size w := by
  simp [sizeOf, typeInfo, h]

/-- A part of an aggregate's cells, as a value. -/
theorem run_part {t : TypeId} {d : TypeDesc} {i : TypeInfo} (hd : P.underlying t = some d) (hi : P.info? t = some i) (w : World) {pre mid post : List Value} {cs : Array Value} (hcs : cs.toList = pre ++ mid ++ post) (hl : mid.length = i.size)
    {agg : Bool} (ha : TypeDesc.agg d = agg) {v : Value} (hv : VofC agg mid v) : (part t cs pre.length).run P w = .ok v w := by
  unfold part
  rw [Sem.run_bind, run_isAgg hd, Result.andThen_ok, ha]
  cases agg with
  | true =>
    rw [VofC_true] at hv
    subst hv
    simp only [if_true, Sem.run_bind, run_sizeOf hi, Result.andThen_ok, Sem.run_pure]
    congr 2
    apply Array.ext'
    rw [← hl]
    simp [hcs]
  | false =>
    rw [VofC_false] at hv
    subst hv
    have : cs[pre.length]? = some v := by
      rw [← Array.getElem?_toList, hcs]
      simp
    simp [this]

theorem sound_fld (i off n : Nat) (agg : Bool) (x : Opd) : Sound P (.fld i off n agg x) := by
  intro c M μ G S a w nid o v u hp hm hr _
  generalize hq : o.op = q at hm
  cases q <;> simp only [mop, Bool.false_eq_true, Bool.and_eq_true] at hm
  rename_i T x' f'
  obtain ⟨⟨h1, h2⟩, h3⟩ := hm
  obtain rfl := Nat.eq_of_beq_eq_true h1
  have hx := mo_ok hp.glob hp.env h3
  split at h2
  case h_2 => cases h2
  rename_i fd hfd
  simp only [Bool.and_eq_true] at h2
  obtain ⟨ho, hs⟩ := h2
  obtain rfl := Nat.eq_of_beq_eq_true ho
  obtain ⟨d, inf, hd, hi, hsz, hag, hone⟩ := isSz_ty hs
  obtain ⟨fs, hfs, hf⟩ := fieldOf_ty hfd
  simp only [aopO, aop] at hr
  split at hr
  case h_2 => cases hr
  rename_i v1 hv1
  cases hb : (Nat.beq v1.nsz n && (v1.isAgg == agg)) with
  | false => simp [hb] at hr
  | true =>
    rw [hb] at hr
    simp only [Bool.and_eq_true, beq_iff_eq] at hb
    have hn := Nat.eq_of_beq_eq_true hb.1
    simp only [cond_true, Option.some.injEq, Prod.mk.injEq] at hr
    obtain ⟨rfl, rfl⟩ := hr
    have hlive : (ev G S x).live = true := by
      cases he : ev G S x <;> simp [he, fldGet] at hv1 <;> first | rfl | (cases i <;> simp [fldGet] at hv1)
    obtain ⟨cs, hc, hvc⟩ := AVV_live hx hlive
    have hagg : (ev G S x).isAgg = true := by
      cases he : ev G S x with
      | tv τ y => cases τ <;> first | rfl | (rw [he] at hv1; cases i <;> simp [fldGet] at hv1)
      | cons => rfl
      | nil => rfl
      | _ => rw [he] at hv1; cases i <;> simp [fldGet] at hv1
    rw [hagg, VofC_true] at hvc
    obtain ⟨pre, mid, post, e, hl, hmid, _⟩ := (fldGet_focus i fd.offset _ v1 cs hv1 hc).split
    have hml : mid.length = inf.size := by rw [hmid.length, hn, hsz]
    obtain ⟨v', hv'⟩ : ∃ v', VofC agg mid v' := by
      cases agg with
      | true => exact ⟨_, rfl⟩
      | false =>
        have := hone rfl
        rw [hsz, this] at hml
        match mid, hml with
        | [z], _ => exact ⟨z, rfl⟩
    refine OpOk.same hp.hold (v' := v') ?_ (AVV_of hmid (by rw [hb.2]; exact hv'))
    simp only [execOp, hq, Instr.field, Sem.run_bind, run_underlying hfs, Result.andThen_ok, hf, hvc, asAgg, Sem.run_pure]
    have := run_part (P := P) hd hi w (cs := cs.toArray) (by simpa using e) hml hag hv'
    rw [hl] at this
    rw [this]
    rfl

theorem fieldPlace_plain {b o : Nat} {f : Field} {i : TypeInfo} (hi : P.info? f.type = some i) (hz : i.size ≠ 0) (w : World) : (fieldPlace ⟨b, o, none⟩ f).run P w = .ok ⟨b, o + f.offset, none⟩ w := by
  unfold fieldPlace
  rw [Sem.run_bind, run_sizeOf hi, Result.andThen_ok, if_neg hz, Sem.run_pure, Addr.add_mid]

theorem pathOff_append (p q : List Step) : pathOff (p ++ q) = pathOff p + pathOff q := by
  induction p with
  | nil => simp [pathOff]
  | cons s r ih => simp [pathOff, ih]; omega

theorem Loc.head_append {l : Loc} {p : List Step} (h : l.head p) (s : Step) : l.head (p ++ [s]) := by
  cases l with
  | row b len cap =>
    cases p with
    | nil => exact h.elim
    | cons t r => cases t <;> exact h
  | _ => trivial

/-- The field of an address of still memory. -/
theorem fp_focus {M : Mem} {b o : Nat} {es mid pre post : List Value} (h : ∀ j v, es[j]? = some v → M b (o + j) = some v) (e : es = pre ++ mid ++ post) : ∀ j v, mid[j]? = some v → M b (o + pre.length + j) = some v := by
  intro j v hv
  have hj := (List.getElem?_eq_some_iff.1 hv).1
  have := h (pre.length + j) v (by
    subst e
    rw [List.append_assoc, List.getElem?_append_right (by omega)]
    simp only [Nat.add_sub_cancel_left]
    rw [List.getElem?_append_left hj]; exact hv)
  rwa [← Nat.add_assoc] at this

theorem sound_fad (i off : Nat) (x : Opd) : Sound P (.fad i off x) := by
  intro c M μ G S a w nid o v u hp hm hr _
  generalize hq : o.op = q at hm
  cases q <;> simp only [mop, Bool.false_eq_true, Bool.and_eq_true] at hm
  rename_i T x' f'
  obtain ⟨⟨h1, h2⟩, h3⟩ := hm
  obtain rfl := Nat.eq_of_beq_eq_true h1
  have hx := mo_ok hp.glob hp.env h3
  split at h2
  case h_2 => cases h2
  rename_i fd hfd
  simp only [Bool.and_eq_true, hasTy, Bool.not_eq_true'] at h2
  obtain ⟨⟨ho, _, hi0⟩, hz⟩ := h2
  obtain rfl := Nat.eq_of_beq_eq_true ho
  obtain ⟨inf, hi⟩ := Option.isSome_iff_exists.1 hi0
  have hz' : inf.size ≠ 0 := by
    intro e
    have : P.cellsOf fd.type = 0 := by simp [Program.cellsOf, hi, e]
    rw [this] at hz
    cases hz
  obtain ⟨fs, hfs, hf⟩ := fieldOf_ty hfd
  simp only [aopO, aop] at hr
  split at hr
  · rename_i id p he
    simp only [Option.some.injEq, Prod.mk.injEq] at hr
    obtain ⟨rfl, rfl⟩ := hr
    rw [he, AVV_ptr] at hx
    obtain ⟨l, b, hl, hb, hv, hs, hh⟩ := hx
    refine OpOk.same hp.hold (v' := .pointer (some ⟨b, pathOff p + fd.offset, none⟩)) ?_ (AVV_ptr.2 ⟨l, b, hl, hb, by simp [pathOff_append, pathOff, Step.off], ?_, Loc.head_append hh _⟩)
    · simp only [execOp, hq, hv, Instr.fieldAt, Sem.run_bind, run_underlying hfs, Result.andThen_ok, hf, Instr.sureAddr, Sem.run_pure, fieldPlace_plain hi hz']
    · intro s hs'
      rcases List.mem_append.1 hs' with h | h
      · exact hs s h
      · simp only [List.mem_singleton] at h; subst h; trivial
  · rename_i τ y he
    split at hr
    case h_2 => cases hr
    rename_i σ z hz1
    simp only [Option.some.injEq, Prod.mk.injEq] at hr
    obtain ⟨rfl, rfl⟩ := hr
    rw [he, AVV_fp] at hx
    obtain ⟨b, o1, es, hv, ht, hM⟩ := hx
    obtain ⟨pre, mid, post, e, hl, hmid, _⟩ := (fldGet_focus (M := M) (μ := μ) i fd.offset _ _ es hz1 (by simpa only [AVC] using ht)).split
    refine OpOk.same hp.hold (v' := .pointer (some ⟨b, o1 + fd.offset, none⟩)) ?_ (AVV_fp.2 ⟨b, o1 + fd.offset, mid, rfl, by simpa only [AVC] using hmid, ?_⟩)
    · simp only [execOp, hq, hv, Instr.fieldAt, Sem.run_bind, run_underlying hfs, Result.andThen_ok, hf, Instr.sureAddr, Sem.run_pure, fieldPlace_plain hi hz']
    · have := fp_focus hM e
      rwa [hl] at this
  · cases hr

theorem inR_iff {i : Int} {n : Nat} : inR i n = true ↔ 0 ≤ i ∧ i < n := by simp [inR]

theorem sound_iad (n sz : Nat) (x i : Opd) : Sound P (.iad n sz x i) := by
  intro c M μ G S a w nid o v u hp hm hr _
  generalize hq : o.op = q at hm
  cases q <;> simp only [mop, Bool.false_eq_true, Bool.and_eq_true] at hm
  rename_i T x' i'
  obtain ⟨⟨h1, h2⟩, h3⟩ := hm
  have hx := mo_ok hp.glob hp.env h2
  have hi := mo_ok hp.glob hp.env h3
  split at h1
  case h_2 => cases h1
  rename_i m e harr
  simp only [Bool.and_eq_true, hasTy] at h1
  obtain ⟨⟨hn, _, hi0⟩, hsz⟩ := h1
  obtain rfl := Nat.eq_of_beq_eq_true hn
  obtain ⟨inf, hinf⟩ := Option.isSome_iff_exists.1 hi0
  have hsz' : inf.size = sz := by
    have := Nat.eq_of_beq_eq_true hsz
    simpa [Program.cellsOf, hinf] using this
  have ht := arrOf_ty harr
  simp only [aopO, aop] at hr
  split at hr
  case h_2 => cases hr
  rename_i k j hj
  rw [hj, AVV_int] at hi
  cases hb : inR j n with
  | false => simp [hb] at hr
  | true =>
    have hj' := inR_iff.1 hb
    rw [hb] at hr
    simp only [cond_true] at hr
    have run : ∀ b o1, a.eval x' = .pointer (some ⟨b, o1, none⟩) → (execOp a.eval o).run P w = .ok (.value (.pointer (some ⟨b, o1 + (j : Int).toNat * sz, none⟩))) w := by
      intro b o1 hv
      simp only [execOp, hq, hv, hi, Instr.indexAt, asIntOf, Sem.run_bind, Sem.run_pure, run_underlying ht, Result.andThen_ok, Instr.sureAddr, if_pos hj', run_sizeOf hinf, hsz', Addr.add_mid]
    split at hr
    · rename_i id p he
      simp only [Option.some.injEq, Prod.mk.injEq] at hr
      obtain ⟨rfl, rfl⟩ := hr
      rw [he, AVV_ptr] at hx
      obtain ⟨l, b, hl, hbl, hv, hs, hh⟩ := hx
      refine OpOk.same hp.hold (run _ _ hv) (AVV_ptr.2 ⟨l, b, hl, hbl, by simp [pathOff_append, pathOff, Step.off], ?_, Loc.head_append hh _⟩)
      intro s hs'
      rcases List.mem_append.1 hs' with h | h
      · exact hs s h
      · simp only [List.mem_singleton] at h; subst h
        show (j : Int).toNat < n
        omega
    · rename_i m' e' xs he
      cases hb2 : (Nat.beq m' n && Nat.beq e'.n sz) with
      | false => simp [hb2] at hr
      | true =>
        rw [hb2] at hr
        simp only [Bool.and_eq_true] at hb2
        obtain rfl := Nat.eq_of_beq_eq_true hb2.1
        have hes := Nat.eq_of_beq_eq_true hb2.2
        simp only [cond_true, Option.some.injEq, Prod.mk.injEq] at hr
        obtain ⟨rfl, rfl⟩ := hr
        rw [he, AVV_fp] at hx
        obtain ⟨b, o1, es, hv, ⟨hlen, hrow⟩, hM⟩ := hx
        obtain ⟨pre, mid, post, e3, hl, hmid, _⟩ := RowC.focus (fun _ _ h => TC.length h) e'.zero xs es (j : Int).toNat hrow (by omega)
        refine OpOk.same hp.hold (run _ _ hv) (AVV_fp.2 ⟨b, _, mid, rfl, hmid, ?_⟩)
        have := fp_focus hM e3
        rw [hl, hes] at this
        exact this
    · cases hr

theorem elOk_ty {t : TypeId} {e : Ty} (h : elOk P t e = true) : ∃ i z, P.info? t = some i ∧ i.size = e.n ∧ 1 ≤ e.n ∧ i.bytes ≤ 16384 ∧ i.zero = some z ∧ z.cells.toList = zc e := by
  unfold elOk at h
  split at h
  case h_2 => cases h
  rename_i i hi
  simp only [Bool.and_eq_true] at h
  obtain ⟨⟨⟨h1, h2⟩, h3⟩, h4⟩ := h
  split at h4
  case h_2 => cases h4
  rename_i z hz
  split at h4
  case h_2 => cases h4
  rename_i hq
  have h5 := Nat.eq_of_beq_eq_true h1
  have h6 := Nat.le_of_ble_eq_true h2
  refine ⟨i, z, hi, h5, by omega, Nat.le_of_ble_eq_true h3, hz, ?_⟩
  simpa using takeEq_eq hq

theorem sound_iads (e : Ty) (x i : Opd) : Sound P (.iads e x i) := by
  intro c M μ G S a w nid o v u hp hm hr _
  generalize hq : o.op = q at hm
  cases q <;> simp only [mop, Bool.false_eq_true, Bool.and_eq_true] at hm
  rename_i T x' i'
  obtain ⟨⟨h1, h2⟩, h3⟩ := hm
  have hx := mo_ok hp.glob hp.env h2
  have hi := mo_ok hp.glob hp.env h3
  split at h1
  case h_2 => cases h1
  rename_i et hsl
  obtain ⟨inf, z, hinf, hsz, _, _, _, _⟩ := elOk_ty h1
  have ht := slOf_ty hsl
  simp only [aopO, aop] at hr
  split at hr
  case h_2 => cases hr
  rename_i k j hj
  rw [hj, AVV_int] at hi
  have run : ∀ b o1 len cap, a.eval x' = .slice (some ⟨b, o1, none⟩) len cap → 0 ≤ (j : Int) ∧ (j : Int) < len → (execOp a.eval o).run P w = .ok (.value (.pointer (some ⟨b, o1 + (j : Int).toNat * e.n, none⟩))) w := by
    intro b o1 len cap hv hj'
    simp only [execOp, hq, hv, hi, Instr.indexAt, asIntOf, Sem.run_bind, Sem.run_pure, run_underlying ht, Result.andThen_ok, if_pos hj', run_sizeOf hinf, hsz, Addr.add_mid]
  split at hr
  · rename_i e' xs he
    cases hb2 : Nat.beq e'.n e.n with
    | false => simp [hb2] at hr
    | true =>
      rw [hb2] at hr
      have hes := Nat.eq_of_beq_eq_true hb2
      simp only [cond_true] at hr
      cases hb : inR j xs.length with
      | false => simp [hb] at hr
      | true =>
        have hj' := inR_iff.1 hb
        rw [hb] at hr
        simp only [cond_true, Option.some.injEq, Prod.mk.injEq] at hr
        obtain ⟨rfl, rfl⟩ := hr
        rw [he, AVV_tv] at hx
        obtain ⟨cs, ⟨ad, cap, rfl, es, hrow, hM, hcap⟩, hv⟩ := hx
        have hv : a.eval x' = .slice ad xs.length cap := by simpa [VofC, Ty.isAgg] using hv.symm
        rcases hM with rfl | ⟨b, o1, rfl, hM⟩
        · simp at hj'; omega
        · obtain ⟨pre, mid, post, e3, hl, hmid, _⟩ := RowC.focus (fun _ _ h => TC.length h) e'.zero xs es (j : Int).toNat hrow (by omega)
          refine OpOk.same hp.hold (run _ _ _ _ hv hj') (AVV_fp.2 ⟨b, _, mid, rfl, hmid, ?_⟩)
          have := fp_focus hM e3
          rw [hl, hes] at this
          exact this
  · rename_i id he
    split at hr
    case h_2 => cases hr
    rename_i e' xs fz hH
    cases hb2 : Nat.beq e'.n e.n with
    | false => simp [hb2] at hr
    | true =>
      rw [hb2] at hr
      have hes := Nat.eq_of_beq_eq_true hb2
      simp only [cond_true] at hr
      cases hb : inR j xs.length with
      | false => simp [hb] at hr
      | true =>
        have hj' := inR_iff.1 hb
        rw [hb] at hr
        simp only [cond_true, Option.some.injEq, Prod.mk.injEq] at hr
        obtain ⟨rfl, rfl⟩ := hr
        rw [he, AVV_row] at hx
        obtain ⟨bo, len, cap, hl, hv⟩ := hx
        obtain ⟨l, hl', hbr⟩ := hp.hold.blks id _ hH
        rw [hl] at hl'
        cases hl'
        cases bo with
        | none =>
          obtain ⟨rfl, _⟩ := hbr
          simp at hj'; omega
        | some b =>
          obtain ⟨cs, T', hc, hlen, _⟩ := hbr
          rw [← hlen] at hv
          have hr := run b 0 _ _ hv hj'
          refine OpOk.same hp.hold hr (AVV_ptr.2 ⟨_, b, hl, rfl, by simp [pathOff, Step.off], ?_, ?_⟩)
          · intro s hs
            simp only [List.mem_singleton] at hs
            subst hs
            show (j : Int).toNat < xs.length
            omega
          · show xs.length ≤ len
            omega
  · cases hr

end
end Go.Av
