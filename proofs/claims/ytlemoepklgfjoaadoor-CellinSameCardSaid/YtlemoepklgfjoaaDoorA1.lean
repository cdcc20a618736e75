/-
  The abstract values: typed trees, and what of them lies in the machine's memory.
-/
import Derived.Calls
import Derived.Orders
import Derived.Below
import Derived.Deep.MidRow
import Derived.Deep.AppendSrc
import Derived.Laws.MakeOwn
import Derived.Laws.StructEq
import Derived.Laws.BytesString
import Derived.KernelRfl
namespace Go.Av

/-- Types of trees. A struct is a chain of pairs that ends in 'nil'. -/
inductive Ty where
  | int (k : IntKind) | bool | str | sl (e : Ty) | arr (n : Nat) (e : Ty) | pr (a b : Ty) | nil
  deriving DecidableEq

@[reducible] def Ty.T : Ty → Type
  | .int _ => Int
  | .bool => Bool
  | .str => List UInt8
  | .sl e => List e.T
  | .arr _ e => List e.T
  | .pr a b => a.T × b.T
  | .nil => Unit

def Ty.zero : (τ : Ty) → τ.T
  | .int _ => (0 : Int)
  | .bool => false
  | .str => ([] : List UInt8)
  | .sl e => ([] : List e.T)
  | .arr n e => List.replicate n e.zero
  | .pr a b => (a.zero, b.zero)
  | .nil => ()

/-- How many cells a variable of the type has. -/
def Ty.n : Ty → Nat
  | .int _ => 1 | .bool => 1 | .str => 1 | .sl _ => 1
  | .arr n e => n * e.n
  | .pr a b => a.n + b.n
  | .nil => 0

def Ty.isAgg : Ty → Bool
  | .arr _ _ => true | .pr _ _ => true | .nil => true
  | _ => false

/-- A step of an address inside a block: a field (its number, and the cells ahead of it), an element (its number, how many there are, the cells of each). -/
inductive Step where
  | fld (i off : Nat)
  | idx (i n sz : Nat)
  deriving DecidableEq

def Step.off : Step → Nat
  | .fld _ o => o
  | .idx i _ sz => i * sz

def pathOff : List Step → Nat
  | [] => 0
  | s :: r => s.off + pathOff r

/-- Inside its array? -/
def Step.okS : Step → Prop
  | .fld _ _ => True
  | .idx i n _ => i < n

inductive AV where
  | tv (τ : Ty) (x : τ.T)
  | ptr (id : Nat) (path : List Step)
  | row (id : Nat)
  | fp (τ : Ty) (x : τ.T)
  | sln (b : Bool) (e : Ty) (xs : List e.T)
  | obj (id : Nat)
  | mp (id : Nat)
  | nilp
  | nilf
  | cons (a b : AV)
  | nil
  | fn (f : FuncId) (first caps : AV)
  | tup (l : AV)
  | junk
  | dead

inductive Blk where
  | box (v : AV)
  | row (e : Ty) (xs : List e.T) (fz : Bool)
  | iter (s : List UInt8) (pos : Nat)
  | mp (κ : Ty) (l : List (κ.T × Int))

/-- A map's key as a cell. -/
def keyV : (κ : Ty) → κ.T → Value
  | .int k, n => .int k n
  | .str, s => .string ⟨s.toArray⟩
  | _, _ => .nilFunc

/-- A map's entries, stamped by their places. -/
def mEnts (κ : Ty) : Nat → List (κ.T × Int) → List MapEntry
  | _, [] => []
  | i, (x, v) :: r => { key := keyV κ x, val := .int .i64 v, born := i } :: mEnts κ (i + 1) r

inductive Loc where
  | box (b : Nat)
  | row (b : Option Nat) (len cap : Nat)
  | obj (b : Nat)

/-- An address inside a row begins with an element of it. -/
def Loc.head : Loc → List Step → Prop
  | .row _ len _, .idx _ n _ :: _ => n ≤ len
  | .row _ _ _, _ => False
  | .box _, _ => True
  | .obj _, _ => False

def Loc.blk : Loc → Option Nat
  | .box b => some b
  | .row b _ _ => b
  | .obj b => some b

/-- Memory that nobody writes any more: cell by cell. -/
abbrev Mem := Nat → Nat → Option Value
abbrev Map := Nat → Option Loc

def Mem.le (M M' : Mem) : Prop := ∀ b o v, M b o = some v → M' b o = some v
def Map.le (μ μ' : Map) : Prop := ∀ i l, μ i = some l → μ' i = some l
theorem Mem.le.refl (M : Mem) : M.le M := fun _ _ _ h => h
theorem Map.le.refl (μ : Map) : μ.le μ := fun _ _ h => h
theorem Mem.le.trans {A B C : Mem} (h : A.le B) (k : B.le C) : A.le C := fun b o v e => k b o v (h b o v e)
theorem Map.le.trans {A B C : Map} (h : A.le B) (k : B.le C) : A.le C := fun i l e => k i l (h i l e)

def RowC {α : Type} (R : α → List Value → Prop) : List α → List Value → Prop
  | [], cs => cs = []
  | x :: xs, cs => ∃ c1 c2, cs = c1 ++ c2 ∧ R x c1 ∧ RowC R xs c2

/-- The cells cs hold the tree x; what slices lead to lies in M. -/
def TC (M : Mem) : (τ : Ty) → τ.T → List Value → Prop
  | .int k, n, cs => cs = [.int k n]
  | .bool, b, cs => cs = [.bool b]
  | .str, s, cs => cs = [.string ⟨s.toArray⟩]
  | .sl e, xs, cs => ∃ a cap, cs = [.slice a xs.length cap] ∧ ∃ es, RowC (TC M e) xs es ∧ (xs = [] ∨ ∃ b o, a = some ⟨b, o, none⟩ ∧ ∀ j v, es[j]? = some v → M b (o + j) = some v) ∧ xs.length ≤ cap
  | .arr n e, xs, cs => xs.length = n ∧ RowC (TC M e) xs cs
  | .pr a b, x, cs => ∃ c1 c2, cs = c1 ++ c2 ∧ TC M a x.1 c1 ∧ TC M b x.2 c2
  | .nil, _, cs => cs = []

def oneC (cs : List Value) : Prop := ∀ v ∈ cs, v.oneCell' = true

def AV.isAgg : AV → Bool
  | .tv τ _ => τ.isAgg
  | .cons _ _ => true
  | .nil => true
  | _ => false

/-- How many cells the value takes. -/
def AV.nsz : AV → Nat
  | .tv τ _ => τ.n
  | .cons a b => a.nsz + b.nsz
  | .nil => 0
  | _ => 1

/-- A value out of its cells. -/
def VofC (agg : Bool) (cs : List Value) (v : Value) : Prop := bif agg then v = .agg cs.toArray else cs = [v]

mutual
/-- The cells cs hold the value a. -/
def AVC (M : Mem) (μ : Map) : AV → List Value → Prop
  | .tv τ x, cs => TC M τ x cs
  | .ptr id p, cs => ∃ l b, μ id = some l ∧ l.blk = some b ∧ cs = [.pointer (some ⟨b, pathOff p, none⟩)] ∧ (∀ s ∈ p, s.okS) ∧ l.head p
  | .row id, cs => ∃ b len cap, μ id = some (.row b len cap) ∧ cs = [.slice (b.map fun b => ⟨b, 0, none⟩) len cap]
  | .fp τ x, cs => ∃ b o es, cs = [.pointer (some ⟨b, o, none⟩)] ∧ TC M τ x es ∧ ∀ j v, es[j]? = some v → M b (o + j) = some v
  | .sln b e xs, cs => TC M (.sl e) xs cs ∧ ∃ a l k, cs = [.slice a l k] ∧ a.isNone = b
  | .obj id, cs => ∃ b, μ id = some (.obj b) ∧ cs = [.pointer (some ⟨b, 0, none⟩)]
  | .mp id, cs => ∃ b, μ id = some (.obj b) ∧ cs = [.map (some b)]
  | .nilp, cs => cs = [.pointer none]
  | .nilf, cs => cs = [.nilFunc]
  | .cons a b, cs => ∃ c1 c2, cs = c1 ++ c2 ∧ AVC M μ a c1 ∧ AVC M μ b c2
  | .nil, cs => cs = []
  | .fn f fi caps, cs => ∃ us vs : List Value, cs = [.func (.func f) us.toArray vs.toArray] ∧ AVL M μ fi us ∧ AVL M μ caps vs
  | .tup _, _ => False
  | .junk, cs => ∃ v : Value, cs = [v] ∧ v.oneCell' = true
  | .dead, _ => False
/-- A chain's values, one by one. -/
def AVL (M : Mem) (μ : Map) : AV → List Value → Prop
  | .cons a b, vs => ∃ v r c, vs = v :: r ∧ AVC M μ a c ∧ VofC a.isAgg c v ∧ AVL M μ b r
  | .nil, vs => vs = []
  | _, _ => False
end

/-- The value v is a. -/
def AVV (M : Mem) (μ : Map) : AV → Value → Prop
  | .dead, _ => True
  | .tup l, v => ∃ vs, v = .tuple vs.toArray ∧ AVL M μ l vs
  | a, v => ∃ c, AVC M μ a c ∧ VofC a.isAgg c v

/-! ### Laws -/
theorem RowC.mono {α : Type} {R R' : α → List Value → Prop} (h : ∀ x c, R x c → R' x c) : ∀ {xs cs}, RowC R xs cs → RowC R' xs cs
  | [], _, e => e
  | _ :: _, _, ⟨c1, c2, e, h1, h2⟩ => ⟨c1, c2, e, h _ _ h1, RowC.mono h h2⟩

theorem TC.mono {M M' : Mem} (hM : M.le M') : ∀ {τ : Ty} {x : τ.T} {cs}, TC M τ x cs → TC M' τ x cs
  | .int _, _, _, h => h
  | .bool, _, _, h => h
  | .str, _, _, h => h
  | .sl _, _, _, ⟨a, cap, e, es, hr, hb, hc⟩ =>
    ⟨a, cap, e, es, RowC.mono (fun _ _ h => TC.mono hM h) hr, hb.imp id fun ⟨b, o, ha, h⟩ => ⟨b, o, ha, fun j v hv => hM _ _ _ (h j v hv)⟩, hc⟩
  | .arr _ _, _, _, ⟨hl, hr⟩ => ⟨hl, RowC.mono (fun _ _ h => TC.mono hM h) hr⟩
  | .pr _ _, _, _, ⟨c1, c2, e, h1, h2⟩ => ⟨c1, c2, e, TC.mono hM h1, TC.mono hM h2⟩
  | .nil, _, _, h => h

theorem RowC.length {α : Type} {R : α → List Value → Prop} {k : Nat} (h : ∀ x c, R x c → c.length = k) : ∀ {xs cs}, RowC R xs cs → cs.length = xs.length * k
  | [], _, e => by simp only [RowC] at e; subst e; simp
  | x :: xs, _, ⟨c1, c2, e, h1, h2⟩ => by
    subst e
    rw [List.length_append, h _ _ h1, RowC.length h h2, List.length_cons, Nat.succ_mul, Nat.add_comm]

theorem TC.length {M : Mem} : ∀ {τ : Ty} {x : τ.T} {cs}, TC M τ x cs → cs.length = τ.n
  | .int _, _, _, h => by simp only [TC] at h; subst h; rfl
  | .bool, _, _, h => by simp only [TC] at h; subst h; rfl
  | .str, _, _, h => by simp only [TC] at h; subst h; rfl
  | .sl _, _, _, ⟨a, cap, e, _⟩ => by subst e; rfl
  | .arr n e, _, _, ⟨hl, hr⟩ => by rw [RowC.length (fun _ _ h => TC.length h) hr, hl]; rfl
  | .pr a b, _, _, ⟨c1, c2, e, h1, h2⟩ => by subst e; rw [List.length_append, TC.length h1, TC.length h2]; rfl
  | .nil, _, _, h => by simp only [TC] at h; subst h; rfl

theorem oneC.append {a b : List Value} (ha : oneC a) (hb : oneC b) : oneC (a ++ b) := fun v hv => by
  rcases List.mem_append.1 hv with h | h
  · exact ha v h
  · exact hb v h
theorem oneC.single {v : Value} (h : v.oneCell' = true) : oneC [v] := fun u hu => by
  simp only [List.mem_singleton] at hu; subst hu; exact h
theorem oneC.nil : oneC [] := fun _ h => by cases h

theorem RowC.one {α : Type} {R : α → List Value → Prop} (h : ∀ x c, R x c → oneC c) : ∀ {xs cs}, RowC R xs cs → oneC cs
  | [], _, e => by simp only [RowC] at e; subst e; exact oneC.nil
  | _ :: _, _, ⟨_, _, e, h1, h2⟩ => by subst e; exact (h _ _ h1).append (RowC.one h h2)

theorem TC.one {M : Mem} : ∀ {τ : Ty} {x : τ.T} {cs}, TC M τ x cs → oneC cs
  | .int _, _, _, h => by simp only [TC] at h; subst h; exact oneC.single rfl
  | .bool, _, _, h => by simp only [TC] at h; subst h; exact oneC.single rfl
  | .str, _, _, h => by simp only [TC] at h; subst h; exact oneC.single rfl
  | .sl _, _, _, ⟨a, cap, e, _⟩ => by subst e; exact oneC.single rfl
  | .arr n e, _, _, ⟨_, hr⟩ => RowC.one (fun _ _ h => TC.one h) hr
  | .pr a b, _, _, ⟨_, _, e, h1, h2⟩ => by subst e; exact h1.one.append h2.one
  | .nil, _, _, h => by simp only [TC] at h; subst h; exact oneC.nil

mutual
theorem AVC.mono {M M' : Mem} {μ μ' : Map} (hM : M.le M') (hμ : μ.le μ') : ∀ {a : AV} {cs}, AVC M μ a cs → AVC M' μ' a cs
  | .tv _ _, _, h => by simp only [AVC] at h ⊢; exact TC.mono hM h
  | .ptr _ _, _, h => by
    simp only [AVC] at h ⊢
    obtain ⟨l, b, h1, h2⟩ := h
    exact ⟨l, b, hμ _ _ h1, h2⟩
  | .row _, _, h => by
    simp only [AVC] at h ⊢
    obtain ⟨b, len, cap, h1, h2⟩ := h
    exact ⟨b, len, cap, hμ _ _ h1, h2⟩
  | .fp _ _, _, h => by
    simp only [AVC] at h ⊢
    obtain ⟨b, o, es, h1, h2, h3⟩ := h
    exact ⟨b, o, es, h1, TC.mono hM h2, fun j v hv => hM _ _ _ (h3 j v hv)⟩
  | .obj _, _, h => by
    simp only [AVC] at h ⊢
    obtain ⟨b, h1, h2⟩ := h
    exact ⟨b, hμ _ _ h1, h2⟩
  | .mp _, _, h => by
    simp only [AVC] at h ⊢
    obtain ⟨b, h1, h2⟩ := h
    exact ⟨b, hμ _ _ h1, h2⟩
  | .sln _ _ _, _, h => by simp only [AVC] at h ⊢; exact ⟨TC.mono hM h.1, h.2⟩
  | .nilp, _, h => by simp only [AVC] at h ⊢; exact h
  | .nilf, _, h => by simp only [AVC] at h ⊢; exact h
  | .cons _ _, _, h => by
    simp only [AVC] at h ⊢
    obtain ⟨c1, c2, e, h1, h2⟩ := h
    exact ⟨c1, c2, e, AVC.mono hM hμ h1, AVC.mono hM hμ h2⟩
  | .nil, _, h => by simp only [AVC] at h ⊢; exact h
  | .fn _ _ _, _, h => by
    simp only [AVC] at h ⊢
    obtain ⟨us, vs, e, h0, h1⟩ := h
    exact ⟨us, vs, e, AVL.mono hM hμ h0, AVL.mono hM hμ h1⟩
  | .tup _, _, h => by simp only [AVC] at h
  | .junk, _, h => by simp only [AVC] at h ⊢; exact h
  | .dead, _, h => by simp only [AVC] at h
theorem AVL.mono {M M' : Mem} {μ μ' : Map} (hM : M.le M') (hμ : μ.le μ') : ∀ {a : AV} {vs}, AVL M μ a vs → AVL M' μ' a vs
  | .cons _ _, _, h => by
    simp only [AVL] at h ⊢
    obtain ⟨v, r, c, e, h1, h2, h3⟩ := h
    exact ⟨v, r, c, e, AVC.mono hM hμ h1, h2, AVL.mono hM hμ h3⟩
  | .nil, _, h => by simp only [AVL] at h ⊢; exact h
  | .tv _ _, _, h | .ptr _ _, _, h | .row _, _, h | .fp _ _, _, h | .obj _, _, h | .mp _, _, h | .nilp, _, h | .nilf, _, h | .fn _ _ _, _, h | .tup _, _, h | .junk, _, h | .dead, _, h | .sln _ _ _, _, h => by simp only [AVL] at h
end

theorem AVV.mono {M M' : Mem} {μ μ' : Map} (hM : M.le M') (hμ : μ.le μ') {a : AV} {v : Value} (h : AVV M μ a v) : AVV M' μ' a v := by
  cases a with
  | dead => trivial
  | tup l =>
    simp only [AVV] at h ⊢
    obtain ⟨vs, e, h⟩ := h
    exact ⟨vs, e, h.mono hM hμ⟩
  | _ =>
    simp only [AVV] at h ⊢
    obtain ⟨c, h1, h2⟩ := h
    exact ⟨c, h1.mono hM hμ, h2⟩

theorem AVC.length {M : Mem} {μ : Map} : ∀ {a : AV} {cs}, AVC M μ a cs → cs.length = a.nsz
  | .tv _ _, _, h => by simp only [AVC] at h; exact h.length
  | .ptr _ _, _, h => by
    simp only [AVC] at h
    obtain ⟨l, b, _, _, e, _⟩ := h
    subst e; rfl
  | .row _, _, h => by
    simp only [AVC] at h
    obtain ⟨_, _, _, _, e⟩ := h
    subst e; rfl
  | .fp _ _, _, h => by
    simp only [AVC] at h
    obtain ⟨_, _, _, e, _⟩ := h
    subst e; rfl
  | .obj _, _, h => by
    simp only [AVC] at h
    obtain ⟨_, _, e⟩ := h
    subst e; rfl
  | .mp _, _, h => by
    simp only [AVC] at h
    obtain ⟨_, _, e⟩ := h
    subst e; rfl
  | .sln _ _ _, _, h => by
    simp only [AVC] at h
    obtain ⟨_, _, _, _, e, _⟩ := h
    subst e; rfl
  | .nilp, _, h => by simp only [AVC] at h; subst h; rfl
  | .nilf, _, h => by simp only [AVC] at h; subst h; rfl
  | .cons _ _, _, h => by
    simp only [AVC] at h
    obtain ⟨c1, c2, e, h1, h2⟩ := h
    subst e
    rw [List.length_append, h1.length, h2.length]; rfl
  | .nil, _, h => by simp only [AVC] at h; subst h; rfl
  | .fn _ _ _, _, h => by
    simp only [AVC] at h
    obtain ⟨us, vs, e, _⟩ := h
    subst e; rfl
  | .tup _, _, h => by simp only [AVC] at h
  | .junk, _, h => by
    simp only [AVC] at h
    obtain ⟨v, e, _⟩ := h
    subst e; rfl
  | .dead, _, h => by simp only [AVC] at h

theorem AVC.one {M : Mem} {μ : Map} : ∀ {a : AV} {cs}, AVC M μ a cs → oneC cs
  | .tv _ _, _, h => by simp only [AVC] at h; exact h.one
  | .ptr _ _, _, h => by
    simp only [AVC] at h
    obtain ⟨l, b, _, _, e, _⟩ := h
    subst e; exact oneC.single rfl
  | .row _, _, h => by
    simp only [AVC] at h
    obtain ⟨_, _, _, _, e⟩ := h
    subst e; exact oneC.single rfl
  | .fp _ _, _, h => by
    simp only [AVC] at h
    obtain ⟨_, _, _, e, _⟩ := h
    subst e; exact oneC.single rfl
  | .obj _, _, h => by
    simp only [AVC] at h
    obtain ⟨_, _, e⟩ := h
    subst e; exact oneC.single rfl
  | .mp _, _, h => by
    simp only [AVC] at h
    obtain ⟨_, _, e⟩ := h
    subst e; exact oneC.single rfl
  | .sln _ _ _, _, h => by
    simp only [AVC] at h
    obtain ⟨_, _, _, _, e, _⟩ := h
    subst e; exact oneC.single rfl
  | .nilp, _, h => by simp only [AVC] at h; subst h; exact oneC.single rfl
  | .nilf, _, h => by simp only [AVC] at h; subst h; exact oneC.single rfl
  | .cons _ _, _, h => by
    simp only [AVC] at h
    obtain ⟨c1, c2, e, h1, h2⟩ := h
    subst e
    exact h1.one.append h2.one
  | .nil, _, h => by simp only [AVC] at h; subst h; exact oneC.nil
  | .fn _ _ _, _, h => by
    simp only [AVC] at h
    obtain ⟨us, vs, e, _⟩ := h
    subst e; exact oneC.single rfl
  | .tup _, _, h => by simp only [AVC] at h
  | .junk, _, h => by
    simp only [AVC] at h
    obtain ⟨v, e, h⟩ := h
    subst e; exact oneC.single h
  | .dead, _, h => by simp only [AVC] at h

/-- The cells of a value that is one, and whether it is an aggregate. -/
theorem VofC.cells {agg : Bool} {cs : List Value} {v : Value} (h : VofC agg cs v) (h1 : oneC cs) : v.cells.toList = cs := by
  cases agg with
  | true => simp only [VofC, cond_true] at h; subst h; simp [Value.cells]
  | false =>
    simp only [VofC, cond_false] at h; subst h
    have := h1 v (by simp)
    cases v <;> simp_all [Value.cells, Value.oneCell']
end Go.Av
