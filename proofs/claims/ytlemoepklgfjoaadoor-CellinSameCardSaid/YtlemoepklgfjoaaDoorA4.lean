/-
  The operations, as the abstract machine has them; and when a loaded operation is one of them.
-/
import Derived.Test.YtlemoepklgfjoaaDoorA3
namespace Go.Av

/-! ### Zero values -/
def zc : Ty → List Value
  | .int k => [.int k 0]
  | .bool => [.bool false]
  | .str => [.string ⟨#[]⟩]
  | .sl _ => [.slice none 0 0]
  | .arr n e => (List.replicate n (zc e)).flatten
  | .pr a b => zc a ++ zc b
  | .nil => []

/-- How a new variable is seen: a slice that is going to be written is a row. -/
inductive Sh where
  | tv (τ : Ty) | row (e : Ty) | cons (a b : Sh) | nil | nilp | junk

def Sh.mk : Sh → Nat → AV × Hp × Nat
  | .tv τ, n => (.tv τ τ.zero, [], n)
  | .row e, n => (.row n, [(n, some (.row e [] false))], n + 1)
  | .cons a b, n => (.cons (a.mk n).1 (b.mk (a.mk n).2.2).1, (b.mk (a.mk n).2.2).2.1 ++ (a.mk n).2.1, (b.mk (a.mk n).2.2).2.2)
  | .nil, n => (.nil, [], n)
  | .nilp, n => (.nilp, [], n)
  | .junk, n => (.junk, [], n)

/-- One cell is the other: of the kinds that zero values have. -/
def veq : Value → Value → Bool
  | .int k n, .int k' n' => (decide (k = k')) && (decide (n = n'))
  | .bool b, .bool b' => (decide (b = b'))
  | .string s, .string s' => (decide (s.data.toList = s'.data.toList))
  | .slice none l c, .slice none l' c' => Nat.beq l l' && Nat.beq c c'
  | .pointer none, .pointer none => true
  | _, _ => false

/-- The cells that a zero value of this shape has, taken off the front. -/
def takeEq : List Value → List Value → Option (List Value)
  | [], r => some r
  | x :: xs, y :: ys => bif veq x y then takeEq xs ys else none
  | _ :: _, [] => none

def Sh.fits : Sh → List Value → Option (List Value)
  | .tv τ, cs => takeEq (zc τ) cs
  | .row _, c :: cs => bif veq (.slice none 0 0) c then some cs else none
  | .cons a b, cs => (match a.fits cs with | some r => b.fits r | none => none)
  | .nil, cs => some cs
  | .nilp, c :: cs => bif veq (.pointer none) c then some cs else none
  | .junk, c :: cs => bif c.oneCell' then some cs else none
  | _, [] => none

def Sh.agg : Sh → Bool
  | .tv τ => τ.isAgg | .cons _ _ => true | .nil => true | _ => false

/-! ### Trees out of values: rows become still -/
def toTF : (τ : Ty) → AV → Hp → Option (τ.T × Hp)
  | τ, .tv σ x, _ => if h : σ = τ then some (h ▸ x, []) else none
  | τ, .row i, H =>
    match τ with
    | .sl e => (match hget H i with
      | some (.row e' xs _) => if h : e' = e then some (h ▸ xs, [(i, some (.row e' xs true))]) else none
      | _ => none)
    | _ => none
  | τ, .sln _ e' xs, _ =>
    match τ with
    | .sl e => if h : e' = e then some (h ▸ xs, []) else none
    | _ => none
  | τ, .cons u v, H =>
    match τ with
    | .pr a b => (match toTF a u H with
      | some (x, d) => (match toTF b v (d ++ H) with
        | some (y, d') => some ((x, y), d' ++ d)
        | none => none)
      | none => none)
    | .arr (n + 1) e => (match toTF e u H with
      | some (x, d) => (match toTF (.arr n e) v (d ++ H) with
        | some (y, d') => some (x :: y, d' ++ d)
        | none => none)
      | none => none)
    | _ => none
  | τ, .nil, _ =>
    match τ with
    | .nil => some ((), [])
    | .arr 0 _ => some ([], [])
    | _ => none
  | _, _, _ => none

/-! ### Equality of trees -/
def Ty.eqs : Ty → Bool
  | .sl _ => false
  | .arr _ e => e.eqs
  | .pr a b => a.eqs && b.eqs
  | _ => true

def allEq {α : Type} (f : α → α → Bool) : List α → List α → Bool
  | [], [] => true
  | x :: xs, y :: ys => f x y && allEq f xs ys
  | _, _ => false

def Ty.eqB : (τ : Ty) → τ.T → τ.T → Bool
  | .int _, (x : Int), (y : Int) => x == y
  | .bool, (x : Bool), (y : Bool) => x == y
  | .str, (x : List UInt8), (y : List UInt8) => x == y
  | .sl _, _, _ => false
  | .arr _ e, xs, ys => allEq e.eqB xs ys
  | .pr a b, x, y => a.eqB x.1 y.1 && b.eqB x.2 y.2
  | .nil, _, _ => true

/-! ### Maps to whole numbers -/
def keyOk : Ty → Bool
  | .int _ => true
  | .str => true
  | _ => false
def mget (κ : Ty) (x : κ.T) : List (κ.T × Int) → Option Int
  | [] => none
  | (y, v) :: r => bif κ.eqB x y then some v else mget κ x r
def mpos (κ : Ty) (x : κ.T) : List (κ.T × Int) → Nat
  | [] => 0
  | (y, _) :: r => bif κ.eqB x y then 0 else mpos κ x r + 1
def mset (κ : Ty) (x : κ.T) (v : Int) : List (κ.T × Int) → List (κ.T × Int)
  | [] => [(x, v)]
  | (y, u) :: r => bif κ.eqB x y then (x, v) :: r else (y, u) :: mset κ x v r
def mtouch (κ : Ty) (x : κ.T) : List (κ.T × Int) → List (κ.T × Int)
  | [] => [(x, 0)]
  | (y, u) :: r => bif κ.eqB x y then (x, u) :: r else (y, u) :: mtouch κ x r
def mstore {α : Type} (v : Int) : Nat → List (α × Int) → List (α × Int)
  | _, [] => []
  | 0, (y, _) :: r => (y, v) :: r
  | n + 1, p :: r => p :: mstore v n r
def mval (κ : Ty) (x : κ.T) (l : List (κ.T × Int)) : Int := (mget κ x l).getD 0
def mhas (κ : Ty) (x : κ.T) (l : List (κ.T × Int)) : Bool := (mget κ x l).isSome

/-! ### The operations -/
inductive Opd where
  | t (s : Nat) | c (a : AV) | z (τ : Ty) | g (n : Nat)

structure St where
  env : List (Nat × AV)
  H : Hp
  nid : Nat

def St.get (S : St) (t : Nat) : AV :=
  match alGet S.env t with
  | some a => a
  | none => .dead

structure Upd where
  hs : Hp
  na : Nat

def U0 : Upd := ⟨[], 0⟩

def ev (G : Nat → AV) (S : St) : Opd → AV
  | .t s => S.get s
  | .c a => a
  | .z τ => .tv τ τ.zero
  | .g n => G n

inductive AOp where
  | mv (x : Opd)
  | pick (c a b : Opd)
  | alloc (T : TypeId) (sh : Sh)
  | box (x : Opd)
  | build (T : TypeId) (sh : Sh) (parts : List (Nat × Step × Nat × Opd))
  | bslice (e : Ty) (parts : List Opd)
  | load (agg : Bool) (n : Nat) (x : Opd)
  | store (n : Nat) (cv : Option Ty) (x v : Opd)
  | nilc (x : Opd)
  | bin (op : BinOp) (x y : Opd)
  | eqa (neg : Bool) (τ : Ty) (x y : Opd)
  | eqb (neg : Bool) (x y : Opd)
  | eqp (neg : Bool) (x y : Opd)
  | eqf (neg : Bool) (x y : Opd)
  | eqn (neg : Bool) (x : Opd)
  | un (op : UnOp) (x : Opd)
  | conv (k : IntKind) (x : Opd)
  | bstr (x : Opd)
  | mkfn (f : FuncId) (first caps : List Opd)
  | mkslice (e : Ty) (n c : Opd)
  | slis (x : Opd) (lo hi : Option Opd)
  | slia (e : Ty) (x : Opd) (lo hi : Option Opd)
  | fad (i off : Nat) (x : Opd)
  | fld (i off n : Nat) (agg : Bool) (x : Opd)
  | iad (n sz : Nat) (x i : Opd)
  | iads (e : Ty) (x i : Opd)
  | ix (n sz : Nat) (agg : Bool) (x i : Opd)
  | ixs (x i : Opd)
  | ext (x : Opd) (i : Nat)
  | app (e : Ty) (x y : Opd)
  | len (x : Opd)
  | lens (x : Opd)
  | lenc (n : Nat) (x : Opd)
  | mx (x y : Opd)
  | mn (x y : Opd)
  | rng (x : Opd)
  | nxt (x : Opd)
  | nrow (e : Ty)
  | mkmap (κ : Ty)
  | mlook (κ : Ty) (ok : Bool) (m k : Opd)
  | mput (κ : Ty) (m k v : Opd)
  | ment (κ : Ty) (m k : Opd)
  | mest (m s v : Opd)
  | bad

def kEq (a b : IntKind) : Bool := decide (a = b)

def bitop (op : BinOp) (k : IntKind) (x y : Int) : Int :=
  match op with
  | .and => k.wrap ((BitVec.ofInt k.bits x &&& BitVec.ofInt k.bits y).toNat)
  | .or => k.wrap ((BitVec.ofInt k.bits x ||| BitVec.ofInt k.bits y).toNat)
  | .xor => k.wrap ((BitVec.ofInt k.bits x ^^^ BitVec.ofInt k.bits y).toNat)
  | _ => k.wrap ((BitVec.ofInt k.bits x &&& ~~~ BitVec.ofInt k.bits y).toNat)

def shlI (k : IntKind) (x y : Int) : Int := k.wrap (x * 2 ^ (min y.toNat k.bits))
def shrI (k : IntKind) (x y : Int) : Int := x.fdiv (2 ^ (min y.toNat k.bits))

section
variable {R : Type}

def binI (op : BinOp) (k k' : IntKind) (x y : Int) (K : AV → Option R) : Option R :=
  match op with
  | .shl => bif decide (y < 0) then none else K (.tv (.int k) (shlI k x y))
  | .shr => bif decide (y < 0) then none else K (.tv (.int k) (shrI k x y))
  | _ => bif kEq k k' then (match op with
    | .add => K (.tv (.int k) (k.wrap (x + y)))
    | .sub => K (.tv (.int k) (k.wrap (x - y)))
    | .mul => K (.tv (.int k) (k.wrap (x * y)))
    | .quo => bif decide (y = 0) then none else K (.tv (.int k) (k.wrap (x.tdiv y)))
    | .rem => bif decide (y = 0) then none else K (.tv (.int k) (x.tmod y))
    | .and => K (.tv (.int k) (bitop .and k x y))
    | .or => K (.tv (.int k) (bitop .or k x y))
    | .xor => K (.tv (.int k) (bitop .xor k x y))
    | .andNot => K (.tv (.int k) (bitop .andNot k x y))
    | .eql => K (.tv .bool (decide (x = y)))
    | .neq => K (.tv .bool (!decide (x = y)))
    | .lss => K (.tv .bool (decide (x < y)))
    | .leq => K (.tv .bool (decide (x ≤ y)))
    | .gtr => K (.tv .bool (decide (y < x)))
    | .geq => K (.tv .bool (decide (y ≤ x)))
    | _ => none) else none

def strMax : Nat := 4611686018427387904

def binS (op : BinOp) (x y : List UInt8) (K : AV → Option R) : Option R :=
  match op with
  | .add => bif decide (x.length + y.length ≤ strMax) then K (.tv .str (x ++ y)) else none
  | .eql => K (.tv .bool (decide (x = y)))
  | .neq => K (.tv .bool (!decide (x = y)))
  | _ => none

def binV (op : BinOp) (a b : AV) (K : AV → Option R) : Option R :=
  match a, b with
  | .tv (.int k) x, .tv (.int k') y => binI op k k' x y K
  | .tv .str x, .tv .str y => binS op x y K
  | _, _ => none

def eqaV (neg : Bool) (τ : Ty) (a b : AV) (K : AV → Option R) : Option R :=
  match a, b with
  | .tv σ x, .tv ρ y => if h : σ = τ then (if h' : ρ = τ then K (.tv .bool (neg ^^ τ.eqB (h ▸ x) (h' ▸ y))) else none) else none
  | _, _ => none

def eqbV (neg : Bool) (a b : AV) (K : AV → Option R) : Option R :=
  match a, b with
  | .tv .bool x, .tv .bool y => K (.tv .bool (neg ^^ ((x : Bool) == y)))
  | _, _ => none

def eqpV (neg : Bool) (a b : AV) (K : AV → Option R) : Option R :=
  match a, b with
  | .ptr _ _, .nilp => K (.tv .bool neg)
  | .nilp, .ptr _ _ => K (.tv .bool neg)
  | .nilp, .nilp => K (.tv .bool !neg)
  | _, _ => none

def eqfV (neg : Bool) (a b : AV) (K : AV → Option R) : Option R :=
  match a, b with
  | .fn _ _ _, .nilf => K (.tv .bool neg)
  | .nilf, .fn _ _ _ => K (.tv .bool neg)
  | .nilf, .nilf => K (.tv .bool !neg)
  | _, _ => none

def unV (op : UnOp) (a : AV) (K : AV → Option R) : Option R :=
  match op, a with
  | .neg, .tv (.int k) x => K (.tv (.int k) (k.wrap (0 - x)))
  | .not, .tv .bool b => K (.tv .bool (!b))
  | .xor, .tv (.int k) x => K (.tv (.int k) (bitop .xor k (if k.signed then -1 else k.max) x))
  | _, _ => none

def inR (i : Int) (n : Nat) : Bool := decide (0 ≤ i ∧ i < n)

/-- The bounds of a slice expression: the low and the high one, in this many elements. -/
def bnds (n : Nat) (lo hi : Option AV) (K : Nat → Nat → Option R) : Option R :=
  match lo, hi with
  | none, none => K 0 n
  | some (.tv (.int _) l), none => bif decide (0 ≤ (l : Int) ∧ (l : Int) ≤ n) then K (l : Int).toNat n else none
  | none, some (.tv (.int _) h) => bif decide (0 ≤ (h : Int) ∧ (h : Int) ≤ n) then K 0 (h : Int).toNat else none
  | some (.tv (.int _) l), some (.tv (.int _) h) => bif decide (0 ≤ (l : Int) ∧ (l : Int) ≤ h ∧ (h : Int) ≤ n) then K (l : Int).toNat (h : Int).toNat else none
  | _, _ => none

def chainOf : List AV → AV
  | [] => .nil
  | a :: r => .cons a (chainOf r)

def AV.live : AV → Bool
  | .dead => false
  | .tup _ => false
  | _ => true

def allLive : List AV → Bool
  | [] => true
  | a :: r => a.live && allLive r

def chainAt : Nat → AV → Option AV
  | 0, .cons a _ => some a
  | i + 1, .cons _ b => chainAt i b
  | _, _ => none

/-- The parts of a literal laid into its zero value. -/
def lay : AV → List (Step × Nat × AV) → Option AV
  | z, [] => some z
  | z, (s, n, v) :: r => (match stepGet s z with
    | some o => bif Nat.beq v.nsz n && Nat.beq o.nsz n then (match stepSet s z v with | some z' => lay z' r | none => none) else none
    | none => none)

/-- Some trees of one type out of values. -/
def toTFs (e : Ty) : List AV → Hp → Option (List e.T × Hp)
  | [], _ => some ([], [])
  | a :: r, H => (match toTF e a H with
    | some (x, d) => (match toTFs e r (d ++ H) with
      | some (xs, d') => some (x :: xs, d' ++ d)
      | none => none)
    | none => none)

def rowMax : Nat := 1073741824

/-- What stands at an address. -/
def readAt (H : Hp) (a : AV) : Option AV :=
  match a with
  | .ptr id p => (match hget H id with
    | some (.box v) => pathGet p v
    | some (.row e xs _) => (match p with
      | .idx i _ sz :: r => bif Nat.beq e.n sz then pathGet r (.tv e (xs.getD i e.zero)) else none
      | _ => none)
    | _ => none)
  | .fp τ x => some (.tv τ x)
  | _ => none

/-- The store of a value at an address: what becomes of the block. -/
def writeAt (H : Hp) (a v : AV) : Option (Nat × Blk) :=
  match a with
  | .ptr id p => (match hget H id with
    | some (.box u) => (match pathGet p u, pathSet p u v with
      | some old, some u' => bif Nat.beq v.nsz old.nsz then some (id, .box u') else none
      | _, _ => none)
    | some (.row e xs false) => (match p with
      | .idx i _ sz :: r => bif Nat.beq e.n sz then
          (match pathGet r (.tv e (xs.getD i e.zero)), pathSet r (.tv e (xs.getD i e.zero)) v with
          | some old, some (.tv e' y) => bif Nat.beq v.nsz old.nsz then (if h : e' = e then some (id, .row e (xs.set i (h ▸ y)) false) else none) else none
          | _, _ => none) else none
      | _ => none)
    | _ => none)
  | _ => none

/-- The elements that an append is handed. -/
def srcOf (e : Ty) (H : Hp) (i : Nat) (a : AV) : Option (List e.T) :=
  match a with
  | .tv (.sl e') ys => if h : e' = e then some (h ▸ ys) else none
  | .sln _ e' ys => if h : e' = e then some (h ▸ ys) else none
  | .tv .str s => if h : Ty.int .u8 = e then some (h ▸ (s.map fun (b : UInt8) => (b.toNat : Int) : List Int)) else none
  | .row j => bif Nat.beq i j then none else (match hget H j with
    | some (.row e' ys _) => if h : e' = e then some (h ▸ ys) else none
    | _ => none)
  | _ => none

def mxI (x y : Int) : Int := bif decide (x < y) then y else x
def mnI (x y : Int) : Int := bif decide (y < x) then y else x
def toU8 (n : Int) : UInt8 := UInt8.ofNat n.toNat

/-- An operation: what it tells, and what becomes of the abstract memory. New blocks are numbered from 'nid' on. -/
def aop (G : Nat → AV) (op : AOp) (S : St) (nid : Nat) (K : AV → Upd → Option R) : Option R :=
  match op with
  | .mv x => K (ev G S x) U0
  | .pick c a b => (match ev G S c with
    | .tv .bool x => (match ev G S a, ev G S b with
      | .tv τ u, .tv σ v => if h : σ = τ then K (.tv τ (bif x then u else h ▸ v)) U0 else none
      | u, v => bif x then K u U0 else K v U0)
    | _ => none)
  | .alloc _ sh => K (.ptr nid []) ⟨(nid, some (.box (sh.mk (nid + 1)).1)) :: (sh.mk (nid + 1)).2.1, (sh.mk (nid + 1)).2.2 - nid⟩
  | .box x => bif (ev G S x).live then K (.ptr nid []) ⟨[(nid, some (.box (ev G S x)))], 1⟩ else none
  | .build _ sh parts => bif allLive (parts.map fun p => ev G S p.2.2.2) then (match lay (sh.mk nid).1 (parts.map fun p => (p.2.1, p.2.2.1, ev G S p.2.2.2)) with
    | some a => K a ⟨(sh.mk nid).2.1, (sh.mk nid).2.2 - nid⟩
    | none => none) else none
  | .bslice e parts => (match toTFs e (parts.map (ev G S)) S.H with
    | some (xs, d) => K (.row nid) ⟨(nid, some (.row e xs false)) :: d, 1⟩
    | none => none)
  | .load agg n x => (match readAt S.H (ev G S x) with
    | some v => bif Nat.beq v.nsz n && (v.isAgg == agg) then K v U0 else none
    | none => none)
  | .store n cv x v => (match cv with
    | none => bif (ev G S v).live && Nat.beq (ev G S v).nsz n then (match writeAt S.H (ev G S x) (ev G S v) with
      | some (id, k) => K .dead ⟨[(id, some k)], 0⟩
      | none => none) else none
    | some τ => (match toTF τ (ev G S v) S.H with
      | some (y, d) => bif Nat.beq τ.n n then (match writeAt (d ++ S.H) (ev G S x) (.tv τ y) with
        | some (id, k) => K .dead ⟨(id, some k) :: d, 0⟩
        | none => none) else none
      | none => none))
  | .nilc x => (match ev G S x with
    | .ptr id p => K (.ptr id p) U0
    | .fp τ y => K (.fp τ y) U0
    | .fn f b c => K (.fn f b c) U0
    | _ => none)
  | .bin op x y => binV op (ev G S x) (ev G S y) fun v => K v U0
  | .eqa neg τ x y => eqaV neg τ (ev G S x) (ev G S y) fun v => K v U0
  | .eqb neg x y => eqbV neg (ev G S x) (ev G S y) fun v => K v U0
  | .eqp neg x y => eqpV neg (ev G S x) (ev G S y) fun v => K v U0
  | .eqn neg x => (match ev G S x with
    | .sln b _ _ => K (.tv .bool (neg ^^ b)) U0
    | _ => none)
  | .eqf neg x y => eqfV neg (ev G S x) (ev G S y) fun v => K v U0
  | .un op x => unV op (ev G S x) fun v => K v U0
  | .conv k x => (match ev G S x with
    | .tv (.int _) n => K (.tv (.int k) (k.wrap n)) U0
    | _ => none)
  | .bstr x => (match ev G S x with
    | .tv (.sl (.int .u8)) xs => K (.tv .str (List.map toU8 xs)) U0
    | .row i => (match hget S.H i with
      | some (.row (.int .u8) xs _) => K (.tv .str (List.map toU8 xs)) U0
      | _ => none)
    | _ => none)
  | .mkfn f first caps => bif allLive (first.map (ev G S)) && allLive (caps.map (ev G S)) then K (.fn f (chainOf (first.map (ev G S))) (chainOf (caps.map (ev G S)))) U0 else none
  | .mkslice e n c => (match ev G S n, ev G S c with
    | .tv (.int _) n, .tv (.int _) c => bif decide (0 ≤ (n : Int) ∧ (n : Int) ≤ c ∧ (c : Int) ≤ rowMax) then
        K (.row nid) ⟨[(nid, some (.row e (List.replicate (n : Int).toNat e.zero) false))], 1⟩ else none
    | _, _ => none)
  | .slis x lo hi => (match ev G S x with
    | .tv .str s => bnds s.length (lo.map (ev G S)) (hi.map (ev G S)) fun l h => K (.tv .str ((s.take h).drop l)) U0
    | _ => none)
  | .slia e x lo hi => (match toTF (.sl e) (ev G S x) S.H with
    | some (xs, d) => bnds xs.length (lo.map (ev G S)) (hi.map (ev G S)) fun l h => K (.tv (.sl e) ((xs.take h).drop l)) ⟨d, 0⟩
    | none => none)
  | .fad i off x => (match ev G S x with
    | .ptr id p => K (.ptr id (p ++ [.fld i off])) U0
    | .fp τ y => (match fldGet i off (.tv τ y) with
      | some (.tv σ z) => K (.fp σ z) U0
      | _ => none)
    | _ => none)
  | .fld i off n agg x => (match fldGet i off (ev G S x) with
    | some v => bif Nat.beq v.nsz n && (v.isAgg == agg) then K v U0 else none
    | none => none)
  | .iad n sz x i => (match ev G S i with
    | .tv (.int _) j => bif inR j n then (match ev G S x with
      | .ptr id p => K (.ptr id (p ++ [.idx (j : Int).toNat n sz])) U0
      | .fp (.arr m e) xs => bif Nat.beq m n && Nat.beq e.n sz then K (.fp e (xs.getD (j : Int).toNat e.zero)) U0 else none
      | _ => none) else none
    | _ => none)
  | .iads e x i => (match ev G S i with
    | .tv (.int _) j => (match ev G S x with
      | .tv (.sl e') xs => bif Nat.beq e'.n e.n then (bif inR j xs.length then K (.fp e' (xs.getD (j : Int).toNat e'.zero)) U0 else none) else none
      | .row id => (match hget S.H id with
        | some (.row e' xs _) => bif Nat.beq e'.n e.n then (bif inR j xs.length then K (.ptr id [.idx (j : Int).toNat xs.length e.n]) U0 else none) else none
        | _ => none)
      | _ => none)
    | _ => none)
  | .ix n sz agg x i => (match ev G S i with
    | .tv (.int _) j => (match ev G S x with
      | .tv (.arr m e) xs => bif Nat.beq m n && Nat.beq e.n sz && (e.isAgg == agg) then (bif inR j n then K (.tv e (xs.getD (j : Int).toNat e.zero)) U0 else none) else none
      | .cons u v => bif inR j n then (match chainGet (j : Int).toNat sz (.cons u v) with
        | some a => bif (a.isAgg == agg) then K a U0 else none
        | none => none) else none
      | _ => none)
    | _ => none)
  | .ixs x i => (match ev G S i, ev G S x with
    | .tv (.int _) j, .tv .str s => bif inR j s.length then K (.tv (.int .u8) ((s.getD (j : Int).toNat 0).toNat : Int)) U0 else none
    | _, _ => none)
  | .ext x i => (match ev G S x with
    | .tup l => (match chainAt i l with | some a => K a U0 | none => none)
    | _ => none)
  | .app e x y => (match ev G S x with
    | .row i => (match hget S.H i with
      | some (.row e' xs fz) => if h : e' = e then (match srcOf e S.H i (ev G S y) with
        | some ys => bif decide (xs.length + ys.length ≤ rowMax) then K (.row nid) ⟨[(nid, some (.row e ((h ▸ xs : List e.T) ++ ys) fz)), (i, none)], 1⟩ else none
        | none => none) else none
      | _ => none)
    | _ => none)
  | .lens x => (match ev G S x with
    | .tv .str s => K (.tv (.int .i64) (s.length : Int)) U0
    | _ => none)
  | .len x => (match ev G S x with
    | .tv (.sl _) xs => K (.tv (.int .i64) (xs.length : Int)) U0
    | .row i => (match hget S.H i with
      | some (.row _ xs _) => K (.tv (.int .i64) (xs.length : Int)) U0
      | _ => none)
    | _ => none)
  | .lenc n _ => K (.tv (.int .i64) (n : Int)) U0
  | .bad => none
  | .mkmap κ => K (.mp nid) ⟨[(nid, some (.mp κ []))], 1⟩
  | .mlook κ ok m k => (match ev G S m with
    | .mp id => (match hget S.H id with
      | some (.mp κ' l) => (match ev G S k with
        | .tv σ x => if h : σ = κ' then (bif decide (κ' = κ) && keyOk κ then
            K (bif ok then .tup (.cons (.tv (.int .i64) (mval κ' (h ▸ x) l)) (.cons (.tv .bool (mhas κ' (h ▸ x) l)) .nil)) else .tv (.int .i64) (mval κ' (h ▸ x) l)) U0 else none) else none
        | _ => none)
      | _ => none)
    | _ => none)
  | .mput κ m k v => (match ev G S m with
    | .mp id => (match hget S.H id with
      | some (.mp κ' l) => (match ev G S k, ev G S v with
        | .tv σ x, .tv (.int .i64) n => if h : σ = κ' then (bif decide (κ' = κ) && keyOk κ then K .dead ⟨[(id, some (.mp κ' (mset κ' (h ▸ x) n l)))], 0⟩ else none) else none
        | _, _ => none)
      | _ => none)
    | _ => none)
  | .ment κ m k => (match ev G S m with
    | .mp id => (match hget S.H id with
      | some (.mp κ' l) => (match ev G S k with
        | .tv σ x => if h : σ = κ' then (bif decide (κ' = κ) && keyOk κ then
            K (.tup (.cons (.tv (.int .i64) (mval κ' (h ▸ x) l)) (.cons (.tv (.int .i64) (mpos κ' (h ▸ x) l : Int)) .nil))) ⟨[(id, some (.mp κ' (mtouch κ' (h ▸ x) l)))], 0⟩ else none) else none
        | _ => none)
      | _ => none)
    | _ => none)
  | .mest m s v => (match ev G S m with
    | .mp id => (match hget S.H id with
      | some (.mp κ' l) => (match ev G S s, ev G S v with
        | .tv (.int .i64) n, .tv (.int .i64) y => bif inR n l.length then K .dead ⟨[(id, some (.mp κ' (mstore y (n : Int).toNat l)))], 0⟩ else none
        | _, _ => none)
      | _ => none)
    | _ => none)
  | .nrow e => K (.row nid) ⟨[(nid, some (.row e [] false))], 1⟩
  | .mx x y => (match ev G S x, ev G S y with
    | .tv (.int k) x, .tv (.int k') y => bif kEq k k' then K (.tv (.int k) (mxI x y)) U0 else none
    | _, _ => none)
  | .mn x y => (match ev G S x, ev G S y with
    | .tv (.int k) x, .tv (.int k') y => bif kEq k k' then K (.tv (.int k) (mnI x y)) U0 else none
    | _, _ => none)
  | .rng x => (match ev G S x with
    | .tv .str s => K (.obj nid) ⟨[(nid, some (.iter s 0))], 1⟩
    | _ => none)
  | .nxt x => (match ev G S x with
    | .obj id => (match hget S.H id with
      | some (.iter s pos) => bif decide (pos < s.length) then
          K (.tup (.cons (.tv .bool true) (.cons (.tv (.int .i64) (pos : Int)) (.cons (.tv (.int .i32) ((Utf8.decode ⟨s.toArray⟩ pos).1 : Int)) .nil))))
            ⟨[(id, some (.iter s (pos + (Utf8.decode ⟨s.toArray⟩ pos).2)))], 0⟩
        else K (.tup (.cons (.tv .bool false) .nil)) U0
      | _ => none)
    | _ => none)

end
end Go.Av
