/-
  When a loaded operation is one of the abstract machine's.
-/
import Derived.Test.YtlemoepklgfjoaaDoorA4
namespace Go.Av

def TypeDesc.agg : TypeDesc → Bool
  | .struct _ => true
  | .array _ _ => true
  | _ => false

def aggOf (P : Program) (t : TypeId) : Bool :=
  match P.underlying t with
  | some d => TypeDesc.agg d
  | none => false

def hasTy (P : Program) (t : TypeId) : Bool := (P.underlying t).isSome && (P.info? t).isSome

/-- Of a type: so many cells, an aggregate or not. -/
def isSz (P : Program) (t : TypeId) (n : Nat) (agg : Bool) : Bool := hasTy P t && Nat.beq (P.cellsOf t) n && (aggOf P t == agg) && (agg || Nat.beq n 1)

def zeroIs (P : Program) (t : TypeId) (sh : Sh) : Bool :=
  match P.info? t with
  | some i => (match i.zero with
    | some z => (match sh.fits z.cells.toList with | some [] => true | _ => false)
    | none => false)
  | none => false

def fieldOf (P : Program) (t : TypeId) (i : Nat) : Option Field :=
  match P.underlying t with
  | some (.struct fs) => fs[i]?
  | _ => none

def arrOf (P : Program) (t : TypeId) : Option (Nat × TypeId) :=
  match P.underlying t with
  | some (.array n e) => some (n, e)
  | _ => none

def slOf (P : Program) (t : TypeId) : Option TypeId :=
  match P.underlying t with
  | some (.slice e) => some e
  | _ => none

def isStr (P : Program) (t : TypeId) : Bool :=
  match P.underlying t with
  | some .string => true
  | _ => false

def isInt (P : Program) (t : TypeId) (k : IntKind) : Bool :=
  match P.underlying t with
  | some (.int k') => kEq k k'
  | _ => false

/-- An element type of rows: its cells, its bytes, its zero value. -/
def elOk (P : Program) (t : TypeId) (e : Ty) : Bool :=
  match P.info? t with
  | some i => Nat.beq i.size e.n && Nat.ble 1 i.size && Nat.ble i.bytes 16384 && (match i.zero with
    | some z => (match takeEq (zc e) z.cells.toList with | some [] => true | _ => false)
    | none => false)
  | none => false

def teqs (P : Program) (rec : TypeId → Ty → Bool) : Nat → List Field → Ty → Bool
  | _, [], .nil => true
  | off, f :: fs, .pr a b => (f.name != "_") && Nat.beq f.offset off && Nat.beq (P.cellsOf f.type) a.n && hasTy P f.type && (aggOf P f.type == a.isAgg) && rec f.type a && teqs P rec (off + a.n) fs b
  | _, _, _ => false

/-- A type whose values '==' holds against each other as trees of this type. -/
def teq (P : Program) : Nat → TypeId → Ty → Bool
  | 0, _, _ => false
  | d + 1, t, τ =>
    match P.underlying t, τ with
    | some (.int k), .int k' => kEq k k'
    | some .bool, .bool => true
    | some .string, .str => true
    | some (.array n e), .arr m σ => Nat.beq n m && Nat.beq (P.cellsOf e) σ.n && hasTy P e && (aggOf P e == σ.isAgg) && teq P d e σ
    | some (.struct fs), τ => !P.stoodInHeld t && teqs P (teq P d) 0 fs.toList τ
    | _, _ => false

def mapOf (P : Program) (t : TypeId) : Option (TypeId × TypeId) :=
  match P.underlying t with
  | some (.map k e) => some (k, e)
  | _ => none

/-- A map from keys of this type to whole numbers. -/
def mapOk (P : Program) (t : TypeId) (κ : Ty) : Bool :=
  match mapOf P t with
  | some (k, e) => (match κ with | .int q => isInt P k q | .str => isStr P k | _ => false) && (match P.info? e with
    | some i => (match i.zero with | some (.int .i64 0) => true | _ => false)
    | none => false)
  | none => false

def cok : AV → Value → Bool
  | .tv (.int k) n, .int k' n' => kEq k k' && decide ((n : Int) = n')
  | .tv .bool b, .bool b' => decide ((b : Bool) = b')
  | .tv .str s, .string s' => decide ((s : List UInt8) = s'.data.toList)
  | .tv (.sl _) xs, .slice none 0 0 => xs.isEmpty
  | .nilp, .pointer none => true
  | .nilf, .nilFunc => true
  | _, _ => false

def mo : Opd → Operand → Bool
  | .t s, .tmp s' => Nat.beq s s'
  | .c (.fn f .nil .nil), .func f' => Nat.beq f f'
  | .c a, .const v => cok a v
  | .z τ, .const (.agg cs) => τ.isAgg && (match takeEq (zc τ) cs.toList with | some [] => true | _ => false)
  | .g n, .global n' => Nat.beq n n'
  | _, _ => false

def mos : List Opd → List Operand → Bool
  | [], [] => true
  | x :: xs, y :: ys => mo x y && mos xs ys
  | _, _ => false

def moo : Option Opd → Option Operand → Bool
  | none, none => true
  | some x, some y => mo x y
  | _, _ => false

/-- A literal's parts. -/
def mparts (place : Nat → Option (Nat × Nat)) : List (Nat × Step × Nat × Opd) → List (Nat × Operand) → Bool
  | [], [] => true
  | (i, s, n, x) :: r, (i', y) :: r' => Nat.beq i i' && mo x y && (match place i with | some (o, m) => Nat.beq s.off o && Nat.beq n m | none => false) &&
      (match s with | .fld _ _ => true | .idx i n _ => Nat.blt i n) && mparts place r r'
  | _, _ => false

def mpartsS : Nat → List Opd → List (Nat × Operand) → Bool
  | _, [], [] => true
  | k, x :: r, (i, y) :: r' => Nat.beq i k && mo x y && mpartsS (k + 1) r r'
  | _, _, _ => false

def fieldsOf (P : Program) (t : TypeId) : Option (Array Field) :=
  match P.underlying t with
  | some (.struct fs) => some fs
  | _ => none

def negOf (op : BinOp) (neg : Bool) : Bool :=
  match op with
  | .eql => !neg
  | .neq => neg
  | _ => false

def binEq : BinOp → BinOp → Bool
  | a, b => decide (a = b)

def mop (P : Program) : AOp → Op → Bool
  | .mv x, .move y => mo x y
  | .mv x, .assign y => mo x y
  | .pick c a b, .pick c' a' b' => mo c c' && mo a a' && mo b b'
  | .alloc T sh, .alloc t => Nat.beq T t && zeroIs P t sh
  | .box x, .box _ y => mo x y
  | .build T sh parts, .build t ps => Nat.beq T t && zeroIs P t sh && sh.agg &&
      (match P.underlying t with
      | some (.struct fs) => (fs.toList.all fun f => hasTy P f.type) && mparts (fun i => (fs[i]?).map fun f => (f.offset, P.cellsOf f.type)) parts ps.toList
      | some (.array _ e) => hasTy P e && mparts (fun i => some (i * P.cellsOf e, P.cellsOf e)) parts ps.toList
      | _ => false)
  | .bslice e parts, .buildSlice t len ps => (match slOf P t with
      | some e' => elOk P e' e && Nat.beq parts.length len && Nat.ble (len * e.n) 16777216 && mpartsS 0 parts ps.toList
      | none => false)
  | .load agg n x, .load t y => isSz P t n agg && mo x y
  | .store n _ x v, .store t a y => hasTy P t && Nat.beq (P.cellsOf t) n && mo x a && mo v y
  | .nilc x, .nilCheck y => mo x y
  | .bin op x y, .binOp op' _ a b _ => binEq op op' && mo x a && mo y b
  | .eqa neg τ x y, .binOp op T a b _ => negOf op neg && τ.isAgg && τ.eqs && teq P 100 T τ && !P.eqGuardType P.depth T && mo x a && mo y b
  | .eqb neg x y, .binOp op T a b _ => negOf op neg && (match P.underlying T with | some .bool => true | _ => false) && mo x a && mo y b
  | .eqp neg x y, .binOp op T a b _ => negOf op neg && (match P.underlying T with | some (.pointer _) => true | _ => false) && mo x a && mo y b
  | .eqf neg x y, .binOp op T a b _ => negOf op neg && (match P.underlying T with | some (.func ..) => true | _ => false) && mo x a && mo y b
  | .eqn neg x, .binOp op T a (.const (.slice none 0 0)) _ => negOf op neg && (slOf P T).isSome && mo x a
  | .un op x, .unOp op' _ y => decide (op = op') && mo x y
  | .conv k x, .convert s d y => (P.underlying s).isSome && isInt P d k && mo x y
  | .bstr x, .convert s d y => (match slOf P s with | some e => isInt P e .u8 | none => false) && isStr P d && mo x y
  | .mkfn f first caps, .makeFunc (.func f') fi captured => Nat.beq f f' && mos first fi.toList && mos caps captured.toList
  | .mkslice e n c, .makeSlice t l k => (match slOf P t with | some e' => elOk P e' e | none => false) && mo n l && mo c k
  | .slis x lo hi, .slice t y l h m => isStr P t && m.isNone && mo x y && moo lo l && moo hi h
  | .slia e x lo hi, .slice t y l h m => (match slOf P t with | some e' => elOk P e' e | none => false) && m.isNone && mo x y && moo lo l && moo hi h
  | .fad i off x, .fieldAddr t y f => Nat.beq i f && (match fieldOf P t f with | some fd => Nat.beq fd.offset off && hasTy P fd.type && !Nat.beq (P.cellsOf fd.type) 0 | none => false) && mo x y
  | .fld i off n agg x, .field t y f => Nat.beq i f && (match fieldOf P t f with | some fd => Nat.beq fd.offset off && isSz P fd.type n agg | none => false) && mo x y
  | .iad n sz x i, .indexAddr t y j => (match arrOf P t with | some (m, e) => Nat.beq n m && hasTy P e && Nat.beq (P.cellsOf e) sz | none => false) && mo x y && mo i j
  | .iads e x i, .indexAddr t y j => (match slOf P t with | some e' => elOk P e' e | none => false) && mo x y && mo i j
  | .ix n sz agg x i, .index t y j => (match arrOf P t with | some (m, e) => Nat.beq n m && isSz P e sz agg | none => false) && mo x y && mo i j
  | .ixs x i, .index t y j => isStr P t && mo x y && mo i j
  | .ext x i, .extract y j => Nat.beq i j && mo x y
  | .app e x y, .call c => (match c.callee, c.args.toList, c.argTypes.toList with
      | .builtin .append, [a, b], [t, tx] => (match slOf P t with | some e' => elOk P e' e | none => false) && ((slOf P tx).isSome || isStr P tx) && mo x a && mo y b
      | _, _, _ => false)
  | .len x, .call c => (match c.callee, c.args.toList, c.argTypes.toList with
      | .builtin .len, [a], [t] => (slOf P t).isSome && mo x a
      | _, _, _ => false)
  | .lens x, .call c => (match c.callee, c.args.toList, c.argTypes.toList with
      | .builtin .len, [a], [t] => isStr P t && mo x a
      | _, _, _ => false)
  | .lenc n x, .call c => (match c.callee, c.args.toList, c.argTypes.toList with
      | .builtin .len, [a], [t] => (match arrOf P t with | some (m, _) => Nat.beq n m | none => false) && mo x a
      | _, _, _ => false)
  | .mx x y, .call c => (match c.callee, c.args.toList with
      | .builtin .max, [a, b] => mo x a && mo y b
      | _, _ => false)
  | .mn x y, .call c => (match c.callee, c.args.toList with
      | .builtin .min, [a, b] => mo x a && mo y b
      | _, _ => false)
  | .rng x, .range t y => isStr P t && mo x y
  | .nxt x, .next y isS => isS && mo x y
  | .mkmap κ, .makeMap t none => mapOk P t κ
  | .mlook κ ok m k, .lookup t m' k' ok' => (ok == ok') && mapOk P t κ && mo m m' && mo k k'
  | .mput κ m k v, .mapUpdate t m' k' v' => mapOk P t κ && mo m m' && mo k k' && mo v v'
  | .ment κ m k, .mapEntry t m' k' => mapOk P t κ && mo m m' && mo k k'
  | .mest m s v, .entryStore _ m' s' v' => mo m m' && mo s s' && mo v v'
  | .bad, _ => true
  | .nrow _, .move (.const (.slice none 0 0)) => true
  | .nrow _, .assign (.const (.slice none 0 0)) => true
  | _, _ => false

end Go.Av
