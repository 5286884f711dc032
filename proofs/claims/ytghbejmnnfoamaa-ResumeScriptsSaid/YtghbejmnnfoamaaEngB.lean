/- The engine, part B: what an operation does to symbolic values and objects (definitions alone; the kernel reckons with them). -/
import Derived.Test.YtghbejmnnfoamaaEngA
set_option linter.unusedVariables false
set_option linter.unusedSimpArgs false
namespace Go.Eng
open Go

/-- What a type is, as far as operations ask. A struct's field: offset, cells, type. -/
inductive TK where
  | int (k : IntKind)
  | bool
  | str
  | ptr (e : Nat)
  | strct (fs : List (Nat × Nat × Nat))
  | arr (n e : Nat)
  | slc (e : Nat)
  | fn
  | tup
  | other
structure TD where
  k : TK
  size : Nat
  bytes : Nat
  zero : List Value
abbrev Ty := List (Nat × TD)

def TD.isAgg (d : TD) : Bool := match d.k with
  | .strct _ => true
  | .arr _ _ => true
  | _ => false
def TK.isTup : TK → Bool
  | .tup => true
  | _ => false
def TD.zeroSV (d : TD) : Option SV := match d.isAgg, d.k.isTup, d.zero with
  | true, _, z => some (.agg (z.map SV.g))
  | false, false, [v] => some (.g v)
  | false, _, _ => none

def SV.cells : SV → List SV
  | .agg cs => cs
  | .g (.agg cs) => cs.toList.map SV.g
  | v => [v]

/-- The kernel's own order: an offset literal, or a row's number. -/
def addOff (i n : Nat) : Nat := match i with
  | 0 => n
  | k + 1 => (k + 1) + n

def setAt : List SV → Nat → List SV → List SV
  | l, _, [] => l
  | l, k, x :: xs => setAt (l.set k x) (k + 1) xs

/-- The place of an array's element. -/
def arrAt (id off i s : Nat) : SV := match off with
  | 0 => .ptr id i s 0
  | off => .ptr id 0 0 (off + i * s)

/-- Load type d at row i (stride s), offset off. -/
def loadX (d : TD) (i s off : Nat) : SO → Option (List Prop × SV)
  | .cells cs _ => match d.isAgg with
    | true => match Nat.ble (i * s + off + d.size) cs.length with
      | true => some ([], .agg ((cs.drop (i * s + off)).take d.size))
      | false => none
    | false => match cs[i * s + off]? with
      | some v => some ([], v)
      | none => none
  | .view s' n _ row _ => match Nat.beq s s', Nat.ble (off + (match d.isAgg with | true => d.size | false => 1)) s with
    | true, true => match d.isAgg with
      | true => some ([i < n], .agg (((row i).drop off).take d.size))
      | false => match (row i)[off]? with
        | some v => some ([i < n], v)
        | none => none
    | _, _ => none
  | .ro s' n row => match Nat.beq s s', Nat.ble (off + (match d.isAgg with | true => d.size | false => 1)) s with
    | true, true => match d.isAgg with
      | true => some ([i < n], .agg (((row i).drop off).take d.size))
      | false => match (row i)[off]? with
        | some v => some ([i < n], v)
        | none => none
    | _, _ => none
  | _ => none

def isPlain : SV → Bool
  | .agg _ => false
  | .tup _ => false
  | .opt _ _ => false
  | .g (.agg _) => false
  | .g (.tuple _) => false
  | .g (.int _ _) => true
  | .g (.bool _) => true
  | .g (.string _) => true
  | .g (.pointer _) => true
  | .g (.slice _ _ _) => true
  | .g (.map _) => true
  | .g .nilIface => true
  | .g (.iface _ _) => true
  | .g .nilFunc => true
  | .g (.func _ _ _) => true
  | .g (.chan _) => true
  | .g (.float _ _) => true
  | .g (.complex _ _ _) => true
  | .ptr _ _ _ _ => true
  | .sl _ _ _ _ _ => true
  | .fn _ _ => true

/-- Store value x (type d) at row i (stride s), offset off. -/
def storeX (d : TD) (i s off : Nat) (x : SV) : SO → Option (List Prop × SO × SV)
  | .cells cs T => match Nat.beq x.cells.length d.size, x.cells.all isPlain, Nat.ble (i * s + off + d.size) cs.length with
    | true, true, true => some ([], .cells (setAt cs (i * s + off) x.cells) T, .g undef)
    | _, _, _ => none
  | .view s' n c row T => match Nat.beq x.cells.length d.size, x.cells.all isPlain, Nat.beq s s', Nat.ble (off + d.size) s with
    | true, true, true, true => some ([i < n], .view s' n c (fun j => if j = i then setAt (row i) off x.cells else row j) T, .g undef)
    | _, _, _, _ => none
  | _ => none

inductive Det where
  | pure (pre : List Prop) (r : SV)
  | rd (id : Nat) (f : SO → Option (List Prop × SV))
  | wr (id : Nat) (f : SO → Option (List Prop × SO × SV))
  | new (so : SO) (r : Nat → SV)
  | call (f : Nat) (args : List SV)
  | ask (c : Bool → Prop)

/-- Integer operations. -/
def binI (op : BinOp) (k : IntKind) (a b : Int) : Option (List Prop × Value) :=
  match op with
  | .add => some ([], .int k (k.wrap (a + b)))
  | .sub => some ([], .int k (k.wrap (a - b)))
  | .mul => some ([], .int k (k.wrap (a * b)))
  | .quo => some ([b ≠ 0], .int k (k.wrap (a.tdiv b)))
  | .rem => some ([b ≠ 0], .int k (a.tmod b))
  | .and => some ([], .int k (k.wrap ((BitVec.ofInt k.bits a &&& BitVec.ofInt k.bits b).toNat)))
  | .or => some ([], .int k (k.wrap ((BitVec.ofInt k.bits a ||| BitVec.ofInt k.bits b).toNat)))
  | .xor => some ([], .int k (k.wrap ((BitVec.ofInt k.bits a ^^^ BitVec.ofInt k.bits b).toNat)))
  | .andNot => some ([], .int k (k.wrap ((BitVec.ofInt k.bits a &&& ~~~(BitVec.ofInt k.bits b)).toNat)))
  | .eql => some ([], .bool (a == b))
  | .neq => some ([], .bool (a != b))
  | .lss => some ([], .bool (decide (a < b)))
  | .leq => some ([], .bool (decide (a ≤ b)))
  | .gtr => some ([], .bool (decide (b < a)))
  | .geq => some ([], .bool (decide (b ≤ a)))
  | _ => none

def shiftI (op : BinOp) (k : IntKind) (a b : Int) : Option (List Prop × Value) :=
  match op with
  | .shl => some ([0 ≤ b], .int k (k.wrap (a * 2 ^ (min b.toNat k.bits))))
  | .shr => some ([0 ≤ b], .int k (a.fdiv (2 ^ (min b.toNat k.bits))))
  | _ => none

def binS (op : BinOp) (a b : ByteArray) : Option (List Prop × Value) :=
  match op with
  | .add => some ([a.size + b.size ≤ 9223372036854775807], .string (a ++ b))
  | .eql => some ([], .bool (decide (a = b)))
  | .neq => some ([], .bool (!(decide (a = b))))
  | .lss => some ([], .bool (Op.bytesLess a.toList b.toList))
  | .leq => some ([], .bool (Op.bytesLess a.toList b.toList || decide (a = b)))
  | .gtr => some ([], .bool (!(Op.bytesLess a.toList b.toList || decide (a = b))))
  | .geq => some ([], .bool (!(Op.bytesLess a.toList b.toList)))
  | _ => none

/-- Equality of two values of one cell. -/
def eqV : TK → SV → SV → Option Bool
  | .int _, .g (.int .i64 a), .g (.int .i64 b) => some (a == b)
  | .int _, .g (.int .u8 a), .g (.int .u8 b) => some (a == b)
  | .bool, .g (.bool a), .g (.bool b) => some (a == b)
  | .str, .g (.string a), .g (.string b) => some (decide (a = b))
  | _, _, _ => none
/-- Equality of two structs all of whose fields are numbers, bools or strings. -/
def eqFs (ty : Ty) : Nat → List (Nat × Nat × Nat) → List SV → List SV → Option Bool
  | _, [], [], [] => some true
  | k, (off, _, ft) :: fs, x :: xs, y :: ys => match Nat.beq off k, look ft ty with
    | true, some td => match eqV td.k x y with
      | none => none
      | some b => match eqFs ty (k + 1) fs xs ys with
        | none => none
        | some c => some (b && c)
    | _, _ => none
  | _, _, _, _ => none

def eqX (ty : Ty) (t : Nat) (x y : SV) : Option Bool :=
  match look t ty with
  | some ⟨.bool, _, _, _⟩ => match x, y with
    | .g (.bool a), .g (.bool b) => some (a == b)
    | _, _ => none
  | some ⟨.strct fs, _, _, _⟩ => match x, y with
    | .agg xs, .agg ys => eqFs ty 0 fs xs ys
    | _, _ => none
  | some ⟨.ptr _, _, _, _⟩ => match x, y with
    | .ptr _ _ _ _, .g (.pointer none) => some false
    | .g (.pointer none), .ptr _ _ _ _ => some false
    | .g (.pointer none), .g (.pointer b) => some b.isNone
    | .g (.pointer (some _)), .g (.pointer none) => some false
    | _, _ => none
  | _ => none

def binX (ty : Ty) (op : BinOp) (t : Nat) (x y : SV) : Option Det :=
  match x, y with
  | .g (.int k a), .g (.int k' b) => match op with
    | .shl => (shiftI .shl k a b).map fun r => .pure r.1 (.g r.2)
    | .shr => (shiftI .shr k a b).map fun r => .pure r.1 (.g r.2)
    | _ => match decide (k = k') with
      | true => (binI op k a b).map fun r => .pure r.1 (.g r.2)
      | false => none
  | .g (.string a), .g (.string b) => (binS op a b).map fun r => .pure r.1 (.g r.2)
  | .sl _ _ _ len cap, .g (.slice none _ _) => match look t ty, op with
    | some ⟨.slc _, _, _, _⟩, .eql => some (.ask fun b => b = true → len = 0 ∧ cap = 0)
    | some ⟨.slc _, _, _, _⟩, .neq => some (.ask fun b => b = false → len = 0 ∧ cap = 0)
    | _, _ => none
  | .g (.slice none _ _), .g (.slice none _ _) => match look t ty, op with
    | some ⟨.slc _, _, _, _⟩, .eql => some (.pure [] (.g (.bool true)))
    | some ⟨.slc _, _, _, _⟩, .neq => some (.pure [] (.g (.bool false)))
    | _, _ => none
  | _, _ => match op with
    | .eql => (eqX ty t x y).map fun b => .pure [] (.g (.bool b))
    | .neq => (eqX ty t x y).map fun b => .pure [] (.g (.bool (!b)))
    | _ => none

def byteAt (s : ByteArray) (i : Int) : Int := (s.data.getD i.toNat 0).toNat

/-- The byte in a row of one cell. -/
def rowByte : List SV → UInt8
  | [.g (.int .u8 n)] => UInt8.ofNat n.toNat
  | _ => 0
def isByte : SV → Bool
  | .g (.int .u8 _) => true
  | _ => false
def cellByte : SV → UInt8
  | .g (.int .u8 n) => UInt8.ofNat n.toNat
  | _ => 0

/-- string(b) of the bytes from row i on. -/
def bytesX (i len : Nat) : SO → Option (List Prop × SV)
  | .cells cs _ => match Nat.ble (i + len) cs.length, ((cs.drop i).take len).all isByte with
    | true, true => some ([], .g (.string ⟨(((cs.drop i).take len).map cellByte).toArray⟩))
    | _, _ => none
  | .view 1 n _ row _ => some ([i + len ≤ n, ∀ j, j < len → ∃ m, row (i + j) = [.g (.int .u8 m)]], .g (.string ⟨((List.range len).map fun j => rowByte (row (i + j))).toArray⟩))
  | .ro 1 n row => some ([i + len ≤ n, ∀ j, j < len → ∃ m, row (i + j) = [.g (.int .u8 m)]], .g (.string ⟨((List.range len).map fun j => rowByte (row (i + j))).toArray⟩))
  | _ => none

/-- An operand, as a whole number. -/
def asI : SV → Option Int
  | .g (.int _ n) => some n
  | _ => none

def fillX (place : Nat → Option (Nat × Nat)) : List SV → List (Nat × SV) → Option (List SV)
  | cells, [] => some cells
  | cells, (i, v) :: rest => match place i with
    | none => none
    | some (off, size) => match Nat.beq v.cells.length size, Nat.ble (off + v.cells.length) cells.length with
      | true, true => fillX place (setAt cells off v.cells) rest
      | _, _ => none

def optL {α : Type} : List (Option α) → Option (List α)
  | [] => some []
  | none :: _ => none
  | some x :: r => match optL r with
    | some l => some (x :: l)
    | none => none

def repL : Nat → List SV → List SV
  | 0, _ => []
  | n + 1, z => z ++ repL n z

/-- The strings in cells. -/
def strsOf : List SV → Option (List ByteArray)
  | [] => some []
  | .g (.string s) :: r => match strsOf r with
    | some l => some (s :: l)
    | none => none
  | _ => none
/-- A row of literal cells as an object: strings as rows that may be read at any number. -/
def litSO (es : Nat) (cs : List SV) (e : Nat) : SO := match es, strsOf cs with
  | 1, some l => .view 1 l.length l.length (fun i => [.g (.string (l.getD i ByteArray.empty))]) e
  | _, _ => .cells cs e

def sliceBnds (len cap : Nat) (lo hi : Option SV) : Option (List Prop × Nat × Nat) :=
  match lo, hi with
  | none, none => some ([], 0, len)
  | none, some h => match asI h with
    | some h => some ([0 ≤ h ∧ h ≤ cap], 0, h.toNat)
    | none => none
  | some l, none => match asI l with
    | some l => some ([0 ≤ l ∧ l ≤ len], l.toNat, len)
    | none => none
  | some l, some h => match asI l, asI h with
    | some l, some h => some ([0 ≤ h ∧ h ≤ cap, 0 ≤ l ∧ l ≤ h], l.toNat, h.toNat)
    | _, _ => none

def optO {α β : Type} (f : α → Option β) : Option α → Option (Option β)
  | none => some none
  | some a => match f a with
    | some b => some (some b)
    | none => none

/-- The bounds of x[lo:hi:max]. -/
def bnds3 (cap : Nat) (lo : Option SV) (hi mx : SV) : Option (List Prop × Nat × Nat × Nat) :=
  match lo, asI hi, asI mx with
  | none, some h, some m => some ([0 ≤ m ∧ m ≤ cap, 0 ≤ h ∧ h ≤ m], 0, h.toNat, m.toNat)
  | some l, some h, some m => match asI l with
    | some l => some ([0 ≤ m ∧ m ≤ cap, 0 ≤ h ∧ h ≤ m, 0 ≤ l ∧ l ≤ h], l.toNat, h.toNat, m.toNat)
    | none => none
  | _, _, _ => none

def detMk (v : Operand → Option SV) : Fn → List Operand → List Operand → Option Det
  | .func f, [], caps => (optL (caps.map v)).map fun l => .pure [] (.fn f l)
  | _, _, _ => none

def detLen (ty : Ty) (t : Nat) (x : SV) : Option Det := match look t ty, x with
  | some ⟨.str, _, _, _⟩, .g (.string s) => some (.pure [] (.g (.int .i64 s.size)))
  | some ⟨.slc _, _, _, _⟩, .sl _ _ _ len _ => some (.pure [] (.g (.int .i64 len)))
  | some ⟨.slc _, _, _, _⟩, .g (.slice _ len _) => some (.pure [] (.g (.int .i64 len)))
  | some ⟨.arr n _, _, _, _⟩, _ => some (.pure [] (.g (.int .i64 n)))
  | _, _ => none
def detMin : SV → SV → Option Det
  | .g (.int k a), .g (.int _ b) => some (.pure [] (.g (.int k (if b < a then b else a))))
  | _, _ => none
def detMax : SV → SV → Option Det
  | .g (.int k a), .g (.int _ b) => some (.pure [] (.g (.int k (if a < b then b else a))))
  | _, _ => none
def detFn (f : SV) (l : List SV) : Option Det := match f with
  | .fn f caps => some (.call f (l ++ caps))
  | _ => none
def detBuiltin (ty : Ty) (v : Operand → Option SV) : Builtin → List Operand → List TypeId → Option Det
  | .len, [x], [t] => (v x).bind (detLen ty t)
  | .min, [x, y], _ => (v x).bind fun a => (v y).bind fun b => detMin a b
  | .max, [x, y], _ => (v x).bind fun a => (v y).bind fun b => detMax a b
  | _, _, _ => none
def detCall (ty : Ty) (v : Operand → Option SV) (c : Callee) (args : List Operand) (ts : List TypeId) : Option Det :=
  match c with
  | .builtin b => detBuiltin ty v b args ts
  | .value (.func f) => (optL (args.map v)).map (.call f)
  | .value f => (v f).bind fun f => (optL (args.map v)).bind fun l => detFn f l
  | .invoke _ _ => none

/-- What one operation does, its operands' values known ('v'); the calls of functions, append, copy and the steps of iterators stand elsewhere. -/
def detX (ty : Ty) (v : Operand → Option SV) : Op → Option Det
  | .move x => (v x).map (.pure [])
  | .assign x => (v x).map (.pure [])
  | .alloc T => match look T ty with
    | some d => match d.zeroSV with
      | some z => some (.new (.cells z.cells T) fun id => .ptr id 0 0 0)
      | none => none
    | none => none
  | .box T x => (v x).map fun x => .new (.cells x.cells T) fun id => .ptr id 0 0 0
  | .build t ps => match look t ty, optL (ps.toList.map fun p => (v p.2).map fun x => (p.1, x)) with
    | some ⟨.strct fs, _, _, z⟩, some l => (fillX (fun i => (fs[i]?).map fun f => (f.1, f.2.1)) (z.map SV.g) l).map fun cs => .pure [] (.agg cs)
    | some ⟨.arr _ e, _, _, z⟩, some l => match look e ty with
      | some de => (fillX (fun i => some (i * de.size, de.size)) (z.map SV.g) l).map fun cs => .pure [] (.agg cs)
      | none => none
    | _, _ => none
  | .buildSlice t n ps => match look t ty, optL (ps.toList.map fun p => (v p.2).map fun x => (p.1, x)) with
    | some ⟨.slc e, _, _, _⟩, some l => match look e ty with
      | some de => match de.zeroSV with
        | some z => match Nat.ble (n * de.size) 16777216, fillX (fun i => some (i * de.size, de.size)) (repL n z.cells) l with
          | true, some cs => some (.new (litSO de.size cs e) fun id => .sl id 0 de.size n n)
          | _, _ => none
        | none => none
      | none => none
    | _, _ => none
  | .load t a => match look t ty, v a with
    | some d, some (.ptr id i s off) => some (.rd id (loadX d i s off))
    | _, _ => none
  | .store t a x => match look t ty, v a, v x with
    | some d, some (.ptr id i s off), some x => some (.wr id (storeX d i s off x))
    | _, _, _ => none
  | .nilCheck x => match v x with
    | some (.ptr id i s off) => some (.pure [] (.ptr id i s off))
    | some (.g (.pointer (some a))) => some (.pure [] (.g (.pointer (some a))))
    | some (.fn f caps) => some (.pure [] (.fn f caps))
    | _ => none
  | .binOp op t x y _ => match v x, v y with
    | some x, some y => binX ty op t x y
    | _, _ => none
  | .unOp op _ x => match op, v x with
    | .not, some (.g (.bool b)) => some (.pure [] (.g (.bool (!b))))
    | .neg, some (.g (.int k n)) => some (.pure [] (.g (.int k (k.wrap (0 - n)))))
    | _, _ => none
  | .convert src dst x => match look src ty, look dst ty, v x with
    | some _, some ⟨.int k, _, _, _⟩, some (.g (.int _ n)) => some (.pure [] (.g (.int k (k.wrap n))))
    | some _, some ⟨.str, _, _, _⟩, some (.g (.string s)) => some (.pure [] (.g (.string s)))
    | some _, some ⟨.str, _, _, _⟩, some (.g (.int _ n)) => some (.pure [] (.g (.string (Utf8.encode n))))
    | some ⟨.slc e, _, _, _⟩, some ⟨.str, _, _, _⟩, some (.sl id i 1 len _) => match look e ty with
      | some ⟨.int .u8, _, _, _⟩ => some (.rd id (bytesX i len))
      | _ => none
    | _, _, _ => none
  | .slice t x lo hi none => match look t ty, v x, optO v lo, optO v hi with
    | some ⟨.str, _, _, _⟩, some (.g (.string s)), some lo, some hi => (sliceBnds s.size s.size lo hi).map fun b => .pure b.1 (.g (.string (s.extract b.2.1 b.2.2)))
    | some ⟨.slc e, _, _, _⟩, some (.sl id i s len cap), some lo, some hi => match look e ty with
      | some de => match Nat.beq s de.size with
        | true => (sliceBnds len cap lo hi).map fun b =>
          .pure b.1 (.sl id (match lo with | none => i | some _ => if cap = b.2.1 then i else addOff i b.2.1) s (b.2.2 - b.2.1) (cap - b.2.1))
        | false => none
      | none => none
    | _, _, _, _ => none
  | .slice t x lo (some hi) (some mx) => match look t ty, v x, optO v lo with
    | some ⟨.slc e, _, _, _⟩, some (.sl id i s len cap), some lo => match look e ty, v hi, v mx with
      | some de, some hi, some mx => match Nat.beq s de.size with
        | true => (bnds3 cap lo hi mx).map fun b =>
          .pure b.1 (.sl id (match lo with | none => i | some _ => if b.2.2.2 = b.2.1 then i else addOff i b.2.1) s (b.2.2.1 - b.2.1) (b.2.2.2 - b.2.1))
        | false => none
      | _, _, _ => none
    | _, _, _ => none
  | .fieldAddr t x f => match look t ty, v x with
    | some ⟨.strct fs, _, _, _⟩, some (.ptr id i s off) => match fs[f]? with
      | some (o, sz, _) => match Nat.ble 1 sz with
        | true => some (.pure [] (.ptr id i s (off + o)))
        | false => none
      | none => none
    | _, _ => none
  | .field t x f => match look t ty, v x with
    | some ⟨.strct fs, _, _, _⟩, some (.agg cs) => match fs[f]? with
      | some (o, sz, ft) => match look ft ty with
        | some d => match d.isAgg with
          | true => some (.pure [] (.agg ((cs.drop o).take sz)))
          | false => (cs[o]?).map fun x => .pure [] x
        | none => none
      | none => none
    | _, _ => none
  | .indexAddr t x i => match look t ty, v x, v i with
    | some ⟨.arr n e, _, _, _⟩, some (.ptr id 0 _ off), some (.g (.int k i)) => match look e ty, Nat.ble 2 n with
      | some de, true => some (.pure [0 ≤ i ∧ i < n] (arrAt id off i.toNat de.size))
      | _, _ => none
    | some ⟨.slc e, _, _, _⟩, some (.sl id j s len cap), some (.g (.int k i)) => match look e ty with
      | some de => match Nat.beq s de.size with
        | true => some (.pure [0 ≤ i ∧ i < len] (.ptr id (addOff j i.toNat) s 0))
        | false => none
      | none => none
    | _, _, _ => none
  | .index t x i => match look t ty, v x, v i with
    | some ⟨.str, _, _, _⟩, some (.g (.string s)), some (.g (.int k i)) => some (.pure [0 ≤ i ∧ i < s.size] (.g (.int .u8 (byteAt s i))))
    | _, _, _ => none
  | .extract x i => match v x with
    | some (.tup vs) => (vs[i]?).map (.pure [])
    | some (.g (.tuple vs)) => (vs[i]?).map fun v => .pure [] (.g v)
    | _ => none
  | .makeFunc fn first caps => detMk v fn first.toList caps.toList
  | .range t x => match look t ty, v x with
    | some ⟨.str, _, _, _⟩, some (.g (.string s)) => some (.new (.iter s 0) fun id => .ptr id 0 0 0)
    | _, _ => none
  | .call c => detCall ty v c.callee c.args.toList c.argTypes.toList
  | _ => none

end Go.Eng
