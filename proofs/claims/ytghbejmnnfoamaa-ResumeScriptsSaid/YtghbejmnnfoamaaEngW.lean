/- The engine, part W: a region that draws its order (definitions alone). What only reads is taken first; what else comes up is taken in every order. -/
import Derived.Test.YtghbejmnnfoamaaEngJ
import Derived.Test.YtghbejmnnfoamaaEngD
import Derived.Orders
set_option linter.unusedVariables false
set_option linter.unusedSimpArgs false
namespace Go.Eng
open Go

/-- Operations that read alone. -/
def isQ : Op → Bool
  | .move _ => true
  | .assign _ => true
  | .pick _ _ _ => true
  | .load _ _ => true
  | .nilCheck _ => true
  | .binOp _ _ _ _ _ => true
  | .unOp _ _ _ => true
  | .fieldAddr _ _ _ => true
  | .field _ _ _ => true
  | .indexAddr _ _ _ => true
  | .index _ _ _ => true
  | .extract _ _ => true
  | .slice _ _ _ _ _ => true
  | .convert _ _ _ => true
  | .makeFunc _ _ _ => true
  | .build _ _ => true
  | .call c => match c.callee with
    | .builtin .len => true
    | .builtin .min => true
    | .builtin .max => true
    | _ => false
  | _ => false

def edgeMask (acc : List Nat) : List Edge → Nat
  | [] => 0
  | e :: r => match Region.binds .any e with
    | true => (2 ^ e.on ||| acc.getD e.on 0) ||| edgeMask acc r
    | false => edgeMask acc r
/-- For each operation the set of those that it waits for. -/
def masks : List Oper → List Nat → List Nat
  | [], acc => acc
  | o :: r, acc => masks r (acc ++ [edgeMask acc o.after.toList])

/-- What does not look at memory at all. -/
def isMv : Op → Bool
  | .move _ => true
  | _ => false
/-- All that only reads waits for it, or it waits for that; what does not look at memory may come when it will. -/
def lateX (ops : Array Oper) (j : Nat) : Bool :=
  (List.range ops.size).all fun q => match ops[q]? with
    | some o => !isQ o.op || isMv o.op || Nat.testBit ((masks ops.toList []).getD j 0) q || Nat.testBit ((masks ops.toList []).getD q 0) j
    | none => true

/-- What reads alone, at the blocks that were there at the region's begin. -/
def quietX (ty : Ty) (H0 : Heap) (s : SS) (g : Option Nat) (op : Op) : Option (List Prop × SV) := match opDet ty s g op with
  | some (.pure pre r) => some (pre, r)
  | some (.rd id f) => match look id H0 with
    | some so => f so
    | none => none
  | _ => none

def quietStep (ty : Ty) (n : Nat) (ops : List Oper) (base : Nat) (H0 : Heap) (o : Oper) (s : SS) (K : SS → Prop) : Prop :=
  match o.guard with
  | none => match quietX ty H0 s none o.op with
    | some (pre, r) => allX pre (putX n s o.dst r s.H K)
    | none => False
  | some (j, want) => match (ops[j]?).bind (·.dst) with
    | some t => guardWith (tagOf base j want) t want s fun b s' => match quietX ty H0 s' (some (tagOf base j want)) o.op with
      | some (pre, r) => allX (pre.map (gimp b)) (putX n s' o.dst (.opt (tagOf base j want) r) s'.H K)
      | none => False
    | none => False

/-- What was there at the begin, to be read alone. -/
def toRo : SO → Option SO
  | .view s n _ row _ => some (.ro s n row)
  | .ro s n row => some (.ro s n row)
  | _ => none
def hasK (k : Nat) : List Nat → Bool
  | [] => false
  | j :: r => match Nat.beq k j with
    | true => true
    | false => hasK k r
def subH (H0 : Heap) : List Nat → Heap → Heap
  | _, [] => []
  | seen, (k, o) :: r => match hasK k seen with
    | true => subH H0 seen r
    | false => match look k H0 with
      | none => (k, o) :: subH H0 seen r
      | some _ => match toRo o with
        | some o' => (k, o') :: subH H0 (k :: seen) r
        | none => subH H0 (k :: seen) r
def mrgH (H0 H H1 : Heap) : Heap := H1.filter (fun p => (look p.1 H0).isNone) ++ H.filter (fun p => (look p.1 H0).isSome)
/-- An append and its like, to memory that was made in the region. -/
def keepGen (ty : Ty) (n : Nat) (H0 : Heap) (o : Oper) (s : SS) (K : SS → Prop) : Prop :=
  match H0.all fun p => (look p.1 s.H).isSome with
  | true => genX ty (fetch s none) (subH H0 [] s.H) s.nx (fun r H1 => match H1.all fun p => !p.2.isRo || (look p.1 H0).isSome with
      | true => putX n s o.dst r (mrgH H0 s.H H1) K
      | false => False) o.op
  | false => False
/-- What makes memory, writes to memory that was made in the region, or calls a function that only reckons. -/
def keepRun (ty : Ty) (Γ : Nat → Option Rule) (n : Nat) (H0 : Heap) (o : Oper) (s : SS) (K : SS → Prop) : Prop :=
  match opDet ty s none o.op with
  | some (.new so r) => putX n s o.dst (r s.nx) ((s.nx, so) :: s.H) K
  | some (.wr id f) => match look id H0, look id s.H, H0.all fun p => (look p.1 s.H).isSome with
    | none, some so, true => match f so with
      | some (pre, so', r) => allX pre (putX n s o.dst r ((id, so') :: s.H) K)
      | none => False
    | _, _, _ => False
  | some d => match detQ Γ s.H d with
    | some (pre, r) => allX pre (putX n s o.dst r s.H K)
    | none => False
  | none => keepGen ty n H0 o s K
def keepStep (ty : Ty) (Γ : Nat → Option Rule) (n : Nat) (ops : List Oper) (base : Nat) (H0 : Heap) (o : Oper) (s : SS) (K : SS → Prop) : Prop :=
  match o.guard with
  | none => keepRun ty Γ n H0 o s K
  | some (j, want) => match (ops[j]?).bind (·.dst) with
    | some t => guardWith (tagOf base j want) t want s fun b s' => match opDet ty s' (some (tagOf base j want)) o.op with
      | some d => match detQ Γ s'.H d with
        | some (pre, r) => allX (pre.map (gimp b)) (putX n s' o.dst (.opt (tagOf base j want) r) s'.H K)
        | none => False
      | none => False
    | none => False

def allR : List Nat → (Nat → Prop) → Prop
  | [], _ => True
  | [i], f => f i
  | i :: r, f => f i ∧ allR r f

/-- It can be read at the blocks of the begin. -/
def atBegin (ty : Ty) (H0 : Heap) (s : SS) (o : Oper) : Bool := match o.guard with
  | none => (quietX ty H0 s none o.op).isSome
  | some _ => true
def firstQ (p : Oper → Bool) (ops : Array Oper) : List Nat → Option Nat
  | [] => none
  | i :: r => match ops[i]? with
    | some o => match isQ o.op, p o with
      | true, true => some i
      | _, _ => firstQ p ops r
    | none => firstQ p ops r

/-- What was there at the begin, as it is now. -/
def keepK (H0 H : Heap) : Heap := H.filter fun p => (look p.1 H0).isSome
def drawX (ty : Ty) (Γ : Nat → Option Rule) (n : Nat) (ops : Array Oper) (base : Nat) : Heap → Nat → Array Bool → SS → (SS → Prop) → Prop
  | _, 0, _, _, _ => False
  | H0, fuel + 1, listed, s, K => match Region.ready .any ops listed with
    | [] => K ⟨s.F, s.H, s.nx, Nat.max s.tb s.nx, []⟩
    | i0 :: rs => match firstQ (atBegin ty H0 s) ops (i0 :: rs) with
      | some i => match ops[i]?, Region.free .any ops listed i with
        | some o, true => quietStep ty n ops.toList base H0 o s fun s' => drawX ty Γ n ops base H0 fuel (listed.setIfInBounds i true) s' K
        | _, _ => False
      | none => allR (i0 :: rs) fun i => match ops[i]? with
        | some o => match lateX ops i with
          | true => stepX ty Γ n ops.toList base o s fun s' => drawX ty Γ n ops base (keepK H0 s'.H) fuel (listed.setIfInBounds i true) s' K
          | false => keepStep ty Γ n ops.toList base H0 o s fun s' => drawX ty Γ n ops base H0 fuel (listed.setIfInBounds i true) s' K
        | none => False

def drawRegion (ty : Ty) (Γ : Nat → Option Rule) (n : Nat) (ops : Array Oper) (s : SS) (K : SS → Prop) : Prop := match Region.noSelect ops, s.T with
  | true, [] => drawX ty Γ n ops s.nx s.H (ops.size + 1) (Array.replicate ops.size false) s K
  | _, _ => False

end Go.Eng
