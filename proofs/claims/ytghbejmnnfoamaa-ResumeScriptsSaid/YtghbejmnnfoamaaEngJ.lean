/- The engine, part J: symbolic states; what a region of operations asks (definitions alone). -/
import Derived.Test.YtghbejmnnfoamaaEngB
set_option linter.unusedVariables false
set_option linter.unusedSimpArgs false
namespace Go.Eng
open Go

abbrev Env := List (Nat × SV)
abbrev Heap := List (Nat × SO)
/-- A symbolic state: slots; blocks; the next free name; tags (a slot and the bool that it must hold). -/
structure SS where
  F : Env
  H : Heap
  nx : Nat
  tb : Nat
  T : List (Nat × Option (Nat × Bool))

/-- What a called function is known to do. exact: a value made of the arguments, memory as it was. gen: any transformer of what is wanted behind the call. -/
inductive Rule where
  | exact (f : List SV → Option (List Prop × SV))
  | gen (f : List SV → Heap → Nat → (SV → Heap → Prop) → Prop)

def allX : List Prop → Prop → Prop
  | [], K => K
  | p :: ps, K => p ∧ allX ps K
def condX (b : Bool) (p q : Prop) : Prop := match b with
  | true => p
  | false => q
def gimp (b : Bool) (p : Prop) : Prop := b = true → p
def appOff : Nat → (Nat → Prop) → Prop
  | 0, K => K 0
  | _ + 1, K => ∀ i, K i

/-- The tag τ' holds wherever the tag τ holds. -/
def okTag (s : SS) : Nat → Nat → Nat → Bool
  | 0, _, _ => false
  | fuel + 1, τ, τ' => match Nat.beq τ τ' with
    | true => true
    | false => match look τ s.T with
      | some (some (t, _)) => match look t s.F with
        | some (.opt τ'' _) => okTag s fuel τ'' τ'
        | _ => false
      | _ => false

/-- An operand's value for an operation of tag g. -/
def fetch (s : SS) (g : Option Nat) : Operand → Option SV
  | .const v => some (.g v)
  | .func f => some (.fn f [])
  | .global n => some (.g (.pointer (some ⟨n, 0, none⟩)))
  | .tmp t => match look t s.F with
    | some (.opt τ' v) => match g with
      | some τ => match okTag s 20 τ τ' with
        | true => some v
        | false => none
      | none => none
    | r => r

/-- The bool that says whether the tag (slot t holds want) holds. -/
def gbool (s : SS) : Nat → Nat → Bool → Option Bool
  | 0, _, _ => none
  | fuel + 1, t, want => match look t s.F with
    | some (.g (.bool c)) => some (match want with | true => c | false => !c)
    | some (.opt τ (.g (.bool c))) => match look τ s.T with
      | some (some (t', want')) => match gbool s fuel t' want' with
        | some b => some (b && (match want with | true => c | false => !c))
        | none => none
      | _ => none
    | _ => none

def rmT (d : Nat) : List (Nat × Option (Nat × Bool)) → List (Nat × Option (Nat × Bool))
  | [] => []
  | (τ, some (t, w)) :: r => match Nat.beq t d with
    | true => (τ, none) :: rmT d r
    | false => (τ, some (t, w)) :: rmT d r
  | (τ, none) :: r => (τ, none) :: rmT d r

/-- The state with v in the slot dst, behind one operation. -/
def putX (n : Nat) (s : SS) (dst : Option Nat) (v : SV) (H : Heap) (K : SS → Prop) : Prop := match dst with
  | none => K ⟨s.F, H, s.nx + 8, s.tb, s.T⟩
  | some d => match Nat.blt d n with
    | true => K ⟨(d, v) :: s.F, H, s.nx + 8, s.tb, rmT d s.T⟩
    | false => False

/-- A choice by && or ||: the operand that hangs on the tag of the condition's own slot is there if it is chosen. -/
def pickOp (s : SS) (g : Option Nat) (c : Operand) (want : Bool) (x : Operand) : Option SV := match x with
  | .tmp t => match look t s.F with
    | some (.opt τ v) => match look τ s.T, c with
      | some (some (t', w')), .tmp tc => match Nat.beq t' tc, w', want with
        | true, true, true => some v
        | true, false, false => some v
        | _, _, _ => fetch s g x
      | _, _ => fetch s g x
    | _ => fetch s g x
  | _ => fetch s g x
def pickX (s : SS) (g : Option Nat) (c a b : Operand) : Option Det := match fetch s g c, pickOp s g c true a, pickOp s g c false b with
  | some (.g (.bool cb)), some (.g (.bool p)), some (.g (.bool q)) => some (.pure [] (.g (.bool (bif cb then p else q))))
  | some (.g (.bool cb)), some (.g (.tuple _)), some (.g (.bool q)) => some (.pure [cb = false] (.g (.bool q)))
  | some (.g (.bool cb)), some (.g (.bool p)), some (.g (.tuple _)) => some (.pure [cb = true] (.g (.bool p)))
  | _, _, _ => none

def rowsOf (s : Nat) : SO → Option (Nat × Nat × (Nat → List SV) × TypeId)
  | .cells cs T => some (cs.length / s, cs.length / s, fun j => (cs.drop (j * s)).take s, T)
  | .view s' n c row T => match Nat.beq s s' with
    | true => some (n, c, row, T)
    | false => none
  | _ => none

/-- What is appended: how many rows, which, and what must hold. -/
def srcX (s : Nat) (H : Heap) (no : Nat) : SV → Option (Nat × (Nat → List SV) × List Prop)
  | .g (.slice none 0 0) => some (0, fun _ => [], [])
  | .g (.string b) => match s with
    | 1 => some (b.size, fun j => [.g (.int .u8 (byteAt b (j : Int)))], [])
    | _ => none
  | .sl id i s' len _ => match Nat.beq s s', Nat.beq id no, look id H with
    | true, false, some (.cells cs _) => match Nat.ble ((i + len) * s) cs.length, cs.all isPlain, Nat.ble 1 s with
      | true, true, true => some (len, fun j => (cs.drop ((addOff i j) * s)).take s, [])
      | _, _, _ => none
    | true, false, some (.view s'' n _ row _) => match Nat.beq s s'' with
      | true => some (len, fun j => row (addOff i j), [i + len ≤ n, ∀ j, j < len → (row (i + j)).all isPlain = true])
      | false => none
    | true, false, some (.ro s'' n row) => match Nat.beq s s'' with
      | true => some (len, fun j => row (addOff i j), [i + len ≤ n, ∀ j, j < len → (row (i + j)).all isPlain = true])
      | false => none
    | _, _, _ => none
  | _ => none

/-- The rows behind an append: i the old start, i' the new one. -/
def appRows (i i' len : Nat) (row rowY : Nat → List SV) : Nat → List SV := match i' with
  | 0 => match i with
    | 0 => fun j => if j < len then row j else rowY (j - len)
    | i => fun j => if j < len then row (i + j) else rowY (j - len)
  | i' => fun j => if j < i' then row j else if j < i' + len then row (i + (j - i')) else rowY (j - i' - len)

def sameB (id : Nat) : SV → Bool
  | .sl id' _ _ _ _ => Nat.beq id id'
  | _ => false
/-- append(x, y) where both lie in one block. -/
def appendSame (s by' e id i s' len cap0 : Nat) (y : SV) (H : Heap) (nid : Nat) (K : SV → Heap → Prop) : Prop := match Nat.beq s s', look id H with
  | true, some so => match rowsOf s so, srcX s H (id + 1) y with
    | some (n, c, row, T), some (m, rowY, pre) => match Nat.beq T e with
      | true => allX pre (i + len + m ≤ n ∧ i + cap0 ≤ c ∧ (len + m) * by' ≤ 140737488355328 ∧
          (len + m ≤ cap0 → K (.sl id i s (len + m) cap0) ((id, .view s n c (fun k => if i + len ≤ k ∧ k < i + len + m then rowY (k - (i + len)) else row k) T) :: H)) ∧
          (cap0 < len + m → ∀ cap, len + m ≤ cap → K (.sl nid 0 s (len + m) cap) ((nid, .view s (len + m) cap (appRows i 0 len row rowY) e) :: H)))
      | false => False
    | _, _ => False
  | _, _ => False
/-- append(x, y) of elements of s cells, by bytes each; nid: the new name. -/
def appendX (s by' e : Nat) (x y : SV) (H : Heap) (nid : Nat) (K : SV → Heap → Prop) : Prop := match x with
  | .g (.slice none 0 0) => match srcX s H nid y with
    | some (m, rowY, pre) => allX pre (m * by' ≤ 140737488355328 ∧ ∀ cap, m ≤ cap → K (.sl nid 0 s m cap) ((nid, .view s m cap rowY e) :: H))
    | none => False
  | .sl id i s' len cap0 => match sameB id y with
    | true => appendSame s by' e id i s' len cap0 y H nid K
    | false => match Nat.beq s s', look id H with
      | true, some so => match rowsOf s so, srcX s H id y with
        | some (n, c, row, T), some (m, rowY, pre) => match Nat.beq T e with
          | true => allX pre (i + len ≤ n ∧ i + cap0 ≤ c ∧ (len + m) * by' ≤ 140737488355328 ∧ appOff i fun i' => ∀ cap, len + m ≤ cap → K (.sl nid i' s (len + m) cap)
            ((nid, .view s (addOff i' (len + m)) (addOff i' cap) (appRows i i' len row rowY) e) :: del id H))
          | false => False
        | _, _ => False
      | true, none => match srcX s H id y with
        | some (m, rowY, pre) => allX pre (cap0 = 0 ∧ 1 ≤ m ∧ m * by' ≤ 140737488355328 ∧ ∀ cap, m ≤ cap → K (.sl nid 0 s m cap) ((nid, .view s m cap rowY e) :: H))
        | none => False
      | _, _ => False
  | _ => False

/-- A step of a string's iterator. -/
def nextX (x : SV) (H : Heap) (K : SV → Heap → Prop) : Prop := match x with
  | .ptr id 0 _ 0 => match look id H with
    | some (.iter s pos) => condX (decide (pos < s.size))
        (K (.tup [.g (.bool true), .g (.int .i64 pos), .g (.int .i32 (Utf8.decode s pos).1)]) ((id, .iter s (pos + (Utf8.decode s pos).2)) :: H))
        (K (.tup [.g (.bool false)]) H)
    | _ => False
  | _ => False

/-- []byte(b). -/
def bytesOfX (b : ByteArray) (e : Nat) (H : Heap) (nid : Nat) (K : SV → Heap → Prop) : Prop :=
  ∀ cap, b.size ≤ cap → K (.sl nid 0 1 b.size cap) ((nid, .view 1 b.size cap (fun j => [.g (.int .u8 (byteAt b (j : Int)))]) e) :: H)

/-- copy(x, y): the destination's rows. -/
def copyX (s : Nat) (x y : SV) (H : Heap) (K : SV → Heap → Prop) : Prop := match x with
  | .sl id i s' len _ => match Nat.beq s s', look id H with
    | true, some so => match rowsOf s so, srcX s H id y with
      | some (n, c, row, T), some (m, rowY, pre) => allX pre (i + len ≤ n ∧ K (.g (.int .i64 (Nat.min m len : Nat)))
          ((id, .view s n c (fun j => if i ≤ j ∧ j < i + Nat.min m len then rowY (j - i) else row j) T) :: H))
      | _, _ => False
    | _, _ => False
  | _ => False

/-- clear(x): z the zero row. -/
def clearX (s : Nat) (z : List SV) (x : SV) (H : Heap) (K : SV → Heap → Prop) : Prop := match x with
  | .sl id i s' len _ => match Nat.beq s s', look id H with
    | true, some so => match rowsOf s so with
      | some (n, c, row, T) => i + len ≤ n ∧ K (.tup []) ((id, .view s n c (fun j => if i ≤ j ∧ j < i + len then z else row j) T) :: H)
      | _ => False
    | _, _ => False
  | _ => False

/-- Operations that are no matter of one value alone. -/
def genX (ty : Ty) (v : Operand → Option SV) (H : Heap) (nid : Nat) (K : SV → Heap → Prop) : Op → Prop
  | .next x true => match v x with
    | some x => nextX x H K
    | none => False
  | .binOp .eql t x y _ => match look t ty, v x, v y with
    | some ⟨.slc _, _, _, _⟩, some (.sl _ _ _ len cap), some (.g (.slice none 0 0)) => (len = 0 → cap = 0 → K (.g (.bool true)) H) ∧ K (.g (.bool false)) H
    | some ⟨.slc _, _, _, _⟩, some (.g (.slice none 0 0)), some (.g (.slice none 0 0)) => K (.g (.bool true)) H
    | _, _, _ => False
  | .convert src dst x => match look src ty, look dst ty, v x with
    | some ⟨.str, _, _, _⟩, some ⟨.slc e, _, _, _⟩, some (.g (.string b)) => match look e ty with
      | some ⟨.int .u8, _, _, _⟩ => bytesOfX b e H nid K
      | _ => False
    | _, _, _ => False
  | .call c => match c.callee, c.args.toList, c.argTypes.toList with
    | .builtin .append, [x, y], [t, t'] => match look t ty, look t' ty, v x, v y with
      | some ⟨.slc e, _, _, _⟩, some ⟨.slc _, _, _, _⟩, some x, some y => match look e ty with
        | some d => match d.zeroSV, Nat.ble 1 d.bytes with
          | some _, true => appendX d.size d.bytes e x y H nid K
          | _, _ => False
        | none => False
      | some ⟨.slc e, _, _, _⟩, some ⟨.str, _, _, _⟩, some x, some y => match look e ty with
        | some d => match d.zeroSV, Nat.ble 1 d.bytes with
          | some _, true => appendX d.size d.bytes e x y H nid K
          | _, _ => False
        | none => False
      | _, _, _, _ => False
    | .builtin .clear, [x], [t] => match look t ty, v x with
      | some ⟨.slc e, _, _, _⟩, some x => match look e ty with
        | some d => match d.zeroSV with
          | some z => match z.cells.all isPlain with
            | true => clearX d.size z.cells x H K
            | false => False
          | none => False
        | none => False
      | _, _ => False
    | .builtin .copy, [x, y], [t, _] => match look t ty, v x, v y with
      | some ⟨.slc e, _, _, _⟩, some x, some y => match look e ty with
        | some d => copyX d.size x y H K
        | none => False
      | _, _, _ => False
    | _, _, _ => False
  | _ => False

/-- The operation as a Det, picks with it. -/
def opDet (ty : Ty) (s : SS) (g : Option Nat) (op : Op) : Option Det := match op with
  | .pick c a b => pickX s g c a b
  | op => detX ty (fetch s g) op

/-- What only reads: the value, and what must hold. -/
def detQ (Γ : Nat → Option Rule) (H : Heap) : Det → Option (List Prop × SV)
  | .pure pre r => some (pre, r)
  | .rd id f => match look id H with
    | some so => f so
    | none => none
  | .call f args => match Γ f with
    | some (.exact fn) => fn args
    | _ => none
  | _ => none

/-- What writes, makes memory or calls. -/
def detK (Γ : Nat → Option Rule) (H : Heap) (nid : Nat) (K : SV → Heap → Prop) : Det → Prop
  | .wr id f => match look id H with
    | some so => match f so with
      | some (pre, so', r) => allX pre (K r ((id, so') :: H))
      | none => False
    | none => False
  | .new so r => K (r nid) ((nid, so) :: H)
  | .ask c => ∀ b, c b → K (.g (.bool b)) H
  | .call f args => match Γ f with
    | some (.gen wt) => wt args H nid K
    | _ => False
  | _ => False

/-- One operation that is carried out. -/
def runX (ty : Ty) (Γ : Nat → Option Rule) (n : Nat) (o : Oper) (s : SS) (K : SS → Prop) : Prop :=
  match opDet ty s none o.op with
  | some d => match detQ Γ s.H d with
    | some (pre, r) => allX pre (putX n s o.dst r s.H K)
    | none => detK Γ s.H s.nx (fun r H' => putX n s o.dst r H' K) d
  | none => genX ty (fetch s none) s.H s.nx (fun r H' => putX n s o.dst r H' K) o.op

/-- One operation under a guard, its tag known. What only reads is reckoned as if it were carried out, its value hung on the tag. -/
def guardRun (ty : Ty) (Γ : Nat → Option Rule) (n : Nat) (o : Oper) (τ : Nat) (b : Bool) (s : SS) (K : SS → Prop) : Prop :=
  match opDet ty s (some τ) o.op with
  | some d => match detQ Γ s.H d with
    | some (pre, r) => allX (pre.map (gimp b)) (putX n s o.dst (.opt τ r) s.H K)
    | none => condX b (detK Γ s.H s.nx (fun r H' => putX n s o.dst r H' K) d) (putX n s o.dst (.g undef) s.H K)
  | none => condX b (genX ty (fetch s (some τ)) s.H s.nx (fun r H' => putX n s o.dst r H' K) o.op) (putX n s o.dst (.g undef) s.H K)

/-- The tag of a guard laid (slot t holds want). -/
def guardWith (τ t : Nat) (want : Bool) (s : SS) (f : Bool → SS → Prop) : Prop :=
  match gbool s 20 t want with
  | none => False
  | some b => match look τ s.T with
    | some (some (t', w')) => match Nat.beq t t', want, w' with
      | true, true, true => f b s
      | true, false, false => f b s
      | _, _, _ => False
    | some none => False
    | none => match Nat.ble s.tb τ, Nat.blt τ s.nx with
      | true, true => f b ⟨s.F, s.H, s.nx, s.tb, (τ, some (t, want)) :: s.T⟩
      | _, _ => False
def guardX (ty : Ty) (Γ : Nat → Option Rule) (n : Nat) (o : Oper) (τ t : Nat) (want : Bool) (s : SS) (K : SS → Prop) : Prop :=
  guardWith τ t want s fun b s' => guardRun ty Γ n o τ b s' K

def tagOf (base j : Nat) (want : Bool) : Nat := base + (j + j + match want with | true => 1 | false => 0)

def stepX (ty : Ty) (Γ : Nat → Option Rule) (n : Nat) (ops : List Oper) (base : Nat) (o : Oper) (s : SS) (K : SS → Prop) : Prop :=
  match o.guard with
  | none => runX ty Γ n o s K
  | some (j, want) => match (ops[j]?).bind (·.dst) with
    | some t => guardX ty Γ n o (tagOf base j want) t want s K
    | none => False

def opsX (ty : Ty) (Γ : Nat → Option Rule) (n : Nat) (ops : List Oper) (base : Nat) : List Oper → SS → (SS → Prop) → Prop
  | [], s, K => K ⟨s.F, s.H, s.nx, Nat.max s.tb s.nx, []⟩
  | o :: r, s, K => stepX ty Γ n ops base o s fun s' => opsX ty Γ n ops base r s' K

end Go.Eng
