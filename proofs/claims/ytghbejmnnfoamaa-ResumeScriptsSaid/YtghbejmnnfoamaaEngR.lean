/- The engine, part R: code; where ways meet, and the head of a loop (definitions alone). -/
import Derived.Test.YtghbejmnnfoamaaEngJ
import Derived.Test.YtghbejmnnfoamaaEngW
set_option linter.unusedVariables false
set_option linter.unusedSimpArgs false
namespace Go.Eng
open Go

abbrev Ren := List (Nat × Option Nat)
def eqON : Option Nat → Option Nat → Bool
  | none, none => true
  | some a, some b => Nat.beq a b
  | _, _ => false
def bindX (σ : Ren) (id : Nat) (x : Option Nat) : Option Ren := match look id σ with
  | some y => match eqON y x with
    | true => some σ
    | false => none
  | none => some ((id, x) :: σ)

def eqG : Value → Value → Prop
  | .int k m, .int k' n => match decide (k = k') with
    | true => m = n
    | false => False
  | .bool p, .bool q => p = q
  | .string s, .string t => s = t
  | a, b => a = b

mutual
/-- The value at hand against the value asked for: how the names go together, and what must hold. -/
def matV (σ : Ren) : SV → SV → Option (Ren × List Prop)
  | .g a, .g b => some (σ, [eqG a b])
  | .ptr id i s off, .ptr id' i' s' off' => match bindX σ id' (some id), Nat.beq s s', Nat.beq off off' with
    | some σ', true, true => some (σ', [i = i'])
    | _, _, _ => none
  | .sl id i s len cap, .sl id' i' s' len' cap' => match bindX σ id' (some id), Nat.beq s s' with
    | some σ', true => some (σ', [i = i', len = len', cap = cap'])
    | _, _ => none
  | .g (.slice none 0 0), .sl id' _ _ len' cap' => match bindX σ id' none with
    | some σ' => some (σ', [len' = 0, cap' = 0])
    | none => none
  | .agg cs, .agg cs' => matL σ cs cs'
  | .tup cs, .tup cs' => matL σ cs cs'
  | .fn f cs, .fn f' cs' => match Nat.beq f f' with
    | true => matL σ cs cs'
    | false => none
  | _, _ => none
def matL (σ : Ren) : List SV → List SV → Option (Ren × List Prop)
  | [], [] => some (σ, [])
  | x :: xs, y :: ys => match matV σ x y with
    | some (σ', p) => match matL σ' xs ys with
      | some (σ'', q) => some (σ'', p ++ q)
      | none => none
    | none => none
  | _, _ => none
end

def isG : SV → Bool
  | .g _ => true
  | _ => false

def matO (σ : Ren) : SO → SO → Option (Ren × List Prop)
  | .cells cs T, .cells cs' T' => match Nat.beq T T' with
    | true => match cs.all isG, cs'.all isG with
      | true, true => some (σ, [cs = cs'])
      | _, _ => matL σ cs cs'
    | false => none
  | .iter s pos, .iter s' pos' => some (σ, [s = s', pos = pos'])
  | .raw φ, .raw φ' => some (σ, [∀ o, φ o → φ' o])
  | .ro s n row, .ro s' n' row' => match Nat.beq s s' with
    | true => some (σ, [n' ≤ n, ∀ j, j < n' → row j = row' j ∧ (row' j).all isG = true])
    | false => none
  | so, .view s' n' c' row' T' => match rowsOf s' so with
    | some (n, c, row, T) => match Nat.beq T T' with
      | true => some (σ, [n' ≤ n, n' ≤ c', c' ≤ c, ∀ j, j < n' → row j = row' j ∧ (row' j).all isG = true])
      | false => none
    | none => none
  | _, _ => none

def matF (F : Env) (σ : Ren) : Env → Option (Ren × List Prop)
  | [] => some (σ, [])
  | (k, v) :: r => match look k F with
    | some v' => match matV σ v' v with
      | some (σ', p) => match matF F σ' r with
        | some (σ'', q) => some (σ'', p ++ q)
        | none => none
      | none => none
    | none => none
def matH (H : Heap) (σ : Ren) : Heap → Option (Ren × List Prop)
  | [] => some (σ, [])
  | (i, o) :: r => match look i σ with
    | some (some j) => match look j H with
      | some o' => match matO σ o' o with
        | some (σ', p) => match matH H σ' r with
          | some (σ'', q) => some (σ'', p ++ q)
          | none => none
        | none => none
      | none => none
    | some none => match o with
      | .view _ n _ _ _ => match matH H σ r with
        | some (σ'', q) => some (σ'', (n = 0) :: q)
        | none => none
      | _ => none
    | none => none

def idRen : Nat → Ren
  | 0 => []
  | n + 1 => (n, some n) :: idRen n

/-- No two names of σ stand for one. -/
def injRen : Ren → Bool
  | [] => true
  | (_, none) :: r => injRen r
  | (_, some j) :: r => (r.all fun p => match p.2 with | some j' => !(Nat.beq j j') | none => true) && injRen r
/-- No two names of the memory H stand for one. -/
def injOn (H : Heap) (σ : Ren) : Bool := injRen (σ.filter fun p => (look p.1 H).isSome)
/-- All names of σ are below nx. -/
def bndRen (nx : Nat) (σ : Ren) : Bool := σ.all fun p => Nat.blt p.1 nx

/-- The state s is one of those that t describes; e: how many names the function was handed. -/
def entX (e : Nat) (s t : SS) : Prop := match matF s.F (idRen e) t.F with
  | some (σ, p) => match matH s.H σ t.H with
    | some (σ', q) => match injOn t.H σ', bndRen t.nx σ', Nat.ble e t.nx, Nat.ble t.tb t.nx, t.T with
      | true, true, true, true, [] => allX p (allX q True)
      | _, _, _, _, _ => False
    | none => False
  | none => False

structure Ann where
  α : Type
  st : α → SS
  φ : α → Prop
  μ : α → Nat

inductive EX where
  | normal
  | exit (id : Nat)
  | ret

/-- What a walk is told: the types, the rules of the functions that are called, where ways meet (before a region), the heads of loops (a loop by its first region), how many slots, how many names were handed in. -/
structure Cx where
  ty : Ty
  Γ : Nat → Option Rule
  cut : Nat → List Ann
  loop : Nat → SS → List Ann
  n : Nat
  e : Nat

def firstR : Code → Option Nat
  | .region id _ _ => some id
  | .seq a b => match firstR a with
    | some i => some i
    | none => firstR b
  | .cond _ a b => match firstR a with
    | some i => some i
    | none => firstR b
  | .block _ c => firstR c
  | .loop c => firstR c
  | .scope c => firstR c
  | _ => none

def thenX (K : SS → Prop) (Q : EX → SS → Prop) : EX → SS → Prop
  | .normal, s => K s
  | e, s => Q e s
def blockX (id : Nat) (Q : EX → SS → Prop) : EX → SS → Prop
  | .exit id', s => match Nat.beq id' id with
    | true => Q .normal s
    | false => Q (.exit id') s
  | e, s => Q e s
def enterX (e : Nat) (A : Ann) (s : SS) : Prop := ∃ x, A.φ x ∧ entX e s (A.st x)
def enterL (e : Nat) : List Ann → SS → Prop
  | [], _ => False
  | [A], s => enterX e A s
  | A :: l, s => enterX e A s ∨ enterL e l s
/-- Round again: one of the states, nearer to the end than m. -/
def againL (e m : Nat) : List Ann → SS → Prop
  | [], _ => False
  | [A], s => ∃ x', A.φ x' ∧ A.μ x' < m ∧ entX e s (A.st x')
  | A :: l, s => (∃ x', A.φ x' ∧ A.μ x' < m ∧ entX e s (A.st x')) ∨ againL e m l s
def eachL (k : Ann → Prop) : List Ann → Prop
  | [] => True
  | [A] => k A
  | A :: l => k A ∧ eachL k l

def cutOf (cx : Cx) (c : Code) : List Ann := match firstR c with
  | some i => cx.cut i
  | none => []
def loopOf (cx : Cx) (c : Code) (s : SS) : List Ann := match firstR c with
  | some i => cx.loop i s
  | none => []

/-- A loop without a state of its own: round by round, as long as its conditions are decided. -/
def unrollX (w : (EX → SS → Prop) → SS → Prop) (Q : EX → SS → Prop) : Nat → SS → Prop
  | 0, _ => False
  | n + 1, s => w (thenX (unrollX w Q n) Q) s

def wpX (cx : Cx) : Code → (EX → SS → Prop) → SS → Prop
  | .skip, Q, s => Q .normal s
  | .region _ ops false, Q, s => opsX cx.ty cx.Γ cx.n ops.toList s.nx ops.toList s (Q .normal)
  | .region _ ops true, Q, s => drawRegion cx.ty cx.Γ cx.n ops s (Q .normal)
  | .seq a b, Q, s => match cutOf cx b with
    | [] => wpX cx a (thenX (fun s' => wpX cx b Q s') Q) s
    | A :: l => wpX cx a (thenX (fun s' => enterL cx.e (A :: l) s') Q) s ∧ eachL (fun A => ∀ x, A.φ x → wpX cx b Q (A.st x)) (A :: l)
  | .cond c a b, Q, s => match fetch s none c with
    | some (.g (.bool v)) => condX v (wpX cx a Q s) (wpX cx b Q s)
    | _ => False
  | .block id c, Q, s => wpX cx c (blockX id Q) s
  | .loop c, Q, s => match loopOf cx c s with
    | [] => unrollX (fun Q s => wpX cx c Q s) Q 24 s
    | B :: l => enterL cx.e (B :: l) s ∧ eachL (fun A => ∀ x, A.φ x → wpX cx c (thenX (fun s' => againL cx.e (A.μ x) (B :: l) s') Q) (A.st x)) (B :: l)
  | .exit id, Q, s => Q (.exit id) s
  | .ret, Q, s => Q .ret s
  | .label _, Q, s => Q .normal s
  | .scope c, Q, s => wpX cx c Q s
  | _, _, _ => False

/-- The results of a function. -/
def resL (ty : Ty) (s : SS) : List ResultVar → Option (List SV)
  | [] => some []
  | .tmp t :: r => match fetch s none (.tmp t), resL ty s r with
    | some v, some l => some (v :: l)
    | _, _ => none
  | .cell a t :: r => match fetch s none (.tmp a), look t ty with
    | some (.ptr id i st off), some d => match look id s.H with
      | some so => match loadX d i st off so with
        | some ([], v) => match resL ty s r with
          | some l => some (v :: l)
          | none => none
        | _ => none
      | none => none
    | _, _ => none
def resX (ty : Ty) (s : SS) (rs : List ResultVar) : Option SV := match resL ty s rs with
  | some [v] => some v
  | some l => some (.tup l)
  | none => none

def argF : Nat → List SV → Env
  | _, [] => []
  | k, v :: r => (k, v) :: argF (k + 1) r

/-- What a function asks of its arguments and the memory it is handed. -/
def fnX (cx : Cx) (body : Code) (rs : List ResultVar) (args : List SV) (H : Heap) (K : SV → Heap → Prop) : Prop :=
  wpX cx body (fun e s => match e with
    | .exit _ => False
    | _ => match resX cx.ty s rs with
      | some r => K r s.H
      | none => False) ⟨argF 0 args, H, cx.e, 0, []⟩

end Go.Eng
