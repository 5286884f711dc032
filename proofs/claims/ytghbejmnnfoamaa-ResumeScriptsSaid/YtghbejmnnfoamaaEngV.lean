/- The engine, part V: tables of types and of rules; the frame of a contract's proof. -/
import Derived.Test.YtghbejmnnfoamaaEngU
set_option linter.unusedVariables false
set_option linter.unusedSimpArgs false
namespace Go.Eng
open Go

theorem map_mem {α β : Type} {f g : α → β} : ∀ {l : List α}, l.map f = l.map g → ∀ x ∈ l, f x = g x
  | [], _, x, h => by cases h
  | y :: l, h, x, hx => by
    simp only [List.map_cons, List.cons.injEq] at h
    rcases List.mem_cons.1 hx with rfl | hx
    · exact h.1
    · exact map_mem h.2 x hx

theorem tyOK_of {P : Program} {ty : Ty} (h : ty.map (fun p => tdOf P p.1) = ty.map (fun p => some p.2)) : TyOK P ty :=
  fun t d hd => map_mem h (t, d) (look_mem hd)

def RuleOK (P : Program) (Λ : Lay) (f : Nat) : Rule → Prop
  | .exact fn => ExactSound P Λ f fn
  | .gen wt => GenSound P Λ f wt

def ΓOf (l : List (Nat × Rule)) : Nat → Option Rule := fun f => look f l
theorem ΓOf_nil (P : Program) {Λ : Lay} : ΓOK P Λ (ΓOf []) := fun f => by simp [ΓOf, look]
theorem ΓOf_cons {P : Program} {Λ : Lay} {l : List (Nat × Rule)} {f : Nat} {r : Rule} (h : RuleOK P Λ f r) (hl : ΓOK P Λ (ΓOf l)) : ΓOK P Λ (ΓOf ((f, r) :: l)) := fun k => by
  have := hl k
  unfold ΓOf at *
  by_cases e : k = f
  · subst e
    simp only [look_cons, if_true]
    cases r <;> exact h
  · simp only [look_cons, if_neg e]
    exact this

def bodyOf (fn : Func) : Code := fn.body.getD .skip

theorem fnOK_of {P : Program} {f : Nat} {fn : Func} (hf : P.funcs[f]? = some fn) (h1 : (fn.name == "runtime.NumGoroutine") = false) (h2 : fn.body.isNone = false) : fnOK P f := ⟨fn, hf, h1, h2⟩
theorem body_some {fn : Func} (h2 : fn.body.isNone = false) : fn.body = some (bodyOf fn) := by
  unfold bodyOf
  cases h : fn.body with
  | none => rw [h] at h2; cases h2
  | some c => rfl

/-- A contract of a function that only reckons: how its data are found in the arguments, the arguments again, what is asked, the result. -/
structure XC where
  α : Type
  get : List SV → Option α
  args : α → List SV
  pre : α → Prop
  res : α → SV
def argP : List SV → List SV → List Prop
  | [], [] => []
  | a, b => [a = b]
theorem argP_eq : ∀ {a b : List SV} {q : Prop}, (∀ p ∈ argP a b ++ [q], p) → a = b ∧ q
  | [], [], q, h => ⟨rfl, h q (by simp [argP])⟩
  | [], b :: bs, q, h => ⟨h _ (by simp [argP]), h q (by simp [argP])⟩
  | a :: as, [], q, h => ⟨h _ (by simp [argP]), h q (by simp [argP])⟩
  | a :: as, b :: bs, q, h => ⟨h _ (List.mem_append_left _ List.mem_cons_self), h q (List.mem_append_right _ List.mem_cons_self)⟩
def XC.rule (C : XC) (l : List SV) : Option (List Prop × SV) := match C.get l with
  | none => none
  | some x => some (argP l (C.args x) ++ [C.pre x], C.res x)

theorem exact_rule {P : Program} {Λ : Lay} {ty : Ty} {Γ : Nat → Option Rule} (hm : P.follows .mixedOrders = true) (hty : TyOK P ty) (hΓ : ΓOK P Λ Γ) {f : Nat} {fn : Func} (hok : fnOK P f) (hf : P.funcs[f]? = some fn) {c : Code} (hb : fn.body = some c)
    (C : XC) {n : Nat} (hn : fn.ntmps = n) (hlen : ∀ x, (C.args x).length ≤ n) (hg : ∀ x, SV.gndL (C.args x) = true) (hr : ∀ x, (C.res x).gnd = true) (cut : C.α → Nat → List Ann) (loop : C.α → Nat → SS → List Ann)
    (hK : ∀ x, C.pre x → Held (fnX ⟨ty, Γ, cut x, loop x, n, 0⟩ c fn.results.toList (C.args x) [] (fun r' _ => r' = C.res x))) : ExactSound P Λ f C.rule := by
  refine ⟨hok, fun args pre r h hp A ρ => ?_⟩
  unfold XC.rule at h
  split at h
  · cases h
  · rename_i x hx
    simp only [Option.some.injEq, Prod.mk.injEq] at h; obtain ⟨rfl, rfl⟩ := h
    obtain ⟨rfl, hpre⟩ := argP_eq hp
    exact fun _ => exact_of (cx := ⟨ty, Γ, cut x, loop x, n, 0⟩) hm hty hΓ hf hb hn rfl (hlen x) (hg x) (hr x) (hK x hpre) A ρ

/-! ### what a loop's state is told by the state at hand -/
def wSlot (k : Nat) (s : SS) (f : SV → List Ann) : List Ann := match look k s.F with
  | some v => f v
  | none => []
def wObj (id : Nat) (s : SS) (f : SO → List Ann) : List Ann := match look id s.H with
  | some o => f o
  | none => []
/-- The place of the iterator in slot k. -/
def wIter (k : Nat) (s : SS) (f : Nat → List Ann) : List Ann := wSlot k s fun
  | .ptr id _ _ _ => wObj id s fun
    | .iter _ p => f p
    | _ => []
  | _ => []
/-- The number in slot k. -/
def wInt (k : Nat) (s : SS) (f : Int → List Ann) : List Ann := wSlot k s fun
  | .g (.int _ n) => f n
  | _ => []
def wStr (k : Nat) (s : SS) (f : ByteArray → List Ann) : List Ann := wSlot k s fun
  | .g (.string n) => f n
  | _ => []
def wBool (k : Nat) (s : SS) (f : Bool → List Ann) : List Ann := wSlot k s fun
  | .g (.bool n) => f n
  | _ => []
/-- The cells that the pointer in slot k leads to. -/
def wCells (k : Nat) (s : SS) (f : List SV → List Ann) : List Ann := wSlot k s fun
  | .ptr id _ _ _ => wObj id s fun
    | .cells cs _ => f cs
    | _ => []
  | _ => []
/-- The rows of the slice in slot k: how many are known, how many are there, which. -/
def wRows (k : Nat) (s : SS) (f : Nat → Nat → (Nat → List SV) → List Ann) : List Ann := wSlot k s fun
  | .sl id _ _ _ _ => wObj id s fun
    | .view _ n c row _ => f n c row
    | .ro _ n row => f n n row
    | _ => []
  | _ => []

end Go.Eng
