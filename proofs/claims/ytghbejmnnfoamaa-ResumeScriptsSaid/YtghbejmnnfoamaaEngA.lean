/- The engine, part A: symbolic values, objects and states, and what they mean in a world of the model. No program in sight. -/
import Derived.Calls
import Derived.RowKit3
set_option linter.unusedVariables false
set_option linter.unusedSimpArgs false
namespace Go.Eng
open Go

/-- A symbolic value: known data ('g'), an address in a symbolic block, a slice over a symbolic block, data made of these, a function with captured values; 'opt t v': v if the guarded operations of tag t were carried out, else no value. -/
inductive SV where
  | g (v : Value)
  | ptr (id i s off : Nat)
  | sl (id i s len cap : Nat)
  | agg (cs : List SV)
  | tup (vs : List SV)
  | fn (f : Nat) (caps : List SV)
  | opt (t : Nat) (v : SV)

instance : Inhabited SV := ⟨.g undef⟩

/-- How symbolic names are read: a block's number (none: a nil slice), where in the block (0 but for what came in), and which tags hold. -/
structure Val where
  b : Nat → Option Nat
  o : Nat → Nat
  t : Nat → Bool

mutual
def SV.den (ρ : Val) : SV → Value
  | .g v => v
  | .ptr id i s off => .pointer (some ⟨(ρ.b id).getD 0, ρ.o id + (i * s + off), none⟩)
  | .sl id i s len cap => match ρ.b id with
    | none => .slice none len cap
    | some b => .slice (some ⟨b, ρ.o id + i * s, none⟩) len cap
  | .agg cs => .agg (SV.denL ρ cs).toArray
  | .tup vs => .tuple (SV.denL ρ vs).toArray
  | .fn f caps => .func (.func f) #[] (SV.denL ρ caps).toArray
  | .opt t v => match ρ.t t with
    | true => v.den ρ
    | false => undef
def SV.denL (ρ : Val) : List SV → List Value
  | [] => []
  | x :: xs => x.den ρ :: SV.denL ρ xs
end

theorem SV.denL_eq (ρ : Val) (l : List SV) : SV.denL ρ l = l.map (SV.den ρ) := by
  induction l with
  | nil => rfl
  | cons x xs ih => simp [SV.denL, ih]

/-- Names that are taken. -/
structure Names where
  b : Nat → Prop
  t : Nat → Prop

mutual
/-- All symbolic names of a value are in A; a nil slice is empty. -/
def SV.In (A : Names) (ρ : Val) : SV → Prop
  | .g _ => True
  | .ptr id _ _ _ => A.b id
  | .sl id _ _ len cap => A.b id ∧ (ρ.b id = none → len = 0 ∧ cap = 0) ∧ len ≤ cap
  | .agg cs => SV.InL A ρ cs
  | .tup vs => SV.InL A ρ vs
  | .fn _ caps => SV.InL A ρ caps
  | .opt _ _ => False
def SV.InL (A : Names) (ρ : Val) : List SV → Prop
  | [] => True
  | x :: xs => x.In A ρ ∧ SV.InL A ρ xs
end

theorem SV.InL_iff (A : Names) (ρ : Val) (l : List SV) : SV.InL A ρ l ↔ ∀ x ∈ l, x.In A ρ := by
  induction l with
  | nil => simp [SV.InL]
  | cons x xs ih => simp [SV.InL, ih]

/-- Two readings that agree on the names in A. -/
def Val.agree (A : Names) (ρ ρ' : Val) : Prop := (∀ i, A.b i → ρ'.b i = ρ.b i ∧ ρ'.o i = ρ.o i) ∧ (∀ t, A.t t → ρ'.t t = ρ.t t)
theorem Val.agree_refl (A : Names) (ρ : Val) : ρ.agree A ρ := ⟨fun _ _ => ⟨rfl, rfl⟩, fun _ _ => rfl⟩
theorem Val.agree_trans {A B : Names} {ρ₁ ρ₂ ρ₃ : Val} (h : ρ₁.agree A ρ₂) (h' : ρ₂.agree B ρ₃) (hb : ∀ i, A.b i → B.b i) (ht : ∀ t, A.t t → B.t t) : ρ₁.agree A ρ₃ :=
  ⟨fun i hi => ⟨(h'.1 i (hb i hi)).1.trans (h.1 i hi).1, (h'.1 i (hb i hi)).2.trans (h.1 i hi).2⟩, fun t hi => (h'.2 t (ht t hi)).trans (h.2 t hi)⟩

mutual
theorem SV.den_agree {A : Names} {ρ ρ' : Val} (h : ρ.agree A ρ') : ∀ (v : SV), v.In A ρ → v.den ρ' = v.den ρ
  | .g v, _ => rfl
  | .ptr id i s off, hv => by simp only [SV.den]; rw [(h.1 id hv).1, (h.1 id hv).2]
  | .sl id i s len cap, hv => by simp only [SV.den]; rw [(h.1 id hv.1).1, (h.1 id hv.1).2]
  | .agg cs, hv => by simp only [SV.den]; rw [SV.denL_agree h cs hv]
  | .tup cs, hv => by simp only [SV.den]; rw [SV.denL_agree h cs hv]
  | .fn f cs, hv => by simp only [SV.den]; rw [SV.denL_agree h cs hv]
  | .opt t v, hv => hv.elim
theorem SV.denL_agree {A : Names} {ρ ρ' : Val} (h : ρ.agree A ρ') : ∀ (l : List SV), SV.InL A ρ l → SV.denL ρ' l = SV.denL ρ l
  | [], _ => rfl
  | x :: xs, hv => by simp only [SV.denL]; rw [SV.den_agree h x hv.1, SV.denL_agree h xs hv.2]
end

mutual
/-- More names, another reading that agrees. -/
theorem SV.In_agree {A B : Names} {ρ ρ' : Val} (h : ρ.agree A ρ') (hb : ∀ i, A.b i → B.b i) (ht : ∀ t, A.t t → B.t t) : ∀ (v : SV), v.In A ρ → v.In B ρ'
  | .g v, _ => trivial
  | .ptr id i s off, hv => hb _ hv
  | .sl id i s len cap, hv => ⟨hb _ hv.1, fun hn => hv.2.1 (by rw [← (h.1 id hv.1).1]; exact hn), hv.2.2⟩
  | .agg cs, hv => SV.InL_agree h hb ht cs hv
  | .tup cs, hv => SV.InL_agree h hb ht cs hv
  | .fn f cs, hv => SV.InL_agree h hb ht cs hv
  | .opt t v, hv => hv.elim
theorem SV.InL_agree {A B : Names} {ρ ρ' : Val} (h : ρ.agree A ρ') (hb : ∀ i, A.b i → B.b i) (ht : ∀ t, A.t t → B.t t) : ∀ (l : List SV), SV.InL A ρ l → SV.InL B ρ' l
  | [], _ => trivial
  | x :: xs, hv => ⟨SV.In_agree h hb ht x hv.1, SV.InL_agree h hb ht xs hv.2⟩
end

/-- In a slot a value may hang on a tag. -/
def SV.InO (A : Names) (ρ : Val) : SV → Prop
  | .opt t v => A.t t ∧ (ρ.t t = true → v.In A ρ)
  | v => v.In A ρ
theorem SV.InO_of_In {A : Names} {ρ : Val} {v : SV} (h : v.In A ρ) : v.InO A ρ := by
  cases v <;> first | exact h | exact h.elim
theorem SV.den_agreeO {A : Names} {ρ ρ' : Val} (h : ρ.agree A ρ') {v : SV} (hv : v.InO A ρ) : v.den ρ' = v.den ρ := by
  cases v with
  | opt t v =>
    simp only [SV.den]; rw [h.2 t hv.1]
    cases ht : ρ.t t with
    | true => exact SV.den_agree h v (hv.2 ht)
    | false => rfl
  | _ => exact SV.den_agree h _ hv
theorem SV.InO_agree {A B : Names} {ρ ρ' : Val} (h : ρ.agree A ρ') (hb : ∀ i, A.b i → B.b i) (ht : ∀ t, A.t t → B.t t) {v : SV} (hv : v.InO A ρ) : v.InO B ρ' := by
  cases v with
  | opt t v => exact ⟨ht _ hv.1, fun e => SV.In_agree h hb ht v (hv.2 (by rw [← h.2 t hv.1]; exact e))⟩
  | _ => exact SV.In_agree h hb ht _ hv

/-- A symbolic object: literal cells; rows of which the first n are known and c are there; a string's iterator; anything of which something is known; rows that came in and are only read. -/
inductive SO where
  | cells (cs : List SV) (T : TypeId)
  | view (s n c : Nat) (row : Nat → List SV) (T : TypeId)
  | iter (s : ByteArray) (pos : Nat)
  | raw (φ : Obj → Prop)
  | ro (s n : Nat) (row : Nat → List SV)

def SO.In (A : Names) (ρ : Val) : SO → Prop
  | .cells cs _ => SV.InL A ρ cs
  | .view _ n _ row _ => ∀ i, i < n → SV.InL A ρ (row i)
  | .iter _ _ => True
  | .raw _ => True
  | .ro _ n row => ∀ i, i < n → SV.InL A ρ (row i)

def SO.sat (ρ : Val) : SO → Obj → Prop
  | .cells cs T, o => o = .cells (SV.denL ρ cs).toArray T (0, 0)
  | .view s n c row T, o => ∃ arr fr, o = .cells arr T fr ∧ (n ≤ c ∧ c * s ≤ arr.size) ∧ (∀ k, k < arr.size → ¬ (fr.1 ≤ k ∧ k < fr.2)) ∧
      (∀ i, i < n → (row i).length = s ∧ ∀ j, j < s → arr[i * s + j]? = ((row i)[j]?).map (SV.den ρ))
  | .iter s pos, o => o = .stringIter s pos
  | .raw φ, o => φ o
  | .ro _ _ _, _ => False

theorem SO.sat_agree {A : Names} {ρ ρ' : Val} (h : ρ.agree A ρ') {so : SO} (hi : so.In A ρ) {o : Obj} (hs : so.sat ρ o) : so.sat ρ' o := by
  cases so with
  | cells cs T => simp only [SO.sat] at *; rw [SV.denL_agree h cs hi]; exact hs
  | view s n c row T =>
    obtain ⟨arr, fr, h1, h2, h3, h4⟩ := hs
    refine ⟨arr, fr, h1, h2, h3, fun i hin => ⟨(h4 i hin).1, fun j hj => ?_⟩⟩
    rw [(h4 i hin).2 j hj]
    have hr := (SV.InL_iff A ρ (row i)).1 (hi i hin)
    cases hg : (row i)[j]? with
    | none => rfl
    | some x => simp only [Option.map_some]; rw [SV.den_agree h x (hr x (List.mem_of_getElem? hg))]
  | iter s pos => exact hs
  | raw φ => exact hs
  | ro s n row => exact hs.elim

theorem SO.In_agree {A B : Names} {ρ ρ' : Val} (h : ρ.agree A ρ') (hb : ∀ i, A.b i → B.b i) (ht : ∀ t, A.t t → B.t t) {so : SO} (hi : so.In A ρ) : so.In B ρ' := by
  cases so with
  | cells cs T => exact SV.InL_agree h hb ht cs hi
  | view s n c row T => exact fun i hin => SV.InL_agree h hb ht _ (hi i hin)
  | iter s pos => trivial
  | raw φ => trivial
  | ro s n row => exact fun i hin => SV.InL_agree h hb ht _ (hi i hin)

/-! ### lists with keys -/
def look {α : Type} (k : Nat) : List (Nat × α) → Option α
  | [] => none
  | (k', v) :: r => match Nat.beq k k' with
    | true => some v
    | false => look k r
def del {α : Type} (k : Nat) : List (Nat × α) → List (Nat × α)
  | [] => []
  | (k', v) :: r => match Nat.beq k k' with
    | true => del k r
    | false => (k', v) :: del k r

theorem look_cons {α : Type} (k k' : Nat) (v : α) (r : List (Nat × α)) : look k ((k', v) :: r) = if k = k' then some v else look k r := by
  simp only [look]
  by_cases h : k = k'
  · subst h; rw [Nat.beq_refl]; simp
  · rw [if_neg h]
    have : Nat.beq k k' = false := by
      cases hb : Nat.beq k k' with
      | false => rfl
      | true => exact absurd (Nat.eq_of_beq_eq_true hb) h
    rw [this]

theorem look_del {α : Type} (k k' : Nat) (l : List (Nat × α)) : look k (del k' l) = if k = k' then none else look k l := by
  induction l with
  | nil => simp [look, del]
  | cons x r ih =>
    obtain ⟨j, v⟩ := x
    by_cases hj : k' = j
    · subst hj
      simp only [del, Nat.beq_refl]
      rw [ih, look_cons]
      by_cases h : k = k' <;> simp [h]
    · have : Nat.beq k' j = false := by
        cases hb : Nat.beq k' j with
        | false => rfl
        | true => exact absurd (Nat.eq_of_beq_eq_true hb) hj
      simp only [del, this]
      rw [look_cons, look_cons, ih]
      by_cases h : k = j
      · subst h; simp [Ne.symm hj]
      · simp [h]

end Go.Eng
