/- The engine, part S: a state that is one of those described may be taken for it. -/
import Derived.Test.YtghbejmnnfoamaaEngQ
import Derived.Test.YtghbejmnnfoamaaEngR
set_option linter.unusedVariables false
set_option linter.unusedSimpArgs false
namespace Go.Eng
open Go

def Ren.le (σ σ' : Ren) : Prop := ∀ k x, look k σ = some x → look k σ' = some x
theorem Ren.le_refl (σ : Ren) : σ.le σ := fun _ _ h => h
theorem Ren.le_trans {a b c : Ren} (h : a.le b) (h' : b.le c) : a.le c := fun k x hx => h' k x (h k x hx)

theorem eqON_iff {a b : Option Nat} (h : eqON a b = true) : a = b := by
  cases a <;> cases b <;> simp [eqON] at h
  · rfl
  · subst h; rfl

theorem bindX_le {σ σ' : Ren} {id : Nat} {x : Option Nat} (h : bindX σ id x = some σ') : σ.le σ' ∧ look id σ' = some x := by
  unfold bindX at h
  split at h
  · rename_i y hy
    split at h
    · rename_i he
      obtain rfl := Option.some.inj h
      rw [eqON_iff he] at hy
      exact ⟨Ren.le_refl _, hy⟩
    · cases h
  · rename_i hn
    obtain rfl := Option.some.inj h
    refine ⟨fun k y hk => ?_, by rw [look_cons, if_pos rfl]⟩
    rw [look_cons, if_neg]
    · exact hk
    · intro e; subst e; rw [hn] at hk; cases hk

/-- The reading behind a renaming. -/
def renVal (ρ : Val) (σ : Ren) : Val := ⟨fun i => match look i σ with
  | some (some j) => ρ.b j
  | _ => none, fun i => match look i σ with
  | some (some j) => ρ.o j
  | _ => 0, ρ.t⟩
def renNames (σ : Ren) (B : Nat → Prop) : Names := ⟨fun i => (look i σ).isSome = true, B⟩

theorem eqG_eq {a b : Value} (h : eqG a b) : a = b := by
  unfold eqG at h
  split at h
  · rename_i k m k' n
    split at h
    · rename_i hk; rw [of_decide_eq_true hk, h]
    · exact h.elim
  · rw [h]
  · rw [h]
  · exact h

section
variable {A : Names} {ρ : Val} {B : Nat → Prop}

mutual
theorem matV_le : ∀ {σ σ' : Ren} {v v' : SV} {p : List Prop}, matV σ v' v = some (σ', p) → σ.le σ'
  | σ, σ', v, .g a, p, h => by
    cases v with
    | g b => simp only [matV, Option.some.injEq, Prod.mk.injEq] at h; obtain ⟨rfl, _⟩ := h; exact Ren.le_refl _
    | sl id i s len cap =>
      unfold matV at h
      split at h
      · rename_i h1 h2; cases h2
      · rename_i h1 h2; cases h1
      · rename_i h1 h2; cases h1
      · rename_i h1 h2; cases h2
        split at h
        · rename_i hb
          simp only [Option.some.injEq, Prod.mk.injEq] at h; obtain ⟨rfl, _⟩ := h; exact (bindX_le hb).1
        · cases h
      · rename_i h1 h2; cases h1
      · rename_i h1 h2; cases h1
      · rename_i h1 h2; cases h1
      · cases h
    | _ => simp [matV] at h
  | σ, σ', v, .ptr id i s off, p, h => by
    cases v with
    | ptr id' i' s' off' =>
      simp only [matV] at h
      split at h
      · rename_i hb _ _
        simp only [Option.some.injEq, Prod.mk.injEq] at h; obtain ⟨rfl, _⟩ := h; exact (bindX_le hb).1
      · cases h
    | _ => simp [matV] at h
  | σ, σ', v, .sl id i s len cap, p, h => by
    cases v with
    | sl id' i' s' len' cap' =>
      simp only [matV] at h
      split at h
      · rename_i hb _
        simp only [Option.some.injEq, Prod.mk.injEq] at h; obtain ⟨rfl, _⟩ := h; exact (bindX_le hb).1
      · cases h
    | _ => simp [matV] at h
  | σ, σ', v, .agg cs, p, h => by
    cases v with
    | agg cs' => simp only [matV] at h; exact matL_le h
    | _ => simp [matV] at h
  | σ, σ', v, .tup cs, p, h => by
    cases v with
    | tup cs' => simp only [matV] at h; exact matL_le h
    | _ => simp [matV] at h
  | σ, σ', v, .fn f cs, p, h => by
    cases v with
    | fn f' cs' =>
      simp only [matV] at h
      split at h
      · exact matL_le h
      · cases h
    | _ => simp [matV] at h
  | σ, σ', v, .opt t x, p, h => by cases v <;> simp [matV] at h
theorem matL_le : ∀ {σ σ' : Ren} {l l' : List SV} {p : List Prop}, matL σ l' l = some (σ', p) → σ.le σ'
  | σ, σ', [], [], p, h => by simp only [matL, Option.some.injEq, Prod.mk.injEq] at h; obtain ⟨rfl, _⟩ := h; exact Ren.le_refl _
  | σ, σ', y :: ys, x :: xs, p, h => by
    simp only [matL] at h
    split at h
    · rename_i σ1 p1 h1
      split at h
      · rename_i σ2 p2 h2
        simp only [Option.some.injEq, Prod.mk.injEq] at h; obtain ⟨rfl, _⟩ := h
        exact Ren.le_trans (matV_le h1) (matL_le h2)
      · cases h
    · cases h
  | σ, σ', [], _ :: _, p, h => by simp [matL] at h
  | σ, σ', _ :: _, [], p, h => by simp [matL] at h
end

mutual
theorem matV_sound {σs : Ren} : ∀ {σ σ' : Ren} {v v' : SV} {p : List Prop}, matV σ v' v = some (σ', p) → (∀ q ∈ p, q) → v'.In A ρ → σ'.le σs → v.den (renVal ρ σs) = v'.den ρ ∧ v.In (renNames σs B) (renVal ρ σs)
  | σ, σ', v, .g a, p, h, hp, hi, hle => by
    cases v with
    | g b =>
      simp only [matV, Option.some.injEq, Prod.mk.injEq] at h; obtain ⟨rfl, rfl⟩ := h
      have := eqG_eq (hp (eqG a b) (by simp))
      subst this
      exact ⟨rfl, trivial⟩
    | sl id i s len cap =>
      unfold matV at h
      split at h
      · rename_i h1 h2; cases h2
      · rename_i h1 h2; cases h1
      · rename_i h1 h2; cases h1
      · rename_i h1 h2; cases h2
        cases h1
        split at h
        · rename_i hb
          simp only [Option.some.injEq, Prod.mk.injEq] at h; obtain ⟨rfl, rfl⟩ := h
          have hl := hle _ _ (bindX_le hb).2
          obtain ⟨rfl, rfl⟩ : len = 0 ∧ cap = 0 := ⟨hp (len = 0) (by simp), hp (cap = 0) (by simp)⟩
          exact ⟨by simp [SV.den, renVal, hl], by show (look _ σs).isSome = true; rw [hl]; rfl, fun _ => ⟨rfl, rfl⟩, Nat.le_refl _⟩
        · cases h
      · rename_i h1 h2; cases h1
      · rename_i h1 h2; cases h1
      · rename_i h1 h2; cases h1
      · cases h
    | _ => simp [matV] at h
  | σ, σ', v, .ptr id i s off, p, h, hp, hi, hle => by
    cases v with
    | ptr id' i' s' off' =>
      simp only [matV] at h
      split at h
      · rename_i hb h1 h2
        simp only [Option.some.injEq, Prod.mk.injEq] at h; obtain ⟨rfl, rfl⟩ := h
        have hl := hle _ _ (bindX_le hb).2
        obtain rfl := Nat.eq_of_beq_eq_true h1
        obtain rfl := Nat.eq_of_beq_eq_true h2
        obtain rfl : i = i' := hp (i = i') (by simp)
        exact ⟨by simp [SV.den, renVal, hl], by show (look _ σs).isSome = true; rw [hl]; rfl⟩
      · cases h
    | _ => simp [matV] at h
  | σ, σ', v, .sl id i s len cap, p, h, hp, hi, hle => by
    cases v with
    | sl id' i' s' len' cap' =>
      simp only [matV] at h
      split at h
      · rename_i hb h1
        simp only [Option.some.injEq, Prod.mk.injEq] at h; obtain ⟨rfl, rfl⟩ := h
        have hl := hle _ _ (bindX_le hb).2
        obtain rfl := Nat.eq_of_beq_eq_true h1
        obtain rfl : i = i' := hp (i = i') (by simp)
        obtain rfl : len = len' := hp (len = len') (by simp)
        obtain rfl : cap = cap' := hp (cap = cap') (by simp)
        refine ⟨by simp [SV.den, renVal, hl], by show (look _ σs).isSome = true; rw [hl]; rfl, fun hn => hi.2.1 ?_, hi.2.2⟩
        simpa [renVal, hl] using hn
      · cases h
    | _ => simp [matV] at h
  | σ, σ', v, .agg cs, p, h, hp, hi, hle => by
    cases v with
    | agg cs' =>
      simp only [matV] at h
      obtain ⟨h1, h2⟩ := matL_sound h hp hi hle
      exact ⟨by simp only [SV.den, h1], h2⟩
    | _ => simp [matV] at h
  | σ, σ', v, .tup cs, p, h, hp, hi, hle => by
    cases v with
    | tup cs' =>
      simp only [matV] at h
      obtain ⟨h1, h2⟩ := matL_sound h hp hi hle
      exact ⟨by simp only [SV.den, h1], h2⟩
    | _ => simp [matV] at h
  | σ, σ', v, .fn f cs, p, h, hp, hi, hle => by
    cases v with
    | fn f' cs' =>
      simp only [matV] at h
      split at h
      · rename_i hf
        obtain rfl := Nat.eq_of_beq_eq_true hf
        obtain ⟨h1, h2⟩ := matL_sound h hp hi hle
        exact ⟨by simp only [SV.den, h1], h2⟩
      · cases h
    | _ => simp [matV] at h
  | σ, σ', v, .opt t x, p, h, hp, hi, hle => hi.elim
theorem matL_sound {σs : Ren} : ∀ {σ σ' : Ren} {l l' : List SV} {p : List Prop}, matL σ l' l = some (σ', p) → (∀ q ∈ p, q) → SV.InL A ρ l' → σ'.le σs → SV.denL (renVal ρ σs) l = SV.denL ρ l' ∧ SV.InL (renNames σs B) (renVal ρ σs) l
  | σ, σ', [], [], p, h, hp, hi, hle => ⟨rfl, trivial⟩
  | σ, σ', y :: ys, x :: xs, p, h, hp, hi, hle => by
    simp only [matL] at h
    split at h
    · rename_i σ1 p1 h1
      split at h
      · rename_i σ2 p2 h2
        simp only [Option.some.injEq, Prod.mk.injEq] at h; obtain ⟨rfl, rfl⟩ := h
        obtain ⟨q1, q2⟩ := matV_sound h1 (fun q hq => hp q (List.mem_append_left _ hq)) hi.1 (Ren.le_trans (matL_le h2) hle)
        obtain ⟨q3, q4⟩ := matL_sound h2 (fun q hq => hp q (List.mem_append_right _ hq)) hi.2 hle
        exact ⟨by simp only [SV.denL, q1, q3], q2, q4⟩
      · cases h
    · cases h
  | σ, σ', [], _ :: _, p, h, hp, hi, hle => by simp [matL] at h
  | σ, σ', _ :: _, [], p, h, hp, hi, hle => by simp [matL] at h
end

theorem denL_ground {ρ ρ' : Val} {l : List SV} (h : l.all isG = true) : SV.denL ρ l = SV.denL ρ' l ∧ ∀ A, SV.InL A ρ l := by
  induction l with
  | nil => exact ⟨rfl, fun _ => trivial⟩
  | cons x l ih =>
    simp only [List.all_cons, Bool.and_eq_true] at h
    obtain ⟨h1, h2⟩ := ih h.2
    cases x with
    | g v => exact ⟨by simp only [SV.denL, SV.den, h1], fun A => ⟨trivial, h2 A⟩⟩
    | _ => simp [isG] at h

/-- An object at hand against the object asked for. -/
theorem matO_sound {σ σ' σs : Ren} {so so' : SO} {p : List Prop} (h : matO σ so' so = some (σ', p)) (hp : ∀ q ∈ p, q) (hi : so'.In A ρ) (hle : σ'.le σs) :
    so.In (renNames σs B) (renVal ρ σs) ∧ (∀ (w : World) (i j : Nat), (renVal ρ σs).b i = ρ.b j → (renVal ρ σs).o i = ρ.o j → At ρ w j so' → At (renVal ρ σs) w i so) ∧ σ.le σ' ∧ so'.isRo = so.isRo := by
  have rowsEq : ∀ {s n : Nat} {row row' : Nat → List SV}, (∀ j, j < n → row j = row' j ∧ (row' j).all isG = true) → ∀ {X : Nat → Nat → Option Value}, (∀ j, j < n → (row j).length = s ∧ ∀ q, q < s → X j q = ((row j)[q]?).map (SV.den ρ)) →
      ∀ j, j < n → (row' j).length = s ∧ ∀ q, q < s → X j q = ((row' j)[q]?).map (SV.den (renVal ρ σs)) := by
    intro s n row row' p4 X hX j hj
    obtain ⟨e1, e2⟩ := p4 j hj
    obtain ⟨g1, g2⟩ := hX j hj
    rw [e1] at g1 g2
    refine ⟨g1, fun q hq => ?_⟩
    rw [g2 q hq, ← denL_get, ← denL_get, (denL_ground (ρ := ρ) (ρ' := renVal ρ σs) e2).1]
  have view : ∀ (s' n' c' : Nat) (row' : Nat → List SV) (T' : TypeId), so = .view s' n' c' row' T' → (match rowsOf s' so' with
      | some (n, c, row, T) => match Nat.beq T T' with
        | true => some (σ, [n' ≤ n, n' ≤ c', c' ≤ c, ∀ j, j < n' → row j = row' j ∧ (row' j).all isG = true])
        | false => none
      | none => none) = some (σ', p) → so.In (renNames σs B) (renVal ρ σs) ∧ (∀ (w : World) (i j : Nat), (renVal ρ σs).b i = ρ.b j → (renVal ρ σs).o i = ρ.o j → At ρ w j so' → At (renVal ρ σs) w i so) ∧ σ.le σ' ∧ so'.isRo = so.isRo := by
    intro s' n' c' row' T' hso h
    split at h
    · rename_i n c row T hr
      split at h
      · rename_i hT
        obtain rfl := Nat.eq_of_beq_eq_true hT
        simp only [Option.some.injEq, Prod.mk.injEq] at h; obtain ⟨rfl, rfl⟩ := h
        have p1 : n' ≤ n := hp _ (by simp)
        have p2 : n' ≤ c' := hp (n' ≤ c') (by simp)
        have p3 : c' ≤ c := hp (c' ≤ c) (by simp)
        have p4 : ∀ j, j < n' → row j = row' j ∧ (row' j).all isG = true := hp _ (by simp)
        subst hso
        obtain ⟨r1, r2, r3⟩ := rowsOf_sat (A := A) (ρ := ρ) hr
        refine ⟨fun j hj => (denL_ground (ρ' := ρ) (p4 j hj).2).2 _, fun w i j hb ho hat => ?_, Ren.le_refl _, r3⟩
        rcases rowsOf_at hr hat with ⟨b, arr, fr, e1, e0, e2, ⟨q1, q1'⟩, q2, q4⟩ | ⟨e1, rfl⟩
        · refine Or.inl ⟨b, _, by rw [hb]; exact e1, by rw [ho]; exact e0, e2, arr, fr, rfl, ⟨p2, Nat.le_trans (Nat.mul_le_mul_right _ p3) q1'⟩, q2, ?_⟩
          exact rowsEq p4 (X := fun j q => arr[j * s' + q]?) (fun j hj => q4 j (by omega))
        · obtain rfl : n' = 0 := by omega
          exact Or.inr (Or.inl ⟨by rw [hb]; exact e1, Or.inl ⟨_, _, _, _, rfl⟩⟩)
      · cases h
    · cases h
  cases so with
  | cells cs' T' =>
    cases so' with
    | cells cs T =>
      simp only [matO] at h
      split at h
      · rename_i hT
        obtain rfl := Nat.eq_of_beq_eq_true hT
        split at h
        · rename_i hg hg'
          simp only [Option.some.injEq, Prod.mk.injEq] at h; obtain ⟨rfl, rfl⟩ := h
          have hcs : cs = cs' := hp (cs = cs') (by simp)
          subst hcs
          obtain ⟨h1, h2⟩ := denL_ground (ρ := renVal ρ σs) (ρ' := ρ) hg
          refine ⟨h2 _, fun w i j hb ho hat => ?_, Ren.le_refl _, rfl⟩
          obtain ⟨b, e1, e0, e2⟩ := hat.cells
          exact Or.inl ⟨b, _, by rw [hb]; exact e1, by rw [ho]; exact e0, e2, by simp only [SO.sat]; rw [h1]⟩
        · obtain ⟨h1, h2⟩ := matL_sound (B := B) h hp hi hle
          refine ⟨h2, fun w i j hb ho hat => ?_, matL_le h, rfl⟩
          obtain ⟨b, e1, e0, e2⟩ := hat.cells
          exact Or.inl ⟨b, _, by rw [hb]; exact e1, by rw [ho]; exact e0, e2, by simp only [SO.sat]; rw [h1]⟩
      · cases h
    | _ => simp [matO] at h
  | iter s' pos' =>
    cases so' with
    | iter s pos =>
      simp only [matO, Option.some.injEq, Prod.mk.injEq] at h; obtain ⟨rfl, rfl⟩ := h
      obtain rfl : s = s' := hp (s = s') (by simp)
      obtain rfl : pos = pos' := hp (pos = pos') (by simp)
      refine ⟨trivial, fun w i j hb ho hat => ?_, Ren.le_refl _, rfl⟩
      obtain ⟨b, e1, e0, e2⟩ := hat.iter
      exact Or.inl ⟨b, _, by rw [hb]; exact e1, by rw [ho]; exact e0, e2, rfl⟩
    | _ => simp [matO] at h
  | raw φ' =>
    cases so' with
    | raw φ =>
      simp only [matO, Option.some.injEq, Prod.mk.injEq] at h; obtain ⟨rfl, rfl⟩ := h
      have hφ : ∀ o, φ o → φ' o := hp (∀ o, φ o → φ' o) (by simp)
      refine ⟨trivial, fun w i j hb ho hat => ?_, Ren.le_refl _, rfl⟩
      rcases hat with ⟨b, ob, e1, e0, e2, e3⟩ | ⟨_, ⟨_, _, _, _, hc⟩ | ⟨_, _, hc⟩⟩ | ⟨_, _, _, _, _, _, _, hc, _⟩
      · exact Or.inl ⟨b, ob, by rw [hb]; exact e1, by rw [ho]; exact e0, e2, hφ ob e3⟩
      · cases hc
      · cases hc
      · cases hc
    | _ => simp [matO] at h
  | ro s' n' row' =>
    cases so' with
    | ro s n row =>
      simp only [matO] at h
      split at h
      · rename_i hs
        obtain rfl := Nat.eq_of_beq_eq_true hs
        simp only [Option.some.injEq, Prod.mk.injEq] at h; obtain ⟨rfl, rfl⟩ := h
        have p1 : n' ≤ n := hp _ (by simp)
        have p4 : ∀ j, j < n' → row j = row' j ∧ (row' j).all isG = true := hp _ (by simp)
        refine ⟨fun j hj => (denL_ground (ρ' := ρ) (p4 j hj).2).2 _, fun w i j hb ho hat => ?_, Ren.le_refl _, rfl⟩
        rcases hat.ro with ⟨b, arr, T, fr, e1, e2, q4⟩ | ⟨e1, rfl⟩
        · refine Or.inr (Or.inr ⟨s, n', row', b, arr, T, fr, rfl, by rw [hb]; exact e1, e2, ?_⟩)
          rw [ho]
          exact rowsEq p4 (X := fun k q => arr[ρ.o j + (k * s + q)]?) (fun k hk => q4 k (by omega))
        · obtain rfl : n' = 0 := by omega
          exact Or.inr (Or.inl ⟨by rw [hb]; exact e1, Or.inr ⟨_, _, rfl⟩⟩)
      · cases h
    | _ => simp [matO] at h
  | view s' n' c' row' T' =>
    refine view s' n' c' row' T' rfl ?_
    cases so' <;> first | exact h | (simp only [matO] at h; exact h)

theorem matF_le : ∀ {F t : Env} {σ σ' : Ren} {p : List Prop}, matF F σ t = some (σ', p) → σ.le σ'
  | F, [], σ, σ', p, h => by simp only [matF, Option.some.injEq, Prod.mk.injEq] at h; obtain ⟨rfl, _⟩ := h; exact Ren.le_refl _
  | F, (k, v) :: r, σ, σ', p, h => by
    simp only [matF] at h
    split at h
    · split at h
      · rename_i h1
        split at h
        · rename_i h2
          simp only [Option.some.injEq, Prod.mk.injEq] at h; obtain ⟨rfl, _⟩ := h
          exact Ren.le_trans (matV_le h1) (matF_le h2)
        · cases h
      · cases h
    · cases h

theorem matF_sound {F : Env} {σs : Ren} (hF : ∀ k v, look k F = some v → v.In A ρ ∨ ∃ t x, v = .opt t x) : ∀ {t : Env} {σ σ' : Ren} {p : List Prop}, matF F σ t = some (σ', p) → (∀ q ∈ p, q) → σ'.le σs →
    ∀ k v, look k t = some v → ∃ v', look k F = some v' ∧ v.den (renVal ρ σs) = v'.den ρ ∧ v.In (renNames σs B) (renVal ρ σs)
  | [], σ, σ', p, h, hp, hle, k, v, hk => by simp [look] at hk
  | (k0, v0) :: r, σ, σ', p, h, hp, hle, k, v, hk => by
    simp only [matF] at h
    split at h
    · rename_i v' hv'
      split at h
      · rename_i σ1 p1 h1
        split at h
        · rename_i σ2 p2 h2
          simp only [Option.some.injEq, Prod.mk.injEq] at h; obtain ⟨rfl, rfl⟩ := h
          rw [look_cons] at hk
          split at hk
          · rename_i e; subst e
            obtain rfl := Option.some.inj hk
            have hin : v'.In A ρ := by
              rcases hF _ _ hv' with hx | ⟨t, x, rfl⟩
              · exact hx
              · cases v0 <;> simp [matV] at h1
            obtain ⟨q1, q2⟩ := matV_sound (B := B) h1 (fun q hq => hp q (List.mem_append_left _ hq)) hin (Ren.le_trans (matF_le h2) hle)
            exact ⟨v', hv', q1, q2⟩
          · exact matF_sound hF h2 (fun q hq => hp q (List.mem_append_right _ hq)) hle k v hk
        · cases h
      · cases h
    · cases h

theorem matH_le : ∀ {H t : Heap} {σ σ' : Ren} {p : List Prop}, matH H σ t = some (σ', p) → σ.le σ'
  | H, [], σ, σ', p, h => by simp only [matH, Option.some.injEq, Prod.mk.injEq] at h; obtain ⟨rfl, _⟩ := h; exact Ren.le_refl _
  | H, (i, o) :: r, σ, σ', p, h => by
    simp only [matH] at h
    split at h
    · split at h
      · split at h
        · rename_i σ1 p1 h1
          split at h
          · rename_i h2
            simp only [Option.some.injEq, Prod.mk.injEq] at h; obtain ⟨rfl, _⟩ := h
            refine Ren.le_trans ?_ (matH_le h2)
            clear h2
            have : ∀ {σ σ' : Ren} {so so' : SO} {p : List Prop}, matO σ so' so = some (σ', p) → σ.le σ' := by
              intro σ σ' so so' p h
              unfold matO at h
              split at h
              · split at h
                · split at h
                  · simp only [Option.some.injEq, Prod.mk.injEq] at h; obtain ⟨rfl, _⟩ := h; exact Ren.le_refl _
                  · exact matL_le h
                · cases h
              · simp only [Option.some.injEq, Prod.mk.injEq] at h; obtain ⟨rfl, _⟩ := h; exact Ren.le_refl _
              · simp only [Option.some.injEq, Prod.mk.injEq] at h; obtain ⟨rfl, _⟩ := h; exact Ren.le_refl _
              · split at h
                · simp only [Option.some.injEq, Prod.mk.injEq] at h; obtain ⟨rfl, _⟩ := h; exact Ren.le_refl _
                · cases h
              · split at h
                · split at h
                  · simp only [Option.some.injEq, Prod.mk.injEq] at h; obtain ⟨rfl, _⟩ := h; exact Ren.le_refl _
                  · cases h
                · cases h
              · cases h
            exact this h1
          · cases h
        · cases h
      · cases h
    · split at h
      · split at h
        · rename_i h2
          simp only [Option.some.injEq, Prod.mk.injEq] at h; obtain ⟨rfl, _⟩ := h
          exact matH_le h2
        · cases h
      · cases h
    · cases h

theorem matH_sound {w : World} {H : Heap} {σs : Ren} (hH : HOK A ρ H w) : ∀ {t : Heap} {σ σ' : Ren} {p : List Prop}, matH H σ t = some (σ', p) → (∀ q ∈ p, q) → σ'.le σs →
    ∀ i o, look i t = some o → o.In (renNames σs B) (renVal ρ σs) ∧ At (renVal ρ σs) w i o ∧ (look i σs).isSome = true ∧ ∀ b, (renVal ρ σs).b i = some b → ∃ j so, look i σs = some (some j) ∧ look j H = some so ∧ so.isRo = o.isRo ∧ ρ.b j = some b
  | [], σ, σ', p, h, hp, hle, i, o, hk => by simp [look] at hk
  | (i0, o0) :: r, σ, σ', p, h, hp, hle, i, o, hk => by
    simp only [matH] at h
    split at h
    · rename_i j hj
      split at h
      · rename_i o' ho'
        split at h
        · rename_i σ1 p1 h1
          split at h
          · rename_i σ2 p2 h2
            simp only [Option.some.injEq, Prod.mk.injEq] at h; obtain ⟨rfl, rfl⟩ := h
            rw [look_cons] at hk
            split at hk
            · rename_i e; subst e
              obtain rfl := Option.some.inj hk
              obtain ⟨g1, g2, g3⟩ := hH.here j o' ho'
              have hle1 : σ1.le σs := Ren.le_trans (matH_le h2) hle
              obtain ⟨q1, q2, q3, q4⟩ := matO_sound (B := B) h1 (fun q hq => hp q (List.mem_append_left _ hq)) g2 hle1
              have hjs : look i σs = some (some j) := hle1 _ _ (q3 _ _ hj)
              have hb : (renVal ρ σs).b i = ρ.b j := by simp [renVal, hjs]
              have ho : (renVal ρ σs).o i = ρ.o j := by simp [renVal, hjs]
              exact ⟨q1, q2 w i j hb ho g3, by rw [hjs]; rfl, fun b hbb => ⟨j, o', hjs, ho', q4, by rw [← hb]; exact hbb⟩⟩
            · exact matH_sound hH h2 (fun q hq => hp q (List.mem_append_right _ hq)) hle i o hk
          · cases h
        · cases h
      · cases h
    · rename_i hj
      split at h
      · rename_i s n c row T
        split at h
        · rename_i σ2 p2 h2
          simp only [Option.some.injEq, Prod.mk.injEq] at h; obtain ⟨rfl, rfl⟩ := h
          rw [look_cons] at hk
          split at hk
          · rename_i e; subst e
            obtain rfl := Option.some.inj hk
            obtain rfl : n = 0 := hp (n = 0) (by simp)
            have hjs : look i σs = some none := hle _ _ (matH_le h2 _ _ hj)
            have hb : (renVal ρ σs).b i = none := by simp [renVal, hjs]
            exact ⟨fun j hj => absurd hj (Nat.not_lt_zero j), Or.inr (Or.inl ⟨hb, Or.inl ⟨_, _, _, _, rfl⟩⟩), by rw [hjs]; rfl, fun b hbb => by rw [hb] at hbb; cases hbb⟩
          · exact matH_sound hH h2 (fun q hq => hp q (List.mem_cons_of_mem _ hq)) hle i o hk
        · cases h
      · cases h
    · cases h

end
end Go.Eng
