/- The engine, part Z: the contract of a function that is handed memory, or hands it out. -/
import Derived.Test.YtghbejmnnfoamaaEngV
set_option linter.unusedVariables false
set_option linter.unusedSimpArgs false
namespace Go.Eng
open Go

/-- One way in which a function ends: what it answers and the memory that it was handed, behind it. 'one': under a condition; 'any': for some y. -/
inductive Out : Type 1 where
  | one (c : Prop) (r : SV) (H : Heap)
  | any (β : Type) (c : β → Prop) (r : β → SV) (H : β → Heap)

/-- A contract: names below e are handed in, names from e on are new. -/
structure Ctr where
  e : Nat
  α : Type
  args : α → List SV
  H : α → Heap
  pre : α → Prop
  outs : α → List Out

/-! ### the callee's end -/
def outM (e : Nat) (r : SV) (H : Heap) (r' : SV) (H' : Heap) : Prop := match matV (idRen e) r r' with
  | some (σ, p) => match matH H σ H' with
    | some (σ', q) => match injOn H' σ', bndRen (e + 8) σ' with
      | true, true => allX p (allX q True)
      | _, _ => False
    | none => False
  | none => False
def endX (e : Nat) : List Out → SV → Heap → Prop
  | [], _, _ => False
  | .one c r' H' :: l, r, H => (c ∧ outM e r H r' H') ∨ endX e l r H
  | .any _ c r' H' :: l, r, H => (∃ y, c y ∧ outM e r H (r' y) (H' y)) ∨ endX e l r H

/-! ### the caller's end -/
mutual
def rnV (σ : Ren) : SV → Option SV
  | .g v => some (.g v)
  | .ptr id i s off => match look id σ with
    | some (some j) => some (.ptr j i s off)
    | _ => none
  | .sl id i s len cap => match look id σ with
    | some (some j) => some (.sl j i s len cap)
    | some none => some (.g (.slice none 0 0))
    | none => none
  | .agg cs => match rnL σ cs with
    | some l => some (.agg l)
    | none => none
  | .tup cs => match rnL σ cs with
    | some l => some (.tup l)
    | none => none
  | .fn f cs => match rnL σ cs with
    | some l => some (.fn f l)
    | none => none
  | .opt _ _ => none
def rnL (σ : Ren) : List SV → Option (List SV)
  | [] => some []
  | x :: xs => match rnV σ x, rnL σ xs with
    | some y, some ys => some (y :: ys)
    | _, _ => none
end
def rnO (σ : Ren) : SO → Option SO
  | .cells cs T => match rnL σ cs with
    | some l => some (.cells l T)
    | none => none
  | o => some o
/-- Memory in the caller's names; what is only read stays with the caller. -/
def rnH (σ : Ren) : Heap → Option Heap
  | [] => some []
  | (i, o) :: r => match o.isRo with
    | true => rnH σ r
    | false => match look i σ, rnO σ o, rnH σ r with
      | some (some j), some o', some r' => some ((j, o') :: r')
      | some none, _, some r' => some r'
      | _, _, _ => none
/-- The caller's name j is one whose memory was handed over (HC: what the callee asks for). -/
def hits (HC : Heap) (j : Nat) : Ren → Bool
  | [] => false
  | (i, some k) :: r => match Nat.beq j k, (look i HC).isSome with
    | true, true => true
    | _, _ => hits HC j r
  | (_, none) :: r => hits HC j r
def roAt (H : Heap) (j : Nat) : Bool := match look j H with
  | some so => so.isRo
  | none => false
def dropH (HC : Heap) (σ : Ren) (H0 : Heap) : Heap → Heap
  | [] => []
  | (j, o) :: r => match hits HC j σ, roAt H0 j with
    | true, false => dropH HC σ H0 r
    | _, _ => (j, o) :: dropH HC σ H0 r
def ndKeys {α : Type} : List (Nat × α) → Bool
  | [] => true
  | (i, _) :: r => (look i r).isNone && ndKeys r
def newRen (e nid : Nat) : Ren := [(e, some nid), (e + 1, some (nid + 1)), (e + 2, some (nid + 2)), (e + 3, some (nid + 3)), (e + 4, some (nid + 4)), (e + 5, some (nid + 5)), (e + 6, some (nid + 6)), (e + 7, some (nid + 7))]
def fullRen (σ : Ren) : Nat → Bool
  | 0 => true
  | n + 1 => (look n σ).isSome && fullRen σ n
def rngRen (nid : Nat) (σ : Ren) : Bool := σ.all fun p => match p.2 with
  | some j => Nat.blt j nid
  | none => true
def contX (HC : Heap) (σ : Ren) (e nid : Nat) (H : Heap) (K : SV → Heap → Prop) (r : SV) (H' : Heap) : Prop := match rnV (newRen e nid ++ σ) r, rnH (newRen e nid ++ σ) H', ndKeys H' with
  | some r', some Hn, true => K r' (Hn ++ dropH HC σ H H)
  | _, _, _ => False
def andX (k : SV → Heap → Prop) : List Out → Prop
  | [] => True
  | [.one c r H] => c → k r H
  | [.any _ c r H] => ∀ y, c y → k (r y) (H y)
  | .one c r H :: l => (c → k r H) ∧ andX k l
  | .any _ c r H :: l => (∀ y, c y → k (r y) (H y)) ∧ andX k l

def callX (C : Ctr) (get : List SV → Heap → Option C.α) (args : List SV) (H : Heap) (nid : Nat) (K : SV → Heap → Prop) : Prop := match get args H with
  | none => False
  | some x => match matL [] args (C.args x) with
    | some (σ, p) => match matH H σ (C.H x) with
      | some (σ', q) => match injOn (C.H x) σ', bndRen C.e σ', fullRen σ' C.e, rngRen nid σ' with
        | true, true, true, true => allX p (allX q (C.pre x ∧ andX (contX (C.H x) σ' C.e nid H K) (C.outs x)))
        | _, _, _, _ => False
      | none => False
    | none => False

/-! ### soundness -/
theorem look_append {α : Type} (k : Nat) : ∀ (l l' : List (Nat × α)), look k (l ++ l') = (look k l).or (look k l')
  | [], _ => rfl
  | (k', v) :: r, l' => by
    rw [List.cons_append, look_cons, look_cons]
    by_cases h : k = k'
    · rw [if_pos h, if_pos h]; rfl
    · rw [if_neg h, if_neg h]; exact look_append k r l'

theorem look_dropH {HC : Heap} {σ : Ren} {H0 : Heap} {k : Nat} {so : SO} : ∀ {H : Heap}, look k (dropH HC σ H0 H) = some so → look k H = some so ∧ (hits HC k σ = false ∨ roAt H0 k = true)
  | [], h => by simp [dropH, look] at h
  | (j, o) :: r, h => by
    simp only [dropH] at h
    rw [look_cons]
    split at h
    · rename_i h1 h2
      obtain ⟨g1, g2⟩ := look_dropH h
      split
      · rename_i e; subst e
        rw [h1, h2] at g2
        rcases g2 with g | g <;> cases g
      · exact ⟨g1, g2⟩
    · rename_i hne
      rw [look_cons] at h
      split at h
      · rename_i e; subst e
        rw [if_pos rfl]
        refine ⟨h, ?_⟩
        cases hh : hits HC k σ with
        | false => exact Or.inl rfl
        | true => cases hr : roAt H0 k with
          | true => exact Or.inr rfl
          | false => exact (hne hh hr).elim
      · rename_i e
        rw [if_neg e]
        exact look_dropH h

theorem hits_of {HC : Heap} {σ : Ren} {i j : Nat} (hk : (look i HC).isSome = true) (h : look i σ = some (some j)) : hits HC j σ = true := by
  induction σ with
  | nil => simp [look] at h
  | cons x r ih =>
    obtain ⟨i', y⟩ := x
    rw [look_cons] at h
    split at h
    · rename_i e; subst e
      obtain rfl := Option.some.inj h
      simp [hits, hk]
    · cases y with
      | none => exact ih h
      | some k =>
        simp only [hits]
        split
        · rfl
        · exact ih h

section
variable {ρ2 ρF : Val} {σ : Ren} {A2 A : Names}

/-- The reading ρF of the caller's names is ρ2 through σ. -/
def RenOK (σ : Ren) (ρ2 ρF : Val) (A : Names) : Prop := ∀ i x, look i σ = some x → match x with
  | some j => A.b j ∧ ρF.b j = ρ2.b i ∧ ρF.o j = ρ2.o i
  | none => ρ2.b i = none

mutual
theorem rnV_sound (hR : RenOK σ ρ2 ρF A) : ∀ {v v' : SV}, rnV σ v = some v' → v.In A2 ρ2 → v'.den ρF = v.den ρ2 ∧ v'.In A ρF
  | .g v, v', h, _ => by simp only [rnV, Option.some.injEq] at h; subst h; exact ⟨rfl, trivial⟩
  | .ptr id i s off, v', h, _ => by
    simp only [rnV] at h
    split at h
    · rename_i j hj
      simp only [Option.some.injEq] at h; subst h
      obtain ⟨h1, h2, h3⟩ := hR id _ hj
      exact ⟨by simp only [SV.den, h2, h3], h1⟩
    · cases h
  | .sl id i s len cap, v', h, hi => by
    simp only [rnV] at h
    split at h
    · rename_i j hj
      simp only [Option.some.injEq] at h; subst h
      obtain ⟨h1, h2, h3⟩ := hR id _ hj
      exact ⟨by simp only [SV.den, h2, h3], h1, fun hn => hi.2.1 (by rw [← h2]; exact hn), hi.2.2⟩
    · rename_i hj
      simp only [Option.some.injEq] at h; subst h
      have hn : ρ2.b id = none := hR id _ hj
      obtain ⟨rfl, rfl⟩ := hi.2.1 hn
      exact ⟨by simp only [SV.den, hn], trivial⟩
    · cases h
  | .agg cs, v', h, hi => by
    simp only [rnV] at h
    split at h
    · rename_i l hl
      simp only [Option.some.injEq] at h; subst h
      obtain ⟨h1, h2⟩ := rnL_sound hR hl hi
      exact ⟨by simp only [SV.den, h1], h2⟩
    · cases h
  | .tup cs, v', h, hi => by
    simp only [rnV] at h
    split at h
    · rename_i l hl
      simp only [Option.some.injEq] at h; subst h
      obtain ⟨h1, h2⟩ := rnL_sound hR hl hi
      exact ⟨by simp only [SV.den, h1], h2⟩
    · cases h
  | .fn f cs, v', h, hi => by
    simp only [rnV] at h
    split at h
    · rename_i l hl
      simp only [Option.some.injEq] at h; subst h
      obtain ⟨h1, h2⟩ := rnL_sound hR hl hi
      exact ⟨by simp only [SV.den, h1], h2⟩
    · cases h
  | .opt t x, v', h, hi => hi.elim
theorem rnL_sound (hR : RenOK σ ρ2 ρF A) : ∀ {l l' : List SV}, rnL σ l = some l' → SV.InL A2 ρ2 l → SV.denL ρF l' = SV.denL ρ2 l ∧ SV.InL A ρF l'
  | [], l', h, _ => by simp only [rnL, Option.some.injEq] at h; subst h; exact ⟨rfl, trivial⟩
  | x :: xs, l', h, hi => by
    simp only [rnL] at h
    split at h
    · rename_i y ys hy hys
      simp only [Option.some.injEq] at h; subst h
      obtain ⟨h1, h2⟩ := rnV_sound hR hy hi.1
      obtain ⟨h3, h4⟩ := rnL_sound hR hys hi.2
      exact ⟨by simp only [SV.denL, h1, h3], h2, h4⟩
    · cases h
end

def SO.gndRows : SO → Prop
  | .view _ n _ row _ => ∀ j, j < n → (row j).all isG = true
  | _ => True

theorem rnO_sound (hR : RenOK σ ρ2 ρF A) {o o' : SO} (h : rnO σ o = some o') (hi : o.In A2 ρ2) (hro : o.isRo = false) (hg : o.gndRows) :
    o'.isRo = false ∧ o'.In A ρF ∧ ∀ (w : World) (i j : Nat), ρF.b j = ρ2.b i → ρF.o j = ρ2.o i → At ρ2 w i o → At ρF w j o' := by
  cases o with
  | cells cs T =>
    simp only [rnO] at h
    split at h
    · rename_i l hl
      simp only [Option.some.injEq] at h; subst h
      obtain ⟨h1, h2⟩ := rnL_sound hR hl hi
      refine ⟨rfl, h2, fun w i j hb ho hat => ?_⟩
      obtain ⟨b, e1, e0, e2⟩ := hat.cells
      exact Or.inl ⟨b, _, by rw [hb]; exact e1, by rw [ho]; exact e0, e2, by simp only [SO.sat]; rw [h1]⟩
    · cases h
  | view s n c row T =>
    simp only [rnO, Option.some.injEq] at h; subst h
    refine ⟨rfl, fun j hj => (denL_ground (ρ' := ρF) (hg j hj)).2 _, fun w i j hb ho hat => ?_⟩
    rcases hat.view with ⟨b, arr, fr, e1, e0, e2, q1, q2, q4⟩ | ⟨e1, rfl⟩
    · refine Or.inl ⟨b, _, by rw [hb]; exact e1, by rw [ho]; exact e0, e2, arr, fr, rfl, q1, q2, fun k hk => ⟨(q4 k hk).1, fun q hq => ?_⟩⟩
      rw [(q4 k hk).2 q hq, ← denL_get, ← denL_get, (denL_ground (ρ := ρ2) (ρ' := ρF) (hg k hk)).1]
    · exact Or.inr (Or.inl ⟨by rw [hb]; exact e1, Or.inl ⟨_, _, _, _, rfl⟩⟩)
  | iter s pos =>
    simp only [rnO, Option.some.injEq] at h; subst h
    refine ⟨rfl, trivial, fun w i j hb ho hat => ?_⟩
    obtain ⟨b, e1, e0, e2⟩ := hat.iter
    exact Or.inl ⟨b, _, by rw [hb]; exact e1, by rw [ho]; exact e0, e2, rfl⟩
  | raw φ =>
    simp only [rnO, Option.some.injEq] at h; subst h
    refine ⟨rfl, trivial, fun w i j hb ho hat => ?_⟩
    rcases hat with ⟨b, ob, e1, e0, e2, e3⟩ | ⟨_, ⟨_, _, _, _, hc⟩ | ⟨_, _, hc⟩⟩ | ⟨_, _, _, _, _, _, _, hc, _⟩
    · exact Or.inl ⟨b, ob, by rw [hb]; exact e1, by rw [ho]; exact e0, e2, e3⟩
    · cases hc
    · cases hc
    · cases hc
  | ro s n row => simp [SO.isRo] at hro

theorem rnH_look {σ : Ren} : ∀ {H Hn : Heap} {j : Nat} {o' : SO}, rnH σ H = some Hn → look j Hn = some o' → ∃ i o, look i σ = some (some j) ∧ (i, o) ∈ H ∧ o.isRo = false ∧ rnO σ o = some o'
  | [], Hn, j, o', h, hl => by simp only [rnH, Option.some.injEq] at h; subst h; simp [look] at hl
  | (i0, o0) :: r, Hn, j, o', h, hl => by
    have up : (∃ i o, look i σ = some (some j) ∧ (i, o) ∈ r ∧ o.isRo = false ∧ rnO σ o = some o') → ∃ i o, look i σ = some (some j) ∧ (i, o) ∈ (i0, o0) :: r ∧ o.isRo = false ∧ rnO σ o = some o' := by
      rintro ⟨i, o, h1, h2, h3⟩; exact ⟨i, o, h1, List.mem_cons_of_mem _ h2, h3⟩
    simp only [rnH] at h
    split at h
    · exact up (rnH_look h hl)
    · rename_i hro
      split at h
      · rename_i j0 o1 r1 h1 h2 h3
        simp only [Option.some.injEq] at h; subst h
        rw [look_cons] at hl
        split at hl
        · rename_i e; subst e
          obtain rfl := Option.some.inj hl
          exact ⟨i0, o0, h1, List.mem_cons_self, hro, h2⟩
        · exact up (rnH_look h3 hl)
      · rename_i r1 h1 h3
        simp only [Option.some.injEq] at h; subst h
        exact up (rnH_look h3 hl)
      · cases h

theorem look_nodup {α : Type} {i : Nat} {o : α} : ∀ {H : List (Nat × α)}, ndKeys H = true → (i, o) ∈ H → look i H = some o
  | [], _, h => by cases h
  | (j, o1) :: r, hn, h => by
    simp only [ndKeys, Bool.and_eq_true] at hn
    rw [look_cons]
    rcases List.mem_cons.1 h with e | e
    · obtain ⟨rfl, rfl⟩ := Prod.mk.inj e; rw [if_pos rfl]
    · rw [if_neg]
      · exact look_nodup hn.2 e
      · intro e'; subst e'
        have := look_nodup hn.2 e
        rw [this] at hn; simp at hn
end

theorem matO_gnd {σ σ' : Ren} {so so' : SO} {p : List Prop} (h : matO σ so' so = some (σ', p)) (hp : ∀ q ∈ p, q) : so.gndRows := by
  cases so with
  | view s' n' c' row' T' =>
    have key : (match rowsOf s' so' with
      | some (n, c, row, T) => match Nat.beq T T' with
        | true => some (σ, [n' ≤ n, n' ≤ c', c' ≤ c, ∀ j, j < n' → row j = row' j ∧ (row' j).all isG = true])
        | false => none
      | none => none) = some (σ', p) := by
      cases so' <;> first | exact h | (simp only [matO] at h; exact h)
    split at key
    · split at key
      · simp only [Option.some.injEq, Prod.mk.injEq] at key; obtain ⟨rfl, rfl⟩ := key
        intro j hj
        have h4 := hp _ (List.mem_cons_of_mem _ (List.mem_cons_of_mem _ (List.mem_cons_of_mem _ List.mem_cons_self)))
        exact (h4 j hj).2
      · cases key
    · cases key
  | _ => trivial

theorem matH_gnd {H : Heap} : ∀ {t : Heap} {σ σ' : Ren} {p : List Prop}, matH H σ t = some (σ', p) → (∀ q ∈ p, q) → ∀ i o, (i, o) ∈ t → o.gndRows
  | [], σ, σ', p, h, hp, i, o, hk => by cases hk
  | (i0, o0) :: r, σ, σ', p, h, hp, i, o, hk => by
    simp only [matH] at h
    split at h
    · split at h
      · split at h
        · rename_i σ1 p1 h1
          split at h
          · rename_i σ2 p2 h2
            simp only [Option.some.injEq, Prod.mk.injEq] at h; obtain ⟨rfl, rfl⟩ := h
            rcases List.mem_cons.1 hk with e | e
            · obtain ⟨rfl, rfl⟩ := Prod.mk.inj e
              exact matO_gnd h1 fun q hq => hp q (List.mem_append_left _ hq)
            · exact matH_gnd h2 (fun q hq => hp q (List.mem_append_right _ hq)) i o e
          · cases h
        · cases h
      · cases h
    · split at h
      · rename_i s n c row T
        split at h
        · rename_i σ2 p2 h2
          simp only [Option.some.injEq, Prod.mk.injEq] at h; obtain ⟨rfl, rfl⟩ := h
          rcases List.mem_cons.1 hk with e | e
          · obtain ⟨rfl, rfl⟩ := Prod.mk.inj e
            obtain rfl : n = 0 := hp (n = 0) (by simp)
            exact fun j hj => absurd hj (Nat.not_lt_zero j)
          · exact matH_gnd h2 (fun q hq => hp q (List.mem_cons_of_mem _ hq)) i o e
        · cases h
      · cases h
    · cases h

theorem look_newRen {e nid i : Nat} {x : Option Nat} (h : look i (newRen e nid) = some x) : e ≤ i ∧ i < e + 8 ∧ x = some (nid + (i - e)) := by
  simp only [newRen] at h
  have step : ∀ (k : Nat) (r : Ren), k < 8 → look i ((e + k, some (nid + k)) :: r) = some x → (e ≤ i ∧ i < e + 8 ∧ x = some (nid + (i - e))) ∨ look i r = some x := by
    clear h
    intro k r hk h
    rw [look_cons] at h
    split at h
    · rename_i he; subst he
      left; exact ⟨Nat.le_add_right _ _, by omega, by rw [Nat.add_sub_cancel_left]; exact (Option.some.inj h).symm⟩
    · exact Or.inr h
  rcases step 0 _ (by decide) h with h | h
  · exact h
  rcases step 1 _ (by decide) h with h | h
  · exact h
  rcases step 2 _ (by decide) h with h | h
  · exact h
  rcases step 3 _ (by decide) h with h | h
  · exact h
  rcases step 4 _ (by decide) h with h | h
  · exact h
  rcases step 5 _ (by decide) h with h | h
  · exact h
  rcases step 6 _ (by decide) h with h | h
  · exact h
  rcases step 7 _ (by decide) h with h | h
  · exact h
  · simp [look] at h

theorem fullRen_look {σ : Ren} : ∀ {e : Nat}, fullRen σ e = true → ∀ i, i < e → (look i σ).isSome = true
  | 0, _, i, hi => absurd hi (Nat.not_lt_zero i)
  | e + 1, h, i, hi => by
    simp only [fullRen, Bool.and_eq_true] at h
    rcases Nat.lt_succ_iff_lt_or_eq.1 hi with h1 | rfl
    · exact fullRen_look h.2 i h1
    · exact h.1

theorem endX_split {e : Nat} {k : SV → Heap → Prop} {r : SV} {H : Heap} : ∀ {l : List Out}, endX e l r H → andX k l → ∃ r' H', outM e r H r' H' ∧ k r' H'
  | [], h, _ => h.elim
  | .one c r' H' :: l, h, hk => by
    have hk' : (c → k r' H') ∧ andX k l := by
      cases l with
      | nil => exact ⟨hk, trivial⟩
      | cons => exact hk
    rcases h with ⟨h1, h2⟩ | h
    · exact ⟨r', H', h2, hk'.1 h1⟩
    · exact endX_split h hk'.2
  | .any _ c r' H' :: l, h, hk => by
    have hk' : (∀ y, c y → k (r' y) (H' y)) ∧ andX k l := by
      cases l with
      | nil => exact ⟨hk, trivial⟩
      | cons => exact hk
    rcases h with ⟨y, h1, h2⟩ | h
    · exact ⟨_, _, h2, hk'.1 y h1⟩
    · exact endX_split h hk'.2

section
variable {P : Program}
/-- A CONTRACT HOLDS, if the walk of the body says so. -/
theorem gen_of {Λ : Lay} {ty : Ty} {Γ : Nat → Option Rule} (hm : P.follows .mixedOrders = true) (hty : TyOK P ty) (hΓ : ΓOK P Λ Γ) {f : Nat} {fn : Func} (hok : fnOK P f) (hf : P.funcs[f]? = some fn) {c : Code} (hb : fn.body = some c)
    (C : Ctr) (get : List SV → Heap → Option C.α) {n : Nat} (hn : fn.ntmps = n) (hlen : ∀ x, (C.args x).length ≤ n) (cut : C.α → Nat → List Ann) (loop : C.α → Nat → SS → List Ann)
    (hK : ∀ x, C.pre x → Held (fnX ⟨ty, Γ, cut x, loop x, n, C.e⟩ c fn.results.toList (C.args x) (C.H x) (endX C.e (C.outs x)))) : GenSound P Λ f (callX C get) := by
  refine ⟨hok, fun args H nid K B ρ w hi hH hlay hapart hwt => ?_⟩
  unfold callX at hwt
  split at hwt
  · exact hwt.elim
  rename_i x hx
  split at hwt
  rotate_left
  · exact hwt.elim
  rename_i σ p hσ
  split at hwt
  rotate_left
  · exact hwt.elim
  rename_i σ' q hσ'
  split at hwt
  rotate_left
  · exact hwt.elim
  rename_i g1 g2 g3 g4
  obtain ⟨hp, hwt⟩ := (allX_iff _ _).1 hwt
  obtain ⟨hq, hpre, hand⟩ := (allX_iff _ _).1 hwt
  have hle := matH_le hσ'
  obtain ⟨a1, a2⟩ := matL_sound (B := fun _ => False) (σs := σ') hσ hp hi hle
  have S2 := matH_sound (B := fun _ => False) (σs := σ') hH hσ' hq (Ren.le_refl _)
  have bnd : ∀ i, (look i σ').isSome = true → i < C.e := by
    intro i hi
    obtain ⟨x, hx⟩ := Option.isSome_iff_exists.1 hi
    have := List.all_eq_true.1 g2 _ (look_mem hx)
    simpa using this
  have rng : ∀ i j, look i σ' = some (some j) → j < nid := by
    intro i j hx
    have := List.all_eq_true.1 g4 _ (look_mem hx)
    simpa using this
  have full := fullRen_look g3
  have conv : ∀ o : SO, o.In (renNames σ' fun _ => False) (renVal ρ σ') → o.In (entNames C.e) (renVal ρ σ') := fun o ho =>
    SO.In_agree (A := renNames σ' fun _ => False) (B := entNames C.e) (Val.agree_refl _ _) (fun i hi => bnd i hi) (fun x hx => hx) ho
  have hH0 : HOK (entNames C.e) (renVal ρ σ') (C.H x) w := by
    refine ⟨fun i o hi => ?_, fun i j oi oj b hoi hoj b1 b2 => ?_⟩
    · obtain ⟨g1, g2, g3, _⟩ := S2 i o hi
      exact ⟨bnd i g3, conv o g1, g2⟩
    · obtain ⟨_, _, _, k1⟩ := S2 i oi hoi
      obtain ⟨_, _, _, k2⟩ := S2 j oj hoj
      obtain ⟨ji, si, r1, r2, r2', r3⟩ := k1 b b1
      obtain ⟨jj, sj, r4, r5, r5', r6⟩ := k2 b b2
      rcases hH.inj ji jj si sj b r2 r5 r3 r6 with e | ⟨e1, e2⟩
      · subst e; exact Or.inl (injOn_sound g1 hoi hoj r1 r4)
      · exact Or.inr ⟨by rw [← r2']; exact e1, by rw [← r5']; exact e2⟩
  -- a block of the callee's memory at a name that stays with the caller is only read
  have clash : ∀ b, Blks (renVal ρ σ') (C.H x) b → Blks ρ H b ∧ ∀ k so, look k H = some so → ρ.b k = some b → hits (C.H x) k σ' = false ∨ roAt H k = true → False := by
    rintro b ⟨i, o, ho, hro, hb⟩
    obtain ⟨_, _, _, k1⟩ := S2 i o ho
    obtain ⟨ji, si, r1, r2, r2', r3⟩ := k1 b hb
    refine ⟨⟨ji, si, r2, by rw [r2']; exact hro, r3⟩, fun k so hk hkb hh => ?_⟩
    rcases hH.inj ji k si so b r2 hk r3 hkb with e | ⟨e1, _⟩
    · subst e
      rcases hh with hh | hh
      · rw [hits_of (by rw [ho]; rfl) r1] at hh; cases hh
      · simp only [roAt, r2] at hh; rw [r2', hro] at hh; cases hh
    · rw [r2', hro] at e1; cases e1
  rw [← a1]
  have a2' : SV.InL (entNames C.e) (renVal ρ σ') (C.args x) := SV.InL_agree (A := renNames σ' fun _ => False) (B := entNames C.e) (Val.agree_refl _ _) (fun i hi => bnd i hi) (fun x hx => hx) _ a2
  refine (fnX_sound (cx := ⟨ty, Γ, cut x, loop x, n, C.e⟩) hm hty hΓ hf hb hn (hlen x) a2' hH0 hlay (fun b hb => hapart b (clash b hb).1) (hK x hpre).h).mono ?_
  rintro e w' ⟨A, ρ1, r, H1, rfl, hr, hag, hH1, hown, hfr, hend⟩
  obtain ⟨r'', H'', hM, hk⟩ := endX_split hend hand
  unfold outM at hM
  split at hM
  rotate_left
  · exact hM.elim
  rename_i τ p' hτ
  split at hM
  rotate_left
  · exact hM.elim
  rename_i τ' q' hτ'
  split at hM
  rotate_left
  · exact hM.elim
  rename_i i1 i2
  obtain ⟨hp', hM⟩ := (allX_iff _ _).1 hM
  obtain ⟨hq', _⟩ := (allX_iff _ _).1 hM
  obtain ⟨b1, b2⟩ := matV_sound (B := fun _ => False) (σs := τ') hτ hp' hr (matH_le hτ')
  have S3 := matH_sound (B := fun _ => False) (σs := τ') hH1 hτ' hq' (Ren.le_refl _)
  have G3 := matH_gnd hτ' hq'
  unfold contX at hk
  split at hk
  rotate_left
  · exact hk.elim
  rename_i r' Hn hr' hHn hnd
  have hid : ∀ i, i < C.e → look i τ' = some (some i) := fun i hi => matH_le hτ' _ _ (matV_le hτ _ _ (idRen_look hi))
  let ρ2 : Val := renVal ρ1 τ'
  let ρF : Val := ⟨fun k => if k < nid then ρ.b k else ρ2.b (C.e + (k - nid)), fun k => if k < nid then ρ.o k else ρ2.o (C.e + (k - nid)), ρ.t⟩
  let AF : Names := ⟨fun i => i < nid + 8, B⟩
  have hagF : ρ.agree ⟨fun i => i < nid, B⟩ ρF := ⟨fun i hi => by
    have hi' : i < nid := hi
    simp only [ρF, if_pos hi', and_self], fun t _ => rfl⟩
  have old : ∀ i, i < C.e → ρ2.b i = (renVal ρ σ').b i ∧ ρ2.o i = (renVal ρ σ').o i := by
    intro i hi
    have h1 : ρ2.b i = ρ1.b i := by simp only [ρ2, renVal, hid i hi]
    have h2 : ρ2.o i = ρ1.o i := by simp only [ρ2, renVal, hid i hi]
    rw [h1, h2]; exact hag.1 i hi
  have hR : RenOK (newRen C.e nid ++ σ') ρ2 ρF AF := by
    intro i x hx
    rw [look_append] at hx
    cases hN : look i (newRen C.e nid) with
    | some y =>
      rw [hN] at hx
      obtain rfl := Option.some.inj hx
      obtain ⟨n1, n2, rfl⟩ := look_newRen hN
      have hnl : ¬ nid + (i - C.e) < nid := by omega
      have he : C.e + (nid + (i - C.e) - nid) = i := by omega
      refine ⟨by show nid + (i - C.e) < nid + 8; omega, ?_, ?_⟩
      · simp only [ρF, if_neg hnl, he]
      · simp only [ρF, if_neg hnl, he]
    | none =>
      rw [hN, Option.none_or] at hx
      have hie : i < C.e := bnd i (by rw [hx]; rfl)
      obtain ⟨o1, o2⟩ := old i hie
      cases x with
      | none => show ρ2.b i = none; rw [o1]; simp only [renVal, hx]
      | some j =>
        have hj := rng i j hx
        refine ⟨by show j < nid + 8; omega, ?_, ?_⟩
        · rw [o1]; simp only [ρF, if_pos hj, renVal, hx]
        · rw [o2]; simp only [ρF, if_pos hj, renVal, hx]
  obtain ⟨c1, c2⟩ := rnV_sound hR hr' b2
  have hinj2 : ∀ i j oi oj b, look i H'' = some oi → look j H'' = some oj → ρ2.b i = some b → ρ2.b j = some b → i = j ∨ (oi.isRo = true ∧ oj.isRo = true) := by
    intro i j oi oj b hoi hoj b1 b2
    obtain ⟨_, _, _, k1⟩ := S3 i oi hoi
    obtain ⟨_, _, _, k2⟩ := S3 j oj hoj
    obtain ⟨ji, si, r1, r2, r2', r3⟩ := k1 b b1
    obtain ⟨jj, sj, r4, r5, r5', r6⟩ := k2 b b2
    rcases hH1.inj ji jj si sj b r2 r5 r3 r6 with e | ⟨e1, e2⟩
    · subst e; exact Or.inl (injOn_sound i1 hoi hoj r1 r4)
    · exact Or.inr ⟨by rw [← r2']; exact e1, by rw [← r5']; exact e2⟩
  -- what a name of the new memory comes from
  have new : ∀ j o', look j Hn = some o' → ∃ i o, look i (newRen C.e nid ++ σ') = some (some j) ∧ look i H'' = some o ∧ o.isRo = false ∧ o'.isRo = false ∧ o'.In AF ρF ∧ At ρF w' j o' ∧ j < nid + 8 ∧ ρF.b j = ρ2.b i := by
    intro j o' hj
    obtain ⟨i, o, q1, q2, q3, q4⟩ := rnH_look hHn hj
    have q5 := look_nodup hnd q2
    obtain ⟨s1, s2, _, _⟩ := S3 i o q5
    obtain ⟨t1, t2, t3⟩ := rnO_sound hR q4 s1 q3 (G3 i o q2)
    obtain ⟨u1, u2, u3⟩ := hR i _ q1
    exact ⟨i, o, q1, q5, q3, t1, t2, t3 w' i j u2 u3 s2, u1, u2⟩
  have newB : ∀ i o b, look i H'' = some o → o.isRo = false → ρ2.b i = some b → w.heap.size ≤ b ∨ Blks (renVal ρ σ') (C.H x) b := by
    intro i o b ho hro hb
    obtain ⟨_, _, _, k1⟩ := S3 i o ho
    obtain ⟨ji, si, _, r2, r2', r3⟩ := k1 b hb
    exact hown b ⟨ji, si, r2, by rw [r2']; exact hro, r3⟩
  have kept : ∀ k so, look k (Hn ++ dropH (C.H x) σ' H H) = some so → look k Hn = some so ∨ (look k Hn = none ∧ look k H = some so ∧ (hits (C.H x) k σ' = false ∨ roAt H k = true)) := by
    intro k so hk
    rw [look_append] at hk
    cases hN : look k Hn with
    | some y => rw [hN] at hk; exact Or.inl hk
    | none =>
      rw [hN, Option.none_or] at hk
      obtain ⟨d1, d2⟩ := look_dropH hk
      exact Or.inr ⟨rfl, d1, d2⟩
  have keptB : ∀ k so, look k H = some so → ρF.b k = ρ.b k := fun k so hk => (hagF.1 k (hH.here k so hk).1).1
  have cross : ∀ i k o so b, look i Hn = some o → look k H = some so → (hits (C.H x) k σ' = false ∨ roAt H k = true) → ρF.b i = some b → ρF.b k = some b → False := by
    intro i k o so b hi hk hh e1 e2
    obtain ⟨i', o', _, q2, q3, _, _, _, _, q8⟩ := new i o hi
    rw [q8] at e1
    rw [keptB k so hk] at e2
    rcases newB i' o' b q2 q3 e1 with h | h
    · exact absurd (hH.lt hk e2) (by omega)
    · exact (clash b h).2 k so hk e2 hh
  refine ⟨ρF, r', Hn ++ dropH (C.H x) σ' H H, by rw [c1, b1], ⟨hagF, SV.InO_of_In c2, ⟨fun k so hk => ?_, fun i j si sj b hi hj e1 e2 => ?_⟩, fun b hb => ?_, ?_⟩, hk⟩
  · rcases kept k so hk with h | ⟨_, h, hh⟩
    · obtain ⟨_, _, _, _, _, _, q5, q6, q7, _⟩ := new k so h
      exact ⟨q7, q5, q6⟩
    · obtain ⟨h1, h2, h3⟩ := hH.here k so h
      have h1' : k < nid := h1
      refine ⟨by show k < nid + 8; omega, SO.In_agree (B := AF) hagF (fun i (hi : i < nid) => (Nat.lt_of_lt_of_le hi (Nat.le_add_right _ _) : i < nid + 8)) (fun t ht => ht) h2, (h3.agree hagF h1 h2).world fun b o eb eo => ?_⟩
      · rw [hfr.block b (lt_of_block eo) fun hB => (clash b hB).2 k so h (by rw [← keptB k so h]; exact eb) hh]; exact eo
  · rcases kept i si hi with h | ⟨_, h, hh⟩
    · rcases kept j sj hj with h' | ⟨_, h', hh'⟩
      · obtain ⟨i', oi, q1, q2, q3, _, _, _, _, q8⟩ := new i si h
        obtain ⟨j', oj, t1, t2, t3, _, _, _, _, t8⟩ := new j sj h'
        rw [q8] at e1; rw [t8] at e2
        rcases hinj2 i' j' oi oj b q2 t2 e1 e2 with e | ⟨e, _⟩
        · subst e; rw [q1] at t1; exact Or.inl (Option.some.inj (Option.some.inj t1))
        · rw [q3] at e; cases e
      · exact (cross i j si sj b h h' hh' e1 e2).elim
    · rcases kept j sj hj with h' | ⟨_, h', hh'⟩
      · exact (cross j i sj si b h' h hh e2 e1).elim
      · rw [keptB i si h] at e1; rw [keptB j sj h'] at e2
        exact hH.inj i j si sj b h h' e1 e2
  · obtain ⟨k, so, hk, hro, hkb⟩ := hb
    rcases kept k so hk with h | ⟨_, h, hh⟩
    · obtain ⟨i', oi, _, q2, q3, _, _, _, _, q8⟩ := new k so h
      rw [q8] at hkb
      exact (newB i' oi b q2 q3 hkb).imp id fun h => (clash b h).1
    · rw [keptB k so h] at hkb
      exact Or.inr ⟨k, so, h, hro, hkb⟩
  · exact hfr.mono fun k _ hk => (clash k hk).1
end
end Go.Eng
