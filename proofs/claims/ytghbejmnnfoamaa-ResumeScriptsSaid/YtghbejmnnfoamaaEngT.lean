/- The engine, part T: code, and functions. -/
import Derived.Test.YtghbejmnnfoamaaEngS
import Derived.Test.YtghbejmnnfoamaaEngY
import Derived.Deep.LoopGhost
import Derived.LoopN
import Derived.Scope
set_option linter.unusedVariables false
set_option linter.unusedSimpArgs false
namespace Go.Eng
open Go

theorem idRen_look : ∀ {e i : Nat}, i < e → look i (idRen e) = some (some i)
  | 0, i, h => by omega
  | e + 1, i, h => by
    simp only [idRen]; rw [look_cons]
    split
    · rename_i he; subst he; rfl
    · exact idRen_look (by omega)

theorem look_mem {α : Type} {k : Nat} {v : α} : ∀ {l : List (Nat × α)}, look k l = some v → (k, v) ∈ l
  | [], h => by simp [look] at h
  | (k', v') :: r, h => by
    rw [look_cons] at h
    split at h
    · rename_i e; subst e; obtain rfl := Option.some.inj h; exact List.mem_cons_self
    · exact List.mem_cons_of_mem _ (look_mem h)

theorem injRen_sound : ∀ {σ : Ren}, injRen σ = true → ∀ {i k j : Nat}, look i σ = some (some j) → look k σ = some (some j) → i = k
  | [], _, i, k, j, h1, _ => by simp [look] at h1
  | (i0, x) :: r, h, i, k, j, h1, h2 => by
    rw [look_cons] at h1 h2
    have tail : injRen r = true := by
      cases x with
      | none => simpa [injRen] using h
      | some y => simp only [injRen, Bool.and_eq_true] at h; exact h.2
    have clash : ∀ q, look q r = some (some j) → x = some j → False := by
      intro q hq hx
      subst hx
      simp only [injRen, Bool.and_eq_true, List.all_eq_true] at h
      have := h.1 _ (look_mem hq)
      simp at this
    split at h1
    · rename_i e1
      split at h2
      · rename_i e2; rw [e1, e2]
      · exact (clash k h2 (Option.some.inj h1)).elim
    · split at h2
      · exact (clash i h1 (Option.some.inj h2)).elim
      · exact injRen_sound tail h1 h2
theorem look_filter {α : Type} {p : Nat → Bool} {k : Nat} (hp : p k = true) : ∀ (l : List (Nat × α)), look k (l.filter fun x => p x.1) = look k l
  | [] => rfl
  | (k', v) :: r => by
    by_cases h : p k' = true
    · rw [List.filter_cons_of_pos (by exact h), look_cons, look_cons, look_filter hp r]
    · rw [List.filter_cons_of_neg (by exact h), look_cons, look_filter hp r, if_neg]
      rintro rfl; exact h hp
theorem injOn_sound {H : Heap} {σ : Ren} (h : injOn H σ = true) {i k j : Nat} {oi ok : SO} (hi : look i H = some oi) (hk : look k H = some ok) (h1 : look i σ = some (some j)) (h2 : look k σ = some (some j)) : i = k := by
  refine injRen_sound h (j := j) ?_ ?_
  · rw [look_filter (p := fun k => (look k H).isSome) (by rw [hi]; rfl)]; exact h1
  · rw [look_filter (p := fun k => (look k H).isSome) (by rw [hk]; rfl)]; exact h2

section
variable {P : Program} {E : Ent} {n e : Nat} {s t : SS} {ρ : Val} {a : Act} {w : World}

theorem entX_sound (hE : E.A0 = ⟨fun i => i < e, fun _ => False⟩) (h : SatR E n s ρ a w) (hx : entX e s t) : ∃ ρ', SatR E n t ρ' a w := by
  unfold entX at hx
  split at hx
  · rename_i σ p hF
    split at hx
    · rename_i σs q hH
      split at hx
      · rename_i h1 h2 h3 h4 h5
        obtain ⟨hp, hx⟩ := (allX_iff _ _).1 hx
        obtain ⟨hq, _⟩ := (allX_iff _ _).1 hx
        have h3' := Nat.le_of_ble_eq_true h3
        have h4' := Nat.le_of_ble_eq_true h4
        have bnd : ∀ i, (look i σs).isSome = true → i < t.nx := by
          intro i hi
          obtain ⟨x, hx⟩ := Option.isSome_iff_exists.1 hi
          have := List.all_eq_true.1 h2 _ (look_mem hx)
          simpa using this
        have hslot : ∀ k v, look k s.F = some v → v.In s.names ρ ∨ ∃ t x, v = .opt t x := by
          intro k v hk
          have := (h.slots k v hk).1
          cases v with
          | opt t x => exact Or.inr ⟨t, x, rfl⟩
          | _ => exact Or.inl this
        have S1 := matF_sound (B := t.names.t) (σs := σs) hslot hF hp (matH_le hH)
        have S2 := matH_sound (B := t.names.t) (σs := σs) h.hok hH hq (Ren.le_refl _)
        have hid : ∀ i, i < e → look i σs = some (some i) := fun i hi => matH_le hH _ _ (matF_le hF _ _ (idRen_look hi))
        have conv : ∀ v : SV, v.In (renNames σs t.names.t) (renVal ρ σs) → v.In t.names (renVal ρ σs) := fun v hv =>
          SV.In_agree (A := renNames σs t.names.t) (B := t.names) (Val.agree_refl _ _) (fun i hi => bnd i hi) (fun x hx => hx) v hv
        have convO : ∀ o : SO, o.In (renNames σs t.names.t) (renVal ρ σs) → o.In t.names (renVal ρ σs) := fun o ho =>
          SO.In_agree (A := renNames σs t.names.t) (B := t.names) (Val.agree_refl _ _) (fun i hi => bnd i hi) (fun x hx => hx) ho
        refine ⟨renVal ρ σs, h.defers, h.size, fun k v hk => ?_, ⟨fun i o hi => ?_, fun i j oi oj b hoi hoj b1 b2 => ?_⟩, fun b hb => ?_, h.frame, ⟨fun i hi => ?_, fun x hx => ?_⟩, ⟨fun i hi => ?_, fun x hx => ?_⟩, fun τ x hx => ?_, h4'⟩
        · obtain ⟨v', g1, g2, g3⟩ := S1 k v hk
          obtain ⟨q1, q2, q3⟩ := h.slots k v' g1
          exact ⟨SV.InO_of_In (conv v g3), q2, by rw [g2]; exact q3⟩
        · obtain ⟨g1, g2, g3, _⟩ := S2 i o hi
          exact ⟨bnd i g3, convO o g1, g2⟩
        · obtain ⟨_, _, _, g1⟩ := S2 i oi hoi
          obtain ⟨_, _, _, g2⟩ := S2 j oj hoj
          obtain ⟨ji, si, r1, r2, r2', r3⟩ := g1 b b1
          obtain ⟨jj, sj, r4, r5, r5', r6⟩ := g2 b b2
          rcases h.hok.inj ji jj si sj b r2 r5 r3 r6 with e | ⟨e1, e2⟩
          · subst e; exact Or.inl (injOn_sound h1 hoi hoj r1 r4)
          · exact Or.inr ⟨by rw [← r2']; exact e1, by rw [← r5']; exact e2⟩
        · obtain ⟨i, oi, hoi, hro, hbb⟩ := hb
          obtain ⟨_, _, _, g1⟩ := S2 i oi hoi
          obtain ⟨ji, si, r1, r2, r2', r3⟩ := g1 b hbb
          exact h.own b ⟨ji, si, r2, by rw [r2']; exact hro, r3⟩
        · have hi' : i < e := by rw [hE] at hi; exact hi
          have e1 : (renVal ρ σs).b i = ρ.b i := by simp [renVal, hid i hi']
          have e2 : (renVal ρ σs).o i = ρ.o i := by simp [renVal, hid i hi']
          rw [e1, e2]; exact h.agree.1 i hi
        · rw [hE] at hx; exact hx.elim
        · have hi' : i < e := by rw [hE] at hi; exact hi
          omega
        · rw [hE] at hx; exact hx.elim
        · rw [h5] at hx; simp [look] at hx
      · exact hx.elim
    · exact hx.elim
  · exact hx.elim

def QX (E : Ent) (n : Nat) (Q : EX → SS → Prop) : Exit → Act → World → Prop
  | .normal, a, w => SatP E n (Q .normal) a w
  | .exit id, a, w => SatP E n (Q (.exit id)) a w
  | .ret, a, w => SatP E n (Q .ret) a w
  | _, _, _ => False

theorem SatP.mono {K K' : SS → Prop} (h : SatP E n K a w) (hk : ∀ s ρ, SatR E n s ρ a w → K s → K' s) : SatP E n K' a w := by
  obtain ⟨s, ρ, h1, h2⟩ := h; exact ⟨s, ρ, h1, hk s ρ h1 h2⟩

theorem enterL_each {e : Nat} {s : SS} {k G : Ann → Prop} (hG : ∀ A, enterX e A s → G A) : ∀ (l : List Ann), enterL e l s → eachL k l → ∃ A, G A ∧ k A
  | [], h, _ => h.elim
  | [A], h, hk => ⟨A, hG A h, hk⟩
  | A :: B :: l, h, hk => by
    rcases h with h | h
    · exact ⟨A, hG A h, hk.1⟩
    · exact enterL_each hG (B :: l) h hk.2

theorem eachL_mem {k : Ann → Prop} : ∀ {l : List Ann}, eachL k l → ∀ A ∈ l, k A
  | [], _, A, h => by cases h
  | [B], hk, A, h => by simp at h; subst h; exact hk
  | B :: C :: l, hk, A, h => by
    rcases List.mem_cons.1 h with rfl | h
    · exact hk.1
    · exact eachL_mem hk.2 A h
theorem enterL_mem {e : Nat} {s : SS} : ∀ {l : List Ann}, enterL e l s → ∃ A ∈ l, enterX e A s
  | [], h => h.elim
  | [A], h => ⟨A, List.mem_cons_self, h⟩
  | A :: B :: l, h => by
    rcases h with h | h
    · exact ⟨A, List.mem_cons_self, h⟩
    · obtain ⟨C, h1, h2⟩ := enterL_mem (l := B :: l) h
      exact ⟨C, List.mem_cons_of_mem _ h1, h2⟩
theorem againL_mem {e m : Nat} {s : SS} : ∀ {l : List Ann}, againL e m l s → ∃ A ∈ l, ∃ x', A.φ x' ∧ A.μ x' < m ∧ entX e s (A.st x')
  | [], h => h.elim
  | [A], h => ⟨A, List.mem_cons_self, h⟩
  | A :: B :: l, h => by
    rcases h with h | h
    · exact ⟨A, List.mem_cons_self, h⟩
    · obtain ⟨C, h1, h2⟩ := againL_mem (l := B :: l) h
      exact ⟨C, List.mem_cons_of_mem _ h1, h2⟩

theorem wpX_sound {cx : Cx} (hm : P.follows .mixedOrders = true) (hty : TyOK P cx.ty) (hΓ : ΓOK P E.Λ cx.Γ) (hE : E.A0 = ⟨fun i => i < cx.e, fun _ => False⟩) : ∀ (c : Code) (Q : EX → SS → Prop) (s : SS) (ρ : Val) (a : Act) (w : World), SatR E cx.n s ρ a w → wpX cx c Q s → c.wp P (QX E cx.n Q) a w := by
  have enter : ∀ {A : Ann} {s : SS} {ρ : Val} {a : Act} {w : World}, SatR E cx.n s ρ a w → enterX cx.e A s → ∃ x ρ', A.φ x ∧ SatR E cx.n (A.st x) ρ' a w := by
    intro A s ρ a w h ⟨x, h1, h2⟩
    obtain ⟨ρ', h3⟩ := entX_sound hE h h2
    exact ⟨x, ρ', h1, h3⟩
  intro c
  induction c with
  | skip => intro Q s ρ a w h hK; exact wp_skip ⟨s, ρ, h, hK⟩
  | region id ops draw =>
    intro Q s ρ a w h hK
    cases draw with
    | true => exact drawRegion_sound hty hΓ hm (Q := QX E cx.n Q) (fun a w hs => hs) (fun c a w hq => hq) h hK
    | false => exact region_sound hty hΓ (Q := QX E cx.n Q) (fun a w hs => hs) h hK
  | seq x y ihx ihy =>
    intro Q s ρ a w h hK
    simp only [wpX] at hK
    refine wp_seq ?_
    split at hK
    · refine wp_mono (ihx _ s ρ a w h hK) fun e a w hq => ?_
      cases e with
      | normal => obtain ⟨s', ρ', h', hk'⟩ := hq; exact ihy Q s' ρ' a w h' hk'
      | exit id => exact hq
      | ret => exact hq
      | goto l => exact hq
      | panic c => exact hq
      | outgrown => exact hq
    · rename_i A l hA
      obtain ⟨h1, h2⟩ := hK
      refine wp_mono (ihx _ s ρ a w h h1) fun e a w hq => ?_
      cases e with
      | normal =>
        obtain ⟨s', ρ', h', hk'⟩ := hq
        obtain ⟨A', ⟨x, ρ'', hφ, h''⟩, hk⟩ := enterL_each (fun A hA => enter h' hA) (A :: l) hk' h2
        exact ihy Q _ ρ'' a w h'' (hk x hφ)
      | exit id => exact hq
      | ret => exact hq
      | goto l => exact hq
      | panic c => exact hq
      | outgrown => exact hq
  | cond c x y ihx ihy =>
    intro Q s ρ a w h hK
    simp only [wpX] at hK
    split at hK
    · rename_i v hv
      obtain ⟨h1, h2⟩ := (condX_iff _ _ _).1 hK
      have he := (fetch_sound h (g := none) (fun τ e => by cases e) c _ hv).1
      exact wp_cond_split he (fun ht => ihx Q s ρ a w h (h1 ht)) (fun hf => ihy Q s ρ a w h (h2 hf))
    · exact hK.elim
  | block id c ih =>
    intro Q s ρ a w h hK
    refine wp_block (wp_mono (ih _ s ρ a w h hK) fun e a w hq => ?_)
    cases e with
    | normal => exact hq
    | exit id' =>
      simp only [Exit.inBlock]
      obtain ⟨s', ρ', h', hk'⟩ := hq
      simp only [blockX] at hk'
      split
      · rename_i he; subst he
        rw [Nat.beq_refl] at hk'
        exact ⟨s', ρ', h', hk'⟩
      · rename_i he
        have : Nat.beq id' id = false := by
          cases hb : Nat.beq id' id with
          | false => rfl
          | true => exact absurd (Nat.eq_of_beq_eq_true hb) he
        rw [this] at hk'
        exact ⟨s', ρ', h', hk'⟩
    | ret => exact hq
    | goto l => exact hq
    | panic c => exact hq
    | outgrown => exact hq
  | loop c ih =>
    intro Q s ρ a w h hK
    simp only [wpX] at hK
    split at hK
    · rename_i hA
      clear hA
      refine wp_loop_rounds 24 ?_
      generalize 24 = m at hK ⊢
      induction m generalizing s ρ a w with
      | zero => exact hK.elim
      | succ m ihm =>
        refine wp_mono (ih _ s ρ a w h hK) fun e a w hq => ?_
        cases e with
        | normal => obtain ⟨s', ρ', h', hk'⟩ := hq; exact ihm s' ρ' a w h' hk'
        | exit id => exact hq
        | ret => exact hq
        | goto l => exact hq
        | panic c => exact hq
        | outgrown => exact hq
    · rename_i B l hA
      obtain ⟨h1, h2⟩ := hK
      obtain ⟨A, hAm, hA1⟩ := enterL_mem h1
      obtain ⟨x, ρ', hφ, h'⟩ := enter h hA1
      refine wp_loop_ghost (fun m a w => ∃ A ∈ B :: l, ∃ x ρ, A.μ x = m ∧ A.φ x ∧ SatR E cx.n (A.st x) ρ a w) (A.μ x) ⟨A, hAm, x, ρ', rfl, hφ, h'⟩ ?_
      rintro m a w ⟨A, hAm, x, ρ, rfl, hφ, h⟩
      refine wp_mono (ih _ _ ρ a w h (eachL_mem h2 A hAm x hφ)) fun e a w hq => ?_
      cases e with
      | normal =>
        obtain ⟨s', ρ', h', hq⟩ := hq
        obtain ⟨C, hC, x', g1, g2, g3⟩ := againL_mem hq
        obtain ⟨ρ'', h''⟩ := entX_sound hE h' g3
        exact ⟨_, g2, C, hC, x', ρ'', rfl, g1, h''⟩
      | exit id => exact hq
      | ret => exact hq
      | goto l => exact hq
      | panic c => exact hq
      | outgrown => exact hq
  | exit id => intro Q s ρ a w h hK; exact wp_exit ⟨s, ρ, h, hK⟩
  | ret => intro Q s ρ a w h hK; exact wp_ret ⟨s, ρ, h, hK⟩
  | label l => intro Q s ρ a w h hK; exact wp_label ⟨s, ρ, h, hK⟩
  | rangeFunc f ps x y => intro Q s ρ a w h hK; exact hK.elim
  | scope c ih =>
    intro Q s ρ a w h hK
    refine wp_scope_straight (wp_mono (ih Q s ρ a w h hK) fun e a w hq => ?_)
    cases e with
    | goto l => exact hq.elim
    | normal => exact hq
    | exit id => exact hq
    | ret => exact hq
    | panic c => exact hq
    | outgrown => exact hq
  | goto l => intro Q s ρ a w h hK; exact hK.elim
  | refuse y => intro Q s ρ a w h hK; exact hK.elim

end
end Go.Eng
