/- The engine, part Q: a region in the order of the text, to its end. -/
import Derived.Test.YtghbejmnnfoamaaEngP
set_option linter.unusedVariables false
set_option linter.unusedSimpArgs false
namespace Go.Eng
open Go
section
variable {P : Program} {ty : Ty} {Γ : Nat → Option Rule} {E : Ent} {n : Nat} {s : SS} {ρ : Val} {a : Act} {w : World}

theorem guardWith_sound {τ t : Nat} {want : Bool} {f : Bool → SS → Prop} (h : SatR E n s ρ a w) (hK : guardWith τ t want s f) :
    ∃ b s' ρ', SatR E n s' ρ' a w ∧ s'.names.t τ ∧ (ρ'.t τ = true ↔ a.tmps[t]? = some (.bool want)) ∧ (b = true ↔ ρ'.t τ = true) ∧ f b s' ∧ ρ.agree s.names ρ' ∧ s'.F = s.F ∧ s'.H = s.H ∧ s'.nx = s.nx ∧ (∀ x, s.names.t x → s'.names.t x) := by
  unfold guardWith at hK
  split at hK
  · exact hK.elim
  · rename_i b hb
    have hbb := gbool_sound h 20 t want b hb
    split at hK
    · rename_i t' w' hT
      have fin : t = t' ∧ want = w' ∧ f b s := by
        split at hK
        · rename_i hb'; exact ⟨Nat.eq_of_beq_eq_true hb', rfl, hK⟩
        · rename_i hb'; exact ⟨Nat.eq_of_beq_eq_true hb', rfl, hK⟩
        · exact hK.elim
      obtain ⟨rfl, rfl, hK'⟩ := fin
      have hiff := (h.tags τ _ hT).2 _ _ rfl
      exact ⟨b, s, ρ, h, Or.inr (by rw [hT]; rfl), hiff, hbb.trans hiff.symm, hK', Val.agree_refl _ _, rfl, rfl, rfl, fun x hx => hx⟩
    · exact hK.elim
    · rename_i hT
      split at hK
      · rename_i h1 h2
        have h1' := Nat.le_of_ble_eq_true h1
        have h2' : τ < s.nx := by simpa using h2
        let ρ' : Val := ⟨ρ.b, ρ.o, fun x => if x = τ then (match a.tmps[t]? with | some (.bool c) => c == want | _ => false) else ρ.t x⟩
        have hfresh : ¬ s.names.t τ := by
          rintro (hx | hx)
          · omega
          · rw [hT] at hx; cases hx
        have hag : ρ.agree s.names ρ' := ⟨fun _ _ => ⟨rfl, rfl⟩, fun x hx => by
          show (if x = τ then _ else ρ.t x) = ρ.t x
          rw [if_neg]; intro e; subst e; exact hfresh hx⟩
        have hiff : ρ'.t τ = true ↔ a.tmps[t]? = some (.bool want) := by
          show (if τ = τ then _ else ρ.t τ) = true ↔ _
          rw [if_pos rfl]
          cases a.tmps[t]? with
          | none => simp
          | some v => cases v <;> simp
        let s' : SS := ⟨s.F, s.H, s.nx, s.tb, (τ, some (t, want)) :: s.T⟩
        have ht : ∀ x, s.names.t x → s'.names.t x := fun x hx => by
          rcases hx with hx | hx
          · exact Or.inl hx
          · refine Or.inr ?_
            show (look x ((τ, some (t, want)) :: s.T)).isSome = true
            rw [look_cons]; split
            · rfl
            · exact hx
        have h' : SatR E n s' ρ' a w := by
          refine ⟨h.defers, h.size, fun k v hk => ?_, h.hok.mono hag (fun i hi => hi) ht, h.own, h.frame, Val.agree_trans h.agree hag h.sub.1 (fun x hx => Or.inl (h.sub.2 x hx)), h.sub, fun x y hx => ?_, h.tb⟩
          · obtain ⟨q1, q2, q3⟩ := h.slots k v hk
            exact ⟨SV.InO_agree (A := s.names) (B := s'.names) hag (fun i hi => hi) ht q1, q2, by rw [SV.den_agreeO hag q1]; exact q3⟩
          · have hx' : look x ((τ, some (t, want)) :: s.T) = some y := hx
            rw [look_cons] at hx'
            split at hx'
            · rename_i e; subst e
              obtain rfl := Option.some.inj hx'
              refine ⟨h2', fun t0 w0 e0 => ?_⟩
              obtain ⟨rfl, rfl⟩ := Prod.mk.inj (Option.some.inj e0)
              exact hiff
            · rename_i e
              obtain ⟨q1, q2⟩ := h.tags x y hx'
              refine ⟨q1, fun t0 w0 e0 => ?_⟩
              have : ρ'.t x = ρ.t x := by show (if x = τ then _ else ρ.t x) = _; rw [if_neg e]
              rw [this]; exact q2 t0 w0 e0
        exact ⟨b, s', ρ', h', Or.inr (by show (look τ ((τ, some (t, want)) :: s.T)).isSome = true; rw [look_cons, if_pos rfl]; rfl), hiff, hbb.trans hiff.symm, hK, hag, rfl, rfl, rfl, ht⟩
      · exact hK.elim

theorem guardX_sound (hty : TyOK P ty) (hΓ : ΓOK P E.Λ Γ) {o : Oper} {K : SS → Prop} {τ t : Nat} {want : Bool} (h : SatR E n s ρ a w) (hK : guardX ty Γ n o τ t want s K) :
    (a.tmps[t]? = some (.bool want) → OpPost P o a.eval w fun v w' => SatP E n K (a.put o.dst v) w') ∧ (a.tmps[t]? ≠ some (.bool want) → SatP E n K (a.put o.dst undef) w) := by
  obtain ⟨b, s', ρ', h', hτ, hiff, hb, hK', _⟩ := guardWith_sound h hK
  obtain ⟨g1, g2⟩ := guardRun_sound hty hΓ h' hτ hb hK'
  refine ⟨fun e => g1 (hiff.2 e), fun e => g2 ?_⟩
  cases hx : ρ'.t τ with
  | false => rfl
  | true => exact absurd (hiff.1 hx) e

theorem stepX_sound (hty : TyOK P ty) (hΓ : ΓOK P E.Λ Γ) {ops : Array Oper} {base : Nat} {o : Oper} {K : SS → Prop} (h : SatR E n s ρ a w) (hK : stepX ty Γ n ops.toList base o s K) :
    (Region.wanted o (yielded ops a.tmps) = true → OpPost P o a.eval w fun v w' => SatP E n K (a.put o.dst v) w') ∧ (Region.wanted o (yielded ops a.tmps) = false → SatP E n K (a.put o.dst undef) w) := by
  unfold stepX at hK
  unfold Region.wanted
  cases hg : o.guard with
  | none =>
    rw [hg] at hK
    exact ⟨fun _ => runX_sound hty hΓ h hK, fun e => by cases e⟩
  | some jw =>
    obtain ⟨j, want⟩ := jw
    rw [hg] at hK
    simp only [Array.getElem?_toList] at hK
    split at hK
    · rename_i t ht
      obtain ⟨g1, g2⟩ := guardX_sound hty hΓ h hK
      have hy : (yielded ops a.tmps j == some want) = true ↔ a.tmps[t]? = some (.bool want) := by
        unfold yielded
        rw [ht]
        simp only [Option.bind_some]
        cases a.tmps[t]? with
        | none => simp
        | some v => cases v <;> simp
      refine ⟨fun e => g1 (hy.1 e), fun e => g2 fun e' => ?_⟩
      simp only [] at e
      rw [hy.2 e'] at e; cases e
    · exact hK.elim

theorem opsX_sound (hty : TyOK P ty) (hΓ : ΓOK P E.Λ Γ) {ops : Array Oper} {base : Nat} {Q : Exit → Act → World → Prop} {K : SS → Prop} (hQ : ∀ a w, SatP E n K a w → Q .normal a w) : ∀ (l : List Oper) (i : Nat) (s : SS) (ρ : Val) (a : Act) (w : World), ops.toList.drop i = l →
    SatR E n s ρ a w → opsX ty Γ n ops.toList base l s K → wpOps P ops Q (List.range' i l.length) a w := by
  intro l
  induction l with
  | nil =>
    intro i s ρ a w hl h hK
    refine hQ a w ⟨⟨s.F, s.H, s.nx, Nat.max s.tb s.nx, []⟩, ρ, ?_, hK⟩
    have ht : ∀ x, s.names.t x → x < Nat.max s.tb s.nx := fun x hx => by
      rcases hx with hx | hx
      · exact Nat.lt_of_lt_of_le hx (Nat.le_max_left _ _)
      · obtain ⟨y, hy⟩ := Option.isSome_iff_exists.1 hx
        exact Nat.lt_of_lt_of_le (h.tags x y hy).1 (Nat.le_max_right _ _)
    have ht' : ∀ x, s.names.t x → (⟨s.F, s.H, s.nx, Nat.max s.tb s.nx, []⟩ : SS).names.t x := fun x hx => Or.inl (ht x hx)
    refine ⟨h.defers, h.size, fun k v hk => ?_, h.hok.mono (Val.agree_refl _ _) (fun i hi => hi) ht', h.own, h.frame, h.agree, ⟨h.sub.1, fun x hx => Nat.lt_of_lt_of_le (h.sub.2 x hx) (Nat.le_max_left _ _)⟩, fun x y hx => by simp [look] at hx, Nat.max_le.2 ⟨h.tb, Nat.le_refl _⟩⟩
    obtain ⟨q1, q2, q3⟩ := h.slots k v hk
    exact ⟨SV.InO_agree (A := s.names) (B := (⟨s.F, s.H, s.nx, Nat.max s.tb s.nx, []⟩ : SS).names) (Val.agree_refl _ _) (fun i hi => hi) ht' q1, q2, q3⟩
  | cons o l ih =>
    intro i s ρ a w hl h hK
    have hi : ops[i]? = some o := by
      have := congrArg (fun l => l[0]?) hl
      simpa using this
    have hl' : ops.toList.drop (i + 1) = l := by
      have := congrArg List.tail hl
      simpa using this
    simp only [List.length_cons, List.range'_succ, wpOps, hi]
    obtain ⟨g1, g2⟩ := stepX_sound hty hΓ h hK
    have next : ∀ a w, SatP E n (fun s' => opsX ty Γ n ops.toList base l s' K) a w → wpOps P ops Q (List.range' (i + 1) l.length) a w := by
      rintro a w ⟨s', ρ', h', hK'⟩
      exact ih (i + 1) s' ρ' a w hl' h' hK'
    cases hw : Region.wanted o (yielded ops a.tmps) with
    | true =>
      simp only [if_true]
      exact Or.inl (OpPost.wp ((g1 hw).mono fun v w' => next _ _))
    | false =>
      simp only [Bool.false_eq_true, if_false]
      exact next _ _ (g2 hw)

/-- A region that does not draw its order. -/
theorem region_sound (hty : TyOK P ty) (hΓ : ΓOK P E.Λ Γ) {id : Nat} {ops : Array Oper} {Q : Exit → Act → World → Prop} {K : SS → Prop} (hQ : ∀ a w, SatP E n K a w → Q .normal a w) (h : SatR E n s ρ a w) (hK : opsX ty Γ n ops.toList s.nx ops.toList s K) :
    (Code.region id ops false).wp P Q a w := by
  refine wp_region ?_
  have := opsX_sound hty hΓ hQ ops.toList 0 s ρ a w (by simp) h hK
  rw [List.range_eq_range']
  simpa using this

end
end Go.Eng
