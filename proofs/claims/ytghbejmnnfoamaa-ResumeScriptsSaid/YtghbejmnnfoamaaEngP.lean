/- The engine, part P: a region of operations in the order of the text. -/
import Derived.Test.YtghbejmnnfoamaaEngO
set_option linter.unusedVariables false
set_option linter.unusedSimpArgs false
namespace Go.Eng
open Go
section
variable {P : Program} {ty : Ty} {Γ : Nat → Option Rule} {E : Ent} {n : Nat} {s : SS} {ρ : Val} {a : Act} {w : World}

theorem outcome_post {o : Oper} {ev : Operand → Value} {B : Nat → Prop} {nid : Nat} {H : Heap} {K : SV → Heap → Prop} {x : Sem Value} (hx : ∀ w, (execOp ev o).run P w = (x.run P w).andThen fun v w' => .ok (.value v) w') (h : Outcome P B nid ρ H w K (x.run P w)) :
    OpPost P o ev w fun v w' => ∃ ρ' r H', v = r.den ρ' ∧ Moved ⟨fun i => i < nid, B⟩ ⟨fun i => i < nid + 8, B⟩ ρ H w ρ' H' r w' ∧ K r H' := by
  obtain ⟨w', ρ', r, H', h1, h2, h3⟩ := h
  exact Or.inl ⟨_, w', by rw [hx, h1]; rfl, ρ', r, H', rfl, h2, h3⟩

theorem eq_slice_nil {t e yt : TypeId} {o : Oper} {ev : Operand → Value} {x y : Operand} {q : Option Addr} {l c : Nat} (he : P.underlying t = some (.slice e)) (hop : o.op = .binOp .eql t x y yt) (hx : ev x = .slice q l c) (hy : ev y = .slice none 0 0) (w : World) :
    (execOp ev o).run P w = .ok (.value (.bool q.isNone)) w := by
  have h : ∀ d : Nat, (Op.equalIn (d + 1) t (.slice q l c) (.slice none 0 0)).run P w = .ok q.isNone w := fun d => by
    unfold Op.equalIn
    rw [Sem.run_bind, run_underlying he, Result.andThen_ok]
    cases q <;> rfl
  have h2 : (Op.equal t (.slice q l c) (.slice none 0 0)).run P w = .ok q.isNone w := h _
  have h3 : (binOp .eql t (.slice q l c) (.slice none 0 0)).run P w = .ok (.bool q.isNone) w := by
    simp only [binOp, Sem.run_bind, h2, Result.andThen_ok, Sem.run_pure]
  have h4 : (eqGuard .eql t x y (.slice q l c) (.slice none 0 0)).run P w = .ok () w := by
    unfold eqGuard
    rfl
  simp only [execOp, hop, hx, hy]
  rw [Sem.run_bind, Sem.run_bind, h4, Result.andThen_ok, h3]; rfl

theorem genX_sound (hty : TyOK P ty) {B : Nat → Prop} {nid : Nat} {H : Heap} {K : SV → Heap → Prop} {ev : Operand → Value} {v : Operand → Option SV} {o : Oper} (hH : HOK ⟨fun i => i < nid, B⟩ ρ H w) (hv : Opnd ⟨fun i => i < nid, B⟩ ρ ev v) (h : genX ty v H nid K o.op) :
    OpPost P o ev w fun v w' => ∃ ρ' r H', v = r.den ρ' ∧ Moved ⟨fun i => i < nid, B⟩ ⟨fun i => i < nid + 8, B⟩ ρ H w ρ' H' r w' ∧ K r H' := by
  unfold genX at h
  split at h
  · rename_i x hop
    split at h
    · rename_i sv hx
      obtain ⟨h1, h2⟩ := hv _ _ hx
      refine outcome_post (x := Instr.next (sv.den ρ) true o.type) (fun w => ?_) (nextX_sound hH h2 h)
      simp [execOp, hop, h1]
    · exact h.elim
  · rename_i t x y yt hop
    have eqn : ∀ (a : Value) (b : Bool), (∃ q l c, a = .slice q l c ∧ (b = true ↔ q = none)) → ∀ w : World, (∃ e, P.underlying t = some (.slice e)) → ev x = a → ev y = .slice none 0 0 → (execOp ev o).run P w = .ok (.value (.bool b)) w := by
      rintro a b ⟨q, l, c, rfl, hq⟩ w ⟨e, he⟩ hx hy
      have hb : b = q.isNone := by
        cases q with
        | none => exact hq.2 rfl
        | some q =>
          cases b with
          | false => rfl
          | true => cases hq.1 rfl
      subst hb
      exact eq_slice_nil he hop hx hy w
    split at h
    · rename_i e sz by' z id i0 s' len cap ht hx hy
      obtain ⟨ti, tud, ht⟩ := tdOf_facts (hty _ _ ht)
      obtain rfl := tk_slc ht.kind
      obtain ⟨h1, h2⟩ := hv _ _ hx
      obtain ⟨h3, h4⟩ := hv _ _ hy
      obtain ⟨hK1, hK2⟩ := h
      cases hid : ρ.b id with
      | none =>
        obtain ⟨rfl, rfl⟩ := h2.2.1 hid
        refine Or.inl ⟨_, w, eqn (.slice none 0 0) true ⟨none, 0, 0, rfl, by simp⟩ w ⟨_, ht.und⟩ (by rw [h1]; simp [SV.den, hid]) h3, ?_⟩
        obtain ⟨w', ρ', r, H', q1, q2, q3⟩ := outcome_same (P := P) (r := .g (.bool true)) hH trivial (hK1 rfl rfl)
        injection q1 with q4 q5
        subst q5
        exact ⟨ρ', r, H', q4, q2, q3⟩
      | some b =>
        refine Or.inl ⟨_, w, eqn (.slice (some ⟨b, ρ.o id + i0 * s', none⟩) len cap) false ⟨_, len, cap, rfl, by simp⟩ w ⟨_, ht.und⟩ (by rw [h1]; simp [SV.den, hid]) h3, ?_⟩
        obtain ⟨w', ρ', r, H', q1, q2, q3⟩ := outcome_same (P := P) (r := .g (.bool false)) hH trivial hK2
        injection q1 with q4 q5
        subst q5
        exact ⟨ρ', r, H', q4, q2, q3⟩
    · rename_i e sz by' z ht hx hy
      obtain ⟨ti, tud, ht⟩ := tdOf_facts (hty _ _ ht)
      obtain rfl := tk_slc ht.kind
      obtain ⟨h1, h2⟩ := hv _ _ hx
      obtain ⟨h3, h4⟩ := hv _ _ hy
      refine Or.inl ⟨_, w, eqn (.slice none 0 0) true ⟨none, 0, 0, rfl, by simp⟩ w ⟨_, ht.und⟩ h1 h3, ?_⟩
      obtain ⟨w', ρ', r, H', q1, q2, q3⟩ := outcome_same (P := P) (r := .g (.bool true)) hH trivial h
      injection q1 with q4 q5
      subst q5
      exact ⟨ρ', r, H', q4, q2, q3⟩
    · exact h.elim
  · rename_i src dst x hop
    split at h
    · rename_i sz by' z e sz2 by2 z2 b hs hd hx
      obtain ⟨si, sud, hs⟩ := tdOf_facts (hty _ _ hs)
      obtain ⟨di, dud, hd⟩ := tdOf_facts (hty _ _ hd)
      obtain ⟨h1, h2⟩ := hv _ _ hx
      obtain rfl := tk_str hs.kind
      obtain rfl := tk_slc hd.kind
      split at h
      · rename_i sz3 by3 z3 he
        obtain ⟨ei, eud, he⟩ := tdOf_facts (hty _ _ he)
        obtain rfl := tk_int he.kind
        refine outcome_post (x := Conv.stringToBytes e b) (fun w => ?_) (bytesOfX_sound hH h)
        simp [execOp, hop, h1, SV.den, convert, run_underlying hs.und, run_underlying hd.und, run_underlying he.und]
      · exact h.elim
    · exact h.elim
  · rename_i c hop
    obtain ⟨callee, args, ts⟩ := c
    simp only [] at h
    split at h
    · rename_i x y t t' hargs hts
      obtain rfl := args_two hargs
      have hts' : ts = #[t, t'] := Array.toList_inj.1 (by simpa using hts)
      subst hts'
      split at h
      · rename_i e sz by' z e' sz' by'' z' sx sy ht ht' hx hy
        obtain ⟨ti, tud, ht⟩ := tdOf_facts (hty _ _ ht)
        obtain ⟨ti', tud', ht'⟩ := tdOf_facts (hty _ _ ht')
        obtain rfl := tk_slc ht.kind
        obtain rfl := tk_slc ht'.kind
        obtain ⟨h1, h2⟩ := hv _ _ hx
        obtain ⟨h3, h4⟩ := hv _ _ hy
        split at h
        · rename_i d hd
          obtain ⟨di, dud, hd⟩ := tdOf_facts (hty _ _ hd)
          split at h
          · rename_i zz hz hby
            refine outcome_post (x := Builtin.append_ #[t, t'] o.type #[sx.den ρ, sy.den ρ]) (fun w => ?_) (appendX_sound hH h2 h4 ht.und (Or.inl ⟨_, ht'.und⟩) hd hz (Nat.le_of_ble_eq_true hby) h)
            simp [execOp, hop, resolve, invoke, builtin, h1, h3]
          · exact h.elim
        · exact h.elim
      · rename_i e sz by' z sz' by'' z' sx sy ht ht' hx hy
        obtain ⟨ti, tud, ht⟩ := tdOf_facts (hty _ _ ht)
        obtain ⟨ti', tud', ht'⟩ := tdOf_facts (hty _ _ ht')
        obtain rfl := tk_slc ht.kind
        obtain rfl := tk_str ht'.kind
        obtain ⟨h1, h2⟩ := hv _ _ hx
        obtain ⟨h3, h4⟩ := hv _ _ hy
        split at h
        · rename_i d hd
          obtain ⟨di, dud, hd⟩ := tdOf_facts (hty _ _ hd)
          split at h
          · rename_i zz hz hby
            refine outcome_post (x := Builtin.append_ #[t, t'] o.type #[sx.den ρ, sy.den ρ]) (fun w => ?_) (appendX_sound hH h2 h4 ht.und (Or.inr ht'.und) hd hz (Nat.le_of_ble_eq_true hby) h)
            simp [execOp, hop, resolve, invoke, builtin, h1, h3]
          · exact h.elim
        · exact h.elim
      · exact h.elim
    · rename_i x t hargs hts
      obtain rfl := args_one hargs
      have hts' : ts = #[t] := args_one hts
      subst hts'
      split at h
      · rename_i e sz by' z sx ht hx
        obtain ⟨ti, tud, ht⟩ := tdOf_facts (hty _ _ ht)
        obtain rfl := tk_slc ht.kind
        obtain ⟨h1, h2⟩ := hv _ _ hx
        split at h
        · rename_i d hd
          obtain ⟨di, dud, hd⟩ := tdOf_facts (hty _ _ hd)
          split at h
          · rename_i zz hz
            split at h
            · rename_i hpl
              refine outcome_post (x := Builtin.clear_ #[t] o.type #[sx.den ρ]) (fun w => ?_) (clearX_sound hH h2 ht.und hd hz hpl h)
              simp [execOp, hop, resolve, invoke, builtin, h1]
            · exact h.elim
          · exact h.elim
        · exact h.elim
      · exact h.elim
    · rename_i x y t t' hargs hts
      obtain rfl := args_two hargs
      have hts' : ts = #[t, t'] := Array.toList_inj.1 (by simpa using hts)
      subst hts'
      split at h
      · rename_i e sz by' z sx sy ht hx hy
        obtain ⟨ti, tud, ht⟩ := tdOf_facts (hty _ _ ht)
        obtain rfl := tk_slc ht.kind
        obtain ⟨h1, h2⟩ := hv _ _ hx
        obtain ⟨h3, h4⟩ := hv _ _ hy
        split at h
        · rename_i d hd
          obtain ⟨di, dud, hd⟩ := tdOf_facts (hty _ _ hd)
          refine outcome_post (x := Builtin.copy_ #[t, t'] o.type #[sx.den ρ, sy.den ρ]) (fun w => ?_) (copyX_sound hH h2 h4 rfl ht.und hd h)
          simp [execOp, hop, resolve, invoke, builtin, h1, h3]
        · exact h.elim
      · exact h.elim
    · exact h.elim
  · exact h.elim

theorem moved_ext {A : Names} {ρ : Val} {H : Heap} {w w' : World} {nid : Nat} {B : Nat → Prop} (hA : A = ⟨fun i => i < nid, B⟩) (hH : HOK A ρ H w) (hw : Ext w w') {r : SV} (hr : r.InO A ρ) : Moved A ⟨fun i => i < nid + 8, B⟩ ρ H w ρ H r w' := by
  subst hA
  have hb : ∀ i, i < nid → i < nid + 8 := fun i hi => by omega
  refine ⟨Val.agree_refl _ _, SV.InO_agree (A := ⟨fun i => i < nid, B⟩) (B := ⟨fun i => i < nid + 8, B⟩) (Val.agree_refl _ _) hb (fun t h => h) hr, ?_, fun b hb => Or.inr hb, hw.frame _⟩
  refine (hH.world (w' := w') fun b j so hj hb' => ?_).mono (Val.agree_refl _ _) hb (fun t h => h)
  exact hw.block b (hH.lt hj hb') (fun f => f)

theorem runX_sound (hty : TyOK P ty) (hΓ : ΓOK P E.Λ Γ) {o : Oper} {K : SS → Prop} (h : SatR E n s ρ a w) (hK : runX ty Γ n o s K) : OpPost P o a.eval w fun v w' => SatP E n K (a.put o.dst v) w' := by
  unfold runX at hK
  have hg : ∀ τ, (none : Option Nat) = some τ → ρ.t τ = true := fun τ e => by cases e
  split at hK
  · rename_i d hd
    have hs := opDet_sound hty h hg hd
    split at hK
    · rename_i pre r hq
      obtain ⟨hp, hK⟩ := (allX_iff _ _).1 hK
      obtain ⟨hr, hpost⟩ := detQ_sound hΓ h.hok h.lay.1 hs hq hp
      refine hpost.mono ?_
      rintro v w' ⟨rfl, hw⟩
      exact h.next (moved_ext rfl h.hok hw (SV.InO_of_In hr)) hK
    · refine (detK_sound (nid := s.nx) (B := s.names.t) hΓ h.hok h.lay hs hK).mono ?_
      rintro v w' ⟨ρ', r, H', rfl, hm, hK⟩
      exact h.next hm hK
  · refine (genX_sound hty (nid := s.nx) (B := s.names.t) h.hok (fetch_sound h hg) hK).mono ?_
    rintro v w' ⟨ρ', r, H', rfl, hm, hK⟩
    exact h.next hm hK

/-- What a guarded operation leaves where it is not carried out. -/
theorem skip_sound {o : Oper} {K : SS → Prop} (h : SatR E n s ρ a w) (hK : putX n s o.dst (.g undef) s.H K) : SatP E n K (a.put o.dst undef) w :=
  h.next (r := .g undef) (moved_ext rfl h.hok (Ext.refl w) trivial) hK

theorem guardRun_sound (hty : TyOK P ty) (hΓ : ΓOK P E.Λ Γ) {o : Oper} {K : SS → Prop} {τ : Nat} {b : Bool} (h : SatR E n s ρ a w) (ht : s.names.t τ) (hb : b = true ↔ ρ.t τ = true) (hK : guardRun ty Γ n o τ b s K) :
    (ρ.t τ = true → OpPost P o a.eval w fun v w' => SatP E n K (a.put o.dst v) w') ∧ (ρ.t τ = false → SatP E n K (a.put o.dst undef) w) := by
  unfold guardRun at hK
  have split2 : ∀ {p : Prop}, condX b p (putX n s o.dst (.g undef) s.H K) → (p → ρ.t τ = true → OpPost P o a.eval w fun v w' => SatP E n K (a.put o.dst v) w') →
      (ρ.t τ = true → OpPost P o a.eval w fun v w' => SatP E n K (a.put o.dst v) w') ∧ (ρ.t τ = false → SatP E n K (a.put o.dst undef) w) := by
    intro p hc hp
    obtain ⟨h1, h2⟩ := (condX_iff _ _ _).1 hc
    refine ⟨fun hτ => hp (h1 (hb.2 hτ)) hτ, fun hτ => skip_sound h (h2 ?_)⟩
    cases hbb : b with
    | false => rfl
    | true => rw [hb.1 hbb] at hτ; cases hτ
  split at hK
  · rename_i d hd
    split at hK
    · rename_i pre r hq
      obtain ⟨hp, hK⟩ := (allX_iff _ _).1 hK
      have rin : ρ.t τ = true → r.In s.names ρ ∧ OpPost P o a.eval w fun v w' => v = r.den ρ ∧ Ext w w' := by
        intro hτ
        have hs := opDet_sound hty h (g := some τ) (fun τ' e => by cases e; exact hτ) hd
        exact detQ_sound hΓ h.hok h.lay.1 hs hq fun p hpm => by
          have := hp (gimp b p) (List.mem_map.2 ⟨p, hpm, rfl⟩)
          exact this (hb.2 hτ)
      refine ⟨fun hτ => ?_, fun hτ => ?_⟩
      · obtain ⟨hr, hpost⟩ := rin hτ
        refine hpost.mono ?_
        rintro v w' ⟨rfl, hw⟩
        have := h.next (r := .opt τ r) (moved_ext rfl h.hok hw ⟨ht, fun _ => hr⟩) hK
        simpa [SV.den, hτ] using this
      · have := h.next (r := .opt τ r) (w' := w) (moved_ext rfl h.hok (Ext.refl w) ⟨ht, fun e => by rw [e] at hτ; cases hτ⟩) hK
        simpa [SV.den, hτ] using this
    · exact split2 hK fun hK hτ => by
        have hs := opDet_sound hty h (g := some τ) (fun τ' e => by cases e; exact hτ) hd
        refine (detK_sound (nid := s.nx) (B := s.names.t) hΓ h.hok h.lay hs hK).mono ?_
        rintro v w' ⟨ρ', r, H', rfl, hm, hK⟩
        exact h.next hm hK
  · exact split2 hK fun hK hτ => by
      refine (genX_sound hty (nid := s.nx) (B := s.names.t) h.hok (fetch_sound h (g := some τ) (fun τ' e => by cases e; exact hτ)) hK).mono ?_
      rintro v w' ⟨ρ', r, H', rfl, hm, hK⟩
      exact h.next hm hK

end
end Go.Eng
