/- The engine, part L: an operation, carried out or guarded, keeps the state. -/
import Derived.Test.YtghbejmnnfoamaaEngK
set_option linter.unusedVariables false
set_option linter.unusedSimpArgs false
namespace Go.Eng
open Go

theorem allX_iff (l : List Prop) (K : Prop) : allX l K ↔ (∀ p ∈ l, p) ∧ K := by
  induction l with
  | nil => simp [allX]
  | cons p l ih => simp only [allX, ih, List.mem_cons, forall_eq_or_imp, and_assoc]
theorem condX_iff (b : Bool) (p q : Prop) : condX b p q ↔ (b = true → p) ∧ (b = false → q) := by cases b <;> simp [condX]
theorem appOff_of {i : Nat} {K : Nat → Prop} (h : appOff i K) : K 0 ∧ K i := by
  cases i with
  | zero => exact ⟨h, h⟩
  | succ i => exact ⟨h _, h _⟩

def OpPost (P : Program) (o : Oper) (ev : Operand → Value) (w : World) (R : Value → World → Prop) : Prop :=
  (∃ v w', (execOp ev o).run P w = .ok (.value v) w' ∧ R v w') ∨ (∃ w', (execOp ev o).run P w = .ok .skip w' ∧ R undef w') ∨
  (∃ f args, (execOp ev o).run P w = .ok (.enter f args) w ∧ Calls P f args w fun e w' => ∃ v, e = .returned v ∧ R v w')

theorem OpPost.mono {P : Program} {o : Oper} {ev : Operand → Value} {w : World} {R R' : Value → World → Prop} (h : OpPost P o ev w R) (hr : ∀ v w', R v w' → R' v w') : OpPost P o ev w R' := by
  rcases h with ⟨v, w', h1, h2⟩ | ⟨w', h1, h2⟩ | ⟨f, args, h1, h2⟩
  · exact Or.inl ⟨v, w', h1, hr _ _ h2⟩
  · exact Or.inr (Or.inl ⟨w', h1, hr _ _ h2⟩)
  · exact Or.inr (Or.inr ⟨f, args, h1, h2.mono fun e w' ⟨v, e1, e2⟩ => ⟨v, e1, hr _ _ e2⟩⟩)

theorem OpPost.wp {P : Program} {o : Oper} {a : Act} {w : World} {next : Act → World → Prop} {Q : Exit → Act → World → Prop} (h : OpPost P o a.eval w fun v w' => next (a.put o.dst v) w') : o.wp P a w next Q := by
  unfold Oper.wp
  rcases h with ⟨v, w', h1, h2⟩ | ⟨w', h1, h2⟩ | ⟨f, args, h1, h2⟩
  · rw [h1]; exact h2
  · rw [h1]; exact h2
  · rw [h1]
    refine h2.mono ?_
    rintro e w' ⟨v, rfl, hn⟩
    exact hn

def ExactSound (P : Program) (Λ : Lay) (f : Nat) (fn : List SV → Option (List Prop × SV)) : Prop :=
  fnOK P f ∧ ∀ args pre r, fn args = some (pre, r) → (∀ p ∈ pre, p) → ∀ A ρ, SV.InL A ρ args → r.In A ρ ∧ ∀ w, Λ.ok w → Calls P f (SV.denL ρ args).toArray w fun e w' => e = .returned (r.den ρ) ∧ Ext w w'
def GenSound (P : Program) (Λ : Lay) (f : Nat) (wt : List SV → Heap → Nat → (SV → Heap → Prop) → Prop) : Prop :=
  fnOK P f ∧ ∀ (args : List SV) (H : Heap) (nid : Nat) (K : SV → Heap → Prop) (B : Nat → Prop) (ρ : Val) (w : World), SV.InL ⟨fun i => i < nid, B⟩ ρ args → HOK ⟨fun i => i < nid, B⟩ ρ H w → Λ.ok w → (∀ b, Blks ρ H b → ¬ Λ.G b) → wt args H nid K →
    Calls P f (SV.denL ρ args).toArray w fun e w' => ∃ ρ' r H', e = .returned (r.den ρ') ∧ Moved ⟨fun i => i < nid, B⟩ ⟨fun i => i < nid + 8, B⟩ ρ H w ρ' H' r w' ∧ K r H'
def ΓOK (P : Program) (Λ : Lay) (Γ : Nat → Option Rule) : Prop := ∀ f, match Γ f with
  | none => True
  | some (.exact fn) => ExactSound P Λ f fn
  | some (.gen wt) => GenSound P Λ f wt

section
variable {P : Program} {Λ : Lay} {ty : Ty} {Γ : Nat → Option Rule} {E : Ent} {n : Nat} {s : SS} {ρ : Val} {a : Act} {w : World}

theorem okTag_sound (h : SatR E n s ρ a w) : ∀ fuel τ τ', okTag s fuel τ τ' = true → ρ.t τ = true → ρ.t τ' = true := by
  intro fuel
  induction fuel with
  | zero => intro τ τ' hk; simp [okTag] at hk
  | succ fuel ih =>
    intro τ τ' hk ht
    simp only [okTag] at hk
    split at hk
    · rename_i hb; rw [← Nat.eq_of_beq_eq_true hb]; exact ht
    · split at hk
      · rename_i t want hT
        split at hk
        · rename_i τ'' v hF
          refine ih τ'' τ' hk ?_
          have h1 := ((h.tags τ _ hT).2 t want rfl).1 ht
          obtain ⟨_, _, h2⟩ := h.slots t _ hF
          rw [h1] at h2
          cases hx : ρ.t τ'' with
          | true => rfl
          | false => simp [SV.den, hx, undef] at h2
        · cases hk
      · cases hk

theorem gbool_sound (h : SatR E n s ρ a w) : ∀ fuel t want b, gbool s fuel t want = some b → (b = true ↔ a.tmps[t]? = some (.bool want)) := by
  intro fuel
  induction fuel with
  | zero => intro t want b hk; simp [gbool] at hk
  | succ fuel ih =>
    intro t want b hk
    simp only [gbool] at hk
    split at hk
    · rename_i c hF
      obtain rfl := Option.some.inj hk
      obtain ⟨_, _, h2⟩ := h.slots t _ hF
      rw [h2]
      cases want <;> cases c <;> simp [SV.den]
    · rename_i τ c hF
      split at hk
      · rename_i t' want' hT
        split at hk
        · rename_i b' hb'
          obtain rfl := Option.some.inj hk
          have e1 := ih t' want' b' hb'
          have e2 := (h.tags τ _ hT).2 t' want' rfl
          obtain ⟨_, _, h2⟩ := h.slots t _ hF
          rw [h2]
          simp only [SV.den]
          cases hx : ρ.t τ with
          | true =>
            have : b' = true := e1.2 (e2.1 hx)
            subst this
            cases want <;> cases c <;> simp
          | false =>
            have : b' = false := by
              cases hb : b' with
              | false => rfl
              | true => rw [e2.2 (e1.1 hb)] at hx; cases hx
            subst this
            simp [undef]
        · cases hk
      · cases hk
    · cases hk

theorem fetch_sound (h : SatR E n s ρ a w) {g : Option Nat} (hg : ∀ τ, g = some τ → ρ.t τ = true) : Opnd s.names ρ a.eval (fetch s g) := by
  intro x sv hx
  cases x with
  | const v => simp only [fetch, Option.some.injEq] at hx; subst hx; exact ⟨rfl, trivial⟩
  | func f => simp only [fetch, Option.some.injEq] at hx; subst hx; exact ⟨rfl, trivial⟩
  | global m => simp only [fetch, Option.some.injEq] at hx; subst hx; exact ⟨rfl, trivial⟩
  | tmp t =>
    simp only [fetch] at hx
    have ev : ∀ v, look t s.F = some v → a.eval (.tmp t) = v.den ρ := by
      intro v hv
      obtain ⟨_, _, h2⟩ := h.slots t v hv
      simp [Act.eval, h2]
    split at hx
    · rename_i τ' v hF
      split at hx
      · rename_i τ
        split at hx
        · rename_i hk
          obtain rfl := Option.some.inj hx
          have ht := okTag_sound h 20 τ τ' hk (hg τ rfl)
          refine ⟨?_, (h.slots t _ hF).1.2 ht⟩
          rw [ev _ hF]; simp [SV.den, ht]
        · cases hx
      · cases hx
    · rename_i hno
      have hin := (h.slots t sv hx).1
      refine ⟨ev _ hx, ?_⟩
      cases sv with
      | opt τ v => exact absurd hx (hno τ v)
      | _ => exact hin

theorem pickOp_sound (h : SatR E n s ρ a w) {g : Option Nat} (hg : ∀ τ, g = some τ → ρ.t τ = true) {c x : Operand} {want : Bool} {sv : SV} (hx : pickOp s g c want x = some sv) :
    a.eval c = .bool want → sv.In s.names ρ ∧ a.eval x = sv.den ρ := by
  have gen : fetch s g x = some sv → a.eval c = .bool want → sv.In s.names ρ ∧ a.eval x = sv.den ρ := fun hf _ =>
    ⟨(fetch_sound h hg x sv hf).2, (fetch_sound h hg x sv hf).1⟩
  unfold pickOp at hx
  split at hx
  · rename_i t
    split at hx
    · rename_i τ v hF
      have key : ∀ tc w', look τ s.T = some (some (tc, w')) → c = .tmp tc → w' = want → some v = some sv → a.eval c = .bool want → sv.In s.names ρ ∧ a.eval (.tmp t) = sv.den ρ := by
        intro tc w' hT hc hw he
        obtain rfl := Option.some.inj he
        obtain ⟨hi, _, h2⟩ := h.slots t _ hF
        subst hc hw
        refine fun hev => ?_
        have hev' : a.tmps[tc]? = some (.bool w') := by
          simp only [Act.eval] at hev
          cases hh : a.tmps[tc]? with
          | none => simp [hh, undef] at hev
          | some u => simp [hh] at hev; rw [hev]
        have ht := ((h.tags τ _ hT).2 tc w' rfl).2 hev'
        exact ⟨hi.2 ht, by simp [Act.eval, h2, SV.den, ht]⟩
      split at hx
      · rename_i t' w' tc hT
        split at hx
        · rename_i hb; obtain rfl := Nat.eq_of_beq_eq_true hb; exact key _ _ hT rfl rfl hx
        · rename_i hb; obtain rfl := Nat.eq_of_beq_eq_true hb; exact key _ _ hT rfl rfl hx
        · exact gen hx
      · exact gen hx
    · exact gen hx
  · exact gen hx

theorem opDet_sound (hty : TyOK P ty) (h : SatR E n s ρ a w) {g : Option Nat} (hg : ∀ τ, g = some τ → ρ.t τ = true) {o : Oper} {d : Det} (hd : opDet ty s g o.op = some d) : DetSound P s.names ρ a.eval o d := by
  unfold opDet at hd
  split at hd
  · rename_i c x y hop
    unfold pickX at hd
    split at hd
    · rename_i cb p q hc hx hy
      obtain rfl := Option.some.inj hd
      intro _
      refine ⟨trivial, fun w' => ?_⟩
      have ec := (fetch_sound h hg c _ hc).1
      have ex := fun e => (pickOp_sound h hg hx e).2
      have ey := fun e => (pickOp_sound h hg hy e).2
      cases cb with
      | true => simp [execOp, hop, asBool, ec, SV.den, ex ec]
      | false => simp [execOp, hop, asBool, ec, SV.den, ey ec]
    · rename_i cb p q hc hx hy
      obtain rfl := Option.some.inj hd
      intro hp
      have hcb : cb = false := hp _ List.mem_cons_self
      subst hcb
      refine ⟨trivial, fun w' => ?_⟩
      have ec := (fetch_sound h hg c _ hc).1
      have ey := fun e => (pickOp_sound h hg hy e).2
      simp [execOp, hop, asBool, ec, SV.den, ey ec]
    · rename_i cb p q hc hx hy
      obtain rfl := Option.some.inj hd
      intro hp
      have hcb : cb = true := hp _ List.mem_cons_self
      subst hcb
      refine ⟨trivial, fun w' => ?_⟩
      have ec := (fetch_sound h hg c _ hc).1
      have ex := fun e => (pickOp_sound h hg hx e).2
      simp [execOp, hop, asBool, ec, SV.den, ex ec]
    · cases hd
  · exact detX_sound hty (fetch_sound h hg) (fun f => rfl) hd

/-- What only reads. -/
theorem detQ_sound (hΓ : ΓOK P Λ Γ) {A : Names} {H : Heap} (hH : HOK A ρ H w) (hl : Λ.ok w) {o : Oper} {d : Det} {pre : List Prop} {r : SV} (hs : DetSound P A ρ a.eval o d) (hq : detQ Γ H d = some (pre, r)) (hp : ∀ p ∈ pre, p) :
    r.In A ρ ∧ OpPost P o a.eval w fun v w' => v = r.den ρ ∧ Ext w w' := by
  cases d with
  | pure pre' r' =>
    simp only [detQ, Option.some.injEq, Prod.mk.injEq] at hq
    obtain ⟨rfl, rfl⟩ := hq
    obtain ⟨h1, h2⟩ := hs hp
    exact ⟨h1, Or.inl ⟨_, w, h2 w, rfl, Ext.refl w⟩⟩
  | rd id f =>
    simp only [detQ] at hq
    split at hq
    · rename_i so hl
      obtain ⟨g1, g2, g3⟩ := hH.here id so hl
      obtain ⟨h1, h2⟩ := hs.2 w so pre r g3 g2 hq hp
      exact ⟨h1, Or.inl ⟨_, w, h2, rfl, Ext.refl w⟩⟩
    · cases hq
  | call f args =>
    simp only [detQ] at hq
    have hf := hΓ f
    split at hq
    · rename_i fn hfn
      rw [hfn] at hf
      obtain ⟨f1, f2⟩ := hf
      obtain ⟨h1, h2⟩ := f2 args pre r hq hp A ρ hs.1
      exact ⟨h1, Or.inr (Or.inr ⟨f, _, hs.2 f1 w, (h2 w hl).mono fun e w' ⟨e1, e2⟩ => ⟨_, e1, rfl, e2⟩⟩)⟩
    · cases hq
  | wr id f => simp [detQ] at hq
  | new so r => simp [detQ] at hq
  | ask c => simp [detQ] at hq

/-- What writes, makes memory or calls. -/
theorem detK_sound (hΓ : ΓOK P Λ Γ) {B : Nat → Prop} {nid : Nat} {H : Heap} (hH : HOK ⟨fun i => i < nid, B⟩ ρ H w) (hl : Λ.ok w ∧ ∀ b, Blks ρ H b → ¬ Λ.G b) {o : Oper} {d : Det} {K : SV → Heap → Prop} (hs : DetSound P ⟨fun i => i < nid, B⟩ ρ a.eval o d) (hq : detK Γ H nid K d) :
    OpPost P o a.eval w fun v w' => ∃ ρ' r H', v = r.den ρ' ∧ Moved ⟨fun i => i < nid, B⟩ ⟨fun i => i < nid + 8, B⟩ ρ H w ρ' H' r w' ∧ K r H' := by
  have hb : ∀ i, i < nid → i < nid + 8 := fun i hi => by omega
  cases d with
  | pure pre' r' => exact hq.elim
  | rd id f => exact hq.elim
  | ask c =>
    obtain ⟨b, h1, h2⟩ := hs
    exact Or.inl ⟨_, _, h2 w, ρ, .g (.bool b), H, rfl, ⟨Val.agree_refl _ _, trivial, hH.mono (Val.agree_refl _ _) hb (fun t h => h), fun b hb => Or.inr hb, FrameBut.refl _ w⟩, hq b h1⟩
  | wr id f =>
    simp only [detK] at hq
    split at hq
    · rename_i so hl
      split at hq
      · rename_i pre so' r hf
        obtain ⟨hp, hK⟩ := (allX_iff _ _).1 hq
        obtain ⟨g1, g2, g3⟩ := hH.here id so hl
        obtain ⟨q1, q2, q0, q0', b, ob', q3, q3', q4, q5⟩ := hs.2 w so pre so' r g3 g2 hf hp
        obtain ⟨m1, m2, m3⟩ := hH.set hl q0 q0' q3 q3' q1 q4
        have hm : Moved ⟨fun i => i < nid, B⟩ ⟨fun i => i < nid + 8, B⟩ ρ H w ρ ((id, so') :: H) r (setBlk w b ob') :=
          ⟨Val.agree_refl _ _, SV.InO_of_In (SV.In_agree (A := ⟨fun i => i < nid, B⟩) (B := ⟨fun i => i < nid + 8, B⟩) (Val.agree_refl _ _) hb (fun t h => h) r q2), m1.mono (Val.agree_refl _ _) hb (fun t h => h), fun k hk => Or.inr (m3 k hk), m2⟩
        rcases q5 with q5 | ⟨rfl, q5⟩
        · exact Or.inl ⟨_, _, q5, ρ, r, _, rfl, hm, hK⟩
        · exact Or.inr (Or.inl ⟨_, q5, ρ, _, _, rfl, hm, hK⟩)
      · exact hq.elim
    · exact hq.elim
  | new so r =>
    simp only [detK] at hq
    obtain ⟨h1, h2⟩ := hs
    have hfresh : ¬ (⟨fun i => i < nid, B⟩ : Names).b nid := fun h => Nat.lt_irrefl _ h
    have hag : ρ.agree ⟨fun i => i < nid, B⟩ (upd ρ nid (some w.heap.size)) := upd_agree hfresh
    obtain ⟨r1, ob, r2, r3⟩ := h2 w nid (upd ρ nid (some w.heap.size)) hag (by simp [upd]) (by simp [upd])
    obtain ⟨m1, m2, m3⟩ := hH.new (B := ⟨fun i => i < nid + 8, B⟩) (so := so) (ob := ob) hfresh hb (show nid < nid + 8 by omega) (fun t h => h) (SO.In_agree (B := ⟨fun i => i < nid + 8, B⟩) hag hb (fun t h => h) h1) (SO.sat_agree hag h1 r2)
    refine Or.inl ⟨_, _, r3, upd ρ nid (some w.heap.size), r nid, _, rfl, ⟨hag, ?_, m1, m3, m2⟩, hq⟩
    refine SV.InO_of_In (SV.In_agree (A := (⟨fun i => i < nid, B⟩ : Names).add nid) (B := ⟨fun i => i < nid + 8, B⟩) (Val.agree_refl _ _) (fun i hi => ?_) (fun t h => h) _ r1)
    rcases hi with hi | hi
    · exact hb i hi
    · show i < nid + 8; omega
  | call f args =>
    simp only [detK] at hq
    have hf := hΓ f
    split at hq
    · rename_i wt hwt
      rw [hwt] at hf
      obtain ⟨f1, f2⟩ := hf
      exact Or.inr (Or.inr ⟨f, _, hs.2 f1 w, (f2 args H nid K B ρ w hs.1 hH hl.1 hl.2 hq).mono fun e w' ⟨ρ', r, H', e1, e2, e3⟩ => ⟨_, e1, ρ', r, H', rfl, e2, e3⟩⟩)
    · exact hq.elim

end
end Go.Eng
