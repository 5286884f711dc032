/- The engine, part U: functions; the contract of a function that only reckons. -/
import Derived.Test.YtghbejmnnfoamaaEngT
set_option linter.unusedVariables false
set_option linter.unusedSimpArgs false
namespace Go.Eng
open Go

theorem look_argF : ∀ (l : List SV) (i k : Nat), look k (argF i l) = if i ≤ k then l[k - i]? else none
  | [], i, k => by simp [argF, look]
  | v :: r, i, k => by
    simp only [argF]; rw [look_cons, look_argF r (i + 1) k]
    by_cases h : k = i
    · subst h; simp
    · rw [if_neg h]
      by_cases h2 : i ≤ k
      · rw [if_pos (by omega), if_pos h2]
        have : k - i = (k - (i + 1)) + 1 := by omega
        rw [this, List.getElem?_cons_succ]
      · rw [if_neg (by omega), if_neg h2]

section
variable {P : Program}

def resF (tmps : Array Value) : ResultVar → Sem Value
  | .tmp t => pure (tmps.getD t undef)
  | .cell x t => do loadVar t (← asAddr (tmps.getD x undef))
theorem results_eq (fn : Func) (tmps : Array Value) : results fn tmps = (do
    let vs ← fn.results.mapM (resF tmps)
    pure (if h : vs.size = 1 then vs[0] else .tuple vs)) := rfl
theorem run_asAddr (a : Addr) (w : World) : (asAddr (.pointer (some a))).run P w = .ok a w := rfl

theorem resL_sound {ty : Ty} (hty : TyOK P ty) {E : Ent} {n : Nat} {s : SS} {ρ : Val} {a : Act} {w : World} (h : SatR E n s ρ a w) : ∀ {rs : List ResultVar} {l : List SV}, resL ty s rs = some l →
    (rs.mapM (resF a.tmps)).run P w = .ok (SV.denL ρ l) w ∧ SV.InL s.names ρ l
  | [], l, hr => by simp [resL] at hr; subst hr; exact ⟨rfl, trivial⟩
  | .tmp t :: rs, l, hr => by
    simp only [resL] at hr
    split at hr
    · rename_i v l' hv hl
      obtain rfl := Option.some.inj hr
      obtain ⟨g1, g2⟩ := resL_sound hty h hl
      obtain ⟨q1, q2⟩ := fetch_sound h (g := none) (fun τ e => by cases e) _ _ hv
      refine ⟨?_, q2, g2⟩
      simp only [Act.eval] at q1
      simp only [List.mapM_cons, Sem.run_bind, resF, Sem.run_pure, Result.andThen_ok, g1, q1]
      rfl
    · cases hr
  | .cell x t :: rs, l, hr => by
    simp only [resL] at hr
    split at hr
    · rename_i id i st off d hv hd
      obtain ⟨ti, ud, ht⟩ := tdOf_facts (hty _ _ hd)
      split at hr
      · rename_i so hso
        split at hr
        · rename_i v hld
          split at hr
          · rename_i l' hl
            obtain rfl := Option.some.inj hr
            obtain ⟨g1, g2⟩ := resL_sound hty h hl
            obtain ⟨q1, q2⟩ := fetch_sound h (g := none) (fun τ e => by cases e) _ _ hv
            obtain ⟨h1, h2, h3⟩ := h.hok.here id so hso
            obtain ⟨r1, r2⟩ := loadX_sound ht h3 h2 hld (fun p hp => by cases hp)
            refine ⟨?_, r1, g2⟩
            simp only [Act.eval, SV.den] at q1
            simp only [List.mapM_cons, Sem.run_bind, resF, Sem.run_pure, q1, run_asAddr, Result.andThen_ok, r2, g1]
            rfl
          · cases hr
        · cases hr
      · cases hr
    · cases hr

theorem resX_sound {ty : Ty} (hty : TyOK P ty) {E : Ent} {n : Nat} {s : SS} {ρ : Val} {a : Act} {w : World} (h : SatR E n s ρ a w) {fn : Func} {r : SV} (hr : resX ty s fn.results.toList = some r) :
    (results fn a.tmps).run P w = .ok (r.den ρ) w ∧ r.In s.names ρ := by
  unfold resX at hr
  have fin : ∀ l, resL ty s fn.results.toList = some l → (results fn a.tmps).run P w = .ok (if h : l.length = 1 then (SV.denL ρ l)[0]'(by rw [denL_length]; omega) else .tuple (SV.denL ρ l).toArray) w := by
    intro l hl
    obtain ⟨g1, _⟩ := resL_sound hty h hl
    rw [results_eq]
    simp only [Array.mapM_eq_mapM_toList, Sem.run_bind, Sem.run_map, g1, Result.andThen_ok, Sem.run_pure]
    congr 1
    simp only [List.size_toArray, denL_length]
    split
    · rfl
    · rfl
  split at hr
  · rename_i v hl
    obtain rfl := Option.some.inj hr
    obtain ⟨_, g2⟩ := resL_sound hty h hl
    exact ⟨by rw [fin _ hl]; rfl, g2.1⟩
  · rename_i l hne hl
    obtain rfl := Option.some.inj hr
    obtain ⟨_, g2⟩ := resL_sound hty h hl
    refine ⟨?_, g2⟩
    rw [fin _ hl]
    have : ¬ l.length = 1 := by
      intro h1
      obtain ⟨v, rfl⟩ := List.length_eq_one_iff.1 h1
      exact hne v rfl
    simp [this, SV.den]
  · cases hr

/-- The names handed in. -/
def entNames (e : Nat) : Names := ⟨fun i => i < e, fun _ => False⟩

theorem fnX_sound {Λ : Lay} {cx : Cx} (hm : P.follows .mixedOrders = true) (hty : TyOK P cx.ty) (hΓ : ΓOK P Λ cx.Γ) {f : Nat} {fn : Func} {c : Code} (hf : P.funcs[f]? = some fn) (hb : fn.body = some c) (hn : fn.ntmps = cx.n) {args : List SV} {H : Heap} {K : SV → Heap → Prop} {ρ : Val} {w : World}
    (hlen : args.length ≤ cx.n) (hin : SV.InL (entNames cx.e) ρ args) (hH : HOK (entNames cx.e) ρ H w) (hl : Λ.ok w) (hd : ∀ b, Blks ρ H b → ¬ Λ.G b) (hK : fnX cx c fn.results.toList args H K) :
    Calls P f (SV.denL ρ args).toArray w fun e w' => ∃ A ρ' r H', e = .returned (r.den ρ') ∧ r.In A ρ' ∧ ρ.agree (entNames cx.e) ρ' ∧ HOK A ρ' H' w' ∧ (∀ b, Blks ρ' H' b → w.heap.size ≤ b ∨ Blks ρ H b) ∧ FrameBut (Blks ρ H) w w' ∧ K r H' := by
  let E : Ent := ⟨w, Blks ρ H, ρ, entNames cx.e, Λ, hl, hd⟩
  let s0 : SS := ⟨argF 0 args, H, cx.e, 0, []⟩
  have hnames : ∀ v : SV, v.In (entNames cx.e) ρ → v.In s0.names ρ := fun v hv => SV.In_agree (A := entNames cx.e) (B := s0.names) (Val.agree_refl _ _) (fun i hi => hi) (fun t ht => ht.elim) v hv
  have hsat : SatR E cx.n s0 ρ { tmps := (SV.denL ρ args).toArray ++ Array.replicate (fn.ntmps - (SV.denL ρ args).toArray.size) undef, defers := [] } w := by
    refine ⟨rfl, ?_, fun k v hk => ?_, hH.mono (Val.agree_refl _ _) (fun i hi => hi) (fun t ht => ht.elim), fun b hb => Or.inr hb, FrameBut.refl _ _, Val.agree_refl _ _, ⟨fun i hi => hi, fun t ht => ht.elim⟩, fun τ x hx => by simp [s0, look] at hx, Nat.zero_le _⟩
    · simp [denL_length, hn]; omega
    · have hk' : look k (argF 0 args) = some v := hk
      rw [look_argF, if_pos (Nat.zero_le _), Nat.sub_zero] at hk'
      have hkl : k < args.length := by
        rcases Nat.lt_or_ge k args.length with h | h
        · exact h
        · rw [List.getElem?_eq_none h] at hk'; cases hk'
      refine ⟨SV.InO_of_In (hnames v (InL_get hin hk')), by omega, ?_⟩
      rw [Array.getElem?_append_left (by simp [denL_length]; exact hkl)]
      simp only [List.getElem?_toArray, denL_get, hk', Option.map_some]
  refine calls_of_wp hf hb (wp_mono (wpX_sound hm hty hΓ (E := E) rfl c _ s0 ρ _ w hsat hK) fun e a w' hq => ?_)
  have fin : ∀ (ex : EX), SatP E cx.n (fun s => match ex with
      | .exit _ => False
      | _ => match resX cx.ty s fn.results.toList with
        | some r => K r s.H
        | none => False) a w' → (∀ id, ex ≠ .exit id) → a.defers = [] ∧ ∃ v, (results fn a.tmps).run P w' = .ok v w' ∧ ∃ A ρ' r H', Ending.returned v = .returned (r.den ρ') ∧ r.In A ρ' ∧ ρ.agree (entNames cx.e) ρ' ∧ HOK A ρ' H' w' ∧ (∀ b, Blks ρ' H' b → w.heap.size ≤ b ∨ Blks ρ H b) ∧ FrameBut (Blks ρ H) w w' ∧ K r H' := by
    rintro ex ⟨s, ρ', hs, hk⟩ hne
    cases ex with
    | exit id => exact absurd rfl (hne id)
    | normal =>
      simp only [] at hk
      split at hk
      · rename_i r hr
        obtain ⟨g1, g2⟩ := resX_sound hty hs hr
        exact ⟨hs.defers, _, g1, s.names, ρ', r, s.H, rfl, g2, hs.agree, hs.hok, hs.own, hs.frame, hk⟩
      · exact hk.elim
    | ret =>
      simp only [] at hk
      split at hk
      · rename_i r hr
        obtain ⟨g1, g2⟩ := resX_sound hty hs hr
        exact ⟨hs.defers, _, g1, s.names, ρ', r, s.H, rfl, g2, hs.agree, hs.hok, hs.own, hs.frame, hk⟩
      · exact hk.elim
  cases e with
  | normal => exact fin .normal hq (fun id e => by cases e)
  | ret => exact fin .ret hq (fun id e => by cases e)
  | exit id => obtain ⟨s, ρ', _, hk⟩ := hq; exact hk.elim
  | goto l => exact hq.elim
  | panic c => exact hq.elim
  | outgrown => exact hq.elim

mutual
/-- Values without names. -/
def SV.gnd : SV → Bool
  | .g _ => true
  | .agg cs => SV.gndL cs
  | .tup cs => SV.gndL cs
  | _ => false
def SV.gndL : List SV → Bool
  | [] => true
  | x :: xs => x.gnd && SV.gndL xs
end
mutual
theorem SV.gnd_den {ρ ρ' : Val} : ∀ {v : SV}, v.gnd = true → v.den ρ = v.den ρ' ∧ ∀ A ρ, v.In A ρ
  | .g v, _ => ⟨rfl, fun _ _ => trivial⟩
  | .agg cs, h => by
    obtain ⟨h1, h2⟩ := SV.gndL_den (ρ := ρ) (ρ' := ρ') (l := cs) h
    exact ⟨by simp only [SV.den, h1], fun A ρ => h2 A ρ⟩
  | .tup cs, h => by
    obtain ⟨h1, h2⟩ := SV.gndL_den (ρ := ρ) (ρ' := ρ') (l := cs) h
    exact ⟨by simp only [SV.den, h1], fun A ρ => h2 A ρ⟩
  | .ptr _ _ _ _, h => by simp [SV.gnd] at h
  | .sl _ _ _ _ _, h => by simp [SV.gnd] at h
  | .fn _ _, h => by simp [SV.gnd] at h
  | .opt _ _, h => by simp [SV.gnd] at h
theorem SV.gndL_den {ρ ρ' : Val} : ∀ {l : List SV}, SV.gndL l = true → SV.denL ρ l = SV.denL ρ' l ∧ ∀ A ρ, SV.InL A ρ l
  | [], _ => ⟨rfl, fun _ _ => trivial⟩
  | x :: xs, h => by
    simp only [SV.gndL, Bool.and_eq_true] at h
    obtain ⟨h1, h2⟩ := SV.gnd_den (ρ := ρ) (ρ' := ρ') h.1
    obtain ⟨h3, h4⟩ := SV.gndL_den (ρ := ρ) (ρ' := ρ') h.2
    exact ⟨by simp only [SV.denL, h1, h3], fun A ρ => ⟨h2 A ρ, h4 A ρ⟩⟩
end

/-- A Prop, wrapped: nobody looks inside it by chance. -/
structure Held (p : Prop) : Prop where
  h : p
theorem held0 {V p : Prop} (e : V = p) (h : V) : Held p := ⟨e ▸ h⟩
theorem held1 {V : Prop} {A : Sort _} {p : A → Prop} (e : V = ∀ a, p a) (h : V) : ∀ a, Held (p a) := fun a => ⟨(e ▸ h : ∀ a, p a) a⟩
theorem held2 {V : Prop} {A : Sort _} {B : A → Sort _} {p : ∀ a, B a → Prop} (e : V = ∀ a b, p a b) (h : V) : ∀ a b, Held (p a b) := fun a b => ⟨(e ▸ h : ∀ a b, p a b) a b⟩
theorem held3 {V : Prop} {A : Sort _} {B : A → Sort _} {C : ∀ a, B a → Sort _} {p : ∀ a b, C a b → Prop} (e : V = ∀ a b c, p a b c) (h : V) : ∀ a b c, Held (p a b c) := fun a b c => ⟨(e ▸ h : ∀ a b c, p a b c) a b c⟩
theorem held4 {V : Prop} {A : Sort _} {B : A → Sort _} {C : ∀ a, B a → Sort _} {D : ∀ a b, C a b → Sort _} {p : ∀ a b c, D a b c → Prop} (e : V = ∀ a b c d, p a b c d) (h : V) : ∀ a b c d, Held (p a b c d) := fun a b c d => ⟨(e ▸ h : ∀ a b c d, p a b c d) a b c d⟩

/-- THE CONTRACT OF A FUNCTION THAT ONLY RECKONS. -/
theorem exact_of {Λ : Lay} {cx : Cx} (hm : P.follows .mixedOrders = true) (hty : TyOK P cx.ty) (hΓ : ΓOK P Λ cx.Γ) {f : Nat} {fn : Func} {c : Code} (hf : P.funcs[f]? = some fn) (hb : fn.body = some c) (hn : fn.ntmps = cx.n) (he : cx.e = 0) {args : List SV} {r : SV}
    (hlen : args.length ≤ cx.n) (hg : SV.gndL args = true) (hr : r.gnd = true) (hK : Held (fnX cx c fn.results.toList args [] (fun r' _ => r' = r))) (A : Names) (ρ : Val) :
    r.In A ρ ∧ ∀ w, Λ.ok w → Calls P f (SV.denL ρ args).toArray w fun e w' => e = .returned (r.den ρ) ∧ Ext w w' := by
  refine ⟨(SV.gnd_den (ρ := ρ) (ρ' := ρ) hr).2 A ρ, fun w hl => ?_⟩
  refine (fnX_sound hm hty hΓ hf hb hn (ρ := ρ) (w := w) hlen ((SV.gndL_den (ρ := ρ) (ρ' := ρ) hg).2 _ _) ⟨fun id so h => by simp [look] at h, fun i j si sj b h => by simp [look] at h⟩ hl (fun b hb => by obtain ⟨j, sj, hj, _⟩ := hb; simp [look] at hj) hK.h).mono ?_
  rintro e w' ⟨A', ρ', r', H', rfl, _, _, _, _, hfr, rfl⟩
  refine ⟨by rw [(SV.gnd_den (ρ := ρ') (ρ' := ρ) hr).1], hfr.mono fun k _ hk => ?_⟩
  obtain ⟨j, sj, hj, _⟩ := hk
  simp [look] at hj

end
end Go.Eng
