/- The engine, part Y: a region that draws its order, to its end. -/
import Derived.Test.YtghbejmnnfoamaaEngX
set_option linter.unusedVariables false
set_option linter.unusedSimpArgs false
namespace Go.Eng
open Go
section
variable {P : Program} {ty : Ty} {Γ : Nat → Option Rule} {E : Ent} {n : Nat} {s : SS} {ρ : Val} {a : Act} {w : World} {H0 : Heap}

/-- The blocks of the region's begin are as they were. -/
def Still (E : Ent) (H0 : Heap) (w : World) : Prop := ∀ id so, look id H0 = some so → At E.ρ0 w id so
/-- The names of the region's begin. -/
def Begun (E : Ent) (H0 : Heap) : Prop := ∀ id so, look id H0 = some so → E.A0.b id ∧ so.In E.A0 E.ρ0

theorem Still.kept {w' : World} (h : Still E H0 w) (hw : ∀ (k : Nat) (o : Obj), w.heap[k]? = some o → (∃ id so, look id H0 = some so ∧ E.ρ0.b id = some k) → w'.heap[k]? = some o) : Still E H0 w' :=
  fun id so hl => (h id so hl).world fun b o e1 e2 => hw b o e2 ⟨id, so, hl, e1⟩
theorem Still.ext {w' : World} (h : Still E H0 w) (hw : Ext w w') : Still E H0 w' :=
  h.kept fun k o hk _ => by rw [hw.block k (lt_of_block hk) (fun f => f)]; exact hk

theorem quietX_sound (hty : TyOK P ty) (hB : Begun E H0) (hS : Still E H0 w) (h : SatR E n s ρ a w) {g : Option Nat} (hg : ∀ τ, g = some τ → ρ.t τ = true) {o : Oper} {pre : List Prop} {r : SV} (hq : quietX ty H0 s g o.op = some (pre, r)) (hp : ∀ p ∈ pre, p) :
    r.In s.names ρ ∧ ∀ w', Still E H0 w' → (execOp a.eval o).run P w' = .ok (.value (r.den ρ)) w' := by
  have sub : ∀ v : SO, v.In E.A0 E.ρ0 → v.In s.names ρ := fun v hv => SO.In_agree h.agree h.sub.1 (fun t ht => Or.inl (h.sub.2 t ht)) hv
  unfold quietX at hq
  split at hq
  · rename_i pre' r' hd
    simp only [Option.some.injEq, Prod.mk.injEq] at hq
    obtain ⟨rfl, rfl⟩ := hq
    obtain ⟨h1, h2⟩ := opDet_sound hty h hg hd hp
    exact ⟨h1, fun w' _ => h2 w'⟩
  · rename_i id f hd
    split at hq
    · rename_i so hl
      have hs := opDet_sound hty h hg hd
      obtain ⟨b1, b2⟩ := hB id so hl
      have key : ∀ w', Still E H0 w' → r.In s.names ρ ∧ (execOp a.eval o).run P w' = .ok (.value (r.den ρ)) w' := fun w' hS =>
        hs.2 w' so pre r ((hS id so hl).agree h.agree b1 b2) (sub so b2) hq hp
      exact ⟨(key w hS).1, fun w' hS' => (key w' hS').2⟩
    · cases hq
  · cases hq

theorem yielded_iff {ops : Array Oper} {j t : Nat} {want : Bool} (ht : (ops[j]?).bind (·.dst) = some t) : (yielded ops a.tmps j == some want) = true ↔ a.tmps[t]? = some (.bool want) := by
  unfold yielded
  rw [ht]
  simp only [Option.bind_some]
  cases a.tmps[t]? with
  | none => simp
  | some v => cases v <;> simp

theorem quietStep_sound (hty : TyOK P ty) (hB : Begun E H0) (hS : Still E H0 w) {ops : Array Oper} {base : Nat} {o : Oper} {K : SS → Prop} (h : SatR E n s ρ a w) (hK : quietStep ty n ops.toList base H0 o s K) :
    ∃ v, YieldsIf P ops (Still E H0) o v a ∧ SatP E n K (a.put o.dst v) w := by
  unfold quietStep at hK
  split at hK
  · rename_i hg
    split at hK
    · rename_i pre r hq
      obtain ⟨hp, hK⟩ := (allX_iff _ _).1 hK
      obtain ⟨h1, h2⟩ := quietX_sound hty hB hS h (g := none) (fun τ e => by cases e) hq hp
      refine ⟨r.den ρ, Or.inl ⟨by simp [Region.wanted, hg], h2⟩, h.next (moved_ext rfl h.hok (Ext.refl w) (SV.InO_of_In h1)) hK⟩
    · exact hK.elim
  · rename_i j want hg
    simp only [Array.getElem?_toList] at hK
    split at hK
    · rename_i t ht
      obtain ⟨b, s', ρ', h', hτ, hiff, hb, hK', hag, e1, e2, e3, hnt⟩ := guardWith_sound h hK
      have hy := yielded_iff (a := a) (want := want) ht
      split at hK'
      · rename_i pre r hq
        obtain ⟨hp, hK'⟩ := (allX_iff _ _).1 hK'
        cases hx : ρ'.t (tagOf base j want) with
        | true =>
          obtain ⟨h1, h2⟩ := quietX_sound hty hB hS h' (g := some (tagOf base j want)) (fun τ e => by cases e; exact hx) hq (fun p hpm => by
            have := hp (gimp b p) (List.mem_map.2 ⟨p, hpm, rfl⟩)
            exact this (hb.2 hx))
          refine ⟨r.den ρ', Or.inl ⟨by simp only [Region.wanted, hg]; exact hy.2 (hiff.1 hx), h2⟩, ?_⟩
          have := h'.next (r := .opt (tagOf base j want) r) (moved_ext rfl h'.hok (Ext.refl w) ⟨hτ, fun _ => h1⟩) hK'
          simpa [SV.den, hx] using this
        | false =>
          refine ⟨undef, Or.inr ⟨?_, rfl⟩, ?_⟩
          · simp only [Region.wanted, hg]
            cases hw : (yielded ops a.tmps j == some want) with
            | false => rfl
            | true => rw [hiff.2 (hy.1 hw)] at hx; cases hx
          · have := h'.next (r := .opt (tagOf base j want) r) (moved_ext rfl h'.hok (Ext.refl w) ⟨hτ, fun e => by rw [e] at hx; cases hx⟩) hK'
            simpa [SV.den, hx] using this
      · exact hK'.elim
    · exact hK.elim

theorem lookm {α : Type} {k : Nat} {v : α} {l : List (Nat × α)} (h : look k l = some v) : (k, v) ∈ l := by
  induction l with
  | nil => simp [look] at h
  | cons x l ih =>
    obtain ⟨k', v'⟩ := x
    rw [look_cons] at h
    split at h
    · rename_i e; subst e; obtain rfl := Option.some.inj h; exact List.mem_cons_self
    · exact List.mem_cons_of_mem _ (ih h)

theorem hasK_iff {k : Nat} : ∀ {l : List Nat}, hasK k l = true ↔ k ∈ l
  | [] => by simp [hasK]
  | j :: r => by
    simp only [hasK]
    split
    · rename_i hb; obtain rfl := Nat.eq_of_beq_eq_true hb; simp
    · rename_i hb
      have : k ≠ j := fun e => by subst e; rw [Nat.beq_refl] at hb; cases hb
      rw [hasK_iff]; simp [this]
theorem look_subH {H0 : Heap} {k : Nat} : ∀ {H : Heap} {seen : List Nat}, look k (subH H0 seen H) = if k ∈ seen then none else match look k H with
    | none => none
    | some o => if (look k H0).isSome = true then toRo o else some o
  | [], seen => by simp [subH, look]
  | (k', o) :: r, seen => by
    simp only [subH]
    by_cases hs : k ∈ seen
    · rw [if_pos hs]
      split
      · rw [look_subH, if_pos hs]
      · rename_i hk
        have hne : k ≠ k' := fun e => by subst e; rw [hasK_iff.2 hs] at hk; cases hk
        split
        · rw [look_cons, if_neg hne, look_subH, if_pos hs]
        · split
          · rw [look_cons, if_neg hne, look_subH, if_pos (List.mem_cons_of_mem _ hs)]
          · rw [look_subH, if_pos (List.mem_cons_of_mem _ hs)]
    · rw [if_neg hs]
      split
      · rename_i hk
        have hne : k ≠ k' := fun e => by subst e; exact hs (hasK_iff.1 hk)
        rw [look_subH, if_neg hs, look_cons, if_neg hne]
      · by_cases hne : k = k'
        · subst hne
          rw [look_cons, if_pos rfl]
          simp only []
          split
          · rename_i h0
            rw [look_cons, if_pos rfl, h0]; simp
          · rename_i x h0
            rw [h0]
            simp only [Option.isSome_some, if_true]
            split
            · rename_i o' ho; rw [look_cons, if_pos rfl, ho]
            · rename_i ho; rw [look_subH, if_pos List.mem_cons_self, ho]
        · rw [look_cons, if_neg hne]
          have hs2 : k ∉ k' :: seen := fun h => by
            rcases List.mem_cons.1 h with h | h
            · exact hne h
            · exact hs h
          split
          · rw [look_cons, if_neg hne, look_subH, if_neg hs]
          · split
            · rw [look_cons, if_neg hne, look_subH, if_neg hs2]
            · rw [look_subH, if_neg hs2]
theorem look_filterK {α : Type} {p : Nat → Bool} {k : Nat} : ∀ (l : List (Nat × α)), look k (l.filter fun x => p x.1) = if p k = true then look k l else none
  | [] => by simp [look]
  | (k', v) :: r => by
    by_cases h : p k' = true
    · rw [List.filter_cons_of_pos (by exact h), look_cons, look_cons, look_filterK r]
      by_cases e : k = k'
      · subst e; simp [h]
      · simp [e]
    · rw [List.filter_cons_of_neg (by exact h), look_cons, look_filterK r]
      by_cases e : k = k'
      · subst e; simp [h]
      · simp [e]
theorem look_appendK {α : Type} (k : Nat) : ∀ (l l' : List (Nat × α)), look k (l ++ l') = (look k l).or (look k l')
  | [], _ => rfl
  | (k', v) :: r, l' => by
    rw [List.cons_append, look_cons, look_cons]
    by_cases h : k = k'
    · rw [if_pos h, if_pos h]; rfl
    · rw [if_neg h, if_neg h]; exact look_appendK k r l'
theorem look_mrgH {H0 H H1 : Heap} {k : Nat} : look k (mrgH H0 H H1) = if (look k H0).isSome = true then look k H else look k H1 := by
  unfold mrgH
  rw [look_appendK, look_filterK (p := fun k => (look k H0).isNone), look_filterK (p := fun k => (look k H0).isSome)]
  cases h : look k H0 with
  | none => simp
  | some x => simp
theorem toRo_isRo {o o' : SO} (h : toRo o = some o') : o'.isRo = true := by
  cases o <;> simp [toRo] at h <;> subst h <;> rfl
theorem toRo_In {A : Names} {ρ : Val} {o o' : SO} (h : toRo o = some o') (hi : o.In A ρ) : o'.In A ρ := by
  cases o <;> simp [toRo] at h <;> subst h <;> exact hi
theorem toRo_At {ρ : Val} {w : World} {id : Nat} {o o' : SO} (h : toRo o = some o') (ha : At ρ w id o) : At ρ w id o' := by
  cases o with
  | view s n c row T =>
    simp [toRo] at h; subst h
    rcases ha.view with ⟨b, arr, fr, e1, e0, e2, _, _, q4⟩ | ⟨e1, rfl⟩
    · exact Or.inr (Or.inr ⟨s, n, row, b, arr, T, fr, rfl, e1, e2, fun i hi => ⟨(q4 i hi).1, fun j hj => by rw [e0, Nat.zero_add]; exact (q4 i hi).2 j hj⟩⟩)
    · exact Or.inr (Or.inl ⟨e1, Or.inr ⟨s, row, rfl⟩⟩)
  | ro s n row => simp [toRo] at h; subst h; exact ha
  | cells cs T => simp [toRo] at h
  | iter s p => simp [toRo] at h
  | raw φ => simp [toRo] at h
/-- An entry of the part: made in the region, or read alone. -/
theorem subH_entry {H0 H : Heap} {k : Nat} {o1 : SO} (h : look k (subH H0 [] H) = some o1) : ∃ o, look k H = some o ∧ ((look k H0 = none ∧ o1 = o) ∨ ((look k H0).isSome = true ∧ toRo o = some o1)) := by
  rw [look_subH, if_neg (by simp)] at h
  split at h
  · cases h
  · rename_i o ho
    refine ⟨o, ho, ?_⟩
    split at h
    · rename_i h0; exact Or.inr ⟨h0, h⟩
    · rename_i h0
      refine Or.inl ⟨?_, (Option.some.inj h).symm⟩
      cases hh : look k H0 with
      | none => rfl
      | some x => rw [hh] at h0; simp at h0
theorem keepGen_sound (hty : TyOK P ty) (hB : Begun E H0) (hS : Still E H0 w) {o : Oper} {K : SS → Prop} (h : SatR E n s ρ a w) (hK : keepGen ty n H0 o s K) :
    OpPost P o a.eval w fun v w' => SatP E n K (a.put o.dst v) w' ∧ Still E H0 w' := by
  have hg : ∀ τ, (none : Option Nat) = some τ → ρ.t τ = true := fun τ e => by cases e
  unfold keepGen at hK
  split at hK
  rotate_left
  · exact hK.elim
  rename_i hkeys
  have hkey : ∀ k, (look k H0).isSome = true → ∃ so, look k s.H = some so := by
    intro k hk
    obtain ⟨x, hx⟩ := Option.isSome_iff_exists.1 hk
    exact Option.isSome_iff_exists.1 (List.all_eq_true.1 hkeys _ (lookm hx))
  have H1 : HOK ⟨fun i => i < s.nx, s.names.t⟩ ρ (subH H0 [] s.H) w := by
    refine ⟨fun k o1 hk => ?_, fun i j oi oj b hi hj e1 e2 => ?_⟩
    · obtain ⟨o, ho, ⟨_, rfl⟩ | ⟨_, hr⟩⟩ := subH_entry hk
      · exact h.hok.here k o1 ho
      · obtain ⟨g1, g2, g3⟩ := h.hok.here k o ho
        exact ⟨g1, toRo_In hr g2, toRo_At hr g3⟩
    · obtain ⟨qi, hqi, ci⟩ := subH_entry hi
      obtain ⟨qj, hqj, cj⟩ := subH_entry hj
      rcases h.hok.inj i j qi qj b hqi hqj e1 e2 with e | ⟨r1, r2⟩
      · exact Or.inl e
      · refine Or.inr ⟨?_, ?_⟩
        · rcases ci with ⟨_, rfl⟩ | ⟨_, hr⟩
          · exact r1
          · exact toRo_isRo hr
        · rcases cj with ⟨_, rfl⟩ | ⟨_, hr⟩
          · exact r2
          · exact toRo_isRo hr
  -- a block that may be written was made in the region
  have own1 : ∀ b, Blks ρ (subH H0 [] s.H) b → ∃ i so, look i H0 = none ∧ look i s.H = some so ∧ so.isRo = false ∧ ρ.b i = some b := by
    rintro b ⟨i, so, hi, hr, e⟩
    obtain ⟨q, hq, ⟨h0, rfl⟩ | ⟨_, hro⟩⟩ := subH_entry hi
    · exact ⟨i, so, h0, hq, hr, e⟩
    · rw [toRo_isRo hro] at hr; cases hr
  have apart : ∀ b, Blks ρ (subH H0 [] s.H) b → ∀ k, (look k H0).isSome = true → ρ.b k ≠ some b := by
    intro b hb k hk e
    obtain ⟨i, so, h0, hi, hr, e1⟩ := own1 b hb
    obtain ⟨sk, hsk⟩ := hkey k hk
    rcases h.hok.inj k i sk so b hsk hi e e1 with q | ⟨_, q⟩
    · subst q; rw [h0] at hk; cases hk
    · rw [hr] at q; cases q
  refine (genX_sound hty H1 (fetch_sound h hg) hK).mono ?_
  rintro v w' ⟨ρ', r, H', rfl, hm, hK⟩
  split at hK
  rotate_left
  · exact hK.elim
  rename_i hro
  have sub : ∀ b, Blks ρ (subH H0 [] s.H) b → Blks ρ s.H b := fun b hb => by
    obtain ⟨i, so, _, hi, hr, e⟩ := own1 b hb
    exact ⟨i, so, hi, hr, e⟩
  have nro : ∀ k so, look k H0 = none → look k H' = some so → so.isRo = false := by
    intro k so h0 hk
    have := List.all_eq_true.1 hro _ (lookm hk)
    rw [h0] at this
    simpa using this
  have hb8 : ∀ i, i < s.nx → i < s.nx + 8 := fun i hi => by omega
  have old : ∀ k so, look k s.H = some so → ρ'.b k = ρ.b k := fun k so hk => (hm.agree.1 k (h.hok.here k so hk).1).1
  have mv : Moved s.names s.names' ρ s.H w ρ' (mrgH H0 s.H H') r w' := by
    refine ⟨hm.agree, hm.res, ⟨fun k so hk => ?_, fun i j si sj b hi hj e1 e2 => ?_⟩, ?_, hm.frame.mono fun k _ hk => sub k hk⟩
    · rw [look_mrgH] at hk
      split at hk
      · rename_i h0
        obtain ⟨g1, g2, g3⟩ := h.hok.here k so hk
        refine ⟨hb8 k g1, SO.In_agree (B := s.names') hm.agree hb8 (fun t h => h) g2, (g3.agree hm.agree g1 g2).world fun b o' eb eo => ?_⟩
        rw [hm.frame.block b (lt_of_block eo) fun hbb => apart b hbb k h0 (by rw [← old k so hk]; exact eb)]; exact eo
      · exact hm.hok.here k so hk
    · rw [look_mrgH] at hi hj
      have cross : ∀ i j si sj, look i H0 = none → look i H' = some si → (look j H0).isSome = true → look j s.H = some sj → ρ'.b i = some b → ρ'.b j = some b → False := by
        intro i j si sj h0 hi hj0 hj e1 e2
        rw [old j sj hj] at e2
        rcases hm.own b ⟨i, si, hi, nro i si h0 hi, e1⟩ with q | q
        · have := h.hok.lt hj e2; omega
        · exact apart b q j hj0 e2
      have nn : ∀ k, ¬ (look k H0).isSome = true → look k H0 = none := fun k hk => by
        cases hh : look k H0 with
        | none => rfl
        | some x => rw [hh] at hk; simp at hk
      split at hi
      · rename_i i0
        split at hj
        · rename_i j0
          rw [old i si hi] at e1; rw [old j sj hj] at e2
          exact h.hok.inj i j si sj b hi hj e1 e2
        · rename_i j0
          exact (cross j i sj si (nn j j0) hj i0 hi e2 e1).elim
      · rename_i i0
        split at hj
        · rename_i j0
          exact (cross i j si sj (nn i i0) hi j0 hj e1 e2).elim
        · exact hm.hok.inj i j si sj b hi hj e1 e2
    · rintro b ⟨k, so, hk, hr, e⟩
      rw [look_mrgH] at hk
      split at hk
      · rw [old k so hk] at e; exact Or.inr ⟨k, so, hk, hr, e⟩
      · exact (hm.own b ⟨k, so, hk, hr, e⟩).imp id (sub b)
  refine ⟨h.next mv hK, hS.kept fun k o' hk ⟨id0, so0, e1, e2⟩ => ?_⟩
  rw [hm.frame.block k (lt_of_block hk) fun hbb => apart k hbb id0 (by rw [e1]; rfl) (by rw [(h.agree.1 id0 (hB id0 so0 e1).1).1]; exact e2)]; exact hk

theorem keepRun_sound (hty : TyOK P ty) (hΓ : ΓOK P E.Λ Γ) (hB : Begun E H0) (hS : Still E H0 w) {o : Oper} {K : SS → Prop} (h : SatR E n s ρ a w) (hK : keepRun ty Γ n H0 o s K) :
    OpPost P o a.eval w fun v w' => SatP E n K (a.put o.dst v) w' ∧ Still E H0 w' := by
  have hg : ∀ τ, (none : Option Nat) = some τ → ρ.t τ = true := fun τ e => by cases e
  unfold keepRun at hK
  split at hK
  · rename_i so r hd
    have hs := opDet_sound hty h hg hd
    obtain ⟨h1, h2⟩ := hs
    have hb : ∀ i, i < s.nx → i < s.nx + 8 := fun i hi => by omega
    have hfresh : ¬ s.names.b s.nx := fun h => Nat.lt_irrefl _ h
    have hag : ρ.agree s.names (upd ρ s.nx (some w.heap.size)) := upd_agree hfresh
    obtain ⟨r1, ob, r2, r3⟩ := h2 w s.nx (upd ρ s.nx (some w.heap.size)) hag (by simp [upd]) (by simp [upd])
    obtain ⟨m1, m2, m3⟩ := h.hok.new (B := s.names') (so := so) (ob := ob) hfresh hb (show s.nx < s.nx + 8 by omega) (fun t h => h) (SO.In_agree (B := s.names') hag hb (fun t h => h) h1) (SO.sat_agree hag h1 r2)
    refine Or.inl ⟨_, _, r3, h.next ⟨hag, ?_, m1, m3, m2⟩ hK, hS.kept fun k o' hk _ => by rw [heap_alloc_old w ob k (lt_of_block hk)]; exact hk⟩
    refine SV.InO_of_In (SV.In_agree (A := s.names.add s.nx) (B := s.names') (Val.agree_refl _ _) (fun i hi => ?_) (fun t h => h) _ r1)
    rcases hi with hi | hi
    · exact hb i hi
    · show i < s.nx + 8; omega
  · rename_i id f hd
    split at hK
    · rename_i so hl0 hl hkeys
      split at hK
      · rename_i pre so' r hf
        obtain ⟨hp, hK⟩ := (allX_iff _ _).1 hK
        have hs := opDet_sound hty h hg hd
        obtain ⟨g1, g2, g3⟩ := h.hok.here id so hl
        obtain ⟨q1, q2, q0, q0', b, ob', q3, q3', q4, q5⟩ := hs.2 w so pre so' r g3 g2 hf hp
        obtain ⟨m1, m2, m3⟩ := h.hok.set hl q0 q0' q3 q3' q1 q4
        have hb : ∀ i, i < s.nx → i < s.nx + 8 := fun i hi => by omega
        have hm : Moved s.names s.names' ρ s.H w ρ ((id, so') :: s.H) r (setBlk w b ob') :=
          ⟨Val.agree_refl _ _, SV.InO_of_In (SV.In_agree (A := s.names) (B := s.names') (Val.agree_refl _ _) hb (fun t h => h) r q2), m1.mono (Val.agree_refl _ _) hb (fun t h => h), fun k hk => Or.inr (m3 k hk), m2⟩
        have hblt : b < w.heap.size := h.hok.lt hl q3
        have hstill : Still E H0 (setBlk w b ob') := hS.kept fun k o' hk ⟨id0, so0, e1, e2⟩ => by
          rw [setBlk_get hblt, if_neg]
          · exact hk
          · intro e; subst e
            have := List.all_eq_true.1 hkeys _ (lookm e1)
            obtain ⟨so1, hso1⟩ := Option.isSome_iff_exists.1 this
            have e3 : ρ.b id0 = some b := by rw [(h.agree.1 id0 (hB id0 so0 e1).1).1]; exact e2
            rcases h.hok.inj id0 id so1 so b hso1 hl e3 q3 with e4 | ⟨_, e4⟩
            · subst e4; rw [hl0] at e1; cases e1
            · rw [q0] at e4; cases e4
        rcases q5 with q5 | ⟨rfl, q5⟩
        · exact Or.inl ⟨_, _, q5, h.next hm hK, hstill⟩
        · exact Or.inr (Or.inl ⟨_, q5, h.next hm hK, hstill⟩)
      · exact hK.elim
    · exact hK.elim
  · rename_i d _ _ hd
    split at hK
    · rename_i pre r hq
      obtain ⟨hp, hK⟩ := (allX_iff _ _).1 hK
      have hs := opDet_sound hty h hg hd
      obtain ⟨hr, hpost⟩ := detQ_sound hΓ h.hok h.lay.1 hs hq hp
      refine hpost.mono ?_
      rintro v w' ⟨rfl, hw⟩
      exact ⟨h.next (moved_ext rfl h.hok hw (SV.InO_of_In hr)) hK, hS.ext hw⟩
    · exact hK.elim
  · exact keepGen_sound hty hB hS h hK

theorem keepStep_sound (hty : TyOK P ty) (hΓ : ΓOK P E.Λ Γ) (hB : Begun E H0) (hS : Still E H0 w) {ops : Array Oper} {base : Nat} {o : Oper} {K : SS → Prop} (h : SatR E n s ρ a w) (hK : keepStep ty Γ n ops.toList base H0 o s K) :
    (Region.wanted o (yielded ops a.tmps) = true → OpPost P o a.eval w fun v w' => SatP E n K (a.put o.dst v) w' ∧ Still E H0 w') ∧ (Region.wanted o (yielded ops a.tmps) = false → SatP E n K (a.put o.dst undef) w ∧ Still E H0 w) := by
  unfold keepStep at hK
  unfold Region.wanted
  split at hK
  · rename_i hg
    rw [hg]
    exact ⟨fun _ => keepRun_sound hty hΓ hB hS h hK, fun e => by cases e⟩
  · rename_i j want hg
    rw [hg]
    simp only [Array.getElem?_toList] at hK
    split at hK
    · rename_i t ht
      obtain ⟨b, s', ρ', h', hτ, hiff, hb, hK', hag, e1, e2, e3, hnt⟩ := guardWith_sound h hK
      have hy := yielded_iff (a := a) (want := want) ht
      split at hK'
      · rename_i d hd
        split at hK'
        · rename_i pre r hq
          obtain ⟨hp, hK'⟩ := (allX_iff _ _).1 hK'
          refine ⟨fun e => ?_, fun e => ?_⟩
          · have hx : ρ'.t (tagOf base j want) = true := hiff.2 (hy.1 e)
            have hs := opDet_sound hty h' (g := some (tagOf base j want)) (fun τ e => by cases e; exact hx) hd
            obtain ⟨hr, hpost⟩ := detQ_sound hΓ h'.hok h'.lay.1 hs hq (fun p hpm => by
              have := hp (gimp b p) (List.mem_map.2 ⟨p, hpm, rfl⟩)
              exact this (hb.2 hx))
            refine hpost.mono ?_
            rintro v w' ⟨rfl, hw⟩
            have := h'.next (r := .opt (tagOf base j want) r) (moved_ext rfl h'.hok hw ⟨hτ, fun _ => hr⟩) hK'
            exact ⟨by simpa [SV.den, hx] using this, hS.ext hw⟩
          · have hx : ρ'.t (tagOf base j want) = false := by
              cases hx : ρ'.t (tagOf base j want) with
              | false => rfl
              | true => simp only [] at e; rw [hy.2 (hiff.1 hx)] at e; cases e
            have := h'.next (r := .opt (tagOf base j want) r) (w' := w) (moved_ext rfl h'.hok (Ext.refl w) ⟨hτ, fun e => by rw [e] at hx; cases hx⟩) hK'
            exact ⟨by simpa [SV.den, hx] using this, hS⟩
        · exact hK'.elim
      · exact hK'.elim
    · exact hK.elim

theorem allR_mem {f : Nat → Prop} : ∀ {l : List Nat}, allR l f → ∀ i ∈ l, f i
  | [], _, i, hi => by cases hi
  | [x], h, i, hi => by simp at hi; subst hi; exact h
  | x :: y :: r, h, i, hi => by
    rcases List.mem_cons.1 hi with rfl | hi
    · exact h.1
    · exact allR_mem h.2 i hi

theorem firstQ_spec {p : Oper → Bool} {ops : Array Oper} : ∀ {l : List Nat} {i : Nat}, firstQ p ops l = some i → i ∈ l ∧ ∃ o, ops[i]? = some o ∧ isQ o.op = true
  | [], i, h => by simp [firstQ] at h
  | x :: r, i, h => by
    simp only [firstQ] at h
    split at h
    · rename_i o ho
      split at h
      · rename_i hq _; obtain rfl := Option.some.inj h; exact ⟨by simp, o, ho, hq⟩
      · obtain ⟨h1, h2⟩ := firstQ_spec h; exact ⟨List.mem_cons_of_mem _ h1, h2⟩
    · obtain ⟨h1, h2⟩ := firstQ_spec h; exact ⟨List.mem_cons_of_mem _ h1, h2⟩

/-- How many are not listed yet. -/
def cnt (listed : Array Bool) : Nat := (listed.toList.filter fun b => !b).length
theorem cnt_set {listed : Array Bool} {i : Nat} (h : listed.getD i true = false) : cnt (listed.setIfInBounds i true) + 1 = cnt listed := by
  have hlt : i < listed.size := by
    rcases Nat.lt_or_ge i listed.size with h' | h'
    · exact h'
    · simp [Array.getElem?_eq_none h'] at h
  have hv : listed[i] = false := by simpa [hlt] using h
  unfold cnt
  rw [Array.toList_setIfInBounds]
  obtain ⟨l⟩ := listed
  simp only [] at *
  clear h
  induction l generalizing i with
  | nil => simp at hlt
  | cons x l ih =>
    cases i with
    | zero => simp at hv; subst hv; simp
    | succ i =>
      simp only [List.set_cons_succ]
      have := ih (i := i) (by simpa using hlt) (by simpa using hv)
      cases x <;> simp_all

mutual
theorem SV.In_b {A B : Names} {ρ : Val} (hb : ∀ i, A.b i → B.b i) : ∀ (v : SV), v.In A ρ → v.In B ρ
  | .g v, _ => trivial
  | .ptr id i s off, hv => hb _ hv
  | .sl id i s len cap, hv => ⟨hb _ hv.1, hv.2⟩
  | .agg cs, hv => SV.InL_b hb cs hv
  | .tup cs, hv => SV.InL_b hb cs hv
  | .fn f cs, hv => SV.InL_b hb cs hv
  | .opt t v, hv => hv.elim
theorem SV.InL_b {A B : Names} {ρ : Val} (hb : ∀ i, A.b i → B.b i) : ∀ (l : List SV), SV.InL A ρ l → SV.InL B ρ l
  | [], _ => trivial
  | x :: xs, hv => ⟨SV.In_b hb x hv.1, SV.InL_b hb xs hv.2⟩
end
theorem SO.In_b {A B : Names} {ρ : Val} (hb : ∀ i, A.b i → B.b i) {so : SO} (hi : so.In A ρ) : so.In B ρ := by
  cases so with
  | cells cs T => exact SV.InL_b hb cs hi
  | view s n c row T => exact fun i hin => SV.InL_b hb _ (hi i hin)
  | iter s pos => trivial
  | raw φ => trivial
  | ro s n row => exact fun i hin => SV.InL_b hb _ (hi i hin)

/-- EVERY ORDER COMES TO WHAT drawX SAYS. -/
theorem drawX_sound {Λ : Lay} (hty : TyOK P ty) (hΓ : ΓOK P Λ Γ) {ops : Array Oper} {base : Nat} {Q : Exit → Act → World → Prop} {K : SS → Prop} (hsel : Region.noSelect ops = true) (hQp : ∀ c a w, ¬ Q (.panic c) a w) :
    ∀ (fuel : Nat) (E : Ent) (hΛ : E.Λ = Λ) (H0 : Heap) (hB : Begun E H0) (hQn : ∀ a w, SatP E n K a w → Q .normal a w) (listed : Array Bool) (s : SS) (ρ : Val) (a : Act) (w : World), SatR E n s ρ a w → DC ops listed → cnt listed ≤ fuel → Still E H0 w →
      drawX ty Γ n ops base H0 (fuel + 1) listed s K → AnyD P ops Q (Still E H0) fuel listed a w := by
  intro fuel
  have fin : ∀ (E : Ent) (hQn : ∀ a w, SatP E n K a w → Q .normal a w) (s : SS) (ρ : Val) (a : Act) (w : World), SatR E n s ρ a w → K ⟨s.F, s.H, s.nx, Nat.max s.tb s.nx, []⟩ → Q .normal a w := by
    intro E hQn s ρ a w h hK
    refine hQn a w ⟨⟨s.F, s.H, s.nx, Nat.max s.tb s.nx, []⟩, ρ, ?_, hK⟩
    have ht : ∀ x, s.names.t x → x < Nat.max s.tb s.nx := fun x hx => by
      rcases hx with hx | hx
      · exact Nat.lt_of_lt_of_le hx (Nat.le_max_left _ _)
      · obtain ⟨y, hy⟩ := Option.isSome_iff_exists.1 hx
        exact Nat.lt_of_lt_of_le (h.tags x y hy).1 (Nat.le_max_right _ _)
    have ht' : ∀ x, s.names.t x → (⟨s.F, s.H, s.nx, Nat.max s.tb s.nx, []⟩ : SS).names.t x := fun x hx => Or.inl (ht x hx)
    refine ⟨h.defers, h.size, fun k v hk => ?_, h.hok.mono (Val.agree_refl _ _) (fun i hi => hi) ht', h.own, h.frame, h.agree, ⟨h.sub.1, fun x hx => Nat.lt_of_lt_of_le (h.sub.2 x hx) (Nat.le_max_left _ _)⟩, fun x y hx => by simp [look] at hx, Nat.max_le.2 ⟨h.tb, Nat.le_refl _⟩⟩
    obtain ⟨q1, q2, q3⟩ := h.slots k v hk
    exact ⟨SV.InO_agree (A := s.names) (B := (⟨s.F, s.H, s.nx, Nat.max s.tb s.nx, []⟩ : SS).names) (Val.agree_refl _ _) (fun i hi => hi) ht' q1, q2, q3⟩
  induction fuel with
  | zero =>
    intro E hΛ H0 hB hQn listed s ρ a w h hdc hc hS hK
    have hr : Region.ready .any ops listed = [] := by
      cases hr : Region.ready .any ops listed with
      | nil => rfl
      | cons i rs =>
        have := (mem_ready.1 (hr ▸ List.mem_cons_self (a := i) (l := rs))).1
        have := cnt_set this
        omega
    simp only [drawX, hr] at hK
    exact ⟨hr, fin E hQn s ρ a w h hK⟩
  | succ fuel ih =>
    intro E hΛ H0 hB hQn listed s ρ a w h hdc hc hS hK
    rw [drawX] at hK
    cases hr : Region.ready .any ops listed with
    | nil =>
      rw [hr] at hK
      exact ⟨fun _ => fin E hQn s ρ a w h hK, fun i hi => by rw [hr] at hi; cases hi⟩
    | cons i0 rs =>
      rw [hr] at hK
      simp only [] at hK
      split at hK
      · rename_i i hq
        obtain ⟨him, o, ho, hqo⟩ := firstQ_spec hq
        have hir : i ∈ Region.ready .any ops listed := by rw [hr]; exact him
        have hun := (mem_ready.1 hir).1
        rw [ho] at hK
        split at hK
        · rename_i o' ho' hfree
          obtain rfl := Option.some.inj ho'
          obtain ⟨v, hy, s', ρ', h', hK'⟩ := quietStep_sound (ops := ops) hty hB hS h hK
          refine AnyD.first ho hqo (Region.noSelect_spec hsel) hQp fuel listed a w hdc (Region.free_spec ho hfree) hir hy hS ?_
          exact ih E hΛ H0 hB hQn (listed.setIfInBounds i true) s' ρ' _ w h' (hdc.set hir) (by have := cnt_set hun; omega) hS hK'
        · exact hK.elim
      · refine ⟨fun e => (by rw [hr] at e; cases e), fun i hi => ?_⟩
        rw [hr] at hi
        have hir : i ∈ Region.ready .any ops listed := by rw [hr]; exact hi
        have hun := (mem_ready.1 hir).1
        have hKi := allR_mem hK i hi
        have hcnt : cnt (listed.setIfInBounds i true) ≤ fuel := by have := cnt_set hun; omega
        split at hKi
        · rename_i o ho
          unfold wpOp
          simp only [ho]
          split at hKi
          · rename_i hl
            obtain ⟨g1, g2⟩ := stepX_sound (ops := ops) hty (hΛ.symm ▸ hΓ) h hKi
            have next : ∀ a w', SatP E n (fun s' => drawX ty Γ n ops base (keepK H0 s'.H) (fuel + 1) (listed.setIfInBounds i true) s' K) a w' → (lateX ops i = true ∧ wpAny P .any ops Q fuel (listed.setIfInBounds i true) a w') ∨ (Still E H0 w' ∧ AnyD P ops Q (Still E H0) fuel (listed.setIfInBounds i true) a w') := by
              rintro a w' ⟨s', ρ', h', hK'⟩
              have kk : ∀ {id : Nat} {so : SO}, look id (keepK H0 s'.H) = some so → look id s'.H = some so := fun {id so} hk => by
                unfold keepK at hk
                rw [look_filterK (p := fun k => (look k H0).isSome)] at hk
                split at hk
                · exact hk
                · cases hk
              refine Or.inl ⟨hl, AnyD.any (S := Still ⟨E.w0, E.M, ρ', ⟨s'.names.b, fun t => t < s'.tb⟩, E.Λ, E.lok, E.lap⟩ (keepK H0 s'.H)) _ _ _ _ (ih ⟨E.w0, E.M, ρ', ⟨s'.names.b, fun t => t < s'.tb⟩, E.Λ, E.lok, E.lap⟩ hΛ (keepK H0 s'.H) (fun id so hl => ?_) (fun a w hs => ?_) (listed.setIfInBounds i true) s' ρ' a w' ?_ (hdc.set hir) hcnt (fun id so hl => (h'.hok.here id so (kk hl)).2.2) hK')⟩
              · obtain ⟨q1, q2, _⟩ := h'.hok.here id so (kk hl)
                exact ⟨q1, SO.In_b (A := s'.names) (B := ⟨s'.names.b, fun t => t < s'.tb⟩) (fun i hi => hi) q2⟩
              · obtain ⟨s2, ρ2, h2, hk⟩ := hs
                exact hQn a w ⟨s2, ρ2, ⟨h2.defers, h2.size, h2.slots, h2.hok, h2.own, h2.frame, Val.agree_trans h'.agree h2.agree h'.sub.1 h'.sub.2, ⟨fun i hi => h2.sub.1 i (h'.sub.1 i hi), fun t ht => h2.sub.2 t (h'.sub.2 t ht)⟩, h2.tags, h2.tb⟩, hk⟩
              · exact ⟨h'.defers, h'.size, h'.slots, h'.hok, h'.own, h'.frame, Val.agree_refl _ _, ⟨fun i hi => hi, fun t ht => ht⟩, h'.tags, h'.tb⟩
            cases hw : Region.wanted o (yielded ops a.tmps) with
            | true => simp only [if_true]; exact Or.inl (OpPost.wp ((g1 hw).mono fun v w' => next _ _))
            | false => simp only [Bool.false_eq_true, if_false]; exact next _ _ (g2 hw)
          · rename_i hl
            obtain ⟨g1, g2⟩ := keepStep_sound (ops := ops) hty (hΛ.symm ▸ hΓ) hB hS h hKi
            have next : ∀ a w', SatP E n (fun s' => drawX ty Γ n ops base H0 (fuel + 1) (listed.setIfInBounds i true) s' K) a w' ∧ Still E H0 w' → (lateX ops i = true ∧ wpAny P .any ops Q fuel (listed.setIfInBounds i true) a w') ∨ (Still E H0 w' ∧ AnyD P ops Q (Still E H0) fuel (listed.setIfInBounds i true) a w') := by
              rintro a w' ⟨⟨s', ρ', h', hK'⟩, hs⟩
              exact Or.inr ⟨hs, ih E hΛ H0 hB hQn (listed.setIfInBounds i true) s' ρ' a w' h' (hdc.set hir) hcnt hs hK'⟩
            cases hw : Region.wanted o (yielded ops a.tmps) with
            | true => simp only [if_true]; exact Or.inl (OpPost.wp ((g1 hw).mono fun v w' => next _ _))
            | false => simp only [Bool.false_eq_true, if_false]; exact next _ _ (g2 hw)
        · exact hKi.elim

/-- A region that draws its order. -/
theorem drawRegion_sound (hty : TyOK P ty) (hΓ : ΓOK P E.Λ Γ) (hm : P.follows .mixedOrders = true) {id : Nat} {ops : Array Oper} {Q : Exit → Act → World → Prop} {K : SS → Prop} (hQn : ∀ a w, SatP E n K a w → Q .normal a w) (hQp : ∀ c a w, ¬ Q (.panic c) a w) (h : SatR E n s ρ a w) (hK : drawRegion ty Γ n ops s K) :
    (Code.region id ops true).wp P Q a w := by
  unfold drawRegion at hK
  split at hK
  · rename_i hsel hT
    refine wp_region_any hm ?_
    have hdrew : SatR E n s ρ a { w with drawn := w.drawn + 1 } := by
      have e : Ext w { w with drawn := w.drawn + 1 } := ⟨rfl, rfl, rfl, Nat.le_refl _, fun k _ _ => rfl⟩
      exact ⟨h.defers, h.size, h.slots, h.hok.world fun b j so _ _ => rfl, h.own, h.frame.trans (e.frame _), h.agree, h.sub, h.tags, h.tb⟩
    let E1 : Ent := ⟨E.w0, E.M, ρ, s.names, E.Λ, E.lok, E.lap⟩
    have h1 : SatR E1 n s ρ a { w with drawn := w.drawn + 1 } := ⟨hdrew.defers, hdrew.size, hdrew.slots, hdrew.hok, hdrew.own, hdrew.frame, Val.agree_refl _ _, ⟨fun i hi => hi, fun t ht => by
      rcases ht with ht | ht
      · exact ht
      · rw [hT] at ht; simp [look] at ht⟩, hdrew.tags, hdrew.tb⟩
    have back : ∀ a w, SatP E1 n K a w → SatP E n K a w := by
      rintro a w ⟨s', ρ', h', hk⟩
      exact ⟨s', ρ', ⟨h'.defers, h'.size, h'.slots, h'.hok, h'.own, h'.frame, Val.agree_trans h.agree h'.agree h.sub.1 (fun t ht => Or.inl (h.sub.2 t ht)), ⟨fun i hi => h'.sub.1 i (h.sub.1 i hi), fun t ht => h'.sub.2 t (Or.inl (h.sub.2 t ht))⟩, h'.tags, h'.tb⟩, hk⟩
    have hdc : DC ops (Array.replicate ops.size false) := fun j o _ hj => by
      rcases Nat.lt_or_ge j ops.size with h' | h' <;> simp [h'] at hj
    refine AnyD.any _ _ _ _ (drawX_sound hty hΓ hsel hQp ops.size E1 rfl s.H (fun id so hl => ⟨(h.hok.here id so hl).1, (h.hok.here id so hl).2.1⟩) (fun a w hs => hQn a w (back a w hs)) _ s ρ a _ h1 hdc ?_ (fun id so hl => (hdrew.hok.here id so hl).2.2) hK)
    simp [cnt]
  · exact hK.elim

end
end Go.Eng
