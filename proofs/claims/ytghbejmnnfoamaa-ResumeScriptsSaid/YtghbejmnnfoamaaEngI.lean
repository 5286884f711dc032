/- The engine, part I: comparisons and calls; all operations in one theorem. -/
import Derived.Test.YtghbejmnnfoamaaEngH
set_option linter.unusedVariables false
set_option linter.unusedSimpArgs false
namespace Go.Eng
open Go
section
variable {P : Program} {A : Names} {ρ : Val} {ev : Operand → Value} {v : Operand → Option SV} {ty : Ty} {o : Oper}

theorem binX_other (hty : TyOK P ty) {op : BinOp} {t : TypeId} {a b : SV} {d : Det}
    (h : (match op with
      | .eql => (eqX ty t a b).map fun b => Det.pure [] (.g (.bool b))
      | .neq => (eqX ty t a b).map fun b => Det.pure [] (.g (.bool (!b)))
      | _ => none) = some d)
    (hb1 : ∀ w, (binOp .eql t (a.den ρ) (b.den ρ)).run P w = ((Op.equal t (a.den ρ) (b.den ρ)).run P w).andThen fun x w' => .ok (.bool x) w')
    (hb2 : ∀ w, (binOp .neq t (a.den ρ) (b.den ρ)).run P w = ((Op.equal t (a.den ρ) (b.den ρ)).run P w).andThen fun x w' => .ok (.bool (!x)) w') :
    ∃ r, d = .pure [] (.g r) ∧ ∀ (x y : Operand) w, (do eqGuard op t x y (a.den ρ) (b.den ρ); binOp op t (a.den ρ) (b.den ρ) : Sem Value).run P w = .ok r w := by
  split at h
  · cases he : eqX ty t a b with
    | none => rw [he] at h; cases h
    | some c =>
      rw [he] at h; simp only [Option.map_some, Option.some.injEq] at h; subst h
      refine ⟨_, rfl, fun x y w => ?_⟩
      obtain ⟨g1, g2⟩ := eqX_run (ρ := ρ) hty he .eql x y w
      rw [Sem.run_bind, g1, Result.andThen_ok, hb1, g2]; rfl
  · cases he : eqX ty t a b with
    | none => rw [he] at h; cases h
    | some c =>
      rw [he] at h; simp only [Option.map_some, Option.some.injEq] at h; subst h
      refine ⟨_, rfl, fun x y w => ?_⟩
      obtain ⟨g1, g2⟩ := eqX_run (ρ := ρ) hty he .neq x y w
      rw [Sem.run_bind, g1, Result.andThen_ok, hb2, g2]; rfl
  · cases h

theorem eqX_shape {t : Nat} {x y : SV} {b : Bool} (h : eqX ty t x y = some b) :
    (∃ p q, x = .g (.bool p) ∧ y = .g (.bool q)) ∨ (∃ p q, x = .agg p ∧ y = .agg q) ∨ ((∃ a, x.den ρ = .pointer a) ∧ (∃ a, y.den ρ = .pointer a)) := by
  unfold eqX at h
  split at h
  · split at h
    · exact Or.inl ⟨_, _, rfl, rfl⟩
    · cases h
  · split at h
    · exact Or.inr (Or.inl ⟨_, _, rfl, rfl⟩)
    · cases h
  · split at h
    · exact Or.inr (Or.inr ⟨⟨_, rfl⟩, ⟨_, rfl⟩⟩)
    · exact Or.inr (Or.inr ⟨⟨_, rfl⟩, ⟨_, rfl⟩⟩)
    · exact Or.inr (Or.inr ⟨⟨_, rfl⟩, ⟨_, rfl⟩⟩)
    · exact Or.inr (Or.inr ⟨⟨_, rfl⟩, ⟨_, rfl⟩⟩)
    · cases h
  · cases h

theorem bin_shape {t : Nat} {x y : Value} (h : (∃ p q, x = .bool p ∧ y = .bool q) ∨ (∃ p q, x = .agg p ∧ y = .agg q) ∨ ((∃ a, x = .pointer a) ∧ (∃ a, y = .pointer a))) (w : World) :
    (binOp .eql t x y).run P w = ((Op.equal t x y).run P w).andThen (fun x w' => .ok (.bool x) w') ∧ (binOp .neq t x y).run P w = ((Op.equal t x y).run P w).andThen (fun x w' => .ok (.bool (!x)) w') := by
  rcases h with ⟨p, q, rfl, rfl⟩ | ⟨p, q, rfl, rfl⟩ | ⟨⟨a, rfl⟩, ⟨b, rfl⟩⟩
  · simp [binOp]
  · simp [binOp]
  · simp [binOp]

theorem slcEq (d : Nat) {t e : TypeId} (h : P.underlying t = some (.slice e)) (a : Option Addr) (m n m' n' : Nat) (w : World) : (Op.equalIn (d + 1) t (.slice a m n) (.slice none m' n')).run P w = .ok a.isNone w := by
  cases a <;> simp [Op.equalIn, run_underlying h]
theorem slc_nil {t e : TypeId} (h : P.underlying t = some (.slice e)) {a : Option Addr} {m n m' n' : Nat} (op : BinOp) (xo yo : Operand) (w : World) :
    (eqGuard op t xo yo (.slice a m n) (.slice none m' n')).run P w = .ok () w ∧ (binOp .eql t (.slice a m n) (.slice none m' n')).run P w = .ok (.bool a.isNone) w ∧ (binOp .neq t (.slice a m n) (.slice none m' n')).run P w = .ok (.bool (!a.isNone)) w := by
  have he : (Op.equal t (.slice a m n) (.slice none m' n')).run P w = .ok a.isNone w := by
    exact slcEq 9999 h a m n m' n' w
  refine ⟨by cases op <;> simp [eqGuard], ?_, ?_⟩
  · simp [binOp, he]
  · simp [binOp, he]

theorem s_binOp (hty : TyOK P ty) (hv : Opnd A ρ ev v) {op : BinOp} {t yt : TypeId} {x y : Operand} (hop : o.op = .binOp op t x y yt) {d : Det} (h : detX ty v o.op = some d) : DetSound P A ρ ev o d := by
  rw [hop] at h
  simp only [detX] at h
  split at h
  · rename_i a b hx hy
    obtain ⟨h1, h2⟩ := hv _ _ hx
    obtain ⟨h3, h4⟩ := hv _ _ hy
    have fin : ∀ pre r, d = .pure pre (.g r) → ((∀ p ∈ pre, p) → ∀ w, (do eqGuard op t x y (a.den ρ) (b.den ρ); binOp op t (a.den ρ) (b.den ρ) : Sem Value).run P w = .ok r w) → DetSound P A ρ ev o d := by
      rintro pre r rfl hr hp
      refine ⟨trivial, fun w => ?_⟩
      have := hr hp w
      simp only [execOp, hop, h1, h3]
      rw [Sem.run_bind, this]; rfl
    unfold binX at h
    split at h
    · rename_i k m k' n
      split at h
      · cases hs : shiftI .shl k m n with
        | none => rw [hs] at h; cases h
        | some r =>
          rw [hs] at h; simp only [Option.map_some, Option.some.injEq] at h
          refine fin r.1 r.2 h.symm fun hp w => ?_
          rw [Sem.run_bind]; simp only [SV.den]; rw [guard_int, Result.andThen_ok]
          exact s_shiftI (r := r.2) (pre := r.1) hs hp t w
      · cases hs : shiftI .shr k m n with
        | none => rw [hs] at h; cases h
        | some r =>
          rw [hs] at h; simp only [Option.map_some, Option.some.injEq] at h
          refine fin r.1 r.2 h.symm fun hp w => ?_
          rw [Sem.run_bind]; simp only [SV.den]; rw [guard_int, Result.andThen_ok]
          exact s_shiftI (r := r.2) (pre := r.1) hs hp t w
      · split at h
        · rename_i hk
          obtain rfl := of_decide_eq_true hk
          cases hs : binI op k m n with
          | none => rw [hs] at h; cases h
          | some r =>
            rw [hs] at h; simp only [Option.map_some, Option.some.injEq] at h
            refine fin r.1 r.2 h.symm fun hp w => ?_
            rw [Sem.run_bind]; simp only [SV.den]; rw [guard_int, Result.andThen_ok]
            exact (s_binI (r := r.2) (pre := r.1) hs hp t w).1
        · cases h
    · rename_i m n
      cases hs : binS op m n with
      | none => rw [hs] at h; cases h
      | some r =>
        rw [hs] at h; simp only [Option.map_some, Option.some.injEq] at h
        refine fin r.1 r.2 h.symm fun hp w => ?_
        rw [Sem.run_bind]; simp only [SV.den]; rw [guard_str, Result.andThen_ok]
        exact s_binS (r := r.2) (pre := r.1) hs hp t w
    · rename_i id i s len cap m n
      have hnil : ρ.b id = none → len = 0 ∧ cap = 0 := h2.2.1
      obtain ⟨bo, hbo, hbn⟩ : ∃ bo : Option Addr, (SV.sl id i s len cap).den ρ = .slice bo len cap ∧ (bo.isNone = true → ρ.b id = none) := by
        simp only [SV.den]
        cases hb : ρ.b id with
        | none => exact ⟨none, rfl, fun _ => rfl⟩
        | some b => exact ⟨_, rfl, fun h => by simp at h⟩
      rw [hbo] at h1
      split at h
      · rename_i e sz by' z hop' htd
        obtain ⟨ti, ud, ht⟩ := tdOf_facts (hty _ _ htd)
        obtain rfl := tk_slc ht.kind
        simp only [Option.some.injEq] at h; subst h
        refine ⟨bo.isNone, fun hc => hnil (hbn hc), fun w => ?_⟩
        obtain ⟨q1, q2, q3⟩ := slc_nil ht.und (a := bo) (m := len) (n := cap) (m' := m) (n' := n) .eql x y w
        simp only [execOp, hop, h1, h3, SV.den]
        rw [Sem.run_bind, Sem.run_bind, q1, Result.andThen_ok, q2]; rfl
      · rename_i e sz by' z hop' htd
        obtain ⟨ti, ud, ht⟩ := tdOf_facts (hty _ _ htd)
        obtain rfl := tk_slc ht.kind
        simp only [Option.some.injEq] at h; subst h
        refine ⟨!bo.isNone, fun hc => hnil (hbn (by simpa using hc)), fun w => ?_⟩
        obtain ⟨q1, q2, q3⟩ := slc_nil ht.und (a := bo) (m := len) (n := cap) (m' := m) (n' := n) .neq x y w
        simp only [execOp, hop, h1, h3, SV.den]
        rw [Sem.run_bind, Sem.run_bind, q1, Result.andThen_ok, q3]; rfl
      · cases h
    · rename_i m n m' n'
      split at h
      · rename_i e sz by' z hop' htd
        obtain ⟨ti, ud, ht⟩ := tdOf_facts (hty _ _ htd)
        obtain rfl := tk_slc ht.kind
        simp only [Option.some.injEq] at h
        refine fin [] _ h.symm fun _ w => ?_
        obtain ⟨q1, q2, q3⟩ := slc_nil ht.und (a := none) (m := m) (n := n) (m' := m') (n' := n') .eql x y w
        simp only [SV.den]
        rw [Sem.run_bind, q1, Result.andThen_ok, q2]; rfl
      · rename_i e sz by' z hop' htd
        obtain ⟨ti, ud, ht⟩ := tdOf_facts (hty _ _ htd)
        obtain rfl := tk_slc ht.kind
        simp only [Option.some.injEq] at h
        refine fin [] _ h.symm fun _ w => ?_
        obtain ⟨q1, q2, q3⟩ := slc_nil ht.und (a := none) (m := m) (n := n) (m' := m') (n' := n') .neq x y w
        simp only [SV.den]
        rw [Sem.run_bind, q1, Result.andThen_ok, q3]; rfl
      · cases h
    · have hsh : ∃ c, eqX ty t a b = some c := by
        revert h
        split
        · cases eqX ty t a b with
          | none => intro h; cases h
          | some c => intro _; exact ⟨c, rfl⟩
        · cases eqX ty t a b with
          | none => intro h; cases h
          | some c => intro _; exact ⟨c, rfl⟩
        · intro h; cases h
      obtain ⟨c, hc⟩ := hsh
      have hs : (∃ p q, a.den ρ = .bool p ∧ b.den ρ = .bool q) ∨ (∃ p q, a.den ρ = .agg p ∧ b.den ρ = .agg q) ∨ ((∃ p, a.den ρ = .pointer p) ∧ (∃ p, b.den ρ = .pointer p)) := by
        rcases eqX_shape (ρ := ρ) hc with ⟨p, q, rfl, rfl⟩ | ⟨p, q, rfl, rfl⟩ | h'
        · exact Or.inl ⟨_, _, rfl, rfl⟩
        · exact Or.inr (Or.inl ⟨_, _, rfl, rfl⟩)
        · exact Or.inr (Or.inr h')
      obtain ⟨r, hr, hrun⟩ := binX_other (ρ := ρ) hty h (fun w => (bin_shape hs w).1) (fun w => (bin_shape hs w).2)
      exact fin [] r hr fun _ w => hrun x y w
  · cases h

theorem run_callFunc {f : Nat} (hf : fnOK P f) (args : Array Value) (w : World) : (callFunc f args).run P w = .ok (.enter f args) w := by
  obtain ⟨fn, h1, h2, h3⟩ := hf
  unfold callFunc
  simp only [Sem.run_bind, run_program, Result.andThen_ok, h1, h2, h3, Bool.false_eq_true, if_false]
  rfl

theorem optL_bind {x : Option SV} {f : SV → Option Det} {d : Det} (h : x.bind f = some d) : ∃ y, x = some y ∧ f y = some d := by
  cases x with
  | none => cases h
  | some y => exact ⟨y, rfl, h⟩

theorem args_two {args : Array Operand} {x y : Operand} (h : args.toList = [x, y]) : args = #[x, y] := Array.toList_inj.1 (by simpa using h)
theorem args_one {α : Type} {args : Array α} {x : α} (h : args.toList = [x]) : args = #[x] := Array.toList_inj.1 (by simpa using h)

theorem s_call (hty : TyOK P ty) (hv : Opnd A ρ ev v) (hvf : ∀ f, ev (.func f) = .func (.func f) #[] #[]) {c : Call} (hop : o.op = .call c) {d : Det} (h : detX ty v o.op = some d) : DetSound P A ρ ev o d := by
  rw [hop] at h
  simp only [detX] at h
  obtain ⟨callee, args, argTypes⟩ := c
  simp only [] at h
  unfold detCall at h
  split at h
  · rename_i b
    unfold detBuiltin at h
    split at h
    · rename_i x t hargs hts
      obtain rfl := args_one hargs
      obtain rfl := args_one hts
      obtain ⟨a, hx, hf⟩ := optL_bind h
      obtain ⟨h1, h2⟩ := hv _ _ hx
      unfold detLen at hf
      split at hf
      · rename_i sz by' z s htd
        obtain ⟨ti, ud, ht⟩ := tdOf_facts (hty _ _ htd)
        obtain rfl := tk_str ht.kind
        obtain rfl := Option.some.inj hf
        exact fun _ => ⟨trivial, fun w => by simp [execOp, hop, resolve, invoke, builtin, Builtin.len_, h1, SV.den, run_underlying ht.und, goInt]⟩
      · rename_i e sz by' z id i s len cap htd
        obtain ⟨ti, ud, ht⟩ := tdOf_facts (hty _ _ htd)
        obtain rfl := tk_slc ht.kind
        obtain rfl := Option.some.inj hf
        refine fun _ => ⟨trivial, fun w => ?_⟩
        have : ∃ p, (SV.sl id i s len cap).den ρ = .slice p len cap := by
          simp only [SV.den]; cases ρ.b id <;> exact ⟨_, rfl⟩
        obtain ⟨p, hp⟩ := this
        rw [hp] at h1
        simp [execOp, hop, resolve, invoke, builtin, Builtin.len_, h1, SV.den, run_underlying ht.und, goInt]
      · rename_i e sz by' z p len cap htd
        obtain ⟨ti, ud, ht⟩ := tdOf_facts (hty _ _ htd)
        obtain rfl := tk_slc ht.kind
        obtain rfl := Option.some.inj hf
        exact fun _ => ⟨trivial, fun w => by simp [execOp, hop, resolve, invoke, builtin, Builtin.len_, h1, SV.den, run_underlying ht.und, goInt]⟩
      · rename_i n e sz by' z htd
        obtain ⟨ti, ud, ht⟩ := tdOf_facts (hty _ _ htd)
        obtain rfl := tk_arr ht.kind
        obtain rfl := Option.some.inj hf
        exact fun _ => ⟨trivial, fun w => by simp [execOp, hop, resolve, invoke, builtin, Builtin.len_, SV.den, run_underlying ht.und, goInt]⟩
      · cases hf
    · rename_i x y hargs
      obtain rfl := args_two hargs
      obtain ⟨a, hx, hf⟩ := optL_bind h
      obtain ⟨b, hy, hf⟩ := optL_bind hf
      obtain ⟨h1, h2⟩ := hv _ _ hx
      obtain ⟨h3, h4⟩ := hv _ _ hy
      unfold detMin at hf
      split at hf
      · obtain rfl := Option.some.inj hf
        exact fun _ => ⟨trivial, fun w => by simp [execOp, hop, resolve, invoke, builtin, Builtin.min_, Builtin.min2, h1, h3, SV.den]⟩
      · cases hf
    · rename_i x y hargs
      obtain rfl := args_two hargs
      obtain ⟨a, hx, hf⟩ := optL_bind h
      obtain ⟨b, hy, hf⟩ := optL_bind hf
      obtain ⟨h1, h2⟩ := hv _ _ hx
      obtain ⟨h3, h4⟩ := hv _ _ hy
      unfold detMax at hf
      split at hf
      · obtain rfl := Option.some.inj hf
        exact fun _ => ⟨trivial, fun w => by simp [execOp, hop, resolve, invoke, builtin, Builtin.max_, Builtin.max2, h1, h3, SV.den]⟩
      · cases hf
    · cases h
  · rename_i f
    cases hl : optL (args.toList.map v) with
    | none => rw [hl] at h; cases h
    | some l =>
      rw [hl] at h; simp only [Option.map_some, Option.some.injEq] at h; subst h
      obtain ⟨q1, q2⟩ := args_den hv hl
      refine ⟨q2, fun hfn w => ?_⟩
      simp [execOp, hop, resolve, Deferred.ofValue, hvf, q1, invoke, run_callFunc hfn]
  · rename_i f _
    obtain ⟨a, hx, hf⟩ := optL_bind h
    cases hl : optL (args.toList.map v) with
    | none => rw [hl] at hf; cases hf
    | some l =>
      rw [hl] at hf
      simp only [Option.bind_some] at hf
      unfold detFn at hf
      split at hf
      · rename_i f' caps
        obtain rfl := Option.some.inj hf
        obtain ⟨q1, q2⟩ := args_den hv hl
        obtain ⟨h1, h2⟩ := hv _ _ hx
        refine ⟨?_, fun hfn w => ?_⟩
        · rw [SV.InL_iff]
          intro y hy
          rcases List.mem_append.1 hy with hy | hy
          · exact (SV.InL_iff _ _ _).1 q2 y hy
          · exact (SV.InL_iff _ _ _).1 h2 y hy
        · have e : (SV.denL ρ (l ++ caps)).toArray = args.map ev ++ (SV.denL ρ caps).toArray := by
            rw [q1, SV.denL_eq, SV.denL_eq, SV.denL_eq]; simp
          rw [e]
          simp [execOp, hop, resolve, Deferred.ofValue, h1, SV.den, invoke, run_callFunc hfn]
      · cases hf
  · cases h

theorem detX_sound (hty : TyOK P ty) (hv : Opnd A ρ ev v) (hvf : ∀ f, ev (.func f) = .func (.func f) #[] #[]) {d : Det} (h : detX ty v o.op = some d) : DetSound P A ρ ev o d := by
  cases hop : o.op with
  | move x => rw [hop] at h; exact s_move hv hop h
  | assign x => rw [hop] at h; exact s_assign hv hop h
  | alloc T => exact s_alloc hty hop h
  | box T x => exact s_box hv hop h
  | build t ps => exact s_build hty hv hop h
  | buildSlice t n ps => exact s_buildSlice hty hv hop h
  | load t x => exact s_load hty hv hop h
  | store t x y => exact s_store hty hv hop h
  | nilCheck x => exact s_nilCheck hv hop h
  | binOp op t x y yt => exact s_binOp hty hv hop h
  | unOp op t x => exact s_unOp hv hop h
  | convert src dst x => exact s_convert hty hv hop h
  | slice t x lo hi mx => exact s_slice hty hv hop h
  | fieldAddr t x f => exact s_fieldAddr hty hv hop h
  | field t x f => exact s_field hty hv hop h
  | indexAddr t x y => exact s_indexAddr hty hv hop h
  | index t x y => exact s_index hty hv hop h
  | extract x i => exact s_extract hv hop h
  | makeFunc fn first caps => exact s_makeFunc hv hop h
  | range t x => exact s_range hty hv hop h
  | call c => exact s_call hty hv hvf hop h
  | _ => rw [hop] at h; simp [detX] at h

end
end Go.Eng
