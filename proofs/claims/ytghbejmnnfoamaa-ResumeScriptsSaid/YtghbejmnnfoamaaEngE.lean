/- The engine, part E: every operation that 'detX' knows does what it says. -/
import Derived.Test.YtghbejmnnfoamaaEngD
import Derived.Laws.StructEq
set_option linter.unusedVariables false
set_option linter.unusedSimpArgs false
namespace Go.Eng
open Go

theorem toList_beq (a b : ByteArray) : (a.toList == b.toList) = decide (a = b) := by
  rw [Bool.eq_iff_iff]
  simp only [beq_iff_eq, decide_eq_true_eq]
  constructor
  · intro h
    rw [ByteArray.toList_eq, ByteArray.toList_eq] at h
    obtain ⟨a⟩ := a; obtain ⟨b⟩ := b
    simp only [ByteArray.mk.injEq]
    exact Array.toList_inj.1 h
  · rintro rfl; rfl

theorem optL_eq {α : Type} : ∀ {l : List (Option α)} {r : List α}, optL l = some r → l = r.map some
  | [], r, h => by simp [optL] at h; subst h; rfl
  | none :: _, r, h => by simp [optL] at h
  | some x :: l, r, h => by
    simp only [optL] at h
    split at h
    · rename_i l' hl
      obtain rfl := Option.some.inj h
      rw [optL_eq hl]; rfl
    · cases h

theorem optL_map {α β : Type} {f : α → Option β} {l : List α} {r : List β} (h : optL (l.map f) = some r) : l.length = r.length ∧ ∀ (i : Nat) x, l[i]? = some x → ∃ y, r[i]? = some y ∧ f x = some y := by
  have := optL_eq h
  constructor
  · have := congrArg List.length this; simpa using this
  · intro i x hx
    have h2 : (l.map f)[i]? = (r.map some)[i]? := by rw [this]
    rw [List.getElem?_map, List.getElem?_map, hx] at h2
    cases hr : r[i]? with
    | none => rw [hr] at h2; cases h2
    | some y => rw [hr] at h2; simp at h2; exact ⟨y, rfl, h2⟩

section
variable {P : Program} {A : Names} {ρ : Val} {ev : Operand → Value} {v : Operand → Option SV}

/-- Operands as a list. -/
theorem args_den (hv : Opnd A ρ ev v) {args : Array Operand} {l : List SV} (h : optL (args.toList.map v) = some l) : args.map ev = (SV.denL ρ l).toArray ∧ SV.InL A ρ l := by
  obtain ⟨hl, hg⟩ := optL_map h
  constructor
  · apply Array.ext_getElem?
    intro i
    simp only [Array.getElem?_map, List.getElem?_toArray, SV.denL_eq, List.getElem?_map]
    cases hx : args[i]? with
    | none =>
      have : l[i]? = none := by
        rw [List.getElem?_eq_none_iff, ← hl, Array.length_toList]
        exact Array.getElem?_eq_none_iff.1 hx
      rw [this]; rfl
    | some x =>
      obtain ⟨y, hy, hfy⟩ := hg i x (by rw [Array.getElem?_toList]; exact hx)
      rw [hy]; simp only [Option.map_some]; rw [(hv x y hfy).1]
  · rw [SV.InL_iff]
    intro y hy
    obtain ⟨i, hi, rfl⟩ := List.getElem_of_mem hy
    have hlt : i < args.toList.length := by omega
    obtain ⟨y', hy', hfy⟩ := hg i _ (List.getElem?_eq_getElem hlt)
    rw [List.getElem?_eq_getElem hi] at hy'
    obtain rfl := Option.some.inj hy'
    exact (hv _ _ hfy).2

theorem pairs_den (hv : Opnd A ρ ev v) {ps : Array (Nat × Operand)} {l : List (Nat × SV)} (h : optL (ps.toList.map fun p => (v p.2).map fun x => (p.1, x)) = some l) :
    ps.toList.map (fun x => (x.1, ev x.2)) = l.map (fun p => (p.1, p.2.den ρ)) ∧ ∀ p ∈ l, p.2.In A ρ := by
  obtain ⟨hl, hg⟩ := optL_map h
  constructor
  · apply List.ext_getElem?
    intro i
    rw [List.getElem?_map, List.getElem?_map]
    cases hx : ps.toList[i]? with
    | none =>
      have : l[i]? = none := by
        rw [List.getElem?_eq_none_iff, ← hl]; exact List.getElem?_eq_none_iff.1 hx
      rw [this]; rfl
    | some p =>
      obtain ⟨y, hy, hfy⟩ := hg i p hx
      rw [hy]
      cases hvp : v p.2 with
      | none => rw [hvp] at hfy; cases hfy
      | some x => rw [hvp] at hfy; simp at hfy; subst hfy; simp only [Option.map_some]; rw [(hv _ _ hvp).1]
  · intro y hy
    obtain ⟨i, hi, rfl⟩ := List.getElem_of_mem hy
    have hlt : i < ps.toList.length := by omega
    obtain ⟨y', hy', hfy⟩ := hg i _ (List.getElem?_eq_getElem hlt)
    rw [List.getElem?_eq_getElem hi] at hy'
    obtain rfl := Option.some.inj hy'
    cases hvp : v (ps.toList[i]).2 with
    | none => rw [hvp] at hfy; cases hfy
    | some x => rw [hvp] at hfy; simp at hfy; rw [← hfy]; exact (hv _ _ hvp).2

/-! ### a value made of parts -/
theorem foldl_set (xs : List Value) : ∀ (cs : Array Value) (off k : Nat), (xs.zipIdx k).foldl (fun cs (c, j) => cs.setIfInBounds (off + j) c) cs = arrSet cs (off + k) xs := by
  induction xs with
  | nil => intro cs off k; rfl
  | cons x xs ih => intro cs off k; simp only [List.zipIdx_cons, List.foldl_cons, arrSet]; rw [ih]; rfl

theorem fill_den (place : Nat → Option (Nat × Nat)) : ∀ (l : List (Nat × SV)) (cells cs : List SV), (∀ p ∈ l, p.2.In A ρ) → SV.InL A ρ cells → fillX place cells l = some cs →
    Instr.fill place (SV.denL ρ cells).toArray (l.map fun p => (p.1, p.2.den ρ)) = some (SV.denL ρ cs).toArray ∧ SV.InL A ρ cs ∧ cs.length = cells.length
  | [], cells, cs, _, hc, h => by simp [fillX] at h; subst h; exact ⟨rfl, hc, rfl⟩
  | (i, x) :: rest, cells, cs, hl, hc, h => by
    simp only [fillX] at h
    split at h
    · cases h
    · rename_i off size hp
      split at h
      · rename_i h1 h2
        have h1' := Nat.eq_of_beq_eq_true h1
        have h2' := Nat.le_of_ble_eq_true h2
        obtain ⟨hxc, hxi⟩ := cells_den (hl (i, x) (by simp))
        obtain ⟨r1, r2, r3⟩ := fill_den place rest _ _ (fun p hp' => hl p (by simp [hp'])) (setAt_In x.cells hxi cells off hc) h
        refine ⟨?_, r2, by rw [r3, setAt_length]⟩
        simp only [List.map_cons, Instr.fill, hp]
        simp only [] at hxc
        rw [hxc]
        rw [if_neg (by simp only [List.size_toArray, denL_length]; simp; omega)]
        rw [← r1, setAt_den]
        congr 1
        have := foldl_set (SV.denL ρ x.cells) (SV.denL ρ cells).toArray off 0
        rw [Nat.add_zero] at this
        rw [← this, ← Array.foldl_toList, Array.toList_zipIdx]
      · cases h

theorem places_of {fields : List Field} (h : ∀ f ∈ fields, (P.info? f.type).isSome = true) :
    fields.mapM (fun f => (P.info? f.type).map fun i => (f.offset, i.size)) = some (fields.map fun f => (f.offset, P.cellsOf f.type)) := by
  induction fields with
  | nil => rfl
  | cons f fs ih =>
    have hf := h f (by simp)
    cases hi : P.info? f.type with
    | none => rw [hi] at hf; cases hf
    | some i =>
      rw [List.mapM_cons, ih fun g hg => h g (by simp [hg])]
      simp [hi, Program.cellsOf]

theorem structOK_fields {t : TypeId} {fields : Array Field} (h : structOK P t (.struct fields) = true) : (∀ f ∈ fields.toList, (f.name == "_") = false ∧ (P.info? f.type).isSome = true) ∧ P.stoodInHeld t = false ∧ P.eqGuardType P.depth t = false := by
  simp only [structOK, Bool.and_eq_true, List.all_eq_true, Bool.not_eq_true'] at h
  exact ⟨h.1.1, h.1.2, h.2⟩

theorem tk_strct {t : TypeId} {ud : TypeDesc} {fs : List (Nat × Nat × Nat)} (h : TK.strct fs = tkOf P t ud) : ∃ fields, ud = .struct fields ∧ fs = fields.toList.map fun f => (f.offset, P.cellsOf f.type, f.type) := by
  cases ud <;> simp [tkOf] at h
  exact ⟨_, rfl, h⟩
theorem tk_arr {t : TypeId} {ud : TypeDesc} {n e : Nat} (h : TK.arr n e = tkOf P t ud) : ud = .array n e := by
  cases ud <;> simp [tkOf] at h
  obtain ⟨rfl, rfl⟩ := h; rfl
theorem tk_slc {t : TypeId} {ud : TypeDesc} {e : Nat} (h : TK.slc e = tkOf P t ud) : ud = .slice e := by
  cases ud <;> simp [tkOf] at h
  subst h; rfl
theorem tk_int {t : TypeId} {ud : TypeDesc} {k : IntKind} (h : TK.int k = tkOf P t ud) : ud = .int k := by
  cases ud <;> simp [tkOf] at h
  subst h; rfl
theorem tk_str {t : TypeId} {ud : TypeDesc} (h : TK.str = tkOf P t ud) : ud = .string := by
  cases ud <;> simp [tkOf] at h
  rfl
theorem tk_bool {t : TypeId} {ud : TypeDesc} (h : TK.bool = tkOf P t ud) : ud = .bool := by
  cases ud <;> simp [tkOf] at h
  rfl
theorem tk_ptr {t : TypeId} {ud : TypeDesc} {e : Nat} (h : TK.ptr e = tkOf P t ud) : ud = .pointer e := by
  cases ud <;> simp [tkOf] at h
  subst h; rfl

variable {ty : Ty} {o : Oper}

theorem s_move (hv : Opnd A ρ ev v) {x : Operand} (hop : o.op = .move x) {d : Det} (h : (v x).map (Det.pure []) = some d) : DetSound P A ρ ev o d := by
  cases hx : v x with
  | none => rw [hx] at h; cases h
  | some sv =>
    rw [hx] at h; simp at h; subst h
    intro _; obtain ⟨h1, h2⟩ := hv _ _ hx
    exact ⟨h2, fun w => by simp [execOp, hop, h1]⟩
theorem s_assign (hv : Opnd A ρ ev v) {x : Operand} (hop : o.op = .assign x) {d : Det} (h : (v x).map (Det.pure []) = some d) : DetSound P A ρ ev o d := by
  cases hx : v x with
  | none => rw [hx] at h; cases h
  | some sv =>
    rw [hx] at h; simp at h; subst h
    intro _; obtain ⟨h1, h2⟩ := hv _ _ hx
    exact ⟨h2, fun w => by simp [execOp, hop, h1]⟩

/-- A new variable. -/
theorem new_var {x : SV} (hx : x.In A ρ) (T : TypeId) (hrun : ∀ w, (execOp ev o).run P w = ((do pure (Next.value (.pointer (some (← newVar T (x.den ρ)))))) : Sem Next).run P w) :
    DetSound P A ρ ev o (.new (.cells x.cells T) fun id => .ptr id 0 0 0) := by
  obtain ⟨h1, h2⟩ := cells_den hx
  refine ⟨h2, fun w id ρ' hag hid ho => ⟨Or.inr rfl, .cells (SV.denL ρ x.cells).toArray T (0, 0), rfl, ?_⟩⟩
  rw [hrun]
  simp [newVar, newRow, h1, SV.den, hid, ho]

theorem s_alloc (hty : TyOK P ty) {T : TypeId} (hop : o.op = .alloc T) {d : Det} (h : detX ty v o.op = some d) : DetSound P A ρ ev o d := by
  rw [hop] at h
  simp only [detX] at h
  split at h
  · rename_i td htd
    obtain ⟨i, ud, ht⟩ := tdOf_facts (hty _ _ htd)
    split at h
    · rename_i z hz
      obtain rfl := Option.some.inj h
      have hzz : z.In A ρ ∧ i.zero = some (z.den ρ) := by
        simp only [TD.zeroSV] at hz
        split at hz
        · rename_i ha
          obtain rfl := Option.some.inj hz
          obtain ⟨g1, _, _⟩ := ht.agg ha
          refine ⟨InL_g _ _ _, ?_⟩
          rw [g1]; simp [SV.den, denL_g]
        · rename_i v' ha htup hd
          obtain rfl := Option.some.inj hz
          have hnt : td.k ≠ .tup := by intro e; rw [e] at htup; cases htup
          obtain ⟨_, u, hu, hz1, _⟩ := ht.one ha hnt
          rw [hd] at hz1; obtain rfl := (List.cons.inj hz1).1
          exact ⟨trivial, hu⟩
        · cases hz
      refine new_var hzz.1 T fun w => ?_
      simp [execOp, hop, Instr.alloc, run_zeroValue_of ht.info hzz.2]
    · cases h
  · cases h

end
end Go.Eng
