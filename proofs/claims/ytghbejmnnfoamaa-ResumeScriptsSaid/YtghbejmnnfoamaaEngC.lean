/- The engine, part C: a type's description out of the program's table; cells read and written; what the model's operations do where the symbolic ones say it. -/
import Derived.Test.YtghbejmnnfoamaaEngB
import Derived.Laws.Sem
import Derived.Laws.World
import Derived.Laws.Cells
import Derived.Laws.Entries
import Derived.Laws.Rows
set_option linter.unusedVariables false
set_option linter.unusedSimpArgs false
namespace Go.Eng
open Go

def tkOf (P : Program) (t : TypeId) : TypeDesc → TK
  | .int k => .int k
  | .bool => .bool
  | .string => .str
  | .pointer e => .ptr e
  | .slice e => .slc e
  | .array n e => .arr n e
  | .struct fs => .strct (fs.toList.map fun f => (f.offset, P.cellsOf f.type, f.type))
  | .func _ _ _ => .fn
  | .tuple _ => .tup
  | _ => .other

def zeroOf : Option Value → List Value
  | some (.agg cs) => cs.toList
  | some v => [v]
  | none => []

def structOK (P : Program) (t : TypeId) : TypeDesc → Bool
  | .struct fs => fs.toList.all (fun f => !(f.name == "_") && (P.info? f.type).isSome) && !P.stoodInHeld t && !P.eqGuardType P.depth t
  | _ => true

/-- The description, if it is in order: a struct's or array's zero value has as many plain cells as it is large; others have one. -/
def tdOf (P : Program) (t : TypeId) : Option TD :=
  match P.info? t, P.underlying t with
  | some i, some d =>
    match (match tkOf P t d, i.zero with
      | .strct _, some (.agg cs) => Nat.beq cs.size i.size && (cs.toList.all fun v => isPlain (.g v)) && structOK P t d
      | .strct _, _ => false
      | .arr _ _, some (.agg cs) => Nat.beq cs.size i.size && cs.toList.all fun v => isPlain (.g v)
      | .arr _ _, _ => false
      | .other, _ => false
      | .tup, _ => true
      | _, some v => Nat.beq i.size 1 && isPlain (.g v)
      | _, none => false) with
    | true => some ⟨tkOf P t d, i.size, i.bytes, zeroOf i.zero⟩
    | false => none
  | _, _ => none

def TyOK (P : Program) (ty : Ty) : Prop := ∀ t d, look t ty = some d → tdOf P t = some d

structure TdFacts (P : Program) (t : TypeId) (d : TD) (i : TypeInfo) (ud : TypeDesc) : Prop where
  info : P.info? t = some i
  und : P.underlying t = some ud
  kind : d.k = tkOf P t ud
  size : d.size = i.size
  bytes : d.bytes = i.bytes
  zero : d.zero = zeroOf i.zero
  agg : d.isAgg = true → i.zero = some (.agg d.zero.toArray) ∧ d.zero.length = d.size ∧ ∀ v ∈ d.zero, isPlain (.g v) = true
  strct : ∀ fs, d.k = .strct fs → structOK P t ud = true
  one : d.isAgg = false → d.k ≠ .tup → d.size = 1 ∧ ∃ v, i.zero = some v ∧ d.zero = [v] ∧ isPlain (.g v) = true

theorem tdOf_facts {P : Program} {t : TypeId} {d : TD} (h : tdOf P t = some d) : ∃ i ud, TdFacts P t d i ud := by
  unfold tdOf at h
  cases hi : P.info? t with
  | none => rw [hi] at h; cases h
  | some i =>
    cases hu : P.underlying t with
    | none => rw [hi, hu] at h; cases h
    | some ud =>
      rw [hi, hu] at h
      simp only [] at h
      split at h
      · rename_i hc
        obtain rfl := Option.some.inj h
        refine ⟨i, ud, ⟨hi, hu, rfl, rfl, rfl, rfl, ?_, ?_, ?_⟩⟩
        · intro ha
          simp only [TD.isAgg] at ha
          cases hk : tkOf P t ud <;> rw [hk] at ha hc <;> simp at ha
          · cases hz : i.zero with
            | none => rw [hz] at hc; simp at hc
            | some v =>
              rw [hz] at hc
              cases v <;> simp at hc
              rename_i cs
              refine ⟨by simp [zeroOf], ?_, ?_⟩
              · simp only [zeroOf, Array.length_toList]; exact hc.1.1
              · intro v hv; simp only [zeroOf] at hv; have := hc.1.2; simp at hv
                obtain ⟨j, hj, rfl⟩ := Array.mem_iff_getElem.1 hv
                exact this j hj
          · cases hz : i.zero with
            | none => rw [hz] at hc; simp at hc
            | some v =>
              rw [hz] at hc
              cases v <;> simp at hc
              rename_i cs
              refine ⟨by simp [zeroOf], ?_, ?_⟩
              · simp only [zeroOf, Array.length_toList]; exact hc.1
              · intro v hv; simp only [zeroOf] at hv; have := hc.2; simp at hv
                obtain ⟨j, hj, rfl⟩ := Array.mem_iff_getElem.1 hv
                exact this j hj
        · intro fs hk
          simp only [] at hk
          rw [hk] at hc
          cases hz : i.zero with
          | none => rw [hz] at hc; simp at hc
          | some v =>
            rw [hz] at hc
            cases v <;> simp at hc
            exact hc.2
        · intro ha hnt
          simp only [TD.isAgg] at ha
          have key : (i.size = 1 ∧ ∃ v, i.zero = some v ∧ isPlain (.g v) = true) := by
            cases hk : tkOf P t ud <;> rw [hk] at ha hc hnt <;> simp at ha hc hnt
            all_goals
              cases hz : i.zero with
              | none => rw [hz] at hc; simp at hc
              | some v => rw [hz] at hc; simp at hc; exact ⟨hc.1, v, rfl, hc.2⟩
          obtain ⟨h1, v, hz, hp⟩ := key
          refine ⟨h1, v, hz, ?_, hp⟩
          rw [hz]
          cases v <;> simp [zeroOf]
          simp [isPlain] at hp
      · cases h

section
variable {P : Program} {w : World}

theorem run_typeInfo_of {t : TypeId} {i : TypeInfo} (h : P.info? t = some i) : (typeInfo t).run P w = .ok i w := by
  unfold typeInfo; simp [h]
theorem run_sizeOf_of {t : TypeId} {i : TypeInfo} (h : P.info? t = some i) : (sizeOf t).run P w = .ok i.size w := by
  unfold sizeOf; simp [run_typeInfo_of h]
theorem run_isAgg_of {t : TypeId} {ud : TypeDesc} (h : P.underlying t = some ud) : (isAgg t).run P w = .ok (match tkOf P t ud with | .strct _ => true | .arr _ _ => true | _ => false) w := by
  unfold isAgg; simp only [Sem.run_bind, run_underlying h, Result.andThen_ok]
  cases ud <;> simp [tkOf]
theorem TdFacts.run_isAgg {t : TypeId} {d : TD} {i : TypeInfo} {ud : TypeDesc} (h : TdFacts P t d i ud) : (isAgg t).run P w = .ok d.isAgg w := by
  rw [run_isAgg_of h.und]; simp only [TD.isAgg, h.kind]; cases tkOf P t ud <;> rfl
theorem TdFacts.run_size {t : TypeId} {d : TD} {i : TypeInfo} {ud : TypeDesc} (h : TdFacts P t d i ud) : (sizeOf t).run P w = .ok d.size w := by
  rw [run_sizeOf_of h.info, h.size]
theorem run_zeroValue_of {t : TypeId} {i : TypeInfo} {v : Value} (h : P.info? t = some i) (hz : i.zero = some v) : (zeroValue t).run P w = .ok v w := by
  unfold zeroValue; simp [run_typeInfo_of h, hz]

theorem addr_add (b o j : Nat) : (⟨b, o, none⟩ : Addr).add j = ⟨b, o + j, none⟩ := by
  unfold Addr.add; split
  · rename_i h; subst h; rfl
  · rfl

theorem cell_of_block {b o : Nat} {arr : Array Value} {T : TypeId} {fr : Nat × Nat} (h : w.heap[b]? = some (.cells arr T fr)) : w.cell? ⟨b, o, none⟩ = arr[o]? := by
  simp [World.cell?, h]
theorem frozen_of_block {b o : Nat} {arr : Array Value} {T : TypeId} {fr : Nat × Nat} (h : w.heap[b]? = some (.cells arr T fr)) : w.frozen? ⟨b, o, none⟩ = (decide (fr.1 ≤ o) && decide (o < fr.2)) := by
  simp [World.frozen?, h]

/-- The world with another object in block b. -/
def setBlk (w : World) (b : Nat) (o : Obj) : World := { w with heap := w.heap.setIfInBounds b o }

theorem setCell_block {b o : Nat} {arr : Array Value} {T : TypeId} {fr : Nat × Nat} (h : w.heap[b]? = some (.cells arr T fr)) (v : Value) :
    w.setCell ⟨b, o, none⟩ v = setBlk w b (.cells (arr.setIfInBounds o v) T fr) := by
  unfold World.setCell setBlk
  congr 1
  apply Array.ext_getElem?
  intro k
  rw [Array.getElem?_modify]
  simp only [Array.getElem?_setIfInBounds]
  by_cases hk : b = k
  · subst hk
    have hlt : b < w.heap.size := by
      rcases Nat.lt_or_ge b w.heap.size with h' | h'
      · exact h'
      · rw [Array.getElem?_eq_none h'] at h; cases h
    rw [if_pos rfl, if_pos rfl, h]; simp [hlt]
  · rw [if_neg hk, if_neg hk]

theorem setBlk_setBlk (b : Nat) (o o' : Obj) : setBlk (setBlk w b o) b o' = setBlk w b o' := by
  unfold setBlk; congr 1
  apply Array.ext_getElem?
  intro k
  simp only [Array.getElem?_setIfInBounds, Array.size_setIfInBounds]
  by_cases hk : b = k <;> simp [hk]

theorem setBlk_get {b k : Nat} {o : Obj} (hb : b < w.heap.size) : (setBlk w b o).heap[k]? = if b = k then some o else w.heap[k]? := by
  unfold setBlk
  simp only [Array.getElem?_setIfInBounds]
  by_cases hk : b = k
  · subst hk; simp [hb]
  · simp [hk]
theorem setBlk_self {b : Nat} {o : Obj} (h : w.heap[b]? = some o) : setBlk w b o = w := by
  unfold setBlk
  have : w.heap.setIfInBounds b o = w.heap := by
    apply Array.ext_getElem?
    intro k
    simp only [Array.getElem?_setIfInBounds]
    by_cases hk : b = k
    · subst hk
      have hlt : b < w.heap.size := by
        rcases Nat.lt_or_ge b w.heap.size with h' | h'
        · exact h'
        · rw [Array.getElem?_eq_none h'] at h; cases h
      simp [hlt, h]
      have := h; rw [Array.getElem?_eq_getElem hlt] at this; exact (Option.some.inj this).symm
    · simp [hk]
  rw [this]
theorem setBlk_size {b : Nat} {o : Obj} : (setBlk w b o).heap.size = w.heap.size := by simp [setBlk]

theorem lt_of_block {b : Nat} {o : Obj} (h : w.heap[b]? = some o) : b < w.heap.size := by
  rcases Nat.lt_or_ge b w.heap.size with h' | h'
  · exact h'
  · rw [Array.getElem?_eq_none h'] at h; cases h

/-- Cells o, o+1, .. of an array, as values. -/
def arrSet : Array Value → Nat → List Value → Array Value
  | a, _, [] => a
  | a, k, x :: xs => arrSet (a.setIfInBounds k x) (k + 1) xs
theorem arrSet_size (l : List Value) : ∀ (a : Array Value) (k : Nat), (arrSet a k l).size = a.size := by
  induction l with
  | nil => intro a k; rfl
  | cons x xs ih => intro a k; simp [arrSet, ih]
theorem arrSet_get (l : List Value) : ∀ (a : Array Value) (k j : Nat), k + l.length ≤ a.size → (arrSet a k l)[j]? = if k ≤ j ∧ j < k + l.length then l[j - k]? else a[j]? := by
  induction l with
  | nil => intro a k j h; simp [arrSet]; omega
  | cons x xs ih =>
    intro a k j h
    simp only [List.length_cons] at h
    simp only [arrSet]
    rw [ih _ _ _ (by simp; omega)]
    simp only [List.length_cons]
    by_cases h1 : k + 1 ≤ j ∧ j < k + 1 + xs.length
    · rw [if_pos h1, if_pos (by omega)]
      have : j - k = (j - (k + 1)) + 1 := by omega
      rw [this, List.getElem?_cons_succ]
    · rw [if_neg h1]
      by_cases h2 : j = k
      · subst h2; rw [if_pos (by omega)]; simp [Array.getElem?_setIfInBounds]; omega
      · rw [if_neg (by omega)]; rw [Array.getElem?_setIfInBounds_ne (by omega)]

theorem run_storeCells_block (l : List Value) : ∀ (w : World) (b o i : Nat) (arr : Array Value) (T : TypeId) (fr : Nat × Nat),
    w.heap[b]? = some (.cells arr T fr) → (∀ v ∈ l, v.oneCell' = true) → o + i + l.length ≤ arr.size → (∀ k, k < arr.size → ¬ (fr.1 ≤ k ∧ k < fr.2)) →
    (storeCells ⟨b, o, none⟩ l i).run P w = .ok () (setBlk w b (.cells (arrSet arr (o + i) l) T fr)) := by
  induction l with
  | nil =>
    intro w b o i arr T fr h _ _ _
    simp [storeCells, arrSet, setBlk_self h]
  | cons x xs ih =>
    intro w b o i arr T fr h h1 hl hf
    simp only [List.length_cons] at hl
    have hlt := lt_of_block h
    simp only [storeCells, Sem.run_bind]
    rw [addr_add, run_store P w _ x _ (h1 x (by simp)), cell_of_block h]
    have hc : arr[o + i]? = some arr[o + i] := Array.getElem?_eq_getElem (by omega)
    rw [hc]
    simp only []
    have hfr : w.frozen? ⟨b, o + i, none⟩ = false := by
      rw [frozen_of_block h]
      have := hf (o + i) (by omega)
      simp only [Bool.and_eq_false_iff, decide_eq_false_iff_not]
      omega
    rw [hfr]
    simp only [Bool.false_eq_true, if_false, Result.andThen_ok]
    rw [setCell_block h]
    rw [ih _ b o (i + 1) (arr.setIfInBounds (o + i) x) T fr (by rw [setBlk_get hlt]; simp) (fun v hv => h1 v (by simp [hv])) (by simp; omega) (by simpa using hf)]
    rw [setBlk_setBlk]
    rfl

theorem run_loadCells_block {b o n : Nat} {arr : Array Value} {T : TypeId} {fr : Nat × Nat} (h : w.heap[b]? = some (.cells arr T fr)) (l : List Value) (hn : l.length = n)
    (hl : ∀ j, j < n → arr[o + j]? = l[j]?) : (loadCells ⟨b, o, none⟩ n).run P w = .ok l.toArray w := by
  subst hn
  apply run_loadCells_list
  intro j v hj
  rw [addr_add, cell_of_block h]
  have : j < l.length := by
    rcases Nat.lt_or_ge j l.length with h' | h'
    · exact h'
    · rw [List.getElem?_eq_none h'] at hj; cases hj
  rw [hl j this]; exact hj

end
end Go.Eng
