/- The engine, part D: every symbolic operation is what the model's own operation does. -/
import Derived.Test.YtghbejmnnfoamaaEngC
set_option linter.unusedVariables false
set_option linter.unusedSimpArgs false
namespace Go.Eng
open Go

def SO.isRo : SO → Bool
  | .ro _ _ _ => true
  | _ => false

/-- What stands in the world at a symbolic block: an object as said; or (a nil slice) nothing; or rows that came in, from somewhere on. -/
def At (ρ : Val) (w : World) (id : Nat) (so : SO) : Prop :=
  (∃ b ob, ρ.b id = some b ∧ ρ.o id = 0 ∧ w.heap[b]? = some ob ∧ so.sat ρ ob) ∨ (ρ.b id = none ∧ ((∃ s c row T, so = .view s 0 c row T) ∨ ∃ s row, so = .ro s 0 row)) ∨
  (∃ s n row b arr T fr, so = .ro s n row ∧ ρ.b id = some b ∧ w.heap[b]? = some (.cells arr T fr) ∧ ∀ i, i < n → (row i).length = s ∧ ∀ j, j < s → arr[ρ.o id + (i * s + j)]? = ((row i)[j]?).map (SV.den ρ))

theorem At.cells {ρ : Val} {w : World} {id : Nat} {cs : List SV} {T : TypeId} (h : At ρ w id (.cells cs T)) : ∃ b, ρ.b id = some b ∧ ρ.o id = 0 ∧ w.heap[b]? = some (.cells (SV.denL ρ cs).toArray T (0, 0)) := by
  rcases h with ⟨b, ob, h1, h2, h3, h4⟩ | ⟨_, ⟨_, _, _, _, h⟩ | ⟨_, _, h⟩⟩ | ⟨_, _, _, _, _, _, _, h, _⟩
  · simp only [SO.sat] at h4; subst h4; exact ⟨b, h1, h2, h3⟩
  · cases h
  · cases h
  · cases h
theorem At.iter {ρ : Val} {w : World} {id : Nat} {s : ByteArray} {pos : Nat} (h : At ρ w id (.iter s pos)) : ∃ b, ρ.b id = some b ∧ ρ.o id = 0 ∧ w.heap[b]? = some (.stringIter s pos) := by
  rcases h with ⟨b, ob, h1, h2, h3, h4⟩ | ⟨_, ⟨_, _, _, _, h⟩ | ⟨_, _, h⟩⟩ | ⟨_, _, _, _, _, _, _, h, _⟩
  · simp only [SO.sat] at h4; subst h4; exact ⟨b, h1, h2, h3⟩
  · cases h
  · cases h
  · cases h
theorem At.view {ρ : Val} {w : World} {id s n c : Nat} {row : Nat → List SV} {T : TypeId} (h : At ρ w id (.view s n c row T)) : (∃ b arr fr, ρ.b id = some b ∧ ρ.o id = 0 ∧ w.heap[b]? = some (.cells arr T fr) ∧ (n ≤ c ∧ c * s ≤ arr.size) ∧
    (∀ k, k < arr.size → ¬ (fr.1 ≤ k ∧ k < fr.2)) ∧ (∀ i, i < n → (row i).length = s ∧ ∀ j, j < s → arr[i * s + j]? = ((row i)[j]?).map (SV.den ρ))) ∨ (ρ.b id = none ∧ n = 0) := by
  rcases h with ⟨b, ob, h1, h2, h3, arr, fr, rfl, h4⟩ | ⟨hn, ⟨_, _, _, _, h⟩ | ⟨_, _, h⟩⟩ | ⟨_, _, _, _, _, _, _, h, _⟩
  · exact Or.inl ⟨b, arr, fr, h1, h2, h3, h4⟩
  · exact Or.inr ⟨hn, ((SO.view.injEq _ _ _ _ _ _ _ _ _ _).mp h).2.1⟩
  · cases h
  · cases h
theorem At.ro {ρ : Val} {w : World} {id s n : Nat} {row : Nat → List SV} (h : At ρ w id (.ro s n row)) : (∃ b arr T fr, ρ.b id = some b ∧ w.heap[b]? = some (.cells arr T fr) ∧
    ∀ i, i < n → (row i).length = s ∧ ∀ j, j < s → arr[ρ.o id + (i * s + j)]? = ((row i)[j]?).map (SV.den ρ)) ∨ (ρ.b id = none ∧ n = 0) := by
  rcases h with ⟨b, ob, h1, h2, h3, h4⟩ | ⟨hn, ⟨_, _, _, _, h⟩ | ⟨_, _, h⟩⟩ | ⟨s', n', row', b, arr, T, fr, h, h1, h2, h3⟩
  · exact h4.elim
  · cases h
  · exact Or.inr ⟨hn, ((SO.ro.injEq _ _ _ _ _ _).mp h).2.1⟩
  · obtain ⟨rfl, rfl, rfl⟩ := (SO.ro.injEq _ _ _ _ _ _).mp h
    exact Or.inl ⟨b, arr, T, fr, h1, h2, h3⟩

/-- What the operands' symbolic values are worth. -/
def Opnd (A : Names) (ρ : Val) (ev : Operand → Value) (v : Operand → Option SV) : Prop := ∀ x sv, v x = some sv → ev x = sv.den ρ ∧ sv.In A ρ

def Names.add (A : Names) (id : Nat) : Names := ⟨fun i => A.b i ∨ i = id, A.t⟩

def fnOK (P : Program) (f : Nat) : Prop := ∃ fn, P.funcs[f]? = some fn ∧ (fn.name == "runtime.NumGoroutine") = false ∧ fn.body.isNone = false

def DetSound (P : Program) (A : Names) (ρ : Val) (ev : Operand → Value) (o : Oper) : Det → Prop
  | .pure pre r => (∀ p ∈ pre, p) → r.In A ρ ∧ ∀ w, (execOp ev o).run P w = .ok (.value (r.den ρ)) w
  | .rd id f => A.b id ∧ ∀ w so pre r, At ρ w id so → so.In A ρ → f so = some (pre, r) → (∀ p ∈ pre, p) → r.In A ρ ∧ (execOp ev o).run P w = .ok (.value (r.den ρ)) w
  | .wr id f => A.b id ∧ ∀ w so pre so' r, At ρ w id so → so.In A ρ → f so = some (pre, so', r) → (∀ p ∈ pre, p) → so'.In A ρ ∧ r.In A ρ ∧ so.isRo = false ∧ so'.isRo = false ∧ ∃ b ob', ρ.b id = some b ∧ ρ.o id = 0 ∧ so'.sat ρ ob' ∧
      ((execOp ev o).run P w = .ok (.value (r.den ρ)) (setBlk w b ob') ∨ (r = .g undef ∧ (execOp ev o).run P w = .ok .skip (setBlk w b ob')))
  | .new so r => so.In A ρ ∧ ∀ w id ρ', ρ.agree A ρ' → ρ'.b id = some w.heap.size → ρ'.o id = 0 → (r id).In (A.add id) ρ' ∧ ∃ ob, so.sat ρ ob ∧ (execOp ev o).run P w = .ok (.value ((r id).den ρ')) (w.alloc ob)
  | .ask c => ∃ b : Bool, c b ∧ ∀ w, (execOp ev o).run P w = .ok (.value (.bool b)) w
  | .call f args => SV.InL A ρ args ∧ (fnOK P f → ∀ w, (execOp ev o).run P w = .ok (.enter f (SV.denL ρ args).toArray) w)

theorem denL_length (ρ : Val) (l : List SV) : (SV.denL ρ l).length = l.length := by rw [SV.denL_eq]; simp
theorem denL_get (ρ : Val) (l : List SV) (j : Nat) : (SV.denL ρ l)[j]? = (l[j]?).map (SV.den ρ) := by rw [SV.denL_eq]; simp
theorem denL_g (ρ : Val) (l : List Value) : SV.denL ρ (l.map SV.g) = l := by
  rw [SV.denL_eq, List.map_map]
  have : (SV.den ρ ∘ SV.g) = id := by funext v; rfl
  rw [this, List.map_id]
theorem InL_g (A : Names) (ρ : Val) (l : List Value) : SV.InL A ρ (l.map SV.g) := by
  rw [SV.InL_iff]; intro x hx; simp at hx; obtain ⟨v, _, rfl⟩ := hx; trivial

theorem cells_den {A : Names} {ρ : Val} {x : SV} (hx : x.In A ρ) : (x.den ρ).cells = (SV.denL ρ x.cells).toArray ∧ SV.InL A ρ x.cells := by
  cases x with
  | g v =>
    cases v <;> first
      | exact ⟨rfl, trivial, trivial⟩
      | (rename_i cs; refine ⟨?_, InL_g _ _ _⟩; simp [SV.den, SV.cells, Value.cells, denL_g])
  | agg cs => exact ⟨rfl, hx⟩
  | opt t v => exact hx.elim
  | ptr id i s off => exact ⟨rfl, hx, trivial⟩
  | sl id i s len cap =>
    refine ⟨?_, hx, trivial⟩
    simp only [SV.cells, SV.denL, SV.den]
    split <;> rfl
  | tup vs => exact ⟨rfl, hx, trivial⟩
  | fn f caps => exact ⟨rfl, hx, trivial⟩

theorem plain_one {A : Names} {ρ : Val} {x : SV} (hx : x.In A ρ) (hp : isPlain x = true) : (x.den ρ).oneCell' = true := by
  cases x with
  | g v => cases v <;> first | rfl | (simp [isPlain] at hp)
  | agg cs => simp [isPlain] at hp
  | tup cs => simp [isPlain] at hp
  | opt t v => exact hx.elim
  | ptr id i s off => rfl
  | sl id i s len cap => simp only [SV.den]; split <;> rfl
  | fn f caps => rfl

theorem setAt_length (xs : List SV) : ∀ (l : List SV) (k : Nat), (setAt l k xs).length = l.length := by
  induction xs with
  | nil => intro l k; cases l <;> rfl
  | cons x xs ih => intro l k; simp [setAt, ih]
theorem setAt_den (ρ : Val) (xs : List SV) : ∀ (l : List SV) (k : Nat), (SV.denL ρ (setAt l k xs)).toArray = arrSet (SV.denL ρ l).toArray k (SV.denL ρ xs) := by
  induction xs with
  | nil => intro l k; simp [setAt, SV.denL, arrSet]
  | cons x xs ih =>
    intro l k
    simp only [setAt, SV.denL, arrSet]
    rw [ih]
    congr 1
    rw [SV.denL_eq, SV.denL_eq]
    simp [List.map_set]
theorem setAt_In {A : Names} {ρ : Val} (xs : List SV) (hx : SV.InL A ρ xs) : ∀ (l : List SV) (k : Nat), SV.InL A ρ l → SV.InL A ρ (setAt l k xs) := by
  induction xs with
  | nil => intro l k h; simpa [setAt] using h
  | cons x xs ih =>
    intro l k h
    simp only [setAt]
    refine ih hx.2 _ _ ?_
    rw [SV.InL_iff] at h ⊢
    intro y hy
    rcases List.mem_or_eq_of_mem_set hy with h' | rfl
    · exact h y h'
    · exact hx.1
theorem InL_drop {A : Names} {ρ : Val} {l : List SV} (h : SV.InL A ρ l) (n : Nat) : SV.InL A ρ (l.drop n) := by
  rw [SV.InL_iff] at h ⊢; exact fun x hx => h x (List.mem_of_mem_drop hx)
theorem InL_take {A : Names} {ρ : Val} {l : List SV} (h : SV.InL A ρ l) (n : Nat) : SV.InL A ρ (l.take n) := by
  rw [SV.InL_iff] at h ⊢; exact fun x hx => h x (List.mem_of_mem_take hx)
theorem InL_get {A : Names} {ρ : Val} {l : List SV} (h : SV.InL A ρ l) {n : Nat} {x : SV} (hx : l[n]? = some x) : x.In A ρ := by
  rw [SV.InL_iff] at h; exact h x (List.mem_of_getElem? hx)
theorem addOff_eq (i n : Nat) : addOff i n = i + n := by cases i <;> simp [addOff]

section
variable {P : Program} {A : Names} {ρ : Val}

/-! ### loads -/
theorem run_loadVar_agg {t : TypeId} {d : TD} {i : TypeInfo} {ud : TypeDesc} {w : World} (ht : TdFacts P t d i ud) (ha : d.isAgg = true) (a : Addr) {cs : Array Value} (h : (loadCells a d.size).run P w = .ok cs w) :
    (loadVar t a).run P w = .ok (.agg cs) w := by
  unfold loadVar; simp [ht.run_isAgg, ha, ht.run_size, h]
theorem run_loadVar_one {t : TypeId} {d : TD} {i : TypeInfo} {ud : TypeDesc} {w : World} (ht : TdFacts P t d i ud) (ha : d.isAgg = false) (a : Addr) {v : Value} (h : w.cell? a = some v) :
    (loadVar t a).run P w = .ok v w := by
  unfold loadVar; simp [ht.run_isAgg, ha, h]

theorem loadX_sound {t : TypeId} {d : TD} {i : TypeInfo} {ud : TypeDesc} (ht : TdFacts P t d i ud) {w : World} {id j s off : Nat} {so : SO} {pre : List Prop} {r : SV}
    (hat : At ρ w id so) (hin : so.In A ρ) (h : loadX d j s off so = some (pre, r)) (hp : ∀ p ∈ pre, p) :
    r.In A ρ ∧ (loadVar t ⟨(ρ.b id).getD 0, ρ.o id + (j * s + off), none⟩).run P w = .ok (r.den ρ) w := by
  cases so with
  | cells cs T =>
    obtain ⟨b, hb, ho, hob⟩ := hat.cells
    · rw [hb, ho, Nat.zero_add]
      simp only [loadX] at h
      simp only [Option.getD_some]
      cases ha : d.isAgg with
      | true =>
        rw [ha] at h
        simp only [] at h
        split at h
        · rename_i hle
          simp only [Option.some.injEq, Prod.mk.injEq] at h
          obtain ⟨rfl, rfl⟩ := h
          have hle' := Nat.le_of_ble_eq_true hle
          refine ⟨InL_take (InL_drop hin _) _, run_loadVar_agg ht ha _ ?_⟩
          refine run_loadCells_block hob _ ?_ ?_
          · rw [denL_length]; simp; omega
          · intro k hk
            rw [denL_get]
            simp only [List.getElem?_toArray, denL_get]
            rw [List.getElem?_take_of_lt hk, List.getElem?_drop]
        · cases h
      | false =>
        rw [ha] at h
        simp only [] at h
        split at h
        · rename_i v hv
          simp only [Option.some.injEq, Prod.mk.injEq] at h
          obtain ⟨rfl, rfl⟩ := h
          refine ⟨InL_get hin hv, run_loadVar_one ht ha _ ?_⟩
          rw [cell_of_block hob]; simp only [List.getElem?_toArray, denL_get, hv, Option.map_some]
        · cases h
  | view s' n c row T =>
    simp only [loadX] at h
    split at h
    · rename_i hs1 hs2
      obtain rfl := Nat.eq_of_beq_eq_true hs1
      have hle := Nat.le_of_ble_eq_true hs2
      rcases hat.view with ⟨b, arr, fr, hb, ho, hob, h1, h2, h3⟩ | ⟨_, rfl⟩
      · rw [hb, ho, Nat.zero_add]
        simp only [Option.getD_some]
        cases ha : d.isAgg with
        | true =>
          rw [ha] at h hle
          simp only [Option.some.injEq, Prod.mk.injEq] at h
          simp only [] at hle
          obtain ⟨rfl, rfl⟩ := h
          have hin' : j < n := hp _ (by simp)
          obtain ⟨hl, h4⟩ := h3 j hin'
          refine ⟨InL_take (InL_drop (hin j hin') _) _, run_loadVar_agg ht ha _ ?_⟩
          refine run_loadCells_block hob _ ?_ ?_
          · rw [denL_length]; simp; omega
          · intro k hk
            rw [denL_get, List.getElem?_take_of_lt hk, List.getElem?_drop, Nat.add_assoc, h4 _ (by omega)]
        | false =>
          rw [ha] at h hle
          simp only [] at h hle
          split at h
          · rename_i v hv
            simp only [Option.some.injEq, Prod.mk.injEq] at h
            obtain ⟨rfl, rfl⟩ := h
            have hin' : j < n := hp _ (by simp)
            obtain ⟨hl, h4⟩ := h3 j hin'
            refine ⟨InL_get (hin j hin') hv, run_loadVar_one ht ha _ ?_⟩
            rw [cell_of_block hob, h4 _ (by omega), hv]; rfl
          · cases h
      · cases ha : d.isAgg with
        | true => rw [ha] at h; simp only [Option.some.injEq, Prod.mk.injEq] at h; obtain ⟨rfl, rfl⟩ := h; exact absurd (show j < 0 from hp _ (by simp)) (by omega)
        | false =>
          rw [ha] at h; simp only [] at h
          split at h
          · simp only [Option.some.injEq, Prod.mk.injEq] at h; obtain ⟨rfl, rfl⟩ := h; exact absurd (show j < 0 from hp _ (by simp)) (by omega)
          · cases h
    · cases h
  | iter s pos => simp [loadX] at h
  | raw φ => simp [loadX] at h
  | ro s' n row =>
    simp only [loadX] at h
    split at h
    · rename_i hs1 hs2
      obtain rfl := Nat.eq_of_beq_eq_true hs1
      have hle := Nat.le_of_ble_eq_true hs2
      rcases hat.ro with ⟨b, arr, T, fr, hb, hob, h3⟩ | ⟨_, rfl⟩
      · rw [hb]
        simp only [Option.getD_some]
        cases ha : d.isAgg with
        | true =>
          rw [ha] at h hle
          simp only [Option.some.injEq, Prod.mk.injEq] at h
          simp only [] at hle
          obtain ⟨rfl, rfl⟩ := h
          have hin' : j < n := hp _ (by simp)
          obtain ⟨hl, h4⟩ := h3 j hin'
          refine ⟨InL_take (InL_drop (hin j hin') _) _, run_loadVar_agg ht ha _ ?_⟩
          refine run_loadCells_block hob _ ?_ ?_
          · rw [denL_length]; simp; omega
          · intro k hk
            rw [denL_get, List.getElem?_take_of_lt hk, List.getElem?_drop, Nat.add_assoc, Nat.add_assoc, h4 _ (by omega)]
        | false =>
          rw [ha] at h hle
          simp only [] at h hle
          split at h
          · rename_i v hv
            simp only [Option.some.injEq, Prod.mk.injEq] at h
            obtain ⟨rfl, rfl⟩ := h
            have hin' : j < n := hp _ (by simp)
            obtain ⟨hl, h4⟩ := h3 j hin'
            refine ⟨InL_get (hin j hin') hv, run_loadVar_one ht ha _ ?_⟩
            rw [cell_of_block hob, h4 _ (by omega), hv]; rfl
          · cases h
      · cases ha : d.isAgg with
        | true => rw [ha] at h; simp only [Option.some.injEq, Prod.mk.injEq] at h; obtain ⟨rfl, rfl⟩ := h; exact absurd (show j < 0 from hp _ (by simp)) (by omega)
        | false =>
          rw [ha] at h; simp only [] at h
          split at h
          · simp only [Option.some.injEq, Prod.mk.injEq] at h; obtain ⟨rfl, rfl⟩ := h; exact absurd (show j < 0 from hp _ (by simp)) (by omega)
          · cases h
    · cases h

/-! ### stores -/
theorem run_storeVar_of {t : TypeId} {d : TD} {i : TypeInfo} {ud : TypeDesc} {w w' : World} (ht : TdFacts P t d i ud) (a : Addr) {v : Value} (hs : v.cells.size = d.size)
    (h : (storeCells a v.cells.toList).run P w = .ok () w') : (storeVar t a v).run P w = .ok () w' := by
  unfold storeVar; simp [ht.run_size, hs, h]

theorem storeX_sound {t : TypeId} {d : TD} {i : TypeInfo} {ud : TypeDesc} (ht : TdFacts P t d i ud) {w : World} {id j s off : Nat} {x : SV} {so so' : SO} {pre : List Prop} {r : SV} (hx : x.In A ρ)
    (hat : At ρ w id so) (hin : so.In A ρ) (h : storeX d j s off x so = some (pre, so', r)) (hp : ∀ p ∈ pre, p) :
    so'.In A ρ ∧ r = .g undef ∧ so.isRo = false ∧ so'.isRo = false ∧ ∃ b ob', ρ.b id = some b ∧ ρ.o id = 0 ∧ so'.sat ρ ob' ∧ (storeVar t ⟨(ρ.b id).getD 0, ρ.o id + (j * s + off), none⟩ (x.den ρ)).run P w = .ok () (setBlk w b ob') := by
  obtain ⟨hxc, hxi⟩ := cells_den hx
  have hone : (x.cells.all isPlain = true) → ∀ v ∈ SV.denL ρ x.cells, v.oneCell' = true := by
    intro hall v hv
    rw [SV.denL_eq, List.mem_map] at hv
    obtain ⟨y, hy, rfl⟩ := hv
    exact plain_one ((SV.InL_iff A ρ x.cells).1 hxi y hy) (List.all_eq_true.1 hall y hy)
  cases so with
  | cells cs T =>
    obtain ⟨b, hb, ho, hob⟩ := hat.cells
    · simp only [storeX] at h
      split at h
      · rename_i h1 h2 h3
        have h1' := Nat.eq_of_beq_eq_true h1
        have h3' := Nat.le_of_ble_eq_true h3
        simp only [Option.some.injEq, Prod.mk.injEq] at h
        obtain ⟨rfl, rfl, rfl⟩ := h
        refine ⟨setAt_In _ hxi _ _ hin, rfl, rfl, rfl, b, _, hb, ho, rfl, ?_⟩
        rw [hb, ho, Option.getD_some, Nat.zero_add]
        refine run_storeVar_of ht _ ?_ ?_
        · rw [hxc]; simp only [List.size_toArray, denL_length]; exact h1'
        · rw [hxc, setAt_den]
          exact run_storeCells_block _ w b _ 0 _ T (0, 0) hob (by simpa using hone h2) (by simp only [List.size_toArray, denL_length]; omega) (by intro k _; simp)
      · cases h
  | view s' n c row T =>
    simp only [storeX] at h
    split at h
    · rename_i h1 h2 h3 h4
      obtain rfl := Nat.eq_of_beq_eq_true h3
      have h1' := Nat.eq_of_beq_eq_true h1
      have h4' := Nat.le_of_ble_eq_true h4
      simp only [Option.some.injEq, Prod.mk.injEq] at h
      obtain ⟨rfl, rfl, rfl⟩ := h
      have hjn : j < n := hp _ (by simp)
      rcases hat.view with ⟨b, arr, fr, hb, ho, hob, g1, g2, g3⟩ | ⟨_, rfl⟩
      · have hns : n * s ≤ arr.size := Nat.le_trans (Nat.mul_le_mul_right s g1.1) g1.2
        refine ⟨?_, rfl, rfl, rfl, b, .cells (arrSet arr (j * s + off) (SV.denL ρ x.cells)) T fr, hb, ho, ?_, ?_⟩
        · intro k hk
          simp only []
          split
          · exact setAt_In _ hxi _ _ (hin j hjn)
          · exact hin k hk
        · refine ⟨_, fr, rfl, by rw [arrSet_size]; exact g1, by rw [arrSet_size]; exact g2, fun k hk => ?_⟩
          have hsz : (j + 1) * s ≤ n * s := Nat.mul_le_mul_right _ hjn
          have hj1 : (j + 1) * s = j * s + s := by rw [Nat.add_mul, Nat.one_mul]
          simp only []
          by_cases hkj : k = j
          · subst hkj
            rw [if_pos rfl]
            refine ⟨by rw [setAt_length]; exact (g3 k hk).1, fun q hq => ?_⟩
            rw [arrSet_get _ _ _ _ (by rw [denL_length]; omega), denL_length]
            have hset := setAt_den ρ x.cells (row k) off
            have e1 : (setAt (row k) off x.cells)[q]?.map (SV.den ρ) = (arrSet (SV.denL ρ (row k)).toArray off (SV.denL ρ x.cells))[q]? := by
              rw [← hset]; simp only [List.getElem?_toArray, denL_get]
            rw [e1, arrSet_get _ _ _ _ (by simp only [List.size_toArray, denL_length]; rw [(g3 k hk).1]; omega), denL_length]
            by_cases hc : off ≤ q ∧ q < off + x.cells.length
            · rw [if_pos hc, if_pos (by omega)]; congr 1; omega
            · rw [if_neg hc, if_neg (by omega)]; simp only [List.getElem?_toArray, denL_get]; exact (g3 k hk).2 q hq
          · rw [if_neg hkj]
            refine ⟨(g3 k hk).1, fun q hq => ?_⟩
            rw [arrSet_get _ _ _ _ (by rw [denL_length]; omega), denL_length, if_neg, (g3 k hk).2 q hq]
            rintro ⟨c1, c2⟩
            rcases Nat.lt_or_ge k j with hlt | hge
            · have : (k + 1) * s ≤ j * s := Nat.mul_le_mul_right _ hlt
              rw [Nat.add_mul, Nat.one_mul] at this; omega
            · have : (j + 1) * s ≤ k * s := Nat.mul_le_mul_right _ (by omega)
              omega
        · rw [hb, ho, Option.getD_some, Nat.zero_add]
          refine run_storeVar_of ht _ ?_ ?_
          · rw [hxc]; simp only [List.size_toArray, denL_length]; exact h1'
          · rw [hxc]
            have hsz : (j + 1) * s ≤ n * s := Nat.mul_le_mul_right _ hjn
            have hj1 : (j + 1) * s = j * s + s := by rw [Nat.add_mul, Nat.one_mul]
            exact run_storeCells_block _ w b _ 0 _ _ fr hob (by simpa using hone h2) (by simp only [denL_length]; omega) g2
      · exact absurd hjn (by omega)
    · cases h
  | iter s pos => simp [storeX] at h
  | raw φ => simp [storeX] at h
  | ro s n row => simp [storeX] at h

end
end Go.Eng
