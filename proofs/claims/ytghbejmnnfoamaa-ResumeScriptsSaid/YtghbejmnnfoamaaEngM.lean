/- The engine, part M: append, copy, a step of an iterator, []byte(s). -/
import Derived.Test.YtghbejmnnfoamaaEngL
import Derived.Laws.AppendOwn
set_option linter.unusedVariables false
set_option linter.unusedSimpArgs false
namespace Go.Eng
open Go
section
variable {P : Program} {A : Names} {ρ : Val} {w : World}

theorem Question_cut_append (need old t : Nat) (e : TypeId) : need ≤ Question.cut (.appendCap need old e) t := by
  simp [Question.cut]

/-- The cells of rows. -/
def rowsL (rows : Nat → List SV) : Nat → List SV
  | 0 => []
  | n + 1 => rowsL rows n ++ rows n
theorem rowsL_length {rows : Nat → List SV} {s : Nat} : ∀ n, (∀ j, j < n → (rows j).length = s) → (rowsL rows n).length = n * s
  | 0, _ => by simp [rowsL]
  | n + 1, h => by simp only [rowsL, List.length_append]; rw [rowsL_length n (fun j hj => h j (by omega)), h n (by omega), Nat.add_mul]; omega
theorem rowsL_get {rows : Nat → List SV} {s : Nat} : ∀ n, (∀ j, j < n → (rows j).length = s) → ∀ j q, j < n → q < s → (rowsL rows n)[j * s + q]? = (rows j)[q]?
  | 0, _, j, q, hj, _ => by omega
  | n + 1, h, j, q, hj, hq => by
    have hl := rowsL_length n (fun j hj => h j (by omega))
    simp only [rowsL]
    by_cases hjn : j < n
    · have : j * s + q < n * s := by
        have : (j + 1) * s ≤ n * s := Nat.mul_le_mul_right _ hjn
        rw [Nat.add_mul, Nat.one_mul] at this; omega
      rw [List.getElem?_append_left (by omega)]
      exact rowsL_get n (fun j hj => h j (by omega)) j q hjn hq
    · obtain rfl : j = n := by omega
      rw [List.getElem?_append_right (by omega), hl]
      congr 1; omega
theorem rowsL_mem {rows : Nat → List SV} : ∀ n x, x ∈ rowsL rows n → ∃ j, j < n ∧ x ∈ rows j
  | 0, x, h => by simp [rowsL] at h
  | n + 1, x, h => by
    simp only [rowsL, List.mem_append] at h
    rcases h with h | h
    · obtain ⟨j, hj, hx⟩ := rowsL_mem n x h; exact ⟨j, by omega, hx⟩
    · exact ⟨n, by omega, h⟩

theorem HOK.put {A B : Names} {H H0 : Heap} {w' : World} (h : HOK A ρ H w) (h0 : ∀ k so, look k H0 = some so → look k H = some so) {nid : Nat} {so' : SO} {bo : Option Nat} (hf : ¬ A.b nid) (hb : ∀ i, A.b i → B.b i) (hid : B.b nid) (ht : ∀ t, A.t t → B.t t)
    (hw : ∀ b j so, look j H0 = some so → ρ.b j = some b → w'.heap[b]? = w.heap[b]?) (hin : so'.In B (upd ρ nid bo))
    (hnew : (bo = none ∧ ∃ s c row T, so' = .view s 0 c row T) ∨ ∃ b ob, bo = some b ∧ w'.heap[b]? = some ob ∧ so'.sat (upd ρ nid bo) ob ∧ ∀ j so, look j H0 = some so → ρ.b j ≠ some b) :
    HOK B (upd ρ nid bo) ((nid, so') :: H0) w' := by
  have hag : ρ.agree A (upd ρ nid bo) := upd_agree hf
  have hne : ∀ k so, look k H0 = some so → k ≠ nid := fun k so hk e => by subst e; exact hf (h.here k so (h0 k so hk)).1
  refine ⟨fun k sk hk => ?_, fun i j si sj c hi hj h1 h2 => ?_⟩
  · rw [look_cons] at hk
    split at hk
    · rename_i e; subst e
      obtain rfl := Option.some.inj hk
      refine ⟨hid, hin, ?_⟩
      rcases hnew with ⟨e1, e2⟩ | ⟨b, ob, e1, e2, e3, _⟩
      · exact Or.inr (Or.inl ⟨by simp [upd, e1], Or.inl e2⟩)
      · exact Or.inl ⟨b, ob, by simp [upd, e1], by simp [upd], e2, e3⟩
    · obtain ⟨h1, h2, h3⟩ := h.here k sk (h0 k sk hk)
      refine ⟨hb _ h1, SO.In_agree hag hb ht h2, (h3.world fun b o e1 e2 => ?_).agree hag h1 h2⟩
      rw [hw b k sk hk e1]; exact e2
  · have self : ∀ k sk, k ≠ nid → look k ((nid, so') :: H0) = some sk → (upd ρ nid bo).b nid = some c → (upd ρ nid bo).b k = some c → False := by
      intro k sk hk hs' e1 e2
      rw [look_cons, if_neg hk] at hs'
      have e2' : ρ.b k = some c := by simpa [upd, hk] using e2
      simp [upd] at e1
      rcases hnew with ⟨e3, _⟩ | ⟨b, ob, e3, _, _, e4⟩
      · rw [e3] at e1; cases e1
      · rw [e3] at e1; obtain rfl := Option.some.inj e1; exact e4 k sk hs' e2'
    by_cases hi' : i = nid
    · by_cases hj' : j = nid
      · left; rw [hi', hj']
      · subst hi'; exact (self j sj hj' hj h1 h2).elim
    · by_cases hj' : j = nid
      · subst hj'; exact (self i si hi' hi h2 h1).elim
      · rw [look_cons, if_neg hi'] at hi
        rw [look_cons, if_neg hj'] at hj
        exact h.inj i j si sj c (h0 _ _ hi) (h0 _ _ hj) (by simpa [upd, hi'] using h1) (by simpa [upd, hj'] using h2)

theorem rowsOf_sat {s : Nat} {so : SO} {n c : Nat} {row : Nat → List SV} {T : TypeId} (h : rowsOf s so = some (n, c, row, T)) : (so.In A ρ → (SO.view s n c row T).In A ρ) ∧ (∀ ob, so.sat ρ ob → (SO.view s n c row T).sat ρ ob) ∧ so.isRo = false := by
  cases so with
  | cells cs T' =>
    simp only [rowsOf, Option.some.injEq, Prod.mk.injEq] at h
    obtain ⟨rfl, rfl, rfl, rfl⟩ := h
    refine ⟨fun hi j _ => InL_take (InL_drop hi _) _, fun ob hs => ?_, rfl⟩
    simp only [SO.sat] at hs; subst hs
    have hdm := Nat.div_mul_le_self cs.length s
    refine ⟨_, (0, 0), rfl, ⟨Nat.le_refl _, by simp only [List.size_toArray, denL_length]; exact hdm⟩, by intro k _; simp, fun j hj => ?_⟩
    have hj1 : (j + 1) * s ≤ (cs.length / s) * s := Nat.mul_le_mul_right _ hj
    rw [Nat.add_mul, Nat.one_mul] at hj1
    refine ⟨by simp; omega, fun q hq => ?_⟩
    simp only [List.getElem?_toArray, denL_get]
    rw [List.getElem?_take_of_lt hq, List.getElem?_drop]
  | view s' n' c' row' T' =>
    simp only [rowsOf] at h
    split at h
    · rename_i hb
      obtain rfl := Nat.eq_of_beq_eq_true hb
      simp only [Option.some.injEq, Prod.mk.injEq] at h
      obtain ⟨rfl, rfl, rfl, rfl⟩ := h
      exact ⟨fun h => h, fun _ h => h, rfl⟩
    · cases h
  | iter s pos => simp [rowsOf] at h
  | raw φ => simp [rowsOf] at h
  | ro s n row => simp [rowsOf] at h

/-- What stands at rows. -/
theorem rowsOf_at {s id : Nat} {so : SO} {n c : Nat} {row : Nat → List SV} {T : TypeId} (h : rowsOf s so = some (n, c, row, T)) (hat : At ρ w id so) :
    (∃ b arr fr, ρ.b id = some b ∧ ρ.o id = 0 ∧ w.heap[b]? = some (.cells arr T fr) ∧ (n ≤ c ∧ c * s ≤ arr.size) ∧ (∀ k, k < arr.size → ¬ (fr.1 ≤ k ∧ k < fr.2)) ∧
      (∀ i, i < n → (row i).length = s ∧ ∀ j, j < s → arr[i * s + j]? = ((row i)[j]?).map (SV.den ρ))) ∨ (ρ.b id = none ∧ n = 0) := by
  obtain ⟨_, r2, r3⟩ := rowsOf_sat (A := ⟨fun _ => True, fun _ => True⟩) (ρ := ρ) h
  rcases hat with ⟨b, ob, e1, e0, e2, e3⟩ | ⟨e1, ⟨_, _, _, _, rfl⟩ | ⟨_, _, rfl⟩⟩ | ⟨_, _, _, _, _, _, _, rfl, _⟩
  · obtain ⟨arr, fr, rfl, q⟩ := r2 ob e3
    exact Or.inl ⟨b, arr, fr, e1, e0, e2, q⟩
  · right
    refine ⟨e1, ?_⟩
    simp only [rowsOf] at h
    split at h
    · simp only [Option.some.injEq, Prod.mk.injEq] at h; exact h.1.symm
    · cases h
  · cases r3
  · cases r3

/-- The source of an append: its rows, as the model reads them. -/
structure Src (A : Names) (P : Program) (ρ : Val) (w : World) (s m : Nat) (rowY : Nat → List SV) (v : Value) : Prop where
  len : ∀ j, j < m → (rowY j).length = s
  ins : ∀ j, j < m → SV.InL A ρ (rowY j)
  one : ∀ j, j < m → ∀ x ∈ rowY j, (x.den ρ).oneCell' = true
  lenOf : ∀ w', (Builtin.lenOf v).run P w' = .ok m w'
  first : ∀ n, n ≤ m → ∀ w', w'.heap = w.heap → (Builtin.firstCells s n v).run P w' = .ok (SV.denL ρ (rowsL rowY n)).toArray w'

theorem srcX_sound {s no : Nat} {H : Heap} {y : SV} {m : Nat} {rowY : Nat → List SV} {pre : List Prop} (hH : HOK A ρ H w) (hy : y.In A ρ) (h : srcX s H no y = some (m, rowY, pre)) (hp : ∀ p ∈ pre, p) :
    Src A P ρ w s m rowY (y.den ρ) := by
  unfold srcX at h
  split at h
  · simp only [Option.some.injEq, Prod.mk.injEq] at h
    obtain ⟨rfl, rfl, rfl⟩ := h
    exact ⟨fun j hj => by omega, fun j hj => by omega, fun j hj => by omega, fun w' => rfl, fun n hn w' _ => by (have h0 : n = 0 := by omega); subst h0; rfl⟩
  · rename_i b
    split at h
    · simp only [Option.some.injEq, Prod.mk.injEq] at h
      obtain ⟨rfl, rfl, rfl⟩ := h
      refine ⟨fun j hj => rfl, fun j hj => ⟨trivial, trivial⟩, fun j hj x hx => by simp at hx; subst hx; rfl, fun w' => rfl, fun n hn w' _ => ?_⟩
      simp only [SV.den, Builtin.firstCells, Sem.run_pure]
      congr 1
      apply Array.toList_inj.1
      have hl := rowsL_length (s := 1) (rows := fun j => [SV.g (.int .u8 (byteAt b (j : Int)))]) n (fun j _ => rfl)
      have hxd : (b.extract 0 n).data.toList = b.data.toList.take n := by simp [ByteArray.data_extract]
      apply List.ext_getElem?
      intro q
      simp only [List.toList_toArray, denL_get, Array.toList_map, hxd]
      by_cases hq : q < n
      · have := rowsL_get (s := 1) (rows := fun j => [SV.g (.int .u8 (byteAt b (j : Int)))]) n (fun j _ => rfl) q 0 hq (by omega)
        simp only [Nat.mul_one, Nat.add_zero] at this
        rw [this]
        have hq2 : q < b.size := by omega
        have hq' : q < b.data.size := hq2
        rw [List.getElem?_map, List.getElem?_take_of_lt hq]
        simp [SV.den, byteAt, Array.getElem?_eq_getElem hq', Array.getD, hq', hq2]
      · rw [List.getElem?_eq_none (l := List.map _ _), List.getElem?_eq_none (by omega)]
        · rfl
        · simp; omega
    · cases h
  · rename_i id i s' len cap
    have fin : ∀ (so : SO) (n : Nat) (row : Nat → List SV), look id H = some so → so.In A ρ → (∀ j, j < n → SV.InL A ρ (row j)) → ((∃ b arr T fr, ρ.b id = some b ∧ w.heap[b]? = some (.cells arr T fr) ∧ ∀ i, i < n → (row i).length = s ∧ ∀ j, j < s → arr[ρ.o id + (i * s + j)]? = ((row i)[j]?).map (SV.den ρ)) ∨ (ρ.b id = none ∧ n = 0)) →
        i + len ≤ n → (∀ j, j < len → ∀ x ∈ row (i + j), isPlain x = true) → s = s' → Src A P ρ w s len (fun j => row (addOff i j)) ((SV.sl id i s' len cap).den ρ) := by
      rintro so n row hl g2 hi hat hle hpl rfl
      have hins : ∀ j, j < len → SV.InL A ρ (row (addOff i j)) := fun j hj => by rw [addOff_eq]; exact hi (i + j) (by omega)
      refine ⟨fun j hj => ?_, hins, fun j hj x hx => ?_, fun w' => ?_, fun n0 hn0 w' hw => ?_⟩
      · rcases hat with ⟨b, arr, T, fr, e1, e2, q4⟩ | ⟨e1, e2⟩
        · rw [addOff_eq]; exact (q4 (i + j) (by omega)).1
        · omega
      · rw [addOff_eq] at hx
        exact plain_one ((SV.InL_iff _ _ _).1 (hi (i + j) (by omega)) x hx) (hpl j hj x hx)
      · have : ∃ p, (SV.sl id i s len cap).den ρ = .slice p len cap := by simp only [SV.den]; cases ρ.b id <;> exact ⟨_, rfl⟩
        obtain ⟨p, hp'⟩ := this
        rw [hp']; rfl
      · rcases hat with ⟨b, arr, T, fr, e1, e2, q4⟩ | ⟨e1, e2⟩
        · simp only [SV.den, e1, Builtin.firstCells]
          have e2' : w'.heap[b]? = some (.cells arr T fr) := by rw [hw]; exact e2
          have hlen : ∀ j, j < len → (row (addOff i j)).length = s := fun j hj => by rw [addOff_eq]; exact (q4 (i + j) (by omega)).1
          have hlen0 : ∀ j, j < n0 → (row (addOff i j)).length = s := fun j hj => hlen j (by omega)
          refine run_loadCells_block e2' _ (by rw [denL_length, rowsL_length n0 hlen0]) fun k hk => ?_
          rw [denL_get]
          by_cases hs0 : s = 0
          · subst hs0; simp at hk
          · have hdm := Nat.div_add_mod k s
            have hmod := Nat.mod_lt k (Nat.pos_of_ne_zero hs0)
            have hj : k / s < n0 := by
              rw [Nat.div_lt_iff_lt_mul (Nat.pos_of_ne_zero hs0)]; exact hk
            have e4 := rowsL_get n0 hlen0 (k / s) (k % s) hj hmod
            have : k / s * s + k % s = k := by rw [Nat.mul_comm]; exact hdm
            rw [this] at e4
            rw [e4]
            have e5 := (q4 (i + k / s) (by omega)).2 (k % s) hmod
            rw [Nat.add_mul] at e5
            have : ρ.o id + i * s + k = ρ.o id + (i * s + k / s * s + k % s) := by omega
            rw [this, e5, addOff_eq]
        · have := (hy.2.1 e1)
          obtain ⟨rfl, rfl⟩ := this
          obtain rfl : n0 = 0 := by omega
          simp only [SV.den, e1, Builtin.firstCells]
          rfl
    have viaRows : ∀ (so : SO) (n c : Nat) (row : Nat → List SV) (T : TypeId), look id H = some so → rowsOf s so = some (n, c, row, T) → i + len ≤ n → (∀ j, j < len → ∀ x ∈ row (i + j), isPlain x = true) → s = s' →
        Src A P ρ w s len (fun j => row (addOff i j)) ((SV.sl id i s' len cap).den ρ) := by
      intro so n c row T hl hr hle hpl hs
      obtain ⟨g1, g2, g3⟩ := hH.here id so hl
      refine fin so n row hl g2 ((rowsOf_sat (A := A) (ρ := ρ) hr).1 g2) ?_ hle hpl hs
      rcases rowsOf_at hr g3 with ⟨b, arr, fr, e1, e0, e2, _, _, q4⟩ | h'
      · exact Or.inl ⟨b, arr, T, fr, e1, e2, fun i hi => ⟨(q4 i hi).1, fun j hj => by rw [e0, Nat.zero_add]; exact (q4 i hi).2 j hj⟩⟩
      · exact Or.inr h'
    split at h
    · rename_i cs T hb hno hl
      obtain rfl := Nat.eq_of_beq_eq_true hb
      split at h
      · rename_i h1 h2 h3
        have h1' := Nat.le_of_ble_eq_true h1
        have hs0 : s ≠ 0 := by have := Nat.le_of_ble_eq_true h3; omega
        simp only [Option.some.injEq, Prod.mk.injEq] at h
        obtain ⟨rfl, rfl, rfl⟩ := h
        exact viaRows _ _ _ (fun j => (cs.drop (j * s)).take s) T hl rfl ((Nat.le_div_iff_mul_le (Nat.pos_of_ne_zero hs0)).2 h1') (fun j hj x hx => List.all_eq_true.1 h2 x (List.mem_of_mem_drop (List.mem_of_mem_take hx))) rfl
      · cases h
    · rename_i s'' n c row T hb hno hl
      obtain rfl := Nat.eq_of_beq_eq_true hb
      split at h
      · rename_i hb2
        obtain rfl := Nat.eq_of_beq_eq_true hb2
        simp only [Option.some.injEq, Prod.mk.injEq] at h
        obtain ⟨rfl, rfl, rfl⟩ := h
        have p1 : i + len ≤ n := hp _ (by simp)
        have p2 : ∀ j, j < len → (row (i + j)).all isPlain = true := hp _ (by simp)
        exact viaRows _ n c row T hl (by simp [rowsOf]) p1 (fun j hj x hx => List.all_eq_true.1 (p2 j hj) x hx) rfl
      · cases h
    · rename_i s'' n row hb hno hl
      obtain rfl := Nat.eq_of_beq_eq_true hb
      split at h
      · rename_i hb2
        obtain rfl := Nat.eq_of_beq_eq_true hb2
        simp only [Option.some.injEq, Prod.mk.injEq] at h
        obtain ⟨rfl, rfl, rfl⟩ := h
        have p1 : i + len ≤ n := hp _ (by simp)
        have p2 : ∀ j, j < len → (row (i + j)).all isPlain = true := hp _ (by simp)
        obtain ⟨g1, g2, g3⟩ := hH.here id _ hl
        refine fin _ n row hl g2 g2 ?_ p1 (fun j hj x hx => List.all_eq_true.1 (p2 j hj) x hx) rfl
        exact g3.ro
      · cases h
    · cases h
  · cases h

end
end Go.Eng
