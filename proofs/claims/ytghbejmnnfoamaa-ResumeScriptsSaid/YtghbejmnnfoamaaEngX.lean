/- The engine, part X: a region that draws its order comes, in whatever order, to what 'drawX' says. -/
import Derived.Test.YtghbejmnnfoamaaEngQ
import Derived.Test.YtghbejmnnfoamaaEngW
import Derived.OrdersHeld
set_option linter.unusedVariables false
set_option linter.unusedSimpArgs false
namespace Go.Eng
open Go

/-! ### who waits for whom -/
/-- Whatever is listed, what it waits for is listed. -/
def DC (ops : Array Oper) (listed : Array Bool) : Prop := ∀ j o, ops[j]? = some o → listed.getD j false = true → ∀ e ∈ o.after, Region.binds .any e = true → listed.getD e.on false = true

theorem edgeMask_spec {listed : Array Bool} {acc : List Nat} (hacc : ∀ k, listed.getD k false = true → ∀ i, Nat.testBit (acc.getD k 0) i = true → listed.getD i false = true) : ∀ {l : List Edge}, (∀ e ∈ l, Region.binds .any e = true → listed.getD e.on false = true) → ∀ i, Nat.testBit (edgeMask acc l) i = true → listed.getD i false = true
  | [], _, i, h => by simp [edgeMask] at h
  | e :: r, hl, i, h => by
    simp only [edgeMask] at h
    split at h
    · rename_i hb
      rw [Nat.testBit_or, Nat.testBit_or] at h
      simp only [Bool.or_eq_true] at h
      have he := hl e (by simp) hb
      rcases h with (h | h) | h
      · rw [Nat.testBit_two_pow] at h
        have : e.on = i := by simpa using h
        rw [← this]; exact he
      · exact hacc e.on he i h
      · exact edgeMask_spec hacc (fun e' h' => hl e' (by simp [h'])) i h
    · exact edgeMask_spec hacc (fun e' h' => hl e' (by simp [h'])) i h

theorem masks_spec {ops : Array Oper} {listed : Array Bool} (hdc : DC ops listed) : ∀ (l : List Oper) (acc : List Nat), ops.toList.drop acc.length = l → (∀ k o, k < acc.length → ops[k]? = some o → (∀ e ∈ o.after, Region.binds .any e = true → listed.getD e.on false = true) → ∀ i, Nat.testBit (acc.getD k 0) i = true → listed.getD i false = true) →
    ∀ k o, ops[k]? = some o → (∀ e ∈ o.after, Region.binds .any e = true → listed.getD e.on false = true) → ∀ i, Nat.testBit ((masks l acc).getD k 0) i = true → listed.getD i false = true
  | [], acc, hl, hacc, k, o, ho, he, i, hi => by
    have hk : k < acc.length := by
      have h1 : ops.toList.length ≤ acc.length := by rw [List.drop_eq_nil_iff] at hl; exact hl
      have h2 : k < ops.size := (Array.getElem?_eq_some_iff.1 ho).1
      simp only [Array.length_toList] at h1; omega
    exact hacc k o hk ho he i hi
  | x :: l, acc, hl, hacc, k, o, ho, he, i, hi => by
    have hx : ops[acc.length]? = some x := by
      have := congrArg (fun l => l[0]?) hl
      simpa using this
    refine masks_spec hdc l (acc ++ [edgeMask acc x.after.toList]) ?_ ?_ k o ho he i hi
    · have := congrArg List.tail hl
      simpa using this
    · intro k' o' hk' ho' he' i' hi'
      simp only [List.length_append, List.length_singleton] at hk'
      by_cases hlt : k' < acc.length
      · have hg : (acc ++ [edgeMask acc x.after.toList]).getD k' 0 = acc.getD k' 0 := by simp [List.getD, List.getElem?_append_left hlt]
        rw [hg] at hi'
        exact hacc k' o' hlt ho' he' i' hi'
      · obtain rfl : k' = acc.length := by omega
        rw [hx] at ho'; obtain rfl := Option.some.inj ho'
        have hg : (acc ++ [edgeMask acc x.after.toList]).getD acc.length 0 = edgeMask acc x.after.toList := by simp
        rw [hg] at hi'
        refine edgeMask_spec (fun k hk i hi => ?_) (fun e he => he' e (by simpa using he)) i' hi'
        rcases Nat.lt_or_ge k acc.length with hlt | hge
        · have hks : ∃ ok, ops[k]? = some ok := by
            have : acc.length ≤ ops.size := by
              rcases Nat.lt_or_ge ops.size acc.length with h | h
              · rw [Array.getElem?_eq_none (by omega)] at hx; cases hx
              · exact h
            exact ⟨_, Array.getElem?_eq_getElem (by omega)⟩
          obtain ⟨ok, hok⟩ := hks
          exact hacc k ok hlt hok (hdc k ok hok hk) i hi
        · have : acc.getD k 0 = 0 := by simp [List.getD, List.getElem?_eq_none hge]
          rw [this] at hi; simp at hi

/-- What is late does not come up beside what reads alone. -/
theorem late_spec {ops : Array Oper} {listed : Array Bool} (hdc : DC ops listed) {j q : Nat} {oq : Oper} (hj : j ∈ Region.ready .any ops listed) (hl : lateX ops j = true) (hqr : q ∈ Region.ready .any ops listed) (hq : ops[q]? = some oq) (hqq : isQ oq.op = true) (hqm : isMv oq.op = false) : False := by
  have un : ∀ {k : Nat}, k ∈ Region.ready .any ops listed → listed.getD k false = true → False := by
    intro k hk h
    have hun := (mem_ready.1 hk).1
    rcases Nat.lt_or_ge k listed.size with h' | h'
    · simp [h'] at hun h; rw [hun] at h; cases h
    · simp [Array.getElem?_eq_none h'] at h
  obtain ⟨_, o, ho, he⟩ := mem_ready.1 hj
  obtain ⟨_, o', ho', he'⟩ := mem_ready.1 hqr
  unfold lateX at hl
  have := List.all_eq_true.1 hl q (List.mem_range.2 (Array.getElem?_eq_some_iff.1 hq).1)
  rw [hq] at this
  simp only [hqq, hqm, Bool.not_true, Bool.false_or, Bool.or_eq_true] at this
  rcases this with this | this
  · exact un hqr (masks_spec hdc ops.toList [] (by simp) (fun k o hk => by simp at hk) j o ho he q this)
  · exact un hj (masks_spec hdc ops.toList [] (by simp) (fun k o hk => by simp at hk) q o' ho' he' j this)

theorem DC.set {ops : Array Oper} {listed : Array Bool} (h : DC ops listed) {i : Nat} (hi : i ∈ Region.ready .any ops listed) : DC ops (listed.setIfInBounds i true) := by
  intro j o ho hj e he hb
  by_cases hij : i = j
  · subst hij
    obtain ⟨_, o', ho', he'⟩ := mem_ready.1 hi
    rw [ho] at ho'; obtain rfl := Option.some.inj ho'
    exact getD_set_true (he' e he hb)
  · rw [getD_set_ne false hij] at hj
    exact getD_set_true (h j o ho hj e he hb)

section
variable {P : Program} {ops : Array Oper} {Q : Exit → Act → World → Prop} {S : World → Prop}

/-- Whatever order is picked from here on, and S holds behind every operation that is not late. -/
def AnyD (P : Program) (ops : Array Oper) (Q : Exit → Act → World → Prop) (S : World → Prop) : Nat → Array Bool → Act → World → Prop
  | 0, listed, a, w => Region.ready .any ops listed = [] ∧ Q .normal a w
  | fuel + 1, listed, a, w =>
    (Region.ready .any ops listed = [] → Q .normal a w) ∧
    ∀ i ∈ Region.ready .any ops listed, wpOp P ops Q i (fun a' w' => (lateX ops i = true ∧ wpAny P .any ops Q fuel (listed.setIfInBounds i true) a' w') ∨ (S w' ∧ AnyD P ops Q S fuel (listed.setIfInBounds i true) a' w')) a w

theorem AnyD.any : ∀ (fuel : Nat) (listed : Array Bool) (a : Act) (w : World), AnyD P ops Q S fuel listed a w → wpAny P .any ops Q fuel listed a w
  | 0, _, _, _, h => h
  | fuel + 1, _, _, _, h => ⟨h.1, fun i hi => wpOp_mono (fun a' w' h' => h'.elim And.right fun h' => AnyD.any fuel _ a' w' h'.2) (h.2 i hi)⟩

/-- What does not look at memory yields the same in every world. -/
theorem yields_mv {o : Oper} {v : Value} {a : Act} {w : World} (hm : isMv o.op = true) (hS : S w) (hy : YieldsIf P ops S o v a) : Yields P ops o v a := by
  rcases hy with ⟨hw, hv⟩ | h
  · refine Or.inl ⟨hw, fun w' => ?_⟩
    have h := hv w hS
    unfold isMv at hm
    split at hm
    · rename_i hop
      simp only [execOp, hop] at h ⊢
      simp at h ⊢
      exact h
    · cases hm
  · exact Or.inr h
/-- An operation that reads alone may be taken first. -/
theorem AnyD.first {i : Nat} {oi : Oper} {v : Value} (hi : ops[i]? = some oi) (hqi : isQ oi.op = true) (hsel : ∀ (j : Nat) (o : Oper) cs b, ops[j]? = some o → o.op ≠ .select cs b)
    (hQ : ∀ c a w, ¬ Q (.panic c) a w) :
    ∀ (fuel : Nat) (listed : Array Bool) (a : Act) (w : World), DC ops listed →
      (∀ j oj, ops[j]? = some oj → j ≠ i → listed.getD j true = false → (∀ e ∈ oj.after, Region.binds .any e = true → e.on ≠ i) → oi.apart ops oj = true) →
      i ∈ Region.ready .any ops listed → YieldsIf P ops S oi v a → S w →
      AnyD P ops Q S fuel (listed.setIfInBounds i true) (a.put oi.dst v) w → AnyD P ops Q S (fuel + 1) listed a w := by
  intro fuel
  have hQ' : ∀ c a w, Q (.panic c) (a.put oi.dst v) w → Q (.panic c) a w := fun c a w h => absurd h (hQ c _ w)
  induction fuel with
  | zero =>
    intro listed a w hdc _ hr hy hS H
    refine ⟨fun h => (by rw [h] at hr; cases hr), fun j hj => ?_⟩
    by_cases hji : j = i
    · subst hji; exact hy.wpOp hi hS (Or.inr ⟨hS, H⟩)
    · have := ready_mono hj hji
      rw [H.1] at this
      cases this
  | succ fuel ih =>
    intro listed a w hdc hfree hr hy hS H
    refine ⟨fun h => (by rw [h] at hr; cases hr), fun j hj => ?_⟩
    by_cases hji : j = i
    · subst hji; exact hy.wpOp hi hS (Or.inr ⟨hS, H⟩)
    · have h1 := H.2 j (ready_mono hj hji)
      obtain ⟨hjun, oj, hoj, hall⟩ := mem_ready.1 hj
      have hiun : listed.getD i true = false := (mem_ready.1 hr).1
      have hiun' : listed.getD i false = false := by
        rcases Nat.lt_or_ge i listed.size with h' | h'
        · simpa [h'] using hiun
        · simp [Array.getElem?_eq_none h']
      have hnl : lateX ops j = true → isMv oi.op = true := fun hl => by
        cases hm : isMv oi.op with
        | true => rfl
        | false => exact (late_spec hdc hj hl hr hi hqi hm).elim
      have hnot : ∀ e ∈ oj.after, Region.binds .any e = true → e.on ≠ i := fun e he hb heq => by
        have h1 := hall e he hb
        rw [heq, hiun'] at h1
        cases h1
      have hfree' : ∀ k ok, ops[k]? = some ok → k ≠ i → (listed.setIfInBounds j true).getD k true = false →
          (∀ e ∈ ok.after, Region.binds .any e = true → e.on ≠ i) → oi.apart ops ok = true := fun k ok hk hki hun hno => by
        refine hfree k ok hk hki ?_ hno
        by_cases hjk : j = k
        · subst hjk; exact hjun
        · rw [getD_set_ne true hjk] at hun; exact hun
      cases hm : isMv oi.op with
      | true =>
        have hyT : Yields P ops oi v a := yields_mv hm hS hy
        have h2 := wpOp_put hoj (hfree j oj hoj hji hjun hnot) (fun cs b => hsel i oi cs b hi) (fun cs b => hsel j oj cs b hoj) hQ' hyT h1
        refine wpOp_mono (fun a' w' h3 => ?_) h2
        obtain ⟨hy', ⟨hl', H'⟩ | ⟨hSw, H'⟩⟩ := h3
        · refine Or.inl ⟨hl', wpAny_first hi hsel (fun c a w h => absurd h (hQ c _ w)) fuel (listed.setIfInBounds j true) a' w' hfree' (ready_mono hr (Ne.symm hji)) hy' ?_⟩
          rw [Array.setIfInBounds_comm _ _ hji]
          exact H'
        · refine Or.inr ⟨hSw, ih (listed.setIfInBounds j true) a' w' (hdc.set hj) hfree' (ready_mono hr (Ne.symm hji)) hy'.yieldsIf hSw ?_⟩
          rw [Array.setIfInBounds_comm _ _ hji]
          exact H'
      | false =>
      have hnl : lateX ops j = false := by
        cases hl : lateX ops j with
        | false => rfl
        | true => rw [hnl hl] at hm; cases hm
      have h2 := wpOp_putIf hoj (hfree j oj hoj hji hjun hnot) (fun cs b => hsel i oi cs b hi) (fun cs b => hsel j oj cs b hoj) hQ' hy h1
      have hfree' : ∀ k ok, ops[k]? = some ok → k ≠ i → (listed.setIfInBounds j true).getD k true = false →
          (∀ e ∈ ok.after, Region.binds .any e = true → e.on ≠ i) → oi.apart ops ok = true := fun k ok hk hki hun hno => by
        refine hfree k ok hk hki ?_ hno
        by_cases hjk : j = k
        · subst hjk; exact hjun
        · rw [getD_set_ne true hjk] at hun; exact hun
      refine wpOp_mono (fun a' w' h3 => ?_) h2
      obtain ⟨hy', ⟨hl', _⟩ | ⟨hSw, H'⟩⟩ := h3
      · rw [hnl] at hl'; cases hl'
      refine Or.inr ⟨hSw, ih (listed.setIfInBounds j true) a' w' (hdc.set hj) hfree' (ready_mono hr (Ne.symm hji)) hy' hSw ?_⟩
      rw [Array.setIfInBounds_comm _ _ hji]
      exact H'

end
end Go.Eng
