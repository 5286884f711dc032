/- Chapter 15: what is read is written so; what is written is read so. -/
import Derived.Test.YtghbejmnnfoamaaI
import Derived.Test.YtghbejmnnfoamaaHd
set_option linter.unusedVariables false
set_option linter.unusedSimpArgs false
namespace Go.Proofs.Ytghbejmnnfoamaa
open Go Go.Eng
attribute [local irreducible] condX
/-! ### bytes of a text by their places -/
theorem byteAt_bz {L : List Int} (hL : ∀ x ∈ L, 0 ≤ x ∧ x < 256) {j : Nat} (h : j < L.length) : byteAt (bz L) (j : Int) = L[j] := by
  have h1 : (byL (bz L))[j]? = some (byteAt (bz L) j) := byL_get (by rw [bz_size]; exact h)
  rw [byL_bz hL, List.getElem?_eq_getElem h] at h1
  exact (Option.some.inj h1).symm
theorem byL_inj {a b : ByteArray} (h : byL a = byL b) : a = b := by rw [← bz_byL a, h, bz_byL]
theorem byL_ext (b : ByteArray) (i j : Nat) : byL (b.extract i j) = ((byL b).take j).drop i := by
  obtain ⟨a⟩ := b
  have e : (ByteArray.mk a).extract i j = ⟨a.extract i j⟩ := by apply ByteArray.ext; simp [ByteArray.data_extract]
  rw [e]
  simp only [byL, Array.toList_extract, List.extract_eq_take_drop, List.map_take, List.map_drop]
  rw [List.drop_take]
theorem byL_range (b : ByteArray) {n : Nat} (h : n ≤ b.size) : (byL b).take n = (List.range n).map fun (j : Nat) => byteAt b j := by
  apply List.ext_getElem?
  intro j
  by_cases hj : j < n
  · rw [List.getElem?_take_of_lt hj, byL_get (by omega), List.getElem?_map, List.getElem?_range hj]; rfl
  · rw [List.getElem?_eq_none (by simp; omega), List.getElem?_eq_none (by simp; omega)]
theorem be1 {v : Int} (h : 0 ≤ v ∧ v < 256) : beL v 1 1 = [v] := by
  simp [beL, List.range_succ]; omega
theorem be2 {x y : Int} (hx : 0 ≤ x ∧ x < 256) (hy : 0 ≤ y ∧ y < 256) : beL (x * 256 + y) 2 2 = [x, y] := by
  simp [beL, List.range_succ]; omega
theorem be4 {x y z w : Int} (hx : 0 ≤ x ∧ x < 256) (hy : 0 ≤ y ∧ y < 256) (hz : 0 ≤ z ∧ z < 256) (hw : 0 ≤ w ∧ w < 256) : beL (((x * 256 + y) * 256 + z) * 256 + w) 4 4 = [x, y, z, w] := by
  simp [beL, List.range_succ]; omega
/-- The head of what was read is what was read. -/
theorem lowU_bare {b : ByteArray} {k : Int} (hl : ¬ lowBad b k) : lowU (fullU b k) = lowOf b := by
  have hb := low_bd b
  simp only [lowU, fullU, bareU, bare0]
  unfold lowBad at hl
  split at hl
  · rename_i h2
    have : ¬ k = 5 := by omega
    simp [this, h2]
  · rename_i h2
    split at hl
    · rename_i h5
      subst h5
      by_cases h1 : lowOf b = 1
      · simp [h1]
      · have : lowOf b = 0 := by omega
        simp [this]
    · rename_i h5
      have : lowOf b = 0 := by omega
      simp [h5, h2, this]
theorem headR_1 {b : ByteArray} (hk : kOf b = 1) (hs : own 1 ≤ (hOf b).size) (hl : ¬ lowBad b 1) : headL (fullU b 1) = (byL (hOf b)).take (own 1) := by
  have ho : own 1 = 5 := by decide
  have hb := fun (j : Nat) => byteAt_lt (hOf b) (j : Int)
  have h10 : (1 : Int) ≤ 1 ∧ (1 : Int) ≤ 10 := by decide
  have e0 : 16 * (1 : Int) + lowU (fullU b 1) = byteAt (hOf b) ((0 : Nat) : Int) := by
    rw [lowU_bare hl, ← hk]; unfold kOf lowOf; simp only [Int.natCast_zero]; omega
  rw [headL_1 rfl, byL_range _ hs, e0, ho]
  rw [ho] at hs
  simp (disch := first | decide | omega) only [fullU, bareU, bare0, partsU, h116, h102, h110, h99, h114, h115, a2, a3, a4, a5, a6, sk, pv_t, nm1, nm2, nm4, decide_true, decide_false, ne_eq, not_true_eq_false, not_false_eq_true, and_true, true_and, and_false, false_and, or_true, true_or, or_false, false_or, Int.reduceEq, Int.reduceLE, and_self, or_self, if_true, if_false]
  simp only [be1 (hb _), be2 (hb _) (hb _), be4 (hb _) (hb _) (hb _) (hb _)]
  rfl
theorem headR_2 {b : ByteArray} (hk : kOf b = 2) (hs : own 2 ≤ (hOf b).size) (hl : ¬ lowBad b 2) : headL (fullU b 2) = (byL (hOf b)).take (own 2) := by
  have ho : own 2 = 7 := by decide
  have hb := fun (j : Nat) => byteAt_lt (hOf b) (j : Int)
  have h10 : (1 : Int) ≤ 2 ∧ (2 : Int) ≤ 10 := by decide
  have e0 : 16 * (2 : Int) + lowU (fullU b 2) = byteAt (hOf b) ((0 : Nat) : Int) := by
    rw [lowU_bare hl, ← hk]; unfold kOf lowOf; simp only [Int.natCast_zero]; omega
  rw [headL_2 rfl, byL_range _ hs, e0, ho]
  rw [ho] at hs
  simp (disch := first | decide | omega) only [fullU, bareU, bare0, partsU, h116, h102, h110, h99, h114, h115, a2, a3, a4, a5, a6, sk, pv_t, nm1, nm2, nm4, decide_true, decide_false, ne_eq, not_true_eq_false, not_false_eq_true, and_true, true_and, and_false, false_and, or_true, true_or, or_false, false_or, Int.reduceEq, Int.reduceLE, and_self, or_self, if_true, if_false]
  simp only [be1 (hb _), be2 (hb _) (hb _), be4 (hb _) (hb _) (hb _) (hb _)]
  rfl
theorem headR_3 {b : ByteArray} (hk : kOf b = 3) (hs : own 3 ≤ (hOf b).size) (hl : ¬ lowBad b 3) : headL (fullU b 3) = (byL (hOf b)).take (own 3) := by
  have ho : own 3 = 6 := by decide
  have hb := fun (j : Nat) => byteAt_lt (hOf b) (j : Int)
  have h10 : (1 : Int) ≤ 3 ∧ (3 : Int) ≤ 10 := by decide
  have e0 : 16 * (3 : Int) + lowU (fullU b 3) = byteAt (hOf b) ((0 : Nat) : Int) := by
    rw [lowU_bare hl, ← hk]; unfold kOf lowOf; simp only [Int.natCast_zero]; omega
  rw [headL_3 rfl, byL_range _ hs, e0, ho]
  rw [ho] at hs
  simp (disch := first | decide | omega) only [fullU, bareU, bare0, partsU, h116, h102, h110, h99, h114, h115, a2, a3, a4, a5, a6, sk, pv_t, nm1, nm2, nm4, decide_true, decide_false, ne_eq, not_true_eq_false, not_false_eq_true, and_true, true_and, and_false, false_and, or_true, true_or, or_false, false_or, Int.reduceEq, Int.reduceLE, and_self, or_self, if_true, if_false]
  simp only [be1 (hb _), be2 (hb _) (hb _), be4 (hb _) (hb _) (hb _) (hb _)]
  rfl
theorem headR_4 {b : ByteArray} (hk : kOf b = 4) (hs : own 4 ≤ (hOf b).size) (hl : ¬ lowBad b 4) : headL (fullU b 4) = (byL (hOf b)).take (own 4) := by
  have ho : own 4 = 5 := by decide
  have hb := fun (j : Nat) => byteAt_lt (hOf b) (j : Int)
  have h10 : (1 : Int) ≤ 4 ∧ (4 : Int) ≤ 10 := by decide
  have e0 : 16 * (4 : Int) + lowU (fullU b 4) = byteAt (hOf b) ((0 : Nat) : Int) := by
    rw [lowU_bare hl, ← hk]; unfold kOf lowOf; simp only [Int.natCast_zero]; omega
  rw [headL_4 rfl, byL_range _ hs, e0, ho]
  rw [ho] at hs
  simp (disch := first | decide | omega) only [fullU, bareU, bare0, partsU, h116, h102, h110, h99, h114, h115, a2, a3, a4, a5, a6, sk, pv_t, nm1, nm2, nm4, decide_true, decide_false, ne_eq, not_true_eq_false, not_false_eq_true, and_true, true_and, and_false, false_and, or_true, true_or, or_false, false_or, Int.reduceEq, Int.reduceLE, and_self, or_self, if_true, if_false]
  simp only [be1 (hb _), be2 (hb _) (hb _), be4 (hb _) (hb _) (hb _) (hb _)]
  rfl
theorem headR_5 {b : ByteArray} (hk : kOf b = 5) (hs : own 5 ≤ (hOf b).size) (hl : ¬ lowBad b 5) : headL (fullU b 5) = (byL (hOf b)).take (own 5) := by
  have ho : own 5 = 7 := by decide
  have hb := fun (j : Nat) => byteAt_lt (hOf b) (j : Int)
  have h10 : (1 : Int) ≤ 5 ∧ (5 : Int) ≤ 10 := by decide
  have e0 : 16 * (5 : Int) + lowU (fullU b 5) = byteAt (hOf b) ((0 : Nat) : Int) := by
    rw [lowU_bare hl, ← hk]; unfold kOf lowOf; simp only [Int.natCast_zero]; omega
  rw [headL_5 rfl, byL_range _ hs, e0, ho]
  rw [ho] at hs
  simp (disch := first | decide | omega) only [fullU, bareU, bare0, partsU, h116, h102, h110, h99, h114, h115, a2, a3, a4, a5, a6, sk, pv_t, nm1, nm2, nm4, decide_true, decide_false, ne_eq, not_true_eq_false, not_false_eq_true, and_true, true_and, and_false, false_and, or_true, true_or, or_false, false_or, Int.reduceEq, Int.reduceLE, and_self, or_self, if_true, if_false]
  simp only [be1 (hb _), be2 (hb _) (hb _), be4 (hb _) (hb _) (hb _) (hb _)]
  rfl
theorem headR_6 {b : ByteArray} (hk : kOf b = 6) (hs : own 6 ≤ (hOf b).size) (hl : ¬ lowBad b 6) : headL (fullU b 6) = (byL (hOf b)).take (own 6) := by
  have ho : own 6 = 8 := by decide
  have hb := fun (j : Nat) => byteAt_lt (hOf b) (j : Int)
  have h10 : (1 : Int) ≤ 6 ∧ (6 : Int) ≤ 10 := by decide
  have e0 : 16 * (6 : Int) + lowU (fullU b 6) = byteAt (hOf b) ((0 : Nat) : Int) := by
    rw [lowU_bare hl, ← hk]; unfold kOf lowOf; simp only [Int.natCast_zero]; omega
  rw [headL_6 rfl, byL_range _ hs, e0, ho]
  rw [ho] at hs
  simp (disch := first | decide | omega) only [fullU, bareU, bare0, partsU, h116, h102, h110, h99, h114, h115, a2, a3, a4, a5, a6, sk, pv_t, nm1, nm2, nm4, decide_true, decide_false, ne_eq, not_true_eq_false, not_false_eq_true, and_true, true_and, and_false, false_and, or_true, true_or, or_false, false_or, Int.reduceEq, Int.reduceLE, and_self, or_self, if_true, if_false]
  simp only [be1 (hb _), be2 (hb _) (hb _), be4 (hb _) (hb _) (hb _) (hb _)]
  rfl
theorem headR_7 {b : ByteArray} (hk : kOf b = 7) (hs : own 7 ≤ (hOf b).size) (hl : ¬ lowBad b 7) : headL (fullU b 7) = (byL (hOf b)).take (own 7) := by
  have ho : own 7 = 8 := by decide
  have hb := fun (j : Nat) => byteAt_lt (hOf b) (j : Int)
  have h10 : (1 : Int) ≤ 7 ∧ (7 : Int) ≤ 10 := by decide
  have e0 : 16 * (7 : Int) + lowU (fullU b 7) = byteAt (hOf b) ((0 : Nat) : Int) := by
    rw [lowU_bare hl, ← hk]; unfold kOf lowOf; simp only [Int.natCast_zero]; omega
  rw [headL_7 rfl, byL_range _ hs, e0, ho]
  rw [ho] at hs
  simp (disch := first | decide | omega) only [fullU, bareU, bare0, partsU, h116, h102, h110, h99, h114, h115, a2, a3, a4, a5, a6, sk, pv_t, nm1, nm2, nm4, decide_true, decide_false, ne_eq, not_true_eq_false, not_false_eq_true, and_true, true_and, and_false, false_and, or_true, true_or, or_false, false_or, Int.reduceEq, Int.reduceLE, and_self, or_self, if_true, if_false]
  simp only [be1 (hb _), be2 (hb _) (hb _), be4 (hb _) (hb _) (hb _) (hb _)]
  rfl
theorem headR_8 {b : ByteArray} (hk : kOf b = 8) (hs : own 8 ≤ (hOf b).size) (hl : ¬ lowBad b 8) : headL (fullU b 8) = (byL (hOf b)).take (own 8) := by
  have ho : own 8 = 7 := by decide
  have hb := fun (j : Nat) => byteAt_lt (hOf b) (j : Int)
  have h10 : (1 : Int) ≤ 8 ∧ (8 : Int) ≤ 10 := by decide
  have e0 : 16 * (8 : Int) + lowU (fullU b 8) = byteAt (hOf b) ((0 : Nat) : Int) := by
    rw [lowU_bare hl, ← hk]; unfold kOf lowOf; simp only [Int.natCast_zero]; omega
  rw [headL_8 rfl, byL_range _ hs, e0, ho]
  rw [ho] at hs
  simp (disch := first | decide | omega) only [fullU, bareU, bare0, partsU, h116, h102, h110, h99, h114, h115, a2, a3, a4, a5, a6, sk, pv_t, nm1, nm2, nm4, decide_true, decide_false, ne_eq, not_true_eq_false, not_false_eq_true, and_true, true_and, and_false, false_and, or_true, true_or, or_false, false_or, Int.reduceEq, Int.reduceLE, and_self, or_self, if_true, if_false]
  simp only [be1 (hb _), be2 (hb _) (hb _), be4 (hb _) (hb _) (hb _) (hb _)]
  rfl
theorem headR_9 {b : ByteArray} (hk : kOf b = 9) (hs : own 9 ≤ (hOf b).size) (hl : ¬ lowBad b 9) : headL (fullU b 9) = (byL (hOf b)).take (own 9) := by
  have ho : own 9 = 7 := by decide
  have hb := fun (j : Nat) => byteAt_lt (hOf b) (j : Int)
  have h10 : (1 : Int) ≤ 9 ∧ (9 : Int) ≤ 10 := by decide
  have e0 : 16 * (9 : Int) + lowU (fullU b 9) = byteAt (hOf b) ((0 : Nat) : Int) := by
    rw [lowU_bare hl, ← hk]; unfold kOf lowOf; simp only [Int.natCast_zero]; omega
  rw [headL_9 rfl, byL_range _ hs, e0, ho]
  rw [ho] at hs
  simp (disch := first | decide | omega) only [fullU, bareU, bare0, partsU, h116, h102, h110, h99, h114, h115, a2, a3, a4, a5, a6, sk, pv_t, nm1, nm2, nm4, decide_true, decide_false, ne_eq, not_true_eq_false, not_false_eq_true, and_true, true_and, and_false, false_and, or_true, true_or, or_false, false_or, Int.reduceEq, Int.reduceLE, and_self, or_self, if_true, if_false]
  simp only [be1 (hb _), be2 (hb _) (hb _), be4 (hb _) (hb _) (hb _) (hb _)]
  rfl
theorem headR_10 {b : ByteArray} (hk : kOf b = 10) (hs : own 10 ≤ (hOf b).size) (hl : ¬ lowBad b 10) : headL (fullU b 10) = (byL (hOf b)).take (own 10) := by
  have ho : own 10 = 4 := by decide
  have hb := fun (j : Nat) => byteAt_lt (hOf b) (j : Int)
  have h10 : (1 : Int) ≤ 10 ∧ (10 : Int) ≤ 10 := by decide
  have e0 : 16 * (10 : Int) + lowU (fullU b 10) = byteAt (hOf b) ((0 : Nat) : Int) := by
    rw [lowU_bare hl, ← hk]; unfold kOf lowOf; simp only [Int.natCast_zero]; omega
  rw [headL_10 rfl, byL_range _ hs, e0, ho]
  rw [ho] at hs
  simp (disch := first | decide | omega) only [fullU, bareU, bare0, partsU, h116, h102, h110, h99, h114, h115, a2, a3, a4, a5, a6, sk, pv_t, nm1, nm2, nm4, decide_true, decide_false, ne_eq, not_true_eq_false, not_false_eq_true, and_true, true_and, and_false, false_and, or_true, true_or, or_false, false_or, Int.reduceEq, Int.reduceLE, and_self, or_self, if_true, if_false]
  simp only [be1 (hb _), be2 (hb _) (hb _), be4 (hb _) (hb _) (hb _) (hb _)]
  rfl
theorem headR {b : ByteArray} (h10 : 1 ≤ kOf b ∧ kOf b ≤ 10) (hs : own (kOf b) ≤ (hOf b).size) (hl : ¬ lowBad b (kOf b)) : headL (fullU b (kOf b)) = (byL (hOf b)).take (own (kOf b)) := by
  generalize hk : kOf b = k at *
  rcases kcases h10 with rfl | rfl | rfl | rfl | rfl | rfl | rfl | rfl | rfl | rfl
  · exact headR_1 hk hs hl
  · exact headR_2 hk hs hl
  · exact headR_3 hk hs hl
  · exact headR_4 hk hs hl
  · exact headR_5 hk hs hl
  · exact headR_6 hk hs hl
  · exact headR_7 hk hs hl
  · exact headR_8 hk hs hl
  · exact headR_9 hk hs hl
  · exact headR_10 hk hs hl
/-- What holds where something is read. -/
structure RdOK (b : ByteArray) (u : U) (c : Bool) : Prop where
  p : φ0 b
  k : 1 ≤ kOf b ∧ kOf b ≤ 10
  s : ¬ ((hOf b).size ≠ own (kOf b) ∧ chk (hOf b) (kOf b) = false)
  l : ¬ lowBad b (kOf b)
  x : ¬ sumBad b (kOf b)
  o : okU u
  u : u = fullU b (kOf b)
  c : c = chk (hOf b) (kOf b)
theorem rd_ok {b : ByteArray} {u : U} {c : Bool} (h : rdT b = (u, c, 0)) : RdOK b u c := by
  have no : ∀ {e : Int}, e ≠ 0 → (uZero, false, e) = (u, c, (0 : Int)) → False := fun he h => by
    simp only [Prod.mk.injEq] at h; exact he h.2.2
  unfold rdT at h
  split at h
  · exact (no (by decide) h).elim
  rename_i h1
  split at h
  · exact (no (by decide) h).elim
  rename_i h2
  split at h
  · exact (no (by decide) h).elim
  rename_i h3
  split at h
  · exact (no (by decide) h).elim
  rename_i h4
  have hk : 1 ≤ kOf b ∧ kOf b ≤ 10 := by
    rcases Decidable.em (1 ≤ kOf b ∧ kOf b ≤ 10) with q | q
    · exact q
    · exact (h4 q).elim
  unfold rd3 at h
  split at h
  · exact (no (by decide) h).elim
  rename_i h5
  split at h
  · exact (no (by decide) h).elim
  rename_i h6
  split at h
  · exact (no (by decide) h).elim
  rename_i h7
  split at h
  · exact (no (by decide) h).elim
  rename_i h8
  simp only [Prod.mk.injEq, and_true] at h
  obtain ⟨rfl, rfl⟩ := h
  exact ⟨⟨by omega, by omega, by omega, by omega⟩, hk, h5, fun q => h6 (Or.inl q), h7, Decidable.not_not.1 h8, rfl, rfl⟩
theorem byL_cons (b : ByteArray) (h : 0 < b.size) : byL b = byteAt b 0 :: (byL b).drop 1 := by
  have h0 : (byL b)[0]? = some (byteAt b 0) := byL_get (j := 0) h
  cases hl : byL b with
  | nil => rw [hl] at h0; cases h0
  | cons x l => rw [hl] at h0; simp only [List.getElem?_cons_zero, Option.some.injEq] at h0; rw [h0]; rfl
/-- A text is its length byte, its head, its data. -/
theorem byL_parts {b : ByteArray} (h : φ0 b) : byL b = (n0 b : Int) :: byL (hOf b) ++ byL (dOf b) := by
  have h3 := h.h3
  have hl : (byL b).length = b.size := byL_len b
  have e1 : byL (hOf b) = ((byL b).take (1 + n0 b)).drop 1 := byL_ext b 1 (1 + n0 b)
  have e2 : byL (dOf b) = ((byL b).take b.size).drop (1 + n0 b) := byL_ext b (1 + n0 b) b.size
  have e3 : (byL b).take b.size = byL b := List.take_of_length_le (by omega)
  rw [e1, e2, e3, n0_eq]
  conv => lhs; rw [← List.take_append_drop (1 + n0 b) (byL b)]
  congr 1
  have h4 := byL_cons b h.h2
  conv => lhs; rw [h4]
  rw [Nat.add_comm 1 (n0 b), List.take_succ_cons]
  congr 1
  conv => rhs; rw [h4]
  rw [List.take_succ_cons, List.drop_succ_cons, List.drop_zero]
theorem byL_app (a b : ByteArray) : byL (a ++ b) = byL a ++ byL b := by
  unfold byL
  rw [ByteArray.data_append, Array.toList_append, List.map_append]
/-- The bytes behind the head and the mark. -/
theorem chk_split {b : ByteArray} {k : Int} (hc : chk (hOf b) k = true) : byL (hOf b) = (byL (hOf b)).take (own k) ++ 195 :: (byL (hOf b)).drop (own k + 1) ∧ (hOf b).size = own k + 3 := by
  simp only [chk, Bool.and_eq_true, decide_eq_true_eq] at hc
  obtain ⟨c1, c2⟩ := hc
  have hlen : (byL (hOf b)).length = (hOf b).size := byL_len _
  have hlt : own k < (byL (hOf b)).length := by omega
  have h1 : (byL (hOf b))[own k]? = some 195 := by rw [byL_get (by omega), c2]
  have h3 : (byL (hOf b))[own k]'hlt = 195 := by rw [List.getElem?_eq_getElem hlt] at h1; exact Option.some.inj h1
  refine ⟨?_, c1⟩
  conv => lhs; rw [← List.take_append_drop (own k) (byL (hOf b)), List.drop_eq_getElem_cons hlt, h3]
theorem byL_sumS {b : ByteArray} {L : List Int} (h : byL b = L) (h4 : b.size ≤ 4000) : byL (sumS b) = [(sumL L).1, (sumL L).2] := by
  have hbd := sumL_bd L fun x hx => (byL_nn b x (by rw [h]; exact hx)).1
  rw [sumS, if_neg (by omega), h]
  generalize sumL L = p at hbd
  apply byL_bz
  intro x hx
  simp only [List.mem_cons, List.not_mem_nil, or_false] at hx
  rcases hx with rfl | rfl <;> omega
set_option maxHeartbeats 2000000 in
theorem rd_wr {b : ByteArray} {u : U} {c : Bool} (h : rdT b = (u, c, 0)) : okU u ∧ wrS u c = b := by
  obtain ⟨p, k, s, l, x, o, hu, hc⟩ := rd_ok h
  refine ⟨o, ?_⟩
  have hsz := hOf_size p.h3
  have hp3 := p.h3
  have hlen : (byL (hOf b)).length = (hOf b).size := byL_len _
  have hd : u.d = dOf b := by rw [hu]; rfl
  have hhead : own (kOf b) ≤ (hOf b).size → headL u = (byL (hOf b)).take (own (kOf b)) := fun hs => by rw [hu]; exact headR k hs l
  have hparts := byL_parts p
  unfold wrS
  rw [if_pos o]
  have key : writeL u c = byL b := by
    cases c with
    | false =>
      have hs : (hOf b).size = own (kOf b) := by
        rcases Decidable.em ((hOf b).size = own (kOf b)) with q | q
        · exact q
        · exact (s ⟨q, hc.symm⟩).elim
      have e := hhead (by omega)
      rw [List.take_of_length_le (by omega)] at e
      have e2 : writeL u false = ((headL u).length : Int) :: headL u ++ byL u.d := rfl
      rw [e2, e, hd, hparts, hlen, hsz]
    | true =>
      obtain ⟨hH, c1⟩ := chk_split hc.symm
      have e := hhead (by omega)
      have hL : (headL u).length = own (kOf b) := by rw [e, List.length_take]; omega
      rw [← e] at hH
      have hfront : (byL b).take (2 + own (kOf b)) = frontL u := by
        rw [hparts, frontL, hH, show 2 + own (kOf b) = own (kOf b) + 1 + 1 by omega, List.cons_append, List.take_succ_cons, List.cons_append]
        refine List.cons_eq_cons.2 ⟨?_, ?_⟩
        · rw [hL, ← hsz, c1]; omega
        · rw [show headL u ++ 195 :: (byL (hOf b)).drop (own (kOf b) + 1) ++ byL (dOf b) = (headL u ++ [195]) ++ ((byL (hOf b)).drop (own (kOf b) + 1) ++ byL (dOf b)) by simp]
          rw [List.take_left' (by simp; omega)]
      have hblank : byL (blank b (kOf b)) = frontL u ++ [0, 0] ++ byL u.d := by
        unfold blank
        rw [byL_app, byL_app, byL_ext, List.drop_zero, hfront, hd]
        rfl
      have hdsz : (dOf b).size = b.size - (1 + n0 b) := dOf_size
      have h4000 := p.h1
      have hbs : (blank b (kOf b)).size ≤ 4000 := by
        rw [← byL_len, hblank]
        simp only [List.length_append, frontL_len, List.length_cons, List.length_nil, byL_len, hd, hL]
        omega
      have hsum : sumS (blank b (kOf b)) = (hOf b).extract (own (kOf b) + 1) (hOf b).size := by
        rcases Decidable.em (sumS (blank b (kOf b)) = (hOf b).extract (own (kOf b) + 1) (hOf b).size) with q | q
        · exact q
        · exact (x ⟨hc.symm, q⟩).elim
      have hT : (byL (hOf b)).drop (own (kOf b) + 1) = [(sumW u).1, (sumW u).2] := by
        have h1 := congrArg byL hsum
        rw [byL_ext, List.take_of_length_le (by omega)] at h1
        rw [← h1, byL_sumS hblank hbs, sumW]
      rw [hT] at hH
      have e2 : writeL u true = frontL u ++ [(sumW u).1, (sumW u).2] ++ byL u.d := rfl
      rw [e2, hparts, hH, hd, frontL]
      have : ((n0 b : Nat) : Int) = (headL u).length + 3 := by omega
      rw [this]
      simp
  rw [key, bz_byL]
end Go.Proofs.Ytghbejmnnfoamaa
