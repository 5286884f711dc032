/- Chapter 15: what is written is read as it was; a spoilt byte is seen. -/
import Derived.Test.YtghbejmnnfoamaaJ
set_option linter.unusedVariables false
set_option linter.unusedSimpArgs false
namespace Go.Proofs.Ytghbejmnnfoamaa
open Go Go.Eng
attribute [local irreducible] condX
/-- A text that is a length byte, a head, data. -/
theorem laid {b : ByteArray} {H D : List Int} (h : byL b = (H.length : Int) :: H ++ D) (hn : H.length < 256) : n0 b = H.length ∧ byL (hOf b) = H ∧ byL (dOf b) = D ∧ b.size = 1 + H.length + D.length := by
  have hs : b.size = 1 + H.length + D.length := by rw [← byL_len, h]; simp; omega
  have h0 : (byL b)[0]? = some (byteAt b 0) := byL_get (by omega)
  rw [h] at h0
  simp only [List.cons_append, List.getElem?_cons_zero, Option.some.injEq] at h0
  have hn0 : n0 b = H.length := by unfold n0; rw [← h0]; rfl
  refine ⟨hn0, ?_, ?_, hs⟩
  · unfold hOf
    rw [byL_ext, hn0, h, List.cons_append, Nat.add_comm 1, List.take_succ_cons, List.drop_succ_cons, List.drop_zero, List.take_left' rfl]
  · unfold dOf
    rw [byL_ext, hn0, List.take_of_length_le (by rw [byL_len]; omega), h, List.cons_append, Nat.add_comm 1, List.drop_succ_cons, List.drop_left' rfl]
theorem byteAt_of {b : ByteArray} {L : List Int} (h : byL b = L) {j : Nat} {v : Int} (hv : L[j]? = some v) : byteAt b (j : Int) = v := by
  have hj : j < b.size := by
    have := (List.getElem?_eq_some_iff.1 hv).1
    rw [← h, byL_len] at this; exact this
  have h1 : (byL b)[j]? = some (byteAt b j) := byL_get hj
  rw [h, hv] at h1
  exact (Option.some.inj h1).symm
theorem val1 {h : ByteArray} {a : Nat} {v : Int} (h0 : byteAt h ((a : Nat) : Int) = v % 256) (hv : 0 ≤ v ∧ v ≤ 255) : nm h a 1 = v := by
  rw [nm1, h0]; omega
theorem val2 {h : ByteArray} {a : Nat} {v : Int} (h0 : byteAt h ((a : Nat) : Int) = v / 256 % 256) (h1 : byteAt h ((a + 1 : Nat) : Int) = v % 256) (hv : 0 ≤ v ∧ v ≤ 65535) : nm h a 2 = v := by
  rw [nm2, h0, h1]; omega
theorem val4 {h : ByteArray} {a : Nat} {v : Int} (h0 : byteAt h ((a : Nat) : Int) = v / 16777216 % 256) (h1 : byteAt h ((a + 1 : Nat) : Int) = v / 65536 % 256) (h2 : byteAt h ((a + 2 : Nat) : Int) = v / 256 % 256) (h3 : byteAt h ((a + 3 : Nat) : Int) = v % 256) (hv : 0 ≤ v ∧ v ≤ 2147483647) : nm h a 4 = v := by
  rw [nm4, h0, h1, h2, h3]; omega
structure RdB (u : U) (b : ByteArray) : Prop where
  k : kOf b = u.k
  low : lowOf b = lowU u
  f : fullU b u.k = u
  len : (headL u).length = own u.k
  lb : ¬ lowBad b u.k
theorem rdB_1 {u : U} {b : ByteArray} {T : List Int} (ho : okU u) (hk : u.k = 1) (hH : byL (hOf b) = headL u ++ T) (hd : dOf b = u.d) : RdB u b := by
  have h10 : (1 : Int) ≤ 1 ∧ (1 : Int) ≤ 10 := by decide
  have hw : own 1 = 5 := by decide
  rw [okU_iff (by rw [hk]; exact h10), hk] at ho
  rw [headL_1 hk] at hH
  have hl : (headL u).length = 5 := by rw [headL_1 hk]; simp [beL]
  simp at ho
  have hlow : 0 ≤ lowU u ∧ lowU u < 16 := by
    unfold lowU
    split <;> omega
  simp only [beA, beB, beD, List.cons_append, List.nil_append] at hH
  have hlen : (byL (hOf b)).length = (hOf b).size := byL_len _
  have hsz : 5 ≤ (hOf b).size := by
    rw [← hlen, hH]; simp
  have e0 : byteAt (hOf b) 0 = 16 * 1 + lowU u := byteAt_of (j := 0) hH rfl
  have ek : kOf b = 1 := by unfold kOf; rw [e0]; omega
  have el : lowOf b = lowU u := by unfold lowOf; rw [e0]; omega
  have m0 : nm (hOf b) 1 2 = u.fr := val2 (byteAt_of (j := 1) hH rfl) (byteAt_of (j := 2) hH rfl) (by omega)
  have m1 : nm (hOf b) 3 1 = u.cr := val1 (byteAt_of (j := 3) hH rfl) (by omega)
  have m2 : nm (hOf b) 4 1 = u.sz := val1 (byteAt_of (j := 4) hH rfl) (by omega)
  have ef : fullU b 1 = u := by
    simp (disch := first | decide | omega) only [fullU, bareU, bare0, partsU, h116, h102, h110, h99, h114, h115, a2, a3, a4, a5, a6, sk, pv_t, pv, el, hd, m0, m1, m2, decide_true, decide_false, ne_eq, not_true_eq_false, not_false_eq_true, and_true, true_and, and_false, false_and, or_true, true_or, or_false, false_or, Int.reduceEq, Int.reduceLE, and_self, or_self, if_true, if_false]
    obtain ⟨k, to, fr, cl, sz, nu, cr, re, e, d⟩ := u
    simp only [] at ho hk
    simp only [lowU, U.mk.injEq]
    cases e <;> simp_all <;> omega
  refine ⟨by rw [ek, hk], el, by rw [hk]; exact ef, by rw [hk, hl, hw], ?_⟩
  rw [hk]
  simp only [lowBad, el, lowU]
  cases he : u.e <;> simp_all
theorem rdB_2 {u : U} {b : ByteArray} {T : List Int} (ho : okU u) (hk : u.k = 2) (hH : byL (hOf b) = headL u ++ T) (hd : dOf b = u.d) : RdB u b := by
  have h10 : (1 : Int) ≤ 2 ∧ (2 : Int) ≤ 10 := by decide
  have hw : own 2 = 7 := by decide
  rw [okU_iff (by rw [hk]; exact h10), hk] at ho
  rw [headL_2 hk] at hH
  have hl : (headL u).length = 7 := by rw [headL_2 hk]; simp [beL]
  simp at ho
  have hlow : 0 ≤ lowU u ∧ lowU u < 16 := by
    unfold lowU
    split <;> omega
  simp only [beA, beB, beD, List.cons_append, List.nil_append] at hH
  have hlen : (byL (hOf b)).length = (hOf b).size := byL_len _
  have hsz : 7 ≤ (hOf b).size := by
    rw [← hlen, hH]; simp
  have e0 : byteAt (hOf b) 0 = 16 * 2 + lowU u := byteAt_of (j := 0) hH rfl
  have ek : kOf b = 2 := by unfold kOf; rw [e0]; omega
  have el : lowOf b = lowU u := by unfold lowOf; rw [e0]; omega
  have m0 : nm (hOf b) 1 2 = u.to := val2 (byteAt_of (j := 1) hH rfl) (byteAt_of (j := 2) hH rfl) (by omega)
  have m1 : nm (hOf b) 3 2 = u.fr := val2 (byteAt_of (j := 3) hH rfl) (byteAt_of (j := 4) hH rfl) (by omega)
  have m2 : nm (hOf b) 5 1 = u.cr := val1 (byteAt_of (j := 5) hH rfl) (by omega)
  have m3 : nm (hOf b) 6 1 = u.sz := val1 (byteAt_of (j := 6) hH rfl) (by omega)
  have ef : fullU b 2 = u := by
    simp (disch := first | decide | omega) only [fullU, bareU, bare0, partsU, h116, h102, h110, h99, h114, h115, a2, a3, a4, a5, a6, sk, pv_t, pv, el, hd, m0, m1, m2, m3, decide_true, decide_false, ne_eq, not_true_eq_false, not_false_eq_true, and_true, true_and, and_false, false_and, or_true, true_or, or_false, false_or, Int.reduceEq, Int.reduceLE, and_self, or_self, if_true, if_false]
    obtain ⟨k, to, fr, cl, sz, nu, cr, re, e, d⟩ := u
    simp only [] at ho hk
    simp only [lowU, U.mk.injEq]
    cases e <;> simp_all <;> omega
  refine ⟨by rw [ek, hk], el, by rw [hk]; exact ef, by rw [hk, hl, hw], ?_⟩
  rw [hk]
  simp only [lowBad, el, lowU]
  cases he : u.e <;> simp_all
theorem rdB_3 {u : U} {b : ByteArray} {T : List Int} (ho : okU u) (hk : u.k = 3) (hH : byL (hOf b) = headL u ++ T) (hd : dOf b = u.d) : RdB u b := by
  have h10 : (1 : Int) ≤ 3 ∧ (3 : Int) ≤ 10 := by decide
  have hw : own 3 = 6 := by decide
  rw [okU_iff (by rw [hk]; exact h10), hk] at ho
  rw [headL_3 hk] at hH
  have hl : (headL u).length = 6 := by rw [headL_3 hk]; simp [beL]
  simp at ho
  have hlow : 0 ≤ lowU u ∧ lowU u < 16 := by
    unfold lowU
    split <;> omega
  simp only [beA, beB, beD, List.cons_append, List.nil_append] at hH
  have hlen : (byL (hOf b)).length = (hOf b).size := byL_len _
  have hsz : 6 ≤ (hOf b).size := by
    rw [← hlen, hH]; simp
  have e0 : byteAt (hOf b) 0 = 16 * 3 + lowU u := byteAt_of (j := 0) hH rfl
  have ek : kOf b = 3 := by unfold kOf; rw [e0]; omega
  have el : lowOf b = lowU u := by unfold lowOf; rw [e0]; omega
  have m0 : nm (hOf b) 1 2 = u.to := val2 (byteAt_of (j := 1) hH rfl) (byteAt_of (j := 2) hH rfl) (by omega)
  have m1 : nm (hOf b) 3 2 = u.fr := val2 (byteAt_of (j := 3) hH rfl) (byteAt_of (j := 4) hH rfl) (by omega)
  have m2 : nm (hOf b) 5 1 = u.re := val1 (byteAt_of (j := 5) hH rfl) (by omega)
  have ef : fullU b 3 = u := by
    simp (disch := first | decide | omega) only [fullU, bareU, bare0, partsU, h116, h102, h110, h99, h114, h115, a2, a3, a4, a5, a6, sk, pv_t, pv, el, hd, m0, m1, m2, decide_true, decide_false, ne_eq, not_true_eq_false, not_false_eq_true, and_true, true_and, and_false, false_and, or_true, true_or, or_false, false_or, Int.reduceEq, Int.reduceLE, and_self, or_self, if_true, if_false]
    obtain ⟨k, to, fr, cl, sz, nu, cr, re, e, d⟩ := u
    simp only [] at ho hk
    simp only [lowU, U.mk.injEq]
    cases e <;> simp_all <;> omega
  refine ⟨by rw [ek, hk], el, by rw [hk]; exact ef, by rw [hk, hl, hw], ?_⟩
  rw [hk]
  simp only [lowBad, el, lowU]
  cases he : u.e <;> simp_all
theorem rdB_4 {u : U} {b : ByteArray} {T : List Int} (ho : okU u) (hk : u.k = 4) (hH : byL (hOf b) = headL u ++ T) (hd : dOf b = u.d) : RdB u b := by
  have h10 : (1 : Int) ≤ 4 ∧ (4 : Int) ≤ 10 := by decide
  have hw : own 4 = 5 := by decide
  rw [okU_iff (by rw [hk]; exact h10), hk] at ho
  rw [headL_4 hk] at hH
  have hl : (headL u).length = 5 := by rw [headL_4 hk]; simp [beL]
  simp at ho
  have hlow : 0 ≤ lowU u ∧ lowU u < 16 := by
    unfold lowU
    split <;> omega
  simp only [beA, beB, beD, List.cons_append, List.nil_append] at hH
  have hlen : (byL (hOf b)).length = (hOf b).size := byL_len _
  have hsz : 5 ≤ (hOf b).size := by
    rw [← hlen, hH]; simp
  have e0 : byteAt (hOf b) 0 = 16 * 4 + lowU u := byteAt_of (j := 0) hH rfl
  have ek : kOf b = 4 := by unfold kOf; rw [e0]; omega
  have el : lowOf b = lowU u := by unfold lowOf; rw [e0]; omega
  have m0 : nm (hOf b) 1 2 = u.to := val2 (byteAt_of (j := 1) hH rfl) (byteAt_of (j := 2) hH rfl) (by omega)
  have m1 : nm (hOf b) 3 2 = u.fr := val2 (byteAt_of (j := 3) hH rfl) (byteAt_of (j := 4) hH rfl) (by omega)
  have ef : fullU b 4 = u := by
    simp (disch := first | decide | omega) only [fullU, bareU, bare0, partsU, h116, h102, h110, h99, h114, h115, a2, a3, a4, a5, a6, sk, pv_t, pv, el, hd, m0, m1, decide_true, decide_false, ne_eq, not_true_eq_false, not_false_eq_true, and_true, true_and, and_false, false_and, or_true, true_or, or_false, false_or, Int.reduceEq, Int.reduceLE, and_self, or_self, if_true, if_false]
    obtain ⟨k, to, fr, cl, sz, nu, cr, re, e, d⟩ := u
    simp only [] at ho hk
    simp only [lowU, U.mk.injEq]
    cases e <;> simp_all <;> omega
  refine ⟨by rw [ek, hk], el, by rw [hk]; exact ef, by rw [hk, hl, hw], ?_⟩
  rw [hk]
  simp only [lowBad, el, lowU]
  cases he : u.e <;> simp_all
theorem rdB_5 {u : U} {b : ByteArray} {T : List Int} (ho : okU u) (hk : u.k = 5) (hH : byL (hOf b) = headL u ++ T) (hd : dOf b = u.d) : RdB u b := by
  have h10 : (1 : Int) ≤ 5 ∧ (5 : Int) ≤ 10 := by decide
  have hw : own 5 = 7 := by decide
  rw [okU_iff (by rw [hk]; exact h10), hk] at ho
  rw [headL_5 hk] at hH
  have hl : (headL u).length = 7 := by rw [headL_5 hk]; simp [beL]
  simp at ho
  have hlow : 0 ≤ lowU u ∧ lowU u < 16 := by
    unfold lowU
    split <;> omega
  simp only [beA, beB, beD, List.cons_append, List.nil_append] at hH
  have hlen : (byL (hOf b)).length = (hOf b).size := byL_len _
  have hsz : 7 ≤ (hOf b).size := by
    rw [← hlen, hH]; simp
  have e0 : byteAt (hOf b) 0 = 16 * 5 + lowU u := byteAt_of (j := 0) hH rfl
  have ek : kOf b = 5 := by unfold kOf; rw [e0]; omega
  have el : lowOf b = lowU u := by unfold lowOf; rw [e0]; omega
  have m0 : nm (hOf b) 1 2 = u.to := val2 (byteAt_of (j := 1) hH rfl) (byteAt_of (j := 2) hH rfl) (by omega)
  have m1 : nm (hOf b) 3 4 = u.nu := val4 (byteAt_of (j := 3) hH rfl) (byteAt_of (j := 4) hH rfl) (byteAt_of (j := 5) hH rfl) (byteAt_of (j := 6) hH rfl) (by omega)
  have ef : fullU b 5 = u := by
    simp (disch := first | decide | omega) only [fullU, bareU, bare0, partsU, h116, h102, h110, h99, h114, h115, a2, a3, a4, a5, a6, sk, pv_t, pv, el, hd, m0, m1, decide_true, decide_false, ne_eq, not_true_eq_false, not_false_eq_true, and_true, true_and, and_false, false_and, or_true, true_or, or_false, false_or, Int.reduceEq, Int.reduceLE, and_self, or_self, if_true, if_false]
    obtain ⟨k, to, fr, cl, sz, nu, cr, re, e, d⟩ := u
    simp only [] at ho hk
    simp only [lowU, U.mk.injEq]
    cases e <;> simp_all <;> omega
  refine ⟨by rw [ek, hk], el, by rw [hk]; exact ef, by rw [hk, hl, hw], ?_⟩
  rw [hk]
  simp only [lowBad, el, lowU]
  cases he : u.e <;> simp_all
theorem rdB_6 {u : U} {b : ByteArray} {T : List Int} (ho : okU u) (hk : u.k = 6) (hH : byL (hOf b) = headL u ++ T) (hd : dOf b = u.d) : RdB u b := by
  have h10 : (1 : Int) ≤ 6 ∧ (6 : Int) ≤ 10 := by decide
  have hw : own 6 = 8 := by decide
  rw [okU_iff (by rw [hk]; exact h10), hk] at ho
  rw [headL_6 hk] at hH
  have hl : (headL u).length = 8 := by rw [headL_6 hk]; simp [beL]
  simp at ho
  have hlow : 0 ≤ lowU u ∧ lowU u < 16 := by
    unfold lowU
    split <;> omega
  simp only [beA, beB, beD, List.cons_append, List.nil_append] at hH
  have hlen : (byL (hOf b)).length = (hOf b).size := byL_len _
  have hsz : 8 ≤ (hOf b).size := by
    rw [← hlen, hH]; simp
  have e0 : byteAt (hOf b) 0 = 16 * 6 + lowU u := byteAt_of (j := 0) hH rfl
  have ek : kOf b = 6 := by unfold kOf; rw [e0]; omega
  have el : lowOf b = lowU u := by unfold lowOf; rw [e0]; omega
  have m0 : nm (hOf b) 1 2 = u.to := val2 (byteAt_of (j := 1) hH rfl) (byteAt_of (j := 2) hH rfl) (by omega)
  have m1 : nm (hOf b) 3 4 = u.nu := val4 (byteAt_of (j := 3) hH rfl) (byteAt_of (j := 4) hH rfl) (byteAt_of (j := 5) hH rfl) (byteAt_of (j := 6) hH rfl) (by omega)
  have m2 : nm (hOf b) 7 1 = u.cr := val1 (byteAt_of (j := 7) hH rfl) (by omega)
  have ef : fullU b 6 = u := by
    simp (disch := first | decide | omega) only [fullU, bareU, bare0, partsU, h116, h102, h110, h99, h114, h115, a2, a3, a4, a5, a6, sk, pv_t, pv, el, hd, m0, m1, m2, decide_true, decide_false, ne_eq, not_true_eq_false, not_false_eq_true, and_true, true_and, and_false, false_and, or_true, true_or, or_false, false_or, Int.reduceEq, Int.reduceLE, and_self, or_self, if_true, if_false]
    obtain ⟨k, to, fr, cl, sz, nu, cr, re, e, d⟩ := u
    simp only [] at ho hk
    simp only [lowU, U.mk.injEq]
    cases e <;> simp_all <;> omega
  refine ⟨by rw [ek, hk], el, by rw [hk]; exact ef, by rw [hk, hl, hw], ?_⟩
  rw [hk]
  simp only [lowBad, el, lowU]
  cases he : u.e <;> simp_all
theorem rdB_7 {u : U} {b : ByteArray} {T : List Int} (ho : okU u) (hk : u.k = 7) (hH : byL (hOf b) = headL u ++ T) (hd : dOf b = u.d) : RdB u b := by
  have h10 : (1 : Int) ≤ 7 ∧ (7 : Int) ≤ 10 := by decide
  have hw : own 7 = 8 := by decide
  rw [okU_iff (by rw [hk]; exact h10), hk] at ho
  rw [headL_7 hk] at hH
  have hl : (headL u).length = 8 := by rw [headL_7 hk]; simp [beL]
  simp at ho
  have hlow : 0 ≤ lowU u ∧ lowU u < 16 := by
    unfold lowU
    split <;> omega
  simp only [beA, beB, beD, List.cons_append, List.nil_append] at hH
  have hlen : (byL (hOf b)).length = (hOf b).size := byL_len _
  have hsz : 8 ≤ (hOf b).size := by
    rw [← hlen, hH]; simp
  have e0 : byteAt (hOf b) 0 = 16 * 7 + lowU u := byteAt_of (j := 0) hH rfl
  have ek : kOf b = 7 := by unfold kOf; rw [e0]; omega
  have el : lowOf b = lowU u := by unfold lowOf; rw [e0]; omega
  have m0 : nm (hOf b) 1 2 = u.to := val2 (byteAt_of (j := 1) hH rfl) (byteAt_of (j := 2) hH rfl) (by omega)
  have m1 : nm (hOf b) 3 4 = u.nu := val4 (byteAt_of (j := 3) hH rfl) (byteAt_of (j := 4) hH rfl) (byteAt_of (j := 5) hH rfl) (byteAt_of (j := 6) hH rfl) (by omega)
  have m2 : nm (hOf b) 7 1 = u.cr := val1 (byteAt_of (j := 7) hH rfl) (by omega)
  have ef : fullU b 7 = u := by
    simp (disch := first | decide | omega) only [fullU, bareU, bare0, partsU, h116, h102, h110, h99, h114, h115, a2, a3, a4, a5, a6, sk, pv_t, pv, el, hd, m0, m1, m2, decide_true, decide_false, ne_eq, not_true_eq_false, not_false_eq_true, and_true, true_and, and_false, false_and, or_true, true_or, or_false, false_or, Int.reduceEq, Int.reduceLE, and_self, or_self, if_true, if_false]
    obtain ⟨k, to, fr, cl, sz, nu, cr, re, e, d⟩ := u
    simp only [] at ho hk
    simp only [lowU, U.mk.injEq]
    cases e <;> simp_all <;> omega
  refine ⟨by rw [ek, hk], el, by rw [hk]; exact ef, by rw [hk, hl, hw], ?_⟩
  rw [hk]
  simp only [lowBad, el, lowU]
  cases he : u.e <;> simp_all
theorem rdB_8 {u : U} {b : ByteArray} {T : List Int} (ho : okU u) (hk : u.k = 8) (hH : byL (hOf b) = headL u ++ T) (hd : dOf b = u.d) : RdB u b := by
  have h10 : (1 : Int) ≤ 8 ∧ (8 : Int) ≤ 10 := by decide
  have hw : own 8 = 7 := by decide
  rw [okU_iff (by rw [hk]; exact h10), hk] at ho
  rw [headL_8 hk] at hH
  have hl : (headL u).length = 7 := by rw [headL_8 hk]; simp [beL]
  simp at ho
  have hlow : 0 ≤ lowU u ∧ lowU u < 16 := by
    unfold lowU
    split <;> omega
  simp only [beA, beB, beD, List.cons_append, List.nil_append] at hH
  have hlen : (byL (hOf b)).length = (hOf b).size := byL_len _
  have hsz : 7 ≤ (hOf b).size := by
    rw [← hlen, hH]; simp
  have e0 : byteAt (hOf b) 0 = 16 * 8 + lowU u := byteAt_of (j := 0) hH rfl
  have ek : kOf b = 8 := by unfold kOf; rw [e0]; omega
  have el : lowOf b = lowU u := by unfold lowOf; rw [e0]; omega
  have m0 : nm (hOf b) 1 2 = u.to := val2 (byteAt_of (j := 1) hH rfl) (byteAt_of (j := 2) hH rfl) (by omega)
  have m1 : nm (hOf b) 3 4 = u.nu := val4 (byteAt_of (j := 3) hH rfl) (byteAt_of (j := 4) hH rfl) (byteAt_of (j := 5) hH rfl) (byteAt_of (j := 6) hH rfl) (by omega)
  have ef : fullU b 8 = u := by
    simp (disch := first | decide | omega) only [fullU, bareU, bare0, partsU, h116, h102, h110, h99, h114, h115, a2, a3, a4, a5, a6, sk, pv_t, pv, el, hd, m0, m1, decide_true, decide_false, ne_eq, not_true_eq_false, not_false_eq_true, and_true, true_and, and_false, false_and, or_true, true_or, or_false, false_or, Int.reduceEq, Int.reduceLE, and_self, or_self, if_true, if_false]
    obtain ⟨k, to, fr, cl, sz, nu, cr, re, e, d⟩ := u
    simp only [] at ho hk
    simp only [lowU, U.mk.injEq]
    cases e <;> simp_all <;> omega
  refine ⟨by rw [ek, hk], el, by rw [hk]; exact ef, by rw [hk, hl, hw], ?_⟩
  rw [hk]
  simp only [lowBad, el, lowU]
  cases he : u.e <;> simp_all
theorem rdB_9 {u : U} {b : ByteArray} {T : List Int} (ho : okU u) (hk : u.k = 9) (hH : byL (hOf b) = headL u ++ T) (hd : dOf b = u.d) : RdB u b := by
  have h10 : (1 : Int) ≤ 9 ∧ (9 : Int) ≤ 10 := by decide
  have hw : own 9 = 7 := by decide
  rw [okU_iff (by rw [hk]; exact h10), hk] at ho
  rw [headL_9 hk] at hH
  have hl : (headL u).length = 7 := by rw [headL_9 hk]; simp [beL]
  simp at ho
  have hlow : 0 ≤ lowU u ∧ lowU u < 16 := by
    unfold lowU
    split <;> omega
  simp only [beA, beB, beD, List.cons_append, List.nil_append] at hH
  have hlen : (byL (hOf b)).length = (hOf b).size := byL_len _
  have hsz : 7 ≤ (hOf b).size := by
    rw [← hlen, hH]; simp
  have e0 : byteAt (hOf b) 0 = 16 * 9 + lowU u := byteAt_of (j := 0) hH rfl
  have ek : kOf b = 9 := by unfold kOf; rw [e0]; omega
  have el : lowOf b = lowU u := by unfold lowOf; rw [e0]; omega
  have m0 : nm (hOf b) 1 2 = u.to := val2 (byteAt_of (j := 1) hH rfl) (byteAt_of (j := 2) hH rfl) (by omega)
  have m1 : nm (hOf b) 3 4 = u.nu := val4 (byteAt_of (j := 3) hH rfl) (byteAt_of (j := 4) hH rfl) (byteAt_of (j := 5) hH rfl) (byteAt_of (j := 6) hH rfl) (by omega)
  have ef : fullU b 9 = u := by
    simp (disch := first | decide | omega) only [fullU, bareU, bare0, partsU, h116, h102, h110, h99, h114, h115, a2, a3, a4, a5, a6, sk, pv_t, pv, el, hd, m0, m1, decide_true, decide_false, ne_eq, not_true_eq_false, not_false_eq_true, and_true, true_and, and_false, false_and, or_true, true_or, or_false, false_or, Int.reduceEq, Int.reduceLE, and_self, or_self, if_true, if_false]
    obtain ⟨k, to, fr, cl, sz, nu, cr, re, e, d⟩ := u
    simp only [] at ho hk
    simp only [lowU, U.mk.injEq]
    cases e <;> simp_all <;> omega
  refine ⟨by rw [ek, hk], el, by rw [hk]; exact ef, by rw [hk, hl, hw], ?_⟩
  rw [hk]
  simp only [lowBad, el, lowU]
  cases he : u.e <;> simp_all
theorem rdB_10 {u : U} {b : ByteArray} {T : List Int} (ho : okU u) (hk : u.k = 10) (hH : byL (hOf b) = headL u ++ T) (hd : dOf b = u.d) : RdB u b := by
  have h10 : (1 : Int) ≤ 10 ∧ (10 : Int) ≤ 10 := by decide
  have hw : own 10 = 4 := by decide
  rw [okU_iff (by rw [hk]; exact h10), hk] at ho
  rw [headL_10 hk] at hH
  have hl : (headL u).length = 4 := by rw [headL_10 hk]; simp [beL]
  simp at ho
  have hlow : 0 ≤ lowU u ∧ lowU u < 16 := by
    unfold lowU
    split <;> omega
  simp only [beA, beB, beD, List.cons_append, List.nil_append] at hH
  have hlen : (byL (hOf b)).length = (hOf b).size := byL_len _
  have hsz : 4 ≤ (hOf b).size := by
    rw [← hlen, hH]; simp
  have e0 : byteAt (hOf b) 0 = 16 * 10 + lowU u := byteAt_of (j := 0) hH rfl
  have ek : kOf b = 10 := by unfold kOf; rw [e0]; omega
  have el : lowOf b = lowU u := by unfold lowOf; rw [e0]; omega
  have m0 : nm (hOf b) 1 2 = u.to := val2 (byteAt_of (j := 1) hH rfl) (byteAt_of (j := 2) hH rfl) (by omega)
  have m1 : nm (hOf b) 3 1 = u.re := val1 (byteAt_of (j := 3) hH rfl) (by omega)
  have ef : fullU b 10 = u := by
    simp (disch := first | decide | omega) only [fullU, bareU, bare0, partsU, h116, h102, h110, h99, h114, h115, a2, a3, a4, a5, a6, sk, pv_t, pv, el, hd, m0, m1, decide_true, decide_false, ne_eq, not_true_eq_false, not_false_eq_true, and_true, true_and, and_false, false_and, or_true, true_or, or_false, false_or, Int.reduceEq, Int.reduceLE, and_self, or_self, if_true, if_false]
    obtain ⟨k, to, fr, cl, sz, nu, cr, re, e, d⟩ := u
    simp only [] at ho hk
    simp only [lowU, U.mk.injEq]
    cases e <;> simp_all <;> omega
  refine ⟨by rw [ek, hk], el, by rw [hk]; exact ef, by rw [hk, hl, hw], ?_⟩
  rw [hk]
  simp only [lowBad, el, lowU]
  cases he : u.e <;> simp_all
theorem rdB_of {u : U} {b : ByteArray} {T : List Int} (ho : okU u) (hH : byL (hOf b) = headL u ++ T) (hd : dOf b = u.d) : RdB u b := by
  rcases kcases ho.1 with h | h | h | h | h | h | h | h | h | h
  · exact rdB_1 ho h hH hd
  · exact rdB_2 ho h hH hd
  · exact rdB_3 ho h hH hd
  · exact rdB_4 ho h hH hd
  · exact rdB_5 ho h hH hd
  · exact rdB_6 ho h hH hd
  · exact rdB_7 ho h hH hd
  · exact rdB_8 ho h hH hd
  · exact rdB_9 ho h hH hd
  · exact rdB_10 ho h hH hd
/-- What stands behind the head: nothing, or the mark and the sums. -/
def tailL (u : U) (c : Bool) : List Int := match c with
  | true => [195, (sumW u).1, (sumW u).2]
  | false => []
theorem writeL_eq (u : U) (c : Bool) : writeL u c = ((headL u ++ tailL u c).length : Int) :: (headL u ++ tailL u c) ++ byL u.d := by
  cases c with
  | false => simp [writeL, tailL]
  | true => simp [writeL, frontL, tailL]
theorem headL_nn {u : U} (hu : okU u) : ∀ x ∈ headL u, 0 ≤ x ∧ x < 256 := headP_nn hu _
theorem sumW_bd {u : U} (hu : okU u) : 0 ≤ (sumW u).1 ∧ (sumW u).1 < 255 ∧ 0 ≤ (sumW u).2 ∧ (sumW u).2 < 255 := by
  apply sumL_bd
  intro x hx
  rw [← w10_eq] at hx
  simp only [w10, List.cons_append, List.mem_cons, List.mem_append] at hx
  rcases hx with rfl | hx | hx
  · omega
  · exact (w8_nn hu true x hx).1
  · exact (byL_nn _ x hx).1
theorem headL_lt (u : U) : (headL u).length ≤ 17 := by
  have h1 := headP_len u (fdOf (kn u.k)).size
  have h2 := fdOf_size (kn_lt u.k)
  unfold headL; omega
theorem tailL_len (u : U) (c : Bool) : (tailL u c).length ≤ 3 := by cases c <;> simp [tailL]
theorem writeL_nn {u : U} (hu : okU u) (c : Bool) : ∀ x ∈ writeL u c, 0 ≤ x ∧ x < 256 := by
  intro x hx
  have h1 := headL_lt u
  have h2 := tailL_len u c
  have hs := sumW_bd hu
  rw [writeL_eq] at hx
  simp only [List.cons_append, List.mem_cons, List.mem_append] at hx
  rcases hx with rfl | (hx | hx) | hx
  · rw [List.length_append]; omega
  · exact headL_nn hu x hx
  · cases c with
    | false => cases hx
    | true =>
      simp only [tailL, List.mem_cons, List.not_mem_nil, or_false] at hx
      rcases hx with rfl | rfl | rfl <;> omega
  · exact byL_nn _ x hx
theorem byL_wr {u : U} (hu : okU u) (c : Bool) : byL (wrS u c) = ((headL u ++ tailL u c).length : Int) :: (headL u ++ tailL u c) ++ byL u.d := by
  rw [wrS, if_pos hu, byL_bz (writeL_nn hu c), writeL_eq]
theorem okU_bare {u : U} (ho : okU u) (D : ByteArray) (hD : D = if u.k = 8 then ⟨#[120]⟩ else ⟨#[]⟩) : okU { u with d := D } := by
  have h10 := ho.1
  rw [okU_iff h10] at ho
  refine (okU_iff (u := { u with d := D }) h10).2 ⟨⟨fun h => ?_, ?_⟩, ho.2⟩
  · simp only [] at h
    simp only [hD, h, if_true]; decide
  · simp only []
    subst hD
    by_cases h : u.k = 8
    · simp only [h, if_true]; decide
    · simp only [h, if_false]
      have : (⟨#[]⟩ : ByteArray).size = 0 := rfl
      rw [this]
      (repeat' split) <;> decide
/-- What is written is read as it was. -/
theorem rd_back {u : U} (ho : okU u) (c : Bool) : rdT (wrS u c) = (u, c, 0) := by
  have hb := byL_wr ho c
  have h1 := headL_lt u
  have h2 := tailL_len u c
  obtain ⟨e1, e2, e3, e4⟩ := laid hb (by rw [List.length_append]; omega)
  have ed : dOf (wrS u c) = u.d := byL_inj e3
  have B := rdB_of ho e2 ed
  have hhi := headL_hi u
  have hdl := ho.2.1.2
  rw [byL_len] at e4
  rw [List.length_append] at e1 e4
  have hsz : (hOf (wrS u c)).size = (headL u).length + (tailL u c).length := by rw [← byL_len, e2, List.length_append]
  have hpos : 1 ≤ (headL u).length := by unfold headL headP; simp
  have hφ : φ0 (wrS u c) := ⟨by omega, by omega, by omega, by omega⟩
  have hk10 : 1 ≤ kOf (wrS u c) ∧ kOf (wrS u c) ≤ 10 := by rw [B.k]; exact ho.1
  have hchk : chk (hOf (wrS u c)) u.k = c := by
    unfold chk
    rw [hsz, B.len]
    cases c with
    | false => simp [tailL]
    | true =>
      have : byteAt (hOf (wrS u true)) ((own u.k : Nat) : Int) = 195 := byteAt_of e2 (by
        rw [← B.len, List.getElem?_append_right (Nat.le_refl _), Nat.sub_self]; rfl)
      rw [this]; simp [tailL]
  rw [rd_3 hφ hk10, B.k]
  unfold rd3
  rw [if_neg, if_neg, if_neg, if_neg, hchk, B.f]
  · rw [B.f]; exact fun h => h ho
  · rintro ⟨hc, hne⟩
    rw [hchk] at hc
    subst hc
    apply hne
    apply byL_inj
    have hbl : byL (blank (wrS u true) u.k) = frontL u ++ [0, 0] ++ byL u.d := by
      unfold blank
      rw [byL_app, byL_app, byL_ext, List.drop_zero, ed, hb, show 2 + own u.k = own u.k + 1 + 1 by omega, List.cons_append, List.take_succ_cons, ← B.len]
      rw [show headL u ++ tailL u true ++ byL u.d = (headL u ++ [195]) ++ ([(sumW u).1, (sumW u).2] ++ byL u.d) by simp [tailL]]
      rw [List.take_left' (by simp)]
      have : byL (⟨#[0, 0]⟩ : ByteArray) = [0, 0] := by decide
      rw [this]
      simp [frontL, tailL]
    have hbs : (blank (wrS u true) u.k).size ≤ 4000 := by
      rw [← byL_len, hbl]
      simp only [List.length_append, frontL_len, List.length_cons, List.length_nil, byL_len]
      omega
    rw [byL_sumS hbl hbs, byL_ext, List.take_of_length_le (by rw [byL_len]; omega), e2, ← B.len, List.drop_append]
    simp [tailL, sumW]
  · rintro (h | h)
    · exact B.lb h
    · have e : bareU (wrS u c) u.k = { fullU (wrS u c) u.k with d := (bareU (wrS u c) u.k).d } := rfl
      rw [B.f] at e
      rw [e] at h
      exact h (okU_bare ho _ rfl)
  · rintro ⟨h3, h4⟩
    rw [hchk] at h4
    subst h4
    exact h3 (by rw [hsz, B.len]; rfl)
/-! ### a spoilt byte -/
theorem sumL_fst (l : List Int) : (sumL l).1 = l.sum % 255 := by
  have : ∀ (l : List Int) (p : Int × Int), (l.foldl sum1 p).1 % 255 = (p.1 + l.sum) % 255 := by
    intro l
    induction l with
    | nil => intro p; simp
    | cons x l ih => intro p; rw [List.foldl_cons, ih, List.sum_cons]; simp only [sum1]; omega
  have h := this l (0, 0)
  have hb : (sumL l).1 % 255 = (sumL l).1 := by
    unfold sumL
    rcases List.eq_nil_or_concat l with rfl | ⟨l', x, rfl⟩
    · rfl
    · rw [List.concat_eq_append, List.foldl_append]; simp only [List.foldl_cons, List.foldl_nil, sum1]; omega
  rw [← hb]
  unfold sumL
  rw [h]; simp
theorem sum_set : ∀ (l : List Int) (i : Nat) (v w : Int), l[i]? = some v → (l.set i w).sum = l.sum - v + w
  | [], i, v, w, h => by simp at h
  | x :: l, 0, v, w, h => by simp at h; subst h; simp; omega
  | x :: l, i + 1, v, w, h => by
    simp only [List.getElem?_cons_succ] at h
    rw [List.set_cons_succ, List.sum_cons, sum_set l i v w h, List.sum_cons]; omega
/-- One byte of another sum: the sum is another. -/
theorem sumL_set {l : List Int} {i : Nat} {v : Int} (h : l[i]? = some v) (h0 : 0 ≤ v) : (sumL (l.set i (v % 255 + 1))).1 ≠ (sumL l).1 := by
  rw [sumL_fst, sumL_fst, sum_set l i v _ h]; omega
theorem byteAt_eq {a b : ByteArray} {L M : List Int} (ha : byL a = L) (hb : byL b = M) {j : Nat} (h : L[j]? = M[j]?) (hj : j < M.length) : byteAt a (j : Int) = byteAt b j := by
  have h1 : M[j]? = some (M[j]) := List.getElem?_eq_getElem hj
  rw [byteAt_of ha (h.trans h1), byteAt_of hb h1]
theorem hOf_at {b : ByteArray} {j : Nat} (h : 1 + n0 b ≤ b.size) (hj : j < n0 b) : byteAt (hOf b) (j : Int) = byteAt b ((1 + j : Nat) : Int) := by
  unfold hOf
  exact byteAt_ext (by omega) h
theorem rd_spoilt {u : U} (ho : okU u) {x : ByteArray} {i : Nat} {v : Int} (hv : (byL (wrS u true))[i]? = some v) (hx : byL x = (byL (wrS u true)).set i (v % 255 + 1)) : (rdT x).2.2 ≠ 0 := by
  intro h0
  obtain ⟨⟨u', c'⟩, hr⟩ : ∃ p : U × Bool, rdT x = (p.1, p.2, 0) := ⟨((rdT x).1, (rdT x).2.1), by rw [← h0]⟩
  have R := rd_ok hr
  have hback := rd_back ho true
  have RB := rd_ok hback
  generalize hbb : wrS u true = b at *
  have hb := byL_wr ho true
  rw [hbb] at hb
  have h1 := headL_lt u
  have hlen : (byL b).length = b.size := byL_len b
  have hlenx : x.size = b.size := by rw [← byL_len, hx, List.length_set, hlen]
  have hi : i < b.size := by rw [← hlen]; exact (List.getElem?_eq_some_iff.1 hv).1
  have hv0 := byL_nn b v (List.mem_of_getElem? hv)
  have hH : (headL u ++ tailL u true).length = (headL u).length + 3 := by simp [tailL]
  obtain ⟨e1, e2, e3, e4⟩ := laid hb (by omega)
  have B := rdB_of ho e2 (byL_inj e3)
  have hvi : byteAt b (i : Int) = v := byteAt_of rfl hv
  have hxi : byteAt x (i : Int) = v % 255 + 1 := byteAt_of hx (by rw [List.getElem?_set_self (by omega)])
  have hxj : ∀ j : Nat, j ≠ i → j < b.size → byteAt x (j : Int) = byteAt b j := fun j hj hjs => byteAt_eq hx rfl (List.getElem?_set_ne (Ne.symm hj)) (by omega)
  have hn0 : (n0 b : Int) = byteAt b ((0 : Nat) : Int) := n0_eq b
  have hn0x : (n0 x : Int) = byteAt x ((0 : Nat) : Int) := n0_eq x
  have hL : (headL u).length = own u.k := B.len
  have hown : 1 ≤ (headL u).length := by unfold headL headP; simp
  have hkb : byteAt (hOf b) ((0 : Nat) : Int) = byteAt b ((1 + 0 : Nat) : Int) := hOf_at RB.p.h3 (by omega)
  have hsx := hOf_size R.p.h3
  have hpx := R.p.h3
  have hpx4 := R.p.h4
  have hkx : byteAt (hOf x) ((0 : Nat) : Int) = byteAt x ((1 + 0 : Nat) : Int) := hOf_at R.p.h3 (by omega)
  have hkk : kOf x = u.k := by
    have q : kOf b = u.k := B.k
    have q2 : lowOf b = lowU u := B.low
    have q3 : lowU u ≤ 4 := by
      have := ho.2.2.2.1
      unfold lowU; split <;> omega
    have q4 := ho.1
    unfold kOf at *
    unfold lowOf at q2
    have : byteAt (hOf x) ((0 : Nat) : Int) / 16 = u.k := by
      by_cases h1i : i = 1
      · subst h1i
        rw [hkx]
        have w1 : byteAt x ((1 + 0 : Nat) : Int) = v % 255 + 1 := hxi
        have w2 : byteAt b ((1 + 0 : Nat) : Int) = v := hvi
        rw [w1]
        have w3 : byteAt (hOf b) 0 = v := by rw [← w2]; exact hkb
        rw [w3] at q q2
        omega
      · rw [hkx, hxj (1 + 0) (by omega) (by omega), ← hkb]; exact q
    exact this
  have hs := R.s
  rw [hkk, hsx] at hs
  by_cases hi0 : i = 0
  · subst hi0
    have w0 : (n0 x : Int) = (headL u).length + 3 + 1 := by
      rw [hn0x, hxi, ← hvi, ← hn0, e1, hH]
      omega
    apply hs
    refine ⟨by omega, ?_⟩
    unfold chk
    rw [hsx]
    have : ¬ n0 x = own u.k + 3 := by omega
    simp [this]
  have hnx : n0 x = (headL u).length + 3 := by
    have := hxj 0 (Ne.symm hi0) (by omega)
    omega
  have hmb : byteAt b ((1 + own u.k : Nat) : Int) = 195 := by
    rw [← hOf_at RB.p.h3 (by omega)]
    exact byteAt_of e2 (by rw [← hL, List.getElem?_append_right (Nat.le_refl _), Nat.sub_self]; rfl)
  have hmx : byteAt (hOf x) ((own u.k : Nat) : Int) = byteAt x ((1 + own u.k : Nat) : Int) := hOf_at R.p.h3 (by omega)
  by_cases him : i = 1 + own u.k
  · apply hs
    refine ⟨by omega, ?_⟩
    unfold chk
    rw [hmx, ← him, hxi]
    have : v = 195 := by rw [← hvi, him, hmb]
    subst this
    simp
  have hchk : chk (hOf x) u.k = true := by
    unfold chk
    rw [hmx, hxj _ (Ne.symm him) (by omega), hmb, hsx, hnx, hL]
    simp
  have hsum : sumS (blank x u.k) = (hOf x).extract (own u.k + 1) (hOf x).size := by
    have q := R.x
    rw [hkk] at q
    exact Decidable.not_not.1 fun h => q ⟨hchk, h⟩
  have hchkb : chk (hOf b) u.k = true := by
    have := RB.c; rw [B.k] at this; exact this.symm
  have hsumb : sumS (blank b u.k) = (hOf b).extract (own u.k + 1) (hOf b).size := by
    have q := RB.x
    rw [B.k] at q
    exact Decidable.not_not.1 fun h => q ⟨hchkb, h⟩
  -- in lists
  have z2 : byL (⟨#[0, 0]⟩ : ByteArray) = [0, 0] := by decide
  have bl : ∀ y : ByteArray, n0 y = own u.k + 3 → byL (blank y u.k) = (byL y).take (2 + own u.k) ++ [0, 0] ++ (byL y).drop (own u.k + 4) := by
    intro y hy
    have d : byL (y.extract (1 + n0 y) y.size) = (byL y).drop (own u.k + 4) := by
      rw [byL_ext, List.take_of_length_le (Nat.le_of_eq (byL_len y)), hy, show 1 + (own u.k + 3) = own u.k + 4 by omega]
    unfold blank dOf
    rw [byL_app, byL_app, byL_ext, List.drop_zero, z2, d]
  have st : ∀ y : ByteArray, n0 y = own u.k + 3 → 1 + n0 y ≤ y.size → byL ((hOf y).extract (own u.k + 1) (hOf y).size) = ((byL y).drop (own u.k + 2)).take 2 := by
    intro y hy hy2
    rw [byL_ext, List.take_of_length_le (Nat.le_of_eq (byL_len _))]
    unfold hOf
    rw [byL_ext, hy, List.drop_drop, List.drop_take]
    rw [show 1 + (own u.k + 3) - (1 + (own u.k + 1)) = 2 by omega, show 1 + (own u.k + 1) = own u.k + 2 by omega]
  have b4 : ∀ y : ByteArray, y.size = b.size → n0 y = own u.k + 3 → (blank y u.k).size ≤ 4000 := by
    intro y hy hy2
    have := RB.p.h1
    rw [← byL_len, bl y hy2]
    simp only [List.length_append, List.length_take, List.length_drop, byL_len, List.length_cons, List.length_nil]
    omega
  have s1 := byL_sumS (bl x (by omega)) (b4 x hlenx (by omega))
  have s2 := byL_sumS (bl b (by omega)) (b4 b rfl (by omega))
  rw [hsum, st x (by omega) hpx] at s1
  rw [hsumb, st b (by omega) RB.p.h3] at s2
  rw [hx, List.drop_set, List.take_set, List.drop_set] at s1
  by_cases hA : i < 2 + own u.k
  · rw [if_pos (by omega), if_pos (by omega), s2] at s1
    have q := sumL_set (l := (byL b).take (2 + own u.k) ++ [0, 0] ++ (byL b).drop (own u.k + 4)) (i := i) (v := v) (by
      rw [List.append_assoc, List.getElem?_append_left (by rw [List.length_take]; omega), List.getElem?_take_of_lt hA]; exact hv) hv0.1
    apply q
    rw [List.append_assoc, List.set_append_left _ _ (by rw [List.length_take]; omega), ← List.append_assoc, ← List.append_assoc]
    exact (List.cons.inj s1).1.symm
  · by_cases hB : i < own u.k + 4
    · have hs' : ((byL b).take (2 + own u.k)).set i (v % 255 + 1) = (byL b).take (2 + own u.k) := List.set_eq_of_length_le (by rw [List.length_take]; omega)
      rw [if_neg (by omega), if_pos hB, hs', ← s2] at s1
      have hl2 : ((byL b).drop (own u.k + 2)).length = b.size - (own u.k + 2) := by rw [List.length_drop, byL_len]
      have g1 : (((byL b).drop (own u.k + 2)).set (i - (own u.k + 2)) (v % 255 + 1)).take 2 = ((byL b).drop (own u.k + 2)).take 2 := s1
      have g2 := congrArg (fun l : List Int => l[i - (own u.k + 2)]?) g1
      rw [List.getElem?_take_of_lt (by omega), List.getElem?_take_of_lt (by omega), List.getElem?_set_self (by rw [hl2]; omega), List.getElem?_drop, show own u.k + 2 + (i - (own u.k + 2)) = i by omega, hv] at g2
      have := Option.some.inj g2
      omega
    · have hs' : ((byL b).take (2 + own u.k)).set i (v % 255 + 1) = (byL b).take (2 + own u.k) := List.set_eq_of_length_le (by rw [List.length_take]; omega)
      have hs2 : (((byL b).drop (own u.k + 2)).set (i - (own u.k + 2)) (v % 255 + 1)).take 2 = ((byL b).drop (own u.k + 2)).take 2 := by
        rw [List.take_set_of_le (by omega)]
      rw [if_neg (by omega), if_neg hB, hs', hs2, s2] at s1
      have q := sumL_set (l := (byL b).take (2 + own u.k) ++ [0, 0] ++ (byL b).drop (own u.k + 4)) (i := 2 + own u.k + 2 + (i - (own u.k + 4))) (v := v) (by
        rw [List.getElem?_append_right (by simp [List.length_take]; omega), List.getElem?_drop]
        have : ((byL b).take (2 + own u.k) ++ [0, 0]).length = 2 + own u.k + 2 := by simp [List.length_take]; omega
        rw [this, show own u.k + 4 + (2 + own u.k + 2 + (i - (own u.k + 4)) - (2 + own u.k + 2)) = i by omega]; exact hv) hv0.1
      apply q
      have hl3 : ((byL b).take (2 + own u.k) ++ [0, 0]).length = 2 + own u.k + 2 := by simp [List.length_take]; omega
      rw [List.set_append_right _ _ (by omega), hl3, show 2 + own u.k + 2 + (i - (own u.k + 4)) - (2 + own u.k + 2) = i - (own u.k + 4) by omega]
      exact (List.cons.inj s1).1.symm
end Go.Proofs.Ytghbejmnnfoamaa
