/- Chapter 15: what is written is read as it was; a spoilt byte is seen. -/
import Derived.Test.YtghbejmnnfoamaaJ
set_option linter.unusedVariables false
set_option linter.unusedSimpArgs false
namespace Go.Proofs.Ytghbejmnnfoamaa
open Go Go.Eng
attribute [local irreducible] condX
/-- A text that is a length byte, a head, data. -/
theorem laid {b : ByteArray} {H D : List Int} (h : byL b = (H.length : Int) :: H ++ D) (hn : H.length < 256) : n0 b = H.length ∧ byL (hOf b) = H ∧ byL (dOf b) = D ∧ b.size = 1 + H.length + D.length := by
  have hs : b.size = 1 + H.length + D.length := by rw [← byL_len, h]; simp; omega
  have h0 : (byL b)[0]? = some (byteAt b 0) := byL_get (by omega)
  rw [h] at h0
  simp only [List.cons_append, List.getElem?_cons_zero, Option.some.injEq] at h0
  have hn0 : n0 b = H.length := by unfold n0; rw [← h0]; rfl
  refine ⟨hn0, ?_, ?_, hs⟩
  · unfold hOf
    rw [byL_ext, hn0, h, List.cons_append, Nat.add_comm 1, List.take_succ_cons, List.drop_succ_cons, List.drop_zero, List.take_left' rfl]
  · unfold dOf
    rw [byL_ext, hn0, List.take_of_length_le (by rw [byL_len]; omega), h, List.cons_append, Nat.add_comm 1, List.drop_succ_cons, List.drop_left' rfl]
theorem byteAt_of {b : ByteArray} {L : List Int} (h : byL b = L) {j : Nat} {v : Int} (hv : L[j]? = some v) : byteAt b (j : Int) = v := by
  have hj : j < b.size := by
    have := (List.getElem?_eq_some_iff.1 hv).1
    rw [← h, byL_len] at this; exact this
  have h1 : (byL b)[j]? = some (byteAt b j) := byL_get hj
  rw [h, hv] at h1
  exact (Option.some.inj h1).symm
theorem val1 {h : ByteArray} {a : Nat} {v : Int} (h0 : byteAt h ((a : Nat) : Int) = v % 256) (hv : 0 ≤ v ∧ v ≤ 255) : nm h a 1 = v := by
  rw [nm1, h0]; omega
theorem val2 {h : ByteArray} {a : Nat} {v : Int} (h0 : byteAt h ((a : Nat) : Int) = v / 256 % 256) (h1 : byteAt h ((a + 1 : Nat) : Int) = v % 256) (hv : 0 ≤ v ∧ v ≤ 65535) : nm h a 2 = v := by
  rw [nm2, h0, h1]; omega
theorem val4 {h : ByteArray} {a : Nat} {v : Int} (h0 : byteAt h ((a : Nat) : Int) = v / 16777216 % 256) (h1 : byteAt h ((a + 1 : Nat) : Int) = v / 65536 % 256) (h2 : byteAt h ((a + 2 : Nat) : Int) = v / 256 % 256) (h3 : byteAt h ((a + 3 : Nat) : Int) = v % 256) (hv : 0 ≤ v ∧ v ≤ 2147483647) : nm h a 4 = v := by
  rw [nm4, h0, h1, h2, h3]; omega
structure RdB (u : U) (b : ByteArray) : Prop where
  k : kOf b = u.k
  low : lowOf b = lowU u
  f : fullU b u.k = u
  len : (headL u).length = own u.k
  lb : ¬ lowBad b u.k
theorem rdB_1 {u : U} {b : ByteArray} {T : List Int} (ho : okU u) (hk : u.k = 1) (hH : byL (hOf b) = headL u ++ T) (hd : dOf b = u.d) : RdB u b := by
  have h10 : (1 : Int) ≤ 1 ∧ (1 : Int) ≤ 10 := by decide
  have hw : own 1 = 5 := by decide
  rw [okU_iff (by rw [hk]; exact h10), hk] at ho
  rw [headL_1 hk] at hH
  have hl : (headL u).length = 5 := by rw [headL_1 hk]; simp [beL]
  simp at ho
  have hlow : 0 ≤ lowU u ∧ lowU u < 16 := by
    unfold lowU
    split <;> omega
  simp only [beA, beB, beD, List.cons_append, List.nil_append] at hH
  have hlen : (byL (hOf b)).length = (hOf b).size := byL_len _
  have hsz : 5 ≤ (hOf b).size := by
    rw [← hlen, hH]; simp
  have e0 : byteAt (hOf b) 0 = 16 * 1 + lowU u := byteAt_of (j := 0) hH rfl
  have ek : kOf b = 1 := by unfold kOf; rw [e0]; omega
  have el : lowOf b = lowU u := by unfold lowOf; rw [e0]; omega
  have m0 : nm (hOf b) 1 2 = u.fr := val2 (byteAt_of (j := 1) hH rfl) (byteAt_of (j := 2) hH rfl) (by omega)
  have m1 : nm (hOf b) 3 1 = u.cr := val1 (byteAt_of (j := 3) hH rfl) (by omega)
  have m2 : nm (hOf b) 4 1 = u.sz := val1 (byteAt_of (j := 4) hH rfl) (by omega)
  have ef : fullU b 1 = u := by
    simp (disch := first | decide | omega) only [fullU, bareU, bare0, partsU, h116, h102, h110, h99, h114, h115, a2, a3, a4, a5, a6, sk, pv_t, pv, el, hd, m0, m1, m2, decide_true, decide_false, ne_eq, not_true_eq_false, not_false_eq_true, and_true, true_and, and_false, false_and, or_true, true_or, or_false, false_or, Int.reduceEq, Int.reduceLE, and_self, or_self, if_true, if_false]
    obtain ⟨k, to, fr, cl, sz, nu, cr, re, e, d⟩ := u
    simp only [] at ho hk
    simp only [lowU, U.mk.injEq]
    cases e <;> simp_all <;> omega
  refine ⟨by rw [ek, hk], el, by rw [hk]; exact ef, by rw [hk, hl, hw], ?_⟩
  rw [hk]
  simp only [lowBad, el, lowU]
  cases he : u.e <;> simp_all
theorem rdB_2 {u : U} {b : ByteArray} {T : List Int} (ho : okU u) (hk : u.k = 2) (hH : byL (hOf b) = headL u ++ T) (hd : dOf b = u.d) : RdB u b := by
  have h10 : (1 : Int) ≤ 2 ∧ (2 : Int) ≤ 10 := by decide
  have hw : own 2 = 7 := by decide
  rw [okU_iff (by rw [hk]; exact h10), hk] at ho
  rw [headL_2 hk] at hH
  have hl : (headL u).length = 7 := by rw [headL_2 hk]; simp [beL]
  simp at ho
  have hlow : 0 ≤ lowU u ∧ lowU u < 16 := by
    unfold lowU
    split <;> omega
  simp only [beA, beB, beD, List.cons_append, List.nil_append] at hH
  have hlen : (byL (hOf b)).length = (hOf b).size := byL_len _
  have hsz : 7 ≤ (hOf b).size := by
    rw [← hlen, hH]; simp
  have e0 : byteAt (hOf b) 0 = 16 * 2 + lowU u := byteAt_of (j := 0) hH rfl
  have ek : kOf b = 2 := by unfold kOf; rw [e0]; omega
  have el : lowOf b = lowU u := by unfold lowOf; rw [e0]; omega
  have m0 : nm (hOf b) 1 2 = u.to := val2 (byteAt_of (j := 1) hH rfl) (byteAt_of (j := 2) hH rfl) (by omega)
  have m1 : nm (hOf b) 3 2 = u.fr := val2 (byteAt_of (j := 3) hH rfl) (byteAt_of (j := 4) hH rfl) (by omega)
  have m2 : nm (hOf b) 5 1 = u.cr := val1 (byteAt_of (j := 5) hH rfl) (by omega)
  have m3 : nm (hOf b) 6 1 = u.sz := val1 (byteAt_of (j := 6) hH rfl) (by omega)
  have ef : fullU b 2 = u := by
    simp (disch := first | decide | omega) only [fullU, bareU, bare0, partsU, h116, h102, h110, h99, h114, h115, a2, a3, a4, a5, a6, sk, pv_t, pv, el, hd, m0, m1, m2, m3, decide_true, decide_false, ne_eq, not_true_eq_false, not_false_eq_true, and_true, true_and, and_false, false_and, or_true, true_or, or_false, false_or, Int.reduceEq, Int.reduceLE, and_self, or_self, if_true, if_false]
    obtain ⟨k, to, fr, cl, sz, nu, cr, re, e, d⟩ := u
    simp only [] at ho hk
    simp only [lowU, U.mk.injEq]
    cases e <;> simp_all <;> omega
  refine ⟨by rw [ek, hk], el, by rw [hk]; exact ef, by rw [hk, hl, hw], ?_⟩
  rw [hk]
  simp only [lowBad, el, lowU]
  cases he : u.e <;> simp_all
theorem rdB_3 {u : U} {b : ByteArray} {T : List Int} (ho : okU u) (hk : u.k = 3) (hH : byL (hOf b) = headL u ++ T) (hd : dOf b = u.d) : RdB u b := by
  have h10 : (1 : Int) ≤ 3 ∧ (3 : Int) ≤ 10 := by decide
  have hw : own 3 = 6 := by decide
  rw [okU_iff (by rw [hk]; exact h10), hk] at ho
  rw [headL_3 hk] at hH
  have hl : (headL u).length = 6 := by rw [headL_3 hk]; simp [beL]
  simp at ho
  have hlow : 0 ≤ lowU u ∧ lowU u < 16 := by
    unfold lowU
    split <;> omega
  simp only [beA, beB, beD, List.cons_append, List.nil_append] at hH
  have hlen : (byL (hOf b)).length = (hOf b).size := byL_len _
  have hsz : 6 ≤ (hOf b).size := by
    rw [← hlen, hH]; simp
  have e0 : byteAt (hOf b) 0 = 16 * 3 + lowU u := byteAt_of (j := 0) hH rfl
  have ek : kOf b = 3 := by unfold kOf; rw [e0]; omega
  have el : lowOf b = lowU u := by unfold lowOf; rw [e0]; omega
  have m0 : nm (hOf b) 1 2 = u.to := val2 (byteAt_of (j := 1) hH rfl) (byteAt_of (j := 2) hH rfl) (by omega)
  have m1 : nm (hOf b) 3 2 = u.fr := val2 (byteAt_of (j := 3) hH rfl) (byteAt_of (j := 4) hH rfl) (by omega)
  have m2 : nm (hOf b) 5 1 = u.re := val1 (byteAt_of (j := 5) hH rfl) (by omega)
  have ef : fullU b 3 = u := by
    simp (disch := first | decide | omega) only [fullU, bareU, bare0, partsU, h116, h102, h110, h99, h114, h115, a2, a3, a4, a5, a6, sk, pv_t, pv, el, hd, m0, m1, m2, decide_true, decide_false, ne_eq, not_true_eq_false, not_false_eq_true, and_true, true_and, and_false, false_and, or_true, true_or, or_false, false_or, Int.reduceEq, Int.reduceLE, and_self, or_self, if_true, if_false]
    obtain ⟨k, to, fr, cl, sz, nu, cr, re, e, d⟩ := u
    simp only [] at ho hk
    simp only [lowU, U.mk.injEq]
    cases e <;> simp_all <;> omega
  refine ⟨by rw [ek, hk], el, by rw [hk]; exact ef, by rw [hk, hl, hw], ?_⟩
  rw [hk]
  simp only [lowBad, el, lowU]
  cases he : u.e <;> simp_all
theorem rdB_4 {u : U} {b : ByteArray} {T : List Int} (ho : okU u) (hk : u.k = 4) (hH : byL (hOf b) = headL u ++ T) (hd : dOf b = u.d) : RdB u b := by
  have h10 : (1 : Int) ≤ 4 ∧ (4 : Int) ≤ 10 := by decide
  have hw : own 4 = 5 := by decide
  rw [okU_iff (by rw [hk]; exact h10), hk] at ho
  rw [headL_4 hk] at hH
  have hl : (headL u).length = 5 := by rw [headL_4 hk]; simp [beL]
  simp at ho
  have hlow : 0 ≤ lowU u ∧ lowU u < 16 := by
    unfold lowU
    split <;> omega
  simp only [beA, beB, beD, List.cons_append, List.nil_append] at hH
  have hlen : (byL (hOf b)).length = (hOf b).size := byL_len _
  have hsz : 5 ≤ (hOf b).size := by
    rw [← hlen, hH]; simp
  have e0 : byteAt (hOf b) 0 = 16 * 4 + lowU u := byteAt_of (j := 0) hH rfl
  have ek : kOf b = 4 := by unfold kOf; rw [e0]; omega
  have el : lowOf b = lowU u := by unfold lowOf; rw [e0]; omega
  have m0 : nm (hOf b) 1 2 = u.to := val2 (byteAt_of (j := 1) hH rfl) (byteAt_of (j := 2) hH rfl) (by omega)
  have m1 : nm (hOf b) 3 2 = u.fr := val2 (byteAt_of (j := 3) hH rfl) (byteAt_of (j := 4) hH rfl) (by omega)
  have ef : fullU b 4 = u := by
    simp (disch := first | decide | omega) only [fullU, bareU, bare0, partsU, h116, h102, h110, h99, h114, h115, a2, a3, a4, a5, a6, sk, pv_t, pv, el, hd, m0, m1, decide_true, decide_false, ne_eq, not_true_eq_false, not_false_eq_true, and_true, true_and, and_false, false_and, or_true, true_or, or_false, false_or, Int.reduceEq, Int.reduceLE, and_self, or_self, if_true, if_false]
    obtain ⟨k, to, fr, cl, sz, nu, cr, re, e, d⟩ := u
    simp only [] at ho hk
    simp only [lowU, U.mk.injEq]
    cases e <;> simp_all <;> omega
  refine ⟨by rw [ek, hk], el, by rw [hk]; exact ef, by rw [hk, hl, hw], ?_⟩
  rw [hk]
  simp only [lowBad, el, lowU]
  cases he : u.e <;> simp_all
theorem rdB_5 {u : U} {b : ByteArray} {T : List Int} (ho : okU u) (hk : u.k = 5) (hH : byL (hOf b) = headL u ++ T) (hd : dOf b = u.d) : RdB u b := by
  have h10 : (1 : Int) ≤ 5 ∧ (5 : Int) ≤ 10 := by decide
  have hw : own 5 = 7 := by decide
  rw [okU_iff (by rw [hk]; exact h10), hk] at ho
  rw [headL_5 hk] at hH
  have hl : (headL u).length = 7 := by rw [headL_5 hk]; simp [beL]
  simp at ho
  have hlow : 0 ≤ lowU u ∧ lowU u < 16 := by
    unfold lowU
    split <;> omega
  simp only [beA, beB, beD, List.cons_append, List.nil_append] at hH
  have hlen : (byL (hOf b)).length = (hOf b).size := byL_len _
  have hsz : 7 ≤ (hOf b).size := by
    rw [← hlen, hH]; simp
  have e0 : byteAt (hOf b) 0 = 16 * 5 + lowU u := byteAt_of (j := 0) hH rfl
  have ek : kOf b = 5 := by unfold kOf; rw [e0]; omega
  have el : lowOf b = lowU u := by unfold lowOf; rw [e0]; omega
  have m0 : nm (hOf b) 1 2 = u.to := val2 (byteAt_of (j := 1) hH rfl) (byteAt_of (j := 2) hH rfl) (by omega)
  have m1 : nm (hOf b) 3 4 = u.nu := val4 (byteAt_of (j := 3) hH rfl) (byteAt_of (j := 4) hH rfl) (byteAt_of (j := 5) hH rfl) (byteAt_of (j := 6) hH rfl) (by omega)
  have ef : fullU b 5 = u := by
    simp (disch := first | decide | omega) only [fullU, bareU, bare0, partsU, h116, h102, h110, h99, h114, h115, a2, a3, a4, a5, a6, sk, pv_t, pv, el, hd, m0, m1, decide_true, decide_false, ne_eq, not_true_eq_false, not_false_eq_true, and_true, true_and, and_false, false_and, or_true, true_or, or_false, false_or, Int.reduceEq, Int.reduceLE, and_self, or_self, if_true, if_false]
    obtain ⟨k, to, fr, cl, sz, nu, cr, re, e, d⟩ := u
    simp only [] at ho hk
    simp only [lowU, U.mk.injEq]
    cases e <;> simp_all <;> omega
  refine ⟨by rw [ek, hk], el, by rw [hk]; exact ef, by rw [hk, hl, hw], ?_⟩
  rw [hk]
  simp only [lowBad, el, lowU]
  cases he : u.e <;> simp_all
theorem rdB_6 {u : U} {b : ByteArray} {T : List Int} (ho : okU u) (hk : u.k = 6) (hH : byL (hOf b) = headL u ++ T) (hd : dOf b = u.d) : RdB u b := by
  have h10 : (1 : Int) ≤ 6 ∧ (6 : Int) ≤ 10 := by decide
  have hw : own 6 = 8 := by decide
  rw [okU_iff (by rw [hk]; exact h10), hk] at ho
  rw [headL_6 hk] at hH
  have hl : (headL u).length = 8 := by rw [headL_6 hk]; simp [beL]
  simp at ho
  have hlow : 0 ≤ lowU u ∧ lowU u < 16 := by
    unfold lowU
    split <;> omega
  simp only [beA, beB, beD, List.cons_append, List.nil_append] at hH
  have hlen : (byL (hOf b)).length = (hOf b).size := byL_len _
  have hsz : 8 ≤ (hOf b).size := by
    rw [← hlen, hH]; simp
  have e0 : byteAt (hOf b) 0 = 16 * 6 + lowU u := byteAt_of (j := 0) hH rfl
  have ek : kOf b = 6 := by unfold kOf; rw [e0]; omega
  have el : lowOf b = lowU u := by unfold lowOf; rw [e0]; omega
  have m0 : nm (hOf b) 1 2 = u.to := val2 (byteAt_of (j := 1) hH rfl) (byteAt_of (j := 2) hH rfl) (by omega)
  have m1 : nm (hOf b) 3 4 = u.nu := val4 (byteAt_of (j := 3) hH rfl) (byteAt_of (j := 4) hH rfl) (byteAt_of (j := 5) hH rfl) (byteAt_of (j := 6) hH rfl) (by omega)
  have m2 : nm (hOf b) 7 1 = u.cr := val1 (byteAt_of (j := 7) hH rfl) (by omega)
  have ef : fullU b 6 = u := by
    simp (disch := first | decide | omega) only [fullU, bareU, bare0, partsU, h116, h102, h110, h99, h114, h115, a2, a3, a4, a5, a6, sk, pv_t, pv, el, hd, m0, m1, m2, decide_true, decide_false, ne_eq, not_true_eq_false, not_false_eq_true, and_true, true_and, and_false, false_and, or_true, true_or, or_false, false_or, Int.reduceEq, Int.reduceLE, and_self, or_self, if_true, if_false]
    obtain ⟨k, to, fr, cl, sz, nu, cr, re, e, d⟩ := u
    simp only [] at ho hk
    simp only [lowU, U.mk.injEq]
    cases e <;> simp_all <;> omega
  refine ⟨by rw [ek, hk], el, by rw [hk]; exact ef, by rw [hk, hl, hw], ?_⟩
  rw [hk]
  simp only [lowBad, el, lowU]
  cases he : u.e <;> simp_all
theorem rdB_7 {u : U} {b : ByteArray} {T : List Int} (ho : okU u) (hk : u.k = 7) (hH : byL (hOf b) = headL u ++ T) (hd : dOf b = u.d) : RdB u b := by
  have h10 : (1 : Int) ≤ 7 ∧ (7 : Int) ≤ 10 := by decide
  have hw : own 7 = 8 := by decide
  rw [okU_iff (by rw [hk]; exact h10), hk] at ho
  rw [headL_7 hk] at hH
  have hl : (headL u).length = 8 := by rw [headL_7 hk]; simp [beL]
  simp at ho
  have hlow : 0 ≤ lowU u ∧ lowU u < 16 := by
    unfold lowU
    split <;> omega
  simp only [beA, beB, beD, List.cons_append, List.nil_append] at hH
  have hlen : (byL (hOf b)).length = (hOf b).size := byL_len _
  have hsz : 8 ≤ (hOf b).size := by
    rw [← hlen, hH]; simp
  have e0 : byteAt (hOf b) 0 = 16 * 7 + lowU u := byteAt_of (j := 0) hH rfl
  have ek : kOf b = 7 := by unfold kOf; rw [e0]; omega
  have el : lowOf b = lowU u := by unfold lowOf; rw [e0]; omega
  have m0 : nm (hOf b) 1 2 = u.to := val2 (byteAt_of (j := 1) hH rfl) (byteAt_of (j := 2) hH rfl) (by omega)
  have m1 : nm (hOf b) 3 4 = u.nu := val4 (byteAt_of (j := 3) hH rfl) (byteAt_of (j := 4) hH rfl) (byteAt_of (j := 5) hH rfl) (byteAt_of (j := 6) hH rfl) (by omega)
  have m2 : nm (hOf b) 7 1 = u.cr := val1 (byteAt_of (j := 7) hH rfl) (by omega)
  have ef : fullU b 7 = u := by
    simp (disch := first | decide | omega) only [fullU, bareU, bare0, partsU, h116, h102, h110, h99, h114, h115, a2, a3, a4, a5, a6, sk, pv_t, pv, el, hd, m0, m1, m2, decide_true, decide_false, ne_eq, not_true_eq_false, not_false_eq_true, and_true, true_and, and_false, false_and, or_true, true_or, or_false, false_or, Int.reduceEq, Int.reduceLE, and_self, or_self, if_true, if_false]
    obtain ⟨k, to, fr, cl, sz, nu, cr, re, e, d⟩ := u
    simp only [] at ho hk
    simp only [lowU, U.mk.injEq]
    cases e <;> simp_all <;> omega
  refine ⟨by rw [ek, hk], el, by rw [hk]; exact ef, by rw [hk, hl, hw], ?_⟩
  rw [hk]
  simp only [lowBad, el, lowU]
  cases he : u.e <;> simp_all
theorem rdB_8 {u : U} {b : ByteArray} {T : List Int} (ho : okU u) (hk : u.k = 8) (hH : byL (hOf b) = headL u ++ T) (hd : dOf b = u.d) : RdB u b := by
  have h10 : (1 : Int) ≤ 8 ∧ (8 : Int) ≤ 10 := by decide
  have hw : own 8 = 7 := by decide
  rw [okU_iff (by rw [hk]; exact h10), hk] at ho
  rw [headL_8 hk] at hH
  have hl : (headL u).length = 7 := by rw [headL_8 hk]; simp [beL]
  simp at ho
  have hlow : 0 ≤ lowU u ∧ lowU u < 16 := by
    unfold lowU
    split <;> omega
  simp only [beA, beB, beD, List.cons_append, List.nil_append] at hH
  have hlen : (byL (hOf b)).length = (hOf b).size := byL_len _
  have hsz : 7 ≤ (hOf b).size := by
    rw [← hlen, hH]; simp
  have e0 : byteAt (hOf b) 0 = 16 * 8 + lowU u := byteAt_of (j := 0) hH rfl
  have ek : kOf b = 8 := by unfold kOf; rw [e0]; omega
  have el : lowOf b = lowU u := by unfold lowOf; rw [e0]; omega
  have m0 : nm (hOf b) 1 2 = u.to := val2 (byteAt_of (j := 1) hH rfl) (byteAt_of (j := 2) hH rfl) (by omega)
  have m1 : nm (hOf b) 3 4 = u.nu := val4 (byteAt_of (j := 3) hH rfl) (byteAt_of (j := 4) hH rfl) (byteAt_of (j := 5) hH rfl) (byteAt_of (j := 6) hH rfl) (by omega)
  have ef : fullU b 8 = u := by
    simp (disch := first | decide | omega) only [fullU, bareU, bare0, partsU, h116, h102, h110, h99, h114, h115, a2, a3, a4, a5, a6, sk, pv_t, pv, el, hd, m0, m1, decide_true, decide_false, ne_eq, not_true_eq_false, not_false_eq_true, and_true, true_and, and_false, false_and, or_true, true_or, or_false, false_or, Int.reduceEq, Int.reduceLE, and_self, or_self, if_true, if_false]
    obtain ⟨k, to, fr, cl, sz, nu, cr, re, e, d⟩ := u
    simp only [] at ho hk
    simp only [lowU, U.mk.injEq]
    cases e <;> simp_all <;> omega
  refine ⟨by rw [ek, hk], el, by rw [hk]; exact ef, by rw [hk, hl, hw], ?_⟩
  rw [hk]
  simp only [lowBad, el, lowU]
  cases he : u.e <;> simp_all
theorem rdB_9 {u : U} {b : ByteArray} {T : List Int} (ho : okU u) (hk : u.k = 9) (hH : byL (hOf b) = headL u ++ T) (hd : dOf b = u.d) : RdB u b := by
  have h10 : (1 : Int) ≤ 9 ∧ (9 : Int) ≤ 10 := by decide
  have hw : own 9 = 7 := by decide
  rw [okU_iff (by rw [hk]; exact h10), hk] at ho
  rw [headL_9 hk] at hH
  have hl : (headL u).length = 7 := by rw [headL_9 hk]; simp [beL]
  simp at ho
  have hlow : 0 ≤ lowU u ∧ lowU u < 16 := by
    unfold lowU
    split <;> omega
  simp only [beA, beB, beD, List.cons_append, List.nil_append] at hH
  have hlen : (byL (hOf b)).length = (hOf b).size := byL_len _
  have hsz : 7 ≤ (hOf b).size := by
    rw [← hlen, hH]; simp
  have e0 : byteAt (hOf b) 0 = 16 * 9 + lowU u := byteAt_of (j := 0) hH rfl
  have ek : kOf b = 9 := by unfold kOf; rw [e0]; omega
  have el : lowOf b = lowU u := by unfold lowOf; rw [e0]; omega
  have m0 : nm (hOf b) 1 2 = u.to := val2 (byteAt_of (j := 1) hH rfl) (byteAt_of (j := 2) hH rfl) (by omega)
  have m1 : nm (hOf b) 3 4 = u.nu := val4 (byteAt_of (j := 3) hH rfl) (byteAt_of (j := 4) hH rfl) (byteAt_of (j := 5) hH rfl) (byteAt_of (j := 6) hH rfl) (by omega)
  have ef : fullU b 9 = u := by
    simp (disch := first | decide | omega) only [fullU, bareU, bare0, partsU, h116, h102, h110, h99, h114, h115, a2, a3, a4, a5, a6, sk, pv_t, pv, el, hd, m0, m1, decide_true, decide_false, ne_eq, not_true_eq_false, not_false_eq_true, and_true, true_and, and_false, false_and, or_true, true_or, or_false, false_or, Int.reduceEq, Int.reduceLE, and_self, or_self, if_true, if_false]
    obtain ⟨k, to, fr, cl, sz, nu, cr, re, e, d⟩ := u
    simp only [] at ho hk
    simp only [lowU, U.mk.injEq]
    cases e <;> simp_all <;> omega
  refine ⟨by rw [ek, hk], el, by rw [hk]; exact ef, by rw [hk, hl, hw], ?_⟩
  rw [hk]
  simp only [lowBad, el, lowU]
  cases he : u.e <;> simp_all
theorem rdB_10 {u : U} {b : ByteArray} {T : List Int} (ho : okU u) (hk : u.k = 10) (hH : byL (hOf b) = headL u ++ T) (hd : dOf b = u.d) : RdB u b := by
  have h10 : (1 : Int) ≤ 10 ∧ (10 : Int) ≤ 10 := by decide
  have hw : own 10 = 4 := by decide
  rw [okU_iff (by rw [hk]; exact h10), hk] at ho
  rw [headL_10 hk] at hH
  have hl : (headL u).length = 4 := by rw [headL_10 hk]; simp [beL]
  simp at ho
  have hlow : 0 ≤ lowU u ∧ lowU u < 16 := by
    unfold lowU
    split <;> omega
  simp only [beA, beB, beD, List.cons_append, List.nil_append] at hH
  have hlen : (byL (hOf b)).length = (hOf b).size := byL_len _
  have hsz : 4 ≤ (hOf b).size := by
    rw [← hlen, hH]; simp
  have e0 : byteAt (hOf b) 0 = 16 * 10 + lowU u := byteAt_of (j := 0) hH rfl
  have ek : kOf b = 10 := by unfold kOf; rw [e0]; omega
  have el : lowOf b = lowU u := by unfold lowOf; rw [e0]; omega
  have m0 : nm (hOf b) 1 2 = u.to := val2 (byteAt_of (j := 1) hH rfl) (byteAt_of (j := 2) hH rfl) (by omega)
  have m1 : nm (hOf b) 3 1 = u.re := val1 (byteAt_of (j := 3) hH rfl) (by omega)
  have ef : fullU b 10 = u := by
    simp (disch := first | decide | omega) only [fullU, bareU, bare0, partsU, h116, h102, h110, h99, h114, h115, a2, a3, a4, a5, a6, sk, pv_t, pv, el, hd, m0, m1, decide_true, decide_false, ne_eq, not_true_eq_false, not_false_eq_true, and_true, true_and, and_false, false_and, or_true, true_or, or_false, false_or, Int.reduceEq, Int.reduceLE, and_self, or_self, if_true, if_false]
    obtain ⟨k, to, fr, cl, sz, nu, cr, re, e, d⟩ := u
    simp only [] at ho hk
    simp only [lowU, U.mk.injEq]
    cases e <;> simp_all <;> omega
  refine ⟨by rw [ek, hk], el, by rw [hk]; exact ef, by rw [hk, hl, hw], ?_⟩
  rw [hk]
  simp only [lowBad, el, lowU]
  cases he : u.e <;> simp_all
theorem rdB_of {u : U} {b : ByteArray} {T : List Int} (ho : okU u) (hH : byL (hOf b) = headL u ++ T) (hd : dOf b = u.d) : RdB u b := by
  rcases kcases ho.1 with h | h | h | h | h | h | h | h | h | h
  · exact rdB_1 ho h hH hd
  · exact rdB_2 ho h hH hd
  · exact rdB_3 ho h hH hd
  · exact rdB_4 ho h hH hd
  · exact rdB_5 ho h hH hd
  · exact rdB_6 ho h hH hd
  · exact rdB_7 ho h hH hd
  · exact rdB_8 ho h hH hd
  · exact rdB_9 ho h hH hd
  · exact rdB_10 ho h hH hd
/-- What stands behind the head: nothing, or the mark and the sums. -/
def tailL (u : U) (c : Bool) : List Int := match c with
  | true => [195, (sumW u).1, (sumW u).2]
  | false => []
theorem writeL_eq (u : U) (c : Bool) : writeL u c = ((headL u ++ tailL u c).length : Int) :: (headL u ++ tailL u c) ++ byL u.d := by
  cases c with
  | false => simp [writeL, tailL]
  | true => simp [writeL, frontL, tailL]
theorem headL_nn {u : U} (hu : okU u) : ∀ x ∈ headL u, 0 ≤ x ∧ x < 256 := headP_nn hu _
theorem sumW_bd {u : U} (hu : okU u) : 0 ≤ (sumW u).1 ∧ (sumW u).1 < 255 ∧ 0 ≤ (sumW u).2 ∧ (sumW u).2 < 255 := by
  apply sumL_bd
  intro x hx
  rw [← w10_eq] at hx
  simp only [w10, List.cons_append, List.mem_cons, List.mem_append] at hx
  rcases hx with rfl | hx | hx
  · omega
  · exact (w8_nn hu true x hx).1
  · exact (byL_nn _ x hx).1
theorem headL_lt (u : U) : (headL u).length ≤ 17 := by
  have h1 := headP_len u (fdOf (kn u.k)).size
  have h2 := fdOf_size (kn_lt u.k)
  unfold headL; omega
theorem tailL_len (u : U) (c : Bool) : (tailL u c).length ≤ 3 := by cases c <;> simp [tailL]
theorem writeL_nn {u : U} (hu : okU u) (c : Bool) : ∀ x ∈ writeL u c, 0 ≤ x ∧ x < 256 := by
  intro x hx
  have h1 := headL_lt u
  have h2 := tailL_len u c
  have hs := sumW_bd hu
  rw [writeL_eq] at hx
  simp only [List.cons_append, List.mem_cons, List.mem_append] at hx
  rcases hx with rfl | (hx | hx) | hx
  · rw [List.length_append]; omega
  · exact headL_nn hu x hx
  · cases c with
    | false => cases hx
    | true =>
      simp only [tailL, List.mem_cons, List.not_mem_nil, or_false] at hx
      rcases hx with rfl | rfl | rfl <;> omega
  · exact byL_nn _ x hx
theorem byL_wr {u : U} (hu : okU u) (c : Bool) : byL (wrS u c) = ((headL u ++ tailL u c).length : Int) :: (headL u ++ tailL u c) ++ byL u.d := by
  rw [wrS, if_pos hu, byL_bz (writeL_nn hu c), writeL_eq]
theorem okU_bare {u : U} (ho : okU u) (D : ByteArray) (hD : D = if u.k = 8 then ⟨#[120]⟩ else ⟨#[]⟩) : okU { u with d := D } := by
  have h10 := ho.1
  rw [okU_iff h10] at ho
  refine (okU_iff (u := { u with d := D }) h10).2 ⟨⟨fun h => ?_, ?_⟩, ho.2⟩
  · simp only [] at h
    simp only [hD, h, if_true]; decide
  · simp only []
    subst hD
    by_cases h : u.k = 8
    · simp only [h, if_true]; decide
    · simp only [h, if_false]
      have : (⟨#[]⟩ : ByteArray).size = 0 := rfl
      rw [this]
      (repeat' split) <;> decide
/-- What is written is read as it was. -/
theorem rd_back {u : U} (ho : okU u) (c : Bool) : rdT (wrS u c) = (u, c, 0) := by
  have hb := byL_wr ho c
  have h1 := headL_lt u
  have h2 := tailL_len u c
  obtain ⟨e1, e2, e3, e4⟩ := laid hb (by rw [List.length_append]; omega)
  have ed : dOf (wrS u c) = u.d := byL_inj e3
  have B := rdB_of ho e2 ed
  have hhi := headL_hi u
  have hdl := ho.2.1.2
  rw [byL_len] at e4
  rw [List.length_append] at e1 e4
  have hsz : (hOf (wrS u c)).size = (headL u).length + (tailL u c).length := by rw [← byL_len, e2, List.length_append]
  have hpos : 1 ≤ (headL u).length := by unfold headL headP; simp
  have hφ : φ0 (wrS u c) := ⟨by omega, by omega, by omega, by omega⟩
  have hk10 : 1 ≤ kOf (wrS u c) ∧ kOf (wrS u c) ≤ 10 := by rw [B.k]; exact ho.1
  have hchk : chk (hOf (wrS u c)) u.k = c := by
    unfold chk
    rw [hsz, B.len]
    cases c with
    | false => simp [tailL]
    | true =>
      have : byteAt (hOf (wrS u true)) ((own u.k : Nat) : Int) = 195 := byteAt_of e2 (by
        rw [← B.len, List.getElem?_append_right (Nat.le_refl _), Nat.sub_self]; rfl)
      rw [this]; simp [tailL]
  rw [rd_3 hφ hk10, B.k]
  unfold rd3
  rw [if_neg, if_neg, if_neg, if_neg, hchk, B.f]
  · rw [B.f]; exact fun h => h ho
  · rintro ⟨hc, hne⟩
    rw [hchk] at hc
    subst hc
    apply hne
    apply byL_inj
    have hbl : byL (blank (wrS u true) u.k) = frontL u ++ [0, 0] ++ byL u.d := by
      unfold blank
      rw [byL_app, byL_app, byL_ext, List.drop_zero, ed, hb, show 2 + own u.k = own u.k + 1 + 1 by omega, List.cons_append, List.take_succ_cons, ← B.len]
      rw [show headL u ++ tailL u true ++ byL u.d = (headL u ++ [195]) ++ ([(sumW u).1, (sumW u).2] ++ byL u.d) by simp [tailL]]
      rw [List.take_left' (by simp)]
      have : byL (⟨#[0, 0]⟩ : ByteArray) = [0, 0] := by decide
      rw [this]
      simp [frontL, tailL]
    have hbs : (blank (wrS u true) u.k).size ≤ 4000 := by
      rw [← byL_len, hbl]
      simp only [List.length_append, frontL_len, List.length_cons, List.length_nil, byL_len]
      omega
    rw [byL_sumS hbl hbs, byL_ext, List.take_of_length_le (by rw [byL_len]; omega), e2, ← B.len, List.drop_append]
    simp [tailL, sumW]
  · rintro (h | h)
    · exact B.lb h
    · have e : bareU (wrS u c) u.k = { fullU (wrS u c) u.k with d := (bareU (wrS u c) u.k).d } := rfl
      rw [B.f] at e
      rw [e] at h
      exact h (okU_bare ho _ rfl)
  · rintro ⟨h3, h4⟩
    rw [hchk] at h4
    subst h4
    exact h3 (by rw [hsz, B.len]; rfl)
/-! ### a spoilt byte -/
end Go.Proofs.Ytghbejmnnfoamaa
