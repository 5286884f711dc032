/- Chapter 15: the law of Cut. -/
import Derived.Test.YtmblefpbfpjneaaQ
set_option linter.unusedVariables false
set_option linter.unusedSimpArgs false
namespace Go.Proofs.Ytmblefpbfpjneaa
open Go Go.Eng
attribute [local irreducible] condX
/-! ### what Join makes of pieces -/
theorem okU_dt {n : Nat} {e : Bool} {d : ByteArray} (hn : n ≤ 2147483647) (hd : d.size ≤ 3980) : okU (dtU n e d) := by
  rw [okU_iff (by simp only [dtU]; decide)]
  simp only [dtU]
  simp
  omega
theorem ext_app {b : ByteArray} {i j : Nat} (h : i ≤ j) (hj : j ≤ b.size) : b.extract 0 i ++ b.extract i j = b.extract 0 j := by
  apply byL_inj0
  rw [byL_app0, byL_ext0, byL_ext0, byL_ext0, List.drop_zero, List.drop_zero]
  rw [show (byL b).take i = ((byL b).take j).take i by rw [List.take_take, Nat.min_eq_left h], List.take_append_drop]
theorem ext_all (b : ByteArray) : b.extract 0 b.size = b := by
  apply byL_inj0
  rw [byL_ext0, List.drop_zero, List.take_of_length_le (Nat.le_of_eq (byL_len b))]
theorem cutN_le {m p : Nat} (hp : 0 < p) : cutN m p ≤ m + 1 := by
  rcases Nat.lt_or_ge m (cutN m p) with h | h
  · have := (cutN_iff (n := m) hp).1 h
    have h2 : ¬ m + 1 < cutN m p := by
      rw [cutN_iff hp, Nat.succ_mul]
      have : m ≤ m * p := Nat.le_mul_of_pos_right m hp
      simp; omega
    omega
  · omega
theorem cutN_hi {m p : Nat} (hp : 128 ≤ p) (hm : m ≤ 16000) : cutN m p ≤ 126 := by
  have h2 : ¬ 126 < cutN m p := by
    rw [cutN_iff (by omega)]
    have : 126 * 128 ≤ 126 * p := Nat.mul_le_mul_left _ hp
    simp; omega
  omega
theorem join_cut {b : ByteArray} {p : Nat} (hp : 128 ≤ p ∧ p ≤ 3980) (hb : b.size ≤ 16000) (o : List ByteArray) : ∀ n, n ≤ cutN b.size p → joinF (o, ⟨#[]⟩) ((cutL b p).take n) = if n < cutN b.size p then some (o, b.extract 0 (n * p)) else some (o ++ [b], ⟨#[]⟩) := by
  have hp0 : 0 < p := by omega
  have hN := cutN_pos (m := b.size) hp0
  have hN2 := cutN_hi hp.1 hb
  intro n
  induction n with
  | zero =>
    intro _
    rw [if_pos hN]
    simp only [List.take_zero, joinF, Nat.zero_mul]
    congr 2
    apply byL_inj0; rw [byL_ext0]; simp; rfl
  | succ n ih =>
    intro hn
    have hlt : n < (cutL b p).length := by rw [cutL_len]; omega
    have hu : (cutL b p).getD n uZero = cutU b p n := by simp [cutL, List.getD_eq_getElem?_getD, show n < cutN b.size p by omega]
    have hnp := (cutN_iff (m := b.size) (p := p) (n := n) hp0).1 (by omega)
    have hnb : n * p ≤ b.size := by
      by_cases h : n = 0
      · subst h; simp
      · rw [if_neg h] at hnp; omega
    have hok : (cutU b p n).k = 5 ∧ okU (cutU b p n) := ⟨rfl, okU_dt (by omega) (by rw [size_ext0]; omega)⟩
    rw [take_succ_getD hlt, joinF_app, ih (by omega), if_pos (by omega), hu]
    simp only [Option.bind_some, joinF, hok, and_self, if_true]
    have hd : (cutU b p n).d = b.extract (n * p) (min (n * p + p) b.size) := rfl
    have he : (cutU b p n).e = decide (n + 1 = cutN b.size p) := rfl
    rw [hd, he, ext_app (by omega) (by omega)]
    have hiff := cutN_iff (m := b.size) (p := p) (n := n + 1) hp0
    rw [if_neg (by omega : ¬ n + 1 = 0), Nat.succ_mul] at hiff
    by_cases hl : n + 1 < cutN b.size p
    · rw [if_pos hl, if_neg (by simp; omega)]
      have := hiff.1 hl
      rw [show min (n * p + p) b.size = (n + 1) * p by rw [Nat.succ_mul]; omega]
    · have : ¬ (n * p + p < b.size + 0) := fun h => hl (hiff.2 h)
      rw [if_neg hl, if_pos (by simp; omega), show min (n * p + p) b.size = b.size by omega, ext_all]
theorem cut_all {b : ByteArray} {p : Nat} (hp : 128 ≤ p ∧ p ≤ 3980) (hb : b.size ≤ 16000) (o : List ByteArray) : joinF (o, ⟨#[]⟩) (cutL b p) = some (o ++ [b], ⟨#[]⟩) := by
  have := join_cut hp hb o (cutN b.size p) (Nat.le_refl _)
  rwa [if_neg (Nat.lt_irrefl _), List.take_of_length_le (Nat.le_of_eq (cutL_len b p))] at this
theorem cut_most {b : ByteArray} {p : Nat} (hp : 128 ≤ p ∧ p ≤ 3980) (hb : b.size ≤ 16000) (o : List ByteArray) : joinF (o, ⟨#[]⟩) ((cutL b p).take ((cutL b p).length - 1)) = some (o, b.extract 0 ((cutN b.size p - 1) * p)) ∧ (cutN b.size p - 1) * p ≤ b.size := by
  have hN := cutN_pos (m := b.size) (p := p) (by omega)
  have := join_cut hp hb o (cutN b.size p - 1) (by omega)
  rw [if_pos (by omega)] at this
  refine ⟨by rw [cutL_len]; exact this, ?_⟩
  have h := (cutN_iff (m := b.size) (p := p) (n := cutN b.size p - 1) (by omega)).1 (by omega)
  split at h
  · rename_i h0; rw [h0]; simp
  · omega
theorem rows_two (A B : List U) (r0 : Nat → List SV) (n : Nat) (hn : n ≤ B.length) : (List.range (A.length + n)).map (fun j => uRow (appRows 0 0 A.length (appRows 0 0 0 r0 fun j => urow A j) (fun j => urow B j) j)) = A ++ B.take n := by
  apply List.ext_getElem?
  intro j
  by_cases h : j < A.length + n
  · rw [List.getElem?_map, List.getElem?_range h]
    simp only [Option.map_some]
    rw [appRows0, appRows0]
    by_cases hj : j < A.length
    · rw [if_pos hj, if_neg (by omega), Nat.sub_zero, List.getElem?_append_left hj]; simp [urow, uRow_cells, List.getD_eq_getElem?_getD, hj]
    · rw [if_neg hj, List.getElem?_append_right (by omega), List.getElem?_take_of_lt (by omega)]
      have : j - A.length < B.length := by omega
      simp [urow, uRow_cells, List.getD_eq_getElem?_getD, this]
  · rw [List.getElem?_eq_none (by simpa using h), List.getElem?_eq_none (by simp; omega)]
theorem rows_two' (A B : List U) (r0 : Nat → List SV) : (List.range (A.length + B.length)).map (fun j => uRow (appRows 0 0 A.length (appRows 0 0 0 r0 fun j => urow A j) (fun j => urow B j) j)) = A ++ B := by
  rw [rows_two A B r0 B.length (Nat.le_refl _), List.take_length]
theorem urow_two (A B : List U) (r0 : Nat → List SV) {n j : Nat} (hn : n ≤ B.length) (hj : j < A.length + n) : appRows 0 0 A.length (appRows 0 0 0 r0 fun j => urow A j) (fun j => urow B j) j = urow (A ++ B.take n) j := by
  rw [appRows0, appRows0]
  by_cases h : j < A.length
  · rw [if_pos h, if_neg (by omega), Nat.sub_zero]; simp [urow, List.getD_eq_getElem?_getD, List.getElem?_append_left h]
  · rw [if_neg h]; simp only [urow, List.getD_eq_getElem?_getD, List.getElem?_append_right (Nat.le_of_not_lt h)]
    rw [List.getElem?_take_of_lt (by omega)]
end Go.Proofs.Ytmblefpbfpjneaa
