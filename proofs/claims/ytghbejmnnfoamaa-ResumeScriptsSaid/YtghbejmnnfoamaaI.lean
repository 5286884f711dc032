/- Chapter 15: the program's Read. -/
import Derived.Test.YtghbejmnnfoamaaH
set_option linter.unusedVariables false
set_option linter.unusedSimpArgs false
namespace Go.Proofs.Ytghbejmnnfoamaa
open Go Go.Eng
attribute [local irreducible] condX
def X_rRead : XC := ⟨ByteArray, fun | [.g (.string b)] => some b | _ => none, fun b => [.g (.string b)], fun _ => True, rdR⟩
theorem ok_rRead : ExactSound Try.prog Λ0 12 X_rRead.rule :=
  exact_rule (ty := ty) (Γ := ΓOf Γr) hm tyOK Γr_ok (fnOK_of Try.func12 (by kernel_rfl) (by kernel_rfl)) Try.func12 (body_some (by kernel_rfl)) X_rRead Try.ntmps12 (fun _ => Nat.le_of_ble_eq_true rfl) (fun _ => rfl) (fun x => rfl) (fun x => (cx_rRead x).cut) (fun x => (cx_rRead x).loop) fun x h => vcRReadK x h
def Γo : List (Nat × Rule) := (42, .gen (callX C_of2 getUP)) :: Γ6
theorem Γo_ok : ΓOK Try.prog Λ0 (ΓOf Γo) := ΓOf_cons ok_of2 Γ6_ok
def Γs : List (Nat × Rule) := (43, .exact X_Repeat.rule) :: Γo
theorem Γs_ok : ΓOK Try.prog Λ0 (ΓOf Γs) := (ΓOf_cons ok_Repeat Γo_ok)
def uK (k : Int) : U := ⟨k, 0, 0, 0, 0, 0, 0, 0, false, ⟨#[]⟩⟩
structure φb (b : ByteArray) : Prop where
  h0 : φ0 b
  h1 : 1 ≤ kOf b ∧ kOf b ≤ 10
  h3 : ¬ ((hOf b).size ≠ own (kOf b) ∧ chk (hOf b) (kOf b) = false)
def annRd (b : ByteArray) (k : Nat) : Ann := ⟨Unit, fun _ => ⟨[(0, .g (.string b)), (2, .ptr 0 0 0 0), (5, .g (.string (hOf b))), (6, .g (.string (dOf b))), (7, .ptr 1 0 0 0), (8, .g (.bool true))], [(0, .cells (uK k).cells 60), (1, .cells (frow k) 79)], 2, 0, []⟩,
  fun _ => φ0 b ∧ kOf b = (k : Int), fun _ => 0⟩
def annRd0 (b : ByteArray) : Ann := ⟨Unit, fun _ => ⟨[(0, .g (.string b)), (2, .ptr 0 0 0 0), (5, .g (.string (hOf b))), (6, .g (.string (dOf b))), (7, .ptr 1 0 0 0), (8, .g (.bool false))], [(0, .cells (uK (kOf b)).cells 60), (1, .cells (frow 0) 79)], 2, 0, []⟩,
  fun _ => φ0 b ∧ ¬ (1 ≤ kOf b ∧ kOf b ≤ 10), fun _ => 0⟩
def annRdB (b : ByteArray) : Ann := ⟨Unit, fun _ => ⟨[(0, .g (.string b)), (2, .ptr 0 0 0 0), (3, .g (.bool (chk (hOf b) (kOf b)))), (6, .g (.string (dOf b))), (7, .ptr 1 0 0 0), (8, .g (.bool (!decide (lowBad b (kOf b))))), (9, .g (.int .i64 (own (kOf b))))], [(0, .cells (bare0 b (kOf b)).cells 60), (1, .cells (frow (kn (kOf b))) 79)], 2, 0, []⟩,
  fun _ => φb b, fun _ => 0⟩
def annRdC (b : ByteArray) : Ann := ⟨Unit, fun _ => ⟨[(2, .ptr 0 0 0 0), (3, .g (.bool (chk (hOf b) (kOf b)))), (6, .g (.string (dOf b)))], [(0, .cells (bare0 b (kOf b)).cells 60)], 1, 0, []⟩,
  fun _ => φ2 b, fun _ => 0⟩
def cx_Read (b : ByteArray) : Cx := ⟨ty, ΓOf Γs, fun i => if i = 10 then [annRd0 b, annRd b 1, annRd b 2, annRd b 3, annRd b 4, annRd b 5, annRd b 6, annRd b 7, annRd b 8, annRd b 9, annRd b 10] else if i = 38 then [annRdB b] else if i = 47 then [annRdC b] else [], fun _ _ => [], 200, 0⟩
theorem cells_mk (k to fr cl sz nu cr re : Int) (e : Bool) (d : ByteArray) : [SV.g (Value.int IntKind.i64 k), SV.g (Value.int IntKind.i64 to), SV.g (Value.int IntKind.i64 fr), SV.g (Value.int IntKind.i64 cl), SV.g (Value.int IntKind.i64 sz), SV.g (Value.int IntKind.i64 nu), SV.g (Value.int IntKind.i64 cr), SV.g (Value.int IntKind.i64 re), SV.g (Value.bool e), SV.g (Value.string d)] = U.cells (U.mk k to fr cl sz nu cr re e d) := rfl
theorem cells_uK (k : Int) : U.cells (uK k) = U.cells (U.mk k 0 0 0 0 0 0 0 false (ByteArray.mk #[])) := rfl
def rdCond (b : ByteArray) (o m : Int) : Bool := bif bif false then true else bif ((hOf b).size : Int) != o then !bif true then ((hOf b).size : Int) == m else false else false then true else bif bif true then ((hOf b).size : Int) == m else false then byteAt (hOf b) o != 195 else false
theorem rdIf {b : ByteArray} {k o m : Int} (ho : (own k : Int) = o) (hm : m = o + 3) : rdCond b o m = true ↔ ((hOf b).size ≠ own k ∧ chk (hOf b) k = false) := by
  subst ho hm
  simp only [rdCond, cond_false, cond_true, bor, band, chk, Bool.or_eq_true, Bool.and_eq_true, bne_iff_ne, Bool.not_eq_true', beq_eq_false_iff_ne, beq_iff_eq, Bool.and_eq_false_iff, decide_eq_false_iff_not, ne_eq]
  constructor
  · rintro (⟨h1, h2⟩ | ⟨h1, h2⟩)
    · exact ⟨by omega, Or.inl (by omega)⟩
    · exact ⟨by omega, Or.inr h2⟩
  · rintro ⟨h1, h2 | h2⟩
    · exact Or.inl ⟨by omega, by omega⟩
    · by_cases h3 : (hOf b).size = own k + 3
      · exact Or.inr ⟨by omega, h2⟩
      · exact Or.inl ⟨by omega, by omega⟩
section
variable {b : ByteArray} {k o m : Int} (hφ : φ0 b) (hk : kOf b = k) (h10 : 1 ≤ k ∧ k ≤ 10) (ho : (own k : Int) = o) (hm : m = o + 3)
include hφ hk h10 ho hm
theorem rdE (h : rdCond b o m = true) : rdT b = (uZero, false, 4) := by
  subst hk
  rw [rd_3 hφ h10, rd3, if_pos ((rdIf ho hm).1 h)]
theorem rdB (h : rdCond b o m = false) : φb b := by
  subst hk
  refine ⟨hφ, h10, fun h2 => ?_⟩
  rw [(rdIf ho hm).2 h2] at h; cases h
omit hφ h10 in
theorem rdG (h : rdCond b o m = false) : o ≤ ((hOf b).size : Int) := by
  have _ := hk
  have h := fun h2 => Bool.false_ne_true (h.symm.trans ((rdIf (b := b) ho hm).2 h2))
  by_cases h1 : (hOf b).size = own k
  · omega
  · cases hc : chk (hOf b) k with
    | false => exact (h ⟨h1, hc⟩).elim
    | true =>
      simp only [chk, Bool.and_eq_true, decide_eq_true_eq] at hc
      omega
omit hφ h10 in
theorem rdC (h : rdCond b o m = false) : (bif true then ((hOf b).size : Int) == m else false) = chk (hOf b) (kOf b) := by
  subst hk
  have hh := fun h2 => Bool.false_ne_true (h.symm.trans ((rdIf (b := b) ho hm).2 h2))
  subst ho hm
  rw [cond_true, Bool.eq_iff_iff, beq_iff_eq]
  constructor
  · intro h3
    cases hc : chk (hOf b) (kOf b) with
    | false => exact (hh ⟨by omega, hc⟩).elim
    | true => rfl
  · intro h3
    simp only [chk, Bool.and_eq_true, decide_eq_true_eq] at h3
    omega
end
theorem or0 (h : ByteArray) (j : Int) : IntKind.wrap IntKind.i64 ((BitVec.toNat (BitVec.ofInt 64 0 ||| BitVec.ofInt 64 (IntKind.wrap IntKind.i64 (byteAt h j))) : Nat) : Int) = byteAt h j := by
  have hb := byteAt_lt h j
  rw [wrapB]
  generalize byteAt h j = c at hb
  obtain ⟨n, rfl⟩ := Int.eq_ofNat_of_zero_le hb.1
  have hn : n < 256 := by omega
  rw [BitVec.toNat_or, BitVec.toNat_ofInt, BitVec.toNat_ofInt]
  have e1 : (((0 : Int) % ((2 ^ 64 : Nat) : Int)).toNat) = 0 := by decide
  have e2 : (((n : Int) % ((2 ^ 64 : Nat) : Int)).toNat) = n := by omega
  rw [e1, e2, Nat.zero_or, wrap1 (by omega) (by omega)]
theorem or8 (h : ByteArray) (j : Int) {a : Int} (ha : 0 ≤ a) (ha2 : a < 281474976710656) : IntKind.wrap IntKind.i64 ((BitVec.toNat (BitVec.ofInt 64 (IntKind.wrap IntKind.i64 (a * 256)) ||| BitVec.ofInt 64 (IntKind.wrap IntKind.i64 (byteAt h j))) : Nat) : Int) = a * 256 + byteAt h j := by
  have hb := byteAt_lt h j
  rw [wrapB, wrap1 (i := a * 256) (by omega) (by omega)]
  generalize byteAt h j = c at hb
  obtain ⟨n, rfl⟩ := Int.eq_ofNat_of_zero_le hb.1
  obtain ⟨m, rfl⟩ := Int.eq_ofNat_of_zero_le ha
  rw [BitVec.toNat_or, BitVec.toNat_ofInt, BitVec.toNat_ofInt]
  have e1 : ((((m : Int) * 256) % ((2 ^ 64 : Nat) : Int)).toNat) = 2 ^ 8 * m := by omega
  have e2 : (((n : Int) % ((2 ^ 64 : Nat) : Int)).toNat) = n := by omega
  rw [e1, e2, ← Nat.two_pow_add_eq_or_of_lt (by omega : n < 2 ^ 8), wrap1 (by omega) (by omega)]
  omega
theorem and15 (h : ByteArray) (j : Int) : IntKind.wrap IntKind.i64 (IntKind.wrap IntKind.u8 ((BitVec.toNat (BitVec.ofInt 8 (byteAt h j) &&& BitVec.ofInt 8 15) : Nat) : Int)) = byteAt h j % 16 := by
  have hb := byteAt_lt h j
  generalize byteAt h j = c at hb
  obtain ⟨n, rfl⟩ := Int.eq_ofNat_of_zero_le hb.1
  rw [BitVec.toNat_and, BitVec.toNat_ofInt, BitVec.toNat_ofInt]
  have e1 : (((15 : Int) % ((2 ^ 8 : Nat) : Int)).toNat) = 15 := by decide
  have e2 : (((n : Int) % ((2 ^ 8 : Nat) : Int)).toNat) = n := by omega
  have e3 : n &&& 15 = n % 16 := Nat.and_two_pow_sub_one_eq_mod n 4
  rw [e1, e2, e3, wrapU8 (by omega) (by omega), wrap1 (by omega) (by omega)]; omega
theorem clr1 {l : Int} (h0 : 0 ≤ l) (h : l < 16) : (IntKind.wrap IntKind.i64 ((BitVec.toNat (BitVec.ofInt 64 l &&& ~~~ BitVec.ofInt 64 1) : Nat) : Int) == 0) = decide (l < 2) := by
  have : l = 0 ∨ l = 1 ∨ l = 2 ∨ l = 3 ∨ l = 4 ∨ l = 5 ∨ l = 6 ∨ l = 7 ∨ l = 8 ∨ l = 9 ∨ l = 10 ∨ l = 11 ∨ l = 12 ∨ l = 13 ∨ l = 14 ∨ l = 15 := by omega
  rcases this with rfl | rfl | rfl | rfl | rfl | rfl | rfl | rfl | rfl | rfl | rfl | rfl | rfl | rfl | rfl | rfl <;> decide
theorem or8a (h : ByteArray) (i j : Int) : IntKind.wrap IntKind.i64 ((BitVec.toNat (BitVec.ofInt 64 (IntKind.wrap IntKind.i64 (byteAt h i * 256)) ||| BitVec.ofInt 64 (IntKind.wrap IntKind.i64 (byteAt h j))) : Nat) : Int) = byteAt h i * 256 + byteAt h j := by
  have := byteAt_lt h i
  exact or8 h j (by omega) (by omega)
theorem or8b (h : ByteArray) (i i2 j : Int) : IntKind.wrap IntKind.i64 ((BitVec.toNat (BitVec.ofInt 64 (IntKind.wrap IntKind.i64 ((byteAt h i * 256 + byteAt h i2) * 256)) ||| BitVec.ofInt 64 (IntKind.wrap IntKind.i64 (byteAt h j))) : Nat) : Int) = (byteAt h i * 256 + byteAt h i2) * 256 + byteAt h j := by
  have := byteAt_lt h i
  have := byteAt_lt h i2
  exact or8 h j (by omega) (by omega)
theorem or8c (h : ByteArray) (i i2 i3 j : Int) : IntKind.wrap IntKind.i64 ((BitVec.toNat (BitVec.ofInt 64 (IntKind.wrap IntKind.i64 (((byteAt h i * 256 + byteAt h i2) * 256 + byteAt h i3) * 256)) ||| BitVec.ofInt 64 (IntKind.wrap IntKind.i64 (byteAt h j))) : Nat) : Int) = ((byteAt h i * 256 + byteAt h i2) * 256 + byteAt h i3) * 256 + byteAt h j := by
  have := byteAt_lt h i
  have := byteAt_lt h i2
  have := byteAt_lt h i3
  exact or8 h j (by omega) (by omega)
theorem nm2 (h : ByteArray) (a : Nat) : nm h a 2 = byteAt h a * 256 + byteAt h ((a + 1 : Nat) : Int) := by simp [nm]
theorem nm4 (h : ByteArray) (a : Nat) : nm h a 4 = ((byteAt h a * 256 + byteAt h ((a + 1 : Nat) : Int)) * 256 + byteAt h ((a + 2 : Nat) : Int)) * 256 + byteAt h ((a + 3 : Nat) : Int) := by simp [nm]
theorem ok12 {b : ByteArray} {k : Int} (hk : kOf b = k) (h : k ≤ 2) : true = !decide (lowBad b (kOf b)) := by subst hk; simp [lowBad, h]
theorem low_bd (b : ByteArray) : 0 ≤ lowOf b ∧ lowOf b < 16 := by have := byteAt_lt (hOf b) 0; unfold lowOf; omega
theorem low15 (b : ByteArray) : IntKind.wrap IntKind.i64 (IntKind.wrap IntKind.u8 ((BitVec.toNat (BitVec.ofInt 8 (byteAt (hOf b) 0) &&& BitVec.ofInt 8 15) : Nat) : Int)) = lowOf b := and15 (hOf b) 0
theorem ok5 {b : ByteArray} (hk : kOf b = 5) : (IntKind.wrap IntKind.i64 ((BitVec.toNat (BitVec.ofInt 64 (IntKind.wrap IntKind.i64 (IntKind.wrap IntKind.u8 ((BitVec.toNat (BitVec.ofInt 8 (byteAt (hOf b) 0) &&& BitVec.ofInt 8 15) : Nat) : Int))) &&& ~~~ BitVec.ofInt 64 1) : Nat) : Int) == 0) = !decide (lowBad b (kOf b)) := by
  rw [low15, clr1 (low_bd b).1 (low_bd b).2, Bool.eq_iff_iff, decide_eq_true_eq, Bool.not_eq_true', decide_eq_false_iff_not, hk, lowBad, if_neg (by decide), if_pos rfl]
  omega
theorem okO {b : ByteArray} {k : Int} (hk : kOf b = k) (h : ¬ k ≤ 2 ∧ k ≠ 5) : (IntKind.wrap IntKind.i64 (IntKind.wrap IntKind.u8 ((BitVec.toNat (BitVec.ofInt 8 (byteAt (hOf b) 0) &&& BitVec.ofInt 8 15) : Nat) : Int)) == 0) = !decide (lowBad b (kOf b)) := by
  subst hk
  rw [low15, Bool.eq_iff_iff, beq_iff_eq, Bool.not_eq_true', decide_eq_false_iff_not, lowBad, if_neg h.1, if_neg h.2]
  omega
theorem h116 {k : Int} (h : 1 ≤ k ∧ k ≤ 10) : hs k 116 = decide (k ≠ 1) := (kfacts h).1
theorem h102 {k : Int} (h : 1 ≤ k ∧ k ≤ 10) : hs k 102 = decide (k ≤ 4) := (kfacts h).2.1
theorem h110 {k : Int} (h : 1 ≤ k ∧ k ≤ 10) : hs k 110 = decide (5 ≤ k ∧ k ≤ 9) := (kfacts h).2.2.1
theorem h99 {k : Int} (h : 1 ≤ k ∧ k ≤ 10) : hs k 99 = decide (k = 1 ∨ k = 2 ∨ k = 6 ∨ k = 7) := (kfacts h).2.2.2.1
theorem h114 {k : Int} (h : 1 ≤ k ∧ k ≤ 10) : hs k 114 = decide (k = 3 ∨ k = 10) := (kfacts h).2.2.2.2.1
theorem h115 {k : Int} (h : 1 ≤ k ∧ k ≤ 10) : hs k 115 = decide (k ≤ 2) := (kfacts h).2.2.2.2.2.1
def Iq0  := (List.take (10 : Nat) (List.drop (0 : Nat) [SV.g (Value.int IntKind.i64 (0 : Int)), SV.g (Value.int IntKind.i64 (0 : Int)), SV.g (Value.int IntKind.i64 (0 : Int)), SV.g (Value.int IntKind.i64 (0 : Int)), SV.g (Value.int
  IntKind.i64 (0 : Int)), SV.g (Value.int IntKind.i64 (0 : Int)), SV.g (Value.int IntKind.i64 (0 : Int)), SV.g (Value.int IntKind.i64 (0 : Int)), SV.g (Value.bool false), SV.g (Value.string (ByteArray.mk #[]))]))
def Iq1 (b : ByteArray) := (ByteArray.extract b (0 : Nat) (Int.toNat (IntKind.wrap IntKind.i64 ((2 : Int) + (↑(own (kOf b)) : Int)))) ++ ByteArray.mk #[(0 : UInt8), (0 : UInt8)] ++ ByteArray.extract b (Int.toNat (IntKind.wrap IntKind.i64 ((4 :
  Int) + (↑(own (kOf b)) : Int)))) (ByteArray.size b))
def ReadTail (b : ByteArray) : Prop :=  [SV.g (Value.string (ByteArray.mk #[(120 : UInt8)])), SV.g (Value.int IntKind.i64 (loOf (kn (kOf b))))] = [SV.g (Value.string (ByteArray.mk #[(120 : UInt8)])), SV.g (Value.int IntKind.i64 (loOf (kn (kOf b))))] ∧ (loOf
  (kn (kOf b)) = (0 : Int) ∨ loOf (kn (kOf b)) = (1 : Int)) ∧ condX (bif !!decide (lowBad b (kOf b)) then true else !decide (okU (U.mk (kOf b) (pv (hs (kOf b) (116 : Int)) (hOf b) (1 : Nat) (2 : Nat)) (pv (hs (kOf b) (102
  : Int)) (hOf b) (a2 (kOf b)) (2 : Nat)) (if kOf b ≤ (2 : Int) then lowOf b else (0 : Int)) (pv (hs (kOf b) (115 : Int)) (hOf b) (a6 (kOf b)) (1 : Nat)) (pv (hs (kOf b) (110 : Int)) (hOf b) (a3 (kOf b)) (4 : Nat)) (pv (hs
  (kOf b) (99 : Int)) (hOf b) (a4 (kOf b)) (1 : Nat)) (pv (hs (kOf b) (114 : Int)) (hOf b) (a5 (kOf b)) (1 : Nat)) (decide (kOf b = (5 : Int) ∧ lowOf b = (1 : Int))) (if loOf (kn (kOf b)) = (0 : Int) then ByteArray.mk #[]
  else ByteArray.mk #[(120 : UInt8)])))) (SV.tup [SV.agg (Iq0), SV.g (Value.bool false), SV.g (Value.int IntKind.i64 (4 : Int))] = SV.tup [SV.agg (U.cells (Prod.fst (rdT b))), SV.g (Value.bool (Prod.fst (Prod.snd (rdT
  b)))), SV.g (Value.int IntKind.i64 (Prod.snd (Prod.snd (rdT b))))]) (condX (chk (hOf b) (kOf b)) (((0 : Int) ≤ IntKind.wrap IntKind.i64 ((2 : Int) + (↑(own (kOf b)) : Int)) ∧ IntKind.wrap IntKind.i64 ((2 : Int) + (↑(own
  (kOf b)) : Int)) ≤ (↑(ByteArray.size b) : Int)) ∧ ByteArray.size (ByteArray.extract b (0 : Nat) (Int.toNat (IntKind.wrap IntKind.i64 ((2 : Int) + (↑(own (kOf b)) : Int))))) + (2 : Nat) ≤ (9223372036854775807 : Nat) ∧ ((0
  : Int) ≤ IntKind.wrap IntKind.i64 ((4 : Int) + (↑(own (kOf b)) : Int)) ∧ IntKind.wrap IntKind.i64 ((4 : Int) + (↑(own (kOf b)) : Int)) ≤ (↑(ByteArray.size b) : Int)) ∧ ByteArray.size (ByteArray.extract b (0 : Nat)
  (Int.toNat (IntKind.wrap IntKind.i64 ((2 : Int) + (↑(own (kOf b)) : Int)))) ++ ByteArray.mk #[(0 : UInt8), (0 : UInt8)]) + ByteArray.size (ByteArray.extract b (Int.toNat (IntKind.wrap IntKind.i64 ((4 : Int) + (↑(own (kOf
  b)) : Int)))) (ByteArray.size b)) ≤ (9223372036854775807 : Nat) ∧ [SV.g (Value.string (Iq1 b))] = [SV.g (Value.string (Iq1 b))] ∧ True ∧ ((0 : Int) ≤ IntKind.wrap IntKind.i64 ((4 : Int) + (↑(own (kOf b)) : Int)) ∧
  IntKind.wrap IntKind.i64 ((4 : Int) + (↑(own (kOf b)) : Int)) ≤ (↑(ByteArray.size b) : Int)) ∧ ((0 : Int) ≤ IntKind.wrap IntKind.i64 ((2 : Int) + (↑(own (kOf b)) : Int)) ∧ IntKind.wrap IntKind.i64 ((2 : Int) + (↑(own
  (kOf b)) : Int)) ≤ IntKind.wrap IntKind.i64 ((4 : Int) + (↑(own (kOf b)) : Int))) ∧ condX (!decide (sumS (Iq1 b) = ByteArray.extract b (Int.toNat (IntKind.wrap IntKind.i64 ((2 : Int) + (↑(own (kOf b)) : Int))))
  (Int.toNat (IntKind.wrap IntKind.i64 ((4 : Int) + (↑(own (kOf b)) : Int)))))) (SV.tup [SV.agg (Iq0), SV.g (Value.bool false), SV.g (Value.int IntKind.i64 (11 : Int))] = SV.tup [SV.agg (U.cells (Prod.fst (rdT b))), SV.g
  (Value.bool (Prod.fst (Prod.snd (rdT b)))), SV.g (Value.int IntKind.i64 (Prod.snd (Prod.snd (rdT b))))]) (∃ (x : Unit), φ2 b ∧ (0 : Nat) = (0 : Nat) ∧ chk (hOf b) (kOf b) = chk (hOf b) (kOf b) ∧ dOf b = dOf b ∧ U.cells
  (bare0 b (kOf b)) = U.cells (bare0 b (kOf b)) ∧ True)) (∃ (x : Unit), φ2 b ∧ (0 : Nat) = (0 : Nat) ∧ chk (hOf b) (kOf b) = chk (hOf b) (kOf b) ∧ dOf b = dOf b ∧ U.cells (bare0 b (kOf b)) = U.cells (bare0 b (kOf b)) ∧
  True) ∧ ∀ (x : Unit), φ2 b → condX (!decide (okU (U.mk (kOf b) (pv (hs (kOf b) (116 : Int)) (hOf b) (1 : Nat) (2 : Nat)) (pv (hs (kOf b) (102 : Int)) (hOf b) (a2 (kOf b)) (2 : Nat)) (if kOf b ≤ (2 : Int) then lowOf b
  else (0 : Int)) (pv (hs (kOf b) (115 : Int)) (hOf b) (a6 (kOf b)) (1 : Nat)) (pv (hs (kOf b) (110 : Int)) (hOf b) (a3 (kOf b)) (4 : Nat)) (pv (hs (kOf b) (99 : Int)) (hOf b) (a4 (kOf b)) (1 : Nat)) (pv (hs (kOf b) (114 :
  Int)) (hOf b) (a5 (kOf b)) (1 : Nat)) (decide (kOf b = (5 : Int) ∧ lowOf b = (1 : Int))) (dOf b)))) (SV.tup [SV.agg (Iq0), SV.g (Value.bool false), SV.g (Value.int IntKind.i64 (4 : Int))] = SV.tup [SV.agg (U.cells
  (Prod.fst (rdT b))), SV.g (Value.bool (Prod.fst (Prod.snd (rdT b)))), SV.g (Value.int IntKind.i64 (Prod.snd (Prod.snd (rdT b))))]) (SV.tup [SV.agg (List.take (10 : Nat) (List.drop (0 : Nat) [SV.g (Value.int IntKind.i64
  (kOf b)), SV.g (Value.int IntKind.i64 (pv (hs (kOf b) (116 : Int)) (hOf b) (1 : Nat) (2 : Nat))), SV.g (Value.int IntKind.i64 (pv (hs (kOf b) (102 : Int)) (hOf b) (a2 (kOf b)) (2 : Nat))), SV.g (Value.int IntKind.i64 (if
  kOf b ≤ (2 : Int) then lowOf b else (0 : Int))), SV.g (Value.int IntKind.i64 (pv (hs (kOf b) (115 : Int)) (hOf b) (a6 (kOf b)) (1 : Nat))), SV.g (Value.int IntKind.i64 (pv (hs (kOf b) (110 : Int)) (hOf b) (a3 (kOf b)) (4
  : Nat))), SV.g (Value.int IntKind.i64 (pv (hs (kOf b) (99 : Int)) (hOf b) (a4 (kOf b)) (1 : Nat))), SV.g (Value.int IntKind.i64 (pv (hs (kOf b) (114 : Int)) (hOf b) (a5 (kOf b)) (1 : Nat))), SV.g (Value.bool (decide (kOf
  b = (5 : Int) ∧ lowOf b = (1 : Int)))), SV.g (Value.string (dOf b))])), SV.g (Value.bool (chk (hOf b) (kOf b))), SV.g (Value.int IntKind.i64 (0 : Int))] = SV.tup [SV.agg (U.cells (Prod.fst (rdT b))), SV.g (Value.bool
  (Prod.fst (Prod.snd (rdT b)))), SV.g (Value.int IntKind.i64 (Prod.snd (Prod.snd (rdT b))))]))
set_option maxHeartbeats 4000000 in
theorem readTail {b : ByteArray} (h1 : φb b) : ReadTail b := by
  unfold ReadTail Iq1 Iq0
  have hk := h1.h1
  have hφ := h1.h0
  have hn := h1.h3
  have ho := own_le hk
  have erd := rd_3 hφ hk
  have g2 := hφ.h3
  have g4 := hφ.h1
  have hsz := hOf_size g2
  have hds := @dOf_size b
  have hlo : loOf (kn (kOf b)) = (if kOf b = 8 then 1 else 0) := by rw [kn_of hk]; exact (kfacts hk).2.2.2.2.2.2.1
  have hchk : chk (hOf b) (kOf b) = true → (hOf b).size = own (kOf b) + 3 := by
    intro h; simp only [chk, Bool.and_eq_true, decide_eq_true_eq] at h; exact h.1
  have ed : (if loOf (kn (kOf b)) = 0 then ByteArray.mk #[] else ByteArray.mk #[120]) = (if kOf b = 8 then ⟨#[120]⟩ else ⟨#[]⟩) := by
    rw [hlo]; by_cases h : kOf b = 8 <;> simp [h]
  refine ⟨rfl, by rw [hlo]; split <;> simp, ?_⟩
  generalize hd : (if loOf (kn (kOf b)) = 0 then ByteArray.mk #[] else ByteArray.mk #[120]) = d8
  rw [ed] at hd
  subst hd
  clear ed
  refine (condX_iff _ _ _).2 ⟨fun h6 => ?_, fun h6 => ?_⟩
  · have h6 : (bif !!decide (lowBad b (kOf b)) then true else !decide (okU (bareU b (kOf b)))) = true := h6
    have h6 : lowBad b (kOf b) ∨ ¬ okU (bareU b (kOf b)) := by
      rw [bor] at h6
      simpa only [Bool.not_not, Bool.or_eq_true, decide_eq_true_eq, Bool.not_eq_true', decide_eq_false_iff_not] using h6
    exact rd_err (by rw [erd, rd3, if_neg hn, if_pos h6])
  have h6 : (bif !!decide (lowBad b (kOf b)) then true else !decide (okU (bareU b (kOf b)))) = false := h6
  have hne : ¬ lowBad b (kOf b) ∧ okU (bareU b (kOf b)) := by
    rw [bor] at h6
    simpa only [Bool.not_not, Bool.or_eq_false_iff, decide_eq_false_iff_not, Bool.not_eq_false', decide_eq_true_eq] using h6
  have hne2 : ¬ (lowBad b (kOf b) ∨ ¬ okU (bareU b (kOf b))) := fun h => h.elim hne.1 fun h => h hne.2
  have f1 : φ1 b := ⟨hφ, hk.1, hk.2, hn, hne.1⟩
  have w1 : IntKind.wrap IntKind.i64 (2 + (own (kOf b) : Int)) = ((2 + own (kOf b) : Nat) : Int) := by rw [wrap1 (by omega) (by omega)]; omega
  have w2 : IntKind.wrap IntKind.i64 (4 + (own (kOf b) : Int)) = ((4 + own (kOf b) : Nat) : Int) := by rw [wrap1 (by omega) (by omega)]; omega
  generalize hx1 : IntKind.wrap IntKind.i64 (2 + (own (kOf b) : Int)) = x1
  rw [w1] at hx1
  subst hx1
  generalize hx2 : IntKind.wrap IntKind.i64 (4 + (own (kOf b) : Int)) = x2
  rw [w2] at hx2
  subst hx2
  refine ⟨(condX_iff _ _ _).2 ⟨fun h7 => ?_, fun h7 => ?_⟩, fun _ h7 => (condX_iff _ _ _).2 ⟨fun h8 => ?_, fun h8 => ?_⟩⟩
  · have hq := hchk h7
    have ex : 4 + own (kOf b) = 1 + n0 b := by omega
    have e1 : b.extract (4 + own (kOf b)) b.size = dOf b := by rw [ex]; rfl
    have e2 : b.extract (2 + own (kOf b)) (4 + own (kOf b)) = (hOf b).extract (own (kOf b) + 1) (hOf b).size := by
      unfold hOf
      rw [size_ext, ByteArray.extract_extract, ex]
      congr 1 <;> omega
    refine ⟨⟨by omega, by omega⟩, ?_⟩
    refine ⟨by rw [size_ext]; omega, ?_⟩
    refine ⟨⟨by omega, by omega⟩, ?_⟩
    refine ⟨by rw [ByteArray.size_append, size_ext, size_ext]; show _ + 2 + _ ≤ _; omega, ?_⟩
    refine ⟨rfl, trivial, ?_⟩
    refine ⟨⟨by omega, by omega⟩, ?_⟩
    refine ⟨⟨by omega, by omega⟩, ?_⟩
    have eb : b.extract 0 ((2 + own (kOf b) : Nat) : Int).toNat ++ ByteArray.mk #[0, 0] ++ b.extract ((4 + own (kOf b) : Nat) : Int).toNat b.size = blank b (kOf b) := by
      rw [Int.toNat_natCast, Int.toNat_natCast, e1]; rfl
    have ec : b.extract ((2 + own (kOf b) : Nat) : Int).toNat ((4 + own (kOf b) : Nat) : Int).toNat = (hOf b).extract (own (kOf b) + 1) (hOf b).size := by
      rw [Int.toNat_natCast, Int.toNat_natCast, e2]
    generalize hy1 : b.extract 0 ((2 + own (kOf b) : Nat) : Int).toNat ++ ByteArray.mk #[0, 0] ++ b.extract ((4 + own (kOf b) : Nat) : Int).toNat b.size = y1
    rw [eb] at hy1
    subst hy1
    generalize hy2 : b.extract ((2 + own (kOf b) : Nat) : Int).toNat ((4 + own (kOf b) : Nat) : Int).toNat = y2
    rw [ec] at hy2
    subst hy2
    refine (condX_iff _ _ _).2 ⟨fun h8 => ?_, fun h8 => ?_⟩
    · have h8 : sumS (blank b (kOf b)) ≠ (hOf b).extract (own (kOf b) + 1) (hOf b).size := by simpa using h8
      exact rd_err (by rw [erd, rd3, if_neg hn, if_neg hne2, if_pos ⟨h7, h8⟩])
    · have h8 : sumS (blank b (kOf b)) = (hOf b).extract (own (kOf b) + 1) (hOf b).size := by simpa using h8
      exact ⟨(), ⟨f1, hne.2, fun h => h.2 h8⟩, by and_intros <;> first | exact trivial | rfl⟩
  · exact ⟨(), ⟨f1, hne.2, fun h => by rw [h.1] at h7; cases h7⟩, by and_intros <;> first | exact trivial | rfl⟩
  · have h8 : (!decide (okU (fullU b (kOf b)))) = true := h8
    have h8 : ¬ okU (fullU b (kOf b)) := by simpa using h8
    exact rd_err (by rw [erd, rd3, if_neg hn, if_neg hne2, if_neg h7.h2, if_pos h8])
  · have h8 : (!decide (okU (fullU b (kOf b)))) = false := h8
    have h8 : okU (fullU b (kOf b)) := by simpa using h8
    have e : rdT b = (fullU b (kOf b), chk (hOf b) (kOf b), 0) := by rw [erd, rd3, if_neg hn, if_neg hne2, if_neg h7.h2, if_neg (not_not_intro h8)]
    rw [e]; rfl
def Iq2 (b : ByteArray) := (IntKind.wrap IntKind.i64 (↑(BitVec.toNat (BitVec.ofInt (64 : Nat) (IntKind.wrap IntKind.i64 (IntKind.wrap IntKind.i64 (↑(BitVec.toNat (BitVec.ofInt (64 : Nat) (0 : Int) ||| BitVec.ofInt (64 : Nat) (IntKind.wrap
  IntKind.i64 (byteAt (hOf b) (1 : Int))))) : Int) * (256 : Int))) ||| BitVec.ofInt (64 : Nat) (IntKind.wrap IntKind.i64 (byteAt (hOf b) (2 : Int))))) : Int))
def Iq3 (b : ByteArray) := (IntKind.wrap IntKind.i64 (IntKind.wrap IntKind.u8 (↑(BitVec.toNat (BitVec.ofInt (8 : Nat) (byteAt (hOf b) (0 : Int)) &&& BitVec.ofInt (8 : Nat) (15 : Int))) : Int)))
def ReadK1 (b : ByteArray) : Prop :=  (0 : Nat) = (0 : Nat) ∧ (102 : Int) = (102 : Int) ∧ U.cells (uK (1 : Int)) = U.cells (U.mk (1 : Int) (0 : Int) (0 : Int) (0 : Int) (0 : Int) (0 : Int) (0 : Int) (0 : Int) false (ByteArray.mk #[])) ∧ True ∧ (True → (0 :
  Nat) = (0 : Nat) ∧ (99 : Int) = (99 : Int) ∧ [SV.g (Value.int IntKind.i64 (1 : Int)), SV.g (Value.int IntKind.i64 (0 : Int)), SV.g (Value.int IntKind.i64 (0 : Int)), SV.g (Value.int IntKind.i64 (0 : Int)), SV.g
  (Value.int IntKind.i64 (0 : Int)), SV.g (Value.int IntKind.i64 (0 : Int)), SV.g (Value.int IntKind.i64 (0 : Int)), SV.g (Value.int IntKind.i64 (0 : Int)), SV.g (Value.bool false), SV.g (Value.string (ByteArray.mk #[]))]
  = U.cells (U.mk (1 : Int) (0 : Int) (0 : Int) (0 : Int) (0 : Int) (0 : Int) (0 : Int) (0 : Int) false (ByteArray.mk #[])) ∧ True ∧ (True → (0 : Nat) = (0 : Nat) ∧ (115 : Int) = (115 : Int) ∧ [SV.g (Value.int IntKind.i64
  (1 : Int)), SV.g (Value.int IntKind.i64 (0 : Int)), SV.g (Value.int IntKind.i64 (0 : Int)), SV.g (Value.int IntKind.i64 (0 : Int)), SV.g (Value.int IntKind.i64 (0 : Int)), SV.g (Value.int IntKind.i64 (0 : Int)), SV.g
  (Value.int IntKind.i64 (0 : Int)), SV.g (Value.int IntKind.i64 (0 : Int)), SV.g (Value.bool false), SV.g (Value.string (ByteArray.mk #[]))] = U.cells (U.mk (1 : Int) (0 : Int) (0 : Int) (0 : Int) (0 : Int) (0 : Int) (0 :
  Int) (0 : Int) false (ByteArray.mk #[])) ∧ True ∧ (True → (((!bif false then true else bif (↑(ByteArray.size (hOf b)) : Int) != (5 : Int) then !bif true then (↑(ByteArray.size (hOf b)) : Int) == (8 : Int) else false else
  false) && bif true then (↑(ByteArray.size (hOf b)) : Int) == (8 : Int) else false) = true → (0 : Int) ≤ (5 : Int) ∧ (5 : Int) < (↑(ByteArray.size (hOf b)) : Int)) ∧ condX (bif bif false then true else bif
  (↑(ByteArray.size (hOf b)) : Int) != (5 : Int) then !bif true then (↑(ByteArray.size (hOf b)) : Int) == (8 : Int) else false else false then true else bif bif true then (↑(ByteArray.size (hOf b)) : Int) == (8 : Int) else
  false then byteAt (hOf b) (5 : Int) != (195 : Int) else false) (SV.tup [SV.agg (List.take (10 : Nat) (List.drop (0 : Nat) [SV.g (Value.int IntKind.i64 (0 : Int)), SV.g (Value.int IntKind.i64 (0 : Int)), SV.g (Value.int
  IntKind.i64 (0 : Int)), SV.g (Value.int IntKind.i64 (0 : Int)), SV.g (Value.int IntKind.i64 (0 : Int)), SV.g (Value.int IntKind.i64 (0 : Int)), SV.g (Value.int IntKind.i64 (0 : Int)), SV.g (Value.int IntKind.i64 (0 :
  Int)), SV.g (Value.bool false), SV.g (Value.string (ByteArray.mk #[]))])), SV.g (Value.bool false), SV.g (Value.int IntKind.i64 (4 : Int))] = SV.tup [SV.agg (U.cells (Prod.fst (rdT b))), SV.g (Value.bool (Prod.fst
  (Prod.snd (rdT b)))), SV.g (Value.int IntKind.i64 (Prod.snd (Prod.snd (rdT b))))]) (((0 : Int) ≤ (0 : Int) ∧ (0 : Int) < (↑(ByteArray.size (hOf b)) : Int)) ∧ ((0 : Nat) = (0 : Nat) ∧ (102 : Int) = (102 : Int) ∧ [SV.g
  (Value.int IntKind.i64 (1 : Int)), SV.g (Value.int IntKind.i64 (0 : Int)), SV.g (Value.int IntKind.i64 (0 : Int)), SV.g (Value.int IntKind.i64 (Iq3 b)), SV.g (Value.int IntKind.i64 (0 : Int)), SV.g (Value.int IntKind.i64
  (0 : Int)), SV.g (Value.int IntKind.i64 (0 : Int)), SV.g (Value.int IntKind.i64 (0 : Int)), SV.g (Value.bool false), SV.g (Value.string (ByteArray.mk #[]))] = U.cells (U.mk (1 : Int) (0 : Int) (0 : Int) (Iq3 b) (0 : Int)
  (0 : Int) (0 : Int) (0 : Int) false (ByteArray.mk #[])) ∧ True ∧ (True → (0 : Int) ≤ (8 : Int) ∧ ((0 : Int) ≤ (1 : Int) ∧ (1 : Int) < (↑(ByteArray.size (hOf b)) : Int)) ∧ (0 : Int) ≤ (8 : Int) ∧ ((0 : Int) ≤ (2 : Int) ∧
  (2 : Int) < (↑(ByteArray.size (hOf b)) : Int)) ∧ (0 : Nat) = (0 : Nat) ∧ (99 : Int) = (99 : Int) ∧ [SV.g (Value.int IntKind.i64 (1 : Int)), SV.g (Value.int IntKind.i64 (0 : Int)), SV.g (Value.int IntKind.i64 (Iq2 b)),
  SV.g (Value.int IntKind.i64 (Iq3 b)), SV.g (Value.int IntKind.i64 (0 : Int)), SV.g (Value.int IntKind.i64 (0 : Int)), SV.g (Value.int IntKind.i64 (0 : Int)), SV.g (Value.int IntKind.i64 (0 : Int)), SV.g (Value.bool
  false), SV.g (Value.string (ByteArray.mk #[]))] = U.cells (U.mk (1 : Int) (0 : Int) (Iq2 b) (Iq3 b) (0 : Int) (0 : Int) (0 : Int) (0 : Int) false (ByteArray.mk #[])) ∧ True ∧ (True → (0 : Int) ≤ (8 : Int) ∧ ((0 : Int) ≤
  (3 : Int) ∧ (3 : Int) < (↑(ByteArray.size (hOf b)) : Int)) ∧ (0 : Nat) = (0 : Nat) ∧ (115 : Int) = (115 : Int) ∧ [SV.g (Value.int IntKind.i64 (1 : Int)), SV.g (Value.int IntKind.i64 (0 : Int)), SV.g (Value.int
  IntKind.i64 (Iq2 b)), SV.g (Value.int IntKind.i64 (Iq3 b)), SV.g (Value.int IntKind.i64 (0 : Int)), SV.g (Value.int IntKind.i64 (0 : Int)), SV.g (Value.int IntKind.i64 (IntKind.wrap IntKind.i64 (↑(BitVec.toNat
  (BitVec.ofInt (64 : Nat) (0 : Int) ||| BitVec.ofInt (64 : Nat) (IntKind.wrap IntKind.i64 (byteAt (hOf b) (3 : Int))))) : Int))), SV.g (Value.int IntKind.i64 (0 : Int)), SV.g (Value.bool false), SV.g (Value.string
  (ByteArray.mk #[]))] = U.cells (U.mk (1 : Int) (0 : Int) (Iq2 b) (Iq3 b) (0 : Int) (0 : Int) (IntKind.wrap IntKind.i64 (↑(BitVec.toNat (BitVec.ofInt (64 : Nat) (0 : Int) ||| BitVec.ofInt (64 : Nat) (IntKind.wrap
  IntKind.i64 (byteAt (hOf b) (3 : Int))))) : Int)) (0 : Int) false (ByteArray.mk #[])) ∧ True ∧ (True → (0 : Int) ≤ (8 : Int) ∧ ((0 : Int) ≤ (4 : Int) ∧ (4 : Int) < (↑(ByteArray.size (hOf b)) : Int)) ∧ ∃ (x : Unit), φb b
  ∧ b = b ∧ (0 : Nat) = (0 : Nat) ∧ (bif true then (↑(ByteArray.size (hOf b)) : Int) == (8 : Int) else false) = chk (hOf b) (kOf b) ∧ dOf b = dOf b ∧ (0 : Nat) = (0 : Nat) ∧ true = !decide (lowBad b (kOf b)) ∧ (5 : Int) =
  (↑(own (kOf b)) : Int) ∧ [SV.g (Value.int IntKind.i64 (1 : Int)), SV.g (Value.int IntKind.i64 (0 : Int)), SV.g (Value.int IntKind.i64 (Iq2 b)), SV.g (Value.int IntKind.i64 (Iq3 b)), SV.g (Value.int IntKind.i64
  (IntKind.wrap IntKind.i64 (↑(BitVec.toNat (BitVec.ofInt (64 : Nat) (0 : Int) ||| BitVec.ofInt (64 : Nat) (IntKind.wrap IntKind.i64 (byteAt (hOf b) (4 : Int))))) : Int))), SV.g (Value.int IntKind.i64 (0 : Int)), SV.g
  (Value.int IntKind.i64 (IntKind.wrap IntKind.i64 (↑(BitVec.toNat (BitVec.ofInt (64 : Nat) (0 : Int) ||| BitVec.ofInt (64 : Nat) (IntKind.wrap IntKind.i64 (byteAt (hOf b) (3 : Int))))) : Int))), SV.g (Value.int
  IntKind.i64 (0 : Int)), SV.g (Value.bool false), SV.g (Value.string (ByteArray.mk #[]))] = U.cells (bare0 b (kOf b)) ∧ frow (1 : Nat) = frow (kn (kOf b)) ∧ True)))) ∧ ∀ (x : Unit), φb b → ReadTail b))))
set_option maxHeartbeats 4000000 in
theorem readK1 {b : ByteArray} (hφ : φ0 b) (hk : kOf b = 1) : ReadK1 b := by
  unfold ReadK1 Iq3 Iq2
  have ho : ((own 1 : Nat) : Int) = 5 := by decide
  have hm : (8 : Int) = 5 + 3 := rfl
  have h10 : (1 : Int) ≤ 1 ∧ (1 : Int) ≤ 10 := by decide
  have h4 := hφ.h4
  repeat' first
    | (with_reducible exact readTail (by assumption))
    | (with_reducible apply And.intro)
    | (with_reducible exact trivial)
    | exact cells_uK _
    | (with_reducible exact cells_mk _ _ _ _ _ _ _ _ _ _)
    | (refine (condX_iff _ _ _).2 ⟨fun hE => ?_, fun hF => ?_⟩)
    | (refine Exists.intro () ?_)
    | (intro hI)
  all_goals first
    | with_reducible rfl
    | omega
    | exact rd_err (rdE hφ hk h10 ho hm hE)
    | exact rdB hφ hk h10 ho hm hF
    | (have hF' : rdCond b 5 8 = false := hF
       with_reducible exact rdC hk ho hm hF')
    | (have hG := rdG hk ho hm hF; omega)
    | (simp at hI; omega)
    | exact ok12 hk (by decide)
    | exact okO hk (by decide)
    | exact ok5 hk
    | (rw [hk, ho])
    | (have hG := rdG hk ho hm hF
       rw [hk]
       simp only [or0, or8a, or8b, or8c, low15]
       simp (disch := first | decide | omega) only [U.cells, bare0, partsU, h116, h102, h110, h99, h114, h115, a2, a3, a4, a5, a6, sk, pv_t, nm1, nm2, nm4, decide_true, decide_false, ne_eq, not_true_eq_false, not_false_eq_true, and_true, true_and, and_false, false_and, or_true, true_or, or_false, false_or, Int.reduceEq, Int.reduceLE, and_self, or_self, if_true, if_false]
       rfl)
    | (rw [hk]; rfl)
def Iq4 (b : ByteArray) := (IntKind.wrap IntKind.i64 (↑(BitVec.toNat (BitVec.ofInt (64 : Nat) (IntKind.wrap IntKind.i64 (IntKind.wrap IntKind.i64 (↑(BitVec.toNat (BitVec.ofInt (64 : Nat) (0 : Int) ||| BitVec.ofInt (64 : Nat) (IntKind.wrap
  IntKind.i64 (byteAt (hOf b) (1 : Int))))) : Int) * (256 : Int))) ||| BitVec.ofInt (64 : Nat) (IntKind.wrap IntKind.i64 (byteAt (hOf b) (2 : Int))))) : Int))
def Iq5 (b : ByteArray) := (IntKind.wrap IntKind.i64 (↑(BitVec.toNat (BitVec.ofInt (64 : Nat) (IntKind.wrap IntKind.i64 (IntKind.wrap IntKind.i64 (↑(BitVec.toNat (BitVec.ofInt (64 : Nat) (0 : Int) ||| BitVec.ofInt (64 : Nat) (IntKind.wrap
  IntKind.i64 (byteAt (hOf b) (3 : Int))))) : Int) * (256 : Int))) ||| BitVec.ofInt (64 : Nat) (IntKind.wrap IntKind.i64 (byteAt (hOf b) (4 : Int))))) : Int))
def Iq6 (b : ByteArray) := (IntKind.wrap IntKind.i64 (IntKind.wrap IntKind.u8 (↑(BitVec.toNat (BitVec.ofInt (8 : Nat) (byteAt (hOf b) (0 : Int)) &&& BitVec.ofInt (8 : Nat) (15 : Int))) : Int)))
def ReadK2 (b : ByteArray) : Prop :=  (0 : Nat) = (0 : Nat) ∧ (116 : Int) = (116 : Int) ∧ U.cells (uK (2 : Int)) = U.cells (U.mk (2 : Int) (0 : Int) (0 : Int) (0 : Int) (0 : Int) (0 : Int) (0 : Int) (0 : Int) false (ByteArray.mk #[])) ∧ True ∧ (True → (0 :
  Nat) = (0 : Nat) ∧ (102 : Int) = (102 : Int) ∧ [SV.g (Value.int IntKind.i64 (2 : Int)), SV.g (Value.int IntKind.i64 (0 : Int)), SV.g (Value.int IntKind.i64 (0 : Int)), SV.g (Value.int IntKind.i64 (0 : Int)), SV.g
  (Value.int IntKind.i64 (0 : Int)), SV.g (Value.int IntKind.i64 (0 : Int)), SV.g (Value.int IntKind.i64 (0 : Int)), SV.g (Value.int IntKind.i64 (0 : Int)), SV.g (Value.bool false), SV.g (Value.string (ByteArray.mk #[]))]
  = U.cells (U.mk (2 : Int) (0 : Int) (0 : Int) (0 : Int) (0 : Int) (0 : Int) (0 : Int) (0 : Int) false (ByteArray.mk #[])) ∧ True ∧ (True → (0 : Nat) = (0 : Nat) ∧ (99 : Int) = (99 : Int) ∧ [SV.g (Value.int IntKind.i64 (2
  : Int)), SV.g (Value.int IntKind.i64 (0 : Int)), SV.g (Value.int IntKind.i64 (0 : Int)), SV.g (Value.int IntKind.i64 (0 : Int)), SV.g (Value.int IntKind.i64 (0 : Int)), SV.g (Value.int IntKind.i64 (0 : Int)), SV.g
  (Value.int IntKind.i64 (0 : Int)), SV.g (Value.int IntKind.i64 (0 : Int)), SV.g (Value.bool false), SV.g (Value.string (ByteArray.mk #[]))] = U.cells (U.mk (2 : Int) (0 : Int) (0 : Int) (0 : Int) (0 : Int) (0 : Int) (0 :
  Int) (0 : Int) false (ByteArray.mk #[])) ∧ True ∧ (True → (0 : Nat) = (0 : Nat) ∧ (115 : Int) = (115 : Int) ∧ [SV.g (Value.int IntKind.i64 (2 : Int)), SV.g (Value.int IntKind.i64 (0 : Int)), SV.g (Value.int IntKind.i64
  (0 : Int)), SV.g (Value.int IntKind.i64 (0 : Int)), SV.g (Value.int IntKind.i64 (0 : Int)), SV.g (Value.int IntKind.i64 (0 : Int)), SV.g (Value.int IntKind.i64 (0 : Int)), SV.g (Value.int IntKind.i64 (0 : Int)), SV.g
  (Value.bool false), SV.g (Value.string (ByteArray.mk #[]))] = U.cells (U.mk (2 : Int) (0 : Int) (0 : Int) (0 : Int) (0 : Int) (0 : Int) (0 : Int) (0 : Int) false (ByteArray.mk #[])) ∧ True ∧ (True → (((!bif false then
  true else bif (↑(ByteArray.size (hOf b)) : Int) != (7 : Int) then !bif true then (↑(ByteArray.size (hOf b)) : Int) == (10 : Int) else false else false) && bif true then (↑(ByteArray.size (hOf b)) : Int) == (10 : Int)
  else false) = true → (0 : Int) ≤ (7 : Int) ∧ (7 : Int) < (↑(ByteArray.size (hOf b)) : Int)) ∧ condX (bif bif false then true else bif (↑(ByteArray.size (hOf b)) : Int) != (7 : Int) then !bif true then (↑(ByteArray.size
  (hOf b)) : Int) == (10 : Int) else false else false then true else bif bif true then (↑(ByteArray.size (hOf b)) : Int) == (10 : Int) else false then byteAt (hOf b) (7 : Int) != (195 : Int) else false) (SV.tup [SV.agg
  (List.take (10 : Nat) (List.drop (0 : Nat) [SV.g (Value.int IntKind.i64 (0 : Int)), SV.g (Value.int IntKind.i64 (0 : Int)), SV.g (Value.int IntKind.i64 (0 : Int)), SV.g (Value.int IntKind.i64 (0 : Int)), SV.g (Value.int
  IntKind.i64 (0 : Int)), SV.g (Value.int IntKind.i64 (0 : Int)), SV.g (Value.int IntKind.i64 (0 : Int)), SV.g (Value.int IntKind.i64 (0 : Int)), SV.g (Value.bool false), SV.g (Value.string (ByteArray.mk #[]))])), SV.g
  (Value.bool false), SV.g (Value.int IntKind.i64 (4 : Int))] = SV.tup [SV.agg (U.cells (Prod.fst (rdT b))), SV.g (Value.bool (Prod.fst (Prod.snd (rdT b)))), SV.g (Value.int IntKind.i64 (Prod.snd (Prod.snd (rdT b))))])
  (((0 : Int) ≤ (0 : Int) ∧ (0 : Int) < (↑(ByteArray.size (hOf b)) : Int)) ∧ ((0 : Nat) = (0 : Nat) ∧ (116 : Int) = (116 : Int) ∧ [SV.g (Value.int IntKind.i64 (2 : Int)), SV.g (Value.int IntKind.i64 (0 : Int)), SV.g
  (Value.int IntKind.i64 (0 : Int)), SV.g (Value.int IntKind.i64 (Iq6 b)), SV.g (Value.int IntKind.i64 (0 : Int)), SV.g (Value.int IntKind.i64 (0 : Int)), SV.g (Value.int IntKind.i64 (0 : Int)), SV.g (Value.int IntKind.i64
  (0 : Int)), SV.g (Value.bool false), SV.g (Value.string (ByteArray.mk #[]))] = U.cells (U.mk (2 : Int) (0 : Int) (0 : Int) (Iq6 b) (0 : Int) (0 : Int) (0 : Int) (0 : Int) false (ByteArray.mk #[])) ∧ True ∧ (True → (0 :
  Int) ≤ (8 : Int) ∧ ((0 : Int) ≤ (1 : Int) ∧ (1 : Int) < (↑(ByteArray.size (hOf b)) : Int)) ∧ (0 : Int) ≤ (8 : Int) ∧ ((0 : Int) ≤ (2 : Int) ∧ (2 : Int) < (↑(ByteArray.size (hOf b)) : Int)) ∧ (0 : Nat) = (0 : Nat) ∧ (102
  : Int) = (102 : Int) ∧ [SV.g (Value.int IntKind.i64 (2 : Int)), SV.g (Value.int IntKind.i64 (Iq4 b)), SV.g (Value.int IntKind.i64 (0 : Int)), SV.g (Value.int IntKind.i64 (Iq6 b)), SV.g (Value.int IntKind.i64 (0 : Int)),
  SV.g (Value.int IntKind.i64 (0 : Int)), SV.g (Value.int IntKind.i64 (0 : Int)), SV.g (Value.int IntKind.i64 (0 : Int)), SV.g (Value.bool false), SV.g (Value.string (ByteArray.mk #[]))] = U.cells (U.mk (2 : Int) (Iq4 b)
  (0 : Int) (Iq6 b) (0 : Int) (0 : Int) (0 : Int) (0 : Int) false (ByteArray.mk #[])) ∧ True ∧ (True → (0 : Int) ≤ (8 : Int) ∧ ((0 : Int) ≤ (3 : Int) ∧ (3 : Int) < (↑(ByteArray.size (hOf b)) : Int)) ∧ (0 : Int) ≤ (8 : Int)
  ∧ ((0 : Int) ≤ (4 : Int) ∧ (4 : Int) < (↑(ByteArray.size (hOf b)) : Int)) ∧ (0 : Nat) = (0 : Nat) ∧ (99 : Int) = (99 : Int) ∧ [SV.g (Value.int IntKind.i64 (2 : Int)), SV.g (Value.int IntKind.i64 (Iq4 b)), SV.g (Value.int
  IntKind.i64 (Iq5 b)), SV.g (Value.int IntKind.i64 (Iq6 b)), SV.g (Value.int IntKind.i64 (0 : Int)), SV.g (Value.int IntKind.i64 (0 : Int)), SV.g (Value.int IntKind.i64 (0 : Int)), SV.g (Value.int IntKind.i64 (0 : Int)),
  SV.g (Value.bool false), SV.g (Value.string (ByteArray.mk #[]))] = U.cells (U.mk (2 : Int) (Iq4 b) (Iq5 b) (Iq6 b) (0 : Int) (0 : Int) (0 : Int) (0 : Int) false (ByteArray.mk #[])) ∧ True ∧ (True → (0 : Int) ≤ (8 : Int)
  ∧ ((0 : Int) ≤ (5 : Int) ∧ (5 : Int) < (↑(ByteArray.size (hOf b)) : Int)) ∧ (0 : Nat) = (0 : Nat) ∧ (115 : Int) = (115 : Int) ∧ [SV.g (Value.int IntKind.i64 (2 : Int)), SV.g (Value.int IntKind.i64 (Iq4 b)), SV.g
  (Value.int IntKind.i64 (Iq5 b)), SV.g (Value.int IntKind.i64 (Iq6 b)), SV.g (Value.int IntKind.i64 (0 : Int)), SV.g (Value.int IntKind.i64 (0 : Int)), SV.g (Value.int IntKind.i64 (IntKind.wrap IntKind.i64 (↑(BitVec.toNat
  (BitVec.ofInt (64 : Nat) (0 : Int) ||| BitVec.ofInt (64 : Nat) (IntKind.wrap IntKind.i64 (byteAt (hOf b) (5 : Int))))) : Int))), SV.g (Value.int IntKind.i64 (0 : Int)), SV.g (Value.bool false), SV.g (Value.string
  (ByteArray.mk #[]))] = U.cells (U.mk (2 : Int) (Iq4 b) (Iq5 b) (Iq6 b) (0 : Int) (0 : Int) (IntKind.wrap IntKind.i64 (↑(BitVec.toNat (BitVec.ofInt (64 : Nat) (0 : Int) ||| BitVec.ofInt (64 : Nat) (IntKind.wrap
  IntKind.i64 (byteAt (hOf b) (5 : Int))))) : Int)) (0 : Int) false (ByteArray.mk #[])) ∧ True ∧ (True → (0 : Int) ≤ (8 : Int) ∧ ((0 : Int) ≤ (6 : Int) ∧ (6 : Int) < (↑(ByteArray.size (hOf b)) : Int)) ∧ ∃ (x : Unit), φb b
  ∧ b = b ∧ (0 : Nat) = (0 : Nat) ∧ (bif true then (↑(ByteArray.size (hOf b)) : Int) == (10 : Int) else false) = chk (hOf b) (kOf b) ∧ dOf b = dOf b ∧ (0 : Nat) = (0 : Nat) ∧ true = !decide (lowBad b (kOf b)) ∧ (7 : Int) =
  (↑(own (kOf b)) : Int) ∧ [SV.g (Value.int IntKind.i64 (2 : Int)), SV.g (Value.int IntKind.i64 (Iq4 b)), SV.g (Value.int IntKind.i64 (Iq5 b)), SV.g (Value.int IntKind.i64 (Iq6 b)), SV.g (Value.int IntKind.i64
  (IntKind.wrap IntKind.i64 (↑(BitVec.toNat (BitVec.ofInt (64 : Nat) (0 : Int) ||| BitVec.ofInt (64 : Nat) (IntKind.wrap IntKind.i64 (byteAt (hOf b) (6 : Int))))) : Int))), SV.g (Value.int IntKind.i64 (0 : Int)), SV.g
  (Value.int IntKind.i64 (IntKind.wrap IntKind.i64 (↑(BitVec.toNat (BitVec.ofInt (64 : Nat) (0 : Int) ||| BitVec.ofInt (64 : Nat) (IntKind.wrap IntKind.i64 (byteAt (hOf b) (5 : Int))))) : Int))), SV.g (Value.int
  IntKind.i64 (0 : Int)), SV.g (Value.bool false), SV.g (Value.string (ByteArray.mk #[]))] = U.cells (bare0 b (kOf b)) ∧ frow (2 : Nat) = frow (kn (kOf b)) ∧ True))))) ∧ ∀ (x : Unit), φb b → ReadTail b)))))
set_option maxHeartbeats 4000000 in
theorem readK2 {b : ByteArray} (hφ : φ0 b) (hk : kOf b = 2) : ReadK2 b := by
  unfold ReadK2 Iq6 Iq5 Iq4
  have ho : ((own 2 : Nat) : Int) = 7 := by decide
  have hm : (10 : Int) = 7 + 3 := rfl
  have h10 : (1 : Int) ≤ 2 ∧ (2 : Int) ≤ 10 := by decide
  have h4 := hφ.h4
  repeat' first
    | (with_reducible exact readTail (by assumption))
    | (with_reducible apply And.intro)
    | (with_reducible exact trivial)
    | exact cells_uK _
    | (with_reducible exact cells_mk _ _ _ _ _ _ _ _ _ _)
    | (refine (condX_iff _ _ _).2 ⟨fun hE => ?_, fun hF => ?_⟩)
    | (refine Exists.intro () ?_)
    | (intro hI)
  all_goals first
    | with_reducible rfl
    | omega
    | exact rd_err (rdE hφ hk h10 ho hm hE)
    | exact rdB hφ hk h10 ho hm hF
    | (have hF' : rdCond b 7 10 = false := hF
       with_reducible exact rdC hk ho hm hF')
    | (have hG := rdG hk ho hm hF; omega)
    | (simp at hI; omega)
    | exact ok12 hk (by decide)
    | exact okO hk (by decide)
    | exact ok5 hk
    | (rw [hk, ho])
    | (have hG := rdG hk ho hm hF
       rw [hk]
       simp only [or0, or8a, or8b, or8c, low15]
       simp (disch := first | decide | omega) only [U.cells, bare0, partsU, h116, h102, h110, h99, h114, h115, a2, a3, a4, a5, a6, sk, pv_t, nm1, nm2, nm4, decide_true, decide_false, ne_eq, not_true_eq_false, not_false_eq_true, and_true, true_and, and_false, false_and, or_true, true_or, or_false, false_or, Int.reduceEq, Int.reduceLE, and_self, or_self, if_true, if_false]
       rfl)
    | (rw [hk]; rfl)
def Iq7 (b : ByteArray) := (IntKind.wrap IntKind.i64 (↑(BitVec.toNat (BitVec.ofInt (64 : Nat) (IntKind.wrap IntKind.i64 (IntKind.wrap IntKind.i64 (↑(BitVec.toNat (BitVec.ofInt (64 : Nat) (0 : Int) ||| BitVec.ofInt (64 : Nat) (IntKind.wrap
  IntKind.i64 (byteAt (hOf b) (1 : Int))))) : Int) * (256 : Int))) ||| BitVec.ofInt (64 : Nat) (IntKind.wrap IntKind.i64 (byteAt (hOf b) (2 : Int))))) : Int))
def Iq8 (b : ByteArray) := (IntKind.wrap IntKind.i64 (↑(BitVec.toNat (BitVec.ofInt (64 : Nat) (IntKind.wrap IntKind.i64 (IntKind.wrap IntKind.i64 (↑(BitVec.toNat (BitVec.ofInt (64 : Nat) (0 : Int) ||| BitVec.ofInt (64 : Nat) (IntKind.wrap
  IntKind.i64 (byteAt (hOf b) (3 : Int))))) : Int) * (256 : Int))) ||| BitVec.ofInt (64 : Nat) (IntKind.wrap IntKind.i64 (byteAt (hOf b) (4 : Int))))) : Int))
def ReadK3 (b : ByteArray) : Prop :=  (0 : Nat) = (0 : Nat) ∧ (116 : Int) = (116 : Int) ∧ U.cells (uK (3 : Int)) = U.cells (U.mk (3 : Int) (0 : Int) (0 : Int) (0 : Int) (0 : Int) (0 : Int) (0 : Int) (0 : Int) false (ByteArray.mk #[])) ∧ True ∧ (True → (0 :
  Nat) = (0 : Nat) ∧ (102 : Int) = (102 : Int) ∧ [SV.g (Value.int IntKind.i64 (3 : Int)), SV.g (Value.int IntKind.i64 (0 : Int)), SV.g (Value.int IntKind.i64 (0 : Int)), SV.g (Value.int IntKind.i64 (0 : Int)), SV.g
  (Value.int IntKind.i64 (0 : Int)), SV.g (Value.int IntKind.i64 (0 : Int)), SV.g (Value.int IntKind.i64 (0 : Int)), SV.g (Value.int IntKind.i64 (0 : Int)), SV.g (Value.bool false), SV.g (Value.string (ByteArray.mk #[]))]
  = U.cells (U.mk (3 : Int) (0 : Int) (0 : Int) (0 : Int) (0 : Int) (0 : Int) (0 : Int) (0 : Int) false (ByteArray.mk #[])) ∧ True ∧ (True → (0 : Nat) = (0 : Nat) ∧ (114 : Int) = (114 : Int) ∧ [SV.g (Value.int IntKind.i64
  (3 : Int)), SV.g (Value.int IntKind.i64 (0 : Int)), SV.g (Value.int IntKind.i64 (0 : Int)), SV.g (Value.int IntKind.i64 (0 : Int)), SV.g (Value.int IntKind.i64 (0 : Int)), SV.g (Value.int IntKind.i64 (0 : Int)), SV.g
  (Value.int IntKind.i64 (0 : Int)), SV.g (Value.int IntKind.i64 (0 : Int)), SV.g (Value.bool false), SV.g (Value.string (ByteArray.mk #[]))] = U.cells (U.mk (3 : Int) (0 : Int) (0 : Int) (0 : Int) (0 : Int) (0 : Int) (0 :
  Int) (0 : Int) false (ByteArray.mk #[])) ∧ True ∧ (True → (((!bif false then true else bif (↑(ByteArray.size (hOf b)) : Int) != (6 : Int) then !bif true then (↑(ByteArray.size (hOf b)) : Int) == (9 : Int) else false else
  false) && bif true then (↑(ByteArray.size (hOf b)) : Int) == (9 : Int) else false) = true → (0 : Int) ≤ (6 : Int) ∧ (6 : Int) < (↑(ByteArray.size (hOf b)) : Int)) ∧ condX (bif bif false then true else bif
  (↑(ByteArray.size (hOf b)) : Int) != (6 : Int) then !bif true then (↑(ByteArray.size (hOf b)) : Int) == (9 : Int) else false else false then true else bif bif true then (↑(ByteArray.size (hOf b)) : Int) == (9 : Int) else
  false then byteAt (hOf b) (6 : Int) != (195 : Int) else false) (SV.tup [SV.agg (List.take (10 : Nat) (List.drop (0 : Nat) [SV.g (Value.int IntKind.i64 (0 : Int)), SV.g (Value.int IntKind.i64 (0 : Int)), SV.g (Value.int
  IntKind.i64 (0 : Int)), SV.g (Value.int IntKind.i64 (0 : Int)), SV.g (Value.int IntKind.i64 (0 : Int)), SV.g (Value.int IntKind.i64 (0 : Int)), SV.g (Value.int IntKind.i64 (0 : Int)), SV.g (Value.int IntKind.i64 (0 :
  Int)), SV.g (Value.bool false), SV.g (Value.string (ByteArray.mk #[]))])), SV.g (Value.bool false), SV.g (Value.int IntKind.i64 (4 : Int))] = SV.tup [SV.agg (U.cells (Prod.fst (rdT b))), SV.g (Value.bool (Prod.fst
  (Prod.snd (rdT b)))), SV.g (Value.int IntKind.i64 (Prod.snd (Prod.snd (rdT b))))]) (((0 : Int) ≤ (0 : Int) ∧ (0 : Int) < (↑(ByteArray.size (hOf b)) : Int)) ∧ ((0 : Nat) = (0 : Nat) ∧ (116 : Int) = (116 : Int) ∧ [SV.g
  (Value.int IntKind.i64 (3 : Int)), SV.g (Value.int IntKind.i64 (0 : Int)), SV.g (Value.int IntKind.i64 (0 : Int)), SV.g (Value.int IntKind.i64 (0 : Int)), SV.g (Value.int IntKind.i64 (0 : Int)), SV.g (Value.int
  IntKind.i64 (0 : Int)), SV.g (Value.int IntKind.i64 (0 : Int)), SV.g (Value.int IntKind.i64 (0 : Int)), SV.g (Value.bool false), SV.g (Value.string (ByteArray.mk #[]))] = U.cells (U.mk (3 : Int) (0 : Int) (0 : Int) (0 :
  Int) (0 : Int) (0 : Int) (0 : Int) (0 : Int) false (ByteArray.mk #[])) ∧ True ∧ (True → (0 : Int) ≤ (8 : Int) ∧ ((0 : Int) ≤ (1 : Int) ∧ (1 : Int) < (↑(ByteArray.size (hOf b)) : Int)) ∧ (0 : Int) ≤ (8 : Int) ∧ ((0 : Int)
  ≤ (2 : Int) ∧ (2 : Int) < (↑(ByteArray.size (hOf b)) : Int)) ∧ (0 : Nat) = (0 : Nat) ∧ (102 : Int) = (102 : Int) ∧ [SV.g (Value.int IntKind.i64 (3 : Int)), SV.g (Value.int IntKind.i64 (Iq7 b)), SV.g (Value.int
  IntKind.i64 (0 : Int)), SV.g (Value.int IntKind.i64 (0 : Int)), SV.g (Value.int IntKind.i64 (0 : Int)), SV.g (Value.int IntKind.i64 (0 : Int)), SV.g (Value.int IntKind.i64 (0 : Int)), SV.g (Value.int IntKind.i64 (0 :
  Int)), SV.g (Value.bool false), SV.g (Value.string (ByteArray.mk #[]))] = U.cells (U.mk (3 : Int) (Iq7 b) (0 : Int) (0 : Int) (0 : Int) (0 : Int) (0 : Int) (0 : Int) false (ByteArray.mk #[])) ∧ True ∧ (True → (0 : Int) ≤
  (8 : Int) ∧ ((0 : Int) ≤ (3 : Int) ∧ (3 : Int) < (↑(ByteArray.size (hOf b)) : Int)) ∧ (0 : Int) ≤ (8 : Int) ∧ ((0 : Int) ≤ (4 : Int) ∧ (4 : Int) < (↑(ByteArray.size (hOf b)) : Int)) ∧ (0 : Nat) = (0 : Nat) ∧ (114 : Int)
  = (114 : Int) ∧ [SV.g (Value.int IntKind.i64 (3 : Int)), SV.g (Value.int IntKind.i64 (Iq7 b)), SV.g (Value.int IntKind.i64 (Iq8 b)), SV.g (Value.int IntKind.i64 (0 : Int)), SV.g (Value.int IntKind.i64 (0 : Int)), SV.g
  (Value.int IntKind.i64 (0 : Int)), SV.g (Value.int IntKind.i64 (0 : Int)), SV.g (Value.int IntKind.i64 (0 : Int)), SV.g (Value.bool false), SV.g (Value.string (ByteArray.mk #[]))] = U.cells (U.mk (3 : Int) (Iq7 b) (Iq8
  b) (0 : Int) (0 : Int) (0 : Int) (0 : Int) (0 : Int) false (ByteArray.mk #[])) ∧ True ∧ (True → (0 : Int) ≤ (8 : Int) ∧ ((0 : Int) ≤ (5 : Int) ∧ (5 : Int) < (↑(ByteArray.size (hOf b)) : Int)) ∧ ∃ (x : Unit), φb b ∧ b = b
  ∧ (0 : Nat) = (0 : Nat) ∧ (bif true then (↑(ByteArray.size (hOf b)) : Int) == (9 : Int) else false) = chk (hOf b) (kOf b) ∧ dOf b = dOf b ∧ (0 : Nat) = (0 : Nat) ∧ (IntKind.wrap IntKind.i64 (IntKind.wrap IntKind.u8
  (↑(BitVec.toNat (BitVec.ofInt (8 : Nat) (byteAt (hOf b) (0 : Int)) &&& BitVec.ofInt (8 : Nat) (15 : Int))) : Int)) == (0 : Int)) = !decide (lowBad b (kOf b)) ∧ (6 : Int) = (↑(own (kOf b)) : Int) ∧ [SV.g (Value.int
  IntKind.i64 (3 : Int)), SV.g (Value.int IntKind.i64 (Iq7 b)), SV.g (Value.int IntKind.i64 (Iq8 b)), SV.g (Value.int IntKind.i64 (0 : Int)), SV.g (Value.int IntKind.i64 (0 : Int)), SV.g (Value.int IntKind.i64 (0 : Int)),
  SV.g (Value.int IntKind.i64 (0 : Int)), SV.g (Value.int IntKind.i64 (IntKind.wrap IntKind.i64 (↑(BitVec.toNat (BitVec.ofInt (64 : Nat) (0 : Int) ||| BitVec.ofInt (64 : Nat) (IntKind.wrap IntKind.i64 (byteAt (hOf b) (5 :
  Int))))) : Int))), SV.g (Value.bool false), SV.g (Value.string (ByteArray.mk #[]))] = U.cells (bare0 b (kOf b)) ∧ frow (3 : Nat) = frow (kn (kOf b)) ∧ True)))) ∧ ∀ (x : Unit), φb b → ReadTail b))))
set_option maxHeartbeats 4000000 in
theorem readK3 {b : ByteArray} (hφ : φ0 b) (hk : kOf b = 3) : ReadK3 b := by
  unfold ReadK3 Iq8 Iq7
  have ho : ((own 3 : Nat) : Int) = 6 := by decide
  have hm : (9 : Int) = 6 + 3 := rfl
  have h10 : (1 : Int) ≤ 3 ∧ (3 : Int) ≤ 10 := by decide
  have h4 := hφ.h4
  repeat' first
    | (with_reducible exact readTail (by assumption))
    | (with_reducible apply And.intro)
    | (with_reducible exact trivial)
    | exact cells_uK _
    | (with_reducible exact cells_mk _ _ _ _ _ _ _ _ _ _)
    | (refine (condX_iff _ _ _).2 ⟨fun hE => ?_, fun hF => ?_⟩)
    | (refine Exists.intro () ?_)
    | (intro hI)
  all_goals first
    | with_reducible rfl
    | omega
    | exact rd_err (rdE hφ hk h10 ho hm hE)
    | exact rdB hφ hk h10 ho hm hF
    | (have hF' : rdCond b 6 9 = false := hF
       with_reducible exact rdC hk ho hm hF')
    | (have hG := rdG hk ho hm hF; omega)
    | (simp at hI; omega)
    | exact ok12 hk (by decide)
    | exact okO hk (by decide)
    | exact ok5 hk
    | (rw [hk, ho])
    | (have hG := rdG hk ho hm hF
       rw [hk]
       simp only [or0, or8a, or8b, or8c, low15]
       simp (disch := first | decide | omega) only [U.cells, bare0, partsU, h116, h102, h110, h99, h114, h115, a2, a3, a4, a5, a6, sk, pv_t, nm1, nm2, nm4, decide_true, decide_false, ne_eq, not_true_eq_false, not_false_eq_true, and_true, true_and, and_false, false_and, or_true, true_or, or_false, false_or, Int.reduceEq, Int.reduceLE, and_self, or_self, if_true, if_false]
       rfl)
    | (rw [hk]; rfl)
def Iq9 (b : ByteArray) := (IntKind.wrap IntKind.i64 (↑(BitVec.toNat (BitVec.ofInt (64 : Nat) (IntKind.wrap IntKind.i64 (IntKind.wrap IntKind.i64 (↑(BitVec.toNat (BitVec.ofInt (64 : Nat) (0 : Int) ||| BitVec.ofInt (64 : Nat) (IntKind.wrap
  IntKind.i64 (byteAt (hOf b) (1 : Int))))) : Int) * (256 : Int))) ||| BitVec.ofInt (64 : Nat) (IntKind.wrap IntKind.i64 (byteAt (hOf b) (2 : Int))))) : Int))
def ReadK4 (b : ByteArray) : Prop :=  (0 : Nat) = (0 : Nat) ∧ (116 : Int) = (116 : Int) ∧ U.cells (uK (4 : Int)) = U.cells (U.mk (4 : Int) (0 : Int) (0 : Int) (0 : Int) (0 : Int) (0 : Int) (0 : Int) (0 : Int) false (ByteArray.mk #[])) ∧ True ∧ (True → (0 :
  Nat) = (0 : Nat) ∧ (102 : Int) = (102 : Int) ∧ [SV.g (Value.int IntKind.i64 (4 : Int)), SV.g (Value.int IntKind.i64 (0 : Int)), SV.g (Value.int IntKind.i64 (0 : Int)), SV.g (Value.int IntKind.i64 (0 : Int)), SV.g
  (Value.int IntKind.i64 (0 : Int)), SV.g (Value.int IntKind.i64 (0 : Int)), SV.g (Value.int IntKind.i64 (0 : Int)), SV.g (Value.int IntKind.i64 (0 : Int)), SV.g (Value.bool false), SV.g (Value.string (ByteArray.mk #[]))]
  = U.cells (U.mk (4 : Int) (0 : Int) (0 : Int) (0 : Int) (0 : Int) (0 : Int) (0 : Int) (0 : Int) false (ByteArray.mk #[])) ∧ True ∧ (True → (((!bif false then true else bif (↑(ByteArray.size (hOf b)) : Int) != (5 : Int)
  then !bif true then (↑(ByteArray.size (hOf b)) : Int) == (8 : Int) else false else false) && bif true then (↑(ByteArray.size (hOf b)) : Int) == (8 : Int) else false) = true → (0 : Int) ≤ (5 : Int) ∧ (5 : Int) <
  (↑(ByteArray.size (hOf b)) : Int)) ∧ condX (bif bif false then true else bif (↑(ByteArray.size (hOf b)) : Int) != (5 : Int) then !bif true then (↑(ByteArray.size (hOf b)) : Int) == (8 : Int) else false else false then
  true else bif bif true then (↑(ByteArray.size (hOf b)) : Int) == (8 : Int) else false then byteAt (hOf b) (5 : Int) != (195 : Int) else false) (SV.tup [SV.agg (List.take (10 : Nat) (List.drop (0 : Nat) [SV.g (Value.int
  IntKind.i64 (0 : Int)), SV.g (Value.int IntKind.i64 (0 : Int)), SV.g (Value.int IntKind.i64 (0 : Int)), SV.g (Value.int IntKind.i64 (0 : Int)), SV.g (Value.int IntKind.i64 (0 : Int)), SV.g (Value.int IntKind.i64 (0 :
  Int)), SV.g (Value.int IntKind.i64 (0 : Int)), SV.g (Value.int IntKind.i64 (0 : Int)), SV.g (Value.bool false), SV.g (Value.string (ByteArray.mk #[]))])), SV.g (Value.bool false), SV.g (Value.int IntKind.i64 (4 : Int))]
  = SV.tup [SV.agg (U.cells (Prod.fst (rdT b))), SV.g (Value.bool (Prod.fst (Prod.snd (rdT b)))), SV.g (Value.int IntKind.i64 (Prod.snd (Prod.snd (rdT b))))]) (((0 : Int) ≤ (0 : Int) ∧ (0 : Int) < (↑(ByteArray.size (hOf
  b)) : Int)) ∧ ((0 : Nat) = (0 : Nat) ∧ (116 : Int) = (116 : Int) ∧ [SV.g (Value.int IntKind.i64 (4 : Int)), SV.g (Value.int IntKind.i64 (0 : Int)), SV.g (Value.int IntKind.i64 (0 : Int)), SV.g (Value.int IntKind.i64 (0 :
  Int)), SV.g (Value.int IntKind.i64 (0 : Int)), SV.g (Value.int IntKind.i64 (0 : Int)), SV.g (Value.int IntKind.i64 (0 : Int)), SV.g (Value.int IntKind.i64 (0 : Int)), SV.g (Value.bool false), SV.g (Value.string
  (ByteArray.mk #[]))] = U.cells (U.mk (4 : Int) (0 : Int) (0 : Int) (0 : Int) (0 : Int) (0 : Int) (0 : Int) (0 : Int) false (ByteArray.mk #[])) ∧ True ∧ (True → (0 : Int) ≤ (8 : Int) ∧ ((0 : Int) ≤ (1 : Int) ∧ (1 : Int) <
  (↑(ByteArray.size (hOf b)) : Int)) ∧ (0 : Int) ≤ (8 : Int) ∧ ((0 : Int) ≤ (2 : Int) ∧ (2 : Int) < (↑(ByteArray.size (hOf b)) : Int)) ∧ (0 : Nat) = (0 : Nat) ∧ (102 : Int) = (102 : Int) ∧ [SV.g (Value.int IntKind.i64 (4 :
  Int)), SV.g (Value.int IntKind.i64 (Iq9 b)), SV.g (Value.int IntKind.i64 (0 : Int)), SV.g (Value.int IntKind.i64 (0 : Int)), SV.g (Value.int IntKind.i64 (0 : Int)), SV.g (Value.int IntKind.i64 (0 : Int)), SV.g (Value.int
  IntKind.i64 (0 : Int)), SV.g (Value.int IntKind.i64 (0 : Int)), SV.g (Value.bool false), SV.g (Value.string (ByteArray.mk #[]))] = U.cells (U.mk (4 : Int) (Iq9 b) (0 : Int) (0 : Int) (0 : Int) (0 : Int) (0 : Int) (0 :
  Int) false (ByteArray.mk #[])) ∧ True ∧ (True → (0 : Int) ≤ (8 : Int) ∧ ((0 : Int) ≤ (3 : Int) ∧ (3 : Int) < (↑(ByteArray.size (hOf b)) : Int)) ∧ (0 : Int) ≤ (8 : Int) ∧ ((0 : Int) ≤ (4 : Int) ∧ (4 : Int) <
  (↑(ByteArray.size (hOf b)) : Int)) ∧ ∃ (x : Unit), φb b ∧ b = b ∧ (0 : Nat) = (0 : Nat) ∧ (bif true then (↑(ByteArray.size (hOf b)) : Int) == (8 : Int) else false) = chk (hOf b) (kOf b) ∧ dOf b = dOf b ∧ (0 : Nat) = (0 :
  Nat) ∧ (IntKind.wrap IntKind.i64 (IntKind.wrap IntKind.u8 (↑(BitVec.toNat (BitVec.ofInt (8 : Nat) (byteAt (hOf b) (0 : Int)) &&& BitVec.ofInt (8 : Nat) (15 : Int))) : Int)) == (0 : Int)) = !decide (lowBad b (kOf b)) ∧ (5
  : Int) = (↑(own (kOf b)) : Int) ∧ [SV.g (Value.int IntKind.i64 (4 : Int)), SV.g (Value.int IntKind.i64 (Iq9 b)), SV.g (Value.int IntKind.i64 (IntKind.wrap IntKind.i64 (↑(BitVec.toNat (BitVec.ofInt (64 : Nat)
  (IntKind.wrap IntKind.i64 (IntKind.wrap IntKind.i64 (↑(BitVec.toNat (BitVec.ofInt (64 : Nat) (0 : Int) ||| BitVec.ofInt (64 : Nat) (IntKind.wrap IntKind.i64 (byteAt (hOf b) (3 : Int))))) : Int) * (256 : Int))) |||
  BitVec.ofInt (64 : Nat) (IntKind.wrap IntKind.i64 (byteAt (hOf b) (4 : Int))))) : Int))), SV.g (Value.int IntKind.i64 (0 : Int)), SV.g (Value.int IntKind.i64 (0 : Int)), SV.g (Value.int IntKind.i64 (0 : Int)), SV.g
  (Value.int IntKind.i64 (0 : Int)), SV.g (Value.int IntKind.i64 (0 : Int)), SV.g (Value.bool false), SV.g (Value.string (ByteArray.mk #[]))] = U.cells (bare0 b (kOf b)) ∧ frow (4 : Nat) = frow (kn (kOf b)) ∧ True))) ∧ ∀
  (x : Unit), φb b → ReadTail b)))
set_option maxHeartbeats 4000000 in
theorem readK4 {b : ByteArray} (hφ : φ0 b) (hk : kOf b = 4) : ReadK4 b := by
  unfold ReadK4 Iq9
  have ho : ((own 4 : Nat) : Int) = 5 := by decide
  have hm : (8 : Int) = 5 + 3 := rfl
  have h10 : (1 : Int) ≤ 4 ∧ (4 : Int) ≤ 10 := by decide
  have h4 := hφ.h4
  repeat' first
    | (with_reducible exact readTail (by assumption))
    | (with_reducible apply And.intro)
    | (with_reducible exact trivial)
    | exact cells_uK _
    | (with_reducible exact cells_mk _ _ _ _ _ _ _ _ _ _)
    | (refine (condX_iff _ _ _).2 ⟨fun hE => ?_, fun hF => ?_⟩)
    | (refine Exists.intro () ?_)
    | (intro hI)
  all_goals first
    | with_reducible rfl
    | omega
    | exact rd_err (rdE hφ hk h10 ho hm hE)
    | exact rdB hφ hk h10 ho hm hF
    | (have hF' : rdCond b 5 8 = false := hF
       with_reducible exact rdC hk ho hm hF')
    | (have hG := rdG hk ho hm hF; omega)
    | (simp at hI; omega)
    | exact ok12 hk (by decide)
    | exact okO hk (by decide)
    | exact ok5 hk
    | (rw [hk, ho])
    | (have hG := rdG hk ho hm hF
       rw [hk]
       simp only [or0, or8a, or8b, or8c, low15]
       simp (disch := first | decide | omega) only [U.cells, bare0, partsU, h116, h102, h110, h99, h114, h115, a2, a3, a4, a5, a6, sk, pv_t, nm1, nm2, nm4, decide_true, decide_false, ne_eq, not_true_eq_false, not_false_eq_true, and_true, true_and, and_false, false_and, or_true, true_or, or_false, false_or, Int.reduceEq, Int.reduceLE, and_self, or_self, if_true, if_false]
       rfl)
    | (rw [hk]; rfl)
def Iq10 (b : ByteArray) := (IntKind.wrap IntKind.i64 (↑(BitVec.toNat (BitVec.ofInt (64 : Nat) (IntKind.wrap IntKind.i64 (IntKind.wrap IntKind.i64 (↑(BitVec.toNat (BitVec.ofInt (64 : Nat) (0 : Int) ||| BitVec.ofInt (64 : Nat) (IntKind.wrap
  IntKind.i64 (byteAt (hOf b) (1 : Int))))) : Int) * (256 : Int))) ||| BitVec.ofInt (64 : Nat) (IntKind.wrap IntKind.i64 (byteAt (hOf b) (2 : Int))))) : Int))
def Iq11 (b : ByteArray) := (IntKind.wrap IntKind.i64 (IntKind.wrap IntKind.u8 (↑(BitVec.toNat (BitVec.ofInt (8 : Nat) (byteAt (hOf b) (0 : Int)) &&& BitVec.ofInt (8 : Nat) (15 : Int))) : Int)) == (1 : Int))
def ReadK5 (b : ByteArray) : Prop :=  (0 : Nat) = (0 : Nat) ∧ (116 : Int) = (116 : Int) ∧ U.cells (uK (5 : Int)) = U.cells (U.mk (5 : Int) (0 : Int) (0 : Int) (0 : Int) (0 : Int) (0 : Int) (0 : Int) (0 : Int) false (ByteArray.mk #[])) ∧ True ∧ (True → (0 :
  Nat) = (0 : Nat) ∧ (110 : Int) = (110 : Int) ∧ [SV.g (Value.int IntKind.i64 (5 : Int)), SV.g (Value.int IntKind.i64 (0 : Int)), SV.g (Value.int IntKind.i64 (0 : Int)), SV.g (Value.int IntKind.i64 (0 : Int)), SV.g
  (Value.int IntKind.i64 (0 : Int)), SV.g (Value.int IntKind.i64 (0 : Int)), SV.g (Value.int IntKind.i64 (0 : Int)), SV.g (Value.int IntKind.i64 (0 : Int)), SV.g (Value.bool false), SV.g (Value.string (ByteArray.mk #[]))]
  = U.cells (U.mk (5 : Int) (0 : Int) (0 : Int) (0 : Int) (0 : Int) (0 : Int) (0 : Int) (0 : Int) false (ByteArray.mk #[])) ∧ True ∧ (True → (((!bif false then true else bif (↑(ByteArray.size (hOf b)) : Int) != (7 : Int)
  then !bif true then (↑(ByteArray.size (hOf b)) : Int) == (10 : Int) else false else false) && bif true then (↑(ByteArray.size (hOf b)) : Int) == (10 : Int) else false) = true → (0 : Int) ≤ (7 : Int) ∧ (7 : Int) <
  (↑(ByteArray.size (hOf b)) : Int)) ∧ condX (bif bif false then true else bif (↑(ByteArray.size (hOf b)) : Int) != (7 : Int) then !bif true then (↑(ByteArray.size (hOf b)) : Int) == (10 : Int) else false else false then
  true else bif bif true then (↑(ByteArray.size (hOf b)) : Int) == (10 : Int) else false then byteAt (hOf b) (7 : Int) != (195 : Int) else false) (SV.tup [SV.agg (List.take (10 : Nat) (List.drop (0 : Nat) [SV.g (Value.int
  IntKind.i64 (0 : Int)), SV.g (Value.int IntKind.i64 (0 : Int)), SV.g (Value.int IntKind.i64 (0 : Int)), SV.g (Value.int IntKind.i64 (0 : Int)), SV.g (Value.int IntKind.i64 (0 : Int)), SV.g (Value.int IntKind.i64 (0 :
  Int)), SV.g (Value.int IntKind.i64 (0 : Int)), SV.g (Value.int IntKind.i64 (0 : Int)), SV.g (Value.bool false), SV.g (Value.string (ByteArray.mk #[]))])), SV.g (Value.bool false), SV.g (Value.int IntKind.i64 (4 : Int))]
  = SV.tup [SV.agg (U.cells (Prod.fst (rdT b))), SV.g (Value.bool (Prod.fst (Prod.snd (rdT b)))), SV.g (Value.int IntKind.i64 (Prod.snd (Prod.snd (rdT b))))]) (((0 : Int) ≤ (0 : Int) ∧ (0 : Int) < (↑(ByteArray.size (hOf
  b)) : Int)) ∧ ((0 : Nat) = (0 : Nat) ∧ (116 : Int) = (116 : Int) ∧ [SV.g (Value.int IntKind.i64 (5 : Int)), SV.g (Value.int IntKind.i64 (0 : Int)), SV.g (Value.int IntKind.i64 (0 : Int)), SV.g (Value.int IntKind.i64 (0 :
  Int)), SV.g (Value.int IntKind.i64 (0 : Int)), SV.g (Value.int IntKind.i64 (0 : Int)), SV.g (Value.int IntKind.i64 (0 : Int)), SV.g (Value.int IntKind.i64 (0 : Int)), SV.g (Value.bool (Iq11 b)), SV.g (Value.string
  (ByteArray.mk #[]))] = U.cells (U.mk (5 : Int) (0 : Int) (0 : Int) (0 : Int) (0 : Int) (0 : Int) (0 : Int) (0 : Int) (Iq11 b) (ByteArray.mk #[])) ∧ True ∧ (True → (0 : Int) ≤ (8 : Int) ∧ ((0 : Int) ≤ (1 : Int) ∧ (1 :
  Int) < (↑(ByteArray.size (hOf b)) : Int)) ∧ (0 : Int) ≤ (8 : Int) ∧ ((0 : Int) ≤ (2 : Int) ∧ (2 : Int) < (↑(ByteArray.size (hOf b)) : Int)) ∧ (0 : Nat) = (0 : Nat) ∧ (110 : Int) = (110 : Int) ∧ [SV.g (Value.int
  IntKind.i64 (5 : Int)), SV.g (Value.int IntKind.i64 (Iq10 b)), SV.g (Value.int IntKind.i64 (0 : Int)), SV.g (Value.int IntKind.i64 (0 : Int)), SV.g (Value.int IntKind.i64 (0 : Int)), SV.g (Value.int IntKind.i64 (0 :
  Int)), SV.g (Value.int IntKind.i64 (0 : Int)), SV.g (Value.int IntKind.i64 (0 : Int)), SV.g (Value.bool (Iq11 b)), SV.g (Value.string (ByteArray.mk #[]))] = U.cells (U.mk (5 : Int) (Iq10 b) (0 : Int) (0 : Int) (0 : Int)
  (0 : Int) (0 : Int) (0 : Int) (Iq11 b) (ByteArray.mk #[])) ∧ True ∧ (True → (0 : Int) ≤ (8 : Int) ∧ ((0 : Int) ≤ (3 : Int) ∧ (3 : Int) < (↑(ByteArray.size (hOf b)) : Int)) ∧ (0 : Int) ≤ (8 : Int) ∧ ((0 : Int) ≤ (4 : Int)
  ∧ (4 : Int) < (↑(ByteArray.size (hOf b)) : Int)) ∧ (0 : Int) ≤ (8 : Int) ∧ ((0 : Int) ≤ (5 : Int) ∧ (5 : Int) < (↑(ByteArray.size (hOf b)) : Int)) ∧ (0 : Int) ≤ (8 : Int) ∧ ((0 : Int) ≤ (6 : Int) ∧ (6 : Int) <
  (↑(ByteArray.size (hOf b)) : Int)) ∧ ∃ (x : Unit), φb b ∧ b = b ∧ (0 : Nat) = (0 : Nat) ∧ (bif true then (↑(ByteArray.size (hOf b)) : Int) == (10 : Int) else false) = chk (hOf b) (kOf b) ∧ dOf b = dOf b ∧ (0 : Nat) = (0
  : Nat) ∧ (IntKind.wrap IntKind.i64 (↑(BitVec.toNat (BitVec.ofInt (64 : Nat) (IntKind.wrap IntKind.i64 (IntKind.wrap IntKind.u8 (↑(BitVec.toNat (BitVec.ofInt (8 : Nat) (byteAt (hOf b) (0 : Int)) &&& BitVec.ofInt (8 : Nat)
  (15 : Int))) : Int))) &&& ~~~BitVec.ofInt (64 : Nat) (1 : Int))) : Int) == (0 : Int)) = !decide (lowBad b (kOf b)) ∧ (7 : Int) = (↑(own (kOf b)) : Int) ∧ [SV.g (Value.int IntKind.i64 (5 : Int)), SV.g (Value.int
  IntKind.i64 (Iq10 b)), SV.g (Value.int IntKind.i64 (0 : Int)), SV.g (Value.int IntKind.i64 (0 : Int)), SV.g (Value.int IntKind.i64 (0 : Int)), SV.g (Value.int IntKind.i64 (IntKind.wrap IntKind.i64 (↑(BitVec.toNat
  (BitVec.ofInt (64 : Nat) (IntKind.wrap IntKind.i64 (IntKind.wrap IntKind.i64 (↑(BitVec.toNat (BitVec.ofInt (64 : Nat) (IntKind.wrap IntKind.i64 (IntKind.wrap IntKind.i64 (↑(BitVec.toNat (BitVec.ofInt (64 : Nat)
  (IntKind.wrap IntKind.i64 (IntKind.wrap IntKind.i64 (↑(BitVec.toNat (BitVec.ofInt (64 : Nat) (0 : Int) ||| BitVec.ofInt (64 : Nat) (IntKind.wrap IntKind.i64 (byteAt (hOf b) (3 : Int))))) : Int) * (256 : Int))) |||
  BitVec.ofInt (64 : Nat) (IntKind.wrap IntKind.i64 (byteAt (hOf b) (4 : Int))))) : Int) * (256 : Int))) ||| BitVec.ofInt (64 : Nat) (IntKind.wrap IntKind.i64 (byteAt (hOf b) (5 : Int))))) : Int) * (256 : Int))) |||
  BitVec.ofInt (64 : Nat) (IntKind.wrap IntKind.i64 (byteAt (hOf b) (6 : Int))))) : Int))), SV.g (Value.int IntKind.i64 (0 : Int)), SV.g (Value.int IntKind.i64 (0 : Int)), SV.g (Value.bool (Iq11 b)), SV.g (Value.string
  (ByteArray.mk #[]))] = U.cells (bare0 b (kOf b)) ∧ frow (5 : Nat) = frow (kn (kOf b)) ∧ True))) ∧ ∀ (x : Unit), φb b → ReadTail b)))
set_option maxHeartbeats 4000000 in
theorem readK5 {b : ByteArray} (hφ : φ0 b) (hk : kOf b = 5) : ReadK5 b := by
  unfold ReadK5 Iq11 Iq10
  have ho : ((own 5 : Nat) : Int) = 7 := by decide
  have hm : (10 : Int) = 7 + 3 := rfl
  have h10 : (1 : Int) ≤ 5 ∧ (5 : Int) ≤ 10 := by decide
  have h4 := hφ.h4
  repeat' first
    | (with_reducible exact readTail (by assumption))
    | (with_reducible apply And.intro)
    | (with_reducible exact trivial)
    | exact cells_uK _
    | (with_reducible exact cells_mk _ _ _ _ _ _ _ _ _ _)
    | (refine (condX_iff _ _ _).2 ⟨fun hE => ?_, fun hF => ?_⟩)
    | (refine Exists.intro () ?_)
    | (intro hI)
  all_goals first
    | with_reducible rfl
    | omega
    | exact rd_err (rdE hφ hk h10 ho hm hE)
    | exact rdB hφ hk h10 ho hm hF
    | (have hF' : rdCond b 7 10 = false := hF
       with_reducible exact rdC hk ho hm hF')
    | (have hG := rdG hk ho hm hF; omega)
    | (simp at hI; omega)
    | exact ok12 hk (by decide)
    | exact okO hk (by decide)
    | exact ok5 hk
    | (rw [hk, ho])
    | (have hG := rdG hk ho hm hF
       rw [hk]
       simp only [or0, or8a, or8b, or8c, low15]
       simp (disch := first | decide | omega) only [U.cells, bare0, partsU, h116, h102, h110, h99, h114, h115, a2, a3, a4, a5, a6, sk, pv_t, nm1, nm2, nm4, decide_true, decide_false, ne_eq, not_true_eq_false, not_false_eq_true, and_true, true_and, and_false, false_and, or_true, true_or, or_false, false_or, Int.reduceEq, Int.reduceLE, and_self, or_self, if_true, if_false]
       rfl)
    | (rw [hk]; rfl)
def Iq12 (b : ByteArray) := (IntKind.wrap IntKind.i64 (↑(BitVec.toNat (BitVec.ofInt (64 : Nat) (IntKind.wrap IntKind.i64 (IntKind.wrap IntKind.i64 (↑(BitVec.toNat (BitVec.ofInt (64 : Nat) (IntKind.wrap IntKind.i64 (IntKind.wrap IntKind.i64
  (↑(BitVec.toNat (BitVec.ofInt (64 : Nat) (IntKind.wrap IntKind.i64 (IntKind.wrap IntKind.i64 (↑(BitVec.toNat (BitVec.ofInt (64 : Nat) (0 : Int) ||| BitVec.ofInt (64 : Nat) (IntKind.wrap IntKind.i64 (byteAt (hOf b) (3 :
  Int))))) : Int) * (256 : Int))) ||| BitVec.ofInt (64 : Nat) (IntKind.wrap IntKind.i64 (byteAt (hOf b) (4 : Int))))) : Int) * (256 : Int))) ||| BitVec.ofInt (64 : Nat) (IntKind.wrap IntKind.i64 (byteAt (hOf b) (5 :
  Int))))) : Int) * (256 : Int))) ||| BitVec.ofInt (64 : Nat) (IntKind.wrap IntKind.i64 (byteAt (hOf b) (6 : Int))))) : Int))
def Iq13 (b : ByteArray) := (IntKind.wrap IntKind.i64 (↑(BitVec.toNat (BitVec.ofInt (64 : Nat) (IntKind.wrap IntKind.i64 (IntKind.wrap IntKind.i64 (↑(BitVec.toNat (BitVec.ofInt (64 : Nat) (0 : Int) ||| BitVec.ofInt (64 : Nat) (IntKind.wrap
  IntKind.i64 (byteAt (hOf b) (1 : Int))))) : Int) * (256 : Int))) ||| BitVec.ofInt (64 : Nat) (IntKind.wrap IntKind.i64 (byteAt (hOf b) (2 : Int))))) : Int))
def ReadK6 (b : ByteArray) : Prop :=  (0 : Nat) = (0 : Nat) ∧ (116 : Int) = (116 : Int) ∧ U.cells (uK (6 : Int)) = U.cells (U.mk (6 : Int) (0 : Int) (0 : Int) (0 : Int) (0 : Int) (0 : Int) (0 : Int) (0 : Int) false (ByteArray.mk #[])) ∧ True ∧ (True → (0 :
  Nat) = (0 : Nat) ∧ (110 : Int) = (110 : Int) ∧ [SV.g (Value.int IntKind.i64 (6 : Int)), SV.g (Value.int IntKind.i64 (0 : Int)), SV.g (Value.int IntKind.i64 (0 : Int)), SV.g (Value.int IntKind.i64 (0 : Int)), SV.g
  (Value.int IntKind.i64 (0 : Int)), SV.g (Value.int IntKind.i64 (0 : Int)), SV.g (Value.int IntKind.i64 (0 : Int)), SV.g (Value.int IntKind.i64 (0 : Int)), SV.g (Value.bool false), SV.g (Value.string (ByteArray.mk #[]))]
  = U.cells (U.mk (6 : Int) (0 : Int) (0 : Int) (0 : Int) (0 : Int) (0 : Int) (0 : Int) (0 : Int) false (ByteArray.mk #[])) ∧ True ∧ (True → (0 : Nat) = (0 : Nat) ∧ (99 : Int) = (99 : Int) ∧ [SV.g (Value.int IntKind.i64 (6
  : Int)), SV.g (Value.int IntKind.i64 (0 : Int)), SV.g (Value.int IntKind.i64 (0 : Int)), SV.g (Value.int IntKind.i64 (0 : Int)), SV.g (Value.int IntKind.i64 (0 : Int)), SV.g (Value.int IntKind.i64 (0 : Int)), SV.g
  (Value.int IntKind.i64 (0 : Int)), SV.g (Value.int IntKind.i64 (0 : Int)), SV.g (Value.bool false), SV.g (Value.string (ByteArray.mk #[]))] = U.cells (U.mk (6 : Int) (0 : Int) (0 : Int) (0 : Int) (0 : Int) (0 : Int) (0 :
  Int) (0 : Int) false (ByteArray.mk #[])) ∧ True ∧ (True → (((!bif false then true else bif (↑(ByteArray.size (hOf b)) : Int) != (8 : Int) then !bif true then (↑(ByteArray.size (hOf b)) : Int) == (11 : Int) else false
  else false) && bif true then (↑(ByteArray.size (hOf b)) : Int) == (11 : Int) else false) = true → (0 : Int) ≤ (8 : Int) ∧ (8 : Int) < (↑(ByteArray.size (hOf b)) : Int)) ∧ condX (bif bif false then true else bif
  (↑(ByteArray.size (hOf b)) : Int) != (8 : Int) then !bif true then (↑(ByteArray.size (hOf b)) : Int) == (11 : Int) else false else false then true else bif bif true then (↑(ByteArray.size (hOf b)) : Int) == (11 : Int)
  else false then byteAt (hOf b) (8 : Int) != (195 : Int) else false) (SV.tup [SV.agg (List.take (10 : Nat) (List.drop (0 : Nat) [SV.g (Value.int IntKind.i64 (0 : Int)), SV.g (Value.int IntKind.i64 (0 : Int)), SV.g
  (Value.int IntKind.i64 (0 : Int)), SV.g (Value.int IntKind.i64 (0 : Int)), SV.g (Value.int IntKind.i64 (0 : Int)), SV.g (Value.int IntKind.i64 (0 : Int)), SV.g (Value.int IntKind.i64 (0 : Int)), SV.g (Value.int
  IntKind.i64 (0 : Int)), SV.g (Value.bool false), SV.g (Value.string (ByteArray.mk #[]))])), SV.g (Value.bool false), SV.g (Value.int IntKind.i64 (4 : Int))] = SV.tup [SV.agg (U.cells (Prod.fst (rdT b))), SV.g (Value.bool
  (Prod.fst (Prod.snd (rdT b)))), SV.g (Value.int IntKind.i64 (Prod.snd (Prod.snd (rdT b))))]) (((0 : Int) ≤ (0 : Int) ∧ (0 : Int) < (↑(ByteArray.size (hOf b)) : Int)) ∧ ((0 : Nat) = (0 : Nat) ∧ (116 : Int) = (116 : Int) ∧
  [SV.g (Value.int IntKind.i64 (6 : Int)), SV.g (Value.int IntKind.i64 (0 : Int)), SV.g (Value.int IntKind.i64 (0 : Int)), SV.g (Value.int IntKind.i64 (0 : Int)), SV.g (Value.int IntKind.i64 (0 : Int)), SV.g (Value.int
  IntKind.i64 (0 : Int)), SV.g (Value.int IntKind.i64 (0 : Int)), SV.g (Value.int IntKind.i64 (0 : Int)), SV.g (Value.bool false), SV.g (Value.string (ByteArray.mk #[]))] = U.cells (U.mk (6 : Int) (0 : Int) (0 : Int) (0 :
  Int) (0 : Int) (0 : Int) (0 : Int) (0 : Int) false (ByteArray.mk #[])) ∧ True ∧ (True → (0 : Int) ≤ (8 : Int) ∧ ((0 : Int) ≤ (1 : Int) ∧ (1 : Int) < (↑(ByteArray.size (hOf b)) : Int)) ∧ (0 : Int) ≤ (8 : Int) ∧ ((0 : Int)
  ≤ (2 : Int) ∧ (2 : Int) < (↑(ByteArray.size (hOf b)) : Int)) ∧ (0 : Nat) = (0 : Nat) ∧ (110 : Int) = (110 : Int) ∧ [SV.g (Value.int IntKind.i64 (6 : Int)), SV.g (Value.int IntKind.i64 (Iq13 b)), SV.g (Value.int
  IntKind.i64 (0 : Int)), SV.g (Value.int IntKind.i64 (0 : Int)), SV.g (Value.int IntKind.i64 (0 : Int)), SV.g (Value.int IntKind.i64 (0 : Int)), SV.g (Value.int IntKind.i64 (0 : Int)), SV.g (Value.int IntKind.i64 (0 :
  Int)), SV.g (Value.bool false), SV.g (Value.string (ByteArray.mk #[]))] = U.cells (U.mk (6 : Int) (Iq13 b) (0 : Int) (0 : Int) (0 : Int) (0 : Int) (0 : Int) (0 : Int) false (ByteArray.mk #[])) ∧ True ∧ (True → (0 : Int)
  ≤ (8 : Int) ∧ ((0 : Int) ≤ (3 : Int) ∧ (3 : Int) < (↑(ByteArray.size (hOf b)) : Int)) ∧ (0 : Int) ≤ (8 : Int) ∧ ((0 : Int) ≤ (4 : Int) ∧ (4 : Int) < (↑(ByteArray.size (hOf b)) : Int)) ∧ (0 : Int) ≤ (8 : Int) ∧ ((0 : Int)
  ≤ (5 : Int) ∧ (5 : Int) < (↑(ByteArray.size (hOf b)) : Int)) ∧ (0 : Int) ≤ (8 : Int) ∧ ((0 : Int) ≤ (6 : Int) ∧ (6 : Int) < (↑(ByteArray.size (hOf b)) : Int)) ∧ (0 : Nat) = (0 : Nat) ∧ (99 : Int) = (99 : Int) ∧ [SV.g
  (Value.int IntKind.i64 (6 : Int)), SV.g (Value.int IntKind.i64 (Iq13 b)), SV.g (Value.int IntKind.i64 (0 : Int)), SV.g (Value.int IntKind.i64 (0 : Int)), SV.g (Value.int IntKind.i64 (0 : Int)), SV.g (Value.int
  IntKind.i64 (Iq12 b)), SV.g (Value.int IntKind.i64 (0 : Int)), SV.g (Value.int IntKind.i64 (0 : Int)), SV.g (Value.bool false), SV.g (Value.string (ByteArray.mk #[]))] = U.cells (U.mk (6 : Int) (Iq13 b) (0 : Int) (0 :
  Int) (0 : Int) (Iq12 b) (0 : Int) (0 : Int) false (ByteArray.mk #[])) ∧ True ∧ (True → (0 : Int) ≤ (8 : Int) ∧ ((0 : Int) ≤ (7 : Int) ∧ (7 : Int) < (↑(ByteArray.size (hOf b)) : Int)) ∧ ∃ (x : Unit), φb b ∧ b = b ∧ (0 :
  Nat) = (0 : Nat) ∧ (bif true then (↑(ByteArray.size (hOf b)) : Int) == (11 : Int) else false) = chk (hOf b) (kOf b) ∧ dOf b = dOf b ∧ (0 : Nat) = (0 : Nat) ∧ (IntKind.wrap IntKind.i64 (IntKind.wrap IntKind.u8
  (↑(BitVec.toNat (BitVec.ofInt (8 : Nat) (byteAt (hOf b) (0 : Int)) &&& BitVec.ofInt (8 : Nat) (15 : Int))) : Int)) == (0 : Int)) = !decide (lowBad b (kOf b)) ∧ (8 : Int) = (↑(own (kOf b)) : Int) ∧ [SV.g (Value.int
  IntKind.i64 (6 : Int)), SV.g (Value.int IntKind.i64 (Iq13 b)), SV.g (Value.int IntKind.i64 (0 : Int)), SV.g (Value.int IntKind.i64 (0 : Int)), SV.g (Value.int IntKind.i64 (0 : Int)), SV.g (Value.int IntKind.i64 (Iq12
  b)), SV.g (Value.int IntKind.i64 (IntKind.wrap IntKind.i64 (↑(BitVec.toNat (BitVec.ofInt (64 : Nat) (0 : Int) ||| BitVec.ofInt (64 : Nat) (IntKind.wrap IntKind.i64 (byteAt (hOf b) (7 : Int))))) : Int))), SV.g (Value.int
  IntKind.i64 (0 : Int)), SV.g (Value.bool false), SV.g (Value.string (ByteArray.mk #[]))] = U.cells (bare0 b (kOf b)) ∧ frow (6 : Nat) = frow (kn (kOf b)) ∧ True)))) ∧ ∀ (x : Unit), φb b → ReadTail b))))
set_option maxHeartbeats 4000000 in
theorem readK6 {b : ByteArray} (hφ : φ0 b) (hk : kOf b = 6) : ReadK6 b := by
  unfold ReadK6 Iq13 Iq12
  have ho : ((own 6 : Nat) : Int) = 8 := by decide
  have hm : (11 : Int) = 8 + 3 := rfl
  have h10 : (1 : Int) ≤ 6 ∧ (6 : Int) ≤ 10 := by decide
  have h4 := hφ.h4
  repeat' first
    | (with_reducible exact readTail (by assumption))
    | (with_reducible apply And.intro)
    | (with_reducible exact trivial)
    | exact cells_uK _
    | (with_reducible exact cells_mk _ _ _ _ _ _ _ _ _ _)
    | (refine (condX_iff _ _ _).2 ⟨fun hE => ?_, fun hF => ?_⟩)
    | (refine Exists.intro () ?_)
    | (intro hI)
  all_goals first
    | with_reducible rfl
    | omega
    | exact rd_err (rdE hφ hk h10 ho hm hE)
    | exact rdB hφ hk h10 ho hm hF
    | (have hF' : rdCond b 8 11 = false := hF
       with_reducible exact rdC hk ho hm hF')
    | (have hG := rdG hk ho hm hF; omega)
    | (simp at hI; omega)
    | exact ok12 hk (by decide)
    | exact okO hk (by decide)
    | exact ok5 hk
    | (rw [hk, ho])
    | (have hG := rdG hk ho hm hF
       rw [hk]
       simp only [or0, or8a, or8b, or8c, low15]
       simp (disch := first | decide | omega) only [U.cells, bare0, partsU, h116, h102, h110, h99, h114, h115, a2, a3, a4, a5, a6, sk, pv_t, nm1, nm2, nm4, decide_true, decide_false, ne_eq, not_true_eq_false, not_false_eq_true, and_true, true_and, and_false, false_and, or_true, true_or, or_false, false_or, Int.reduceEq, Int.reduceLE, and_self, or_self, if_true, if_false]
       rfl)
    | (rw [hk]; rfl)
def Iq14 (b : ByteArray) := (IntKind.wrap IntKind.i64 (↑(BitVec.toNat (BitVec.ofInt (64 : Nat) (IntKind.wrap IntKind.i64 (IntKind.wrap IntKind.i64 (↑(BitVec.toNat (BitVec.ofInt (64 : Nat) (IntKind.wrap IntKind.i64 (IntKind.wrap IntKind.i64
  (↑(BitVec.toNat (BitVec.ofInt (64 : Nat) (IntKind.wrap IntKind.i64 (IntKind.wrap IntKind.i64 (↑(BitVec.toNat (BitVec.ofInt (64 : Nat) (0 : Int) ||| BitVec.ofInt (64 : Nat) (IntKind.wrap IntKind.i64 (byteAt (hOf b) (3 :
  Int))))) : Int) * (256 : Int))) ||| BitVec.ofInt (64 : Nat) (IntKind.wrap IntKind.i64 (byteAt (hOf b) (4 : Int))))) : Int) * (256 : Int))) ||| BitVec.ofInt (64 : Nat) (IntKind.wrap IntKind.i64 (byteAt (hOf b) (5 :
  Int))))) : Int) * (256 : Int))) ||| BitVec.ofInt (64 : Nat) (IntKind.wrap IntKind.i64 (byteAt (hOf b) (6 : Int))))) : Int))
def Iq15 (b : ByteArray) := (IntKind.wrap IntKind.i64 (↑(BitVec.toNat (BitVec.ofInt (64 : Nat) (IntKind.wrap IntKind.i64 (IntKind.wrap IntKind.i64 (↑(BitVec.toNat (BitVec.ofInt (64 : Nat) (0 : Int) ||| BitVec.ofInt (64 : Nat) (IntKind.wrap
  IntKind.i64 (byteAt (hOf b) (1 : Int))))) : Int) * (256 : Int))) ||| BitVec.ofInt (64 : Nat) (IntKind.wrap IntKind.i64 (byteAt (hOf b) (2 : Int))))) : Int))
def ReadK7 (b : ByteArray) : Prop :=  (0 : Nat) = (0 : Nat) ∧ (116 : Int) = (116 : Int) ∧ U.cells (uK (7 : Int)) = U.cells (U.mk (7 : Int) (0 : Int) (0 : Int) (0 : Int) (0 : Int) (0 : Int) (0 : Int) (0 : Int) false (ByteArray.mk #[])) ∧ True ∧ (True → (0 :
  Nat) = (0 : Nat) ∧ (110 : Int) = (110 : Int) ∧ [SV.g (Value.int IntKind.i64 (7 : Int)), SV.g (Value.int IntKind.i64 (0 : Int)), SV.g (Value.int IntKind.i64 (0 : Int)), SV.g (Value.int IntKind.i64 (0 : Int)), SV.g
  (Value.int IntKind.i64 (0 : Int)), SV.g (Value.int IntKind.i64 (0 : Int)), SV.g (Value.int IntKind.i64 (0 : Int)), SV.g (Value.int IntKind.i64 (0 : Int)), SV.g (Value.bool false), SV.g (Value.string (ByteArray.mk #[]))]
  = U.cells (U.mk (7 : Int) (0 : Int) (0 : Int) (0 : Int) (0 : Int) (0 : Int) (0 : Int) (0 : Int) false (ByteArray.mk #[])) ∧ True ∧ (True → (0 : Nat) = (0 : Nat) ∧ (99 : Int) = (99 : Int) ∧ [SV.g (Value.int IntKind.i64 (7
  : Int)), SV.g (Value.int IntKind.i64 (0 : Int)), SV.g (Value.int IntKind.i64 (0 : Int)), SV.g (Value.int IntKind.i64 (0 : Int)), SV.g (Value.int IntKind.i64 (0 : Int)), SV.g (Value.int IntKind.i64 (0 : Int)), SV.g
  (Value.int IntKind.i64 (0 : Int)), SV.g (Value.int IntKind.i64 (0 : Int)), SV.g (Value.bool false), SV.g (Value.string (ByteArray.mk #[]))] = U.cells (U.mk (7 : Int) (0 : Int) (0 : Int) (0 : Int) (0 : Int) (0 : Int) (0 :
  Int) (0 : Int) false (ByteArray.mk #[])) ∧ True ∧ (True → (((!bif false then true else bif (↑(ByteArray.size (hOf b)) : Int) != (8 : Int) then !bif true then (↑(ByteArray.size (hOf b)) : Int) == (11 : Int) else false
  else false) && bif true then (↑(ByteArray.size (hOf b)) : Int) == (11 : Int) else false) = true → (0 : Int) ≤ (8 : Int) ∧ (8 : Int) < (↑(ByteArray.size (hOf b)) : Int)) ∧ condX (bif bif false then true else bif
  (↑(ByteArray.size (hOf b)) : Int) != (8 : Int) then !bif true then (↑(ByteArray.size (hOf b)) : Int) == (11 : Int) else false else false then true else bif bif true then (↑(ByteArray.size (hOf b)) : Int) == (11 : Int)
  else false then byteAt (hOf b) (8 : Int) != (195 : Int) else false) (SV.tup [SV.agg (List.take (10 : Nat) (List.drop (0 : Nat) [SV.g (Value.int IntKind.i64 (0 : Int)), SV.g (Value.int IntKind.i64 (0 : Int)), SV.g
  (Value.int IntKind.i64 (0 : Int)), SV.g (Value.int IntKind.i64 (0 : Int)), SV.g (Value.int IntKind.i64 (0 : Int)), SV.g (Value.int IntKind.i64 (0 : Int)), SV.g (Value.int IntKind.i64 (0 : Int)), SV.g (Value.int
  IntKind.i64 (0 : Int)), SV.g (Value.bool false), SV.g (Value.string (ByteArray.mk #[]))])), SV.g (Value.bool false), SV.g (Value.int IntKind.i64 (4 : Int))] = SV.tup [SV.agg (U.cells (Prod.fst (rdT b))), SV.g (Value.bool
  (Prod.fst (Prod.snd (rdT b)))), SV.g (Value.int IntKind.i64 (Prod.snd (Prod.snd (rdT b))))]) (((0 : Int) ≤ (0 : Int) ∧ (0 : Int) < (↑(ByteArray.size (hOf b)) : Int)) ∧ ((0 : Nat) = (0 : Nat) ∧ (116 : Int) = (116 : Int) ∧
  [SV.g (Value.int IntKind.i64 (7 : Int)), SV.g (Value.int IntKind.i64 (0 : Int)), SV.g (Value.int IntKind.i64 (0 : Int)), SV.g (Value.int IntKind.i64 (0 : Int)), SV.g (Value.int IntKind.i64 (0 : Int)), SV.g (Value.int
  IntKind.i64 (0 : Int)), SV.g (Value.int IntKind.i64 (0 : Int)), SV.g (Value.int IntKind.i64 (0 : Int)), SV.g (Value.bool false), SV.g (Value.string (ByteArray.mk #[]))] = U.cells (U.mk (7 : Int) (0 : Int) (0 : Int) (0 :
  Int) (0 : Int) (0 : Int) (0 : Int) (0 : Int) false (ByteArray.mk #[])) ∧ True ∧ (True → (0 : Int) ≤ (8 : Int) ∧ ((0 : Int) ≤ (1 : Int) ∧ (1 : Int) < (↑(ByteArray.size (hOf b)) : Int)) ∧ (0 : Int) ≤ (8 : Int) ∧ ((0 : Int)
  ≤ (2 : Int) ∧ (2 : Int) < (↑(ByteArray.size (hOf b)) : Int)) ∧ (0 : Nat) = (0 : Nat) ∧ (110 : Int) = (110 : Int) ∧ [SV.g (Value.int IntKind.i64 (7 : Int)), SV.g (Value.int IntKind.i64 (Iq15 b)), SV.g (Value.int
  IntKind.i64 (0 : Int)), SV.g (Value.int IntKind.i64 (0 : Int)), SV.g (Value.int IntKind.i64 (0 : Int)), SV.g (Value.int IntKind.i64 (0 : Int)), SV.g (Value.int IntKind.i64 (0 : Int)), SV.g (Value.int IntKind.i64 (0 :
  Int)), SV.g (Value.bool false), SV.g (Value.string (ByteArray.mk #[]))] = U.cells (U.mk (7 : Int) (Iq15 b) (0 : Int) (0 : Int) (0 : Int) (0 : Int) (0 : Int) (0 : Int) false (ByteArray.mk #[])) ∧ True ∧ (True → (0 : Int)
  ≤ (8 : Int) ∧ ((0 : Int) ≤ (3 : Int) ∧ (3 : Int) < (↑(ByteArray.size (hOf b)) : Int)) ∧ (0 : Int) ≤ (8 : Int) ∧ ((0 : Int) ≤ (4 : Int) ∧ (4 : Int) < (↑(ByteArray.size (hOf b)) : Int)) ∧ (0 : Int) ≤ (8 : Int) ∧ ((0 : Int)
  ≤ (5 : Int) ∧ (5 : Int) < (↑(ByteArray.size (hOf b)) : Int)) ∧ (0 : Int) ≤ (8 : Int) ∧ ((0 : Int) ≤ (6 : Int) ∧ (6 : Int) < (↑(ByteArray.size (hOf b)) : Int)) ∧ (0 : Nat) = (0 : Nat) ∧ (99 : Int) = (99 : Int) ∧ [SV.g
  (Value.int IntKind.i64 (7 : Int)), SV.g (Value.int IntKind.i64 (Iq15 b)), SV.g (Value.int IntKind.i64 (0 : Int)), SV.g (Value.int IntKind.i64 (0 : Int)), SV.g (Value.int IntKind.i64 (0 : Int)), SV.g (Value.int
  IntKind.i64 (Iq14 b)), SV.g (Value.int IntKind.i64 (0 : Int)), SV.g (Value.int IntKind.i64 (0 : Int)), SV.g (Value.bool false), SV.g (Value.string (ByteArray.mk #[]))] = U.cells (U.mk (7 : Int) (Iq15 b) (0 : Int) (0 :
  Int) (0 : Int) (Iq14 b) (0 : Int) (0 : Int) false (ByteArray.mk #[])) ∧ True ∧ (True → (0 : Int) ≤ (8 : Int) ∧ ((0 : Int) ≤ (7 : Int) ∧ (7 : Int) < (↑(ByteArray.size (hOf b)) : Int)) ∧ ∃ (x : Unit), φb b ∧ b = b ∧ (0 :
  Nat) = (0 : Nat) ∧ (bif true then (↑(ByteArray.size (hOf b)) : Int) == (11 : Int) else false) = chk (hOf b) (kOf b) ∧ dOf b = dOf b ∧ (0 : Nat) = (0 : Nat) ∧ (IntKind.wrap IntKind.i64 (IntKind.wrap IntKind.u8
  (↑(BitVec.toNat (BitVec.ofInt (8 : Nat) (byteAt (hOf b) (0 : Int)) &&& BitVec.ofInt (8 : Nat) (15 : Int))) : Int)) == (0 : Int)) = !decide (lowBad b (kOf b)) ∧ (8 : Int) = (↑(own (kOf b)) : Int) ∧ [SV.g (Value.int
  IntKind.i64 (7 : Int)), SV.g (Value.int IntKind.i64 (Iq15 b)), SV.g (Value.int IntKind.i64 (0 : Int)), SV.g (Value.int IntKind.i64 (0 : Int)), SV.g (Value.int IntKind.i64 (0 : Int)), SV.g (Value.int IntKind.i64 (Iq14
  b)), SV.g (Value.int IntKind.i64 (IntKind.wrap IntKind.i64 (↑(BitVec.toNat (BitVec.ofInt (64 : Nat) (0 : Int) ||| BitVec.ofInt (64 : Nat) (IntKind.wrap IntKind.i64 (byteAt (hOf b) (7 : Int))))) : Int))), SV.g (Value.int
  IntKind.i64 (0 : Int)), SV.g (Value.bool false), SV.g (Value.string (ByteArray.mk #[]))] = U.cells (bare0 b (kOf b)) ∧ frow (7 : Nat) = frow (kn (kOf b)) ∧ True)))) ∧ ∀ (x : Unit), φb b → ReadTail b))))
set_option maxHeartbeats 4000000 in
theorem readK7 {b : ByteArray} (hφ : φ0 b) (hk : kOf b = 7) : ReadK7 b := by
  unfold ReadK7 Iq15 Iq14
  have ho : ((own 7 : Nat) : Int) = 8 := by decide
  have hm : (11 : Int) = 8 + 3 := rfl
  have h10 : (1 : Int) ≤ 7 ∧ (7 : Int) ≤ 10 := by decide
  have h4 := hφ.h4
  repeat' first
    | (with_reducible exact readTail (by assumption))
    | (with_reducible apply And.intro)
    | (with_reducible exact trivial)
    | exact cells_uK _
    | (with_reducible exact cells_mk _ _ _ _ _ _ _ _ _ _)
    | (refine (condX_iff _ _ _).2 ⟨fun hE => ?_, fun hF => ?_⟩)
    | (refine Exists.intro () ?_)
    | (intro hI)
  all_goals first
    | with_reducible rfl
    | omega
    | exact rd_err (rdE hφ hk h10 ho hm hE)
    | exact rdB hφ hk h10 ho hm hF
    | (have hF' : rdCond b 8 11 = false := hF
       with_reducible exact rdC hk ho hm hF')
    | (have hG := rdG hk ho hm hF; omega)
    | (simp at hI; omega)
    | exact ok12 hk (by decide)
    | exact okO hk (by decide)
    | exact ok5 hk
    | (rw [hk, ho])
    | (have hG := rdG hk ho hm hF
       rw [hk]
       simp only [or0, or8a, or8b, or8c, low15]
       simp (disch := first | decide | omega) only [U.cells, bare0, partsU, h116, h102, h110, h99, h114, h115, a2, a3, a4, a5, a6, sk, pv_t, nm1, nm2, nm4, decide_true, decide_false, ne_eq, not_true_eq_false, not_false_eq_true, and_true, true_and, and_false, false_and, or_true, true_or, or_false, false_or, Int.reduceEq, Int.reduceLE, and_self, or_self, if_true, if_false]
       rfl)
    | (rw [hk]; rfl)
def Iq16 (b : ByteArray) := (IntKind.wrap IntKind.i64 (↑(BitVec.toNat (BitVec.ofInt (64 : Nat) (IntKind.wrap IntKind.i64 (IntKind.wrap IntKind.i64 (↑(BitVec.toNat (BitVec.ofInt (64 : Nat) (0 : Int) ||| BitVec.ofInt (64 : Nat) (IntKind.wrap
  IntKind.i64 (byteAt (hOf b) (1 : Int))))) : Int) * (256 : Int))) ||| BitVec.ofInt (64 : Nat) (IntKind.wrap IntKind.i64 (byteAt (hOf b) (2 : Int))))) : Int))
def ReadK8 (b : ByteArray) : Prop :=  (0 : Nat) = (0 : Nat) ∧ (116 : Int) = (116 : Int) ∧ U.cells (uK (8 : Int)) = U.cells (U.mk (8 : Int) (0 : Int) (0 : Int) (0 : Int) (0 : Int) (0 : Int) (0 : Int) (0 : Int) false (ByteArray.mk #[])) ∧ True ∧ (True → (0 :
  Nat) = (0 : Nat) ∧ (110 : Int) = (110 : Int) ∧ [SV.g (Value.int IntKind.i64 (8 : Int)), SV.g (Value.int IntKind.i64 (0 : Int)), SV.g (Value.int IntKind.i64 (0 : Int)), SV.g (Value.int IntKind.i64 (0 : Int)), SV.g
  (Value.int IntKind.i64 (0 : Int)), SV.g (Value.int IntKind.i64 (0 : Int)), SV.g (Value.int IntKind.i64 (0 : Int)), SV.g (Value.int IntKind.i64 (0 : Int)), SV.g (Value.bool false), SV.g (Value.string (ByteArray.mk #[]))]
  = U.cells (U.mk (8 : Int) (0 : Int) (0 : Int) (0 : Int) (0 : Int) (0 : Int) (0 : Int) (0 : Int) false (ByteArray.mk #[])) ∧ True ∧ (True → (((!bif false then true else bif (↑(ByteArray.size (hOf b)) : Int) != (7 : Int)
  then !bif true then (↑(ByteArray.size (hOf b)) : Int) == (10 : Int) else false else false) && bif true then (↑(ByteArray.size (hOf b)) : Int) == (10 : Int) else false) = true → (0 : Int) ≤ (7 : Int) ∧ (7 : Int) <
  (↑(ByteArray.size (hOf b)) : Int)) ∧ condX (bif bif false then true else bif (↑(ByteArray.size (hOf b)) : Int) != (7 : Int) then !bif true then (↑(ByteArray.size (hOf b)) : Int) == (10 : Int) else false else false then
  true else bif bif true then (↑(ByteArray.size (hOf b)) : Int) == (10 : Int) else false then byteAt (hOf b) (7 : Int) != (195 : Int) else false) (SV.tup [SV.agg (List.take (10 : Nat) (List.drop (0 : Nat) [SV.g (Value.int
  IntKind.i64 (0 : Int)), SV.g (Value.int IntKind.i64 (0 : Int)), SV.g (Value.int IntKind.i64 (0 : Int)), SV.g (Value.int IntKind.i64 (0 : Int)), SV.g (Value.int IntKind.i64 (0 : Int)), SV.g (Value.int IntKind.i64 (0 :
  Int)), SV.g (Value.int IntKind.i64 (0 : Int)), SV.g (Value.int IntKind.i64 (0 : Int)), SV.g (Value.bool false), SV.g (Value.string (ByteArray.mk #[]))])), SV.g (Value.bool false), SV.g (Value.int IntKind.i64 (4 : Int))]
  = SV.tup [SV.agg (U.cells (Prod.fst (rdT b))), SV.g (Value.bool (Prod.fst (Prod.snd (rdT b)))), SV.g (Value.int IntKind.i64 (Prod.snd (Prod.snd (rdT b))))]) (((0 : Int) ≤ (0 : Int) ∧ (0 : Int) < (↑(ByteArray.size (hOf
  b)) : Int)) ∧ ((0 : Nat) = (0 : Nat) ∧ (116 : Int) = (116 : Int) ∧ [SV.g (Value.int IntKind.i64 (8 : Int)), SV.g (Value.int IntKind.i64 (0 : Int)), SV.g (Value.int IntKind.i64 (0 : Int)), SV.g (Value.int IntKind.i64 (0 :
  Int)), SV.g (Value.int IntKind.i64 (0 : Int)), SV.g (Value.int IntKind.i64 (0 : Int)), SV.g (Value.int IntKind.i64 (0 : Int)), SV.g (Value.int IntKind.i64 (0 : Int)), SV.g (Value.bool false), SV.g (Value.string
  (ByteArray.mk #[]))] = U.cells (U.mk (8 : Int) (0 : Int) (0 : Int) (0 : Int) (0 : Int) (0 : Int) (0 : Int) (0 : Int) false (ByteArray.mk #[])) ∧ True ∧ (True → (0 : Int) ≤ (8 : Int) ∧ ((0 : Int) ≤ (1 : Int) ∧ (1 : Int) <
  (↑(ByteArray.size (hOf b)) : Int)) ∧ (0 : Int) ≤ (8 : Int) ∧ ((0 : Int) ≤ (2 : Int) ∧ (2 : Int) < (↑(ByteArray.size (hOf b)) : Int)) ∧ (0 : Nat) = (0 : Nat) ∧ (110 : Int) = (110 : Int) ∧ [SV.g (Value.int IntKind.i64 (8 :
  Int)), SV.g (Value.int IntKind.i64 (Iq16 b)), SV.g (Value.int IntKind.i64 (0 : Int)), SV.g (Value.int IntKind.i64 (0 : Int)), SV.g (Value.int IntKind.i64 (0 : Int)), SV.g (Value.int IntKind.i64 (0 : Int)), SV.g
  (Value.int IntKind.i64 (0 : Int)), SV.g (Value.int IntKind.i64 (0 : Int)), SV.g (Value.bool false), SV.g (Value.string (ByteArray.mk #[]))] = U.cells (U.mk (8 : Int) (Iq16 b) (0 : Int) (0 : Int) (0 : Int) (0 : Int) (0 :
  Int) (0 : Int) false (ByteArray.mk #[])) ∧ True ∧ (True → (0 : Int) ≤ (8 : Int) ∧ ((0 : Int) ≤ (3 : Int) ∧ (3 : Int) < (↑(ByteArray.size (hOf b)) : Int)) ∧ (0 : Int) ≤ (8 : Int) ∧ ((0 : Int) ≤ (4 : Int) ∧ (4 : Int) <
  (↑(ByteArray.size (hOf b)) : Int)) ∧ (0 : Int) ≤ (8 : Int) ∧ ((0 : Int) ≤ (5 : Int) ∧ (5 : Int) < (↑(ByteArray.size (hOf b)) : Int)) ∧ (0 : Int) ≤ (8 : Int) ∧ ((0 : Int) ≤ (6 : Int) ∧ (6 : Int) < (↑(ByteArray.size (hOf
  b)) : Int)) ∧ ∃ (x : Unit), φb b ∧ b = b ∧ (0 : Nat) = (0 : Nat) ∧ (bif true then (↑(ByteArray.size (hOf b)) : Int) == (10 : Int) else false) = chk (hOf b) (kOf b) ∧ dOf b = dOf b ∧ (0 : Nat) = (0 : Nat) ∧ (IntKind.wrap
  IntKind.i64 (IntKind.wrap IntKind.u8 (↑(BitVec.toNat (BitVec.ofInt (8 : Nat) (byteAt (hOf b) (0 : Int)) &&& BitVec.ofInt (8 : Nat) (15 : Int))) : Int)) == (0 : Int)) = !decide (lowBad b (kOf b)) ∧ (7 : Int) = (↑(own (kOf
  b)) : Int) ∧ [SV.g (Value.int IntKind.i64 (8 : Int)), SV.g (Value.int IntKind.i64 (Iq16 b)), SV.g (Value.int IntKind.i64 (0 : Int)), SV.g (Value.int IntKind.i64 (0 : Int)), SV.g (Value.int IntKind.i64 (0 : Int)), SV.g
  (Value.int IntKind.i64 (IntKind.wrap IntKind.i64 (↑(BitVec.toNat (BitVec.ofInt (64 : Nat) (IntKind.wrap IntKind.i64 (IntKind.wrap IntKind.i64 (↑(BitVec.toNat (BitVec.ofInt (64 : Nat) (IntKind.wrap IntKind.i64
  (IntKind.wrap IntKind.i64 (↑(BitVec.toNat (BitVec.ofInt (64 : Nat) (IntKind.wrap IntKind.i64 (IntKind.wrap IntKind.i64 (↑(BitVec.toNat (BitVec.ofInt (64 : Nat) (0 : Int) ||| BitVec.ofInt (64 : Nat) (IntKind.wrap
  IntKind.i64 (byteAt (hOf b) (3 : Int))))) : Int) * (256 : Int))) ||| BitVec.ofInt (64 : Nat) (IntKind.wrap IntKind.i64 (byteAt (hOf b) (4 : Int))))) : Int) * (256 : Int))) ||| BitVec.ofInt (64 : Nat) (IntKind.wrap
  IntKind.i64 (byteAt (hOf b) (5 : Int))))) : Int) * (256 : Int))) ||| BitVec.ofInt (64 : Nat) (IntKind.wrap IntKind.i64 (byteAt (hOf b) (6 : Int))))) : Int))), SV.g (Value.int IntKind.i64 (0 : Int)), SV.g (Value.int
  IntKind.i64 (0 : Int)), SV.g (Value.bool false), SV.g (Value.string (ByteArray.mk #[]))] = U.cells (bare0 b (kOf b)) ∧ frow (8 : Nat) = frow (kn (kOf b)) ∧ True))) ∧ ∀ (x : Unit), φb b → ReadTail b)))
set_option maxHeartbeats 4000000 in
theorem readK8 {b : ByteArray} (hφ : φ0 b) (hk : kOf b = 8) : ReadK8 b := by
  unfold ReadK8 Iq16
  have ho : ((own 8 : Nat) : Int) = 7 := by decide
  have hm : (10 : Int) = 7 + 3 := rfl
  have h10 : (1 : Int) ≤ 8 ∧ (8 : Int) ≤ 10 := by decide
  have h4 := hφ.h4
  repeat' first
    | (with_reducible exact readTail (by assumption))
    | (with_reducible apply And.intro)
    | (with_reducible exact trivial)
    | exact cells_uK _
    | (with_reducible exact cells_mk _ _ _ _ _ _ _ _ _ _)
    | (refine (condX_iff _ _ _).2 ⟨fun hE => ?_, fun hF => ?_⟩)
    | (refine Exists.intro () ?_)
    | (intro hI)
  all_goals first
    | with_reducible rfl
    | omega
    | exact rd_err (rdE hφ hk h10 ho hm hE)
    | exact rdB hφ hk h10 ho hm hF
    | (have hF' : rdCond b 7 10 = false := hF
       with_reducible exact rdC hk ho hm hF')
    | (have hG := rdG hk ho hm hF; omega)
    | (simp at hI; omega)
    | exact ok12 hk (by decide)
    | exact okO hk (by decide)
    | exact ok5 hk
    | (rw [hk, ho])
    | (have hG := rdG hk ho hm hF
       rw [hk]
       simp only [or0, or8a, or8b, or8c, low15]
       simp (disch := first | decide | omega) only [U.cells, bare0, partsU, h116, h102, h110, h99, h114, h115, a2, a3, a4, a5, a6, sk, pv_t, nm1, nm2, nm4, decide_true, decide_false, ne_eq, not_true_eq_false, not_false_eq_true, and_true, true_and, and_false, false_and, or_true, true_or, or_false, false_or, Int.reduceEq, Int.reduceLE, and_self, or_self, if_true, if_false]
       rfl)
    | (rw [hk]; rfl)
def Iq17 (b : ByteArray) := (IntKind.wrap IntKind.i64 (↑(BitVec.toNat (BitVec.ofInt (64 : Nat) (IntKind.wrap IntKind.i64 (IntKind.wrap IntKind.i64 (↑(BitVec.toNat (BitVec.ofInt (64 : Nat) (0 : Int) ||| BitVec.ofInt (64 : Nat) (IntKind.wrap
  IntKind.i64 (byteAt (hOf b) (1 : Int))))) : Int) * (256 : Int))) ||| BitVec.ofInt (64 : Nat) (IntKind.wrap IntKind.i64 (byteAt (hOf b) (2 : Int))))) : Int))
def ReadK9 (b : ByteArray) : Prop :=  (0 : Nat) = (0 : Nat) ∧ (116 : Int) = (116 : Int) ∧ U.cells (uK (9 : Int)) = U.cells (U.mk (9 : Int) (0 : Int) (0 : Int) (0 : Int) (0 : Int) (0 : Int) (0 : Int) (0 : Int) false (ByteArray.mk #[])) ∧ True ∧ (True → (0 :
  Nat) = (0 : Nat) ∧ (110 : Int) = (110 : Int) ∧ [SV.g (Value.int IntKind.i64 (9 : Int)), SV.g (Value.int IntKind.i64 (0 : Int)), SV.g (Value.int IntKind.i64 (0 : Int)), SV.g (Value.int IntKind.i64 (0 : Int)), SV.g
  (Value.int IntKind.i64 (0 : Int)), SV.g (Value.int IntKind.i64 (0 : Int)), SV.g (Value.int IntKind.i64 (0 : Int)), SV.g (Value.int IntKind.i64 (0 : Int)), SV.g (Value.bool false), SV.g (Value.string (ByteArray.mk #[]))]
  = U.cells (U.mk (9 : Int) (0 : Int) (0 : Int) (0 : Int) (0 : Int) (0 : Int) (0 : Int) (0 : Int) false (ByteArray.mk #[])) ∧ True ∧ (True → (((!bif false then true else bif (↑(ByteArray.size (hOf b)) : Int) != (7 : Int)
  then !bif true then (↑(ByteArray.size (hOf b)) : Int) == (10 : Int) else false else false) && bif true then (↑(ByteArray.size (hOf b)) : Int) == (10 : Int) else false) = true → (0 : Int) ≤ (7 : Int) ∧ (7 : Int) <
  (↑(ByteArray.size (hOf b)) : Int)) ∧ condX (bif bif false then true else bif (↑(ByteArray.size (hOf b)) : Int) != (7 : Int) then !bif true then (↑(ByteArray.size (hOf b)) : Int) == (10 : Int) else false else false then
  true else bif bif true then (↑(ByteArray.size (hOf b)) : Int) == (10 : Int) else false then byteAt (hOf b) (7 : Int) != (195 : Int) else false) (SV.tup [SV.agg (List.take (10 : Nat) (List.drop (0 : Nat) [SV.g (Value.int
  IntKind.i64 (0 : Int)), SV.g (Value.int IntKind.i64 (0 : Int)), SV.g (Value.int IntKind.i64 (0 : Int)), SV.g (Value.int IntKind.i64 (0 : Int)), SV.g (Value.int IntKind.i64 (0 : Int)), SV.g (Value.int IntKind.i64 (0 :
  Int)), SV.g (Value.int IntKind.i64 (0 : Int)), SV.g (Value.int IntKind.i64 (0 : Int)), SV.g (Value.bool false), SV.g (Value.string (ByteArray.mk #[]))])), SV.g (Value.bool false), SV.g (Value.int IntKind.i64 (4 : Int))]
  = SV.tup [SV.agg (U.cells (Prod.fst (rdT b))), SV.g (Value.bool (Prod.fst (Prod.snd (rdT b)))), SV.g (Value.int IntKind.i64 (Prod.snd (Prod.snd (rdT b))))]) (((0 : Int) ≤ (0 : Int) ∧ (0 : Int) < (↑(ByteArray.size (hOf
  b)) : Int)) ∧ ((0 : Nat) = (0 : Nat) ∧ (116 : Int) = (116 : Int) ∧ [SV.g (Value.int IntKind.i64 (9 : Int)), SV.g (Value.int IntKind.i64 (0 : Int)), SV.g (Value.int IntKind.i64 (0 : Int)), SV.g (Value.int IntKind.i64 (0 :
  Int)), SV.g (Value.int IntKind.i64 (0 : Int)), SV.g (Value.int IntKind.i64 (0 : Int)), SV.g (Value.int IntKind.i64 (0 : Int)), SV.g (Value.int IntKind.i64 (0 : Int)), SV.g (Value.bool false), SV.g (Value.string
  (ByteArray.mk #[]))] = U.cells (U.mk (9 : Int) (0 : Int) (0 : Int) (0 : Int) (0 : Int) (0 : Int) (0 : Int) (0 : Int) false (ByteArray.mk #[])) ∧ True ∧ (True → (0 : Int) ≤ (8 : Int) ∧ ((0 : Int) ≤ (1 : Int) ∧ (1 : Int) <
  (↑(ByteArray.size (hOf b)) : Int)) ∧ (0 : Int) ≤ (8 : Int) ∧ ((0 : Int) ≤ (2 : Int) ∧ (2 : Int) < (↑(ByteArray.size (hOf b)) : Int)) ∧ (0 : Nat) = (0 : Nat) ∧ (110 : Int) = (110 : Int) ∧ [SV.g (Value.int IntKind.i64 (9 :
  Int)), SV.g (Value.int IntKind.i64 (Iq17 b)), SV.g (Value.int IntKind.i64 (0 : Int)), SV.g (Value.int IntKind.i64 (0 : Int)), SV.g (Value.int IntKind.i64 (0 : Int)), SV.g (Value.int IntKind.i64 (0 : Int)), SV.g
  (Value.int IntKind.i64 (0 : Int)), SV.g (Value.int IntKind.i64 (0 : Int)), SV.g (Value.bool false), SV.g (Value.string (ByteArray.mk #[]))] = U.cells (U.mk (9 : Int) (Iq17 b) (0 : Int) (0 : Int) (0 : Int) (0 : Int) (0 :
  Int) (0 : Int) false (ByteArray.mk #[])) ∧ True ∧ (True → (0 : Int) ≤ (8 : Int) ∧ ((0 : Int) ≤ (3 : Int) ∧ (3 : Int) < (↑(ByteArray.size (hOf b)) : Int)) ∧ (0 : Int) ≤ (8 : Int) ∧ ((0 : Int) ≤ (4 : Int) ∧ (4 : Int) <
  (↑(ByteArray.size (hOf b)) : Int)) ∧ (0 : Int) ≤ (8 : Int) ∧ ((0 : Int) ≤ (5 : Int) ∧ (5 : Int) < (↑(ByteArray.size (hOf b)) : Int)) ∧ (0 : Int) ≤ (8 : Int) ∧ ((0 : Int) ≤ (6 : Int) ∧ (6 : Int) < (↑(ByteArray.size (hOf
  b)) : Int)) ∧ ∃ (x : Unit), φb b ∧ b = b ∧ (0 : Nat) = (0 : Nat) ∧ (bif true then (↑(ByteArray.size (hOf b)) : Int) == (10 : Int) else false) = chk (hOf b) (kOf b) ∧ dOf b = dOf b ∧ (0 : Nat) = (0 : Nat) ∧ (IntKind.wrap
  IntKind.i64 (IntKind.wrap IntKind.u8 (↑(BitVec.toNat (BitVec.ofInt (8 : Nat) (byteAt (hOf b) (0 : Int)) &&& BitVec.ofInt (8 : Nat) (15 : Int))) : Int)) == (0 : Int)) = !decide (lowBad b (kOf b)) ∧ (7 : Int) = (↑(own (kOf
  b)) : Int) ∧ [SV.g (Value.int IntKind.i64 (9 : Int)), SV.g (Value.int IntKind.i64 (Iq17 b)), SV.g (Value.int IntKind.i64 (0 : Int)), SV.g (Value.int IntKind.i64 (0 : Int)), SV.g (Value.int IntKind.i64 (0 : Int)), SV.g
  (Value.int IntKind.i64 (IntKind.wrap IntKind.i64 (↑(BitVec.toNat (BitVec.ofInt (64 : Nat) (IntKind.wrap IntKind.i64 (IntKind.wrap IntKind.i64 (↑(BitVec.toNat (BitVec.ofInt (64 : Nat) (IntKind.wrap IntKind.i64
  (IntKind.wrap IntKind.i64 (↑(BitVec.toNat (BitVec.ofInt (64 : Nat) (IntKind.wrap IntKind.i64 (IntKind.wrap IntKind.i64 (↑(BitVec.toNat (BitVec.ofInt (64 : Nat) (0 : Int) ||| BitVec.ofInt (64 : Nat) (IntKind.wrap
  IntKind.i64 (byteAt (hOf b) (3 : Int))))) : Int) * (256 : Int))) ||| BitVec.ofInt (64 : Nat) (IntKind.wrap IntKind.i64 (byteAt (hOf b) (4 : Int))))) : Int) * (256 : Int))) ||| BitVec.ofInt (64 : Nat) (IntKind.wrap
  IntKind.i64 (byteAt (hOf b) (5 : Int))))) : Int) * (256 : Int))) ||| BitVec.ofInt (64 : Nat) (IntKind.wrap IntKind.i64 (byteAt (hOf b) (6 : Int))))) : Int))), SV.g (Value.int IntKind.i64 (0 : Int)), SV.g (Value.int
  IntKind.i64 (0 : Int)), SV.g (Value.bool false), SV.g (Value.string (ByteArray.mk #[]))] = U.cells (bare0 b (kOf b)) ∧ frow (9 : Nat) = frow (kn (kOf b)) ∧ True))) ∧ ∀ (x : Unit), φb b → ReadTail b)))
set_option maxHeartbeats 4000000 in
theorem readK9 {b : ByteArray} (hφ : φ0 b) (hk : kOf b = 9) : ReadK9 b := by
  unfold ReadK9 Iq17
  have ho : ((own 9 : Nat) : Int) = 7 := by decide
  have hm : (10 : Int) = 7 + 3 := rfl
  have h10 : (1 : Int) ≤ 9 ∧ (9 : Int) ≤ 10 := by decide
  have h4 := hφ.h4
  repeat' first
    | (with_reducible exact readTail (by assumption))
    | (with_reducible apply And.intro)
    | (with_reducible exact trivial)
    | exact cells_uK _
    | (with_reducible exact cells_mk _ _ _ _ _ _ _ _ _ _)
    | (refine (condX_iff _ _ _).2 ⟨fun hE => ?_, fun hF => ?_⟩)
    | (refine Exists.intro () ?_)
    | (intro hI)
  all_goals first
    | with_reducible rfl
    | omega
    | exact rd_err (rdE hφ hk h10 ho hm hE)
    | exact rdB hφ hk h10 ho hm hF
    | (have hF' : rdCond b 7 10 = false := hF
       with_reducible exact rdC hk ho hm hF')
    | (have hG := rdG hk ho hm hF; omega)
    | (simp at hI; omega)
    | exact ok12 hk (by decide)
    | exact okO hk (by decide)
    | exact ok5 hk
    | (rw [hk, ho])
    | (have hG := rdG hk ho hm hF
       rw [hk]
       simp only [or0, or8a, or8b, or8c, low15]
       simp (disch := first | decide | omega) only [U.cells, bare0, partsU, h116, h102, h110, h99, h114, h115, a2, a3, a4, a5, a6, sk, pv_t, nm1, nm2, nm4, decide_true, decide_false, ne_eq, not_true_eq_false, not_false_eq_true, and_true, true_and, and_false, false_and, or_true, true_or, or_false, false_or, Int.reduceEq, Int.reduceLE, and_self, or_self, if_true, if_false]
       rfl)
    | (rw [hk]; rfl)
def Iq18 (b : ByteArray) := (IntKind.wrap IntKind.i64 (↑(BitVec.toNat (BitVec.ofInt (64 : Nat) (IntKind.wrap IntKind.i64 (IntKind.wrap IntKind.i64 (↑(BitVec.toNat (BitVec.ofInt (64 : Nat) (0 : Int) ||| BitVec.ofInt (64 : Nat) (IntKind.wrap
  IntKind.i64 (byteAt (hOf b) (1 : Int))))) : Int) * (256 : Int))) ||| BitVec.ofInt (64 : Nat) (IntKind.wrap IntKind.i64 (byteAt (hOf b) (2 : Int))))) : Int))
def ReadK10 (b : ByteArray) : Prop :=  (0 : Nat) = (0 : Nat) ∧ (116 : Int) = (116 : Int) ∧ U.cells (uK (10 : Int)) = U.cells (U.mk (10 : Int) (0 : Int) (0 : Int) (0 : Int) (0 : Int) (0 : Int) (0 : Int) (0 : Int) false (ByteArray.mk #[])) ∧ True ∧ (True → (0
  : Nat) = (0 : Nat) ∧ (114 : Int) = (114 : Int) ∧ [SV.g (Value.int IntKind.i64 (10 : Int)), SV.g (Value.int IntKind.i64 (0 : Int)), SV.g (Value.int IntKind.i64 (0 : Int)), SV.g (Value.int IntKind.i64 (0 : Int)), SV.g
  (Value.int IntKind.i64 (0 : Int)), SV.g (Value.int IntKind.i64 (0 : Int)), SV.g (Value.int IntKind.i64 (0 : Int)), SV.g (Value.int IntKind.i64 (0 : Int)), SV.g (Value.bool false), SV.g (Value.string (ByteArray.mk #[]))]
  = U.cells (U.mk (10 : Int) (0 : Int) (0 : Int) (0 : Int) (0 : Int) (0 : Int) (0 : Int) (0 : Int) false (ByteArray.mk #[])) ∧ True ∧ (True → (((!bif false then true else bif (↑(ByteArray.size (hOf b)) : Int) != (4 : Int)
  then !bif true then (↑(ByteArray.size (hOf b)) : Int) == (7 : Int) else false else false) && bif true then (↑(ByteArray.size (hOf b)) : Int) == (7 : Int) else false) = true → (0 : Int) ≤ (4 : Int) ∧ (4 : Int) <
  (↑(ByteArray.size (hOf b)) : Int)) ∧ condX (bif bif false then true else bif (↑(ByteArray.size (hOf b)) : Int) != (4 : Int) then !bif true then (↑(ByteArray.size (hOf b)) : Int) == (7 : Int) else false else false then
  true else bif bif true then (↑(ByteArray.size (hOf b)) : Int) == (7 : Int) else false then byteAt (hOf b) (4 : Int) != (195 : Int) else false) (SV.tup [SV.agg (List.take (10 : Nat) (List.drop (0 : Nat) [SV.g (Value.int
  IntKind.i64 (0 : Int)), SV.g (Value.int IntKind.i64 (0 : Int)), SV.g (Value.int IntKind.i64 (0 : Int)), SV.g (Value.int IntKind.i64 (0 : Int)), SV.g (Value.int IntKind.i64 (0 : Int)), SV.g (Value.int IntKind.i64 (0 :
  Int)), SV.g (Value.int IntKind.i64 (0 : Int)), SV.g (Value.int IntKind.i64 (0 : Int)), SV.g (Value.bool false), SV.g (Value.string (ByteArray.mk #[]))])), SV.g (Value.bool false), SV.g (Value.int IntKind.i64 (4 : Int))]
  = SV.tup [SV.agg (U.cells (Prod.fst (rdT b))), SV.g (Value.bool (Prod.fst (Prod.snd (rdT b)))), SV.g (Value.int IntKind.i64 (Prod.snd (Prod.snd (rdT b))))]) (((0 : Int) ≤ (0 : Int) ∧ (0 : Int) < (↑(ByteArray.size (hOf
  b)) : Int)) ∧ ((0 : Nat) = (0 : Nat) ∧ (116 : Int) = (116 : Int) ∧ [SV.g (Value.int IntKind.i64 (10 : Int)), SV.g (Value.int IntKind.i64 (0 : Int)), SV.g (Value.int IntKind.i64 (0 : Int)), SV.g (Value.int IntKind.i64 (0
  : Int)), SV.g (Value.int IntKind.i64 (0 : Int)), SV.g (Value.int IntKind.i64 (0 : Int)), SV.g (Value.int IntKind.i64 (0 : Int)), SV.g (Value.int IntKind.i64 (0 : Int)), SV.g (Value.bool false), SV.g (Value.string
  (ByteArray.mk #[]))] = U.cells (U.mk (10 : Int) (0 : Int) (0 : Int) (0 : Int) (0 : Int) (0 : Int) (0 : Int) (0 : Int) false (ByteArray.mk #[])) ∧ True ∧ (True → (0 : Int) ≤ (8 : Int) ∧ ((0 : Int) ≤ (1 : Int) ∧ (1 : Int)
  < (↑(ByteArray.size (hOf b)) : Int)) ∧ (0 : Int) ≤ (8 : Int) ∧ ((0 : Int) ≤ (2 : Int) ∧ (2 : Int) < (↑(ByteArray.size (hOf b)) : Int)) ∧ (0 : Nat) = (0 : Nat) ∧ (114 : Int) = (114 : Int) ∧ [SV.g (Value.int IntKind.i64
  (10 : Int)), SV.g (Value.int IntKind.i64 (Iq18 b)), SV.g (Value.int IntKind.i64 (0 : Int)), SV.g (Value.int IntKind.i64 (0 : Int)), SV.g (Value.int IntKind.i64 (0 : Int)), SV.g (Value.int IntKind.i64 (0 : Int)), SV.g
  (Value.int IntKind.i64 (0 : Int)), SV.g (Value.int IntKind.i64 (0 : Int)), SV.g (Value.bool false), SV.g (Value.string (ByteArray.mk #[]))] = U.cells (U.mk (10 : Int) (Iq18 b) (0 : Int) (0 : Int) (0 : Int) (0 : Int) (0 :
  Int) (0 : Int) false (ByteArray.mk #[])) ∧ True ∧ (True → (0 : Int) ≤ (8 : Int) ∧ ((0 : Int) ≤ (3 : Int) ∧ (3 : Int) < (↑(ByteArray.size (hOf b)) : Int)) ∧ ∃ (x : Unit), φb b ∧ b = b ∧ (0 : Nat) = (0 : Nat) ∧ (bif true
  then (↑(ByteArray.size (hOf b)) : Int) == (7 : Int) else false) = chk (hOf b) (kOf b) ∧ dOf b = dOf b ∧ (0 : Nat) = (0 : Nat) ∧ (IntKind.wrap IntKind.i64 (IntKind.wrap IntKind.u8 (↑(BitVec.toNat (BitVec.ofInt (8 : Nat)
  (byteAt (hOf b) (0 : Int)) &&& BitVec.ofInt (8 : Nat) (15 : Int))) : Int)) == (0 : Int)) = !decide (lowBad b (kOf b)) ∧ (4 : Int) = (↑(own (kOf b)) : Int) ∧ [SV.g (Value.int IntKind.i64 (10 : Int)), SV.g (Value.int
  IntKind.i64 (Iq18 b)), SV.g (Value.int IntKind.i64 (0 : Int)), SV.g (Value.int IntKind.i64 (0 : Int)), SV.g (Value.int IntKind.i64 (0 : Int)), SV.g (Value.int IntKind.i64 (0 : Int)), SV.g (Value.int IntKind.i64 (0 :
  Int)), SV.g (Value.int IntKind.i64 (IntKind.wrap IntKind.i64 (↑(BitVec.toNat (BitVec.ofInt (64 : Nat) (0 : Int) ||| BitVec.ofInt (64 : Nat) (IntKind.wrap IntKind.i64 (byteAt (hOf b) (3 : Int))))) : Int))), SV.g
  (Value.bool false), SV.g (Value.string (ByteArray.mk #[]))] = U.cells (bare0 b (kOf b)) ∧ frow (10 : Nat) = frow (kn (kOf b)) ∧ True))) ∧ ∀ (x : Unit), φb b → ReadTail b)))
set_option maxHeartbeats 4000000 in
theorem readK10 {b : ByteArray} (hφ : φ0 b) (hk : kOf b = 10) : ReadK10 b := by
  unfold ReadK10 Iq18
  have ho : ((own 10 : Nat) : Int) = 4 := by decide
  have hm : (7 : Int) = 4 + 3 := rfl
  have h10 : (1 : Int) ≤ 10 ∧ (10 : Int) ≤ 10 := by decide
  have h4 := hφ.h4
  repeat' first
    | (with_reducible exact readTail (by assumption))
    | (with_reducible apply And.intro)
    | (with_reducible exact trivial)
    | exact cells_uK _
    | (with_reducible exact cells_mk _ _ _ _ _ _ _ _ _ _)
    | (refine (condX_iff _ _ _).2 ⟨fun hE => ?_, fun hF => ?_⟩)
    | (refine Exists.intro () ?_)
    | (intro hI)
  all_goals first
    | with_reducible rfl
    | omega
    | exact rd_err (rdE hφ hk h10 ho hm hE)
    | exact rdB hφ hk h10 ho hm hF
    | (have hF' : rdCond b 4 7 = false := hF
       with_reducible exact rdC hk ho hm hF')
    | (have hG := rdG hk ho hm hF; omega)
    | (simp at hI; omega)
    | exact ok12 hk (by decide)
    | exact okO hk (by decide)
    | exact ok5 hk
    | (rw [hk, ho])
    | (have hG := rdG hk ho hm hF
       rw [hk]
       simp only [or0, or8a, or8b, or8c, low15]
       simp (disch := first | decide | omega) only [U.cells, bare0, partsU, h116, h102, h110, h99, h114, h115, a2, a3, a4, a5, a6, sk, pv_t, nm1, nm2, nm4, decide_true, decide_false, ne_eq, not_true_eq_false, not_false_eq_true, and_true, true_and, and_false, false_and, or_true, true_or, or_false, false_or, Int.reduceEq, Int.reduceLE, and_self, or_self, if_true, if_false]
       rfl)
    | (rw [hk]; rfl)
set_option maxRecDepth 100000 in
def VcRead : Prop := ∀ (b : ByteArray), condX (decide ((4000 : Int) < (↑(ByteArray.size b) : Int))) (SV.tup [SV.agg (List.take (10 : Nat) (List.drop (0 : Nat) [SV.g (Value.int IntKind.i64 (0 : Int)), SV.g (Value.int IntKind.i64 (0 : Int)),
  SV.g (Value.int IntKind.i64 (0 : Int)), SV.g (Value.int IntKind.i64 (0 : Int)), SV.g (Value.int IntKind.i64 (0 : Int)), SV.g (Value.int IntKind.i64 (0 : Int)), SV.g (Value.int IntKind.i64 (0 : Int)), SV.g (Value.int
  IntKind.i64 (0 : Int)), SV.g (Value.bool false), SV.g (Value.string (ByteArray.mk #[]))])), SV.g (Value.bool false), SV.g (Value.int IntKind.i64 (2 : Int))] = SV.tup [SV.agg (U.cells (Prod.fst (rdT b))), SV.g (Value.bool
  (Prod.fst (Prod.snd (rdT b)))), SV.g (Value.int IntKind.i64 (Prod.snd (Prod.snd (rdT b))))]) (((!decide (b = ByteArray.mk #[])) = true → (0 : Int) ≤ (0 : Int) ∧ (0 : Int) < (↑(ByteArray.size b) : Int)) ∧ condX (bif
  decide (b = ByteArray.mk #[]) then true else decide ((↑(ByteArray.size b) : Int) < IntKind.wrap IntKind.i64 ((1 : Int) + IntKind.wrap IntKind.i64 (byteAt b (0 : Int))))) (SV.tup [SV.agg (List.take (10 : Nat) (List.drop
  (0 : Nat) [SV.g (Value.int IntKind.i64 (0 : Int)), SV.g (Value.int IntKind.i64 (0 : Int)), SV.g (Value.int IntKind.i64 (0 : Int)), SV.g (Value.int IntKind.i64 (0 : Int)), SV.g (Value.int IntKind.i64 (0 : Int)), SV.g
  (Value.int IntKind.i64 (0 : Int)), SV.g (Value.int IntKind.i64 (0 : Int)), SV.g (Value.int IntKind.i64 (0 : Int)), SV.g (Value.bool false), SV.g (Value.string (ByteArray.mk #[]))])), SV.g (Value.bool false), SV.g
  (Value.int IntKind.i64 (10 : Int))] = SV.tup [SV.agg (U.cells (Prod.fst (rdT b))), SV.g (Value.bool (Prod.fst (Prod.snd (rdT b)))), SV.g (Value.int IntKind.i64 (Prod.snd (Prod.snd (rdT b))))]) (((0 : Int) ≤ (0 : Int) ∧
  (0 : Int) < (↑(ByteArray.size b) : Int)) ∧ ((0 : Int) ≤ IntKind.wrap IntKind.i64 ((1 : Int) + IntKind.wrap IntKind.i64 (byteAt b (0 : Int))) ∧ IntKind.wrap IntKind.i64 ((1 : Int) + IntKind.wrap IntKind.i64 (byteAt b (0 :
  Int))) ≤ (↑(ByteArray.size b) : Int)) ∧ ((0 : Int) ≤ (1 : Int) ∧ (1 : Int) ≤ IntKind.wrap IntKind.i64 ((1 : Int) + IntKind.wrap IntKind.i64 (byteAt b (0 : Int)))) ∧ ((0 : Int) ≤ (0 : Int) ∧ (0 : Int) < (↑(ByteArray.size
  b) : Int)) ∧ ((0 : Int) ≤ IntKind.wrap IntKind.i64 ((1 : Int) + IntKind.wrap IntKind.i64 (byteAt b (0 : Int))) ∧ IntKind.wrap IntKind.i64 ((1 : Int) + IntKind.wrap IntKind.i64 (byteAt b (0 : Int))) ≤ (↑(ByteArray.size b)
  : Int)) ∧ condX (decide (ByteArray.extract b (1 : Nat) (Int.toNat (IntKind.wrap IntKind.i64 ((1 : Int) + IntKind.wrap IntKind.i64 (byteAt b (0 : Int))))) = ByteArray.mk #[])) (SV.tup [SV.agg (List.take (10 : Nat)
  (List.drop (0 : Nat) [SV.g (Value.int IntKind.i64 (0 : Int)), SV.g (Value.int IntKind.i64 (0 : Int)), SV.g (Value.int IntKind.i64 (0 : Int)), SV.g (Value.int IntKind.i64 (0 : Int)), SV.g (Value.int IntKind.i64 (0 :
  Int)), SV.g (Value.int IntKind.i64 (0 : Int)), SV.g (Value.int IntKind.i64 (0 : Int)), SV.g (Value.int IntKind.i64 (0 : Int)), SV.g (Value.bool false), SV.g (Value.string (ByteArray.mk #[]))])), SV.g (Value.bool false),
  SV.g (Value.int IntKind.i64 (4 : Int))] = SV.tup [SV.agg (U.cells (Prod.fst (rdT b))), SV.g (Value.bool (Prod.fst (Prod.snd (rdT b)))), SV.g (Value.int IntKind.i64 (Prod.snd (Prod.snd (rdT b))))]) (((0 : Int) ≤ (0 : Int)
  ∧ (0 : Int) < (↑(ByteArray.size (ByteArray.extract b (1 : Nat) (Int.toNat (IntKind.wrap IntKind.i64 ((1 : Int) + IntKind.wrap IntKind.i64 (byteAt b (0 : Int))))))) : Int)) ∧ (0 : Int) ≤ (4 : Int) ∧ ((∃ (x : Unit), (φ0 b
  ∧ ¬((1 : Int) ≤ kOf b ∧ kOf b ≤ (10 : Int))) ∧ b = b ∧ (0 : Nat) = (0 : Nat) ∧ ByteArray.extract b (1 : Nat) (Int.toNat (IntKind.wrap IntKind.i64 ((1 : Int) + IntKind.wrap IntKind.i64 (byteAt b (0 : Int))))) = hOf b ∧
  ByteArray.extract b (Int.toNat (IntKind.wrap IntKind.i64 ((1 : Int) + IntKind.wrap IntKind.i64 (byteAt b (0 : Int))))) (ByteArray.size b) = dOf b ∧ (0 : Nat) = (0 : Nat) ∧ isK (IntKind.wrap IntKind.i64 (Int.fdiv (byteAt
  (ByteArray.extract b (1 : Nat) (Int.toNat (IntKind.wrap IntKind.i64 ((1 : Int) + IntKind.wrap IntKind.i64 (byteAt b (0 : Int)))))) (0 : Int)) (16 : Int))) = false ∧ [SV.g (Value.int IntKind.i64 (IntKind.wrap IntKind.i64
  (Int.fdiv (byteAt (ByteArray.extract b (1 : Nat) (Int.toNat (IntKind.wrap IntKind.i64 ((1 : Int) + IntKind.wrap IntKind.i64 (byteAt b (0 : Int)))))) (0 : Int)) (16 : Int)))), SV.g (Value.int IntKind.i64 (0 : Int)), SV.g
  (Value.int IntKind.i64 (0 : Int)), SV.g (Value.int IntKind.i64 (0 : Int)), SV.g (Value.int IntKind.i64 (0 : Int)), SV.g (Value.int IntKind.i64 (0 : Int)), SV.g (Value.int IntKind.i64 (0 : Int)), SV.g (Value.int
  IntKind.i64 (0 : Int)), SV.g (Value.bool false), SV.g (Value.string (ByteArray.mk #[]))] = U.cells (uK (kOf b)) ∧ [SV.g (Value.string (nmOf (kn (IntKind.wrap IntKind.i64 (Int.fdiv (byteAt (ByteArray.extract b (1 : Nat)
  (Int.toNat (IntKind.wrap IntKind.i64 ((1 : Int) + IntKind.wrap IntKind.i64 (byteAt b (0 : Int)))))) (0 : Int)) (16 : Int)))))), SV.g (Value.string (fdOf (kn (IntKind.wrap IntKind.i64 (Int.fdiv (byteAt (ByteArray.extract
  b (1 : Nat) (Int.toNat (IntKind.wrap IntKind.i64 ((1 : Int) + IntKind.wrap IntKind.i64 (byteAt b (0 : Int)))))) (0 : Int)) (16 : Int)))))), SV.g (Value.int IntKind.i64 (loOf (kn (IntKind.wrap IntKind.i64 (Int.fdiv
  (byteAt (ByteArray.extract b (1 : Nat) (Int.toNat (IntKind.wrap IntKind.i64 ((1 : Int) + IntKind.wrap IntKind.i64 (byteAt b (0 : Int)))))) (0 : Int)) (16 : Int)))))), SV.g (Value.int IntKind.i64 (hiOf (kn (IntKind.wrap
  IntKind.i64 (Int.fdiv (byteAt (ByteArray.extract b (1 : Nat) (Int.toNat (IntKind.wrap IntKind.i64 ((1 : Int) + IntKind.wrap IntKind.i64 (byteAt b (0 : Int)))))) (0 : Int)) (16 : Int))))))] = frow (0 : Nat) ∧ True) ∨ (∃
  (x : Unit), (φ0 b ∧ kOf b = (1 : Int)) ∧ b = b ∧ (0 : Nat) = (0 : Nat) ∧ ByteArray.extract b (1 : Nat) (Int.toNat (IntKind.wrap IntKind.i64 ((1 : Int) + IntKind.wrap IntKind.i64 (byteAt b (0 : Int))))) = hOf b ∧
  ByteArray.extract b (Int.toNat (IntKind.wrap IntKind.i64 ((1 : Int) + IntKind.wrap IntKind.i64 (byteAt b (0 : Int))))) (ByteArray.size b) = dOf b ∧ (0 : Nat) = (0 : Nat) ∧ isK (IntKind.wrap IntKind.i64 (Int.fdiv (byteAt
  (ByteArray.extract b (1 : Nat) (Int.toNat (IntKind.wrap IntKind.i64 ((1 : Int) + IntKind.wrap IntKind.i64 (byteAt b (0 : Int)))))) (0 : Int)) (16 : Int))) = true ∧ [SV.g (Value.int IntKind.i64 (IntKind.wrap IntKind.i64
  (Int.fdiv (byteAt (ByteArray.extract b (1 : Nat) (Int.toNat (IntKind.wrap IntKind.i64 ((1 : Int) + IntKind.wrap IntKind.i64 (byteAt b (0 : Int)))))) (0 : Int)) (16 : Int)))), SV.g (Value.int IntKind.i64 (0 : Int)), SV.g
  (Value.int IntKind.i64 (0 : Int)), SV.g (Value.int IntKind.i64 (0 : Int)), SV.g (Value.int IntKind.i64 (0 : Int)), SV.g (Value.int IntKind.i64 (0 : Int)), SV.g (Value.int IntKind.i64 (0 : Int)), SV.g (Value.int
  IntKind.i64 (0 : Int)), SV.g (Value.bool false), SV.g (Value.string (ByteArray.mk #[]))] = U.cells (uK (1 : Int)) ∧ [SV.g (Value.string (nmOf (kn (IntKind.wrap IntKind.i64 (Int.fdiv (byteAt (ByteArray.extract b (1 : Nat)
  (Int.toNat (IntKind.wrap IntKind.i64 ((1 : Int) + IntKind.wrap IntKind.i64 (byteAt b (0 : Int)))))) (0 : Int)) (16 : Int)))))), SV.g (Value.string (fdOf (kn (IntKind.wrap IntKind.i64 (Int.fdiv (byteAt (ByteArray.extract
  b (1 : Nat) (Int.toNat (IntKind.wrap IntKind.i64 ((1 : Int) + IntKind.wrap IntKind.i64 (byteAt b (0 : Int)))))) (0 : Int)) (16 : Int)))))), SV.g (Value.int IntKind.i64 (loOf (kn (IntKind.wrap IntKind.i64 (Int.fdiv
  (byteAt (ByteArray.extract b (1 : Nat) (Int.toNat (IntKind.wrap IntKind.i64 ((1 : Int) + IntKind.wrap IntKind.i64 (byteAt b (0 : Int)))))) (0 : Int)) (16 : Int)))))), SV.g (Value.int IntKind.i64 (hiOf (kn (IntKind.wrap
  IntKind.i64 (Int.fdiv (byteAt (ByteArray.extract b (1 : Nat) (Int.toNat (IntKind.wrap IntKind.i64 ((1 : Int) + IntKind.wrap IntKind.i64 (byteAt b (0 : Int)))))) (0 : Int)) (16 : Int))))))] = frow (1 : Nat) ∧ True) ∨ (∃
  (x : Unit), (φ0 b ∧ kOf b = (2 : Int)) ∧ b = b ∧ (0 : Nat) = (0 : Nat) ∧ ByteArray.extract b (1 : Nat) (Int.toNat (IntKind.wrap IntKind.i64 ((1 : Int) + IntKind.wrap IntKind.i64 (byteAt b (0 : Int))))) = hOf b ∧
  ByteArray.extract b (Int.toNat (IntKind.wrap IntKind.i64 ((1 : Int) + IntKind.wrap IntKind.i64 (byteAt b (0 : Int))))) (ByteArray.size b) = dOf b ∧ (0 : Nat) = (0 : Nat) ∧ isK (IntKind.wrap IntKind.i64 (Int.fdiv (byteAt
  (ByteArray.extract b (1 : Nat) (Int.toNat (IntKind.wrap IntKind.i64 ((1 : Int) + IntKind.wrap IntKind.i64 (byteAt b (0 : Int)))))) (0 : Int)) (16 : Int))) = true ∧ [SV.g (Value.int IntKind.i64 (IntKind.wrap IntKind.i64
  (Int.fdiv (byteAt (ByteArray.extract b (1 : Nat) (Int.toNat (IntKind.wrap IntKind.i64 ((1 : Int) + IntKind.wrap IntKind.i64 (byteAt b (0 : Int)))))) (0 : Int)) (16 : Int)))), SV.g (Value.int IntKind.i64 (0 : Int)), SV.g
  (Value.int IntKind.i64 (0 : Int)), SV.g (Value.int IntKind.i64 (0 : Int)), SV.g (Value.int IntKind.i64 (0 : Int)), SV.g (Value.int IntKind.i64 (0 : Int)), SV.g (Value.int IntKind.i64 (0 : Int)), SV.g (Value.int
  IntKind.i64 (0 : Int)), SV.g (Value.bool false), SV.g (Value.string (ByteArray.mk #[]))] = U.cells (uK (2 : Int)) ∧ [SV.g (Value.string (nmOf (kn (IntKind.wrap IntKind.i64 (Int.fdiv (byteAt (ByteArray.extract b (1 : Nat)
  (Int.toNat (IntKind.wrap IntKind.i64 ((1 : Int) + IntKind.wrap IntKind.i64 (byteAt b (0 : Int)))))) (0 : Int)) (16 : Int)))))), SV.g (Value.string (fdOf (kn (IntKind.wrap IntKind.i64 (Int.fdiv (byteAt (ByteArray.extract
  b (1 : Nat) (Int.toNat (IntKind.wrap IntKind.i64 ((1 : Int) + IntKind.wrap IntKind.i64 (byteAt b (0 : Int)))))) (0 : Int)) (16 : Int)))))), SV.g (Value.int IntKind.i64 (loOf (kn (IntKind.wrap IntKind.i64 (Int.fdiv
  (byteAt (ByteArray.extract b (1 : Nat) (Int.toNat (IntKind.wrap IntKind.i64 ((1 : Int) + IntKind.wrap IntKind.i64 (byteAt b (0 : Int)))))) (0 : Int)) (16 : Int)))))), SV.g (Value.int IntKind.i64 (hiOf (kn (IntKind.wrap
  IntKind.i64 (Int.fdiv (byteAt (ByteArray.extract b (1 : Nat) (Int.toNat (IntKind.wrap IntKind.i64 ((1 : Int) + IntKind.wrap IntKind.i64 (byteAt b (0 : Int)))))) (0 : Int)) (16 : Int))))))] = frow (2 : Nat) ∧ True) ∨ (∃
  (x : Unit), (φ0 b ∧ kOf b = (3 : Int)) ∧ b = b ∧ (0 : Nat) = (0 : Nat) ∧ ByteArray.extract b (1 : Nat) (Int.toNat (IntKind.wrap IntKind.i64 ((1 : Int) + IntKind.wrap IntKind.i64 (byteAt b (0 : Int))))) = hOf b ∧
  ByteArray.extract b (Int.toNat (IntKind.wrap IntKind.i64 ((1 : Int) + IntKind.wrap IntKind.i64 (byteAt b (0 : Int))))) (ByteArray.size b) = dOf b ∧ (0 : Nat) = (0 : Nat) ∧ isK (IntKind.wrap IntKind.i64 (Int.fdiv (byteAt
  (ByteArray.extract b (1 : Nat) (Int.toNat (IntKind.wrap IntKind.i64 ((1 : Int) + IntKind.wrap IntKind.i64 (byteAt b (0 : Int)))))) (0 : Int)) (16 : Int))) = true ∧ [SV.g (Value.int IntKind.i64 (IntKind.wrap IntKind.i64
  (Int.fdiv (byteAt (ByteArray.extract b (1 : Nat) (Int.toNat (IntKind.wrap IntKind.i64 ((1 : Int) + IntKind.wrap IntKind.i64 (byteAt b (0 : Int)))))) (0 : Int)) (16 : Int)))), SV.g (Value.int IntKind.i64 (0 : Int)), SV.g
  (Value.int IntKind.i64 (0 : Int)), SV.g (Value.int IntKind.i64 (0 : Int)), SV.g (Value.int IntKind.i64 (0 : Int)), SV.g (Value.int IntKind.i64 (0 : Int)), SV.g (Value.int IntKind.i64 (0 : Int)), SV.g (Value.int
  IntKind.i64 (0 : Int)), SV.g (Value.bool false), SV.g (Value.string (ByteArray.mk #[]))] = U.cells (uK (3 : Int)) ∧ [SV.g (Value.string (nmOf (kn (IntKind.wrap IntKind.i64 (Int.fdiv (byteAt (ByteArray.extract b (1 : Nat)
  (Int.toNat (IntKind.wrap IntKind.i64 ((1 : Int) + IntKind.wrap IntKind.i64 (byteAt b (0 : Int)))))) (0 : Int)) (16 : Int)))))), SV.g (Value.string (fdOf (kn (IntKind.wrap IntKind.i64 (Int.fdiv (byteAt (ByteArray.extract
  b (1 : Nat) (Int.toNat (IntKind.wrap IntKind.i64 ((1 : Int) + IntKind.wrap IntKind.i64 (byteAt b (0 : Int)))))) (0 : Int)) (16 : Int)))))), SV.g (Value.int IntKind.i64 (loOf (kn (IntKind.wrap IntKind.i64 (Int.fdiv
  (byteAt (ByteArray.extract b (1 : Nat) (Int.toNat (IntKind.wrap IntKind.i64 ((1 : Int) + IntKind.wrap IntKind.i64 (byteAt b (0 : Int)))))) (0 : Int)) (16 : Int)))))), SV.g (Value.int IntKind.i64 (hiOf (kn (IntKind.wrap
  IntKind.i64 (Int.fdiv (byteAt (ByteArray.extract b (1 : Nat) (Int.toNat (IntKind.wrap IntKind.i64 ((1 : Int) + IntKind.wrap IntKind.i64 (byteAt b (0 : Int)))))) (0 : Int)) (16 : Int))))))] = frow (3 : Nat) ∧ True) ∨ (∃
  (x : Unit), (φ0 b ∧ kOf b = (4 : Int)) ∧ b = b ∧ (0 : Nat) = (0 : Nat) ∧ ByteArray.extract b (1 : Nat) (Int.toNat (IntKind.wrap IntKind.i64 ((1 : Int) + IntKind.wrap IntKind.i64 (byteAt b (0 : Int))))) = hOf b ∧
  ByteArray.extract b (Int.toNat (IntKind.wrap IntKind.i64 ((1 : Int) + IntKind.wrap IntKind.i64 (byteAt b (0 : Int))))) (ByteArray.size b) = dOf b ∧ (0 : Nat) = (0 : Nat) ∧ isK (IntKind.wrap IntKind.i64 (Int.fdiv (byteAt
  (ByteArray.extract b (1 : Nat) (Int.toNat (IntKind.wrap IntKind.i64 ((1 : Int) + IntKind.wrap IntKind.i64 (byteAt b (0 : Int)))))) (0 : Int)) (16 : Int))) = true ∧ [SV.g (Value.int IntKind.i64 (IntKind.wrap IntKind.i64
  (Int.fdiv (byteAt (ByteArray.extract b (1 : Nat) (Int.toNat (IntKind.wrap IntKind.i64 ((1 : Int) + IntKind.wrap IntKind.i64 (byteAt b (0 : Int)))))) (0 : Int)) (16 : Int)))), SV.g (Value.int IntKind.i64 (0 : Int)), SV.g
  (Value.int IntKind.i64 (0 : Int)), SV.g (Value.int IntKind.i64 (0 : Int)), SV.g (Value.int IntKind.i64 (0 : Int)), SV.g (Value.int IntKind.i64 (0 : Int)), SV.g (Value.int IntKind.i64 (0 : Int)), SV.g (Value.int
  IntKind.i64 (0 : Int)), SV.g (Value.bool false), SV.g (Value.string (ByteArray.mk #[]))] = U.cells (uK (4 : Int)) ∧ [SV.g (Value.string (nmOf (kn (IntKind.wrap IntKind.i64 (Int.fdiv (byteAt (ByteArray.extract b (1 : Nat)
  (Int.toNat (IntKind.wrap IntKind.i64 ((1 : Int) + IntKind.wrap IntKind.i64 (byteAt b (0 : Int)))))) (0 : Int)) (16 : Int)))))), SV.g (Value.string (fdOf (kn (IntKind.wrap IntKind.i64 (Int.fdiv (byteAt (ByteArray.extract
  b (1 : Nat) (Int.toNat (IntKind.wrap IntKind.i64 ((1 : Int) + IntKind.wrap IntKind.i64 (byteAt b (0 : Int)))))) (0 : Int)) (16 : Int)))))), SV.g (Value.int IntKind.i64 (loOf (kn (IntKind.wrap IntKind.i64 (Int.fdiv
  (byteAt (ByteArray.extract b (1 : Nat) (Int.toNat (IntKind.wrap IntKind.i64 ((1 : Int) + IntKind.wrap IntKind.i64 (byteAt b (0 : Int)))))) (0 : Int)) (16 : Int)))))), SV.g (Value.int IntKind.i64 (hiOf (kn (IntKind.wrap
  IntKind.i64 (Int.fdiv (byteAt (ByteArray.extract b (1 : Nat) (Int.toNat (IntKind.wrap IntKind.i64 ((1 : Int) + IntKind.wrap IntKind.i64 (byteAt b (0 : Int)))))) (0 : Int)) (16 : Int))))))] = frow (4 : Nat) ∧ True) ∨ (∃
  (x : Unit), (φ0 b ∧ kOf b = (5 : Int)) ∧ b = b ∧ (0 : Nat) = (0 : Nat) ∧ ByteArray.extract b (1 : Nat) (Int.toNat (IntKind.wrap IntKind.i64 ((1 : Int) + IntKind.wrap IntKind.i64 (byteAt b (0 : Int))))) = hOf b ∧
  ByteArray.extract b (Int.toNat (IntKind.wrap IntKind.i64 ((1 : Int) + IntKind.wrap IntKind.i64 (byteAt b (0 : Int))))) (ByteArray.size b) = dOf b ∧ (0 : Nat) = (0 : Nat) ∧ isK (IntKind.wrap IntKind.i64 (Int.fdiv (byteAt
  (ByteArray.extract b (1 : Nat) (Int.toNat (IntKind.wrap IntKind.i64 ((1 : Int) + IntKind.wrap IntKind.i64 (byteAt b (0 : Int)))))) (0 : Int)) (16 : Int))) = true ∧ [SV.g (Value.int IntKind.i64 (IntKind.wrap IntKind.i64
  (Int.fdiv (byteAt (ByteArray.extract b (1 : Nat) (Int.toNat (IntKind.wrap IntKind.i64 ((1 : Int) + IntKind.wrap IntKind.i64 (byteAt b (0 : Int)))))) (0 : Int)) (16 : Int)))), SV.g (Value.int IntKind.i64 (0 : Int)), SV.g
  (Value.int IntKind.i64 (0 : Int)), SV.g (Value.int IntKind.i64 (0 : Int)), SV.g (Value.int IntKind.i64 (0 : Int)), SV.g (Value.int IntKind.i64 (0 : Int)), SV.g (Value.int IntKind.i64 (0 : Int)), SV.g (Value.int
  IntKind.i64 (0 : Int)), SV.g (Value.bool false), SV.g (Value.string (ByteArray.mk #[]))] = U.cells (uK (5 : Int)) ∧ [SV.g (Value.string (nmOf (kn (IntKind.wrap IntKind.i64 (Int.fdiv (byteAt (ByteArray.extract b (1 : Nat)
  (Int.toNat (IntKind.wrap IntKind.i64 ((1 : Int) + IntKind.wrap IntKind.i64 (byteAt b (0 : Int)))))) (0 : Int)) (16 : Int)))))), SV.g (Value.string (fdOf (kn (IntKind.wrap IntKind.i64 (Int.fdiv (byteAt (ByteArray.extract
  b (1 : Nat) (Int.toNat (IntKind.wrap IntKind.i64 ((1 : Int) + IntKind.wrap IntKind.i64 (byteAt b (0 : Int)))))) (0 : Int)) (16 : Int)))))), SV.g (Value.int IntKind.i64 (loOf (kn (IntKind.wrap IntKind.i64 (Int.fdiv
  (byteAt (ByteArray.extract b (1 : Nat) (Int.toNat (IntKind.wrap IntKind.i64 ((1 : Int) + IntKind.wrap IntKind.i64 (byteAt b (0 : Int)))))) (0 : Int)) (16 : Int)))))), SV.g (Value.int IntKind.i64 (hiOf (kn (IntKind.wrap
  IntKind.i64 (Int.fdiv (byteAt (ByteArray.extract b (1 : Nat) (Int.toNat (IntKind.wrap IntKind.i64 ((1 : Int) + IntKind.wrap IntKind.i64 (byteAt b (0 : Int)))))) (0 : Int)) (16 : Int))))))] = frow (5 : Nat) ∧ True) ∨ (∃
  (x : Unit), (φ0 b ∧ kOf b = (6 : Int)) ∧ b = b ∧ (0 : Nat) = (0 : Nat) ∧ ByteArray.extract b (1 : Nat) (Int.toNat (IntKind.wrap IntKind.i64 ((1 : Int) + IntKind.wrap IntKind.i64 (byteAt b (0 : Int))))) = hOf b ∧
  ByteArray.extract b (Int.toNat (IntKind.wrap IntKind.i64 ((1 : Int) + IntKind.wrap IntKind.i64 (byteAt b (0 : Int))))) (ByteArray.size b) = dOf b ∧ (0 : Nat) = (0 : Nat) ∧ isK (IntKind.wrap IntKind.i64 (Int.fdiv (byteAt
  (ByteArray.extract b (1 : Nat) (Int.toNat (IntKind.wrap IntKind.i64 ((1 : Int) + IntKind.wrap IntKind.i64 (byteAt b (0 : Int)))))) (0 : Int)) (16 : Int))) = true ∧ [SV.g (Value.int IntKind.i64 (IntKind.wrap IntKind.i64
  (Int.fdiv (byteAt (ByteArray.extract b (1 : Nat) (Int.toNat (IntKind.wrap IntKind.i64 ((1 : Int) + IntKind.wrap IntKind.i64 (byteAt b (0 : Int)))))) (0 : Int)) (16 : Int)))), SV.g (Value.int IntKind.i64 (0 : Int)), SV.g
  (Value.int IntKind.i64 (0 : Int)), SV.g (Value.int IntKind.i64 (0 : Int)), SV.g (Value.int IntKind.i64 (0 : Int)), SV.g (Value.int IntKind.i64 (0 : Int)), SV.g (Value.int IntKind.i64 (0 : Int)), SV.g (Value.int
  IntKind.i64 (0 : Int)), SV.g (Value.bool false), SV.g (Value.string (ByteArray.mk #[]))] = U.cells (uK (6 : Int)) ∧ [SV.g (Value.string (nmOf (kn (IntKind.wrap IntKind.i64 (Int.fdiv (byteAt (ByteArray.extract b (1 : Nat)
  (Int.toNat (IntKind.wrap IntKind.i64 ((1 : Int) + IntKind.wrap IntKind.i64 (byteAt b (0 : Int)))))) (0 : Int)) (16 : Int)))))), SV.g (Value.string (fdOf (kn (IntKind.wrap IntKind.i64 (Int.fdiv (byteAt (ByteArray.extract
  b (1 : Nat) (Int.toNat (IntKind.wrap IntKind.i64 ((1 : Int) + IntKind.wrap IntKind.i64 (byteAt b (0 : Int)))))) (0 : Int)) (16 : Int)))))), SV.g (Value.int IntKind.i64 (loOf (kn (IntKind.wrap IntKind.i64 (Int.fdiv
  (byteAt (ByteArray.extract b (1 : Nat) (Int.toNat (IntKind.wrap IntKind.i64 ((1 : Int) + IntKind.wrap IntKind.i64 (byteAt b (0 : Int)))))) (0 : Int)) (16 : Int)))))), SV.g (Value.int IntKind.i64 (hiOf (kn (IntKind.wrap
  IntKind.i64 (Int.fdiv (byteAt (ByteArray.extract b (1 : Nat) (Int.toNat (IntKind.wrap IntKind.i64 ((1 : Int) + IntKind.wrap IntKind.i64 (byteAt b (0 : Int)))))) (0 : Int)) (16 : Int))))))] = frow (6 : Nat) ∧ True) ∨ (∃
  (x : Unit), (φ0 b ∧ kOf b = (7 : Int)) ∧ b = b ∧ (0 : Nat) = (0 : Nat) ∧ ByteArray.extract b (1 : Nat) (Int.toNat (IntKind.wrap IntKind.i64 ((1 : Int) + IntKind.wrap IntKind.i64 (byteAt b (0 : Int))))) = hOf b ∧
  ByteArray.extract b (Int.toNat (IntKind.wrap IntKind.i64 ((1 : Int) + IntKind.wrap IntKind.i64 (byteAt b (0 : Int))))) (ByteArray.size b) = dOf b ∧ (0 : Nat) = (0 : Nat) ∧ isK (IntKind.wrap IntKind.i64 (Int.fdiv (byteAt
  (ByteArray.extract b (1 : Nat) (Int.toNat (IntKind.wrap IntKind.i64 ((1 : Int) + IntKind.wrap IntKind.i64 (byteAt b (0 : Int)))))) (0 : Int)) (16 : Int))) = true ∧ [SV.g (Value.int IntKind.i64 (IntKind.wrap IntKind.i64
  (Int.fdiv (byteAt (ByteArray.extract b (1 : Nat) (Int.toNat (IntKind.wrap IntKind.i64 ((1 : Int) + IntKind.wrap IntKind.i64 (byteAt b (0 : Int)))))) (0 : Int)) (16 : Int)))), SV.g (Value.int IntKind.i64 (0 : Int)), SV.g
  (Value.int IntKind.i64 (0 : Int)), SV.g (Value.int IntKind.i64 (0 : Int)), SV.g (Value.int IntKind.i64 (0 : Int)), SV.g (Value.int IntKind.i64 (0 : Int)), SV.g (Value.int IntKind.i64 (0 : Int)), SV.g (Value.int
  IntKind.i64 (0 : Int)), SV.g (Value.bool false), SV.g (Value.string (ByteArray.mk #[]))] = U.cells (uK (7 : Int)) ∧ [SV.g (Value.string (nmOf (kn (IntKind.wrap IntKind.i64 (Int.fdiv (byteAt (ByteArray.extract b (1 : Nat)
  (Int.toNat (IntKind.wrap IntKind.i64 ((1 : Int) + IntKind.wrap IntKind.i64 (byteAt b (0 : Int)))))) (0 : Int)) (16 : Int)))))), SV.g (Value.string (fdOf (kn (IntKind.wrap IntKind.i64 (Int.fdiv (byteAt (ByteArray.extract
  b (1 : Nat) (Int.toNat (IntKind.wrap IntKind.i64 ((1 : Int) + IntKind.wrap IntKind.i64 (byteAt b (0 : Int)))))) (0 : Int)) (16 : Int)))))), SV.g (Value.int IntKind.i64 (loOf (kn (IntKind.wrap IntKind.i64 (Int.fdiv
  (byteAt (ByteArray.extract b (1 : Nat) (Int.toNat (IntKind.wrap IntKind.i64 ((1 : Int) + IntKind.wrap IntKind.i64 (byteAt b (0 : Int)))))) (0 : Int)) (16 : Int)))))), SV.g (Value.int IntKind.i64 (hiOf (kn (IntKind.wrap
  IntKind.i64 (Int.fdiv (byteAt (ByteArray.extract b (1 : Nat) (Int.toNat (IntKind.wrap IntKind.i64 ((1 : Int) + IntKind.wrap IntKind.i64 (byteAt b (0 : Int)))))) (0 : Int)) (16 : Int))))))] = frow (7 : Nat) ∧ True) ∨ (∃
  (x : Unit), (φ0 b ∧ kOf b = (8 : Int)) ∧ b = b ∧ (0 : Nat) = (0 : Nat) ∧ ByteArray.extract b (1 : Nat) (Int.toNat (IntKind.wrap IntKind.i64 ((1 : Int) + IntKind.wrap IntKind.i64 (byteAt b (0 : Int))))) = hOf b ∧
  ByteArray.extract b (Int.toNat (IntKind.wrap IntKind.i64 ((1 : Int) + IntKind.wrap IntKind.i64 (byteAt b (0 : Int))))) (ByteArray.size b) = dOf b ∧ (0 : Nat) = (0 : Nat) ∧ isK (IntKind.wrap IntKind.i64 (Int.fdiv (byteAt
  (ByteArray.extract b (1 : Nat) (Int.toNat (IntKind.wrap IntKind.i64 ((1 : Int) + IntKind.wrap IntKind.i64 (byteAt b (0 : Int)))))) (0 : Int)) (16 : Int))) = true ∧ [SV.g (Value.int IntKind.i64 (IntKind.wrap IntKind.i64
  (Int.fdiv (byteAt (ByteArray.extract b (1 : Nat) (Int.toNat (IntKind.wrap IntKind.i64 ((1 : Int) + IntKind.wrap IntKind.i64 (byteAt b (0 : Int)))))) (0 : Int)) (16 : Int)))), SV.g (Value.int IntKind.i64 (0 : Int)), SV.g
  (Value.int IntKind.i64 (0 : Int)), SV.g (Value.int IntKind.i64 (0 : Int)), SV.g (Value.int IntKind.i64 (0 : Int)), SV.g (Value.int IntKind.i64 (0 : Int)), SV.g (Value.int IntKind.i64 (0 : Int)), SV.g (Value.int
  IntKind.i64 (0 : Int)), SV.g (Value.bool false), SV.g (Value.string (ByteArray.mk #[]))] = U.cells (uK (8 : Int)) ∧ [SV.g (Value.string (nmOf (kn (IntKind.wrap IntKind.i64 (Int.fdiv (byteAt (ByteArray.extract b (1 : Nat)
  (Int.toNat (IntKind.wrap IntKind.i64 ((1 : Int) + IntKind.wrap IntKind.i64 (byteAt b (0 : Int)))))) (0 : Int)) (16 : Int)))))), SV.g (Value.string (fdOf (kn (IntKind.wrap IntKind.i64 (Int.fdiv (byteAt (ByteArray.extract
  b (1 : Nat) (Int.toNat (IntKind.wrap IntKind.i64 ((1 : Int) + IntKind.wrap IntKind.i64 (byteAt b (0 : Int)))))) (0 : Int)) (16 : Int)))))), SV.g (Value.int IntKind.i64 (loOf (kn (IntKind.wrap IntKind.i64 (Int.fdiv
  (byteAt (ByteArray.extract b (1 : Nat) (Int.toNat (IntKind.wrap IntKind.i64 ((1 : Int) + IntKind.wrap IntKind.i64 (byteAt b (0 : Int)))))) (0 : Int)) (16 : Int)))))), SV.g (Value.int IntKind.i64 (hiOf (kn (IntKind.wrap
  IntKind.i64 (Int.fdiv (byteAt (ByteArray.extract b (1 : Nat) (Int.toNat (IntKind.wrap IntKind.i64 ((1 : Int) + IntKind.wrap IntKind.i64 (byteAt b (0 : Int)))))) (0 : Int)) (16 : Int))))))] = frow (8 : Nat) ∧ True) ∨ (∃
  (x : Unit), (φ0 b ∧ kOf b = (9 : Int)) ∧ b = b ∧ (0 : Nat) = (0 : Nat) ∧ ByteArray.extract b (1 : Nat) (Int.toNat (IntKind.wrap IntKind.i64 ((1 : Int) + IntKind.wrap IntKind.i64 (byteAt b (0 : Int))))) = hOf b ∧
  ByteArray.extract b (Int.toNat (IntKind.wrap IntKind.i64 ((1 : Int) + IntKind.wrap IntKind.i64 (byteAt b (0 : Int))))) (ByteArray.size b) = dOf b ∧ (0 : Nat) = (0 : Nat) ∧ isK (IntKind.wrap IntKind.i64 (Int.fdiv (byteAt
  (ByteArray.extract b (1 : Nat) (Int.toNat (IntKind.wrap IntKind.i64 ((1 : Int) + IntKind.wrap IntKind.i64 (byteAt b (0 : Int)))))) (0 : Int)) (16 : Int))) = true ∧ [SV.g (Value.int IntKind.i64 (IntKind.wrap IntKind.i64
  (Int.fdiv (byteAt (ByteArray.extract b (1 : Nat) (Int.toNat (IntKind.wrap IntKind.i64 ((1 : Int) + IntKind.wrap IntKind.i64 (byteAt b (0 : Int)))))) (0 : Int)) (16 : Int)))), SV.g (Value.int IntKind.i64 (0 : Int)), SV.g
  (Value.int IntKind.i64 (0 : Int)), SV.g (Value.int IntKind.i64 (0 : Int)), SV.g (Value.int IntKind.i64 (0 : Int)), SV.g (Value.int IntKind.i64 (0 : Int)), SV.g (Value.int IntKind.i64 (0 : Int)), SV.g (Value.int
  IntKind.i64 (0 : Int)), SV.g (Value.bool false), SV.g (Value.string (ByteArray.mk #[]))] = U.cells (uK (9 : Int)) ∧ [SV.g (Value.string (nmOf (kn (IntKind.wrap IntKind.i64 (Int.fdiv (byteAt (ByteArray.extract b (1 : Nat)
  (Int.toNat (IntKind.wrap IntKind.i64 ((1 : Int) + IntKind.wrap IntKind.i64 (byteAt b (0 : Int)))))) (0 : Int)) (16 : Int)))))), SV.g (Value.string (fdOf (kn (IntKind.wrap IntKind.i64 (Int.fdiv (byteAt (ByteArray.extract
  b (1 : Nat) (Int.toNat (IntKind.wrap IntKind.i64 ((1 : Int) + IntKind.wrap IntKind.i64 (byteAt b (0 : Int)))))) (0 : Int)) (16 : Int)))))), SV.g (Value.int IntKind.i64 (loOf (kn (IntKind.wrap IntKind.i64 (Int.fdiv
  (byteAt (ByteArray.extract b (1 : Nat) (Int.toNat (IntKind.wrap IntKind.i64 ((1 : Int) + IntKind.wrap IntKind.i64 (byteAt b (0 : Int)))))) (0 : Int)) (16 : Int)))))), SV.g (Value.int IntKind.i64 (hiOf (kn (IntKind.wrap
  IntKind.i64 (Int.fdiv (byteAt (ByteArray.extract b (1 : Nat) (Int.toNat (IntKind.wrap IntKind.i64 ((1 : Int) + IntKind.wrap IntKind.i64 (byteAt b (0 : Int)))))) (0 : Int)) (16 : Int))))))] = frow (9 : Nat) ∧ True) ∨ ∃ (x
  : Unit), (φ0 b ∧ kOf b = (10 : Int)) ∧ b = b ∧ (0 : Nat) = (0 : Nat) ∧ ByteArray.extract b (1 : Nat) (Int.toNat (IntKind.wrap IntKind.i64 ((1 : Int) + IntKind.wrap IntKind.i64 (byteAt b (0 : Int))))) = hOf b ∧
  ByteArray.extract b (Int.toNat (IntKind.wrap IntKind.i64 ((1 : Int) + IntKind.wrap IntKind.i64 (byteAt b (0 : Int))))) (ByteArray.size b) = dOf b ∧ (0 : Nat) = (0 : Nat) ∧ isK (IntKind.wrap IntKind.i64 (Int.fdiv (byteAt
  (ByteArray.extract b (1 : Nat) (Int.toNat (IntKind.wrap IntKind.i64 ((1 : Int) + IntKind.wrap IntKind.i64 (byteAt b (0 : Int)))))) (0 : Int)) (16 : Int))) = true ∧ [SV.g (Value.int IntKind.i64 (IntKind.wrap IntKind.i64
  (Int.fdiv (byteAt (ByteArray.extract b (1 : Nat) (Int.toNat (IntKind.wrap IntKind.i64 ((1 : Int) + IntKind.wrap IntKind.i64 (byteAt b (0 : Int)))))) (0 : Int)) (16 : Int)))), SV.g (Value.int IntKind.i64 (0 : Int)), SV.g
  (Value.int IntKind.i64 (0 : Int)), SV.g (Value.int IntKind.i64 (0 : Int)), SV.g (Value.int IntKind.i64 (0 : Int)), SV.g (Value.int IntKind.i64 (0 : Int)), SV.g (Value.int IntKind.i64 (0 : Int)), SV.g (Value.int
  IntKind.i64 (0 : Int)), SV.g (Value.bool false), SV.g (Value.string (ByteArray.mk #[]))] = U.cells (uK (10 : Int)) ∧ [SV.g (Value.string (nmOf (kn (IntKind.wrap IntKind.i64 (Int.fdiv (byteAt (ByteArray.extract b (1 :
  Nat) (Int.toNat (IntKind.wrap IntKind.i64 ((1 : Int) + IntKind.wrap IntKind.i64 (byteAt b (0 : Int)))))) (0 : Int)) (16 : Int)))))), SV.g (Value.string (fdOf (kn (IntKind.wrap IntKind.i64 (Int.fdiv (byteAt
  (ByteArray.extract b (1 : Nat) (Int.toNat (IntKind.wrap IntKind.i64 ((1 : Int) + IntKind.wrap IntKind.i64 (byteAt b (0 : Int)))))) (0 : Int)) (16 : Int)))))), SV.g (Value.int IntKind.i64 (loOf (kn (IntKind.wrap
  IntKind.i64 (Int.fdiv (byteAt (ByteArray.extract b (1 : Nat) (Int.toNat (IntKind.wrap IntKind.i64 ((1 : Int) + IntKind.wrap IntKind.i64 (byteAt b (0 : Int)))))) (0 : Int)) (16 : Int)))))), SV.g (Value.int IntKind.i64
  (hiOf (kn (IntKind.wrap IntKind.i64 (Int.fdiv (byteAt (ByteArray.extract b (1 : Nat) (Int.toNat (IntKind.wrap IntKind.i64 ((1 : Int) + IntKind.wrap IntKind.i64 (byteAt b (0 : Int)))))) (0 : Int)) (16 : Int))))))] = frow
  (10 : Nat) ∧ True) ∧ (∀ (x : Unit), φ0 b ∧ ¬((1 : Int) ≤ kOf b ∧ kOf b ≤ (10 : Int)) → (false = true → (0 : Int) ≤ (1 : Int) ∧ (1 : Int) < (↑(ByteArray.size (hOf b)) : Int)) ∧ SV.tup [SV.agg (List.take (10 : Nat)
  (List.drop (0 : Nat) [SV.g (Value.int IntKind.i64 (0 : Int)), SV.g (Value.int IntKind.i64 (0 : Int)), SV.g (Value.int IntKind.i64 (0 : Int)), SV.g (Value.int IntKind.i64 (0 : Int)), SV.g (Value.int IntKind.i64 (0 :
  Int)), SV.g (Value.int IntKind.i64 (0 : Int)), SV.g (Value.int IntKind.i64 (0 : Int)), SV.g (Value.int IntKind.i64 (0 : Int)), SV.g (Value.bool false), SV.g (Value.string (ByteArray.mk #[]))])), SV.g (Value.bool false),
  SV.g (Value.int IntKind.i64 (4 : Int))] = SV.tup [SV.agg (U.cells (Prod.fst (rdT b))), SV.g (Value.bool (Prod.fst (Prod.snd (rdT b)))), SV.g (Value.int IntKind.i64 (Prod.snd (Prod.snd (rdT b))))]) ∧ (∀ (x : Unit), φ0 b ∧
  kOf b = (1 : Int) → ReadK1 b) ∧ (∀ (x : Unit), φ0 b ∧ kOf b = (2 : Int) → ReadK2 b) ∧ (∀ (x : Unit), φ0 b ∧ kOf b = (3 : Int) → ReadK3 b) ∧ (∀ (x : Unit), φ0 b ∧ kOf b = (4 : Int) → ReadK4 b) ∧ (∀ (x : Unit), φ0 b ∧ kOf
  b = (5 : Int) → ReadK5 b) ∧ (∀ (x : Unit), φ0 b ∧ kOf b = (6 : Int) → ReadK6 b) ∧ (∀ (x : Unit), φ0 b ∧ kOf b = (7 : Int) → ReadK7 b) ∧ (∀ (x : Unit), φ0 b ∧ kOf b = (8 : Int) → ReadK8 b) ∧ (∀ (x : Unit), φ0 b ∧ kOf b =
  (9 : Int) → ReadK9 b) ∧ ∀ (x : Unit), φ0 b ∧ kOf b = (10 : Int) → ReadK10 b)))
theorem vcReadE : VcRead = (∀ (b : ByteArray), fnX (cx_Read b) (bodyOf Try.f23) Try.f23.results.toList [.g (.string b)] [] (fun r _ => r = rdR b)) := by kernel_rfl
set_option maxRecDepth 100000 in
set_option maxHeartbeats 4000000 in
theorem vcRead : VcRead := by
  intro b
  have hb0 := byteAt_lt b 0
  have en := n0_eq b
  have ew := n0_wrap b
  have hh0 := byteAt_lt (hOf b) 0
  generalize hx1 : IntKind.wrap IntKind.i64 (1 + IntKind.wrap IntKind.i64 (byteAt b 0)) = x1
  rw [ew] at hx1
  subst hx1
  have ek : IntKind.wrap IntKind.i64 (Int.fdiv (byteAt (hOf b) 0) 16) = kOf b := by
    rw [Int.fdiv_eq_ediv_of_nonneg _ (by decide), wrap1 (by omega) (by omega)]; rfl
  have hk0 : 0 ≤ kOf b ∧ kOf b < 16 := by unfold kOf; omega
  refine (condX_iff _ _ _).2 ⟨fun h => ?_, fun h => ⟨fun g => ?_, (condX_iff _ _ _).2 ⟨fun h2 => ?_, fun h2 => ?_⟩⟩⟩
  · have h := of_decide_eq_true h
    exact rd_err (by unfold rdT; rw [if_pos (by omega)])
  · have : b.size ≠ 0 := by rw [ne_eq, ← size_zero]; simpa using g
    omega
  · have h := of_decide_eq_false h
    simp only [bor, size_zero, Bool.or_eq_true, decide_eq_true_eq] at h2
    have hc : b.size = 0 ∨ b.size < 1 + n0 b := by omega
    exact rd_err (by unfold rdT; rw [if_neg (by omega), if_pos hc])
  have h := of_decide_eq_false h
  simp only [bor, size_zero, Bool.or_eq_false_iff, decide_eq_false_iff_not] at h2
  have g1 : 0 < b.size := by omega
  have g2 : 1 + n0 b ≤ b.size := by omega
  have hsz := hOf_size g2
  generalize hx2 : b.extract 1 ((1 + n0 b : Nat) : Int).toNat = y2
  have hx2 : hOf b = y2 := hx2
  subst hx2
  refine ⟨⟨by omega, by omega⟩, ⟨by omega, by omega⟩, ⟨by omega, by omega⟩, ⟨by omega, by omega⟩, ⟨by omega, by omega⟩, (condX_iff _ _ _).2 ⟨fun h3 => ?_, fun h3 => ?_⟩⟩
  · have h3 : (hOf b).size = 0 := by rw [← size_zero]; simpa using h3
    exact rd_err (by unfold rdT; rw [if_neg (by omega), if_neg (by omega), if_pos h3])
  have h3 : (hOf b).size ≠ 0 := by rw [ne_eq, ← size_zero]; simpa using h3
  have hφ : φ0 b := ⟨by omega, by omega, by omega, by omega⟩
  generalize hx3 : IntKind.wrap IntKind.i64 (Int.fdiv (byteAt (hOf b) 0) 16) = x3
  rw [ek] at hx3
  subst hx3
  refine ⟨⟨by omega, by omega⟩, by omega, ?_, fun _ hx => ?_, fun _ hx => ?_, fun _ hx => ?_, fun _ hx => ?_, fun _ hx => ?_, fun _ hx => ?_, fun _ hx => ?_, fun _ hx => ?_, fun _ hx => ?_, fun _ hx => ?_, fun _ hx => ?_⟩
  · by_cases hk : 1 ≤ kOf b ∧ kOf b ≤ 10
    · rcases kcases hk with e | e | e | e | e | e | e | e | e | e
      · refine Or.inr (Or.inl ⟨(), ⟨hφ, e⟩, ?_⟩)
        and_intros <;> first | with_reducible rfl | exact trivial | (rw [e]; rfl) | rfl
      · refine Or.inr (Or.inr (Or.inl ⟨(), ⟨hφ, e⟩, ?_⟩))
        and_intros <;> first | with_reducible rfl | exact trivial | (rw [e]; rfl) | rfl
      · refine Or.inr (Or.inr (Or.inr (Or.inl ⟨(), ⟨hφ, e⟩, ?_⟩)))
        and_intros <;> first | with_reducible rfl | exact trivial | (rw [e]; rfl) | rfl
      · refine Or.inr (Or.inr (Or.inr (Or.inr (Or.inl ⟨(), ⟨hφ, e⟩, ?_⟩))))
        and_intros <;> first | with_reducible rfl | exact trivial | (rw [e]; rfl) | rfl
      · refine Or.inr (Or.inr (Or.inr (Or.inr (Or.inr (Or.inl ⟨(), ⟨hφ, e⟩, ?_⟩)))))
        and_intros <;> first | with_reducible rfl | exact trivial | (rw [e]; rfl) | rfl
      · refine Or.inr (Or.inr (Or.inr (Or.inr (Or.inr (Or.inr (Or.inl ⟨(), ⟨hφ, e⟩, ?_⟩))))))
        and_intros <;> first | with_reducible rfl | exact trivial | (rw [e]; rfl) | rfl
      · refine Or.inr (Or.inr (Or.inr (Or.inr (Or.inr (Or.inr (Or.inr (Or.inl ⟨(), ⟨hφ, e⟩, ?_⟩)))))))
        and_intros <;> first | with_reducible rfl | exact trivial | (rw [e]; rfl) | rfl
      · refine Or.inr (Or.inr (Or.inr (Or.inr (Or.inr (Or.inr (Or.inr (Or.inr (Or.inl ⟨(), ⟨hφ, e⟩, ?_⟩))))))))
        and_intros <;> first | with_reducible rfl | exact trivial | (rw [e]; rfl) | rfl
      · refine Or.inr (Or.inr (Or.inr (Or.inr (Or.inr (Or.inr (Or.inr (Or.inr (Or.inr (Or.inl ⟨(), ⟨hφ, e⟩, ?_⟩)))))))))
        and_intros <;> first | with_reducible rfl | exact trivial | (rw [e]; rfl) | rfl
      · refine Or.inr (Or.inr (Or.inr (Or.inr (Or.inr (Or.inr (Or.inr (Or.inr (Or.inr (Or.inr ⟨(), ⟨hφ, e⟩, ?_⟩)))))))))
        and_intros <;> first | with_reducible rfl | exact trivial | (rw [e]; rfl) | rfl
    · have e : kn (kOf b) = 0 := by simp [kn, hk]
      have e2 : isK (kOf b) = false := by simp [isK, hk]
      refine Or.inl ⟨(), ⟨hφ, hk⟩, ?_⟩
      and_intros <;> first | with_reducible rfl | exact trivial | exact e2 | (rw [e]; rfl) | rfl
  · refine ⟨(fun h => Bool.noConfusion h), ?_⟩
    exact rd_err (by unfold rdT; rw [if_neg (by omega), if_neg (by omega), if_neg h3, if_pos hx.2])
  · exact readK1 hx.1 hx.2
  · exact readK2 hx.1 hx.2
  · exact readK3 hx.1 hx.2
  · exact readK4 hx.1 hx.2
  · exact readK5 hx.1 hx.2
  · exact readK6 hx.1 hx.2
  · exact readK7 hx.1 hx.2
  · exact readK8 hx.1 hx.2
  · exact readK9 hx.1 hx.2
  · exact readK10 hx.1 hx.2
theorem vcReadK : ∀ (b : ByteArray), Held (fnX (cx_Read b) (bodyOf Try.f23) Try.f23.results.toList [.g (.string b)] [] (fun r _ => r = rdR b)) := held1 vcReadE vcRead
end Go.Proofs.Ytghbejmnnfoamaa
