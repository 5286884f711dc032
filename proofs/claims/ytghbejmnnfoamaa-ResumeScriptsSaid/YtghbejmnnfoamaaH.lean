/- Chapter 15: what Read answers; the reference's Read. -/
import Derived.Test.YtghbejmnnfoamaaG
set_option linter.unusedVariables false
set_option linter.unusedSimpArgs false
namespace Go.Proofs.Ytghbejmnnfoamaa
open Go Go.Eng
attribute [local irreducible] condX
def X_parts : XC := ⟨ByteArray × Int, fun | [.g (.string h), .g (.int .i64 k)] => some (h, k) | _ => none, fun x => [.g (.string x.1), .g (.int .i64 x.2)], fun x => 1 ≤ x.2 ∧ x.2 ≤ 10, fun x => partsR x.1 x.2⟩
theorem vcPartsK : ∀ x : ByteArray × Int, 1 ≤ x.2 ∧ x.2 ≤ 10 → Held (fnX cxParts (bodyOf Try.f30) Try.f30.results.toList [.g (.string x.1), .g (.int .i64 x.2)] [] (fun r _ => r = partsR x.1 x.2)) := by
  rintro ⟨h, k⟩ hk
  simp only [] at hk
  rcases kcases hk with rfl | rfl | rfl | rfl | rfl | rfl | rfl | rfl | rfl | rfl
  · exact vcParts1K h
  · exact vcParts2K h
  · exact vcParts3K h
  · exact vcParts4K h
  · exact vcParts5K h
  · exact vcParts6K h
  · exact vcParts7K h
  · exact vcParts8K h
  · exact vcParts9K h
  · exact vcParts10K h
def cxPartsX (_ : ByteArray × Int) : Cx := cxParts
theorem ok_parts : ExactSound Try.prog Λ0 30 X_parts.rule :=
  exact_rule (ty := ty) (Γ := ΓOf Γp) hm tyOK Γp_ok (fnOK_of Try.func30 (by kernel_rfl) (by kernel_rfl)) Try.func30 (body_some (by kernel_rfl)) X_parts Try.ntmps30 (fun _ => Nat.le_of_ble_eq_true rfl) (fun _ => rfl) (fun x => rfl) (fun x => (cxPartsX x).cut) (fun x => (cxPartsX x).loop) fun x h => vcPartsK x h
def Γr : List (Nat × Rule) := (30, .exact X_parts.rule) :: Γ6
theorem Γr_ok : ΓOK Try.prog Λ0 (ΓOf Γr) := (ΓOf_cons ok_parts Γ6_ok)
/-! ### what is read -/
def n0 (b : ByteArray) : Nat := (byteAt b 0).toNat
def hOf (b : ByteArray) : ByteArray := b.extract 1 (1 + n0 b)
def dOf (b : ByteArray) : ByteArray := b.extract (1 + n0 b) b.size
def kOf (b : ByteArray) : Int := byteAt (hOf b) 0 / 16
def lowOf (b : ByteArray) : Int := byteAt (hOf b) 0 % 16
def chk (h : ByteArray) (k : Int) : Bool := decide (h.size = own k + 3) && decide (byteAt h (own k) = 195)
def bare0 (b : ByteArray) (k : Int) : U := { partsU (hOf b) k with cl := if k ≤ 2 then lowOf b else 0, e := decide (k = 5 ∧ lowOf b = 1) }
def bareU (b : ByteArray) (k : Int) : U := { bare0 b k with d := if k = 8 then ⟨#[120]⟩ else ⟨#[]⟩ }
def fullU (b : ByteArray) (k : Int) : U := { bareU b k with d := dOf b }
def lowBad (b : ByteArray) (k : Int) : Prop := if k ≤ 2 then False else if k = 5 then 2 ≤ lowOf b else lowOf b ≠ 0
instance (b : ByteArray) (k : Int) : Decidable (lowBad b k) := by unfold lowBad; infer_instance
def blank (b : ByteArray) (k : Int) : ByteArray := b.extract 0 (2 + own k) ++ ⟨#[0, 0]⟩ ++ dOf b
def sumBad (b : ByteArray) (k : Int) : Prop := chk (hOf b) k = true ∧ sumS (blank b k) ≠ (hOf b).extract (own k + 1) (hOf b).size
instance (b : ByteArray) (k : Int) : Decidable (sumBad b k) := by unfold sumBad; infer_instance
def rd3 (b : ByteArray) (k : Int) : U × Bool × Int :=
  if (hOf b).size ≠ own k ∧ chk (hOf b) k = false then (uZero, false, 4) else if lowBad b k ∨ ¬ okU (bareU b k) then (uZero, false, 4) else
  if sumBad b k then (uZero, false, 11) else if ¬ okU (fullU b k) then (uZero, false, 4) else (fullU b k, chk (hOf b) k, 0)
def rdT (b : ByteArray) : U × Bool × Int :=
  if 4000 < b.size then (uZero, false, 2) else if b.size = 0 ∨ b.size < 1 + n0 b then (uZero, false, 10) else if (hOf b).size = 0 then (uZero, false, 4) else
  if ¬ (1 ≤ kOf b ∧ kOf b ≤ 10) then (uZero, false, 4) else rd3 b (kOf b)
def rdR (b : ByteArray) : SV := .tup [.agg (rdT b).1.cells, .g (.bool (rdT b).2.1), .g (.int .i64 (rdT b).2.2)]
structure φ0 (b : ByteArray) : Prop where
  h1 : b.size ≤ 4000
  h2 : 0 < b.size
  h3 : 1 + n0 b ≤ b.size
  h4 : 0 < (hOf b).size
def annRR (b : ByteArray) : Ann := ⟨Unit, fun _ => ⟨[(0, .g (.string b)), (2, .ptr 0 0 0 0), (5, .g (.string (hOf b))), (6, .g (.string (dOf b))), (7, .g (.int .i64 (kOf b))), (8, .g (.int .i64 (lowOf b)))], [(0, .cells uZero.cells 35)], 1, 0, []⟩,
  fun _ => φ0 b ∧ 1 ≤ kOf b ∧ kOf b ≤ 10, fun _ => 0⟩
structure φ1 (b : ByteArray) : Prop where
  h0 : φ0 b
  h1 : 1 ≤ kOf b
  h2 : kOf b ≤ 10
  h3 : ¬ ((hOf b).size ≠ own (kOf b) ∧ chk (hOf b) (kOf b) = false)
  h4 : ¬ lowBad b (kOf b)
structure φ2 (b : ByteArray) : Prop where
  h0 : φ1 b
  h1 : okU (bareU b (kOf b))
  h2 : ¬ sumBad b (kOf b)
def annR3 (b : ByteArray) : Ann := ⟨Unit, fun _ => ⟨[(0, .g (.string b)), (2, .ptr 0 0 0 0), (5, .g (.string (hOf b))), (6, .g (.string (dOf b))), (7, .g (.int .i64 (kOf b))), (9, .ptr 1 0 0 0), (10, .g (.int .i64 (own (kOf b)))), (11, .g (.bool (chk (hOf b) (kOf b))))],
  [(0, .cells uZero.cells 35), (1, .cells (bare0 b (kOf b)).cells 35)], 2, 0, []⟩, fun _ => φ1 b, fun _ => 0⟩
def annR4 (b : ByteArray) : Ann := ⟨Unit, fun _ => ⟨[(0, .g (.string b)), (2, .ptr 0 0 0 0), (5, .g (.string (hOf b))), (6, .g (.string (dOf b))), (7, .g (.int .i64 (kOf b))), (9, .ptr 1 0 0 0), (10, .g (.int .i64 (own (kOf b)))), (11, .g (.bool (chk (hOf b) (kOf b)))), (12, .ptr 2 0 0 0)],
  [(0, .cells uZero.cells 35), (1, .cells (bare0 b (kOf b)).cells 35), (2, .cells (bareU b (kOf b)).cells 35)], 3, 0, []⟩, fun _ => φ1 b, fun _ => 0⟩
def annR5 (b : ByteArray) : Ann := ⟨Unit, fun _ => ⟨[(2, .ptr 0 0 0 0), (6, .g (.string (dOf b))), (9, .ptr 1 0 0 0), (11, .g (.bool (chk (hOf b) (kOf b))))],
  [(0, .cells uZero.cells 35), (1, .cells (bare0 b (kOf b)).cells 35)], 2, 0, []⟩, fun _ => φ2 b, fun _ => 0⟩
def cx_rRead (b : ByteArray) : Cx := ⟨ty, ΓOf Γr, fun i => if i = 13 then [annRR b] else if i = 23 then [annR3 b] else if i = 26 then [annR4 b] else if i = 32 then [annR5 b] else [], fun _ _ => [], 139, 0⟩
theorem bor (p q : Bool) : (bif p then true else q) = (p || q) := by cases p <;> rfl
theorem band (p q : Bool) : (bif p then q else false) = (p && q) := by cases p <;> rfl
theorem own_le {k : Int} (h : 1 ≤ k ∧ k ≤ 10) : own k ≤ 9 := by
  rcases kcases h with rfl | rfl | rfl | rfl | rfl | rfl | rfl | rfl | rfl | rfl <;> decide
theorem n0_eq (b : ByteArray) : ((n0 b : Nat) : Int) = byteAt b 0 := by have := byteAt_lt b 0; unfold n0; omega
theorem n0_wrap (b : ByteArray) : IntKind.wrap IntKind.i64 (1 + IntKind.wrap IntKind.i64 (byteAt b 0)) = ((1 + n0 b : Nat) : Int) := by
  have := byteAt_lt b 0
  have e := n0_eq b
  rw [wrapB, wrap1 (by omega) (by omega)]; omega
theorem hOf_size {b : ByteArray} (h : 1 + n0 b ≤ b.size) : (hOf b).size = n0 b := by unfold hOf; rw [size_ext]; omega
theorem dOf_size {b : ByteArray} : (dOf b).size = b.size - (1 + n0 b) := by unfold dOf; rw [size_ext]; omega
theorem rd_err {b : ByteArray} {e : Int} (h : rdT b = (uZero, false, e)) : SV.tup [SV.agg (List.take 10 (List.drop 0 [SV.g (Value.int IntKind.i64 0), SV.g (Value.int IntKind.i64 0), SV.g (Value.int IntKind.i64 0), SV.g (Value.int IntKind.i64 0), SV.g (Value.int IntKind.i64 0), SV.g (Value.int IntKind.i64 0), SV.g (Value.int IntKind.i64 0), SV.g (Value.int IntKind.i64 0), SV.g (Value.bool false), SV.g (Value.string (ByteArray.mk #[]))])), SV.g (Value.bool false), SV.g (Value.int IntKind.i64 e)] =
    SV.tup [SV.agg (rdT b).1.cells, SV.g (Value.bool (rdT b).2.1), SV.g (Value.int IntKind.i64 (rdT b).2.2)] := by rw [h]; rfl
theorem rd_3 {b : ByteArray} (h : φ0 b) (hk : 1 ≤ kOf b ∧ kOf b ≤ 10) : rdT b = rd3 b (kOf b) := by
  obtain ⟨h1, h2, h3, h4⟩ := h
  unfold rdT
  rw [if_neg (by omega), if_neg (by omega), if_neg (by omega), if_neg (by simpa using hk)]
theorem chk_eq (b : ByteArray) {k : Int} (hk : 1 ≤ k ∧ k ≤ 10) : (bif ((hOf b).size : Int) == IntKind.wrap IntKind.i64 ((own k : Int) + 3) then byteAt (hOf b) (own k) == 195 else false) = chk (hOf b) k := by
  have := own_le hk
  rw [wrap1 (by omega) (by omega), chk, Bool.cond_eq_ite]
  by_cases h : (hOf b).size = own k + 3
  · have : (((hOf b).size : Int) == (own k : Int) + 3) = true := by simp; omega
    rw [if_pos this, h]; simp; rfl
  · have : (((hOf b).size : Int) == (own k : Int) + 3) = false := by simp; omega
    rw [this]; simp [h]
def Hq0  := (List.take (10 : Nat) (List.drop (0 : Nat) [SV.g (Value.int IntKind.i64 (0 : Int)), SV.g (Value.int IntKind.i64 (0 : Int)), SV.g (Value.int IntKind.i64 (0 : Int)), SV.g (Value.int IntKind.i64 (0 : Int)), SV.g (Value.int
  IntKind.i64 (0 : Int)), SV.g (Value.int IntKind.i64 (0 : Int)), SV.g (Value.int IntKind.i64 (0 : Int)), SV.g (Value.int IntKind.i64 (0 : Int)), SV.g (Value.bool false), SV.g (Value.string (ByteArray.mk #[]))]))
def Hq1 (b : ByteArray) := (SV.tup [SV.agg (Hq0), SV.g (Value.bool false), SV.g (Value.int IntKind.i64 (4 : Int))] = SV.tup [SV.agg (U.cells (Prod.fst (rdT b))), SV.g (Value.bool (Prod.fst (Prod.snd (rdT b)))), SV.g (Value.int IntKind.i64
  (Prod.snd (Prod.snd (rdT b))))])
def Hq2 (b : ByteArray) := (Int.toNat (IntKind.wrap IntKind.i64 ((1 : Int) + IntKind.wrap IntKind.i64 (byteAt b (0 : Int)))))
def Hq3 (b : ByteArray) := (Int.toNat (IntKind.wrap IntKind.i64 (IntKind.wrap IntKind.i64 ((1 : Int) + (↑(own (kOf b)) : Int)) + (1 : Int))))
def Hq4 (b : ByteArray) := (Value.int IntKind.i64 (pv (hs (kOf b) (102 : Int)) (hOf b) (a2 (kOf b)) (2 : Nat)))
def Hq5 (b : ByteArray) := (Value.int IntKind.i64 (pv (hs (kOf b) (115 : Int)) (hOf b) (a6 (kOf b)) (1 : Nat)))
def Hq6 (b : ByteArray) := (Value.int IntKind.i64 (pv (hs (kOf b) (110 : Int)) (hOf b) (a3 (kOf b)) (4 : Nat)))
def Hq7 (b : ByteArray) := (Value.int IntKind.i64 (pv (hs (kOf b) (114 : Int)) (hOf b) (a5 (kOf b)) (1 : Nat)))
def VcRRead : Prop := ∀ (b : ByteArray), True → condX (decide ((4000 : Int) < (↑(ByteArray.size b) : Int))) (SV.tup [SV.agg (Hq0), SV.g (Value.bool false), SV.g (Value.int IntKind.i64 (2 : Int))] = SV.tup [SV.agg (U.cells (Prod.fst (rdT b))),
  SV.g (Value.bool (Prod.fst (Prod.snd (rdT b)))), SV.g (Value.int IntKind.i64 (Prod.snd (Prod.snd (rdT b))))]) (((!decide (b = ByteArray.mk #[])) = true → (0 : Int) ≤ (0 : Int) ∧ (0 : Int) < (↑(ByteArray.size b) : Int)) ∧
  condX (bif decide (b = ByteArray.mk #[]) then true else decide ((↑(ByteArray.size b) : Int) < IntKind.wrap IntKind.i64 ((1 : Int) + IntKind.wrap IntKind.i64 (byteAt b (0 : Int))))) (SV.tup [SV.agg (Hq0), SV.g (Value.bool
  false), SV.g (Value.int IntKind.i64 (10 : Int))] = SV.tup [SV.agg (U.cells (Prod.fst (rdT b))), SV.g (Value.bool (Prod.fst (Prod.snd (rdT b)))), SV.g (Value.int IntKind.i64 (Prod.snd (Prod.snd (rdT b))))]) (((0 : Int) ≤
  (0 : Int) ∧ (0 : Int) < (↑(ByteArray.size b) : Int)) ∧ ((0 : Int) ≤ IntKind.wrap IntKind.i64 ((1 : Int) + IntKind.wrap IntKind.i64 (byteAt b (0 : Int))) ∧ IntKind.wrap IntKind.i64 ((1 : Int) + IntKind.wrap IntKind.i64
  (byteAt b (0 : Int))) ≤ (↑(ByteArray.size b) : Int)) ∧ ((0 : Int) ≤ (1 : Int) ∧ (1 : Int) ≤ IntKind.wrap IntKind.i64 ((1 : Int) + IntKind.wrap IntKind.i64 (byteAt b (0 : Int)))) ∧ ((0 : Int) ≤ (0 : Int) ∧ (0 : Int) <
  (↑(ByteArray.size b) : Int)) ∧ ((0 : Int) ≤ IntKind.wrap IntKind.i64 ((1 : Int) + IntKind.wrap IntKind.i64 (byteAt b (0 : Int))) ∧ IntKind.wrap IntKind.i64 ((1 : Int) + IntKind.wrap IntKind.i64 (byteAt b (0 : Int))) ≤
  (↑(ByteArray.size b) : Int)) ∧ condX (decide (ByteArray.extract b (1 : Nat) (Hq2 b) = ByteArray.mk #[])) (Hq1 b) (((0 : Int) ≤ (0 : Int) ∧ (0 : Int) < (↑(ByteArray.size (ByteArray.extract b (1 : Nat) (Hq2 b))) : Int)) ∧
  (16 : Int) ≠ (0 : Int) ∧ ((0 : Int) ≤ (0 : Int) ∧ (0 : Int) < (↑(ByteArray.size (ByteArray.extract b (1 : Nat) (Hq2 b))) : Int)) ∧ (16 : Int) ≠ (0 : Int) ∧ condX (bif decide (IntKind.wrap IntKind.i64 (Int.tdiv
  (IntKind.wrap IntKind.i64 (byteAt (ByteArray.extract b (1 : Nat) (Hq2 b)) (0 : Int))) (16 : Int)) < (1 : Int)) then true else decide ((10 : Int) < IntKind.wrap IntKind.i64 (Int.tdiv (IntKind.wrap IntKind.i64 (byteAt
  (ByteArray.extract b (1 : Nat) (Hq2 b)) (0 : Int))) (16 : Int)))) (Hq1 b) (∃ (x : Unit), (φ0 b ∧ (1 : Int) ≤ kOf b ∧ kOf b ≤ (10 : Int)) ∧ b = b ∧ (0 : Nat) = (0 : Nat) ∧ ByteArray.extract b (1 : Nat) (Hq2 b) = hOf b ∧
  ByteArray.extract b (Hq2 b) (ByteArray.size b) = dOf b ∧ IntKind.wrap IntKind.i64 (Int.tdiv (IntKind.wrap IntKind.i64 (byteAt (ByteArray.extract b (1 : Nat) (Hq2 b)) (0 : Int))) (16 : Int)) = kOf b ∧ Int.tmod
  (IntKind.wrap IntKind.i64 (byteAt (ByteArray.extract b (1 : Nat) (Hq2 b)) (0 : Int))) (16 : Int) = lowOf b ∧ [SV.g (Value.int IntKind.i64 (0 : Int)), SV.g (Value.int IntKind.i64 (0 : Int)), SV.g (Value.int IntKind.i64 (0
  : Int)), SV.g (Value.int IntKind.i64 (0 : Int)), SV.g (Value.int IntKind.i64 (0 : Int)), SV.g (Value.int IntKind.i64 (0 : Int)), SV.g (Value.int IntKind.i64 (0 : Int)), SV.g (Value.int IntKind.i64 (0 : Int)), SV.g
  (Value.bool false), SV.g (Value.string (ByteArray.mk #[]))] = U.cells uZero ∧ True) ∧ ∀ (x : Unit), φ0 b ∧ (1 : Int) ≤ kOf b ∧ kOf b ≤ (10 : Int) → [SV.g (Value.string (hOf b)), SV.g (Value.int IntKind.i64 (kOf b))] =
  [SV.g (Value.string (hOf b)), SV.g (Value.int IntKind.i64 (kOf b))] ∧ ((1 : Int) ≤ kOf b ∧ kOf b ≤ (10 : Int)) ∧ (((↑(ByteArray.size (hOf b)) : Int) == IntKind.wrap IntKind.i64 ((↑(own (kOf b)) : Int) + (3 : Int))) =
  true → (0 : Int) ≤ (↑(own (kOf b)) : Int) ∧ (↑(own (kOf b)) : Int) < (↑(ByteArray.size (hOf b)) : Int)) ∧ condX (bif (↑(ByteArray.size (hOf b)) : Int) != (↑(own (kOf b)) : Int) then !bif (↑(ByteArray.size (hOf b)) : Int)
  == IntKind.wrap IntKind.i64 ((↑(own (kOf b)) : Int) + (3 : Int)) then byteAt (hOf b) (↑(own (kOf b)) : Int) == (195 : Int) else false else false) (Hq1 b) ((((0 : Int) ≤ kOf b ∧ kOf b < (11 : Int)) ∧ condX (hasB (fdOf
  (Int.toNat (kOf b))) (115 : Int)) (∃ (x : Unit), φ1 b ∧ b = b ∧ (0 : Nat) = (0 : Nat) ∧ hOf b = hOf b ∧ dOf b = dOf b ∧ kOf b = kOf b ∧ (0 : Nat) = (0 : Nat) ∧ (↑(own (kOf b)) : Int) = (↑(own (kOf b)) : Int) ∧ (bif
  (↑(ByteArray.size (hOf b)) : Int) == IntKind.wrap IntKind.i64 ((↑(own (kOf b)) : Int) + (3 : Int)) then byteAt (hOf b) (↑(own (kOf b)) : Int) == (195 : Int) else false) = chk (hOf b) (kOf b) ∧ U.cells uZero = U.cells
  uZero ∧ [SV.g (Value.int IntKind.i64 (kOf b)), SV.g (Value.int IntKind.i64 (pv (hs (kOf b) (116 : Int)) (hOf b) (1 : Nat) (2 : Nat))), SV.g (Hq4 b), SV.g (Value.int IntKind.i64 (lowOf b)), SV.g (Hq5 b), SV.g (Hq6 b),
  SV.g (Value.int IntKind.i64 (pv (hs (kOf b) (99 : Int)) (hOf b) (a4 (kOf b)) (1 : Nat))), SV.g (Hq7 b), SV.g (Value.bool false), SV.g (Value.string (ByteArray.mk #[]))] = U.cells (bare0 b (kOf b)) ∧ True) (condX (bif kOf
  b == (5 : Int) then decide (lowOf b < (2 : Int)) else false) (∃ (x : Unit), φ1 b ∧ b = b ∧ (0 : Nat) = (0 : Nat) ∧ hOf b = hOf b ∧ dOf b = dOf b ∧ kOf b = kOf b ∧ (0 : Nat) = (0 : Nat) ∧ (↑(own (kOf b)) : Int) = (↑(own
  (kOf b)) : Int) ∧ (bif (↑(ByteArray.size (hOf b)) : Int) == IntKind.wrap IntKind.i64 ((↑(own (kOf b)) : Int) + (3 : Int)) then byteAt (hOf b) (↑(own (kOf b)) : Int) == (195 : Int) else false) = chk (hOf b) (kOf b) ∧
  U.cells uZero = U.cells uZero ∧ [SV.g (Value.int IntKind.i64 (kOf b)), SV.g (Value.int IntKind.i64 (pv (hs (kOf b) (116 : Int)) (hOf b) (1 : Nat) (2 : Nat))), SV.g (Hq4 b), SV.g (Value.int IntKind.i64 (0 : Int)), SV.g
  (Hq5 b), SV.g (Hq6 b), SV.g (Value.int IntKind.i64 (pv (hs (kOf b) (99 : Int)) (hOf b) (a4 (kOf b)) (1 : Nat))), SV.g (Hq7 b), SV.g (Value.bool (lowOf b == (1 : Int))), SV.g (Value.string (ByteArray.mk #[]))] = U.cells
  (bare0 b (kOf b)) ∧ True) (condX (lowOf b != (0 : Int)) (Hq1 b) (∃ (x : Unit), φ1 b ∧ b = b ∧ (0 : Nat) = (0 : Nat) ∧ hOf b = hOf b ∧ dOf b = dOf b ∧ kOf b = kOf b ∧ (0 : Nat) = (0 : Nat) ∧ (↑(own (kOf b)) : Int) =
  (↑(own (kOf b)) : Int) ∧ (bif (↑(ByteArray.size (hOf b)) : Int) == IntKind.wrap IntKind.i64 ((↑(own (kOf b)) : Int) + (3 : Int)) then byteAt (hOf b) (↑(own (kOf b)) : Int) == (195 : Int) else false) = chk (hOf b) (kOf b)
  ∧ U.cells uZero = U.cells uZero ∧ [SV.g (Value.int IntKind.i64 (kOf b)), SV.g (Value.int IntKind.i64 (pv (hs (kOf b) (116 : Int)) (hOf b) (1 : Nat) (2 : Nat))), SV.g (Hq4 b), SV.g (Value.int IntKind.i64 (0 : Int)), SV.g
  (Hq5 b), SV.g (Hq6 b), SV.g (Value.int IntKind.i64 (pv (hs (kOf b) (99 : Int)) (hOf b) (a4 (kOf b)) (1 : Nat))), SV.g (Hq7 b), SV.g (Value.bool false), SV.g (Value.string (ByteArray.mk #[]))] = U.cells (bare0 b (kOf b))
  ∧ True)))) ∧ ∀ (x : Unit), φ1 b → condX (kOf b == (8 : Int)) (∃ (x : Unit), φ1 b ∧ b = b ∧ (0 : Nat) = (0 : Nat) ∧ hOf b = hOf b ∧ dOf b = dOf b ∧ kOf b = kOf b ∧ (0 : Nat) = (0 : Nat) ∧ (↑(own (kOf b)) : Int) = (↑(own
  (kOf b)) : Int) ∧ chk (hOf b) (kOf b) = chk (hOf b) (kOf b) ∧ (0 : Nat) = (0 : Nat) ∧ U.cells uZero = U.cells uZero ∧ U.cells (bare0 b (kOf b)) = U.cells (bare0 b (kOf b)) ∧ [SV.g (Value.int IntKind.i64 (kOf b)), SV.g
  (Value.int IntKind.i64 (pv (hs (kOf b) (116 : Int)) (hOf b) (1 : Nat) (2 : Nat))), SV.g (Hq4 b), SV.g (Value.int IntKind.i64 (if kOf b ≤ (2 : Int) then lowOf b else (0 : Int))), SV.g (Hq5 b), SV.g (Hq6 b), SV.g
  (Value.int IntKind.i64 (pv (hs (kOf b) (99 : Int)) (hOf b) (a4 (kOf b)) (1 : Nat))), SV.g (Hq7 b), SV.g (Value.bool (decide (kOf b = (5 : Int) ∧ lowOf b = (1 : Int)))), SV.g (Value.string (ByteArray.mk #[(120 :
  UInt8)]))] = U.cells (bareU b (kOf b)) ∧ True) (∃ (x : Unit), φ1 b ∧ b = b ∧ (0 : Nat) = (0 : Nat) ∧ hOf b = hOf b ∧ dOf b = dOf b ∧ kOf b = kOf b ∧ (0 : Nat) = (0 : Nat) ∧ (↑(own (kOf b)) : Int) = (↑(own (kOf b)) : Int)
  ∧ chk (hOf b) (kOf b) = chk (hOf b) (kOf b) ∧ (0 : Nat) = (0 : Nat) ∧ U.cells uZero = U.cells uZero ∧ U.cells (bare0 b (kOf b)) = U.cells (bare0 b (kOf b)) ∧ [SV.g (Value.int IntKind.i64 (kOf b)), SV.g (Value.int
  IntKind.i64 (pv (hs (kOf b) (116 : Int)) (hOf b) (1 : Nat) (2 : Nat))), SV.g (Hq4 b), SV.g (Value.int IntKind.i64 (if kOf b ≤ (2 : Int) then lowOf b else (0 : Int))), SV.g (Hq5 b), SV.g (Hq6 b), SV.g (Value.int
  IntKind.i64 (pv (hs (kOf b) (99 : Int)) (hOf b) (a4 (kOf b)) (1 : Nat))), SV.g (Hq7 b), SV.g (Value.bool (decide (kOf b = (5 : Int) ∧ lowOf b = (1 : Int)))), SV.g (Value.string (ByteArray.mk #[]))] = U.cells (bareU b
  (kOf b)) ∧ True) ∧ ∀ (x : Unit), φ1 b → condX (!decide (okU (U.mk (kOf b) (pv (hs (kOf b) (116 : Int)) (hOf b) (1 : Nat) (2 : Nat)) (pv (hs (kOf b) (102 : Int)) (hOf b) (a2 (kOf b)) (2 : Nat)) (if kOf b ≤ (2 : Int) then
  lowOf b else (0 : Int)) (pv (hs (kOf b) (115 : Int)) (hOf b) (a6 (kOf b)) (1 : Nat)) (pv (hs (kOf b) (110 : Int)) (hOf b) (a3 (kOf b)) (4 : Nat)) (pv (hs (kOf b) (99 : Int)) (hOf b) (a4 (kOf b)) (1 : Nat)) (pv (hs (kOf
  b) (114 : Int)) (hOf b) (a5 (kOf b)) (1 : Nat)) (decide (kOf b = (5 : Int) ∧ lowOf b = (1 : Int))) (if kOf b = (8 : Int) then ByteArray.mk #[(120 : UInt8)] else ByteArray.mk #[])))) (Hq1 b) (condX (chk (hOf b) (kOf b))
  (((0 : Int) ≤ IntKind.wrap IntKind.i64 (IntKind.wrap IntKind.i64 ((1 : Int) + (↑(own (kOf b)) : Int)) + (1 : Int)) ∧ IntKind.wrap IntKind.i64 (IntKind.wrap IntKind.i64 ((1 : Int) + (↑(own (kOf b)) : Int)) + (1 : Int)) ≤
  (↑(ByteArray.size b) : Int)) ∧ ByteArray.size (ByteArray.extract b (0 : Nat) (Hq3 b)) + (2 : Nat) ≤ (9223372036854775807 : Nat) ∧ ByteArray.size (ByteArray.extract b (0 : Nat) (Hq3 b) ++ ByteArray.mk #[(0 : UInt8), (0 :
  UInt8)]) + ByteArray.size (dOf b) ≤ (9223372036854775807 : Nat) ∧ [SV.g (Value.string (ByteArray.extract b (0 : Nat) (Hq3 b) ++ ByteArray.mk #[(0 : UInt8), (0 : UInt8)] ++ dOf b))] = [SV.g (Value.string
  (ByteArray.extract b (0 : Nat) (Hq3 b) ++ ByteArray.mk #[(0 : UInt8), (0 : UInt8)] ++ dOf b))] ∧ True ∧ ((0 : Int) ≤ IntKind.wrap IntKind.i64 ((↑(own (kOf b)) : Int) + (1 : Int)) ∧ IntKind.wrap IntKind.i64 ((↑(own (kOf
  b)) : Int) + (1 : Int)) ≤ (↑(ByteArray.size (hOf b)) : Int)) ∧ condX (!decide (sumS (ByteArray.extract b (0 : Nat) (Hq3 b) ++ ByteArray.mk #[(0 : UInt8), (0 : UInt8)] ++ dOf b) = ByteArray.extract (hOf b) (Int.toNat
  (IntKind.wrap IntKind.i64 ((↑(own (kOf b)) : Int) + (1 : Int)))) (ByteArray.size (hOf b)))) (SV.tup [SV.agg (Hq0), SV.g (Value.bool false), SV.g (Value.int IntKind.i64 (11 : Int))] = SV.tup [SV.agg (U.cells (Prod.fst
  (rdT b))), SV.g (Value.bool (Prod.fst (Prod.snd (rdT b)))), SV.g (Value.int IntKind.i64 (Prod.snd (Prod.snd (rdT b))))]) (∃ (x : Unit), φ2 b ∧ (0 : Nat) = (0 : Nat) ∧ dOf b = dOf b ∧ (0 : Nat) = (0 : Nat) ∧ chk (hOf b)
  (kOf b) = chk (hOf b) (kOf b) ∧ U.cells uZero = U.cells uZero ∧ U.cells (bare0 b (kOf b)) = U.cells (bare0 b (kOf b)) ∧ True)) (∃ (x : Unit), φ2 b ∧ (0 : Nat) = (0 : Nat) ∧ dOf b = dOf b ∧ (0 : Nat) = (0 : Nat) ∧ chk
  (hOf b) (kOf b) = chk (hOf b) (kOf b) ∧ U.cells uZero = U.cells uZero ∧ U.cells (bare0 b (kOf b)) = U.cells (bare0 b (kOf b)) ∧ True) ∧ ∀ (x : Unit), φ2 b → condX (!decide (okU (U.mk (kOf b) (pv (hs (kOf b) (116 : Int))
  (hOf b) (1 : Nat) (2 : Nat)) (pv (hs (kOf b) (102 : Int)) (hOf b) (a2 (kOf b)) (2 : Nat)) (if kOf b ≤ (2 : Int) then lowOf b else (0 : Int)) (pv (hs (kOf b) (115 : Int)) (hOf b) (a6 (kOf b)) (1 : Nat)) (pv (hs (kOf b)
  (110 : Int)) (hOf b) (a3 (kOf b)) (4 : Nat)) (pv (hs (kOf b) (99 : Int)) (hOf b) (a4 (kOf b)) (1 : Nat)) (pv (hs (kOf b) (114 : Int)) (hOf b) (a5 (kOf b)) (1 : Nat)) (decide (kOf b = (5 : Int) ∧ lowOf b = (1 : Int)))
  (dOf b)))) (Hq1 b) (SV.tup [SV.agg (List.take (10 : Nat) (List.drop (0 : Nat) [SV.g (Value.int IntKind.i64 (kOf b)), SV.g (Value.int IntKind.i64 (pv (hs (kOf b) (116 : Int)) (hOf b) (1 : Nat) (2 : Nat))), SV.g (Hq4 b),
  SV.g (Value.int IntKind.i64 (if kOf b ≤ (2 : Int) then lowOf b else (0 : Int))), SV.g (Hq5 b), SV.g (Hq6 b), SV.g (Value.int IntKind.i64 (pv (hs (kOf b) (99 : Int)) (hOf b) (a4 (kOf b)) (1 : Nat))), SV.g (Hq7 b), SV.g
  (Value.bool (decide (kOf b = (5 : Int) ∧ lowOf b = (1 : Int)))), SV.g (Value.string (dOf b))])), SV.g (Value.bool (chk (hOf b) (kOf b))), SV.g (Value.int IntKind.i64 (0 : Int))] = SV.tup [SV.agg (U.cells (Prod.fst (rdT
  b))), SV.g (Value.bool (Prod.fst (Prod.snd (rdT b)))), SV.g (Value.int IntKind.i64 (Prod.snd (Prod.snd (rdT b))))]))))))
theorem vcRReadE : VcRRead = (∀ (b : ByteArray), True → fnX (cx_rRead b) (bodyOf Try.f12) Try.f12.results.toList [.g (.string b)] [] (fun r _ => r = rdR b)) := by kernel_rfl
set_option maxHeartbeats 4000000 in
theorem vcRRead : VcRRead := by
  unfold VcRRead Hq7 Hq6 Hq5 Hq4 Hq3 Hq2 Hq1 Hq0
  intro b _
  have hb0 := byteAt_lt b 0
  have en := n0_eq b
  have ew := n0_wrap b
  have ew2 : ((1 + n0 b : Nat) : Int).toNat = 1 + n0 b := rfl
  have eh : b.extract 1 (1 + n0 b) = hOf b := rfl
  have hh0 := byteAt_lt (hOf b) 0
  have ek : IntKind.wrap IntKind.i64 (Int.tdiv (IntKind.wrap IntKind.i64 (byteAt (hOf b) 0)) 16) = kOf b := by
    rw [wrapB, Int.tdiv_eq_ediv_of_nonneg (by omega), wrap1 (by omega) (by omega)]; rfl
  have el : Int.tmod (IntKind.wrap IntKind.i64 (byteAt (hOf b) 0)) 16 = lowOf b := by
    rw [wrapB, tmod_nn (by omega)]; rfl
  simp only [ew, ew2, eh, ek, el]
  refine (condX_iff _ _ _).2 ⟨fun h => ?_, fun h => ⟨fun g => ?_, (condX_iff _ _ _).2 ⟨fun h2 => ?_, fun h2 => ?_⟩⟩⟩
  · have h := of_decide_eq_true h
    exact rd_err (by unfold rdT; rw [if_pos (by omega)])
  · have : b.size ≠ 0 := by rw [ne_eq, ← size_zero]; simpa using g
    omega
  · have h := of_decide_eq_false h
    simp only [bor, size_zero, Bool.or_eq_true, decide_eq_true_eq] at h2
    have hc : b.size = 0 ∨ b.size < 1 + n0 b := by omega
    exact rd_err (by unfold rdT; rw [if_neg (by omega), if_pos hc])
  have h := of_decide_eq_false h
  simp only [bor, size_zero, Bool.or_eq_false_iff, decide_eq_false_iff_not] at h2
  have g1 : 0 < b.size := by omega
  have g2 : 1 + n0 b ≤ b.size := by omega
  have hsz := hOf_size g2
  have hds := @dOf_size b
  and_intros
  any_goals omega
  refine (condX_iff _ _ _).2 ⟨fun h3 => ?_, fun h3 => ?_⟩
  · have h3 : (hOf b).size = 0 := by rw [← size_zero]; simpa using h3
    exact rd_err (by unfold rdT; rw [if_neg (by omega), if_neg (by omega), if_pos h3])
  have h3 : (hOf b).size ≠ 0 := by rw [ne_eq, ← size_zero]; simpa using h3
  and_intros
  any_goals omega
  · refine (condX_iff _ _ _).2 ⟨fun h4 => ?_, fun h4 => ⟨(), ?_⟩⟩
    · simp only [bor, Bool.or_eq_true, decide_eq_true_eq] at h4
      exact rd_err (by unfold rdT; rw [if_neg (by omega), if_neg (by omega), if_neg h3, if_pos (by omega)])
    · simp only [bor, Bool.or_eq_false_iff, decide_eq_false_iff_not] at h4
      and_intros <;> first | exact ⟨by omega, by omega, by omega, by omega⟩ | exact trivial | omega | rfl
  intro _ hx
  obtain ⟨hφ, hk⟩ := hx
  have ho := own_le hk
  have hce := chk_eq b hk
  have e3 : IntKind.wrap IntKind.i64 ((own (kOf b) : Int) + 3) = (own (kOf b) : Int) + 3 := wrap1 (by omega) (by omega)
  have erd := rd_3 hφ hk
  have hsb : hasB (fdOf (kOf b).toNat) 115 = decide (kOf b ≤ 2) := (kfacts hk).2.2.2.2.2.1
  have hchk : chk (hOf b) (kOf b) = true → (hOf b).size = own (kOf b) + 3 := by
    intro h; simp only [chk, Bool.and_eq_true, decide_eq_true_eq] at h; exact h.1
  rw [e3] at hce
  simp only [e3, hce, hsb]
  and_intros
  any_goals omega
  · intro g; simp at g; omega
  refine (condX_iff _ _ _).2 ⟨fun h5 => ?_, fun h5 => ?_⟩
  · simp only [band, Bool.and_eq_true, bne_iff_ne, Bool.not_eq_true', ne_eq] at h5
    exact rd_err (by rw [erd, rd3, if_pos ⟨by omega, h5.2⟩])
  have hn : ¬ ((hOf b).size ≠ own (kOf b) ∧ chk (hOf b) (kOf b) = false) := by
    rintro ⟨q1, q2⟩
    rw [q2] at h5
    simp at h5; omega
  and_intros
  any_goals omega
  · refine (condX_iff _ _ _).2 ⟨fun h6 => ⟨(), ?_⟩, fun h6 => (condX_iff _ _ _).2 ⟨fun h7 => ⟨(), ?_⟩, fun h7 => (condX_iff _ _ _).2 ⟨fun h8 => ?_, fun h8 => ⟨(), ?_⟩⟩⟩⟩
    · have h6 := of_decide_eq_true h6
      have h5' : ¬ kOf b = 5 := by omega
      and_intros <;> try first | exact trivial | rfl
      · exact ⟨hφ, hk.1, hk.2, hn, by simp [lowBad, h6]⟩
      · simp [U.cells, bare0, partsU, h6, h5']
    · have h6 := of_decide_eq_false h6
      simp only [band, Bool.and_eq_true, beq_iff_eq, decide_eq_true_eq] at h7
      have h7' : ¬ (2 ≤ lowOf b) := by omega
      and_intros <;> try first | exact trivial | rfl
      · exact ⟨hφ, hk.1, hk.2, hn, by rw [lowBad, if_neg h6, if_pos h7.1]; exact h7'⟩
      · simp [U.cells, bare0, partsU, h7.1]; rw [Bool.eq_iff_iff]; simp
    · have h6 := of_decide_eq_false h6
      have h8 : lowOf b ≠ 0 := by simpa using h8
      refine rd_err ?_
      have hlb : lowBad b (kOf b) := by
        rw [lowBad, if_neg h6]
        split
        · rename_i h9
          rw [h9] at h7; simp at h7; exact h7
        · exact h8
      rw [erd, rd3, if_neg hn, if_pos (Or.inl hlb)]
    · have h6 := of_decide_eq_false h6
      have h8 : lowOf b = 0 := by simpa using h8
      and_intros <;> try first | exact trivial | rfl
      · refine ⟨hφ, hk.1, hk.2, hn, ?_⟩
        rw [lowBad, if_neg h6, h8]; split <;> simp
      · simp [U.cells, bare0, partsU, h6, h8]
  intro _ h1
  and_intros
  · refine (condX_iff _ _ _).2 ⟨fun h6 => ⟨(), ?_⟩, fun h6 => ⟨(), ?_⟩⟩
    · have h6 : kOf b = 8 := by simpa using h6
      and_intros <;> try first | exact trivial | exact h1
      simp [U.cells, bareU, bare0, partsU, h6]
    · have h6 : ¬ kOf b = 8 := by simpa using h6
      and_intros <;> try first | exact trivial | exact h1
      simp [U.cells, bareU, bare0, partsU, h6]
  intro _ _
  have hlb := h1.h4
  refine (condX_iff _ _ _).2 ⟨fun h6 => ?_, fun h6 => ?_⟩
  · have h6 : (!decide (okU (bareU b (kOf b)))) = true := h6
    have h6 : ¬ okU (bareU b (kOf b)) := by simpa using h6
    exact rd_err (by rw [erd, rd3, if_neg hn, if_pos (Or.inr h6)])
  have h6 : (!decide (okU (bareU b (kOf b)))) = false := h6
  have h6 : okU (bareU b (kOf b)) := by simpa using h6
  have hne : ¬ (lowBad b (kOf b) ∨ ¬ okU (bareU b (kOf b))) := by simp [hlb, h6]
  have w1 : IntKind.wrap IntKind.i64 (IntKind.wrap IntKind.i64 (1 + (own (kOf b) : Int)) + 1) = ((2 + own (kOf b) : Nat) : Int) := by
    rw [wrap1 (i := 1 + (own (kOf b) : Int)) (by omega) (by omega), wrap1 (by omega) (by omega)]; omega
  have w2 : IntKind.wrap IntKind.i64 ((own (kOf b) : Int) + 1) = ((own (kOf b) + 1 : Nat) : Int) := by rw [wrap1 (by omega) (by omega)]; omega
  generalize hx1 : IntKind.wrap IntKind.i64 (IntKind.wrap IntKind.i64 (1 + (own (kOf b) : Int)) + 1) = x1
  rw [w1] at hx1
  subst hx1
  generalize hx2 : IntKind.wrap IntKind.i64 ((own (kOf b) : Int) + 1) = x2
  rw [w2] at hx2
  subst hx2
  refine ⟨(condX_iff _ _ _).2 ⟨fun h7 => ?_, fun h7 => ?_⟩, fun _ h7 => (condX_iff _ _ _).2 ⟨fun h8 => ?_, fun h8 => ?_⟩⟩
  · have hq := hchk h7
    refine ⟨⟨by omega, by omega⟩, ?_⟩
    refine ⟨by rw [size_ext]; omega, ?_⟩
    refine ⟨by rw [ByteArray.size_append, size_ext]; show _ + 2 + _ ≤ _; omega, ?_⟩
    refine ⟨trivial, trivial, ?_⟩
    refine ⟨⟨by omega, by omega⟩, ?_⟩
    refine (condX_iff _ _ _).2 ⟨fun h8 => ?_, fun h8 => ?_⟩
    · have h8 : sumS (blank b (kOf b)) ≠ (hOf b).extract (own (kOf b) + 1) (hOf b).size := by
        have h8 : (!decide (sumS (blank b (kOf b)) = (hOf b).extract (own (kOf b) + 1) (hOf b).size)) = true := h8
        simpa using h8
      exact rd_err (by rw [erd, rd3, if_neg hn, if_neg hne, if_pos ⟨h7, h8⟩])
    · have h8 : (!decide (sumS (blank b (kOf b)) = (hOf b).extract (own (kOf b) + 1) (hOf b).size)) = false := h8
      have h8 : sumS (blank b (kOf b)) = (hOf b).extract (own (kOf b) + 1) (hOf b).size := by simpa using h8
      exact ⟨(), ⟨h1, h6, fun h => h.2 h8⟩, by and_intros <;> first | exact trivial | rfl⟩
  · exact ⟨(), ⟨h1, h6, fun h => by rw [h.1] at h7; cases h7⟩, by and_intros <;> first | exact trivial | rfl⟩
  · have h8 : (!decide (okU (fullU b (kOf b)))) = true := h8
    have h8 : ¬ okU (fullU b (kOf b)) := by simpa using h8
    exact rd_err (by rw [erd, rd3, if_neg hn, if_neg hne, if_neg h7.h2, if_pos h8])
  · have h8 : (!decide (okU (fullU b (kOf b)))) = false := h8
    have h8 : okU (fullU b (kOf b)) := by simpa using h8
    have e : rdT b = (fullU b (kOf b), chk (hOf b) (kOf b), 0) := by rw [erd, rd3, if_neg hn, if_neg hne, if_neg h7.h2, if_neg (not_not_intro h8)]
    rw [e]; rfl
theorem vcRReadK : ∀ (b : ByteArray), True → Held (fnX (cx_rRead b) (bodyOf Try.f12) Try.f12.results.toList [.g (.string b)] [] (fun r _ => r = rdR b)) := held2 vcRReadE vcRRead
end Go.Proofs.Ytghbejmnnfoamaa
