/- Chapter 18: two sides that tell the same. -/
import Derived.Test.YtghbejmnnfoamaaRi
import Derived.Test.YtghbejmnnfoamaaRo
set_option linter.unusedVariables false
set_option linter.unusedSimpArgs false
namespace Go.Proofs.Ytghbejmnnfoamaa
open Go Go.Eng
attribute [local irreducible] condX
/-! ### same -/
structure NM where
  n : N18
  m : M18
def NM.H (x : NM) : Heap := [(0, .cells (x.n.1.cells (.sl 1 0 10 x.n.2.1.1 x.n.2.1.2) (.sl 2 0 6 x.n.2.2.1 x.n.2.2.2)) 55), (3, .cells (x.m.r.qcells x.m.fi (.sl 4 0 1 x.m.n x.m.c)) 73)]
def getNM (a : List SV) (H : Heap) : Option NM := match a with
  | [x, y] => match getN [x] H, getM [y] H with
    | some n, some m => some ⟨n, m⟩
    | _, _ => none
  | _ => none
def C_same18 : Ctr := ⟨5, NM, fun _ => [.ptr 0 0 0 0, .ptr 3 0 0 0], fun x => x.H, fun x => x.n.1.ow ≠ 0 ∧ x.m.r = x.n.1 ∧ x.m.n = x.n.2.1.1, fun x => [.one True (.g (.bool true)) x.H]⟩
def Γre : List (Nat × Rule) := (19, .gen wtState) :: (11, .gen wtKept) :: (20, .gen wtNumbers) :: (13, .exact X_sane18.rule) :: (9, .gen wtOn) :: (7, .gen (callX C_New18 getN3)) :: (10, .exact X_rWrite.rule) :: (16, .gen (callX C_rEvents getEv2)) :: (15, .gen (callX C_rOn18 getPE)) :: Γrd
theorem Γre_ok : ΓOK Try.prog Λ0 (ΓOf Γre) := ΓOf_cons ok_StateA (ΓOf_cons ok_KeptA (ΓOf_cons ok_NumbersA (ΓOf_cons ok_sane18 (ΓOf_cons ok_OnA (ΓOf_cons ok_New18 (ΓOf_cons ok_rWrite (ΓOf_cons ok_rEvents (ΓOf_cons ok_rOn18 Γrd_ok))))))))
def cx_same18 (_ : NM) : Cx := ⟨ty, ΓOf Γre, fun _ => [], fun _ _ => [], 41, 5⟩
def Rjq0 (x : NM) := ((R18.st (Prod.fst (NM.n x)) == R18.st (M18.r (NM.m x))) = false ∧ (True ∧ false = true ∧ R18.nx (Prod.fst (NM.n x)) = R18.nx (Prod.fst (NM.n x)) ∧ R18.wa (Prod.fst (NM.n x)) = R18.wa (Prod.fst (NM.n x)) ∧ R18.ow
  (Prod.fst (NM.n x)) = R18.ow (Prod.fst (NM.n x)) ∧ R18.ot (Prod.fst (NM.n x)) = R18.ot (Prod.fst (NM.n x)) ∧ R18.ti (Prod.fst (NM.n x)) = R18.ti (Prod.fst (NM.n x)) ∧ R18.st (Prod.fst (NM.n x)) = R18.st (Prod.fst (NM.n
  x)) ∧ R18.le (Prod.fst (NM.n x)) = R18.le (Prod.fst (NM.n x)) ∧ (0 : Nat) = (0 : Nat) ∧ Prod.fst (Prod.fst (Prod.snd (NM.n x))) = Prod.fst (Prod.fst (Prod.snd (NM.n x))) ∧ Prod.snd (Prod.fst (Prod.snd (NM.n x))) =
  Prod.snd (Prod.fst (Prod.snd (NM.n x))) ∧ (0 : Nat) = (0 : Nat) ∧ Prod.fst (Prod.snd (Prod.snd (NM.n x))) = Prod.fst (Prod.snd (Prod.snd (NM.n x))) ∧ Prod.snd (Prod.snd (Prod.snd (NM.n x))) = Prod.snd (Prod.snd (Prod.snd
  (NM.n x))) ∧ true = true ∧ R18.ow (M18.r (NM.m x)) = R18.ow (M18.r (NM.m x)) ∧ R18.ot (M18.r (NM.m x)) = R18.ot (M18.r (NM.m x)) ∧ R18.ti (M18.r (NM.m x)) = R18.ti (M18.r (NM.m x)) ∧ R18.nx (M18.r (NM.m x)) = R18.nx
  (M18.r (NM.m x)) ∧ R18.wa (M18.r (NM.m x)) = R18.wa (M18.r (NM.m x)) ∧ R18.st (M18.r (NM.m x)) = R18.st (M18.r (NM.m x)) ∧ R18.le (M18.r (NM.m x)) = R18.le (M18.r (NM.m x)) ∧ M18.fi (NM.m x) = M18.fi (NM.m x) ∧ (0 : Nat)
  = (0 : Nat) ∧ M18.n (NM.m x) = M18.n (NM.m x) ∧ M18.c (NM.m x) = M18.c (NM.m x) ∧ True ∨ False))
def VcSame18 : Prop := ∀ (x : NM), R18.ow (Prod.fst (NM.n x)) ≠ (0 : Int) ∧ M18.r (NM.m x) = Prod.fst (NM.n x) ∧ M18.n (NM.m x) = Prod.fst (Prod.fst (Prod.snd (NM.n x))) → (0 : Nat) = (0 : Nat) ∧ R18.nx (Prod.fst (NM.n x)) = R18.nx (Prod.fst
  (NM.n x)) ∧ R18.wa (Prod.fst (NM.n x)) = R18.wa (Prod.fst (NM.n x)) ∧ R18.ow (Prod.fst (NM.n x)) = R18.ow (Prod.fst (NM.n x)) ∧ R18.ot (Prod.fst (NM.n x)) = R18.ot (Prod.fst (NM.n x)) ∧ R18.ti (Prod.fst (NM.n x)) =
  R18.ti (Prod.fst (NM.n x)) ∧ R18.st (Prod.fst (NM.n x)) = R18.st (Prod.fst (NM.n x)) ∧ R18.le (Prod.fst (NM.n x)) = R18.le (Prod.fst (NM.n x)) ∧ (0 : Nat) = (0 : Nat) ∧ Prod.fst (Prod.fst (Prod.snd (NM.n x))) = Prod.fst
  (Prod.fst (Prod.snd (NM.n x))) ∧ Prod.snd (Prod.fst (Prod.snd (NM.n x))) = Prod.snd (Prod.fst (Prod.snd (NM.n x))) ∧ (0 : Nat) = (0 : Nat) ∧ Prod.fst (Prod.snd (Prod.snd (NM.n x))) = Prod.fst (Prod.snd (Prod.snd (NM.n
  x))) ∧ Prod.snd (Prod.snd (Prod.snd (NM.n x))) = Prod.snd (Prod.snd (Prod.snd (NM.n x))) ∧ pre18 (NM.n x) ∧ (True → (0 : Nat) = (0 : Nat) ∧ true = true ∧ R18.ow (M18.r (NM.m x)) = R18.ow (M18.r (NM.m x)) ∧ R18.ot (M18.r
  (NM.m x)) = R18.ot (M18.r (NM.m x)) ∧ R18.ti (M18.r (NM.m x)) = R18.ti (M18.r (NM.m x)) ∧ R18.nx (M18.r (NM.m x)) = R18.nx (M18.r (NM.m x)) ∧ R18.wa (M18.r (NM.m x)) = R18.wa (M18.r (NM.m x)) ∧ R18.st (M18.r (NM.m x)) =
  R18.st (M18.r (NM.m x)) ∧ R18.le (M18.r (NM.m x)) = R18.le (M18.r (NM.m x)) ∧ M18.fi (NM.m x) = M18.fi (NM.m x) ∧ (0 : Nat) = (0 : Nat) ∧ M18.n (NM.m x) = M18.n (NM.m x) ∧ M18.c (NM.m x) = M18.c (NM.m x) ∧ True ∧ (True →
  (0 : Nat) = (0 : Nat) ∧ R18.nx (Prod.fst (NM.n x)) = R18.nx (Prod.fst (NM.n x)) ∧ R18.wa (Prod.fst (NM.n x)) = R18.wa (Prod.fst (NM.n x)) ∧ R18.ow (Prod.fst (NM.n x)) = R18.ow (Prod.fst (NM.n x)) ∧ R18.ot (Prod.fst (NM.n
  x)) = R18.ot (Prod.fst (NM.n x)) ∧ R18.ti (Prod.fst (NM.n x)) = R18.ti (Prod.fst (NM.n x)) ∧ R18.st (Prod.fst (NM.n x)) = R18.st (Prod.fst (NM.n x)) ∧ R18.le (Prod.fst (NM.n x)) = R18.le (Prod.fst (NM.n x)) ∧ (0 : Nat) =
  (0 : Nat) ∧ Prod.fst (Prod.fst (Prod.snd (NM.n x))) = Prod.fst (Prod.fst (Prod.snd (NM.n x))) ∧ Prod.snd (Prod.fst (Prod.snd (NM.n x))) = Prod.snd (Prod.fst (Prod.snd (NM.n x))) ∧ (0 : Nat) = (0 : Nat) ∧ Prod.fst
  (Prod.snd (Prod.snd (NM.n x))) = Prod.fst (Prod.snd (Prod.snd (NM.n x))) ∧ Prod.snd (Prod.snd (Prod.snd (NM.n x))) = Prod.snd (Prod.snd (Prod.snd (NM.n x))) ∧ pre18 (NM.n x) ∧ (True → (0 : Nat) = (0 : Nat) ∧ true = true
  ∧ R18.ow (M18.r (NM.m x)) = R18.ow (M18.r (NM.m x)) ∧ R18.ot (M18.r (NM.m x)) = R18.ot (M18.r (NM.m x)) ∧ R18.ti (M18.r (NM.m x)) = R18.ti (M18.r (NM.m x)) ∧ R18.nx (M18.r (NM.m x)) = R18.nx (M18.r (NM.m x)) ∧ R18.wa
  (M18.r (NM.m x)) = R18.wa (M18.r (NM.m x)) ∧ R18.st (M18.r (NM.m x)) = R18.st (M18.r (NM.m x)) ∧ R18.le (M18.r (NM.m x)) = R18.le (M18.r (NM.m x)) ∧ M18.fi (NM.m x) = M18.fi (NM.m x) ∧ (0 : Nat) = (0 : Nat) ∧ M18.n (NM.m
  x) = M18.n (NM.m x) ∧ M18.c (NM.m x) = M18.c (NM.m x) ∧ True ∧ (True → condX (R18.st (Prod.fst (NM.n x)) == R18.st (M18.r (NM.m x))) ((0 : Nat) = (0 : Nat) ∧ R18.nx (Prod.fst (NM.n x)) = R18.nx (Prod.fst (NM.n x)) ∧
  R18.wa (Prod.fst (NM.n x)) = R18.wa (Prod.fst (NM.n x)) ∧ R18.ow (Prod.fst (NM.n x)) = R18.ow (Prod.fst (NM.n x)) ∧ R18.ot (Prod.fst (NM.n x)) = R18.ot (Prod.fst (NM.n x)) ∧ R18.ti (Prod.fst (NM.n x)) = R18.ti (Prod.fst
  (NM.n x)) ∧ R18.st (Prod.fst (NM.n x)) = R18.st (Prod.fst (NM.n x)) ∧ R18.le (Prod.fst (NM.n x)) = R18.le (Prod.fst (NM.n x)) ∧ (0 : Nat) = (0 : Nat) ∧ Prod.fst (Prod.fst (Prod.snd (NM.n x))) = Prod.fst (Prod.fst
  (Prod.snd (NM.n x))) ∧ Prod.snd (Prod.fst (Prod.snd (NM.n x))) = Prod.snd (Prod.fst (Prod.snd (NM.n x))) ∧ (0 : Nat) = (0 : Nat) ∧ Prod.fst (Prod.snd (Prod.snd (NM.n x))) = Prod.fst (Prod.snd (Prod.snd (NM.n x))) ∧
  Prod.snd (Prod.snd (Prod.snd (NM.n x))) = Prod.snd (Prod.snd (Prod.snd (NM.n x))) ∧ pre18 (NM.n x) ∧ (True → condX (R18.st (Prod.fst (NM.n x)) == R18.st (M18.r (NM.m x))) ((0 : Nat) = (0 : Nat) ∧ true = true ∧ R18.ow
  (M18.r (NM.m x)) = R18.ow (M18.r (NM.m x)) ∧ R18.ot (M18.r (NM.m x)) = R18.ot (M18.r (NM.m x)) ∧ R18.ti (M18.r (NM.m x)) = R18.ti (M18.r (NM.m x)) ∧ R18.nx (M18.r (NM.m x)) = R18.nx (M18.r (NM.m x)) ∧ R18.wa (M18.r (NM.m
  x)) = R18.wa (M18.r (NM.m x)) ∧ R18.st (M18.r (NM.m x)) = R18.st (M18.r (NM.m x)) ∧ R18.le (M18.r (NM.m x)) = R18.le (M18.r (NM.m x)) ∧ M18.fi (NM.m x) = M18.fi (NM.m x) ∧ (0 : Nat) = (0 : Nat) ∧ M18.n (NM.m x) = M18.n
  (NM.m x) ∧ M18.c (NM.m x) = M18.c (NM.m x) ∧ True ∧ (True → True ∧ (bif bif bif R18.st (Prod.fst (NM.n x)) == R18.st (M18.r (NM.m x)) then (↑(Prod.fst (Prod.fst (Prod.snd (NM.n x)))) : Int) == (↑(M18.n (NM.m x)) : Int)
  else false then R18.nx (Prod.fst (NM.n x)) == R18.nx (M18.r (NM.m x)) else false then R18.wa (Prod.fst (NM.n x)) == R18.wa (M18.r (NM.m x)) else false) = true ∧ R18.nx (Prod.fst (NM.n x)) = R18.nx (Prod.fst (NM.n x)) ∧
  R18.wa (Prod.fst (NM.n x)) = R18.wa (Prod.fst (NM.n x)) ∧ R18.ow (Prod.fst (NM.n x)) = R18.ow (Prod.fst (NM.n x)) ∧ R18.ot (Prod.fst (NM.n x)) = R18.ot (Prod.fst (NM.n x)) ∧ R18.ti (Prod.fst (NM.n x)) = R18.ti (Prod.fst
  (NM.n x)) ∧ R18.st (Prod.fst (NM.n x)) = R18.st (Prod.fst (NM.n x)) ∧ R18.le (Prod.fst (NM.n x)) = R18.le (Prod.fst (NM.n x)) ∧ (0 : Nat) = (0 : Nat) ∧ Prod.fst (Prod.fst (Prod.snd (NM.n x))) = Prod.fst (Prod.fst
  (Prod.snd (NM.n x))) ∧ Prod.snd (Prod.fst (Prod.snd (NM.n x))) = Prod.snd (Prod.fst (Prod.snd (NM.n x))) ∧ (0 : Nat) = (0 : Nat) ∧ Prod.fst (Prod.snd (Prod.snd (NM.n x))) = Prod.fst (Prod.snd (Prod.snd (NM.n x))) ∧
  Prod.snd (Prod.snd (Prod.snd (NM.n x))) = Prod.snd (Prod.snd (Prod.snd (NM.n x))) ∧ true = true ∧ R18.ow (M18.r (NM.m x)) = R18.ow (M18.r (NM.m x)) ∧ R18.ot (M18.r (NM.m x)) = R18.ot (M18.r (NM.m x)) ∧ R18.ti (M18.r
  (NM.m x)) = R18.ti (M18.r (NM.m x)) ∧ R18.nx (M18.r (NM.m x)) = R18.nx (M18.r (NM.m x)) ∧ R18.wa (M18.r (NM.m x)) = R18.wa (M18.r (NM.m x)) ∧ R18.st (M18.r (NM.m x)) = R18.st (M18.r (NM.m x)) ∧ R18.le (M18.r (NM.m x)) =
  R18.le (M18.r (NM.m x)) ∧ M18.fi (NM.m x) = M18.fi (NM.m x) ∧ (0 : Nat) = (0 : Nat) ∧ M18.n (NM.m x) = M18.n (NM.m x) ∧ M18.c (NM.m x) = M18.c (NM.m x) ∧ True ∨ False)) (condX (R18.st (Prod.fst (NM.n x)) == R18.st (M18.r
  (NM.m x))) False (Rjq0 x)))) (condX (R18.st (Prod.fst (NM.n x)) == R18.st (M18.r (NM.m x))) ((0 : Nat) = (0 : Nat) ∧ true = true ∧ R18.ow (M18.r (NM.m x)) = R18.ow (M18.r (NM.m x)) ∧ R18.ot (M18.r (NM.m x)) = R18.ot
  (M18.r (NM.m x)) ∧ R18.ti (M18.r (NM.m x)) = R18.ti (M18.r (NM.m x)) ∧ R18.nx (M18.r (NM.m x)) = R18.nx (M18.r (NM.m x)) ∧ R18.wa (M18.r (NM.m x)) = R18.wa (M18.r (NM.m x)) ∧ R18.st (M18.r (NM.m x)) = R18.st (M18.r (NM.m
  x)) ∧ R18.le (M18.r (NM.m x)) = R18.le (M18.r (NM.m x)) ∧ M18.fi (NM.m x) = M18.fi (NM.m x) ∧ (0 : Nat) = (0 : Nat) ∧ M18.n (NM.m x) = M18.n (NM.m x) ∧ M18.c (NM.m x) = M18.c (NM.m x) ∧ True ∧ (True → condX (R18.st
  (Prod.fst (NM.n x)) == R18.st (M18.r (NM.m x))) False (Rjq0 x))) (condX (R18.st (Prod.fst (NM.n x)) == R18.st (M18.r (NM.m x))) False (Rjq0 x)))))))
theorem vcSame18E : VcSame18 = (∀ (x : NM), (x.n.1.ow ≠ 0 ∧ x.m.r = x.n.1 ∧ x.m.n = x.n.2.1.1) → fnX (cx_same18 x) (bodyOf Try.f17) Try.f17.results.toList (C_same18.args x) (C_same18.H x) (endX 5 (C_same18.outs x))) := by kernel_rfl
set_option maxHeartbeats 4000000 in
theorem vcSame18 : VcSame18 := by
  unfold VcSame18 Rjq0
  rintro ⟨⟨r, ⟨k1, k2⟩, ⟨a1, a2⟩⟩, ⟨q, fi, n, c⟩⟩ hh
  obtain ⟨h1, h2, h3⟩ : r.ow ≠ 0 ∧ q = r ∧ n = k1 := hh
  subst h2 h3
  simp only [eq_self, true_and, and_true, Nat.le_refl, Int.le_refl, implies_true, forall_const, and_false, false_and, exists_false, false_or, or_false, true_implies, Nat.zero_add, and_self, Int.toNat_natCast, cond_true, cond_false, condT, condF, beq_self_eq_true, cond_true]
  exact h1
theorem vcSame18K : ∀ (x : NM), (x.n.1.ow ≠ 0 ∧ x.m.r = x.n.1 ∧ x.m.n = x.n.2.1.1) → Held (fnX (cx_same18 x) (bodyOf Try.f17) Try.f17.results.toList (C_same18.args x) (C_same18.H x) (endX 5 (C_same18.outs x))) := held2 vcSame18E vcSame18
theorem ok_same18 : GenSound Try.prog Λ0 17 (callX C_same18 getNM) :=
  gen_of (ty := ty) (Γ := ΓOf Γre) hm tyOK Γre_ok (fnOK_of Try.func17 (by kernel_rfl) (by kernel_rfl)) Try.func17 (body_some (by kernel_rfl)) C_same18 getNM Try.ntmps17 (fun _ => Nat.le_of_ble_eq_true rfl) (fun x => (cx_same18 x).cut) (fun x => (cx_same18 x).loop) fun x h => vcSame18K x h
def Γrf : List (Nat × Rule) := (17, .gen (callX C_same18 getNM)) :: Γre
theorem Γrf_ok : ΓOK Try.prog Λ0 (ΓOf Γrf) := (ΓOf_cons ok_same18 Γre_ok)
end Go.Proofs.Ytghbejmnnfoamaa
