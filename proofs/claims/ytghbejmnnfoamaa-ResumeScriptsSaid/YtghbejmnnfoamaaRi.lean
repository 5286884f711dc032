/- Chapter 18: the reference's side: a unit, an event. -/
import Derived.Test.YtghbejmnnfoamaaRh
set_option linter.unusedVariables false
set_option linter.unusedSimpArgs false
namespace Go.Proofs.Ytghbejmnnfoamaa
open Go Go.Eng
attribute [local irreducible] condX
theorem rd_ok18 {b : ByteArray} (h : (rdT b).2.2 = 0) : okU (rdT b).1 := by
  have h2 : rdT b = ((rdT b).1, (rdT b).2.1, 0) := by rw [← h]
  exact (rd_wr h2).1
def unB (r : R18) (us : List U) (b : ByteArray) : T18 := if (rdT b).2.2 = 0 ∧ (rdT b).1.to = r.ow then unT r us [] (rdT b).1 else (r, us, [])
def outR (t : T18) (y : Int × Nat × Nat) : SV := .sl 3 0 6 t.2.2.length y.2.2
def outC3 (t : T18) : Int × Nat × Nat → Prop := outUc t.1 t.2.1 t.2.2
def outH3 (t : T18) : Int × Nat × Nat → Heap := outUH t.1 t.2.1 t.2.2
def C_rUnit18 : Ctr := ⟨2, P18 × ByteArray, fun x => [.ptr 0 0 0 0, .g (.string x.2)], fun x => x.1.H, fun x => x.1.ok, fun x =>
  [.any (Int × Nat × Nat) (outC3 (unB x.1.r (us0 x.1) x.2)) (outR (unB x.1.r (us0 x.1) x.2)) (outH3 (unB x.1.r (us0 x.1) x.2))]⟩
def cx_rUnit18 (_ : P18 × ByteArray) : Cx := ⟨ty, ΓOf Γrc, fun _ => [], fun _ _ => [], 170, 2⟩
theorem bOrF (p q : Bool) : (bif p then true else q) = false ↔ (p = false ∧ q = false) := by cases p <;> simp
theorem bAndF (p q : Bool) : (bif p then q else false) = false ↔ (p = false ∨ q = false) := by cases p <;> simp
theorem row2 (a b : Ev) (j : Nat) (hj : j < 2) : List.take 6 (List.drop (j * 6) (a.cells ++ b.cells)) = erow [a, b] j := by
  rcases (show j = 0 ∨ j = 1 by omega) with e | e <;> subst e <;> rfl
theorem row2a (a b : Ev) (j : Nat) (hj : j < 2) : appRows 0 0 1 (fun j => List.take 6 (List.drop (j * 6) a.cells)) (fun j => List.take 6 (List.drop (j * 6) b.cells)) j = erow [a, b] j := by
  rw [appRows0]
  rcases (show j = 0 ∨ j = 1 by omega) with e | e <;> subst e <;> rfl
def Riq0 (x : P18 × ByteArray) := (unB (P18.r (Prod.fst x)) (us0 (Prod.fst x)) (Prod.snd x))
def Riq1 (x : P18 × ByteArray) := (List.map (fun (j : Nat) => dRow (drow (P18.ds (Prod.fst x)) j)) (List.range (List.length (P18.ds (Prod.fst x)))))
def Riq2 (x : P18 × ByteArray) := ((∃ (y : Int × Nat × Nat), outC3 (Riq0 x) y ∧ List.length (Prod.snd (Prod.snd (Riq0 x))) = (0 : Nat) ∧ Prod.snd (Prod.snd y) = (0 : Nat) ∧ true = true ∧ R18.ow (P18.r (Prod.fst x)) = R18.ow (Prod.fst (Riq0 x)) ∧ R18.ot
  (P18.r (Prod.fst x)) = R18.ot (Prod.fst (Riq0 x)) ∧ R18.ti (P18.r (Prod.fst x)) = R18.ti (Prod.fst (Riq0 x)) ∧ R18.nx (P18.r (Prod.fst x)) = R18.nx (Prod.fst (Riq0 x)) ∧ R18.wa (P18.r (Prod.fst x)) = R18.wa (Prod.fst
  (Riq0 x)) ∧ R18.st (P18.r (Prod.fst x)) = R18.st (Prod.fst (Riq0 x)) ∧ R18.le (P18.r (Prod.fst x)) = R18.le (Prod.fst (Riq0 x)) ∧ P18.fi (Prod.fst x) = Prod.fst y ∧ (0 : Nat) = (0 : Nat) ∧ List.length (P18.ds (Prod.fst
  x)) = List.length (List.map U.d (Prod.fst (Prod.snd (Riq0 x)))) ∧ P18.ck (Prod.fst x) = Prod.fst (Prod.snd y) ∧ List.length (List.map U.d (Prod.fst (Prod.snd (Riq0 x)))) ≤ List.length (P18.ds (Prod.fst x)) ∧ List.length
  (List.map U.d (Prod.fst (Prod.snd (Riq0 x)))) ≤ Prod.fst (Prod.snd y) ∧ Prod.fst (Prod.snd y) ≤ P18.ck (Prod.fst x) ∧ (∀ (j : Nat), j < List.length (List.map U.d (Prod.fst (Prod.snd (Riq0 x)))) → drow (P18.ds (Prod.fst
  x)) j = drow (List.map U.d (Prod.fst (Prod.snd (Riq0 x)))) j ∧ true = true) ∧ List.length (Prod.snd (Prod.snd (Riq0 x))) = (0 : Nat) ∧ True) ∨ False)
def Riq3 (x : P18 × ByteArray) := (List.map (fun (j : Nat) => dRow (drow (List.drop (Int.toNat (ackM (R18.nx (P18.r (Prod.fst x))) (List.length (Riq1 x)) (U.nu (Prod.fst (rdT (Prod.snd x)))))) (Riq1 x)) j)) (List.range (List.length (List.drop (Int.toNat
  (ackM (R18.nx (P18.r (Prod.fst x))) (List.length (Riq1 x)) (U.nu (Prod.fst (rdT (Prod.snd x)))))) (Riq1 x)))))
def Riq4 (x : P18 × ByteArray) := (condX (R18.st (P18.r (Prod.fst x)) == (2 : Int)) ((∃ (y : Int × Nat × Nat), outC3 (Riq0 x) y ∧ (0 : Nat) = (0 : Nat) ∧ (1 : Nat) = List.length (Prod.snd (Prod.snd (Riq0 x))) ∧ (1 : Nat) = Prod.snd (Prod.snd y) ∧ true =
  true ∧ R18.ow (P18.r (Prod.fst x)) = R18.ow (Prod.fst (Riq0 x)) ∧ R18.ot (P18.r (Prod.fst x)) = R18.ot (Prod.fst (Riq0 x)) ∧ R18.ti (P18.r (Prod.fst x)) = R18.ti (Prod.fst (Riq0 x)) ∧ R18.nx (P18.r (Prod.fst x)) = R18.nx
  (Prod.fst (Riq0 x)) ∧ R18.wa (P18.r (Prod.fst x)) = R18.wa (Prod.fst (Riq0 x)) ∧ R18.st (P18.r (Prod.fst x)) = R18.st (Prod.fst (Riq0 x)) ∧ R18.le (P18.r (Prod.fst x)) = R18.le (Prod.fst (Riq0 x)) ∧ P18.fi (Prod.fst x) =
  Prod.fst y ∧ (0 : Nat) = (0 : Nat) ∧ List.length (P18.ds (Prod.fst x)) = List.length (List.map U.d (Prod.fst (Prod.snd (Riq0 x)))) ∧ P18.ck (Prod.fst x) = Prod.fst (Prod.snd y) ∧ List.length (List.map U.d (Prod.fst
  (Prod.snd (Riq0 x)))) ≤ List.length (P18.ds (Prod.fst x)) ∧ List.length (List.map U.d (Prod.fst (Prod.snd (Riq0 x)))) ≤ Prod.fst (Prod.snd y) ∧ Prod.fst (Prod.snd y) ≤ P18.ck (Prod.fst x) ∧ (∀ (j : Nat), j < List.length
  (List.map U.d (Prod.fst (Prod.snd (Riq0 x)))) → drow (P18.ds (Prod.fst x)) j = drow (List.map U.d (Prod.fst (Prod.snd (Riq0 x)))) j ∧ true = true) ∧ List.length (Prod.snd (Prod.snd (Riq0 x))) ≤ (1 : Nat) ∧ List.length
  (Prod.snd (Prod.snd (Riq0 x))) ≤ Prod.snd (Prod.snd y) ∧ Prod.snd (Prod.snd y) ≤ (1 : Nat) ∧ (∀ (j : Nat), j < List.length (Prod.snd (Prod.snd (Riq0 x))) → List.take (6 : Nat) (List.drop (j * (6 : Nat)) [SV.g (Value.int
  IntKind.i64 (1 : Int)), SV.g (Value.int IntKind.i64 (0 : Int)), SV.g (Value.int IntKind.i64 (0 : Int)), SV.g (Value.int IntKind.i64 (0 : Int)), SV.g (Value.int IntKind.i64 (0 : Int)), SV.g (Value.string (wrS (U.mk (4 :
  Int) (R18.ot (P18.r (Prod.fst x))) (R18.ow (P18.r (Prod.fst x))) (0 : Int) (0 : Int) (0 : Int) (0 : Int) (0 : Int) false (ByteArray.mk #[])) false))]) = erow (Prod.snd (Prod.snd (Riq0 x))) j ∧ true = true) ∧ True) ∨
  False) (Riq2 x))
def Riq5 (x : P18 × ByteArray) := ((∃ (y : Int × Nat × Nat), outC3 (Riq0 x) y ∧ (0 : Nat) = (0 : Nat) ∧ (2 : Nat) = List.length (Prod.snd (Prod.snd (Riq0 x))) ∧ (2 : Nat) = Prod.snd (Prod.snd y) ∧ true = true ∧ R18.ow (P18.r (Prod.fst x)) = R18.ow
  (Prod.fst (Riq0 x)) ∧ R18.ot (P18.r (Prod.fst x)) = R18.ot (Prod.fst (Riq0 x)) ∧ R18.ti (P18.r (Prod.fst x)) = R18.ti (Prod.fst (Riq0 x)) ∧ R18.nx (P18.r (Prod.fst x)) = R18.nx (Prod.fst (Riq0 x)) ∧ R18.wa (P18.r
  (Prod.fst x)) = R18.wa (Prod.fst (Riq0 x)) ∧ (3 : Int) = R18.st (Prod.fst (Riq0 x)) ∧ R18.ti (P18.r (Prod.fst x)) = R18.le (Prod.fst (Riq0 x)) ∧ P18.fi (Prod.fst x) = Prod.fst y ∧ List.length (List.map U.d (Prod.fst
  (Prod.snd (Riq0 x)))) = (0 : Nat) ∧ Prod.fst (Prod.snd y) = (0 : Nat) ∧ List.length (List.map U.d (Prod.fst (Prod.snd (Riq0 x)))) = (0 : Nat) ∧ List.length (Prod.snd (Prod.snd (Riq0 x))) ≤ (2 : Nat) ∧ List.length
  (Prod.snd (Prod.snd (Riq0 x))) ≤ Prod.snd (Prod.snd y) ∧ Prod.snd (Prod.snd y) ≤ (2 : Nat) ∧ (∀ (j : Nat), j < List.length (Prod.snd (Prod.snd (Riq0 x))) → List.take (6 : Nat) (List.drop (j * (6 : Nat)) [SV.g (Value.int
  IntKind.i64 (1 : Int)), SV.g (Value.int IntKind.i64 (0 : Int)), SV.g (Value.int IntKind.i64 (0 : Int)), SV.g (Value.int IntKind.i64 (0 : Int)), SV.g (Value.int IntKind.i64 (0 : Int)), SV.g (Value.string (wrS (U.mk (4 :
  Int) (R18.ot (P18.r (Prod.fst x))) (R18.ow (P18.r (Prod.fst x))) (0 : Int) (0 : Int) (0 : Int) (0 : Int) (0 : Int) false (ByteArray.mk #[])) false)), SV.g (Value.int IntKind.i64 (0 : Int)), SV.g (Value.int IntKind.i64 (4
  : Int)), SV.g (Value.int IntKind.i64 (0 : Int)), SV.g (Value.int IntKind.i64 (0 : Int)), SV.g (Value.int IntKind.i64 (0 : Int)), SV.g (Value.string (ByteArray.mk #[]))]) = erow (Prod.snd (Prod.snd (Riq0 x))) j ∧ true =
  true) ∧ True) ∨ False)
def Riq6 (x : P18 × ByteArray) := (R18.mk (R18.nx (P18.r (Prod.fst x))) (R18.wa (P18.r (Prod.fst x))) (R18.ow (P18.r (Prod.fst x))) (R18.ot (P18.r (Prod.fst x))) (R18.ti (P18.r (Prod.fst x))) (0 : Int) (R18.le (P18.r (Prod.fst x))))
def Riq7 (x : P18 × ByteArray) := (List.map U.d (Prod.fst (Prod.snd (Riq0 x))))
def Riq8 (x : P18 × ByteArray) := (List.map (fun (j : Nat) => dRow (drow (Riq1 x) j)) (List.range (List.length (Riq1 x))))
def Riq9 (x : P18 × ByteArray) := (List.drop (Int.toNat (ackM (R18.nx (P18.r (Prod.fst x))) (List.length (Riq1 x)) (U.nu (Prod.fst (rdT (Prod.snd x)))))) (Riq1 x))
def Riq10 (x : P18 × ByteArray) := (!bif !bif R18.st (P18.r (Prod.fst x)) == (0 : Int) then true else R18.st (P18.r (Prod.fst x)) == (1 : Int) then true else decide ((127 : Int) < U.nu (Prod.fst (rdT (Prod.snd x)))))
def Riq11 (x : P18 × ByteArray) := (U.cells (U.mk (4 : Int) (R18.ot (P18.r (Prod.fst x))) (R18.ow (P18.r (Prod.fst x))) (0 : Int) (0 : Int) (0 : Int) (0 : Int) (0 : Int) false (ByteArray.mk #[])))
set_option maxRecDepth 100000 in
def VcRUnit : Prop := ∀ (x : P18 × ByteArray), P18.ok (Prod.fst x) → [SV.g (Value.string (Prod.snd x))] = [SV.g (Value.string (Prod.snd x))] ∧ True ∧ condX (bif Prod.snd (Prod.snd (rdT (Prod.snd x))) != (0 : Int) then true else U.to (Prod.fst
  (rdT (Prod.snd x))) != R18.ow (P18.r (Prod.fst x))) (Riq2 x) (condX (U.k (Prod.fst (rdT (Prod.snd x))) == (5 : Int)) (condX (bif !bif R18.st (P18.r (Prod.fst x)) == (0 : Int) then true else R18.st (P18.r (Prod.fst x)) ==
  (1 : Int) then true else U.nu (Prod.fst (rdT (Prod.snd x))) != R18.wa (P18.r (Prod.fst x))) (Riq2 x) ((128 : Int) ≠ (0 : Int) ∧ (4 : Int) ≠ (0 : Int) ∧ condX (Int.tmod (Int.tmod (IntKind.wrap IntKind.i64 (R18.wa (P18.r
  (Prod.fst x)) + (1 : Int))) (128 : Int)) (4 : Int) == (0 : Int)) ([SV.agg [SV.g (Value.int IntKind.i64 (6 : Int)), SV.g (Value.int IntKind.i64 (R18.ot (P18.r (Prod.fst x)))), SV.g (Value.int IntKind.i64 (0 : Int)), SV.g
  (Value.int IntKind.i64 (0 : Int)), SV.g (Value.int IntKind.i64 (0 : Int)), SV.g (Value.int IntKind.i64 (Int.tmod (IntKind.wrap IntKind.i64 (R18.wa (P18.r (Prod.fst x)) + (1 : Int))) (128 : Int))), SV.g (Value.int
  IntKind.i64 (0 : Int)), SV.g (Value.int IntKind.i64 (0 : Int)), SV.g (Value.bool false), SV.g (Value.string (ByteArray.mk #[]))]] = [SV.agg (U.cells (U.mk (6 : Int) (R18.ot (P18.r (Prod.fst x))) (0 : Int) (0 : Int) (0 :
  Int) (Int.tmod (IntKind.wrap IntKind.i64 (R18.wa (P18.r (Prod.fst x)) + (1 : Int))) (128 : Int)) (0 : Int) (0 : Int) false (ByteArray.mk #[])))] ∧ True ∧ (1 : Nat) ≤ (1 : Nat) ∧ (1 : Nat) ≤ (1 : Nat) ∧ (112 : Nat) ≤
  (140737488355328 : Nat) ∧ ∀ (cap : Nat), (2 : Nat) ≤ cap → (∃ (y : Int × Nat × Nat), outC3 (Riq0 x) y ∧ (0 : Nat) = (0 : Nat) ∧ (2 : Nat) = List.length (Prod.snd (Prod.snd (Riq0 x))) ∧ cap = Prod.snd (Prod.snd y) ∧ true
  = true ∧ R18.ow (P18.r (Prod.fst x)) = R18.ow (Prod.fst (Riq0 x)) ∧ R18.ot (P18.r (Prod.fst x)) = R18.ot (Prod.fst (Riq0 x)) ∧ R18.ti (P18.r (Prod.fst x)) = R18.ti (Prod.fst (Riq0 x)) ∧ R18.nx (P18.r (Prod.fst x)) =
  R18.nx (Prod.fst (Riq0 x)) ∧ Int.tmod (IntKind.wrap IntKind.i64 (R18.wa (P18.r (Prod.fst x)) + (1 : Int))) (128 : Int) = R18.wa (Prod.fst (Riq0 x)) ∧ R18.st (P18.r (Prod.fst x)) = R18.st (Prod.fst (Riq0 x)) ∧ R18.le
  (P18.r (Prod.fst x)) = R18.le (Prod.fst (Riq0 x)) ∧ P18.fi (Prod.fst x) = Prod.fst y ∧ (0 : Nat) = (0 : Nat) ∧ List.length (P18.ds (Prod.fst x)) = List.length (Riq7 x) ∧ P18.ck (Prod.fst x) = Prod.fst (Prod.snd y) ∧
  List.length (Riq7 x) ≤ List.length (P18.ds (Prod.fst x)) ∧ List.length (Riq7 x) ≤ Prod.fst (Prod.snd y) ∧ Prod.fst (Prod.snd y) ≤ P18.ck (Prod.fst x) ∧ (∀ (j : Nat), j < List.length (Riq7 x) → drow (P18.ds (Prod.fst x))
  j = drow (Riq7 x) j ∧ true = true) ∧ List.length (Prod.snd (Prod.snd (Riq0 x))) ≤ (2 : Nat) ∧ List.length (Prod.snd (Prod.snd (Riq0 x))) ≤ Prod.snd (Prod.snd y) ∧ Prod.snd (Prod.snd y) ≤ cap ∧ (∀ (j : Nat), j <
  List.length (Prod.snd (Prod.snd (Riq0 x))) → appRows (0 : Nat) (0 : Nat) (1 : Nat) (fun (j : Nat) => List.take (6 : Nat) (List.drop (j * (6 : Nat)) [SV.g (Value.int IntKind.i64 (0 : Int)), SV.g (Value.int IntKind.i64 (3
  : Int)), SV.g (Value.int IntKind.i64 (0 : Int)), SV.g (Value.int IntKind.i64 (0 : Int)), SV.g (Value.int IntKind.i64 (0 : Int)), SV.g (Value.string (U.d (Prod.fst (rdT (Prod.snd x)))))])) (fun (j : Nat) => List.take (6 :
  Nat) (List.drop (j * (6 : Nat)) [SV.g (Value.int IntKind.i64 (1 : Int)), SV.g (Value.int IntKind.i64 (0 : Int)), SV.g (Value.int IntKind.i64 (0 : Int)), SV.g (Value.int IntKind.i64 (0 : Int)), SV.g (Value.int IntKind.i64
  (0 : Int)), SV.g (Value.string (wrS (U.mk (6 : Int) (R18.ot (P18.r (Prod.fst x))) (0 : Int) (0 : Int) (0 : Int) (Int.tmod (IntKind.wrap IntKind.i64 (R18.wa (P18.r (Prod.fst x)) + (1 : Int))) (128 : Int)) (0 : Int) (0 :
  Int) false (ByteArray.mk #[])) false))])) j = erow (Prod.snd (Prod.snd (Riq0 x))) j ∧ true = true) ∧ True) ∨ False) ((∃ (y : Int × Nat × Nat), outC3 (Riq0 x) y ∧ (0 : Nat) = (0 : Nat) ∧ (1 : Nat) = List.length (Prod.snd
  (Prod.snd (Riq0 x))) ∧ (1 : Nat) = Prod.snd (Prod.snd y) ∧ true = true ∧ R18.ow (P18.r (Prod.fst x)) = R18.ow (Prod.fst (Riq0 x)) ∧ R18.ot (P18.r (Prod.fst x)) = R18.ot (Prod.fst (Riq0 x)) ∧ R18.ti (P18.r (Prod.fst x)) =
  R18.ti (Prod.fst (Riq0 x)) ∧ R18.nx (P18.r (Prod.fst x)) = R18.nx (Prod.fst (Riq0 x)) ∧ Int.tmod (IntKind.wrap IntKind.i64 (R18.wa (P18.r (Prod.fst x)) + (1 : Int))) (128 : Int) = R18.wa (Prod.fst (Riq0 x)) ∧ R18.st
  (P18.r (Prod.fst x)) = R18.st (Prod.fst (Riq0 x)) ∧ R18.le (P18.r (Prod.fst x)) = R18.le (Prod.fst (Riq0 x)) ∧ P18.fi (Prod.fst x) = Prod.fst y ∧ (0 : Nat) = (0 : Nat) ∧ List.length (P18.ds (Prod.fst x)) = List.length
  (Riq7 x) ∧ P18.ck (Prod.fst x) = Prod.fst (Prod.snd y) ∧ List.length (Riq7 x) ≤ List.length (P18.ds (Prod.fst x)) ∧ List.length (Riq7 x) ≤ Prod.fst (Prod.snd y) ∧ Prod.fst (Prod.snd y) ≤ P18.ck (Prod.fst x) ∧ (∀ (j :
  Nat), j < List.length (Riq7 x) → drow (P18.ds (Prod.fst x)) j = drow (Riq7 x) j ∧ true = true) ∧ List.length (Prod.snd (Prod.snd (Riq0 x))) ≤ (1 : Nat) ∧ List.length (Prod.snd (Prod.snd (Riq0 x))) ≤ Prod.snd (Prod.snd y)
  ∧ Prod.snd (Prod.snd y) ≤ (1 : Nat) ∧ (∀ (j : Nat), j < List.length (Prod.snd (Prod.snd (Riq0 x))) → List.take (6 : Nat) (List.drop (j * (6 : Nat)) [SV.g (Value.int IntKind.i64 (0 : Int)), SV.g (Value.int IntKind.i64 (3
  : Int)), SV.g (Value.int IntKind.i64 (0 : Int)), SV.g (Value.int IntKind.i64 (0 : Int)), SV.g (Value.int IntKind.i64 (0 : Int)), SV.g (Value.string (U.d (Prod.fst (rdT (Prod.snd x)))))]) = erow (Prod.snd (Prod.snd (Riq0
  x))) j ∧ true = true) ∧ True) ∨ False))) (condX (U.k (Prod.fst (rdT (Prod.snd x))) == (6 : Int)) (condX (U.k (Prod.fst (rdT (Prod.snd x))) == (6 : Int)) (condX (Riq10 x) ((0 : Nat) = (0 : Nat) ∧ U.nu (Prod.fst (rdT
  (Prod.snd x))) = U.nu (Prod.fst (rdT (Prod.snd x))) ∧ true = true ∧ R18.ow (P18.r (Prod.fst x)) = R18.ow (P18.r (Prod.fst x)) ∧ R18.ot (P18.r (Prod.fst x)) = R18.ot (P18.r (Prod.fst x)) ∧ R18.ti (P18.r (Prod.fst x)) =
  R18.ti (P18.r (Prod.fst x)) ∧ R18.nx (P18.r (Prod.fst x)) = R18.nx (P18.r (Prod.fst x)) ∧ R18.wa (P18.r (Prod.fst x)) = R18.wa (P18.r (Prod.fst x)) ∧ R18.st (P18.r (Prod.fst x)) = R18.st (P18.r (Prod.fst x)) ∧ R18.le
  (P18.r (Prod.fst x)) = R18.le (P18.r (Prod.fst x)) ∧ P18.fi (Prod.fst x) = P18.fi (Prod.fst x) ∧ (0 : Nat) = (0 : Nat) ∧ List.length (P18.ds (Prod.fst x)) = List.length (Riq1 x) ∧ P18.ck (Prod.fst x) = P18.ck (Prod.fst
  x) ∧ List.length (Riq1 x) ≤ List.length (P18.ds (Prod.fst x)) ∧ List.length (Riq1 x) ≤ P18.ck (Prod.fst x) ∧ P18.ck (Prod.fst x) ≤ P18.ck (Prod.fst x) ∧ (∀ (j : Nat), j < List.length (Riq1 x) → drow (P18.ds (Prod.fst x))
  j = drow (Riq1 x) j ∧ true = true) ∧ (P18.ok (P18.mk (P18.r (Prod.fst x)) (P18.fi (Prod.fst x)) (Riq1 x) (P18.ck (Prod.fst x))) ∧ (0 : Int) ≤ U.nu (Prod.fst (rdT (Prod.snd x))) ∧ U.nu (Prod.fst (rdT (Prod.snd x))) < (128
  : Int)) ∧ ((↑(List.length (Riq1 x)) : Int) < ackM (R18.nx (P18.r (Prod.fst x))) (List.length (Riq1 x)) (U.nu (Prod.fst (rdT (Prod.snd x)))) → condX (bif bif bif !bif R18.st (P18.r (Prod.fst x)) == (0 : Int) then true
  else R18.st (P18.r (Prod.fst x)) == (1 : Int) then true else decide ((127 : Int) < U.nu (Prod.fst (rdT (Prod.snd x)))) then true else true then true else U.k (Prod.fst (rdT (Prod.snd x))) == (6 : Int)) ((∃ (y : Int × Nat
  × Nat), outC3 (Riq0 x) y ∧ List.length (Prod.snd (Prod.snd (Riq0 x))) = (0 : Nat) ∧ Prod.snd (Prod.snd y) = (0 : Nat) ∧ true = true ∧ R18.ow (P18.r (Prod.fst x)) = R18.ow (Prod.fst (Riq0 x)) ∧ R18.ot (P18.r (Prod.fst x))
  = R18.ot (Prod.fst (Riq0 x)) ∧ R18.ti (P18.r (Prod.fst x)) = R18.ti (Prod.fst (Riq0 x)) ∧ R18.nx (P18.r (Prod.fst x)) = R18.nx (Prod.fst (Riq0 x)) ∧ R18.wa (P18.r (Prod.fst x)) = R18.wa (Prod.fst (Riq0 x)) ∧ R18.st
  (P18.r (Prod.fst x)) = R18.st (Prod.fst (Riq0 x)) ∧ R18.le (P18.r (Prod.fst x)) = R18.le (Prod.fst (Riq0 x)) ∧ P18.fi (Prod.fst x) = Prod.fst y ∧ (0 : Nat) = (0 : Nat) ∧ List.length (Riq1 x) = List.length (Riq7 x) ∧
  P18.ck (Prod.fst x) = Prod.fst (Prod.snd y) ∧ List.length (Riq7 x) ≤ List.length (Riq1 x) ∧ List.length (Riq7 x) ≤ Prod.fst (Prod.snd y) ∧ Prod.fst (Prod.snd y) ≤ P18.ck (Prod.fst x) ∧ (∀ (j : Nat), j < List.length (Riq7
  x) → drow (Riq1 x) j = drow (Riq7 x) j ∧ true = true) ∧ List.length (Prod.snd (Prod.snd (Riq0 x))) = (0 : Nat) ∧ True) ∨ False) ((0 : Nat) = (0 : Nat) ∧ true = true ∧ R18.ow (P18.r (Prod.fst x)) = R18.ow (P18.r (Prod.fst
  x)) ∧ R18.ot (P18.r (Prod.fst x)) = R18.ot (P18.r (Prod.fst x)) ∧ R18.ti (P18.r (Prod.fst x)) = R18.ti (P18.r (Prod.fst x)) ∧ R18.nx (P18.r (Prod.fst x)) = R18.nx (P18.r (Prod.fst x)) ∧ R18.wa (P18.r (Prod.fst x)) =
  R18.wa (P18.r (Prod.fst x)) ∧ (0 : Int) = (0 : Int) ∧ R18.le (P18.r (Prod.fst x)) = R18.le (P18.r (Prod.fst x)) ∧ P18.fi (Prod.fst x) = P18.fi (Prod.fst x) ∧ (0 : Nat) = (0 : Nat) ∧ List.length (Riq1 x) = List.length
  (Riq8 x) ∧ P18.ck (Prod.fst x) = P18.ck (Prod.fst x) ∧ List.length (Riq8 x) ≤ List.length (Riq1 x) ∧ List.length (Riq8 x) ≤ P18.ck (Prod.fst x) ∧ P18.ck (Prod.fst x) ≤ P18.ck (Prod.fst x) ∧ (∀ (j : Nat), j < List.length
  (Riq8 x) → drow (Riq1 x) j = drow (Riq8 x) j ∧ true = true) ∧ P18.ok (P18.mk (Riq6 x) (P18.fi (Prod.fst x)) (Riq8 x) (P18.ck (Prod.fst x))) ∧ ∀ (yᵥ1 : Nat), List.length (allE (Riq6 x) (Riq8 x)) ≤ yᵥ1 → (∃ (y_1 : Int ×
  Nat × Nat), outC3 (Riq0 x) y_1 ∧ (0 : Nat) = (0 : Nat) ∧ List.length (allE (Riq6 x) (Riq8 x)) = List.length (Prod.snd (Prod.snd (Riq0 x))) ∧ yᵥ1 = Prod.snd (Prod.snd y_1) ∧ true = true ∧ R18.ow (P18.r (Prod.fst x)) =
  R18.ow (Prod.fst (Riq0 x)) ∧ R18.ot (P18.r (Prod.fst x)) = R18.ot (Prod.fst (Riq0 x)) ∧ R18.ti (P18.r (Prod.fst x)) = R18.ti (Prod.fst (Riq0 x)) ∧ R18.nx (P18.r (Prod.fst x)) = R18.nx (Prod.fst (Riq0 x)) ∧ R18.wa (P18.r
  (Prod.fst x)) = R18.wa (Prod.fst (Riq0 x)) ∧ (0 : Int) = R18.st (Prod.fst (Riq0 x)) ∧ R18.le (P18.r (Prod.fst x)) = R18.le (Prod.fst (Riq0 x)) ∧ P18.fi (Prod.fst x) = Prod.fst y_1 ∧ (0 : Nat) = (0 : Nat) ∧ List.length
  (Riq8 x) = List.length (Riq7 x) ∧ P18.ck (Prod.fst x) = Prod.fst (Prod.snd y_1) ∧ List.length (Riq7 x) ≤ List.length (Riq8 x) ∧ List.length (Riq7 x) ≤ Prod.fst (Prod.snd y_1) ∧ Prod.fst (Prod.snd y_1) ≤ P18.ck (Prod.fst
  x) ∧ (∀ (j : Nat), j < List.length (Riq7 x) → drow (Riq8 x) j = drow (Riq7 x) j ∧ true = true) ∧ List.length (Prod.snd (Prod.snd (Riq0 x))) ≤ List.length (allE (Riq6 x) (Riq8 x)) ∧ List.length (Prod.snd (Prod.snd (Riq0
  x))) ≤ Prod.snd (Prod.snd y_1) ∧ Prod.snd (Prod.snd y_1) ≤ yᵥ1 ∧ (∀ (j : Nat), j < List.length (Prod.snd (Prod.snd (Riq0 x))) → erow (allE (Riq6 x) (Riq8 x)) j = erow (Prod.snd (Prod.snd (Riq0 x))) j ∧ true = true) ∧
  True) ∨ False)) ∧ ∀ (yᵥ1 : Nat), ¬(↑(List.length (Riq1 x)) : Int) < ackM (R18.nx (P18.r (Prod.fst x))) (List.length (Riq1 x)) (U.nu (Prod.fst (rdT (Prod.snd x)))) ∧ List.length (Riq9 x) ≤ yᵥ1 → condX (bif bif bif !bif
  R18.st (P18.r (Prod.fst x)) == (0 : Int) then true else R18.st (P18.r (Prod.fst x)) == (1 : Int) then true else decide ((127 : Int) < U.nu (Prod.fst (rdT (Prod.snd x)))) then true else false then true else U.k (Prod.fst
  (rdT (Prod.snd x))) == (6 : Int)) ((∃ (y_1 : Int × Nat × Nat), outC3 (Riq0 x) y_1 ∧ List.length (Prod.snd (Prod.snd (Riq0 x))) = (0 : Nat) ∧ Prod.snd (Prod.snd y_1) = (0 : Nat) ∧ true = true ∧ R18.ow (P18.r (Prod.fst x))
  = R18.ow (Prod.fst (Riq0 x)) ∧ R18.ot (P18.r (Prod.fst x)) = R18.ot (Prod.fst (Riq0 x)) ∧ R18.ti (P18.r (Prod.fst x)) = R18.ti (Prod.fst (Riq0 x)) ∧ R18.nx (P18.r (Prod.fst x)) = R18.nx (Prod.fst (Riq0 x)) ∧ R18.wa
  (P18.r (Prod.fst x)) = R18.wa (Prod.fst (Riq0 x)) ∧ R18.st (P18.r (Prod.fst x)) = R18.st (Prod.fst (Riq0 x)) ∧ R18.le (P18.r (Prod.fst x)) = R18.le (Prod.fst (Riq0 x)) ∧ U.nu (Prod.fst (rdT (Prod.snd x))) = Prod.fst y_1
  ∧ (0 : Nat) = (0 : Nat) ∧ List.length (Riq9 x) = List.length (Riq7 x) ∧ yᵥ1 = Prod.fst (Prod.snd y_1) ∧ List.length (Riq7 x) ≤ List.length (Riq9 x) ∧ List.length (Riq7 x) ≤ Prod.fst (Prod.snd y_1) ∧ Prod.fst (Prod.snd
  y_1) ≤ yᵥ1 ∧ (∀ (j : Nat), j < List.length (Riq7 x) → drow (Riq9 x) j = drow (Riq7 x) j ∧ true = true) ∧ List.length (Prod.snd (Prod.snd (Riq0 x))) = (0 : Nat) ∧ True) ∨ False) ((0 : Nat) = (0 : Nat) ∧ true = true ∧
  R18.ow (P18.r (Prod.fst x)) = R18.ow (P18.r (Prod.fst x)) ∧ R18.ot (P18.r (Prod.fst x)) = R18.ot (P18.r (Prod.fst x)) ∧ R18.ti (P18.r (Prod.fst x)) = R18.ti (P18.r (Prod.fst x)) ∧ R18.nx (P18.r (Prod.fst x)) = R18.nx
  (P18.r (Prod.fst x)) ∧ R18.wa (P18.r (Prod.fst x)) = R18.wa (P18.r (Prod.fst x)) ∧ (0 : Int) = (0 : Int) ∧ R18.le (P18.r (Prod.fst x)) = R18.le (P18.r (Prod.fst x)) ∧ U.nu (Prod.fst (rdT (Prod.snd x))) = U.nu (Prod.fst
  (rdT (Prod.snd x))) ∧ (0 : Nat) = (0 : Nat) ∧ List.length (Riq9 x) = List.length (Riq3 x) ∧ yᵥ1 = yᵥ1 ∧ List.length (Riq3 x) ≤ List.length (Riq9 x) ∧ List.length (Riq3 x) ≤ yᵥ1 ∧ yᵥ1 ≤ yᵥ1 ∧ (∀ (j : Nat), j < List.length
  (Riq3 x) → drow (Riq9 x) j = drow (Riq3 x) j ∧ true = true) ∧ P18.ok (P18.mk (Riq6 x) (U.nu (Prod.fst (rdT (Prod.snd x)))) (Riq3 x) yᵥ1) ∧ ∀ (y_1ᵥ1 : Nat), List.length (allE (Riq6 x) (Riq3 x)) ≤ y_1ᵥ1 → (∃ (y_2 : Int ×
  Nat × Nat), outC3 (Riq0 x) y_2 ∧ (0 : Nat) = (0 : Nat) ∧ List.length (allE (Riq6 x) (Riq3 x)) = List.length (Prod.snd (Prod.snd (Riq0 x))) ∧ y_1ᵥ1 = Prod.snd (Prod.snd y_2) ∧ true = true ∧ R18.ow (P18.r (Prod.fst x)) =
  R18.ow (Prod.fst (Riq0 x)) ∧ R18.ot (P18.r (Prod.fst x)) = R18.ot (Prod.fst (Riq0 x)) ∧ R18.ti (P18.r (Prod.fst x)) = R18.ti (Prod.fst (Riq0 x)) ∧ R18.nx (P18.r (Prod.fst x)) = R18.nx (Prod.fst (Riq0 x)) ∧ R18.wa (P18.r
  (Prod.fst x)) = R18.wa (Prod.fst (Riq0 x)) ∧ (0 : Int) = R18.st (Prod.fst (Riq0 x)) ∧ R18.le (P18.r (Prod.fst x)) = R18.le (Prod.fst (Riq0 x)) ∧ U.nu (Prod.fst (rdT (Prod.snd x))) = Prod.fst y_2 ∧ (0 : Nat) = (0 : Nat) ∧
  List.length (Riq3 x) = List.length (Riq7 x) ∧ yᵥ1 = Prod.fst (Prod.snd y_2) ∧ List.length (Riq7 x) ≤ List.length (Riq3 x) ∧ List.length (Riq7 x) ≤ Prod.fst (Prod.snd y_2) ∧ Prod.fst (Prod.snd y_2) ≤ yᵥ1 ∧ (∀ (j : Nat), j
  < List.length (Riq7 x) → drow (Riq3 x) j = drow (Riq7 x) j ∧ true = true) ∧ List.length (Prod.snd (Prod.snd (Riq0 x))) ≤ List.length (allE (Riq6 x) (Riq3 x)) ∧ List.length (Prod.snd (Prod.snd (Riq0 x))) ≤ Prod.snd
  (Prod.snd y_2) ∧ Prod.snd (Prod.snd y_2) ≤ y_1ᵥ1 ∧ (∀ (j : Nat), j < List.length (Prod.snd (Prod.snd (Riq0 x))) → erow (allE (Riq6 x) (Riq3 x)) j = erow (Prod.snd (Prod.snd (Riq0 x))) j ∧ true = true) ∧ True) ∨ False))
  (condX (Riq10 x) False ((bif !bif R18.st (P18.r (Prod.fst x)) == (0 : Int) then true else R18.st (P18.r (Prod.fst x)) == (1 : Int) then true else decide ((127 : Int) < U.nu (Prod.fst (rdT (Prod.snd x))))) = true ∧ (Riq2
  x)))) (condX (U.k (Prod.fst (rdT (Prod.snd x))) == (3 : Int)) (([SV.agg [SV.g (Value.int IntKind.i64 (4 : Int)), SV.g (Value.int IntKind.i64 (R18.ot (P18.r (Prod.fst x)))), SV.g (Value.int IntKind.i64 (R18.ow (P18.r
  (Prod.fst x)))), SV.g (Value.int IntKind.i64 (0 : Int)), SV.g (Value.int IntKind.i64 (0 : Int)), SV.g (Value.int IntKind.i64 (0 : Int)), SV.g (Value.int IntKind.i64 (0 : Int)), SV.g (Value.int IntKind.i64 (0 : Int)),
  SV.g (Value.bool false), SV.g (Value.string (ByteArray.mk #[]))]] = [SV.agg (Riq11 x)] ∧ True ∧ condX (bif R18.st (P18.r (Prod.fst x)) == (0 : Int) then true else R18.st (P18.r (Prod.fst x)) == (1 : Int)) (Riq5 x) (Riq4
  x)) ∧ [SV.agg [SV.g (Value.int IntKind.i64 (4 : Int)), SV.g (Value.int IntKind.i64 (R18.ot (P18.r (Prod.fst x)))), SV.g (Value.int IntKind.i64 (R18.ow (P18.r (Prod.fst x)))), SV.g (Value.int IntKind.i64 (0 : Int)), SV.g
  (Value.int IntKind.i64 (0 : Int)), SV.g (Value.int IntKind.i64 (0 : Int)), SV.g (Value.int IntKind.i64 (0 : Int)), SV.g (Value.int IntKind.i64 (0 : Int)), SV.g (Value.bool false), SV.g (Value.string (ByteArray.mk #[]))]]
  = [SV.agg (Riq11 x)] ∧ True ∧ condX (bif R18.st (P18.r (Prod.fst x)) == (0 : Int) then true else R18.st (P18.r (Prod.fst x)) == (1 : Int)) (Riq5 x) (Riq4 x)) (condX (U.k (Prod.fst (rdT (Prod.snd x))) == (4 : Int)) (condX
  (R18.st (P18.r (Prod.fst x)) == (2 : Int)) ((∃ (y : Int × Nat × Nat), outC3 (Riq0 x) y ∧ (0 : Nat) = (0 : Nat) ∧ (1 : Nat) = List.length (Prod.snd (Prod.snd (Riq0 x))) ∧ (1 : Nat) = Prod.snd (Prod.snd y) ∧ true = true ∧
  R18.ow (P18.r (Prod.fst x)) = R18.ow (Prod.fst (Riq0 x)) ∧ R18.ot (P18.r (Prod.fst x)) = R18.ot (Prod.fst (Riq0 x)) ∧ R18.ti (P18.r (Prod.fst x)) = R18.ti (Prod.fst (Riq0 x)) ∧ R18.nx (P18.r (Prod.fst x)) = R18.nx
  (Prod.fst (Riq0 x)) ∧ R18.wa (P18.r (Prod.fst x)) = R18.wa (Prod.fst (Riq0 x)) ∧ (3 : Int) = R18.st (Prod.fst (Riq0 x)) ∧ R18.ti (P18.r (Prod.fst x)) = R18.le (Prod.fst (Riq0 x)) ∧ P18.fi (Prod.fst x) = Prod.fst y ∧ (0 :
  Nat) = (0 : Nat) ∧ List.length (P18.ds (Prod.fst x)) = List.length (Riq7 x) ∧ P18.ck (Prod.fst x) = Prod.fst (Prod.snd y) ∧ List.length (Riq7 x) ≤ List.length (P18.ds (Prod.fst x)) ∧ List.length (Riq7 x) ≤ Prod.fst
  (Prod.snd y) ∧ Prod.fst (Prod.snd y) ≤ P18.ck (Prod.fst x) ∧ (∀ (j : Nat), j < List.length (Riq7 x) → drow (P18.ds (Prod.fst x)) j = drow (Riq7 x) j ∧ true = true) ∧ List.length (Prod.snd (Prod.snd (Riq0 x))) ≤ (1 : Nat)
  ∧ List.length (Prod.snd (Prod.snd (Riq0 x))) ≤ Prod.snd (Prod.snd y) ∧ Prod.snd (Prod.snd y) ≤ (1 : Nat) ∧ (∀ (j : Nat), j < List.length (Prod.snd (Prod.snd (Riq0 x))) → List.take (6 : Nat) (List.drop (j * (6 : Nat))
  [SV.g (Value.int IntKind.i64 (0 : Int)), SV.g (Value.int IntKind.i64 (4 : Int)), SV.g (Value.int IntKind.i64 (0 : Int)), SV.g (Value.int IntKind.i64 (0 : Int)), SV.g (Value.int IntKind.i64 (0 : Int)), SV.g (Value.string
  (ByteArray.mk #[]))]) = erow (Prod.snd (Prod.snd (Riq0 x))) j ∧ true = true) ∧ True) ∨ False) (Riq2 x)) (Riq2 x)))) (condX (U.k (Prod.fst (rdT (Prod.snd x))) == (7 : Int)) (condX (Riq10 x) ((0 : Nat) = (0 : Nat) ∧ U.nu
  (Prod.fst (rdT (Prod.snd x))) = U.nu (Prod.fst (rdT (Prod.snd x))) ∧ true = true ∧ R18.ow (P18.r (Prod.fst x)) = R18.ow (P18.r (Prod.fst x)) ∧ R18.ot (P18.r (Prod.fst x)) = R18.ot (P18.r (Prod.fst x)) ∧ R18.ti (P18.r
  (Prod.fst x)) = R18.ti (P18.r (Prod.fst x)) ∧ R18.nx (P18.r (Prod.fst x)) = R18.nx (P18.r (Prod.fst x)) ∧ R18.wa (P18.r (Prod.fst x)) = R18.wa (P18.r (Prod.fst x)) ∧ R18.st (P18.r (Prod.fst x)) = R18.st (P18.r (Prod.fst
  x)) ∧ R18.le (P18.r (Prod.fst x)) = R18.le (P18.r (Prod.fst x)) ∧ P18.fi (Prod.fst x) = P18.fi (Prod.fst x) ∧ (0 : Nat) = (0 : Nat) ∧ List.length (P18.ds (Prod.fst x)) = List.length (Riq1 x) ∧ P18.ck (Prod.fst x) =
  P18.ck (Prod.fst x) ∧ List.length (Riq1 x) ≤ List.length (P18.ds (Prod.fst x)) ∧ List.length (Riq1 x) ≤ P18.ck (Prod.fst x) ∧ P18.ck (Prod.fst x) ≤ P18.ck (Prod.fst x) ∧ (∀ (j : Nat), j < List.length (Riq1 x) → drow
  (P18.ds (Prod.fst x)) j = drow (Riq1 x) j ∧ true = true) ∧ (P18.ok (P18.mk (P18.r (Prod.fst x)) (P18.fi (Prod.fst x)) (Riq1 x) (P18.ck (Prod.fst x))) ∧ (0 : Int) ≤ U.nu (Prod.fst (rdT (Prod.snd x))) ∧ U.nu (Prod.fst (rdT
  (Prod.snd x))) < (128 : Int)) ∧ ((↑(List.length (Riq1 x)) : Int) < ackM (R18.nx (P18.r (Prod.fst x))) (List.length (Riq1 x)) (U.nu (Prod.fst (rdT (Prod.snd x)))) → condX (bif bif bif !bif R18.st (P18.r (Prod.fst x)) ==
  (0 : Int) then true else R18.st (P18.r (Prod.fst x)) == (1 : Int) then true else decide ((127 : Int) < U.nu (Prod.fst (rdT (Prod.snd x)))) then true else true then true else U.k (Prod.fst (rdT (Prod.snd x))) == (6 :
  Int)) ((∃ (y : Int × Nat × Nat), outC3 (Riq0 x) y ∧ List.length (Prod.snd (Prod.snd (Riq0 x))) = (0 : Nat) ∧ Prod.snd (Prod.snd y) = (0 : Nat) ∧ true = true ∧ R18.ow (P18.r (Prod.fst x)) = R18.ow (Prod.fst (Riq0 x)) ∧
  R18.ot (P18.r (Prod.fst x)) = R18.ot (Prod.fst (Riq0 x)) ∧ R18.ti (P18.r (Prod.fst x)) = R18.ti (Prod.fst (Riq0 x)) ∧ R18.nx (P18.r (Prod.fst x)) = R18.nx (Prod.fst (Riq0 x)) ∧ R18.wa (P18.r (Prod.fst x)) = R18.wa
  (Prod.fst (Riq0 x)) ∧ R18.st (P18.r (Prod.fst x)) = R18.st (Prod.fst (Riq0 x)) ∧ R18.le (P18.r (Prod.fst x)) = R18.le (Prod.fst (Riq0 x)) ∧ P18.fi (Prod.fst x) = Prod.fst y ∧ (0 : Nat) = (0 : Nat) ∧ List.length (Riq1 x)
  = List.length (Riq7 x) ∧ P18.ck (Prod.fst x) = Prod.fst (Prod.snd y) ∧ List.length (Riq7 x) ≤ List.length (Riq1 x) ∧ List.length (Riq7 x) ≤ Prod.fst (Prod.snd y) ∧ Prod.fst (Prod.snd y) ≤ P18.ck (Prod.fst x) ∧ (∀ (j :
  Nat), j < List.length (Riq7 x) → drow (Riq1 x) j = drow (Riq7 x) j ∧ true = true) ∧ List.length (Prod.snd (Prod.snd (Riq0 x))) = (0 : Nat) ∧ True) ∨ False) ((0 : Nat) = (0 : Nat) ∧ true = true ∧ R18.ow (P18.r (Prod.fst
  x)) = R18.ow (P18.r (Prod.fst x)) ∧ R18.ot (P18.r (Prod.fst x)) = R18.ot (P18.r (Prod.fst x)) ∧ R18.ti (P18.r (Prod.fst x)) = R18.ti (P18.r (Prod.fst x)) ∧ R18.nx (P18.r (Prod.fst x)) = R18.nx (P18.r (Prod.fst x)) ∧
  R18.wa (P18.r (Prod.fst x)) = R18.wa (P18.r (Prod.fst x)) ∧ (0 : Int) = (0 : Int) ∧ R18.le (P18.r (Prod.fst x)) = R18.le (P18.r (Prod.fst x)) ∧ P18.fi (Prod.fst x) = P18.fi (Prod.fst x) ∧ (0 : Nat) = (0 : Nat) ∧
  List.length (Riq1 x) = List.length (Riq8 x) ∧ P18.ck (Prod.fst x) = P18.ck (Prod.fst x) ∧ List.length (Riq8 x) ≤ List.length (Riq1 x) ∧ List.length (Riq8 x) ≤ P18.ck (Prod.fst x) ∧ P18.ck (Prod.fst x) ≤ P18.ck (Prod.fst
  x) ∧ (∀ (j : Nat), j < List.length (Riq8 x) → drow (Riq1 x) j = drow (Riq8 x) j ∧ true = true) ∧ P18.ok (P18.mk (Riq6 x) (P18.fi (Prod.fst x)) (Riq8 x) (P18.ck (Prod.fst x))) ∧ ∀ (yᵥ1 : Nat), List.length (allE (Riq6 x)
  (Riq8 x)) ≤ yᵥ1 → (∃ (y_1 : Int × Nat × Nat), outC3 (Riq0 x) y_1 ∧ (0 : Nat) = (0 : Nat) ∧ List.length (allE (Riq6 x) (Riq8 x)) = List.length (Prod.snd (Prod.snd (Riq0 x))) ∧ yᵥ1 = Prod.snd (Prod.snd y_1) ∧ true = true ∧
  R18.ow (P18.r (Prod.fst x)) = R18.ow (Prod.fst (Riq0 x)) ∧ R18.ot (P18.r (Prod.fst x)) = R18.ot (Prod.fst (Riq0 x)) ∧ R18.ti (P18.r (Prod.fst x)) = R18.ti (Prod.fst (Riq0 x)) ∧ R18.nx (P18.r (Prod.fst x)) = R18.nx
  (Prod.fst (Riq0 x)) ∧ R18.wa (P18.r (Prod.fst x)) = R18.wa (Prod.fst (Riq0 x)) ∧ (0 : Int) = R18.st (Prod.fst (Riq0 x)) ∧ R18.le (P18.r (Prod.fst x)) = R18.le (Prod.fst (Riq0 x)) ∧ P18.fi (Prod.fst x) = Prod.fst y_1 ∧ (0
  : Nat) = (0 : Nat) ∧ List.length (Riq8 x) = List.length (Riq7 x) ∧ P18.ck (Prod.fst x) = Prod.fst (Prod.snd y_1) ∧ List.length (Riq7 x) ≤ List.length (Riq8 x) ∧ List.length (Riq7 x) ≤ Prod.fst (Prod.snd y_1) ∧ Prod.fst
  (Prod.snd y_1) ≤ P18.ck (Prod.fst x) ∧ (∀ (j : Nat), j < List.length (Riq7 x) → drow (Riq8 x) j = drow (Riq7 x) j ∧ true = true) ∧ List.length (Prod.snd (Prod.snd (Riq0 x))) ≤ List.length (allE (Riq6 x) (Riq8 x)) ∧
  List.length (Prod.snd (Prod.snd (Riq0 x))) ≤ Prod.snd (Prod.snd y_1) ∧ Prod.snd (Prod.snd y_1) ≤ yᵥ1 ∧ (∀ (j : Nat), j < List.length (Prod.snd (Prod.snd (Riq0 x))) → erow (allE (Riq6 x) (Riq8 x)) j = erow (Prod.snd
  (Prod.snd (Riq0 x))) j ∧ true = true) ∧ True) ∨ False)) ∧ ∀ (yᵥ1 : Nat), ¬(↑(List.length (Riq1 x)) : Int) < ackM (R18.nx (P18.r (Prod.fst x))) (List.length (Riq1 x)) (U.nu (Prod.fst (rdT (Prod.snd x)))) ∧ List.length
  (Riq9 x) ≤ yᵥ1 → condX (bif bif bif !bif R18.st (P18.r (Prod.fst x)) == (0 : Int) then true else R18.st (P18.r (Prod.fst x)) == (1 : Int) then true else decide ((127 : Int) < U.nu (Prod.fst (rdT (Prod.snd x)))) then true
  else false then true else U.k (Prod.fst (rdT (Prod.snd x))) == (6 : Int)) ((∃ (y_1 : Int × Nat × Nat), outC3 (Riq0 x) y_1 ∧ List.length (Prod.snd (Prod.snd (Riq0 x))) = (0 : Nat) ∧ Prod.snd (Prod.snd y_1) = (0 : Nat) ∧
  true = true ∧ R18.ow (P18.r (Prod.fst x)) = R18.ow (Prod.fst (Riq0 x)) ∧ R18.ot (P18.r (Prod.fst x)) = R18.ot (Prod.fst (Riq0 x)) ∧ R18.ti (P18.r (Prod.fst x)) = R18.ti (Prod.fst (Riq0 x)) ∧ R18.nx (P18.r (Prod.fst x)) =
  R18.nx (Prod.fst (Riq0 x)) ∧ R18.wa (P18.r (Prod.fst x)) = R18.wa (Prod.fst (Riq0 x)) ∧ R18.st (P18.r (Prod.fst x)) = R18.st (Prod.fst (Riq0 x)) ∧ R18.le (P18.r (Prod.fst x)) = R18.le (Prod.fst (Riq0 x)) ∧ U.nu (Prod.fst
  (rdT (Prod.snd x))) = Prod.fst y_1 ∧ (0 : Nat) = (0 : Nat) ∧ List.length (Riq9 x) = List.length (Riq7 x) ∧ yᵥ1 = Prod.fst (Prod.snd y_1) ∧ List.length (Riq7 x) ≤ List.length (Riq9 x) ∧ List.length (Riq7 x) ≤ Prod.fst
  (Prod.snd y_1) ∧ Prod.fst (Prod.snd y_1) ≤ yᵥ1 ∧ (∀ (j : Nat), j < List.length (Riq7 x) → drow (Riq9 x) j = drow (Riq7 x) j ∧ true = true) ∧ List.length (Prod.snd (Prod.snd (Riq0 x))) = (0 : Nat) ∧ True) ∨ False) ((0 :
  Nat) = (0 : Nat) ∧ true = true ∧ R18.ow (P18.r (Prod.fst x)) = R18.ow (P18.r (Prod.fst x)) ∧ R18.ot (P18.r (Prod.fst x)) = R18.ot (P18.r (Prod.fst x)) ∧ R18.ti (P18.r (Prod.fst x)) = R18.ti (P18.r (Prod.fst x)) ∧ R18.nx
  (P18.r (Prod.fst x)) = R18.nx (P18.r (Prod.fst x)) ∧ R18.wa (P18.r (Prod.fst x)) = R18.wa (P18.r (Prod.fst x)) ∧ (0 : Int) = (0 : Int) ∧ R18.le (P18.r (Prod.fst x)) = R18.le (P18.r (Prod.fst x)) ∧ U.nu (Prod.fst (rdT
  (Prod.snd x))) = U.nu (Prod.fst (rdT (Prod.snd x))) ∧ (0 : Nat) = (0 : Nat) ∧ List.length (Riq9 x) = List.length (Riq3 x) ∧ yᵥ1 = yᵥ1 ∧ List.length (Riq3 x) ≤ List.length (Riq9 x) ∧ List.length (Riq3 x) ≤ yᵥ1 ∧ yᵥ1 ≤ yᵥ1
  ∧ (∀ (j : Nat), j < List.length (Riq3 x) → drow (Riq9 x) j = drow (Riq3 x) j ∧ true = true) ∧ P18.ok (P18.mk (Riq6 x) (U.nu (Prod.fst (rdT (Prod.snd x)))) (Riq3 x) yᵥ1) ∧ ∀ (y_1ᵥ1 : Nat), List.length (allE (Riq6 x) (Riq3
  x)) ≤ y_1ᵥ1 → (∃ (y_2 : Int × Nat × Nat), outC3 (Riq0 x) y_2 ∧ (0 : Nat) = (0 : Nat) ∧ List.length (allE (Riq6 x) (Riq3 x)) = List.length (Prod.snd (Prod.snd (Riq0 x))) ∧ y_1ᵥ1 = Prod.snd (Prod.snd y_2) ∧ true = true ∧
  R18.ow (P18.r (Prod.fst x)) = R18.ow (Prod.fst (Riq0 x)) ∧ R18.ot (P18.r (Prod.fst x)) = R18.ot (Prod.fst (Riq0 x)) ∧ R18.ti (P18.r (Prod.fst x)) = R18.ti (Prod.fst (Riq0 x)) ∧ R18.nx (P18.r (Prod.fst x)) = R18.nx
  (Prod.fst (Riq0 x)) ∧ R18.wa (P18.r (Prod.fst x)) = R18.wa (Prod.fst (Riq0 x)) ∧ (0 : Int) = R18.st (Prod.fst (Riq0 x)) ∧ R18.le (P18.r (Prod.fst x)) = R18.le (Prod.fst (Riq0 x)) ∧ U.nu (Prod.fst (rdT (Prod.snd x))) =
  Prod.fst y_2 ∧ (0 : Nat) = (0 : Nat) ∧ List.length (Riq3 x) = List.length (Riq7 x) ∧ yᵥ1 = Prod.fst (Prod.snd y_2) ∧ List.length (Riq7 x) ≤ List.length (Riq3 x) ∧ List.length (Riq7 x) ≤ Prod.fst (Prod.snd y_2) ∧ Prod.fst
  (Prod.snd y_2) ≤ yᵥ1 ∧ (∀ (j : Nat), j < List.length (Riq7 x) → drow (Riq3 x) j = drow (Riq7 x) j ∧ true = true) ∧ List.length (Prod.snd (Prod.snd (Riq0 x))) ≤ List.length (allE (Riq6 x) (Riq3 x)) ∧ List.length (Prod.snd
  (Prod.snd (Riq0 x))) ≤ Prod.snd (Prod.snd y_2) ∧ Prod.snd (Prod.snd y_2) ≤ y_1ᵥ1 ∧ (∀ (j : Nat), j < List.length (Prod.snd (Prod.snd (Riq0 x))) → erow (allE (Riq6 x) (Riq3 x)) j = erow (Prod.snd (Prod.snd (Riq0 x))) j ∧
  true = true) ∧ True) ∨ False)) (condX (Riq10 x) False ((bif !bif R18.st (P18.r (Prod.fst x)) == (0 : Int) then true else R18.st (P18.r (Prod.fst x)) == (1 : Int) then true else decide ((127 : Int) < U.nu (Prod.fst (rdT
  (Prod.snd x))))) = true ∧ (Riq2 x)))) (condX (U.k (Prod.fst (rdT (Prod.snd x))) == (3 : Int)) (([SV.agg [SV.g (Value.int IntKind.i64 (4 : Int)), SV.g (Value.int IntKind.i64 (R18.ot (P18.r (Prod.fst x)))), SV.g (Value.int
  IntKind.i64 (R18.ow (P18.r (Prod.fst x)))), SV.g (Value.int IntKind.i64 (0 : Int)), SV.g (Value.int IntKind.i64 (0 : Int)), SV.g (Value.int IntKind.i64 (0 : Int)), SV.g (Value.int IntKind.i64 (0 : Int)), SV.g (Value.int
  IntKind.i64 (0 : Int)), SV.g (Value.bool false), SV.g (Value.string (ByteArray.mk #[]))]] = [SV.agg (Riq11 x)] ∧ True ∧ condX (bif R18.st (P18.r (Prod.fst x)) == (0 : Int) then true else R18.st (P18.r (Prod.fst x)) == (1
  : Int)) (Riq5 x) (Riq4 x)) ∧ [SV.agg [SV.g (Value.int IntKind.i64 (4 : Int)), SV.g (Value.int IntKind.i64 (R18.ot (P18.r (Prod.fst x)))), SV.g (Value.int IntKind.i64 (R18.ow (P18.r (Prod.fst x)))), SV.g (Value.int
  IntKind.i64 (0 : Int)), SV.g (Value.int IntKind.i64 (0 : Int)), SV.g (Value.int IntKind.i64 (0 : Int)), SV.g (Value.int IntKind.i64 (0 : Int)), SV.g (Value.int IntKind.i64 (0 : Int)), SV.g (Value.bool false), SV.g
  (Value.string (ByteArray.mk #[]))]] = [SV.agg (Riq11 x)] ∧ True ∧ condX (bif R18.st (P18.r (Prod.fst x)) == (0 : Int) then true else R18.st (P18.r (Prod.fst x)) == (1 : Int)) (Riq5 x) (Riq4 x)) (condX (U.k (Prod.fst (rdT
  (Prod.snd x))) == (4 : Int)) (condX (R18.st (P18.r (Prod.fst x)) == (2 : Int)) ((∃ (y : Int × Nat × Nat), outC3 (Riq0 x) y ∧ (0 : Nat) = (0 : Nat) ∧ (1 : Nat) = List.length (Prod.snd (Prod.snd (Riq0 x))) ∧ (1 : Nat) =
  Prod.snd (Prod.snd y) ∧ true = true ∧ R18.ow (P18.r (Prod.fst x)) = R18.ow (Prod.fst (Riq0 x)) ∧ R18.ot (P18.r (Prod.fst x)) = R18.ot (Prod.fst (Riq0 x)) ∧ R18.ti (P18.r (Prod.fst x)) = R18.ti (Prod.fst (Riq0 x)) ∧
  R18.nx (P18.r (Prod.fst x)) = R18.nx (Prod.fst (Riq0 x)) ∧ R18.wa (P18.r (Prod.fst x)) = R18.wa (Prod.fst (Riq0 x)) ∧ (3 : Int) = R18.st (Prod.fst (Riq0 x)) ∧ R18.ti (P18.r (Prod.fst x)) = R18.le (Prod.fst (Riq0 x)) ∧
  P18.fi (Prod.fst x) = Prod.fst y ∧ (0 : Nat) = (0 : Nat) ∧ List.length (P18.ds (Prod.fst x)) = List.length (Riq7 x) ∧ P18.ck (Prod.fst x) = Prod.fst (Prod.snd y) ∧ List.length (Riq7 x) ≤ List.length (P18.ds (Prod.fst x))
  ∧ List.length (Riq7 x) ≤ Prod.fst (Prod.snd y) ∧ Prod.fst (Prod.snd y) ≤ P18.ck (Prod.fst x) ∧ (∀ (j : Nat), j < List.length (Riq7 x) → drow (P18.ds (Prod.fst x)) j = drow (Riq7 x) j ∧ true = true) ∧ List.length
  (Prod.snd (Prod.snd (Riq0 x))) ≤ (1 : Nat) ∧ List.length (Prod.snd (Prod.snd (Riq0 x))) ≤ Prod.snd (Prod.snd y) ∧ Prod.snd (Prod.snd y) ≤ (1 : Nat) ∧ (∀ (j : Nat), j < List.length (Prod.snd (Prod.snd (Riq0 x))) →
  List.take (6 : Nat) (List.drop (j * (6 : Nat)) [SV.g (Value.int IntKind.i64 (0 : Int)), SV.g (Value.int IntKind.i64 (4 : Int)), SV.g (Value.int IntKind.i64 (0 : Int)), SV.g (Value.int IntKind.i64 (0 : Int)), SV.g
  (Value.int IntKind.i64 (0 : Int)), SV.g (Value.string (ByteArray.mk #[]))]) = erow (Prod.snd (Prod.snd (Riq0 x))) j ∧ true = true) ∧ True) ∨ False) (Riq2 x)) (Riq2 x))))))
theorem vcRUnitE : VcRUnit = (∀ (x : P18 × ByteArray), x.1.ok → fnX (cx_rUnit18 x) (bodyOf Try.f33) Try.f33.results.toList (C_rUnit18.args x) (C_rUnit18.H x) (endX 2 (C_rUnit18.outs x))) := by kernel_rfl
set_option maxRecDepth 100000 in
set_option maxHeartbeats 4000000 in
theorem vcRUnit : VcRUnit := by
  unfold VcRUnit Riq11 Riq10 Riq9 Riq8 Riq7 Riq6 Riq5 Riq4 Riq3 Riq2 Riq1 Riq0
  rintro ⟨⟨r, fi, ds, ck⟩, b⟩ ⟨h1, h2, h3, h4, h5⟩
  have hok : P18.ok ⟨r, fi, ds, ck⟩ := ⟨h1, h2, h3, h4, h5⟩
  have h1 : ds.length ≤ ck := h1
  have h2 : ds.length ≤ 60 := h2
  have h3 : r.ok := h3
  have h4 : ds ≠ [] → fi = kN r.nx ds.length 0 := h4
  have h5 : r.st = 2 → ds = [] := h5
  simp only [eq_self, true_and, and_true, Nat.le_refl, Int.le_refl, implies_true, forall_const, and_false, false_and, exists_false, false_or, or_false, true_implies, Nat.zero_add, and_self, Int.toNat_natCast, cond_true, cond_false, condT, condF, dRow_drow]
  have hB : unB r (us0 ⟨r, fi, ds, ck⟩) b = if (rdT b).2.2 = 0 ∧ (rdT b).1.to = r.ow then unT r (keptU r.nx ds) [] (rdT b).1 else (r, keptU r.nx ds, []) := rfl
  generalize unB r (us0 ⟨r, fi, ds, ck⟩) b = T at hB ⊢
  have hu : (rdT b).2.2 = 0 → okU (rdT b).1 := rd_ok18
  generalize rdT b = t at *
  obtain ⟨u, cb, er⟩ := t
  dsimp only at hB hu ⊢
  have hul : (keptU r.nx ds).length = ds.length := keptU_len _ _
  have hum : (keptU r.nx ds).map U.d = ds := keptU_map _ _
  have hud : ∀ k, k ≤ ds.length → (keptU r.nx ds).drop k = keptU r.nx (ds.drop k) := fun k h => keptU_drop h
  have hne : keptU r.nx ds ≠ [] → ds ≠ [] := fun h => by rw [← hum]; simpa using h
  have n1 := h3.nx
  refine (condX_iff _ _ _).2 ⟨fun c => ?_, fun c => ?_⟩
  · have c : ¬ (er = 0 ∧ u.to = r.ow) := by
      rintro ⟨a1, a2⟩; simp [a1, a2] at c
    have hT : T = (r, keptU r.nx ds, []) := by rw [hB, if_neg c]
    subst hT
    first | refine ⟨trivial, ?_⟩ | skip
    refine ⟨(fi, ck, 0), ⟨fun h => by rw [hul]; exact h4 (hne h), by rw [hul]; exact h1, Nat.le_refl _⟩, ?_⟩
    simp only [hum, List.length_nil]
    and_intros <;> first | with_reducible rfl | assumption | exact Nat.le_refl _ | exact Nat.zero_le _ | exact fun j hj => trivial | exact fun j hj => rfl | exact fun j hj => absurd hj (Nat.not_lt_zero _) | exact trivial | omega | rfl | skip
  have c0 : er = 0 ∧ u.to = r.ow := by
    simp only [bOrF, bne_eq_false_iff_eq] at c; exact c
  rw [if_pos c0] at hB
  have hk := (hu c0.1).1
  obtain ⟨-, -, -, -, -, -, hnu, -⟩ := (okU_iff hk).1 (hu c0.1)
  have hnu0 : 0 ≤ u.nu := by omega
  have hN : ∀ x : U, ackN r (keptU r.nx ds) x = ackM r.nx ds.length x.nu := fun x => by rw [ackN, hul]; rfl
  have hfi0 : keptU r.nx ds ≠ [] → fi = kN r.nx (keptU r.nx ds).length 0 := fun h => by rw [hul]; exact h4 (hne h)
  by_cases lv : r.st = 0 ∨ r.st = 1
  · have lb : (bif r.st == 0 then true else r.st == 1) = true := by rw [bOr]; simpa using lv
    have s2 : (r.st == 2) = false := by simp; omega
    simp only [lb, s2, Bool.not_true, cond_false, condT, condF]
    rcases (show u.k = 5 ∨ (u.k = 6 ∨ u.k = 7) ∨ u.k = 3 ∨ (u.k ≠ 5 ∧ u.k ≠ 6 ∧ u.k ≠ 7 ∧ u.k ≠ 3) by omega) with k | k | k | k
    · simp only [k, Int.reduceBEq, condT, condF]
      refine (condX_iff _ _ _).2 ⟨fun c => ?_, fun c => ?_⟩
      · have c : ¬ u.nu = r.wa := by simpa using c
        have hT : T = (r, keptU r.nx ds, []) := by rw [hB, unT]; simp [k, lv, c]
        subst hT
        first | refine ⟨trivial, ?_⟩ | skip
        refine ⟨(fi, ck, 0), ⟨fun h => by rw [hul]; exact h4 (hne h), by rw [hul]; exact h1, Nat.le_refl _⟩, ?_⟩
        simp only [hum, List.length_nil]
        and_intros <;> first | with_reducible rfl | assumption | exact Nat.le_refl _ | exact Nat.zero_le _ | exact fun j hj => trivial | exact fun j hj => rfl | exact fun j hj => absurd hj (Nat.not_lt_zero _) | exact trivial | omega | rfl | skip
      have c : u.nu = r.wa := by simpa using c
      have n2 := h3.wa
      have hw : (IntKind.i64.wrap (r.wa + 1)).tmod 128 = (r.wa + 1) % 128 := by rw [wrap1 (by omega) (by omega), tmod_nn (by omega)]
      have hw4 : ((r.wa + 1) % 128).tmod 4 = (r.wa + 1) % 128 % 4 := tmod_nn (by omega) 4
      simp only [hw, hw4]
      refine ⟨by decide, by decide, (condX_iff _ _ _).2 ⟨fun d => ?_, fun d => ?_⟩⟩
      · have d : (r.wa + 1) % 128 % 4 = 0 := by simpa using d
        have hT : T = (waR r, keptU r.nx ds, [tellE 3 u.d, sendE (waR r) (vK 6 0 0 ((r.wa + 1) % 128))]) := by
          rw [hB, unT, if_neg (by omega), if_pos ⟨k, lv⟩, if_neg (by simp [c]), if_pos d]; rfl
        subst hT
        refine ⟨rfl, by decide, fun cap hcap => ⟨(fi, ck, cap), ⟨hfi0, by rw [hul]; exact h1, hcap⟩, ?_⟩⟩
        simp only [hum, List.length_cons, List.length_nil]
        and_intros <;> first | exact row2a (tellE 3 u.d) (downE ⟨6, r.ot, 0, 0, 0, (r.wa + 1) % 128, 0, 0, false, ⟨#[]⟩⟩) | with_reducible rfl | assumption | exact Nat.le_refl _ | exact Nat.zero_le _ | exact fun j hj => trivial | exact fun j hj => rfl | exact fun j hj => absurd hj (Nat.not_lt_zero _) | exact trivial | omega | rfl | skip
      · have d : ¬ (r.wa + 1) % 128 % 4 = 0 := by simpa using d
        have hT : T = (waR r, keptU r.nx ds, [tellE 3 u.d]) := by
          rw [hB, unT, if_neg (by omega), if_pos ⟨k, lv⟩, if_neg (by simp [c]), if_neg d]; rfl
        subst hT
        refine ⟨(fi, ck, 1), ⟨hfi0, by rw [hul]; exact h1, Nat.le_refl _⟩, ?_⟩
        simp only [hum, List.length_cons, List.length_nil]
        and_intros <;> first | exact row1 (tellE 3 u.d) | with_reducible rfl | assumption | exact Nat.le_refl _ | exact Nat.zero_le _ | exact fun j hj => trivial | exact fun j hj => rfl | exact fun j hj => absurd hj (Nat.not_lt_zero _) | exact trivial | omega | rfl | skip
    · by_cases big : 127 < u.nu
      · have hT : T = (r, keptU r.nx ds, []) := by rw [hB, unT, if_pos (by omega)]
        rcases k with k | k <;> simp only [k, Int.reduceBEq, big, decide_true, Bool.not_true, cond_true, cond_false, condT, condF]
        all_goals
          subst hT
          first | refine ⟨trivial, ?_⟩ | skip
          refine ⟨(fi, ck, 0), ⟨fun h => by rw [hul]; exact h4 (hne h), by rw [hul]; exact h1, Nat.le_refl _⟩, ?_⟩
          simp only [hum, List.length_nil]
          and_intros <;> first | with_reducible rfl | assumption | exact Nat.le_refl _ | exact Nat.zero_le _ | exact fun j hj => trivial | exact fun j hj => rfl | exact fun j hj => absurd hj (Nat.not_lt_zero _) | exact trivial | omega | rfl | skip
      · have nu128 : u.nu < 128 := by omega
        obtain ⟨m, hm⟩ : ∃ m : Nat, ackM r.nx ds.length u.nu = m := ⟨(ackM r.nx ds.length u.nu).toNat, by unfold ackM; omega⟩
        have hbig : decide (127 < u.nu) = false := decide_eq_false big
        have hfm : m ≤ ds.length → u.nu = kN r.nx (ds.drop m).length 0 := fun h => by
          rw [List.length_drop]; unfold ackM at hm; unfold kN; omega
        have hdl : (ds.drop m).length = ds.length - m := List.length_drop
        rcases k with k | k
        · simp only [k, Int.reduceBEq, hbig, hm, Bool.not_false, cond_true, cond_false, condT, condF, Int.toNat_natCast]
          refine ⟨h1, ⟨hok, hnu0, nu128⟩, fun hlt => ?_, fun y hy => ?_⟩
          · have hT : T = (r, keptU r.nx ds, []) := by
              rw [hB, unT, if_neg (by omega), if_neg (by omega), if_pos ⟨Or.inl k, lv⟩]
              simp only [ackR, ackU, ackA, hN, hm, hul, hlt, if_true]
            subst hT
            first | refine ⟨trivial, ?_⟩ | skip
            refine ⟨(fi, ck, 0), ⟨fun h => by rw [hul]; exact h4 (hne h), by rw [hul]; exact h1, Nat.le_refl _⟩, ?_⟩
            simp only [hum, List.length_nil]
            and_intros <;> first | with_reducible rfl | assumption | exact Nat.le_refl _ | exact Nat.zero_le _ | exact fun j hj => trivial | exact fun j hj => rfl | exact fun j hj => absurd hj (Nat.not_lt_zero _) | exact trivial | omega | rfl | skip
          · obtain ⟨hy1, hy2⟩ := hy
            have hT : T = (r, keptU r.nx (ds.drop m), []) := by
              rw [hB, unT, if_neg (by omega), if_neg (by omega), if_pos ⟨Or.inl k, lv⟩]
              simp only [ackR, ackU, ackA, hN, hm, hul, hy1, if_false, Int.toNat_natCast, k]
              rw [hud m (by omega)]; rfl
            subst hT
            refine ⟨(u.nu, y, 0), ⟨fun _ => by rw [keptU_len]; exact hfm (by omega), by rw [keptU_len]; exact hy2, Nat.le_refl _⟩, ?_⟩
            simp only [keptU_map, List.length_nil]
            and_intros <;> first | with_reducible rfl | assumption | exact Nat.le_refl _ | exact Nat.zero_le _ | exact fun j hj => trivial | exact fun j hj => rfl | exact fun j hj => absurd hj (Nat.not_lt_zero _) | exact trivial | omega | rfl | skip
        · simp only [k, Int.reduceBEq, hbig, hm, Bool.not_false, cond_true, cond_false, condT, condF, Int.toNat_natCast]
          refine ⟨h1, ⟨hok, hnu0, nu128⟩, fun hlt => ?_, fun y hy => ?_⟩
          · have hT : T = (r, keptU r.nx ds, []) := by
              rw [hB, unT, if_neg (by omega), if_neg (by omega), if_pos ⟨Or.inr k, lv⟩]
              simp only [ackR, ackU, ackA, hN, hm, hul, hlt, if_true]
            subst hT
            first | refine ⟨trivial, ?_⟩ | skip
            refine ⟨(fi, ck, 0), ⟨fun h => by rw [hul]; exact h4 (hne h), by rw [hul]; exact h1, Nat.le_refl _⟩, ?_⟩
            simp only [hum, List.length_nil]
            and_intros <;> first | with_reducible rfl | assumption | exact Nat.le_refl _ | exact Nat.zero_le _ | exact fun j hj => trivial | exact fun j hj => rfl | exact fun j hj => absurd hj (Nat.not_lt_zero _) | exact trivial | omega | rfl | skip
          · obtain ⟨hy1, hy2⟩ := hy
            have hT : T = (⟨r.nx, r.wa, r.ow, r.ot, r.ti, 0, r.le⟩, keptU r.nx (ds.drop m), allE ⟨r.nx, r.wa, r.ow, r.ot, r.ti, 0, r.le⟩ (ds.drop m)) := by
              rw [hB, unT, if_neg (by omega), if_neg (by omega), if_pos ⟨Or.inr k, lv⟩]
              simp only [ackR, ackU, ackA, hN, hm, hul, hy1, if_false, Int.toNat_natCast, k, if_true, List.nil_append]
              rw [hud m (by omega)]; rfl
            subst hT
            refine ⟨hy2, ⟨hy2, by dsimp only; omega, ok_st h3 (s := 0) (by decide), fun _ => hfm (by omega), fun h => absurd (show (0 : Int) = 2 from h) (by decide)⟩, fun a ha => ⟨(u.nu, y, a), ⟨fun _ => by rw [keptU_len]; exact hfm (by omega), by rw [keptU_len]; exact hy2, ha⟩, ?_⟩⟩
            simp only [keptU_map]
            and_intros <;> first | with_reducible rfl | assumption | exact Nat.le_refl _ | exact Nat.zero_le _ | exact fun j hj => trivial | exact fun j hj => rfl | exact fun j hj => absurd hj (Nat.not_lt_zero _) | exact trivial | omega | rfl | skip
    · simp only [k, Int.reduceBEq, condT, condF]
      have hT : T = (frR r, [], [downE ⟨4, r.ot, r.ow, 0, 0, 0, 0, 0, false, ⟨#[]⟩⟩, tellE 4 ⟨#[]⟩]) := by
        rw [hB, unT, if_neg (by omega), if_neg (by omega), if_neg (by omega), if_pos ⟨k, lv⟩]; rfl
      subst hT
      refine ⟨rfl, (fi, 0, 2), ⟨fun h => absurd rfl h, Nat.le_refl _, Nat.le_refl _⟩, ?_⟩
      simp only [List.map_nil, List.length_cons, List.length_nil]
      and_intros <;> first | exact row2 (downE ⟨4, r.ot, r.ow, 0, 0, 0, 0, 0, false, ⟨#[]⟩⟩) (tellE 4 ⟨#[]⟩) | with_reducible rfl | assumption | exact Nat.le_refl _ | exact Nat.zero_le _ | exact fun j hj => trivial | exact fun j hj => rfl | exact fun j hj => absurd hj (Nat.not_lt_zero _) | exact trivial | omega | rfl | skip
    · have hT : T = (r, keptU r.nx ds, []) := by
        rw [hB, unT]
        split
        · rfl
        rw [if_neg (by omega), if_neg (by omega), if_neg (by omega), if_neg (by omega), if_neg (by omega)]
      have e5 : (u.k == 5) = false := by simp; omega
      have e6 : (u.k == 6) = false := by simp; omega
      have e7 : (u.k == 7) = false := by simp; omega
      have e3 : (u.k == 3) = false := by simp; omega
      simp only [e5, e6, e7, e3, condF]
      refine (condX_iff _ _ _).2 ⟨fun _ => ?_, fun _ => ?_⟩
      all_goals
        subst hT
        first | refine ⟨trivial, ?_⟩ | skip
        refine ⟨(fi, ck, 0), ⟨fun h => by rw [hul]; exact h4 (hne h), by rw [hul]; exact h1, Nat.le_refl _⟩, ?_⟩
        simp only [hum, List.length_nil]
        and_intros <;> first | with_reducible rfl | assumption | exact Nat.le_refl _ | exact Nat.zero_le _ | exact fun j hj => trivial | exact fun j hj => rfl | exact fun j hj => absurd hj (Nat.not_lt_zero _) | exact trivial | omega | rfl | skip
  · have lb : (bif r.st == 0 then true else r.st == 1) = false := by rw [bOrF]; simpa using lv
    simp only [lb, Bool.not_false, cond_true, condT, condF]
    rcases (show u.k = 5 ∨ (u.k = 6 ∨ u.k = 7) ∨ u.k = 3 ∨ u.k = 4 ∨ (u.k ≠ 5 ∧ u.k ≠ 6 ∧ u.k ≠ 7 ∧ u.k ≠ 3 ∧ u.k ≠ 4) by omega) with k | k | k | k | k
    · simp only [k, Int.reduceBEq, condT, condF]
      have hT : T = (r, keptU r.nx ds, []) := by
        rw [hB, unT]
        split
        · rfl
        rw [if_neg (by omega), if_neg (by omega), if_neg (by omega), if_neg (by omega), if_neg (by omega)]
      subst hT
      first | refine ⟨trivial, ?_⟩ | skip
      refine ⟨(fi, ck, 0), ⟨fun h => by rw [hul]; exact h4 (hne h), by rw [hul]; exact h1, Nat.le_refl _⟩, ?_⟩
      simp only [hum, List.length_nil]
      and_intros <;> first | with_reducible rfl | assumption | exact Nat.le_refl _ | exact Nat.zero_le _ | exact fun j hj => trivial | exact fun j hj => rfl | exact fun j hj => absurd hj (Nat.not_lt_zero _) | exact trivial | omega | rfl | skip
    · have hT : T = (r, keptU r.nx ds, []) := by
        rw [hB, unT]
        split
        · rfl
        rw [if_neg (by omega), if_neg (by omega), if_neg (by omega), if_neg (by omega), if_neg (by omega)]
      rcases k with k | k <;> simp only [k, Int.reduceBEq, Bool.not_true, condT, condF, cond_true]
      all_goals
        subst hT
        first | refine ⟨trivial, ?_⟩ | skip
        refine ⟨(fi, ck, 0), ⟨fun h => by rw [hul]; exact h4 (hne h), by rw [hul]; exact h1, Nat.le_refl _⟩, ?_⟩
        simp only [hum, List.length_nil]
        and_intros <;> first | with_reducible rfl | assumption | exact Nat.le_refl _ | exact Nat.zero_le _ | exact fun j hj => trivial | exact fun j hj => rfl | exact fun j hj => absurd hj (Nat.not_lt_zero _) | exact trivial | omega | rfl | skip
    · simp only [k, Int.reduceBEq, condT, condF]
      refine ⟨rfl, (condX_iff _ _ _).2 ⟨fun c => ?_, fun c => ?_⟩⟩
      · have c : r.st = 2 := by simpa using c
        have hT : T = (r, keptU r.nx ds, [downE ⟨4, r.ot, r.ow, 0, 0, 0, 0, 0, false, ⟨#[]⟩⟩]) := by
          rw [hB, unT, if_neg (by omega), if_neg (by omega), if_neg (by omega), if_neg (by omega), if_pos ⟨k, c⟩]; rfl
        subst hT
        refine ⟨(fi, ck, 1), ⟨hfi0, by rw [hul]; exact h1, Nat.le_refl _⟩, ?_⟩
        simp only [hum, List.length_cons, List.length_nil]
        and_intros <;> first | exact row1 (downE ⟨4, r.ot, r.ow, 0, 0, 0, 0, 0, false, ⟨#[]⟩⟩) | with_reducible rfl | assumption | exact Nat.le_refl _ | exact Nat.zero_le _ | exact fun j hj => trivial | exact fun j hj => rfl | exact fun j hj => absurd hj (Nat.not_lt_zero _) | exact trivial | omega | rfl | skip
      · have c : ¬ r.st = 2 := by simpa using c
        have hT : T = (r, keptU r.nx ds, []) := by
          rw [hB, unT, if_neg (by omega), if_neg (by omega), if_neg (by omega), if_neg (by omega), if_neg (by omega), if_neg (by omega)]
        subst hT
        first | refine ⟨trivial, ?_⟩ | skip
        refine ⟨(fi, ck, 0), ⟨fun h => by rw [hul]; exact h4 (hne h), by rw [hul]; exact h1, Nat.le_refl _⟩, ?_⟩
        simp only [hum, List.length_nil]
        and_intros <;> first | with_reducible rfl | assumption | exact Nat.le_refl _ | exact Nat.zero_le _ | exact fun j hj => trivial | exact fun j hj => rfl | exact fun j hj => absurd hj (Nat.not_lt_zero _) | exact trivial | omega | rfl | skip
    · simp only [k, Int.reduceBEq, condT, condF]
      refine (condX_iff _ _ _).2 ⟨fun c => ?_, fun c => ?_⟩
      · have c : r.st = 2 := by simpa using c
        have hd := h5 c
        subst hd
        have hT : T = (frR r, [], [tellE 4 ⟨#[]⟩]) := by
          rw [hB, unT, if_neg (by omega), if_neg (by omega), if_neg (by omega), if_neg (by omega), if_neg (by omega), if_pos ⟨k, c⟩]; rfl
        subst hT
        refine ⟨(fi, ck, 1), ⟨fun h => absurd rfl h, h1, Nat.le_refl _⟩, ?_⟩
        simp only [List.map_nil, List.length_cons, List.length_nil]
        and_intros <;> first | exact row1 (tellE 4 ⟨#[]⟩) | with_reducible rfl | assumption | exact Nat.le_refl _ | exact Nat.zero_le _ | exact fun j hj => trivial | exact fun j hj => rfl | exact fun j hj => absurd hj (Nat.not_lt_zero _) | exact trivial | omega | rfl | skip
      · have c : ¬ r.st = 2 := by simpa using c
        have hT : T = (r, keptU r.nx ds, []) := by
          rw [hB, unT, if_neg (by omega), if_neg (by omega), if_neg (by omega), if_neg (by omega), if_neg (by omega), if_neg (by omega)]
        subst hT
        first | refine ⟨trivial, ?_⟩ | skip
        refine ⟨(fi, ck, 0), ⟨fun h => by rw [hul]; exact h4 (hne h), by rw [hul]; exact h1, Nat.le_refl _⟩, ?_⟩
        simp only [hum, List.length_nil]
        and_intros <;> first | with_reducible rfl | assumption | exact Nat.le_refl _ | exact Nat.zero_le _ | exact fun j hj => trivial | exact fun j hj => rfl | exact fun j hj => absurd hj (Nat.not_lt_zero _) | exact trivial | omega | rfl | skip
    · have hT : T = (r, keptU r.nx ds, []) := by
        rw [hB, unT]
        split
        · rfl
        rw [if_neg (by omega), if_neg (by omega), if_neg (by omega), if_neg (by omega), if_neg (by omega)]
      have e5 : (u.k == 5) = false := by simp; omega
      have e6 : (u.k == 6) = false := by simp; omega
      have e7 : (u.k == 7) = false := by simp; omega
      have e3 : (u.k == 3) = false := by simp; omega
      have e4 : (u.k == 4) = false := by simp; omega
      simp only [e5, e6, e7, e3, e4, condF]
      subst hT
      first | refine ⟨trivial, ?_⟩ | skip
      refine ⟨(fi, ck, 0), ⟨fun h => by rw [hul]; exact h4 (hne h), by rw [hul]; exact h1, Nat.le_refl _⟩, ?_⟩
      simp only [hum, List.length_nil]
      and_intros <;> first | with_reducible rfl | assumption | exact Nat.le_refl _ | exact Nat.zero_le _ | exact fun j hj => trivial | exact fun j hj => rfl | exact fun j hj => absurd hj (Nat.not_lt_zero _) | exact trivial | omega | rfl | skip
theorem vcRUnitK : ∀ (x : P18 × ByteArray), x.1.ok → Held (fnX (cx_rUnit18 x) (bodyOf Try.f33) Try.f33.results.toList (C_rUnit18.args x) (C_rUnit18.H x) (endX 2 (C_rUnit18.outs x))) := held2 vcRUnitE vcRUnit
def getPB (a : List SV) (H : Heap) : Option (P18 × ByteArray) := match a, getP a H with
  | [_, .g (.string b)], some x => some (x, b)
  | _, _ => none
theorem ok_rUnit18 : GenSound Try.prog Λ0 33 (callX C_rUnit18 getPB) :=
  gen_of (ty := ty) (Γ := ΓOf Γrc) hm tyOK Γrc_ok (fnOK_of Try.func33 (by kernel_rfl) (by kernel_rfl)) Try.func33 (body_some (by kernel_rfl)) C_rUnit18 getPB Try.ntmps33 (fun _ => Nat.le_of_ble_eq_true rfl) (fun x => (cx_rUnit18 x).cut) (fun x => (cx_rUnit18 x).loop) fun x h => vcRUnitK x h
def Γrd : List (Nat × Rule) := (33, .gen (callX C_rUnit18 getPB)) :: Γrc
theorem Γrd_ok : ΓOK Try.prog Λ0 (ΓOf Γrd) := (ΓOf_cons ok_rUnit18 Γrc_ok)
/-! ### an event -/
def outO (err : Int) (t : T18) (y : Int × Nat × Nat) : SV := .tup [.sl 3 0 6 t.2.2.length y.2.2, .g (.int .i64 err)]
def C_rOn18 : Ctr := ⟨2, P18 × Ev, fun x => [.ptr 0 0 0 0, .agg x.2.cells], fun x => x.1.H, fun x => x.1.ok, fun x =>
  [.any (Int × Nat × Nat) (outC3 (onT x.1.r (us0 x.1) x.2).2) (outO (onT x.1.r (us0 x.1) x.2).1 (onT x.1.r (us0 x.1) x.2).2) (outH3 (onT x.1.r (us0 x.1) x.2).2)]⟩
def cx_rOn18 (_ : P18 × Ev) : Cx := ⟨ty, ΓOf Γrd, fun _ => [], fun _ _ => [], 64, 2⟩
def Riq12 (x : P18 × Ev) := (Prod.snd (onT (P18.r (Prod.fst x)) (us0 (Prod.fst x)) (Prod.snd x)))
def Riq13 (x : P18 × Ev) := (P18.mk (P18.r (Prod.fst x)) (P18.fi (Prod.fst x)) (List.map (fun (j : Nat) => dRow (drow (P18.ds (Prod.fst x)) j)) (List.range (List.length (P18.ds (Prod.fst x))))) (P18.ck (Prod.fst x)))
def Riq14 (x : P18 × Ev) := ((∃ (y : Int × Nat × Nat), outC3 (Riq12 x) y ∧ List.length (Prod.snd (Prod.snd (Riq12 x))) = (0 : Nat) ∧ Prod.snd (Prod.snd y) = (0 : Nat) ∧ (1 : Int) = Prod.fst (onT (P18.r (Prod.fst x)) (us0 (Prod.fst x)) (Prod.snd x))
  ∧ true = true ∧ R18.ow (P18.r (Prod.fst x)) = R18.ow (Prod.fst (Riq12 x)) ∧ R18.ot (P18.r (Prod.fst x)) = R18.ot (Prod.fst (Riq12 x)) ∧ R18.ti (P18.r (Prod.fst x)) = R18.ti (Prod.fst (Riq12 x)) ∧ R18.nx (P18.r (Prod.fst
  x)) = R18.nx (Prod.fst (Riq12 x)) ∧ R18.wa (P18.r (Prod.fst x)) = R18.wa (Prod.fst (Riq12 x)) ∧ R18.st (P18.r (Prod.fst x)) = R18.st (Prod.fst (Riq12 x)) ∧ R18.le (P18.r (Prod.fst x)) = R18.le (Prod.fst (Riq12 x)) ∧
  P18.fi (Prod.fst x) = Prod.fst y ∧ (0 : Nat) = (0 : Nat) ∧ List.length (P18.ds (Prod.fst x)) = List.length (List.map U.d (Prod.fst (Prod.snd (Riq12 x)))) ∧ P18.ck (Prod.fst x) = Prod.fst (Prod.snd y) ∧ List.length
  (List.map U.d (Prod.fst (Prod.snd (Riq12 x)))) ≤ List.length (P18.ds (Prod.fst x)) ∧ List.length (List.map U.d (Prod.fst (Prod.snd (Riq12 x)))) ≤ Prod.fst (Prod.snd y) ∧ Prod.fst (Prod.snd y) ≤ P18.ck (Prod.fst x) ∧ (∀
  (j : Nat), j < List.length (List.map U.d (Prod.fst (Prod.snd (Riq12 x)))) → drow (P18.ds (Prod.fst x)) j = drow (List.map U.d (Prod.fst (Prod.snd (Riq12 x)))) j ∧ true = true) ∧ List.length (Prod.snd (Prod.snd (Riq12
  x))) = (0 : Nat) ∧ True) ∨ False)
def Riq15 (x : P18 × Ev) := (List.map (fun (j : Nat) => dRow (drow (P18.ds (Prod.fst x)) j)) (List.range (List.length (P18.ds (Prod.fst x)))))
def Riq16 (x : P18 × Ev) := (List.map U.d (Prod.fst (Prod.snd (Riq12 x))))
def Riq17 (x : P18 × Ev) := (unB (P18.r (Prod.fst x)) (us0 (Riq13 x)) (Ev.d (Prod.snd x)))
def VcROn : Prop := ∀ (x : P18 × Ev), P18.ok (Prod.fst x) → condX (Ev.w (Prod.snd x) == (0 : Int)) (condX (bif bif Ev.k (Prod.snd x) != (3 : Int) then Ev.k (Prod.snd x) != (4 : Int) else false then true else bif Ev.k (Prod.snd x) == (3 :
  Int) then decide ((128 : Int) < (↑(ByteArray.size (Ev.d (Prod.snd x))) : Int)) else false) (Riq14 x) ((0 : Nat) = (0 : Nat) ∧ Ev.w (Prod.snd x) = Ev.w (Prod.snd x) ∧ Ev.k (Prod.snd x) = Ev.k (Prod.snd x) ∧ Ev.a (Prod.snd
  x) = Ev.a (Prod.snd x) ∧ Ev.b (Prod.snd x) = Ev.b (Prod.snd x) ∧ Ev.c (Prod.snd x) = Ev.c (Prod.snd x) ∧ Ev.d (Prod.snd x) = Ev.d (Prod.snd x) ∧ true = true ∧ R18.ow (P18.r (Prod.fst x)) = R18.ow (P18.r (Prod.fst x)) ∧
  R18.ot (P18.r (Prod.fst x)) = R18.ot (P18.r (Prod.fst x)) ∧ R18.ti (P18.r (Prod.fst x)) = R18.ti (P18.r (Prod.fst x)) ∧ R18.nx (P18.r (Prod.fst x)) = R18.nx (P18.r (Prod.fst x)) ∧ R18.wa (P18.r (Prod.fst x)) = R18.wa
  (P18.r (Prod.fst x)) ∧ R18.st (P18.r (Prod.fst x)) = R18.st (P18.r (Prod.fst x)) ∧ R18.le (P18.r (Prod.fst x)) = R18.le (P18.r (Prod.fst x)) ∧ P18.fi (Prod.fst x) = P18.fi (Prod.fst x) ∧ (0 : Nat) = (0 : Nat) ∧
  List.length (P18.ds (Prod.fst x)) = List.length (Riq15 x) ∧ P18.ck (Prod.fst x) = P18.ck (Prod.fst x) ∧ List.length (Riq15 x) ≤ List.length (P18.ds (Prod.fst x)) ∧ List.length (Riq15 x) ≤ P18.ck (Prod.fst x) ∧ P18.ck
  (Prod.fst x) ≤ P18.ck (Prod.fst x) ∧ (∀ (j : Nat), j < List.length (Riq15 x) → drow (P18.ds (Prod.fst x)) j = drow (Riq15 x) j ∧ true = true) ∧ (P18.ok (Riq13 x) ∧ usPre (Prod.snd x)) ∧ ∀ (y : Int × Nat × Nat), outUc
  (usR (P18.r (Prod.fst x)) (us0 (Riq13 x)) (Prod.snd x)) (usU (P18.r (Prod.fst x)) (us0 (Riq13 x)) (Prod.snd x)) (usA (P18.r (Prod.fst x)) (us0 (Riq13 x)) [] (Prod.snd x)) y → (∃ (y_1 : Int × Nat × Nat), outC3 (Riq12 x)
  y_1 ∧ (0 : Nat) = (0 : Nat) ∧ List.length (usA (P18.r (Prod.fst x)) (us0 (Riq13 x)) [] (Prod.snd x)) = List.length (Prod.snd (Prod.snd (Riq12 x))) ∧ Prod.snd (Prod.snd y) = Prod.snd (Prod.snd y_1) ∧ usE (P18.r (Prod.fst
  x)) (us0 (Riq13 x)) (Prod.snd x) = Prod.fst (onT (P18.r (Prod.fst x)) (us0 (Prod.fst x)) (Prod.snd x)) ∧ true = true ∧ R18.ow (usR (P18.r (Prod.fst x)) (us0 (Riq13 x)) (Prod.snd x)) = R18.ow (Prod.fst (Riq12 x)) ∧ R18.ot
  (usR (P18.r (Prod.fst x)) (us0 (Riq13 x)) (Prod.snd x)) = R18.ot (Prod.fst (Riq12 x)) ∧ R18.ti (usR (P18.r (Prod.fst x)) (us0 (Riq13 x)) (Prod.snd x)) = R18.ti (Prod.fst (Riq12 x)) ∧ R18.nx (usR (P18.r (Prod.fst x)) (us0
  (Riq13 x)) (Prod.snd x)) = R18.nx (Prod.fst (Riq12 x)) ∧ R18.wa (usR (P18.r (Prod.fst x)) (us0 (Riq13 x)) (Prod.snd x)) = R18.wa (Prod.fst (Riq12 x)) ∧ R18.st (usR (P18.r (Prod.fst x)) (us0 (Riq13 x)) (Prod.snd x)) =
  R18.st (Prod.fst (Riq12 x)) ∧ R18.le (usR (P18.r (Prod.fst x)) (us0 (Riq13 x)) (Prod.snd x)) = R18.le (Prod.fst (Riq12 x)) ∧ Prod.fst y = Prod.fst y_1 ∧ (0 : Nat) = (0 : Nat) ∧ List.length (List.map U.d (usU (P18.r
  (Prod.fst x)) (us0 (Riq13 x)) (Prod.snd x))) = List.length (Riq16 x) ∧ Prod.fst (Prod.snd y) = Prod.fst (Prod.snd y_1) ∧ List.length (Riq16 x) ≤ List.length (List.map U.d (usU (P18.r (Prod.fst x)) (us0 (Riq13 x))
  (Prod.snd x))) ∧ List.length (Riq16 x) ≤ Prod.fst (Prod.snd y_1) ∧ Prod.fst (Prod.snd y_1) ≤ Prod.fst (Prod.snd y) ∧ (∀ (j : Nat), j < List.length (Riq16 x) → drow (List.map U.d (usU (P18.r (Prod.fst x)) (us0 (Riq13 x))
  (Prod.snd x))) j = drow (Riq16 x) j ∧ true = true) ∧ List.length (Prod.snd (Prod.snd (Riq12 x))) ≤ List.length (usA (P18.r (Prod.fst x)) (us0 (Riq13 x)) [] (Prod.snd x)) ∧ List.length (Prod.snd (Prod.snd (Riq12 x))) ≤
  Prod.snd (Prod.snd y_1) ∧ Prod.snd (Prod.snd y_1) ≤ Prod.snd (Prod.snd y) ∧ (∀ (j : Nat), j < List.length (Prod.snd (Prod.snd (Riq12 x))) → erow (usA (P18.r (Prod.fst x)) (us0 (Riq13 x)) [] (Prod.snd x)) j = erow
  (Prod.snd (Prod.snd (Riq12 x))) j ∧ true = true) ∧ True) ∨ False)) (condX (Ev.w (Prod.snd x) == (1 : Int)) (condX (Ev.k (Prod.snd x) == (0 : Int)) ((0 : Nat) = (0 : Nat) ∧ Ev.d (Prod.snd x) = Ev.d (Prod.snd x) ∧ true =
  true ∧ R18.ow (P18.r (Prod.fst x)) = R18.ow (P18.r (Prod.fst x)) ∧ R18.ot (P18.r (Prod.fst x)) = R18.ot (P18.r (Prod.fst x)) ∧ R18.ti (P18.r (Prod.fst x)) = R18.ti (P18.r (Prod.fst x)) ∧ R18.nx (P18.r (Prod.fst x)) =
  R18.nx (P18.r (Prod.fst x)) ∧ R18.wa (P18.r (Prod.fst x)) = R18.wa (P18.r (Prod.fst x)) ∧ R18.st (P18.r (Prod.fst x)) = R18.st (P18.r (Prod.fst x)) ∧ R18.le (P18.r (Prod.fst x)) = R18.le (P18.r (Prod.fst x)) ∧ P18.fi
  (Prod.fst x) = P18.fi (Prod.fst x) ∧ (0 : Nat) = (0 : Nat) ∧ List.length (P18.ds (Prod.fst x)) = List.length (Riq15 x) ∧ P18.ck (Prod.fst x) = P18.ck (Prod.fst x) ∧ List.length (Riq15 x) ≤ List.length (P18.ds (Prod.fst
  x)) ∧ List.length (Riq15 x) ≤ P18.ck (Prod.fst x) ∧ P18.ck (Prod.fst x) ≤ P18.ck (Prod.fst x) ∧ (∀ (j : Nat), j < List.length (Riq15 x) → drow (P18.ds (Prod.fst x)) j = drow (Riq15 x) j ∧ true = true) ∧ P18.ok (Riq13 x)
  ∧ ∀ (y : Int × Nat × Nat), outC3 (Riq17 x) y → (∃ (y_1 : Int × Nat × Nat), outC3 (Riq12 x) y_1 ∧ (0 : Nat) = (0 : Nat) ∧ List.length (Prod.snd (Prod.snd (Riq17 x))) = List.length (Prod.snd (Prod.snd (Riq12 x))) ∧
  Prod.snd (Prod.snd y) = Prod.snd (Prod.snd y_1) ∧ (0 : Int) = Prod.fst (onT (P18.r (Prod.fst x)) (us0 (Prod.fst x)) (Prod.snd x)) ∧ true = true ∧ R18.ow (Prod.fst (Riq17 x)) = R18.ow (Prod.fst (Riq12 x)) ∧ R18.ot
  (Prod.fst (Riq17 x)) = R18.ot (Prod.fst (Riq12 x)) ∧ R18.ti (Prod.fst (Riq17 x)) = R18.ti (Prod.fst (Riq12 x)) ∧ R18.nx (Prod.fst (Riq17 x)) = R18.nx (Prod.fst (Riq12 x)) ∧ R18.wa (Prod.fst (Riq17 x)) = R18.wa (Prod.fst
  (Riq12 x)) ∧ R18.st (Prod.fst (Riq17 x)) = R18.st (Prod.fst (Riq12 x)) ∧ R18.le (Prod.fst (Riq17 x)) = R18.le (Prod.fst (Riq12 x)) ∧ Prod.fst y = Prod.fst y_1 ∧ (0 : Nat) = (0 : Nat) ∧ List.length (List.map U.d (Prod.fst
  (Prod.snd (Riq17 x)))) = List.length (Riq16 x) ∧ Prod.fst (Prod.snd y) = Prod.fst (Prod.snd y_1) ∧ List.length (Riq16 x) ≤ List.length (List.map U.d (Prod.fst (Prod.snd (Riq17 x)))) ∧ List.length (Riq16 x) ≤ Prod.fst
  (Prod.snd y_1) ∧ Prod.fst (Prod.snd y_1) ≤ Prod.fst (Prod.snd y) ∧ (∀ (j : Nat), j < List.length (Riq16 x) → drow (List.map U.d (Prod.fst (Prod.snd (Riq17 x)))) j = drow (Riq16 x) j ∧ true = true) ∧ List.length (Prod.snd
  (Prod.snd (Riq12 x))) ≤ List.length (Prod.snd (Prod.snd (Riq17 x))) ∧ List.length (Prod.snd (Prod.snd (Riq12 x))) ≤ Prod.snd (Prod.snd y_1) ∧ Prod.snd (Prod.snd y_1) ≤ Prod.snd (Prod.snd y) ∧ (∀ (j : Nat), j <
  List.length (Prod.snd (Prod.snd (Riq12 x))) → erow (Prod.snd (Prod.snd (Riq17 x))) j = erow (Prod.snd (Prod.snd (Riq12 x))) j ∧ true = true) ∧ True) ∨ False) (condX (Ev.k (Prod.snd x) == (1 : Int)) ((0 : Nat) = (0 : Nat)
  ∧ true = true ∧ R18.ow (P18.r (Prod.fst x)) = R18.ow (P18.r (Prod.fst x)) ∧ R18.ot (P18.r (Prod.fst x)) = R18.ot (P18.r (Prod.fst x)) ∧ R18.ti (P18.r (Prod.fst x)) = R18.ti (P18.r (Prod.fst x)) ∧ R18.nx (P18.r (Prod.fst
  x)) = R18.nx (P18.r (Prod.fst x)) ∧ R18.wa (P18.r (Prod.fst x)) = R18.wa (P18.r (Prod.fst x)) ∧ R18.st (P18.r (Prod.fst x)) = R18.st (P18.r (Prod.fst x)) ∧ R18.le (P18.r (Prod.fst x)) = R18.le (P18.r (Prod.fst x)) ∧
  P18.fi (Prod.fst x) = P18.fi (Prod.fst x) ∧ (0 : Nat) = (0 : Nat) ∧ List.length (P18.ds (Prod.fst x)) = List.length (P18.ds (Prod.fst x)) ∧ P18.ck (Prod.fst x) = P18.ck (Prod.fst x) ∧ True ∧ ∀ (yᵥ1 : Nat), List.length
  (rstE (P18.r (Prod.fst x)) []) ≤ yᵥ1 → (∃ (y_1 : Int × Nat × Nat), outC3 (Riq12 x) y_1 ∧ (0 : Nat) = (0 : Nat) ∧ List.length (rstE (P18.r (Prod.fst x)) []) = List.length (Prod.snd (Prod.snd (Riq12 x))) ∧ yᵥ1 = Prod.snd
  (Prod.snd y_1) ∧ (0 : Int) = Prod.fst (onT (P18.r (Prod.fst x)) (us0 (Prod.fst x)) (Prod.snd x)) ∧ true = true ∧ R18.ow (rstR (P18.r (Prod.fst x))) = R18.ow (Prod.fst (Riq12 x)) ∧ R18.ot (rstR (P18.r (Prod.fst x))) =
  R18.ot (Prod.fst (Riq12 x)) ∧ R18.ti (rstR (P18.r (Prod.fst x))) = R18.ti (Prod.fst (Riq12 x)) ∧ R18.nx (rstR (P18.r (Prod.fst x))) = R18.nx (Prod.fst (Riq12 x)) ∧ R18.wa (rstR (P18.r (Prod.fst x))) = R18.wa (Prod.fst
  (Riq12 x)) ∧ R18.st (rstR (P18.r (Prod.fst x))) = R18.st (Prod.fst (Riq12 x)) ∧ R18.le (rstR (P18.r (Prod.fst x))) = R18.le (Prod.fst (Riq12 x)) ∧ P18.fi (Prod.fst x) = Prod.fst y_1 ∧ (0 : Nat) = (0 : Nat) ∧ List.length
  (P18.ds (Prod.fst x)) = List.length (Riq16 x) ∧ P18.ck (Prod.fst x) = Prod.fst (Prod.snd y_1) ∧ List.length (Riq16 x) ≤ List.length (P18.ds (Prod.fst x)) ∧ List.length (Riq16 x) ≤ Prod.fst (Prod.snd y_1) ∧ Prod.fst
  (Prod.snd y_1) ≤ P18.ck (Prod.fst x) ∧ (∀ (j : Nat), j < List.length (Riq16 x) → drow (P18.ds (Prod.fst x)) j = drow (Riq16 x) j ∧ true = true) ∧ List.length (Prod.snd (Prod.snd (Riq12 x))) ≤ List.length (rstE (P18.r
  (Prod.fst x)) []) ∧ List.length (Prod.snd (Prod.snd (Riq12 x))) ≤ Prod.snd (Prod.snd y_1) ∧ Prod.snd (Prod.snd y_1) ≤ yᵥ1 ∧ (∀ (j : Nat), j < List.length (Prod.snd (Prod.snd (Riq12 x))) → erow (rstE (P18.r (Prod.fst x))
  []) j = erow (Prod.snd (Prod.snd (Riq12 x))) j ∧ true = true) ∧ True) ∨ False) (Riq14 x))) (condX (Ev.w (Prod.snd x) == (2 : Int)) (condX (Ev.k (Prod.snd x) == (0 : Int)) ((0 : Nat) = (0 : Nat) ∧ true = true ∧ R18.ow
  (P18.r (Prod.fst x)) = R18.ow (P18.r (Prod.fst x)) ∧ R18.ot (P18.r (Prod.fst x)) = R18.ot (P18.r (Prod.fst x)) ∧ R18.ti (P18.r (Prod.fst x)) = R18.ti (P18.r (Prod.fst x)) ∧ R18.nx (P18.r (Prod.fst x)) = R18.nx (P18.r
  (Prod.fst x)) ∧ R18.wa (P18.r (Prod.fst x)) = R18.wa (P18.r (Prod.fst x)) ∧ R18.st (P18.r (Prod.fst x)) = R18.st (P18.r (Prod.fst x)) ∧ R18.le (P18.r (Prod.fst x)) = R18.le (P18.r (Prod.fst x)) ∧ P18.fi (Prod.fst x) =
  P18.fi (Prod.fst x) ∧ (0 : Nat) = (0 : Nat) ∧ List.length (P18.ds (Prod.fst x)) = List.length (P18.ds (Prod.fst x)) ∧ P18.ck (Prod.fst x) = P18.ck (Prod.fst x) ∧ R18.ok (P18.r (Prod.fst x)) ∧ (True → (∃ (y : Int × Nat ×
  Nat), outC3 (Riq12 x) y ∧ List.length (Prod.snd (Prod.snd (Riq12 x))) = (0 : Nat) ∧ Prod.snd (Prod.snd y) = (0 : Nat) ∧ (0 : Int) = Prod.fst (onT (P18.r (Prod.fst x)) (us0 (Prod.fst x)) (Prod.snd x)) ∧ true = true ∧
  R18.ow (tkR (P18.r (Prod.fst x))) = R18.ow (Prod.fst (Riq12 x)) ∧ R18.ot (tkR (P18.r (Prod.fst x))) = R18.ot (Prod.fst (Riq12 x)) ∧ R18.ti (tkR (P18.r (Prod.fst x))) = R18.ti (Prod.fst (Riq12 x)) ∧ R18.nx (tkR (P18.r
  (Prod.fst x))) = R18.nx (Prod.fst (Riq12 x)) ∧ R18.wa (tkR (P18.r (Prod.fst x))) = R18.wa (Prod.fst (Riq12 x)) ∧ R18.st (tkR (P18.r (Prod.fst x))) = R18.st (Prod.fst (Riq12 x)) ∧ R18.le (tkR (P18.r (Prod.fst x))) =
  R18.le (Prod.fst (Riq12 x)) ∧ P18.fi (Prod.fst x) = Prod.fst y ∧ (0 : Nat) = (0 : Nat) ∧ List.length (P18.ds (Prod.fst x)) = List.length (Riq16 x) ∧ P18.ck (Prod.fst x) = Prod.fst (Prod.snd y) ∧ List.length (Riq16 x) ≤
  List.length (P18.ds (Prod.fst x)) ∧ List.length (Riq16 x) ≤ Prod.fst (Prod.snd y) ∧ Prod.fst (Prod.snd y) ≤ P18.ck (Prod.fst x) ∧ (∀ (j : Nat), j < List.length (Riq16 x) → drow (P18.ds (Prod.fst x)) j = drow (Riq16 x) j
  ∧ true = true) ∧ List.length (Prod.snd (Prod.snd (Riq12 x))) = (0 : Nat) ∧ True) ∨ False)) (Riq14 x)) (Riq14 x)))
theorem vcROnE : VcROn = (∀ (x : P18 × Ev), x.1.ok → fnX (cx_rOn18 x) (bodyOf Try.f15) Try.f15.results.toList (C_rOn18.args x) (C_rOn18.H x) (endX 2 (C_rOn18.outs x))) := by kernel_rfl
set_option maxHeartbeats 4000000 in
theorem vcROn : VcROn := by
  unfold VcROn Riq17 Riq16 Riq15 Riq14 Riq13 Riq12
  rintro ⟨⟨r, fi, ds, ck⟩, e⟩ hok
  obtain ⟨h1, h2, h3, h4, h5⟩ := id hok
  have hok : P18.ok ⟨r, fi, ds, ck⟩ := hok
  have h1 : ds.length ≤ ck := h1
  have h2 : ds.length ≤ 60 := h2
  have h3 : r.ok := h3
  have h4 : ds ≠ [] → fi = kN r.nx ds.length 0 := h4
  have h5 : r.st = 2 → ds = [] := h5
  simp only [eq_self, true_and, and_true, Nat.le_refl, Int.le_refl, implies_true, forall_const, and_false, false_and, exists_false, false_or, or_false, true_implies, Nat.zero_add, and_self, Int.toNat_natCast, cond_true, cond_false, condT, condF, dRow_drow]
  have u0 : us0 ⟨r, fi, ds, ck⟩ = keptU r.nx ds := rfl
  simp only [u0]
  have hul : (keptU r.nx ds).length = ds.length := keptU_len _ _
  have hum : (keptU r.nx ds).map U.d = ds := keptU_map _ _
  have hne : keptU r.nx ds ≠ [] → ds ≠ [] := fun h => by rw [← hum]; simpa using h
  have hfi0 : keptU r.nx ds ≠ [] → fi = kN r.nx (keptU r.nx ds).length 0 := fun h => by rw [hul]; exact h4 (hne h)
  generalize keptU r.nx ds = us at *
  generalize hT : onT r us e = T
  refine (condX_iff _ _ _).2 ⟨fun c => ?_, fun c => ?_⟩
  · have w0 : e.w = 0 := by simpa using c
    have hT : T = (usE r us e, usR r us e, usU r us e, usA r us [] e) := by rw [← hT, onT, if_pos w0]
    refine (condX_iff _ _ _).2 ⟨fun c => ?_, fun c => ?_⟩
    · have e0 : usE r us e = 1 := by
        rw [usE, if_pos]
        by_cases k3 : e.k = 3 <;> by_cases k4 : e.k = 4 <;> simp [k3, k4] at c ⊢ <;> omega
      have : usE r us e ≠ 0 := by rw [e0]; decide
      have e1 : usR r us e = r := by simp [usR, this]
      have e2 : usU r us e = us := by simp [usU, this]
      have e3 : usA r us [] e = [] := by simp [usA, this]
      rw [e0, e1, e2, e3] at hT
      subst hT
      refine ⟨(fi, ck, 0), ⟨hfi0, by rw [hul]; exact h1, Nat.le_refl _⟩, ?_⟩
      simp only [hum, List.length_nil]
      and_intros <;> first | with_reducible rfl | assumption | exact Nat.le_refl _ | exact Nat.zero_le _ | exact fun j hj => trivial | exact fun j hj => rfl | exact fun j hj => absurd hj (Nat.not_lt_zero _) | exact trivial | omega | rfl | skip
    · subst hT
      refine ⟨h1, ⟨hok, ?_⟩, fun y hy => ⟨y, hy, ?_⟩⟩
      · constructor
        · by_cases k3 : e.k = 3 <;> by_cases k4 : e.k = 4 <;> simp [k3, k4] at c ⊢
        · intro k3; simp [k3] at c; omega
      · dsimp only
        and_intros <;> first | (rw [List.length_map]; exact hy.k) | exact hy.a | with_reducible rfl | assumption | exact Nat.le_refl _ | exact Nat.zero_le _ | exact fun j hj => trivial | exact fun j hj => rfl | exact fun j hj => absurd hj (Nat.not_lt_zero _) | exact trivial | omega | rfl | skip
  have w0 : ¬ e.w = 0 := by simpa using c
  refine (condX_iff _ _ _).2 ⟨fun c => ?_, fun c => ?_⟩
  · have w1 : e.w = 1 := by simpa using c
    refine (condX_iff _ _ _).2 ⟨fun c => ?_, fun c => ?_⟩
    · have k0 : e.k = 0 := by simpa using c
      have hT : T = (0, unB r us e.d) := by rw [← hT, onT, if_neg w0, if_pos ⟨w1, k0⟩]; rfl
      subst hT
      refine ⟨h1, hok, fun y hy => ⟨y, hy, ?_⟩⟩
      dsimp only
      and_intros <;> first | (rw [List.length_map]; exact hy.k) | exact hy.a | with_reducible rfl | assumption | exact Nat.le_refl _ | exact Nat.zero_le _ | exact fun j hj => trivial | exact fun j hj => rfl | exact fun j hj => absurd hj (Nat.not_lt_zero _) | exact trivial | omega | rfl | skip
    have k0 : ¬ e.k = 0 := by simpa using c
    refine (condX_iff _ _ _).2 ⟨fun c => ?_, fun c => ?_⟩
    · have k1 : e.k = 1 := by simpa using c
      have hT : T = (0, rstR r, us, rstE r []) := by rw [← hT, onT, if_neg w0, if_neg (by omega), if_pos ⟨w1, k1⟩]
      subst hT
      have hnx : (rstR r).nx = r.nx := by unfold rstR; split <;> rfl
      try refine fun y hy => ?_
      refine ⟨(fi, ck, y), ⟨fun h => ?_, by rw [hul]; exact h1, hy⟩, ?_⟩
      · have := hfi0 h; dsimp only; rw [hnx]; exact this
      simp only [hum]
      and_intros <;> first | with_reducible rfl | assumption | exact Nat.le_refl _ | exact Nat.zero_le _ | exact fun j hj => trivial | exact fun j hj => rfl | exact fun j hj => absurd hj (Nat.not_lt_zero _) | exact trivial | omega | rfl | skip
    · have k1 : ¬ e.k = 1 := by simpa using c
      have hT : T = (1, r, us, []) := by rw [← hT, onT, if_neg w0, if_neg (by omega), if_neg (by omega), if_neg (by omega)]
      subst hT
      refine ⟨(fi, ck, 0), ⟨hfi0, by rw [hul]; exact h1, Nat.le_refl _⟩, ?_⟩
      simp only [hum, List.length_nil]
      and_intros <;> first | with_reducible rfl | assumption | exact Nat.le_refl _ | exact Nat.zero_le _ | exact fun j hj => trivial | exact fun j hj => rfl | exact fun j hj => absurd hj (Nat.not_lt_zero _) | exact trivial | omega | rfl | skip
  have w1 : ¬ e.w = 1 := by simpa using c
  refine (condX_iff _ _ _).2 ⟨fun c => ?_, fun c => ?_⟩
  · have w2 : e.w = 2 := by simpa using c
    refine (condX_iff _ _ _).2 ⟨fun c => ?_, fun c => ?_⟩
    · have k0 : e.k = 0 := by simpa using c
      have hT : T = (0, tkR r, us, []) := by rw [← hT, onT, if_neg w0, if_neg (by omega), if_neg (by omega), if_pos ⟨w2, k0⟩]
      subst hT
      have hnx : (tkR r).nx = r.nx := by unfold tkR; split <;> (try split) <;> rfl
      refine ⟨h3, (fi, ck, 0), ⟨fun h => ?_, by rw [hul]; exact h1, Nat.le_refl _⟩, ?_⟩
      · have := hfi0 h; dsimp only; rw [hnx]; exact this
      simp only [hum, List.length_nil]
      and_intros <;> first | with_reducible rfl | assumption | exact Nat.le_refl _ | exact Nat.zero_le _ | exact fun j hj => trivial | exact fun j hj => rfl | exact fun j hj => absurd hj (Nat.not_lt_zero _) | exact trivial | omega | rfl | skip
    · have k0 : ¬ e.k = 0 := by simpa using c
      have hT : T = (1, r, us, []) := by rw [← hT, onT, if_neg w0, if_neg (by omega), if_neg (by omega), if_neg (by omega)]
      subst hT
      refine ⟨(fi, ck, 0), ⟨hfi0, by rw [hul]; exact h1, Nat.le_refl _⟩, ?_⟩
      simp only [hum, List.length_nil]
      and_intros <;> first | with_reducible rfl | assumption | exact Nat.le_refl _ | exact Nat.zero_le _ | exact fun j hj => trivial | exact fun j hj => rfl | exact fun j hj => absurd hj (Nat.not_lt_zero _) | exact trivial | omega | rfl | skip
  · have w2 : ¬ e.w = 2 := by simpa using c
    have hT : T = (1, r, us, []) := by rw [← hT, onT, if_neg w0, if_neg (by omega), if_neg (by omega), if_neg (by omega)]
    subst hT
    refine ⟨(fi, ck, 0), ⟨hfi0, by rw [hul]; exact h1, Nat.le_refl _⟩, ?_⟩
    simp only [hum, List.length_nil]
    and_intros <;> first | with_reducible rfl | assumption | exact Nat.le_refl _ | exact Nat.zero_le _ | exact fun j hj => trivial | exact fun j hj => rfl | exact fun j hj => absurd hj (Nat.not_lt_zero _) | exact trivial | omega | rfl | skip
theorem vcROnK : ∀ (x : P18 × Ev), x.1.ok → Held (fnX (cx_rOn18 x) (bodyOf Try.f15) Try.f15.results.toList (C_rOn18.args x) (C_rOn18.H x) (endX 2 (C_rOn18.outs x))) := held2 vcROnE vcROn
theorem ok_rOn18 : GenSound Try.prog Λ0 15 (callX C_rOn18 getPE) :=
  gen_of (ty := ty) (Γ := ΓOf Γrd) hm tyOK Γrd_ok (fnOK_of Try.func15 (by kernel_rfl) (by kernel_rfl)) Try.func15 (body_some (by kernel_rfl)) C_rOn18 getPE Try.ntmps15 (fun _ => Nat.le_of_ble_eq_true rfl) (fun x => (cx_rOn18 x).cut) (fun x => (cx_rOn18 x).loop) fun x h => vcROnK x h
end Go.Proofs.Ytghbejmnnfoamaa
