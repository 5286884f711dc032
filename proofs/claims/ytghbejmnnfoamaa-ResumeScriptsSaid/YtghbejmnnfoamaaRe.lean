/- Chapter 18: the example. -/
import Derived.Test.YtghbejmnnfoamaaRd
import Derived.Test.YtghbejmnnfoamaaWc
set_option linter.unusedVariables false
set_option linter.unusedSimpArgs false
namespace Go.Proofs.Ytghbejmnnfoamaa
open Go Go.Eng
attribute [local irreducible] condX
/-- The side's own number is none. -/
def selZ : List SV → Heap → Bool
  | .ptr id _ _ _ :: _, H => match Eng.look id H with
    | some (.cells (_ :: _ :: .g (.int _ ow) :: _) _) => decide (ow = 0)
    | _ => false
  | _, _ => false
def wtOn (a : List SV) (H : Heap) (n : Nat) (K : SV → Heap → Prop) : Prop := match selN a H with
  | true => callX C_On0 getE1 a H n K
  | false => match selZ a H with
    | true => callX C_Onz getNE a H n K
    | false => callX C_On18 getOE a H n K
theorem ok_OnA : GenSound Try.prog Λ0 9 wtOn := gen_sel selN ok_On0 (gen_sel selZ ok_Onz ok_On18)
def Γx : List (Nat × Rule) := (9, .gen wtOn) :: (7, .gen (callX C_New18 getN3)) :: (10, .exact X_rWrite.rule) :: Γ8
theorem Γx_ok : ΓOK Try.prog Λ0 (ΓOf Γx) := ΓOf_cons ok_OnA (ΓOf_cons ok_New18 (ΓOf_cons ok_rWrite Γ8_ok))
def cx_sane18 : Cx := ⟨ty, ΓOf Γx, fun _ => [], fun _ _ => [], 87, 0⟩
def Req0  := (urow [dtU (0 : Int) (ByteArray.mk #[(120 : UInt8)])] (0 : Nat))
def Req1  := (U.mk (7 : Int) (1 : Int) (0 : Int) (0 : Int) (0 : Int) (0 : Int) (0 : Int) (0 : Int) false (ByteArray.mk #[]))
def Req2  := (R18.mk (1 : Int) (0 : Int) (1 : Int) (2 : Int) (5 : Int) (0 : Int) (0 : Int))
def Req3 (y : Nat × Nat) := (O18.ok (O18.mk (R18.mk (1 : Int) (0 : Int) (1 : Int) (2 : Int) (5 : Int) (1 : Int) (0 : Int)) (List.map (fun (j : Nat) => uRow (urow [uRow (Req0)] j)) (List.range (1 : Nat))) (Prod.fst y) (1 : Nat) (Prod.snd y)) ∧ (1 :
  Int) ≠ (0 : Int))
def VcSane18 : Prop := (1 : Int) = (1 : Int) ∧ (2 : Int) = (2 : Int) ∧ (5 : Int) = (5 : Int) ∧ True ∧ (newOK (1 : Int) (2 : Int) (5 : Int) → (0 : Nat) = (0 : Nat) ∧ (0 : Int) = (0 : Int) ∧ (3 : Int) = (3 : Int) ∧ (0 : Int) = (0 : Int) ∧ (0 :
  Int) = (0 : Int) ∧ (0 : Int) = (0 : Int) ∧ ByteArray.mk #[(120 : UInt8)] = ByteArray.mk #[(120 : UInt8)] ∧ (0 : Int) = (0 : Int) ∧ (0 : Int) = (0 : Int) ∧ (1 : Int) = (1 : Int) ∧ (2 : Int) = (2 : Int) ∧ (5 : Int) = (5 :
  Int) ∧ (0 : Int) = (0 : Int) ∧ (0 : Int) = (0 : Int) ∧ (0 : Nat) = (0 : Nat) ∧ (0 : Nat) = (0 : Nat) ∧ (0 : Nat) = (0 : Nat) ∧ (0 : Nat) = (0 : Nat) ∧ (0 : Nat) = (0 : Nat) ∧ (O18.ok (O18.mk (R18.mk (0 : Int) (0 : Int)
  (1 : Int) (2 : Int) (5 : Int) (0 : Int) (0 : Int)) [] (0 : Nat) (0 : Nat) (0 : Nat)) ∧ (1 : Int) ≠ (0 : Int)) ∧ (∀ (y : Nat × Nat), (0 : Int) = (0 : Int) ∧ outC [dtU (0 : Int) (ByteArray.mk #[(120 : UInt8)])] [sendE
  (Req2) (dtU (0 : Int) (ByteArray.mk #[(120 : UInt8)]))] y → (0 : Nat) = (0 : Nat) ∧ (1 : Int) = (1 : Int) ∧ (1 : Int) = (1 : Int) ∧ (0 : Int) = (0 : Int) ∧ (0 : Int) = (0 : Int) ∧ (0 : Int) = (0 : Int) ∧ ByteArray.mk #[]
  = ByteArray.mk #[] ∧ (1 : Int) = (1 : Int) ∧ (0 : Int) = (0 : Int) ∧ (1 : Int) = (1 : Int) ∧ (2 : Int) = (2 : Int) ∧ (5 : Int) = (5 : Int) ∧ (0 : Int) = (0 : Int) ∧ (0 : Int) = (0 : Int) ∧ (0 : Nat) = (0 : Nat) ∧ (1 :
  Nat) = (1 : Nat) ∧ Prod.fst y = Prod.fst y ∧ (0 : Nat) = (0 : Nat) ∧ (1 : Nat) = (1 : Nat) ∧ Prod.snd y = Prod.snd y ∧ (1 : Nat) ≤ (1 : Nat) ∧ (1 : Nat) ≤ Prod.fst y ∧ Prod.fst y ≤ Prod.fst y ∧ (∀ (j : Nat), j < (1 :
  Nat) → urow [dtU (0 : Int) (ByteArray.mk #[(120 : UInt8)])] j = urow [uRow (Req0)] j ∧ true = true) ∧ (O18.ok (O18.mk (Req2) (List.map (fun (j : Nat) => uRow (urow [dtU (0 : Int) (ByteArray.mk #[(120 : UInt8)])] j))
  (List.range (1 : Nat))) (Prod.fst y) (1 : Nat) (Prod.snd y)) ∧ (1 : Int) ≠ (0 : Int)) ∧ (∀ (y : Nat × Nat), (0 : Int) = (0 : Int) ∧ outC [uRow (Req0)] [sendE (R18.mk (1 : Int) (0 : Int) (1 : Int) (2 : Int) (5 : Int) (1 :
  Int) (0 : Int)) (vK (7 : Int) (0 : Int) (0 : Int) (0 : Int))] y → [SV.agg [SV.g (Value.int IntKind.i64 (7 : Int)), SV.g (Value.int IntKind.i64 (1 : Int)), SV.g (Value.int IntKind.i64 (0 : Int)), SV.g (Value.int
  IntKind.i64 (0 : Int)), SV.g (Value.int IntKind.i64 (0 : Int)), SV.g (Value.int IntKind.i64 (0 : Int)), SV.g (Value.int IntKind.i64 (0 : Int)), SV.g (Value.int IntKind.i64 (0 : Int)), SV.g (Value.bool false), SV.g
  (Value.string (ByteArray.mk #[]))], SV.g (Value.bool false)] = [SV.agg (U.cells (Req1)), SV.g (Value.bool false)] ∧ True ∧ (0 : Nat) = (0 : Nat) ∧ (1 : Int) = (1 : Int) ∧ (0 : Int) = (0 : Int) ∧ (0 : Int) = (0 : Int) ∧
  (0 : Int) = (0 : Int) ∧ (0 : Int) = (0 : Int) ∧ wrS (Req1) false = wrS (Req1) false ∧ (1 : Int) = (1 : Int) ∧ (0 : Int) = (0 : Int) ∧ (1 : Int) = (1 : Int) ∧ (2 : Int) = (2 : Int) ∧ (5 : Int) = (5 : Int) ∧ (1 : Int) = (1
  : Int) ∧ (0 : Int) = (0 : Int) ∧ (0 : Nat) = (0 : Nat) ∧ (1 : Nat) = (1 : Nat) ∧ Prod.fst y = Prod.fst y ∧ (0 : Nat) = (0 : Nat) ∧ (1 : Nat) = (1 : Nat) ∧ Prod.snd y = Prod.snd y ∧ (1 : Nat) ≤ (1 : Nat) ∧ (1 : Nat) ≤
  Prod.fst y ∧ Prod.fst y ≤ Prod.fst y ∧ (∀ (j : Nat), j < (1 : Nat) → urow [uRow (Req0)] j = urow [uRow (urow [uRow (Req0)] (0 : Nat))] j ∧ true = true) ∧ (Req3 y) ∧ (∀ (y : Nat × Nat), (0 : Int) = (0 : Int) ∧ outC [uRow
  (urow [uRow (Req0)] (0 : Nat))] [sendE (Req2) (uRow (urow [uRow (Req0)] (0 : Nat)))] y → (true = true → (0 : Int) ≤ (0 : Int) ∧ (0 : Int) < (1 : Int)) ∧ (true = true → (0 : Nat) < (1 : Nat)) ∧ (true = true → (0 : Int) ≤
  (0 : Int) ∧ (0 : Int) < (1 : Int)) ∧ (true = true → (0 : Nat) < (1 : Nat)) ∧ (true = true → (0 : Int) ≤ (0 : Int) ∧ (0 : Int) < (1 : Int)) ∧ (true = true → (0 : Nat) < (1 : Nat)) ∧ (true = true → (0 : Int) ≤ (0 : Int) ∧
  (0 : Int) < (1 : Int)) ∧ (true = true → (0 : Nat) < (1 : Nat)) ∧ SV.g (Value.bool true) = SV.g (Value.bool true)) ∧ ∀ (y : Nat × Nat), (0 : Int) ≠ (0 : Int) ∧ outC [uRow (urow [uRow (Req0)] (0 : Nat))] [sendE (Req2)
  (uRow (urow [uRow (Req0)] (0 : Nat)))] y → False) ∧ ∀ (y : Nat × Nat), (0 : Int) ≠ (0 : Int) ∧ outC [uRow (Req0)] [sendE (R18.mk (1 : Int) (0 : Int) (1 : Int) (2 : Int) (5 : Int) (1 : Int) (0 : Int)) (vK (7 : Int) (0 :
  Int) (0 : Int) (0 : Int))] y → [SV.agg [SV.g (Value.int IntKind.i64 (7 : Int)), SV.g (Value.int IntKind.i64 (1 : Int)), SV.g (Value.int IntKind.i64 (0 : Int)), SV.g (Value.int IntKind.i64 (0 : Int)), SV.g (Value.int
  IntKind.i64 (0 : Int)), SV.g (Value.int IntKind.i64 (0 : Int)), SV.g (Value.int IntKind.i64 (0 : Int)), SV.g (Value.int IntKind.i64 (0 : Int)), SV.g (Value.bool false), SV.g (Value.string (ByteArray.mk #[]))], SV.g
  (Value.bool false)] = [SV.agg (U.cells (Req1)), SV.g (Value.bool false)] ∧ True ∧ (0 : Nat) = (0 : Nat) ∧ (1 : Int) = (1 : Int) ∧ (0 : Int) = (0 : Int) ∧ (0 : Int) = (0 : Int) ∧ (0 : Int) = (0 : Int) ∧ (0 : Int) = (0 :
  Int) ∧ wrS (Req1) false = wrS (Req1) false ∧ (1 : Int) = (1 : Int) ∧ (0 : Int) = (0 : Int) ∧ (1 : Int) = (1 : Int) ∧ (2 : Int) = (2 : Int) ∧ (5 : Int) = (5 : Int) ∧ (1 : Int) = (1 : Int) ∧ (0 : Int) = (0 : Int) ∧ (0 :
  Nat) = (0 : Nat) ∧ (1 : Nat) = (1 : Nat) ∧ Prod.fst y = Prod.fst y ∧ (0 : Nat) = (0 : Nat) ∧ (1 : Nat) = (1 : Nat) ∧ Prod.snd y = Prod.snd y ∧ (1 : Nat) ≤ (1 : Nat) ∧ (1 : Nat) ≤ Prod.fst y ∧ Prod.fst y ≤ Prod.fst y ∧ (∀
  (j : Nat), j < (1 : Nat) → urow [uRow (Req0)] j = urow [uRow (urow [uRow (Req0)] (0 : Nat))] j ∧ true = true) ∧ (Req3 y) ∧ (∀ (y : Nat × Nat), (0 : Int) = (0 : Int) ∧ outC [uRow (urow [uRow (Req0)] (0 : Nat))] [sendE
  (Req2) (uRow (urow [uRow (Req0)] (0 : Nat)))] y → (false = true → (0 : Int) ≤ (0 : Int) ∧ (0 : Int) < (1 : Int)) ∧ (false = true → (0 : Nat) < (1 : Nat)) ∧ (false = true → (0 : Int) ≤ (0 : Int) ∧ (0 : Int) < (1 : Int)) ∧
  (false = true → (0 : Nat) < (1 : Nat)) ∧ False) ∧ ∀ (y : Nat × Nat), (0 : Int) ≠ (0 : Int) ∧ outC [uRow (urow [uRow (Req0)] (0 : Nat))] [sendE (Req2) (uRow (urow [uRow (Req0)] (0 : Nat)))] y → False) ∧ ∀ (y : Nat × Nat),
  (0 : Int) ≠ (0 : Int) ∧ outC [dtU (0 : Int) (ByteArray.mk #[(120 : UInt8)])] [sendE (Req2) (dtU (0 : Int) (ByteArray.mk #[(120 : UInt8)]))] y → (0 : Nat) = (0 : Nat) ∧ (1 : Int) = (1 : Int) ∧ (1 : Int) = (1 : Int) ∧ (0 :
  Int) = (0 : Int) ∧ (0 : Int) = (0 : Int) ∧ (0 : Int) = (0 : Int) ∧ ByteArray.mk #[] = ByteArray.mk #[] ∧ (1 : Int) = (1 : Int) ∧ (0 : Int) = (0 : Int) ∧ (1 : Int) = (1 : Int) ∧ (2 : Int) = (2 : Int) ∧ (5 : Int) = (5 :
  Int) ∧ (0 : Int) = (0 : Int) ∧ (0 : Int) = (0 : Int) ∧ (0 : Nat) = (0 : Nat) ∧ (1 : Nat) = (1 : Nat) ∧ Prod.fst y = Prod.fst y ∧ (0 : Nat) = (0 : Nat) ∧ (1 : Nat) = (1 : Nat) ∧ Prod.snd y = Prod.snd y ∧ (1 : Nat) ≤ (1 :
  Nat) ∧ (1 : Nat) ≤ Prod.fst y ∧ Prod.fst y ≤ Prod.fst y ∧ (∀ (j : Nat), j < (1 : Nat) → urow [dtU (0 : Int) (ByteArray.mk #[(120 : UInt8)])] j = urow [uRow (Req0)] j ∧ true = true) ∧ (O18.ok (O18.mk (Req2) (List.map (fun
  (j : Nat) => uRow (urow [dtU (0 : Int) (ByteArray.mk #[(120 : UInt8)])] j)) (List.range (1 : Nat))) (Prod.fst y) (1 : Nat) (Prod.snd y)) ∧ (1 : Int) ≠ (0 : Int)) ∧ (∀ (y : Nat × Nat), (0 : Int) = (0 : Int) ∧ outC [uRow
  (Req0)] [sendE (R18.mk (1 : Int) (0 : Int) (1 : Int) (2 : Int) (5 : Int) (1 : Int) (0 : Int)) (vK (7 : Int) (0 : Int) (0 : Int) (0 : Int))] y → [SV.agg [SV.g (Value.int IntKind.i64 (7 : Int)), SV.g (Value.int IntKind.i64
  (1 : Int)), SV.g (Value.int IntKind.i64 (0 : Int)), SV.g (Value.int IntKind.i64 (0 : Int)), SV.g (Value.int IntKind.i64 (0 : Int)), SV.g (Value.int IntKind.i64 (0 : Int)), SV.g (Value.int IntKind.i64 (0 : Int)), SV.g
  (Value.int IntKind.i64 (0 : Int)), SV.g (Value.bool false), SV.g (Value.string (ByteArray.mk #[]))], SV.g (Value.bool false)] = [SV.agg (U.cells (Req1)), SV.g (Value.bool false)] ∧ True ∧ (0 : Nat) = (0 : Nat) ∧ (1 :
  Int) = (1 : Int) ∧ (0 : Int) = (0 : Int) ∧ (0 : Int) = (0 : Int) ∧ (0 : Int) = (0 : Int) ∧ (0 : Int) = (0 : Int) ∧ wrS (Req1) false = wrS (Req1) false ∧ (1 : Int) = (1 : Int) ∧ (0 : Int) = (0 : Int) ∧ (1 : Int) = (1 :
  Int) ∧ (2 : Int) = (2 : Int) ∧ (5 : Int) = (5 : Int) ∧ (1 : Int) = (1 : Int) ∧ (0 : Int) = (0 : Int) ∧ (0 : Nat) = (0 : Nat) ∧ (1 : Nat) = (1 : Nat) ∧ Prod.fst y = Prod.fst y ∧ (0 : Nat) = (0 : Nat) ∧ (1 : Nat) = (1 :
  Nat) ∧ Prod.snd y = Prod.snd y ∧ (1 : Nat) ≤ (1 : Nat) ∧ (1 : Nat) ≤ Prod.fst y ∧ Prod.fst y ≤ Prod.fst y ∧ (∀ (j : Nat), j < (1 : Nat) → urow [uRow (Req0)] j = urow [uRow (urow [uRow (Req0)] (0 : Nat))] j ∧ true = true)
  ∧ (Req3 y) ∧ (∀ (y : Nat × Nat), (0 : Int) = (0 : Int) ∧ outC [uRow (urow [uRow (Req0)] (0 : Nat))] [sendE (Req2) (uRow (urow [uRow (Req0)] (0 : Nat)))] y → (false = true → (0 : Int) ≤ (0 : Int) ∧ (0 : Int) < (1 : Int))
  ∧ (false = true → (0 : Nat) < (1 : Nat)) ∧ False) ∧ ∀ (y : Nat × Nat), (0 : Int) ≠ (0 : Int) ∧ outC [uRow (urow [uRow (Req0)] (0 : Nat))] [sendE (Req2) (uRow (urow [uRow (Req0)] (0 : Nat)))] y → False) ∧ ∀ (y : Nat ×
  Nat), (0 : Int) ≠ (0 : Int) ∧ outC [uRow (Req0)] [sendE (R18.mk (1 : Int) (0 : Int) (1 : Int) (2 : Int) (5 : Int) (1 : Int) (0 : Int)) (vK (7 : Int) (0 : Int) (0 : Int) (0 : Int))] y → [SV.agg [SV.g (Value.int
  IntKind.i64 (7 : Int)), SV.g (Value.int IntKind.i64 (1 : Int)), SV.g (Value.int IntKind.i64 (0 : Int)), SV.g (Value.int IntKind.i64 (0 : Int)), SV.g (Value.int IntKind.i64 (0 : Int)), SV.g (Value.int IntKind.i64 (0 :
  Int)), SV.g (Value.int IntKind.i64 (0 : Int)), SV.g (Value.int IntKind.i64 (0 : Int)), SV.g (Value.bool false), SV.g (Value.string (ByteArray.mk #[]))], SV.g (Value.bool false)] = [SV.agg (U.cells (Req1)), SV.g
  (Value.bool false)] ∧ True ∧ (0 : Nat) = (0 : Nat) ∧ (1 : Int) = (1 : Int) ∧ (0 : Int) = (0 : Int) ∧ (0 : Int) = (0 : Int) ∧ (0 : Int) = (0 : Int) ∧ (0 : Int) = (0 : Int) ∧ wrS (Req1) false = wrS (Req1) false ∧ (1 : Int)
  = (1 : Int) ∧ (0 : Int) = (0 : Int) ∧ (1 : Int) = (1 : Int) ∧ (2 : Int) = (2 : Int) ∧ (5 : Int) = (5 : Int) ∧ (1 : Int) = (1 : Int) ∧ (0 : Int) = (0 : Int) ∧ (0 : Nat) = (0 : Nat) ∧ (1 : Nat) = (1 : Nat) ∧ Prod.fst y =
  Prod.fst y ∧ (0 : Nat) = (0 : Nat) ∧ (1 : Nat) = (1 : Nat) ∧ Prod.snd y = Prod.snd y ∧ (1 : Nat) ≤ (1 : Nat) ∧ (1 : Nat) ≤ Prod.fst y ∧ Prod.fst y ≤ Prod.fst y ∧ (∀ (j : Nat), j < (1 : Nat) → urow [uRow (Req0)] j = urow
  [uRow (urow [uRow (Req0)] (0 : Nat))] j ∧ true = true) ∧ (Req3 y) ∧ (∀ (y : Nat × Nat), (0 : Int) = (0 : Int) ∧ outC [uRow (urow [uRow (Req0)] (0 : Nat))] [sendE (Req2) (uRow (urow [uRow (Req0)] (0 : Nat)))] y → (false =
  true → (0 : Int) ≤ (0 : Int) ∧ (0 : Int) < (1 : Int)) ∧ (false = true → (0 : Nat) < (1 : Nat)) ∧ False) ∧ ∀ (y : Nat × Nat), (0 : Int) ≠ (0 : Int) ∧ outC [uRow (urow [uRow (Req0)] (0 : Nat))] [sendE (Req2) (uRow (urow
  [uRow (Req0)] (0 : Nat)))] y → False) ∧ (¬newOK (1 : Int) (2 : Int) (5 : Int) → SV.g (Value.bool false) = SV.g (Value.bool true))
theorem vcSane18E : VcSane18 = (fnX cx_sane18 (bodyOf Try.f13) Try.f13.results.toList [] [] (fun r _ => r = .g (.bool true))) := by kernel_rfl
set_option maxHeartbeats 4000000 in
theorem vcSane18 : VcSane18 := by
  unfold VcSane18 Req3 Req2 Req1 Req0
  simp only [eq_self, true_and, and_true, Nat.le_refl, Int.le_refl, implies_true, forall_const, and_false, false_and, exists_false, false_or, or_false, true_implies, Nat.zero_add, and_self, Int.toNat_natCast, cond_true, cond_false, uRow_cells]
  have r0 : ∀ n st : Int, 0 ≤ n ∧ n < 128 → st ≠ 3 → R18.ok ⟨n, 0, 1, 2, 5, st, 0⟩ := fun n st h hs => ⟨h, by dsimp only; decide, by dsimp only; decide, by dsimp only; decide, fun e => absurd e hs⟩
  refine ⟨fun _ => ⟨⟨⟨Nat.le_refl _, Nat.zero_le _, r0 0 0 (by decide) (by decide)⟩, by decide⟩, fun y hy => ⟨hy.1, fun j hj => rfl, ⟨⟨hy.1, show 1 ≤ 60 by decide, r0 1 0 (by decide) (by decide)⟩, by decide⟩, fun y2 hy2 => ⟨rfl, hy2.1, fun j hj => rfl, ⟨⟨hy2.1, show 1 ≤ 60 by decide, r0 1 1 (by decide) (by decide)⟩, by decide⟩, fun y3 hy3 => by decide, fun y3 hy3 => hy3.1 rfl⟩, fun y2 hy2 => absurd rfl hy2.1⟩, fun y hy => absurd rfl hy.1⟩, fun h => absurd (show newOK 1 2 5 by decide) h⟩
theorem vcSane18K : Held (fnX cx_sane18 (bodyOf Try.f13) Try.f13.results.toList [] [] (fun r _ => r = .g (.bool true))) := held0 vcSane18E vcSane18
end Go.Proofs.Ytghbejmnnfoamaa
