/- Chapter 15: the reference's head. -/
import Derived.Test.YtghbejmnnfoamaaW
set_option linter.unusedVariables false
set_option linter.unusedSimpArgs false
namespace Go.Proofs.Ytghbejmnnfoamaa
open Go Go.Eng
attribute [local irreducible] condX
def Γh : List (Nat × Rule) := (28, .exact X_rDigits.rule) :: Γ1
theorem Γh_ok : ΓOK Try.prog Λ0 (ΓOf Γh) := (ΓOf_cons ok_rDigits Γ1_ok)
def cxH : Cx := ⟨ty, ΓOf Γh, fun _ => [], fun _ _ => [], 66, 0⟩
def kU (k : Int) (x : U) : U := ⟨k, x.to, x.fr, x.cl, x.sz, x.nu, x.cr, x.re, x.e, x.d⟩
def VcHead1 : Prop := ∀ (x : U), okU (kU (1 : Int) x) → condX (U.e x) (((0 : Int) ≤ (1 : Int) ∧ (1 : Int) < (11 : Int)) ∧ ((0 : Int) ≤ (1 : Int) ∧ (1 : Int) < (11 : Int)) ∧ [SV.g (Value.int IntKind.i64 (U.fr x)), SV.g (Value.int IntKind.i64
  (2 : Int))] = [SV.g (Value.int IntKind.i64 (U.fr x)), SV.g (Value.int IntKind.i64 (2 : Int))] ∧ (((0 : Int) ≤ U.fr x ∧ U.fr x < (9223372036854775808 : Int)) ∧ ((2 : Int) = (1 : Int) ∨ (2 : Int) = (2 : Int) ∨ (2 : Int) =
  (4 : Int))) ∧ (3 : Nat) ≤ (9223372036854775807 : Nat) ∧ ((0 : Int) ≤ (1 : Int) ∧ (1 : Int) < (11 : Int)) ∧ ((0 : Int) ≤ (1 : Int) ∧ (1 : Int) < (11 : Int)) ∧ [SV.g (Value.int IntKind.i64 (U.cr x)), SV.g (Value.int
  IntKind.i64 (1 : Int))] = [SV.g (Value.int IntKind.i64 (U.cr x)), SV.g (Value.int IntKind.i64 (1 : Int))] ∧ (((0 : Int) ≤ U.cr x ∧ U.cr x < (9223372036854775808 : Int)) ∧ ((1 : Int) = (1 : Int) ∨ (1 : Int) = (2 : Int) ∨
  (1 : Int) = (4 : Int))) ∧ (4 : Nat) ≤ (9223372036854775807 : Nat) ∧ ((0 : Int) ≤ (1 : Int) ∧ (1 : Int) < (11 : Int)) ∧ ((0 : Int) ≤ (1 : Int) ∧ (1 : Int) < (11 : Int)) ∧ [SV.g (Value.int IntKind.i64 (U.sz x)), SV.g
  (Value.int IntKind.i64 (1 : Int))] = [SV.g (Value.int IntKind.i64 (U.sz x)), SV.g (Value.int IntKind.i64 (1 : Int))] ∧ (((0 : Int) ≤ U.sz x ∧ U.sz x < (9223372036854775808 : Int)) ∧ ((1 : Int) = (1 : Int) ∨ (1 : Int) =
  (2 : Int) ∨ (1 : Int) = (4 : Int))) ∧ (5 : Nat) ≤ (9223372036854775807 : Nat) ∧ SV.g (Value.string (ByteArray.mk (List.toArray (List.map cellByte (List.take (1 : Nat) (List.drop (0 : Nat) [SV.g (Value.int IntKind.u8 (17
  : Int))])))) ++ bz (beL (U.fr x) (2 : Nat) (2 : Nat)) ++ bz (beL (U.cr x) (1 : Nat) (1 : Nat)) ++ bz (beL (U.sz x) (1 : Nat) (1 : Nat)))) = SV.g (Value.string (bz (headL (kU (1 : Int) x))))) (((0 : Int) ≤ (1 : Int) ∧ (1
  : Int) < (11 : Int)) ∧ ((0 : Int) ≤ (1 : Int) ∧ (1 : Int) < (11 : Int)) ∧ [SV.g (Value.int IntKind.i64 (U.fr x)), SV.g (Value.int IntKind.i64 (2 : Int))] = [SV.g (Value.int IntKind.i64 (U.fr x)), SV.g (Value.int
  IntKind.i64 (2 : Int))] ∧ (((0 : Int) ≤ U.fr x ∧ U.fr x < (9223372036854775808 : Int)) ∧ ((2 : Int) = (1 : Int) ∨ (2 : Int) = (2 : Int) ∨ (2 : Int) = (4 : Int))) ∧ (3 : Nat) ≤ (9223372036854775807 : Nat) ∧ ((0 : Int) ≤
  (1 : Int) ∧ (1 : Int) < (11 : Int)) ∧ ((0 : Int) ≤ (1 : Int) ∧ (1 : Int) < (11 : Int)) ∧ [SV.g (Value.int IntKind.i64 (U.cr x)), SV.g (Value.int IntKind.i64 (1 : Int))] = [SV.g (Value.int IntKind.i64 (U.cr x)), SV.g
  (Value.int IntKind.i64 (1 : Int))] ∧ (((0 : Int) ≤ U.cr x ∧ U.cr x < (9223372036854775808 : Int)) ∧ ((1 : Int) = (1 : Int) ∨ (1 : Int) = (2 : Int) ∨ (1 : Int) = (4 : Int))) ∧ (4 : Nat) ≤ (9223372036854775807 : Nat) ∧ ((0
  : Int) ≤ (1 : Int) ∧ (1 : Int) < (11 : Int)) ∧ ((0 : Int) ≤ (1 : Int) ∧ (1 : Int) < (11 : Int)) ∧ [SV.g (Value.int IntKind.i64 (U.sz x)), SV.g (Value.int IntKind.i64 (1 : Int))] = [SV.g (Value.int IntKind.i64 (U.sz x)),
  SV.g (Value.int IntKind.i64 (1 : Int))] ∧ (((0 : Int) ≤ U.sz x ∧ U.sz x < (9223372036854775808 : Int)) ∧ ((1 : Int) = (1 : Int) ∨ (1 : Int) = (2 : Int) ∨ (1 : Int) = (4 : Int))) ∧ (5 : Nat) ≤ (9223372036854775807 : Nat)
  ∧ SV.g (Value.string (ByteArray.mk (List.toArray (List.map cellByte (List.take (1 : Nat) (List.drop (0 : Nat) [SV.g (Value.int IntKind.u8 (IntKind.wrap IntKind.u8 (IntKind.wrap IntKind.i64 ((16 : Int) + U.cl x))))]))))
  ++ bz (beL (U.fr x) (2 : Nat) (2 : Nat)) ++ bz (beL (U.cr x) (1 : Nat) (1 : Nat)) ++ bz (beL (U.sz x) (1 : Nat) (1 : Nat)))) = SV.g (Value.string (bz (headL (kU (1 : Int) x)))))
theorem vcHead1E : VcHead1 = (∀ (x : U), okU (kU 1 x) → fnX cxH (bodyOf Try.f27) Try.f27.results.toList [.agg (U.cells (kU 1 x))] [] (fun r _ => r = .g (.string (bz (headL (kU 1 x)))))) := by kernel_rfl
set_option maxHeartbeats 4000000 in
theorem vcHead1 : VcHead1 := by
  intro x ho
  have f := (okU_iff (u := kU 1 x) ⟨by show (1 : Int) ≤ 1; decide, by show (1 : Int) ≤ 10; decide⟩).1 ho
  simp only [kU] at f
  simp at f
  have hh := headL_1 (u := kU 1 x) rfl
  rw [hh]
  simp only [cbz, ← bz_app]
  refine (condX_iff _ _ _).2 ⟨fun he => ?_, fun he => ?_⟩
  · have hlow : lowU (kU 1 x) = 1 := by simp [lowU, kU, he]
    rw [hlow]
    and_intros <;> first | omega | with_reducible rfl | exact trivial | (simp [he] at f; done) | (simp [kU]; done) | rfl | skip
  · have hlow : lowU (kU 1 x) = x.cl := by simp [lowU, kU, he]
    rw [hlow]
    have hw : IntKind.u8.wrap (IntKind.i64.wrap (16 * 1 + x.cl)) = 16 * 1 + x.cl := by rw [wrap1 (by omega) (by omega)]; exact wrapU8 (by omega) (by omega)
    simp only [Int.reduceMul] at hw
    simp only [hw]
    and_intros <;> first | omega | with_reducible rfl | exact trivial | (simp [kU]; done) | rfl | skip
theorem vcHead1K : ∀ (x : U), okU (kU 1 x) → Held (fnX cxH (bodyOf Try.f27) Try.f27.results.toList [.agg (U.cells (kU 1 x))] [] (fun r _ => r = .g (.string (bz (headL (kU 1 x)))))) := held2 vcHead1E vcHead1
def VcHead2 : Prop := ∀ (x : U), okU (kU (2 : Int) x) → condX (U.e x) (((0 : Int) ≤ (2 : Int) ∧ (2 : Int) < (11 : Int)) ∧ [SV.g (Value.int IntKind.i64 (U.to x)), SV.g (Value.int IntKind.i64 (2 : Int))] = [SV.g (Value.int IntKind.i64 (U.to
  x)), SV.g (Value.int IntKind.i64 (2 : Int))] ∧ (((0 : Int) ≤ U.to x ∧ U.to x < (9223372036854775808 : Int)) ∧ ((2 : Int) = (1 : Int) ∨ (2 : Int) = (2 : Int) ∨ (2 : Int) = (4 : Int))) ∧ (3 : Nat) ≤ (9223372036854775807 :
  Nat) ∧ ((0 : Int) ≤ (2 : Int) ∧ (2 : Int) < (11 : Int)) ∧ [SV.g (Value.int IntKind.i64 (U.fr x)), SV.g (Value.int IntKind.i64 (2 : Int))] = [SV.g (Value.int IntKind.i64 (U.fr x)), SV.g (Value.int IntKind.i64 (2 : Int))]
  ∧ (((0 : Int) ≤ U.fr x ∧ U.fr x < (9223372036854775808 : Int)) ∧ ((2 : Int) = (1 : Int) ∨ (2 : Int) = (2 : Int) ∨ (2 : Int) = (4 : Int))) ∧ (5 : Nat) ≤ (9223372036854775807 : Nat) ∧ ((0 : Int) ≤ (2 : Int) ∧ (2 : Int) <
  (11 : Int)) ∧ ((0 : Int) ≤ (2 : Int) ∧ (2 : Int) < (11 : Int)) ∧ [SV.g (Value.int IntKind.i64 (U.cr x)), SV.g (Value.int IntKind.i64 (1 : Int))] = [SV.g (Value.int IntKind.i64 (U.cr x)), SV.g (Value.int IntKind.i64 (1 :
  Int))] ∧ (((0 : Int) ≤ U.cr x ∧ U.cr x < (9223372036854775808 : Int)) ∧ ((1 : Int) = (1 : Int) ∨ (1 : Int) = (2 : Int) ∨ (1 : Int) = (4 : Int))) ∧ (6 : Nat) ≤ (9223372036854775807 : Nat) ∧ ((0 : Int) ≤ (2 : Int) ∧ (2 :
  Int) < (11 : Int)) ∧ ((0 : Int) ≤ (2 : Int) ∧ (2 : Int) < (11 : Int)) ∧ [SV.g (Value.int IntKind.i64 (U.sz x)), SV.g (Value.int IntKind.i64 (1 : Int))] = [SV.g (Value.int IntKind.i64 (U.sz x)), SV.g (Value.int
  IntKind.i64 (1 : Int))] ∧ (((0 : Int) ≤ U.sz x ∧ U.sz x < (9223372036854775808 : Int)) ∧ ((1 : Int) = (1 : Int) ∨ (1 : Int) = (2 : Int) ∨ (1 : Int) = (4 : Int))) ∧ (7 : Nat) ≤ (9223372036854775807 : Nat) ∧ SV.g
  (Value.string (ByteArray.mk (List.toArray (List.map cellByte (List.take (1 : Nat) (List.drop (0 : Nat) [SV.g (Value.int IntKind.u8 (33 : Int))])))) ++ bz (beL (U.to x) (2 : Nat) (2 : Nat)) ++ bz (beL (U.fr x) (2 : Nat)
  (2 : Nat)) ++ bz (beL (U.cr x) (1 : Nat) (1 : Nat)) ++ bz (beL (U.sz x) (1 : Nat) (1 : Nat)))) = SV.g (Value.string (bz (headL (kU (2 : Int) x))))) (((0 : Int) ≤ (2 : Int) ∧ (2 : Int) < (11 : Int)) ∧ [SV.g (Value.int
  IntKind.i64 (U.to x)), SV.g (Value.int IntKind.i64 (2 : Int))] = [SV.g (Value.int IntKind.i64 (U.to x)), SV.g (Value.int IntKind.i64 (2 : Int))] ∧ (((0 : Int) ≤ U.to x ∧ U.to x < (9223372036854775808 : Int)) ∧ ((2 : Int)
  = (1 : Int) ∨ (2 : Int) = (2 : Int) ∨ (2 : Int) = (4 : Int))) ∧ (3 : Nat) ≤ (9223372036854775807 : Nat) ∧ ((0 : Int) ≤ (2 : Int) ∧ (2 : Int) < (11 : Int)) ∧ [SV.g (Value.int IntKind.i64 (U.fr x)), SV.g (Value.int
  IntKind.i64 (2 : Int))] = [SV.g (Value.int IntKind.i64 (U.fr x)), SV.g (Value.int IntKind.i64 (2 : Int))] ∧ (((0 : Int) ≤ U.fr x ∧ U.fr x < (9223372036854775808 : Int)) ∧ ((2 : Int) = (1 : Int) ∨ (2 : Int) = (2 : Int) ∨
  (2 : Int) = (4 : Int))) ∧ (5 : Nat) ≤ (9223372036854775807 : Nat) ∧ ((0 : Int) ≤ (2 : Int) ∧ (2 : Int) < (11 : Int)) ∧ ((0 : Int) ≤ (2 : Int) ∧ (2 : Int) < (11 : Int)) ∧ [SV.g (Value.int IntKind.i64 (U.cr x)), SV.g
  (Value.int IntKind.i64 (1 : Int))] = [SV.g (Value.int IntKind.i64 (U.cr x)), SV.g (Value.int IntKind.i64 (1 : Int))] ∧ (((0 : Int) ≤ U.cr x ∧ U.cr x < (9223372036854775808 : Int)) ∧ ((1 : Int) = (1 : Int) ∨ (1 : Int) =
  (2 : Int) ∨ (1 : Int) = (4 : Int))) ∧ (6 : Nat) ≤ (9223372036854775807 : Nat) ∧ ((0 : Int) ≤ (2 : Int) ∧ (2 : Int) < (11 : Int)) ∧ ((0 : Int) ≤ (2 : Int) ∧ (2 : Int) < (11 : Int)) ∧ [SV.g (Value.int IntKind.i64 (U.sz
  x)), SV.g (Value.int IntKind.i64 (1 : Int))] = [SV.g (Value.int IntKind.i64 (U.sz x)), SV.g (Value.int IntKind.i64 (1 : Int))] ∧ (((0 : Int) ≤ U.sz x ∧ U.sz x < (9223372036854775808 : Int)) ∧ ((1 : Int) = (1 : Int) ∨ (1
  : Int) = (2 : Int) ∨ (1 : Int) = (4 : Int))) ∧ (7 : Nat) ≤ (9223372036854775807 : Nat) ∧ SV.g (Value.string (ByteArray.mk (List.toArray (List.map cellByte (List.take (1 : Nat) (List.drop (0 : Nat) [SV.g (Value.int
  IntKind.u8 (IntKind.wrap IntKind.u8 (IntKind.wrap IntKind.i64 ((32 : Int) + U.cl x))))])))) ++ bz (beL (U.to x) (2 : Nat) (2 : Nat)) ++ bz (beL (U.fr x) (2 : Nat) (2 : Nat)) ++ bz (beL (U.cr x) (1 : Nat) (1 : Nat)) ++ bz
  (beL (U.sz x) (1 : Nat) (1 : Nat)))) = SV.g (Value.string (bz (headL (kU (2 : Int) x)))))
theorem vcHead2E : VcHead2 = (∀ (x : U), okU (kU 2 x) → fnX cxH (bodyOf Try.f27) Try.f27.results.toList [.agg (U.cells (kU 2 x))] [] (fun r _ => r = .g (.string (bz (headL (kU 2 x)))))) := by kernel_rfl
set_option maxHeartbeats 4000000 in
theorem vcHead2 : VcHead2 := by
  intro x ho
  have f := (okU_iff (u := kU 2 x) ⟨by show (1 : Int) ≤ 2; decide, by show (2 : Int) ≤ 10; decide⟩).1 ho
  simp only [kU] at f
  simp at f
  have hh := headL_2 (u := kU 2 x) rfl
  rw [hh]
  simp only [cbz, ← bz_app]
  refine (condX_iff _ _ _).2 ⟨fun he => ?_, fun he => ?_⟩
  · have hlow : lowU (kU 2 x) = 1 := by simp [lowU, kU, he]
    rw [hlow]
    and_intros <;> first | omega | with_reducible rfl | exact trivial | (simp [he] at f; done) | (simp [kU]; done) | rfl | skip
  · have hlow : lowU (kU 2 x) = x.cl := by simp [lowU, kU, he]
    rw [hlow]
    have hw : IntKind.u8.wrap (IntKind.i64.wrap (16 * 2 + x.cl)) = 16 * 2 + x.cl := by rw [wrap1 (by omega) (by omega)]; exact wrapU8 (by omega) (by omega)
    simp only [Int.reduceMul] at hw
    simp only [hw]
    and_intros <;> first | omega | with_reducible rfl | exact trivial | (simp [kU]; done) | rfl | skip
theorem vcHead2K : ∀ (x : U), okU (kU 2 x) → Held (fnX cxH (bodyOf Try.f27) Try.f27.results.toList [.agg (U.cells (kU 2 x))] [] (fun r _ => r = .g (.string (bz (headL (kU 2 x)))))) := held2 vcHead2E vcHead2
def VcHead3 : Prop := ∀ (x : U), okU (kU (3 : Int) x) → condX (U.e x) (((0 : Int) ≤ (3 : Int) ∧ (3 : Int) < (11 : Int)) ∧ [SV.g (Value.int IntKind.i64 (U.to x)), SV.g (Value.int IntKind.i64 (2 : Int))] = [SV.g (Value.int IntKind.i64 (U.to
  x)), SV.g (Value.int IntKind.i64 (2 : Int))] ∧ (((0 : Int) ≤ U.to x ∧ U.to x < (9223372036854775808 : Int)) ∧ ((2 : Int) = (1 : Int) ∨ (2 : Int) = (2 : Int) ∨ (2 : Int) = (4 : Int))) ∧ (3 : Nat) ≤ (9223372036854775807 :
  Nat) ∧ ((0 : Int) ≤ (3 : Int) ∧ (3 : Int) < (11 : Int)) ∧ [SV.g (Value.int IntKind.i64 (U.fr x)), SV.g (Value.int IntKind.i64 (2 : Int))] = [SV.g (Value.int IntKind.i64 (U.fr x)), SV.g (Value.int IntKind.i64 (2 : Int))]
  ∧ (((0 : Int) ≤ U.fr x ∧ U.fr x < (9223372036854775808 : Int)) ∧ ((2 : Int) = (1 : Int) ∨ (2 : Int) = (2 : Int) ∨ (2 : Int) = (4 : Int))) ∧ (5 : Nat) ≤ (9223372036854775807 : Nat) ∧ ((0 : Int) ≤ (3 : Int) ∧ (3 : Int) <
  (11 : Int)) ∧ ((0 : Int) ≤ (3 : Int) ∧ (3 : Int) < (11 : Int)) ∧ ((0 : Int) ≤ (3 : Int) ∧ (3 : Int) < (11 : Int)) ∧ [SV.g (Value.int IntKind.i64 (U.re x)), SV.g (Value.int IntKind.i64 (1 : Int))] = [SV.g (Value.int
  IntKind.i64 (U.re x)), SV.g (Value.int IntKind.i64 (1 : Int))] ∧ (((0 : Int) ≤ U.re x ∧ U.re x < (9223372036854775808 : Int)) ∧ ((1 : Int) = (1 : Int) ∨ (1 : Int) = (2 : Int) ∨ (1 : Int) = (4 : Int))) ∧ (6 : Nat) ≤
  (9223372036854775807 : Nat) ∧ ((0 : Int) ≤ (3 : Int) ∧ (3 : Int) < (11 : Int)) ∧ SV.g (Value.string (ByteArray.mk (List.toArray (List.map cellByte (List.take (1 : Nat) (List.drop (0 : Nat) [SV.g (Value.int IntKind.u8 (49
  : Int))])))) ++ bz (beL (U.to x) (2 : Nat) (2 : Nat)) ++ bz (beL (U.fr x) (2 : Nat) (2 : Nat)) ++ bz (beL (U.re x) (1 : Nat) (1 : Nat)))) = SV.g (Value.string (bz (headL (kU (3 : Int) x))))) (((0 : Int) ≤ (3 : Int) ∧ (3
  : Int) < (11 : Int)) ∧ [SV.g (Value.int IntKind.i64 (U.to x)), SV.g (Value.int IntKind.i64 (2 : Int))] = [SV.g (Value.int IntKind.i64 (U.to x)), SV.g (Value.int IntKind.i64 (2 : Int))] ∧ (((0 : Int) ≤ U.to x ∧ U.to x <
  (9223372036854775808 : Int)) ∧ ((2 : Int) = (1 : Int) ∨ (2 : Int) = (2 : Int) ∨ (2 : Int) = (4 : Int))) ∧ (3 : Nat) ≤ (9223372036854775807 : Nat) ∧ ((0 : Int) ≤ (3 : Int) ∧ (3 : Int) < (11 : Int)) ∧ [SV.g (Value.int
  IntKind.i64 (U.fr x)), SV.g (Value.int IntKind.i64 (2 : Int))] = [SV.g (Value.int IntKind.i64 (U.fr x)), SV.g (Value.int IntKind.i64 (2 : Int))] ∧ (((0 : Int) ≤ U.fr x ∧ U.fr x < (9223372036854775808 : Int)) ∧ ((2 : Int)
  = (1 : Int) ∨ (2 : Int) = (2 : Int) ∨ (2 : Int) = (4 : Int))) ∧ (5 : Nat) ≤ (9223372036854775807 : Nat) ∧ ((0 : Int) ≤ (3 : Int) ∧ (3 : Int) < (11 : Int)) ∧ ((0 : Int) ≤ (3 : Int) ∧ (3 : Int) < (11 : Int)) ∧ ((0 : Int) ≤
  (3 : Int) ∧ (3 : Int) < (11 : Int)) ∧ [SV.g (Value.int IntKind.i64 (U.re x)), SV.g (Value.int IntKind.i64 (1 : Int))] = [SV.g (Value.int IntKind.i64 (U.re x)), SV.g (Value.int IntKind.i64 (1 : Int))] ∧ (((0 : Int) ≤ U.re
  x ∧ U.re x < (9223372036854775808 : Int)) ∧ ((1 : Int) = (1 : Int) ∨ (1 : Int) = (2 : Int) ∨ (1 : Int) = (4 : Int))) ∧ (6 : Nat) ≤ (9223372036854775807 : Nat) ∧ ((0 : Int) ≤ (3 : Int) ∧ (3 : Int) < (11 : Int)) ∧ SV.g
  (Value.string (ByteArray.mk (List.toArray (List.map cellByte (List.take (1 : Nat) (List.drop (0 : Nat) [SV.g (Value.int IntKind.u8 (IntKind.wrap IntKind.u8 (IntKind.wrap IntKind.i64 ((48 : Int) + U.cl x))))])))) ++ bz
  (beL (U.to x) (2 : Nat) (2 : Nat)) ++ bz (beL (U.fr x) (2 : Nat) (2 : Nat)) ++ bz (beL (U.re x) (1 : Nat) (1 : Nat)))) = SV.g (Value.string (bz (headL (kU (3 : Int) x)))))
theorem vcHead3E : VcHead3 = (∀ (x : U), okU (kU 3 x) → fnX cxH (bodyOf Try.f27) Try.f27.results.toList [.agg (U.cells (kU 3 x))] [] (fun r _ => r = .g (.string (bz (headL (kU 3 x)))))) := by kernel_rfl
set_option maxHeartbeats 4000000 in
theorem vcHead3 : VcHead3 := by
  intro x ho
  have f := (okU_iff (u := kU 3 x) ⟨by show (1 : Int) ≤ 3; decide, by show (3 : Int) ≤ 10; decide⟩).1 ho
  simp only [kU] at f
  simp at f
  have hh := headL_3 (u := kU 3 x) rfl
  rw [hh]
  simp only [cbz, ← bz_app]
  refine (condX_iff _ _ _).2 ⟨fun he => ?_, fun he => ?_⟩
  · have hlow : lowU (kU 3 x) = 1 := by simp [lowU, kU, he]
    rw [hlow]
    and_intros <;> first | omega | with_reducible rfl | exact trivial | (simp [he] at f; done) | (simp [kU]; done) | rfl | skip
  · have hlow : lowU (kU 3 x) = x.cl := by simp [lowU, kU, he]
    rw [hlow]
    have hw : IntKind.u8.wrap (IntKind.i64.wrap (16 * 3 + x.cl)) = 16 * 3 + x.cl := by rw [wrap1 (by omega) (by omega)]; exact wrapU8 (by omega) (by omega)
    simp only [Int.reduceMul] at hw
    simp only [hw]
    and_intros <;> first | omega | with_reducible rfl | exact trivial | (simp [kU]; done) | rfl | skip
theorem vcHead3K : ∀ (x : U), okU (kU 3 x) → Held (fnX cxH (bodyOf Try.f27) Try.f27.results.toList [.agg (U.cells (kU 3 x))] [] (fun r _ => r = .g (.string (bz (headL (kU 3 x)))))) := held2 vcHead3E vcHead3
def VcHead4 : Prop := ∀ (x : U), okU (kU (4 : Int) x) → condX (U.e x) (((0 : Int) ≤ (4 : Int) ∧ (4 : Int) < (11 : Int)) ∧ [SV.g (Value.int IntKind.i64 (U.to x)), SV.g (Value.int IntKind.i64 (2 : Int))] = [SV.g (Value.int IntKind.i64 (U.to
  x)), SV.g (Value.int IntKind.i64 (2 : Int))] ∧ (((0 : Int) ≤ U.to x ∧ U.to x < (9223372036854775808 : Int)) ∧ ((2 : Int) = (1 : Int) ∨ (2 : Int) = (2 : Int) ∨ (2 : Int) = (4 : Int))) ∧ (3 : Nat) ≤ (9223372036854775807 :
  Nat) ∧ ((0 : Int) ≤ (4 : Int) ∧ (4 : Int) < (11 : Int)) ∧ [SV.g (Value.int IntKind.i64 (U.fr x)), SV.g (Value.int IntKind.i64 (2 : Int))] = [SV.g (Value.int IntKind.i64 (U.fr x)), SV.g (Value.int IntKind.i64 (2 : Int))]
  ∧ (((0 : Int) ≤ U.fr x ∧ U.fr x < (9223372036854775808 : Int)) ∧ ((2 : Int) = (1 : Int) ∨ (2 : Int) = (2 : Int) ∨ (2 : Int) = (4 : Int))) ∧ (5 : Nat) ≤ (9223372036854775807 : Nat) ∧ ((0 : Int) ≤ (4 : Int) ∧ (4 : Int) <
  (11 : Int)) ∧ ((0 : Int) ≤ (4 : Int) ∧ (4 : Int) < (11 : Int)) ∧ ((0 : Int) ≤ (4 : Int) ∧ (4 : Int) < (11 : Int)) ∧ ((0 : Int) ≤ (4 : Int) ∧ (4 : Int) < (11 : Int)) ∧ SV.g (Value.string (ByteArray.mk (List.toArray
  (List.map cellByte (List.take (1 : Nat) (List.drop (0 : Nat) [SV.g (Value.int IntKind.u8 (65 : Int))])))) ++ bz (beL (U.to x) (2 : Nat) (2 : Nat)) ++ bz (beL (U.fr x) (2 : Nat) (2 : Nat)))) = SV.g (Value.string (bz
  (headL (kU (4 : Int) x))))) (((0 : Int) ≤ (4 : Int) ∧ (4 : Int) < (11 : Int)) ∧ [SV.g (Value.int IntKind.i64 (U.to x)), SV.g (Value.int IntKind.i64 (2 : Int))] = [SV.g (Value.int IntKind.i64 (U.to x)), SV.g (Value.int
  IntKind.i64 (2 : Int))] ∧ (((0 : Int) ≤ U.to x ∧ U.to x < (9223372036854775808 : Int)) ∧ ((2 : Int) = (1 : Int) ∨ (2 : Int) = (2 : Int) ∨ (2 : Int) = (4 : Int))) ∧ (3 : Nat) ≤ (9223372036854775807 : Nat) ∧ ((0 : Int) ≤
  (4 : Int) ∧ (4 : Int) < (11 : Int)) ∧ [SV.g (Value.int IntKind.i64 (U.fr x)), SV.g (Value.int IntKind.i64 (2 : Int))] = [SV.g (Value.int IntKind.i64 (U.fr x)), SV.g (Value.int IntKind.i64 (2 : Int))] ∧ (((0 : Int) ≤ U.fr
  x ∧ U.fr x < (9223372036854775808 : Int)) ∧ ((2 : Int) = (1 : Int) ∨ (2 : Int) = (2 : Int) ∨ (2 : Int) = (4 : Int))) ∧ (5 : Nat) ≤ (9223372036854775807 : Nat) ∧ ((0 : Int) ≤ (4 : Int) ∧ (4 : Int) < (11 : Int)) ∧ ((0 :
  Int) ≤ (4 : Int) ∧ (4 : Int) < (11 : Int)) ∧ ((0 : Int) ≤ (4 : Int) ∧ (4 : Int) < (11 : Int)) ∧ ((0 : Int) ≤ (4 : Int) ∧ (4 : Int) < (11 : Int)) ∧ SV.g (Value.string (ByteArray.mk (List.toArray (List.map cellByte
  (List.take (1 : Nat) (List.drop (0 : Nat) [SV.g (Value.int IntKind.u8 (IntKind.wrap IntKind.u8 (IntKind.wrap IntKind.i64 ((64 : Int) + U.cl x))))])))) ++ bz (beL (U.to x) (2 : Nat) (2 : Nat)) ++ bz (beL (U.fr x) (2 :
  Nat) (2 : Nat)))) = SV.g (Value.string (bz (headL (kU (4 : Int) x)))))
theorem vcHead4E : VcHead4 = (∀ (x : U), okU (kU 4 x) → fnX cxH (bodyOf Try.f27) Try.f27.results.toList [.agg (U.cells (kU 4 x))] [] (fun r _ => r = .g (.string (bz (headL (kU 4 x)))))) := by kernel_rfl
set_option maxHeartbeats 4000000 in
theorem vcHead4 : VcHead4 := by
  intro x ho
  have f := (okU_iff (u := kU 4 x) ⟨by show (1 : Int) ≤ 4; decide, by show (4 : Int) ≤ 10; decide⟩).1 ho
  simp only [kU] at f
  simp at f
  have hh := headL_4 (u := kU 4 x) rfl
  rw [hh]
  simp only [cbz, ← bz_app]
  refine (condX_iff _ _ _).2 ⟨fun he => ?_, fun he => ?_⟩
  · have hlow : lowU (kU 4 x) = 1 := by simp [lowU, kU, he]
    rw [hlow]
    and_intros <;> first | omega | with_reducible rfl | exact trivial | (simp [he] at f; done) | (simp [kU]; done) | rfl | skip
  · have hlow : lowU (kU 4 x) = x.cl := by simp [lowU, kU, he]
    rw [hlow]
    have hw : IntKind.u8.wrap (IntKind.i64.wrap (16 * 4 + x.cl)) = 16 * 4 + x.cl := by rw [wrap1 (by omega) (by omega)]; exact wrapU8 (by omega) (by omega)
    simp only [Int.reduceMul] at hw
    simp only [hw]
    and_intros <;> first | omega | with_reducible rfl | exact trivial | (simp [kU]; done) | rfl | skip
theorem vcHead4K : ∀ (x : U), okU (kU 4 x) → Held (fnX cxH (bodyOf Try.f27) Try.f27.results.toList [.agg (U.cells (kU 4 x))] [] (fun r _ => r = .g (.string (bz (headL (kU 4 x)))))) := held2 vcHead4E vcHead4
def VcHead5 : Prop := ∀ (x : U), okU (kU (5 : Int) x) → condX (U.e x) (((0 : Int) ≤ (5 : Int) ∧ (5 : Int) < (11 : Int)) ∧ [SV.g (Value.int IntKind.i64 (U.to x)), SV.g (Value.int IntKind.i64 (2 : Int))] = [SV.g (Value.int IntKind.i64 (U.to
  x)), SV.g (Value.int IntKind.i64 (2 : Int))] ∧ (((0 : Int) ≤ U.to x ∧ U.to x < (9223372036854775808 : Int)) ∧ ((2 : Int) = (1 : Int) ∨ (2 : Int) = (2 : Int) ∨ (2 : Int) = (4 : Int))) ∧ (3 : Nat) ≤ (9223372036854775807 :
  Nat) ∧ ((0 : Int) ≤ (5 : Int) ∧ (5 : Int) < (11 : Int)) ∧ ((0 : Int) ≤ (5 : Int) ∧ (5 : Int) < (11 : Int)) ∧ [SV.g (Value.int IntKind.i64 (U.nu x)), SV.g (Value.int IntKind.i64 (4 : Int))] = [SV.g (Value.int IntKind.i64
  (U.nu x)), SV.g (Value.int IntKind.i64 (4 : Int))] ∧ (((0 : Int) ≤ U.nu x ∧ U.nu x < (9223372036854775808 : Int)) ∧ ((4 : Int) = (1 : Int) ∨ (4 : Int) = (2 : Int) ∨ (4 : Int) = (4 : Int))) ∧ (7 : Nat) ≤
  (9223372036854775807 : Nat) ∧ ((0 : Int) ≤ (5 : Int) ∧ (5 : Int) < (11 : Int)) ∧ ((0 : Int) ≤ (5 : Int) ∧ (5 : Int) < (11 : Int)) ∧ ((0 : Int) ≤ (5 : Int) ∧ (5 : Int) < (11 : Int)) ∧ SV.g (Value.string (ByteArray.mk
  (List.toArray (List.map cellByte (List.take (1 : Nat) (List.drop (0 : Nat) [SV.g (Value.int IntKind.u8 (81 : Int))])))) ++ bz (beL (U.to x) (2 : Nat) (2 : Nat)) ++ bz (beL (U.nu x) (4 : Nat) (4 : Nat)))) = SV.g
  (Value.string (bz (headL (kU (5 : Int) x))))) (((0 : Int) ≤ (5 : Int) ∧ (5 : Int) < (11 : Int)) ∧ [SV.g (Value.int IntKind.i64 (U.to x)), SV.g (Value.int IntKind.i64 (2 : Int))] = [SV.g (Value.int IntKind.i64 (U.to x)),
  SV.g (Value.int IntKind.i64 (2 : Int))] ∧ (((0 : Int) ≤ U.to x ∧ U.to x < (9223372036854775808 : Int)) ∧ ((2 : Int) = (1 : Int) ∨ (2 : Int) = (2 : Int) ∨ (2 : Int) = (4 : Int))) ∧ (3 : Nat) ≤ (9223372036854775807 : Nat)
  ∧ ((0 : Int) ≤ (5 : Int) ∧ (5 : Int) < (11 : Int)) ∧ ((0 : Int) ≤ (5 : Int) ∧ (5 : Int) < (11 : Int)) ∧ [SV.g (Value.int IntKind.i64 (U.nu x)), SV.g (Value.int IntKind.i64 (4 : Int))] = [SV.g (Value.int IntKind.i64 (U.nu
  x)), SV.g (Value.int IntKind.i64 (4 : Int))] ∧ (((0 : Int) ≤ U.nu x ∧ U.nu x < (9223372036854775808 : Int)) ∧ ((4 : Int) = (1 : Int) ∨ (4 : Int) = (2 : Int) ∨ (4 : Int) = (4 : Int))) ∧ (7 : Nat) ≤ (9223372036854775807 :
  Nat) ∧ ((0 : Int) ≤ (5 : Int) ∧ (5 : Int) < (11 : Int)) ∧ ((0 : Int) ≤ (5 : Int) ∧ (5 : Int) < (11 : Int)) ∧ ((0 : Int) ≤ (5 : Int) ∧ (5 : Int) < (11 : Int)) ∧ SV.g (Value.string (ByteArray.mk (List.toArray (List.map
  cellByte (List.take (1 : Nat) (List.drop (0 : Nat) [SV.g (Value.int IntKind.u8 (IntKind.wrap IntKind.u8 (IntKind.wrap IntKind.i64 ((80 : Int) + U.cl x))))])))) ++ bz (beL (U.to x) (2 : Nat) (2 : Nat)) ++ bz (beL (U.nu x)
  (4 : Nat) (4 : Nat)))) = SV.g (Value.string (bz (headL (kU (5 : Int) x)))))
theorem vcHead5E : VcHead5 = (∀ (x : U), okU (kU 5 x) → fnX cxH (bodyOf Try.f27) Try.f27.results.toList [.agg (U.cells (kU 5 x))] [] (fun r _ => r = .g (.string (bz (headL (kU 5 x)))))) := by kernel_rfl
set_option maxHeartbeats 4000000 in
theorem vcHead5 : VcHead5 := by
  intro x ho
  have f := (okU_iff (u := kU 5 x) ⟨by show (1 : Int) ≤ 5; decide, by show (5 : Int) ≤ 10; decide⟩).1 ho
  simp only [kU] at f
  simp at f
  have hh := headL_5 (u := kU 5 x) rfl
  rw [hh]
  simp only [cbz, ← bz_app]
  refine (condX_iff _ _ _).2 ⟨fun he => ?_, fun he => ?_⟩
  · have hlow : lowU (kU 5 x) = 1 := by simp [lowU, kU, he]
    rw [hlow]
    and_intros <;> first | omega | with_reducible rfl | exact trivial | (simp [he] at f; done) | (simp [kU]; done) | rfl | skip
  · have hlow : lowU (kU 5 x) = x.cl := by simp [lowU, kU, he]
    rw [hlow]
    have hw : IntKind.u8.wrap (IntKind.i64.wrap (16 * 5 + x.cl)) = 16 * 5 + x.cl := by rw [wrap1 (by omega) (by omega)]; exact wrapU8 (by omega) (by omega)
    simp only [Int.reduceMul] at hw
    simp only [hw]
    and_intros <;> first | omega | with_reducible rfl | exact trivial | (simp [kU]; done) | rfl | skip
theorem vcHead5K : ∀ (x : U), okU (kU 5 x) → Held (fnX cxH (bodyOf Try.f27) Try.f27.results.toList [.agg (U.cells (kU 5 x))] [] (fun r _ => r = .g (.string (bz (headL (kU 5 x)))))) := held2 vcHead5E vcHead5
def VcHead6 : Prop := ∀ (x : U), okU (kU (6 : Int) x) → condX (U.e x) (((0 : Int) ≤ (6 : Int) ∧ (6 : Int) < (11 : Int)) ∧ [SV.g (Value.int IntKind.i64 (U.to x)), SV.g (Value.int IntKind.i64 (2 : Int))] = [SV.g (Value.int IntKind.i64 (U.to
  x)), SV.g (Value.int IntKind.i64 (2 : Int))] ∧ (((0 : Int) ≤ U.to x ∧ U.to x < (9223372036854775808 : Int)) ∧ ((2 : Int) = (1 : Int) ∨ (2 : Int) = (2 : Int) ∨ (2 : Int) = (4 : Int))) ∧ (3 : Nat) ≤ (9223372036854775807 :
  Nat) ∧ ((0 : Int) ≤ (6 : Int) ∧ (6 : Int) < (11 : Int)) ∧ ((0 : Int) ≤ (6 : Int) ∧ (6 : Int) < (11 : Int)) ∧ [SV.g (Value.int IntKind.i64 (U.nu x)), SV.g (Value.int IntKind.i64 (4 : Int))] = [SV.g (Value.int IntKind.i64
  (U.nu x)), SV.g (Value.int IntKind.i64 (4 : Int))] ∧ (((0 : Int) ≤ U.nu x ∧ U.nu x < (9223372036854775808 : Int)) ∧ ((4 : Int) = (1 : Int) ∨ (4 : Int) = (2 : Int) ∨ (4 : Int) = (4 : Int))) ∧ (7 : Nat) ≤
  (9223372036854775807 : Nat) ∧ ((0 : Int) ≤ (6 : Int) ∧ (6 : Int) < (11 : Int)) ∧ [SV.g (Value.int IntKind.i64 (U.cr x)), SV.g (Value.int IntKind.i64 (1 : Int))] = [SV.g (Value.int IntKind.i64 (U.cr x)), SV.g (Value.int
  IntKind.i64 (1 : Int))] ∧ (((0 : Int) ≤ U.cr x ∧ U.cr x < (9223372036854775808 : Int)) ∧ ((1 : Int) = (1 : Int) ∨ (1 : Int) = (2 : Int) ∨ (1 : Int) = (4 : Int))) ∧ (8 : Nat) ≤ (9223372036854775807 : Nat) ∧ ((0 : Int) ≤
  (6 : Int) ∧ (6 : Int) < (11 : Int)) ∧ ((0 : Int) ≤ (6 : Int) ∧ (6 : Int) < (11 : Int)) ∧ SV.g (Value.string (ByteArray.mk (List.toArray (List.map cellByte (List.take (1 : Nat) (List.drop (0 : Nat) [SV.g (Value.int
  IntKind.u8 (97 : Int))])))) ++ bz (beL (U.to x) (2 : Nat) (2 : Nat)) ++ bz (beL (U.nu x) (4 : Nat) (4 : Nat)) ++ bz (beL (U.cr x) (1 : Nat) (1 : Nat)))) = SV.g (Value.string (bz (headL (kU (6 : Int) x))))) (((0 : Int) ≤
  (6 : Int) ∧ (6 : Int) < (11 : Int)) ∧ [SV.g (Value.int IntKind.i64 (U.to x)), SV.g (Value.int IntKind.i64 (2 : Int))] = [SV.g (Value.int IntKind.i64 (U.to x)), SV.g (Value.int IntKind.i64 (2 : Int))] ∧ (((0 : Int) ≤ U.to
  x ∧ U.to x < (9223372036854775808 : Int)) ∧ ((2 : Int) = (1 : Int) ∨ (2 : Int) = (2 : Int) ∨ (2 : Int) = (4 : Int))) ∧ (3 : Nat) ≤ (9223372036854775807 : Nat) ∧ ((0 : Int) ≤ (6 : Int) ∧ (6 : Int) < (11 : Int)) ∧ ((0 :
  Int) ≤ (6 : Int) ∧ (6 : Int) < (11 : Int)) ∧ [SV.g (Value.int IntKind.i64 (U.nu x)), SV.g (Value.int IntKind.i64 (4 : Int))] = [SV.g (Value.int IntKind.i64 (U.nu x)), SV.g (Value.int IntKind.i64 (4 : Int))] ∧ (((0 : Int)
  ≤ U.nu x ∧ U.nu x < (9223372036854775808 : Int)) ∧ ((4 : Int) = (1 : Int) ∨ (4 : Int) = (2 : Int) ∨ (4 : Int) = (4 : Int))) ∧ (7 : Nat) ≤ (9223372036854775807 : Nat) ∧ ((0 : Int) ≤ (6 : Int) ∧ (6 : Int) < (11 : Int)) ∧
  [SV.g (Value.int IntKind.i64 (U.cr x)), SV.g (Value.int IntKind.i64 (1 : Int))] = [SV.g (Value.int IntKind.i64 (U.cr x)), SV.g (Value.int IntKind.i64 (1 : Int))] ∧ (((0 : Int) ≤ U.cr x ∧ U.cr x < (9223372036854775808 :
  Int)) ∧ ((1 : Int) = (1 : Int) ∨ (1 : Int) = (2 : Int) ∨ (1 : Int) = (4 : Int))) ∧ (8 : Nat) ≤ (9223372036854775807 : Nat) ∧ ((0 : Int) ≤ (6 : Int) ∧ (6 : Int) < (11 : Int)) ∧ ((0 : Int) ≤ (6 : Int) ∧ (6 : Int) < (11 :
  Int)) ∧ SV.g (Value.string (ByteArray.mk (List.toArray (List.map cellByte (List.take (1 : Nat) (List.drop (0 : Nat) [SV.g (Value.int IntKind.u8 (IntKind.wrap IntKind.u8 (IntKind.wrap IntKind.i64 ((96 : Int) + U.cl
  x))))])))) ++ bz (beL (U.to x) (2 : Nat) (2 : Nat)) ++ bz (beL (U.nu x) (4 : Nat) (4 : Nat)) ++ bz (beL (U.cr x) (1 : Nat) (1 : Nat)))) = SV.g (Value.string (bz (headL (kU (6 : Int) x)))))
theorem vcHead6E : VcHead6 = (∀ (x : U), okU (kU 6 x) → fnX cxH (bodyOf Try.f27) Try.f27.results.toList [.agg (U.cells (kU 6 x))] [] (fun r _ => r = .g (.string (bz (headL (kU 6 x)))))) := by kernel_rfl
set_option maxHeartbeats 4000000 in
theorem vcHead6 : VcHead6 := by
  intro x ho
  have f := (okU_iff (u := kU 6 x) ⟨by show (1 : Int) ≤ 6; decide, by show (6 : Int) ≤ 10; decide⟩).1 ho
  simp only [kU] at f
  simp at f
  have hh := headL_6 (u := kU 6 x) rfl
  rw [hh]
  simp only [cbz, ← bz_app]
  refine (condX_iff _ _ _).2 ⟨fun he => ?_, fun he => ?_⟩
  · have hlow : lowU (kU 6 x) = 1 := by simp [lowU, kU, he]
    rw [hlow]
    and_intros <;> first | omega | with_reducible rfl | exact trivial | (simp [he] at f; done) | (simp [kU]; done) | rfl | skip
  · have hlow : lowU (kU 6 x) = x.cl := by simp [lowU, kU, he]
    rw [hlow]
    have hw : IntKind.u8.wrap (IntKind.i64.wrap (16 * 6 + x.cl)) = 16 * 6 + x.cl := by rw [wrap1 (by omega) (by omega)]; exact wrapU8 (by omega) (by omega)
    simp only [Int.reduceMul] at hw
    simp only [hw]
    and_intros <;> first | omega | with_reducible rfl | exact trivial | (simp [kU]; done) | rfl | skip
theorem vcHead6K : ∀ (x : U), okU (kU 6 x) → Held (fnX cxH (bodyOf Try.f27) Try.f27.results.toList [.agg (U.cells (kU 6 x))] [] (fun r _ => r = .g (.string (bz (headL (kU 6 x)))))) := held2 vcHead6E vcHead6
def VcHead7 : Prop := ∀ (x : U), okU (kU (7 : Int) x) → condX (U.e x) (((0 : Int) ≤ (7 : Int) ∧ (7 : Int) < (11 : Int)) ∧ [SV.g (Value.int IntKind.i64 (U.to x)), SV.g (Value.int IntKind.i64 (2 : Int))] = [SV.g (Value.int IntKind.i64 (U.to
  x)), SV.g (Value.int IntKind.i64 (2 : Int))] ∧ (((0 : Int) ≤ U.to x ∧ U.to x < (9223372036854775808 : Int)) ∧ ((2 : Int) = (1 : Int) ∨ (2 : Int) = (2 : Int) ∨ (2 : Int) = (4 : Int))) ∧ (3 : Nat) ≤ (9223372036854775807 :
  Nat) ∧ ((0 : Int) ≤ (7 : Int) ∧ (7 : Int) < (11 : Int)) ∧ ((0 : Int) ≤ (7 : Int) ∧ (7 : Int) < (11 : Int)) ∧ [SV.g (Value.int IntKind.i64 (U.nu x)), SV.g (Value.int IntKind.i64 (4 : Int))] = [SV.g (Value.int IntKind.i64
  (U.nu x)), SV.g (Value.int IntKind.i64 (4 : Int))] ∧ (((0 : Int) ≤ U.nu x ∧ U.nu x < (9223372036854775808 : Int)) ∧ ((4 : Int) = (1 : Int) ∨ (4 : Int) = (2 : Int) ∨ (4 : Int) = (4 : Int))) ∧ (7 : Nat) ≤
  (9223372036854775807 : Nat) ∧ ((0 : Int) ≤ (7 : Int) ∧ (7 : Int) < (11 : Int)) ∧ [SV.g (Value.int IntKind.i64 (U.cr x)), SV.g (Value.int IntKind.i64 (1 : Int))] = [SV.g (Value.int IntKind.i64 (U.cr x)), SV.g (Value.int
  IntKind.i64 (1 : Int))] ∧ (((0 : Int) ≤ U.cr x ∧ U.cr x < (9223372036854775808 : Int)) ∧ ((1 : Int) = (1 : Int) ∨ (1 : Int) = (2 : Int) ∨ (1 : Int) = (4 : Int))) ∧ (8 : Nat) ≤ (9223372036854775807 : Nat) ∧ ((0 : Int) ≤
  (7 : Int) ∧ (7 : Int) < (11 : Int)) ∧ ((0 : Int) ≤ (7 : Int) ∧ (7 : Int) < (11 : Int)) ∧ SV.g (Value.string (ByteArray.mk (List.toArray (List.map cellByte (List.take (1 : Nat) (List.drop (0 : Nat) [SV.g (Value.int
  IntKind.u8 (113 : Int))])))) ++ bz (beL (U.to x) (2 : Nat) (2 : Nat)) ++ bz (beL (U.nu x) (4 : Nat) (4 : Nat)) ++ bz (beL (U.cr x) (1 : Nat) (1 : Nat)))) = SV.g (Value.string (bz (headL (kU (7 : Int) x))))) (((0 : Int) ≤
  (7 : Int) ∧ (7 : Int) < (11 : Int)) ∧ [SV.g (Value.int IntKind.i64 (U.to x)), SV.g (Value.int IntKind.i64 (2 : Int))] = [SV.g (Value.int IntKind.i64 (U.to x)), SV.g (Value.int IntKind.i64 (2 : Int))] ∧ (((0 : Int) ≤ U.to
  x ∧ U.to x < (9223372036854775808 : Int)) ∧ ((2 : Int) = (1 : Int) ∨ (2 : Int) = (2 : Int) ∨ (2 : Int) = (4 : Int))) ∧ (3 : Nat) ≤ (9223372036854775807 : Nat) ∧ ((0 : Int) ≤ (7 : Int) ∧ (7 : Int) < (11 : Int)) ∧ ((0 :
  Int) ≤ (7 : Int) ∧ (7 : Int) < (11 : Int)) ∧ [SV.g (Value.int IntKind.i64 (U.nu x)), SV.g (Value.int IntKind.i64 (4 : Int))] = [SV.g (Value.int IntKind.i64 (U.nu x)), SV.g (Value.int IntKind.i64 (4 : Int))] ∧ (((0 : Int)
  ≤ U.nu x ∧ U.nu x < (9223372036854775808 : Int)) ∧ ((4 : Int) = (1 : Int) ∨ (4 : Int) = (2 : Int) ∨ (4 : Int) = (4 : Int))) ∧ (7 : Nat) ≤ (9223372036854775807 : Nat) ∧ ((0 : Int) ≤ (7 : Int) ∧ (7 : Int) < (11 : Int)) ∧
  [SV.g (Value.int IntKind.i64 (U.cr x)), SV.g (Value.int IntKind.i64 (1 : Int))] = [SV.g (Value.int IntKind.i64 (U.cr x)), SV.g (Value.int IntKind.i64 (1 : Int))] ∧ (((0 : Int) ≤ U.cr x ∧ U.cr x < (9223372036854775808 :
  Int)) ∧ ((1 : Int) = (1 : Int) ∨ (1 : Int) = (2 : Int) ∨ (1 : Int) = (4 : Int))) ∧ (8 : Nat) ≤ (9223372036854775807 : Nat) ∧ ((0 : Int) ≤ (7 : Int) ∧ (7 : Int) < (11 : Int)) ∧ ((0 : Int) ≤ (7 : Int) ∧ (7 : Int) < (11 :
  Int)) ∧ SV.g (Value.string (ByteArray.mk (List.toArray (List.map cellByte (List.take (1 : Nat) (List.drop (0 : Nat) [SV.g (Value.int IntKind.u8 (IntKind.wrap IntKind.u8 (IntKind.wrap IntKind.i64 ((112 : Int) + U.cl
  x))))])))) ++ bz (beL (U.to x) (2 : Nat) (2 : Nat)) ++ bz (beL (U.nu x) (4 : Nat) (4 : Nat)) ++ bz (beL (U.cr x) (1 : Nat) (1 : Nat)))) = SV.g (Value.string (bz (headL (kU (7 : Int) x)))))
theorem vcHead7E : VcHead7 = (∀ (x : U), okU (kU 7 x) → fnX cxH (bodyOf Try.f27) Try.f27.results.toList [.agg (U.cells (kU 7 x))] [] (fun r _ => r = .g (.string (bz (headL (kU 7 x)))))) := by kernel_rfl
set_option maxHeartbeats 4000000 in
theorem vcHead7 : VcHead7 := by
  intro x ho
  have f := (okU_iff (u := kU 7 x) ⟨by show (1 : Int) ≤ 7; decide, by show (7 : Int) ≤ 10; decide⟩).1 ho
  simp only [kU] at f
  simp at f
  have hh := headL_7 (u := kU 7 x) rfl
  rw [hh]
  simp only [cbz, ← bz_app]
  refine (condX_iff _ _ _).2 ⟨fun he => ?_, fun he => ?_⟩
  · have hlow : lowU (kU 7 x) = 1 := by simp [lowU, kU, he]
    rw [hlow]
    and_intros <;> first | omega | with_reducible rfl | exact trivial | (simp [he] at f; done) | (simp [kU]; done) | rfl | skip
  · have hlow : lowU (kU 7 x) = x.cl := by simp [lowU, kU, he]
    rw [hlow]
    have hw : IntKind.u8.wrap (IntKind.i64.wrap (16 * 7 + x.cl)) = 16 * 7 + x.cl := by rw [wrap1 (by omega) (by omega)]; exact wrapU8 (by omega) (by omega)
    simp only [Int.reduceMul] at hw
    simp only [hw]
    and_intros <;> first | omega | with_reducible rfl | exact trivial | (simp [kU]; done) | rfl | skip
theorem vcHead7K : ∀ (x : U), okU (kU 7 x) → Held (fnX cxH (bodyOf Try.f27) Try.f27.results.toList [.agg (U.cells (kU 7 x))] [] (fun r _ => r = .g (.string (bz (headL (kU 7 x)))))) := held2 vcHead7E vcHead7
def VcHead8 : Prop := ∀ (x : U), okU (kU (8 : Int) x) → condX (U.e x) (((0 : Int) ≤ (8 : Int) ∧ (8 : Int) < (11 : Int)) ∧ [SV.g (Value.int IntKind.i64 (U.to x)), SV.g (Value.int IntKind.i64 (2 : Int))] = [SV.g (Value.int IntKind.i64 (U.to
  x)), SV.g (Value.int IntKind.i64 (2 : Int))] ∧ (((0 : Int) ≤ U.to x ∧ U.to x < (9223372036854775808 : Int)) ∧ ((2 : Int) = (1 : Int) ∨ (2 : Int) = (2 : Int) ∨ (2 : Int) = (4 : Int))) ∧ (3 : Nat) ≤ (9223372036854775807 :
  Nat) ∧ ((0 : Int) ≤ (8 : Int) ∧ (8 : Int) < (11 : Int)) ∧ ((0 : Int) ≤ (8 : Int) ∧ (8 : Int) < (11 : Int)) ∧ [SV.g (Value.int IntKind.i64 (U.nu x)), SV.g (Value.int IntKind.i64 (4 : Int))] = [SV.g (Value.int IntKind.i64
  (U.nu x)), SV.g (Value.int IntKind.i64 (4 : Int))] ∧ (((0 : Int) ≤ U.nu x ∧ U.nu x < (9223372036854775808 : Int)) ∧ ((4 : Int) = (1 : Int) ∨ (4 : Int) = (2 : Int) ∨ (4 : Int) = (4 : Int))) ∧ (7 : Nat) ≤
  (9223372036854775807 : Nat) ∧ ((0 : Int) ≤ (8 : Int) ∧ (8 : Int) < (11 : Int)) ∧ ((0 : Int) ≤ (8 : Int) ∧ (8 : Int) < (11 : Int)) ∧ ((0 : Int) ≤ (8 : Int) ∧ (8 : Int) < (11 : Int)) ∧ SV.g (Value.string (ByteArray.mk
  (List.toArray (List.map cellByte (List.take (1 : Nat) (List.drop (0 : Nat) [SV.g (Value.int IntKind.u8 (129 : Int))])))) ++ bz (beL (U.to x) (2 : Nat) (2 : Nat)) ++ bz (beL (U.nu x) (4 : Nat) (4 : Nat)))) = SV.g
  (Value.string (bz (headL (kU (8 : Int) x))))) (((0 : Int) ≤ (8 : Int) ∧ (8 : Int) < (11 : Int)) ∧ [SV.g (Value.int IntKind.i64 (U.to x)), SV.g (Value.int IntKind.i64 (2 : Int))] = [SV.g (Value.int IntKind.i64 (U.to x)),
  SV.g (Value.int IntKind.i64 (2 : Int))] ∧ (((0 : Int) ≤ U.to x ∧ U.to x < (9223372036854775808 : Int)) ∧ ((2 : Int) = (1 : Int) ∨ (2 : Int) = (2 : Int) ∨ (2 : Int) = (4 : Int))) ∧ (3 : Nat) ≤ (9223372036854775807 : Nat)
  ∧ ((0 : Int) ≤ (8 : Int) ∧ (8 : Int) < (11 : Int)) ∧ ((0 : Int) ≤ (8 : Int) ∧ (8 : Int) < (11 : Int)) ∧ [SV.g (Value.int IntKind.i64 (U.nu x)), SV.g (Value.int IntKind.i64 (4 : Int))] = [SV.g (Value.int IntKind.i64 (U.nu
  x)), SV.g (Value.int IntKind.i64 (4 : Int))] ∧ (((0 : Int) ≤ U.nu x ∧ U.nu x < (9223372036854775808 : Int)) ∧ ((4 : Int) = (1 : Int) ∨ (4 : Int) = (2 : Int) ∨ (4 : Int) = (4 : Int))) ∧ (7 : Nat) ≤ (9223372036854775807 :
  Nat) ∧ ((0 : Int) ≤ (8 : Int) ∧ (8 : Int) < (11 : Int)) ∧ ((0 : Int) ≤ (8 : Int) ∧ (8 : Int) < (11 : Int)) ∧ ((0 : Int) ≤ (8 : Int) ∧ (8 : Int) < (11 : Int)) ∧ SV.g (Value.string (ByteArray.mk (List.toArray (List.map
  cellByte (List.take (1 : Nat) (List.drop (0 : Nat) [SV.g (Value.int IntKind.u8 (IntKind.wrap IntKind.u8 (IntKind.wrap IntKind.i64 ((128 : Int) + U.cl x))))])))) ++ bz (beL (U.to x) (2 : Nat) (2 : Nat)) ++ bz (beL (U.nu
  x) (4 : Nat) (4 : Nat)))) = SV.g (Value.string (bz (headL (kU (8 : Int) x)))))
theorem vcHead8E : VcHead8 = (∀ (x : U), okU (kU 8 x) → fnX cxH (bodyOf Try.f27) Try.f27.results.toList [.agg (U.cells (kU 8 x))] [] (fun r _ => r = .g (.string (bz (headL (kU 8 x)))))) := by kernel_rfl
set_option maxHeartbeats 4000000 in
theorem vcHead8 : VcHead8 := by
  intro x ho
  have f := (okU_iff (u := kU 8 x) ⟨by show (1 : Int) ≤ 8; decide, by show (8 : Int) ≤ 10; decide⟩).1 ho
  simp only [kU] at f
  simp at f
  have hh := headL_8 (u := kU 8 x) rfl
  rw [hh]
  simp only [cbz, ← bz_app]
  refine (condX_iff _ _ _).2 ⟨fun he => ?_, fun he => ?_⟩
  · have hlow : lowU (kU 8 x) = 1 := by simp [lowU, kU, he]
    rw [hlow]
    and_intros <;> first | omega | with_reducible rfl | exact trivial | (simp [he] at f; done) | (simp [kU]; done) | rfl | skip
  · have hlow : lowU (kU 8 x) = x.cl := by simp [lowU, kU, he]
    rw [hlow]
    have hw : IntKind.u8.wrap (IntKind.i64.wrap (16 * 8 + x.cl)) = 16 * 8 + x.cl := by rw [wrap1 (by omega) (by omega)]; exact wrapU8 (by omega) (by omega)
    simp only [Int.reduceMul] at hw
    simp only [hw]
    and_intros <;> first | omega | with_reducible rfl | exact trivial | (simp [kU]; done) | rfl | skip
theorem vcHead8K : ∀ (x : U), okU (kU 8 x) → Held (fnX cxH (bodyOf Try.f27) Try.f27.results.toList [.agg (U.cells (kU 8 x))] [] (fun r _ => r = .g (.string (bz (headL (kU 8 x)))))) := held2 vcHead8E vcHead8
def VcHead9 : Prop := ∀ (x : U), okU (kU (9 : Int) x) → condX (U.e x) (((0 : Int) ≤ (9 : Int) ∧ (9 : Int) < (11 : Int)) ∧ [SV.g (Value.int IntKind.i64 (U.to x)), SV.g (Value.int IntKind.i64 (2 : Int))] = [SV.g (Value.int IntKind.i64 (U.to
  x)), SV.g (Value.int IntKind.i64 (2 : Int))] ∧ (((0 : Int) ≤ U.to x ∧ U.to x < (9223372036854775808 : Int)) ∧ ((2 : Int) = (1 : Int) ∨ (2 : Int) = (2 : Int) ∨ (2 : Int) = (4 : Int))) ∧ (3 : Nat) ≤ (9223372036854775807 :
  Nat) ∧ ((0 : Int) ≤ (9 : Int) ∧ (9 : Int) < (11 : Int)) ∧ ((0 : Int) ≤ (9 : Int) ∧ (9 : Int) < (11 : Int)) ∧ [SV.g (Value.int IntKind.i64 (U.nu x)), SV.g (Value.int IntKind.i64 (4 : Int))] = [SV.g (Value.int IntKind.i64
  (U.nu x)), SV.g (Value.int IntKind.i64 (4 : Int))] ∧ (((0 : Int) ≤ U.nu x ∧ U.nu x < (9223372036854775808 : Int)) ∧ ((4 : Int) = (1 : Int) ∨ (4 : Int) = (2 : Int) ∨ (4 : Int) = (4 : Int))) ∧ (7 : Nat) ≤
  (9223372036854775807 : Nat) ∧ ((0 : Int) ≤ (9 : Int) ∧ (9 : Int) < (11 : Int)) ∧ ((0 : Int) ≤ (9 : Int) ∧ (9 : Int) < (11 : Int)) ∧ ((0 : Int) ≤ (9 : Int) ∧ (9 : Int) < (11 : Int)) ∧ SV.g (Value.string (ByteArray.mk
  (List.toArray (List.map cellByte (List.take (1 : Nat) (List.drop (0 : Nat) [SV.g (Value.int IntKind.u8 (145 : Int))])))) ++ bz (beL (U.to x) (2 : Nat) (2 : Nat)) ++ bz (beL (U.nu x) (4 : Nat) (4 : Nat)))) = SV.g
  (Value.string (bz (headL (kU (9 : Int) x))))) (((0 : Int) ≤ (9 : Int) ∧ (9 : Int) < (11 : Int)) ∧ [SV.g (Value.int IntKind.i64 (U.to x)), SV.g (Value.int IntKind.i64 (2 : Int))] = [SV.g (Value.int IntKind.i64 (U.to x)),
  SV.g (Value.int IntKind.i64 (2 : Int))] ∧ (((0 : Int) ≤ U.to x ∧ U.to x < (9223372036854775808 : Int)) ∧ ((2 : Int) = (1 : Int) ∨ (2 : Int) = (2 : Int) ∨ (2 : Int) = (4 : Int))) ∧ (3 : Nat) ≤ (9223372036854775807 : Nat)
  ∧ ((0 : Int) ≤ (9 : Int) ∧ (9 : Int) < (11 : Int)) ∧ ((0 : Int) ≤ (9 : Int) ∧ (9 : Int) < (11 : Int)) ∧ [SV.g (Value.int IntKind.i64 (U.nu x)), SV.g (Value.int IntKind.i64 (4 : Int))] = [SV.g (Value.int IntKind.i64 (U.nu
  x)), SV.g (Value.int IntKind.i64 (4 : Int))] ∧ (((0 : Int) ≤ U.nu x ∧ U.nu x < (9223372036854775808 : Int)) ∧ ((4 : Int) = (1 : Int) ∨ (4 : Int) = (2 : Int) ∨ (4 : Int) = (4 : Int))) ∧ (7 : Nat) ≤ (9223372036854775807 :
  Nat) ∧ ((0 : Int) ≤ (9 : Int) ∧ (9 : Int) < (11 : Int)) ∧ ((0 : Int) ≤ (9 : Int) ∧ (9 : Int) < (11 : Int)) ∧ ((0 : Int) ≤ (9 : Int) ∧ (9 : Int) < (11 : Int)) ∧ SV.g (Value.string (ByteArray.mk (List.toArray (List.map
  cellByte (List.take (1 : Nat) (List.drop (0 : Nat) [SV.g (Value.int IntKind.u8 (IntKind.wrap IntKind.u8 (IntKind.wrap IntKind.i64 ((144 : Int) + U.cl x))))])))) ++ bz (beL (U.to x) (2 : Nat) (2 : Nat)) ++ bz (beL (U.nu
  x) (4 : Nat) (4 : Nat)))) = SV.g (Value.string (bz (headL (kU (9 : Int) x)))))
theorem vcHead9E : VcHead9 = (∀ (x : U), okU (kU 9 x) → fnX cxH (bodyOf Try.f27) Try.f27.results.toList [.agg (U.cells (kU 9 x))] [] (fun r _ => r = .g (.string (bz (headL (kU 9 x)))))) := by kernel_rfl
set_option maxHeartbeats 4000000 in
theorem vcHead9 : VcHead9 := by
  intro x ho
  have f := (okU_iff (u := kU 9 x) ⟨by show (1 : Int) ≤ 9; decide, by show (9 : Int) ≤ 10; decide⟩).1 ho
  simp only [kU] at f
  simp at f
  have hh := headL_9 (u := kU 9 x) rfl
  rw [hh]
  simp only [cbz, ← bz_app]
  refine (condX_iff _ _ _).2 ⟨fun he => ?_, fun he => ?_⟩
  · have hlow : lowU (kU 9 x) = 1 := by simp [lowU, kU, he]
    rw [hlow]
    and_intros <;> first | omega | with_reducible rfl | exact trivial | (simp [he] at f; done) | (simp [kU]; done) | rfl | skip
  · have hlow : lowU (kU 9 x) = x.cl := by simp [lowU, kU, he]
    rw [hlow]
    have hw : IntKind.u8.wrap (IntKind.i64.wrap (16 * 9 + x.cl)) = 16 * 9 + x.cl := by rw [wrap1 (by omega) (by omega)]; exact wrapU8 (by omega) (by omega)
    simp only [Int.reduceMul] at hw
    simp only [hw]
    and_intros <;> first | omega | with_reducible rfl | exact trivial | (simp [kU]; done) | rfl | skip
theorem vcHead9K : ∀ (x : U), okU (kU 9 x) → Held (fnX cxH (bodyOf Try.f27) Try.f27.results.toList [.agg (U.cells (kU 9 x))] [] (fun r _ => r = .g (.string (bz (headL (kU 9 x)))))) := held2 vcHead9E vcHead9
def VcHead10 : Prop := ∀ (x : U), okU (kU (10 : Int) x) → condX (U.e x) (((0 : Int) ≤ (10 : Int) ∧ (10 : Int) < (11 : Int)) ∧ [SV.g (Value.int IntKind.i64 (U.to x)), SV.g (Value.int IntKind.i64 (2 : Int))] = [SV.g (Value.int IntKind.i64 (U.to
  x)), SV.g (Value.int IntKind.i64 (2 : Int))] ∧ (((0 : Int) ≤ U.to x ∧ U.to x < (9223372036854775808 : Int)) ∧ ((2 : Int) = (1 : Int) ∨ (2 : Int) = (2 : Int) ∨ (2 : Int) = (4 : Int))) ∧ (3 : Nat) ≤ (9223372036854775807 :
  Nat) ∧ ((0 : Int) ≤ (10 : Int) ∧ (10 : Int) < (11 : Int)) ∧ ((0 : Int) ≤ (10 : Int) ∧ (10 : Int) < (11 : Int)) ∧ ((0 : Int) ≤ (10 : Int) ∧ (10 : Int) < (11 : Int)) ∧ ((0 : Int) ≤ (10 : Int) ∧ (10 : Int) < (11 : Int)) ∧
  [SV.g (Value.int IntKind.i64 (U.re x)), SV.g (Value.int IntKind.i64 (1 : Int))] = [SV.g (Value.int IntKind.i64 (U.re x)), SV.g (Value.int IntKind.i64 (1 : Int))] ∧ (((0 : Int) ≤ U.re x ∧ U.re x < (9223372036854775808 :
  Int)) ∧ ((1 : Int) = (1 : Int) ∨ (1 : Int) = (2 : Int) ∨ (1 : Int) = (4 : Int))) ∧ (4 : Nat) ≤ (9223372036854775807 : Nat) ∧ ((0 : Int) ≤ (10 : Int) ∧ (10 : Int) < (11 : Int)) ∧ SV.g (Value.string (ByteArray.mk
  (List.toArray (List.map cellByte (List.take (1 : Nat) (List.drop (0 : Nat) [SV.g (Value.int IntKind.u8 (161 : Int))])))) ++ bz (beL (U.to x) (2 : Nat) (2 : Nat)) ++ bz (beL (U.re x) (1 : Nat) (1 : Nat)))) = SV.g
  (Value.string (bz (headL (kU (10 : Int) x))))) (((0 : Int) ≤ (10 : Int) ∧ (10 : Int) < (11 : Int)) ∧ [SV.g (Value.int IntKind.i64 (U.to x)), SV.g (Value.int IntKind.i64 (2 : Int))] = [SV.g (Value.int IntKind.i64 (U.to
  x)), SV.g (Value.int IntKind.i64 (2 : Int))] ∧ (((0 : Int) ≤ U.to x ∧ U.to x < (9223372036854775808 : Int)) ∧ ((2 : Int) = (1 : Int) ∨ (2 : Int) = (2 : Int) ∨ (2 : Int) = (4 : Int))) ∧ (3 : Nat) ≤ (9223372036854775807 :
  Nat) ∧ ((0 : Int) ≤ (10 : Int) ∧ (10 : Int) < (11 : Int)) ∧ ((0 : Int) ≤ (10 : Int) ∧ (10 : Int) < (11 : Int)) ∧ ((0 : Int) ≤ (10 : Int) ∧ (10 : Int) < (11 : Int)) ∧ ((0 : Int) ≤ (10 : Int) ∧ (10 : Int) < (11 : Int)) ∧
  [SV.g (Value.int IntKind.i64 (U.re x)), SV.g (Value.int IntKind.i64 (1 : Int))] = [SV.g (Value.int IntKind.i64 (U.re x)), SV.g (Value.int IntKind.i64 (1 : Int))] ∧ (((0 : Int) ≤ U.re x ∧ U.re x < (9223372036854775808 :
  Int)) ∧ ((1 : Int) = (1 : Int) ∨ (1 : Int) = (2 : Int) ∨ (1 : Int) = (4 : Int))) ∧ (4 : Nat) ≤ (9223372036854775807 : Nat) ∧ ((0 : Int) ≤ (10 : Int) ∧ (10 : Int) < (11 : Int)) ∧ SV.g (Value.string (ByteArray.mk
  (List.toArray (List.map cellByte (List.take (1 : Nat) (List.drop (0 : Nat) [SV.g (Value.int IntKind.u8 (IntKind.wrap IntKind.u8 (IntKind.wrap IntKind.i64 ((160 : Int) + U.cl x))))])))) ++ bz (beL (U.to x) (2 : Nat) (2 :
  Nat)) ++ bz (beL (U.re x) (1 : Nat) (1 : Nat)))) = SV.g (Value.string (bz (headL (kU (10 : Int) x)))))
theorem vcHead10E : VcHead10 = (∀ (x : U), okU (kU 10 x) → fnX cxH (bodyOf Try.f27) Try.f27.results.toList [.agg (U.cells (kU 10 x))] [] (fun r _ => r = .g (.string (bz (headL (kU 10 x)))))) := by kernel_rfl
set_option maxHeartbeats 4000000 in
theorem vcHead10 : VcHead10 := by
  intro x ho
  have f := (okU_iff (u := kU 10 x) ⟨by show (1 : Int) ≤ 10; decide, by show (10 : Int) ≤ 10; decide⟩).1 ho
  simp only [kU] at f
  simp at f
  have hh := headL_10 (u := kU 10 x) rfl
  rw [hh]
  simp only [cbz, ← bz_app]
  refine (condX_iff _ _ _).2 ⟨fun he => ?_, fun he => ?_⟩
  · have hlow : lowU (kU 10 x) = 1 := by simp [lowU, kU, he]
    rw [hlow]
    and_intros <;> first | omega | with_reducible rfl | exact trivial | (simp [he] at f; done) | (simp [kU]; done) | rfl | skip
  · have hlow : lowU (kU 10 x) = x.cl := by simp [lowU, kU, he]
    rw [hlow]
    have hw : IntKind.u8.wrap (IntKind.i64.wrap (16 * 10 + x.cl)) = 16 * 10 + x.cl := by rw [wrap1 (by omega) (by omega)]; exact wrapU8 (by omega) (by omega)
    simp only [Int.reduceMul] at hw
    simp only [hw]
    and_intros <;> first | omega | with_reducible rfl | exact trivial | (simp [kU]; done) | rfl | skip
theorem vcHead10K : ∀ (x : U), okU (kU 10 x) → Held (fnX cxH (bodyOf Try.f27) Try.f27.results.toList [.agg (U.cells (kU 10 x))] [] (fun r _ => r = .g (.string (bz (headL (kU 10 x)))))) := held2 vcHead10E vcHead10
end Go.Proofs.Ytghbejmnnfoamaa
