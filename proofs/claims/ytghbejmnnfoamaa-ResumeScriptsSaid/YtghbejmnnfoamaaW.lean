/- Chapter 15: the reference's Write. -/
import Derived.Test.YtghbejmnnfoamaaHd
set_option linter.unusedVariables false
set_option linter.unusedSimpArgs false
namespace Go.Proofs.Ytghbejmnnfoamaa
open Go Go.Eng
attribute [local irreducible] condX
theorem condT (p q : Prop) : condX true p q = p := propext ⟨fun h => ((condX_iff _ _ _).1 h).1 rfl, fun h => (condX_iff _ _ _).2 ⟨fun _ => h, fun h => Bool.noConfusion h⟩⟩
theorem condF (p q : Prop) : condX false p q = q := propext ⟨fun h => ((condX_iff _ _ _).1 h).2 rfl, fun h => (condX_iff _ _ _).2 ⟨fun h => Bool.noConfusion h, fun _ => h⟩⟩
theorem cbz (x : Int) : (⟨(List.map cellByte (List.take 1 (List.drop 0 [SV.g (Value.int IntKind.u8 x)]))).toArray⟩ : ByteArray) = bz [x] := rfl
theorem bz0 : (⟨#[]⟩ : ByteArray) = bz [] := rfl
theorem dg1 {n : Int} (h0 : 0 ≤ n) (h1 : n < 9223372036854775808) : IntKind.i64.wrap (n.tdiv 256) = n / 256 := by rw [Int.tdiv_eq_ediv_of_nonneg h0]; exact wrap1 (by omega) (by omega)
theorem dg2 {n : Int} (h0 : 0 ≤ n) : IntKind.u8.wrap (n.tmod 256) = n % 256 := by rw [tmod_nn h0]; exact wrapU8 (by omega) (by omega)
theorem beL1 (n : Int) : beL n 1 1 = [n % 256] := by simp [beL, List.range_succ]
theorem beL2 (n : Int) : beL n 2 2 = [n / 256 % 256, n % 256] := by simp [beL, List.range_succ]
theorem beL4 (n : Int) : beL n 4 4 = [n / 256 / 256 / 256 % 256, n / 256 / 256 % 256, n / 256 % 256, n % 256] := by
  simp [beL, List.range_succ]; omega
def cxV (n : Nat) : Cx := ⟨ty, ΓOf [], fun _ => [], fun _ _ => [], n, 0⟩
def VcDig1 : Prop := ∀ (n : Int), (0 : Int) ≤ n → n < (9223372036854775808 : Int) → (256 : Int) ≠ (0 : Int) ∧ (1 : Nat) ≤ (9223372036854775807 : Nat) ∧ (256 : Int) ≠ (0 : Int) ∧ SV.g (Value.string (ByteArray.mk (List.toArray (List.map
  cellByte (List.take (1 : Nat) (List.drop (0 : Nat) [SV.g (Value.int IntKind.u8 (IntKind.wrap IntKind.u8 (Int.tmod n (256 : Int))))])))) ++ ByteArray.mk #[])) = SV.g (Value.string (bz (beL n (1 : Nat) (1 : Nat))))
theorem vcDig1E : VcDig1 = (∀ (n : Int), 0 ≤ n → n < 9223372036854775808 → fnX (cxV 22) (bodyOf Try.f28) Try.f28.results.toList [.g (.int .i64 n), .g (.int .i64 1)] [] (fun r _ => r = .g (.string (bz (beL n 1 1))))) := by kernel_rfl
set_option maxHeartbeats 4000000 in
theorem vcDig1 : VcDig1 := by
  intro n h0 h1
  have a1 : 0 ≤ n / 256 ∧ n / 256 < 9223372036854775808 := by omega
  have a2 : 0 ≤ n / 256 / 256 ∧ n / 256 / 256 < 9223372036854775808 := by omega
  have a3 : 0 ≤ n / 256 / 256 / 256 ∧ n / 256 / 256 / 256 < 9223372036854775808 := by omega
  simp only [cbz, bz0, ← bz_app, List.cons_append, List.nil_append, dg1 h0 h1, dg1 a1.1 a1.2, dg1 a2.1 a2.2, dg1 a3.1 a3.2, dg2 h0, dg2 a1.1, dg2 a2.1, dg2 a3.1, beL1, beL2, beL4]
  and_intros <;> first | decide | omega | trivial | rfl
theorem vcDig1K : ∀ (n : Int), 0 ≤ n → n < 9223372036854775808 → Held (fnX (cxV 22) (bodyOf Try.f28) Try.f28.results.toList [.g (.int .i64 n), .g (.int .i64 1)] [] (fun r _ => r = .g (.string (bz (beL n 1 1))))) := held3 vcDig1E vcDig1
def VcDig2 : Prop := ∀ (n : Int), (0 : Int) ≤ n → n < (9223372036854775808 : Int) → (256 : Int) ≠ (0 : Int) ∧ (1 : Nat) ≤ (9223372036854775807 : Nat) ∧ (256 : Int) ≠ (0 : Int) ∧ (256 : Int) ≠ (0 : Int) ∧ (2 : Nat) ≤ (9223372036854775807 :
  Nat) ∧ (256 : Int) ≠ (0 : Int) ∧ SV.g (Value.string (ByteArray.mk (List.toArray (List.map cellByte (List.take (1 : Nat) (List.drop (0 : Nat) [SV.g (Value.int IntKind.u8 (IntKind.wrap IntKind.u8 (Int.tmod (IntKind.wrap
  IntKind.i64 (Int.tdiv n (256 : Int))) (256 : Int))))])))) ++ (ByteArray.mk (List.toArray (List.map cellByte (List.take (1 : Nat) (List.drop (0 : Nat) [SV.g (Value.int IntKind.u8 (IntKind.wrap IntKind.u8 (Int.tmod n (256
  : Int))))])))) ++ ByteArray.mk #[]))) = SV.g (Value.string (bz (beL n (2 : Nat) (2 : Nat))))
theorem vcDig2E : VcDig2 = (∀ (n : Int), 0 ≤ n → n < 9223372036854775808 → fnX (cxV 22) (bodyOf Try.f28) Try.f28.results.toList [.g (.int .i64 n), .g (.int .i64 2)] [] (fun r _ => r = .g (.string (bz (beL n 2 2))))) := by kernel_rfl
set_option maxHeartbeats 4000000 in
theorem vcDig2 : VcDig2 := by
  intro n h0 h1
  have a1 : 0 ≤ n / 256 ∧ n / 256 < 9223372036854775808 := by omega
  have a2 : 0 ≤ n / 256 / 256 ∧ n / 256 / 256 < 9223372036854775808 := by omega
  have a3 : 0 ≤ n / 256 / 256 / 256 ∧ n / 256 / 256 / 256 < 9223372036854775808 := by omega
  simp only [cbz, bz0, ← bz_app, List.cons_append, List.nil_append, dg1 h0 h1, dg1 a1.1 a1.2, dg1 a2.1 a2.2, dg1 a3.1 a3.2, dg2 h0, dg2 a1.1, dg2 a2.1, dg2 a3.1, beL1, beL2, beL4]
  and_intros <;> first | decide | omega | trivial | rfl
theorem vcDig2K : ∀ (n : Int), 0 ≤ n → n < 9223372036854775808 → Held (fnX (cxV 22) (bodyOf Try.f28) Try.f28.results.toList [.g (.int .i64 n), .g (.int .i64 2)] [] (fun r _ => r = .g (.string (bz (beL n 2 2))))) := held3 vcDig2E vcDig2
def VcDig4 : Prop := ∀ (n : Int), (0 : Int) ≤ n → n < (9223372036854775808 : Int) → (256 : Int) ≠ (0 : Int) ∧ (1 : Nat) ≤ (9223372036854775807 : Nat) ∧ (256 : Int) ≠ (0 : Int) ∧ (256 : Int) ≠ (0 : Int) ∧ (2 : Nat) ≤ (9223372036854775807 :
  Nat) ∧ (256 : Int) ≠ (0 : Int) ∧ (256 : Int) ≠ (0 : Int) ∧ (3 : Nat) ≤ (9223372036854775807 : Nat) ∧ (256 : Int) ≠ (0 : Int) ∧ (256 : Int) ≠ (0 : Int) ∧ (4 : Nat) ≤ (9223372036854775807 : Nat) ∧ (256 : Int) ≠ (0 : Int) ∧
  SV.g (Value.string (ByteArray.mk (List.toArray (List.map cellByte (List.take (1 : Nat) (List.drop (0 : Nat) [SV.g (Value.int IntKind.u8 (IntKind.wrap IntKind.u8 (Int.tmod (IntKind.wrap IntKind.i64 (Int.tdiv (IntKind.wrap
  IntKind.i64 (Int.tdiv (IntKind.wrap IntKind.i64 (Int.tdiv n (256 : Int))) (256 : Int))) (256 : Int))) (256 : Int))))])))) ++ (ByteArray.mk (List.toArray (List.map cellByte (List.take (1 : Nat) (List.drop (0 : Nat) [SV.g
  (Value.int IntKind.u8 (IntKind.wrap IntKind.u8 (Int.tmod (IntKind.wrap IntKind.i64 (Int.tdiv (IntKind.wrap IntKind.i64 (Int.tdiv n (256 : Int))) (256 : Int))) (256 : Int))))])))) ++ (ByteArray.mk (List.toArray (List.map
  cellByte (List.take (1 : Nat) (List.drop (0 : Nat) [SV.g (Value.int IntKind.u8 (IntKind.wrap IntKind.u8 (Int.tmod (IntKind.wrap IntKind.i64 (Int.tdiv n (256 : Int))) (256 : Int))))])))) ++ (ByteArray.mk (List.toArray
  (List.map cellByte (List.take (1 : Nat) (List.drop (0 : Nat) [SV.g (Value.int IntKind.u8 (IntKind.wrap IntKind.u8 (Int.tmod n (256 : Int))))])))) ++ ByteArray.mk #[]))))) = SV.g (Value.string (bz (beL n (4 : Nat) (4 :
  Nat))))
theorem vcDig4E : VcDig4 = (∀ (n : Int), 0 ≤ n → n < 9223372036854775808 → fnX (cxV 22) (bodyOf Try.f28) Try.f28.results.toList [.g (.int .i64 n), .g (.int .i64 4)] [] (fun r _ => r = .g (.string (bz (beL n 4 4))))) := by kernel_rfl
set_option maxHeartbeats 4000000 in
theorem vcDig4 : VcDig4 := by
  intro n h0 h1
  have a1 : 0 ≤ n / 256 ∧ n / 256 < 9223372036854775808 := by omega
  have a2 : 0 ≤ n / 256 / 256 ∧ n / 256 / 256 < 9223372036854775808 := by omega
  have a3 : 0 ≤ n / 256 / 256 / 256 ∧ n / 256 / 256 / 256 < 9223372036854775808 := by omega
  simp only [cbz, bz0, ← bz_app, List.cons_append, List.nil_append, dg1 h0 h1, dg1 a1.1 a1.2, dg1 a2.1 a2.2, dg1 a3.1 a3.2, dg2 h0, dg2 a1.1, dg2 a2.1, dg2 a3.1, beL1, beL2, beL4]
  and_intros <;> first | decide | omega | trivial | rfl
theorem vcDig4K : ∀ (n : Int), 0 ≤ n → n < 9223372036854775808 → Held (fnX (cxV 22) (bodyOf Try.f28) Try.f28.results.toList [.g (.int .i64 n), .g (.int .i64 4)] [] (fun r _ => r = .g (.string (bz (beL n 4 4))))) := held3 vcDig4E vcDig4
def X_rDigits : XC := ⟨Int × Int, fun | [.g (.int .i64 n), .g (.int .i64 w)] => some (n, w) | _ => none, fun x => [.g (.int .i64 x.1), .g (.int .i64 x.2)], fun x => (0 ≤ x.1 ∧ x.1 < 9223372036854775808) ∧ (x.2 = 1 ∨ x.2 = 2 ∨ x.2 = 4), fun x => .g (.string (bz (beL x.1 x.2.toNat x.2.toNat)))⟩
theorem vcDigK : ∀ x : Int × Int, (0 ≤ x.1 ∧ x.1 < 9223372036854775808) ∧ (x.2 = 1 ∨ x.2 = 2 ∨ x.2 = 4) → Held (fnX (cxV 22) (bodyOf Try.f28) Try.f28.results.toList [.g (.int .i64 x.1), .g (.int .i64 x.2)] [] (fun r _ => r = .g (.string (bz (beL x.1 x.2.toNat x.2.toNat))))) := by
  rintro ⟨n, w⟩ ⟨⟨h0, h1⟩, h⟩
  simp only [] at h0 h1 h
  rcases h with rfl | rfl | rfl
  · exact vcDig1K n h0 h1
  · exact vcDig2K n h0 h1
  · exact vcDig4K n h0 h1
def cx_rDigits (_ : Int × Int) : Cx := cxV 22
def Γd0 : List (Nat × Rule) := []
theorem Γd0_ok : ΓOK Try.prog Λ0 (ΓOf Γd0) := ΓOf_nil _
theorem ok_rDigits : ExactSound Try.prog Λ0 28 X_rDigits.rule :=
  exact_rule (ty := ty) (Γ := ΓOf Γd0) hm tyOK Γd0_ok (fnOK_of Try.func28 (by kernel_rfl) (by kernel_rfl)) Try.func28 (body_some (by kernel_rfl)) X_rDigits Try.ntmps28 (fun _ => Nat.le_of_ble_eq_true rfl) (fun _ => rfl) (fun x => rfl) (fun x => (cx_rDigits x).cut) (fun x => (cx_rDigits x).loop) fun x h => vcDigK x h
end Go.Proofs.Ytghbejmnnfoamaa
