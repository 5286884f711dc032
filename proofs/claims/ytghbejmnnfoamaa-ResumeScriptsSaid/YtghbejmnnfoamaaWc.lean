/- Chapter 15: the reference's Write as a rule. -/
import Derived.Test.YtghbejmnnfoamaaWb
set_option linter.unusedVariables false
set_option linter.unusedSimpArgs false
namespace Go.Proofs.Ytghbejmnnfoamaa
open Go Go.Eng
attribute [local irreducible] condX
set_option maxHeartbeats 2000000 in
theorem vcRHeadK : ∀ x : U, okU x → Held (fnX cxH (bodyOf Try.f27) Try.f27.results.toList [.agg x.cells] [] (fun r _ => r = .g (.string (bz (headL x))))) := by
  rintro ⟨k, to, fr, cl, sz, nu, cr, re, e, d⟩ ho
  have hk : 1 ≤ k ∧ k ≤ 10 := ho.1
  have : k = 1 ∨ k = 2 ∨ k = 3 ∨ k = 4 ∨ k = 5 ∨ k = 6 ∨ k = 7 ∨ k = 8 ∨ k = 9 ∨ k = 10 := by omega
  rcases this with rfl | rfl | rfl | rfl | rfl | rfl | rfl | rfl | rfl | rfl
  · have h := vcHead1K ⟨1, to, fr, cl, sz, nu, cr, re, e, d⟩ ho; exact h
  · have h := vcHead2K ⟨2, to, fr, cl, sz, nu, cr, re, e, d⟩ ho; exact h
  · have h := vcHead3K ⟨3, to, fr, cl, sz, nu, cr, re, e, d⟩ ho; exact h
  · have h := vcHead4K ⟨4, to, fr, cl, sz, nu, cr, re, e, d⟩ ho; exact h
  · have h := vcHead5K ⟨5, to, fr, cl, sz, nu, cr, re, e, d⟩ ho; exact h
  · have h := vcHead6K ⟨6, to, fr, cl, sz, nu, cr, re, e, d⟩ ho; exact h
  · have h := vcHead7K ⟨7, to, fr, cl, sz, nu, cr, re, e, d⟩ ho; exact h
  · have h := vcHead8K ⟨8, to, fr, cl, sz, nu, cr, re, e, d⟩ ho; exact h
  · have h := vcHead9K ⟨9, to, fr, cl, sz, nu, cr, re, e, d⟩ ho; exact h
  · have h := vcHead10K ⟨10, to, fr, cl, sz, nu, cr, re, e, d⟩ ho; exact h
def getU1 : List SV → Option U
  | [.agg cs] => uOf cs
  | _ => none
def X_rHead : XC := ⟨U, getU1, fun x => [.agg x.cells], okU, fun x => .g (.string (bz (headL x)))⟩
def cx_rHead (_ : U) : Cx := cxH
theorem ok_rHead : ExactSound Try.prog Λ0 27 X_rHead.rule :=
  exact_rule (ty := ty) (Γ := ΓOf Γh) hm tyOK Γh_ok (fnOK_of Try.func27 (by kernel_rfl) (by kernel_rfl)) Try.func27 (body_some (by kernel_rfl)) X_rHead Try.ntmps27 (fun _ => Nat.le_of_ble_eq_true rfl) (fun _ => rfl) (fun x => rfl) (fun x => (cx_rHead x).cut) (fun x => (cx_rHead x).loop) fun x h => vcRHeadK x h
def ΓW : List (Nat × Rule) := (28, .exact X_rDigits.rule) :: (27, .exact X_rHead.rule) :: Γ4
theorem ΓW_ok : ΓOK Try.prog Λ0 (ΓOf ΓW) := (ΓOf_cons ok_rDigits (ΓOf_cons ok_rHead Γ4_ok))
def cxRW : Cx := ⟨ty, ΓOf ΓW, fun _ => [], fun _ _ => [], 47, 0⟩
def VcRWrite : Prop := ∀ (u : U) (c : Bool), condX (!decide (okU u)) (SV.tup [SV.g (Value.string (ByteArray.mk #[])), SV.g (Value.int IntKind.i64 (1 : Int))] = SV.tup [SV.g (Value.string (wrS u c)), SV.g (Value.int IntKind.i64 (wrE u))])
  ([SV.agg (List.take (10 : Nat) (List.drop (0 : Nat) [SV.g (Value.int IntKind.i64 (U.k u)), SV.g (Value.int IntKind.i64 (U.to u)), SV.g (Value.int IntKind.i64 (U.fr u)), SV.g (Value.int IntKind.i64 (U.cl u)), SV.g
  (Value.int IntKind.i64 (U.sz u)), SV.g (Value.int IntKind.i64 (U.nu u)), SV.g (Value.int IntKind.i64 (U.cr u)), SV.g (Value.int IntKind.i64 (U.re u)), SV.g (Value.bool (U.e u)), SV.g (Value.string (U.d u))]))] = [SV.agg
  (U.cells u)] ∧ okU u ∧ condX (!c) ([SV.g (Value.int IntKind.i64 (↑(ByteArray.size (bz (headL u))) : Int)), SV.g (Value.int IntKind.i64 (1 : Int))] = [SV.g (Value.int IntKind.i64 (↑(ByteArray.size (bz (headL u))) : Int)),
  SV.g (Value.int IntKind.i64 (1 : Int))] ∧ (((0 : Int) ≤ (↑(ByteArray.size (bz (headL u))) : Int) ∧ (↑(ByteArray.size (bz (headL u))) : Int) < (9223372036854775808 : Int)) ∧ ((1 : Int) = (1 : Int) ∨ (1 : Int) = (2 : Int)
  ∨ (1 : Int) = (4 : Int))) ∧ (1 : Nat) + ByteArray.size (bz (headL u)) ≤ (9223372036854775807 : Nat) ∧ ByteArray.size (bz (beL (↑(ByteArray.size (bz (headL u))) : Int) (1 : Nat) (1 : Nat)) ++ bz (headL u)) +
  ByteArray.size (U.d u) ≤ (9223372036854775807 : Nat) ∧ SV.tup [SV.g (Value.string (bz (beL (↑(ByteArray.size (bz (headL u))) : Int) (1 : Nat) (1 : Nat)) ++ bz (headL u) ++ U.d u)), SV.g (Value.int IntKind.i64 (0 : Int))]
  = SV.tup [SV.g (Value.string (wrS u c)), SV.g (Value.int IntKind.i64 (wrE u))]) ([SV.g (Value.int IntKind.i64 (IntKind.wrap IntKind.i64 ((↑(ByteArray.size (bz (headL u))) : Int) + (3 : Int)))), SV.g (Value.int
  IntKind.i64 (1 : Int))] = [SV.g (Value.int IntKind.i64 (IntKind.wrap IntKind.i64 ((↑(ByteArray.size (bz (headL u))) : Int) + (3 : Int)))), SV.g (Value.int IntKind.i64 (1 : Int))] ∧ (((0 : Int) ≤ IntKind.wrap IntKind.i64
  ((↑(ByteArray.size (bz (headL u))) : Int) + (3 : Int)) ∧ IntKind.wrap IntKind.i64 ((↑(ByteArray.size (bz (headL u))) : Int) + (3 : Int)) < (9223372036854775808 : Int)) ∧ ((1 : Int) = (1 : Int) ∨ (1 : Int) = (2 : Int) ∨
  (1 : Int) = (4 : Int))) ∧ (1 : Nat) + ByteArray.size (bz (headL u)) ≤ (9223372036854775807 : Nat) ∧ ByteArray.size (bz (beL (IntKind.wrap IntKind.i64 ((↑(ByteArray.size (bz (headL u))) : Int) + (3 : Int))) (1 : Nat) (1 :
  Nat)) ++ bz (headL u)) + (1 : Nat) ≤ (9223372036854775807 : Nat) ∧ ByteArray.size (bz (beL (IntKind.wrap IntKind.i64 ((↑(ByteArray.size (bz (headL u))) : Int) + (3 : Int))) (1 : Nat) (1 : Nat)) ++ bz (headL u) ++
  ByteArray.mk #[(195 : UInt8)]) + (2 : Nat) ≤ (9223372036854775807 : Nat) ∧ ByteArray.size (bz (beL (IntKind.wrap IntKind.i64 ((↑(ByteArray.size (bz (headL u))) : Int) + (3 : Int))) (1 : Nat) (1 : Nat)) ++ bz (headL u) ++
  ByteArray.mk #[(195 : UInt8)] ++ ByteArray.mk #[(0 : UInt8), (0 : UInt8)]) + ByteArray.size (U.d u) ≤ (9223372036854775807 : Nat) ∧ [SV.g (Value.string (bz (beL (IntKind.wrap IntKind.i64 ((↑(ByteArray.size (bz (headL
  u))) : Int) + (3 : Int))) (1 : Nat) (1 : Nat)) ++ bz (headL u) ++ ByteArray.mk #[(195 : UInt8)] ++ ByteArray.mk #[(0 : UInt8), (0 : UInt8)] ++ U.d u))] = [SV.g (Value.string (bz (beL (IntKind.wrap IntKind.i64
  ((↑(ByteArray.size (bz (headL u))) : Int) + (3 : Int))) (1 : Nat) (1 : Nat)) ++ bz (headL u) ++ ByteArray.mk #[(195 : UInt8)] ++ ByteArray.mk #[(0 : UInt8), (0 : UInt8)] ++ U.d u))] ∧ True ∧ ByteArray.size (bz (beL
  (IntKind.wrap IntKind.i64 ((↑(ByteArray.size (bz (headL u))) : Int) + (3 : Int))) (1 : Nat) (1 : Nat)) ++ bz (headL u) ++ ByteArray.mk #[(195 : UInt8)]) + ByteArray.size (sumS (bz (beL (IntKind.wrap IntKind.i64
  ((↑(ByteArray.size (bz (headL u))) : Int) + (3 : Int))) (1 : Nat) (1 : Nat)) ++ bz (headL u) ++ ByteArray.mk #[(195 : UInt8)] ++ ByteArray.mk #[(0 : UInt8), (0 : UInt8)] ++ U.d u)) ≤ (9223372036854775807 : Nat) ∧
  ByteArray.size (bz (beL (IntKind.wrap IntKind.i64 ((↑(ByteArray.size (bz (headL u))) : Int) + (3 : Int))) (1 : Nat) (1 : Nat)) ++ bz (headL u) ++ ByteArray.mk #[(195 : UInt8)] ++ sumS (bz (beL (IntKind.wrap IntKind.i64
  ((↑(ByteArray.size (bz (headL u))) : Int) + (3 : Int))) (1 : Nat) (1 : Nat)) ++ bz (headL u) ++ ByteArray.mk #[(195 : UInt8)] ++ ByteArray.mk #[(0 : UInt8), (0 : UInt8)] ++ U.d u)) + ByteArray.size (U.d u) ≤
  (9223372036854775807 : Nat) ∧ SV.tup [SV.g (Value.string (bz (beL (IntKind.wrap IntKind.i64 ((↑(ByteArray.size (bz (headL u))) : Int) + (3 : Int))) (1 : Nat) (1 : Nat)) ++ bz (headL u) ++ ByteArray.mk #[(195 : UInt8)] ++
  sumS (bz (beL (IntKind.wrap IntKind.i64 ((↑(ByteArray.size (bz (headL u))) : Int) + (3 : Int))) (1 : Nat) (1 : Nat)) ++ bz (headL u) ++ ByteArray.mk #[(195 : UInt8)] ++ ByteArray.mk #[(0 : UInt8), (0 : UInt8)] ++ U.d u)
  ++ U.d u)), SV.g (Value.int IntKind.i64 (0 : Int))] = SV.tup [SV.g (Value.string (wrS u c)), SV.g (Value.int IntKind.i64 (wrE u))]))
theorem vcRWriteE : VcRWrite = (∀ (u : U) (c : Bool), fnX cxRW (bodyOf Try.f10) Try.f10.results.toList [.agg u.cells, .g (.bool c)] [] (fun r _ => r = wrR u c)) := by kernel_rfl
set_option maxHeartbeats 4000000 in
theorem vcRWrite : VcRWrite := by
  intro u c
  refine (condX_iff _ _ _).2 ⟨fun h => ?_, fun h => ?_⟩
  · have h : ¬ okU u := by simpa using h
    simp only [wrS, wrE, h, if_false]
  have hu : okU u := by simpa using h
  have hhi : (u.d.size : Int) ≤ 3980 := by
    have h1 := hu.2.1.2
    have : ∀ k : Nat, k < 11 → hiOf k ≤ 3980 := by decide
    have := this _ (kn_lt u.k); omega
  have hl : (headL u).length ≤ 17 := by
    have h1 := headP_len u (fdOf (kn u.k)).size
    have h2 := fdOf_size (kn_lt u.k)
    unfold headL; omega
  have hlh := headL_hi u
  have hdh := hu.2.1.2
  have c195 : (⟨#[195]⟩ : ByteArray) = bz [195] := rfl
  have c00 : (⟨#[0, 0]⟩ : ByteArray) = bz [0, 0] := rfl
  have hw : IntKind.i64.wrap (((headL u).length : Int) + 3) = (headL u).length + 3 := wrap1 (by omega) (by omega)
  have m1 : ((headL u).length : Int) % 256 = (headL u).length := by omega
  have m3 : (((headL u).length : Int) + 3) % 256 = (headL u).length + 3 := by omega
  simp only [bz_size, hw, beL1, m1, m3, c195, c00]
  refine ⟨rfl, hu, (condX_iff _ _ _).2 ⟨fun hc => ?_, fun hc => ?_⟩⟩
  · have hc : c = false := by simpa using hc
    subst hc
    have hS : wrS u false = bz [((headL u).length : Int)] ++ bz (headL u) ++ u.d := by
      rw [wrS, if_pos hu, ← bz_app]
      conv => rhs; rw [← bz_byL u.d, ← bz_app]
      rfl
    have hE : wrE u = 0 := by rw [wrE, if_pos hu]
    rw [hS, hE]
    simp only [ByteArray.size_append, bz_size, List.length_cons, List.length_nil]
    and_intros <;> first | omega | exact trivial | (simp; done) | with_reducible rfl | rfl
  · have hc : c = true := by simpa using hc
    subst hc
    have hF : bz [((headL u).length : Int) + 3] ++ bz (headL u) ++ bz [195] = bz (frontL u) := by
      rw [← bz_app, ← bz_app]; rfl
    have hG : bz (frontL u) ++ bz [0, 0] ++ u.d = bz (frontL u ++ [0, 0] ++ byL u.d) := by
      rw [bz_app, bz_app, bz_byL]
    have hw8 : (w8 u true).length = (headL u).length + 3 := by simp [w8]
    have hfl := frontL_len u
    have hnn : ∀ x ∈ frontL u ++ [0, 0] ++ byL u.d, 0 ≤ x ∧ x < 256 := by
      rw [← w10_eq]
      intro x hx
      simp only [w10, List.cons_append, List.mem_cons, List.mem_append] at hx
      rcases hx with rfl | hx | hx
      · omega
      · exact w8_nn hu true x hx
      · exact byL_nn _ x hx
    have hs : sumS (bz (frontL u ++ [0, 0] ++ byL u.d)) = bz [(sumW u).1, (sumW u).2] := by
      rw [sumS, if_neg (by rw [bz_size]; simp only [List.length_append, byL_len, List.length_cons, List.length_nil]; omega), byL_bz hnn]; rfl
    have hS : wrS u true = bz (frontL u) ++ bz [(sumW u).1, (sumW u).2] ++ u.d := by
      rw [wrS, if_pos hu, ← bz_app]
      conv => rhs; rw [← bz_byL u.d, ← bz_app]
      rfl
    have hE : wrE u = 0 := by rw [wrE, if_pos hu]
    simp only [hF, hG, hs]
    rw [hS, hE]
    simp only [ByteArray.size_append, bz_size, List.length_cons, List.length_nil]
    and_intros <;> first | omega | exact trivial | (simp; done) | with_reducible rfl | rfl
theorem vcRWriteK : ∀ (u : U) (c : Bool), Held (fnX cxRW (bodyOf Try.f10) Try.f10.results.toList [.agg u.cells, .g (.bool c)] [] (fun r _ => r = wrR u c)) := held2 vcRWriteE vcRWrite
def X_rWrite : XC := ⟨U × Bool, getUC, fun x => [.agg x.1.cells, .g (.bool x.2)], fun _ => True, fun x => wrR x.1 x.2⟩
theorem vcRWrite2K : ∀ x : U × Bool, True → Held (fnX cxRW (bodyOf Try.f10) Try.f10.results.toList [.agg x.1.cells, .g (.bool x.2)] [] (fun r _ => r = wrR x.1 x.2)) := fun x _ => vcRWriteK x.1 x.2
def cx_rWrite (_ : U × Bool) : Cx := cxRW
theorem ok_rWrite : ExactSound Try.prog Λ0 10 X_rWrite.rule :=
  exact_rule (ty := ty) (Γ := ΓOf ΓW) hm tyOK ΓW_ok (fnOK_of Try.func10 (by kernel_rfl) (by kernel_rfl)) Try.func10 (body_some (by kernel_rfl)) X_rWrite Try.ntmps10 (fun _ => Nat.le_of_ble_eq_true rfl) (fun _ => rfl) (fun x => rfl) (fun x => (cx_rWrite x).cut) (fun x => (cx_rWrite x).loop) fun x h => vcRWrite2K x h
end Go.Proofs.Ytghbejmnnfoamaa
