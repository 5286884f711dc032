/- Chapter 15: Read as a rule; Mod. -/
import Derived.Test.YtghbejmnnfoamaaK
set_option linter.unusedVariables false
set_option linter.unusedSimpArgs false
namespace Go.Proofs.Ytghbejmnnfoamaa
open Go Go.Eng
attribute [local irreducible] condX
def X_Read : XC := ⟨ByteArray, fun | [.g (.string b)] => some b | _ => none, fun b => [.g (.string b)], fun _ => True, rdR⟩
theorem vcReadTK : ∀ b : ByteArray, True → Held (fnX (cx_Read b) (bodyOf Try.f23) Try.f23.results.toList [.g (.string b)] [] (fun r _ => r = rdR b)) := fun b _ => vcReadK b
theorem ok_Read : ExactSound Try.prog Λ0 23 X_Read.rule :=
  exact_rule (ty := ty) (Γ := ΓOf Γs) hm tyOK Γs_ok (fnOK_of Try.func23 (by kernel_rfl) (by kernel_rfl)) Try.func23 (body_some (by kernel_rfl)) X_Read Try.ntmps23 (fun _ => Nat.le_of_ble_eq_true rfl) (fun _ => rfl) (fun x => rfl) (fun x => (cx_Read x).cut) (fun x => (cx_Read x).loop) fun x h => vcReadTK x h
def Γ7 : List (Nat × Rule) := (23, .exact X_Read.rule) :: (12, .exact X_rRead.rule) :: Γ6
theorem Γ7_ok : ΓOK Try.prog Λ0 (ΓOf Γ7) := (ΓOf_cons ok_Read (ΓOf_cons ok_rRead Γ6_ok))
/-! ### Mod, Spoil -/
def modI (x n : Int) : Int := if n < 1 then 0 else x % n
def X_rMod : XC := ⟨Int × Int, fun | [.g (.int .i64 x), .g (.int .i64 n)] => some (x, n) | _ => none, fun x => [.g (.int .i64 x.1), .g (.int .i64 x.2)], fun x => x.2 < 9223372036854775808, fun x => .g (.int .i64 (modI x.1 x.2))⟩
theorem modI_bd {x n : Int} (h : 1 ≤ n) : 0 ≤ modI x n ∧ modI x n < n := by
  unfold modI
  rw [if_neg (by omega)]
  exact ⟨Int.emod_nonneg _ (by omega), Int.emod_lt_of_pos _ (by omega)⟩
def VcMod : Prop := ∀ (x : Int × Int), Prod.snd x < (9223372036854775808 : Int) → condX (decide (Prod.snd x < (1 : Int))) (SV.g (Value.int IntKind.i64 (0 : Int)) = SV.g (Value.int IntKind.i64 (modI (Prod.fst x) (Prod.snd x)))) (Prod.snd x ≠
  (0 : Int) ∧ condX (decide (Int.tmod (Prod.fst x) (Prod.snd x) < (0 : Int))) (SV.g (Value.int IntKind.i64 (IntKind.wrap IntKind.i64 (Int.tmod (Prod.fst x) (Prod.snd x) + Prod.snd x))) = SV.g (Value.int IntKind.i64 (modI
  (Prod.fst x) (Prod.snd x)))) (SV.g (Value.int IntKind.i64 (Int.tmod (Prod.fst x) (Prod.snd x))) = SV.g (Value.int IntKind.i64 (modI (Prod.fst x) (Prod.snd x)))))
theorem vcModE : VcMod = (∀ (x : Int × Int), x.2 < 9223372036854775808 → fnX ((fun _ => cx0 17 0) x) (bodyOf Try.f8) Try.f8.results.toList [.g (.int .i64 x.1), .g (.int .i64 x.2)] [] (fun r _ => r = .g (.int .i64 (modI x.1 x.2)))) := by kernel_rfl
set_option maxHeartbeats 4000000 in
theorem vcMod : VcMod := by
  intro y hn
  obtain ⟨x, n⟩ := y
  simp only [] at hn ⊢
  have key : ∀ h : 1 ≤ n, modI x n = if Int.tmod x n < 0 then Int.tmod x n + n else Int.tmod x n := by
    intro h
    unfold modI
    rw [if_neg (by omega), Int.tmod_eq_emod]
    have h1 := Int.emod_nonneg x (b := n) (by omega)
    have h2 := Int.emod_lt_of_pos x (b := n) (by omega)
    have hab : (n.natAbs : Int) = n := by omega
    split
    · rw [if_neg (by omega)]; omega
    · rename_i hh
      have : x % n ≠ 0 := fun e => hh (Or.inr (Int.dvd_of_emod_eq_zero e))
      rw [if_pos (by omega)]; omega
  refine (condX_iff _ _ _).2 ⟨fun h => ?_, fun h => ⟨?_, (condX_iff _ _ _).2 ⟨fun h2 => ?_, fun h2 => ?_⟩⟩⟩
  · have h := of_decide_eq_true h
    unfold modI; rw [if_pos h]
  · have h := of_decide_eq_false h
    omega
  · have h := of_decide_eq_false h
    have h2 := of_decide_eq_true h2
    have hb := modI_bd (x := x) (n := n) (by omega)
    have := key (by omega)
    rw [if_pos h2] at this
    rw [this] at hb ⊢
    rw [wrap1 (by omega) (by omega)]
  · have h := of_decide_eq_false h
    have h2 := of_decide_eq_false h2
    have := key (by omega)
    rw [if_neg h2] at this
    rw [this]
theorem vcModK : ∀ (x : Int × Int), x.2 < 9223372036854775808 → Held (fnX ((fun _ => cx0 17 0) x) (bodyOf Try.f8) Try.f8.results.toList [.g (.int .i64 x.1), .g (.int .i64 x.2)] [] (fun r _ => r = .g (.int .i64 (modI x.1 x.2)))) := held2 vcModE vcMod
def cx_rMod (_ : Int × Int) : Cx := cx0 17 0
theorem ok_rMod : ExactSound Try.prog Λ0 8 X_rMod.rule :=
  exact_rule (ty := ty) (Γ := ΓOf Γ0) hm tyOK Γ0_ok (fnOK_of Try.func8 (by kernel_rfl) (by kernel_rfl)) Try.func8 (body_some (by kernel_rfl)) X_rMod Try.ntmps8 (fun _ => Nat.le_of_ble_eq_true rfl) (fun _ => rfl) (fun x => rfl) (fun x => (cx_rMod x).cut) (fun x => (cx_rMod x).loop) fun x h => vcModK x h
def Γ8 : List (Nat × Rule) := (8, .exact X_rMod.rule) :: Γ7
theorem Γ8_ok : ΓOK Try.prog Λ0 (ΓOf Γ8) := (ΓOf_cons ok_rMod Γ7_ok)
end Go.Proofs.Ytghbejmnnfoamaa
