/- Chapter 15: Agree. -/
import Derived.Test.YtghbejmnnfoamaaB
set_option linter.unusedVariables false
set_option linter.unusedSimpArgs false
namespace Go.Proofs.Ytghbejmnnfoamaa
open Go Go.Eng
attribute [local irreducible] condX
def R_Valid : List SV → Option (List Prop × SV)
  | [.agg cs] => match uOf cs with
    | some u => some ([], .g (.bool (decide (okU u))))
    | none => none
  | _ => none
theorem ok_Valid : ExactSound Try.prog Λ0 44 R_Valid := ⟨fnOK_of Try.func44 (by kernel_rfl) (by kernel_rfl), fun args pre r h hp A ρ => by
  unfold R_Valid at h; split at h
  · split at h
    · rename_i u hu
      simp only [Option.some.injEq, Prod.mk.injEq] at h; obtain ⟨rfl, rfl⟩ := h
      rw [uOf_some hu]
      exact fun _ => exact_of (cx := cx_Valid u) hm tyOK Γ1_ok Try.func44 (body_some (by kernel_rfl)) Try.ntmps44 rfl (Nat.le_of_ble_eq_true rfl) rfl rfl (vcValidK u) A ρ
    · cases h
  · cases h⟩
theorem ok_rValid : ExactSound Try.prog Λ0 26 R_Valid := ⟨fnOK_of Try.func26 (by kernel_rfl) (by kernel_rfl), fun args pre r h hp A ρ => by
  unfold R_Valid at h; split at h
  · split at h
    · rename_i u hu
      simp only [Option.some.injEq, Prod.mk.injEq] at h; obtain ⟨rfl, rfl⟩ := h
      rw [uOf_some hu]
      exact fun _ => exact_of (cx := cx_rValid) hm tyOK Γ1_ok Try.func26 (body_some (by kernel_rfl)) Try.ntmps26 rfl (Nat.le_of_ble_eq_true rfl) rfl rfl (vcRefValidK u) A ρ
    · cases h
  · cases h⟩
def Γ2 : List (Nat × Rule) := (44, .exact R_Valid) :: (26, .exact R_Valid) :: Γ1
theorem Γ2_ok : ΓOK Try.prog Λ0 (ΓOf Γ2) := ΓOf_cons ok_Valid (ΓOf_cons ok_rValid Γ1_ok)
def uZero : U := ⟨0, 0, 0, 0, 0, 0, 0, 0, false, ⟨#[]⟩⟩
def agCl (a b : U) : Int := if min a.cl b.cl % 2 = 1 ∧ a.cl ≠ b.cl then 0 else min a.cl b.cl
def agU (a b : U) : U := ⟨2, a.fr, b.fr, agCl a b, min a.sz b.sz, 0, if agCl a b < 2 then 0 else b.cr, 0, false, ⟨#[]⟩⟩
def agOK (a b : U) : Prop := okU a ∧ okU b ∧ a.k = 1 ∧ b.k = 2
instance (a b : U) : Decidable (agOK a b) := by unfold agOK; infer_instance
def agUU (a b : U) : U := if agOK a b then agU a b else uZero
def agR (a b : U) : SV := .tup [.agg (agUU a b).cells, .g (.int .i64 (if agOK a b then 0 else 1))]
def cx2 (n e : Nat) : Cx := ⟨ty, ΓOf Γ2, fun _ => [], fun _ _ => [], n, e⟩
theorem and1 {m : Int} (h : 0 ≤ m) (h' : m ≤ 4) : IntKind.wrap IntKind.i64 ((BitVec.toNat (BitVec.ofInt 64 m &&& BitVec.ofInt 64 1) : Nat) : Int) = m % 2 := by
  have : m = 0 ∨ m = 1 ∨ m = 2 ∨ m = 3 ∨ m = 4 := by omega
  rcases this with rfl | rfl | rfl | rfl | rfl <;> decide
theorem minI (x y : Int) : (if y < x then y else x) = min x y := by
  rw [Int.min_def]; split <;> split <;> omega
theorem agBad {a b : U} (h : (bif bif bif !decide (okU a) then true else !decide (okU b) then true else a.k != 1 then true else b.k != 2) = true) : agR a b = .tup [.agg uZero.cells, .g (.int .i64 1)] := by
  have : ¬ agOK a b := by
    rintro ⟨h1, h2, h3, h4⟩
    simp [h1, h2, h3, h4] at h
  simp only [agR, agUU, this, if_false]
theorem agGood {a b : U} (h : (bif bif bif !decide (okU a) then true else !decide (okU b) then true else a.k != 1 then true else b.k != 2) = false) : (okU a ∧ okU b ∧ a.k = 1 ∧ b.k = 2) ∧ agR a b = .tup [.agg (agU a b).cells, .g (.int .i64 0)] := by
  have : agOK a b := by
    simp only [Bool.cond_eq_ite] at h
    simp at h
    exact ⟨h.1.1.1, h.1.1.2, h.1.2, h.2⟩
  exact ⟨this, by simp only [agR, agUU, this, if_true]⟩
theorem cc_facts {b : U} (h : okU b) (hk : b.k = 2) : b.nu = 0 ∧ b.re = 0 ∧ b.e = false ∧ b.d = ⟨#[]⟩ ∧ 0 ≤ b.cl ∧ b.cl ≤ 4 := by
  rw [okU_iff (by omega)] at h
  have hd : b.d.size = 0 := by
    have h1 := h.1.2
    rw [hk] at h1
    have : (if (2 : Int) = 1 then (32 : Int) else if (2 : Int) = 3 then 64 else if (2 : Int) = 5 then 3980 else if (2 : Int) = 8 then 16 else if (2 : Int) = 10 then 64 else 0) = 0 := by decide
    omega
  simp [hk] at h
  refine ⟨h.2.2.2.2.2.1, h.2.2.2.2.2.2.2.1, ?_, size_zero.2 hd, h.2.2.1.1, h.2.2.1.2⟩
  cases he : b.e
  · rfl
  · simp [he] at h
theorem cr_facts {b : U} (h : okU b) (hk : b.k = 1) : 0 ≤ b.cl ∧ b.cl ≤ 4 := h.2.2.2.1
end Go.Proofs.Ytghbejmnnfoamaa
