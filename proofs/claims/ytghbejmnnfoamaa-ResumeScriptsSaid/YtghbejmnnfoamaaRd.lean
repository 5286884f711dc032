/- Chapter 18: the program's side: New, the small questions, and what nil and a zero side answer. -/
import Derived.Test.YtghbejmnnfoamaaRc
set_option linter.unusedVariables false
set_option linter.unusedSimpArgs false
namespace Go.Proofs.Ytghbejmnnfoamaa
open Go Go.Eng
attribute [local irreducible] condX
theorem gen_sel {P : Program} {Λ : Lay} {f : Nat} {w1 w2 : List SV → Heap → Nat → (SV → Heap → Prop) → Prop} (sel : List SV → Heap → Bool) (h1 : GenSound P Λ f w1) (h2 : GenSound P Λ f w2) :
    GenSound P Λ f (fun a H n K => match sel a H with | true => w1 a H n K | false => w2 a H n K) := ⟨h1.1, fun args H nid K B ρ w hi hH hl hd hwt => by
  simp only [] at hwt
  split at hwt
  · exact h1.2 args H nid K B ρ w hi hH hl hd hwt
  · exact h2.2 args H nid K B ρ w hi hH hl hd hwt⟩
/-- The receiver is nil. -/
def selN : List SV → Heap → Bool
  | .g (.pointer none) :: _, _ => true
  | _, _ => false
/-! ### New -/
def newOK (a b t : Int) : Prop := (1 ≤ a ∧ a ≤ 65535) ∧ (1 ≤ b ∧ b ≤ 65535) ∧ (1 ≤ t ∧ t ≤ 100)
instance (a b t : Int) : Decidable (newOK a b t) := by unfold newOK; infer_instance
def newR (a b t : Int) : R18 := ⟨0, 0, a, b, t, 0, 0⟩
def nilS : SV := .g (.slice none 0 0)
def C_New18 : Ctr := ⟨0, Int × Int × Int, fun x => [.g (.int .i64 x.1), .g (.int .i64 x.2.1), .g (.int .i64 x.2.2)], fun _ => [], fun _ => True, fun x =>
  [.one (newOK x.1 x.2.1 x.2.2) (.tup [.ptr 0 0 0 0, .g (.int .i64 0)]) [(0, .cells ((newR x.1 x.2.1 x.2.2).cells (.g (.slice none 0 0)) (.g (.slice none 0 0))) 55)],
   .one (¬ newOK x.1 x.2.1 x.2.2) (.tup [.g (.pointer none), .g (.int .i64 1)]) []]⟩
def cx_New18 (_ : Int × Int × Int) : Cx := ⟨ty, ΓOf Γm, fun _ => [], fun _ _ => [], 35, 0⟩
def VcNew18 : Prop := ∀ (x : Int × Int × Int), True → condX (bif bif bif bif bif decide (Prod.fst x < (1 : Int)) then true else decide ((65535 : Int) < Prod.fst x) then true else decide (Prod.fst (Prod.snd x) < (1 : Int)) then true else
  decide ((65535 : Int) < Prod.fst (Prod.snd x)) then true else decide (Prod.snd (Prod.snd x) < (1 : Int)) then true else decide ((100 : Int) < Prod.snd (Prod.snd x))) (newOK (Prod.fst x) (Prod.fst (Prod.snd x)) (Prod.snd
  (Prod.snd x)) ∧ False ∨ ¬newOK (Prod.fst x) (Prod.fst (Prod.snd x)) (Prod.snd (Prod.snd x)) ∧ Value.pointer none = Value.pointer none ∧ (1 : Int) = (1 : Int) ∧ True ∨ False) (newOK (Prod.fst x) (Prod.fst (Prod.snd x))
  (Prod.snd (Prod.snd x)) ∧ (0 : Nat) = (0 : Nat) ∧ (0 : Int) = (0 : Int) ∧ [SV.g (Value.int IntKind.i64 (0 : Int)), SV.g (Value.int IntKind.i64 (0 : Int)), SV.g (Value.int IntKind.i64 (Prod.fst x)), SV.g (Value.int
  IntKind.i64 (Prod.fst (Prod.snd x))), SV.g (Value.int IntKind.i64 (Prod.snd (Prod.snd x))), SV.g (Value.int IntKind.i64 (0 : Int)), SV.g (Value.int IntKind.i64 (0 : Int)), SV.g (Value.slice none (0 : Nat) (0 : Nat)),
  SV.g (Value.slice none (0 : Nat) (0 : Nat))] = R18.cells (newR (Prod.fst x) (Prod.fst (Prod.snd x)) (Prod.snd (Prod.snd x))) (SV.g (Value.slice none (0 : Nat) (0 : Nat))) (SV.g (Value.slice none (0 : Nat) (0 : Nat))) ∧
  True ∨ ¬newOK (Prod.fst x) (Prod.fst (Prod.snd x)) (Prod.snd (Prod.snd x)) ∧ False ∨ False)
theorem vcNew18E : VcNew18 = (∀ (x : Int × Int × Int), True → fnX (cx_New18 x) (bodyOf Try.f7) Try.f7.results.toList (C_New18.args x) (C_New18.H x) (endX 0 (C_New18.outs x))) := by kernel_rfl
set_option maxHeartbeats 4000000 in
theorem vcNew18 : VcNew18 := by
  rintro ⟨a, b, t⟩ _
  simp only [eq_self, true_and, and_true, Nat.le_refl, Int.le_refl, implies_true, forall_const, and_false, false_and, exists_false, false_or, or_false, true_implies, Nat.zero_add, and_self, Int.toNat_natCast, cond_true, cond_false, condT, condF]
  refine (condX_iff _ _ _).2 ⟨fun c => ?_, fun c => ?_⟩
  · simp only [bOr, decide_eq_true_eq] at c
    rintro ⟨n1, n2, n3⟩
    omega
  · rw [← Bool.not_eq_true] at c
    simp only [bOr, decide_eq_true_eq] at c
    exact ⟨⟨by omega, by omega, by omega⟩, rfl⟩
theorem vcNew18K : ∀ (x : Int × Int × Int), True → Held (fnX (cx_New18 x) (bodyOf Try.f7) Try.f7.results.toList (C_New18.args x) (C_New18.H x) (endX 0 (C_New18.outs x))) := held2 vcNew18E vcNew18
/-! ### none of nil -/
def C_none0 : Ctr := ⟨0, Unit, fun _ => [.g (.pointer none)], fun _ => [], fun _ => True, fun _ => [.one True (.g (.bool true)) []]⟩
def cx_none0 (_ : Unit) : Cx := ⟨ty, ΓOf Γm, fun _ => [], fun _ _ => [], 12, 0⟩
def VcNone0 : Prop := ∀ (x : Unit), True → true = true ∧ (True ∧ true = true ∧ True ∨ False)
theorem vcNone0E : VcNone0 = (∀ (x : Unit), True → fnX (cx_none0 x) (bodyOf Try.f21) Try.f21.results.toList (C_none0.args x) (C_none0.H x) (endX 0 (C_none0.outs x))) := by kernel_rfl
set_option maxHeartbeats 4000000 in
theorem vcNone0 : VcNone0 := by
  intro x _
  simp only [eq_self, true_and, and_true, Nat.le_refl, Int.le_refl, implies_true, forall_const, and_false, false_and, exists_false, false_or, or_false, true_implies, Nat.zero_add, and_self, Int.toNat_natCast, cond_true, cond_false, condT, condF]
theorem vcNone0K : ∀ (x : Unit), True → Held (fnX (cx_none0 x) (bodyOf Try.f21) Try.f21.results.toList (C_none0.args x) (C_none0.H x) (endX 0 (C_none0.outs x))) := held2 vcNone0E vcNone0
def get0 : List SV → Heap → Option Unit
  | _, _ => some ()
theorem ok_none0 : GenSound Try.prog Λ0 21 (callX C_none0 get0) :=
  gen_of (ty := ty) (Γ := ΓOf Γm) hm tyOK Γm_ok (fnOK_of Try.func21 (by kernel_rfl) (by kernel_rfl)) Try.func21 (body_some (by kernel_rfl)) C_none0 get0 Try.ntmps21 (fun _ => Nat.le_of_ble_eq_true rfl) (fun x => (cx_none0 x).cut) (fun x => (cx_none0 x).loop) fun x h => vcNone0K x h
def wtNone (a : List SV) (H : Heap) (n : Nat) (K : SV → Heap → Prop) : Prop := match selN a H with
  | true => callX C_none0 get0 a H n K
  | false => callX C_none18 getN a H n K
theorem ok_noneA : GenSound Try.prog Λ0 21 wtNone := gen_sel selN ok_none0 ok_none18
def Γa : List (Nat × Rule) := (21, .gen wtNone) :: Γn
theorem Γa_ok : ΓOK Try.prog Λ0 (ΓOf Γa) := ΓOf_cons ok_noneA Γn_ok
/-! ### State, Kept, Numbers -/
def pre18 (x : N18) : Prop := x.1.ow ≠ 0
def C_State18 : Ctr := ⟨3, N18, fun _ => [.ptr 0 0 0 0], fun x => N18.H x, pre18, fun x => [.one True (.g (.int .i64 x.1.st)) (N18.H x)]⟩
def cx_State18 (_ : N18) : Cx := ⟨ty, ΓOf Γm, fun _ => [], fun _ _ => [], 9, 3⟩
def VcState18 : Prop := ∀ (x : N18), pre18 x → (0 : Nat) = (0 : Nat) ∧ R18.nx (Prod.fst x) = R18.nx (Prod.fst x) ∧ R18.wa (Prod.fst x) = R18.wa (Prod.fst x) ∧ R18.ow (Prod.fst x) = R18.ow (Prod.fst x) ∧ R18.ot (Prod.fst x) = R18.ot (Prod.fst x)
  ∧ R18.ti (Prod.fst x) = R18.ti (Prod.fst x) ∧ R18.st (Prod.fst x) = R18.st (Prod.fst x) ∧ R18.le (Prod.fst x) = R18.le (Prod.fst x) ∧ (0 : Nat) = (0 : Nat) ∧ Prod.fst (Prod.fst (Prod.snd x)) = Prod.fst (Prod.fst
  (Prod.snd x)) ∧ Prod.snd (Prod.fst (Prod.snd x)) = Prod.snd (Prod.fst (Prod.snd x)) ∧ (0 : Nat) = (0 : Nat) ∧ Prod.fst (Prod.snd (Prod.snd x)) = Prod.fst (Prod.snd (Prod.snd x)) ∧ Prod.snd (Prod.snd (Prod.snd x)) =
  Prod.snd (Prod.snd (Prod.snd x)) ∧ True ∧ (True → condX (decide (R18.ow (Prod.fst x) = (0 : Int))) (True ∧ (0 : Int) = R18.st (Prod.fst x) ∧ R18.nx (Prod.fst x) = R18.nx (Prod.fst x) ∧ R18.wa (Prod.fst x) = R18.wa
  (Prod.fst x) ∧ R18.ow (Prod.fst x) = R18.ow (Prod.fst x) ∧ R18.ot (Prod.fst x) = R18.ot (Prod.fst x) ∧ R18.ti (Prod.fst x) = R18.ti (Prod.fst x) ∧ R18.st (Prod.fst x) = R18.st (Prod.fst x) ∧ R18.le (Prod.fst x) = R18.le
  (Prod.fst x) ∧ (0 : Nat) = (0 : Nat) ∧ Prod.fst (Prod.fst (Prod.snd x)) = Prod.fst (Prod.fst (Prod.snd x)) ∧ Prod.snd (Prod.fst (Prod.snd x)) = Prod.snd (Prod.fst (Prod.snd x)) ∧ (0 : Nat) = (0 : Nat) ∧ Prod.fst
  (Prod.snd (Prod.snd x)) = Prod.fst (Prod.snd (Prod.snd x)) ∧ Prod.snd (Prod.snd (Prod.snd x)) = Prod.snd (Prod.snd (Prod.snd x)) ∧ True ∨ False) (True ∧ R18.st (Prod.fst x) = R18.st (Prod.fst x) ∧ R18.nx (Prod.fst x) =
  R18.nx (Prod.fst x) ∧ R18.wa (Prod.fst x) = R18.wa (Prod.fst x) ∧ R18.ow (Prod.fst x) = R18.ow (Prod.fst x) ∧ R18.ot (Prod.fst x) = R18.ot (Prod.fst x) ∧ R18.ti (Prod.fst x) = R18.ti (Prod.fst x) ∧ R18.st (Prod.fst x) =
  R18.st (Prod.fst x) ∧ R18.le (Prod.fst x) = R18.le (Prod.fst x) ∧ (0 : Nat) = (0 : Nat) ∧ Prod.fst (Prod.fst (Prod.snd x)) = Prod.fst (Prod.fst (Prod.snd x)) ∧ Prod.snd (Prod.fst (Prod.snd x)) = Prod.snd (Prod.fst
  (Prod.snd x)) ∧ (0 : Nat) = (0 : Nat) ∧ Prod.fst (Prod.snd (Prod.snd x)) = Prod.fst (Prod.snd (Prod.snd x)) ∧ Prod.snd (Prod.snd (Prod.snd x)) = Prod.snd (Prod.snd (Prod.snd x)) ∧ True ∨ False))
theorem vcState18E : VcState18 = (∀ (x : N18), pre18 x → fnX (cx_State18 x) (bodyOf Try.f19) Try.f19.results.toList (C_State18.args x) (C_State18.H x) (endX 3 (C_State18.outs x))) := by kernel_rfl
set_option maxHeartbeats 4000000 in
theorem vcState18 : VcState18 := by
  rintro ⟨r, k, a⟩ h3
  have h3 : r.ow ≠ 0 := h3
  simp only [eq_self, true_and, and_true, Nat.le_refl, Int.le_refl, implies_true, forall_const, and_false, false_and, exists_false, false_or, or_false, true_implies, Nat.zero_add, and_self, Int.toNat_natCast, cond_true, cond_false, h3, condT, condF]
  exact (condX_iff _ _ _).2 ⟨fun c => absurd (of_decide_eq_true c) id, fun _ => trivial⟩
theorem vcState18K : ∀ (x : N18), pre18 x → Held (fnX (cx_State18 x) (bodyOf Try.f19) Try.f19.results.toList (C_State18.args x) (C_State18.H x) (endX 3 (C_State18.outs x))) := held2 vcState18E vcState18
def C_Kept18 : Ctr := ⟨3, N18, fun _ => [.ptr 0 0 0 0], fun x => N18.H x, pre18, fun x => [.one True (.g (.int .i64 x.2.1.1)) (N18.H x)]⟩
def cx_Kept18 (_ : N18) : Cx := ⟨ty, ΓOf Γm, fun _ => [], fun _ _ => [], 10, 3⟩
def VcKept18 : Prop := ∀ (x : N18), pre18 x → (0 : Nat) = (0 : Nat) ∧ R18.nx (Prod.fst x) = R18.nx (Prod.fst x) ∧ R18.wa (Prod.fst x) = R18.wa (Prod.fst x) ∧ R18.ow (Prod.fst x) = R18.ow (Prod.fst x) ∧ R18.ot (Prod.fst x) = R18.ot (Prod.fst x)
  ∧ R18.ti (Prod.fst x) = R18.ti (Prod.fst x) ∧ R18.st (Prod.fst x) = R18.st (Prod.fst x) ∧ R18.le (Prod.fst x) = R18.le (Prod.fst x) ∧ (0 : Nat) = (0 : Nat) ∧ Prod.fst (Prod.fst (Prod.snd x)) = Prod.fst (Prod.fst
  (Prod.snd x)) ∧ Prod.snd (Prod.fst (Prod.snd x)) = Prod.snd (Prod.fst (Prod.snd x)) ∧ (0 : Nat) = (0 : Nat) ∧ Prod.fst (Prod.snd (Prod.snd x)) = Prod.fst (Prod.snd (Prod.snd x)) ∧ Prod.snd (Prod.snd (Prod.snd x)) =
  Prod.snd (Prod.snd (Prod.snd x)) ∧ True ∧ (True → condX (decide (R18.ow (Prod.fst x) = (0 : Int))) (True ∧ (0 : Int) = (↑(Prod.fst (Prod.fst (Prod.snd x))) : Int) ∧ R18.nx (Prod.fst x) = R18.nx (Prod.fst x) ∧ R18.wa
  (Prod.fst x) = R18.wa (Prod.fst x) ∧ R18.ow (Prod.fst x) = R18.ow (Prod.fst x) ∧ R18.ot (Prod.fst x) = R18.ot (Prod.fst x) ∧ R18.ti (Prod.fst x) = R18.ti (Prod.fst x) ∧ R18.st (Prod.fst x) = R18.st (Prod.fst x) ∧ R18.le
  (Prod.fst x) = R18.le (Prod.fst x) ∧ (0 : Nat) = (0 : Nat) ∧ Prod.fst (Prod.fst (Prod.snd x)) = Prod.fst (Prod.fst (Prod.snd x)) ∧ Prod.snd (Prod.fst (Prod.snd x)) = Prod.snd (Prod.fst (Prod.snd x)) ∧ (0 : Nat) = (0 :
  Nat) ∧ Prod.fst (Prod.snd (Prod.snd x)) = Prod.fst (Prod.snd (Prod.snd x)) ∧ Prod.snd (Prod.snd (Prod.snd x)) = Prod.snd (Prod.snd (Prod.snd x)) ∧ True ∨ False) (True ∧ (↑(Prod.fst (Prod.fst (Prod.snd x))) : Int) =
  (↑(Prod.fst (Prod.fst (Prod.snd x))) : Int) ∧ R18.nx (Prod.fst x) = R18.nx (Prod.fst x) ∧ R18.wa (Prod.fst x) = R18.wa (Prod.fst x) ∧ R18.ow (Prod.fst x) = R18.ow (Prod.fst x) ∧ R18.ot (Prod.fst x) = R18.ot (Prod.fst x)
  ∧ R18.ti (Prod.fst x) = R18.ti (Prod.fst x) ∧ R18.st (Prod.fst x) = R18.st (Prod.fst x) ∧ R18.le (Prod.fst x) = R18.le (Prod.fst x) ∧ (0 : Nat) = (0 : Nat) ∧ Prod.fst (Prod.fst (Prod.snd x)) = Prod.fst (Prod.fst
  (Prod.snd x)) ∧ Prod.snd (Prod.fst (Prod.snd x)) = Prod.snd (Prod.fst (Prod.snd x)) ∧ (0 : Nat) = (0 : Nat) ∧ Prod.fst (Prod.snd (Prod.snd x)) = Prod.fst (Prod.snd (Prod.snd x)) ∧ Prod.snd (Prod.snd (Prod.snd x)) =
  Prod.snd (Prod.snd (Prod.snd x)) ∧ True ∨ False))
theorem vcKept18E : VcKept18 = (∀ (x : N18), pre18 x → fnX (cx_Kept18 x) (bodyOf Try.f11) Try.f11.results.toList (C_Kept18.args x) (C_Kept18.H x) (endX 3 (C_Kept18.outs x))) := by kernel_rfl
set_option maxHeartbeats 4000000 in
theorem vcKept18 : VcKept18 := by
  rintro ⟨r, k, a⟩ h3
  have h3 : r.ow ≠ 0 := h3
  simp only [eq_self, true_and, and_true, Nat.le_refl, Int.le_refl, implies_true, forall_const, and_false, false_and, exists_false, false_or, or_false, true_implies, Nat.zero_add, and_self, Int.toNat_natCast, cond_true, cond_false, h3, condT, condF]
  exact (condX_iff _ _ _).2 ⟨fun c => absurd (of_decide_eq_true c) id, fun _ => trivial⟩
theorem vcKept18K : ∀ (x : N18), pre18 x → Held (fnX (cx_Kept18 x) (bodyOf Try.f11) Try.f11.results.toList (C_Kept18.args x) (C_Kept18.H x) (endX 3 (C_Kept18.outs x))) := held2 vcKept18E vcKept18
def C_Numbers18 : Ctr := ⟨3, N18, fun _ => [.ptr 0 0 0 0], fun x => N18.H x, pre18, fun x => [.one True (.tup [.g (.int .i64 x.1.nx), .g (.int .i64 x.1.wa)]) (N18.H x)]⟩
def cx_Numbers18 (_ : N18) : Cx := ⟨ty, ΓOf Γm, fun _ => [], fun _ _ => [], 16, 3⟩
def VcNumbers18 : Prop := ∀ (x : N18), pre18 x → (0 : Nat) = (0 : Nat) ∧ R18.nx (Prod.fst x) = R18.nx (Prod.fst x) ∧ R18.wa (Prod.fst x) = R18.wa (Prod.fst x) ∧ R18.ow (Prod.fst x) = R18.ow (Prod.fst x) ∧ R18.ot (Prod.fst x) = R18.ot (Prod.fst x)
  ∧ R18.ti (Prod.fst x) = R18.ti (Prod.fst x) ∧ R18.st (Prod.fst x) = R18.st (Prod.fst x) ∧ R18.le (Prod.fst x) = R18.le (Prod.fst x) ∧ (0 : Nat) = (0 : Nat) ∧ Prod.fst (Prod.fst (Prod.snd x)) = Prod.fst (Prod.fst
  (Prod.snd x)) ∧ Prod.snd (Prod.fst (Prod.snd x)) = Prod.snd (Prod.fst (Prod.snd x)) ∧ (0 : Nat) = (0 : Nat) ∧ Prod.fst (Prod.snd (Prod.snd x)) = Prod.fst (Prod.snd (Prod.snd x)) ∧ Prod.snd (Prod.snd (Prod.snd x)) =
  Prod.snd (Prod.snd (Prod.snd x)) ∧ True ∧ (True → condX (decide (R18.ow (Prod.fst x) = (0 : Int))) (True ∧ (0 : Int) = R18.nx (Prod.fst x) ∧ (0 : Int) = R18.wa (Prod.fst x) ∧ R18.nx (Prod.fst x) = R18.nx (Prod.fst x) ∧
  R18.wa (Prod.fst x) = R18.wa (Prod.fst x) ∧ R18.ow (Prod.fst x) = R18.ow (Prod.fst x) ∧ R18.ot (Prod.fst x) = R18.ot (Prod.fst x) ∧ R18.ti (Prod.fst x) = R18.ti (Prod.fst x) ∧ R18.st (Prod.fst x) = R18.st (Prod.fst x) ∧
  R18.le (Prod.fst x) = R18.le (Prod.fst x) ∧ (0 : Nat) = (0 : Nat) ∧ Prod.fst (Prod.fst (Prod.snd x)) = Prod.fst (Prod.fst (Prod.snd x)) ∧ Prod.snd (Prod.fst (Prod.snd x)) = Prod.snd (Prod.fst (Prod.snd x)) ∧ (0 : Nat) =
  (0 : Nat) ∧ Prod.fst (Prod.snd (Prod.snd x)) = Prod.fst (Prod.snd (Prod.snd x)) ∧ Prod.snd (Prod.snd (Prod.snd x)) = Prod.snd (Prod.snd (Prod.snd x)) ∧ True ∨ False) (True ∧ R18.nx (Prod.fst x) = R18.nx (Prod.fst x) ∧
  R18.wa (Prod.fst x) = R18.wa (Prod.fst x) ∧ R18.nx (Prod.fst x) = R18.nx (Prod.fst x) ∧ R18.wa (Prod.fst x) = R18.wa (Prod.fst x) ∧ R18.ow (Prod.fst x) = R18.ow (Prod.fst x) ∧ R18.ot (Prod.fst x) = R18.ot (Prod.fst x) ∧
  R18.ti (Prod.fst x) = R18.ti (Prod.fst x) ∧ R18.st (Prod.fst x) = R18.st (Prod.fst x) ∧ R18.le (Prod.fst x) = R18.le (Prod.fst x) ∧ (0 : Nat) = (0 : Nat) ∧ Prod.fst (Prod.fst (Prod.snd x)) = Prod.fst (Prod.fst (Prod.snd
  x)) ∧ Prod.snd (Prod.fst (Prod.snd x)) = Prod.snd (Prod.fst (Prod.snd x)) ∧ (0 : Nat) = (0 : Nat) ∧ Prod.fst (Prod.snd (Prod.snd x)) = Prod.fst (Prod.snd (Prod.snd x)) ∧ Prod.snd (Prod.snd (Prod.snd x)) = Prod.snd
  (Prod.snd (Prod.snd x)) ∧ True ∨ False))
theorem vcNumbers18E : VcNumbers18 = (∀ (x : N18), pre18 x → fnX (cx_Numbers18 x) (bodyOf Try.f20) Try.f20.results.toList (C_Numbers18.args x) (C_Numbers18.H x) (endX 3 (C_Numbers18.outs x))) := by kernel_rfl
set_option maxHeartbeats 4000000 in
theorem vcNumbers18 : VcNumbers18 := by
  rintro ⟨r, k, a⟩ h3
  have h3 : r.ow ≠ 0 := h3
  simp only [eq_self, true_and, and_true, Nat.le_refl, Int.le_refl, implies_true, forall_const, and_false, false_and, exists_false, false_or, or_false, true_implies, Nat.zero_add, and_self, Int.toNat_natCast, cond_true, cond_false, h3, condT, condF]
  exact (condX_iff _ _ _).2 ⟨fun c => absurd (of_decide_eq_true c) id, fun _ => trivial⟩
theorem vcNumbers18K : ∀ (x : N18), pre18 x → Held (fnX (cx_Numbers18 x) (bodyOf Try.f20) Try.f20.results.toList (C_Numbers18.args x) (C_Numbers18.H x) (endX 3 (C_Numbers18.outs x))) := held2 vcNumbers18E vcNumbers18
def getN3 : List SV → Heap → Option (Int × Int × Int)
  | [.g (.int .i64 a), .g (.int .i64 b), .g (.int .i64 c)], _ => some (a, b, c)
  | _, _ => none
theorem ok_New18 : GenSound Try.prog Λ0 7 (callX C_New18 getN3) :=
  gen_of (ty := ty) (Γ := ΓOf Γm) hm tyOK Γm_ok (fnOK_of Try.func7 (by kernel_rfl) (by kernel_rfl)) Try.func7 (body_some (by kernel_rfl)) C_New18 getN3 Try.ntmps7 (fun _ => Nat.le_of_ble_eq_true rfl) (fun x => (cx_New18 x).cut) (fun x => (cx_New18 x).loop) fun x h => vcNew18K x h
theorem ok_State18 : GenSound Try.prog Λ0 19 (callX C_State18 getN) :=
  gen_of (ty := ty) (Γ := ΓOf Γm) hm tyOK Γm_ok (fnOK_of Try.func19 (by kernel_rfl) (by kernel_rfl)) Try.func19 (body_some (by kernel_rfl)) C_State18 getN Try.ntmps19 (fun _ => Nat.le_of_ble_eq_true rfl) (fun x => (cx_State18 x).cut) (fun x => (cx_State18 x).loop) fun x h => vcState18K x h
theorem ok_Kept18 : GenSound Try.prog Λ0 11 (callX C_Kept18 getN) :=
  gen_of (ty := ty) (Γ := ΓOf Γm) hm tyOK Γm_ok (fnOK_of Try.func11 (by kernel_rfl) (by kernel_rfl)) Try.func11 (body_some (by kernel_rfl)) C_Kept18 getN Try.ntmps11 (fun _ => Nat.le_of_ble_eq_true rfl) (fun x => (cx_Kept18 x).cut) (fun x => (cx_Kept18 x).loop) fun x h => vcKept18K x h
theorem ok_Numbers18 : GenSound Try.prog Λ0 20 (callX C_Numbers18 getN) :=
  gen_of (ty := ty) (Γ := ΓOf Γm) hm tyOK Γm_ok (fnOK_of Try.func20 (by kernel_rfl) (by kernel_rfl)) Try.func20 (body_some (by kernel_rfl)) C_Numbers18 getN Try.ntmps20 (fun _ => Nat.le_of_ble_eq_true rfl) (fun x => (cx_Numbers18 x).cut) (fun x => (cx_Numbers18 x).loop) fun x h => vcNumbers18K x h
def C_State0 : Ctr := ⟨0, Unit, fun _ => [.g (.pointer none)], fun _ => [], fun _ => True, fun _ => [.one True (.g (.int .i64 0)) []]⟩
def cx_State0 (_ : Unit) : Cx := ⟨ty, ΓOf Γa, fun _ => [], fun _ _ => [], 9, 0⟩
def VcState0 : Prop := ∀ (x : Unit), True → Value.pointer none = Value.pointer none ∧ True ∧ (True → True ∧ (0 : Int) = (0 : Int) ∧ True ∨ False)
theorem vcState0E : VcState0 = (∀ (x : Unit), True → fnX (cx_State0 x) (bodyOf Try.f19) Try.f19.results.toList (C_State0.args x) (C_State0.H x) (endX 0 (C_State0.outs x))) := by kernel_rfl
set_option maxHeartbeats 4000000 in
theorem vcState0 : VcState0 := by
  intro x _
  simp only [eq_self, true_and, and_true, Nat.le_refl, Int.le_refl, implies_true, forall_const, and_false, false_and, exists_false, false_or, or_false, true_implies, Nat.zero_add, and_self, Int.toNat_natCast, cond_true, cond_false, condT, condF]
theorem vcState0K : ∀ (x : Unit), True → Held (fnX (cx_State0 x) (bodyOf Try.f19) Try.f19.results.toList (C_State0.args x) (C_State0.H x) (endX 0 (C_State0.outs x))) := held2 vcState0E vcState0
theorem ok_State0 : GenSound Try.prog Λ0 19 (callX C_State0 get0) :=
  gen_of (ty := ty) (Γ := ΓOf Γa) hm tyOK Γa_ok (fnOK_of Try.func19 (by kernel_rfl) (by kernel_rfl)) Try.func19 (body_some (by kernel_rfl)) C_State0 get0 Try.ntmps19 (fun _ => Nat.le_of_ble_eq_true rfl) (fun x => (cx_State0 x).cut) (fun x => (cx_State0 x).loop) fun x h => vcState0K x h
def C_Kept0 : Ctr := ⟨0, Unit, fun _ => [.g (.pointer none)], fun _ => [], fun _ => True, fun _ => [.one True (.g (.int .i64 0)) []]⟩
def cx_Kept0 (_ : Unit) : Cx := ⟨ty, ΓOf Γa, fun _ => [], fun _ _ => [], 10, 0⟩
def VcKept0 : Prop := ∀ (x : Unit), True → Value.pointer none = Value.pointer none ∧ True ∧ (True → True ∧ (0 : Int) = (0 : Int) ∧ True ∨ False)
theorem vcKept0E : VcKept0 = (∀ (x : Unit), True → fnX (cx_Kept0 x) (bodyOf Try.f11) Try.f11.results.toList (C_Kept0.args x) (C_Kept0.H x) (endX 0 (C_Kept0.outs x))) := by kernel_rfl
set_option maxHeartbeats 4000000 in
theorem vcKept0 : VcKept0 := by
  intro x _
  simp only [eq_self, true_and, and_true, Nat.le_refl, Int.le_refl, implies_true, forall_const, and_false, false_and, exists_false, false_or, or_false, true_implies, Nat.zero_add, and_self, Int.toNat_natCast, cond_true, cond_false, condT, condF]
theorem vcKept0K : ∀ (x : Unit), True → Held (fnX (cx_Kept0 x) (bodyOf Try.f11) Try.f11.results.toList (C_Kept0.args x) (C_Kept0.H x) (endX 0 (C_Kept0.outs x))) := held2 vcKept0E vcKept0
theorem ok_Kept0 : GenSound Try.prog Λ0 11 (callX C_Kept0 get0) :=
  gen_of (ty := ty) (Γ := ΓOf Γa) hm tyOK Γa_ok (fnOK_of Try.func11 (by kernel_rfl) (by kernel_rfl)) Try.func11 (body_some (by kernel_rfl)) C_Kept0 get0 Try.ntmps11 (fun _ => Nat.le_of_ble_eq_true rfl) (fun x => (cx_Kept0 x).cut) (fun x => (cx_Kept0 x).loop) fun x h => vcKept0K x h
def C_Numbers0 : Ctr := ⟨0, Unit, fun _ => [.g (.pointer none)], fun _ => [], fun _ => True, fun _ => [.one True (.tup [.g (.int .i64 0), .g (.int .i64 0)]) []]⟩
def cx_Numbers0 (_ : Unit) : Cx := ⟨ty, ΓOf Γa, fun _ => [], fun _ _ => [], 16, 0⟩
def VcNumbers0 : Prop := ∀ (x : Unit), True → Value.pointer none = Value.pointer none ∧ True ∧ (True → True ∧ (0 : Int) = (0 : Int) ∧ (0 : Int) = (0 : Int) ∧ True ∨ False)
theorem vcNumbers0E : VcNumbers0 = (∀ (x : Unit), True → fnX (cx_Numbers0 x) (bodyOf Try.f20) Try.f20.results.toList (C_Numbers0.args x) (C_Numbers0.H x) (endX 0 (C_Numbers0.outs x))) := by kernel_rfl
set_option maxHeartbeats 4000000 in
theorem vcNumbers0 : VcNumbers0 := by
  intro x _
  simp only [eq_self, true_and, and_true, Nat.le_refl, Int.le_refl, implies_true, forall_const, and_false, false_and, exists_false, false_or, or_false, true_implies, Nat.zero_add, and_self, Int.toNat_natCast, cond_true, cond_false, condT, condF]
theorem vcNumbers0K : ∀ (x : Unit), True → Held (fnX (cx_Numbers0 x) (bodyOf Try.f20) Try.f20.results.toList (C_Numbers0.args x) (C_Numbers0.H x) (endX 0 (C_Numbers0.outs x))) := held2 vcNumbers0E vcNumbers0
theorem ok_Numbers0 : GenSound Try.prog Λ0 20 (callX C_Numbers0 get0) :=
  gen_of (ty := ty) (Γ := ΓOf Γa) hm tyOK Γa_ok (fnOK_of Try.func20 (by kernel_rfl) (by kernel_rfl)) Try.func20 (body_some (by kernel_rfl)) C_Numbers0 get0 Try.ntmps20 (fun _ => Nat.le_of_ble_eq_true rfl) (fun x => (cx_Numbers0 x).cut) (fun x => (cx_Numbers0 x).loop) fun x h => vcNumbers0K x h
def C_Copy0 : Ctr := ⟨0, Unit, fun _ => [.g (.pointer none)], fun _ => [], fun _ => True, fun _ => [.one True (.g (.pointer none)) []]⟩
def cx_Copy0 (_ : Unit) : Cx := ⟨ty, ΓOf Γa, fun _ => [], fun _ _ => [], 16, 0⟩
def VcCopy0 : Prop := ∀ (x : Unit), True → Value.pointer none = Value.pointer none ∧ True ∧ (True → True ∧ Value.pointer none = Value.pointer none ∧ True ∨ False)
theorem vcCopy0E : VcCopy0 = (∀ (x : Unit), True → fnX (cx_Copy0 x) (bodyOf Try.f18) Try.f18.results.toList (C_Copy0.args x) (C_Copy0.H x) (endX 0 (C_Copy0.outs x))) := by kernel_rfl
set_option maxHeartbeats 4000000 in
theorem vcCopy0 : VcCopy0 := by
  intro x _
  simp only [eq_self, true_and, and_true, Nat.le_refl, Int.le_refl, implies_true, forall_const, and_false, false_and, exists_false, false_or, or_false, true_implies, Nat.zero_add, and_self, Int.toNat_natCast, cond_true, cond_false, condT, condF]
theorem vcCopy0K : ∀ (x : Unit), True → Held (fnX (cx_Copy0 x) (bodyOf Try.f18) Try.f18.results.toList (C_Copy0.args x) (C_Copy0.H x) (endX 0 (C_Copy0.outs x))) := held2 vcCopy0E vcCopy0
theorem ok_Copy0 : GenSound Try.prog Λ0 18 (callX C_Copy0 get0) :=
  gen_of (ty := ty) (Γ := ΓOf Γa) hm tyOK Γa_ok (fnOK_of Try.func18 (by kernel_rfl) (by kernel_rfl)) Try.func18 (body_some (by kernel_rfl)) C_Copy0 get0 Try.ntmps18 (fun _ => Nat.le_of_ble_eq_true rfl) (fun x => (cx_Copy0 x).cut) (fun x => (cx_Copy0 x).loop) fun x h => vcCopy0K x h
def C_On0 : Ctr := ⟨0, Ev, fun e => [.g (.pointer none), .agg e.cells], fun _ => [], fun _ => True, fun _ => [.one True (.tup [.g (.slice none 0 0), .g (.int .i64 1)]) []]⟩
def cx_On0 (_ : Ev) : Cx := ⟨ty, ΓOf Γa, fun _ => [], fun _ _ => [], 99, 0⟩
def VcOn0 : Prop := ∀ (x : Ev), True → Value.pointer none = Value.pointer none ∧ True ∧ (True → True ∧ Value.slice none (0 : Nat) (0 : Nat) = Value.slice none (0 : Nat) (0 : Nat) ∧ (1 : Int) = (1 : Int) ∧ True ∨ False)
theorem vcOn0E : VcOn0 = (∀ (x : Ev), True → fnX (cx_On0 x) (bodyOf Try.f9) Try.f9.results.toList (C_On0.args x) (C_On0.H x) (endX 0 (C_On0.outs x))) := by kernel_rfl
set_option maxHeartbeats 4000000 in
theorem vcOn0 : VcOn0 := by
  intro x _
  simp only [eq_self, true_and, and_true, Nat.le_refl, Int.le_refl, implies_true, forall_const, and_false, false_and, exists_false, false_or, or_false, true_implies, Nat.zero_add, and_self, Int.toNat_natCast, cond_true, cond_false, condT, condF]
theorem vcOn0K : ∀ (x : Ev), True → Held (fnX (cx_On0 x) (bodyOf Try.f9) Try.f9.results.toList (C_On0.args x) (C_On0.H x) (endX 0 (C_On0.outs x))) := held2 vcOn0E vcOn0
def getE1 : List SV → Heap → Option Ev
  | [_, .agg cs], _ => eOf cs
  | _, _ => none
theorem ok_On0 : GenSound Try.prog Λ0 9 (callX C_On0 getE1) :=
  gen_of (ty := ty) (Γ := ΓOf Γa) hm tyOK Γa_ok (fnOK_of Try.func9 (by kernel_rfl) (by kernel_rfl)) Try.func9 (body_some (by kernel_rfl)) C_On0 getE1 Try.ntmps9 (fun _ => Nat.le_of_ble_eq_true rfl) (fun x => (cx_On0 x).cut) (fun x => (cx_On0 x).loop) fun x h => vcOn0K x h
def getNE (a : List SV) (H : Heap) : Option (N18 × Ev) := match a, getN a H with
  | [_, .agg cs], some s => match eOf cs with
    | some e => some (s, e)
    | none => none
  | _, _ => none
def C_Onz : Ctr := ⟨3, N18 × Ev, fun x => [.ptr 0 0 0 0, .agg x.2.cells], fun x => N18.H x.1, fun x => x.1.1.ow = 0, fun x => [.one True (.tup [.g (.slice none 0 0), .g (.int .i64 1)]) (N18.H x.1)]⟩
def cx_Onz (_ : N18 × Ev) : Cx := ⟨ty, ΓOf Γm, fun _ => [], fun _ _ => [], 99, 3⟩
def VcOnz : Prop := ∀ (x : N18 × Ev), R18.ow (Prod.fst (Prod.fst x)) = (0 : Int) → (0 : Nat) = (0 : Nat) ∧ R18.nx (Prod.fst (Prod.fst x)) = R18.nx (Prod.fst (Prod.fst x)) ∧ R18.wa (Prod.fst (Prod.fst x)) = R18.wa (Prod.fst (Prod.fst x)) ∧
  R18.ow (Prod.fst (Prod.fst x)) = R18.ow (Prod.fst (Prod.fst x)) ∧ R18.ot (Prod.fst (Prod.fst x)) = R18.ot (Prod.fst (Prod.fst x)) ∧ R18.ti (Prod.fst (Prod.fst x)) = R18.ti (Prod.fst (Prod.fst x)) ∧ R18.st (Prod.fst
  (Prod.fst x)) = R18.st (Prod.fst (Prod.fst x)) ∧ R18.le (Prod.fst (Prod.fst x)) = R18.le (Prod.fst (Prod.fst x)) ∧ (0 : Nat) = (0 : Nat) ∧ Prod.fst (Prod.fst (Prod.snd (Prod.fst x))) = Prod.fst (Prod.fst (Prod.snd
  (Prod.fst x))) ∧ Prod.snd (Prod.fst (Prod.snd (Prod.fst x))) = Prod.snd (Prod.fst (Prod.snd (Prod.fst x))) ∧ (0 : Nat) = (0 : Nat) ∧ Prod.fst (Prod.snd (Prod.snd (Prod.fst x))) = Prod.fst (Prod.snd (Prod.snd (Prod.fst
  x))) ∧ Prod.snd (Prod.snd (Prod.snd (Prod.fst x))) = Prod.snd (Prod.snd (Prod.snd (Prod.fst x))) ∧ True ∧ (True → condX (decide (R18.ow (Prod.fst (Prod.fst x)) = (0 : Int))) (True ∧ Value.slice none (0 : Nat) (0 : Nat) =
  Value.slice none (0 : Nat) (0 : Nat) ∧ (1 : Int) = (1 : Int) ∧ R18.nx (Prod.fst (Prod.fst x)) = R18.nx (Prod.fst (Prod.fst x)) ∧ R18.wa (Prod.fst (Prod.fst x)) = R18.wa (Prod.fst (Prod.fst x)) ∧ R18.ow (Prod.fst
  (Prod.fst x)) = R18.ow (Prod.fst (Prod.fst x)) ∧ R18.ot (Prod.fst (Prod.fst x)) = R18.ot (Prod.fst (Prod.fst x)) ∧ R18.ti (Prod.fst (Prod.fst x)) = R18.ti (Prod.fst (Prod.fst x)) ∧ R18.st (Prod.fst (Prod.fst x)) = R18.st
  (Prod.fst (Prod.fst x)) ∧ R18.le (Prod.fst (Prod.fst x)) = R18.le (Prod.fst (Prod.fst x)) ∧ (0 : Nat) = (0 : Nat) ∧ Prod.fst (Prod.fst (Prod.snd (Prod.fst x))) = Prod.fst (Prod.fst (Prod.snd (Prod.fst x))) ∧ Prod.snd
  (Prod.fst (Prod.snd (Prod.fst x))) = Prod.snd (Prod.fst (Prod.snd (Prod.fst x))) ∧ (0 : Nat) = (0 : Nat) ∧ Prod.fst (Prod.snd (Prod.snd (Prod.fst x))) = Prod.fst (Prod.snd (Prod.snd (Prod.fst x))) ∧ Prod.snd (Prod.snd
  (Prod.snd (Prod.fst x))) = Prod.snd (Prod.snd (Prod.snd (Prod.fst x))) ∧ True ∨ False) (condX (Ev.w (Prod.snd x) == (0 : Int)) False (condX (bif Ev.w (Prod.snd x) == (1 : Int) then Ev.k (Prod.snd x) == (0 : Int) else
  false) ([SV.g (Value.string (Ev.d (Prod.snd x)))] = [SV.g (Value.string (Ev.d (Prod.snd x)))] ∧ True ∧ condX (bif Prod.snd (Prod.snd (rdT (Ev.d (Prod.snd x)))) == (0 : Int) then U.to (Prod.fst (rdT (Ev.d (Prod.snd x))))
  == R18.ow (Prod.fst (Prod.fst x)) else false) False (True ∧ False ∨ False)) (condX (bif Ev.w (Prod.snd x) == (1 : Int) then Ev.k (Prod.snd x) == (1 : Int) else false) False (condX (bif Ev.w (Prod.snd x) == (2 : Int) then
  Ev.k (Prod.snd x) == (0 : Int) else false) (condX (R18.st (Prod.fst (Prod.fst x)) == (3 : Int)) (condX (IntKind.wrap IntKind.i64 (R18.le (Prod.fst (Prod.fst x)) - (1 : Int)) == (0 : Int)) (True ∧ False ∨ False) (True ∧
  False ∨ False)) (True ∧ False ∨ False)) (True ∧ False ∨ False))))))
theorem vcOnzE : VcOnz = (∀ (x : N18 × Ev), (x.1.1.ow = 0) → fnX (cx_Onz x) (bodyOf Try.f9) Try.f9.results.toList (C_Onz.args x) (C_Onz.H x) (endX 3 (C_Onz.outs x))) := by kernel_rfl
set_option maxHeartbeats 4000000 in
theorem vcOnz : VcOnz := by
  rintro ⟨⟨r, k, a⟩, e⟩ h3
  have h3 : r.ow = 0 := h3
  simp only [eq_self, true_and, and_true, Nat.le_refl, Int.le_refl, implies_true, forall_const, and_false, false_and, exists_false, false_or, or_false, true_implies, Nat.zero_add, and_self, Int.toNat_natCast, cond_true, cond_false, condT, condF]
  exact (condX_iff _ _ _).2 ⟨fun c => trivial, fun c => absurd h3 (of_decide_eq_false c)⟩
theorem vcOnzK : ∀ (x : N18 × Ev), (x.1.1.ow = 0) → Held (fnX (cx_Onz x) (bodyOf Try.f9) Try.f9.results.toList (C_Onz.args x) (C_Onz.H x) (endX 3 (C_Onz.outs x))) := held2 vcOnzE vcOnz
theorem ok_Onz : GenSound Try.prog Λ0 9 (callX C_Onz getNE) :=
  gen_of (ty := ty) (Γ := ΓOf Γm) hm tyOK Γm_ok (fnOK_of Try.func9 (by kernel_rfl) (by kernel_rfl)) Try.func9 (body_some (by kernel_rfl)) C_Onz getNE Try.ntmps9 (fun _ => Nat.le_of_ble_eq_true rfl) (fun x => (cx_Onz x).cut) (fun x => (cx_Onz x).loop) fun x h => vcOnzK x h
def C_Copyz : Ctr := ⟨3, N18, fun _ => [.ptr 0 0 0 0], fun x => N18.H x, fun x => x.1.ow = 0, fun x => [.one True (.g (.pointer none)) (N18.H x)]⟩
def cx_Copyz (_ : N18) : Cx := ⟨ty, ΓOf Γm, fun _ => [], fun _ _ => [], 16, 3⟩
def VcCopyz : Prop := ∀ (x : N18), R18.ow (Prod.fst x) = (0 : Int) → (0 : Nat) = (0 : Nat) ∧ R18.nx (Prod.fst x) = R18.nx (Prod.fst x) ∧ R18.wa (Prod.fst x) = R18.wa (Prod.fst x) ∧ R18.ow (Prod.fst x) = R18.ow (Prod.fst x) ∧ R18.ot (Prod.fst
  x) = R18.ot (Prod.fst x) ∧ R18.ti (Prod.fst x) = R18.ti (Prod.fst x) ∧ R18.st (Prod.fst x) = R18.st (Prod.fst x) ∧ R18.le (Prod.fst x) = R18.le (Prod.fst x) ∧ (0 : Nat) = (0 : Nat) ∧ Prod.fst (Prod.fst (Prod.snd x)) =
  Prod.fst (Prod.fst (Prod.snd x)) ∧ Prod.snd (Prod.fst (Prod.snd x)) = Prod.snd (Prod.fst (Prod.snd x)) ∧ (0 : Nat) = (0 : Nat) ∧ Prod.fst (Prod.snd (Prod.snd x)) = Prod.fst (Prod.snd (Prod.snd x)) ∧ Prod.snd (Prod.snd
  (Prod.snd x)) = Prod.snd (Prod.snd (Prod.snd x)) ∧ True ∧ (True → condX (decide (R18.ow (Prod.fst x) = (0 : Int))) (True ∧ Value.pointer none = Value.pointer none ∧ R18.nx (Prod.fst x) = R18.nx (Prod.fst x) ∧ R18.wa
  (Prod.fst x) = R18.wa (Prod.fst x) ∧ R18.ow (Prod.fst x) = R18.ow (Prod.fst x) ∧ R18.ot (Prod.fst x) = R18.ot (Prod.fst x) ∧ R18.ti (Prod.fst x) = R18.ti (Prod.fst x) ∧ R18.st (Prod.fst x) = R18.st (Prod.fst x) ∧ R18.le
  (Prod.fst x) = R18.le (Prod.fst x) ∧ (0 : Nat) = (0 : Nat) ∧ Prod.fst (Prod.fst (Prod.snd x)) = Prod.fst (Prod.fst (Prod.snd x)) ∧ Prod.snd (Prod.fst (Prod.snd x)) = Prod.snd (Prod.fst (Prod.snd x)) ∧ (0 : Nat) = (0 :
  Nat) ∧ Prod.fst (Prod.snd (Prod.snd x)) = Prod.fst (Prod.snd (Prod.snd x)) ∧ Prod.snd (Prod.snd (Prod.snd x)) = Prod.snd (Prod.snd (Prod.snd x)) ∧ True ∨ False) False)
theorem vcCopyzE : VcCopyz = (∀ (x : N18), (x.1.ow = 0) → fnX (cx_Copyz x) (bodyOf Try.f18) Try.f18.results.toList (C_Copyz.args x) (C_Copyz.H x) (endX 3 (C_Copyz.outs x))) := by kernel_rfl
set_option maxHeartbeats 4000000 in
theorem vcCopyz : VcCopyz := by
  rintro ⟨r, k, a⟩ h3
  have h3 : r.ow = 0 := h3
  simp only [eq_self, true_and, and_true, Nat.le_refl, Int.le_refl, implies_true, forall_const, and_false, false_and, exists_false, false_or, or_false, true_implies, Nat.zero_add, and_self, Int.toNat_natCast, cond_true, cond_false, condT, condF]
  exact (condX_iff _ _ _).2 ⟨fun c => trivial, fun c => absurd h3 (of_decide_eq_false c)⟩
theorem vcCopyzK : ∀ (x : N18), (x.1.ow = 0) → Held (fnX (cx_Copyz x) (bodyOf Try.f18) Try.f18.results.toList (C_Copyz.args x) (C_Copyz.H x) (endX 3 (C_Copyz.outs x))) := held2 vcCopyzE vcCopyz
theorem ok_Copyz : GenSound Try.prog Λ0 18 (callX C_Copyz getN) :=
  gen_of (ty := ty) (Γ := ΓOf Γm) hm tyOK Γm_ok (fnOK_of Try.func18 (by kernel_rfl) (by kernel_rfl)) Try.func18 (body_some (by kernel_rfl)) C_Copyz getN Try.ntmps18 (fun _ => Nat.le_of_ble_eq_true rfl) (fun x => (cx_Copyz x).cut) (fun x => (cx_Copyz x).loop) fun x h => vcCopyzK x h
end Go.Proofs.Ytghbejmnnfoamaa
