/- Chapter 18: what a nil side, and a zero one, tells. -/
import Derived.Test.YtghbejmnnfoamaaRe
set_option linter.unusedVariables false
set_option linter.unusedSimpArgs false
namespace Go.Proofs.Ytghbejmnnfoamaa
open Go Go.Eng
attribute [local irreducible] condX
def X_sane18 : XC := ⟨Unit, fun | [] => some () | _ => none, fun _ => [], fun _ => True, fun _ => .g (.bool true)⟩
theorem vcSane18aK : ∀ x : Unit, True → Held (fnX cx_sane18 (bodyOf Try.f13) Try.f13.results.toList [] [] (fun r _ => r = .g (.bool true))) := fun _ _ => vcSane18K
def cx_sane18u (_ : Unit) : Cx := cx_sane18
theorem ok_sane18 : ExactSound Try.prog 13 X_sane18.rule :=
  exact_rule (ty := ty) (Γ := ΓOf Γx) hm tyOK Γx_ok (fnOK_of Try.func13 (by kernel_rfl) (by kernel_rfl)) Try.func13 (body_some (by kernel_rfl)) X_sane18 Try.ntmps13 (fun _ => Nat.le_of_ble_eq_true rfl) (fun _ => rfl) (fun x => rfl) (fun x => (cx_sane18u x).cut) (fun x => (cx_sane18u x).loop) fun x h => vcSane18aK x h
def wtState (a : List SV) (H : Heap) (n : Nat) (K : SV → Heap → Prop) : Prop := match selN a H with
  | true => callX C_State0 get0 a H n K
  | false => callX C_State18 getN a H n K
theorem ok_StateA : GenSound Try.prog 19 wtState := gen_sel selN ok_State0 ok_State18
def wtKept (a : List SV) (H : Heap) (n : Nat) (K : SV → Heap → Prop) : Prop := match selN a H with
  | true => callX C_Kept0 get0 a H n K
  | false => callX C_Kept18 getN a H n K
theorem ok_KeptA : GenSound Try.prog 11 wtKept := gen_sel selN ok_Kept0 ok_Kept18
def wtNumbers (a : List SV) (H : Heap) (n : Nat) (K : SV → Heap → Prop) : Prop := match selN a H with
  | true => callX C_Numbers0 get0 a H n K
  | false => callX C_Numbers18 getN a H n K
theorem ok_NumbersA : GenSound Try.prog 20 wtNumbers := gen_sel selN ok_Numbers0 ok_Numbers18
def wtCopy0 (a : List SV) (H : Heap) (n : Nat) (K : SV → Heap → Prop) : Prop := match selN a H with
  | true => callX C_Copy0 get0 a H n K
  | false => callX C_Copyz getN a H n K
theorem ok_Copy0A : GenSound Try.prog 18 wtCopy0 := gen_sel selN ok_Copy0 ok_Copyz
def Γy : List (Nat × Rule) := (19, .gen wtState) :: (11, .gen wtKept) :: (20, .gen wtNumbers) :: (18, .gen wtCopy0) :: (13, .exact X_sane18.rule) :: Γx
theorem Γy_ok : ΓOK Try.prog (ΓOf Γy) := ΓOf_cons ok_StateA (ΓOf_cons ok_KeptA (ΓOf_cons ok_NumbersA (ΓOf_cons ok_Copy0A (ΓOf_cons ok_sane18 Γx_ok))))
def VcResumeNil : Prop := ∀ (e : Ev), Value.pointer none = Value.pointer none ∧ Ev.w e = Ev.w e ∧ Ev.k e = Ev.k e ∧ Ev.a e = Ev.a e ∧ Ev.b e = Ev.b e ∧ Ev.c e = Ev.c e ∧ Ev.d e = Ev.d e ∧ True ∧ (True → (0 : Nat) = (0 : Nat) ∧ Ev.w e = Ev.w e ∧
  Ev.k e = Ev.k e ∧ Ev.a e = Ev.a e ∧ Ev.b e = Ev.b e ∧ Ev.c e = Ev.c e ∧ Ev.d e = Ev.d e ∧ (0 : Int) = (0 : Int) ∧ (0 : Int) = (0 : Int) ∧ (0 : Int) = (0 : Int) ∧ (0 : Int) = (0 : Int) ∧ (0 : Int) = (0 : Int) ∧ (0 : Int)
  = (0 : Int) ∧ (0 : Int) = (0 : Int) ∧ (0 : Nat) = (0 : Nat) ∧ (0 : Nat) = (0 : Nat) ∧ (0 : Nat) = (0 : Nat) ∧ (0 : Nat) = (0 : Nat) ∧ (0 : Int) = (0 : Int) ∧ (True → Value.pointer none = Value.pointer none ∧ True ∧ (True
  → Value.pointer none = Value.pointer none ∧ True ∧ (True → Value.pointer none = Value.pointer none ∧ True ∧ (True → Value.pointer none = Value.pointer none ∧ True ∧ (True → (0 : Nat) = (0 : Nat) ∧ (0 : Int) = (0 : Int) ∧
  (0 : Int) = (0 : Int) ∧ (0 : Int) = (0 : Int) ∧ (0 : Int) = (0 : Int) ∧ (0 : Int) = (0 : Int) ∧ (0 : Int) = (0 : Int) ∧ (0 : Int) = (0 : Int) ∧ (0 : Nat) = (0 : Nat) ∧ (0 : Nat) = (0 : Nat) ∧ (0 : Nat) = (0 : Nat) ∧ (0 :
  Nat) = (0 : Nat) ∧ (0 : Int) = (0 : Int) ∧ (True → (true = true → True) ∧ SV.g (Value.bool true) = SV.g (Value.bool true))))))))
theorem vcResumeNilE : VcResumeNil = (∀ (e : Ev), fnX ⟨ty, ΓOf Γy, fun _ => [], fun _ _ => [], 65, 1⟩ (bodyOf Try.f6) Try.f6.results.toList [.agg e.cells] [] (fun r _ => r = .g (.bool true))) := by kernel_rfl
set_option maxHeartbeats 4000000 in
theorem vcResumeNil : VcResumeNil := by
  intro e
  simp only [eq_self, true_and, and_true, Nat.le_refl, Int.le_refl, implies_true, forall_const, and_false, false_and, exists_false, false_or, or_false, true_implies, Nat.zero_add, and_self, Int.toNat_natCast, cond_true, cond_false, condT, condF]
theorem vcResumeNilK : ∀ (e : Ev), Held (fnX ⟨ty, ΓOf Γy, fun _ => [], fun _ _ => [], 65, 1⟩ (bodyOf Try.f6) Try.f6.results.toList [.agg e.cells] [] (fun r _ => r = .g (.bool true))) := held1 (p := fun (e : Ev) => fnX ⟨ty, ΓOf Γy, fun _ => [], fun _ _ => [], 65, 1⟩ (bodyOf Try.f6) Try.f6.results.toList [.agg e.cells] [] (fun r _ => r = .g (.bool true))) vcResumeNilE vcResumeNil
def Ev.vals (e : Ev) : List Value := [.int .i64 e.w, .int .i64 e.k, .int .i64 e.a, .int .i64 e.b, .int .i64 e.c, .string e.d]
def ksE : List LK := [.int .i64, .int .i64, .int .i64, .int .i64, .int .i64, .str]
theorem leafs_event {cs : List Value} (h : LeafsOK ksE cs) : ∃ e : Ev, cs = e.vals := by
  obtain ⟨a1, cs1, e1, _, h1⟩ := leafs_int h
  obtain ⟨a2, cs2, e2, _, h2⟩ := leafs_int h1
  obtain ⟨a3, cs3, e3, _, h3⟩ := leafs_int h2
  obtain ⟨a4, cs4, e4, _, h4⟩ := leafs_int h3
  obtain ⟨a5, cs5, e5, _, h5⟩ := leafs_int h4
  obtain ⟨a6, cs6, e6, _, h6⟩ := leafs_str h5
  have e7 := leafs_nil h6
  subst e7 e6 e5 e4 e3 e2 e1
  exact ⟨⟨a1, a2, a3, a4, a5, a6⟩, rfl⟩
theorem pv_event {pts : List PT} {pvs : List PV} (h : PVsOK (.flat ksE true :: pts) pvs) : ∃ (e : Ev) (pvs' : List PV), pvs = .flat e.vals true :: pvs' ∧ PVsOK pts pvs' := by
  obtain ⟨cs, pvs', rfl, h1, h2⟩ := pvs_flat h
  obtain ⟨e, rfl⟩ := leafs_event h1
  exact ⟨e, pvs', rfl, h2⟩
theorem kResumeNil : ∀ pvs, PVsOK [.flat ksE true] pvs → Held (fnX ⟨ty, ΓOf Γy, fun _ => [], fun _ _ => [], 65, 1⟩ (bodyOf Try.f6) Try.f6.results.toList (svs 0 pvs) (heaps 0 pvs) (fun r _ => r = .g (.bool true))) := by
  intro pvs h
  obtain ⟨e, pvs, rfl, h2⟩ := pv_event h
  obtain rfl := pvs_nil h2
  exact vcResumeNilK e
end Go.Proofs.Ytghbejmnnfoamaa
namespace Go.Proofs.Ytghbejmnnfoamaa.resumeNil
open Go.ChangeShapes Go.WideShapes Go.RowKit Go.Eng
theorem own : ownKnob Try.prog.godebug = none := by kernel_rfl
theorem laidOut : laidOutB Try.prog = true := by kernel_rfl
theorem spec_fn {H : Type} (ds : List (DataW H)) (h : ds.length = 1) : Rows.resumeNilSpec.fn H ds = { results := [.lit (.bool true)], args := ds } := by
  rcases ds with _ | ⟨d0, _ | _⟩ <;> first | rfl | (simp at h)
set_option maxRecDepth 100000 in
theorem lifted (os : Os) (started : os.Started) (H : Type) (enc : TypeId × Value → H) :
    ReturnsInHanded {} Try.checked os 6 .any (Rows.resumeNilSpec.pre6 enc Try.prog Try.f6 Rows.resumeNilRow.domain false) (Rows.resumeNilSpec.post enc Try.prog Try.f6 false true false false) :=
  law_of (C := Try.checked) (ty := ty) (Γ := ΓOf Γy) started own laidOut hm tyOK Γy_ok (by kernel_rfl) Try.func6 (body_some (by kernel_rfl)) Try.ntmps6 (s := Rows.resumeNilSpec)
    (ChangeSpec.witness6 (enc := enc) (C := Try.checked) false ⟨#[], #[.agg #[.int .i64 0, .int .i64 0, .int .i64 0, .int .i64 0, .int .i64 0, .string ByteArray.empty]], []⟩ 8 (by kernel_rfl) (by kernel_rfl) (by kernel_rfl) (by kernel_rfl))
    (pts := [.flat ksE true]) (by kernel_rfl) (Nat.le_of_ble_eq_true rfl) (by kernel_rfl) (by kernel_rfl) Try.underlying4 rfl spec_fn _ _ kResumeNil
theorem over : Rows.resumeNilRow.holds Try.pinned (OpenSpec.ofChange Rows.resumeNilSpec) :=
  OpenClaim.holds_of_wide 6 Try.f6 rfl rfl rfl rfl rfl rfl rfl ⟨rfl, rfl, rfl, rfl, rfl⟩ rfl rfl rfl rfl rfl (by kernel_rfl) Try.func6 (by kernel_rfl)
    (of_decide_eq_true (by kernel_rfl)) (by unfold Func.isWrapper; first | (rw [if_pos (by decide +kernel)]; kernel_rfl) | (rw [if_neg (by decide +kernel)]; exact ⟨rfl, rfl⟩))
    (fun os started H enc _ => lifted os started H enc)
end Go.Proofs.Ytghbejmnnfoamaa.resumeNil
namespace Go.Proofs.Ytghbejmnnfoamaa
theorem resumeNil_holds : Rows.ResumeNilSaid := resumeNil.over
#print axioms resumeNil_holds
end Go.Proofs.Ytghbejmnnfoamaa
