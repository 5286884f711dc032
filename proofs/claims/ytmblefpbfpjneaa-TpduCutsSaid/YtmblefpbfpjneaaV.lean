/- Chapter 15: the law TpduCuts: Cut of the program answers as Cut of the document, of every message and size, and Join of the pieces is the message, wherever other messages stand around it. -/
import Derived.Test.YtmblefpbfpjneaaS
import Derived.Test.YtmblefpbfpjneaaEngLw
import Derived.Test.YtmblefpbfpjneaaRows
set_option linter.unusedVariables false
set_option linter.unusedSimpArgs false
namespace Go.Proofs.Ytmblefpbfpjneaa
open Go Go.Eng
attribute [local irreducible] condX
theorem pv_str0 {pts : List PT} {pvs : List PV} (h : PVsOK (.flat [.str] false :: pts) pvs) : ∃ (b : ByteArray) (pvs' : List PV), pvs = .flat [.string b] false :: pvs' ∧ PVsOK pts pvs' ∧ b.size ≤ maxLen := by
  obtain ⟨cs, pvs', rfl, h1, h2⟩ := pvs_flat h
  obtain ⟨b, cs', rfl, hw, h3⟩ := leafs_str h1
  obtain rfl := leafs_nil h3
  exact ⟨b, pvs', rfl, h2, hw⟩
theorem pv_int0 {pts : List PT} {pvs : List PV} (h : PVsOK (.flat [.int .i64] false :: pts) pvs) : ∃ (n : Int) (pvs' : List PV), pvs = .flat [.int .i64 n] false :: pvs' ∧ PVsOK pts pvs' ∧ (Lit.int .i64 n).wf = true := by
  obtain ⟨cs, pvs', rfl, h1, h2⟩ := pvs_flat h
  obtain ⟨b, cs', rfl, hw, h3⟩ := leafs_int h1
  obtain rfl := leafs_nil h3
  exact ⟨b, pvs', rfl, h2, hw⟩
theorem kTpduCuts : ∀ pvs, PVsOK [.flat [.str] false, .flat [.str] false, .flat [.int .i64] false] pvs → Held (fnX ⟨ty, ΓOf Γl, fun _ => [], fun _ _ => [], 111, 3⟩ (bodyOf Try.f5) Try.f5.results.toList (svs 0 pvs) (heaps 0 pvs) (fun r _ => r = .g (.bool true))) := by
  intro pvs h
  obtain ⟨b, pvs, rfl, h, _⟩ := pv_str0 h
  obtain ⟨c, pvs, rfl, h, _⟩ := pv_str0 h
  obtain ⟨n, pvs, rfl, h, _⟩ := pv_int0 h
  obtain rfl := pvs_nil h
  exact vcTpduCutsK b c n
end Go.Proofs.Ytmblefpbfpjneaa
namespace Go.Proofs.Ytmblefpbfpjneaa.tpduCuts
open Go.ChangeShapes Go.WideShapes Go.RowKit Go.Eng
theorem own : ownKnob Try.prog.godebug = none := by kernel_rfl
theorem laidOut : laidOutB Try.prog = true := by kernel_rfl
theorem spec_fn {H : Type} (ds : List (DataW H)) (h : ds.length = 3) : Rows.tpduCutsSpec.fn H ds = { results := [.lit (.bool true)], args := ds } := by
  rcases ds with _ | ⟨d0, _ | ⟨d1, _ | ⟨d2, _ | _⟩⟩⟩ <;> first | rfl | (simp at h)
set_option maxRecDepth 100000 in
theorem lifted (os : Os) (started : os.Started) (H : Type) (enc : TypeId × Value → H) :
    ReturnsInHanded {} Try.checked os 5 .any (Rows.tpduCutsSpec.pre6 enc Try.prog Try.f5 Rows.tpduCutsRow.domain false) (Rows.tpduCutsSpec.post enc Try.prog Try.f5 false true false false) :=
  law_of (C := Try.checked) (ty := ty) (Γ := ΓOf Γl) started own laidOut hm tyOK Γl_ok (by kernel_rfl) Try.func5 (body_some (by kernel_rfl)) Try.ntmps5 (s := Rows.tpduCutsSpec)
    (ChangeSpec.witness6 (enc := enc) (C := Try.checked) false ⟨#[], #[.string ByteArray.empty, .string ByteArray.empty, .int .i64 0], []⟩ 8 (by kernel_rfl) (by kernel_rfl) (by kernel_rfl) (by kernel_rfl))
    (pts := [.flat [.str] false, .flat [.str] false, .flat [.int .i64] false]) (by kernel_rfl) (Nat.le_of_ble_eq_true rfl) (by kernel_rfl) (by kernel_rfl) Try.underlying4 rfl spec_fn _ _ kTpduCuts
theorem over : Rows.tpduCutsRow.holds Try.pinned (OpenSpec.ofChange Rows.tpduCutsSpec) :=
  OpenClaim.holds_of_wide 5 Try.f5 rfl rfl rfl rfl rfl rfl rfl ⟨rfl, rfl, rfl, rfl, rfl⟩ rfl rfl rfl rfl rfl (by kernel_rfl) Try.func5 (by kernel_rfl)
    (of_decide_eq_true (by kernel_rfl)) (by unfold Func.isWrapper; first | (rw [if_pos (by decide +kernel)]; kernel_rfl) | (rw [if_neg (by decide +kernel)]; exact ⟨rfl, rfl⟩))
    (fun os started H enc _ => lifted os started H enc)
end Go.Proofs.Ytmblefpbfpjneaa.tpduCuts
namespace Go.Proofs.Ytmblefpbfpjneaa
theorem tpduCuts_holds : Rows.TpduCutsSaid := tpduCuts.over
#print axioms tpduCuts_holds
end Go.Proofs.Ytmblefpbfpjneaa
