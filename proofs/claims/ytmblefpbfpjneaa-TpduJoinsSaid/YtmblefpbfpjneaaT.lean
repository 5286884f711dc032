/- Chapter 15: the law TpduJoins: Join of the program answers as Join of the document, of every list of units, which stay as they are. -/
import Derived.Test.YtmblefpbfpjneaaQ
import Derived.Test.YtmblefpbfpjneaaEngLw
import Derived.Test.YtmblefpbfpjneaaRows
set_option linter.unusedVariables false
set_option linter.unusedSimpArgs false
namespace Go.Proofs.Ytmblefpbfpjneaa
open Go Go.Eng
attribute [local irreducible] condX
/-- A list of units that came in. -/
theorem kTpduJoins : ∀ pvs, PVsOK [.slice ksU] pvs → Held (fnX ⟨ty, ΓOf Γl, fun _ => [], fun _ _ => [], 50, 1⟩ (bodyOf Try.f4) Try.f4.results.toList (svs 0 pvs) (heaps 0 pvs) (fun r _ => r = .g (.bool true))) := by
  intro pvs h
  obtain ⟨len, cap, rows, pvs, rfl, h1, h2, h3, h4⟩ := pvs_slice h
  obtain rfl := pvs_nil h4
  refine vcTpduJoinsK (fun j => (rows j).map SV.g) len cap ⟨h1, fun j hj => ?_⟩
  obtain ⟨u, hu, _⟩ := leafs_unit (h3 j (by omega))
  simp only [hu]; rfl
end Go.Proofs.Ytmblefpbfpjneaa
namespace Go.Proofs.Ytmblefpbfpjneaa.tpduJoins
open Go.ChangeShapes Go.WideShapes Go.RowKit Go.Eng
theorem own : ownKnob Try.prog.godebug = none := by kernel_rfl
theorem laidOut : laidOutB Try.prog = true := by kernel_rfl
theorem spec_fn {H : Type} (ds : List (DataW H)) (h : ds.length = 1) : Rows.tpduJoinsSpec.fn H ds = { results := [.lit (.bool true)], args := ds } := by
  rcases ds with _ | ⟨d0, _ | _⟩ <;> first | rfl | (simp at h)
set_option maxRecDepth 100000 in
theorem lifted (os : Os) (started : os.Started) (H : Type) (enc : TypeId × Value → H) :
    ReturnsInHanded {} Try.checked os 4 .any (Rows.tpduJoinsSpec.pre6 enc Try.prog Try.f4 Rows.tpduJoinsRow.domain false) (Rows.tpduJoinsSpec.post enc Try.prog Try.f4 false true false false) :=
  law_of (C := Try.checked) (ty := ty) (Γ := ΓOf Γl) started own laidOut hm tyOK Γl_ok (by kernel_rfl) Try.func4 (body_some (by kernel_rfl)) Try.ntmps4 (s := Rows.tpduJoinsSpec)
    (ChangeSpec.witness6 (enc := enc) (C := Try.checked) false ⟨#[], #[.slice none 0 0], []⟩ 8 (by kernel_rfl) (by kernel_rfl) (by kernel_rfl) (by kernel_rfl))
    (pts := [.slice ksU]) (by kernel_rfl) (Nat.le_of_ble_eq_true rfl) (by kernel_rfl) (by kernel_rfl) Try.underlying4 rfl spec_fn _ _ kTpduJoins
theorem over : Rows.tpduJoinsRow.holds Try.pinned (OpenSpec.ofChange Rows.tpduJoinsSpec) :=
  OpenClaim.holds_of_wide 4 Try.f4 rfl rfl rfl rfl rfl rfl rfl ⟨rfl, rfl, rfl, rfl, rfl⟩ rfl rfl rfl rfl rfl (by kernel_rfl) Try.func4 (by kernel_rfl)
    (of_decide_eq_true (by kernel_rfl)) (by unfold Func.isWrapper; first | (rw [if_pos (by decide +kernel)]; kernel_rfl) | (rw [if_neg (by decide +kernel)]; exact ⟨rfl, rfl⟩))
    (fun os started H enc _ => lifted os started H enc)
end Go.Proofs.Ytmblefpbfpjneaa.tpduJoins
namespace Go.Proofs.Ytmblefpbfpjneaa
theorem tpduJoins_holds : Rows.TpduJoinsSaid := tpduJoins.over
#print axioms tpduJoins_holds
end Go.Proofs.Ytmblefpbfpjneaa
