/- Chapter 15: the laws TpduReads, TpduBack, TpduSpoilt: Read answers what the document says, of all bytes; what is written is read as it was; a checked unit with one spoilt byte is never read. -/
import Derived.Test.YtmblefpbfpjneaaL
import Derived.Test.YtmblefpbfpjneaaEngLw
import Derived.Test.YtmblefpbfpjneaaRows
set_option linter.unusedVariables false
set_option linter.unusedSimpArgs false
namespace Go.Proofs.Ytmblefpbfpjneaa
open Go Go.Eng
attribute [local irreducible] condX
theorem pv_str {pts : List PT} {pvs : List PV} (h : PVsOK (.flat [.str] false :: pts) pvs) : ∃ (b : ByteArray) (pvs' : List PV), pvs = .flat [.string b] false :: pvs' ∧ PVsOK pts pvs' ∧ b.size ≤ maxLen := by
  obtain ⟨cs, pvs', rfl, h1, h2⟩ := pvs_flat h
  obtain ⟨b, cs', rfl, hw, h3⟩ := leafs_str h1
  obtain rfl := leafs_nil h3
  exact ⟨b, pvs', rfl, h2, hw⟩
theorem pv_bool {pts : List PT} {pvs : List PV} (h : PVsOK (.flat [.bool] false :: pts) pvs) : ∃ (b : Bool) (pvs' : List PV), pvs = .flat [.bool b] false :: pvs' ∧ PVsOK pts pvs' := by
  obtain ⟨cs, pvs', rfl, h1, h2⟩ := pvs_flat h
  obtain ⟨b, cs', rfl, h3⟩ := leafs_bool h1
  obtain rfl := leafs_nil h3
  exact ⟨b, pvs', rfl, h2⟩
theorem pv_int {pts : List PT} {pvs : List PV} (h : PVsOK (.flat [.int .i64] false :: pts) pvs) : ∃ (n : Int) (pvs' : List PV), pvs = .flat [.int .i64 n] false :: pvs' ∧ PVsOK pts pvs' ∧ (Lit.int .i64 n).wf = true := by
  obtain ⟨cs, pvs', rfl, h1, h2⟩ := pvs_flat h
  obtain ⟨b, cs', rfl, hw, h3⟩ := leafs_int h1
  obtain rfl := leafs_nil h3
  exact ⟨b, pvs', rfl, h2, hw⟩
theorem pvs_unit {pts : List PT} {pvs : List PV} (h : PVsOK (.flat ksU true :: pts) pvs) : ∃ (u : U) (pvs' : List PV), pvs = .flat u.vals true :: pvs' ∧ PVsOK pts pvs' ∧ u.wf := pv_unit h
theorem kTpduReads : ∀ pvs, PVsOK [.flat [.str] false] pvs → Held (fnX ⟨ty, ΓOf Γ9, fun _ => [], fun _ _ => [], 54, 1⟩ (bodyOf Try.f6) Try.f6.results.toList (svs 0 pvs) (heaps 0 pvs) (fun r _ => r = .g (.bool true))) := by
  intro pvs h
  obtain ⟨b, pvs, rfl, h, _⟩ := pv_str h
  obtain rfl := pvs_nil h
  exact vcTpduReadsK b
theorem kTpduBack : ∀ pvs, PVsOK [.flat ksU true, .flat [.bool] false] pvs → Held (fnX ⟨ty, ΓOf Γ9, fun _ => [], fun _ _ => [], 43, 2⟩ (bodyOf Try.f7) Try.f7.results.toList (svs 0 pvs) (heaps 0 pvs) (fun r _ => r = .g (.bool true))) := by
  intro pvs h
  obtain ⟨u, pvs, rfl, h, _⟩ := pv_unit h
  obtain ⟨c, pvs, rfl, h2⟩ := pv_bool h
  obtain rfl := pvs_nil h2
  exact vcTpduBackK u c
theorem kTpduSpoilt : ∀ pvs, PVsOK [.flat ksU true, .flat [.int .i64] false] pvs → Held (fnX ⟨ty, ΓOf Γ9, fun _ => [], fun _ _ => [], 38, 2⟩ (bodyOf Try.f8) Try.f8.results.toList (svs 0 pvs) (heaps 0 pvs) (fun r _ => r = .g (.bool true))) := by
  intro pvs h
  obtain ⟨u, pvs, rfl, h, _⟩ := pv_unit h
  obtain ⟨c, pvs, rfl, h, _⟩ := pv_int h
  obtain rfl := pvs_nil h
  exact vcTpduSpoiltK u c
end Go.Proofs.Ytmblefpbfpjneaa
namespace Go.Proofs.Ytmblefpbfpjneaa.tpduReads
open Go.ChangeShapes Go.WideShapes Go.RowKit Go.Eng
theorem own : ownKnob Try.prog.godebug = none := by kernel_rfl
theorem laidOut : laidOutB Try.prog = true := by kernel_rfl
theorem spec_fn {H : Type} (ds : List (DataW H)) (h : ds.length = 1) : Rows.tpduReadsSpec.fn H ds = { results := [.lit (.bool true)], args := ds } := by
  rcases ds with _ | ⟨d0, _ | _⟩ <;> first | rfl | (simp at h)
set_option maxRecDepth 100000 in
theorem lifted (os : Os) (started : os.Started) (H : Type) (enc : TypeId × Value → H) :
    ReturnsInHanded {} Try.checked os 6 .any (Rows.tpduReadsSpec.pre6 enc Try.prog Try.f6 Rows.tpduReadsRow.domain false) (Rows.tpduReadsSpec.post enc Try.prog Try.f6 false true false false) :=
  law_of (C := Try.checked) (ty := ty) (Γ := ΓOf Γ9) started own laidOut hm tyOK Γ9_ok (by kernel_rfl) Try.func6 (body_some (by kernel_rfl)) Try.ntmps6 (s := Rows.tpduReadsSpec)
    (ChangeSpec.witness6 (enc := enc) (C := Try.checked) false ⟨#[], #[.string ByteArray.empty], []⟩ 8 (by kernel_rfl) (by kernel_rfl) (by kernel_rfl) (by kernel_rfl))
    (pts := [.flat [.str] false]) (by kernel_rfl) (Nat.le_of_ble_eq_true rfl) (by kernel_rfl) (by kernel_rfl) Try.underlying4 rfl spec_fn _ _ kTpduReads
theorem over : Rows.tpduReadsRow.holds Try.pinned (OpenSpec.ofChange Rows.tpduReadsSpec) :=
  OpenClaim.holds_of_wide 6 Try.f6 rfl rfl rfl rfl rfl rfl rfl ⟨rfl, rfl, rfl, rfl, rfl⟩ rfl rfl rfl rfl rfl (by kernel_rfl) Try.func6 (by kernel_rfl)
    (of_decide_eq_true (by kernel_rfl)) (by unfold Func.isWrapper; first | (rw [if_pos (by decide +kernel)]; kernel_rfl) | (rw [if_neg (by decide +kernel)]; exact ⟨rfl, rfl⟩))
    (fun os started H enc _ => lifted os started H enc)
end Go.Proofs.Ytmblefpbfpjneaa.tpduReads
namespace Go.Proofs.Ytmblefpbfpjneaa
theorem tpduReads_holds : Rows.TpduReadsSaid := tpduReads.over
#print axioms tpduReads_holds
end Go.Proofs.Ytmblefpbfpjneaa
namespace Go.Proofs.Ytmblefpbfpjneaa.tpduBack
open Go.ChangeShapes Go.WideShapes Go.RowKit Go.Eng
theorem own : ownKnob Try.prog.godebug = none := by kernel_rfl
theorem laidOut : laidOutB Try.prog = true := by kernel_rfl
theorem spec_fn {H : Type} (ds : List (DataW H)) (h : ds.length = 2) : Rows.tpduBackSpec.fn H ds = { results := [.lit (.bool true)], args := ds } := by
  rcases ds with _ | ⟨d0, _ | ⟨d1, _ | _⟩⟩ <;> first | rfl | (simp at h)
set_option maxRecDepth 100000 in
theorem lifted (os : Os) (started : os.Started) (H : Type) (enc : TypeId × Value → H) :
    ReturnsInHanded {} Try.checked os 7 .any (Rows.tpduBackSpec.pre6 enc Try.prog Try.f7 Rows.tpduBackRow.domain false) (Rows.tpduBackSpec.post enc Try.prog Try.f7 false true false false) :=
  law_of (C := Try.checked) (ty := ty) (Γ := ΓOf Γ9) started own laidOut hm tyOK Γ9_ok (by kernel_rfl) Try.func7 (body_some (by kernel_rfl)) Try.ntmps7 (s := Rows.tpduBackSpec)
    (ChangeSpec.witness6 (enc := enc) (C := Try.checked) false ⟨#[], #[.agg #[.int .i64 0, .int .i64 0, .int .i64 0, .int .i64 0, .int .i64 0, .int .i64 0, .int .i64 0, .int .i64 0, .bool false, .string ByteArray.empty], .bool false], []⟩ 8 (by kernel_rfl) (by kernel_rfl) (by kernel_rfl) (by kernel_rfl))
    (pts := [.flat ksU true, .flat [.bool] false]) (by kernel_rfl) (Nat.le_of_ble_eq_true rfl) (by kernel_rfl) (by kernel_rfl) Try.underlying4 rfl spec_fn _ _ kTpduBack
theorem over : Rows.tpduBackRow.holds Try.pinned (OpenSpec.ofChange Rows.tpduBackSpec) :=
  OpenClaim.holds_of_wide 7 Try.f7 rfl rfl rfl rfl rfl rfl rfl ⟨rfl, rfl, rfl, rfl, rfl⟩ rfl rfl rfl rfl rfl (by kernel_rfl) Try.func7 (by kernel_rfl)
    (of_decide_eq_true (by kernel_rfl)) (by unfold Func.isWrapper; first | (rw [if_pos (by decide +kernel)]; kernel_rfl) | (rw [if_neg (by decide +kernel)]; exact ⟨rfl, rfl⟩))
    (fun os started H enc _ => lifted os started H enc)
end Go.Proofs.Ytmblefpbfpjneaa.tpduBack
namespace Go.Proofs.Ytmblefpbfpjneaa
theorem tpduBack_holds : Rows.TpduBackSaid := tpduBack.over
#print axioms tpduBack_holds
end Go.Proofs.Ytmblefpbfpjneaa
namespace Go.Proofs.Ytmblefpbfpjneaa.tpduSpoilt
open Go.ChangeShapes Go.WideShapes Go.RowKit Go.Eng
theorem own : ownKnob Try.prog.godebug = none := by kernel_rfl
theorem laidOut : laidOutB Try.prog = true := by kernel_rfl
theorem spec_fn {H : Type} (ds : List (DataW H)) (h : ds.length = 2) : Rows.tpduSpoiltSpec.fn H ds = { results := [.lit (.bool true)], args := ds } := by
  rcases ds with _ | ⟨d0, _ | ⟨d1, _ | _⟩⟩ <;> first | rfl | (simp at h)
set_option maxRecDepth 100000 in
theorem lifted (os : Os) (started : os.Started) (H : Type) (enc : TypeId × Value → H) :
    ReturnsInHanded {} Try.checked os 8 .any (Rows.tpduSpoiltSpec.pre6 enc Try.prog Try.f8 Rows.tpduSpoiltRow.domain false) (Rows.tpduSpoiltSpec.post enc Try.prog Try.f8 false true false false) :=
  law_of (C := Try.checked) (ty := ty) (Γ := ΓOf Γ9) started own laidOut hm tyOK Γ9_ok (by kernel_rfl) Try.func8 (body_some (by kernel_rfl)) Try.ntmps8 (s := Rows.tpduSpoiltSpec)
    (ChangeSpec.witness6 (enc := enc) (C := Try.checked) false ⟨#[], #[.agg #[.int .i64 0, .int .i64 0, .int .i64 0, .int .i64 0, .int .i64 0, .int .i64 0, .int .i64 0, .int .i64 0, .bool false, .string ByteArray.empty], .int .i64 0], []⟩ 8 (by kernel_rfl) (by kernel_rfl) (by kernel_rfl) (by kernel_rfl))
    (pts := [.flat ksU true, .flat [.int .i64] false]) (by kernel_rfl) (Nat.le_of_ble_eq_true rfl) (by kernel_rfl) (by kernel_rfl) Try.underlying4 rfl spec_fn _ _ kTpduSpoilt
theorem over : Rows.tpduSpoiltRow.holds Try.pinned (OpenSpec.ofChange Rows.tpduSpoiltSpec) :=
  OpenClaim.holds_of_wide 8 Try.f8 rfl rfl rfl rfl rfl rfl rfl ⟨rfl, rfl, rfl, rfl, rfl⟩ rfl rfl rfl rfl rfl (by kernel_rfl) Try.func8 (by kernel_rfl)
    (of_decide_eq_true (by kernel_rfl)) (by unfold Func.isWrapper; first | (rw [if_pos (by decide +kernel)]; kernel_rfl) | (rw [if_neg (by decide +kernel)]; exact ⟨rfl, rfl⟩))
    (fun os started H enc _ => lifted os started H enc)
end Go.Proofs.Ytmblefpbfpjneaa.tpduSpoilt
namespace Go.Proofs.Ytmblefpbfpjneaa
theorem tpduSpoilt_holds : Rows.TpduSpoiltSaid := tpduSpoilt.over
#print axioms tpduSpoilt_holds
end Go.Proofs.Ytmblefpbfpjneaa
