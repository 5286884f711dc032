/- Chapter 15: the law TpduWrites (a tied card): Valid, Write, Name and Show of the program answer as those of the document, of every unit. -/
import Derived.Test.YtmblefpbfpjneaaDoorSh
import Derived.Test.YtmblefpbfpjneaaDoorTie
import Derived.Test.YtmblefpbfpjneaaDoorCards
import Derived.LaidMore
import Derived.LaidSub
import Derived.SevenTiedAt
import Derived.Stop.Joined
set_option linter.unusedVariables false
set_option linter.unusedSimpArgs false
namespace Go.Proofs.YtmblefpbfpjneaaDoor
open Go Go.Eng
attribute [local irreducible] condX
theorem pvs_bool {pts : List PT} {pvs : List PV} (h : PVsOK (.flat [.bool] false :: pts) pvs) : ∃ (b : Bool) (pvs' : List PV), pvs = .flat [.bool b] false :: pvs' ∧ PVsOK pts pvs' := by
  obtain ⟨cs, pvs', rfl, h1, h2⟩ := pvs_flat h
  obtain ⟨b, cs', rfl, h3⟩ := leafs_bool h1
  obtain rfl := leafs_nil h3
  exact ⟨b, pvs', rfl, h2⟩
theorem kTpduWrites : ∀ pvs, PVsOK [.flat ksU true, .flat [.bool] false] pvs → Held (fnX ⟨ty, ΓOf Γtw, fun _ => [], fun _ _ => [], 82, 2⟩ (bodyOf Tryd.f3) Tryd.f3.results.toList (svs 0 pvs) (heaps 0 pvs) (fun r _ => r = .g (.bool true))) := by
  intro pvs h
  obtain ⟨u, pvs, rfl, h, _⟩ := pv_unit h
  obtain ⟨c, pvs, rfl, h2⟩ := pvs_bool h
  obtain rfl := pvs_nil h2
  exact vcTpduWritesK u c
end Go.Proofs.YtmblefpbfpjneaaDoor
namespace Go.Proofs.YtmblefpbfpjneaaDoor.tpduWrites
open Go.ChangeShapes Go.WideShapes Go.RowKit Go.Eng
theorem own : ownKnob Tryd.prog.godebug = none := by kernel_rfl
theorem laidOut : laidOutB Tryd.prog = true := by kernel_rfl
theorem spec_fn {H : Type} (ds : List (DataW H)) (h : ds.length = 2) : Rows.tpduWritesSpec.fn H ds = { results := [.lit (.bool true)], args := ds } := by
  rcases ds with _ | ⟨d0, _ | ⟨d1, _ | _⟩⟩ <;> first | rfl | (simp at h)
theorem door_met (os : Os) (args : Array Value) : laidMetH Tryd.prog Rows.tpduWritesRow.laid ((World.doorLaid Tryd.prog 400 os).forCall (fun _ _ => 0) ⟨#[], args, []⟩).memory :=
  laidMetH_of_parts3 (fuel := 8) (laidMet_of_run' 8 (by kernel_rfl) (by kernel_rfl)) (by kernel_rfl) (by kernel_rfl)
theorem of_laid (W : World) (h : laidMetH Tryd.prog Rows.tpduWritesRow.laid W) : Λ0.ok W := by
  rw [MakeChecks.laidMetH_plain _ _ _ (by kernel_rfl)] at h
  have h2 := laidMet.filter (fun x => x.1 == "internal/strconv.uint64pow10") h
  rw [show Rows.tpduWritesRow.laid.filter (fun x => x.1 == "internal/strconv.uint64pow10") = [("internal/strconv.uint64pow10", Lib.tabData .u64 Lib.pow10Tab)] by kernel_rfl] at h2
  exact Lib.tabIs_of_head (g := 0) (t := 69) (e := 63) (n := 20) (by kernel_rfl) (by kernel_rfl) Tryd.underlying69 Tryd.underlying63 (by kernel_rfl) (by kernel_rfl) h2
set_option maxRecDepth 100000 in
theorem lifted (os : Os) (started : os.Started) (H : Type) (enc : TypeId × Value → H) :
    ReturnsInHanded {} Tryd.checked os 3 .any (fun w args => (Rows.tpduWritesSpec.pre enc Tryd.prog Tryd.f3 [] false w args ∧ laidMetH Tryd.prog Rows.tpduWritesRow.laid w) ∧ sizedMet enc Tryd.prog Tryd.f3 (OpenSpec.ofChange Rows.tpduWritesSpec) false w args) (Rows.tpduWritesSpec.post enc Tryd.prog Tryd.f3 false true false false) :=
  law_laid (C := Tryd.checked) (ty := ty) (Γ := ΓOf Γtw) (Λ := Λ0) (X := fun w => laidMetH Tryd.prog Rows.tpduWritesRow.laid w) started (fun _ _ hh h => h.of_heap hh) of_laid own laidOut hm tyOK Γtw_ok (by kernel_rfl) Tryd.func3 (body_some (by kernel_rfl)) Tryd.ntmps3 (s := Rows.tpduWritesSpec) (conds := [])
    (ChangeSpec.witness_shaped (enc := enc) (C := Tryd.checked) (os := os) (X := fun w _ => laidMetH Tryd.prog Rows.tpduWritesRow.laid w) false (World.doorLaid Tryd.prog 400 os) #[.agg #[.int .i64 0, .int .i64 0, .int .i64 0, .int .i64 0, .int .i64 0, .int .i64 0, .int .i64 0, .int .i64 0, .bool false, .string ByteArray.empty], .bool false] 8 rfl (World.shaped_of_RefB (by kernel_rfl) (by kernel_rfl)) (by kernel_rfl) (by kernel_rfl) (by kernel_rfl) (door_met os _))
    (pts := [.flat ksU true, .flat [.bool] false]) (by kernel_rfl) (Nat.le_of_ble_eq_true rfl) (by kernel_rfl) (by kernel_rfl) Tryd.underlying4 rfl spec_fn _ _ kTpduWrites
theorem over : Rows.tpduWritesRow.holds Tryd.pinned (OpenSpec.ofChange Rows.tpduWritesSpec) :=
  OpenClaim.holds_of_wide 3 Tryd.f3 rfl rfl rfl rfl rfl rfl rfl ⟨rfl, rfl, rfl, rfl, rfl⟩ rfl rfl rfl rfl rfl (by kernel_rfl) Tryd.func3 (by kernel_rfl)
    (of_decide_eq_true (by kernel_rfl)) (by unfold Func.isWrapper; first | (rw [if_pos (by decide +kernel)]; kernel_rfl) | (rw [if_neg (by decide +kernel)]; exact ⟨rfl, rfl⟩))
    (fun os started H enc _ => lifted os started H enc)
end Go.Proofs.YtmblefpbfpjneaaDoor.tpduWrites
namespace Go.Proofs.YtmblefpbfpjneaaDoor
theorem tpduWrites_card : Rows.TpduWritesCardSaid :=
  Claim7.holds_tied_plain_at .later [] [.data, .data, .data] true (true, "90b23ed98bf89223256d7e4b2088cb422adb006ba1e1bd5e06107592da84a45c") false
    tpduWrites.over (fun _ h => by cases h) (by kernel_rfl) (fun _ h => by cases h) tpduWrites_row_tie rfl ⟨rfl, rfl⟩ (by kernel_rfl) rfl
    (fun f fn hf hfn => by
      obtain rfl : f = 3 := Option.some.inj ((show Tryd.prog.funcNamed "heptad/heptadlaw15.TpduWrites" = some 3 by kernel_rfl).symm.trans hf) |>.symm
      obtain rfl : fn = Tryd.f3 := (Option.some.inj (Tryd.func3.symm.trans hfn)).symm
      exact ⟨by kernel_rfl, fun j t ht => by
        rw [Tryd.params3] at ht
        have hm : t ∈ [23, 4] := by simpa using Array.mem_of_getElem? ht
        have hall : ([23, 4].all fun u => !Tryd.prog.wantsStandIn u) = true := by kernel_rfl
        exact (show Tryd.prog.wantsStandIn t = false by simpa using List.all_eq_true.1 hall t hm)⟩)
    (by kernel_rfl)
#print axioms tpduWrites_card
end Go.Proofs.YtmblefpbfpjneaaDoor
