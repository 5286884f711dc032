/- Chapter 15: the example; the law of Agree. -/
import Derived.Test.YtmblefpbfpjneaaE
import Derived.Test.YtmblefpbfpjneaaEngLw
import Derived.Test.YtmblefpbfpjneaaRows
set_option linter.unusedVariables false
set_option linter.unusedSimpArgs false
namespace Go.Proofs.Ytmblefpbfpjneaa
open Go Go.Eng
attribute [local irreducible] condX
def cx5 (n e : Nat) : Cx := ⟨ty, ΓOf Γ5, fun _ => [], fun _ _ => [], n, e⟩
theorem wr4 : wrS ⟨4, 1, 2, 0, 0, 0, 0, 0, false, ⟨#[]⟩⟩ false = ⟨#[5, 64, 0, 1, 0, 2]⟩ := by kernel_rfl
theorem wr4e : wrE ⟨4, 1, 2, 0, 0, 0, 0, 0, false, ⟨#[]⟩⟩ = 0 := by kernel_rfl
def VcSane : Prop := [SV.agg [SV.g (Value.int IntKind.i64 (4 : Int)), SV.g (Value.int IntKind.i64 (1 : Int)), SV.g (Value.int IntKind.i64 (2 : Int)), SV.g (Value.int IntKind.i64 (0 : Int)), SV.g (Value.int IntKind.i64 (0 : Int)), SV.g
  (Value.int IntKind.i64 (0 : Int)), SV.g (Value.int IntKind.i64 (0 : Int)), SV.g (Value.int IntKind.i64 (0 : Int)), SV.g (Value.bool false), SV.g (Value.string (ByteArray.mk #[]))], SV.g (Value.bool false)] = [SV.agg
  (U.cells (U.mk (4 : Int) (1 : Int) (2 : Int) (0 : Int) (0 : Int) (0 : Int) (0 : Int) (0 : Int) false (ByteArray.mk #[]))), SV.g (Value.bool false)] ∧ True ∧ SV.g (Value.bool true) = SV.g (Value.bool true)
def VcSaneS : Prop := fnX (cx5 14 0) (bodyOf Try.f12) Try.f12.results.toList [] [] (fun r _ => r = .g (.bool true))
theorem vcSaneE : VcSane = VcSaneS := by kernel_rfl
set_option maxHeartbeats 4000000 in
theorem vcSane : VcSane := by
  exact ⟨rfl, trivial, rfl⟩
theorem vcSaneK : Held (fnX (cx5 14 0) (bodyOf Try.f12) Try.f12.results.toList [] [] (fun r _ => r = .g (.bool true))) := held0 vcSaneE vcSane
def X_sane15 : XC := ⟨Unit, fun | [] => some () | _ => none, fun _ => [], fun _ => True, fun _ => .g (.bool true)⟩
theorem vcSane1K : ∀ x : Unit, True → Held (fnX (cx5 14 0) (bodyOf Try.f12) Try.f12.results.toList [] [] (fun r _ => r = .g (.bool true))) := fun _ _ => vcSaneK
def cxSane (_ : Unit) : Cx := cx5 14 0
theorem ok_sane15 : ExactSound Try.prog 12 X_sane15.rule :=
  exact_rule (ty := ty) (Γ := ΓOf Γ5) hm tyOK Γ5_ok (fnOK_of Try.func12 (by kernel_rfl) (by kernel_rfl)) Try.func12 (body_some (by kernel_rfl)) X_sane15 Try.ntmps12 (fun _ => Nat.le_of_ble_eq_true rfl) (fun _ => rfl) (fun x => rfl) (fun x => (cxSane x).cut) (fun x => (cxSane x).loop) fun x h => vcSane1K x h
def Γ6 : List (Nat × Rule) := (12, .exact X_sane15.rule) :: Γ5
theorem Γ6_ok : ΓOK Try.prog (ΓOf Γ6) := (ΓOf_cons ok_sane15 Γ5_ok)
def cx6 (n e : Nat) : Cx := ⟨ty, ΓOf Γ6, fun _ => [], fun _ _ => [], n, e⟩
theorem ag_facts {a b : U} (h : agOK a b) : okU (agU a b) ∧ (agU a b).cl ≤ a.cl ∧ (agU a b).cl ≤ b.cl ∧ (agU a b).sz ≤ a.sz ∧ (agU a b).sz ≤ b.sz ∧ (agU a b).to = a.fr := by
  obtain ⟨h1, h2, h3, h4⟩ := h
  obtain ⟨c1, c2, c3, c4, c5, c6⟩ := cc_facts h2 h4
  rw [okU_iff (by omega)] at h1 h2
  rw [h3] at h1
  rw [h4] at h2
  simp at h1 h2
  have hcl : 0 ≤ agCl a b ∧ agCl a b ≤ a.cl ∧ agCl a b ≤ b.cl := by unfold agCl; split <;> omega
  refine ⟨?_, hcl.2.1, hcl.2.2, by simp only [agU]; omega, by simp only [agU]; omega, rfl⟩
  rw [okU_iff (show 1 ≤ (2 : Int) ∧ (2 : Int) ≤ 10 by decide)]
  simp only [agU]
  simp [ByteArray.size]
  refine ⟨?_, ?_, ?_, ?_, ?_⟩ <;> first | omega | (split <;> omega)
def VcTpduAgrees : Prop := ∀ (a b : U), ((condX (bif !(U.k (agUU a b) == U.k (agUU a b) && (U.to (agUU a b) == U.to (agUU a b) && (U.fr (agUU a b) == U.fr (agUU a b) && (U.cl (agUU a b) == U.cl (agUU a b) && (U.sz (agUU a b) == U.sz (agUU a b) &&
  (U.nu (agUU a b) == U.nu (agUU a b) && (U.cr (agUU a b) == U.cr (agUU a b) && (U.re (agUU a b) == U.re (agUU a b) && (U.e (agUU a b) == U.e (agUU a b) && (decide (U.d (agUU a b) = U.d (agUU a b)) && true)))))))))) then
  true else (if agOK a b then (0 : Int) else (1 : Int)) != if agOK a b then (0 : Int) else (1 : Int)) (SV.g (Value.bool false) = SV.g (Value.bool true)) (condX ((if agOK a b then (0 : Int) else (1 : Int)) != (0 : Int))
  (True ∧ SV.g (Value.bool true) = SV.g (Value.bool true)) (((bif bif bif bif bif decide (okU (agUU a b)) then decide (U.cl (agUU a b) ≤ U.cl a) else false then decide (U.cl (agUU a b) ≤ U.cl b) else false then decide
  (U.sz (agUU a b) ≤ U.sz a) else false then decide (U.sz (agUU a b) ≤ U.sz b) else false then U.to (agUU a b) == U.fr a else false) = true → True) ∧ SV.g (Value.bool (bif bif bif bif bif bif decide (okU (agUU a b)) then
  decide (U.cl (agUU a b) ≤ U.cl a) else false then decide (U.cl (agUU a b) ≤ U.cl b) else false then decide (U.sz (agUU a b) ≤ U.sz a) else false then decide (U.sz (agUU a b) ≤ U.sz b) else false then U.to (agUU a b) ==
  U.fr a else false then true else false)) = SV.g (Value.bool true))) ∧ condX (bif !(U.k (agUU a b) == U.k (agUU a b) && (U.to (agUU a b) == U.to (agUU a b) && (U.fr (agUU a b) == U.fr (agUU a b) && (U.cl (agUU a b) ==
  U.cl (agUU a b) && (U.sz (agUU a b) == U.sz (agUU a b) && (U.nu (agUU a b) == U.nu (agUU a b) && (U.cr (agUU a b) == U.cr (agUU a b) && (U.re (agUU a b) == U.re (agUU a b) && (U.e (agUU a b) == U.e (agUU a b) && (decide
  (U.d (agUU a b) = U.d (agUU a b)) && true)))))))))) then true else (if agOK a b then (0 : Int) else (1 : Int)) != if agOK a b then (0 : Int) else (1 : Int)) (SV.g (Value.bool false) = SV.g (Value.bool true)) (condX ((if
  agOK a b then (0 : Int) else (1 : Int)) != (0 : Int)) (True ∧ SV.g (Value.bool true) = SV.g (Value.bool true)) (((bif bif bif bif bif decide (okU (agUU a b)) then decide (U.cl (agUU a b) ≤ U.cl a) else false then decide
  (U.cl (agUU a b) ≤ U.cl b) else false then decide (U.sz (agUU a b) ≤ U.sz a) else false then decide (U.sz (agUU a b) ≤ U.sz b) else false then U.to (agUU a b) == U.fr a else false) = true → True) ∧ SV.g (Value.bool (bif
  bif bif bif bif bif decide (okU (agUU a b)) then decide (U.cl (agUU a b) ≤ U.cl a) else false then decide (U.cl (agUU a b) ≤ U.cl b) else false then decide (U.sz (agUU a b) ≤ U.sz a) else false then decide (U.sz (agUU a
  b) ≤ U.sz b) else false then U.to (agUU a b) == U.fr a else false then true else false)) = SV.g (Value.bool true)))) ∧ condX (bif !(U.k (agUU a b) == U.k (agUU a b) && (U.to (agUU a b) == U.to (agUU a b) && (U.fr (agUU a
  b) == U.fr (agUU a b) && (U.cl (agUU a b) == U.cl (agUU a b) && (U.sz (agUU a b) == U.sz (agUU a b) && (U.nu (agUU a b) == U.nu (agUU a b) && (U.cr (agUU a b) == U.cr (agUU a b) && (U.re (agUU a b) == U.re (agUU a b) &&
  (U.e (agUU a b) == U.e (agUU a b) && (decide (U.d (agUU a b) = U.d (agUU a b)) && true)))))))))) then true else (if agOK a b then (0 : Int) else (1 : Int)) != if agOK a b then (0 : Int) else (1 : Int)) (SV.g (Value.bool
  false) = SV.g (Value.bool true)) (condX ((if agOK a b then (0 : Int) else (1 : Int)) != (0 : Int)) (True ∧ SV.g (Value.bool true) = SV.g (Value.bool true)) (((bif bif bif bif bif decide (okU (agUU a b)) then decide (U.cl
  (agUU a b) ≤ U.cl a) else false then decide (U.cl (agUU a b) ≤ U.cl b) else false then decide (U.sz (agUU a b) ≤ U.sz a) else false then decide (U.sz (agUU a b) ≤ U.sz b) else false then U.to (agUU a b) == U.fr a else
  false) = true → True) ∧ SV.g (Value.bool (bif bif bif bif bif bif decide (okU (agUU a b)) then decide (U.cl (agUU a b) ≤ U.cl a) else false then decide (U.cl (agUU a b) ≤ U.cl b) else false then decide (U.sz (agUU a b) ≤
  U.sz a) else false then decide (U.sz (agUU a b) ≤ U.sz b) else false then U.to (agUU a b) == U.fr a else false then true else false)) = SV.g (Value.bool true)))) ∧ condX (bif !(U.k (agUU a b) == U.k (agUU a b) && (U.to
  (agUU a b) == U.to (agUU a b) && (U.fr (agUU a b) == U.fr (agUU a b) && (U.cl (agUU a b) == U.cl (agUU a b) && (U.sz (agUU a b) == U.sz (agUU a b) && (U.nu (agUU a b) == U.nu (agUU a b) && (U.cr (agUU a b) == U.cr (agUU
  a b) && (U.re (agUU a b) == U.re (agUU a b) && (U.e (agUU a b) == U.e (agUU a b) && (decide (U.d (agUU a b) = U.d (agUU a b)) && true)))))))))) then true else (if agOK a b then (0 : Int) else (1 : Int)) != if agOK a b
  then (0 : Int) else (1 : Int)) (SV.g (Value.bool false) = SV.g (Value.bool true)) (condX ((if agOK a b then (0 : Int) else (1 : Int)) != (0 : Int)) (True ∧ SV.g (Value.bool true) = SV.g (Value.bool true)) (((bif bif bif
  bif bif decide (okU (agUU a b)) then decide (U.cl (agUU a b) ≤ U.cl a) else false then decide (U.cl (agUU a b) ≤ U.cl b) else false then decide (U.sz (agUU a b) ≤ U.sz a) else false then decide (U.sz (agUU a b) ≤ U.sz b)
  else false then U.to (agUU a b) == U.fr a else false) = true → True) ∧ SV.g (Value.bool (bif bif bif bif bif bif decide (okU (agUU a b)) then decide (U.cl (agUU a b) ≤ U.cl a) else false then decide (U.cl (agUU a b) ≤
  U.cl b) else false then decide (U.sz (agUU a b) ≤ U.sz a) else false then decide (U.sz (agUU a b) ≤ U.sz b) else false then U.to (agUU a b) == U.fr a else false then true else false)) = SV.g (Value.bool true)))
def VcTpduAgreesS : Prop := ∀ (a b : U), fnX (cx6 76 2) (bodyOf Try.f3) Try.f3.results.toList [.agg a.cells, .agg b.cells] [] (fun r _ => r = .g (.bool true))
theorem vcTpduAgreesE : VcTpduAgrees = VcTpduAgreesS := by kernel_rfl
set_option maxHeartbeats 4000000 in
theorem vcTpduAgrees : VcTpduAgrees := by
  intro a b
  and_intros
  all_goals
    refine (condX_iff _ _ _).2 ⟨fun h => ?_, fun h1 => (condX_iff _ _ _).2 ⟨fun h => ⟨trivial, rfl⟩, fun h2 => ?_⟩⟩
    · simp at h
    · have h2 : agOK a b := by
        by_cases h : agOK a b
        · exact h
        · simp [h] at h2
      obtain ⟨f1, f2, f3, f4, f5, f6⟩ := ag_facts h2
      have e : agUU a b = agU a b := by simp only [agUU, h2, if_true]
      rw [e]
      refine ⟨fun _ => trivial, ?_⟩
      simp only [f1, f2, f3, f4, f5, f6]
      simp
theorem vcTpduAgreesK : ∀ (a b : U), Held (fnX (cx6 76 2) (bodyOf Try.f3) Try.f3.results.toList [.agg a.cells, .agg b.cells] [] (fun r _ => r = .g (.bool true))) := held2 (p := fun (a b : U) => fnX (cx6 76 2) (bodyOf Try.f3) Try.f3.results.toList [.agg a.cells, .agg b.cells] [] (fun r _ => r = .g (.bool true))) vcTpduAgreesE vcTpduAgrees
def U.vals (u : U) : List Value := [.int .i64 u.k, .int .i64 u.to, .int .i64 u.fr, .int .i64 u.cl, .int .i64 u.sz, .int .i64 u.nu, .int .i64 u.cr, .int .i64 u.re, .bool u.e, .string u.d]
def ksU : List LK := [.int .i64, .int .i64, .int .i64, .int .i64, .int .i64, .int .i64, .int .i64, .int .i64, .bool, .str]
def U.wf (u : U) : Prop := u.d.size ≤ maxLen
theorem leafs_unit {cs : List Value} (h : LeafsOK ksU cs) : ∃ u : U, cs = u.vals ∧ u.wf := by
  obtain ⟨a1, cs1, e1, _, h1⟩ := leafs_int h
  obtain ⟨a2, cs2, e2, _, h2⟩ := leafs_int h1
  obtain ⟨a3, cs3, e3, _, h3⟩ := leafs_int h2
  obtain ⟨a4, cs4, e4, _, h4⟩ := leafs_int h3
  obtain ⟨a5, cs5, e5, _, h5⟩ := leafs_int h4
  obtain ⟨a6, cs6, e6, _, h6⟩ := leafs_int h5
  obtain ⟨a7, cs7, e7, _, h7⟩ := leafs_int h6
  obtain ⟨a8, cs8, e8, _, h8⟩ := leafs_int h7
  obtain ⟨a9, cs9, e9, h9⟩ := leafs_bool h8
  obtain ⟨a10, cs10, e10, hw, h10⟩ := leafs_str h9
  have e11 := leafs_nil h10
  subst e11 e10 e9 e8 e7 e6 e5 e4 e3 e2 e1
  exact ⟨⟨a1, a2, a3, a4, a5, a6, a7, a8, a9, a10⟩, rfl, hw⟩
theorem pv_unit {pts : List PT} {pvs : List PV} (h : PVsOK (.flat ksU true :: pts) pvs) : ∃ (u : U) (pvs' : List PV), pvs = .flat u.vals true :: pvs' ∧ PVsOK pts pvs' ∧ u.wf := by
  obtain ⟨cs, pvs', rfl, h1, h2⟩ := pvs_flat h
  obtain ⟨u, rfl, hw⟩ := leafs_unit h1
  exact ⟨u, pvs', rfl, h2, hw⟩
theorem kTpduAgrees : ∀ pvs, PVsOK [.flat ksU true, .flat ksU true] pvs → Held (fnX ⟨ty, ΓOf Γ6, fun _ => [], fun _ _ => [], 76, 2⟩ (bodyOf Try.f3) Try.f3.results.toList (svs 0 pvs) (heaps 0 pvs) (fun r _ => r = .g (.bool true))) := by
  intro pvs h
  obtain ⟨a, pvs, rfl, h, _⟩ := pv_unit h
  obtain ⟨b, pvs, rfl, h, _⟩ := pv_unit h
  obtain rfl := pvs_nil h
  exact vcTpduAgreesK a b
end Go.Proofs.Ytmblefpbfpjneaa
namespace Go.Proofs.Ytmblefpbfpjneaa.tpduAgrees
open Go.ChangeShapes Go.WideShapes Go.RowKit Go.Eng
theorem own : ownKnob Try.prog.godebug = none := by kernel_rfl
theorem laidOut : laidOutB Try.prog = true := by kernel_rfl
theorem spec_fn {H : Type} (ds : List (DataW H)) (h : ds.length = 2) : Rows.tpduAgreesSpec.fn H ds = { results := [.lit (.bool true)], args := ds } := by
  rcases ds with _ | ⟨d0, _ | ⟨d1, _ | _⟩⟩ <;> first | rfl | (simp at h)
set_option maxRecDepth 100000 in
theorem lifted (os : Os) (started : os.Started) (H : Type) (enc : TypeId × Value → H) :
    ReturnsInHanded {} Try.checked os 3 .any (Rows.tpduAgreesSpec.pre6 enc Try.prog Try.f3 Rows.tpduAgreesRow.domain false) (Rows.tpduAgreesSpec.post enc Try.prog Try.f3 false true false false) :=
  law_of (C := Try.checked) (ty := ty) (Γ := ΓOf Γ6) started own laidOut hm tyOK Γ6_ok (by kernel_rfl) Try.func3 (body_some (by kernel_rfl)) Try.ntmps3 (s := Rows.tpduAgreesSpec)
    (ChangeSpec.witness6 (enc := enc) (C := Try.checked) false ⟨#[], #[.agg #[.int .i64 0, .int .i64 0, .int .i64 0, .int .i64 0, .int .i64 0, .int .i64 0, .int .i64 0, .int .i64 0, .bool false, .string ByteArray.empty], .agg #[.int .i64 0, .int .i64 0, .int .i64 0, .int .i64 0, .int .i64 0, .int .i64 0, .int .i64 0, .int .i64 0, .bool false, .string ByteArray.empty]], []⟩ 8 (by kernel_rfl) (by kernel_rfl) (by kernel_rfl) (by kernel_rfl))
    (pts := [.flat ksU true, .flat ksU true]) (by kernel_rfl) (Nat.le_of_ble_eq_true rfl) (by kernel_rfl) (by kernel_rfl) Try.underlying4 rfl spec_fn _ _ kTpduAgrees
theorem over : Rows.tpduAgreesRow.holds Try.pinned (OpenSpec.ofChange Rows.tpduAgreesSpec) :=
  OpenClaim.holds_of_wide 3 Try.f3 rfl rfl rfl rfl rfl rfl rfl ⟨rfl, rfl, rfl, rfl, rfl⟩ rfl rfl rfl rfl rfl (by kernel_rfl) Try.func3 (by kernel_rfl)
    (of_decide_eq_true (by kernel_rfl)) (by unfold Func.isWrapper; first | (rw [if_pos (by decide +kernel)]; kernel_rfl) | (rw [if_neg (by decide +kernel)]; exact ⟨rfl, rfl⟩))
    (fun os started H enc _ => lifted os started H enc)
end Go.Proofs.Ytmblefpbfpjneaa.tpduAgrees
namespace Go.Proofs.Ytmblefpbfpjneaa
theorem tpduAgrees_holds : Rows.TpduAgreesSaid := tpduAgrees.over
#print axioms tpduAgrees_holds
end Go.Proofs.Ytmblefpbfpjneaa
