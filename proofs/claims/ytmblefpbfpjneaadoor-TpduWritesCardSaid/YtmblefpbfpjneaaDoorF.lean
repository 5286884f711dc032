/- Chapter 15: the example; the law of Agree. -/
import Derived.Test.YtmblefpbfpjneaaDoorE
import Derived.Test.YtmblefpbfpjneaaDoorEngLw
import Derived.Test.YtmblefpbfpjneaaDoorRows
set_option linter.unusedVariables false
set_option linter.unusedSimpArgs false
namespace Go.Proofs.YtmblefpbfpjneaaDoor
open Go Go.Eng
attribute [local irreducible] condX
def cx5 (n e : Nat) : Cx := ⟨ty, ΓOf Γ5, fun _ => [], fun _ _ => [], n, e⟩
theorem wr4 : wrS ⟨4, 1, 2, 0, 0, 0, 0, 0, false, ⟨#[]⟩⟩ false = ⟨#[5, 64, 0, 1, 0, 2]⟩ := by kernel_rfl
theorem wr4e : wrE ⟨4, 1, 2, 0, 0, 0, 0, 0, false, ⟨#[]⟩⟩ = 0 := by kernel_rfl
def VcSane : Prop := [SV.agg [SV.g (Value.int IntKind.i64 (4 : Int)), SV.g (Value.int IntKind.i64 (1 : Int)), SV.g (Value.int IntKind.i64 (2 : Int)), SV.g (Value.int IntKind.i64 (0 : Int)), SV.g (Value.int IntKind.i64 (0 : Int)), SV.g
  (Value.int IntKind.i64 (0 : Int)), SV.g (Value.int IntKind.i64 (0 : Int)), SV.g (Value.int IntKind.i64 (0 : Int)), SV.g (Value.bool false), SV.g (Value.string (ByteArray.mk #[]))], SV.g (Value.bool false)] = [SV.agg
  (U.cells (U.mk (4 : Int) (1 : Int) (2 : Int) (0 : Int) (0 : Int) (0 : Int) (0 : Int) (0 : Int) false (ByteArray.mk #[]))), SV.g (Value.bool false)] ∧ True ∧ SV.g (Value.bool true) = SV.g (Value.bool true)
theorem vcSaneE : VcSane = (fnX (cx5 14 0) (bodyOf Tryd.f13) Tryd.f13.results.toList [] [] (fun r _ => r = .g (.bool true))) := by kernel_rfl
set_option maxHeartbeats 4000000 in
theorem vcSane : VcSane := by
  exact ⟨rfl, trivial, rfl⟩
theorem vcSaneK : Held (fnX (cx5 14 0) (bodyOf Tryd.f13) Tryd.f13.results.toList [] [] (fun r _ => r = .g (.bool true))) := held0 vcSaneE vcSane
def X_sane15 : XC := ⟨Unit, fun | [] => some () | _ => none, fun _ => [], fun _ => True, fun _ => .g (.bool true)⟩
theorem vcSane1K : ∀ x : Unit, True → Held (fnX (cx5 14 0) (bodyOf Tryd.f13) Tryd.f13.results.toList [] [] (fun r _ => r = .g (.bool true))) := fun _ _ => vcSaneK
def cxSane (_ : Unit) : Cx := cx5 14 0
theorem ok_sane15 : ExactSound Tryd.prog Λ0 13 X_sane15.rule :=
  exact_rule (ty := ty) (Γ := ΓOf Γ5) hm tyOK Γ5_ok (fnOK_of Tryd.func13 (by kernel_rfl) (by kernel_rfl)) Tryd.func13 (body_some (by kernel_rfl)) X_sane15 Tryd.ntmps13 (fun _ => Nat.le_of_ble_eq_true rfl) (fun _ => rfl) (fun x => rfl) (fun x => (cxSane x).cut) (fun x => (cxSane x).loop) fun x h => vcSane1K x h
def Γ6 : List (Nat × Rule) := Γ5
theorem Γ6_ok : ΓOK Tryd.prog Λ0 (ΓOf Γ6) := Γ5_ok
def U.vals (u : U) : List Value := [.int .i64 u.k, .int .i64 u.to, .int .i64 u.fr, .int .i64 u.cl, .int .i64 u.sz, .int .i64 u.nu, .int .i64 u.cr, .int .i64 u.re, .bool u.e, .string u.d]
def ksU : List LK := [.int .i64, .int .i64, .int .i64, .int .i64, .int .i64, .int .i64, .int .i64, .int .i64, .bool, .str]
def U.wf (u : U) : Prop := u.d.size ≤ maxLen
theorem leafs_unit {cs : List Value} (h : LeafsOK ksU cs) : ∃ u : U, cs = u.vals ∧ u.wf := by
  obtain ⟨a1, cs1, e1, _, h1⟩ := leafs_int h
  obtain ⟨a2, cs2, e2, _, h2⟩ := leafs_int h1
  obtain ⟨a3, cs3, e3, _, h3⟩ := leafs_int h2
  obtain ⟨a4, cs4, e4, _, h4⟩ := leafs_int h3
  obtain ⟨a5, cs5, e5, _, h5⟩ := leafs_int h4
  obtain ⟨a6, cs6, e6, _, h6⟩ := leafs_int h5
  obtain ⟨a7, cs7, e7, _, h7⟩ := leafs_int h6
  obtain ⟨a8, cs8, e8, _, h8⟩ := leafs_int h7
  obtain ⟨a9, cs9, e9, h9⟩ := leafs_bool h8
  obtain ⟨a10, cs10, e10, hw, h10⟩ := leafs_str h9
  have e11 := leafs_nil h10
  subst e11 e10 e9 e8 e7 e6 e5 e4 e3 e2 e1
  exact ⟨⟨a1, a2, a3, a4, a5, a6, a7, a8, a9, a10⟩, rfl, hw⟩
theorem pv_unit {pts : List PT} {pvs : List PV} (h : PVsOK (.flat ksU true :: pts) pvs) : ∃ (u : U) (pvs' : List PV), pvs = .flat u.vals true :: pvs' ∧ PVsOK pts pvs' ∧ u.wf := by
  obtain ⟨cs, pvs', rfl, h1, h2⟩ := pvs_flat h
  obtain ⟨u, rfl, hw⟩ := leafs_unit h1
  exact ⟨u, pvs', rfl, h2, hw⟩
end Go.Proofs.YtmblefpbfpjneaaDoor
