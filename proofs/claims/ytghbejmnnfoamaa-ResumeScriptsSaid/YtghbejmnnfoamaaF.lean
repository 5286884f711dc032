/- Chapter 15: the example; the law of Agree. -/
import Derived.Test.YtghbejmnnfoamaaE
import Derived.Test.YtghbejmnnfoamaaEngLw
import Derived.Test.YtghbejmnnfoamaaRows
set_option linter.unusedVariables false
set_option linter.unusedSimpArgs false
namespace Go.Proofs.Ytghbejmnnfoamaa
open Go Go.Eng
attribute [local irreducible] condX
def cx5 (n e : Nat) : Cx := ⟨ty, ΓOf Γ5, fun _ => [], fun _ _ => [], n, e⟩
def Γ6 : List (Nat × Rule) := Γ5
theorem Γ6_ok : ΓOK Try.prog Λ0 (ΓOf Γ6) := Γ5_ok
def U.vals (u : U) : List Value := [.int .i64 u.k, .int .i64 u.to, .int .i64 u.fr, .int .i64 u.cl, .int .i64 u.sz, .int .i64 u.nu, .int .i64 u.cr, .int .i64 u.re, .bool u.e, .string u.d]
def ksU : List LK := [.int .i64, .int .i64, .int .i64, .int .i64, .int .i64, .int .i64, .int .i64, .int .i64, .bool, .str]
def U.wf (u : U) : Prop := u.d.size ≤ maxLen
theorem leafs_unit {cs : List Value} (h : LeafsOK ksU cs) : ∃ u : U, cs = u.vals ∧ u.wf := by
  obtain ⟨a1, cs1, e1, _, h1⟩ := leafs_int h
  obtain ⟨a2, cs2, e2, _, h2⟩ := leafs_int h1
  obtain ⟨a3, cs3, e3, _, h3⟩ := leafs_int h2
  obtain ⟨a4, cs4, e4, _, h4⟩ := leafs_int h3
  obtain ⟨a5, cs5, e5, _, h5⟩ := leafs_int h4
  obtain ⟨a6, cs6, e6, _, h6⟩ := leafs_int h5
  obtain ⟨a7, cs7, e7, _, h7⟩ := leafs_int h6
  obtain ⟨a8, cs8, e8, _, h8⟩ := leafs_int h7
  obtain ⟨a9, cs9, e9, h9⟩ := leafs_bool h8
  obtain ⟨a10, cs10, e10, hw, h10⟩ := leafs_str h9
  have e11 := leafs_nil h10
  subst e11 e10 e9 e8 e7 e6 e5 e4 e3 e2 e1
  exact ⟨⟨a1, a2, a3, a4, a5, a6, a7, a8, a9, a10⟩, rfl, hw⟩
theorem pv_unit {pts : List PT} {pvs : List PV} (h : PVsOK (.flat ksU true :: pts) pvs) : ∃ (u : U) (pvs' : List PV), pvs = .flat u.vals true :: pvs' ∧ PVsOK pts pvs' ∧ u.wf := by
  obtain ⟨cs, pvs', rfl, h1, h2⟩ := pvs_flat h
  obtain ⟨u, rfl, hw⟩ := leafs_unit h1
  exact ⟨u, pvs', rfl, h2, hw⟩
end Go.Proofs.Ytghbejmnnfoamaa
