/- Chapter 15: the head of a unit, by kinds. -/
import Derived.Test.YtghbejmnnfoamaaE
set_option linter.unusedVariables false
set_option linter.unusedSimpArgs false
namespace Go.Proofs.Ytghbejmnnfoamaa
open Go Go.Eng
attribute [local irreducible] condX
theorem headL_1 {u : U} (h : u.k = 1) : headL u = [16 * 1 + lowU u] ++ (beL u.fr 2 2 ++ beL u.cr 1 1 ++ beL u.sz 1 1) := by
  obtain ⟨k, to, fr, cl, sz, nu, cr, re, e, d⟩ := u
  simp only [] at h
  subst h
  kernel_rfl
theorem headL_2 {u : U} (h : u.k = 2) : headL u = [16 * 2 + lowU u] ++ (beL u.to 2 2 ++ beL u.fr 2 2 ++ beL u.cr 1 1 ++ beL u.sz 1 1) := by
  obtain ⟨k, to, fr, cl, sz, nu, cr, re, e, d⟩ := u
  simp only [] at h
  subst h
  kernel_rfl
theorem headL_3 {u : U} (h : u.k = 3) : headL u = [16 * 3 + lowU u] ++ (beL u.to 2 2 ++ beL u.fr 2 2 ++ beL u.re 1 1) := by
  obtain ⟨k, to, fr, cl, sz, nu, cr, re, e, d⟩ := u
  simp only [] at h
  subst h
  kernel_rfl
theorem headL_4 {u : U} (h : u.k = 4) : headL u = [16 * 4 + lowU u] ++ (beL u.to 2 2 ++ beL u.fr 2 2) := by
  obtain ⟨k, to, fr, cl, sz, nu, cr, re, e, d⟩ := u
  simp only [] at h
  subst h
  kernel_rfl
theorem headL_5 {u : U} (h : u.k = 5) : headL u = [16 * 5 + lowU u] ++ (beL u.to 2 2 ++ beL u.nu 4 4) := by
  obtain ⟨k, to, fr, cl, sz, nu, cr, re, e, d⟩ := u
  simp only [] at h
  subst h
  kernel_rfl
theorem headL_6 {u : U} (h : u.k = 6) : headL u = [16 * 6 + lowU u] ++ (beL u.to 2 2 ++ beL u.nu 4 4 ++ beL u.cr 1 1) := by
  obtain ⟨k, to, fr, cl, sz, nu, cr, re, e, d⟩ := u
  simp only [] at h
  subst h
  kernel_rfl
theorem headL_7 {u : U} (h : u.k = 7) : headL u = [16 * 7 + lowU u] ++ (beL u.to 2 2 ++ beL u.nu 4 4 ++ beL u.cr 1 1) := by
  obtain ⟨k, to, fr, cl, sz, nu, cr, re, e, d⟩ := u
  simp only [] at h
  subst h
  kernel_rfl
theorem headL_8 {u : U} (h : u.k = 8) : headL u = [16 * 8 + lowU u] ++ (beL u.to 2 2 ++ beL u.nu 4 4) := by
  obtain ⟨k, to, fr, cl, sz, nu, cr, re, e, d⟩ := u
  simp only [] at h
  subst h
  kernel_rfl
theorem headL_9 {u : U} (h : u.k = 9) : headL u = [16 * 9 + lowU u] ++ (beL u.to 2 2 ++ beL u.nu 4 4) := by
  obtain ⟨k, to, fr, cl, sz, nu, cr, re, e, d⟩ := u
  simp only [] at h
  subst h
  kernel_rfl
theorem headL_10 {u : U} (h : u.k = 10) : headL u = [16 * 10 + lowU u] ++ (beL u.to 2 2 ++ beL u.re 1 1) := by
  obtain ⟨k, to, fr, cl, sz, nu, cr, re, e, d⟩ := u
  simp only [] at h
  subst h
  kernel_rfl
theorem beA (v : Int) : beL v 1 1 = [v % 256] := by simp [beL, List.range_succ]
theorem beB (v : Int) : beL v 2 2 = [v / 256 % 256, v % 256] := by simp [beL, List.range_succ]
theorem beD (v : Int) : beL v 4 4 = [v / 16777216 % 256, v / 65536 % 256, v / 256 % 256, v % 256] := by simp [beL, List.range_succ]
end Go.Proofs.Ytghbejmnnfoamaa
