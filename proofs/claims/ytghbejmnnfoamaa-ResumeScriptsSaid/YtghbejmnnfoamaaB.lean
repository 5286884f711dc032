/- Chapter 15: a unit's fields; (*Unit).of; both Valid. -/
import Derived.Test.YtghbejmnnfoamaaA
set_option linter.unusedVariables false
set_option linter.unusedSimpArgs false
namespace Go.Proofs.Ytghbejmnnfoamaa
open Go Go.Eng
attribute [local irreducible] condX
/-- A unit. -/
structure U where
  k : Int
  to : Int
  fr : Int
  cl : Int
  sz : Int
  nu : Int
  cr : Int
  re : Int
  e : Bool
  d : ByteArray
def U.cells (u : U) : List SV := [.g (.int .i64 u.k), .g (.int .i64 u.to), .g (.int .i64 u.fr), .g (.int .i64 u.cl), .g (.int .i64 u.sz), .g (.int .i64 u.nu), .g (.int .i64 u.cr), .g (.int .i64 u.re), .g (.bool u.e), .g (.string u.d)]
def uOf : List SV → Option U
  | [.g (.int .i64 k), .g (.int .i64 to), .g (.int .i64 fr), .g (.int .i64 cl), .g (.int .i64 sz), .g (.int .i64 nu), .g (.int .i64 cr), .g (.int .i64 re), .g (.bool e), .g (.string d)] => some ⟨k, to, fr, cl, sz, nu, cr, re, e, d⟩
  | _ => none
theorem uOf_some {l : List SV} {u : U} (h : uOf l = some u) : l = u.cells := by
  unfold uOf at h
  split at h
  · obtain rfl := Option.some.inj h; rfl
  · cases h

/-- A field by its letter: where, how it is called, bytes, least, top. -/
def fieldSV (id off : Nat) (nm : ByteArray) (n lo top : Int) : SV := .agg [.ptr id 0 0 off, .g (.string nm), .g (.int .i64 n), .g (.int .i64 lo), .g (.int .i64 top)]
def loF (u : U) : Int := if u.k = 1 ∨ u.k = 2 then 1 else 0
def getUP : List SV → Heap → Option (U × Int)
  | [.ptr id 0 0 0, .g (.int .i32 c)], H => match Go.Eng.look id H with
    | some (.cells cs _) => match uOf cs with
      | some u => some (u, c)
      | none => none
    | _ => none
  | _, _ => none
def C_of : Ctr := ⟨1, U × Int, fun x => [.ptr 0 0 0 0, .g (.int .i32 x.2)], fun x => [(0, .cells x.1.cells 60)], fun _ => True, fun x =>
  [.one (x.2 = 116) (fieldSV 0 1 ⟨#[116, 111]⟩ 2 0 65535) [(0, .cells x.1.cells 60)],
   .one (x.2 = 102) (fieldSV 0 2 ⟨#[102, 114, 111, 109]⟩ 2 (loF x.1) 65535) [(0, .cells x.1.cells 60)],
   .one (x.2 = 110) (fieldSV 0 5 ⟨#[110, 117, 109, 98, 101, 114]⟩ 4 0 2147483647) [(0, .cells x.1.cells 60)],
   .one (x.2 = 99) (fieldSV 0 6 ⟨#[99, 114, 101, 100, 105, 116]⟩ 1 0 255) [(0, .cells x.1.cells 60)],
   .one (x.2 = 114) (fieldSV 0 7 ⟨#[114, 101, 97, 115, 111, 110]⟩ 1 0 255) [(0, .cells x.1.cells 60)],
   .one (x.2 ≠ 116 ∧ x.2 ≠ 102 ∧ x.2 ≠ 110 ∧ x.2 ≠ 99 ∧ x.2 ≠ 114) (fieldSV 0 4 ⟨#[115, 105, 122, 101]⟩ 1 7 12) [(0, .cells x.1.cells 60)]]⟩
def VcOf : Prop := ∀ (u : U) (c : Int), condX (c == (116 : Int)) (c = (116 : Int) ∧ (0 : Nat) = (0 : Nat) ∧ ByteArray.mk #[(116 : UInt8), (111 : UInt8)] = ByteArray.mk #[(116 : UInt8), (111 : UInt8)] ∧ (2 : Int) = (2 : Int) ∧ (0 : Int) =
  (0 : Int) ∧ (65535 : Int) = (65535 : Int) ∧ U.cells u = U.cells u ∧ True ∨ c = (102 : Int) ∧ False ∨ c = (110 : Int) ∧ False ∨ c = (99 : Int) ∧ False ∨ c = (114 : Int) ∧ False ∨ (c ≠ (116 : Int) ∧ c ≠ (102 : Int) ∧ c ≠
  (110 : Int) ∧ c ≠ (99 : Int) ∧ c ≠ (114 : Int)) ∧ False ∨ False) (condX (c == (102 : Int)) (condX (bif U.k u == (1 : Int) then true else U.k u == (2 : Int)) (c = (116 : Int) ∧ False ∨ c = (102 : Int) ∧ (0 : Nat) = (0 :
  Nat) ∧ ByteArray.mk #[(102 : UInt8), (114 : UInt8), (111 : UInt8), (109 : UInt8)] = ByteArray.mk #[(102 : UInt8), (114 : UInt8), (111 : UInt8), (109 : UInt8)] ∧ (2 : Int) = (2 : Int) ∧ (1 : Int) = loF u ∧ (65535 : Int) =
  (65535 : Int) ∧ U.cells u = U.cells u ∧ True ∨ c = (110 : Int) ∧ False ∨ c = (99 : Int) ∧ False ∨ c = (114 : Int) ∧ False ∨ (c ≠ (116 : Int) ∧ c ≠ (102 : Int) ∧ c ≠ (110 : Int) ∧ c ≠ (99 : Int) ∧ c ≠ (114 : Int)) ∧ False
  ∨ False) (c = (116 : Int) ∧ False ∨ c = (102 : Int) ∧ (0 : Nat) = (0 : Nat) ∧ ByteArray.mk #[(102 : UInt8), (114 : UInt8), (111 : UInt8), (109 : UInt8)] = ByteArray.mk #[(102 : UInt8), (114 : UInt8), (111 : UInt8), (109
  : UInt8)] ∧ (2 : Int) = (2 : Int) ∧ (0 : Int) = loF u ∧ (65535 : Int) = (65535 : Int) ∧ U.cells u = U.cells u ∧ True ∨ c = (110 : Int) ∧ False ∨ c = (99 : Int) ∧ False ∨ c = (114 : Int) ∧ False ∨ (c ≠ (116 : Int) ∧ c ≠
  (102 : Int) ∧ c ≠ (110 : Int) ∧ c ≠ (99 : Int) ∧ c ≠ (114 : Int)) ∧ False ∨ False)) (condX (c == (110 : Int)) (c = (116 : Int) ∧ False ∨ c = (102 : Int) ∧ False ∨ c = (110 : Int) ∧ (0 : Nat) = (0 : Nat) ∧ ByteArray.mk
  #[(110 : UInt8), (117 : UInt8), (109 : UInt8), (98 : UInt8), (101 : UInt8), (114 : UInt8)] = ByteArray.mk #[(110 : UInt8), (117 : UInt8), (109 : UInt8), (98 : UInt8), (101 : UInt8), (114 : UInt8)] ∧ (4 : Int) = (4 : Int)
  ∧ (0 : Int) = (0 : Int) ∧ (2147483647 : Int) = (2147483647 : Int) ∧ U.cells u = U.cells u ∧ True ∨ c = (99 : Int) ∧ False ∨ c = (114 : Int) ∧ False ∨ (c ≠ (116 : Int) ∧ c ≠ (102 : Int) ∧ c ≠ (110 : Int) ∧ c ≠ (99 : Int)
  ∧ c ≠ (114 : Int)) ∧ False ∨ False) (condX (c == (99 : Int)) (c = (116 : Int) ∧ False ∨ c = (102 : Int) ∧ False ∨ c = (110 : Int) ∧ False ∨ c = (99 : Int) ∧ (0 : Nat) = (0 : Nat) ∧ ByteArray.mk #[(99 : UInt8), (114 :
  UInt8), (101 : UInt8), (100 : UInt8), (105 : UInt8), (116 : UInt8)] = ByteArray.mk #[(99 : UInt8), (114 : UInt8), (101 : UInt8), (100 : UInt8), (105 : UInt8), (116 : UInt8)] ∧ (1 : Int) = (1 : Int) ∧ (0 : Int) = (0 :
  Int) ∧ (255 : Int) = (255 : Int) ∧ U.cells u = U.cells u ∧ True ∨ c = (114 : Int) ∧ False ∨ (c ≠ (116 : Int) ∧ c ≠ (102 : Int) ∧ c ≠ (110 : Int) ∧ c ≠ (99 : Int) ∧ c ≠ (114 : Int)) ∧ False ∨ False) (condX (c == (114 :
  Int)) (c = (116 : Int) ∧ False ∨ c = (102 : Int) ∧ False ∨ c = (110 : Int) ∧ False ∨ c = (99 : Int) ∧ False ∨ c = (114 : Int) ∧ (0 : Nat) = (0 : Nat) ∧ ByteArray.mk #[(114 : UInt8), (101 : UInt8), (97 : UInt8), (115 :
  UInt8), (111 : UInt8), (110 : UInt8)] = ByteArray.mk #[(114 : UInt8), (101 : UInt8), (97 : UInt8), (115 : UInt8), (111 : UInt8), (110 : UInt8)] ∧ (1 : Int) = (1 : Int) ∧ (0 : Int) = (0 : Int) ∧ (255 : Int) = (255 : Int)
  ∧ U.cells u = U.cells u ∧ True ∨ (c ≠ (116 : Int) ∧ c ≠ (102 : Int) ∧ c ≠ (110 : Int) ∧ c ≠ (99 : Int) ∧ c ≠ (114 : Int)) ∧ False ∨ False) (c = (116 : Int) ∧ False ∨ c = (102 : Int) ∧ False ∨ c = (110 : Int) ∧ False ∨ c
  = (99 : Int) ∧ False ∨ c = (114 : Int) ∧ False ∨ (c ≠ (116 : Int) ∧ c ≠ (102 : Int) ∧ c ≠ (110 : Int) ∧ c ≠ (99 : Int) ∧ c ≠ (114 : Int)) ∧ (0 : Nat) = (0 : Nat) ∧ ByteArray.mk #[(115 : UInt8), (105 : UInt8), (122 :
  UInt8), (101 : UInt8)] = ByteArray.mk #[(115 : UInt8), (105 : UInt8), (122 : UInt8), (101 : UInt8)] ∧ (1 : Int) = (1 : Int) ∧ (7 : Int) = (7 : Int) ∧ (12 : Int) = (12 : Int) ∧ U.cells u = U.cells u ∧ True ∨ False)))))
theorem vcOfE : VcOf = (∀ (u : U) (c : Int), fnX (cx0 54 1) (bodyOf Try.f42) Try.f42.results.toList [.ptr 0 0 0 0, .g (.int .i32 c)] [(0, .cells u.cells 60)] (endX 1 (C_of.outs (u, c)))) := by kernel_rfl
set_option maxHeartbeats 4000000 in
theorem vcOf : VcOf := by
  intro u c
  simp only [condX_iff, loF]
  refine ⟨fun h => ?_, fun h1 => ⟨fun h => ⟨fun hk => ?_, fun hk => ?_⟩, fun h2 => ⟨fun h => ?_, fun h3 => ⟨fun h => ?_, fun h4 => ⟨fun h => ?_, fun h5 => ?_⟩⟩⟩⟩⟩
  · simp at h; simp [h]
  · simp at h; simp at hk; simp [h]; omega
  · simp at h; simp at hk; simp [h]; omega
  · simp at h; simp [h]
  · simp at h; simp [h]
  · simp at h; simp [h]
  · simp at h1 h2 h3 h4 h5; simp [h1, h2, h3, h4, h5]
theorem vcOfK : ∀ (u : U) (c : Int), Held (fnX (cx0 54 1) (bodyOf Try.f42) Try.f42.results.toList [.ptr 0 0 0 0, .g (.int .i32 c)] [(0, .cells u.cells 60)] (endX 1 (C_of.outs (u, c)))) := held2 vcOfE vcOf
theorem ok_of : GenSound Try.prog Λ0 42 (callX C_of getUP) :=
  gen_of (ty := ty) (Γ := ΓOf []) hm tyOK (ΓOf_nil _) (fnOK_of Try.func42 (by kernel_rfl) (by kernel_rfl)) Try.func42 (body_some (by kernel_rfl)) C_of getUP Try.ntmps42 (fun _ => Nat.le_of_ble_eq_true rfl) (fun _ _ => []) (fun _ _ _ => []) fun x _ => vcOfK x.1 x.2
/-- A number of a field that is there, or not. -/
def fOK (h : Bool) (v lo top : Int) : Prop := if h = true then lo ≤ v ∧ v ≤ top else v = 0
instance (h : Bool) (v lo top : Int) : Decidable (fOK h v lo top) := by unfold fOK; infer_instance
/-- A letter's field. -/
def letOK (u : U) (c : Int) : Prop := fOK (hasB (fdOf (kn u.k)) c) (if c = 116 then u.to else if c = 102 then u.fr else if c = 110 then u.nu else if c = 99 then u.cr else if c = 114 then u.re else u.sz)
  (if c = 102 then loF u else if c = 115 then 7 else 0) (if c = 116 then 65535 else if c = 102 then 65535 else if c = 110 then 2147483647 else if c = 99 then 255 else if c = 114 then 255 else 12)
instance (u : U) (c : Int) : Decidable (letOK u c) := by unfold letOK; infer_instance
/-- A unit is one. -/
def okU (u : U) : Prop := (1 ≤ u.k ∧ u.k ≤ 10) ∧ (loOf (kn u.k) ≤ u.d.size ∧ (u.d.size : Int) ≤ hiOf (kn u.k)) ∧ (u.e = true → u.k = 5) ∧ (0 ≤ u.cl ∧ u.cl ≤ 4) ∧ (u.k = 1 ∨ u.k = 2 ∨ u.cl = 0) ∧
  letOK u 116 ∧ letOK u 102 ∧ letOK u 110 ∧ letOK u 99 ∧ letOK u 114 ∧ letOK u 115
instance (u : U) : Decidable (okU u) := by unfold okU; infer_instance
def Γ1 : List (Nat × Rule) := [(31, .exact R_Has), (49, .exact R_field15), (50, .exact R_Longest), (41, .exact R_forms), (64, .exact R_hasRune), (42, .gen (callX C_of getUP))]
theorem Γ1_ok : ΓOK Try.prog Λ0 (ΓOf Γ1) := ΓOf_cons ok_Has (ΓOf_cons ok_field15 (ΓOf_cons ok_Longest (ΓOf_cons ok_forms (ΓOf_cons ok_hasRune (ΓOf_cons ok_of (ΓOf_nil _))))))
def cx_rValid : Cx := ⟨ty, ΓOf Γ1, fun _ => [], fun _ _ => [], 114, 0⟩
theorem fOK_iff (h : Bool) (v lo top : Int) : fOK h v lo top ↔ (h = true → lo ≤ v ∧ v ≤ top) ∧ (h = false → v = 0) := by
  cases h <;> simp [fOK]
theorem kcases {k : Int} (h : 1 ≤ k ∧ k ≤ 10) : k = 1 ∨ k = 2 ∨ k = 3 ∨ k = 4 ∨ k = 5 ∨ k = 6 ∨ k = 7 ∨ k = 8 ∨ k = 9 ∨ k = 10 := by omega
theorem kfacts {k : Int} (h : 1 ≤ k ∧ k ≤ 10) : (hasB (fdOf k.toNat) 116 = decide (k ≠ 1)) ∧ (hasB (fdOf k.toNat) 102 = decide (k ≤ 4)) ∧ (hasB (fdOf k.toNat) 110 = decide (5 ≤ k ∧ k ≤ 9)) ∧ (hasB (fdOf k.toNat) 99 = decide (k = 1 ∨ k = 2 ∨ k = 6 ∨ k = 7)) ∧
    (hasB (fdOf k.toNat) 114 = decide (k = 3 ∨ k = 10)) ∧ (hasB (fdOf k.toNat) 115 = decide (k ≤ 2)) ∧ loOf k.toNat = (if k = 8 then 1 else 0) ∧ hiOf k.toNat = (if k = 1 then 32 else if k = 3 then 64 else if k = 5 then 3980 else if k = 8 then 16 else if k = 10 then 64 else 0) := by
  rcases kcases h with rfl | rfl | rfl | rfl | rfl | rfl | rfl | rfl | rfl | rfl <;> decide
theorem kn_of {k : Int} (h : 1 ≤ k ∧ k ≤ 10) : kn k = k.toNat := by simp [kn, h]
theorem fdOf_ascii (k : Nat) : ascii (fdOf k) := by
  by_cases h : k < 11
  · have : ∀ k, k < 11 → ∀ j, j < (fdOf k).size → byteAt (fdOf k) j < 128 := by decide
    exact fun j hj => this k h j hj
  · have : fdOf k = ⟨#[]⟩ := by
      unfold fdOf
      rw [List.getD_eq_getElem?_getD, List.getElem?_eq_none (by simp [kinds]; omega)]; rfl
    rw [this]
    exact fun j hj => absurd hj (Nat.not_lt_zero j)
theorem size_zero {b : ByteArray} : b = ⟨#[]⟩ ↔ b.size = 0 := by
  constructor
  · rintro rfl; rfl
  · intro h
    obtain ⟨a⟩ := b
    have : a.size = 0 := h
    rw [Array.size_eq_zero_iff.1 this]
theorem okU_iff {u : U} (h : 1 ≤ u.k ∧ u.k ≤ 10) : okU u ↔ ((u.k = 8 → 1 ≤ u.d.size) ∧ (u.d.size : Int) ≤ (if u.k = 1 then 32 else if u.k = 3 then 64 else if u.k = 5 then 3980 else if u.k = 8 then 16 else if u.k = 10 then 64 else 0)) ∧ (u.e = true → u.k = 5) ∧ (0 ≤ u.cl ∧ u.cl ≤ 4) ∧ (u.k = 1 ∨ u.k = 2 ∨ u.cl = 0) ∧
    ((u.k ≠ 1 → 0 ≤ u.to ∧ u.to ≤ 65535) ∧ (u.k = 1 → u.to = 0)) ∧ ((u.k ≤ 4 → 0 ≤ u.fr ∧ u.fr ≤ 65535) ∧ (u.k ≤ 2 → 1 ≤ u.fr) ∧ (4 < u.k → u.fr = 0)) ∧
    ((5 ≤ u.k ∧ u.k ≤ 9 → 0 ≤ u.nu ∧ u.nu ≤ 2147483647) ∧ (u.k ≤ 4 ∨ u.k = 10 → u.nu = 0)) ∧ ((u.k = 1 ∨ u.k = 2 ∨ u.k = 6 ∨ u.k = 7 → 0 ≤ u.cr ∧ u.cr ≤ 255) ∧ (u.k ≠ 1 ∧ u.k ≠ 2 ∧ u.k ≠ 6 ∧ u.k ≠ 7 → u.cr = 0)) ∧
    ((u.k = 3 ∨ u.k = 10 → 0 ≤ u.re ∧ u.re ≤ 255) ∧ (u.k ≠ 3 ∧ u.k ≠ 10 → u.re = 0)) ∧ ((u.k ≤ 2 → 7 ≤ u.sz ∧ u.sz ≤ 12) ∧ (2 < u.k → u.sz = 0)) := by
  obtain ⟨f1, f2, f3, f4, f5, f6, f7, f8⟩ := kfacts h
  unfold okU letOK
  rw [kn_of h, f1, f2, f3, f4, f5, f6, f7, f8]
  simp only [fOK_iff, decide_eq_true_eq, decide_eq_false_iff_not, loF]
  rcases kcases h with e | e | e | e | e | e | e | e | e | e <;> simp only [e] <;> simp <;> omega
def rc1 (u : U) : Bool := (bif bif !(decide (u.to = 0) || hasB (fdOf (Int.toNat u.k)) 116 && decide (0 < u.to) && decide (u.to ≤ 65535)) then true else !(decide (u.fr = 0) || hasB (fdOf (Int.toNat u.k)) 102 && decide (0 < u.fr) && decide (u.fr ≤ 65535)) then true else !(decide (u.nu = 0) || hasB (fdOf (Int.toNat u.k)) 110 && decide (0 < u.nu) && decide (u.nu ≤ 2147483647)))
def rc2 (u : U) : Bool := (bif bif !(decide (u.cr = 0) || hasB (fdOf (Int.toNat u.k)) 99 && decide (0 < u.cr) && decide (u.cr ≤ 255)) then true else !(decide (u.re = 0) || hasB (fdOf (Int.toNat u.k)) 114 && decide (0 < u.re) && decide (u.re ≤ 255)) then true else !(decide (u.cl = 0) || hasB (fdOf (Int.toNat u.k)) 115 && decide (0 < u.cl) && decide (u.cl ≤ 4)))
def rc3 (u : U) : Bool := (bif bif bif hasB (fdOf (Int.toNat u.k)) 115 then bif bif u.fr == 0 then true else decide (u.sz < 7) then true else decide (12 < u.sz) else false then true else bif !hasB (fdOf (Int.toNat u.k)) 115 then u.sz != 0 else false then true else bif u.e then u.k != 5 else false)
def rc4 (u : U) : Bool := (bif decide ((u.d.size : Int) ≤ hiOf (kn u.k)) then bif u.k != 8 then true else !decide (u.d = { data := #[] }) else false)
theorem rc1_iff {u : U} (hk : 1 ≤ u.k ∧ u.k ≤ 10) : rc1 u = false ↔ ((u.k ≠ 1 → 0 ≤ u.to ∧ u.to ≤ 65535) ∧ (u.k = 1 → u.to = 0)) ∧ ((u.k ≤ 4 → 0 ≤ u.fr ∧ u.fr ≤ 65535) ∧ (4 < u.k → u.fr = 0)) ∧ ((5 ≤ u.k ∧ u.k ≤ 9 → 0 ≤ u.nu ∧ u.nu ≤ 2147483647) ∧ (u.k ≤ 4 ∨ u.k = 10 → u.nu = 0)) := by
  obtain ⟨f1, f2, f3, f4, f5, f6, f7, f8⟩ := kfacts hk
  unfold rc1; rw [f1, f2, f3]
  simp only [Bool.cond_eq_ite]
  simp
  omega
theorem rc2_iff {u : U} (hk : 1 ≤ u.k ∧ u.k ≤ 10) : rc2 u = false ↔ ((u.k = 1 ∨ u.k = 2 ∨ u.k = 6 ∨ u.k = 7 → 0 ≤ u.cr ∧ u.cr ≤ 255) ∧ (u.k ≠ 1 ∧ u.k ≠ 2 ∧ u.k ≠ 6 ∧ u.k ≠ 7 → u.cr = 0)) ∧
    ((u.k = 3 ∨ u.k = 10 → 0 ≤ u.re ∧ u.re ≤ 255) ∧ (u.k ≠ 3 ∧ u.k ≠ 10 → u.re = 0)) ∧ (0 ≤ u.cl ∧ u.cl ≤ 4) ∧ (u.k = 1 ∨ u.k = 2 ∨ u.cl = 0) := by
  obtain ⟨f1, f2, f3, f4, f5, f6, f7, f8⟩ := kfacts hk
  unfold rc2; rw [f4, f5, f6]
  simp only [Bool.cond_eq_ite]
  simp
  omega
theorem rc3_iff {u : U} (hk : 1 ≤ u.k ∧ u.k ≤ 10) : rc3 u = false ↔ (u.k ≤ 2 → u.fr ≠ 0) ∧ ((u.k ≤ 2 → 7 ≤ u.sz ∧ u.sz ≤ 12) ∧ (2 < u.k → u.sz = 0)) ∧ (u.e = true → u.k = 5) := by
  obtain ⟨f1, f2, f3, f4, f5, f6, f7, f8⟩ := kfacts hk
  unfold rc3; rw [f6]
  simp only [Bool.cond_eq_ite]
  by_cases h2 : u.k ≤ 2 <;> cases he : u.e <;> simp [h2] <;> omega
theorem rc4_iff {u : U} (hk : 1 ≤ u.k ∧ u.k ≤ 10) : rc4 u = true ↔ ((u.k = 8 → 1 ≤ u.d.size) ∧ (u.d.size : Int) ≤ (if u.k = 1 then 32 else if u.k = 3 then 64 else if u.k = 5 then 3980 else if u.k = 8 then 16 else if u.k = 10 then 64 else 0)) := by
  obtain ⟨f1, f2, f3, f4, f5, f6, f7, f8⟩ := kfacts hk
  unfold rc4; rw [kn_of hk, f8]
  simp only [Bool.cond_eq_ite, size_zero]
  generalize u.d.size = n
  by_cases h8 : u.k = 8
  · simp only [h8]; simp; omega
  · have : (u.k != 8) = true := by simpa using h8
    simp only [h8, this]; simp
theorem rc_ok {u : U} (hk : 1 ≤ u.k ∧ u.k ≤ 10) : okU u ↔ rc1 u = false ∧ rc2 u = false ∧ rc3 u = false ∧ rc4 u = true := by
  rw [okU_iff hk, rc1_iff hk, rc2_iff hk, rc3_iff hk, rc4_iff hk]
  constructor
  · rintro ⟨g1, g2, g3, g4, g5, ⟨g6, g6', g6''⟩, g7, g8, g9, g10⟩
    exact ⟨⟨g5, ⟨g6, g6''⟩, g7⟩, ⟨g8, g9, g3, g4⟩, ⟨fun h => by have := g6' h; omega, g10, g2⟩, g1⟩
  · rintro ⟨⟨g5, ⟨g6, g6''⟩, g7⟩, ⟨g8, g9, g3, g4⟩, ⟨g11, g10, g2⟩, g1⟩
    exact ⟨g1, g2, g3, g4, g5, ⟨g6, fun h => by have := g11 h; have := g6 (by omega); omega, g6''⟩, g7, g8, g9, g10⟩
def VcRefValid : Prop := ∀ (u : U), condX (bif decide (U.k u < (1 : Int)) then true else decide ((10 : Int) < U.k u)) (SV.g (Value.bool false) = SV.g (Value.bool (decide (okU u)))) (((0 : Int) ≤ U.k u ∧ U.k u < (11 : Int)) ∧ ((0 : Int) ≤ U.k u ∧
  U.k u < (11 : Int)) ∧ ((!!(decide (U.to u = (0 : Int)) || hasB (fdOf (Int.toNat (U.k u))) (116 : Int) && decide ((0 : Int) < U.to u) && decide (U.to u ≤ (65535 : Int)))) = true → (0 : Int) ≤ U.k u ∧ U.k u < (11 : Int)) ∧
  ((!bif !(decide (U.to u = (0 : Int)) || hasB (fdOf (Int.toNat (U.k u))) (116 : Int) && decide ((0 : Int) < U.to u) && decide (U.to u ≤ (65535 : Int))) then true else !(decide (U.fr u = (0 : Int)) || hasB (fdOf (Int.toNat
  (U.k u))) (102 : Int) && decide ((0 : Int) < U.fr u) && decide (U.fr u ≤ (65535 : Int)))) = true → (0 : Int) ≤ U.k u ∧ U.k u < (11 : Int)) ∧ condX (bif bif !(decide (U.to u = (0 : Int)) || hasB (fdOf (Int.toNat (U.k u)))
  (116 : Int) && decide ((0 : Int) < U.to u) && decide (U.to u ≤ (65535 : Int))) then true else !(decide (U.fr u = (0 : Int)) || hasB (fdOf (Int.toNat (U.k u))) (102 : Int) && decide ((0 : Int) < U.fr u) && decide (U.fr u
  ≤ (65535 : Int))) then true else !(decide (U.nu u = (0 : Int)) || hasB (fdOf (Int.toNat (U.k u))) (110 : Int) && decide ((0 : Int) < U.nu u) && decide (U.nu u ≤ (2147483647 : Int)))) (SV.g (Value.bool false) = SV.g
  (Value.bool (decide (okU u)))) (((0 : Int) ≤ U.k u ∧ U.k u < (11 : Int)) ∧ ((!!(decide (U.cr u = (0 : Int)) || hasB (fdOf (Int.toNat (U.k u))) (99 : Int) && decide ((0 : Int) < U.cr u) && decide (U.cr u ≤ (255 : Int))))
  = true → (0 : Int) ≤ U.k u ∧ U.k u < (11 : Int)) ∧ condX (bif bif !(decide (U.cr u = (0 : Int)) || hasB (fdOf (Int.toNat (U.k u))) (99 : Int) && decide ((0 : Int) < U.cr u) && decide (U.cr u ≤ (255 : Int))) then true
  else !(decide (U.re u = (0 : Int)) || hasB (fdOf (Int.toNat (U.k u))) (114 : Int) && decide ((0 : Int) < U.re u) && decide (U.re u ≤ (255 : Int))) then true else !(decide (U.cl u = (0 : Int)) || hasB (fdOf (Int.toNat
  (U.k u))) (115 : Int) && decide ((0 : Int) < U.cl u) && decide (U.cl u ≤ (4 : Int)))) (SV.g (Value.bool false) = SV.g (Value.bool (decide (okU u)))) (condX (bif bif bif hasB (fdOf (Int.toNat (U.k u))) (115 : Int) then
  bif bif U.fr u == (0 : Int) then true else decide (U.sz u < (7 : Int)) then true else decide ((12 : Int) < U.sz u) else false then true else bif !hasB (fdOf (Int.toNat (U.k u))) (115 : Int) then U.sz u != (0 : Int) else
  false then true else bif U.e u then U.k u != (5 : Int) else false) (SV.g (Value.bool false) = SV.g (Value.bool (decide (okU u)))) (SV.g (Value.bool (bif decide ((↑(ByteArray.size (U.d u)) : Int) ≤ hiOf (kn (U.k u))) then
  bif U.k u != (8 : Int) then true else !decide (U.d u = ByteArray.mk #[]) else false)) = SV.g (Value.bool (decide (okU u)))))))
theorem vcRefValidE : VcRefValid = (∀ (u : U), fnX cx_rValid (bodyOf Try.f26) Try.f26.results.toList [.agg u.cells] [] (fun r _ => r = .g (.bool (decide (okU u))))) := by kernel_rfl
set_option maxHeartbeats 4000000 in
theorem vcRefValid : VcRefValid := by
  intro u
  refine (condX_iff _ _ _).2 ⟨fun h => ?_, fun h => ?_⟩
  · have : ¬ okU u := fun ho => by have := ho.1; simp at h; omega
    simp [this]
  · have hk : 1 ≤ u.k ∧ u.k ≤ 10 := by simp at h; omega
    have hb : (0 : Int) ≤ u.k ∧ u.k < (11 : Int) := by omega
    have hno : ¬ okU u → SV.g (.bool false) = SV.g (.bool (decide (okU u))) := fun h => by simp [h]
    refine ⟨hb, hb, fun _ => hb, fun _ => hb, (condX_iff _ _ _).2 ⟨fun (h1 : rc1 u = true) => hno ?_, fun (h1 : rc1 u = false) => ⟨hb, fun _ => hb, (condX_iff _ _ _).2 ⟨fun (h2 : rc2 u = true) => hno ?_, fun (h2 : rc2 u = false) =>
      (condX_iff _ _ _).2 ⟨fun (h3 : rc3 u = true) => hno ?_, fun (h3 : rc3 u = false) => ?_⟩⟩⟩⟩⟩
    · rw [rc_ok hk, h1]; simp
    · rw [rc_ok hk, h2]; simp
    · rw [rc_ok hk, h3]; simp
    · show SV.g (.bool (rc4 u)) = SV.g (.bool (decide (okU u)))
      congr 2
      rw [Bool.eq_iff_iff, decide_eq_true_eq, rc_ok hk]
      simp [h1, h2, h3]
theorem vcRefValidK : ∀ (u : U), Held (fnX cx_rValid (bodyOf Try.f26) Try.f26.results.toList [.agg u.cells] [] (fun r _ => r = .g (.bool (decide (okU u))))) := held1 vcRefValidE vcRefValid
def tf6 : ByteArray := ⟨#[116, 102, 110, 99, 114, 115]⟩
def annValid (u : U) : Ann := ⟨Nat, fun i => ⟨[(1, .ptr 0 0 0 0), (3, .ptr 1 0 0 0), (67, .ptr 2 0 0 0)], [(0, .cells u.cells 60), (1, .cells (frow (kn u.k)) 79), (2, .iter tf6 i)], 3, 0, []⟩,
  fun i => i ≤ 6 ∧ ∀ j < i, letOK u (byteAt tf6 j), fun i => 6 - i⟩
def cx_Valid (u : U) : Cx := ⟨ty, ΓOf Γ1, fun _ => [], fun i _ => if i = 8 then [annValid u] else [], 98, 0⟩
theorem valBranch {u : U} {L v lo top : Int} {N : Prop} (hL : letOK u L ↔ fOK (hasB (fdOf (kn u.k)) L) v lo top) (hno : ¬ letOK u L → ¬ okU u) (hN : letOK u L → N) :
    condX (hasB (fdOf (kn u.k)) L) (condX (bif decide (v < lo) then true else decide (top < v)) (SV.g (.bool false) = SV.g (.bool (decide (okU u)))) N) (condX (v != 0) (SV.g (.bool false) = SV.g (.bool (decide (okU u)))) N) := by
  have hn : ¬ letOK u L → SV.g (.bool false) = SV.g (.bool (decide (okU u))) := fun h => by simp [hno h]
  rw [fOK_iff] at hL
  refine (condX_iff _ _ _).2 ⟨fun h => (condX_iff _ _ _).2 ⟨fun g => hn ?_, fun g => hN ?_⟩, fun h => (condX_iff _ _ _).2 ⟨fun g => hn ?_, fun g => hN ?_⟩⟩
  all_goals rw [hL, h]; (try simp only [Bool.cond_eq_ite] at g); simp at g ⊢; omega
def Bq0 (u : U) := (SV.g (Value.bool false) = SV.g (Value.bool (decide (okU u))))
def Bq1 (x' : Nat) (u : U) := (x' ≤ (6 : Nat) ∧ ∀ (j : Nat), j < x' → letOK u (byteAt tf6 (↑j : Int)))
def VcValid : Prop := ∀ (u : U), condX (bif bif bif !isK (U.k u) then true else decide ((↑(ByteArray.size (U.d u)) : Int) < loOf (kn (U.k u))) then true else decide (hiOf (kn (U.k u)) < (↑(ByteArray.size (U.d u)) : Int)) then true else bif
  U.e u then U.k u != (5 : Int) else false) (Bq0 u) (condX (bif bif decide (U.cl u < (0 : Int)) then true else decide ((4 : Int) < U.cl u) then true else bif !bif U.k u == (1 : Int) then true else U.k u == (2 : Int) then
  U.cl u != (0 : Int) else false) (Bq0 u) ((∃ (x : Nat), (x ≤ (6 : Nat) ∧ ∀ (j : Nat), j < x → letOK u (byteAt tf6 (↑j : Int))) ∧ (0 : Nat) = (0 : Nat) ∧ (0 : Nat) = (0 : Nat) ∧ (0 : Nat) = (0 : Nat) ∧ [SV.g (Value.int
  IntKind.i64 (U.k u)), SV.g (Value.int IntKind.i64 (U.to u)), SV.g (Value.int IntKind.i64 (U.fr u)), SV.g (Value.int IntKind.i64 (U.cl u)), SV.g (Value.int IntKind.i64 (U.sz u)), SV.g (Value.int IntKind.i64 (U.nu u)),
  SV.g (Value.int IntKind.i64 (U.cr u)), SV.g (Value.int IntKind.i64 (U.re u)), SV.g (Value.bool (U.e u)), SV.g (Value.string (U.d u))] = U.cells u ∧ [SV.g (Value.string (nmOf (kn (U.k u)))), SV.g (Value.string (fdOf (kn
  (U.k u)))), SV.g (Value.int IntKind.i64 (loOf (kn (U.k u)))), SV.g (Value.int IntKind.i64 (hiOf (kn (U.k u))))] = frow (kn (U.k u)) ∧ ByteArray.mk #[(116 : UInt8), (102 : UInt8), (110 : UInt8), (99 : UInt8), (114 :
  UInt8), (115 : UInt8)] = tf6 ∧ (0 : Nat) = x ∧ True) ∧ ∀ (x : Nat), (x ≤ (6 : Nat) ∧ ∀ (j : Nat), j < x → letOK u (byteAt tf6 (↑j : Int))) → condX (decide (x < (6 : Nat))) ((0 : Nat) = (0 : Nat) ∧ (↑(Prod.fst
  (Utf8.decode tf6 x)) : Int) = (↑(Prod.fst (Utf8.decode tf6 x)) : Int) ∧ U.cells u = U.cells u ∧ True ∧ ((↑(Prod.fst (Utf8.decode tf6 x)) : Int) = (116 : Int) → ascii (fdOf (kn (U.k u))) ∧ condX (hasB (fdOf (kn (U.k u)))
  (↑(Prod.fst (Utf8.decode tf6 x)) : Int)) (condX (bif decide (U.to u < (0 : Int)) then true else decide ((65535 : Int) < U.to u)) (Bq0 u) (∃ (x' : Nat), (Bq1 x' u) ∧ (6 : Nat) - x' < (6 : Nat) - x ∧ (0 : Nat) = (0 : Nat)
  ∧ (0 : Nat) = (0 : Nat) ∧ (0 : Nat) = (0 : Nat) ∧ [SV.g (Value.int IntKind.i64 (U.k u)), SV.g (Value.int IntKind.i64 (U.to u)), SV.g (Value.int IntKind.i64 (U.fr u)), SV.g (Value.int IntKind.i64 (U.cl u)), SV.g
  (Value.int IntKind.i64 (U.sz u)), SV.g (Value.int IntKind.i64 (U.nu u)), SV.g (Value.int IntKind.i64 (U.cr u)), SV.g (Value.int IntKind.i64 (U.re u)), SV.g (Value.bool (U.e u)), SV.g (Value.string (U.d u))] = U.cells u ∧
  frow (kn (U.k u)) = frow (kn (U.k u)) ∧ tf6 = tf6 ∧ x + Prod.snd (Utf8.decode tf6 x) = x' ∧ True)) (condX (U.to u != (0 : Int)) (Bq0 u) (∃ (x' : Nat), (Bq1 x' u) ∧ (6 : Nat) - x' < (6 : Nat) - x ∧ (0 : Nat) = (0 : Nat) ∧
  (0 : Nat) = (0 : Nat) ∧ (0 : Nat) = (0 : Nat) ∧ [SV.g (Value.int IntKind.i64 (U.k u)), SV.g (Value.int IntKind.i64 (U.to u)), SV.g (Value.int IntKind.i64 (U.fr u)), SV.g (Value.int IntKind.i64 (U.cl u)), SV.g (Value.int
  IntKind.i64 (U.sz u)), SV.g (Value.int IntKind.i64 (U.nu u)), SV.g (Value.int IntKind.i64 (U.cr u)), SV.g (Value.int IntKind.i64 (U.re u)), SV.g (Value.bool (U.e u)), SV.g (Value.string (U.d u))] = U.cells u ∧ frow (kn
  (U.k u)) = frow (kn (U.k u)) ∧ tf6 = tf6 ∧ x + Prod.snd (Utf8.decode tf6 x) = x' ∧ True))) ∧ ((↑(Prod.fst (Utf8.decode tf6 x)) : Int) = (102 : Int) → ascii (fdOf (kn (U.k u))) ∧ condX (hasB (fdOf (kn (U.k u)))
  (↑(Prod.fst (Utf8.decode tf6 x)) : Int)) (condX (bif decide (U.fr u < loF u) then true else decide ((65535 : Int) < U.fr u)) (Bq0 u) (∃ (x' : Nat), (Bq1 x' u) ∧ (6 : Nat) - x' < (6 : Nat) - x ∧ (0 : Nat) = (0 : Nat) ∧ (0
  : Nat) = (0 : Nat) ∧ (0 : Nat) = (0 : Nat) ∧ [SV.g (Value.int IntKind.i64 (U.k u)), SV.g (Value.int IntKind.i64 (U.to u)), SV.g (Value.int IntKind.i64 (U.fr u)), SV.g (Value.int IntKind.i64 (U.cl u)), SV.g (Value.int
  IntKind.i64 (U.sz u)), SV.g (Value.int IntKind.i64 (U.nu u)), SV.g (Value.int IntKind.i64 (U.cr u)), SV.g (Value.int IntKind.i64 (U.re u)), SV.g (Value.bool (U.e u)), SV.g (Value.string (U.d u))] = U.cells u ∧ frow (kn
  (U.k u)) = frow (kn (U.k u)) ∧ tf6 = tf6 ∧ x + Prod.snd (Utf8.decode tf6 x) = x' ∧ True)) (condX (U.fr u != (0 : Int)) (Bq0 u) (∃ (x' : Nat), (Bq1 x' u) ∧ (6 : Nat) - x' < (6 : Nat) - x ∧ (0 : Nat) = (0 : Nat) ∧ (0 :
  Nat) = (0 : Nat) ∧ (0 : Nat) = (0 : Nat) ∧ [SV.g (Value.int IntKind.i64 (U.k u)), SV.g (Value.int IntKind.i64 (U.to u)), SV.g (Value.int IntKind.i64 (U.fr u)), SV.g (Value.int IntKind.i64 (U.cl u)), SV.g (Value.int
  IntKind.i64 (U.sz u)), SV.g (Value.int IntKind.i64 (U.nu u)), SV.g (Value.int IntKind.i64 (U.cr u)), SV.g (Value.int IntKind.i64 (U.re u)), SV.g (Value.bool (U.e u)), SV.g (Value.string (U.d u))] = U.cells u ∧ frow (kn
  (U.k u)) = frow (kn (U.k u)) ∧ tf6 = tf6 ∧ x + Prod.snd (Utf8.decode tf6 x) = x' ∧ True))) ∧ ((↑(Prod.fst (Utf8.decode tf6 x)) : Int) = (110 : Int) → ascii (fdOf (kn (U.k u))) ∧ condX (hasB (fdOf (kn (U.k u)))
  (↑(Prod.fst (Utf8.decode tf6 x)) : Int)) (condX (bif decide (U.nu u < (0 : Int)) then true else decide ((2147483647 : Int) < U.nu u)) (Bq0 u) (∃ (x' : Nat), (Bq1 x' u) ∧ (6 : Nat) - x' < (6 : Nat) - x ∧ (0 : Nat) = (0 :
  Nat) ∧ (0 : Nat) = (0 : Nat) ∧ (0 : Nat) = (0 : Nat) ∧ [SV.g (Value.int IntKind.i64 (U.k u)), SV.g (Value.int IntKind.i64 (U.to u)), SV.g (Value.int IntKind.i64 (U.fr u)), SV.g (Value.int IntKind.i64 (U.cl u)), SV.g
  (Value.int IntKind.i64 (U.sz u)), SV.g (Value.int IntKind.i64 (U.nu u)), SV.g (Value.int IntKind.i64 (U.cr u)), SV.g (Value.int IntKind.i64 (U.re u)), SV.g (Value.bool (U.e u)), SV.g (Value.string (U.d u))] = U.cells u ∧
  frow (kn (U.k u)) = frow (kn (U.k u)) ∧ tf6 = tf6 ∧ x + Prod.snd (Utf8.decode tf6 x) = x' ∧ True)) (condX (U.nu u != (0 : Int)) (Bq0 u) (∃ (x' : Nat), (Bq1 x' u) ∧ (6 : Nat) - x' < (6 : Nat) - x ∧ (0 : Nat) = (0 : Nat) ∧
  (0 : Nat) = (0 : Nat) ∧ (0 : Nat) = (0 : Nat) ∧ [SV.g (Value.int IntKind.i64 (U.k u)), SV.g (Value.int IntKind.i64 (U.to u)), SV.g (Value.int IntKind.i64 (U.fr u)), SV.g (Value.int IntKind.i64 (U.cl u)), SV.g (Value.int
  IntKind.i64 (U.sz u)), SV.g (Value.int IntKind.i64 (U.nu u)), SV.g (Value.int IntKind.i64 (U.cr u)), SV.g (Value.int IntKind.i64 (U.re u)), SV.g (Value.bool (U.e u)), SV.g (Value.string (U.d u))] = U.cells u ∧ frow (kn
  (U.k u)) = frow (kn (U.k u)) ∧ tf6 = tf6 ∧ x + Prod.snd (Utf8.decode tf6 x) = x' ∧ True))) ∧ ((↑(Prod.fst (Utf8.decode tf6 x)) : Int) = (99 : Int) → ascii (fdOf (kn (U.k u))) ∧ condX (hasB (fdOf (kn (U.k u))) (↑(Prod.fst
  (Utf8.decode tf6 x)) : Int)) (condX (bif decide (U.cr u < (0 : Int)) then true else decide ((255 : Int) < U.cr u)) (Bq0 u) (∃ (x' : Nat), (Bq1 x' u) ∧ (6 : Nat) - x' < (6 : Nat) - x ∧ (0 : Nat) = (0 : Nat) ∧ (0 : Nat) =
  (0 : Nat) ∧ (0 : Nat) = (0 : Nat) ∧ [SV.g (Value.int IntKind.i64 (U.k u)), SV.g (Value.int IntKind.i64 (U.to u)), SV.g (Value.int IntKind.i64 (U.fr u)), SV.g (Value.int IntKind.i64 (U.cl u)), SV.g (Value.int IntKind.i64
  (U.sz u)), SV.g (Value.int IntKind.i64 (U.nu u)), SV.g (Value.int IntKind.i64 (U.cr u)), SV.g (Value.int IntKind.i64 (U.re u)), SV.g (Value.bool (U.e u)), SV.g (Value.string (U.d u))] = U.cells u ∧ frow (kn (U.k u)) =
  frow (kn (U.k u)) ∧ tf6 = tf6 ∧ x + Prod.snd (Utf8.decode tf6 x) = x' ∧ True)) (condX (U.cr u != (0 : Int)) (Bq0 u) (∃ (x' : Nat), (Bq1 x' u) ∧ (6 : Nat) - x' < (6 : Nat) - x ∧ (0 : Nat) = (0 : Nat) ∧ (0 : Nat) = (0 :
  Nat) ∧ (0 : Nat) = (0 : Nat) ∧ [SV.g (Value.int IntKind.i64 (U.k u)), SV.g (Value.int IntKind.i64 (U.to u)), SV.g (Value.int IntKind.i64 (U.fr u)), SV.g (Value.int IntKind.i64 (U.cl u)), SV.g (Value.int IntKind.i64 (U.sz
  u)), SV.g (Value.int IntKind.i64 (U.nu u)), SV.g (Value.int IntKind.i64 (U.cr u)), SV.g (Value.int IntKind.i64 (U.re u)), SV.g (Value.bool (U.e u)), SV.g (Value.string (U.d u))] = U.cells u ∧ frow (kn (U.k u)) = frow (kn
  (U.k u)) ∧ tf6 = tf6 ∧ x + Prod.snd (Utf8.decode tf6 x) = x' ∧ True))) ∧ ((↑(Prod.fst (Utf8.decode tf6 x)) : Int) = (114 : Int) → ascii (fdOf (kn (U.k u))) ∧ condX (hasB (fdOf (kn (U.k u))) (↑(Prod.fst (Utf8.decode tf6
  x)) : Int)) (condX (bif decide (U.re u < (0 : Int)) then true else decide ((255 : Int) < U.re u)) (Bq0 u) (∃ (x' : Nat), (Bq1 x' u) ∧ (6 : Nat) - x' < (6 : Nat) - x ∧ (0 : Nat) = (0 : Nat) ∧ (0 : Nat) = (0 : Nat) ∧ (0 :
  Nat) = (0 : Nat) ∧ [SV.g (Value.int IntKind.i64 (U.k u)), SV.g (Value.int IntKind.i64 (U.to u)), SV.g (Value.int IntKind.i64 (U.fr u)), SV.g (Value.int IntKind.i64 (U.cl u)), SV.g (Value.int IntKind.i64 (U.sz u)), SV.g
  (Value.int IntKind.i64 (U.nu u)), SV.g (Value.int IntKind.i64 (U.cr u)), SV.g (Value.int IntKind.i64 (U.re u)), SV.g (Value.bool (U.e u)), SV.g (Value.string (U.d u))] = U.cells u ∧ frow (kn (U.k u)) = frow (kn (U.k u))
  ∧ tf6 = tf6 ∧ x + Prod.snd (Utf8.decode tf6 x) = x' ∧ True)) (condX (U.re u != (0 : Int)) (Bq0 u) (∃ (x' : Nat), (Bq1 x' u) ∧ (6 : Nat) - x' < (6 : Nat) - x ∧ (0 : Nat) = (0 : Nat) ∧ (0 : Nat) = (0 : Nat) ∧ (0 : Nat) =
  (0 : Nat) ∧ [SV.g (Value.int IntKind.i64 (U.k u)), SV.g (Value.int IntKind.i64 (U.to u)), SV.g (Value.int IntKind.i64 (U.fr u)), SV.g (Value.int IntKind.i64 (U.cl u)), SV.g (Value.int IntKind.i64 (U.sz u)), SV.g
  (Value.int IntKind.i64 (U.nu u)), SV.g (Value.int IntKind.i64 (U.cr u)), SV.g (Value.int IntKind.i64 (U.re u)), SV.g (Value.bool (U.e u)), SV.g (Value.string (U.d u))] = U.cells u ∧ frow (kn (U.k u)) = frow (kn (U.k u))
  ∧ tf6 = tf6 ∧ x + Prod.snd (Utf8.decode tf6 x) = x' ∧ True))) ∧ ((↑(Prod.fst (Utf8.decode tf6 x)) : Int) ≠ (116 : Int) ∧ (↑(Prod.fst (Utf8.decode tf6 x)) : Int) ≠ (102 : Int) ∧ (↑(Prod.fst (Utf8.decode tf6 x)) : Int) ≠
  (110 : Int) ∧ (↑(Prod.fst (Utf8.decode tf6 x)) : Int) ≠ (99 : Int) ∧ (↑(Prod.fst (Utf8.decode tf6 x)) : Int) ≠ (114 : Int) → ascii (fdOf (kn (U.k u))) ∧ condX (hasB (fdOf (kn (U.k u))) (↑(Prod.fst (Utf8.decode tf6 x)) :
  Int)) (condX (bif decide (U.sz u < (7 : Int)) then true else decide ((12 : Int) < U.sz u)) (Bq0 u) (∃ (x' : Nat), (Bq1 x' u) ∧ (6 : Nat) - x' < (6 : Nat) - x ∧ (0 : Nat) = (0 : Nat) ∧ (0 : Nat) = (0 : Nat) ∧ (0 : Nat) =
  (0 : Nat) ∧ [SV.g (Value.int IntKind.i64 (U.k u)), SV.g (Value.int IntKind.i64 (U.to u)), SV.g (Value.int IntKind.i64 (U.fr u)), SV.g (Value.int IntKind.i64 (U.cl u)), SV.g (Value.int IntKind.i64 (U.sz u)), SV.g
  (Value.int IntKind.i64 (U.nu u)), SV.g (Value.int IntKind.i64 (U.cr u)), SV.g (Value.int IntKind.i64 (U.re u)), SV.g (Value.bool (U.e u)), SV.g (Value.string (U.d u))] = U.cells u ∧ frow (kn (U.k u)) = frow (kn (U.k u))
  ∧ tf6 = tf6 ∧ x + Prod.snd (Utf8.decode tf6 x) = x' ∧ True)) (condX (U.sz u != (0 : Int)) (Bq0 u) (∃ (x' : Nat), (Bq1 x' u) ∧ (6 : Nat) - x' < (6 : Nat) - x ∧ (0 : Nat) = (0 : Nat) ∧ (0 : Nat) = (0 : Nat) ∧ (0 : Nat) =
  (0 : Nat) ∧ [SV.g (Value.int IntKind.i64 (U.k u)), SV.g (Value.int IntKind.i64 (U.to u)), SV.g (Value.int IntKind.i64 (U.fr u)), SV.g (Value.int IntKind.i64 (U.cl u)), SV.g (Value.int IntKind.i64 (U.sz u)), SV.g
  (Value.int IntKind.i64 (U.nu u)), SV.g (Value.int IntKind.i64 (U.cr u)), SV.g (Value.int IntKind.i64 (U.re u)), SV.g (Value.bool (U.e u)), SV.g (Value.string (U.d u))] = U.cells u ∧ frow (kn (U.k u)) = frow (kn (U.k u))
  ∧ tf6 = tf6 ∧ x + Prod.snd (Utf8.decode tf6 x) = x' ∧ True)))) (SV.g (Value.bool true) = SV.g (Value.bool (decide (okU u))))))
theorem vcValidE : VcValid = (∀ (u : U), fnX (cx_Valid u) (bodyOf Try.f44) Try.f44.results.toList [.agg u.cells] [] (fun r _ => r = .g (.bool (decide (okU u))))) := by kernel_rfl
set_option maxHeartbeats 4000000 in
theorem vcValid : VcValid := by
  unfold VcValid Bq1 Bq0
  intro u
  have hno : ¬ okU u → SV.g (.bool false) = SV.g (.bool (decide (okU u))) := fun h => by simp [h]
  refine (condX_iff _ _ _).2 ⟨fun h => hno ?_, fun h => (condX_iff _ _ _).2 ⟨fun h1 => hno ?_, fun h1 => ⟨⟨0, ⟨Nat.zero_le _, fun j hj => absurd hj (Nat.not_lt_zero j)⟩, rfl, rfl, rfl, rfl, rfl, rfl, rfl, trivial⟩, fun x hx => (condX_iff _ _ _).2 ⟨fun hlt => ?_, fun hge => ?_⟩⟩⟩⟩
  · rintro ⟨g1, g2, g3, _⟩
    simp only [Bool.cond_eq_ite, isK] at h
    cases he : u.e <;> simp only [he] at h g3 <;> simp at h g3 <;> omega
  · rintro ⟨g1, g2, g3, g4, g5, _⟩
    simp only [Bool.cond_eq_ite] at h1
    simp at h1; omega
  · have hx6 : x < 6 := by simpa using hlt
    have ha : ascii tf6 := by unfold ascii; decide
    obtain ⟨d1, d2⟩ := decode_at ha (show x < tf6.size from hx6)
    have hL : byteAt tf6 x = 116 ∨ byteAt tf6 x = 102 ∨ byteAt tf6 x = 110 ∨ byteAt tf6 x = 99 ∨ byteAt tf6 x = 114 ∨ byteAt tf6 x = 115 := by
      have : ∀ x : Nat, x < 6 → byteAt tf6 x = 116 ∨ byteAt tf6 x = 102 ∨ byteAt tf6 x = 110 ∨ byteAt tf6 x = 99 ∨ byteAt tf6 x = 114 ∨ byteAt tf6 x = 115 := by decide
      exact this x hx6
    have hbad : ¬ letOK u (byteAt tf6 x) → ¬ okU u := by
      rintro hl ⟨_, _, _, _, _, g1, g2, g3, g4, g5, g6⟩
      apply hl
      rcases hL with e | e | e | e | e | e <;> rw [e] <;> assumption
    have hnx : letOK u (byteAt tf6 x) → ∀ j : Nat, j < x + 1 → letOK u (byteAt tf6 j) := by
      intro hl j hj
      rcases Nat.lt_succ_iff_lt_or_eq.1 hj with h3 | rfl
      · exact hx.2 j h3
      · exact hl
    rw [d1, d2]
    generalize byteAt tf6 x = L at hL hbad hnx
    refine ⟨rfl, rfl, rfl, trivial, fun e => ⟨fdOf_ascii _, valBranch ?_ hbad fun hl => ?_⟩, fun e => ⟨fdOf_ascii _, valBranch ?_ hbad fun hl => ?_⟩, fun e => ⟨fdOf_ascii _, valBranch ?_ hbad fun hl => ?_⟩,
      fun e => ⟨fdOf_ascii _, valBranch ?_ hbad fun hl => ?_⟩, fun e => ⟨fdOf_ascii _, valBranch ?_ hbad fun hl => ?_⟩, fun e => ⟨fdOf_ascii _, valBranch ?_ hbad fun hl => ?_⟩⟩
    any_goals exact ⟨x + 1, ⟨hx6, hnx hl⟩, by omega, rfl, rfl, rfl, rfl, rfl, rfl, rfl, trivial⟩
    · rw [e]; exact Iff.rfl
    · rw [e]; exact Iff.rfl
    · rw [e]; exact Iff.rfl
    · rw [e]; exact Iff.rfl
    · rw [e]; exact Iff.rfl
    · have : L = 115 := by omega
      rw [this]; exact Iff.rfl
  · have hx6 : x = 6 := by have := hx.1; simp at hge; omega
    subst hx6
    have : okU u := by
      simp only [Bool.cond_eq_ite, isK] at h h1
      have g1 := hx.2 0 (by omega)
      have g2 := hx.2 1 (by omega)
      have g3 := hx.2 2 (by omega)
      have g4 := hx.2 3 (by omega)
      have g5 := hx.2 4 (by omega)
      have g6 := hx.2 5 (by omega)
      refine ⟨?_, ?_, ?_, ?_, ?_, g1, g2, g3, g4, g5, g6⟩
      all_goals cases he : u.e <;> simp only [he] at h ⊢ <;> simp at h h1 ⊢ <;> omega
    simp [this]
theorem vcValidK : ∀ (u : U), Held (fnX (cx_Valid u) (bodyOf Try.f44) Try.f44.results.toList [.agg u.cells] [] (fun r _ => r = .g (.bool (decide (okU u))))) := held1 vcValidE vcValid
end Go.Proofs.Ytghbejmnnfoamaa
