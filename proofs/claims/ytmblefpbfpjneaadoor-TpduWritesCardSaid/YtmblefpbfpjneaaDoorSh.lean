/- Chapter 15: Name, Show; the law TpduWrites. -/
import Derived.Test.YtmblefpbfpjneaaDoorF
import Derived.Test.YtmblefpbfpjneaaDoorWc
import Derived.Test.YtmblefpbfpjneaaDoorIt
import Derived.Lib.ItoaLen
set_option linter.unusedVariables false
set_option linter.unusedSimpArgs false
namespace Go.Proofs.YtmblefpbfpjneaaDoor
open Go Go.Eng
attribute [local irreducible] condX
/-! ### names -/
def nameR (k : Int) : SV := .tup [.g (.string (if 1 ≤ k ∧ k ≤ 10 then nmOf k.toNat else ⟨#[]⟩)), .g (.int .i64 (if 1 ≤ k ∧ k ≤ 10 then 0 else 1))]
def X_Name15 : XC := ⟨Int, fun | [.g (.int .i64 k)] => some k | _ => none, fun k => [.g (.int .i64 k)], fun _ => True, nameR⟩
def X_rName15 : XC := X_Name15
def cx_Name15 (_ : Int) : Cx := ⟨ty, ΓOf Γ5, fun _ => [], fun _ _ => [], 15, 0⟩
def cx_rName15 (_ : Int) : Cx := ⟨ty, ΓOf Γ5, fun _ => [], fun _ _ => [], 14, 0⟩
def VcName15 : Prop := ∀ (k : Int), True → condX (!isK k) (SV.tup [SV.g (Value.string (ByteArray.mk #[])), SV.g (Value.int IntKind.i64 (1 : Int))] = SV.tup [SV.g (Value.string (if (1 : Int) ≤ k ∧ k ≤ (10 : Int) then nmOf (Int.toNat k) else
  ByteArray.mk #[])), SV.g (Value.int IntKind.i64 (if (1 : Int) ≤ k ∧ k ≤ (10 : Int) then (0 : Int) else (1 : Int)))]) (SV.tup [SV.g (Value.string (nmOf (kn k))), SV.g (Value.int IntKind.i64 (0 : Int))] = SV.tup [SV.g
  (Value.string (if (1 : Int) ≤ k ∧ k ≤ (10 : Int) then nmOf (Int.toNat k) else ByteArray.mk #[])), SV.g (Value.int IntKind.i64 (if (1 : Int) ≤ k ∧ k ≤ (10 : Int) then (0 : Int) else (1 : Int)))])
theorem vcName15E : VcName15 = (∀ (k : Int), True → fnX (cx_Name15 k) (bodyOf Tryd.f9) Tryd.f9.results.toList [.g (.int .i64 k)] [] (fun r _ => r = nameR k)) := by kernel_rfl
set_option maxHeartbeats 4000000 in
theorem vcName15 : VcName15 := by
  intro k _
  refine (condX_iff _ _ _).2 ⟨fun c => ?_, fun c => ?_⟩
  · have h : ¬ (1 ≤ k ∧ k ≤ 10) := by
      rintro ⟨a, b⟩; simp [isK] at c; omega
    rw [if_neg h, if_neg h]
  · have h : 1 ≤ k ∧ k ≤ 10 := by simpa [isK] using c
    rw [if_pos h, if_pos h, kn_of h]
theorem vcName15K : ∀ (k : Int), True → Held (fnX (cx_Name15 k) (bodyOf Tryd.f9) Tryd.f9.results.toList [.g (.int .i64 k)] [] (fun r _ => r = nameR k)) := held2 vcName15E vcName15
theorem ok_Name15 : ExactSound Tryd.prog Λ0 9 X_Name15.rule :=
  exact_rule (ty := ty) (Γ := ΓOf Γ5) hm tyOK Γ5_ok (fnOK_of Tryd.func9 (by kernel_rfl) (by kernel_rfl)) Tryd.func9 (body_some (by kernel_rfl)) X_Name15 Tryd.ntmps9 (fun _ => Nat.le_of_ble_eq_true rfl) (fun _ => rfl) (fun x => rfl) (fun x => (cx_Name15 x).cut) (fun x => (cx_Name15 x).loop) fun x h => vcName15K x h
def VcRName15 : Prop := ∀ (k : Int), True → condX (bif decide (k < (1 : Int)) then true else decide ((10 : Int) < k)) (SV.tup [SV.g (Value.string (ByteArray.mk #[])), SV.g (Value.int IntKind.i64 (1 : Int))] = SV.tup [SV.g (Value.string (if (1 :
  Int) ≤ k ∧ k ≤ (10 : Int) then nmOf (Int.toNat k) else ByteArray.mk #[])), SV.g (Value.int IntKind.i64 (if (1 : Int) ≤ k ∧ k ≤ (10 : Int) then (0 : Int) else (1 : Int)))]) (((0 : Int) ≤ k ∧ k < (11 : Int)) ∧ Int.toNat k
  < (11 : Nat) ∧ SV.tup [SV.g (Value.string (List.getD [ByteArray.mk #[], ByteArray.mk #[(67 : UInt8), (82 : UInt8)], ByteArray.mk #[(67 : UInt8), (67 : UInt8)], ByteArray.mk #[(68 : UInt8), (82 : UInt8)], ByteArray.mk
  #[(68 : UInt8), (67 : UInt8)], ByteArray.mk #[(68 : UInt8), (84 : UInt8)], ByteArray.mk #[(65 : UInt8), (75 : UInt8)], ByteArray.mk #[(82 : UInt8), (74 : UInt8)], ByteArray.mk #[(69 : UInt8), (68 : UInt8)], ByteArray.mk
  #[(69 : UInt8), (65 : UInt8)], ByteArray.mk #[(69 : UInt8), (82 : UInt8)]] (Int.toNat k) ByteArray.empty)), SV.g (Value.int IntKind.i64 (0 : Int))] = SV.tup [SV.g (Value.string (if (1 : Int) ≤ k ∧ k ≤ (10 : Int) then
  nmOf (Int.toNat k) else ByteArray.mk #[])), SV.g (Value.int IntKind.i64 (if (1 : Int) ≤ k ∧ k ≤ (10 : Int) then (0 : Int) else (1 : Int)))])
theorem vcRName15E : VcRName15 = (∀ (k : Int), True → fnX (cx_rName15 k) (bodyOf Tryd.f10) Tryd.f10.results.toList [.g (.int .i64 k)] [] (fun r _ => r = nameR k)) := by kernel_rfl
set_option maxHeartbeats 4000000 in
theorem vcRName15 : VcRName15 := by
  intro k _
  refine (condX_iff _ _ _).2 ⟨fun c => ?_, fun c => ?_⟩
  · have h : ¬ (1 ≤ k ∧ k ≤ 10) := by
      rintro ⟨a, b⟩
      have a' : ¬ k < 1 := by omega
      have b' : ¬ 10 < k := by omega
      simp [a', b'] at c
    rw [if_neg h, if_neg h]
  · have h : 1 ≤ k ∧ k ≤ 10 := by
      by_cases a : k < 1 <;> by_cases b : 10 < k <;> simp [a, b] at c <;> omega
    refine ⟨⟨by omega, by omega⟩, by omega, ?_⟩
    rw [if_pos h, if_pos h]
    rcases kcases h with e | e | e | e | e | e | e | e | e | e <;> subst e <;> rfl
theorem vcRName15K : ∀ (k : Int), True → Held (fnX (cx_rName15 k) (bodyOf Tryd.f10) Tryd.f10.results.toList [.g (.int .i64 k)] [] (fun r _ => r = nameR k)) := held2 vcRName15E vcRName15
theorem ok_rName15 : ExactSound Tryd.prog Λ0 10 X_rName15.rule :=
  exact_rule (ty := ty) (Γ := ΓOf Γ5) hm tyOK Γ5_ok (fnOK_of Tryd.func10 (by kernel_rfl) (by kernel_rfl)) Tryd.func10 (body_some (by kernel_rfl)) X_rName15 Tryd.ntmps10 (fun _ => Nat.le_of_ble_eq_true rfl) (fun _ => rfl) (fun x => rfl) (fun x => (cx_rName15 x).cut) (fun x => (cx_rName15 x).loop) fun x h => vcRName15K x h
/-! ### a field -/
def spS : ByteArray := ⟨#[32]⟩
def eqS : ByteArray := ⟨#[61]⟩
def shS (name : ByteArray) (n : Int) : ByteArray := if n = 0 then ⟨#[]⟩ else spS ++ name ++ eqS ++ itS n
theorem itS_size (n : Int) (h : -9223372036854775808 ≤ n ∧ n ≤ 9223372036854775807) : (itS n).size ≤ 21 := by
  have := Lib.itoa_length_le n h.1 h.2
  simpa [itS, ByteArray.size] using this
theorem app_nil (s : ByteArray) : s ++ ⟨#[]⟩ = s := by
  exact ByteArray.append_empty
def shPre (x : ByteArray × Int) : Prop := x.1.size ≤ 100 ∧ -9223372036854775808 ≤ x.2 ∧ x.2 ≤ 9223372036854775807
theorem shPreI {s : ByteArray} {n : Int} (h : s.size ≤ 100) (a : -9223372036854775808 ≤ n) (b : n ≤ 9223372036854775807) : shPre (s, n) := ⟨h, a, b⟩
theorem shS_size {x : ByteArray × Int} (h : shPre x) : (shS x.1 x.2).size ≤ 200 := by
  obtain ⟨h1, h2⟩ := h
  have := itS_size x.2 h2
  unfold shS
  split
  · exact Nat.zero_le _
  · simp only [ByteArray.size_append]
    have : spS.size = 1 := rfl
    have : eqS.size = 1 := rfl
    omega
def Γit : List (Nat × Rule) := (21, .exact X_Itoa.rule) :: (9, .exact X_Name15.rule) :: (10, .exact X_rName15.rule) :: Γ5
theorem Γit_ok : ΓOK Tryd.prog Λ0 (ΓOf Γit) := (ΓOf_cons ok_Itoa (ΓOf_cons ok_Name15 (ΓOf_cons ok_rName15 Γ5_ok)))
def X_rShown : XC := ⟨ByteArray × Int, fun | [.g (.string s), .g (.int .i64 n)] => some (s, n) | _ => none, fun x => [.g (.string x.1), .g (.int .i64 x.2)], shPre, fun x => .g (.string (shS x.1 x.2))⟩
def cx_rShown (_ : ByteArray × Int) : Cx := ⟨ty, ΓOf Γit, fun _ => [], fun _ _ => [], 13, 0⟩
def VcRShown : Prop := ∀ (x : ByteArray × Int), shPre x → condX (Prod.snd x == (0 : Int)) (SV.g (Value.string (ByteArray.mk #[])) = SV.g (Value.string (shS (Prod.fst x) (Prod.snd x)))) ((1 : Nat) + ByteArray.size (Prod.fst x) ≤
  (9223372036854775807 : Nat) ∧ ByteArray.size (ByteArray.mk #[(32 : UInt8)] ++ Prod.fst x) + (1 : Nat) ≤ (9223372036854775807 : Nat) ∧ [SV.g (Value.int IntKind.i64 (Prod.snd x))] = [SV.g (Value.int IntKind.i64 (Prod.snd
  x))] ∧ ((-9223372036854775808 : Int) ≤ Prod.snd x ∧ Prod.snd x ≤ (9223372036854775807 : Int)) ∧ ByteArray.size (ByteArray.mk #[(32 : UInt8)] ++ Prod.fst x ++ ByteArray.mk #[(61 : UInt8)]) + ByteArray.size (itS (Prod.snd
  x)) ≤ (9223372036854775807 : Nat) ∧ SV.g (Value.string (ByteArray.mk #[(32 : UInt8)] ++ Prod.fst x ++ ByteArray.mk #[(61 : UInt8)] ++ itS (Prod.snd x))) = SV.g (Value.string (shS (Prod.fst x) (Prod.snd x))))
theorem vcRShownE : VcRShown = (∀ (x : ByteArray × Int), shPre x → fnX (cx_rShown x) (bodyOf Tryd.f22) Tryd.f22.results.toList [.g (.string x.1), .g (.int .i64 x.2)] [] (fun r _ => r = .g (.string (shS x.1 x.2)))) := by kernel_rfl
set_option maxHeartbeats 4000000 in
theorem vcRShown : VcRShown := by
  rintro ⟨s, n⟩ hh
  obtain ⟨h1, h2, h3⟩ : s.size ≤ 100 ∧ -9223372036854775808 ≤ n ∧ n ≤ 9223372036854775807 := hh
  have hs := itS_size n ⟨h2, h3⟩
  simp only [eq_self, true_and, and_true, Nat.le_refl, Int.le_refl, implies_true, forall_const, and_false, false_and, exists_false, false_or, or_false, true_implies, Nat.zero_add, and_self, Int.toNat_natCast, cond_true, cond_false, condT, condF]
  have es : (⟨#[32]⟩ : ByteArray) = spS := rfl
  have ee : (⟨#[61]⟩ : ByteArray) = eqS := rfl
  have z1 : spS.size = 1 := rfl
  have z2 : eqS.size = 1 := rfl
  simp only [es, ee, ByteArray.size_append, z1, z2]
  refine (condX_iff _ _ _).2 ⟨fun c => ?_, fun c => ?_⟩
  · have h : n = 0 := by simpa using c
    rw [shS, if_pos h]
  · have h : ¬ n = 0 := by simpa using c
    refine ⟨by omega, by omega, ⟨h2, h3⟩, by omega, ?_⟩
    rw [shS, if_neg h]
theorem vcRShownK : ∀ (x : ByteArray × Int), shPre x → Held (fnX (cx_rShown x) (bodyOf Tryd.f22) Tryd.f22.results.toList [.g (.string x.1), .g (.int .i64 x.2)] [] (fun r _ => r = .g (.string (shS x.1 x.2)))) := held2 vcRShownE vcRShown
theorem ok_rShown : ExactSound Tryd.prog Λ0 22 X_rShown.rule :=
  exact_rule (ty := ty) (Γ := ΓOf Γit) hm tyOK Γit_ok (fnOK_of Tryd.func22 (by kernel_rfl) (by kernel_rfl)) Tryd.func22 (body_some (by kernel_rfl)) X_rShown Tryd.ntmps22 (fun _ => Nat.le_of_ble_eq_true rfl) (fun _ => rfl) (fun x => rfl) (fun x => (cx_rShown x).cut) (fun x => (cx_rShown x).loop) fun x h => vcRShownK x h
structure PutX where
  name : ByteArray
  n : Int
  s : ByteArray
def C_put15 : Ctr := ⟨1, PutX, fun x => [.g (.string x.name), .g (.int .i64 x.n), .ptr 0 0 0 0], fun x => [(0, .cells [.g (.string x.s)] 9)], fun x => shPre (x.name, x.n) ∧ x.s.size ≤ 10000, fun x => [.one True (.tup []) [(0, .cells [.g (.string (x.s ++ shS x.name x.n))] 9)]]⟩
def cx_put15 (_ : PutX) : Cx := ⟨ty, ΓOf Γit, fun _ => [], fun _ _ => [], 15, 1⟩
def VcPut15 : Prop := ∀ (x : PutX), shPre (PutX.name x, PutX.n x) ∧ ByteArray.size (PutX.s x) ≤ (10000 : Nat) → condX (PutX.n x != (0 : Int)) ((1 : Nat) + ByteArray.size (PutX.name x) ≤ (9223372036854775807 : Nat) ∧ ByteArray.size
  (ByteArray.mk #[(32 : UInt8)] ++ PutX.name x) + (1 : Nat) ≤ (9223372036854775807 : Nat) ∧ [SV.g (Value.int IntKind.i64 (PutX.n x))] = [SV.g (Value.int IntKind.i64 (PutX.n x))] ∧ ((-9223372036854775808 : Int) ≤ PutX.n x ∧
  PutX.n x ≤ (9223372036854775807 : Int)) ∧ ByteArray.size (ByteArray.mk #[(32 : UInt8)] ++ PutX.name x ++ ByteArray.mk #[(61 : UInt8)]) + ByteArray.size (itS (PutX.n x)) ≤ (9223372036854775807 : Nat) ∧ ByteArray.size
  (PutX.s x) + ByteArray.size (ByteArray.mk #[(32 : UInt8)] ++ PutX.name x ++ ByteArray.mk #[(61 : UInt8)] ++ itS (PutX.n x)) ≤ (9223372036854775807 : Nat) ∧ (True ∧ [SV.g (Value.string (PutX.s x ++ (ByteArray.mk #[(32 :
  UInt8)] ++ PutX.name x ++ ByteArray.mk #[(61 : UInt8)] ++ itS (PutX.n x))))] = [SV.g (Value.string (PutX.s x ++ shS (PutX.name x) (PutX.n x)))] ∧ True ∨ False)) (True ∧ [SV.g (Value.string (PutX.s x))] = [SV.g
  (Value.string (PutX.s x ++ shS (PutX.name x) (PutX.n x)))] ∧ True ∨ False)
theorem vcPut15E : VcPut15 = (∀ (x : PutX), (shPre (x.name, x.n) ∧ x.s.size ≤ 10000) → fnX (cx_put15 x) (bodyOf Tryd.f20) Tryd.f20.results.toList (C_put15.args x) (C_put15.H x) (endX 1 (C_put15.outs x))) := by kernel_rfl
set_option maxHeartbeats 4000000 in
theorem vcPut15 : VcPut15 := by
  rintro ⟨name, n, s⟩ hh
  obtain ⟨⟨h1, h2, h3⟩, h4⟩ : (name.size ≤ 100 ∧ -9223372036854775808 ≤ n ∧ n ≤ 9223372036854775807) ∧ s.size ≤ 10000 := hh
  have hs := itS_size n ⟨h2, h3⟩
  simp only [eq_self, true_and, and_true, Nat.le_refl, Int.le_refl, implies_true, forall_const, and_false, false_and, exists_false, false_or, or_false, true_implies, Nat.zero_add, and_self, Int.toNat_natCast, cond_true, cond_false, condT, condF]
  have es : (⟨#[32]⟩ : ByteArray) = spS := rfl
  have ee : (⟨#[61]⟩ : ByteArray) = eqS := rfl
  have z1 : spS.size = 1 := rfl
  have z2 : eqS.size = 1 := rfl
  simp only [es, ee, ByteArray.size_append, z1, z2]
  refine (condX_iff _ _ _).2 ⟨fun c => ?_, fun c => ?_⟩
  · have h : ¬ n = 0 := by simpa using c
    refine ⟨by omega, by omega, ⟨h2, h3⟩, by omega, by omega, ?_⟩
    rw [shS, if_neg h]
  · have h : n = 0 := by simpa using c
    rw [shS, if_pos h, app_nil]
theorem vcPut15K : ∀ (x : PutX), (shPre (x.name, x.n) ∧ x.s.size ≤ 10000) → Held (fnX (cx_put15 x) (bodyOf Tryd.f20) Tryd.f20.results.toList (C_put15.args x) (C_put15.H x) (endX 1 (C_put15.outs x))) := held2 vcPut15E vcPut15
def getPut : List SV → Heap → Option PutX
  | [.g (.string name), .g (.int .i64 n), .ptr id _ _ _], H => match Eng.look id H with
    | some (.cells [.g (.string s)] _) => some ⟨name, n, s⟩
    | _ => none
  | _, _ => none
theorem ok_put15 : GenSound Tryd.prog Λ0 20 (callX C_put15 getPut) :=
  gen_of (ty := ty) (Γ := ΓOf Γit) hm tyOK Γit_ok (fnOK_of Tryd.func20 (by kernel_rfl) (by kernel_rfl)) Tryd.func20 (body_some (by kernel_rfl)) C_put15 getPut Tryd.ntmps20 (fun _ => Nat.le_of_ble_eq_true rfl) (fun x => (cx_put15 x).cut) (fun x => (cx_put15 x).loop) fun x h => vcPut15K x h
def Γsh : List (Nat × Rule) := (22, .exact X_rShown.rule) :: (20, .gen (callX C_put15 getPut)) :: (6, .exact X_rWrite.rule) :: Γit
theorem Γsh_ok : ΓOK Tryd.prog Λ0 (ΓOf Γsh) := (ΓOf_cons ok_rShown (ΓOf_cons ok_put15 (ΓOf_cons ok_rWrite Γit_ok)))
/-! ### Show -/
def sh1 (u : U) : ByteArray := nmOf u.k.toNat ++ shS ⟨#[116, 111]⟩ u.to
def sh2 (u : U) : ByteArray := sh1 u ++ shS ⟨#[102, 114, 111, 109]⟩ u.fr
def sh3 (u : U) : ByteArray := sh2 u ++ shS ⟨#[99, 108, 97, 115, 115]⟩ u.cl
def sh4 (u : U) : ByteArray := sh3 u ++ shS ⟨#[115, 105, 122, 101]⟩ u.sz
def sh5 (u : U) : ByteArray := sh4 u ++ shS ⟨#[110, 117, 109, 98, 101, 114]⟩ u.nu
def sh6 (u : U) : ByteArray := sh5 u ++ shS ⟨#[99, 114, 101, 100, 105, 116]⟩ u.cr
def sh7 (u : U) : ByteArray := sh6 u ++ shS ⟨#[114, 101, 97, 115, 111, 110]⟩ u.re
def sh8 (u : U) : ByteArray := if u.e = true then sh7 u ++ ⟨#[32, 101, 110, 100]⟩ else sh7 u
def sh9 (u : U) : ByteArray := sh8 u ++ shS ⟨#[100, 97, 116, 97]⟩ u.d.size
def showR (u : U) : SV := .tup [.g (.string (if okU u then sh9 u else ⟨#[]⟩)), .g (.int .i64 (if okU u then 0 else 1))]
def X_Show15 : XC := ⟨U, getU1, fun u => [.agg u.cells], fun _ => True, showR⟩
def X_rShow15 : XC := X_Show15
def cx_Show15 (_ : U) : Cx := ⟨ty, ΓOf Γsh, fun _ => [], fun _ _ => [], 55, 0⟩
def cx_rShow15 (_ : U) : Cx := ⟨ty, ΓOf Γsh, fun _ => [], fun _ _ => [], 55, 0⟩
def Shq0 (u : U) := (if (1 : Int) ≤ U.k u ∧ U.k u ≤ (10 : Int) then nmOf (Int.toNat (U.k u)) else ByteArray.mk #[])
def Shq1 (u : U) := ((Shq0 u) ++ shS (ByteArray.mk #[(116 : UInt8), (111 : UInt8)]) (U.to u) ++ shS (ByteArray.mk #[(102 : UInt8), (114 : UInt8), (111 : UInt8), (109 : UInt8)]) (U.fr u) ++ shS (ByteArray.mk #[(99 : UInt8), (108 : UInt8),
  (97 : UInt8), (115 : UInt8), (115 : UInt8)]) (U.cl u) ++ shS (ByteArray.mk #[(115 : UInt8), (105 : UInt8), (122 : UInt8), (101 : UInt8)]) (U.sz u) ++ shS (ByteArray.mk #[(110 : UInt8), (117 : UInt8), (109 : UInt8), (98 :
  UInt8), (101 : UInt8), (114 : UInt8)]) (U.nu u) ++ shS (ByteArray.mk #[(99 : UInt8), (114 : UInt8), (101 : UInt8), (100 : UInt8), (105 : UInt8), (116 : UInt8)]) (U.cr u) ++ shS (ByteArray.mk #[(114 : UInt8), (101 :
  UInt8), (97 : UInt8), (115 : UInt8), (111 : UInt8), (110 : UInt8)]) (U.re u))
def Shq2 (u : U) := ((Shq0 u) ++ shS (ByteArray.mk #[(116 : UInt8), (111 : UInt8)]) (U.to u) ++ shS (ByteArray.mk #[(102 : UInt8), (114 : UInt8), (111 : UInt8), (109 : UInt8)]) (U.fr u) ++ shS (ByteArray.mk #[(99 : UInt8), (108 : UInt8),
  (97 : UInt8), (115 : UInt8), (115 : UInt8)]) (U.cl u) ++ shS (ByteArray.mk #[(115 : UInt8), (105 : UInt8), (122 : UInt8), (101 : UInt8)]) (U.sz u) ++ shS (ByteArray.mk #[(110 : UInt8), (117 : UInt8), (109 : UInt8), (98 :
  UInt8), (101 : UInt8), (114 : UInt8)]) (U.nu u) ++ shS (ByteArray.mk #[(99 : UInt8), (114 : UInt8), (101 : UInt8), (100 : UInt8), (105 : UInt8), (116 : UInt8)]) (U.cr u) ++ shS (ByteArray.mk #[(114 : UInt8), (101 :
  UInt8), (97 : UInt8), (115 : UInt8), (111 : UInt8), (110 : UInt8)]) (U.re u) ++ ByteArray.mk #[(32 : UInt8), (101 : UInt8), (110 : UInt8), (100 : UInt8)])
def Shq3 (u : U) := ((Shq0 u) ++ shS (ByteArray.mk #[(116 : UInt8), (111 : UInt8)]) (U.to u) ++ shS (ByteArray.mk #[(102 : UInt8), (114 : UInt8), (111 : UInt8), (109 : UInt8)]) (U.fr u) ++ shS (ByteArray.mk #[(99 : UInt8), (108 : UInt8),
  (97 : UInt8), (115 : UInt8), (115 : UInt8)]) (U.cl u) ++ shS (ByteArray.mk #[(115 : UInt8), (105 : UInt8), (122 : UInt8), (101 : UInt8)]) (U.sz u) ++ shS (ByteArray.mk #[(110 : UInt8), (117 : UInt8), (109 : UInt8), (98 :
  UInt8), (101 : UInt8), (114 : UInt8)]) (U.nu u) ++ shS (ByteArray.mk #[(99 : UInt8), (114 : UInt8), (101 : UInt8), (100 : UInt8), (105 : UInt8), (116 : UInt8)]) (U.cr u))
def Shq4 (u : U) := ((Shq0 u) ++ shS (ByteArray.mk #[(116 : UInt8), (111 : UInt8)]) (U.to u) ++ shS (ByteArray.mk #[(102 : UInt8), (114 : UInt8), (111 : UInt8), (109 : UInt8)]) (U.fr u) ++ shS (ByteArray.mk #[(99 : UInt8), (108 : UInt8),
  (97 : UInt8), (115 : UInt8), (115 : UInt8)]) (U.cl u) ++ shS (ByteArray.mk #[(115 : UInt8), (105 : UInt8), (122 : UInt8), (101 : UInt8)]) (U.sz u) ++ shS (ByteArray.mk #[(110 : UInt8), (117 : UInt8), (109 : UInt8), (98 :
  UInt8), (101 : UInt8), (114 : UInt8)]) (U.nu u))
def Shq5 (u : U) := ((Shq0 u) ++ shS (ByteArray.mk #[(116 : UInt8), (111 : UInt8)]) (U.to u) ++ shS (ByteArray.mk #[(102 : UInt8), (114 : UInt8), (111 : UInt8), (109 : UInt8)]) (U.fr u) ++ shS (ByteArray.mk #[(99 : UInt8), (108 : UInt8),
  (97 : UInt8), (115 : UInt8), (115 : UInt8)]) (U.cl u) ++ shS (ByteArray.mk #[(115 : UInt8), (105 : UInt8), (122 : UInt8), (101 : UInt8)]) (U.sz u))
def Shq6 (u : U) := ((Shq0 u) ++ shS (ByteArray.mk #[(116 : UInt8), (111 : UInt8)]) (U.to u) ++ shS (ByteArray.mk #[(102 : UInt8), (114 : UInt8), (111 : UInt8), (109 : UInt8)]) (U.fr u) ++ shS (ByteArray.mk #[(99 : UInt8), (108 : UInt8),
  (97 : UInt8), (115 : UInt8), (115 : UInt8)]) (U.cl u))
def VcShow15 : Prop := ∀ (u : U), True → condX (!decide (okU u)) (SV.tup [SV.g (Value.string (ByteArray.mk #[])), SV.g (Value.int IntKind.i64 (1 : Int))] = SV.tup [SV.g (Value.string (if okU u then sh9 u else ByteArray.mk #[])), SV.g
  (Value.int IntKind.i64 (if okU u then (0 : Int) else (1 : Int)))]) ([SV.g (Value.int IntKind.i64 (U.k u))] = [SV.g (Value.int IntKind.i64 (U.k u))] ∧ True ∧ ByteArray.mk #[(116 : UInt8), (111 : UInt8)] = ByteArray.mk
  #[(116 : UInt8), (111 : UInt8)] ∧ U.to u = U.to u ∧ (0 : Nat) = (0 : Nat) ∧ [SV.g (Value.string (Shq0 u))] = [SV.g (Value.string (Shq0 u))] ∧ (shPre (ByteArray.mk #[(116 : UInt8), (111 : UInt8)], U.to u) ∧ ByteArray.size
  (Shq0 u) ≤ (10000 : Nat)) ∧ (True → ByteArray.mk #[(102 : UInt8), (114 : UInt8), (111 : UInt8), (109 : UInt8)] = ByteArray.mk #[(102 : UInt8), (114 : UInt8), (111 : UInt8), (109 : UInt8)] ∧ U.fr u = U.fr u ∧ (0 : Nat) =
  (0 : Nat) ∧ [SV.g (Value.string ((Shq0 u) ++ shS (ByteArray.mk #[(116 : UInt8), (111 : UInt8)]) (U.to u)))] = [SV.g (Value.string ((Shq0 u) ++ shS (ByteArray.mk #[(116 : UInt8), (111 : UInt8)]) (U.to u)))] ∧ (shPre
  (ByteArray.mk #[(102 : UInt8), (114 : UInt8), (111 : UInt8), (109 : UInt8)], U.fr u) ∧ ByteArray.size ((Shq0 u) ++ shS (ByteArray.mk #[(116 : UInt8), (111 : UInt8)]) (U.to u)) ≤ (10000 : Nat)) ∧ (True → ByteArray.mk
  #[(99 : UInt8), (108 : UInt8), (97 : UInt8), (115 : UInt8), (115 : UInt8)] = ByteArray.mk #[(99 : UInt8), (108 : UInt8), (97 : UInt8), (115 : UInt8), (115 : UInt8)] ∧ U.cl u = U.cl u ∧ (0 : Nat) = (0 : Nat) ∧ [SV.g
  (Value.string ((Shq0 u) ++ shS (ByteArray.mk #[(116 : UInt8), (111 : UInt8)]) (U.to u) ++ shS (ByteArray.mk #[(102 : UInt8), (114 : UInt8), (111 : UInt8), (109 : UInt8)]) (U.fr u)))] = [SV.g (Value.string ((Shq0 u) ++
  shS (ByteArray.mk #[(116 : UInt8), (111 : UInt8)]) (U.to u) ++ shS (ByteArray.mk #[(102 : UInt8), (114 : UInt8), (111 : UInt8), (109 : UInt8)]) (U.fr u)))] ∧ (shPre (ByteArray.mk #[(99 : UInt8), (108 : UInt8), (97 :
  UInt8), (115 : UInt8), (115 : UInt8)], U.cl u) ∧ ByteArray.size ((Shq0 u) ++ shS (ByteArray.mk #[(116 : UInt8), (111 : UInt8)]) (U.to u) ++ shS (ByteArray.mk #[(102 : UInt8), (114 : UInt8), (111 : UInt8), (109 : UInt8)])
  (U.fr u)) ≤ (10000 : Nat)) ∧ (True → ByteArray.mk #[(115 : UInt8), (105 : UInt8), (122 : UInt8), (101 : UInt8)] = ByteArray.mk #[(115 : UInt8), (105 : UInt8), (122 : UInt8), (101 : UInt8)] ∧ U.sz u = U.sz u ∧ (0 : Nat) =
  (0 : Nat) ∧ [SV.g (Value.string (Shq6 u))] = [SV.g (Value.string (Shq6 u))] ∧ (shPre (ByteArray.mk #[(115 : UInt8), (105 : UInt8), (122 : UInt8), (101 : UInt8)], U.sz u) ∧ ByteArray.size (Shq6 u) ≤ (10000 : Nat)) ∧ (True
  → ByteArray.mk #[(110 : UInt8), (117 : UInt8), (109 : UInt8), (98 : UInt8), (101 : UInt8), (114 : UInt8)] = ByteArray.mk #[(110 : UInt8), (117 : UInt8), (109 : UInt8), (98 : UInt8), (101 : UInt8), (114 : UInt8)] ∧ U.nu u
  = U.nu u ∧ (0 : Nat) = (0 : Nat) ∧ [SV.g (Value.string (Shq5 u))] = [SV.g (Value.string (Shq5 u))] ∧ (shPre (ByteArray.mk #[(110 : UInt8), (117 : UInt8), (109 : UInt8), (98 : UInt8), (101 : UInt8), (114 : UInt8)], U.nu
  u) ∧ ByteArray.size (Shq5 u) ≤ (10000 : Nat)) ∧ (True → ByteArray.mk #[(99 : UInt8), (114 : UInt8), (101 : UInt8), (100 : UInt8), (105 : UInt8), (116 : UInt8)] = ByteArray.mk #[(99 : UInt8), (114 : UInt8), (101 : UInt8),
  (100 : UInt8), (105 : UInt8), (116 : UInt8)] ∧ U.cr u = U.cr u ∧ (0 : Nat) = (0 : Nat) ∧ [SV.g (Value.string (Shq4 u))] = [SV.g (Value.string (Shq4 u))] ∧ (shPre (ByteArray.mk #[(99 : UInt8), (114 : UInt8), (101 :
  UInt8), (100 : UInt8), (105 : UInt8), (116 : UInt8)], U.cr u) ∧ ByteArray.size (Shq4 u) ≤ (10000 : Nat)) ∧ (True → ByteArray.mk #[(114 : UInt8), (101 : UInt8), (97 : UInt8), (115 : UInt8), (111 : UInt8), (110 : UInt8)] =
  ByteArray.mk #[(114 : UInt8), (101 : UInt8), (97 : UInt8), (115 : UInt8), (111 : UInt8), (110 : UInt8)] ∧ U.re u = U.re u ∧ (0 : Nat) = (0 : Nat) ∧ [SV.g (Value.string (Shq3 u))] = [SV.g (Value.string (Shq3 u))] ∧ (shPre
  (ByteArray.mk #[(114 : UInt8), (101 : UInt8), (97 : UInt8), (115 : UInt8), (111 : UInt8), (110 : UInt8)], U.re u) ∧ ByteArray.size (Shq3 u) ≤ (10000 : Nat)) ∧ (True → condX (U.e u) (ByteArray.size (Shq1 u) + (4 : Nat) ≤
  (9223372036854775807 : Nat) ∧ ByteArray.mk #[(100 : UInt8), (97 : UInt8), (116 : UInt8), (97 : UInt8)] = ByteArray.mk #[(100 : UInt8), (97 : UInt8), (116 : UInt8), (97 : UInt8)] ∧ (↑(ByteArray.size (U.d u)) : Int) =
  (↑(ByteArray.size (U.d u)) : Int) ∧ (0 : Nat) = (0 : Nat) ∧ [SV.g (Value.string (Shq2 u))] = [SV.g (Value.string (Shq2 u))] ∧ (shPre (ByteArray.mk #[(100 : UInt8), (97 : UInt8), (116 : UInt8), (97 : UInt8)],
  (↑(ByteArray.size (U.d u)) : Int)) ∧ ByteArray.size (Shq2 u) ≤ (10000 : Nat)) ∧ (True → SV.tup [SV.g (Value.string ((Shq0 u) ++ shS (ByteArray.mk #[(116 : UInt8), (111 : UInt8)]) (U.to u) ++ shS (ByteArray.mk #[(102 :
  UInt8), (114 : UInt8), (111 : UInt8), (109 : UInt8)]) (U.fr u) ++ shS (ByteArray.mk #[(99 : UInt8), (108 : UInt8), (97 : UInt8), (115 : UInt8), (115 : UInt8)]) (U.cl u) ++ shS (ByteArray.mk #[(115 : UInt8), (105 :
  UInt8), (122 : UInt8), (101 : UInt8)]) (U.sz u) ++ shS (ByteArray.mk #[(110 : UInt8), (117 : UInt8), (109 : UInt8), (98 : UInt8), (101 : UInt8), (114 : UInt8)]) (U.nu u) ++ shS (ByteArray.mk #[(99 : UInt8), (114 :
  UInt8), (101 : UInt8), (100 : UInt8), (105 : UInt8), (116 : UInt8)]) (U.cr u) ++ shS (ByteArray.mk #[(114 : UInt8), (101 : UInt8), (97 : UInt8), (115 : UInt8), (111 : UInt8), (110 : UInt8)]) (U.re u) ++ ByteArray.mk
  #[(32 : UInt8), (101 : UInt8), (110 : UInt8), (100 : UInt8)] ++ shS (ByteArray.mk #[(100 : UInt8), (97 : UInt8), (116 : UInt8), (97 : UInt8)]) (↑(ByteArray.size (U.d u)) : Int))), SV.g (Value.int IntKind.i64 (0 : Int))]
  = SV.tup [SV.g (Value.string (if okU u then sh9 u else ByteArray.mk #[])), SV.g (Value.int IntKind.i64 (if okU u then (0 : Int) else (1 : Int)))])) (ByteArray.mk #[(100 : UInt8), (97 : UInt8), (116 : UInt8), (97 :
  UInt8)] = ByteArray.mk #[(100 : UInt8), (97 : UInt8), (116 : UInt8), (97 : UInt8)] ∧ (↑(ByteArray.size (U.d u)) : Int) = (↑(ByteArray.size (U.d u)) : Int) ∧ (0 : Nat) = (0 : Nat) ∧ [SV.g (Value.string (Shq1 u))] = [SV.g
  (Value.string (Shq1 u))] ∧ (shPre (ByteArray.mk #[(100 : UInt8), (97 : UInt8), (116 : UInt8), (97 : UInt8)], (↑(ByteArray.size (U.d u)) : Int)) ∧ ByteArray.size (Shq1 u) ≤ (10000 : Nat)) ∧ (True → SV.tup [SV.g
  (Value.string ((Shq0 u) ++ shS (ByteArray.mk #[(116 : UInt8), (111 : UInt8)]) (U.to u) ++ shS (ByteArray.mk #[(102 : UInt8), (114 : UInt8), (111 : UInt8), (109 : UInt8)]) (U.fr u) ++ shS (ByteArray.mk #[(99 : UInt8),
  (108 : UInt8), (97 : UInt8), (115 : UInt8), (115 : UInt8)]) (U.cl u) ++ shS (ByteArray.mk #[(115 : UInt8), (105 : UInt8), (122 : UInt8), (101 : UInt8)]) (U.sz u) ++ shS (ByteArray.mk #[(110 : UInt8), (117 : UInt8), (109
  : UInt8), (98 : UInt8), (101 : UInt8), (114 : UInt8)]) (U.nu u) ++ shS (ByteArray.mk #[(99 : UInt8), (114 : UInt8), (101 : UInt8), (100 : UInt8), (105 : UInt8), (116 : UInt8)]) (U.cr u) ++ shS (ByteArray.mk #[(114 :
  UInt8), (101 : UInt8), (97 : UInt8), (115 : UInt8), (111 : UInt8), (110 : UInt8)]) (U.re u) ++ shS (ByteArray.mk #[(100 : UInt8), (97 : UInt8), (116 : UInt8), (97 : UInt8)]) (↑(ByteArray.size (U.d u)) : Int))), SV.g
  (Value.int IntKind.i64 (0 : Int))] = SV.tup [SV.g (Value.string (if okU u then sh9 u else ByteArray.mk #[])), SV.g (Value.int IntKind.i64 (if okU u then (0 : Int) else (1 : Int)))]))))))))))
theorem vcShow15E : VcShow15 = (∀ (u : U), True → fnX (cx_Show15 u) (bodyOf Tryd.f7) Tryd.f7.results.toList [.agg u.cells] [] (fun r _ => r = showR u)) := by kernel_rfl
set_option maxHeartbeats 4000000 in
theorem vcShow15 : VcShow15 := by
  unfold VcShow15 Shq6 Shq5 Shq4 Shq3 Shq2 Shq1 Shq0
  intro u _
  simp only [eq_self, true_and, and_true, Nat.le_refl, Int.le_refl, implies_true, forall_const, and_false, false_and, exists_false, false_or, or_false, true_implies, Nat.zero_add, and_self, Int.toNat_natCast, cond_true, cond_false, condT, condF]
  by_cases ho : okU u
  · have hk := ho.1
    obtain ⟨⟨-, hd⟩, -, hcl, -, hto, hfr, hnu, hcr, hre, hsz⟩ := (okU_iff hk).1 ho
    have hds : (u.d.size : Int) ≤ 3980 := by
      refine Int.le_trans hd ?_
      split
      · decide
      split
      · decide
      split
      · decide
      split
      · decide
      split <;> decide
    have p1 : shPre (⟨#[116, 111]⟩, u.to) := shPreI (by decide) (by omega) (by omega)
    have p2 : shPre (⟨#[102, 114, 111, 109]⟩, u.fr) := shPreI (by decide) (by omega) (by omega)
    have p3 : shPre (⟨#[99, 108, 97, 115, 115]⟩, u.cl) := shPreI (by decide) (by omega) (by omega)
    have p4 : shPre (⟨#[115, 105, 122, 101]⟩, u.sz) := shPreI (by decide) (by omega) (by omega)
    have p5 : shPre (⟨#[110, 117, 109, 98, 101, 114]⟩, u.nu) := shPreI (by decide) (by omega) (by omega)
    have p6 : shPre (⟨#[99, 114, 101, 100, 105, 116]⟩, u.cr) := shPreI (by decide) (by omega) (by omega)
    have p7 : shPre (⟨#[114, 101, 97, 115, 111, 110]⟩, u.re) := shPreI (by decide) (by omega) (by omega)
    have p8 : shPre (⟨#[100, 97, 116, 97]⟩, (u.d.size : Int)) := shPreI (by decide) (by omega) (by omega)
    have z0 : (nmOf u.k.toNat).size ≤ 2 := by
      rcases kcases hk with e | e | e | e | e | e | e | e | e | e <;> rw [e] <;> decide
    have z1 := shS_size p1
    have z2 := shS_size p2
    have z3 := shS_size p3
    have z4 := shS_size p4
    have z5 := shS_size p5
    have z6 := shS_size p6
    have z7 := shS_size p7
    have z8 := shS_size p8
    have ze : (⟨#[32, 101, 110, 100]⟩ : ByteArray).size = 4 := rfl
    dsimp only at z1 z2 z3 z4 z5 z6 z7 z8
    simp only [ho, hk, decide_true, Bool.not_true, condF, and_self, if_true, ByteArray.size_append, showR, sh9, sh8, sh7, sh6, sh5, sh4, sh3, sh2, sh1, p1, p2, p3, p4, p5, p6, p7, p8, true_and, ze]
    cases u.e
    · simp only [condF, Bool.false_eq_true, if_false]
      and_intros <;> first | omega | rfl | trivial
    · simp only [condT, if_true]
      and_intros <;> first | omega | rfl | trivial
  · simp only [ho, decide_false, Bool.not_false, condT, if_false, showR]
theorem vcShow15K : ∀ (u : U), True → Held (fnX (cx_Show15 u) (bodyOf Tryd.f7) Tryd.f7.results.toList [.agg u.cells] [] (fun r _ => r = showR u)) := held2 vcShow15E vcShow15
theorem ok_Show15 : ExactSound Tryd.prog Λ0 7 X_Show15.rule :=
  exact_rule (ty := ty) (Γ := ΓOf Γsh) hm tyOK Γsh_ok (fnOK_of Tryd.func7 (by kernel_rfl) (by kernel_rfl)) Tryd.func7 (body_some (by kernel_rfl)) X_Show15 Tryd.ntmps7 (fun _ => Nat.le_of_ble_eq_true rfl) (fun _ => rfl) (fun x => rfl) (fun x => (cx_Show15 x).cut) (fun x => (cx_Show15 x).loop) fun x h => vcShow15K x h
def Shq7 (u : U) := (if (1 : Int) ≤ U.k u ∧ U.k u ≤ (10 : Int) then nmOf (Int.toNat (U.k u)) else ByteArray.mk #[])
def Shq8  := (ByteArray.mk #[(99 : UInt8), (108 : UInt8), (97 : UInt8), (115 : UInt8), (115 : UInt8)])
def Shq9  := (ByteArray.mk #[(110 : UInt8), (117 : UInt8), (109 : UInt8), (98 : UInt8), (101 : UInt8), (114 : UInt8)])
def Shq10  := (ByteArray.mk #[(102 : UInt8), (114 : UInt8), (111 : UInt8), (109 : UInt8)])
def Shq11  := (ByteArray.mk #[(99 : UInt8), (114 : UInt8), (101 : UInt8), (100 : UInt8), (105 : UInt8), (116 : UInt8)])
def Shq12  := (ByteArray.mk #[(115 : UInt8), (105 : UInt8), (122 : UInt8), (101 : UInt8)])
def Shq13  := (ByteArray.mk #[(114 : UInt8), (101 : UInt8), (97 : UInt8), (115 : UInt8), (111 : UInt8), (110 : UInt8)])
def Shq14  := (ByteArray.mk #[(116 : UInt8), (111 : UInt8)])
def Shq15  := (ByteArray.mk #[(100 : UInt8), (97 : UInt8), (116 : UInt8), (97 : UInt8)])
def VcRShow15 : Prop := ∀ (u : U), True → condX (!decide (okU u)) (SV.tup [SV.g (Value.string (ByteArray.mk #[])), SV.g (Value.int IntKind.i64 (1 : Int))] = SV.tup [SV.g (Value.string (if okU u then sh9 u else ByteArray.mk #[])), SV.g
  (Value.int IntKind.i64 (if okU u then (0 : Int) else (1 : Int)))]) ([SV.g (Value.int IntKind.i64 (U.k u))] = [SV.g (Value.int IntKind.i64 (U.k u))] ∧ True ∧ [SV.g (Value.string (Shq14)), SV.g (Value.int IntKind.i64 (U.to
  u))] = [SV.g (Value.string (Shq14)), SV.g (Value.int IntKind.i64 (U.to u))] ∧ shPre (ByteArray.mk #[(116 : UInt8), (111 : UInt8)], U.to u) ∧ ByteArray.size (Shq7 u) + ByteArray.size (shS (Shq14) (U.to u)) ≤
  (9223372036854775807 : Nat) ∧ [SV.g (Value.string (Shq10)), SV.g (Value.int IntKind.i64 (U.fr u))] = [SV.g (Value.string (Shq10)), SV.g (Value.int IntKind.i64 (U.fr u))] ∧ shPre (ByteArray.mk #[(102 : UInt8), (114 :
  UInt8), (111 : UInt8), (109 : UInt8)], U.fr u) ∧ ByteArray.size ((Shq7 u) ++ shS (Shq14) (U.to u)) + ByteArray.size (shS (Shq10) (U.fr u)) ≤ (9223372036854775807 : Nat) ∧ [SV.g (Value.string (Shq8)), SV.g (Value.int
  IntKind.i64 (U.cl u))] = [SV.g (Value.string (Shq8)), SV.g (Value.int IntKind.i64 (U.cl u))] ∧ shPre (ByteArray.mk #[(99 : UInt8), (108 : UInt8), (97 : UInt8), (115 : UInt8), (115 : UInt8)], U.cl u) ∧ ByteArray.size
  ((Shq7 u) ++ shS (Shq14) (U.to u) ++ shS (Shq10) (U.fr u)) + ByteArray.size (shS (Shq8) (U.cl u)) ≤ (9223372036854775807 : Nat) ∧ [SV.g (Value.string (Shq12)), SV.g (Value.int IntKind.i64 (U.sz u))] = [SV.g (Value.string
  (Shq12)), SV.g (Value.int IntKind.i64 (U.sz u))] ∧ shPre (ByteArray.mk #[(115 : UInt8), (105 : UInt8), (122 : UInt8), (101 : UInt8)], U.sz u) ∧ ByteArray.size ((Shq7 u) ++ shS (Shq14) (U.to u) ++ shS (Shq10) (U.fr u) ++
  shS (Shq8) (U.cl u)) + ByteArray.size (shS (Shq12) (U.sz u)) ≤ (9223372036854775807 : Nat) ∧ [SV.g (Value.string (Shq9)), SV.g (Value.int IntKind.i64 (U.nu u))] = [SV.g (Value.string (Shq9)), SV.g (Value.int IntKind.i64
  (U.nu u))] ∧ shPre (ByteArray.mk #[(110 : UInt8), (117 : UInt8), (109 : UInt8), (98 : UInt8), (101 : UInt8), (114 : UInt8)], U.nu u) ∧ ByteArray.size ((Shq7 u) ++ shS (Shq14) (U.to u) ++ shS (Shq10) (U.fr u) ++ shS
  (Shq8) (U.cl u) ++ shS (Shq12) (U.sz u)) + ByteArray.size (shS (Shq9) (U.nu u)) ≤ (9223372036854775807 : Nat) ∧ [SV.g (Value.string (Shq11)), SV.g (Value.int IntKind.i64 (U.cr u))] = [SV.g (Value.string (Shq11)), SV.g
  (Value.int IntKind.i64 (U.cr u))] ∧ shPre (ByteArray.mk #[(99 : UInt8), (114 : UInt8), (101 : UInt8), (100 : UInt8), (105 : UInt8), (116 : UInt8)], U.cr u) ∧ ByteArray.size ((Shq7 u) ++ shS (Shq14) (U.to u) ++ shS
  (Shq10) (U.fr u) ++ shS (Shq8) (U.cl u) ++ shS (Shq12) (U.sz u) ++ shS (Shq9) (U.nu u)) + ByteArray.size (shS (Shq11) (U.cr u)) ≤ (9223372036854775807 : Nat) ∧ [SV.g (Value.string (Shq13)), SV.g (Value.int IntKind.i64
  (U.re u))] = [SV.g (Value.string (Shq13)), SV.g (Value.int IntKind.i64 (U.re u))] ∧ shPre (ByteArray.mk #[(114 : UInt8), (101 : UInt8), (97 : UInt8), (115 : UInt8), (111 : UInt8), (110 : UInt8)], U.re u) ∧ ByteArray.size
  ((Shq7 u) ++ shS (Shq14) (U.to u) ++ shS (Shq10) (U.fr u) ++ shS (Shq8) (U.cl u) ++ shS (Shq12) (U.sz u) ++ shS (Shq9) (U.nu u) ++ shS (Shq11) (U.cr u)) + ByteArray.size (shS (Shq13) (U.re u)) ≤ (9223372036854775807 :
  Nat) ∧ condX (U.e u) (ByteArray.size ((Shq7 u) ++ shS (Shq14) (U.to u) ++ shS (Shq10) (U.fr u) ++ shS (Shq8) (U.cl u) ++ shS (Shq12) (U.sz u) ++ shS (Shq9) (U.nu u) ++ shS (Shq11) (U.cr u) ++ shS (Shq13) (U.re u)) + (4 :
  Nat) ≤ (9223372036854775807 : Nat) ∧ [SV.g (Value.string (Shq15)), SV.g (Value.int IntKind.i64 (↑(ByteArray.size (U.d u)) : Int))] = [SV.g (Value.string (Shq15)), SV.g (Value.int IntKind.i64 (↑(ByteArray.size (U.d u)) :
  Int))] ∧ shPre (ByteArray.mk #[(100 : UInt8), (97 : UInt8), (116 : UInt8), (97 : UInt8)], (↑(ByteArray.size (U.d u)) : Int)) ∧ ByteArray.size ((Shq7 u) ++ shS (Shq14) (U.to u) ++ shS (Shq10) (U.fr u) ++ shS (Shq8) (U.cl
  u) ++ shS (Shq12) (U.sz u) ++ shS (Shq9) (U.nu u) ++ shS (Shq11) (U.cr u) ++ shS (Shq13) (U.re u) ++ ByteArray.mk #[(32 : UInt8), (101 : UInt8), (110 : UInt8), (100 : UInt8)]) + ByteArray.size (shS (Shq15)
  (↑(ByteArray.size (U.d u)) : Int)) ≤ (9223372036854775807 : Nat) ∧ SV.tup [SV.g (Value.string ((Shq7 u) ++ shS (Shq14) (U.to u) ++ shS (Shq10) (U.fr u) ++ shS (Shq8) (U.cl u) ++ shS (Shq12) (U.sz u) ++ shS (Shq9) (U.nu
  u) ++ shS (Shq11) (U.cr u) ++ shS (Shq13) (U.re u) ++ ByteArray.mk #[(32 : UInt8), (101 : UInt8), (110 : UInt8), (100 : UInt8)] ++ shS (Shq15) (↑(ByteArray.size (U.d u)) : Int))), SV.g (Value.int IntKind.i64 (0 : Int))]
  = SV.tup [SV.g (Value.string (if okU u then sh9 u else ByteArray.mk #[])), SV.g (Value.int IntKind.i64 (if okU u then (0 : Int) else (1 : Int)))]) ([SV.g (Value.string (Shq15)), SV.g (Value.int IntKind.i64
  (↑(ByteArray.size (U.d u)) : Int))] = [SV.g (Value.string (Shq15)), SV.g (Value.int IntKind.i64 (↑(ByteArray.size (U.d u)) : Int))] ∧ shPre (ByteArray.mk #[(100 : UInt8), (97 : UInt8), (116 : UInt8), (97 : UInt8)],
  (↑(ByteArray.size (U.d u)) : Int)) ∧ ByteArray.size ((Shq7 u) ++ shS (Shq14) (U.to u) ++ shS (Shq10) (U.fr u) ++ shS (Shq8) (U.cl u) ++ shS (Shq12) (U.sz u) ++ shS (Shq9) (U.nu u) ++ shS (Shq11) (U.cr u) ++ shS (Shq13)
  (U.re u)) + ByteArray.size (shS (Shq15) (↑(ByteArray.size (U.d u)) : Int)) ≤ (9223372036854775807 : Nat) ∧ SV.tup [SV.g (Value.string ((Shq7 u) ++ shS (Shq14) (U.to u) ++ shS (Shq10) (U.fr u) ++ shS (Shq8) (U.cl u) ++
  shS (Shq12) (U.sz u) ++ shS (Shq9) (U.nu u) ++ shS (Shq11) (U.cr u) ++ shS (Shq13) (U.re u) ++ shS (Shq15) (↑(ByteArray.size (U.d u)) : Int))), SV.g (Value.int IntKind.i64 (0 : Int))] = SV.tup [SV.g (Value.string (if okU
  u then sh9 u else ByteArray.mk #[])), SV.g (Value.int IntKind.i64 (if okU u then (0 : Int) else (1 : Int)))]))
theorem vcRShow15E : VcRShow15 = (∀ (u : U), True → fnX (cx_rShow15 u) (bodyOf Tryd.f8) Tryd.f8.results.toList [.agg u.cells] [] (fun r _ => r = showR u)) := by kernel_rfl
set_option maxHeartbeats 4000000 in
theorem vcRShow15 : VcRShow15 := by
  unfold VcRShow15 Shq15 Shq14 Shq13 Shq12 Shq11 Shq10 Shq9 Shq8 Shq7
  intro u _
  simp only [eq_self, true_and, and_true, Nat.le_refl, Int.le_refl, implies_true, forall_const, and_false, false_and, exists_false, false_or, or_false, true_implies, Nat.zero_add, and_self, Int.toNat_natCast, cond_true, cond_false, condT, condF]
  by_cases ho : okU u
  · have hk := ho.1
    obtain ⟨⟨-, hd⟩, -, hcl, -, hto, hfr, hnu, hcr, hre, hsz⟩ := (okU_iff hk).1 ho
    have hds : (u.d.size : Int) ≤ 3980 := by
      refine Int.le_trans hd ?_
      split
      · decide
      split
      · decide
      split
      · decide
      split
      · decide
      split <;> decide
    have p1 : shPre (⟨#[116, 111]⟩, u.to) := shPreI (by decide) (by omega) (by omega)
    have p2 : shPre (⟨#[102, 114, 111, 109]⟩, u.fr) := shPreI (by decide) (by omega) (by omega)
    have p3 : shPre (⟨#[99, 108, 97, 115, 115]⟩, u.cl) := shPreI (by decide) (by omega) (by omega)
    have p4 : shPre (⟨#[115, 105, 122, 101]⟩, u.sz) := shPreI (by decide) (by omega) (by omega)
    have p5 : shPre (⟨#[110, 117, 109, 98, 101, 114]⟩, u.nu) := shPreI (by decide) (by omega) (by omega)
    have p6 : shPre (⟨#[99, 114, 101, 100, 105, 116]⟩, u.cr) := shPreI (by decide) (by omega) (by omega)
    have p7 : shPre (⟨#[114, 101, 97, 115, 111, 110]⟩, u.re) := shPreI (by decide) (by omega) (by omega)
    have p8 : shPre (⟨#[100, 97, 116, 97]⟩, (u.d.size : Int)) := shPreI (by decide) (by omega) (by omega)
    have z0 : (nmOf u.k.toNat).size ≤ 2 := by
      rcases kcases hk with e | e | e | e | e | e | e | e | e | e <;> rw [e] <;> decide
    have z1 := shS_size p1
    have z2 := shS_size p2
    have z3 := shS_size p3
    have z4 := shS_size p4
    have z5 := shS_size p5
    have z6 := shS_size p6
    have z7 := shS_size p7
    have z8 := shS_size p8
    have ze : (⟨#[32, 101, 110, 100]⟩ : ByteArray).size = 4 := rfl
    dsimp only at z1 z2 z3 z4 z5 z6 z7 z8
    simp only [ho, hk, decide_true, Bool.not_true, condF, and_self, if_true, ByteArray.size_append, showR, sh9, sh8, sh7, sh6, sh5, sh4, sh3, sh2, sh1, p1, p2, p3, p4, p5, p6, p7, p8, true_and, ze]
    cases u.e
    · simp only [condF, Bool.false_eq_true, if_false]
      and_intros <;> first | omega | rfl | trivial
    · simp only [condT, if_true]
      and_intros <;> first | omega | rfl | trivial
  · simp only [ho, decide_false, Bool.not_false, condT, if_false, showR]
theorem vcRShow15K : ∀ (u : U), True → Held (fnX (cx_rShow15 u) (bodyOf Tryd.f8) Tryd.f8.results.toList [.agg u.cells] [] (fun r _ => r = showR u)) := held2 vcRShow15E vcRShow15
theorem ok_rShow15 : ExactSound Tryd.prog Λ0 8 X_rShow15.rule :=
  exact_rule (ty := ty) (Γ := ΓOf Γsh) hm tyOK Γsh_ok (fnOK_of Tryd.func8 (by kernel_rfl) (by kernel_rfl)) Tryd.func8 (body_some (by kernel_rfl)) X_rShow15 Tryd.ntmps8 (fun _ => Nat.le_of_ble_eq_true rfl) (fun _ => rfl) (fun x => rfl) (fun x => (cx_rShow15 x).cut) (fun x => (cx_rShow15 x).loop) fun x h => vcRShow15K x h
def Γtw : List (Nat × Rule) := (7, .exact X_Show15.rule) :: (8, .exact X_rShow15.rule) :: (13, .exact X_sane15.rule) :: (5, .exact R_unit15) :: Γsh
theorem Γtw_ok : ΓOK Tryd.prog Λ0 (ΓOf Γtw) := (ΓOf_cons ok_Show15 (ΓOf_cons ok_rShow15 (ΓOf_cons ok_sane15 (ΓOf_cons ok_unit15 Γsh_ok))))
def VcTpduWrites : Prop := ∀ (u : U) (c : Bool), [SV.agg (List.take (10 : Nat) (List.drop (0 : Nat) [SV.g (Value.int IntKind.i64 (U.k u)), SV.g (Value.int IntKind.i64 (U.to u)), SV.g (Value.int IntKind.i64 (U.fr u)), SV.g (Value.int IntKind.i64
  (U.cl u)), SV.g (Value.int IntKind.i64 (U.sz u)), SV.g (Value.int IntKind.i64 (U.nu u)), SV.g (Value.int IntKind.i64 (U.cr u)), SV.g (Value.int IntKind.i64 (U.re u)), SV.g (Value.bool (U.e u)), SV.g (Value.string (U.d
  u))])), SV.g (Value.bool c)] = [SV.agg (U.cells u), SV.g (Value.bool c)] ∧ True ∧ [SV.agg (List.take (10 : Nat) (List.drop (0 : Nat) [SV.g (Value.int IntKind.i64 (U.k u)), SV.g (Value.int IntKind.i64 (U.to u)), SV.g
  (Value.int IntKind.i64 (U.fr u)), SV.g (Value.int IntKind.i64 (U.cl u)), SV.g (Value.int IntKind.i64 (U.sz u)), SV.g (Value.int IntKind.i64 (U.nu u)), SV.g (Value.int IntKind.i64 (U.cr u)), SV.g (Value.int IntKind.i64
  (U.re u)), SV.g (Value.bool (U.e u)), SV.g (Value.string (U.d u))])), SV.g (Value.bool c)] = [SV.agg (U.cells u), SV.g (Value.bool c)] ∧ True ∧ condX (bif !decide (wrS u c = wrS u c) then true else wrE u != wrE u) (SV.g
  (Value.bool false) = SV.g (Value.bool true)) ([SV.agg (List.take (10 : Nat) (List.drop (0 : Nat) [SV.g (Value.int IntKind.i64 (U.k u)), SV.g (Value.int IntKind.i64 (U.to u)), SV.g (Value.int IntKind.i64 (U.fr u)), SV.g
  (Value.int IntKind.i64 (U.cl u)), SV.g (Value.int IntKind.i64 (U.sz u)), SV.g (Value.int IntKind.i64 (U.nu u)), SV.g (Value.int IntKind.i64 (U.cr u)), SV.g (Value.int IntKind.i64 (U.re u)), SV.g (Value.bool (U.e u)),
  SV.g (Value.string (U.d u))]))] = [SV.agg (U.cells u)] ∧ True ∧ [SV.agg (List.take (10 : Nat) (List.drop (0 : Nat) [SV.g (Value.int IntKind.i64 (U.k u)), SV.g (Value.int IntKind.i64 (U.to u)), SV.g (Value.int IntKind.i64
  (U.fr u)), SV.g (Value.int IntKind.i64 (U.cl u)), SV.g (Value.int IntKind.i64 (U.sz u)), SV.g (Value.int IntKind.i64 (U.nu u)), SV.g (Value.int IntKind.i64 (U.cr u)), SV.g (Value.int IntKind.i64 (U.re u)), SV.g
  (Value.bool (U.e u)), SV.g (Value.string (U.d u))]))] = [SV.agg (U.cells u)] ∧ True ∧ condX (bif !decide ((if okU u then sh9 u else ByteArray.mk #[]) = if okU u then sh9 u else ByteArray.mk #[]) then true else (if okU u
  then (0 : Int) else (1 : Int)) != if okU u then (0 : Int) else (1 : Int)) (SV.g (Value.bool false) = SV.g (Value.bool true)) ([SV.g (Value.int IntKind.i64 (U.k u))] = [SV.g (Value.int IntKind.i64 (U.k u))] ∧ True ∧ [SV.g
  (Value.int IntKind.i64 (U.k u))] = [SV.g (Value.int IntKind.i64 (U.k u))] ∧ True ∧ ((bif bif decide ((if (1 : Int) ≤ U.k u ∧ U.k u ≤ (10 : Int) then nmOf (Int.toNat (U.k u)) else ByteArray.mk #[]) = if (1 : Int) ≤ U.k u
  ∧ U.k u ≤ (10 : Int) then nmOf (Int.toNat (U.k u)) else ByteArray.mk #[]) then (if (1 : Int) ≤ U.k u ∧ U.k u ≤ (10 : Int) then (0 : Int) else (1 : Int)) == if (1 : Int) ≤ U.k u ∧ U.k u ≤ (10 : Int) then (0 : Int) else (1
  : Int) else false then decide (okU u) == decide (okU u) else false) = true → True) ∧ SV.g (Value.bool (bif bif bif decide ((if (1 : Int) ≤ U.k u ∧ U.k u ≤ (10 : Int) then nmOf (Int.toNat (U.k u)) else ByteArray.mk #[]) =
  if (1 : Int) ≤ U.k u ∧ U.k u ≤ (10 : Int) then nmOf (Int.toNat (U.k u)) else ByteArray.mk #[]) then (if (1 : Int) ≤ U.k u ∧ U.k u ≤ (10 : Int) then (0 : Int) else (1 : Int)) == if (1 : Int) ≤ U.k u ∧ U.k u ≤ (10 : Int)
  then (0 : Int) else (1 : Int) else false then decide (okU u) == decide (okU u) else false then true else false)) = SV.g (Value.bool true)))
theorem vcTpduWritesE : VcTpduWrites = (∀ (u : U) (c : Bool), fnX ⟨ty, ΓOf Γtw, fun _ => [], fun _ _ => [], 82, 2⟩ (bodyOf Tryd.f3) Tryd.f3.results.toList [.agg u.cells, .g (.bool c)] [] (fun r _ => r = .g (.bool true))) := by kernel_rfl
set_option maxHeartbeats 4000000 in
theorem vcTpduWrites : VcTpduWrites := by
  intro u c
  simp only [eq_self, true_and, and_true, Nat.le_refl, Int.le_refl, implies_true, forall_const, and_false, false_and, exists_false, false_or, or_false, true_implies, Nat.zero_add, and_self, Int.toNat_natCast, cond_true, cond_false, condT, condF]
  refine ⟨rfl, rfl, (condX_iff _ _ _).2 ⟨fun e => by simp at e, fun _ => ⟨rfl, rfl, (condX_iff _ _ _).2 ⟨fun e => by simp at e, fun _ => ?_⟩⟩⟩⟩
  simp
theorem vcTpduWritesK : ∀ (u : U) (c : Bool), Held (fnX ⟨ty, ΓOf Γtw, fun _ => [], fun _ _ => [], 82, 2⟩ (bodyOf Tryd.f3) Tryd.f3.results.toList [.agg u.cells, .g (.bool c)] [] (fun r _ => r = .g (.bool true))) := held2 vcTpduWritesE vcTpduWrites
end Go.Proofs.YtmblefpbfpjneaaDoor
