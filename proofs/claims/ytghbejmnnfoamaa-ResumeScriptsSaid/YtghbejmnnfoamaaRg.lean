/- Chapter 18: the reference's side: down, data, close, all, forget, and what it tells of itself. -/
import Derived.Test.YtghbejmnnfoamaaRe
set_option linter.unusedVariables false
set_option linter.unusedSimpArgs false
namespace Go.Proofs.Ytghbejmnnfoamaa
open Go Go.Eng
attribute [local irreducible] condX
def downE (u : U) : Ev := ⟨1, 0, 0, 0, 0, wrS u false⟩
def X_rDown18 : XC := ⟨U, getU1, fun u => [.agg u.cells], fun _ => True, fun u => .agg (downE u).cells⟩
def cx_rDown18 (_ : U) : Cx := ⟨ty, ΓOf Γx, fun _ => [], fun _ _ => [], 12, 0⟩
def VcRDown : Prop := ∀ (u : U), True → [SV.agg (List.take (10 : Nat) (List.drop (0 : Nat) [SV.g (Value.int IntKind.i64 (U.k u)), SV.g (Value.int IntKind.i64 (U.to u)), SV.g (Value.int IntKind.i64 (U.fr u)), SV.g (Value.int IntKind.i64 (U.cl
  u)), SV.g (Value.int IntKind.i64 (U.sz u)), SV.g (Value.int IntKind.i64 (U.nu u)), SV.g (Value.int IntKind.i64 (U.cr u)), SV.g (Value.int IntKind.i64 (U.re u)), SV.g (Value.bool (U.e u)), SV.g (Value.string (U.d u))])),
  SV.g (Value.bool false)] = [SV.agg (U.cells u), SV.g (Value.bool false)] ∧ True ∧ SV.agg (List.take (6 : Nat) (List.drop (0 : Nat) [SV.g (Value.int IntKind.i64 (1 : Int)), SV.g (Value.int IntKind.i64 (0 : Int)), SV.g
  (Value.int IntKind.i64 (0 : Int)), SV.g (Value.int IntKind.i64 (0 : Int)), SV.g (Value.int IntKind.i64 (0 : Int)), SV.g (Value.string (wrS u false))])) = SV.agg (Ev.cells (downE u))
theorem vcRDownE : VcRDown = (∀ (u : U), True → fnX (cx_rDown18 u) (bodyOf Try.f54) Try.f54.results.toList [.agg u.cells] [] (fun r _ => r = .agg (downE u).cells)) := by kernel_rfl
set_option maxHeartbeats 4000000 in
theorem vcRDown : VcRDown := by
  intro u _
  simp only [eq_self, true_and, and_true, Nat.le_refl, Int.le_refl, implies_true, forall_const, and_false, false_and, exists_false, false_or, or_false, true_implies, Nat.zero_add, and_self, Int.toNat_natCast, cond_true, cond_false, condT, condF]
  exact ⟨rfl, rfl⟩
theorem vcRDownK : ∀ (u : U), True → Held (fnX (cx_rDown18 u) (bodyOf Try.f54) Try.f54.results.toList [.agg u.cells] [] (fun r _ => r = .agg (downE u).cells)) := held2 vcRDownE vcRDown
theorem ok_rDown18 : ExactSound Try.prog Λ0 54 X_rDown18.rule :=
  exact_rule (ty := ty) (Γ := ΓOf Γx) hm tyOK Γx_ok (fnOK_of Try.func54 (by kernel_rfl) (by kernel_rfl)) Try.func54 (body_some (by kernel_rfl)) X_rDown18 Try.ntmps54 (fun _ => Nat.le_of_ble_eq_true rfl) (fun _ => rfl) (fun x => rfl) (fun x => (cx_rDown18 x).cut) (fun x => (cx_rDown18 x).loop) fun x h => vcRDownK x h
def Γra : List (Nat × Rule) := (54, .exact X_rDown18.rule) :: Γx
theorem Γra_ok : ΓOK Try.prog Λ0 (ΓOf Γra) := (ΓOf_cons ok_rDown18 Γx_ok)
/-! ### its memory -/
def drow (ds : List ByteArray) : Nat → List SV := fun j => [.g (.string (ds.getD j ⟨#[]⟩))]
def dRow : List SV → ByteArray
  | [.g (.string d)] => d
  | _ => ⟨#[]⟩
theorem dRow_drow (ds : List ByteArray) : (List.range ds.length).map (fun j => dRow (drow ds j)) = ds := by
  apply List.ext_getElem?
  intro j
  by_cases h : j < ds.length
  · rw [List.getElem?_map, List.getElem?_range h]; simp [drow, dRow, List.getD_eq_getElem?_getD, h]
  · rw [List.getElem?_eq_none (by simpa using h), List.getElem?_eq_none (by omega)]
def R18.qcells (r : R18) (fi : Int) (k : SV) : List SV := [.g (.bool true), .g (.int .i64 r.ow), .g (.int .i64 r.ot), .g (.int .i64 r.ti), .g (.int .i64 r.nx), .g (.int .i64 r.wa), .g (.int .i64 r.st), .g (.int .i64 r.le), .g (.int .i64 fi), k]
structure M18 where
  r : R18
  fi : Int
  n : Nat
  c : Nat
def M18.H (x : M18) : Heap := [(0, .cells (x.r.qcells x.fi (.sl 1 0 1 x.n x.c)) 73)]
def getM : List SV → Heap → Option M18
  | .ptr id _ _ _ :: _, H => match Eng.look id H with
    | some (.cells [.g (.bool _), .g (.int .i64 ow), .g (.int .i64 ot), .g (.int .i64 ti), .g (.int .i64 nx), .g (.int .i64 wa), .g (.int .i64 st), .g (.int .i64 le), .g (.int .i64 fi), k] _) => match getC k with
      | some (n, c) => some ⟨⟨nx, wa, ow, ot, ti, st, le⟩, fi, n, c⟩
      | none => none
    | _ => none
  | _, _ => none
def getMD (a : List SV) (H : Heap) : Option (M18 × Int × ByteArray) := match a, getM a H with
  | [_, .g (.int .i64 n), .g (.string d)], some x => some (x, n, d)
  | _, _ => none
def dataE (r : R18) (n : Int) (d : ByteArray) : Ev := downE ⟨5, r.ot, 0, 0, 0, n, 0, 0, true, d⟩
def closeE (r : R18) : Ev := downE ⟨3, r.ot, r.ow, 0, 0, 0, 0, 0, false, ⟨#[]⟩⟩
def C_rData18 : Ctr := ⟨2, M18 × Int × ByteArray, fun x => [.ptr 0 0 0 0, .g (.int .i64 x.2.1), .g (.string x.2.2)], fun x => x.1.H, fun _ => True, fun x => [.one True (.agg (dataE x.1.r x.2.1 x.2.2).cells) x.1.H]⟩
def cx_rData18 (_ : M18 × Int × ByteArray) : Cx := ⟨ty, ΓOf Γra, fun _ => [], fun _ _ => [], 15, 2⟩
def VcRData : Prop := ∀ (x : M18 × Int × ByteArray), True → [SV.agg [SV.g (Value.int IntKind.i64 (5 : Int)), SV.g (Value.int IntKind.i64 (R18.ot (M18.r (Prod.fst x)))), SV.g (Value.int IntKind.i64 (0 : Int)), SV.g (Value.int IntKind.i64 (0 :
  Int)), SV.g (Value.int IntKind.i64 (0 : Int)), SV.g (Value.int IntKind.i64 (Prod.fst (Prod.snd x))), SV.g (Value.int IntKind.i64 (0 : Int)), SV.g (Value.int IntKind.i64 (0 : Int)), SV.g (Value.bool true), SV.g
  (Value.string (Prod.snd (Prod.snd x)))]] = [SV.agg (U.cells (U.mk (5 : Int) (R18.ot (M18.r (Prod.fst x))) (0 : Int) (0 : Int) (0 : Int) (Prod.fst (Prod.snd x)) (0 : Int) (0 : Int) true (Prod.snd (Prod.snd x))))] ∧ True ∧
  (True ∧ (1 : Int) = (1 : Int) ∧ (0 : Int) = (0 : Int) ∧ (0 : Int) = (0 : Int) ∧ (0 : Int) = (0 : Int) ∧ (0 : Int) = (0 : Int) ∧ wrS (U.mk (5 : Int) (R18.ot (M18.r (Prod.fst x))) (0 : Int) (0 : Int) (0 : Int) (Prod.fst
  (Prod.snd x)) (0 : Int) (0 : Int) true (Prod.snd (Prod.snd x))) false = wrS (U.mk (5 : Int) (R18.ot (M18.r (Prod.fst x))) (0 : Int) (0 : Int) (0 : Int) (Prod.fst (Prod.snd x)) (0 : Int) (0 : Int) true (Prod.snd (Prod.snd
  x))) false ∧ true = true ∧ R18.ow (M18.r (Prod.fst x)) = R18.ow (M18.r (Prod.fst x)) ∧ R18.ot (M18.r (Prod.fst x)) = R18.ot (M18.r (Prod.fst x)) ∧ R18.ti (M18.r (Prod.fst x)) = R18.ti (M18.r (Prod.fst x)) ∧ R18.nx (M18.r
  (Prod.fst x)) = R18.nx (M18.r (Prod.fst x)) ∧ R18.wa (M18.r (Prod.fst x)) = R18.wa (M18.r (Prod.fst x)) ∧ R18.st (M18.r (Prod.fst x)) = R18.st (M18.r (Prod.fst x)) ∧ R18.le (M18.r (Prod.fst x)) = R18.le (M18.r (Prod.fst
  x)) ∧ M18.fi (Prod.fst x) = M18.fi (Prod.fst x) ∧ (0 : Nat) = (0 : Nat) ∧ M18.n (Prod.fst x) = M18.n (Prod.fst x) ∧ M18.c (Prod.fst x) = M18.c (Prod.fst x) ∧ True ∨ False)
theorem vcRDataE : VcRData = (∀ (x : M18 × Int × ByteArray), True → fnX (cx_rData18 x) (bodyOf Try.f53) Try.f53.results.toList (C_rData18.args x) (C_rData18.H x) (endX 2 (C_rData18.outs x))) := by kernel_rfl
set_option maxHeartbeats 4000000 in
theorem vcRData : VcRData := by
  rintro ⟨⟨r, fi, n, c⟩, k, d⟩ _
  simp only [eq_self, true_and, and_true, Nat.le_refl, Int.le_refl, implies_true, forall_const, and_false, false_and, exists_false, false_or, or_false, true_implies, Nat.zero_add, and_self, Int.toNat_natCast, cond_true, cond_false, condT, condF]
  rfl
theorem vcRDataK : ∀ (x : M18 × Int × ByteArray), True → Held (fnX (cx_rData18 x) (bodyOf Try.f53) Try.f53.results.toList (C_rData18.args x) (C_rData18.H x) (endX 2 (C_rData18.outs x))) := held2 vcRDataE vcRData
theorem ok_rData18 : GenSound Try.prog Λ0 53 (callX C_rData18 getMD) :=
  gen_of (ty := ty) (Γ := ΓOf Γra) hm tyOK Γra_ok (fnOK_of Try.func53 (by kernel_rfl) (by kernel_rfl)) Try.func53 (body_some (by kernel_rfl)) C_rData18 getMD Try.ntmps53 (fun _ => Nat.le_of_ble_eq_true rfl) (fun x => (cx_rData18 x).cut) (fun x => (cx_rData18 x).loop) fun x h => vcRDataK x h
def C_rClose18 : Ctr := ⟨2, M18, fun x => [.ptr 0 0 0 0], fun x => x.H, fun _ => True, fun x => [.one True (.agg (closeE x.r).cells) x.H]⟩
def cx_rClose18 (_ : M18) : Cx := ⟨ty, ΓOf Γra, fun _ => [], fun _ _ => [], 13, 2⟩
def VcRClose : Prop := ∀ (x : M18), True → [SV.agg [SV.g (Value.int IntKind.i64 (3 : Int)), SV.g (Value.int IntKind.i64 (R18.ot (M18.r x))), SV.g (Value.int IntKind.i64 (R18.ow (M18.r x))), SV.g (Value.int IntKind.i64 (0 : Int)), SV.g
  (Value.int IntKind.i64 (0 : Int)), SV.g (Value.int IntKind.i64 (0 : Int)), SV.g (Value.int IntKind.i64 (0 : Int)), SV.g (Value.int IntKind.i64 (0 : Int)), SV.g (Value.bool false), SV.g (Value.string (ByteArray.mk #[]))]]
  = [SV.agg (U.cells (U.mk (3 : Int) (R18.ot (M18.r x)) (R18.ow (M18.r x)) (0 : Int) (0 : Int) (0 : Int) (0 : Int) (0 : Int) false (ByteArray.mk #[])))] ∧ True ∧ (True ∧ (1 : Int) = (1 : Int) ∧ (0 : Int) = (0 : Int) ∧ (0 :
  Int) = (0 : Int) ∧ (0 : Int) = (0 : Int) ∧ (0 : Int) = (0 : Int) ∧ wrS (U.mk (3 : Int) (R18.ot (M18.r x)) (R18.ow (M18.r x)) (0 : Int) (0 : Int) (0 : Int) (0 : Int) (0 : Int) false (ByteArray.mk #[])) false = wrS (U.mk
  (3 : Int) (R18.ot (M18.r x)) (R18.ow (M18.r x)) (0 : Int) (0 : Int) (0 : Int) (0 : Int) (0 : Int) false (ByteArray.mk #[])) false ∧ true = true ∧ R18.ow (M18.r x) = R18.ow (M18.r x) ∧ R18.ot (M18.r x) = R18.ot (M18.r x)
  ∧ R18.ti (M18.r x) = R18.ti (M18.r x) ∧ R18.nx (M18.r x) = R18.nx (M18.r x) ∧ R18.wa (M18.r x) = R18.wa (M18.r x) ∧ R18.st (M18.r x) = R18.st (M18.r x) ∧ R18.le (M18.r x) = R18.le (M18.r x) ∧ M18.fi x = M18.fi x ∧ (0 :
  Nat) = (0 : Nat) ∧ M18.n x = M18.n x ∧ M18.c x = M18.c x ∧ True ∨ False)
theorem vcRCloseE : VcRClose = (∀ (x : M18), True → fnX (cx_rClose18 x) (bodyOf Try.f52) Try.f52.results.toList (C_rClose18.args x) (C_rClose18.H x) (endX 2 (C_rClose18.outs x))) := by kernel_rfl
set_option maxHeartbeats 4000000 in
theorem vcRClose : VcRClose := by
  rintro ⟨r, fi, n, c⟩ _
  simp only [eq_self, true_and, and_true, Nat.le_refl, Int.le_refl, implies_true, forall_const, and_false, false_and, exists_false, false_or, or_false, true_implies, Nat.zero_add, and_self, Int.toNat_natCast, cond_true, cond_false, condT, condF]
  rfl
theorem vcRCloseK : ∀ (x : M18), True → Held (fnX (cx_rClose18 x) (bodyOf Try.f52) Try.f52.results.toList (C_rClose18.args x) (C_rClose18.H x) (endX 2 (C_rClose18.outs x))) := held2 vcRCloseE vcRClose
theorem ok_rClose18 : GenSound Try.prog Λ0 52 (callX C_rClose18 getM) :=
  gen_of (ty := ty) (Γ := ΓOf Γra) hm tyOK Γra_ok (fnOK_of Try.func52 (by kernel_rfl) (by kernel_rfl)) Try.func52 (body_some (by kernel_rfl)) C_rClose18 getM Try.ntmps52 (fun _ => Nat.le_of_ble_eq_true rfl) (fun x => (cx_rClose18 x).cut) (fun x => (cx_rClose18 x).loop) fun x h => vcRCloseK x h
def C_rState18 : Ctr := ⟨2, M18, fun x => [.ptr 0 0 0 0], fun x => x.H, fun _ => True, fun x => [.one True (.g (.int .i64 x.r.st)) x.H]⟩
def cx_rState18 (_ : M18) : Cx := ⟨ty, ΓOf Γra, fun _ => [], fun _ _ => [], 9, 2⟩
def VcQrState18 : Prop := ∀ (x : M18), True → True ∧ R18.st (M18.r x) = R18.st (M18.r x) ∧ true = true ∧ R18.ow (M18.r x) = R18.ow (M18.r x) ∧ R18.ot (M18.r x) = R18.ot (M18.r x) ∧ R18.ti (M18.r x) = R18.ti (M18.r x) ∧ R18.nx (M18.r x) = R18.nx
  (M18.r x) ∧ R18.wa (M18.r x) = R18.wa (M18.r x) ∧ R18.st (M18.r x) = R18.st (M18.r x) ∧ R18.le (M18.r x) = R18.le (M18.r x) ∧ M18.fi x = M18.fi x ∧ (0 : Nat) = (0 : Nat) ∧ M18.n x = M18.n x ∧ M18.c x = M18.c x ∧ True ∨
  False
theorem vcQrState18E : VcQrState18 = (∀ (x : M18), True → fnX (cx_rState18 x) (bodyOf Try.f37) Try.f37.results.toList (C_rState18.args x) (C_rState18.H x) (endX 2 (C_rState18.outs x))) := by kernel_rfl
set_option maxHeartbeats 4000000 in
theorem vcQrState18 : VcQrState18 := by
  rintro ⟨r, fi, n, c⟩ _
  simp only [eq_self, true_and, and_true, Nat.le_refl, Int.le_refl, implies_true, forall_const, and_false, false_and, exists_false, false_or, or_false, true_implies, Nat.zero_add, and_self, Int.toNat_natCast, cond_true, cond_false, condT, condF]
theorem vcQrState18K : ∀ (x : M18), True → Held (fnX (cx_rState18 x) (bodyOf Try.f37) Try.f37.results.toList (C_rState18.args x) (C_rState18.H x) (endX 2 (C_rState18.outs x))) := held2 vcQrState18E vcQrState18
theorem ok_rState18 : GenSound Try.prog Λ0 37 (callX C_rState18 getM) :=
  gen_of (ty := ty) (Γ := ΓOf Γra) hm tyOK Γra_ok (fnOK_of Try.func37 (by kernel_rfl) (by kernel_rfl)) Try.func37 (body_some (by kernel_rfl)) C_rState18 getM Try.ntmps37 (fun _ => Nat.le_of_ble_eq_true rfl) (fun x => (cx_rState18 x).cut) (fun x => (cx_rState18 x).loop) fun x h => vcQrState18K x h
def C_rKept18 : Ctr := ⟨2, M18, fun x => [.ptr 0 0 0 0], fun x => x.H, fun _ => True, fun x => [.one True (.g (.int .i64 x.n)) x.H]⟩
def cx_rKept18 (_ : M18) : Cx := ⟨ty, ΓOf Γra, fun _ => [], fun _ _ => [], 10, 2⟩
def VcQrKept18 : Prop := ∀ (x : M18), True → True ∧ (↑(M18.n x) : Int) = (↑(M18.n x) : Int) ∧ true = true ∧ R18.ow (M18.r x) = R18.ow (M18.r x) ∧ R18.ot (M18.r x) = R18.ot (M18.r x) ∧ R18.ti (M18.r x) = R18.ti (M18.r x) ∧ R18.nx (M18.r x) =
  R18.nx (M18.r x) ∧ R18.wa (M18.r x) = R18.wa (M18.r x) ∧ R18.st (M18.r x) = R18.st (M18.r x) ∧ R18.le (M18.r x) = R18.le (M18.r x) ∧ M18.fi x = M18.fi x ∧ (0 : Nat) = (0 : Nat) ∧ M18.n x = M18.n x ∧ M18.c x = M18.c x ∧
  True ∨ False
theorem vcQrKept18E : VcQrKept18 = (∀ (x : M18), True → fnX (cx_rKept18 x) (bodyOf Try.f38) Try.f38.results.toList (C_rKept18.args x) (C_rKept18.H x) (endX 2 (C_rKept18.outs x))) := by kernel_rfl
set_option maxHeartbeats 4000000 in
theorem vcQrKept18 : VcQrKept18 := by
  rintro ⟨r, fi, n, c⟩ _
  simp only [eq_self, true_and, and_true, Nat.le_refl, Int.le_refl, implies_true, forall_const, and_false, false_and, exists_false, false_or, or_false, true_implies, Nat.zero_add, and_self, Int.toNat_natCast, cond_true, cond_false, condT, condF]
theorem vcQrKept18K : ∀ (x : M18), True → Held (fnX (cx_rKept18 x) (bodyOf Try.f38) Try.f38.results.toList (C_rKept18.args x) (C_rKept18.H x) (endX 2 (C_rKept18.outs x))) := held2 vcQrKept18E vcQrKept18
theorem ok_rKept18 : GenSound Try.prog Λ0 38 (callX C_rKept18 getM) :=
  gen_of (ty := ty) (Γ := ΓOf Γra) hm tyOK Γra_ok (fnOK_of Try.func38 (by kernel_rfl) (by kernel_rfl)) Try.func38 (body_some (by kernel_rfl)) C_rKept18 getM Try.ntmps38 (fun _ => Nat.le_of_ble_eq_true rfl) (fun x => (cx_rKept18 x).cut) (fun x => (cx_rKept18 x).loop) fun x h => vcQrKept18K x h
def C_rNumbers18 : Ctr := ⟨2, M18, fun x => [.ptr 0 0 0 0], fun x => x.H, fun _ => True, fun x => [.one True (.tup [.g (.int .i64 x.r.nx), .g (.int .i64 x.r.wa)]) x.H]⟩
def cx_rNumbers18 (_ : M18) : Cx := ⟨ty, ΓOf Γra, fun _ => [], fun _ _ => [], 14, 2⟩
def VcRNumbers : Prop := ∀ (x : M18), True → True ∧ R18.nx (M18.r x) = R18.nx (M18.r x) ∧ R18.wa (M18.r x) = R18.wa (M18.r x) ∧ true = true ∧ R18.ow (M18.r x) = R18.ow (M18.r x) ∧ R18.ot (M18.r x) = R18.ot (M18.r x) ∧ R18.ti (M18.r x) = R18.ti
  (M18.r x) ∧ R18.nx (M18.r x) = R18.nx (M18.r x) ∧ R18.wa (M18.r x) = R18.wa (M18.r x) ∧ R18.st (M18.r x) = R18.st (M18.r x) ∧ R18.le (M18.r x) = R18.le (M18.r x) ∧ M18.fi x = M18.fi x ∧ (0 : Nat) = (0 : Nat) ∧ M18.n x =
  M18.n x ∧ M18.c x = M18.c x ∧ True ∨ False
theorem vcRNumbersE : VcRNumbers = (∀ (x : M18), True → fnX (cx_rNumbers18 x) (bodyOf Try.f36) Try.f36.results.toList (C_rNumbers18.args x) (C_rNumbers18.H x) (endX 2 (C_rNumbers18.outs x))) := by kernel_rfl
set_option maxHeartbeats 4000000 in
theorem vcRNumbers : VcRNumbers := by
  rintro ⟨r, fi, n, c⟩ _
  simp only [eq_self, true_and, and_true, Nat.le_refl, Int.le_refl, implies_true, forall_const, and_false, false_and, exists_false, false_or, or_false, true_implies, Nat.zero_add, and_self, Int.toNat_natCast, cond_true, cond_false, condT, condF]
theorem vcRNumbersK : ∀ (x : M18), True → Held (fnX (cx_rNumbers18 x) (bodyOf Try.f36) Try.f36.results.toList (C_rNumbers18.args x) (C_rNumbers18.H x) (endX 2 (C_rNumbers18.outs x))) := held2 vcRNumbersE vcRNumbers
theorem ok_rNumbers18 : GenSound Try.prog Λ0 36 (callX C_rNumbers18 getM) :=
  gen_of (ty := ty) (Γ := ΓOf Γra) hm tyOK Γra_ok (fnOK_of Try.func36 (by kernel_rfl) (by kernel_rfl)) Try.func36 (body_some (by kernel_rfl)) C_rNumbers18 getM Try.ntmps36 (fun _ => Nat.le_of_ble_eq_true rfl) (fun x => (cx_rNumbers18 x).cut) (fun x => (cx_rNumbers18 x).loop) fun x h => vcRNumbersK x h
def C_rTick18 : Ctr := ⟨2, M18, fun x => [.ptr 0 0 0 0], fun x => x.H, fun x => x.r.ok, fun x => [.one True (.tup []) (M18.H ⟨tkR x.r, x.fi, x.n, x.c⟩)]⟩
def cx_rTick18 (_ : M18) : Cx := ⟨ty, ΓOf Γra, fun _ => [], fun _ _ => [], 23, 2⟩
def VcRTick : Prop := ∀ (x : M18), R18.ok (M18.r x) → condX (R18.st (M18.r x) != (3 : Int)) (True ∧ true = true ∧ R18.ow (M18.r x) = R18.ow (tkR (M18.r x)) ∧ R18.ot (M18.r x) = R18.ot (tkR (M18.r x)) ∧ R18.ti (M18.r x) = R18.ti (tkR (M18.r
  x)) ∧ R18.nx (M18.r x) = R18.nx (tkR (M18.r x)) ∧ R18.wa (M18.r x) = R18.wa (tkR (M18.r x)) ∧ R18.st (M18.r x) = R18.st (tkR (M18.r x)) ∧ R18.le (M18.r x) = R18.le (tkR (M18.r x)) ∧ M18.fi x = M18.fi x ∧ (0 : Nat) = (0 :
  Nat) ∧ M18.n x = M18.n x ∧ M18.c x = M18.c x ∧ True ∨ False) (condX (IntKind.wrap IntKind.i64 (R18.le (M18.r x) - (1 : Int)) == (0 : Int)) (True ∧ true = true ∧ R18.ow (M18.r x) = R18.ow (tkR (M18.r x)) ∧ R18.ot (M18.r
  x) = R18.ot (tkR (M18.r x)) ∧ R18.ti (M18.r x) = R18.ti (tkR (M18.r x)) ∧ R18.nx (M18.r x) = R18.nx (tkR (M18.r x)) ∧ R18.wa (M18.r x) = R18.wa (tkR (M18.r x)) ∧ (4 : Int) = R18.st (tkR (M18.r x)) ∧ IntKind.wrap
  IntKind.i64 (R18.le (M18.r x) - (1 : Int)) = R18.le (tkR (M18.r x)) ∧ M18.fi x = M18.fi x ∧ (0 : Nat) = (0 : Nat) ∧ M18.n x = M18.n x ∧ M18.c x = M18.c x ∧ True ∨ False) (True ∧ true = true ∧ R18.ow (M18.r x) = R18.ow
  (tkR (M18.r x)) ∧ R18.ot (M18.r x) = R18.ot (tkR (M18.r x)) ∧ R18.ti (M18.r x) = R18.ti (tkR (M18.r x)) ∧ R18.nx (M18.r x) = R18.nx (tkR (M18.r x)) ∧ R18.wa (M18.r x) = R18.wa (tkR (M18.r x)) ∧ R18.st (M18.r x) = R18.st
  (tkR (M18.r x)) ∧ IntKind.wrap IntKind.i64 (R18.le (M18.r x) - (1 : Int)) = R18.le (tkR (M18.r x)) ∧ M18.fi x = M18.fi x ∧ (0 : Nat) = (0 : Nat) ∧ M18.n x = M18.n x ∧ M18.c x = M18.c x ∧ True ∨ False))
theorem vcRTickE : VcRTick = (∀ (x : M18), x.r.ok → fnX (cx_rTick18 x) (bodyOf Try.f35) Try.f35.results.toList (C_rTick18.args x) (C_rTick18.H x) (endX 2 (C_rTick18.outs x))) := by kernel_rfl
set_option maxHeartbeats 4000000 in
theorem vcRTick : VcRTick := by
  rintro ⟨r, fi, n, c⟩ h
  have h : r.ok := h
  simp only [eq_self, true_and, and_true, Nat.le_refl, Int.le_refl, implies_true, forall_const, and_false, false_and, exists_false, false_or, or_false, true_implies, Nat.zero_add, and_self, Int.toNat_natCast, cond_true, cond_false, condT, condF]
  refine (condX_iff _ _ _).2 ⟨fun c => ?_, fun c => ?_⟩
  · have c : ¬ r.st = 3 := by simpa using c
    have hR : tkR r = r := by rw [tkR, if_neg c]
    rw [hR]; exact ⟨rfl, rfl, rfl, rfl, rfl, rfl, rfl⟩
  · have c : r.st = 3 := by simpa using c
    have n1 := h.st c
    have n2 := h.le
    have hw : IntKind.i64.wrap (r.le - 1) = r.le - 1 := wrap1 (by omega) (by omega)
    simp only [hw]
    refine (condX_iff _ _ _).2 ⟨fun g => ?_, fun g => ?_⟩
    · have g : r.le - 1 = 0 := by simpa using g
      have hR : tkR r = ⟨r.nx, r.wa, r.ow, r.ot, r.ti, 4, r.le - 1⟩ := by rw [tkR, if_pos c, if_pos (by omega)]
      rw [hR]; exact ⟨rfl, rfl, rfl, rfl, rfl, rfl, rfl⟩
    · have g : ¬ r.le - 1 = 0 := by simpa using g
      have hR : tkR r = ⟨r.nx, r.wa, r.ow, r.ot, r.ti, 3, r.le - 1⟩ := by rw [tkR, if_pos c, if_neg (by omega)]
      rw [hR]; exact ⟨rfl, rfl, rfl, rfl, rfl, c, rfl⟩
theorem vcRTickK : ∀ (x : M18), x.r.ok → Held (fnX (cx_rTick18 x) (bodyOf Try.f35) Try.f35.results.toList (C_rTick18.args x) (C_rTick18.H x) (endX 2 (C_rTick18.outs x))) := held2 vcRTickE vcRTick
theorem ok_rTick18 : GenSound Try.prog Λ0 35 (callX C_rTick18 getM) :=
  gen_of (ty := ty) (Γ := ΓOf Γra) hm tyOK Γra_ok (fnOK_of Try.func35 (by kernel_rfl) (by kernel_rfl)) Try.func35 (body_some (by kernel_rfl)) C_rTick18 getM Try.ntmps35 (fun _ => Nat.le_of_ble_eq_true rfl) (fun x => (cx_rTick18 x).cut) (fun x => (cx_rTick18 x).loop) fun x h => vcRTickK x h
def C_rNew18 : Ctr := ⟨0, Int × Int × Int, fun x => [.g (.int .i64 x.1), .g (.int .i64 x.2.1), .g (.int .i64 x.2.2)], fun _ => [], fun _ => True, fun x =>
  [.one (newOK x.1 x.2.1 x.2.2) (.tup [.ptr 0 0 0 0, .g (.int .i64 0)]) [(0, .cells ((newR x.1 x.2.1 x.2.2).qcells 0 (.g (.slice none 0 0))) 73)],
   .one (¬ newOK x.1 x.2.1 x.2.2) (.tup [.g (.pointer none), .g (.int .i64 1)]) []]⟩
def cx_rNew18 (_ : Int × Int × Int) : Cx := ⟨ty, ΓOf Γra, fun _ => [], fun _ _ => [], 35, 0⟩
def VcRNew18 : Prop := ∀ (x : Int × Int × Int), True → condX (bif bif bif bif bif decide (Prod.fst x < (1 : Int)) then true else decide ((65535 : Int) < Prod.fst x) then true else decide (Prod.fst (Prod.snd x) < (1 : Int)) then true else
  decide ((65535 : Int) < Prod.fst (Prod.snd x)) then true else decide (Prod.snd (Prod.snd x) < (1 : Int)) then true else decide ((100 : Int) < Prod.snd (Prod.snd x))) (newOK (Prod.fst x) (Prod.fst (Prod.snd x)) (Prod.snd
  (Prod.snd x)) ∧ False ∨ ¬newOK (Prod.fst x) (Prod.fst (Prod.snd x)) (Prod.snd (Prod.snd x)) ∧ Value.pointer none = Value.pointer none ∧ (1 : Int) = (1 : Int) ∧ True ∨ False) (newOK (Prod.fst x) (Prod.fst (Prod.snd x))
  (Prod.snd (Prod.snd x)) ∧ (0 : Nat) = (0 : Nat) ∧ (0 : Int) = (0 : Int) ∧ [SV.g (Value.bool true), SV.g (Value.int IntKind.i64 (Prod.fst x)), SV.g (Value.int IntKind.i64 (Prod.fst (Prod.snd x))), SV.g (Value.int
  IntKind.i64 (Prod.snd (Prod.snd x))), SV.g (Value.int IntKind.i64 (0 : Int)), SV.g (Value.int IntKind.i64 (0 : Int)), SV.g (Value.int IntKind.i64 (0 : Int)), SV.g (Value.int IntKind.i64 (0 : Int)), SV.g (Value.int
  IntKind.i64 (0 : Int)), SV.g (Value.slice none (0 : Nat) (0 : Nat))] = R18.qcells (newR (Prod.fst x) (Prod.fst (Prod.snd x)) (Prod.snd (Prod.snd x))) (0 : Int) (SV.g (Value.slice none (0 : Nat) (0 : Nat))) ∧ True ∨
  ¬newOK (Prod.fst x) (Prod.fst (Prod.snd x)) (Prod.snd (Prod.snd x)) ∧ False ∨ False)
theorem vcRNew18E : VcRNew18 = (∀ (x : Int × Int × Int), True → fnX (cx_rNew18 x) (bodyOf Try.f14) Try.f14.results.toList (C_rNew18.args x) (C_rNew18.H x) (endX 0 (C_rNew18.outs x))) := by kernel_rfl
set_option maxHeartbeats 4000000 in
theorem vcRNew18 : VcRNew18 := by
  rintro ⟨a, b, t⟩ _
  simp only [eq_self, true_and, and_true, Nat.le_refl, Int.le_refl, implies_true, forall_const, and_false, false_and, exists_false, false_or, or_false, true_implies, Nat.zero_add, and_self, Int.toNat_natCast, cond_true, cond_false, condT, condF]
  refine (condX_iff _ _ _).2 ⟨fun c => ?_, fun c => ?_⟩
  · simp only [bOr, decide_eq_true_eq] at c
    rintro ⟨n1, n2, n3⟩
    omega
  · rw [← Bool.not_eq_true] at c
    simp only [bOr, decide_eq_true_eq] at c
    exact ⟨⟨by omega, by omega, by omega⟩, rfl⟩
theorem vcRNew18K : ∀ (x : Int × Int × Int), True → Held (fnX (cx_rNew18 x) (bodyOf Try.f14) Try.f14.results.toList (C_rNew18.args x) (C_rNew18.H x) (endX 0 (C_rNew18.outs x))) := held2 vcRNew18E vcRNew18
theorem ok_rNew18 : GenSound Try.prog Λ0 14 (callX C_rNew18 getN3) :=
  gen_of (ty := ty) (Γ := ΓOf Γra) hm tyOK Γra_ok (fnOK_of Try.func14 (by kernel_rfl) (by kernel_rfl)) Try.func14 (body_some (by kernel_rfl)) C_rNew18 getN3 Try.ntmps14 (fun _ => Nat.le_of_ble_eq_true rfl) (fun x => (cx_rNew18 x).cut) (fun x => (cx_rNew18 x).loop) fun x h => vcRNew18K x h
def Γrb : List (Nat × Rule) := (53, .gen (callX C_rData18 getMD)) :: (52, .gen (callX C_rClose18 getM)) :: (37, .gen (callX C_rState18 getM)) :: (38, .gen (callX C_rKept18 getM)) :: (36, .gen (callX C_rNumbers18 getM)) :: (35, .gen (callX C_rTick18 getM)) :: (14, .gen (callX C_rNew18 getN3)) :: Γra
theorem Γrb_ok : ΓOK Try.prog Λ0 (ΓOf Γrb) := (ΓOf_cons ok_rData18 (ΓOf_cons ok_rClose18 (ΓOf_cons ok_rState18 (ΓOf_cons ok_rKept18 (ΓOf_cons ok_rNumbers18 (ΓOf_cons ok_rTick18 (ΓOf_cons ok_rNew18 Γra_ok)))))))
end Go.Proofs.Ytghbejmnnfoamaa
