/- Chapter 18: the law ResumeCopies: a copy goes on alone, and as the first one. -/
import Derived.Test.YtghbejmnnfoamaaRo
set_option linter.unusedVariables false
set_option linter.unusedSimpArgs false
namespace Go.Proofs.Ytghbejmnnfoamaa
open Go Go.Eng
attribute [local irreducible] condX
def Γrl : List (Nat × Rule) := (19, .gen wtState) :: (11, .gen wtKept) :: (20, .gen wtNumbers) :: (13, .exact X_sane18.rule) :: (16, .gen (callX C_rEvents getEv2)) :: (9, .gen (callX C_OnU getOE)) :: Γx
theorem Γrl_ok : ΓOK Try.prog (ΓOf Γrl) := ΓOf_cons ok_StateA (ΓOf_cons ok_KeptA (ΓOf_cons ok_NumbersA (ΓOf_cons ok_sane18 (ΓOf_cons ok_rEvents (ΓOf_cons ok_OnU Γx_ok)))))
/-! ### the copy of a list of units -/
def C_CloneU : Ctr := ⟨1, List U × Nat, fun x => [.sl 0 0 10 x.1.length x.2], fun x => [(0, .view 10 x.1.length x.2 (urow x.1) 60)], fun x => x.1.length ≤ x.2 ∧ x.1.length ≤ 100000, fun x =>
  [.any Nat (fun c => x.1.length ≤ c) (fun c => .sl 1 0 10 x.1.length c) (fun c => [(0, .view 10 x.1.length x.2 (urow x.1) 60), (1, .view 10 x.1.length c (urow x.1) 60)])]⟩
def cx_CloneU (_ : List U × Nat) : Cx := ⟨ty, ΓOf Γrl, fun _ => [], fun _ _ => [], 8, 1⟩
def VcCloneU : Prop := ∀ (x : List U × Nat), List.length (Prod.fst x) ≤ Prod.snd x ∧ List.length (Prod.fst x) ≤ (100000 : Nat) → ∀ (b : Bool), (b = true → List.length (Prod.fst x) = (0 : Nat) ∧ Prod.snd x = (0 : Nat)) → condX b ((∃ (y : Nat),
  List.length (Prod.fst x) ≤ y ∧ List.length (Prod.fst x) = (0 : Nat) ∧ y = (0 : Nat) ∧ List.length (Prod.fst x) ≤ List.length (Prod.fst x) ∧ List.length (Prod.fst x) ≤ Prod.snd x ∧ Prod.snd x ≤ Prod.snd x ∧ (∀ (j : Nat),
  j < List.length (Prod.fst x) → urow (Prod.fst x) j = urow (Prod.fst x) j ∧ true = true) ∧ List.length (Prod.fst x) = (0 : Nat) ∧ True) ∨ False) ((0 : Nat) + List.length (Prod.fst x) ≤ List.length (Prod.fst x) ∧ (∀ (j :
  Nat), j < List.length (Prod.fst x) → true = true) ∧ (0 : Nat) ≤ (0 : Nat) ∧ (0 : Nat) ≤ (0 : Nat) ∧ ((0 : Nat) + List.length (Prod.fst x)) * (88 : Nat) ≤ (140737488355328 : Nat) ∧ ∀ (cap : Nat), (0 : Nat) + List.length
  (Prod.fst x) ≤ cap → (∃ (y : Nat), List.length (Prod.fst x) ≤ y ∧ (0 : Nat) = (0 : Nat) ∧ (0 : Nat) + List.length (Prod.fst x) = List.length (Prod.fst x) ∧ cap = y ∧ List.length (Prod.fst x) ≤ List.length (Prod.fst x) ∧
  List.length (Prod.fst x) ≤ Prod.snd x ∧ Prod.snd x ≤ Prod.snd x ∧ (∀ (j : Nat), j < List.length (Prod.fst x) → urow (Prod.fst x) j = urow (Prod.fst x) j ∧ true = true) ∧ List.length (Prod.fst x) ≤ (0 : Nat) + List.length
  (Prod.fst x) ∧ List.length (Prod.fst x) ≤ y ∧ y ≤ cap ∧ (∀ (j : Nat), j < List.length (Prod.fst x) → [SV.g (Value.int IntKind.i64 (U.k (List.getD (Prod.fst x) (j - (0 : Nat)) uZero))), SV.g (Value.int IntKind.i64 (U.to
  (List.getD (Prod.fst x) (j - (0 : Nat)) uZero))), SV.g (Value.int IntKind.i64 (U.fr (List.getD (Prod.fst x) (j - (0 : Nat)) uZero))), SV.g (Value.int IntKind.i64 (U.cl (List.getD (Prod.fst x) (j - (0 : Nat)) uZero))),
  SV.g (Value.int IntKind.i64 (U.sz (List.getD (Prod.fst x) (j - (0 : Nat)) uZero))), SV.g (Value.int IntKind.i64 (U.nu (List.getD (Prod.fst x) (j - (0 : Nat)) uZero))), SV.g (Value.int IntKind.i64 (U.cr (List.getD
  (Prod.fst x) (j - (0 : Nat)) uZero))), SV.g (Value.int IntKind.i64 (U.re (List.getD (Prod.fst x) (j - (0 : Nat)) uZero))), SV.g (Value.bool (U.e (List.getD (Prod.fst x) (j - (0 : Nat)) uZero))), SV.g (Value.string (U.d
  (List.getD (Prod.fst x) (j - (0 : Nat)) uZero)))] = urow (Prod.fst x) j ∧ true = true) ∧ True) ∨ False)
theorem vcCloneUE : VcCloneU = (∀ (x : List U × Nat), (x.1.length ≤ x.2 ∧ x.1.length ≤ 100000) → fnX (cx_CloneU x) (bodyOf Try.f39) Try.f39.results.toList (C_CloneU.args x) (C_CloneU.H x) (endX 1 (C_CloneU.outs x))) := by kernel_rfl
set_option maxHeartbeats 4000000 in
theorem vcCloneU : VcCloneU := by
  rintro ⟨us, c⟩ hh
  obtain ⟨h1, h2⟩ : us.length ≤ c ∧ us.length ≤ 100000 := hh
  simp only [eq_self, true_and, and_true, Nat.le_refl, Int.le_refl, implies_true, forall_const, and_false, false_and, exists_false, false_or, or_false, true_implies, Nat.zero_add, and_self, Int.toNat_natCast, cond_true, cond_false, condT, condF]
  intro b hb
  refine (condX_iff _ _ _).2 ⟨fun e => ?_, fun e => ⟨by omega, fun cap hcap => ⟨cap, hcap, rfl, h1, hcap, Nat.le_refl _, fun j hj => rfl⟩⟩⟩
  obtain ⟨e1, e2⟩ := hb e
  exact ⟨0, by omega, e1, rfl, h1, e1⟩
theorem vcCloneUK : ∀ (x : List U × Nat), (x.1.length ≤ x.2 ∧ x.1.length ≤ 100000) → Held (fnX (cx_CloneU x) (bodyOf Try.f39) Try.f39.results.toList (C_CloneU.args x) (C_CloneU.H x) (endX 1 (C_CloneU.outs x))) := held2 (p := fun (x : List U × Nat) (_ : (x.1.length ≤ x.2 ∧ x.1.length ≤ 100000)) => fnX (cx_CloneU x) (bodyOf Try.f39) Try.f39.results.toList (C_CloneU.args x) (C_CloneU.H x) (endX 1 (C_CloneU.outs x))) vcCloneUE vcCloneU
def getCl (a : List SV) (H : Heap) : Option (List U × Nat) := match a with
  | [x] => getK x H
  | _ => none
theorem ok_CloneU : GenSound Try.prog 39 (callX C_CloneU getCl) :=
  gen_of (ty := ty) (Γ := ΓOf Γrl) hm tyOK Γrl_ok (fnOK_of Try.func39 (by kernel_rfl) (by kernel_rfl)) Try.func39 (body_some (by kernel_rfl)) C_CloneU getCl Try.ntmps39 (fun _ => Nat.le_of_ble_eq_true rfl) (fun x => (cx_CloneU x).cut) (fun x => (cx_CloneU x).loop) fun x h => vcCloneUK x h
def Γrg : List (Nat × Rule) := (39, .gen (callX C_CloneU getCl)) :: (21, .gen (callX C_none18 getN)) :: Γrl
theorem Γrg_ok : ΓOK Try.prog (ΓOf Γrg) := (ΓOf_cons ok_CloneU (ΓOf_cons ok_none18 Γrl_ok))
/-! ### the copy of a side -/
def O18.H2 (s : O18) (c : Nat) : Heap := [(0, .cells (s.r.cells (.sl 1 0 10 s.us.length s.ck) (.sl 2 0 6 s.n s.ca)) 55), (1, .view 10 s.us.length s.ck (urow s.us) 60), (3, .cells (s.r.cells (.sl 4 0 10 s.us.length c) nilS) 55), (4, .view 10 s.us.length c (urow s.us) 60)]
def C_Copy18 : Ctr := ⟨3, O18, fun _ => [.ptr 0 0 0 0], fun x => x.H, fun x => x.ok ∧ x.r.ow ≠ 0, fun x => [.any Nat (fun c => x.us.length ≤ c) (fun _ => .ptr 3 0 0 0) (fun c => x.H2 c)]⟩
def cx_Copy18 (_ : O18) : Cx := ⟨ty, ΓOf Γrg, fun _ => [], fun _ _ => [], 16, 3⟩
def VcCopy18 : Prop := ∀ (x : O18), O18.ok x ∧ R18.ow (O18.r x) ≠ (0 : Int) → (0 : Nat) = (0 : Nat) ∧ R18.nx (O18.r x) = R18.nx (O18.r x) ∧ R18.wa (O18.r x) = R18.wa (O18.r x) ∧ R18.ow (O18.r x) = R18.ow (O18.r x) ∧ R18.ot (O18.r x) = R18.ot
  (O18.r x) ∧ R18.ti (O18.r x) = R18.ti (O18.r x) ∧ R18.st (O18.r x) = R18.st (O18.r x) ∧ R18.le (O18.r x) = R18.le (O18.r x) ∧ (0 : Nat) = (0 : Nat) ∧ List.length (O18.us x) = List.length (O18.us x) ∧ O18.ck x = O18.ck x
  ∧ (0 : Nat) = (0 : Nat) ∧ O18.n x = O18.n x ∧ O18.ca x = O18.ca x ∧ True ∧ (True → condX (decide (R18.ow (O18.r x) = (0 : Int))) ((∃ (y : Nat), List.length (O18.us x) ≤ y ∧ False) ∨ False) ((0 : Nat) = (0 : Nat) ∧
  List.length (O18.us x) = List.length (List.map (fun (j : Nat) => uRow (urow (O18.us x) j)) (List.range (List.length (O18.us x)))) ∧ O18.ck x = O18.ck x ∧ List.length (List.map (fun (j : Nat) => uRow (urow (O18.us x) j))
  (List.range (List.length (O18.us x)))) ≤ List.length (O18.us x) ∧ List.length (List.map (fun (j : Nat) => uRow (urow (O18.us x) j)) (List.range (List.length (O18.us x)))) ≤ O18.ck x ∧ O18.ck x ≤ O18.ck x ∧ (∀ (j : Nat),
  j < List.length (List.map (fun (j : Nat) => uRow (urow (O18.us x) j)) (List.range (List.length (O18.us x)))) → urow (O18.us x) j = urow (List.map (fun (j : Nat) => uRow (urow (O18.us x) j)) (List.range (List.length
  (O18.us x)))) j ∧ true = true) ∧ (List.length (List.map (fun (j : Nat) => uRow (urow (O18.us x) j)) (List.range (List.length (O18.us x)))) ≤ O18.ck x ∧ List.length (List.map (fun (j : Nat) => uRow (urow (O18.us x) j))
  (List.range (List.length (O18.us x)))) ≤ (100000 : Nat)) ∧ ∀ (y : Nat), List.length (List.map (fun (j : Nat) => uRow (urow (O18.us x) j)) (List.range (List.length (O18.us x)))) ≤ y → (∃ (y_1 : Nat), List.length (O18.us
  x) ≤ y_1 ∧ (0 : Nat) = (0 : Nat) ∧ R18.nx (O18.r x) = R18.nx (O18.r x) ∧ R18.wa (O18.r x) = R18.wa (O18.r x) ∧ R18.ow (O18.r x) = R18.ow (O18.r x) ∧ R18.ot (O18.r x) = R18.ot (O18.r x) ∧ R18.ti (O18.r x) = R18.ti (O18.r
  x) ∧ R18.st (O18.r x) = R18.st (O18.r x) ∧ R18.le (O18.r x) = R18.le (O18.r x) ∧ (0 : Nat) = (0 : Nat) ∧ List.length (O18.us x) = List.length (O18.us x) ∧ O18.ck x = O18.ck x ∧ (0 : Nat) = (0 : Nat) ∧ O18.n x = O18.n x ∧
  O18.ca x = O18.ca x ∧ List.length (O18.us x) ≤ List.length (List.map (fun (j : Nat) => uRow (urow (O18.us x) j)) (List.range (List.length (O18.us x)))) ∧ List.length (O18.us x) ≤ O18.ck x ∧ O18.ck x ≤ O18.ck x ∧ (∀ (j :
  Nat), j < List.length (O18.us x) → urow (List.map (fun (j : Nat) => uRow (urow (O18.us x) j)) (List.range (List.length (O18.us x)))) j = urow (O18.us x) j ∧ true = true) ∧ R18.nx (O18.r x) = R18.nx (O18.r x) ∧ R18.wa
  (O18.r x) = R18.wa (O18.r x) ∧ R18.ow (O18.r x) = R18.ow (O18.r x) ∧ R18.ot (O18.r x) = R18.ot (O18.r x) ∧ R18.ti (O18.r x) = R18.ti (O18.r x) ∧ R18.st (O18.r x) = R18.st (O18.r x) ∧ R18.le (O18.r x) = R18.le (O18.r x) ∧
  (0 : Nat) = (0 : Nat) ∧ List.length (List.map (fun (j : Nat) => uRow (urow (O18.us x) j)) (List.range (List.length (O18.us x)))) = List.length (O18.us x) ∧ y = y_1 ∧ Value.slice none (0 : Nat) (0 : Nat) = Value.slice
  none (0 : Nat) (0 : Nat) ∧ List.length (O18.us x) ≤ List.length (List.map (fun (j : Nat) => uRow (urow (O18.us x) j)) (List.range (List.length (O18.us x)))) ∧ List.length (O18.us x) ≤ y_1 ∧ y_1 ≤ y ∧ (∀ (j : Nat), j <
  List.length (O18.us x) → urow (List.map (fun (j : Nat) => uRow (urow (O18.us x) j)) (List.range (List.length (O18.us x)))) j = urow (O18.us x) j ∧ true = true) ∧ True) ∨ False))
theorem vcCopy18E : VcCopy18 = (∀ (x : O18), (x.ok ∧ x.r.ow ≠ 0) → fnX (cx_Copy18 x) (bodyOf Try.f18) Try.f18.results.toList (C_Copy18.args x) (C_Copy18.H x) (endX 3 (C_Copy18.outs x))) := by kernel_rfl
set_option maxHeartbeats 4000000 in
theorem vcCopy18 : VcCopy18 := by
  rintro ⟨r, us, ck, n, ca⟩ hh
  obtain ⟨⟨h1, h2, h3⟩, h4⟩ : O18.ok ⟨r, us, ck, n, ca⟩ ∧ r.ow ≠ 0 := hh
  simp only [eq_self, true_and, and_true, Nat.le_refl, Int.le_refl, implies_true, forall_const, and_false, false_and, exists_false, false_or, or_false, true_implies, Nat.zero_add, and_self, Int.toNat_natCast, cond_true, cond_false, condT, condF, uRow_urow]
  refine (condX_iff _ _ _).2 ⟨fun c => absurd (of_decide_eq_true c) h4, fun _ => ⟨h1, ⟨h1, by dsimp only at h2; omega⟩, fun y hy => ⟨y, hy, h1, rfl, hy, Nat.le_refl _⟩⟩⟩
theorem vcCopy18K : ∀ (x : O18), (x.ok ∧ x.r.ow ≠ 0) → Held (fnX (cx_Copy18 x) (bodyOf Try.f18) Try.f18.results.toList (C_Copy18.args x) (C_Copy18.H x) (endX 3 (C_Copy18.outs x))) := held2 (p := fun (x : O18) (_ : (x.ok ∧ x.r.ow ≠ 0)) => fnX (cx_Copy18 x) (bodyOf Try.f18) Try.f18.results.toList (C_Copy18.args x) (C_Copy18.H x) (endX 3 (C_Copy18.outs x))) vcCopy18E vcCopy18
theorem ok_Copy18 : GenSound Try.prog 18 (callX C_Copy18 getO) :=
  gen_of (ty := ty) (Γ := ΓOf Γrg) hm tyOK Γrg_ok (fnOK_of Try.func18 (by kernel_rfl) (by kernel_rfl)) Try.func18 (body_some (by kernel_rfl)) C_Copy18 getO Try.ntmps18 (fun _ => Nat.le_of_ble_eq_true rfl) (fun x => (cx_Copy18 x).cut) (fun x => (cx_Copy18 x).loop) fun x h => vcCopy18K x h
def Γrh : List (Nat × Rule) := (18, .gen (callX C_Copy18 getO)) :: Γrg
theorem Γrh_ok : ΓOK Try.prog (ΓOf Γrh) := (ΓOf_cons ok_Copy18 Γrg_ok)
/-! ### many events -/
def runE (t : R18 × List U) (e : Ev) : R18 × List U := ((onT t.1 t.2 e).2.1, (onT t.1 t.2 e).2.2.1)
def runL (t : R18 × List U) (l : List Ev) : R18 × List U := l.foldl runE t
theorem runL_take {t : R18 × List U} {l : List Ev} {i : Nat} (h : i < l.length) : runL t (l.take (i + 1)) = runE (runL t (l.take i)) (l.getD i eZero) := by
  have : l.take (i + 1) = l.take i ++ [l.getD i eZero] := by
    rw [List.take_add_one]; simp [List.getD_eq_getElem?_getD, h]
  rw [this, runL, List.foldl_append]; rfl
structure SD where
  r : R18
  us : List U
  ck : Nat
  n : Nat
  ca : Nat
structure SD.ok (x : SD) : Prop where
  w : Well x.r x.us
  ow : x.r.ow ≠ 0
  k : x.us.length ≤ x.ck
def sdH (id : Nat) (x : SD) : Heap := [(id, .cells (x.r.cells (.sl (id + 1) 0 10 x.us.length x.ck) (.sl (id + 2) 0 6 x.n x.ca)) 55), (id + 1, .view 10 x.us.length x.ck (urow x.us) 60)]
def ann1 (l m : List Ev) (cap cam : Nat) : Ann := ⟨SD × Nat, fun x => ⟨[(1, .sl 1 0 6 l.length cap), (2, .sl 2 0 6 m.length cam), (7, .ptr 3 0 0 0), (9, .g (.int .i64 x.2))], (1, .ro 6 l.length (erow l)) :: (2, .ro 6 m.length (erow m)) :: sdH 3 x.1, 6, 0, []⟩,
  fun x => x.1.ok ∧ x.2 ≤ l.length, fun x => l.length - x.2⟩
structure Two where
  s : SD
  c : SD
  d : SD
  i : Nat
structure Two.ok (x : Two) (m : List Ev) : Prop where
  s : x.s.ok
  c : x.c.ok
  d : x.d.ok
  e : (x.c.r, x.c.us) = (x.s.r, x.s.us)
  f : (x.s.r, x.s.us) = runL (x.d.r, x.d.us) (m.take x.i)
  i : x.i ≤ m.length
  j : x.i ≤ 200
def ann2 (m : List Ev) (cam : Nat) : Ann := ⟨Two, fun x => ⟨[(2, .sl 2 0 6 m.length cam), (7, .ptr 3 0 0 0), (10, .ptr 6 0 0 0), (11, .ptr 9 0 0 0), (12, .g (.int .i64 x.i))], (2, .ro 6 m.length (erow m)) :: (sdH 3 x.s ++ sdH 6 x.c ++ sdH 9 x.d), 12, 0, []⟩,
  fun x => x.ok m, fun x => m.length - x.i⟩
structure One where
  s : SD
  d : SD
  t : R18 × List U
  i : Nat
structure One.ok (x : One) (m : List Ev) : Prop where
  s : x.s.ok
  d : x.d.ok
  f : (x.s.r, x.s.us) = runL x.t (m.take 200)
  e : (x.d.r, x.d.us) = runL x.t (m.take x.i)
  i : x.i ≤ m.length
  j : x.i ≤ 200
def ann3 (m : List Ev) (cam : Nat) : Ann := ⟨One, fun x => ⟨[(2, .sl 2 0 6 m.length cam), (7, .ptr 3 0 0 0), (11, .ptr 6 0 0 0), (17, .g (.int .i64 x.i))], (2, .ro 6 m.length (erow m)) :: (sdH 3 x.s ++ sdH 6 x.d), 9, 0, []⟩,
  fun x => x.ok m, fun x => m.length - x.i⟩
def lpC (l m : List Ev) (cap cam : Nat) (i : Nat) (_ : SS) : List Ann := if i = 5 then [ann1 l m cap cam] else if i = 13 then [ann2 m cam] else if i = 20 then [ann3 m cam] else []
def Rlq0 (x : SD × Nat) := (List.map (fun (j : Nat) => uRow (urow (SD.us (Prod.fst x)) j)) (List.range (List.length (SD.us (Prod.fst x)))))
def Rlq1 (p : (Int × Int × Int) × List Ev × List Ev) (xᵥ1 : Two) := (List.getD (Prod.snd (Prod.snd p)) (Int.toNat (↑(Two.i xᵥ1) : Int)) eZero)
def Rlq2 (x : SD × Nat) := (List.map (fun (j : Nat) => uRow (urow (Rlq0 x) j)) (List.range (List.length (Rlq0 x))))
def Rlq3 (y : (Int × T18) × (Nat × Nat) × Nat × Nat) (y_2 : (Int × T18) × (Nat × Nat) × Nat × Nat) := (!bif bif Prod.fst (Prod.fst y) != Prod.fst (Prod.fst y_2) then true else false then true else R18.st (Prod.fst (Prod.snd (Prod.fst y))) != R18.st (Prod.fst (Prod.snd (Prod.fst y_2))))
def Rlq4 (y_2 : (Int × T18) × (Nat × Nat) × Nat × Nat) := (List.map (fun (j : Nat) => eRow (erow (Prod.snd (Prod.snd (Prod.snd (Prod.fst y_2)))) j)) (List.range (List.length (Prod.snd (Prod.snd (Prod.snd (Prod.fst y_2)))))))
def Rlq5 (y : (Int × T18) × (Nat × Nat) × Nat × Nat) := (List.map (fun (j : Nat) => eRow (erow (Prod.snd (Prod.snd (Prod.snd (Prod.fst y)))) j)) (List.range (List.length (Prod.snd (Prod.snd (Prod.snd (Prod.fst y)))))))
def Rlq6 (p : (Int × Int × Int) × List Ev × List Ev) (x : SD × Nat) := (List.getD (Prod.fst (Prod.snd p)) (Int.toNat (↑(Prod.snd x) : Int)) eZero)
def Rlq7 (p : (Int × Int × Int) × List Ev × List Ev) (xᵥ2 : One) := (List.getD (Prod.snd (Prod.snd p)) (Int.toNat (↑(One.i xᵥ2) : Int)) eZero)
def Rlq8 (xᵥ1 : Two) := (List.map (fun (j : Nat) => uRow (urow (SD.us (Two.c xᵥ1)) j)) (List.range (List.length (SD.us (Two.c xᵥ1)))))
def Rlq9 (xᵥ1 : Two) := (List.map (fun (j : Nat) => uRow (urow (SD.us (Two.s xᵥ1)) j)) (List.range (List.length (SD.us (Two.s xᵥ1)))))
def Rlq10 (xᵥ2 : One) := (List.map (fun (j : Nat) => uRow (urow (SD.us (One.d xᵥ2)) j)) (List.range (List.length (SD.us (One.d xᵥ2)))))
def Rlq11 (y : (Int × T18) × (Nat × Nat) × Nat × Nat) := (Prod.fst (Prod.snd (Prod.snd (Prod.fst y))))
def Rlq12 (y_2 : (Int × T18) × (Nat × Nat) × Nat × Nat) := (Prod.fst (Prod.snd (Prod.snd (Prod.fst y_2))))
def Rlq13 (y : (Int × T18) × (Nat × Nat) × Nat × Nat) (y_2 : (Int × T18) × (Nat × Nat) × Nat × Nat) := ((bif bif Prod.fst (Prod.fst y) != Prod.fst (Prod.fst y_2) then true else false then true else R18.st (Prod.fst (Prod.snd (Prod.fst y))) != R18.st (Prod.fst (Prod.snd (Prod.fst y_2)))) = true ∧ SV.g (Value.bool false) =
  SV.g (Value.bool true))
set_option maxRecDepth 100000 in
def VcResumeCopies : Prop := ∀ (p : (Int × Int × Int) × List Ev × List Ev) (q : ((Nat → List SV) × Nat) × (Nat → List SV) × Nat), RowsE (Prod.fst (Prod.snd p)) (Prod.fst (Prod.fst q)) (Prod.snd (Prod.fst q)) ∧ RowsE (Prod.snd (Prod.snd p)) (Prod.fst
  (Prod.snd q)) (Prod.snd (Prod.snd q)) → Prod.fst (Prod.fst p) = Prod.fst (Prod.fst p) ∧ Prod.fst (Prod.snd (Prod.fst p)) = Prod.fst (Prod.snd (Prod.fst p)) ∧ Prod.snd (Prod.snd (Prod.fst p)) = Prod.snd (Prod.snd
  (Prod.fst p)) ∧ True ∧ (newOK (Prod.fst (Prod.fst p)) (Prod.fst (Prod.snd (Prod.fst p))) (Prod.snd (Prod.snd (Prod.fst p))) → (∃ (x : SD × Nat), (SD.ok (Prod.fst x) ∧ Prod.snd x ≤ List.length (Prod.fst (Prod.snd p))) ∧
  (0 : Nat) = (0 : Nat) ∧ List.length (Prod.fst (Prod.snd p)) = List.length (Prod.fst (Prod.snd p)) ∧ Prod.snd (Prod.fst q) = Prod.snd (Prod.fst q) ∧ (0 : Nat) = (0 : Nat) ∧ List.length (Prod.snd (Prod.snd p)) =
  List.length (Prod.snd (Prod.snd p)) ∧ Prod.snd (Prod.snd q) = Prod.snd (Prod.snd q) ∧ (0 : Nat) = (0 : Nat) ∧ (0 : Int) = (↑(Prod.snd x) : Int) ∧ List.length (Prod.fst (Prod.snd p)) ≤ Prod.snd (Prod.fst q) ∧ (∀ (j :
  Nat), j < List.length (Prod.fst (Prod.snd p)) → Prod.fst (Prod.fst q) j = erow (Prod.fst (Prod.snd p)) j ∧ true = true) ∧ List.length (Prod.snd (Prod.snd p)) ≤ Prod.snd (Prod.snd q) ∧ (∀ (j : Nat), j < List.length
  (Prod.snd (Prod.snd p)) → Prod.fst (Prod.snd q) j = erow (Prod.snd (Prod.snd p)) j ∧ true = true) ∧ (0 : Int) = R18.nx (SD.r (Prod.fst x)) ∧ (0 : Int) = R18.wa (SD.r (Prod.fst x)) ∧ Prod.fst (Prod.fst p) = R18.ow (SD.r
  (Prod.fst x)) ∧ Prod.fst (Prod.snd (Prod.fst p)) = R18.ot (SD.r (Prod.fst x)) ∧ Prod.snd (Prod.snd (Prod.fst p)) = R18.ti (SD.r (Prod.fst x)) ∧ (0 : Int) = R18.st (SD.r (Prod.fst x)) ∧ (0 : Int) = R18.le (SD.r (Prod.fst
  x)) ∧ List.length (SD.us (Prod.fst x)) = (0 : Nat) ∧ SD.ck (Prod.fst x) = (0 : Nat) ∧ SD.n (Prod.fst x) = (0 : Nat) ∧ SD.ca (Prod.fst x) = (0 : Nat) ∧ List.length (SD.us (Prod.fst x)) = (0 : Nat) ∧ True) ∧ ∀ (x : SD ×
  Nat), SD.ok (Prod.fst x) ∧ Prod.snd x ≤ List.length (Prod.fst (Prod.snd p)) → condX (bif decide ((↑(Prod.snd x) : Int) < (↑(List.length (Prod.fst (Prod.snd p))) : Int)) then decide ((↑(Prod.snd x) : Int) < (200 : Int))
  else false) (((0 : Int) ≤ (↑(Prod.snd x) : Int) ∧ (↑(Prod.snd x) : Int) < (↑(List.length (Prod.fst (Prod.snd p))) : Int)) ∧ Int.toNat (↑(Prod.snd x) : Int) < List.length (Prod.fst (Prod.snd p)) ∧ (0 : Nat) = (0 : Nat) ∧
  Ev.w (Rlq6 p x) = Ev.w (Rlq6 p x) ∧ Ev.k (Rlq6 p x) = Ev.k (Rlq6 p x) ∧ Ev.a (Rlq6 p x) = Ev.a (Rlq6 p x) ∧ Ev.b (Rlq6 p x) = Ev.b (Rlq6 p x) ∧ Ev.c (Rlq6 p x) = Ev.c (Rlq6 p x) ∧ Ev.d (Rlq6 p x) = Ev.d (Rlq6 p x) ∧
  R18.nx (SD.r (Prod.fst x)) = R18.nx (SD.r (Prod.fst x)) ∧ R18.wa (SD.r (Prod.fst x)) = R18.wa (SD.r (Prod.fst x)) ∧ R18.ow (SD.r (Prod.fst x)) = R18.ow (SD.r (Prod.fst x)) ∧ R18.ot (SD.r (Prod.fst x)) = R18.ot (SD.r
  (Prod.fst x)) ∧ R18.ti (SD.r (Prod.fst x)) = R18.ti (SD.r (Prod.fst x)) ∧ R18.st (SD.r (Prod.fst x)) = R18.st (SD.r (Prod.fst x)) ∧ R18.le (SD.r (Prod.fst x)) = R18.le (SD.r (Prod.fst x)) ∧ (0 : Nat) = (0 : Nat) ∧
  List.length (SD.us (Prod.fst x)) = List.length (Rlq0 x) ∧ SD.ck (Prod.fst x) = SD.ck (Prod.fst x) ∧ (0 : Nat) = (0 : Nat) ∧ SD.n (Prod.fst x) = SD.n (Prod.fst x) ∧ SD.ca (Prod.fst x) = SD.ca (Prod.fst x) ∧ List.length
  (Rlq0 x) ≤ List.length (SD.us (Prod.fst x)) ∧ List.length (Rlq0 x) ≤ SD.ck (Prod.fst x) ∧ SD.ck (Prod.fst x) ≤ SD.ck (Prod.fst x) ∧ (∀ (j : Nat), j < List.length (Rlq0 x) → urow (SD.us (Prod.fst x)) j = urow (Rlq0 x) j ∧
  true = true) ∧ (O18.ok (O18.mk (SD.r (Prod.fst x)) (Rlq0 x) (SD.ck (Prod.fst x)) (SD.n (Prod.fst x)) (SD.ca (Prod.fst x))) ∧ R18.ow (SD.r (Prod.fst x)) ≠ (0 : Int)) ∧ ∀ (y : (Int × T18) × (Nat × Nat) × Nat × Nat),
  Prod.fst y = onT (SD.r (Prod.fst x)) (Rlq0 x) (Rlq6 p x) ∧ outWu (Prod.snd (Prod.fst y)) (Prod.snd y) → ∃ (x' : SD × Nat), (SD.ok (Prod.fst x') ∧ Prod.snd x' ≤ List.length (Prod.fst (Prod.snd p))) ∧ List.length (Prod.fst
  (Prod.snd p)) - Prod.snd x' < List.length (Prod.fst (Prod.snd p)) - Prod.snd x ∧ (0 : Nat) = (0 : Nat) ∧ List.length (Prod.fst (Prod.snd p)) = List.length (Prod.fst (Prod.snd p)) ∧ Prod.snd (Prod.fst q) = Prod.snd
  (Prod.fst q) ∧ (0 : Nat) = (0 : Nat) ∧ List.length (Prod.snd (Prod.snd p)) = List.length (Prod.snd (Prod.snd p)) ∧ Prod.snd (Prod.snd q) = Prod.snd (Prod.snd q) ∧ (0 : Nat) = (0 : Nat) ∧ IntKind.wrap IntKind.i64
  ((↑(Prod.snd x) : Int) + (1 : Int)) = (↑(Prod.snd x') : Int) ∧ List.length (Prod.fst (Prod.snd p)) ≤ List.length (Prod.fst (Prod.snd p)) ∧ (∀ (j : Nat), j < List.length (Prod.fst (Prod.snd p)) → erow (Prod.fst (Prod.snd
  p)) j = erow (Prod.fst (Prod.snd p)) j ∧ true = true) ∧ List.length (Prod.snd (Prod.snd p)) ≤ List.length (Prod.snd (Prod.snd p)) ∧ (∀ (j : Nat), j < List.length (Prod.snd (Prod.snd p)) → erow (Prod.snd (Prod.snd p)) j =
  erow (Prod.snd (Prod.snd p)) j ∧ true = true) ∧ R18.nx (Prod.fst (Prod.snd (Prod.fst y))) = R18.nx (SD.r (Prod.fst x')) ∧ R18.wa (Prod.fst (Prod.snd (Prod.fst y))) = R18.wa (SD.r (Prod.fst x')) ∧ R18.ow (Prod.fst
  (Prod.snd (Prod.fst y))) = R18.ow (SD.r (Prod.fst x')) ∧ R18.ot (Prod.fst (Prod.snd (Prod.fst y))) = R18.ot (SD.r (Prod.fst x')) ∧ R18.ti (Prod.fst (Prod.snd (Prod.fst y))) = R18.ti (SD.r (Prod.fst x')) ∧ R18.st
  (Prod.fst (Prod.snd (Prod.fst y))) = R18.st (SD.r (Prod.fst x')) ∧ R18.le (Prod.fst (Prod.snd (Prod.fst y))) = R18.le (SD.r (Prod.fst x')) ∧ (0 : Nat) = (0 : Nat) ∧ List.length (Rlq11 y) = List.length (SD.us (Prod.fst
  x')) ∧ Prod.fst (Prod.fst (Prod.snd y)) = SD.ck (Prod.fst x') ∧ (0 : Nat) = (0 : Nat) ∧ Prod.fst (Prod.snd (Prod.snd y)) = SD.n (Prod.fst x') ∧ Prod.snd (Prod.snd (Prod.snd y)) = SD.ca (Prod.fst x') ∧ List.length (SD.us
  (Prod.fst x')) ≤ List.length (Rlq11 y) ∧ List.length (SD.us (Prod.fst x')) ≤ SD.ck (Prod.fst x') ∧ SD.ck (Prod.fst x') ≤ Prod.fst (Prod.fst (Prod.snd y)) ∧ (∀ (j : Nat), j < List.length (SD.us (Prod.fst x')) → urow
  (Rlq11 y) j = urow (SD.us (Prod.fst x')) j ∧ true = true) ∧ True) ((0 : Nat) = (0 : Nat) ∧ R18.nx (SD.r (Prod.fst x)) = R18.nx (SD.r (Prod.fst x)) ∧ R18.wa (SD.r (Prod.fst x)) = R18.wa (SD.r (Prod.fst x)) ∧ R18.ow (SD.r
  (Prod.fst x)) = R18.ow (SD.r (Prod.fst x)) ∧ R18.ot (SD.r (Prod.fst x)) = R18.ot (SD.r (Prod.fst x)) ∧ R18.ti (SD.r (Prod.fst x)) = R18.ti (SD.r (Prod.fst x)) ∧ R18.st (SD.r (Prod.fst x)) = R18.st (SD.r (Prod.fst x)) ∧
  R18.le (SD.r (Prod.fst x)) = R18.le (SD.r (Prod.fst x)) ∧ (0 : Nat) = (0 : Nat) ∧ List.length (SD.us (Prod.fst x)) = List.length (Rlq0 x) ∧ SD.ck (Prod.fst x) = SD.ck (Prod.fst x) ∧ (0 : Nat) = (0 : Nat) ∧ SD.n (Prod.fst
  x) = SD.n (Prod.fst x) ∧ SD.ca (Prod.fst x) = SD.ca (Prod.fst x) ∧ List.length (Rlq0 x) ≤ List.length (SD.us (Prod.fst x)) ∧ List.length (Rlq0 x) ≤ SD.ck (Prod.fst x) ∧ SD.ck (Prod.fst x) ≤ SD.ck (Prod.fst x) ∧ (∀ (j :
  Nat), j < List.length (Rlq0 x) → urow (SD.us (Prod.fst x)) j = urow (Rlq0 x) j ∧ true = true) ∧ (O18.ok (O18.mk (SD.r (Prod.fst x)) (Rlq0 x) (SD.ck (Prod.fst x)) (SD.n (Prod.fst x)) (SD.ca (Prod.fst x))) ∧ R18.ow (SD.r
  (Prod.fst x)) ≠ (0 : Int)) ∧ ∀ (yᵥ1 : Nat), List.length (Rlq0 x) ≤ yᵥ1 → (0 : Nat) = (0 : Nat) ∧ R18.nx (SD.r (Prod.fst x)) = R18.nx (SD.r (Prod.fst x)) ∧ R18.wa (SD.r (Prod.fst x)) = R18.wa (SD.r (Prod.fst x)) ∧ R18.ow
  (SD.r (Prod.fst x)) = R18.ow (SD.r (Prod.fst x)) ∧ R18.ot (SD.r (Prod.fst x)) = R18.ot (SD.r (Prod.fst x)) ∧ R18.ti (SD.r (Prod.fst x)) = R18.ti (SD.r (Prod.fst x)) ∧ R18.st (SD.r (Prod.fst x)) = R18.st (SD.r (Prod.fst
  x)) ∧ R18.le (SD.r (Prod.fst x)) = R18.le (SD.r (Prod.fst x)) ∧ (0 : Nat) = (0 : Nat) ∧ List.length (Rlq0 x) = List.length (Rlq2 x) ∧ SD.ck (Prod.fst x) = SD.ck (Prod.fst x) ∧ (0 : Nat) = (0 : Nat) ∧ SD.n (Prod.fst x) =
  SD.n (Prod.fst x) ∧ SD.ca (Prod.fst x) = SD.ca (Prod.fst x) ∧ List.length (Rlq2 x) ≤ List.length (Rlq0 x) ∧ List.length (Rlq2 x) ≤ SD.ck (Prod.fst x) ∧ SD.ck (Prod.fst x) ≤ SD.ck (Prod.fst x) ∧ (∀ (j : Nat), j <
  List.length (Rlq2 x) → urow (Rlq0 x) j = urow (Rlq2 x) j ∧ true = true) ∧ (O18.ok (O18.mk (SD.r (Prod.fst x)) (Rlq2 x) (SD.ck (Prod.fst x)) (SD.n (Prod.fst x)) (SD.ca (Prod.fst x))) ∧ R18.ow (SD.r (Prod.fst x)) ≠ (0 :
  Int)) ∧ ∀ (y_1 : Nat), List.length (Rlq2 x) ≤ y_1 → (∃ (x_1 : Two), Two.ok x_1 (Prod.snd (Prod.snd p)) ∧ (0 : Nat) = (0 : Nat) ∧ List.length (Prod.snd (Prod.snd p)) = List.length (Prod.snd (Prod.snd p)) ∧ Prod.snd
  (Prod.snd q) = Prod.snd (Prod.snd q) ∧ (0 : Nat) = (0 : Nat) ∧ (0 : Nat) = (0 : Nat) ∧ (0 : Nat) = (0 : Nat) ∧ (0 : Int) = (↑(Two.i x_1) : Int) ∧ List.length (Prod.snd (Prod.snd p)) ≤ List.length (Prod.snd (Prod.snd p))
  ∧ (∀ (j : Nat), j < List.length (Prod.snd (Prod.snd p)) → erow (Prod.snd (Prod.snd p)) j = erow (Prod.snd (Prod.snd p)) j ∧ true = true) ∧ R18.nx (SD.r (Prod.fst x)) = R18.nx (SD.r (Two.s x_1)) ∧ R18.wa (SD.r (Prod.fst
  x)) = R18.wa (SD.r (Two.s x_1)) ∧ R18.ow (SD.r (Prod.fst x)) = R18.ow (SD.r (Two.s x_1)) ∧ R18.ot (SD.r (Prod.fst x)) = R18.ot (SD.r (Two.s x_1)) ∧ R18.ti (SD.r (Prod.fst x)) = R18.ti (SD.r (Two.s x_1)) ∧ R18.st (SD.r
  (Prod.fst x)) = R18.st (SD.r (Two.s x_1)) ∧ R18.le (SD.r (Prod.fst x)) = R18.le (SD.r (Two.s x_1)) ∧ (0 : Nat) = (0 : Nat) ∧ List.length (Rlq2 x) = List.length (SD.us (Two.s x_1)) ∧ SD.ck (Prod.fst x) = SD.ck (Two.s x_1)
  ∧ (0 : Nat) = (0 : Nat) ∧ SD.n (Prod.fst x) = SD.n (Two.s x_1) ∧ SD.ca (Prod.fst x) = SD.ca (Two.s x_1) ∧ List.length (SD.us (Two.s x_1)) ≤ List.length (Rlq2 x) ∧ List.length (SD.us (Two.s x_1)) ≤ SD.ck (Two.s x_1) ∧
  SD.ck (Two.s x_1) ≤ SD.ck (Prod.fst x) ∧ (∀ (j : Nat), j < List.length (SD.us (Two.s x_1)) → urow (Rlq2 x) j = urow (SD.us (Two.s x_1)) j ∧ true = true) ∧ R18.nx (SD.r (Prod.fst x)) = R18.nx (SD.r (Two.c x_1)) ∧ R18.wa
  (SD.r (Prod.fst x)) = R18.wa (SD.r (Two.c x_1)) ∧ R18.ow (SD.r (Prod.fst x)) = R18.ow (SD.r (Two.c x_1)) ∧ R18.ot (SD.r (Prod.fst x)) = R18.ot (SD.r (Two.c x_1)) ∧ R18.ti (SD.r (Prod.fst x)) = R18.ti (SD.r (Two.c x_1)) ∧
  R18.st (SD.r (Prod.fst x)) = R18.st (SD.r (Two.c x_1)) ∧ R18.le (SD.r (Prod.fst x)) = R18.le (SD.r (Two.c x_1)) ∧ (0 : Nat) = (0 : Nat) ∧ List.length (Rlq0 x) = List.length (SD.us (Two.c x_1)) ∧ yᵥ1 = SD.ck (Two.c x_1) ∧
  SD.n (Two.c x_1) = (0 : Nat) ∧ SD.ca (Two.c x_1) = (0 : Nat) ∧ List.length (SD.us (Two.c x_1)) ≤ List.length (Rlq0 x) ∧ List.length (SD.us (Two.c x_1)) ≤ SD.ck (Two.c x_1) ∧ SD.ck (Two.c x_1) ≤ yᵥ1 ∧ (∀ (j : Nat), j <
  List.length (SD.us (Two.c x_1)) → urow (Rlq0 x) j = urow (SD.us (Two.c x_1)) j ∧ true = true) ∧ R18.nx (SD.r (Prod.fst x)) = R18.nx (SD.r (Two.d x_1)) ∧ R18.wa (SD.r (Prod.fst x)) = R18.wa (SD.r (Two.d x_1)) ∧ R18.ow
  (SD.r (Prod.fst x)) = R18.ow (SD.r (Two.d x_1)) ∧ R18.ot (SD.r (Prod.fst x)) = R18.ot (SD.r (Two.d x_1)) ∧ R18.ti (SD.r (Prod.fst x)) = R18.ti (SD.r (Two.d x_1)) ∧ R18.st (SD.r (Prod.fst x)) = R18.st (SD.r (Two.d x_1)) ∧
  R18.le (SD.r (Prod.fst x)) = R18.le (SD.r (Two.d x_1)) ∧ (0 : Nat) = (0 : Nat) ∧ List.length (Rlq2 x) = List.length (SD.us (Two.d x_1)) ∧ y_1 = SD.ck (Two.d x_1) ∧ SD.n (Two.d x_1) = (0 : Nat) ∧ SD.ca (Two.d x_1) = (0 :
  Nat) ∧ List.length (SD.us (Two.d x_1)) ≤ List.length (Rlq2 x) ∧ List.length (SD.us (Two.d x_1)) ≤ SD.ck (Two.d x_1) ∧ SD.ck (Two.d x_1) ≤ y_1 ∧ (∀ (j : Nat), j < List.length (SD.us (Two.d x_1)) → urow (Rlq2 x) j = urow
  (SD.us (Two.d x_1)) j ∧ true = true) ∧ True) ∧ ∀ (xᵥ1 : Two), Two.ok xᵥ1 (Prod.snd (Prod.snd p)) → condX (bif decide ((↑(Two.i xᵥ1) : Int) < (↑(List.length (Prod.snd (Prod.snd p))) : Int)) then decide ((↑(Two.i xᵥ1) :
  Int) < (200 : Int)) else false) (((0 : Int) ≤ (↑(Two.i xᵥ1) : Int) ∧ (↑(Two.i xᵥ1) : Int) < (↑(List.length (Prod.snd (Prod.snd p))) : Int)) ∧ Int.toNat (↑(Two.i xᵥ1) : Int) < List.length (Prod.snd (Prod.snd p)) ∧ (0 :
  Nat) = (0 : Nat) ∧ Ev.w (Rlq1 p xᵥ1) = Ev.w (Rlq1 p xᵥ1) ∧ Ev.k (Rlq1 p xᵥ1) = Ev.k (Rlq1 p xᵥ1) ∧ Ev.a (Rlq1 p xᵥ1) = Ev.a (Rlq1 p xᵥ1) ∧ Ev.b (Rlq1 p xᵥ1) = Ev.b (Rlq1 p xᵥ1) ∧ Ev.c (Rlq1 p xᵥ1) = Ev.c (Rlq1 p xᵥ1) ∧
  Ev.d (Rlq1 p xᵥ1) = Ev.d (Rlq1 p xᵥ1) ∧ R18.nx (SD.r (Two.c xᵥ1)) = R18.nx (SD.r (Two.c xᵥ1)) ∧ R18.wa (SD.r (Two.c xᵥ1)) = R18.wa (SD.r (Two.c xᵥ1)) ∧ R18.ow (SD.r (Two.c xᵥ1)) = R18.ow (SD.r (Two.c xᵥ1)) ∧ R18.ot (SD.r
  (Two.c xᵥ1)) = R18.ot (SD.r (Two.c xᵥ1)) ∧ R18.ti (SD.r (Two.c xᵥ1)) = R18.ti (SD.r (Two.c xᵥ1)) ∧ R18.st (SD.r (Two.c xᵥ1)) = R18.st (SD.r (Two.c xᵥ1)) ∧ R18.le (SD.r (Two.c xᵥ1)) = R18.le (SD.r (Two.c xᵥ1)) ∧ (0 : Nat)
  = (0 : Nat) ∧ List.length (SD.us (Two.c xᵥ1)) = List.length (Rlq8 xᵥ1) ∧ SD.ck (Two.c xᵥ1) = SD.ck (Two.c xᵥ1) ∧ (0 : Nat) = (0 : Nat) ∧ SD.n (Two.c xᵥ1) = SD.n (Two.c xᵥ1) ∧ SD.ca (Two.c xᵥ1) = SD.ca (Two.c xᵥ1) ∧
  List.length (Rlq8 xᵥ1) ≤ List.length (SD.us (Two.c xᵥ1)) ∧ List.length (Rlq8 xᵥ1) ≤ SD.ck (Two.c xᵥ1) ∧ SD.ck (Two.c xᵥ1) ≤ SD.ck (Two.c xᵥ1) ∧ (∀ (j : Nat), j < List.length (Rlq8 xᵥ1) → urow (SD.us (Two.c xᵥ1)) j = urow
  (Rlq8 xᵥ1) j ∧ true = true) ∧ (O18.ok (O18.mk (SD.r (Two.c xᵥ1)) (Rlq8 xᵥ1) (SD.ck (Two.c xᵥ1)) (SD.n (Two.c xᵥ1)) (SD.ca (Two.c xᵥ1))) ∧ R18.ow (SD.r (Two.c xᵥ1)) ≠ (0 : Int)) ∧ ∀ (y : (Int × T18) × (Nat × Nat) × Nat ×
  Nat), Prod.fst y = onT (SD.r (Two.c xᵥ1)) (Rlq8 xᵥ1) (Rlq1 p xᵥ1) ∧ outWu (Prod.snd (Prod.fst y)) (Prod.snd y) → ((0 : Int) ≤ (↑(Two.i xᵥ1) : Int) ∧ (↑(Two.i xᵥ1) : Int) < (↑(List.length (Prod.snd (Prod.snd p))) : Int))
  ∧ Int.toNat (↑(Two.i xᵥ1) : Int) < List.length (Prod.snd (Prod.snd p)) ∧ (0 : Nat) = (0 : Nat) ∧ Ev.w (Rlq1 p xᵥ1) = Ev.w (Rlq1 p xᵥ1) ∧ Ev.k (Rlq1 p xᵥ1) = Ev.k (Rlq1 p xᵥ1) ∧ Ev.a (Rlq1 p xᵥ1) = Ev.a (Rlq1 p xᵥ1) ∧
  Ev.b (Rlq1 p xᵥ1) = Ev.b (Rlq1 p xᵥ1) ∧ Ev.c (Rlq1 p xᵥ1) = Ev.c (Rlq1 p xᵥ1) ∧ Ev.d (Rlq1 p xᵥ1) = Ev.d (Rlq1 p xᵥ1) ∧ R18.nx (SD.r (Two.s xᵥ1)) = R18.nx (SD.r (Two.s xᵥ1)) ∧ R18.wa (SD.r (Two.s xᵥ1)) = R18.wa (SD.r
  (Two.s xᵥ1)) ∧ R18.ow (SD.r (Two.s xᵥ1)) = R18.ow (SD.r (Two.s xᵥ1)) ∧ R18.ot (SD.r (Two.s xᵥ1)) = R18.ot (SD.r (Two.s xᵥ1)) ∧ R18.ti (SD.r (Two.s xᵥ1)) = R18.ti (SD.r (Two.s xᵥ1)) ∧ R18.st (SD.r (Two.s xᵥ1)) = R18.st
  (SD.r (Two.s xᵥ1)) ∧ R18.le (SD.r (Two.s xᵥ1)) = R18.le (SD.r (Two.s xᵥ1)) ∧ (0 : Nat) = (0 : Nat) ∧ List.length (SD.us (Two.s xᵥ1)) = List.length (Rlq9 xᵥ1) ∧ SD.ck (Two.s xᵥ1) = SD.ck (Two.s xᵥ1) ∧ (0 : Nat) = (0 :
  Nat) ∧ SD.n (Two.s xᵥ1) = SD.n (Two.s xᵥ1) ∧ SD.ca (Two.s xᵥ1) = SD.ca (Two.s xᵥ1) ∧ List.length (Rlq9 xᵥ1) ≤ List.length (SD.us (Two.s xᵥ1)) ∧ List.length (Rlq9 xᵥ1) ≤ SD.ck (Two.s xᵥ1) ∧ SD.ck (Two.s xᵥ1) ≤ SD.ck
  (Two.s xᵥ1) ∧ (∀ (j : Nat), j < List.length (Rlq9 xᵥ1) → urow (SD.us (Two.s xᵥ1)) j = urow (Rlq9 xᵥ1) j ∧ true = true) ∧ (O18.ok (O18.mk (SD.r (Two.s xᵥ1)) (Rlq9 xᵥ1) (SD.ck (Two.s xᵥ1)) (SD.n (Two.s xᵥ1)) (SD.ca (Two.s
  xᵥ1))) ∧ R18.ow (SD.r (Two.s xᵥ1)) ≠ (0 : Int)) ∧ ∀ (y_2 : (Int × T18) × (Nat × Nat) × Nat × Nat), Prod.fst y_2 = onT (SD.r (Two.s xᵥ1)) (Rlq9 xᵥ1) (Rlq1 p xᵥ1) ∧ outWu (Prod.snd (Prod.fst y_2)) (Prod.snd y_2) → condX
  (!Prod.fst (Prod.fst y) != Prod.fst (Prod.fst y_2)) ((0 : Nat) = (0 : Nat) ∧ List.length (Prod.snd (Prod.snd (Prod.snd (Prod.fst y)))) = List.length (Rlq5 y) ∧ Prod.snd (Prod.fst (Prod.snd y)) = Prod.snd (Prod.fst
  (Prod.snd y)) ∧ (0 : Nat) = (0 : Nat) ∧ List.length (Prod.snd (Prod.snd (Prod.snd (Prod.fst y_2)))) = List.length (Rlq4 y_2) ∧ Prod.snd (Prod.fst (Prod.snd y_2)) = Prod.snd (Prod.fst (Prod.snd y_2)) ∧ List.length (Rlq5
  y) ≤ List.length (Prod.snd (Prod.snd (Prod.snd (Prod.fst y)))) ∧ List.length (Rlq5 y) ≤ Prod.snd (Prod.fst (Prod.snd y)) ∧ Prod.snd (Prod.fst (Prod.snd y)) ≤ Prod.snd (Prod.fst (Prod.snd y)) ∧ (∀ (j : Nat), j <
  List.length (Rlq5 y) → erow (Prod.snd (Prod.snd (Prod.snd (Prod.fst y)))) j = erow (Rlq5 y) j ∧ true = true) ∧ List.length (Rlq4 y_2) ≤ List.length (Prod.snd (Prod.snd (Prod.snd (Prod.fst y_2)))) ∧ List.length (Rlq4 y_2)
  ≤ Prod.snd (Prod.fst (Prod.snd y_2)) ∧ Prod.snd (Prod.fst (Prod.snd y_2)) ≤ Prod.snd (Prod.fst (Prod.snd y_2)) ∧ (∀ (j : Nat), j < List.length (Rlq4 y_2) → erow (Prod.snd (Prod.snd (Prod.snd (Prod.fst y_2)))) j = erow
  (Rlq4 y_2) j ∧ true = true) ∧ EE.ok (EE.mk (Rlq5 y) (Rlq4 y_2) (Prod.snd (Prod.fst (Prod.snd y))) (Prod.snd (Prod.fst (Prod.snd y_2)))) ∧ (True → condX (!bif Prod.fst (Prod.fst y) != Prod.fst (Prod.fst y_2) then true
  else false) ((0 : Nat) = (0 : Nat) ∧ R18.nx (Prod.fst (Prod.snd (Prod.fst y))) = R18.nx (Prod.fst (Prod.snd (Prod.fst y))) ∧ R18.wa (Prod.fst (Prod.snd (Prod.fst y))) = R18.wa (Prod.fst (Prod.snd (Prod.fst y))) ∧ R18.ow
  (Prod.fst (Prod.snd (Prod.fst y))) = R18.ow (Prod.fst (Prod.snd (Prod.fst y))) ∧ R18.ot (Prod.fst (Prod.snd (Prod.fst y))) = R18.ot (Prod.fst (Prod.snd (Prod.fst y))) ∧ R18.ti (Prod.fst (Prod.snd (Prod.fst y))) = R18.ti
  (Prod.fst (Prod.snd (Prod.fst y))) ∧ R18.st (Prod.fst (Prod.snd (Prod.fst y))) = R18.st (Prod.fst (Prod.snd (Prod.fst y))) ∧ R18.le (Prod.fst (Prod.snd (Prod.fst y))) = R18.le (Prod.fst (Prod.snd (Prod.fst y))) ∧ (0 :
  Nat) = (0 : Nat) ∧ List.length (Rlq11 y) = List.length (Rlq11 y) ∧ Prod.fst (Prod.fst (Prod.snd y)) = Prod.fst (Prod.fst (Prod.snd y)) ∧ (0 : Nat) = (0 : Nat) ∧ Prod.fst (Prod.snd (Prod.snd y)) = Prod.fst (Prod.snd
  (Prod.snd y)) ∧ Prod.snd (Prod.snd (Prod.snd y)) = Prod.snd (Prod.snd (Prod.snd y)) ∧ pre18 (Prod.fst (Prod.snd (Prod.fst y)), (List.length (Rlq11 y), Prod.fst (Prod.fst (Prod.snd y))), Prod.snd (Prod.snd y)) ∧ (True →
  condX (!bif Prod.fst (Prod.fst y) != Prod.fst (Prod.fst y_2) then true else false) ((0 : Nat) = (0 : Nat) ∧ R18.nx (Prod.fst (Prod.snd (Prod.fst y_2))) = R18.nx (Prod.fst (Prod.snd (Prod.fst y_2))) ∧ R18.wa (Prod.fst
  (Prod.snd (Prod.fst y_2))) = R18.wa (Prod.fst (Prod.snd (Prod.fst y_2))) ∧ R18.ow (Prod.fst (Prod.snd (Prod.fst y_2))) = R18.ow (Prod.fst (Prod.snd (Prod.fst y_2))) ∧ R18.ot (Prod.fst (Prod.snd (Prod.fst y_2))) = R18.ot
  (Prod.fst (Prod.snd (Prod.fst y_2))) ∧ R18.ti (Prod.fst (Prod.snd (Prod.fst y_2))) = R18.ti (Prod.fst (Prod.snd (Prod.fst y_2))) ∧ R18.st (Prod.fst (Prod.snd (Prod.fst y_2))) = R18.st (Prod.fst (Prod.snd (Prod.fst y_2)))
  ∧ R18.le (Prod.fst (Prod.snd (Prod.fst y_2))) = R18.le (Prod.fst (Prod.snd (Prod.fst y_2))) ∧ (0 : Nat) = (0 : Nat) ∧ List.length (Rlq12 y_2) = List.length (Rlq12 y_2) ∧ Prod.fst (Prod.fst (Prod.snd y_2)) = Prod.fst
  (Prod.fst (Prod.snd y_2)) ∧ (0 : Nat) = (0 : Nat) ∧ Prod.fst (Prod.snd (Prod.snd y_2)) = Prod.fst (Prod.snd (Prod.snd y_2)) ∧ Prod.snd (Prod.snd (Prod.snd y_2)) = Prod.snd (Prod.snd (Prod.snd y_2)) ∧ pre18 (Prod.fst
  (Prod.snd (Prod.fst y_2)), (List.length (Rlq12 y_2), Prod.fst (Prod.fst (Prod.snd y_2))), Prod.snd (Prod.snd y_2)) ∧ (True → condX (Rlq3 y y_2) ((0 : Nat) = (0 : Nat) ∧ R18.nx (Prod.fst (Prod.snd (Prod.fst y))) = R18.nx
  (Prod.fst (Prod.snd (Prod.fst y))) ∧ R18.wa (Prod.fst (Prod.snd (Prod.fst y))) = R18.wa (Prod.fst (Prod.snd (Prod.fst y))) ∧ R18.ow (Prod.fst (Prod.snd (Prod.fst y))) = R18.ow (Prod.fst (Prod.snd (Prod.fst y))) ∧ R18.ot
  (Prod.fst (Prod.snd (Prod.fst y))) = R18.ot (Prod.fst (Prod.snd (Prod.fst y))) ∧ R18.ti (Prod.fst (Prod.snd (Prod.fst y))) = R18.ti (Prod.fst (Prod.snd (Prod.fst y))) ∧ R18.st (Prod.fst (Prod.snd (Prod.fst y))) = R18.st
  (Prod.fst (Prod.snd (Prod.fst y))) ∧ R18.le (Prod.fst (Prod.snd (Prod.fst y))) = R18.le (Prod.fst (Prod.snd (Prod.fst y))) ∧ (0 : Nat) = (0 : Nat) ∧ List.length (Rlq11 y) = List.length (Rlq11 y) ∧ Prod.fst (Prod.fst
  (Prod.snd y)) = Prod.fst (Prod.fst (Prod.snd y)) ∧ (0 : Nat) = (0 : Nat) ∧ Prod.fst (Prod.snd (Prod.snd y)) = Prod.fst (Prod.snd (Prod.snd y)) ∧ Prod.snd (Prod.snd (Prod.snd y)) = Prod.snd (Prod.snd (Prod.snd y)) ∧ pre18
  (Prod.fst (Prod.snd (Prod.fst y)), (List.length (Rlq11 y), Prod.fst (Prod.fst (Prod.snd y))), Prod.snd (Prod.snd y)) ∧ (True → condX (Rlq3 y y_2) ((0 : Nat) = (0 : Nat) ∧ R18.nx (Prod.fst (Prod.snd (Prod.fst y_2))) =
  R18.nx (Prod.fst (Prod.snd (Prod.fst y_2))) ∧ R18.wa (Prod.fst (Prod.snd (Prod.fst y_2))) = R18.wa (Prod.fst (Prod.snd (Prod.fst y_2))) ∧ R18.ow (Prod.fst (Prod.snd (Prod.fst y_2))) = R18.ow (Prod.fst (Prod.snd (Prod.fst
  y_2))) ∧ R18.ot (Prod.fst (Prod.snd (Prod.fst y_2))) = R18.ot (Prod.fst (Prod.snd (Prod.fst y_2))) ∧ R18.ti (Prod.fst (Prod.snd (Prod.fst y_2))) = R18.ti (Prod.fst (Prod.snd (Prod.fst y_2))) ∧ R18.st (Prod.fst (Prod.snd
  (Prod.fst y_2))) = R18.st (Prod.fst (Prod.snd (Prod.fst y_2))) ∧ R18.le (Prod.fst (Prod.snd (Prod.fst y_2))) = R18.le (Prod.fst (Prod.snd (Prod.fst y_2))) ∧ (0 : Nat) = (0 : Nat) ∧ List.length (Rlq12 y_2) = List.length
  (Rlq12 y_2) ∧ Prod.fst (Prod.fst (Prod.snd y_2)) = Prod.fst (Prod.fst (Prod.snd y_2)) ∧ (0 : Nat) = (0 : Nat) ∧ Prod.fst (Prod.snd (Prod.snd y_2)) = Prod.fst (Prod.snd (Prod.snd y_2)) ∧ Prod.snd (Prod.snd (Prod.snd y_2))
  = Prod.snd (Prod.snd (Prod.snd y_2)) ∧ pre18 (Prod.fst (Prod.snd (Prod.fst y_2)), (List.length (Rlq12 y_2), Prod.fst (Prod.fst (Prod.snd y_2))), Prod.snd (Prod.snd y_2)) ∧ (True → condX (bif bif bif Prod.fst (Prod.fst y)
  != Prod.fst (Prod.fst y_2) then true else false then true else R18.st (Prod.fst (Prod.snd (Prod.fst y))) != R18.st (Prod.fst (Prod.snd (Prod.fst y_2))) then true else (↑(List.length (Rlq11 y)) : Int) != (↑(List.length
  (Rlq12 y_2)) : Int)) (SV.g (Value.bool false) = SV.g (Value.bool true)) (∃ (xpᵥ1 : Two), Two.ok xpᵥ1 (Prod.snd (Prod.snd p)) ∧ List.length (Prod.snd (Prod.snd p)) - Two.i xpᵥ1 < List.length (Prod.snd (Prod.snd p)) -
  Two.i xᵥ1 ∧ (0 : Nat) = (0 : Nat) ∧ List.length (Prod.snd (Prod.snd p)) = List.length (Prod.snd (Prod.snd p)) ∧ Prod.snd (Prod.snd q) = Prod.snd (Prod.snd q) ∧ (0 : Nat) = (0 : Nat) ∧ (0 : Nat) = (0 : Nat) ∧ (0 : Nat) =
  (0 : Nat) ∧ IntKind.wrap IntKind.i64 ((↑(Two.i xᵥ1) : Int) + (1 : Int)) = (↑(Two.i xpᵥ1) : Int) ∧ List.length (Prod.snd (Prod.snd p)) ≤ List.length (Prod.snd (Prod.snd p)) ∧ (∀ (j : Nat), j < List.length (Prod.snd
  (Prod.snd p)) → erow (Prod.snd (Prod.snd p)) j = erow (Prod.snd (Prod.snd p)) j ∧ true = true) ∧ R18.nx (Prod.fst (Prod.snd (Prod.fst y_2))) = R18.nx (SD.r (Two.s xpᵥ1)) ∧ R18.wa (Prod.fst (Prod.snd (Prod.fst y_2))) =
  R18.wa (SD.r (Two.s xpᵥ1)) ∧ R18.ow (Prod.fst (Prod.snd (Prod.fst y_2))) = R18.ow (SD.r (Two.s xpᵥ1)) ∧ R18.ot (Prod.fst (Prod.snd (Prod.fst y_2))) = R18.ot (SD.r (Two.s xpᵥ1)) ∧ R18.ti (Prod.fst (Prod.snd (Prod.fst
  y_2))) = R18.ti (SD.r (Two.s xpᵥ1)) ∧ R18.st (Prod.fst (Prod.snd (Prod.fst y_2))) = R18.st (SD.r (Two.s xpᵥ1)) ∧ R18.le (Prod.fst (Prod.snd (Prod.fst y_2))) = R18.le (SD.r (Two.s xpᵥ1)) ∧ (0 : Nat) = (0 : Nat) ∧
  List.length (Rlq12 y_2) = List.length (SD.us (Two.s xpᵥ1)) ∧ Prod.fst (Prod.fst (Prod.snd y_2)) = SD.ck (Two.s xpᵥ1) ∧ (0 : Nat) = (0 : Nat) ∧ Prod.fst (Prod.snd (Prod.snd y_2)) = SD.n (Two.s xpᵥ1) ∧ Prod.snd (Prod.snd
  (Prod.snd y_2)) = SD.ca (Two.s xpᵥ1) ∧ List.length (SD.us (Two.s xpᵥ1)) ≤ List.length (Rlq12 y_2) ∧ List.length (SD.us (Two.s xpᵥ1)) ≤ SD.ck (Two.s xpᵥ1) ∧ SD.ck (Two.s xpᵥ1) ≤ Prod.fst (Prod.fst (Prod.snd y_2)) ∧ (∀ (j
  : Nat), j < List.length (SD.us (Two.s xpᵥ1)) → urow (Rlq12 y_2) j = urow (SD.us (Two.s xpᵥ1)) j ∧ true = true) ∧ R18.nx (Prod.fst (Prod.snd (Prod.fst y))) = R18.nx (SD.r (Two.c xpᵥ1)) ∧ R18.wa (Prod.fst (Prod.snd
  (Prod.fst y))) = R18.wa (SD.r (Two.c xpᵥ1)) ∧ R18.ow (Prod.fst (Prod.snd (Prod.fst y))) = R18.ow (SD.r (Two.c xpᵥ1)) ∧ R18.ot (Prod.fst (Prod.snd (Prod.fst y))) = R18.ot (SD.r (Two.c xpᵥ1)) ∧ R18.ti (Prod.fst (Prod.snd
  (Prod.fst y))) = R18.ti (SD.r (Two.c xpᵥ1)) ∧ R18.st (Prod.fst (Prod.snd (Prod.fst y))) = R18.st (SD.r (Two.c xpᵥ1)) ∧ R18.le (Prod.fst (Prod.snd (Prod.fst y))) = R18.le (SD.r (Two.c xpᵥ1)) ∧ (0 : Nat) = (0 : Nat) ∧
  List.length (Rlq11 y) = List.length (SD.us (Two.c xpᵥ1)) ∧ Prod.fst (Prod.fst (Prod.snd y)) = SD.ck (Two.c xpᵥ1) ∧ (0 : Nat) = (0 : Nat) ∧ Prod.fst (Prod.snd (Prod.snd y)) = SD.n (Two.c xpᵥ1) ∧ Prod.snd (Prod.snd
  (Prod.snd y)) = SD.ca (Two.c xpᵥ1) ∧ List.length (SD.us (Two.c xpᵥ1)) ≤ List.length (Rlq11 y) ∧ List.length (SD.us (Two.c xpᵥ1)) ≤ SD.ck (Two.c xpᵥ1) ∧ SD.ck (Two.c xpᵥ1) ≤ Prod.fst (Prod.fst (Prod.snd y)) ∧ (∀ (j :
  Nat), j < List.length (SD.us (Two.c xpᵥ1)) → urow (Rlq11 y) j = urow (SD.us (Two.c xpᵥ1)) j ∧ true = true) ∧ R18.nx (SD.r (Two.d xᵥ1)) = R18.nx (SD.r (Two.d xpᵥ1)) ∧ R18.wa (SD.r (Two.d xᵥ1)) = R18.wa (SD.r (Two.d xpᵥ1))
  ∧ R18.ow (SD.r (Two.d xᵥ1)) = R18.ow (SD.r (Two.d xpᵥ1)) ∧ R18.ot (SD.r (Two.d xᵥ1)) = R18.ot (SD.r (Two.d xpᵥ1)) ∧ R18.ti (SD.r (Two.d xᵥ1)) = R18.ti (SD.r (Two.d xpᵥ1)) ∧ R18.st (SD.r (Two.d xᵥ1)) = R18.st (SD.r (Two.d
  xpᵥ1)) ∧ R18.le (SD.r (Two.d xᵥ1)) = R18.le (SD.r (Two.d xpᵥ1)) ∧ (0 : Nat) = (0 : Nat) ∧ List.length (SD.us (Two.d xᵥ1)) = List.length (SD.us (Two.d xpᵥ1)) ∧ SD.ck (Two.d xᵥ1) = SD.ck (Two.d xpᵥ1) ∧ (0 : Nat) = (0 :
  Nat) ∧ SD.n (Two.d xᵥ1) = SD.n (Two.d xpᵥ1) ∧ SD.ca (Two.d xᵥ1) = SD.ca (Two.d xpᵥ1) ∧ List.length (SD.us (Two.d xpᵥ1)) ≤ List.length (SD.us (Two.d xᵥ1)) ∧ List.length (SD.us (Two.d xpᵥ1)) ≤ SD.ck (Two.d xpᵥ1) ∧ SD.ck
  (Two.d xpᵥ1) ≤ SD.ck (Two.d xᵥ1) ∧ (∀ (j : Nat), j < List.length (SD.us (Two.d xpᵥ1)) → urow (SD.us (Two.d xᵥ1)) j = urow (SD.us (Two.d xpᵥ1)) j ∧ true = true) ∧ True))) (condX (Rlq3 y y_2) False (Rlq13 y y_2)))) (condX
  (Rlq3 y y_2) ((0 : Nat) = (0 : Nat) ∧ R18.nx (Prod.fst (Prod.snd (Prod.fst y_2))) = R18.nx (Prod.fst (Prod.snd (Prod.fst y_2))) ∧ R18.wa (Prod.fst (Prod.snd (Prod.fst y_2))) = R18.wa (Prod.fst (Prod.snd (Prod.fst y_2)))
  ∧ R18.ow (Prod.fst (Prod.snd (Prod.fst y_2))) = R18.ow (Prod.fst (Prod.snd (Prod.fst y_2))) ∧ R18.ot (Prod.fst (Prod.snd (Prod.fst y_2))) = R18.ot (Prod.fst (Prod.snd (Prod.fst y_2))) ∧ R18.ti (Prod.fst (Prod.snd
  (Prod.fst y_2))) = R18.ti (Prod.fst (Prod.snd (Prod.fst y_2))) ∧ R18.st (Prod.fst (Prod.snd (Prod.fst y_2))) = R18.st (Prod.fst (Prod.snd (Prod.fst y_2))) ∧ R18.le (Prod.fst (Prod.snd (Prod.fst y_2))) = R18.le (Prod.fst
  (Prod.snd (Prod.fst y_2))) ∧ (0 : Nat) = (0 : Nat) ∧ List.length (Rlq12 y_2) = List.length (Rlq12 y_2) ∧ Prod.fst (Prod.fst (Prod.snd y_2)) = Prod.fst (Prod.fst (Prod.snd y_2)) ∧ (0 : Nat) = (0 : Nat) ∧ Prod.fst
  (Prod.snd (Prod.snd y_2)) = Prod.fst (Prod.snd (Prod.snd y_2)) ∧ Prod.snd (Prod.snd (Prod.snd y_2)) = Prod.snd (Prod.snd (Prod.snd y_2)) ∧ pre18 (Prod.fst (Prod.snd (Prod.fst y_2)), (List.length (Rlq12 y_2), Prod.fst
  (Prod.fst (Prod.snd y_2))), Prod.snd (Prod.snd y_2)) ∧ (True → condX (Rlq3 y y_2) False (Rlq13 y y_2))) (condX (Rlq3 y y_2) False (Rlq13 y y_2))))) (condX (!bif Prod.fst (Prod.fst y) != Prod.fst (Prod.fst y_2) then true
  else false) False ((bif Prod.fst (Prod.fst y) != Prod.fst (Prod.fst y_2) then true else false) = true ∧ true = true ∧ SV.g (Value.bool false) = SV.g (Value.bool true))))) (condX (!bif Prod.fst (Prod.fst y) != Prod.fst
  (Prod.fst y_2) then true else false) ((0 : Nat) = (0 : Nat) ∧ R18.nx (Prod.fst (Prod.snd (Prod.fst y_2))) = R18.nx (Prod.fst (Prod.snd (Prod.fst y_2))) ∧ R18.wa (Prod.fst (Prod.snd (Prod.fst y_2))) = R18.wa (Prod.fst
  (Prod.snd (Prod.fst y_2))) ∧ R18.ow (Prod.fst (Prod.snd (Prod.fst y_2))) = R18.ow (Prod.fst (Prod.snd (Prod.fst y_2))) ∧ R18.ot (Prod.fst (Prod.snd (Prod.fst y_2))) = R18.ot (Prod.fst (Prod.snd (Prod.fst y_2))) ∧ R18.ti
  (Prod.fst (Prod.snd (Prod.fst y_2))) = R18.ti (Prod.fst (Prod.snd (Prod.fst y_2))) ∧ R18.st (Prod.fst (Prod.snd (Prod.fst y_2))) = R18.st (Prod.fst (Prod.snd (Prod.fst y_2))) ∧ R18.le (Prod.fst (Prod.snd (Prod.fst y_2)))
  = R18.le (Prod.fst (Prod.snd (Prod.fst y_2))) ∧ (0 : Nat) = (0 : Nat) ∧ List.length (Rlq12 y_2) = List.length (Rlq12 y_2) ∧ Prod.fst (Prod.fst (Prod.snd y_2)) = Prod.fst (Prod.fst (Prod.snd y_2)) ∧ (0 : Nat) = (0 : Nat)
  ∧ Prod.fst (Prod.snd (Prod.snd y_2)) = Prod.fst (Prod.snd (Prod.snd y_2)) ∧ Prod.snd (Prod.snd (Prod.snd y_2)) = Prod.snd (Prod.snd (Prod.snd y_2)) ∧ pre18 (Prod.fst (Prod.snd (Prod.fst y_2)), (List.length (Rlq12 y_2),
  Prod.fst (Prod.fst (Prod.snd y_2))), Prod.snd (Prod.snd y_2)) ∧ (True → condX (!bif Prod.fst (Prod.fst y) != Prod.fst (Prod.fst y_2) then true else false) False ((bif Prod.fst (Prod.fst y) != Prod.fst (Prod.fst y_2) then
  true else false) = true ∧ true = true ∧ SV.g (Value.bool false) = SV.g (Value.bool true)))) (condX (!bif Prod.fst (Prod.fst y) != Prod.fst (Prod.fst y_2) then true else false) False ((bif Prod.fst (Prod.fst y) !=
  Prod.fst (Prod.fst y_2) then true else false) = true ∧ true = true ∧ SV.g (Value.bool false) = SV.g (Value.bool true)))))) (condX (!Prod.fst (Prod.fst y) != Prod.fst (Prod.fst y_2)) False ((Prod.fst (Prod.fst y) !=
  Prod.fst (Prod.fst y_2)) = true ∧ true = true ∧ true = true ∧ SV.g (Value.bool false) = SV.g (Value.bool true)))) ((∃ (x_1ᵥ1 : One), One.ok x_1ᵥ1 (Prod.snd (Prod.snd p)) ∧ (0 : Nat) = (0 : Nat) ∧ List.length (Prod.snd
  (Prod.snd p)) = List.length (Prod.snd (Prod.snd p)) ∧ Prod.snd (Prod.snd q) = Prod.snd (Prod.snd q) ∧ (0 : Nat) = (0 : Nat) ∧ (0 : Nat) = (0 : Nat) ∧ (0 : Int) = (↑(One.i x_1ᵥ1) : Int) ∧ List.length (Prod.snd (Prod.snd
  p)) ≤ List.length (Prod.snd (Prod.snd p)) ∧ (∀ (j : Nat), j < List.length (Prod.snd (Prod.snd p)) → erow (Prod.snd (Prod.snd p)) j = erow (Prod.snd (Prod.snd p)) j ∧ true = true) ∧ R18.nx (SD.r (Two.s xᵥ1)) = R18.nx
  (SD.r (One.s x_1ᵥ1)) ∧ R18.wa (SD.r (Two.s xᵥ1)) = R18.wa (SD.r (One.s x_1ᵥ1)) ∧ R18.ow (SD.r (Two.s xᵥ1)) = R18.ow (SD.r (One.s x_1ᵥ1)) ∧ R18.ot (SD.r (Two.s xᵥ1)) = R18.ot (SD.r (One.s x_1ᵥ1)) ∧ R18.ti (SD.r (Two.s
  xᵥ1)) = R18.ti (SD.r (One.s x_1ᵥ1)) ∧ R18.st (SD.r (Two.s xᵥ1)) = R18.st (SD.r (One.s x_1ᵥ1)) ∧ R18.le (SD.r (Two.s xᵥ1)) = R18.le (SD.r (One.s x_1ᵥ1)) ∧ (0 : Nat) = (0 : Nat) ∧ List.length (SD.us (Two.s xᵥ1)) =
  List.length (SD.us (One.s x_1ᵥ1)) ∧ SD.ck (Two.s xᵥ1) = SD.ck (One.s x_1ᵥ1) ∧ (0 : Nat) = (0 : Nat) ∧ SD.n (Two.s xᵥ1) = SD.n (One.s x_1ᵥ1) ∧ SD.ca (Two.s xᵥ1) = SD.ca (One.s x_1ᵥ1) ∧ List.length (SD.us (One.s x_1ᵥ1)) ≤
  List.length (SD.us (Two.s xᵥ1)) ∧ List.length (SD.us (One.s x_1ᵥ1)) ≤ SD.ck (One.s x_1ᵥ1) ∧ SD.ck (One.s x_1ᵥ1) ≤ SD.ck (Two.s xᵥ1) ∧ (∀ (j : Nat), j < List.length (SD.us (One.s x_1ᵥ1)) → urow (SD.us (Two.s xᵥ1)) j =
  urow (SD.us (One.s x_1ᵥ1)) j ∧ true = true) ∧ R18.nx (SD.r (Two.d xᵥ1)) = R18.nx (SD.r (One.d x_1ᵥ1)) ∧ R18.wa (SD.r (Two.d xᵥ1)) = R18.wa (SD.r (One.d x_1ᵥ1)) ∧ R18.ow (SD.r (Two.d xᵥ1)) = R18.ow (SD.r (One.d x_1ᵥ1)) ∧
  R18.ot (SD.r (Two.d xᵥ1)) = R18.ot (SD.r (One.d x_1ᵥ1)) ∧ R18.ti (SD.r (Two.d xᵥ1)) = R18.ti (SD.r (One.d x_1ᵥ1)) ∧ R18.st (SD.r (Two.d xᵥ1)) = R18.st (SD.r (One.d x_1ᵥ1)) ∧ R18.le (SD.r (Two.d xᵥ1)) = R18.le (SD.r
  (One.d x_1ᵥ1)) ∧ (0 : Nat) = (0 : Nat) ∧ List.length (SD.us (Two.d xᵥ1)) = List.length (SD.us (One.d x_1ᵥ1)) ∧ SD.ck (Two.d xᵥ1) = SD.ck (One.d x_1ᵥ1) ∧ (0 : Nat) = (0 : Nat) ∧ SD.n (Two.d xᵥ1) = SD.n (One.d x_1ᵥ1) ∧
  SD.ca (Two.d xᵥ1) = SD.ca (One.d x_1ᵥ1) ∧ List.length (SD.us (One.d x_1ᵥ1)) ≤ List.length (SD.us (Two.d xᵥ1)) ∧ List.length (SD.us (One.d x_1ᵥ1)) ≤ SD.ck (One.d x_1ᵥ1) ∧ SD.ck (One.d x_1ᵥ1) ≤ SD.ck (Two.d xᵥ1) ∧ (∀ (j :
  Nat), j < List.length (SD.us (One.d x_1ᵥ1)) → urow (SD.us (Two.d xᵥ1)) j = urow (SD.us (One.d x_1ᵥ1)) j ∧ true = true) ∧ True) ∧ ∀ (xᵥ2 : One), One.ok xᵥ2 (Prod.snd (Prod.snd p)) → condX (bif decide ((↑(One.i xᵥ2) : Int)
  < (↑(List.length (Prod.snd (Prod.snd p))) : Int)) then decide ((↑(One.i xᵥ2) : Int) < (200 : Int)) else false) (((0 : Int) ≤ (↑(One.i xᵥ2) : Int) ∧ (↑(One.i xᵥ2) : Int) < (↑(List.length (Prod.snd (Prod.snd p))) : Int)) ∧
  Int.toNat (↑(One.i xᵥ2) : Int) < List.length (Prod.snd (Prod.snd p)) ∧ (0 : Nat) = (0 : Nat) ∧ Ev.w (Rlq7 p xᵥ2) = Ev.w (Rlq7 p xᵥ2) ∧ Ev.k (Rlq7 p xᵥ2) = Ev.k (Rlq7 p xᵥ2) ∧ Ev.a (Rlq7 p xᵥ2) = Ev.a (Rlq7 p xᵥ2) ∧ Ev.b
  (Rlq7 p xᵥ2) = Ev.b (Rlq7 p xᵥ2) ∧ Ev.c (Rlq7 p xᵥ2) = Ev.c (Rlq7 p xᵥ2) ∧ Ev.d (Rlq7 p xᵥ2) = Ev.d (Rlq7 p xᵥ2) ∧ R18.nx (SD.r (One.d xᵥ2)) = R18.nx (SD.r (One.d xᵥ2)) ∧ R18.wa (SD.r (One.d xᵥ2)) = R18.wa (SD.r (One.d
  xᵥ2)) ∧ R18.ow (SD.r (One.d xᵥ2)) = R18.ow (SD.r (One.d xᵥ2)) ∧ R18.ot (SD.r (One.d xᵥ2)) = R18.ot (SD.r (One.d xᵥ2)) ∧ R18.ti (SD.r (One.d xᵥ2)) = R18.ti (SD.r (One.d xᵥ2)) ∧ R18.st (SD.r (One.d xᵥ2)) = R18.st (SD.r
  (One.d xᵥ2)) ∧ R18.le (SD.r (One.d xᵥ2)) = R18.le (SD.r (One.d xᵥ2)) ∧ (0 : Nat) = (0 : Nat) ∧ List.length (SD.us (One.d xᵥ2)) = List.length (Rlq10 xᵥ2) ∧ SD.ck (One.d xᵥ2) = SD.ck (One.d xᵥ2) ∧ (0 : Nat) = (0 : Nat) ∧
  SD.n (One.d xᵥ2) = SD.n (One.d xᵥ2) ∧ SD.ca (One.d xᵥ2) = SD.ca (One.d xᵥ2) ∧ List.length (Rlq10 xᵥ2) ≤ List.length (SD.us (One.d xᵥ2)) ∧ List.length (Rlq10 xᵥ2) ≤ SD.ck (One.d xᵥ2) ∧ SD.ck (One.d xᵥ2) ≤ SD.ck (One.d
  xᵥ2) ∧ (∀ (j : Nat), j < List.length (Rlq10 xᵥ2) → urow (SD.us (One.d xᵥ2)) j = urow (Rlq10 xᵥ2) j ∧ true = true) ∧ (O18.ok (O18.mk (SD.r (One.d xᵥ2)) (Rlq10 xᵥ2) (SD.ck (One.d xᵥ2)) (SD.n (One.d xᵥ2)) (SD.ca (One.d
  xᵥ2))) ∧ R18.ow (SD.r (One.d xᵥ2)) ≠ (0 : Int)) ∧ ∀ (y : (Int × T18) × (Nat × Nat) × Nat × Nat), Prod.fst y = onT (SD.r (One.d xᵥ2)) (Rlq10 xᵥ2) (Rlq7 p xᵥ2) ∧ outWu (Prod.snd (Prod.fst y)) (Prod.snd y) → ∃ (xpᵥ2 : One),
  One.ok xpᵥ2 (Prod.snd (Prod.snd p)) ∧ List.length (Prod.snd (Prod.snd p)) - One.i xpᵥ2 < List.length (Prod.snd (Prod.snd p)) - One.i xᵥ2 ∧ (0 : Nat) = (0 : Nat) ∧ List.length (Prod.snd (Prod.snd p)) = List.length
  (Prod.snd (Prod.snd p)) ∧ Prod.snd (Prod.snd q) = Prod.snd (Prod.snd q) ∧ (0 : Nat) = (0 : Nat) ∧ (0 : Nat) = (0 : Nat) ∧ IntKind.wrap IntKind.i64 ((↑(One.i xᵥ2) : Int) + (1 : Int)) = (↑(One.i xpᵥ2) : Int) ∧ List.length
  (Prod.snd (Prod.snd p)) ≤ List.length (Prod.snd (Prod.snd p)) ∧ (∀ (j : Nat), j < List.length (Prod.snd (Prod.snd p)) → erow (Prod.snd (Prod.snd p)) j = erow (Prod.snd (Prod.snd p)) j ∧ true = true) ∧ R18.nx (SD.r (One.s
  xᵥ2)) = R18.nx (SD.r (One.s xpᵥ2)) ∧ R18.wa (SD.r (One.s xᵥ2)) = R18.wa (SD.r (One.s xpᵥ2)) ∧ R18.ow (SD.r (One.s xᵥ2)) = R18.ow (SD.r (One.s xpᵥ2)) ∧ R18.ot (SD.r (One.s xᵥ2)) = R18.ot (SD.r (One.s xpᵥ2)) ∧ R18.ti (SD.r
  (One.s xᵥ2)) = R18.ti (SD.r (One.s xpᵥ2)) ∧ R18.st (SD.r (One.s xᵥ2)) = R18.st (SD.r (One.s xpᵥ2)) ∧ R18.le (SD.r (One.s xᵥ2)) = R18.le (SD.r (One.s xpᵥ2)) ∧ (0 : Nat) = (0 : Nat) ∧ List.length (SD.us (One.s xᵥ2)) =
  List.length (SD.us (One.s xpᵥ2)) ∧ SD.ck (One.s xᵥ2) = SD.ck (One.s xpᵥ2) ∧ (0 : Nat) = (0 : Nat) ∧ SD.n (One.s xᵥ2) = SD.n (One.s xpᵥ2) ∧ SD.ca (One.s xᵥ2) = SD.ca (One.s xpᵥ2) ∧ List.length (SD.us (One.s xpᵥ2)) ≤
  List.length (SD.us (One.s xᵥ2)) ∧ List.length (SD.us (One.s xpᵥ2)) ≤ SD.ck (One.s xpᵥ2) ∧ SD.ck (One.s xpᵥ2) ≤ SD.ck (One.s xᵥ2) ∧ (∀ (j : Nat), j < List.length (SD.us (One.s xpᵥ2)) → urow (SD.us (One.s xᵥ2)) j = urow
  (SD.us (One.s xpᵥ2)) j ∧ true = true) ∧ R18.nx (Prod.fst (Prod.snd (Prod.fst y))) = R18.nx (SD.r (One.d xpᵥ2)) ∧ R18.wa (Prod.fst (Prod.snd (Prod.fst y))) = R18.wa (SD.r (One.d xpᵥ2)) ∧ R18.ow (Prod.fst (Prod.snd
  (Prod.fst y))) = R18.ow (SD.r (One.d xpᵥ2)) ∧ R18.ot (Prod.fst (Prod.snd (Prod.fst y))) = R18.ot (SD.r (One.d xpᵥ2)) ∧ R18.ti (Prod.fst (Prod.snd (Prod.fst y))) = R18.ti (SD.r (One.d xpᵥ2)) ∧ R18.st (Prod.fst (Prod.snd
  (Prod.fst y))) = R18.st (SD.r (One.d xpᵥ2)) ∧ R18.le (Prod.fst (Prod.snd (Prod.fst y))) = R18.le (SD.r (One.d xpᵥ2)) ∧ (0 : Nat) = (0 : Nat) ∧ List.length (Rlq11 y) = List.length (SD.us (One.d xpᵥ2)) ∧ Prod.fst (Prod.fst
  (Prod.snd y)) = SD.ck (One.d xpᵥ2) ∧ (0 : Nat) = (0 : Nat) ∧ Prod.fst (Prod.snd (Prod.snd y)) = SD.n (One.d xpᵥ2) ∧ Prod.snd (Prod.snd (Prod.snd y)) = SD.ca (One.d xpᵥ2) ∧ List.length (SD.us (One.d xpᵥ2)) ≤ List.length
  (Rlq11 y) ∧ List.length (SD.us (One.d xpᵥ2)) ≤ SD.ck (One.d xpᵥ2) ∧ SD.ck (One.d xpᵥ2) ≤ Prod.fst (Prod.fst (Prod.snd y)) ∧ (∀ (j : Nat), j < List.length (SD.us (One.d xpᵥ2)) → urow (Rlq11 y) j = urow (SD.us (One.d
  xpᵥ2)) j ∧ true = true) ∧ True) ((0 : Nat) = (0 : Nat) ∧ R18.nx (SD.r (One.d xᵥ2)) = R18.nx (SD.r (One.d xᵥ2)) ∧ R18.wa (SD.r (One.d xᵥ2)) = R18.wa (SD.r (One.d xᵥ2)) ∧ R18.ow (SD.r (One.d xᵥ2)) = R18.ow (SD.r (One.d
  xᵥ2)) ∧ R18.ot (SD.r (One.d xᵥ2)) = R18.ot (SD.r (One.d xᵥ2)) ∧ R18.ti (SD.r (One.d xᵥ2)) = R18.ti (SD.r (One.d xᵥ2)) ∧ R18.st (SD.r (One.d xᵥ2)) = R18.st (SD.r (One.d xᵥ2)) ∧ R18.le (SD.r (One.d xᵥ2)) = R18.le (SD.r
  (One.d xᵥ2)) ∧ (0 : Nat) = (0 : Nat) ∧ List.length (SD.us (One.d xᵥ2)) = List.length (SD.us (One.d xᵥ2)) ∧ SD.ck (One.d xᵥ2) = SD.ck (One.d xᵥ2) ∧ (0 : Nat) = (0 : Nat) ∧ SD.n (One.d xᵥ2) = SD.n (One.d xᵥ2) ∧ SD.ca
  (One.d xᵥ2) = SD.ca (One.d xᵥ2) ∧ pre18 (SD.r (One.d xᵥ2), (List.length (SD.us (One.d xᵥ2)), SD.ck (One.d xᵥ2)), SD.n (One.d xᵥ2), SD.ca (One.d xᵥ2)) ∧ (True → (0 : Nat) = (0 : Nat) ∧ R18.nx (SD.r (One.s xᵥ2)) = R18.nx
  (SD.r (One.s xᵥ2)) ∧ R18.wa (SD.r (One.s xᵥ2)) = R18.wa (SD.r (One.s xᵥ2)) ∧ R18.ow (SD.r (One.s xᵥ2)) = R18.ow (SD.r (One.s xᵥ2)) ∧ R18.ot (SD.r (One.s xᵥ2)) = R18.ot (SD.r (One.s xᵥ2)) ∧ R18.ti (SD.r (One.s xᵥ2)) =
  R18.ti (SD.r (One.s xᵥ2)) ∧ R18.st (SD.r (One.s xᵥ2)) = R18.st (SD.r (One.s xᵥ2)) ∧ R18.le (SD.r (One.s xᵥ2)) = R18.le (SD.r (One.s xᵥ2)) ∧ (0 : Nat) = (0 : Nat) ∧ List.length (SD.us (One.s xᵥ2)) = List.length (SD.us
  (One.s xᵥ2)) ∧ SD.ck (One.s xᵥ2) = SD.ck (One.s xᵥ2) ∧ (0 : Nat) = (0 : Nat) ∧ SD.n (One.s xᵥ2) = SD.n (One.s xᵥ2) ∧ SD.ca (One.s xᵥ2) = SD.ca (One.s xᵥ2) ∧ pre18 (SD.r (One.s xᵥ2), (List.length (SD.us (One.s xᵥ2)),
  SD.ck (One.s xᵥ2)), SD.n (One.s xᵥ2), SD.ca (One.s xᵥ2)) ∧ (True → condX (R18.st (SD.r (One.d xᵥ2)) == R18.st (SD.r (One.s xᵥ2))) ((0 : Nat) = (0 : Nat) ∧ R18.nx (SD.r (One.d xᵥ2)) = R18.nx (SD.r (One.d xᵥ2)) ∧ R18.wa
  (SD.r (One.d xᵥ2)) = R18.wa (SD.r (One.d xᵥ2)) ∧ R18.ow (SD.r (One.d xᵥ2)) = R18.ow (SD.r (One.d xᵥ2)) ∧ R18.ot (SD.r (One.d xᵥ2)) = R18.ot (SD.r (One.d xᵥ2)) ∧ R18.ti (SD.r (One.d xᵥ2)) = R18.ti (SD.r (One.d xᵥ2)) ∧
  R18.st (SD.r (One.d xᵥ2)) = R18.st (SD.r (One.d xᵥ2)) ∧ R18.le (SD.r (One.d xᵥ2)) = R18.le (SD.r (One.d xᵥ2)) ∧ (0 : Nat) = (0 : Nat) ∧ List.length (SD.us (One.d xᵥ2)) = List.length (SD.us (One.d xᵥ2)) ∧ SD.ck (One.d
  xᵥ2) = SD.ck (One.d xᵥ2) ∧ (0 : Nat) = (0 : Nat) ∧ SD.n (One.d xᵥ2) = SD.n (One.d xᵥ2) ∧ SD.ca (One.d xᵥ2) = SD.ca (One.d xᵥ2) ∧ pre18 (SD.r (One.d xᵥ2), (List.length (SD.us (One.d xᵥ2)), SD.ck (One.d xᵥ2)), SD.n (One.d
  xᵥ2), SD.ca (One.d xᵥ2)) ∧ (True → condX (R18.st (SD.r (One.d xᵥ2)) == R18.st (SD.r (One.s xᵥ2))) ((0 : Nat) = (0 : Nat) ∧ R18.nx (SD.r (One.s xᵥ2)) = R18.nx (SD.r (One.s xᵥ2)) ∧ R18.wa (SD.r (One.s xᵥ2)) = R18.wa (SD.r
  (One.s xᵥ2)) ∧ R18.ow (SD.r (One.s xᵥ2)) = R18.ow (SD.r (One.s xᵥ2)) ∧ R18.ot (SD.r (One.s xᵥ2)) = R18.ot (SD.r (One.s xᵥ2)) ∧ R18.ti (SD.r (One.s xᵥ2)) = R18.ti (SD.r (One.s xᵥ2)) ∧ R18.st (SD.r (One.s xᵥ2)) = R18.st
  (SD.r (One.s xᵥ2)) ∧ R18.le (SD.r (One.s xᵥ2)) = R18.le (SD.r (One.s xᵥ2)) ∧ (0 : Nat) = (0 : Nat) ∧ List.length (SD.us (One.s xᵥ2)) = List.length (SD.us (One.s xᵥ2)) ∧ SD.ck (One.s xᵥ2) = SD.ck (One.s xᵥ2) ∧ (0 : Nat) =
  (0 : Nat) ∧ SD.n (One.s xᵥ2) = SD.n (One.s xᵥ2) ∧ SD.ca (One.s xᵥ2) = SD.ca (One.s xᵥ2) ∧ pre18 (SD.r (One.s xᵥ2), (List.length (SD.us (One.s xᵥ2)), SD.ck (One.s xᵥ2)), SD.n (One.s xᵥ2), SD.ca (One.s xᵥ2)) ∧ (True →
  ((bif R18.st (SD.r (One.d xᵥ2)) == R18.st (SD.r (One.s xᵥ2)) then (↑(List.length (SD.us (One.d xᵥ2))) : Int) == (↑(List.length (SD.us (One.s xᵥ2))) : Int) else false) = true → True) ∧ SV.g (Value.bool (bif bif R18.st
  (SD.r (One.d xᵥ2)) == R18.st (SD.r (One.s xᵥ2)) then (↑(List.length (SD.us (One.d xᵥ2))) : Int) == (↑(List.length (SD.us (One.s xᵥ2))) : Int) else false then true else false)) = SV.g (Value.bool true))) (condX (R18.st
  (SD.r (One.d xᵥ2)) == R18.st (SD.r (One.s xᵥ2))) False ((R18.st (SD.r (One.d xᵥ2)) == R18.st (SD.r (One.s xᵥ2))) = false ∧ (false = true → True) ∧ SV.g (Value.bool false) = SV.g (Value.bool true))))) (condX (R18.st (SD.r
  (One.d xᵥ2)) == R18.st (SD.r (One.s xᵥ2))) ((0 : Nat) = (0 : Nat) ∧ R18.nx (SD.r (One.s xᵥ2)) = R18.nx (SD.r (One.s xᵥ2)) ∧ R18.wa (SD.r (One.s xᵥ2)) = R18.wa (SD.r (One.s xᵥ2)) ∧ R18.ow (SD.r (One.s xᵥ2)) = R18.ow (SD.r
  (One.s xᵥ2)) ∧ R18.ot (SD.r (One.s xᵥ2)) = R18.ot (SD.r (One.s xᵥ2)) ∧ R18.ti (SD.r (One.s xᵥ2)) = R18.ti (SD.r (One.s xᵥ2)) ∧ R18.st (SD.r (One.s xᵥ2)) = R18.st (SD.r (One.s xᵥ2)) ∧ R18.le (SD.r (One.s xᵥ2)) = R18.le
  (SD.r (One.s xᵥ2)) ∧ (0 : Nat) = (0 : Nat) ∧ List.length (SD.us (One.s xᵥ2)) = List.length (SD.us (One.s xᵥ2)) ∧ SD.ck (One.s xᵥ2) = SD.ck (One.s xᵥ2) ∧ (0 : Nat) = (0 : Nat) ∧ SD.n (One.s xᵥ2) = SD.n (One.s xᵥ2) ∧ SD.ca
  (One.s xᵥ2) = SD.ca (One.s xᵥ2) ∧ pre18 (SD.r (One.s xᵥ2), (List.length (SD.us (One.s xᵥ2)), SD.ck (One.s xᵥ2)), SD.n (One.s xᵥ2), SD.ca (One.s xᵥ2)) ∧ (True → condX (R18.st (SD.r (One.d xᵥ2)) == R18.st (SD.r (One.s
  xᵥ2))) False ((R18.st (SD.r (One.d xᵥ2)) == R18.st (SD.r (One.s xᵥ2))) = false ∧ (false = true → True) ∧ SV.g (Value.bool false) = SV.g (Value.bool true)))) (condX (R18.st (SD.r (One.d xᵥ2)) == R18.st (SD.r (One.s xᵥ2)))
  False ((R18.st (SD.r (One.d xᵥ2)) == R18.st (SD.r (One.s xᵥ2))) = false ∧ (false = true → True) ∧ SV.g (Value.bool false) = SV.g (Value.bool true)))))))))) ∧ (¬newOK (Prod.fst (Prod.fst p)) (Prod.fst (Prod.snd (Prod.fst
  p))) (Prod.snd (Prod.snd (Prod.fst p))) → (true = true → True) ∧ SV.g (Value.bool true) = SV.g (Value.bool true))
theorem vcResumeCopiesE : VcResumeCopies = (∀ (p : (Int × Int × Int) × List Ev × List Ev) (q : ((Nat → List SV) × Nat) × ((Nat → List SV) × Nat)), (RowsE p.2.1 q.1.1 q.1.2 ∧ RowsE p.2.2 q.2.1 q.2.2) → fnX ⟨ty, ΓOf Γrh, fun _ => [], lpC p.2.1 p.2.2 q.1.2 q.2.2, 143, 3⟩ (bodyOf Try.f5) Try.f5.results.toList [.agg [.g (.int .i64 p.1.1), .g (.int .i64 p.1.2.1), .g (.int .i64 p.1.2.2)], .sl 1 0 6 p.2.1.length q.1.2, .sl 2 0 6 p.2.2.length q.2.2] [(1, .ro 6 q.1.2 q.1.1), (2, .ro 6 q.2.2 q.2.1)] (fun r _ => r = .g (.bool true))) := by kernel_rfl
set_option maxRecDepth 100000 in
set_option maxHeartbeats 4000000 in
theorem vcResumeCopies : VcResumeCopies := by
  unfold VcResumeCopies Rlq13 Rlq12 Rlq11 Rlq10 Rlq9 Rlq8 Rlq7 Rlq6 Rlq5 Rlq4 Rlq3 Rlq2 Rlq1 Rlq0
  rintro ⟨⟨a, b, c⟩, l, m⟩ ⟨⟨row, cap⟩, ⟨rom, cam⟩⟩ hr
  obtain ⟨⟨h1, h2, h3⟩, g1, g2, g3⟩ : (l.length ≤ cap ∧ cap ≤ maxLen ∧ ∀ j, j < l.length → row j = erow l j) ∧ (m.length ≤ cam ∧ cam ≤ maxLen ∧ ∀ j, j < m.length → rom j = erow m j) := hr
  simp only [eq_self, true_and, and_true, Nat.le_refl, Int.le_refl, implies_true, forall_const, and_false, false_and, exists_false, false_or, or_false, true_implies, Nat.zero_add, and_self, Int.toNat_natCast, cond_true, cond_false, condT, condF, uRow_urow, eRow_erow]
  intro hN
  have hr : (newR a b c).ok := ⟨⟨Int.le_refl 0, by show (0 : Int) < 128; decide⟩, ⟨Int.le_refl 0, by show (0 : Int) < 128; decide⟩, hN.2.2, ⟨Int.le_refl 0, by show (0 : Int) ≤ 100; decide⟩, fun e => absurd (show (0 : Int) = 3 from e) (by decide)⟩
  refine ⟨⟨(⟨newR a b c, [], 0, 0, 0⟩, 0), ⟨⟨⟨hr, Nat.zero_le _⟩, by have := hN.1; show a ≠ 0; omega, Nat.le_refl _⟩, Nat.zero_le _⟩, ?_⟩, fun x hx => ?_⟩
  · dsimp only [newR, List.length_nil]
    and_intros <;> first | exact h3 | exact g3 | with_reducible rfl | assumption | exact Nat.le_refl _ | exact Nat.zero_le _ | exact fun j hj => trivial | exact fun j hj => rfl | exact fun j hj => absurd hj (Nat.not_lt_zero _) | exact trivial | omega | rfl | skip
  obtain ⟨⟨r, us, ck, n, ca⟩, i⟩ := x
  obtain ⟨⟨hw, how, hk⟩, hi⟩ : SD.ok ⟨r, us, ck, n, ca⟩ ∧ i ≤ l.length := hx
  dsimp only at hw how hk ⊢
  refine (condX_iff _ _ _).2 ⟨fun c => ?_, fun c => ?_⟩
  · simp only [bAnd, decide_eq_true_eq] at c
    refine ⟨⟨by omega, c.1⟩, by omega, hk, ⟨⟨hk, hw.k60, hw.ok⟩, how⟩, fun y hy => ?_⟩
    obtain ⟨⟨err, r', us', es'⟩, ⟨k', a'⟩, n', ca'⟩ := y
    obtain ⟨hy1, hy2, hy3⟩ := hy
    have hg := well_on hw (l.getD i eZero)
    rw [← hy1] at hg
    dsimp only at hg hy2 hy3 ⊢
    refine ⟨(⟨r', us', k', n', ca'⟩, i + 1), ⟨⟨hg.1, by dsimp only; rw [hg.2.1]; exact how, hy2⟩, by dsimp only; omega⟩, ?_⟩
    dsimp only
    and_intros <;> first | (rw [wrap1 (by omega) (by omega)]; omega) | with_reducible rfl | assumption | exact Nat.le_refl _ | exact Nat.zero_le _ | exact fun j hj => trivial | exact fun j hj => rfl | exact fun j hj => absurd hj (Nat.not_lt_zero _) | exact trivial | omega | rfl | skip
  clear c
  have hO : O18.ok ⟨r, us, ck, n, ca⟩ := ⟨hk, hw.k60, hw.ok⟩
  refine ⟨hk, ⟨hO, how⟩, fun y0 hy0 => ⟨hk, ⟨hO, how⟩, fun y1 hy1 => ⟨⟨⟨⟨r, us, ck, n, ca⟩, ⟨r, us, y0, 0, 0⟩, ⟨r, us, y1, 0, 0⟩, 0⟩, ⟨⟨hw, how, hk⟩, ⟨hw, how, hy0⟩, ⟨hw, how, hy1⟩, rfl, rfl, Nat.zero_le _, Nat.zero_le _⟩, ?_⟩, fun x hx => ?_⟩⟩⟩
  · dsimp only
    and_intros <;> first | exact g3 | with_reducible rfl | assumption | exact Nat.le_refl _ | exact Nat.zero_le _ | exact fun j hj => trivial | exact fun j hj => rfl | exact fun j hj => absurd hj (Nat.not_lt_zero _) | exact trivial | omega | rfl | skip
  clear hO hk how hw hi
  have tk : ∀ j, j ≤ m.length → j ≤ 200 → ¬ (j < m.length ∧ j < 200) → m.take j = m.take 200 := fun j a b c => by
    by_cases h : j = 200
    · rw [h]
    · rw [List.take_of_length_le (by omega), List.take_of_length_le (by omega)]
  obtain ⟨⟨r, us, ck, n, ca⟩, ⟨cr, cu, cck, cn, cca⟩, d, i⟩ := x
  obtain ⟨hS, hC, hD, he, hf, hi, hj⟩ := hx
  obtain ⟨rfl, rfl⟩ : cr = r ∧ cu = us := by simpa using he
  clear he
  obtain ⟨hw, how, hk⟩ := hS
  obtain ⟨-, -, hck⟩ := hC
  obtain ⟨hdw, hdo, hdk⟩ := id hD
  dsimp only at hw how hk hck hf hi hj hdw hdo hdk ⊢
  refine (condX_iff _ _ _).2 ⟨fun c => ?_, fun c => ?_⟩
  · simp only [bAnd, decide_eq_true_eq] at c
    refine ⟨⟨by omega, c.1⟩, by omega, hck, ⟨⟨hck, hw.k60, hw.ok⟩, how⟩, fun y hy => ⟨⟨by omega, c.1⟩, by omega, hk, ⟨⟨hk, hw.k60, hw.ok⟩, how⟩, fun z hz => ?_⟩⟩
    obtain ⟨T, ⟨k1, a1⟩, n1, c1⟩ := y
    obtain ⟨T2, ⟨k2, a2⟩, n2, c2⟩ := z
    obtain ⟨hy1, hy2, hy3⟩ := hy
    obtain ⟨hz1, hz2, hz3⟩ := hz
    have hg := well_on hw (m.getD i eZero)
    have hrun := runL_take (t := (d.r, d.us)) (l := m) (i := i) (by omega)
    rw [← hf] at hrun
    dsimp only [runE] at hrun
    dsimp only at hy1 hz1
    rw [← hz1] at hy1 hg hrun
    subst hy1
    obtain ⟨err, r', us', es'⟩ := T
    dsimp only at hg hrun hy2 hy3 hz2 hz3 ⊢
    have how2 : r'.ow ≠ 0 := by rw [hg.2.1]; exact how
    have hp : ∀ k a, pre18 (r', k, a) := fun k a => how2
    simp only [bne_self_eq_false, Bool.not_false, cond_false, cond_true, condT, condF]
    refine ⟨hy3, hz3, ⟨hy3, hz3, by dsimp only; omega, rfl⟩, hp _ _, hp _ _, hp _ _, hp _ _, ⟨⟨r', us', k2, n2, c2⟩, ⟨r', us', k1, n1, c1⟩, d, i + 1⟩, ⟨⟨hg.1, how2, hz2⟩, ⟨hg.1, how2, hy2⟩, hD, rfl, hrun.symm, by dsimp only; omega, by dsimp only; omega⟩, ?_⟩
    dsimp only
    and_intros <;> first | (rw [wrap1 (by omega) (by omega)]; omega) | with_reducible rfl | assumption | exact Nat.le_refl _ | exact Nat.zero_le _ | exact fun j hj => trivial | exact fun j hj => rfl | exact fun j hj => absurd hj (Nat.not_lt_zero _) | exact trivial | omega | rfl | skip
  have c : ¬ (i < m.length ∧ i < 200) := fun h => by
    rw [← Bool.not_eq_true] at c; simp only [bAnd, decide_eq_true_eq] at c; exact c ⟨by omega, by omega⟩
  rw [tk i hi hj c] at hf
  refine ⟨⟨⟨⟨cr, cu, ck, n, ca⟩, d, (d.r, d.us), 0⟩, ⟨⟨hw, how, hk⟩, hD, hf, rfl, Nat.zero_le _, Nat.zero_le _⟩, ?_⟩, fun x hx => ?_⟩
  · dsimp only
    and_intros <;> first | exact g3 | with_reducible rfl | assumption | exact Nat.le_refl _ | exact Nat.zero_le _ | exact fun j hj => trivial | exact fun j hj => rfl | exact fun j hj => absurd hj (Nat.not_lt_zero _) | exact trivial | omega | rfl | skip
  clear hf hD hdw hdo hdk hk hck how hw
  obtain ⟨⟨r, us, ck, n, ca⟩, ⟨dr, du, dk, dn, dc⟩, t, i⟩ := x
  obtain ⟨hS, hD, hf, he, hi, hj⟩ := hx
  obtain ⟨hw, how, hk⟩ := hS
  obtain ⟨hdw, hdo, hdk⟩ := hD
  dsimp only at hw how hk hf hi hj hdw hdo hdk he ⊢
  refine (condX_iff _ _ _).2 ⟨fun c => ?_, fun c => ?_⟩
  · simp only [bAnd, decide_eq_true_eq] at c
    refine ⟨⟨by omega, c.1⟩, by omega, hdk, ⟨⟨hdk, hdw.k60, hdw.ok⟩, hdo⟩, fun y hy => ?_⟩
    obtain ⟨T, ⟨k1, a1⟩, n1, c1⟩ := y
    obtain ⟨hy1, hy2, hy3⟩ := hy
    have hg := well_on hdw (m.getD i eZero)
    have hrun := runL_take (t := t) (l := m) (i := i) (by omega)
    rw [← he] at hrun
    dsimp only [runE] at hrun
    dsimp only at hy1
    rw [← hy1] at hg hrun
    obtain ⟨err, r', us', es'⟩ := T
    dsimp only at hg hrun hy2 hy3 ⊢
    refine ⟨⟨⟨r, us, ck, n, ca⟩, ⟨r', us', k1, n1, c1⟩, t, i + 1⟩, ⟨⟨hw, how, hk⟩, ⟨hg.1, by dsimp only; rw [hg.2.1]; exact hdo, hy2⟩, hf, hrun.symm, by dsimp only; omega, by dsimp only; omega⟩, ?_⟩
    dsimp only
    and_intros <;> first | (rw [wrap1 (by omega) (by omega)]; omega) | with_reducible rfl | assumption | exact Nat.le_refl _ | exact Nat.zero_le _ | exact fun j hj => trivial | exact fun j hj => rfl | exact fun j hj => absurd hj (Nat.not_lt_zero _) | exact trivial | omega | rfl | skip
  have c : ¬ (i < m.length ∧ i < 200) := fun h => by
    rw [← Bool.not_eq_true] at c; simp only [bAnd, decide_eq_true_eq] at c; exact c ⟨by omega, by omega⟩
  rw [tk i hi hj c, ← hf] at he
  obtain ⟨rfl, rfl⟩ : dr = r ∧ du = us := by simpa using he
  simp only [beq_self_eq_true, condT, condF, cond_true]
  have hp : ∀ k a, pre18 (dr, k, a) := fun k a => how
  exact ⟨hp _ _, hp _ _, hp _ _, hp _ _, trivial⟩
theorem vcResumeCopiesK : ∀ (p : (Int × Int × Int) × List Ev × List Ev) (q : ((Nat → List SV) × Nat) × ((Nat → List SV) × Nat)), (RowsE p.2.1 q.1.1 q.1.2 ∧ RowsE p.2.2 q.2.1 q.2.2) → Held (fnX ⟨ty, ΓOf Γrh, fun _ => [], lpC p.2.1 p.2.2 q.1.2 q.2.2, 143, 3⟩ (bodyOf Try.f5) Try.f5.results.toList [.agg [.g (.int .i64 p.1.1), .g (.int .i64 p.1.2.1), .g (.int .i64 p.1.2.2)], .sl 1 0 6 p.2.1.length q.1.2, .sl 2 0 6 p.2.2.length q.2.2] [(1, .ro 6 q.1.2 q.1.1), (2, .ro 6 q.2.2 q.2.1)] (fun r _ => r = .g (.bool true))) := held3 (p := fun (p : (Int × Int × Int) × List Ev × List Ev) (q : ((Nat → List SV) × Nat) × ((Nat → List SV) × Nat)) (_ : (RowsE p.2.1 q.1.1 q.1.2 ∧ RowsE p.2.2 q.2.1 q.2.2)) => fnX ⟨ty, ΓOf Γrh, fun _ => [], lpC p.2.1 p.2.2 q.1.2 q.2.2, 143, 3⟩ (bodyOf Try.f5) Try.f5.results.toList [.agg [.g (.int .i64 p.1.1), .g (.int .i64 p.1.2.1), .g (.int .i64 p.1.2.2)], .sl 1 0 6 p.2.1.length q.1.2, .sl 2 0 6 p.2.2.length q.2.2] [(1, .ro 6 q.1.2 q.1.1), (2, .ro 6 q.2.2 q.2.1)] (fun r _ => r = .g (.bool true))) vcResumeCopiesE vcResumeCopies
theorem kResumeCopies : ∀ pvs, PVsOK [.flat [.int .i64, .int .i64, .int .i64] true, .slice ksE, .slice ksE] pvs → ∃ lp, Held (fnX ⟨ty, ΓOf Γrh, fun _ => [], lp, 143, 3⟩ (bodyOf Try.f5) Try.f5.results.toList (svs 0 pvs) (heaps 0 pvs) (fun r _ => r = .g (.bool true))) := by
  intro pvs h
  obtain ⟨a, b, c, pvs, rfl, h1⟩ := pv_ints3 h
  obtain ⟨l, cap, rows, pvs, rfl, h2, hr⟩ := pv_events h1
  obtain ⟨m, cam, rowm, pvs, rfl, h3, hm⟩ := pv_events h2
  obtain rfl := pvs_nil h3
  exact ⟨_, vcResumeCopiesK ((a, b, c), l, m) ((fun j => (rows j).map SV.g, cap), (fun j => (rowm j).map SV.g, cam)) ⟨hr, hm⟩⟩
noncomputable def lpCopies : List PV → Nat → SS → List Ann := (choose_loop kResumeCopies).choose
theorem kCopies : ∀ pvs, PVsOK [.flat [.int .i64, .int .i64, .int .i64] true, .slice ksE, .slice ksE] pvs → Held (fnX ⟨ty, ΓOf Γrh, fun _ => [], lpCopies pvs, 143, 3⟩ (bodyOf Try.f5) Try.f5.results.toList (svs 0 pvs) (heaps 0 pvs) (fun r _ => r = .g (.bool true))) := (choose_loop kResumeCopies).choose_spec
end Go.Proofs.Ytghbejmnnfoamaa
namespace Go.Proofs.Ytghbejmnnfoamaa.resumeCopies
open Go.ChangeShapes Go.WideShapes Go.RowKit Go.Eng
theorem own : ownKnob Try.prog.godebug = none := by kernel_rfl
theorem laidOut : laidOutB Try.prog = true := by kernel_rfl
theorem spec_fn {H : Type} (ds : List (DataW H)) (h : ds.length = 3) : Rows.resumeCopiesSpec.fn H ds = { results := [.lit (.bool true)], args := ds } := by
  rcases ds with _ | ⟨d0, _ | ⟨d1, _ | ⟨d2, _ | _⟩⟩⟩ <;> first | rfl | (simp at h)
set_option maxRecDepth 100000 in
theorem lifted (os : Os) (started : os.Started) (H : Type) (enc : TypeId × Value → H) :
    ReturnsInHanded {} Try.checked os 5 .any (Rows.resumeCopiesSpec.pre6 enc Try.prog Try.f5 Rows.resumeCopiesRow.domain false) (Rows.resumeCopiesSpec.post enc Try.prog Try.f5 false true false false) :=
  law_of (C := Try.checked) (ty := ty) (Γ := ΓOf Γrh) started own laidOut hm tyOK Γrh_ok (by kernel_rfl) Try.func5 (body_some (by kernel_rfl)) Try.ntmps5 (s := Rows.resumeCopiesSpec)
    (ChangeSpec.witness6 (enc := enc) (C := Try.checked) false ⟨#[], #[.agg #[.int .i64 0, .int .i64 0, .int .i64 0], .slice none 0 0, .slice none 0 0], []⟩ 8 (by kernel_rfl) (by kernel_rfl) (by kernel_rfl) (by kernel_rfl))
    (pts := [.flat [.int .i64, .int .i64, .int .i64] true, .slice ksE, .slice ksE]) (by kernel_rfl) (Nat.le_of_ble_eq_true rfl) (by kernel_rfl) (by kernel_rfl) Try.underlying4 rfl spec_fn _ _ kCopies
theorem over : Rows.resumeCopiesRow.holds Try.pinned (OpenSpec.ofChange Rows.resumeCopiesSpec) :=
  OpenClaim.holds_of_wide 5 Try.f5 rfl rfl rfl rfl rfl rfl rfl ⟨rfl, rfl, rfl, rfl, rfl⟩ rfl rfl rfl rfl rfl (by kernel_rfl) Try.func5 (by kernel_rfl)
    (of_decide_eq_true (by kernel_rfl)) (by unfold Func.isWrapper; first | (rw [if_pos (by decide +kernel)]; kernel_rfl) | (rw [if_neg (by decide +kernel)]; exact ⟨rfl, rfl⟩))
    (fun os started H enc _ => lifted os started H enc)
end Go.Proofs.Ytghbejmnnfoamaa.resumeCopies
namespace Go.Proofs.Ytghbejmnnfoamaa
theorem resumeCopies_holds : Rows.ResumeCopiesSaid := resumeCopies.over
#print axioms resumeCopies_holds
end Go.Proofs.Ytghbejmnnfoamaa
