/- Chapter 18: the program's side meets an event. -/
import Derived.Test.YtghbejmnnfoamaaRb
import Derived.Test.YtghbejmnnfoamaaLa
set_option linter.unusedVariables false
set_option linter.unusedSimpArgs false
namespace Go.Proofs.Ytghbejmnnfoamaa
open Go Go.Eng
attribute [local irreducible] condX
def Γn : List (Nat × Rule) := (24, .gen (callX C_unit18 getSU)) :: (25, .gen (callX C_reset18 getS0)) :: (22, .gen (callX C_user18 getSE)) :: Γ8
theorem Γn_ok : ΓOK Try.prog Λ0 (ΓOf Γn) := ΓOf_cons ok_unit18 (ΓOf_cons ok_reset18 (ΓOf_cons ok_user18 Γ8_ok))
/-! ### none -/
abbrev N18 := R18 × (Nat × Nat) × (Nat × Nat)
def N18.H (x : N18) : Heap := [(0, .cells (x.1.cells (.sl 1 0 10 x.2.1.1 x.2.1.2) (.sl 2 0 6 x.2.2.1 x.2.2.2)) 55)]
def getC : SV → Option (Nat × Nat)
  | .g (.slice none 0 0) => some (0, 0)
  | .sl _ _ _ len cap => some (len, cap)
  | _ => none
def getN : List SV → Heap → Option N18
  | .ptr id _ _ _ :: _, H => match Eng.look id H with
    | some (.cells [.g (.int .i64 nx), .g (.int .i64 wa), .g (.int .i64 ow), .g (.int .i64 ot), .g (.int .i64 ti), .g (.int .i64 st), .g (.int .i64 le), k, a] _) => match getC k, getC a with
      | some ck, some ca => some (⟨nx, wa, ow, ot, ti, st, le⟩, ck, ca)
      | _, _ => none
    | _ => none
  | _, _ => none
def C_none18 : Ctr := ⟨3, N18, fun _ => [.ptr 0 0 0 0], fun x => N18.H x, fun _ => True, fun x =>
  [.one True (.g (.bool (decide (x.1.ow = 0)))) (N18.H x)]⟩
def cx_none18 (_ : N18) : Cx := ⟨ty, ΓOf Γn, fun _ => [], fun _ _ => [], 12, 3⟩
def VcNone18 : Prop := ∀ (x : N18), True → True ∧ (bif false then true else R18.ow (Prod.fst x) == (0 : Int)) = decide (R18.ow (Prod.fst x) = (0 : Int)) ∧ R18.nx (Prod.fst x) = R18.nx (Prod.fst x) ∧ R18.wa (Prod.fst x) = R18.wa (Prod.fst x) ∧
  R18.ow (Prod.fst x) = R18.ow (Prod.fst x) ∧ R18.ot (Prod.fst x) = R18.ot (Prod.fst x) ∧ R18.ti (Prod.fst x) = R18.ti (Prod.fst x) ∧ R18.st (Prod.fst x) = R18.st (Prod.fst x) ∧ R18.le (Prod.fst x) = R18.le (Prod.fst x) ∧
  (0 : Nat) = (0 : Nat) ∧ Prod.fst (Prod.fst (Prod.snd x)) = Prod.fst (Prod.fst (Prod.snd x)) ∧ Prod.snd (Prod.fst (Prod.snd x)) = Prod.snd (Prod.fst (Prod.snd x)) ∧ (0 : Nat) = (0 : Nat) ∧ Prod.fst (Prod.snd (Prod.snd x))
  = Prod.fst (Prod.snd (Prod.snd x)) ∧ Prod.snd (Prod.snd (Prod.snd x)) = Prod.snd (Prod.snd (Prod.snd x)) ∧ True ∨ False
theorem vcNone18E : VcNone18 = (∀ (x : N18), True → fnX (cx_none18 x) (bodyOf Try.f21) Try.f21.results.toList (C_none18.args x) (C_none18.H x) (endX 3 (C_none18.outs x))) := by kernel_rfl
set_option maxHeartbeats 4000000 in
theorem vcNone18 : VcNone18 := by
  rintro ⟨r, k, a⟩ _
  simp only [eq_self, true_and, and_true, Nat.le_refl, Int.le_refl, implies_true, forall_const, and_false, false_and, exists_false, false_or, or_false, true_implies, Nat.zero_add, and_self, Int.toNat_natCast, cond_true, cond_false, condT, condF]
  by_cases h : r.ow = 0 <;> simp [h]
theorem vcNone18K : ∀ (x : N18), True → Held (fnX (cx_none18 x) (bodyOf Try.f21) Try.f21.results.toList (C_none18.args x) (C_none18.H x) (endX 3 (C_none18.outs x))) := held2 vcNone18E vcNone18
theorem ok_none18 : GenSound Try.prog Λ0 21 (callX C_none18 getN) :=
  gen_of (ty := ty) (Γ := ΓOf Γn) hm tyOK Γn_ok (fnOK_of Try.func21 (by kernel_rfl) (by kernel_rfl)) Try.func21 (body_some (by kernel_rfl)) C_none18 getN Try.ntmps21 (fun _ => Nat.le_of_ble_eq_true rfl) (fun x => (cx_none18 x).cut) (fun x => (cx_none18 x).loop) fun x h => vcNone18K x h
def Γm : List (Nat × Rule) := (21, .gen (callX C_none18 getN)) :: Γn
theorem Γm_ok : ΓOK Try.prog Λ0 (ΓOf Γm) := (ΓOf_cons ok_none18 Γn_ok)
theorem rd_nu {b : ByteArray} (h : (rdT b).2.2 = 0) : 0 ≤ (rdT b).1.nu := by
  have h2 : rdT b = ((rdT b).1, (rdT b).2.1, 0) := by rw [← h]
  have ho := (rd_wr h2).1
  have := ((okU_iff ho.1).1 ho).2.2.2.2.2.2.1
  have hk := ho.1
  omega
/-! ### an event -/
def tkR (r : R18) : R18 := if r.st = 3 then (if r.le = 1 then ⟨r.nx, r.wa, r.ow, r.ot, r.ti, 4, r.le - 1⟩ else ⟨r.nx, r.wa, r.ow, r.ot, r.ti, 3, r.le - 1⟩) else r
def onT (r : R18) (us : List U) (e : Ev) : Int × T18 :=
  if e.w = 0 then (usE r us e, usR r us e, usU r us e, usA r us [] e)
  else if e.w = 1 ∧ e.k = 0 then (0, if (rdT e.d).2.2 = 0 ∧ (rdT e.d).1.to = r.ow then unT r us [] (rdT e.d).1 else (r, us, []))
  else if e.w = 1 ∧ e.k = 1 then (0, rstR r, us, rstE r [])
  else if e.w = 2 ∧ e.k = 0 then (0, tkR r, us, [])
  else (1, r, us, [])
structure O18 where
  r : R18
  us : List U
  ck : Nat
  n : Nat
  ca : Nat
def O18.H (s : O18) : Heap := [(0, .cells (s.r.cells (.sl 1 0 10 s.us.length s.ck) (.sl 2 0 6 s.n s.ca)) 55), (1, .view 10 s.us.length s.ck (urow s.us) 60)]
structure O18.ok (s : O18) : Prop where
  k : s.us.length ≤ s.ck
  k60 : s.us.length ≤ 60
  r : s.r.ok
def getO : List SV → Heap → Option O18
  | .ptr id _ _ _ :: _, H => match Eng.look id H with
    | some (.cells [.g (.int .i64 nx), .g (.int .i64 wa), .g (.int .i64 ow), .g (.int .i64 ot), .g (.int .i64 ti), .g (.int .i64 st), .g (.int .i64 le), k, a] _) => match getK k H, getC a with
      | some (us, ck), some (n, ca) => some ⟨⟨nx, wa, ow, ot, ti, st, le⟩, us, ck, n, ca⟩
      | _, _ => none
    | _ => none
  | _, _ => none
def getOE (a : List SV) (H : Heap) : Option (O18 × Ev) := match a, getO a H with
  | [_, .agg cs], some s => match eOf cs with
    | some e => some (s, e)
    | none => none
  | _, _ => none
def C_On18 : Ctr := ⟨3, O18 × Ev, fun x => [.ptr 0 0 0 0, .agg x.2.cells], fun x => x.1.H, fun x => x.1.ok ∧ x.1.r.ow ≠ 0, fun x =>
  [.any (Nat × Nat) (fun c => (onT x.1.r x.1.us x.2).1 = 0 ∧ outC (onT x.1.r x.1.us x.2).2.2.1 (onT x.1.r x.1.us x.2).2.2.2 c) (fun c => .tup [.sl 4 0 6 (onT x.1.r x.1.us x.2).2.2.2.length c.2, .g (.int .i64 0)]) (outT (onT x.1.r x.1.us x.2).2),
   .any (Nat × Nat) (fun c => (onT x.1.r x.1.us x.2).1 ≠ 0 ∧ outC (onT x.1.r x.1.us x.2).2.2.1 (onT x.1.r x.1.us x.2).2.2.2 c) (fun _ => .tup [.g (.slice none 0 0), .g (.int .i64 (onT x.1.r x.1.us x.2).1)]) (outT (onT x.1.r x.1.us x.2).2)]⟩
def cx_On18 (_ : O18 × Ev) : Cx := ⟨ty, ΓOf Γm, fun _ => [], fun _ _ => [], 99, 3⟩
def Rcq0 (x : O18 × Ev) := (Prod.snd (onT (O18.r (Prod.fst x)) (O18.us (Prod.fst x)) (Prod.snd x)))
def Rcq1 (x : O18 × Ev) := (List.map (fun (j : Nat) => uRow (urow (O18.us (Prod.fst x)) j)) (List.range (List.length (O18.us (Prod.fst x)))))
def Rcq2 (x : O18 × Ev) := (onT (O18.r (Prod.fst x)) (O18.us (Prod.fst x)) (Prod.snd x))
def Rcq3 (x : O18 × Ev) := (unT (O18.r (Prod.fst x)) (Rcq1 x) [] (Prod.fst (rdT (Ev.d (Prod.snd x)))))
def Rcq4 (x : O18 × Ev) (y : Nat × Nat) := (Prod.fst (Rcq2 x) ≠ (0 : Int) ∧ outC (Prod.fst (Prod.snd (Rcq0 x))) (Prod.snd (Prod.snd (Rcq0 x))) y)
def Rcq5 (x : O18 × Ev) (y : Nat × Nat) := (Prod.fst (Rcq2 x) = (0 : Int) ∧ outC (Prod.fst (Prod.snd (Rcq0 x))) (Prod.snd (Prod.snd (Rcq0 x))) y)
def Rcq6 (x : O18 × Ev) := (usR (O18.r (Prod.fst x)) (Rcq1 x) (Prod.snd x))
set_option maxRecDepth 100000 in
def VcOn18 : Prop := ∀ (x : O18 × Ev), O18.ok (Prod.fst x) ∧ R18.ow (O18.r (Prod.fst x)) ≠ (0 : Int) → (0 : Nat) = (0 : Nat) ∧ R18.nx (O18.r (Prod.fst x)) = R18.nx (O18.r (Prod.fst x)) ∧ R18.wa (O18.r (Prod.fst x)) = R18.wa (O18.r (Prod.fst
  x)) ∧ R18.ow (O18.r (Prod.fst x)) = R18.ow (O18.r (Prod.fst x)) ∧ R18.ot (O18.r (Prod.fst x)) = R18.ot (O18.r (Prod.fst x)) ∧ R18.ti (O18.r (Prod.fst x)) = R18.ti (O18.r (Prod.fst x)) ∧ R18.st (O18.r (Prod.fst x)) =
  R18.st (O18.r (Prod.fst x)) ∧ R18.le (O18.r (Prod.fst x)) = R18.le (O18.r (Prod.fst x)) ∧ (0 : Nat) = (0 : Nat) ∧ List.length (O18.us (Prod.fst x)) = List.length (O18.us (Prod.fst x)) ∧ O18.ck (Prod.fst x) = O18.ck
  (Prod.fst x) ∧ (0 : Nat) = (0 : Nat) ∧ O18.n (Prod.fst x) = O18.n (Prod.fst x) ∧ O18.ca (Prod.fst x) = O18.ca (Prod.fst x) ∧ True ∧ (True → condX (decide (R18.ow (O18.r (Prod.fst x)) = (0 : Int))) ((∃ (y : Nat × Nat),
  (Rcq5 x y) ∧ False) ∨ (∃ (y : Nat × Nat), (Rcq4 x y) ∧ False) ∨ False) (condX (Ev.w (Prod.snd x) == (0 : Int)) ((0 : Nat) = (0 : Nat) ∧ Ev.w (Prod.snd x) = Ev.w (Prod.snd x) ∧ Ev.k (Prod.snd x) = Ev.k (Prod.snd x) ∧ Ev.a
  (Prod.snd x) = Ev.a (Prod.snd x) ∧ Ev.b (Prod.snd x) = Ev.b (Prod.snd x) ∧ Ev.c (Prod.snd x) = Ev.c (Prod.snd x) ∧ Ev.d (Prod.snd x) = Ev.d (Prod.snd x) ∧ R18.nx (O18.r (Prod.fst x)) = R18.nx (O18.r (Prod.fst x)) ∧
  R18.wa (O18.r (Prod.fst x)) = R18.wa (O18.r (Prod.fst x)) ∧ R18.ow (O18.r (Prod.fst x)) = R18.ow (O18.r (Prod.fst x)) ∧ R18.ot (O18.r (Prod.fst x)) = R18.ot (O18.r (Prod.fst x)) ∧ R18.ti (O18.r (Prod.fst x)) = R18.ti
  (O18.r (Prod.fst x)) ∧ R18.st (O18.r (Prod.fst x)) = R18.st (O18.r (Prod.fst x)) ∧ R18.le (O18.r (Prod.fst x)) = R18.le (O18.r (Prod.fst x)) ∧ (0 : Nat) = (0 : Nat) ∧ List.length (O18.us (Prod.fst x)) = List.length (Rcq1
  x) ∧ O18.ck (Prod.fst x) = O18.ck (Prod.fst x) ∧ (0 : Nat) = (0 : Nat) ∧ (0 : Nat) = (0 : Nat) ∧ List.length (Rcq1 x) ≤ List.length (O18.us (Prod.fst x)) ∧ List.length (Rcq1 x) ≤ O18.ck (Prod.fst x) ∧ O18.ck (Prod.fst x)
  ≤ O18.ck (Prod.fst x) ∧ (∀ (j : Nat), j < List.length (Rcq1 x) → urow (O18.us (Prod.fst x)) j = urow (Rcq1 x) j ∧ true = true) ∧ (0 : Nat) = (0 : Nat) ∧ S18.ok (S18.mk (O18.r (Prod.fst x)) (Rcq1 x) (O18.ck (Prod.fst x))
  [] (0 : Nat)) ∧ ∀ (y : Nat × Nat), outC (usU (O18.r (Prod.fst x)) (Rcq1 x) (Prod.snd x)) (usA (O18.r (Prod.fst x)) (Rcq1 x) [] (Prod.snd x)) y → condX (usE (O18.r (Prod.fst x)) (Rcq1 x) (Prod.snd x) != (0 : Int)) ((∃ (y
  : Nat × Nat), (Rcq5 x y) ∧ False) ∨ (∃ (y_1 : Nat × Nat), (Prod.fst (Rcq2 x) ≠ (0 : Int) ∧ outC (Prod.fst (Prod.snd (Rcq0 x))) (Prod.snd (Prod.snd (Rcq0 x))) y_1) ∧ Value.slice none (0 : Nat) (0 : Nat) = Value.slice none
  (0 : Nat) (0 : Nat) ∧ usE (O18.r (Prod.fst x)) (Rcq1 x) (Prod.snd x) = Prod.fst (Rcq2 x) ∧ R18.nx (Rcq6 x) = R18.nx (Prod.fst (Rcq0 x)) ∧ R18.wa (Rcq6 x) = R18.wa (Prod.fst (Rcq0 x)) ∧ R18.ow (Rcq6 x) = R18.ow (Prod.fst
  (Rcq0 x)) ∧ R18.ot (Rcq6 x) = R18.ot (Prod.fst (Rcq0 x)) ∧ R18.ti (Rcq6 x) = R18.ti (Prod.fst (Rcq0 x)) ∧ R18.st (Rcq6 x) = R18.st (Prod.fst (Rcq0 x)) ∧ R18.le (Rcq6 x) = R18.le (Prod.fst (Rcq0 x)) ∧ (0 : Nat) = (0 :
  Nat) ∧ List.length (usU (O18.r (Prod.fst x)) (Rcq1 x) (Prod.snd x)) = List.length (Prod.fst (Prod.snd (Rcq0 x))) ∧ Prod.fst y = Prod.fst y_1 ∧ (0 : Nat) = (0 : Nat) ∧ List.length (usA (O18.r (Prod.fst x)) (Rcq1 x) []
  (Prod.snd x)) = List.length (Prod.snd (Prod.snd (Rcq0 x))) ∧ Prod.snd y = Prod.snd y_1 ∧ List.length (Prod.fst (Prod.snd (Rcq0 x))) ≤ List.length (usU (O18.r (Prod.fst x)) (Rcq1 x) (Prod.snd x)) ∧ List.length (Prod.fst
  (Prod.snd (Rcq0 x))) ≤ Prod.fst y_1 ∧ Prod.fst y_1 ≤ Prod.fst y ∧ (∀ (j : Nat), j < List.length (Prod.fst (Prod.snd (Rcq0 x))) → urow (usU (O18.r (Prod.fst x)) (Rcq1 x) (Prod.snd x)) j = urow (Prod.fst (Prod.snd (Rcq0
  x))) j ∧ true = true) ∧ List.length (Prod.snd (Prod.snd (Rcq0 x))) ≤ List.length (usA (O18.r (Prod.fst x)) (Rcq1 x) [] (Prod.snd x)) ∧ List.length (Prod.snd (Prod.snd (Rcq0 x))) ≤ Prod.snd y_1 ∧ Prod.snd y_1 ≤ Prod.snd y
  ∧ (∀ (j : Nat), j < List.length (Prod.snd (Prod.snd (Rcq0 x))) → erow (usA (O18.r (Prod.fst x)) (Rcq1 x) [] (Prod.snd x)) j = erow (Prod.snd (Prod.snd (Rcq0 x))) j ∧ true = true) ∧ True) ∨ False) ((∃ (y_1 : Nat × Nat),
  (Prod.fst (Rcq2 x) = (0 : Int) ∧ outC (Prod.fst (Prod.snd (Rcq0 x))) (Prod.snd (Prod.snd (Rcq0 x))) y_1) ∧ (0 : Nat) = (0 : Nat) ∧ List.length (usA (O18.r (Prod.fst x)) (Rcq1 x) [] (Prod.snd x)) = List.length (Prod.snd
  (Prod.snd (Rcq0 x))) ∧ Prod.snd y = Prod.snd y_1 ∧ (0 : Int) = (0 : Int) ∧ R18.nx (Rcq6 x) = R18.nx (Prod.fst (Rcq0 x)) ∧ R18.wa (Rcq6 x) = R18.wa (Prod.fst (Rcq0 x)) ∧ R18.ow (Rcq6 x) = R18.ow (Prod.fst (Rcq0 x)) ∧
  R18.ot (Rcq6 x) = R18.ot (Prod.fst (Rcq0 x)) ∧ R18.ti (Rcq6 x) = R18.ti (Prod.fst (Rcq0 x)) ∧ R18.st (Rcq6 x) = R18.st (Prod.fst (Rcq0 x)) ∧ R18.le (Rcq6 x) = R18.le (Prod.fst (Rcq0 x)) ∧ (0 : Nat) = (0 : Nat) ∧
  List.length (usU (O18.r (Prod.fst x)) (Rcq1 x) (Prod.snd x)) = List.length (Prod.fst (Prod.snd (Rcq0 x))) ∧ Prod.fst y = Prod.fst y_1 ∧ (0 : Nat) = (0 : Nat) ∧ List.length (usA (O18.r (Prod.fst x)) (Rcq1 x) [] (Prod.snd
  x)) = List.length (Prod.snd (Prod.snd (Rcq0 x))) ∧ Prod.snd y = Prod.snd y_1 ∧ List.length (Prod.fst (Prod.snd (Rcq0 x))) ≤ List.length (usU (O18.r (Prod.fst x)) (Rcq1 x) (Prod.snd x)) ∧ List.length (Prod.fst (Prod.snd
  (Rcq0 x))) ≤ Prod.fst y_1 ∧ Prod.fst y_1 ≤ Prod.fst y ∧ (∀ (j : Nat), j < List.length (Prod.fst (Prod.snd (Rcq0 x))) → urow (usU (O18.r (Prod.fst x)) (Rcq1 x) (Prod.snd x)) j = urow (Prod.fst (Prod.snd (Rcq0 x))) j ∧
  true = true) ∧ List.length (Prod.snd (Prod.snd (Rcq0 x))) ≤ List.length (usA (O18.r (Prod.fst x)) (Rcq1 x) [] (Prod.snd x)) ∧ List.length (Prod.snd (Prod.snd (Rcq0 x))) ≤ Prod.snd y_1 ∧ Prod.snd y_1 ≤ Prod.snd y ∧ (∀ (j
  : Nat), j < List.length (Prod.snd (Prod.snd (Rcq0 x))) → erow (usA (O18.r (Prod.fst x)) (Rcq1 x) [] (Prod.snd x)) j = erow (Prod.snd (Prod.snd (Rcq0 x))) j ∧ true = true) ∧ True) ∨ (∃ (y : Nat × Nat), (Rcq4 x y) ∧ False)
  ∨ False)) (condX (bif Ev.w (Prod.snd x) == (1 : Int) then Ev.k (Prod.snd x) == (0 : Int) else false) ([SV.g (Value.string (Ev.d (Prod.snd x)))] = [SV.g (Value.string (Ev.d (Prod.snd x)))] ∧ True ∧ condX (bif Prod.snd
  (Prod.snd (rdT (Ev.d (Prod.snd x)))) == (0 : Int) then U.to (Prod.fst (rdT (Ev.d (Prod.snd x)))) == R18.ow (O18.r (Prod.fst x)) else false) ((0 : Nat) = (0 : Nat) ∧ U.k (Prod.fst (rdT (Ev.d (Prod.snd x)))) = U.k
  (Prod.fst (rdT (Ev.d (Prod.snd x)))) ∧ U.to (Prod.fst (rdT (Ev.d (Prod.snd x)))) = U.to (Prod.fst (rdT (Ev.d (Prod.snd x)))) ∧ U.fr (Prod.fst (rdT (Ev.d (Prod.snd x)))) = U.fr (Prod.fst (rdT (Ev.d (Prod.snd x)))) ∧ U.cl
  (Prod.fst (rdT (Ev.d (Prod.snd x)))) = U.cl (Prod.fst (rdT (Ev.d (Prod.snd x)))) ∧ U.sz (Prod.fst (rdT (Ev.d (Prod.snd x)))) = U.sz (Prod.fst (rdT (Ev.d (Prod.snd x)))) ∧ U.nu (Prod.fst (rdT (Ev.d (Prod.snd x)))) = U.nu
  (Prod.fst (rdT (Ev.d (Prod.snd x)))) ∧ U.cr (Prod.fst (rdT (Ev.d (Prod.snd x)))) = U.cr (Prod.fst (rdT (Ev.d (Prod.snd x)))) ∧ U.re (Prod.fst (rdT (Ev.d (Prod.snd x)))) = U.re (Prod.fst (rdT (Ev.d (Prod.snd x)))) ∧ U.e
  (Prod.fst (rdT (Ev.d (Prod.snd x)))) = U.e (Prod.fst (rdT (Ev.d (Prod.snd x)))) ∧ U.d (Prod.fst (rdT (Ev.d (Prod.snd x)))) = U.d (Prod.fst (rdT (Ev.d (Prod.snd x)))) ∧ R18.nx (O18.r (Prod.fst x)) = R18.nx (O18.r
  (Prod.fst x)) ∧ R18.wa (O18.r (Prod.fst x)) = R18.wa (O18.r (Prod.fst x)) ∧ R18.ow (O18.r (Prod.fst x)) = R18.ow (O18.r (Prod.fst x)) ∧ R18.ot (O18.r (Prod.fst x)) = R18.ot (O18.r (Prod.fst x)) ∧ R18.ti (O18.r (Prod.fst
  x)) = R18.ti (O18.r (Prod.fst x)) ∧ R18.st (O18.r (Prod.fst x)) = R18.st (O18.r (Prod.fst x)) ∧ R18.le (O18.r (Prod.fst x)) = R18.le (O18.r (Prod.fst x)) ∧ (0 : Nat) = (0 : Nat) ∧ List.length (O18.us (Prod.fst x)) =
  List.length (Rcq1 x) ∧ O18.ck (Prod.fst x) = O18.ck (Prod.fst x) ∧ (0 : Nat) = (0 : Nat) ∧ (0 : Nat) = (0 : Nat) ∧ List.length (Rcq1 x) ≤ List.length (O18.us (Prod.fst x)) ∧ List.length (Rcq1 x) ≤ O18.ck (Prod.fst x) ∧
  O18.ck (Prod.fst x) ≤ O18.ck (Prod.fst x) ∧ (∀ (j : Nat), j < List.length (Rcq1 x) → urow (O18.us (Prod.fst x)) j = urow (Rcq1 x) j ∧ true = true) ∧ (0 : Nat) = (0 : Nat) ∧ (S18.ok (S18.mk (O18.r (Prod.fst x)) (Rcq1 x)
  (O18.ck (Prod.fst x)) [] (0 : Nat)) ∧ (0 : Nat) ≤ (100 : Nat) ∧ (0 : Int) ≤ U.nu (Prod.fst (rdT (Ev.d (Prod.snd x))))) ∧ ∀ (y : Nat × Nat), outC (Prod.fst (Prod.snd (Rcq3 x))) (Prod.snd (Prod.snd (Rcq3 x))) y → (∃ (y_1 :
  Nat × Nat), (Prod.fst (Rcq2 x) = (0 : Int) ∧ outC (Prod.fst (Prod.snd (Rcq0 x))) (Prod.snd (Prod.snd (Rcq0 x))) y_1) ∧ (0 : Nat) = (0 : Nat) ∧ List.length (Prod.snd (Prod.snd (Rcq3 x))) = List.length (Prod.snd (Prod.snd
  (Rcq0 x))) ∧ Prod.snd y = Prod.snd y_1 ∧ (0 : Int) = (0 : Int) ∧ R18.nx (Prod.fst (Rcq3 x)) = R18.nx (Prod.fst (Rcq0 x)) ∧ R18.wa (Prod.fst (Rcq3 x)) = R18.wa (Prod.fst (Rcq0 x)) ∧ R18.ow (Prod.fst (Rcq3 x)) = R18.ow
  (Prod.fst (Rcq0 x)) ∧ R18.ot (Prod.fst (Rcq3 x)) = R18.ot (Prod.fst (Rcq0 x)) ∧ R18.ti (Prod.fst (Rcq3 x)) = R18.ti (Prod.fst (Rcq0 x)) ∧ R18.st (Prod.fst (Rcq3 x)) = R18.st (Prod.fst (Rcq0 x)) ∧ R18.le (Prod.fst (Rcq3
  x)) = R18.le (Prod.fst (Rcq0 x)) ∧ (0 : Nat) = (0 : Nat) ∧ List.length (Prod.fst (Prod.snd (Rcq3 x))) = List.length (Prod.fst (Prod.snd (Rcq0 x))) ∧ Prod.fst y = Prod.fst y_1 ∧ (0 : Nat) = (0 : Nat) ∧ List.length
  (Prod.snd (Prod.snd (Rcq3 x))) = List.length (Prod.snd (Prod.snd (Rcq0 x))) ∧ Prod.snd y = Prod.snd y_1 ∧ List.length (Prod.fst (Prod.snd (Rcq0 x))) ≤ List.length (Prod.fst (Prod.snd (Rcq3 x))) ∧ List.length (Prod.fst
  (Prod.snd (Rcq0 x))) ≤ Prod.fst y_1 ∧ Prod.fst y_1 ≤ Prod.fst y ∧ (∀ (j : Nat), j < List.length (Prod.fst (Prod.snd (Rcq0 x))) → urow (Prod.fst (Prod.snd (Rcq3 x))) j = urow (Prod.fst (Prod.snd (Rcq0 x))) j ∧ true =
  true) ∧ List.length (Prod.snd (Prod.snd (Rcq0 x))) ≤ List.length (Prod.snd (Prod.snd (Rcq3 x))) ∧ List.length (Prod.snd (Prod.snd (Rcq0 x))) ≤ Prod.snd y_1 ∧ Prod.snd y_1 ≤ Prod.snd y ∧ (∀ (j : Nat), j < List.length
  (Prod.snd (Prod.snd (Rcq0 x))) → erow (Prod.snd (Prod.snd (Rcq3 x))) j = erow (Prod.snd (Prod.snd (Rcq0 x))) j ∧ true = true) ∧ True) ∨ (∃ (y : Nat × Nat), (Rcq4 x y) ∧ False) ∨ False) ((∃ (y : Nat × Nat), (Rcq5 x y) ∧
  List.length (Prod.snd (Prod.snd (Rcq0 x))) = (0 : Nat) ∧ Prod.snd y = (0 : Nat) ∧ (0 : Int) = (0 : Int) ∧ R18.nx (O18.r (Prod.fst x)) = R18.nx (Prod.fst (Rcq0 x)) ∧ R18.wa (O18.r (Prod.fst x)) = R18.wa (Prod.fst (Rcq0
  x)) ∧ R18.ow (O18.r (Prod.fst x)) = R18.ow (Prod.fst (Rcq0 x)) ∧ R18.ot (O18.r (Prod.fst x)) = R18.ot (Prod.fst (Rcq0 x)) ∧ R18.ti (O18.r (Prod.fst x)) = R18.ti (Prod.fst (Rcq0 x)) ∧ R18.st (O18.r (Prod.fst x)) = R18.st
  (Prod.fst (Rcq0 x)) ∧ R18.le (O18.r (Prod.fst x)) = R18.le (Prod.fst (Rcq0 x)) ∧ (0 : Nat) = (0 : Nat) ∧ List.length (O18.us (Prod.fst x)) = List.length (Prod.fst (Prod.snd (Rcq0 x))) ∧ O18.ck (Prod.fst x) = Prod.fst y ∧
  List.length (Prod.snd (Prod.snd (Rcq0 x))) = (0 : Nat) ∧ Prod.snd y = (0 : Nat) ∧ List.length (Prod.fst (Prod.snd (Rcq0 x))) ≤ List.length (O18.us (Prod.fst x)) ∧ List.length (Prod.fst (Prod.snd (Rcq0 x))) ≤ Prod.fst y ∧
  Prod.fst y ≤ O18.ck (Prod.fst x) ∧ (∀ (j : Nat), j < List.length (Prod.fst (Prod.snd (Rcq0 x))) → urow (O18.us (Prod.fst x)) j = urow (Prod.fst (Prod.snd (Rcq0 x))) j ∧ true = true) ∧ List.length (Prod.snd (Prod.snd
  (Rcq0 x))) = (0 : Nat) ∧ True) ∨ (∃ (y : Nat × Nat), (Rcq4 x y) ∧ Value.slice none (0 : Nat) (0 : Nat) = Value.slice none (0 : Nat) (0 : Nat) ∧ (0 : Int) = Prod.fst (Rcq2 x) ∧ R18.nx (O18.r (Prod.fst x)) = R18.nx
  (Prod.fst (Rcq0 x)) ∧ R18.wa (O18.r (Prod.fst x)) = R18.wa (Prod.fst (Rcq0 x)) ∧ R18.ow (O18.r (Prod.fst x)) = R18.ow (Prod.fst (Rcq0 x)) ∧ R18.ot (O18.r (Prod.fst x)) = R18.ot (Prod.fst (Rcq0 x)) ∧ R18.ti (O18.r
  (Prod.fst x)) = R18.ti (Prod.fst (Rcq0 x)) ∧ R18.st (O18.r (Prod.fst x)) = R18.st (Prod.fst (Rcq0 x)) ∧ R18.le (O18.r (Prod.fst x)) = R18.le (Prod.fst (Rcq0 x)) ∧ (0 : Nat) = (0 : Nat) ∧ List.length (O18.us (Prod.fst x))
  = List.length (Prod.fst (Prod.snd (Rcq0 x))) ∧ O18.ck (Prod.fst x) = Prod.fst y ∧ List.length (Prod.snd (Prod.snd (Rcq0 x))) = (0 : Nat) ∧ Prod.snd y = (0 : Nat) ∧ List.length (Prod.fst (Prod.snd (Rcq0 x))) ≤ List.length
  (O18.us (Prod.fst x)) ∧ List.length (Prod.fst (Prod.snd (Rcq0 x))) ≤ Prod.fst y ∧ Prod.fst y ≤ O18.ck (Prod.fst x) ∧ (∀ (j : Nat), j < List.length (Prod.fst (Prod.snd (Rcq0 x))) → urow (O18.us (Prod.fst x)) j = urow
  (Prod.fst (Prod.snd (Rcq0 x))) j ∧ true = true) ∧ List.length (Prod.snd (Prod.snd (Rcq0 x))) = (0 : Nat) ∧ True) ∨ False)) (condX (bif Ev.w (Prod.snd x) == (1 : Int) then Ev.k (Prod.snd x) == (1 : Int) else false) ((0 :
  Nat) = (0 : Nat) ∧ R18.nx (O18.r (Prod.fst x)) = R18.nx (O18.r (Prod.fst x)) ∧ R18.wa (O18.r (Prod.fst x)) = R18.wa (O18.r (Prod.fst x)) ∧ R18.ow (O18.r (Prod.fst x)) = R18.ow (O18.r (Prod.fst x)) ∧ R18.ot (O18.r
  (Prod.fst x)) = R18.ot (O18.r (Prod.fst x)) ∧ R18.ti (O18.r (Prod.fst x)) = R18.ti (O18.r (Prod.fst x)) ∧ R18.st (O18.r (Prod.fst x)) = R18.st (O18.r (Prod.fst x)) ∧ R18.le (O18.r (Prod.fst x)) = R18.le (O18.r (Prod.fst
  x)) ∧ (0 : Nat) = (0 : Nat) ∧ List.length (O18.us (Prod.fst x)) = List.length (Rcq1 x) ∧ O18.ck (Prod.fst x) = O18.ck (Prod.fst x) ∧ (0 : Nat) = (0 : Nat) ∧ (0 : Nat) = (0 : Nat) ∧ List.length (Rcq1 x) ≤ List.length
  (O18.us (Prod.fst x)) ∧ List.length (Rcq1 x) ≤ O18.ck (Prod.fst x) ∧ O18.ck (Prod.fst x) ≤ O18.ck (Prod.fst x) ∧ (∀ (j : Nat), j < List.length (Rcq1 x) → urow (O18.us (Prod.fst x)) j = urow (Rcq1 x) j ∧ true = true) ∧ (0
  : Nat) = (0 : Nat) ∧ S18.ok (S18.mk (O18.r (Prod.fst x)) (Rcq1 x) (O18.ck (Prod.fst x)) [] (0 : Nat)) ∧ ∀ (y : Nat × Nat), outC (Rcq1 x) (rstE (O18.r (Prod.fst x)) []) y → (∃ (y_1 : Nat × Nat), (Prod.fst (Rcq2 x) = (0 :
  Int) ∧ outC (Prod.fst (Prod.snd (Rcq0 x))) (Prod.snd (Prod.snd (Rcq0 x))) y_1) ∧ (0 : Nat) = (0 : Nat) ∧ List.length (rstE (O18.r (Prod.fst x)) []) = List.length (Prod.snd (Prod.snd (Rcq0 x))) ∧ Prod.snd y = Prod.snd y_1
  ∧ (0 : Int) = (0 : Int) ∧ R18.nx (rstR (O18.r (Prod.fst x))) = R18.nx (Prod.fst (Rcq0 x)) ∧ R18.wa (rstR (O18.r (Prod.fst x))) = R18.wa (Prod.fst (Rcq0 x)) ∧ R18.ow (rstR (O18.r (Prod.fst x))) = R18.ow (Prod.fst (Rcq0
  x)) ∧ R18.ot (rstR (O18.r (Prod.fst x))) = R18.ot (Prod.fst (Rcq0 x)) ∧ R18.ti (rstR (O18.r (Prod.fst x))) = R18.ti (Prod.fst (Rcq0 x)) ∧ R18.st (rstR (O18.r (Prod.fst x))) = R18.st (Prod.fst (Rcq0 x)) ∧ R18.le (rstR
  (O18.r (Prod.fst x))) = R18.le (Prod.fst (Rcq0 x)) ∧ (0 : Nat) = (0 : Nat) ∧ List.length (Rcq1 x) = List.length (Prod.fst (Prod.snd (Rcq0 x))) ∧ Prod.fst y = Prod.fst y_1 ∧ (0 : Nat) = (0 : Nat) ∧ List.length (rstE
  (O18.r (Prod.fst x)) []) = List.length (Prod.snd (Prod.snd (Rcq0 x))) ∧ Prod.snd y = Prod.snd y_1 ∧ List.length (Prod.fst (Prod.snd (Rcq0 x))) ≤ List.length (Rcq1 x) ∧ List.length (Prod.fst (Prod.snd (Rcq0 x))) ≤
  Prod.fst y_1 ∧ Prod.fst y_1 ≤ Prod.fst y ∧ (∀ (j : Nat), j < List.length (Prod.fst (Prod.snd (Rcq0 x))) → urow (Rcq1 x) j = urow (Prod.fst (Prod.snd (Rcq0 x))) j ∧ true = true) ∧ List.length (Prod.snd (Prod.snd (Rcq0
  x))) ≤ List.length (rstE (O18.r (Prod.fst x)) []) ∧ List.length (Prod.snd (Prod.snd (Rcq0 x))) ≤ Prod.snd y_1 ∧ Prod.snd y_1 ≤ Prod.snd y ∧ (∀ (j : Nat), j < List.length (Prod.snd (Prod.snd (Rcq0 x))) → erow (rstE (O18.r
  (Prod.fst x)) []) j = erow (Prod.snd (Prod.snd (Rcq0 x))) j ∧ true = true) ∧ True) ∨ (∃ (y : Nat × Nat), (Rcq4 x y) ∧ False) ∨ False) (condX (bif Ev.w (Prod.snd x) == (2 : Int) then Ev.k (Prod.snd x) == (0 : Int) else
  false) (condX (R18.st (O18.r (Prod.fst x)) == (3 : Int)) (condX (IntKind.wrap IntKind.i64 (R18.le (O18.r (Prod.fst x)) - (1 : Int)) == (0 : Int)) ((∃ (y : Nat × Nat), (Rcq5 x y) ∧ List.length (Prod.snd (Prod.snd (Rcq0
  x))) = (0 : Nat) ∧ Prod.snd y = (0 : Nat) ∧ (0 : Int) = (0 : Int) ∧ R18.nx (O18.r (Prod.fst x)) = R18.nx (Prod.fst (Rcq0 x)) ∧ R18.wa (O18.r (Prod.fst x)) = R18.wa (Prod.fst (Rcq0 x)) ∧ R18.ow (O18.r (Prod.fst x)) =
  R18.ow (Prod.fst (Rcq0 x)) ∧ R18.ot (O18.r (Prod.fst x)) = R18.ot (Prod.fst (Rcq0 x)) ∧ R18.ti (O18.r (Prod.fst x)) = R18.ti (Prod.fst (Rcq0 x)) ∧ (4 : Int) = R18.st (Prod.fst (Rcq0 x)) ∧ IntKind.wrap IntKind.i64 (R18.le
  (O18.r (Prod.fst x)) - (1 : Int)) = R18.le (Prod.fst (Rcq0 x)) ∧ (0 : Nat) = (0 : Nat) ∧ List.length (O18.us (Prod.fst x)) = List.length (Prod.fst (Prod.snd (Rcq0 x))) ∧ O18.ck (Prod.fst x) = Prod.fst y ∧ List.length
  (Prod.snd (Prod.snd (Rcq0 x))) = (0 : Nat) ∧ Prod.snd y = (0 : Nat) ∧ List.length (Prod.fst (Prod.snd (Rcq0 x))) ≤ List.length (O18.us (Prod.fst x)) ∧ List.length (Prod.fst (Prod.snd (Rcq0 x))) ≤ Prod.fst y ∧ Prod.fst y
  ≤ O18.ck (Prod.fst x) ∧ (∀ (j : Nat), j < List.length (Prod.fst (Prod.snd (Rcq0 x))) → urow (O18.us (Prod.fst x)) j = urow (Prod.fst (Prod.snd (Rcq0 x))) j ∧ true = true) ∧ List.length (Prod.snd (Prod.snd (Rcq0 x))) = (0
  : Nat) ∧ True) ∨ (∃ (y : Nat × Nat), (Rcq4 x y) ∧ Value.slice none (0 : Nat) (0 : Nat) = Value.slice none (0 : Nat) (0 : Nat) ∧ (0 : Int) = Prod.fst (Rcq2 x) ∧ R18.nx (O18.r (Prod.fst x)) = R18.nx (Prod.fst (Rcq0 x)) ∧
  R18.wa (O18.r (Prod.fst x)) = R18.wa (Prod.fst (Rcq0 x)) ∧ R18.ow (O18.r (Prod.fst x)) = R18.ow (Prod.fst (Rcq0 x)) ∧ R18.ot (O18.r (Prod.fst x)) = R18.ot (Prod.fst (Rcq0 x)) ∧ R18.ti (O18.r (Prod.fst x)) = R18.ti
  (Prod.fst (Rcq0 x)) ∧ (4 : Int) = R18.st (Prod.fst (Rcq0 x)) ∧ IntKind.wrap IntKind.i64 (R18.le (O18.r (Prod.fst x)) - (1 : Int)) = R18.le (Prod.fst (Rcq0 x)) ∧ (0 : Nat) = (0 : Nat) ∧ List.length (O18.us (Prod.fst x)) =
  List.length (Prod.fst (Prod.snd (Rcq0 x))) ∧ O18.ck (Prod.fst x) = Prod.fst y ∧ List.length (Prod.snd (Prod.snd (Rcq0 x))) = (0 : Nat) ∧ Prod.snd y = (0 : Nat) ∧ List.length (Prod.fst (Prod.snd (Rcq0 x))) ≤ List.length
  (O18.us (Prod.fst x)) ∧ List.length (Prod.fst (Prod.snd (Rcq0 x))) ≤ Prod.fst y ∧ Prod.fst y ≤ O18.ck (Prod.fst x) ∧ (∀ (j : Nat), j < List.length (Prod.fst (Prod.snd (Rcq0 x))) → urow (O18.us (Prod.fst x)) j = urow
  (Prod.fst (Prod.snd (Rcq0 x))) j ∧ true = true) ∧ List.length (Prod.snd (Prod.snd (Rcq0 x))) = (0 : Nat) ∧ True) ∨ False) ((∃ (y : Nat × Nat), (Rcq5 x y) ∧ List.length (Prod.snd (Prod.snd (Rcq0 x))) = (0 : Nat) ∧
  Prod.snd y = (0 : Nat) ∧ (0 : Int) = (0 : Int) ∧ R18.nx (O18.r (Prod.fst x)) = R18.nx (Prod.fst (Rcq0 x)) ∧ R18.wa (O18.r (Prod.fst x)) = R18.wa (Prod.fst (Rcq0 x)) ∧ R18.ow (O18.r (Prod.fst x)) = R18.ow (Prod.fst (Rcq0
  x)) ∧ R18.ot (O18.r (Prod.fst x)) = R18.ot (Prod.fst (Rcq0 x)) ∧ R18.ti (O18.r (Prod.fst x)) = R18.ti (Prod.fst (Rcq0 x)) ∧ R18.st (O18.r (Prod.fst x)) = R18.st (Prod.fst (Rcq0 x)) ∧ IntKind.wrap IntKind.i64 (R18.le
  (O18.r (Prod.fst x)) - (1 : Int)) = R18.le (Prod.fst (Rcq0 x)) ∧ (0 : Nat) = (0 : Nat) ∧ List.length (O18.us (Prod.fst x)) = List.length (Prod.fst (Prod.snd (Rcq0 x))) ∧ O18.ck (Prod.fst x) = Prod.fst y ∧ List.length
  (Prod.snd (Prod.snd (Rcq0 x))) = (0 : Nat) ∧ Prod.snd y = (0 : Nat) ∧ List.length (Prod.fst (Prod.snd (Rcq0 x))) ≤ List.length (O18.us (Prod.fst x)) ∧ List.length (Prod.fst (Prod.snd (Rcq0 x))) ≤ Prod.fst y ∧ Prod.fst y
  ≤ O18.ck (Prod.fst x) ∧ (∀ (j : Nat), j < List.length (Prod.fst (Prod.snd (Rcq0 x))) → urow (O18.us (Prod.fst x)) j = urow (Prod.fst (Prod.snd (Rcq0 x))) j ∧ true = true) ∧ List.length (Prod.snd (Prod.snd (Rcq0 x))) = (0
  : Nat) ∧ True) ∨ (∃ (y : Nat × Nat), (Rcq4 x y) ∧ Value.slice none (0 : Nat) (0 : Nat) = Value.slice none (0 : Nat) (0 : Nat) ∧ (0 : Int) = Prod.fst (Rcq2 x) ∧ R18.nx (O18.r (Prod.fst x)) = R18.nx (Prod.fst (Rcq0 x)) ∧
  R18.wa (O18.r (Prod.fst x)) = R18.wa (Prod.fst (Rcq0 x)) ∧ R18.ow (O18.r (Prod.fst x)) = R18.ow (Prod.fst (Rcq0 x)) ∧ R18.ot (O18.r (Prod.fst x)) = R18.ot (Prod.fst (Rcq0 x)) ∧ R18.ti (O18.r (Prod.fst x)) = R18.ti
  (Prod.fst (Rcq0 x)) ∧ R18.st (O18.r (Prod.fst x)) = R18.st (Prod.fst (Rcq0 x)) ∧ IntKind.wrap IntKind.i64 (R18.le (O18.r (Prod.fst x)) - (1 : Int)) = R18.le (Prod.fst (Rcq0 x)) ∧ (0 : Nat) = (0 : Nat) ∧ List.length
  (O18.us (Prod.fst x)) = List.length (Prod.fst (Prod.snd (Rcq0 x))) ∧ O18.ck (Prod.fst x) = Prod.fst y ∧ List.length (Prod.snd (Prod.snd (Rcq0 x))) = (0 : Nat) ∧ Prod.snd y = (0 : Nat) ∧ List.length (Prod.fst (Prod.snd
  (Rcq0 x))) ≤ List.length (O18.us (Prod.fst x)) ∧ List.length (Prod.fst (Prod.snd (Rcq0 x))) ≤ Prod.fst y ∧ Prod.fst y ≤ O18.ck (Prod.fst x) ∧ (∀ (j : Nat), j < List.length (Prod.fst (Prod.snd (Rcq0 x))) → urow (O18.us
  (Prod.fst x)) j = urow (Prod.fst (Prod.snd (Rcq0 x))) j ∧ true = true) ∧ List.length (Prod.snd (Prod.snd (Rcq0 x))) = (0 : Nat) ∧ True) ∨ False)) ((∃ (y : Nat × Nat), (Rcq5 x y) ∧ List.length (Prod.snd (Prod.snd (Rcq0
  x))) = (0 : Nat) ∧ Prod.snd y = (0 : Nat) ∧ (0 : Int) = (0 : Int) ∧ R18.nx (O18.r (Prod.fst x)) = R18.nx (Prod.fst (Rcq0 x)) ∧ R18.wa (O18.r (Prod.fst x)) = R18.wa (Prod.fst (Rcq0 x)) ∧ R18.ow (O18.r (Prod.fst x)) =
  R18.ow (Prod.fst (Rcq0 x)) ∧ R18.ot (O18.r (Prod.fst x)) = R18.ot (Prod.fst (Rcq0 x)) ∧ R18.ti (O18.r (Prod.fst x)) = R18.ti (Prod.fst (Rcq0 x)) ∧ R18.st (O18.r (Prod.fst x)) = R18.st (Prod.fst (Rcq0 x)) ∧ R18.le (O18.r
  (Prod.fst x)) = R18.le (Prod.fst (Rcq0 x)) ∧ (0 : Nat) = (0 : Nat) ∧ List.length (O18.us (Prod.fst x)) = List.length (Prod.fst (Prod.snd (Rcq0 x))) ∧ O18.ck (Prod.fst x) = Prod.fst y ∧ List.length (Prod.snd (Prod.snd
  (Rcq0 x))) = (0 : Nat) ∧ Prod.snd y = (0 : Nat) ∧ List.length (Prod.fst (Prod.snd (Rcq0 x))) ≤ List.length (O18.us (Prod.fst x)) ∧ List.length (Prod.fst (Prod.snd (Rcq0 x))) ≤ Prod.fst y ∧ Prod.fst y ≤ O18.ck (Prod.fst
  x) ∧ (∀ (j : Nat), j < List.length (Prod.fst (Prod.snd (Rcq0 x))) → urow (O18.us (Prod.fst x)) j = urow (Prod.fst (Prod.snd (Rcq0 x))) j ∧ true = true) ∧ List.length (Prod.snd (Prod.snd (Rcq0 x))) = (0 : Nat) ∧ True) ∨
  (∃ (y : Nat × Nat), (Rcq4 x y) ∧ Value.slice none (0 : Nat) (0 : Nat) = Value.slice none (0 : Nat) (0 : Nat) ∧ (0 : Int) = Prod.fst (Rcq2 x) ∧ R18.nx (O18.r (Prod.fst x)) = R18.nx (Prod.fst (Rcq0 x)) ∧ R18.wa (O18.r
  (Prod.fst x)) = R18.wa (Prod.fst (Rcq0 x)) ∧ R18.ow (O18.r (Prod.fst x)) = R18.ow (Prod.fst (Rcq0 x)) ∧ R18.ot (O18.r (Prod.fst x)) = R18.ot (Prod.fst (Rcq0 x)) ∧ R18.ti (O18.r (Prod.fst x)) = R18.ti (Prod.fst (Rcq0 x))
  ∧ R18.st (O18.r (Prod.fst x)) = R18.st (Prod.fst (Rcq0 x)) ∧ R18.le (O18.r (Prod.fst x)) = R18.le (Prod.fst (Rcq0 x)) ∧ (0 : Nat) = (0 : Nat) ∧ List.length (O18.us (Prod.fst x)) = List.length (Prod.fst (Prod.snd (Rcq0
  x))) ∧ O18.ck (Prod.fst x) = Prod.fst y ∧ List.length (Prod.snd (Prod.snd (Rcq0 x))) = (0 : Nat) ∧ Prod.snd y = (0 : Nat) ∧ List.length (Prod.fst (Prod.snd (Rcq0 x))) ≤ List.length (O18.us (Prod.fst x)) ∧ List.length
  (Prod.fst (Prod.snd (Rcq0 x))) ≤ Prod.fst y ∧ Prod.fst y ≤ O18.ck (Prod.fst x) ∧ (∀ (j : Nat), j < List.length (Prod.fst (Prod.snd (Rcq0 x))) → urow (O18.us (Prod.fst x)) j = urow (Prod.fst (Prod.snd (Rcq0 x))) j ∧ true
  = true) ∧ List.length (Prod.snd (Prod.snd (Rcq0 x))) = (0 : Nat) ∧ True) ∨ False)) ((∃ (y : Nat × Nat), (Rcq5 x y) ∧ List.length (Prod.snd (Prod.snd (Rcq0 x))) = (0 : Nat) ∧ Prod.snd y = (0 : Nat) ∧ (1 : Int) = (0 : Int)
  ∧ R18.nx (O18.r (Prod.fst x)) = R18.nx (Prod.fst (Rcq0 x)) ∧ R18.wa (O18.r (Prod.fst x)) = R18.wa (Prod.fst (Rcq0 x)) ∧ R18.ow (O18.r (Prod.fst x)) = R18.ow (Prod.fst (Rcq0 x)) ∧ R18.ot (O18.r (Prod.fst x)) = R18.ot
  (Prod.fst (Rcq0 x)) ∧ R18.ti (O18.r (Prod.fst x)) = R18.ti (Prod.fst (Rcq0 x)) ∧ R18.st (O18.r (Prod.fst x)) = R18.st (Prod.fst (Rcq0 x)) ∧ R18.le (O18.r (Prod.fst x)) = R18.le (Prod.fst (Rcq0 x)) ∧ (0 : Nat) = (0 : Nat)
  ∧ List.length (O18.us (Prod.fst x)) = List.length (Prod.fst (Prod.snd (Rcq0 x))) ∧ O18.ck (Prod.fst x) = Prod.fst y ∧ List.length (Prod.snd (Prod.snd (Rcq0 x))) = (0 : Nat) ∧ Prod.snd y = (0 : Nat) ∧ List.length
  (Prod.fst (Prod.snd (Rcq0 x))) ≤ List.length (O18.us (Prod.fst x)) ∧ List.length (Prod.fst (Prod.snd (Rcq0 x))) ≤ Prod.fst y ∧ Prod.fst y ≤ O18.ck (Prod.fst x) ∧ (∀ (j : Nat), j < List.length (Prod.fst (Prod.snd (Rcq0
  x))) → urow (O18.us (Prod.fst x)) j = urow (Prod.fst (Prod.snd (Rcq0 x))) j ∧ true = true) ∧ List.length (Prod.snd (Prod.snd (Rcq0 x))) = (0 : Nat) ∧ True) ∨ (∃ (y : Nat × Nat), (Rcq4 x y) ∧ Value.slice none (0 : Nat) (0
  : Nat) = Value.slice none (0 : Nat) (0 : Nat) ∧ (1 : Int) = Prod.fst (Rcq2 x) ∧ R18.nx (O18.r (Prod.fst x)) = R18.nx (Prod.fst (Rcq0 x)) ∧ R18.wa (O18.r (Prod.fst x)) = R18.wa (Prod.fst (Rcq0 x)) ∧ R18.ow (O18.r
  (Prod.fst x)) = R18.ow (Prod.fst (Rcq0 x)) ∧ R18.ot (O18.r (Prod.fst x)) = R18.ot (Prod.fst (Rcq0 x)) ∧ R18.ti (O18.r (Prod.fst x)) = R18.ti (Prod.fst (Rcq0 x)) ∧ R18.st (O18.r (Prod.fst x)) = R18.st (Prod.fst (Rcq0 x))
  ∧ R18.le (O18.r (Prod.fst x)) = R18.le (Prod.fst (Rcq0 x)) ∧ (0 : Nat) = (0 : Nat) ∧ List.length (O18.us (Prod.fst x)) = List.length (Prod.fst (Prod.snd (Rcq0 x))) ∧ O18.ck (Prod.fst x) = Prod.fst y ∧ List.length
  (Prod.snd (Prod.snd (Rcq0 x))) = (0 : Nat) ∧ Prod.snd y = (0 : Nat) ∧ List.length (Prod.fst (Prod.snd (Rcq0 x))) ≤ List.length (O18.us (Prod.fst x)) ∧ List.length (Prod.fst (Prod.snd (Rcq0 x))) ≤ Prod.fst y ∧ Prod.fst y
  ≤ O18.ck (Prod.fst x) ∧ (∀ (j : Nat), j < List.length (Prod.fst (Prod.snd (Rcq0 x))) → urow (O18.us (Prod.fst x)) j = urow (Prod.fst (Prod.snd (Rcq0 x))) j ∧ true = true) ∧ List.length (Prod.snd (Prod.snd (Rcq0 x))) = (0
  : Nat) ∧ True) ∨ False))))))
theorem vcOn18E : VcOn18 = (∀ (x : O18 × Ev), (x.1.ok ∧ x.1.r.ow ≠ 0) → fnX (cx_On18 x) (bodyOf Try.f9) Try.f9.results.toList (C_On18.args x) (C_On18.H x) (endX 3 (C_On18.outs x))) := by kernel_rfl
set_option maxRecDepth 100000 in
set_option maxHeartbeats 4000000 in
theorem vcOn18 : VcOn18 := by
  unfold VcOn18 Rcq6 Rcq5 Rcq4 Rcq3 Rcq2 Rcq1 Rcq0
  rintro ⟨⟨r, us, ck, n, ca⟩, e⟩ ⟨⟨h1, h3, h5⟩, h6⟩
  have h1 : us.length ≤ ck := h1
  have h3 : us.length ≤ 60 := h3
  have h5 : r.ok := h5
  have h6 : r.ow ≠ 0 := h6
  simp only [eq_self, true_and, and_true, Nat.le_refl, Int.le_refl, implies_true, forall_const, and_false, false_and, exists_false, false_or, or_false, true_implies, Nat.zero_add, and_self, Int.toNat_natCast, cond_true, cond_false, h1, uRow_urow, eRow_erow, condT, condF]
  refine (condX_iff _ _ _).2 ⟨fun c => absurd (of_decide_eq_true c) h6, fun _ => ?_⟩
  refine (condX_iff _ _ _).2 ⟨fun c => ?_, fun c => ?_⟩
  · have w0 : e.w = 0 := by simpa using c
    have hT : onT r us e = (usE r us e, usR r us e, usU r us e, usA r us [] e) := by rw [onT, if_pos w0]
    rw [hT]
    dsimp only
    refine ⟨⟨h1, Nat.le_refl _, h3, Nat.zero_le _, h5⟩, fun y hy => (condX_iff _ _ _).2 ⟨fun g => ?_, fun g => ?_⟩⟩
    · have g0 : usE r us e ≠ 0 := by simpa using g
      refine ⟨y, ⟨g0, hy⟩, ?_⟩
      and_intros <;> first | with_reducible rfl | exact h1 | exact hy | exact hy.1 | exact hy.2 | exact Nat.le_refl _ | exact Nat.zero_le _ | exact fun j hj => rfl | exact fun j hj => absurd hj (Nat.not_lt_zero _) | rfl
    · have g0 : usE r us e = 0 := by simpa using g
      refine ⟨y, ⟨g0, hy⟩, ?_⟩
      and_intros <;> first | with_reducible rfl | exact h1 | exact hy | exact hy.1 | exact hy.2 | exact Nat.le_refl _ | exact Nat.zero_le _ | exact fun j hj => rfl | exact fun j hj => absurd hj (Nat.not_lt_zero _) | rfl
  have w0 : ¬ e.w = 0 := by simpa using c
  refine (condX_iff _ _ _).2 ⟨fun c => ?_, fun c => ?_⟩
  · simp only [bAnd, bOr, beq_iff_eq] at c
    refine (condX_iff _ _ _).2 ⟨fun d => ?_, fun d => ?_⟩
    · simp only [bAnd, bOr, beq_iff_eq] at d
      have hT : onT r us e = (0, unT r us [] (rdT e.d).1) := by rw [onT, if_neg w0, if_pos c, if_pos d]
      rw [hT]
      dsimp only
      refine ⟨⟨⟨h1, Nat.le_refl _, h3, Nat.zero_le _, h5⟩, by decide, rd_nu d.1⟩, fun y hy => ⟨y, ⟨rfl, hy⟩, ?_⟩⟩
      and_intros <;> first | with_reducible rfl | exact h1 | exact hy | exact hy.1 | exact hy.2 | exact Nat.le_refl _ | exact Nat.zero_le _ | exact fun j hj => rfl | exact fun j hj => absurd hj (Nat.not_lt_zero _) | rfl
    · have d : ¬ ((rdT e.d).2.2 = 0 ∧ (rdT e.d).1.to = r.ow) := fun h => by
        rw [← Bool.not_eq_true] at d; simp only [bAnd, bOr, beq_iff_eq] at d; exact d h
      have hT : onT r us e = (0, r, us, []) := by rw [onT, if_neg w0, if_pos c, if_neg d]
      rw [hT]
      dsimp only
      first | refine Or.inl ⟨(ck, 0), ⟨rfl, h1, Nat.le_refl _⟩, ?_⟩ | refine ⟨(ck, 0), ⟨rfl, h1, Nat.le_refl _⟩, ?_⟩
      and_intros <;> first | with_reducible rfl | exact h1 | exact hy | exact hy.1 | exact hy.2 | exact Nat.le_refl _ | exact Nat.zero_le _ | exact fun j hj => rfl | exact fun j hj => absurd hj (Nat.not_lt_zero _) | rfl
  have p1 : ¬ (e.w = 1 ∧ e.k = 0) := fun h => by
    rw [← Bool.not_eq_true] at c; simp only [bAnd, bOr, beq_iff_eq] at c; exact c h
  refine (condX_iff _ _ _).2 ⟨fun c => ?_, fun c => ?_⟩
  · simp only [bAnd, bOr, beq_iff_eq] at c
    have hT : onT r us e = (0, rstR r, us, rstE r []) := by rw [onT, if_neg w0, if_neg p1, if_pos c]
    rw [hT]
    dsimp only
    refine ⟨⟨h1, Nat.le_refl _, h3, Nat.zero_le _, h5⟩, fun y hy => ⟨y, ⟨rfl, hy⟩, ?_⟩⟩
    and_intros <;> first | with_reducible rfl | exact h1 | exact hy | exact hy.1 | exact hy.2 | exact Nat.le_refl _ | exact Nat.zero_le _ | exact fun j hj => rfl | exact fun j hj => absurd hj (Nat.not_lt_zero _) | rfl
  have p2 : ¬ (e.w = 1 ∧ e.k = 1) := fun h => by
    rw [← Bool.not_eq_true] at c; simp only [bAnd, bOr, beq_iff_eq] at c; exact c h
  refine (condX_iff _ _ _).2 ⟨fun c => ?_, fun c => ?_⟩
  · simp only [bAnd, bOr, beq_iff_eq] at c
    have hT : onT r us e = (0, tkR r, us, []) := by rw [onT, if_neg w0, if_neg p1, if_neg p2, if_pos c]
    rw [hT]
    dsimp only
    refine (condX_iff _ _ _).2 ⟨fun d => ?_, fun d => ?_⟩
    · have d : r.st = 3 := by simpa using d
      have n1 := h5.st d
      have n2 := h5.le
      have hw : IntKind.i64.wrap (r.le - 1) = r.le - 1 := wrap1 (by omega) (by omega)
      simp only [hw]
      refine (condX_iff _ _ _).2 ⟨fun g => ?_, fun g => ?_⟩
      · have g : r.le - 1 = 0 := by simpa using g
        have hR : tkR r = ⟨r.nx, r.wa, r.ow, r.ot, r.ti, 4, r.le - 1⟩ := by rw [tkR, if_pos d, if_pos (by omega)]
        rw [hR]
        dsimp only
        first | refine Or.inl ⟨(ck, 0), ⟨trivial, h1, Nat.le_refl _⟩, ?_⟩ | refine ⟨(ck, 0), ⟨trivial, h1, Nat.le_refl _⟩, ?_⟩
        and_intros <;> first | with_reducible rfl | exact h1 | exact hy | exact hy.1 | exact hy.2 | exact Nat.le_refl _ | exact Nat.zero_le _ | exact trivial | exact d | exact fun j hj => trivial | exact fun j hj => rfl | exact fun j hj => absurd hj (Nat.not_lt_zero _) | rfl
      · have g : ¬ r.le - 1 = 0 := by simpa using g
        have hR : tkR r = ⟨r.nx, r.wa, r.ow, r.ot, r.ti, 3, r.le - 1⟩ := by rw [tkR, if_pos d, if_neg (by omega)]
        rw [hR]
        dsimp only
        first | refine Or.inl ⟨(ck, 0), ⟨trivial, h1, Nat.le_refl _⟩, ?_⟩ | refine ⟨(ck, 0), ⟨trivial, h1, Nat.le_refl _⟩, ?_⟩
        and_intros <;> first | with_reducible rfl | exact h1 | exact hy | exact hy.1 | exact hy.2 | exact Nat.le_refl _ | exact Nat.zero_le _ | exact trivial | exact d | exact fun j hj => trivial | exact fun j hj => rfl | exact fun j hj => absurd hj (Nat.not_lt_zero _) | rfl
    · have d : ¬ r.st = 3 := by simpa using d
      have hR : tkR r = r := by rw [tkR, if_neg d]
      rw [hR]
      first | refine Or.inl ⟨(ck, 0), ⟨rfl, h1, Nat.le_refl _⟩, ?_⟩ | refine ⟨(ck, 0), ⟨rfl, h1, Nat.le_refl _⟩, ?_⟩
      and_intros <;> first | with_reducible rfl | exact h1 | exact hy | exact hy.1 | exact hy.2 | exact Nat.le_refl _ | exact Nat.zero_le _ | exact fun j hj => rfl | exact fun j hj => absurd hj (Nat.not_lt_zero _) | rfl
  have p3 : ¬ (e.w = 2 ∧ e.k = 0) := fun h => by
    rw [← Bool.not_eq_true] at c; simp only [bAnd, bOr, beq_iff_eq] at c; exact c h
  have hT : onT r us e = (1, r, us, []) := by rw [onT, if_neg w0, if_neg p1, if_neg p2, if_neg p3]
  rw [hT]
  dsimp only
  first | refine Or.inr ⟨(ck, 0), ⟨by decide, h1, Nat.le_refl _⟩, ?_⟩ | refine ⟨(ck, 0), ⟨by decide, h1, Nat.le_refl _⟩, ?_⟩
  and_intros <;> first | with_reducible rfl | exact h1 | exact hy | exact hy.1 | exact hy.2 | exact Nat.le_refl _ | exact Nat.zero_le _ | exact fun j hj => rfl | exact fun j hj => absurd hj (Nat.not_lt_zero _) | rfl
theorem vcOn18K : ∀ (x : O18 × Ev), (x.1.ok ∧ x.1.r.ow ≠ 0) → Held (fnX (cx_On18 x) (bodyOf Try.f9) Try.f9.results.toList (C_On18.args x) (C_On18.H x) (endX 3 (C_On18.outs x))) := held2 vcOn18E vcOn18
theorem ok_On18 : GenSound Try.prog Λ0 9 (callX C_On18 getOE) :=
  gen_of (ty := ty) (Γ := ΓOf Γm) hm tyOK Γm_ok (fnOK_of Try.func9 (by kernel_rfl) (by kernel_rfl)) Try.func9 (body_some (by kernel_rfl)) C_On18 getOE Try.ntmps9 (fun _ => Nat.le_of_ble_eq_true rfl) (fun x => (cx_On18 x).cut) (fun x => (cx_On18 x).loop) fun x h => vcOn18K x h
end Go.Proofs.Ytghbejmnnfoamaa
