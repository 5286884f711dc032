/- Chapter 18: the reference's side: all, forget, reset, user. -/
import Derived.Test.YtghbejmnnfoamaaRg
set_option linter.unusedVariables false
set_option linter.unusedSimpArgs false
namespace Go.Proofs.Ytghbejmnnfoamaa
open Go Go.Eng
attribute [local irreducible] condX
/-! ### what is kept, by the next number and the data -/
def kN (nx : Int) (n i : Nat) : Int := (nx - n + i + 128) % 128
def keptU (nx : Int) (ds : List ByteArray) : List U := (List.range ds.length).map fun i => dtU (kN nx ds.length i) (ds.getD i ⟨#[]⟩)
theorem keptU_len (nx : Int) (ds : List ByteArray) : (keptU nx ds).length = ds.length := by simp [keptU]
theorem keptU_get {nx : Int} {ds : List ByteArray} {i : Nat} (h : i < ds.length) : (keptU nx ds)[i]? = some (dtU (kN nx ds.length i) (ds.getD i ⟨#[]⟩)) := by
  simp [keptU, List.getElem?_map, List.getElem?_range h]
theorem keptU_map (nx : Int) (ds : List ByteArray) : (keptU nx ds).map U.d = ds := by
  apply List.ext_getElem?
  intro j
  by_cases h : j < ds.length
  · rw [List.getElem?_map, keptU_get h]; simp [List.getD_eq_getElem?_getD, h]
  · rw [List.getElem?_eq_none (by simp [keptU_len]; omega), List.getElem?_eq_none (by omega)]
theorem keptU_add {nx : Int} {ds : List ByteArray} (d : ByteArray) (h : 0 ≤ nx ∧ nx < 128) (hl : ds.length < 128) : keptU ((nx + 1) % 128) (ds ++ [d]) = keptU nx ds ++ [dtU nx d] := by
  apply List.ext_getElem?
  intro j
  by_cases h1 : j < ds.length
  · rw [keptU_get (by simp; omega), List.getElem?_append_left (by rw [keptU_len]; exact h1), keptU_get h1]
    simp only [List.getD_eq_getElem?_getD, List.getElem?_append_left h1, List.length_append, List.length_cons, List.length_nil, Option.some.injEq]
    congr 1
    unfold kN; omega
  · by_cases h2 : j = ds.length
    · subst h2
      rw [keptU_get (by simp), List.getElem?_append_right (by rw [keptU_len]; exact Nat.le_refl _), keptU_len, Nat.sub_self]
      simp only [List.getD_eq_getElem?_getD, List.length_append, List.length_cons, List.length_nil, List.getElem?_cons_zero, Option.some.injEq]
      rw [List.getElem?_append_right (Nat.le_refl _), Nat.sub_self]
      congr 1
      unfold kN; omega
    · rw [List.getElem?_eq_none (by simp [keptU_len]; omega), List.getElem?_eq_none (by simp [keptU_len]; omega)]
theorem keptU_drop {nx : Int} {ds : List ByteArray} {k : Nat} (h : k ≤ ds.length) : (keptU nx ds).drop k = keptU nx (ds.drop k) := by
  apply List.ext_getElem?
  intro j
  rw [List.getElem?_drop]
  by_cases h1 : k + j < ds.length
  · rw [keptU_get h1, keptU_get (by simp; omega)]
    simp only [List.getD_eq_getElem?_getD, List.getElem?_drop, List.length_drop, Option.some.injEq]
    congr 1
    unfold kN; omega
  · rw [List.getElem?_eq_none (by rw [keptU_len]; omega), List.getElem?_eq_none (by rw [keptU_len]; simp; omega)]
/-! ### its memory, what is kept with it -/
structure P18 where
  r : R18
  fi : Int
  ds : List ByteArray
  ck : Nat
def hP (r : R18) (fi : Int) (ds : List ByteArray) (id c : Nat) : Heap := [(0, .cells (r.qcells fi (.sl id 0 1 ds.length c)) 73), (id, .view 1 ds.length c (drow ds) 9)]
def hPE (r : R18) (fi : Int) (ds : List ByteArray) (id c : Nat) (es : List Ev) (ca : Nat) : Heap := [(0, .cells (r.qcells fi (.sl id 0 1 ds.length c)) 73), (id, .view 1 ds.length c (drow ds) 9), (id + 1, .view 6 es.length ca (erow es) 31)]
def P18.H (x : P18) : Heap := hP x.r x.fi x.ds 1 x.ck
structure P18.ok (x : P18) : Prop where
  k : x.ds.length ≤ x.ck
  k60 : x.ds.length ≤ 60
  r : x.r.ok
  fi : x.ds ≠ [] → x.fi = kN x.r.nx x.ds.length 0
  cl : x.r.st = 2 → x.ds = []
def getD : SV → Heap → Option (List ByteArray × Nat)
  | .g (.slice none 0 0), _ => some ([], 0)
  | .sl id _ _ len cap, H => match Eng.look id H with
    | some (.view _ _ _ row _) => some ((List.range len).map (fun j => dRow (row j)), cap)
    | _ => none
  | _, _ => none
def getP : List SV → Heap → Option P18
  | .ptr id _ _ _ :: _, H => match Eng.look id H with
    | some (.cells [.g (.bool _), .g (.int .i64 ow), .g (.int .i64 ot), .g (.int .i64 ti), .g (.int .i64 nx), .g (.int .i64 wa), .g (.int .i64 st), .g (.int .i64 le), .g (.int .i64 fi), k] _) => match getD k H with
      | some (ds, c) => some ⟨⟨nx, wa, ow, ot, ti, st, le⟩, fi, ds, c⟩
      | none => none
    | _ => none
  | _, _ => none
/-! ### all -/
def allE (r : R18) (ds : List ByteArray) : List Ev := (keptU r.nx ds).map (sendE r)
theorem allE_len (r : R18) (ds : List ByteArray) : (allE r ds).length = ds.length := by simp [allE, keptU_len]
theorem allE_take {r : R18} {ds : List ByteArray} {i : Nat} (h : i < ds.length) : (allE r ds).take (i + 1) = (allE r ds).take i ++ [dataE r (kN r.nx ds.length i) (ds.getD i ⟨#[]⟩)] := by
  rw [List.take_add_one]
  congr 1
  simp only [allE, List.getElem?_map, keptU_get h]
  rfl
def C_rAll18 : Ctr := ⟨2, P18, fun _ => [.ptr 0 0 0 0], fun x => x.H, fun x => x.ok, fun x => [.any Nat (fun c => (allE x.r x.ds).length ≤ c) (fun c => .sl 2 0 6 (allE x.r x.ds).length c) (fun c => hPE x.r x.fi x.ds 1 x.ck (allE x.r x.ds) c)]⟩
def annAll (r : R18) (fi : Int) (ds : List ByteArray) (ck : Nat) : Ann := ⟨Nat × Nat, fun x => ⟨[(0, .ptr 0 0 0 0), (3, .sl 2 0 6 x.1 x.2), (4, .g (.int .i64 x.1))],
  [(0, .cells (r.qcells fi (.sl 1 0 1 ds.length ck)) 73), (1, .view 1 ds.length ck (drow ds) 9), (2, .view 6 x.1 x.2 (erow ((allE r ds).take x.1)) 31)], 3, 0, []⟩,
  fun x => x.1 ≤ ds.length ∧ x.1 ≤ x.2, fun x => ds.length - x.1⟩
def cx_rAll18 (x : P18) : Cx := ⟨ty, ΓOf Γrb, fun _ => [], fun i _ => if i = 3 then [annAll x.r x.fi x.ds x.ck] else [], 34, 2⟩
def VcRAll : Prop := ∀ (x : P18), P18.ok x → (∃ (x_1 : Nat × Nat), (Prod.fst x_1 ≤ List.length (P18.ds x) ∧ Prod.fst x_1 ≤ Prod.snd x_1) ∧ (0 : Nat) = (0 : Nat) ∧ Prod.fst x_1 = (0 : Nat) ∧ Prod.snd x_1 = (0 : Nat) ∧ (0 : Int) = (↑(Prod.fst
  x_1) : Int) ∧ true = true ∧ R18.ow (P18.r x) = R18.ow (P18.r x) ∧ R18.ot (P18.r x) = R18.ot (P18.r x) ∧ R18.ti (P18.r x) = R18.ti (P18.r x) ∧ R18.nx (P18.r x) = R18.nx (P18.r x) ∧ R18.wa (P18.r x) = R18.wa (P18.r x) ∧
  R18.st (P18.r x) = R18.st (P18.r x) ∧ R18.le (P18.r x) = R18.le (P18.r x) ∧ P18.fi x = P18.fi x ∧ (0 : Nat) = (0 : Nat) ∧ List.length (P18.ds x) = List.length (P18.ds x) ∧ P18.ck x = P18.ck x ∧ List.length (P18.ds x) ≤
  List.length (P18.ds x) ∧ List.length (P18.ds x) ≤ P18.ck x ∧ P18.ck x ≤ P18.ck x ∧ (∀ (j : Nat), j < List.length (P18.ds x) → drow (P18.ds x) j = drow (P18.ds x) j ∧ true = true) ∧ Prod.fst x_1 = (0 : Nat) ∧ True) ∧ ∀
  (x_1 : Nat × Nat), Prod.fst x_1 ≤ List.length (P18.ds x) ∧ Prod.fst x_1 ≤ Prod.snd x_1 → condX (decide ((↑(Prod.fst x_1) : Int) < (↑(List.length (P18.ds x)) : Int))) ((128 : Int) ≠ (0 : Int) ∧ ((0 : Int) ≤ (↑(Prod.fst
  x_1) : Int) ∧ (↑(Prod.fst x_1) : Int) < (↑(List.length (P18.ds x)) : Int)) ∧ Int.toNat (↑(Prod.fst x_1) : Int) < List.length (P18.ds x) ∧ (0 : Nat) = (0 : Nat) ∧ Int.tmod (IntKind.wrap IntKind.i64 (P18.fi x + (↑(Prod.fst
  x_1) : Int))) (128 : Int) = Int.tmod (IntKind.wrap IntKind.i64 (P18.fi x + (↑(Prod.fst x_1) : Int))) (128 : Int) ∧ List.getD (P18.ds x) (Int.toNat (↑(Prod.fst x_1) : Int)) (ByteArray.mk #[]) = List.getD (P18.ds x)
  (Int.toNat (↑(Prod.fst x_1) : Int)) (ByteArray.mk #[]) ∧ true = true ∧ R18.ow (P18.r x) = R18.ow (P18.r x) ∧ R18.ot (P18.r x) = R18.ot (P18.r x) ∧ R18.ti (P18.r x) = R18.ti (P18.r x) ∧ R18.nx (P18.r x) = R18.nx (P18.r x)
  ∧ R18.wa (P18.r x) = R18.wa (P18.r x) ∧ R18.st (P18.r x) = R18.st (P18.r x) ∧ R18.le (P18.r x) = R18.le (P18.r x) ∧ P18.fi x = P18.fi x ∧ (0 : Nat) = (0 : Nat) ∧ List.length (P18.ds x) = List.length (P18.ds x) ∧ P18.ck x
  = P18.ck x ∧ True ∧ (True → (0 : Nat) + Prod.fst x_1 ≤ Prod.fst x_1 ∧ (0 : Nat) + Prod.snd x_1 ≤ Prod.snd x_1 ∧ (Prod.fst x_1 + (1 : Nat)) * (56 : Nat) ≤ (140737488355328 : Nat) ∧ ∀ (cap : Nat), Prod.fst x_1 + (1 : Nat)
  ≤ cap → ∃ (x' : Nat × Nat), (Prod.fst x' ≤ List.length (P18.ds x) ∧ Prod.fst x' ≤ Prod.snd x') ∧ List.length (P18.ds x) - Prod.fst x' < List.length (P18.ds x) - Prod.fst x_1 ∧ (0 : Nat) = (0 : Nat) ∧ (0 : Nat) = (0 :
  Nat) ∧ Prod.fst x_1 + (1 : Nat) = Prod.fst x' ∧ cap = Prod.snd x' ∧ IntKind.wrap IntKind.i64 ((↑(Prod.fst x_1) : Int) + (1 : Int)) = (↑(Prod.fst x') : Int) ∧ true = true ∧ R18.ow (P18.r x) = R18.ow (P18.r x) ∧ R18.ot
  (P18.r x) = R18.ot (P18.r x) ∧ R18.ti (P18.r x) = R18.ti (P18.r x) ∧ R18.nx (P18.r x) = R18.nx (P18.r x) ∧ R18.wa (P18.r x) = R18.wa (P18.r x) ∧ R18.st (P18.r x) = R18.st (P18.r x) ∧ R18.le (P18.r x) = R18.le (P18.r x) ∧
  P18.fi x = P18.fi x ∧ (0 : Nat) = (0 : Nat) ∧ List.length (P18.ds x) = List.length (P18.ds x) ∧ P18.ck x = P18.ck x ∧ List.length (P18.ds x) ≤ List.length (P18.ds x) ∧ List.length (P18.ds x) ≤ P18.ck x ∧ P18.ck x ≤
  P18.ck x ∧ (∀ (j : Nat), j < List.length (P18.ds x) → drow (P18.ds x) j = drow (P18.ds x) j ∧ true = true) ∧ Prod.fst x' ≤ Prod.fst x_1 + (1 : Nat) ∧ Prod.fst x' ≤ Prod.snd x' ∧ Prod.snd x' ≤ cap ∧ (∀ (j : Nat), j <
  Prod.fst x' → appRows (0 : Nat) (0 : Nat) (Prod.fst x_1) (erow (List.take (Prod.fst x_1) (allE (P18.r x) (P18.ds x)))) (fun (j : Nat) => List.take (6 : Nat) (List.drop (j * (6 : Nat)) [SV.g (Value.int IntKind.i64 (1 :
  Int)), SV.g (Value.int IntKind.i64 (0 : Int)), SV.g (Value.int IntKind.i64 (0 : Int)), SV.g (Value.int IntKind.i64 (0 : Int)), SV.g (Value.int IntKind.i64 (0 : Int)), SV.g (Value.string (wrS (U.mk (5 : Int) (R18.ot
  (P18.r x)) (0 : Int) (0 : Int) (0 : Int) (Int.tmod (IntKind.wrap IntKind.i64 (P18.fi x + (↑(Prod.fst x_1) : Int))) (128 : Int)) (0 : Int) (0 : Int) true (List.getD (P18.ds x) (Int.toNat (↑(Prod.fst x_1) : Int))
  (ByteArray.mk #[]))) false))])) j = erow (List.take (Prod.fst x') (allE (P18.r x) (P18.ds x))) j ∧ true = true) ∧ True)) ((∃ (y : Nat), List.length (allE (P18.r x) (P18.ds x)) ≤ y ∧ (0 : Nat) = (0 : Nat) ∧ Prod.fst x_1 =
  List.length (allE (P18.r x) (P18.ds x)) ∧ Prod.snd x_1 = y ∧ true = true ∧ R18.ow (P18.r x) = R18.ow (P18.r x) ∧ R18.ot (P18.r x) = R18.ot (P18.r x) ∧ R18.ti (P18.r x) = R18.ti (P18.r x) ∧ R18.nx (P18.r x) = R18.nx
  (P18.r x) ∧ R18.wa (P18.r x) = R18.wa (P18.r x) ∧ R18.st (P18.r x) = R18.st (P18.r x) ∧ R18.le (P18.r x) = R18.le (P18.r x) ∧ P18.fi x = P18.fi x ∧ (0 : Nat) = (0 : Nat) ∧ List.length (P18.ds x) = List.length (P18.ds x)
  ∧ P18.ck x = P18.ck x ∧ List.length (P18.ds x) ≤ List.length (P18.ds x) ∧ List.length (P18.ds x) ≤ P18.ck x ∧ P18.ck x ≤ P18.ck x ∧ (∀ (j : Nat), j < List.length (P18.ds x) → drow (P18.ds x) j = drow (P18.ds x) j ∧ true
  = true) ∧ List.length (allE (P18.r x) (P18.ds x)) ≤ Prod.fst x_1 ∧ List.length (allE (P18.r x) (P18.ds x)) ≤ y ∧ y ≤ Prod.snd x_1 ∧ (∀ (j : Nat), j < List.length (allE (P18.r x) (P18.ds x)) → erow (List.take (Prod.fst
  x_1) (allE (P18.r x) (P18.ds x))) j = erow (allE (P18.r x) (P18.ds x)) j ∧ true = true) ∧ True) ∨ False)
theorem vcRAllE : VcRAll = (∀ (x : P18), x.ok → fnX (cx_rAll18 x) (bodyOf Try.f56) Try.f56.results.toList (C_rAll18.args x) (C_rAll18.H x) (endX 2 (C_rAll18.outs x))) := by kernel_rfl
set_option maxHeartbeats 4000000 in
theorem vcRAll : VcRAll := by
  rintro ⟨r, fi, ds, ck⟩ ⟨h1, h2, h3, h4, h5⟩
  have h1 : ds.length ≤ ck := h1
  have h2 : ds.length ≤ 60 := h2
  have h3 : r.ok := h3
  have h4 : ds ≠ [] → fi = kN r.nx ds.length 0 := h4
  simp only [eq_self, true_and, and_true, Nat.le_refl, Int.le_refl, implies_true, forall_const, and_false, false_and, exists_false, false_or, or_false, true_implies, Nat.zero_add, and_self, Int.toNat_natCast, cond_true, cond_false, condT, condF]
  have n1 := h3.nx
  refine ⟨⟨(0, 0), ?_⟩, fun x hx => ?_⟩
  · dsimp only
    and_intros <;> first | with_reducible rfl | assumption | exact Nat.le_refl _ | exact Nat.zero_le _ | exact fun j hj => trivial | exact fun j hj => rfl | exact fun j hj => absurd hj (Nat.not_lt_zero _) | exact trivial | omega | rfl | skip
  · obtain ⟨i, c⟩ := x
    obtain ⟨hi, hc⟩ := hx
    dsimp only at hi hc ⊢
    have hA : ((allE r ds).take i).length = i := by simp [allE_len]; omega
    refine (condX_iff _ _ _).2 ⟨fun c1 => ?_, fun c1 => ?_⟩
    · have hlt : i < ds.length := by have := of_decide_eq_true c1; omega
      have hne : ds ≠ [] := by intro e; subst e; simp at hlt
      have hw : (IntKind.i64.wrap (fi + i)).tmod 128 = kN r.nx ds.length i := by
        have h4 := h4 hne
        unfold kN at h4 ⊢
        rw [wrap1 (by omega) (by omega), tmod_nn (by omega)]; omega
      simp only [hw]
      refine ⟨by decide, by omega, hlt, by omega, fun cap hcap => ⟨(i + 1, cap), ?_⟩⟩
      dsimp only
      and_intros <;> first | (rw [wrap1 (by omega) (by omega)]; omega) | with_reducible rfl | assumption | exact Nat.le_refl _ | exact Nat.zero_le _ | exact fun j hj => trivial | exact fun j hj => rfl | exact fun j hj => absurd hj (Nat.not_lt_zero _) | exact trivial | omega | rfl | skip
      intro j hj
      rw [allE_take hlt]
      have := erow_app (A := (allE r ds).take i) (b := dataE r (kN r.nx ds.length i) (ds.getD i ⟨#[]⟩)) (row := fun j => List.take 6 (List.drop (j * 6) (dataE r (kN r.nx ds.length i) (ds.getD i ⟨#[]⟩)).cells)) (j := j) rfl (by omega)
      rw [hA] at this
      exact this
    · have c1 := of_decide_eq_false c1
      have hi' : i = (allE r ds).length := by rw [allE_len]; omega
      subst hi'
      refine ⟨c, hc, ?_⟩
      and_intros <;> first | (intro j hj; rw [List.take_length]) | with_reducible rfl | assumption | exact Nat.le_refl _ | exact Nat.zero_le _ | exact fun j hj => trivial | exact fun j hj => rfl | exact fun j hj => absurd hj (Nat.not_lt_zero _) | exact trivial | omega | rfl | skip
theorem vcRAllK : ∀ (x : P18), x.ok → Held (fnX (cx_rAll18 x) (bodyOf Try.f56) Try.f56.results.toList (C_rAll18.args x) (C_rAll18.H x) (endX 2 (C_rAll18.outs x))) := held2 vcRAllE vcRAll
theorem ok_rAll18 : GenSound Try.prog Λ0 56 (callX C_rAll18 getP) :=
  gen_of (ty := ty) (Γ := ΓOf Γrb) hm tyOK Γrb_ok (fnOK_of Try.func56 (by kernel_rfl) (by kernel_rfl)) Try.func56 (body_some (by kernel_rfl)) C_rAll18 getP Try.ntmps56 (fun _ => Nat.le_of_ble_eq_true rfl) (fun x => (cx_rAll18 x).cut) (fun x => (cx_rAll18 x).loop) fun x h => vcRAllK x h
/-! ### forget -/
def ackM (nx : Int) (n : Nat) (nu : Int) : Int := (nu - (nx - n + 128) % 128 + 128) % 128
def C_rForget18 : Ctr := ⟨2, P18 × Int, fun x => [.ptr 0 0 0 0, .g (.int .i64 x.2)], fun x => x.1.H, fun x => x.1.ok ∧ 0 ≤ x.2 ∧ x.2 < 128, fun x =>
  [.one ((x.1.ds.length : Int) < ackM x.1.r.nx x.1.ds.length x.2) (.g (.bool false)) x.1.H,
   .any Nat (fun c => ¬ (x.1.ds.length : Int) < ackM x.1.r.nx x.1.ds.length x.2 ∧ (x.1.ds.drop (ackM x.1.r.nx x.1.ds.length x.2).toNat).length ≤ c) (fun _ => .g (.bool true)) (fun c => hP x.1.r x.2 (x.1.ds.drop (ackM x.1.r.nx x.1.ds.length x.2).toNat) 2 c)]⟩
def cx_rForget18 (_ : P18 × Int) : Cx := ⟨ty, ΓOf Γrb, fun _ => [], fun _ _ => [], 47, 2⟩
def Rhq0 (x : P18 × Int) := (List.drop (Int.toNat (ackM (R18.nx (P18.r (Prod.fst x))) (List.length (P18.ds (Prod.fst x))) (Prod.snd x))) (P18.ds (Prod.fst x)))
def Rhq1 (x : P18 × Int) := (IntKind.wrap IntKind.i64 (Prod.snd x - R18.nx (P18.r (Prod.fst x))))
def Rhq2 (x : P18 × Int) := (IntKind.wrap IntKind.i64 (Prod.snd x - P18.fi (Prod.fst x)))
def Rhq3 (x : P18 × Int) (y : Nat) := (¬(↑(List.length (P18.ds (Prod.fst x))) : Int) < ackM (R18.nx (P18.r (Prod.fst x))) (List.length (P18.ds (Prod.fst x))) (Prod.snd x) ∧ List.length (Rhq0 x) ≤ y)
def VcRForget : Prop := ∀ (x : P18 × Int), P18.ok (Prod.fst x) ∧ (0 : Int) ≤ Prod.snd x ∧ Prod.snd x < (128 : Int) → condX (decide ((0 : Int) < (↑(List.length (P18.ds (Prod.fst x))) : Int))) ([SV.g (Value.int IntKind.i64 (Rhq2 x)), SV.g
  (Value.int IntKind.i64 (128 : Int))] = [SV.g (Value.int IntKind.i64 (Rhq2 x)), SV.g (Value.int IntKind.i64 (128 : Int))] ∧ (128 : Int) < (9223372036854775808 : Int) ∧ condX (decide ((↑(List.length (P18.ds (Prod.fst x)))
  : Int) < modI (Rhq2 x) (128 : Int))) ((↑(List.length (P18.ds (Prod.fst x))) : Int) < ackM (R18.nx (P18.r (Prod.fst x))) (List.length (P18.ds (Prod.fst x))) (Prod.snd x) ∧ false = false ∧ true = true ∧ R18.ow (P18.r
  (Prod.fst x)) = R18.ow (P18.r (Prod.fst x)) ∧ R18.ot (P18.r (Prod.fst x)) = R18.ot (P18.r (Prod.fst x)) ∧ R18.ti (P18.r (Prod.fst x)) = R18.ti (P18.r (Prod.fst x)) ∧ R18.nx (P18.r (Prod.fst x)) = R18.nx (P18.r (Prod.fst
  x)) ∧ R18.wa (P18.r (Prod.fst x)) = R18.wa (P18.r (Prod.fst x)) ∧ R18.st (P18.r (Prod.fst x)) = R18.st (P18.r (Prod.fst x)) ∧ R18.le (P18.r (Prod.fst x)) = R18.le (P18.r (Prod.fst x)) ∧ P18.fi (Prod.fst x) = P18.fi
  (Prod.fst x) ∧ (0 : Nat) = (0 : Nat) ∧ List.length (P18.ds (Prod.fst x)) = List.length (P18.ds (Prod.fst x)) ∧ P18.ck (Prod.fst x) = P18.ck (Prod.fst x) ∧ List.length (P18.ds (Prod.fst x)) ≤ List.length (P18.ds (Prod.fst
  x)) ∧ List.length (P18.ds (Prod.fst x)) ≤ P18.ck (Prod.fst x) ∧ P18.ck (Prod.fst x) ≤ P18.ck (Prod.fst x) ∧ (∀ (j : Nat), j < List.length (P18.ds (Prod.fst x)) → drow (P18.ds (Prod.fst x)) j = drow (P18.ds (Prod.fst x))
  j ∧ true = true) ∧ True ∨ (∃ (y : Nat), (Rhq3 x y) ∧ false = true ∧ true = true ∧ R18.ow (P18.r (Prod.fst x)) = R18.ow (P18.r (Prod.fst x)) ∧ R18.ot (P18.r (Prod.fst x)) = R18.ot (P18.r (Prod.fst x)) ∧ R18.ti (P18.r
  (Prod.fst x)) = R18.ti (P18.r (Prod.fst x)) ∧ R18.nx (P18.r (Prod.fst x)) = R18.nx (P18.r (Prod.fst x)) ∧ R18.wa (P18.r (Prod.fst x)) = R18.wa (P18.r (Prod.fst x)) ∧ R18.st (P18.r (Prod.fst x)) = R18.st (P18.r (Prod.fst
  x)) ∧ R18.le (P18.r (Prod.fst x)) = R18.le (P18.r (Prod.fst x)) ∧ P18.fi (Prod.fst x) = Prod.snd x ∧ (0 : Nat) = (0 : Nat) ∧ List.length (P18.ds (Prod.fst x)) = List.length (Rhq0 x) ∧ P18.ck (Prod.fst x) = y ∧
  List.length (Rhq0 x) ≤ List.length (P18.ds (Prod.fst x)) ∧ List.length (Rhq0 x) ≤ y ∧ y ≤ P18.ck (Prod.fst x) ∧ (∀ (j : Nat), j < List.length (Rhq0 x) → drow (P18.ds (Prod.fst x)) j = drow (Rhq0 x) j ∧ true = true) ∧
  True) ∨ False) (((0 : Int) ≤ modI (Rhq2 x) (128 : Int) ∧ modI (Rhq2 x) (128 : Int) ≤ (↑(List.length (P18.ds (Prod.fst x))) : Int)) ∧ (if P18.ck (Prod.fst x) = Int.toNat (modI (Rhq2 x) (128 : Int)) then (0 : Nat) else
  Int.toNat (modI (Rhq2 x) (128 : Int))) + (List.length (P18.ds (Prod.fst x)) - Int.toNat (modI (Rhq2 x) (128 : Int))) ≤ List.length (P18.ds (Prod.fst x)) ∧ (∀ (j : Nat), j < List.length (P18.ds (Prod.fst x)) - Int.toNat
  (modI (Rhq2 x) (128 : Int)) → true = true) ∧ (0 : Nat) ≤ (0 : Nat) ∧ (0 : Nat) ≤ (0 : Nat) ∧ ((0 : Nat) + (List.length (P18.ds (Prod.fst x)) - Int.toNat (modI (Rhq2 x) (128 : Int)))) * (16 : Nat) ≤ (140737488355328 :
  Nat) ∧ ∀ (cap : Nat), (0 : Nat) + (List.length (P18.ds (Prod.fst x)) - Int.toNat (modI (Rhq2 x) (128 : Int))) ≤ cap → (↑(List.length (P18.ds (Prod.fst x))) : Int) < ackM (R18.nx (P18.r (Prod.fst x))) (List.length (P18.ds
  (Prod.fst x))) (Prod.snd x) ∧ False ∨ (∃ (y : Nat), (Rhq3 x y) ∧ true = true ∧ true = true ∧ R18.ow (P18.r (Prod.fst x)) = R18.ow (P18.r (Prod.fst x)) ∧ R18.ot (P18.r (Prod.fst x)) = R18.ot (P18.r (Prod.fst x)) ∧ R18.ti
  (P18.r (Prod.fst x)) = R18.ti (P18.r (Prod.fst x)) ∧ R18.nx (P18.r (Prod.fst x)) = R18.nx (P18.r (Prod.fst x)) ∧ R18.wa (P18.r (Prod.fst x)) = R18.wa (P18.r (Prod.fst x)) ∧ R18.st (P18.r (Prod.fst x)) = R18.st (P18.r
  (Prod.fst x)) ∧ R18.le (P18.r (Prod.fst x)) = R18.le (P18.r (Prod.fst x)) ∧ Prod.snd x = Prod.snd x ∧ (0 : Nat) = (0 : Nat) ∧ (0 : Nat) + (List.length (P18.ds (Prod.fst x)) - Int.toNat (modI (Rhq2 x) (128 : Int))) =
  List.length (Rhq0 x) ∧ cap = y ∧ List.length (Rhq0 x) ≤ (0 : Nat) + (List.length (P18.ds (Prod.fst x)) - Int.toNat (modI (Rhq2 x) (128 : Int))) ∧ List.length (Rhq0 x) ≤ y ∧ y ≤ cap ∧ (∀ (j : Nat), j < List.length (Rhq0
  x) → [SV.g (Value.string (List.getD (P18.ds (Prod.fst x)) (addOff (if P18.ck (Prod.fst x) = Int.toNat (modI (Rhq2 x) (128 : Int)) then (0 : Nat) else Int.toNat (modI (Rhq2 x) (128 : Int))) (j - (0 : Nat))) (ByteArray.mk
  #[])))] = drow (Rhq0 x) j ∧ true = true) ∧ True) ∨ False)) ([SV.g (Value.int IntKind.i64 (Rhq1 x)), SV.g (Value.int IntKind.i64 (128 : Int))] = [SV.g (Value.int IntKind.i64 (Rhq1 x)), SV.g (Value.int IntKind.i64 (128 :
  Int))] ∧ (128 : Int) < (9223372036854775808 : Int) ∧ condX (decide ((↑(List.length (P18.ds (Prod.fst x))) : Int) < modI (Rhq1 x) (128 : Int))) ((↑(List.length (P18.ds (Prod.fst x))) : Int) < ackM (R18.nx (P18.r (Prod.fst
  x))) (List.length (P18.ds (Prod.fst x))) (Prod.snd x) ∧ false = false ∧ true = true ∧ R18.ow (P18.r (Prod.fst x)) = R18.ow (P18.r (Prod.fst x)) ∧ R18.ot (P18.r (Prod.fst x)) = R18.ot (P18.r (Prod.fst x)) ∧ R18.ti (P18.r
  (Prod.fst x)) = R18.ti (P18.r (Prod.fst x)) ∧ R18.nx (P18.r (Prod.fst x)) = R18.nx (P18.r (Prod.fst x)) ∧ R18.wa (P18.r (Prod.fst x)) = R18.wa (P18.r (Prod.fst x)) ∧ R18.st (P18.r (Prod.fst x)) = R18.st (P18.r (Prod.fst
  x)) ∧ R18.le (P18.r (Prod.fst x)) = R18.le (P18.r (Prod.fst x)) ∧ P18.fi (Prod.fst x) = P18.fi (Prod.fst x) ∧ (0 : Nat) = (0 : Nat) ∧ List.length (P18.ds (Prod.fst x)) = List.length (P18.ds (Prod.fst x)) ∧ P18.ck
  (Prod.fst x) = P18.ck (Prod.fst x) ∧ List.length (P18.ds (Prod.fst x)) ≤ List.length (P18.ds (Prod.fst x)) ∧ List.length (P18.ds (Prod.fst x)) ≤ P18.ck (Prod.fst x) ∧ P18.ck (Prod.fst x) ≤ P18.ck (Prod.fst x) ∧ (∀ (j :
  Nat), j < List.length (P18.ds (Prod.fst x)) → drow (P18.ds (Prod.fst x)) j = drow (P18.ds (Prod.fst x)) j ∧ true = true) ∧ True ∨ (∃ (y : Nat), (Rhq3 x y) ∧ false = true ∧ true = true ∧ R18.ow (P18.r (Prod.fst x)) =
  R18.ow (P18.r (Prod.fst x)) ∧ R18.ot (P18.r (Prod.fst x)) = R18.ot (P18.r (Prod.fst x)) ∧ R18.ti (P18.r (Prod.fst x)) = R18.ti (P18.r (Prod.fst x)) ∧ R18.nx (P18.r (Prod.fst x)) = R18.nx (P18.r (Prod.fst x)) ∧ R18.wa
  (P18.r (Prod.fst x)) = R18.wa (P18.r (Prod.fst x)) ∧ R18.st (P18.r (Prod.fst x)) = R18.st (P18.r (Prod.fst x)) ∧ R18.le (P18.r (Prod.fst x)) = R18.le (P18.r (Prod.fst x)) ∧ P18.fi (Prod.fst x) = Prod.snd x ∧ (0 : Nat) =
  (0 : Nat) ∧ List.length (P18.ds (Prod.fst x)) = List.length (Rhq0 x) ∧ P18.ck (Prod.fst x) = y ∧ List.length (Rhq0 x) ≤ List.length (P18.ds (Prod.fst x)) ∧ List.length (Rhq0 x) ≤ y ∧ y ≤ P18.ck (Prod.fst x) ∧ (∀ (j :
  Nat), j < List.length (Rhq0 x) → drow (P18.ds (Prod.fst x)) j = drow (Rhq0 x) j ∧ true = true) ∧ True) ∨ False) (((0 : Int) ≤ modI (Rhq1 x) (128 : Int) ∧ modI (Rhq1 x) (128 : Int) ≤ (↑(List.length (P18.ds (Prod.fst x)))
  : Int)) ∧ (if P18.ck (Prod.fst x) = Int.toNat (modI (Rhq1 x) (128 : Int)) then (0 : Nat) else Int.toNat (modI (Rhq1 x) (128 : Int))) + (List.length (P18.ds (Prod.fst x)) - Int.toNat (modI (Rhq1 x) (128 : Int))) ≤
  List.length (P18.ds (Prod.fst x)) ∧ (∀ (j : Nat), j < List.length (P18.ds (Prod.fst x)) - Int.toNat (modI (Rhq1 x) (128 : Int)) → true = true) ∧ (0 : Nat) ≤ (0 : Nat) ∧ (0 : Nat) ≤ (0 : Nat) ∧ ((0 : Nat) + (List.length
  (P18.ds (Prod.fst x)) - Int.toNat (modI (Rhq1 x) (128 : Int)))) * (16 : Nat) ≤ (140737488355328 : Nat) ∧ ∀ (cap : Nat), (0 : Nat) + (List.length (P18.ds (Prod.fst x)) - Int.toNat (modI (Rhq1 x) (128 : Int))) ≤ cap →
  (↑(List.length (P18.ds (Prod.fst x))) : Int) < ackM (R18.nx (P18.r (Prod.fst x))) (List.length (P18.ds (Prod.fst x))) (Prod.snd x) ∧ False ∨ (∃ (y : Nat), (Rhq3 x y) ∧ true = true ∧ true = true ∧ R18.ow (P18.r (Prod.fst
  x)) = R18.ow (P18.r (Prod.fst x)) ∧ R18.ot (P18.r (Prod.fst x)) = R18.ot (P18.r (Prod.fst x)) ∧ R18.ti (P18.r (Prod.fst x)) = R18.ti (P18.r (Prod.fst x)) ∧ R18.nx (P18.r (Prod.fst x)) = R18.nx (P18.r (Prod.fst x)) ∧
  R18.wa (P18.r (Prod.fst x)) = R18.wa (P18.r (Prod.fst x)) ∧ R18.st (P18.r (Prod.fst x)) = R18.st (P18.r (Prod.fst x)) ∧ R18.le (P18.r (Prod.fst x)) = R18.le (P18.r (Prod.fst x)) ∧ Prod.snd x = Prod.snd x ∧ (0 : Nat) = (0
  : Nat) ∧ (0 : Nat) + (List.length (P18.ds (Prod.fst x)) - Int.toNat (modI (Rhq1 x) (128 : Int))) = List.length (Rhq0 x) ∧ cap = y ∧ List.length (Rhq0 x) ≤ (0 : Nat) + (List.length (P18.ds (Prod.fst x)) - Int.toNat (modI
  (Rhq1 x) (128 : Int))) ∧ List.length (Rhq0 x) ≤ y ∧ y ≤ cap ∧ (∀ (j : Nat), j < List.length (Rhq0 x) → [SV.g (Value.string (List.getD (P18.ds (Prod.fst x)) (addOff (if P18.ck (Prod.fst x) = Int.toNat (modI (Rhq1 x) (128
  : Int)) then (0 : Nat) else Int.toNat (modI (Rhq1 x) (128 : Int))) (j - (0 : Nat))) (ByteArray.mk #[])))] = drow (Rhq0 x) j ∧ true = true) ∧ True) ∨ False))
theorem vcRForgetE : VcRForget = (∀ (x : P18 × Int), (x.1.ok ∧ 0 ≤ x.2 ∧ x.2 < 128) → fnX (cx_rForget18 x) (bodyOf Try.f55) Try.f55.results.toList (C_rForget18.args x) (C_rForget18.H x) (endX 2 (C_rForget18.outs x))) := by kernel_rfl
set_option maxHeartbeats 4000000 in
theorem vcRForget : VcRForget := by
  unfold VcRForget Rhq3 Rhq2 Rhq1 Rhq0
  rintro ⟨⟨r, fi, ds, ck⟩, nu⟩ ⟨⟨h1, h2, h3, h4, h5⟩, h6, h7⟩
  have h1 : ds.length ≤ ck := h1
  have h2 : ds.length ≤ 60 := h2
  have h3 : r.ok := h3
  have h4 : ds ≠ [] → fi = kN r.nx ds.length 0 := h4
  have h6 : 0 ≤ nu := h6
  have h7 : nu < 128 := h7
  simp only [eq_self, true_and, and_true, Nat.le_refl, Int.le_refl, implies_true, forall_const, and_false, false_and, exists_false, false_or, or_false, true_implies, Nat.zero_add, and_self, Int.toNat_natCast, cond_true, cond_false, condT, condF]
  have n1 := h3.nx
  have hne : (0 < ds.length) → fi = (r.nx - ds.length + 0 + 128) % 128 := fun h => h4 (by intro e; subst e; simp at h)
  obtain ⟨k, hk⟩ : ∃ k : Nat, ackM r.nx ds.length nu = k := ⟨(ackM r.nx ds.length nu).toNat, by unfold ackM; omega⟩
  have hM : ∀ o : Int, 0 ≤ o → o < 128 → (nu - o) % 128 = ackM r.nx ds.length nu → modI (IntKind.i64.wrap (nu - o)) 128 = k := fun o h h' e => by
    rw [wrap1 (by omega) (by omega), modI, if_neg (by decide), e, hk]
  have hd : (ds.drop k).length = ds.length - k := List.length_drop
  have hrow : ∀ c0 j : Nat, j < ds.length - k → c0 = k → [SV.g (Value.string (ds.getD (addOff c0 (j - 0)) ⟨#[]⟩))] = drow (ds.drop k) j := fun c0 j hj h => by
    subst h
    rw [addOff_eq, drow]; simp only [List.getD_eq_getElem?_getD, List.getElem?_drop, Nat.sub_zero]
  refine (condX_iff _ _ _).2 ⟨fun c => ?_, fun c => ?_⟩
  · have c := of_decide_eq_true c
    have hf := hne (by omega)
    rw [hM fi (by omega) (by omega) (by unfold ackM; omega), hk]
    simp only [Int.toNat_natCast, hd]
    refine ⟨by decide, (condX_iff _ _ _).2 ⟨fun c2 => Or.inl ⟨of_decide_eq_true c2, h1⟩, fun c2 => ?_⟩⟩
    have c2 := of_decide_eq_false c2
    refine ⟨⟨by omega, by omega⟩, by split <;> omega, by omega, fun cap hcap => ⟨cap, ⟨c2, hcap⟩, ?_⟩⟩
    and_intros <;> first | with_reducible rfl | assumption | exact Nat.le_refl _ | exact Nat.zero_le _ | exact fun j hj => trivial | exact fun j hj => rfl | exact fun j hj => absurd hj (Nat.not_lt_zero _) | exact trivial | omega | rfl | skip
    all_goals
      intro j hj
      by_cases hc : ck = k
      · omega
      · exact hrow _ j hj (by rw [if_neg hc])
  · have c := of_decide_eq_false c
    rw [hM r.nx (by omega) (by omega) (by unfold ackM; omega), hk]
    simp only [Int.toNat_natCast, hd]
    refine ⟨by decide, (condX_iff _ _ _).2 ⟨fun c2 => Or.inl ⟨of_decide_eq_true c2, h1⟩, fun c2 => ?_⟩⟩
    have c2 := of_decide_eq_false c2
    refine ⟨⟨by omega, by omega⟩, by split <;> omega, by omega, fun cap hcap => ⟨cap, ⟨c2, hcap⟩, ?_⟩⟩
    and_intros <;> first | with_reducible rfl | assumption | exact Nat.le_refl _ | exact Nat.zero_le _ | exact fun j hj => trivial | exact fun j hj => rfl | exact fun j hj => absurd hj (Nat.not_lt_zero _) | exact trivial | omega | rfl | skip
    all_goals
      intro j hj
      by_cases hc : ck = k
      · omega
      · exact hrow _ j hj (by rw [if_neg hc])
theorem vcRForgetK : ∀ (x : P18 × Int), (x.1.ok ∧ 0 ≤ x.2 ∧ x.2 < 128) → Held (fnX (cx_rForget18 x) (bodyOf Try.f55) Try.f55.results.toList (C_rForget18.args x) (C_rForget18.H x) (endX 2 (C_rForget18.outs x))) := held2 vcRForgetE vcRForget
def getPI (a : List SV) (H : Heap) : Option (P18 × Int) := match a, getP a H with
  | [_, .g (.int .i64 n)], some x => some (x, n)
  | _, _ => none
theorem ok_rForget18 : GenSound Try.prog Λ0 55 (callX C_rForget18 getPI) :=
  gen_of (ty := ty) (Γ := ΓOf Γrb) hm tyOK Γrb_ok (fnOK_of Try.func55 (by kernel_rfl) (by kernel_rfl)) Try.func55 (body_some (by kernel_rfl)) C_rForget18 getPI Try.ntmps55 (fun _ => Nat.le_of_ble_eq_true rfl) (fun x => (cx_rForget18 x).cut) (fun x => (cx_rForget18 x).loop) fun x h => vcRForgetK x h
/-! ### reset -/
theorem row1 (e : Ev) (j : Nat) (hj : j < [e].length) : List.take 6 (List.drop (j * 6) e.cells) = erow [e] j := by
  have : j = 0 := by simp at hj; omega
  subst this; rfl
def hME (r : R18) (fi : Int) (n c : Nat) (es : List Ev) (ca : Nat) : Heap := [(0, .cells (r.qcells fi (.sl 1 0 1 n c)) 73), (2, .view 6 es.length ca (erow es) 31)]
def C_rReset18 : Ctr := ⟨2, M18, fun _ => [.ptr 0 0 0 0], fun x => x.H, fun _ => True, fun x => [.any Nat (fun c => (rstE x.r []).length ≤ c) (fun c => .sl 2 0 6 (rstE x.r []).length c) (fun c => hME (rstR x.r) x.fi x.n x.c (rstE x.r []) c)]⟩
def cx_rReset18 (_ : M18) : Cx := ⟨ty, ΓOf Γrb, fun _ => [], fun _ _ => [], 29, 2⟩
def VcRReset : Prop := ∀ (x : M18), True → condX (R18.st (M18.r x) == (0 : Int)) (condX (R18.st (M18.r x) == (0 : Int)) ([SV.agg [SV.g (Value.int IntKind.i64 (7 : Int)), SV.g (Value.int IntKind.i64 (R18.ot (M18.r x))), SV.g (Value.int
  IntKind.i64 (0 : Int)), SV.g (Value.int IntKind.i64 (0 : Int)), SV.g (Value.int IntKind.i64 (0 : Int)), SV.g (Value.int IntKind.i64 (R18.wa (M18.r x))), SV.g (Value.int IntKind.i64 (0 : Int)), SV.g (Value.int IntKind.i64
  (0 : Int)), SV.g (Value.bool false), SV.g (Value.string (ByteArray.mk #[]))]] = [SV.agg (U.cells (U.mk (7 : Int) (R18.ot (M18.r x)) (0 : Int) (0 : Int) (0 : Int) (R18.wa (M18.r x)) (0 : Int) (0 : Int) false (ByteArray.mk
  #[])))] ∧ True ∧ ((∃ (y : Nat), List.length (rstE (M18.r x) []) ≤ y ∧ (0 : Nat) = (0 : Nat) ∧ (1 : Nat) = List.length (rstE (M18.r x) []) ∧ (1 : Nat) = y ∧ true = true ∧ R18.ow (M18.r x) = R18.ow (rstR (M18.r x)) ∧
  R18.ot (M18.r x) = R18.ot (rstR (M18.r x)) ∧ R18.ti (M18.r x) = R18.ti (rstR (M18.r x)) ∧ R18.nx (M18.r x) = R18.nx (rstR (M18.r x)) ∧ R18.wa (M18.r x) = R18.wa (rstR (M18.r x)) ∧ (1 : Int) = R18.st (rstR (M18.r x)) ∧
  R18.le (M18.r x) = R18.le (rstR (M18.r x)) ∧ M18.fi x = M18.fi x ∧ (0 : Nat) = (0 : Nat) ∧ M18.n x = M18.n x ∧ M18.c x = M18.c x ∧ List.length (rstE (M18.r x) []) ≤ (1 : Nat) ∧ List.length (rstE (M18.r x) []) ≤ y ∧ y ≤
  (1 : Nat) ∧ (∀ (j : Nat), j < List.length (rstE (M18.r x) []) → List.take (6 : Nat) (List.drop (j * (6 : Nat)) [SV.g (Value.int IntKind.i64 (1 : Int)), SV.g (Value.int IntKind.i64 (0 : Int)), SV.g (Value.int IntKind.i64
  (0 : Int)), SV.g (Value.int IntKind.i64 (0 : Int)), SV.g (Value.int IntKind.i64 (0 : Int)), SV.g (Value.string (wrS (U.mk (7 : Int) (R18.ot (M18.r x)) (0 : Int) (0 : Int) (0 : Int) (R18.wa (M18.r x)) (0 : Int) (0 : Int)
  false (ByteArray.mk #[])) false))]) = erow (rstE (M18.r x) []) j ∧ true = true) ∧ True) ∨ False)) (condX (R18.st (M18.r x) == (2 : Int)) ((0 : Nat) = (0 : Nat) ∧ true = true ∧ R18.ow (M18.r x) = R18.ow (M18.r x) ∧ R18.ot
  (M18.r x) = R18.ot (M18.r x) ∧ R18.ti (M18.r x) = R18.ti (M18.r x) ∧ R18.nx (M18.r x) = R18.nx (M18.r x) ∧ R18.wa (M18.r x) = R18.wa (M18.r x) ∧ R18.st (M18.r x) = R18.st (M18.r x) ∧ R18.le (M18.r x) = R18.le (M18.r x) ∧
  M18.fi x = M18.fi x ∧ (0 : Nat) = (0 : Nat) ∧ M18.n x = M18.n x ∧ M18.c x = M18.c x ∧ True ∧ (True → (∃ (y : Nat), List.length (rstE (M18.r x) []) ≤ y ∧ (0 : Nat) = (0 : Nat) ∧ (1 : Nat) = List.length (rstE (M18.r x) [])
  ∧ (1 : Nat) = y ∧ true = true ∧ R18.ow (M18.r x) = R18.ow (rstR (M18.r x)) ∧ R18.ot (M18.r x) = R18.ot (rstR (M18.r x)) ∧ R18.ti (M18.r x) = R18.ti (rstR (M18.r x)) ∧ R18.nx (M18.r x) = R18.nx (rstR (M18.r x)) ∧ R18.wa
  (M18.r x) = R18.wa (rstR (M18.r x)) ∧ R18.st (M18.r x) = R18.st (rstR (M18.r x)) ∧ R18.le (M18.r x) = R18.le (rstR (M18.r x)) ∧ M18.fi x = M18.fi x ∧ (0 : Nat) = (0 : Nat) ∧ M18.n x = M18.n x ∧ M18.c x = M18.c x ∧
  List.length (rstE (M18.r x) []) ≤ (1 : Nat) ∧ List.length (rstE (M18.r x) []) ≤ y ∧ y ≤ (1 : Nat) ∧ (∀ (j : Nat), j < List.length (rstE (M18.r x) []) → List.take (6 : Nat) (List.drop (j * (6 : Nat)) [SV.g (Value.int
  IntKind.i64 (1 : Int)), SV.g (Value.int IntKind.i64 (0 : Int)), SV.g (Value.int IntKind.i64 (0 : Int)), SV.g (Value.int IntKind.i64 (0 : Int)), SV.g (Value.int IntKind.i64 (0 : Int)), SV.g (Value.string (wrS (U.mk (3 :
  Int) (R18.ot (M18.r x)) (R18.ow (M18.r x)) (0 : Int) (0 : Int) (0 : Int) (0 : Int) (0 : Int) false (ByteArray.mk #[])) false))]) = erow (rstE (M18.r x) []) j ∧ true = true) ∧ True) ∨ False)) ((∃ (y : Nat), List.length
  (rstE (M18.r x) []) ≤ y ∧ List.length (rstE (M18.r x) []) = (0 : Nat) ∧ y = (0 : Nat) ∧ true = true ∧ R18.ow (M18.r x) = R18.ow (rstR (M18.r x)) ∧ R18.ot (M18.r x) = R18.ot (rstR (M18.r x)) ∧ R18.ti (M18.r x) = R18.ti
  (rstR (M18.r x)) ∧ R18.nx (M18.r x) = R18.nx (rstR (M18.r x)) ∧ R18.wa (M18.r x) = R18.wa (rstR (M18.r x)) ∧ R18.st (M18.r x) = R18.st (rstR (M18.r x)) ∧ R18.le (M18.r x) = R18.le (rstR (M18.r x)) ∧ M18.fi x = M18.fi x ∧
  (0 : Nat) = (0 : Nat) ∧ M18.n x = M18.n x ∧ M18.c x = M18.c x ∧ List.length (rstE (M18.r x) []) = (0 : Nat) ∧ True) ∨ False))) (condX (R18.st (M18.r x) == (1 : Int)) ([SV.agg [SV.g (Value.int IntKind.i64 (7 : Int)), SV.g
  (Value.int IntKind.i64 (R18.ot (M18.r x))), SV.g (Value.int IntKind.i64 (0 : Int)), SV.g (Value.int IntKind.i64 (0 : Int)), SV.g (Value.int IntKind.i64 (0 : Int)), SV.g (Value.int IntKind.i64 (R18.wa (M18.r x))), SV.g
  (Value.int IntKind.i64 (0 : Int)), SV.g (Value.int IntKind.i64 (0 : Int)), SV.g (Value.bool false), SV.g (Value.string (ByteArray.mk #[]))]] = [SV.agg (U.cells (U.mk (7 : Int) (R18.ot (M18.r x)) (0 : Int) (0 : Int) (0 :
  Int) (R18.wa (M18.r x)) (0 : Int) (0 : Int) false (ByteArray.mk #[])))] ∧ True ∧ ((∃ (y : Nat), List.length (rstE (M18.r x) []) ≤ y ∧ (0 : Nat) = (0 : Nat) ∧ (1 : Nat) = List.length (rstE (M18.r x) []) ∧ (1 : Nat) = y ∧
  true = true ∧ R18.ow (M18.r x) = R18.ow (rstR (M18.r x)) ∧ R18.ot (M18.r x) = R18.ot (rstR (M18.r x)) ∧ R18.ti (M18.r x) = R18.ti (rstR (M18.r x)) ∧ R18.nx (M18.r x) = R18.nx (rstR (M18.r x)) ∧ R18.wa (M18.r x) = R18.wa
  (rstR (M18.r x)) ∧ (1 : Int) = R18.st (rstR (M18.r x)) ∧ R18.le (M18.r x) = R18.le (rstR (M18.r x)) ∧ M18.fi x = M18.fi x ∧ (0 : Nat) = (0 : Nat) ∧ M18.n x = M18.n x ∧ M18.c x = M18.c x ∧ List.length (rstE (M18.r x) [])
  ≤ (1 : Nat) ∧ List.length (rstE (M18.r x) []) ≤ y ∧ y ≤ (1 : Nat) ∧ (∀ (j : Nat), j < List.length (rstE (M18.r x) []) → List.take (6 : Nat) (List.drop (j * (6 : Nat)) [SV.g (Value.int IntKind.i64 (1 : Int)), SV.g
  (Value.int IntKind.i64 (0 : Int)), SV.g (Value.int IntKind.i64 (0 : Int)), SV.g (Value.int IntKind.i64 (0 : Int)), SV.g (Value.int IntKind.i64 (0 : Int)), SV.g (Value.string (wrS (U.mk (7 : Int) (R18.ot (M18.r x)) (0 :
  Int) (0 : Int) (0 : Int) (R18.wa (M18.r x)) (0 : Int) (0 : Int) false (ByteArray.mk #[])) false))]) = erow (rstE (M18.r x) []) j ∧ true = true) ∧ True) ∨ False)) (condX (R18.st (M18.r x) == (2 : Int)) ((0 : Nat) = (0 :
  Nat) ∧ true = true ∧ R18.ow (M18.r x) = R18.ow (M18.r x) ∧ R18.ot (M18.r x) = R18.ot (M18.r x) ∧ R18.ti (M18.r x) = R18.ti (M18.r x) ∧ R18.nx (M18.r x) = R18.nx (M18.r x) ∧ R18.wa (M18.r x) = R18.wa (M18.r x) ∧ R18.st
  (M18.r x) = R18.st (M18.r x) ∧ R18.le (M18.r x) = R18.le (M18.r x) ∧ M18.fi x = M18.fi x ∧ (0 : Nat) = (0 : Nat) ∧ M18.n x = M18.n x ∧ M18.c x = M18.c x ∧ True ∧ (True → (∃ (y : Nat), List.length (rstE (M18.r x) []) ≤ y
  ∧ (0 : Nat) = (0 : Nat) ∧ (1 : Nat) = List.length (rstE (M18.r x) []) ∧ (1 : Nat) = y ∧ true = true ∧ R18.ow (M18.r x) = R18.ow (rstR (M18.r x)) ∧ R18.ot (M18.r x) = R18.ot (rstR (M18.r x)) ∧ R18.ti (M18.r x) = R18.ti
  (rstR (M18.r x)) ∧ R18.nx (M18.r x) = R18.nx (rstR (M18.r x)) ∧ R18.wa (M18.r x) = R18.wa (rstR (M18.r x)) ∧ R18.st (M18.r x) = R18.st (rstR (M18.r x)) ∧ R18.le (M18.r x) = R18.le (rstR (M18.r x)) ∧ M18.fi x = M18.fi x ∧
  (0 : Nat) = (0 : Nat) ∧ M18.n x = M18.n x ∧ M18.c x = M18.c x ∧ List.length (rstE (M18.r x) []) ≤ (1 : Nat) ∧ List.length (rstE (M18.r x) []) ≤ y ∧ y ≤ (1 : Nat) ∧ (∀ (j : Nat), j < List.length (rstE (M18.r x) []) →
  List.take (6 : Nat) (List.drop (j * (6 : Nat)) [SV.g (Value.int IntKind.i64 (1 : Int)), SV.g (Value.int IntKind.i64 (0 : Int)), SV.g (Value.int IntKind.i64 (0 : Int)), SV.g (Value.int IntKind.i64 (0 : Int)), SV.g
  (Value.int IntKind.i64 (0 : Int)), SV.g (Value.string (wrS (U.mk (3 : Int) (R18.ot (M18.r x)) (R18.ow (M18.r x)) (0 : Int) (0 : Int) (0 : Int) (0 : Int) (0 : Int) false (ByteArray.mk #[])) false))]) = erow (rstE (M18.r
  x) []) j ∧ true = true) ∧ True) ∨ False)) ((∃ (y : Nat), List.length (rstE (M18.r x) []) ≤ y ∧ List.length (rstE (M18.r x) []) = (0 : Nat) ∧ y = (0 : Nat) ∧ true = true ∧ R18.ow (M18.r x) = R18.ow (rstR (M18.r x)) ∧
  R18.ot (M18.r x) = R18.ot (rstR (M18.r x)) ∧ R18.ti (M18.r x) = R18.ti (rstR (M18.r x)) ∧ R18.nx (M18.r x) = R18.nx (rstR (M18.r x)) ∧ R18.wa (M18.r x) = R18.wa (rstR (M18.r x)) ∧ R18.st (M18.r x) = R18.st (rstR (M18.r
  x)) ∧ R18.le (M18.r x) = R18.le (rstR (M18.r x)) ∧ M18.fi x = M18.fi x ∧ (0 : Nat) = (0 : Nat) ∧ M18.n x = M18.n x ∧ M18.c x = M18.c x ∧ List.length (rstE (M18.r x) []) = (0 : Nat) ∧ True) ∨ False)))
theorem vcRResetE : VcRReset = (∀ (x : M18), True → fnX (cx_rReset18 x) (bodyOf Try.f34) Try.f34.results.toList (C_rReset18.args x) (C_rReset18.H x) (endX 2 (C_rReset18.outs x))) := by kernel_rfl
set_option maxHeartbeats 4000000 in
theorem vcRReset : VcRReset := by
  rintro ⟨r, fi, n, c⟩ _
  simp only [eq_self, true_and, and_true, Nat.le_refl, Int.le_refl, implies_true, forall_const, and_false, false_and, exists_false, false_or, or_false, true_implies, Nat.zero_add, and_self, Int.toNat_natCast, cond_true, cond_false, condT, condF]
  have hs : r.st = 0 ∨ r.st = 1 → rstR r = ⟨r.nx, r.wa, r.ow, r.ot, r.ti, 1, r.le⟩ ∧ rstE r [] = [downE ⟨7, r.ot, 0, 0, 0, r.wa, 0, 0, false, ⟨#[]⟩⟩] := fun h => by
    constructor
    · rw [rstR, if_pos h]
    · rw [rstE, if_pos h]; rfl
  have hs2 : ¬ (r.st = 0 ∨ r.st = 1) → rstR r = r := fun h => by rw [rstR, if_neg h]
  refine (condX_iff _ _ _).2 ⟨fun c => ?_, fun c => ?_⟩
  · have c0 : r.st = 0 := by simpa using c
    obtain ⟨e1, e2⟩ := hs (Or.inl c0)
    rw [e1, e2]
    refine (condX_iff _ _ _).2 ⟨fun _ => ⟨rfl, 1, ?_⟩, fun d => ?_⟩
    · dsimp only [List.length_cons, List.length_nil]
      and_intros <;> first | exact row1 (downE ⟨7, r.ot, 0, 0, 0, r.wa, 0, 0, false, ⟨#[]⟩⟩) | with_reducible rfl | assumption | exact Nat.le_refl _ | exact Nat.zero_le _ | exact fun j hj => trivial | exact fun j hj => rfl | exact fun j hj => absurd hj (Nat.not_lt_zero _) | exact trivial | omega | rfl | skip
    · simp [c0] at d
  have c0 : ¬ r.st = 0 := by simpa using c
  refine (condX_iff _ _ _).2 ⟨fun c => ?_, fun c => ?_⟩
  · have c1 : r.st = 1 := by simpa using c
    obtain ⟨e1, e2⟩ := hs (Or.inr c1)
    rw [e1, e2]
    refine ⟨rfl, 1, ?_⟩
    dsimp only [List.length_cons, List.length_nil]
    and_intros <;> first | exact row1 (downE ⟨7, r.ot, 0, 0, 0, r.wa, 0, 0, false, ⟨#[]⟩⟩) | with_reducible rfl | assumption | exact Nat.le_refl _ | exact Nat.zero_le _ | exact fun j hj => trivial | exact fun j hj => rfl | exact fun j hj => absurd hj (Nat.not_lt_zero _) | exact trivial | omega | rfl | skip
  have c1 : ¬ r.st = 1 := by simpa using c
  have e1 := hs2 (by omega)
  rw [e1]
  refine (condX_iff _ _ _).2 ⟨fun c => ?_, fun c => ?_⟩
  · have c2 : r.st = 2 := by simpa using c
    have e2 : rstE r [] = [downE ⟨3, r.ot, r.ow, 0, 0, 0, 0, 0, false, ⟨#[]⟩⟩] := by rw [rstE, if_neg (by omega), if_pos c2]; rfl
    rw [e2]
    refine ⟨1, ?_⟩
    dsimp only [List.length_cons, List.length_nil]
    and_intros <;> first | exact row1 (downE ⟨3, r.ot, r.ow, 0, 0, 0, 0, 0, false, ⟨#[]⟩⟩) | with_reducible rfl | assumption | exact Nat.le_refl _ | exact Nat.zero_le _ | exact fun j hj => trivial | exact fun j hj => rfl | exact fun j hj => absurd hj (Nat.not_lt_zero _) | exact trivial | omega | rfl | skip
  · have c2 : ¬ r.st = 2 := by simpa using c
    have e2 : rstE r [] = [] := by rw [rstE, if_neg (by omega), if_neg c2]
    rw [e2]
    refine ⟨0, ?_⟩
    dsimp only [List.length_cons, List.length_nil]
    and_intros <;> first | with_reducible rfl | assumption | exact Nat.le_refl _ | exact Nat.zero_le _ | exact fun j hj => trivial | exact fun j hj => rfl | exact fun j hj => absurd hj (Nat.not_lt_zero _) | exact trivial | omega | rfl | skip
theorem vcRResetK : ∀ (x : M18), True → Held (fnX (cx_rReset18 x) (bodyOf Try.f34) Try.f34.results.toList (C_rReset18.args x) (C_rReset18.H x) (endX 2 (C_rReset18.outs x))) := held2 vcRResetE vcRReset
theorem ok_rReset18 : GenSound Try.prog Λ0 34 (callX C_rReset18 getM) :=
  gen_of (ty := ty) (Γ := ΓOf Γrb) hm tyOK Γrb_ok (fnOK_of Try.func34 (by kernel_rfl) (by kernel_rfl)) Try.func34 (body_some (by kernel_rfl)) C_rReset18 getM Try.ntmps34 (fun _ => Nat.le_of_ble_eq_true rfl) (fun x => (cx_rReset18 x).cut) (fun x => (cx_rReset18 x).loop) fun x h => vcRResetK x h
/-! ### user -/
def us0 (x : P18) : List U := keptU x.r.nx x.ds
def usPre (e : Ev) : Prop := (e.k = 3 ∨ e.k = 4) ∧ (e.k = 3 → e.d.size ≤ 128)
structure outUc (r : R18) (us : List U) (es : List Ev) (y : Int × Nat × Nat) : Prop where
  fi : us ≠ [] → y.1 = kN r.nx us.length 0
  k : us.length ≤ y.2.1
  a : es.length ≤ y.2.2
def outUr (err : Int) (es : List Ev) (y : Int × Nat × Nat) : SV := .tup [.sl 3 0 6 es.length y.2.2, .g (.int .i64 err)]
def outUH (r : R18) (us : List U) (es : List Ev) (y : Int × Nat × Nat) : Heap := hPE r y.1 (us.map U.d) 2 y.2.1 es y.2.2
def C_rUser18 : Ctr := ⟨2, P18 × Ev, fun x => [.ptr 0 0 0 0, .agg x.2.cells], fun x => x.1.H, fun x => x.1.ok ∧ usPre x.2, fun x =>
  [.any (Int × Nat × Nat) (outUc (usR x.1.r (us0 x.1) x.2) (usU x.1.r (us0 x.1) x.2) (usA x.1.r (us0 x.1) [] x.2)) (outUr (usE x.1.r (us0 x.1) x.2) (usA x.1.r (us0 x.1) [] x.2)) (outUH (usR x.1.r (us0 x.1) x.2) (usU x.1.r (us0 x.1) x.2) (usA x.1.r (us0 x.1) [] x.2))]⟩
def cx_rUser18 (_ : P18 × Ev) : Cx := ⟨ty, ΓOf Γrb, fun _ => [], fun _ _ => [], 87, 2⟩
def Rhq4 (x : P18 × Ev) (cap : Nat) := ((0 : Nat) = (0 : Nat) ∧ R18.nx (P18.r (Prod.fst x)) = R18.nx (P18.r (Prod.fst x)) ∧ Ev.d (Prod.snd x) = Ev.d (Prod.snd x) ∧ true = true ∧ R18.ow (P18.r (Prod.fst x)) = R18.ow (P18.r (Prod.fst x)) ∧ R18.ot (P18.r
  (Prod.fst x)) = R18.ot (P18.r (Prod.fst x)) ∧ R18.ti (P18.r (Prod.fst x)) = R18.ti (P18.r (Prod.fst x)) ∧ Int.tmod (IntKind.wrap IntKind.i64 (R18.nx (P18.r (Prod.fst x)) + (1 : Int))) (128 : Int) = Int.tmod (IntKind.wrap
  IntKind.i64 (R18.nx (P18.r (Prod.fst x)) + (1 : Int))) (128 : Int) ∧ R18.wa (P18.r (Prod.fst x)) = R18.wa (P18.r (Prod.fst x)) ∧ R18.st (P18.r (Prod.fst x)) = R18.st (P18.r (Prod.fst x)) ∧ R18.le (P18.r (Prod.fst x)) =
  R18.le (P18.r (Prod.fst x)) ∧ R18.nx (P18.r (Prod.fst x)) = R18.nx (P18.r (Prod.fst x)) ∧ (0 : Nat) = (0 : Nat) ∧ (0 : Nat) + List.length (P18.ds (Prod.fst x)) + (1 : Nat) = (0 : Nat) + List.length (P18.ds (Prod.fst x))
  + (1 : Nat) ∧ cap = cap ∧ True ∧ (True → (∃ (y : Int × Nat × Nat), outUc (usR (P18.r (Prod.fst x)) (us0 (Prod.fst x)) (Prod.snd x)) (usU (P18.r (Prod.fst x)) (us0 (Prod.fst x)) (Prod.snd x)) (usA (P18.r (Prod.fst x))
  (us0 (Prod.fst x)) [] (Prod.snd x)) y ∧ (0 : Nat) = (0 : Nat) ∧ (1 : Nat) = List.length (usA (P18.r (Prod.fst x)) (us0 (Prod.fst x)) [] (Prod.snd x)) ∧ (1 : Nat) = Prod.snd (Prod.snd y) ∧ (0 : Int) = usE (P18.r (Prod.fst
  x)) (us0 (Prod.fst x)) (Prod.snd x) ∧ true = true ∧ R18.ow (P18.r (Prod.fst x)) = R18.ow (usR (P18.r (Prod.fst x)) (us0 (Prod.fst x)) (Prod.snd x)) ∧ R18.ot (P18.r (Prod.fst x)) = R18.ot (usR (P18.r (Prod.fst x)) (us0
  (Prod.fst x)) (Prod.snd x)) ∧ R18.ti (P18.r (Prod.fst x)) = R18.ti (usR (P18.r (Prod.fst x)) (us0 (Prod.fst x)) (Prod.snd x)) ∧ Int.tmod (IntKind.wrap IntKind.i64 (R18.nx (P18.r (Prod.fst x)) + (1 : Int))) (128 : Int) =
  R18.nx (usR (P18.r (Prod.fst x)) (us0 (Prod.fst x)) (Prod.snd x)) ∧ R18.wa (P18.r (Prod.fst x)) = R18.wa (usR (P18.r (Prod.fst x)) (us0 (Prod.fst x)) (Prod.snd x)) ∧ R18.st (P18.r (Prod.fst x)) = R18.st (usR (P18.r
  (Prod.fst x)) (us0 (Prod.fst x)) (Prod.snd x)) ∧ R18.le (P18.r (Prod.fst x)) = R18.le (usR (P18.r (Prod.fst x)) (us0 (Prod.fst x)) (Prod.snd x)) ∧ R18.nx (P18.r (Prod.fst x)) = Prod.fst y ∧ (0 : Nat) = (0 : Nat) ∧ (0 :
  Nat) + List.length (P18.ds (Prod.fst x)) + (1 : Nat) = List.length (List.map U.d (usU (P18.r (Prod.fst x)) (us0 (Prod.fst x)) (Prod.snd x))) ∧ cap = Prod.fst (Prod.snd y) ∧ List.length (List.map U.d (usU (P18.r (Prod.fst
  x)) (us0 (Prod.fst x)) (Prod.snd x))) ≤ (0 : Nat) + List.length (P18.ds (Prod.fst x)) + (1 : Nat) ∧ List.length (List.map U.d (usU (P18.r (Prod.fst x)) (us0 (Prod.fst x)) (Prod.snd x))) ≤ Prod.fst (Prod.snd y) ∧ Prod.fst
  (Prod.snd y) ≤ cap ∧ (∀ (j : Nat), j < List.length (List.map U.d (usU (P18.r (Prod.fst x)) (us0 (Prod.fst x)) (Prod.snd x))) → appRows (0 : Nat) (0 : Nat) ((0 : Nat) + List.length (P18.ds (Prod.fst x))) (appRows (0 :
  Nat) (0 : Nat) (0 : Nat) (fun (i : Nat) => [SV.g (Value.string (List.getD [] i ByteArray.empty))]) fun (j : Nat) => drow (P18.ds (Prod.fst x)) j) (fun (j : Nat) => [SV.g (Value.string (List.getD [Ev.d (Prod.snd x)] j
  ByteArray.empty))]) j = drow (List.map U.d (usU (P18.r (Prod.fst x)) (us0 (Prod.fst x)) (Prod.snd x))) j ∧ true = true) ∧ List.length (usA (P18.r (Prod.fst x)) (us0 (Prod.fst x)) [] (Prod.snd x)) ≤ (1 : Nat) ∧
  List.length (usA (P18.r (Prod.fst x)) (us0 (Prod.fst x)) [] (Prod.snd x)) ≤ Prod.snd (Prod.snd y) ∧ Prod.snd (Prod.snd y) ≤ (1 : Nat) ∧ (∀ (j : Nat), j < List.length (usA (P18.r (Prod.fst x)) (us0 (Prod.fst x)) []
  (Prod.snd x)) → List.take (6 : Nat) (List.drop (j * (6 : Nat)) [SV.g (Value.int IntKind.i64 (1 : Int)), SV.g (Value.int IntKind.i64 (0 : Int)), SV.g (Value.int IntKind.i64 (0 : Int)), SV.g (Value.int IntKind.i64 (0 :
  Int)), SV.g (Value.int IntKind.i64 (0 : Int)), SV.g (Value.string (wrS (U.mk (5 : Int) (R18.ot (P18.r (Prod.fst x))) (0 : Int) (0 : Int) (0 : Int) (R18.nx (P18.r (Prod.fst x))) (0 : Int) (0 : Int) true (Ev.d (Prod.snd
  x))) false))]) = erow (usA (P18.r (Prod.fst x)) (us0 (Prod.fst x)) [] (Prod.snd x)) j ∧ true = true) ∧ True) ∨ False))
def Rhq5 (x : P18 × Ev) (cap : Nat) := ((0 : Nat) = (0 : Nat) ∧ R18.nx (P18.r (Prod.fst x)) = R18.nx (P18.r (Prod.fst x)) ∧ Ev.d (Prod.snd x) = Ev.d (Prod.snd x) ∧ true = true ∧ R18.ow (P18.r (Prod.fst x)) = R18.ow (P18.r (Prod.fst x)) ∧ R18.ot (P18.r
  (Prod.fst x)) = R18.ot (P18.r (Prod.fst x)) ∧ R18.ti (P18.r (Prod.fst x)) = R18.ti (P18.r (Prod.fst x)) ∧ Int.tmod (IntKind.wrap IntKind.i64 (R18.nx (P18.r (Prod.fst x)) + (1 : Int))) (128 : Int) = Int.tmod (IntKind.wrap
  IntKind.i64 (R18.nx (P18.r (Prod.fst x)) + (1 : Int))) (128 : Int) ∧ R18.wa (P18.r (Prod.fst x)) = R18.wa (P18.r (Prod.fst x)) ∧ R18.st (P18.r (Prod.fst x)) = R18.st (P18.r (Prod.fst x)) ∧ R18.le (P18.r (Prod.fst x)) =
  R18.le (P18.r (Prod.fst x)) ∧ P18.fi (Prod.fst x) = P18.fi (Prod.fst x) ∧ (0 : Nat) = (0 : Nat) ∧ (0 : Nat) + List.length (P18.ds (Prod.fst x)) + (1 : Nat) = (0 : Nat) + List.length (P18.ds (Prod.fst x)) + (1 : Nat) ∧
  cap = cap ∧ True ∧ (True → (∃ (y : Int × Nat × Nat), outUc (usR (P18.r (Prod.fst x)) (us0 (Prod.fst x)) (Prod.snd x)) (usU (P18.r (Prod.fst x)) (us0 (Prod.fst x)) (Prod.snd x)) (usA (P18.r (Prod.fst x)) (us0 (Prod.fst
  x)) [] (Prod.snd x)) y ∧ (0 : Nat) = (0 : Nat) ∧ (1 : Nat) = List.length (usA (P18.r (Prod.fst x)) (us0 (Prod.fst x)) [] (Prod.snd x)) ∧ (1 : Nat) = Prod.snd (Prod.snd y) ∧ (0 : Int) = usE (P18.r (Prod.fst x)) (us0
  (Prod.fst x)) (Prod.snd x) ∧ true = true ∧ R18.ow (P18.r (Prod.fst x)) = R18.ow (usR (P18.r (Prod.fst x)) (us0 (Prod.fst x)) (Prod.snd x)) ∧ R18.ot (P18.r (Prod.fst x)) = R18.ot (usR (P18.r (Prod.fst x)) (us0 (Prod.fst
  x)) (Prod.snd x)) ∧ R18.ti (P18.r (Prod.fst x)) = R18.ti (usR (P18.r (Prod.fst x)) (us0 (Prod.fst x)) (Prod.snd x)) ∧ Int.tmod (IntKind.wrap IntKind.i64 (R18.nx (P18.r (Prod.fst x)) + (1 : Int))) (128 : Int) = R18.nx
  (usR (P18.r (Prod.fst x)) (us0 (Prod.fst x)) (Prod.snd x)) ∧ R18.wa (P18.r (Prod.fst x)) = R18.wa (usR (P18.r (Prod.fst x)) (us0 (Prod.fst x)) (Prod.snd x)) ∧ R18.st (P18.r (Prod.fst x)) = R18.st (usR (P18.r (Prod.fst
  x)) (us0 (Prod.fst x)) (Prod.snd x)) ∧ R18.le (P18.r (Prod.fst x)) = R18.le (usR (P18.r (Prod.fst x)) (us0 (Prod.fst x)) (Prod.snd x)) ∧ P18.fi (Prod.fst x) = Prod.fst y ∧ (0 : Nat) = (0 : Nat) ∧ (0 : Nat) + List.length
  (P18.ds (Prod.fst x)) + (1 : Nat) = List.length (List.map U.d (usU (P18.r (Prod.fst x)) (us0 (Prod.fst x)) (Prod.snd x))) ∧ cap = Prod.fst (Prod.snd y) ∧ List.length (List.map U.d (usU (P18.r (Prod.fst x)) (us0 (Prod.fst
  x)) (Prod.snd x))) ≤ (0 : Nat) + List.length (P18.ds (Prod.fst x)) + (1 : Nat) ∧ List.length (List.map U.d (usU (P18.r (Prod.fst x)) (us0 (Prod.fst x)) (Prod.snd x))) ≤ Prod.fst (Prod.snd y) ∧ Prod.fst (Prod.snd y) ≤ cap
  ∧ (∀ (j : Nat), j < List.length (List.map U.d (usU (P18.r (Prod.fst x)) (us0 (Prod.fst x)) (Prod.snd x))) → appRows (0 : Nat) (0 : Nat) ((0 : Nat) + List.length (P18.ds (Prod.fst x))) (appRows (0 : Nat) (0 : Nat) (0 :
  Nat) (fun (i : Nat) => [SV.g (Value.string (List.getD [] i ByteArray.empty))]) fun (j : Nat) => drow (P18.ds (Prod.fst x)) j) (fun (j : Nat) => [SV.g (Value.string (List.getD [Ev.d (Prod.snd x)] j ByteArray.empty))]) j =
  drow (List.map U.d (usU (P18.r (Prod.fst x)) (us0 (Prod.fst x)) (Prod.snd x))) j ∧ true = true) ∧ List.length (usA (P18.r (Prod.fst x)) (us0 (Prod.fst x)) [] (Prod.snd x)) ≤ (1 : Nat) ∧ List.length (usA (P18.r (Prod.fst
  x)) (us0 (Prod.fst x)) [] (Prod.snd x)) ≤ Prod.snd (Prod.snd y) ∧ Prod.snd (Prod.snd y) ≤ (1 : Nat) ∧ (∀ (j : Nat), j < List.length (usA (P18.r (Prod.fst x)) (us0 (Prod.fst x)) [] (Prod.snd x)) → List.take (6 : Nat)
  (List.drop (j * (6 : Nat)) [SV.g (Value.int IntKind.i64 (1 : Int)), SV.g (Value.int IntKind.i64 (0 : Int)), SV.g (Value.int IntKind.i64 (0 : Int)), SV.g (Value.int IntKind.i64 (0 : Int)), SV.g (Value.int IntKind.i64 (0 :
  Int)), SV.g (Value.string (wrS (U.mk (5 : Int) (R18.ot (P18.r (Prod.fst x))) (0 : Int) (0 : Int) (0 : Int) (R18.nx (P18.r (Prod.fst x))) (0 : Int) (0 : Int) true (Ev.d (Prod.snd x))) false))]) = erow (usA (P18.r
  (Prod.fst x)) (us0 (Prod.fst x)) [] (Prod.snd x)) j ∧ true = true) ∧ True) ∨ False))
def Rhq6 (x : P18 × Ev) (cap : Nat) := ((∃ (y : Int × Nat × Nat), outUc (usR (P18.r (Prod.fst x)) (us0 (Prod.fst x)) (Prod.snd x)) (usU (P18.r (Prod.fst x)) (us0 (Prod.fst x)) (Prod.snd x)) (usA (P18.r (Prod.fst x)) (us0 (Prod.fst x)) [] (Prod.snd x)) y ∧
  List.length (usA (P18.r (Prod.fst x)) (us0 (Prod.fst x)) [] (Prod.snd x)) = (0 : Nat) ∧ Prod.snd (Prod.snd y) = (0 : Nat) ∧ (0 : Int) = usE (P18.r (Prod.fst x)) (us0 (Prod.fst x)) (Prod.snd x) ∧ true = true ∧ R18.ow
  (P18.r (Prod.fst x)) = R18.ow (usR (P18.r (Prod.fst x)) (us0 (Prod.fst x)) (Prod.snd x)) ∧ R18.ot (P18.r (Prod.fst x)) = R18.ot (usR (P18.r (Prod.fst x)) (us0 (Prod.fst x)) (Prod.snd x)) ∧ R18.ti (P18.r (Prod.fst x)) =
  R18.ti (usR (P18.r (Prod.fst x)) (us0 (Prod.fst x)) (Prod.snd x)) ∧ Int.tmod (IntKind.wrap IntKind.i64 (R18.nx (P18.r (Prod.fst x)) + (1 : Int))) (128 : Int) = R18.nx (usR (P18.r (Prod.fst x)) (us0 (Prod.fst x))
  (Prod.snd x)) ∧ R18.wa (P18.r (Prod.fst x)) = R18.wa (usR (P18.r (Prod.fst x)) (us0 (Prod.fst x)) (Prod.snd x)) ∧ R18.st (P18.r (Prod.fst x)) = R18.st (usR (P18.r (Prod.fst x)) (us0 (Prod.fst x)) (Prod.snd x)) ∧ R18.le
  (P18.r (Prod.fst x)) = R18.le (usR (P18.r (Prod.fst x)) (us0 (Prod.fst x)) (Prod.snd x)) ∧ R18.nx (P18.r (Prod.fst x)) = Prod.fst y ∧ (0 : Nat) = (0 : Nat) ∧ (0 : Nat) + List.length (P18.ds (Prod.fst x)) + (1 : Nat) =
  List.length (List.map U.d (usU (P18.r (Prod.fst x)) (us0 (Prod.fst x)) (Prod.snd x))) ∧ cap = Prod.fst (Prod.snd y) ∧ List.length (List.map U.d (usU (P18.r (Prod.fst x)) (us0 (Prod.fst x)) (Prod.snd x))) ≤ (0 : Nat) +
  List.length (P18.ds (Prod.fst x)) + (1 : Nat) ∧ List.length (List.map U.d (usU (P18.r (Prod.fst x)) (us0 (Prod.fst x)) (Prod.snd x))) ≤ Prod.fst (Prod.snd y) ∧ Prod.fst (Prod.snd y) ≤ cap ∧ (∀ (j : Nat), j < List.length
  (List.map U.d (usU (P18.r (Prod.fst x)) (us0 (Prod.fst x)) (Prod.snd x))) → appRows (0 : Nat) (0 : Nat) ((0 : Nat) + List.length (P18.ds (Prod.fst x))) (appRows (0 : Nat) (0 : Nat) (0 : Nat) (fun (i : Nat) => [SV.g
  (Value.string (List.getD [] i ByteArray.empty))]) fun (j : Nat) => drow (P18.ds (Prod.fst x)) j) (fun (j : Nat) => [SV.g (Value.string (List.getD [Ev.d (Prod.snd x)] j ByteArray.empty))]) j = drow (List.map U.d (usU
  (P18.r (Prod.fst x)) (us0 (Prod.fst x)) (Prod.snd x))) j ∧ true = true) ∧ List.length (usA (P18.r (Prod.fst x)) (us0 (Prod.fst x)) [] (Prod.snd x)) = (0 : Nat) ∧ True) ∨ False)
def Rhq7 (x : P18 × Ev) (cap : Nat) := ((∃ (y : Int × Nat × Nat), outUc (usR (P18.r (Prod.fst x)) (us0 (Prod.fst x)) (Prod.snd x)) (usU (P18.r (Prod.fst x)) (us0 (Prod.fst x)) (Prod.snd x)) (usA (P18.r (Prod.fst x)) (us0 (Prod.fst x)) [] (Prod.snd x)) y ∧
  List.length (usA (P18.r (Prod.fst x)) (us0 (Prod.fst x)) [] (Prod.snd x)) = (0 : Nat) ∧ Prod.snd (Prod.snd y) = (0 : Nat) ∧ (0 : Int) = usE (P18.r (Prod.fst x)) (us0 (Prod.fst x)) (Prod.snd x) ∧ true = true ∧ R18.ow
  (P18.r (Prod.fst x)) = R18.ow (usR (P18.r (Prod.fst x)) (us0 (Prod.fst x)) (Prod.snd x)) ∧ R18.ot (P18.r (Prod.fst x)) = R18.ot (usR (P18.r (Prod.fst x)) (us0 (Prod.fst x)) (Prod.snd x)) ∧ R18.ti (P18.r (Prod.fst x)) =
  R18.ti (usR (P18.r (Prod.fst x)) (us0 (Prod.fst x)) (Prod.snd x)) ∧ Int.tmod (IntKind.wrap IntKind.i64 (R18.nx (P18.r (Prod.fst x)) + (1 : Int))) (128 : Int) = R18.nx (usR (P18.r (Prod.fst x)) (us0 (Prod.fst x))
  (Prod.snd x)) ∧ R18.wa (P18.r (Prod.fst x)) = R18.wa (usR (P18.r (Prod.fst x)) (us0 (Prod.fst x)) (Prod.snd x)) ∧ R18.st (P18.r (Prod.fst x)) = R18.st (usR (P18.r (Prod.fst x)) (us0 (Prod.fst x)) (Prod.snd x)) ∧ R18.le
  (P18.r (Prod.fst x)) = R18.le (usR (P18.r (Prod.fst x)) (us0 (Prod.fst x)) (Prod.snd x)) ∧ P18.fi (Prod.fst x) = Prod.fst y ∧ (0 : Nat) = (0 : Nat) ∧ (0 : Nat) + List.length (P18.ds (Prod.fst x)) + (1 : Nat) =
  List.length (List.map U.d (usU (P18.r (Prod.fst x)) (us0 (Prod.fst x)) (Prod.snd x))) ∧ cap = Prod.fst (Prod.snd y) ∧ List.length (List.map U.d (usU (P18.r (Prod.fst x)) (us0 (Prod.fst x)) (Prod.snd x))) ≤ (0 : Nat) +
  List.length (P18.ds (Prod.fst x)) + (1 : Nat) ∧ List.length (List.map U.d (usU (P18.r (Prod.fst x)) (us0 (Prod.fst x)) (Prod.snd x))) ≤ Prod.fst (Prod.snd y) ∧ Prod.fst (Prod.snd y) ≤ cap ∧ (∀ (j : Nat), j < List.length
  (List.map U.d (usU (P18.r (Prod.fst x)) (us0 (Prod.fst x)) (Prod.snd x))) → appRows (0 : Nat) (0 : Nat) ((0 : Nat) + List.length (P18.ds (Prod.fst x))) (appRows (0 : Nat) (0 : Nat) (0 : Nat) (fun (i : Nat) => [SV.g
  (Value.string (List.getD [] i ByteArray.empty))]) fun (j : Nat) => drow (P18.ds (Prod.fst x)) j) (fun (j : Nat) => [SV.g (Value.string (List.getD [Ev.d (Prod.snd x)] j ByteArray.empty))]) j = drow (List.map U.d (usU
  (P18.r (Prod.fst x)) (us0 (Prod.fst x)) (Prod.snd x))) j ∧ true = true) ∧ List.length (usA (P18.r (Prod.fst x)) (us0 (Prod.fst x)) [] (Prod.snd x)) = (0 : Nat) ∧ True) ∨ False)
def Rhq8 (x : P18 × Ev) := (usR (P18.r (Prod.fst x)) (us0 (Prod.fst x)) (Prod.snd x))
def Rhq9 (x : P18 × Ev) := (List.map U.d (usU (P18.r (Prod.fst x)) (us0 (Prod.fst x)) (Prod.snd x)))
def Rhq10 (x : P18 × Ev) := (usA (P18.r (Prod.fst x)) (us0 (Prod.fst x)) [] (Prod.snd x))
def Rhq11 (x : P18 × Ev) := ((0 : Nat) + List.length (P18.ds (Prod.fst x)))
def VcRUser : Prop := ∀ (x : P18 × Ev), P18.ok (Prod.fst x) ∧ usPre (Prod.snd x) → condX (bif R18.st (P18.r (Prod.fst x)) != (0 : Int) then R18.st (P18.r (Prod.fst x)) != (1 : Int) else false) ((∃ (y : Int × Nat × Nat), outUc (Rhq8 x) (usU
  (P18.r (Prod.fst x)) (us0 (Prod.fst x)) (Prod.snd x)) (Rhq10 x) y ∧ List.length (Rhq10 x) = (0 : Nat) ∧ Prod.snd (Prod.snd y) = (0 : Nat) ∧ (8 : Int) = usE (P18.r (Prod.fst x)) (us0 (Prod.fst x)) (Prod.snd x) ∧ true =
  true ∧ R18.ow (P18.r (Prod.fst x)) = R18.ow (Rhq8 x) ∧ R18.ot (P18.r (Prod.fst x)) = R18.ot (Rhq8 x) ∧ R18.ti (P18.r (Prod.fst x)) = R18.ti (Rhq8 x) ∧ R18.nx (P18.r (Prod.fst x)) = R18.nx (Rhq8 x) ∧ R18.wa (P18.r
  (Prod.fst x)) = R18.wa (Rhq8 x) ∧ R18.st (P18.r (Prod.fst x)) = R18.st (Rhq8 x) ∧ R18.le (P18.r (Prod.fst x)) = R18.le (Rhq8 x) ∧ P18.fi (Prod.fst x) = Prod.fst y ∧ (0 : Nat) = (0 : Nat) ∧ List.length (P18.ds (Prod.fst
  x)) = List.length (Rhq9 x) ∧ P18.ck (Prod.fst x) = Prod.fst (Prod.snd y) ∧ List.length (Rhq9 x) ≤ List.length (P18.ds (Prod.fst x)) ∧ List.length (Rhq9 x) ≤ Prod.fst (Prod.snd y) ∧ Prod.fst (Prod.snd y) ≤ P18.ck
  (Prod.fst x) ∧ (∀ (j : Nat), j < List.length (Rhq9 x) → drow (P18.ds (Prod.fst x)) j = drow (Rhq9 x) j ∧ true = true) ∧ List.length (Rhq10 x) = (0 : Nat) ∧ True) ∨ False) (condX (Ev.k (Prod.snd x) == (4 : Int)) ((0 :
  Nat) = (0 : Nat) ∧ true = true ∧ R18.ow (P18.r (Prod.fst x)) = R18.ow (P18.r (Prod.fst x)) ∧ R18.ot (P18.r (Prod.fst x)) = R18.ot (P18.r (Prod.fst x)) ∧ R18.ti (P18.r (Prod.fst x)) = R18.ti (P18.r (Prod.fst x)) ∧ R18.nx
  (P18.r (Prod.fst x)) = R18.nx (P18.r (Prod.fst x)) ∧ R18.wa (P18.r (Prod.fst x)) = R18.wa (P18.r (Prod.fst x)) ∧ (2 : Int) = (2 : Int) ∧ R18.le (P18.r (Prod.fst x)) = R18.le (P18.r (Prod.fst x)) ∧ P18.fi (Prod.fst x) =
  P18.fi (Prod.fst x) ∧ (0 : Nat) = (0 : Nat) ∧ (0 : Nat) = (0 : Nat) ∧ True ∧ (True → (∃ (y : Int × Nat × Nat), outUc (Rhq8 x) (usU (P18.r (Prod.fst x)) (us0 (Prod.fst x)) (Prod.snd x)) (Rhq10 x) y ∧ (0 : Nat) = (0 : Nat)
  ∧ (1 : Nat) = List.length (Rhq10 x) ∧ (1 : Nat) = Prod.snd (Prod.snd y) ∧ (0 : Int) = usE (P18.r (Prod.fst x)) (us0 (Prod.fst x)) (Prod.snd x) ∧ true = true ∧ R18.ow (P18.r (Prod.fst x)) = R18.ow (Rhq8 x) ∧ R18.ot (P18.r
  (Prod.fst x)) = R18.ot (Rhq8 x) ∧ R18.ti (P18.r (Prod.fst x)) = R18.ti (Rhq8 x) ∧ R18.nx (P18.r (Prod.fst x)) = R18.nx (Rhq8 x) ∧ R18.wa (P18.r (Prod.fst x)) = R18.wa (Rhq8 x) ∧ (2 : Int) = R18.st (Rhq8 x) ∧ R18.le
  (P18.r (Prod.fst x)) = R18.le (Rhq8 x) ∧ P18.fi (Prod.fst x) = Prod.fst y ∧ List.length (Rhq9 x) = (0 : Nat) ∧ Prod.fst (Prod.snd y) = (0 : Nat) ∧ List.length (Rhq9 x) = (0 : Nat) ∧ List.length (Rhq10 x) ≤ (1 : Nat) ∧
  List.length (Rhq10 x) ≤ Prod.snd (Prod.snd y) ∧ Prod.snd (Prod.snd y) ≤ (1 : Nat) ∧ (∀ (j : Nat), j < List.length (Rhq10 x) → List.take (6 : Nat) (List.drop (j * (6 : Nat)) [SV.g (Value.int IntKind.i64 (1 : Int)), SV.g
  (Value.int IntKind.i64 (0 : Int)), SV.g (Value.int IntKind.i64 (0 : Int)), SV.g (Value.int IntKind.i64 (0 : Int)), SV.g (Value.int IntKind.i64 (0 : Int)), SV.g (Value.string (wrS (U.mk (3 : Int) (R18.ot (P18.r (Prod.fst
  x))) (R18.ow (P18.r (Prod.fst x))) (0 : Int) (0 : Int) (0 : Int) (0 : Int) (0 : Int) false (ByteArray.mk #[])) false))]) = erow (Rhq10 x) j ∧ true = true) ∧ True) ∨ False)) (condX ((↑(List.length (P18.ds (Prod.fst x))) :
  Int) == (60 : Int)) ((∃ (y : Int × Nat × Nat), outUc (Rhq8 x) (usU (P18.r (Prod.fst x)) (us0 (Prod.fst x)) (Prod.snd x)) (Rhq10 x) y ∧ List.length (Rhq10 x) = (0 : Nat) ∧ Prod.snd (Prod.snd y) = (0 : Nat) ∧ (9 : Int) =
  usE (P18.r (Prod.fst x)) (us0 (Prod.fst x)) (Prod.snd x) ∧ true = true ∧ R18.ow (P18.r (Prod.fst x)) = R18.ow (Rhq8 x) ∧ R18.ot (P18.r (Prod.fst x)) = R18.ot (Rhq8 x) ∧ R18.ti (P18.r (Prod.fst x)) = R18.ti (Rhq8 x) ∧
  R18.nx (P18.r (Prod.fst x)) = R18.nx (Rhq8 x) ∧ R18.wa (P18.r (Prod.fst x)) = R18.wa (Rhq8 x) ∧ R18.st (P18.r (Prod.fst x)) = R18.st (Rhq8 x) ∧ R18.le (P18.r (Prod.fst x)) = R18.le (Rhq8 x) ∧ P18.fi (Prod.fst x) =
  Prod.fst y ∧ (0 : Nat) = (0 : Nat) ∧ List.length (P18.ds (Prod.fst x)) = List.length (Rhq9 x) ∧ P18.ck (Prod.fst x) = Prod.fst (Prod.snd y) ∧ List.length (Rhq9 x) ≤ List.length (P18.ds (Prod.fst x)) ∧ List.length (Rhq9
  x) ≤ Prod.fst (Prod.snd y) ∧ Prod.fst (Prod.snd y) ≤ P18.ck (Prod.fst x) ∧ (∀ (j : Nat), j < List.length (Rhq9 x) → drow (P18.ds (Prod.fst x)) j = drow (Rhq9 x) j ∧ true = true) ∧ List.length (Rhq10 x) = (0 : Nat) ∧
  True) ∨ False) (condX ((↑(List.length (P18.ds (Prod.fst x))) : Int) == (0 : Int)) ((((0 : Nat) + List.length (P18.ds (Prod.fst x)) ≤ List.length (P18.ds (Prod.fst x)) ∧ (∀ (j : Nat), j < List.length (P18.ds (Prod.fst x))
  → true = true) ∧ (0 : Nat) ≤ (0 : Nat) ∧ (0 : Nat) ≤ (0 : Nat) ∧ (Rhq11 x) * (16 : Nat) ≤ (140737488355328 : Nat) ∧ ∀ (cap : Nat), (0 : Nat) + List.length (P18.ds (Prod.fst x)) ≤ cap → (1 : Nat) ≤ (1 : Nat) ∧ (∀ (j :
  Nat), j < (1 : Nat) → true = true) ∧ (0 : Nat) + (Rhq11 x) ≤ (0 : Nat) + List.length (P18.ds (Prod.fst x)) ∧ (0 : Nat) + cap ≤ cap ∧ ((0 : Nat) + List.length (P18.ds (Prod.fst x)) + (1 : Nat)) * (16 : Nat) ≤
  (140737488355328 : Nat) ∧ ∀ (cap : Nat), (0 : Nat) + List.length (P18.ds (Prod.fst x)) + (1 : Nat) ≤ cap → (128 : Int) ≠ (0 : Int) ∧ condX (R18.st (P18.r (Prod.fst x)) == (1 : Int)) (Rhq6 x cap) (Rhq4 x cap)) ∧ (0 : Nat)
  + List.length (P18.ds (Prod.fst x)) ≤ List.length (P18.ds (Prod.fst x)) ∧ (∀ (j : Nat), j < List.length (P18.ds (Prod.fst x)) → true = true) ∧ (0 : Nat) ≤ (0 : Nat) ∧ (0 : Nat) ≤ (0 : Nat) ∧ (Rhq11 x) * (16 : Nat) ≤
  (140737488355328 : Nat) ∧ ∀ (cap : Nat), (0 : Nat) + List.length (P18.ds (Prod.fst x)) ≤ cap → (1 : Nat) ≤ (1 : Nat) ∧ (∀ (j : Nat), j < (1 : Nat) → true = true) ∧ (0 : Nat) + (Rhq11 x) ≤ (0 : Nat) + List.length (P18.ds
  (Prod.fst x)) ∧ (0 : Nat) + cap ≤ cap ∧ ((0 : Nat) + List.length (P18.ds (Prod.fst x)) + (1 : Nat)) * (16 : Nat) ≤ (140737488355328 : Nat) ∧ ∀ (cap : Nat), (0 : Nat) + List.length (P18.ds (Prod.fst x)) + (1 : Nat) ≤ cap
  → (128 : Int) ≠ (0 : Int) ∧ condX (R18.st (P18.r (Prod.fst x)) == (1 : Int)) (Rhq6 x cap) (Rhq4 x cap)) ∧ (0 : Nat) + List.length (P18.ds (Prod.fst x)) ≤ List.length (P18.ds (Prod.fst x)) ∧ (∀ (j : Nat), j < List.length
  (P18.ds (Prod.fst x)) → true = true) ∧ (0 : Nat) ≤ (0 : Nat) ∧ (0 : Nat) ≤ (0 : Nat) ∧ (Rhq11 x) * (16 : Nat) ≤ (140737488355328 : Nat) ∧ ∀ (cap : Nat), (0 : Nat) + List.length (P18.ds (Prod.fst x)) ≤ cap → (1 : Nat) ≤
  (1 : Nat) ∧ (∀ (j : Nat), j < (1 : Nat) → true = true) ∧ (0 : Nat) + (Rhq11 x) ≤ (0 : Nat) + List.length (P18.ds (Prod.fst x)) ∧ (0 : Nat) + cap ≤ cap ∧ ((0 : Nat) + List.length (P18.ds (Prod.fst x)) + (1 : Nat)) * (16 :
  Nat) ≤ (140737488355328 : Nat) ∧ ∀ (cap : Nat), (0 : Nat) + List.length (P18.ds (Prod.fst x)) + (1 : Nat) ≤ cap → (128 : Int) ≠ (0 : Int) ∧ condX (R18.st (P18.r (Prod.fst x)) == (1 : Int)) (Rhq6 x cap) (Rhq4 x cap))
  ((((0 : Nat) + List.length (P18.ds (Prod.fst x)) ≤ List.length (P18.ds (Prod.fst x)) ∧ (∀ (j : Nat), j < List.length (P18.ds (Prod.fst x)) → true = true) ∧ (0 : Nat) ≤ (0 : Nat) ∧ (0 : Nat) ≤ (0 : Nat) ∧ (Rhq11 x) * (16
  : Nat) ≤ (140737488355328 : Nat) ∧ ∀ (cap : Nat), (0 : Nat) + List.length (P18.ds (Prod.fst x)) ≤ cap → (1 : Nat) ≤ (1 : Nat) ∧ (∀ (j : Nat), j < (1 : Nat) → true = true) ∧ (0 : Nat) + (Rhq11 x) ≤ (0 : Nat) + List.length
  (P18.ds (Prod.fst x)) ∧ (0 : Nat) + cap ≤ cap ∧ ((0 : Nat) + List.length (P18.ds (Prod.fst x)) + (1 : Nat)) * (16 : Nat) ≤ (140737488355328 : Nat) ∧ ∀ (cap : Nat), (0 : Nat) + List.length (P18.ds (Prod.fst x)) + (1 :
  Nat) ≤ cap → (128 : Int) ≠ (0 : Int) ∧ condX (R18.st (P18.r (Prod.fst x)) == (1 : Int)) (Rhq7 x cap) (Rhq5 x cap)) ∧ (0 : Nat) + List.length (P18.ds (Prod.fst x)) ≤ List.length (P18.ds (Prod.fst x)) ∧ (∀ (j : Nat), j <
  List.length (P18.ds (Prod.fst x)) → true = true) ∧ (0 : Nat) ≤ (0 : Nat) ∧ (0 : Nat) ≤ (0 : Nat) ∧ (Rhq11 x) * (16 : Nat) ≤ (140737488355328 : Nat) ∧ ∀ (cap : Nat), (0 : Nat) + List.length (P18.ds (Prod.fst x)) ≤ cap →
  (1 : Nat) ≤ (1 : Nat) ∧ (∀ (j : Nat), j < (1 : Nat) → true = true) ∧ (0 : Nat) + (Rhq11 x) ≤ (0 : Nat) + List.length (P18.ds (Prod.fst x)) ∧ (0 : Nat) + cap ≤ cap ∧ ((0 : Nat) + List.length (P18.ds (Prod.fst x)) + (1 :
  Nat)) * (16 : Nat) ≤ (140737488355328 : Nat) ∧ ∀ (cap : Nat), (0 : Nat) + List.length (P18.ds (Prod.fst x)) + (1 : Nat) ≤ cap → (128 : Int) ≠ (0 : Int) ∧ condX (R18.st (P18.r (Prod.fst x)) == (1 : Int)) (Rhq7 x cap)
  (Rhq5 x cap)) ∧ (0 : Nat) + List.length (P18.ds (Prod.fst x)) ≤ List.length (P18.ds (Prod.fst x)) ∧ (∀ (j : Nat), j < List.length (P18.ds (Prod.fst x)) → true = true) ∧ (0 : Nat) ≤ (0 : Nat) ∧ (0 : Nat) ≤ (0 : Nat) ∧
  (Rhq11 x) * (16 : Nat) ≤ (140737488355328 : Nat) ∧ ∀ (cap : Nat), (0 : Nat) + List.length (P18.ds (Prod.fst x)) ≤ cap → (1 : Nat) ≤ (1 : Nat) ∧ (∀ (j : Nat), j < (1 : Nat) → true = true) ∧ (0 : Nat) + (Rhq11 x) ≤ (0 :
  Nat) + List.length (P18.ds (Prod.fst x)) ∧ (0 : Nat) + cap ≤ cap ∧ ((0 : Nat) + List.length (P18.ds (Prod.fst x)) + (1 : Nat)) * (16 : Nat) ≤ (140737488355328 : Nat) ∧ ∀ (cap : Nat), (0 : Nat) + List.length (P18.ds
  (Prod.fst x)) + (1 : Nat) ≤ cap → (128 : Int) ≠ (0 : Int) ∧ condX (R18.st (P18.r (Prod.fst x)) == (1 : Int)) (Rhq7 x cap) (Rhq5 x cap)))))
theorem vcRUserE : VcRUser = (∀ (x : P18 × Ev), (x.1.ok ∧ usPre x.2) → fnX (cx_rUser18 x) (bodyOf Try.f32) Try.f32.results.toList (C_rUser18.args x) (C_rUser18.H x) (endX 2 (C_rUser18.outs x))) := by kernel_rfl
set_option maxHeartbeats 4000000 in
theorem vcRUser : VcRUser := by
  unfold VcRUser Rhq11 Rhq10 Rhq9 Rhq8 Rhq7 Rhq6 Rhq5 Rhq4
  rintro ⟨⟨r, fi, ds, ck⟩, e⟩ ⟨⟨h1, h2, h3, h4, h5⟩, h6, h7⟩
  have h1 : ds.length ≤ ck := h1
  have h2 : ds.length ≤ 60 := h2
  have h3 : r.ok := h3
  have h4 : ds ≠ [] → fi = kN r.nx ds.length 0 := h4
  have h6 : e.k = 3 ∨ e.k = 4 := h6
  have h7 : e.k = 3 → e.d.size ≤ 128 := h7
  simp only [eq_self, true_and, and_true, Nat.le_refl, Int.le_refl, implies_true, forall_const, and_false, false_and, exists_false, false_or, or_false, true_implies, Nat.zero_add, and_self, Int.toNat_natCast, cond_true, cond_false, condT, condF]
  have hul : (keptU r.nx ds).length = ds.length := keptU_len _ _
  have hum : (keptU r.nx ds).map U.d = ds := keptU_map _ _
  have u0 : us0 ⟨r, fi, ds, ck⟩ = keptU r.nx ds := rfl
  simp only [u0]
  have hadd := keptU_add e.d h3.nx (show ds.length < 128 by omega)
  generalize keptU r.nx ds = us at *
  have n1 := h3.nx
  have hne : us ≠ [] → ds ≠ [] := fun h => by rw [← hum]; simpa using h
  have p1 : ¬ ((¬ (e.k = 3 ∨ e.k = 4)) ∨ (e.k = 3 ∧ 128 < e.d.size)) := by
    rintro (h | ⟨h, h'⟩)
    · exact h h6
    · have := h7 h; omega
  have bad : ∀ n : Int, n ≠ 0 → usE r us e = n → usR r us e = r ∧ usU r us e = us ∧ usA r us [] e = [] := fun n h0 h => by
    have : usE r us e ≠ 0 := by rw [h]; exact h0
    simp [usR, usU, usA, this]
  refine (condX_iff _ _ _).2 ⟨fun c => ?_, fun c => ?_⟩
  · have c : ¬ (r.st = 0 ∨ r.st = 1) := by simpa using c
    have e0 : usE r us e = 8 := by rw [usE, if_neg p1, if_pos c]
    obtain ⟨e1, e2, e3⟩ := bad 8 (by decide) e0
    rw [e0, e1, e2, e3, hum]
    refine ⟨(fi, ck, 0), ⟨fun h => by rw [hul]; exact h4 (hne h), by rw [hul]; exact h1, Nat.le_refl _⟩, ?_⟩
    dsimp only [List.length_nil]
    and_intros <;> first | with_reducible rfl | assumption | exact Nat.le_refl _ | exact Nat.zero_le _ | exact fun j hj => trivial | exact fun j hj => rfl | exact fun j hj => absurd hj (Nat.not_lt_zero _) | exact trivial | omega | rfl | skip
  have p2 : r.st = 0 ∨ r.st = 1 := by
    by_cases s0 : r.st = 0 <;> by_cases s1 : r.st = 1 <;> simp [s0, s1] at c ⊢
  refine (condX_iff _ _ _).2 ⟨fun c => ?_, fun c => ?_⟩
  · have k4 : e.k = 4 := by simpa using c
    have e0 : usE r us e = 0 := by rw [usE, if_neg p1, if_neg (not_not_intro p2), if_pos k4]
    have e1 : usR r us e = { r with st := 2 } := by simp [usR, e0, k4]
    have e2 : usU r us e = [] := by simp [usU, e0, k4]
    have e3 : usA r us [] e = [closeE r] := by simp [usA, e0, k4]; rfl
    rw [e0, e1, e2, e3]
    refine ⟨(fi, 0, 1), ⟨fun h => absurd rfl h, Nat.le_refl _, Nat.le_refl _⟩, ?_⟩
    dsimp only [List.length_nil, List.length_cons, List.map_nil]
    and_intros <;> first | exact row1 (closeE r) | with_reducible rfl | assumption | exact Nat.le_refl _ | exact Nat.zero_le _ | exact fun j hj => trivial | exact fun j hj => rfl | exact fun j hj => absurd hj (Nat.not_lt_zero _) | exact trivial | omega | rfl | skip
  have k4 : ¬ e.k = 4 := by simpa using c
  refine (condX_iff _ _ _).2 ⟨fun c => ?_, fun c => ?_⟩
  · have c : (ds.length : Int) = 60 := by simpa using c
    have e0 : usE r us e = 9 := by rw [usE, if_neg p1, if_neg (not_not_intro p2), if_neg k4, if_pos (by omega)]
    obtain ⟨e1, e2, e3⟩ := bad 9 (by decide) e0
    rw [e0, e1, e2, e3, hum]
    refine ⟨(fi, ck, 0), ⟨fun h => by rw [hul]; exact h4 (hne h), by rw [hul]; exact h1, Nat.le_refl _⟩, ?_⟩
    dsimp only [List.length_nil]
    and_intros <;> first | with_reducible rfl | assumption | exact Nat.le_refl _ | exact Nat.zero_le _ | exact fun j hj => trivial | exact fun j hj => rfl | exact fun j hj => absurd hj (Nat.not_lt_zero _) | exact trivial | omega | rfl | skip
  have c60 : ¬ (ds.length : Int) = 60 := by simpa using c
  have e0 : usE r us e = 0 := by rw [usE, if_neg p1, if_neg (not_not_intro p2), if_neg k4, if_neg (by omega)]
  have e1 : usR r us e = { r with nx := (r.nx + 1) % 128 } := by simp [usR, e0, k4]
  have e2 : usU r us e = us ++ [dtU r.nx e.d] := by simp [usU, e0, k4]
  have hmm : List.map U.d (us ++ [dtU r.nx e.d]) = ds ++ [e.d] := by rw [List.map_append, hum]; rfl
  have hw : (IntKind.i64.wrap (r.nx + 1)).tmod 128 = (r.nx + 1) % 128 := by rw [wrap1 (by omega) (by omega), tmod_nn (by omega)]
  have hrow : ∀ j, j < (ds ++ [e.d]).length → appRows 0 0 ds.length (appRows 0 0 0 (fun i => [SV.g (Value.string (([] : List ByteArray).getD i ByteArray.empty))]) fun j => drow ds j) (fun j => [SV.g (Value.string ([e.d].getD j ByteArray.empty))]) j = drow (ds ++ [e.d]) j := fun j hj => by
    simp only [List.length_append, List.length_cons, List.length_nil] at hj
    rw [appRows0]
    split
    · rename_i h; rw [appRows0, if_neg (Nat.not_lt_zero _), Nat.sub_zero]; simp only [drow, List.getD_eq_getElem?_getD, List.getElem?_append_left h]
    · have : j = ds.length := by omega
      subst this
      simp [drow, List.getD_eq_getElem?_getD]
  have hfi : ∀ f : Int, (if ds.length = 0 then f = r.nx else f = fi) → f = kN ((r.nx + 1) % 128) (ds.length + 1) 0 := fun f h => by
    split at h
    · rename_i h0; unfold kN; omega
    · rename_i h0
      have := h4 (by intro e; subst e; simp at h0)
      unfold kN at this ⊢; omega
  have hdl : (ds ++ [e.d]).length = ds.length + 1 := by simp
  have hul1 : (us ++ [dtU r.nx e.d]).length = ds.length + 1 := by simp [hul]
  simp only [e0, e1, e2, hmm, hw, hdl]
  have fin : ∀ f : Int, (if ds.length = 0 then f = r.nx else f = fi) → ∀ (cap : Nat) (a : Nat), ds.length + 1 ≤ cap → (usA r us [] e).length ≤ a → outUc ⟨(r.nx + 1) % 128, r.wa, r.ow, r.ot, r.ti, r.st, r.le⟩ (us ++ [dtU r.nx e.d]) (usA r us [] e) (f, cap, a) := fun f hf cap a h1 h2 =>
    ⟨fun _ => by rw [hul1]; exact hfi f hf, by rw [hul1]; exact h1, h2⟩
  have a1 : r.st = 1 → usA r us [] e = [] := fun s1 => by simp [usA, e0, k4, s1]
  have a0 : ¬ r.st = 1 → usA r us [] e = [dataE r r.nx e.d] := fun s1 => by
    have s0 : r.st = 0 := by omega
    simp [usA, e0, k4, s0]; rfl
  rw [hdl] at hrow
  refine (condX_iff _ _ _).2 ⟨fun c => ⟨by omega, fun cap1 _ => ⟨by omega, fun cap hcap => ⟨by decide, (condX_iff _ _ _).2 ⟨fun s1 => ⟨(r.nx, cap, 0), ?_, ?_⟩, fun s1 => ⟨(r.nx, cap, 1), ?_, ?_⟩⟩⟩⟩⟩, fun c => ⟨by omega, fun cap1 _ => ⟨by omega, fun cap hcap => ⟨by decide, (condX_iff _ _ _).2 ⟨fun s1 => ⟨(fi, cap, 0), ?_, ?_⟩, fun s1 => ⟨(fi, cap, 1), ?_, ?_⟩⟩⟩⟩⟩⟩
  · exact fin _ (by rw [if_pos (by simpa using c)]) _ _ hcap (by rw [a1 (by simpa using s1)]; exact Nat.le_refl _)
  · rw [a1 (by simpa using s1)]
    dsimp only [List.length_nil]
    and_intros <;> first | with_reducible rfl | assumption | exact Nat.le_refl _ | exact Nat.zero_le _ | exact fun j hj => trivial | exact fun j hj => rfl | exact fun j hj => absurd hj (Nat.not_lt_zero _) | exact trivial | omega | rfl | skip
  · exact fin _ (by rw [if_pos (by simpa using c)]) _ _ hcap (by rw [a0 (by simpa using s1)]; exact Nat.le_refl _)
  · rw [a0 (by simpa using s1)]
    dsimp only [List.length_nil, List.length_cons]
    and_intros <;> first | exact row1 (dataE r r.nx e.d) | with_reducible rfl | assumption | exact Nat.le_refl _ | exact Nat.zero_le _ | exact fun j hj => trivial | exact fun j hj => rfl | exact fun j hj => absurd hj (Nat.not_lt_zero _) | exact trivial | omega | rfl | skip
  · exact fin _ (by rw [if_neg (by simpa using c)]) _ _ hcap (by rw [a1 (by simpa using s1)]; exact Nat.le_refl _)
  · rw [a1 (by simpa using s1)]
    dsimp only [List.length_nil]
    and_intros <;> first | with_reducible rfl | assumption | exact Nat.le_refl _ | exact Nat.zero_le _ | exact fun j hj => trivial | exact fun j hj => rfl | exact fun j hj => absurd hj (Nat.not_lt_zero _) | exact trivial | omega | rfl | skip
  · exact fin _ (by rw [if_neg (by simpa using c)]) _ _ hcap (by rw [a0 (by simpa using s1)]; exact Nat.le_refl _)
  · rw [a0 (by simpa using s1)]
    dsimp only [List.length_nil, List.length_cons]
    and_intros <;> first | exact row1 (dataE r r.nx e.d) | with_reducible rfl | assumption | exact Nat.le_refl _ | exact Nat.zero_le _ | exact fun j hj => trivial | exact fun j hj => rfl | exact fun j hj => absurd hj (Nat.not_lt_zero _) | exact trivial | omega | rfl | skip
theorem vcRUserK : ∀ (x : P18 × Ev), (x.1.ok ∧ usPre x.2) → Held (fnX (cx_rUser18 x) (bodyOf Try.f32) Try.f32.results.toList (C_rUser18.args x) (C_rUser18.H x) (endX 2 (C_rUser18.outs x))) := held2 vcRUserE vcRUser
def getPE (a : List SV) (H : Heap) : Option (P18 × Ev) := match a, getP a H with
  | [_, .agg cs], some x => match eOf cs with
    | some e => some (x, e)
    | none => none
  | _, _ => none
theorem ok_rUser18 : GenSound Try.prog Λ0 32 (callX C_rUser18 getPE) :=
  gen_of (ty := ty) (Γ := ΓOf Γrb) hm tyOK Γrb_ok (fnOK_of Try.func32 (by kernel_rfl) (by kernel_rfl)) Try.func32 (body_some (by kernel_rfl)) C_rUser18 getPE Try.ntmps32 (fun _ => Nat.le_of_ble_eq_true rfl) (fun x => (cx_rUser18 x).cut) (fun x => (cx_rUser18 x).loop) fun x h => vcRUserK x h
def Γrc : List (Nat × Rule) := (56, .gen (callX C_rAll18 getP)) :: (55, .gen (callX C_rForget18 getPI)) :: (34, .gen (callX C_rReset18 getM)) :: (32, .gen (callX C_rUser18 getPE)) :: Γrb
theorem Γrc_ok : ΓOK Try.prog Λ0 (ΓOf Γrc) := (ΓOf_cons ok_rAll18 (ΓOf_cons ok_rForget18 (ΓOf_cons ok_rReset18 (ΓOf_cons ok_rUser18 Γrb_ok))))
end Go.Proofs.Ytghbejmnnfoamaa
