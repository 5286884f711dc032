/- Chapter 18: the law ResumeKept: a side never keeps more than 60, and hands them in order to who asks anew. -/
import Derived.Test.YtghbejmnnfoamaaRo
set_option linter.unusedVariables false
set_option linter.unusedSimpArgs false
namespace Go.Proofs.Ytghbejmnnfoamaa
open Go Go.Eng
attribute [local irreducible] condX
def Γrm : List (Nat × Rule) := (11, .gen wtKept) :: (13, .exact X_sane18.rule) :: (9, .gen (callX C_OnU getOE)) :: Γx
theorem Γrm_ok : ΓOK Try.prog (ΓOf Γrm) := ΓOf_cons ok_KeptA (ΓOf_cons ok_sane18 (ΓOf_cons ok_OnU Γx_ok))
/-! ### what comes of the events -/
def mS : ByteArray := ⟨#[109]⟩
def usK (i : Nat) : List U := (List.range i).map fun (j : Nat) => dtU (j : Int) mS
def rK (i : Nat) (st : Int) : R18 := ⟨i, 0, 1, 2, 5, st, 0⟩
def eM : Ev := ⟨0, 3, 0, 0, 0, mS⟩
def rjU : U := ⟨7, 1, 0, 0, 0, 0, 0, 0, false, ⟨#[]⟩⟩
theorem usK_len (i : Nat) : (usK i).length = i := by simp [usK]
theorem usK_succ (i : Nat) : usK i ++ [dtU i mS] = usK (i + 1) := by simp [usK, List.range_succ]
theorem usK_get {i j : Nat} (h : j < i) : (usK i).getD j uZero = dtU j mS := by simp [usK, List.getD_eq_getElem?_getD, h]
theorem onK1 {i : Nat} (h : i < 60) : (onT (rK i 0) (usK i) eM).1 = 0 ∧ (onT (rK i 0) (usK i) eM).2.1 = rK (i + 1) 0 ∧ (onT (rK i 0) (usK i) eM).2.2.1 = usK (i + 1) := by
  have hm : mS.size = 1 := rfl
  have hk : eM.k = 3 := rfl
  have hw : eM.w = 0 := rfl
  have hd : eM.d = mS := rfl
  have e0 : usE (rK i 0) (usK i) eM = 0 := by
    simp [usE, rK, hk, hd, usK_len, hm]; omega
  rw [onT, if_pos hw]
  refine ⟨e0, ?_, ?_⟩
  · simp only [usR, e0, hk, ne_eq, not_true_eq_false, if_false]
    rw [if_neg (by decide)]
    simp only [rK]
    congr 1
    omega
  · simp only [usU, e0, hk, ne_eq, not_true_eq_false, if_false]
    rw [if_neg (by decide)]
    exact usK_succ i
theorem onK2 : (onT (rK 60 0) (usK 60) eM).1 = 9 ∧ (onT (rK 60 0) (usK 60) eM).2.1 = rK 60 0 ∧ (onT (rK 60 0) (usK 60) eM).2.2.1 = usK 60 := by
  have hm : mS.size = 1 := rfl
  have hk : eM.k = 3 := rfl
  have hw : eM.w = 0 := rfl
  have hd : eM.d = mS := rfl
  have e0 : usE (rK 60 0) (usK 60) eM = 9 := by
    simp [usE, rK, hk, hd, usK_len, hm]
  have e1 : usE (rK 60 0) (usK 60) eM ≠ 0 := by rw [e0]; decide
  rw [onT, if_pos hw]
  refine ⟨e0, ?_, ?_⟩
  · dsimp only; rw [usR, if_pos e1]
  · dsimp only; rw [usU, if_pos e1]
def eR : Ev := ⟨1, 1, 0, 0, 0, ⟨#[]⟩⟩
theorem onK3 {i : Nat} {st : Int} (h : st = 0 ∨ st = 1) : (onT (rK i st) (usK i) eR).1 = 0 ∧ (onT (rK i st) (usK i) eR).2.1 = rK i 1 ∧ (onT (rK i st) (usK i) eR).2.2.1 = usK i := by
  have hs : (rK i st).st = 0 ∨ (rK i st).st = 1 := h
  rw [onT, if_neg (show ¬ eR.w = 0 by decide), if_neg (show ¬ (eR.w = 1 ∧ eR.k = 0) by decide), if_pos (show eR.w = 1 ∧ eR.k = 1 by decide)]
  refine ⟨rfl, ?_, rfl⟩
  dsimp only
  rw [rstR, if_pos hs]
  rfl
theorem ok_rj : okU rjU := by
  rw [okU_iff (show (1 : Int) ≤ 7 ∧ (7 : Int) ≤ 10 by decide)]
  simp [rjU, ByteArray.size]
def eJ : Ev := ⟨1, 0, 0, 0, 0, wrS rjU false⟩
theorem onK4 {i : Nat} {st : Int} (hi : i ≤ 60) (h : st = 0 ∨ st = 1) : onT (rK i st) (usK i) eJ = (0, rK i 0, usK i, (usK i).map (sendE (rK i 0))) := by
  have hr : rdT eJ.d = (rjU, false, 0) := rd_back ok_rj false
  have hN : ackN (rK i st) (usK i) rjU = 0 := by
    rw [ackN, usK_len]; show (0 - ((i : Int) - i + 128) % 128 + 128) % 128 = 0; omega
  have hl0 : ¬ ((usK i).length : Int) < 0 := by omega
  have hk7 : rjU.k = 7 := rfl
  have hs : (rK i st).st = 0 ∨ (rK i st).st = 1 := h
  rw [onT, if_neg (show ¬ eJ.w = 0 by decide), if_pos (show eJ.w = 1 ∧ eJ.k = 0 by decide)]
  rw [hr]
  dsimp only
  rw [if_pos (show (0 : Int) = 0 ∧ rjU.to = (rK i st).ow from ⟨rfl, rfl⟩), unT, if_neg (show ¬ 128 ≤ rjU.nu by decide), if_neg (fun h => absurd (show (7 : Int) = 5 from h.1) (by decide)), if_pos ⟨Or.inr hk7, hs⟩]
  simp only [ackR, ackU, ackA, hN, hl0, if_false, hk7, if_true, Int.toNat_zero, List.drop_zero, List.nil_append]
  rfl
theorem okDt (c i : Nat) (h : i < 128) : okU (toU (rK c 0) (dtU i mS)) := by
  rw [okU_iff (show (1 : Int) ≤ 5 ∧ (5 : Int) ≤ 10 by decide)]
  simp [toU, rK, mS, ByteArray.size]
  omega
/-! ### the law -/
structure KS where
  i : Nat
  ck : Nat
  n : Nat
  ca : Nat
def kSD (c : Nat) (st : Int) (x : KS) : Heap := [(2, .cells ((rK c st).cells (.sl 3 0 10 c x.ck) (.sl 4 0 6 x.n x.ca)) 55), (3, .view 10 c x.ck (urow (usK c)) 60)]
def annK1 (k z : Int) : Ann := ⟨KS, fun x => ⟨[(1, .g (.int .i64 z)), (5, .ptr 2 0 0 0), (7, .g (.int .i64 k)), (8, .g (.int .i64 x.i))], kSD (min x.i 60) 0 x, 5, 0, []⟩, fun x => x.i ≤ k ∧ min x.i 60 ≤ x.ck, fun x => k.toNat - x.i⟩
def annK2 (k z : Int) : Ann := ⟨KS × Int, fun x => ⟨[(1, .g (.int .i64 z)), (5, .ptr 2 0 0 0), (7, .g (.int .i64 k)), (11, .g (.int .i64 x.1.i))], kSD (min k 60).toNat x.2 x.1, 5, 0, []⟩, fun x => x.1.i ≤ modI z 3 ∧ (min k 60).toNat ≤ x.1.ck ∧ (x.2 = 0 ∨ x.2 = 1), fun x => (modI z 3).toNat - x.1.i⟩
def annK3 (c : Nat) : Ann := ⟨Nat × Nat, fun x => ⟨[(14, .sl 2 0 6 c x.2), (15, .g (.int .i64 x.1))], [(2, .view 6 c x.2 (erow ((usK c).map (sendE (rK c 0)))) 31)], 3, 0, []⟩, fun x => x.1 ≤ c ∧ c ≤ x.2, fun x => c - x.1⟩
def lpK (n z : Int) (i : Nat) (_ : SS) : List Ann := if i = 6 then [annK1 (modI n 70) z] else if i = 12 then [annK2 (modI n 70) z] else if i = 20 then [annK3 (min (modI n 70) 60).toNat] else []
def Rmq0 (n : Int) := (Int.toNat (min (modI n (70 : Int)) (60 : Int)))
def Rmq1 (n : Int) := (List.map (fun (j : Nat) => uRow (urow (usK (Rmq0 n)) j)) (List.range (Rmq0 n)))
def Rmq2 (n : Int) (xᵥ2 : Nat × Nat) := (Ev.d (List.getD (List.map (sendE (rK (Rmq0 n) (0 : Int))) (usK (Rmq0 n))) (Int.toNat (↑(Prod.fst xᵥ2) : Int)) eZero))
def Rmq3 (x : KS) := (List.map (fun (j : Nat) => uRow (urow (usK (min (KS.i x) (60 : Nat))) j)) (List.range (min (KS.i x) (60 : Nat))))
set_option maxRecDepth 100000 in
def VcResumeKept : Prop := ∀ (n z : Int), (1 : Int) = (1 : Int) ∧ (2 : Int) = (2 : Int) ∧ (5 : Int) = (5 : Int) ∧ True ∧ (newOK (1 : Int) (2 : Int) (5 : Int) → [SV.g (Value.int IntKind.i64 n), SV.g (Value.int IntKind.i64 (70 : Int))] = [SV.g
  (Value.int IntKind.i64 n), SV.g (Value.int IntKind.i64 (70 : Int))] ∧ (70 : Int) < (9223372036854775808 : Int) ∧ (∃ (x : KS), ((↑(KS.i x) : Int) ≤ modI n (70 : Int) ∧ min (KS.i x) (60 : Nat) ≤ KS.ck x) ∧ z = z ∧ (0 :
  Nat) = (0 : Nat) ∧ modI n (70 : Int) = modI n (70 : Int) ∧ (0 : Int) = (↑(KS.i x) : Int) ∧ (0 : Int) = (↑(min (KS.i x) (60 : Nat)) : Int) ∧ (0 : Int) = (0 : Int) ∧ (1 : Int) = (1 : Int) ∧ (2 : Int) = (2 : Int) ∧ (5 :
  Int) = (5 : Int) ∧ (0 : Int) = (0 : Int) ∧ (0 : Int) = (0 : Int) ∧ min (KS.i x) (60 : Nat) = (0 : Nat) ∧ KS.ck x = (0 : Nat) ∧ KS.n x = (0 : Nat) ∧ KS.ca x = (0 : Nat) ∧ min (KS.i x) (60 : Nat) = (0 : Nat) ∧ True) ∧ ∀ (x
  : KS), (↑(KS.i x) : Int) ≤ modI n (70 : Int) ∧ min (KS.i x) (60 : Nat) ≤ KS.ck x → condX (decide ((↑(KS.i x) : Int) < modI n (70 : Int))) ((0 : Nat) = (0 : Nat) ∧ (0 : Int) = (0 : Int) ∧ (3 : Int) = (3 : Int) ∧ (0 : Int)
  = (0 : Int) ∧ (0 : Int) = (0 : Int) ∧ (0 : Int) = (0 : Int) ∧ ByteArray.mk #[(109 : UInt8)] = ByteArray.mk #[(109 : UInt8)] ∧ (↑(min (KS.i x) (60 : Nat)) : Int) = (↑(min (KS.i x) (60 : Nat)) : Int) ∧ (0 : Int) = (0 :
  Int) ∧ (1 : Int) = (1 : Int) ∧ (2 : Int) = (2 : Int) ∧ (5 : Int) = (5 : Int) ∧ (0 : Int) = (0 : Int) ∧ (0 : Int) = (0 : Int) ∧ (0 : Nat) = (0 : Nat) ∧ min (KS.i x) (60 : Nat) = List.length (Rmq3 x) ∧ KS.ck x = KS.ck x ∧
  (0 : Nat) = (0 : Nat) ∧ KS.n x = KS.n x ∧ KS.ca x = KS.ca x ∧ List.length (Rmq3 x) ≤ min (KS.i x) (60 : Nat) ∧ List.length (Rmq3 x) ≤ KS.ck x ∧ KS.ck x ≤ KS.ck x ∧ (∀ (j : Nat), j < List.length (Rmq3 x) → urow (usK (min
  (KS.i x) (60 : Nat))) j = urow (Rmq3 x) j ∧ true = true) ∧ (O18.ok (O18.mk (R18.mk (↑(min (KS.i x) (60 : Nat)) : Int) (0 : Int) (1 : Int) (2 : Int) (5 : Int) (0 : Int) (0 : Int)) (Rmq3 x) (KS.ck x) (KS.n x) (KS.ca x)) ∧
  (1 : Int) ≠ (0 : Int)) ∧ ∀ (y : (Int × T18) × (Nat × Nat) × Nat × Nat), Prod.fst y = onT (R18.mk (↑(min (KS.i x) (60 : Nat)) : Int) (0 : Int) (1 : Int) (2 : Int) (5 : Int) (0 : Int) (0 : Int)) (Rmq3 x) (Ev.mk (0 : Int)
  (3 : Int) (0 : Int) (0 : Int) (0 : Int) (ByteArray.mk #[(109 : UInt8)])) ∧ outWu (Prod.snd (Prod.fst y)) (Prod.snd y) → condX (bif !(Prod.fst (Prod.fst y) == (0 : Int)) == decide ((↑(KS.i x) : Int) < (60 : Int)) then
  true else bif decide ((60 : Int) ≤ (↑(KS.i x) : Int)) then Prod.fst (Prod.fst y) != (9 : Int) else false) (SV.g (Value.bool false) = SV.g (Value.bool true)) (∃ (x' : KS), ((↑(KS.i x') : Int) ≤ modI n (70 : Int) ∧ min
  (KS.i x') (60 : Nat) ≤ KS.ck x') ∧ Int.toNat (modI n (70 : Int)) - KS.i x' < Int.toNat (modI n (70 : Int)) - KS.i x ∧ z = z ∧ (0 : Nat) = (0 : Nat) ∧ modI n (70 : Int) = modI n (70 : Int) ∧ IntKind.wrap IntKind.i64
  ((↑(KS.i x) : Int) + (1 : Int)) = (↑(KS.i x') : Int) ∧ R18.nx (Prod.fst (Prod.snd (Prod.fst y))) = (↑(min (KS.i x') (60 : Nat)) : Int) ∧ R18.wa (Prod.fst (Prod.snd (Prod.fst y))) = (0 : Int) ∧ R18.ow (Prod.fst (Prod.snd
  (Prod.fst y))) = (1 : Int) ∧ R18.ot (Prod.fst (Prod.snd (Prod.fst y))) = (2 : Int) ∧ R18.ti (Prod.fst (Prod.snd (Prod.fst y))) = (5 : Int) ∧ R18.st (Prod.fst (Prod.snd (Prod.fst y))) = (0 : Int) ∧ R18.le (Prod.fst
  (Prod.snd (Prod.fst y))) = (0 : Int) ∧ (0 : Nat) = (0 : Nat) ∧ List.length (Prod.fst (Prod.snd (Prod.snd (Prod.fst y)))) = min (KS.i x') (60 : Nat) ∧ Prod.fst (Prod.fst (Prod.snd y)) = KS.ck x' ∧ (0 : Nat) = (0 : Nat) ∧
  Prod.fst (Prod.snd (Prod.snd y)) = KS.n x' ∧ Prod.snd (Prod.snd (Prod.snd y)) = KS.ca x' ∧ min (KS.i x') (60 : Nat) ≤ List.length (Prod.fst (Prod.snd (Prod.snd (Prod.fst y)))) ∧ min (KS.i x') (60 : Nat) ≤ KS.ck x' ∧
  KS.ck x' ≤ Prod.fst (Prod.fst (Prod.snd y)) ∧ (∀ (j : Nat), j < min (KS.i x') (60 : Nat) → urow (Prod.fst (Prod.snd (Prod.snd (Prod.fst y)))) j = urow (usK (min (KS.i x') (60 : Nat))) j ∧ true = true) ∧ True)) ((∃ (x_1 :
  KS × Int), ((↑(KS.i (Prod.fst x_1)) : Int) ≤ modI z (3 : Int) ∧ Int.toNat (min (modI n (70 : Int)) (60 : Int)) ≤ KS.ck (Prod.fst x_1) ∧ (Prod.snd x_1 = (0 : Int) ∨ Prod.snd x_1 = (1 : Int))) ∧ z = z ∧ (0 : Nat) = (0 :
  Nat) ∧ modI n (70 : Int) = modI n (70 : Int) ∧ (0 : Int) = (↑(KS.i (Prod.fst x_1)) : Int) ∧ (↑(min (KS.i x) (60 : Nat)) : Int) = (↑(Rmq0 n) : Int) ∧ (0 : Int) = (0 : Int) ∧ (1 : Int) = (1 : Int) ∧ (2 : Int) = (2 : Int) ∧
  (5 : Int) = (5 : Int) ∧ (0 : Int) = Prod.snd x_1 ∧ (0 : Int) = (0 : Int) ∧ (0 : Nat) = (0 : Nat) ∧ min (KS.i x) (60 : Nat) = Int.toNat (min (modI n (70 : Int)) (60 : Int)) ∧ KS.ck x = KS.ck (Prod.fst x_1) ∧ (0 : Nat) =
  (0 : Nat) ∧ KS.n x = KS.n (Prod.fst x_1) ∧ KS.ca x = KS.ca (Prod.fst x_1) ∧ Int.toNat (min (modI n (70 : Int)) (60 : Int)) ≤ min (KS.i x) (60 : Nat) ∧ Int.toNat (min (modI n (70 : Int)) (60 : Int)) ≤ KS.ck (Prod.fst x_1)
  ∧ KS.ck (Prod.fst x_1) ≤ KS.ck x ∧ (∀ (j : Nat), j < Int.toNat (min (modI n (70 : Int)) (60 : Int)) → urow (usK (min (KS.i x) (60 : Nat))) j = urow (usK (Rmq0 n)) j ∧ true = true) ∧ True) ∧ ∀ (xᵥ1 : KS × Int), (↑(KS.i
  (Prod.fst xᵥ1)) : Int) ≤ modI z (3 : Int) ∧ Int.toNat (min (modI n (70 : Int)) (60 : Int)) ≤ KS.ck (Prod.fst xᵥ1) ∧ (Prod.snd xᵥ1 = (0 : Int) ∨ Prod.snd xᵥ1 = (1 : Int)) → [SV.g (Value.int IntKind.i64 z), SV.g (Value.int
  IntKind.i64 (3 : Int))] = [SV.g (Value.int IntKind.i64 z), SV.g (Value.int IntKind.i64 (3 : Int))] ∧ (3 : Int) < (9223372036854775808 : Int) ∧ condX (decide ((↑(KS.i (Prod.fst xᵥ1)) : Int) < modI z (3 : Int))) ((0 : Nat)
  = (0 : Nat) ∧ (1 : Int) = (1 : Int) ∧ (1 : Int) = (1 : Int) ∧ (0 : Int) = (0 : Int) ∧ (0 : Int) = (0 : Int) ∧ (0 : Int) = (0 : Int) ∧ ByteArray.mk #[] = ByteArray.mk #[] ∧ (↑(Rmq0 n) : Int) = (↑(Rmq0 n) : Int) ∧ (0 :
  Int) = (0 : Int) ∧ (1 : Int) = (1 : Int) ∧ (2 : Int) = (2 : Int) ∧ (5 : Int) = (5 : Int) ∧ Prod.snd xᵥ1 = Prod.snd xᵥ1 ∧ (0 : Int) = (0 : Int) ∧ (0 : Nat) = (0 : Nat) ∧ Int.toNat (min (modI n (70 : Int)) (60 : Int)) =
  List.length (Rmq1 n) ∧ KS.ck (Prod.fst xᵥ1) = KS.ck (Prod.fst xᵥ1) ∧ (0 : Nat) = (0 : Nat) ∧ KS.n (Prod.fst xᵥ1) = KS.n (Prod.fst xᵥ1) ∧ KS.ca (Prod.fst xᵥ1) = KS.ca (Prod.fst xᵥ1) ∧ List.length (Rmq1 n) ≤ Int.toNat (min
  (modI n (70 : Int)) (60 : Int)) ∧ List.length (Rmq1 n) ≤ KS.ck (Prod.fst xᵥ1) ∧ KS.ck (Prod.fst xᵥ1) ≤ KS.ck (Prod.fst xᵥ1) ∧ (∀ (j : Nat), j < List.length (Rmq1 n) → urow (usK (Rmq0 n)) j = urow (Rmq1 n) j ∧ true =
  true) ∧ (O18.ok (O18.mk (R18.mk (↑(Rmq0 n) : Int) (0 : Int) (1 : Int) (2 : Int) (5 : Int) (Prod.snd xᵥ1) (0 : Int)) (Rmq1 n) (KS.ck (Prod.fst xᵥ1)) (KS.n (Prod.fst xᵥ1)) (KS.ca (Prod.fst xᵥ1))) ∧ (1 : Int) ≠ (0 : Int)) ∧
  ∀ (y : (Int × T18) × (Nat × Nat) × Nat × Nat), Prod.fst y = onT (R18.mk (↑(Rmq0 n) : Int) (0 : Int) (1 : Int) (2 : Int) (5 : Int) (Prod.snd xᵥ1) (0 : Int)) (Rmq1 n) (Ev.mk (1 : Int) (1 : Int) (0 : Int) (0 : Int) (0 :
  Int) (ByteArray.mk #[])) ∧ outWu (Prod.snd (Prod.fst y)) (Prod.snd y) → ∃ (xpᵥ1 : KS × Int), ((↑(KS.i (Prod.fst xpᵥ1)) : Int) ≤ modI z (3 : Int) ∧ Int.toNat (min (modI n (70 : Int)) (60 : Int)) ≤ KS.ck (Prod.fst xpᵥ1) ∧
  (Prod.snd xpᵥ1 = (0 : Int) ∨ Prod.snd xpᵥ1 = (1 : Int))) ∧ Int.toNat (modI z (3 : Int)) - KS.i (Prod.fst xpᵥ1) < Int.toNat (modI z (3 : Int)) - KS.i (Prod.fst xᵥ1) ∧ z = z ∧ (0 : Nat) = (0 : Nat) ∧ modI n (70 : Int) =
  modI n (70 : Int) ∧ IntKind.wrap IntKind.i64 ((↑(KS.i (Prod.fst xᵥ1)) : Int) + (1 : Int)) = (↑(KS.i (Prod.fst xpᵥ1)) : Int) ∧ R18.nx (Prod.fst (Prod.snd (Prod.fst y))) = (↑(Rmq0 n) : Int) ∧ R18.wa (Prod.fst (Prod.snd
  (Prod.fst y))) = (0 : Int) ∧ R18.ow (Prod.fst (Prod.snd (Prod.fst y))) = (1 : Int) ∧ R18.ot (Prod.fst (Prod.snd (Prod.fst y))) = (2 : Int) ∧ R18.ti (Prod.fst (Prod.snd (Prod.fst y))) = (5 : Int) ∧ R18.st (Prod.fst
  (Prod.snd (Prod.fst y))) = Prod.snd xpᵥ1 ∧ R18.le (Prod.fst (Prod.snd (Prod.fst y))) = (0 : Int) ∧ (0 : Nat) = (0 : Nat) ∧ List.length (Prod.fst (Prod.snd (Prod.snd (Prod.fst y)))) = Int.toNat (min (modI n (70 : Int))
  (60 : Int)) ∧ Prod.fst (Prod.fst (Prod.snd y)) = KS.ck (Prod.fst xpᵥ1) ∧ (0 : Nat) = (0 : Nat) ∧ Prod.fst (Prod.snd (Prod.snd y)) = KS.n (Prod.fst xpᵥ1) ∧ Prod.snd (Prod.snd (Prod.snd y)) = KS.ca (Prod.fst xpᵥ1) ∧
  Int.toNat (min (modI n (70 : Int)) (60 : Int)) ≤ List.length (Prod.fst (Prod.snd (Prod.snd (Prod.fst y)))) ∧ Int.toNat (min (modI n (70 : Int)) (60 : Int)) ≤ KS.ck (Prod.fst xpᵥ1) ∧ KS.ck (Prod.fst xpᵥ1) ≤ Prod.fst
  (Prod.fst (Prod.snd y)) ∧ (∀ (j : Nat), j < Int.toNat (min (modI n (70 : Int)) (60 : Int)) → urow (Prod.fst (Prod.snd (Prod.snd (Prod.fst y)))) j = urow (usK (Rmq0 n)) j ∧ true = true) ∧ True) ([SV.agg [SV.g (Value.int
  IntKind.i64 (7 : Int)), SV.g (Value.int IntKind.i64 (1 : Int)), SV.g (Value.int IntKind.i64 (0 : Int)), SV.g (Value.int IntKind.i64 (0 : Int)), SV.g (Value.int IntKind.i64 (0 : Int)), SV.g (Value.int IntKind.i64 (0 :
  Int)), SV.g (Value.int IntKind.i64 (0 : Int)), SV.g (Value.int IntKind.i64 (0 : Int)), SV.g (Value.bool false), SV.g (Value.string (ByteArray.mk #[]))], SV.g (Value.bool false)] = [SV.agg (U.cells (U.mk (7 : Int) (1 :
  Int) (0 : Int) (0 : Int) (0 : Int) (0 : Int) (0 : Int) (0 : Int) false (ByteArray.mk #[]))), SV.g (Value.bool false)] ∧ True ∧ (0 : Nat) = (0 : Nat) ∧ (1 : Int) = (1 : Int) ∧ (0 : Int) = (0 : Int) ∧ (0 : Int) = (0 : Int)
  ∧ (0 : Int) = (0 : Int) ∧ (0 : Int) = (0 : Int) ∧ wrS (U.mk (7 : Int) (1 : Int) (0 : Int) (0 : Int) (0 : Int) (0 : Int) (0 : Int) (0 : Int) false (ByteArray.mk #[])) false = wrS (U.mk (7 : Int) (1 : Int) (0 : Int) (0 :
  Int) (0 : Int) (0 : Int) (0 : Int) (0 : Int) false (ByteArray.mk #[])) false ∧ (↑(Rmq0 n) : Int) = (↑(Rmq0 n) : Int) ∧ (0 : Int) = (0 : Int) ∧ (1 : Int) = (1 : Int) ∧ (2 : Int) = (2 : Int) ∧ (5 : Int) = (5 : Int) ∧
  Prod.snd xᵥ1 = Prod.snd xᵥ1 ∧ (0 : Int) = (0 : Int) ∧ (0 : Nat) = (0 : Nat) ∧ Int.toNat (min (modI n (70 : Int)) (60 : Int)) = List.length (Rmq1 n) ∧ KS.ck (Prod.fst xᵥ1) = KS.ck (Prod.fst xᵥ1) ∧ (0 : Nat) = (0 : Nat) ∧
  KS.n (Prod.fst xᵥ1) = KS.n (Prod.fst xᵥ1) ∧ KS.ca (Prod.fst xᵥ1) = KS.ca (Prod.fst xᵥ1) ∧ List.length (Rmq1 n) ≤ Int.toNat (min (modI n (70 : Int)) (60 : Int)) ∧ List.length (Rmq1 n) ≤ KS.ck (Prod.fst xᵥ1) ∧ KS.ck
  (Prod.fst xᵥ1) ≤ KS.ck (Prod.fst xᵥ1) ∧ (∀ (j : Nat), j < List.length (Rmq1 n) → urow (usK (Rmq0 n)) j = urow (Rmq1 n) j ∧ true = true) ∧ (O18.ok (O18.mk (R18.mk (↑(Rmq0 n) : Int) (0 : Int) (1 : Int) (2 : Int) (5 : Int)
  (Prod.snd xᵥ1) (0 : Int)) (Rmq1 n) (KS.ck (Prod.fst xᵥ1)) (KS.n (Prod.fst xᵥ1)) (KS.ca (Prod.fst xᵥ1))) ∧ (1 : Int) ≠ (0 : Int)) ∧ ∀ (y : (Int × T18) × (Nat × Nat) × Nat × Nat), Prod.fst y = onT (R18.mk (↑(Rmq0 n) : Int)
  (0 : Int) (1 : Int) (2 : Int) (5 : Int) (Prod.snd xᵥ1) (0 : Int)) (Rmq1 n) (Ev.mk (1 : Int) (0 : Int) (0 : Int) (0 : Int) (0 : Int) (wrS (U.mk (7 : Int) (1 : Int) (0 : Int) (0 : Int) (0 : Int) (0 : Int) (0 : Int) (0 :
  Int) false (ByteArray.mk #[])) false)) ∧ outWu (Prod.snd (Prod.fst y)) (Prod.snd y) → condX (!bif Prod.fst (Prod.fst y) != (0 : Int) then true else (↑(List.length (Prod.snd (Prod.snd (Prod.snd (Prod.fst y))))) : Int) !=
  if (60 : Int) < modI n (70 : Int) then (60 : Int) else modI n (70 : Int)) ((0 : Nat) = (0 : Nat) ∧ R18.nx (Prod.fst (Prod.snd (Prod.fst y))) = R18.nx (Prod.fst (Prod.snd (Prod.fst y))) ∧ R18.wa (Prod.fst (Prod.snd
  (Prod.fst y))) = R18.wa (Prod.fst (Prod.snd (Prod.fst y))) ∧ R18.ow (Prod.fst (Prod.snd (Prod.fst y))) = R18.ow (Prod.fst (Prod.snd (Prod.fst y))) ∧ R18.ot (Prod.fst (Prod.snd (Prod.fst y))) = R18.ot (Prod.fst (Prod.snd
  (Prod.fst y))) ∧ R18.ti (Prod.fst (Prod.snd (Prod.fst y))) = R18.ti (Prod.fst (Prod.snd (Prod.fst y))) ∧ R18.st (Prod.fst (Prod.snd (Prod.fst y))) = R18.st (Prod.fst (Prod.snd (Prod.fst y))) ∧ R18.le (Prod.fst (Prod.snd
  (Prod.fst y))) = R18.le (Prod.fst (Prod.snd (Prod.fst y))) ∧ (0 : Nat) = (0 : Nat) ∧ List.length (Prod.fst (Prod.snd (Prod.snd (Prod.fst y)))) = List.length (Prod.fst (Prod.snd (Prod.snd (Prod.fst y)))) ∧ Prod.fst
  (Prod.fst (Prod.snd y)) = Prod.fst (Prod.fst (Prod.snd y)) ∧ (0 : Nat) = (0 : Nat) ∧ Prod.fst (Prod.snd (Prod.snd y)) = Prod.fst (Prod.snd (Prod.snd y)) ∧ Prod.snd (Prod.snd (Prod.snd y)) = Prod.snd (Prod.snd (Prod.snd
  y)) ∧ pre18 (Prod.fst (Prod.snd (Prod.fst y)), (List.length (Prod.fst (Prod.snd (Prod.snd (Prod.fst y)))), Prod.fst (Prod.fst (Prod.snd y))), Prod.snd (Prod.snd y)) ∧ (True → condX (bif bif Prod.fst (Prod.fst y) != (0 :
  Int) then true else (↑(List.length (Prod.snd (Prod.snd (Prod.snd (Prod.fst y))))) : Int) != if (60 : Int) < modI n (70 : Int) then (60 : Int) else modI n (70 : Int) then true else (↑(List.length (Prod.fst (Prod.snd
  (Prod.snd (Prod.fst y))))) : Int) != if (60 : Int) < modI n (70 : Int) then (60 : Int) else modI n (70 : Int)) (SV.g (Value.bool false) = SV.g (Value.bool true)) ((∃ (xᵥ2 : Nat × Nat), (Prod.fst xᵥ2 ≤ Int.toNat (min
  (modI n (70 : Int)) (60 : Int)) ∧ Int.toNat (min (modI n (70 : Int)) (60 : Int)) ≤ Prod.snd xᵥ2) ∧ (0 : Nat) = (0 : Nat) ∧ List.length (Prod.snd (Prod.snd (Prod.snd (Prod.fst y)))) = Int.toNat (min (modI n (70 : Int))
  (60 : Int)) ∧ Prod.snd (Prod.fst (Prod.snd y)) = Prod.snd xᵥ2 ∧ (0 : Int) = (↑(Prod.fst xᵥ2) : Int) ∧ Int.toNat (min (modI n (70 : Int)) (60 : Int)) ≤ List.length (Prod.snd (Prod.snd (Prod.snd (Prod.fst y)))) ∧ Int.toNat
  (min (modI n (70 : Int)) (60 : Int)) ≤ Prod.snd xᵥ2 ∧ Prod.snd xᵥ2 ≤ Prod.snd (Prod.fst (Prod.snd y)) ∧ (∀ (j : Nat), j < Int.toNat (min (modI n (70 : Int)) (60 : Int)) → erow (Prod.snd (Prod.snd (Prod.snd (Prod.fst
  y)))) j = erow (List.map (sendE (rK (Rmq0 n) (0 : Int))) (usK (Rmq0 n))) j ∧ true = true) ∧ True) ∧ ∀ (xᵥ2 : Nat × Nat), Prod.fst xᵥ2 ≤ Int.toNat (min (modI n (70 : Int)) (60 : Int)) ∧ Int.toNat (min (modI n (70 : Int))
  (60 : Int)) ≤ Prod.snd xᵥ2 → condX (decide ((↑(Prod.fst xᵥ2) : Int) < (↑(Rmq0 n) : Int))) (((0 : Int) ≤ (↑(Prod.fst xᵥ2) : Int) ∧ (↑(Prod.fst xᵥ2) : Int) < (↑(Rmq0 n) : Int)) ∧ Int.toNat (↑(Prod.fst xᵥ2) : Int) <
  Int.toNat (min (modI n (70 : Int)) (60 : Int)) ∧ [SV.g (Value.string (Rmq2 n xᵥ2))] = [SV.g (Value.string (Rmq2 n xᵥ2))] ∧ True ∧ condX (bif bif bif bif bif Prod.snd (Prod.snd (rdT (Rmq2 n xᵥ2))) != (0 : Int) then true
  else U.k (Prod.fst (rdT (Rmq2 n xᵥ2))) != (5 : Int) then true else U.nu (Prod.fst (rdT (Rmq2 n xᵥ2))) != (↑(Prod.fst xᵥ2) : Int) then true else !decide (U.d (Prod.fst (rdT (Rmq2 n xᵥ2))) = ByteArray.mk #[(109 : UInt8)])
  then true else U.to (Prod.fst (rdT (Rmq2 n xᵥ2))) != (2 : Int) then true else !U.e (Prod.fst (rdT (Rmq2 n xᵥ2)))) (SV.g (Value.bool false) = SV.g (Value.bool true)) (∃ (xpᵥ2 : Nat × Nat), (Prod.fst xpᵥ2 ≤ Int.toNat (min
  (modI n (70 : Int)) (60 : Int)) ∧ Int.toNat (min (modI n (70 : Int)) (60 : Int)) ≤ Prod.snd xpᵥ2) ∧ Int.toNat (min (modI n (70 : Int)) (60 : Int)) - Prod.fst xpᵥ2 < Int.toNat (min (modI n (70 : Int)) (60 : Int)) -
  Prod.fst xᵥ2 ∧ (0 : Nat) = (0 : Nat) ∧ Int.toNat (min (modI n (70 : Int)) (60 : Int)) = Int.toNat (min (modI n (70 : Int)) (60 : Int)) ∧ Prod.snd xᵥ2 = Prod.snd xpᵥ2 ∧ IntKind.wrap IntKind.i64 ((↑(Prod.fst xᵥ2) : Int) +
  (1 : Int)) = (↑(Prod.fst xpᵥ2) : Int) ∧ Int.toNat (min (modI n (70 : Int)) (60 : Int)) ≤ Int.toNat (min (modI n (70 : Int)) (60 : Int)) ∧ Int.toNat (min (modI n (70 : Int)) (60 : Int)) ≤ Prod.snd xpᵥ2 ∧ Prod.snd xpᵥ2 ≤
  Prod.snd xᵥ2 ∧ (∀ (j : Nat), j < Int.toNat (min (modI n (70 : Int)) (60 : Int)) → erow (List.map (sendE (rK (Rmq0 n) (0 : Int))) (usK (Rmq0 n))) j = erow (List.map (sendE (rK (Rmq0 n) (0 : Int))) (usK (Rmq0 n))) j ∧ true
  = true) ∧ True)) (True ∧ SV.g (Value.bool true) = SV.g (Value.bool true))))) (condX (!bif Prod.fst (Prod.fst y) != (0 : Int) then true else (↑(List.length (Prod.snd (Prod.snd (Prod.snd (Prod.fst y))))) : Int) != if (60 :
  Int) < modI n (70 : Int) then (60 : Int) else modI n (70 : Int)) False ((bif Prod.fst (Prod.fst y) != (0 : Int) then true else (↑(List.length (Prod.snd (Prod.snd (Prod.snd (Prod.fst y))))) : Int) != if (60 : Int) < modI
  n (70 : Int) then (60 : Int) else modI n (70 : Int)) = true ∧ SV.g (Value.bool false) = SV.g (Value.bool true)))))) ∧ (¬newOK (1 : Int) (2 : Int) (5 : Int) → SV.g (Value.bool false) = SV.g (Value.bool true))
theorem vcResumeKeptE : VcResumeKept = (∀ (n z : Int), fnX ⟨ty, ΓOf Γrm, fun _ => [], lpK n z, 137, 2⟩ (bodyOf Try.f3) Try.f3.results.toList [.g (.int .i64 n), .g (.int .i64 z)] [] (fun r _ => r = .g (.bool true))) := by kernel_rfl
set_option maxRecDepth 100000 in
set_option maxHeartbeats 4000000 in
theorem vcResumeKept : VcResumeKept := by
  unfold VcResumeKept Rmq3 Rmq2 Rmq1 Rmq0
  intro n z
  have hK : ∀ c, List.map (fun j => uRow (urow (usK c) j)) (List.range c) = usK c := fun c => by
    have := uRow_urow (usK c); rw [usK_len] at this; exact this
  simp only [eq_self, true_and, and_true, Nat.le_refl, Int.le_refl, implies_true, forall_const, and_false, false_and, exists_false, false_or, or_false, true_implies, Nat.zero_add, and_self, Int.toNat_natCast, cond_true, cond_false, condT, condF, hK, eRow_erow]
  have hN : newOK 1 2 5 := by unfold newOK; decide
  have hn := modI_bd (x := n) (n := 70) (by decide)
  have hz := modI_bd (x := z) (n := 3) (by decide)
  obtain ⟨k, hk⟩ : ∃ k : Nat, modI n 70 = k := ⟨(modI n 70).toNat, by omega⟩
  obtain ⟨q, hq⟩ : ∃ q : Nat, modI z 3 = q := ⟨(modI z 3).toNat, by omega⟩
  rw [hk] at hn
  rw [hq] at hz
  simp only [hk, hq, Int.toNat_natCast]
  have okr : ∀ c st, c ≤ 60 → (st = 0 ∨ st = 1) → (rK c st).ok := fun c st h hs => ⟨⟨by show (0 : Int) ≤ c; omega, by show (c : Int) < 128; omega⟩, ⟨Int.le_refl 0, by show (0 : Int) < 128; decide⟩, ⟨by show (1 : Int) ≤ 5; decide, by show (5 : Int) ≤ 100; decide⟩, ⟨Int.le_refl 0, by show (0 : Int) ≤ 100; decide⟩, fun e => by have e : st = 3 := e; omega⟩
  refine ⟨fun _ => ⟨by decide, ⟨⟨0, 0, 0, 0⟩, ?_⟩, fun x hx => ?_⟩, fun h => absurd hN h⟩
  · dsimp only
    and_intros <;> first | with_reducible rfl | assumption | exact Nat.le_refl _ | exact Nat.zero_le _ | exact fun j hj => trivial | exact fun j hj => rfl | exact fun j hj => absurd hj (Nat.not_lt_zero _) | exact trivial | omega | rfl | skip
  obtain ⟨i, ck, m, ca⟩ := x
  obtain ⟨hi, hck⟩ : (i : Int) ≤ k ∧ min i 60 ≤ ck := hx
  dsimp only
  refine (condX_iff _ _ _).2 ⟨fun c => ?_, fun c => ?_⟩
  · have c := of_decide_eq_true c
    refine ⟨(usK_len _).symm, by rw [usK_len]; exact Nat.le_refl _, by rw [usK_len]; exact hck, ⟨⟨by rw [usK_len]; exact hck, by rw [usK_len]; omega, okr _ 0 (by omega) (Or.inl rfl)⟩, by decide⟩, fun y hy => ?_⟩
    obtain ⟨⟨err, r', us', es'⟩, ⟨k', a'⟩, n', ca'⟩ := y
    obtain ⟨hy1, hy2, hy3⟩ := hy
    have hy1 : (err, r', us', es') = onT (rK (min i 60) 0) (usK (min i 60)) eM := hy1
    have hc : min (i + 1) 60 = min (min i 60 + 1) 60 := by omega
    have key : err = (if i < 60 then 0 else 9) ∧ r' = rK (min (i + 1) 60) 0 ∧ us' = usK (min (i + 1) 60) := by
      by_cases h : i < 60
      · have h2 : min i 60 = i := by omega
        have h3 : min (i + 1) 60 = i + 1 := by omega
        rw [h2] at hy1
        obtain ⟨e1, e2, e3⟩ := onK1 h
        rw [← hy1] at e1 e2 e3
        rw [if_pos h, h3]; exact ⟨e1, e2, e3⟩
      · have h2 : min i 60 = 60 := by omega
        have h3 : min (i + 1) 60 = 60 := by omega
        rw [h2] at hy1
        obtain ⟨e1, e2, e3⟩ := onK2
        rw [← hy1] at e1 e2 e3
        rw [if_neg h, h3]; exact ⟨e1, e2, e3⟩
    obtain ⟨rfl, rfl, rfl⟩ := key
    dsimp only at hy2 hy3 ⊢
    rw [usK_len] at hy2
    refine (condX_iff _ _ _).2 ⟨fun g => ?_, fun g => ⟨⟨i + 1, k', n', ca'⟩, ⟨by dsimp only; omega, hy2⟩, ?_⟩⟩
    · exfalso
      by_cases h : i < 60
      · have h1 : (i : Int) < 60 := by omega
        have h2 : ¬ (60 : Int) ≤ i := by omega
        simp [h, h1, h2] at g
      · have h1 : ¬ (i : Int) < 60 := by omega
        have h2 : (60 : Int) ≤ i := by omega
        simp [h, h1, h2] at g
    · dsimp only [rK]
      rw [usK_len]
      and_intros <;> first | (rw [wrap1 (by omega) (by omega)]; omega) | with_reducible rfl | assumption | exact Nat.le_refl _ | exact Nat.zero_le _ | exact fun j hj => trivial | exact fun j hj => rfl | exact fun j hj => absurd hj (Nat.not_lt_zero _) | exact trivial | omega | rfl | skip
  have c := of_decide_eq_false c
  obtain rfl : i = k := by omega
  have e60 : (min (i : Int) 60).toNat = min i 60 := by omega
  have ite60 : (if (60 : Int) < i then (60 : Int) else i) = ((min i 60 : Nat) : Int) := by split <;> omega
  simp only [e60, ite60]
  obtain ⟨c60, hc60⟩ : ∃ c : Nat, min i 60 = c := ⟨_, rfl⟩
  have hcl : c60 ≤ 60 := by omega
  rw [hc60] at hck
  simp only [hc60]
  refine ⟨⟨(⟨0, ck, m, ca⟩, 0), ⟨by dsimp only; omega, hck, Or.inl rfl⟩, ?_⟩, fun x hx => ⟨by decide, ?_⟩⟩
  · dsimp only
    and_intros <;> first | with_reducible rfl | assumption | exact Nat.le_refl _ | exact Nat.zero_le _ | exact fun j hj => trivial | exact fun j hj => rfl | exact fun j hj => absurd hj (Nat.not_lt_zero _) | exact trivial | omega | rfl | skip
  clear hck
  obtain ⟨⟨i2, ck, m, ca⟩, st⟩ := x
  obtain ⟨hi2, hck, hst⟩ : (i2 : Int) ≤ q ∧ c60 ≤ ck ∧ (st = 0 ∨ st = 1) := hx
  dsimp only
  have hO : O18.ok ⟨rK c60 st, usK c60, ck, m, ca⟩ := ⟨by rw [usK_len]; exact hck, by rw [usK_len]; exact hcl, okr _ st hcl hst⟩
  refine (condX_iff _ _ _).2 ⟨fun d => ?_, fun d => ?_⟩
  · have d := of_decide_eq_true d
    refine ⟨(usK_len _).symm, by rw [usK_len]; exact Nat.le_refl _, by rw [usK_len]; exact hck, ⟨hO, by decide⟩, fun y hy => ?_⟩
    obtain ⟨⟨err, r', us', es'⟩, ⟨k', a'⟩, n', ca'⟩ := y
    obtain ⟨hy1, hy2, hy3⟩ := hy
    have hy1 : (err, r', us', es') = onT (rK c60 st) (usK c60) eR := hy1
    obtain ⟨e1, e2, e3⟩ := onK3 (i := c60) hst
    rw [← hy1] at e1 e2 e3
    dsimp only at e1 e2 e3 hy2 hy3 ⊢
    subst e2 e3
    rw [usK_len] at hy2
    refine ⟨(⟨i2 + 1, k', n', ca'⟩, 1), ⟨by dsimp only; omega, hy2, Or.inr rfl⟩, ?_⟩
    dsimp only [rK]
    rw [usK_len]
    and_intros <;> first | (rw [wrap1 (by omega) (by omega)]; omega) | with_reducible rfl | assumption | exact Nat.le_refl _ | exact Nat.zero_le _ | exact fun j hj => trivial | exact fun j hj => rfl | exact fun j hj => absurd hj (Nat.not_lt_zero _) | exact trivial | omega | rfl | skip
  refine ⟨rfl, (usK_len _).symm, by rw [usK_len]; exact Nat.le_refl _, by rw [usK_len]; exact hck, ⟨hO, by decide⟩, fun y hy => ?_⟩
  obtain ⟨⟨err, r', us', es'⟩, ⟨k', a'⟩, n', ca'⟩ := y
  obtain ⟨hy1, hy2, hy3⟩ := hy
  have hy1 : (err, r', us', es') = onT (rK c60 st) (usK c60) eJ := hy1
  rw [onK4 hcl hst] at hy1
  obtain ⟨rfl, rfl, rfl, rfl⟩ : err = 0 ∧ r' = rK c60 0 ∧ us' = usK c60 ∧ es' = (usK c60).map (sendE (rK c60 0)) := by simpa using hy1
  have hel : ((usK c60).map (sendE (rK c60 0))).length = c60 := by rw [List.length_map, usK_len]
  dsimp only at hy2 hy3 ⊢
  rw [hel] at hy3
  rw [usK_len] at hy2
  simp only [hel, usK_len, bne_self_eq_false, cond_false, cond_true, Bool.not_false, condT, condF]
  refine ⟨show (1 : Int) ≠ 0 by decide, ⟨(0, a'), ⟨Nat.zero_le _, hy3⟩, ?_⟩, fun x hx => ?_⟩
  · dsimp only
    and_intros <;> first | with_reducible rfl | assumption | exact Nat.le_refl _ | exact Nat.zero_le _ | exact fun j hj => trivial | exact fun j hj => rfl | exact fun j hj => absurd hj (Nat.not_lt_zero _) | exact trivial | omega | rfl | skip
  obtain ⟨i3, cc⟩ := x
  obtain ⟨hi3, hcc⟩ : i3 ≤ c60 ∧ c60 ≤ cc := hx
  dsimp only
  refine (condX_iff _ _ _).2 ⟨fun g => ?_, fun g => trivial⟩
  have g := of_decide_eq_true g
  have g3 : i3 < c60 := by omega
  have hev : ((usK c60).map (sendE (rK c60 0))).getD i3 eZero = sendE (rK c60 0) (dtU i3 mS) := by
    have := usK_get g3
    have hl : i3 < (usK c60).length := by rw [usK_len]; exact g3
    rw [List.getD_eq_getElem?_getD, List.getElem?_eq_getElem hl] at this
    simp only [Option.getD_some] at this
    simp [List.getD_eq_getElem?_getD, List.getElem?_map, List.getElem?_eq_getElem hl, this]
  have hrd : rdT (sendE (rK c60 0) (dtU i3 mS)).d = (toU (rK c60 0) (dtU i3 mS), false, 0) := rd_back (okDt c60 i3 (by omega)) false
  rw [hev, hrd]
  refine ⟨⟨by omega, by omega⟩, g3, (condX_iff _ _ _).2 ⟨fun e => ?_, fun _ => ⟨(i3 + 1, cc), ⟨g3, hcc⟩, ?_⟩⟩⟩
  · exfalso
    simp [toU, rK, mS] at e
  · dsimp only
    and_intros <;> first | (rw [wrap1 (by omega) (by omega)]; omega) | with_reducible rfl | assumption | exact Nat.le_refl _ | exact Nat.zero_le _ | exact fun j hj => trivial | exact fun j hj => rfl | exact fun j hj => absurd hj (Nat.not_lt_zero _) | exact trivial | omega | rfl | skip
theorem vcResumeKeptK : ∀ (n z : Int), Held (fnX ⟨ty, ΓOf Γrm, fun _ => [], lpK n z, 137, 2⟩ (bodyOf Try.f3) Try.f3.results.toList [.g (.int .i64 n), .g (.int .i64 z)] [] (fun r _ => r = .g (.bool true))) := held2 (p := fun (n z : Int) => fnX ⟨ty, ΓOf Γrm, fun _ => [], lpK n z, 137, 2⟩ (bodyOf Try.f3) Try.f3.results.toList [.g (.int .i64 n), .g (.int .i64 z)] [] (fun r _ => r = .g (.bool true))) vcResumeKeptE vcResumeKept
theorem pvK_int {pts : List PT} {pvs : List PV} (h : PVsOK (.flat [.int .i64] false :: pts) pvs) : ∃ (n : Int) (pvs' : List PV), pvs = .flat [.int .i64 n] false :: pvs' ∧ PVsOK pts pvs' := by
  obtain ⟨cs, pvs', rfl, h1, h2⟩ := pvs_flat h
  obtain ⟨b, cs', rfl, hw, h3⟩ := leafs_int h1
  obtain rfl := leafs_nil h3
  exact ⟨b, pvs', rfl, h2⟩
theorem kResumeKept : ∀ pvs, PVsOK [.flat [.int .i64] false, .flat [.int .i64] false] pvs → ∃ lp, Held (fnX ⟨ty, ΓOf Γrm, fun _ => [], lp, 137, 2⟩ (bodyOf Try.f3) Try.f3.results.toList (svs 0 pvs) (heaps 0 pvs) (fun r _ => r = .g (.bool true))) := by
  intro pvs h
  obtain ⟨n, pvs, rfl, h1⟩ := pvK_int h
  obtain ⟨z, pvs, rfl, h2⟩ := pvK_int h1
  obtain rfl := pvs_nil h2
  exact ⟨_, vcResumeKeptK n z⟩
noncomputable def lpKept : List PV → Nat → SS → List Ann := (choose_loop kResumeKept).choose
theorem kKept : ∀ pvs, PVsOK [.flat [.int .i64] false, .flat [.int .i64] false] pvs → Held (fnX ⟨ty, ΓOf Γrm, fun _ => [], lpKept pvs, 137, 2⟩ (bodyOf Try.f3) Try.f3.results.toList (svs 0 pvs) (heaps 0 pvs) (fun r _ => r = .g (.bool true))) := (choose_loop kResumeKept).choose_spec
end Go.Proofs.Ytghbejmnnfoamaa
namespace Go.Proofs.Ytghbejmnnfoamaa.resumeKept
open Go.ChangeShapes Go.WideShapes Go.RowKit Go.Eng
theorem own : ownKnob Try.prog.godebug = none := by kernel_rfl
theorem laidOut : laidOutB Try.prog = true := by kernel_rfl
theorem spec_fn {H : Type} (ds : List (DataW H)) (h : ds.length = 2) : Rows.resumeKeptSpec.fn H ds = { results := [.lit (.bool true)], args := ds } := by
  rcases ds with _ | ⟨d0, _ | ⟨d1, _ | _⟩⟩ <;> first | rfl | (simp at h)
set_option maxRecDepth 100000 in
theorem lifted (os : Os) (started : os.Started) (H : Type) (enc : TypeId × Value → H) :
    ReturnsInHanded {} Try.checked os 3 .any (Rows.resumeKeptSpec.pre6 enc Try.prog Try.f3 Rows.resumeKeptRow.domain false) (Rows.resumeKeptSpec.post enc Try.prog Try.f3 false true false false) :=
  law_of (C := Try.checked) (ty := ty) (Γ := ΓOf Γrm) started own laidOut hm tyOK Γrm_ok (by kernel_rfl) Try.func3 (body_some (by kernel_rfl)) Try.ntmps3 (s := Rows.resumeKeptSpec)
    (ChangeSpec.witness6 (enc := enc) (C := Try.checked) false ⟨#[], #[.int .i64 0, .int .i64 0], []⟩ 8 (by kernel_rfl) (by kernel_rfl) (by kernel_rfl) (by kernel_rfl))
    (pts := [.flat [.int .i64] false, .flat [.int .i64] false]) (by kernel_rfl) (Nat.le_of_ble_eq_true rfl) (by kernel_rfl) (by kernel_rfl) Try.underlying4 rfl spec_fn _ _ kKept
theorem over : Rows.resumeKeptRow.holds Try.pinned (OpenSpec.ofChange Rows.resumeKeptSpec) :=
  OpenClaim.holds_of_wide 3 Try.f3 rfl rfl rfl rfl rfl rfl rfl ⟨rfl, rfl, rfl, rfl, rfl⟩ rfl rfl rfl rfl rfl (by kernel_rfl) Try.func3 (by kernel_rfl)
    (of_decide_eq_true (by kernel_rfl)) (by unfold Func.isWrapper; first | (rw [if_pos (by decide +kernel)]; kernel_rfl) | (rw [if_neg (by decide +kernel)]; exact ⟨rfl, rfl⟩))
    (fun os started H enc _ => lifted os started H enc)
end Go.Proofs.Ytghbejmnnfoamaa.resumeKept
namespace Go.Proofs.Ytghbejmnnfoamaa
theorem resumeKept_holds : Rows.ResumeKeptSaid := resumeKept.over
#print axioms resumeKept_holds
end Go.Proofs.Ytghbejmnnfoamaa
