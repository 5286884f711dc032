/- Chapter 18: the law ResumeScripts: a side tells what the specification tells, event by event. -/
import Derived.Test.YtghbejmnnfoamaaRj
set_option linter.unusedVariables false
set_option linter.unusedSimpArgs false
namespace Go.Proofs.Ytghbejmnnfoamaa
open Go Go.Eng
attribute [local irreducible] condX
/-! ### what stays true of a side -/
structure Good (r : R18) (us : List U) : Prop where
  ok : r.ok
  k60 : us.length ≤ 60
  kept : us = keptU r.nx (us.map U.d)
  cl : r.st = 2 → us = []
theorem Good.nil {r : R18} (h : r.ok) : Good r [] := ⟨h, Nat.zero_le _, rfl, fun _ => rfl⟩
theorem Good.turn {r r' : R18} {us : List U} (h : Good r us) (h' : r'.ok) (hn : r'.nx = r.nx) (hs : r'.st = 2 → us = []) : Good r' us := ⟨h', h.k60, by rw [hn]; exact h.kept, hs⟩
theorem Good.drop {r : R18} {us : List U} (h : Good r us) (k : Nat) (hk : k ≤ us.length) : Good r (us.drop k) := by
  refine ⟨h.ok, by rw [List.length_drop]; have := h.k60; omega, ?_, fun e => by rw [h.cl e]; simp⟩
  rw [List.map_drop, ← keptU_drop (by simpa using hk), ← h.kept]
theorem good_us {r : R18} {us : List U} (h : Good r us) (e : Ev) : Good (usR r us e) (usU r us e) ∧ (usR r us e).ow = r.ow ∧ (usA r us [] e).length ≤ 100 ∧ (usE r us e ≠ 0 → usA r us [] e = []) := by
  by_cases h0 : usE r us e ≠ 0
  · simp only [usR, usU, usA, h0, ne_eq, not_false_eq_true, if_true]
    exact ⟨h, trivial, by simp, fun _ => trivial⟩
  · have h0 : usE r us e = 0 := by omega
    have k60 : e.k = 4 ∨ us.length < 60 := by
      unfold usE at h0
      by_cases k4 : e.k = 4
      · exact Or.inl k4
      · right
        split at h0
        · omega
        split at h0
        · omega
        split at h0 <;> omega
    have hs : r.st = 0 ∨ r.st = 1 := by
      unfold usE at h0
      split at h0
      · omega
      split at h0
      · omega
      · rename_i h; omega
    by_cases k4 : e.k = 4
    · simp only [usR, usU, usA, h0, ne_eq, not_true_eq_false, if_false, k4, if_true]
      exact ⟨Good.nil (ok_st h.ok (s := 2) (by decide)), trivial, by simp, fun h => h.elim⟩
    · simp only [usR, usU, usA, h0, ne_eq, not_true_eq_false, if_false, k4]
      refine ⟨⟨ok_nx h.ok, by simp; omega, ?_, fun h => by dsimp only at h; omega⟩, trivial, by split <;> simp, fun h => h.elim⟩
      dsimp only
      rw [List.map_append, show List.map U.d [dtU r.nx e.d] = [e.d] from rfl, keptU_add e.d h.ok.nx (by have := h.k60; simp; omega), ← h.kept]
theorem good_fr {r : R18} (h : r.ok) (es : List Ev) : Good (frT r es).1 (frT r es).2.1 :=
  Good.nil ⟨h.nx, h.wa, h.ti, ⟨by have := h.ti; show 0 ≤ r.ti; omega, h.ti.2⟩, fun _ => h.ti.1⟩
theorem good_ack {r : R18} {us : List U} (h : Good r us) (u : U) (hs : r.st = 0 ∨ r.st = 1) : Good (ackR r us u) (ackU r us u) ∧ (ackR r us u).ow = r.ow ∧ (ackA r us [] u).length ≤ 100 := by
  unfold ackR ackU ackA
  by_cases hl : (us.length : Int) < ackN r us u
  · simp only [hl, if_true]; exact ⟨h, trivial, by simp⟩
  · simp only [hl, if_false]
    have hd : (ackN r us u).toNat ≤ us.length := by omega
    have hg := h.drop _ hd
    have h60 := h.k60
    by_cases k7 : u.k = 7
    · simp only [k7, if_true]
      exact ⟨hg.turn (ok_st h.ok (s := 0) (by decide)) rfl fun e => absurd (show (0 : Int) = 2 from e) (by decide), trivial, by simp; omega⟩
    · simp only [k7, if_false]
      exact ⟨hg, trivial, by simp⟩
theorem good_un {r : R18} {us : List U} (h : Good r us) (u : U) : Good (unT r us [] u).1 (unT r us [] u).2.1 ∧ (unT r us [] u).1.ow = r.ow ∧ (unT r us [] u).2.2.length ≤ 100 := by
  unfold unT
  split
  · exact ⟨h, rfl, by simp⟩
  split
  · rename_i hk
    split
    · exact ⟨h, rfl, by simp⟩
    · refine ⟨h.turn (ok_wa h.ok) rfl fun e => h.cl e, rfl, ?_⟩
      dsimp only
      split <;> simp
  split
  · rename_i hk
    exact good_ack h u hk.2
  split
  · exact ⟨good_fr h.ok _, rfl, by simp [frT]⟩
  split
  · exact ⟨h, rfl, by simp⟩
  split
  · exact ⟨good_fr h.ok _, rfl, by simp [frT]⟩
  · exact ⟨h, rfl, by simp⟩
theorem good_on {r : R18} {us : List U} (h : Good r us) (e : Ev) : Good (onT r us e).2.1 (onT r us e).2.2.1 ∧ (onT r us e).2.1.ow = r.ow ∧ (onT r us e).2.2.2.length ≤ 100 ∧ ((onT r us e).1 ≠ 0 → (onT r us e).2.2.2 = []) := by
  unfold onT
  split
  · exact good_us h e
  split
  · dsimp only
    split
    · obtain ⟨a, b, c⟩ := good_un h (rdT e.d).1
      exact ⟨a, b, c, fun h => absurd rfl h⟩
    · exact ⟨h, rfl, by simp, fun h => absurd rfl h⟩
  split
  · refine ⟨?_, ?_, ?_, fun h => absurd rfl h⟩
    · dsimp only
      unfold rstR
      split
      · exact h.turn (ok_st h.ok (s := 1) (by decide)) rfl fun e => absurd (show (1 : Int) = 2 from e) (by decide)
      · exact h
    · dsimp only; unfold rstR; split <;> rfl
    · dsimp only; unfold rstE; split
      · simp
      split <;> simp
  split
  · refine ⟨?_, ?_, by simp, fun h => absurd rfl h⟩
    · dsimp only
      unfold tkR
      have := h.ok.le
      split
      · rename_i s3
        have h1 := h.ok.st s3
        split
        · exact h.turn ⟨h.ok.nx, h.ok.wa, h.ok.ti, by dsimp only; omega, fun e => absurd (show (4 : Int) = 3 from e) (by decide)⟩ rfl fun e => absurd (show (4 : Int) = 2 from e) (by decide)
        · exact h.turn ⟨h.ok.nx, h.ok.wa, h.ok.ti, by dsimp only; omega, fun _ => by dsimp only; omega⟩ rfl fun e => absurd (show (3 : Int) = 2 from e) (by decide)
      · exact h
    · dsimp only; unfold tkR; split
      · split <;> rfl
      · rfl
  · exact ⟨h, rfl, by simp, fun _ => rfl⟩
/-! ### the law -/
structure L18 where
  r : R18
  ds : List ByteArray
  fi : Int
  ck : Nat
  n : Nat
  ca : Nat
  cq : Nat
  i : Nat
structure L18.ok (x : L18) (len : Nat) : Prop where
  g : Good x.r (keptU x.r.nx x.ds)
  ow : x.r.ow ≠ 0
  ck : x.ds.length ≤ x.ck
  cq : x.ds.length ≤ x.cq
  fi : x.ds ≠ [] → x.fi = kN x.r.nx x.ds.length 0
  i : x.i ≤ len
def annS (l : List Ev) (cap : Nat) : Ann := ⟨L18, fun x => ⟨[(1, .sl 1 0 6 l.length cap), (5, .ptr 2 0 0 0), (7, .ptr 5 0 0 0), (9, .g (.int .i64 x.i))],
  [(1, .ro 6 l.length (erow l)), (2, .cells (x.r.cells (.sl 3 0 10 x.ds.length x.ck) (.sl 4 0 6 x.n x.ca)) 55), (3, .view 10 x.ds.length x.ck (urow (keptU x.r.nx x.ds)) 60), (5, .cells (x.r.qcells x.fi (.sl 6 0 1 x.ds.length x.cq)) 73), (6, .view 1 x.ds.length x.cq (drow x.ds) 9)], 7, 0, []⟩,
  fun x => x.ok l.length, fun x => l.length - x.i⟩
def lpS (l : List Ev) (cap : Nat) (i : Nat) (s : SS) : List Ann := match Eng.look 5 s.F with
  | some (.g (.pointer none)) => []
  | _ => if i = 6 then [annS l cap] else []
def Rkq0 (x : L18) (l : List Ev) := (onT (L18.r x) (us0 (P18.mk (L18.r x) (L18.fi x) (List.map (fun (j : Nat) => dRow (drow (L18.ds x) j)) (List.range (List.length (L18.ds x)))) (L18.cq x))) (List.getD l (Int.toNat (↑(L18.i x) : Int)) eZero))
def Rkq1 (x : L18) (l : List Ev) := (onT (L18.r x) (List.map (fun (j : Nat) => uRow (urow (keptU (R18.nx (L18.r x)) (L18.ds x)) j)) (List.range (List.length (L18.ds x)))) (List.getD l (Int.toNat (↑(L18.i x) : Int)) eZero))
def Rkq2 (x : L18) (l : List Ev) := (List.map (fun (j : Nat) => eRow (erow (Prod.snd (Prod.snd (Prod.snd (Rkq0 x l)))) j)) (List.range (List.length (Prod.snd (Prod.snd (Prod.snd (Rkq0 x l)))))))
def Rkq3 (l : List Ev) (x : L18) := (List.getD l (Int.toNat (↑(L18.i x) : Int)) eZero)
def Rkq4 (x : L18) := (List.map (fun (j : Nat) => dRow (drow (L18.ds x) j)) (List.range (List.length (L18.ds x))))
def Rkq5 (x : L18) (l : List Ev) := (List.map U.d (Prod.fst (Prod.snd (Prod.snd (Rkq0 x l)))))
def Rkq6 (x : L18) (l : List Ev) := (List.map (fun (j : Nat) => eRow (erow (Prod.snd (Prod.snd (Prod.snd (Rkq1 x l)))) j)) (List.range (List.length (Prod.snd (Prod.snd (Prod.snd (Rkq1 x l)))))))
def Rkq7 (x : L18) := (List.map (fun (j : Nat) => uRow (urow (keptU (R18.nx (L18.r x)) (L18.ds x)) j)) (List.range (List.length (L18.ds x))))
def Rkq8 (x : L18) (l : List Ev) := (Prod.fst (Prod.snd (Prod.snd (Rkq1 x l))))
set_option maxRecDepth 100000 in
def VcResumeScripts : Prop := ∀ (p : Int × Int × Int) (l : List Ev) (q : (Nat → List SV) × Nat), RowsE l (Prod.fst q) (Prod.snd q) → Prod.fst p = Prod.fst p ∧ Prod.fst (Prod.snd p) = Prod.fst (Prod.snd p) ∧ Prod.snd (Prod.snd p) = Prod.snd (Prod.snd
  p) ∧ True ∧ (newOK (Prod.fst p) (Prod.fst (Prod.snd p)) (Prod.snd (Prod.snd p)) → Prod.fst p = Prod.fst p ∧ Prod.fst (Prod.snd p) = Prod.fst (Prod.snd p) ∧ Prod.snd (Prod.snd p) = Prod.snd (Prod.snd p) ∧ True ∧ (newOK
  (Prod.fst p) (Prod.fst (Prod.snd p)) (Prod.snd (Prod.snd p)) → (∃ (x : L18), L18.ok x (List.length l) ∧ (0 : Nat) = (0 : Nat) ∧ List.length l = List.length l ∧ Prod.snd q = Prod.snd q ∧ (0 : Nat) = (0 : Nat) ∧ (0 : Nat)
  = (0 : Nat) ∧ (0 : Int) = (↑(L18.i x) : Int) ∧ List.length l ≤ Prod.snd q ∧ (∀ (j : Nat), j < List.length l → Prod.fst q j = erow l j ∧ true = true) ∧ (0 : Int) = R18.nx (L18.r x) ∧ (0 : Int) = R18.wa (L18.r x) ∧
  Prod.fst p = R18.ow (L18.r x) ∧ Prod.fst (Prod.snd p) = R18.ot (L18.r x) ∧ Prod.snd (Prod.snd p) = R18.ti (L18.r x) ∧ (0 : Int) = R18.st (L18.r x) ∧ (0 : Int) = R18.le (L18.r x) ∧ List.length (L18.ds x) = (0 : Nat) ∧
  L18.ck x = (0 : Nat) ∧ L18.n x = (0 : Nat) ∧ L18.ca x = (0 : Nat) ∧ List.length (L18.ds x) = (0 : Nat) ∧ true = true ∧ Prod.fst p = R18.ow (L18.r x) ∧ Prod.fst (Prod.snd p) = R18.ot (L18.r x) ∧ Prod.snd (Prod.snd p) =
  R18.ti (L18.r x) ∧ (0 : Int) = R18.nx (L18.r x) ∧ (0 : Int) = R18.wa (L18.r x) ∧ (0 : Int) = R18.st (L18.r x) ∧ (0 : Int) = R18.le (L18.r x) ∧ (0 : Int) = L18.fi x ∧ List.length (L18.ds x) = (0 : Nat) ∧ L18.cq x = (0 :
  Nat) ∧ List.length (L18.ds x) = (0 : Nat) ∧ True) ∧ ∀ (x : L18), L18.ok x (List.length l) → condX (bif bif true then decide ((↑(L18.i x) : Int) < (↑(List.length l) : Int)) else false then decide ((↑(L18.i x) : Int) <
  (300 : Int)) else false) (((0 : Int) ≤ (↑(L18.i x) : Int) ∧ (↑(L18.i x) : Int) < (↑(List.length l) : Int)) ∧ Int.toNat (↑(L18.i x) : Int) < List.length l ∧ condX (selZ [SV.ptr (2 : Nat) (0 : Nat) (0 : Nat) (0 : Nat),
  SV.agg (List.take (6 : Nat) (List.drop (0 : Nat) (erow l (Int.toNat (↑(L18.i x) : Int)))))] [((1 : Nat), SO.ro (6 : Nat) (List.length l) (erow l)), ((2 : Nat), SO.cells (R18.cells (L18.r x) (SV.sl (3 : Nat) (0 : Nat) (10
  : Nat) (List.length (L18.ds x)) (L18.ck x)) (SV.sl (4 : Nat) (0 : Nat) (6 : Nat) (L18.n x) (L18.ca x))) (55 : Nat)), ((3 : Nat), SO.view (10 : Nat) (List.length (L18.ds x)) (L18.ck x) (urow (keptU (R18.nx (L18.r x))
  (L18.ds x))) (60 : Nat)), ((5 : Nat), SO.cells (R18.qcells (L18.r x) (L18.fi x) (SV.sl (6 : Nat) (0 : Nat) (1 : Nat) (List.length (L18.ds x)) (L18.cq x))) (73 : Nat)), ((6 : Nat), SO.view (1 : Nat) (List.length (L18.ds
  x)) (L18.cq x) (drow (L18.ds x)) (9 : Nat))]) ((0 : Nat) = (0 : Nat) ∧ Ev.w (Rkq3 l x) = Ev.w (Rkq3 l x) ∧ Ev.k (Rkq3 l x) = Ev.k (Rkq3 l x) ∧ Ev.a (Rkq3 l x) = Ev.a (Rkq3 l x) ∧ Ev.b (Rkq3 l x) = Ev.b (Rkq3 l x) ∧ Ev.c
  (Rkq3 l x) = Ev.c (Rkq3 l x) ∧ Ev.d (Rkq3 l x) = Ev.d (Rkq3 l x) ∧ R18.nx (L18.r x) = R18.nx (L18.r x) ∧ R18.wa (L18.r x) = R18.wa (L18.r x) ∧ R18.ow (L18.r x) = R18.ow (L18.r x) ∧ R18.ot (L18.r x) = R18.ot (L18.r x) ∧
  R18.ti (L18.r x) = R18.ti (L18.r x) ∧ R18.st (L18.r x) = R18.st (L18.r x) ∧ R18.le (L18.r x) = R18.le (L18.r x) ∧ (0 : Nat) = (0 : Nat) ∧ List.length (L18.ds x) = List.length (L18.ds x) ∧ L18.ck x = L18.ck x ∧ (0 : Nat)
  = (0 : Nat) ∧ L18.n x = L18.n x ∧ L18.ca x = L18.ca x ∧ R18.ow (L18.r x) = (0 : Int) ∧ (True → ((0 : Int) ≤ (↑(L18.i x) : Int) ∧ (↑(L18.i x) : Int) < (↑(List.length l) : Int)) ∧ Int.toNat (↑(L18.i x) : Int) < List.length
  l ∧ (0 : Nat) = (0 : Nat) ∧ Ev.w (Rkq3 l x) = Ev.w (Rkq3 l x) ∧ Ev.k (Rkq3 l x) = Ev.k (Rkq3 l x) ∧ Ev.a (Rkq3 l x) = Ev.a (Rkq3 l x) ∧ Ev.b (Rkq3 l x) = Ev.b (Rkq3 l x) ∧ Ev.c (Rkq3 l x) = Ev.c (Rkq3 l x) ∧ Ev.d (Rkq3 l
  x) = Ev.d (Rkq3 l x) ∧ true = true ∧ R18.ow (L18.r x) = R18.ow (L18.r x) ∧ R18.ot (L18.r x) = R18.ot (L18.r x) ∧ R18.ti (L18.r x) = R18.ti (L18.r x) ∧ R18.nx (L18.r x) = R18.nx (L18.r x) ∧ R18.wa (L18.r x) = R18.wa
  (L18.r x) ∧ R18.st (L18.r x) = R18.st (L18.r x) ∧ R18.le (L18.r x) = R18.le (L18.r x) ∧ L18.fi x = L18.fi x ∧ (0 : Nat) = (0 : Nat) ∧ List.length (L18.ds x) = List.length (Rkq4 x) ∧ L18.cq x = L18.cq x ∧ List.length
  (Rkq4 x) ≤ List.length (L18.ds x) ∧ List.length (Rkq4 x) ≤ L18.cq x ∧ L18.cq x ≤ L18.cq x ∧ (∀ (j : Nat), j < List.length (Rkq4 x) → drow (L18.ds x) j = drow (Rkq4 x) j ∧ true = true) ∧ P18.ok (P18.mk (L18.r x) (L18.fi
  x) (Rkq4 x) (L18.cq x)) ∧ ∀ (y : Int × Nat × Nat), outC3 (Prod.snd (Rkq0 x l)) y → condX (!(1 : Int) != Prod.fst (Rkq0 x l)) ((0 : Nat) = (0 : Nat) ∧ (0 : Nat) = (0 : Nat) ∧ (0 : Nat) = (0 : Nat) ∧ List.length (Prod.snd
  (Prod.snd (Prod.snd (Rkq0 x l)))) = List.length (Rkq2 x l) ∧ Prod.snd (Prod.snd y) = Prod.snd (Prod.snd y) ∧ (0 : Nat) = (0 : Nat) ∧ List.length (Rkq2 x l) ≤ List.length (Prod.snd (Prod.snd (Prod.snd (Rkq0 x l)))) ∧
  List.length (Rkq2 x l) ≤ Prod.snd (Prod.snd y) ∧ Prod.snd (Prod.snd y) ≤ Prod.snd (Prod.snd y) ∧ (∀ (j : Nat), j < List.length (Rkq2 x l) → erow (Prod.snd (Prod.snd (Prod.snd (Rkq0 x l)))) j = erow (Rkq2 x l) j ∧ true =
  true) ∧ EE.ok (EE.mk [] (Rkq2 x l) (0 : Nat) (Prod.snd (Prod.snd y))) ∧ (True → condX (!bif (1 : Int) != Prod.fst (Rkq0 x l) then true else false) ((0 : Nat) = (0 : Nat) ∧ (0 : Nat) = (0 : Nat) ∧ R18.nx (L18.r x) =
  R18.nx (L18.r x) ∧ R18.wa (L18.r x) = R18.wa (L18.r x) ∧ R18.ow (L18.r x) = R18.ow (L18.r x) ∧ R18.ot (L18.r x) = R18.ot (L18.r x) ∧ R18.ti (L18.r x) = R18.ti (L18.r x) ∧ R18.st (L18.r x) = R18.st (L18.r x) ∧ R18.le
  (L18.r x) = R18.le (L18.r x) ∧ (0 : Nat) = (0 : Nat) ∧ List.length (L18.ds x) = List.length (L18.ds x) ∧ L18.ck x = L18.ck x ∧ (0 : Nat) = (0 : Nat) ∧ L18.n x = L18.n x ∧ L18.ca x = L18.ca x ∧ true = true ∧ R18.ow
  (Prod.fst (Prod.snd (Rkq0 x l))) = R18.ow (Prod.fst (Prod.snd (Rkq0 x l))) ∧ R18.ot (Prod.fst (Prod.snd (Rkq0 x l))) = R18.ot (Prod.fst (Prod.snd (Rkq0 x l))) ∧ R18.ti (Prod.fst (Prod.snd (Rkq0 x l))) = R18.ti (Prod.fst
  (Prod.snd (Rkq0 x l))) ∧ R18.nx (Prod.fst (Prod.snd (Rkq0 x l))) = R18.nx (Prod.fst (Prod.snd (Rkq0 x l))) ∧ R18.wa (Prod.fst (Prod.snd (Rkq0 x l))) = R18.wa (Prod.fst (Prod.snd (Rkq0 x l))) ∧ R18.st (Prod.fst (Prod.snd
  (Rkq0 x l))) = R18.st (Prod.fst (Prod.snd (Rkq0 x l))) ∧ R18.le (Prod.fst (Prod.snd (Rkq0 x l))) = R18.le (Prod.fst (Prod.snd (Rkq0 x l))) ∧ Prod.fst y = Prod.fst y ∧ (0 : Nat) = (0 : Nat) ∧ List.length (Rkq5 x l) =
  List.length (Rkq5 x l) ∧ Prod.fst (Prod.snd y) = Prod.fst (Prod.snd y) ∧ (R18.ow (L18.r x) ≠ (0 : Int) ∧ Prod.fst (Prod.snd (Rkq0 x l)) = L18.r x ∧ List.length (Rkq5 x l) = List.length (L18.ds x)) ∧ (True → condX (bif
  bif (1 : Int) != Prod.fst (Rkq0 x l) then true else false then true else false) (SV.g (Value.bool false) = SV.g (Value.bool true)) (∃ (x' : L18), L18.ok x' (List.length l) ∧ List.length l - L18.i x' < List.length l -
  L18.i x ∧ (0 : Nat) = (0 : Nat) ∧ List.length l = List.length l ∧ Prod.snd q = Prod.snd q ∧ (0 : Nat) = (0 : Nat) ∧ (0 : Nat) = (0 : Nat) ∧ IntKind.wrap IntKind.i64 ((↑(L18.i x) : Int) + (1 : Int)) = (↑(L18.i x') : Int)
  ∧ List.length l ≤ List.length l ∧ (∀ (j : Nat), j < List.length l → erow l j = erow l j ∧ true = true) ∧ R18.nx (L18.r x) = R18.nx (L18.r x') ∧ R18.wa (L18.r x) = R18.wa (L18.r x') ∧ R18.ow (L18.r x) = R18.ow (L18.r x')
  ∧ R18.ot (L18.r x) = R18.ot (L18.r x') ∧ R18.ti (L18.r x) = R18.ti (L18.r x') ∧ R18.st (L18.r x) = R18.st (L18.r x') ∧ R18.le (L18.r x) = R18.le (L18.r x') ∧ (0 : Nat) = (0 : Nat) ∧ List.length (L18.ds x) = List.length
  (L18.ds x') ∧ L18.ck x = L18.ck x' ∧ (0 : Nat) = (0 : Nat) ∧ L18.n x = L18.n x' ∧ L18.ca x = L18.ca x' ∧ List.length (L18.ds x') ≤ List.length (L18.ds x) ∧ List.length (L18.ds x') ≤ L18.ck x' ∧ L18.ck x' ≤ L18.ck x ∧ (∀
  (j : Nat), j < List.length (L18.ds x') → urow (keptU (R18.nx (L18.r x)) (L18.ds x)) j = urow (keptU (R18.nx (L18.r x')) (L18.ds x')) j ∧ true = true) ∧ true = true ∧ R18.ow (Prod.fst (Prod.snd (Rkq0 x l))) = R18.ow
  (L18.r x') ∧ R18.ot (Prod.fst (Prod.snd (Rkq0 x l))) = R18.ot (L18.r x') ∧ R18.ti (Prod.fst (Prod.snd (Rkq0 x l))) = R18.ti (L18.r x') ∧ R18.nx (Prod.fst (Prod.snd (Rkq0 x l))) = R18.nx (L18.r x') ∧ R18.wa (Prod.fst
  (Prod.snd (Rkq0 x l))) = R18.wa (L18.r x') ∧ R18.st (Prod.fst (Prod.snd (Rkq0 x l))) = R18.st (L18.r x') ∧ R18.le (Prod.fst (Prod.snd (Rkq0 x l))) = R18.le (L18.r x') ∧ Prod.fst y = L18.fi x' ∧ (0 : Nat) = (0 : Nat) ∧
  List.length (Rkq5 x l) = List.length (L18.ds x') ∧ Prod.fst (Prod.snd y) = L18.cq x' ∧ List.length (L18.ds x') ≤ List.length (Rkq5 x l) ∧ List.length (L18.ds x') ≤ L18.cq x' ∧ L18.cq x' ≤ Prod.fst (Prod.snd y) ∧ (∀ (j :
  Nat), j < List.length (L18.ds x') → drow (Rkq5 x l) j = drow (L18.ds x') j ∧ true = true) ∧ True))) (condX (!bif (1 : Int) != Prod.fst (Rkq0 x l) then true else false) False ((bif (1 : Int) != Prod.fst (Rkq0 x l) then
  true else false) = true ∧ SV.g (Value.bool false) = SV.g (Value.bool true))))) (condX (!(1 : Int) != Prod.fst (Rkq0 x l)) False (((1 : Int) != Prod.fst (Rkq0 x l)) = true ∧ true = true ∧ SV.g (Value.bool false) = SV.g
  (Value.bool true))))) ((0 : Nat) = (0 : Nat) ∧ Ev.w (Rkq3 l x) = Ev.w (Rkq3 l x) ∧ Ev.k (Rkq3 l x) = Ev.k (Rkq3 l x) ∧ Ev.a (Rkq3 l x) = Ev.a (Rkq3 l x) ∧ Ev.b (Rkq3 l x) = Ev.b (Rkq3 l x) ∧ Ev.c (Rkq3 l x) = Ev.c (Rkq3
  l x) ∧ Ev.d (Rkq3 l x) = Ev.d (Rkq3 l x) ∧ R18.nx (L18.r x) = R18.nx (L18.r x) ∧ R18.wa (L18.r x) = R18.wa (L18.r x) ∧ R18.ow (L18.r x) = R18.ow (L18.r x) ∧ R18.ot (L18.r x) = R18.ot (L18.r x) ∧ R18.ti (L18.r x) = R18.ti
  (L18.r x) ∧ R18.st (L18.r x) = R18.st (L18.r x) ∧ R18.le (L18.r x) = R18.le (L18.r x) ∧ (0 : Nat) = (0 : Nat) ∧ List.length (L18.ds x) = List.length (Rkq7 x) ∧ L18.ck x = L18.ck x ∧ (0 : Nat) = (0 : Nat) ∧ L18.n x =
  L18.n x ∧ L18.ca x = L18.ca x ∧ List.length (Rkq7 x) ≤ List.length (L18.ds x) ∧ List.length (Rkq7 x) ≤ L18.ck x ∧ L18.ck x ≤ L18.ck x ∧ (∀ (j : Nat), j < List.length (Rkq7 x) → urow (keptU (R18.nx (L18.r x)) (L18.ds x))
  j = urow (Rkq7 x) j ∧ true = true) ∧ (O18.ok (O18.mk (L18.r x) (Rkq7 x) (L18.ck x) (L18.n x) (L18.ca x)) ∧ R18.ow (L18.r x) ≠ (0 : Int)) ∧ (∀ (yᵥ1 : Nat × Nat), Prod.fst (Rkq1 x l) = (0 : Int) ∧ outC (Rkq8 x l) (Prod.snd
  (Prod.snd (Prod.snd (Rkq1 x l)))) yᵥ1 → ((0 : Int) ≤ (↑(L18.i x) : Int) ∧ (↑(L18.i x) : Int) < (↑(List.length l) : Int)) ∧ Int.toNat (↑(L18.i x) : Int) < List.length l ∧ (0 : Nat) = (0 : Nat) ∧ Ev.w (Rkq3 l x) = Ev.w
  (Rkq3 l x) ∧ Ev.k (Rkq3 l x) = Ev.k (Rkq3 l x) ∧ Ev.a (Rkq3 l x) = Ev.a (Rkq3 l x) ∧ Ev.b (Rkq3 l x) = Ev.b (Rkq3 l x) ∧ Ev.c (Rkq3 l x) = Ev.c (Rkq3 l x) ∧ Ev.d (Rkq3 l x) = Ev.d (Rkq3 l x) ∧ true = true ∧ R18.ow (L18.r
  x) = R18.ow (L18.r x) ∧ R18.ot (L18.r x) = R18.ot (L18.r x) ∧ R18.ti (L18.r x) = R18.ti (L18.r x) ∧ R18.nx (L18.r x) = R18.nx (L18.r x) ∧ R18.wa (L18.r x) = R18.wa (L18.r x) ∧ R18.st (L18.r x) = R18.st (L18.r x) ∧ R18.le
  (L18.r x) = R18.le (L18.r x) ∧ L18.fi x = L18.fi x ∧ (0 : Nat) = (0 : Nat) ∧ List.length (L18.ds x) = List.length (Rkq4 x) ∧ L18.cq x = L18.cq x ∧ List.length (Rkq4 x) ≤ List.length (L18.ds x) ∧ List.length (Rkq4 x) ≤
  L18.cq x ∧ L18.cq x ≤ L18.cq x ∧ (∀ (j : Nat), j < List.length (Rkq4 x) → drow (L18.ds x) j = drow (Rkq4 x) j ∧ true = true) ∧ P18.ok (P18.mk (L18.r x) (L18.fi x) (Rkq4 x) (L18.cq x)) ∧ ∀ (y_1 : Int × Nat × Nat), outC3
  (Prod.snd (Rkq0 x l)) y_1 → condX (!(0 : Int) != Prod.fst (Rkq0 x l)) ((0 : Nat) = (0 : Nat) ∧ List.length (Prod.snd (Prod.snd (Prod.snd (Rkq1 x l)))) = List.length (Rkq6 x l) ∧ Prod.snd yᵥ1 = Prod.snd yᵥ1 ∧ (0 : Nat) =
  (0 : Nat) ∧ List.length (Prod.snd (Prod.snd (Prod.snd (Rkq0 x l)))) = List.length (Rkq2 x l) ∧ Prod.snd (Prod.snd y_1) = Prod.snd (Prod.snd y_1) ∧ List.length (Rkq6 x l) ≤ List.length (Prod.snd (Prod.snd (Prod.snd (Rkq1
  x l)))) ∧ List.length (Rkq6 x l) ≤ Prod.snd yᵥ1 ∧ Prod.snd yᵥ1 ≤ Prod.snd yᵥ1 ∧ (∀ (j : Nat), j < List.length (Rkq6 x l) → erow (Prod.snd (Prod.snd (Prod.snd (Rkq1 x l)))) j = erow (Rkq6 x l) j ∧ true = true) ∧
  List.length (Rkq2 x l) ≤ List.length (Prod.snd (Prod.snd (Prod.snd (Rkq0 x l)))) ∧ List.length (Rkq2 x l) ≤ Prod.snd (Prod.snd y_1) ∧ Prod.snd (Prod.snd y_1) ≤ Prod.snd (Prod.snd y_1) ∧ (∀ (j : Nat), j < List.length
  (Rkq2 x l) → erow (Prod.snd (Prod.snd (Prod.snd (Rkq0 x l)))) j = erow (Rkq2 x l) j ∧ true = true) ∧ EE.ok (EE.mk (Rkq6 x l) (Rkq2 x l) (Prod.snd yᵥ1) (Prod.snd (Prod.snd y_1))) ∧ (True → condX (!bif (0 : Int) !=
  Prod.fst (Rkq0 x l) then true else false) ((0 : Nat) = (0 : Nat) ∧ (0 : Nat) = (0 : Nat) ∧ R18.nx (Prod.fst (Prod.snd (Rkq1 x l))) = R18.nx (Prod.fst (Prod.snd (Rkq1 x l))) ∧ R18.wa (Prod.fst (Prod.snd (Rkq1 x l))) =
  R18.wa (Prod.fst (Prod.snd (Rkq1 x l))) ∧ R18.ow (Prod.fst (Prod.snd (Rkq1 x l))) = R18.ow (Prod.fst (Prod.snd (Rkq1 x l))) ∧ R18.ot (Prod.fst (Prod.snd (Rkq1 x l))) = R18.ot (Prod.fst (Prod.snd (Rkq1 x l))) ∧ R18.ti
  (Prod.fst (Prod.snd (Rkq1 x l))) = R18.ti (Prod.fst (Prod.snd (Rkq1 x l))) ∧ R18.st (Prod.fst (Prod.snd (Rkq1 x l))) = R18.st (Prod.fst (Prod.snd (Rkq1 x l))) ∧ R18.le (Prod.fst (Prod.snd (Rkq1 x l))) = R18.le (Prod.fst
  (Prod.snd (Rkq1 x l))) ∧ (0 : Nat) = (0 : Nat) ∧ List.length (Rkq8 x l) = List.length (Rkq8 x l) ∧ Prod.fst yᵥ1 = Prod.fst yᵥ1 ∧ (0 : Nat) = (0 : Nat) ∧ List.length (Prod.snd (Prod.snd (Prod.snd (Rkq1 x l)))) =
  List.length (Prod.snd (Prod.snd (Prod.snd (Rkq1 x l)))) ∧ Prod.snd yᵥ1 = Prod.snd yᵥ1 ∧ true = true ∧ R18.ow (Prod.fst (Prod.snd (Rkq0 x l))) = R18.ow (Prod.fst (Prod.snd (Rkq0 x l))) ∧ R18.ot (Prod.fst (Prod.snd (Rkq0 x
  l))) = R18.ot (Prod.fst (Prod.snd (Rkq0 x l))) ∧ R18.ti (Prod.fst (Prod.snd (Rkq0 x l))) = R18.ti (Prod.fst (Prod.snd (Rkq0 x l))) ∧ R18.nx (Prod.fst (Prod.snd (Rkq0 x l))) = R18.nx (Prod.fst (Prod.snd (Rkq0 x l))) ∧
  R18.wa (Prod.fst (Prod.snd (Rkq0 x l))) = R18.wa (Prod.fst (Prod.snd (Rkq0 x l))) ∧ R18.st (Prod.fst (Prod.snd (Rkq0 x l))) = R18.st (Prod.fst (Prod.snd (Rkq0 x l))) ∧ R18.le (Prod.fst (Prod.snd (Rkq0 x l))) = R18.le
  (Prod.fst (Prod.snd (Rkq0 x l))) ∧ Prod.fst y_1 = Prod.fst y_1 ∧ (0 : Nat) = (0 : Nat) ∧ List.length (Rkq5 x l) = List.length (Rkq5 x l) ∧ Prod.fst (Prod.snd y_1) = Prod.fst (Prod.snd y_1) ∧ (R18.ow (Prod.fst (Prod.snd
  (Rkq1 x l))) ≠ (0 : Int) ∧ Prod.fst (Prod.snd (Rkq0 x l)) = Prod.fst (Prod.snd (Rkq1 x l)) ∧ List.length (Rkq5 x l) = List.length (Rkq8 x l)) ∧ (True → condX (bif bif (0 : Int) != Prod.fst (Rkq0 x l) then true else false
  then true else false) (SV.g (Value.bool false) = SV.g (Value.bool true)) (∃ (x' : L18), L18.ok x' (List.length l) ∧ List.length l - L18.i x' < List.length l - L18.i x ∧ (0 : Nat) = (0 : Nat) ∧ List.length l = List.length
  l ∧ Prod.snd q = Prod.snd q ∧ (0 : Nat) = (0 : Nat) ∧ (0 : Nat) = (0 : Nat) ∧ IntKind.wrap IntKind.i64 ((↑(L18.i x) : Int) + (1 : Int)) = (↑(L18.i x') : Int) ∧ List.length l ≤ List.length l ∧ (∀ (j : Nat), j <
  List.length l → erow l j = erow l j ∧ true = true) ∧ R18.nx (Prod.fst (Prod.snd (Rkq1 x l))) = R18.nx (L18.r x') ∧ R18.wa (Prod.fst (Prod.snd (Rkq1 x l))) = R18.wa (L18.r x') ∧ R18.ow (Prod.fst (Prod.snd (Rkq1 x l))) =
  R18.ow (L18.r x') ∧ R18.ot (Prod.fst (Prod.snd (Rkq1 x l))) = R18.ot (L18.r x') ∧ R18.ti (Prod.fst (Prod.snd (Rkq1 x l))) = R18.ti (L18.r x') ∧ R18.st (Prod.fst (Prod.snd (Rkq1 x l))) = R18.st (L18.r x') ∧ R18.le
  (Prod.fst (Prod.snd (Rkq1 x l))) = R18.le (L18.r x') ∧ (0 : Nat) = (0 : Nat) ∧ List.length (Rkq8 x l) = List.length (L18.ds x') ∧ Prod.fst yᵥ1 = L18.ck x' ∧ (0 : Nat) = (0 : Nat) ∧ List.length (Prod.snd (Prod.snd
  (Prod.snd (Rkq1 x l)))) = L18.n x' ∧ Prod.snd yᵥ1 = L18.ca x' ∧ List.length (L18.ds x') ≤ List.length (Rkq8 x l) ∧ List.length (L18.ds x') ≤ L18.ck x' ∧ L18.ck x' ≤ Prod.fst yᵥ1 ∧ (∀ (j : Nat), j < List.length (L18.ds
  x') → urow (Rkq8 x l) j = urow (keptU (R18.nx (L18.r x')) (L18.ds x')) j ∧ true = true) ∧ true = true ∧ R18.ow (Prod.fst (Prod.snd (Rkq0 x l))) = R18.ow (L18.r x') ∧ R18.ot (Prod.fst (Prod.snd (Rkq0 x l))) = R18.ot
  (L18.r x') ∧ R18.ti (Prod.fst (Prod.snd (Rkq0 x l))) = R18.ti (L18.r x') ∧ R18.nx (Prod.fst (Prod.snd (Rkq0 x l))) = R18.nx (L18.r x') ∧ R18.wa (Prod.fst (Prod.snd (Rkq0 x l))) = R18.wa (L18.r x') ∧ R18.st (Prod.fst
  (Prod.snd (Rkq0 x l))) = R18.st (L18.r x') ∧ R18.le (Prod.fst (Prod.snd (Rkq0 x l))) = R18.le (L18.r x') ∧ Prod.fst y_1 = L18.fi x' ∧ (0 : Nat) = (0 : Nat) ∧ List.length (Rkq5 x l) = List.length (L18.ds x') ∧ Prod.fst
  (Prod.snd y_1) = L18.cq x' ∧ List.length (L18.ds x') ≤ List.length (Rkq5 x l) ∧ List.length (L18.ds x') ≤ L18.cq x' ∧ L18.cq x' ≤ Prod.fst (Prod.snd y_1) ∧ (∀ (j : Nat), j < List.length (L18.ds x') → drow (Rkq5 x l) j =
  drow (L18.ds x') j ∧ true = true) ∧ True))) (condX (!bif (0 : Int) != Prod.fst (Rkq0 x l) then true else false) False ((bif (0 : Int) != Prod.fst (Rkq0 x l) then true else false) = true ∧ SV.g (Value.bool false) = SV.g
  (Value.bool true))))) (condX (!(0 : Int) != Prod.fst (Rkq0 x l)) False (((0 : Int) != Prod.fst (Rkq0 x l)) = true ∧ true = true ∧ SV.g (Value.bool false) = SV.g (Value.bool true)))) ∧ ∀ (yᵥ1 : Nat × Nat), Prod.fst (Rkq1
  x l) ≠ (0 : Int) ∧ outC (Rkq8 x l) (Prod.snd (Prod.snd (Prod.snd (Rkq1 x l)))) yᵥ1 → ((0 : Int) ≤ (↑(L18.i x) : Int) ∧ (↑(L18.i x) : Int) < (↑(List.length l) : Int)) ∧ Int.toNat (↑(L18.i x) : Int) < List.length l ∧ (0 :
  Nat) = (0 : Nat) ∧ Ev.w (Rkq3 l x) = Ev.w (Rkq3 l x) ∧ Ev.k (Rkq3 l x) = Ev.k (Rkq3 l x) ∧ Ev.a (Rkq3 l x) = Ev.a (Rkq3 l x) ∧ Ev.b (Rkq3 l x) = Ev.b (Rkq3 l x) ∧ Ev.c (Rkq3 l x) = Ev.c (Rkq3 l x) ∧ Ev.d (Rkq3 l x) =
  Ev.d (Rkq3 l x) ∧ true = true ∧ R18.ow (L18.r x) = R18.ow (L18.r x) ∧ R18.ot (L18.r x) = R18.ot (L18.r x) ∧ R18.ti (L18.r x) = R18.ti (L18.r x) ∧ R18.nx (L18.r x) = R18.nx (L18.r x) ∧ R18.wa (L18.r x) = R18.wa (L18.r x)
  ∧ R18.st (L18.r x) = R18.st (L18.r x) ∧ R18.le (L18.r x) = R18.le (L18.r x) ∧ L18.fi x = L18.fi x ∧ (0 : Nat) = (0 : Nat) ∧ List.length (L18.ds x) = List.length (Rkq4 x) ∧ L18.cq x = L18.cq x ∧ List.length (Rkq4 x) ≤
  List.length (L18.ds x) ∧ List.length (Rkq4 x) ≤ L18.cq x ∧ L18.cq x ≤ L18.cq x ∧ (∀ (j : Nat), j < List.length (Rkq4 x) → drow (L18.ds x) j = drow (Rkq4 x) j ∧ true = true) ∧ P18.ok (P18.mk (L18.r x) (L18.fi x) (Rkq4 x)
  (L18.cq x)) ∧ ∀ (y_1 : Int × Nat × Nat), outC3 (Prod.snd (Rkq0 x l)) y_1 → condX (!Prod.fst (Rkq1 x l) != Prod.fst (Rkq0 x l)) ((0 : Nat) = (0 : Nat) ∧ (0 : Nat) = (0 : Nat) ∧ (0 : Nat) = (0 : Nat) ∧ List.length
  (Prod.snd (Prod.snd (Prod.snd (Rkq0 x l)))) = List.length (Rkq2 x l) ∧ Prod.snd (Prod.snd y_1) = Prod.snd (Prod.snd y_1) ∧ (0 : Nat) = (0 : Nat) ∧ List.length (Rkq2 x l) ≤ List.length (Prod.snd (Prod.snd (Prod.snd (Rkq0
  x l)))) ∧ List.length (Rkq2 x l) ≤ Prod.snd (Prod.snd y_1) ∧ Prod.snd (Prod.snd y_1) ≤ Prod.snd (Prod.snd y_1) ∧ (∀ (j : Nat), j < List.length (Rkq2 x l) → erow (Prod.snd (Prod.snd (Prod.snd (Rkq0 x l)))) j = erow (Rkq2
  x l) j ∧ true = true) ∧ EE.ok (EE.mk [] (Rkq2 x l) (0 : Nat) (Prod.snd (Prod.snd y_1))) ∧ (True → condX (!bif Prod.fst (Rkq1 x l) != Prod.fst (Rkq0 x l) then true else false) ((0 : Nat) = (0 : Nat) ∧ (0 : Nat) = (0 :
  Nat) ∧ R18.nx (Prod.fst (Prod.snd (Rkq1 x l))) = R18.nx (Prod.fst (Prod.snd (Rkq1 x l))) ∧ R18.wa (Prod.fst (Prod.snd (Rkq1 x l))) = R18.wa (Prod.fst (Prod.snd (Rkq1 x l))) ∧ R18.ow (Prod.fst (Prod.snd (Rkq1 x l))) =
  R18.ow (Prod.fst (Prod.snd (Rkq1 x l))) ∧ R18.ot (Prod.fst (Prod.snd (Rkq1 x l))) = R18.ot (Prod.fst (Prod.snd (Rkq1 x l))) ∧ R18.ti (Prod.fst (Prod.snd (Rkq1 x l))) = R18.ti (Prod.fst (Prod.snd (Rkq1 x l))) ∧ R18.st
  (Prod.fst (Prod.snd (Rkq1 x l))) = R18.st (Prod.fst (Prod.snd (Rkq1 x l))) ∧ R18.le (Prod.fst (Prod.snd (Rkq1 x l))) = R18.le (Prod.fst (Prod.snd (Rkq1 x l))) ∧ (0 : Nat) = (0 : Nat) ∧ List.length (Rkq8 x l) =
  List.length (Rkq8 x l) ∧ Prod.fst yᵥ1 = Prod.fst yᵥ1 ∧ (0 : Nat) = (0 : Nat) ∧ List.length (Prod.snd (Prod.snd (Prod.snd (Rkq1 x l)))) = List.length (Prod.snd (Prod.snd (Prod.snd (Rkq1 x l)))) ∧ Prod.snd yᵥ1 = Prod.snd
  yᵥ1 ∧ true = true ∧ R18.ow (Prod.fst (Prod.snd (Rkq0 x l))) = R18.ow (Prod.fst (Prod.snd (Rkq0 x l))) ∧ R18.ot (Prod.fst (Prod.snd (Rkq0 x l))) = R18.ot (Prod.fst (Prod.snd (Rkq0 x l))) ∧ R18.ti (Prod.fst (Prod.snd (Rkq0
  x l))) = R18.ti (Prod.fst (Prod.snd (Rkq0 x l))) ∧ R18.nx (Prod.fst (Prod.snd (Rkq0 x l))) = R18.nx (Prod.fst (Prod.snd (Rkq0 x l))) ∧ R18.wa (Prod.fst (Prod.snd (Rkq0 x l))) = R18.wa (Prod.fst (Prod.snd (Rkq0 x l))) ∧
  R18.st (Prod.fst (Prod.snd (Rkq0 x l))) = R18.st (Prod.fst (Prod.snd (Rkq0 x l))) ∧ R18.le (Prod.fst (Prod.snd (Rkq0 x l))) = R18.le (Prod.fst (Prod.snd (Rkq0 x l))) ∧ Prod.fst y_1 = Prod.fst y_1 ∧ (0 : Nat) = (0 : Nat)
  ∧ List.length (Rkq5 x l) = List.length (Rkq5 x l) ∧ Prod.fst (Prod.snd y_1) = Prod.fst (Prod.snd y_1) ∧ (R18.ow (Prod.fst (Prod.snd (Rkq1 x l))) ≠ (0 : Int) ∧ Prod.fst (Prod.snd (Rkq0 x l)) = Prod.fst (Prod.snd (Rkq1 x
  l)) ∧ List.length (Rkq5 x l) = List.length (Rkq8 x l)) ∧ (True → condX (bif bif Prod.fst (Rkq1 x l) != Prod.fst (Rkq0 x l) then true else false then true else false) (SV.g (Value.bool false) = SV.g (Value.bool true)) (∃
  (x' : L18), L18.ok x' (List.length l) ∧ List.length l - L18.i x' < List.length l - L18.i x ∧ (0 : Nat) = (0 : Nat) ∧ List.length l = List.length l ∧ Prod.snd q = Prod.snd q ∧ (0 : Nat) = (0 : Nat) ∧ (0 : Nat) = (0 : Nat)
  ∧ IntKind.wrap IntKind.i64 ((↑(L18.i x) : Int) + (1 : Int)) = (↑(L18.i x') : Int) ∧ List.length l ≤ List.length l ∧ (∀ (j : Nat), j < List.length l → erow l j = erow l j ∧ true = true) ∧ R18.nx (Prod.fst (Prod.snd (Rkq1
  x l))) = R18.nx (L18.r x') ∧ R18.wa (Prod.fst (Prod.snd (Rkq1 x l))) = R18.wa (L18.r x') ∧ R18.ow (Prod.fst (Prod.snd (Rkq1 x l))) = R18.ow (L18.r x') ∧ R18.ot (Prod.fst (Prod.snd (Rkq1 x l))) = R18.ot (L18.r x') ∧
  R18.ti (Prod.fst (Prod.snd (Rkq1 x l))) = R18.ti (L18.r x') ∧ R18.st (Prod.fst (Prod.snd (Rkq1 x l))) = R18.st (L18.r x') ∧ R18.le (Prod.fst (Prod.snd (Rkq1 x l))) = R18.le (L18.r x') ∧ (0 : Nat) = (0 : Nat) ∧
  List.length (Rkq8 x l) = List.length (L18.ds x') ∧ Prod.fst yᵥ1 = L18.ck x' ∧ (0 : Nat) = (0 : Nat) ∧ List.length (Prod.snd (Prod.snd (Prod.snd (Rkq1 x l)))) = L18.n x' ∧ Prod.snd yᵥ1 = L18.ca x' ∧ List.length (L18.ds
  x') ≤ List.length (Rkq8 x l) ∧ List.length (L18.ds x') ≤ L18.ck x' ∧ L18.ck x' ≤ Prod.fst yᵥ1 ∧ (∀ (j : Nat), j < List.length (L18.ds x') → urow (Rkq8 x l) j = urow (keptU (R18.nx (L18.r x')) (L18.ds x')) j ∧ true =
  true) ∧ true = true ∧ R18.ow (Prod.fst (Prod.snd (Rkq0 x l))) = R18.ow (L18.r x') ∧ R18.ot (Prod.fst (Prod.snd (Rkq0 x l))) = R18.ot (L18.r x') ∧ R18.ti (Prod.fst (Prod.snd (Rkq0 x l))) = R18.ti (L18.r x') ∧ R18.nx
  (Prod.fst (Prod.snd (Rkq0 x l))) = R18.nx (L18.r x') ∧ R18.wa (Prod.fst (Prod.snd (Rkq0 x l))) = R18.wa (L18.r x') ∧ R18.st (Prod.fst (Prod.snd (Rkq0 x l))) = R18.st (L18.r x') ∧ R18.le (Prod.fst (Prod.snd (Rkq0 x l))) =
  R18.le (L18.r x') ∧ Prod.fst y_1 = L18.fi x' ∧ (0 : Nat) = (0 : Nat) ∧ List.length (Rkq5 x l) = List.length (L18.ds x') ∧ Prod.fst (Prod.snd y_1) = L18.cq x' ∧ List.length (L18.ds x') ≤ List.length (Rkq5 x l) ∧
  List.length (L18.ds x') ≤ L18.cq x' ∧ L18.cq x' ≤ Prod.fst (Prod.snd y_1) ∧ (∀ (j : Nat), j < List.length (L18.ds x') → drow (Rkq5 x l) j = drow (L18.ds x') j ∧ true = true) ∧ True))) (condX (!bif Prod.fst (Rkq1 x l) !=
  Prod.fst (Rkq0 x l) then true else false) False ((bif Prod.fst (Rkq1 x l) != Prod.fst (Rkq0 x l) then true else false) = true ∧ SV.g (Value.bool false) = SV.g (Value.bool true))))) (condX (!Prod.fst (Rkq1 x l) !=
  Prod.fst (Rkq0 x l)) False ((Prod.fst (Rkq1 x l) != Prod.fst (Rkq0 x l)) = true ∧ true = true ∧ SV.g (Value.bool false) = SV.g (Value.bool true))))) (True ∧ SV.g (Value.bool true) = SV.g (Value.bool true))) ∧ (¬newOK
  (Prod.fst p) (Prod.fst (Prod.snd p)) (Prod.snd (Prod.snd p)) → SV.g (Value.bool false) = SV.g (Value.bool true))) ∧ (¬newOK (Prod.fst p) (Prod.fst (Prod.snd p)) (Prod.snd (Prod.snd p)) → Prod.fst p = Prod.fst p ∧
  Prod.fst (Prod.snd p) = Prod.fst (Prod.snd p) ∧ Prod.snd (Prod.snd p) = Prod.snd (Prod.snd p) ∧ True ∧ (newOK (Prod.fst p) (Prod.fst (Prod.snd p)) (Prod.snd (Prod.snd p)) → SV.g (Value.bool false) = SV.g (Value.bool
  true)) ∧ (¬newOK (Prod.fst p) (Prod.fst (Prod.snd p)) (Prod.snd (Prod.snd p)) → True ∧ SV.g (Value.bool true) = SV.g (Value.bool true)))
theorem vcResumeScriptsE : VcResumeScripts = (∀ (p : Int × Int × Int) (l : List Ev) (q : (Nat → List SV) × Nat), RowsE l q.1 q.2 → fnX ⟨ty, ΓOf Γrf, fun _ => [], lpS l q.2, 92, 2⟩ (bodyOf Try.f4) Try.f4.results.toList [.agg [.g (.int .i64 p.1), .g (.int .i64 p.2.1), .g (.int .i64 p.2.2)],   .sl 1 0 6 l.length q.2] [(1, .ro 6 q.2 q.1)] (fun r _ => r = .g (.bool true))) := by kernel_rfl
set_option maxRecDepth 100000 in
set_option maxHeartbeats 4000000 in
theorem vcResumeScripts : VcResumeScripts := by
  unfold VcResumeScripts Rkq8 Rkq7 Rkq6 Rkq5 Rkq4 Rkq3 Rkq2 Rkq1 Rkq0
  rintro ⟨a, b, c⟩ l ⟨row, cap⟩ hr
  obtain ⟨h1, h2, h3⟩ : l.length ≤ cap ∧ cap ≤ maxLen ∧ ∀ j, j < l.length → row j = erow l j := hr
  simp only [eq_self, true_and, and_true, Nat.le_refl, Int.le_refl, implies_true, forall_const, and_false, false_and, exists_false, false_or, or_false, true_implies, Nat.zero_add, and_self, Int.toNat_natCast, cond_true, cond_false, condT, condF]
  refine ⟨fun hN => ⟨fun _ => ⟨⟨⟨newR a b c, [], 0, 0, 0, 0, 0, 0⟩, ?_⟩, fun x hx => ?_⟩, fun h => absurd hN h⟩, fun h h' => absurd h' h⟩
  · have hr : (newR a b c).ok := ⟨⟨Int.le_refl 0, by show (0 : Int) < 128; decide⟩, ⟨Int.le_refl 0, by show (0 : Int) < 128; decide⟩, hN.2.2, ⟨Int.le_refl 0, by show (0 : Int) ≤ 100; decide⟩, fun e => absurd (show (0 : Int) = 3 from e) (by decide)⟩
    refine ⟨⟨Good.nil hr, by have := hN.1; show a ≠ 0; omega, Nat.le_refl _, Nat.le_refl _, fun h => absurd rfl h, Nat.zero_le _⟩, ?_⟩
    dsimp only [newR, List.length_nil]
    and_intros <;> first | with_reducible rfl | assumption | exact Nat.le_refl _ | exact Nat.zero_le _ | exact fun j hj => trivial | exact fun j hj => rfl | exact fun j hj => absurd hj (Nat.not_lt_zero _) | exact trivial | omega | rfl | skip
  obtain ⟨r, ds, fi, ck, n, ca, cq, i⟩ := x
  obtain ⟨g, how, hck, hcq, hfi, hi⟩ := hx
  dsimp only at g how hck hcq hfi hi ⊢
  have hul : (keptU r.nx ds).length = ds.length := keptU_len _ _
  have hum : (keptU r.nx ds).map U.d = ds := keptU_map _ _
  have hu2 := uRow_urow (keptU r.nx ds)
  rw [hul] at hu2
  have u0 : us0 ⟨r, fi, ds, cq⟩ = keptU r.nx ds := rfl
  simp only [dRow_drow, hu2, u0, eRow_erow]
  have hP : P18.ok ⟨r, fi, ds, cq⟩ := ⟨hcq, by have := g.k60; dsimp only; omega, g.ok, hfi, fun e => by rw [← hum, g.cl e]; rfl⟩
  have hO : O18.ok ⟨r, keptU r.nx ds, ck, n, ca⟩ := ⟨by dsimp only; omega, g.k60, g.ok⟩
  obtain ⟨g', how', hes, herr⟩ := good_on g (l.getD i eZero)
  generalize onT r (keptU r.nx ds) (l.getD i eZero) = T at *
  obtain ⟨err, r', us', es'⟩ := T
  dsimp only at g' how' hes herr ⊢
  have hml : (us'.map U.d).length = us'.length := by simp
  have how2 : r'.ow ≠ 0 := by rw [how']; exact how
  have fin : ∀ (y : Nat × Nat) (y1 : Int × Nat × Nat) (m a : Nat), outC us' es' y → outC3 (r', us', es') y1 → i < l.length → L18.ok ⟨r', us'.map U.d, y1.1, y.1, m, a, y1.2.1, i + 1⟩ l.length := fun y y1 m a hy hy1 hl =>
    ⟨by rw [← g'.kept]; exact g', how2, by simpa using hy.1, by have := hy1.k; simpa using this, fun h => by have := hy1.fi (by simpa using h); simpa using this, hl⟩
  refine (condX_iff _ _ _).2 ⟨fun c => ?_, fun c => trivial⟩
  simp only [bAnd, decide_eq_true_eq] at c
  refine ⟨⟨by omega, c.1⟩, by omega, (condX_iff _ _ _).2 ⟨fun c => absurd (of_decide_eq_true (show decide (r.ow = 0) = true from c)) how, fun _ => ?_⟩⟩
  simp only [eq_self, true_and, and_true, Nat.le_refl, Int.le_refl, implies_true, forall_const, and_false, false_and, exists_false, false_or, or_false, true_implies, Nat.zero_add, and_self, Int.toNat_natCast, cond_true, cond_false]
  refine ⟨hul.symm, by omega, by omega, ⟨hO, how⟩, fun y hy => ?_, fun y hy => ?_⟩
  · obtain ⟨rfl, hy⟩ := hy
    refine ⟨⟨by omega, c.1⟩, by omega, hcq, hP, fun y1 hy1 => ?_⟩
    simp only [bne_self_eq_false, Bool.not_false, cond_false, cond_true, condT, condF]
    refine ⟨hy.2, hy1.a, ⟨hy.2, hy1.a, by dsimp only; omega, rfl⟩, ⟨how2, by simp⟩, ⟨r', us'.map U.d, y1.1, y.1, es'.length, y.2, y1.2.1, i + 1⟩, fin y y1 _ _ hy hy1 (by omega), ?_⟩
    dsimp only
    and_intros <;> first | exact hml.symm | (rw [hml]; exact hy.1) | (rw [hml]; exact Nat.le_refl _) | (rw [hml]; exact hy1.k) | exact fun j hj => by rw [← g'.kept] | (rw [wrap1 (by omega) (by omega)]; omega) | with_reducible rfl | assumption | exact Nat.le_refl _ | exact Nat.zero_le _ | exact fun j hj => trivial | exact fun j hj => rfl | exact fun j hj => absurd hj (Nat.not_lt_zero _) | exact trivial | omega | rfl | skip
  · obtain ⟨he, hy⟩ := hy
    refine ⟨⟨by omega, c.1⟩, by omega, hcq, hP, fun y1 hy1 => ?_⟩
    simp only [bne_self_eq_false, Bool.not_false, cond_false, cond_true, condT, condF]
    have he0 := herr he
    subst he0
    refine ⟨Nat.zero_le _, ⟨Nat.le_refl _, Nat.zero_le _, Nat.zero_le _, rfl⟩, ⟨how2, by simp⟩, ⟨r', us'.map U.d, y1.1, y.1, 0, y.2, y1.2.1, i + 1⟩, fin y y1 _ _ hy hy1 (by omega), ?_⟩
    dsimp only [List.length_nil]
    and_intros <;> first | exact hml.symm | (rw [hml]; exact hy.1) | (rw [hml]; exact Nat.le_refl _) | (rw [hml]; exact hy1.k) | exact fun j hj => by rw [← g'.kept] | (rw [wrap1 (by omega) (by omega)]; omega) | with_reducible rfl | assumption | exact Nat.le_refl _ | exact Nat.zero_le _ | exact fun j hj => trivial | exact fun j hj => rfl | exact fun j hj => absurd hj (Nat.not_lt_zero _) | exact trivial | omega | rfl | skip
theorem vcResumeScriptsK : ∀ (p : Int × Int × Int) (l : List Ev) (q : (Nat → List SV) × Nat), RowsE l q.1 q.2 → Held (fnX ⟨ty, ΓOf Γrf, fun _ => [], lpS l q.2, 92, 2⟩ (bodyOf Try.f4) Try.f4.results.toList [.agg [.g (.int .i64 p.1), .g (.int .i64 p.2.1), .g (.int .i64 p.2.2)],   .sl 1 0 6 l.length q.2] [(1, .ro 6 q.2 q.1)] (fun r _ => r = .g (.bool true))) := held4 vcResumeScriptsE vcResumeScripts
theorem kResumeScripts : ∀ pvs, PVsOK [.flat [.int .i64, .int .i64, .int .i64] true, .slice ksE] pvs → ∃ lp, Held (fnX ⟨ty, ΓOf Γrf, fun _ => [], lp, 92, 2⟩ (bodyOf Try.f4) Try.f4.results.toList (svs 0 pvs) (heaps 0 pvs) (fun r _ => r = .g (.bool true))) := by
  intro pvs h
  obtain ⟨a, b, c, pvs, rfl, h1⟩ := pv_ints3 h
  obtain ⟨l, cap, rows, pvs, rfl, h2, hr⟩ := pv_events h1
  obtain rfl := pvs_nil h2
  exact ⟨_, vcResumeScriptsK (a, b, c) l (fun j => (rows j).map SV.g, cap) hr⟩
noncomputable def lpScripts : List PV → Nat → SS → List Ann := (choose_loop kResumeScripts).choose
theorem kScripts : ∀ pvs, PVsOK [.flat [.int .i64, .int .i64, .int .i64] true, .slice ksE] pvs → Held (fnX ⟨ty, ΓOf Γrf, fun _ => [], lpScripts pvs, 92, 2⟩ (bodyOf Try.f4) Try.f4.results.toList (svs 0 pvs) (heaps 0 pvs) (fun r _ => r = .g (.bool true))) := (choose_loop kResumeScripts).choose_spec
end Go.Proofs.Ytghbejmnnfoamaa
namespace Go.Proofs.Ytghbejmnnfoamaa.resumeScripts
open Go.ChangeShapes Go.WideShapes Go.RowKit Go.Eng
theorem own : ownKnob Try.prog.godebug = none := by kernel_rfl
theorem laidOut : laidOutB Try.prog = true := by kernel_rfl
theorem spec_fn {H : Type} (ds : List (DataW H)) (h : ds.length = 2) : Rows.resumeScriptsSpec.fn H ds = { results := [.lit (.bool true)], args := ds } := by
  rcases ds with _ | ⟨d0, _ | ⟨d1, _ | _⟩⟩ <;> first | rfl | (simp at h)
set_option maxRecDepth 100000 in
theorem lifted (os : Os) (started : os.Started) (H : Type) (enc : TypeId × Value → H) :
    ReturnsInHanded {} Try.checked os 4 .any (Rows.resumeScriptsSpec.pre6 enc Try.prog Try.f4 Rows.resumeScriptsRow.domain false) (Rows.resumeScriptsSpec.post enc Try.prog Try.f4 false true false false) :=
  law_of (C := Try.checked) (ty := ty) (Γ := ΓOf Γrf) (Λ := Λ0) started (fun _ => True.intro) own laidOut hm tyOK Γrf_ok (by kernel_rfl) Try.func4 (body_some (by kernel_rfl)) Try.ntmps4 (s := Rows.resumeScriptsSpec)
    (ChangeSpec.witness6 (enc := enc) (C := Try.checked) false ⟨#[], #[.agg #[.int .i64 0, .int .i64 0, .int .i64 0], .slice none 0 0], []⟩ 8 (by kernel_rfl) (by kernel_rfl) (by kernel_rfl) (by kernel_rfl))
    (pts := [.flat [.int .i64, .int .i64, .int .i64] true, .slice ksE]) (by kernel_rfl) (Nat.le_of_ble_eq_true rfl) (by kernel_rfl) (by kernel_rfl) Try.underlying4 rfl spec_fn _ _ kScripts
theorem over : Rows.resumeScriptsRow.holds Try.pinned (OpenSpec.ofChange Rows.resumeScriptsSpec) :=
  OpenClaim.holds_of_wide 4 Try.f4 rfl rfl rfl rfl rfl rfl rfl ⟨rfl, rfl, rfl, rfl, rfl⟩ rfl rfl rfl rfl rfl (by kernel_rfl) Try.func4 (by kernel_rfl)
    (of_decide_eq_true (by kernel_rfl)) (by unfold Func.isWrapper; first | (rw [if_pos (by decide +kernel)]; kernel_rfl) | (rw [if_neg (by decide +kernel)]; exact ⟨rfl, rfl⟩))
    (fun os started H enc _ => lifted os started H enc)
end Go.Proofs.Ytghbejmnnfoamaa.resumeScripts
namespace Go.Proofs.Ytghbejmnnfoamaa
theorem resumeScripts_holds : Rows.ResumeScriptsSaid := resumeScripts.over
#print axioms resumeScripts_holds
end Go.Proofs.Ytghbejmnnfoamaa
