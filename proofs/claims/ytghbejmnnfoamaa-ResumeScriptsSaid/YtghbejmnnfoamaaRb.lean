/- Chapter 18: the program's side: what is acknowledged; a unit; an event. -/
import Derived.Test.YtghbejmnnfoamaaRa
set_option linter.unusedVariables false
set_option linter.unusedSimpArgs false
namespace Go.Proofs.Ytghbejmnnfoamaa
open Go Go.Eng
attribute [local irreducible] condX
def Γt : List (Nat × Rule) := (48, .gen (callX C_freeze18 getS0)) :: (25, .gen (callX C_reset18 getS0)) :: (22, .gen (callX C_user18 getSE)) :: Γsd
theorem Γt_ok : ΓOK Try.prog Λ0 (ΓOf Γt) := (ΓOf_cons ok_freeze18 (ΓOf_cons ok_reset18 (ΓOf_cons ok_user18 Γsd_ok)))
def C_DeleteU : Ctr := ⟨1, List U × Nat × Nat, fun x => [.sl 0 0 10 x.1.length x.2.1, .g (.int .i64 0), .g (.int .i64 x.2.2)], fun x => [(0, .view 10 x.1.length x.2.1 (urow x.1) 60)], fun x => x.1.length ≤ x.2.1 ∧ x.1.length ≤ 60 ∧ x.2.2 ≤ x.1.length, fun x =>
  [.one True (.sl 0 0 10 (x.1.length - x.2.2) x.2.1) [(0, .view 10 (x.1.length - x.2.2) x.2.1 (urow (x.1.drop x.2.2)) 60)]]⟩
def cx_DeleteU (_ : List U × Nat × Nat) : Cx := ⟨ty, ΓOf Γsd, fun _ => [], fun _ _ => [], 33, 1⟩
def Rbq0 (x : List U × Nat × Nat) (j : Nat) := (List.getD (Prod.fst x) (addOff (if Prod.fst (Prod.snd x) = Int.toNat (↑(Prod.snd (Prod.snd x)) : Int) then (0 : Nat) else Int.toNat (↑(Prod.snd (Prod.snd x)) : Int)) (j - (0 : Nat))) uZero)
def Rbq1 (x : List U × Nat × Nat) := (List.length (Prod.fst x) - Int.toNat (↑(Prod.snd (Prod.snd x)) : Int))
def VcDeleteU : Prop := ∀ (x : List U × Nat × Nat), List.length (Prod.fst x) ≤ Prod.fst (Prod.snd x) ∧ List.length (Prod.fst x) ≤ (60 : Nat) ∧ Prod.snd (Prod.snd x) ≤ List.length (Prod.fst x) → ((0 : Int) ≤ (↑(List.length (Prod.fst x)) : Int) ∧
  (↑(List.length (Prod.fst x)) : Int) ≤ (↑(Prod.fst (Prod.snd x)) : Int)) ∧ ((0 : Int) ≤ (↑(Prod.snd (Prod.snd x)) : Int) ∧ (↑(Prod.snd (Prod.snd x)) : Int) ≤ (↑(List.length (Prod.fst x)) : Int)) ∧ ((0 : Int) ≤ (0 : Int) ∧
  (0 : Int) ≤ (↑(Prod.snd (Prod.snd x)) : Int)) ∧ condX ((0 : Int) == (↑(Prod.snd (Prod.snd x)) : Int)) (True ∧ (0 : Nat) = (0 : Nat) ∧ List.length (Prod.fst x) = List.length (Prod.fst x) - Prod.snd (Prod.snd x) ∧ Prod.fst
  (Prod.snd x) = Prod.fst (Prod.snd x) ∧ List.length (Prod.fst x) - Prod.snd (Prod.snd x) ≤ List.length (Prod.fst x) ∧ List.length (Prod.fst x) - Prod.snd (Prod.snd x) ≤ Prod.fst (Prod.snd x) ∧ Prod.fst (Prod.snd x) ≤
  Prod.fst (Prod.snd x) ∧ (∀ (j : Nat), j < List.length (Prod.fst x) - Prod.snd (Prod.snd x) → urow (Prod.fst x) j = urow (List.drop (Prod.snd (Prod.snd x)) (Prod.fst x)) j ∧ true = true) ∧ True ∨ False) (((0 : Int) ≤ (0 :
  Int) ∧ (0 : Int) ≤ (↑(Prod.fst (Prod.snd x)) : Int)) ∧ ((0 : Int) ≤ (↑(Prod.snd (Prod.snd x)) : Int) ∧ (↑(Prod.snd (Prod.snd x)) : Int) ≤ (↑(List.length (Prod.fst x)) : Int)) ∧ (if Prod.fst (Prod.snd x) = Int.toNat
  (↑(Prod.snd (Prod.snd x)) : Int) then (0 : Nat) else Int.toNat (↑(Prod.snd (Prod.snd x)) : Int)) + (Rbq1 x) ≤ List.length (Prod.fst x) ∧ (∀ (j : Nat), j < List.length (Prod.fst x) - Int.toNat (↑(Prod.snd (Prod.snd x)) :
  Int) → true = true) ∧ (0 : Nat) + (Rbq1 x) ≤ List.length (Prod.fst x) ∧ (0 : Nat) + (Prod.fst (Prod.snd x) - (0 : Nat)) ≤ Prod.fst (Prod.snd x) ∧ ((0 : Nat) + (Rbq1 x)) * (88 : Nat) ≤ (140737488355328 : Nat) ∧ ((0 : Nat)
  + (Rbq1 x) ≤ Prod.fst (Prod.snd x) - (0 : Nat) → ((0 : Int) ≤ (↑(List.length (Prod.fst x)) : Int) ∧ (↑(List.length (Prod.fst x)) : Int) ≤ (↑(Prod.fst (Prod.snd x) - (0 : Nat)) : Int)) ∧ ((0 : Int) ≤ (↑((0 : Nat) + (Rbq1
  x)) : Int) ∧ (↑((0 : Nat) + (Rbq1 x)) : Int) ≤ (↑(List.length (Prod.fst x)) : Int)) ∧ (if Prod.fst (Prod.snd x) - (0 : Nat) = Int.toNat (↑((0 : Nat) + (Rbq1 x)) : Int) then (0 : Nat) else Int.toNat (↑((0 : Nat) + (Rbq1
  x)) : Int)) + (Int.toNat (↑(List.length (Prod.fst x)) : Int) - Int.toNat (↑((0 : Nat) + (Rbq1 x)) : Int)) ≤ List.length (Prod.fst x) ∧ (True ∧ (0 : Nat) = (0 : Nat) ∧ (0 : Nat) + (Rbq1 x) = List.length (Prod.fst x) -
  Prod.snd (Prod.snd x) ∧ Prod.fst (Prod.snd x) - (0 : Nat) = Prod.fst (Prod.snd x) ∧ List.length (Prod.fst x) - Prod.snd (Prod.snd x) ≤ List.length (Prod.fst x) ∧ List.length (Prod.fst x) - Prod.snd (Prod.snd x) ≤
  Prod.fst (Prod.snd x) ∧ Prod.fst (Prod.snd x) ≤ Prod.fst (Prod.snd x) ∧ (∀ (j : Nat), j < List.length (Prod.fst x) - Prod.snd (Prod.snd x) → (if (if Prod.fst (Prod.snd x) - (0 : Nat) = Int.toNat (↑((0 : Nat) + (Rbq1 x))
  : Int) then (0 : Nat) else Int.toNat (↑((0 : Nat) + (Rbq1 x)) : Int)) ≤ j ∧ j < (if Prod.fst (Prod.snd x) - (0 : Nat) = Int.toNat (↑((0 : Nat) + (Rbq1 x)) : Int) then (0 : Nat) else Int.toNat (↑((0 : Nat) + (Rbq1 x)) :
  Int)) + (Int.toNat (↑(List.length (Prod.fst x)) : Int) - Int.toNat (↑((0 : Nat) + (Rbq1 x)) : Int)) then [SV.g (Value.int IntKind.i64 (0 : Int)), SV.g (Value.int IntKind.i64 (0 : Int)), SV.g (Value.int IntKind.i64 (0 :
  Int)), SV.g (Value.int IntKind.i64 (0 : Int)), SV.g (Value.int IntKind.i64 (0 : Int)), SV.g (Value.int IntKind.i64 (0 : Int)), SV.g (Value.int IntKind.i64 (0 : Int)), SV.g (Value.int IntKind.i64 (0 : Int)), SV.g
  (Value.bool false), SV.g (Value.string (ByteArray.mk #[]))] else if (0 : Nat) ≤ j ∧ j < (0 : Nat) + (Rbq1 x) then [SV.g (Value.int IntKind.i64 (U.k (Rbq0 x j))), SV.g (Value.int IntKind.i64 (U.to (Rbq0 x j))), SV.g
  (Value.int IntKind.i64 (U.fr (Rbq0 x j))), SV.g (Value.int IntKind.i64 (U.cl (Rbq0 x j))), SV.g (Value.int IntKind.i64 (U.sz (Rbq0 x j))), SV.g (Value.int IntKind.i64 (U.nu (Rbq0 x j))), SV.g (Value.int IntKind.i64 (U.cr
  (Rbq0 x j))), SV.g (Value.int IntKind.i64 (U.re (Rbq0 x j))), SV.g (Value.bool (U.e (Rbq0 x j))), SV.g (Value.string (U.d (Rbq0 x j)))] else urow (Prod.fst x) j) = urow (List.drop (Prod.snd (Prod.snd x)) (Prod.fst x)) j
  ∧ true = true) ∧ True ∨ False)) ∧ (Prod.fst (Prod.snd x) - (0 : Nat) < (0 : Nat) + (Rbq1 x) → ∀ (cap : Nat), (0 : Nat) + (Rbq1 x) ≤ cap → ((0 : Int) ≤ (↑(List.length (Prod.fst x)) : Int) ∧ (↑(List.length (Prod.fst x)) :
  Int) ≤ (↑cap : Int)) ∧ ((0 : Int) ≤ (↑((0 : Nat) + (Rbq1 x)) : Int) ∧ (↑((0 : Nat) + (Rbq1 x)) : Int) ≤ (↑(List.length (Prod.fst x)) : Int)) ∧ (if cap = Int.toNat (↑((0 : Nat) + (Rbq1 x)) : Int) then (0 : Nat) else
  Int.toNat (↑((0 : Nat) + (Rbq1 x)) : Int)) + (Int.toNat (↑(List.length (Prod.fst x)) : Int) - Int.toNat (↑((0 : Nat) + (Rbq1 x)) : Int)) ≤ (0 : Nat) + (Rbq1 x) ∧ (True ∧ False ∨ False)))
theorem vcDeleteUE : VcDeleteU = (∀ (x : List U × Nat × Nat), (x.1.length ≤ x.2.1 ∧ x.1.length ≤ 60 ∧ x.2.2 ≤ x.1.length) → fnX (cx_DeleteU x) (bodyOf Try.f65) Try.f65.results.toList (C_DeleteU.args x) (C_DeleteU.H x) (endX 1 (C_DeleteU.outs x))) := by kernel_rfl
set_option maxHeartbeats 4000000 in
theorem vcDeleteU : VcDeleteU := by
  unfold VcDeleteU Rbq1 Rbq0
  rintro ⟨us, c, n⟩ ⟨h1, h2, h3⟩
  have h1 : us.length ≤ c := h1
  have h2 : us.length ≤ 60 := h2
  have h3 : n ≤ us.length := h3
  simp only [eq_self, true_and, and_true, Nat.le_refl, Int.le_refl, implies_true, forall_const, and_false, false_and, exists_false, false_or, or_false, true_implies, Nat.zero_add, and_self, Int.toNat_natCast, cond_true, cond_false, h1, uRow_urow, condT, condF]
  refine ⟨⟨by omega, by omega⟩, ⟨by omega, by omega⟩, by omega, (condX_iff _ _ _).2 ⟨fun c0 => ?_, fun c0 => ?_⟩⟩
  · have hn : n = 0 := by
      have : (0 : Int) = n := by simpa using c0
      omega
    subst hn
    exact ⟨by omega, by omega, by omega, fun j hj => by rw [List.drop_zero]⟩
  · have hn : n ≠ 0 := by intro h; subst h; simp at c0
    have hi : (if c = n then 0 else n) + (us.length - n) ≤ us.length := by split <;> omega
    have hj' : (if c - 0 = us.length - n then 0 else us.length - n) = us.length - n := if_neg (by omega)
    simp only [hj']
    refine ⟨by omega, ⟨by omega, by omega⟩, hi, by omega, by omega, by omega, fun h => ⟨⟨by omega, by omega⟩, ⟨by omega, by omega⟩, by omega, by omega, by omega, by omega, fun j hj => ?_⟩, fun h => absurd h (by omega)⟩
    rw [if_neg (by omega), if_pos ⟨Nat.zero_le _, hj⟩, addOff_eq, if_neg (by omega)]
    have : (us.drop n).getD j uZero = us.getD (n + (j - 0)) uZero := by simp [List.getD_eq_getElem?_getD]
    show _ = ((us.drop n).getD j uZero).cells
    rw [this]; rfl
theorem vcDeleteUK : ∀ (x : List U × Nat × Nat), (x.1.length ≤ x.2.1 ∧ x.1.length ≤ 60 ∧ x.2.2 ≤ x.1.length) → Held (fnX (cx_DeleteU x) (bodyOf Try.f65) Try.f65.results.toList (C_DeleteU.args x) (C_DeleteU.H x) (endX 1 (C_DeleteU.outs x))) := held2 vcDeleteUE vcDeleteU
def getDel : List SV → Heap → Option (List U × Nat × Nat)
  | [k, _, .g (.int .i64 n)], H => match getK k H with
    | some (us, c) => some (us, c, n.toNat)
    | none => none
  | _, _ => none
theorem ok_DeleteU : GenSound Try.prog Λ0 65 (callX C_DeleteU getDel) :=
  gen_of (ty := ty) (Γ := ΓOf Γsd) hm tyOK Γsd_ok (fnOK_of Try.func65 (by kernel_rfl) (by kernel_rfl)) Try.func65 (body_some (by kernel_rfl)) C_DeleteU getDel Try.ntmps65 (fun _ => Nat.le_of_ble_eq_true rfl) (fun x => (cx_DeleteU x).cut) (fun x => (cx_DeleteU x).loop) fun x h => vcDeleteUK x h
def Γu : List (Nat × Rule) := (65, .gen (callX C_DeleteU getDel)) :: Γt
theorem Γu_ok : ΓOK Try.prog Λ0 (ΓOf Γu) := (ΓOf_cons ok_DeleteU Γt_ok)
theorem take_gd {us : List U} {i : Nat} (h : i < us.length) : us.take (i + 1) = us.take i ++ [us.getD i uZero] := by
  rw [List.take_succ_eq_append_getElem h, List.getD_eq_getElem?_getD, List.getElem?_eq_getElem h]; rfl
theorem eRow_erowN {A : List Ev} {n : Nat} (h : A.length = n) : (List.range n).map (fun j => eRow (erow A j)) = A := by subst h; exact eRow_erow A
def ackN (r : R18) (us : List U) (u : U) : Int := (u.nu - (r.nx - us.length + 128) % 128 + 128) % 128
def ackR (r : R18) (us : List U) (u : U) : R18 := if (us.length : Int) < ackN r us u then r else if u.k = 7 then { r with st := 0 } else r
def ackU (r : R18) (us : List U) (u : U) : List U := if (us.length : Int) < ackN r us u then us else us.drop (ackN r us u).toNat
def ackA (r : R18) (us : List U) (es : List Ev) (u : U) : List Ev := if (us.length : Int) < ackN r us u then es else if u.k = 7 then es ++ (us.drop (ackN r us u).toNat).map (sendE { r with st := 0 }) else es
def C_ack18 : Ctr := ⟨3, S18 × U, fun x => [.ptr 0 0 0 0, .agg x.2.cells], fun x => x.1.H, fun x => x.1.ok ∧ x.1.es.length ≤ 100 ∧ 0 ≤ x.2.nu ∧ x.2.nu < 128, fun x =>
  [.any (Nat × Nat) (outC (ackU x.1.r x.1.us x.2) (ackA x.1.r x.1.us x.1.es x.2)) (fun _ => .tup []) (outH (ackR x.1.r x.1.us x.2) (ackU x.1.r x.1.us x.2) (ackA x.1.r x.1.us x.1.es x.2))]⟩
def annAck (r : R18) (us : List U) (ck : Nat) (es : List Ev) (u : U) : Ann := ⟨Nat × Nat, fun x => ⟨[(0, .ptr 0 0 0 0), (52, .sl 1 0 10 us.length ck), (53, .g (.int .i64 us.length)), (54, .g (.int .i64 x.1))],
  [(0, .cells (r.cells (.sl 1 0 10 us.length ck) (.sl 4 0 6 (es.length + x.1) x.2)) 55), (1, .view 10 us.length ck (urow us) 60), (4, .view 6 (es.length + x.1) x.2 (erow (es ++ (us.take x.1).map (sendE r))) 31)], 5, 0, []⟩,
  fun x => x.1 ≤ us.length ∧ es.length + x.1 ≤ x.2, fun x => us.length - x.1⟩
def cx_ack18 (x : S18 × U) : Cx := ⟨ty, ΓOf Γu, fun _ => [], fun i _ => if i = 8 then [annAck (stR x.1.r 0) (ackU x.1.r x.1.us x.2) x.1.ck x.1.es x.2] else [], 62, 3⟩
def Rbq2 (x : S18 × U) := (ackU (S18.r (Prod.fst x)) (S18.us (Prod.fst x)) (Prod.snd x))
def Rbq3 (x : S18 × U) := (IntKind.wrap IntKind.i64 (IntKind.wrap IntKind.i64 (U.nu (Prod.snd x) - Int.tmod (IntKind.wrap IntKind.i64 (IntKind.wrap IntKind.i64 (R18.nx (S18.r (Prod.fst x)) - (↑(List.length (S18.us (Prod.fst x))) : Int)) + (128 :
  Int))) (128 : Int)) + (128 : Int)))
def Rbq4 (x : S18 × U) := (List.map (fun (j : Nat) => uRow (urow (S18.us (Prod.fst x)) j)) (List.range (List.length (S18.us (Prod.fst x)))))
def Rbq5 (x : S18 × U) (x_1 : Nat × Nat) := (List.map (fun (j : Nat) => eRow (erow (S18.es (Prod.fst x) ++ List.map (sendE (stR (S18.r (Prod.fst x)) (0 : Int))) (List.take (Prod.fst x_1) (Rbq2 x))) j)) (List.range (List.length (S18.es (Prod.fst x)) + Prod.fst
  x_1)) ++ [sendE (R18.mk (R18.nx (S18.r (Prod.fst x))) (R18.wa (S18.r (Prod.fst x))) (R18.ow (S18.r (Prod.fst x))) (R18.ot (S18.r (Prod.fst x))) (R18.ti (S18.r (Prod.fst x))) (0 : Int) (R18.le (S18.r (Prod.fst x))))
  (List.getD (Rbq2 x) (Int.toNat (↑(Prod.fst x_1) : Int)) uZero)])
def Rbq6 (x : S18 × U) := (ackA (S18.r (Prod.fst x)) (S18.us (Prod.fst x)) (S18.es (Prod.fst x)) (Prod.snd x))
def Rbq7 (x : S18 × U) := (ackR (S18.r (Prod.fst x)) (S18.us (Prod.fst x)) (Prod.snd x))
def Rbq8 (x : S18 × U) (x_1 : Nat × Nat) := (List.map (fun (j : Nat) => eRow (erow (S18.es (Prod.fst x) ++ List.map (sendE (stR (S18.r (Prod.fst x)) (0 : Int))) (List.take (Prod.fst x_1) (Rbq2 x))) j)) (List.range (List.length (S18.es (Prod.fst x)) + Prod.fst
  x_1)))
def Rbq9 (x : S18 × U) (x_1 : Nat × Nat) := (List.getD (Rbq2 x) (Int.toNat (↑(Prod.fst x_1) : Int)) uZero)
def Rbq10 (x : S18 × U) := (List.map (fun (j : Nat) => uRow (urow (Rbq2 x) j)) (List.range (List.length (Rbq2 x))))
def VcAck18 : Prop := ∀ (x : S18 × U), S18.ok (Prod.fst x) ∧ List.length (S18.es (Prod.fst x)) ≤ (100 : Nat) ∧ (0 : Int) ≤ U.nu (Prod.snd x) ∧ U.nu (Prod.snd x) < (128 : Int) → (128 : Int) ≠ (0 : Int) ∧ (128 : Int) ≠ (0 : Int) ∧ condX (decide
  ((↑(List.length (S18.us (Prod.fst x))) : Int) < Int.tmod (Rbq3 x) (128 : Int))) ((∃ (y : Nat × Nat), outC (Rbq2 x) (Rbq6 x) y ∧ R18.nx (S18.r (Prod.fst x)) = R18.nx (Rbq7 x) ∧ R18.wa (S18.r (Prod.fst x)) = R18.wa (Rbq7
  x) ∧ R18.ow (S18.r (Prod.fst x)) = R18.ow (Rbq7 x) ∧ R18.ot (S18.r (Prod.fst x)) = R18.ot (Rbq7 x) ∧ R18.ti (S18.r (Prod.fst x)) = R18.ti (Rbq7 x) ∧ R18.st (S18.r (Prod.fst x)) = R18.st (Rbq7 x) ∧ R18.le (S18.r (Prod.fst
  x)) = R18.le (Rbq7 x) ∧ (0 : Nat) = (0 : Nat) ∧ List.length (S18.us (Prod.fst x)) = List.length (Rbq2 x) ∧ S18.ck (Prod.fst x) = Prod.fst y ∧ (0 : Nat) = (0 : Nat) ∧ List.length (S18.es (Prod.fst x)) = List.length (Rbq6
  x) ∧ S18.ca (Prod.fst x) = Prod.snd y ∧ List.length (Rbq2 x) ≤ List.length (S18.us (Prod.fst x)) ∧ List.length (Rbq2 x) ≤ Prod.fst y ∧ Prod.fst y ≤ S18.ck (Prod.fst x) ∧ (∀ (j : Nat), j < List.length (Rbq2 x) → urow
  (S18.us (Prod.fst x)) j = urow (Rbq2 x) j ∧ true = true) ∧ List.length (Rbq6 x) ≤ List.length (S18.es (Prod.fst x)) ∧ List.length (Rbq6 x) ≤ Prod.snd y ∧ Prod.snd y ≤ S18.ca (Prod.fst x) ∧ (∀ (j : Nat), j < List.length
  (Rbq6 x) → erow (S18.es (Prod.fst x)) j = erow (Rbq6 x) j ∧ true = true) ∧ True) ∨ False) ((0 : Nat) = (0 : Nat) ∧ List.length (S18.us (Prod.fst x)) = List.length (Rbq4 x) ∧ S18.ck (Prod.fst x) = S18.ck (Prod.fst x) ∧ (0
  : Int) = (0 : Int) ∧ Int.tmod (Rbq3 x) (128 : Int) = (↑(Int.toNat (Int.tmod (Rbq3 x) (128 : Int))) : Int) ∧ List.length (Rbq4 x) ≤ List.length (S18.us (Prod.fst x)) ∧ List.length (Rbq4 x) ≤ S18.ck (Prod.fst x) ∧ S18.ck
  (Prod.fst x) ≤ S18.ck (Prod.fst x) ∧ (∀ (j : Nat), j < List.length (Rbq4 x) → urow (S18.us (Prod.fst x)) j = urow (Rbq4 x) j ∧ true = true) ∧ (List.length (Rbq4 x) ≤ S18.ck (Prod.fst x) ∧ List.length (Rbq4 x) ≤ (60 :
  Nat) ∧ Int.toNat (Int.tmod (Rbq3 x) (128 : Int)) ≤ List.length (Rbq4 x)) ∧ (True → condX (U.k (Prod.snd x) == (7 : Int)) ((∃ (x_1 : Nat × Nat), (Prod.fst x_1 ≤ List.length (Rbq2 x) ∧ List.length (S18.es (Prod.fst x)) +
  Prod.fst x_1 ≤ Prod.snd x_1) ∧ (0 : Nat) = (0 : Nat) ∧ (0 : Nat) = (0 : Nat) ∧ List.length (Rbq4 x) - Int.toNat (Int.tmod (Rbq3 x) (128 : Int)) = List.length (Rbq2 x) ∧ S18.ck (Prod.fst x) = S18.ck (Prod.fst x) ∧
  (↑(List.length (Rbq4 x) - Int.toNat (Int.tmod (Rbq3 x) (128 : Int))) : Int) = (↑(List.length (Rbq2 x)) : Int) ∧ (0 : Int) = (↑(Prod.fst x_1) : Int) ∧ R18.nx (S18.r (Prod.fst x)) = R18.nx (S18.r (Prod.fst x)) ∧ R18.wa
  (S18.r (Prod.fst x)) = R18.wa (S18.r (Prod.fst x)) ∧ R18.ow (S18.r (Prod.fst x)) = R18.ow (S18.r (Prod.fst x)) ∧ R18.ot (S18.r (Prod.fst x)) = R18.ot (S18.r (Prod.fst x)) ∧ R18.ti (S18.r (Prod.fst x)) = R18.ti (S18.r
  (Prod.fst x)) ∧ (0 : Int) = (0 : Int) ∧ R18.le (S18.r (Prod.fst x)) = R18.le (S18.r (Prod.fst x)) ∧ (0 : Nat) = (0 : Nat) ∧ List.length (Rbq4 x) - Int.toNat (Int.tmod (Rbq3 x) (128 : Int)) = List.length (Rbq2 x) ∧ S18.ck
  (Prod.fst x) = S18.ck (Prod.fst x) ∧ (0 : Nat) = (0 : Nat) ∧ List.length (S18.es (Prod.fst x)) = List.length (S18.es (Prod.fst x)) + Prod.fst x_1 ∧ S18.ca (Prod.fst x) = Prod.snd x_1 ∧ List.length (Rbq2 x) ≤ List.length
  (Rbq4 x) - Int.toNat (Int.tmod (Rbq3 x) (128 : Int)) ∧ List.length (Rbq2 x) ≤ S18.ck (Prod.fst x) ∧ S18.ck (Prod.fst x) ≤ S18.ck (Prod.fst x) ∧ (∀ (j : Nat), j < List.length (Rbq2 x) → urow (List.drop (Int.toNat
  (Int.tmod (Rbq3 x) (128 : Int))) (Rbq4 x)) j = urow (Rbq2 x) j ∧ true = true) ∧ List.length (S18.es (Prod.fst x)) + Prod.fst x_1 ≤ List.length (S18.es (Prod.fst x)) ∧ List.length (S18.es (Prod.fst x)) + Prod.fst x_1 ≤
  Prod.snd x_1 ∧ Prod.snd x_1 ≤ S18.ca (Prod.fst x) ∧ (∀ (j : Nat), j < List.length (S18.es (Prod.fst x)) + Prod.fst x_1 → erow (S18.es (Prod.fst x)) j = erow (S18.es (Prod.fst x) ++ List.map (sendE (stR (S18.r (Prod.fst
  x)) (0 : Int))) (List.take (Prod.fst x_1) (Rbq2 x))) j ∧ true = true) ∧ True) ∧ ∀ (x_1 : Nat × Nat), Prod.fst x_1 ≤ List.length (Rbq2 x) ∧ List.length (S18.es (Prod.fst x)) + Prod.fst x_1 ≤ Prod.snd x_1 → condX (decide
  ((↑(Prod.fst x_1) : Int) < (↑(List.length (Rbq2 x)) : Int))) (((0 : Int) ≤ (↑(Prod.fst x_1) : Int) ∧ (↑(Prod.fst x_1) : Int) < (↑(List.length (Rbq2 x)) : Int)) ∧ Int.toNat (↑(Prod.fst x_1) : Int) < List.length (Rbq2 x) ∧
  (0 : Nat) = (0 : Nat) ∧ U.k (Rbq9 x x_1) = U.k (Rbq9 x x_1) ∧ U.to (Rbq9 x x_1) = U.to (Rbq9 x x_1) ∧ U.fr (Rbq9 x x_1) = U.fr (Rbq9 x x_1) ∧ U.cl (Rbq9 x x_1) = U.cl (Rbq9 x x_1) ∧ U.sz (Rbq9 x x_1) = U.sz (Rbq9 x x_1)
  ∧ U.nu (Rbq9 x x_1) = U.nu (Rbq9 x x_1) ∧ U.cr (Rbq9 x x_1) = U.cr (Rbq9 x x_1) ∧ U.re (Rbq9 x x_1) = U.re (Rbq9 x x_1) ∧ U.e (Rbq9 x x_1) = U.e (Rbq9 x x_1) ∧ U.d (Rbq9 x x_1) = U.d (Rbq9 x x_1) ∧ R18.nx (S18.r
  (Prod.fst x)) = R18.nx (S18.r (Prod.fst x)) ∧ R18.wa (S18.r (Prod.fst x)) = R18.wa (S18.r (Prod.fst x)) ∧ R18.ow (S18.r (Prod.fst x)) = R18.ow (S18.r (Prod.fst x)) ∧ R18.ot (S18.r (Prod.fst x)) = R18.ot (S18.r (Prod.fst
  x)) ∧ R18.ti (S18.r (Prod.fst x)) = R18.ti (S18.r (Prod.fst x)) ∧ (0 : Int) = (0 : Int) ∧ R18.le (S18.r (Prod.fst x)) = R18.le (S18.r (Prod.fst x)) ∧ (0 : Nat) = (0 : Nat) ∧ List.length (Rbq2 x) = List.length (Rbq10 x) ∧
  S18.ck (Prod.fst x) = S18.ck (Prod.fst x) ∧ (0 : Nat) = (0 : Nat) ∧ List.length (S18.es (Prod.fst x)) + Prod.fst x_1 = List.length (Rbq8 x x_1) ∧ Prod.snd x_1 = Prod.snd x_1 ∧ List.length (Rbq10 x) ≤ List.length (Rbq2 x)
  ∧ List.length (Rbq10 x) ≤ S18.ck (Prod.fst x) ∧ S18.ck (Prod.fst x) ≤ S18.ck (Prod.fst x) ∧ (∀ (j : Nat), j < List.length (Rbq10 x) → urow (Rbq2 x) j = urow (Rbq10 x) j ∧ true = true) ∧ List.length (Rbq8 x x_1) ≤
  List.length (S18.es (Prod.fst x)) + Prod.fst x_1 ∧ List.length (Rbq8 x x_1) ≤ Prod.snd x_1 ∧ Prod.snd x_1 ≤ Prod.snd x_1 ∧ (∀ (j : Nat), j < List.length (Rbq8 x x_1) → erow (S18.es (Prod.fst x) ++ List.map (sendE (stR
  (S18.r (Prod.fst x)) (0 : Int))) (List.take (Prod.fst x_1) (Rbq2 x))) j = erow (Rbq8 x x_1) j ∧ true = true) ∧ S18.ok (S18.mk (R18.mk (R18.nx (S18.r (Prod.fst x))) (R18.wa (S18.r (Prod.fst x))) (R18.ow (S18.r (Prod.fst
  x))) (R18.ot (S18.r (Prod.fst x))) (R18.ti (S18.r (Prod.fst x))) (0 : Int) (R18.le (S18.r (Prod.fst x)))) (Rbq10 x) (S18.ck (Prod.fst x)) (Rbq8 x x_1) (Prod.snd x_1)) ∧ ∀ (yᵥ1 : Nat), List.length (Rbq5 x x_1) ≤ yᵥ1 → ∃
  (x' : Nat × Nat), (Prod.fst x' ≤ List.length (Rbq2 x) ∧ List.length (S18.es (Prod.fst x)) + Prod.fst x' ≤ Prod.snd x') ∧ List.length (Rbq2 x) - Prod.fst x' < List.length (Rbq2 x) - Prod.fst x_1 ∧ (0 : Nat) = (0 : Nat) ∧
  (0 : Nat) = (0 : Nat) ∧ List.length (Rbq2 x) = List.length (Rbq2 x) ∧ S18.ck (Prod.fst x) = S18.ck (Prod.fst x) ∧ (↑(List.length (Rbq2 x)) : Int) = (↑(List.length (Rbq2 x)) : Int) ∧ IntKind.wrap IntKind.i64 ((↑(Prod.fst
  x_1) : Int) + (1 : Int)) = (↑(Prod.fst x') : Int) ∧ R18.nx (S18.r (Prod.fst x)) = R18.nx (S18.r (Prod.fst x)) ∧ R18.wa (S18.r (Prod.fst x)) = R18.wa (S18.r (Prod.fst x)) ∧ R18.ow (S18.r (Prod.fst x)) = R18.ow (S18.r
  (Prod.fst x)) ∧ R18.ot (S18.r (Prod.fst x)) = R18.ot (S18.r (Prod.fst x)) ∧ R18.ti (S18.r (Prod.fst x)) = R18.ti (S18.r (Prod.fst x)) ∧ (0 : Int) = (0 : Int) ∧ R18.le (S18.r (Prod.fst x)) = R18.le (S18.r (Prod.fst x)) ∧
  (0 : Nat) = (0 : Nat) ∧ List.length (Rbq10 x) = List.length (Rbq2 x) ∧ S18.ck (Prod.fst x) = S18.ck (Prod.fst x) ∧ (0 : Nat) = (0 : Nat) ∧ List.length (Rbq5 x x_1) = List.length (S18.es (Prod.fst x)) + Prod.fst x' ∧ yᵥ1
  = Prod.snd x' ∧ List.length (Rbq2 x) ≤ List.length (Rbq10 x) ∧ List.length (Rbq2 x) ≤ S18.ck (Prod.fst x) ∧ S18.ck (Prod.fst x) ≤ S18.ck (Prod.fst x) ∧ (∀ (j : Nat), j < List.length (Rbq2 x) → urow (Rbq10 x) j = urow
  (Rbq2 x) j ∧ true = true) ∧ List.length (S18.es (Prod.fst x)) + Prod.fst x' ≤ List.length (Rbq5 x x_1) ∧ List.length (S18.es (Prod.fst x)) + Prod.fst x' ≤ Prod.snd x' ∧ Prod.snd x' ≤ yᵥ1 ∧ (∀ (j : Nat), j < List.length
  (S18.es (Prod.fst x)) + Prod.fst x' → erow (Rbq5 x x_1) j = erow (S18.es (Prod.fst x) ++ List.map (sendE (stR (S18.r (Prod.fst x)) (0 : Int))) (List.take (Prod.fst x') (Rbq2 x))) j ∧ true = true) ∧ True) ((∃ (y : Nat ×
  Nat), outC (Rbq2 x) (Rbq6 x) y ∧ R18.nx (S18.r (Prod.fst x)) = R18.nx (Rbq7 x) ∧ R18.wa (S18.r (Prod.fst x)) = R18.wa (Rbq7 x) ∧ R18.ow (S18.r (Prod.fst x)) = R18.ow (Rbq7 x) ∧ R18.ot (S18.r (Prod.fst x)) = R18.ot (Rbq7
  x) ∧ R18.ti (S18.r (Prod.fst x)) = R18.ti (Rbq7 x) ∧ (0 : Int) = R18.st (Rbq7 x) ∧ R18.le (S18.r (Prod.fst x)) = R18.le (Rbq7 x) ∧ (0 : Nat) = (0 : Nat) ∧ List.length (Rbq2 x) = List.length (Rbq2 x) ∧ S18.ck (Prod.fst x)
  = Prod.fst y ∧ (0 : Nat) = (0 : Nat) ∧ List.length (S18.es (Prod.fst x)) + Prod.fst x_1 = List.length (Rbq6 x) ∧ Prod.snd x_1 = Prod.snd y ∧ List.length (Rbq2 x) ≤ List.length (Rbq2 x) ∧ List.length (Rbq2 x) ≤ Prod.fst y
  ∧ Prod.fst y ≤ S18.ck (Prod.fst x) ∧ (∀ (j : Nat), j < List.length (Rbq2 x) → urow (Rbq2 x) j = urow (Rbq2 x) j ∧ true = true) ∧ List.length (Rbq6 x) ≤ List.length (S18.es (Prod.fst x)) + Prod.fst x_1 ∧ List.length (Rbq6
  x) ≤ Prod.snd y ∧ Prod.snd y ≤ Prod.snd x_1 ∧ (∀ (j : Nat), j < List.length (Rbq6 x) → erow (S18.es (Prod.fst x) ++ List.map (sendE (stR (S18.r (Prod.fst x)) (0 : Int))) (List.take (Prod.fst x_1) (Rbq2 x))) j = erow
  (Rbq6 x) j ∧ true = true) ∧ True) ∨ False)) ((∃ (y : Nat × Nat), outC (Rbq2 x) (Rbq6 x) y ∧ R18.nx (S18.r (Prod.fst x)) = R18.nx (Rbq7 x) ∧ R18.wa (S18.r (Prod.fst x)) = R18.wa (Rbq7 x) ∧ R18.ow (S18.r (Prod.fst x)) =
  R18.ow (Rbq7 x) ∧ R18.ot (S18.r (Prod.fst x)) = R18.ot (Rbq7 x) ∧ R18.ti (S18.r (Prod.fst x)) = R18.ti (Rbq7 x) ∧ R18.st (S18.r (Prod.fst x)) = R18.st (Rbq7 x) ∧ R18.le (S18.r (Prod.fst x)) = R18.le (Rbq7 x) ∧ (0 : Nat)
  = (0 : Nat) ∧ List.length (Rbq4 x) - Int.toNat (Int.tmod (Rbq3 x) (128 : Int)) = List.length (Rbq2 x) ∧ S18.ck (Prod.fst x) = Prod.fst y ∧ (0 : Nat) = (0 : Nat) ∧ List.length (S18.es (Prod.fst x)) = List.length (Rbq6 x)
  ∧ S18.ca (Prod.fst x) = Prod.snd y ∧ List.length (Rbq2 x) ≤ List.length (Rbq4 x) - Int.toNat (Int.tmod (Rbq3 x) (128 : Int)) ∧ List.length (Rbq2 x) ≤ Prod.fst y ∧ Prod.fst y ≤ S18.ck (Prod.fst x) ∧ (∀ (j : Nat), j <
  List.length (Rbq2 x) → urow (List.drop (Int.toNat (Int.tmod (Rbq3 x) (128 : Int))) (Rbq4 x)) j = urow (Rbq2 x) j ∧ true = true) ∧ List.length (Rbq6 x) ≤ List.length (S18.es (Prod.fst x)) ∧ List.length (Rbq6 x) ≤ Prod.snd
  y ∧ Prod.snd y ≤ S18.ca (Prod.fst x) ∧ (∀ (j : Nat), j < List.length (Rbq6 x) → erow (S18.es (Prod.fst x)) j = erow (Rbq6 x) j ∧ true = true) ∧ True) ∨ False)))
theorem vcAck18E : VcAck18 = (∀ (x : S18 × U), (x.1.ok ∧ x.1.es.length ≤ 100 ∧ 0 ≤ x.2.nu ∧ x.2.nu < 128) → fnX (cx_ack18 x) (bodyOf Try.f47) Try.f47.results.toList (C_ack18.args x) (C_ack18.H x) (endX 3 (C_ack18.outs x))) := by kernel_rfl
set_option maxHeartbeats 4000000 in
theorem vcAck18 : VcAck18 := by
  unfold VcAck18 Rbq10 Rbq9 Rbq8 Rbq7 Rbq6 Rbq5 Rbq4 Rbq3 Rbq2
  rintro ⟨⟨r, us, ck, es, ca⟩, u⟩ ⟨⟨h1, h2, h3, h4, h5⟩, h6, h7, h8⟩
  have h1 : us.length ≤ ck := h1
  have h2 : es.length ≤ ca := h2
  have h3 : us.length ≤ 60 := h3
  have h6 : es.length ≤ 100 := h6
  have h5 : r.ok := h5
  have h7 : 0 ≤ u.nu := h7
  have h8 : u.nu < 128 := h8
  simp only [eq_self, true_and, and_true, Nat.le_refl, Int.le_refl, implies_true, forall_const, and_false, false_and, exists_false, false_or, or_false, true_implies, Nat.zero_add, and_self, Int.toNat_natCast, cond_true, cond_false, h1, h2, uRow_urow, eRow_erow, condT, condF]
  have n1 := h5.nx
  have e1 : IntKind.i64.wrap (r.nx - us.length) = r.nx - us.length := wrap1 (by omega) (by omega)
  have e2 : IntKind.i64.wrap (r.nx - us.length + 128) = r.nx - us.length + 128 := wrap1 (by omega) (by omega)
  have e3 : Int.tmod (r.nx - us.length + 128) 128 = (r.nx - us.length + 128) % 128 := tmod_nn (by omega) 128
  have e4 : IntKind.i64.wrap (u.nu - (r.nx - us.length + 128) % 128) = u.nu - (r.nx - us.length + 128) % 128 := wrap1 (by omega) (by omega)
  have e5 : IntKind.i64.wrap (u.nu - (r.nx - us.length + 128) % 128 + 128) = u.nu - (r.nx - us.length + 128) % 128 + 128 := wrap1 (by omega) (by omega)
  have e6 : Int.tmod (u.nu - (r.nx - us.length + 128) % 128 + 128) 128 = (u.nu - (r.nx - us.length + 128) % 128 + 128) % 128 := tmod_nn (by omega) 128
  have e7 : (u.nu - (r.nx - us.length + 128) % 128 + 128) % 128 = ackN r us u := rfl
  obtain ⟨k, hk⟩ : ∃ k : Nat, ackN r us u = k := ⟨(ackN r us u).toNat, by unfold ackN; omega⟩
  simp only [e1, e2, e3, e4, e5, e6, e7, hk, Int.toNat_natCast]
  refine ⟨by decide, by decide, (condX_iff _ _ _).2 ⟨fun c => ?_, fun c => ?_⟩⟩
  · have c := of_decide_eq_true c
    have a1 : ackR r us u = r := by simp [ackR, hk, c]
    have a2 : ackU r us u = us := by simp [ackU, hk, c]
    have a3 : ackA r us es u = es := by simp [ackA, hk, c]
    rw [a1, a2, a3]
    refine ⟨(ck, ca), ?_⟩
    and_intros <;> first | exact h1 | exact h2 | with_reducible rfl | exact Nat.le_refl _ | exact fun j hj => rfl
  have c := of_decide_eq_false c
  have a2 : ackU r us u = us.drop k := by simp [ackU, hk, c]
  rw [a2]
  have hvl : (us.drop k).length = us.length - k := List.length_drop
  generalize hvs : us.drop k = vs at *
  refine ⟨trivial, ⟨h3, by omega⟩, (condX_iff _ _ _).2 ⟨fun c2 => ?_, fun c2 => ?_⟩⟩
  · have k7 : u.k = 7 := by simpa using c2
    have a1 : ackR r us u = stR r 0 := by simp [ackR, hk, c, k7, stR]
    have a3 : ackA r us es u = es ++ vs.map (sendE (stR r 0)) := by simp [ackA, hk, c, k7, hvs, stR]
    rw [a1, a3]
    refine ⟨⟨(0, ca), ?_⟩, fun x hx => ?_⟩
    · dsimp only
      and_intros <;> first | omega | with_reducible rfl | exact fun j hj => rfl | (intro j hj; rw [List.take_zero, List.map_nil, List.append_nil])
    · obtain ⟨i, ca'⟩ := x
      obtain ⟨hi, hc⟩ := hx
      dsimp only at hi hc ⊢
      have hA : (es ++ (vs.take i).map (sendE (stR r 0))).length = es.length + i := by simp; omega
      have hE := eRow_erowN hA
      have hS : i < vs.length → es ++ List.map (sendE (stR r 0)) (List.take i vs) ++ [sendE ⟨r.nx, r.wa, r.ow, r.ot, r.ti, 0, r.le⟩ (vs.getD i uZero)] = es ++ List.map (sendE (stR r 0)) (List.take (i + 1) vs) := fun h => by
        rw [take_gd h, List.map_append, ← List.append_assoc]; rfl
      simp only [hE, hA]
      refine (condX_iff _ _ _).2 ⟨fun c3 => ?_, fun c3 => ?_⟩
      · have hlt : i < vs.length := by have := of_decide_eq_true c3; omega
        have hB : (es ++ List.map (sendE (stR r 0)) (List.take (i + 1) vs)).length = es.length + (i + 1) := by simp; omega
        have o1 : vs.length ≤ ck := by omega
        have o2 : (es ++ (vs.take i).map (sendE (stR r 0))).length ≤ ca' := by rw [hA]; exact hc
        have o3 : vs.length ≤ 60 := by omega
        have o4 : (es ++ (vs.take i).map (sendE (stR r 0))).length ≤ 200 := by rw [hA]; omega
        simp only [hS hlt, hB]
        refine ⟨⟨by omega, by omega⟩, hlt, trivial, o1, Nat.le_refl _, hc, fun j hj => trivial, ⟨o1, o2, o3, o4, ok_st h5 (by decide)⟩, fun y hy => ⟨(i + 1, y), ?_⟩⟩
        dsimp only
        and_intros <;> first | omega | with_reducible rfl | (rw [wrap1 (by omega) (by omega)]; omega) | exact fun j hj => rfl | exact trivial
      · have c3 := of_decide_eq_false c3
        have hi' : vs.take i = vs := List.take_of_length_le (by omega)
        rw [hi'] at hA ⊢
        refine ⟨(ck, ca'), ⟨by omega, by rw [hA]; exact hc⟩, ?_⟩
        and_intros <;> first | with_reducible rfl | exact hA.symm | (dsimp only; omega) | (rw [hA]; first | exact Nat.le_refl _ | exact hc) | exact fun j hj => rfl | rfl
  · have k7 : ¬ u.k = 7 := by simpa using c2
    have a1 : ackR r us u = r := by simp [ackR, hk, c, k7]
    have a3 : ackA r us es u = es := by simp [ackA, hk, c, k7]
    rw [a1, a3]
    refine ⟨(ck, ca), ⟨by omega, h2⟩, ?_⟩
    and_intros <;> first | omega | with_reducible rfl | exact h2 | exact Nat.le_refl _ | exact fun j hj => rfl
theorem vcAck18K : ∀ (x : S18 × U), (x.1.ok ∧ x.1.es.length ≤ 100 ∧ 0 ≤ x.2.nu ∧ x.2.nu < 128) → Held (fnX (cx_ack18 x) (bodyOf Try.f47) Try.f47.results.toList (C_ack18.args x) (C_ack18.H x) (endX 3 (C_ack18.outs x))) := held2 vcAck18E vcAck18
theorem ok_ack18 : GenSound Try.prog Λ0 47 (callX C_ack18 getSU) :=
  gen_of (ty := ty) (Γ := ΓOf Γu) hm tyOK Γu_ok (fnOK_of Try.func47 (by kernel_rfl) (by kernel_rfl)) Try.func47 (body_some (by kernel_rfl)) C_ack18 getSU Try.ntmps47 (fun _ => Nat.le_of_ble_eq_true rfl) (fun x => (cx_ack18 x).cut) (fun x => (cx_ack18 x).loop) fun x h => vcAck18K x h
def Γv : List (Nat × Rule) := (47, .gen (callX C_ack18 getSU)) :: Γu
theorem Γv_ok : ΓOK Try.prog Λ0 (ΓOf Γv) := (ΓOf_cons ok_ack18 Γu_ok)
/-! ### a unit -/
theorem bAnd (p q : Bool) : (bif p then q else false) = true ↔ (p = true ∧ q = true) := by cases p <;> simp
theorem bOr (p q : Bool) : (bif p then true else q) = true ↔ (p = true ∨ q = true) := by cases p <;> simp
theorem ok_wa {r : R18} (h : r.ok) : R18.ok ⟨r.nx, (r.wa + 1) % 128, r.ow, r.ot, r.ti, r.st, r.le⟩ := ⟨h.nx, by dsimp only; omega, h.ti, h.le, h.st⟩
abbrev T18 := R18 × List U × List Ev
def frT (r : R18) (es : List Ev) : T18 := (frR r, [], es ++ [tellE 4 ⟨#[]⟩])
def waR (r : R18) : R18 := ⟨r.nx, (r.wa + 1) % 128, r.ow, r.ot, r.ti, r.st, r.le⟩
def unT (r : R18) (us : List U) (es : List Ev) (u : U) : T18 :=
  if 128 ≤ u.nu then (r, us, es)
  else if u.k = 5 ∧ (r.st = 0 ∨ r.st = 1) then
    if u.nu ≠ r.wa then (r, us, es)
    else (waR r, us, if (r.wa + 1) % 128 % 4 = 0 then es ++ [tellE 3 u.d] ++ [sendE (waR r) (vK 6 0 0 ((r.wa + 1) % 128))] else es ++ [tellE 3 u.d])
  else if (u.k = 6 ∨ u.k = 7) ∧ (r.st = 0 ∨ r.st = 1) then (ackR r us u, ackU r us u, ackA r us es u)
  else if u.k = 3 ∧ (r.st = 0 ∨ r.st = 1) then frT r (es ++ [sendE r (vK 4 0 0 0)])
  else if u.k = 3 ∧ r.st = 2 then (r, us, es ++ [sendE r (vK 4 0 0 0)])
  else if u.k = 4 ∧ r.st = 2 then frT r es
  else (r, us, es)
def outT (t : T18) (c : Nat × Nat) : Heap := outH t.1 t.2.1 t.2.2 c
def C_unit18 : Ctr := ⟨3, S18 × U, fun x => [.ptr 0 0 0 0, .agg x.2.cells], fun x => x.1.H, fun x => x.1.ok ∧ x.1.es.length ≤ 100 ∧ 0 ≤ x.2.nu, fun x =>
  [.any (Nat × Nat) (outC (unT x.1.r x.1.us x.1.es x.2).2.1 (unT x.1.r x.1.us x.1.es x.2).2.2) (fun _ => .tup []) (outT (unT x.1.r x.1.us x.1.es x.2))]⟩
def cx_unit18 (_ : S18 × U) : Cx := ⟨ty, ΓOf Γv, fun _ => [], fun _ _ => [], 114, 3⟩
def Rbq11 (x : S18 × U) := (unT (S18.r (Prod.fst x)) (S18.us (Prod.fst x)) (S18.es (Prod.fst x)) (Prod.snd x))
def Rbq12 (x : S18 × U) := (List.map (fun (j : Nat) => uRow (urow (S18.us (Prod.fst x)) j)) (List.range (List.length (S18.us (Prod.fst x)))))
def Rbq13 (x : S18 × U) := (List.map (fun (j : Nat) => eRow (erow (S18.es (Prod.fst x)) j)) (List.range (List.length (S18.es (Prod.fst x)))) ++ [sendE (S18.r (Prod.fst x)) (U.mk (4 : Int) (0 : Int) (0 : Int) (0 : Int) (0 : Int) (0 : Int) (0 : Int)
  (0 : Int) false (ByteArray.mk #[]))])
def Rbq14 (x : S18 × U) := (List.map (fun (j : Nat) => eRow (erow (S18.es (Prod.fst x)) j)) (List.range (List.length (S18.es (Prod.fst x)))) ++ [tellE (3 : Int) (U.d (Prod.snd x))])
def Rbq15 (x : S18 × U) := ((∃ (y : Nat × Nat), outC (Prod.fst (Prod.snd (Rbq11 x))) (Prod.snd (Prod.snd (Rbq11 x))) y ∧ R18.nx (S18.r (Prod.fst x)) = R18.nx (Prod.fst (Rbq11 x)) ∧ R18.wa (S18.r (Prod.fst x)) = R18.wa (Prod.fst (Rbq11 x)) ∧ R18.ow
  (S18.r (Prod.fst x)) = R18.ow (Prod.fst (Rbq11 x)) ∧ R18.ot (S18.r (Prod.fst x)) = R18.ot (Prod.fst (Rbq11 x)) ∧ R18.ti (S18.r (Prod.fst x)) = R18.ti (Prod.fst (Rbq11 x)) ∧ R18.st (S18.r (Prod.fst x)) = R18.st (Prod.fst
  (Rbq11 x)) ∧ R18.le (S18.r (Prod.fst x)) = R18.le (Prod.fst (Rbq11 x)) ∧ (0 : Nat) = (0 : Nat) ∧ List.length (S18.us (Prod.fst x)) = List.length (Prod.fst (Prod.snd (Rbq11 x))) ∧ S18.ck (Prod.fst x) = Prod.fst y ∧ (0 :
  Nat) = (0 : Nat) ∧ List.length (S18.es (Prod.fst x)) = List.length (Prod.snd (Prod.snd (Rbq11 x))) ∧ S18.ca (Prod.fst x) = Prod.snd y ∧ List.length (Prod.fst (Prod.snd (Rbq11 x))) ≤ List.length (S18.us (Prod.fst x)) ∧
  List.length (Prod.fst (Prod.snd (Rbq11 x))) ≤ Prod.fst y ∧ Prod.fst y ≤ S18.ck (Prod.fst x) ∧ (∀ (j : Nat), j < List.length (Prod.fst (Prod.snd (Rbq11 x))) → urow (S18.us (Prod.fst x)) j = urow (Prod.fst (Prod.snd (Rbq11
  x))) j ∧ true = true) ∧ List.length (Prod.snd (Prod.snd (Rbq11 x))) ≤ List.length (S18.es (Prod.fst x)) ∧ List.length (Prod.snd (Prod.snd (Rbq11 x))) ≤ Prod.snd y ∧ Prod.snd y ≤ S18.ca (Prod.fst x) ∧ (∀ (j : Nat), j <
  List.length (Prod.snd (Prod.snd (Rbq11 x))) → erow (S18.es (Prod.fst x)) j = erow (Prod.snd (Prod.snd (Rbq11 x))) j ∧ true = true) ∧ True) ∨ False)
def Rbq16 (x : S18 × U) := (List.map (fun (j : Nat) => eRow (erow (S18.es (Prod.fst x)) j)) (List.range (List.length (S18.es (Prod.fst x)))))
def Rbq17 (x : S18 × U) := (List.map (fun (j : Nat) => eRow (erow (Rbq14 x) j)) (List.range (List.length (Rbq14 x))) ++ [sendE (R18.mk (R18.nx (S18.r (Prod.fst x))) (Int.tmod (IntKind.wrap IntKind.i64 (R18.wa (S18.r (Prod.fst x)) + (1 : Int)))
  (128 : Int)) (R18.ow (S18.r (Prod.fst x))) (R18.ot (S18.r (Prod.fst x))) (R18.ti (S18.r (Prod.fst x))) (R18.st (S18.r (Prod.fst x))) (R18.le (S18.r (Prod.fst x)))) (U.mk (6 : Int) (0 : Int) (0 : Int) (0 : Int) (0 : Int)
  (Int.tmod (IntKind.wrap IntKind.i64 (R18.wa (S18.r (Prod.fst x)) + (1 : Int))) (128 : Int)) (0 : Int) (0 : Int) false (ByteArray.mk #[]))])
def Rbq18 (x : S18 × U) := (List.map (fun (j : Nat) => uRow (urow (Rbq12 x) j)) (List.range (List.length (Rbq12 x))))
def Rbq19 (x : S18 × U) := (List.map (fun (j : Nat) => eRow (erow (S18.es (Prod.fst x)) j)) (List.range (List.length (S18.es (Prod.fst x)))) ++ [tellE (4 : Int) (ByteArray.mk #[])])
def Rbq20 (x : S18 × U) := (IntKind.wrap IntKind.i64 (R18.wa (S18.r (Prod.fst x)) + (1 : Int)))
def Rbq21 (x : S18 × U) := (List.map (fun (j : Nat) => eRow (erow (Rbq14 x) j)) (List.range (List.length (Rbq14 x))))
def Rbq22 (x : S18 × U) := (List.map (fun (j : Nat) => eRow (erow (Rbq13 x) j)) (List.range (List.length (Rbq13 x))))
set_option maxRecDepth 100000 in
def VcUnit18 : Prop := ∀ (x : S18 × U), S18.ok (Prod.fst x) ∧ List.length (S18.es (Prod.fst x)) ≤ (100 : Nat) ∧ (0 : Int) ≤ U.nu (Prod.snd x) → condX (decide ((128 : Int) ≤ U.nu (Prod.snd x))) (Rbq15 x) (condX (bif U.k (Prod.snd x) == (5 :
  Int) then bif R18.st (S18.r (Prod.fst x)) == (0 : Int) then true else R18.st (S18.r (Prod.fst x)) == (1 : Int) else false) (condX (U.nu (Prod.snd x) != R18.wa (S18.r (Prod.fst x))) (Rbq15 x) ((0 : Nat) = (0 : Nat) ∧ (3 :
  Int) = (3 : Int) ∧ U.d (Prod.snd x) = U.d (Prod.snd x) ∧ R18.nx (S18.r (Prod.fst x)) = R18.nx (S18.r (Prod.fst x)) ∧ R18.wa (S18.r (Prod.fst x)) = R18.wa (S18.r (Prod.fst x)) ∧ R18.ow (S18.r (Prod.fst x)) = R18.ow (S18.r
  (Prod.fst x)) ∧ R18.ot (S18.r (Prod.fst x)) = R18.ot (S18.r (Prod.fst x)) ∧ R18.ti (S18.r (Prod.fst x)) = R18.ti (S18.r (Prod.fst x)) ∧ R18.st (S18.r (Prod.fst x)) = R18.st (S18.r (Prod.fst x)) ∧ R18.le (S18.r (Prod.fst
  x)) = R18.le (S18.r (Prod.fst x)) ∧ (0 : Nat) = (0 : Nat) ∧ List.length (S18.us (Prod.fst x)) = List.length (Rbq12 x) ∧ S18.ck (Prod.fst x) = S18.ck (Prod.fst x) ∧ (0 : Nat) = (0 : Nat) ∧ List.length (S18.es (Prod.fst
  x)) = List.length (Rbq16 x) ∧ S18.ca (Prod.fst x) = S18.ca (Prod.fst x) ∧ List.length (Rbq12 x) ≤ List.length (S18.us (Prod.fst x)) ∧ List.length (Rbq12 x) ≤ S18.ck (Prod.fst x) ∧ S18.ck (Prod.fst x) ≤ S18.ck (Prod.fst
  x) ∧ (∀ (j : Nat), j < List.length (Rbq12 x) → urow (S18.us (Prod.fst x)) j = urow (Rbq12 x) j ∧ true = true) ∧ List.length (Rbq16 x) ≤ List.length (S18.es (Prod.fst x)) ∧ List.length (Rbq16 x) ≤ S18.ca (Prod.fst x) ∧
  S18.ca (Prod.fst x) ≤ S18.ca (Prod.fst x) ∧ (∀ (j : Nat), j < List.length (Rbq16 x) → erow (S18.es (Prod.fst x)) j = erow (Rbq16 x) j ∧ true = true) ∧ S18.ok (S18.mk (S18.r (Prod.fst x)) (Rbq12 x) (S18.ck (Prod.fst x))
  (Rbq16 x) (S18.ca (Prod.fst x))) ∧ ∀ (yᵥ1 : Nat), List.length (Rbq14 x) ≤ yᵥ1 → (128 : Int) ≠ (0 : Int) ∧ (4 : Int) ≠ (0 : Int) ∧ condX (Int.tmod (Int.tmod (Rbq20 x) (128 : Int)) (4 : Int) == (0 : Int)) ((0 : Nat) = (0 :
  Nat) ∧ (6 : Int) = (6 : Int) ∧ (0 : Int) = (0 : Int) ∧ (0 : Int) = (0 : Int) ∧ (0 : Int) = (0 : Int) ∧ (0 : Int) = (0 : Int) ∧ Int.tmod (Rbq20 x) (128 : Int) = Int.tmod (Rbq20 x) (128 : Int) ∧ (0 : Int) = (0 : Int) ∧ (0
  : Int) = (0 : Int) ∧ false = false ∧ ByteArray.mk #[] = ByteArray.mk #[] ∧ R18.nx (S18.r (Prod.fst x)) = R18.nx (S18.r (Prod.fst x)) ∧ Int.tmod (Rbq20 x) (128 : Int) = Int.tmod (Rbq20 x) (128 : Int) ∧ R18.ow (S18.r
  (Prod.fst x)) = R18.ow (S18.r (Prod.fst x)) ∧ R18.ot (S18.r (Prod.fst x)) = R18.ot (S18.r (Prod.fst x)) ∧ R18.ti (S18.r (Prod.fst x)) = R18.ti (S18.r (Prod.fst x)) ∧ R18.st (S18.r (Prod.fst x)) = R18.st (S18.r (Prod.fst
  x)) ∧ R18.le (S18.r (Prod.fst x)) = R18.le (S18.r (Prod.fst x)) ∧ (0 : Nat) = (0 : Nat) ∧ List.length (Rbq12 x) = List.length (Rbq18 x) ∧ S18.ck (Prod.fst x) = S18.ck (Prod.fst x) ∧ (0 : Nat) = (0 : Nat) ∧ List.length
  (Rbq14 x) = List.length (Rbq21 x) ∧ yᵥ1 = yᵥ1 ∧ List.length (Rbq18 x) ≤ List.length (Rbq12 x) ∧ List.length (Rbq18 x) ≤ S18.ck (Prod.fst x) ∧ S18.ck (Prod.fst x) ≤ S18.ck (Prod.fst x) ∧ (∀ (j : Nat), j < List.length
  (Rbq18 x) → urow (Rbq12 x) j = urow (Rbq18 x) j ∧ true = true) ∧ List.length (Rbq21 x) ≤ List.length (Rbq14 x) ∧ List.length (Rbq21 x) ≤ yᵥ1 ∧ yᵥ1 ≤ yᵥ1 ∧ (∀ (j : Nat), j < List.length (Rbq21 x) → erow (Rbq14 x) j = erow
  (Rbq21 x) j ∧ true = true) ∧ S18.ok (S18.mk (R18.mk (R18.nx (S18.r (Prod.fst x))) (Int.tmod (Rbq20 x) (128 : Int)) (R18.ow (S18.r (Prod.fst x))) (R18.ot (S18.r (Prod.fst x))) (R18.ti (S18.r (Prod.fst x))) (R18.st (S18.r
  (Prod.fst x))) (R18.le (S18.r (Prod.fst x)))) (Rbq18 x) (S18.ck (Prod.fst x)) (Rbq21 x) yᵥ1) ∧ ∀ (yᵥ1 : Nat), List.length (Rbq17 x) ≤ yᵥ1 → (∃ (y_1 : Nat × Nat), outC (Prod.fst (Prod.snd (Rbq11 x))) (Prod.snd (Prod.snd
  (Rbq11 x))) y_1 ∧ R18.nx (S18.r (Prod.fst x)) = R18.nx (Prod.fst (Rbq11 x)) ∧ Int.tmod (Rbq20 x) (128 : Int) = R18.wa (Prod.fst (Rbq11 x)) ∧ R18.ow (S18.r (Prod.fst x)) = R18.ow (Prod.fst (Rbq11 x)) ∧ R18.ot (S18.r
  (Prod.fst x)) = R18.ot (Prod.fst (Rbq11 x)) ∧ R18.ti (S18.r (Prod.fst x)) = R18.ti (Prod.fst (Rbq11 x)) ∧ R18.st (S18.r (Prod.fst x)) = R18.st (Prod.fst (Rbq11 x)) ∧ R18.le (S18.r (Prod.fst x)) = R18.le (Prod.fst (Rbq11
  x)) ∧ (0 : Nat) = (0 : Nat) ∧ List.length (Rbq18 x) = List.length (Prod.fst (Prod.snd (Rbq11 x))) ∧ S18.ck (Prod.fst x) = Prod.fst y_1 ∧ (0 : Nat) = (0 : Nat) ∧ List.length (Rbq17 x) = List.length (Prod.snd (Prod.snd
  (Rbq11 x))) ∧ yᵥ1 = Prod.snd y_1 ∧ List.length (Prod.fst (Prod.snd (Rbq11 x))) ≤ List.length (Rbq18 x) ∧ List.length (Prod.fst (Prod.snd (Rbq11 x))) ≤ Prod.fst y_1 ∧ Prod.fst y_1 ≤ S18.ck (Prod.fst x) ∧ (∀ (j : Nat), j <
  List.length (Prod.fst (Prod.snd (Rbq11 x))) → urow (Rbq18 x) j = urow (Prod.fst (Prod.snd (Rbq11 x))) j ∧ true = true) ∧ List.length (Prod.snd (Prod.snd (Rbq11 x))) ≤ List.length (Rbq17 x) ∧ List.length (Prod.snd
  (Prod.snd (Rbq11 x))) ≤ Prod.snd y_1 ∧ Prod.snd y_1 ≤ yᵥ1 ∧ (∀ (j : Nat), j < List.length (Prod.snd (Prod.snd (Rbq11 x))) → erow (Rbq17 x) j = erow (Prod.snd (Prod.snd (Rbq11 x))) j ∧ true = true) ∧ True) ∨ False) ((∃
  (y_1 : Nat × Nat), outC (Prod.fst (Prod.snd (Rbq11 x))) (Prod.snd (Prod.snd (Rbq11 x))) y_1 ∧ R18.nx (S18.r (Prod.fst x)) = R18.nx (Prod.fst (Rbq11 x)) ∧ Int.tmod (Rbq20 x) (128 : Int) = R18.wa (Prod.fst (Rbq11 x)) ∧
  R18.ow (S18.r (Prod.fst x)) = R18.ow (Prod.fst (Rbq11 x)) ∧ R18.ot (S18.r (Prod.fst x)) = R18.ot (Prod.fst (Rbq11 x)) ∧ R18.ti (S18.r (Prod.fst x)) = R18.ti (Prod.fst (Rbq11 x)) ∧ R18.st (S18.r (Prod.fst x)) = R18.st
  (Prod.fst (Rbq11 x)) ∧ R18.le (S18.r (Prod.fst x)) = R18.le (Prod.fst (Rbq11 x)) ∧ (0 : Nat) = (0 : Nat) ∧ List.length (Rbq12 x) = List.length (Prod.fst (Prod.snd (Rbq11 x))) ∧ S18.ck (Prod.fst x) = Prod.fst y_1 ∧ (0 :
  Nat) = (0 : Nat) ∧ List.length (Rbq14 x) = List.length (Prod.snd (Prod.snd (Rbq11 x))) ∧ yᵥ1 = Prod.snd y_1 ∧ List.length (Prod.fst (Prod.snd (Rbq11 x))) ≤ List.length (Rbq12 x) ∧ List.length (Prod.fst (Prod.snd (Rbq11
  x))) ≤ Prod.fst y_1 ∧ Prod.fst y_1 ≤ S18.ck (Prod.fst x) ∧ (∀ (j : Nat), j < List.length (Prod.fst (Prod.snd (Rbq11 x))) → urow (Rbq12 x) j = urow (Prod.fst (Prod.snd (Rbq11 x))) j ∧ true = true) ∧ List.length (Prod.snd
  (Prod.snd (Rbq11 x))) ≤ List.length (Rbq14 x) ∧ List.length (Prod.snd (Prod.snd (Rbq11 x))) ≤ Prod.snd y_1 ∧ Prod.snd y_1 ≤ yᵥ1 ∧ (∀ (j : Nat), j < List.length (Prod.snd (Prod.snd (Rbq11 x))) → erow (Rbq14 x) j = erow
  (Prod.snd (Prod.snd (Rbq11 x))) j ∧ true = true) ∧ True) ∨ False))) (condX (bif bif U.k (Prod.snd x) == (6 : Int) then true else U.k (Prod.snd x) == (7 : Int) then bif R18.st (S18.r (Prod.fst x)) == (0 : Int) then true
  else R18.st (S18.r (Prod.fst x)) == (1 : Int) else false) ((0 : Nat) = (0 : Nat) ∧ U.k (Prod.snd x) = U.k (Prod.snd x) ∧ U.to (Prod.snd x) = U.to (Prod.snd x) ∧ U.fr (Prod.snd x) = U.fr (Prod.snd x) ∧ U.cl (Prod.snd x) =
  U.cl (Prod.snd x) ∧ U.sz (Prod.snd x) = U.sz (Prod.snd x) ∧ U.nu (Prod.snd x) = U.nu (Prod.snd x) ∧ U.cr (Prod.snd x) = U.cr (Prod.snd x) ∧ U.re (Prod.snd x) = U.re (Prod.snd x) ∧ U.e (Prod.snd x) = U.e (Prod.snd x) ∧
  U.d (Prod.snd x) = U.d (Prod.snd x) ∧ R18.nx (S18.r (Prod.fst x)) = R18.nx (S18.r (Prod.fst x)) ∧ R18.wa (S18.r (Prod.fst x)) = R18.wa (S18.r (Prod.fst x)) ∧ R18.ow (S18.r (Prod.fst x)) = R18.ow (S18.r (Prod.fst x)) ∧
  R18.ot (S18.r (Prod.fst x)) = R18.ot (S18.r (Prod.fst x)) ∧ R18.ti (S18.r (Prod.fst x)) = R18.ti (S18.r (Prod.fst x)) ∧ R18.st (S18.r (Prod.fst x)) = R18.st (S18.r (Prod.fst x)) ∧ R18.le (S18.r (Prod.fst x)) = R18.le
  (S18.r (Prod.fst x)) ∧ (0 : Nat) = (0 : Nat) ∧ List.length (S18.us (Prod.fst x)) = List.length (Rbq12 x) ∧ S18.ck (Prod.fst x) = S18.ck (Prod.fst x) ∧ (0 : Nat) = (0 : Nat) ∧ List.length (S18.es (Prod.fst x)) =
  List.length (Rbq16 x) ∧ S18.ca (Prod.fst x) = S18.ca (Prod.fst x) ∧ List.length (Rbq12 x) ≤ List.length (S18.us (Prod.fst x)) ∧ List.length (Rbq12 x) ≤ S18.ck (Prod.fst x) ∧ S18.ck (Prod.fst x) ≤ S18.ck (Prod.fst x) ∧ (∀
  (j : Nat), j < List.length (Rbq12 x) → urow (S18.us (Prod.fst x)) j = urow (Rbq12 x) j ∧ true = true) ∧ List.length (Rbq16 x) ≤ List.length (S18.es (Prod.fst x)) ∧ List.length (Rbq16 x) ≤ S18.ca (Prod.fst x) ∧ S18.ca
  (Prod.fst x) ≤ S18.ca (Prod.fst x) ∧ (∀ (j : Nat), j < List.length (Rbq16 x) → erow (S18.es (Prod.fst x)) j = erow (Rbq16 x) j ∧ true = true) ∧ (S18.ok (S18.mk (S18.r (Prod.fst x)) (Rbq12 x) (S18.ck (Prod.fst x)) (Rbq16
  x) (S18.ca (Prod.fst x))) ∧ List.length (Rbq16 x) ≤ (100 : Nat) ∧ (0 : Int) ≤ U.nu (Prod.snd x) ∧ U.nu (Prod.snd x) < (128 : Int)) ∧ ∀ (y : Nat × Nat), outC (ackU (S18.r (Prod.fst x)) (Rbq12 x) (Prod.snd x)) (ackA (S18.r
  (Prod.fst x)) (Rbq12 x) (Rbq16 x) (Prod.snd x)) y → (∃ (y_1 : Nat × Nat), outC (Prod.fst (Prod.snd (Rbq11 x))) (Prod.snd (Prod.snd (Rbq11 x))) y_1 ∧ R18.nx (ackR (S18.r (Prod.fst x)) (Rbq12 x) (Prod.snd x)) = R18.nx
  (Prod.fst (Rbq11 x)) ∧ R18.wa (ackR (S18.r (Prod.fst x)) (Rbq12 x) (Prod.snd x)) = R18.wa (Prod.fst (Rbq11 x)) ∧ R18.ow (ackR (S18.r (Prod.fst x)) (Rbq12 x) (Prod.snd x)) = R18.ow (Prod.fst (Rbq11 x)) ∧ R18.ot (ackR
  (S18.r (Prod.fst x)) (Rbq12 x) (Prod.snd x)) = R18.ot (Prod.fst (Rbq11 x)) ∧ R18.ti (ackR (S18.r (Prod.fst x)) (Rbq12 x) (Prod.snd x)) = R18.ti (Prod.fst (Rbq11 x)) ∧ R18.st (ackR (S18.r (Prod.fst x)) (Rbq12 x) (Prod.snd
  x)) = R18.st (Prod.fst (Rbq11 x)) ∧ R18.le (ackR (S18.r (Prod.fst x)) (Rbq12 x) (Prod.snd x)) = R18.le (Prod.fst (Rbq11 x)) ∧ (0 : Nat) = (0 : Nat) ∧ List.length (ackU (S18.r (Prod.fst x)) (Rbq12 x) (Prod.snd x)) =
  List.length (Prod.fst (Prod.snd (Rbq11 x))) ∧ Prod.fst y = Prod.fst y_1 ∧ (0 : Nat) = (0 : Nat) ∧ List.length (ackA (S18.r (Prod.fst x)) (Rbq12 x) (Rbq16 x) (Prod.snd x)) = List.length (Prod.snd (Prod.snd (Rbq11 x))) ∧
  Prod.snd y = Prod.snd y_1 ∧ List.length (Prod.fst (Prod.snd (Rbq11 x))) ≤ List.length (ackU (S18.r (Prod.fst x)) (Rbq12 x) (Prod.snd x)) ∧ List.length (Prod.fst (Prod.snd (Rbq11 x))) ≤ Prod.fst y_1 ∧ Prod.fst y_1 ≤
  Prod.fst y ∧ (∀ (j : Nat), j < List.length (Prod.fst (Prod.snd (Rbq11 x))) → urow (ackU (S18.r (Prod.fst x)) (Rbq12 x) (Prod.snd x)) j = urow (Prod.fst (Prod.snd (Rbq11 x))) j ∧ true = true) ∧ List.length (Prod.snd
  (Prod.snd (Rbq11 x))) ≤ List.length (ackA (S18.r (Prod.fst x)) (Rbq12 x) (Rbq16 x) (Prod.snd x)) ∧ List.length (Prod.snd (Prod.snd (Rbq11 x))) ≤ Prod.snd y_1 ∧ Prod.snd y_1 ≤ Prod.snd y ∧ (∀ (j : Nat), j < List.length
  (Prod.snd (Prod.snd (Rbq11 x))) → erow (ackA (S18.r (Prod.fst x)) (Rbq12 x) (Rbq16 x) (Prod.snd x)) j = erow (Prod.snd (Prod.snd (Rbq11 x))) j ∧ true = true) ∧ True) ∨ False) (condX (bif U.k (Prod.snd x) == (3 : Int)
  then bif bif R18.st (S18.r (Prod.fst x)) == (0 : Int) then true else R18.st (S18.r (Prod.fst x)) == (1 : Int) then true else R18.st (S18.r (Prod.fst x)) == (2 : Int) else false) ((0 : Nat) = (0 : Nat) ∧ (4 : Int) = (4 :
  Int) ∧ (0 : Int) = (0 : Int) ∧ (0 : Int) = (0 : Int) ∧ (0 : Int) = (0 : Int) ∧ (0 : Int) = (0 : Int) ∧ (0 : Int) = (0 : Int) ∧ (0 : Int) = (0 : Int) ∧ (0 : Int) = (0 : Int) ∧ false = false ∧ ByteArray.mk #[] =
  ByteArray.mk #[] ∧ R18.nx (S18.r (Prod.fst x)) = R18.nx (S18.r (Prod.fst x)) ∧ R18.wa (S18.r (Prod.fst x)) = R18.wa (S18.r (Prod.fst x)) ∧ R18.ow (S18.r (Prod.fst x)) = R18.ow (S18.r (Prod.fst x)) ∧ R18.ot (S18.r
  (Prod.fst x)) = R18.ot (S18.r (Prod.fst x)) ∧ R18.ti (S18.r (Prod.fst x)) = R18.ti (S18.r (Prod.fst x)) ∧ R18.st (S18.r (Prod.fst x)) = R18.st (S18.r (Prod.fst x)) ∧ R18.le (S18.r (Prod.fst x)) = R18.le (S18.r (Prod.fst
  x)) ∧ (0 : Nat) = (0 : Nat) ∧ List.length (S18.us (Prod.fst x)) = List.length (Rbq12 x) ∧ S18.ck (Prod.fst x) = S18.ck (Prod.fst x) ∧ (0 : Nat) = (0 : Nat) ∧ List.length (S18.es (Prod.fst x)) = List.length (Rbq16 x) ∧
  S18.ca (Prod.fst x) = S18.ca (Prod.fst x) ∧ List.length (Rbq12 x) ≤ List.length (S18.us (Prod.fst x)) ∧ List.length (Rbq12 x) ≤ S18.ck (Prod.fst x) ∧ S18.ck (Prod.fst x) ≤ S18.ck (Prod.fst x) ∧ (∀ (j : Nat), j <
  List.length (Rbq12 x) → urow (S18.us (Prod.fst x)) j = urow (Rbq12 x) j ∧ true = true) ∧ List.length (Rbq16 x) ≤ List.length (S18.es (Prod.fst x)) ∧ List.length (Rbq16 x) ≤ S18.ca (Prod.fst x) ∧ S18.ca (Prod.fst x) ≤
  S18.ca (Prod.fst x) ∧ (∀ (j : Nat), j < List.length (Rbq16 x) → erow (S18.es (Prod.fst x)) j = erow (Rbq16 x) j ∧ true = true) ∧ S18.ok (S18.mk (S18.r (Prod.fst x)) (Rbq12 x) (S18.ck (Prod.fst x)) (Rbq16 x) (S18.ca
  (Prod.fst x))) ∧ ∀ (yᵥ1 : Nat), List.length (Rbq13 x) ≤ yᵥ1 → condX (bif R18.st (S18.r (Prod.fst x)) == (0 : Int) then true else R18.st (S18.r (Prod.fst x)) == (1 : Int)) ((0 : Nat) = (0 : Nat) ∧ R18.nx (S18.r (Prod.fst
  x)) = R18.nx (S18.r (Prod.fst x)) ∧ R18.wa (S18.r (Prod.fst x)) = R18.wa (S18.r (Prod.fst x)) ∧ R18.ow (S18.r (Prod.fst x)) = R18.ow (S18.r (Prod.fst x)) ∧ R18.ot (S18.r (Prod.fst x)) = R18.ot (S18.r (Prod.fst x)) ∧
  R18.ti (S18.r (Prod.fst x)) = R18.ti (S18.r (Prod.fst x)) ∧ R18.st (S18.r (Prod.fst x)) = R18.st (S18.r (Prod.fst x)) ∧ R18.le (S18.r (Prod.fst x)) = R18.le (S18.r (Prod.fst x)) ∧ (0 : Nat) = (0 : Nat) ∧ List.length
  (Rbq12 x) = List.length (Rbq18 x) ∧ S18.ck (Prod.fst x) = S18.ck (Prod.fst x) ∧ (0 : Nat) = (0 : Nat) ∧ List.length (Rbq13 x) = List.length (Rbq22 x) ∧ yᵥ1 = yᵥ1 ∧ List.length (Rbq18 x) ≤ List.length (Rbq12 x) ∧
  List.length (Rbq18 x) ≤ S18.ck (Prod.fst x) ∧ S18.ck (Prod.fst x) ≤ S18.ck (Prod.fst x) ∧ (∀ (j : Nat), j < List.length (Rbq18 x) → urow (Rbq12 x) j = urow (Rbq18 x) j ∧ true = true) ∧ List.length (Rbq22 x) ≤ List.length
  (Rbq13 x) ∧ List.length (Rbq22 x) ≤ yᵥ1 ∧ yᵥ1 ≤ yᵥ1 ∧ (∀ (j : Nat), j < List.length (Rbq22 x) → erow (Rbq13 x) j = erow (Rbq22 x) j ∧ true = true) ∧ S18.ok (S18.mk (S18.r (Prod.fst x)) (Rbq18 x) (S18.ck (Prod.fst x))
  (Rbq22 x) yᵥ1) ∧ ∀ (y : Nat × Nat), outC [] (List.map (fun (j : Nat) => eRow (erow (Rbq13 x) j)) (List.range (List.length (Rbq13 x))) ++ [tellE (4 : Int) (ByteArray.mk #[])]) y → (∃ (y_1 : Nat × Nat), outC (Prod.fst
  (Prod.snd (Rbq11 x))) (Prod.snd (Prod.snd (Rbq11 x))) y_1 ∧ R18.nx (S18.r (Prod.fst x)) = R18.nx (Prod.fst (Rbq11 x)) ∧ R18.wa (S18.r (Prod.fst x)) = R18.wa (Prod.fst (Rbq11 x)) ∧ R18.ow (S18.r (Prod.fst x)) = R18.ow
  (Prod.fst (Rbq11 x)) ∧ R18.ot (S18.r (Prod.fst x)) = R18.ot (Prod.fst (Rbq11 x)) ∧ R18.ti (S18.r (Prod.fst x)) = R18.ti (Prod.fst (Rbq11 x)) ∧ (3 : Int) = R18.st (Prod.fst (Rbq11 x)) ∧ R18.ti (S18.r (Prod.fst x)) =
  R18.le (Prod.fst (Rbq11 x)) ∧ (0 : Nat) = (0 : Nat) ∧ (0 : Nat) = List.length (Prod.fst (Prod.snd (Rbq11 x))) ∧ Prod.fst y = Prod.fst y_1 ∧ (0 : Nat) = (0 : Nat) ∧ List.length (List.map (fun (j : Nat) => eRow (erow
  (Rbq13 x) j)) (List.range (List.length (Rbq13 x))) ++ [tellE (4 : Int) (ByteArray.mk #[])]) = List.length (Prod.snd (Prod.snd (Rbq11 x))) ∧ Prod.snd y = Prod.snd y_1 ∧ List.length (Prod.fst (Prod.snd (Rbq11 x))) ≤ (0 :
  Nat) ∧ List.length (Prod.fst (Prod.snd (Rbq11 x))) ≤ Prod.fst y_1 ∧ Prod.fst y_1 ≤ Prod.fst y ∧ (∀ (j : Nat), j < List.length (Prod.fst (Prod.snd (Rbq11 x))) → urow [] j = urow (Prod.fst (Prod.snd (Rbq11 x))) j ∧ true =
  true) ∧ List.length (Prod.snd (Prod.snd (Rbq11 x))) ≤ List.length (List.map (fun (j : Nat) => eRow (erow (Rbq13 x) j)) (List.range (List.length (Rbq13 x))) ++ [tellE (4 : Int) (ByteArray.mk #[])]) ∧ List.length (Prod.snd
  (Prod.snd (Rbq11 x))) ≤ Prod.snd y_1 ∧ Prod.snd y_1 ≤ Prod.snd y ∧ (∀ (j : Nat), j < List.length (Prod.snd (Prod.snd (Rbq11 x))) → erow (List.map (fun (j : Nat) => eRow (erow (Rbq13 x) j)) (List.range (List.length (Rbq13
  x))) ++ [tellE (4 : Int) (ByteArray.mk #[])]) j = erow (Prod.snd (Prod.snd (Rbq11 x))) j ∧ true = true) ∧ True) ∨ False) ((∃ (y_1 : Nat × Nat), outC (Prod.fst (Prod.snd (Rbq11 x))) (Prod.snd (Prod.snd (Rbq11 x))) y_1 ∧
  R18.nx (S18.r (Prod.fst x)) = R18.nx (Prod.fst (Rbq11 x)) ∧ R18.wa (S18.r (Prod.fst x)) = R18.wa (Prod.fst (Rbq11 x)) ∧ R18.ow (S18.r (Prod.fst x)) = R18.ow (Prod.fst (Rbq11 x)) ∧ R18.ot (S18.r (Prod.fst x)) = R18.ot
  (Prod.fst (Rbq11 x)) ∧ R18.ti (S18.r (Prod.fst x)) = R18.ti (Prod.fst (Rbq11 x)) ∧ R18.st (S18.r (Prod.fst x)) = R18.st (Prod.fst (Rbq11 x)) ∧ R18.le (S18.r (Prod.fst x)) = R18.le (Prod.fst (Rbq11 x)) ∧ (0 : Nat) = (0 :
  Nat) ∧ List.length (Rbq12 x) = List.length (Prod.fst (Prod.snd (Rbq11 x))) ∧ S18.ck (Prod.fst x) = Prod.fst y_1 ∧ (0 : Nat) = (0 : Nat) ∧ List.length (Rbq13 x) = List.length (Prod.snd (Prod.snd (Rbq11 x))) ∧ yᵥ1 =
  Prod.snd y_1 ∧ List.length (Prod.fst (Prod.snd (Rbq11 x))) ≤ List.length (Rbq12 x) ∧ List.length (Prod.fst (Prod.snd (Rbq11 x))) ≤ Prod.fst y_1 ∧ Prod.fst y_1 ≤ S18.ck (Prod.fst x) ∧ (∀ (j : Nat), j < List.length
  (Prod.fst (Prod.snd (Rbq11 x))) → urow (Rbq12 x) j = urow (Prod.fst (Prod.snd (Rbq11 x))) j ∧ true = true) ∧ List.length (Prod.snd (Prod.snd (Rbq11 x))) ≤ List.length (Rbq13 x) ∧ List.length (Prod.snd (Prod.snd (Rbq11
  x))) ≤ Prod.snd y_1 ∧ Prod.snd y_1 ≤ yᵥ1 ∧ (∀ (j : Nat), j < List.length (Prod.snd (Prod.snd (Rbq11 x))) → erow (Rbq13 x) j = erow (Prod.snd (Prod.snd (Rbq11 x))) j ∧ true = true) ∧ True) ∨ False)) (condX (bif U.k
  (Prod.snd x) == (4 : Int) then R18.st (S18.r (Prod.fst x)) == (2 : Int) else false) ((0 : Nat) = (0 : Nat) ∧ R18.nx (S18.r (Prod.fst x)) = R18.nx (S18.r (Prod.fst x)) ∧ R18.wa (S18.r (Prod.fst x)) = R18.wa (S18.r
  (Prod.fst x)) ∧ R18.ow (S18.r (Prod.fst x)) = R18.ow (S18.r (Prod.fst x)) ∧ R18.ot (S18.r (Prod.fst x)) = R18.ot (S18.r (Prod.fst x)) ∧ R18.ti (S18.r (Prod.fst x)) = R18.ti (S18.r (Prod.fst x)) ∧ R18.st (S18.r (Prod.fst
  x)) = R18.st (S18.r (Prod.fst x)) ∧ R18.le (S18.r (Prod.fst x)) = R18.le (S18.r (Prod.fst x)) ∧ (0 : Nat) = (0 : Nat) ∧ List.length (S18.us (Prod.fst x)) = List.length (Rbq12 x) ∧ S18.ck (Prod.fst x) = S18.ck (Prod.fst
  x) ∧ (0 : Nat) = (0 : Nat) ∧ List.length (S18.es (Prod.fst x)) = List.length (Rbq16 x) ∧ S18.ca (Prod.fst x) = S18.ca (Prod.fst x) ∧ List.length (Rbq12 x) ≤ List.length (S18.us (Prod.fst x)) ∧ List.length (Rbq12 x) ≤
  S18.ck (Prod.fst x) ∧ S18.ck (Prod.fst x) ≤ S18.ck (Prod.fst x) ∧ (∀ (j : Nat), j < List.length (Rbq12 x) → urow (S18.us (Prod.fst x)) j = urow (Rbq12 x) j ∧ true = true) ∧ List.length (Rbq16 x) ≤ List.length (S18.es
  (Prod.fst x)) ∧ List.length (Rbq16 x) ≤ S18.ca (Prod.fst x) ∧ S18.ca (Prod.fst x) ≤ S18.ca (Prod.fst x) ∧ (∀ (j : Nat), j < List.length (Rbq16 x) → erow (S18.es (Prod.fst x)) j = erow (Rbq16 x) j ∧ true = true) ∧ S18.ok
  (S18.mk (S18.r (Prod.fst x)) (Rbq12 x) (S18.ck (Prod.fst x)) (Rbq16 x) (S18.ca (Prod.fst x))) ∧ ∀ (y : Nat × Nat), outC [] (Rbq19 x) y → (∃ (y_1 : Nat × Nat), outC (Prod.fst (Prod.snd (Rbq11 x))) (Prod.snd (Prod.snd
  (Rbq11 x))) y_1 ∧ R18.nx (S18.r (Prod.fst x)) = R18.nx (Prod.fst (Rbq11 x)) ∧ R18.wa (S18.r (Prod.fst x)) = R18.wa (Prod.fst (Rbq11 x)) ∧ R18.ow (S18.r (Prod.fst x)) = R18.ow (Prod.fst (Rbq11 x)) ∧ R18.ot (S18.r
  (Prod.fst x)) = R18.ot (Prod.fst (Rbq11 x)) ∧ R18.ti (S18.r (Prod.fst x)) = R18.ti (Prod.fst (Rbq11 x)) ∧ (3 : Int) = R18.st (Prod.fst (Rbq11 x)) ∧ R18.ti (S18.r (Prod.fst x)) = R18.le (Prod.fst (Rbq11 x)) ∧ (0 : Nat) =
  (0 : Nat) ∧ (0 : Nat) = List.length (Prod.fst (Prod.snd (Rbq11 x))) ∧ Prod.fst y = Prod.fst y_1 ∧ (0 : Nat) = (0 : Nat) ∧ List.length (Rbq19 x) = List.length (Prod.snd (Prod.snd (Rbq11 x))) ∧ Prod.snd y = Prod.snd y_1 ∧
  List.length (Prod.fst (Prod.snd (Rbq11 x))) ≤ (0 : Nat) ∧ List.length (Prod.fst (Prod.snd (Rbq11 x))) ≤ Prod.fst y_1 ∧ Prod.fst y_1 ≤ Prod.fst y ∧ (∀ (j : Nat), j < List.length (Prod.fst (Prod.snd (Rbq11 x))) → urow [] j
  = urow (Prod.fst (Prod.snd (Rbq11 x))) j ∧ true = true) ∧ List.length (Prod.snd (Prod.snd (Rbq11 x))) ≤ List.length (Rbq19 x) ∧ List.length (Prod.snd (Prod.snd (Rbq11 x))) ≤ Prod.snd y_1 ∧ Prod.snd y_1 ≤ Prod.snd y ∧ (∀
  (j : Nat), j < List.length (Prod.snd (Prod.snd (Rbq11 x))) → erow (Rbq19 x) j = erow (Prod.snd (Prod.snd (Rbq11 x))) j ∧ true = true) ∧ True) ∨ False) (Rbq15 x)))))
theorem vcUnit18E : VcUnit18 = (∀ (x : S18 × U), (x.1.ok ∧ x.1.es.length ≤ 100 ∧ 0 ≤ x.2.nu) → fnX (cx_unit18 x) (bodyOf Try.f24) Try.f24.results.toList (C_unit18.args x) (C_unit18.H x) (endX 3 (C_unit18.outs x))) := by kernel_rfl
set_option maxRecDepth 100000 in
set_option maxHeartbeats 4000000 in
theorem vcUnit18 : VcUnit18 := by
  unfold VcUnit18 Rbq22 Rbq21 Rbq20 Rbq19 Rbq18 Rbq17 Rbq16 Rbq15 Rbq14 Rbq13 Rbq12 Rbq11
  rintro ⟨⟨r, us, ck, es, ca⟩, u⟩ ⟨⟨h1, h2, h3, h4, h5⟩, h6, h7⟩
  have h1 : us.length ≤ ck := h1
  have h2 : es.length ≤ ca := h2
  have h3 : us.length ≤ 60 := h3
  have h6 : es.length ≤ 100 := h6
  have h5 : r.ok := h5
  have h7 : 0 ≤ u.nu := h7
  simp only [eq_self, true_and, and_true, Nat.le_refl, Int.le_refl, implies_true, forall_const, and_false, false_and, exists_false, false_or, or_false, true_implies, Nat.zero_add, and_self, Int.toNat_natCast, cond_true, cond_false, h1, h2, uRow_urow, eRow_erow, condT, condF]
  refine (condX_iff _ _ _).2 ⟨fun c => ?_, fun c => ?_⟩
  · have c := of_decide_eq_true c
    have hT : unT r us es u = (r, us, es) := by rw [unT, if_pos c]
    rw [hT]
    dsimp only
    refine ⟨(ck, ca), ?_⟩
    and_intros <;> first | with_reducible rfl | exact h1 | exact h2 | exact hy | exact hy.1 | exact hy.2 | exact hy2 | exact hy2.1 | exact hy2.2 | exact ⟨h1, hy⟩ | exact ⟨h1, hy2⟩ | exact Nat.le_refl _ | exact Nat.zero_le _ | exact fun j hj => rfl | exact ⟨h1, h2⟩ | rfl
  have p0 : ¬ 128 ≤ u.nu := of_decide_eq_false c
  refine (condX_iff _ _ _).2 ⟨fun c => ?_, fun c => ?_⟩
  · simp only [bAnd, bOr, beq_iff_eq] at c
    refine (condX_iff _ _ _).2 ⟨fun d => ?_, fun d => ?_⟩
    · have d : u.nu ≠ r.wa := by simpa using d
      have hT : unT r us es u = (r, us, es) := by rw [unT, if_neg p0, if_pos c, if_pos d]
      rw [hT]
      dsimp only
      refine ⟨(ck, ca), ?_⟩
      and_intros <;> first | with_reducible rfl | exact h1 | exact h2 | exact hy | exact hy.1 | exact hy.2 | exact hy2 | exact hy2.1 | exact hy2.2 | exact ⟨h1, hy⟩ | exact ⟨h1, hy2⟩ | exact Nat.le_refl _ | exact Nat.zero_le _ | exact fun j hj => rfl | exact ⟨h1, h2⟩ | rfl
    · have d : ¬ u.nu ≠ r.wa := by simpa using d
      have n1 := h5.wa
      have hw : (IntKind.i64.wrap (r.wa + 1)).tmod 128 = (r.wa + 1) % 128 := by rw [wrap1 (by omega) (by omega), tmod_nn (by omega)]
      have hw4 : ((r.wa + 1) % 128).tmod 4 = (r.wa + 1) % 128 % 4 := tmod_nn (by omega) 4
      simp only [hw, hw4]
      have hl : (es ++ [tellE 3 u.d]).length = es.length + 1 := by simp
      refine ⟨⟨h1, h2, h3, h4, h5⟩, fun y hy => ⟨by decide, by decide, (condX_iff _ _ _).2 ⟨fun g => ?_, fun g => ?_⟩⟩⟩
      · have g : (r.wa + 1) % 128 % 4 = 0 := by simpa using g
        have hT : unT r us es u = (waR r, us, es ++ [tellE 3 u.d] ++ [sendE (waR r) (vK 6 0 0 ((r.wa + 1) % 128))]) := by rw [unT, if_neg p0, if_pos c, if_neg d, if_pos g]
        rw [hT]
        dsimp only
        refine ⟨hy, ⟨h1, hy, h3, by rw [hl]; omega, ok_wa h5⟩, fun y2 hy2 => ⟨(ck, y2), ?_⟩⟩
        and_intros <;> first | with_reducible rfl | exact h1 | exact h2 | exact hy | exact hy.1 | exact hy.2 | exact hy2 | exact hy2.1 | exact hy2.2 | exact ⟨h1, hy⟩ | exact ⟨h1, hy2⟩ | exact Nat.le_refl _ | exact Nat.zero_le _ | exact fun j hj => rfl | exact ⟨h1, h2⟩ | rfl
      · have g : ¬ (r.wa + 1) % 128 % 4 = 0 := by simpa using g
        have hT : unT r us es u = (waR r, us, es ++ [tellE 3 u.d]) := by rw [unT, if_neg p0, if_pos c, if_neg d, if_neg g]
        rw [hT]
        dsimp only
        refine ⟨(ck, y), ?_⟩
        and_intros <;> first | with_reducible rfl | exact h1 | exact h2 | exact hy | exact hy.1 | exact hy.2 | exact hy2 | exact hy2.1 | exact hy2.2 | exact ⟨h1, hy⟩ | exact ⟨h1, hy2⟩ | exact Nat.le_refl _ | exact Nat.zero_le _ | exact fun j hj => rfl | exact ⟨h1, h2⟩ | rfl
  have p1 : ¬ (u.k = 5 ∧ (r.st = 0 ∨ r.st = 1)) := fun h => by
    rw [← Bool.not_eq_true] at c; simp only [bAnd, bOr, beq_iff_eq] at c; exact c h
  refine (condX_iff _ _ _).2 ⟨fun c => ?_, fun c => ?_⟩
  · simp only [bAnd, bOr, beq_iff_eq] at c
    have hT : unT r us es u = (ackR r us u, ackU r us u, ackA r us es u) := by rw [unT, if_neg p0, if_neg p1, if_pos c]
    rw [hT]
    dsimp only
    refine ⟨⟨⟨h1, h2, h3, h4, h5⟩, h6, h7, by omega⟩, fun y hy => ⟨y, ?_⟩⟩
    and_intros <;> first | with_reducible rfl | exact h1 | exact h2 | exact hy | exact hy.1 | exact hy.2 | exact hy2 | exact hy2.1 | exact hy2.2 | exact ⟨h1, hy⟩ | exact ⟨h1, hy2⟩ | exact Nat.le_refl _ | exact Nat.zero_le _ | exact fun j hj => rfl | exact ⟨h1, h2⟩ | rfl
  have p2 : ¬ ((u.k = 6 ∨ u.k = 7) ∧ (r.st = 0 ∨ r.st = 1)) := fun h => by
    rw [← Bool.not_eq_true] at c; simp only [bAnd, bOr, beq_iff_eq] at c; exact c h
  have hl : (es ++ [sendE r (vK 4 0 0 0)]).length = es.length + 1 := by simp
  refine (condX_iff _ _ _).2 ⟨fun c => ?_, fun c => ?_⟩
  · simp only [bAnd, bOr, beq_iff_eq] at c
    refine ⟨⟨h1, h2, h3, h4, h5⟩, fun y hy => (condX_iff _ _ _).2 ⟨fun g => ?_, fun g => ?_⟩⟩
    · simp only [bAnd, bOr, beq_iff_eq] at g
      have hT : unT r us es u = frT r (es ++ [sendE r (vK 4 0 0 0)]) := by rw [unT, if_neg p0, if_neg p1, if_neg p2, if_pos ⟨c.1, g⟩]
      rw [hT]
      dsimp only [frT]
      refine ⟨hy, ⟨h1, hy, h3, by rw [hl]; omega, h5⟩, fun y2 hy2 => ⟨y2, ?_⟩⟩
      and_intros <;> first | with_reducible rfl | exact h1 | exact h2 | exact hy | exact hy.1 | exact hy.2 | exact hy2 | exact hy2.1 | exact hy2.2 | exact ⟨h1, hy⟩ | exact ⟨h1, hy2⟩ | exact Nat.le_refl _ | exact Nat.zero_le _ | exact fun j hj => rfl | exact ⟨h1, h2⟩ | rfl
    · have g2 : ¬ (r.st = 0 ∨ r.st = 1) := fun h => by
        rw [← Bool.not_eq_true] at g; simp only [bAnd, bOr, beq_iff_eq] at g; exact g h
      have s2 : r.st = 2 := c.2.resolve_left g2
      have hT : unT r us es u = (r, us, es ++ [sendE r (vK 4 0 0 0)]) := by rw [unT, if_neg p0, if_neg p1, if_neg p2, if_neg (fun h => g2 h.2), if_pos ⟨c.1, s2⟩]
      rw [hT]
      dsimp only
      refine ⟨(ck, y), ?_⟩
      and_intros <;> first | with_reducible rfl | exact h1 | exact h2 | exact hy | exact hy.1 | exact hy.2 | exact hy2 | exact hy2.1 | exact hy2.2 | exact ⟨h1, hy⟩ | exact ⟨h1, hy2⟩ | exact Nat.le_refl _ | exact Nat.zero_le _ | exact fun j hj => rfl | exact ⟨h1, h2⟩ | rfl
  have p3 : ¬ (u.k = 3 ∧ ((r.st = 0 ∨ r.st = 1) ∨ r.st = 2)) := fun h => by
    rw [← Bool.not_eq_true] at c; simp only [bAnd, bOr, beq_iff_eq] at c; exact c h
  have p4 : ¬ (u.k = 3 ∧ (r.st = 0 ∨ r.st = 1)) := fun h => p3 ⟨h.1, Or.inl h.2⟩
  have p5 : ¬ (u.k = 3 ∧ r.st = 2) := fun h => p3 ⟨h.1, Or.inr h.2⟩
  refine (condX_iff _ _ _).2 ⟨fun c => ?_, fun c => ?_⟩
  · simp only [bAnd, bOr, beq_iff_eq] at c
    have hT : unT r us es u = frT r es := by rw [unT, if_neg p0, if_neg p1, if_neg p2, if_neg p4, if_neg p5, if_pos c]
    rw [hT]
    dsimp only [frT]
    refine ⟨⟨h1, h2, h3, h4, h5⟩, fun y hy => ⟨y, ?_⟩⟩
    and_intros <;> first | with_reducible rfl | exact h1 | exact h2 | exact hy | exact hy.1 | exact hy.2 | exact hy2 | exact hy2.1 | exact hy2.2 | exact ⟨h1, hy⟩ | exact ⟨h1, hy2⟩ | exact Nat.le_refl _ | exact Nat.zero_le _ | exact fun j hj => rfl | exact ⟨h1, h2⟩ | rfl
  · have p6 : ¬ (u.k = 4 ∧ r.st = 2) := fun h => by
      rw [← Bool.not_eq_true] at c; simp only [bAnd, bOr, beq_iff_eq] at c; exact c h
    have hT : unT r us es u = (r, us, es) := by rw [unT, if_neg p0, if_neg p1, if_neg p2, if_neg p4, if_neg p5, if_neg p6]
    rw [hT]
    dsimp only
    refine ⟨(ck, ca), ?_⟩
    and_intros <;> first | with_reducible rfl | exact h1 | exact h2 | exact hy | exact hy.1 | exact hy.2 | exact hy2 | exact hy2.1 | exact hy2.2 | exact ⟨h1, hy⟩ | exact ⟨h1, hy2⟩ | exact Nat.le_refl _ | exact Nat.zero_le _ | exact fun j hj => rfl | exact ⟨h1, h2⟩ | rfl
theorem vcUnit18K : ∀ (x : S18 × U), (x.1.ok ∧ x.1.es.length ≤ 100 ∧ 0 ≤ x.2.nu) → Held (fnX (cx_unit18 x) (bodyOf Try.f24) Try.f24.results.toList (C_unit18.args x) (C_unit18.H x) (endX 3 (C_unit18.outs x))) := held2 vcUnit18E vcUnit18
theorem ok_unit18 : GenSound Try.prog Λ0 24 (callX C_unit18 getSU) :=
  gen_of (ty := ty) (Γ := ΓOf Γv) hm tyOK Γv_ok (fnOK_of Try.func24 (by kernel_rfl) (by kernel_rfl)) Try.func24 (body_some (by kernel_rfl)) C_unit18 getSU Try.ntmps24 (fun _ => Nat.le_of_ble_eq_true rfl) (fun x => (cx_unit18 x).cut) (fun x => (cx_unit18 x).loop) fun x h => vcUnit18K x h
end Go.Proofs.Ytghbejmnnfoamaa
