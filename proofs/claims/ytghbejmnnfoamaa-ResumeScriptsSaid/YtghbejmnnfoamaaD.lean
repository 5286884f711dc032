/- Chapter 15: Write. -/
import Derived.Test.YtghbejmnnfoamaaC
set_option linter.unusedVariables false
set_option linter.unusedSimpArgs false
namespace Go.Proofs.Ytghbejmnnfoamaa
open Go Go.Eng
attribute [local irreducible] condX
/-- Bytes of numbers. -/
def bz (l : List Int) : ByteArray := ⟨(l.map fun n => UInt8.ofNat n.toNat).toArray⟩
def brow (l : List Int) : Nat → List SV := fun j => [.g (.int .u8 (l.getD j 0))]
/-- A number in bytes, the greatest first: the first m of n. -/
def beL (v : Int) (n m : Nat) : List Int := (List.range m).map fun i => v / 256 ^ (n - 1 - i) % 256
def letV (u : U) (c : Int) : Int := if c = 116 then u.to else if c = 102 then u.fr else if c = 110 then u.nu else if c = 99 then u.cr else if c = 114 then u.re else u.sz
def letW (c : Int) : Nat := if c = 116 then 2 else if c = 102 then 2 else if c = 110 then 4 else 1
def lowU (u : U) : Int := if u.e = true then 1 else u.cl
def headP (u : U) (i : Nat) : List Int := (16 * u.k + lowU u) :: (List.range i).flatMap fun (j : Nat) => beL (letV u (byteAt (fdOf (kn u.k)) (j : Int))) (letW (byteAt (fdOf (kn u.k)) (j : Int))) (letW (byteAt (fdOf (kn u.k)) (j : Int)))
def headL (u : U) : List Int := headP u (fdOf (kn u.k)).size
structure H1 where
  i : Nat
  cap : Nat
def annHead1 (u : U) : Ann := ⟨H1, fun x => ⟨[(2, .ptr 0 0 0 0), (6, .sl 1 0 1 (headP u x.i).length x.cap), (24, .ptr 2 0 0 0)],
  [(0, .cells u.cells 60), (1, .view 1 (headP u x.i).length x.cap (brow (headP u x.i)) 5), (2, .iter (fdOf (kn u.k)) x.i)], 3, 0, []⟩, fun x => x.i ≤ (fdOf (kn u.k)).size ∧ (headP u x.i).length ≤ x.cap, fun x => (fdOf (kn u.k)).size - x.i⟩
structure H2 where
  i : Nat
  m : Nat
  cap : Nat
def offOf : List SV → Nat
  | .ptr _ _ _ off :: _ => off
  | _ => 0
def letAt : Nat → Int × Nat
  | 1 => (116, 2)
  | 2 => (102, 2)
  | 5 => (110, 4)
  | 6 => (99, 1)
  | 7 => (114, 1)
  | _ => (115, 1)
/-- Inside: of the letter c, m of its n bytes written. -/
def annHead2 (u : U) (c : Int) (n : Nat) (cs : List SV) (p : Nat) : Ann := ⟨H2, fun x => ⟨[(2, .ptr 0 0 0 0), (6, .sl 1 0 1 ((headP u x.i).length + x.m) x.cap), (9, .ptr 3 0 0 0), (10, .g (.int .i64 ((n : Int) - 1 - x.m))), (24, .ptr 2 0 0 0)],
  [(0, .cells u.cells 60), (1, .view 1 ((headP u x.i).length + x.m) x.cap (brow (headP u x.i ++ beL (letV u c) n x.m)) 5), (2, .iter (fdOf (kn u.k)) (x.i + 1)), (3, .cells (.ptr 0 0 0 (offOf cs) :: cs.tail) 84)], 4, 0, []⟩,
  fun x => x.i + 1 = p ∧ x.i < (fdOf (kn u.k)).size ∧ byteAt (fdOf (kn u.k)) x.i = c ∧ x.m ≤ n ∧ (headP u x.i).length + x.m ≤ x.cap, fun x => n - x.m⟩
def annHead0 (u : U) : Ann := ⟨Unit, fun _ => ⟨[(2, .ptr 0 0 0 0), (3, .ptr 1 0 0 0), (5, .g (.int .i64 (lowU u)))], [(0, .cells u.cells 60), (1, .cells (frow (kn u.k)) 79)], 2, 0, []⟩, fun _ => True, fun _ => 0⟩
def cx_head (u : U) : Cx := ⟨ty, ΓOf Γ2, fun i => if i = 4 then [annHead0 u] else [], fun i s => if i = 6 then [annHead1 u] else if i = 10 then wCells 9 s fun cs => wIter 24 s fun p => [annHead2 u (letAt (offOf cs)).1 (letAt (offOf cs)).2 cs p] else [], 49, 0⟩
def C_head : Ctr := ⟨0, U, fun u => [.agg u.cells, .agg (frow (kn u.k))], fun _ => [], fun u => okU u, fun u =>
  [.any Nat (fun cap => (headL u).length ≤ cap) (fun cap => .sl 0 0 1 (headL u).length cap) (fun cap => [(0, .view 1 (headL u).length cap (brow (headL u)) 5)])]⟩
theorem beL_len (v : Int) (n m : Nat) : (beL v n m).length = m := by simp [beL]
theorem beL_succ (v : Int) (n m : Nat) : beL v n (m + 1) = beL v n m ++ [v / 256 ^ (n - 1 - m) % 256] := by
  simp [beL, List.range_succ]
theorem headP_succ (u : U) (i : Nat) : headP u (i + 1) = headP u i ++ beL (letV u (byteAt (fdOf (kn u.k)) (i : Int))) (letW (byteAt (fdOf (kn u.k)) (i : Int))) (letW (byteAt (fdOf (kn u.k)) (i : Int))) := by
  simp [headP, List.range_succ, List.flatMap_append]
theorem letW_le (c : Int) : letW c ≤ 4 := by unfold letW; (repeat' split) <;> omega
theorem headP_len (u : U) (i : Nat) : (headP u i).length ≤ 1 + 4 * i := by
  induction i with
  | zero => simp [headP]
  | succ i ih => rw [headP_succ, List.length_append, beL_len]; have := letW_le (byteAt (fdOf (kn u.k)) (i : Int)); omega
/-- A byte of a number. -/
theorem byte_at (v : Int) {e : Int} {k : Nat} (he : e = (k : Int)) (hk : k < 4) : IntKind.wrap IntKind.u8 (Int.fdiv v (2 ^ min (Int.toNat (IntKind.wrap IntKind.i64 (8 * e))) 64)) = v / 256 ^ k % 256 := by
  subst he
  have : k = 0 ∨ k = 1 ∨ k = 2 ∨ k = 3 := by omega
  rcases this with rfl | rfl | rfl | rfl
  · have e : Int.toNat (IntKind.wrap IntKind.i64 (8 * ((0 : Nat) : Int))) = 0 := by decide
    rw [e, Int.fdiv_eq_ediv_of_nonneg _ (by decide)]; rfl
  · have e : Int.toNat (IntKind.wrap IntKind.i64 (8 * ((1 : Nat) : Int))) = 8 := by decide
    rw [e, Int.fdiv_eq_ediv_of_nonneg _ (by decide)]; rfl
  · have e : Int.toNat (IntKind.wrap IntKind.i64 (8 * ((2 : Nat) : Int))) = 16 := by decide
    rw [e, Int.fdiv_eq_ediv_of_nonneg _ (by decide)]; rfl
  · have e : Int.toNat (IntKind.wrap IntKind.i64 (8 * ((3 : Nat) : Int))) = 24 := by decide
    rw [e, Int.fdiv_eq_ediv_of_nonneg _ (by decide)]; rfl
theorem app_brow {A : List Int} {b : Int} {row : Nat → List SV} {n j : Nat} (hn : n = A.length) (hr : row 0 = [.g (.int .u8 b)]) (hj : j < n + 1) : appRows 0 0 n (brow A) row j = brow (A ++ [b]) j := by
  subst hn
  simp only [appRows]
  split
  · rename_i h; simp [brow, List.getD_eq_getElem?_getD, List.getElem?_append_left h]
  · rename_i h
    have : j = A.length := by omega
    subst this
    rw [Nat.sub_self, hr]; simp [brow]
theorem brow_left {A B : List Int} {j : Nat} (h : j < A.length) : brow (A ++ B) j = brow A j := by
  simp [brow, List.getD_eq_getElem?_getD, List.getElem?_append_left h]
theorem head0 {k l : Int} (hk : 1 ≤ k) (hk2 : k ≤ 10) (h0 : 0 ≤ l) (h4 : l ≤ 4) : IntKind.wrap IntKind.u8 (IntKind.wrap IntKind.i64 ((BitVec.toNat (BitVec.ofInt 64 (IntKind.wrap IntKind.i64 (k * 16)) ||| BitVec.ofInt 64 l) : Nat) : Int)) = 16 * k + l := by
  have hk : k = 1 ∨ k = 2 ∨ k = 3 ∨ k = 4 ∨ k = 5 ∨ k = 6 ∨ k = 7 ∨ k = 8 ∨ k = 9 ∨ k = 10 := by omega
  have hl : l = 0 ∨ l = 1 ∨ l = 2 ∨ l = 3 ∨ l = 4 := by omega
  rcases hk with rfl | rfl | rfl | rfl | rfl | rfl | rfl | rfl | rfl | rfl <;> rcases hl with rfl | rfl | rfl | rfl | rfl <;> decide
theorem letter6 {k i : Nat} (hk : k < 11) (hi : i < (fdOf k).size) : byteAt (fdOf k) i = 116 ∨ byteAt (fdOf k) i = 102 ∨ byteAt (fdOf k) i = 110 ∨ byteAt (fdOf k) i = 99 ∨ byteAt (fdOf k) i = 114 ∨ byteAt (fdOf k) i = 115 := by
  have : ∀ k, k < 11 → ∀ i : Nat, i < (fdOf k).size → byteAt (fdOf k) i = 116 ∨ byteAt (fdOf k) i = 102 ∨ byteAt (fdOf k) i = 110 ∨ byteAt (fdOf k) i = 99 ∨ byteAt (fdOf k) i = 114 ∨ byteAt (fdOf k) i = 115 := by decide
  exact this k hk i hi
theorem kn_lt (k : Int) : kn k < 11 := by unfold kn; split <;> omega
theorem head_in {u : U} {n m i cap : Nat} {v : Int} {cap' : Nat} (_ : m < n) (hi : i < 4) (hn : n ≤ 4) : (0 : Nat) + ((headP u i).length + m) ≤ (headP u i).length + m ∧ 0 + cap ≤ cap ∧ ((headP u i).length + m + 1) * 1 ≤ 140737488355328 := by
  have := headP_len u i
  omega
def Dq0 (u : U) (xᵥ1 : H1) := (Utf8.decode (fdOf (kn (U.k u))) (H1.i xᵥ1))
def Dq1 (xpᵥ1 : H1) (u : U) := (H1.i xpᵥ1 ≤ ByteArray.size (fdOf (kn (U.k u))) ∧ List.length (headP u (H1.i xpᵥ1)) ≤ H1.cap xpᵥ1)
set_option maxRecDepth 100000 in
def VcHead : Prop := ∀ (u : U), okU u → condX (U.e u) (∃ (x : Unit), True ∧ (0 : Nat) = (0 : Nat) ∧ (0 : Nat) = (0 : Nat) ∧ (1 : Int) = lowU u ∧ [SV.g (Value.int IntKind.i64 (U.k u)), SV.g (Value.int IntKind.i64 (U.to u)), SV.g (Value.int
  IntKind.i64 (U.fr u)), SV.g (Value.int IntKind.i64 (U.cl u)), SV.g (Value.int IntKind.i64 (U.sz u)), SV.g (Value.int IntKind.i64 (U.nu u)), SV.g (Value.int IntKind.i64 (U.cr u)), SV.g (Value.int IntKind.i64 (U.re u)),
  SV.g (Value.bool (U.e u)), SV.g (Value.string (U.d u))] = U.cells u ∧ [SV.g (Value.string (nmOf (kn (U.k u)))), SV.g (Value.string (fdOf (kn (U.k u)))), SV.g (Value.int IntKind.i64 (loOf (kn (U.k u)))), SV.g (Value.int
  IntKind.i64 (hiOf (kn (U.k u))))] = frow (kn (U.k u)) ∧ True) (∃ (x : Unit), True ∧ (0 : Nat) = (0 : Nat) ∧ (0 : Nat) = (0 : Nat) ∧ U.cl u = lowU u ∧ [SV.g (Value.int IntKind.i64 (U.k u)), SV.g (Value.int IntKind.i64
  (U.to u)), SV.g (Value.int IntKind.i64 (U.fr u)), SV.g (Value.int IntKind.i64 (U.cl u)), SV.g (Value.int IntKind.i64 (U.sz u)), SV.g (Value.int IntKind.i64 (U.nu u)), SV.g (Value.int IntKind.i64 (U.cr u)), SV.g
  (Value.int IntKind.i64 (U.re u)), SV.g (Value.bool (U.e u)), SV.g (Value.string (U.d u))] = U.cells u ∧ [SV.g (Value.string (nmOf (kn (U.k u)))), SV.g (Value.string (fdOf (kn (U.k u)))), SV.g (Value.int IntKind.i64 (loOf
  (kn (U.k u)))), SV.g (Value.int IntKind.i64 (hiOf (kn (U.k u))))] = frow (kn (U.k u)) ∧ True) ∧ ∀ (x : Unit), True → (0 : Int) ≤ (4 : Int) ∧ (∃ (xᵥ1 : H1), (H1.i xᵥ1 ≤ ByteArray.size (fdOf (kn (U.k u))) ∧ List.length
  (headP u (H1.i xᵥ1)) ≤ H1.cap xᵥ1) ∧ (0 : Nat) = (0 : Nat) ∧ (0 : Nat) = (0 : Nat) ∧ (1 : Nat) = List.length (headP u (H1.i xᵥ1)) ∧ (1 : Nat) = H1.cap xᵥ1 ∧ (0 : Nat) = (0 : Nat) ∧ U.cells u = U.cells u ∧ List.length
  (headP u (H1.i xᵥ1)) ≤ (1 : Nat) ∧ List.length (headP u (H1.i xᵥ1)) ≤ H1.cap xᵥ1 ∧ H1.cap xᵥ1 ≤ (1 : Nat) ∧ (∀ (j : Nat), j < List.length (headP u (H1.i xᵥ1)) → List.take (1 : Nat) (List.drop (j * (1 : Nat)) [SV.g
  (Value.int IntKind.u8 (IntKind.wrap IntKind.u8 (IntKind.wrap IntKind.i64 (↑(BitVec.toNat (BitVec.ofInt (64 : Nat) (IntKind.wrap IntKind.i64 (U.k u * (16 : Int))) ||| BitVec.ofInt (64 : Nat) (lowU u))) : Int))))]) = brow
  (headP u (H1.i xᵥ1)) j ∧ true = true) ∧ fdOf (kn (U.k u)) = fdOf (kn (U.k u)) ∧ (0 : Nat) = H1.i xᵥ1 ∧ True) ∧ ∀ (xᵥ1 : H1), H1.i xᵥ1 ≤ ByteArray.size (fdOf (kn (U.k u))) ∧ List.length (headP u (H1.i xᵥ1)) ≤ H1.cap xᵥ1 →
  condX (decide (H1.i xᵥ1 < ByteArray.size (fdOf (kn (U.k u))))) ((0 : Nat) = (0 : Nat) ∧ (↑(Prod.fst (Dq0 u xᵥ1)) : Int) = (↑(Prod.fst (Dq0 u xᵥ1)) : Int) ∧ U.cells u = U.cells u ∧ True ∧ ((↑(Prod.fst (Dq0 u xᵥ1)) : Int)
  = (116 : Int) → (∃ (x_1 : H2), (H2.i x_1 + (1 : Nat) = H1.i xᵥ1 + Prod.snd (Dq0 u xᵥ1) ∧ H2.i x_1 < ByteArray.size (fdOf (kn (U.k u))) ∧ byteAt (fdOf (kn (U.k u))) (↑(H2.i x_1) : Int) = (116 : Int) ∧ H2.m x_1 ≤ (2 : Nat)
  ∧ List.length (headP u (H2.i x_1)) + H2.m x_1 ≤ H2.cap x_1) ∧ (0 : Nat) = (0 : Nat) ∧ (0 : Nat) = (0 : Nat) ∧ List.length (headP u (H1.i xᵥ1)) = List.length (headP u (H2.i x_1)) + H2.m x_1 ∧ H1.cap xᵥ1 = H2.cap x_1 ∧ (0
  : Nat) = (0 : Nat) ∧ (1 : Int) = (1 : Int) - (↑(H2.m x_1) : Int) ∧ (0 : Nat) = (0 : Nat) ∧ [SV.g (Value.int IntKind.i64 (U.k u)), SV.g (Value.int IntKind.i64 (U.to u)), SV.g (Value.int IntKind.i64 (U.fr u)), SV.g
  (Value.int IntKind.i64 (U.cl u)), SV.g (Value.int IntKind.i64 (U.sz u)), SV.g (Value.int IntKind.i64 (U.nu u)), SV.g (Value.int IntKind.i64 (U.cr u)), SV.g (Value.int IntKind.i64 (U.re u)), SV.g (Value.bool (U.e u)),
  SV.g (Value.string (U.d u))] = U.cells u ∧ List.length (headP u (H2.i x_1)) + H2.m x_1 ≤ List.length (headP u (H1.i xᵥ1)) ∧ List.length (headP u (H2.i x_1)) + H2.m x_1 ≤ H2.cap x_1 ∧ H2.cap x_1 ≤ H1.cap xᵥ1 ∧ (∀ (j :
  Nat), j < List.length (headP u (H2.i x_1)) + H2.m x_1 → brow (headP u (H1.i xᵥ1)) j = brow (headP u (H2.i x_1) ++ beL (letV u (116 : Int)) (2 : Nat) (H2.m x_1)) j ∧ true = true) ∧ fdOf (kn (U.k u)) = fdOf (kn (U.k u)) ∧
  H1.i xᵥ1 + Prod.snd (Dq0 u xᵥ1) = H2.i x_1 + (1 : Nat) ∧ (0 : Nat) = (0 : Nat) ∧ ByteArray.mk #[(116 : UInt8), (111 : UInt8)] = ByteArray.mk #[(116 : UInt8), (111 : UInt8)] ∧ (2 : Int) = (2 : Int) ∧ (0 : Int) = (0 : Int)
  ∧ (65535 : Int) = (65535 : Int) ∧ True) ∧ ∀ (x_1 : H2), H2.i x_1 + (1 : Nat) = H1.i xᵥ1 + Prod.snd (Dq0 u xᵥ1) ∧ H2.i x_1 < ByteArray.size (fdOf (kn (U.k u))) ∧ byteAt (fdOf (kn (U.k u))) (↑(H2.i x_1) : Int) = (116 :
  Int) ∧ H2.m x_1 ≤ (2 : Nat) ∧ List.length (headP u (H2.i x_1)) + H2.m x_1 ≤ H2.cap x_1 → condX (decide ((0 : Int) ≤ (1 : Int) - (↑(H2.m x_1) : Int))) ((0 : Int) ≤ IntKind.wrap IntKind.i64 ((8 : Int) * ((1 : Int) -
  (↑(H2.m x_1) : Int))) ∧ (0 : Nat) + (List.length (headP u (H2.i x_1)) + H2.m x_1) ≤ List.length (headP u (H2.i x_1)) + H2.m x_1 ∧ (0 : Nat) + H2.cap x_1 ≤ H2.cap x_1 ∧ (List.length (headP u (H2.i x_1)) + H2.m x_1 + (1 :
  Nat)) * (1 : Nat) ≤ (140737488355328 : Nat) ∧ ∀ (cap : Nat), List.length (headP u (H2.i x_1)) + H2.m x_1 + (1 : Nat) ≤ cap → ∃ (x' : H2), (H2.i x' + (1 : Nat) = H1.i xᵥ1 + Prod.snd (Dq0 u xᵥ1) ∧ H2.i x' < ByteArray.size
  (fdOf (kn (U.k u))) ∧ byteAt (fdOf (kn (U.k u))) (↑(H2.i x') : Int) = (116 : Int) ∧ H2.m x' ≤ (2 : Nat) ∧ List.length (headP u (H2.i x')) + H2.m x' ≤ H2.cap x') ∧ (2 : Nat) - H2.m x' < (2 : Nat) - H2.m x_1 ∧ (0 : Nat) =
  (0 : Nat) ∧ (0 : Nat) = (0 : Nat) ∧ List.length (headP u (H2.i x_1)) + H2.m x_1 + (1 : Nat) = List.length (headP u (H2.i x')) + H2.m x' ∧ cap = H2.cap x' ∧ (0 : Nat) = (0 : Nat) ∧ IntKind.wrap IntKind.i64 ((1 : Int) -
  (↑(H2.m x_1) : Int) - (1 : Int)) = (1 : Int) - (↑(H2.m x') : Int) ∧ (0 : Nat) = (0 : Nat) ∧ U.cells u = U.cells u ∧ List.length (headP u (H2.i x')) + H2.m x' ≤ List.length (headP u (H2.i x_1)) + H2.m x_1 + (1 : Nat) ∧
  List.length (headP u (H2.i x')) + H2.m x' ≤ H2.cap x' ∧ H2.cap x' ≤ cap ∧ (∀ (j : Nat), j < List.length (headP u (H2.i x')) + H2.m x' → appRows (0 : Nat) (0 : Nat) (List.length (headP u (H2.i x_1)) + H2.m x_1) (brow
  (headP u (H2.i x_1) ++ beL (letV u (116 : Int)) (2 : Nat) (H2.m x_1))) (fun (j : Nat) => List.take (1 : Nat) (List.drop (j * (1 : Nat)) [SV.g (Value.int IntKind.u8 (IntKind.wrap IntKind.u8 (Int.fdiv (U.to u) ((2 : Int) ^
  min (Int.toNat (IntKind.wrap IntKind.i64 ((8 : Int) * ((1 : Int) - (↑(H2.m x_1) : Int))))) (64 : Nat)))))])) j = brow (headP u (H2.i x') ++ beL (letV u (116 : Int)) (2 : Nat) (H2.m x')) j ∧ true = true) ∧ fdOf (kn (U.k
  u)) = fdOf (kn (U.k u)) ∧ H2.i x_1 + (1 : Nat) = H2.i x' + (1 : Nat) ∧ (0 : Nat) = (0 : Nat) ∧ ByteArray.mk #[(116 : UInt8), (111 : UInt8)] = ByteArray.mk #[(116 : UInt8), (111 : UInt8)] ∧ (2 : Int) = (2 : Int) ∧ (0 :
  Int) = (0 : Int) ∧ (65535 : Int) = (65535 : Int) ∧ True) (∃ (xpᵥ1 : H1), (Dq1 xpᵥ1 u) ∧ ByteArray.size (fdOf (kn (U.k u))) - H1.i xpᵥ1 < ByteArray.size (fdOf (kn (U.k u))) - H1.i xᵥ1 ∧ (0 : Nat) = (0 : Nat) ∧ (0 : Nat) =
  (0 : Nat) ∧ List.length (headP u (H2.i x_1)) + H2.m x_1 = List.length (headP u (H1.i xpᵥ1)) ∧ H2.cap x_1 = H1.cap xpᵥ1 ∧ (0 : Nat) = (0 : Nat) ∧ U.cells u = U.cells u ∧ List.length (headP u (H1.i xpᵥ1)) ≤ List.length
  (headP u (H2.i x_1)) + H2.m x_1 ∧ List.length (headP u (H1.i xpᵥ1)) ≤ H1.cap xpᵥ1 ∧ H1.cap xpᵥ1 ≤ H2.cap x_1 ∧ (∀ (j : Nat), j < List.length (headP u (H1.i xpᵥ1)) → brow (headP u (H2.i x_1) ++ beL (letV u (116 : Int)) (2
  : Nat) (H2.m x_1)) j = brow (headP u (H1.i xpᵥ1)) j ∧ true = true) ∧ fdOf (kn (U.k u)) = fdOf (kn (U.k u)) ∧ H2.i x_1 + (1 : Nat) = H1.i xpᵥ1 ∧ True)) ∧ ((↑(Prod.fst (Dq0 u xᵥ1)) : Int) = (102 : Int) → (∃ (x_1 : H2),
  (H2.i x_1 + (1 : Nat) = H1.i xᵥ1 + Prod.snd (Dq0 u xᵥ1) ∧ H2.i x_1 < ByteArray.size (fdOf (kn (U.k u))) ∧ byteAt (fdOf (kn (U.k u))) (↑(H2.i x_1) : Int) = (102 : Int) ∧ H2.m x_1 ≤ (2 : Nat) ∧ List.length (headP u (H2.i
  x_1)) + H2.m x_1 ≤ H2.cap x_1) ∧ (0 : Nat) = (0 : Nat) ∧ (0 : Nat) = (0 : Nat) ∧ List.length (headP u (H1.i xᵥ1)) = List.length (headP u (H2.i x_1)) + H2.m x_1 ∧ H1.cap xᵥ1 = H2.cap x_1 ∧ (0 : Nat) = (0 : Nat) ∧ (1 :
  Int) = (1 : Int) - (↑(H2.m x_1) : Int) ∧ (0 : Nat) = (0 : Nat) ∧ [SV.g (Value.int IntKind.i64 (U.k u)), SV.g (Value.int IntKind.i64 (U.to u)), SV.g (Value.int IntKind.i64 (U.fr u)), SV.g (Value.int IntKind.i64 (U.cl u)),
  SV.g (Value.int IntKind.i64 (U.sz u)), SV.g (Value.int IntKind.i64 (U.nu u)), SV.g (Value.int IntKind.i64 (U.cr u)), SV.g (Value.int IntKind.i64 (U.re u)), SV.g (Value.bool (U.e u)), SV.g (Value.string (U.d u))] =
  U.cells u ∧ List.length (headP u (H2.i x_1)) + H2.m x_1 ≤ List.length (headP u (H1.i xᵥ1)) ∧ List.length (headP u (H2.i x_1)) + H2.m x_1 ≤ H2.cap x_1 ∧ H2.cap x_1 ≤ H1.cap xᵥ1 ∧ (∀ (j : Nat), j < List.length (headP u
  (H2.i x_1)) + H2.m x_1 → brow (headP u (H1.i xᵥ1)) j = brow (headP u (H2.i x_1) ++ beL (letV u (102 : Int)) (2 : Nat) (H2.m x_1)) j ∧ true = true) ∧ fdOf (kn (U.k u)) = fdOf (kn (U.k u)) ∧ H1.i xᵥ1 + Prod.snd (Dq0 u xᵥ1)
  = H2.i x_1 + (1 : Nat) ∧ (0 : Nat) = (0 : Nat) ∧ ByteArray.mk #[(102 : UInt8), (114 : UInt8), (111 : UInt8), (109 : UInt8)] = ByteArray.mk #[(102 : UInt8), (114 : UInt8), (111 : UInt8), (109 : UInt8)] ∧ (2 : Int) = (2 :
  Int) ∧ loF u = loF u ∧ (65535 : Int) = (65535 : Int) ∧ True) ∧ ∀ (x_1 : H2), H2.i x_1 + (1 : Nat) = H1.i xᵥ1 + Prod.snd (Dq0 u xᵥ1) ∧ H2.i x_1 < ByteArray.size (fdOf (kn (U.k u))) ∧ byteAt (fdOf (kn (U.k u))) (↑(H2.i
  x_1) : Int) = (102 : Int) ∧ H2.m x_1 ≤ (2 : Nat) ∧ List.length (headP u (H2.i x_1)) + H2.m x_1 ≤ H2.cap x_1 → condX (decide ((0 : Int) ≤ (1 : Int) - (↑(H2.m x_1) : Int))) ((0 : Int) ≤ IntKind.wrap IntKind.i64 ((8 : Int)
  * ((1 : Int) - (↑(H2.m x_1) : Int))) ∧ (0 : Nat) + (List.length (headP u (H2.i x_1)) + H2.m x_1) ≤ List.length (headP u (H2.i x_1)) + H2.m x_1 ∧ (0 : Nat) + H2.cap x_1 ≤ H2.cap x_1 ∧ (List.length (headP u (H2.i x_1)) +
  H2.m x_1 + (1 : Nat)) * (1 : Nat) ≤ (140737488355328 : Nat) ∧ ∀ (cap : Nat), List.length (headP u (H2.i x_1)) + H2.m x_1 + (1 : Nat) ≤ cap → ∃ (x' : H2), (H2.i x' + (1 : Nat) = H1.i xᵥ1 + Prod.snd (Dq0 u xᵥ1) ∧ H2.i x' <
  ByteArray.size (fdOf (kn (U.k u))) ∧ byteAt (fdOf (kn (U.k u))) (↑(H2.i x') : Int) = (102 : Int) ∧ H2.m x' ≤ (2 : Nat) ∧ List.length (headP u (H2.i x')) + H2.m x' ≤ H2.cap x') ∧ (2 : Nat) - H2.m x' < (2 : Nat) - H2.m x_1
  ∧ (0 : Nat) = (0 : Nat) ∧ (0 : Nat) = (0 : Nat) ∧ List.length (headP u (H2.i x_1)) + H2.m x_1 + (1 : Nat) = List.length (headP u (H2.i x')) + H2.m x' ∧ cap = H2.cap x' ∧ (0 : Nat) = (0 : Nat) ∧ IntKind.wrap IntKind.i64
  ((1 : Int) - (↑(H2.m x_1) : Int) - (1 : Int)) = (1 : Int) - (↑(H2.m x') : Int) ∧ (0 : Nat) = (0 : Nat) ∧ U.cells u = U.cells u ∧ List.length (headP u (H2.i x')) + H2.m x' ≤ List.length (headP u (H2.i x_1)) + H2.m x_1 +
  (1 : Nat) ∧ List.length (headP u (H2.i x')) + H2.m x' ≤ H2.cap x' ∧ H2.cap x' ≤ cap ∧ (∀ (j : Nat), j < List.length (headP u (H2.i x')) + H2.m x' → appRows (0 : Nat) (0 : Nat) (List.length (headP u (H2.i x_1)) + H2.m
  x_1) (brow (headP u (H2.i x_1) ++ beL (letV u (102 : Int)) (2 : Nat) (H2.m x_1))) (fun (j : Nat) => List.take (1 : Nat) (List.drop (j * (1 : Nat)) [SV.g (Value.int IntKind.u8 (IntKind.wrap IntKind.u8 (Int.fdiv (U.fr u)
  ((2 : Int) ^ min (Int.toNat (IntKind.wrap IntKind.i64 ((8 : Int) * ((1 : Int) - (↑(H2.m x_1) : Int))))) (64 : Nat)))))])) j = brow (headP u (H2.i x') ++ beL (letV u (102 : Int)) (2 : Nat) (H2.m x')) j ∧ true = true) ∧
  fdOf (kn (U.k u)) = fdOf (kn (U.k u)) ∧ H2.i x_1 + (1 : Nat) = H2.i x' + (1 : Nat) ∧ (0 : Nat) = (0 : Nat) ∧ ByteArray.mk #[(102 : UInt8), (114 : UInt8), (111 : UInt8), (109 : UInt8)] = ByteArray.mk #[(102 : UInt8), (114
  : UInt8), (111 : UInt8), (109 : UInt8)] ∧ (2 : Int) = (2 : Int) ∧ loF u = loF u ∧ (65535 : Int) = (65535 : Int) ∧ True) (∃ (xpᵥ1 : H1), (Dq1 xpᵥ1 u) ∧ ByteArray.size (fdOf (kn (U.k u))) - H1.i xpᵥ1 < ByteArray.size (fdOf
  (kn (U.k u))) - H1.i xᵥ1 ∧ (0 : Nat) = (0 : Nat) ∧ (0 : Nat) = (0 : Nat) ∧ List.length (headP u (H2.i x_1)) + H2.m x_1 = List.length (headP u (H1.i xpᵥ1)) ∧ H2.cap x_1 = H1.cap xpᵥ1 ∧ (0 : Nat) = (0 : Nat) ∧ U.cells u =
  U.cells u ∧ List.length (headP u (H1.i xpᵥ1)) ≤ List.length (headP u (H2.i x_1)) + H2.m x_1 ∧ List.length (headP u (H1.i xpᵥ1)) ≤ H1.cap xpᵥ1 ∧ H1.cap xpᵥ1 ≤ H2.cap x_1 ∧ (∀ (j : Nat), j < List.length (headP u (H1.i
  xpᵥ1)) → brow (headP u (H2.i x_1) ++ beL (letV u (102 : Int)) (2 : Nat) (H2.m x_1)) j = brow (headP u (H1.i xpᵥ1)) j ∧ true = true) ∧ fdOf (kn (U.k u)) = fdOf (kn (U.k u)) ∧ H2.i x_1 + (1 : Nat) = H1.i xpᵥ1 ∧ True)) ∧
  ((↑(Prod.fst (Dq0 u xᵥ1)) : Int) = (110 : Int) → (∃ (x_1 : H2), (H2.i x_1 + (1 : Nat) = H1.i xᵥ1 + Prod.snd (Dq0 u xᵥ1) ∧ H2.i x_1 < ByteArray.size (fdOf (kn (U.k u))) ∧ byteAt (fdOf (kn (U.k u))) (↑(H2.i x_1) : Int) =
  (110 : Int) ∧ H2.m x_1 ≤ (4 : Nat) ∧ List.length (headP u (H2.i x_1)) + H2.m x_1 ≤ H2.cap x_1) ∧ (0 : Nat) = (0 : Nat) ∧ (0 : Nat) = (0 : Nat) ∧ List.length (headP u (H1.i xᵥ1)) = List.length (headP u (H2.i x_1)) + H2.m
  x_1 ∧ H1.cap xᵥ1 = H2.cap x_1 ∧ (0 : Nat) = (0 : Nat) ∧ (3 : Int) = (3 : Int) - (↑(H2.m x_1) : Int) ∧ (0 : Nat) = (0 : Nat) ∧ [SV.g (Value.int IntKind.i64 (U.k u)), SV.g (Value.int IntKind.i64 (U.to u)), SV.g (Value.int
  IntKind.i64 (U.fr u)), SV.g (Value.int IntKind.i64 (U.cl u)), SV.g (Value.int IntKind.i64 (U.sz u)), SV.g (Value.int IntKind.i64 (U.nu u)), SV.g (Value.int IntKind.i64 (U.cr u)), SV.g (Value.int IntKind.i64 (U.re u)),
  SV.g (Value.bool (U.e u)), SV.g (Value.string (U.d u))] = U.cells u ∧ List.length (headP u (H2.i x_1)) + H2.m x_1 ≤ List.length (headP u (H1.i xᵥ1)) ∧ List.length (headP u (H2.i x_1)) + H2.m x_1 ≤ H2.cap x_1 ∧ H2.cap x_1
  ≤ H1.cap xᵥ1 ∧ (∀ (j : Nat), j < List.length (headP u (H2.i x_1)) + H2.m x_1 → brow (headP u (H1.i xᵥ1)) j = brow (headP u (H2.i x_1) ++ beL (letV u (110 : Int)) (4 : Nat) (H2.m x_1)) j ∧ true = true) ∧ fdOf (kn (U.k u))
  = fdOf (kn (U.k u)) ∧ H1.i xᵥ1 + Prod.snd (Dq0 u xᵥ1) = H2.i x_1 + (1 : Nat) ∧ (0 : Nat) = (0 : Nat) ∧ ByteArray.mk #[(110 : UInt8), (117 : UInt8), (109 : UInt8), (98 : UInt8), (101 : UInt8), (114 : UInt8)] =
  ByteArray.mk #[(110 : UInt8), (117 : UInt8), (109 : UInt8), (98 : UInt8), (101 : UInt8), (114 : UInt8)] ∧ (4 : Int) = (4 : Int) ∧ (0 : Int) = (0 : Int) ∧ (2147483647 : Int) = (2147483647 : Int) ∧ True) ∧ ∀ (x_1 : H2),
  H2.i x_1 + (1 : Nat) = H1.i xᵥ1 + Prod.snd (Dq0 u xᵥ1) ∧ H2.i x_1 < ByteArray.size (fdOf (kn (U.k u))) ∧ byteAt (fdOf (kn (U.k u))) (↑(H2.i x_1) : Int) = (110 : Int) ∧ H2.m x_1 ≤ (4 : Nat) ∧ List.length (headP u (H2.i
  x_1)) + H2.m x_1 ≤ H2.cap x_1 → condX (decide ((0 : Int) ≤ (3 : Int) - (↑(H2.m x_1) : Int))) ((0 : Int) ≤ IntKind.wrap IntKind.i64 ((8 : Int) * ((3 : Int) - (↑(H2.m x_1) : Int))) ∧ (0 : Nat) + (List.length (headP u (H2.i
  x_1)) + H2.m x_1) ≤ List.length (headP u (H2.i x_1)) + H2.m x_1 ∧ (0 : Nat) + H2.cap x_1 ≤ H2.cap x_1 ∧ (List.length (headP u (H2.i x_1)) + H2.m x_1 + (1 : Nat)) * (1 : Nat) ≤ (140737488355328 : Nat) ∧ ∀ (cap : Nat),
  List.length (headP u (H2.i x_1)) + H2.m x_1 + (1 : Nat) ≤ cap → ∃ (x' : H2), (H2.i x' + (1 : Nat) = H1.i xᵥ1 + Prod.snd (Dq0 u xᵥ1) ∧ H2.i x' < ByteArray.size (fdOf (kn (U.k u))) ∧ byteAt (fdOf (kn (U.k u))) (↑(H2.i x')
  : Int) = (110 : Int) ∧ H2.m x' ≤ (4 : Nat) ∧ List.length (headP u (H2.i x')) + H2.m x' ≤ H2.cap x') ∧ (4 : Nat) - H2.m x' < (4 : Nat) - H2.m x_1 ∧ (0 : Nat) = (0 : Nat) ∧ (0 : Nat) = (0 : Nat) ∧ List.length (headP u
  (H2.i x_1)) + H2.m x_1 + (1 : Nat) = List.length (headP u (H2.i x')) + H2.m x' ∧ cap = H2.cap x' ∧ (0 : Nat) = (0 : Nat) ∧ IntKind.wrap IntKind.i64 ((3 : Int) - (↑(H2.m x_1) : Int) - (1 : Int)) = (3 : Int) - (↑(H2.m x')
  : Int) ∧ (0 : Nat) = (0 : Nat) ∧ U.cells u = U.cells u ∧ List.length (headP u (H2.i x')) + H2.m x' ≤ List.length (headP u (H2.i x_1)) + H2.m x_1 + (1 : Nat) ∧ List.length (headP u (H2.i x')) + H2.m x' ≤ H2.cap x' ∧
  H2.cap x' ≤ cap ∧ (∀ (j : Nat), j < List.length (headP u (H2.i x')) + H2.m x' → appRows (0 : Nat) (0 : Nat) (List.length (headP u (H2.i x_1)) + H2.m x_1) (brow (headP u (H2.i x_1) ++ beL (letV u (110 : Int)) (4 : Nat)
  (H2.m x_1))) (fun (j : Nat) => List.take (1 : Nat) (List.drop (j * (1 : Nat)) [SV.g (Value.int IntKind.u8 (IntKind.wrap IntKind.u8 (Int.fdiv (U.nu u) ((2 : Int) ^ min (Int.toNat (IntKind.wrap IntKind.i64 ((8 : Int) * ((3
  : Int) - (↑(H2.m x_1) : Int))))) (64 : Nat)))))])) j = brow (headP u (H2.i x') ++ beL (letV u (110 : Int)) (4 : Nat) (H2.m x')) j ∧ true = true) ∧ fdOf (kn (U.k u)) = fdOf (kn (U.k u)) ∧ H2.i x_1 + (1 : Nat) = H2.i x' +
  (1 : Nat) ∧ (0 : Nat) = (0 : Nat) ∧ ByteArray.mk #[(110 : UInt8), (117 : UInt8), (109 : UInt8), (98 : UInt8), (101 : UInt8), (114 : UInt8)] = ByteArray.mk #[(110 : UInt8), (117 : UInt8), (109 : UInt8), (98 : UInt8), (101
  : UInt8), (114 : UInt8)] ∧ (4 : Int) = (4 : Int) ∧ (0 : Int) = (0 : Int) ∧ (2147483647 : Int) = (2147483647 : Int) ∧ True) (∃ (xpᵥ1 : H1), (Dq1 xpᵥ1 u) ∧ ByteArray.size (fdOf (kn (U.k u))) - H1.i xpᵥ1 < ByteArray.size
  (fdOf (kn (U.k u))) - H1.i xᵥ1 ∧ (0 : Nat) = (0 : Nat) ∧ (0 : Nat) = (0 : Nat) ∧ List.length (headP u (H2.i x_1)) + H2.m x_1 = List.length (headP u (H1.i xpᵥ1)) ∧ H2.cap x_1 = H1.cap xpᵥ1 ∧ (0 : Nat) = (0 : Nat) ∧
  U.cells u = U.cells u ∧ List.length (headP u (H1.i xpᵥ1)) ≤ List.length (headP u (H2.i x_1)) + H2.m x_1 ∧ List.length (headP u (H1.i xpᵥ1)) ≤ H1.cap xpᵥ1 ∧ H1.cap xpᵥ1 ≤ H2.cap x_1 ∧ (∀ (j : Nat), j < List.length (headP
  u (H1.i xpᵥ1)) → brow (headP u (H2.i x_1) ++ beL (letV u (110 : Int)) (4 : Nat) (H2.m x_1)) j = brow (headP u (H1.i xpᵥ1)) j ∧ true = true) ∧ fdOf (kn (U.k u)) = fdOf (kn (U.k u)) ∧ H2.i x_1 + (1 : Nat) = H1.i xpᵥ1 ∧
  True)) ∧ ((↑(Prod.fst (Dq0 u xᵥ1)) : Int) = (99 : Int) → (∃ (x_1 : H2), (H2.i x_1 + (1 : Nat) = H1.i xᵥ1 + Prod.snd (Dq0 u xᵥ1) ∧ H2.i x_1 < ByteArray.size (fdOf (kn (U.k u))) ∧ byteAt (fdOf (kn (U.k u))) (↑(H2.i x_1) :
  Int) = (99 : Int) ∧ H2.m x_1 ≤ (1 : Nat) ∧ List.length (headP u (H2.i x_1)) + H2.m x_1 ≤ H2.cap x_1) ∧ (0 : Nat) = (0 : Nat) ∧ (0 : Nat) = (0 : Nat) ∧ List.length (headP u (H1.i xᵥ1)) = List.length (headP u (H2.i x_1)) +
  H2.m x_1 ∧ H1.cap xᵥ1 = H2.cap x_1 ∧ (0 : Nat) = (0 : Nat) ∧ (0 : Int) = (0 : Int) - (↑(H2.m x_1) : Int) ∧ (0 : Nat) = (0 : Nat) ∧ [SV.g (Value.int IntKind.i64 (U.k u)), SV.g (Value.int IntKind.i64 (U.to u)), SV.g
  (Value.int IntKind.i64 (U.fr u)), SV.g (Value.int IntKind.i64 (U.cl u)), SV.g (Value.int IntKind.i64 (U.sz u)), SV.g (Value.int IntKind.i64 (U.nu u)), SV.g (Value.int IntKind.i64 (U.cr u)), SV.g (Value.int IntKind.i64
  (U.re u)), SV.g (Value.bool (U.e u)), SV.g (Value.string (U.d u))] = U.cells u ∧ List.length (headP u (H2.i x_1)) + H2.m x_1 ≤ List.length (headP u (H1.i xᵥ1)) ∧ List.length (headP u (H2.i x_1)) + H2.m x_1 ≤ H2.cap x_1 ∧
  H2.cap x_1 ≤ H1.cap xᵥ1 ∧ (∀ (j : Nat), j < List.length (headP u (H2.i x_1)) + H2.m x_1 → brow (headP u (H1.i xᵥ1)) j = brow (headP u (H2.i x_1) ++ beL (letV u (99 : Int)) (1 : Nat) (H2.m x_1)) j ∧ true = true) ∧ fdOf
  (kn (U.k u)) = fdOf (kn (U.k u)) ∧ H1.i xᵥ1 + Prod.snd (Dq0 u xᵥ1) = H2.i x_1 + (1 : Nat) ∧ (0 : Nat) = (0 : Nat) ∧ ByteArray.mk #[(99 : UInt8), (114 : UInt8), (101 : UInt8), (100 : UInt8), (105 : UInt8), (116 : UInt8)]
  = ByteArray.mk #[(99 : UInt8), (114 : UInt8), (101 : UInt8), (100 : UInt8), (105 : UInt8), (116 : UInt8)] ∧ (1 : Int) = (1 : Int) ∧ (0 : Int) = (0 : Int) ∧ (255 : Int) = (255 : Int) ∧ True) ∧ ∀ (x_1 : H2), H2.i x_1 + (1
  : Nat) = H1.i xᵥ1 + Prod.snd (Dq0 u xᵥ1) ∧ H2.i x_1 < ByteArray.size (fdOf (kn (U.k u))) ∧ byteAt (fdOf (kn (U.k u))) (↑(H2.i x_1) : Int) = (99 : Int) ∧ H2.m x_1 ≤ (1 : Nat) ∧ List.length (headP u (H2.i x_1)) + H2.m x_1
  ≤ H2.cap x_1 → condX (decide ((0 : Int) ≤ (0 : Int) - (↑(H2.m x_1) : Int))) ((0 : Int) ≤ IntKind.wrap IntKind.i64 ((8 : Int) * ((0 : Int) - (↑(H2.m x_1) : Int))) ∧ (0 : Nat) + (List.length (headP u (H2.i x_1)) + H2.m
  x_1) ≤ List.length (headP u (H2.i x_1)) + H2.m x_1 ∧ (0 : Nat) + H2.cap x_1 ≤ H2.cap x_1 ∧ (List.length (headP u (H2.i x_1)) + H2.m x_1 + (1 : Nat)) * (1 : Nat) ≤ (140737488355328 : Nat) ∧ ∀ (cap : Nat), List.length
  (headP u (H2.i x_1)) + H2.m x_1 + (1 : Nat) ≤ cap → ∃ (x' : H2), (H2.i x' + (1 : Nat) = H1.i xᵥ1 + Prod.snd (Dq0 u xᵥ1) ∧ H2.i x' < ByteArray.size (fdOf (kn (U.k u))) ∧ byteAt (fdOf (kn (U.k u))) (↑(H2.i x') : Int) = (99
  : Int) ∧ H2.m x' ≤ (1 : Nat) ∧ List.length (headP u (H2.i x')) + H2.m x' ≤ H2.cap x') ∧ (1 : Nat) - H2.m x' < (1 : Nat) - H2.m x_1 ∧ (0 : Nat) = (0 : Nat) ∧ (0 : Nat) = (0 : Nat) ∧ List.length (headP u (H2.i x_1)) + H2.m
  x_1 + (1 : Nat) = List.length (headP u (H2.i x')) + H2.m x' ∧ cap = H2.cap x' ∧ (0 : Nat) = (0 : Nat) ∧ IntKind.wrap IntKind.i64 ((0 : Int) - (↑(H2.m x_1) : Int) - (1 : Int)) = (0 : Int) - (↑(H2.m x') : Int) ∧ (0 : Nat)
  = (0 : Nat) ∧ U.cells u = U.cells u ∧ List.length (headP u (H2.i x')) + H2.m x' ≤ List.length (headP u (H2.i x_1)) + H2.m x_1 + (1 : Nat) ∧ List.length (headP u (H2.i x')) + H2.m x' ≤ H2.cap x' ∧ H2.cap x' ≤ cap ∧ (∀ (j
  : Nat), j < List.length (headP u (H2.i x')) + H2.m x' → appRows (0 : Nat) (0 : Nat) (List.length (headP u (H2.i x_1)) + H2.m x_1) (brow (headP u (H2.i x_1) ++ beL (letV u (99 : Int)) (1 : Nat) (H2.m x_1))) (fun (j : Nat)
  => List.take (1 : Nat) (List.drop (j * (1 : Nat)) [SV.g (Value.int IntKind.u8 (IntKind.wrap IntKind.u8 (Int.fdiv (U.cr u) ((2 : Int) ^ min (Int.toNat (IntKind.wrap IntKind.i64 ((8 : Int) * ((0 : Int) - (↑(H2.m x_1) :
  Int))))) (64 : Nat)))))])) j = brow (headP u (H2.i x') ++ beL (letV u (99 : Int)) (1 : Nat) (H2.m x')) j ∧ true = true) ∧ fdOf (kn (U.k u)) = fdOf (kn (U.k u)) ∧ H2.i x_1 + (1 : Nat) = H2.i x' + (1 : Nat) ∧ (0 : Nat) =
  (0 : Nat) ∧ ByteArray.mk #[(99 : UInt8), (114 : UInt8), (101 : UInt8), (100 : UInt8), (105 : UInt8), (116 : UInt8)] = ByteArray.mk #[(99 : UInt8), (114 : UInt8), (101 : UInt8), (100 : UInt8), (105 : UInt8), (116 :
  UInt8)] ∧ (1 : Int) = (1 : Int) ∧ (0 : Int) = (0 : Int) ∧ (255 : Int) = (255 : Int) ∧ True) (∃ (xpᵥ1 : H1), (Dq1 xpᵥ1 u) ∧ ByteArray.size (fdOf (kn (U.k u))) - H1.i xpᵥ1 < ByteArray.size (fdOf (kn (U.k u))) - H1.i xᵥ1 ∧
  (0 : Nat) = (0 : Nat) ∧ (0 : Nat) = (0 : Nat) ∧ List.length (headP u (H2.i x_1)) + H2.m x_1 = List.length (headP u (H1.i xpᵥ1)) ∧ H2.cap x_1 = H1.cap xpᵥ1 ∧ (0 : Nat) = (0 : Nat) ∧ U.cells u = U.cells u ∧ List.length
  (headP u (H1.i xpᵥ1)) ≤ List.length (headP u (H2.i x_1)) + H2.m x_1 ∧ List.length (headP u (H1.i xpᵥ1)) ≤ H1.cap xpᵥ1 ∧ H1.cap xpᵥ1 ≤ H2.cap x_1 ∧ (∀ (j : Nat), j < List.length (headP u (H1.i xpᵥ1)) → brow (headP u (H2.i
  x_1) ++ beL (letV u (99 : Int)) (1 : Nat) (H2.m x_1)) j = brow (headP u (H1.i xpᵥ1)) j ∧ true = true) ∧ fdOf (kn (U.k u)) = fdOf (kn (U.k u)) ∧ H2.i x_1 + (1 : Nat) = H1.i xpᵥ1 ∧ True)) ∧ ((↑(Prod.fst (Dq0 u xᵥ1)) : Int)
  = (114 : Int) → (∃ (x_1 : H2), (H2.i x_1 + (1 : Nat) = H1.i xᵥ1 + Prod.snd (Dq0 u xᵥ1) ∧ H2.i x_1 < ByteArray.size (fdOf (kn (U.k u))) ∧ byteAt (fdOf (kn (U.k u))) (↑(H2.i x_1) : Int) = (114 : Int) ∧ H2.m x_1 ≤ (1 : Nat)
  ∧ List.length (headP u (H2.i x_1)) + H2.m x_1 ≤ H2.cap x_1) ∧ (0 : Nat) = (0 : Nat) ∧ (0 : Nat) = (0 : Nat) ∧ List.length (headP u (H1.i xᵥ1)) = List.length (headP u (H2.i x_1)) + H2.m x_1 ∧ H1.cap xᵥ1 = H2.cap x_1 ∧ (0
  : Nat) = (0 : Nat) ∧ (0 : Int) = (0 : Int) - (↑(H2.m x_1) : Int) ∧ (0 : Nat) = (0 : Nat) ∧ [SV.g (Value.int IntKind.i64 (U.k u)), SV.g (Value.int IntKind.i64 (U.to u)), SV.g (Value.int IntKind.i64 (U.fr u)), SV.g
  (Value.int IntKind.i64 (U.cl u)), SV.g (Value.int IntKind.i64 (U.sz u)), SV.g (Value.int IntKind.i64 (U.nu u)), SV.g (Value.int IntKind.i64 (U.cr u)), SV.g (Value.int IntKind.i64 (U.re u)), SV.g (Value.bool (U.e u)),
  SV.g (Value.string (U.d u))] = U.cells u ∧ List.length (headP u (H2.i x_1)) + H2.m x_1 ≤ List.length (headP u (H1.i xᵥ1)) ∧ List.length (headP u (H2.i x_1)) + H2.m x_1 ≤ H2.cap x_1 ∧ H2.cap x_1 ≤ H1.cap xᵥ1 ∧ (∀ (j :
  Nat), j < List.length (headP u (H2.i x_1)) + H2.m x_1 → brow (headP u (H1.i xᵥ1)) j = brow (headP u (H2.i x_1) ++ beL (letV u (114 : Int)) (1 : Nat) (H2.m x_1)) j ∧ true = true) ∧ fdOf (kn (U.k u)) = fdOf (kn (U.k u)) ∧
  H1.i xᵥ1 + Prod.snd (Dq0 u xᵥ1) = H2.i x_1 + (1 : Nat) ∧ (0 : Nat) = (0 : Nat) ∧ ByteArray.mk #[(114 : UInt8), (101 : UInt8), (97 : UInt8), (115 : UInt8), (111 : UInt8), (110 : UInt8)] = ByteArray.mk #[(114 : UInt8),
  (101 : UInt8), (97 : UInt8), (115 : UInt8), (111 : UInt8), (110 : UInt8)] ∧ (1 : Int) = (1 : Int) ∧ (0 : Int) = (0 : Int) ∧ (255 : Int) = (255 : Int) ∧ True) ∧ ∀ (x_1 : H2), H2.i x_1 + (1 : Nat) = H1.i xᵥ1 + Prod.snd
  (Dq0 u xᵥ1) ∧ H2.i x_1 < ByteArray.size (fdOf (kn (U.k u))) ∧ byteAt (fdOf (kn (U.k u))) (↑(H2.i x_1) : Int) = (114 : Int) ∧ H2.m x_1 ≤ (1 : Nat) ∧ List.length (headP u (H2.i x_1)) + H2.m x_1 ≤ H2.cap x_1 → condX (decide
  ((0 : Int) ≤ (0 : Int) - (↑(H2.m x_1) : Int))) ((0 : Int) ≤ IntKind.wrap IntKind.i64 ((8 : Int) * ((0 : Int) - (↑(H2.m x_1) : Int))) ∧ (0 : Nat) + (List.length (headP u (H2.i x_1)) + H2.m x_1) ≤ List.length (headP u
  (H2.i x_1)) + H2.m x_1 ∧ (0 : Nat) + H2.cap x_1 ≤ H2.cap x_1 ∧ (List.length (headP u (H2.i x_1)) + H2.m x_1 + (1 : Nat)) * (1 : Nat) ≤ (140737488355328 : Nat) ∧ ∀ (cap : Nat), List.length (headP u (H2.i x_1)) + H2.m x_1
  + (1 : Nat) ≤ cap → ∃ (x' : H2), (H2.i x' + (1 : Nat) = H1.i xᵥ1 + Prod.snd (Dq0 u xᵥ1) ∧ H2.i x' < ByteArray.size (fdOf (kn (U.k u))) ∧ byteAt (fdOf (kn (U.k u))) (↑(H2.i x') : Int) = (114 : Int) ∧ H2.m x' ≤ (1 : Nat) ∧
  List.length (headP u (H2.i x')) + H2.m x' ≤ H2.cap x') ∧ (1 : Nat) - H2.m x' < (1 : Nat) - H2.m x_1 ∧ (0 : Nat) = (0 : Nat) ∧ (0 : Nat) = (0 : Nat) ∧ List.length (headP u (H2.i x_1)) + H2.m x_1 + (1 : Nat) = List.length
  (headP u (H2.i x')) + H2.m x' ∧ cap = H2.cap x' ∧ (0 : Nat) = (0 : Nat) ∧ IntKind.wrap IntKind.i64 ((0 : Int) - (↑(H2.m x_1) : Int) - (1 : Int)) = (0 : Int) - (↑(H2.m x') : Int) ∧ (0 : Nat) = (0 : Nat) ∧ U.cells u =
  U.cells u ∧ List.length (headP u (H2.i x')) + H2.m x' ≤ List.length (headP u (H2.i x_1)) + H2.m x_1 + (1 : Nat) ∧ List.length (headP u (H2.i x')) + H2.m x' ≤ H2.cap x' ∧ H2.cap x' ≤ cap ∧ (∀ (j : Nat), j < List.length
  (headP u (H2.i x')) + H2.m x' → appRows (0 : Nat) (0 : Nat) (List.length (headP u (H2.i x_1)) + H2.m x_1) (brow (headP u (H2.i x_1) ++ beL (letV u (114 : Int)) (1 : Nat) (H2.m x_1))) (fun (j : Nat) => List.take (1 : Nat)
  (List.drop (j * (1 : Nat)) [SV.g (Value.int IntKind.u8 (IntKind.wrap IntKind.u8 (Int.fdiv (U.re u) ((2 : Int) ^ min (Int.toNat (IntKind.wrap IntKind.i64 ((8 : Int) * ((0 : Int) - (↑(H2.m x_1) : Int))))) (64 : Nat)))))]))
  j = brow (headP u (H2.i x') ++ beL (letV u (114 : Int)) (1 : Nat) (H2.m x')) j ∧ true = true) ∧ fdOf (kn (U.k u)) = fdOf (kn (U.k u)) ∧ H2.i x_1 + (1 : Nat) = H2.i x' + (1 : Nat) ∧ (0 : Nat) = (0 : Nat) ∧ ByteArray.mk
  #[(114 : UInt8), (101 : UInt8), (97 : UInt8), (115 : UInt8), (111 : UInt8), (110 : UInt8)] = ByteArray.mk #[(114 : UInt8), (101 : UInt8), (97 : UInt8), (115 : UInt8), (111 : UInt8), (110 : UInt8)] ∧ (1 : Int) = (1 : Int)
  ∧ (0 : Int) = (0 : Int) ∧ (255 : Int) = (255 : Int) ∧ True) (∃ (xpᵥ1 : H1), (Dq1 xpᵥ1 u) ∧ ByteArray.size (fdOf (kn (U.k u))) - H1.i xpᵥ1 < ByteArray.size (fdOf (kn (U.k u))) - H1.i xᵥ1 ∧ (0 : Nat) = (0 : Nat) ∧ (0 :
  Nat) = (0 : Nat) ∧ List.length (headP u (H2.i x_1)) + H2.m x_1 = List.length (headP u (H1.i xpᵥ1)) ∧ H2.cap x_1 = H1.cap xpᵥ1 ∧ (0 : Nat) = (0 : Nat) ∧ U.cells u = U.cells u ∧ List.length (headP u (H1.i xpᵥ1)) ≤
  List.length (headP u (H2.i x_1)) + H2.m x_1 ∧ List.length (headP u (H1.i xpᵥ1)) ≤ H1.cap xpᵥ1 ∧ H1.cap xpᵥ1 ≤ H2.cap x_1 ∧ (∀ (j : Nat), j < List.length (headP u (H1.i xpᵥ1)) → brow (headP u (H2.i x_1) ++ beL (letV u
  (114 : Int)) (1 : Nat) (H2.m x_1)) j = brow (headP u (H1.i xpᵥ1)) j ∧ true = true) ∧ fdOf (kn (U.k u)) = fdOf (kn (U.k u)) ∧ H2.i x_1 + (1 : Nat) = H1.i xpᵥ1 ∧ True)) ∧ ((↑(Prod.fst (Dq0 u xᵥ1)) : Int) ≠ (116 : Int) ∧
  (↑(Prod.fst (Dq0 u xᵥ1)) : Int) ≠ (102 : Int) ∧ (↑(Prod.fst (Dq0 u xᵥ1)) : Int) ≠ (110 : Int) ∧ (↑(Prod.fst (Dq0 u xᵥ1)) : Int) ≠ (99 : Int) ∧ (↑(Prod.fst (Dq0 u xᵥ1)) : Int) ≠ (114 : Int) → (∃ (x_1 : H2), (H2.i x_1 + (1
  : Nat) = H1.i xᵥ1 + Prod.snd (Dq0 u xᵥ1) ∧ H2.i x_1 < ByteArray.size (fdOf (kn (U.k u))) ∧ byteAt (fdOf (kn (U.k u))) (↑(H2.i x_1) : Int) = (115 : Int) ∧ H2.m x_1 ≤ (1 : Nat) ∧ List.length (headP u (H2.i x_1)) + H2.m x_1
  ≤ H2.cap x_1) ∧ (0 : Nat) = (0 : Nat) ∧ (0 : Nat) = (0 : Nat) ∧ List.length (headP u (H1.i xᵥ1)) = List.length (headP u (H2.i x_1)) + H2.m x_1 ∧ H1.cap xᵥ1 = H2.cap x_1 ∧ (0 : Nat) = (0 : Nat) ∧ (0 : Int) = (0 : Int) -
  (↑(H2.m x_1) : Int) ∧ (0 : Nat) = (0 : Nat) ∧ [SV.g (Value.int IntKind.i64 (U.k u)), SV.g (Value.int IntKind.i64 (U.to u)), SV.g (Value.int IntKind.i64 (U.fr u)), SV.g (Value.int IntKind.i64 (U.cl u)), SV.g (Value.int
  IntKind.i64 (U.sz u)), SV.g (Value.int IntKind.i64 (U.nu u)), SV.g (Value.int IntKind.i64 (U.cr u)), SV.g (Value.int IntKind.i64 (U.re u)), SV.g (Value.bool (U.e u)), SV.g (Value.string (U.d u))] = U.cells u ∧
  List.length (headP u (H2.i x_1)) + H2.m x_1 ≤ List.length (headP u (H1.i xᵥ1)) ∧ List.length (headP u (H2.i x_1)) + H2.m x_1 ≤ H2.cap x_1 ∧ H2.cap x_1 ≤ H1.cap xᵥ1 ∧ (∀ (j : Nat), j < List.length (headP u (H2.i x_1)) +
  H2.m x_1 → brow (headP u (H1.i xᵥ1)) j = brow (headP u (H2.i x_1) ++ beL (letV u (115 : Int)) (1 : Nat) (H2.m x_1)) j ∧ true = true) ∧ fdOf (kn (U.k u)) = fdOf (kn (U.k u)) ∧ H1.i xᵥ1 + Prod.snd (Dq0 u xᵥ1) = H2.i x_1 +
  (1 : Nat) ∧ (0 : Nat) = (0 : Nat) ∧ ByteArray.mk #[(115 : UInt8), (105 : UInt8), (122 : UInt8), (101 : UInt8)] = ByteArray.mk #[(115 : UInt8), (105 : UInt8), (122 : UInt8), (101 : UInt8)] ∧ (1 : Int) = (1 : Int) ∧ (7 :
  Int) = (7 : Int) ∧ (12 : Int) = (12 : Int) ∧ True) ∧ ∀ (x_1 : H2), H2.i x_1 + (1 : Nat) = H1.i xᵥ1 + Prod.snd (Dq0 u xᵥ1) ∧ H2.i x_1 < ByteArray.size (fdOf (kn (U.k u))) ∧ byteAt (fdOf (kn (U.k u))) (↑(H2.i x_1) : Int) =
  (115 : Int) ∧ H2.m x_1 ≤ (1 : Nat) ∧ List.length (headP u (H2.i x_1)) + H2.m x_1 ≤ H2.cap x_1 → condX (decide ((0 : Int) ≤ (0 : Int) - (↑(H2.m x_1) : Int))) ((0 : Int) ≤ IntKind.wrap IntKind.i64 ((8 : Int) * ((0 : Int) -
  (↑(H2.m x_1) : Int))) ∧ (0 : Nat) + (List.length (headP u (H2.i x_1)) + H2.m x_1) ≤ List.length (headP u (H2.i x_1)) + H2.m x_1 ∧ (0 : Nat) + H2.cap x_1 ≤ H2.cap x_1 ∧ (List.length (headP u (H2.i x_1)) + H2.m x_1 + (1 :
  Nat)) * (1 : Nat) ≤ (140737488355328 : Nat) ∧ ∀ (cap : Nat), List.length (headP u (H2.i x_1)) + H2.m x_1 + (1 : Nat) ≤ cap → ∃ (x' : H2), (H2.i x' + (1 : Nat) = H1.i xᵥ1 + Prod.snd (Dq0 u xᵥ1) ∧ H2.i x' < ByteArray.size
  (fdOf (kn (U.k u))) ∧ byteAt (fdOf (kn (U.k u))) (↑(H2.i x') : Int) = (115 : Int) ∧ H2.m x' ≤ (1 : Nat) ∧ List.length (headP u (H2.i x')) + H2.m x' ≤ H2.cap x') ∧ (1 : Nat) - H2.m x' < (1 : Nat) - H2.m x_1 ∧ (0 : Nat) =
  (0 : Nat) ∧ (0 : Nat) = (0 : Nat) ∧ List.length (headP u (H2.i x_1)) + H2.m x_1 + (1 : Nat) = List.length (headP u (H2.i x')) + H2.m x' ∧ cap = H2.cap x' ∧ (0 : Nat) = (0 : Nat) ∧ IntKind.wrap IntKind.i64 ((0 : Int) -
  (↑(H2.m x_1) : Int) - (1 : Int)) = (0 : Int) - (↑(H2.m x') : Int) ∧ (0 : Nat) = (0 : Nat) ∧ U.cells u = U.cells u ∧ List.length (headP u (H2.i x')) + H2.m x' ≤ List.length (headP u (H2.i x_1)) + H2.m x_1 + (1 : Nat) ∧
  List.length (headP u (H2.i x')) + H2.m x' ≤ H2.cap x' ∧ H2.cap x' ≤ cap ∧ (∀ (j : Nat), j < List.length (headP u (H2.i x')) + H2.m x' → appRows (0 : Nat) (0 : Nat) (List.length (headP u (H2.i x_1)) + H2.m x_1) (brow
  (headP u (H2.i x_1) ++ beL (letV u (115 : Int)) (1 : Nat) (H2.m x_1))) (fun (j : Nat) => List.take (1 : Nat) (List.drop (j * (1 : Nat)) [SV.g (Value.int IntKind.u8 (IntKind.wrap IntKind.u8 (Int.fdiv (U.sz u) ((2 : Int) ^
  min (Int.toNat (IntKind.wrap IntKind.i64 ((8 : Int) * ((0 : Int) - (↑(H2.m x_1) : Int))))) (64 : Nat)))))])) j = brow (headP u (H2.i x') ++ beL (letV u (115 : Int)) (1 : Nat) (H2.m x')) j ∧ true = true) ∧ fdOf (kn (U.k
  u)) = fdOf (kn (U.k u)) ∧ H2.i x_1 + (1 : Nat) = H2.i x' + (1 : Nat) ∧ (0 : Nat) = (0 : Nat) ∧ ByteArray.mk #[(115 : UInt8), (105 : UInt8), (122 : UInt8), (101 : UInt8)] = ByteArray.mk #[(115 : UInt8), (105 : UInt8),
  (122 : UInt8), (101 : UInt8)] ∧ (1 : Int) = (1 : Int) ∧ (7 : Int) = (7 : Int) ∧ (12 : Int) = (12 : Int) ∧ True) (∃ (xpᵥ1 : H1), (Dq1 xpᵥ1 u) ∧ ByteArray.size (fdOf (kn (U.k u))) - H1.i xpᵥ1 < ByteArray.size (fdOf (kn
  (U.k u))) - H1.i xᵥ1 ∧ (0 : Nat) = (0 : Nat) ∧ (0 : Nat) = (0 : Nat) ∧ List.length (headP u (H2.i x_1)) + H2.m x_1 = List.length (headP u (H1.i xpᵥ1)) ∧ H2.cap x_1 = H1.cap xpᵥ1 ∧ (0 : Nat) = (0 : Nat) ∧ U.cells u =
  U.cells u ∧ List.length (headP u (H1.i xpᵥ1)) ≤ List.length (headP u (H2.i x_1)) + H2.m x_1 ∧ List.length (headP u (H1.i xpᵥ1)) ≤ H1.cap xpᵥ1 ∧ H1.cap xpᵥ1 ≤ H2.cap x_1 ∧ (∀ (j : Nat), j < List.length (headP u (H1.i
  xpᵥ1)) → brow (headP u (H2.i x_1) ++ beL (letV u (115 : Int)) (1 : Nat) (H2.m x_1)) j = brow (headP u (H1.i xpᵥ1)) j ∧ true = true) ∧ fdOf (kn (U.k u)) = fdOf (kn (U.k u)) ∧ H2.i x_1 + (1 : Nat) = H1.i xpᵥ1 ∧ True))) ((∃
  (y : Nat), List.length (headL u) ≤ y ∧ (0 : Nat) = (0 : Nat) ∧ List.length (headP u (H1.i xᵥ1)) = List.length (headL u) ∧ H1.cap xᵥ1 = y ∧ List.length (headL u) ≤ List.length (headP u (H1.i xᵥ1)) ∧ List.length (headL u)
  ≤ y ∧ y ≤ H1.cap xᵥ1 ∧ (∀ (j : Nat), j < List.length (headL u) → brow (headP u (H1.i xᵥ1)) j = brow (headL u) j ∧ true = true) ∧ True) ∨ False)
theorem vcHeadE : VcHead = (∀ (u : U), okU u → fnX (cx_head u) (bodyOf Try.f66) Try.f66.results.toList [.agg u.cells, .agg (frow (kn u.k))] [] (endX 0 (C_head.outs u))) := by kernel_rfl
set_option maxRecDepth 100000 in
set_option maxHeartbeats 4000000 in
theorem vcHead : VcHead := by
  unfold VcHead Dq1 Dq0
  intro u hu
  have hk := hu.1
  have hcl := hu.2.2.2.1
  have hlow : 0 ≤ lowU u ∧ lowU u ≤ 4 := by unfold lowU; split <;> omega
  have hsz := fdOf_size (kn_lt u.k)
  refine ⟨(condX_iff _ _ _).2 ⟨fun h => ⟨(), trivial, ?_⟩, fun h => ⟨(), trivial, ?_⟩⟩, fun _ _ => ⟨by omega, ⟨⟨0, 1⟩, ?_⟩, fun x hx => (condX_iff _ _ _).2 ⟨fun hlt => ?_, fun hge => Or.inl ⟨x.cap, ?_⟩⟩⟩⟩
  · and_intros <;> first | rfl | trivial | simp [lowU, h]
  · and_intros <;> first | rfl | trivial | simp [lowU, h]
  · and_intros <;> try first | rfl | trivial | exact Nat.le_refl _ | exact Nat.zero_le _
    intro j hj
    have : j = 0 := by simp [headP] at hj; omega
    subst this
    rw [head0 hk.1 hk.2 hlow.1 hlow.2]
    exact ⟨rfl, rfl⟩
  · have hlt : x.i < (fdOf (kn u.k)).size := by simpa using hlt
    obtain ⟨d1, d2⟩ := decode_at (fdOf_ascii _) hlt
    have h6 := letter6 (kn_lt u.k) hlt
    have hs := fun i => headP_succ u i
    have hl := fun i => headP_len u i
    rw [d1, d2]
    refine ⟨rfl, rfl, rfl, trivial, fun e => ?_, fun e => ?_, fun e => ?_, fun e => ?_, fun e => ?_, fun e => ?_⟩
    all_goals
      refine ⟨⟨⟨x.i, 0, x.cap⟩, ?_⟩, fun y hy => (condX_iff _ _ _).2 ⟨fun h0 => ⟨?_, ?_, ?_, ?_, fun cap hcap => ⟨⟨y.i, y.m + 1, cap⟩, ?_⟩⟩, fun h0 => ⟨⟨y.i + 1, y.cap⟩, ?_⟩⟩⟩
      · dsimp only; and_intros <;> try first | rfl | trivial | exact hlt | exact e | exact hx.2 | omega
        intro j hj; exact ⟨by simp [beL], rfl⟩
      · have h0 := of_decide_eq_true h0; rw [wrap1 (by omega) (by omega)]; omega
      · omega
      · omega
      · have := hl y.i; omega
      · have h0 := of_decide_eq_true h0
        obtain ⟨g0, g1, e1, g3, g4⟩ := hy
        dsimp only
        and_intros <;> try first | rfl | trivial | exact e1 | omega | exact hcap
        · rw [wrap1 (by omega) (by omega)]; omega
        · intro j hj
          rw [beL_succ, ← List.append_assoc]
          refine ⟨app_brow (by simp [beL_len]) ?_ hj, rfl⟩
          rw [byte_at _ (k := _ - 1 - y.m) ?_ ?_]
          · rfl
          all_goals omega
      · have h0 := of_decide_eq_false h0
        obtain ⟨g0, g1, e1, g3, g4⟩ := hy
        have hm : letW (byteAt (fdOf (kn u.k)) y.i) = y.m := by rw [e1]; simp [letW]; omega
        have hs2 := hs y.i
        rw [e1] at hs2 hm
        have hl2 : (headP u (y.i + 1)).length = (headP u y.i).length + y.m := by
          rw [hs2, List.length_append, beL_len, hm]
        dsimp only
        and_intros <;> try first | rfl | trivial | omega
        · intro j hj
          rw [hs2, ← hm]
          exact ⟨rfl, rfl⟩
  · have hge : ¬ x.i < (fdOf (kn u.k)).size := by simpa using hge
    have : x.i = (fdOf (kn u.k)).size := by omega
    have h2 := hx.2
    rw [this] at h2
    simp only [this]
    and_intros <;> try first | rfl | trivial | exact h2 | exact Nat.le_refl _
    exact fun j hj => ⟨rfl, trivial⟩
theorem vcHeadK : ∀ (u : U), okU u → Held (fnX (cx_head u) (bodyOf Try.f66) Try.f66.results.toList [.agg u.cells, .agg (frow (kn u.k))] [] (endX 0 (C_head.outs u))) := held2 vcHeadE vcHead
def getHead : List SV → Heap → Option U
  | [.agg cs, .agg _], _ => uOf cs
  | _, _ => none
end Go.Proofs.Ytghbejmnnfoamaa
