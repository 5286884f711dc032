/- Chapter 15: the reference's Cut; rules for lists. -/
import Derived.Test.YtmblefpbfpjneaaO
set_option linter.unusedVariables false
set_option linter.unusedSimpArgs false
namespace Go.Proofs.Ytmblefpbfpjneaa
open Go Go.Eng
attribute [local irreducible] condX
def cxE (n : Nat) : Cx := ⟨ty, ΓOf [], fun _ => [], fun _ _ => [], n, 0⟩
def VcPow7 : Prop := SV.g (Value.int IntKind.i64 (128 : Int)) = SV.g (Value.int IntKind.i64 (128 : Int))
def VcPow7S : Prop := fnX (cxE 13) (bodyOf Try.f44) Try.f44.results.toList [.g (.int .i64 7)] [] (fun r _ => r = .g (.int .i64 128))
theorem vcPow7E : VcPow7 = VcPow7S := by kernel_rfl
set_option maxHeartbeats 4000000 in
theorem vcPow7 : VcPow7 := by
  exact rfl
theorem vcPow7K : Held (fnX (cxE 13) (bodyOf Try.f44) Try.f44.results.toList [.g (.int .i64 7)] [] (fun r _ => r = .g (.int .i64 128))) := held0 vcPow7E vcPow7
def VcPow8 : Prop := SV.g (Value.int IntKind.i64 (256 : Int)) = SV.g (Value.int IntKind.i64 (256 : Int))
def VcPow8S : Prop := fnX (cxE 13) (bodyOf Try.f44) Try.f44.results.toList [.g (.int .i64 8)] [] (fun r _ => r = .g (.int .i64 256))
theorem vcPow8E : VcPow8 = VcPow8S := by kernel_rfl
set_option maxHeartbeats 4000000 in
theorem vcPow8 : VcPow8 := by
  exact rfl
theorem vcPow8K : Held (fnX (cxE 13) (bodyOf Try.f44) Try.f44.results.toList [.g (.int .i64 8)] [] (fun r _ => r = .g (.int .i64 256))) := held0 vcPow8E vcPow8
def VcPow9 : Prop := SV.g (Value.int IntKind.i64 (512 : Int)) = SV.g (Value.int IntKind.i64 (512 : Int))
def VcPow9S : Prop := fnX (cxE 13) (bodyOf Try.f44) Try.f44.results.toList [.g (.int .i64 9)] [] (fun r _ => r = .g (.int .i64 512))
theorem vcPow9E : VcPow9 = VcPow9S := by kernel_rfl
set_option maxHeartbeats 4000000 in
theorem vcPow9 : VcPow9 := by
  exact rfl
theorem vcPow9K : Held (fnX (cxE 13) (bodyOf Try.f44) Try.f44.results.toList [.g (.int .i64 9)] [] (fun r _ => r = .g (.int .i64 512))) := held0 vcPow9E vcPow9
def VcPow10 : Prop := SV.g (Value.int IntKind.i64 (1024 : Int)) = SV.g (Value.int IntKind.i64 (1024 : Int))
def VcPow10S : Prop := fnX (cxE 13) (bodyOf Try.f44) Try.f44.results.toList [.g (.int .i64 10)] [] (fun r _ => r = .g (.int .i64 1024))
theorem vcPow10E : VcPow10 = VcPow10S := by kernel_rfl
set_option maxHeartbeats 4000000 in
theorem vcPow10 : VcPow10 := by
  exact rfl
theorem vcPow10K : Held (fnX (cxE 13) (bodyOf Try.f44) Try.f44.results.toList [.g (.int .i64 10)] [] (fun r _ => r = .g (.int .i64 1024))) := held0 vcPow10E vcPow10
def VcPow11 : Prop := SV.g (Value.int IntKind.i64 (2048 : Int)) = SV.g (Value.int IntKind.i64 (2048 : Int))
def VcPow11S : Prop := fnX (cxE 13) (bodyOf Try.f44) Try.f44.results.toList [.g (.int .i64 11)] [] (fun r _ => r = .g (.int .i64 2048))
theorem vcPow11E : VcPow11 = VcPow11S := by kernel_rfl
set_option maxHeartbeats 4000000 in
theorem vcPow11 : VcPow11 := by
  exact rfl
theorem vcPow11K : Held (fnX (cxE 13) (bodyOf Try.f44) Try.f44.results.toList [.g (.int .i64 11)] [] (fun r _ => r = .g (.int .i64 2048))) := held0 vcPow11E vcPow11
def VcPow12 : Prop := SV.g (Value.int IntKind.i64 (4096 : Int)) = SV.g (Value.int IntKind.i64 (4096 : Int))
def VcPow12S : Prop := fnX (cxE 13) (bodyOf Try.f44) Try.f44.results.toList [.g (.int .i64 12)] [] (fun r _ => r = .g (.int .i64 4096))
theorem vcPow12E : VcPow12 = VcPow12S := by kernel_rfl
set_option maxHeartbeats 4000000 in
theorem vcPow12 : VcPow12 := by
  exact rfl
theorem vcPow12K : Held (fnX (cxE 13) (bodyOf Try.f44) Try.f44.results.toList [.g (.int .i64 12)] [] (fun r _ => r = .g (.int .i64 4096))) := held0 vcPow12E vcPow12
theorem seven {n : Int} (h : 7 ≤ n ∧ n ≤ 12) : n = 7 ∨ n = 8 ∨ n = 9 ∨ n = 10 ∨ n = 11 ∨ n = 12 := by omega
def X_rPower : XC := ⟨Int, fun | [.g (.int .i64 x)] => some x | _ => none, fun x => [.g (.int .i64 x)], fun x => 7 ≤ x ∧ x ≤ 12, fun x => .g (.int .i64 (2 ^ x.toNat : Nat))⟩
theorem vcPowK : ∀ x : Int, 7 ≤ x ∧ x ≤ 12 → Held (fnX (cxE 13) (bodyOf Try.f44) Try.f44.results.toList [.g (.int .i64 x)] [] (fun r _ => r = .g (.int .i64 (2 ^ x.toNat : Nat)))) := by
  intro x hx
  rcases seven hx with rfl | rfl | rfl | rfl | rfl | rfl
  · exact vcPow7K
  · exact vcPow8K
  · exact vcPow9K
  · exact vcPow10K
  · exact vcPow11K
  · exact vcPow12K
def cx_rPower (_ : Int) : Cx := cxE 13
def Γn : List (Nat × Rule) := []
theorem Γn_ok : ΓOK Try.prog (ΓOf Γn) := ΓOf_nil _
theorem ok_rPower : ExactSound Try.prog 44 X_rPower.rule :=
  exact_rule (ty := ty) (Γ := ΓOf Γn) hm tyOK Γn_ok (fnOK_of Try.func44 (by kernel_rfl) (by kernel_rfl)) Try.func44 (body_some (by kernel_rfl)) X_rPower Try.ntmps44 (fun _ => Nat.le_of_ble_eq_true rfl) (fun _ => rfl) (fun x => rfl) (fun x => (cx_rPower x).cut) (fun x => (cx_rPower x).loop) fun x h => vcPowK x h
def Γq : List (Nat × Rule) := (44, .exact X_rPower.rule) :: Γn
theorem Γq_ok : ΓOK Try.prog (ΓOf Γq) := (ΓOf_cons ok_rPower Γn_ok)
def X_Piece : XC := ⟨Int, fun | [.g (.int .i64 x)] => some x | _ => none, fun x => [.g (.int .i64 x)], fun x => 7 ≤ x ∧ x ≤ 12, fun x => .g (.int .i64 (pieceN x))⟩
def cx_Piece (_ : Int) : Cx := ⟨ty, ΓOf Γq, fun _ => [], fun _ _ => [], 6, 0⟩
def VcPiece : Prop := ∀ (x : Int), (7 : Int) ≤ x ∧ x ≤ (12 : Int) → [SV.g (Value.int IntKind.i64 x)] = [SV.g (Value.int IntKind.i64 x)] ∧ ((7 : Int) ≤ x ∧ x ≤ (12 : Int)) ∧ SV.g (Value.int IntKind.i64 (if (3980 : Int) < (↑((2 : Nat) ^
  Int.toNat x) : Int) then (3980 : Int) else (↑((2 : Nat) ^ Int.toNat x) : Int))) = SV.g (Value.int IntKind.i64 (↑(pieceN x) : Int))
def VcPieceS : Prop := ∀ x : Int, 7 ≤ x ∧ x ≤ 12 → fnX (cx_Piece x) (bodyOf Try.f33) Try.f33.results.toList [.g (.int .i64 x)] [] (fun r _ => r = .g (.int .i64 (pieceN x)))
theorem vcPieceE : VcPiece = VcPieceS := by kernel_rfl
set_option maxHeartbeats 4000000 in
theorem vcPiece : VcPiece := by
  intro x hx
  refine ⟨rfl, hx, ?_⟩
  unfold pieceN
  have : ((min (2 ^ x.toNat) 3980 : Nat) : Int) = if (3980 : Int) < ((2 ^ x.toNat : Nat) : Int) then 3980 else ((2 ^ x.toNat : Nat) : Int) := by split <;> omega
  rw [this]
theorem vcPieceK : ∀ x : Int, 7 ≤ x ∧ x ≤ 12 → Held (fnX (cx_Piece x) (bodyOf Try.f33) Try.f33.results.toList [.g (.int .i64 x)] [] (fun r _ => r = .g (.int .i64 (pieceN x)))) := held2 (p := fun (x : Int) (_ : 7 ≤ x ∧ x ≤ 12) => fnX (cx_Piece x) (bodyOf Try.f33) Try.f33.results.toList [.g (.int .i64 x)] [] (fun r _ => r = .g (.int .i64 (pieceN x)))) vcPieceE vcPiece
theorem ok_Piece : ExactSound Try.prog 33 X_Piece.rule :=
  exact_rule (ty := ty) (Γ := ΓOf Γq) hm tyOK Γq_ok (fnOK_of Try.func33 (by kernel_rfl) (by kernel_rfl)) Try.func33 (body_some (by kernel_rfl)) X_Piece Try.ntmps33 (fun _ => Nat.le_of_ble_eq_true rfl) (fun _ => rfl) (fun x => rfl) (fun x => (cx_Piece x).cut) (fun x => (cx_Piece x).loop) fun x h => vcPieceK x h
def Γu : List (Nat × Rule) := (33, .exact X_Piece.rule) :: Γ5
theorem Γu_ok : ΓOK Try.prog (ΓOf Γu) := (ΓOf_cons ok_Piece Γ5_ok)
theorem bor0 (p q : Bool) : (bif p then true else q) = (p || q) := by cases p <;> rfl
theorem cutN_iff {m p n : Nat} (hp : 0 < p) : n < cutN m p ↔ n * p < m + (if n = 0 then 1 else 0) := by
  unfold cutN
  by_cases hm : m = 0
  · subst hm
    rw [if_pos rfl]
    by_cases hn : n = 0
    · subst hn; simp
    · rw [if_neg hn]; simp [hn]
  · rw [if_neg hm]
    by_cases hn : n = 0
    · subst hn
      rw [if_pos rfl, Nat.zero_mul]
      have : 0 < (m + p - 1) / p := Nat.div_pos (by omega) hp
      omega
    · rw [if_neg hn, Nat.add_zero, Nat.lt_iff_add_one_le, Nat.le_div_iff_mul_le hp, Nat.add_mul]
      omega
theorem cutN_pos {m p : Nat} (hp : 0 < p) : 0 < cutN m p := by rw [cutN_iff hp]; simp
def annRCut (b : ByteArray) (size : Int) (p : Nat) : Ann := ⟨CX, fun x => ⟨[(0, .g (.string b)), (1, .g (.int .i64 size)), (6, .sl 0 0 10 x.n x.cap), (7, .g (.int .i64 (x.n * p : Nat)))], [(0, .view 10 x.n x.cap (urow (cutL b p)) 23)], 1, 0, []⟩,
  fun x => x.n ≤ cutN b.size p ∧ x.n ≤ x.cap, fun x => cutN b.size p - x.n⟩
def C_rCut : Ctr := ⟨0, ByteArray × Int, fun x => [.g (.string x.1), .g (.int .i64 x.2)], fun _ => [], fun _ => True, fun x =>
  [.any Nat (fun cap => cutE x.1 x.2 = 0 ∧ (cutL x.1 (pieceN x.2)).length ≤ cap) (fun cap => .tup [.sl 0 0 10 (cutL x.1 (pieceN x.2)).length cap, .g (.int .i64 0)]) (fun cap => [(0, .view 10 (cutL x.1 (pieceN x.2)).length cap (urow (cutL x.1 (pieceN x.2))) 23)]),
   .one (cutE x.1 x.2 ≠ 0) (.tup [.sl 0 0 10 0 0, .g (.int .i64 (cutE x.1 x.2))]) [(0, .view 10 0 0 (urow []) 23)]]⟩
def cx_rCut (x : ByteArray × Int) : Cx := ⟨ty, ΓOf Γu, fun _ => [], fun i _ => if i = 7 then [annRCut x.1 x.2 (pieceN x.2)] else [], 52, 0⟩
def VcRCut : Prop := ∀ (x : ByteArray × Int), True → condX (bif decide (Prod.snd x < (7 : Int)) then true else decide ((12 : Int) < Prod.snd x)) ((∃ (y : Nat), (cutE (Prod.fst x) (Prod.snd x) = (0 : Int) ∧ List.length (cutL (Prod.fst x)
  (pieceN (Prod.snd x))) ≤ y) ∧ List.length (cutL (Prod.fst x) (pieceN (Prod.snd x))) = (0 : Nat) ∧ y = (0 : Nat) ∧ (1 : Int) = (0 : Int) ∧ List.length (cutL (Prod.fst x) (pieceN (Prod.snd x))) = (0 : Nat) ∧ True) ∨ cutE
  (Prod.fst x) (Prod.snd x) ≠ (0 : Int) ∧ (0 : Nat) = (0 : Nat) ∧ (0 : Nat) = (0 : Nat) ∧ (1 : Int) = cutE (Prod.fst x) (Prod.snd x) ∧ (0 : Nat) = (0 : Nat) ∧ True ∨ False) (condX (decide ((16000 : Int) < (↑(ByteArray.size
  (Prod.fst x)) : Int))) ((∃ (y : Nat), (cutE (Prod.fst x) (Prod.snd x) = (0 : Int) ∧ List.length (cutL (Prod.fst x) (pieceN (Prod.snd x))) ≤ y) ∧ List.length (cutL (Prod.fst x) (pieceN (Prod.snd x))) = (0 : Nat) ∧ y = (0
  : Nat) ∧ (2 : Int) = (0 : Int) ∧ List.length (cutL (Prod.fst x) (pieceN (Prod.snd x))) = (0 : Nat) ∧ True) ∨ cutE (Prod.fst x) (Prod.snd x) ≠ (0 : Int) ∧ (0 : Nat) = (0 : Nat) ∧ (0 : Nat) = (0 : Nat) ∧ (2 : Int) = cutE
  (Prod.fst x) (Prod.snd x) ∧ (0 : Nat) = (0 : Nat) ∧ True ∨ False) ((∃ (x_1 : CX), (CX.n x_1 ≤ cutN (ByteArray.size (Prod.fst x)) (pieceN (Prod.snd x)) ∧ CX.n x_1 ≤ CX.cap x_1) ∧ Prod.fst x = Prod.fst x ∧ Prod.snd x =
  Prod.snd x ∧ CX.n x_1 = (0 : Nat) ∧ CX.cap x_1 = (0 : Nat) ∧ (0 : Int) = (↑(CX.n x_1 * pieceN (Prod.snd x)) : Int) ∧ CX.n x_1 = (0 : Nat) ∧ True) ∧ ∀ (x_1 : CX), CX.n x_1 ≤ cutN (ByteArray.size (Prod.fst x)) (pieceN
  (Prod.snd x)) ∧ CX.n x_1 ≤ CX.cap x_1 → condX (bif (↑(CX.n x_1 * pieceN (Prod.snd x)) : Int) == (0 : Int) then true else decide ((↑(CX.n x_1 * pieceN (Prod.snd x)) : Int) < (↑(ByteArray.size (Prod.fst x)) : Int))) ([SV.g
  (Value.int IntKind.i64 (Prod.snd x))] = [SV.g (Value.int IntKind.i64 (Prod.snd x))] ∧ ((7 : Int) ≤ Prod.snd x ∧ Prod.snd x ≤ (12 : Int)) ∧ (((0 : Int) ≤ if (↑(ByteArray.size (Prod.fst x)) : Int) < IntKind.wrap
  IntKind.i64 ((↑(CX.n x_1 * pieceN (Prod.snd x)) : Int) + (↑(pieceN (Prod.snd x)) : Int)) then (↑(ByteArray.size (Prod.fst x)) : Int) else IntKind.wrap IntKind.i64 ((↑(CX.n x_1 * pieceN (Prod.snd x)) : Int) + (↑(pieceN
  (Prod.snd x)) : Int))) ∧ (if (↑(ByteArray.size (Prod.fst x)) : Int) < IntKind.wrap IntKind.i64 ((↑(CX.n x_1 * pieceN (Prod.snd x)) : Int) + (↑(pieceN (Prod.snd x)) : Int)) then (↑(ByteArray.size (Prod.fst x)) : Int) else
  IntKind.wrap IntKind.i64 ((↑(CX.n x_1 * pieceN (Prod.snd x)) : Int) + (↑(pieceN (Prod.snd x)) : Int))) ≤ (↑(ByteArray.size (Prod.fst x)) : Int)) ∧ ((0 : Int) ≤ (↑(CX.n x_1 * pieceN (Prod.snd x)) : Int) ∧ (↑(CX.n x_1 *
  pieceN (Prod.snd x)) : Int) ≤ if (↑(ByteArray.size (Prod.fst x)) : Int) < IntKind.wrap IntKind.i64 ((↑(CX.n x_1 * pieceN (Prod.snd x)) : Int) + (↑(pieceN (Prod.snd x)) : Int)) then (↑(ByteArray.size (Prod.fst x)) : Int)
  else IntKind.wrap IntKind.i64 ((↑(CX.n x_1 * pieceN (Prod.snd x)) : Int) + (↑(pieceN (Prod.snd x)) : Int))) ∧ (0 : Nat) + CX.n x_1 ≤ CX.n x_1 ∧ (0 : Nat) + CX.cap x_1 ≤ CX.cap x_1 ∧ (CX.n x_1 + (1 : Nat)) * (88 : Nat) ≤
  (140737488355328 : Nat) ∧ ∀ (cap : Nat), CX.n x_1 + (1 : Nat) ≤ cap → [SV.g (Value.int IntKind.i64 (Prod.snd x))] = [SV.g (Value.int IntKind.i64 (Prod.snd x))] ∧ ((7 : Int) ≤ Prod.snd x ∧ Prod.snd x ≤ (12 : Int)) ∧ ∃ (x'
  : CX), (CX.n x' ≤ cutN (ByteArray.size (Prod.fst x)) (pieceN (Prod.snd x)) ∧ CX.n x' ≤ CX.cap x') ∧ cutN (ByteArray.size (Prod.fst x)) (pieceN (Prod.snd x)) - CX.n x' < cutN (ByteArray.size (Prod.fst x)) (pieceN
  (Prod.snd x)) - CX.n x_1 ∧ Prod.fst x = Prod.fst x ∧ Prod.snd x = Prod.snd x ∧ (0 : Nat) = (0 : Nat) ∧ CX.n x_1 + (1 : Nat) = CX.n x' ∧ cap = CX.cap x' ∧ IntKind.wrap IntKind.i64 ((↑(CX.n x_1 * pieceN (Prod.snd x)) :
  Int) + (↑(pieceN (Prod.snd x)) : Int)) = (↑(CX.n x' * pieceN (Prod.snd x)) : Int) ∧ CX.n x' ≤ CX.n x_1 + (1 : Nat) ∧ CX.n x' ≤ CX.cap x' ∧ CX.cap x' ≤ cap ∧ (∀ (j : Nat), j < CX.n x' → appRows (0 : Nat) (0 : Nat) (CX.n
  x_1) (urow (cutL (Prod.fst x) (pieceN (Prod.snd x)))) (fun (j : Nat) => List.take (10 : Nat) (List.drop (j * (10 : Nat)) [SV.g (Value.int IntKind.i64 (5 : Int)), SV.g (Value.int IntKind.i64 (0 : Int)), SV.g (Value.int
  IntKind.i64 (0 : Int)), SV.g (Value.int IntKind.i64 (0 : Int)), SV.g (Value.int IntKind.i64 (0 : Int)), SV.g (Value.int IntKind.i64 (↑(CX.n x_1) : Int)), SV.g (Value.int IntKind.i64 (0 : Int)), SV.g (Value.int
  IntKind.i64 (0 : Int)), SV.g (Value.bool ((if (↑(ByteArray.size (Prod.fst x)) : Int) < IntKind.wrap IntKind.i64 ((↑(CX.n x_1 * pieceN (Prod.snd x)) : Int) + (↑(pieceN (Prod.snd x)) : Int)) then (↑(ByteArray.size
  (Prod.fst x)) : Int) else IntKind.wrap IntKind.i64 ((↑(CX.n x_1 * pieceN (Prod.snd x)) : Int) + (↑(pieceN (Prod.snd x)) : Int))) == (↑(ByteArray.size (Prod.fst x)) : Int))), SV.g (Value.string (ByteArray.extract
  (Prod.fst x) (Int.toNat (↑(CX.n x_1 * pieceN (Prod.snd x)) : Int)) (Int.toNat (if (↑(ByteArray.size (Prod.fst x)) : Int) < IntKind.wrap IntKind.i64 ((↑(CX.n x_1 * pieceN (Prod.snd x)) : Int) + (↑(pieceN (Prod.snd x)) :
  Int)) then (↑(ByteArray.size (Prod.fst x)) : Int) else IntKind.wrap IntKind.i64 ((↑(CX.n x_1 * pieceN (Prod.snd x)) : Int) + (↑(pieceN (Prod.snd x)) : Int))))))])) j = urow (cutL (Prod.fst x) (pieceN (Prod.snd x))) j ∧
  true = true) ∧ True) ((∃ (y : Nat), (cutE (Prod.fst x) (Prod.snd x) = (0 : Int) ∧ List.length (cutL (Prod.fst x) (pieceN (Prod.snd x))) ≤ y) ∧ (0 : Nat) = (0 : Nat) ∧ CX.n x_1 = List.length (cutL (Prod.fst x) (pieceN
  (Prod.snd x))) ∧ CX.cap x_1 = y ∧ (0 : Int) = (0 : Int) ∧ List.length (cutL (Prod.fst x) (pieceN (Prod.snd x))) ≤ CX.n x_1 ∧ List.length (cutL (Prod.fst x) (pieceN (Prod.snd x))) ≤ y ∧ y ≤ CX.cap x_1 ∧ (∀ (j : Nat), j <
  List.length (cutL (Prod.fst x) (pieceN (Prod.snd x))) → urow (cutL (Prod.fst x) (pieceN (Prod.snd x))) j = urow (cutL (Prod.fst x) (pieceN (Prod.snd x))) j ∧ true = true) ∧ True) ∨ cutE (Prod.fst x) (Prod.snd x) ≠ (0 :
  Int) ∧ (0 : Nat) = (0 : Nat) ∧ CX.n x_1 = (0 : Nat) ∧ CX.cap x_1 = (0 : Nat) ∧ (0 : Int) = cutE (Prod.fst x) (Prod.snd x) ∧ (0 : Nat) ≤ CX.n x_1 ∧ (0 : Nat) ≤ (0 : Nat) ∧ (0 : Nat) ≤ CX.cap x_1 ∧ (∀ (j : Nat), j < (0 :
  Nat) → urow (cutL (Prod.fst x) (pieceN (Prod.snd x))) j = urow [] j ∧ true = true) ∧ True ∨ False)))
def VcRCutS : Prop := ∀ (x : ByteArray × Int), True → fnX (cx_rCut x) (bodyOf Try.f21) Try.f21.results.toList (C_rCut.args x) (C_rCut.H x) (endX 0 (C_rCut.outs x))
theorem vcRCutE : VcRCut = VcRCutS := by kernel_rfl
set_option maxHeartbeats 4000000 in
theorem vcRCut : VcRCut := by
  rintro ⟨b, size⟩ _
  simp only [eq_self, true_and, and_true, Nat.le_refl, Int.le_refl, implies_true, forall_const, and_false, false_and, exists_false, false_or, or_false, true_implies, Nat.zero_add, and_self, Int.toNat_natCast, cond_true, cond_false]
  refine (condX_iff _ _ _).2 ⟨fun h => Or.inr ?_, fun h => (condX_iff _ _ _).2 ⟨fun h2 => Or.inr ?_, fun h2 => ?_⟩⟩
  · have h : size < 7 ∨ 12 < size := by simpa [Bool.cond_eq_ite] using h
    have e : cutE b size = 1 := by unfold cutE; rw [if_pos h]
    exact ⟨by rw [e]; decide, e.symm⟩
  · have h : ¬ (size < 7 ∨ 12 < size) := by simp [Bool.cond_eq_ite] at h; omega
    have h2 := of_decide_eq_true h2
    have e : cutE b size = 2 := by unfold cutE; rw [if_neg h, if_pos (by omega)]
    exact ⟨by rw [e]; decide, e.symm⟩
  have h : ¬ (size < 7 ∨ 12 < size) := by simp [Bool.cond_eq_ite] at h; omega
  have h2 := of_decide_eq_false h2
  have hE : cutE b size = 0 := by unfold cutE; rw [if_neg h, if_neg (by omega)]
  obtain ⟨f1, f2, f3, f4, f5⟩ := piece_facts (size := size) (by omega)
  generalize pieceN size = p at *
  have hp : 0 < p := by omega
  refine ⟨⟨⟨0, 0⟩, ?_⟩, fun x hx => ?_⟩
  · dsimp only
    and_intros <;> first | omega | with_reducible rfl | (simp; done)
  · obtain ⟨n, cap⟩ := x
    obtain ⟨h1, h3⟩ := hx
    dsimp only at h1 h3 ⊢
    have hlen := cutL_len b p
    refine (condX_iff _ _ _).2 ⟨fun hc => ?_, fun hc => ?_⟩
    · have hc : n * p = 0 ∨ n * p < b.size := by
        simp only [bor0, Bool.or_eq_true, beq_iff_eq, decide_eq_true_eq] at hc
        omega
      have hn : n < cutN b.size p := by
        rw [cutN_iff hp]
        rcases hc with hc | hc
        · have : n = 0 := by
            rcases Nat.mul_eq_zero.1 hc with h | h
            · exact h
            · omega
          subst this; simp
        · omega
      have hnp := (cutN_iff hp).1 hn
      have e0 : (n + 1) * p = n * p + p := Nat.succ_mul n p
      have hle : n ≤ n * p := Nat.le_mul_of_pos_right n hp
      have hb0 : n * p ≤ b.size := by
        rcases hc with hc | hc <;> omega
      have hw : IntKind.i64.wrap (((n * p : Nat) : Int) + (p : Int)) = ((n * p + p : Nat) : Int) := by rw [wrap1 (by omega) (by omega)]; omega
      have hq : (if (b.size : Int) < ((n * p + p : Nat) : Int) then (b.size : Int) else ((n * p + p : Nat) : Int)) = ((min (n * p + p) b.size : Nat) : Int) := by split <;> omega
      have hN : n + 1 < cutN b.size p ↔ n * p + p < b.size := by rw [cutN_iff hp, e0]; simp
      have hend : (((min (n * p + p) b.size : Nat) : Int) == (b.size : Int)) = decide (n + 1 = cutN b.size p) := by
        rw [Bool.eq_iff_iff]
        simp only [beq_iff_eq, decide_eq_true_eq]
        omega
      rw [hw, hq, hend]
      simp only [Int.toNat_natCast]
      refine ⟨by omega, ⟨by omega, by omega⟩, ⟨by omega, by omega⟩, by omega, fun cap' hcap => ⟨by omega, ⟨n + 1, cap'⟩, ?_⟩⟩
      dsimp only
      rw [e0]
      and_intros <;> first | omega | with_reducible rfl | skip
      intro j hj
      rw [appRows0]
      split
      · rfl
      · have : j = n := by omega
        subst this
        rw [urow_cutL hn, Nat.sub_self]; rfl
    · have hc : ¬ (n * p = 0) ∧ ¬ n * p < b.size := by
        simp only [bor0, Bool.or_eq_false_iff, beq_eq_false_iff_ne, decide_eq_false_iff_not] at hc
        omega
      have hn : ¬ n < cutN b.size p := by
        rw [cutN_iff hp]
        have : n ≠ 0 := fun e => hc.1 (by rw [e, Nat.zero_mul])
        rw [if_neg this]; omega
      refine Or.inl ⟨cap, ⟨hE, by omega⟩, ?_⟩
      and_intros <;> first | omega | with_reducible rfl
theorem vcRCutK : ∀ (x : ByteArray × Int), True → Held (fnX (cx_rCut x) (bodyOf Try.f21) Try.f21.results.toList (C_rCut.args x) (C_rCut.H x) (endX 0 (C_rCut.outs x))) := held2 (p := fun (x : ByteArray × Int) (_ : True) => fnX (cx_rCut x) (bodyOf Try.f21) Try.f21.results.toList (C_rCut.args x) (C_rCut.H x) (endX 0 (C_rCut.outs x))) vcRCutE vcRCut
end Go.Proofs.Ytmblefpbfpjneaa
