/- Chapter 15: the law of Cut, walked. -/
import Derived.Test.YtmblefpbfpjneaaR
set_option linter.unusedVariables false
set_option linter.unusedSimpArgs false
namespace Go.Proofs.Ytmblefpbfpjneaa
open Go Go.Eng
attribute [local irreducible] condX
/-! ### the law of Cut -/
theorem condX_t (p q : Prop) : condX true p q = p := propext ⟨fun h => ((condX_iff _ _ _).1 h).1 rfl, fun h => (condX_iff _ _ _).2 ⟨fun _ => h, fun h => Bool.noConfusion h⟩⟩
theorem condX_f (p q : Prop) : condX false p q = q := propext ⟨fun h => ((condX_iff _ _ _).1 h).2 rfl, fun h => (condX_iff _ _ _).2 ⟨fun h => Bool.noConfusion h, fun _ => h⟩⟩
theorem cutE_zero {b : ByteArray} {size : Int} (h : cutE b size = 0) : (7 ≤ size ∧ size ≤ 12) ∧ b.size ≤ 16000 := by
  unfold cutE at h
  split at h
  · cases h
  · split at h
    · cases h
    · omega
structure CF (b c : ByteArray) (A B : List U) (k : Nat) : Prop where
  la : 1 ≤ A.length ∧ A.length ≤ 126
  lb : 1 ≤ B.length ∧ B.length ≤ 126
  j1 : jUs (A ++ B) = ([b, c], ⟨#[]⟩)
  o1 : jOK (A ++ B) = True
  j2 : jUs (A ++ B.take (B.length - 1)) = ([b], c.extract 0 k)
  o2 : jOK (A ++ B.take (B.length - 1)) = True
  lk : k ≤ c.size
theorem cut_facts {b c : ByteArray} {size : Int} (hb : cutE b size = 0) (hc : cutE c size = 0) : CF b c (cutL b (pieceN size)) (cutL c (pieceN size)) ((cutN c.size (pieceN size) - 1) * pieceN size) := by
  obtain ⟨h1, h2⟩ := cutE_zero hb
  obtain ⟨_, h3⟩ := cutE_zero hc
  obtain ⟨f1, f2, f3, f4, f5⟩ := piece_facts h1
  have a1 := cut_all ⟨f4, f5⟩ h2 []
  have a2 := cut_all ⟨f4, f5⟩ h3 [b]
  obtain ⟨a3, a4⟩ := cut_most ⟨f4, f5⟩ h3 [b]
  have l1 := cutL_len b (pieceN size)
  have l2 := cutL_len c (pieceN size)
  have n1 := cutN_pos (m := b.size) (p := pieceN size) (by omega)
  have n2 := cutN_pos (m := c.size) (p := pieceN size) (by omega)
  have n3 := cutN_hi (m := b.size) (p := pieceN size) (by omega) h2
  have n4 := cutN_hi (m := c.size) (p := pieceN size) (by omega) h3
  have e1 : joinF ([], ⟨#[]⟩) (cutL b (pieceN size) ++ cutL c (pieceN size)) = some ([b, c], ⟨#[]⟩) := by rw [joinF_app, a1]; exact a2
  have e2 : joinF ([], ⟨#[]⟩) (cutL b (pieceN size) ++ (cutL c (pieceN size)).take ((cutL c (pieceN size)).length - 1)) = some ([b], c.extract 0 ((cutN c.size (pieceN size) - 1) * pieceN size)) := by rw [joinF_app, a1]; exact a3
  refine ⟨by omega, by omega, ?_, ?_, ?_, ?_, a4⟩
  · unfold jUs; rw [e1, Option.getD_some]
  · unfold jOK; rw [e1]; simp
  · unfold jUs; rw [e2, Option.getD_some]
  · unfold jOK; rw [e2]; simp
def vcTpduCutsA0 (b c : ByteArray) (size : Int) := (fun (j : Nat) => uRow [SV.g (Value.int IntKind.i64 (U.k (List.getD (cutL c (pieceN size)) (j - (0 : Nat)) uZero))), SV.g (Value.int IntKind.i64 (U.to (List.getD (cutL c (pieceN size)) (j - (0 : Nat)) uZero))), SV.g
  (Value.int IntKind.i64 (U.fr (List.getD (cutL c (pieceN size)) (j - (0 : Nat)) uZero))), SV.g (Value.int IntKind.i64 (U.cl (List.getD (cutL c (pieceN size)) (j - (0 : Nat)) uZero))), SV.g (Value.int IntKind.i64 (U.sz
  (List.getD (cutL c (pieceN size)) (j - (0 : Nat)) uZero))), SV.g (Value.int IntKind.i64 (U.nu (List.getD (cutL c (pieceN size)) (j - (0 : Nat)) uZero))), SV.g (Value.int IntKind.i64 (U.cr (List.getD (cutL c (pieceN
  size)) (j - (0 : Nat)) uZero))), SV.g (Value.int IntKind.i64 (U.re (List.getD (cutL c (pieceN size)) (j - (0 : Nat)) uZero))), SV.g (Value.bool (U.e (List.getD (cutL c (pieceN size)) (j - (0 : Nat)) uZero))), SV.g
  (Value.string (U.d (List.getD (cutL c (pieceN size)) (j - (0 : Nat)) uZero)))])
def vcTpduCutsA1 (b c : ByteArray) (size : Int) := (appRows (0 : Nat) (0 : Nat) (0 : Nat) (fun (j : Nat) => List.take (10 : Nat) (List.drop (j * (10 : Nat)) [])) fun (j : Nat) => urow (List.map (fun (j : Nat) => uRow (urow (cutL b (pieceN size)) j)) (List.range
  (List.length (cutL b (pieceN size))))) j)
def vcTpduCutsA2 (b c : ByteArray) (size : Int) := (List.map (fun (j : Nat) => uRow (appRows (0 : Nat) (0 : Nat) ((0 : Nat) + List.length (cutL b (pieceN size))) (vcTpduCutsA1 b c size) (fun (j : Nat) => urow [] j) j)) (List.range ((0 : Nat) + List.length (cutL b (pieceN
  size)) + (0 : Nat))))
def vcTpduCutsA3 (b c : ByteArray) (size : Int) := (List.map (fun (j : Nat) => uRow (appRows (0 : Nat) (0 : Nat) ((0 : Nat) + List.length (cutL b (pieceN size))) (vcTpduCutsA1 b c size) (fun (j : Nat) => urow (cutL c (pieceN size)) j) j)) (List.range ((0 : Nat) +
  List.length (cutL b (pieceN size)) + List.length (cutL c (pieceN size)))))
def vcTpduCutsA4 (b c : ByteArray) (size : Int) := (List.map (fun (j : Nat) => uRow (appRows (0 : Nat) (0 : Nat) ((0 : Nat) + List.length (cutL b (pieceN size))) (vcTpduCutsA1 b c size) (fun (j : Nat) => urow (cutL c (pieceN size)) j) j)) (List.range ((0 : Nat) +
  List.length (cutL b (pieceN size)) + (Int.toNat (IntKind.wrap IntKind.i64 ((↑(List.length (cutL c (pieceN size))) : Int) - (1 : Int))) - (0 : Nat)))))
def vcTpduCutsA5 (b c : ByteArray) (size : Int) := (List.map (fun (j : Nat) => uRow (urow (cutL b (pieceN size)) j)) (List.range (List.length (cutL b (pieceN size)))))
def vcTpduCutsA6 (b c : ByteArray) (size : Int) := (List.map (vcTpduCutsA0 b c size) (List.range ((0 : Nat) + (Int.toNat (IntKind.wrap IntKind.i64 ((↑(List.length (cutL c (pieceN size))) : Int) - (1 : Int))) - (0 : Nat)))))
def vcTpduCutsA7 (b c : ByteArray) (size : Int) := (List.map (vcTpduCutsA0 b c size) (List.range ((0 : Nat) + List.length (cutL c (pieceN size)))))
def vcTpduCutsA8 (b c : ByteArray) (size : Int) := (∀ (j : Nat), j < (2 : Nat) → [SV.g (Value.string (List.getD [b, c] j ByteArray.empty))] = srow [sRow [SV.g (Value.string (List.getD [b, c] (0 : Nat) ByteArray.empty))], sRow [SV.g (Value.string (List.getD [b, c] (1 :
  Nat) ByteArray.empty))]] j ∧ true = true)
def vcTpduCutsA9 (b c : ByteArray) (size : Int) := (List.map (fun (j : Nat) => sRow (srow (Prod.fst (jUs (vcTpduCutsA3 b c size))) j)) (List.range (List.length (Prod.fst (jUs (vcTpduCutsA3 b c size))))))
def vcTpduCutsA10 (b c : ByteArray) (size : Int) := (List.map (fun (j : Nat) => sRow (srow (Prod.fst (jUs (vcTpduCutsA2 b c size))) j)) (List.range (List.length (Prod.fst (jUs (vcTpduCutsA2 b c size))))))
def VcTpduCuts : Prop := ∀ (b c : ByteArray) (size : Int), b = b ∧ size = size ∧ True ∧ (∀ (y : Nat), cutE b size = (0 : Int) ∧ List.length (cutL b (pieceN size)) ≤ y → b = b ∧ size = size ∧ True ∧ (∀ (y_1 : Nat), cutE b size = (0 : Int) ∧
  List.length (cutL b (pieceN size)) ≤ y_1 → (0 : Nat) = (0 : Nat) ∧ List.length (cutL b (pieceN size)) = List.length (vcTpduCutsA5 b c size) ∧ y = y ∧ List.length (vcTpduCutsA5 b c size) ≤ List.length (cutL b (pieceN
  size)) ∧ List.length (vcTpduCutsA5 b c size) ≤ y ∧ y ≤ y ∧ (∀ (j : Nat), j < List.length (vcTpduCutsA5 b c size) → urow (cutL b (pieceN size)) j = urow (vcTpduCutsA5 b c size) j ∧ true = true) ∧ (List.length
  (vcTpduCutsA5 b c size) ≤ (1000 : Nat) ∧ List.length (vcTpduCutsA5 b c size) ≤ y) ∧ ∀ (y : Nat), List.length (vcTpduCutsA5 b c size) ≤ y → (0 : Nat) = (0 : Nat) ∧ List.length (vcTpduCutsA5 b c size) = List.length
  (List.map (fun (j : Nat) => uRow (urow (vcTpduCutsA5 b c size) j)) (List.range (List.length (vcTpduCutsA5 b c size)))) ∧ y = y ∧ (0 : Nat) = (0 : Nat) ∧ List.length (cutL b (pieceN size)) = List.length (vcTpduCutsA5 b c
  size) ∧ y_1 = y_1 ∧ List.length (List.map (fun (j : Nat) => uRow (urow (vcTpduCutsA5 b c size) j)) (List.range (List.length (vcTpduCutsA5 b c size)))) ≤ List.length (vcTpduCutsA5 b c size) ∧ List.length (List.map (fun (j
  : Nat) => uRow (urow (vcTpduCutsA5 b c size) j)) (List.range (List.length (vcTpduCutsA5 b c size)))) ≤ y ∧ y ≤ y ∧ (∀ (j : Nat), j < List.length (List.map (fun (j : Nat) => uRow (urow (vcTpduCutsA5 b c size) j))
  (List.range (List.length (vcTpduCutsA5 b c size)))) → urow (vcTpduCutsA5 b c size) j = urow (List.map (fun (j : Nat) => uRow (urow (vcTpduCutsA5 b c size) j)) (List.range (List.length (vcTpduCutsA5 b c size)))) j ∧ true
  = true) ∧ List.length (vcTpduCutsA5 b c size) ≤ List.length (cutL b (pieceN size)) ∧ List.length (vcTpduCutsA5 b c size) ≤ y_1 ∧ y_1 ≤ y_1 ∧ (∀ (j : Nat), j < List.length (vcTpduCutsA5 b c size) → urow (cutL b (pieceN
  size)) j = urow (vcTpduCutsA5 b c size) j ∧ true = true) ∧ (List.length (List.map (fun (j : Nat) => uRow (urow (vcTpduCutsA5 b c size) j)) (List.range (List.length (vcTpduCutsA5 b c size)))) ≤ (1000 : Nat) ∧ List.length
  (List.map (fun (j : Nat) => uRow (urow (vcTpduCutsA5 b c size) j)) (List.range (List.length (vcTpduCutsA5 b c size)))) ≤ y ∧ List.length (vcTpduCutsA5 b c size) ≤ y_1) ∧ (True → condX (bif false then true else !decide
  (List.map (fun (j : Nat) => uRow (urow (vcTpduCutsA5 b c size) j)) (List.range (List.length (vcTpduCutsA5 b c size))) = List.map (fun (j : Nat) => uRow (urow (cutL b (pieceN size)) j)) (List.range (List.length (cutL b
  (pieceN size)))))) (SV.g (Value.bool false) = SV.g (Value.bool true)) (c = c ∧ size = size ∧ True ∧ (∀ (y : Nat), cutE c size = (0 : Int) ∧ List.length (cutL c (pieceN size)) ≤ y → (0 : Nat) + List.length (cutL b (pieceN
  size)) ≤ List.length (vcTpduCutsA5 b c size) ∧ (∀ (j : Nat), j < List.length (cutL b (pieceN size)) → true = true) ∧ (0 : Nat) ≤ (0 : Nat) ∧ (0 : Nat) ≤ (0 : Nat) ∧ ((0 : Nat) + List.length (cutL b (pieceN size))) * (88
  : Nat) ≤ (140737488355328 : Nat) ∧ ∀ (cap : Nat), (0 : Nat) + List.length (cutL b (pieceN size)) ≤ cap → (0 : Nat) + List.length (cutL c (pieceN size)) ≤ List.length (cutL c (pieceN size)) ∧ (∀ (j : Nat), j < List.length
  (cutL c (pieceN size)) → true = true) ∧ (0 : Nat) + ((0 : Nat) + List.length (cutL b (pieceN size))) ≤ (0 : Nat) + List.length (cutL b (pieceN size)) ∧ (0 : Nat) + cap ≤ cap ∧ ((0 : Nat) + List.length (cutL b (pieceN
  size)) + List.length (cutL c (pieceN size))) * (88 : Nat) ≤ (140737488355328 : Nat) ∧ ∀ (cap : Nat), (0 : Nat) + List.length (cutL b (pieceN size)) + List.length (cutL c (pieceN size)) ≤ cap → (0 : Nat) = (0 : Nat) ∧ (0
  : Nat) + List.length (cutL b (pieceN size)) + List.length (cutL c (pieceN size)) = List.length (vcTpduCutsA3 b c size) ∧ cap = cap ∧ List.length (vcTpduCutsA3 b c size) ≤ (0 : Nat) + List.length (cutL b (pieceN size)) +
  List.length (cutL c (pieceN size)) ∧ List.length (vcTpduCutsA3 b c size) ≤ cap ∧ cap ≤ cap ∧ (∀ (j : Nat), j < List.length (vcTpduCutsA3 b c size) → appRows (0 : Nat) (0 : Nat) ((0 : Nat) + List.length (cutL b (pieceN
  size))) (vcTpduCutsA1 b c size) (fun (j : Nat) => urow (cutL c (pieceN size)) j) j = urow (vcTpduCutsA3 b c size) j ∧ true = true) ∧ (List.length (vcTpduCutsA3 b c size) ≤ (1000 : Nat) ∧ List.length (vcTpduCutsA3 b c
  size) ≤ cap) ∧ (∀ (y_2 : Nat), jOK (vcTpduCutsA3 b c size) ∧ List.length (Prod.fst (jUs (vcTpduCutsA3 b c size))) ≤ y_2 → condX (!bif false then true else !decide (Prod.snd (jUs (vcTpduCutsA3 b c size)) = ByteArray.mk
  #[])) (condX (!bif false then true else !decide (Prod.snd (jUs (vcTpduCutsA3 b c size)) = ByteArray.mk #[])) ((0 : Nat) = (0 : Nat) ∧ List.length (Prod.fst (jUs (vcTpduCutsA3 b c size))) = List.length (vcTpduCutsA9 b c
  size) ∧ y_2 = y_2 ∧ (0 : Nat) = (0 : Nat) ∧ (2 : Nat) = (2 : Nat) ∧ (2 : Nat) = (2 : Nat) ∧ List.length (vcTpduCutsA9 b c size) ≤ List.length (Prod.fst (jUs (vcTpduCutsA3 b c size))) ∧ List.length (vcTpduCutsA9 b c size)
  ≤ y_2 ∧ y_2 ≤ y_2 ∧ (∀ (j : Nat), j < List.length (vcTpduCutsA9 b c size) → srow (Prod.fst (jUs (vcTpduCutsA3 b c size))) j = srow (vcTpduCutsA9 b c size) j ∧ true = true) ∧ (2 : Nat) ≤ (2 : Nat) ∧ (2 : Nat) ≤ (2 : Nat)
  ∧ (2 : Nat) ≤ (2 : Nat) ∧ (vcTpduCutsA8 b c size) ∧ (List.length (vcTpduCutsA9 b c size) ≤ (100000 : Nat) ∧ List.length (vcTpduCutsA9 b c size) ≤ y_2 ∧ (2 : Nat) ≤ (2 : Nat)) ∧ (True → condX (bif bif false then true else
  !decide (Prod.snd (jUs (vcTpduCutsA3 b c size)) = ByteArray.mk #[]) then true else !decide (List.map (fun (j : Nat) => sRow (srow (Prod.fst (jUs (vcTpduCutsA3 b c size))) j)) (List.range (List.length (Prod.fst (jUs
  (vcTpduCutsA3 b c size))))) = [sRow [SV.g (Value.string (List.getD [b, c] (0 : Nat) ByteArray.empty))], sRow [SV.g (Value.string (List.getD [b, c] (1 : Nat) ByteArray.empty))]])) (SV.g (Value.bool false) = SV.g
  (Value.bool true)) (((0 : Int) ≤ IntKind.wrap IntKind.i64 ((↑(List.length (cutL c (pieceN size))) : Int) - (1 : Int)) ∧ IntKind.wrap IntKind.i64 ((↑(List.length (cutL c (pieceN size))) : Int) - (1 : Int)) ≤ (↑y : Int)) ∧
  (0 : Nat) + List.length (cutL b (pieceN size)) ≤ List.length (vcTpduCutsA5 b c size) ∧ (∀ (j : Nat), j < List.length (cutL b (pieceN size)) → true = true) ∧ (0 : Nat) ≤ (0 : Nat) ∧ (0 : Nat) ≤ (0 : Nat) ∧ ((0 : Nat) +
  List.length (cutL b (pieceN size))) * (88 : Nat) ≤ (140737488355328 : Nat) ∧ ∀ (cap : Nat), (0 : Nat) + List.length (cutL b (pieceN size)) ≤ cap → (0 : Nat) + (Int.toNat (IntKind.wrap IntKind.i64 ((↑(List.length (cutL c
  (pieceN size))) : Int) - (1 : Int))) - (0 : Nat)) ≤ List.length (cutL c (pieceN size)) ∧ (∀ (j : Nat), j < Int.toNat (IntKind.wrap IntKind.i64 ((↑(List.length (cutL c (pieceN size))) : Int) - (1 : Int))) - (0 : Nat) →
  true = true) ∧ (0 : Nat) + ((0 : Nat) + List.length (cutL b (pieceN size))) ≤ (0 : Nat) + List.length (cutL b (pieceN size)) ∧ (0 : Nat) + cap ≤ cap ∧ ((0 : Nat) + List.length (cutL b (pieceN size)) + (Int.toNat
  (IntKind.wrap IntKind.i64 ((↑(List.length (cutL c (pieceN size))) : Int) - (1 : Int))) - (0 : Nat))) * (88 : Nat) ≤ (140737488355328 : Nat) ∧ ∀ (cap : Nat), (0 : Nat) + List.length (cutL b (pieceN size)) + (Int.toNat
  (IntKind.wrap IntKind.i64 ((↑(List.length (cutL c (pieceN size))) : Int) - (1 : Int))) - (0 : Nat)) ≤ cap → (0 : Nat) = (0 : Nat) ∧ (0 : Nat) + List.length (cutL b (pieceN size)) + (Int.toNat (IntKind.wrap IntKind.i64
  ((↑(List.length (cutL c (pieceN size))) : Int) - (1 : Int))) - (0 : Nat)) = List.length (vcTpduCutsA4 b c size) ∧ cap = cap ∧ List.length (vcTpduCutsA4 b c size) ≤ (0 : Nat) + List.length (cutL b (pieceN size)) +
  (Int.toNat (IntKind.wrap IntKind.i64 ((↑(List.length (cutL c (pieceN size))) : Int) - (1 : Int))) - (0 : Nat)) ∧ List.length (vcTpduCutsA4 b c size) ≤ cap ∧ cap ≤ cap ∧ (∀ (j : Nat), j < List.length (vcTpduCutsA4 b c
  size) → appRows (0 : Nat) (0 : Nat) ((0 : Nat) + List.length (cutL b (pieceN size))) (vcTpduCutsA1 b c size) (fun (j : Nat) => urow (cutL c (pieceN size)) j) j = urow (vcTpduCutsA4 b c size) j ∧ true = true) ∧
  (List.length (vcTpduCutsA4 b c size) ≤ (1000 : Nat) ∧ List.length (vcTpduCutsA4 b c size) ≤ cap) ∧ (∀ (y : Nat), jOK (vcTpduCutsA4 b c size) ∧ List.length (Prod.fst (jUs (vcTpduCutsA4 b c size))) ≤ y → ((bif bif true
  then (↑(List.length (Prod.fst (jUs (vcTpduCutsA4 b c size)))) : Int) == (1 : Int) else false then decide ((↑(ByteArray.size (Prod.snd (jUs (vcTpduCutsA4 b c size)))) : Int) ≤ (↑(ByteArray.size c) : Int)) else false) =
  true → (0 : Int) ≤ (↑(ByteArray.size (Prod.snd (jUs (vcTpduCutsA4 b c size)))) : Int) ∧ (↑(ByteArray.size (Prod.snd (jUs (vcTpduCutsA4 b c size)))) : Int) ≤ (↑(ByteArray.size c) : Int)) ∧ ((bif bif bif true then
  (↑(List.length (Prod.fst (jUs (vcTpduCutsA4 b c size)))) : Int) == (1 : Int) else false then decide ((↑(ByteArray.size (Prod.snd (jUs (vcTpduCutsA4 b c size)))) : Int) ≤ (↑(ByteArray.size c) : Int)) else false then
  decide (Prod.snd (jUs (vcTpduCutsA4 b c size)) = ByteArray.extract c (0 : Nat) (Int.toNat (↑(ByteArray.size (Prod.snd (jUs (vcTpduCutsA4 b c size)))) : Int))) else false) = true → True) ∧ SV.g (Value.bool (bif bif bif
  bif true then (↑(List.length (Prod.fst (jUs (vcTpduCutsA4 b c size)))) : Int) == (1 : Int) else false then decide ((↑(ByteArray.size (Prod.snd (jUs (vcTpduCutsA4 b c size)))) : Int) ≤ (↑(ByteArray.size c) : Int)) else
  false then decide (Prod.snd (jUs (vcTpduCutsA4 b c size)) = ByteArray.extract c (0 : Nat) (Int.toNat (↑(ByteArray.size (Prod.snd (jUs (vcTpduCutsA4 b c size)))) : Int))) else false then true else false)) = SV.g
  (Value.bool true)) ∧ (¬jOK (vcTpduCutsA4 b c size) → (false = true → (0 : Int) ≤ (0 : Int) ∧ (0 : Int) ≤ (↑(ByteArray.size c) : Int)) ∧ (false = true → True) ∧ SV.g (Value.bool false) = SV.g (Value.bool true))))) (condX
  (!bif false then true else !decide (Prod.snd (jUs (vcTpduCutsA3 b c size)) = ByteArray.mk #[])) False ((bif false then true else !decide (Prod.snd (jUs (vcTpduCutsA3 b c size)) = ByteArray.mk #[])) = true ∧ SV.g
  (Value.bool false) = SV.g (Value.bool true)))) (condX (!bif false then true else !decide (Prod.snd (jUs (vcTpduCutsA3 b c size)) = ByteArray.mk #[])) False (condX (!bif false then true else !decide (Prod.snd (jUs
  (vcTpduCutsA3 b c size)) = ByteArray.mk #[])) False ((bif false then true else !decide (Prod.snd (jUs (vcTpduCutsA3 b c size)) = ByteArray.mk #[])) = true ∧ SV.g (Value.bool false) = SV.g (Value.bool true))))) ∧ (¬jOK
  (vcTpduCutsA3 b c size) → true = true ∧ SV.g (Value.bool false) = SV.g (Value.bool true))) ∧ (cutE c size ≠ (0 : Int) → condX (cutE c size != (0 : Int)) (True ∧ SV.g (Value.bool true) = SV.g (Value.bool true)) ((0 : Nat)
  + List.length (cutL b (pieceN size)) ≤ List.length (vcTpduCutsA5 b c size) ∧ (∀ (j : Nat), j < List.length (cutL b (pieceN size)) → true = true) ∧ (0 : Nat) ≤ (0 : Nat) ∧ (0 : Nat) ≤ (0 : Nat) ∧ ((0 : Nat) + List.length
  (cutL b (pieceN size))) * (88 : Nat) ≤ (140737488355328 : Nat) ∧ ∀ (cap : Nat), (0 : Nat) + List.length (cutL b (pieceN size)) ≤ cap → (0 : Nat) ≤ (0 : Nat) ∧ (∀ (j : Nat), j < (0 : Nat) → true = true) ∧ (0 : Nat) + ((0
  : Nat) + List.length (cutL b (pieceN size))) ≤ (0 : Nat) + List.length (cutL b (pieceN size)) ∧ (0 : Nat) + cap ≤ cap ∧ ((0 : Nat) + List.length (cutL b (pieceN size)) + (0 : Nat)) * (88 : Nat) ≤ (140737488355328 : Nat)
  ∧ ∀ (cap : Nat), (0 : Nat) + List.length (cutL b (pieceN size)) + (0 : Nat) ≤ cap → (0 : Nat) = (0 : Nat) ∧ (0 : Nat) + List.length (cutL b (pieceN size)) + (0 : Nat) = List.length (vcTpduCutsA2 b c size) ∧ cap = cap ∧
  List.length (vcTpduCutsA2 b c size) ≤ (0 : Nat) + List.length (cutL b (pieceN size)) + (0 : Nat) ∧ List.length (vcTpduCutsA2 b c size) ≤ cap ∧ cap ≤ cap ∧ (∀ (j : Nat), j < List.length (vcTpduCutsA2 b c size) → appRows
  (0 : Nat) (0 : Nat) ((0 : Nat) + List.length (cutL b (pieceN size))) (vcTpduCutsA1 b c size) (fun (j : Nat) => urow [] j) j = urow (vcTpduCutsA2 b c size) j ∧ true = true) ∧ (List.length (vcTpduCutsA2 b c size) ≤ (1000 :
  Nat) ∧ List.length (vcTpduCutsA2 b c size) ≤ cap) ∧ (∀ (y : Nat), jOK (vcTpduCutsA2 b c size) ∧ List.length (Prod.fst (jUs (vcTpduCutsA2 b c size))) ≤ y → condX (!bif false then true else !decide (Prod.snd (jUs
  (vcTpduCutsA2 b c size)) = ByteArray.mk #[])) (condX (!bif false then true else !decide (Prod.snd (jUs (vcTpduCutsA2 b c size)) = ByteArray.mk #[])) ((0 : Nat) = (0 : Nat) ∧ List.length (Prod.fst (jUs (vcTpduCutsA2 b c
  size))) = List.length (vcTpduCutsA10 b c size) ∧ y = y ∧ (0 : Nat) = (0 : Nat) ∧ (2 : Nat) = (2 : Nat) ∧ (2 : Nat) = (2 : Nat) ∧ List.length (vcTpduCutsA10 b c size) ≤ List.length (Prod.fst (jUs (vcTpduCutsA2 b c size)))
  ∧ List.length (vcTpduCutsA10 b c size) ≤ y ∧ y ≤ y ∧ (∀ (j : Nat), j < List.length (vcTpduCutsA10 b c size) → srow (Prod.fst (jUs (vcTpduCutsA2 b c size))) j = srow (vcTpduCutsA10 b c size) j ∧ true = true) ∧ (2 : Nat) ≤
  (2 : Nat) ∧ (2 : Nat) ≤ (2 : Nat) ∧ (2 : Nat) ≤ (2 : Nat) ∧ (vcTpduCutsA8 b c size) ∧ (List.length (vcTpduCutsA10 b c size) ≤ (100000 : Nat) ∧ List.length (vcTpduCutsA10 b c size) ≤ y ∧ (2 : Nat) ≤ (2 : Nat)) ∧ (True →
  condX (bif bif false then true else !decide (Prod.snd (jUs (vcTpduCutsA2 b c size)) = ByteArray.mk #[]) then true else !decide (List.map (fun (j : Nat) => sRow (srow (Prod.fst (jUs (vcTpduCutsA2 b c size))) j))
  (List.range (List.length (Prod.fst (jUs (vcTpduCutsA2 b c size))))) = [sRow [SV.g (Value.string (List.getD [b, c] (0 : Nat) ByteArray.empty))], sRow [SV.g (Value.string (List.getD [b, c] (1 : Nat) ByteArray.empty))]]))
  (SV.g (Value.bool false) = SV.g (Value.bool true)) (((0 : Int) ≤ (-1 : Int) ∧ (-1 : Int) ≤ (0 : Int)) ∧ (0 : Nat) + List.length (cutL b (pieceN size)) ≤ List.length (vcTpduCutsA5 b c size) ∧ (∀ (j : Nat), j < List.length
  (cutL b (pieceN size)) → true = true) ∧ (0 : Nat) ≤ (0 : Nat) ∧ (0 : Nat) ≤ (0 : Nat) ∧ ((0 : Nat) + List.length (cutL b (pieceN size))) * (88 : Nat) ≤ (140737488355328 : Nat) ∧ ∀ (cap : Nat), (0 : Nat) + List.length
  (cutL b (pieceN size)) ≤ cap → (0 : Nat) ≤ (0 : Nat) ∧ (∀ (j : Nat), j < (0 : Nat) → true = true) ∧ (0 : Nat) + ((0 : Nat) + List.length (cutL b (pieceN size))) ≤ (0 : Nat) + List.length (cutL b (pieceN size)) ∧ (0 :
  Nat) + cap ≤ cap ∧ ((0 : Nat) + List.length (cutL b (pieceN size)) + (0 : Nat)) * (88 : Nat) ≤ (140737488355328 : Nat) ∧ ∀ (cap : Nat), (0 : Nat) + List.length (cutL b (pieceN size)) + (0 : Nat) ≤ cap → (0 : Nat) = (0 :
  Nat) ∧ (0 : Nat) + List.length (cutL b (pieceN size)) + (0 : Nat) = List.length (vcTpduCutsA2 b c size) ∧ cap = cap ∧ List.length (vcTpduCutsA2 b c size) ≤ (0 : Nat) + List.length (cutL b (pieceN size)) + (0 : Nat) ∧
  List.length (vcTpduCutsA2 b c size) ≤ cap ∧ cap ≤ cap ∧ (∀ (j : Nat), j < List.length (vcTpduCutsA2 b c size) → appRows (0 : Nat) (0 : Nat) ((0 : Nat) + List.length (cutL b (pieceN size))) (vcTpduCutsA1 b c size) (fun (j
  : Nat) => urow [] j) j = urow (vcTpduCutsA2 b c size) j ∧ true = true) ∧ (List.length (vcTpduCutsA2 b c size) ≤ (1000 : Nat) ∧ List.length (vcTpduCutsA2 b c size) ≤ cap) ∧ (∀ (y : Nat), jOK (vcTpduCutsA2 b c size) ∧
  List.length (Prod.fst (jUs (vcTpduCutsA2 b c size))) ≤ y → ((bif bif true then (↑(List.length (Prod.fst (jUs (vcTpduCutsA2 b c size)))) : Int) == (1 : Int) else false then decide ((↑(ByteArray.size (Prod.snd (jUs
  (vcTpduCutsA2 b c size)))) : Int) ≤ (↑(ByteArray.size c) : Int)) else false) = true → (0 : Int) ≤ (↑(ByteArray.size (Prod.snd (jUs (vcTpduCutsA2 b c size)))) : Int) ∧ (↑(ByteArray.size (Prod.snd (jUs (vcTpduCutsA2 b c
  size)))) : Int) ≤ (↑(ByteArray.size c) : Int)) ∧ ((bif bif bif true then (↑(List.length (Prod.fst (jUs (vcTpduCutsA2 b c size)))) : Int) == (1 : Int) else false then decide ((↑(ByteArray.size (Prod.snd (jUs (vcTpduCutsA2
  b c size)))) : Int) ≤ (↑(ByteArray.size c) : Int)) else false then decide (Prod.snd (jUs (vcTpduCutsA2 b c size)) = ByteArray.extract c (0 : Nat) (Int.toNat (↑(ByteArray.size (Prod.snd (jUs (vcTpduCutsA2 b c size)))) :
  Int))) else false) = true → True) ∧ SV.g (Value.bool (bif bif bif bif true then (↑(List.length (Prod.fst (jUs (vcTpduCutsA2 b c size)))) : Int) == (1 : Int) else false then decide ((↑(ByteArray.size (Prod.snd (jUs
  (vcTpduCutsA2 b c size)))) : Int) ≤ (↑(ByteArray.size c) : Int)) else false then decide (Prod.snd (jUs (vcTpduCutsA2 b c size)) = ByteArray.extract c (0 : Nat) (Int.toNat (↑(ByteArray.size (Prod.snd (jUs (vcTpduCutsA2 b
  c size)))) : Int))) else false then true else false)) = SV.g (Value.bool true)) ∧ (¬jOK (vcTpduCutsA2 b c size) → (false = true → (0 : Int) ≤ (0 : Int) ∧ (0 : Int) ≤ (↑(ByteArray.size c) : Int)) ∧ (false = true → True) ∧
  SV.g (Value.bool false) = SV.g (Value.bool true))))) (condX (!bif false then true else !decide (Prod.snd (jUs (vcTpduCutsA2 b c size)) = ByteArray.mk #[])) False ((bif false then true else !decide (Prod.snd (jUs
  (vcTpduCutsA2 b c size)) = ByteArray.mk #[])) = true ∧ SV.g (Value.bool false) = SV.g (Value.bool true)))) (condX (!bif false then true else !decide (Prod.snd (jUs (vcTpduCutsA2 b c size)) = ByteArray.mk #[])) False
  (condX (!bif false then true else !decide (Prod.snd (jUs (vcTpduCutsA2 b c size)) = ByteArray.mk #[])) False ((bif false then true else !decide (Prod.snd (jUs (vcTpduCutsA2 b c size)) = ByteArray.mk #[])) = true ∧ SV.g
  (Value.bool false) = SV.g (Value.bool true))))) ∧ (¬jOK (vcTpduCutsA2 b c size) → true = true ∧ SV.g (Value.bool false) = SV.g (Value.bool true))))))) ∧ (cutE b size ≠ (0 : Int) → condX (!(0 : Int) != cutE b size) ((0 :
  Nat) = (0 : Nat) ∧ List.length (cutL b (pieceN size)) = List.length (vcTpduCutsA5 b c size) ∧ y = y ∧ List.length (vcTpduCutsA5 b c size) ≤ List.length (cutL b (pieceN size)) ∧ List.length (vcTpduCutsA5 b c size) ≤ y ∧ y
  ≤ y ∧ (∀ (j : Nat), j < List.length (vcTpduCutsA5 b c size) → urow (cutL b (pieceN size)) j = urow (vcTpduCutsA5 b c size) j ∧ true = true) ∧ (List.length (vcTpduCutsA5 b c size) ≤ (1000 : Nat) ∧ List.length
  (vcTpduCutsA5 b c size) ≤ y) ∧ ∀ (y : Nat), List.length (vcTpduCutsA5 b c size) ≤ y → condX (!(0 : Int) != cutE b size) ((0 : Nat) = (0 : Nat) ∧ List.length (vcTpduCutsA5 b c size) = List.length (List.map (fun (j : Nat)
  => uRow (urow (vcTpduCutsA5 b c size) j)) (List.range (List.length (vcTpduCutsA5 b c size)))) ∧ y = y ∧ (0 : Nat) = (0 : Nat) ∧ (0 : Nat) = (0 : Nat) ∧ (0 : Nat) = (0 : Nat) ∧ List.length (List.map (fun (j : Nat) => uRow
  (urow (vcTpduCutsA5 b c size) j)) (List.range (List.length (vcTpduCutsA5 b c size)))) ≤ List.length (vcTpduCutsA5 b c size) ∧ List.length (List.map (fun (j : Nat) => uRow (urow (vcTpduCutsA5 b c size) j)) (List.range
  (List.length (vcTpduCutsA5 b c size)))) ≤ y ∧ y ≤ y ∧ (∀ (j : Nat), j < List.length (List.map (fun (j : Nat) => uRow (urow (vcTpduCutsA5 b c size) j)) (List.range (List.length (vcTpduCutsA5 b c size)))) → urow
  (vcTpduCutsA5 b c size) j = urow (List.map (fun (j : Nat) => uRow (urow (vcTpduCutsA5 b c size) j)) (List.range (List.length (vcTpduCutsA5 b c size)))) j ∧ true = true) ∧ (0 : Nat) ≤ (0 : Nat) ∧ (0 : Nat) ≤ (0 : Nat) ∧
  (0 : Nat) ≤ (0 : Nat) ∧ (∀ (j : Nat), j < (0 : Nat) → urow [] j = urow [] j ∧ true = true) ∧ (List.length (List.map (fun (j : Nat) => uRow (urow (vcTpduCutsA5 b c size) j)) (List.range (List.length (vcTpduCutsA5 b c
  size)))) ≤ (1000 : Nat) ∧ List.length (List.map (fun (j : Nat) => uRow (urow (vcTpduCutsA5 b c size) j)) (List.range (List.length (vcTpduCutsA5 b c size)))) ≤ y ∧ (0 : Nat) ≤ (0 : Nat)) ∧ (True → condX (bif (0 : Int) !=
  cutE b size then true else !decide (List.map (fun (j : Nat) => uRow (urow (vcTpduCutsA5 b c size) j)) (List.range (List.length (vcTpduCutsA5 b c size))) = [])) (SV.g (Value.bool false) = SV.g (Value.bool true)) (c = c ∧
  size = size ∧ True ∧ (∀ (y : Nat), cutE c size = (0 : Int) ∧ List.length (cutL c (pieceN size)) ≤ y → (0 : Nat) + List.length (cutL b (pieceN size)) ≤ List.length (vcTpduCutsA5 b c size) ∧ (∀ (j : Nat), j < List.length
  (cutL b (pieceN size)) → true = true) ∧ (0 : Nat) ≤ (0 : Nat) ∧ (0 : Nat) ≤ (0 : Nat) ∧ ((0 : Nat) + List.length (cutL b (pieceN size))) * (88 : Nat) ≤ (140737488355328 : Nat) ∧ ∀ (cap : Nat), (0 : Nat) + List.length
  (cutL b (pieceN size)) ≤ cap → (0 : Nat) + List.length (cutL c (pieceN size)) ≤ List.length (cutL c (pieceN size)) ∧ (∀ (j : Nat), j < List.length (cutL c (pieceN size)) → true = true) ∧ (0 : Nat) + ((0 : Nat) +
  List.length (cutL b (pieceN size))) ≤ (0 : Nat) + List.length (cutL b (pieceN size)) ∧ (0 : Nat) + cap ≤ cap ∧ ((0 : Nat) + List.length (cutL b (pieceN size)) + List.length (cutL c (pieceN size))) * (88 : Nat) ≤
  (140737488355328 : Nat) ∧ ∀ (cap : Nat), (0 : Nat) + List.length (cutL b (pieceN size)) + List.length (cutL c (pieceN size)) ≤ cap → (0 : Nat) = (0 : Nat) ∧ (0 : Nat) + List.length (cutL b (pieceN size)) + List.length
  (cutL c (pieceN size)) = List.length (vcTpduCutsA3 b c size) ∧ cap = cap ∧ List.length (vcTpduCutsA3 b c size) ≤ (0 : Nat) + List.length (cutL b (pieceN size)) + List.length (cutL c (pieceN size)) ∧ List.length
  (vcTpduCutsA3 b c size) ≤ cap ∧ cap ≤ cap ∧ (∀ (j : Nat), j < List.length (vcTpduCutsA3 b c size) → appRows (0 : Nat) (0 : Nat) ((0 : Nat) + List.length (cutL b (pieceN size))) (vcTpduCutsA1 b c size) (fun (j : Nat) =>
  urow (cutL c (pieceN size)) j) j = urow (vcTpduCutsA3 b c size) j ∧ true = true) ∧ (List.length (vcTpduCutsA3 b c size) ≤ (1000 : Nat) ∧ List.length (vcTpduCutsA3 b c size) ≤ cap) ∧ (∀ (y_1 : Nat), jOK (vcTpduCutsA3 b c
  size) ∧ List.length (Prod.fst (jUs (vcTpduCutsA3 b c size))) ≤ y_1 → condX (!bif false then true else !decide (Prod.snd (jUs (vcTpduCutsA3 b c size)) = ByteArray.mk #[])) (condX (!bif false then true else !decide
  (Prod.snd (jUs (vcTpduCutsA3 b c size)) = ByteArray.mk #[])) ((0 : Nat) = (0 : Nat) ∧ List.length (Prod.fst (jUs (vcTpduCutsA3 b c size))) = List.length (vcTpduCutsA9 b c size) ∧ y_1 = y_1 ∧ (0 : Nat) = (0 : Nat) ∧ (2 :
  Nat) = (2 : Nat) ∧ (2 : Nat) = (2 : Nat) ∧ List.length (vcTpduCutsA9 b c size) ≤ List.length (Prod.fst (jUs (vcTpduCutsA3 b c size))) ∧ List.length (vcTpduCutsA9 b c size) ≤ y_1 ∧ y_1 ≤ y_1 ∧ (∀ (j : Nat), j <
  List.length (vcTpduCutsA9 b c size) → srow (Prod.fst (jUs (vcTpduCutsA3 b c size))) j = srow (vcTpduCutsA9 b c size) j ∧ true = true) ∧ (2 : Nat) ≤ (2 : Nat) ∧ (2 : Nat) ≤ (2 : Nat) ∧ (2 : Nat) ≤ (2 : Nat) ∧
  (vcTpduCutsA8 b c size) ∧ (List.length (vcTpduCutsA9 b c size) ≤ (100000 : Nat) ∧ List.length (vcTpduCutsA9 b c size) ≤ y_1 ∧ (2 : Nat) ≤ (2 : Nat)) ∧ (True → condX (bif bif false then true else !decide (Prod.snd (jUs
  (vcTpduCutsA3 b c size)) = ByteArray.mk #[]) then true else !decide (List.map (fun (j : Nat) => sRow (srow (Prod.fst (jUs (vcTpduCutsA3 b c size))) j)) (List.range (List.length (Prod.fst (jUs (vcTpduCutsA3 b c size)))))
  = [sRow [SV.g (Value.string (List.getD [b, c] (0 : Nat) ByteArray.empty))], sRow [SV.g (Value.string (List.getD [b, c] (1 : Nat) ByteArray.empty))]])) (SV.g (Value.bool false) = SV.g (Value.bool true)) (((0 : Int) ≤
  IntKind.wrap IntKind.i64 ((↑(List.length (cutL c (pieceN size))) : Int) - (1 : Int)) ∧ IntKind.wrap IntKind.i64 ((↑(List.length (cutL c (pieceN size))) : Int) - (1 : Int)) ≤ (↑y : Int)) ∧ (0 : Nat) + List.length (cutL b
  (pieceN size)) ≤ List.length (vcTpduCutsA5 b c size) ∧ (∀ (j : Nat), j < List.length (cutL b (pieceN size)) → true = true) ∧ (0 : Nat) ≤ (0 : Nat) ∧ (0 : Nat) ≤ (0 : Nat) ∧ ((0 : Nat) + List.length (cutL b (pieceN
  size))) * (88 : Nat) ≤ (140737488355328 : Nat) ∧ ∀ (cap : Nat), (0 : Nat) + List.length (cutL b (pieceN size)) ≤ cap → (0 : Nat) + (Int.toNat (IntKind.wrap IntKind.i64 ((↑(List.length (cutL c (pieceN size))) : Int) - (1
  : Int))) - (0 : Nat)) ≤ List.length (cutL c (pieceN size)) ∧ (∀ (j : Nat), j < Int.toNat (IntKind.wrap IntKind.i64 ((↑(List.length (cutL c (pieceN size))) : Int) - (1 : Int))) - (0 : Nat) → true = true) ∧ (0 : Nat) + ((0
  : Nat) + List.length (cutL b (pieceN size))) ≤ (0 : Nat) + List.length (cutL b (pieceN size)) ∧ (0 : Nat) + cap ≤ cap ∧ ((0 : Nat) + List.length (cutL b (pieceN size)) + (Int.toNat (IntKind.wrap IntKind.i64
  ((↑(List.length (cutL c (pieceN size))) : Int) - (1 : Int))) - (0 : Nat))) * (88 : Nat) ≤ (140737488355328 : Nat) ∧ ∀ (cap : Nat), (0 : Nat) + List.length (cutL b (pieceN size)) + (Int.toNat (IntKind.wrap IntKind.i64
  ((↑(List.length (cutL c (pieceN size))) : Int) - (1 : Int))) - (0 : Nat)) ≤ cap → (0 : Nat) = (0 : Nat) ∧ (0 : Nat) + List.length (cutL b (pieceN size)) + (Int.toNat (IntKind.wrap IntKind.i64 ((↑(List.length (cutL c
  (pieceN size))) : Int) - (1 : Int))) - (0 : Nat)) = List.length (vcTpduCutsA4 b c size) ∧ cap = cap ∧ List.length (vcTpduCutsA4 b c size) ≤ (0 : Nat) + List.length (cutL b (pieceN size)) + (Int.toNat (IntKind.wrap
  IntKind.i64 ((↑(List.length (cutL c (pieceN size))) : Int) - (1 : Int))) - (0 : Nat)) ∧ List.length (vcTpduCutsA4 b c size) ≤ cap ∧ cap ≤ cap ∧ (∀ (j : Nat), j < List.length (vcTpduCutsA4 b c size) → appRows (0 : Nat) (0
  : Nat) ((0 : Nat) + List.length (cutL b (pieceN size))) (vcTpduCutsA1 b c size) (fun (j : Nat) => urow (cutL c (pieceN size)) j) j = urow (vcTpduCutsA4 b c size) j ∧ true = true) ∧ (List.length (vcTpduCutsA4 b c size) ≤
  (1000 : Nat) ∧ List.length (vcTpduCutsA4 b c size) ≤ cap) ∧ (∀ (y : Nat), jOK (vcTpduCutsA4 b c size) ∧ List.length (Prod.fst (jUs (vcTpduCutsA4 b c size))) ≤ y → ((bif bif true then (↑(List.length (Prod.fst (jUs
  (vcTpduCutsA4 b c size)))) : Int) == (1 : Int) else false then decide ((↑(ByteArray.size (Prod.snd (jUs (vcTpduCutsA4 b c size)))) : Int) ≤ (↑(ByteArray.size c) : Int)) else false) = true → (0 : Int) ≤ (↑(ByteArray.size
  (Prod.snd (jUs (vcTpduCutsA4 b c size)))) : Int) ∧ (↑(ByteArray.size (Prod.snd (jUs (vcTpduCutsA4 b c size)))) : Int) ≤ (↑(ByteArray.size c) : Int)) ∧ ((bif bif bif true then (↑(List.length (Prod.fst (jUs (vcTpduCutsA4 b
  c size)))) : Int) == (1 : Int) else false then decide ((↑(ByteArray.size (Prod.snd (jUs (vcTpduCutsA4 b c size)))) : Int) ≤ (↑(ByteArray.size c) : Int)) else false then decide (Prod.snd (jUs (vcTpduCutsA4 b c size)) =
  ByteArray.extract c (0 : Nat) (Int.toNat (↑(ByteArray.size (Prod.snd (jUs (vcTpduCutsA4 b c size)))) : Int))) else false) = true → True) ∧ SV.g (Value.bool (bif bif bif bif true then (↑(List.length (Prod.fst (jUs
  (vcTpduCutsA4 b c size)))) : Int) == (1 : Int) else false then decide ((↑(ByteArray.size (Prod.snd (jUs (vcTpduCutsA4 b c size)))) : Int) ≤ (↑(ByteArray.size c) : Int)) else false then decide (Prod.snd (jUs (vcTpduCutsA4
  b c size)) = ByteArray.extract c (0 : Nat) (Int.toNat (↑(ByteArray.size (Prod.snd (jUs (vcTpduCutsA4 b c size)))) : Int))) else false then true else false)) = SV.g (Value.bool true)) ∧ (¬jOK (vcTpduCutsA4 b c size) →
  (false = true → (0 : Int) ≤ (0 : Int) ∧ (0 : Int) ≤ (↑(ByteArray.size c) : Int)) ∧ (false = true → True) ∧ SV.g (Value.bool false) = SV.g (Value.bool true))))) (condX (!bif false then true else !decide (Prod.snd (jUs
  (vcTpduCutsA3 b c size)) = ByteArray.mk #[])) False ((bif false then true else !decide (Prod.snd (jUs (vcTpduCutsA3 b c size)) = ByteArray.mk #[])) = true ∧ SV.g (Value.bool false) = SV.g (Value.bool true)))) (condX
  (!bif false then true else !decide (Prod.snd (jUs (vcTpduCutsA3 b c size)) = ByteArray.mk #[])) False (condX (!bif false then true else !decide (Prod.snd (jUs (vcTpduCutsA3 b c size)) = ByteArray.mk #[])) False ((bif
  false then true else !decide (Prod.snd (jUs (vcTpduCutsA3 b c size)) = ByteArray.mk #[])) = true ∧ SV.g (Value.bool false) = SV.g (Value.bool true))))) ∧ (¬jOK (vcTpduCutsA3 b c size) → true = true ∧ SV.g (Value.bool
  false) = SV.g (Value.bool true))) ∧ (cutE c size ≠ (0 : Int) → condX (cutE c size != (0 : Int)) (True ∧ SV.g (Value.bool true) = SV.g (Value.bool true)) ((0 : Nat) + List.length (cutL b (pieceN size)) ≤ List.length
  (vcTpduCutsA5 b c size) ∧ (∀ (j : Nat), j < List.length (cutL b (pieceN size)) → true = true) ∧ (0 : Nat) ≤ (0 : Nat) ∧ (0 : Nat) ≤ (0 : Nat) ∧ ((0 : Nat) + List.length (cutL b (pieceN size))) * (88 : Nat) ≤
  (140737488355328 : Nat) ∧ ∀ (cap : Nat), (0 : Nat) + List.length (cutL b (pieceN size)) ≤ cap → (0 : Nat) ≤ (0 : Nat) ∧ (∀ (j : Nat), j < (0 : Nat) → true = true) ∧ (0 : Nat) + ((0 : Nat) + List.length (cutL b (pieceN
  size))) ≤ (0 : Nat) + List.length (cutL b (pieceN size)) ∧ (0 : Nat) + cap ≤ cap ∧ ((0 : Nat) + List.length (cutL b (pieceN size)) + (0 : Nat)) * (88 : Nat) ≤ (140737488355328 : Nat) ∧ ∀ (cap : Nat), (0 : Nat) +
  List.length (cutL b (pieceN size)) + (0 : Nat) ≤ cap → (0 : Nat) = (0 : Nat) ∧ (0 : Nat) + List.length (cutL b (pieceN size)) + (0 : Nat) = List.length (vcTpduCutsA2 b c size) ∧ cap = cap ∧ List.length (vcTpduCutsA2 b c
  size) ≤ (0 : Nat) + List.length (cutL b (pieceN size)) + (0 : Nat) ∧ List.length (vcTpduCutsA2 b c size) ≤ cap ∧ cap ≤ cap ∧ (∀ (j : Nat), j < List.length (vcTpduCutsA2 b c size) → appRows (0 : Nat) (0 : Nat) ((0 : Nat)
  + List.length (cutL b (pieceN size))) (vcTpduCutsA1 b c size) (fun (j : Nat) => urow [] j) j = urow (vcTpduCutsA2 b c size) j ∧ true = true) ∧ (List.length (vcTpduCutsA2 b c size) ≤ (1000 : Nat) ∧ List.length
  (vcTpduCutsA2 b c size) ≤ cap) ∧ (∀ (y : Nat), jOK (vcTpduCutsA2 b c size) ∧ List.length (Prod.fst (jUs (vcTpduCutsA2 b c size))) ≤ y → condX (!bif false then true else !decide (Prod.snd (jUs (vcTpduCutsA2 b c size)) =
  ByteArray.mk #[])) (condX (!bif false then true else !decide (Prod.snd (jUs (vcTpduCutsA2 b c size)) = ByteArray.mk #[])) ((0 : Nat) = (0 : Nat) ∧ List.length (Prod.fst (jUs (vcTpduCutsA2 b c size))) = List.length
  (vcTpduCutsA10 b c size) ∧ y = y ∧ (0 : Nat) = (0 : Nat) ∧ (2 : Nat) = (2 : Nat) ∧ (2 : Nat) = (2 : Nat) ∧ List.length (vcTpduCutsA10 b c size) ≤ List.length (Prod.fst (jUs (vcTpduCutsA2 b c size))) ∧ List.length
  (vcTpduCutsA10 b c size) ≤ y ∧ y ≤ y ∧ (∀ (j : Nat), j < List.length (vcTpduCutsA10 b c size) → srow (Prod.fst (jUs (vcTpduCutsA2 b c size))) j = srow (vcTpduCutsA10 b c size) j ∧ true = true) ∧ (2 : Nat) ≤ (2 : Nat) ∧
  (2 : Nat) ≤ (2 : Nat) ∧ (2 : Nat) ≤ (2 : Nat) ∧ (vcTpduCutsA8 b c size) ∧ (List.length (vcTpduCutsA10 b c size) ≤ (100000 : Nat) ∧ List.length (vcTpduCutsA10 b c size) ≤ y ∧ (2 : Nat) ≤ (2 : Nat)) ∧ (True → condX (bif
  bif false then true else !decide (Prod.snd (jUs (vcTpduCutsA2 b c size)) = ByteArray.mk #[]) then true else !decide (List.map (fun (j : Nat) => sRow (srow (Prod.fst (jUs (vcTpduCutsA2 b c size))) j)) (List.range
  (List.length (Prod.fst (jUs (vcTpduCutsA2 b c size))))) = [sRow [SV.g (Value.string (List.getD [b, c] (0 : Nat) ByteArray.empty))], sRow [SV.g (Value.string (List.getD [b, c] (1 : Nat) ByteArray.empty))]])) (SV.g
  (Value.bool false) = SV.g (Value.bool true)) (((0 : Int) ≤ (-1 : Int) ∧ (-1 : Int) ≤ (0 : Int)) ∧ (0 : Nat) + List.length (cutL b (pieceN size)) ≤ List.length (vcTpduCutsA5 b c size) ∧ (∀ (j : Nat), j < List.length (cutL
  b (pieceN size)) → true = true) ∧ (0 : Nat) ≤ (0 : Nat) ∧ (0 : Nat) ≤ (0 : Nat) ∧ ((0 : Nat) + List.length (cutL b (pieceN size))) * (88 : Nat) ≤ (140737488355328 : Nat) ∧ ∀ (cap : Nat), (0 : Nat) + List.length (cutL b
  (pieceN size)) ≤ cap → (0 : Nat) ≤ (0 : Nat) ∧ (∀ (j : Nat), j < (0 : Nat) → true = true) ∧ (0 : Nat) + ((0 : Nat) + List.length (cutL b (pieceN size))) ≤ (0 : Nat) + List.length (cutL b (pieceN size)) ∧ (0 : Nat) + cap
  ≤ cap ∧ ((0 : Nat) + List.length (cutL b (pieceN size)) + (0 : Nat)) * (88 : Nat) ≤ (140737488355328 : Nat) ∧ ∀ (cap : Nat), (0 : Nat) + List.length (cutL b (pieceN size)) + (0 : Nat) ≤ cap → (0 : Nat) = (0 : Nat) ∧ (0 :
  Nat) + List.length (cutL b (pieceN size)) + (0 : Nat) = List.length (vcTpduCutsA2 b c size) ∧ cap = cap ∧ List.length (vcTpduCutsA2 b c size) ≤ (0 : Nat) + List.length (cutL b (pieceN size)) + (0 : Nat) ∧ List.length
  (vcTpduCutsA2 b c size) ≤ cap ∧ cap ≤ cap ∧ (∀ (j : Nat), j < List.length (vcTpduCutsA2 b c size) → appRows (0 : Nat) (0 : Nat) ((0 : Nat) + List.length (cutL b (pieceN size))) (vcTpduCutsA1 b c size) (fun (j : Nat) =>
  urow [] j) j = urow (vcTpduCutsA2 b c size) j ∧ true = true) ∧ (List.length (vcTpduCutsA2 b c size) ≤ (1000 : Nat) ∧ List.length (vcTpduCutsA2 b c size) ≤ cap) ∧ (∀ (y : Nat), jOK (vcTpduCutsA2 b c size) ∧ List.length
  (Prod.fst (jUs (vcTpduCutsA2 b c size))) ≤ y → ((bif bif true then (↑(List.length (Prod.fst (jUs (vcTpduCutsA2 b c size)))) : Int) == (1 : Int) else false then decide ((↑(ByteArray.size (Prod.snd (jUs (vcTpduCutsA2 b c
  size)))) : Int) ≤ (↑(ByteArray.size c) : Int)) else false) = true → (0 : Int) ≤ (↑(ByteArray.size (Prod.snd (jUs (vcTpduCutsA2 b c size)))) : Int) ∧ (↑(ByteArray.size (Prod.snd (jUs (vcTpduCutsA2 b c size)))) : Int) ≤
  (↑(ByteArray.size c) : Int)) ∧ ((bif bif bif true then (↑(List.length (Prod.fst (jUs (vcTpduCutsA2 b c size)))) : Int) == (1 : Int) else false then decide ((↑(ByteArray.size (Prod.snd (jUs (vcTpduCutsA2 b c size)))) :
  Int) ≤ (↑(ByteArray.size c) : Int)) else false then decide (Prod.snd (jUs (vcTpduCutsA2 b c size)) = ByteArray.extract c (0 : Nat) (Int.toNat (↑(ByteArray.size (Prod.snd (jUs (vcTpduCutsA2 b c size)))) : Int))) else
  false) = true → True) ∧ SV.g (Value.bool (bif bif bif bif true then (↑(List.length (Prod.fst (jUs (vcTpduCutsA2 b c size)))) : Int) == (1 : Int) else false then decide ((↑(ByteArray.size (Prod.snd (jUs (vcTpduCutsA2 b c
  size)))) : Int) ≤ (↑(ByteArray.size c) : Int)) else false then decide (Prod.snd (jUs (vcTpduCutsA2 b c size)) = ByteArray.extract c (0 : Nat) (Int.toNat (↑(ByteArray.size (Prod.snd (jUs (vcTpduCutsA2 b c size)))) :
  Int))) else false then true else false)) = SV.g (Value.bool true)) ∧ (¬jOK (vcTpduCutsA2 b c size) → (false = true → (0 : Int) ≤ (0 : Int) ∧ (0 : Int) ≤ (↑(ByteArray.size c) : Int)) ∧ (false = true → True) ∧ SV.g
  (Value.bool false) = SV.g (Value.bool true))))) (condX (!bif false then true else !decide (Prod.snd (jUs (vcTpduCutsA2 b c size)) = ByteArray.mk #[])) False ((bif false then true else !decide (Prod.snd (jUs (vcTpduCutsA2
  b c size)) = ByteArray.mk #[])) = true ∧ SV.g (Value.bool false) = SV.g (Value.bool true)))) (condX (!bif false then true else !decide (Prod.snd (jUs (vcTpduCutsA2 b c size)) = ByteArray.mk #[])) False (condX (!bif false
  then true else !decide (Prod.snd (jUs (vcTpduCutsA2 b c size)) = ByteArray.mk #[])) False ((bif false then true else !decide (Prod.snd (jUs (vcTpduCutsA2 b c size)) = ByteArray.mk #[])) = true ∧ SV.g (Value.bool false) =
  SV.g (Value.bool true))))) ∧ (¬jOK (vcTpduCutsA2 b c size) → true = true ∧ SV.g (Value.bool false) = SV.g (Value.bool true))))))) (condX (!(0 : Int) != cutE b size) False (((0 : Int) != cutE b size) = true ∧ SV.g
  (Value.bool false) = SV.g (Value.bool true)))) (condX (!(0 : Int) != cutE b size) False (condX (!(0 : Int) != cutE b size) False (((0 : Int) != cutE b size) = true ∧ SV.g (Value.bool false) = SV.g (Value.bool true))))))
  ∧ (cutE b size ≠ (0 : Int) → b = b ∧ size = size ∧ True ∧ (∀ (y : Nat), cutE b size = (0 : Int) ∧ List.length (cutL b (pieceN size)) ≤ y → condX (!cutE b size != (0 : Int)) ((0 : Nat) = (0 : Nat) ∧ (0 : Nat) = (0 : Nat)
  ∧ (0 : Nat) = (0 : Nat) ∧ (0 : Nat) ≤ (0 : Nat) ∧ (0 : Nat) ≤ (0 : Nat) ∧ (0 : Nat) ≤ (0 : Nat) ∧ (∀ (j : Nat), j < (0 : Nat) → urow [] j = urow [] j ∧ true = true) ∧ ((0 : Nat) ≤ (1000 : Nat) ∧ (0 : Nat) ≤ (0 : Nat)) ∧
  ∀ (y_1 : Nat), (0 : Nat) ≤ y_1 → condX (!cutE b size != (0 : Int)) ((0 : Nat) = (0 : Nat) ∧ (0 : Nat) = (0 : Nat) ∧ y_1 = y_1 ∧ (0 : Nat) = (0 : Nat) ∧ List.length (cutL b (pieceN size)) = List.length (vcTpduCutsA5 b c
  size) ∧ y = y ∧ (0 : Nat) ≤ (0 : Nat) ∧ (0 : Nat) ≤ y_1 ∧ y_1 ≤ y_1 ∧ (∀ (j : Nat), j < (0 : Nat) → urow [] j = urow [] j ∧ true = true) ∧ List.length (vcTpduCutsA5 b c size) ≤ List.length (cutL b (pieceN size)) ∧
  List.length (vcTpduCutsA5 b c size) ≤ y ∧ y ≤ y ∧ (∀ (j : Nat), j < List.length (vcTpduCutsA5 b c size) → urow (cutL b (pieceN size)) j = urow (vcTpduCutsA5 b c size) j ∧ true = true) ∧ ((0 : Nat) ≤ (1000 : Nat) ∧ (0 :
  Nat) ≤ y_1 ∧ List.length (vcTpduCutsA5 b c size) ≤ y) ∧ (True → condX (bif cutE b size != (0 : Int) then true else !decide ([] = List.map (fun (j : Nat) => uRow (urow (cutL b (pieceN size)) j)) (List.range (List.length
  (cutL b (pieceN size)))))) (SV.g (Value.bool false) = SV.g (Value.bool true)) (condX (cutE b size != (0 : Int)) (True ∧ SV.g (Value.bool true) = SV.g (Value.bool true)) (c = c ∧ size = size ∧ True ∧ (∀ (y : Nat), cutE c
  size = (0 : Int) ∧ List.length (cutL c (pieceN size)) ≤ y → (0 : Nat) ≤ (0 : Nat) ∧ (∀ (j : Nat), j < (0 : Nat) → true = true) ∧ (0 : Nat) ≤ (0 : Nat) ∧ (0 : Nat) ≤ (0 : Nat) ∧ (0 : Nat) ≤ (140737488355328 : Nat) ∧ ∀
  (cap : Nat), (0 : Nat) ≤ cap → (0 : Nat) + List.length (cutL c (pieceN size)) ≤ List.length (cutL c (pieceN size)) ∧ (∀ (j : Nat), j < List.length (cutL c (pieceN size)) → true = true) ∧ (0 : Nat) ≤ (0 : Nat) ∧ (0 : Nat)
  + cap ≤ cap ∧ ((0 : Nat) + List.length (cutL c (pieceN size))) * (88 : Nat) ≤ (140737488355328 : Nat) ∧ ∀ (cap : Nat), (0 : Nat) + List.length (cutL c (pieceN size)) ≤ cap → (0 : Nat) = (0 : Nat) ∧ (0 : Nat) +
  List.length (cutL c (pieceN size)) = List.length (vcTpduCutsA7 b c size) ∧ cap = cap ∧ List.length (vcTpduCutsA7 b c size) ≤ (0 : Nat) + List.length (cutL c (pieceN size)) ∧ List.length (vcTpduCutsA7 b c size) ≤ cap ∧
  cap ≤ cap ∧ (∀ (j : Nat), j < List.length (vcTpduCutsA7 b c size) → [SV.g (Value.int IntKind.i64 (U.k (List.getD (cutL c (pieceN size)) (j - (0 : Nat)) uZero))), SV.g (Value.int IntKind.i64 (U.to (List.getD (cutL c
  (pieceN size)) (j - (0 : Nat)) uZero))), SV.g (Value.int IntKind.i64 (U.fr (List.getD (cutL c (pieceN size)) (j - (0 : Nat)) uZero))), SV.g (Value.int IntKind.i64 (U.cl (List.getD (cutL c (pieceN size)) (j - (0 : Nat))
  uZero))), SV.g (Value.int IntKind.i64 (U.sz (List.getD (cutL c (pieceN size)) (j - (0 : Nat)) uZero))), SV.g (Value.int IntKind.i64 (U.nu (List.getD (cutL c (pieceN size)) (j - (0 : Nat)) uZero))), SV.g (Value.int
  IntKind.i64 (U.cr (List.getD (cutL c (pieceN size)) (j - (0 : Nat)) uZero))), SV.g (Value.int IntKind.i64 (U.re (List.getD (cutL c (pieceN size)) (j - (0 : Nat)) uZero))), SV.g (Value.bool (U.e (List.getD (cutL c (pieceN
  size)) (j - (0 : Nat)) uZero))), SV.g (Value.string (U.d (List.getD (cutL c (pieceN size)) (j - (0 : Nat)) uZero)))] = urow (vcTpduCutsA7 b c size) j ∧ true = true) ∧ (List.length (vcTpduCutsA7 b c size) ≤ (1000 : Nat) ∧
  List.length (vcTpduCutsA7 b c size) ≤ cap) ∧ (∀ (y_2 : Nat), jOK (vcTpduCutsA7 b c size) ∧ List.length (Prod.fst (jUs (vcTpduCutsA7 b c size))) ≤ y_2 → condX (!bif false then true else !decide (Prod.snd (jUs
  (vcTpduCutsA7 b c size)) = ByteArray.mk #[])) (condX (!bif false then true else !decide (Prod.snd (jUs (vcTpduCutsA7 b c size)) = ByteArray.mk #[])) ((0 : Nat) = (0 : Nat) ∧ List.length (Prod.fst (jUs (vcTpduCutsA7 b c
  size))) = List.length (List.map (fun (j : Nat) => sRow (srow (Prod.fst (jUs (vcTpduCutsA7 b c size))) j)) (List.range (List.length (Prod.fst (jUs (vcTpduCutsA7 b c size)))))) ∧ y_2 = y_2 ∧ (0 : Nat) = (0 : Nat) ∧ (2 :
  Nat) = (2 : Nat) ∧ (2 : Nat) = (2 : Nat) ∧ List.length (List.map (fun (j : Nat) => sRow (srow (Prod.fst (jUs (vcTpduCutsA7 b c size))) j)) (List.range (List.length (Prod.fst (jUs (vcTpduCutsA7 b c size)))))) ≤
  List.length (Prod.fst (jUs (vcTpduCutsA7 b c size))) ∧ List.length (List.map (fun (j : Nat) => sRow (srow (Prod.fst (jUs (vcTpduCutsA7 b c size))) j)) (List.range (List.length (Prod.fst (jUs (vcTpduCutsA7 b c size))))))
  ≤ y_2 ∧ y_2 ≤ y_2 ∧ (∀ (j : Nat), j < List.length (List.map (fun (j : Nat) => sRow (srow (Prod.fst (jUs (vcTpduCutsA7 b c size))) j)) (List.range (List.length (Prod.fst (jUs (vcTpduCutsA7 b c size)))))) → srow (Prod.fst
  (jUs (vcTpduCutsA7 b c size))) j = srow (List.map (fun (j : Nat) => sRow (srow (Prod.fst (jUs (vcTpduCutsA7 b c size))) j)) (List.range (List.length (Prod.fst (jUs (vcTpduCutsA7 b c size)))))) j ∧ true = true) ∧ (2 :
  Nat) ≤ (2 : Nat) ∧ (2 : Nat) ≤ (2 : Nat) ∧ (2 : Nat) ≤ (2 : Nat) ∧ (vcTpduCutsA8 b c size) ∧ (List.length (List.map (fun (j : Nat) => sRow (srow (Prod.fst (jUs (vcTpduCutsA7 b c size))) j)) (List.range (List.length
  (Prod.fst (jUs (vcTpduCutsA7 b c size)))))) ≤ (100000 : Nat) ∧ List.length (List.map (fun (j : Nat) => sRow (srow (Prod.fst (jUs (vcTpduCutsA7 b c size))) j)) (List.range (List.length (Prod.fst (jUs (vcTpduCutsA7 b c
  size)))))) ≤ y_2 ∧ (2 : Nat) ≤ (2 : Nat)) ∧ (True → condX (bif bif false then true else !decide (Prod.snd (jUs (vcTpduCutsA7 b c size)) = ByteArray.mk #[]) then true else !decide (List.map (fun (j : Nat) => sRow (srow
  (Prod.fst (jUs (vcTpduCutsA7 b c size))) j)) (List.range (List.length (Prod.fst (jUs (vcTpduCutsA7 b c size))))) = [sRow [SV.g (Value.string (List.getD [b, c] (0 : Nat) ByteArray.empty))], sRow [SV.g (Value.string
  (List.getD [b, c] (1 : Nat) ByteArray.empty))]])) (SV.g (Value.bool false) = SV.g (Value.bool true)) (((0 : Int) ≤ IntKind.wrap IntKind.i64 ((↑(List.length (cutL c (pieceN size))) : Int) - (1 : Int)) ∧ IntKind.wrap
  IntKind.i64 ((↑(List.length (cutL c (pieceN size))) : Int) - (1 : Int)) ≤ (↑y : Int)) ∧ (0 : Nat) ≤ (0 : Nat) ∧ (∀ (j : Nat), j < (0 : Nat) → true = true) ∧ (0 : Nat) ≤ (0 : Nat) ∧ (0 : Nat) ≤ (0 : Nat) ∧ (0 : Nat) ≤
  (140737488355328 : Nat) ∧ ∀ (cap : Nat), (0 : Nat) ≤ cap → (0 : Nat) + (Int.toNat (IntKind.wrap IntKind.i64 ((↑(List.length (cutL c (pieceN size))) : Int) - (1 : Int))) - (0 : Nat)) ≤ List.length (cutL c (pieceN size)) ∧
  (∀ (j : Nat), j < Int.toNat (IntKind.wrap IntKind.i64 ((↑(List.length (cutL c (pieceN size))) : Int) - (1 : Int))) - (0 : Nat) → true = true) ∧ (0 : Nat) ≤ (0 : Nat) ∧ (0 : Nat) + cap ≤ cap ∧ ((0 : Nat) + (Int.toNat
  (IntKind.wrap IntKind.i64 ((↑(List.length (cutL c (pieceN size))) : Int) - (1 : Int))) - (0 : Nat))) * (88 : Nat) ≤ (140737488355328 : Nat) ∧ ∀ (cap : Nat), (0 : Nat) + (Int.toNat (IntKind.wrap IntKind.i64
  ((↑(List.length (cutL c (pieceN size))) : Int) - (1 : Int))) - (0 : Nat)) ≤ cap → (0 : Nat) = (0 : Nat) ∧ (0 : Nat) + (Int.toNat (IntKind.wrap IntKind.i64 ((↑(List.length (cutL c (pieceN size))) : Int) - (1 : Int))) - (0
  : Nat)) = List.length (vcTpduCutsA6 b c size) ∧ cap = cap ∧ List.length (vcTpduCutsA6 b c size) ≤ (0 : Nat) + (Int.toNat (IntKind.wrap IntKind.i64 ((↑(List.length (cutL c (pieceN size))) : Int) - (1 : Int))) - (0 : Nat))
  ∧ List.length (vcTpduCutsA6 b c size) ≤ cap ∧ cap ≤ cap ∧ (∀ (j : Nat), j < List.length (vcTpduCutsA6 b c size) → [SV.g (Value.int IntKind.i64 (U.k (List.getD (cutL c (pieceN size)) (j - (0 : Nat)) uZero))), SV.g
  (Value.int IntKind.i64 (U.to (List.getD (cutL c (pieceN size)) (j - (0 : Nat)) uZero))), SV.g (Value.int IntKind.i64 (U.fr (List.getD (cutL c (pieceN size)) (j - (0 : Nat)) uZero))), SV.g (Value.int IntKind.i64 (U.cl
  (List.getD (cutL c (pieceN size)) (j - (0 : Nat)) uZero))), SV.g (Value.int IntKind.i64 (U.sz (List.getD (cutL c (pieceN size)) (j - (0 : Nat)) uZero))), SV.g (Value.int IntKind.i64 (U.nu (List.getD (cutL c (pieceN
  size)) (j - (0 : Nat)) uZero))), SV.g (Value.int IntKind.i64 (U.cr (List.getD (cutL c (pieceN size)) (j - (0 : Nat)) uZero))), SV.g (Value.int IntKind.i64 (U.re (List.getD (cutL c (pieceN size)) (j - (0 : Nat)) uZero))),
  SV.g (Value.bool (U.e (List.getD (cutL c (pieceN size)) (j - (0 : Nat)) uZero))), SV.g (Value.string (U.d (List.getD (cutL c (pieceN size)) (j - (0 : Nat)) uZero)))] = urow (vcTpduCutsA6 b c size) j ∧ true = true) ∧
  (List.length (vcTpduCutsA6 b c size) ≤ (1000 : Nat) ∧ List.length (vcTpduCutsA6 b c size) ≤ cap) ∧ (∀ (y : Nat), jOK (vcTpduCutsA6 b c size) ∧ List.length (Prod.fst (jUs (vcTpduCutsA6 b c size))) ≤ y → ((bif bif true
  then (↑(List.length (Prod.fst (jUs (vcTpduCutsA6 b c size)))) : Int) == (1 : Int) else false then decide ((↑(ByteArray.size (Prod.snd (jUs (vcTpduCutsA6 b c size)))) : Int) ≤ (↑(ByteArray.size c) : Int)) else false) =
  true → (0 : Int) ≤ (↑(ByteArray.size (Prod.snd (jUs (vcTpduCutsA6 b c size)))) : Int) ∧ (↑(ByteArray.size (Prod.snd (jUs (vcTpduCutsA6 b c size)))) : Int) ≤ (↑(ByteArray.size c) : Int)) ∧ ((bif bif bif true then
  (↑(List.length (Prod.fst (jUs (vcTpduCutsA6 b c size)))) : Int) == (1 : Int) else false then decide ((↑(ByteArray.size (Prod.snd (jUs (vcTpduCutsA6 b c size)))) : Int) ≤ (↑(ByteArray.size c) : Int)) else false then
  decide (Prod.snd (jUs (vcTpduCutsA6 b c size)) = ByteArray.extract c (0 : Nat) (Int.toNat (↑(ByteArray.size (Prod.snd (jUs (vcTpduCutsA6 b c size)))) : Int))) else false) = true → True) ∧ SV.g (Value.bool (bif bif bif
  bif true then (↑(List.length (Prod.fst (jUs (vcTpduCutsA6 b c size)))) : Int) == (1 : Int) else false then decide ((↑(ByteArray.size (Prod.snd (jUs (vcTpduCutsA6 b c size)))) : Int) ≤ (↑(ByteArray.size c) : Int)) else
  false then decide (Prod.snd (jUs (vcTpduCutsA6 b c size)) = ByteArray.extract c (0 : Nat) (Int.toNat (↑(ByteArray.size (Prod.snd (jUs (vcTpduCutsA6 b c size)))) : Int))) else false then true else false)) = SV.g
  (Value.bool true)) ∧ (¬jOK (vcTpduCutsA6 b c size) → (false = true → (0 : Int) ≤ (0 : Int) ∧ (0 : Int) ≤ (↑(ByteArray.size c) : Int)) ∧ (false = true → True) ∧ SV.g (Value.bool false) = SV.g (Value.bool true))))) (condX
  (!bif false then true else !decide (Prod.snd (jUs (vcTpduCutsA7 b c size)) = ByteArray.mk #[])) False ((bif false then true else !decide (Prod.snd (jUs (vcTpduCutsA7 b c size)) = ByteArray.mk #[])) = true ∧ SV.g
  (Value.bool false) = SV.g (Value.bool true)))) (condX (!bif false then true else !decide (Prod.snd (jUs (vcTpduCutsA7 b c size)) = ByteArray.mk #[])) False (condX (!bif false then true else !decide (Prod.snd (jUs
  (vcTpduCutsA7 b c size)) = ByteArray.mk #[])) False ((bif false then true else !decide (Prod.snd (jUs (vcTpduCutsA7 b c size)) = ByteArray.mk #[])) = true ∧ SV.g (Value.bool false) = SV.g (Value.bool true))))) ∧ (¬jOK
  (vcTpduCutsA7 b c size) → true = true ∧ SV.g (Value.bool false) = SV.g (Value.bool true))) ∧ (cutE c size ≠ (0 : Int) → condX (cutE c size != (0 : Int)) (True ∧ SV.g (Value.bool true) = SV.g (Value.bool true)) ((0 : Nat)
  ≤ (0 : Nat) ∧ (∀ (j : Nat), j < (0 : Nat) → true = true) ∧ (0 : Nat) ≤ (0 : Nat) ∧ (0 : Nat) ≤ (0 : Nat) ∧ (0 : Nat) ≤ (140737488355328 : Nat) ∧ ∀ (cap : Nat), (0 : Nat) ≤ cap → (0 : Nat) ≤ (0 : Nat) ∧ (∀ (j : Nat), j <
  (0 : Nat) → true = true) ∧ (0 : Nat) ≤ (0 : Nat) ∧ (0 : Nat) + cap ≤ cap ∧ (0 : Nat) ≤ (140737488355328 : Nat) ∧ ∀ (cap : Nat), (0 : Nat) ≤ cap → (0 : Nat) = (0 : Nat) ∧ (0 : Nat) = (0 : Nat) ∧ cap = cap ∧ (0 : Nat) ≤ (0
  : Nat) ∧ (0 : Nat) ≤ cap ∧ cap ≤ cap ∧ (∀ (j : Nat), j < (0 : Nat) → [SV.g (Value.int IntKind.i64 (0 : Int)), SV.g (Value.int IntKind.i64 (0 : Int)), SV.g (Value.int IntKind.i64 (0 : Int)), SV.g (Value.int IntKind.i64 (0
  : Int)), SV.g (Value.int IntKind.i64 (0 : Int)), SV.g (Value.int IntKind.i64 (0 : Int)), SV.g (Value.int IntKind.i64 (0 : Int)), SV.g (Value.int IntKind.i64 (0 : Int)), SV.g (Value.bool false), SV.g (Value.string
  (ByteArray.mk #[]))] = urow [] j ∧ true = true) ∧ ((0 : Nat) ≤ (1000 : Nat) ∧ (0 : Nat) ≤ cap) ∧ (∀ (y : Nat), jOK [] ∧ (0 : Nat) ≤ y → (0 : Nat) = (0 : Nat) ∧ (0 : Nat) = (0 : Nat) ∧ y = y ∧ (0 : Nat) = (0 : Nat) ∧ (2 :
  Nat) = (2 : Nat) ∧ (2 : Nat) = (2 : Nat) ∧ (0 : Nat) ≤ (0 : Nat) ∧ (0 : Nat) ≤ y ∧ y ≤ y ∧ (∀ (j : Nat), j < (0 : Nat) → srow [] j = srow [] j ∧ true = true) ∧ (2 : Nat) ≤ (2 : Nat) ∧ (2 : Nat) ≤ (2 : Nat) ∧ (2 : Nat) ≤
  (2 : Nat) ∧ (vcTpduCutsA8 b c size) ∧ ((0 : Nat) ≤ (100000 : Nat) ∧ (0 : Nat) ≤ y ∧ (2 : Nat) ≤ (2 : Nat)) ∧ (True → SV.g (Value.bool false) = SV.g (Value.bool true))) ∧ (¬jOK [] → true = true ∧ SV.g (Value.bool false) =
  SV.g (Value.bool true)))))))) (condX (!cutE b size != (0 : Int)) False ((cutE b size != (0 : Int)) = true ∧ SV.g (Value.bool false) = SV.g (Value.bool true)))) (condX (!cutE b size != (0 : Int)) False (condX (!cutE b
  size != (0 : Int)) False ((cutE b size != (0 : Int)) = true ∧ SV.g (Value.bool false) = SV.g (Value.bool true))))) ∧ (cutE b size ≠ (0 : Int) → condX (!cutE b size != cutE b size) ((0 : Nat) = (0 : Nat) ∧ (0 : Nat) = (0
  : Nat) ∧ (0 : Nat) = (0 : Nat) ∧ (0 : Nat) ≤ (0 : Nat) ∧ (0 : Nat) ≤ (0 : Nat) ∧ (0 : Nat) ≤ (0 : Nat) ∧ (∀ (j : Nat), j < (0 : Nat) → urow [] j = urow [] j ∧ true = true) ∧ ((0 : Nat) ≤ (1000 : Nat) ∧ (0 : Nat) ≤ (0 :
  Nat)) ∧ ∀ (y : Nat), (0 : Nat) ≤ y → condX (!cutE b size != cutE b size) ((0 : Nat) = (0 : Nat) ∧ (0 : Nat) = (0 : Nat) ∧ y = y ∧ (0 : Nat) = (0 : Nat) ∧ (0 : Nat) = (0 : Nat) ∧ (0 : Nat) = (0 : Nat) ∧ (0 : Nat) ≤ (0 :
  Nat) ∧ (0 : Nat) ≤ y ∧ y ≤ y ∧ (∀ (j : Nat), j < (0 : Nat) → urow [] j = urow [] j ∧ true = true) ∧ (0 : Nat) ≤ (0 : Nat) ∧ (0 : Nat) ≤ (0 : Nat) ∧ (0 : Nat) ≤ (0 : Nat) ∧ (∀ (j : Nat), j < (0 : Nat) → urow [] j = urow
  [] j ∧ true = true) ∧ ((0 : Nat) ≤ (1000 : Nat) ∧ (0 : Nat) ≤ y ∧ (0 : Nat) ≤ (0 : Nat)) ∧ (True → condX (bif cutE b size != cutE b size then true else false) (SV.g (Value.bool false) = SV.g (Value.bool true)) (condX
  (cutE b size != (0 : Int)) (True ∧ SV.g (Value.bool true) = SV.g (Value.bool true)) (c = c ∧ size = size ∧ True ∧ (∀ (y : Nat), cutE c size = (0 : Int) ∧ List.length (cutL c (pieceN size)) ≤ y → (0 : Nat) ≤ (0 : Nat) ∧
  (∀ (j : Nat), j < (0 : Nat) → true = true) ∧ (0 : Nat) ≤ (0 : Nat) ∧ (0 : Nat) ≤ (0 : Nat) ∧ (0 : Nat) ≤ (140737488355328 : Nat) ∧ ∀ (cap : Nat), (0 : Nat) ≤ cap → (0 : Nat) + List.length (cutL c (pieceN size)) ≤
  List.length (cutL c (pieceN size)) ∧ (∀ (j : Nat), j < List.length (cutL c (pieceN size)) → true = true) ∧ (0 : Nat) ≤ (0 : Nat) ∧ (0 : Nat) + cap ≤ cap ∧ ((0 : Nat) + List.length (cutL c (pieceN size))) * (88 : Nat) ≤
  (140737488355328 : Nat) ∧ ∀ (cap : Nat), (0 : Nat) + List.length (cutL c (pieceN size)) ≤ cap → (0 : Nat) = (0 : Nat) ∧ (0 : Nat) + List.length (cutL c (pieceN size)) = List.length (vcTpduCutsA7 b c size) ∧ cap = cap ∧
  List.length (vcTpduCutsA7 b c size) ≤ (0 : Nat) + List.length (cutL c (pieceN size)) ∧ List.length (vcTpduCutsA7 b c size) ≤ cap ∧ cap ≤ cap ∧ (∀ (j : Nat), j < List.length (vcTpduCutsA7 b c size) → [SV.g (Value.int
  IntKind.i64 (U.k (List.getD (cutL c (pieceN size)) (j - (0 : Nat)) uZero))), SV.g (Value.int IntKind.i64 (U.to (List.getD (cutL c (pieceN size)) (j - (0 : Nat)) uZero))), SV.g (Value.int IntKind.i64 (U.fr (List.getD
  (cutL c (pieceN size)) (j - (0 : Nat)) uZero))), SV.g (Value.int IntKind.i64 (U.cl (List.getD (cutL c (pieceN size)) (j - (0 : Nat)) uZero))), SV.g (Value.int IntKind.i64 (U.sz (List.getD (cutL c (pieceN size)) (j - (0 :
  Nat)) uZero))), SV.g (Value.int IntKind.i64 (U.nu (List.getD (cutL c (pieceN size)) (j - (0 : Nat)) uZero))), SV.g (Value.int IntKind.i64 (U.cr (List.getD (cutL c (pieceN size)) (j - (0 : Nat)) uZero))), SV.g (Value.int
  IntKind.i64 (U.re (List.getD (cutL c (pieceN size)) (j - (0 : Nat)) uZero))), SV.g (Value.bool (U.e (List.getD (cutL c (pieceN size)) (j - (0 : Nat)) uZero))), SV.g (Value.string (U.d (List.getD (cutL c (pieceN size)) (j
  - (0 : Nat)) uZero)))] = urow (vcTpduCutsA7 b c size) j ∧ true = true) ∧ (List.length (vcTpduCutsA7 b c size) ≤ (1000 : Nat) ∧ List.length (vcTpduCutsA7 b c size) ≤ cap) ∧ (∀ (y_1 : Nat), jOK (vcTpduCutsA7 b c size) ∧
  List.length (Prod.fst (jUs (vcTpduCutsA7 b c size))) ≤ y_1 → condX (!bif false then true else !decide (Prod.snd (jUs (vcTpduCutsA7 b c size)) = ByteArray.mk #[])) (condX (!bif false then true else !decide (Prod.snd (jUs
  (vcTpduCutsA7 b c size)) = ByteArray.mk #[])) ((0 : Nat) = (0 : Nat) ∧ List.length (Prod.fst (jUs (vcTpduCutsA7 b c size))) = List.length (List.map (fun (j : Nat) => sRow (srow (Prod.fst (jUs (vcTpduCutsA7 b c size)))
  j)) (List.range (List.length (Prod.fst (jUs (vcTpduCutsA7 b c size)))))) ∧ y_1 = y_1 ∧ (0 : Nat) = (0 : Nat) ∧ (2 : Nat) = (2 : Nat) ∧ (2 : Nat) = (2 : Nat) ∧ List.length (List.map (fun (j : Nat) => sRow (srow (Prod.fst
  (jUs (vcTpduCutsA7 b c size))) j)) (List.range (List.length (Prod.fst (jUs (vcTpduCutsA7 b c size)))))) ≤ List.length (Prod.fst (jUs (vcTpduCutsA7 b c size))) ∧ List.length (List.map (fun (j : Nat) => sRow (srow
  (Prod.fst (jUs (vcTpduCutsA7 b c size))) j)) (List.range (List.length (Prod.fst (jUs (vcTpduCutsA7 b c size)))))) ≤ y_1 ∧ y_1 ≤ y_1 ∧ (∀ (j : Nat), j < List.length (List.map (fun (j : Nat) => sRow (srow (Prod.fst (jUs
  (vcTpduCutsA7 b c size))) j)) (List.range (List.length (Prod.fst (jUs (vcTpduCutsA7 b c size)))))) → srow (Prod.fst (jUs (vcTpduCutsA7 b c size))) j = srow (List.map (fun (j : Nat) => sRow (srow (Prod.fst (jUs
  (vcTpduCutsA7 b c size))) j)) (List.range (List.length (Prod.fst (jUs (vcTpduCutsA7 b c size)))))) j ∧ true = true) ∧ (2 : Nat) ≤ (2 : Nat) ∧ (2 : Nat) ≤ (2 : Nat) ∧ (2 : Nat) ≤ (2 : Nat) ∧ (vcTpduCutsA8 b c size) ∧
  (List.length (List.map (fun (j : Nat) => sRow (srow (Prod.fst (jUs (vcTpduCutsA7 b c size))) j)) (List.range (List.length (Prod.fst (jUs (vcTpduCutsA7 b c size)))))) ≤ (100000 : Nat) ∧ List.length (List.map (fun (j :
  Nat) => sRow (srow (Prod.fst (jUs (vcTpduCutsA7 b c size))) j)) (List.range (List.length (Prod.fst (jUs (vcTpduCutsA7 b c size)))))) ≤ y_1 ∧ (2 : Nat) ≤ (2 : Nat)) ∧ (True → condX (bif bif false then true else !decide
  (Prod.snd (jUs (vcTpduCutsA7 b c size)) = ByteArray.mk #[]) then true else !decide (List.map (fun (j : Nat) => sRow (srow (Prod.fst (jUs (vcTpduCutsA7 b c size))) j)) (List.range (List.length (Prod.fst (jUs (vcTpduCutsA7
  b c size))))) = [sRow [SV.g (Value.string (List.getD [b, c] (0 : Nat) ByteArray.empty))], sRow [SV.g (Value.string (List.getD [b, c] (1 : Nat) ByteArray.empty))]])) (SV.g (Value.bool false) = SV.g (Value.bool true)) (((0
  : Int) ≤ IntKind.wrap IntKind.i64 ((↑(List.length (cutL c (pieceN size))) : Int) - (1 : Int)) ∧ IntKind.wrap IntKind.i64 ((↑(List.length (cutL c (pieceN size))) : Int) - (1 : Int)) ≤ (↑y : Int)) ∧ (0 : Nat) ≤ (0 : Nat) ∧
  (∀ (j : Nat), j < (0 : Nat) → true = true) ∧ (0 : Nat) ≤ (0 : Nat) ∧ (0 : Nat) ≤ (0 : Nat) ∧ (0 : Nat) ≤ (140737488355328 : Nat) ∧ ∀ (cap : Nat), (0 : Nat) ≤ cap → (0 : Nat) + (Int.toNat (IntKind.wrap IntKind.i64
  ((↑(List.length (cutL c (pieceN size))) : Int) - (1 : Int))) - (0 : Nat)) ≤ List.length (cutL c (pieceN size)) ∧ (∀ (j : Nat), j < Int.toNat (IntKind.wrap IntKind.i64 ((↑(List.length (cutL c (pieceN size))) : Int) - (1 :
  Int))) - (0 : Nat) → true = true) ∧ (0 : Nat) ≤ (0 : Nat) ∧ (0 : Nat) + cap ≤ cap ∧ ((0 : Nat) + (Int.toNat (IntKind.wrap IntKind.i64 ((↑(List.length (cutL c (pieceN size))) : Int) - (1 : Int))) - (0 : Nat))) * (88 :
  Nat) ≤ (140737488355328 : Nat) ∧ ∀ (cap : Nat), (0 : Nat) + (Int.toNat (IntKind.wrap IntKind.i64 ((↑(List.length (cutL c (pieceN size))) : Int) - (1 : Int))) - (0 : Nat)) ≤ cap → (0 : Nat) = (0 : Nat) ∧ (0 : Nat) +
  (Int.toNat (IntKind.wrap IntKind.i64 ((↑(List.length (cutL c (pieceN size))) : Int) - (1 : Int))) - (0 : Nat)) = List.length (vcTpduCutsA6 b c size) ∧ cap = cap ∧ List.length (vcTpduCutsA6 b c size) ≤ (0 : Nat) +
  (Int.toNat (IntKind.wrap IntKind.i64 ((↑(List.length (cutL c (pieceN size))) : Int) - (1 : Int))) - (0 : Nat)) ∧ List.length (vcTpduCutsA6 b c size) ≤ cap ∧ cap ≤ cap ∧ (∀ (j : Nat), j < List.length (vcTpduCutsA6 b c
  size) → [SV.g (Value.int IntKind.i64 (U.k (List.getD (cutL c (pieceN size)) (j - (0 : Nat)) uZero))), SV.g (Value.int IntKind.i64 (U.to (List.getD (cutL c (pieceN size)) (j - (0 : Nat)) uZero))), SV.g (Value.int
  IntKind.i64 (U.fr (List.getD (cutL c (pieceN size)) (j - (0 : Nat)) uZero))), SV.g (Value.int IntKind.i64 (U.cl (List.getD (cutL c (pieceN size)) (j - (0 : Nat)) uZero))), SV.g (Value.int IntKind.i64 (U.sz (List.getD
  (cutL c (pieceN size)) (j - (0 : Nat)) uZero))), SV.g (Value.int IntKind.i64 (U.nu (List.getD (cutL c (pieceN size)) (j - (0 : Nat)) uZero))), SV.g (Value.int IntKind.i64 (U.cr (List.getD (cutL c (pieceN size)) (j - (0 :
  Nat)) uZero))), SV.g (Value.int IntKind.i64 (U.re (List.getD (cutL c (pieceN size)) (j - (0 : Nat)) uZero))), SV.g (Value.bool (U.e (List.getD (cutL c (pieceN size)) (j - (0 : Nat)) uZero))), SV.g (Value.string (U.d
  (List.getD (cutL c (pieceN size)) (j - (0 : Nat)) uZero)))] = urow (vcTpduCutsA6 b c size) j ∧ true = true) ∧ (List.length (vcTpduCutsA6 b c size) ≤ (1000 : Nat) ∧ List.length (vcTpduCutsA6 b c size) ≤ cap) ∧ (∀ (y :
  Nat), jOK (vcTpduCutsA6 b c size) ∧ List.length (Prod.fst (jUs (vcTpduCutsA6 b c size))) ≤ y → ((bif bif true then (↑(List.length (Prod.fst (jUs (vcTpduCutsA6 b c size)))) : Int) == (1 : Int) else false then decide
  ((↑(ByteArray.size (Prod.snd (jUs (vcTpduCutsA6 b c size)))) : Int) ≤ (↑(ByteArray.size c) : Int)) else false) = true → (0 : Int) ≤ (↑(ByteArray.size (Prod.snd (jUs (vcTpduCutsA6 b c size)))) : Int) ∧ (↑(ByteArray.size
  (Prod.snd (jUs (vcTpduCutsA6 b c size)))) : Int) ≤ (↑(ByteArray.size c) : Int)) ∧ ((bif bif bif true then (↑(List.length (Prod.fst (jUs (vcTpduCutsA6 b c size)))) : Int) == (1 : Int) else false then decide
  ((↑(ByteArray.size (Prod.snd (jUs (vcTpduCutsA6 b c size)))) : Int) ≤ (↑(ByteArray.size c) : Int)) else false then decide (Prod.snd (jUs (vcTpduCutsA6 b c size)) = ByteArray.extract c (0 : Nat) (Int.toNat
  (↑(ByteArray.size (Prod.snd (jUs (vcTpduCutsA6 b c size)))) : Int))) else false) = true → True) ∧ SV.g (Value.bool (bif bif bif bif true then (↑(List.length (Prod.fst (jUs (vcTpduCutsA6 b c size)))) : Int) == (1 : Int)
  else false then decide ((↑(ByteArray.size (Prod.snd (jUs (vcTpduCutsA6 b c size)))) : Int) ≤ (↑(ByteArray.size c) : Int)) else false then decide (Prod.snd (jUs (vcTpduCutsA6 b c size)) = ByteArray.extract c (0 : Nat)
  (Int.toNat (↑(ByteArray.size (Prod.snd (jUs (vcTpduCutsA6 b c size)))) : Int))) else false then true else false)) = SV.g (Value.bool true)) ∧ (¬jOK (vcTpduCutsA6 b c size) → (false = true → (0 : Int) ≤ (0 : Int) ∧ (0 :
  Int) ≤ (↑(ByteArray.size c) : Int)) ∧ (false = true → True) ∧ SV.g (Value.bool false) = SV.g (Value.bool true))))) (condX (!bif false then true else !decide (Prod.snd (jUs (vcTpduCutsA7 b c size)) = ByteArray.mk #[]))
  False ((bif false then true else !decide (Prod.snd (jUs (vcTpduCutsA7 b c size)) = ByteArray.mk #[])) = true ∧ SV.g (Value.bool false) = SV.g (Value.bool true)))) (condX (!bif false then true else !decide (Prod.snd (jUs
  (vcTpduCutsA7 b c size)) = ByteArray.mk #[])) False (condX (!bif false then true else !decide (Prod.snd (jUs (vcTpduCutsA7 b c size)) = ByteArray.mk #[])) False ((bif false then true else !decide (Prod.snd (jUs
  (vcTpduCutsA7 b c size)) = ByteArray.mk #[])) = true ∧ SV.g (Value.bool false) = SV.g (Value.bool true))))) ∧ (¬jOK (vcTpduCutsA7 b c size) → true = true ∧ SV.g (Value.bool false) = SV.g (Value.bool true))) ∧ (cutE c
  size ≠ (0 : Int) → condX (cutE c size != (0 : Int)) (True ∧ SV.g (Value.bool true) = SV.g (Value.bool true)) ((0 : Nat) ≤ (0 : Nat) ∧ (∀ (j : Nat), j < (0 : Nat) → true = true) ∧ (0 : Nat) ≤ (0 : Nat) ∧ (0 : Nat) ≤ (0 :
  Nat) ∧ (0 : Nat) ≤ (140737488355328 : Nat) ∧ ∀ (cap : Nat), (0 : Nat) ≤ cap → (0 : Nat) ≤ (0 : Nat) ∧ (∀ (j : Nat), j < (0 : Nat) → true = true) ∧ (0 : Nat) ≤ (0 : Nat) ∧ (0 : Nat) + cap ≤ cap ∧ (0 : Nat) ≤
  (140737488355328 : Nat) ∧ ∀ (cap : Nat), (0 : Nat) ≤ cap → (0 : Nat) = (0 : Nat) ∧ (0 : Nat) = (0 : Nat) ∧ cap = cap ∧ (0 : Nat) ≤ (0 : Nat) ∧ (0 : Nat) ≤ cap ∧ cap ≤ cap ∧ (∀ (j : Nat), j < (0 : Nat) → [SV.g (Value.int
  IntKind.i64 (0 : Int)), SV.g (Value.int IntKind.i64 (0 : Int)), SV.g (Value.int IntKind.i64 (0 : Int)), SV.g (Value.int IntKind.i64 (0 : Int)), SV.g (Value.int IntKind.i64 (0 : Int)), SV.g (Value.int IntKind.i64 (0 :
  Int)), SV.g (Value.int IntKind.i64 (0 : Int)), SV.g (Value.int IntKind.i64 (0 : Int)), SV.g (Value.bool false), SV.g (Value.string (ByteArray.mk #[]))] = urow [] j ∧ true = true) ∧ ((0 : Nat) ≤ (1000 : Nat) ∧ (0 : Nat) ≤
  cap) ∧ (∀ (y : Nat), jOK [] ∧ (0 : Nat) ≤ y → (0 : Nat) = (0 : Nat) ∧ (0 : Nat) = (0 : Nat) ∧ y = y ∧ (0 : Nat) = (0 : Nat) ∧ (2 : Nat) = (2 : Nat) ∧ (2 : Nat) = (2 : Nat) ∧ (0 : Nat) ≤ (0 : Nat) ∧ (0 : Nat) ≤ y ∧ y ≤ y
  ∧ (∀ (j : Nat), j < (0 : Nat) → srow [] j = srow [] j ∧ true = true) ∧ (2 : Nat) ≤ (2 : Nat) ∧ (2 : Nat) ≤ (2 : Nat) ∧ (2 : Nat) ≤ (2 : Nat) ∧ (vcTpduCutsA8 b c size) ∧ ((0 : Nat) ≤ (100000 : Nat) ∧ (0 : Nat) ≤ y ∧ (2 :
  Nat) ≤ (2 : Nat)) ∧ (True → SV.g (Value.bool false) = SV.g (Value.bool true))) ∧ (¬jOK [] → true = true ∧ SV.g (Value.bool false) = SV.g (Value.bool true)))))))) (condX (!cutE b size != cutE b size) False ((cutE b size
  != cutE b size) = true ∧ SV.g (Value.bool false) = SV.g (Value.bool true)))) (condX (!cutE b size != cutE b size) False (condX (!cutE b size != cutE b size) False ((cutE b size != cutE b size) = true ∧ SV.g (Value.bool
  false) = SV.g (Value.bool true))))))
def VcTpduCutsS : Prop := ∀ (b c : ByteArray) (size : Int), fnX (cxl 111 3) (bodyOf Try.f5) Try.f5.results.toList [.g (.string b), .g (.string c), .g (.int .i64 size)] [] (fun r _ => r = .g (.bool true))
theorem vcTpduCutsE : VcTpduCuts = VcTpduCutsS := by kernel_rfl
set_option maxHeartbeats 4000000 in
theorem vcTpduCuts : VcTpduCuts := by
  intro b c size
  unfold vcTpduCutsA10 vcTpduCutsA9 vcTpduCutsA8 vcTpduCutsA7 vcTpduCutsA6 vcTpduCutsA5 vcTpduCutsA4 vcTpduCutsA3 vcTpduCutsA2 vcTpduCutsA1 vcTpduCutsA0
  by_cases hE : cutE b size = 0
  rotate_left
  · have hne : (cutE b size != 0) = true := bne_iff_ne.2 hE
    simp only [hE, hne, bne_self_eq_false, cond_false, false_and, false_implies, implies_true, true_and, and_true, ne_eq, not_false_eq_true, true_implies, Nat.le_refl, List.length_nil, eq_self, decide_true, condX_t, condX_f, Bool.not_true, Bool.not_false, cond_true]
    exact ⟨by omega, fun y _ => ⟨by omega, by omega, by omega⟩⟩
  by_cases hc : cutE c size = 0
  rotate_left
  · have hne : (cutE c size != 0) = true := bne_iff_ne.2 hc
    simp only [hE, hc, hne, bne_self_eq_false, cond_false, false_and, false_implies, implies_true, true_and, and_true, ne_eq, not_false_eq_true, not_true_eq_false, true_implies, Nat.le_refl, List.length_nil, eq_self, decide_true, condX_t, condX_f, Bool.not_true, Bool.not_false, cond_true, uRow_urow]
    obtain ⟨h1, h2⟩ := cutE_zero hE
    have hl : (cutL b (pieceN size)).length ≤ 126 := by rw [cutL_len]; exact cutN_hi (piece_facts h1).2.2.2.1 h2
    generalize cutL b (pieceN size) = A at *
    intro y hy y1 hy1
    refine ⟨hy, ⟨by omega, hy⟩, fun y2 hy2 => ⟨hy2, hy1, by omega, hy2, hy1⟩⟩
  obtain ⟨hA, hB, j1, o1, j2, o2, hk⟩ := cut_facts hE hc
  have e0 := cutL_len b (pieceN size)
  generalize (cutN c.size (pieceN size) - 1) * pieceN size = k at *
  generalize cutL b (pieceN size) = A at *
  generalize cutL c (pieceN size) = B at *
  have wcut : IntKind.i64.wrap (((B.length : Nat) : Int) - 1) = ((B.length - 1 : Nat) : Int) := by rw [wrap1 (by omega) (by omega)]; omega
  have hs2 : List.map (fun j => sRow (srow [b, c] j)) (List.range (1 + 1)) = [b, c] := rfl
  have hs1 : List.map (fun j => sRow (srow [b] j)) (List.range 1) = [b] := rfl
  have sg : ∀ s : ByteArray, sRow [SV.g (.string s)] = s := fun _ => rfl
  have rows2 := fun r0 => rows_two A B r0 (B.length - 1) (by omega)
  simp only [eq_self, true_and, and_true, Nat.le_refl, Int.le_refl, implies_true, forall_const, and_false, false_and, exists_false, false_or, or_false, true_implies, Nat.zero_add, and_self, Int.toNat_natCast, cond_true, cond_false, uRow_urow, sRow_srow, rows_two', wcut, rows2, decide_true, Bool.not_true, Bool.not_false, Nat.sub_zero, j1, o1, j2, o2, hE, hc, condX_t, condX_f, ne_eq, not_true_eq_false, false_implies, List.length_cons, List.length_nil, decide_false, bne_self_eq_false, hs1, hs2, sg, List.getD_cons_zero, List.getD_cons_succ]
  have hks : (c.extract 0 k).size = k := by rw [size_ext0]; omega
  have hl1 : (A ++ B).length = A.length + B.length := List.length_append
  have hl2 : (A ++ List.take (B.length - 1) B).length = A.length + (B.length - 1) := by rw [List.length_append, List.length_take]; omega
  have r1 : ∀ (r0 : Nat → List SV) (j : Nat), j < (A ++ B).length → appRows 0 0 A.length (appRows 0 0 0 r0 fun j => urow A j) (fun j => urow B j) j = urow (A ++ B) j := fun r0 j hj => by
    have := urow_two A B r0 (n := B.length) (Nat.le_refl _) (j := j) (by omega)
    rwa [List.take_length] at this
  have r2 : ∀ (r0 : Nat → List SV) (j : Nat), j < (A ++ List.take (B.length - 1) B).length → appRows 0 0 A.length (appRows 0 0 0 r0 fun j => urow A j) (fun j => urow B j) j = urow (A ++ List.take (B.length - 1) B) j := fun r0 j hj =>
    urow_two A B r0 (n := B.length - 1) (by omega) (j := j) (by omega)
  rw [hks]
  intro y hy y1 hy1
  refine ⟨hy, ⟨by omega, hy⟩, fun y2 hy2 => ⟨hy2, hy1, ⟨by omega, hy2, hy1⟩, fun y3 hy3 => ⟨by omega, fun cap1 hc1 => ⟨by omega, fun cap2 hc2 => ⟨by omega, by omega, by omega, r1 _, ⟨by omega, by omega⟩, fun y4 hy4 => ⟨hy4, fun j _ => rfl, ⟨by omega, hy4⟩, ⟨by omega, by omega⟩, by omega, fun cap3 hc3 => ⟨by omega, by omega, fun cap4 hc4 => ⟨by omega, by omega, by omega, r2 _, ⟨by omega, by omega⟩, fun y5 hy5 => ⟨fun _ => ⟨by omega, by omega⟩, ?_⟩⟩⟩⟩⟩⟩⟩⟩⟩
  have : ((k : Int) ≤ (c.size : Int)) := by omega
  simp [this]
theorem vcTpduCutsK : ∀ (b c : ByteArray) (size : Int), Held (fnX (cxl 111 3) (bodyOf Try.f5) Try.f5.results.toList [.g (.string b), .g (.string c), .g (.int .i64 size)] [] (fun r _ => r = .g (.bool true))) := held3 (p := fun (b c : ByteArray) (size : Int) => fnX (cxl 111 3) (bodyOf Try.f5) Try.f5.results.toList [.g (.string b), .g (.string c), .g (.int .i64 size)] [] (fun r _ => r = .g (.bool true))) vcTpduCutsE vcTpduCuts
end Go.Proofs.Ytmblefpbfpjneaa
