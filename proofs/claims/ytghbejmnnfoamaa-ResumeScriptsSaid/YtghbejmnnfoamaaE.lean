/- Chapter 15: bytes as lists; both Sum; Write. -/
import Derived.Test.YtghbejmnnfoamaaD
set_option linter.unusedVariables false
set_option linter.unusedSimpArgs false
namespace Go.Proofs.Ytghbejmnnfoamaa
open Go Go.Eng
attribute [local irreducible] condX
theorem ok_head : GenSound Try.prog Λ0 66 (callX C_head getHead) :=
  gen_of (ty := ty) (Γ := ΓOf Γ2) hm tyOK Γ2_ok (fnOK_of Try.func66 (by kernel_rfl) (by kernel_rfl)) Try.func66 (body_some (by kernel_rfl)) C_head getHead Try.ntmps66 (fun _ => Nat.le_of_ble_eq_true rfl) (fun x => (cx_head x).cut) (fun x => (cx_head x).loop) fun x h => vcHeadK x h
def Γ3 : List (Nat × Rule) := (66, .gen (callX C_head getHead)) :: Γ2
theorem Γ3_ok : ΓOK Try.prog Λ0 (ΓOf Γ3) := (ΓOf_cons ok_head Γ2_ok)
/-- The bytes of a text, as numbers. -/
def byL (b : ByteArray) : List Int := b.data.toList.map fun c => (c.toNat : Int)
theorem byL_len (b : ByteArray) : (byL b).length = b.size := by unfold byL; rw [List.length_map]; rfl
theorem byL_get {b : ByteArray} {j : Nat} (h : j < b.size) : (byL b)[j]? = some (byteAt b j) := by
  have h' : j < b.data.size := h
  unfold byL byteAt
  rw [List.getElem?_map, Array.getElem?_toList, Array.getElem?_eq_getElem h', Array.getD_eq_getD_getElem?, Int.toNat_natCast, Array.getElem?_eq_getElem h']; rfl
theorem byteAt_lt (b : ByteArray) (j : Int) : 0 ≤ byteAt b j ∧ byteAt b j < 256 := by
  unfold byteAt
  have := (b.data.getD j.toNat 0).toNat_lt
  omega
theorem bz_byL (b : ByteArray) : bz (byL b) = b := by
  obtain ⟨a⟩ := b
  simp [bz, byL, Function.comp_def]
theorem bz_app (l m : List Int) : bz (l ++ m) = bz l ++ bz m := by
  simp only [bz, List.map_append]
  apply ByteArray.ext
  simp
theorem bz_size (l : List Int) : (bz l).size = l.length := by simp [bz, ByteArray.size]
theorem byL_bz {l : List Int} (h : ∀ x ∈ l, 0 ≤ x ∧ x < 256) : byL (bz l) = l := by
  simp only [byL, bz, List.map_map]
  conv => rhs; rw [← List.map_id l]
  apply List.map_congr_left
  intro x hx
  obtain ⟨h0, h1⟩ := h x hx
  simp [UInt8.toNat_ofNat']; omega
/-- The two sums, byte by byte. -/
def sum1 (s : Int × Int) (x : Int) : Int × Int := ((s.1 + x) % 255, (s.2 + (s.1 + x) % 255) % 255)
def sumL (l : List Int) : Int × Int := l.foldl sum1 (0, 0)
theorem sumL_snoc (l : List Int) (x : Int) : sumL (l ++ [x]) = sum1 (sumL l) x := by simp [sumL]
theorem sumL_bd (l : List Int) (h : ∀ x ∈ l, 0 ≤ x) : 0 ≤ (sumL l).1 ∧ (sumL l).1 < 255 ∧ 0 ≤ (sumL l).2 ∧ (sumL l).2 < 255 := by
  unfold sumL
  have : ∀ (l : List Int) (s : Int × Int), 0 ≤ s.1 ∧ s.1 < 255 ∧ 0 ≤ s.2 ∧ s.2 < 255 → (∀ x ∈ l, 0 ≤ x) → 0 ≤ (l.foldl sum1 s).1 ∧ (l.foldl sum1 s).1 < 255 ∧ 0 ≤ (l.foldl sum1 s).2 ∧ (l.foldl sum1 s).2 < 255 := by
    intro l
    induction l with
    | nil => intro s hs _; exact hs
    | cons x l ih => intro s hs hl; exact ih _ (by unfold sum1; have := hl x (by simp); simp only []; omega) fun y hy => hl y (by simp [hy])
  exact this l (0, 0) (by decide) h
theorem byL_nn (b : ByteArray) : ∀ x ∈ byL b, 0 ≤ x ∧ x < 256 := by
  intro x hx
  obtain ⟨c, _, rfl⟩ := List.mem_map.1 hx
  have := c.toNat_lt
  omega
theorem byL_take (b : ByteArray) {i : Nat} (h : i < b.size) : (byL b).take (i + 1) = (byL b).take i ++ [byteAt b i] := by
  rw [List.take_add_one, byL_get h]; rfl
def sumN (b : ByteArray) (i : Nat) : Int × Int := sumL ((byL b).take i)
theorem sumN_succ {b : ByteArray} {i : Nat} (h : i < b.size) : sumN b (i + 1) = sum1 (sumN b i) (byteAt b i) := by
  unfold sumN; rw [byL_take b h, sumL_snoc]
theorem sumN_bd (b : ByteArray) (i : Nat) : 0 ≤ (sumN b i).1 ∧ (sumN b i).1 < 255 ∧ 0 ≤ (sumN b i).2 ∧ (sumN b i).2 < 255 :=
  sumL_bd _ fun x hx => (byL_nn b x (List.mem_of_mem_take hx)).1
theorem sumN_all (b : ByteArray) : sumN b b.size = sumL (byL b) := by
  unfold sumN; rw [List.take_of_length_le (by rw [byL_len]; exact Nat.le_refl _)]
def sumS (b : ByteArray) : ByteArray := if 4000 < b.size then ⟨#[]⟩ else bz [(sumL (byL b)).1, (sumL (byL b)).2]
def sumE (b : ByteArray) : Int := if 4000 < b.size then 2 else 0
def sumR (b : ByteArray) : SV := .tup [.g (.string (sumS b)), .g (.int .i64 (sumE b))]
def X_Sum : XC := ⟨ByteArray, fun | [.g (.string b)] => some b | _ => none, fun b => [.g (.string b)], fun _ => True, sumR⟩
def X_rSum : XC := ⟨ByteArray, fun | [.g (.string b)] => some b | _ => none, fun b => [.g (.string b)], fun _ => True, sumR⟩
def annSum (b : ByteArray) : Ann := ⟨Nat, fun i => ⟨[(0, .g (.string b)), (4, .g (.int .i64 (sumN b i).1)), (5, .g (.int .i64 (sumN b i).2)), (11, .g (.int .i64 b.size)), (12, .g (.int .i64 i))], [], 0, 0, []⟩, fun i => i ≤ b.size, fun i => b.size - i⟩
def cx_Sum (b : ByteArray) : Cx := ⟨ty, ΓOf Γ2, fun _ => [], fun i _ => if i = 5 then [annSum b] else [], 33, 0⟩
def annRSum (b : ByteArray) : Ann := ⟨Nat, fun i => ⟨[(0, .g (.string b)), (4, .g (.int .i64 (sumN b i).1)), (5, .g (.int .i64 (sumN b i).2)), (6, .g (.int .i64 i))], [], 0, 0, []⟩, fun i => i ≤ b.size, fun i => b.size - i⟩
def cx_rSum (b : ByteArray) : Cx := ⟨ty, ΓOf Γ2, fun _ => [], fun i _ => if i = 6 then [annRSum b] else [], 33, 0⟩
theorem tmod_nn {a : Int} (h : 0 ≤ a) (n : Int) : Int.tmod a n = a % n := Int.tmod_eq_emod_of_nonneg h
theorem wrapU8 {a : Int} (h0 : 0 ≤ a) (h : a < 256) : IntKind.wrap IntKind.u8 a = a := by simp [IntKind.wrap, IntKind.bits, IntKind.signed]; omega
def VcSum : Prop := ∀ (b : ByteArray), True → condX (decide ((4000 : Int) < (↑(ByteArray.size b) : Int))) (SV.tup [SV.g (Value.string (ByteArray.mk #[])), SV.g (Value.int IntKind.i64 (2 : Int))] = SV.tup [SV.g (Value.string (sumS b)), SV.g
  (Value.int IntKind.i64 (sumE b))]) ((∃ (x : Nat), x ≤ ByteArray.size b ∧ b = b ∧ (0 : Int) = Prod.fst (sumN b x) ∧ (0 : Int) = Prod.snd (sumN b x) ∧ (↑(ByteArray.size b) : Int) = (↑(ByteArray.size b) : Int) ∧ (0 : Int) =
  (↑x : Int) ∧ True) ∧ ∀ (x : Nat), x ≤ ByteArray.size b → condX (decide ((↑x : Int) < (↑(ByteArray.size b) : Int))) (((0 : Int) ≤ (↑x : Int) ∧ (↑x : Int) < (↑(ByteArray.size b) : Int)) ∧ (255 : Int) ≠ (0 : Int) ∧ (255 :
  Int) ≠ (0 : Int) ∧ ∃ (x' : Nat), x' ≤ ByteArray.size b ∧ ByteArray.size b - x' < ByteArray.size b - x ∧ b = b ∧ Int.tmod (IntKind.wrap IntKind.i64 (Prod.fst (sumN b x) + IntKind.wrap IntKind.i64 (byteAt b (↑x : Int))))
  (255 : Int) = Prod.fst (sumN b x') ∧ Int.tmod (IntKind.wrap IntKind.i64 (Prod.snd (sumN b x) + Int.tmod (IntKind.wrap IntKind.i64 (Prod.fst (sumN b x) + IntKind.wrap IntKind.i64 (byteAt b (↑x : Int)))) (255 : Int))) (255
  : Int) = Prod.snd (sumN b x') ∧ (↑(ByteArray.size b) : Int) = (↑(ByteArray.size b) : Int) ∧ IntKind.wrap IntKind.i64 ((↑x : Int) + (1 : Int)) = (↑x' : Int) ∧ True) (SV.tup [SV.g (Value.string (ByteArray.mk (List.toArray
  (List.map cellByte (List.take (2 : Nat) (List.drop (0 : Nat) [SV.g (Value.int IntKind.u8 (IntKind.wrap IntKind.u8 (Prod.fst (sumN b x)))), SV.g (Value.int IntKind.u8 (IntKind.wrap IntKind.u8 (Prod.snd (sumN b
  x))))])))))), SV.g (Value.int IntKind.i64 (0 : Int))] = SV.tup [SV.g (Value.string (sumS b)), SV.g (Value.int IntKind.i64 (sumE b))]))
theorem vcSumE : VcSum = (∀ (b : ByteArray), True → fnX (cx_Sum b) (bodyOf Try.f45) Try.f45.results.toList [.g (.string b)] [] (fun r _ => r = sumR b)) := by kernel_rfl
set_option maxHeartbeats 4000000 in
theorem vcSum : VcSum := by
  intro b _
  refine (condX_iff _ _ _).2 ⟨fun h => ?_, fun h => ⟨⟨0, ?_⟩, fun x hx => (condX_iff _ _ _).2 ⟨fun h2 => ⟨?_, ?_, ?_, x + 1, ?_⟩, fun h2 => ?_⟩⟩⟩
  · have h := of_decide_eq_true h; rw [sumS, sumE, if_pos (by omega), if_pos (by omega)]
  · and_intros <;> first | exact Nat.zero_le _ | rfl | trivial
  · have h2 := of_decide_eq_true h2; omega
  · decide
  · decide
  · have h := of_decide_eq_false h
    have h2 := of_decide_eq_true h2
    have hlt : x < b.size := by omega
    obtain ⟨s1, s2, s3, s4⟩ := sumN_bd b x
    obtain ⟨b1, b2⟩ := byteAt_lt b x
    have e1 : IntKind.wrap IntKind.i64 (byteAt b x) = byteAt b x := wrap1 (by omega) (by omega)
    rw [e1, wrap1 (i := (sumN b x).1 + byteAt b x) (by omega) (by omega), tmod_nn (by omega), wrap1 (by omega) (by omega), tmod_nn (by omega), wrap1 (by omega) (by omega), sumN_succ hlt]
    simp only [sum1]
    and_intros <;> first | omega | with_reducible rfl | exact trivial
  · have h := of_decide_eq_false h
    have h2 := of_decide_eq_false h2
    have hx : x = b.size := by omega
    subst hx
    obtain ⟨s1, s2, s3, s4⟩ := sumN_bd b b.size
    rw [wrapU8 (by omega) (by omega), wrapU8 (by omega) (by omega), sumS, sumE, if_neg (by omega), if_neg (by omega), ← sumN_all]; rfl
theorem vcSumK : ∀ (b : ByteArray), True → Held (fnX (cx_Sum b) (bodyOf Try.f45) Try.f45.results.toList [.g (.string b)] [] (fun r _ => r = sumR b)) := held2 vcSumE vcSum
def VcRSum : Prop := ∀ (b : ByteArray), True → condX (decide ((4000 : Int) < (↑(ByteArray.size b) : Int))) (SV.tup [SV.g (Value.string (ByteArray.mk #[])), SV.g (Value.int IntKind.i64 (2 : Int))] = SV.tup [SV.g (Value.string (sumS b)), SV.g
  (Value.int IntKind.i64 (sumE b))]) ((∃ (x : Nat), x ≤ ByteArray.size b ∧ b = b ∧ (0 : Int) = Prod.fst (sumN b x) ∧ (0 : Int) = Prod.snd (sumN b x) ∧ (0 : Int) = (↑x : Int) ∧ True) ∧ ∀ (x : Nat), x ≤ ByteArray.size b →
  condX (decide ((↑x : Int) < (↑(ByteArray.size b) : Int))) (((0 : Int) ≤ (↑x : Int) ∧ (↑x : Int) < (↑(ByteArray.size b) : Int)) ∧ (255 : Int) ≠ (0 : Int) ∧ (255 : Int) ≠ (0 : Int) ∧ ∃ (x' : Nat), x' ≤ ByteArray.size b ∧
  ByteArray.size b - x' < ByteArray.size b - x ∧ b = b ∧ Int.tmod (IntKind.wrap IntKind.i64 (Prod.fst (sumN b x) + IntKind.wrap IntKind.i64 (byteAt b (↑x : Int)))) (255 : Int) = Prod.fst (sumN b x') ∧ Int.tmod
  (IntKind.wrap IntKind.i64 (Prod.snd (sumN b x) + Int.tmod (IntKind.wrap IntKind.i64 (Prod.fst (sumN b x) + IntKind.wrap IntKind.i64 (byteAt b (↑x : Int)))) (255 : Int))) (255 : Int) = Prod.snd (sumN b x') ∧ IntKind.wrap
  IntKind.i64 ((↑x : Int) + (1 : Int)) = (↑x' : Int) ∧ True) (SV.tup [SV.g (Value.string (ByteArray.mk (List.toArray (List.map cellByte (List.take (2 : Nat) (List.drop (0 : Nat) [SV.g (Value.int IntKind.u8 (IntKind.wrap
  IntKind.u8 (Prod.fst (sumN b x)))), SV.g (Value.int IntKind.u8 (IntKind.wrap IntKind.u8 (Prod.snd (sumN b x))))])))))), SV.g (Value.int IntKind.i64 (0 : Int))] = SV.tup [SV.g (Value.string (sumS b)), SV.g (Value.int
  IntKind.i64 (sumE b))]))
theorem vcRSumE : VcRSum = (∀ (b : ByteArray), True → fnX (cx_rSum b) (bodyOf Try.f29) Try.f29.results.toList [.g (.string b)] [] (fun r _ => r = sumR b)) := by kernel_rfl
set_option maxHeartbeats 4000000 in
theorem vcRSum : VcRSum := by
  intro b _
  refine (condX_iff _ _ _).2 ⟨fun h => ?_, fun h => ⟨⟨0, ?_⟩, fun x hx => (condX_iff _ _ _).2 ⟨fun h2 => ⟨?_, ?_, ?_, x + 1, ?_⟩, fun h2 => ?_⟩⟩⟩
  · have h := of_decide_eq_true h; rw [sumS, sumE, if_pos (by omega), if_pos (by omega)]
  · and_intros <;> first | exact Nat.zero_le _ | rfl | trivial
  · have h2 := of_decide_eq_true h2; omega
  · decide
  · decide
  · have h := of_decide_eq_false h
    have h2 := of_decide_eq_true h2
    have hlt : x < b.size := by omega
    obtain ⟨s1, s2, s3, s4⟩ := sumN_bd b x
    obtain ⟨b1, b2⟩ := byteAt_lt b x
    have e1 : IntKind.wrap IntKind.i64 (byteAt b x) = byteAt b x := wrap1 (by omega) (by omega)
    rw [e1, wrap1 (i := (sumN b x).1 + byteAt b x) (by omega) (by omega), tmod_nn (by omega), wrap1 (by omega) (by omega), tmod_nn (by omega), wrap1 (by omega) (by omega), sumN_succ hlt]
    simp only [sum1]
    and_intros <;> first | omega | with_reducible rfl | exact trivial
  · have h := of_decide_eq_false h
    have h2 := of_decide_eq_false h2
    have hx : x = b.size := by omega
    subst hx
    obtain ⟨s1, s2, s3, s4⟩ := sumN_bd b b.size
    rw [wrapU8 (by omega) (by omega), wrapU8 (by omega) (by omega), sumS, sumE, if_neg (by omega), if_neg (by omega), ← sumN_all]; rfl
theorem vcRSumK : ∀ (b : ByteArray), True → Held (fnX (cx_rSum b) (bodyOf Try.f29) Try.f29.results.toList [.g (.string b)] [] (fun r _ => r = sumR b)) := held2 vcRSumE vcRSum
theorem ok_Sum : ExactSound Try.prog Λ0 45 X_Sum.rule :=
  exact_rule (ty := ty) (Γ := ΓOf Γ2) hm tyOK Γ2_ok (fnOK_of Try.func45 (by kernel_rfl) (by kernel_rfl)) Try.func45 (body_some (by kernel_rfl)) X_Sum Try.ntmps45 (fun _ => Nat.le_of_ble_eq_true rfl) (fun _ => rfl) (fun x => rfl) (fun x => (cx_Sum x).cut) (fun x => (cx_Sum x).loop) fun x h => vcSumK x h
theorem ok_rSum : ExactSound Try.prog Λ0 29 X_rSum.rule :=
  exact_rule (ty := ty) (Γ := ΓOf Γ2) hm tyOK Γ2_ok (fnOK_of Try.func29 (by kernel_rfl) (by kernel_rfl)) Try.func29 (body_some (by kernel_rfl)) X_rSum Try.ntmps29 (fun _ => Nat.le_of_ble_eq_true rfl) (fun _ => rfl) (fun x => rfl) (fun x => (cx_rSum x).cut) (fun x => (cx_rSum x).loop) fun x h => vcRSumK x h
def Γ4 : List (Nat × Rule) := (45, .exact X_Sum.rule) :: (29, .exact X_rSum.rule) :: Γ3
theorem Γ4_ok : ΓOK Try.prog Λ0 (ΓOf Γ4) := (ΓOf_cons ok_Sum (ΓOf_cons ok_rSum Γ3_ok))
/-- The bytes of a unit. -/
def frontL (u : U) : List Int := ((headL u).length + 3 : Int) :: headL u ++ [195]
def sumW (u : U) : Int × Int := sumL (frontL u ++ [0, 0] ++ byL u.d)
def writeL (u : U) (c : Bool) : List Int := match c with
  | true => frontL u ++ [(sumW u).1, (sumW u).2] ++ byL u.d
  | false => ((headL u).length : Int) :: headL u ++ byL u.d
def wrS (u : U) (c : Bool) : ByteArray := if okU u then bz (writeL u c) else ⟨#[]⟩
def wrE (u : U) : Int := if okU u then 0 else 1
def wrR (u : U) (c : Bool) : SV := .tup [.g (.string (wrS u c)), .g (.int .i64 (wrE u))]
theorem appRows0 (n : Nat) (r s : Nat → List SV) (j : Nat) : appRows 0 0 n r s j = if j < n then r j else s (j - n) := rfl
theorem brow_right {A B : List Int} {j : Nat} (h : A.length ≤ j) : brow (A ++ B) j = brow B (j - A.length) := by
  simp [brow, List.getD_eq_getElem?_getD, List.getElem?_append_right h]
/-- Rows behind an append. -/
theorem app_row {A B : List Int} {row : Nat → List SV} {j : Nat} (h : ∀ k, k < B.length → row k = brow B k) (hj : j < A.length + B.length) : appRows 0 0 A.length (brow A) row j = brow (A ++ B) j := by
  rw [appRows0]
  split
  · rename_i hlt; exact (brow_left hlt).symm
  · rename_i hge; rw [brow_right (by omega)]; exact h _ (by omega)
theorem app_row2 {A B : List Int} {r s : Nat → List SV} {n j : Nat} (hn : n = A.length) (hA : ∀ k, k < A.length → r k = brow A k) (hB : ∀ k, k < B.length → s k = brow B k) (hj : j < A.length + B.length) : appRows 0 0 n r s j = brow (A ++ B) j := by
  subst hn
  rw [appRows0]
  split
  · rename_i hlt; rw [brow_left hlt]; exact hA j hlt
  · rename_i hge; rw [brow_right (by omega)]; exact hB _ (by omega)
theorem copy_row {A M N B : List Int} {j : Nat} (h : M.length = N.length) : (if A.length ≤ j ∧ j < A.length + N.length then brow N (j - A.length) else brow (A ++ M ++ B) j) = brow (A ++ N ++ B) j := by
  rw [List.append_assoc, List.append_assoc]
  split
  · rename_i hc
    rw [brow_right hc.1, brow_left (by omega)]
  · rename_i hc
    by_cases h1 : j < A.length
    · rw [brow_left h1, brow_left h1]
    · rw [brow_right (by omega), brow_right (A := A) (by omega), brow_right (by omega), brow_right (A := N) (by omega), h]
theorem brow_str (b : ByteArray) {j : Nat} (h : j < b.size) : [SV.g (Value.int IntKind.u8 (byteAt b j))] = brow (byL b) j := by
  simp [brow, List.getD_eq_getElem?_getD, byL_get h]
theorem brow_plain (L : List Int) (j : Nat) : (brow L j).all isPlain = true := rfl
/-- string(b). -/
theorem str_brow {L : List Int} {n : Nat} (hn : n = L.length) (row : Nat → List SV) (h : ∀ j, j < n → row j = brow L j) : (⟨((List.range n).map fun j => rowByte (row j)).toArray⟩ : ByteArray) = bz L := by
  subst hn
  simp only [bz]
  congr 2
  apply List.ext_getElem?
  intro j
  rw [List.getElem?_map, List.getElem?_map]
  by_cases hj : j < L.length
  · rw [List.getElem?_range hj, List.getElem?_eq_getElem hj]
    simp only [Option.map_some]
    rw [h j hj]
    simp [brow, rowByte, List.getD_eq_getElem?_getD, hj]
  · rw [List.getElem?_eq_none (by simp; omega), List.getElem?_eq_none (by omega)]; rfl
def w8 (u : U) (c : Bool) : List Int := match c with
  | true => headL u ++ [195, 0, 0]
  | false => headL u
def w10 (u : U) (c : Bool) : List Int := ((w8 u c).length : Int) :: w8 u c ++ byL u.d
theorem headP_nn {u : U} (hu : okU u) (i : Nat) : ∀ x ∈ headP u i, 0 ≤ x ∧ x < 256 := by
  intro x hx
  simp only [headP, List.mem_cons, List.mem_flatMap] at hx
  rcases hx with rfl | ⟨j, _, hx⟩
  · have := hu.1
    have := hu.2.2.2.1
    unfold lowU; split <;> omega
  · simp only [beL, List.mem_map] at hx
    obtain ⟨k, _, rfl⟩ := hx
    omega
theorem w8_nn {u : U} (hu : okU u) (c : Bool) : ∀ x ∈ w8 u c, 0 ≤ x ∧ x < 256 := by
  intro x hx
  have hh := headP_nn hu (fdOf (kn u.k)).size
  cases c with
  | false => exact hh x hx
  | true =>
    simp only [w8, List.mem_append, List.mem_cons, List.not_mem_nil, or_false] at hx
    rcases hx with hx | rfl | rfl | rfl
    · exact hh x hx
    · decide
    · decide
    · decide
theorem w10_eq (u : U) : w10 u true = frontL u ++ [0, 0] ++ byL u.d := by simp [w10, w8, frontL]
def hlK (k : Nat) : Nat := 1 + ((List.range (fdOf k).size).map fun (j : Nat) => letW (byteAt (fdOf k) j)).sum
theorem headL_len (u : U) : (headL u).length = hlK (kn u.k) := by
  unfold headL headP hlK
  rw [List.length_cons, List.length_flatMap]
  simp only [beL_len]; omega
theorem headL_hi (u : U) : ((headL u).length : Int) + hiOf (kn u.k) ≤ 3990 := by
  rw [headL_len]
  have : ∀ k : Nat, k < 11 → (hlK k : Int) + hiOf k ≤ 3990 := by decide
  exact this _ (kn_lt u.k)
theorem frontL_len (u : U) : (frontL u).length = (headL u).length + 2 := by simp [frontL]
def annW (u : U) (c : Bool) (L : List Int) : Ann := ⟨Nat, fun cap => ⟨[(1, .g (.bool c)), (2, .ptr 0 0 0 0), (8, .sl 1 0 1 L.length cap), (9, .g (.int .i64 (headL u).length))], [(0, .cells u.cells 60), (1, .view 1 L.length cap (brow L) 5)], 2, 0, []⟩,
  fun cap => L.length ≤ cap, fun _ => 0⟩
def cx_Write (u : U) (c : Bool) : Cx := ⟨ty, ΓOf Γ4, fun i => if i = 8 then [annW u c (w8 u c)] else if i = 10 then [annW u c (w10 u c)] else if i = 13 then [annW u c (writeL u c)] else [], fun _ _ => [], 55, 0⟩
def Eq0 (u : U) := (IntKind.wrap IntKind.i64 ((↑(List.length (headL u)) : Int) + (2 : Int)))
def Eq1 (u : U) (c : Bool) := (ByteArray.mk (List.toArray (List.map (fun (j : Nat) => rowByte (brow (w10 u c) ((0 : Nat) + j))) (List.range (List.length (w10 u c))))))
def VcWrite : Prop := ∀ (u : U) (c : Bool), condX (!decide (okU u)) (SV.tup [SV.g (Value.string (ByteArray.mk #[])), SV.g (Value.int IntKind.i64 (1 : Int))] = SV.tup [SV.g (Value.string (wrS u c)), SV.g (Value.int IntKind.i64 (wrE u))]) (U.k
  u = U.k u ∧ U.to u = U.to u ∧ U.fr u = U.fr u ∧ U.cl u = U.cl u ∧ U.sz u = U.sz u ∧ U.nu u = U.nu u ∧ U.cr u = U.cr u ∧ U.re u = U.re u ∧ U.e u = U.e u ∧ U.d u = U.d u ∧ nmOf (kn (U.k u)) = nmOf (kn (U.k u)) ∧ fdOf (kn
  (U.k u)) = fdOf (kn (U.k u)) ∧ loOf (kn (U.k u)) = loOf (kn (U.k u)) ∧ hiOf (kn (U.k u)) = hiOf (kn (U.k u)) ∧ okU u ∧ ∀ (y : Nat), List.length (headL u) ≤ y → condX c ((0 : Nat) + List.length (headL u) ≤ List.length
  (headL u) ∧ (0 : Nat) + y ≤ y ∧ (List.length (headL u) + (3 : Nat)) * (1 : Nat) ≤ (140737488355328 : Nat) ∧ ∀ (cap : Nat), List.length (headL u) + (3 : Nat) ≤ cap → ∃ (x : Nat), List.length (w8 u c) ≤ x ∧ c = c ∧ (0 :
  Nat) = (0 : Nat) ∧ (0 : Nat) = (0 : Nat) ∧ List.length (headL u) + (3 : Nat) = List.length (w8 u c) ∧ cap = x ∧ (↑(List.length (headL u)) : Int) = (↑(List.length (headL u)) : Int) ∧ [SV.g (Value.int IntKind.i64 (U.k u)),
  SV.g (Value.int IntKind.i64 (U.to u)), SV.g (Value.int IntKind.i64 (U.fr u)), SV.g (Value.int IntKind.i64 (U.cl u)), SV.g (Value.int IntKind.i64 (U.sz u)), SV.g (Value.int IntKind.i64 (U.nu u)), SV.g (Value.int
  IntKind.i64 (U.cr u)), SV.g (Value.int IntKind.i64 (U.re u)), SV.g (Value.bool (U.e u)), SV.g (Value.string (U.d u))] = U.cells u ∧ List.length (w8 u c) ≤ List.length (headL u) + (3 : Nat) ∧ List.length (w8 u c) ≤ x ∧ x
  ≤ cap ∧ (∀ (j : Nat), j < List.length (w8 u c) → appRows (0 : Nat) (0 : Nat) (List.length (headL u)) (brow (headL u)) (fun (j : Nat) => List.take (1 : Nat) (List.drop (j * (1 : Nat)) [SV.g (Value.int IntKind.u8 (195 :
  Int)), SV.g (Value.int IntKind.u8 (0 : Int)), SV.g (Value.int IntKind.u8 (0 : Int))])) j = brow (w8 u c) j ∧ true = true) ∧ True) (∃ (x : Nat), List.length (w8 u c) ≤ x ∧ c = c ∧ (0 : Nat) = (0 : Nat) ∧ (0 : Nat) = (0 :
  Nat) ∧ List.length (headL u) = List.length (w8 u c) ∧ y = x ∧ (↑(List.length (headL u)) : Int) = (↑(List.length (headL u)) : Int) ∧ [SV.g (Value.int IntKind.i64 (U.k u)), SV.g (Value.int IntKind.i64 (U.to u)), SV.g
  (Value.int IntKind.i64 (U.fr u)), SV.g (Value.int IntKind.i64 (U.cl u)), SV.g (Value.int IntKind.i64 (U.sz u)), SV.g (Value.int IntKind.i64 (U.nu u)), SV.g (Value.int IntKind.i64 (U.cr u)), SV.g (Value.int IntKind.i64
  (U.re u)), SV.g (Value.bool (U.e u)), SV.g (Value.string (U.d u))] = U.cells u ∧ List.length (w8 u c) ≤ List.length (headL u) ∧ List.length (w8 u c) ≤ x ∧ x ≤ y ∧ (∀ (j : Nat), j < List.length (w8 u c) → brow (headL u) j
  = brow (w8 u c) j ∧ true = true) ∧ True) ∧ ∀ (x : Nat), List.length (w8 u c) ≤ x → (0 : Nat) + List.length (w8 u c) ≤ List.length (w8 u c) ∧ (∀ (j : Nat), j < List.length (w8 u c) → true = true) ∧ (1 : Nat) ≤ (1 : Nat) ∧
  (1 : Nat) ≤ (1 : Nat) ∧ ((1 : Nat) + List.length (w8 u c)) * (1 : Nat) ≤ (140737488355328 : Nat) ∧ ∀ (cap : Nat), (1 : Nat) + List.length (w8 u c) ≤ cap → ((0 : Nat) + ((1 : Nat) + List.length (w8 u c)) ≤ (1 : Nat) +
  List.length (w8 u c) ∧ (0 : Nat) + cap ≤ cap ∧ ((1 : Nat) + List.length (w8 u c) + ByteArray.size (U.d u)) * (1 : Nat) ≤ (140737488355328 : Nat) ∧ ∀ (cap : Nat), (1 : Nat) + List.length (w8 u c) + ByteArray.size (U.d u)
  ≤ cap → ∃ (x : Nat), List.length (w10 u c) ≤ x ∧ c = c ∧ (0 : Nat) = (0 : Nat) ∧ (0 : Nat) = (0 : Nat) ∧ (1 : Nat) + List.length (w8 u c) + ByteArray.size (U.d u) = List.length (w10 u c) ∧ cap = x ∧ (↑(List.length (headL
  u)) : Int) = (↑(List.length (headL u)) : Int) ∧ U.cells u = U.cells u ∧ List.length (w10 u c) ≤ (1 : Nat) + List.length (w8 u c) + ByteArray.size (U.d u) ∧ List.length (w10 u c) ≤ x ∧ x ≤ cap ∧ (∀ (j : Nat), j <
  List.length (w10 u c) → appRows (0 : Nat) (0 : Nat) ((1 : Nat) + List.length (w8 u c)) (appRows (0 : Nat) (0 : Nat) (1 : Nat) (fun (j : Nat) => List.take (1 : Nat) (List.drop (j * (1 : Nat)) [SV.g (Value.int IntKind.u8
  (IntKind.wrap IntKind.u8 (↑(List.length (w8 u c)) : Int)))])) fun (j : Nat) => brow (w8 u c) j) (fun (j : Nat) => [SV.g (Value.int IntKind.u8 (byteAt (U.d u) (↑j : Int)))]) j = brow (w10 u c) j ∧ true = true) ∧ True) ∧ ∀
  (x : Nat), List.length (w10 u c) ≤ x → condX c ((0 : Nat) + List.length (w10 u c) ≤ List.length (w10 u c) ∧ (∀ (j : Nat), j < List.length (w10 u c) → ∃ (m : Int), brow (w10 u c) ((0 : Nat) + j) = [SV.g (Value.int
  IntKind.u8 m)]) ∧ [SV.g (Value.string (Eq1 u c))] = [SV.g (Value.string (Eq1 u c))] ∧ True ∧ ((0 : Int) ≤ IntKind.wrap IntKind.i64 ((↑(List.length (headL u)) : Int) + (2 : Int)) ∧ IntKind.wrap IntKind.i64 ((↑(List.length
  (headL u)) : Int) + (2 : Int)) ≤ (↑(List.length (w10 u c)) : Int)) ∧ (if x = Int.toNat (Eq0 u) then (0 : Nat) else Int.toNat (Eq0 u)) + (List.length (w10 u c) - Int.toNat (Eq0 u)) ≤ List.length (w10 u c) ∧ ∃ (x_1 : Nat),
  List.length (writeL u c) ≤ x_1 ∧ c = c ∧ (0 : Nat) = (0 : Nat) ∧ (0 : Nat) = (0 : Nat) ∧ List.length (w10 u c) = List.length (writeL u c) ∧ x = x_1 ∧ (↑(List.length (headL u)) : Int) = (↑(List.length (headL u)) : Int) ∧
  U.cells u = U.cells u ∧ List.length (writeL u c) ≤ List.length (w10 u c) ∧ List.length (writeL u c) ≤ x_1 ∧ x_1 ≤ x ∧ (∀ (j : Nat), j < List.length (writeL u c) → (if (if x = Int.toNat (Eq0 u) then (0 : Nat) else
  Int.toNat (Eq0 u)) ≤ j ∧ j < (if x = Int.toNat (Eq0 u) then (0 : Nat) else Int.toNat (Eq0 u)) + Nat.min (ByteArray.size (sumS (Eq1 u c))) (List.length (w10 u c) - Int.toNat (Eq0 u)) then [SV.g (Value.int IntKind.u8
  (byteAt (sumS (Eq1 u c)) (↑(j - if x = Int.toNat (Eq0 u) then (0 : Nat) else Int.toNat (Eq0 u)) : Int)))] else brow (w10 u c) j) = brow (writeL u c) j ∧ true = true) ∧ True) (∃ (x_1 : Nat), List.length (writeL u c) ≤ x_1
  ∧ c = c ∧ (0 : Nat) = (0 : Nat) ∧ (0 : Nat) = (0 : Nat) ∧ List.length (w10 u c) = List.length (writeL u c) ∧ x = x_1 ∧ (↑(List.length (headL u)) : Int) = (↑(List.length (headL u)) : Int) ∧ U.cells u = U.cells u ∧
  List.length (writeL u c) ≤ List.length (w10 u c) ∧ List.length (writeL u c) ≤ x_1 ∧ x_1 ≤ x ∧ (∀ (j : Nat), j < List.length (writeL u c) → brow (w10 u c) j = brow (writeL u c) j ∧ true = true) ∧ True) ∧ ∀ (x : Nat),
  List.length (writeL u c) ≤ x → (0 : Nat) + List.length (writeL u c) ≤ List.length (writeL u c) ∧ (∀ (j : Nat), j < List.length (writeL u c) → ∃ (m : Int), brow (writeL u c) ((0 : Nat) + j) = [SV.g (Value.int IntKind.u8
  m)]) ∧ SV.tup [SV.g (Value.string (ByteArray.mk (List.toArray (List.map (fun (j : Nat) => rowByte (brow (writeL u c) ((0 : Nat) + j))) (List.range (List.length (writeL u c))))))), SV.g (Value.int IntKind.i64 (0 : Int))]
  = SV.tup [SV.g (Value.string (wrS u c)), SV.g (Value.int IntKind.i64 (wrE u))])
theorem vcWriteE : VcWrite = (∀ (u : U) (c : Bool), fnX (cx_Write u c) (bodyOf Try.f57) Try.f57.results.toList [.agg u.cells, .g (.bool c)] [] (fun r _ => r = wrR u c)) := by kernel_rfl
set_option maxHeartbeats 4000000 in
theorem vcWrite : VcWrite := by
  unfold VcWrite Eq1 Eq0
  intro u c
  refine (condX_iff _ _ _).2 ⟨fun h => ?_, fun h => ?_⟩
  · have h : ¬ okU u := by simpa using h
    simp only [wrS, wrE, h, if_false]
  have hu : okU u := by simpa using h
  have hk := hu.1
  have hhi : (u.d.size : Int) ≤ 3980 := by
    have h1 := hu.2.1.2
    have : ∀ k : Nat, k < 11 → hiOf k ≤ 3980 := by decide
    have := this _ (kn_lt u.k); omega
  have hlh := headL_hi u
  have hdh := hu.2.1.2
  have hl : (headL u).length ≤ 17 := by
    have h1 := headP_len u (fdOf (kn u.k)).size
    have h2 := fdOf_size (kn_lt u.k)
    unfold headL; omega
  have hw8 : (w8 u c).length = (headL u).length + bif c then 3 else 0 := by cases c <;> simp [w8]
  have hw10 : (w10 u c).length = 1 + (w8 u c).length + u.d.size := by simp [w10, byL_len]; omega
  have hwL : (writeL u c).length = (w10 u c).length := by cases c <;> simp [writeL, w10, w8, frontL, byL_len]
  have hb3 : (bif c then 3 else 0) ≤ 3 := by cases c <;> decide
  refine ⟨rfl, rfl, rfl, rfl, rfl, rfl, rfl, rfl, rfl, rfl, rfl, rfl, rfl, rfl, hu, fun y hy => ⟨(condX_iff _ _ _).2 ⟨fun hc => ?_, fun hc => ?_⟩, fun x hx => ?_⟩⟩
  · subst hc
    simp only [cond_true] at hw8
    refine ⟨by omega, by omega, by omega, fun cap hcap => ⟨cap, ?_⟩⟩
    and_intros <;> try first | omega | with_reducible rfl | exact trivial
    · rfl
    · exact fun j hj => ⟨app_row (B := [195, 0, 0]) (fun k hk => by simp at hk; have : k = 0 ∨ k = 1 ∨ k = 2 := by omega
                                                                    rcases this with rfl | rfl | rfl <;> rfl) (by simpa [w8] using hj), rfl⟩
  · subst hc
    simp only [cond_false] at hw8
    refine ⟨y, ?_⟩
    and_intros <;> try first | omega | with_reducible rfl | exact trivial
    · rfl
    · exact fun j hj => ⟨rfl, rfl⟩
  · refine ⟨by omega, fun j hj => rfl, by omega, by omega, by omega, fun cap hcap => ⟨⟨by omega, by omega, by omega, fun cap2 hcap2 => ⟨cap2, ?_⟩⟩, fun x2 hx2 => ⟨(condX_iff _ _ _).2 ⟨fun hc => ?_, fun hc => ?_⟩, fun x3 hx3 => ?_⟩⟩⟩
    · and_intros <;> try first | omega | with_reducible rfl | exact trivial
      intro j hj
      refine ⟨?_, rfl⟩
      refine app_row2 (A := ((w8 u c).length : Int) :: w8 u c) (by simp; omega) (fun k hk => ?_) (fun k hk => brow_str u.d (by rw [byL_len] at hk; exact hk)) (by simp only [List.length_cons, byL_len]; omega)
      refine app_row2 (A := [((w8 u c).length : Int)]) (B := w8 u c) rfl (fun k hk => ?_) (fun k hk => rfl) (by simp only [List.length_cons, List.length_nil] at hk ⊢; omega)
      have : k = 0 := by simp at hk; omega
      subst this
      rw [wrapU8 (by omega) (by omega)]; rfl
    · subst hc
      refine ⟨by omega, fun j hj => ⟨_, rfl⟩, rfl, trivial, ?_⟩
      simp only [cond_true] at hw8
      have e1 : IntKind.wrap IntKind.i64 ((headL u).length + 2 : Int) = (headL u).length + 2 := wrap1 (by omega) (by omega)
      have e2 : Int.toNat ((headL u).length + 2 : Int) = (headL u).length + 2 := by omega
      have e3 : (if x2 = (headL u).length + 2 then 0 else (headL u).length + 2) = (headL u).length + 2 := if_neg (by omega)
      simp only [e1, e2, e3]
      have hnn : ∀ x ∈ w10 u true, 0 ≤ x ∧ x < 256 := by
        intro x hx
        simp only [w10, List.cons_append, List.mem_cons, List.mem_append] at hx
        rcases hx with rfl | hx | hx
        · omega
        · exact w8_nn hu true x hx
        · exact byL_nn _ x hx
      rw [str_brow rfl _ fun j hj => by rw [Nat.zero_add]]
      have hs : sumS (bz (w10 u true)) = bz [(sumW u).1, (sumW u).2] := by
        rw [sumS, if_neg (by rw [bz_size]; omega), byL_bz hnn, w10_eq]; rfl
      rw [hs]
      refine ⟨by omega, by omega, x2, ?_⟩
      and_intros <;> try first | omega | with_reducible rfl | exact trivial
      intro j hj
      refine ⟨?_, trivial⟩
      obtain ⟨s1, s2, s3, s4⟩ := sumL_bd (frontL u ++ [0, 0] ++ byL u.d) (by rw [← w10_eq]; exact fun x hx => (hnn x hx).1)
      have hm : Nat.min (bz [(sumW u).1, (sumW u).2]).size ((w10 u true).length - ((headL u).length + 2)) = 2 := by
        rw [bz_size]; simp only [List.length_cons, List.length_nil]; exact Nat.min_eq_left (by omega)
      rw [hm, w10_eq, ← frontL_len]
      refine Eq.trans ?_ (copy_row (A := frontL u) (M := [0, 0]) (N := [(sumW u).1, (sumW u).2]) (B := byL u.d) rfl)
      simp only [List.length_cons, List.length_nil]
      split
      · rename_i hc
        rw [brow_str _ (by rw [bz_size]; simp; omega), byL_bz]
        intro x hx
        simp only [List.mem_cons, List.not_mem_nil, or_false] at hx
        unfold sumW at hx
        rcases hx with rfl | rfl <;> omega
      · rfl
    · subst hc
      refine ⟨x2, ?_⟩
      and_intros <;> try first | omega | with_reducible rfl | exact trivial
      exact fun j hj => ⟨rfl, rfl⟩
    · refine ⟨by omega, fun j hj => ⟨_, rfl⟩, ?_⟩
      rw [str_brow rfl _ fun j hj => by rw [Nat.zero_add]]
      simp only [wrS, wrE, hu, if_true]
theorem vcWriteK : ∀ (u : U) (c : Bool), Held (fnX (cx_Write u c) (bodyOf Try.f57) Try.f57.results.toList [.agg u.cells, .g (.bool c)] [] (fun r _ => r = wrR u c)) := held2 vcWriteE vcWrite
def getUC : List SV → Option (U × Bool)
  | [.agg cs, .g (.bool c)] => match uOf cs with
    | some u => some (u, c)
    | none => none
  | _ => none
def X_Write : XC := ⟨U × Bool, getUC, fun x => [.agg x.1.cells, .g (.bool x.2)], fun _ => True, fun x => wrR x.1 x.2⟩
theorem vcWrite2K : ∀ x : U × Bool, True → Held (fnX (cx_Write x.1 x.2) (bodyOf Try.f57) Try.f57.results.toList [.agg x.1.cells, .g (.bool x.2)] [] (fun r _ => r = wrR x.1 x.2)) := fun x _ => vcWriteK x.1 x.2
def cxW (x : U × Bool) : Cx := cx_Write x.1 x.2
theorem ok_Write : ExactSound Try.prog Λ0 57 X_Write.rule :=
  exact_rule (ty := ty) (Γ := ΓOf Γ4) hm tyOK Γ4_ok (fnOK_of Try.func57 (by kernel_rfl) (by kernel_rfl)) Try.func57 (body_some (by kernel_rfl)) X_Write Try.ntmps57 (fun _ => Nat.le_of_ble_eq_true rfl) (fun _ => rfl) (fun x => rfl) (fun x => (cxW x).cut) (fun x => (cxW x).loop) fun x h => vcWrite2K x h
def Γ5 : List (Nat × Rule) := (57, .exact X_Write.rule) :: Γ4
theorem Γ5_ok : ΓOK Try.prog Λ0 (ΓOf Γ5) := (ΓOf_cons ok_Write Γ4_ok)
end Go.Proofs.Ytghbejmnnfoamaa
