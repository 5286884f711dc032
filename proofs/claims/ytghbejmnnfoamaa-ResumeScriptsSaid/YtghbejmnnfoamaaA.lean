/- Chapter 15: the tables. -/
import Derived.Test.YtghbejmnnfoamaaTy
import Derived.Test.YtghbejmnnfoamaaEngLw
import Derived.Laws.RangeString
set_option linter.unusedVariables false
set_option linter.unusedSimpArgs false
namespace Go.Proofs.Ytghbejmnnfoamaa
open Go Go.Eng
attribute [local irreducible] condX
/-- No tables are asked for. -/
def Λ0 : Lay := Lay.none
/-- The kinds: name, fields, least and most data. -/
def kinds : List (ByteArray × ByteArray × Int × Int) := [(⟨#[]⟩, ⟨#[]⟩, 0, 0), (⟨#[67, 82]⟩, ⟨#[102, 99, 115]⟩, 0, 32), (⟨#[67, 67]⟩, ⟨#[116, 102, 99, 115]⟩, 0, 0), (⟨#[68, 82]⟩, ⟨#[116, 102, 114]⟩, 0, 64),
  (⟨#[68, 67]⟩, ⟨#[116, 102]⟩, 0, 0), (⟨#[68, 84]⟩, ⟨#[116, 110]⟩, 0, 3980), (⟨#[65, 75]⟩, ⟨#[116, 110, 99]⟩, 0, 0), (⟨#[82, 74]⟩, ⟨#[116, 110, 99]⟩, 0, 0), (⟨#[69, 68]⟩, ⟨#[116, 110]⟩, 1, 16),
  (⟨#[69, 65]⟩, ⟨#[116, 110]⟩, 0, 0), (⟨#[69, 82]⟩, ⟨#[116, 114]⟩, 0, 64)]
def nmOf (k : Nat) : ByteArray := (kinds.getD k (⟨#[]⟩, ⟨#[]⟩, 0, 0)).1
def fdOf (k : Nat) : ByteArray := (kinds.getD k (⟨#[]⟩, ⟨#[]⟩, 0, 0)).2.1
def loOf (k : Nat) : Int := (kinds.getD k (⟨#[]⟩, ⟨#[]⟩, 0, 0)).2.2.1
def hiOf (k : Nat) : Int := (kinds.getD k (⟨#[]⟩, ⟨#[]⟩, 0, 0)).2.2.2
def frow (k : Nat) : List SV := [.g (.string (nmOf k)), .g (.string (fdOf k)), .g (.int .i64 (loOf k)), .g (.int .i64 (hiOf k))]
/-- A kind's row; 0 for what is no kind. -/
def kn (k : Int) : Nat := if 1 ≤ k ∧ k ≤ 10 then k.toNat else 0
def isK (k : Int) : Bool := decide (1 ≤ k ∧ k ≤ 10)
def annForms (k : Int) : Ann := ⟨Unit, fun _ => ⟨[(0, .g (.int .i64 k)), (2, .ptr 0 0 0 0), (4, .ptr 1 0 0 0), (21, .g (.bool (decide (k < 1) || decide (10 < k))))],
  [(0, .cells [.g (.string ⟨#[]⟩), .g (.string ⟨#[]⟩), .g (.int .i64 0), .g (.int .i64 0)] 79), (1, .view 4 11 11 frow 98)], 2, 0, []⟩, fun _ => True, fun _ => 0⟩
def cxForms (k : Int) : Cx := ⟨ty, ΓOf [], fun i => if i = 3 then [annForms k] else [], fun _ _ => [], 26, 0⟩
def formsR (k : Int) : SV := .tup [.agg (frow (kn k)), .g (.bool (isK k))]
theorem rows11 {f g : Nat → List SV} (h : (List.range 11).map f = (List.range 11).map g) : ∀ j, j < 11 → f j = g j := fun j hj => map_mem h j (List.mem_range.2 hj)
def VcForms : Prop := ∀ (k : Int), (∃ (x : Unit), True ∧ k = k ∧ (0 : Nat) = (0 : Nat) ∧ (0 : Nat) = (0 : Nat) ∧ (bif decide (k < (1 : Int)) then true else decide ((10 : Int) < k)) = (decide (k < (1 : Int)) || decide ((10 : Int) < k)) ∧ [SV.g
  (Value.string (ByteArray.mk #[])), SV.g (Value.string (ByteArray.mk #[])), SV.g (Value.int IntKind.i64 (0 : Int)), SV.g (Value.int IntKind.i64 (0 : Int))] = [SV.g (Value.string (ByteArray.mk #[])), SV.g (Value.string
  (ByteArray.mk #[])), SV.g (Value.int IntKind.i64 (0 : Int)), SV.g (Value.int IntKind.i64 (0 : Int))] ∧ (11 : Nat) ≤ (11 : Nat) ∧ (11 : Nat) ≤ (11 : Nat) ∧ (11 : Nat) ≤ (11 : Nat) ∧ (∀ (j : Nat), j < (11 : Nat) →
  List.take (4 : Nat) (List.drop (j * (4 : Nat)) [SV.g (Value.string (ByteArray.mk #[])), SV.g (Value.string (ByteArray.mk #[])), SV.g (Value.int IntKind.i64 (0 : Int)), SV.g (Value.int IntKind.i64 (0 : Int)), SV.g
  (Value.string (ByteArray.mk #[(67 : UInt8), (82 : UInt8)])), SV.g (Value.string (ByteArray.mk #[(102 : UInt8), (99 : UInt8), (115 : UInt8)])), SV.g (Value.int IntKind.i64 (0 : Int)), SV.g (Value.int IntKind.i64 (32 :
  Int)), SV.g (Value.string (ByteArray.mk #[(67 : UInt8), (67 : UInt8)])), SV.g (Value.string (ByteArray.mk #[(116 : UInt8), (102 : UInt8), (99 : UInt8), (115 : UInt8)])), SV.g (Value.int IntKind.i64 (0 : Int)), SV.g
  (Value.int IntKind.i64 (0 : Int)), SV.g (Value.string (ByteArray.mk #[(68 : UInt8), (82 : UInt8)])), SV.g (Value.string (ByteArray.mk #[(116 : UInt8), (102 : UInt8), (114 : UInt8)])), SV.g (Value.int IntKind.i64 (0 :
  Int)), SV.g (Value.int IntKind.i64 (64 : Int)), SV.g (Value.string (ByteArray.mk #[(68 : UInt8), (67 : UInt8)])), SV.g (Value.string (ByteArray.mk #[(116 : UInt8), (102 : UInt8)])), SV.g (Value.int IntKind.i64 (0 :
  Int)), SV.g (Value.int IntKind.i64 (0 : Int)), SV.g (Value.string (ByteArray.mk #[(68 : UInt8), (84 : UInt8)])), SV.g (Value.string (ByteArray.mk #[(116 : UInt8), (110 : UInt8)])), SV.g (Value.int IntKind.i64 (0 : Int)),
  SV.g (Value.int IntKind.i64 (3980 : Int)), SV.g (Value.string (ByteArray.mk #[(65 : UInt8), (75 : UInt8)])), SV.g (Value.string (ByteArray.mk #[(116 : UInt8), (110 : UInt8), (99 : UInt8)])), SV.g (Value.int IntKind.i64
  (0 : Int)), SV.g (Value.int IntKind.i64 (0 : Int)), SV.g (Value.string (ByteArray.mk #[(82 : UInt8), (74 : UInt8)])), SV.g (Value.string (ByteArray.mk #[(116 : UInt8), (110 : UInt8), (99 : UInt8)])), SV.g (Value.int
  IntKind.i64 (0 : Int)), SV.g (Value.int IntKind.i64 (0 : Int)), SV.g (Value.string (ByteArray.mk #[(69 : UInt8), (68 : UInt8)])), SV.g (Value.string (ByteArray.mk #[(116 : UInt8), (110 : UInt8)])), SV.g (Value.int
  IntKind.i64 (1 : Int)), SV.g (Value.int IntKind.i64 (16 : Int)), SV.g (Value.string (ByteArray.mk #[(69 : UInt8), (65 : UInt8)])), SV.g (Value.string (ByteArray.mk #[(116 : UInt8), (110 : UInt8)])), SV.g (Value.int
  IntKind.i64 (0 : Int)), SV.g (Value.int IntKind.i64 (0 : Int)), SV.g (Value.string (ByteArray.mk #[(69 : UInt8), (82 : UInt8)])), SV.g (Value.string (ByteArray.mk #[(116 : UInt8), (114 : UInt8)])), SV.g (Value.int
  IntKind.i64 (0 : Int)), SV.g (Value.int IntKind.i64 (64 : Int))]) = frow j ∧ true = true) ∧ True) ∧ ∀ (x : Unit), True → condX (decide (k < (1 : Int)) || decide ((10 : Int) < k)) (SV.tup [SV.agg (List.take (4 : Nat)
  (List.drop (0 : Nat) [SV.g (Value.string (ByteArray.mk #[])), SV.g (Value.string (ByteArray.mk #[])), SV.g (Value.int IntKind.i64 (0 : Int)), SV.g (Value.int IntKind.i64 (0 : Int))])), SV.g (Value.bool false)] = SV.tup
  [SV.agg (frow (kn k)), SV.g (Value.bool (isK k))]) (((0 : Int) ≤ k ∧ k < (11 : Int)) ∧ Int.toNat k < (11 : Nat) ∧ SV.tup [SV.agg (List.take (4 : Nat) (List.drop (0 : Nat) [SV.g (Value.string (nmOf (Int.toNat k))), SV.g
  (Value.string (fdOf (Int.toNat k))), SV.g (Value.int IntKind.i64 (loOf (Int.toNat k))), SV.g (Value.int IntKind.i64 (hiOf (Int.toNat k)))])), SV.g (Value.bool true)] = SV.tup [SV.agg (frow (kn k)), SV.g (Value.bool (isK
  k))])
theorem vcFormsE : VcForms = (∀ k : Int, fnX (cxForms k) (bodyOf Try.f41) Try.f41.results.toList [.g (.int .i64 k)] [] (fun r _ => r = formsR k)) := by kernel_rfl
set_option maxHeartbeats 4000000 in
theorem vcForms : VcForms := by
  intro k
  refine ⟨⟨(), trivial, rfl, rfl, rfl, ?_, rfl, Nat.le_refl _, Nat.le_refl _, Nat.le_refl _, ?_, trivial⟩, fun _ _ => (condX_iff _ _ _).2 ⟨fun h => ?_, fun h => ?_⟩⟩
  · cases decide (k < 1) <;> rfl
  · intro j hj; refine ⟨?_, rfl⟩; revert j; refine rows11 ?_; rfl
  · have h' : ¬ (1 ≤ k ∧ k ≤ 10) := by simp at h; omega
    simp only [formsR, kn, isK, h', if_false, decide_false]; rfl
  · have h' : 1 ≤ k ∧ k ≤ 10 := by simp at h; omega
    simp only [formsR, kn, isK, h', if_true, decide_true, and_self]
    exact ⟨by omega, by omega, rfl⟩
theorem vcFormsK : ∀ k : Int, Held (fnX (cxForms k) (bodyOf Try.f41) Try.f41.results.toList [.g (.int .i64 k)] [] (fun r _ => r = formsR k)) := held1 vcFormsE vcForms
theorem hm : Try.prog.follows .mixedOrders = true := by kernel_rfl
def R_forms : List SV → Option (List Prop × SV)
  | [.g (.int .i64 k)] => some ([], formsR k)
  | _ => none
theorem ok_forms : ExactSound Try.prog Λ0 41 R_forms := ⟨fnOK_of Try.func41 (by kernel_rfl) (by kernel_rfl), fun args pre r h hp A ρ => by
  unfold R_forms at h; split at h
  · simp only [Option.some.injEq, Prod.mk.injEq] at h; obtain ⟨rfl, rfl⟩ := h
    rename_i k
    exact fun _ => exact_of (cx := cxForms k) hm tyOK (ΓOf_nil _) Try.func41 (body_some (by kernel_rfl)) Try.ntmps41 rfl (Nat.le_of_ble_eq_true rfl) rfl rfl (vcFormsK _) A ρ
  · cases h⟩

/-- A byte stands in a text. -/
def hasB (s : ByteArray) (c : Int) : Bool := (List.range s.size).any fun j => decide (byteAt s j = c)
theorem hasB_true {s : ByteArray} {c : Int} {j : Nat} (h : j < s.size) (e : byteAt s j = c) : hasB s c = true := List.any_eq_true.2 ⟨j, List.mem_range.2 h, by simpa using e⟩
theorem hasB_false {s : ByteArray} {c : Int} (h : ∀ j, j < s.size → byteAt s j ≠ c) : hasB s c = false := by
  rw [hasB, List.any_eq_false]; intro j hj; simpa using h j (List.mem_range.1 hj)
def ascii (s : ByteArray) : Prop := ∀ j, j < s.size → byteAt s j < 128
theorem decode_at {s : ByteArray} {j : Nat} (ha : ascii s) (h : j < s.size) : (((Utf8.decode s j).1 : Nat) : Int) = byteAt s j ∧ (Utf8.decode s j).2 = 1 := by
  have e : byteAt s j = ((s[j]'h).toNat : Int) := by
    unfold byteAt
    have : s.data.getD j 0 = s[j]'h := by
      rw [Array.getD_eq_getD_getElem?, Array.getElem?_eq_getElem h]; rfl
    simp only [Int.toNat_natCast, this]
  have hb := ha j h
  rw [e] at hb ⊢
  rw [decode_ascii s j h (by omega)]
  exact ⟨rfl, rfl⟩

def annHas (c : Int) (l : ByteArray) : Ann := ⟨Nat, fun i => ⟨[(1, .g (.int .u8 c)), (5, .g (.string l)), (6, .g (.int .i64 i))], [], 0, 0, []⟩, fun i => i ≤ l.size ∧ ∀ j < i, byteAt l j ≠ c, fun i => l.size - i⟩
def cxHas (c : Int) (l : ByteArray) : Cx := ⟨ty, ΓOf [], fun _ => [], fun i _ => if i = 3 then [annHas c l] else [], 22, 0⟩
theorem fdOf_size {k : Nat} (h : k < 11) : (fdOf k).size ≤ 4 := by
  have : ∀ k, k < 11 → (fdOf k).size ≤ 4 := by decide
  exact this k h
theorem wrap1 {i : Int} (h : -9223372036854775808 ≤ i) (h' : i < 9223372036854775808) : IntKind.i64.wrap i = i := by
  simp [IntKind.wrap, IntKind.bits, IntKind.signed]; omega
def VcHas : Prop := ∀ (k c : Int), (0 : Int) ≤ k → k < (11 : Int) → ((0 : Int) ≤ k ∧ k < (11 : Int)) ∧ Int.toNat k < (11 : Nat) ∧ (∃ (x : Nat), (x ≤ ByteArray.size (fdOf (Int.toNat k)) ∧ ∀ (j : Nat), j < x → byteAt (fdOf (Int.toNat k)) (↑j
  : Int) ≠ c) ∧ c = c ∧ List.getD [ByteArray.mk #[], ByteArray.mk #[(102 : UInt8), (99 : UInt8), (115 : UInt8)], ByteArray.mk #[(116 : UInt8), (102 : UInt8), (99 : UInt8), (115 : UInt8)], ByteArray.mk #[(116 : UInt8), (102
  : UInt8), (114 : UInt8)], ByteArray.mk #[(116 : UInt8), (102 : UInt8)], ByteArray.mk #[(116 : UInt8), (110 : UInt8)], ByteArray.mk #[(116 : UInt8), (110 : UInt8), (99 : UInt8)], ByteArray.mk #[(116 : UInt8), (110 :
  UInt8), (99 : UInt8)], ByteArray.mk #[(116 : UInt8), (110 : UInt8)], ByteArray.mk #[(116 : UInt8), (110 : UInt8)], ByteArray.mk #[(116 : UInt8), (114 : UInt8)]] (Int.toNat k) ByteArray.empty = fdOf (Int.toNat k) ∧ (0 :
  Int) = (↑x : Int) ∧ True) ∧ ∀ (x : Nat), (x ≤ ByteArray.size (fdOf (Int.toNat k)) ∧ ∀ (j : Nat), j < x → byteAt (fdOf (Int.toNat k)) (↑j : Int) ≠ c) → condX (decide ((↑x : Int) < (↑(ByteArray.size (fdOf (Int.toNat k))) :
  Int))) (((0 : Int) ≤ (↑x : Int) ∧ (↑x : Int) < (↑(ByteArray.size (fdOf (Int.toNat k))) : Int)) ∧ condX (byteAt (fdOf (Int.toNat k)) (↑x : Int) == c) (SV.g (Value.bool true) = SV.g (Value.bool (hasB (fdOf (Int.toNat k))
  c))) (∃ (x' : Nat), (x' ≤ ByteArray.size (fdOf (Int.toNat k)) ∧ ∀ (j : Nat), j < x' → byteAt (fdOf (Int.toNat k)) (↑j : Int) ≠ c) ∧ ByteArray.size (fdOf (Int.toNat k)) - x' < ByteArray.size (fdOf (Int.toNat k)) - x ∧ c =
  c ∧ fdOf (Int.toNat k) = fdOf (Int.toNat k) ∧ IntKind.wrap IntKind.i64 ((↑x : Int) + (1 : Int)) = (↑x' : Int) ∧ True)) (SV.g (Value.bool false) = SV.g (Value.bool (hasB (fdOf (Int.toNat k)) c)))
theorem vcHasE : VcHas = (∀ k c : Int, 0 ≤ k → k < 11 → fnX (cxHas c (fdOf k.toNat)) (bodyOf Try.f31) Try.f31.results.toList [.g (.int .i64 k), .g (.int .u8 c)] [] (fun r _ => r = .g (.bool (hasB (fdOf k.toNat) c)))) := by kernel_rfl
set_option maxHeartbeats 4000000 in
theorem vcHas : VcHas := by
  intro k c h0 h1
  have hs : (fdOf k.toNat).size ≤ 4 := fdOf_size (by omega)
  refine ⟨⟨h0, h1⟩, by omega, ⟨0, ⟨Nat.zero_le _, fun j hj => absurd hj (Nat.not_lt_zero j)⟩, rfl, ?_, rfl, trivial⟩, fun x hx => (condX_iff _ _ _).2 ⟨fun h => ?_, fun h => ?_⟩⟩
  · have h2 : k.toNat < 11 := by omega
    generalize k.toNat = m at h2
    revert m; decide
  · have hlt : x < (fdOf k.toNat).size := by simpa using h
    refine ⟨⟨by omega, by omega⟩, (condX_iff _ _ _).2 ⟨fun h => ?_, fun h => ?_⟩⟩
    · rw [hasB_true hlt (by simpa using h)]
    · refine ⟨x + 1, ⟨hlt, fun j hj => ?_⟩, by omega, rfl, rfl, ?_, trivial⟩
      · rcases Nat.lt_succ_iff_lt_or_eq.1 hj with h3 | rfl
        · exact hx.2 j h3
        · simpa using h
      · rw [wrap1 (by omega) (by omega)]; rfl
  · have hge : ¬ x < (fdOf k.toNat).size := by simpa using h
    rw [hasB_false fun j hj => hx.2 j (by omega)]
theorem vcHasK : ∀ k c : Int, 0 ≤ k → k < 11 → Held (fnX (cxHas c (fdOf k.toNat)) (bodyOf Try.f31) Try.f31.results.toList [.g (.int .i64 k), .g (.int .u8 c)] [] (fun r _ => r = .g (.bool (hasB (fdOf k.toNat) c)))) := held4 vcHasE vcHas
def annRune (c : Int) (l : ByteArray) : Ann := ⟨Nat, fun i => ⟨[(1, .g (.int .i32 c)), (8, .ptr 0 0 0 0)], [(0, .iter l i)], 1, 0, []⟩, fun i => i ≤ l.size ∧ ∀ j < i, byteAt l j ≠ c, fun i => l.size - i⟩
def cxRune (c : Int) (l : ByteArray) : Cx := ⟨ty, ΓOf [], fun _ => [], fun i _ => if i = 2 then [annRune c l] else [], 15, 0⟩
def VcRune : Prop := ∀ (l : ByteArray) (c : Int), ascii l → (∃ (x : Nat), (x ≤ ByteArray.size l ∧ ∀ (j : Nat), j < x → byteAt l (↑j : Int) ≠ c) ∧ c = c ∧ (0 : Nat) = (0 : Nat) ∧ l = l ∧ (0 : Nat) = x ∧ True) ∧ ∀ (x : Nat), (x ≤
  ByteArray.size l ∧ ∀ (j : Nat), j < x → byteAt l (↑j : Int) ≠ c) → condX (decide (x < ByteArray.size l)) (condX ((↑(Prod.fst (Utf8.decode l x)) : Int) == c) (SV.g (Value.bool true) = SV.g (Value.bool (hasB l c))) (∃ (x'
  : Nat), (x' ≤ ByteArray.size l ∧ ∀ (j : Nat), j < x' → byteAt l (↑j : Int) ≠ c) ∧ ByteArray.size l - x' < ByteArray.size l - x ∧ c = c ∧ (0 : Nat) = (0 : Nat) ∧ l = l ∧ x + Prod.snd (Utf8.decode l x) = x' ∧ True)) (SV.g
  (Value.bool false) = SV.g (Value.bool (hasB l c)))
theorem vcRuneE : VcRune = (∀ (l : ByteArray) (c : Int), ascii l → fnX (cxRune c l) (bodyOf Try.f64) Try.f64.results.toList [.g (.string l), .g (.int .i32 c)] [] (fun r _ => r = .g (.bool (hasB l c)))) := by kernel_rfl
set_option maxHeartbeats 4000000 in
theorem vcRune : VcRune := by
  intro l c ha
  refine ⟨⟨0, ⟨Nat.zero_le _, fun j hj => absurd hj (Nat.not_lt_zero j)⟩, rfl, rfl, rfl, rfl, trivial⟩, fun x hx => (condX_iff _ _ _).2 ⟨fun h => ?_, fun h => ?_⟩⟩
  · have hlt : x < l.size := by simpa using h
    obtain ⟨d1, d2⟩ := decode_at ha hlt
    rw [d1, d2]
    refine (condX_iff _ _ _).2 ⟨fun h => ?_, fun h => ?_⟩
    · rw [hasB_true hlt (by simpa using h)]
    · refine ⟨x + 1, ⟨hlt, fun j hj => ?_⟩, by omega, rfl, rfl, rfl, rfl, trivial⟩
      rcases Nat.lt_succ_iff_lt_or_eq.1 hj with h3 | rfl
      · exact hx.2 j h3
      · simpa using h
  · have hge : ¬ x < l.size := by simpa using h
    rw [hasB_false fun j hj => hx.2 j (by omega)]
theorem vcRuneK : ∀ (l : ByteArray) (c : Int), ascii l → Held (fnX (cxRune c l) (bodyOf Try.f64) Try.f64.results.toList [.g (.string l), .g (.int .i32 c)] [] (fun r _ => r = .g (.bool (hasB l c)))) := held3 vcRuneE vcRune
def cx0 (n e : Nat) : Cx := ⟨ty, ΓOf [], fun _ => [], fun _ _ => [], n, e⟩
def VcField : Prop := ∀ (b : Bool) (n m : Int), SV.g (Value.bool (bif n == (0 : Int) then true else bif bif b then decide ((0 : Int) < n) else false then decide (n ≤ m) else false)) = SV.g (Value.bool (decide (n = (0 : Int)) || b && decide
  ((0 : Int) < n) && decide (n ≤ m)))
theorem vcFieldE : VcField = (∀ (b : Bool) (n m : Int), fnX (cx0 21 0) (bodyOf Try.f49) Try.f49.results.toList [.g (.bool b), .g (.int .i64 n), .g (.int .i64 m)] [] (fun r _ => r = .g (.bool (decide (n = 0) || b && decide (0 < n) && decide (n ≤ m))))) := by kernel_rfl
set_option maxHeartbeats 4000000 in
theorem vcField : VcField := by
  intro b n m
  by_cases h : n = 0
  · simp [h]
  · have : (n == (0 : Int)) = false := by simpa using h
    cases b <;> by_cases h2 : (0 : Int) < n <;> simp [h, this, h2]
theorem vcFieldK : ∀ (b : Bool) (n m : Int), Held (fnX (cx0 21 0) (bodyOf Try.f49) Try.f49.results.toList [.g (.bool b), .g (.int .i64 n), .g (.int .i64 m)] [] (fun r _ => r = .g (.bool (decide (n = 0) || b && decide (0 < n) && decide (n ≤ m))))) := held3 vcFieldE vcField
def VcLongest : Prop := ∀ (k : Int), condX (k == (1 : Int)) (SV.g (Value.int IntKind.i64 (32 : Int)) = SV.g (Value.int IntKind.i64 (hiOf (kn k)))) (condX (k == (3 : Int)) (condX (k == (3 : Int)) (SV.g (Value.int IntKind.i64 (64 : Int)) = SV.g
  (Value.int IntKind.i64 (hiOf (kn k)))) (condX (k == (5 : Int)) (SV.g (Value.int IntKind.i64 (3980 : Int)) = SV.g (Value.int IntKind.i64 (hiOf (kn k)))) (condX (k == (8 : Int)) (SV.g (Value.int IntKind.i64 (16 : Int)) =
  SV.g (Value.int IntKind.i64 (hiOf (kn k)))) (SV.g (Value.int IntKind.i64 (0 : Int)) = SV.g (Value.int IntKind.i64 (hiOf (kn k))))))) (condX (k == (10 : Int)) (SV.g (Value.int IntKind.i64 (64 : Int)) = SV.g (Value.int
  IntKind.i64 (hiOf (kn k)))) (condX (k == (5 : Int)) (SV.g (Value.int IntKind.i64 (3980 : Int)) = SV.g (Value.int IntKind.i64 (hiOf (kn k)))) (condX (k == (8 : Int)) (SV.g (Value.int IntKind.i64 (16 : Int)) = SV.g
  (Value.int IntKind.i64 (hiOf (kn k)))) (SV.g (Value.int IntKind.i64 (0 : Int)) = SV.g (Value.int IntKind.i64 (hiOf (kn k))))))))
theorem vcLongestE : VcLongest = (∀ (k : Int), fnX (cx0 13 0) (bodyOf Try.f50) Try.f50.results.toList [.g (.int .i64 k)] [] (fun r _ => r = .g (.int .i64 (hiOf (kn k))))) := by kernel_rfl
set_option maxHeartbeats 4000000 in
theorem vcLongest : VcLongest := by
  intro k
  have key : ∀ m : Int, hiOf (kn k) = m → SV.g (Value.int IntKind.i64 m) = SV.g (Value.int IntKind.i64 (hiOf (kn k))) := fun m h => by rw [h]
  have rest : k ≠ 1 → k ≠ 3 → k ≠ 10 → k ≠ 5 → k ≠ 8 → hiOf (kn k) = 0 := by
    intro h1 h2 h3 h4 h5
    by_cases h : 1 ≤ k ∧ k ≤ 10
    · have : k = 2 ∨ k = 4 ∨ k = 6 ∨ k = 7 ∨ k = 9 := by omega
      rcases this with rfl | rfl | rfl | rfl | rfl <;> decide
    · simp only [kn, h, if_false]; decide
  refine (condX_iff _ _ _).2 ⟨fun h => ?_, fun g1 => (condX_iff _ _ _).2 ⟨fun g2 => (condX_iff _ _ _).2 ⟨fun h => ?_, fun g3 => ?_⟩, fun g2 => (condX_iff _ _ _).2 ⟨fun h => ?_, fun g3 => (condX_iff _ _ _).2 ⟨fun h => ?_, fun g4 => (condX_iff _ _ _).2 ⟨fun h => ?_, fun g5 => ?_⟩⟩⟩⟩⟩
  · obtain rfl : k = 1 := by simpa using h
    exact key _ (by decide)
  · obtain rfl : k = 3 := by simpa using h
    exact key _ (by decide)
  · rw [g2] at g3; cases g3
  · obtain rfl : k = 10 := by simpa using h
    exact key _ (by decide)
  · obtain rfl : k = 5 := by simpa using h
    exact key _ (by decide)
  · obtain rfl : k = 8 := by simpa using h
    exact key _ (by decide)
  · exact key _ (rest (by simpa using g1) (by simpa using g2) (by simpa using g3) (by simpa using g4) (by simpa using g5))
theorem vcLongestK : ∀ (k : Int), Held (fnX (cx0 13 0) (bodyOf Try.f50) Try.f50.results.toList [.g (.int .i64 k)] [] (fun r _ => r = .g (.int .i64 (hiOf (kn k))))) := held1 vcLongestE vcLongest
def R_Has : List SV → Option (List Prop × SV)
  | [.g (.int .i64 k), .g (.int .u8 c)] => some ([0 ≤ k ∧ k < 11], .g (.bool (hasB (fdOf k.toNat) c)))
  | _ => none
theorem ok_Has : ExactSound Try.prog Λ0 31 R_Has := ⟨fnOK_of Try.func31 (by kernel_rfl) (by kernel_rfl), fun args pre r h hp A ρ => by
  unfold R_Has at h; split at h
  · rename_i k c
    simp only [Option.some.injEq, Prod.mk.injEq] at h; obtain ⟨rfl, rfl⟩ := h
    obtain ⟨h0, h1⟩ := hp _ List.mem_cons_self
    exact fun _ => exact_of (cx := cxHas c (fdOf k.toNat)) hm tyOK (ΓOf_nil _) Try.func31 (body_some (by kernel_rfl)) Try.ntmps31 rfl (Nat.le_of_ble_eq_true rfl) rfl rfl (vcHasK k c h0 h1) A ρ
  · cases h⟩
def R_hasRune : List SV → Option (List Prop × SV)
  | [.g (.string l), .g (.int .i32 c)] => some ([ascii l], .g (.bool (hasB l c)))
  | _ => none
theorem ok_hasRune : ExactSound Try.prog Λ0 64 R_hasRune := ⟨fnOK_of Try.func64 (by kernel_rfl) (by kernel_rfl), fun args pre r h hp A ρ => by
  unfold R_hasRune at h; split at h
  · rename_i l c
    simp only [Option.some.injEq, Prod.mk.injEq] at h; obtain ⟨rfl, rfl⟩ := h
    exact fun _ => exact_of (cx := cxRune c l) hm tyOK (ΓOf_nil _) Try.func64 (body_some (by kernel_rfl)) Try.ntmps64 rfl (Nat.le_of_ble_eq_true rfl) rfl rfl (vcRuneK l c (hp _ List.mem_cons_self)) A ρ
  · cases h⟩
def R_field15 : List SV → Option (List Prop × SV)
  | [.g (.bool b), .g (.int .i64 n), .g (.int .i64 m)] => some ([], .g (.bool (decide (n = 0) || b && decide (0 < n) && decide (n ≤ m))))
  | _ => none
theorem ok_field15 : ExactSound Try.prog Λ0 49 R_field15 := ⟨fnOK_of Try.func49 (by kernel_rfl) (by kernel_rfl), fun args pre r h hp A ρ => by
  unfold R_field15 at h; split at h
  · rename_i b n m
    simp only [Option.some.injEq, Prod.mk.injEq] at h; obtain ⟨rfl, rfl⟩ := h
    exact fun _ => exact_of (cx := cx0 21 0) hm tyOK (ΓOf_nil _) Try.func49 (body_some (by kernel_rfl)) Try.ntmps49 rfl (Nat.le_of_ble_eq_true rfl) rfl rfl (vcFieldK b n m) A ρ
  · cases h⟩
def R_Longest : List SV → Option (List Prop × SV)
  | [.g (.int .i64 k)] => some ([], .g (.int .i64 (hiOf (kn k))))
  | _ => none
theorem ok_Longest : ExactSound Try.prog Λ0 50 R_Longest := ⟨fnOK_of Try.func50 (by kernel_rfl) (by kernel_rfl), fun args pre r h hp A ρ => by
  unfold R_Longest at h; split at h
  · rename_i k
    simp only [Option.some.injEq, Prod.mk.injEq] at h; obtain ⟨rfl, rfl⟩ := h
    exact fun _ => exact_of (cx := cx0 13 0) hm tyOK (ΓOf_nil _) Try.func50 (body_some (by kernel_rfl)) Try.ntmps50 rfl (Nat.le_of_ble_eq_true rfl) rfl rfl (vcLongestK k) A ρ
  · cases h⟩
end Go.Proofs.Ytghbejmnnfoamaa
