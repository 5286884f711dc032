/- Chapter 15: numbers in bytes; the fields of a head; small functions. -/
import Derived.Test.YtghbejmnnfoamaaF
set_option linter.unusedVariables false
set_option linter.unusedSimpArgs false
namespace Go.Proofs.Ytghbejmnnfoamaa
open Go Go.Eng
attribute [local irreducible] condX
/-! ### (*Unit).of of a letter that is known -/
def ofOff (c : Int) : Nat := if c = 116 then 1 else if c = 102 then 2 else if c = 110 then 5 else if c = 99 then 6 else if c = 114 then 7 else 4
def ofNm (c : Int) : ByteArray := if c = 116 then ⟨#[116, 111]⟩ else if c = 102 then ⟨#[102, 114, 111, 109]⟩ else if c = 110 then ⟨#[110, 117, 109, 98, 101, 114]⟩ else if c = 99 then ⟨#[99, 114, 101, 100, 105, 116]⟩ else if c = 114 then ⟨#[114, 101, 97, 115, 111, 110]⟩ else ⟨#[115, 105, 122, 101]⟩
def ofLo (u : U) (c : Int) : Int := if c = 116 then 0 else if c = 102 then loF u else if c = 110 then 0 else if c = 99 then 0 else if c = 114 then 0 else 7
def ofHi (c : Int) : Int := if c = 116 then 65535 else if c = 102 then 65535 else if c = 110 then 2147483647 else if c = 99 then 255 else if c = 114 then 255 else 12
def C_of2 : Ctr := ⟨1, U × Int, fun x => [.ptr 0 0 0 0, .g (.int .i32 x.2)], fun x => [(0, .cells x.1.cells 60)], fun _ => True, fun x =>
  [.one True (fieldSV 0 (ofOff x.2) (ofNm x.2) (letW x.2) (ofLo x.1 x.2) (ofHi x.2)) [(0, .cells x.1.cells 60)]]⟩
theorem of2_of {args : List SV} {H : Heap} {nid : Nat} {K : SV → Heap → Prop} (h : callX C_of2 getUP args H nid K) : callX C_of getUP args H nid K := by
  unfold callX at h ⊢
  cases hg : getUP args H with
  | none => rw [hg] at h; exact h.elim
  | some x =>
    rw [hg] at h
    simp only [] at h ⊢
    show match matL [] args (C_of2.args x) with | some (σ, p) => _ | none => False
    split
    · rename_i σ p hm
      rw [show matL [] args (C_of2.args x) = some (σ, p) from hm] at h
      simp only [] at h
      show match matH H σ (C_of2.H x) with | some (σ', q) => _ | none => False
      split
      · rename_i σ' q hq
        rw [show matH H σ (C_of2.H x) = some (σ', q) from hq] at h
        simp only [] at h
        split at h
        · rename_i e1 e2 e3 e4
          rw [show injOn (C_of.H x) σ' = true from e1, show bndRen C_of.e σ' = true from e2, show fullRen σ' C_of.e = true from e3, e4]
          simp only []
          obtain ⟨hp, h⟩ := (allX_iff _ _).1 h
          obtain ⟨hq, _, h⟩ := (allX_iff _ _).1 h
          have h := h trivial
          refine (allX_iff _ _).2 ⟨hp, (allX_iff _ _).2 ⟨hq, trivial, ?_⟩⟩
          obtain ⟨u, c⟩ := x
          refine ⟨fun e => ?_, fun e => ?_, fun e => ?_, fun e => ?_, fun e => ?_, fun e => ?_⟩
          · simp only [] at e; subst e; exact h
          · simp only [] at e; subst e; exact h
          · simp only [] at e; subst e; exact h
          · simp only [] at e; subst e; exact h
          · simp only [] at e; subst e; exact h
          · obtain ⟨n1, n2, n3, n4, n5⟩ := e
            have a1 : ofOff c = 4 := by simp only [ofOff]; rw [if_neg n1, if_neg n2, if_neg n3, if_neg n4, if_neg n5]
            have a2 : ofNm c = ⟨#[115, 105, 122, 101]⟩ := by simp only [ofNm]; rw [if_neg n1, if_neg n2, if_neg n3, if_neg n4, if_neg n5]
            have a3 : ofLo u c = 7 := by simp only [ofLo]; rw [if_neg n1, if_neg n2, if_neg n3, if_neg n4, if_neg n5]
            have a4 : ofHi c = 12 := by simp only [ofHi]; rw [if_neg n1, if_neg n2, if_neg n3, if_neg n4, if_neg n5]
            have a5 : letW c = 1 := by simp only [letW]; rw [if_neg n1, if_neg n2, if_neg n3]
            simp only [a1, a2, a3, a4, a5] at h
            exact h
        · exact h.elim
      · rename_i hq
        rw [show matH H σ (C_of2.H x) = none from hq] at h
        exact h.elim
    · rename_i hm
      rw [show matL [] args (C_of2.args x) = none from hm] at h
      exact h.elim
theorem ok_of2 : GenSound Try.prog Λ0 42 (callX C_of2 getUP) := ⟨ok_of.1, fun args H nid K B ρ w h1 h2 hl hd h3 => ok_of.2 args H nid K B ρ w h1 h2 hl hd (of2_of h3)⟩
/-! ### strings.Repeat of none or one -/
def cxRep : Cx := ⟨ty, ΓOf [], fun _ => [], fun _ _ => [], 125, 0⟩
def VcRep0 : Prop := ∀ (s : ByteArray), SV.g (Value.string (ByteArray.mk #[])) = SV.g (Value.string (ByteArray.mk #[]))
theorem vcRep0E : VcRep0 = (∀ (s : ByteArray), fnX cxRep (bodyOf Try.f43) Try.f43.results.toList [.g (.string s), .g (.int .i64 0)] [] (fun r _ => r = .g (.string ⟨#[]⟩))) := by kernel_rfl
set_option maxHeartbeats 4000000 in
theorem vcRep0 : VcRep0 := by
  intro s; rfl
theorem vcRep0K : ∀ (s : ByteArray), Held (fnX cxRep (bodyOf Try.f43) Try.f43.results.toList [.g (.string s), .g (.int .i64 0)] [] (fun r _ => r = .g (.string ⟨#[]⟩))) := held1 vcRep0E vcRep0
def VcRep1 : Prop := ∀ (s : ByteArray), SV.g (Value.string s) = SV.g (Value.string s)
theorem vcRep1E : VcRep1 = (∀ (s : ByteArray), fnX cxRep (bodyOf Try.f43) Try.f43.results.toList [.g (.string s), .g (.int .i64 1)] [] (fun r _ => r = .g (.string s))) := by kernel_rfl
set_option maxHeartbeats 4000000 in
theorem vcRep1 : VcRep1 := by
  intro s; rfl
theorem vcRep1K : ∀ (s : ByteArray), Held (fnX cxRep (bodyOf Try.f43) Try.f43.results.toList [.g (.string s), .g (.int .i64 1)] [] (fun r _ => r = .g (.string s))) := held1 vcRep1E vcRep1
def X_Repeat : XC := ⟨ByteArray × Int, fun | [.g (.string s), .g (.int .i64 n)] => some (s, n) | _ => none, fun x => [.g (.string x.1), .g (.int .i64 x.2)], fun x => x.2 = 0 ∨ x.2 = 1, fun x => .g (.string (if x.2 = 0 then ⟨#[]⟩ else x.1))⟩
theorem vcRepK : ∀ x : ByteArray × Int, x.2 = 0 ∨ x.2 = 1 → Held (fnX cxRep (bodyOf Try.f43) Try.f43.results.toList [.g (.string x.1), .g (.int .i64 x.2)] [] (fun r _ => r = .g (.string (if x.2 = 0 then ⟨#[]⟩ else x.1)))) := by
  rintro ⟨s, n⟩ h
  simp only [] at h
  rcases h with rfl | rfl
  · exact vcRep0K s
  · exact vcRep1K s
def cxRepX (_ : ByteArray × Int) : Cx := cxRep
def Γ0 : List (Nat × Rule) := []
theorem Γ0_ok : ΓOK Try.prog Λ0 (ΓOf Γ0) := ΓOf_nil _
theorem ok_Repeat : ExactSound Try.prog Λ0 43 X_Repeat.rule :=
  exact_rule (ty := ty) (Γ := ΓOf Γ0) hm tyOK Γ0_ok (fnOK_of Try.func43 (by kernel_rfl) (by kernel_rfl)) Try.func43 (body_some (by kernel_rfl)) X_Repeat Try.ntmps43 (fun _ => Nat.le_of_ble_eq_true rfl) (fun _ => rfl) (fun x => rfl) (fun x => (cxRepX x).cut) (fun x => (cxRepX x).loop) fun x h => vcRepK x h
/-! ### numbers in bytes -/
def nm (h : ByteArray) (a : Nat) : Nat → Int
  | 0 => 0
  | w + 1 => nm h a w * 256 + byteAt h ((a + w : Nat) : Int)
theorem nm_bd (h : ByteArray) (a w : Nat) : 0 ≤ nm h a w ∧ nm h a w < 256 ^ w := by
  induction w with
  | zero => simp [nm]
  | succ w ih => have := byteAt_lt h ((a + w : Nat) : Int); simp only [nm]; rw [Int.pow_succ]; omega
theorem byteAt_ext {b : ByteArray} {i j k : Nat} (h : i + k < j) (hj : j ≤ b.size) : byteAt (b.extract i j) k = byteAt b ((i + k : Nat) : Int) := by
  unfold byteAt
  simp only [Int.toNat_natCast, ByteArray.data_extract, Array.getD_eq_getD_getElem?]
  rw [Array.getElem?_extract]
  have : b.data.size = b.size := rfl
  rw [if_pos (by omega)]
theorem size_ext {b : ByteArray} {i j : Nat} : (b.extract i j).size = min j b.size - i := by simp [ByteArray.size_extract]
theorem nm_ext {b : ByteArray} {i j w : Nat} (h : i + w ≤ j) (hj : j ≤ b.size) : nm (b.extract i j) 0 w = nm b i w := by
  induction w with
  | zero => rfl
  | succ w ih => simp only [nm]; rw [ih (by omega), Nat.zero_add, byteAt_ext (by omega) hj]
def annNum (s : ByteArray) : Ann := ⟨Nat, fun i => ⟨[(0, .g (.string s)), (3, .g (.int .i64 (nm s 0 i))), (4, .g (.int .i64 i))], [], 0, 0, []⟩, fun i => i ≤ s.size, fun i => s.size - i⟩
def cxNum (s : ByteArray) : Cx := ⟨ty, ΓOf [], fun _ => [], fun i _ => if i = 3 then [annNum s] else [], 19, 0⟩
def VcNum : Prop := ∀ (s : ByteArray), ByteArray.size s ≤ (7 : Nat) → (∃ (x : Nat), x ≤ ByteArray.size s ∧ s = s ∧ (0 : Int) = nm s (0 : Nat) x ∧ (0 : Int) = (↑x : Int) ∧ True) ∧ ∀ (x : Nat), x ≤ ByteArray.size s → condX (decide ((↑x : Int)
  < (↑(ByteArray.size s) : Int))) (((0 : Int) ≤ (↑x : Int) ∧ (↑x : Int) < (↑(ByteArray.size s) : Int)) ∧ ∃ (x' : Nat), x' ≤ ByteArray.size s ∧ ByteArray.size s - x' < ByteArray.size s - x ∧ s = s ∧ IntKind.wrap IntKind.i64
  (IntKind.wrap IntKind.i64 (nm s (0 : Nat) x * (256 : Int)) + IntKind.wrap IntKind.i64 (byteAt s (↑x : Int))) = nm s (0 : Nat) x' ∧ IntKind.wrap IntKind.i64 ((↑x : Int) + (1 : Int)) = (↑x' : Int) ∧ True) (SV.g (Value.int
  IntKind.i64 (nm s (0 : Nat) x)) = SV.g (Value.int IntKind.i64 (nm s (0 : Nat) (ByteArray.size s))))
theorem vcNumE : VcNum = (∀ (s : ByteArray), s.size ≤ 7 → fnX (cxNum s) (bodyOf Try.f51) Try.f51.results.toList [.g (.string s)] [] (fun r _ => r = .g (.int .i64 (nm s 0 s.size)))) := by kernel_rfl
set_option maxHeartbeats 4000000 in
theorem vcNum : VcNum := by
  intro s hs
  refine ⟨⟨0, ?_⟩, fun x hx => (condX_iff _ _ _).2 ⟨fun h => ⟨⟨?_, ?_⟩, x + 1, ?_⟩, fun h => ?_⟩⟩
  · and_intros <;> first | exact Nat.zero_le _ | rfl | trivial
  · omega
  · have h := of_decide_eq_true h; exact h
  · have h := of_decide_eq_true h
    have b1 := byteAt_lt s x
    have b2 := nm_bd s 0 x
    have b3 : (256 : Int) ^ x ≤ 281474976710656 := by
      have : x = 0 ∨ x = 1 ∨ x = 2 ∨ x = 3 ∨ x = 4 ∨ x = 5 ∨ x = 6 := by omega
      rcases this with rfl | rfl | rfl | rfl | rfl | rfl | rfl <;> decide
    rw [wrap1 (i := byteAt s x) (by omega) (by omega), wrap1 (i := nm s 0 x * 256) (by omega) (by omega), wrap1 (i := nm s 0 x * 256 + byteAt s x) (by omega) (by omega), wrap1 (by omega) (by omega)]
    have e : nm s 0 (x + 1) = nm s 0 x * 256 + byteAt s x := by simp only [nm, Nat.zero_add]
    and_intros <;> first | omega | with_reducible rfl | exact trivial
  · have h := of_decide_eq_false h
    have : x = s.size := by omega
    rw [this]
theorem vcNumK : ∀ (s : ByteArray), s.size ≤ 7 → Held (fnX (cxNum s) (bodyOf Try.f51) Try.f51.results.toList [.g (.string s)] [] (fun r _ => r = .g (.int .i64 (nm s 0 s.size)))) := held2 vcNumE vcNum
def X_number15 : XC := ⟨ByteArray, fun | [.g (.string b)] => some b | _ => none, fun b => [.g (.string b)], fun s => s.size ≤ 7, fun s => .g (.int .i64 (nm s 0 s.size))⟩
theorem ok_number15 : ExactSound Try.prog Λ0 51 X_number15.rule :=
  exact_rule (ty := ty) (Γ := ΓOf Γ0) hm tyOK Γ0_ok (fnOK_of Try.func51 (by kernel_rfl) (by kernel_rfl)) Try.func51 (body_some (by kernel_rfl)) X_number15 Try.ntmps51 (fun _ => Nat.le_of_ble_eq_true rfl) (fun _ => rfl) (fun x => rfl) (fun x => (cxNum x).cut) (fun x => (cxNum x).loop) fun x h => vcNumK x h
def Γp : List (Nat × Rule) := (51, .exact X_number15.rule) :: Γ1
theorem Γp_ok : ΓOK Try.prog Λ0 (ΓOf Γp) := (ΓOf_cons ok_number15 Γ1_ok)
/-! ### parts -/
def pv (hs : Bool) (h : ByteArray) (a w : Nat) : Int := match hs with
  | true => if a + w ≤ h.size then nm h a w else 0
  | false => 0
def sk (hs : Bool) (a w : Nat) : Nat := match hs with
  | true => a + w
  | false => a
def hs (k c : Int) : Bool := hasB (fdOf k.toNat) c
def a2 (k : Int) : Nat := sk (hs k 116) 1 2
def a3 (k : Int) : Nat := sk (hs k 102) (a2 k) 2
def a4 (k : Int) : Nat := sk (hs k 110) (a3 k) 4
def a5 (k : Int) : Nat := sk (hs k 99) (a4 k) 1
def a6 (k : Int) : Nat := sk (hs k 114) (a5 k) 1
def own (k : Int) : Nat := sk (hs k 115) (a6 k) 1
def partsU (h : ByteArray) (k : Int) : U := ⟨k, pv (hs k 116) h 1 2, pv (hs k 102) h (a2 k) 2, 0, pv (hs k 115) h (a6 k) 1, pv (hs k 110) h (a3 k) 4, pv (hs k 99) h (a4 k) 1, pv (hs k 114) h (a5 k) 1, false, ⟨#[]⟩⟩
def partsR (h : ByteArray) (k : Int) : SV := .tup [.agg (partsU h k).cells, .g (.int .i64 (own k))]
theorem nm_sub {h : ByteArray} {a b : Nat} (hab : a ≤ b) (hb : b ≤ h.size) : nm (h.extract a b) 0 (h.extract a b).size = nm h a (b - a) := by
  rw [size_ext, Nat.min_eq_left hb, nm_ext (by omega) hb]
theorem nm1 (h : ByteArray) (a : Nat) : nm h a 1 = byteAt h a := by simp [nm]
theorem wrapB (h : ByteArray) (j : Int) : IntKind.wrap IntKind.i64 (byteAt h j) = byteAt h j := by have := byteAt_lt h j; exact wrap1 (by omega) (by omega)
theorem pv_t {h : ByteArray} {a w : Nat} (hw : a + w ≤ h.size) : pv true h a w = nm h a w := by simp [pv, hw]
theorem pv_f {h : ByteArray} {a w : Nat} (hw : ¬ a + w ≤ h.size) : pv true h a w = 0 := by simp [pv, hw]
def cxParts : Cx := ⟨ty, ΓOf Γp, fun _ => [], fun _ _ => [], 123, 0⟩
def Gq0  := ((0 : Int) ≤ (1 : Int) ∧ (1 : Int) < (11 : Int))
def Gq1 (h : ByteArray) := (Value.int IntKind.i64 (nm (ByteArray.extract h (1 : Nat) (3 : Nat)) (0 : Nat) (ByteArray.size (ByteArray.extract h (1 : Nat) (3 : Nat)))))
def VcParts1 : Prop := ∀ (h : ByteArray), (Gq0) ∧ (Gq0) ∧ (Gq0) ∧ condX (bif true then decide ((3 : Int) ≤ (↑(ByteArray.size h) : Int)) else false) (((0 : Int) ≤ (3 : Int) ∧ (3 : Int) ≤ (↑(ByteArray.size h) : Int)) ∧ ((0 : Int) ≤ (1 : Int) ∧
  (1 : Int) ≤ (3 : Int)) ∧ [SV.g (Value.string (ByteArray.extract h (1 : Nat) (3 : Nat)))] = [SV.g (Value.string (ByteArray.extract h (1 : Nat) (3 : Nat)))] ∧ ByteArray.size (ByteArray.extract h (1 : Nat) (3 : Nat)) ≤ (7 :
  Nat) ∧ (Gq0) ∧ (Gq0) ∧ (Gq0) ∧ (Gq0) ∧ condX (bif true then decide ((3 : Int) < (↑(ByteArray.size h) : Int)) else false) (((0 : Int) ≤ (3 : Int) ∧ (3 : Int) < (↑(ByteArray.size h) : Int)) ∧ (Gq0) ∧ (Gq0) ∧ (Gq0) ∧ (Gq0)
  ∧ condX (bif true then decide ((4 : Int) < (↑(ByteArray.size h) : Int)) else false) (((0 : Int) ≤ (4 : Int) ∧ (4 : Int) < (↑(ByteArray.size h) : Int)) ∧ (Gq0) ∧ SV.tup [SV.agg (List.take (10 : Nat) (List.drop (0 : Nat)
  [SV.g (Value.int IntKind.i64 (1 : Int)), SV.g (Value.int IntKind.i64 (0 : Int)), SV.g (Gq1 h), SV.g (Value.int IntKind.i64 (0 : Int)), SV.g (Value.int IntKind.i64 (IntKind.wrap IntKind.i64 (byteAt h (4 : Int)))), SV.g
  (Value.int IntKind.i64 (0 : Int)), SV.g (Value.int IntKind.i64 (IntKind.wrap IntKind.i64 (byteAt h (3 : Int)))), SV.g (Value.int IntKind.i64 (0 : Int)), SV.g (Value.bool false), SV.g (Value.string (ByteArray.mk #[]))])),
  SV.g (Value.int IntKind.i64 (5 : Int))] = SV.tup [SV.agg (U.cells (partsU h (1 : Int))), SV.g (Value.int IntKind.i64 (5 : Int))]) ((Gq0) ∧ SV.tup [SV.agg (List.take (10 : Nat) (List.drop (0 : Nat) [SV.g (Value.int
  IntKind.i64 (1 : Int)), SV.g (Value.int IntKind.i64 (0 : Int)), SV.g (Gq1 h), SV.g (Value.int IntKind.i64 (0 : Int)), SV.g (Value.int IntKind.i64 (0 : Int)), SV.g (Value.int IntKind.i64 (0 : Int)), SV.g (Value.int
  IntKind.i64 (IntKind.wrap IntKind.i64 (byteAt h (3 : Int)))), SV.g (Value.int IntKind.i64 (0 : Int)), SV.g (Value.bool false), SV.g (Value.string (ByteArray.mk #[]))])), SV.g (Value.int IntKind.i64 (5 : Int))] = SV.tup
  [SV.agg (U.cells (partsU h (1 : Int))), SV.g (Value.int IntKind.i64 (5 : Int))])) ((Gq0) ∧ (Gq0) ∧ (Gq0) ∧ (Gq0) ∧ condX (bif true then decide ((4 : Int) < (↑(ByteArray.size h) : Int)) else false) (((0 : Int) ≤ (4 : Int)
  ∧ (4 : Int) < (↑(ByteArray.size h) : Int)) ∧ (Gq0) ∧ SV.tup [SV.agg (List.take (10 : Nat) (List.drop (0 : Nat) [SV.g (Value.int IntKind.i64 (1 : Int)), SV.g (Value.int IntKind.i64 (0 : Int)), SV.g (Gq1 h), SV.g
  (Value.int IntKind.i64 (0 : Int)), SV.g (Value.int IntKind.i64 (IntKind.wrap IntKind.i64 (byteAt h (4 : Int)))), SV.g (Value.int IntKind.i64 (0 : Int)), SV.g (Value.int IntKind.i64 (0 : Int)), SV.g (Value.int IntKind.i64
  (0 : Int)), SV.g (Value.bool false), SV.g (Value.string (ByteArray.mk #[]))])), SV.g (Value.int IntKind.i64 (5 : Int))] = SV.tup [SV.agg (U.cells (partsU h (1 : Int))), SV.g (Value.int IntKind.i64 (5 : Int))]) ((Gq0) ∧
  SV.tup [SV.agg (List.take (10 : Nat) (List.drop (0 : Nat) [SV.g (Value.int IntKind.i64 (1 : Int)), SV.g (Value.int IntKind.i64 (0 : Int)), SV.g (Gq1 h), SV.g (Value.int IntKind.i64 (0 : Int)), SV.g (Value.int IntKind.i64
  (0 : Int)), SV.g (Value.int IntKind.i64 (0 : Int)), SV.g (Value.int IntKind.i64 (0 : Int)), SV.g (Value.int IntKind.i64 (0 : Int)), SV.g (Value.bool false), SV.g (Value.string (ByteArray.mk #[]))])), SV.g (Value.int
  IntKind.i64 (5 : Int))] = SV.tup [SV.agg (U.cells (partsU h (1 : Int))), SV.g (Value.int IntKind.i64 (5 : Int))]))) ((Gq0) ∧ (Gq0) ∧ (Gq0) ∧ (Gq0) ∧ condX (bif true then decide ((3 : Int) < (↑(ByteArray.size h) : Int))
  else false) (((0 : Int) ≤ (3 : Int) ∧ (3 : Int) < (↑(ByteArray.size h) : Int)) ∧ (Gq0) ∧ (Gq0) ∧ (Gq0) ∧ (Gq0) ∧ condX (bif true then decide ((4 : Int) < (↑(ByteArray.size h) : Int)) else false) (((0 : Int) ≤ (4 : Int) ∧
  (4 : Int) < (↑(ByteArray.size h) : Int)) ∧ (Gq0) ∧ SV.tup [SV.agg (List.take (10 : Nat) (List.drop (0 : Nat) [SV.g (Value.int IntKind.i64 (1 : Int)), SV.g (Value.int IntKind.i64 (0 : Int)), SV.g (Value.int IntKind.i64 (0
  : Int)), SV.g (Value.int IntKind.i64 (0 : Int)), SV.g (Value.int IntKind.i64 (IntKind.wrap IntKind.i64 (byteAt h (4 : Int)))), SV.g (Value.int IntKind.i64 (0 : Int)), SV.g (Value.int IntKind.i64 (IntKind.wrap IntKind.i64
  (byteAt h (3 : Int)))), SV.g (Value.int IntKind.i64 (0 : Int)), SV.g (Value.bool false), SV.g (Value.string (ByteArray.mk #[]))])), SV.g (Value.int IntKind.i64 (5 : Int))] = SV.tup [SV.agg (U.cells (partsU h (1 : Int))),
  SV.g (Value.int IntKind.i64 (5 : Int))]) ((Gq0) ∧ SV.tup [SV.agg (List.take (10 : Nat) (List.drop (0 : Nat) [SV.g (Value.int IntKind.i64 (1 : Int)), SV.g (Value.int IntKind.i64 (0 : Int)), SV.g (Value.int IntKind.i64 (0
  : Int)), SV.g (Value.int IntKind.i64 (0 : Int)), SV.g (Value.int IntKind.i64 (0 : Int)), SV.g (Value.int IntKind.i64 (0 : Int)), SV.g (Value.int IntKind.i64 (IntKind.wrap IntKind.i64 (byteAt h (3 : Int)))), SV.g
  (Value.int IntKind.i64 (0 : Int)), SV.g (Value.bool false), SV.g (Value.string (ByteArray.mk #[]))])), SV.g (Value.int IntKind.i64 (5 : Int))] = SV.tup [SV.agg (U.cells (partsU h (1 : Int))), SV.g (Value.int IntKind.i64
  (5 : Int))])) ((Gq0) ∧ (Gq0) ∧ (Gq0) ∧ (Gq0) ∧ condX (bif true then decide ((4 : Int) < (↑(ByteArray.size h) : Int)) else false) (((0 : Int) ≤ (4 : Int) ∧ (4 : Int) < (↑(ByteArray.size h) : Int)) ∧ (Gq0) ∧ SV.tup [SV.agg
  (List.take (10 : Nat) (List.drop (0 : Nat) [SV.g (Value.int IntKind.i64 (1 : Int)), SV.g (Value.int IntKind.i64 (0 : Int)), SV.g (Value.int IntKind.i64 (0 : Int)), SV.g (Value.int IntKind.i64 (0 : Int)), SV.g (Value.int
  IntKind.i64 (IntKind.wrap IntKind.i64 (byteAt h (4 : Int)))), SV.g (Value.int IntKind.i64 (0 : Int)), SV.g (Value.int IntKind.i64 (0 : Int)), SV.g (Value.int IntKind.i64 (0 : Int)), SV.g (Value.bool false), SV.g
  (Value.string (ByteArray.mk #[]))])), SV.g (Value.int IntKind.i64 (5 : Int))] = SV.tup [SV.agg (U.cells (partsU h (1 : Int))), SV.g (Value.int IntKind.i64 (5 : Int))]) ((Gq0) ∧ SV.tup [SV.agg (List.take (10 : Nat)
  (List.drop (0 : Nat) [SV.g (Value.int IntKind.i64 (1 : Int)), SV.g (Value.int IntKind.i64 (0 : Int)), SV.g (Value.int IntKind.i64 (0 : Int)), SV.g (Value.int IntKind.i64 (0 : Int)), SV.g (Value.int IntKind.i64 (0 :
  Int)), SV.g (Value.int IntKind.i64 (0 : Int)), SV.g (Value.int IntKind.i64 (0 : Int)), SV.g (Value.int IntKind.i64 (0 : Int)), SV.g (Value.bool false), SV.g (Value.string (ByteArray.mk #[]))])), SV.g (Value.int
  IntKind.i64 (5 : Int))] = SV.tup [SV.agg (U.cells (partsU h (1 : Int))), SV.g (Value.int IntKind.i64 (5 : Int))])))
theorem vcParts1E : VcParts1 = (∀ (h : ByteArray), fnX cxParts (bodyOf Try.f30) Try.f30.results.toList [.g (.string h), .g (.int .i64 1)] [] (fun r _ => r = partsR h 1)) := by kernel_rfl
set_option maxHeartbeats 4000000 in
theorem vcParts1 : VcParts1 := by
  unfold VcParts1 Gq1 Gq0
  intro h
  have q1 : hs 1 116 = decide ((1 : Int) ≠ 1) := by decide
  have q2 : hs 1 102 = decide ((1 : Int) ≤ 4) := by decide
  have q3 : hs 1 110 = decide (5 ≤ (1 : Int) ∧ (1 : Int) ≤ 9) := by decide
  have q4 : hs 1 99 = decide ((1 : Int) = 1 ∨ (1 : Int) = 2 ∨ (1 : Int) = 6 ∨ (1 : Int) = 7) := by decide
  have q5 : hs 1 114 = decide ((1 : Int) = 3 ∨ (1 : Int) = 10) := by decide
  have q6 : hs 1 115 = decide ((1 : Int) ≤ 2) := by decide
  have e : partsU h 1 = ⟨1, pv (hs 1 116) h 1 2, pv (hs 1 102) h (a2 1) 2, 0, pv (hs 1 115) h (a6 1) 1, pv (hs 1 110) h (a3 1) 4, pv (hs 1 99) h (a4 1) 1, pv (hs 1 114) h (a5 1) 1, false, ⟨#[]⟩⟩ := rfl
  simp [a2, a3, a4, a5, a6, sk, q1, q2, q3, q4, q5, q6] at e
  rw [e]
  simp only [condX_iff, cond_true, decide_eq_true_eq, decide_eq_false_iff_not]
  repeat' first | apply And.intro | intro _
  all_goals first | trivial | omega | (rw [size_ext]; omega) | (simp (disch := omega) only [pv_t, pv_f, nm_sub, nm1, wrapB, U.cells, List.drop_zero, List.take_succ_cons, List.take_zero]; try rfl)
theorem vcParts1K : ∀ (h : ByteArray), Held (fnX cxParts (bodyOf Try.f30) Try.f30.results.toList [.g (.string h), .g (.int .i64 1)] [] (fun r _ => r = partsR h 1)) := held1 vcParts1E vcParts1
def Gq2  := ((0 : Int) ≤ (2 : Int) ∧ (2 : Int) < (11 : Int))
def Gq3 (h : ByteArray) := (Value.int IntKind.i64 (nm (ByteArray.extract h (1 : Nat) (3 : Nat)) (0 : Nat) (ByteArray.size (ByteArray.extract h (1 : Nat) (3 : Nat)))))
def Gq4 (h : ByteArray) := (Value.int IntKind.i64 (nm (ByteArray.extract h (3 : Nat) (5 : Nat)) (0 : Nat) (ByteArray.size (ByteArray.extract h (3 : Nat) (5 : Nat)))))
def Gq5 (h : ByteArray) := (bif true then decide ((6 : Int) < (↑(ByteArray.size h) : Int)) else false)
def Gq6 (h : ByteArray) := (Value.int IntKind.i64 (IntKind.wrap IntKind.i64 (byteAt h (6 : Int))))
def Gq7 (h : ByteArray) := (Value.int IntKind.i64 (IntKind.wrap IntKind.i64 (byteAt h (5 : Int))))
def Gq8 (h : ByteArray) := ((0 : Int) ≤ (6 : Int) ∧ (6 : Int) < (↑(ByteArray.size h) : Int))
def VcParts2 : Prop := ∀ (h : ByteArray), (Gq2) ∧ condX (bif true then decide ((3 : Int) ≤ (↑(ByteArray.size h) : Int)) else false) (((0 : Int) ≤ (3 : Int) ∧ (3 : Int) ≤ (↑(ByteArray.size h) : Int)) ∧ ((0 : Int) ≤ (1 : Int) ∧ (1 : Int) ≤ (3 :
  Int)) ∧ [SV.g (Value.string (ByteArray.extract h (1 : Nat) (3 : Nat)))] = [SV.g (Value.string (ByteArray.extract h (1 : Nat) (3 : Nat)))] ∧ ByteArray.size (ByteArray.extract h (1 : Nat) (3 : Nat)) ≤ (7 : Nat) ∧ (Gq2) ∧
  (Gq2) ∧ condX (bif true then decide ((5 : Int) ≤ (↑(ByteArray.size h) : Int)) else false) (((0 : Int) ≤ (5 : Int) ∧ (5 : Int) ≤ (↑(ByteArray.size h) : Int)) ∧ ((0 : Int) ≤ (3 : Int) ∧ (3 : Int) ≤ (5 : Int)) ∧ [SV.g
  (Value.string (ByteArray.extract h (3 : Nat) (5 : Nat)))] = [SV.g (Value.string (ByteArray.extract h (3 : Nat) (5 : Nat)))] ∧ ByteArray.size (ByteArray.extract h (3 : Nat) (5 : Nat)) ≤ (7 : Nat) ∧ (Gq2) ∧ (Gq2) ∧ (Gq2) ∧
  (Gq2) ∧ condX (bif true then decide ((5 : Int) < (↑(ByteArray.size h) : Int)) else false) (((0 : Int) ≤ (5 : Int) ∧ (5 : Int) < (↑(ByteArray.size h) : Int)) ∧ (Gq2) ∧ (Gq2) ∧ (Gq2) ∧ (Gq2) ∧ condX (Gq5 h) ((Gq8 h) ∧
  (Gq2) ∧ SV.tup [SV.agg (List.take (10 : Nat) (List.drop (0 : Nat) [SV.g (Value.int IntKind.i64 (2 : Int)), SV.g (Gq3 h), SV.g (Gq4 h), SV.g (Value.int IntKind.i64 (0 : Int)), SV.g (Gq6 h), SV.g (Value.int IntKind.i64 (0
  : Int)), SV.g (Gq7 h), SV.g (Value.int IntKind.i64 (0 : Int)), SV.g (Value.bool false), SV.g (Value.string (ByteArray.mk #[]))])), SV.g (Value.int IntKind.i64 (7 : Int))] = SV.tup [SV.agg (U.cells (partsU h (2 : Int))),
  SV.g (Value.int IntKind.i64 (7 : Int))]) ((Gq2) ∧ SV.tup [SV.agg (List.take (10 : Nat) (List.drop (0 : Nat) [SV.g (Value.int IntKind.i64 (2 : Int)), SV.g (Gq3 h), SV.g (Gq4 h), SV.g (Value.int IntKind.i64 (0 : Int)),
  SV.g (Value.int IntKind.i64 (0 : Int)), SV.g (Value.int IntKind.i64 (0 : Int)), SV.g (Gq7 h), SV.g (Value.int IntKind.i64 (0 : Int)), SV.g (Value.bool false), SV.g (Value.string (ByteArray.mk #[]))])), SV.g (Value.int
  IntKind.i64 (7 : Int))] = SV.tup [SV.agg (U.cells (partsU h (2 : Int))), SV.g (Value.int IntKind.i64 (7 : Int))])) ((Gq2) ∧ (Gq2) ∧ (Gq2) ∧ (Gq2) ∧ condX (Gq5 h) ((Gq8 h) ∧ (Gq2) ∧ SV.tup [SV.agg (List.take (10 : Nat)
  (List.drop (0 : Nat) [SV.g (Value.int IntKind.i64 (2 : Int)), SV.g (Gq3 h), SV.g (Gq4 h), SV.g (Value.int IntKind.i64 (0 : Int)), SV.g (Gq6 h), SV.g (Value.int IntKind.i64 (0 : Int)), SV.g (Value.int IntKind.i64 (0 :
  Int)), SV.g (Value.int IntKind.i64 (0 : Int)), SV.g (Value.bool false), SV.g (Value.string (ByteArray.mk #[]))])), SV.g (Value.int IntKind.i64 (7 : Int))] = SV.tup [SV.agg (U.cells (partsU h (2 : Int))), SV.g (Value.int
  IntKind.i64 (7 : Int))]) ((Gq2) ∧ SV.tup [SV.agg (List.take (10 : Nat) (List.drop (0 : Nat) [SV.g (Value.int IntKind.i64 (2 : Int)), SV.g (Gq3 h), SV.g (Gq4 h), SV.g (Value.int IntKind.i64 (0 : Int)), SV.g (Value.int
  IntKind.i64 (0 : Int)), SV.g (Value.int IntKind.i64 (0 : Int)), SV.g (Value.int IntKind.i64 (0 : Int)), SV.g (Value.int IntKind.i64 (0 : Int)), SV.g (Value.bool false), SV.g (Value.string (ByteArray.mk #[]))])), SV.g
  (Value.int IntKind.i64 (7 : Int))] = SV.tup [SV.agg (U.cells (partsU h (2 : Int))), SV.g (Value.int IntKind.i64 (7 : Int))]))) ((Gq2) ∧ (Gq2) ∧ (Gq2) ∧ (Gq2) ∧ condX (bif true then decide ((5 : Int) < (↑(ByteArray.size
  h) : Int)) else false) (((0 : Int) ≤ (5 : Int) ∧ (5 : Int) < (↑(ByteArray.size h) : Int)) ∧ (Gq2) ∧ (Gq2) ∧ (Gq2) ∧ (Gq2) ∧ condX (Gq5 h) ((Gq8 h) ∧ (Gq2) ∧ SV.tup [SV.agg (List.take (10 : Nat) (List.drop (0 : Nat) [SV.g
  (Value.int IntKind.i64 (2 : Int)), SV.g (Gq3 h), SV.g (Value.int IntKind.i64 (0 : Int)), SV.g (Value.int IntKind.i64 (0 : Int)), SV.g (Gq6 h), SV.g (Value.int IntKind.i64 (0 : Int)), SV.g (Gq7 h), SV.g (Value.int
  IntKind.i64 (0 : Int)), SV.g (Value.bool false), SV.g (Value.string (ByteArray.mk #[]))])), SV.g (Value.int IntKind.i64 (7 : Int))] = SV.tup [SV.agg (U.cells (partsU h (2 : Int))), SV.g (Value.int IntKind.i64 (7 :
  Int))]) ((Gq2) ∧ SV.tup [SV.agg (List.take (10 : Nat) (List.drop (0 : Nat) [SV.g (Value.int IntKind.i64 (2 : Int)), SV.g (Gq3 h), SV.g (Value.int IntKind.i64 (0 : Int)), SV.g (Value.int IntKind.i64 (0 : Int)), SV.g
  (Value.int IntKind.i64 (0 : Int)), SV.g (Value.int IntKind.i64 (0 : Int)), SV.g (Gq7 h), SV.g (Value.int IntKind.i64 (0 : Int)), SV.g (Value.bool false), SV.g (Value.string (ByteArray.mk #[]))])), SV.g (Value.int
  IntKind.i64 (7 : Int))] = SV.tup [SV.agg (U.cells (partsU h (2 : Int))), SV.g (Value.int IntKind.i64 (7 : Int))])) ((Gq2) ∧ (Gq2) ∧ (Gq2) ∧ (Gq2) ∧ condX (Gq5 h) ((Gq8 h) ∧ (Gq2) ∧ SV.tup [SV.agg (List.take (10 : Nat)
  (List.drop (0 : Nat) [SV.g (Value.int IntKind.i64 (2 : Int)), SV.g (Gq3 h), SV.g (Value.int IntKind.i64 (0 : Int)), SV.g (Value.int IntKind.i64 (0 : Int)), SV.g (Gq6 h), SV.g (Value.int IntKind.i64 (0 : Int)), SV.g
  (Value.int IntKind.i64 (0 : Int)), SV.g (Value.int IntKind.i64 (0 : Int)), SV.g (Value.bool false), SV.g (Value.string (ByteArray.mk #[]))])), SV.g (Value.int IntKind.i64 (7 : Int))] = SV.tup [SV.agg (U.cells (partsU h
  (2 : Int))), SV.g (Value.int IntKind.i64 (7 : Int))]) ((Gq2) ∧ SV.tup [SV.agg (List.take (10 : Nat) (List.drop (0 : Nat) [SV.g (Value.int IntKind.i64 (2 : Int)), SV.g (Gq3 h), SV.g (Value.int IntKind.i64 (0 : Int)), SV.g
  (Value.int IntKind.i64 (0 : Int)), SV.g (Value.int IntKind.i64 (0 : Int)), SV.g (Value.int IntKind.i64 (0 : Int)), SV.g (Value.int IntKind.i64 (0 : Int)), SV.g (Value.int IntKind.i64 (0 : Int)), SV.g (Value.bool false),
  SV.g (Value.string (ByteArray.mk #[]))])), SV.g (Value.int IntKind.i64 (7 : Int))] = SV.tup [SV.agg (U.cells (partsU h (2 : Int))), SV.g (Value.int IntKind.i64 (7 : Int))])))) ((Gq2) ∧ (Gq2) ∧ condX (bif true then decide
  ((5 : Int) ≤ (↑(ByteArray.size h) : Int)) else false) (((0 : Int) ≤ (5 : Int) ∧ (5 : Int) ≤ (↑(ByteArray.size h) : Int)) ∧ ((0 : Int) ≤ (3 : Int) ∧ (3 : Int) ≤ (5 : Int)) ∧ [SV.g (Value.string (ByteArray.extract h (3 :
  Nat) (5 : Nat)))] = [SV.g (Value.string (ByteArray.extract h (3 : Nat) (5 : Nat)))] ∧ ByteArray.size (ByteArray.extract h (3 : Nat) (5 : Nat)) ≤ (7 : Nat) ∧ (Gq2) ∧ (Gq2) ∧ (Gq2) ∧ (Gq2) ∧ condX (bif true then decide ((5
  : Int) < (↑(ByteArray.size h) : Int)) else false) (((0 : Int) ≤ (5 : Int) ∧ (5 : Int) < (↑(ByteArray.size h) : Int)) ∧ (Gq2) ∧ (Gq2) ∧ (Gq2) ∧ (Gq2) ∧ condX (Gq5 h) ((Gq8 h) ∧ (Gq2) ∧ SV.tup [SV.agg (List.take (10 : Nat)
  (List.drop (0 : Nat) [SV.g (Value.int IntKind.i64 (2 : Int)), SV.g (Value.int IntKind.i64 (0 : Int)), SV.g (Gq4 h), SV.g (Value.int IntKind.i64 (0 : Int)), SV.g (Gq6 h), SV.g (Value.int IntKind.i64 (0 : Int)), SV.g (Gq7
  h), SV.g (Value.int IntKind.i64 (0 : Int)), SV.g (Value.bool false), SV.g (Value.string (ByteArray.mk #[]))])), SV.g (Value.int IntKind.i64 (7 : Int))] = SV.tup [SV.agg (U.cells (partsU h (2 : Int))), SV.g (Value.int
  IntKind.i64 (7 : Int))]) ((Gq2) ∧ SV.tup [SV.agg (List.take (10 : Nat) (List.drop (0 : Nat) [SV.g (Value.int IntKind.i64 (2 : Int)), SV.g (Value.int IntKind.i64 (0 : Int)), SV.g (Gq4 h), SV.g (Value.int IntKind.i64 (0 :
  Int)), SV.g (Value.int IntKind.i64 (0 : Int)), SV.g (Value.int IntKind.i64 (0 : Int)), SV.g (Gq7 h), SV.g (Value.int IntKind.i64 (0 : Int)), SV.g (Value.bool false), SV.g (Value.string (ByteArray.mk #[]))])), SV.g
  (Value.int IntKind.i64 (7 : Int))] = SV.tup [SV.agg (U.cells (partsU h (2 : Int))), SV.g (Value.int IntKind.i64 (7 : Int))])) ((Gq2) ∧ (Gq2) ∧ (Gq2) ∧ (Gq2) ∧ condX (Gq5 h) ((Gq8 h) ∧ (Gq2) ∧ SV.tup [SV.agg (List.take
  (10 : Nat) (List.drop (0 : Nat) [SV.g (Value.int IntKind.i64 (2 : Int)), SV.g (Value.int IntKind.i64 (0 : Int)), SV.g (Gq4 h), SV.g (Value.int IntKind.i64 (0 : Int)), SV.g (Gq6 h), SV.g (Value.int IntKind.i64 (0 : Int)),
  SV.g (Value.int IntKind.i64 (0 : Int)), SV.g (Value.int IntKind.i64 (0 : Int)), SV.g (Value.bool false), SV.g (Value.string (ByteArray.mk #[]))])), SV.g (Value.int IntKind.i64 (7 : Int))] = SV.tup [SV.agg (U.cells
  (partsU h (2 : Int))), SV.g (Value.int IntKind.i64 (7 : Int))]) ((Gq2) ∧ SV.tup [SV.agg (List.take (10 : Nat) (List.drop (0 : Nat) [SV.g (Value.int IntKind.i64 (2 : Int)), SV.g (Value.int IntKind.i64 (0 : Int)), SV.g
  (Gq4 h), SV.g (Value.int IntKind.i64 (0 : Int)), SV.g (Value.int IntKind.i64 (0 : Int)), SV.g (Value.int IntKind.i64 (0 : Int)), SV.g (Value.int IntKind.i64 (0 : Int)), SV.g (Value.int IntKind.i64 (0 : Int)), SV.g
  (Value.bool false), SV.g (Value.string (ByteArray.mk #[]))])), SV.g (Value.int IntKind.i64 (7 : Int))] = SV.tup [SV.agg (U.cells (partsU h (2 : Int))), SV.g (Value.int IntKind.i64 (7 : Int))]))) ((Gq2) ∧ (Gq2) ∧ (Gq2) ∧
  (Gq2) ∧ condX (bif true then decide ((5 : Int) < (↑(ByteArray.size h) : Int)) else false) (((0 : Int) ≤ (5 : Int) ∧ (5 : Int) < (↑(ByteArray.size h) : Int)) ∧ (Gq2) ∧ (Gq2) ∧ (Gq2) ∧ (Gq2) ∧ condX (Gq5 h) ((Gq8 h) ∧
  (Gq2) ∧ SV.tup [SV.agg (List.take (10 : Nat) (List.drop (0 : Nat) [SV.g (Value.int IntKind.i64 (2 : Int)), SV.g (Value.int IntKind.i64 (0 : Int)), SV.g (Value.int IntKind.i64 (0 : Int)), SV.g (Value.int IntKind.i64 (0 :
  Int)), SV.g (Gq6 h), SV.g (Value.int IntKind.i64 (0 : Int)), SV.g (Gq7 h), SV.g (Value.int IntKind.i64 (0 : Int)), SV.g (Value.bool false), SV.g (Value.string (ByteArray.mk #[]))])), SV.g (Value.int IntKind.i64 (7 :
  Int))] = SV.tup [SV.agg (U.cells (partsU h (2 : Int))), SV.g (Value.int IntKind.i64 (7 : Int))]) ((Gq2) ∧ SV.tup [SV.agg (List.take (10 : Nat) (List.drop (0 : Nat) [SV.g (Value.int IntKind.i64 (2 : Int)), SV.g (Value.int
  IntKind.i64 (0 : Int)), SV.g (Value.int IntKind.i64 (0 : Int)), SV.g (Value.int IntKind.i64 (0 : Int)), SV.g (Value.int IntKind.i64 (0 : Int)), SV.g (Value.int IntKind.i64 (0 : Int)), SV.g (Gq7 h), SV.g (Value.int
  IntKind.i64 (0 : Int)), SV.g (Value.bool false), SV.g (Value.string (ByteArray.mk #[]))])), SV.g (Value.int IntKind.i64 (7 : Int))] = SV.tup [SV.agg (U.cells (partsU h (2 : Int))), SV.g (Value.int IntKind.i64 (7 :
  Int))])) ((Gq2) ∧ (Gq2) ∧ (Gq2) ∧ (Gq2) ∧ condX (Gq5 h) ((Gq8 h) ∧ (Gq2) ∧ SV.tup [SV.agg (List.take (10 : Nat) (List.drop (0 : Nat) [SV.g (Value.int IntKind.i64 (2 : Int)), SV.g (Value.int IntKind.i64 (0 : Int)), SV.g
  (Value.int IntKind.i64 (0 : Int)), SV.g (Value.int IntKind.i64 (0 : Int)), SV.g (Gq6 h), SV.g (Value.int IntKind.i64 (0 : Int)), SV.g (Value.int IntKind.i64 (0 : Int)), SV.g (Value.int IntKind.i64 (0 : Int)), SV.g
  (Value.bool false), SV.g (Value.string (ByteArray.mk #[]))])), SV.g (Value.int IntKind.i64 (7 : Int))] = SV.tup [SV.agg (U.cells (partsU h (2 : Int))), SV.g (Value.int IntKind.i64 (7 : Int))]) ((Gq2) ∧ SV.tup [SV.agg
  (List.take (10 : Nat) (List.drop (0 : Nat) [SV.g (Value.int IntKind.i64 (2 : Int)), SV.g (Value.int IntKind.i64 (0 : Int)), SV.g (Value.int IntKind.i64 (0 : Int)), SV.g (Value.int IntKind.i64 (0 : Int)), SV.g (Value.int
  IntKind.i64 (0 : Int)), SV.g (Value.int IntKind.i64 (0 : Int)), SV.g (Value.int IntKind.i64 (0 : Int)), SV.g (Value.int IntKind.i64 (0 : Int)), SV.g (Value.bool false), SV.g (Value.string (ByteArray.mk #[]))])), SV.g
  (Value.int IntKind.i64 (7 : Int))] = SV.tup [SV.agg (U.cells (partsU h (2 : Int))), SV.g (Value.int IntKind.i64 (7 : Int))]))))
theorem vcParts2E : VcParts2 = (∀ (h : ByteArray), fnX cxParts (bodyOf Try.f30) Try.f30.results.toList [.g (.string h), .g (.int .i64 2)] [] (fun r _ => r = partsR h 2)) := by kernel_rfl
set_option maxHeartbeats 4000000 in
theorem vcParts2 : VcParts2 := by
  unfold VcParts2 Gq8 Gq7 Gq6 Gq5 Gq4 Gq3 Gq2
  intro h
  have q1 : hs 2 116 = decide ((2 : Int) ≠ 1) := by decide
  have q2 : hs 2 102 = decide ((2 : Int) ≤ 4) := by decide
  have q3 : hs 2 110 = decide (5 ≤ (2 : Int) ∧ (2 : Int) ≤ 9) := by decide
  have q4 : hs 2 99 = decide ((2 : Int) = 1 ∨ (2 : Int) = 2 ∨ (2 : Int) = 6 ∨ (2 : Int) = 7) := by decide
  have q5 : hs 2 114 = decide ((2 : Int) = 3 ∨ (2 : Int) = 10) := by decide
  have q6 : hs 2 115 = decide ((2 : Int) ≤ 2) := by decide
  have e : partsU h 2 = ⟨2, pv (hs 2 116) h 1 2, pv (hs 2 102) h (a2 2) 2, 0, pv (hs 2 115) h (a6 2) 1, pv (hs 2 110) h (a3 2) 4, pv (hs 2 99) h (a4 2) 1, pv (hs 2 114) h (a5 2) 1, false, ⟨#[]⟩⟩ := rfl
  simp [a2, a3, a4, a5, a6, sk, q1, q2, q3, q4, q5, q6] at e
  rw [e]
  simp only [condX_iff, cond_true, decide_eq_true_eq, decide_eq_false_iff_not]
  repeat' first | apply And.intro | intro _
  all_goals first | trivial | omega | (rw [size_ext]; omega) | (simp (disch := omega) only [pv_t, pv_f, nm_sub, nm1, wrapB, U.cells, List.drop_zero, List.take_succ_cons, List.take_zero]; try rfl)
theorem vcParts2K : ∀ (h : ByteArray), Held (fnX cxParts (bodyOf Try.f30) Try.f30.results.toList [.g (.string h), .g (.int .i64 2)] [] (fun r _ => r = partsR h 2)) := held1 vcParts2E vcParts2
def Gq9  := ((0 : Int) ≤ (3 : Int) ∧ (3 : Int) < (11 : Int))
def Gq10 (h : ByteArray) := (ByteArray.extract h (3 : Nat) (5 : Nat))
def Gq11 (h : ByteArray) := (Value.int IntKind.i64 (nm (ByteArray.extract h (1 : Nat) (3 : Nat)) (0 : Nat) (ByteArray.size (ByteArray.extract h (1 : Nat) (3 : Nat)))))
def VcParts3 : Prop := ∀ (h : ByteArray), (Gq9) ∧ condX (bif true then decide ((3 : Int) ≤ (↑(ByteArray.size h) : Int)) else false) (((0 : Int) ≤ (3 : Int) ∧ (3 : Int) ≤ (↑(ByteArray.size h) : Int)) ∧ ((0 : Int) ≤ (1 : Int) ∧ (1 : Int) ≤ (3 :
  Int)) ∧ [SV.g (Value.string (ByteArray.extract h (1 : Nat) (3 : Nat)))] = [SV.g (Value.string (ByteArray.extract h (1 : Nat) (3 : Nat)))] ∧ ByteArray.size (ByteArray.extract h (1 : Nat) (3 : Nat)) ≤ (7 : Nat) ∧ (Gq9) ∧
  (Gq9) ∧ condX (bif true then decide ((5 : Int) ≤ (↑(ByteArray.size h) : Int)) else false) (((0 : Int) ≤ (5 : Int) ∧ (5 : Int) ≤ (↑(ByteArray.size h) : Int)) ∧ ((0 : Int) ≤ (3 : Int) ∧ (3 : Int) ≤ (5 : Int)) ∧ [SV.g
  (Value.string (Gq10 h))] = [SV.g (Value.string (Gq10 h))] ∧ ByteArray.size (Gq10 h) ≤ (7 : Nat) ∧ (Gq9) ∧ (Gq9) ∧ (Gq9) ∧ (Gq9) ∧ (Gq9) ∧ (Gq9) ∧ condX (bif true then decide ((5 : Int) < (↑(ByteArray.size h) : Int)) else
  false) (((0 : Int) ≤ (5 : Int) ∧ (5 : Int) < (↑(ByteArray.size h) : Int)) ∧ (Gq9) ∧ (Gq9) ∧ (Gq9) ∧ SV.tup [SV.agg (List.take (10 : Nat) (List.drop (0 : Nat) [SV.g (Value.int IntKind.i64 (3 : Int)), SV.g (Gq11 h), SV.g
  (Value.int IntKind.i64 (nm (Gq10 h) (0 : Nat) (ByteArray.size (Gq10 h)))), SV.g (Value.int IntKind.i64 (0 : Int)), SV.g (Value.int IntKind.i64 (0 : Int)), SV.g (Value.int IntKind.i64 (0 : Int)), SV.g (Value.int
  IntKind.i64 (0 : Int)), SV.g (Value.int IntKind.i64 (IntKind.wrap IntKind.i64 (byteAt h (5 : Int)))), SV.g (Value.bool false), SV.g (Value.string (ByteArray.mk #[]))])), SV.g (Value.int IntKind.i64 (6 : Int))] = SV.tup
  [SV.agg (U.cells (partsU h (3 : Int))), SV.g (Value.int IntKind.i64 (6 : Int))]) ((Gq9) ∧ (Gq9) ∧ (Gq9) ∧ SV.tup [SV.agg (List.take (10 : Nat) (List.drop (0 : Nat) [SV.g (Value.int IntKind.i64 (3 : Int)), SV.g (Gq11 h),
  SV.g (Value.int IntKind.i64 (nm (Gq10 h) (0 : Nat) (ByteArray.size (Gq10 h)))), SV.g (Value.int IntKind.i64 (0 : Int)), SV.g (Value.int IntKind.i64 (0 : Int)), SV.g (Value.int IntKind.i64 (0 : Int)), SV.g (Value.int
  IntKind.i64 (0 : Int)), SV.g (Value.int IntKind.i64 (0 : Int)), SV.g (Value.bool false), SV.g (Value.string (ByteArray.mk #[]))])), SV.g (Value.int IntKind.i64 (6 : Int))] = SV.tup [SV.agg (U.cells (partsU h (3 : Int))),
  SV.g (Value.int IntKind.i64 (6 : Int))])) ((Gq9) ∧ (Gq9) ∧ (Gq9) ∧ (Gq9) ∧ (Gq9) ∧ (Gq9) ∧ condX (bif true then decide ((5 : Int) < (↑(ByteArray.size h) : Int)) else false) (((0 : Int) ≤ (5 : Int) ∧ (5 : Int) <
  (↑(ByteArray.size h) : Int)) ∧ (Gq9) ∧ (Gq9) ∧ (Gq9) ∧ SV.tup [SV.agg (List.take (10 : Nat) (List.drop (0 : Nat) [SV.g (Value.int IntKind.i64 (3 : Int)), SV.g (Gq11 h), SV.g (Value.int IntKind.i64 (0 : Int)), SV.g
  (Value.int IntKind.i64 (0 : Int)), SV.g (Value.int IntKind.i64 (0 : Int)), SV.g (Value.int IntKind.i64 (0 : Int)), SV.g (Value.int IntKind.i64 (0 : Int)), SV.g (Value.int IntKind.i64 (IntKind.wrap IntKind.i64 (byteAt h
  (5 : Int)))), SV.g (Value.bool false), SV.g (Value.string (ByteArray.mk #[]))])), SV.g (Value.int IntKind.i64 (6 : Int))] = SV.tup [SV.agg (U.cells (partsU h (3 : Int))), SV.g (Value.int IntKind.i64 (6 : Int))]) ((Gq9) ∧
  (Gq9) ∧ (Gq9) ∧ SV.tup [SV.agg (List.take (10 : Nat) (List.drop (0 : Nat) [SV.g (Value.int IntKind.i64 (3 : Int)), SV.g (Gq11 h), SV.g (Value.int IntKind.i64 (0 : Int)), SV.g (Value.int IntKind.i64 (0 : Int)), SV.g
  (Value.int IntKind.i64 (0 : Int)), SV.g (Value.int IntKind.i64 (0 : Int)), SV.g (Value.int IntKind.i64 (0 : Int)), SV.g (Value.int IntKind.i64 (0 : Int)), SV.g (Value.bool false), SV.g (Value.string (ByteArray.mk
  #[]))])), SV.g (Value.int IntKind.i64 (6 : Int))] = SV.tup [SV.agg (U.cells (partsU h (3 : Int))), SV.g (Value.int IntKind.i64 (6 : Int))]))) ((Gq9) ∧ (Gq9) ∧ condX (bif true then decide ((5 : Int) ≤ (↑(ByteArray.size h)
  : Int)) else false) (((0 : Int) ≤ (5 : Int) ∧ (5 : Int) ≤ (↑(ByteArray.size h) : Int)) ∧ ((0 : Int) ≤ (3 : Int) ∧ (3 : Int) ≤ (5 : Int)) ∧ [SV.g (Value.string (Gq10 h))] = [SV.g (Value.string (Gq10 h))] ∧ ByteArray.size
  (Gq10 h) ≤ (7 : Nat) ∧ (Gq9) ∧ (Gq9) ∧ (Gq9) ∧ (Gq9) ∧ (Gq9) ∧ (Gq9) ∧ condX (bif true then decide ((5 : Int) < (↑(ByteArray.size h) : Int)) else false) (((0 : Int) ≤ (5 : Int) ∧ (5 : Int) < (↑(ByteArray.size h) : Int))
  ∧ (Gq9) ∧ (Gq9) ∧ (Gq9) ∧ SV.tup [SV.agg (List.take (10 : Nat) (List.drop (0 : Nat) [SV.g (Value.int IntKind.i64 (3 : Int)), SV.g (Value.int IntKind.i64 (0 : Int)), SV.g (Value.int IntKind.i64 (nm (Gq10 h) (0 : Nat)
  (ByteArray.size (Gq10 h)))), SV.g (Value.int IntKind.i64 (0 : Int)), SV.g (Value.int IntKind.i64 (0 : Int)), SV.g (Value.int IntKind.i64 (0 : Int)), SV.g (Value.int IntKind.i64 (0 : Int)), SV.g (Value.int IntKind.i64
  (IntKind.wrap IntKind.i64 (byteAt h (5 : Int)))), SV.g (Value.bool false), SV.g (Value.string (ByteArray.mk #[]))])), SV.g (Value.int IntKind.i64 (6 : Int))] = SV.tup [SV.agg (U.cells (partsU h (3 : Int))), SV.g
  (Value.int IntKind.i64 (6 : Int))]) ((Gq9) ∧ (Gq9) ∧ (Gq9) ∧ SV.tup [SV.agg (List.take (10 : Nat) (List.drop (0 : Nat) [SV.g (Value.int IntKind.i64 (3 : Int)), SV.g (Value.int IntKind.i64 (0 : Int)), SV.g (Value.int
  IntKind.i64 (nm (Gq10 h) (0 : Nat) (ByteArray.size (Gq10 h)))), SV.g (Value.int IntKind.i64 (0 : Int)), SV.g (Value.int IntKind.i64 (0 : Int)), SV.g (Value.int IntKind.i64 (0 : Int)), SV.g (Value.int IntKind.i64 (0 :
  Int)), SV.g (Value.int IntKind.i64 (0 : Int)), SV.g (Value.bool false), SV.g (Value.string (ByteArray.mk #[]))])), SV.g (Value.int IntKind.i64 (6 : Int))] = SV.tup [SV.agg (U.cells (partsU h (3 : Int))), SV.g (Value.int
  IntKind.i64 (6 : Int))])) ((Gq9) ∧ (Gq9) ∧ (Gq9) ∧ (Gq9) ∧ (Gq9) ∧ (Gq9) ∧ condX (bif true then decide ((5 : Int) < (↑(ByteArray.size h) : Int)) else false) (((0 : Int) ≤ (5 : Int) ∧ (5 : Int) < (↑(ByteArray.size h) :
  Int)) ∧ (Gq9) ∧ (Gq9) ∧ (Gq9) ∧ SV.tup [SV.agg (List.take (10 : Nat) (List.drop (0 : Nat) [SV.g (Value.int IntKind.i64 (3 : Int)), SV.g (Value.int IntKind.i64 (0 : Int)), SV.g (Value.int IntKind.i64 (0 : Int)), SV.g
  (Value.int IntKind.i64 (0 : Int)), SV.g (Value.int IntKind.i64 (0 : Int)), SV.g (Value.int IntKind.i64 (0 : Int)), SV.g (Value.int IntKind.i64 (0 : Int)), SV.g (Value.int IntKind.i64 (IntKind.wrap IntKind.i64 (byteAt h
  (5 : Int)))), SV.g (Value.bool false), SV.g (Value.string (ByteArray.mk #[]))])), SV.g (Value.int IntKind.i64 (6 : Int))] = SV.tup [SV.agg (U.cells (partsU h (3 : Int))), SV.g (Value.int IntKind.i64 (6 : Int))]) ((Gq9) ∧
  (Gq9) ∧ (Gq9) ∧ SV.tup [SV.agg (List.take (10 : Nat) (List.drop (0 : Nat) [SV.g (Value.int IntKind.i64 (3 : Int)), SV.g (Value.int IntKind.i64 (0 : Int)), SV.g (Value.int IntKind.i64 (0 : Int)), SV.g (Value.int
  IntKind.i64 (0 : Int)), SV.g (Value.int IntKind.i64 (0 : Int)), SV.g (Value.int IntKind.i64 (0 : Int)), SV.g (Value.int IntKind.i64 (0 : Int)), SV.g (Value.int IntKind.i64 (0 : Int)), SV.g (Value.bool false), SV.g
  (Value.string (ByteArray.mk #[]))])), SV.g (Value.int IntKind.i64 (6 : Int))] = SV.tup [SV.agg (U.cells (partsU h (3 : Int))), SV.g (Value.int IntKind.i64 (6 : Int))])))
theorem vcParts3E : VcParts3 = (∀ (h : ByteArray), fnX cxParts (bodyOf Try.f30) Try.f30.results.toList [.g (.string h), .g (.int .i64 3)] [] (fun r _ => r = partsR h 3)) := by kernel_rfl
set_option maxHeartbeats 4000000 in
theorem vcParts3 : VcParts3 := by
  unfold VcParts3 Gq11 Gq10 Gq9
  intro h
  have q1 : hs 3 116 = decide ((3 : Int) ≠ 1) := by decide
  have q2 : hs 3 102 = decide ((3 : Int) ≤ 4) := by decide
  have q3 : hs 3 110 = decide (5 ≤ (3 : Int) ∧ (3 : Int) ≤ 9) := by decide
  have q4 : hs 3 99 = decide ((3 : Int) = 1 ∨ (3 : Int) = 2 ∨ (3 : Int) = 6 ∨ (3 : Int) = 7) := by decide
  have q5 : hs 3 114 = decide ((3 : Int) = 3 ∨ (3 : Int) = 10) := by decide
  have q6 : hs 3 115 = decide ((3 : Int) ≤ 2) := by decide
  have e : partsU h 3 = ⟨3, pv (hs 3 116) h 1 2, pv (hs 3 102) h (a2 3) 2, 0, pv (hs 3 115) h (a6 3) 1, pv (hs 3 110) h (a3 3) 4, pv (hs 3 99) h (a4 3) 1, pv (hs 3 114) h (a5 3) 1, false, ⟨#[]⟩⟩ := rfl
  simp [a2, a3, a4, a5, a6, sk, q1, q2, q3, q4, q5, q6] at e
  rw [e]
  simp only [condX_iff, cond_true, decide_eq_true_eq, decide_eq_false_iff_not]
  repeat' first | apply And.intro | intro _
  all_goals first | trivial | omega | (rw [size_ext]; omega) | (simp (disch := omega) only [pv_t, pv_f, nm_sub, nm1, wrapB, U.cells, List.drop_zero, List.take_succ_cons, List.take_zero]; try rfl)
theorem vcParts3K : ∀ (h : ByteArray), Held (fnX cxParts (bodyOf Try.f30) Try.f30.results.toList [.g (.string h), .g (.int .i64 3)] [] (fun r _ => r = partsR h 3)) := held1 vcParts3E vcParts3
def Gq12  := ((0 : Int) ≤ (4 : Int) ∧ (4 : Int) < (11 : Int))
def VcParts4 : Prop := ∀ (h : ByteArray), (Gq12) ∧ condX (bif true then decide ((3 : Int) ≤ (↑(ByteArray.size h) : Int)) else false) (((0 : Int) ≤ (3 : Int) ∧ (3 : Int) ≤ (↑(ByteArray.size h) : Int)) ∧ ((0 : Int) ≤ (1 : Int) ∧ (1 : Int) ≤ (3 :
  Int)) ∧ [SV.g (Value.string (ByteArray.extract h (1 : Nat) (3 : Nat)))] = [SV.g (Value.string (ByteArray.extract h (1 : Nat) (3 : Nat)))] ∧ ByteArray.size (ByteArray.extract h (1 : Nat) (3 : Nat)) ≤ (7 : Nat) ∧ (Gq12) ∧
  (Gq12) ∧ condX (bif true then decide ((5 : Int) ≤ (↑(ByteArray.size h) : Int)) else false) (((0 : Int) ≤ (5 : Int) ∧ (5 : Int) ≤ (↑(ByteArray.size h) : Int)) ∧ ((0 : Int) ≤ (3 : Int) ∧ (3 : Int) ≤ (5 : Int)) ∧ [SV.g
  (Value.string (ByteArray.extract h (3 : Nat) (5 : Nat)))] = [SV.g (Value.string (ByteArray.extract h (3 : Nat) (5 : Nat)))] ∧ ByteArray.size (ByteArray.extract h (3 : Nat) (5 : Nat)) ≤ (7 : Nat) ∧ (Gq12) ∧ (Gq12) ∧
  (Gq12) ∧ (Gq12) ∧ (Gq12) ∧ (Gq12) ∧ (Gq12) ∧ (Gq12) ∧ (Gq12) ∧ SV.tup [SV.agg (List.take (10 : Nat) (List.drop (0 : Nat) [SV.g (Value.int IntKind.i64 (4 : Int)), SV.g (Value.int IntKind.i64 (nm (ByteArray.extract h (1 :
  Nat) (3 : Nat)) (0 : Nat) (ByteArray.size (ByteArray.extract h (1 : Nat) (3 : Nat))))), SV.g (Value.int IntKind.i64 (nm (ByteArray.extract h (3 : Nat) (5 : Nat)) (0 : Nat) (ByteArray.size (ByteArray.extract h (3 : Nat)
  (5 : Nat))))), SV.g (Value.int IntKind.i64 (0 : Int)), SV.g (Value.int IntKind.i64 (0 : Int)), SV.g (Value.int IntKind.i64 (0 : Int)), SV.g (Value.int IntKind.i64 (0 : Int)), SV.g (Value.int IntKind.i64 (0 : Int)), SV.g
  (Value.bool false), SV.g (Value.string (ByteArray.mk #[]))])), SV.g (Value.int IntKind.i64 (5 : Int))] = SV.tup [SV.agg (U.cells (partsU h (4 : Int))), SV.g (Value.int IntKind.i64 (5 : Int))]) ((Gq12) ∧ (Gq12) ∧ (Gq12) ∧
  (Gq12) ∧ (Gq12) ∧ (Gq12) ∧ (Gq12) ∧ (Gq12) ∧ (Gq12) ∧ SV.tup [SV.agg (List.take (10 : Nat) (List.drop (0 : Nat) [SV.g (Value.int IntKind.i64 (4 : Int)), SV.g (Value.int IntKind.i64 (nm (ByteArray.extract h (1 : Nat) (3 :
  Nat)) (0 : Nat) (ByteArray.size (ByteArray.extract h (1 : Nat) (3 : Nat))))), SV.g (Value.int IntKind.i64 (0 : Int)), SV.g (Value.int IntKind.i64 (0 : Int)), SV.g (Value.int IntKind.i64 (0 : Int)), SV.g (Value.int
  IntKind.i64 (0 : Int)), SV.g (Value.int IntKind.i64 (0 : Int)), SV.g (Value.int IntKind.i64 (0 : Int)), SV.g (Value.bool false), SV.g (Value.string (ByteArray.mk #[]))])), SV.g (Value.int IntKind.i64 (5 : Int))] = SV.tup
  [SV.agg (U.cells (partsU h (4 : Int))), SV.g (Value.int IntKind.i64 (5 : Int))])) ((Gq12) ∧ (Gq12) ∧ condX (bif true then decide ((5 : Int) ≤ (↑(ByteArray.size h) : Int)) else false) (((0 : Int) ≤ (5 : Int) ∧ (5 : Int) ≤
  (↑(ByteArray.size h) : Int)) ∧ ((0 : Int) ≤ (3 : Int) ∧ (3 : Int) ≤ (5 : Int)) ∧ [SV.g (Value.string (ByteArray.extract h (3 : Nat) (5 : Nat)))] = [SV.g (Value.string (ByteArray.extract h (3 : Nat) (5 : Nat)))] ∧
  ByteArray.size (ByteArray.extract h (3 : Nat) (5 : Nat)) ≤ (7 : Nat) ∧ (Gq12) ∧ (Gq12) ∧ (Gq12) ∧ (Gq12) ∧ (Gq12) ∧ (Gq12) ∧ (Gq12) ∧ (Gq12) ∧ (Gq12) ∧ SV.tup [SV.agg (List.take (10 : Nat) (List.drop (0 : Nat) [SV.g
  (Value.int IntKind.i64 (4 : Int)), SV.g (Value.int IntKind.i64 (0 : Int)), SV.g (Value.int IntKind.i64 (nm (ByteArray.extract h (3 : Nat) (5 : Nat)) (0 : Nat) (ByteArray.size (ByteArray.extract h (3 : Nat) (5 : Nat))))),
  SV.g (Value.int IntKind.i64 (0 : Int)), SV.g (Value.int IntKind.i64 (0 : Int)), SV.g (Value.int IntKind.i64 (0 : Int)), SV.g (Value.int IntKind.i64 (0 : Int)), SV.g (Value.int IntKind.i64 (0 : Int)), SV.g (Value.bool
  false), SV.g (Value.string (ByteArray.mk #[]))])), SV.g (Value.int IntKind.i64 (5 : Int))] = SV.tup [SV.agg (U.cells (partsU h (4 : Int))), SV.g (Value.int IntKind.i64 (5 : Int))]) ((Gq12) ∧ (Gq12) ∧ (Gq12) ∧ (Gq12) ∧
  (Gq12) ∧ (Gq12) ∧ (Gq12) ∧ (Gq12) ∧ (Gq12) ∧ SV.tup [SV.agg (List.take (10 : Nat) (List.drop (0 : Nat) [SV.g (Value.int IntKind.i64 (4 : Int)), SV.g (Value.int IntKind.i64 (0 : Int)), SV.g (Value.int IntKind.i64 (0 :
  Int)), SV.g (Value.int IntKind.i64 (0 : Int)), SV.g (Value.int IntKind.i64 (0 : Int)), SV.g (Value.int IntKind.i64 (0 : Int)), SV.g (Value.int IntKind.i64 (0 : Int)), SV.g (Value.int IntKind.i64 (0 : Int)), SV.g
  (Value.bool false), SV.g (Value.string (ByteArray.mk #[]))])), SV.g (Value.int IntKind.i64 (5 : Int))] = SV.tup [SV.agg (U.cells (partsU h (4 : Int))), SV.g (Value.int IntKind.i64 (5 : Int))]))
theorem vcParts4E : VcParts4 = (∀ (h : ByteArray), fnX cxParts (bodyOf Try.f30) Try.f30.results.toList [.g (.string h), .g (.int .i64 4)] [] (fun r _ => r = partsR h 4)) := by kernel_rfl
set_option maxHeartbeats 4000000 in
theorem vcParts4 : VcParts4 := by
  unfold VcParts4 Gq12
  intro h
  have q1 : hs 4 116 = decide ((4 : Int) ≠ 1) := by decide
  have q2 : hs 4 102 = decide ((4 : Int) ≤ 4) := by decide
  have q3 : hs 4 110 = decide (5 ≤ (4 : Int) ∧ (4 : Int) ≤ 9) := by decide
  have q4 : hs 4 99 = decide ((4 : Int) = 1 ∨ (4 : Int) = 2 ∨ (4 : Int) = 6 ∨ (4 : Int) = 7) := by decide
  have q5 : hs 4 114 = decide ((4 : Int) = 3 ∨ (4 : Int) = 10) := by decide
  have q6 : hs 4 115 = decide ((4 : Int) ≤ 2) := by decide
  have e : partsU h 4 = ⟨4, pv (hs 4 116) h 1 2, pv (hs 4 102) h (a2 4) 2, 0, pv (hs 4 115) h (a6 4) 1, pv (hs 4 110) h (a3 4) 4, pv (hs 4 99) h (a4 4) 1, pv (hs 4 114) h (a5 4) 1, false, ⟨#[]⟩⟩ := rfl
  simp [a2, a3, a4, a5, a6, sk, q1, q2, q3, q4, q5, q6] at e
  rw [e]
  simp only [condX_iff, cond_true, decide_eq_true_eq, decide_eq_false_iff_not]
  repeat' first | apply And.intro | intro _
  all_goals first | trivial | omega | (rw [size_ext]; omega) | (simp (disch := omega) only [pv_t, pv_f, nm_sub, nm1, wrapB, U.cells, List.drop_zero, List.take_succ_cons, List.take_zero]; try rfl)
theorem vcParts4K : ∀ (h : ByteArray), Held (fnX cxParts (bodyOf Try.f30) Try.f30.results.toList [.g (.string h), .g (.int .i64 4)] [] (fun r _ => r = partsR h 4)) := held1 vcParts4E vcParts4
def Gq13  := ((0 : Int) ≤ (5 : Int) ∧ (5 : Int) < (11 : Int))
def VcParts5 : Prop := ∀ (h : ByteArray), (Gq13) ∧ condX (bif true then decide ((3 : Int) ≤ (↑(ByteArray.size h) : Int)) else false) (((0 : Int) ≤ (3 : Int) ∧ (3 : Int) ≤ (↑(ByteArray.size h) : Int)) ∧ ((0 : Int) ≤ (1 : Int) ∧ (1 : Int) ≤ (3 :
  Int)) ∧ [SV.g (Value.string (ByteArray.extract h (1 : Nat) (3 : Nat)))] = [SV.g (Value.string (ByteArray.extract h (1 : Nat) (3 : Nat)))] ∧ ByteArray.size (ByteArray.extract h (1 : Nat) (3 : Nat)) ≤ (7 : Nat) ∧ (Gq13) ∧
  (Gq13) ∧ (Gq13) ∧ (Gq13) ∧ condX (bif true then decide ((7 : Int) ≤ (↑(ByteArray.size h) : Int)) else false) (((0 : Int) ≤ (7 : Int) ∧ (7 : Int) ≤ (↑(ByteArray.size h) : Int)) ∧ ((0 : Int) ≤ (3 : Int) ∧ (3 : Int) ≤ (7 :
  Int)) ∧ [SV.g (Value.string (ByteArray.extract h (3 : Nat) (7 : Nat)))] = [SV.g (Value.string (ByteArray.extract h (3 : Nat) (7 : Nat)))] ∧ ByteArray.size (ByteArray.extract h (3 : Nat) (7 : Nat)) ≤ (7 : Nat) ∧ (Gq13) ∧
  (Gq13) ∧ (Gq13) ∧ (Gq13) ∧ (Gq13) ∧ (Gq13) ∧ (Gq13) ∧ SV.tup [SV.agg (List.take (10 : Nat) (List.drop (0 : Nat) [SV.g (Value.int IntKind.i64 (5 : Int)), SV.g (Value.int IntKind.i64 (nm (ByteArray.extract h (1 : Nat) (3 :
  Nat)) (0 : Nat) (ByteArray.size (ByteArray.extract h (1 : Nat) (3 : Nat))))), SV.g (Value.int IntKind.i64 (0 : Int)), SV.g (Value.int IntKind.i64 (0 : Int)), SV.g (Value.int IntKind.i64 (0 : Int)), SV.g (Value.int
  IntKind.i64 (nm (ByteArray.extract h (3 : Nat) (7 : Nat)) (0 : Nat) (ByteArray.size (ByteArray.extract h (3 : Nat) (7 : Nat))))), SV.g (Value.int IntKind.i64 (0 : Int)), SV.g (Value.int IntKind.i64 (0 : Int)), SV.g
  (Value.bool false), SV.g (Value.string (ByteArray.mk #[]))])), SV.g (Value.int IntKind.i64 (7 : Int))] = SV.tup [SV.agg (U.cells (partsU h (5 : Int))), SV.g (Value.int IntKind.i64 (7 : Int))]) ((Gq13) ∧ (Gq13) ∧ (Gq13) ∧
  (Gq13) ∧ (Gq13) ∧ (Gq13) ∧ (Gq13) ∧ SV.tup [SV.agg (List.take (10 : Nat) (List.drop (0 : Nat) [SV.g (Value.int IntKind.i64 (5 : Int)), SV.g (Value.int IntKind.i64 (nm (ByteArray.extract h (1 : Nat) (3 : Nat)) (0 : Nat)
  (ByteArray.size (ByteArray.extract h (1 : Nat) (3 : Nat))))), SV.g (Value.int IntKind.i64 (0 : Int)), SV.g (Value.int IntKind.i64 (0 : Int)), SV.g (Value.int IntKind.i64 (0 : Int)), SV.g (Value.int IntKind.i64 (0 :
  Int)), SV.g (Value.int IntKind.i64 (0 : Int)), SV.g (Value.int IntKind.i64 (0 : Int)), SV.g (Value.bool false), SV.g (Value.string (ByteArray.mk #[]))])), SV.g (Value.int IntKind.i64 (7 : Int))] = SV.tup [SV.agg (U.cells
  (partsU h (5 : Int))), SV.g (Value.int IntKind.i64 (7 : Int))])) ((Gq13) ∧ (Gq13) ∧ (Gq13) ∧ (Gq13) ∧ condX (bif true then decide ((7 : Int) ≤ (↑(ByteArray.size h) : Int)) else false) (((0 : Int) ≤ (7 : Int) ∧ (7 : Int)
  ≤ (↑(ByteArray.size h) : Int)) ∧ ((0 : Int) ≤ (3 : Int) ∧ (3 : Int) ≤ (7 : Int)) ∧ [SV.g (Value.string (ByteArray.extract h (3 : Nat) (7 : Nat)))] = [SV.g (Value.string (ByteArray.extract h (3 : Nat) (7 : Nat)))] ∧
  ByteArray.size (ByteArray.extract h (3 : Nat) (7 : Nat)) ≤ (7 : Nat) ∧ (Gq13) ∧ (Gq13) ∧ (Gq13) ∧ (Gq13) ∧ (Gq13) ∧ (Gq13) ∧ (Gq13) ∧ SV.tup [SV.agg (List.take (10 : Nat) (List.drop (0 : Nat) [SV.g (Value.int IntKind.i64
  (5 : Int)), SV.g (Value.int IntKind.i64 (0 : Int)), SV.g (Value.int IntKind.i64 (0 : Int)), SV.g (Value.int IntKind.i64 (0 : Int)), SV.g (Value.int IntKind.i64 (0 : Int)), SV.g (Value.int IntKind.i64 (nm
  (ByteArray.extract h (3 : Nat) (7 : Nat)) (0 : Nat) (ByteArray.size (ByteArray.extract h (3 : Nat) (7 : Nat))))), SV.g (Value.int IntKind.i64 (0 : Int)), SV.g (Value.int IntKind.i64 (0 : Int)), SV.g (Value.bool false),
  SV.g (Value.string (ByteArray.mk #[]))])), SV.g (Value.int IntKind.i64 (7 : Int))] = SV.tup [SV.agg (U.cells (partsU h (5 : Int))), SV.g (Value.int IntKind.i64 (7 : Int))]) ((Gq13) ∧ (Gq13) ∧ (Gq13) ∧ (Gq13) ∧ (Gq13) ∧
  (Gq13) ∧ (Gq13) ∧ SV.tup [SV.agg (List.take (10 : Nat) (List.drop (0 : Nat) [SV.g (Value.int IntKind.i64 (5 : Int)), SV.g (Value.int IntKind.i64 (0 : Int)), SV.g (Value.int IntKind.i64 (0 : Int)), SV.g (Value.int
  IntKind.i64 (0 : Int)), SV.g (Value.int IntKind.i64 (0 : Int)), SV.g (Value.int IntKind.i64 (0 : Int)), SV.g (Value.int IntKind.i64 (0 : Int)), SV.g (Value.int IntKind.i64 (0 : Int)), SV.g (Value.bool false), SV.g
  (Value.string (ByteArray.mk #[]))])), SV.g (Value.int IntKind.i64 (7 : Int))] = SV.tup [SV.agg (U.cells (partsU h (5 : Int))), SV.g (Value.int IntKind.i64 (7 : Int))]))
theorem vcParts5E : VcParts5 = (∀ (h : ByteArray), fnX cxParts (bodyOf Try.f30) Try.f30.results.toList [.g (.string h), .g (.int .i64 5)] [] (fun r _ => r = partsR h 5)) := by kernel_rfl
set_option maxHeartbeats 4000000 in
theorem vcParts5 : VcParts5 := by
  unfold VcParts5 Gq13
  intro h
  have q1 : hs 5 116 = decide ((5 : Int) ≠ 1) := by decide
  have q2 : hs 5 102 = decide ((5 : Int) ≤ 4) := by decide
  have q3 : hs 5 110 = decide (5 ≤ (5 : Int) ∧ (5 : Int) ≤ 9) := by decide
  have q4 : hs 5 99 = decide ((5 : Int) = 1 ∨ (5 : Int) = 2 ∨ (5 : Int) = 6 ∨ (5 : Int) = 7) := by decide
  have q5 : hs 5 114 = decide ((5 : Int) = 3 ∨ (5 : Int) = 10) := by decide
  have q6 : hs 5 115 = decide ((5 : Int) ≤ 2) := by decide
  have e : partsU h 5 = ⟨5, pv (hs 5 116) h 1 2, pv (hs 5 102) h (a2 5) 2, 0, pv (hs 5 115) h (a6 5) 1, pv (hs 5 110) h (a3 5) 4, pv (hs 5 99) h (a4 5) 1, pv (hs 5 114) h (a5 5) 1, false, ⟨#[]⟩⟩ := rfl
  simp [a2, a3, a4, a5, a6, sk, q1, q2, q3, q4, q5, q6] at e
  rw [e]
  simp only [condX_iff, cond_true, decide_eq_true_eq, decide_eq_false_iff_not]
  repeat' first | apply And.intro | intro _
  all_goals first | trivial | omega | (rw [size_ext]; omega) | (simp (disch := omega) only [pv_t, pv_f, nm_sub, nm1, wrapB, U.cells, List.drop_zero, List.take_succ_cons, List.take_zero]; try rfl)
theorem vcParts5K : ∀ (h : ByteArray), Held (fnX cxParts (bodyOf Try.f30) Try.f30.results.toList [.g (.string h), .g (.int .i64 5)] [] (fun r _ => r = partsR h 5)) := held1 vcParts5E vcParts5
def Gq14  := ((0 : Int) ≤ (6 : Int) ∧ (6 : Int) < (11 : Int))
def Gq15 (h : ByteArray) := (ByteArray.extract h (3 : Nat) (7 : Nat))
def Gq16 (h : ByteArray) := (Value.int IntKind.i64 (nm (ByteArray.extract h (1 : Nat) (3 : Nat)) (0 : Nat) (ByteArray.size (ByteArray.extract h (1 : Nat) (3 : Nat)))))
def VcParts6 : Prop := ∀ (h : ByteArray), (Gq14) ∧ condX (bif true then decide ((3 : Int) ≤ (↑(ByteArray.size h) : Int)) else false) (((0 : Int) ≤ (3 : Int) ∧ (3 : Int) ≤ (↑(ByteArray.size h) : Int)) ∧ ((0 : Int) ≤ (1 : Int) ∧ (1 : Int) ≤ (3 :
  Int)) ∧ [SV.g (Value.string (ByteArray.extract h (1 : Nat) (3 : Nat)))] = [SV.g (Value.string (ByteArray.extract h (1 : Nat) (3 : Nat)))] ∧ ByteArray.size (ByteArray.extract h (1 : Nat) (3 : Nat)) ≤ (7 : Nat) ∧ (Gq14) ∧
  (Gq14) ∧ (Gq14) ∧ (Gq14) ∧ condX (bif true then decide ((7 : Int) ≤ (↑(ByteArray.size h) : Int)) else false) (((0 : Int) ≤ (7 : Int) ∧ (7 : Int) ≤ (↑(ByteArray.size h) : Int)) ∧ ((0 : Int) ≤ (3 : Int) ∧ (3 : Int) ≤ (7 :
  Int)) ∧ [SV.g (Value.string (Gq15 h))] = [SV.g (Value.string (Gq15 h))] ∧ ByteArray.size (Gq15 h) ≤ (7 : Nat) ∧ (Gq14) ∧ (Gq14) ∧ condX (bif true then decide ((7 : Int) < (↑(ByteArray.size h) : Int)) else false) (((0 :
  Int) ≤ (7 : Int) ∧ (7 : Int) < (↑(ByteArray.size h) : Int)) ∧ (Gq14) ∧ (Gq14) ∧ (Gq14) ∧ (Gq14) ∧ (Gq14) ∧ SV.tup [SV.agg (List.take (10 : Nat) (List.drop (0 : Nat) [SV.g (Value.int IntKind.i64 (6 : Int)), SV.g (Gq16 h),
  SV.g (Value.int IntKind.i64 (0 : Int)), SV.g (Value.int IntKind.i64 (0 : Int)), SV.g (Value.int IntKind.i64 (0 : Int)), SV.g (Value.int IntKind.i64 (nm (Gq15 h) (0 : Nat) (ByteArray.size (Gq15 h)))), SV.g (Value.int
  IntKind.i64 (IntKind.wrap IntKind.i64 (byteAt h (7 : Int)))), SV.g (Value.int IntKind.i64 (0 : Int)), SV.g (Value.bool false), SV.g (Value.string (ByteArray.mk #[]))])), SV.g (Value.int IntKind.i64 (8 : Int))] = SV.tup
  [SV.agg (U.cells (partsU h (6 : Int))), SV.g (Value.int IntKind.i64 (8 : Int))]) ((Gq14) ∧ (Gq14) ∧ (Gq14) ∧ (Gq14) ∧ (Gq14) ∧ SV.tup [SV.agg (List.take (10 : Nat) (List.drop (0 : Nat) [SV.g (Value.int IntKind.i64 (6 :
  Int)), SV.g (Gq16 h), SV.g (Value.int IntKind.i64 (0 : Int)), SV.g (Value.int IntKind.i64 (0 : Int)), SV.g (Value.int IntKind.i64 (0 : Int)), SV.g (Value.int IntKind.i64 (nm (Gq15 h) (0 : Nat) (ByteArray.size (Gq15
  h)))), SV.g (Value.int IntKind.i64 (0 : Int)), SV.g (Value.int IntKind.i64 (0 : Int)), SV.g (Value.bool false), SV.g (Value.string (ByteArray.mk #[]))])), SV.g (Value.int IntKind.i64 (8 : Int))] = SV.tup [SV.agg (U.cells
  (partsU h (6 : Int))), SV.g (Value.int IntKind.i64 (8 : Int))])) ((Gq14) ∧ (Gq14) ∧ condX (bif true then decide ((7 : Int) < (↑(ByteArray.size h) : Int)) else false) (((0 : Int) ≤ (7 : Int) ∧ (7 : Int) <
  (↑(ByteArray.size h) : Int)) ∧ (Gq14) ∧ (Gq14) ∧ (Gq14) ∧ (Gq14) ∧ (Gq14) ∧ SV.tup [SV.agg (List.take (10 : Nat) (List.drop (0 : Nat) [SV.g (Value.int IntKind.i64 (6 : Int)), SV.g (Gq16 h), SV.g (Value.int IntKind.i64 (0
  : Int)), SV.g (Value.int IntKind.i64 (0 : Int)), SV.g (Value.int IntKind.i64 (0 : Int)), SV.g (Value.int IntKind.i64 (0 : Int)), SV.g (Value.int IntKind.i64 (IntKind.wrap IntKind.i64 (byteAt h (7 : Int)))), SV.g
  (Value.int IntKind.i64 (0 : Int)), SV.g (Value.bool false), SV.g (Value.string (ByteArray.mk #[]))])), SV.g (Value.int IntKind.i64 (8 : Int))] = SV.tup [SV.agg (U.cells (partsU h (6 : Int))), SV.g (Value.int IntKind.i64
  (8 : Int))]) ((Gq14) ∧ (Gq14) ∧ (Gq14) ∧ (Gq14) ∧ (Gq14) ∧ SV.tup [SV.agg (List.take (10 : Nat) (List.drop (0 : Nat) [SV.g (Value.int IntKind.i64 (6 : Int)), SV.g (Gq16 h), SV.g (Value.int IntKind.i64 (0 : Int)), SV.g
  (Value.int IntKind.i64 (0 : Int)), SV.g (Value.int IntKind.i64 (0 : Int)), SV.g (Value.int IntKind.i64 (0 : Int)), SV.g (Value.int IntKind.i64 (0 : Int)), SV.g (Value.int IntKind.i64 (0 : Int)), SV.g (Value.bool false),
  SV.g (Value.string (ByteArray.mk #[]))])), SV.g (Value.int IntKind.i64 (8 : Int))] = SV.tup [SV.agg (U.cells (partsU h (6 : Int))), SV.g (Value.int IntKind.i64 (8 : Int))]))) ((Gq14) ∧ (Gq14) ∧ (Gq14) ∧ (Gq14) ∧ condX
  (bif true then decide ((7 : Int) ≤ (↑(ByteArray.size h) : Int)) else false) (((0 : Int) ≤ (7 : Int) ∧ (7 : Int) ≤ (↑(ByteArray.size h) : Int)) ∧ ((0 : Int) ≤ (3 : Int) ∧ (3 : Int) ≤ (7 : Int)) ∧ [SV.g (Value.string (Gq15
  h))] = [SV.g (Value.string (Gq15 h))] ∧ ByteArray.size (Gq15 h) ≤ (7 : Nat) ∧ (Gq14) ∧ (Gq14) ∧ condX (bif true then decide ((7 : Int) < (↑(ByteArray.size h) : Int)) else false) (((0 : Int) ≤ (7 : Int) ∧ (7 : Int) <
  (↑(ByteArray.size h) : Int)) ∧ (Gq14) ∧ (Gq14) ∧ (Gq14) ∧ (Gq14) ∧ (Gq14) ∧ SV.tup [SV.agg (List.take (10 : Nat) (List.drop (0 : Nat) [SV.g (Value.int IntKind.i64 (6 : Int)), SV.g (Value.int IntKind.i64 (0 : Int)), SV.g
  (Value.int IntKind.i64 (0 : Int)), SV.g (Value.int IntKind.i64 (0 : Int)), SV.g (Value.int IntKind.i64 (0 : Int)), SV.g (Value.int IntKind.i64 (nm (Gq15 h) (0 : Nat) (ByteArray.size (Gq15 h)))), SV.g (Value.int
  IntKind.i64 (IntKind.wrap IntKind.i64 (byteAt h (7 : Int)))), SV.g (Value.int IntKind.i64 (0 : Int)), SV.g (Value.bool false), SV.g (Value.string (ByteArray.mk #[]))])), SV.g (Value.int IntKind.i64 (8 : Int))] = SV.tup
  [SV.agg (U.cells (partsU h (6 : Int))), SV.g (Value.int IntKind.i64 (8 : Int))]) ((Gq14) ∧ (Gq14) ∧ (Gq14) ∧ (Gq14) ∧ (Gq14) ∧ SV.tup [SV.agg (List.take (10 : Nat) (List.drop (0 : Nat) [SV.g (Value.int IntKind.i64 (6 :
  Int)), SV.g (Value.int IntKind.i64 (0 : Int)), SV.g (Value.int IntKind.i64 (0 : Int)), SV.g (Value.int IntKind.i64 (0 : Int)), SV.g (Value.int IntKind.i64 (0 : Int)), SV.g (Value.int IntKind.i64 (nm (Gq15 h) (0 : Nat)
  (ByteArray.size (Gq15 h)))), SV.g (Value.int IntKind.i64 (0 : Int)), SV.g (Value.int IntKind.i64 (0 : Int)), SV.g (Value.bool false), SV.g (Value.string (ByteArray.mk #[]))])), SV.g (Value.int IntKind.i64 (8 : Int))] =
  SV.tup [SV.agg (U.cells (partsU h (6 : Int))), SV.g (Value.int IntKind.i64 (8 : Int))])) ((Gq14) ∧ (Gq14) ∧ condX (bif true then decide ((7 : Int) < (↑(ByteArray.size h) : Int)) else false) (((0 : Int) ≤ (7 : Int) ∧ (7 :
  Int) < (↑(ByteArray.size h) : Int)) ∧ (Gq14) ∧ (Gq14) ∧ (Gq14) ∧ (Gq14) ∧ (Gq14) ∧ SV.tup [SV.agg (List.take (10 : Nat) (List.drop (0 : Nat) [SV.g (Value.int IntKind.i64 (6 : Int)), SV.g (Value.int IntKind.i64 (0 :
  Int)), SV.g (Value.int IntKind.i64 (0 : Int)), SV.g (Value.int IntKind.i64 (0 : Int)), SV.g (Value.int IntKind.i64 (0 : Int)), SV.g (Value.int IntKind.i64 (0 : Int)), SV.g (Value.int IntKind.i64 (IntKind.wrap IntKind.i64
  (byteAt h (7 : Int)))), SV.g (Value.int IntKind.i64 (0 : Int)), SV.g (Value.bool false), SV.g (Value.string (ByteArray.mk #[]))])), SV.g (Value.int IntKind.i64 (8 : Int))] = SV.tup [SV.agg (U.cells (partsU h (6 : Int))),
  SV.g (Value.int IntKind.i64 (8 : Int))]) ((Gq14) ∧ (Gq14) ∧ (Gq14) ∧ (Gq14) ∧ (Gq14) ∧ SV.tup [SV.agg (List.take (10 : Nat) (List.drop (0 : Nat) [SV.g (Value.int IntKind.i64 (6 : Int)), SV.g (Value.int IntKind.i64 (0 :
  Int)), SV.g (Value.int IntKind.i64 (0 : Int)), SV.g (Value.int IntKind.i64 (0 : Int)), SV.g (Value.int IntKind.i64 (0 : Int)), SV.g (Value.int IntKind.i64 (0 : Int)), SV.g (Value.int IntKind.i64 (0 : Int)), SV.g
  (Value.int IntKind.i64 (0 : Int)), SV.g (Value.bool false), SV.g (Value.string (ByteArray.mk #[]))])), SV.g (Value.int IntKind.i64 (8 : Int))] = SV.tup [SV.agg (U.cells (partsU h (6 : Int))), SV.g (Value.int IntKind.i64
  (8 : Int))])))
theorem vcParts6E : VcParts6 = (∀ (h : ByteArray), fnX cxParts (bodyOf Try.f30) Try.f30.results.toList [.g (.string h), .g (.int .i64 6)] [] (fun r _ => r = partsR h 6)) := by kernel_rfl
set_option maxHeartbeats 4000000 in
theorem vcParts6 : VcParts6 := by
  unfold VcParts6 Gq16 Gq15 Gq14
  intro h
  have q1 : hs 6 116 = decide ((6 : Int) ≠ 1) := by decide
  have q2 : hs 6 102 = decide ((6 : Int) ≤ 4) := by decide
  have q3 : hs 6 110 = decide (5 ≤ (6 : Int) ∧ (6 : Int) ≤ 9) := by decide
  have q4 : hs 6 99 = decide ((6 : Int) = 1 ∨ (6 : Int) = 2 ∨ (6 : Int) = 6 ∨ (6 : Int) = 7) := by decide
  have q5 : hs 6 114 = decide ((6 : Int) = 3 ∨ (6 : Int) = 10) := by decide
  have q6 : hs 6 115 = decide ((6 : Int) ≤ 2) := by decide
  have e : partsU h 6 = ⟨6, pv (hs 6 116) h 1 2, pv (hs 6 102) h (a2 6) 2, 0, pv (hs 6 115) h (a6 6) 1, pv (hs 6 110) h (a3 6) 4, pv (hs 6 99) h (a4 6) 1, pv (hs 6 114) h (a5 6) 1, false, ⟨#[]⟩⟩ := rfl
  simp [a2, a3, a4, a5, a6, sk, q1, q2, q3, q4, q5, q6] at e
  rw [e]
  simp only [condX_iff, cond_true, decide_eq_true_eq, decide_eq_false_iff_not]
  repeat' first | apply And.intro | intro _
  all_goals first | trivial | omega | (rw [size_ext]; omega) | (simp (disch := omega) only [pv_t, pv_f, nm_sub, nm1, wrapB, U.cells, List.drop_zero, List.take_succ_cons, List.take_zero]; try rfl)
theorem vcParts6K : ∀ (h : ByteArray), Held (fnX cxParts (bodyOf Try.f30) Try.f30.results.toList [.g (.string h), .g (.int .i64 6)] [] (fun r _ => r = partsR h 6)) := held1 vcParts6E vcParts6
def Gq17  := ((0 : Int) ≤ (7 : Int) ∧ (7 : Int) < (11 : Int))
def Gq18 (h : ByteArray) := (ByteArray.extract h (3 : Nat) (7 : Nat))
def Gq19 (h : ByteArray) := (Value.int IntKind.i64 (nm (ByteArray.extract h (1 : Nat) (3 : Nat)) (0 : Nat) (ByteArray.size (ByteArray.extract h (1 : Nat) (3 : Nat)))))
def VcParts7 : Prop := ∀ (h : ByteArray), (Gq17) ∧ condX (bif true then decide ((3 : Int) ≤ (↑(ByteArray.size h) : Int)) else false) (((0 : Int) ≤ (3 : Int) ∧ (3 : Int) ≤ (↑(ByteArray.size h) : Int)) ∧ ((0 : Int) ≤ (1 : Int) ∧ (1 : Int) ≤ (3 :
  Int)) ∧ [SV.g (Value.string (ByteArray.extract h (1 : Nat) (3 : Nat)))] = [SV.g (Value.string (ByteArray.extract h (1 : Nat) (3 : Nat)))] ∧ ByteArray.size (ByteArray.extract h (1 : Nat) (3 : Nat)) ≤ (7 : Nat) ∧ (Gq17) ∧
  (Gq17) ∧ (Gq17) ∧ (Gq17) ∧ condX (bif true then decide ((7 : Int) ≤ (↑(ByteArray.size h) : Int)) else false) (((0 : Int) ≤ (7 : Int) ∧ (7 : Int) ≤ (↑(ByteArray.size h) : Int)) ∧ ((0 : Int) ≤ (3 : Int) ∧ (3 : Int) ≤ (7 :
  Int)) ∧ [SV.g (Value.string (Gq18 h))] = [SV.g (Value.string (Gq18 h))] ∧ ByteArray.size (Gq18 h) ≤ (7 : Nat) ∧ (Gq17) ∧ (Gq17) ∧ condX (bif true then decide ((7 : Int) < (↑(ByteArray.size h) : Int)) else false) (((0 :
  Int) ≤ (7 : Int) ∧ (7 : Int) < (↑(ByteArray.size h) : Int)) ∧ (Gq17) ∧ (Gq17) ∧ (Gq17) ∧ (Gq17) ∧ (Gq17) ∧ SV.tup [SV.agg (List.take (10 : Nat) (List.drop (0 : Nat) [SV.g (Value.int IntKind.i64 (7 : Int)), SV.g (Gq19 h),
  SV.g (Value.int IntKind.i64 (0 : Int)), SV.g (Value.int IntKind.i64 (0 : Int)), SV.g (Value.int IntKind.i64 (0 : Int)), SV.g (Value.int IntKind.i64 (nm (Gq18 h) (0 : Nat) (ByteArray.size (Gq18 h)))), SV.g (Value.int
  IntKind.i64 (IntKind.wrap IntKind.i64 (byteAt h (7 : Int)))), SV.g (Value.int IntKind.i64 (0 : Int)), SV.g (Value.bool false), SV.g (Value.string (ByteArray.mk #[]))])), SV.g (Value.int IntKind.i64 (8 : Int))] = SV.tup
  [SV.agg (U.cells (partsU h (7 : Int))), SV.g (Value.int IntKind.i64 (8 : Int))]) ((Gq17) ∧ (Gq17) ∧ (Gq17) ∧ (Gq17) ∧ (Gq17) ∧ SV.tup [SV.agg (List.take (10 : Nat) (List.drop (0 : Nat) [SV.g (Value.int IntKind.i64 (7 :
  Int)), SV.g (Gq19 h), SV.g (Value.int IntKind.i64 (0 : Int)), SV.g (Value.int IntKind.i64 (0 : Int)), SV.g (Value.int IntKind.i64 (0 : Int)), SV.g (Value.int IntKind.i64 (nm (Gq18 h) (0 : Nat) (ByteArray.size (Gq18
  h)))), SV.g (Value.int IntKind.i64 (0 : Int)), SV.g (Value.int IntKind.i64 (0 : Int)), SV.g (Value.bool false), SV.g (Value.string (ByteArray.mk #[]))])), SV.g (Value.int IntKind.i64 (8 : Int))] = SV.tup [SV.agg (U.cells
  (partsU h (7 : Int))), SV.g (Value.int IntKind.i64 (8 : Int))])) ((Gq17) ∧ (Gq17) ∧ condX (bif true then decide ((7 : Int) < (↑(ByteArray.size h) : Int)) else false) (((0 : Int) ≤ (7 : Int) ∧ (7 : Int) <
  (↑(ByteArray.size h) : Int)) ∧ (Gq17) ∧ (Gq17) ∧ (Gq17) ∧ (Gq17) ∧ (Gq17) ∧ SV.tup [SV.agg (List.take (10 : Nat) (List.drop (0 : Nat) [SV.g (Value.int IntKind.i64 (7 : Int)), SV.g (Gq19 h), SV.g (Value.int IntKind.i64 (0
  : Int)), SV.g (Value.int IntKind.i64 (0 : Int)), SV.g (Value.int IntKind.i64 (0 : Int)), SV.g (Value.int IntKind.i64 (0 : Int)), SV.g (Value.int IntKind.i64 (IntKind.wrap IntKind.i64 (byteAt h (7 : Int)))), SV.g
  (Value.int IntKind.i64 (0 : Int)), SV.g (Value.bool false), SV.g (Value.string (ByteArray.mk #[]))])), SV.g (Value.int IntKind.i64 (8 : Int))] = SV.tup [SV.agg (U.cells (partsU h (7 : Int))), SV.g (Value.int IntKind.i64
  (8 : Int))]) ((Gq17) ∧ (Gq17) ∧ (Gq17) ∧ (Gq17) ∧ (Gq17) ∧ SV.tup [SV.agg (List.take (10 : Nat) (List.drop (0 : Nat) [SV.g (Value.int IntKind.i64 (7 : Int)), SV.g (Gq19 h), SV.g (Value.int IntKind.i64 (0 : Int)), SV.g
  (Value.int IntKind.i64 (0 : Int)), SV.g (Value.int IntKind.i64 (0 : Int)), SV.g (Value.int IntKind.i64 (0 : Int)), SV.g (Value.int IntKind.i64 (0 : Int)), SV.g (Value.int IntKind.i64 (0 : Int)), SV.g (Value.bool false),
  SV.g (Value.string (ByteArray.mk #[]))])), SV.g (Value.int IntKind.i64 (8 : Int))] = SV.tup [SV.agg (U.cells (partsU h (7 : Int))), SV.g (Value.int IntKind.i64 (8 : Int))]))) ((Gq17) ∧ (Gq17) ∧ (Gq17) ∧ (Gq17) ∧ condX
  (bif true then decide ((7 : Int) ≤ (↑(ByteArray.size h) : Int)) else false) (((0 : Int) ≤ (7 : Int) ∧ (7 : Int) ≤ (↑(ByteArray.size h) : Int)) ∧ ((0 : Int) ≤ (3 : Int) ∧ (3 : Int) ≤ (7 : Int)) ∧ [SV.g (Value.string (Gq18
  h))] = [SV.g (Value.string (Gq18 h))] ∧ ByteArray.size (Gq18 h) ≤ (7 : Nat) ∧ (Gq17) ∧ (Gq17) ∧ condX (bif true then decide ((7 : Int) < (↑(ByteArray.size h) : Int)) else false) (((0 : Int) ≤ (7 : Int) ∧ (7 : Int) <
  (↑(ByteArray.size h) : Int)) ∧ (Gq17) ∧ (Gq17) ∧ (Gq17) ∧ (Gq17) ∧ (Gq17) ∧ SV.tup [SV.agg (List.take (10 : Nat) (List.drop (0 : Nat) [SV.g (Value.int IntKind.i64 (7 : Int)), SV.g (Value.int IntKind.i64 (0 : Int)), SV.g
  (Value.int IntKind.i64 (0 : Int)), SV.g (Value.int IntKind.i64 (0 : Int)), SV.g (Value.int IntKind.i64 (0 : Int)), SV.g (Value.int IntKind.i64 (nm (Gq18 h) (0 : Nat) (ByteArray.size (Gq18 h)))), SV.g (Value.int
  IntKind.i64 (IntKind.wrap IntKind.i64 (byteAt h (7 : Int)))), SV.g (Value.int IntKind.i64 (0 : Int)), SV.g (Value.bool false), SV.g (Value.string (ByteArray.mk #[]))])), SV.g (Value.int IntKind.i64 (8 : Int))] = SV.tup
  [SV.agg (U.cells (partsU h (7 : Int))), SV.g (Value.int IntKind.i64 (8 : Int))]) ((Gq17) ∧ (Gq17) ∧ (Gq17) ∧ (Gq17) ∧ (Gq17) ∧ SV.tup [SV.agg (List.take (10 : Nat) (List.drop (0 : Nat) [SV.g (Value.int IntKind.i64 (7 :
  Int)), SV.g (Value.int IntKind.i64 (0 : Int)), SV.g (Value.int IntKind.i64 (0 : Int)), SV.g (Value.int IntKind.i64 (0 : Int)), SV.g (Value.int IntKind.i64 (0 : Int)), SV.g (Value.int IntKind.i64 (nm (Gq18 h) (0 : Nat)
  (ByteArray.size (Gq18 h)))), SV.g (Value.int IntKind.i64 (0 : Int)), SV.g (Value.int IntKind.i64 (0 : Int)), SV.g (Value.bool false), SV.g (Value.string (ByteArray.mk #[]))])), SV.g (Value.int IntKind.i64 (8 : Int))] =
  SV.tup [SV.agg (U.cells (partsU h (7 : Int))), SV.g (Value.int IntKind.i64 (8 : Int))])) ((Gq17) ∧ (Gq17) ∧ condX (bif true then decide ((7 : Int) < (↑(ByteArray.size h) : Int)) else false) (((0 : Int) ≤ (7 : Int) ∧ (7 :
  Int) < (↑(ByteArray.size h) : Int)) ∧ (Gq17) ∧ (Gq17) ∧ (Gq17) ∧ (Gq17) ∧ (Gq17) ∧ SV.tup [SV.agg (List.take (10 : Nat) (List.drop (0 : Nat) [SV.g (Value.int IntKind.i64 (7 : Int)), SV.g (Value.int IntKind.i64 (0 :
  Int)), SV.g (Value.int IntKind.i64 (0 : Int)), SV.g (Value.int IntKind.i64 (0 : Int)), SV.g (Value.int IntKind.i64 (0 : Int)), SV.g (Value.int IntKind.i64 (0 : Int)), SV.g (Value.int IntKind.i64 (IntKind.wrap IntKind.i64
  (byteAt h (7 : Int)))), SV.g (Value.int IntKind.i64 (0 : Int)), SV.g (Value.bool false), SV.g (Value.string (ByteArray.mk #[]))])), SV.g (Value.int IntKind.i64 (8 : Int))] = SV.tup [SV.agg (U.cells (partsU h (7 : Int))),
  SV.g (Value.int IntKind.i64 (8 : Int))]) ((Gq17) ∧ (Gq17) ∧ (Gq17) ∧ (Gq17) ∧ (Gq17) ∧ SV.tup [SV.agg (List.take (10 : Nat) (List.drop (0 : Nat) [SV.g (Value.int IntKind.i64 (7 : Int)), SV.g (Value.int IntKind.i64 (0 :
  Int)), SV.g (Value.int IntKind.i64 (0 : Int)), SV.g (Value.int IntKind.i64 (0 : Int)), SV.g (Value.int IntKind.i64 (0 : Int)), SV.g (Value.int IntKind.i64 (0 : Int)), SV.g (Value.int IntKind.i64 (0 : Int)), SV.g
  (Value.int IntKind.i64 (0 : Int)), SV.g (Value.bool false), SV.g (Value.string (ByteArray.mk #[]))])), SV.g (Value.int IntKind.i64 (8 : Int))] = SV.tup [SV.agg (U.cells (partsU h (7 : Int))), SV.g (Value.int IntKind.i64
  (8 : Int))])))
theorem vcParts7E : VcParts7 = (∀ (h : ByteArray), fnX cxParts (bodyOf Try.f30) Try.f30.results.toList [.g (.string h), .g (.int .i64 7)] [] (fun r _ => r = partsR h 7)) := by kernel_rfl
set_option maxHeartbeats 4000000 in
theorem vcParts7 : VcParts7 := by
  unfold VcParts7 Gq19 Gq18 Gq17
  intro h
  have q1 : hs 7 116 = decide ((7 : Int) ≠ 1) := by decide
  have q2 : hs 7 102 = decide ((7 : Int) ≤ 4) := by decide
  have q3 : hs 7 110 = decide (5 ≤ (7 : Int) ∧ (7 : Int) ≤ 9) := by decide
  have q4 : hs 7 99 = decide ((7 : Int) = 1 ∨ (7 : Int) = 2 ∨ (7 : Int) = 6 ∨ (7 : Int) = 7) := by decide
  have q5 : hs 7 114 = decide ((7 : Int) = 3 ∨ (7 : Int) = 10) := by decide
  have q6 : hs 7 115 = decide ((7 : Int) ≤ 2) := by decide
  have e : partsU h 7 = ⟨7, pv (hs 7 116) h 1 2, pv (hs 7 102) h (a2 7) 2, 0, pv (hs 7 115) h (a6 7) 1, pv (hs 7 110) h (a3 7) 4, pv (hs 7 99) h (a4 7) 1, pv (hs 7 114) h (a5 7) 1, false, ⟨#[]⟩⟩ := rfl
  simp [a2, a3, a4, a5, a6, sk, q1, q2, q3, q4, q5, q6] at e
  rw [e]
  simp only [condX_iff, cond_true, decide_eq_true_eq, decide_eq_false_iff_not]
  repeat' first | apply And.intro | intro _
  all_goals first | trivial | omega | (rw [size_ext]; omega) | (simp (disch := omega) only [pv_t, pv_f, nm_sub, nm1, wrapB, U.cells, List.drop_zero, List.take_succ_cons, List.take_zero]; try rfl)
theorem vcParts7K : ∀ (h : ByteArray), Held (fnX cxParts (bodyOf Try.f30) Try.f30.results.toList [.g (.string h), .g (.int .i64 7)] [] (fun r _ => r = partsR h 7)) := held1 vcParts7E vcParts7
def Gq20  := ((0 : Int) ≤ (8 : Int) ∧ (8 : Int) < (11 : Int))
def VcParts8 : Prop := ∀ (h : ByteArray), (Gq20) ∧ condX (bif true then decide ((3 : Int) ≤ (↑(ByteArray.size h) : Int)) else false) (((0 : Int) ≤ (3 : Int) ∧ (3 : Int) ≤ (↑(ByteArray.size h) : Int)) ∧ ((0 : Int) ≤ (1 : Int) ∧ (1 : Int) ≤ (3 :
  Int)) ∧ [SV.g (Value.string (ByteArray.extract h (1 : Nat) (3 : Nat)))] = [SV.g (Value.string (ByteArray.extract h (1 : Nat) (3 : Nat)))] ∧ ByteArray.size (ByteArray.extract h (1 : Nat) (3 : Nat)) ≤ (7 : Nat) ∧ (Gq20) ∧
  (Gq20) ∧ (Gq20) ∧ (Gq20) ∧ condX (bif true then decide ((7 : Int) ≤ (↑(ByteArray.size h) : Int)) else false) (((0 : Int) ≤ (7 : Int) ∧ (7 : Int) ≤ (↑(ByteArray.size h) : Int)) ∧ ((0 : Int) ≤ (3 : Int) ∧ (3 : Int) ≤ (7 :
  Int)) ∧ [SV.g (Value.string (ByteArray.extract h (3 : Nat) (7 : Nat)))] = [SV.g (Value.string (ByteArray.extract h (3 : Nat) (7 : Nat)))] ∧ ByteArray.size (ByteArray.extract h (3 : Nat) (7 : Nat)) ≤ (7 : Nat) ∧ (Gq20) ∧
  (Gq20) ∧ (Gq20) ∧ (Gq20) ∧ (Gq20) ∧ (Gq20) ∧ (Gq20) ∧ SV.tup [SV.agg (List.take (10 : Nat) (List.drop (0 : Nat) [SV.g (Value.int IntKind.i64 (8 : Int)), SV.g (Value.int IntKind.i64 (nm (ByteArray.extract h (1 : Nat) (3 :
  Nat)) (0 : Nat) (ByteArray.size (ByteArray.extract h (1 : Nat) (3 : Nat))))), SV.g (Value.int IntKind.i64 (0 : Int)), SV.g (Value.int IntKind.i64 (0 : Int)), SV.g (Value.int IntKind.i64 (0 : Int)), SV.g (Value.int
  IntKind.i64 (nm (ByteArray.extract h (3 : Nat) (7 : Nat)) (0 : Nat) (ByteArray.size (ByteArray.extract h (3 : Nat) (7 : Nat))))), SV.g (Value.int IntKind.i64 (0 : Int)), SV.g (Value.int IntKind.i64 (0 : Int)), SV.g
  (Value.bool false), SV.g (Value.string (ByteArray.mk #[]))])), SV.g (Value.int IntKind.i64 (7 : Int))] = SV.tup [SV.agg (U.cells (partsU h (8 : Int))), SV.g (Value.int IntKind.i64 (7 : Int))]) ((Gq20) ∧ (Gq20) ∧ (Gq20) ∧
  (Gq20) ∧ (Gq20) ∧ (Gq20) ∧ (Gq20) ∧ SV.tup [SV.agg (List.take (10 : Nat) (List.drop (0 : Nat) [SV.g (Value.int IntKind.i64 (8 : Int)), SV.g (Value.int IntKind.i64 (nm (ByteArray.extract h (1 : Nat) (3 : Nat)) (0 : Nat)
  (ByteArray.size (ByteArray.extract h (1 : Nat) (3 : Nat))))), SV.g (Value.int IntKind.i64 (0 : Int)), SV.g (Value.int IntKind.i64 (0 : Int)), SV.g (Value.int IntKind.i64 (0 : Int)), SV.g (Value.int IntKind.i64 (0 :
  Int)), SV.g (Value.int IntKind.i64 (0 : Int)), SV.g (Value.int IntKind.i64 (0 : Int)), SV.g (Value.bool false), SV.g (Value.string (ByteArray.mk #[]))])), SV.g (Value.int IntKind.i64 (7 : Int))] = SV.tup [SV.agg (U.cells
  (partsU h (8 : Int))), SV.g (Value.int IntKind.i64 (7 : Int))])) ((Gq20) ∧ (Gq20) ∧ (Gq20) ∧ (Gq20) ∧ condX (bif true then decide ((7 : Int) ≤ (↑(ByteArray.size h) : Int)) else false) (((0 : Int) ≤ (7 : Int) ∧ (7 : Int)
  ≤ (↑(ByteArray.size h) : Int)) ∧ ((0 : Int) ≤ (3 : Int) ∧ (3 : Int) ≤ (7 : Int)) ∧ [SV.g (Value.string (ByteArray.extract h (3 : Nat) (7 : Nat)))] = [SV.g (Value.string (ByteArray.extract h (3 : Nat) (7 : Nat)))] ∧
  ByteArray.size (ByteArray.extract h (3 : Nat) (7 : Nat)) ≤ (7 : Nat) ∧ (Gq20) ∧ (Gq20) ∧ (Gq20) ∧ (Gq20) ∧ (Gq20) ∧ (Gq20) ∧ (Gq20) ∧ SV.tup [SV.agg (List.take (10 : Nat) (List.drop (0 : Nat) [SV.g (Value.int IntKind.i64
  (8 : Int)), SV.g (Value.int IntKind.i64 (0 : Int)), SV.g (Value.int IntKind.i64 (0 : Int)), SV.g (Value.int IntKind.i64 (0 : Int)), SV.g (Value.int IntKind.i64 (0 : Int)), SV.g (Value.int IntKind.i64 (nm
  (ByteArray.extract h (3 : Nat) (7 : Nat)) (0 : Nat) (ByteArray.size (ByteArray.extract h (3 : Nat) (7 : Nat))))), SV.g (Value.int IntKind.i64 (0 : Int)), SV.g (Value.int IntKind.i64 (0 : Int)), SV.g (Value.bool false),
  SV.g (Value.string (ByteArray.mk #[]))])), SV.g (Value.int IntKind.i64 (7 : Int))] = SV.tup [SV.agg (U.cells (partsU h (8 : Int))), SV.g (Value.int IntKind.i64 (7 : Int))]) ((Gq20) ∧ (Gq20) ∧ (Gq20) ∧ (Gq20) ∧ (Gq20) ∧
  (Gq20) ∧ (Gq20) ∧ SV.tup [SV.agg (List.take (10 : Nat) (List.drop (0 : Nat) [SV.g (Value.int IntKind.i64 (8 : Int)), SV.g (Value.int IntKind.i64 (0 : Int)), SV.g (Value.int IntKind.i64 (0 : Int)), SV.g (Value.int
  IntKind.i64 (0 : Int)), SV.g (Value.int IntKind.i64 (0 : Int)), SV.g (Value.int IntKind.i64 (0 : Int)), SV.g (Value.int IntKind.i64 (0 : Int)), SV.g (Value.int IntKind.i64 (0 : Int)), SV.g (Value.bool false), SV.g
  (Value.string (ByteArray.mk #[]))])), SV.g (Value.int IntKind.i64 (7 : Int))] = SV.tup [SV.agg (U.cells (partsU h (8 : Int))), SV.g (Value.int IntKind.i64 (7 : Int))]))
theorem vcParts8E : VcParts8 = (∀ (h : ByteArray), fnX cxParts (bodyOf Try.f30) Try.f30.results.toList [.g (.string h), .g (.int .i64 8)] [] (fun r _ => r = partsR h 8)) := by kernel_rfl
set_option maxHeartbeats 4000000 in
theorem vcParts8 : VcParts8 := by
  unfold VcParts8 Gq20
  intro h
  have q1 : hs 8 116 = decide ((8 : Int) ≠ 1) := by decide
  have q2 : hs 8 102 = decide ((8 : Int) ≤ 4) := by decide
  have q3 : hs 8 110 = decide (5 ≤ (8 : Int) ∧ (8 : Int) ≤ 9) := by decide
  have q4 : hs 8 99 = decide ((8 : Int) = 1 ∨ (8 : Int) = 2 ∨ (8 : Int) = 6 ∨ (8 : Int) = 7) := by decide
  have q5 : hs 8 114 = decide ((8 : Int) = 3 ∨ (8 : Int) = 10) := by decide
  have q6 : hs 8 115 = decide ((8 : Int) ≤ 2) := by decide
  have e : partsU h 8 = ⟨8, pv (hs 8 116) h 1 2, pv (hs 8 102) h (a2 8) 2, 0, pv (hs 8 115) h (a6 8) 1, pv (hs 8 110) h (a3 8) 4, pv (hs 8 99) h (a4 8) 1, pv (hs 8 114) h (a5 8) 1, false, ⟨#[]⟩⟩ := rfl
  simp [a2, a3, a4, a5, a6, sk, q1, q2, q3, q4, q5, q6] at e
  rw [e]
  simp only [condX_iff, cond_true, decide_eq_true_eq, decide_eq_false_iff_not]
  repeat' first | apply And.intro | intro _
  all_goals first | trivial | omega | (rw [size_ext]; omega) | (simp (disch := omega) only [pv_t, pv_f, nm_sub, nm1, wrapB, U.cells, List.drop_zero, List.take_succ_cons, List.take_zero]; try rfl)
theorem vcParts8K : ∀ (h : ByteArray), Held (fnX cxParts (bodyOf Try.f30) Try.f30.results.toList [.g (.string h), .g (.int .i64 8)] [] (fun r _ => r = partsR h 8)) := held1 vcParts8E vcParts8
def Gq21  := ((0 : Int) ≤ (9 : Int) ∧ (9 : Int) < (11 : Int))
def VcParts9 : Prop := ∀ (h : ByteArray), (Gq21) ∧ condX (bif true then decide ((3 : Int) ≤ (↑(ByteArray.size h) : Int)) else false) (((0 : Int) ≤ (3 : Int) ∧ (3 : Int) ≤ (↑(ByteArray.size h) : Int)) ∧ ((0 : Int) ≤ (1 : Int) ∧ (1 : Int) ≤ (3 :
  Int)) ∧ [SV.g (Value.string (ByteArray.extract h (1 : Nat) (3 : Nat)))] = [SV.g (Value.string (ByteArray.extract h (1 : Nat) (3 : Nat)))] ∧ ByteArray.size (ByteArray.extract h (1 : Nat) (3 : Nat)) ≤ (7 : Nat) ∧ (Gq21) ∧
  (Gq21) ∧ (Gq21) ∧ (Gq21) ∧ condX (bif true then decide ((7 : Int) ≤ (↑(ByteArray.size h) : Int)) else false) (((0 : Int) ≤ (7 : Int) ∧ (7 : Int) ≤ (↑(ByteArray.size h) : Int)) ∧ ((0 : Int) ≤ (3 : Int) ∧ (3 : Int) ≤ (7 :
  Int)) ∧ [SV.g (Value.string (ByteArray.extract h (3 : Nat) (7 : Nat)))] = [SV.g (Value.string (ByteArray.extract h (3 : Nat) (7 : Nat)))] ∧ ByteArray.size (ByteArray.extract h (3 : Nat) (7 : Nat)) ≤ (7 : Nat) ∧ (Gq21) ∧
  (Gq21) ∧ (Gq21) ∧ (Gq21) ∧ (Gq21) ∧ (Gq21) ∧ (Gq21) ∧ SV.tup [SV.agg (List.take (10 : Nat) (List.drop (0 : Nat) [SV.g (Value.int IntKind.i64 (9 : Int)), SV.g (Value.int IntKind.i64 (nm (ByteArray.extract h (1 : Nat) (3 :
  Nat)) (0 : Nat) (ByteArray.size (ByteArray.extract h (1 : Nat) (3 : Nat))))), SV.g (Value.int IntKind.i64 (0 : Int)), SV.g (Value.int IntKind.i64 (0 : Int)), SV.g (Value.int IntKind.i64 (0 : Int)), SV.g (Value.int
  IntKind.i64 (nm (ByteArray.extract h (3 : Nat) (7 : Nat)) (0 : Nat) (ByteArray.size (ByteArray.extract h (3 : Nat) (7 : Nat))))), SV.g (Value.int IntKind.i64 (0 : Int)), SV.g (Value.int IntKind.i64 (0 : Int)), SV.g
  (Value.bool false), SV.g (Value.string (ByteArray.mk #[]))])), SV.g (Value.int IntKind.i64 (7 : Int))] = SV.tup [SV.agg (U.cells (partsU h (9 : Int))), SV.g (Value.int IntKind.i64 (7 : Int))]) ((Gq21) ∧ (Gq21) ∧ (Gq21) ∧
  (Gq21) ∧ (Gq21) ∧ (Gq21) ∧ (Gq21) ∧ SV.tup [SV.agg (List.take (10 : Nat) (List.drop (0 : Nat) [SV.g (Value.int IntKind.i64 (9 : Int)), SV.g (Value.int IntKind.i64 (nm (ByteArray.extract h (1 : Nat) (3 : Nat)) (0 : Nat)
  (ByteArray.size (ByteArray.extract h (1 : Nat) (3 : Nat))))), SV.g (Value.int IntKind.i64 (0 : Int)), SV.g (Value.int IntKind.i64 (0 : Int)), SV.g (Value.int IntKind.i64 (0 : Int)), SV.g (Value.int IntKind.i64 (0 :
  Int)), SV.g (Value.int IntKind.i64 (0 : Int)), SV.g (Value.int IntKind.i64 (0 : Int)), SV.g (Value.bool false), SV.g (Value.string (ByteArray.mk #[]))])), SV.g (Value.int IntKind.i64 (7 : Int))] = SV.tup [SV.agg (U.cells
  (partsU h (9 : Int))), SV.g (Value.int IntKind.i64 (7 : Int))])) ((Gq21) ∧ (Gq21) ∧ (Gq21) ∧ (Gq21) ∧ condX (bif true then decide ((7 : Int) ≤ (↑(ByteArray.size h) : Int)) else false) (((0 : Int) ≤ (7 : Int) ∧ (7 : Int)
  ≤ (↑(ByteArray.size h) : Int)) ∧ ((0 : Int) ≤ (3 : Int) ∧ (3 : Int) ≤ (7 : Int)) ∧ [SV.g (Value.string (ByteArray.extract h (3 : Nat) (7 : Nat)))] = [SV.g (Value.string (ByteArray.extract h (3 : Nat) (7 : Nat)))] ∧
  ByteArray.size (ByteArray.extract h (3 : Nat) (7 : Nat)) ≤ (7 : Nat) ∧ (Gq21) ∧ (Gq21) ∧ (Gq21) ∧ (Gq21) ∧ (Gq21) ∧ (Gq21) ∧ (Gq21) ∧ SV.tup [SV.agg (List.take (10 : Nat) (List.drop (0 : Nat) [SV.g (Value.int IntKind.i64
  (9 : Int)), SV.g (Value.int IntKind.i64 (0 : Int)), SV.g (Value.int IntKind.i64 (0 : Int)), SV.g (Value.int IntKind.i64 (0 : Int)), SV.g (Value.int IntKind.i64 (0 : Int)), SV.g (Value.int IntKind.i64 (nm
  (ByteArray.extract h (3 : Nat) (7 : Nat)) (0 : Nat) (ByteArray.size (ByteArray.extract h (3 : Nat) (7 : Nat))))), SV.g (Value.int IntKind.i64 (0 : Int)), SV.g (Value.int IntKind.i64 (0 : Int)), SV.g (Value.bool false),
  SV.g (Value.string (ByteArray.mk #[]))])), SV.g (Value.int IntKind.i64 (7 : Int))] = SV.tup [SV.agg (U.cells (partsU h (9 : Int))), SV.g (Value.int IntKind.i64 (7 : Int))]) ((Gq21) ∧ (Gq21) ∧ (Gq21) ∧ (Gq21) ∧ (Gq21) ∧
  (Gq21) ∧ (Gq21) ∧ SV.tup [SV.agg (List.take (10 : Nat) (List.drop (0 : Nat) [SV.g (Value.int IntKind.i64 (9 : Int)), SV.g (Value.int IntKind.i64 (0 : Int)), SV.g (Value.int IntKind.i64 (0 : Int)), SV.g (Value.int
  IntKind.i64 (0 : Int)), SV.g (Value.int IntKind.i64 (0 : Int)), SV.g (Value.int IntKind.i64 (0 : Int)), SV.g (Value.int IntKind.i64 (0 : Int)), SV.g (Value.int IntKind.i64 (0 : Int)), SV.g (Value.bool false), SV.g
  (Value.string (ByteArray.mk #[]))])), SV.g (Value.int IntKind.i64 (7 : Int))] = SV.tup [SV.agg (U.cells (partsU h (9 : Int))), SV.g (Value.int IntKind.i64 (7 : Int))]))
theorem vcParts9E : VcParts9 = (∀ (h : ByteArray), fnX cxParts (bodyOf Try.f30) Try.f30.results.toList [.g (.string h), .g (.int .i64 9)] [] (fun r _ => r = partsR h 9)) := by kernel_rfl
set_option maxHeartbeats 4000000 in
theorem vcParts9 : VcParts9 := by
  unfold VcParts9 Gq21
  intro h
  have q1 : hs 9 116 = decide ((9 : Int) ≠ 1) := by decide
  have q2 : hs 9 102 = decide ((9 : Int) ≤ 4) := by decide
  have q3 : hs 9 110 = decide (5 ≤ (9 : Int) ∧ (9 : Int) ≤ 9) := by decide
  have q4 : hs 9 99 = decide ((9 : Int) = 1 ∨ (9 : Int) = 2 ∨ (9 : Int) = 6 ∨ (9 : Int) = 7) := by decide
  have q5 : hs 9 114 = decide ((9 : Int) = 3 ∨ (9 : Int) = 10) := by decide
  have q6 : hs 9 115 = decide ((9 : Int) ≤ 2) := by decide
  have e : partsU h 9 = ⟨9, pv (hs 9 116) h 1 2, pv (hs 9 102) h (a2 9) 2, 0, pv (hs 9 115) h (a6 9) 1, pv (hs 9 110) h (a3 9) 4, pv (hs 9 99) h (a4 9) 1, pv (hs 9 114) h (a5 9) 1, false, ⟨#[]⟩⟩ := rfl
  simp [a2, a3, a4, a5, a6, sk, q1, q2, q3, q4, q5, q6] at e
  rw [e]
  simp only [condX_iff, cond_true, decide_eq_true_eq, decide_eq_false_iff_not]
  repeat' first | apply And.intro | intro _
  all_goals first | trivial | omega | (rw [size_ext]; omega) | (simp (disch := omega) only [pv_t, pv_f, nm_sub, nm1, wrapB, U.cells, List.drop_zero, List.take_succ_cons, List.take_zero]; try rfl)
theorem vcParts9K : ∀ (h : ByteArray), Held (fnX cxParts (bodyOf Try.f30) Try.f30.results.toList [.g (.string h), .g (.int .i64 9)] [] (fun r _ => r = partsR h 9)) := held1 vcParts9E vcParts9
def VcParts10 : Prop := ∀ (h : ByteArray), ((0 : Int) ≤ (10 : Int) ∧ (10 : Int) < (11 : Int)) ∧ condX (bif true then decide ((3 : Int) ≤ (↑(ByteArray.size h) : Int)) else false) (((0 : Int) ≤ (3 : Int) ∧ (3 : Int) ≤ (↑(ByteArray.size h) : Int))
  ∧ ((0 : Int) ≤ (1 : Int) ∧ (1 : Int) ≤ (3 : Int)) ∧ [SV.g (Value.string (ByteArray.extract h (1 : Nat) (3 : Nat)))] = [SV.g (Value.string (ByteArray.extract h (1 : Nat) (3 : Nat)))] ∧ ByteArray.size (ByteArray.extract h
  (1 : Nat) (3 : Nat)) ≤ (7 : Nat) ∧ ((0 : Int) ≤ (10 : Int) ∧ (10 : Int) < (11 : Int)) ∧ ((0 : Int) ≤ (10 : Int) ∧ (10 : Int) < (11 : Int)) ∧ ((0 : Int) ≤ (10 : Int) ∧ (10 : Int) < (11 : Int)) ∧ ((0 : Int) ≤ (10 : Int) ∧
  (10 : Int) < (11 : Int)) ∧ ((0 : Int) ≤ (10 : Int) ∧ (10 : Int) < (11 : Int)) ∧ ((0 : Int) ≤ (10 : Int) ∧ (10 : Int) < (11 : Int)) ∧ ((0 : Int) ≤ (10 : Int) ∧ (10 : Int) < (11 : Int)) ∧ ((0 : Int) ≤ (10 : Int) ∧ (10 :
  Int) < (11 : Int)) ∧ condX (bif true then decide ((3 : Int) < (↑(ByteArray.size h) : Int)) else false) (((0 : Int) ≤ (3 : Int) ∧ (3 : Int) < (↑(ByteArray.size h) : Int)) ∧ ((0 : Int) ≤ (10 : Int) ∧ (10 : Int) < (11 :
  Int)) ∧ ((0 : Int) ≤ (10 : Int) ∧ (10 : Int) < (11 : Int)) ∧ ((0 : Int) ≤ (10 : Int) ∧ (10 : Int) < (11 : Int)) ∧ SV.tup [SV.agg (List.take (10 : Nat) (List.drop (0 : Nat) [SV.g (Value.int IntKind.i64 (10 : Int)), SV.g
  (Value.int IntKind.i64 (nm (ByteArray.extract h (1 : Nat) (3 : Nat)) (0 : Nat) (ByteArray.size (ByteArray.extract h (1 : Nat) (3 : Nat))))), SV.g (Value.int IntKind.i64 (0 : Int)), SV.g (Value.int IntKind.i64 (0 : Int)),
  SV.g (Value.int IntKind.i64 (0 : Int)), SV.g (Value.int IntKind.i64 (0 : Int)), SV.g (Value.int IntKind.i64 (0 : Int)), SV.g (Value.int IntKind.i64 (IntKind.wrap IntKind.i64 (byteAt h (3 : Int)))), SV.g (Value.bool
  false), SV.g (Value.string (ByteArray.mk #[]))])), SV.g (Value.int IntKind.i64 (4 : Int))] = SV.tup [SV.agg (U.cells (partsU h (10 : Int))), SV.g (Value.int IntKind.i64 (4 : Int))]) (((0 : Int) ≤ (10 : Int) ∧ (10 : Int)
  < (11 : Int)) ∧ ((0 : Int) ≤ (10 : Int) ∧ (10 : Int) < (11 : Int)) ∧ ((0 : Int) ≤ (10 : Int) ∧ (10 : Int) < (11 : Int)) ∧ SV.tup [SV.agg (List.take (10 : Nat) (List.drop (0 : Nat) [SV.g (Value.int IntKind.i64 (10 :
  Int)), SV.g (Value.int IntKind.i64 (nm (ByteArray.extract h (1 : Nat) (3 : Nat)) (0 : Nat) (ByteArray.size (ByteArray.extract h (1 : Nat) (3 : Nat))))), SV.g (Value.int IntKind.i64 (0 : Int)), SV.g (Value.int IntKind.i64
  (0 : Int)), SV.g (Value.int IntKind.i64 (0 : Int)), SV.g (Value.int IntKind.i64 (0 : Int)), SV.g (Value.int IntKind.i64 (0 : Int)), SV.g (Value.int IntKind.i64 (0 : Int)), SV.g (Value.bool false), SV.g (Value.string
  (ByteArray.mk #[]))])), SV.g (Value.int IntKind.i64 (4 : Int))] = SV.tup [SV.agg (U.cells (partsU h (10 : Int))), SV.g (Value.int IntKind.i64 (4 : Int))])) (((0 : Int) ≤ (10 : Int) ∧ (10 : Int) < (11 : Int)) ∧ ((0 : Int)
  ≤ (10 : Int) ∧ (10 : Int) < (11 : Int)) ∧ ((0 : Int) ≤ (10 : Int) ∧ (10 : Int) < (11 : Int)) ∧ ((0 : Int) ≤ (10 : Int) ∧ (10 : Int) < (11 : Int)) ∧ ((0 : Int) ≤ (10 : Int) ∧ (10 : Int) < (11 : Int)) ∧ ((0 : Int) ≤ (10 :
  Int) ∧ (10 : Int) < (11 : Int)) ∧ ((0 : Int) ≤ (10 : Int) ∧ (10 : Int) < (11 : Int)) ∧ ((0 : Int) ≤ (10 : Int) ∧ (10 : Int) < (11 : Int)) ∧ condX (bif true then decide ((3 : Int) < (↑(ByteArray.size h) : Int)) else
  false) (((0 : Int) ≤ (3 : Int) ∧ (3 : Int) < (↑(ByteArray.size h) : Int)) ∧ ((0 : Int) ≤ (10 : Int) ∧ (10 : Int) < (11 : Int)) ∧ ((0 : Int) ≤ (10 : Int) ∧ (10 : Int) < (11 : Int)) ∧ ((0 : Int) ≤ (10 : Int) ∧ (10 : Int) <
  (11 : Int)) ∧ SV.tup [SV.agg (List.take (10 : Nat) (List.drop (0 : Nat) [SV.g (Value.int IntKind.i64 (10 : Int)), SV.g (Value.int IntKind.i64 (0 : Int)), SV.g (Value.int IntKind.i64 (0 : Int)), SV.g (Value.int
  IntKind.i64 (0 : Int)), SV.g (Value.int IntKind.i64 (0 : Int)), SV.g (Value.int IntKind.i64 (0 : Int)), SV.g (Value.int IntKind.i64 (0 : Int)), SV.g (Value.int IntKind.i64 (IntKind.wrap IntKind.i64 (byteAt h (3 :
  Int)))), SV.g (Value.bool false), SV.g (Value.string (ByteArray.mk #[]))])), SV.g (Value.int IntKind.i64 (4 : Int))] = SV.tup [SV.agg (U.cells (partsU h (10 : Int))), SV.g (Value.int IntKind.i64 (4 : Int))]) (((0 : Int)
  ≤ (10 : Int) ∧ (10 : Int) < (11 : Int)) ∧ ((0 : Int) ≤ (10 : Int) ∧ (10 : Int) < (11 : Int)) ∧ ((0 : Int) ≤ (10 : Int) ∧ (10 : Int) < (11 : Int)) ∧ SV.tup [SV.agg (List.take (10 : Nat) (List.drop (0 : Nat) [SV.g
  (Value.int IntKind.i64 (10 : Int)), SV.g (Value.int IntKind.i64 (0 : Int)), SV.g (Value.int IntKind.i64 (0 : Int)), SV.g (Value.int IntKind.i64 (0 : Int)), SV.g (Value.int IntKind.i64 (0 : Int)), SV.g (Value.int
  IntKind.i64 (0 : Int)), SV.g (Value.int IntKind.i64 (0 : Int)), SV.g (Value.int IntKind.i64 (0 : Int)), SV.g (Value.bool false), SV.g (Value.string (ByteArray.mk #[]))])), SV.g (Value.int IntKind.i64 (4 : Int))] = SV.tup
  [SV.agg (U.cells (partsU h (10 : Int))), SV.g (Value.int IntKind.i64 (4 : Int))]))
theorem vcParts10E : VcParts10 = (∀ (h : ByteArray), fnX cxParts (bodyOf Try.f30) Try.f30.results.toList [.g (.string h), .g (.int .i64 10)] [] (fun r _ => r = partsR h 10)) := by kernel_rfl
set_option maxHeartbeats 4000000 in
theorem vcParts10 : VcParts10 := by
  intro h
  have q1 : hs 10 116 = decide ((10 : Int) ≠ 1) := by decide
  have q2 : hs 10 102 = decide ((10 : Int) ≤ 4) := by decide
  have q3 : hs 10 110 = decide (5 ≤ (10 : Int) ∧ (10 : Int) ≤ 9) := by decide
  have q4 : hs 10 99 = decide ((10 : Int) = 1 ∨ (10 : Int) = 2 ∨ (10 : Int) = 6 ∨ (10 : Int) = 7) := by decide
  have q5 : hs 10 114 = decide ((10 : Int) = 3 ∨ (10 : Int) = 10) := by decide
  have q6 : hs 10 115 = decide ((10 : Int) ≤ 2) := by decide
  have e : partsU h 10 = ⟨10, pv (hs 10 116) h 1 2, pv (hs 10 102) h (a2 10) 2, 0, pv (hs 10 115) h (a6 10) 1, pv (hs 10 110) h (a3 10) 4, pv (hs 10 99) h (a4 10) 1, pv (hs 10 114) h (a5 10) 1, false, ⟨#[]⟩⟩ := rfl
  simp [a2, a3, a4, a5, a6, sk, q1, q2, q3, q4, q5, q6] at e
  rw [e]
  simp only [condX_iff, cond_true, decide_eq_true_eq, decide_eq_false_iff_not]
  repeat' first | apply And.intro | intro _
  all_goals first | trivial | omega | (rw [size_ext]; omega) | (simp (disch := omega) only [pv_t, pv_f, nm_sub, nm1, wrapB, U.cells, List.drop_zero, List.take_succ_cons, List.take_zero]; try rfl)
theorem vcParts10K : ∀ (h : ByteArray), Held (fnX cxParts (bodyOf Try.f30) Try.f30.results.toList [.g (.string h), .g (.int .i64 10)] [] (fun r _ => r = partsR h 10)) := held1 vcParts10E vcParts10
end Go.Proofs.Ytghbejmnnfoamaa
