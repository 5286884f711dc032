/- Chapter 15: lists of units: the laws of Join and Cut. -/
import Derived.Test.YtmblefpbfpjneaaP
import Derived.Test.YtmblefpbfpjneaaF
set_option linter.unusedVariables false
set_option linter.unusedSimpArgs false
namespace Go.Proofs.Ytmblefpbfpjneaa
open Go Go.Eng
attribute [local irreducible] condX
def annSameV (us vs : List U) (c d : Nat) : Ann := ⟨Nat, fun i => ⟨[(0, .sl 0 0 10 us.length c), (1, .sl 1 0 10 vs.length d), (5, .g (.int .i64 i))], [(0, .view 10 us.length c (urow us) 23), (1, .view 10 vs.length d (urow vs) 23)], 2, 0, []⟩,
  fun i => i ≤ us.length ∧ (∀ j, j < i → us.getD j uZero = vs.getD j uZero) ∧ us.length = vs.length, fun i => us.length - i⟩
def C_SameV : Ctr := ⟨2, SX, fun x => [.sl 0 0 10 x.us.length x.c, .sl 1 0 10 x.vs.length x.d], fun x => [(0, .view 10 x.us.length x.c (urow x.us) 23), (1, .view 10 x.vs.length x.d (urow x.vs) 23)], fun x => x.us.length ≤ 1000 ∧ x.us.length ≤ x.c ∧ x.vs.length ≤ x.d, fun x =>
  [.one True (.g (.bool (decide (x.us = x.vs)))) [(0, .view 10 x.us.length x.c (urow x.us) 23), (1, .view 10 x.vs.length x.d (urow x.vs) 23)]]⟩
def cx_SameV (x : SX) : Cx := ⟨ty, ΓOf Γ5, fun _ => [], fun i _ => if i = 4 then [annSameV x.us x.vs x.c x.d] else [], 26, 2⟩
def VcSameV : Prop := ∀ (x : SX), List.length (SX.us x) ≤ (1000 : Nat) ∧ List.length (SX.us x) ≤ SX.c x ∧ List.length (SX.vs x) ≤ SX.d x → condX ((↑(List.length (SX.us x)) : Int) != (↑(List.length (SX.vs x)) : Int)) (True ∧ false = decide
  (SX.us x = SX.vs x) ∧ List.length (SX.us x) ≤ List.length (SX.us x) ∧ List.length (SX.us x) ≤ SX.c x ∧ SX.c x ≤ SX.c x ∧ (∀ (j : Nat), j < List.length (SX.us x) → urow (SX.us x) j = urow (SX.us x) j ∧ true = true) ∧
  List.length (SX.vs x) ≤ List.length (SX.vs x) ∧ List.length (SX.vs x) ≤ SX.d x ∧ SX.d x ≤ SX.d x ∧ (∀ (j : Nat), j < List.length (SX.vs x) → urow (SX.vs x) j = urow (SX.vs x) j ∧ true = true) ∧ True ∨ False) ((∃ (x_1 :
  Nat), (x_1 ≤ List.length (SX.us x) ∧ (∀ (j : Nat), j < x_1 → List.getD (SX.us x) j uZero = List.getD (SX.vs x) j uZero) ∧ List.length (SX.us x) = List.length (SX.vs x)) ∧ (0 : Nat) = (0 : Nat) ∧ List.length (SX.us x) =
  List.length (SX.us x) ∧ SX.c x = SX.c x ∧ (0 : Nat) = (0 : Nat) ∧ List.length (SX.vs x) = List.length (SX.vs x) ∧ SX.d x = SX.d x ∧ (0 : Int) = (↑x_1 : Int) ∧ List.length (SX.us x) ≤ List.length (SX.us x) ∧ List.length
  (SX.us x) ≤ SX.c x ∧ SX.c x ≤ SX.c x ∧ (∀ (j : Nat), j < List.length (SX.us x) → urow (SX.us x) j = urow (SX.us x) j ∧ true = true) ∧ List.length (SX.vs x) ≤ List.length (SX.vs x) ∧ List.length (SX.vs x) ≤ SX.d x ∧ SX.d
  x ≤ SX.d x ∧ (∀ (j : Nat), j < List.length (SX.vs x) → urow (SX.vs x) j = urow (SX.vs x) j ∧ true = true) ∧ True) ∧ ∀ (x_1 : Nat), x_1 ≤ List.length (SX.us x) ∧ (∀ (j : Nat), j < x_1 → List.getD (SX.us x) j uZero =
  List.getD (SX.vs x) j uZero) ∧ List.length (SX.us x) = List.length (SX.vs x) → condX (decide ((↑x_1 : Int) < (↑(List.length (SX.us x)) : Int))) (((0 : Int) ≤ (↑x_1 : Int) ∧ (↑x_1 : Int) < (↑(List.length (SX.us x)) :
  Int)) ∧ Int.toNat (↑x_1 : Int) < List.length (SX.us x) ∧ ((0 : Int) ≤ (↑x_1 : Int) ∧ (↑x_1 : Int) < (↑(List.length (SX.vs x)) : Int)) ∧ Int.toNat (↑x_1 : Int) < List.length (SX.vs x) ∧ condX (!(U.k (List.getD (SX.us x)
  (Int.toNat (↑x_1 : Int)) uZero) == U.k (List.getD (SX.vs x) (Int.toNat (↑x_1 : Int)) uZero) && (U.to (List.getD (SX.us x) (Int.toNat (↑x_1 : Int)) uZero) == U.to (List.getD (SX.vs x) (Int.toNat (↑x_1 : Int)) uZero) &&
  (U.fr (List.getD (SX.us x) (Int.toNat (↑x_1 : Int)) uZero) == U.fr (List.getD (SX.vs x) (Int.toNat (↑x_1 : Int)) uZero) && (U.cl (List.getD (SX.us x) (Int.toNat (↑x_1 : Int)) uZero) == U.cl (List.getD (SX.vs x)
  (Int.toNat (↑x_1 : Int)) uZero) && (U.sz (List.getD (SX.us x) (Int.toNat (↑x_1 : Int)) uZero) == U.sz (List.getD (SX.vs x) (Int.toNat (↑x_1 : Int)) uZero) && (U.nu (List.getD (SX.us x) (Int.toNat (↑x_1 : Int)) uZero) ==
  U.nu (List.getD (SX.vs x) (Int.toNat (↑x_1 : Int)) uZero) && (U.cr (List.getD (SX.us x) (Int.toNat (↑x_1 : Int)) uZero) == U.cr (List.getD (SX.vs x) (Int.toNat (↑x_1 : Int)) uZero) && (U.re (List.getD (SX.us x)
  (Int.toNat (↑x_1 : Int)) uZero) == U.re (List.getD (SX.vs x) (Int.toNat (↑x_1 : Int)) uZero) && (U.e (List.getD (SX.us x) (Int.toNat (↑x_1 : Int)) uZero) == U.e (List.getD (SX.vs x) (Int.toNat (↑x_1 : Int)) uZero) &&
  (decide (U.d (List.getD (SX.us x) (Int.toNat (↑x_1 : Int)) uZero) = U.d (List.getD (SX.vs x) (Int.toNat (↑x_1 : Int)) uZero)) && true))))))))))) (True ∧ false = decide (SX.us x = SX.vs x) ∧ List.length (SX.us x) ≤
  List.length (SX.us x) ∧ List.length (SX.us x) ≤ SX.c x ∧ SX.c x ≤ SX.c x ∧ (∀ (j : Nat), j < List.length (SX.us x) → urow (SX.us x) j = urow (SX.us x) j ∧ true = true) ∧ List.length (SX.vs x) ≤ List.length (SX.vs x) ∧
  List.length (SX.vs x) ≤ SX.d x ∧ SX.d x ≤ SX.d x ∧ (∀ (j : Nat), j < List.length (SX.vs x) → urow (SX.vs x) j = urow (SX.vs x) j ∧ true = true) ∧ True ∨ False) (∃ (x' : Nat), (x' ≤ List.length (SX.us x) ∧ (∀ (j : Nat), j
  < x' → List.getD (SX.us x) j uZero = List.getD (SX.vs x) j uZero) ∧ List.length (SX.us x) = List.length (SX.vs x)) ∧ List.length (SX.us x) - x' < List.length (SX.us x) - x_1 ∧ (0 : Nat) = (0 : Nat) ∧ List.length (SX.us
  x) = List.length (SX.us x) ∧ SX.c x = SX.c x ∧ (0 : Nat) = (0 : Nat) ∧ List.length (SX.vs x) = List.length (SX.vs x) ∧ SX.d x = SX.d x ∧ IntKind.wrap IntKind.i64 ((↑x_1 : Int) + (1 : Int)) = (↑x' : Int) ∧ List.length
  (SX.us x) ≤ List.length (SX.us x) ∧ List.length (SX.us x) ≤ SX.c x ∧ SX.c x ≤ SX.c x ∧ (∀ (j : Nat), j < List.length (SX.us x) → urow (SX.us x) j = urow (SX.us x) j ∧ true = true) ∧ List.length (SX.vs x) ≤ List.length
  (SX.vs x) ∧ List.length (SX.vs x) ≤ SX.d x ∧ SX.d x ≤ SX.d x ∧ (∀ (j : Nat), j < List.length (SX.vs x) → urow (SX.vs x) j = urow (SX.vs x) j ∧ true = true) ∧ True)) (True ∧ true = decide (SX.us x = SX.vs x) ∧ List.length
  (SX.us x) ≤ List.length (SX.us x) ∧ List.length (SX.us x) ≤ SX.c x ∧ SX.c x ≤ SX.c x ∧ (∀ (j : Nat), j < List.length (SX.us x) → urow (SX.us x) j = urow (SX.us x) j ∧ true = true) ∧ List.length (SX.vs x) ≤ List.length
  (SX.vs x) ∧ List.length (SX.vs x) ≤ SX.d x ∧ SX.d x ≤ SX.d x ∧ (∀ (j : Nat), j < List.length (SX.vs x) → urow (SX.vs x) j = urow (SX.vs x) j ∧ true = true) ∧ True ∨ False))
def VcSameVS : Prop := ∀ (x : SX), x.us.length ≤ 1000 ∧ x.us.length ≤ x.c ∧ x.vs.length ≤ x.d → fnX (cx_SameV x) (bodyOf Try.f18) Try.f18.results.toList (C_SameV.args x) (C_SameV.H x) (endX 2 (C_SameV.outs x))
theorem vcSameVE : VcSameV = VcSameVS := by kernel_rfl
set_option maxHeartbeats 4000000 in
theorem vcSameV : VcSameV := by
  rintro ⟨us, vs, c, d⟩ ⟨hn, hc, hd⟩
  have hn : us.length ≤ 1000 := hn
  have hc : us.length ≤ c := hc
  have hd : vs.length ≤ d := hd
  simp only [eq_self, true_and, and_true, Nat.le_refl, Int.le_refl, implies_true, forall_const, and_false, false_and, exists_false, false_or, or_false, true_implies, Nat.zero_add, and_self, Int.toNat_natCast, cond_true, cond_false, hc, hd]
  refine (condX_iff _ _ _).2 ⟨fun h => ?_, fun h => ⟨⟨0, ⟨by omega, fun j hj => absurd hj (Nat.not_lt_zero j), by simp at h; omega⟩, rfl⟩, fun i hi => ?_⟩⟩
  · have h : us.length ≠ vs.length := by simp at h; omega
    exact (decide_eq_false fun e => h (by rw [e])).symm
  · obtain ⟨h1, h2, h3⟩ := hi
    refine (condX_iff _ _ _).2 ⟨fun hlt => ?_, fun hge => ?_⟩
    · have hlt : i < us.length := by have := of_decide_eq_true hlt; omega
      have hw : IntKind.i64.wrap ((i : Int) + 1) = ((i + 1 : Nat) : Int) := by rw [wrap1 (by omega) (by omega)]; rfl
      rw [hw]
      refine ⟨⟨by omega, by omega⟩, by omega, ⟨by omega, by omega⟩, by omega, (condX_iff _ _ _).2 ⟨fun hb => ?_, fun hb => ⟨i + 1, ⟨by omega, fun j hj => ?_, h3⟩, by omega, rfl⟩⟩⟩
      · refine (decide_eq_false fun e => ?_).symm
        subst e
        simp at hb
      · by_cases hji : j = i
        · subst hji
          rw [Bool.not_eq_false'] at hb
          exact u_eq.1 hb
        · exact h2 j (by omega)
    · have hge := of_decide_eq_false hge
      exact (decide_eq_true (us_ext h3 fun j hj => h2 j (by omega))).symm
theorem vcSameVK : ∀ (x : SX), x.us.length ≤ 1000 ∧ x.us.length ≤ x.c ∧ x.vs.length ≤ x.d → Held (fnX (cx_SameV x) (bodyOf Try.f18) Try.f18.results.toList (C_SameV.args x) (C_SameV.H x) (endX 2 (C_SameV.outs x))) := held2 (p := fun (x : SX) (_ : x.us.length ≤ 1000 ∧ x.us.length ≤ x.c ∧ x.vs.length ≤ x.d) => fnX (cx_SameV x) (bodyOf Try.f18) Try.f18.results.toList (C_SameV.args x) (C_SameV.H x) (endX 2 (C_SameV.outs x))) vcSameVE vcSameV

def getSX : List SV → Heap → Option SX
  | [.sl i1 _ _ l1 c1, .sl i2 _ _ l2 c2], H => match Eng.look i1 H, Eng.look i2 H with
    | some (.view _ _ _ r1 _), some (.view _ _ _ r2 _) => some ⟨(List.range l1).map (fun j => uRow (r1 j)), (List.range l2).map (fun j => uRow (r2 j)), c1, c2⟩
    | some (.view _ _ _ r1 _), some (.ro _ _ r2) => some ⟨(List.range l1).map (fun j => uRow (r1 j)), (List.range l2).map (fun j => uRow (r2 j)), c1, c2⟩
    | _, _ => none
  | _, _ => none
def sRow : List SV → ByteArray
  | [.g (.string s)] => s
  | _ => ⟨#[]⟩
theorem sRow_srow (us : List ByteArray) : (List.range us.length).map (fun j => sRow (srow us j)) = us := by
  apply List.ext_getElem?
  intro j
  by_cases h : j < us.length
  · rw [List.getElem?_map, List.getElem?_range h]; simp [srow, sRow, List.getD_eq_getElem?_getD, h]
  · rw [List.getElem?_eq_none (by simpa using h), List.getElem?_eq_none (by omega)]
def getTX : List SV → Heap → Option TX
  | [.sl i1 _ _ l1 c1, .sl i2 _ _ l2 c2], H => match Eng.look i1 H, Eng.look i2 H with
    | some (.view _ _ _ r1 _), some (.view _ _ _ r2 _) => some ⟨(List.range l1).map (fun j => sRow (r1 j)), (List.range l2).map (fun j => sRow (r2 j)), c1, c2⟩
    | _, _ => none
  | _, _ => none
def getBS : List SV → Heap → Option (ByteArray × Int)
  | [.g (.string b), .g (.int .i64 n)], _ => some (b, n)
  | _, _ => none
def selS : List SV → Heap → Bool
  | [_, .sl i2 _ _ _ _], H => match Eng.look i2 H with
    | some (.ro _ _ _) => true
    | _ => false
  | _, _ => false
theorem ok_SameR : GenSound Try.prog 18 (callX C_Same getSX) :=
  gen_of (ty := ty) (Γ := ΓOf Γ5) hm tyOK Γ5_ok (fnOK_of Try.func18 (by kernel_rfl) (by kernel_rfl)) Try.func18 (body_some (by kernel_rfl)) C_Same getSX Try.ntmps18 (fun _ => Nat.le_of_ble_eq_true rfl) (fun x => (cx_Same x).cut) (fun x => (cx_Same x).loop) fun x h => vcSameK x h
theorem ok_SameV : GenSound Try.prog 18 (callX C_SameV getSX) :=
  gen_of (ty := ty) (Γ := ΓOf Γ5) hm tyOK Γ5_ok (fnOK_of Try.func18 (by kernel_rfl) (by kernel_rfl)) Try.func18 (body_some (by kernel_rfl)) C_SameV getSX Try.ntmps18 (fun _ => Nat.le_of_ble_eq_true rfl) (fun x => (cx_SameV x).cut) (fun x => (cx_SameV x).loop) fun x h => vcSameVK x h
def wtSame (a : List SV) (H : Heap) (n : Nat) (K : SV → Heap → Prop) : Prop := match selS a H with
  | true => callX C_Same getSX a H n K
  | false => callX C_SameV getSX a H n K
theorem ok_Same : GenSound Try.prog 18 wtSame := gen_sel selS ok_SameR ok_SameV
theorem ok_rJoin : GenSound Try.prog 16 (callX C_rJoin getUV) :=
  gen_of (ty := ty) (Γ := ΓOf Γ5) hm tyOK Γ5_ok (fnOK_of Try.func16 (by kernel_rfl) (by kernel_rfl)) Try.func16 (body_some (by kernel_rfl)) C_rJoin getUV Try.ntmps16 (fun _ => Nat.le_of_ble_eq_true rfl) (fun x => (cx_rJoin x).cut) (fun x => (cx_rJoin x).loop) fun x h => vcRJoinK x h
theorem ok_units : GenSound Try.prog 14 (callX C_units getUV) :=
  gen_of (ty := ty) (Γ := ΓOf Γ5) hm tyOK Γ5_ok (fnOK_of Try.func14 (by kernel_rfl) (by kernel_rfl)) Try.func14 (body_some (by kernel_rfl)) C_units getUV Try.ntmps14 (fun _ => Nat.le_of_ble_eq_true rfl) (fun x => (cx_units x).cut) (fun x => (cx_units x).loop) fun x h => vcUnitsK x h
theorem ok_back : GenSound Try.prog 19 (callX C_back getUV) :=
  gen_of (ty := ty) (Γ := ΓOf Γ5) hm tyOK Γ5_ok (fnOK_of Try.func19 (by kernel_rfl) (by kernel_rfl)) Try.func19 (body_some (by kernel_rfl)) C_back getUV Try.ntmps19 (fun _ => Nat.le_of_ble_eq_true rfl) (fun x => (cx_back x).cut) (fun x => (cx_back x).loop) fun x h => vcBack15K x h
theorem ok_Strs : GenSound Try.prog 17 (callX C_Strs getTX) :=
  gen_of (ty := ty) (Γ := ΓOf Γ5) hm tyOK Γ5_ok (fnOK_of Try.func17 (by kernel_rfl) (by kernel_rfl)) Try.func17 (body_some (by kernel_rfl)) C_Strs getTX Try.ntmps17 (fun _ => Nat.le_of_ble_eq_true rfl) (fun x => (cx_Strs x).cut) (fun x => (cx_Strs x).loop) fun x h => vcStrsK x h
theorem ok_Cut : GenSound Try.prog 20 (callX C_Cut getBS) :=
  gen_of (ty := ty) (Γ := ΓOf Γ5) hm tyOK Γ5_ok (fnOK_of Try.func20 (by kernel_rfl) (by kernel_rfl)) Try.func20 (body_some (by kernel_rfl)) C_Cut getBS Try.ntmps20 (fun _ => Nat.le_of_ble_eq_true rfl) (fun x => (cx_Cut x).cut) (fun x => (cx_Cut x).loop) fun x h => vcCutK x h
theorem ok_rCut : GenSound Try.prog 21 (callX C_rCut getBS) :=
  gen_of (ty := ty) (Γ := ΓOf Γu) hm tyOK Γu_ok (fnOK_of Try.func21 (by kernel_rfl) (by kernel_rfl)) Try.func21 (body_some (by kernel_rfl)) C_rCut getBS Try.ntmps21 (fun _ => Nat.le_of_ble_eq_true rfl) (fun x => (cx_rCut x).cut) (fun x => (cx_rCut x).loop) fun x h => vcRCutK x h
def Γl : List (Nat × Rule) := (15, .gen (callX C_Join getUV)) :: (16, .gen (callX C_rJoin getUV)) :: (14, .gen (callX C_units getUV)) :: (19, .gen (callX C_back getUV)) :: (17, .gen (callX C_Strs getTX)) :: (18, .gen wtSame) :: (20, .gen (callX C_Cut getBS)) :: (21, .gen (callX C_rCut getBS)) :: Γ6
theorem Γl_ok : ΓOK Try.prog (ΓOf Γl) := ΓOf_cons ok_Join (ΓOf_cons ok_rJoin (ΓOf_cons ok_units (ΓOf_cons ok_back (ΓOf_cons ok_Strs (ΓOf_cons ok_Same (ΓOf_cons ok_Cut (ΓOf_cons ok_rCut Γ6_ok)))))))
def cxl (n e : Nat) : Cx := ⟨ty, ΓOf Γl, fun _ => [], fun _ _ => [], n, e⟩
/-! ### the law of Join -/
theorem joinF_len : ∀ (us : List U) (a b : List ByteArray × ByteArray), joinF a us = some b → b.1.length ≤ a.1.length + us.length
  | [], a, b, h => by simp only [joinF, Option.some.injEq] at h; subst h; simp
  | u :: us, a, b, h => by
    simp only [joinF] at h
    split at h
    · have := joinF_len us _ _ h
      split at this
      · simp at this ⊢; omega
      · simp at this ⊢; omega
    · cases h
theorem jlen (us : List U) : (jUs us).1.length ≤ us.length ∨ ¬ jOK us := by
  unfold jUs jOK
  cases h : joinF ([], ⟨#[]⟩) us with
  | none => exact Or.inr (by simp)
  | some b =>
    have := joinF_len us _ _ h
    simp at this
    exact Or.inl this
def RowsOK (row : Nat → List SV) (len cap : Nat) : Prop := len ≤ cap ∧ ∀ j, j < len → (uRow (row j)).cells = row j
theorem part {row : Nat → List SV} {len : Nat} (h : ∀ j, j < len → (uRow (row j)).cells = row j) : ∃ vs : List U, (List.range len).map (fun j => uRow (row j)) = vs ∧ vs.length = len ∧ ∀ j, j < len → row j = urow vs j := by
  refine ⟨_, rfl, by simp, fun j hj => ?_⟩
  rw [← h j hj]
  simp [urow, List.getD_eq_getElem?_getD, hj]
def VcTpduJoins : Prop := ∀ (row : Nat → List SV) (len cap : Nat), RowsOK row len cap → condX (decide ((300 : Int) < (↑len : Int))) (True ∧ SV.g (Value.bool true) = SV.g (Value.bool true)) ((0 : Nat) = (0 : Nat) ∧ len = List.length (List.map (fun
  (j : Nat) => uRow (row j)) (List.range len)) ∧ cap = cap ∧ List.length (List.map (fun (j : Nat) => uRow (row j)) (List.range len)) ≤ cap ∧ (∀ (j : Nat), j < List.length (List.map (fun (j : Nat) => uRow (row j))
  (List.range len)) → row j = urow (List.map (fun (j : Nat) => uRow (row j)) (List.range len)) j ∧ true = true) ∧ List.length (List.map (fun (j : Nat) => uRow (row j)) (List.range len)) ≤ (1000 : Nat) ∧ ∀ (y : Nat),
  List.length (List.map (fun (j : Nat) => uRow (row j)) (List.range len)) ≤ y → (0 : Nat) = (0 : Nat) ∧ List.length (List.map (fun (j : Nat) => uRow (row j)) (List.range len)) = List.length (List.map (fun (j : Nat) => uRow
  (urow (List.map (fun (j : Nat) => uRow (row j)) (List.range len)) j)) (List.range (List.length (List.map (fun (j : Nat) => uRow (row j)) (List.range len))))) ∧ y = y ∧ List.length (List.map (fun (j : Nat) => uRow (urow
  (List.map (fun (j : Nat) => uRow (row j)) (List.range len)) j)) (List.range (List.length (List.map (fun (j : Nat) => uRow (row j)) (List.range len))))) ≤ List.length (List.map (fun (j : Nat) => uRow (row j)) (List.range
  len)) ∧ List.length (List.map (fun (j : Nat) => uRow (urow (List.map (fun (j : Nat) => uRow (row j)) (List.range len)) j)) (List.range (List.length (List.map (fun (j : Nat) => uRow (row j)) (List.range len))))) ≤ y ∧ y ≤
  y ∧ (∀ (j : Nat), j < List.length (List.map (fun (j : Nat) => uRow (urow (List.map (fun (j : Nat) => uRow (row j)) (List.range len)) j)) (List.range (List.length (List.map (fun (j : Nat) => uRow (row j)) (List.range
  len))))) → urow (List.map (fun (j : Nat) => uRow (row j)) (List.range len)) j = urow (List.map (fun (j : Nat) => uRow (urow (List.map (fun (j : Nat) => uRow (row j)) (List.range len)) j)) (List.range (List.length
  (List.map (fun (j : Nat) => uRow (row j)) (List.range len))))) j ∧ true = true) ∧ (List.length (List.map (fun (j : Nat) => uRow (urow (List.map (fun (j : Nat) => uRow (row j)) (List.range len)) j)) (List.range
  (List.length (List.map (fun (j : Nat) => uRow (row j)) (List.range len))))) ≤ (1000 : Nat) ∧ List.length (List.map (fun (j : Nat) => uRow (urow (List.map (fun (j : Nat) => uRow (row j)) (List.range len)) j)) (List.range
  (List.length (List.map (fun (j : Nat) => uRow (row j)) (List.range len))))) ≤ y) ∧ (∀ (y_1 : Nat), jOK (List.map (fun (j : Nat) => uRow (urow (List.map (fun (j : Nat) => uRow (row j)) (List.range len)) j)) (List.range
  (List.length (List.map (fun (j : Nat) => uRow (row j)) (List.range len))))) ∧ List.length (Prod.fst (jUs (List.map (fun (j : Nat) => uRow (urow (List.map (fun (j : Nat) => uRow (row j)) (List.range len)) j)) (List.range
  (List.length (List.map (fun (j : Nat) => uRow (row j)) (List.range len))))))) ≤ y_1 → (0 : Nat) = (0 : Nat) ∧ len = List.length (List.map (fun (j : Nat) => uRow (row j)) (List.range len)) ∧ cap = cap ∧ List.length
  (List.map (fun (j : Nat) => uRow (row j)) (List.range len)) ≤ cap ∧ (∀ (j : Nat), j < List.length (List.map (fun (j : Nat) => uRow (row j)) (List.range len)) → row j = urow (List.map (fun (j : Nat) => uRow (row j))
  (List.range len)) j ∧ true = true) ∧ List.length (List.map (fun (j : Nat) => uRow (row j)) (List.range len)) ≤ (1000 : Nat) ∧ (∀ (y_2 : Nat), jOK (List.map (fun (j : Nat) => uRow (row j)) (List.range len)) ∧ List.length
  (Prod.fst (jUs (List.map (fun (j : Nat) => uRow (row j)) (List.range len)))) ≤ y_2 → condX (bif true then decide (Prod.snd (jUs (List.map (fun (j : Nat) => uRow (urow (List.map (fun (j : Nat) => uRow (row j)) (List.range
  len)) j)) (List.range (List.length (List.map (fun (j : Nat) => uRow (row j)) (List.range len)))))) = Prod.snd (jUs (List.map (fun (j : Nat) => uRow (row j)) (List.range len)))) else false) ((0 : Nat) = (0 : Nat) ∧
  List.length (Prod.fst (jUs (List.map (fun (j : Nat) => uRow (urow (List.map (fun (j : Nat) => uRow (row j)) (List.range len)) j)) (List.range (List.length (List.map (fun (j : Nat) => uRow (row j)) (List.range len)))))))
  = List.length (List.map (fun (j : Nat) => sRow (srow (Prod.fst (jUs (List.map (fun (j : Nat) => uRow (urow (List.map (fun (j : Nat) => uRow (row j)) (List.range len)) j)) (List.range (List.length (List.map (fun (j : Nat)
  => uRow (row j)) (List.range len))))))) j)) (List.range (List.length (Prod.fst (jUs (List.map (fun (j : Nat) => uRow (urow (List.map (fun (j : Nat) => uRow (row j)) (List.range len)) j)) (List.range (List.length
  (List.map (fun (j : Nat) => uRow (row j)) (List.range len)))))))))) ∧ y_1 = y_1 ∧ (0 : Nat) = (0 : Nat) ∧ List.length (Prod.fst (jUs (List.map (fun (j : Nat) => uRow (row j)) (List.range len)))) = List.length (List.map
  (fun (j : Nat) => sRow (srow (Prod.fst (jUs (List.map (fun (j : Nat) => uRow (row j)) (List.range len)))) j)) (List.range (List.length (Prod.fst (jUs (List.map (fun (j : Nat) => uRow (row j)) (List.range len))))))) ∧ y_2
  = y_2 ∧ List.length (List.map (fun (j : Nat) => sRow (srow (Prod.fst (jUs (List.map (fun (j : Nat) => uRow (urow (List.map (fun (j : Nat) => uRow (row j)) (List.range len)) j)) (List.range (List.length (List.map (fun (j
  : Nat) => uRow (row j)) (List.range len))))))) j)) (List.range (List.length (Prod.fst (jUs (List.map (fun (j : Nat) => uRow (urow (List.map (fun (j : Nat) => uRow (row j)) (List.range len)) j)) (List.range (List.length
  (List.map (fun (j : Nat) => uRow (row j)) (List.range len)))))))))) ≤ List.length (Prod.fst (jUs (List.map (fun (j : Nat) => uRow (urow (List.map (fun (j : Nat) => uRow (row j)) (List.range len)) j)) (List.range
  (List.length (List.map (fun (j : Nat) => uRow (row j)) (List.range len))))))) ∧ List.length (List.map (fun (j : Nat) => sRow (srow (Prod.fst (jUs (List.map (fun (j : Nat) => uRow (urow (List.map (fun (j : Nat) => uRow
  (row j)) (List.range len)) j)) (List.range (List.length (List.map (fun (j : Nat) => uRow (row j)) (List.range len))))))) j)) (List.range (List.length (Prod.fst (jUs (List.map (fun (j : Nat) => uRow (urow (List.map (fun
  (j : Nat) => uRow (row j)) (List.range len)) j)) (List.range (List.length (List.map (fun (j : Nat) => uRow (row j)) (List.range len)))))))))) ≤ y_1 ∧ y_1 ≤ y_1 ∧ (∀ (j : Nat), j < List.length (List.map (fun (j : Nat) =>
  sRow (srow (Prod.fst (jUs (List.map (fun (j : Nat) => uRow (urow (List.map (fun (j : Nat) => uRow (row j)) (List.range len)) j)) (List.range (List.length (List.map (fun (j : Nat) => uRow (row j)) (List.range len)))))))
  j)) (List.range (List.length (Prod.fst (jUs (List.map (fun (j : Nat) => uRow (urow (List.map (fun (j : Nat) => uRow (row j)) (List.range len)) j)) (List.range (List.length (List.map (fun (j : Nat) => uRow (row j))
  (List.range len)))))))))) → srow (Prod.fst (jUs (List.map (fun (j : Nat) => uRow (urow (List.map (fun (j : Nat) => uRow (row j)) (List.range len)) j)) (List.range (List.length (List.map (fun (j : Nat) => uRow (row j))
  (List.range len))))))) j = srow (List.map (fun (j : Nat) => sRow (srow (Prod.fst (jUs (List.map (fun (j : Nat) => uRow (urow (List.map (fun (j : Nat) => uRow (row j)) (List.range len)) j)) (List.range (List.length
  (List.map (fun (j : Nat) => uRow (row j)) (List.range len))))))) j)) (List.range (List.length (Prod.fst (jUs (List.map (fun (j : Nat) => uRow (urow (List.map (fun (j : Nat) => uRow (row j)) (List.range len)) j))
  (List.range (List.length (List.map (fun (j : Nat) => uRow (row j)) (List.range len)))))))))) j ∧ true = true) ∧ List.length (List.map (fun (j : Nat) => sRow (srow (Prod.fst (jUs (List.map (fun (j : Nat) => uRow (row j))
  (List.range len)))) j)) (List.range (List.length (Prod.fst (jUs (List.map (fun (j : Nat) => uRow (row j)) (List.range len))))))) ≤ List.length (Prod.fst (jUs (List.map (fun (j : Nat) => uRow (row j)) (List.range len))))
  ∧ List.length (List.map (fun (j : Nat) => sRow (srow (Prod.fst (jUs (List.map (fun (j : Nat) => uRow (row j)) (List.range len)))) j)) (List.range (List.length (Prod.fst (jUs (List.map (fun (j : Nat) => uRow (row j))
  (List.range len))))))) ≤ y_2 ∧ y_2 ≤ y_2 ∧ (∀ (j : Nat), j < List.length (List.map (fun (j : Nat) => sRow (srow (Prod.fst (jUs (List.map (fun (j : Nat) => uRow (row j)) (List.range len)))) j)) (List.range (List.length
  (Prod.fst (jUs (List.map (fun (j : Nat) => uRow (row j)) (List.range len))))))) → srow (Prod.fst (jUs (List.map (fun (j : Nat) => uRow (row j)) (List.range len)))) j = srow (List.map (fun (j : Nat) => sRow (srow
  (Prod.fst (jUs (List.map (fun (j : Nat) => uRow (row j)) (List.range len)))) j)) (List.range (List.length (Prod.fst (jUs (List.map (fun (j : Nat) => uRow (row j)) (List.range len))))))) j ∧ true = true) ∧ (List.length
  (List.map (fun (j : Nat) => sRow (srow (Prod.fst (jUs (List.map (fun (j : Nat) => uRow (urow (List.map (fun (j : Nat) => uRow (row j)) (List.range len)) j)) (List.range (List.length (List.map (fun (j : Nat) => uRow (row
  j)) (List.range len))))))) j)) (List.range (List.length (Prod.fst (jUs (List.map (fun (j : Nat) => uRow (urow (List.map (fun (j : Nat) => uRow (row j)) (List.range len)) j)) (List.range (List.length (List.map (fun (j :
  Nat) => uRow (row j)) (List.range len)))))))))) ≤ (100000 : Nat) ∧ List.length (List.map (fun (j : Nat) => sRow (srow (Prod.fst (jUs (List.map (fun (j : Nat) => uRow (urow (List.map (fun (j : Nat) => uRow (row j))
  (List.range len)) j)) (List.range (List.length (List.map (fun (j : Nat) => uRow (row j)) (List.range len))))))) j)) (List.range (List.length (Prod.fst (jUs (List.map (fun (j : Nat) => uRow (urow (List.map (fun (j : Nat)
  => uRow (row j)) (List.range len)) j)) (List.range (List.length (List.map (fun (j : Nat) => uRow (row j)) (List.range len)))))))))) ≤ y_1 ∧ List.length (List.map (fun (j : Nat) => sRow (srow (Prod.fst (jUs (List.map (fun
  (j : Nat) => uRow (row j)) (List.range len)))) j)) (List.range (List.length (Prod.fst (jUs (List.map (fun (j : Nat) => uRow (row j)) (List.range len))))))) ≤ y_2) ∧ (True → condX (bif bif true then decide (Prod.snd (jUs
  (List.map (fun (j : Nat) => uRow (urow (List.map (fun (j : Nat) => uRow (row j)) (List.range len)) j)) (List.range (List.length (List.map (fun (j : Nat) => uRow (row j)) (List.range len)))))) = Prod.snd (jUs (List.map
  (fun (j : Nat) => uRow (row j)) (List.range len)))) else false then decide (List.map (fun (j : Nat) => sRow (srow (Prod.fst (jUs (List.map (fun (j : Nat) => uRow (urow (List.map (fun (j : Nat) => uRow (row j))
  (List.range len)) j)) (List.range (List.length (List.map (fun (j : Nat) => uRow (row j)) (List.range len))))))) j)) (List.range (List.length (Prod.fst (jUs (List.map (fun (j : Nat) => uRow (urow (List.map (fun (j : Nat)
  => uRow (row j)) (List.range len)) j)) (List.range (List.length (List.map (fun (j : Nat) => uRow (row j)) (List.range len))))))))) = List.map (fun (j : Nat) => sRow (srow (Prod.fst (jUs (List.map (fun (j : Nat) => uRow
  (row j)) (List.range len)))) j)) (List.range (List.length (Prod.fst (jUs (List.map (fun (j : Nat) => uRow (row j)) (List.range len))))))) else false) ((0 : Nat) = (0 : Nat) ∧ List.length (List.map (fun (j : Nat) => uRow
  (row j)) (List.range len)) = List.length (List.map (fun (j : Nat) => uRow (urow (List.map (fun (j : Nat) => uRow (urow (List.map (fun (j : Nat) => uRow (row j)) (List.range len)) j)) (List.range (List.length (List.map
  (fun (j : Nat) => uRow (row j)) (List.range len))))) j)) (List.range (List.length (List.map (fun (j : Nat) => uRow (row j)) (List.range len))))) ∧ y = y ∧ List.length (List.map (fun (j : Nat) => uRow (urow (List.map (fun
  (j : Nat) => uRow (urow (List.map (fun (j : Nat) => uRow (row j)) (List.range len)) j)) (List.range (List.length (List.map (fun (j : Nat) => uRow (row j)) (List.range len))))) j)) (List.range (List.length (List.map (fun
  (j : Nat) => uRow (row j)) (List.range len))))) ≤ List.length (List.map (fun (j : Nat) => uRow (urow (List.map (fun (j : Nat) => uRow (row j)) (List.range len)) j)) (List.range (List.length (List.map (fun (j : Nat) =>
  uRow (row j)) (List.range len))))) ∧ List.length (List.map (fun (j : Nat) => uRow (urow (List.map (fun (j : Nat) => uRow (urow (List.map (fun (j : Nat) => uRow (row j)) (List.range len)) j)) (List.range (List.length
  (List.map (fun (j : Nat) => uRow (row j)) (List.range len))))) j)) (List.range (List.length (List.map (fun (j : Nat) => uRow (row j)) (List.range len))))) ≤ y ∧ y ≤ y ∧ (∀ (j : Nat), j < List.length (List.map (fun (j :
  Nat) => uRow (urow (List.map (fun (j : Nat) => uRow (urow (List.map (fun (j : Nat) => uRow (row j)) (List.range len)) j)) (List.range (List.length (List.map (fun (j : Nat) => uRow (row j)) (List.range len))))) j))
  (List.range (List.length (List.map (fun (j : Nat) => uRow (row j)) (List.range len))))) → urow (List.map (fun (j : Nat) => uRow (urow (List.map (fun (j : Nat) => uRow (row j)) (List.range len)) j)) (List.range
  (List.length (List.map (fun (j : Nat) => uRow (row j)) (List.range len))))) j = urow (List.map (fun (j : Nat) => uRow (urow (List.map (fun (j : Nat) => uRow (urow (List.map (fun (j : Nat) => uRow (row j)) (List.range
  len)) j)) (List.range (List.length (List.map (fun (j : Nat) => uRow (row j)) (List.range len))))) j)) (List.range (List.length (List.map (fun (j : Nat) => uRow (row j)) (List.range len))))) j ∧ true = true) ∧
  (List.length (List.map (fun (j : Nat) => uRow (urow (List.map (fun (j : Nat) => uRow (urow (List.map (fun (j : Nat) => uRow (row j)) (List.range len)) j)) (List.range (List.length (List.map (fun (j : Nat) => uRow (row
  j)) (List.range len))))) j)) (List.range (List.length (List.map (fun (j : Nat) => uRow (row j)) (List.range len))))) ≤ (1000 : Nat) ∧ List.length (List.map (fun (j : Nat) => uRow (urow (List.map (fun (j : Nat) => uRow
  (urow (List.map (fun (j : Nat) => uRow (row j)) (List.range len)) j)) (List.range (List.length (List.map (fun (j : Nat) => uRow (row j)) (List.range len))))) j)) (List.range (List.length (List.map (fun (j : Nat) => uRow
  (row j)) (List.range len))))) ≤ y) ∧ ∀ (y : Nat), List.length (List.map (fun (j : Nat) => uRow (urow (List.map (fun (j : Nat) => uRow (urow (List.map (fun (j : Nat) => uRow (row j)) (List.range len)) j)) (List.range
  (List.length (List.map (fun (j : Nat) => uRow (row j)) (List.range len))))) j)) (List.range (List.length (List.map (fun (j : Nat) => uRow (row j)) (List.range len))))) ≤ y → condX (bif bif true then decide (Prod.snd (jUs
  (List.map (fun (j : Nat) => uRow (urow (List.map (fun (j : Nat) => uRow (row j)) (List.range len)) j)) (List.range (List.length (List.map (fun (j : Nat) => uRow (row j)) (List.range len)))))) = Prod.snd (jUs (List.map
  (fun (j : Nat) => uRow (row j)) (List.range len)))) else false then decide (List.map (fun (j : Nat) => sRow (srow (Prod.fst (jUs (List.map (fun (j : Nat) => uRow (urow (List.map (fun (j : Nat) => uRow (row j))
  (List.range len)) j)) (List.range (List.length (List.map (fun (j : Nat) => uRow (row j)) (List.range len))))))) j)) (List.range (List.length (Prod.fst (jUs (List.map (fun (j : Nat) => uRow (urow (List.map (fun (j : Nat)
  => uRow (row j)) (List.range len)) j)) (List.range (List.length (List.map (fun (j : Nat) => uRow (row j)) (List.range len))))))))) = List.map (fun (j : Nat) => sRow (srow (Prod.fst (jUs (List.map (fun (j : Nat) => uRow
  (row j)) (List.range len)))) j)) (List.range (List.length (Prod.fst (jUs (List.map (fun (j : Nat) => uRow (row j)) (List.range len))))))) else false) ((0 : Nat) = (0 : Nat) ∧ List.length (List.map (fun (j : Nat) => uRow
  (urow (List.map (fun (j : Nat) => uRow (urow (List.map (fun (j : Nat) => uRow (row j)) (List.range len)) j)) (List.range (List.length (List.map (fun (j : Nat) => uRow (row j)) (List.range len))))) j)) (List.range
  (List.length (List.map (fun (j : Nat) => uRow (row j)) (List.range len))))) = List.length (List.map (fun (j : Nat) => uRow (urow (List.map (fun (j : Nat) => uRow (urow (List.map (fun (j : Nat) => uRow (urow (List.map
  (fun (j : Nat) => uRow (row j)) (List.range len)) j)) (List.range (List.length (List.map (fun (j : Nat) => uRow (row j)) (List.range len))))) j)) (List.range (List.length (List.map (fun (j : Nat) => uRow (row j))
  (List.range len))))) j)) (List.range (List.length (List.map (fun (j : Nat) => uRow (urow (List.map (fun (j : Nat) => uRow (urow (List.map (fun (j : Nat) => uRow (row j)) (List.range len)) j)) (List.range (List.length
  (List.map (fun (j : Nat) => uRow (row j)) (List.range len))))) j)) (List.range (List.length (List.map (fun (j : Nat) => uRow (row j)) (List.range len)))))))) ∧ y = y ∧ (0 : Nat) = (0 : Nat) ∧ len = List.length (List.map
  (fun (j : Nat) => uRow (row j)) (List.range len)) ∧ cap = cap ∧ List.length (List.map (fun (j : Nat) => uRow (urow (List.map (fun (j : Nat) => uRow (urow (List.map (fun (j : Nat) => uRow (urow (List.map (fun (j : Nat) =>
  uRow (row j)) (List.range len)) j)) (List.range (List.length (List.map (fun (j : Nat) => uRow (row j)) (List.range len))))) j)) (List.range (List.length (List.map (fun (j : Nat) => uRow (row j)) (List.range len))))) j))
  (List.range (List.length (List.map (fun (j : Nat) => uRow (urow (List.map (fun (j : Nat) => uRow (urow (List.map (fun (j : Nat) => uRow (row j)) (List.range len)) j)) (List.range (List.length (List.map (fun (j : Nat) =>
  uRow (row j)) (List.range len))))) j)) (List.range (List.length (List.map (fun (j : Nat) => uRow (row j)) (List.range len)))))))) ≤ List.length (List.map (fun (j : Nat) => uRow (urow (List.map (fun (j : Nat) => uRow
  (urow (List.map (fun (j : Nat) => uRow (row j)) (List.range len)) j)) (List.range (List.length (List.map (fun (j : Nat) => uRow (row j)) (List.range len))))) j)) (List.range (List.length (List.map (fun (j : Nat) => uRow
  (row j)) (List.range len))))) ∧ List.length (List.map (fun (j : Nat) => uRow (urow (List.map (fun (j : Nat) => uRow (urow (List.map (fun (j : Nat) => uRow (urow (List.map (fun (j : Nat) => uRow (row j)) (List.range len))
  j)) (List.range (List.length (List.map (fun (j : Nat) => uRow (row j)) (List.range len))))) j)) (List.range (List.length (List.map (fun (j : Nat) => uRow (row j)) (List.range len))))) j)) (List.range (List.length
  (List.map (fun (j : Nat) => uRow (urow (List.map (fun (j : Nat) => uRow (urow (List.map (fun (j : Nat) => uRow (row j)) (List.range len)) j)) (List.range (List.length (List.map (fun (j : Nat) => uRow (row j)) (List.range
  len))))) j)) (List.range (List.length (List.map (fun (j : Nat) => uRow (row j)) (List.range len)))))))) ≤ y ∧ y ≤ y ∧ (∀ (j : Nat), j < List.length (List.map (fun (j : Nat) => uRow (urow (List.map (fun (j : Nat) => uRow
  (urow (List.map (fun (j : Nat) => uRow (urow (List.map (fun (j : Nat) => uRow (row j)) (List.range len)) j)) (List.range (List.length (List.map (fun (j : Nat) => uRow (row j)) (List.range len))))) j)) (List.range
  (List.length (List.map (fun (j : Nat) => uRow (row j)) (List.range len))))) j)) (List.range (List.length (List.map (fun (j : Nat) => uRow (urow (List.map (fun (j : Nat) => uRow (urow (List.map (fun (j : Nat) => uRow (row
  j)) (List.range len)) j)) (List.range (List.length (List.map (fun (j : Nat) => uRow (row j)) (List.range len))))) j)) (List.range (List.length (List.map (fun (j : Nat) => uRow (row j)) (List.range len)))))))) → urow
  (List.map (fun (j : Nat) => uRow (urow (List.map (fun (j : Nat) => uRow (urow (List.map (fun (j : Nat) => uRow (row j)) (List.range len)) j)) (List.range (List.length (List.map (fun (j : Nat) => uRow (row j)) (List.range
  len))))) j)) (List.range (List.length (List.map (fun (j : Nat) => uRow (row j)) (List.range len))))) j = urow (List.map (fun (j : Nat) => uRow (urow (List.map (fun (j : Nat) => uRow (urow (List.map (fun (j : Nat) => uRow
  (urow (List.map (fun (j : Nat) => uRow (row j)) (List.range len)) j)) (List.range (List.length (List.map (fun (j : Nat) => uRow (row j)) (List.range len))))) j)) (List.range (List.length (List.map (fun (j : Nat) => uRow
  (row j)) (List.range len))))) j)) (List.range (List.length (List.map (fun (j : Nat) => uRow (urow (List.map (fun (j : Nat) => uRow (urow (List.map (fun (j : Nat) => uRow (row j)) (List.range len)) j)) (List.range
  (List.length (List.map (fun (j : Nat) => uRow (row j)) (List.range len))))) j)) (List.range (List.length (List.map (fun (j : Nat) => uRow (row j)) (List.range len)))))))) j ∧ true = true) ∧ List.length (List.map (fun (j
  : Nat) => uRow (row j)) (List.range len)) ≤ cap ∧ (∀ (j : Nat), j < List.length (List.map (fun (j : Nat) => uRow (row j)) (List.range len)) → row j = urow (List.map (fun (j : Nat) => uRow (row j)) (List.range len)) j ∧
  true = true) ∧ (List.length (List.map (fun (j : Nat) => uRow (urow (List.map (fun (j : Nat) => uRow (urow (List.map (fun (j : Nat) => uRow (urow (List.map (fun (j : Nat) => uRow (row j)) (List.range len)) j)) (List.range
  (List.length (List.map (fun (j : Nat) => uRow (row j)) (List.range len))))) j)) (List.range (List.length (List.map (fun (j : Nat) => uRow (row j)) (List.range len))))) j)) (List.range (List.length (List.map (fun (j :
  Nat) => uRow (urow (List.map (fun (j : Nat) => uRow (urow (List.map (fun (j : Nat) => uRow (row j)) (List.range len)) j)) (List.range (List.length (List.map (fun (j : Nat) => uRow (row j)) (List.range len))))) j))
  (List.range (List.length (List.map (fun (j : Nat) => uRow (row j)) (List.range len)))))))) ≤ (1000 : Nat) ∧ List.length (List.map (fun (j : Nat) => uRow (urow (List.map (fun (j : Nat) => uRow (urow (List.map (fun (j :
  Nat) => uRow (urow (List.map (fun (j : Nat) => uRow (row j)) (List.range len)) j)) (List.range (List.length (List.map (fun (j : Nat) => uRow (row j)) (List.range len))))) j)) (List.range (List.length (List.map (fun (j :
  Nat) => uRow (row j)) (List.range len))))) j)) (List.range (List.length (List.map (fun (j : Nat) => uRow (urow (List.map (fun (j : Nat) => uRow (urow (List.map (fun (j : Nat) => uRow (row j)) (List.range len)) j))
  (List.range (List.length (List.map (fun (j : Nat) => uRow (row j)) (List.range len))))) j)) (List.range (List.length (List.map (fun (j : Nat) => uRow (row j)) (List.range len)))))))) ≤ y) ∧ (True → ((bif bif bif true
  then decide (Prod.snd (jUs (List.map (fun (j : Nat) => uRow (urow (List.map (fun (j : Nat) => uRow (row j)) (List.range len)) j)) (List.range (List.length (List.map (fun (j : Nat) => uRow (row j)) (List.range len)))))) =
  Prod.snd (jUs (List.map (fun (j : Nat) => uRow (row j)) (List.range len)))) else false then decide (List.map (fun (j : Nat) => sRow (srow (Prod.fst (jUs (List.map (fun (j : Nat) => uRow (urow (List.map (fun (j : Nat) =>
  uRow (row j)) (List.range len)) j)) (List.range (List.length (List.map (fun (j : Nat) => uRow (row j)) (List.range len))))))) j)) (List.range (List.length (Prod.fst (jUs (List.map (fun (j : Nat) => uRow (urow (List.map
  (fun (j : Nat) => uRow (row j)) (List.range len)) j)) (List.range (List.length (List.map (fun (j : Nat) => uRow (row j)) (List.range len))))))))) = List.map (fun (j : Nat) => sRow (srow (Prod.fst (jUs (List.map (fun (j :
  Nat) => uRow (row j)) (List.range len)))) j)) (List.range (List.length (Prod.fst (jUs (List.map (fun (j : Nat) => uRow (row j)) (List.range len))))))) else false then decide (List.map (fun (j : Nat) => uRow (urow
  (List.map (fun (j : Nat) => uRow (urow (List.map (fun (j : Nat) => uRow (urow (List.map (fun (j : Nat) => uRow (row j)) (List.range len)) j)) (List.range (List.length (List.map (fun (j : Nat) => uRow (row j)) (List.range
  len))))) j)) (List.range (List.length (List.map (fun (j : Nat) => uRow (row j)) (List.range len))))) j)) (List.range (List.length (List.map (fun (j : Nat) => uRow (urow (List.map (fun (j : Nat) => uRow (urow (List.map
  (fun (j : Nat) => uRow (row j)) (List.range len)) j)) (List.range (List.length (List.map (fun (j : Nat) => uRow (row j)) (List.range len))))) j)) (List.range (List.length (List.map (fun (j : Nat) => uRow (row j))
  (List.range len))))))) = List.map (fun (j : Nat) => uRow (row j)) (List.range len)) else false) = true → True) ∧ SV.g (Value.bool (bif bif bif bif true then decide (Prod.snd (jUs (List.map (fun (j : Nat) => uRow (urow
  (List.map (fun (j : Nat) => uRow (row j)) (List.range len)) j)) (List.range (List.length (List.map (fun (j : Nat) => uRow (row j)) (List.range len)))))) = Prod.snd (jUs (List.map (fun (j : Nat) => uRow (row j))
  (List.range len)))) else false then decide (List.map (fun (j : Nat) => sRow (srow (Prod.fst (jUs (List.map (fun (j : Nat) => uRow (urow (List.map (fun (j : Nat) => uRow (row j)) (List.range len)) j)) (List.range
  (List.length (List.map (fun (j : Nat) => uRow (row j)) (List.range len))))))) j)) (List.range (List.length (Prod.fst (jUs (List.map (fun (j : Nat) => uRow (urow (List.map (fun (j : Nat) => uRow (row j)) (List.range len))
  j)) (List.range (List.length (List.map (fun (j : Nat) => uRow (row j)) (List.range len))))))))) = List.map (fun (j : Nat) => sRow (srow (Prod.fst (jUs (List.map (fun (j : Nat) => uRow (row j)) (List.range len)))) j))
  (List.range (List.length (Prod.fst (jUs (List.map (fun (j : Nat) => uRow (row j)) (List.range len))))))) else false then decide (List.map (fun (j : Nat) => uRow (urow (List.map (fun (j : Nat) => uRow (urow (List.map (fun
  (j : Nat) => uRow (urow (List.map (fun (j : Nat) => uRow (row j)) (List.range len)) j)) (List.range (List.length (List.map (fun (j : Nat) => uRow (row j)) (List.range len))))) j)) (List.range (List.length (List.map (fun
  (j : Nat) => uRow (row j)) (List.range len))))) j)) (List.range (List.length (List.map (fun (j : Nat) => uRow (urow (List.map (fun (j : Nat) => uRow (urow (List.map (fun (j : Nat) => uRow (row j)) (List.range len)) j))
  (List.range (List.length (List.map (fun (j : Nat) => uRow (row j)) (List.range len))))) j)) (List.range (List.length (List.map (fun (j : Nat) => uRow (row j)) (List.range len))))))) = List.map (fun (j : Nat) => uRow (row
  j)) (List.range len)) else false then true else false)) = SV.g (Value.bool true))) ((bif bif true then decide (Prod.snd (jUs (List.map (fun (j : Nat) => uRow (urow (List.map (fun (j : Nat) => uRow (row j)) (List.range
  len)) j)) (List.range (List.length (List.map (fun (j : Nat) => uRow (row j)) (List.range len)))))) = Prod.snd (jUs (List.map (fun (j : Nat) => uRow (row j)) (List.range len)))) else false then decide (List.map (fun (j :
  Nat) => sRow (srow (Prod.fst (jUs (List.map (fun (j : Nat) => uRow (urow (List.map (fun (j : Nat) => uRow (row j)) (List.range len)) j)) (List.range (List.length (List.map (fun (j : Nat) => uRow (row j)) (List.range
  len))))))) j)) (List.range (List.length (Prod.fst (jUs (List.map (fun (j : Nat) => uRow (urow (List.map (fun (j : Nat) => uRow (row j)) (List.range len)) j)) (List.range (List.length (List.map (fun (j : Nat) => uRow (row
  j)) (List.range len))))))))) = List.map (fun (j : Nat) => sRow (srow (Prod.fst (jUs (List.map (fun (j : Nat) => uRow (row j)) (List.range len)))) j)) (List.range (List.length (Prod.fst (jUs (List.map (fun (j : Nat) =>
  uRow (row j)) (List.range len))))))) else false) = false ∧ (false = true → True) ∧ SV.g (Value.bool false) = SV.g (Value.bool true))) (condX (bif bif true then decide (Prod.snd (jUs (List.map (fun (j : Nat) => uRow (urow
  (List.map (fun (j : Nat) => uRow (row j)) (List.range len)) j)) (List.range (List.length (List.map (fun (j : Nat) => uRow (row j)) (List.range len)))))) = Prod.snd (jUs (List.map (fun (j : Nat) => uRow (row j))
  (List.range len)))) else false then decide (List.map (fun (j : Nat) => sRow (srow (Prod.fst (jUs (List.map (fun (j : Nat) => uRow (urow (List.map (fun (j : Nat) => uRow (row j)) (List.range len)) j)) (List.range
  (List.length (List.map (fun (j : Nat) => uRow (row j)) (List.range len))))))) j)) (List.range (List.length (Prod.fst (jUs (List.map (fun (j : Nat) => uRow (urow (List.map (fun (j : Nat) => uRow (row j)) (List.range len))
  j)) (List.range (List.length (List.map (fun (j : Nat) => uRow (row j)) (List.range len))))))))) = List.map (fun (j : Nat) => sRow (srow (Prod.fst (jUs (List.map (fun (j : Nat) => uRow (row j)) (List.range len)))) j))
  (List.range (List.length (Prod.fst (jUs (List.map (fun (j : Nat) => uRow (row j)) (List.range len))))))) else false) False ((bif bif true then decide (Prod.snd (jUs (List.map (fun (j : Nat) => uRow (urow (List.map (fun
  (j : Nat) => uRow (row j)) (List.range len)) j)) (List.range (List.length (List.map (fun (j : Nat) => uRow (row j)) (List.range len)))))) = Prod.snd (jUs (List.map (fun (j : Nat) => uRow (row j)) (List.range len)))) else
  false then decide (List.map (fun (j : Nat) => sRow (srow (Prod.fst (jUs (List.map (fun (j : Nat) => uRow (urow (List.map (fun (j : Nat) => uRow (row j)) (List.range len)) j)) (List.range (List.length (List.map (fun (j :
  Nat) => uRow (row j)) (List.range len))))))) j)) (List.range (List.length (Prod.fst (jUs (List.map (fun (j : Nat) => uRow (urow (List.map (fun (j : Nat) => uRow (row j)) (List.range len)) j)) (List.range (List.length
  (List.map (fun (j : Nat) => uRow (row j)) (List.range len))))))))) = List.map (fun (j : Nat) => sRow (srow (Prod.fst (jUs (List.map (fun (j : Nat) => uRow (row j)) (List.range len)))) j)) (List.range (List.length
  (Prod.fst (jUs (List.map (fun (j : Nat) => uRow (row j)) (List.range len))))))) else false) = false ∧ (false = true → True) ∧ SV.g (Value.bool false) = SV.g (Value.bool true))))) ((bif true then decide (Prod.snd (jUs
  (List.map (fun (j : Nat) => uRow (urow (List.map (fun (j : Nat) => uRow (row j)) (List.range len)) j)) (List.range (List.length (List.map (fun (j : Nat) => uRow (row j)) (List.range len)))))) = Prod.snd (jUs (List.map
  (fun (j : Nat) => uRow (row j)) (List.range len)))) else false) = false ∧ false = false ∧ (false = true → True) ∧ SV.g (Value.bool false) = SV.g (Value.bool true))) ∧ (¬jOK (List.map (fun (j : Nat) => uRow (row j))
  (List.range len)) → false = false ∧ false = false ∧ (false = true → True) ∧ SV.g (Value.bool false) = SV.g (Value.bool true))) ∧ (¬jOK (List.map (fun (j : Nat) => uRow (urow (List.map (fun (j : Nat) => uRow (row j))
  (List.range len)) j)) (List.range (List.length (List.map (fun (j : Nat) => uRow (row j)) (List.range len))))) → (0 : Nat) = (0 : Nat) ∧ len = List.length (List.map (fun (j : Nat) => uRow (row j)) (List.range len)) ∧ cap
  = cap ∧ List.length (List.map (fun (j : Nat) => uRow (row j)) (List.range len)) ≤ cap ∧ (∀ (j : Nat), j < List.length (List.map (fun (j : Nat) => uRow (row j)) (List.range len)) → row j = urow (List.map (fun (j : Nat) =>
  uRow (row j)) (List.range len)) j ∧ true = true) ∧ List.length (List.map (fun (j : Nat) => uRow (row j)) (List.range len)) ≤ (1000 : Nat) ∧ (∀ (y : Nat), jOK (List.map (fun (j : Nat) => uRow (row j)) (List.range len)) ∧
  List.length (Prod.fst (jUs (List.map (fun (j : Nat) => uRow (row j)) (List.range len)))) ≤ y → false = false ∧ false = false ∧ (false = true → True) ∧ SV.g (Value.bool false) = SV.g (Value.bool true)) ∧ (¬jOK (List.map
  (fun (j : Nat) => uRow (row j)) (List.range len)) → (0 : Nat) = (0 : Nat) ∧ (0 : Nat) = (0 : Nat) ∧ (0 : Nat) = (0 : Nat) ∧ (0 : Nat) = (0 : Nat) ∧ (0 : Nat) = (0 : Nat) ∧ (0 : Nat) = (0 : Nat) ∧ (0 : Nat) ≤ (0 : Nat) ∧
  (0 : Nat) ≤ (0 : Nat) ∧ (0 : Nat) ≤ (0 : Nat) ∧ (∀ (j : Nat), j < (0 : Nat) → srow [] j = srow [] j ∧ true = true) ∧ (0 : Nat) ≤ (0 : Nat) ∧ (0 : Nat) ≤ (0 : Nat) ∧ (0 : Nat) ≤ (0 : Nat) ∧ (∀ (j : Nat), j < (0 : Nat) →
  srow [] j = srow [] j ∧ true = true) ∧ ((0 : Nat) ≤ (100000 : Nat) ∧ (0 : Nat) ≤ (0 : Nat) ∧ (0 : Nat) ≤ (0 : Nat)) ∧ (True → (0 : Nat) = (0 : Nat) ∧ List.length (List.map (fun (j : Nat) => uRow (row j)) (List.range
  len)) = List.length (List.map (fun (j : Nat) => uRow (urow (List.map (fun (j : Nat) => uRow (urow (List.map (fun (j : Nat) => uRow (row j)) (List.range len)) j)) (List.range (List.length (List.map (fun (j : Nat) => uRow
  (row j)) (List.range len))))) j)) (List.range (List.length (List.map (fun (j : Nat) => uRow (row j)) (List.range len))))) ∧ y = y ∧ List.length (List.map (fun (j : Nat) => uRow (urow (List.map (fun (j : Nat) => uRow
  (urow (List.map (fun (j : Nat) => uRow (row j)) (List.range len)) j)) (List.range (List.length (List.map (fun (j : Nat) => uRow (row j)) (List.range len))))) j)) (List.range (List.length (List.map (fun (j : Nat) => uRow
  (row j)) (List.range len))))) ≤ List.length (List.map (fun (j : Nat) => uRow (urow (List.map (fun (j : Nat) => uRow (row j)) (List.range len)) j)) (List.range (List.length (List.map (fun (j : Nat) => uRow (row j))
  (List.range len))))) ∧ List.length (List.map (fun (j : Nat) => uRow (urow (List.map (fun (j : Nat) => uRow (urow (List.map (fun (j : Nat) => uRow (row j)) (List.range len)) j)) (List.range (List.length (List.map (fun (j
  : Nat) => uRow (row j)) (List.range len))))) j)) (List.range (List.length (List.map (fun (j : Nat) => uRow (row j)) (List.range len))))) ≤ y ∧ y ≤ y ∧ (∀ (j : Nat), j < List.length (List.map (fun (j : Nat) => uRow (urow
  (List.map (fun (j : Nat) => uRow (urow (List.map (fun (j : Nat) => uRow (row j)) (List.range len)) j)) (List.range (List.length (List.map (fun (j : Nat) => uRow (row j)) (List.range len))))) j)) (List.range (List.length
  (List.map (fun (j : Nat) => uRow (row j)) (List.range len))))) → urow (List.map (fun (j : Nat) => uRow (urow (List.map (fun (j : Nat) => uRow (row j)) (List.range len)) j)) (List.range (List.length (List.map (fun (j :
  Nat) => uRow (row j)) (List.range len))))) j = urow (List.map (fun (j : Nat) => uRow (urow (List.map (fun (j : Nat) => uRow (urow (List.map (fun (j : Nat) => uRow (row j)) (List.range len)) j)) (List.range (List.length
  (List.map (fun (j : Nat) => uRow (row j)) (List.range len))))) j)) (List.range (List.length (List.map (fun (j : Nat) => uRow (row j)) (List.range len))))) j ∧ true = true) ∧ (List.length (List.map (fun (j : Nat) => uRow
  (urow (List.map (fun (j : Nat) => uRow (urow (List.map (fun (j : Nat) => uRow (row j)) (List.range len)) j)) (List.range (List.length (List.map (fun (j : Nat) => uRow (row j)) (List.range len))))) j)) (List.range
  (List.length (List.map (fun (j : Nat) => uRow (row j)) (List.range len))))) ≤ (1000 : Nat) ∧ List.length (List.map (fun (j : Nat) => uRow (urow (List.map (fun (j : Nat) => uRow (urow (List.map (fun (j : Nat) => uRow (row
  j)) (List.range len)) j)) (List.range (List.length (List.map (fun (j : Nat) => uRow (row j)) (List.range len))))) j)) (List.range (List.length (List.map (fun (j : Nat) => uRow (row j)) (List.range len))))) ≤ y) ∧ ∀ (y :
  Nat), List.length (List.map (fun (j : Nat) => uRow (urow (List.map (fun (j : Nat) => uRow (urow (List.map (fun (j : Nat) => uRow (row j)) (List.range len)) j)) (List.range (List.length (List.map (fun (j : Nat) => uRow
  (row j)) (List.range len))))) j)) (List.range (List.length (List.map (fun (j : Nat) => uRow (row j)) (List.range len))))) ≤ y → (0 : Nat) = (0 : Nat) ∧ List.length (List.map (fun (j : Nat) => uRow (urow (List.map (fun (j
  : Nat) => uRow (urow (List.map (fun (j : Nat) => uRow (row j)) (List.range len)) j)) (List.range (List.length (List.map (fun (j : Nat) => uRow (row j)) (List.range len))))) j)) (List.range (List.length (List.map (fun (j
  : Nat) => uRow (row j)) (List.range len))))) = List.length (List.map (fun (j : Nat) => uRow (urow (List.map (fun (j : Nat) => uRow (urow (List.map (fun (j : Nat) => uRow (urow (List.map (fun (j : Nat) => uRow (row j))
  (List.range len)) j)) (List.range (List.length (List.map (fun (j : Nat) => uRow (row j)) (List.range len))))) j)) (List.range (List.length (List.map (fun (j : Nat) => uRow (row j)) (List.range len))))) j)) (List.range
  (List.length (List.map (fun (j : Nat) => uRow (urow (List.map (fun (j : Nat) => uRow (urow (List.map (fun (j : Nat) => uRow (row j)) (List.range len)) j)) (List.range (List.length (List.map (fun (j : Nat) => uRow (row
  j)) (List.range len))))) j)) (List.range (List.length (List.map (fun (j : Nat) => uRow (row j)) (List.range len)))))))) ∧ y = y ∧ (0 : Nat) = (0 : Nat) ∧ len = List.length (List.map (fun (j : Nat) => uRow (row j))
  (List.range len)) ∧ cap = cap ∧ List.length (List.map (fun (j : Nat) => uRow (urow (List.map (fun (j : Nat) => uRow (urow (List.map (fun (j : Nat) => uRow (urow (List.map (fun (j : Nat) => uRow (row j)) (List.range len))
  j)) (List.range (List.length (List.map (fun (j : Nat) => uRow (row j)) (List.range len))))) j)) (List.range (List.length (List.map (fun (j : Nat) => uRow (row j)) (List.range len))))) j)) (List.range (List.length
  (List.map (fun (j : Nat) => uRow (urow (List.map (fun (j : Nat) => uRow (urow (List.map (fun (j : Nat) => uRow (row j)) (List.range len)) j)) (List.range (List.length (List.map (fun (j : Nat) => uRow (row j)) (List.range
  len))))) j)) (List.range (List.length (List.map (fun (j : Nat) => uRow (row j)) (List.range len)))))))) ≤ List.length (List.map (fun (j : Nat) => uRow (urow (List.map (fun (j : Nat) => uRow (urow (List.map (fun (j : Nat)
  => uRow (row j)) (List.range len)) j)) (List.range (List.length (List.map (fun (j : Nat) => uRow (row j)) (List.range len))))) j)) (List.range (List.length (List.map (fun (j : Nat) => uRow (row j)) (List.range len))))) ∧
  List.length (List.map (fun (j : Nat) => uRow (urow (List.map (fun (j : Nat) => uRow (urow (List.map (fun (j : Nat) => uRow (urow (List.map (fun (j : Nat) => uRow (row j)) (List.range len)) j)) (List.range (List.length
  (List.map (fun (j : Nat) => uRow (row j)) (List.range len))))) j)) (List.range (List.length (List.map (fun (j : Nat) => uRow (row j)) (List.range len))))) j)) (List.range (List.length (List.map (fun (j : Nat) => uRow
  (urow (List.map (fun (j : Nat) => uRow (urow (List.map (fun (j : Nat) => uRow (row j)) (List.range len)) j)) (List.range (List.length (List.map (fun (j : Nat) => uRow (row j)) (List.range len))))) j)) (List.range
  (List.length (List.map (fun (j : Nat) => uRow (row j)) (List.range len)))))))) ≤ y ∧ y ≤ y ∧ (∀ (j : Nat), j < List.length (List.map (fun (j : Nat) => uRow (urow (List.map (fun (j : Nat) => uRow (urow (List.map (fun (j :
  Nat) => uRow (urow (List.map (fun (j : Nat) => uRow (row j)) (List.range len)) j)) (List.range (List.length (List.map (fun (j : Nat) => uRow (row j)) (List.range len))))) j)) (List.range (List.length (List.map (fun (j :
  Nat) => uRow (row j)) (List.range len))))) j)) (List.range (List.length (List.map (fun (j : Nat) => uRow (urow (List.map (fun (j : Nat) => uRow (urow (List.map (fun (j : Nat) => uRow (row j)) (List.range len)) j))
  (List.range (List.length (List.map (fun (j : Nat) => uRow (row j)) (List.range len))))) j)) (List.range (List.length (List.map (fun (j : Nat) => uRow (row j)) (List.range len)))))))) → urow (List.map (fun (j : Nat) =>
  uRow (urow (List.map (fun (j : Nat) => uRow (urow (List.map (fun (j : Nat) => uRow (row j)) (List.range len)) j)) (List.range (List.length (List.map (fun (j : Nat) => uRow (row j)) (List.range len))))) j)) (List.range
  (List.length (List.map (fun (j : Nat) => uRow (row j)) (List.range len))))) j = urow (List.map (fun (j : Nat) => uRow (urow (List.map (fun (j : Nat) => uRow (urow (List.map (fun (j : Nat) => uRow (urow (List.map (fun (j
  : Nat) => uRow (row j)) (List.range len)) j)) (List.range (List.length (List.map (fun (j : Nat) => uRow (row j)) (List.range len))))) j)) (List.range (List.length (List.map (fun (j : Nat) => uRow (row j)) (List.range
  len))))) j)) (List.range (List.length (List.map (fun (j : Nat) => uRow (urow (List.map (fun (j : Nat) => uRow (urow (List.map (fun (j : Nat) => uRow (row j)) (List.range len)) j)) (List.range (List.length (List.map (fun
  (j : Nat) => uRow (row j)) (List.range len))))) j)) (List.range (List.length (List.map (fun (j : Nat) => uRow (row j)) (List.range len)))))))) j ∧ true = true) ∧ List.length (List.map (fun (j : Nat) => uRow (row j))
  (List.range len)) ≤ cap ∧ (∀ (j : Nat), j < List.length (List.map (fun (j : Nat) => uRow (row j)) (List.range len)) → row j = urow (List.map (fun (j : Nat) => uRow (row j)) (List.range len)) j ∧ true = true) ∧
  (List.length (List.map (fun (j : Nat) => uRow (urow (List.map (fun (j : Nat) => uRow (urow (List.map (fun (j : Nat) => uRow (urow (List.map (fun (j : Nat) => uRow (row j)) (List.range len)) j)) (List.range (List.length
  (List.map (fun (j : Nat) => uRow (row j)) (List.range len))))) j)) (List.range (List.length (List.map (fun (j : Nat) => uRow (row j)) (List.range len))))) j)) (List.range (List.length (List.map (fun (j : Nat) => uRow
  (urow (List.map (fun (j : Nat) => uRow (urow (List.map (fun (j : Nat) => uRow (row j)) (List.range len)) j)) (List.range (List.length (List.map (fun (j : Nat) => uRow (row j)) (List.range len))))) j)) (List.range
  (List.length (List.map (fun (j : Nat) => uRow (row j)) (List.range len)))))))) ≤ (1000 : Nat) ∧ List.length (List.map (fun (j : Nat) => uRow (urow (List.map (fun (j : Nat) => uRow (urow (List.map (fun (j : Nat) => uRow
  (urow (List.map (fun (j : Nat) => uRow (row j)) (List.range len)) j)) (List.range (List.length (List.map (fun (j : Nat) => uRow (row j)) (List.range len))))) j)) (List.range (List.length (List.map (fun (j : Nat) => uRow
  (row j)) (List.range len))))) j)) (List.range (List.length (List.map (fun (j : Nat) => uRow (urow (List.map (fun (j : Nat) => uRow (urow (List.map (fun (j : Nat) => uRow (row j)) (List.range len)) j)) (List.range
  (List.length (List.map (fun (j : Nat) => uRow (row j)) (List.range len))))) j)) (List.range (List.length (List.map (fun (j : Nat) => uRow (row j)) (List.range len)))))))) ≤ y) ∧ (True → ((bif true then decide (List.map
  (fun (j : Nat) => uRow (urow (List.map (fun (j : Nat) => uRow (urow (List.map (fun (j : Nat) => uRow (urow (List.map (fun (j : Nat) => uRow (row j)) (List.range len)) j)) (List.range (List.length (List.map (fun (j : Nat)
  => uRow (row j)) (List.range len))))) j)) (List.range (List.length (List.map (fun (j : Nat) => uRow (row j)) (List.range len))))) j)) (List.range (List.length (List.map (fun (j : Nat) => uRow (urow (List.map (fun (j :
  Nat) => uRow (urow (List.map (fun (j : Nat) => uRow (row j)) (List.range len)) j)) (List.range (List.length (List.map (fun (j : Nat) => uRow (row j)) (List.range len))))) j)) (List.range (List.length (List.map (fun (j :
  Nat) => uRow (row j)) (List.range len))))))) = List.map (fun (j : Nat) => uRow (row j)) (List.range len)) else false) = true → True) ∧ SV.g (Value.bool (bif bif true then decide (List.map (fun (j : Nat) => uRow (urow
  (List.map (fun (j : Nat) => uRow (urow (List.map (fun (j : Nat) => uRow (urow (List.map (fun (j : Nat) => uRow (row j)) (List.range len)) j)) (List.range (List.length (List.map (fun (j : Nat) => uRow (row j)) (List.range
  len))))) j)) (List.range (List.length (List.map (fun (j : Nat) => uRow (row j)) (List.range len))))) j)) (List.range (List.length (List.map (fun (j : Nat) => uRow (urow (List.map (fun (j : Nat) => uRow (urow (List.map
  (fun (j : Nat) => uRow (row j)) (List.range len)) j)) (List.range (List.length (List.map (fun (j : Nat) => uRow (row j)) (List.range len))))) j)) (List.range (List.length (List.map (fun (j : Nat) => uRow (row j))
  (List.range len))))))) = List.map (fun (j : Nat) => uRow (row j)) (List.range len)) else false then true else false)) = SV.g (Value.bool true))))))
def VcTpduJoinsS : Prop := ∀ (row : Nat → List SV) (len cap : Nat), RowsOK row len cap → fnX (cxl 50 1) (bodyOf Try.f4) Try.f4.results.toList [.sl 0 0 10 len cap] [(0, .ro 10 cap row)] (fun r _ => r = .g (.bool true))
theorem vcTpduJoinsE : VcTpduJoins = VcTpduJoinsS := by kernel_rfl
set_option maxHeartbeats 4000000 in
theorem vcTpduJoins : VcTpduJoins := by
  intro row len cap ⟨hl, hr⟩
  obtain ⟨vs, key, hvl, hrow⟩ := part hr
  simp only [eq_self, true_and, and_true, Nat.le_refl, Int.le_refl, implies_true, forall_const, and_false, false_and, exists_false, false_or, or_false, true_implies, Nat.zero_add, and_self, Int.toNat_natCast, cond_true, cond_false, key, uRow_urow, sRow_srow]
  subst hvl
  have jl : (jUs vs).1.length ≤ vs.length ∨ ¬ jOK vs := jlen vs
  by_cases h300 : 300 < (vs.length : Int)
  · simp [h300, condX]
  have hn : vs.length ≤ 300 := by omega
  refine (condX_iff _ _ _).2 ⟨fun _ => trivial, fun _ => ⟨rfl, hl, hrow, by omega, fun y hy => ⟨hy, ⟨by omega, hy⟩, fun y1 h1 => ⟨rfl, hl, hrow, by omega, fun y2 h2 => ?_, fun hno => (hno h1.1).elim⟩, fun hno => ⟨rfl, hl, hrow, by omega, fun y2 h2 => (hno h2.1).elim, fun _ => ⟨by omega, hy, ⟨by omega, hy⟩, fun y3 hy3 => ⟨rfl, hy3, hl, hrow, ⟨by omega, hy3⟩, by simp⟩⟩⟩⟩⟩⟩
  obtain ⟨h1, h3⟩ := h1
  obtain ⟨_, h4⟩ := h2
  have jl : (jUs vs).1.length ≤ vs.length := jl.resolve_right fun h => h h1
  refine (condX_iff _ _ _).2 ⟨fun _ => ⟨h3, h4, ⟨by omega, h3, h4⟩, (condX_iff _ _ _).2 ⟨fun _ => ⟨hy, ⟨by omega, hy⟩, fun y5 h5 => (condX_iff _ _ _).2 ⟨fun _ => ⟨rfl, h5, hl, hrow, ⟨by omega, h5⟩, by simp⟩, fun h => by simp at h⟩⟩, fun h => by simp at h⟩⟩, fun h => by simp at h⟩
theorem vcTpduJoinsK : ∀ (row : Nat → List SV) (len cap : Nat), RowsOK row len cap → Held (fnX (cxl 50 1) (bodyOf Try.f4) Try.f4.results.toList [.sl 0 0 10 len cap] [(0, .ro 10 cap row)] (fun r _ => r = .g (.bool true))) := held4 (p := fun (row : Nat → List SV) (len cap : Nat) (_ : RowsOK row len cap) => fnX (cxl 50 1) (bodyOf Try.f4) Try.f4.results.toList [.sl 0 0 10 len cap] [(0, .ro 10 cap row)] (fun r _ => r = .g (.bool true))) vcTpduJoinsE vcTpduJoins
end Go.Proofs.Ytmblefpbfpjneaa
