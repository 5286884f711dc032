/- Chapter 15: the reference's Join; lists of units compared; Cut. -/
import Derived.Test.YtmblefpbfpjneaaN
set_option linter.unusedVariables false
set_option linter.unusedSimpArgs false
namespace Go.Proofs.Ytmblefpbfpjneaa
open Go Go.Eng
attribute [local irreducible] condX
def getUV : List SV → Heap → Option (List U × Nat)
  | [.sl id _ _ len cap], H => match Eng.look id H with
    | some (.view _ _ _ row _) => some ((List.range len).map (fun j => uRow (row j)), cap)
    | some (.ro _ _ row) => some ((List.range len).map (fun j => uRow (row j)), cap)
    | _ => none
  | _, _ => none
theorem ok_Join : GenSound Try.prog 15 (callX C_Join getUV) :=
  gen_of (ty := ty) (Γ := ΓOf ΓB) hm tyOK ΓB_ok (fnOK_of Try.func15 (by kernel_rfl) (by kernel_rfl)) Try.func15 (body_some (by kernel_rfl)) C_Join getUV Try.ntmps15 (fun _ => Nat.le_of_ble_eq_true rfl) (fun x => (cx_Join x).cut) (fun x => (cx_Join x).loop) fun x h => vcJoinK x h
/-! ### the reference's Join -/
structure RJ where
  i : Nat
  out : List ByteArray
  capo : Nat
  left : ByteArray
def annRJ (us : List U) (c : Nat) : Ann := ⟨RJ, fun x => ⟨[(0, .sl 0 0 10 us.length c), (5, .sl 1 0 1 x.out.length x.capo), (6, .g (.string x.left)), (7, .g (.int .i64 x.i))],
  [(0, .ro 10 us.length (urow us)), (1, .view 1 x.out.length x.capo (srow x.out) 9)], 2, 0, []⟩,
  fun x => x.i ≤ us.length ∧ joinF ([], ⟨#[]⟩) (us.take x.i) = some (x.out, x.left) ∧ x.out.length ≤ x.i ∧ x.out.length ≤ x.capo ∧ x.left.size ≤ x.i * 3980, fun x => us.length - x.i⟩
def C_rJoin : Ctr := ⟨1, List U × Nat, fun x => [.sl 0 0 10 x.1.length x.2], fun x => [(0, .ro 10 x.1.length (urow x.1))], fun x => x.1.length ≤ 1000, fun x =>
  [.any Nat (fun cap => jOK x.1 ∧ (jUs x.1).1.length ≤ cap) (fun cap => .tup [.sl 1 0 1 (jUs x.1).1.length cap, .g (.string (jUs x.1).2), .g (.int .i64 0)]) (fun cap => [(0, .ro 10 x.1.length (urow x.1)), (1, .view 1 (jUs x.1).1.length cap (srow (jUs x.1).1) 9)]),
   .one (¬ jOK x.1) (.tup [.sl 1 0 1 0 0, .g (.string ⟨#[]⟩), .g (.int .i64 1)]) [(0, .ro 10 x.1.length (urow x.1)), (1, .view 1 0 0 (srow []) 9)]]⟩
def cx_rJoin (x : List U × Nat) : Cx := ⟨ty, ΓOf Γ5, fun _ => [], fun i _ => if i = 4 then [annRJ x.1 x.2] else [], 46, 1⟩
def VcRJoin : Prop := ∀ (x : List U × Nat), List.length (Prod.fst x) ≤ (1000 : Nat) → (∃ (x_1 : RJ), (RJ.i x_1 ≤ List.length (Prod.fst x) ∧ joinF ([], ByteArray.mk #[]) (List.take (RJ.i x_1) (Prod.fst x)) = some (RJ.out x_1, RJ.left x_1) ∧
  List.length (RJ.out x_1) ≤ RJ.i x_1 ∧ List.length (RJ.out x_1) ≤ RJ.capo x_1 ∧ ByteArray.size (RJ.left x_1) ≤ RJ.i x_1 * (3980 : Nat)) ∧ (0 : Nat) = (0 : Nat) ∧ List.length (Prod.fst x) = List.length (Prod.fst x) ∧
  Prod.snd x = Prod.snd x ∧ List.length (RJ.out x_1) = (0 : Nat) ∧ RJ.capo x_1 = (0 : Nat) ∧ ByteArray.mk #[] = RJ.left x_1 ∧ (0 : Int) = (↑(RJ.i x_1) : Int) ∧ List.length (Prod.fst x) ≤ List.length (Prod.fst x) ∧ (∀ (j :
  Nat), j < List.length (Prod.fst x) → urow (Prod.fst x) j = urow (Prod.fst x) j ∧ true = true) ∧ List.length (RJ.out x_1) = (0 : Nat) ∧ True) ∧ ∀ (x_1 : RJ), RJ.i x_1 ≤ List.length (Prod.fst x) ∧ joinF ([], ByteArray.mk
  #[]) (List.take (RJ.i x_1) (Prod.fst x)) = some (RJ.out x_1, RJ.left x_1) ∧ List.length (RJ.out x_1) ≤ RJ.i x_1 ∧ List.length (RJ.out x_1) ≤ RJ.capo x_1 ∧ ByteArray.size (RJ.left x_1) ≤ RJ.i x_1 * (3980 : Nat) → condX
  (decide ((↑(RJ.i x_1) : Int) < (↑(List.length (Prod.fst x)) : Int))) (((0 : Int) ≤ (↑(RJ.i x_1) : Int) ∧ (↑(RJ.i x_1) : Int) < (↑(List.length (Prod.fst x)) : Int)) ∧ Int.toNat (↑(RJ.i x_1) : Int) < List.length (Prod.fst
  x) ∧ ((!U.k (List.getD (Prod.fst x) (Int.toNat (↑(RJ.i x_1) : Int)) uZero) != (5 : Int)) = true → (0 : Int) ≤ (↑(RJ.i x_1) : Int) ∧ (↑(RJ.i x_1) : Int) < (↑(List.length (Prod.fst x)) : Int)) ∧ ((!U.k (List.getD (Prod.fst
  x) (Int.toNat (↑(RJ.i x_1) : Int)) uZero) != (5 : Int)) = true → Int.toNat (↑(RJ.i x_1) : Int) < List.length (Prod.fst x)) ∧ condX (bif U.k (List.getD (Prod.fst x) (Int.toNat (↑(RJ.i x_1) : Int)) uZero) != (5 : Int) then
  true else !decide (okU (List.getD (Prod.fst x) (Int.toNat (↑(RJ.i x_1) : Int)) uZero))) ((∃ (y : Nat), (jOK (Prod.fst x) ∧ List.length (Prod.fst (jUs (Prod.fst x))) ≤ y) ∧ List.length (Prod.fst (jUs (Prod.fst x))) = (0 :
  Nat) ∧ y = (0 : Nat) ∧ ByteArray.mk #[] = Prod.snd (jUs (Prod.fst x)) ∧ (1 : Int) = (0 : Int) ∧ List.length (Prod.fst x) ≤ List.length (Prod.fst x) ∧ (∀ (j : Nat), j < List.length (Prod.fst x) → urow (Prod.fst x) j =
  urow (Prod.fst x) j ∧ true = true) ∧ List.length (Prod.fst (jUs (Prod.fst x))) = (0 : Nat) ∧ True) ∨ ¬jOK (Prod.fst x) ∧ (0 : Nat) = (0 : Nat) ∧ (0 : Nat) = (0 : Nat) ∧ ByteArray.mk #[] = ByteArray.mk #[] ∧ (1 : Int) =
  (1 : Int) ∧ List.length (Prod.fst x) ≤ List.length (Prod.fst x) ∧ (∀ (j : Nat), j < List.length (Prod.fst x) → urow (Prod.fst x) j = urow (Prod.fst x) j ∧ true = true) ∧ (0 : Nat) = (0 : Nat) ∧ True ∨ False) (((0 : Int)
  ≤ (↑(RJ.i x_1) : Int) ∧ (↑(RJ.i x_1) : Int) < (↑(List.length (Prod.fst x)) : Int)) ∧ Int.toNat (↑(RJ.i x_1) : Int) < List.length (Prod.fst x) ∧ ByteArray.size (RJ.left x_1) + ByteArray.size (U.d (List.getD (Prod.fst x)
  (Int.toNat (↑(RJ.i x_1) : Int)) uZero)) ≤ (9223372036854775807 : Nat) ∧ ((0 : Int) ≤ (↑(RJ.i x_1) : Int) ∧ (↑(RJ.i x_1) : Int) < (↑(List.length (Prod.fst x)) : Int)) ∧ Int.toNat (↑(RJ.i x_1) : Int) < List.length
  (Prod.fst x) ∧ condX (U.e (List.getD (Prod.fst x) (Int.toNat (↑(RJ.i x_1) : Int)) uZero)) ((1 : Nat) ≤ (1 : Nat) ∧ (∀ (j : Nat), j < (1 : Nat) → true = true) ∧ (0 : Nat) + List.length (RJ.out x_1) ≤ List.length (RJ.out
  x_1) ∧ (0 : Nat) + RJ.capo x_1 ≤ RJ.capo x_1 ∧ (List.length (RJ.out x_1) + (1 : Nat)) * (16 : Nat) ≤ (140737488355328 : Nat) ∧ ∀ (cap : Nat), List.length (RJ.out x_1) + (1 : Nat) ≤ cap → ∃ (x' : RJ), (RJ.i x' ≤
  List.length (Prod.fst x) ∧ joinF ([], ByteArray.mk #[]) (List.take (RJ.i x') (Prod.fst x)) = some (RJ.out x', RJ.left x') ∧ List.length (RJ.out x') ≤ RJ.i x' ∧ List.length (RJ.out x') ≤ RJ.capo x' ∧ ByteArray.size
  (RJ.left x') ≤ RJ.i x' * (3980 : Nat)) ∧ List.length (Prod.fst x) - RJ.i x' < List.length (Prod.fst x) - RJ.i x_1 ∧ (0 : Nat) = (0 : Nat) ∧ List.length (Prod.fst x) = List.length (Prod.fst x) ∧ Prod.snd x = Prod.snd x ∧
  (0 : Nat) = (0 : Nat) ∧ List.length (RJ.out x_1) + (1 : Nat) = List.length (RJ.out x') ∧ cap = RJ.capo x' ∧ ByteArray.mk #[] = RJ.left x' ∧ IntKind.wrap IntKind.i64 ((↑(RJ.i x_1) : Int) + (1 : Int)) = (↑(RJ.i x') : Int)
  ∧ List.length (Prod.fst x) ≤ List.length (Prod.fst x) ∧ (∀ (j : Nat), j < List.length (Prod.fst x) → urow (Prod.fst x) j = urow (Prod.fst x) j ∧ true = true) ∧ List.length (RJ.out x') ≤ List.length (RJ.out x_1) + (1 :
  Nat) ∧ List.length (RJ.out x') ≤ RJ.capo x' ∧ RJ.capo x' ≤ cap ∧ (∀ (j : Nat), j < List.length (RJ.out x') → appRows (0 : Nat) (0 : Nat) (List.length (RJ.out x_1)) (srow (RJ.out x_1)) (fun (j : Nat) => [SV.g
  (Value.string (List.getD [RJ.left x_1 ++ U.d (List.getD (Prod.fst x) (Int.toNat (↑(RJ.i x_1) : Int)) uZero)] j ByteArray.empty))]) j = srow (RJ.out x') j ∧ true = true) ∧ True) (∃ (x' : RJ), (RJ.i x' ≤ List.length
  (Prod.fst x) ∧ joinF ([], ByteArray.mk #[]) (List.take (RJ.i x') (Prod.fst x)) = some (RJ.out x', RJ.left x') ∧ List.length (RJ.out x') ≤ RJ.i x' ∧ List.length (RJ.out x') ≤ RJ.capo x' ∧ ByteArray.size (RJ.left x') ≤
  RJ.i x' * (3980 : Nat)) ∧ List.length (Prod.fst x) - RJ.i x' < List.length (Prod.fst x) - RJ.i x_1 ∧ (0 : Nat) = (0 : Nat) ∧ List.length (Prod.fst x) = List.length (Prod.fst x) ∧ Prod.snd x = Prod.snd x ∧ (0 : Nat) = (0
  : Nat) ∧ List.length (RJ.out x_1) = List.length (RJ.out x') ∧ RJ.capo x_1 = RJ.capo x' ∧ RJ.left x_1 ++ U.d (List.getD (Prod.fst x) (Int.toNat (↑(RJ.i x_1) : Int)) uZero) = RJ.left x' ∧ IntKind.wrap IntKind.i64 ((↑(RJ.i
  x_1) : Int) + (1 : Int)) = (↑(RJ.i x') : Int) ∧ List.length (Prod.fst x) ≤ List.length (Prod.fst x) ∧ (∀ (j : Nat), j < List.length (Prod.fst x) → urow (Prod.fst x) j = urow (Prod.fst x) j ∧ true = true) ∧ List.length
  (RJ.out x') ≤ List.length (RJ.out x_1) ∧ List.length (RJ.out x') ≤ RJ.capo x' ∧ RJ.capo x' ≤ RJ.capo x_1 ∧ (∀ (j : Nat), j < List.length (RJ.out x') → srow (RJ.out x_1) j = srow (RJ.out x') j ∧ true = true) ∧ True))) ((∃
  (y : Nat), (jOK (Prod.fst x) ∧ List.length (Prod.fst (jUs (Prod.fst x))) ≤ y) ∧ (0 : Nat) = (0 : Nat) ∧ List.length (RJ.out x_1) = List.length (Prod.fst (jUs (Prod.fst x))) ∧ RJ.capo x_1 = y ∧ RJ.left x_1 = Prod.snd (jUs
  (Prod.fst x)) ∧ (0 : Int) = (0 : Int) ∧ List.length (Prod.fst x) ≤ List.length (Prod.fst x) ∧ (∀ (j : Nat), j < List.length (Prod.fst x) → urow (Prod.fst x) j = urow (Prod.fst x) j ∧ true = true) ∧ List.length (Prod.fst
  (jUs (Prod.fst x))) ≤ List.length (RJ.out x_1) ∧ List.length (Prod.fst (jUs (Prod.fst x))) ≤ y ∧ y ≤ RJ.capo x_1 ∧ (∀ (j : Nat), j < List.length (Prod.fst (jUs (Prod.fst x))) → srow (RJ.out x_1) j = srow (Prod.fst (jUs
  (Prod.fst x))) j ∧ true = true) ∧ True) ∨ ¬jOK (Prod.fst x) ∧ (0 : Nat) = (0 : Nat) ∧ List.length (RJ.out x_1) = (0 : Nat) ∧ RJ.capo x_1 = (0 : Nat) ∧ RJ.left x_1 = ByteArray.mk #[] ∧ (0 : Int) = (1 : Int) ∧ List.length
  (Prod.fst x) ≤ List.length (Prod.fst x) ∧ (∀ (j : Nat), j < List.length (Prod.fst x) → urow (Prod.fst x) j = urow (Prod.fst x) j ∧ true = true) ∧ (0 : Nat) ≤ List.length (RJ.out x_1) ∧ (0 : Nat) ≤ (0 : Nat) ∧ (0 : Nat) ≤
  RJ.capo x_1 ∧ (∀ (j : Nat), j < (0 : Nat) → srow (RJ.out x_1) j = srow [] j ∧ true = true) ∧ True ∨ False)
def VcRJoinS : Prop := ∀ (x : List U × Nat), x.1.length ≤ 1000 → fnX (cx_rJoin x) (bodyOf Try.f16) Try.f16.results.toList (C_rJoin.args x) (C_rJoin.H x) (endX 1 (C_rJoin.outs x))
theorem vcRJoinE : VcRJoin = VcRJoinS := by kernel_rfl
set_option maxHeartbeats 4000000 in
theorem vcRJoin : VcRJoin := by
  rintro ⟨us, c⟩ hn
  have hn : us.length ≤ 1000 := hn
  simp only [eq_self, true_and, and_true, Nat.le_refl, Int.le_refl, implies_true, forall_const, and_false, false_and, exists_false, false_or, or_false, true_implies, Nat.zero_add, and_self, Int.toNat_natCast, cond_true, cond_false]
  refine ⟨⟨⟨0, [], 0, ⟨#[]⟩⟩, ?_⟩, fun x hx => ?_⟩
  · dsimp only
    and_intros <;> first | omega | with_reducible rfl | exact trivial | rfl | exact Nat.le_refl _
  · obtain ⟨i, out, capo, left⟩ := x
    obtain ⟨h1, h2, h3, h4, h5⟩ := hx
    dsimp only at h1 h2 h3 h4 h5 ⊢
    refine (condX_iff _ _ _).2 ⟨fun hlt => ⟨⟨by omega, of_decide_eq_true hlt⟩, by have := of_decide_eq_true hlt; omega, fun _ => ⟨by omega, of_decide_eq_true hlt⟩, fun _ => by have := of_decide_eq_true hlt; omega, (condX_iff _ _ _).2 ⟨fun hb => ?_, fun hg => ?_⟩⟩, fun hge => ?_⟩
    · have hlt := of_decide_eq_true hlt
      exact Or.inr (jbad (by omega) h2 (jcond.1 hb))
    · have hlt : i < us.length := by have := of_decide_eq_true hlt; omega
      have hk : (us.getD i uZero).k = 5 ∧ okU (us.getD i uZero) := by
        have : ¬ ¬ ((us.getD i uZero).k = 5 ∧ okU (us.getD i uZero)) := fun h => by
          have := jcond.2 h
          rw [hg] at this; cases this
        exact Decidable.not_not.1 this
      have hst := joinF_step hlt h2 hk
      have hds := dt_size hk
      have hw : IntKind.i64.wrap ((i : Int) + 1) = ((i + 1 : Nat) : Int) := by rw [wrap1 (by omega) (by omega)]; rfl
      rw [hw]
      refine ⟨⟨by omega, by omega⟩, by omega, by omega, ⟨by omega, by omega⟩, by omega, (condX_iff _ _ _).2 ⟨fun he => ?_, fun he => ?_⟩⟩
      · refine ⟨by omega, fun cap hcap => ⟨⟨i + 1, out ++ [left ++ (us.getD i uZero).d], cap, ⟨#[]⟩⟩, ?_⟩⟩
        have hst' : joinF ([], ⟨#[]⟩) (us.take (i + 1)) = some (out ++ [left ++ (us.getD i uZero).d], ⟨#[]⟩) := by rw [hst, jStep, if_pos he]
        dsimp only
        and_intros <;> first | omega | with_reducible rfl | exact trivial | exact hst' | (simp; omega) | (simp; done) | exact Nat.zero_le _ | skip
        · intro j hj
          exact srow_app (b := left ++ (us.getD i uZero).d) rfl (by simpa using hj)
      · refine ⟨⟨i + 1, out, capo, left ++ (us.getD i uZero).d⟩, ?_⟩
        have hst' : joinF ([], ⟨#[]⟩) (us.take (i + 1)) = some (out, left ++ (us.getD i uZero).d) := by rw [hst, jStep, if_neg (by rw [he]; decide)]
        have hsz : (left ++ (us.getD i uZero).d).size = left.size + (us.getD i uZero).d.size := ByteArray.size_append
        dsimp only
        and_intros <;> first | omega | with_reducible rfl | exact trivial | exact hst' | exact fun j hj => rfl
    · have hge := of_decide_eq_false hge
      obtain ⟨q1, q2⟩ := jend (by omega) h2
      refine Or.inl ⟨capo, ?_⟩
      rw [q2]
      dsimp only
      and_intros <;> first | omega | with_reducible rfl | exact trivial | exact q1 | exact fun j hj => rfl
theorem vcRJoinK : ∀ (x : List U × Nat), x.1.length ≤ 1000 → Held (fnX (cx_rJoin x) (bodyOf Try.f16) Try.f16.results.toList (C_rJoin.args x) (C_rJoin.H x) (endX 1 (C_rJoin.outs x))) := held2 (p := fun (x : List U × Nat) (_ : x.1.length ≤ 1000) => fnX (cx_rJoin x) (bodyOf Try.f16) Try.f16.results.toList (C_rJoin.args x) (C_rJoin.H x) (endX 1 (C_rJoin.outs x))) vcRJoinE vcRJoin
/-! ### units, back -/
theorem urow_next {us : List U} {i j : Nat} {row : Nat → List SV} (h : row 0 = (us.getD i uZero).cells) (hj : j < i + 1) : appRows 0 0 i (urow us) row j = urow us j := by
  rw [appRows0]
  split
  · rfl
  · have : j = i := by omega
    subst this
    rw [Nat.sub_self, h]; rfl
structure UX where
  i : Nat
  cap : Nat
def annUn (us : List U) (c : Nat) : Ann := ⟨UX, fun x => ⟨[(0, .sl 0 0 10 us.length c), (3, .sl 1 0 10 x.i x.cap), (4, .g (.int .i64 x.i))], [(0, .ro 10 us.length (urow us)), (1, .view 10 x.i x.cap (urow us) 24)], 2, 0, []⟩,
  fun x => x.i ≤ us.length ∧ x.i ≤ x.cap, fun x => us.length - x.i⟩
def C_units : Ctr := ⟨1, List U × Nat, fun x => [.sl 0 0 10 x.1.length x.2], fun x => [(0, .ro 10 x.1.length (urow x.1))], fun x => x.1.length ≤ 1000, fun x =>
  [.any Nat (fun cap => x.1.length ≤ cap) (fun cap => .sl 1 0 10 x.1.length cap) (fun cap => [(0, .ro 10 x.1.length (urow x.1)), (1, .view 10 x.1.length cap (urow x.1) 24)])]⟩
def cx_units (x : List U × Nat) : Cx := ⟨ty, ΓOf Γ5, fun _ => [], fun i _ => if i = 3 then [annUn x.1 x.2] else [], 20, 1⟩
def VcUnits : Prop := ∀ (x : List U × Nat), List.length (Prod.fst x) ≤ (1000 : Nat) → (∃ (x_1 : UX), (UX.i x_1 ≤ List.length (Prod.fst x) ∧ UX.i x_1 ≤ UX.cap x_1) ∧ (0 : Nat) = (0 : Nat) ∧ List.length (Prod.fst x) = List.length (Prod.fst x) ∧
  Prod.snd x = Prod.snd x ∧ UX.i x_1 = (0 : Nat) ∧ UX.cap x_1 = (0 : Nat) ∧ (0 : Int) = (↑(UX.i x_1) : Int) ∧ List.length (Prod.fst x) ≤ List.length (Prod.fst x) ∧ (∀ (j : Nat), j < List.length (Prod.fst x) → urow
  (Prod.fst x) j = urow (Prod.fst x) j ∧ true = true) ∧ UX.i x_1 = (0 : Nat) ∧ True) ∧ ∀ (x_1 : UX), UX.i x_1 ≤ List.length (Prod.fst x) ∧ UX.i x_1 ≤ UX.cap x_1 → condX (decide ((↑(UX.i x_1) : Int) < (↑(List.length
  (Prod.fst x)) : Int))) (((0 : Int) ≤ (↑(UX.i x_1) : Int) ∧ (↑(UX.i x_1) : Int) < (↑(List.length (Prod.fst x)) : Int)) ∧ Int.toNat (↑(UX.i x_1) : Int) < List.length (Prod.fst x) ∧ (0 : Nat) + UX.i x_1 ≤ UX.i x_1 ∧ (0 :
  Nat) + UX.cap x_1 ≤ UX.cap x_1 ∧ (UX.i x_1 + (1 : Nat)) * (88 : Nat) ≤ (140737488355328 : Nat) ∧ ∀ (cap : Nat), UX.i x_1 + (1 : Nat) ≤ cap → ∃ (x' : UX), (UX.i x' ≤ List.length (Prod.fst x) ∧ UX.i x' ≤ UX.cap x') ∧
  List.length (Prod.fst x) - UX.i x' < List.length (Prod.fst x) - UX.i x_1 ∧ (0 : Nat) = (0 : Nat) ∧ List.length (Prod.fst x) = List.length (Prod.fst x) ∧ Prod.snd x = Prod.snd x ∧ (0 : Nat) = (0 : Nat) ∧ UX.i x_1 + (1 :
  Nat) = UX.i x' ∧ cap = UX.cap x' ∧ IntKind.wrap IntKind.i64 ((↑(UX.i x_1) : Int) + (1 : Int)) = (↑(UX.i x') : Int) ∧ List.length (Prod.fst x) ≤ List.length (Prod.fst x) ∧ (∀ (j : Nat), j < List.length (Prod.fst x) → urow
  (Prod.fst x) j = urow (Prod.fst x) j ∧ true = true) ∧ UX.i x' ≤ UX.i x_1 + (1 : Nat) ∧ UX.i x' ≤ UX.cap x' ∧ UX.cap x' ≤ cap ∧ (∀ (j : Nat), j < UX.i x' → appRows (0 : Nat) (0 : Nat) (UX.i x_1) (urow (Prod.fst x)) (fun
  (j : Nat) => List.take (10 : Nat) (List.drop (j * (10 : Nat)) [SV.g (Value.int IntKind.i64 (U.k (List.getD (Prod.fst x) (Int.toNat (↑(UX.i x_1) : Int)) uZero))), SV.g (Value.int IntKind.i64 (U.to (List.getD (Prod.fst x)
  (Int.toNat (↑(UX.i x_1) : Int)) uZero))), SV.g (Value.int IntKind.i64 (U.fr (List.getD (Prod.fst x) (Int.toNat (↑(UX.i x_1) : Int)) uZero))), SV.g (Value.int IntKind.i64 (U.cl (List.getD (Prod.fst x) (Int.toNat (↑(UX.i
  x_1) : Int)) uZero))), SV.g (Value.int IntKind.i64 (U.sz (List.getD (Prod.fst x) (Int.toNat (↑(UX.i x_1) : Int)) uZero))), SV.g (Value.int IntKind.i64 (U.nu (List.getD (Prod.fst x) (Int.toNat (↑(UX.i x_1) : Int))
  uZero))), SV.g (Value.int IntKind.i64 (U.cr (List.getD (Prod.fst x) (Int.toNat (↑(UX.i x_1) : Int)) uZero))), SV.g (Value.int IntKind.i64 (U.re (List.getD (Prod.fst x) (Int.toNat (↑(UX.i x_1) : Int)) uZero))), SV.g
  (Value.bool (U.e (List.getD (Prod.fst x) (Int.toNat (↑(UX.i x_1) : Int)) uZero))), SV.g (Value.string (U.d (List.getD (Prod.fst x) (Int.toNat (↑(UX.i x_1) : Int)) uZero)))])) j = urow (Prod.fst x) j ∧ true = true) ∧
  True) ((∃ (y : Nat), List.length (Prod.fst x) ≤ y ∧ (0 : Nat) = (0 : Nat) ∧ UX.i x_1 = List.length (Prod.fst x) ∧ UX.cap x_1 = y ∧ List.length (Prod.fst x) ≤ List.length (Prod.fst x) ∧ (∀ (j : Nat), j < List.length
  (Prod.fst x) → urow (Prod.fst x) j = urow (Prod.fst x) j ∧ true = true) ∧ List.length (Prod.fst x) ≤ UX.i x_1 ∧ List.length (Prod.fst x) ≤ y ∧ y ≤ UX.cap x_1 ∧ (∀ (j : Nat), j < List.length (Prod.fst x) → urow (Prod.fst
  x) j = urow (Prod.fst x) j ∧ true = true) ∧ True) ∨ False)
def VcUnitsS : Prop := ∀ (x : List U × Nat), x.1.length ≤ 1000 → fnX (cx_units x) (bodyOf Try.f14) Try.f14.results.toList (C_units.args x) (C_units.H x) (endX 1 (C_units.outs x))
theorem vcUnitsE : VcUnits = VcUnitsS := by kernel_rfl
set_option maxHeartbeats 4000000 in
theorem vcUnits : VcUnits := by
  rintro ⟨us, c⟩ hn
  have hn : us.length ≤ 1000 := hn
  simp only [eq_self, true_and, and_true, Nat.le_refl, Int.le_refl, implies_true, forall_const, and_false, false_and, exists_false, false_or, or_false, true_implies, Nat.zero_add, and_self, Int.toNat_natCast, cond_true, cond_false]
  refine ⟨⟨⟨0, 0⟩, ?_⟩, fun x hx => ?_⟩
  · dsimp only
    and_intros <;> first | omega | with_reducible rfl | exact trivial | rfl | exact Nat.le_refl _
  · obtain ⟨i, cap⟩ := x
    obtain ⟨h1, h2⟩ := hx
    dsimp only at h1 h2 ⊢
    refine (condX_iff _ _ _).2 ⟨fun hlt => ?_, fun hge => ?_⟩
    · have hlt : i < us.length := by have := of_decide_eq_true hlt; omega
      have hw : IntKind.i64.wrap ((i : Int) + 1) = ((i + 1 : Nat) : Int) := by rw [wrap1 (by omega) (by omega)]; rfl
      rw [hw]
      refine ⟨⟨by omega, by omega⟩, by omega, by omega, fun cap hcap => ⟨⟨i + 1, cap⟩, ?_⟩⟩
      dsimp only
      and_intros <;> first | omega | with_reducible rfl | skip
      intro j hj
      exact urow_next rfl hj
    · have hge := of_decide_eq_false hge
      refine ⟨cap, ?_⟩
      and_intros <;> first | omega | with_reducible rfl
theorem vcUnitsK : ∀ (x : List U × Nat), x.1.length ≤ 1000 → Held (fnX (cx_units x) (bodyOf Try.f14) Try.f14.results.toList (C_units.args x) (C_units.H x) (endX 1 (C_units.outs x))) := held2 (p := fun (x : List U × Nat) (_ : x.1.length ≤ 1000) => fnX (cx_units x) (bodyOf Try.f14) Try.f14.results.toList (C_units.args x) (C_units.H x) (endX 1 (C_units.outs x))) vcUnitsE vcUnits
def annBk (us : List U) (c : Nat) : Ann := ⟨UX, fun x => ⟨[(0, .sl 0 0 10 us.length c), (3, .sl 1 0 10 x.i x.cap), (4, .g (.int .i64 x.i))], [(0, .view 10 us.length c (urow us) 24), (1, .view 10 x.i x.cap (urow us) 23)], 2, 0, []⟩,
  fun x => x.i ≤ us.length ∧ x.i ≤ x.cap, fun x => us.length - x.i⟩
def C_back : Ctr := ⟨1, List U × Nat, fun x => [.sl 0 0 10 x.1.length x.2], fun x => [(0, .view 10 x.1.length x.2 (urow x.1) 24)], fun x => x.1.length ≤ 1000 ∧ x.1.length ≤ x.2, fun x =>
  [.any Nat (fun cap => x.1.length ≤ cap) (fun cap => .sl 1 0 10 x.1.length cap) (fun cap => [(0, .view 10 x.1.length x.2 (urow x.1) 24), (1, .view 10 x.1.length cap (urow x.1) 23)])]⟩
def cx_back (x : List U × Nat) : Cx := ⟨ty, ΓOf Γ5, fun _ => [], fun i _ => if i = 3 then [annBk x.1 x.2] else [], 19, 1⟩
def VcBack15 : Prop := ∀ (x : List U × Nat), List.length (Prod.fst x) ≤ (1000 : Nat) ∧ List.length (Prod.fst x) ≤ Prod.snd x → (∃ (x_1 : UX), (UX.i x_1 ≤ List.length (Prod.fst x) ∧ UX.i x_1 ≤ UX.cap x_1) ∧ (0 : Nat) = (0 : Nat) ∧ List.length
  (Prod.fst x) = List.length (Prod.fst x) ∧ Prod.snd x = Prod.snd x ∧ UX.i x_1 = (0 : Nat) ∧ UX.cap x_1 = (0 : Nat) ∧ (0 : Int) = (↑(UX.i x_1) : Int) ∧ List.length (Prod.fst x) ≤ List.length (Prod.fst x) ∧ List.length
  (Prod.fst x) ≤ Prod.snd x ∧ Prod.snd x ≤ Prod.snd x ∧ (∀ (j : Nat), j < List.length (Prod.fst x) → urow (Prod.fst x) j = urow (Prod.fst x) j ∧ true = true) ∧ UX.i x_1 = (0 : Nat) ∧ True) ∧ ∀ (x_1 : UX), UX.i x_1 ≤
  List.length (Prod.fst x) ∧ UX.i x_1 ≤ UX.cap x_1 → condX (decide ((↑(UX.i x_1) : Int) < (↑(List.length (Prod.fst x)) : Int))) (((0 : Int) ≤ (↑(UX.i x_1) : Int) ∧ (↑(UX.i x_1) : Int) < (↑(List.length (Prod.fst x)) : Int))
  ∧ Int.toNat (↑(UX.i x_1) : Int) < List.length (Prod.fst x) ∧ (0 : Nat) + UX.i x_1 ≤ UX.i x_1 ∧ (0 : Nat) + UX.cap x_1 ≤ UX.cap x_1 ∧ (UX.i x_1 + (1 : Nat)) * (88 : Nat) ≤ (140737488355328 : Nat) ∧ ∀ (cap : Nat), UX.i x_1
  + (1 : Nat) ≤ cap → ∃ (x' : UX), (UX.i x' ≤ List.length (Prod.fst x) ∧ UX.i x' ≤ UX.cap x') ∧ List.length (Prod.fst x) - UX.i x' < List.length (Prod.fst x) - UX.i x_1 ∧ (0 : Nat) = (0 : Nat) ∧ List.length (Prod.fst x) =
  List.length (Prod.fst x) ∧ Prod.snd x = Prod.snd x ∧ (0 : Nat) = (0 : Nat) ∧ UX.i x_1 + (1 : Nat) = UX.i x' ∧ cap = UX.cap x' ∧ IntKind.wrap IntKind.i64 ((↑(UX.i x_1) : Int) + (1 : Int)) = (↑(UX.i x') : Int) ∧
  List.length (Prod.fst x) ≤ List.length (Prod.fst x) ∧ List.length (Prod.fst x) ≤ Prod.snd x ∧ Prod.snd x ≤ Prod.snd x ∧ (∀ (j : Nat), j < List.length (Prod.fst x) → urow (Prod.fst x) j = urow (Prod.fst x) j ∧ true =
  true) ∧ UX.i x' ≤ UX.i x_1 + (1 : Nat) ∧ UX.i x' ≤ UX.cap x' ∧ UX.cap x' ≤ cap ∧ (∀ (j : Nat), j < UX.i x' → appRows (0 : Nat) (0 : Nat) (UX.i x_1) (urow (Prod.fst x)) (fun (j : Nat) => List.take (10 : Nat) (List.drop (j
  * (10 : Nat)) [SV.g (Value.int IntKind.i64 (U.k (List.getD (Prod.fst x) (Int.toNat (↑(UX.i x_1) : Int)) uZero))), SV.g (Value.int IntKind.i64 (U.to (List.getD (Prod.fst x) (Int.toNat (↑(UX.i x_1) : Int)) uZero))), SV.g
  (Value.int IntKind.i64 (U.fr (List.getD (Prod.fst x) (Int.toNat (↑(UX.i x_1) : Int)) uZero))), SV.g (Value.int IntKind.i64 (U.cl (List.getD (Prod.fst x) (Int.toNat (↑(UX.i x_1) : Int)) uZero))), SV.g (Value.int
  IntKind.i64 (U.sz (List.getD (Prod.fst x) (Int.toNat (↑(UX.i x_1) : Int)) uZero))), SV.g (Value.int IntKind.i64 (U.nu (List.getD (Prod.fst x) (Int.toNat (↑(UX.i x_1) : Int)) uZero))), SV.g (Value.int IntKind.i64 (U.cr
  (List.getD (Prod.fst x) (Int.toNat (↑(UX.i x_1) : Int)) uZero))), SV.g (Value.int IntKind.i64 (U.re (List.getD (Prod.fst x) (Int.toNat (↑(UX.i x_1) : Int)) uZero))), SV.g (Value.bool (U.e (List.getD (Prod.fst x)
  (Int.toNat (↑(UX.i x_1) : Int)) uZero))), SV.g (Value.string (U.d (List.getD (Prod.fst x) (Int.toNat (↑(UX.i x_1) : Int)) uZero)))])) j = urow (Prod.fst x) j ∧ true = true) ∧ True) ((∃ (y : Nat), List.length (Prod.fst x)
  ≤ y ∧ (0 : Nat) = (0 : Nat) ∧ UX.i x_1 = List.length (Prod.fst x) ∧ UX.cap x_1 = y ∧ List.length (Prod.fst x) ≤ List.length (Prod.fst x) ∧ List.length (Prod.fst x) ≤ Prod.snd x ∧ Prod.snd x ≤ Prod.snd x ∧ (∀ (j : Nat), j
  < List.length (Prod.fst x) → urow (Prod.fst x) j = urow (Prod.fst x) j ∧ true = true) ∧ List.length (Prod.fst x) ≤ UX.i x_1 ∧ List.length (Prod.fst x) ≤ y ∧ y ≤ UX.cap x_1 ∧ (∀ (j : Nat), j < List.length (Prod.fst x) →
  urow (Prod.fst x) j = urow (Prod.fst x) j ∧ true = true) ∧ True) ∨ False)
def VcBack15S : Prop := ∀ (x : List U × Nat), x.1.length ≤ 1000 ∧ x.1.length ≤ x.2 → fnX (cx_back x) (bodyOf Try.f19) Try.f19.results.toList (C_back.args x) (C_back.H x) (endX 1 (C_back.outs x))
theorem vcBack15E : VcBack15 = VcBack15S := by kernel_rfl
set_option maxHeartbeats 4000000 in
theorem vcBack15 : VcBack15 := by
  rintro ⟨us, c⟩ ⟨hn, hc⟩
  have hn : us.length ≤ 1000 := hn
  have hc : us.length ≤ c := hc
  simp only [eq_self, true_and, and_true, Nat.le_refl, Int.le_refl, implies_true, forall_const, and_false, false_and, exists_false, false_or, or_false, true_implies, Nat.zero_add, and_self, Int.toNat_natCast, cond_true, cond_false, hc]
  refine ⟨⟨⟨0, 0⟩, ?_⟩, fun x hx => ?_⟩
  · dsimp only
    and_intros <;> first | omega | with_reducible rfl | exact trivial | rfl | exact Nat.le_refl _
  · obtain ⟨i, cap⟩ := x
    obtain ⟨h1, h2⟩ := hx
    dsimp only at h1 h2 ⊢
    refine (condX_iff _ _ _).2 ⟨fun hlt => ?_, fun hge => ?_⟩
    · have hlt : i < us.length := by have := of_decide_eq_true hlt; omega
      have hw : IntKind.i64.wrap ((i : Int) + 1) = ((i + 1 : Nat) : Int) := by rw [wrap1 (by omega) (by omega)]; rfl
      rw [hw]
      refine ⟨⟨by omega, by omega⟩, by omega, by omega, fun cap hcap => ⟨⟨i + 1, cap⟩, ?_⟩⟩
      dsimp only
      and_intros <;> first | omega | with_reducible rfl | skip
      intro j hj
      exact urow_next rfl hj
    · have hge := of_decide_eq_false hge
      refine ⟨cap, ?_⟩
      and_intros <;> first | omega | with_reducible rfl
theorem vcBack15K : ∀ (x : List U × Nat), x.1.length ≤ 1000 ∧ x.1.length ≤ x.2 → Held (fnX (cx_back x) (bodyOf Try.f19) Try.f19.results.toList (C_back.args x) (C_back.H x) (endX 1 (C_back.outs x))) := held2 (p := fun (x : List U × Nat) (_ : x.1.length ≤ 1000 ∧ x.1.length ≤ x.2) => fnX (cx_back x) (bodyOf Try.f19) Try.f19.results.toList (C_back.args x) (C_back.H x) (endX 1 (C_back.outs x))) vcBack15E vcBack15
/-! ### lists compared -/
theorem u_eq {u v : U} : (u.k == v.k && (u.to == v.to && (u.fr == v.fr && (u.cl == v.cl && (u.sz == v.sz && (u.nu == v.nu && (u.cr == v.cr && (u.re == v.re && (u.e == v.e && (decide (u.d = v.d) && true)))))))))) = true ↔ u = v := by
  obtain ⟨a1, a2, a3, a4, a5, a6, a7, a8, a9, a10⟩ := u
  obtain ⟨b1, b2, b3, b4, b5, b6, b7, b8, b9, b10⟩ := v
  simp
instance (u v : U) : Decidable (u = v) := decidable_of_iff _ u_eq
def annSame (us vs : List U) (c d : Nat) : Ann := ⟨Nat, fun i => ⟨[(0, .sl 0 0 10 us.length c), (1, .sl 1 0 10 vs.length d), (5, .g (.int .i64 i))], [(0, .view 10 us.length c (urow us) 23), (1, .ro 10 vs.length (urow vs))], 2, 0, []⟩,
  fun i => i ≤ us.length ∧ (∀ j, j < i → us.getD j uZero = vs.getD j uZero) ∧ us.length = vs.length, fun i => us.length - i⟩
structure SX where
  us : List U
  vs : List U
  c : Nat
  d : Nat
def C_Same : Ctr := ⟨2, SX, fun x => [.sl 0 0 10 x.us.length x.c, .sl 1 0 10 x.vs.length x.d], fun x => [(0, .view 10 x.us.length x.c (urow x.us) 23), (1, .ro 10 x.vs.length (urow x.vs))], fun x => x.us.length ≤ 1000 ∧ x.us.length ≤ x.c, fun x =>
  [.one True (.g (.bool (decide (x.us = x.vs)))) [(0, .view 10 x.us.length x.c (urow x.us) 23), (1, .ro 10 x.vs.length (urow x.vs))]]⟩
def cx_Same (x : SX) : Cx := ⟨ty, ΓOf Γ5, fun _ => [], fun i _ => if i = 4 then [annSame x.us x.vs x.c x.d] else [], 26, 2⟩
theorem us_ext {us vs : List U} (h : us.length = vs.length) (he : ∀ j, j < us.length → us.getD j uZero = vs.getD j uZero) : us = vs := by
  apply List.ext_getElem h
  intro j h1 h2
  have := he j h1
  simpa [List.getD_eq_getElem?_getD, h1, h2] using this
def VcSame : Prop := ∀ (x : SX), List.length (SX.us x) ≤ (1000 : Nat) ∧ List.length (SX.us x) ≤ SX.c x → condX ((↑(List.length (SX.us x)) : Int) != (↑(List.length (SX.vs x)) : Int)) (True ∧ false = decide (SX.us x = SX.vs x) ∧ List.length
  (SX.us x) ≤ List.length (SX.us x) ∧ List.length (SX.us x) ≤ SX.c x ∧ SX.c x ≤ SX.c x ∧ (∀ (j : Nat), j < List.length (SX.us x) → urow (SX.us x) j = urow (SX.us x) j ∧ true = true) ∧ List.length (SX.vs x) ≤ List.length
  (SX.vs x) ∧ (∀ (j : Nat), j < List.length (SX.vs x) → urow (SX.vs x) j = urow (SX.vs x) j ∧ true = true) ∧ True ∨ False) ((∃ (x_1 : Nat), (x_1 ≤ List.length (SX.us x) ∧ (∀ (j : Nat), j < x_1 → List.getD (SX.us x) j uZero
  = List.getD (SX.vs x) j uZero) ∧ List.length (SX.us x) = List.length (SX.vs x)) ∧ (0 : Nat) = (0 : Nat) ∧ List.length (SX.us x) = List.length (SX.us x) ∧ SX.c x = SX.c x ∧ (0 : Nat) = (0 : Nat) ∧ List.length (SX.vs x) =
  List.length (SX.vs x) ∧ SX.d x = SX.d x ∧ (0 : Int) = (↑x_1 : Int) ∧ List.length (SX.us x) ≤ List.length (SX.us x) ∧ List.length (SX.us x) ≤ SX.c x ∧ SX.c x ≤ SX.c x ∧ (∀ (j : Nat), j < List.length (SX.us x) → urow
  (SX.us x) j = urow (SX.us x) j ∧ true = true) ∧ List.length (SX.vs x) ≤ List.length (SX.vs x) ∧ (∀ (j : Nat), j < List.length (SX.vs x) → urow (SX.vs x) j = urow (SX.vs x) j ∧ true = true) ∧ True) ∧ ∀ (x_1 : Nat), x_1 ≤
  List.length (SX.us x) ∧ (∀ (j : Nat), j < x_1 → List.getD (SX.us x) j uZero = List.getD (SX.vs x) j uZero) ∧ List.length (SX.us x) = List.length (SX.vs x) → condX (decide ((↑x_1 : Int) < (↑(List.length (SX.us x)) :
  Int))) (((0 : Int) ≤ (↑x_1 : Int) ∧ (↑x_1 : Int) < (↑(List.length (SX.us x)) : Int)) ∧ Int.toNat (↑x_1 : Int) < List.length (SX.us x) ∧ ((0 : Int) ≤ (↑x_1 : Int) ∧ (↑x_1 : Int) < (↑(List.length (SX.vs x)) : Int)) ∧
  Int.toNat (↑x_1 : Int) < List.length (SX.vs x) ∧ condX (!(U.k (List.getD (SX.us x) (Int.toNat (↑x_1 : Int)) uZero) == U.k (List.getD (SX.vs x) (Int.toNat (↑x_1 : Int)) uZero) && (U.to (List.getD (SX.us x) (Int.toNat
  (↑x_1 : Int)) uZero) == U.to (List.getD (SX.vs x) (Int.toNat (↑x_1 : Int)) uZero) && (U.fr (List.getD (SX.us x) (Int.toNat (↑x_1 : Int)) uZero) == U.fr (List.getD (SX.vs x) (Int.toNat (↑x_1 : Int)) uZero) && (U.cl
  (List.getD (SX.us x) (Int.toNat (↑x_1 : Int)) uZero) == U.cl (List.getD (SX.vs x) (Int.toNat (↑x_1 : Int)) uZero) && (U.sz (List.getD (SX.us x) (Int.toNat (↑x_1 : Int)) uZero) == U.sz (List.getD (SX.vs x) (Int.toNat
  (↑x_1 : Int)) uZero) && (U.nu (List.getD (SX.us x) (Int.toNat (↑x_1 : Int)) uZero) == U.nu (List.getD (SX.vs x) (Int.toNat (↑x_1 : Int)) uZero) && (U.cr (List.getD (SX.us x) (Int.toNat (↑x_1 : Int)) uZero) == U.cr
  (List.getD (SX.vs x) (Int.toNat (↑x_1 : Int)) uZero) && (U.re (List.getD (SX.us x) (Int.toNat (↑x_1 : Int)) uZero) == U.re (List.getD (SX.vs x) (Int.toNat (↑x_1 : Int)) uZero) && (U.e (List.getD (SX.us x) (Int.toNat
  (↑x_1 : Int)) uZero) == U.e (List.getD (SX.vs x) (Int.toNat (↑x_1 : Int)) uZero) && (decide (U.d (List.getD (SX.us x) (Int.toNat (↑x_1 : Int)) uZero) = U.d (List.getD (SX.vs x) (Int.toNat (↑x_1 : Int)) uZero)) &&
  true))))))))))) (True ∧ false = decide (SX.us x = SX.vs x) ∧ List.length (SX.us x) ≤ List.length (SX.us x) ∧ List.length (SX.us x) ≤ SX.c x ∧ SX.c x ≤ SX.c x ∧ (∀ (j : Nat), j < List.length (SX.us x) → urow (SX.us x) j =
  urow (SX.us x) j ∧ true = true) ∧ List.length (SX.vs x) ≤ List.length (SX.vs x) ∧ (∀ (j : Nat), j < List.length (SX.vs x) → urow (SX.vs x) j = urow (SX.vs x) j ∧ true = true) ∧ True ∨ False) (∃ (x' : Nat), (x' ≤
  List.length (SX.us x) ∧ (∀ (j : Nat), j < x' → List.getD (SX.us x) j uZero = List.getD (SX.vs x) j uZero) ∧ List.length (SX.us x) = List.length (SX.vs x)) ∧ List.length (SX.us x) - x' < List.length (SX.us x) - x_1 ∧ (0 :
  Nat) = (0 : Nat) ∧ List.length (SX.us x) = List.length (SX.us x) ∧ SX.c x = SX.c x ∧ (0 : Nat) = (0 : Nat) ∧ List.length (SX.vs x) = List.length (SX.vs x) ∧ SX.d x = SX.d x ∧ IntKind.wrap IntKind.i64 ((↑x_1 : Int) + (1 :
  Int)) = (↑x' : Int) ∧ List.length (SX.us x) ≤ List.length (SX.us x) ∧ List.length (SX.us x) ≤ SX.c x ∧ SX.c x ≤ SX.c x ∧ (∀ (j : Nat), j < List.length (SX.us x) → urow (SX.us x) j = urow (SX.us x) j ∧ true = true) ∧
  List.length (SX.vs x) ≤ List.length (SX.vs x) ∧ (∀ (j : Nat), j < List.length (SX.vs x) → urow (SX.vs x) j = urow (SX.vs x) j ∧ true = true) ∧ True)) (True ∧ true = decide (SX.us x = SX.vs x) ∧ List.length (SX.us x) ≤
  List.length (SX.us x) ∧ List.length (SX.us x) ≤ SX.c x ∧ SX.c x ≤ SX.c x ∧ (∀ (j : Nat), j < List.length (SX.us x) → urow (SX.us x) j = urow (SX.us x) j ∧ true = true) ∧ List.length (SX.vs x) ≤ List.length (SX.vs x) ∧ (∀
  (j : Nat), j < List.length (SX.vs x) → urow (SX.vs x) j = urow (SX.vs x) j ∧ true = true) ∧ True ∨ False))
def VcSameS : Prop := ∀ (x : SX), x.us.length ≤ 1000 ∧ x.us.length ≤ x.c → fnX (cx_Same x) (bodyOf Try.f18) Try.f18.results.toList (C_Same.args x) (C_Same.H x) (endX 2 (C_Same.outs x))
theorem vcSameE : VcSame = VcSameS := by kernel_rfl
set_option maxHeartbeats 4000000 in
theorem vcSame : VcSame := by
  rintro ⟨us, vs, c, d⟩ ⟨hn, hc⟩
  have hn : us.length ≤ 1000 := hn
  have hc : us.length ≤ c := hc
  simp only [eq_self, true_and, and_true, Nat.le_refl, Int.le_refl, implies_true, forall_const, and_false, false_and, exists_false, false_or, or_false, true_implies, Nat.zero_add, and_self, Int.toNat_natCast, cond_true, cond_false, hc]
  refine (condX_iff _ _ _).2 ⟨fun h => ?_, fun h => ⟨⟨0, ⟨by omega, fun j hj => absurd hj (Nat.not_lt_zero j), by simp at h; omega⟩, rfl⟩, fun i hi => ?_⟩⟩
  · have h : us.length ≠ vs.length := by simp at h; omega
    exact (decide_eq_false fun e => h (by rw [e])).symm
  · obtain ⟨h1, h2, h3⟩ := hi
    refine (condX_iff _ _ _).2 ⟨fun hlt => ?_, fun hge => ?_⟩
    · have hlt : i < us.length := by have := of_decide_eq_true hlt; omega
      have hw : IntKind.i64.wrap ((i : Int) + 1) = ((i + 1 : Nat) : Int) := by rw [wrap1 (by omega) (by omega)]; rfl
      rw [hw]
      refine ⟨⟨by omega, by omega⟩, by omega, ⟨by omega, by omega⟩, by omega, (condX_iff _ _ _).2 ⟨fun hb => ?_, fun hb => ⟨i + 1, ⟨by omega, fun j hj => ?_, h3⟩, by omega, rfl⟩⟩⟩
      · refine (decide_eq_false fun e => ?_).symm
        subst e
        simp at hb
      · by_cases hji : j = i
        · subst hji
          rw [Bool.not_eq_false'] at hb
          exact u_eq.1 hb
        · exact h2 j (by omega)
    · have hge := of_decide_eq_false hge
      exact (decide_eq_true (us_ext h3 fun j hj => h2 j (by omega))).symm
theorem vcSameK : ∀ (x : SX), x.us.length ≤ 1000 ∧ x.us.length ≤ x.c → Held (fnX (cx_Same x) (bodyOf Try.f18) Try.f18.results.toList (C_Same.args x) (C_Same.H x) (endX 2 (C_Same.outs x))) := held2 (p := fun (x : SX) (_ : x.us.length ≤ 1000 ∧ x.us.length ≤ x.c) => fnX (cx_Same x) (bodyOf Try.f18) Try.f18.results.toList (C_Same.args x) (C_Same.H x) (endX 2 (C_Same.outs x))) vcSameE vcSame
def annStrs (us vs : List ByteArray) (c d : Nat) : Ann := ⟨Nat, fun i => ⟨[(0, .sl 0 0 1 us.length c), (1, .sl 1 0 1 vs.length d), (5, .g (.int .i64 i))], [(0, .view 1 us.length c (srow us) 9), (1, .view 1 vs.length d (srow vs) 9)], 2, 0, []⟩,
  fun i => i ≤ us.length ∧ (∀ j, j < i → us.getD j ⟨#[]⟩ = vs.getD j ⟨#[]⟩) ∧ us.length = vs.length, fun i => us.length - i⟩
structure TX where
  us : List ByteArray
  vs : List ByteArray
  c : Nat
  d : Nat
def C_Strs : Ctr := ⟨2, TX, fun x => [.sl 0 0 1 x.us.length x.c, .sl 1 0 1 x.vs.length x.d], fun x => [(0, .view 1 x.us.length x.c (srow x.us) 9), (1, .view 1 x.vs.length x.d (srow x.vs) 9)], fun x => x.us.length ≤ 100000 ∧ x.us.length ≤ x.c ∧ x.vs.length ≤ x.d, fun x =>
  [.one True (.g (.bool (decide (x.us = x.vs)))) [(0, .view 1 x.us.length x.c (srow x.us) 9), (1, .view 1 x.vs.length x.d (srow x.vs) 9)]]⟩
def cx_Strs (x : TX) : Cx := ⟨ty, ΓOf Γ5, fun _ => [], fun i _ => if i = 4 then [annStrs x.us x.vs x.c x.d] else [], 26, 2⟩
theorem ss_ext {us vs : List ByteArray} (h : us.length = vs.length) (he : ∀ j, j < us.length → us.getD j ⟨#[]⟩ = vs.getD j ⟨#[]⟩) : us = vs := by
  apply List.ext_getElem h
  intro j h1 h2
  have := he j h1
  simpa [List.getD_eq_getElem?_getD, h1, h2] using this
def VcStrs : Prop := ∀ (x : TX), List.length (TX.us x) ≤ (100000 : Nat) ∧ List.length (TX.us x) ≤ TX.c x ∧ List.length (TX.vs x) ≤ TX.d x → condX ((↑(List.length (TX.us x)) : Int) != (↑(List.length (TX.vs x)) : Int)) (True ∧ false = decide
  (TX.us x = TX.vs x) ∧ List.length (TX.us x) ≤ List.length (TX.us x) ∧ List.length (TX.us x) ≤ TX.c x ∧ TX.c x ≤ TX.c x ∧ (∀ (j : Nat), j < List.length (TX.us x) → srow (TX.us x) j = srow (TX.us x) j ∧ true = true) ∧
  List.length (TX.vs x) ≤ List.length (TX.vs x) ∧ List.length (TX.vs x) ≤ TX.d x ∧ TX.d x ≤ TX.d x ∧ (∀ (j : Nat), j < List.length (TX.vs x) → srow (TX.vs x) j = srow (TX.vs x) j ∧ true = true) ∧ True ∨ False) ((∃ (x_1 :
  Nat), (x_1 ≤ List.length (TX.us x) ∧ (∀ (j : Nat), j < x_1 → List.getD (TX.us x) j (ByteArray.mk #[]) = List.getD (TX.vs x) j (ByteArray.mk #[])) ∧ List.length (TX.us x) = List.length (TX.vs x)) ∧ (0 : Nat) = (0 : Nat) ∧
  List.length (TX.us x) = List.length (TX.us x) ∧ TX.c x = TX.c x ∧ (0 : Nat) = (0 : Nat) ∧ List.length (TX.vs x) = List.length (TX.vs x) ∧ TX.d x = TX.d x ∧ (0 : Int) = (↑x_1 : Int) ∧ List.length (TX.us x) ≤ List.length
  (TX.us x) ∧ List.length (TX.us x) ≤ TX.c x ∧ TX.c x ≤ TX.c x ∧ (∀ (j : Nat), j < List.length (TX.us x) → srow (TX.us x) j = srow (TX.us x) j ∧ true = true) ∧ List.length (TX.vs x) ≤ List.length (TX.vs x) ∧ List.length
  (TX.vs x) ≤ TX.d x ∧ TX.d x ≤ TX.d x ∧ (∀ (j : Nat), j < List.length (TX.vs x) → srow (TX.vs x) j = srow (TX.vs x) j ∧ true = true) ∧ True) ∧ ∀ (x_1 : Nat), x_1 ≤ List.length (TX.us x) ∧ (∀ (j : Nat), j < x_1 → List.getD
  (TX.us x) j (ByteArray.mk #[]) = List.getD (TX.vs x) j (ByteArray.mk #[])) ∧ List.length (TX.us x) = List.length (TX.vs x) → condX (decide ((↑x_1 : Int) < (↑(List.length (TX.us x)) : Int))) (((0 : Int) ≤ (↑x_1 : Int) ∧
  (↑x_1 : Int) < (↑(List.length (TX.us x)) : Int)) ∧ Int.toNat (↑x_1 : Int) < List.length (TX.us x) ∧ ((0 : Int) ≤ (↑x_1 : Int) ∧ (↑x_1 : Int) < (↑(List.length (TX.vs x)) : Int)) ∧ Int.toNat (↑x_1 : Int) < List.length
  (TX.vs x) ∧ condX (!decide (List.getD (TX.us x) (Int.toNat (↑x_1 : Int)) (ByteArray.mk #[]) = List.getD (TX.vs x) (Int.toNat (↑x_1 : Int)) (ByteArray.mk #[]))) (True ∧ false = decide (TX.us x = TX.vs x) ∧ List.length
  (TX.us x) ≤ List.length (TX.us x) ∧ List.length (TX.us x) ≤ TX.c x ∧ TX.c x ≤ TX.c x ∧ (∀ (j : Nat), j < List.length (TX.us x) → srow (TX.us x) j = srow (TX.us x) j ∧ true = true) ∧ List.length (TX.vs x) ≤ List.length
  (TX.vs x) ∧ List.length (TX.vs x) ≤ TX.d x ∧ TX.d x ≤ TX.d x ∧ (∀ (j : Nat), j < List.length (TX.vs x) → srow (TX.vs x) j = srow (TX.vs x) j ∧ true = true) ∧ True ∨ False) (∃ (x' : Nat), (x' ≤ List.length (TX.us x) ∧ (∀
  (j : Nat), j < x' → List.getD (TX.us x) j (ByteArray.mk #[]) = List.getD (TX.vs x) j (ByteArray.mk #[])) ∧ List.length (TX.us x) = List.length (TX.vs x)) ∧ List.length (TX.us x) - x' < List.length (TX.us x) - x_1 ∧ (0 :
  Nat) = (0 : Nat) ∧ List.length (TX.us x) = List.length (TX.us x) ∧ TX.c x = TX.c x ∧ (0 : Nat) = (0 : Nat) ∧ List.length (TX.vs x) = List.length (TX.vs x) ∧ TX.d x = TX.d x ∧ IntKind.wrap IntKind.i64 ((↑x_1 : Int) + (1 :
  Int)) = (↑x' : Int) ∧ List.length (TX.us x) ≤ List.length (TX.us x) ∧ List.length (TX.us x) ≤ TX.c x ∧ TX.c x ≤ TX.c x ∧ (∀ (j : Nat), j < List.length (TX.us x) → srow (TX.us x) j = srow (TX.us x) j ∧ true = true) ∧
  List.length (TX.vs x) ≤ List.length (TX.vs x) ∧ List.length (TX.vs x) ≤ TX.d x ∧ TX.d x ≤ TX.d x ∧ (∀ (j : Nat), j < List.length (TX.vs x) → srow (TX.vs x) j = srow (TX.vs x) j ∧ true = true) ∧ True)) (True ∧ true =
  decide (TX.us x = TX.vs x) ∧ List.length (TX.us x) ≤ List.length (TX.us x) ∧ List.length (TX.us x) ≤ TX.c x ∧ TX.c x ≤ TX.c x ∧ (∀ (j : Nat), j < List.length (TX.us x) → srow (TX.us x) j = srow (TX.us x) j ∧ true = true)
  ∧ List.length (TX.vs x) ≤ List.length (TX.vs x) ∧ List.length (TX.vs x) ≤ TX.d x ∧ TX.d x ≤ TX.d x ∧ (∀ (j : Nat), j < List.length (TX.vs x) → srow (TX.vs x) j = srow (TX.vs x) j ∧ true = true) ∧ True ∨ False))
def VcStrsS : Prop := ∀ (x : TX), x.us.length ≤ 100000 ∧ x.us.length ≤ x.c ∧ x.vs.length ≤ x.d → fnX (cx_Strs x) (bodyOf Try.f17) Try.f17.results.toList (C_Strs.args x) (C_Strs.H x) (endX 2 (C_Strs.outs x))
theorem vcStrsE : VcStrs = VcStrsS := by kernel_rfl
set_option maxHeartbeats 4000000 in
theorem vcStrs : VcStrs := by
  rintro ⟨us, vs, c, d⟩ ⟨hn, hc, hd⟩
  have hn : us.length ≤ 100000 := hn
  have hc : us.length ≤ c := hc
  have hd : vs.length ≤ d := hd
  simp only [eq_self, true_and, and_true, Nat.le_refl, Int.le_refl, implies_true, forall_const, and_false, false_and, exists_false, false_or, or_false, true_implies, Nat.zero_add, and_self, Int.toNat_natCast, cond_true, cond_false, hc, hd]
  refine (condX_iff _ _ _).2 ⟨fun h => ?_, fun h => ⟨⟨0, ⟨by omega, fun j hj => absurd hj (Nat.not_lt_zero j), by simp at h; omega⟩, rfl⟩, fun i hi => ?_⟩⟩
  · have h : us.length ≠ vs.length := by simp at h; omega
    exact (decide_eq_false fun e => h (by rw [e])).symm
  · obtain ⟨h1, h2, h3⟩ := hi
    refine (condX_iff _ _ _).2 ⟨fun hlt => ?_, fun hge => ?_⟩
    · have hlt : i < us.length := by have := of_decide_eq_true hlt; omega
      have hw : IntKind.i64.wrap ((i : Int) + 1) = ((i + 1 : Nat) : Int) := by rw [wrap1 (by omega) (by omega)]; rfl
      rw [hw]
      refine ⟨⟨by omega, by omega⟩, by omega, ⟨by omega, by omega⟩, by omega, (condX_iff _ _ _).2 ⟨fun hb => ?_, fun hb => ⟨i + 1, ⟨by omega, fun j hj => ?_, h3⟩, by omega, rfl⟩⟩⟩
      · refine (decide_eq_false fun e => ?_).symm
        subst e
        simp at hb
      · by_cases hji : j = i
        · subst hji
          simpa using hb
        · exact h2 j (by omega)
    · have hge := of_decide_eq_false hge
      exact (decide_eq_true (ss_ext h3 fun j hj => h2 j (by omega))).symm
theorem vcStrsK : ∀ (x : TX), x.us.length ≤ 100000 ∧ x.us.length ≤ x.c ∧ x.vs.length ≤ x.d → Held (fnX (cx_Strs x) (bodyOf Try.f17) Try.f17.results.toList (C_Strs.args x) (C_Strs.H x) (endX 2 (C_Strs.outs x))) := held2 (p := fun (x : TX) (_ : x.us.length ≤ 100000 ∧ x.us.length ≤ x.c ∧ x.vs.length ≤ x.d) => fnX (cx_Strs x) (bodyOf Try.f17) Try.f17.results.toList (C_Strs.args x) (C_Strs.H x) (endX 2 (C_Strs.outs x))) vcStrsE vcStrs
/-! ### Cut -/
/-- The pieces of a message, p bytes each. -/
def pieceN (size : Int) : Nat := min (2 ^ size.toNat) 3980
def dtU (n : Nat) (e : Bool) (d : ByteArray) : U := ⟨5, 0, 0, 0, 0, n, 0, 0, e, d⟩
/-- How many pieces: one at least. -/
def cutN (m p : Nat) : Nat := if m = 0 then 1 else (m + p - 1) / p
def cutU (b : ByteArray) (p n : Nat) : U := dtU n (decide (n + 1 = cutN b.size p)) (b.extract (n * p) (min (n * p + p) b.size))
def cutL (b : ByteArray) (p : Nat) : List U := (List.range (cutN b.size p)).map (cutU b p)
def cutE (b : ByteArray) (size : Int) : Int := if size < 7 ∨ 12 < size then 1 else if 16000 < b.size then 2 else 0
def cutPre (b : ByteArray) (p : Nat) (e : Bool) : List U := (List.range (cutN b.size p)).map fun n => dtU n false (b.extract (n * p) (min (n * p + p) b.size))
def C_Cut : Ctr := ⟨0, ByteArray × Int, fun x => [.g (.string x.1), .g (.int .i64 x.2)], fun _ => [], fun _ => True, fun x =>
  [.any Nat (fun cap => cutE x.1 x.2 = 0 ∧ (cutL x.1 (pieceN x.2)).length ≤ cap) (fun cap => .tup [.sl 0 0 10 (cutL x.1 (pieceN x.2)).length cap, .g (.int .i64 0)]) (fun cap => [(0, .view 10 (cutL x.1 (pieceN x.2)).length cap (urow (cutL x.1 (pieceN x.2))) 24)]),
   .one (cutE x.1 x.2 ≠ 0) (.tup [.sl 0 0 10 0 0, .g (.int .i64 (cutE x.1 x.2))]) [(0, .view 10 0 0 (urow []) 24)]]⟩
structure CX where
  n : Nat
  cap : Nat
def rawU (b : ByteArray) (p n : Nat) : U := dtU n false (b.extract (n * p) (min (n * p + p) b.size))
def rawL (b : ByteArray) (p n : Nat) : List U := (List.range n).map (rawU b p)
def annCut (b : ByteArray) (p : Nat) : Ann := ⟨CX, fun x => ⟨[(0, .g (.string (b.extract (x.n * p) b.size))), (6, .g (.int .i64 p)), (7, .sl 0 0 10 x.n x.cap)], [(0, .view 10 x.n x.cap (urow (rawL b p x.n)) 24)], 1, 0, []⟩,
  fun x => x.n * p < b.size + (if x.n = 0 then 1 else 0) ∧ x.n ≤ x.cap ∧ x.n ≤ b.size, fun x => b.size + 1 - x.n⟩
def cx_Cut (x : ByteArray × Int) : Cx := ⟨ty, ΓOf Γ5, fun _ => [], fun i _ => if i = 7 then [annCut x.1 (pieceN x.2)] else [], 48, 0⟩
theorem size_ext0 {b : ByteArray} {i j : Nat} : (b.extract i j).size = min j b.size - i := by simp [ByteArray.size_extract]
theorem byL_ext0 (b : ByteArray) (i j : Nat) : byL (b.extract i j) = ((byL b).take j).drop i := by
  obtain ⟨a⟩ := b
  have e : (ByteArray.mk a).extract i j = ⟨a.extract i j⟩ := by apply ByteArray.ext; simp [ByteArray.data_extract]
  rw [e]
  simp only [byL, Array.toList_extract, List.extract_eq_take_drop, List.map_take, List.map_drop]
  rw [List.drop_take]
theorem ext_ext (b : ByteArray) (i j k l : Nat) : (b.extract i j).extract k l = b.extract (i + k) (min (i + l) j) := by
  apply ByteArray.ext
  simp [ByteArray.data_extract, Array.extract_extract]
theorem piece_facts {size : Int} (h : 7 ≤ size ∧ size ≤ 12) : IntKind.i64.wrap (1 * 2 ^ min size.toNat 64) = ((2 ^ size.toNat : Nat) : Int) ∧ 128 ≤ 2 ^ size.toNat ∧ 2 ^ size.toNat ≤ 4096 ∧ 128 ≤ pieceN size ∧ pieceN size ≤ 3980 := by
  have : size = 7 ∨ size = 8 ∨ size = 9 ∨ size = 10 ∨ size = 11 ∨ size = 12 := by omega
  rcases this with rfl | rfl | rfl | rfl | rfl | rfl <;> decide
theorem cutN_eq {m p n : Nat} (hp : 0 < p) (h1 : n * p < m + (if n = 0 then 1 else 0)) (h2 : m ≤ n * p + p) : cutN m p = n + 1 := by
  unfold cutN
  by_cases hm : m = 0
  · rw [if_pos hm]
    subst hm
    by_cases hn : n = 0
    · omega
    · rw [if_neg hn] at h1; omega
  · rw [if_neg hm]
    have hlt : n * p < m := by
      by_cases hn : n = 0
      · subst hn; omega
      · rw [if_neg hn] at h1; omega
    have e1 : (n + 1) * p = n * p + p := Nat.succ_mul n p
    have e2 : (n + 1 + 1) * p = n * p + p + p := by rw [Nat.succ_mul, e1]
    apply Nat.div_eq_of_lt_le
    · rw [e1]; omega
    · rw [e2]; omega
theorem cutL_len (b : ByteArray) (p : Nat) : (cutL b p).length = cutN b.size p := by simp [cutL]
theorem urow_rawL {b : ByteArray} {p n j : Nat} (h : j < n) : urow (rawL b p n) j = (rawU b p j).cells := by
  simp [urow, rawL, List.getD_eq_getElem?_getD, h]
theorem urow_cutL {b : ByteArray} {p j : Nat} (h : j < cutN b.size p) : urow (cutL b p) j = (cutU b p j).cells := by
  simp [urow, cutL, List.getD_eq_getElem?_getD, h]
def VcCut : Prop := ∀ (x : ByteArray × Int), True → condX (bif decide (Prod.snd x < (7 : Int)) then true else decide ((12 : Int) < Prod.snd x)) ((∃ (y : Nat), (cutE (Prod.fst x) (Prod.snd x) = (0 : Int) ∧ List.length (cutL (Prod.fst x)
  (pieceN (Prod.snd x))) ≤ y) ∧ List.length (cutL (Prod.fst x) (pieceN (Prod.snd x))) = (0 : Nat) ∧ y = (0 : Nat) ∧ (1 : Int) = (0 : Int) ∧ List.length (cutL (Prod.fst x) (pieceN (Prod.snd x))) = (0 : Nat) ∧ True) ∨ cutE
  (Prod.fst x) (Prod.snd x) ≠ (0 : Int) ∧ (0 : Nat) = (0 : Nat) ∧ (0 : Nat) = (0 : Nat) ∧ (1 : Int) = cutE (Prod.fst x) (Prod.snd x) ∧ (0 : Nat) = (0 : Nat) ∧ True ∨ False) (condX (decide ((16000 : Int) < (↑(ByteArray.size
  (Prod.fst x)) : Int))) ((∃ (y : Nat), (cutE (Prod.fst x) (Prod.snd x) = (0 : Int) ∧ List.length (cutL (Prod.fst x) (pieceN (Prod.snd x))) ≤ y) ∧ List.length (cutL (Prod.fst x) (pieceN (Prod.snd x))) = (0 : Nat) ∧ y = (0
  : Nat) ∧ (2 : Int) = (0 : Int) ∧ List.length (cutL (Prod.fst x) (pieceN (Prod.snd x))) = (0 : Nat) ∧ True) ∨ cutE (Prod.fst x) (Prod.snd x) ≠ (0 : Int) ∧ (0 : Nat) = (0 : Nat) ∧ (0 : Nat) = (0 : Nat) ∧ (2 : Int) = cutE
  (Prod.fst x) (Prod.snd x) ∧ (0 : Nat) = (0 : Nat) ∧ True ∨ False) ((0 : Int) ≤ Prod.snd x ∧ (∃ (x_1 : CX), ((CX.n x_1 * pieceN (Prod.snd x) < ByteArray.size (Prod.fst x) + if CX.n x_1 = (0 : Nat) then (1 : Nat) else (0 :
  Nat)) ∧ CX.n x_1 ≤ CX.cap x_1 ∧ CX.n x_1 ≤ ByteArray.size (Prod.fst x)) ∧ Prod.fst x = ByteArray.extract (Prod.fst x) (CX.n x_1 * pieceN (Prod.snd x)) (ByteArray.size (Prod.fst x)) ∧ (if (3980 : Int) < IntKind.wrap
  IntKind.i64 ((1 : Int) * (2 : Int) ^ min (Int.toNat (Prod.snd x)) (64 : Nat)) then (3980 : Int) else IntKind.wrap IntKind.i64 ((1 : Int) * (2 : Int) ^ min (Int.toNat (Prod.snd x)) (64 : Nat))) = (↑(pieceN (Prod.snd x)) :
  Int) ∧ CX.n x_1 = (0 : Nat) ∧ CX.cap x_1 = (0 : Nat) ∧ CX.n x_1 = (0 : Nat) ∧ True) ∧ ∀ (x_1 : CX), (CX.n x_1 * pieceN (Prod.snd x) < ByteArray.size (Prod.fst x) + if CX.n x_1 = (0 : Nat) then (1 : Nat) else (0 : Nat)) ∧
  CX.n x_1 ≤ CX.cap x_1 ∧ CX.n x_1 ≤ ByteArray.size (Prod.fst x) → (((0 : Int) ≤ if (↑(ByteArray.size (ByteArray.extract (Prod.fst x) (CX.n x_1 * pieceN (Prod.snd x)) (ByteArray.size (Prod.fst x)))) : Int) < (↑(pieceN
  (Prod.snd x)) : Int) then (↑(ByteArray.size (ByteArray.extract (Prod.fst x) (CX.n x_1 * pieceN (Prod.snd x)) (ByteArray.size (Prod.fst x)))) : Int) else (↑(pieceN (Prod.snd x)) : Int)) ∧ (if (↑(ByteArray.size
  (ByteArray.extract (Prod.fst x) (CX.n x_1 * pieceN (Prod.snd x)) (ByteArray.size (Prod.fst x)))) : Int) < (↑(pieceN (Prod.snd x)) : Int) then (↑(ByteArray.size (ByteArray.extract (Prod.fst x) (CX.n x_1 * pieceN (Prod.snd
  x)) (ByteArray.size (Prod.fst x)))) : Int) else (↑(pieceN (Prod.snd x)) : Int)) ≤ (↑(ByteArray.size (ByteArray.extract (Prod.fst x) (CX.n x_1 * pieceN (Prod.snd x)) (ByteArray.size (Prod.fst x)))) : Int)) ∧ (0 : Nat) +
  CX.n x_1 ≤ CX.n x_1 ∧ (0 : Nat) + CX.cap x_1 ≤ CX.cap x_1 ∧ (CX.n x_1 + (1 : Nat)) * (88 : Nat) ≤ (140737488355328 : Nat) ∧ ∀ (cap : Nat), CX.n x_1 + (1 : Nat) ≤ cap → (((0 : Int) ≤ if (↑(ByteArray.size
  (ByteArray.extract (Prod.fst x) (CX.n x_1 * pieceN (Prod.snd x)) (ByteArray.size (Prod.fst x)))) : Int) < (↑(pieceN (Prod.snd x)) : Int) then (↑(ByteArray.size (ByteArray.extract (Prod.fst x) (CX.n x_1 * pieceN (Prod.snd
  x)) (ByteArray.size (Prod.fst x)))) : Int) else (↑(pieceN (Prod.snd x)) : Int)) ∧ (if (↑(ByteArray.size (ByteArray.extract (Prod.fst x) (CX.n x_1 * pieceN (Prod.snd x)) (ByteArray.size (Prod.fst x)))) : Int) < (↑(pieceN
  (Prod.snd x)) : Int) then (↑(ByteArray.size (ByteArray.extract (Prod.fst x) (CX.n x_1 * pieceN (Prod.snd x)) (ByteArray.size (Prod.fst x)))) : Int) else (↑(pieceN (Prod.snd x)) : Int)) ≤ (↑(ByteArray.size
  (ByteArray.extract (Prod.fst x) (CX.n x_1 * pieceN (Prod.snd x)) (ByteArray.size (Prod.fst x)))) : Int)) ∧ condX (decide (ByteArray.extract (ByteArray.extract (Prod.fst x) (CX.n x_1 * pieceN (Prod.snd x)) (ByteArray.size
  (Prod.fst x))) (Int.toNat (if (↑(ByteArray.size (ByteArray.extract (Prod.fst x) (CX.n x_1 * pieceN (Prod.snd x)) (ByteArray.size (Prod.fst x)))) : Int) < (↑(pieceN (Prod.snd x)) : Int) then (↑(ByteArray.size
  (ByteArray.extract (Prod.fst x) (CX.n x_1 * pieceN (Prod.snd x)) (ByteArray.size (Prod.fst x)))) : Int) else (↑(pieceN (Prod.snd x)) : Int))) (ByteArray.size (ByteArray.extract (Prod.fst x) (CX.n x_1 * pieceN (Prod.snd
  x)) (ByteArray.size (Prod.fst x)))) = ByteArray.mk #[])) (((0 : Int) ≤ IntKind.wrap IntKind.i64 ((↑(CX.n x_1 + (1 : Nat)) : Int) - (1 : Int)) ∧ IntKind.wrap IntKind.i64 ((↑(CX.n x_1 + (1 : Nat)) : Int) - (1 : Int)) <
  (↑(CX.n x_1 + (1 : Nat)) : Int)) ∧ Int.toNat (IntKind.wrap IntKind.i64 ((↑(CX.n x_1 + (1 : Nat)) : Int) - (1 : Int))) < CX.n x_1 + (1 : Nat) ∧ ((∃ (y : Nat), (cutE (Prod.fst x) (Prod.snd x) = (0 : Int) ∧ List.length
  (cutL (Prod.fst x) (pieceN (Prod.snd x))) ≤ y) ∧ (0 : Nat) = (0 : Nat) ∧ CX.n x_1 + (1 : Nat) = List.length (cutL (Prod.fst x) (pieceN (Prod.snd x))) ∧ cap = y ∧ (0 : Int) = (0 : Int) ∧ List.length (cutL (Prod.fst x)
  (pieceN (Prod.snd x))) ≤ CX.n x_1 + (1 : Nat) ∧ List.length (cutL (Prod.fst x) (pieceN (Prod.snd x))) ≤ y ∧ y ≤ cap ∧ (∀ (j : Nat), j < List.length (cutL (Prod.fst x) (pieceN (Prod.snd x))) → (if j = Int.toNat
  (IntKind.wrap IntKind.i64 ((↑(CX.n x_1 + (1 : Nat)) : Int) - (1 : Int))) then List.brecOn (motive := fun (x : List SV) => List SV → Nat → List SV) [SV.g (Value.bool true)] setAt._f (appRows (0 : Nat) (0 : Nat) (CX.n x_1)
  (urow (rawL (Prod.fst x) (pieceN (Prod.snd x)) (CX.n x_1))) (fun (j : Nat) => List.take (10 : Nat) (List.drop (j * (10 : Nat)) [SV.g (Value.int IntKind.i64 (5 : Int)), SV.g (Value.int IntKind.i64 (0 : Int)), SV.g
  (Value.int IntKind.i64 (0 : Int)), SV.g (Value.int IntKind.i64 (0 : Int)), SV.g (Value.int IntKind.i64 (0 : Int)), SV.g (Value.int IntKind.i64 (↑(CX.n x_1) : Int)), SV.g (Value.int IntKind.i64 (0 : Int)), SV.g (Value.int
  IntKind.i64 (0 : Int)), SV.g (Value.bool false), SV.g (Value.string (ByteArray.extract (ByteArray.extract (Prod.fst x) (CX.n x_1 * pieceN (Prod.snd x)) (ByteArray.size (Prod.fst x))) (0 : Nat) (Int.toNat (if
  (↑(ByteArray.size (ByteArray.extract (Prod.fst x) (CX.n x_1 * pieceN (Prod.snd x)) (ByteArray.size (Prod.fst x)))) : Int) < (↑(pieceN (Prod.snd x)) : Int) then (↑(ByteArray.size (ByteArray.extract (Prod.fst x) (CX.n x_1
  * pieceN (Prod.snd x)) (ByteArray.size (Prod.fst x)))) : Int) else (↑(pieceN (Prod.snd x)) : Int)))))])) (Int.toNat (IntKind.wrap IntKind.i64 ((↑(CX.n x_1 + (1 : Nat)) : Int) - (1 : Int))))) (8 : Nat) else appRows (0 :
  Nat) (0 : Nat) (CX.n x_1) (urow (rawL (Prod.fst x) (pieceN (Prod.snd x)) (CX.n x_1))) (fun (j : Nat) => List.take (10 : Nat) (List.drop (j * (10 : Nat)) [SV.g (Value.int IntKind.i64 (5 : Int)), SV.g (Value.int
  IntKind.i64 (0 : Int)), SV.g (Value.int IntKind.i64 (0 : Int)), SV.g (Value.int IntKind.i64 (0 : Int)), SV.g (Value.int IntKind.i64 (0 : Int)), SV.g (Value.int IntKind.i64 (↑(CX.n x_1) : Int)), SV.g (Value.int
  IntKind.i64 (0 : Int)), SV.g (Value.int IntKind.i64 (0 : Int)), SV.g (Value.bool false), SV.g (Value.string (ByteArray.extract (ByteArray.extract (Prod.fst x) (CX.n x_1 * pieceN (Prod.snd x)) (ByteArray.size (Prod.fst
  x))) (0 : Nat) (Int.toNat (if (↑(ByteArray.size (ByteArray.extract (Prod.fst x) (CX.n x_1 * pieceN (Prod.snd x)) (ByteArray.size (Prod.fst x)))) : Int) < (↑(pieceN (Prod.snd x)) : Int) then (↑(ByteArray.size
  (ByteArray.extract (Prod.fst x) (CX.n x_1 * pieceN (Prod.snd x)) (ByteArray.size (Prod.fst x)))) : Int) else (↑(pieceN (Prod.snd x)) : Int)))))])) j) = urow (cutL (Prod.fst x) (pieceN (Prod.snd x))) j ∧ true = true) ∧
  True) ∨ cutE (Prod.fst x) (Prod.snd x) ≠ (0 : Int) ∧ (0 : Nat) = (0 : Nat) ∧ CX.n x_1 + (1 : Nat) = (0 : Nat) ∧ cap = (0 : Nat) ∧ (0 : Int) = cutE (Prod.fst x) (Prod.snd x) ∧ (0 : Nat) ≤ CX.n x_1 + (1 : Nat) ∧ (0 : Nat)
  ≤ (0 : Nat) ∧ (0 : Nat) ≤ cap ∧ (∀ (j : Nat), j < (0 : Nat) → (if j = Int.toNat (IntKind.wrap IntKind.i64 ((↑(CX.n x_1 + (1 : Nat)) : Int) - (1 : Int))) then List.brecOn (motive := fun (x : List SV) => List SV → Nat →
  List SV) [SV.g (Value.bool true)] setAt._f (appRows (0 : Nat) (0 : Nat) (CX.n x_1) (urow (rawL (Prod.fst x) (pieceN (Prod.snd x)) (CX.n x_1))) (fun (j : Nat) => List.take (10 : Nat) (List.drop (j * (10 : Nat)) [SV.g
  (Value.int IntKind.i64 (5 : Int)), SV.g (Value.int IntKind.i64 (0 : Int)), SV.g (Value.int IntKind.i64 (0 : Int)), SV.g (Value.int IntKind.i64 (0 : Int)), SV.g (Value.int IntKind.i64 (0 : Int)), SV.g (Value.int
  IntKind.i64 (↑(CX.n x_1) : Int)), SV.g (Value.int IntKind.i64 (0 : Int)), SV.g (Value.int IntKind.i64 (0 : Int)), SV.g (Value.bool false), SV.g (Value.string (ByteArray.extract (ByteArray.extract (Prod.fst x) (CX.n x_1 *
  pieceN (Prod.snd x)) (ByteArray.size (Prod.fst x))) (0 : Nat) (Int.toNat (if (↑(ByteArray.size (ByteArray.extract (Prod.fst x) (CX.n x_1 * pieceN (Prod.snd x)) (ByteArray.size (Prod.fst x)))) : Int) < (↑(pieceN (Prod.snd
  x)) : Int) then (↑(ByteArray.size (ByteArray.extract (Prod.fst x) (CX.n x_1 * pieceN (Prod.snd x)) (ByteArray.size (Prod.fst x)))) : Int) else (↑(pieceN (Prod.snd x)) : Int)))))])) (Int.toNat (IntKind.wrap IntKind.i64
  ((↑(CX.n x_1 + (1 : Nat)) : Int) - (1 : Int))))) (8 : Nat) else appRows (0 : Nat) (0 : Nat) (CX.n x_1) (urow (rawL (Prod.fst x) (pieceN (Prod.snd x)) (CX.n x_1))) (fun (j : Nat) => List.take (10 : Nat) (List.drop (j *
  (10 : Nat)) [SV.g (Value.int IntKind.i64 (5 : Int)), SV.g (Value.int IntKind.i64 (0 : Int)), SV.g (Value.int IntKind.i64 (0 : Int)), SV.g (Value.int IntKind.i64 (0 : Int)), SV.g (Value.int IntKind.i64 (0 : Int)), SV.g
  (Value.int IntKind.i64 (↑(CX.n x_1) : Int)), SV.g (Value.int IntKind.i64 (0 : Int)), SV.g (Value.int IntKind.i64 (0 : Int)), SV.g (Value.bool false), SV.g (Value.string (ByteArray.extract (ByteArray.extract (Prod.fst x)
  (CX.n x_1 * pieceN (Prod.snd x)) (ByteArray.size (Prod.fst x))) (0 : Nat) (Int.toNat (if (↑(ByteArray.size (ByteArray.extract (Prod.fst x) (CX.n x_1 * pieceN (Prod.snd x)) (ByteArray.size (Prod.fst x)))) : Int) <
  (↑(pieceN (Prod.snd x)) : Int) then (↑(ByteArray.size (ByteArray.extract (Prod.fst x) (CX.n x_1 * pieceN (Prod.snd x)) (ByteArray.size (Prod.fst x)))) : Int) else (↑(pieceN (Prod.snd x)) : Int)))))])) j) = urow [] j ∧
  true = true) ∧ True ∨ False)) (∃ (x' : CX), ((CX.n x' * pieceN (Prod.snd x) < ByteArray.size (Prod.fst x) + if CX.n x' = (0 : Nat) then (1 : Nat) else (0 : Nat)) ∧ CX.n x' ≤ CX.cap x' ∧ CX.n x' ≤ ByteArray.size (Prod.fst
  x)) ∧ ByteArray.size (Prod.fst x) + (1 : Nat) - CX.n x' < ByteArray.size (Prod.fst x) + (1 : Nat) - CX.n x_1 ∧ ByteArray.extract (ByteArray.extract (Prod.fst x) (CX.n x_1 * pieceN (Prod.snd x)) (ByteArray.size (Prod.fst
  x))) (Int.toNat (if (↑(ByteArray.size (ByteArray.extract (Prod.fst x) (CX.n x_1 * pieceN (Prod.snd x)) (ByteArray.size (Prod.fst x)))) : Int) < (↑(pieceN (Prod.snd x)) : Int) then (↑(ByteArray.size (ByteArray.extract
  (Prod.fst x) (CX.n x_1 * pieceN (Prod.snd x)) (ByteArray.size (Prod.fst x)))) : Int) else (↑(pieceN (Prod.snd x)) : Int))) (ByteArray.size (ByteArray.extract (Prod.fst x) (CX.n x_1 * pieceN (Prod.snd x)) (ByteArray.size
  (Prod.fst x)))) = ByteArray.extract (Prod.fst x) (CX.n x' * pieceN (Prod.snd x)) (ByteArray.size (Prod.fst x)) ∧ (↑(pieceN (Prod.snd x)) : Int) = (↑(pieceN (Prod.snd x)) : Int) ∧ (0 : Nat) = (0 : Nat) ∧ CX.n x_1 + (1 :
  Nat) = CX.n x' ∧ cap = CX.cap x' ∧ CX.n x' ≤ CX.n x_1 + (1 : Nat) ∧ CX.n x' ≤ CX.cap x' ∧ CX.cap x' ≤ cap ∧ (∀ (j : Nat), j < CX.n x' → appRows (0 : Nat) (0 : Nat) (CX.n x_1) (urow (rawL (Prod.fst x) (pieceN (Prod.snd
  x)) (CX.n x_1))) (fun (j : Nat) => List.take (10 : Nat) (List.drop (j * (10 : Nat)) [SV.g (Value.int IntKind.i64 (5 : Int)), SV.g (Value.int IntKind.i64 (0 : Int)), SV.g (Value.int IntKind.i64 (0 : Int)), SV.g (Value.int
  IntKind.i64 (0 : Int)), SV.g (Value.int IntKind.i64 (0 : Int)), SV.g (Value.int IntKind.i64 (↑(CX.n x_1) : Int)), SV.g (Value.int IntKind.i64 (0 : Int)), SV.g (Value.int IntKind.i64 (0 : Int)), SV.g (Value.bool false),
  SV.g (Value.string (ByteArray.extract (ByteArray.extract (Prod.fst x) (CX.n x_1 * pieceN (Prod.snd x)) (ByteArray.size (Prod.fst x))) (0 : Nat) (Int.toNat (if (↑(ByteArray.size (ByteArray.extract (Prod.fst x) (CX.n x_1 *
  pieceN (Prod.snd x)) (ByteArray.size (Prod.fst x)))) : Int) < (↑(pieceN (Prod.snd x)) : Int) then (↑(ByteArray.size (ByteArray.extract (Prod.fst x) (CX.n x_1 * pieceN (Prod.snd x)) (ByteArray.size (Prod.fst x)))) : Int)
  else (↑(pieceN (Prod.snd x)) : Int)))))])) j = urow (rawL (Prod.fst x) (pieceN (Prod.snd x)) (CX.n x')) j ∧ true = true) ∧ True)))
def VcCutS : Prop := ∀ (x : ByteArray × Int), True → fnX (cx_Cut x) (bodyOf Try.f20) Try.f20.results.toList (C_Cut.args x) (C_Cut.H x) (endX 0 (C_Cut.outs x))
theorem vcCutE : VcCut = VcCutS := by kernel_rfl
set_option maxHeartbeats 4000000 in
theorem vcCut : VcCut := by
  rintro ⟨b, size⟩ _
  simp only [eq_self, true_and, and_true, Nat.le_refl, Int.le_refl, implies_true, forall_const, and_false, false_and, exists_false, false_or, or_false, true_implies, Nat.zero_add, and_self, Int.toNat_natCast, cond_true, cond_false]
  refine (condX_iff _ _ _).2 ⟨fun h => Or.inr ?_, fun h => (condX_iff _ _ _).2 ⟨fun h2 => Or.inr ?_, fun h2 => ?_⟩⟩
  · have h : size < 7 ∨ 12 < size := by simpa [Bool.cond_eq_ite] using h
    have e : cutE b size = 1 := by unfold cutE; rw [if_pos h]
    exact ⟨by rw [e]; decide, e.symm⟩
  · have h : ¬ (size < 7 ∨ 12 < size) := by simp [Bool.cond_eq_ite] at h; omega
    have h2 := of_decide_eq_true h2
    have e : cutE b size = 2 := by unfold cutE; rw [if_neg h, if_pos (by omega)]
    exact ⟨by rw [e]; decide, e.symm⟩
  have h : ¬ (size < 7 ∨ 12 < size) := by simp [Bool.cond_eq_ite] at h; omega
  have h2 := of_decide_eq_false h2
  have hE : cutE b size = 0 := by unfold cutE; rw [if_neg h, if_neg (by omega)]
  obtain ⟨f1, f2, f3, f4, f5⟩ := piece_facts (size := size) (by omega)
  have hpi : (if (3980 : Int) < IntKind.i64.wrap (1 * 2 ^ min size.toNat 64) then (3980 : Int) else IntKind.i64.wrap (1 * 2 ^ min size.toNat 64)) = ((pieceN size : Nat) : Int) := by
    rw [f1]; unfold pieceN; split <;> omega
  rw [hpi]
  generalize pieceN size = p at *
  refine ⟨by omega, ⟨⟨0, 0⟩, ?_⟩, fun x hx => ?_⟩
  · dsimp only
    and_intros <;> first | omega | with_reducible rfl | (simp; done)
  · obtain ⟨n, cap⟩ := x
    obtain ⟨h1, h3, h4⟩ := hx
    dsimp only at h1 h3 h4 ⊢
    have e0 : (n + 1) * p = n * p + p := Nat.succ_mul n p
    have e1 : (b.extract (n * p) b.size).size = b.size - n * p := by rw [size_ext0]; omega
    have hq : (if ((b.size - n * p : Nat) : Int) < (p : Int) then ((b.size - n * p : Nat) : Int) else (p : Int)) = ((min p (b.size - n * p) : Nat) : Int) := by split <;> omega
    have hw : IntKind.i64.wrap (((n + 1 : Nat) : Int) - 1) = ((n : Nat) : Int) := by rw [wrap1 (by omega) (by omega)]; omega
    simp only [e1, hq, hw, Int.toNat_natCast]
    refine ⟨⟨by omega, by omega⟩, by omega, fun cap' hcap => ⟨⟨by omega, by omega⟩, (condX_iff _ _ _).2 ⟨fun hz => ?_, fun hz => ?_⟩⟩⟩
    · have hz := size_zero.1 (of_decide_eq_true hz)
      rw [ext_ext, size_ext0] at hz
      have hN : cutN b.size p = n + 1 := cutN_eq (by omega) h1 (by omega)
      have hlen := cutL_len b p
      refine ⟨⟨by omega, by omega⟩, by omega, Or.inl ⟨cap', ⟨hE, by omega⟩, by omega, rfl, by omega, by omega, Nat.le_refl _, fun j hj => ?_⟩⟩
      rw [hlen] at hj
      rw [urow_cutL hj]
      have hcells : (rawU b p n).cells = [SV.g (Value.int IntKind.i64 5), SV.g (Value.int IntKind.i64 0), SV.g (Value.int IntKind.i64 0), SV.g (Value.int IntKind.i64 0), SV.g (Value.int IntKind.i64 0), SV.g (Value.int IntKind.i64 n), SV.g (Value.int IntKind.i64 0), SV.g (Value.int IntKind.i64 0), SV.g (Value.bool false), SV.g (Value.string ((b.extract (n * p) b.size).extract 0 (min p (b.size - n * p))))] := by
        rw [ext_ext]
        have : min (n * p + min p (b.size - n * p)) b.size = min (n * p + p) b.size := by omega
        rw [this]; rfl
      simp only [← hcells]
      have hap : ∀ k, k < n + 1 → appRows 0 0 n (urow (rawL b p n)) (fun j => List.take 10 (List.drop (j * 10) (rawU b p n).cells)) k = (rawU b p k).cells := by
        intro k hk
        rw [appRows0]
        split
        · rename_i hkn; exact urow_rawL hkn
        · have : k = n := by omega
          subst this
          rw [Nat.sub_self]; rfl
      rw [hap n (by omega), hap j (by omega)]
      split
      · rename_i hjn
        subst hjn
        have : cutU b p j = dtU j true (b.extract (j * p) (min (j * p + p) b.size)) := by unfold cutU; rw [hN]; simp
        rw [this]; rfl
      · have : cutU b p j = rawU b p j := by
          unfold cutU rawU; rw [hN]
          have : decide (j + 1 = n + 1) = false := decide_eq_false (by omega)
          rw [this]
        rw [this]
    · have hz : b.size - n * p ≠ min p (b.size - n * p) := by
        intro e
        have : ((b.extract (n * p) b.size).extract (min p (b.size - n * p)) (b.size - n * p)) = ⟨#[]⟩ := by
          rw [size_zero, ext_ext, size_ext0]; omega
        simp [this] at hz
      refine ⟨⟨n + 1, cap'⟩, ?_⟩
      dsimp only
      rw [e0]
      have hnp : n ≤ n * p := Nat.le_mul_of_pos_right n (by omega)
      have hcells : (rawU b p n).cells = [SV.g (Value.int IntKind.i64 5), SV.g (Value.int IntKind.i64 0), SV.g (Value.int IntKind.i64 0), SV.g (Value.int IntKind.i64 0), SV.g (Value.int IntKind.i64 0), SV.g (Value.int IntKind.i64 n), SV.g (Value.int IntKind.i64 0), SV.g (Value.int IntKind.i64 0), SV.g (Value.bool false), SV.g (Value.string ((b.extract (n * p) b.size).extract 0 (min p (b.size - n * p))))] := by
        rw [ext_ext]
        have : min (n * p + min p (b.size - n * p)) b.size = min (n * p + p) b.size := by omega
        rw [this]; rfl
      simp only [← hcells]
      and_intros <;> first | omega | with_reducible rfl | skip
      · rw [ext_ext]
        have a1 : n * p + min p (b.size - n * p) = n * p + p := by omega
        have a2 : min (n * p + (b.size - n * p)) b.size = b.size := by omega
        rw [a1, a2]
      · intro k hk
        rw [urow_rawL hk, appRows0]
        split
        · rename_i hkn; exact urow_rawL hkn
        · have : k = n := by omega
          subst this
          rw [Nat.sub_self]; rfl
theorem vcCutK : ∀ (x : ByteArray × Int), True → Held (fnX (cx_Cut x) (bodyOf Try.f20) Try.f20.results.toList (C_Cut.args x) (C_Cut.H x) (endX 0 (C_Cut.outs x))) := held2 (p := fun (x : ByteArray × Int) (_ : True) => fnX (cx_Cut x) (bodyOf Try.f20) Try.f20.results.toList (C_Cut.args x) (C_Cut.H x) (endX 0 (C_Cut.outs x))) vcCutE vcCut
end Go.Proofs.Ytmblefpbfpjneaa
