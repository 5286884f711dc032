/- Chapter 18: two lists of events; what stays true of a side. -/
import Derived.Test.YtghbejmnnfoamaaRf
set_option linter.unusedVariables false
set_option linter.unusedSimpArgs false
namespace Go.Proofs.Ytghbejmnnfoamaa
open Go Go.Eng
attribute [local irreducible] condX
/-! ### Events -/
structure EE where
  a : List Ev
  b : List Ev
  ca : Nat
  cb : Nat
def EE.H (x : EE) : Heap := [(0, .view 6 x.a.length x.ca (erow x.a) 31), (1, .view 6 x.b.length x.cb (erow x.b) 31)]
def EE.ok (x : EE) : Prop := x.a.length ≤ x.ca ∧ x.b.length ≤ x.cb ∧ x.a.length ≤ 100000 ∧ x.a = x.b
def C_rEvents : Ctr := ⟨2, EE, fun x => [.sl 0 0 6 x.a.length x.ca, .sl 1 0 6 x.b.length x.cb], fun x => x.H, fun x => x.ok, fun x => [.one True (.g (.bool true)) x.H]⟩
def annEv (x : EE) : Ann := ⟨Nat, fun i => ⟨[(0, .sl 0 0 6 x.a.length x.ca), (1, .sl 1 0 6 x.b.length x.cb), (5, .g (.int .i64 i))], x.H, 2, 0, []⟩, fun i => i ≤ x.a.length, fun i => x.a.length - i⟩
def cx_rEvents (x : EE) : Cx := ⟨ty, ΓOf Γx, fun _ => [], fun i _ => if i = 4 then [annEv x] else [], 26, 2⟩
def VcREvents : Prop := ∀ (x : EE), EE.ok x → condX ((↑(List.length (EE.a x)) : Int) != (↑(List.length (EE.b x)) : Int)) (True ∧ false = true ∧ List.length (EE.a x) ≤ List.length (EE.a x) ∧ List.length (EE.a x) ≤ EE.ca x ∧ EE.ca x ≤ EE.ca x ∧
  (∀ (j : Nat), j < List.length (EE.a x) → erow (EE.a x) j = erow (EE.a x) j ∧ true = true) ∧ List.length (EE.b x) ≤ List.length (EE.b x) ∧ List.length (EE.b x) ≤ EE.cb x ∧ EE.cb x ≤ EE.cb x ∧ (∀ (j : Nat), j < List.length
  (EE.b x) → erow (EE.b x) j = erow (EE.b x) j ∧ true = true) ∧ True ∨ False) ((∃ (x_1 : Nat), x_1 ≤ List.length (EE.a x) ∧ (0 : Nat) = (0 : Nat) ∧ List.length (EE.a x) = List.length (EE.a x) ∧ EE.ca x = EE.ca x ∧ (0 :
  Nat) = (0 : Nat) ∧ List.length (EE.b x) = List.length (EE.b x) ∧ EE.cb x = EE.cb x ∧ (0 : Int) = (↑x_1 : Int) ∧ List.length (EE.a x) ≤ List.length (EE.a x) ∧ List.length (EE.a x) ≤ EE.ca x ∧ EE.ca x ≤ EE.ca x ∧ (∀ (j :
  Nat), j < List.length (EE.a x) → erow (EE.a x) j = erow (EE.a x) j ∧ true = true) ∧ List.length (EE.b x) ≤ List.length (EE.b x) ∧ List.length (EE.b x) ≤ EE.cb x ∧ EE.cb x ≤ EE.cb x ∧ (∀ (j : Nat), j < List.length (EE.b
  x) → erow (EE.b x) j = erow (EE.b x) j ∧ true = true) ∧ True) ∧ ∀ (x_1 : Nat), x_1 ≤ List.length (EE.a x) → condX (decide ((↑x_1 : Int) < (↑(List.length (EE.a x)) : Int))) (((0 : Int) ≤ (↑x_1 : Int) ∧ (↑x_1 : Int) <
  (↑(List.length (EE.a x)) : Int)) ∧ Int.toNat (↑x_1 : Int) < List.length (EE.a x) ∧ ((0 : Int) ≤ (↑x_1 : Int) ∧ (↑x_1 : Int) < (↑(List.length (EE.b x)) : Int)) ∧ Int.toNat (↑x_1 : Int) < List.length (EE.b x) ∧ condX
  (!(Ev.w (List.getD (EE.a x) (Int.toNat (↑x_1 : Int)) eZero) == Ev.w (List.getD (EE.b x) (Int.toNat (↑x_1 : Int)) eZero) && (Ev.k (List.getD (EE.a x) (Int.toNat (↑x_1 : Int)) eZero) == Ev.k (List.getD (EE.b x) (Int.toNat
  (↑x_1 : Int)) eZero) && (Ev.a (List.getD (EE.a x) (Int.toNat (↑x_1 : Int)) eZero) == Ev.a (List.getD (EE.b x) (Int.toNat (↑x_1 : Int)) eZero) && (Ev.b (List.getD (EE.a x) (Int.toNat (↑x_1 : Int)) eZero) == Ev.b
  (List.getD (EE.b x) (Int.toNat (↑x_1 : Int)) eZero) && (Ev.c (List.getD (EE.a x) (Int.toNat (↑x_1 : Int)) eZero) == Ev.c (List.getD (EE.b x) (Int.toNat (↑x_1 : Int)) eZero) && (decide (Ev.d (List.getD (EE.a x) (Int.toNat
  (↑x_1 : Int)) eZero) = Ev.d (List.getD (EE.b x) (Int.toNat (↑x_1 : Int)) eZero)) && true))))))) (True ∧ false = true ∧ List.length (EE.a x) ≤ List.length (EE.a x) ∧ List.length (EE.a x) ≤ EE.ca x ∧ EE.ca x ≤ EE.ca x ∧ (∀
  (j : Nat), j < List.length (EE.a x) → erow (EE.a x) j = erow (EE.a x) j ∧ true = true) ∧ List.length (EE.b x) ≤ List.length (EE.b x) ∧ List.length (EE.b x) ≤ EE.cb x ∧ EE.cb x ≤ EE.cb x ∧ (∀ (j : Nat), j < List.length
  (EE.b x) → erow (EE.b x) j = erow (EE.b x) j ∧ true = true) ∧ True ∨ False) (∃ (x' : Nat), x' ≤ List.length (EE.a x) ∧ List.length (EE.a x) - x' < List.length (EE.a x) - x_1 ∧ (0 : Nat) = (0 : Nat) ∧ List.length (EE.a x)
  = List.length (EE.a x) ∧ EE.ca x = EE.ca x ∧ (0 : Nat) = (0 : Nat) ∧ List.length (EE.b x) = List.length (EE.b x) ∧ EE.cb x = EE.cb x ∧ IntKind.wrap IntKind.i64 ((↑x_1 : Int) + (1 : Int)) = (↑x' : Int) ∧ List.length (EE.a
  x) ≤ List.length (EE.a x) ∧ List.length (EE.a x) ≤ EE.ca x ∧ EE.ca x ≤ EE.ca x ∧ (∀ (j : Nat), j < List.length (EE.a x) → erow (EE.a x) j = erow (EE.a x) j ∧ true = true) ∧ List.length (EE.b x) ≤ List.length (EE.b x) ∧
  List.length (EE.b x) ≤ EE.cb x ∧ EE.cb x ≤ EE.cb x ∧ (∀ (j : Nat), j < List.length (EE.b x) → erow (EE.b x) j = erow (EE.b x) j ∧ true = true) ∧ True)) (True ∧ true = true ∧ List.length (EE.a x) ≤ List.length (EE.a x) ∧
  List.length (EE.a x) ≤ EE.ca x ∧ EE.ca x ≤ EE.ca x ∧ (∀ (j : Nat), j < List.length (EE.a x) → erow (EE.a x) j = erow (EE.a x) j ∧ true = true) ∧ List.length (EE.b x) ≤ List.length (EE.b x) ∧ List.length (EE.b x) ≤ EE.cb
  x ∧ EE.cb x ≤ EE.cb x ∧ (∀ (j : Nat), j < List.length (EE.b x) → erow (EE.b x) j = erow (EE.b x) j ∧ true = true) ∧ True ∨ False))
theorem vcREventsE : VcREvents = (∀ (x : EE), x.ok → fnX (cx_rEvents x) (bodyOf Try.f16) Try.f16.results.toList (C_rEvents.args x) (C_rEvents.H x) (endX 2 (C_rEvents.outs x))) := by kernel_rfl
set_option maxHeartbeats 4000000 in
theorem vcREvents : VcREvents := by
  rintro ⟨a, b, ca, cb⟩ hh
  obtain ⟨h1, h2, h3, h4⟩ : a.length ≤ ca ∧ b.length ≤ cb ∧ a.length ≤ 100000 ∧ a = b := hh
  subst h4
  simp only [eq_self, true_and, and_true, Nat.le_refl, Int.le_refl, implies_true, forall_const, and_false, false_and, exists_false, false_or, or_false, true_implies, Nat.zero_add, and_self, Int.toNat_natCast, cond_true, cond_false, condT, condF, beq_self_eq_true, Bool.and_self, Bool.not_true, decide_true, Bool.and_true]
  refine (condX_iff _ _ _).2 ⟨fun c => by simp at c, fun _ => ⟨⟨0, Nat.zero_le _, rfl, h1, h2⟩, fun i hi => (condX_iff _ _ _).2 ⟨fun c => ?_, fun c => ⟨h1, h2⟩⟩⟩⟩
  have c := of_decide_eq_true c
  refine ⟨⟨by omega, by omega⟩, by omega, ⟨by omega, by omega⟩, by omega, i + 1, by omega, by omega, ?_, h1, h2⟩
  rw [wrap1 (by omega) (by omega)]; omega
theorem vcREventsK : ∀ (x : EE), x.ok → Held (fnX (cx_rEvents x) (bodyOf Try.f16) Try.f16.results.toList (C_rEvents.args x) (C_rEvents.H x) (endX 2 (C_rEvents.outs x))) := held2 (p := fun (x : EE) (_ : x.ok) => fnX (cx_rEvents x) (bodyOf Try.f16) Try.f16.results.toList (C_rEvents.args x) (C_rEvents.H x) (endX 2 (C_rEvents.outs x))) vcREventsE vcREvents
def getEv2 (a : List SV) (H : Heap) : Option EE := match a with
  | [x, y] => match getE x H, getE y H with
    | some (e, c), some (f, d) => some ⟨e, f, c, d⟩
    | _, _ => none
  | _ => none
theorem ok_rEvents : GenSound Try.prog 16 (callX C_rEvents getEv2) :=
  gen_of (ty := ty) (Γ := ΓOf Γx) hm tyOK Γx_ok (fnOK_of Try.func16 (by kernel_rfl) (by kernel_rfl)) Try.func16 (body_some (by kernel_rfl)) C_rEvents getEv2 Try.ntmps16 (fun _ => Nat.le_of_ble_eq_true rfl) (fun x => (cx_rEvents x).cut) (fun x => (cx_rEvents x).loop) fun x h => vcREventsK x h
/-! ### what stays true of a side -/
structure Well (r : R18) (us : List U) : Prop where
  ok : r.ok
  k60 : us.length ≤ 60
theorem Well.nil {r : R18} (h : r.ok) : Well r [] := ⟨h, Nat.zero_le _⟩
theorem Well.drop {r : R18} {us : List U} (h : Well r us) (k : Nat) : Well r (us.drop k) := ⟨h.ok, by rw [List.length_drop]; have := h.k60; omega⟩
theorem well_us {r : R18} {us : List U} (h : Well r us) (e : Ev) : Well (usR r us e) (usU r us e) ∧ (usR r us e).ow = r.ow ∧ (usA r us [] e).length ≤ 100 ∧ (usE r us e ≠ 0 → usA r us [] e = []) := by
  by_cases h0 : usE r us e ≠ 0
  · simp only [usR, usU, usA, h0, ne_eq, not_false_eq_true, if_true]
    exact ⟨h, trivial, by simp, fun _ => trivial⟩
  · have h0 : usE r us e = 0 := by omega
    have k60 : e.k = 4 ∨ us.length < 60 := by
      unfold usE at h0
      by_cases k4 : e.k = 4
      · exact Or.inl k4
      · right
        split at h0
        · omega
        split at h0
        · omega
        split at h0 <;> omega
    by_cases k4 : e.k = 4
    · simp only [usR, usU, usA, h0, ne_eq, not_true_eq_false, if_false, k4, if_true]
      exact ⟨Well.nil (ok_st h.ok (s := 2) (by decide)), trivial, by simp, fun h => h.elim⟩
    · simp only [usR, usU, usA, h0, ne_eq, not_true_eq_false, if_false, k4]
      exact ⟨⟨ok_nx h.ok, by simp; omega⟩, trivial, by split <;> simp, fun h => h.elim⟩
theorem well_fr {r : R18} (h : r.ok) (es : List Ev) : Well (frT r es).1 (frT r es).2.1 :=
  Well.nil ⟨h.nx, h.wa, h.ti, ⟨by have := h.ti; show 0 ≤ r.ti; omega, h.ti.2⟩, fun _ => h.ti.1⟩
theorem well_ack {r : R18} {us : List U} (h : Well r us) (u : U) : Well (ackR r us u) (ackU r us u) ∧ (ackR r us u).ow = r.ow ∧ (ackA r us [] u).length ≤ 100 := by
  unfold ackR ackU ackA
  by_cases hl : (us.length : Int) < ackN r us u
  · simp only [hl, if_true]; exact ⟨h, trivial, by simp⟩
  · simp only [hl, if_false]
    have hg := h.drop (ackN r us u).toNat
    have h60 := h.k60
    by_cases k7 : u.k = 7
    · simp only [k7, if_true]
      exact ⟨⟨ok_st h.ok (s := 0) (by decide), hg.k60⟩, trivial, by simp; omega⟩
    · simp only [k7, if_false]
      exact ⟨hg, trivial, by simp⟩
theorem well_un {r : R18} {us : List U} (h : Well r us) (u : U) : Well (unT r us [] u).1 (unT r us [] u).2.1 ∧ (unT r us [] u).1.ow = r.ow ∧ (unT r us [] u).2.2.length ≤ 100 := by
  unfold unT
  split
  · exact ⟨h, rfl, by simp⟩
  split
  · split
    · exact ⟨h, rfl, by simp⟩
    · refine ⟨⟨ok_wa h.ok, h.k60⟩, rfl, ?_⟩
      dsimp only
      split <;> simp
  split
  · exact well_ack h u
  split
  · exact ⟨well_fr h.ok _, rfl, by simp [frT]⟩
  split
  · exact ⟨h, rfl, by simp⟩
  split
  · exact ⟨well_fr h.ok _, rfl, by simp [frT]⟩
  · exact ⟨h, rfl, by simp⟩
theorem well_rst {r : R18} (h : r.ok) : (rstR r).ok ∧ (rstR r).ow = r.ow ∧ (rstR r).nx = r.nx := by
  unfold rstR
  split
  · exact ⟨ok_st h (s := 1) (by decide), rfl, rfl⟩
  · exact ⟨h, rfl, rfl⟩
theorem well_tk {r : R18} (h : r.ok) : (tkR r).ok ∧ (tkR r).ow = r.ow ∧ (tkR r).nx = r.nx := by
  have h2 := h.le
  unfold tkR
  split
  · rename_i s3
    have h1 := h.st s3
    split
    · exact ⟨⟨h.nx, h.wa, h.ti, by dsimp only; omega, fun e => absurd (show (4 : Int) = 3 from e) (by decide)⟩, rfl, rfl⟩
    · exact ⟨⟨h.nx, h.wa, h.ti, by dsimp only; omega, fun _ => by dsimp only; omega⟩, rfl, rfl⟩
  · exact ⟨h, rfl, rfl⟩
theorem well_on {r : R18} {us : List U} (h : Well r us) (e : Ev) : Well (onT r us e).2.1 (onT r us e).2.2.1 ∧ (onT r us e).2.1.ow = r.ow ∧ (onT r us e).2.2.2.length ≤ 100 ∧ ((onT r us e).1 ≠ 0 → (onT r us e).2.2.2 = []) := by
  unfold onT
  split
  · exact well_us h e
  split
  · dsimp only
    split
    · obtain ⟨a, b, c⟩ := well_un h (rdT e.d).1
      exact ⟨a, b, c, fun h => absurd rfl h⟩
    · exact ⟨h, rfl, by simp, fun h => absurd rfl h⟩
  split
  · refine ⟨⟨(well_rst h.ok).1, h.k60⟩, (well_rst h.ok).2.1, ?_, fun h => absurd rfl h⟩
    dsimp only; unfold rstE; split
    · simp
    split <;> simp
  split
  · exact ⟨⟨(well_tk h.ok).1, h.k60⟩, (well_tk h.ok).2.1, by simp, fun h => absurd rfl h⟩
  · exact ⟨h, rfl, by simp, fun _ => rfl⟩
/-! ### On, with one end for all -/
structure outWu (t : T18) (c : (Nat × Nat) × Nat × Nat) : Prop where
  k : t.2.1.length ≤ c.1.1
  a : t.2.2.length ≤ c.1.2
def outWr (err : Int) (t : T18) (c : (Nat × Nat) × Nat × Nat) : SV := .tup [.sl 5 0 6 t.2.2.length c.1.2, .g (.int .i64 err)]
def outWh (t : T18) (c : (Nat × Nat) × Nat × Nat) : Heap := [(0, .cells (t.1.cells (.sl 3 0 10 t.2.1.length c.1.1) (.sl 4 0 6 c.2.1 c.2.2)) 55), (3, .view 10 t.2.1.length c.1.1 (urow t.2.1) 60), (5, .view 6 t.2.2.length c.1.2 (erow t.2.2) 31)]
def C_OnU : Ctr := ⟨3, O18 × Ev, fun x => [.ptr 0 0 0 0, .agg x.2.cells], fun x => x.1.H, fun x => x.1.ok ∧ x.1.r.ow ≠ 0, fun x =>
  [.any ((Int × T18) × (Nat × Nat) × Nat × Nat) (fun c => c.1 = onT x.1.r x.1.us x.2 ∧ outWu c.1.2 c.2) (fun c => outWr c.1.1 c.1.2 c.2) (fun c => outWh c.1.2 c.2)]⟩
def cx_OnU (_ : O18 × Ev) : Cx := ⟨ty, ΓOf Γm, fun _ => [], fun _ _ => [], 99, 3⟩
def Roq0 (x : O18 × Ev) := (List.map (fun (j : Nat) => uRow (urow (O18.us (Prod.fst x)) j)) (List.range (List.length (O18.us (Prod.fst x)))))
def Roq1 (y : (Int × T18) × (Nat × Nat) × Nat × Nat) := (Prod.fst (Prod.snd (Prod.snd (Prod.fst y))))
def Roq2 (x : O18 × Ev) := (unT (O18.r (Prod.fst x)) (Roq0 x) [] (Prod.fst (rdT (Ev.d (Prod.snd x)))))
def Roq3 (y_1 : (Int × T18) × (Nat × Nat) × Nat × Nat) := (Prod.fst (Prod.snd (Prod.snd (Prod.fst y_1))))
def Roq4 (y_1 : (Int × T18) × (Nat × Nat) × Nat × Nat) := (Prod.snd (Prod.snd (Prod.snd (Prod.fst y_1))))
def Roq5 (x : O18 × Ev) := (usR (O18.r (Prod.fst x)) (Roq0 x) (Prod.snd x))
def Roq6 (y : (Int × T18) × (Nat × Nat) × Nat × Nat) (x : O18 × Ev) := (Prod.fst y = onT (O18.r (Prod.fst x)) (O18.us (Prod.fst x)) (Prod.snd x) ∧ outWu (Prod.snd (Prod.fst y)) (Prod.snd y))
set_option maxRecDepth 100000 in
def VcOnU : Prop := ∀ (x : O18 × Ev), O18.ok (Prod.fst x) ∧ R18.ow (O18.r (Prod.fst x)) ≠ (0 : Int) → (0 : Nat) = (0 : Nat) ∧ R18.nx (O18.r (Prod.fst x)) = R18.nx (O18.r (Prod.fst x)) ∧ R18.wa (O18.r (Prod.fst x)) = R18.wa (O18.r (Prod.fst
  x)) ∧ R18.ow (O18.r (Prod.fst x)) = R18.ow (O18.r (Prod.fst x)) ∧ R18.ot (O18.r (Prod.fst x)) = R18.ot (O18.r (Prod.fst x)) ∧ R18.ti (O18.r (Prod.fst x)) = R18.ti (O18.r (Prod.fst x)) ∧ R18.st (O18.r (Prod.fst x)) =
  R18.st (O18.r (Prod.fst x)) ∧ R18.le (O18.r (Prod.fst x)) = R18.le (O18.r (Prod.fst x)) ∧ (0 : Nat) = (0 : Nat) ∧ List.length (O18.us (Prod.fst x)) = List.length (O18.us (Prod.fst x)) ∧ O18.ck (Prod.fst x) = O18.ck
  (Prod.fst x) ∧ (0 : Nat) = (0 : Nat) ∧ O18.n (Prod.fst x) = O18.n (Prod.fst x) ∧ O18.ca (Prod.fst x) = O18.ca (Prod.fst x) ∧ True ∧ (True → condX (decide (R18.ow (O18.r (Prod.fst x)) = (0 : Int))) ((∃ (y : (Int × T18) ×
  (Nat × Nat) × Nat × Nat), (Roq6 y x) ∧ List.length (Prod.snd (Prod.snd (Prod.snd (Prod.fst y)))) = (0 : Nat) ∧ Prod.snd (Prod.fst (Prod.snd y)) = (0 : Nat) ∧ (1 : Int) = Prod.fst (Prod.fst y) ∧ R18.nx (O18.r (Prod.fst
  x)) = R18.nx (Prod.fst (Prod.snd (Prod.fst y))) ∧ R18.wa (O18.r (Prod.fst x)) = R18.wa (Prod.fst (Prod.snd (Prod.fst y))) ∧ R18.ow (O18.r (Prod.fst x)) = R18.ow (Prod.fst (Prod.snd (Prod.fst y))) ∧ R18.ot (O18.r
  (Prod.fst x)) = R18.ot (Prod.fst (Prod.snd (Prod.fst y))) ∧ R18.ti (O18.r (Prod.fst x)) = R18.ti (Prod.fst (Prod.snd (Prod.fst y))) ∧ R18.st (O18.r (Prod.fst x)) = R18.st (Prod.fst (Prod.snd (Prod.fst y))) ∧ R18.le
  (O18.r (Prod.fst x)) = R18.le (Prod.fst (Prod.snd (Prod.fst y))) ∧ (0 : Nat) = (0 : Nat) ∧ List.length (O18.us (Prod.fst x)) = List.length (Roq1 y) ∧ O18.ck (Prod.fst x) = Prod.fst (Prod.fst (Prod.snd y)) ∧ (0 : Nat) =
  (0 : Nat) ∧ O18.n (Prod.fst x) = Prod.fst (Prod.snd (Prod.snd y)) ∧ O18.ca (Prod.fst x) = Prod.snd (Prod.snd (Prod.snd y)) ∧ List.length (Roq1 y) ≤ List.length (O18.us (Prod.fst x)) ∧ List.length (Roq1 y) ≤ Prod.fst
  (Prod.fst (Prod.snd y)) ∧ Prod.fst (Prod.fst (Prod.snd y)) ≤ O18.ck (Prod.fst x) ∧ (∀ (j : Nat), j < List.length (Roq1 y) → urow (O18.us (Prod.fst x)) j = urow (Roq1 y) j ∧ true = true) ∧ List.length (Prod.snd (Prod.snd
  (Prod.snd (Prod.fst y)))) = (0 : Nat) ∧ True) ∨ False) (condX (Ev.w (Prod.snd x) == (0 : Int)) ((0 : Nat) = (0 : Nat) ∧ Ev.w (Prod.snd x) = Ev.w (Prod.snd x) ∧ Ev.k (Prod.snd x) = Ev.k (Prod.snd x) ∧ Ev.a (Prod.snd x) =
  Ev.a (Prod.snd x) ∧ Ev.b (Prod.snd x) = Ev.b (Prod.snd x) ∧ Ev.c (Prod.snd x) = Ev.c (Prod.snd x) ∧ Ev.d (Prod.snd x) = Ev.d (Prod.snd x) ∧ R18.nx (O18.r (Prod.fst x)) = R18.nx (O18.r (Prod.fst x)) ∧ R18.wa (O18.r
  (Prod.fst x)) = R18.wa (O18.r (Prod.fst x)) ∧ R18.ow (O18.r (Prod.fst x)) = R18.ow (O18.r (Prod.fst x)) ∧ R18.ot (O18.r (Prod.fst x)) = R18.ot (O18.r (Prod.fst x)) ∧ R18.ti (O18.r (Prod.fst x)) = R18.ti (O18.r (Prod.fst
  x)) ∧ R18.st (O18.r (Prod.fst x)) = R18.st (O18.r (Prod.fst x)) ∧ R18.le (O18.r (Prod.fst x)) = R18.le (O18.r (Prod.fst x)) ∧ (0 : Nat) = (0 : Nat) ∧ List.length (O18.us (Prod.fst x)) = List.length (Roq0 x) ∧ O18.ck
  (Prod.fst x) = O18.ck (Prod.fst x) ∧ (0 : Nat) = (0 : Nat) ∧ (0 : Nat) = (0 : Nat) ∧ List.length (Roq0 x) ≤ List.length (O18.us (Prod.fst x)) ∧ List.length (Roq0 x) ≤ O18.ck (Prod.fst x) ∧ O18.ck (Prod.fst x) ≤ O18.ck
  (Prod.fst x) ∧ (∀ (j : Nat), j < List.length (Roq0 x) → urow (O18.us (Prod.fst x)) j = urow (Roq0 x) j ∧ true = true) ∧ (0 : Nat) = (0 : Nat) ∧ S18.ok (S18.mk (O18.r (Prod.fst x)) (Roq0 x) (O18.ck (Prod.fst x)) [] (0 :
  Nat)) ∧ ∀ (yᵥ1 : Nat × Nat), outC (usU (O18.r (Prod.fst x)) (Roq0 x) (Prod.snd x)) (usA (O18.r (Prod.fst x)) (Roq0 x) [] (Prod.snd x)) yᵥ1 → condX (usE (O18.r (Prod.fst x)) (Roq0 x) (Prod.snd x) != (0 : Int)) ((∃ (y_1 :
  (Int × T18) × (Nat × Nat) × Nat × Nat), (Prod.fst y_1 = onT (O18.r (Prod.fst x)) (O18.us (Prod.fst x)) (Prod.snd x) ∧ outWu (Prod.snd (Prod.fst y_1)) (Prod.snd y_1)) ∧ List.length (Roq4 y_1) = (0 : Nat) ∧ Prod.snd
  (Prod.fst (Prod.snd y_1)) = (0 : Nat) ∧ usE (O18.r (Prod.fst x)) (Roq0 x) (Prod.snd x) = Prod.fst (Prod.fst y_1) ∧ R18.nx (Roq5 x) = R18.nx (Prod.fst (Prod.snd (Prod.fst y_1))) ∧ R18.wa (Roq5 x) = R18.wa (Prod.fst
  (Prod.snd (Prod.fst y_1))) ∧ R18.ow (Roq5 x) = R18.ow (Prod.fst (Prod.snd (Prod.fst y_1))) ∧ R18.ot (Roq5 x) = R18.ot (Prod.fst (Prod.snd (Prod.fst y_1))) ∧ R18.ti (Roq5 x) = R18.ti (Prod.fst (Prod.snd (Prod.fst y_1))) ∧
  R18.st (Roq5 x) = R18.st (Prod.fst (Prod.snd (Prod.fst y_1))) ∧ R18.le (Roq5 x) = R18.le (Prod.fst (Prod.snd (Prod.fst y_1))) ∧ (0 : Nat) = (0 : Nat) ∧ List.length (usU (O18.r (Prod.fst x)) (Roq0 x) (Prod.snd x)) =
  List.length (Roq3 y_1) ∧ Prod.fst yᵥ1 = Prod.fst (Prod.fst (Prod.snd y_1)) ∧ (0 : Nat) = (0 : Nat) ∧ List.length (usA (O18.r (Prod.fst x)) (Roq0 x) [] (Prod.snd x)) = Prod.fst (Prod.snd (Prod.snd y_1)) ∧ Prod.snd yᵥ1 =
  Prod.snd (Prod.snd (Prod.snd y_1)) ∧ List.length (Roq3 y_1) ≤ List.length (usU (O18.r (Prod.fst x)) (Roq0 x) (Prod.snd x)) ∧ List.length (Roq3 y_1) ≤ Prod.fst (Prod.fst (Prod.snd y_1)) ∧ Prod.fst (Prod.fst (Prod.snd
  y_1)) ≤ Prod.fst yᵥ1 ∧ (∀ (j : Nat), j < List.length (Roq3 y_1) → urow (usU (O18.r (Prod.fst x)) (Roq0 x) (Prod.snd x)) j = urow (Roq3 y_1) j ∧ true = true) ∧ List.length (Roq4 y_1) = (0 : Nat) ∧ True) ∨ False) ((∃ (y_1
  : (Int × T18) × (Nat × Nat) × Nat × Nat), (Prod.fst y_1 = onT (O18.r (Prod.fst x)) (O18.us (Prod.fst x)) (Prod.snd x) ∧ outWu (Prod.snd (Prod.fst y_1)) (Prod.snd y_1)) ∧ (0 : Nat) = (0 : Nat) ∧ List.length (usA (O18.r
  (Prod.fst x)) (Roq0 x) [] (Prod.snd x)) = List.length (Roq4 y_1) ∧ Prod.snd yᵥ1 = Prod.snd (Prod.fst (Prod.snd y_1)) ∧ (0 : Int) = Prod.fst (Prod.fst y_1) ∧ R18.nx (Roq5 x) = R18.nx (Prod.fst (Prod.snd (Prod.fst y_1))) ∧
  R18.wa (Roq5 x) = R18.wa (Prod.fst (Prod.snd (Prod.fst y_1))) ∧ R18.ow (Roq5 x) = R18.ow (Prod.fst (Prod.snd (Prod.fst y_1))) ∧ R18.ot (Roq5 x) = R18.ot (Prod.fst (Prod.snd (Prod.fst y_1))) ∧ R18.ti (Roq5 x) = R18.ti
  (Prod.fst (Prod.snd (Prod.fst y_1))) ∧ R18.st (Roq5 x) = R18.st (Prod.fst (Prod.snd (Prod.fst y_1))) ∧ R18.le (Roq5 x) = R18.le (Prod.fst (Prod.snd (Prod.fst y_1))) ∧ (0 : Nat) = (0 : Nat) ∧ List.length (usU (O18.r
  (Prod.fst x)) (Roq0 x) (Prod.snd x)) = List.length (Roq3 y_1) ∧ Prod.fst yᵥ1 = Prod.fst (Prod.fst (Prod.snd y_1)) ∧ (0 : Nat) = (0 : Nat) ∧ List.length (usA (O18.r (Prod.fst x)) (Roq0 x) [] (Prod.snd x)) = Prod.fst
  (Prod.snd (Prod.snd y_1)) ∧ Prod.snd yᵥ1 = Prod.snd (Prod.snd (Prod.snd y_1)) ∧ List.length (Roq3 y_1) ≤ List.length (usU (O18.r (Prod.fst x)) (Roq0 x) (Prod.snd x)) ∧ List.length (Roq3 y_1) ≤ Prod.fst (Prod.fst
  (Prod.snd y_1)) ∧ Prod.fst (Prod.fst (Prod.snd y_1)) ≤ Prod.fst yᵥ1 ∧ (∀ (j : Nat), j < List.length (Roq3 y_1) → urow (usU (O18.r (Prod.fst x)) (Roq0 x) (Prod.snd x)) j = urow (Roq3 y_1) j ∧ true = true) ∧ List.length
  (Roq4 y_1) ≤ List.length (usA (O18.r (Prod.fst x)) (Roq0 x) [] (Prod.snd x)) ∧ List.length (Roq4 y_1) ≤ Prod.snd (Prod.fst (Prod.snd y_1)) ∧ Prod.snd (Prod.fst (Prod.snd y_1)) ≤ Prod.snd yᵥ1 ∧ (∀ (j : Nat), j <
  List.length (Roq4 y_1) → erow (usA (O18.r (Prod.fst x)) (Roq0 x) [] (Prod.snd x)) j = erow (Roq4 y_1) j ∧ true = true) ∧ True) ∨ False)) (condX (bif Ev.w (Prod.snd x) == (1 : Int) then Ev.k (Prod.snd x) == (0 : Int) else
  false) ([SV.g (Value.string (Ev.d (Prod.snd x)))] = [SV.g (Value.string (Ev.d (Prod.snd x)))] ∧ True ∧ condX (bif Prod.snd (Prod.snd (rdT (Ev.d (Prod.snd x)))) == (0 : Int) then U.to (Prod.fst (rdT (Ev.d (Prod.snd x))))
  == R18.ow (O18.r (Prod.fst x)) else false) ((0 : Nat) = (0 : Nat) ∧ U.k (Prod.fst (rdT (Ev.d (Prod.snd x)))) = U.k (Prod.fst (rdT (Ev.d (Prod.snd x)))) ∧ U.to (Prod.fst (rdT (Ev.d (Prod.snd x)))) = U.to (Prod.fst (rdT
  (Ev.d (Prod.snd x)))) ∧ U.fr (Prod.fst (rdT (Ev.d (Prod.snd x)))) = U.fr (Prod.fst (rdT (Ev.d (Prod.snd x)))) ∧ U.cl (Prod.fst (rdT (Ev.d (Prod.snd x)))) = U.cl (Prod.fst (rdT (Ev.d (Prod.snd x)))) ∧ U.sz (Prod.fst (rdT
  (Ev.d (Prod.snd x)))) = U.sz (Prod.fst (rdT (Ev.d (Prod.snd x)))) ∧ U.nu (Prod.fst (rdT (Ev.d (Prod.snd x)))) = U.nu (Prod.fst (rdT (Ev.d (Prod.snd x)))) ∧ U.cr (Prod.fst (rdT (Ev.d (Prod.snd x)))) = U.cr (Prod.fst (rdT
  (Ev.d (Prod.snd x)))) ∧ U.re (Prod.fst (rdT (Ev.d (Prod.snd x)))) = U.re (Prod.fst (rdT (Ev.d (Prod.snd x)))) ∧ U.e (Prod.fst (rdT (Ev.d (Prod.snd x)))) = U.e (Prod.fst (rdT (Ev.d (Prod.snd x)))) ∧ U.d (Prod.fst (rdT
  (Ev.d (Prod.snd x)))) = U.d (Prod.fst (rdT (Ev.d (Prod.snd x)))) ∧ R18.nx (O18.r (Prod.fst x)) = R18.nx (O18.r (Prod.fst x)) ∧ R18.wa (O18.r (Prod.fst x)) = R18.wa (O18.r (Prod.fst x)) ∧ R18.ow (O18.r (Prod.fst x)) =
  R18.ow (O18.r (Prod.fst x)) ∧ R18.ot (O18.r (Prod.fst x)) = R18.ot (O18.r (Prod.fst x)) ∧ R18.ti (O18.r (Prod.fst x)) = R18.ti (O18.r (Prod.fst x)) ∧ R18.st (O18.r (Prod.fst x)) = R18.st (O18.r (Prod.fst x)) ∧ R18.le
  (O18.r (Prod.fst x)) = R18.le (O18.r (Prod.fst x)) ∧ (0 : Nat) = (0 : Nat) ∧ List.length (O18.us (Prod.fst x)) = List.length (Roq0 x) ∧ O18.ck (Prod.fst x) = O18.ck (Prod.fst x) ∧ (0 : Nat) = (0 : Nat) ∧ (0 : Nat) = (0 :
  Nat) ∧ List.length (Roq0 x) ≤ List.length (O18.us (Prod.fst x)) ∧ List.length (Roq0 x) ≤ O18.ck (Prod.fst x) ∧ O18.ck (Prod.fst x) ≤ O18.ck (Prod.fst x) ∧ (∀ (j : Nat), j < List.length (Roq0 x) → urow (O18.us (Prod.fst
  x)) j = urow (Roq0 x) j ∧ true = true) ∧ (0 : Nat) = (0 : Nat) ∧ (S18.ok (S18.mk (O18.r (Prod.fst x)) (Roq0 x) (O18.ck (Prod.fst x)) [] (0 : Nat)) ∧ (0 : Nat) ≤ (100 : Nat) ∧ (0 : Int) ≤ U.nu (Prod.fst (rdT (Ev.d
  (Prod.snd x))))) ∧ ∀ (yᵥ1 : Nat × Nat), outC (Prod.fst (Prod.snd (Roq2 x))) (Prod.snd (Prod.snd (Roq2 x))) yᵥ1 → (∃ (y_1 : (Int × T18) × (Nat × Nat) × Nat × Nat), (Prod.fst y_1 = onT (O18.r (Prod.fst x)) (O18.us
  (Prod.fst x)) (Prod.snd x) ∧ outWu (Prod.snd (Prod.fst y_1)) (Prod.snd y_1)) ∧ (0 : Nat) = (0 : Nat) ∧ List.length (Prod.snd (Prod.snd (Roq2 x))) = List.length (Roq4 y_1) ∧ Prod.snd yᵥ1 = Prod.snd (Prod.fst (Prod.snd
  y_1)) ∧ (0 : Int) = Prod.fst (Prod.fst y_1) ∧ R18.nx (Prod.fst (Roq2 x)) = R18.nx (Prod.fst (Prod.snd (Prod.fst y_1))) ∧ R18.wa (Prod.fst (Roq2 x)) = R18.wa (Prod.fst (Prod.snd (Prod.fst y_1))) ∧ R18.ow (Prod.fst (Roq2
  x)) = R18.ow (Prod.fst (Prod.snd (Prod.fst y_1))) ∧ R18.ot (Prod.fst (Roq2 x)) = R18.ot (Prod.fst (Prod.snd (Prod.fst y_1))) ∧ R18.ti (Prod.fst (Roq2 x)) = R18.ti (Prod.fst (Prod.snd (Prod.fst y_1))) ∧ R18.st (Prod.fst
  (Roq2 x)) = R18.st (Prod.fst (Prod.snd (Prod.fst y_1))) ∧ R18.le (Prod.fst (Roq2 x)) = R18.le (Prod.fst (Prod.snd (Prod.fst y_1))) ∧ (0 : Nat) = (0 : Nat) ∧ List.length (Prod.fst (Prod.snd (Roq2 x))) = List.length (Roq3
  y_1) ∧ Prod.fst yᵥ1 = Prod.fst (Prod.fst (Prod.snd y_1)) ∧ (0 : Nat) = (0 : Nat) ∧ List.length (Prod.snd (Prod.snd (Roq2 x))) = Prod.fst (Prod.snd (Prod.snd y_1)) ∧ Prod.snd yᵥ1 = Prod.snd (Prod.snd (Prod.snd y_1)) ∧
  List.length (Roq3 y_1) ≤ List.length (Prod.fst (Prod.snd (Roq2 x))) ∧ List.length (Roq3 y_1) ≤ Prod.fst (Prod.fst (Prod.snd y_1)) ∧ Prod.fst (Prod.fst (Prod.snd y_1)) ≤ Prod.fst yᵥ1 ∧ (∀ (j : Nat), j < List.length (Roq3
  y_1) → urow (Prod.fst (Prod.snd (Roq2 x))) j = urow (Roq3 y_1) j ∧ true = true) ∧ List.length (Roq4 y_1) ≤ List.length (Prod.snd (Prod.snd (Roq2 x))) ∧ List.length (Roq4 y_1) ≤ Prod.snd (Prod.fst (Prod.snd y_1)) ∧
  Prod.snd (Prod.fst (Prod.snd y_1)) ≤ Prod.snd yᵥ1 ∧ (∀ (j : Nat), j < List.length (Roq4 y_1) → erow (Prod.snd (Prod.snd (Roq2 x))) j = erow (Roq4 y_1) j ∧ true = true) ∧ True) ∨ False) ((∃ (y : (Int × T18) × (Nat × Nat)
  × Nat × Nat), (Roq6 y x) ∧ List.length (Prod.snd (Prod.snd (Prod.snd (Prod.fst y)))) = (0 : Nat) ∧ Prod.snd (Prod.fst (Prod.snd y)) = (0 : Nat) ∧ (0 : Int) = Prod.fst (Prod.fst y) ∧ R18.nx (O18.r (Prod.fst x)) = R18.nx
  (Prod.fst (Prod.snd (Prod.fst y))) ∧ R18.wa (O18.r (Prod.fst x)) = R18.wa (Prod.fst (Prod.snd (Prod.fst y))) ∧ R18.ow (O18.r (Prod.fst x)) = R18.ow (Prod.fst (Prod.snd (Prod.fst y))) ∧ R18.ot (O18.r (Prod.fst x)) =
  R18.ot (Prod.fst (Prod.snd (Prod.fst y))) ∧ R18.ti (O18.r (Prod.fst x)) = R18.ti (Prod.fst (Prod.snd (Prod.fst y))) ∧ R18.st (O18.r (Prod.fst x)) = R18.st (Prod.fst (Prod.snd (Prod.fst y))) ∧ R18.le (O18.r (Prod.fst x))
  = R18.le (Prod.fst (Prod.snd (Prod.fst y))) ∧ (0 : Nat) = (0 : Nat) ∧ List.length (O18.us (Prod.fst x)) = List.length (Roq1 y) ∧ O18.ck (Prod.fst x) = Prod.fst (Prod.fst (Prod.snd y)) ∧ Prod.fst (Prod.snd (Prod.snd y)) =
  (0 : Nat) ∧ Prod.snd (Prod.snd (Prod.snd y)) = (0 : Nat) ∧ List.length (Roq1 y) ≤ List.length (O18.us (Prod.fst x)) ∧ List.length (Roq1 y) ≤ Prod.fst (Prod.fst (Prod.snd y)) ∧ Prod.fst (Prod.fst (Prod.snd y)) ≤ O18.ck
  (Prod.fst x) ∧ (∀ (j : Nat), j < List.length (Roq1 y) → urow (O18.us (Prod.fst x)) j = urow (Roq1 y) j ∧ true = true) ∧ List.length (Prod.snd (Prod.snd (Prod.snd (Prod.fst y)))) = (0 : Nat) ∧ True) ∨ False)) (condX (bif
  Ev.w (Prod.snd x) == (1 : Int) then Ev.k (Prod.snd x) == (1 : Int) else false) ((0 : Nat) = (0 : Nat) ∧ R18.nx (O18.r (Prod.fst x)) = R18.nx (O18.r (Prod.fst x)) ∧ R18.wa (O18.r (Prod.fst x)) = R18.wa (O18.r (Prod.fst
  x)) ∧ R18.ow (O18.r (Prod.fst x)) = R18.ow (O18.r (Prod.fst x)) ∧ R18.ot (O18.r (Prod.fst x)) = R18.ot (O18.r (Prod.fst x)) ∧ R18.ti (O18.r (Prod.fst x)) = R18.ti (O18.r (Prod.fst x)) ∧ R18.st (O18.r (Prod.fst x)) =
  R18.st (O18.r (Prod.fst x)) ∧ R18.le (O18.r (Prod.fst x)) = R18.le (O18.r (Prod.fst x)) ∧ (0 : Nat) = (0 : Nat) ∧ List.length (O18.us (Prod.fst x)) = List.length (Roq0 x) ∧ O18.ck (Prod.fst x) = O18.ck (Prod.fst x) ∧ (0
  : Nat) = (0 : Nat) ∧ (0 : Nat) = (0 : Nat) ∧ List.length (Roq0 x) ≤ List.length (O18.us (Prod.fst x)) ∧ List.length (Roq0 x) ≤ O18.ck (Prod.fst x) ∧ O18.ck (Prod.fst x) ≤ O18.ck (Prod.fst x) ∧ (∀ (j : Nat), j <
  List.length (Roq0 x) → urow (O18.us (Prod.fst x)) j = urow (Roq0 x) j ∧ true = true) ∧ (0 : Nat) = (0 : Nat) ∧ S18.ok (S18.mk (O18.r (Prod.fst x)) (Roq0 x) (O18.ck (Prod.fst x)) [] (0 : Nat)) ∧ ∀ (yᵥ1 : Nat × Nat), outC
  (Roq0 x) (rstE (O18.r (Prod.fst x)) []) yᵥ1 → (∃ (y_1 : (Int × T18) × (Nat × Nat) × Nat × Nat), (Prod.fst y_1 = onT (O18.r (Prod.fst x)) (O18.us (Prod.fst x)) (Prod.snd x) ∧ outWu (Prod.snd (Prod.fst y_1)) (Prod.snd
  y_1)) ∧ (0 : Nat) = (0 : Nat) ∧ List.length (rstE (O18.r (Prod.fst x)) []) = List.length (Roq4 y_1) ∧ Prod.snd yᵥ1 = Prod.snd (Prod.fst (Prod.snd y_1)) ∧ (0 : Int) = Prod.fst (Prod.fst y_1) ∧ R18.nx (rstR (O18.r
  (Prod.fst x))) = R18.nx (Prod.fst (Prod.snd (Prod.fst y_1))) ∧ R18.wa (rstR (O18.r (Prod.fst x))) = R18.wa (Prod.fst (Prod.snd (Prod.fst y_1))) ∧ R18.ow (rstR (O18.r (Prod.fst x))) = R18.ow (Prod.fst (Prod.snd (Prod.fst
  y_1))) ∧ R18.ot (rstR (O18.r (Prod.fst x))) = R18.ot (Prod.fst (Prod.snd (Prod.fst y_1))) ∧ R18.ti (rstR (O18.r (Prod.fst x))) = R18.ti (Prod.fst (Prod.snd (Prod.fst y_1))) ∧ R18.st (rstR (O18.r (Prod.fst x))) = R18.st
  (Prod.fst (Prod.snd (Prod.fst y_1))) ∧ R18.le (rstR (O18.r (Prod.fst x))) = R18.le (Prod.fst (Prod.snd (Prod.fst y_1))) ∧ (0 : Nat) = (0 : Nat) ∧ List.length (Roq0 x) = List.length (Roq3 y_1) ∧ Prod.fst yᵥ1 = Prod.fst
  (Prod.fst (Prod.snd y_1)) ∧ (0 : Nat) = (0 : Nat) ∧ List.length (rstE (O18.r (Prod.fst x)) []) = Prod.fst (Prod.snd (Prod.snd y_1)) ∧ Prod.snd yᵥ1 = Prod.snd (Prod.snd (Prod.snd y_1)) ∧ List.length (Roq3 y_1) ≤
  List.length (Roq0 x) ∧ List.length (Roq3 y_1) ≤ Prod.fst (Prod.fst (Prod.snd y_1)) ∧ Prod.fst (Prod.fst (Prod.snd y_1)) ≤ Prod.fst yᵥ1 ∧ (∀ (j : Nat), j < List.length (Roq3 y_1) → urow (Roq0 x) j = urow (Roq3 y_1) j ∧
  true = true) ∧ List.length (Roq4 y_1) ≤ List.length (rstE (O18.r (Prod.fst x)) []) ∧ List.length (Roq4 y_1) ≤ Prod.snd (Prod.fst (Prod.snd y_1)) ∧ Prod.snd (Prod.fst (Prod.snd y_1)) ≤ Prod.snd yᵥ1 ∧ (∀ (j : Nat), j <
  List.length (Roq4 y_1) → erow (rstE (O18.r (Prod.fst x)) []) j = erow (Roq4 y_1) j ∧ true = true) ∧ True) ∨ False) (condX (bif Ev.w (Prod.snd x) == (2 : Int) then Ev.k (Prod.snd x) == (0 : Int) else false) (condX (R18.st
  (O18.r (Prod.fst x)) == (3 : Int)) (condX (IntKind.wrap IntKind.i64 (R18.le (O18.r (Prod.fst x)) - (1 : Int)) == (0 : Int)) ((∃ (y : (Int × T18) × (Nat × Nat) × Nat × Nat), (Roq6 y x) ∧ List.length (Prod.snd (Prod.snd
  (Prod.snd (Prod.fst y)))) = (0 : Nat) ∧ Prod.snd (Prod.fst (Prod.snd y)) = (0 : Nat) ∧ (0 : Int) = Prod.fst (Prod.fst y) ∧ R18.nx (O18.r (Prod.fst x)) = R18.nx (Prod.fst (Prod.snd (Prod.fst y))) ∧ R18.wa (O18.r (Prod.fst
  x)) = R18.wa (Prod.fst (Prod.snd (Prod.fst y))) ∧ R18.ow (O18.r (Prod.fst x)) = R18.ow (Prod.fst (Prod.snd (Prod.fst y))) ∧ R18.ot (O18.r (Prod.fst x)) = R18.ot (Prod.fst (Prod.snd (Prod.fst y))) ∧ R18.ti (O18.r
  (Prod.fst x)) = R18.ti (Prod.fst (Prod.snd (Prod.fst y))) ∧ (4 : Int) = R18.st (Prod.fst (Prod.snd (Prod.fst y))) ∧ IntKind.wrap IntKind.i64 (R18.le (O18.r (Prod.fst x)) - (1 : Int)) = R18.le (Prod.fst (Prod.snd
  (Prod.fst y))) ∧ (0 : Nat) = (0 : Nat) ∧ List.length (O18.us (Prod.fst x)) = List.length (Roq1 y) ∧ O18.ck (Prod.fst x) = Prod.fst (Prod.fst (Prod.snd y)) ∧ Prod.fst (Prod.snd (Prod.snd y)) = (0 : Nat) ∧ Prod.snd
  (Prod.snd (Prod.snd y)) = (0 : Nat) ∧ List.length (Roq1 y) ≤ List.length (O18.us (Prod.fst x)) ∧ List.length (Roq1 y) ≤ Prod.fst (Prod.fst (Prod.snd y)) ∧ Prod.fst (Prod.fst (Prod.snd y)) ≤ O18.ck (Prod.fst x) ∧ (∀ (j :
  Nat), j < List.length (Roq1 y) → urow (O18.us (Prod.fst x)) j = urow (Roq1 y) j ∧ true = true) ∧ List.length (Prod.snd (Prod.snd (Prod.snd (Prod.fst y)))) = (0 : Nat) ∧ True) ∨ False) ((∃ (y : (Int × T18) × (Nat × Nat) ×
  Nat × Nat), (Roq6 y x) ∧ List.length (Prod.snd (Prod.snd (Prod.snd (Prod.fst y)))) = (0 : Nat) ∧ Prod.snd (Prod.fst (Prod.snd y)) = (0 : Nat) ∧ (0 : Int) = Prod.fst (Prod.fst y) ∧ R18.nx (O18.r (Prod.fst x)) = R18.nx
  (Prod.fst (Prod.snd (Prod.fst y))) ∧ R18.wa (O18.r (Prod.fst x)) = R18.wa (Prod.fst (Prod.snd (Prod.fst y))) ∧ R18.ow (O18.r (Prod.fst x)) = R18.ow (Prod.fst (Prod.snd (Prod.fst y))) ∧ R18.ot (O18.r (Prod.fst x)) =
  R18.ot (Prod.fst (Prod.snd (Prod.fst y))) ∧ R18.ti (O18.r (Prod.fst x)) = R18.ti (Prod.fst (Prod.snd (Prod.fst y))) ∧ R18.st (O18.r (Prod.fst x)) = R18.st (Prod.fst (Prod.snd (Prod.fst y))) ∧ IntKind.wrap IntKind.i64
  (R18.le (O18.r (Prod.fst x)) - (1 : Int)) = R18.le (Prod.fst (Prod.snd (Prod.fst y))) ∧ (0 : Nat) = (0 : Nat) ∧ List.length (O18.us (Prod.fst x)) = List.length (Roq1 y) ∧ O18.ck (Prod.fst x) = Prod.fst (Prod.fst
  (Prod.snd y)) ∧ Prod.fst (Prod.snd (Prod.snd y)) = (0 : Nat) ∧ Prod.snd (Prod.snd (Prod.snd y)) = (0 : Nat) ∧ List.length (Roq1 y) ≤ List.length (O18.us (Prod.fst x)) ∧ List.length (Roq1 y) ≤ Prod.fst (Prod.fst (Prod.snd
  y)) ∧ Prod.fst (Prod.fst (Prod.snd y)) ≤ O18.ck (Prod.fst x) ∧ (∀ (j : Nat), j < List.length (Roq1 y) → urow (O18.us (Prod.fst x)) j = urow (Roq1 y) j ∧ true = true) ∧ List.length (Prod.snd (Prod.snd (Prod.snd (Prod.fst
  y)))) = (0 : Nat) ∧ True) ∨ False)) ((∃ (y : (Int × T18) × (Nat × Nat) × Nat × Nat), (Roq6 y x) ∧ List.length (Prod.snd (Prod.snd (Prod.snd (Prod.fst y)))) = (0 : Nat) ∧ Prod.snd (Prod.fst (Prod.snd y)) = (0 : Nat) ∧ (0
  : Int) = Prod.fst (Prod.fst y) ∧ R18.nx (O18.r (Prod.fst x)) = R18.nx (Prod.fst (Prod.snd (Prod.fst y))) ∧ R18.wa (O18.r (Prod.fst x)) = R18.wa (Prod.fst (Prod.snd (Prod.fst y))) ∧ R18.ow (O18.r (Prod.fst x)) = R18.ow
  (Prod.fst (Prod.snd (Prod.fst y))) ∧ R18.ot (O18.r (Prod.fst x)) = R18.ot (Prod.fst (Prod.snd (Prod.fst y))) ∧ R18.ti (O18.r (Prod.fst x)) = R18.ti (Prod.fst (Prod.snd (Prod.fst y))) ∧ R18.st (O18.r (Prod.fst x)) =
  R18.st (Prod.fst (Prod.snd (Prod.fst y))) ∧ R18.le (O18.r (Prod.fst x)) = R18.le (Prod.fst (Prod.snd (Prod.fst y))) ∧ (0 : Nat) = (0 : Nat) ∧ List.length (O18.us (Prod.fst x)) = List.length (Roq1 y) ∧ O18.ck (Prod.fst x)
  = Prod.fst (Prod.fst (Prod.snd y)) ∧ Prod.fst (Prod.snd (Prod.snd y)) = (0 : Nat) ∧ Prod.snd (Prod.snd (Prod.snd y)) = (0 : Nat) ∧ List.length (Roq1 y) ≤ List.length (O18.us (Prod.fst x)) ∧ List.length (Roq1 y) ≤
  Prod.fst (Prod.fst (Prod.snd y)) ∧ Prod.fst (Prod.fst (Prod.snd y)) ≤ O18.ck (Prod.fst x) ∧ (∀ (j : Nat), j < List.length (Roq1 y) → urow (O18.us (Prod.fst x)) j = urow (Roq1 y) j ∧ true = true) ∧ List.length (Prod.snd
  (Prod.snd (Prod.snd (Prod.fst y)))) = (0 : Nat) ∧ True) ∨ False)) ((∃ (y : (Int × T18) × (Nat × Nat) × Nat × Nat), (Roq6 y x) ∧ List.length (Prod.snd (Prod.snd (Prod.snd (Prod.fst y)))) = (0 : Nat) ∧ Prod.snd (Prod.fst
  (Prod.snd y)) = (0 : Nat) ∧ (1 : Int) = Prod.fst (Prod.fst y) ∧ R18.nx (O18.r (Prod.fst x)) = R18.nx (Prod.fst (Prod.snd (Prod.fst y))) ∧ R18.wa (O18.r (Prod.fst x)) = R18.wa (Prod.fst (Prod.snd (Prod.fst y))) ∧ R18.ow
  (O18.r (Prod.fst x)) = R18.ow (Prod.fst (Prod.snd (Prod.fst y))) ∧ R18.ot (O18.r (Prod.fst x)) = R18.ot (Prod.fst (Prod.snd (Prod.fst y))) ∧ R18.ti (O18.r (Prod.fst x)) = R18.ti (Prod.fst (Prod.snd (Prod.fst y))) ∧
  R18.st (O18.r (Prod.fst x)) = R18.st (Prod.fst (Prod.snd (Prod.fst y))) ∧ R18.le (O18.r (Prod.fst x)) = R18.le (Prod.fst (Prod.snd (Prod.fst y))) ∧ (0 : Nat) = (0 : Nat) ∧ List.length (O18.us (Prod.fst x)) = List.length
  (Roq1 y) ∧ O18.ck (Prod.fst x) = Prod.fst (Prod.fst (Prod.snd y)) ∧ Prod.fst (Prod.snd (Prod.snd y)) = (0 : Nat) ∧ Prod.snd (Prod.snd (Prod.snd y)) = (0 : Nat) ∧ List.length (Roq1 y) ≤ List.length (O18.us (Prod.fst x)) ∧
  List.length (Roq1 y) ≤ Prod.fst (Prod.fst (Prod.snd y)) ∧ Prod.fst (Prod.fst (Prod.snd y)) ≤ O18.ck (Prod.fst x) ∧ (∀ (j : Nat), j < List.length (Roq1 y) → urow (O18.us (Prod.fst x)) j = urow (Roq1 y) j ∧ true = true) ∧
  List.length (Prod.snd (Prod.snd (Prod.snd (Prod.fst y)))) = (0 : Nat) ∧ True) ∨ False))))))
theorem vcOnUE : VcOnU = (∀ (x : O18 × Ev), (x.1.ok ∧ x.1.r.ow ≠ 0) → fnX (cx_OnU x) (bodyOf Try.f9) Try.f9.results.toList (C_OnU.args x) (C_OnU.H x) (endX 3 (C_OnU.outs x))) := by kernel_rfl
set_option maxRecDepth 100000 in
set_option maxHeartbeats 4000000 in
theorem vcOnU : VcOnU := by
  unfold VcOnU Roq6 Roq5 Roq4 Roq3 Roq2 Roq1 Roq0
  rintro ⟨⟨r, us, ck, n, ca⟩, e⟩ ⟨⟨h1, h3, h5⟩, h6⟩
  have h1 : us.length ≤ ck := h1
  have h3 : us.length ≤ 60 := h3
  have h5 : r.ok := h5
  have h6 : r.ow ≠ 0 := h6
  simp only [eq_self, true_and, and_true, Nat.le_refl, Int.le_refl, implies_true, forall_const, and_false, false_and, exists_false, false_or, or_false, true_implies, Nat.zero_add, and_self, Int.toNat_natCast, cond_true, cond_false, h1, uRow_urow, eRow_erow, condT, condF]
  refine (condX_iff _ _ _).2 ⟨fun c => absurd (of_decide_eq_true c) h6, fun _ => ?_⟩
  refine (condX_iff _ _ _).2 ⟨fun c => ?_, fun c => ?_⟩
  · have w0 : e.w = 0 := by simpa using c
    have hT : onT r us e = (usE r us e, usR r us e, usU r us e, usA r us [] e) := by rw [onT, if_pos w0]
    refine ⟨⟨h1, Nat.le_refl _, h3, Nat.zero_le _, h5⟩, fun y hy => (condX_iff _ _ _).2 ⟨fun g => ?_, fun g => ?_⟩⟩
    · have g0 : usE r us e ≠ 0 := by simpa using g
      have ha := (well_us ⟨h5, h3⟩ e).2.2.2 g0
      refine ⟨((usE r us e, usR r us e, usU r us e, usA r us [] e), (y.1, 0), (usA r us [] e).length, y.2), ⟨hT.symm, ⟨hy.1, by rw [ha]; exact Nat.le_refl _⟩⟩, ?_⟩
      dsimp only
      and_intros <;> first | exact hy.1 | (rw [ha]; rfl) | with_reducible rfl | assumption | exact Nat.le_refl _ | exact Nat.zero_le _ | exact fun j hj => trivial | exact fun j hj => rfl | exact fun j hj => absurd hj (Nat.not_lt_zero _) | exact trivial | omega | rfl | skip
    · have g0 : 0 = usE r us e := by have : usE r us e = 0 := by simpa using g
                                     exact this.symm
      refine ⟨((usE r us e, usR r us e, usU r us e, usA r us [] e), (y.1, y.2), (usA r us [] e).length, y.2), ⟨hT.symm, ⟨hy.1, hy.2⟩⟩, ?_⟩
      dsimp only
      and_intros <;> first | exact hy.1 | exact hy.2 | with_reducible rfl | assumption | exact Nat.le_refl _ | exact Nat.zero_le _ | exact fun j hj => trivial | exact fun j hj => rfl | exact fun j hj => absurd hj (Nat.not_lt_zero _) | exact trivial | omega | rfl | skip
  have w0 : ¬ e.w = 0 := by simpa using c
  refine (condX_iff _ _ _).2 ⟨fun c => ?_, fun c => ?_⟩
  · simp only [bAnd, bOr, beq_iff_eq] at c
    refine (condX_iff _ _ _).2 ⟨fun d => ?_, fun d => ?_⟩
    · simp only [bAnd, bOr, beq_iff_eq] at d
      have hT : onT r us e = (0, unT r us [] (rdT e.d).1) := by rw [onT, if_neg w0, if_pos c, if_pos d]
      refine ⟨⟨⟨h1, Nat.le_refl _, h3, Nat.zero_le _, h5⟩, by decide, rd_nu d.1⟩, fun y hy => ⟨((0, unT r us [] (rdT e.d).1), (y.1, y.2), (unT r us [] (rdT e.d).1).2.2.length, y.2), ⟨hT.symm, ⟨hy.1, hy.2⟩⟩, ?_⟩⟩
      dsimp only
      and_intros <;> first | exact hy.1 | exact hy.2 | with_reducible rfl | assumption | exact Nat.le_refl _ | exact Nat.zero_le _ | exact fun j hj => trivial | exact fun j hj => rfl | exact fun j hj => absurd hj (Nat.not_lt_zero _) | exact trivial | omega | rfl | skip
    · have d : ¬ ((rdT e.d).2.2 = 0 ∧ (rdT e.d).1.to = r.ow) := fun h => by
        rw [← Bool.not_eq_true] at d; simp only [bAnd, bOr, beq_iff_eq] at d; exact d h
      have hT : onT r us e = (0, r, us, []) := by rw [onT, if_neg w0, if_pos c, if_neg d]
      refine ⟨((0, r, us, []), (ck, 0), 0, 0), ⟨hT.symm, ⟨h1, Nat.le_refl _⟩⟩, ?_⟩
      dsimp only [List.length_nil]
      and_intros <;> first | with_reducible rfl | assumption | exact Nat.le_refl _ | exact Nat.zero_le _ | exact fun j hj => trivial | exact fun j hj => rfl | exact fun j hj => absurd hj (Nat.not_lt_zero _) | exact trivial | omega | rfl | skip
  have p1 : ¬ (e.w = 1 ∧ e.k = 0) := fun h => by
    rw [← Bool.not_eq_true] at c; simp only [bAnd, bOr, beq_iff_eq] at c; exact c h
  refine (condX_iff _ _ _).2 ⟨fun c => ?_, fun c => ?_⟩
  · simp only [bAnd, bOr, beq_iff_eq] at c
    have hT : onT r us e = (0, rstR r, us, rstE r []) := by rw [onT, if_neg w0, if_neg p1, if_pos c]
    refine ⟨⟨h1, Nat.le_refl _, h3, Nat.zero_le _, h5⟩, fun y hy => ⟨((0, rstR r, us, rstE r []), (y.1, y.2), (rstE r []).length, y.2), ⟨hT.symm, ⟨hy.1, hy.2⟩⟩, ?_⟩⟩
    dsimp only
    and_intros <;> first | exact hy.1 | exact hy.2 | with_reducible rfl | assumption | exact Nat.le_refl _ | exact Nat.zero_le _ | exact fun j hj => trivial | exact fun j hj => rfl | exact fun j hj => absurd hj (Nat.not_lt_zero _) | exact trivial | omega | rfl | skip
  have p2 : ¬ (e.w = 1 ∧ e.k = 1) := fun h => by
    rw [← Bool.not_eq_true] at c; simp only [bAnd, bOr, beq_iff_eq] at c; exact c h
  refine (condX_iff _ _ _).2 ⟨fun c => ?_, fun c => ?_⟩
  · simp only [bAnd, bOr, beq_iff_eq] at c
    have hT : onT r us e = (0, tkR r, us, []) := by rw [onT, if_neg w0, if_neg p1, if_neg p2, if_pos c]
    refine (condX_iff _ _ _).2 ⟨fun d => ?_, fun d => ?_⟩
    · have d : r.st = 3 := by simpa using d
      have n1 := h5.st d
      have n2 := h5.le
      have hw : IntKind.i64.wrap (r.le - 1) = r.le - 1 := wrap1 (by omega) (by omega)
      simp only [hw]
      refine (condX_iff _ _ _).2 ⟨fun g => ?_, fun g => ?_⟩
      · have g : r.le - 1 = 0 := by simpa using g
        have hR : tkR r = ⟨r.nx, r.wa, r.ow, r.ot, r.ti, 4, r.le - 1⟩ := by rw [tkR, if_pos d, if_pos (by omega)]
        rw [hR] at hT
        refine ⟨((0, ⟨r.nx, r.wa, r.ow, r.ot, r.ti, 4, r.le - 1⟩, us, []), (ck, 0), 0, 0), ⟨hT.symm, ⟨h1, Nat.le_refl _⟩⟩, ?_⟩
        dsimp only [List.length_nil]
        and_intros <;> first | with_reducible rfl | assumption | exact Nat.le_refl _ | exact Nat.zero_le _ | exact fun j hj => trivial | exact fun j hj => rfl | exact fun j hj => absurd hj (Nat.not_lt_zero _) | exact trivial | omega | rfl | skip
      · have g : ¬ r.le - 1 = 0 := by simpa using g
        have hR : tkR r = ⟨r.nx, r.wa, r.ow, r.ot, r.ti, 3, r.le - 1⟩ := by rw [tkR, if_pos d, if_neg (by omega)]
        rw [hR] at hT
        refine ⟨((0, ⟨r.nx, r.wa, r.ow, r.ot, r.ti, 3, r.le - 1⟩, us, []), (ck, 0), 0, 0), ⟨hT.symm, ⟨h1, Nat.le_refl _⟩⟩, ?_⟩
        dsimp only [List.length_nil]
        and_intros <;> first | with_reducible rfl | assumption | exact Nat.le_refl _ | exact Nat.zero_le _ | exact fun j hj => trivial | exact fun j hj => rfl | exact fun j hj => absurd hj (Nat.not_lt_zero _) | exact trivial | omega | rfl | skip
    · have d : ¬ r.st = 3 := by simpa using d
      have hR : tkR r = r := by rw [tkR, if_neg d]
      rw [hR] at hT
      refine ⟨((0, r, us, []), (ck, 0), 0, 0), ⟨hT.symm, ⟨h1, Nat.le_refl _⟩⟩, ?_⟩
      dsimp only [List.length_nil]
      and_intros <;> first | with_reducible rfl | assumption | exact Nat.le_refl _ | exact Nat.zero_le _ | exact fun j hj => trivial | exact fun j hj => rfl | exact fun j hj => absurd hj (Nat.not_lt_zero _) | exact trivial | omega | rfl | skip
  have p3 : ¬ (e.w = 2 ∧ e.k = 0) := fun h => by
    rw [← Bool.not_eq_true] at c; simp only [bAnd, bOr, beq_iff_eq] at c; exact c h
  have hT : onT r us e = (1, r, us, []) := by rw [onT, if_neg w0, if_neg p1, if_neg p2, if_neg p3]
  refine ⟨((1, r, us, []), (ck, 0), 0, 0), ⟨hT.symm, ⟨h1, Nat.le_refl _⟩⟩, ?_⟩
  dsimp only [List.length_nil]
  and_intros <;> first | with_reducible rfl | assumption | exact Nat.le_refl _ | exact Nat.zero_le _ | exact fun j hj => trivial | exact fun j hj => rfl | exact fun j hj => absurd hj (Nat.not_lt_zero _) | exact trivial | omega | rfl | skip
theorem vcOnUK : ∀ (x : O18 × Ev), (x.1.ok ∧ x.1.r.ow ≠ 0) → Held (fnX (cx_OnU x) (bodyOf Try.f9) Try.f9.results.toList (C_OnU.args x) (C_OnU.H x) (endX 3 (C_OnU.outs x))) := held2 (p := fun (x : O18 × Ev) (_ : (x.1.ok ∧ x.1.r.ow ≠ 0)) => fnX (cx_OnU x) (bodyOf Try.f9) Try.f9.results.toList (C_OnU.args x) (C_OnU.H x) (endX 3 (C_OnU.outs x))) vcOnUE vcOnU
theorem ok_OnU : GenSound Try.prog 9 (callX C_OnU getOE) :=
  gen_of (ty := ty) (Γ := ΓOf Γm) hm tyOK Γm_ok (fnOK_of Try.func9 (by kernel_rfl) (by kernel_rfl)) Try.func9 (body_some (by kernel_rfl)) C_OnU getOE Try.ntmps9 (fun _ => Nat.le_of_ble_eq_true rfl) (fun x => (cx_OnU x).cut) (fun x => (cx_OnU x).loop) fun x h => vcOnUK x h
/-! ### the laws' parameters -/
def RowsE (l : List Ev) (row : Nat → List SV) (cap : Nat) : Prop := l.length ≤ cap ∧ cap ≤ maxLen ∧ ∀ j, j < l.length → row j = erow l j
theorem pv_ints3 {pts : List PT} {pvs : List PV} (h : PVsOK (.flat [.int .i64, .int .i64, .int .i64] true :: pts) pvs) : ∃ (a b c : Int) (pvs' : List PV), pvs = .flat [.int .i64 a, .int .i64 b, .int .i64 c] true :: pvs' ∧ PVsOK pts pvs' := by
  obtain ⟨cs, pvs', rfl, h1, h2⟩ := pvs_flat h
  obtain ⟨a, cs1, e1, _, h3⟩ := leafs_int h1
  obtain ⟨b, cs2, e2, _, h4⟩ := leafs_int h3
  obtain ⟨c, cs3, e3, _, h5⟩ := leafs_int h4
  obtain rfl := leafs_nil h5
  subst e3 e2 e1
  exact ⟨a, b, c, pvs', rfl, h2⟩
/-- A list of events that came in. -/
theorem pv_events {pts : List PT} {pvs : List PV} (h : PVsOK (.slice ksE :: pts) pvs) : ∃ (l : List Ev) (cap : Nat) (rows : Nat → List Value) (pvs' : List PV), pvs = .slice l.length cap 6 rows :: pvs' ∧ PVsOK pts pvs' ∧ RowsE l (fun j => (rows j).map SV.g) cap := by
  obtain ⟨len, cap, rows, pvs', rfl, h1, h2, h3, h4⟩ := pvs_slice h
  have hex : ∀ j, ∃ e : Ev, j < cap → rows j = e.vals := fun j => by
    by_cases hj : j < cap
    · obtain ⟨e, he⟩ := leafs_event (h3 j hj); exact ⟨e, fun _ => he⟩
    · exact ⟨eZero, fun h => absurd h hj⟩
  refine ⟨(List.range len).map fun j => (hex j).choose, cap, rows, pvs', by simp [ksE], h4, by simp; exact h1, h2, fun j hj => ?_⟩
  simp only [List.length_map, List.length_range] at hj
  have := (hex j).choose_spec (by omega)
  show (rows j).map SV.g = _
  rw [this]
  simp [erow, List.getD_eq_getElem?_getD, hj]
  rfl
/-- A walk whose loops are told by the parameters' data: chosen once. -/
theorem choose_loop {pts : List PT} {P : List PV → (Nat → SS → List Ann) → Prop} (h : ∀ pvs, PVsOK pts pvs → ∃ lp, P pvs lp) : ∃ lp : List PV → Nat → SS → List Ann, ∀ pvs, PVsOK pts pvs → P pvs (lp pvs) := by
  classical
  refine ⟨fun pvs => if hp : PVsOK pts pvs then (h pvs hp).choose else fun _ _ => [], fun pvs hp => ?_⟩
  dsimp only
  rw [dif_pos hp]
  exact (h pvs hp).choose_spec
end Go.Proofs.Ytghbejmnnfoamaa
