/- Chapter 18: two lists of events; what stays true of a side. -/
import Derived.Test.YtghbejmnnfoamaaRe
set_option linter.unusedVariables false
set_option linter.unusedSimpArgs false
namespace Go.Proofs.Ytghbejmnnfoamaa
open Go Go.Eng
attribute [local irreducible] condX
/-! ### Events -/
structure EE where
  a : List Ev
  b : List Ev
  ca : Nat
  cb : Nat
def EE.H (x : EE) : Heap := [(0, .view 6 x.a.length x.ca (erow x.a) 31), (1, .view 6 x.b.length x.cb (erow x.b) 31)]
def EE.ok (x : EE) : Prop := x.a.length ≤ x.ca ∧ x.b.length ≤ x.cb ∧ x.a.length ≤ 100000 ∧ x.a = x.b
def C_rEvents : Ctr := ⟨2, EE, fun x => [.sl 0 0 6 x.a.length x.ca, .sl 1 0 6 x.b.length x.cb], fun x => x.H, fun x => x.ok, fun x => [.one True (.g (.bool true)) x.H]⟩
def annEv (x : EE) : Ann := ⟨Nat, fun i => ⟨[(0, .sl 0 0 6 x.a.length x.ca), (1, .sl 1 0 6 x.b.length x.cb), (5, .g (.int .i64 i))], x.H, 2, 0, []⟩, fun i => i ≤ x.a.length, fun i => x.a.length - i⟩
def cx_rEvents (x : EE) : Cx := ⟨ty, ΓOf Γx, fun _ => [], fun i _ => if i = 4 then [annEv x] else [], 26, 2⟩
def VcREvents : Prop := ∀ (x : EE), EE.ok x → condX ((↑(List.length (EE.a x)) : Int) != (↑(List.length (EE.b x)) : Int)) (True ∧ false = true ∧ List.length (EE.a x) ≤ List.length (EE.a x) ∧ List.length (EE.a x) ≤ EE.ca x ∧ EE.ca x ≤ EE.ca x ∧
  (∀ (j : Nat), j < List.length (EE.a x) → erow (EE.a x) j = erow (EE.a x) j ∧ true = true) ∧ List.length (EE.b x) ≤ List.length (EE.b x) ∧ List.length (EE.b x) ≤ EE.cb x ∧ EE.cb x ≤ EE.cb x ∧ (∀ (j : Nat), j < List.length
  (EE.b x) → erow (EE.b x) j = erow (EE.b x) j ∧ true = true) ∧ True ∨ False) ((∃ (x_1 : Nat), x_1 ≤ List.length (EE.a x) ∧ (0 : Nat) = (0 : Nat) ∧ List.length (EE.a x) = List.length (EE.a x) ∧ EE.ca x = EE.ca x ∧ (0 :
  Nat) = (0 : Nat) ∧ List.length (EE.b x) = List.length (EE.b x) ∧ EE.cb x = EE.cb x ∧ (0 : Int) = (↑x_1 : Int) ∧ List.length (EE.a x) ≤ List.length (EE.a x) ∧ List.length (EE.a x) ≤ EE.ca x ∧ EE.ca x ≤ EE.ca x ∧ (∀ (j :
  Nat), j < List.length (EE.a x) → erow (EE.a x) j = erow (EE.a x) j ∧ true = true) ∧ List.length (EE.b x) ≤ List.length (EE.b x) ∧ List.length (EE.b x) ≤ EE.cb x ∧ EE.cb x ≤ EE.cb x ∧ (∀ (j : Nat), j < List.length (EE.b
  x) → erow (EE.b x) j = erow (EE.b x) j ∧ true = true) ∧ True) ∧ ∀ (x_1 : Nat), x_1 ≤ List.length (EE.a x) → condX (decide ((↑x_1 : Int) < (↑(List.length (EE.a x)) : Int))) (((0 : Int) ≤ (↑x_1 : Int) ∧ (↑x_1 : Int) <
  (↑(List.length (EE.a x)) : Int)) ∧ Int.toNat (↑x_1 : Int) < List.length (EE.a x) ∧ ((0 : Int) ≤ (↑x_1 : Int) ∧ (↑x_1 : Int) < (↑(List.length (EE.b x)) : Int)) ∧ Int.toNat (↑x_1 : Int) < List.length (EE.b x) ∧ condX
  (!(Ev.w (List.getD (EE.a x) (Int.toNat (↑x_1 : Int)) eZero) == Ev.w (List.getD (EE.b x) (Int.toNat (↑x_1 : Int)) eZero) && (Ev.k (List.getD (EE.a x) (Int.toNat (↑x_1 : Int)) eZero) == Ev.k (List.getD (EE.b x) (Int.toNat
  (↑x_1 : Int)) eZero) && (Ev.a (List.getD (EE.a x) (Int.toNat (↑x_1 : Int)) eZero) == Ev.a (List.getD (EE.b x) (Int.toNat (↑x_1 : Int)) eZero) && (Ev.b (List.getD (EE.a x) (Int.toNat (↑x_1 : Int)) eZero) == Ev.b
  (List.getD (EE.b x) (Int.toNat (↑x_1 : Int)) eZero) && (Ev.c (List.getD (EE.a x) (Int.toNat (↑x_1 : Int)) eZero) == Ev.c (List.getD (EE.b x) (Int.toNat (↑x_1 : Int)) eZero) && (decide (Ev.d (List.getD (EE.a x) (Int.toNat
  (↑x_1 : Int)) eZero) = Ev.d (List.getD (EE.b x) (Int.toNat (↑x_1 : Int)) eZero)) && true))))))) (True ∧ false = true ∧ List.length (EE.a x) ≤ List.length (EE.a x) ∧ List.length (EE.a x) ≤ EE.ca x ∧ EE.ca x ≤ EE.ca x ∧ (∀
  (j : Nat), j < List.length (EE.a x) → erow (EE.a x) j = erow (EE.a x) j ∧ true = true) ∧ List.length (EE.b x) ≤ List.length (EE.b x) ∧ List.length (EE.b x) ≤ EE.cb x ∧ EE.cb x ≤ EE.cb x ∧ (∀ (j : Nat), j < List.length
  (EE.b x) → erow (EE.b x) j = erow (EE.b x) j ∧ true = true) ∧ True ∨ False) (∃ (x' : Nat), x' ≤ List.length (EE.a x) ∧ List.length (EE.a x) - x' < List.length (EE.a x) - x_1 ∧ (0 : Nat) = (0 : Nat) ∧ List.length (EE.a x)
  = List.length (EE.a x) ∧ EE.ca x = EE.ca x ∧ (0 : Nat) = (0 : Nat) ∧ List.length (EE.b x) = List.length (EE.b x) ∧ EE.cb x = EE.cb x ∧ IntKind.wrap IntKind.i64 ((↑x_1 : Int) + (1 : Int)) = (↑x' : Int) ∧ List.length (EE.a
  x) ≤ List.length (EE.a x) ∧ List.length (EE.a x) ≤ EE.ca x ∧ EE.ca x ≤ EE.ca x ∧ (∀ (j : Nat), j < List.length (EE.a x) → erow (EE.a x) j = erow (EE.a x) j ∧ true = true) ∧ List.length (EE.b x) ≤ List.length (EE.b x) ∧
  List.length (EE.b x) ≤ EE.cb x ∧ EE.cb x ≤ EE.cb x ∧ (∀ (j : Nat), j < List.length (EE.b x) → erow (EE.b x) j = erow (EE.b x) j ∧ true = true) ∧ True)) (True ∧ true = true ∧ List.length (EE.a x) ≤ List.length (EE.a x) ∧
  List.length (EE.a x) ≤ EE.ca x ∧ EE.ca x ≤ EE.ca x ∧ (∀ (j : Nat), j < List.length (EE.a x) → erow (EE.a x) j = erow (EE.a x) j ∧ true = true) ∧ List.length (EE.b x) ≤ List.length (EE.b x) ∧ List.length (EE.b x) ≤ EE.cb
  x ∧ EE.cb x ≤ EE.cb x ∧ (∀ (j : Nat), j < List.length (EE.b x) → erow (EE.b x) j = erow (EE.b x) j ∧ true = true) ∧ True ∨ False))
theorem vcREventsE : VcREvents = (∀ (x : EE), x.ok → fnX (cx_rEvents x) (bodyOf Try.f16) Try.f16.results.toList (C_rEvents.args x) (C_rEvents.H x) (endX 2 (C_rEvents.outs x))) := by kernel_rfl
set_option maxHeartbeats 4000000 in
theorem vcREvents : VcREvents := by
  rintro ⟨a, b, ca, cb⟩ hh
  obtain ⟨h1, h2, h3, h4⟩ : a.length ≤ ca ∧ b.length ≤ cb ∧ a.length ≤ 100000 ∧ a = b := hh
  subst h4
  simp only [eq_self, true_and, and_true, Nat.le_refl, Int.le_refl, implies_true, forall_const, and_false, false_and, exists_false, false_or, or_false, true_implies, Nat.zero_add, and_self, Int.toNat_natCast, cond_true, cond_false, condT, condF, beq_self_eq_true, Bool.and_self, Bool.not_true, decide_true, Bool.and_true]
  refine (condX_iff _ _ _).2 ⟨fun c => by simp at c, fun _ => ⟨⟨0, Nat.zero_le _, rfl, h1, h2⟩, fun i hi => (condX_iff _ _ _).2 ⟨fun c => ?_, fun c => ⟨h1, h2⟩⟩⟩⟩
  have c := of_decide_eq_true c
  refine ⟨⟨by omega, by omega⟩, by omega, ⟨by omega, by omega⟩, by omega, i + 1, by omega, by omega, ?_, h1, h2⟩
  rw [wrap1 (by omega) (by omega)]; omega
theorem vcREventsK : ∀ (x : EE), x.ok → Held (fnX (cx_rEvents x) (bodyOf Try.f16) Try.f16.results.toList (C_rEvents.args x) (C_rEvents.H x) (endX 2 (C_rEvents.outs x))) := held2 vcREventsE vcREvents
def getEv2 (a : List SV) (H : Heap) : Option EE := match a with
  | [x, y] => match getE x H, getE y H with
    | some (e, c), some (f, d) => some ⟨e, f, c, d⟩
    | _, _ => none
  | _ => none
theorem ok_rEvents : GenSound Try.prog Λ0 16 (callX C_rEvents getEv2) :=
  gen_of (ty := ty) (Γ := ΓOf Γx) hm tyOK Γx_ok (fnOK_of Try.func16 (by kernel_rfl) (by kernel_rfl)) Try.func16 (body_some (by kernel_rfl)) C_rEvents getEv2 Try.ntmps16 (fun _ => Nat.le_of_ble_eq_true rfl) (fun x => (cx_rEvents x).cut) (fun x => (cx_rEvents x).loop) fun x h => vcREventsK x h
/-! ### the example; what a side is asked -/
def X_sane18 : XC := ⟨Unit, fun | [] => some () | _ => none, fun _ => [], fun _ => True, fun _ => .g (.bool true)⟩
theorem vcSane18aK : ∀ x : Unit, True → Held (fnX cx_sane18 (bodyOf Try.f13) Try.f13.results.toList [] [] (fun r _ => r = .g (.bool true))) := fun _ _ => vcSane18K
def cx_sane18u (_ : Unit) : Cx := cx_sane18
theorem ok_sane18 : ExactSound Try.prog Λ0 13 X_sane18.rule :=
  exact_rule (ty := ty) (Γ := ΓOf Γx) hm tyOK Γx_ok (fnOK_of Try.func13 (by kernel_rfl) (by kernel_rfl)) Try.func13 (body_some (by kernel_rfl)) X_sane18 Try.ntmps13 (fun _ => Nat.le_of_ble_eq_true rfl) (fun _ => rfl) (fun x => rfl) (fun x => (cx_sane18u x).cut) (fun x => (cx_sane18u x).loop) fun x h => vcSane18aK x h
def wtState (a : List SV) (H : Heap) (n : Nat) (K : SV → Heap → Prop) : Prop := match selN a H with
  | true => callX C_State0 get0 a H n K
  | false => callX C_State18 getN a H n K
theorem ok_StateA : GenSound Try.prog Λ0 19 wtState := gen_sel selN ok_State0 ok_State18
def wtKept (a : List SV) (H : Heap) (n : Nat) (K : SV → Heap → Prop) : Prop := match selN a H with
  | true => callX C_Kept0 get0 a H n K
  | false => callX C_Kept18 getN a H n K
theorem ok_KeptA : GenSound Try.prog Λ0 11 wtKept := gen_sel selN ok_Kept0 ok_Kept18
def wtNumbers (a : List SV) (H : Heap) (n : Nat) (K : SV → Heap → Prop) : Prop := match selN a H with
  | true => callX C_Numbers0 get0 a H n K
  | false => callX C_Numbers18 getN a H n K
theorem ok_NumbersA : GenSound Try.prog Λ0 20 wtNumbers := gen_sel selN ok_Numbers0 ok_Numbers18
def wtCopy0 (a : List SV) (H : Heap) (n : Nat) (K : SV → Heap → Prop) : Prop := match selN a H with
  | true => callX C_Copy0 get0 a H n K
  | false => callX C_Copyz getN a H n K
theorem ok_Copy0A : GenSound Try.prog Λ0 18 wtCopy0 := gen_sel selN ok_Copy0 ok_Copyz
/-! ### what stays true of a side -/
structure Well (r : R18) (us : List U) : Prop where
  ok : r.ok
  k60 : us.length ≤ 60
theorem Well.nil {r : R18} (h : r.ok) : Well r [] := ⟨h, Nat.zero_le _⟩
theorem Well.drop {r : R18} {us : List U} (h : Well r us) (k : Nat) : Well r (us.drop k) := ⟨h.ok, by rw [List.length_drop]; have := h.k60; omega⟩
theorem well_us {r : R18} {us : List U} (h : Well r us) (e : Ev) : Well (usR r us e) (usU r us e) ∧ (usR r us e).ow = r.ow ∧ (usA r us [] e).length ≤ 100 ∧ (usE r us e ≠ 0 → usA r us [] e = []) := by
  by_cases h0 : usE r us e ≠ 0
  · simp only [usR, usU, usA, h0, ne_eq, not_false_eq_true, if_true]
    exact ⟨h, trivial, by simp, fun _ => trivial⟩
  · have h0 : usE r us e = 0 := by omega
    have k60 : e.k = 4 ∨ us.length < 60 := by
      unfold usE at h0
      by_cases k4 : e.k = 4
      · exact Or.inl k4
      · right
        split at h0
        · omega
        split at h0
        · omega
        split at h0 <;> omega
    by_cases k4 : e.k = 4
    · simp only [usR, usU, usA, h0, ne_eq, not_true_eq_false, if_false, k4, if_true]
      exact ⟨Well.nil (ok_st h.ok (s := 2) (by decide)), trivial, by simp, fun h => h.elim⟩
    · simp only [usR, usU, usA, h0, ne_eq, not_true_eq_false, if_false, k4]
      exact ⟨⟨ok_nx h.ok, by simp; omega⟩, trivial, by split <;> simp, fun h => h.elim⟩
theorem well_fr {r : R18} (h : r.ok) (es : List Ev) : Well (frT r es).1 (frT r es).2.1 :=
  Well.nil ⟨h.nx, h.wa, h.ti, ⟨by have := h.ti; show 0 ≤ r.ti; omega, h.ti.2⟩, fun _ => h.ti.1⟩
theorem well_ack {r : R18} {us : List U} (h : Well r us) (u : U) : Well (ackR r us u) (ackU r us u) ∧ (ackR r us u).ow = r.ow ∧ (ackA r us [] u).length ≤ 100 := by
  unfold ackR ackU ackA
  by_cases hl : (us.length : Int) < ackN r us u
  · simp only [hl, if_true]; exact ⟨h, trivial, by simp⟩
  · simp only [hl, if_false]
    have hg := h.drop (ackN r us u).toNat
    have h60 := h.k60
    by_cases k7 : u.k = 7
    · simp only [k7, if_true]
      exact ⟨⟨ok_st h.ok (s := 0) (by decide), hg.k60⟩, trivial, by simp; omega⟩
    · simp only [k7, if_false]
      exact ⟨hg, trivial, by simp⟩
theorem well_un {r : R18} {us : List U} (h : Well r us) (u : U) : Well (unT r us [] u).1 (unT r us [] u).2.1 ∧ (unT r us [] u).1.ow = r.ow ∧ (unT r us [] u).2.2.length ≤ 100 := by
  unfold unT
  split
  · exact ⟨h, rfl, by simp⟩
  split
  · split
    · exact ⟨h, rfl, by simp⟩
    · refine ⟨⟨ok_wa h.ok, h.k60⟩, rfl, ?_⟩
      dsimp only
      split <;> simp
  split
  · exact well_ack h u
  split
  · exact ⟨well_fr h.ok _, rfl, by simp [frT]⟩
  split
  · exact ⟨h, rfl, by simp⟩
  split
  · exact ⟨well_fr h.ok _, rfl, by simp [frT]⟩
  · exact ⟨h, rfl, by simp⟩
theorem well_rst {r : R18} (h : r.ok) : (rstR r).ok ∧ (rstR r).ow = r.ow ∧ (rstR r).nx = r.nx := by
  unfold rstR
  split
  · exact ⟨ok_st h (s := 1) (by decide), rfl, rfl⟩
  · exact ⟨h, rfl, rfl⟩
theorem well_tk {r : R18} (h : r.ok) : (tkR r).ok ∧ (tkR r).ow = r.ow ∧ (tkR r).nx = r.nx := by
  have h2 := h.le
  unfold tkR
  split
  · rename_i s3
    have h1 := h.st s3
    split
    · exact ⟨⟨h.nx, h.wa, h.ti, by dsimp only; omega, fun e => absurd (show (4 : Int) = 3 from e) (by decide)⟩, rfl, rfl⟩
    · exact ⟨⟨h.nx, h.wa, h.ti, by dsimp only; omega, fun _ => by dsimp only; omega⟩, rfl, rfl⟩
  · exact ⟨h, rfl, rfl⟩
theorem well_on {r : R18} {us : List U} (h : Well r us) (e : Ev) : Well (onT r us e).2.1 (onT r us e).2.2.1 ∧ (onT r us e).2.1.ow = r.ow ∧ (onT r us e).2.2.2.length ≤ 100 ∧ ((onT r us e).1 ≠ 0 → (onT r us e).2.2.2 = []) := by
  unfold onT
  split
  · exact well_us h e
  split
  · dsimp only
    split
    · obtain ⟨a, b, c⟩ := well_un h (rdT e.d).1
      exact ⟨a, b, c, fun h => absurd rfl h⟩
    · exact ⟨h, rfl, by simp, fun h => absurd rfl h⟩
  split
  · refine ⟨⟨(well_rst h.ok).1, h.k60⟩, (well_rst h.ok).2.1, ?_, fun h => absurd rfl h⟩
    dsimp only; unfold rstE; split
    · simp
    split <;> simp
  split
  · exact ⟨⟨(well_tk h.ok).1, h.k60⟩, (well_tk h.ok).2.1, by simp, fun h => absurd rfl h⟩
  · exact ⟨h, rfl, by simp, fun _ => rfl⟩
/-! ### the laws' parameters -/
def Ev.vals (e : Ev) : List Value := [.int .i64 e.w, .int .i64 e.k, .int .i64 e.a, .int .i64 e.b, .int .i64 e.c, .string e.d]
def ksE : List LK := [.int .i64, .int .i64, .int .i64, .int .i64, .int .i64, .str]
theorem leafs_event {cs : List Value} (h : LeafsOK ksE cs) : ∃ e : Ev, cs = e.vals := by
  obtain ⟨a1, cs1, e1, _, h1⟩ := leafs_int h
  obtain ⟨a2, cs2, e2, _, h2⟩ := leafs_int h1
  obtain ⟨a3, cs3, e3, _, h3⟩ := leafs_int h2
  obtain ⟨a4, cs4, e4, _, h4⟩ := leafs_int h3
  obtain ⟨a5, cs5, e5, _, h5⟩ := leafs_int h4
  obtain ⟨a6, cs6, e6, _, h6⟩ := leafs_str h5
  have e7 := leafs_nil h6
  subst e7 e6 e5 e4 e3 e2 e1
  exact ⟨⟨a1, a2, a3, a4, a5, a6⟩, rfl⟩
theorem pv_event {pts : List PT} {pvs : List PV} (h : PVsOK (.flat ksE true :: pts) pvs) : ∃ (e : Ev) (pvs' : List PV), pvs = .flat e.vals true :: pvs' ∧ PVsOK pts pvs' := by
  obtain ⟨cs, pvs', rfl, h1, h2⟩ := pvs_flat h
  obtain ⟨e, rfl⟩ := leafs_event h1
  exact ⟨e, pvs', rfl, h2⟩
def RowsE (l : List Ev) (row : Nat → List SV) (cap : Nat) : Prop := l.length ≤ cap ∧ cap ≤ maxLen ∧ ∀ j, j < l.length → row j = erow l j
theorem pv_ints3 {pts : List PT} {pvs : List PV} (h : PVsOK (.flat [.int .i64, .int .i64, .int .i64] true :: pts) pvs) : ∃ (a b c : Int) (pvs' : List PV), pvs = .flat [.int .i64 a, .int .i64 b, .int .i64 c] true :: pvs' ∧ PVsOK pts pvs' := by
  obtain ⟨cs, pvs', rfl, h1, h2⟩ := pvs_flat h
  obtain ⟨a, cs1, e1, _, h3⟩ := leafs_int h1
  obtain ⟨b, cs2, e2, _, h4⟩ := leafs_int h3
  obtain ⟨c, cs3, e3, _, h5⟩ := leafs_int h4
  obtain rfl := leafs_nil h5
  subst e3 e2 e1
  exact ⟨a, b, c, pvs', rfl, h2⟩
/-- A list of events that came in. -/
theorem pv_events {pts : List PT} {pvs : List PV} (h : PVsOK (.slice ksE :: pts) pvs) : ∃ (l : List Ev) (cap : Nat) (rows : Nat → List Value) (pvs' : List PV), pvs = .slice l.length cap 6 rows :: pvs' ∧ PVsOK pts pvs' ∧ RowsE l (fun j => (rows j).map SV.g) cap := by
  obtain ⟨len, cap, rows, pvs', rfl, h1, h2, h3, h4⟩ := pvs_slice h
  have hex : ∀ j, ∃ e : Ev, j < cap → rows j = e.vals := fun j => by
    by_cases hj : j < cap
    · obtain ⟨e, he⟩ := leafs_event (h3 j hj); exact ⟨e, fun _ => he⟩
    · exact ⟨eZero, fun h => absurd h hj⟩
  refine ⟨(List.range len).map fun j => (hex j).choose, cap, rows, pvs', by simp [ksE], h4, by simp; exact h1, h2, fun j hj => ?_⟩
  simp only [List.length_map, List.length_range] at hj
  have := (hex j).choose_spec (by omega)
  show (rows j).map SV.g = _
  rw [this]
  simp [erow, List.getD_eq_getElem?_getD, hj]
  rfl
/-- A walk whose loops are told by the parameters' data: chosen once. -/
theorem choose_loop {pts : List PT} {P : List PV → (Nat → SS → List Ann) → Prop} (h : ∀ pvs, PVsOK pts pvs → ∃ lp, P pvs lp) : ∃ lp : List PV → Nat → SS → List Ann, ∀ pvs, PVsOK pts pvs → P pvs (lp pvs) := by
  classical
  refine ⟨fun pvs => if hp : PVsOK pts pvs then (h pvs hp).choose else fun _ _ => [], fun pvs hp => ?_⟩
  dsimp only
  rw [dif_pos hp]
  exact (h pvs hp).choose_spec
end Go.Proofs.Ytghbejmnnfoamaa
