/- Chapter 18: the program's side: what is sent and told. -/
import Derived.Test.YtghbejmnnfoamaaW
set_option linter.unusedVariables false
set_option linter.unusedSimpArgs false
namespace Go.Proofs.Ytghbejmnnfoamaa
open Go Go.Eng
attribute [local irreducible] condX
/-! ### rows -/
def urow (us : List U) : Nat → List SV := fun j => (us.getD j uZero).cells
def uRow (l : List SV) : U := (uOf l).getD uZero
theorem uRow_cells (u : U) : uRow u.cells = u := rfl
theorem uRow_urow (us : List U) : (List.range us.length).map (fun j => uRow (urow us j)) = us := by
  apply List.ext_getElem?
  intro j
  by_cases h : j < us.length
  · rw [List.getElem?_map, List.getElem?_range h]; simp [urow, uRow_cells, List.getD_eq_getElem?_getD, h]
  · rw [List.getElem?_eq_none (by simpa using h), List.getElem?_eq_none (by omega)]
theorem urow_app {A : List U} {b : U} {row : Nat → List SV} {j : Nat} (h : row 0 = b.cells) (hj : j < A.length + 1) : appRows 0 0 A.length (urow A) row j = urow (A ++ [b]) j := by
  rw [appRows0]
  split
  · rename_i hlt; simp [urow, List.getD_eq_getElem?_getD, List.getElem?_append_left hlt]
  · have : j = A.length := by omega
    subst this
    rw [Nat.sub_self, h]; simp [urow, List.getD_eq_getElem?_getD]
theorem uRow_appL (A : List U) (row : Nat → List SV) : (List.range (A.length + 1)).map (fun j => uRow (appRows 0 0 A.length (urow A) row j)) = A ++ [uRow (row 0)] := by
  rw [List.range_succ, List.map_append]
  congr 1
  · refine Eq.trans (List.map_congr_left fun j hj => ?_) (uRow_urow A)
    rw [appRows0, if_pos (List.mem_range.1 hj)]
  · simp [appRows0]
structure Ev where
  w : Int
  k : Int
  a : Int
  b : Int
  c : Int
  d : ByteArray
def Ev.cells (e : Ev) : List SV := [.g (.int .i64 e.w), .g (.int .i64 e.k), .g (.int .i64 e.a), .g (.int .i64 e.b), .g (.int .i64 e.c), .g (.string e.d)]
def eZero : Ev := ⟨0, 0, 0, 0, 0, ⟨#[]⟩⟩
def eOf : List SV → Option Ev
  | [.g (.int .i64 w), .g (.int .i64 k), .g (.int .i64 a), .g (.int .i64 b), .g (.int .i64 c), .g (.string d)] => some ⟨w, k, a, b, c, d⟩
  | _ => none
def eRow (l : List SV) : Ev := (eOf l).getD eZero
def erow (es : List Ev) : Nat → List SV := fun j => (es.getD j eZero).cells
theorem eRow_cells (e : Ev) : eRow e.cells = e := rfl
theorem eRow_erow (es : List Ev) : (List.range es.length).map (fun j => eRow (erow es j)) = es := by
  apply List.ext_getElem?
  intro j
  by_cases h : j < es.length
  · rw [List.getElem?_map, List.getElem?_range h]; simp [erow, eRow_cells, List.getD_eq_getElem?_getD, h]
  · rw [List.getElem?_eq_none (by simpa using h), List.getElem?_eq_none (by omega)]
theorem erow_app {A : List Ev} {b : Ev} {row : Nat → List SV} {j : Nat} (h : row 0 = b.cells) (hj : j < A.length + 1) : appRows 0 0 A.length (erow A) row j = erow (A ++ [b]) j := by
  rw [appRows0]
  split
  · rename_i hlt; simp [erow, List.getD_eq_getElem?_getD, List.getElem?_append_left hlt]
  · have : j = A.length := by omega
    subst this
    rw [Nat.sub_self, h]; simp [erow, List.getD_eq_getElem?_getD]
/-! ### the side -/
structure R18 where
  nx : Int
  wa : Int
  ow : Int
  ot : Int
  ti : Int
  st : Int
  le : Int
def R18.cells (r : R18) (k a : SV) : List SV := [.g (.int .i64 r.nx), .g (.int .i64 r.wa), .g (.int .i64 r.ow), .g (.int .i64 r.ot), .g (.int .i64 r.ti), .g (.int .i64 r.st), .g (.int .i64 r.le), k, a]
structure S18 where
  r : R18
  us : List U
  ck : Nat
  es : List Ev
  ca : Nat
def S18.H (s : S18) : Heap := [(0, .cells (s.r.cells (.sl 1 0 10 s.us.length s.ck) (.sl 2 0 6 s.es.length s.ca)) 55), (1, .view 10 s.us.length s.ck (urow s.us) 60), (2, .view 6 s.es.length s.ca (erow s.es) 31)]
structure R18.ok (r : R18) : Prop where
  nx : 0 ≤ r.nx ∧ r.nx < 128
  wa : 0 ≤ r.wa ∧ r.wa < 128
  ti : 1 ≤ r.ti ∧ r.ti ≤ 100
  le : 0 ≤ r.le ∧ r.le ≤ 100
  st : r.st = 3 → 1 ≤ r.le
structure S18.ok (s : S18) : Prop where
  k : s.us.length ≤ s.ck
  a : s.es.length ≤ s.ca
  k60 : s.us.length ≤ 60
  e : s.es.length ≤ 200
  r : s.r.ok
def outH (r : R18) (us : List U) (es : List Ev) (c : Nat × Nat) : Heap := [(0, .cells (r.cells (.sl 3 0 10 us.length c.1) (.sl 4 0 6 es.length c.2)) 55), (3, .view 10 us.length c.1 (urow us) 60), (4, .view 6 es.length c.2 (erow es) 31)]
def outK (r : R18) (us : List U) (ck : Nat) (es : List Ev) (ca : Nat) : Heap := [(0, .cells (r.cells (.sl 1 0 10 us.length ck) (.sl 3 0 6 es.length ca)) 55), (1, .view 10 us.length ck (urow us) 60), (3, .view 6 es.length ca (erow es) 31)]
def outC (us : List U) (es : List Ev) (c : Nat × Nat) : Prop := us.length ≤ c.1 ∧ es.length ≤ c.2
def getK : SV → Heap → Option (List U × Nat)
  | .g (.slice none 0 0), _ => some ([], 0)
  | .sl id _ _ len cap, H => match Eng.look id H with
    | some (.view _ _ _ row _) => some ((List.range len).map (fun j => uRow (row j)), cap)
    | _ => none
  | _, _ => none
def getE : SV → Heap → Option (List Ev × Nat)
  | .g (.slice none 0 0), _ => some ([], 0)
  | .sl id _ _ len cap, H => match Eng.look id H with
    | some (.view _ _ _ row _) => some ((List.range len).map (fun j => eRow (row j)), cap)
    | _ => none
  | _, _ => none
def getS : List SV → Heap → Option S18
  | .ptr id _ _ _ :: _, H => match Eng.look id H with
    | some (.cells [.g (.int .i64 nx), .g (.int .i64 wa), .g (.int .i64 ow), .g (.int .i64 ot), .g (.int .i64 ti), .g (.int .i64 st), .g (.int .i64 le), k, a] _) => match getK k H, getE a H with
      | some (us, ck), some (es, ca) => some ⟨⟨nx, wa, ow, ot, ti, st, le⟩, us, ck, es, ca⟩
      | _, _ => none
    | _ => none
  | _, _ => none
def getSU (a : List SV) (H : Heap) : Option (S18 × U) := match a, getS a H with
  | [_, .agg cs], some s => match uOf cs with
    | some u => some (s, u)
    | none => none
  | _, _ => none
/-! ### send, tell, freeze -/
def toU (r : R18) (u : U) : U := { u with to := r.ot, fr := if u.k = 3 ∨ u.k = 4 then r.ow else u.fr }
def sendE (r : R18) (u : U) : Ev := ⟨1, 0, 0, 0, 0, wrS (toU r u) false⟩
def tellE (k : Int) (d : ByteArray) : Ev := ⟨0, k, 0, 0, 0, d⟩
def C_send18 : Ctr := ⟨3, S18 × U, fun x => [.ptr 0 0 0 0, .agg x.2.cells], fun x => x.1.H, fun x => x.1.ok, fun x =>
  [.any Nat (fun c => (x.1.es ++ [sendE x.1.r x.2]).length ≤ c) (fun _ => .tup []) (fun c => outK x.1.r x.1.us x.1.ck (x.1.es ++ [sendE x.1.r x.2]) c)]⟩
def cx_send18 (_ : S18 × U) : Cx := ⟨ty, ΓOf Γ5, fun _ => [], fun _ _ => [], 40, 3⟩
def Raq0 (x : S18 × U) := (S18.es (Prod.fst x) ++ [sendE (S18.r (Prod.fst x)) (Prod.snd x)])
def VcSend18 : Prop := ∀ (x : S18 × U), S18.ok (Prod.fst x) → condX (bif U.k (Prod.snd x) == (3 : Int) then true else U.k (Prod.snd x) == (4 : Int)) ([SV.agg (List.take (10 : Nat) (List.drop (0 : Nat) [SV.g (Value.int IntKind.i64 (U.k
  (Prod.snd x))), SV.g (Value.int IntKind.i64 (R18.ot (S18.r (Prod.fst x)))), SV.g (Value.int IntKind.i64 (R18.ow (S18.r (Prod.fst x)))), SV.g (Value.int IntKind.i64 (U.cl (Prod.snd x))), SV.g (Value.int IntKind.i64 (U.sz
  (Prod.snd x))), SV.g (Value.int IntKind.i64 (U.nu (Prod.snd x))), SV.g (Value.int IntKind.i64 (U.cr (Prod.snd x))), SV.g (Value.int IntKind.i64 (U.re (Prod.snd x))), SV.g (Value.bool (U.e (Prod.snd x))), SV.g
  (Value.string (U.d (Prod.snd x)))])), SV.g (Value.bool false)] = [SV.agg (U.cells (U.mk (U.k (Prod.snd x)) (R18.ot (S18.r (Prod.fst x))) (R18.ow (S18.r (Prod.fst x))) (U.cl (Prod.snd x)) (U.sz (Prod.snd x)) (U.nu
  (Prod.snd x)) (U.cr (Prod.snd x)) (U.re (Prod.snd x)) (U.e (Prod.snd x)) (U.d (Prod.snd x)))), SV.g (Value.bool false)] ∧ True ∧ (0 : Nat) + List.length (S18.es (Prod.fst x)) ≤ List.length (S18.es (Prod.fst x)) ∧ (0 :
  Nat) + S18.ca (Prod.fst x) ≤ S18.ca (Prod.fst x) ∧ (List.length (S18.es (Prod.fst x)) + (1 : Nat)) * (56 : Nat) ≤ (140737488355328 : Nat) ∧ ∀ (cap : Nat), List.length (S18.es (Prod.fst x)) + (1 : Nat) ≤ cap → (∃ (y :
  Nat), List.length (Raq0 x) ≤ y ∧ R18.nx (S18.r (Prod.fst x)) = R18.nx (S18.r (Prod.fst x)) ∧ R18.wa (S18.r (Prod.fst x)) = R18.wa (S18.r (Prod.fst x)) ∧ R18.ow (S18.r (Prod.fst x)) = R18.ow (S18.r (Prod.fst x)) ∧ R18.ot
  (S18.r (Prod.fst x)) = R18.ot (S18.r (Prod.fst x)) ∧ R18.ti (S18.r (Prod.fst x)) = R18.ti (S18.r (Prod.fst x)) ∧ R18.st (S18.r (Prod.fst x)) = R18.st (S18.r (Prod.fst x)) ∧ R18.le (S18.r (Prod.fst x)) = R18.le (S18.r
  (Prod.fst x)) ∧ (0 : Nat) = (0 : Nat) ∧ List.length (S18.us (Prod.fst x)) = List.length (S18.us (Prod.fst x)) ∧ S18.ck (Prod.fst x) = S18.ck (Prod.fst x) ∧ (0 : Nat) = (0 : Nat) ∧ List.length (S18.es (Prod.fst x)) + (1 :
  Nat) = List.length (Raq0 x) ∧ cap = y ∧ List.length (S18.us (Prod.fst x)) ≤ List.length (S18.us (Prod.fst x)) ∧ List.length (S18.us (Prod.fst x)) ≤ S18.ck (Prod.fst x) ∧ S18.ck (Prod.fst x) ≤ S18.ck (Prod.fst x) ∧ (∀ (j
  : Nat), j < List.length (S18.us (Prod.fst x)) → urow (S18.us (Prod.fst x)) j = urow (S18.us (Prod.fst x)) j ∧ true = true) ∧ List.length (Raq0 x) ≤ List.length (S18.es (Prod.fst x)) + (1 : Nat) ∧ List.length (Raq0 x) ≤ y
  ∧ y ≤ cap ∧ (∀ (j : Nat), j < List.length (Raq0 x) → appRows (0 : Nat) (0 : Nat) (List.length (S18.es (Prod.fst x))) (erow (S18.es (Prod.fst x))) (fun (j : Nat) => List.take (6 : Nat) (List.drop (j * (6 : Nat)) [SV.g
  (Value.int IntKind.i64 (1 : Int)), SV.g (Value.int IntKind.i64 (0 : Int)), SV.g (Value.int IntKind.i64 (0 : Int)), SV.g (Value.int IntKind.i64 (0 : Int)), SV.g (Value.int IntKind.i64 (0 : Int)), SV.g (Value.string (wrS
  (U.mk (U.k (Prod.snd x)) (R18.ot (S18.r (Prod.fst x))) (R18.ow (S18.r (Prod.fst x))) (U.cl (Prod.snd x)) (U.sz (Prod.snd x)) (U.nu (Prod.snd x)) (U.cr (Prod.snd x)) (U.re (Prod.snd x)) (U.e (Prod.snd x)) (U.d (Prod.snd
  x))) false))])) j = erow (Raq0 x) j ∧ true = true) ∧ True) ∨ False) ([SV.agg (List.take (10 : Nat) (List.drop (0 : Nat) [SV.g (Value.int IntKind.i64 (U.k (Prod.snd x))), SV.g (Value.int IntKind.i64 (R18.ot (S18.r
  (Prod.fst x)))), SV.g (Value.int IntKind.i64 (U.fr (Prod.snd x))), SV.g (Value.int IntKind.i64 (U.cl (Prod.snd x))), SV.g (Value.int IntKind.i64 (U.sz (Prod.snd x))), SV.g (Value.int IntKind.i64 (U.nu (Prod.snd x))),
  SV.g (Value.int IntKind.i64 (U.cr (Prod.snd x))), SV.g (Value.int IntKind.i64 (U.re (Prod.snd x))), SV.g (Value.bool (U.e (Prod.snd x))), SV.g (Value.string (U.d (Prod.snd x)))])), SV.g (Value.bool false)] = [SV.agg
  (U.cells (U.mk (U.k (Prod.snd x)) (R18.ot (S18.r (Prod.fst x))) (U.fr (Prod.snd x)) (U.cl (Prod.snd x)) (U.sz (Prod.snd x)) (U.nu (Prod.snd x)) (U.cr (Prod.snd x)) (U.re (Prod.snd x)) (U.e (Prod.snd x)) (U.d (Prod.snd
  x)))), SV.g (Value.bool false)] ∧ True ∧ (0 : Nat) + List.length (S18.es (Prod.fst x)) ≤ List.length (S18.es (Prod.fst x)) ∧ (0 : Nat) + S18.ca (Prod.fst x) ≤ S18.ca (Prod.fst x) ∧ (List.length (S18.es (Prod.fst x)) + (1
  : Nat)) * (56 : Nat) ≤ (140737488355328 : Nat) ∧ ∀ (cap : Nat), List.length (S18.es (Prod.fst x)) + (1 : Nat) ≤ cap → (∃ (y : Nat), List.length (Raq0 x) ≤ y ∧ R18.nx (S18.r (Prod.fst x)) = R18.nx (S18.r (Prod.fst x)) ∧
  R18.wa (S18.r (Prod.fst x)) = R18.wa (S18.r (Prod.fst x)) ∧ R18.ow (S18.r (Prod.fst x)) = R18.ow (S18.r (Prod.fst x)) ∧ R18.ot (S18.r (Prod.fst x)) = R18.ot (S18.r (Prod.fst x)) ∧ R18.ti (S18.r (Prod.fst x)) = R18.ti
  (S18.r (Prod.fst x)) ∧ R18.st (S18.r (Prod.fst x)) = R18.st (S18.r (Prod.fst x)) ∧ R18.le (S18.r (Prod.fst x)) = R18.le (S18.r (Prod.fst x)) ∧ (0 : Nat) = (0 : Nat) ∧ List.length (S18.us (Prod.fst x)) = List.length
  (S18.us (Prod.fst x)) ∧ S18.ck (Prod.fst x) = S18.ck (Prod.fst x) ∧ (0 : Nat) = (0 : Nat) ∧ List.length (S18.es (Prod.fst x)) + (1 : Nat) = List.length (Raq0 x) ∧ cap = y ∧ List.length (S18.us (Prod.fst x)) ≤ List.length
  (S18.us (Prod.fst x)) ∧ List.length (S18.us (Prod.fst x)) ≤ S18.ck (Prod.fst x) ∧ S18.ck (Prod.fst x) ≤ S18.ck (Prod.fst x) ∧ (∀ (j : Nat), j < List.length (S18.us (Prod.fst x)) → urow (S18.us (Prod.fst x)) j = urow
  (S18.us (Prod.fst x)) j ∧ true = true) ∧ List.length (Raq0 x) ≤ List.length (S18.es (Prod.fst x)) + (1 : Nat) ∧ List.length (Raq0 x) ≤ y ∧ y ≤ cap ∧ (∀ (j : Nat), j < List.length (Raq0 x) → appRows (0 : Nat) (0 : Nat)
  (List.length (S18.es (Prod.fst x))) (erow (S18.es (Prod.fst x))) (fun (j : Nat) => List.take (6 : Nat) (List.drop (j * (6 : Nat)) [SV.g (Value.int IntKind.i64 (1 : Int)), SV.g (Value.int IntKind.i64 (0 : Int)), SV.g
  (Value.int IntKind.i64 (0 : Int)), SV.g (Value.int IntKind.i64 (0 : Int)), SV.g (Value.int IntKind.i64 (0 : Int)), SV.g (Value.string (wrS (U.mk (U.k (Prod.snd x)) (R18.ot (S18.r (Prod.fst x))) (U.fr (Prod.snd x)) (U.cl
  (Prod.snd x)) (U.sz (Prod.snd x)) (U.nu (Prod.snd x)) (U.cr (Prod.snd x)) (U.re (Prod.snd x)) (U.e (Prod.snd x)) (U.d (Prod.snd x))) false))])) j = erow (Raq0 x) j ∧ true = true) ∧ True) ∨ False)
theorem vcSend18E : VcSend18 = (∀ (x : S18 × U), x.1.ok → fnX (cx_send18 x) (bodyOf Try.f40) Try.f40.results.toList (C_send18.args x) (C_send18.H x) (endX 3 (C_send18.outs x))) := by kernel_rfl
set_option maxHeartbeats 4000000 in
theorem vcSend18 : VcSend18 := by
  unfold VcSend18 Raq0
  rintro ⟨⟨r, us, ck, es, ca⟩, u⟩ ⟨h1, h2, h3, h4, h5⟩
  have h1 : us.length ≤ ck := h1
  have h2 : es.length ≤ ca := h2
  have h3 : us.length ≤ 60 := h3
  have h4 : es.length ≤ 200 := h4
  have h5 : r.ok := h5
  simp only [eq_self, true_and, and_true, Nat.le_refl, Int.le_refl, implies_true, forall_const, and_false, false_and, exists_false, false_or, or_false, true_implies, Nat.zero_add, and_self, Int.toNat_natCast, cond_true, cond_false, h1, h2, uRow_urow, eRow_erow, condT, condF]
  have hl : (es ++ [sendE r u]).length = es.length + 1 := by simp
  refine (condX_iff _ _ _).2 ⟨fun h => ?_, fun h => ?_⟩
  · have ht : toU r u = ⟨u.k, r.ot, r.ow, u.cl, u.sz, u.nu, u.cr, u.re, u.e, u.d⟩ := by
      have : u.k = 3 ∨ u.k = 4 := by simpa using h
      simp [toU, this]
    refine ⟨rfl, by omega, fun cap hcap => ⟨cap, ?_⟩⟩
    and_intros <;> first | omega | with_reducible rfl | (rw [hl]; exact hcap) | exact fun j hj => trivial | skip
    intro j hj
    exact erow_app (by show _ = (Ev.mk 1 0 0 0 0 (wrS (toU r u) false)).cells; rw [ht]; rfl) (by omega)
  · have ht : toU r u = ⟨u.k, r.ot, u.fr, u.cl, u.sz, u.nu, u.cr, u.re, u.e, u.d⟩ := by
      have : ¬ (u.k = 3 ∨ u.k = 4) := by simpa using h
      simp [toU, this]
    refine ⟨rfl, by omega, fun cap hcap => ⟨cap, ?_⟩⟩
    and_intros <;> first | omega | with_reducible rfl | (rw [hl]; exact hcap) | exact fun j hj => trivial | skip
    intro j hj
    exact erow_app (by show _ = (Ev.mk 1 0 0 0 0 (wrS (toU r u) false)).cells; rw [ht]; rfl) (by omega)
theorem vcSend18K : ∀ (x : S18 × U), x.1.ok → Held (fnX (cx_send18 x) (bodyOf Try.f40) Try.f40.results.toList (C_send18.args x) (C_send18.H x) (endX 3 (C_send18.outs x))) := held2 vcSend18E vcSend18
def C_tell18 : Ctr := ⟨3, S18 × Int × ByteArray, fun x => [.ptr 0 0 0 0, .g (.int .i64 x.2.1), .g (.string x.2.2)], fun x => x.1.H, fun x => x.1.ok, fun x =>
  [.any Nat (fun c => (x.1.es ++ [tellE x.2.1 x.2.2]).length ≤ c) (fun _ => .tup []) (fun c => outK x.1.r x.1.us x.1.ck (x.1.es ++ [tellE x.2.1 x.2.2]) c)]⟩
def cx_tell18 (_ : S18 × Int × ByteArray) : Cx := ⟨ty, ΓOf Γ5, fun _ => [], fun _ _ => [], 18, 3⟩
def VcTell18 : Prop := ∀ (x : S18 × Int × ByteArray), S18.ok (Prod.fst x) → (0 : Nat) + List.length (S18.es (Prod.fst x)) ≤ List.length (S18.es (Prod.fst x)) ∧ (0 : Nat) + S18.ca (Prod.fst x) ≤ S18.ca (Prod.fst x) ∧ (List.length (S18.es
  (Prod.fst x)) + (1 : Nat)) * (56 : Nat) ≤ (140737488355328 : Nat) ∧ ∀ (cap : Nat), List.length (S18.es (Prod.fst x)) + (1 : Nat) ≤ cap → (∃ (y : Nat), List.length (S18.es (Prod.fst x) ++ [tellE (Prod.fst (Prod.snd x))
  (Prod.snd (Prod.snd x))]) ≤ y ∧ R18.nx (S18.r (Prod.fst x)) = R18.nx (S18.r (Prod.fst x)) ∧ R18.wa (S18.r (Prod.fst x)) = R18.wa (S18.r (Prod.fst x)) ∧ R18.ow (S18.r (Prod.fst x)) = R18.ow (S18.r (Prod.fst x)) ∧ R18.ot
  (S18.r (Prod.fst x)) = R18.ot (S18.r (Prod.fst x)) ∧ R18.ti (S18.r (Prod.fst x)) = R18.ti (S18.r (Prod.fst x)) ∧ R18.st (S18.r (Prod.fst x)) = R18.st (S18.r (Prod.fst x)) ∧ R18.le (S18.r (Prod.fst x)) = R18.le (S18.r
  (Prod.fst x)) ∧ (0 : Nat) = (0 : Nat) ∧ List.length (S18.us (Prod.fst x)) = List.length (S18.us (Prod.fst x)) ∧ S18.ck (Prod.fst x) = S18.ck (Prod.fst x) ∧ (0 : Nat) = (0 : Nat) ∧ List.length (S18.es (Prod.fst x)) + (1 :
  Nat) = List.length (S18.es (Prod.fst x) ++ [tellE (Prod.fst (Prod.snd x)) (Prod.snd (Prod.snd x))]) ∧ cap = y ∧ List.length (S18.us (Prod.fst x)) ≤ List.length (S18.us (Prod.fst x)) ∧ List.length (S18.us (Prod.fst x)) ≤
  S18.ck (Prod.fst x) ∧ S18.ck (Prod.fst x) ≤ S18.ck (Prod.fst x) ∧ (∀ (j : Nat), j < List.length (S18.us (Prod.fst x)) → urow (S18.us (Prod.fst x)) j = urow (S18.us (Prod.fst x)) j ∧ true = true) ∧ List.length (S18.es
  (Prod.fst x) ++ [tellE (Prod.fst (Prod.snd x)) (Prod.snd (Prod.snd x))]) ≤ List.length (S18.es (Prod.fst x)) + (1 : Nat) ∧ List.length (S18.es (Prod.fst x) ++ [tellE (Prod.fst (Prod.snd x)) (Prod.snd (Prod.snd x))]) ≤ y
  ∧ y ≤ cap ∧ (∀ (j : Nat), j < List.length (S18.es (Prod.fst x) ++ [tellE (Prod.fst (Prod.snd x)) (Prod.snd (Prod.snd x))]) → appRows (0 : Nat) (0 : Nat) (List.length (S18.es (Prod.fst x))) (erow (S18.es (Prod.fst x)))
  (fun (j : Nat) => List.take (6 : Nat) (List.drop (j * (6 : Nat)) [SV.g (Value.int IntKind.i64 (0 : Int)), SV.g (Value.int IntKind.i64 (Prod.fst (Prod.snd x))), SV.g (Value.int IntKind.i64 (0 : Int)), SV.g (Value.int
  IntKind.i64 (0 : Int)), SV.g (Value.int IntKind.i64 (0 : Int)), SV.g (Value.string (Prod.snd (Prod.snd x)))])) j = erow (S18.es (Prod.fst x) ++ [tellE (Prod.fst (Prod.snd x)) (Prod.snd (Prod.snd x))]) j ∧ true = true) ∧
  True) ∨ False
theorem vcTell18E : VcTell18 = (∀ (x : S18 × Int × ByteArray), x.1.ok → fnX (cx_tell18 x) (bodyOf Try.f46) Try.f46.results.toList (C_tell18.args x) (C_tell18.H x) (endX 3 (C_tell18.outs x))) := by kernel_rfl
set_option maxHeartbeats 4000000 in
theorem vcTell18 : VcTell18 := by
  rintro ⟨⟨r, us, ck, es, ca⟩, k, d⟩ ⟨h1, h2, h3, h4, h5⟩
  have h1 : us.length ≤ ck := h1
  have h2 : es.length ≤ ca := h2
  have h3 : us.length ≤ 60 := h3
  have h4 : es.length ≤ 200 := h4
  have h5 : r.ok := h5
  simp only [eq_self, true_and, and_true, Nat.le_refl, Int.le_refl, implies_true, forall_const, and_false, false_and, exists_false, false_or, or_false, true_implies, Nat.zero_add, and_self, Int.toNat_natCast, cond_true, cond_false, h1, h2, uRow_urow, eRow_erow, condT, condF]
  have hl : (es ++ [tellE k d]).length = es.length + 1 := by simp
  refine ⟨by omega, fun cap hcap => ⟨cap, ?_⟩⟩
  and_intros <;> first | omega | with_reducible rfl | (rw [hl]; exact hcap) | exact fun j hj => trivial | skip
  intro j hj
  exact erow_app rfl (by omega)
theorem vcTell18K : ∀ (x : S18 × Int × ByteArray), x.1.ok → Held (fnX (cx_tell18 x) (bodyOf Try.f46) Try.f46.results.toList (C_tell18.args x) (C_tell18.H x) (endX 3 (C_tell18.outs x))) := held2 vcTell18E vcTell18
def getST (a : List SV) (H : Heap) : Option (S18 × Int × ByteArray) := match a, getS a H with
  | [_, .g (.int .i64 k), .g (.string d)], some s => some (s, k, d)
  | _, _ => none
theorem ok_send18 : GenSound Try.prog Λ0 40 (callX C_send18 getSU) :=
  gen_of (ty := ty) (Γ := ΓOf Γ5) hm tyOK Γ5_ok (fnOK_of Try.func40 (by kernel_rfl) (by kernel_rfl)) Try.func40 (body_some (by kernel_rfl)) C_send18 getSU Try.ntmps40 (fun _ => Nat.le_of_ble_eq_true rfl) (fun x => (cx_send18 x).cut) (fun x => (cx_send18 x).loop) fun x h => vcSend18K x h
theorem ok_tell18 : GenSound Try.prog Λ0 46 (callX C_tell18 getST) :=
  gen_of (ty := ty) (Γ := ΓOf Γ5) hm tyOK Γ5_ok (fnOK_of Try.func46 (by kernel_rfl) (by kernel_rfl)) Try.func46 (body_some (by kernel_rfl)) C_tell18 getST Try.ntmps46 (fun _ => Nat.le_of_ble_eq_true rfl) (fun x => (cx_tell18 x).cut) (fun x => (cx_tell18 x).loop) fun x h => vcTell18K x h
def Γsd : List (Nat × Rule) := (40, .gen (callX C_send18 getSU)) :: (46, .gen (callX C_tell18 getST)) :: Γ5
theorem Γsd_ok : ΓOK Try.prog Λ0 (ΓOf Γsd) := (ΓOf_cons ok_send18 (ΓOf_cons ok_tell18 Γ5_ok))
def frR (r : R18) : R18 := { r with st := 3, le := r.ti }
def C_freeze18 : Ctr := ⟨3, S18, fun _ => [.ptr 0 0 0 0], fun x => x.H, fun x => x.ok, fun x =>
  [.any (Nat × Nat) (outC [] (x.es ++ [tellE 4 ⟨#[]⟩])) (fun _ => .tup []) (outH (frR x.r) [] (x.es ++ [tellE 4 ⟨#[]⟩]))]⟩
def cx_freeze18 (_ : S18) : Cx := ⟨ty, ΓOf Γsd, fun _ => [], fun _ _ => [], 17, 3⟩
def VcFreeze18 : Prop := ∀ (x : S18), S18.ok x → (0 : Nat) = (0 : Nat) ∧ (4 : Int) = (4 : Int) ∧ ByteArray.mk #[] = ByteArray.mk #[] ∧ R18.nx (S18.r x) = R18.nx (S18.r x) ∧ R18.wa (S18.r x) = R18.wa (S18.r x) ∧ R18.ow (S18.r x) = R18.ow (S18.r
  x) ∧ R18.ot (S18.r x) = R18.ot (S18.r x) ∧ R18.ti (S18.r x) = R18.ti (S18.r x) ∧ (3 : Int) = (3 : Int) ∧ R18.ti (S18.r x) = R18.ti (S18.r x) ∧ (0 : Nat) = (0 : Nat) ∧ (0 : Nat) = (0 : Nat) ∧ (0 : Nat) = (0 : Nat) ∧
  List.length (S18.es x) = List.length (List.map (fun (j : Nat) => eRow (erow (S18.es x) j)) (List.range (List.length (S18.es x)))) ∧ S18.ca x = S18.ca x ∧ (0 : Nat) = (0 : Nat) ∧ List.length (List.map (fun (j : Nat) =>
  eRow (erow (S18.es x) j)) (List.range (List.length (S18.es x)))) ≤ List.length (S18.es x) ∧ List.length (List.map (fun (j : Nat) => eRow (erow (S18.es x) j)) (List.range (List.length (S18.es x)))) ≤ S18.ca x ∧ S18.ca x ≤
  S18.ca x ∧ (∀ (j : Nat), j < List.length (List.map (fun (j : Nat) => eRow (erow (S18.es x) j)) (List.range (List.length (S18.es x)))) → erow (S18.es x) j = erow (List.map (fun (j : Nat) => eRow (erow (S18.es x) j))
  (List.range (List.length (S18.es x)))) j ∧ true = true) ∧ S18.ok (S18.mk (R18.mk (R18.nx (S18.r x)) (R18.wa (S18.r x)) (R18.ow (S18.r x)) (R18.ot (S18.r x)) (R18.ti (S18.r x)) (3 : Int) (R18.ti (S18.r x))) [] (0 : Nat)
  (List.map (fun (j : Nat) => eRow (erow (S18.es x) j)) (List.range (List.length (S18.es x)))) (S18.ca x)) ∧ ∀ (y : Nat), List.length (List.map (fun (j : Nat) => eRow (erow (S18.es x) j)) (List.range (List.length (S18.es
  x))) ++ [tellE (4 : Int) (ByteArray.mk #[])]) ≤ y → (∃ (y_1 : Nat × Nat), outC [] (S18.es x ++ [tellE (4 : Int) (ByteArray.mk #[])]) y_1 ∧ R18.nx (S18.r x) = R18.nx (S18.r x) ∧ R18.wa (S18.r x) = R18.wa (S18.r x) ∧
  R18.ow (S18.r x) = R18.ow (S18.r x) ∧ R18.ot (S18.r x) = R18.ot (S18.r x) ∧ R18.ti (S18.r x) = R18.ti (S18.r x) ∧ (3 : Int) = (3 : Int) ∧ R18.ti (S18.r x) = R18.ti (S18.r x) ∧ (0 : Nat) = (0 : Nat) ∧ Prod.fst y_1 = (0 :
  Nat) ∧ (0 : Nat) = (0 : Nat) ∧ List.length (List.map (fun (j : Nat) => eRow (erow (S18.es x) j)) (List.range (List.length (S18.es x))) ++ [tellE (4 : Int) (ByteArray.mk #[])]) = List.length (S18.es x ++ [tellE (4 : Int)
  (ByteArray.mk #[])]) ∧ y = Prod.snd y_1 ∧ (0 : Nat) = (0 : Nat) ∧ List.length (S18.es x ++ [tellE (4 : Int) (ByteArray.mk #[])]) ≤ List.length (List.map (fun (j : Nat) => eRow (erow (S18.es x) j)) (List.range
  (List.length (S18.es x))) ++ [tellE (4 : Int) (ByteArray.mk #[])]) ∧ List.length (S18.es x ++ [tellE (4 : Int) (ByteArray.mk #[])]) ≤ Prod.snd y_1 ∧ Prod.snd y_1 ≤ y ∧ (∀ (j : Nat), j < List.length (S18.es x ++ [tellE (4
  : Int) (ByteArray.mk #[])]) → erow (List.map (fun (j : Nat) => eRow (erow (S18.es x) j)) (List.range (List.length (S18.es x))) ++ [tellE (4 : Int) (ByteArray.mk #[])]) j = erow (S18.es x ++ [tellE (4 : Int) (ByteArray.mk
  #[])]) j ∧ true = true) ∧ True) ∨ False
theorem vcFreeze18E : VcFreeze18 = (∀ (x : S18), x.ok → fnX (cx_freeze18 x) (bodyOf Try.f48) Try.f48.results.toList (C_freeze18.args x) (C_freeze18.H x) (endX 3 (C_freeze18.outs x))) := by kernel_rfl
set_option maxHeartbeats 4000000 in
theorem vcFreeze18 : VcFreeze18 := by
  rintro ⟨r, us, ck, es, ca⟩ ⟨h1, h2, h3, h4, h5⟩
  have h1 : us.length ≤ ck := h1
  have h2 : es.length ≤ ca := h2
  have h3 : us.length ≤ 60 := h3
  have h4 : es.length ≤ 200 := h4
  have h5 : r.ok := h5
  simp only [eq_self, true_and, and_true, Nat.le_refl, Int.le_refl, implies_true, forall_const, and_false, false_and, exists_false, false_or, or_false, true_implies, Nat.zero_add, and_self, Int.toNat_natCast, cond_true, cond_false, h1, h2, uRow_urow, eRow_erow, condT, condF]
  refine ⟨⟨Nat.le_refl _, h2, Nat.zero_le _, h4, ⟨h5.nx, h5.wa, h5.ti, ⟨by have := h5.ti; dsimp only; omega, h5.ti.2⟩, fun _ => h5.ti.1⟩⟩, fun y hy => ⟨(0, y), ?_⟩⟩
  dsimp only
  and_intros <;> first | omega | with_reducible rfl | exact ⟨Nat.le_refl _, hy⟩ | exact fun j hj => trivial | exact hy | exact Nat.zero_le _
theorem vcFreeze18K : ∀ (x : S18), x.ok → Held (fnX (cx_freeze18 x) (bodyOf Try.f48) Try.f48.results.toList (C_freeze18.args x) (C_freeze18.H x) (endX 3 (C_freeze18.outs x))) := held2 vcFreeze18E vcFreeze18
def getS0 (a : List SV) (H : Heap) : Option S18 := match a with
  | [_] => getS a H
  | _ => none
theorem ok_freeze18 : GenSound Try.prog Λ0 48 (callX C_freeze18 getS0) :=
  gen_of (ty := ty) (Γ := ΓOf Γsd) hm tyOK Γsd_ok (fnOK_of Try.func48 (by kernel_rfl) (by kernel_rfl)) Try.func48 (body_some (by kernel_rfl)) C_freeze18 getS0 Try.ntmps48 (fun _ => Nat.le_of_ble_eq_true rfl) (fun x => (cx_freeze18 x).cut) (fun x => (cx_freeze18 x).loop) fun x h => vcFreeze18K x h
/-! ### reset -/
@[reducible] def vK (k to fr nu : Int) : U := ⟨k, to, fr, 0, 0, nu, 0, 0, false, ⟨#[]⟩⟩
def rstR (r : R18) : R18 := if r.st = 0 ∨ r.st = 1 then { r with st := 1 } else r
def rstE (r : R18) (es : List Ev) : List Ev := if r.st = 0 ∨ r.st = 1 then es ++ [sendE { r with st := 1 } (vK 7 0 0 r.wa)] else if r.st = 2 then es ++ [sendE r (vK 3 0 0 0)] else es
def stR (r : R18) (s : Int) : R18 := ⟨r.nx, r.wa, r.ow, r.ot, r.ti, s, r.le⟩
theorem ok_st {r : R18} (h : r.ok) {s : Int} (hs : s ≠ 3) : R18.ok ⟨r.nx, r.wa, r.ow, r.ot, r.ti, s, r.le⟩ := ⟨h.nx, h.wa, h.ti, h.le, fun e => absurd e hs⟩
theorem ok_nx {r : R18} (h : r.ok) : R18.ok ⟨(r.nx + 1) % 128, r.wa, r.ow, r.ot, r.ti, r.st, r.le⟩ := ⟨by dsimp only; omega, h.wa, h.ti, h.le, h.st⟩
def C_reset18 : Ctr := ⟨3, S18, fun _ => [.ptr 0 0 0 0], fun x => x.H, fun x => x.ok, fun x =>
  [.any (Nat × Nat) (outC x.us (rstE x.r x.es)) (fun _ => .tup []) (outH (rstR x.r) x.us (rstE x.r x.es))]⟩
def cx_reset18 (_ : S18) : Cx := ⟨ty, ΓOf Γsd, fun _ => [], fun _ _ => [], 25, 3⟩
def Raq1 (x : S18) := (List.map (fun (j : Nat) => uRow (urow (S18.us x) j)) (List.range (List.length (S18.us x))))
def Raq2 (x : S18) := (List.map (fun (j : Nat) => eRow (erow (S18.es x) j)) (List.range (List.length (S18.es x))) ++ [sendE (R18.mk (R18.nx (S18.r x)) (R18.wa (S18.r x)) (R18.ow (S18.r x)) (R18.ot (S18.r x)) (R18.ti (S18.r x)) (1 : Int)
  (R18.le (S18.r x))) (U.mk (7 : Int) (0 : Int) (0 : Int) (0 : Int) (0 : Int) (R18.wa (S18.r x)) (0 : Int) (0 : Int) false (ByteArray.mk #[]))])
def Raq3 (x : S18) := (List.map (fun (j : Nat) => eRow (erow (S18.es x) j)) (List.range (List.length (S18.es x))))
def Raq4 (x : S18) := (List.map (fun (j : Nat) => eRow (erow (S18.es x) j)) (List.range (List.length (S18.es x))) ++ [sendE (S18.r x) (U.mk (3 : Int) (0 : Int) (0 : Int) (0 : Int) (0 : Int) (0 : Int) (0 : Int) (0 : Int) false (ByteArray.mk
  #[]))])
def VcReset18 : Prop := ∀ (x : S18), S18.ok x → condX (R18.st (S18.r x) == (0 : Int)) (condX (R18.st (S18.r x) == (0 : Int)) ((0 : Nat) = (0 : Nat) ∧ (7 : Int) = (7 : Int) ∧ (0 : Int) = (0 : Int) ∧ (0 : Int) = (0 : Int) ∧ (0 : Int) = (0 : Int)
  ∧ (0 : Int) = (0 : Int) ∧ R18.wa (S18.r x) = R18.wa (S18.r x) ∧ (0 : Int) = (0 : Int) ∧ (0 : Int) = (0 : Int) ∧ false = false ∧ ByteArray.mk #[] = ByteArray.mk #[] ∧ R18.nx (S18.r x) = R18.nx (S18.r x) ∧ R18.wa (S18.r x)
  = R18.wa (S18.r x) ∧ R18.ow (S18.r x) = R18.ow (S18.r x) ∧ R18.ot (S18.r x) = R18.ot (S18.r x) ∧ R18.ti (S18.r x) = R18.ti (S18.r x) ∧ (1 : Int) = (1 : Int) ∧ R18.le (S18.r x) = R18.le (S18.r x) ∧ (0 : Nat) = (0 : Nat) ∧
  List.length (S18.us x) = List.length (Raq1 x) ∧ S18.ck x = S18.ck x ∧ (0 : Nat) = (0 : Nat) ∧ List.length (S18.es x) = List.length (Raq3 x) ∧ S18.ca x = S18.ca x ∧ List.length (Raq1 x) ≤ List.length (S18.us x) ∧
  List.length (Raq1 x) ≤ S18.ck x ∧ S18.ck x ≤ S18.ck x ∧ (∀ (j : Nat), j < List.length (Raq1 x) → urow (S18.us x) j = urow (Raq1 x) j ∧ true = true) ∧ List.length (Raq3 x) ≤ List.length (S18.es x) ∧ List.length (Raq3 x) ≤
  S18.ca x ∧ S18.ca x ≤ S18.ca x ∧ (∀ (j : Nat), j < List.length (Raq3 x) → erow (S18.es x) j = erow (Raq3 x) j ∧ true = true) ∧ S18.ok (S18.mk (R18.mk (R18.nx (S18.r x)) (R18.wa (S18.r x)) (R18.ow (S18.r x)) (R18.ot
  (S18.r x)) (R18.ti (S18.r x)) (1 : Int) (R18.le (S18.r x))) (Raq1 x) (S18.ck x) (Raq3 x) (S18.ca x)) ∧ ∀ (y : Nat), List.length (Raq2 x) ≤ y → (∃ (y_1 : Nat × Nat), outC (S18.us x) (rstE (S18.r x) (S18.es x)) y_1 ∧
  R18.nx (S18.r x) = R18.nx (rstR (S18.r x)) ∧ R18.wa (S18.r x) = R18.wa (rstR (S18.r x)) ∧ R18.ow (S18.r x) = R18.ow (rstR (S18.r x)) ∧ R18.ot (S18.r x) = R18.ot (rstR (S18.r x)) ∧ R18.ti (S18.r x) = R18.ti (rstR (S18.r
  x)) ∧ (1 : Int) = R18.st (rstR (S18.r x)) ∧ R18.le (S18.r x) = R18.le (rstR (S18.r x)) ∧ (0 : Nat) = (0 : Nat) ∧ List.length (Raq1 x) = List.length (S18.us x) ∧ S18.ck x = Prod.fst y_1 ∧ (0 : Nat) = (0 : Nat) ∧
  List.length (Raq2 x) = List.length (rstE (S18.r x) (S18.es x)) ∧ y = Prod.snd y_1 ∧ List.length (S18.us x) ≤ List.length (Raq1 x) ∧ List.length (S18.us x) ≤ Prod.fst y_1 ∧ Prod.fst y_1 ≤ S18.ck x ∧ (∀ (j : Nat), j <
  List.length (S18.us x) → urow (Raq1 x) j = urow (S18.us x) j ∧ true = true) ∧ List.length (rstE (S18.r x) (S18.es x)) ≤ List.length (Raq2 x) ∧ List.length (rstE (S18.r x) (S18.es x)) ≤ Prod.snd y_1 ∧ Prod.snd y_1 ≤ y ∧
  (∀ (j : Nat), j < List.length (rstE (S18.r x) (S18.es x)) → erow (Raq2 x) j = erow (rstE (S18.r x) (S18.es x)) j ∧ true = true) ∧ True) ∨ False) (condX (R18.st (S18.r x) == (2 : Int)) ((0 : Nat) = (0 : Nat) ∧ (3 : Int) =
  (3 : Int) ∧ (0 : Int) = (0 : Int) ∧ (0 : Int) = (0 : Int) ∧ (0 : Int) = (0 : Int) ∧ (0 : Int) = (0 : Int) ∧ (0 : Int) = (0 : Int) ∧ (0 : Int) = (0 : Int) ∧ (0 : Int) = (0 : Int) ∧ false = false ∧ ByteArray.mk #[] =
  ByteArray.mk #[] ∧ R18.nx (S18.r x) = R18.nx (S18.r x) ∧ R18.wa (S18.r x) = R18.wa (S18.r x) ∧ R18.ow (S18.r x) = R18.ow (S18.r x) ∧ R18.ot (S18.r x) = R18.ot (S18.r x) ∧ R18.ti (S18.r x) = R18.ti (S18.r x) ∧ R18.st
  (S18.r x) = R18.st (S18.r x) ∧ R18.le (S18.r x) = R18.le (S18.r x) ∧ (0 : Nat) = (0 : Nat) ∧ List.length (S18.us x) = List.length (Raq1 x) ∧ S18.ck x = S18.ck x ∧ (0 : Nat) = (0 : Nat) ∧ List.length (S18.es x) =
  List.length (Raq3 x) ∧ S18.ca x = S18.ca x ∧ List.length (Raq1 x) ≤ List.length (S18.us x) ∧ List.length (Raq1 x) ≤ S18.ck x ∧ S18.ck x ≤ S18.ck x ∧ (∀ (j : Nat), j < List.length (Raq1 x) → urow (S18.us x) j = urow (Raq1
  x) j ∧ true = true) ∧ List.length (Raq3 x) ≤ List.length (S18.es x) ∧ List.length (Raq3 x) ≤ S18.ca x ∧ S18.ca x ≤ S18.ca x ∧ (∀ (j : Nat), j < List.length (Raq3 x) → erow (S18.es x) j = erow (Raq3 x) j ∧ true = true) ∧
  S18.ok (S18.mk (S18.r x) (Raq1 x) (S18.ck x) (Raq3 x) (S18.ca x)) ∧ ∀ (y : Nat), List.length (Raq4 x) ≤ y → (∃ (y_1 : Nat × Nat), outC (S18.us x) (rstE (S18.r x) (S18.es x)) y_1 ∧ R18.nx (S18.r x) = R18.nx (rstR (S18.r
  x)) ∧ R18.wa (S18.r x) = R18.wa (rstR (S18.r x)) ∧ R18.ow (S18.r x) = R18.ow (rstR (S18.r x)) ∧ R18.ot (S18.r x) = R18.ot (rstR (S18.r x)) ∧ R18.ti (S18.r x) = R18.ti (rstR (S18.r x)) ∧ R18.st (S18.r x) = R18.st (rstR
  (S18.r x)) ∧ R18.le (S18.r x) = R18.le (rstR (S18.r x)) ∧ (0 : Nat) = (0 : Nat) ∧ List.length (Raq1 x) = List.length (S18.us x) ∧ S18.ck x = Prod.fst y_1 ∧ (0 : Nat) = (0 : Nat) ∧ List.length (Raq4 x) = List.length (rstE
  (S18.r x) (S18.es x)) ∧ y = Prod.snd y_1 ∧ List.length (S18.us x) ≤ List.length (Raq1 x) ∧ List.length (S18.us x) ≤ Prod.fst y_1 ∧ Prod.fst y_1 ≤ S18.ck x ∧ (∀ (j : Nat), j < List.length (S18.us x) → urow (Raq1 x) j =
  urow (S18.us x) j ∧ true = true) ∧ List.length (rstE (S18.r x) (S18.es x)) ≤ List.length (Raq4 x) ∧ List.length (rstE (S18.r x) (S18.es x)) ≤ Prod.snd y_1 ∧ Prod.snd y_1 ≤ y ∧ (∀ (j : Nat), j < List.length (rstE (S18.r
  x) (S18.es x)) → erow (Raq4 x) j = erow (rstE (S18.r x) (S18.es x)) j ∧ true = true) ∧ True) ∨ False) ((∃ (yᵥ1 : Nat × Nat), outC (S18.us x) (rstE (S18.r x) (S18.es x)) yᵥ1 ∧ R18.nx (S18.r x) = R18.nx (rstR (S18.r x)) ∧
  R18.wa (S18.r x) = R18.wa (rstR (S18.r x)) ∧ R18.ow (S18.r x) = R18.ow (rstR (S18.r x)) ∧ R18.ot (S18.r x) = R18.ot (rstR (S18.r x)) ∧ R18.ti (S18.r x) = R18.ti (rstR (S18.r x)) ∧ R18.st (S18.r x) = R18.st (rstR (S18.r
  x)) ∧ R18.le (S18.r x) = R18.le (rstR (S18.r x)) ∧ (0 : Nat) = (0 : Nat) ∧ List.length (S18.us x) = List.length (S18.us x) ∧ S18.ck x = Prod.fst yᵥ1 ∧ (0 : Nat) = (0 : Nat) ∧ List.length (S18.es x) = List.length (rstE
  (S18.r x) (S18.es x)) ∧ S18.ca x = Prod.snd yᵥ1 ∧ List.length (S18.us x) ≤ List.length (S18.us x) ∧ List.length (S18.us x) ≤ Prod.fst yᵥ1 ∧ Prod.fst yᵥ1 ≤ S18.ck x ∧ (∀ (j : Nat), j < List.length (S18.us x) → urow
  (S18.us x) j = urow (S18.us x) j ∧ true = true) ∧ List.length (rstE (S18.r x) (S18.es x)) ≤ List.length (S18.es x) ∧ List.length (rstE (S18.r x) (S18.es x)) ≤ Prod.snd yᵥ1 ∧ Prod.snd yᵥ1 ≤ S18.ca x ∧ (∀ (j : Nat), j <
  List.length (rstE (S18.r x) (S18.es x)) → erow (S18.es x) j = erow (rstE (S18.r x) (S18.es x)) j ∧ true = true) ∧ True) ∨ False))) (condX (R18.st (S18.r x) == (1 : Int)) ((0 : Nat) = (0 : Nat) ∧ (7 : Int) = (7 : Int) ∧
  (0 : Int) = (0 : Int) ∧ (0 : Int) = (0 : Int) ∧ (0 : Int) = (0 : Int) ∧ (0 : Int) = (0 : Int) ∧ R18.wa (S18.r x) = R18.wa (S18.r x) ∧ (0 : Int) = (0 : Int) ∧ (0 : Int) = (0 : Int) ∧ false = false ∧ ByteArray.mk #[] =
  ByteArray.mk #[] ∧ R18.nx (S18.r x) = R18.nx (S18.r x) ∧ R18.wa (S18.r x) = R18.wa (S18.r x) ∧ R18.ow (S18.r x) = R18.ow (S18.r x) ∧ R18.ot (S18.r x) = R18.ot (S18.r x) ∧ R18.ti (S18.r x) = R18.ti (S18.r x) ∧ (1 : Int) =
  (1 : Int) ∧ R18.le (S18.r x) = R18.le (S18.r x) ∧ (0 : Nat) = (0 : Nat) ∧ List.length (S18.us x) = List.length (Raq1 x) ∧ S18.ck x = S18.ck x ∧ (0 : Nat) = (0 : Nat) ∧ List.length (S18.es x) = List.length (Raq3 x) ∧
  S18.ca x = S18.ca x ∧ List.length (Raq1 x) ≤ List.length (S18.us x) ∧ List.length (Raq1 x) ≤ S18.ck x ∧ S18.ck x ≤ S18.ck x ∧ (∀ (j : Nat), j < List.length (Raq1 x) → urow (S18.us x) j = urow (Raq1 x) j ∧ true = true) ∧
  List.length (Raq3 x) ≤ List.length (S18.es x) ∧ List.length (Raq3 x) ≤ S18.ca x ∧ S18.ca x ≤ S18.ca x ∧ (∀ (j : Nat), j < List.length (Raq3 x) → erow (S18.es x) j = erow (Raq3 x) j ∧ true = true) ∧ S18.ok (S18.mk (R18.mk
  (R18.nx (S18.r x)) (R18.wa (S18.r x)) (R18.ow (S18.r x)) (R18.ot (S18.r x)) (R18.ti (S18.r x)) (1 : Int) (R18.le (S18.r x))) (Raq1 x) (S18.ck x) (Raq3 x) (S18.ca x)) ∧ ∀ (y : Nat), List.length (Raq2 x) ≤ y → (∃ (y_1 :
  Nat × Nat), outC (S18.us x) (rstE (S18.r x) (S18.es x)) y_1 ∧ R18.nx (S18.r x) = R18.nx (rstR (S18.r x)) ∧ R18.wa (S18.r x) = R18.wa (rstR (S18.r x)) ∧ R18.ow (S18.r x) = R18.ow (rstR (S18.r x)) ∧ R18.ot (S18.r x) =
  R18.ot (rstR (S18.r x)) ∧ R18.ti (S18.r x) = R18.ti (rstR (S18.r x)) ∧ (1 : Int) = R18.st (rstR (S18.r x)) ∧ R18.le (S18.r x) = R18.le (rstR (S18.r x)) ∧ (0 : Nat) = (0 : Nat) ∧ List.length (Raq1 x) = List.length (S18.us
  x) ∧ S18.ck x = Prod.fst y_1 ∧ (0 : Nat) = (0 : Nat) ∧ List.length (Raq2 x) = List.length (rstE (S18.r x) (S18.es x)) ∧ y = Prod.snd y_1 ∧ List.length (S18.us x) ≤ List.length (Raq1 x) ∧ List.length (S18.us x) ≤ Prod.fst
  y_1 ∧ Prod.fst y_1 ≤ S18.ck x ∧ (∀ (j : Nat), j < List.length (S18.us x) → urow (Raq1 x) j = urow (S18.us x) j ∧ true = true) ∧ List.length (rstE (S18.r x) (S18.es x)) ≤ List.length (Raq2 x) ∧ List.length (rstE (S18.r x)
  (S18.es x)) ≤ Prod.snd y_1 ∧ Prod.snd y_1 ≤ y ∧ (∀ (j : Nat), j < List.length (rstE (S18.r x) (S18.es x)) → erow (Raq2 x) j = erow (rstE (S18.r x) (S18.es x)) j ∧ true = true) ∧ True) ∨ False) (condX (R18.st (S18.r x) ==
  (2 : Int)) ((0 : Nat) = (0 : Nat) ∧ (3 : Int) = (3 : Int) ∧ (0 : Int) = (0 : Int) ∧ (0 : Int) = (0 : Int) ∧ (0 : Int) = (0 : Int) ∧ (0 : Int) = (0 : Int) ∧ (0 : Int) = (0 : Int) ∧ (0 : Int) = (0 : Int) ∧ (0 : Int) = (0 :
  Int) ∧ false = false ∧ ByteArray.mk #[] = ByteArray.mk #[] ∧ R18.nx (S18.r x) = R18.nx (S18.r x) ∧ R18.wa (S18.r x) = R18.wa (S18.r x) ∧ R18.ow (S18.r x) = R18.ow (S18.r x) ∧ R18.ot (S18.r x) = R18.ot (S18.r x) ∧ R18.ti
  (S18.r x) = R18.ti (S18.r x) ∧ R18.st (S18.r x) = R18.st (S18.r x) ∧ R18.le (S18.r x) = R18.le (S18.r x) ∧ (0 : Nat) = (0 : Nat) ∧ List.length (S18.us x) = List.length (Raq1 x) ∧ S18.ck x = S18.ck x ∧ (0 : Nat) = (0 :
  Nat) ∧ List.length (S18.es x) = List.length (Raq3 x) ∧ S18.ca x = S18.ca x ∧ List.length (Raq1 x) ≤ List.length (S18.us x) ∧ List.length (Raq1 x) ≤ S18.ck x ∧ S18.ck x ≤ S18.ck x ∧ (∀ (j : Nat), j < List.length (Raq1 x)
  → urow (S18.us x) j = urow (Raq1 x) j ∧ true = true) ∧ List.length (Raq3 x) ≤ List.length (S18.es x) ∧ List.length (Raq3 x) ≤ S18.ca x ∧ S18.ca x ≤ S18.ca x ∧ (∀ (j : Nat), j < List.length (Raq3 x) → erow (S18.es x) j =
  erow (Raq3 x) j ∧ true = true) ∧ S18.ok (S18.mk (S18.r x) (Raq1 x) (S18.ck x) (Raq3 x) (S18.ca x)) ∧ ∀ (y : Nat), List.length (Raq4 x) ≤ y → (∃ (y_1 : Nat × Nat), outC (S18.us x) (rstE (S18.r x) (S18.es x)) y_1 ∧ R18.nx
  (S18.r x) = R18.nx (rstR (S18.r x)) ∧ R18.wa (S18.r x) = R18.wa (rstR (S18.r x)) ∧ R18.ow (S18.r x) = R18.ow (rstR (S18.r x)) ∧ R18.ot (S18.r x) = R18.ot (rstR (S18.r x)) ∧ R18.ti (S18.r x) = R18.ti (rstR (S18.r x)) ∧
  R18.st (S18.r x) = R18.st (rstR (S18.r x)) ∧ R18.le (S18.r x) = R18.le (rstR (S18.r x)) ∧ (0 : Nat) = (0 : Nat) ∧ List.length (Raq1 x) = List.length (S18.us x) ∧ S18.ck x = Prod.fst y_1 ∧ (0 : Nat) = (0 : Nat) ∧
  List.length (Raq4 x) = List.length (rstE (S18.r x) (S18.es x)) ∧ y = Prod.snd y_1 ∧ List.length (S18.us x) ≤ List.length (Raq1 x) ∧ List.length (S18.us x) ≤ Prod.fst y_1 ∧ Prod.fst y_1 ≤ S18.ck x ∧ (∀ (j : Nat), j <
  List.length (S18.us x) → urow (Raq1 x) j = urow (S18.us x) j ∧ true = true) ∧ List.length (rstE (S18.r x) (S18.es x)) ≤ List.length (Raq4 x) ∧ List.length (rstE (S18.r x) (S18.es x)) ≤ Prod.snd y_1 ∧ Prod.snd y_1 ≤ y ∧
  (∀ (j : Nat), j < List.length (rstE (S18.r x) (S18.es x)) → erow (Raq4 x) j = erow (rstE (S18.r x) (S18.es x)) j ∧ true = true) ∧ True) ∨ False) ((∃ (yᵥ1 : Nat × Nat), outC (S18.us x) (rstE (S18.r x) (S18.es x)) yᵥ1 ∧
  R18.nx (S18.r x) = R18.nx (rstR (S18.r x)) ∧ R18.wa (S18.r x) = R18.wa (rstR (S18.r x)) ∧ R18.ow (S18.r x) = R18.ow (rstR (S18.r x)) ∧ R18.ot (S18.r x) = R18.ot (rstR (S18.r x)) ∧ R18.ti (S18.r x) = R18.ti (rstR (S18.r
  x)) ∧ R18.st (S18.r x) = R18.st (rstR (S18.r x)) ∧ R18.le (S18.r x) = R18.le (rstR (S18.r x)) ∧ (0 : Nat) = (0 : Nat) ∧ List.length (S18.us x) = List.length (S18.us x) ∧ S18.ck x = Prod.fst yᵥ1 ∧ (0 : Nat) = (0 : Nat) ∧
  List.length (S18.es x) = List.length (rstE (S18.r x) (S18.es x)) ∧ S18.ca x = Prod.snd yᵥ1 ∧ List.length (S18.us x) ≤ List.length (S18.us x) ∧ List.length (S18.us x) ≤ Prod.fst yᵥ1 ∧ Prod.fst yᵥ1 ≤ S18.ck x ∧ (∀ (j :
  Nat), j < List.length (S18.us x) → urow (S18.us x) j = urow (S18.us x) j ∧ true = true) ∧ List.length (rstE (S18.r x) (S18.es x)) ≤ List.length (S18.es x) ∧ List.length (rstE (S18.r x) (S18.es x)) ≤ Prod.snd yᵥ1 ∧
  Prod.snd yᵥ1 ≤ S18.ca x ∧ (∀ (j : Nat), j < List.length (rstE (S18.r x) (S18.es x)) → erow (S18.es x) j = erow (rstE (S18.r x) (S18.es x)) j ∧ true = true) ∧ True) ∨ False)))
theorem vcReset18E : VcReset18 = (∀ (x : S18), x.ok → fnX (cx_reset18 x) (bodyOf Try.f25) Try.f25.results.toList (C_reset18.args x) (C_reset18.H x) (endX 3 (C_reset18.outs x))) := by kernel_rfl
set_option maxHeartbeats 4000000 in
theorem vcReset18 : VcReset18 := by
  unfold VcReset18 Raq4 Raq3 Raq2 Raq1
  rintro ⟨r, us, ck, es, ca⟩ ⟨h1, h2, h3, h4, h5⟩
  have h1 : us.length ≤ ck := h1
  have h2 : es.length ≤ ca := h2
  have h3 : us.length ≤ 60 := h3
  have h4 : es.length ≤ 200 := h4
  have h5 : r.ok := h5
  simp only [eq_self, true_and, and_true, Nat.le_refl, Int.le_refl, implies_true, forall_const, and_false, false_and, exists_false, false_or, or_false, true_implies, Nat.zero_add, and_self, Int.toNat_natCast, cond_true, cond_false, h1, h2, uRow_urow, eRow_erow, condT, condF]
  by_cases c0 : r.st = 0
  · rw [show (r.st == 0) = true from by simp [c0]]
    simp only [condT]
    have e1 : rstR r = { r with st := 1 } := by simp [rstR, c0]
    have e2 : rstE r es = es ++ [sendE { r with st := 1 } (vK 7 0 0 r.wa)] := by simp [rstE, c0]
    rw [e1, e2]
    refine ⟨⟨h1, h2, h3, h4, ok_st h5 (by decide)⟩, fun y hy => ⟨(ck, y), ?_⟩⟩
    and_intros <;> first | with_reducible rfl | exact hy | exact ⟨h1, hy⟩ | exact h1 | exact Nat.le_refl _ | exact fun j hj => rfl | exact ⟨Nat.le_refl _, hy⟩ | (rw [hl]; exact hcap) | exact ⟨by rw [hl]; exact hcap, hy⟩ | rfl
  rw [show (r.st == 0) = false from by simp [c0]]
  simp only [condF]
  by_cases c1 : r.st = 1
  · rw [show (r.st == 1) = true from by simp [c1]]
    simp only [condT]
    have e1 : rstR r = { r with st := 1 } := by simp [rstR, c1]
    have e2 : rstE r es = es ++ [sendE { r with st := 1 } (vK 7 0 0 r.wa)] := by simp [rstE, c1]
    rw [e1, e2]
    refine ⟨⟨h1, h2, h3, h4, ok_st h5 (by decide)⟩, fun y hy => ⟨(ck, y), ?_⟩⟩
    and_intros <;> first | with_reducible rfl | exact hy | exact ⟨h1, hy⟩ | exact h1 | exact Nat.le_refl _ | exact fun j hj => rfl | exact ⟨Nat.le_refl _, hy⟩ | (rw [hl]; exact hcap) | exact ⟨by rw [hl]; exact hcap, hy⟩ | rfl
  rw [show (r.st == 1) = false from by simp [c1]]
  simp only [condF]
  have e1 : rstR r = r := by simp [rstR, c0, c1]
  rw [e1]
  refine (condX_iff _ _ _).2 ⟨fun c => ?_, fun c => ?_⟩
  · have c2 : r.st = 2 := by simpa using c
    have e2 : rstE r es = es ++ [sendE r (vK 3 0 0 0)] := by simp [rstE, c2]
    rw [e2]
    refine ⟨⟨h1, h2, h3, h4, h5⟩, fun y hy => ⟨(ck, y), ?_⟩⟩
    and_intros <;> first | with_reducible rfl | exact hy | exact ⟨h1, hy⟩ | exact h1 | exact Nat.le_refl _ | exact fun j hj => rfl | exact ⟨Nat.le_refl _, hy⟩ | (rw [hl]; exact hcap) | exact ⟨by rw [hl]; exact hcap, hy⟩ | rfl
  · have c2 : ¬ r.st = 2 := by simpa using c
    have e2 : rstE r es = es := by simp [rstE, c0, c1, c2]
    rw [e2]
    refine ⟨(ck, ca), ?_⟩
    and_intros <;> first | exact h1 | exact h2 | with_reducible rfl | exact Nat.le_refl _ | exact fun j hj => rfl
theorem vcReset18K : ∀ (x : S18), x.ok → Held (fnX (cx_reset18 x) (bodyOf Try.f25) Try.f25.results.toList (C_reset18.args x) (C_reset18.H x) (endX 3 (C_reset18.outs x))) := held2 vcReset18E vcReset18
/-! ### user -/
@[reducible] def dtU (n : Int) (d : ByteArray) : U := ⟨5, 0, 0, 0, 0, n, 0, 0, true, d⟩
def usE (r : R18) (us : List U) (e : Ev) : Int := if (¬ (e.k = 3 ∨ e.k = 4)) ∨ (e.k = 3 ∧ 128 < e.d.size) then 1 else if ¬ (r.st = 0 ∨ r.st = 1) then 8 else if e.k = 4 then 0 else if 60 ≤ us.length then 9 else 0
def usR (r : R18) (us : List U) (e : Ev) : R18 := if usE r us e ≠ 0 then r else if e.k = 4 then { r with st := 2 } else { r with nx := (r.nx + 1) % 128 }
def usU (r : R18) (us : List U) (e : Ev) : List U := if usE r us e ≠ 0 then us else if e.k = 4 then [] else us ++ [dtU r.nx e.d]
def usA (r : R18) (us : List U) (es : List Ev) (e : Ev) : List Ev := if usE r us e ≠ 0 then es else if e.k = 4 then es ++ [sendE { r with st := 2 } (vK 3 0 0 0)] else if r.st = 0 then es ++ [sendE { r with nx := (r.nx + 1) % 128 } (dtU r.nx e.d)] else es
def C_user18 : Ctr := ⟨3, S18 × Ev, fun x => [.ptr 0 0 0 0, .agg x.2.cells], fun x => x.1.H, fun x => x.1.ok, fun x =>
  [.any (Nat × Nat) (outC (usU x.1.r x.1.us x.2) (usA x.1.r x.1.us x.1.es x.2)) (fun _ => .g (.int .i64 (usE x.1.r x.1.us x.2))) (outH (usR x.1.r x.1.us x.2) (usU x.1.r x.1.us x.2) (usA x.1.r x.1.us x.1.es x.2))]⟩
def cx_user18 (_ : S18 × Ev) : Cx := ⟨ty, ΓOf Γsd, fun _ => [], fun _ _ => [], 92, 3⟩
def Raq5 (x : S18 × Ev) := (List.map (fun (j : Nat) => uRow (appRows (0 : Nat) (0 : Nat) (List.length (S18.us (Prod.fst x))) (urow (S18.us (Prod.fst x))) (fun (j : Nat) => List.take (10 : Nat) (List.drop (j * (10 : Nat)) [SV.g (Value.int
  IntKind.i64 (5 : Int)), SV.g (Value.int IntKind.i64 (0 : Int)), SV.g (Value.int IntKind.i64 (0 : Int)), SV.g (Value.int IntKind.i64 (0 : Int)), SV.g (Value.int IntKind.i64 (0 : Int)), SV.g (Value.int IntKind.i64 (R18.nx
  (S18.r (Prod.fst x)))), SV.g (Value.int IntKind.i64 (0 : Int)), SV.g (Value.int IntKind.i64 (0 : Int)), SV.g (Value.bool true), SV.g (Value.string (Ev.d (Prod.snd x)))])) j)) (List.range (List.length (S18.us (Prod.fst
  x)) + (1 : Nat))))
def Raq6 (x : S18 × Ev) := (usA (S18.r (Prod.fst x)) (S18.us (Prod.fst x)) (S18.es (Prod.fst x)) (Prod.snd x))
def Raq7 (x : S18 × Ev) := (usR (S18.r (Prod.fst x)) (S18.us (Prod.fst x)) (Prod.snd x))
def Raq8 (x : S18 × Ev) := (usU (S18.r (Prod.fst x)) (S18.us (Prod.fst x)) (Prod.snd x))
def Raq9 (x : S18 × Ev) := (List.map (fun (j : Nat) => eRow (erow (S18.es (Prod.fst x)) j)) (List.range (List.length (S18.es (Prod.fst x)))) ++ [sendE (R18.mk (Int.tmod (IntKind.wrap IntKind.i64 (R18.nx (S18.r (Prod.fst x)) + (1 : Int))) (128 :
  Int)) (R18.wa (S18.r (Prod.fst x))) (R18.ow (S18.r (Prod.fst x))) (R18.ot (S18.r (Prod.fst x))) (R18.ti (S18.r (Prod.fst x))) (R18.st (S18.r (Prod.fst x))) (R18.le (S18.r (Prod.fst x)))) (U.mk (5 : Int) (0 : Int) (0 :
  Int) (0 : Int) (0 : Int) (R18.nx (S18.r (Prod.fst x))) (0 : Int) (0 : Int) true (Ev.d (Prod.snd x)))])
def Raq10 (x : S18 × Ev) := (List.map (fun (j : Nat) => eRow (erow (S18.es (Prod.fst x)) j)) (List.range (List.length (S18.es (Prod.fst x)))) ++ [sendE (R18.mk (R18.nx (S18.r (Prod.fst x))) (R18.wa (S18.r (Prod.fst x))) (R18.ow (S18.r (Prod.fst
  x))) (R18.ot (S18.r (Prod.fst x))) (R18.ti (S18.r (Prod.fst x))) (2 : Int) (R18.le (S18.r (Prod.fst x)))) (U.mk (3 : Int) (0 : Int) (0 : Int) (0 : Int) (0 : Int) (0 : Int) (0 : Int) (0 : Int) false (ByteArray.mk #[]))])
def Raq11 (x : S18 × Ev) := (List.map (fun (j : Nat) => eRow (erow (S18.es (Prod.fst x)) j)) (List.range (List.length (S18.es (Prod.fst x)))))
def VcUser18 : Prop := ∀ (x : S18 × Ev), S18.ok (Prod.fst x) → condX (bif bif Ev.k (Prod.snd x) != (3 : Int) then Ev.k (Prod.snd x) != (4 : Int) else false then true else bif Ev.k (Prod.snd x) == (3 : Int) then decide ((128 : Int) <
  (↑(ByteArray.size (Ev.d (Prod.snd x))) : Int)) else false) ((∃ (y : Nat × Nat), outC (Raq8 x) (Raq6 x) y ∧ (1 : Int) = usE (S18.r (Prod.fst x)) (S18.us (Prod.fst x)) (Prod.snd x) ∧ R18.nx (S18.r (Prod.fst x)) = R18.nx
  (Raq7 x) ∧ R18.wa (S18.r (Prod.fst x)) = R18.wa (Raq7 x) ∧ R18.ow (S18.r (Prod.fst x)) = R18.ow (Raq7 x) ∧ R18.ot (S18.r (Prod.fst x)) = R18.ot (Raq7 x) ∧ R18.ti (S18.r (Prod.fst x)) = R18.ti (Raq7 x) ∧ R18.st (S18.r
  (Prod.fst x)) = R18.st (Raq7 x) ∧ R18.le (S18.r (Prod.fst x)) = R18.le (Raq7 x) ∧ (0 : Nat) = (0 : Nat) ∧ List.length (S18.us (Prod.fst x)) = List.length (Raq8 x) ∧ S18.ck (Prod.fst x) = Prod.fst y ∧ (0 : Nat) = (0 :
  Nat) ∧ List.length (S18.es (Prod.fst x)) = List.length (Raq6 x) ∧ S18.ca (Prod.fst x) = Prod.snd y ∧ List.length (Raq8 x) ≤ List.length (S18.us (Prod.fst x)) ∧ List.length (Raq8 x) ≤ Prod.fst y ∧ Prod.fst y ≤ S18.ck
  (Prod.fst x) ∧ (∀ (j : Nat), j < List.length (Raq8 x) → urow (S18.us (Prod.fst x)) j = urow (Raq8 x) j ∧ true = true) ∧ List.length (Raq6 x) ≤ List.length (S18.es (Prod.fst x)) ∧ List.length (Raq6 x) ≤ Prod.snd y ∧
  Prod.snd y ≤ S18.ca (Prod.fst x) ∧ (∀ (j : Nat), j < List.length (Raq6 x) → erow (S18.es (Prod.fst x)) j = erow (Raq6 x) j ∧ true = true) ∧ True) ∨ False) (condX (bif R18.st (S18.r (Prod.fst x)) != (0 : Int) then R18.st
  (S18.r (Prod.fst x)) != (1 : Int) else false) ((∃ (y : Nat × Nat), outC (Raq8 x) (Raq6 x) y ∧ (8 : Int) = usE (S18.r (Prod.fst x)) (S18.us (Prod.fst x)) (Prod.snd x) ∧ R18.nx (S18.r (Prod.fst x)) = R18.nx (Raq7 x) ∧
  R18.wa (S18.r (Prod.fst x)) = R18.wa (Raq7 x) ∧ R18.ow (S18.r (Prod.fst x)) = R18.ow (Raq7 x) ∧ R18.ot (S18.r (Prod.fst x)) = R18.ot (Raq7 x) ∧ R18.ti (S18.r (Prod.fst x)) = R18.ti (Raq7 x) ∧ R18.st (S18.r (Prod.fst x))
  = R18.st (Raq7 x) ∧ R18.le (S18.r (Prod.fst x)) = R18.le (Raq7 x) ∧ (0 : Nat) = (0 : Nat) ∧ List.length (S18.us (Prod.fst x)) = List.length (Raq8 x) ∧ S18.ck (Prod.fst x) = Prod.fst y ∧ (0 : Nat) = (0 : Nat) ∧
  List.length (S18.es (Prod.fst x)) = List.length (Raq6 x) ∧ S18.ca (Prod.fst x) = Prod.snd y ∧ List.length (Raq8 x) ≤ List.length (S18.us (Prod.fst x)) ∧ List.length (Raq8 x) ≤ Prod.fst y ∧ Prod.fst y ≤ S18.ck (Prod.fst
  x) ∧ (∀ (j : Nat), j < List.length (Raq8 x) → urow (S18.us (Prod.fst x)) j = urow (Raq8 x) j ∧ true = true) ∧ List.length (Raq6 x) ≤ List.length (S18.es (Prod.fst x)) ∧ List.length (Raq6 x) ≤ Prod.snd y ∧ Prod.snd y ≤
  S18.ca (Prod.fst x) ∧ (∀ (j : Nat), j < List.length (Raq6 x) → erow (S18.es (Prod.fst x)) j = erow (Raq6 x) j ∧ true = true) ∧ True) ∨ False) (condX (Ev.k (Prod.snd x) == (4 : Int)) ((0 : Nat) = (0 : Nat) ∧ (3 : Int) =
  (3 : Int) ∧ (0 : Int) = (0 : Int) ∧ (0 : Int) = (0 : Int) ∧ (0 : Int) = (0 : Int) ∧ (0 : Int) = (0 : Int) ∧ (0 : Int) = (0 : Int) ∧ (0 : Int) = (0 : Int) ∧ (0 : Int) = (0 : Int) ∧ false = false ∧ ByteArray.mk #[] =
  ByteArray.mk #[] ∧ R18.nx (S18.r (Prod.fst x)) = R18.nx (S18.r (Prod.fst x)) ∧ R18.wa (S18.r (Prod.fst x)) = R18.wa (S18.r (Prod.fst x)) ∧ R18.ow (S18.r (Prod.fst x)) = R18.ow (S18.r (Prod.fst x)) ∧ R18.ot (S18.r
  (Prod.fst x)) = R18.ot (S18.r (Prod.fst x)) ∧ R18.ti (S18.r (Prod.fst x)) = R18.ti (S18.r (Prod.fst x)) ∧ (2 : Int) = (2 : Int) ∧ R18.le (S18.r (Prod.fst x)) = R18.le (S18.r (Prod.fst x)) ∧ (0 : Nat) = (0 : Nat) ∧ (0 :
  Nat) = (0 : Nat) ∧ (0 : Nat) = (0 : Nat) ∧ List.length (S18.es (Prod.fst x)) = List.length (Raq11 x) ∧ S18.ca (Prod.fst x) = S18.ca (Prod.fst x) ∧ (0 : Nat) = (0 : Nat) ∧ List.length (Raq11 x) ≤ List.length (S18.es
  (Prod.fst x)) ∧ List.length (Raq11 x) ≤ S18.ca (Prod.fst x) ∧ S18.ca (Prod.fst x) ≤ S18.ca (Prod.fst x) ∧ (∀ (j : Nat), j < List.length (Raq11 x) → erow (S18.es (Prod.fst x)) j = erow (Raq11 x) j ∧ true = true) ∧ S18.ok
  (S18.mk (R18.mk (R18.nx (S18.r (Prod.fst x))) (R18.wa (S18.r (Prod.fst x))) (R18.ow (S18.r (Prod.fst x))) (R18.ot (S18.r (Prod.fst x))) (R18.ti (S18.r (Prod.fst x))) (2 : Int) (R18.le (S18.r (Prod.fst x)))) [] (0 : Nat)
  (Raq11 x) (S18.ca (Prod.fst x))) ∧ ∀ (yᵥ1 : Nat), List.length (Raq10 x) ≤ yᵥ1 → (∃ (y_1 : Nat × Nat), outC (Raq8 x) (Raq6 x) y_1 ∧ (0 : Int) = usE (S18.r (Prod.fst x)) (S18.us (Prod.fst x)) (Prod.snd x) ∧ R18.nx (S18.r
  (Prod.fst x)) = R18.nx (Raq7 x) ∧ R18.wa (S18.r (Prod.fst x)) = R18.wa (Raq7 x) ∧ R18.ow (S18.r (Prod.fst x)) = R18.ow (Raq7 x) ∧ R18.ot (S18.r (Prod.fst x)) = R18.ot (Raq7 x) ∧ R18.ti (S18.r (Prod.fst x)) = R18.ti (Raq7
  x) ∧ (2 : Int) = R18.st (Raq7 x) ∧ R18.le (S18.r (Prod.fst x)) = R18.le (Raq7 x) ∧ List.length (Raq8 x) = (0 : Nat) ∧ Prod.fst y_1 = (0 : Nat) ∧ (0 : Nat) = (0 : Nat) ∧ List.length (Raq10 x) = List.length (Raq6 x) ∧ yᵥ1
  = Prod.snd y_1 ∧ List.length (Raq8 x) = (0 : Nat) ∧ List.length (Raq6 x) ≤ List.length (Raq10 x) ∧ List.length (Raq6 x) ≤ Prod.snd y_1 ∧ Prod.snd y_1 ≤ yᵥ1 ∧ (∀ (j : Nat), j < List.length (Raq6 x) → erow (Raq10 x) j =
  erow (Raq6 x) j ∧ true = true) ∧ True) ∨ False) (condX (decide ((60 : Int) ≤ (↑(List.length (S18.us (Prod.fst x))) : Int))) ((∃ (y : Nat × Nat), outC (Raq8 x) (Raq6 x) y ∧ (9 : Int) = usE (S18.r (Prod.fst x)) (S18.us
  (Prod.fst x)) (Prod.snd x) ∧ R18.nx (S18.r (Prod.fst x)) = R18.nx (Raq7 x) ∧ R18.wa (S18.r (Prod.fst x)) = R18.wa (Raq7 x) ∧ R18.ow (S18.r (Prod.fst x)) = R18.ow (Raq7 x) ∧ R18.ot (S18.r (Prod.fst x)) = R18.ot (Raq7 x) ∧
  R18.ti (S18.r (Prod.fst x)) = R18.ti (Raq7 x) ∧ R18.st (S18.r (Prod.fst x)) = R18.st (Raq7 x) ∧ R18.le (S18.r (Prod.fst x)) = R18.le (Raq7 x) ∧ (0 : Nat) = (0 : Nat) ∧ List.length (S18.us (Prod.fst x)) = List.length
  (Raq8 x) ∧ S18.ck (Prod.fst x) = Prod.fst y ∧ (0 : Nat) = (0 : Nat) ∧ List.length (S18.es (Prod.fst x)) = List.length (Raq6 x) ∧ S18.ca (Prod.fst x) = Prod.snd y ∧ List.length (Raq8 x) ≤ List.length (S18.us (Prod.fst x))
  ∧ List.length (Raq8 x) ≤ Prod.fst y ∧ Prod.fst y ≤ S18.ck (Prod.fst x) ∧ (∀ (j : Nat), j < List.length (Raq8 x) → urow (S18.us (Prod.fst x)) j = urow (Raq8 x) j ∧ true = true) ∧ List.length (Raq6 x) ≤ List.length (S18.es
  (Prod.fst x)) ∧ List.length (Raq6 x) ≤ Prod.snd y ∧ Prod.snd y ≤ S18.ca (Prod.fst x) ∧ (∀ (j : Nat), j < List.length (Raq6 x) → erow (S18.es (Prod.fst x)) j = erow (Raq6 x) j ∧ true = true) ∧ True) ∨ False) ((128 : Int)
  ≠ (0 : Int) ∧ (0 : Nat) + List.length (S18.us (Prod.fst x)) ≤ List.length (S18.us (Prod.fst x)) ∧ (0 : Nat) + S18.ck (Prod.fst x) ≤ S18.ck (Prod.fst x) ∧ (List.length (S18.us (Prod.fst x)) + (1 : Nat)) * (88 : Nat) ≤
  (140737488355328 : Nat) ∧ ∀ (cap : Nat), List.length (S18.us (Prod.fst x)) + (1 : Nat) ≤ cap → condX (R18.st (S18.r (Prod.fst x)) == (0 : Int)) ((0 : Nat) = (0 : Nat) ∧ (5 : Int) = (5 : Int) ∧ (0 : Int) = (0 : Int) ∧ (0
  : Int) = (0 : Int) ∧ (0 : Int) = (0 : Int) ∧ (0 : Int) = (0 : Int) ∧ R18.nx (S18.r (Prod.fst x)) = R18.nx (S18.r (Prod.fst x)) ∧ (0 : Int) = (0 : Int) ∧ (0 : Int) = (0 : Int) ∧ true = true ∧ Ev.d (Prod.snd x) = Ev.d
  (Prod.snd x) ∧ Int.tmod (IntKind.wrap IntKind.i64 (R18.nx (S18.r (Prod.fst x)) + (1 : Int))) (128 : Int) = Int.tmod (IntKind.wrap IntKind.i64 (R18.nx (S18.r (Prod.fst x)) + (1 : Int))) (128 : Int) ∧ R18.wa (S18.r
  (Prod.fst x)) = R18.wa (S18.r (Prod.fst x)) ∧ R18.ow (S18.r (Prod.fst x)) = R18.ow (S18.r (Prod.fst x)) ∧ R18.ot (S18.r (Prod.fst x)) = R18.ot (S18.r (Prod.fst x)) ∧ R18.ti (S18.r (Prod.fst x)) = R18.ti (S18.r (Prod.fst
  x)) ∧ R18.st (S18.r (Prod.fst x)) = R18.st (S18.r (Prod.fst x)) ∧ R18.le (S18.r (Prod.fst x)) = R18.le (S18.r (Prod.fst x)) ∧ (0 : Nat) = (0 : Nat) ∧ List.length (S18.us (Prod.fst x)) + (1 : Nat) = List.length (Raq5 x) ∧
  cap = cap ∧ (0 : Nat) = (0 : Nat) ∧ List.length (S18.es (Prod.fst x)) = List.length (Raq11 x) ∧ S18.ca (Prod.fst x) = S18.ca (Prod.fst x) ∧ List.length (Raq5 x) ≤ List.length (S18.us (Prod.fst x)) + (1 : Nat) ∧
  List.length (Raq5 x) ≤ cap ∧ cap ≤ cap ∧ (∀ (j : Nat), j < List.length (Raq5 x) → appRows (0 : Nat) (0 : Nat) (List.length (S18.us (Prod.fst x))) (urow (S18.us (Prod.fst x))) (fun (j : Nat) => List.take (10 : Nat)
  (List.drop (j * (10 : Nat)) [SV.g (Value.int IntKind.i64 (5 : Int)), SV.g (Value.int IntKind.i64 (0 : Int)), SV.g (Value.int IntKind.i64 (0 : Int)), SV.g (Value.int IntKind.i64 (0 : Int)), SV.g (Value.int IntKind.i64 (0
  : Int)), SV.g (Value.int IntKind.i64 (R18.nx (S18.r (Prod.fst x)))), SV.g (Value.int IntKind.i64 (0 : Int)), SV.g (Value.int IntKind.i64 (0 : Int)), SV.g (Value.bool true), SV.g (Value.string (Ev.d (Prod.snd x)))])) j =
  urow (Raq5 x) j ∧ true = true) ∧ List.length (Raq11 x) ≤ List.length (S18.es (Prod.fst x)) ∧ List.length (Raq11 x) ≤ S18.ca (Prod.fst x) ∧ S18.ca (Prod.fst x) ≤ S18.ca (Prod.fst x) ∧ (∀ (j : Nat), j < List.length (Raq11
  x) → erow (S18.es (Prod.fst x)) j = erow (Raq11 x) j ∧ true = true) ∧ S18.ok (S18.mk (R18.mk (Int.tmod (IntKind.wrap IntKind.i64 (R18.nx (S18.r (Prod.fst x)) + (1 : Int))) (128 : Int)) (R18.wa (S18.r (Prod.fst x)))
  (R18.ow (S18.r (Prod.fst x))) (R18.ot (S18.r (Prod.fst x))) (R18.ti (S18.r (Prod.fst x))) (R18.st (S18.r (Prod.fst x))) (R18.le (S18.r (Prod.fst x)))) (Raq5 x) cap (Raq11 x) (S18.ca (Prod.fst x))) ∧ ∀ (yᵥ1 : Nat),
  List.length (Raq9 x) ≤ yᵥ1 → (∃ (y_1 : Nat × Nat), outC (Raq8 x) (Raq6 x) y_1 ∧ (0 : Int) = usE (S18.r (Prod.fst x)) (S18.us (Prod.fst x)) (Prod.snd x) ∧ Int.tmod (IntKind.wrap IntKind.i64 (R18.nx (S18.r (Prod.fst x)) +
  (1 : Int))) (128 : Int) = R18.nx (Raq7 x) ∧ R18.wa (S18.r (Prod.fst x)) = R18.wa (Raq7 x) ∧ R18.ow (S18.r (Prod.fst x)) = R18.ow (Raq7 x) ∧ R18.ot (S18.r (Prod.fst x)) = R18.ot (Raq7 x) ∧ R18.ti (S18.r (Prod.fst x)) =
  R18.ti (Raq7 x) ∧ R18.st (S18.r (Prod.fst x)) = R18.st (Raq7 x) ∧ R18.le (S18.r (Prod.fst x)) = R18.le (Raq7 x) ∧ (0 : Nat) = (0 : Nat) ∧ List.length (Raq5 x) = List.length (Raq8 x) ∧ cap = Prod.fst y_1 ∧ (0 : Nat) = (0
  : Nat) ∧ List.length (Raq9 x) = List.length (Raq6 x) ∧ yᵥ1 = Prod.snd y_1 ∧ List.length (Raq8 x) ≤ List.length (Raq5 x) ∧ List.length (Raq8 x) ≤ Prod.fst y_1 ∧ Prod.fst y_1 ≤ cap ∧ (∀ (j : Nat), j < List.length (Raq8 x)
  → urow (Raq5 x) j = urow (Raq8 x) j ∧ true = true) ∧ List.length (Raq6 x) ≤ List.length (Raq9 x) ∧ List.length (Raq6 x) ≤ Prod.snd y_1 ∧ Prod.snd y_1 ≤ yᵥ1 ∧ (∀ (j : Nat), j < List.length (Raq6 x) → erow (Raq9 x) j =
  erow (Raq6 x) j ∧ true = true) ∧ True) ∨ False) ((∃ (y : Nat × Nat), outC (Raq8 x) (Raq6 x) y ∧ (0 : Int) = usE (S18.r (Prod.fst x)) (S18.us (Prod.fst x)) (Prod.snd x) ∧ Int.tmod (IntKind.wrap IntKind.i64 (R18.nx (S18.r
  (Prod.fst x)) + (1 : Int))) (128 : Int) = R18.nx (Raq7 x) ∧ R18.wa (S18.r (Prod.fst x)) = R18.wa (Raq7 x) ∧ R18.ow (S18.r (Prod.fst x)) = R18.ow (Raq7 x) ∧ R18.ot (S18.r (Prod.fst x)) = R18.ot (Raq7 x) ∧ R18.ti (S18.r
  (Prod.fst x)) = R18.ti (Raq7 x) ∧ R18.st (S18.r (Prod.fst x)) = R18.st (Raq7 x) ∧ R18.le (S18.r (Prod.fst x)) = R18.le (Raq7 x) ∧ (0 : Nat) = (0 : Nat) ∧ List.length (S18.us (Prod.fst x)) + (1 : Nat) = List.length (Raq8
  x) ∧ cap = Prod.fst y ∧ (0 : Nat) = (0 : Nat) ∧ List.length (S18.es (Prod.fst x)) = List.length (Raq6 x) ∧ S18.ca (Prod.fst x) = Prod.snd y ∧ List.length (Raq8 x) ≤ List.length (S18.us (Prod.fst x)) + (1 : Nat) ∧
  List.length (Raq8 x) ≤ Prod.fst y ∧ Prod.fst y ≤ cap ∧ (∀ (j : Nat), j < List.length (Raq8 x) → appRows (0 : Nat) (0 : Nat) (List.length (S18.us (Prod.fst x))) (urow (S18.us (Prod.fst x))) (fun (j : Nat) => List.take (10
  : Nat) (List.drop (j * (10 : Nat)) [SV.g (Value.int IntKind.i64 (5 : Int)), SV.g (Value.int IntKind.i64 (0 : Int)), SV.g (Value.int IntKind.i64 (0 : Int)), SV.g (Value.int IntKind.i64 (0 : Int)), SV.g (Value.int
  IntKind.i64 (0 : Int)), SV.g (Value.int IntKind.i64 (R18.nx (S18.r (Prod.fst x)))), SV.g (Value.int IntKind.i64 (0 : Int)), SV.g (Value.int IntKind.i64 (0 : Int)), SV.g (Value.bool true), SV.g (Value.string (Ev.d
  (Prod.snd x)))])) j = urow (Raq8 x) j ∧ true = true) ∧ List.length (Raq6 x) ≤ List.length (S18.es (Prod.fst x)) ∧ List.length (Raq6 x) ≤ Prod.snd y ∧ Prod.snd y ≤ S18.ca (Prod.fst x) ∧ (∀ (j : Nat), j < List.length (Raq6
  x) → erow (S18.es (Prod.fst x)) j = erow (Raq6 x) j ∧ true = true) ∧ True) ∨ False)))))
theorem vcUser18E : VcUser18 = (∀ (x : S18 × Ev), x.1.ok → fnX (cx_user18 x) (bodyOf Try.f22) Try.f22.results.toList (C_user18.args x) (C_user18.H x) (endX 3 (C_user18.outs x))) := by kernel_rfl
set_option maxHeartbeats 4000000 in
theorem vcUser18 : VcUser18 := by
  unfold VcUser18 Raq11 Raq10 Raq9 Raq8 Raq7 Raq6 Raq5
  rintro ⟨⟨r, us, ck, es, ca⟩, e⟩ ⟨h1, h2, h3, h4, h5⟩
  have h1 : us.length ≤ ck := h1
  have h2 : es.length ≤ ca := h2
  have h3 : us.length ≤ 60 := h3
  have h4 : es.length ≤ 200 := h4
  have h5 : r.ok := h5
  simp only [eq_self, true_and, and_true, Nat.le_refl, Int.le_refl, implies_true, forall_const, and_false, false_and, exists_false, false_or, or_false, true_implies, Nat.zero_add, and_self, Int.toNat_natCast, cond_true, cond_false, h1, h2, uRow_urow, eRow_erow, condT, condF]
  have bad : ∀ n : Int, n ≠ 0 → usE r us e = n → usR r us e = r ∧ usU r us e = us ∧ usA r us es e = es := fun n h0 h => by
    have : usE r us e ≠ 0 := by rw [h]; exact h0
    simp [usR, usU, usA, this]
  refine (condX_iff _ _ _).2 ⟨fun c => ?_, fun c => ?_⟩
  · have e0 : usE r us e = 1 := by
      rw [usE, if_pos]
      by_cases k3 : e.k = 3 <;> by_cases k4 : e.k = 4 <;> simp [k3, k4] at c ⊢ <;> omega
    obtain ⟨e1, e2, e3⟩ := bad 1 (by decide) e0
    rw [e0, e1, e2, e3]
    refine ⟨(ck, ca), ?_⟩
    and_intros <;> first | exact h1 | exact h2 | with_reducible rfl | exact Nat.le_refl _ | exact fun j hj => rfl
  have p1 : ¬ ((¬ (e.k = 3 ∨ e.k = 4)) ∨ (e.k = 3 ∧ 128 < e.d.size)) := by
    by_cases k3 : e.k = 3 <;> by_cases k4 : e.k = 4 <;> simp [k3, k4] at c ⊢ <;> omega
  refine (condX_iff _ _ _).2 ⟨fun c => ?_, fun c => ?_⟩
  · have e0 : usE r us e = 8 := by
      have : ¬ (r.st = 0 ∨ r.st = 1) := by simpa using c
      rw [usE, if_neg p1, if_pos this]
    obtain ⟨e1, e2, e3⟩ := bad 8 (by decide) e0
    rw [e0, e1, e2, e3]
    refine ⟨(ck, ca), ?_⟩
    and_intros <;> first | exact h1 | exact h2 | with_reducible rfl | exact Nat.le_refl _ | exact fun j hj => rfl
  have p2 : r.st = 0 ∨ r.st = 1 := by
    by_cases s0 : r.st = 0 <;> by_cases s1 : r.st = 1 <;> simp [s0, s1] at c ⊢
  refine (condX_iff _ _ _).2 ⟨fun c => ?_, fun c => ?_⟩
  · have k4 : e.k = 4 := by simpa using c
    have e0 : usE r us e = 0 := by rw [usE, if_neg p1, if_neg (not_not_intro p2), if_pos k4]
    have e1 : usR r us e = { r with st := 2 } := by simp [usR, e0, k4]
    have e2 : usU r us e = [] := by simp [usU, e0, k4]
    have e3 : usA r us es e = es ++ [sendE { r with st := 2 } (vK 3 0 0 0)] := by simp [usA, e0, k4]
    rw [e0, e1, e2, e3]
    refine ⟨⟨Nat.le_refl _, h2, Nat.zero_le _, h4, ok_st h5 (by decide)⟩, fun y hy => ⟨(0, y), ?_⟩⟩
    and_intros <;> first | with_reducible rfl | exact hy | exact ⟨h1, hy⟩ | exact h1 | exact Nat.le_refl _ | exact fun j hj => rfl | exact ⟨Nat.le_refl _, hy⟩ | (rw [hl]; exact hcap) | exact ⟨by rw [hl]; exact hcap, hy⟩ | rfl
  have k4 : ¬ e.k = 4 := by simpa using c
  have n1 := h5.nx
  have hL := uRow_appL us (fun j => List.take 10 (List.drop (j * 10) [SV.g (Value.int IntKind.i64 5), SV.g (Value.int IntKind.i64 0), SV.g (Value.int IntKind.i64 0), SV.g (Value.int IntKind.i64 0), SV.g (Value.int IntKind.i64 0), SV.g (Value.int IntKind.i64 r.nx), SV.g (Value.int IntKind.i64 0), SV.g (Value.int IntKind.i64 0), SV.g (Value.bool true), SV.g (Value.string e.d)]))
  have hz : uRow (List.take 10 (List.drop (0 * 10) [SV.g (Value.int IntKind.i64 5), SV.g (Value.int IntKind.i64 0), SV.g (Value.int IntKind.i64 0), SV.g (Value.int IntKind.i64 0), SV.g (Value.int IntKind.i64 0), SV.g (Value.int IntKind.i64 r.nx), SV.g (Value.int IntKind.i64 0), SV.g (Value.int IntKind.i64 0), SV.g (Value.bool true), SV.g (Value.string e.d)])) = dtU r.nx e.d := rfl
  rw [hz] at hL
  have hw : (IntKind.i64.wrap (r.nx + 1)).tmod 128 = (r.nx + 1) % 128 := by rw [wrap1 (by omega) (by omega), tmod_nn (by omega)]
  have hl : (us ++ [dtU r.nx e.d]).length = us.length + 1 := by simp
  simp only [hL, hw]
  refine (condX_iff _ _ _).2 ⟨fun c5 => ?_, fun c5 => ⟨by decide, by omega, fun cap hcap => ?_⟩⟩
  · have c6 := of_decide_eq_true c5
    have e0 : usE r us e = 9 := by rw [usE, if_neg p1, if_neg (not_not_intro p2), if_neg k4, if_pos (by omega)]
    obtain ⟨e1, e2, e3⟩ := bad 9 (by decide) e0
    rw [e0, e1, e2, e3]
    refine ⟨(ck, ca), ?_⟩
    and_intros <;> first | exact h1 | exact h2 | with_reducible rfl | exact Nat.le_refl _ | exact fun j hj => rfl
  have c6 := of_decide_eq_false c5
  have e0 : usE r us e = 0 := by rw [usE, if_neg p1, if_neg (not_not_intro p2), if_neg k4, if_neg (by omega)]
  have e1 : usR r us e = { r with nx := (r.nx + 1) % 128 } := by simp [usR, e0, k4]
  have e2 : usU r us e = us ++ [dtU r.nx e.d] := by simp [usU, e0, k4]
  refine (condX_iff _ _ _).2 ⟨fun c7 => ?_, fun c7 => ?_⟩
  · have s0 : r.st = 0 := by simpa using c7
    have e3 : usA r us es e = es ++ [sendE { r with nx := (r.nx + 1) % 128 } (dtU r.nx e.d)] := by simp [usA, e0, k4, s0]
    rw [e0, e1, e2, e3]
    refine ⟨hl.symm, by rw [hl]; exact Nat.le_refl _, by rw [hl]; exact hcap, fun j hj => urow_app rfl (by rw [hl] at hj; exact hj), ⟨by rw [hl]; exact hcap, h2, by rw [hl]; omega, h4, ok_nx h5⟩, fun y hy => ⟨(cap, y), ?_⟩⟩
    and_intros <;> first | with_reducible rfl | exact hy | exact ⟨h1, hy⟩ | exact h1 | exact Nat.le_refl _ | exact fun j hj => rfl | exact ⟨Nat.le_refl _, hy⟩ | (rw [hl]; exact hcap) | exact ⟨by rw [hl]; exact hcap, hy⟩ | rfl
  · have s0 : ¬ r.st = 0 := by simpa using c7
    have e3 : usA r us es e = es := by simp [usA, e0, k4, s0]
    rw [e0, e1, e2, e3]
    refine ⟨(cap, ca), ⟨by rw [hl]; exact hcap, h2⟩, ?_⟩
    and_intros <;> first | with_reducible rfl | exact hl.symm | exact h2 | exact Nat.le_refl _ | (rw [hl]; exact hcap) | (rw [hl]; exact Nat.le_refl _) | exact fun j hj => rfl | (intro j hj; rw [hl] at hj; exact urow_app rfl hj)
theorem vcUser18K : ∀ (x : S18 × Ev), x.1.ok → Held (fnX (cx_user18 x) (bodyOf Try.f22) Try.f22.results.toList (C_user18.args x) (C_user18.H x) (endX 3 (C_user18.outs x))) := held2 vcUser18E vcUser18
def getSE (a : List SV) (H : Heap) : Option (S18 × Ev) := match a, getS a H with
  | [_, .agg cs], some s => match eOf cs with
    | some e => some (s, e)
    | none => none
  | _, _ => none
theorem ok_reset18 : GenSound Try.prog Λ0 25 (callX C_reset18 getS0) :=
  gen_of (ty := ty) (Γ := ΓOf Γsd) hm tyOK Γsd_ok (fnOK_of Try.func25 (by kernel_rfl) (by kernel_rfl)) Try.func25 (body_some (by kernel_rfl)) C_reset18 getS0 Try.ntmps25 (fun _ => Nat.le_of_ble_eq_true rfl) (fun x => (cx_reset18 x).cut) (fun x => (cx_reset18 x).loop) fun x h => vcReset18K x h
theorem ok_user18 : GenSound Try.prog Λ0 22 (callX C_user18 getSE) :=
  gen_of (ty := ty) (Γ := ΓOf Γsd) hm tyOK Γsd_ok (fnOK_of Try.func22 (by kernel_rfl) (by kernel_rfl)) Try.func22 (body_some (by kernel_rfl)) C_user18 getSE Try.ntmps22 (fun _ => Nat.le_of_ble_eq_true rfl) (fun x => (cx_user18 x).cut) (fun x => (cx_user18 x).loop) fun x h => vcUser18K x h
end Go.Proofs.Ytghbejmnnfoamaa
