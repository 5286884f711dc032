/- Chapter 15: lists of units: WriteString, Reset, Join. -/
import Derived.Test.YtmblefpbfpjneaaE
import Derived.Test.YtmblefpbfpjneaaBd
set_option linter.unusedVariables false
set_option linter.unusedSimpArgs false
namespace Go.Proofs.Ytmblefpbfpjneaa
open Go Go.Eng
attribute [local irreducible] condX
theorem gen_sel {P : Program} {f : Nat} {w1 w2 : List SV → Heap → Nat → (SV → Heap → Prop) → Prop} (sel : List SV → Heap → Bool) (h1 : GenSound P f w1) (h2 : GenSound P f w2) :
    GenSound P f (fun a H n K => match sel a H with | true => w1 a H n K | false => w2 a H n K) := ⟨h1.1, fun args H nid K B ρ w hi hH hwt => by
  simp only [] at hwt
  split at hwt
  · exact h1.2 args H nid K B ρ w hi hH hwt
  · exact h2.2 args H nid K B ρ w hi hH hwt⟩
/-! ### strings.Builder -/
def C_WSf : Ctr := ⟨1, ByteArray, fun s => [.ptr 0 0 0 0, .g (.string s)], fun _ => [(0, .cells [.g (.pointer none), .g (.slice none 0 0)] 73)], fun s => s.size ≤ 140737488355328, fun s =>
  [.any Nat (fun cap => s.size ≤ cap) (fun _ => .tup [.g (.int .i64 s.size), .g .nilIface]) fun cap => [(0, .cells [.ptr 0 0 0 0, .sl 1 0 1 (byL s).length cap] 73), (1, .view 1 (byL s).length cap (brow (byL s)) 5)]]⟩
def C_WSu : Ctr := ⟨2, List Int × Nat × ByteArray, fun x => [.ptr 0 0 0 0, .g (.string x.2.2)], fun x => [(0, .cells [.ptr 0 0 0 0, .sl 1 0 1 x.1.length x.2.1] 73), (1, .view 1 x.1.length x.2.1 (brow x.1) 5)],
  fun x => x.1.length ≤ x.2.1 ∧ x.1.length + x.2.2.size ≤ 140737488355328, fun x =>
  [.any Nat (fun cap => (x.1 ++ byL x.2.2).length ≤ cap) (fun _ => .tup [.g (.int .i64 x.2.2.size), .g .nilIface]) fun cap => [(0, .cells [.ptr 0 0 0 0, .sl 2 0 1 (x.1 ++ byL x.2.2).length cap] 73), (2, .view 1 (x.1 ++ byL x.2.2).length cap (brow (x.1 ++ byL x.2.2)) 5)]]⟩
def Γw : List (Nat × Rule) := [(43, .gen wtCC), (31, .gen wtStr)]
theorem Γw_ok : ΓOK Try.prog (ΓOf Γw) := ΓOf_cons ok_copyCheck (ΓOf_cons ok_BString (ΓOf_nil _))
def cxw (n e : Nat) : Cx := ⟨ty, ΓOf Γw, fun _ => [], fun _ _ => [], n, e⟩
def VcWSf : Prop := ∀ (s : ByteArray), ByteArray.size s ≤ (140737488355328 : Nat) → ByteArray.size s * (1 : Nat) ≤ (140737488355328 : Nat) ∧ ∀ (cap : Nat), ByteArray.size s ≤ cap → (∃ (y : Nat), ByteArray.size s ≤ y ∧ (↑(ByteArray.size s) :
  Int) = (↑(ByteArray.size s) : Int) ∧ Value.nilIface = Value.nilIface ∧ (0 : Nat) = (0 : Nat) ∧ (0 : Nat) = (0 : Nat) ∧ ByteArray.size s = List.length (byL s) ∧ cap = y ∧ List.length (byL s) ≤ ByteArray.size s ∧
  List.length (byL s) ≤ y ∧ y ≤ cap ∧ (∀ (j : Nat), j < List.length (byL s) → [SV.g (Value.int IntKind.u8 (byteAt s (↑j : Int)))] = brow (byL s) j ∧ true = true) ∧ True) ∨ False
def VcWSfS : Prop := ∀ (s : ByteArray), s.size ≤ 140737488355328 → fnX (cxw 19 1) (bodyOf Try.f30) Try.f30.results.toList (C_WSf.args s) (C_WSf.H s) (endX 1 (C_WSf.outs s))
theorem vcWSfE : VcWSf = VcWSfS := by kernel_rfl
set_option maxHeartbeats 4000000 in
theorem vcWSf : VcWSf := by
  intro s hs
  refine ⟨by omega, fun cap hc => Or.inl ⟨cap, ?_⟩⟩
  have hl := byL_len s
  and_intros <;> first | omega | with_reducible rfl | exact trivial | rfl | skip
  intro j hj
  exact ⟨brow_str s (by omega), rfl⟩
theorem vcWSfK : ∀ (s : ByteArray), s.size ≤ 140737488355328 → Held (fnX (cxw 19 1) (bodyOf Try.f30) Try.f30.results.toList (C_WSf.args s) (C_WSf.H s) (endX 1 (C_WSf.outs s))) := held2 (p := fun (s : ByteArray) (_ : s.size ≤ 140737488355328) => fnX (cxw 19 1) (bodyOf Try.f30) Try.f30.results.toList (C_WSf.args s) (C_WSf.H s) (endX 1 (C_WSf.outs s))) vcWSfE vcWSf
def VcWSu : Prop := ∀ (x : List Int × Nat × ByteArray), List.length (Prod.fst x) ≤ Prod.fst (Prod.snd x) ∧ List.length (Prod.fst x) + ByteArray.size (Prod.snd (Prod.snd x)) ≤ (140737488355328 : Nat) → (0 : Nat) + List.length (Prod.fst x) ≤
  List.length (Prod.fst x) ∧ (0 : Nat) + Prod.fst (Prod.snd x) ≤ Prod.fst (Prod.snd x) ∧ (List.length (Prod.fst x) + ByteArray.size (Prod.snd (Prod.snd x))) * (1 : Nat) ≤ (140737488355328 : Nat) ∧ ∀ (cap : Nat),
  List.length (Prod.fst x) + ByteArray.size (Prod.snd (Prod.snd x)) ≤ cap → (∃ (y : Nat), List.length (Prod.fst x ++ byL (Prod.snd (Prod.snd x))) ≤ y ∧ (↑(ByteArray.size (Prod.snd (Prod.snd x))) : Int) = (↑(ByteArray.size
  (Prod.snd (Prod.snd x))) : Int) ∧ Value.nilIface = Value.nilIface ∧ (0 : Nat) = (0 : Nat) ∧ (0 : Nat) = (0 : Nat) ∧ List.length (Prod.fst x) + ByteArray.size (Prod.snd (Prod.snd x)) = List.length (Prod.fst x ++ byL
  (Prod.snd (Prod.snd x))) ∧ cap = y ∧ List.length (Prod.fst x ++ byL (Prod.snd (Prod.snd x))) ≤ List.length (Prod.fst x) + ByteArray.size (Prod.snd (Prod.snd x)) ∧ List.length (Prod.fst x ++ byL (Prod.snd (Prod.snd x))) ≤
  y ∧ y ≤ cap ∧ (∀ (j : Nat), j < List.length (Prod.fst x ++ byL (Prod.snd (Prod.snd x))) → appRows (0 : Nat) (0 : Nat) (List.length (Prod.fst x)) (brow (Prod.fst x)) (fun (j : Nat) => [SV.g (Value.int IntKind.u8 (byteAt
  (Prod.snd (Prod.snd x)) (↑j : Int)))]) j = brow (Prod.fst x ++ byL (Prod.snd (Prod.snd x))) j ∧ true = true) ∧ True) ∨ False
def VcWSuS : Prop := ∀ (x : List Int × Nat × ByteArray), x.1.length ≤ x.2.1 ∧ x.1.length + x.2.2.size ≤ 140737488355328 → fnX (cxw 19 2) (bodyOf Try.f30) Try.f30.results.toList (C_WSu.args x) (C_WSu.H x) (endX 2 (C_WSu.outs x))
theorem vcWSuE : VcWSu = VcWSuS := by kernel_rfl
set_option maxHeartbeats 4000000 in
theorem vcWSu : VcWSu := by
  intro x hx
  obtain ⟨h1, h2⟩ := hx
  have hl := byL_len x.2.2
  have hll : (x.1 ++ byL x.2.2).length = x.1.length + x.2.2.size := by rw [List.length_append, hl]
  refine ⟨by omega, by omega, by omega, fun cap hc => Or.inl ⟨cap, ?_⟩⟩
  and_intros <;> first | omega | with_reducible rfl | exact trivial | rfl | skip
  intro j hj
  refine ⟨app_row (fun k hk => brow_str _ (by omega)) (by omega), rfl⟩
theorem vcWSuK : ∀ (x : List Int × Nat × ByteArray), x.1.length ≤ x.2.1 ∧ x.1.length + x.2.2.size ≤ 140737488355328 → Held (fnX (cxw 19 2) (bodyOf Try.f30) Try.f30.results.toList (C_WSu.args x) (C_WSu.H x) (endX 2 (C_WSu.outs x))) := held2 (p := fun (x : List Int × Nat × ByteArray) (_ : x.1.length ≤ x.2.1 ∧ x.1.length + x.2.2.size ≤ 140737488355328) => fnX (cxw 19 2) (bodyOf Try.f30) Try.f30.results.toList (C_WSu.args x) (C_WSu.H x) (endX 2 (C_WSu.outs x))) vcWSuE vcWSu
def C_BReset : Ctr := ⟨2, Nat × Nat, fun x => [.ptr 0 0 0 0], fun x => [(0, .cells [.ptr 0 0 0 0, .sl 1 0 1 x.1 x.2] 73)], fun _ => True, fun _ =>
  [.one True (.tup []) [(0, .cells [.g (.pointer none), .g (.slice none 0 0)] 73)]]⟩
def VcReset : Prop := ∀ (x : Nat × Nat), True → True ∧ [SV.g (Value.pointer none), SV.g (Value.slice none (0 : Nat) (0 : Nat))] = [SV.g (Value.pointer none), SV.g (Value.slice none (0 : Nat) (0 : Nat))] ∧ True ∨ False
def VcResetS : Prop := ∀ (x : Nat × Nat), True → fnX (cxw 8 2) (bodyOf Try.f32) Try.f32.results.toList (C_BReset.args x) (C_BReset.H x) (endX 2 (C_BReset.outs x))
theorem vcResetE : VcReset = VcResetS := by kernel_rfl
set_option maxHeartbeats 4000000 in
theorem vcReset : VcReset := by
  intro x _
  exact Or.inl ⟨trivial, rfl, trivial⟩
theorem vcResetK : ∀ (x : Nat × Nat), True → Held (fnX (cxw 8 2) (bodyOf Try.f32) Try.f32.results.toList (C_BReset.args x) (C_BReset.H x) (endX 2 (C_BReset.outs x))) := held2 (p := fun (x : Nat × Nat) (_ : True) => fnX (cxw 8 2) (bodyOf Try.f32) Try.f32.results.toList (C_BReset.args x) (C_BReset.H x) (endX 2 (C_BReset.outs x))) vcResetE vcReset
def getS1 : List SV → Heap → Option ByteArray
  | [_, .g (.string s)], _ => some s
  | _, _ => none
/-- A number's row. -/
def rowI : List SV → Int
  | [.g (.int _ m)] => m
  | _ => 0
theorem rowI_brow (L : List Int) : (List.range L.length).map (fun j => rowI (brow L j)) = L := by
  apply List.ext_getElem?
  intro j
  by_cases h : j < L.length
  · rw [List.getElem?_map, List.getElem?_range h]; simp [brow, rowI, List.getD_eq_getElem?_getD, h]
  · rw [List.getElem?_eq_none (by simpa using h), List.getElem?_eq_none (by omega)]
def getWSu : List SV → Heap → Option (List Int × Nat × ByteArray)
  | [.ptr id _ _ _, .g (.string s)], H => match Eng.look id H with
    | some (.cells [_, .sl j _ _ len cap] _) => match Eng.look j H with
      | some (.view _ _ _ row _) => some ((List.range len).map (fun k => rowI (row k)), cap, s)
      | _ => none
    | _ => none
  | _, _ => none
def getRst : List SV → Heap → Option (Nat × Nat)
  | [.ptr id _ _ _], H => match Eng.look id H with
    | some (.cells [_, .sl _ _ _ len cap] _) => some (len, cap)
    | _ => none
  | _, _ => none
def WSf : Ctr := C_WSf
theorem ok_WSf : GenSound Try.prog 30 (callX C_WSf getS1) :=
  gen_of (ty := ty) (Γ := ΓOf Γw) hm tyOK Γw_ok (fnOK_of Try.func30 (by kernel_rfl) (by kernel_rfl)) Try.func30 (body_some (by kernel_rfl)) C_WSf getS1 Try.ntmps30 (fun _ => Nat.le_of_ble_eq_true rfl) (fun _ _ => []) (fun _ _ _ => []) fun x h => vcWSfK x h
theorem ok_WSu : GenSound Try.prog 30 (callX C_WSu getWSu) :=
  gen_of (ty := ty) (Γ := ΓOf Γw) hm tyOK Γw_ok (fnOK_of Try.func30 (by kernel_rfl) (by kernel_rfl)) Try.func30 (body_some (by kernel_rfl)) C_WSu getWSu Try.ntmps30 (fun _ => Nat.le_of_ble_eq_true rfl) (fun _ _ => []) (fun _ _ _ => []) fun x h => vcWSuK x h
theorem ok_BReset : GenSound Try.prog 32 (callX C_BReset getRst) :=
  gen_of (ty := ty) (Γ := ΓOf Γw) hm tyOK Γw_ok (fnOK_of Try.func32 (by kernel_rfl) (by kernel_rfl)) Try.func32 (body_some (by kernel_rfl)) C_BReset getRst Try.ntmps32 (fun _ => Nat.le_of_ble_eq_true rfl) (fun _ _ => []) (fun _ _ _ => []) fun x h => vcResetK x h
def selB : List SV → Heap → Bool
  | .ptr id _ _ _ :: _, H => match Eng.look id H with
    | some (.cells [.g (.pointer none), _] _) => true
    | _ => false
  | _, _ => false
def wtWS (a : List SV) (H : Heap) (n : Nat) (K : SV → Heap → Prop) : Prop := match selB a H with
  | true => callX C_WSf getS1 a H n K
  | false => callX C_WSu getWSu a H n K
theorem ok_WS : GenSound Try.prog 30 wtWS := gen_sel selB ok_WSf ok_WSu
def ΓB : List (Nat × Rule) := (30, .gen wtWS) :: (32, .gen (callX C_BReset getRst)) :: (31, .gen wtStr) :: Γ5
theorem ΓB_ok : ΓOK Try.prog (ΓOf ΓB) := ΓOf_cons ok_WS (ΓOf_cons ok_BReset (ΓOf_cons ok_BString Γ5_ok))
/-! ### rows of units and of strings -/
def urow (us : List U) : Nat → List SV := fun j => (us.getD j uZero).cells
def srow (l : List ByteArray) : Nat → List SV := fun j => [.g (.string (l.getD j ⟨#[]⟩))]
def uRow (l : List SV) : U := (uOf l).getD uZero
theorem uRow_cells (u : U) : uRow u.cells = u := rfl
theorem uRow_urow (us : List U) : (List.range us.length).map (fun j => uRow (urow us j)) = us := by
  apply List.ext_getElem?
  intro j
  by_cases h : j < us.length
  · rw [List.getElem?_map, List.getElem?_range h]; simp [urow, uRow_cells, List.getD_eq_getElem?_getD, h]
  · rw [List.getElem?_eq_none (by simpa using h), List.getElem?_eq_none (by omega)]
theorem urow_app {A : List U} {b : U} {row : Nat → List SV} {j : Nat} (h : row 0 = b.cells) (hj : j < A.length + 1) : appRows 0 0 A.length (urow A) row j = urow (A ++ [b]) j := by
  rw [appRows0]
  split
  · rename_i hlt; simp [urow, List.getD_eq_getElem?_getD, List.getElem?_append_left hlt]
  · have : j = A.length := by omega
    subst this
    rw [Nat.sub_self, h]; simp [urow, List.getD_eq_getElem?_getD]
theorem srow_app {A : List ByteArray} {b : ByteArray} {row : Nat → List SV} {j : Nat} (h : row 0 = [.g (.string b)]) (hj : j < A.length + 1) : appRows 0 0 A.length (srow A) row j = srow (A ++ [b]) j := by
  rw [appRows0]
  split
  · rename_i hlt; simp [srow, List.getD_eq_getElem?_getD, List.getElem?_append_left hlt]
  · have : j = A.length := by omega
    subst this
    rw [Nat.sub_self, h]; simp [srow, List.getD_eq_getElem?_getD]
/-- What Join makes of units, from what is there on; none: one of them is no DT. -/
def joinF : List ByteArray × ByteArray → List U → Option (List ByteArray × ByteArray)
  | a, [] => some a
  | a, u :: us => if u.k = 5 ∧ okU u then joinF (if u.e = true then (a.1 ++ [a.2 ++ u.d], ⟨#[]⟩) else (a.1, a.2 ++ u.d)) us else none
theorem joinF_app : ∀ (us vs : List U) (a : List ByteArray × ByteArray), joinF a (us ++ vs) = (joinF a us).bind fun b => joinF b vs
  | [], vs, a => rfl
  | u :: us, vs, a => by
    simp only [List.cons_append, joinF]
    split
    · rw [joinF_app us vs]
    · rfl
def jUs (us : List U) : List ByteArray × ByteArray := (joinF ([], ⟨#[]⟩) us).getD ([], ⟨#[]⟩)
def jOK (us : List U) : Prop := (joinF ([], ⟨#[]⟩) us).isSome = true
structure JX where
  i : Nat
  out : List ByteArray
  capo : Nat
  L : List Int
  capL : Nat
def annJu (us : List U) (c : Nat) : Ann := ⟨JX, fun x => ⟨[(5, .sl 3 0 1 x.out.length x.capo), (6, .ptr 2 0 0 0), (9, .sl 0 0 10 us.length c), (10, .g (.int .i64 us.length)), (11, .g (.int .i64 x.i))],
  [(0, .view 10 us.length c (urow us) 24), (2, .cells [.ptr 2 0 0 0, .sl 4 0 1 x.L.length x.capL] 73), (3, .view 1 x.out.length x.capo (srow x.out) 9), (4, .view 1 x.L.length x.capL (brow x.L) 5)], 5, 0, []⟩,
  fun x => x.i ≤ us.length ∧ joinF ([], ⟨#[]⟩) (us.take x.i) = some (x.out, bz x.L) ∧ x.out.length ≤ x.i ∧ x.L.length ≤ x.i * 3980 ∧ (x.L.length ≤ x.capL ∧ x.out.length ≤ x.capo) ∧ (∀ y ∈ x.L, 0 ≤ y ∧ y < 256), fun x => us.length - x.i⟩
def annJf (us : List U) (c : Nat) : Ann := ⟨JX, fun x => ⟨[(5, .sl 3 0 1 x.out.length x.capo), (6, .ptr 2 0 0 0), (9, .sl 0 0 10 us.length c), (10, .g (.int .i64 us.length)), (11, .g (.int .i64 x.i))],
  [(0, .view 10 us.length c (urow us) 24), (2, .cells [.g (.pointer none), .g (.slice none 0 0)] 73), (3, .view 1 x.out.length x.capo (srow x.out) 9)], 5, 0, []⟩,
  fun x => x.i ≤ us.length ∧ joinF ([], ⟨#[]⟩) (us.take x.i) = some (x.out, ⟨#[]⟩) ∧ x.out.length ≤ x.i ∧ x.out.length ≤ x.capo, fun x => us.length - x.i⟩
def C_Join : Ctr := ⟨1, List U × Nat, fun x => [.sl 0 0 10 x.1.length x.2], fun x => [(0, .view 10 x.1.length x.2 (urow x.1) 24)], fun x => x.1.length ≤ 1000 ∧ x.1.length ≤ x.2, fun x =>
  [.any Nat (fun cap => jOK x.1 ∧ (jUs x.1).1.length ≤ cap) (fun cap => .tup [.sl 1 0 1 (jUs x.1).1.length cap, .g (.string (jUs x.1).2), .g (.int .i64 0)]) (fun cap => [(0, .view 10 x.1.length x.2 (urow x.1) 24), (1, .view 1 (jUs x.1).1.length cap (srow (jUs x.1).1) 9)]),
   .one (¬ jOK x.1) (.tup [.sl 1 0 1 0 0, .g (.string ⟨#[]⟩), .g (.int .i64 1)]) [(0, .view 10 x.1.length x.2 (urow x.1) 24), (1, .view 1 0 0 (srow []) 9)]]⟩
def cx_Join (x : List U × Nat) : Cx := ⟨ty, ΓOf ΓB, fun _ => [], fun i _ => if i = 4 then [annJf x.1 x.2, annJu x.1 x.2] else [], 36, 1⟩
def jE : List ByteArray × ByteArray := ([], ⟨#[]⟩)
def jStep (a : List ByteArray × ByteArray) (u : U) : List ByteArray × ByteArray := if u.e = true then (a.1 ++ [a.2 ++ u.d], ⟨#[]⟩) else (a.1, a.2 ++ u.d)
theorem take_succ_getD {us : List U} {i : Nat} (h : i < us.length) : us.take (i + 1) = us.take i ++ [us.getD i uZero] := by
  rw [List.take_succ_eq_append_getElem h, List.getD_eq_getElem?_getD, List.getElem?_eq_getElem h]; rfl
theorem joinF_step {us : List U} {i : Nat} {a : List ByteArray × ByteArray} (hi : i < us.length) (h : joinF ([], ⟨#[]⟩) (us.take i) = some a) (hk : (us.getD i uZero).k = 5 ∧ okU (us.getD i uZero)) :
    joinF ([], ⟨#[]⟩) (us.take (i + 1)) = some (jStep a (us.getD i uZero)) := by
  rw [take_succ_getD hi, joinF_app, h]
  simp only [Option.bind_some, joinF, hk, and_self, if_true, jStep]
theorem jbad {us : List U} {i : Nat} {a : List ByteArray × ByteArray} (hi : i < us.length) (h : joinF ([], ⟨#[]⟩) (us.take i) = some a) (hk : ¬ ((us.getD i uZero).k = 5 ∧ okU (us.getD i uZero))) : ¬ jOK us := by
  unfold jOK
  rw [← List.take_append_drop (i + 1) us, joinF_app, take_succ_getD hi, joinF_app, h]
  simp only [Option.bind_some, joinF, hk, if_false, Option.bind_none, Option.isSome_none]
  decide
theorem jend {us : List U} {i : Nat} {a : List ByteArray × ByteArray} (hi : us.length ≤ i) (h : joinF ([], ⟨#[]⟩) (us.take i) = some a) : jOK us ∧ jUs us = a := by
  rw [List.take_of_length_le hi] at h
  unfold jOK jUs
  rw [h]; exact ⟨rfl, rfl⟩
theorem dt_size {u : U} (hk : u.k = 5 ∧ okU u) : u.d.size ≤ 3980 := by
  have h := (okU_iff (by rw [hk.1]; decide)).1 hk.2
  have := h.1.2
  rw [hk.1] at this
  simp at this; omega
theorem jcond {u : U} : (bif u.k != 5 then true else !decide (okU u)) = true ↔ ¬ (u.k = 5 ∧ okU u) := by
  by_cases h1 : u.k = 5 <;> by_cases h2 : okU u <;> simp [h1, h2]
theorem bz_rows (L : List Int) : (⟨((List.range L.length).map fun k => rowByte (brow L k)).toArray⟩ : ByteArray) = bz L := str_brow rfl _ fun j _ => rfl
theorem brow_in {L : List Int} (hL : ∀ y ∈ L, 0 ≤ y ∧ y < 256) {k : Nat} (hk : k < L.length) : ∃ m : Int, (0 ≤ m ∧ m < 256) ∧ brow L k = [SV.g (Value.int IntKind.u8 m)] :=
  ⟨L[k], hL _ (List.getElem_mem hk), by simp [brow, List.getD_eq_getElem?_getD, hk]⟩
theorem bz_empty : bz [] = ⟨#[]⟩ := rfl
theorem byL_inj0 {a b : ByteArray} (h : byL a = byL b) : a = b := by rw [← bz_byL a, h, bz_byL]
theorem byL_app0 (a b : ByteArray) : byL (a ++ b) = byL a ++ byL b := by
  unfold byL
  rw [ByteArray.data_append, Array.toList_append, List.map_append]
theorem eapp (b : ByteArray) : (⟨#[]⟩ : ByteArray) ++ b = b := by
  apply byL_inj0; rw [byL_app0]; rfl
def VcJoin : Prop := ∀ (x : List U × Nat), List.length (Prod.fst x) ≤ (1000 : Nat) ∧ List.length (Prod.fst x) ≤ Prod.snd x → ((∃ (x_1 : JX), (JX.i x_1 ≤ List.length (Prod.fst x) ∧ joinF ([], ByteArray.mk #[]) (List.take (JX.i x_1) (Prod.fst
  x)) = some (JX.out x_1, ByteArray.mk #[]) ∧ List.length (JX.out x_1) ≤ JX.i x_1 ∧ List.length (JX.out x_1) ≤ JX.capo x_1) ∧ List.length (JX.out x_1) = (0 : Nat) ∧ JX.capo x_1 = (0 : Nat) ∧ (0 : Nat) = (0 : Nat) ∧ (0 :
  Nat) = (0 : Nat) ∧ List.length (Prod.fst x) = List.length (Prod.fst x) ∧ Prod.snd x = Prod.snd x ∧ (↑(List.length (Prod.fst x)) : Int) = (↑(List.length (Prod.fst x)) : Int) ∧ (0 : Int) = (↑(JX.i x_1) : Int) ∧ List.length
  (Prod.fst x) ≤ List.length (Prod.fst x) ∧ List.length (Prod.fst x) ≤ Prod.snd x ∧ Prod.snd x ≤ Prod.snd x ∧ (∀ (j : Nat), j < List.length (Prod.fst x) → urow (Prod.fst x) j = urow (Prod.fst x) j ∧ true = true) ∧ [SV.g
  (Value.pointer none), SV.g (Value.slice none (0 : Nat) (0 : Nat))] = [SV.g (Value.pointer none), SV.g (Value.slice none (0 : Nat) (0 : Nat))] ∧ List.length (JX.out x_1) = (0 : Nat) ∧ True) ∨ ∃ (x_1 : JX), (JX.i x_1 ≤
  List.length (Prod.fst x) ∧ joinF ([], ByteArray.mk #[]) (List.take (JX.i x_1) (Prod.fst x)) = some (JX.out x_1, bz (JX.L x_1)) ∧ List.length (JX.out x_1) ≤ JX.i x_1 ∧ List.length (JX.L x_1) ≤ JX.i x_1 * (3980 : Nat) ∧
  (List.length (JX.L x_1) ≤ JX.capL x_1 ∧ List.length (JX.out x_1) ≤ JX.capo x_1) ∧ ∀ (y : Int), y ∈ JX.L x_1 → (0 : Int) ≤ y ∧ y < (256 : Int)) ∧ False) ∧ (∀ (x_1 : JX), JX.i x_1 ≤ List.length (Prod.fst x) ∧ joinF ([],
  ByteArray.mk #[]) (List.take (JX.i x_1) (Prod.fst x)) = some (JX.out x_1, ByteArray.mk #[]) ∧ List.length (JX.out x_1) ≤ JX.i x_1 ∧ List.length (JX.out x_1) ≤ JX.capo x_1 → condX (decide ((↑(JX.i x_1) : Int) <
  (↑(List.length (Prod.fst x)) : Int))) (((0 : Int) ≤ (↑(JX.i x_1) : Int) ∧ (↑(JX.i x_1) : Int) < (↑(List.length (Prod.fst x)) : Int)) ∧ Int.toNat (↑(JX.i x_1) : Int) < List.length (Prod.fst x) ∧ condX (bif U.k (List.getD
  (Prod.fst x) (Int.toNat (↑(JX.i x_1) : Int)) uZero) != (5 : Int) then true else !decide (okU (List.getD (Prod.fst x) (Int.toNat (↑(JX.i x_1) : Int)) uZero))) ((∃ (y : Nat), (jOK (Prod.fst x) ∧ List.length (Prod.fst (jUs
  (Prod.fst x))) ≤ y) ∧ List.length (Prod.fst (jUs (Prod.fst x))) = (0 : Nat) ∧ y = (0 : Nat) ∧ ByteArray.mk #[] = Prod.snd (jUs (Prod.fst x)) ∧ (1 : Int) = (0 : Int) ∧ List.length (Prod.fst x) ≤ List.length (Prod.fst x) ∧
  List.length (Prod.fst x) ≤ Prod.snd x ∧ Prod.snd x ≤ Prod.snd x ∧ (∀ (j : Nat), j < List.length (Prod.fst x) → urow (Prod.fst x) j = urow (Prod.fst x) j ∧ true = true) ∧ List.length (Prod.fst (jUs (Prod.fst x))) = (0 :
  Nat) ∧ True) ∨ ¬jOK (Prod.fst x) ∧ (0 : Nat) = (0 : Nat) ∧ (0 : Nat) = (0 : Nat) ∧ ByteArray.mk #[] = ByteArray.mk #[] ∧ (1 : Int) = (1 : Int) ∧ List.length (Prod.fst x) ≤ List.length (Prod.fst x) ∧ List.length (Prod.fst
  x) ≤ Prod.snd x ∧ Prod.snd x ≤ Prod.snd x ∧ (∀ (j : Nat), j < List.length (Prod.fst x) → urow (Prod.fst x) j = urow (Prod.fst x) j ∧ true = true) ∧ (0 : Nat) = (0 : Nat) ∧ True ∨ False) ((0 : Nat) = (0 : Nat) ∧ U.d
  (List.getD (Prod.fst x) (Int.toNat (↑(JX.i x_1) : Int)) uZero) = U.d (List.getD (Prod.fst x) (Int.toNat (↑(JX.i x_1) : Int)) uZero) ∧ [SV.g (Value.pointer none), SV.g (Value.slice none (0 : Nat) (0 : Nat))] = [SV.g
  (Value.pointer none), SV.g (Value.slice none (0 : Nat) (0 : Nat))] ∧ ByteArray.size (U.d (List.getD (Prod.fst x) (Int.toNat (↑(JX.i x_1) : Int)) uZero)) ≤ (140737488355328 : Nat) ∧ ∀ (y : Nat), ByteArray.size (U.d
  (List.getD (Prod.fst x) (Int.toNat (↑(JX.i x_1) : Int)) uZero)) ≤ y → condX (U.e (List.getD (Prod.fst x) (Int.toNat (↑(JX.i x_1) : Int)) uZero)) (List.length (byL (U.d (List.getD (Prod.fst x) (Int.toNat (↑(JX.i x_1) :
  Int)) uZero))) ≤ List.length (byL (U.d (List.getD (Prod.fst x) (Int.toNat (↑(JX.i x_1) : Int)) uZero))) ∧ List.length (byL (U.d (List.getD (Prod.fst x) (Int.toNat (↑(JX.i x_1) : Int)) uZero))) ≤ (9223372036854775807 :
  Nat) ∧ (∀ (k : Nat), k < List.length (byL (U.d (List.getD (Prod.fst x) (Int.toNat (↑(JX.i x_1) : Int)) uZero))) → ∃ (m : Int), ((0 : Int) ≤ m ∧ m < (256 : Int)) ∧ brow (byL (U.d (List.getD (Prod.fst x) (Int.toNat (↑(JX.i
  x_1) : Int)) uZero))) k = [SV.g (Value.int IntKind.u8 m)]) ∧ (1 : Nat) ≤ (1 : Nat) ∧ (∀ (j : Nat), j < (1 : Nat) → true = true) ∧ (0 : Nat) + List.length (JX.out x_1) ≤ List.length (JX.out x_1) ∧ (0 : Nat) + JX.capo x_1
  ≤ JX.capo x_1 ∧ (List.length (JX.out x_1) + (1 : Nat)) * (16 : Nat) ≤ (140737488355328 : Nat) ∧ ∀ (cap : Nat), List.length (JX.out x_1) + (1 : Nat) ≤ cap → (0 : Nat) = (0 : Nat) ∧ (0 : Nat) = (0 : Nat) ∧ (0 : Nat) = (0 :
  Nat) ∧ List.length (byL (U.d (List.getD (Prod.fst x) (Int.toNat (↑(JX.i x_1) : Int)) uZero))) = List.length (byL (U.d (List.getD (Prod.fst x) (Int.toNat (↑(JX.i x_1) : Int)) uZero))) ∧ y = y ∧ True ∧ (True → (∃ (x' :
  JX), (JX.i x' ≤ List.length (Prod.fst x) ∧ joinF ([], ByteArray.mk #[]) (List.take (JX.i x') (Prod.fst x)) = some (JX.out x', ByteArray.mk #[]) ∧ List.length (JX.out x') ≤ JX.i x' ∧ List.length (JX.out x') ≤ JX.capo x')
  ∧ List.length (Prod.fst x) - JX.i x' < List.length (Prod.fst x) - JX.i x_1 ∧ (0 : Nat) = (0 : Nat) ∧ List.length (JX.out x_1) + (1 : Nat) = List.length (JX.out x') ∧ cap = JX.capo x' ∧ (0 : Nat) = (0 : Nat) ∧ (0 : Nat) =
  (0 : Nat) ∧ List.length (Prod.fst x) = List.length (Prod.fst x) ∧ Prod.snd x = Prod.snd x ∧ (↑(List.length (Prod.fst x)) : Int) = (↑(List.length (Prod.fst x)) : Int) ∧ IntKind.wrap IntKind.i64 ((↑(JX.i x_1) : Int) + (1 :
  Int)) = (↑(JX.i x') : Int) ∧ List.length (Prod.fst x) ≤ List.length (Prod.fst x) ∧ List.length (Prod.fst x) ≤ Prod.snd x ∧ Prod.snd x ≤ Prod.snd x ∧ (∀ (j : Nat), j < List.length (Prod.fst x) → urow (Prod.fst x) j = urow
  (Prod.fst x) j ∧ true = true) ∧ [SV.g (Value.pointer none), SV.g (Value.slice none (0 : Nat) (0 : Nat))] = [SV.g (Value.pointer none), SV.g (Value.slice none (0 : Nat) (0 : Nat))] ∧ List.length (JX.out x') ≤ List.length
  (JX.out x_1) + (1 : Nat) ∧ List.length (JX.out x') ≤ JX.capo x' ∧ JX.capo x' ≤ cap ∧ (∀ (j : Nat), j < List.length (JX.out x') → appRows (0 : Nat) (0 : Nat) (List.length (JX.out x_1)) (srow (JX.out x_1)) (fun (j : Nat)
  => [SV.g (Value.string (List.getD [ByteArray.mk (List.toArray (List.map (fun (k : Nat) => rowByte (brow (byL (U.d (List.getD (Prod.fst x) (Int.toNat (↑(JX.i x_1) : Int)) uZero))) k)) (List.range (List.length (byL (U.d
  (List.getD (Prod.fst x) (Int.toNat (↑(JX.i x_1) : Int)) uZero)))))))] j ByteArray.empty))]) j = srow (JX.out x') j ∧ true = true) ∧ True) ∨ ∃ (x' : JX), (JX.i x' ≤ List.length (Prod.fst x) ∧ joinF ([], ByteArray.mk #[])
  (List.take (JX.i x') (Prod.fst x)) = some (JX.out x', bz (JX.L x')) ∧ List.length (JX.out x') ≤ JX.i x' ∧ List.length (JX.L x') ≤ JX.i x' * (3980 : Nat) ∧ (List.length (JX.L x') ≤ JX.capL x' ∧ List.length (JX.out x') ≤
  JX.capo x') ∧ ∀ (y : Int), y ∈ JX.L x' → (0 : Int) ≤ y ∧ y < (256 : Int)) ∧ List.length (Prod.fst x) - JX.i x' < List.length (Prod.fst x) - JX.i x_1 ∧ False)) ((∃ (x' : JX), (JX.i x' ≤ List.length (Prod.fst x) ∧ joinF
  ([], ByteArray.mk #[]) (List.take (JX.i x') (Prod.fst x)) = some (JX.out x', ByteArray.mk #[]) ∧ List.length (JX.out x') ≤ JX.i x' ∧ List.length (JX.out x') ≤ JX.capo x') ∧ List.length (Prod.fst x) - JX.i x' <
  List.length (Prod.fst x) - JX.i x_1 ∧ False) ∨ ∃ (x' : JX), (JX.i x' ≤ List.length (Prod.fst x) ∧ joinF ([], ByteArray.mk #[]) (List.take (JX.i x') (Prod.fst x)) = some (JX.out x', bz (JX.L x')) ∧ List.length (JX.out x')
  ≤ JX.i x' ∧ List.length (JX.L x') ≤ JX.i x' * (3980 : Nat) ∧ (List.length (JX.L x') ≤ JX.capL x' ∧ List.length (JX.out x') ≤ JX.capo x') ∧ ∀ (y : Int), y ∈ JX.L x' → (0 : Int) ≤ y ∧ y < (256 : Int)) ∧ List.length
  (Prod.fst x) - JX.i x' < List.length (Prod.fst x) - JX.i x_1 ∧ (0 : Nat) = (0 : Nat) ∧ List.length (JX.out x_1) = List.length (JX.out x') ∧ JX.capo x_1 = JX.capo x' ∧ (0 : Nat) = (0 : Nat) ∧ (0 : Nat) = (0 : Nat) ∧
  List.length (Prod.fst x) = List.length (Prod.fst x) ∧ Prod.snd x = Prod.snd x ∧ (↑(List.length (Prod.fst x)) : Int) = (↑(List.length (Prod.fst x)) : Int) ∧ IntKind.wrap IntKind.i64 ((↑(JX.i x_1) : Int) + (1 : Int)) =
  (↑(JX.i x') : Int) ∧ List.length (Prod.fst x) ≤ List.length (Prod.fst x) ∧ List.length (Prod.fst x) ≤ Prod.snd x ∧ Prod.snd x ≤ Prod.snd x ∧ (∀ (j : Nat), j < List.length (Prod.fst x) → urow (Prod.fst x) j = urow
  (Prod.fst x) j ∧ true = true) ∧ (0 : Nat) = (0 : Nat) ∧ (0 : Nat) = (0 : Nat) ∧ List.length (byL (U.d (List.getD (Prod.fst x) (Int.toNat (↑(JX.i x_1) : Int)) uZero))) = List.length (JX.L x') ∧ y = JX.capL x' ∧
  List.length (JX.out x') ≤ List.length (JX.out x_1) ∧ List.length (JX.out x') ≤ JX.capo x' ∧ JX.capo x' ≤ JX.capo x_1 ∧ (∀ (j : Nat), j < List.length (JX.out x') → srow (JX.out x_1) j = srow (JX.out x') j ∧ true = true) ∧
  List.length (JX.L x') ≤ List.length (byL (U.d (List.getD (Prod.fst x) (Int.toNat (↑(JX.i x_1) : Int)) uZero))) ∧ List.length (JX.L x') ≤ JX.capL x' ∧ JX.capL x' ≤ y ∧ (∀ (j : Nat), j < List.length (JX.L x') → brow (byL
  (U.d (List.getD (Prod.fst x) (Int.toNat (↑(JX.i x_1) : Int)) uZero))) j = brow (JX.L x') j ∧ true = true) ∧ True))) ((∃ (y : Nat), (jOK (Prod.fst x) ∧ List.length (Prod.fst (jUs (Prod.fst x))) ≤ y) ∧ (0 : Nat) = (0 :
  Nat) ∧ List.length (JX.out x_1) = List.length (Prod.fst (jUs (Prod.fst x))) ∧ JX.capo x_1 = y ∧ ByteArray.mk #[] = Prod.snd (jUs (Prod.fst x)) ∧ (0 : Int) = (0 : Int) ∧ List.length (Prod.fst x) ≤ List.length (Prod.fst x)
  ∧ List.length (Prod.fst x) ≤ Prod.snd x ∧ Prod.snd x ≤ Prod.snd x ∧ (∀ (j : Nat), j < List.length (Prod.fst x) → urow (Prod.fst x) j = urow (Prod.fst x) j ∧ true = true) ∧ List.length (Prod.fst (jUs (Prod.fst x))) ≤
  List.length (JX.out x_1) ∧ List.length (Prod.fst (jUs (Prod.fst x))) ≤ y ∧ y ≤ JX.capo x_1 ∧ (∀ (j : Nat), j < List.length (Prod.fst (jUs (Prod.fst x))) → srow (JX.out x_1) j = srow (Prod.fst (jUs (Prod.fst x))) j ∧ true
  = true) ∧ True) ∨ ¬jOK (Prod.fst x) ∧ (0 : Nat) = (0 : Nat) ∧ List.length (JX.out x_1) = (0 : Nat) ∧ JX.capo x_1 = (0 : Nat) ∧ ByteArray.mk #[] = ByteArray.mk #[] ∧ (0 : Int) = (1 : Int) ∧ List.length (Prod.fst x) ≤
  List.length (Prod.fst x) ∧ List.length (Prod.fst x) ≤ Prod.snd x ∧ Prod.snd x ≤ Prod.snd x ∧ (∀ (j : Nat), j < List.length (Prod.fst x) → urow (Prod.fst x) j = urow (Prod.fst x) j ∧ true = true) ∧ (0 : Nat) ≤ List.length
  (JX.out x_1) ∧ (0 : Nat) ≤ (0 : Nat) ∧ (0 : Nat) ≤ JX.capo x_1 ∧ (∀ (j : Nat), j < (0 : Nat) → srow (JX.out x_1) j = srow [] j ∧ true = true) ∧ True ∨ False)) ∧ ∀ (x_1 : JX), (JX.i x_1 ≤ List.length (Prod.fst x) ∧ joinF
  ([], ByteArray.mk #[]) (List.take (JX.i x_1) (Prod.fst x)) = some (JX.out x_1, bz (JX.L x_1)) ∧ List.length (JX.out x_1) ≤ JX.i x_1 ∧ List.length (JX.L x_1) ≤ JX.i x_1 * (3980 : Nat) ∧ (List.length (JX.L x_1) ≤ JX.capL
  x_1 ∧ List.length (JX.out x_1) ≤ JX.capo x_1) ∧ ∀ (y : Int), y ∈ JX.L x_1 → (0 : Int) ≤ y ∧ y < (256 : Int)) → condX (decide ((↑(JX.i x_1) : Int) < (↑(List.length (Prod.fst x)) : Int))) (((0 : Int) ≤ (↑(JX.i x_1) : Int)
  ∧ (↑(JX.i x_1) : Int) < (↑(List.length (Prod.fst x)) : Int)) ∧ Int.toNat (↑(JX.i x_1) : Int) < List.length (Prod.fst x) ∧ condX (bif U.k (List.getD (Prod.fst x) (Int.toNat (↑(JX.i x_1) : Int)) uZero) != (5 : Int) then
  true else !decide (okU (List.getD (Prod.fst x) (Int.toNat (↑(JX.i x_1) : Int)) uZero))) ((∃ (y : Nat), (jOK (Prod.fst x) ∧ List.length (Prod.fst (jUs (Prod.fst x))) ≤ y) ∧ List.length (Prod.fst (jUs (Prod.fst x))) = (0 :
  Nat) ∧ y = (0 : Nat) ∧ ByteArray.mk #[] = Prod.snd (jUs (Prod.fst x)) ∧ (1 : Int) = (0 : Int) ∧ List.length (Prod.fst x) ≤ List.length (Prod.fst x) ∧ List.length (Prod.fst x) ≤ Prod.snd x ∧ Prod.snd x ≤ Prod.snd x ∧ (∀
  (j : Nat), j < List.length (Prod.fst x) → urow (Prod.fst x) j = urow (Prod.fst x) j ∧ true = true) ∧ List.length (Prod.fst (jUs (Prod.fst x))) = (0 : Nat) ∧ True) ∨ ¬jOK (Prod.fst x) ∧ (0 : Nat) = (0 : Nat) ∧ (0 : Nat) =
  (0 : Nat) ∧ ByteArray.mk #[] = ByteArray.mk #[] ∧ (1 : Int) = (1 : Int) ∧ List.length (Prod.fst x) ≤ List.length (Prod.fst x) ∧ List.length (Prod.fst x) ≤ Prod.snd x ∧ Prod.snd x ≤ Prod.snd x ∧ (∀ (j : Nat), j <
  List.length (Prod.fst x) → urow (Prod.fst x) j = urow (Prod.fst x) j ∧ true = true) ∧ (0 : Nat) = (0 : Nat) ∧ True ∨ False) ((0 : Nat) = (0 : Nat) ∧ U.d (List.getD (Prod.fst x) (Int.toNat (↑(JX.i x_1) : Int)) uZero) =
  U.d (List.getD (Prod.fst x) (Int.toNat (↑(JX.i x_1) : Int)) uZero) ∧ (0 : Nat) = (0 : Nat) ∧ (0 : Nat) = (0 : Nat) ∧ List.length (JX.L x_1) = List.length (List.map (fun (k : Nat) => rowI (brow (JX.L x_1) k)) (List.range
  (List.length (JX.L x_1)))) ∧ JX.capL x_1 = JX.capL x_1 ∧ List.length (List.map (fun (k : Nat) => rowI (brow (JX.L x_1) k)) (List.range (List.length (JX.L x_1)))) ≤ List.length (JX.L x_1) ∧ List.length (List.map (fun (k :
  Nat) => rowI (brow (JX.L x_1) k)) (List.range (List.length (JX.L x_1)))) ≤ JX.capL x_1 ∧ JX.capL x_1 ≤ JX.capL x_1 ∧ (∀ (j : Nat), j < List.length (List.map (fun (k : Nat) => rowI (brow (JX.L x_1) k)) (List.range
  (List.length (JX.L x_1)))) → brow (JX.L x_1) j = brow (List.map (fun (k : Nat) => rowI (brow (JX.L x_1) k)) (List.range (List.length (JX.L x_1)))) j ∧ true = true) ∧ (List.length (List.map (fun (k : Nat) => rowI (brow
  (JX.L x_1) k)) (List.range (List.length (JX.L x_1)))) ≤ JX.capL x_1 ∧ List.length (List.map (fun (k : Nat) => rowI (brow (JX.L x_1) k)) (List.range (List.length (JX.L x_1)))) + ByteArray.size (U.d (List.getD (Prod.fst x)
  (Int.toNat (↑(JX.i x_1) : Int)) uZero)) ≤ (140737488355328 : Nat)) ∧ ∀ (y : Nat), List.length (List.map (fun (k : Nat) => rowI (brow (JX.L x_1) k)) (List.range (List.length (JX.L x_1))) ++ byL (U.d (List.getD (Prod.fst
  x) (Int.toNat (↑(JX.i x_1) : Int)) uZero))) ≤ y → condX (U.e (List.getD (Prod.fst x) (Int.toNat (↑(JX.i x_1) : Int)) uZero)) (List.length (List.map (fun (k : Nat) => rowI (brow (JX.L x_1) k)) (List.range (List.length
  (JX.L x_1))) ++ byL (U.d (List.getD (Prod.fst x) (Int.toNat (↑(JX.i x_1) : Int)) uZero))) ≤ List.length (List.map (fun (k : Nat) => rowI (brow (JX.L x_1) k)) (List.range (List.length (JX.L x_1))) ++ byL (U.d (List.getD
  (Prod.fst x) (Int.toNat (↑(JX.i x_1) : Int)) uZero))) ∧ List.length (List.map (fun (k : Nat) => rowI (brow (JX.L x_1) k)) (List.range (List.length (JX.L x_1))) ++ byL (U.d (List.getD (Prod.fst x) (Int.toNat (↑(JX.i x_1)
  : Int)) uZero))) ≤ (9223372036854775807 : Nat) ∧ (∀ (k : Nat), k < List.length (List.map (fun (k : Nat) => rowI (brow (JX.L x_1) k)) (List.range (List.length (JX.L x_1))) ++ byL (U.d (List.getD (Prod.fst x) (Int.toNat
  (↑(JX.i x_1) : Int)) uZero))) → ∃ (m : Int), ((0 : Int) ≤ m ∧ m < (256 : Int)) ∧ brow (List.map (fun (k : Nat) => rowI (brow (JX.L x_1) k)) (List.range (List.length (JX.L x_1))) ++ byL (U.d (List.getD (Prod.fst x)
  (Int.toNat (↑(JX.i x_1) : Int)) uZero))) k = [SV.g (Value.int IntKind.u8 m)]) ∧ (1 : Nat) ≤ (1 : Nat) ∧ (∀ (j : Nat), j < (1 : Nat) → true = true) ∧ (0 : Nat) + List.length (JX.out x_1) ≤ List.length (JX.out x_1) ∧ (0 :
  Nat) + JX.capo x_1 ≤ JX.capo x_1 ∧ (List.length (JX.out x_1) + (1 : Nat)) * (16 : Nat) ≤ (140737488355328 : Nat) ∧ ∀ (cap : Nat), List.length (JX.out x_1) + (1 : Nat) ≤ cap → (0 : Nat) = (0 : Nat) ∧ (0 : Nat) = (0 : Nat)
  ∧ (0 : Nat) = (0 : Nat) ∧ List.length (List.map (fun (k : Nat) => rowI (brow (JX.L x_1) k)) (List.range (List.length (JX.L x_1))) ++ byL (U.d (List.getD (Prod.fst x) (Int.toNat (↑(JX.i x_1) : Int)) uZero))) = List.length
  (List.map (fun (k : Nat) => rowI (brow (JX.L x_1) k)) (List.range (List.length (JX.L x_1))) ++ byL (U.d (List.getD (Prod.fst x) (Int.toNat (↑(JX.i x_1) : Int)) uZero))) ∧ y = y ∧ True ∧ (True → (∃ (x' : JX), (JX.i x' ≤
  List.length (Prod.fst x) ∧ joinF ([], ByteArray.mk #[]) (List.take (JX.i x') (Prod.fst x)) = some (JX.out x', ByteArray.mk #[]) ∧ List.length (JX.out x') ≤ JX.i x' ∧ List.length (JX.out x') ≤ JX.capo x') ∧ List.length
  (Prod.fst x) - JX.i x' < List.length (Prod.fst x) - JX.i x_1 ∧ (0 : Nat) = (0 : Nat) ∧ List.length (JX.out x_1) + (1 : Nat) = List.length (JX.out x') ∧ cap = JX.capo x' ∧ (0 : Nat) = (0 : Nat) ∧ (0 : Nat) = (0 : Nat) ∧
  List.length (Prod.fst x) = List.length (Prod.fst x) ∧ Prod.snd x = Prod.snd x ∧ (↑(List.length (Prod.fst x)) : Int) = (↑(List.length (Prod.fst x)) : Int) ∧ IntKind.wrap IntKind.i64 ((↑(JX.i x_1) : Int) + (1 : Int)) =
  (↑(JX.i x') : Int) ∧ List.length (Prod.fst x) ≤ List.length (Prod.fst x) ∧ List.length (Prod.fst x) ≤ Prod.snd x ∧ Prod.snd x ≤ Prod.snd x ∧ (∀ (j : Nat), j < List.length (Prod.fst x) → urow (Prod.fst x) j = urow
  (Prod.fst x) j ∧ true = true) ∧ [SV.g (Value.pointer none), SV.g (Value.slice none (0 : Nat) (0 : Nat))] = [SV.g (Value.pointer none), SV.g (Value.slice none (0 : Nat) (0 : Nat))] ∧ List.length (JX.out x') ≤ List.length
  (JX.out x_1) + (1 : Nat) ∧ List.length (JX.out x') ≤ JX.capo x' ∧ JX.capo x' ≤ cap ∧ (∀ (j : Nat), j < List.length (JX.out x') → appRows (0 : Nat) (0 : Nat) (List.length (JX.out x_1)) (srow (JX.out x_1)) (fun (j : Nat)
  => [SV.g (Value.string (List.getD [ByteArray.mk (List.toArray (List.map (fun (k : Nat) => rowByte (brow (List.map (fun (k : Nat) => rowI (brow (JX.L x_1) k)) (List.range (List.length (JX.L x_1))) ++ byL (U.d (List.getD
  (Prod.fst x) (Int.toNat (↑(JX.i x_1) : Int)) uZero))) k)) (List.range (List.length (List.map (fun (k : Nat) => rowI (brow (JX.L x_1) k)) (List.range (List.length (JX.L x_1))) ++ byL (U.d (List.getD (Prod.fst x)
  (Int.toNat (↑(JX.i x_1) : Int)) uZero)))))))] j ByteArray.empty))]) j = srow (JX.out x') j ∧ true = true) ∧ True) ∨ ∃ (x' : JX), (JX.i x' ≤ List.length (Prod.fst x) ∧ joinF ([], ByteArray.mk #[]) (List.take (JX.i x')
  (Prod.fst x)) = some (JX.out x', bz (JX.L x')) ∧ List.length (JX.out x') ≤ JX.i x' ∧ List.length (JX.L x') ≤ JX.i x' * (3980 : Nat) ∧ (List.length (JX.L x') ≤ JX.capL x' ∧ List.length (JX.out x') ≤ JX.capo x') ∧ ∀ (y :
  Int), y ∈ JX.L x' → (0 : Int) ≤ y ∧ y < (256 : Int)) ∧ List.length (Prod.fst x) - JX.i x' < List.length (Prod.fst x) - JX.i x_1 ∧ False)) ((∃ (x' : JX), (JX.i x' ≤ List.length (Prod.fst x) ∧ joinF ([], ByteArray.mk #[])
  (List.take (JX.i x') (Prod.fst x)) = some (JX.out x', ByteArray.mk #[]) ∧ List.length (JX.out x') ≤ JX.i x' ∧ List.length (JX.out x') ≤ JX.capo x') ∧ List.length (Prod.fst x) - JX.i x' < List.length (Prod.fst x) - JX.i
  x_1 ∧ False) ∨ ∃ (x' : JX), (JX.i x' ≤ List.length (Prod.fst x) ∧ joinF ([], ByteArray.mk #[]) (List.take (JX.i x') (Prod.fst x)) = some (JX.out x', bz (JX.L x')) ∧ List.length (JX.out x') ≤ JX.i x' ∧ List.length (JX.L
  x') ≤ JX.i x' * (3980 : Nat) ∧ (List.length (JX.L x') ≤ JX.capL x' ∧ List.length (JX.out x') ≤ JX.capo x') ∧ ∀ (y : Int), y ∈ JX.L x' → (0 : Int) ≤ y ∧ y < (256 : Int)) ∧ List.length (Prod.fst x) - JX.i x' < List.length
  (Prod.fst x) - JX.i x_1 ∧ (0 : Nat) = (0 : Nat) ∧ List.length (JX.out x_1) = List.length (JX.out x') ∧ JX.capo x_1 = JX.capo x' ∧ (0 : Nat) = (0 : Nat) ∧ (0 : Nat) = (0 : Nat) ∧ List.length (Prod.fst x) = List.length
  (Prod.fst x) ∧ Prod.snd x = Prod.snd x ∧ (↑(List.length (Prod.fst x)) : Int) = (↑(List.length (Prod.fst x)) : Int) ∧ IntKind.wrap IntKind.i64 ((↑(JX.i x_1) : Int) + (1 : Int)) = (↑(JX.i x') : Int) ∧ List.length (Prod.fst
  x) ≤ List.length (Prod.fst x) ∧ List.length (Prod.fst x) ≤ Prod.snd x ∧ Prod.snd x ≤ Prod.snd x ∧ (∀ (j : Nat), j < List.length (Prod.fst x) → urow (Prod.fst x) j = urow (Prod.fst x) j ∧ true = true) ∧ (0 : Nat) = (0 :
  Nat) ∧ (0 : Nat) = (0 : Nat) ∧ List.length (List.map (fun (k : Nat) => rowI (brow (JX.L x_1) k)) (List.range (List.length (JX.L x_1))) ++ byL (U.d (List.getD (Prod.fst x) (Int.toNat (↑(JX.i x_1) : Int)) uZero))) =
  List.length (JX.L x') ∧ y = JX.capL x' ∧ List.length (JX.out x') ≤ List.length (JX.out x_1) ∧ List.length (JX.out x') ≤ JX.capo x' ∧ JX.capo x' ≤ JX.capo x_1 ∧ (∀ (j : Nat), j < List.length (JX.out x') → srow (JX.out
  x_1) j = srow (JX.out x') j ∧ true = true) ∧ List.length (JX.L x') ≤ List.length (List.map (fun (k : Nat) => rowI (brow (JX.L x_1) k)) (List.range (List.length (JX.L x_1))) ++ byL (U.d (List.getD (Prod.fst x) (Int.toNat
  (↑(JX.i x_1) : Int)) uZero))) ∧ List.length (JX.L x') ≤ JX.capL x' ∧ JX.capL x' ≤ y ∧ (∀ (j : Nat), j < List.length (JX.L x') → brow (List.map (fun (k : Nat) => rowI (brow (JX.L x_1) k)) (List.range (List.length (JX.L
  x_1))) ++ byL (U.d (List.getD (Prod.fst x) (Int.toNat (↑(JX.i x_1) : Int)) uZero))) j = brow (JX.L x') j ∧ true = true) ∧ True))) (List.length (JX.L x_1) ≤ List.length (JX.L x_1) ∧ List.length (JX.L x_1) ≤
  (9223372036854775807 : Nat) ∧ (∀ (k : Nat), k < List.length (JX.L x_1) → ∃ (m : Int), ((0 : Int) ≤ m ∧ m < (256 : Int)) ∧ brow (JX.L x_1) k = [SV.g (Value.int IntKind.u8 m)]) ∧ ((∃ (y : Nat), (jOK (Prod.fst x) ∧
  List.length (Prod.fst (jUs (Prod.fst x))) ≤ y) ∧ (0 : Nat) = (0 : Nat) ∧ List.length (JX.out x_1) = List.length (Prod.fst (jUs (Prod.fst x))) ∧ JX.capo x_1 = y ∧ ByteArray.mk (List.toArray (List.map (fun (k : Nat) =>
  rowByte (brow (JX.L x_1) k)) (List.range (List.length (JX.L x_1))))) = Prod.snd (jUs (Prod.fst x)) ∧ (0 : Int) = (0 : Int) ∧ List.length (Prod.fst x) ≤ List.length (Prod.fst x) ∧ List.length (Prod.fst x) ≤ Prod.snd x ∧
  Prod.snd x ≤ Prod.snd x ∧ (∀ (j : Nat), j < List.length (Prod.fst x) → urow (Prod.fst x) j = urow (Prod.fst x) j ∧ true = true) ∧ List.length (Prod.fst (jUs (Prod.fst x))) ≤ List.length (JX.out x_1) ∧ List.length
  (Prod.fst (jUs (Prod.fst x))) ≤ y ∧ y ≤ JX.capo x_1 ∧ (∀ (j : Nat), j < List.length (Prod.fst (jUs (Prod.fst x))) → srow (JX.out x_1) j = srow (Prod.fst (jUs (Prod.fst x))) j ∧ true = true) ∧ True) ∨ ¬jOK (Prod.fst x) ∧
  (0 : Nat) = (0 : Nat) ∧ List.length (JX.out x_1) = (0 : Nat) ∧ JX.capo x_1 = (0 : Nat) ∧ ByteArray.mk (List.toArray (List.map (fun (k : Nat) => rowByte (brow (JX.L x_1) k)) (List.range (List.length (JX.L x_1))))) =
  ByteArray.mk #[] ∧ (0 : Int) = (1 : Int) ∧ List.length (Prod.fst x) ≤ List.length (Prod.fst x) ∧ List.length (Prod.fst x) ≤ Prod.snd x ∧ Prod.snd x ≤ Prod.snd x ∧ (∀ (j : Nat), j < List.length (Prod.fst x) → urow
  (Prod.fst x) j = urow (Prod.fst x) j ∧ true = true) ∧ (0 : Nat) ≤ List.length (JX.out x_1) ∧ (0 : Nat) ≤ (0 : Nat) ∧ (0 : Nat) ≤ JX.capo x_1 ∧ (∀ (j : Nat), j < (0 : Nat) → srow (JX.out x_1) j = srow [] j ∧ true = true)
  ∧ True ∨ False))
def VcJoinS : Prop := ∀ (x : List U × Nat), x.1.length ≤ 1000 ∧ x.1.length ≤ x.2 → fnX (cx_Join x) (bodyOf Try.f15) Try.f15.results.toList (C_Join.args x) (C_Join.H x) (endX 1 (C_Join.outs x))
theorem vcJoinE : VcJoin = VcJoinS := by kernel_rfl
set_option maxHeartbeats 4000000 in
theorem vcJoin : VcJoin := by
  rintro ⟨us, c⟩ ⟨hn, hc⟩
  have hn : us.length ≤ 1000 := hn
  have hc : us.length ≤ c := hc
  simp only [eq_self, true_and, and_true, Nat.le_refl, Int.le_refl, implies_true, forall_const, and_false, false_and, exists_false, false_or, or_false, true_implies, Nat.zero_add, and_self, Int.toNat_natCast, cond_true, cond_false, hc, rowI_brow, bz_rows, bz_byL]
  refine ⟨⟨⟨0, [], 0, [], 0⟩, ?_⟩, fun x hx => ?_, fun x hx => ?_⟩
  · dsimp only
    and_intros <;> first | omega | with_reducible rfl | exact trivial | rfl | exact Nat.le_refl _
  · obtain ⟨i, out, capo, L, capL⟩ := x
    obtain ⟨h1, h2, h3, h4⟩ := hx
    dsimp only at h1 h2 h3 h4 ⊢
    refine (condX_iff _ _ _).2 ⟨fun hlt => ⟨⟨by omega, of_decide_eq_true hlt⟩, by have := of_decide_eq_true hlt; omega, (condX_iff _ _ _).2 ⟨fun hb => ?_, fun hg => ?_⟩⟩, fun hge => ?_⟩
    · have hlt := of_decide_eq_true hlt
      exact Or.inr (jbad (by omega) h2 (jcond.1 hb))
    · have hlt : i < us.length := by have := of_decide_eq_true hlt; omega
      have hk : (us.getD i uZero).k = 5 ∧ okU (us.getD i uZero) := by
        have : ¬ ¬ ((us.getD i uZero).k = 5 ∧ okU (us.getD i uZero)) := fun h => by
          have := jcond.2 h
          rw [hg] at this; cases this
        exact Decidable.not_not.1 this
      have hst := joinF_step hlt h2 hk
      have hds := dt_size hk
      have hw : IntKind.i64.wrap ((i : Int) + 1) = ((i + 1 : Nat) : Int) := by rw [wrap1 (by omega) (by omega)]; rfl
      rw [hw]
      have hbl := byL_len (us.getD i uZero).d
      refine ⟨by omega, fun y8 hy8 => (condX_iff _ _ _).2 ⟨fun he => ?_, fun he => ?_⟩⟩
      · refine ⟨by omega, fun k hk => brow_in (byL_nn _) hk, by omega, fun cap hcap => ⟨⟨i + 1, out ++ [(us.getD i uZero).d], cap, [], 0⟩, ?_⟩⟩
        have hst' : joinF ([], ⟨#[]⟩) (us.take (i + 1)) = some (out ++ [(us.getD i uZero).d], ⟨#[]⟩) := by rw [hst, jStep, if_pos he, eapp]
        dsimp only
        and_intros <;> first | omega | with_reducible rfl | exact trivial | exact hst' | (simp; omega) | (simp; done) | skip
        · intro j hj
          exact srow_app (b := (us.getD i uZero).d) rfl (by simpa using hj)
      · refine ⟨⟨i + 1, out, capo, byL (us.getD i uZero).d, y8⟩, ?_⟩
        have hst' : joinF ([], ⟨#[]⟩) (us.take (i + 1)) = some (out, bz (byL (us.getD i uZero).d)) := by rw [hst, jStep, if_neg (by rw [he]; decide), eapp, bz_byL]
        dsimp only
        and_intros <;> first | omega | with_reducible rfl | exact trivial | exact hst' | exact byL_nn _ | exact fun j hj => rfl
    · have hge := of_decide_eq_false hge
      obtain ⟨q1, q2⟩ := jend (by omega) h2
      refine Or.inl ⟨capo, ?_⟩
      rw [q2]
      dsimp only
      and_intros <;> first | omega | with_reducible rfl | exact trivial | exact q1 | exact fun j hj => rfl
  · obtain ⟨i, out, capo, L, capL⟩ := x
    obtain ⟨h1, h2, h3, h5, ⟨h6, h4⟩, h7⟩ := hx
    dsimp only at h1 h2 h3 h4 h5 h6 h7 ⊢
    have hi4 : i * 3980 ≤ 3980000 := by omega
    refine (condX_iff _ _ _).2 ⟨fun hlt => ⟨⟨by omega, of_decide_eq_true hlt⟩, by have := of_decide_eq_true hlt; omega, (condX_iff _ _ _).2 ⟨fun hb => ?_, fun hg => ?_⟩⟩, fun hge => ?_⟩
    · have hlt := of_decide_eq_true hlt
      exact Or.inr (jbad (by omega) h2 (jcond.1 hb))
    · have hlt : i < us.length := by have := of_decide_eq_true hlt; omega
      have hk : (us.getD i uZero).k = 5 ∧ okU (us.getD i uZero) := by
        have : ¬ ¬ ((us.getD i uZero).k = 5 ∧ okU (us.getD i uZero)) := fun h => by
          have := jcond.2 h
          rw [hg] at this; cases this
        exact Decidable.not_not.1 this
      have hst := joinF_step hlt h2 hk
      have hds := dt_size hk
      have hw : IntKind.i64.wrap ((i : Int) + 1) = ((i + 1 : Nat) : Int) := by rw [wrap1 (by omega) (by omega)]; rfl
      rw [hw]
      have hbl := byL_len (us.getD i uZero).d
      have hbb : bz L ++ (us.getD i uZero).d = bz (L ++ byL (us.getD i uZero).d) := by rw [bz_app, bz_byL]
      have hLn : ∀ y ∈ L ++ byL (us.getD i uZero).d, 0 ≤ y ∧ y < 256 := fun y hy => by
        rcases List.mem_append.1 hy with h | h
        · exact h7 y h
        · exact byL_nn _ y h
      have hLl : (L ++ byL (us.getD i uZero).d).length = L.length + (us.getD i uZero).d.size := by rw [List.length_append, hbl]
      refine ⟨h6, ⟨h6, by omega⟩, fun y8 hy8 => (condX_iff _ _ _).2 ⟨fun he => ?_, fun he => ?_⟩⟩
      · refine ⟨by omega, fun k hk => brow_in hLn hk, by omega, fun cap hcap => ⟨⟨i + 1, out ++ [bz (L ++ byL (us.getD i uZero).d)], cap, [], 0⟩, ?_⟩⟩
        have hst' : joinF ([], ⟨#[]⟩) (us.take (i + 1)) = some (out ++ [bz (L ++ byL (us.getD i uZero).d)], ⟨#[]⟩) := by rw [hst, jStep, if_pos he, hbb]
        dsimp only
        and_intros <;> first | omega | with_reducible rfl | exact trivial | exact hst' | (simp; omega) | (simp; done) | skip
        · intro j hj
          exact srow_app (b := bz (L ++ byL (us.getD i uZero).d)) rfl (by simpa using hj)
      · refine ⟨⟨i + 1, out, capo, L ++ byL (us.getD i uZero).d, y8⟩, ?_⟩
        have hst' : joinF ([], ⟨#[]⟩) (us.take (i + 1)) = some (out, bz (L ++ byL (us.getD i uZero).d)) := by rw [hst, jStep, if_neg (by rw [he]; decide), hbb]
        dsimp only
        and_intros <;> first | omega | with_reducible rfl | exact trivial | exact hst' | exact hLn | exact fun j hj => rfl
    · have hge := of_decide_eq_false hge
      obtain ⟨q1, q2⟩ := jend (by omega) h2
      refine ⟨by omega, fun k hk => brow_in h7 hk, Or.inl ⟨capo, ?_⟩⟩
      rw [q2]
      dsimp only
      and_intros <;> first | omega | with_reducible rfl | exact trivial | exact q1 | exact fun j hj => rfl
theorem vcJoinK : ∀ (x : List U × Nat), x.1.length ≤ 1000 ∧ x.1.length ≤ x.2 → Held (fnX (cx_Join x) (bodyOf Try.f15) Try.f15.results.toList (C_Join.args x) (C_Join.H x) (endX 1 (C_Join.outs x))) := held2 (p := fun (x : List U × Nat) (_ : x.1.length ≤ 1000 ∧ x.1.length ≤ x.2) => fnX (cx_Join x) (bodyOf Try.f15) Try.f15.results.toList (C_Join.args x) (C_Join.H x) (endX 1 (C_Join.outs x))) vcJoinE vcJoin
end Go.Proofs.Ytmblefpbfpjneaa
