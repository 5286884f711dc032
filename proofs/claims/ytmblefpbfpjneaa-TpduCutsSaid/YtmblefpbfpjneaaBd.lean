/- strings.Builder: what copyCheck and String do. Turned from the kit's worked contracts of strings.Builder. -/
import Derived.Test.YtmblefpbfpjneaaTy
import Derived.Test.YtmblefpbfpjneaaEngZ
import Derived.Lib.Builder
import Derived.Lib.UnsafeStr
import Derived.Lib.Walk
import Derived.WalkKit
import Derived.Laws.Externs
import Derived.Shelf.RegionOpenPlain
import Derived.Below
set_option linter.unusedVariables false
set_option linter.unusedSimpArgs false
namespace Go.Proofs.Ytmblefpbfpjneaa
open Go Go.Eng Go.RowKit
attribute [local irreducible] condX
theorem infoB : (Try.prog.info? 73).map (·.size) = some 2 := by kernel_rfl
theorem liesB : liesAt Try.prog Try.prog.depth 73 (2 / Try.prog.cellsOf 73) 0 73 1 = true := by kernel_rfl
set_option maxHeartbeats 1000000 in
set_option maxRecDepth 100000 in
theorem cc_used (b : Nat) (w : World) (h0 : w.cell? ⟨b, 0, none⟩ = some (.pointer (some ⟨b, 0, none⟩))) :
    Calls Try.prog 43 #[.pointer (some ⟨b, 0, none⟩)] w fun e w' => e = .returned (.tuple #[]) ∧ w' = w := by
  obtain ⟨j, hj, _⟩ := Option.map_eq_some_iff.1 infoB
  go_enter Try.func43, Try.ntmps43
  go_wp2
  rw [Lib.run_neq_ptr_same w _ Try.underlying70 hj]
  go_wp2
  go_end0
  exact ⟨rfl, rfl⟩
set_option maxHeartbeats 1000000 in
set_option maxRecDepth 100000 in
theorem cc_fresh (b : Nat) (w : World) (h0 : w.cell? ⟨b, 0, none⟩ = some (.pointer none)) (hsh : w.shape? b = some (73, 2)) (hfz : w.frozen? ⟨b, 0, none⟩ = false) :
    Calls Try.prog 43 #[.pointer (some ⟨b, 0, none⟩)] w fun e w' => e = .returned (.tuple #[]) ∧ w' = w.setCell ⟨b, 0, none⟩ (.pointer (some ⟨b, 0, none⟩)) := by
  obtain ⟨j, hj, hjs⟩ := Option.map_eq_some_iff.1 infoB
  go_enter Try.func43, Try.ntmps43
  go_wp2
  rw [Lib.run_to_unsafe w ⟨b, 0, none⟩ Try.underlying70 Try.underlying98 hj (by rw [hjs]; decide) hsh (Nat.zero_lt_succ 1)]
  simp only [Result.andThen]
  rw [Oper.upon_value]
  go_wp2
  rw [run_callFunc_extern Try.func50 (by kernel_rfl) (by kernel_rfl) (by kernel_rfl) (e := Extern.AbiNoEscape.same) (by kernel_rfl)]
  rw [Lib.run_noEscape]
  simp only [Result.andThen]
  rw [Oper.upon_value]
  go_wp2
  rw [Lib.run_from_unsafe w ⟨b, 0, none⟩ Try.underlying98 Try.underlying70 hj hsh liesB]
  simp only [Result.andThen]
  rw [Oper.upon_value]
  go_wp2
  go_end0
  exact ⟨rfl, rfl⟩

/-- As it was, but for what was drawn. -/
def Same (w w' : World) : Prop := w'.heap = w.heap ∧ w'.os = w.os ∧ w'.tape = w.tape ∧ w'.output = w.output
theorem cellsByte : Try.prog.cellsOf 5 = 1 := by kernel_rfl
set_option maxHeartbeats 2000000 in
set_option maxRecDepth 100000 in
theorem str_some (b g cap : Nat) (p : Value) (l : List UInt8) (cur : Array Value) (fr : Nat × Nat) (w : World) (hbk : w.heap[b]? = some (.cells #[p, .slice (some ⟨g, 0, none⟩) l.length cap] 73 (0, 0)))
    (hg : w.heap[g]? = some (.cells cur 5 fr)) (hlc : l.length ≤ cap) (hc : l.length ≤ cur.size) (hn : l.length ≤ 9223372036854775807) (h0 : l ≠ []) (hcell : ∀ (j : Nat) (x : UInt8), l[j]? = some x → cur[j]? = some (Value.int .u8 x.toNat)) :
    Calls Try.prog 31 #[.pointer (some ⟨b, 0, none⟩)] w fun e w' => e = .returned (.string ⟨l.toArray⟩) ∧ ∃ W, Same w W ∧ w' = W.freeze ⟨g, 0, none⟩ l.length := by
  have hl0 : l.length ≠ 0 := by simpa using h0
  have c1 : w.drew.cell? ⟨b, 1, none⟩ = some (.slice (some ⟨g, 0, none⟩) l.length cap) := by
    have : w.drew.heap[b]? = some (.cells #[p, .slice (some ⟨g, 0, none⟩) l.length cap] 73 (0, 0)) := hbk
    rw [Lib.cell_of_heap this]; rfl
  have hSD : (Builtin.unsafeSliceData_ #[71] 91 #[.slice (some ⟨g, 0, none⟩) l.length cap]).run Try.prog w.drew = .ok (.pointer (some ⟨g, 0, none⟩)) w.drew :=
    Lib.run_unsafeSliceData_row _ _ _ _ _ _ (by omega)
  have hUS : (Builtin.unsafeString_ #[91, 3] 9 #[.pointer (some ⟨g, 0, none⟩), .int .i64 l.length]).run Try.prog w.drew = .ok (.string ⟨l.toArray⟩) (w.drew.freeze ⟨g, 0, none⟩ l.length) := by
    have hg' : w.drew.heap[g]? = some (.cells cur 5 fr) := hg
    refine Lib.run_unsafeString_row w.drew 91 3 9 5 Try.underlying91 cellsByte g cur.size (by simp [World.shape?, hg']) l h0 (by omega) hn ?_
    intro j x hx
    have := hcell j x hx
    have e : (({ block := g, off := 0 } : Addr).add j) = ⟨g, j, none⟩ := by cases j <;> simp [Addr.add]
    rw [e, Lib.cell_of_heap hg']; exact this
  have mixed : Try.prog.follows .mixedOrders = true := by kernel_rfl
  go_enter Try.func31, Try.ntmps31
  go_wp2
  go_region_o
  all_goals (go_wp2; go_ret; exact ⟨rfl, w.drew, ⟨rfl, rfl, rfl, rfl⟩, rfl⟩)
set_option maxHeartbeats 2000000 in
set_option maxRecDepth 100000 in
theorem str_nil (b : Nat) (p : Value) (w : World) (hbk : w.heap[b]? = some (.cells #[p, .slice none 0 0] 73 (0, 0))) :
    Calls Try.prog 31 #[.pointer (some ⟨b, 0, none⟩)] w fun e w' => e = .returned (.string ⟨#[]⟩) ∧ Same w w' := by
  have hUS : ∀ (W : World) (q : Option Addr), (Builtin.unsafeString_ #[91, 3] 9 #[.pointer q, .int .i64 0]).run Try.prog W = .ok (.string .empty) W := fun W q => Lib.run_unsafeString_none W _ _ _ q
  have c1 : w.drew.cell? ⟨b, 1, none⟩ = some (.slice none 0 0) := by
    have : w.drew.heap[b]? = some (.cells #[p, .slice none 0 0] 73 (0, 0)) := hbk
    rw [Lib.cell_of_heap this]; rfl
  have hSD : (Builtin.unsafeSliceData_ #[71] 91 #[.slice none 0 0]).run Try.prog w.drew = .ok (.pointer none) w.drew := rfl
  have mixed : Try.prog.follows .mixedOrders = true := by kernel_rfl
  go_enter Try.func31, Try.ntmps31
  go_wp2
  go_region_o
  all_goals (go_wp2; go_ret; exact ⟨rfl, rfl, rfl, rfl, rfl⟩)
set_option maxHeartbeats 2000000 in
set_option maxRecDepth 100000 in
theorem str_noroom (b g : Nat) (p : Value) (cur : Array Value) (fr : Nat × Nat) (w : World) (hbk : w.heap[b]? = some (.cells #[p, .slice (some ⟨g, 0, none⟩) 0 0] 73 (0, 0))) (hg : w.heap[g]? = some (.cells cur 5 fr)) :
    Calls Try.prog 31 #[.pointer (some ⟨b, 0, none⟩)] w fun e w' => e = .returned (.string ⟨#[]⟩) ∧ ∃ W o, Same w W ∧ w' = W.alloc o := by
  have hUS : ∀ (W : World) (q : Option Addr), (Builtin.unsafeString_ #[91, 3] 9 #[.pointer q, .int .i64 0]).run Try.prog W = .ok (.string .empty) W := fun W q => Lib.run_unsafeString_none W _ _ _ q
  have hlt : b < w.heap.size := by
    rcases Nat.lt_or_ge b w.heap.size with h' | h'
    · exact h'
    · simp [Array.getElem?_eq_none h'] at hbk
  have c1 : w.drew.cell? ⟨b, 1, none⟩ = some (.slice (some ⟨g, 0, none⟩) 0 0) := by
    have : w.drew.heap[b]? = some (.cells #[p, .slice (some ⟨g, 0, none⟩) 0 0] 73 (0, 0)) := hbk
    rw [Lib.cell_of_heap this]; rfl
  have hg' : w.drew.heap[g]? = some (.cells cur 5 fr) := hg
  have hSD : (Builtin.unsafeSliceData_ #[71] 91 #[.slice (some ⟨g, 0, none⟩) 0 0]).run Try.prog w.drew = .ok (.pointer (some ⟨w.drew.heap.size, 0, none⟩)) (w.drew.alloc (.view ⟨g, 0, none⟩ 5)) :=
    Lib.run_unsafeSliceData_zero w.drew _ _ 5 Try.underlying91 ⟨g, 0, none⟩ 0 (5, cur.size) (by simp [World.shape?, hg'])
  have c2 : (w.drew.alloc (.view ⟨g, 0, none⟩ 5)).cell? ⟨b, 1, none⟩ = some (.slice (some ⟨g, 0, none⟩) 0 0) := by
    have : (w.drew.alloc (.view ⟨g, 0, none⟩ 5)).heap[b]? = _ := (Lib.alloc_old w.drew _ b hlt).trans hbk
    rw [Lib.cell_of_heap this]; rfl
  have c3 : (w.alloc (.view ⟨g, 0, none⟩ 5)).drew.cell? ⟨b, 1, none⟩ = some (.slice (some ⟨g, 0, none⟩) 0 0) := c2
  have c0 : w.cell? ⟨b, 1, none⟩ = some (.slice (some ⟨g, 0, none⟩) 0 0) := c1
  have mixed : Try.prog.follows .mixedOrders = true := by kernel_rfl
  go_enter Try.func31, Try.ntmps31
  go_wp2
  go_region_o
  all_goals (go_wp2; go_ret; exact ⟨rfl, w.drew, Obj.view ⟨g, 0, none⟩ 5, ⟨rfl, rfl, rfl, rfl⟩, rfl⟩)
set_option maxHeartbeats 2000000 in
set_option maxRecDepth 100000 in
theorem str_room (b g cap : Nat) (p : Value) (w : World) (hc0 : cap ≠ 0) (hbk : w.heap[b]? = some (.cells #[p, .slice (some ⟨g, 0, none⟩) 0 cap] 73 (0, 0))) :
    Calls Try.prog 31 #[.pointer (some ⟨b, 0, none⟩)] w fun e w' => e = .returned (.string ⟨#[]⟩) ∧ Same w w' := by
  have hUS : ∀ (W : World) (q : Option Addr), (Builtin.unsafeString_ #[91, 3] 9 #[.pointer q, .int .i64 0]).run Try.prog W = .ok (.string .empty) W := fun W q => Lib.run_unsafeString_none W _ _ _ q
  have c1 : w.drew.cell? ⟨b, 1, none⟩ = some (.slice (some ⟨g, 0, none⟩) 0 cap) := by
    have : w.drew.heap[b]? = some (.cells #[p, .slice (some ⟨g, 0, none⟩) 0 cap] 73 (0, 0)) := hbk
    rw [Lib.cell_of_heap this]; rfl
  have hSD : (Builtin.unsafeSliceData_ #[71] 91 #[.slice (some ⟨g, 0, none⟩) 0 cap]).run Try.prog w.drew = .ok (.pointer (some ⟨g, 0, none⟩)) w.drew :=
    Lib.run_unsafeSliceData_row _ _ _ _ _ _ hc0
  clear hc0
  have mixed : Try.prog.follows .mixedOrders = true := by kernel_rfl
  go_enter Try.func31, Try.ntmps31
  go_wp2
  go_region_o
  all_goals (go_wp2; go_ret; exact ⟨rfl, rfl, rfl, rfl, rfl⟩)

/-! ### as rules of the engine -/
theorem gen_end {P : Program} {B : Nat → Prop} {nid : Nat} {ρ : Val} {H : Heap} {w w' : World} {K : SV → Heap → Prop} {v : Value} (h : Eng.Outcome P B nid ρ H w K (.ok v w')) :
    ∃ ρ' r H', Ending.returned v = .returned (r.den ρ') ∧ Moved ⟨fun i => i < nid, B⟩ ⟨fun i => i < nid + 8, B⟩ ρ H w ρ' H' r w' ∧ K r H' := by
  obtain ⟨w2, ρ2, r2, H2, hrun, hm, hk⟩ := h
  injection hrun with q1 q2
  subst q2
  exact ⟨ρ2, r2, H2, by rw [q1], hm, hk⟩
def wtCC (args : List SV) (H : Heap) (_ : Nat) (K : SV → Heap → Prop) : Prop := match args with
  | [.ptr id 0 0 0] => match Eng.look id H with
    | some (.cells [a, b] T) => match Nat.beq T 73 with
      | true => match a with
        | .g (.pointer none) => K (.tup []) ((id, .cells [.ptr id 0 0 0, b] T) :: H)
        | .ptr id' 0 0 0 => match Nat.beq id' id with
          | true => K (.tup []) H
          | false => False
        | _ => False
      | false => False
    | _ => False
  | _ => False
theorem ok_copyCheck : GenSound Try.prog 43 wtCC := ⟨fnOK_of Try.func43 (by kernel_rfl) (by kernel_rfl), fun args H nid K B ρ w hi hH hwt => by
  unfold wtCC at hwt
  split at hwt
  rotate_left
  · exact hwt.elim
  rename_i id
  split at hwt
  rotate_left
  · exact hwt.elim
  rename_i a b T hl
  split at hwt
  rotate_left
  · exact hwt.elim
  rename_i hT
  have hT := Nat.eq_of_beq_eq_true hT
  subst hT
  obtain ⟨h1, h2, h3⟩ := hH.here id _ hl
  obtain ⟨bb, e1, e0, e2⟩ := h3.cells
  have earg : (SV.denL ρ [SV.ptr id 0 0 0]).toArray = #[.pointer (some ⟨bb, 0, none⟩)] := by simp [SV.denL, SV.den, e1, e0]
  rw [earg]
  split at hwt
  · have hc : w.cell? ⟨bb, 0, none⟩ = some (.pointer none) := by rw [Lib.cell_of_heap e2]; rfl
    refine (cc_fresh bb w hc (by simp [World.shape?, e2, SV.denL]) (Lib.frozen_of_heap e2 0)).mono ?_
    rintro e w' ⟨rfl, rfl⟩
    rw [setCell_block e2]
    refine gen_end (P := Try.prog) (v := .tuple #[]) (outcome_set (r := .tup []) (so' := .cells [.ptr id 0 0 0, b] 73) hH hl rfl rfl e1 e0 ?_ ?_ trivial hwt)
    · exact ⟨h1, h2.2⟩
    · simp [SO.sat, SV.denL, SV.den, e1, e0]
  · rename_i id'
    split at hwt
    rotate_left
    · exact hwt.elim
    rename_i hid
    obtain rfl := Nat.eq_of_beq_eq_true hid
    have hc : w.cell? ⟨bb, 0, none⟩ = some (.pointer (some ⟨bb, 0, none⟩)) := by rw [Lib.cell_of_heap e2]; simp [SV.denL, SV.den, e1, e0]
    refine (cc_used bb w hc).mono ?_
    rintro e w' ⟨rfl, rfl⟩
    exact gen_end (P := Try.prog) (v := .tuple #[]) (outcome_same (r := .tup []) hH trivial hwt)
  · exact hwt.elim⟩
theorem look_del_some {α : Type} {k j : Nat} {H : List (Nat × α)} {v : α} (h : Eng.look k (del j H) = some v) : k ≠ j ∧ Eng.look k H = some v := by
  rw [look_del] at h
  split at h
  · cases h
  · exact ⟨‹_›, h⟩
/-- A block is given up. -/
theorem moved_drop {A : Names} {ρ : Val} {H : Heap} {w w' : World} {nid : Nat} {B : Nat → Prop} (hA : A = ⟨fun i => i < nid, B⟩) (hH : HOK A ρ H w) {j : Nat} {so : SO} (hl : Eng.look j H = some so) (hnr : so.isRo = false)
    (os : w'.os = w.os) (tape : w'.tape = w.tape) (output : w'.output = w.output) (size : w.heap.size ≤ w'.heap.size) (hw : ∀ b, b < w.heap.size → ρ.b j ≠ some b → w'.heap[b]? = w.heap[b]?) {v : Value} :
    Moved A ⟨fun i => i < nid + 8, B⟩ ρ H w ρ (del j H) (.g v) w' := by
  subst hA
  have hb : ∀ i, i < nid → i < nid + 8 := fun i hi => by omega
  have hne : ∀ k sk b, Eng.look k (del j H) = some sk → ρ.b k = some b → ρ.b j ≠ some b := by
    intro k sk b hk e1 e2
    obtain ⟨k1, k2⟩ := look_del_some hk
    rcases hH.inj k j sk so b k2 hl e1 e2 with e | ⟨_, e⟩
    · exact k1 e
    · rw [hnr] at e; cases e
  refine ⟨Val.agree_refl _ _, trivial, ?_, ?_, ⟨os, tape, output, size, fun k hk hm => hw k hk fun e => hm ⟨j, so, hl, hnr, e⟩⟩⟩
  · refine HOK.mono (A := ⟨fun i => i < nid, B⟩) ⟨fun k sk hk => ?_, fun i k si sk b hi hk e1 e2 => ?_⟩ (Val.agree_refl _ _) hb (fun t h => h)
    · obtain ⟨k1, k2⟩ := look_del_some hk
      obtain ⟨g1, g2, g3⟩ := hH.here k sk k2
      refine ⟨g1, g2, g3.world fun b o eb eo => ?_⟩
      rw [hw b (lt_of_block eo) (hne k sk b hk eb)]; exact eo
    · exact hH.inj i k si sk b (look_del_some hi).2 (look_del_some hk).2 e1 e2
  · rintro b ⟨k, sk, hk, hr, e⟩
    exact Or.inr ⟨k, sk, (look_del_some hk).2, hr, e⟩
def wtStr (args : List SV) (H : Heap) (_ : Nat) (K : SV → Heap → Prop) : Prop := match args with
  | [.ptr id 0 0 0] => match Eng.look id H with
    | some (.cells [a, x] T) => match Nat.beq T 73 with
      | true => match x with
        | .g (.slice none 0 0) => K (.g (.string ⟨#[]⟩)) H
        | .sl j 0 1 len _ => match Eng.look j H with
          | some (.view 1 n _ row T') => match Nat.beq T' 5 with
            | true => len ≤ n ∧ len ≤ 9223372036854775807 ∧ (∀ k, k < len → ∃ m : Int, (0 ≤ m ∧ m < 256) ∧ row k = [.g (.int .u8 m)]) ∧ K (.g (.string ⟨((List.range len).map fun k => rowByte (row k)).toArray⟩)) (del j H)
            | false => False
          | _ => False
        | _ => False
      | false => False
    | _ => False
  | _ => False
theorem ok_BString : GenSound Try.prog 31 wtStr := ⟨fnOK_of Try.func31 (by kernel_rfl) (by kernel_rfl), fun args H nid K B ρ w hi hH hwt => by
  unfold wtStr at hwt
  split at hwt
  rotate_left
  · exact hwt.elim
  rename_i id
  split at hwt
  rotate_left
  · exact hwt.elim
  rename_i a x T hl
  split at hwt
  rotate_left
  · exact hwt.elim
  rename_i hT
  have hT := Nat.eq_of_beq_eq_true hT
  subst hT
  obtain ⟨h1, h2, h3⟩ := hH.here id _ hl
  obtain ⟨bb, e1, e0, e2⟩ := h3.cells
  have earg : (SV.denL ρ [SV.ptr id 0 0 0]).toArray = #[.pointer (some ⟨bb, 0, none⟩)] := by simp [SV.denL, SV.den, e1, e0]
  rw [earg]
  split at hwt
  · refine (str_nil bb (a.den ρ) w (by rw [e2]; simp [SV.denL, SV.den])).mono ?_
    rintro e w' ⟨rfl, q1, q2, q3, q4⟩
    exact ⟨ρ, .g (.string ⟨#[]⟩), H, rfl, moved_ext rfl hH ⟨q2, q3, q4, by rw [q1]; exact Nat.le_refl _, fun k _ _ => by rw [q1]⟩ trivial, hwt⟩
  · rename_i j len cap
    split at hwt
    rotate_left
    · exact hwt.elim
    rename_i n c row T' hlj
    split at hwt
    rotate_left
    · exact hwt.elim
    rename_i hT
    have hT := Nat.eq_of_beq_eq_true hT
    subst hT
    obtain ⟨hn, h63, hrow, hK⟩ := hwt
    obtain ⟨g1, g2, g3⟩ := hH.here j _ hlj
    have hin : (SV.sl j 0 1 len cap).In ⟨fun i => i < nid, B⟩ ρ := h2.2.1
    obtain ⟨_, hnil, hlc⟩ := hin
    rcases g3.view with ⟨g, arr, fr, v1, v0, v2, ⟨v3, v3'⟩, v4, v5⟩ | ⟨v1, rfl⟩
    · have e3 : w.heap[bb]? = some (.cells #[a.den ρ, .slice (some ⟨g, 0, none⟩) len cap] 73 (0, 0)) := by
        rw [e2]; simp [SV.denL, SV.den, v1, v0]
      by_cases hl0 : len = 0
      · subst hl0
        by_cases hc0 : cap = 0
        · subst hc0
          refine (str_noroom bb g (a.den ρ) arr fr w e3 v2).mono ?_
          rintro e w' ⟨rfl, W, o, ⟨q1, q2, q3, q4⟩, rfl⟩
          refine ⟨ρ, .g (.string ⟨#[]⟩), del j H, rfl, moved_drop (w' := W.alloc o) rfl hH hlj rfl (show (W.alloc o).os = w.os from q2) (show (W.alloc o).tape = w.tape from q3) (show (W.alloc o).output = w.output from q4) ?_ (fun b hb _ => ?_), hK⟩
          · simp [World.alloc, q1]
          · exact (Lib.alloc_old W o b (by rw [q1]; exact hb)).trans (by rw [q1])
        · refine (str_room bb g cap (a.den ρ) w hc0 e3).mono ?_
          rintro e w' ⟨rfl, q1, q2, q3, q4⟩
          exact ⟨ρ, .g (.string ⟨#[]⟩), del j H, rfl, moved_drop rfl hH hlj rfl q2 q3 q4 (by rw [q1]; exact Nat.le_refl _) (fun b hb _ => by rw [q1]), hK⟩
      · let l : List UInt8 := (List.range len).map fun k => rowByte (row k)
        have hll : l.length = len := by simp [l]
        have e4 : w.heap[bb]? = some (.cells #[a.den ρ, .slice (some ⟨g, 0, none⟩) l.length cap] 73 (0, 0)) := by rw [hll]; exact e3
        have hcell : ∀ (q : Nat) (y : UInt8), l[q]? = some y → arr[q]? = some (Value.int .u8 y.toNat) := by
          intro q y hy
          have hq : q < len := by rw [← hll]; exact (List.getElem?_eq_some_iff.1 hy).1
          obtain ⟨m, hm, hr⟩ := hrow q hq
          have h6 := (v5 q (by omega)).2 0 (by omega)
          rw [hr, Nat.mul_one, Nat.add_zero] at h6
          have hy' : y = UInt8.ofNat m.toNat := by
            simp only [l, List.getElem?_map, List.getElem?_range hq, Option.map_some, hr, rowByte, Option.some.injEq] at hy
            exact hy.symm
          rw [h6, hy']
          have : ((UInt8.ofNat m.toNat).toNat : Int) = m := by rw [UInt8.toNat_ofNat']; omega
          rw [this]; rfl
        refine (str_some bb g cap (a.den ρ) l arr fr w e4 v2 (by omega) (by omega) (by omega) (by intro e; rw [e] at hll; simp at hll; omega) hcell).mono ?_
        rintro e w' ⟨rfl, W, ⟨q1, q2, q3, q4⟩, rfl⟩
        have hfz : ∀ (k : Nat), k ≠ g → (W.freeze ⟨g, 0, none⟩ l.length).heap[k]? = w.heap[k]? := by
          intro k hk
          unfold World.freeze
          split
          · rw [q1]
          · simp only [q1, Array.getElem?_modify]
            rw [if_neg (Ne.symm hk)]
        have hfs : (W.freeze ⟨g, 0, none⟩ l.length).heap.size = w.heap.size := by
          unfold World.freeze
          split
          · rw [q1]
          · simp only [Array.size_modify, q1]
        have hfo : (W.freeze ⟨g, 0, none⟩ l.length).os = W.os ∧ (W.freeze ⟨g, 0, none⟩ l.length).tape = W.tape ∧ (W.freeze ⟨g, 0, none⟩ l.length).output = W.output := by
          unfold World.freeze
          split <;> exact ⟨rfl, rfl, rfl⟩
        exact ⟨ρ, .g (.string ⟨l.toArray⟩), del j H, rfl, moved_drop rfl hH hlj rfl (hfo.1.trans q2) (hfo.2.1.trans q3) (hfo.2.2.trans q4) (by rw [hfs]; exact Nat.le_refl _) (fun b hb hbn => hfz b fun e => hbn (by rw [v1, e])), hK⟩
    · obtain rfl : len = 0 := by omega
      have hc : cap = 0 := (hnil v1).2
      subst hc
      refine (str_nil bb (a.den ρ) w (by rw [e2]; simp [SV.denL, SV.den, v1])).mono ?_
      rintro e w' ⟨rfl, q1, q2, q3, q4⟩
      exact ⟨ρ, .g (.string ⟨#[]⟩), del j H, rfl, moved_drop rfl hH hlj rfl q2 q3 q4 (by rw [q1]; exact Nat.le_refl _) (fun b hb _ => by rw [q1]), hK⟩
  · exact hwt.elim⟩
end Go.Proofs.Ytmblefpbfpjneaa
