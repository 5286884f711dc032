/- The engine, part Lw: the frame of a law: its parameters as they are read, and the row from the contract of its function. -/
import Derived.Test.YtghbejmnnfoamaaEngZ
import Derived.WalkKit
import Derived.ProofKit
import Derived.OpenShut
import Derived.ShutString
import Derived.ChangeOld
import Derived.Below
import Derived.Carry
import Derived.SizedLaws
set_option linter.unusedVariables false
set_option linter.unusedSimpArgs false
namespace Go.Eng
open Go Go.ChangeShapes Go.WideShapes Go.RowKit

/-- Kinds of cells of plain data. -/
inductive LK where
  | int (k : IntKind)
  | bool
  | str
/-- A parameter: plain data (one cell, or a struct of such cells), or a slice of such rows. -/
inductive PT where
  | flat (ks : List LK) (agg : Bool)
  | slice (ks : List LK)
/-- A parameter's data; of a slice: length, capacity, rows. -/
inductive PV where
  | flat (cs : List Value) (agg : Bool)
  | slice (len cap s : Nat) (rows : Nat → List Value)

def lkOf (P : Program) (t : TypeId) : Option LK := match P.underlying t with
  | some (.int k) => some (.int k)
  | some .bool => some .bool
  | some .string => some .str
  | _ => none
def flatFs (P : Program) : Nat → List Field → Option (List LK)
  | _, [] => some []
  | o, f :: fs => match Nat.beq f.offset o, Nat.beq (P.cellsOf f.type) 1, lkOf P f.type, flatFs P (o + 1) fs with
    | true, true, some k, some ks => some (k :: ks)
    | _, _, _, _ => none
def rowOf (P : Program) (t : TypeId) : Option (List LK × Bool) := match P.underlying t with
  | some (.struct fs) => match flatFs P 0 fs.toList with
    | some ks => match Nat.beq (P.cellsOf t) ks.length with
      | true => some (ks, true)
      | false => none
    | none => none
  | _ => match Nat.beq (P.cellsOf t) 1, lkOf P t with
    | true, some k => some ([k], false)
    | _, _ => none
def ptOf (P : Program) (t : TypeId) : Option PT := match P.underlying t with
  | some (.slice e) => match rowOf P e with
    | some (ks, _) => some (.slice ks)
    | none => none
  | _ => match rowOf P t with
    | some (ks, b) => some (.flat ks b)
    | none => none

def LeafOK : LK → Value → Prop
  | .int k, v => ∃ n, v = .int k n ∧ (Lit.int k n).wf = true
  | .bool, v => ∃ b, v = .bool b
  | .str, v => ∃ s : ByteArray, v = .string s ∧ s.size ≤ maxLen
def LeafsOK : List LK → List Value → Prop
  | [], [] => True
  | k :: ks, v :: vs => LeafOK k v ∧ LeafsOK ks vs
  | _, _ => False
theorem LeafsOK.len : ∀ {ks : List LK} {vs : List Value}, LeafsOK ks vs → vs.length = ks.length
  | [], [], _ => rfl
  | _ :: _, _ :: _, h => by simp [LeafsOK.len h.2]
  | [], _ :: _, h => h.elim
  | _ :: _, [], h => h.elim
theorem leafs_int {k : IntKind} {ks : List LK} {cs : List Value} (h : LeafsOK (.int k :: ks) cs) : ∃ n cs', cs = .int k n :: cs' ∧ (Lit.int k n).wf = true ∧ LeafsOK ks cs' := by
  cases cs with
  | nil => exact h.elim
  | cons v vs => obtain ⟨⟨n, rfl, hw⟩, h⟩ := h; exact ⟨n, vs, rfl, hw, h⟩
theorem leafs_bool {ks : List LK} {cs : List Value} (h : LeafsOK (.bool :: ks) cs) : ∃ b cs', cs = .bool b :: cs' ∧ LeafsOK ks cs' := by
  cases cs with
  | nil => exact h.elim
  | cons v vs => obtain ⟨⟨n, rfl⟩, h⟩ := h; exact ⟨n, vs, rfl, h⟩
theorem leafs_str {ks : List LK} {cs : List Value} (h : LeafsOK (.str :: ks) cs) : ∃ (s : ByteArray) (cs' : List Value), cs = .string s :: cs' ∧ s.size ≤ maxLen ∧ LeafsOK ks cs' := by
  cases cs with
  | nil => exact h.elim
  | cons v vs => obtain ⟨⟨n, rfl, hw⟩, h⟩ := h; exact ⟨n, vs, rfl, hw, h⟩
theorem leafs_nil {cs : List Value} (h : LeafsOK [] cs) : cs = [] := by
  cases cs with
  | nil => rfl
  | cons v vs => exact h.elim
def PVOK : PT → PV → Prop
  | .flat ks b, .flat cs b' => b = b' ∧ LeafsOK ks cs
  | .slice ks, .slice len cap s rows => s = ks.length ∧ len ≤ cap ∧ cap ≤ maxLen ∧ ∀ i, i < cap → LeafsOK ks (rows i)
  | _, _ => False
def PVsOK : List PT → List PV → Prop
  | [], [] => True
  | t :: ts, v :: vs => PVOK t v ∧ PVsOK ts vs
  | _, _ => False
theorem pvs_flat {ks : List LK} {b : Bool} {pts : List PT} {pvs : List PV} (h : PVsOK (.flat ks b :: pts) pvs) : ∃ cs pvs', pvs = .flat cs b :: pvs' ∧ LeafsOK ks cs ∧ PVsOK pts pvs' := by
  cases pvs with
  | nil => exact h.elim
  | cons v vs =>
    obtain ⟨h, h2⟩ := h
    cases v with
    | flat cs b' => obtain ⟨rfl, h⟩ := h; exact ⟨cs, vs, rfl, h, h2⟩
    | slice _ _ _ _ => exact h.elim
theorem pvs_slice {ks : List LK} {pts : List PT} {pvs : List PV} (h : PVsOK (.slice ks :: pts) pvs) : ∃ len cap rows pvs', pvs = .slice len cap ks.length rows :: pvs' ∧ len ≤ cap ∧ cap ≤ maxLen ∧ (∀ i, i < cap → LeafsOK ks (rows i)) ∧ PVsOK pts pvs' := by
  cases pvs with
  | nil => exact h.elim
  | cons v vs =>
    obtain ⟨h, h2⟩ := h
    cases v with
    | flat cs b' => exact h.elim
    | slice len cap s rows => obtain ⟨rfl, h3, h4, h5⟩ := h; exact ⟨len, cap, rows, vs, rfl, h3, h4, h5, h2⟩
theorem pvs_nil {pvs : List PV} (h : PVsOK [] pvs) : pvs = [] := by
  cases pvs with
  | nil => rfl
  | cons v vs => exact h.elim
def PV.sv (i : Nat) : PV → SV
  | .flat cs true => .agg (cs.map SV.g)
  | .flat [v] false => .g v
  | .flat _ false => .g undef
  | .slice len cap s _ => .sl i 0 s len cap
def PV.heap (i : Nat) : PV → Heap
  | .flat _ _ => []
  | .slice _ cap s rows => [(i, .ro s cap fun j => (rows j).map SV.g)]
def svs : Nat → List PV → List SV
  | _, [] => []
  | i, v :: vs => v.sv i :: svs (i + 1) vs
def heaps : Nat → List PV → Heap
  | _, [] => []
  | i, v :: vs => v.heap i ++ heaps (i + 1) vs

section
variable {H : Type} {enc : TypeId × Value → H} {P : Program} {w : World} {base : Nat} {spare : Nat → Bool} {held : Bool}

theorem trod_leaf {t : TypeId} {k : LK} {cs : List Value} {fuel : Nat} {x : DataW H × List MemPlace} (hk : lkOf P t = some k) (h : DataW.trod enc P w base spare held fuel t cs = some x) : ∃ v, cs = [v] ∧ LeafOK k v := by
  cases fuel with
  | zero => simp [DataW.trod] at h
  | succ n =>
    unfold DataW.trod at h
    unfold lkOf at hk
    split at hk
    · rename_i k' hu
      obtain rfl := Option.some.inj hk
      rw [hu] at h
      split at h <;> simp_all
      obtain ⟨⟨rfl, hw⟩, _⟩ := h
      exact ⟨_, rfl, hw⟩
    · rename_i hu
      obtain rfl := Option.some.inj hk
      rw [hu] at h
      split at h <;> simp_all
      exact ⟨_, rfl⟩
    · rename_i hu
      obtain rfl := Option.some.inj hk
      rw [hu] at h
      split at h <;> simp_all
      exact ⟨_, rfl, h.1⟩
    · cases hk

theorem trod_fields {n : Nat} : ∀ {fs : List Field} {ks : List LK} {o : Nat} {cs : List Value}, flatFs P o fs = some ks → o + ks.length = cs.length →
    (∀ f ∈ fs, ∃ y, DataW.trod enc P w base spare held n f.type ((cs.drop f.offset).take (P.cellsOf f.type)) = some y) → LeafsOK ks (cs.drop o)
  | [], ks, o, cs, h, hl, _ => by
    simp only [flatFs, Option.some.injEq] at h; subst h
    rw [List.drop_of_length_le (by simp at hl; omega)]; trivial
  | f :: fs, ks, o, cs, h, hl, ht => by
    simp only [flatFs] at h
    split at h
    · rename_i k ks' h1 h2 h3 h4
      simp only [Option.some.injEq] at h; subst h
      simp only [List.length_cons] at hl
      obtain ⟨y, hy⟩ := ht f List.mem_cons_self
      rw [Nat.eq_of_beq_eq_true h1, Nat.eq_of_beq_eq_true h2] at hy
      obtain ⟨v, hv, hok⟩ := trod_leaf h3 hy
      have hd : cs.drop o = v :: cs.drop (o + 1) := by
        rw [List.drop_eq_getElem_cons (by omega)] at hv ⊢
        simp only [List.take_succ_cons, List.take_zero, List.cons.injEq, and_true] at hv
        rw [hv]
      rw [hd]
      exact ⟨hok, trod_fields h4 (by omega) fun f hf => ht f (List.mem_cons_of_mem _ hf)⟩
    · cases h

theorem trod_row {t : TypeId} {ks : List LK} {b : Bool} {cs : List Value} {fuel : Nat} {x : DataW H × List MemPlace} (hk : rowOf P t = some (ks, b)) (h : DataW.trod enc P w base spare held fuel t cs = some x) : LeafsOK ks cs ∧ P.cellsOf t = ks.length := by
  unfold rowOf at hk
  split at hk
  · rename_i fs hu
    split at hk
    · rename_i ks' hf
      split at hk
      · rename_i hc
        simp only [Option.some.injEq, Prod.mk.injEq] at hk; obtain ⟨rfl, rfl⟩ := hk
        have hc := Nat.eq_of_beq_eq_true hc
        obtain ⟨xs, n, _, _, hl, hxs, hall⟩ := DataW.trod_struct hu h
        refine ⟨?_, hc⟩
        have := trod_fields (enc := enc) (P := P) (w := w) (base := base) (spare := spare) (held := held) (n := n) (cs := cs) hf (by omega) fun f hfm => by
          obtain ⟨i, hi, hif⟩ := List.getElem_of_mem hfm
          have hi' : i < fs.size := by simpa using hi
          have e : fs[i]? = some f := by rw [Array.getElem?_eq_getElem hi']; congr 1
          exact ⟨xs[i]'(by omega), by rw [hall i f e]; exact List.getElem?_eq_getElem (by omega)⟩
        simpa using this
      · cases hk
    · cases hk
  · split at hk
    · rename_i k h1 h2
      simp only [Option.some.injEq, Prod.mk.injEq] at hk; obtain ⟨rfl, rfl⟩ := hk
      obtain ⟨v, rfl, hv⟩ := trod_leaf h2 h
      exact ⟨⟨hv, trivial⟩, Nat.eq_of_beq_eq_true h1⟩
    · cases hk

theorem cells?_get {n : Nat} {a : Addr} {l : List Value} (h : w.cells? base a n = some l) : l.length = n ∧ ∀ i, i < n → w.cell? (a.add i) = l[i]? := by
  unfold World.cells? at h
  split at h
  · have key : ∀ (m : List Nat) (l : List Value), m.mapM (fun i => w.cell? (a.add i)) = some l → l.length = m.length ∧ ∀ i (hi : i < m.length), w.cell? (a.add m[i]) = l[i]? := by
      intro m
      induction m with
      | nil => intro l h; simp at h; subst h; exact ⟨rfl, fun i hi => by simp at hi⟩
      | cons x m ih =>
        intro l h
        simp only [List.mapM_cons] at h
        cases hx : w.cell? (a.add x) with
        | none => rw [hx] at h; simp at h
        | some v =>
          rw [hx] at h
          cases hm : m.mapM (fun i => w.cell? (a.add i)) with
          | none => rw [hm] at h; simp at h
          | some l' =>
            rw [hm] at h
            simp at h
            subst h
            obtain ⟨h1, h2⟩ := ih l' hm
            refine ⟨by simp [h1], fun i hi => ?_⟩
            cases i with
            | zero => simpa using hx
            | succ i => simpa using h2 i (by simpa using hi)
    obtain ⟨h1, h2⟩ := key _ _ h
    refine ⟨by simpa using h1, fun i hi => ?_⟩
    have := h2 i (by simpa using hi)
    simpa using this
  · cases h

/-- A parameter as it is read: its data; the block and the place of its rows. -/
theorem open_pv {t : TypeId} {pt : PT} {v : Value} {d : DataW H} {ps : List MemPlace} (hpt : ptOf P t = some pt) (hval : Value.okWide P w .any base t v) (hd : DataW.Trod enc P w 0 (fun _ => true) held t v d ps) (i : Nat) :
    ∃ pv ob o, PVOK pt pv ∧ ∀ ρ : Val, ρ.b i = ob → ρ.o i = o → v = (pv.sv i).den ρ ∧ (pv.sv i).In ⟨fun k => k = i, fun _ => False⟩ ρ ∧ ∀ id so, look id (pv.heap i) = some so → id = i ∧ so.isRo = true ∧ so.In ⟨fun k => k = i, fun _ => False⟩ ρ ∧ At ρ w id so := by
  unfold ptOf at hpt
  split at hpt
  · rename_i e hu
    split at hpt
    · rename_i ks b hr
      obtain rfl := Option.some.inj hpt
      obtain ⟨a, len, cap, rfl⟩ := okWide_slice hu hval
      obtain ⟨fuel, hf⟩ := hd
      rcases DataW.trod_slice hu hf with ⟨h1, _⟩ | ⟨a', len', cap', elems, rest, n, _, hcs, _, _, hl, hm, hel, helem, hrest, _⟩
      · simp [Value.cells] at h1
        obtain ⟨rfl, rfl, rfl⟩ := h1
        refine ⟨.slice 0 0 ks.length (fun _ => []), none, 0, ⟨rfl, Nat.le_refl _, Nat.zero_le _, fun i hi => absurd hi (Nat.not_lt_zero i)⟩, fun ρ hb ho => ⟨?_, ?_, fun id so hl => ?_⟩⟩
        · simp only [PV.sv, SV.den, hb]
        · exact ⟨rfl, fun _ => ⟨rfl, rfl⟩, Nat.le_refl _⟩
        · simp only [PV.heap, look_cons, look] at hl
          split at hl
          · rename_i hid
            obtain rfl := Option.some.inj hl
            exact ⟨hid, rfl, fun j hj => absurd hj (Nat.not_lt_zero j), Or.inr (Or.inl ⟨by rw [hid]; exact hb, Or.inr ⟨_, _, rfl⟩⟩)⟩
          · cases hl
      · simp [Value.cells] at hcs
        obtain ⟨rfl, rfl, rfl⟩ := hcs
        have hhas : a'.spot = none ∧ ∃ arr T fr, w.heap[a'.block]? = some (.cells arr T fr) := by
          unfold Value.okWide at hval
          rw [hu] at hval
          simp only [Cell.okWide, hu, Cell.ok] at hval
          obtain ⟨_, _, _, hsp, row, cells, hsh, _⟩ := hval
          refine ⟨hsp, ?_⟩
          unfold World.shape? at hsh
          split at hsh
          · rename_i c el fr hh; exact ⟨c, el, fr, hh⟩
          · cases hsh
        obtain ⟨hsp, arr, T, fr, hheap⟩ := hhas
        obtain ⟨hrl, hrest⟩ := hrest rfl
        have each : ∀ j, j < cap → ∃ l y, w.cells? 0 (a'.add (j * P.cellsOf e)) (P.cellsOf e) = some l ∧ DataW.trod enc P w 0 (fun _ => true) held n e l = some y := by
          intro j hj
          have fin : ∀ y : DataW H × List MemPlace, (w.cells? 0 (a'.add (j * P.cellsOf e)) (P.cellsOf e)).bind (DataW.trod enc P w 0 (fun _ => true) held n e) = some y → ∃ l y, w.cells? 0 (a'.add (j * P.cellsOf e)) (P.cellsOf e) = some l ∧ DataW.trod enc P w 0 (fun _ => true) held n e l = some y := by
            intro y hy
            cases hc : w.cells? 0 (a'.add (j * P.cellsOf e)) (P.cellsOf e) with
            | none => rw [hc] at hy; cases hy
            | some l => rw [hc] at hy; exact ⟨l, y, rfl, hy⟩
          by_cases hj1 : j < len
          · exact fin (elems[j]'(by omega)) (by rw [helem j hj1]; exact List.getElem?_eq_getElem (by omega))
          · have h2 := hrest (j - len) (by omega)
            rw [show len + (j - len) = j by omega] at h2
            exact fin (rest[j - len]'(by omega)) (by rw [h2]; exact List.getElem?_eq_getElem (by omega))
        let rows : Nat → List Value := fun j => (w.cells? 0 (a'.add (j * P.cellsOf e)) (P.cellsOf e)).getD []
        have hrow : ∀ j, j < cap → LeafsOK ks (rows j) ∧ P.cellsOf e = ks.length ∧ ∀ k, k < ks.length → arr[a'.off + (j * ks.length + k)]? = (rows j)[k]? := by
          intro j hj
          obtain ⟨l, y, hc, hy⟩ := each j hj
          obtain ⟨h1, h2⟩ := trod_row hr hy
          have e1 : rows j = l := by simp only [rows, hc]; rfl
          rw [e1]
          refine ⟨h1, h2, fun k hk => ?_⟩
          obtain ⟨_, h4⟩ := cells?_get hc
          have h5 := h4 k (by omega)
          have h6 : (a'.add (j * P.cellsOf e)).add k = ⟨a'.block, a'.off + (j * ks.length + k), none⟩ := by
            obtain ⟨ab, ao, as⟩ := a'
            simp only at hsp; subst hsp
            rw [addr_add, addr_add, h2, Nat.add_assoc]
          rw [h6, cell_of_block hheap] at h5
          exact h5
        refine ⟨.slice len cap ks.length rows, some a'.block, a'.off, ⟨rfl, hl, hm, fun j hj => (hrow j hj).1⟩, fun ρ hb ho => ⟨?_, ?_, fun id so hls => ?_⟩⟩
        · obtain ⟨ab, ao, as⟩ := a'
          simp only at hsp; subst hsp
          simp only [PV.sv, SV.den, hb, ho, Nat.zero_mul, Nat.add_zero]
        · exact ⟨rfl, (fun hn => by rw [hb] at hn; cases hn), hl⟩
        · simp only [PV.heap, look_cons, look] at hls
          split at hls
          · rename_i hid
            obtain rfl := Option.some.inj hls
            refine ⟨hid, rfl, fun j hj => (SV.InL_iff _ _ _).2 fun x hx => ?_, Or.inr (Or.inr ⟨_, _, _, a'.block, arr, T, fr, rfl, by rw [hid]; exact hb, hheap, fun j hj => ⟨?_, fun k hk => ?_⟩⟩)⟩
            · obtain ⟨y, _, rfl⟩ := List.mem_map.1 hx; trivial
            · rw [List.length_map]; exact (hrow j hj).1.len
            · rw [hid, ho, (hrow j hj).2.2 k hk, List.getElem?_map]
              cases (rows j)[k]? <;> rfl
          · cases hls
    · cases hpt
  · rename_i hns
    split at hpt
    · rename_i ks b hr
      obtain rfl := Option.some.inj hpt
      obtain ⟨fuel, hf⟩ := hd
      obtain ⟨h1, h2⟩ := trod_row hr hf
      refine ⟨.flat v.cells.toList b, none, 0, ⟨rfl, h1⟩, fun ρ _ _ => ⟨?_, ?_, fun id so hl => by simp [PV.heap, look] at hl⟩⟩
      · cases b with
        | true =>
          unfold rowOf at hr
          split at hr
          · rename_i fs hu
            obtain ⟨cs, rfl, _⟩ := okWide_struct hu hval
            simp only [PV.sv, SV.den, Value.cells]
            rw [SV.denL_eq, List.map_map]
            have : SV.den ρ ∘ SV.g = id := rfl
            rw [this, List.map_id]
          · split at hr
            · simp at hr
            · cases hr
        | false =>
          unfold rowOf at hr
          split at hr
          · split at hr
            · split at hr
              · simp at hr
              · cases hr
            · cases hr
          · split at hr
            · rename_i k _ hk
              simp only [Option.some.injEq, Prod.mk.injEq, and_true] at hr
              subst hr
              unfold lkOf at hk
              split at hk
              · rename_i k' hu; obtain ⟨n, rfl⟩ := okWide_int hu hval; rfl
              · rename_i hu; obtain ⟨n, rfl⟩ := okWide_bool hu hval; rfl
              · rename_i hu; obtain ⟨n, rfl⟩ := okWide_string hu hval; rfl
              · cases hk
            · cases hr
      · cases b with
        | true => simp only [PV.sv, SV.In]; exact (SV.InL_iff _ _ _).2 fun x hx => by obtain ⟨y, _, rfl⟩ := List.mem_map.1 hx; trivial
        | false => cases hc : v.cells.toList with
          | nil => trivial
          | cons x l => cases l <;> trivial
    · cases hpt

/-- All parameters. -/
theorem open_pvs : ∀ {ts : List TypeId} {pts : List PT} {vs : List Value} {ds : List (DataW H)} {ps : List MemPlace} (i : Nat), ts.map (ptOf P) = pts.map some → (∀ (j : Nat) t v, ts[j]? = some t → vs[j]? = some v → Value.okWide P w .any base t v) →
    DataW.TrodAll enc P w 0 (fun _ => true) held ts vs ds ps → ds.length = pts.length ∧
    ∃ (pvs : List PV) (fb : Nat → Option Nat) (fo : Nat → Nat), PVsOK pts pvs ∧ pvs.length = pts.length ∧ ∀ ρ : Val, (∀ k, i ≤ k → k < i + pts.length → ρ.b k = fb k ∧ ρ.o k = fo k) → vs = SV.denL ρ (svs i pvs) ∧ SV.InL ⟨fun k => k < i + pts.length, fun _ => False⟩ ρ (svs i pvs) ∧
      ∀ id so, look id (heaps i pvs) = some so → i ≤ id ∧ id < i + pts.length ∧ so.isRo = true ∧ so.In ⟨fun k => k < i + pts.length, fun _ => False⟩ ρ ∧ At ρ w id so
  | [], pts, vs, ds, ps, i, hp, _, h => by
    obtain ⟨rfl, rfl, rfl⟩ := trodAll_nil h
    have : pts = [] := by cases pts with | nil => rfl | cons _ _ => cases hp
    subst this
    exact ⟨rfl, [], fun _ => none, fun _ => 0, trivial, rfl, fun ρ _ => ⟨rfl, trivial, fun id so hl => by simp [heaps, look] at hl⟩⟩
  | t :: ts, pts, vs, ds, ps, i, hp, hv, h => by
    obtain ⟨v, vs', d, ds', p, q, rfl, rfl, rfl, h1, h2⟩ := trodAll_cons h
    cases pts with
    | nil => cases hp
    | cons pt pts =>
    simp only [List.map_cons, List.cons.injEq] at hp
    obtain ⟨hl, pvs, fb, fo, k1, k2, k3⟩ := open_pvs (i + 1) hp.2 (fun j t' v' e1 e2 => hv (j + 1) t' v' e1 e2) h2
    obtain ⟨pv, ob, o, g1, g2⟩ := open_pv hp.1 (hv 0 t v rfl rfl) h1 i
    refine ⟨by simp [hl], pv :: pvs, fun k => if k = i then ob else fb k, fun k => if k = i then o else fo k, ⟨g1, k1⟩, by simp [k2], fun ρ hρ => ?_⟩
    simp only [List.length_cons] at hρ ⊢
    obtain ⟨e1, e2⟩ := hρ i (Nat.le_refl _) (by omega)
    rw [if_pos rfl] at e1 e2
    obtain ⟨a1, a2, a3⟩ := g2 ρ e1 e2
    obtain ⟨b1, b2, b3⟩ := k3 ρ fun k hk hk2 => by
      have := hρ k (by omega) (by omega)
      rw [if_neg (by omega), if_neg (by omega)] at this
      exact this
    have up1 : ∀ {x : SV}, x.In ⟨fun k => k = i, fun _ => False⟩ ρ → x.In ⟨fun k => k < i + (pts.length + 1), fun _ => False⟩ ρ := fun {x} hx =>
      SV.In_agree (A := ⟨fun k => k = i, fun _ => False⟩) (B := ⟨fun k => k < i + (pts.length + 1), fun _ => False⟩) (Val.agree_refl _ _) (fun k (hk : k = i) => (by omega : k < i + (pts.length + 1))) (fun t ht => ht) x hx
    refine ⟨?_, ⟨up1 a2, SV.InL_agree (A := ⟨fun k => k < i + 1 + pts.length, fun _ => False⟩) (B := ⟨fun k => k < i + (pts.length + 1), fun _ => False⟩) (Val.agree_refl _ _) (fun k (hk : k < i + 1 + pts.length) => (by omega : k < i + (pts.length + 1))) (fun t ht => ht) _ b2⟩, fun id so hls => ?_⟩
    · simp only [svs, SV.denL]; rw [← a1, ← b1]
    · simp only [heaps] at hls
      rw [look_append] at hls
      cases hh : look id (pv.heap i) with
      | some so' =>
        rw [hh] at hls
        obtain rfl := Option.some.inj hls
        obtain ⟨rfl, c1, c2, c3⟩ := a3 id _ hh
        exact ⟨Nat.le_refl _, by omega, c1, SO.In_agree (A := ⟨fun k => k = id, fun _ => False⟩) (B := ⟨fun k => k < id + (pts.length + 1), fun _ => False⟩) (Val.agree_refl _ _) (fun k (hk : k = id) => (by omega : k < id + (pts.length + 1))) (fun t ht => ht) c2, c3⟩
      | none =>
        rw [hh, Option.none_or] at hls
        obtain ⟨c0, c1, c2, c3, c4⟩ := b3 id so hls
        exact ⟨by omega, by omega, c2, SO.In_agree (A := ⟨fun k => k < i + 1 + pts.length, fun _ => False⟩) (B := ⟨fun k => k < i + (pts.length + 1), fun _ => False⟩) (Val.agree_refl _ _) (fun k (hk : k < i + 1 + pts.length) => (by omega : k < i + (pts.length + 1))) (fun t ht => ht) c3, c4⟩

theorem trodAll_stays (hl : laidOutB P = true) {W W' : World} (hb : Below W.heap.size W W') : ∀ {ts : List TypeId} {vs : List Value} {ds : List (DataW H)} {ps : List MemPlace}, (∀ t ∈ ts, P.readableRec t = true ∧ t < P.types.size) →
    DataW.TrodAll enc P W 0 (fun _ => true) true ts vs ds ps → (∀ x ∈ ps, x.block < W.heap.size) → DataW.TrodAll enc P W' 0 (fun b => decide (b < W.heap.size)) true ts vs ds ps
  | [], vs, ds, ps, _, h, _ => by
    obtain ⟨rfl, rfl, rfl⟩ := trodAll_nil h; rfl
  | t :: ts, vs, ds, ps, hr, h, hlt => by
    obtain ⟨v, vs', d, ds', p, q, rfl, rfl, rfl, h1, h2⟩ := trodAll_cons h
    exact ⟨p, q, Below.trod hl (hr t List.mem_cons_self).1 (hr t List.mem_cons_self).2 h1 hb (fun x hx => hlt x (List.mem_append_left _ hx)),
      trodAll_stays hl hb (fun t' ht => hr t' (List.mem_cons_of_mem _ ht)) h2 (fun x hx => hlt x (List.mem_append_right _ hx)), rfl⟩
end

/-- WHAT A LAW'S CALL COMES TO, from a world in which the tables lie. -/
theorem law_core {C : Checked} {H : Type} {enc : TypeId × Value → H} {ty : Ty} {Γ : Nat → Option Rule} {Λ : Lay} (hlaid : laidOutB C.prog = true) (hm : C.prog.follows .mixedOrders = true) (hty : TyOK C.prog ty) (hΓ : ΓOK C.prog Λ Γ)
    {f : Nat} {fn : Func} (hf : C.prog.funcs[f]? = some fn) {c : Code} (hb : fn.body = some c) {n : Nat} (hn : fn.ntmps = n) {s : ChangeSpec}
    {pts : List PT} (hpts : fn.params.toList.map (ptOf C.prog) = pts.map some) (hn2 : pts.length ≤ n) (hread : (fn.params.toList.all fun t => C.prog.readableRec t && decide (t < C.prog.types.size)) = true)
    {tb : TypeId} (hres : fn.resultTypes.toList = [tb]) (htb : C.prog.underlying tb = some .bool) (hvars : s.vars = []) (hspec : ∀ ds : List (DataW H), ds.length = pts.length → s.fn H ds = { results := [.lit (.bool true)], args := ds })
    (cut : List PV → Nat → List Ann) (loop : List PV → Nat → SS → List Ann)
    (hK : ∀ pvs, PVsOK pts pvs → Held (fnX ⟨ty, Γ, cut pvs, loop pvs, n, pts.length⟩ c fn.results.toList (svs 0 pvs) (heaps 0 pvs) (fun r _ => r = .g (.bool true))))
    (W : World) (base : Nat) (args : Array Value) (ds gs : List (DataW H)) (before : List MemPlace)
    (hval : ∀ (j : Nat) t v, fn.params[j]? = some t → args[j]? = some v → Value.okWide C.prog W .any base t v) (hW : DataW.Whole enc C.prog fn.params.toList s.vars false W args.toList ds gs before) (hlay : Λ.ok W) :
    Calls C.prog f args W fun e W' => ∃ v, e = .returned v ∧ s.post enc C.prog fn false true false false W args v W' := by
  have hW' := hW
  obtain ⟨p, q, hA, hV, rfl, hfz, hnd⟩ := hW
  rw [hvars] at hV
  obtain ⟨rfl, rfl⟩ := trodVars_none hV
  have hval' : ∀ (j : Nat) t v, fn.params.toList[j]? = some t → args.toList[j]? = some v → Value.okWide C.prog W .any base t v := fun j t v h1 h2 => hval j t v (by simpa using h1) (by simpa using h2)
  obtain ⟨hdl, pvs, fb, fo, k1, k2, k3⟩ := open_pvs 0 hpts hval' hA
  let ρ : Val := ⟨fb, fo, fun _ => false⟩
  obtain ⟨g1, g2, g3⟩ := k3 ρ fun k _ _ => ⟨rfl, rfl⟩
  simp only [Nat.zero_add] at g2 g3
  have harg : args = (SV.denL ρ (svs 0 pvs)).toArray := by rw [← g1]
  have hlen : (svs 0 pvs).length ≤ n := by
    have : ∀ (l : List PV) (i : Nat), (svs i l).length = l.length := by
      intro l; induction l with
      | nil => intro i; rfl
      | cons x l ih => intro i; simp [svs, ih]
    rw [this, k2]; exact hn2
  have hHOK : HOK (entNames pts.length) ρ (heaps 0 pvs) W := by
    refine ⟨fun id so hl => ?_, fun i j si sj b hi hj _ _ => Or.inr ⟨(g3 i si hi).2.2.1, (g3 j sj hj).2.2.1⟩⟩
    obtain ⟨_, c1, _, c3, c4⟩ := g3 id so hl
    exact ⟨c1, c3, c4⟩
  rw [harg]
  refine (fnX_sound (cx := ⟨ty, Γ, cut pvs, loop pvs, n, pts.length⟩) hm hty hΓ hf hb hn (ρ := ρ) (w := W) hlen g2 hHOK hlay (fun b hb => by obtain ⟨j, so, hj, hro, _⟩ := hb; rw [(g3 j so hj).2.2.1] at hro; cases hro) (hK pvs k1).h).mono ?_
  rintro e W' ⟨A, ρ', r, H', rfl, _, _, _, _, hfr, rfl⟩
  have bel : Below W.heap.size W W' := by
    refine ⟨hfr.os, hfr.tape, hfr.output, hfr.size, fun k hk => hfr.block k hk ?_⟩
    rintro ⟨j, so, hj, hro, _⟩
    rw [(g3 j so hj).2.2.1] at hro; cases hro
  have hsz : fn.resultTypes.size = 1 := by rw [← Array.length_toList, hres]; rfl
  refine ⟨_, rfl, ds, [], _, [], p, [], by rw [← harg]; exact hW', ?_, ?_, ?_, bel.frame _, fun h => by cases h⟩
  · rw [hres, hsz, List.append_nil, hspec ds hdl]
    exact trodAll_mk1 (shut_bool htb true)
  · rw [List.append_nil, hspec ds hdl, ← harg]
    exact trodAll_stays hlaid bel (fun t ht => by have := List.all_eq_true.1 hread t ht; simpa using this) hA (fun x hx => by simpa using hW'.lt x (List.mem_append_left _ hx))
  · rw [hvars, List.append_nil, hspec ds hdl]; rfl
/-- THE LAW OF A FUNCTION THAT ANSWERS true. -/
theorem law_of {C : Checked} {os : Os} (started : os.Started) {H : Type} {enc : TypeId × Value → H} {ty : Ty} {Γ : Nat → Option Rule} {Λ : Lay} (hΛ : ∀ w, Λ.ok w) (own : ownKnob C.prog.godebug = none) (hlaid : laidOutB C.prog = true) (hm : C.prog.follows .mixedOrders = true) (hty : TyOK C.prog ty) (hΓ : ΓOK C.prog Λ Γ)
    {f : Nat} {fn : Func} (noInit : C.prog.inits.idxOf? f = none) (hf : C.prog.funcs[f]? = some fn) {c : Code} (hb : fn.body = some c) {n : Nat} (hn : fn.ntmps = n) {s : ChangeSpec} {conds : List PathCond}
    (w1 : ∃ (w : World) (tape : Tape) (i : Input), w.os = os ∧ (w.forCall tape i).Shaped C.prog ∧ i.vars = [] ∧ Input.okWide C.prog (w.forCall tape i) .any w.heap.size f i ∧
      s.pre6 enc C.prog fn conds false (w.forCall tape i).memory i.args ∧ Assume.holds {} C.prog (lone (Frame.enter C.prog f i.args .normal) [] (w.forCall tape i)))
    {pts : List PT} (hpts : fn.params.toList.map (ptOf C.prog) = pts.map some) (hn2 : pts.length ≤ n) (hread : (fn.params.toList.all fun t => C.prog.readableRec t && decide (t < C.prog.types.size)) = true)
    {tb : TypeId} (hres : fn.resultTypes.toList = [tb]) (htb : C.prog.underlying tb = some .bool) (hvars : s.vars = []) (hspec : ∀ ds : List (DataW H), ds.length = pts.length → s.fn H ds = { results := [.lit (.bool true)], args := ds })
    (cut : List PV → Nat → List Ann) (loop : List PV → Nat → SS → List Ann)
    (hK : ∀ pvs, PVsOK pts pvs → Held (fnX ⟨ty, Γ, cut pvs, loop pvs, n, pts.length⟩ c fn.results.toList (svs 0 pvs) (heaps 0 pvs) (fun r _ => r = .g (.bool true)))) :
    ReturnsInHanded {} C os f .any (s.pre6 enc C.prog fn conds false) (s.post enc C.prog fn false true false false) := by
  refine returnsInHanded_of_change_sized own started noInit hf w1 ?_
  intro W base args ds gs before hval hW _ _ _
  exact law_core hlaid hm hty hΓ hf hb hn hpts hn2 hread hres htb hvars hspec cut loop hK W base args ds gs before hval hW (hΛ W)

/-- THE LAW OF A FUNCTION THAT ANSWERS true, where tables lie in memory. -/
theorem law_laid {C : Checked} {os : Os} (started : os.Started) {H : Type} {enc : TypeId × Value → H} {ty : Ty} {Γ : Nat → Option Rule} {Λ : Lay} {X : World → Prop} (hX : ∀ w w' : World, w.heap = w'.heap → X w → X w') (hΛ : ∀ w, X w → Λ.ok w) (own : ownKnob C.prog.godebug = none) (hlaid : laidOutB C.prog = true) (hm : C.prog.follows .mixedOrders = true) (hty : TyOK C.prog ty) (hΓ : ΓOK C.prog Λ Γ)
    {f : Nat} {fn : Func} (noInit : C.prog.inits.idxOf? f = none) (hf : C.prog.funcs[f]? = some fn) {c : Code} (hb : fn.body = some c) {n : Nat} (hn : fn.ntmps = n) {s : ChangeSpec} {conds : List PathCond}
    (w1 : ∃ (w : World) (tape : Tape) (i : Input), w.os = os ∧ (w.forCall tape i).Shaped C.prog ∧ i.vars = [] ∧ Input.okWide C.prog (w.forCall tape i) .any w.heap.size f i ∧
      ((s.pre enc C.prog fn conds false (w.forCall tape i).memory i.args ∧ X (w.forCall tape i).memory) ∧ sizedMet enc C.prog fn (OpenSpec.ofChange s) false (w.forCall tape i).memory i.args) ∧ Assume.holds {} C.prog (lone (Frame.enter C.prog f i.args .normal) [] (w.forCall tape i)))
    {pts : List PT} (hpts : fn.params.toList.map (ptOf C.prog) = pts.map some) (hn2 : pts.length ≤ n) (hread : (fn.params.toList.all fun t => C.prog.readableRec t && decide (t < C.prog.types.size)) = true)
    {tb : TypeId} (hres : fn.resultTypes.toList = [tb]) (htb : C.prog.underlying tb = some .bool) (hvars : s.vars = []) (hspec : ∀ ds : List (DataW H), ds.length = pts.length → s.fn H ds = { results := [.lit (.bool true)], args := ds })
    (cut : List PV → Nat → List Ann) (loop : List PV → Nat → SS → List Ann)
    (hK : ∀ pvs, PVsOK pts pvs → Held (fnX ⟨ty, Γ, cut pvs, loop pvs, n, pts.length⟩ c fn.results.toList (svs 0 pvs) (heaps 0 pvs) (fun r _ => r = .g (.bool true)))) :
    ReturnsInHanded {} C os f .any (fun w args => (s.pre enc C.prog fn conds false w args ∧ X w) ∧ sizedMet enc C.prog fn (OpenSpec.ofChange s) false w args) (s.post enc C.prog fn false true false false) := by
  refine returnsInHanded_of_change_and (X := fun w _ => X w) (fun w w' _ h hx => hX w w' h hx) own started noInit hf w1 ?_
  intro W base args ds gs before hval hW _ _ hx _
  exact law_core hlaid hm hty hΓ hf hb hn hpts hn2 hread hres htb hvars hspec cut loop hK W base args ds gs before hval hW (hΛ W hx)
end Go.Eng
