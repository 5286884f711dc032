/- The engine, part H: conversions, comparisons, calls. -/
import Derived.Test.YtghbejmnnfoamaaEngG
import Derived.Laws.BytesString
set_option linter.unusedVariables false
set_option linter.unusedSimpArgs false
namespace Go.Eng
open Go
section
variable {P : Program} {A : Names} {ρ : Val} {ev : Operand → Value} {v : Operand → Option SV} {ty : Ty} {o : Oper}

theorem foldl_bytes (ns : List Int) : ∀ (s : ByteArray), ns.foldl (fun r n => r.push (UInt8.ofNat n.toNat)) s = ⟨s.data ++ (ns.map fun n => UInt8.ofNat n.toNat).toArray⟩ := by
  induction ns with
  | nil => intro s; simp
  | cons n ns ih =>
    intro s
    simp only [List.foldl_cons, ih, List.map_cons]
    congr 1
    apply Array.toList_inj.1
    simp [ByteArray.push]

/-- The bytes of known cells. -/
theorem run_bytes_of {w : World} {b off len cap : Nat} {arr : Array Value} {T : TypeId} {fr : Nat × Nat} (hob : w.heap[b]? = some (.cells arr T fr)) (ns : List Int) (hn : ns.length = len)
    (hl : ∀ j, j < len → arr[off + j]? = (ns[j]?).map (Value.int .u8)) :
    (Conv.bytesToString (.slice (some ⟨b, off, none⟩) len cap)).run P w = .ok (.string ⟨(ns.map fun n => UInt8.ofNat n.toNat).toArray⟩) w := by
  rw [run_bytesToString w _ len cap ns (run_loadCells_block hob (ns.map (Value.int .u8)) (by simpa using hn) (fun j hj => by rw [List.getElem?_map]; exact hl j hj)), foldl_bytes]
  congr 4
  simp only [ByteArray.empty, ByteArray.emptyWithCapacity]
  exact Array.empty_append

theorem bytes_rows {w : World} {b off i len cap : Nat} {arr : Array Value} {T : TypeId} {fr : Nat × Nat} {row : Nat → List SV} (hob : w.heap[b]? = some (.cells arr T fr)) (p2 : ∀ j, j < len → ∃ m, row (i + j) = [.g (.int .u8 m)])
    (hg : ∀ j, j < len → arr[off + j]? = ((row (i + j))[0]?).map (SV.den ρ)) :
    (Conv.bytesToString (.slice (some ⟨b, off, none⟩) len cap)).run P w = .ok ((SV.g (.string ⟨((List.range len).map fun j => rowByte (row (i + j))).toArray⟩)).den ρ) w := by
  let num : List SV → Int := fun x => match x with | [.g (.int .u8 n)] => n | _ => 0
  have hnum : ∀ j, j < len → row (i + j) = [.g (.int .u8 (num (row (i + j))))] := by
    intro j hj; obtain ⟨m, hm⟩ := p2 j hj; rw [hm]
  rw [run_bytes_of hob ((List.range len).map fun j => num (row (i + j))) (by simp)]
  · simp only [SV.den]
    congr 3
    apply Array.toList_inj.1
    simp only [List.map_map]
    apply List.map_congr_left
    intro j hj
    have e := hnum j (List.mem_range.1 hj)
    generalize hnx : num (row (i + j)) = nx at e
    simp only [Function.comp]
    rw [hnx, e]; rfl
  · intro j hj
    have e := hnum j hj
    rw [hg j hj, e]
    rw [List.getElem?_map, List.getElem?_range hj]
    simp [SV.den]

theorem bytesX_sound {w : World} {id i len cap : Nat} {so : SO} {pre : List Prop} {r : SV} (hat : At ρ w id so) (h2 : (SV.sl id i 1 len cap).In A ρ) (h : bytesX i len so = some (pre, r)) (hp : ∀ p ∈ pre, p) :
    r.In A ρ ∧ (Conv.bytesToString ((SV.sl id i 1 len cap).den ρ)).run P w = .ok (r.den ρ) w := by
  cases so with
  | cells cs T =>
    obtain ⟨b, hb, ho, hob⟩ := hat.cells
    · simp only [bytesX] at h
      split at h
      · rename_i h1 h3
        simp only [Option.some.injEq, Prod.mk.injEq] at h
        obtain ⟨rfl, rfl⟩ := h
        have h1' := Nat.le_of_ble_eq_true h1
        refine ⟨trivial, ?_⟩
        let num : SV → Int := fun x => match x with | .g (.int .u8 n) => n | _ => 0
        have hall : ∀ x ∈ (cs.drop i).take len, x = .g (.int .u8 (num x)) := by
          intro x hx
          have := List.all_eq_true.1 h3 x hx
          cases x with
          | g u =>
            cases u with
            | int k n => cases k <;> first | rfl | (simp [isByte] at this)
            | _ => simp [isByte] at this
          | _ => simp [isByte] at this
        simp only [SV.den, hb, ho, Nat.mul_one, Nat.zero_add]
        rw [run_bytes_of hob (((cs.drop i).take len).map num) (by simp; omega)]
        · congr 3
          apply Array.toList_inj.1
          simp only [List.map_map]
          apply List.map_congr_left
          intro x hx
          have e := hall x hx
          generalize hnx : num x = nx at e
          rw [e]
          simp only [Function.comp, cellByte]
          rfl
        · intro j hj
          simp only [List.getElem?_toArray, denL_get, List.getElem?_map]
          rw [List.getElem?_take_of_lt hj, List.getElem?_drop]
          cases hg : cs[i + j]? with
          | none => rfl
          | some x =>
            have hx : x ∈ (cs.drop i).take len := List.mem_of_getElem? (i := j) (by rw [List.getElem?_take_of_lt hj, List.getElem?_drop]; exact hg)
            simp only [Option.map_some]
            have e := hall x hx
            generalize hnx : num x = nx at e
            rw [e]; rfl
      · cases h
  | view s n c row T =>
    unfold bytesX at h
    split at h
    · rename_i heq; cases heq
    · rename_i n' c' row' T' heq
      obtain ⟨rfl, rfl, rfl, rfl, rfl⟩ := (SO.view.injEq _ _ _ _ _ _ _ _ _ _).mp heq
      simp only [Option.some.injEq, Prod.mk.injEq] at h
      obtain ⟨rfl, rfl⟩ := h
      have p1 : i + len ≤ n := hp _ (by simp)
      have p2 : ∀ j, j < len → ∃ m, row (i + j) = [.g (.int .u8 m)] := hp _ (by simp)
      refine ⟨trivial, ?_⟩
      rcases hat.view with ⟨b, arr, fr, hb, ho, hob, g1, g2, g3⟩ | ⟨hb, rfl⟩
      · simp only [SV.den, hb, ho, Nat.mul_one, Nat.zero_add]
        exact bytes_rows hob p2 (fun j hj => by have := (g3 (i + j) (by omega)).2 0 (by omega); simpa using this)
      · have hl := (h2.2.1 hb).1
        subst hl
        simp only [SV.den, hb, Conv.bytesToString]
        rfl
    · rename_i heq; cases heq
    · cases h
  | ro s n row =>
    unfold bytesX at h
    split at h
    · rename_i heq; cases heq
    · rename_i heq; cases heq
    · rename_i n' row' heq
      obtain ⟨rfl, rfl, rfl⟩ := (SO.ro.injEq _ _ _ _ _ _).mp heq
      simp only [Option.some.injEq, Prod.mk.injEq] at h
      obtain ⟨rfl, rfl⟩ := h
      have p1 : i + len ≤ n := hp _ (by simp)
      have p2 : ∀ j, j < len → ∃ m, row (i + j) = [.g (.int .u8 m)] := hp _ (by simp)
      refine ⟨trivial, ?_⟩
      rcases hat.ro with ⟨b, arr, T, fr, hb, hob, g3⟩ | ⟨hb, rfl⟩
      · simp only [SV.den, hb, Nat.mul_one]
        exact bytes_rows hob p2 (fun j hj => by have := (g3 (i + j) (by omega)).2 0 (by omega); simpa [Nat.add_assoc] using this)
      · have hl := (h2.2.1 hb).1
        subst hl
        simp only [SV.den, hb, Conv.bytesToString]
        rfl
    · cases h
  | iter s pos => simp [bytesX] at h
  | raw φ => simp [bytesX] at h

theorem s_convert (hty : TyOK P ty) (hv : Opnd A ρ ev v) {src dst : TypeId} {x : Operand} (hop : o.op = .convert src dst x) {d : Det} (h : detX ty v o.op = some d) : DetSound P A ρ ev o d := by
  rw [hop] at h
  simp only [detX] at h
  split at h
  · rename_i ts k sz by' z k' n hts htd hx
    obtain ⟨si, sud, hs⟩ := tdOf_facts (hty _ _ hts)
    obtain ⟨ti, ud, ht⟩ := tdOf_facts (hty _ _ htd)
    obtain ⟨h1, h2⟩ := hv _ _ hx
    obtain rfl := tk_int ht.kind
    obtain rfl := Option.some.inj h
    intro _
    refine ⟨trivial, fun w => ?_⟩
    simp only [execOp, hop, h1, SV.den, Sem.run_bind, convert, run_underlying hs.und, run_underlying ht.und, Result.andThen_ok]
    cases sud <;> rfl
  · rename_i ts sz by' z s hts htd hx
    obtain ⟨si, sud, hs⟩ := tdOf_facts (hty _ _ hts)
    obtain ⟨ti, ud, ht⟩ := tdOf_facts (hty _ _ htd)
    obtain ⟨h1, h2⟩ := hv _ _ hx
    obtain rfl := tk_str ht.kind
    obtain rfl := Option.some.inj h
    intro _
    refine ⟨trivial, fun w => ?_⟩
    simp only [execOp, hop, h1, SV.den, Sem.run_bind, convert, run_underlying hs.und, run_underlying ht.und, Result.andThen_ok]
    cases sud <;> rfl
  · rename_i ts sz by' z k n hts htd hx
    obtain ⟨si, sud, hs⟩ := tdOf_facts (hty _ _ hts)
    obtain ⟨ti, ud, ht⟩ := tdOf_facts (hty _ _ htd)
    obtain ⟨h1, h2⟩ := hv _ _ hx
    obtain rfl := tk_str ht.kind
    obtain rfl := Option.some.inj h
    intro _
    refine ⟨trivial, fun w => ?_⟩
    simp only [execOp, hop, h1, SV.den, Sem.run_bind, convert, run_underlying hs.und, run_underlying ht.und, Result.andThen_ok]
    cases sud <;> rfl
  · rename_i e sz by' z sz2 by2 z2 id i len cap hts htd hx
    obtain ⟨si, sud, hs⟩ := tdOf_facts (hty _ _ hts)
    obtain ⟨ti, ud, ht⟩ := tdOf_facts (hty _ _ htd)
    obtain ⟨h1, h2⟩ := hv _ _ hx
    obtain rfl := tk_str ht.kind
    obtain rfl := tk_slc hs.kind
    split at h
    · rename_i sz3 by3 z3 he
      obtain ⟨ei, eud, hee⟩ := tdOf_facts (hty _ _ he)
      obtain rfl := tk_int hee.kind
      obtain rfl := Option.some.inj h
      refine ⟨h2.1, fun w so pre r hat hin hf hp => ?_⟩
      obtain ⟨q1, q2⟩ := bytesX_sound (P := P) hat h2 hf hp
      refine ⟨q1, ?_⟩
      have hc : ∃ a, (SV.sl id i 1 len cap).den ρ = .slice a len cap := by
        simp only [SV.den]; cases ρ.b id <;> exact ⟨_, rfl⟩
      obtain ⟨a, ha⟩ := hc
      simp only [execOp, hop, h1]
      rw [ha] at q2 ⊢
      rw [Sem.run_bind, run_convert_bytes_string w src dst e a len cap hs.und hee.und ht.und, q2]
      rfl
    · cases h
  · cases h

theorem s_binI {k : IntKind} {a b : Int} {op : BinOp} {pre : List Prop} {r : Value} (h : binI op k a b = some (pre, r)) (hp : ∀ p ∈ pre, p) (t : TypeId) (w : World) :
    (binOp op t (.int k a) (.int k b)).run P w = .ok r w ∧ isPlain (.g r) = true := by
  cases op <;> simp only [binI, Option.some.injEq, Prod.mk.injEq, reduceCtorEq] at h <;> (try (obtain ⟨rfl, rfl⟩ := h)) <;>
    first
    | (exact h.elim)
    | (refine ⟨?_, rfl⟩; simp [binOp, Op.intArith, Op.intBits, Op.intCmp]; done)
    | (refine ⟨?_, rfl⟩; have hb : b ≠ 0 := hp _ (List.mem_singleton.2 rfl); simp [binOp, Op.intDiv, hb]; done)

theorem s_shiftI {k k' : IntKind} {a b : Int} {op : BinOp} {pre : List Prop} {r : Value} (h : shiftI op k a b = some (pre, r)) (hp : ∀ p ∈ pre, p) (t : TypeId) (w : World) :
    (binOp op t (.int k a) (.int k' b)).run P w = .ok r w := by
  cases op <;> simp only [shiftI, Option.some.injEq, Prod.mk.injEq, reduceCtorEq] at h <;> (try (obtain ⟨rfl, rfl⟩ := h)) <;>
    first
    | (exact h.elim)
    | (have hb : 0 ≤ b := hp _ (List.mem_singleton.2 rfl); have hb' : ¬ b < 0 := by omega
       simp [binOp, Op.shift, hb']; done)

theorem s_binS {a b : ByteArray} {op : BinOp} {pre : List Prop} {r : Value} (h : binS op a b = some (pre, r)) (hp : ∀ p ∈ pre, p) (t : TypeId) (w : World) :
    (binOp op t (.string a) (.string b)).run P w = .ok r w := by
  cases op <;> simp only [binS, Option.some.injEq, Prod.mk.injEq, reduceCtorEq] at h <;> (try (obtain ⟨rfl, rfl⟩ := h)) <;>
    first
    | (exact h.elim)
    | (have hb : a.size + b.size ≤ 9223372036854775807 := hp _ (List.mem_singleton.2 rfl)
       have hb' : ¬ (IntKind.i64.max < ((a.size + b.size : Nat) : Int)) := by
         have : IntKind.i64.max = 9223372036854775807 := by decide
         rw [this]; omega
       simp only [binOp, Op.stringOp]
       rw [if_neg hb']
       rfl)
    | (simp [binOp, Op.stringOp, toList_beq]; done)

theorem guard_int (op : BinOp) (t : TypeId) (x y : Operand) (k k' : IntKind) (a b : Int) (w : World) : (eqGuard op t x y (.int k a) (.int k' b)).run P w = .ok () w := by
  cases op <;> simp [eqGuard]
theorem guard_str (op : BinOp) (t : TypeId) (x y : Operand) (a b : ByteArray) (w : World) : (eqGuard op t x y (.string a) (.string b)).run P w = .ok () w := by
  cases op <;> simp [eqGuard]
theorem guard_bool (op : BinOp) (t : TypeId) (x y : Operand) (a b : Bool) (w : World) : (eqGuard op t x y (.bool a) (.bool b)).run P w = .ok () w := by
  cases op <;> simp [eqGuard]
theorem guard_ptr (op : BinOp) (t : TypeId) (x y : Operand) (a b : Option Addr) (w : World) : (eqGuard op t x y (.pointer a) (.pointer b)).run P w = .ok () w := by
  cases op <;> simp [eqGuard]

theorem eqV_run {d : Nat} {t : TypeId} {td : TD} {i : TypeInfo} {ud : TypeDesc} (ht : TdFacts P t td i ud) {x y : SV} {b : Bool} (h : eqV td.k x y = some b) (w : World) :
    (Op.equalIn (d + 1) t (x.den ρ) (y.den ρ)).run P w = .ok b w ∧ td.isAgg = false := by
  unfold eqV at h
  split at h
  · rename_i k a b' hk
    obtain rfl := Option.some.inj h
    have hu := tk_int (hk ▸ ht.kind)
    subst hu
    exact ⟨run_equalIn_int w d t .i64 k _ _ ht.und, by simp [TD.isAgg, hk]⟩
  · rename_i k a b' hk
    obtain rfl := Option.some.inj h
    have hu := tk_int (hk ▸ ht.kind)
    subst hu
    exact ⟨run_equalIn_int w d t .u8 k _ _ ht.und, by simp [TD.isAgg, hk]⟩
  · rename_i a b' hk
    obtain rfl := Option.some.inj h
    have hu := tk_bool (hk ▸ ht.kind)
    subst hu
    exact ⟨run_equalIn_bool' w d t _ _ ht.und, by simp [TD.isAgg, hk]⟩
  · rename_i a b' hk
    obtain rfl := Option.some.inj h
    have hu := tk_str (hk ▸ ht.kind)
    subst hu
    refine ⟨?_, by simp [TD.isAgg, hk]⟩
    rw [SV.den, SV.den, run_equalIn_string w d t _ _ ht.und, toList_beq]
  · cases h

theorem run_part_one {t : TypeId} {td : TD} {i : TypeInfo} {ud : TypeDesc} (ht : TdFacts P t td i ud) (ha : td.isAgg = false) (cs : Array Value) (off : Nat) {v : Value} (hv : cs[off]? = some v) (w : World) :
    (part t cs off).run P w = .ok v w := by
  unfold part; simp [ht.run_isAgg, ha, hv]

theorem eqFs_run (hty : TyOK P ty) (d : Nat) (X Y : List SV) : ∀ (fs : List Field) (k : Nat) (xs ys : List SV) (b : Bool), (∀ f ∈ fs, (f.name == "_") = false) → X.drop k = xs → Y.drop k = ys →
    eqFs ty k (fs.map fun f => (f.offset, P.cellsOf f.type, f.type)) xs ys = some b → ∀ w : World, (Op.eqFields (d + 1) (SV.denL ρ X).toArray (SV.denL ρ Y).toArray fs).run P w = .ok b w := by
  intro fs
  induction fs with
  | nil =>
    intro k xs ys b _ hx hy h w
    cases xs <;> cases ys <;> simp [eqFs] at h
    subst h; rfl
  | cons f fs ih =>
    intro k xs ys b hn hx hy h w
    cases xs with
    | nil => simp [eqFs] at h
    | cons x xs =>
      cases ys with
      | nil => simp [eqFs] at h
      | cons y ys =>
        simp only [List.map_cons, eqFs] at h
        split at h
        · rename_i td hb hl
          obtain rfl := Nat.eq_of_beq_eq_true hb
          obtain ⟨i, ud, ht⟩ := tdOf_facts (hty _ _ hl)
          split at h
          · cases h
          · rename_i b1 hb1
            split at h
            · cases h
            · rename_i c hc
              obtain rfl := Option.some.inj h
              obtain ⟨e1, ha⟩ := eqV_run (ρ := ρ) (d := d) ht hb1 w
              have hX : X[f.offset]? = some x := by
                have := congrArg (fun l => l[0]?) hx; simpa using this
              have hY : Y[f.offset]? = some y := by
                have := congrArg (fun l => l[0]?) hy; simpa using this
              have hxs : X.drop (f.offset + 1) = xs := by
                have := congrArg List.tail hx; simpa using this
              have hys : Y.drop (f.offset + 1) = ys := by
                have := congrArg List.tail hy; simpa using this
              have hnf : f.name ≠ "_" := by simpa using hn f (by simp)
              have q1 := run_part_one (w := w) ht ha (SV.denL ρ X).toArray f.offset (v := x.den ρ) (by simp only [List.getElem?_toArray, denL_get, hX, Option.map_some])
              have q2 := run_part_one (w := w) ht ha (SV.denL ρ Y).toArray f.offset (v := y.den ρ) (by simp only [List.getElem?_toArray, denL_get, hY, Option.map_some])
              simp only [Op.eqFields]
              rw [if_pos hnf]
              simp only [Sem.run_bind, q1, q2, e1, Result.andThen_ok]
              cases b1
              · simp
              · simp only [Bool.not_true, Bool.false_eq_true, if_false, Bool.true_and]
                exact ih (f.offset + 1) xs ys c (fun g hg => hn g (by simp [hg])) hxs hys hc w
        · cases h

theorem ptr_none (d : Nat) {t : TypeId} {e : TypeId} (h : P.underlying t = some (.pointer e)) (b : Option Addr) (w : World) : (Op.equalIn (d + 1) t (.pointer none) (.pointer b)).run P w = .ok b.isNone w := by
  simp [Op.equalIn, run_underlying h]
theorem ptr_some (d : Nat) {t : TypeId} {e : TypeId} (h : P.underlying t = some (.pointer e)) (a : Addr) (w : World) : (Op.equalIn (d + 1) t (.pointer (some a)) (.pointer none)).run P w = .ok false w := by
  simp [Op.equalIn, run_underlying h]

theorem eqX_run (hty : TyOK P ty) {t : TypeId} {x y : SV} {b : Bool} (h : eqX ty t x y = some b) (op : BinOp) (xo yo : Operand) (w : World) :
    (eqGuard op t xo yo (x.den ρ) (y.den ρ)).run P w = .ok () w ∧ (Op.equal t (x.den ρ) (y.den ρ)).run P w = .ok b w := by
  unfold eqX at h
  split at h
  · rename_i sz by' z htd
    obtain ⟨ti, ud, ht⟩ := tdOf_facts (hty _ _ htd)
    obtain rfl := tk_bool ht.kind
    split at h
    · obtain rfl := Option.some.inj h
      exact ⟨guard_bool _ _ _ _ _ _ _, run_equalIn_bool' w _ t _ _ ht.und⟩
    · cases h
  · rename_i fs sz by' z htd
    obtain ⟨ti, ud, ht⟩ := tdOf_facts (hty _ _ htd)
    obtain ⟨fields, rfl, hfs⟩ := tk_strct ht.kind
    have hok := structOK_fields (ht.strct _ rfl)
    split at h
    · rename_i xs ys
      have hfo : P.fieldsOf t = fields := by simp [Program.fieldsOf, ht.und]
      have hu : P.underlying t = some (.struct (P.fieldsOf t)) := by rw [hfo]; exact ht.und
      refine ⟨run_eqGuard_agg w op t xo yo _ _ hok.2.2, ?_⟩
      unfold Op.equal
      simp only [SV.den]
      rw [show Op.maxDepth = 9998 + 1 + 1 from rfl, run_equalIn_agg w _ t _ _ hu hok.2.1, hfo]
      rw [hfs] at h
      exact eqFs_run hty 9998 xs ys fields.toList 0 xs ys b (fun f hf => (hok.1 f hf).1) rfl rfl h w
    · cases h
  · rename_i e sz by' z htd
    obtain ⟨ti, ud, ht⟩ := tdOf_facts (hty _ _ htd)
    obtain rfl := tk_ptr ht.kind
    split at h
    · obtain rfl := Option.some.inj h
      exact ⟨guard_ptr _ _ _ _ _ _ _, ptr_some 9999 ht.und _ w⟩
    · obtain rfl := Option.some.inj h
      exact ⟨guard_ptr _ _ _ _ _ _ _, ptr_none 9999 ht.und _ w⟩
    · obtain rfl := Option.some.inj h
      exact ⟨guard_ptr _ _ _ _ _ _ _, ptr_none 9999 ht.und _ w⟩
    · obtain rfl := Option.some.inj h
      exact ⟨guard_ptr _ _ _ _ _ _ _, ptr_some 9999 ht.und _ w⟩
    · cases h
  · cases h

end
end Go.Eng
