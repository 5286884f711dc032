/- The engine, part O: iterators, []byte(s), copy; one operation whatever it is. -/
import Derived.Test.YtghbejmnnfoamaaEngN
set_option linter.unusedVariables false
set_option linter.unusedSimpArgs false
namespace Go.Eng
open Go
section
variable {P : Program} {A : Names} {ρ : Val} {w : World} {B : Nat → Prop} {nid : Nat} {H : Heap} {K : SV → Heap → Prop}

/-- An outcome that makes no name. -/
theorem outcome_same (hH : HOK ⟨fun i => i < nid, B⟩ ρ H w) {r : SV} (hr : r.In ⟨fun i => i < nid, B⟩ ρ) (hK : K r H) : Outcome P B nid ρ H w K (.ok (r.den ρ) w) := by
  have hb : ∀ i, i < nid → i < nid + 8 := fun i hi => by omega
  exact ⟨w, ρ, r, H, rfl, ⟨Val.agree_refl _ _, SV.InO_of_In (SV.In_agree (A := ⟨fun i => i < nid, B⟩) (B := ⟨fun i => i < nid + 8, B⟩) (Val.agree_refl _ _) hb (fun t h => h) r hr), hH.mono (Val.agree_refl _ _) hb (fun t h => h), fun b hb => Or.inr hb, FrameBut.refl _ _⟩, hK⟩
theorem outcome_set (hH : HOK ⟨fun i => i < nid, B⟩ ρ H w) {id b : Nat} {so so' : SO} {ob' : Obj} (hl : look id H = some so) (hnr : so.isRo = false) (hnr' : so'.isRo = false) (hid : ρ.b id = some b) (ho : ρ.o id = 0) (hin : so'.In ⟨fun i => i < nid, B⟩ ρ) (hs : so'.sat ρ ob') {r : SV} (hr : r.In ⟨fun i => i < nid, B⟩ ρ)
    (hK : K r ((id, so') :: H)) : Outcome P B nid ρ H w K (.ok (r.den ρ) (setBlk w b ob')) := by
  have hb : ∀ i, i < nid → i < nid + 8 := fun i hi => by omega
  obtain ⟨m1, m2, m3⟩ := hH.set hl hnr hnr' hid ho hin hs
  exact ⟨_, ρ, r, _, rfl, ⟨Val.agree_refl _ _, SV.InO_of_In (SV.In_agree (A := ⟨fun i => i < nid, B⟩) (B := ⟨fun i => i < nid + 8, B⟩) (Val.agree_refl _ _) hb (fun t h => h) r hr), m1.mono (Val.agree_refl _ _) hb (fun t h => h), fun k hk => Or.inr (m3 k hk), m2⟩, hK⟩

theorem outcome_nil (hH : HOK ⟨fun i => i < nid, B⟩ ρ H w) {id : Nat} {so : SO} {s c T : Nat} {row : Nat → List SV} (hl : look id H = some so) (hnr : so.isRo = false) (hid : ρ.b id = none) {r : SV} (hr : r.In ⟨fun i => i < nid, B⟩ ρ)
    (hK : K r ((id, .view s 0 c row T) :: H)) : Outcome P B nid ρ H w K (.ok (r.den ρ) w) := by
  have hb : ∀ i, i < nid → i < nid + 8 := fun i hi => by omega
  have old : ∀ k sk, look k ((id, SO.view s 0 c row T) :: H) = some sk → ∃ sk', look k H = some sk' ∧ sk'.isRo = sk.isRo := by
    intro k sk hk
    rw [look_cons] at hk
    split at hk
    · rename_i e; subst e; obtain rfl := Option.some.inj hk; exact ⟨so, hl, by rw [hnr]; rfl⟩
    · exact ⟨sk, hk, rfl⟩
  have h2 := hH.mono (B := ⟨fun i => i < nid + 8, B⟩) (Val.agree_refl _ ρ) hb (fun t h => h)
  refine ⟨w, ρ, r, _, rfl, ⟨Val.agree_refl _ _, SV.InO_of_In (SV.In_agree (A := ⟨fun i => i < nid, B⟩) (B := ⟨fun i => i < nid + 8, B⟩) (Val.agree_refl _ _) hb (fun t h => h) r hr), ⟨fun k sk hk => ?_, fun i j si sj b hi hj e1 e2 => ?_⟩, fun b ⟨j, sj, hj, hrr, e⟩ => ?_, FrameBut.refl _ _⟩, hK⟩
  · rw [look_cons] at hk
    split at hk
    · rename_i e; subst e
      obtain rfl := Option.some.inj hk
      exact ⟨(h2.here _ _ hl).1, fun i hi => absurd hi (Nat.not_lt_zero i), Or.inr (Or.inl ⟨hid, Or.inl ⟨_, _, _, _, rfl⟩⟩)⟩
    · exact h2.here k sk hk
  · obtain ⟨si', g1, g2⟩ := old i si hi
    obtain ⟨sj', g3, g4⟩ := old j sj hj
    rw [← g2, ← g4]; exact h2.inj i j si' sj' b g1 g3 e1 e2
  · obtain ⟨sj', g1, g2⟩ := old j sj hj
    exact Or.inr ⟨j, sj', g1, by rw [g2]; exact hrr, e⟩

theorem nextX_sound {x : SV} {T : TypeId} (hH : HOK ⟨fun i => i < nid, B⟩ ρ H w) (hx : x.In ⟨fun i => i < nid, B⟩ ρ) (h : nextX x H K) : Outcome P B nid ρ H w K ((Instr.next (x.den ρ) true T).run P w) := by
  unfold nextX at h
  split at h
  · rename_i id s0
    split at h
    · rename_i s pos hl
      obtain ⟨g1, g2, g3⟩ := hH.here id _ hl
      obtain ⟨b, e1, e0, e2⟩ := g3.iter
      · obtain ⟨h1, h2⟩ := (condX_iff _ _ _).1 h
        have hg : (getObj b).run P w = .ok (.stringIter s pos) w := by simp [getObj, Sem.run, e2]
        by_cases hp : pos < s.size
        · have hK := h1 (decide_eq_true hp)
          have hrun : (Instr.next ((SV.ptr id 0 s0 0).den ρ) true T).run P w = .ok ((SV.tup [.g (.bool true), .g (.int .i64 pos), .g (.int .i32 (Utf8.decode s pos).1)]).den ρ) (setBlk w b (.stringIter s (pos + (Utf8.decode s pos).2))) := by
            simp [Instr.next, SV.den, e1, e0, hg, hp, SV.denL, goInt, setObj, Sem.run, e2, setBlk]
          rw [hrun]
          exact outcome_set hH hl rfl rfl e1 e0 (so' := .iter s (pos + (Utf8.decode s pos).2)) trivial rfl ⟨trivial, trivial, trivial, trivial⟩ hK
        · have hK := h2 (decide_eq_false hp)
          have hrun : (Instr.next ((SV.ptr id 0 s0 0).den ρ) true T).run P w = .ok ((SV.tup [.g (.bool false)]).den ρ) w := by
            simp [Instr.next, SV.den, e1, e0, hg, hp, SV.denL]
          rw [hrun]
          exact outcome_same hH ⟨trivial, trivial⟩ hK
    · exact h.elim
  · exact h.elim

theorem bytes_cells (b : ByteArray) (rest : Array Value) (j : Nat) (hj : j < b.size) : ((b.data.map fun b => Value.int .u8 b.toNat) ++ rest)[j]? = some (.int .u8 (byteAt b (j : Int))) := by
  have hj' : j < b.data.size := hj
  rw [Array.getElem?_append_left (by simpa using hj')]
  simp [byteAt, hj', Array.getD, hj]

theorem bytesOfX_sound {e : TypeId} {s : ByteArray} (hH : HOK ⟨fun i => i < nid, B⟩ ρ H w) (h : bytesOfX s e H nid K) : Outcome P B nid ρ H w K ((Conv.stringToBytes e s).run P w) := by
  let cap := Question.cut (.appendCap s.size 0 e) (w.tape w.drawn (.appendCap s.size 0 e))
  have hge : s.size ≤ cap := Question_cut_append _ _ _ _
  let arr := (s.data.map fun b => Value.int .u8 b.toNat) ++ Array.replicate (cap - s.size) (Value.int .u8 0)
  have hsz : arr.size = cap := by
    have : s.data.size = s.size := rfl
    simp [arr]; omega
  have hrun : (Conv.stringToBytes e s).run P w = .ok (.slice (some ⟨w.heap.size, 0, none⟩) s.size cap) (w.drew.alloc (.cells arr e (cap, cap + 1))) := by
    have hsh : (w.drew.alloc (.cells arr e)).shape? w.heap.size = some (e, cap) := by
      have : (w.drew.alloc (.cells arr e)).heap[w.heap.size]? = some (.cells arr e) := heap_alloc_new w.drew _
      simp only [World.shape?, this, hsz]
    have hfr : (w.drew.alloc (.cells arr e)).freeze { block := w.heap.size, off := cap } 1 = w.drew.alloc (.cells arr e (cap, cap + 1)) := by
      unfold World.freeze
      simp only [Nat.one_ne_zero, if_false]
      unfold World.alloc
      congr 1
      apply Array.ext_getElem?
      intro k
      rw [Array.getElem?_modify]
      simp only [Array.getElem?_push]
      by_cases hk : w.heap.size = k
      · subst hk
        rw [if_pos rfl, if_pos (show w.heap.size = w.drew.heap.size from rfl), if_pos (show w.heap.size = w.drew.heap.size from rfl)]
        simp
      · rw [if_neg hk, if_neg (fun e => hk (e.trans rfl).symm), if_neg (fun e => hk (e.trans rfl).symm)]
    simp only [Conv.stringToBytes, Sem.run_bind, run_choose, Question.forced, Bool.false_eq_true, if_false, Result.andThen_ok, newRow, run_newObj, Sem.run_pure, markStringish, run_shape]
    change ((Sem.run P (match (w.drew.alloc (.cells arr e)).shape? w.heap.size with
      | some (_, n) => freeze { block := w.heap.size, off := n } 1
      | _ => pure ()) (w.drew.alloc (.cells arr e))).andThen fun _ w' => Result.ok (Value.slice (some { block := w.heap.size, off := 0 }) s.size cap) w') = _
    rw [hsh]
    simp only [run_freeze, Result.andThen_ok]
    rw [hfr]
  rw [hrun]
  have hin : (SO.view 1 s.size cap (fun j => [SV.g (.int .u8 (byteAt s (j : Int)))]) e).In ⟨fun i => i < nid, B⟩ ρ := fun j _ => ⟨trivial, trivial⟩
  refine made_new hH (so := .view 1 s.size cap (fun j => [SV.g (.int .u8 (byteAt s (j : Int)))]) e) (fun k so hk => hk) hin ?_ hge (h cap hge)
  refine ⟨arr, (cap, cap + 1), rfl, ⟨hge, by omega⟩, fun k hk => by simp only []; omega, fun j hj => ⟨rfl, fun q hq => ?_⟩⟩
  obtain rfl : q = 0 := by omega
  rw [Nat.mul_one, Nat.add_zero, bytes_cells s _ j hj]
  rfl

theorem copyX_sound {t e : TypeId} {d : TD} {i : TypeInfo} {ud : TypeDesc} {x y : SV} {ts : Array TypeId} {ty' : TypeId} (hH : HOK ⟨fun i => i < nid, B⟩ ρ H w) (hx : x.In ⟨fun i => i < nid, B⟩ ρ) (hy : y.In ⟨fun i => i < nid, B⟩ ρ)
    (hts : ts[0]? = some t) (ht : P.underlying t = some (.slice e)) (he : TdFacts P e d i ud) (h : copyX d.size x y H K) : Outcome P B nid ρ H w K ((Builtin.copy_ ts ty' #[x.den ρ, y.den ρ]).run P w) := by
  unfold copyX at h
  split at h
  · rename_i id i0 s' len cap0
    split at h
    · rename_i so hb hl
      obtain rfl := Nat.eq_of_beq_eq_true hb
      split at h
      · rename_i n c row T m rowY pre hrows hsrc
        obtain ⟨hp, hin, hK⟩ := (allX_iff _ _).1 h
        have S := srcX_sound (P := P) hH hy hsrc hp
        obtain ⟨g1, g2, g3⟩ := hH.here id so hl
        obtain ⟨r1, r2, r3⟩ := rowsOf_sat (A := ⟨fun i => i < nid, B⟩) (ρ := ρ) hrows
        have hmin : Nat.min m len ≤ m := Nat.min_le_left _ _
        have hmin2 : Nat.min m len ≤ len := Nat.min_le_right _ _
        generalize hq : Nat.min m len = q at hmin hmin2 hK
        have hYl : (SV.denL ρ (rowsL rowY q)).length = q * d.size := by rw [denL_length, rowsL_length q (fun j hj => S.len j (by omega))]
        rcases rowsOf_at hrows g3 with ⟨b, arr, fr, e1, e0, e2, ⟨q1, q1'⟩, q2, q4⟩ | ⟨e1, e2⟩
        · skip
          have hsz : i0 * d.size + q * d.size ≤ arr.size := by
            rw [← Nat.add_mul]
            exact Nat.le_trans (Nat.mul_le_mul_right _ (by omega)) q1'
          have hst := run_storeCells_block (P := P) (SV.denL ρ (rowsL rowY q)) w b (i0 * d.size) 0 arr T fr e2 (by
            intro v hv
            rw [SV.denL_eq, List.mem_map] at hv
            obtain ⟨y', hy', rfl⟩ := hv
            obtain ⟨j, hj, hx'⟩ := rowsL_mem q y' hy'
            exact S.one j (by omega) y' hx') (by rw [hYl]; omega) q2
          have hrun : (Builtin.copy_ ts ty' #[(SV.sl id i0 d.size len cap0).den ρ, y.den ρ]).run P w = .ok ((SV.g (.int .i64 (q : Nat))).den ρ) (setBlk w b (.cells (arrSet arr (i0 * d.size) (SV.denL ρ (rowsL rowY q))) T fr)) := by
            simp only [Nat.add_zero] at hst
            simp [Builtin.copy_, hts, run_underlying ht, S.lenOf, SV.den, e1, e0, he.run_size, hq, S.first q hmin w rfl, hst, goInt]
          rw [hrun]
          refine outcome_set hH hl r3 rfl e1 e0 (so' := .view d.size n c (fun j => if i0 ≤ j ∧ j < i0 + q then rowY (j - i0) else row j) T) ?_ ?_ trivial hK
          · intro j hj
            simp only []
            split
            · exact S.ins _ (by omega)
            · exact r1 g2 j hj
          · refine ⟨_, fr, rfl, ⟨q1, by rw [arrSet_size]; exact q1'⟩, by rw [arrSet_size]; exact q2, fun j hj => ?_⟩
            simp only []
            by_cases hc : i0 ≤ j ∧ j < i0 + q
            · rw [if_pos hc]
              have hjq : j - i0 < q := by omega
              refine ⟨S.len _ (by omega), fun k hk => ?_⟩
              have hj1 : (j - i0 + 1) * d.size ≤ q * d.size := Nat.mul_le_mul_right _ hjq
              rw [Nat.add_mul _ 1, Nat.one_mul] at hj1
              have hj2 : j * d.size = i0 * d.size + (j - i0) * d.size := by rw [← Nat.add_mul]; congr 1; omega
              rw [arrSet_get _ _ _ _ (by rw [hYl]; omega), if_pos (by rw [hYl]; omega)]
              have : j * d.size + k - i0 * d.size = (j - i0) * d.size + k := by omega
              rw [this, denL_get, rowsL_get q (fun j hj => S.len j (by omega)) (j - i0) k hjq hk]
            · rw [if_neg hc]
              refine ⟨(q4 j hj).1, fun k hk => ?_⟩
              rw [arrSet_get _ _ _ _ (by rw [hYl]; omega), if_neg, (q4 j hj).2 k hk]
              rw [hYl]
              rintro ⟨c1, c2⟩
              rcases Nat.lt_or_ge j i0 with hlt | hge
              · have : (j + 1) * d.size ≤ i0 * d.size := Nat.mul_le_mul_right _ hlt
                rw [Nat.add_mul, Nat.one_mul] at this; omega
              · have h5 : i0 + q ≤ j := by omega
                have : (i0 + q) * d.size ≤ j * d.size := Nat.mul_le_mul_right _ h5
                rw [Nat.add_mul] at this; omega
        · obtain ⟨rfl, rfl⟩ := hx.2.1 e1
          obtain rfl : q = 0 := by omega
          have hrun : (Builtin.copy_ ts ty' #[(SV.sl id i0 d.size 0 0).den ρ, y.den ρ]).run P w = .ok ((SV.g (.int .i64 (0 : Nat))).den ρ) w := by
            simp [Builtin.copy_, hts, run_underlying ht, S.lenOf, SV.den, e1, he.run_size, S.first 0 (Nat.zero_le _) w rfl, goInt]
          rw [hrun]
          subst e2
          exact outcome_nil hH hl r3 e1 trivial hK
      · exact h.elim
    · exact h.elim
  · exact h.elim

theorem zeroCells_rows {zc : List SV} (n : Nat) : (Builtin.zeroCells (SV.denL ρ zc).toArray n).toList = SV.denL ρ (rowsL (fun _ => zc) n) := by
  have hl : (SV.denL ρ zc).toArray.size = zc.length := by simp [denL_length]
  have hr : ∀ j, j < n → ((fun _ : Nat => zc) j).length = zc.length := fun _ _ => rfl
  have hL : (SV.denL ρ (rowsL (fun _ => zc) n)).length = n * zc.length := by rw [denL_length, rowsL_length n hr]
  apply List.ext_getElem?
  intro k
  by_cases hk : k < n * zc.length
  · by_cases hs0 : zc.length = 0
    · rw [hs0] at hk; simp at hk
    · have hdm := Nat.div_add_mod k zc.length
      have hmod := Nat.mod_lt k (Nat.pos_of_ne_zero hs0)
      have hj : k / zc.length < n := by
        rw [Nat.div_lt_iff_lt_mul (Nat.pos_of_ne_zero hs0)]; exact hk
      have e4 := rowsL_get n hr (k / zc.length) (k % zc.length) hj hmod
      have : k / zc.length * zc.length + k % zc.length = k := by rw [Nat.mul_comm]; exact hdm
      rw [this] at e4
      rw [denL_get, e4]
      have hg : zc[k % zc.length]? = some (zc[k % zc.length]) := List.getElem?_eq_getElem hmod
      have hg2 : (SV.denL ρ zc)[k % zc.length]? = some ((zc[k % zc.length]).den ρ) := by rw [denL_get, hg]; rfl
      unfold Builtin.zeroCells
      rw [hg]
      simp only [hl, Array.getElem?_toList, Array.getElem?_map, Array.getElem?_range, hk, if_true, Option.map_some]
      congr 1
      rw [getElem!_def]
      simp only [List.getElem?_toArray, hg2]
  · rw [List.getElem?_eq_none (by rw [Array.length_toList, zeroCells_size, hl]; omega), List.getElem?_eq_none (by omega)]

theorem clearX_sound {t e : TypeId} {d : TD} {i : TypeInfo} {ud : TypeDesc} {z x : SV} {ty' : TypeId} (hH : HOK ⟨fun i => i < nid, B⟩ ρ H w) (hx : x.In ⟨fun i => i < nid, B⟩ ρ)
    (ht : P.underlying t = some (.slice e)) (he : TdFacts P e d i ud) (hz : d.zeroSV = some z) (hpl : z.cells.all isPlain = true) (h : clearX d.size z.cells x H K) : Outcome P B nid ρ H w K ((Builtin.clear_ #[t] ty' #[x.den ρ]).run P w) := by
  obtain ⟨z1, z2, z3⟩ := zeroSV_facts (ρ := ρ) (A := ⟨fun i => i < nid, B⟩) he hz
  obtain ⟨z4, z5⟩ := cells_den z1
  unfold clearX at h
  split at h
  · rename_i id i0 s' len cap0
    split at h
    · rename_i so hb hl
      obtain rfl := Nat.eq_of_beq_eq_true hb
      split at h
      · rename_i n c row T hrows
        obtain ⟨hin, hK⟩ := h
        obtain ⟨g1, g2, g3⟩ := hH.here id so hl
        obtain ⟨r1, r2, r3⟩ := rowsOf_sat (A := ⟨fun i => i < nid, B⟩) (ρ := ρ) hrows
        have hr : ∀ j, j < len → ((fun _ : Nat => z.cells) j).length = d.size := fun _ _ => z3
        have hYl : (SV.denL ρ (rowsL (fun _ => z.cells) len)).length = len * d.size := by rw [denL_length, rowsL_length len hr]
        rcases rowsOf_at hrows g3 with ⟨b, arr, fr, e1, e0, e2, ⟨q1, q1'⟩, q2, q4⟩ | ⟨e1, e2⟩
        · have hsz : i0 * d.size + len * d.size ≤ arr.size := by
            rw [← Nat.add_mul]
            exact Nat.le_trans (Nat.mul_le_mul_right _ (by omega)) q1'
          have hst := run_storeCells_block (P := P) (SV.denL ρ (rowsL (fun _ => z.cells) len)) w b (i0 * d.size) 0 arr T fr e2 (by
            intro v hv
            rw [SV.denL_eq, List.mem_map] at hv
            obtain ⟨y', hy', rfl⟩ := hv
            obtain ⟨j, hj, hx'⟩ := rowsL_mem len y' hy'
            exact plain_one ((SV.InL_iff _ _ _).1 z5 y' hx') (List.all_eq_true.1 hpl y' hx')) (by rw [hYl]; omega) q2
          simp only [Nat.add_zero] at hst
          have hrun : (Builtin.clear_ #[t] ty' #[(SV.sl id i0 d.size len cap0).den ρ]).run P w = .ok ((SV.tup []).den ρ) (setBlk w b (.cells (arrSet arr (i0 * d.size) (SV.denL ρ (rowsL (fun _ => z.cells) len))) T fr)) := by
            by_cases hl0 : len = 0
            · subst hl0
              have : setBlk w b (.cells (arrSet arr (i0 * d.size) (SV.denL ρ (rowsL (fun _ => z.cells) 0))) T fr) = w := by
                have e : arrSet arr (i0 * d.size) (SV.denL ρ (rowsL (fun _ => z.cells) 0)) = arr := by simp [rowsL, SV.denL, arrSet]
                rw [e, setBlk_self e2]
              rw [this]
              simp [Builtin.clear_, run_underlying ht, SV.den, SV.denL, e1, e0]
            · obtain ⟨k, rfl⟩ : ∃ k, len = k + 1 := ⟨len - 1, by omega⟩
              simp [Builtin.clear_, run_underlying ht, SV.den, SV.denL, e1, e0, run_zeroValue_of he.info z2, z4, zeroCells_rows, hst]
          rw [hrun]
          refine outcome_set hH hl r3 rfl e1 e0 (so' := .view d.size n c (fun j => if i0 ≤ j ∧ j < i0 + len then z.cells else row j) T) ?_ ?_ (r := .tup []) trivial hK
          · intro j hj
            simp only []
            split
            · exact z5
            · exact r1 g2 j hj
          · refine ⟨_, fr, rfl, ⟨q1, by rw [arrSet_size]; exact q1'⟩, by rw [arrSet_size]; exact q2, fun j hj => ?_⟩
            simp only []
            by_cases hc : i0 ≤ j ∧ j < i0 + len
            · rw [if_pos hc]
              refine ⟨z3, fun k hk => ?_⟩
              have hj1 : (j - i0 + 1) * d.size ≤ len * d.size := Nat.mul_le_mul_right _ (by omega)
              rw [Nat.add_mul _ 1, Nat.one_mul] at hj1
              have hj2 : j * d.size = i0 * d.size + (j - i0) * d.size := by rw [← Nat.add_mul]; congr 1; omega
              rw [arrSet_get _ _ _ _ (by rw [hYl]; omega), if_pos (by rw [hYl]; omega)]
              have : j * d.size + k - i0 * d.size = (j - i0) * d.size + k := by omega
              rw [this, denL_get, rowsL_get len hr (j - i0) k (by omega) hk]
            · rw [if_neg hc]
              refine ⟨(q4 j hj).1, fun k hk => ?_⟩
              rw [arrSet_get _ _ _ _ (by rw [hYl]; omega), if_neg, (q4 j hj).2 k hk]
              rw [hYl]
              rintro ⟨c1, c2⟩
              rcases Nat.lt_or_ge j i0 with hlt | hge
              · have : (j + 1) * d.size ≤ i0 * d.size := Nat.mul_le_mul_right _ hlt
                rw [Nat.add_mul, Nat.one_mul] at this; omega
              · have h5 : i0 + len ≤ j := by omega
                have : (i0 + len) * d.size ≤ j * d.size := Nat.mul_le_mul_right _ h5
                rw [Nat.add_mul] at this; omega
        · obtain ⟨rfl, rfl⟩ := hx.2.1 e1
          have hrun : (Builtin.clear_ #[t] ty' #[(SV.sl id i0 d.size 0 0).den ρ]).run P w = .ok ((SV.tup []).den ρ) w := by
            simp [Builtin.clear_, run_underlying ht, SV.den, SV.denL, e1]
          rw [hrun]
          subst e2
          exact outcome_nil hH hl r3 e1 trivial hK
      · exact h.elim
    · exact h.elim
  · exact h.elim

end
end Go.Eng
