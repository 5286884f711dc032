/- The engine, part N: append, and the other operations that are no matter of one value. -/
import Derived.Test.YtghbejmnnfoamaaEngM
set_option linter.unusedVariables false
set_option linter.unusedSimpArgs false
namespace Go.Eng
open Go
section
variable {P : Program} {A : Names} {ρ : Val} {w : World}

theorem growBy_le (newLen : Nat) (h : 256 ≤ newLen) : ∀ r c, c ≤ 2 * newLen → Builtin.growBy newLen r c ≤ 2 * newLen
  | 0, c, hc => hc
  | r + 1, c, hc => by
    unfold Builtin.growBy
    split
    · exact hc
    · exact growBy_le newLen h r _ (by omega)
theorem nextslicecap_le (need old : Nat) (h : old < need) : Builtin.nextslicecap need old ≤ 2 * need := by
  unfold Builtin.nextslicecap
  split
  · omega
  · split
    · omega
    · exact growBy_le need (by omega) 4 old (by omega)

theorem zeroCells_size (z : Array Value) (n : Nat) : (Builtin.zeroCells z n).size = n * z.size := by simp [Builtin.zeroCells]

theorem run_append {t t' e sLen sCap m : Nat} {d : TD} {i : TypeInfo} {ud : TypeDesc} {z : SV} {base : Option Addr} {v : Value} {rowY : Nat → List SV} {old : Array Value} {ty' : TypeId} (ht : P.underlying t = some (.slice e))
    (ht' : (∃ e', P.underlying t' = some (.slice e')) ∨ P.underlying t' = some .string) (he : TdFacts P e d i ud) (hz : d.zeroSV = some z) (hby : 1 ≤ d.bytes) (S : Src A P ρ w d.size m rowY v)
    (hold : ∀ w', w'.heap = w.heap → (Builtin.firstCells d.size sLen (.slice base sLen sCap)).run P w' = .ok old w') (hroom : (sLen + m) * d.bytes ≤ 140737488355328) :
    (sLen + m ≤ sCap ∧ (Builtin.append_ #[t, t'] ty' #[.slice base sLen sCap, v]).run P w = match base with
      | none => .ok (.slice none (sLen + m) sCap) w
      | some a => ((storeCells (a.add (sLen * d.size)) (SV.denL ρ (rowsL rowY m))).run P w).andThen fun _ w' => .ok (.slice (some a) (sLen + m) sCap) w') ∨
    (sCap < sLen + m ∧ ∃ cap rest, sLen + m ≤ cap ∧ rest.size = (cap - (sLen + m)) * d.size ∧ (Builtin.append_ #[t, t'] ty' #[.slice base sLen sCap, v]).run P w =
      .ok (.slice (some ⟨w.heap.size, 0, none⟩) (sLen + m) cap) (w.drew.alloc (.cells (old ++ (SV.denL ρ (rowsL rowY m)).toArray ++ rest) e))) := by
  have hzeros : ∀ w', ((do pure ((← underlying t') matches .int _) : Sem Bool)).run P w' = .ok false w' := by
    intro w'
    rcases ht' with ⟨e', h⟩ | h <;> simp [run_underlying h]
  obtain ⟨z1, z2, z3⟩ := zeroSV_facts (ρ := ρ) (A := A) he hz
  obtain ⟨z4, _⟩ := cells_den z1
  by_cases hc : sLen + m ≤ sCap
  · refine Or.inl ⟨hc, ?_⟩
    unfold Builtin.append_
    simp only [List.getElem?_toArray, Array.getElem?_toList]
    rcases ht' with ⟨e', h'⟩ | h'
    all_goals
      simp [run_underlying ht, he.run_size, run_underlying h', S.lenOf, hc, S.first m (Nat.le_refl _) w rfl]
      cases base <;> simp
  · refine Or.inr ⟨by omega, ?_⟩
    have hnc := nextslicecap_le (sLen + m) sCap (by omega)
    have hcap : ¬ (2 ^ 48 < Builtin.nextslicecap (sLen + m) sCap * i.bytes) := by
      have h1 : Builtin.nextslicecap (sLen + m) sCap * d.bytes ≤ 2 * (sLen + m) * d.bytes := Nat.mul_le_mul_right _ hnc
      rw [Nat.mul_assoc] at h1
      rw [← he.bytes]
      omega
    have hb0 : ¬ (i.bytes = 0) := by rw [← he.bytes]; omega
    let cap := Question.cut (.appendCap (sLen + m) sCap e) (w.tape w.drawn (.appendCap (sLen + m) sCap e))
    have hge : sLen + m ≤ cap := Question_cut_append _ _ _ _
    refine ⟨cap, Builtin.zeroCells (z.den ρ).cells (cap - (sLen + m)), hge, ?_, ?_⟩
    · rw [zeroCells_size, z4]; simp only [List.size_toArray, denL_length, z3]
    · unfold Builtin.append_
      have e1 := hold w.drew rfl
      have e2 := S.first m (Nat.le_refl _) w.drew rfl
      rcases ht' with ⟨e', h'⟩ | h'
      all_goals
        simp [run_underlying ht, he.run_size, run_underlying h', S.lenOf, hc, run_typeInfo_of he.info, hb0, hcap, Question.forced, e1, e2, run_zeroValue_of he.info z2, newRow, cap]

/-- Old rows and new ones in one row of cells. -/
theorem rows_joined {s len m cap : Nat} {X rest : Array Value} {Y : List Value} {row rowY : Nat → List SV} (hX : X.size = len * s) (hY : Y.length = m * s)
    (h1 : ∀ j, j < len → (row j).length = s ∧ ∀ q, q < s → X[j * s + q]? = ((row j)[q]?).map (SV.den ρ)) (h2 : ∀ j, j < m → (rowY j).length = s ∧ ∀ q, q < s → Y[j * s + q]? = ((rowY j)[q]?).map (SV.den ρ)) :
    ∀ j, j < len + m → (if j < len then row j else rowY (j - len)).length = s ∧ ∀ q, q < s → (X ++ Y.toArray ++ rest)[j * s + q]? = ((if j < len then row j else rowY (j - len))[q]?).map (SV.den ρ) := by
  intro j hj
  by_cases hjl : j < len
  · rw [if_pos hjl]
    refine ⟨(h1 j hjl).1, fun q hq => ?_⟩
    have : (j + 1) * s ≤ len * s := Nat.mul_le_mul_right _ hjl
    rw [Nat.add_mul, Nat.one_mul] at this
    rw [Array.append_assoc, Array.getElem?_append_left (by omega), (h1 j hjl).2 q hq]
  · rw [if_neg hjl]
    refine ⟨(h2 (j - len) (by omega)).1, fun q hq => ?_⟩
    have h3 : (j - len + 1) * s ≤ m * s := Nat.mul_le_mul_right _ (by omega)
    rw [Nat.add_mul, Nat.one_mul] at h3
    have h4 : j * s = len * s + (j - len) * s := by rw [← Nat.add_mul]; congr 1; omega
    rw [Array.getElem?_append_left (by simp only [Array.size_append, List.size_toArray]; omega), Array.getElem?_append_right (by omega)]
    have : j * s + q - X.size = (j - len) * s + q := by omega
    rw [this, List.getElem?_toArray, (h2 (j - len) (by omega)).2 q hq]

theorem Src.rows {s m : Nat} {rowY : Nat → List SV} {v : Value} (S : Src A P ρ w s m rowY v) : ∀ j, j < m → (rowY j).length = s ∧ ∀ q, q < s → (SV.denL ρ (rowsL rowY m))[j * s + q]? = ((rowY j)[q]?).map (SV.den ρ) :=
  fun j hj => ⟨S.len j hj, fun q hq => by rw [denL_get, rowsL_get m S.len j q hj hq]⟩

def Outcome (P : Program) (B : Nat → Prop) (nid : Nat) (ρ : Val) (H : Heap) (w : World) (K : SV → Heap → Prop) (run : Result Value) : Prop :=
  ∃ w' ρ' r H', run = .ok (r.den ρ') w' ∧ Moved ⟨fun i => i < nid, B⟩ ⟨fun i => i < nid + 8, B⟩ ρ H w ρ' H' r w' ∧ K r H'

section
variable {B : Nat → Prop} {nid : Nat} {H : Heap} {K : SV → Heap → Prop}

/-- A slice in a new block, in the place of the name id's. -/
theorem made_new (hH : HOK ⟨fun i => i < nid, B⟩ ρ H w) {H0 : Heap} (h0 : ∀ k so, look k H0 = some so → look k H = some so) {ob : Obj} {so : SO} {s n cap : Nat} (hin : so.In ⟨fun i => i < nid, B⟩ ρ) (hs : so.sat ρ ob) (hn : n ≤ cap)
    (hK : K (.sl nid 0 s n cap) ((nid, so) :: H0)) : Outcome P B nid ρ H w K (.ok (.slice (some ⟨w.heap.size, 0, none⟩) n cap) (w.drew.alloc ob)) := by
  have hfresh : ¬ (⟨fun i => i < nid, B⟩ : Names).b nid := fun h => Nat.lt_irrefl _ h
  have hb : ∀ i, (⟨fun i => i < nid, B⟩ : Names).b i → (⟨fun i => i < nid + 8, B⟩ : Names).b i := fun i hi => Nat.lt_of_lt_of_le hi (Nat.le_add_right _ _)
  have hag : ρ.agree ⟨fun i => i < nid, B⟩ (upd ρ nid (some w.heap.size)) := upd_agree hfresh
  have hwl : ∀ (k : Nat), k < w.heap.size → (w.drew.alloc ob).heap[k]? = w.heap[k]? := fun k hk => heap_alloc_old w.drew ob k hk
  have hlt : ∀ b j so, look j H0 = some so → ρ.b j = some b → b < w.heap.size := fun b j so hj hb' => hH.lt (h0 j so hj) hb'
  refine ⟨w.drew.alloc ob, upd ρ nid (some w.heap.size), .sl nid 0 s n cap, _, ?_, ⟨hag, ?_, ?_, ?_, ⟨rfl, rfl, rfl, ?_, fun k hk _ => hwl k hk⟩⟩, hK⟩
  · simp [SV.den, upd]
  · exact ⟨show nid < nid + 8 by omega, fun hn => by simp [upd] at hn, hn⟩
  · refine hH.put h0 hfresh hb (show nid < nid + 8 by omega) (fun t h => h) (fun b j so hj hb' => hwl b (hlt b j so hj hb')) (SO.In_agree (A := ⟨fun i => i < nid, B⟩) hag hb (fun t h => h) hin) (Or.inr ⟨w.heap.size, ob, rfl, heap_alloc_new w.drew ob, SO.sat_agree hag hin hs, fun j so hj hb' => ?_⟩)
    exact Nat.lt_irrefl _ (hlt _ j so hj hb')
  · rintro b ⟨j, sj, hj, hr, e⟩
    by_cases hj' : j = nid
    · subst hj'; simp [upd] at e; exact Or.inl (by omega)
    · rw [look_cons, if_neg hj'] at hj
      exact Or.inr ⟨j, sj, h0 j sj hj, hr, by simpa [upd, hj'] using e⟩
  · simp

/-- No slice at all. -/
theorem made_nil (hH : HOK ⟨fun i => i < nid, B⟩ ρ H w) {H0 : Heap} (h0 : ∀ k so, look k H0 = some so → look k H = some so) {s s' c i T : Nat} {row : Nat → List SV}
    (hK : K (.sl nid i s 0 0) ((nid, .view s' 0 c row T) :: H0)) : Outcome P B nid ρ H w K (.ok (.slice none 0 0) w) := by
  have hfresh : ¬ (⟨fun i => i < nid, B⟩ : Names).b nid := fun h => Nat.lt_irrefl _ h
  have hb : ∀ i, (⟨fun i => i < nid, B⟩ : Names).b i → (⟨fun i => i < nid + 8, B⟩ : Names).b i := fun i hi => Nat.lt_of_lt_of_le hi (Nat.le_add_right _ _)
  have hag : ρ.agree ⟨fun i => i < nid, B⟩ (upd ρ nid none) := upd_agree hfresh
  refine ⟨w, upd ρ nid none, .sl nid i s 0 0, _, ?_, ⟨hag, ?_, ?_, ?_, FrameBut.refl _ _⟩, hK⟩
  · simp [SV.den, upd]
  · exact ⟨show nid < nid + 8 by omega, fun _ => ⟨rfl, rfl⟩, Nat.le_refl _⟩
  · exact hH.put h0 hfresh hb (show nid < nid + 8 by omega) (fun t h => h) (fun b j so _ _ => rfl) (fun i hi => absurd hi (Nat.not_lt_zero i)) (Or.inl ⟨rfl, _, _, _, _, rfl⟩)
  · rintro b ⟨j, sj, hj, hr, e⟩
    by_cases hj' : j = nid
    · subst hj'; simp [upd] at e
    · rw [look_cons, if_neg hj'] at hj
      exact Or.inr ⟨j, sj, h0 j sj hj, hr, by simpa [upd, hj'] using e⟩

/-- The block of the name id, written, under a new name. -/
theorem made_in (hH : HOK ⟨fun i => i < nid, B⟩ ρ H w) {id b : Nat} {so so' : SO} {ob' : Obj} (hl : look id H = some so) (hnr : so.isRo = false) (hid : ρ.b id = some b) {s n cap i : Nat} (hin : so'.In ⟨fun i => i < nid, B⟩ ρ) (hs : so'.sat ρ ob') (hn : n ≤ cap)
    (hK : K (.sl nid i s n cap) ((nid, so') :: del id H)) : Outcome P B nid ρ H w K (.ok (.slice (some ⟨b, i * s, none⟩) n cap) (setBlk w b ob')) := by
  have hfresh : ¬ (⟨fun i => i < nid, B⟩ : Names).b nid := fun h => Nat.lt_irrefl _ h
  have hb : ∀ i, (⟨fun i => i < nid, B⟩ : Names).b i → (⟨fun i => i < nid + 8, B⟩ : Names).b i := fun i hi => Nat.lt_of_lt_of_le hi (Nat.le_add_right _ _)
  have hag : ρ.agree ⟨fun i => i < nid, B⟩ (upd ρ nid (some b)) := upd_agree hfresh
  have hblk : Blks ρ H b := ⟨id, so, hl, hnr, hid⟩
  have hlt : b < w.heap.size := hH.ltB hblk
  have h0 : ∀ k so, look k (del id H) = some so → look k H = some so := fun k so hk => by
    rw [look_del] at hk; split at hk
    · cases hk
    · exact hk
  have notb : ∀ j sj, look j (del id H) = some sj → ρ.b j ≠ some b := by
    intro j sj hj e
    rw [look_del] at hj
    split at hj
    · cases hj
    · rename_i hne
      rcases hH.inj j id sj so b hj hl e hid with e3 | ⟨_, e3⟩
      · exact hne e3
      · rw [hnr] at e3; cases e3
  refine ⟨setBlk w b ob', upd ρ nid (some b), .sl nid i s n cap, _, ?_, ⟨hag, ?_, ?_, ?_, ⟨rfl, rfl, rfl, by rw [setBlk_size]; exact Nat.le_refl _, fun k hk hm => ?_⟩⟩, hK⟩
  · simp [SV.den, upd]
  · exact ⟨show nid < nid + 8 by omega, fun hn => by simp [upd] at hn, hn⟩
  · refine hH.put h0 hfresh hb (show nid < nid + 8 by omega) (fun t h => h) (fun b' j so hj hb' => ?_) (SO.In_agree (A := ⟨fun i => i < nid, B⟩) hag hb (fun t h => h) hin) (Or.inr ⟨b, ob', rfl, by rw [setBlk_get hlt, if_pos rfl], SO.sat_agree hag hin hs, notb⟩)
    rw [setBlk_get hlt, if_neg]; intro e; subst e; exact notb j so hj hb'
  · rintro b' ⟨j, sj, hj, hr, e⟩
    by_cases hj' : j = nid
    · subst hj'; simp [upd] at e; subst e; exact Or.inr hblk
    · rw [look_cons, if_neg hj'] at hj
      exact Or.inr ⟨j, sj, h0 j sj hj, hr, by simpa [upd, hj'] using e⟩
  · rw [setBlk_get hlt, if_neg]; intro e; subst e; exact hm hblk

theorem appRows_zero (i len : Nat) (row rowY : Nat → List SV) (j : Nat) : appRows i 0 len row rowY j = if j < len then row (i + j) else rowY (j - len) := by
  unfold appRows
  cases i <;> simp
theorem appRows_in (i len : Nat) (row rowY : Nat → List SV) (j : Nat) : appRows i i len row rowY j = if j < i + len then row j else rowY (j - i - len) := by
  cases i with
  | zero => simp [appRows]
  | succ i =>
    simp only [appRows]
    by_cases h1 : j < i + 1
    · rw [if_pos h1, if_pos (by omega)]
    · rw [if_neg h1]
      by_cases h2 : j < i + 1 + len
      · rw [if_pos h2, if_pos h2]; congr 1; omega
      · rw [if_neg h2, if_neg h2]

theorem outcome_set' (hH : HOK ⟨fun i => i < nid, B⟩ ρ H w) {id b : Nat} {so so' : SO} {ob' : Obj} (hl : look id H = some so) (hnr : so.isRo = false) (hnr' : so'.isRo = false) (hid : ρ.b id = some b) (ho : ρ.o id = 0) (hin : so'.In ⟨fun i => i < nid, B⟩ ρ) (hs : so'.sat ρ ob') {r : SV} (hr : r.In ⟨fun i => i < nid, B⟩ ρ)
    (hK : K r ((id, so') :: H)) : Outcome P B nid ρ H w K (.ok (r.den ρ) (setBlk w b ob')) := by
  have hb : ∀ i, i < nid → i < nid + 8 := fun i hi => by omega
  obtain ⟨m1, m2, m3⟩ := hH.set hl hnr hnr' hid ho hin hs
  exact ⟨_, ρ, r, _, rfl, ⟨Val.agree_refl _ _, SV.InO_of_In (SV.In_agree (A := ⟨fun i => i < nid, B⟩) (B := ⟨fun i => i < nid + 8, B⟩) (Val.agree_refl _ _) hb (fun t h => h) r hr), m1.mono (Val.agree_refl _ _) hb (fun t h => h), fun k hk => Or.inr (m3 k hk), m2⟩, hK⟩

theorem outcome_nil' (hH : HOK ⟨fun i => i < nid, B⟩ ρ H w) {id : Nat} {so : SO} {s c T : Nat} {row : Nat → List SV} (hl : look id H = some so) (hnr : so.isRo = false) (hid : ρ.b id = none) {r : SV} (hr : r.In ⟨fun i => i < nid, B⟩ ρ)
    (hK : K r ((id, .view s 0 c row T) :: H)) : Outcome P B nid ρ H w K (.ok (r.den ρ) w) := by
  have hb : ∀ i, i < nid → i < nid + 8 := fun i hi => by omega
  have old : ∀ k sk, look k ((id, SO.view s 0 c row T) :: H) = some sk → ∃ sk', look k H = some sk' ∧ sk'.isRo = sk.isRo := by
    intro k sk hk
    rw [look_cons] at hk
    split at hk
    · rename_i e; subst e; obtain rfl := Option.some.inj hk; exact ⟨so, hl, by rw [hnr]; rfl⟩
    · exact ⟨sk, hk, rfl⟩
  have h2 := hH.mono (B := ⟨fun i => i < nid + 8, B⟩) (Val.agree_refl _ ρ) hb (fun t h => h)
  refine ⟨w, ρ, r, _, rfl, ⟨Val.agree_refl _ _, SV.InO_of_In (SV.In_agree (A := ⟨fun i => i < nid, B⟩) (B := ⟨fun i => i < nid + 8, B⟩) (Val.agree_refl _ _) hb (fun t h => h) r hr), ⟨fun k sk hk => ?_, fun i j si sj b hi hj e1 e2 => ?_⟩, fun b ⟨j, sj, hj, hrr, e⟩ => ?_, FrameBut.refl _ _⟩, hK⟩
  · rw [look_cons] at hk
    split at hk
    · rename_i e; subst e
      obtain rfl := Option.some.inj hk
      exact ⟨(h2.here _ _ hl).1, fun i hi => absurd hi (Nat.not_lt_zero i), Or.inr (Or.inl ⟨hid, Or.inl ⟨_, _, _, _, rfl⟩⟩)⟩
    · exact h2.here k sk hk
  · obtain ⟨si', g1, g2⟩ := old i si hi
    obtain ⟨sj', g3, g4⟩ := old j sj hj
    rw [← g2, ← g4]; exact h2.inj i j si' sj' b g1 g3 e1 e2
  · obtain ⟨sj', g1, g2⟩ := old j sj hj
    exact Or.inr ⟨j, sj', g1, by rw [g2]; exact hrr, e⟩


theorem appendSame_sound {t t' e : TypeId} {d : TD} {i : TypeInfo} {ud : TypeDesc} {z : SV} {id i0 s' len cap0 : Nat} {y : SV} {ty' : TypeId} (hH : HOK ⟨fun i => i < nid, B⟩ ρ H w) (hx : (SV.sl id i0 s' len cap0).In ⟨fun i => i < nid, B⟩ ρ) (hy : y.In ⟨fun i => i < nid, B⟩ ρ)
    (ht : P.underlying t = some (.slice e)) (ht' : (∃ e', P.underlying t' = some (.slice e')) ∨ P.underlying t' = some .string) (he : TdFacts P e d i ud) (hz : d.zeroSV = some z) (hby : 1 ≤ d.bytes)
    (h : appendSame d.size d.bytes e id i0 s' len cap0 y H nid K) : Outcome P B nid ρ H w K ((Builtin.append_ #[t, t'] ty' #[(SV.sl id i0 s' len cap0).den ρ, y.den ρ]).run P w) := by
  unfold appendSame at h
  split at h
  · rename_i so hb hl
    obtain rfl := Nat.eq_of_beq_eq_true hb
    split at h
    · rename_i n c row T m rowY pre hrows hsrc
      split at h
      · rename_i hTe
        obtain rfl := Nat.eq_of_beq_eq_true hTe
        obtain ⟨hp, hin, hcap, hroom, hK1, hK2⟩ := (allX_iff _ _).1 h
        have S := srcX_sound (P := P) hH hy hsrc hp
        obtain ⟨g1, g2, g3⟩ := hH.here id so hl
        obtain ⟨r1, r2, r3⟩ := rowsOf_sat (A := ⟨fun i => i < nid, B⟩) (ρ := ρ) hrows
        have hYl : (SV.denL ρ (rowsL rowY m)).length = m * d.size := by rw [denL_length, rowsL_length m S.len]
        rcases rowsOf_at hrows g3 with ⟨b, arr, fr, e1, e0, e2, ⟨q1, q1'⟩, q2, q4⟩ | ⟨e1, e2⟩
        · have hden : (SV.sl id i0 d.size len cap0).den ρ = .slice (some ⟨b, i0 * d.size, none⟩) len cap0 := by simp [SV.den, e1, e0]
          have hrl : ∀ j, j < len → (row (i0 + j)).length = d.size := fun j hj => (q4 (i0 + j) (by omega)).1
          have hXl : (SV.denL ρ (rowsL (fun j => row (i0 + j)) len)).toArray.size = len * d.size := by simp only [List.size_toArray, denL_length, rowsL_length len hrl]
          have hold : ∀ w' : World, w'.heap = w.heap → (Builtin.firstCells d.size len (.slice (some ⟨b, i0 * d.size, none⟩) len cap0)).run P w' = .ok (SV.denL ρ (rowsL (fun j => row (i0 + j)) len)).toArray w' := by
            intro w' hw
            have e2' : w'.heap[b]? = some (.cells arr T fr) := by rw [hw]; exact e2
            simp only [Builtin.firstCells]
            refine run_loadCells_block e2' _ (by rw [denL_length, rowsL_length len hrl]) fun k hk => ?_
            rw [denL_get]
            by_cases hs0 : d.size = 0
            · rw [hs0] at hk; simp at hk
            · have hdm := Nat.div_add_mod k d.size
              have hmod := Nat.mod_lt k (Nat.pos_of_ne_zero hs0)
              have hj : k / d.size < len := by
                rw [Nat.div_lt_iff_lt_mul (Nat.pos_of_ne_zero hs0)]; exact hk
              have e4 := rowsL_get len hrl (k / d.size) (k % d.size) hj hmod
              have : k / d.size * d.size + k % d.size = k := by rw [Nat.mul_comm]; exact hdm
              rw [this] at e4
              rw [e4]
              have e5 := (q4 (i0 + k / d.size) (by omega)).2 (k % d.size) hmod
              rw [Nat.add_mul] at e5
              have : i0 * d.size + k = i0 * d.size + k / d.size * d.size + k % d.size := by omega
              rw [this, e5]
          rw [hden]
          rcases run_append (A := ⟨fun i => i < nid, B⟩) (ty' := ty') ht ht' he hz hby S (base := some ⟨b, i0 * d.size, none⟩) (sLen := len) (sCap := cap0) hold hroom with ⟨h1, h2⟩ | ⟨h1, cap, rest, h2, h3, h4⟩
          · have hsz : (i0 + len) * d.size + m * d.size ≤ arr.size := by
              rw [← Nat.add_mul]
              exact Nat.le_trans (Nat.mul_le_mul_right _ (by omega)) q1'
            have hst := run_storeCells_block (P := P) (SV.denL ρ (rowsL rowY m)) w b ((i0 + len) * d.size) 0 arr T fr e2 (by
              intro v hv
              rw [SV.denL_eq, List.mem_map] at hv
              obtain ⟨y', hy', rfl⟩ := hv
              obtain ⟨j, hj, hx'⟩ := rowsL_mem m y' hy'
              exact S.one j hj y' hx') (by rw [hYl]; omega) q2
            rw [h2]
            simp only []
            rw [addr_add, ← Nat.add_mul, hst]
            simp only [Result.andThen_ok, Nat.add_zero]
            have hd2 : (SV.sl id i0 d.size (len + m) cap0).den ρ = .slice (some ⟨b, i0 * d.size, none⟩) (len + m) cap0 := by simp [SV.den, e1, e0]
            have hkk := hK1 h1
            rw [← hd2]
            refine outcome_set' hH hl r3 rfl e1 e0 ?_ ?_ ⟨hx.1, (fun hn => by rw [e1] at hn; cases hn), h1⟩ hkk
            · intro j hj
              simp only []
              split
              · exact S.ins _ (by omega)
              · exact r1 g2 j hj
            · refine ⟨_, fr, rfl, ⟨q1, by rw [arrSet_size]; exact q1'⟩, by rw [arrSet_size]; exact q2, fun j hj => ?_⟩
              simp only []
              by_cases hjm : i0 + len ≤ j ∧ j < i0 + len + m
              · rw [if_pos hjm]
                have hj1 : (j - (i0 + len) + 1) * d.size ≤ m * d.size := Nat.mul_le_mul_right _ (by omega)
                rw [Nat.add_mul _ 1, Nat.one_mul] at hj1
                have hj2 : j * d.size = (i0 + len) * d.size + (j - (i0 + len)) * d.size := by rw [← Nat.add_mul]; congr 1; omega
                refine ⟨S.len _ (by omega), fun q hq => ?_⟩
                rw [arrSet_get _ _ _ _ (by rw [hYl]; omega), if_pos (by rw [hYl]; omega)]
                have : j * d.size + q - (i0 + len) * d.size = (j - (i0 + len)) * d.size + q := by omega
                rw [this, (S.rows _ (by omega)).2 q hq]
              · rw [if_neg hjm]
                refine ⟨(q4 j hj).1, fun q hq => ?_⟩
                have : ¬ ((i0 + len) * d.size ≤ j * d.size + q ∧ j * d.size + q < (i0 + len) * d.size + (SV.denL ρ (rowsL rowY m)).length) := by
                  rw [hYl]
                  rintro ⟨a1, a2⟩
                  rw [← Nat.add_mul] at a2
                  apply hjm
                  constructor
                  · rcases Nat.lt_or_ge j (i0 + len) with hlt | hge
                    · have := Nat.mul_le_mul_right d.size (show j + 1 ≤ i0 + len from hlt)
                      rw [Nat.add_mul j 1, Nat.one_mul] at this
                      omega
                    · exact hge
                  · rcases Nat.lt_or_ge j (i0 + len + m) with hlt | hge
                    · exact hlt
                    · have := Nat.mul_le_mul_right d.size hge
                      omega
                rw [arrSet_get _ _ _ _ (by rw [hYl]; omega), if_neg this, (q4 j hj).2 q hq]
          · rw [h4]
            refine made_new hH (so := .view d.size (len + m) cap (appRows i0 0 len row rowY) T) (fun k so hk => hk) ?_ ?_ h2 (hK2 h1 cap h2)
            · intro j hj
              rw [appRows_zero]
              split
              · exact r1 g2 _ (by omega)
              · exact S.ins _ (by omega)
            · have hj := rows_joined (ρ := ρ) (s := d.size) (len := len) (m := m) (cap := cap) (rest := rest) (row := fun j => row (i0 + j)) hXl hYl (fun j hj => ⟨hrl j hj, fun q hq => by
                simp only [List.getElem?_toArray, denL_get, rowsL_get len hrl j q hj hq]⟩) S.rows
              refine ⟨_, (0, 0), rfl, ⟨h2, ?_⟩, by intro k _; simp, fun j hjm => ?_⟩
              · simp only [Array.size_append, hXl, List.size_toArray, hYl, h3]
                have : cap * d.size = len * d.size + m * d.size + (cap - (len + m)) * d.size := by rw [← Nat.add_mul, ← Nat.add_mul]; congr 1; omega
                omega
              · rw [appRows_zero]; exact hj j hjm
        · obtain ⟨rfl, rfl⟩ := hx.2.1 e1
          obtain rfl : m = 0 := by omega
          obtain rfl : n = 0 := e2
          have hden : (SV.sl id i0 d.size 0 0).den ρ = .slice none 0 0 := by simp [SV.den, e1]
          rw [hden]
          rcases run_append (A := ⟨fun i => i < nid, B⟩) (ty' := ty') ht ht' he hz hby S (base := none) (sLen := 0) (sCap := 0) (old := #[]) (fun w' _ => rfl) (by simp) with ⟨h1, h2⟩ | ⟨h1, cap, rest, h2, h3, h4⟩
          · rw [h2]
            have hd2 : (SV.sl id i0 d.size (0 + 0) 0).den ρ = .slice none (0 + 0) 0 := by simp [SV.den, e1]
            simp only []
            rw [← hd2]
            exact outcome_nil' hH hl r3 e1 ⟨hx.1, fun _ => ⟨rfl, rfl⟩, Nat.le_refl _⟩ (hK1 h1)
          · omega
      · exact h.elim
    · exact h.elim
  · exact h.elim

theorem appendX_sound {t t' e : TypeId} {d : TD} {i : TypeInfo} {ud : TypeDesc} {z : SV} {x y : SV} {ty' : TypeId} (hH : HOK ⟨fun i => i < nid, B⟩ ρ H w) (hx : x.In ⟨fun i => i < nid, B⟩ ρ) (hy : y.In ⟨fun i => i < nid, B⟩ ρ)
    (ht : P.underlying t = some (.slice e)) (ht' : (∃ e', P.underlying t' = some (.slice e')) ∨ P.underlying t' = some .string) (he : TdFacts P e d i ud) (hz : d.zeroSV = some z) (hby : 1 ≤ d.bytes)
    (h : appendX d.size d.bytes e x y H nid K) : Outcome P B nid ρ H w K ((Builtin.append_ #[t, t'] ty' #[x.den ρ, y.den ρ]).run P w) := by
  unfold appendX at h
  split at h
  · -- nil
    split at h
    · rename_i m rowY pre hsrc
      obtain ⟨hp, hroom, hK⟩ := (allX_iff _ _).1 h
      have S := srcX_sound (P := P) hH hy hsrc hp
      rcases run_append (A := ⟨fun i => i < nid, B⟩) (ty' := ty') ht ht' he hz hby S (base := none) (sLen := 0) (sCap := 0) (old := #[]) (fun w' _ => rfl) (by simpa using hroom) with ⟨h1, h2⟩ | ⟨h1, cap, rest, h2, h3, h4⟩
      · obtain rfl : m = 0 := by omega
        have hrun : (Builtin.append_ #[t, t'] ty' #[(SV.g (.slice none 0 0)).den ρ, y.den ρ]).run P w = .ok (.slice none 0 0) w := by
          rw [show (SV.g (.slice none 0 0)).den ρ = .slice none 0 0 from rfl]; simpa using h2
        rw [hrun]
        exact made_nil hH (fun k so hk => hk) (hK 0 (Nat.le_refl _))
      · have hrun : (Builtin.append_ #[t, t'] ty' #[(SV.g (.slice none 0 0)).den ρ, y.den ρ]).run P w = _ := h4
        rw [hrun]
        simp only [Nat.zero_add] at h1 h2 h3 ⊢
        refine made_new hH (so := .view d.size m cap rowY e) (fun k so hk => hk) (fun j hj => S.ins j hj) ?_ h2 (hK cap h2)
        have hYl : (SV.denL ρ (rowsL rowY m)).length = m * d.size := by rw [denL_length, rowsL_length m S.len]
        have hj := rows_joined (ρ := ρ) (s := d.size) (len := 0) (m := m) (cap := cap) (X := #[]) (rest := rest) (row := fun _ => []) (by simp) hYl (fun j hj => by omega) S.rows
        refine ⟨_, (0, 0), rfl, ⟨h2, ?_⟩, by intro k _; simp, fun j hjm => ?_⟩
        · simp only [Array.size_append, List.size_toArray, hYl, h3]
          have : cap * d.size = m * d.size + (cap - m) * d.size := by rw [← Nat.add_mul]; congr 1; omega
          simp; omega
        · have := hj j (by omega)
          simpa using this
    · exact h.elim
  · rename_i id i0 s' len cap0
    split at h
    · exact appendSame_sound hH hx hy ht ht' he hz hby h
    split at h
    · rename_i so hb hl
      obtain rfl := Nat.eq_of_beq_eq_true hb
      split at h
      · rename_i n c row T m rowY pre hrows hsrc
        split at h
        · rename_i hTe
          obtain rfl := Nat.eq_of_beq_eq_true hTe
          obtain ⟨hp, hin, hcap, hroom, hoff⟩ := (allX_iff _ _).1 h
          obtain ⟨hK0, hKi⟩ := appOff_of hoff
          have S := srcX_sound (P := P) hH hy hsrc hp
          obtain ⟨g1, g2, g3⟩ := hH.here id so hl
          obtain ⟨r1, r2, r3⟩ := rowsOf_sat (A := ⟨fun i => i < nid, B⟩) (ρ := ρ) hrows
          have h0 : ∀ k so, look k (del id H) = some so → look k H = some so := fun k so hk => by
            rw [look_del] at hk; split at hk
            · cases hk
            · exact hk
          have hYl : (SV.denL ρ (rowsL rowY m)).length = m * d.size := by rw [denL_length, rowsL_length m S.len]
          rcases rowsOf_at hrows g3 with ⟨b, arr, fr, e1, e0, e2, ⟨q1, q1'⟩, q2, q4⟩ | ⟨e1, e2⟩
          · skip
            have hden : (SV.sl id i0 d.size len cap0).den ρ = .slice (some ⟨b, i0 * d.size, none⟩) len cap0 := by simp [SV.den, e1, e0]
            have hrl : ∀ j, j < len → (row (i0 + j)).length = d.size := fun j hj => (q4 (i0 + j) (by omega)).1
            have hXl : (SV.denL ρ (rowsL (fun j => row (i0 + j)) len)).toArray.size = len * d.size := by simp only [List.size_toArray, denL_length, rowsL_length len hrl]
            have hold : ∀ w' : World, w'.heap = w.heap → (Builtin.firstCells d.size len (.slice (some ⟨b, i0 * d.size, none⟩) len cap0)).run P w' = .ok (SV.denL ρ (rowsL (fun j => row (i0 + j)) len)).toArray w' := by
              intro w' hw
              have e2' : w'.heap[b]? = some (.cells arr T fr) := by rw [hw]; exact e2
              simp only [Builtin.firstCells]
              refine run_loadCells_block e2' _ (by rw [denL_length, rowsL_length len hrl]) fun k hk => ?_
              rw [denL_get]
              by_cases hs0 : d.size = 0
              · rw [hs0] at hk; simp at hk
              · have hdm := Nat.div_add_mod k d.size
                have hmod := Nat.mod_lt k (Nat.pos_of_ne_zero hs0)
                have hj : k / d.size < len := by
                  rw [Nat.div_lt_iff_lt_mul (Nat.pos_of_ne_zero hs0)]; exact hk
                have e4 := rowsL_get len hrl (k / d.size) (k % d.size) hj hmod
                have : k / d.size * d.size + k % d.size = k := by rw [Nat.mul_comm]; exact hdm
                rw [this] at e4
                rw [e4]
                have e5 := (q4 (i0 + k / d.size) (by omega)).2 (k % d.size) hmod
                rw [Nat.add_mul] at e5
                have : i0 * d.size + k = i0 * d.size + k / d.size * d.size + k % d.size := by omega
                rw [this, e5]
            rw [hden]
            rcases run_append (A := ⟨fun i => i < nid, B⟩) (ty' := ty') ht ht' he hz hby S (base := some ⟨b, i0 * d.size, none⟩) (sLen := len) (sCap := cap0) hold hroom with ⟨h1, h2⟩ | ⟨h1, cap, rest, h2, h3, h4⟩
            · -- there is room
              have hsz : (i0 + len) * d.size + m * d.size ≤ arr.size := by
                rw [← Nat.add_mul]
                exact Nat.le_trans (Nat.mul_le_mul_right _ (by omega)) q1'
              have hst := run_storeCells_block (P := P) (SV.denL ρ (rowsL rowY m)) w b ((i0 + len) * d.size) 0 arr T fr e2 (by
                intro v hv
                rw [SV.denL_eq, List.mem_map] at hv
                obtain ⟨y', hy', rfl⟩ := hv
                obtain ⟨j, hj, hx'⟩ := rowsL_mem m y' hy'
                exact S.one j hj y' hx') (by rw [hYl]; omega) q2
              rw [h2]
              simp only []
              rw [addr_add, ← Nat.add_mul, hst]
              simp only [Result.andThen_ok, Nat.add_zero]
              refine made_in hH hl r3 e1 (so' := .view d.size (i0 + (len + m)) (i0 + cap0) (appRows i0 i0 len row rowY) T) ?_ ?_ h1 (by have := hKi cap0 h1; rwa [addOff_eq, addOff_eq] at this)
              · intro j hj
                rw [appRows_in]
                split
                · exact r1 g2 j (by omega)
                · exact S.ins _ (by omega)
              · refine ⟨_, fr, rfl, ⟨by omega, by rw [arrSet_size]; exact Nat.le_trans (Nat.mul_le_mul_right _ hcap) q1'⟩, by rw [arrSet_size]; exact q2, fun j hj => ?_⟩
                rw [appRows_in]
                by_cases hjl : j < i0 + len
                · rw [if_pos hjl]
                  refine ⟨(q4 j (by omega)).1, fun q hq => ?_⟩
                  have hj1 : (j + 1) * d.size ≤ (i0 + len) * d.size := Nat.mul_le_mul_right _ hjl
                  rw [Nat.add_mul j 1, Nat.one_mul] at hj1
                  rw [arrSet_get _ _ _ _ (by rw [hYl]; omega), if_neg (by omega), (q4 j (by omega)).2 q hq]
                · rw [if_neg hjl]
                  have hjm : j - i0 - len < m := by omega
                  refine ⟨S.len _ hjm, fun q hq => ?_⟩
                  have hj1 : (j - i0 - len + 1) * d.size ≤ m * d.size := Nat.mul_le_mul_right _ hjm
                  rw [Nat.add_mul _ 1, Nat.one_mul] at hj1
                  have hj2 : j * d.size = (i0 + len) * d.size + (j - i0 - len) * d.size := by rw [← Nat.add_mul]; congr 1; omega
                  rw [arrSet_get _ _ _ _ (by rw [hYl]; omega), if_pos (by rw [hYl]; omega)]
                  have : j * d.size + q - (i0 + len) * d.size = (j - i0 - len) * d.size + q := by omega
                  rw [this, (S.rows _ hjm).2 q hq]
            · -- it grows
              rw [h4]
              refine made_new hH (so := .view d.size (len + m) cap (appRows i0 0 len row rowY) T) h0 ?_ ?_ h2 (by have := hK0 cap h2; simpa [addOff] using this)
              · intro j hj
                rw [appRows_zero]
                split
                · exact r1 g2 _ (by omega)
                · exact S.ins _ (by omega)
              · have hj := rows_joined (ρ := ρ) (s := d.size) (len := len) (m := m) (cap := cap) (rest := rest) (row := fun j => row (i0 + j)) hXl hYl (fun j hj => ⟨hrl j hj, fun q hq => by
                  simp only [List.getElem?_toArray, denL_get, rowsL_get len hrl j q hj hq]⟩) S.rows
                refine ⟨_, (0, 0), rfl, ⟨h2, ?_⟩, by intro k _; simp, fun j hjm => ?_⟩
                · simp only [Array.size_append, hXl, List.size_toArray, hYl, h3]
                  have : cap * d.size = len * d.size + m * d.size + (cap - (len + m)) * d.size := by rw [← Nat.add_mul, ← Nat.add_mul]; congr 1; omega
                  omega
                · rw [appRows_zero]; exact hj j hjm
          · -- a nil slice by name
            obtain ⟨rfl, rfl⟩ := hx.2.1 e1
            have hden : (SV.sl id i0 d.size 0 0).den ρ = .slice none 0 0 := by simp [SV.den, e1]
            rw [hden]
            simp only [Nat.zero_add] at hroom hK0 hKi
            rcases run_append (A := ⟨fun i => i < nid, B⟩) (ty' := ty') ht ht' he hz hby S (base := none) (sLen := 0) (sCap := 0) (old := #[]) (fun w' _ => rfl) (by simpa using hroom) with ⟨h1, h2⟩ | ⟨h1, cap, rest, h2, h3, h4⟩
            · obtain rfl : m = 0 := by omega
              rw [h2]
              exact made_nil hH h0 (by have := hK0 0 (Nat.le_refl _); simpa [addOff] using this)
            · rw [h4]
              simp only [Nat.zero_add] at h1 h2 h3 ⊢
              refine made_new hH (so := .view d.size m cap (appRows i0 0 0 row rowY) T) h0 (fun j hj => by rw [appRows_zero, if_neg (by omega)]; exact S.ins _ hj) ?_ h2 (by have := hK0 cap h2; simpa [addOff] using this)
              have hj := rows_joined (ρ := ρ) (s := d.size) (len := 0) (m := m) (cap := cap) (X := #[]) (rest := rest) (row := fun _ => []) (by simp) hYl (fun j hj => by omega) S.rows
              refine ⟨_, (0, 0), rfl, ⟨h2, ?_⟩, by intro k _; simp, fun j hjm => ?_⟩
              · simp only [Array.size_append, List.size_toArray, hYl, h3]
                have : cap * d.size = m * d.size + (cap - m) * d.size := by rw [← Nat.add_mul]; congr 1; omega
                simp; omega
              · have := hj j (by omega)
                rw [appRows_zero]
                simpa using this
        · exact h.elim
      · exact h.elim
    · rename_i hb hl
      obtain rfl := Nat.eq_of_beq_eq_true hb
      split at h
      · rename_i m rowY pre hsrc
        obtain ⟨hp, hc0, hm1, hroom, hK⟩ := (allX_iff _ _).1 h
        subst hc0
        obtain rfl : len = 0 := Nat.le_zero.1 hx.2.2
        have S := srcX_sound (P := P) hH hy hsrc hp
        have hYl : (SV.denL ρ (rowsL rowY m)).length = m * d.size := by rw [denL_length, rowsL_length m S.len]
        obtain ⟨base, hden⟩ : ∃ base, (SV.sl id i0 d.size 0 0).den ρ = .slice base 0 0 := by
          cases hid : ρ.b id with
          | none => exact ⟨none, by simp [SV.den, hid]⟩
          | some b => exact ⟨some ⟨b, ρ.o id + i0 * d.size, none⟩, by simp [SV.den, hid]⟩
        rw [hden]
        have hold : ∀ w' : World, w'.heap = w.heap → (Builtin.firstCells d.size 0 (.slice base 0 0)).run P w' = .ok #[] w' := by
          intro w' _
          cases base with
          | none => rfl
          | some a => simp only [Builtin.firstCells, Nat.zero_mul]; rfl
        rcases run_append (A := ⟨fun i => i < nid, B⟩) (ty' := ty') ht ht' he hz hby S (base := base) (sLen := 0) (sCap := 0) (old := #[]) hold (by simpa using hroom) with ⟨h1, h2⟩ | ⟨h1, cap, rest, h2, h3, h4⟩
        · omega
        · rw [h4]
          simp only [Nat.zero_add] at h1 h2 h3 ⊢
          refine made_new hH (so := .view d.size m cap rowY e) (fun k so hk => hk) (fun j hj => S.ins j hj) ?_ h2 (hK cap h2)
          have hj := rows_joined (ρ := ρ) (s := d.size) (len := 0) (m := m) (cap := cap) (X := #[]) (rest := rest) (row := fun _ => []) (by simp) hYl (fun j hj => by omega) S.rows
          refine ⟨_, (0, 0), rfl, ⟨h2, ?_⟩, by intro k _; simp, fun j hjm => ?_⟩
          · simp only [Array.size_append, List.size_toArray, hYl, h3]
            have : cap * d.size = m * d.size + (cap - m) * d.size := by rw [← Nat.add_mul]; congr 1; omega
            simp; omega
          · have := hj j (by omega)
            simpa using this
      · exact h.elim
    · exact h.elim
  · exact h.elim

end
end
end Go.Eng
