/- The engine, part K: what a symbolic state says of an activation and a world; how it goes on. -/
import Derived.Test.YtghbejmnnfoamaaEngI
import Derived.Test.YtghbejmnnfoamaaEngJ
set_option linter.unusedVariables false
set_option linter.unusedSimpArgs false
namespace Go.Eng
open Go

/-- Outside the blocks M the memory that was there is as it was; the streams are. -/
structure FrameBut (M : Nat → Prop) (w w' : World) : Prop where
  os : w'.os = w.os
  tape : w'.tape = w.tape
  output : w'.output = w.output
  size : w.heap.size ≤ w'.heap.size
  block : ∀ k, k < w.heap.size → ¬ M k → w'.heap[k]? = w.heap[k]?

theorem FrameBut.refl (M : Nat → Prop) (w : World) : FrameBut M w w := ⟨rfl, rfl, rfl, Nat.le_refl _, fun _ _ _ => rfl⟩
theorem FrameBut.trans {M : Nat → Prop} {a b c : World} (h : FrameBut M a b) (h' : FrameBut M b c) : FrameBut M a c :=
  ⟨h'.os.trans h.os, h'.tape.trans h.tape, h'.output.trans h.output, Nat.le_trans h.size h'.size, fun k hk hm => (h'.block k (Nat.lt_of_lt_of_le hk h.size) hm).trans (h.block k hk hm)⟩
theorem FrameBut.mono {M M' : Nat → Prop} {w w' : World} (h : FrameBut M w w') (hm : ∀ k, k < w.heap.size → M k → M' k) : FrameBut M' w w' :=
  ⟨h.os, h.tape, h.output, h.size, fun k hk hn => h.block k hk fun hk' => hn (hm k hk hk')⟩
/-- From an older world: blocks that came since are one's own. -/
theorem FrameBut.trans' {M N : Nat → Prop} {a b c : World} (h : FrameBut M a b) (h' : FrameBut N b c) (hn : ∀ k, N k → a.heap.size ≤ k ∨ M k) : FrameBut M a c :=
  ⟨h'.os.trans h.os, h'.tape.trans h.tape, h'.output.trans h.output, Nat.le_trans h.size h'.size, fun k hk hm =>
    (h'.block k (Nat.lt_of_lt_of_le hk h.size) fun hk' => (hn k hk').elim (fun h => absurd hk (by omega)) hm).trans (h.block k hk hm)⟩
/-- All old memory is as it was. -/
def Ext (w w' : World) : Prop := FrameBut (fun _ => False) w w'
theorem Ext.refl (w : World) : Ext w w := FrameBut.refl _ w
theorem Ext.trans {a b c : World} (h : Ext a b) (h' : Ext b c) : Ext a c := FrameBut.trans h h'
theorem Ext.frame {w w' : World} (h : Ext w w') (M : Nat → Prop) : FrameBut M w w' := FrameBut.mono h (fun _ _ h => h.elim)

structure HOK (A : Names) (ρ : Val) (H : Heap) (w : World) : Prop where
  here : ∀ id so, look id H = some so → A.b id ∧ so.In A ρ ∧ At ρ w id so
  inj : ∀ i j si sj b, look i H = some si → look j H = some sj → ρ.b i = some b → ρ.b j = some b → i = j ∨ (si.isRo = true ∧ sj.isRo = true)

/-- The blocks of a symbolic heap that may be written. -/
def Blks (ρ : Val) (H : Heap) : Nat → Prop := fun b => ∃ j so, look j H = some so ∧ so.isRo = false ∧ ρ.b j = some b

/-- How an operation or a call moves the symbolic memory on; its result. -/
structure Moved (A A' : Names) (ρ : Val) (H : Heap) (w : World) (ρ' : Val) (H' : Heap) (r : SV) (w' : World) : Prop where
  agree : ρ.agree A ρ'
  res : r.InO A' ρ'
  hok : HOK A' ρ' H' w'
  own : ∀ b, Blks ρ' H' b → w.heap.size ≤ b ∨ Blks ρ H b
  frame : FrameBut (Blks ρ H) w w'

/-- What memory holds from the beginning on (tables): so it stays as long as the blocks G are not written. -/
structure Lay where
  ok : World → Prop
  G : Nat → Prop
  lt : ∀ {w : World} {b : Nat}, ok w → G b → b < w.heap.size
  keep : ∀ {M : Nat → Prop} {w w' : World}, ok w → FrameBut M w w' → (∀ b, M b → ¬ G b) → ok w'
def Lay.none : Lay := ⟨fun _ => True, fun _ => False, fun _ h => h.elim, fun _ _ _ => trivial⟩

structure Ent where
  w0 : World
  M : Nat → Prop
  ρ0 : Val
  A0 : Names
  Λ : Lay
  lok : Λ.ok w0
  lap : ∀ b, M b → ¬ Λ.G b

def SS.names (s : SS) : Names := ⟨fun i => i < s.nx, fun t => t < s.tb ∨ (look t s.T).isSome = true⟩
def SS.names' (s : SS) : Names := ⟨fun i => i < s.nx + 8, fun t => t < s.tb ∨ (look t s.T).isSome = true⟩

structure SatR (E : Ent) (n : Nat) (s : SS) (ρ : Val) (a : Act) (w : World) : Prop where
  defers : a.defers = []
  size : a.tmps.size = n
  slots : ∀ k v, look k s.F = some v → v.InO s.names ρ ∧ k < n ∧ a.tmps[k]? = some (v.den ρ)
  hok : HOK s.names ρ s.H w
  own : ∀ b, Blks ρ s.H b → E.w0.heap.size ≤ b ∨ E.M b
  frame : FrameBut E.M E.w0 w
  agree : E.ρ0.agree E.A0 ρ
  sub : (∀ i, E.A0.b i → i < s.nx) ∧ (∀ t, E.A0.t t → t < s.tb)
  tags : ∀ τ x, look τ s.T = some x → τ < s.nx ∧ ∀ t want, x = some (t, want) → (ρ.t τ = true ↔ a.tmps[t]? = some (.bool want))
  tb : s.tb ≤ s.nx

theorem SatR.lay {E : Ent} {n : Nat} {s : SS} {ρ : Val} {a : Act} {w : World} (h : SatR E n s ρ a w) : E.Λ.ok w ∧ ∀ b, Blks ρ s.H b → ¬ E.Λ.G b :=
  ⟨E.Λ.keep E.lok h.frame E.lap, fun b hb hg => (h.own b hb).elim (fun h1 => absurd (E.Λ.lt E.lok hg) (by omega)) (fun h1 => E.lap b h1 hg)⟩

def SatP (E : Ent) (n : Nat) (K : SS → Prop) (a : Act) (w : World) : Prop := ∃ s ρ, SatR E n s ρ a w ∧ K s

theorem look_rmT {τ d : Nat} {T : List (Nat × Option (Nat × Bool))} : (look τ (rmT d T)).isSome = (look τ T).isSome ∧ ∀ t want, look τ (rmT d T) = some (some (t, want)) → look τ T = some (some (t, want)) ∧ t ≠ d := by
  induction T with
  | nil => exact ⟨rfl, fun t want h => by simp [rmT, look] at h⟩
  | cons x r ih =>
    obtain ⟨τ', x⟩ := x
    cases x with
    | none =>
      simp only [rmT]
      rw [look_cons, look_cons]
      by_cases h : τ = τ'
      · refine ⟨by simp [h], fun t want he => ?_⟩; simp [h] at he
      · simpa only [h, if_false] using ih
    | some tw =>
      obtain ⟨t', w'⟩ := tw
      simp only [rmT]
      cases hb : Nat.beq t' d with
      | true =>
        simp only []
        rw [look_cons, look_cons]
        by_cases h : τ = τ'
        · refine ⟨by simp [h], fun t want he => ?_⟩; simp [h] at he
        · simpa only [h, if_false] using ih
      | false =>
        simp only []
        rw [look_cons, look_cons]
        by_cases h : τ = τ'
        · simp only [h, if_true]
          refine ⟨trivial, fun t want he => ?_⟩
          simp only [Option.some.injEq, Prod.mk.injEq] at he
          obtain ⟨rfl, rfl⟩ := he
          exact ⟨rfl, fun e => by subst e; rw [Nat.beq_refl] at hb; cases hb⟩
        · simpa only [h, if_false] using ih

theorem At.agree {A : Names} {ρ ρ' : Val} {w : World} {id : Nat} {so : SO} (h : At ρ w id so) (hag : ρ.agree A ρ') (h1 : A.b id) (h2 : so.In A ρ) : At ρ' w id so := by
  obtain ⟨e1, e2⟩ := hag.1 id h1
  rcases h with ⟨b, ob, g1, g2, g3, g4⟩ | ⟨g1, g2⟩ | ⟨s, n, row, b, arr, T, fr, rfl, g1, g2, g3⟩
  · exact Or.inl ⟨b, ob, by rw [e1]; exact g1, by rw [e2]; exact g2, g3, SO.sat_agree hag h2 g4⟩
  · exact Or.inr (Or.inl ⟨by rw [e1]; exact g1, g2⟩)
  · refine Or.inr (Or.inr ⟨s, n, row, b, arr, T, fr, rfl, by rw [e1]; exact g1, g2, fun i hi => ⟨(g3 i hi).1, fun j hj => ?_⟩⟩)
    rw [e2, (g3 i hi).2 j hj]
    have hr := (SV.InL_iff A ρ (row i)).1 (h2 i hi)
    cases hg : (row i)[j]? with
    | none => rfl
    | some x => simp only [Option.map_some]; rw [SV.den_agree hag x (hr x (List.mem_of_getElem? hg))]

theorem At.world {ρ : Val} {w w' : World} {id : Nat} {so : SO} (h : At ρ w id so) (hw : ∀ (b : Nat) (o : Obj), ρ.b id = some b → w.heap[b]? = some o → w'.heap[b]? = some o) : At ρ w' id so := by
  rcases h with ⟨b, ob, g1, g2, g3, g4⟩ | h | ⟨s, n, row, b, arr, T, fr, rfl, g1, g2, g3⟩
  · exact Or.inl ⟨b, ob, g1, g2, hw b ob g1 g3, g4⟩
  · exact Or.inr (Or.inl h)
  · exact Or.inr (Or.inr ⟨s, n, row, b, arr, T, fr, rfl, g1, hw b _ g1 g2, g3⟩)

theorem At.lt {ρ : Val} {w : World} {id : Nat} {so : SO} (h : At ρ w id so) {b : Nat} (hb : ρ.b id = some b) : b < w.heap.size := by
  rcases h with ⟨b', ob, g1, g2, g3, g4⟩ | ⟨g1, _⟩ | ⟨s, n, row, b', arr, T, fr, rfl, g1, g2, g3⟩
  · rw [hb] at g1; obtain rfl := Option.some.inj g1; exact lt_of_block g3
  · rw [hb] at g1; cases g1
  · rw [hb] at g1; obtain rfl := Option.some.inj g1; exact lt_of_block g2

theorem HOK.mono {A B : Names} {ρ ρ' : Val} {H : Heap} {w : World} (h : HOK A ρ H w) (hag : ρ.agree A ρ') (hb : ∀ i, A.b i → B.b i) (ht : ∀ t, A.t t → B.t t) : HOK B ρ' H w := by
  refine ⟨fun id so hl => ?_, fun i j si sj b hi hj h1 h2 => ?_⟩
  · obtain ⟨h1, h2, h3⟩ := h.here id so hl
    exact ⟨hb _ h1, SO.In_agree hag hb ht h2, h3.agree hag h1 h2⟩
  · rw [(hag.1 i (h.here i si hi).1).1] at h1
    rw [(hag.1 j (h.here j sj hj).1).1] at h2
    exact h.inj i j si sj b hi hj h1 h2

theorem HOK.world {A : Names} {ρ : Val} {H : Heap} {w w' : World} (h : HOK A ρ H w) (hw : ∀ b j so, look j H = some so → ρ.b j = some b → w'.heap[b]? = w.heap[b]?) : HOK A ρ H w' := by
  refine ⟨fun id so hl => ?_, h.inj⟩
  obtain ⟨h1, h2, h3⟩ := h.here id so hl
  exact ⟨h1, h2, h3.world fun b o g1 g2 => by rw [hw b id so hl g1]; exact g2⟩

theorem HOK.lt {A : Names} {ρ : Val} {H : Heap} {w : World} (h : HOK A ρ H w) {j b : Nat} {so : SO} (hj : look j H = some so) (hb : ρ.b j = some b) : b < w.heap.size := (h.here j so hj).2.2.lt hb
theorem HOK.ltB {A : Names} {ρ : Val} {H : Heap} {w : World} (h : HOK A ρ H w) {b : Nat} (hb : Blks ρ H b) : b < w.heap.size := by
  obtain ⟨j, so, h1, _, h2⟩ := hb; exact h.lt h1 h2

theorem HOK.set {A : Names} {ρ : Val} {H : Heap} {w : World} (h : HOK A ρ H w) {id b : Nat} {so so' : SO} {ob' : Obj} (hl : look id H = some so) (hnr : so.isRo = false) (hnr' : so'.isRo = false) (hb : ρ.b id = some b) (ho : ρ.o id = 0) (hin : so'.In A ρ) (hs : so'.sat ρ ob') :
    HOK A ρ ((id, so') :: H) (setBlk w b ob') ∧ FrameBut (Blks ρ H) w (setBlk w b ob') ∧ ∀ k, Blks ρ ((id, so') :: H) k → Blks ρ H k := by
  have hblk : Blks ρ H b := ⟨id, so, hl, hnr, hb⟩
  have hlt : b < w.heap.size := h.ltB hblk
  have old : ∀ k sk, look k ((id, so') :: H) = some sk → ∃ sk', look k H = some sk' ∧ sk'.isRo = sk.isRo := by
    intro k sk hk
    rw [look_cons] at hk
    split at hk
    · rename_i e; subst e; obtain rfl := Option.some.inj hk; exact ⟨so, hl, by rw [hnr, hnr']⟩
    · exact ⟨sk, hk, rfl⟩
  refine ⟨⟨fun k sk hk => ?_, fun i j si sj c hi hj h1 h2 => ?_⟩, ⟨rfl, rfl, rfl, by rw [setBlk_size]; exact Nat.le_refl _, fun k hk hm => ?_⟩, fun k hk => ?_⟩
  · rw [look_cons] at hk
    split at hk
    · rename_i e; subst e
      obtain rfl := Option.some.inj hk
      exact ⟨(h.here _ _ hl).1, hin, Or.inl ⟨b, ob', hb, ho, by rw [setBlk_get hlt, if_pos rfl], hs⟩⟩
    · rename_i e
      obtain ⟨h1, h2, h3⟩ := h.here k sk hk
      refine ⟨h1, h2, h3.world fun b' o e1 e2 => ?_⟩
      rw [setBlk_get hlt, if_neg]
      · exact e2
      · intro eb; subst eb
        rcases h.inj k id sk so b hk hl e1 hb with e3 | ⟨_, e3⟩
        · exact e e3
        · rw [hnr] at e3; cases e3
  · obtain ⟨si', g1, g2⟩ := old i si hi
    obtain ⟨sj', g3, g4⟩ := old j sj hj
    rw [← g2, ← g4]; exact h.inj i j si' sj' c g1 g3 h1 h2
  · rw [setBlk_get hlt, if_neg]; intro eb; subst eb; exact hm hblk
  · obtain ⟨j, sj, hj, hr, e⟩ := hk
    obtain ⟨sj', g1, g2⟩ := old j sj hj
    exact ⟨j, sj', g1, by rw [g2]; exact hr, e⟩

/-- A name more. -/
def upd (ρ : Val) (id : Nat) (b : Option Nat) : Val := ⟨fun i => if i = id then b else ρ.b i, fun i => if i = id then 0 else ρ.o i, ρ.t⟩
theorem upd_agree {A : Names} {ρ : Val} {id : Nat} {b : Option Nat} (h : ¬ A.b id) : ρ.agree A (upd ρ id b) :=
  ⟨fun i hi => by
    have : i ≠ id := fun e => by subst e; exact h hi
    simp [upd, this], fun _ _ => rfl⟩

theorem HOK.new {A B : Names} {ρ : Val} {H : Heap} {w : World} (h : HOK A ρ H w) {id : Nat} {so : SO} {ob : Obj} (hf : ¬ A.b id) (hb : ∀ i, A.b i → B.b i) (hid : B.b id) (ht : ∀ t, A.t t → B.t t)
    (hin : so.In B (upd ρ id (some w.heap.size))) (hs : so.sat (upd ρ id (some w.heap.size)) ob) :
    HOK B (upd ρ id (some w.heap.size)) ((id, so) :: H) (w.alloc ob) ∧ FrameBut (Blks ρ H) w (w.alloc ob) ∧ ∀ k, Blks (upd ρ id (some w.heap.size)) ((id, so) :: H) k → w.heap.size ≤ k ∨ Blks ρ H k := by
  have hag : ρ.agree A (upd ρ id (some w.heap.size)) := upd_agree hf
  have hm := h.mono hag hb ht
  have hwl : ∀ (k : Nat) (o : Obj), w.heap[k]? = some o → (w.alloc ob).heap[k]? = some o := by
    intro k o hk; rw [heap_alloc_old w ob k (lt_of_block hk)]; exact hk
  refine ⟨⟨fun k sk hk => ?_, fun i j si sj c hi hj h1 h2 => ?_⟩, ⟨rfl, rfl, rfl, by simp, fun k hk _ => heap_alloc_old w ob k hk⟩, fun k hk => ?_⟩
  · rw [look_cons] at hk
    split at hk
    · rename_i e; subst e
      obtain rfl := Option.some.inj hk
      exact ⟨hid, hin, Or.inl ⟨w.heap.size, ob, by simp [upd], by simp [upd], heap_alloc_new w ob, hs⟩⟩
    · obtain ⟨h1, h2, h3⟩ := hm.here k sk hk
      exact ⟨h1, h2, h3.world fun b o _ e2 => hwl _ _ e2⟩
  · have noold : ∀ k sk, k ≠ id → look k ((id, so) :: H) = some sk → (upd ρ id (some w.heap.size)).b k ≠ some w.heap.size := by
      intro k sk hk hs' e
      rw [look_cons, if_neg hk] at hs'
      have e' : ρ.b k = some w.heap.size := by simpa [upd, hk] using e
      exact Nat.lt_irrefl _ (h.lt hs' e')
    by_cases hi' : i = id
    · by_cases hj' : j = id
      · left; rw [hi', hj']
      · exfalso; subst hi'
        have : c = w.heap.size := by simp [upd] at h1; exact h1.symm
        subst this
        exact noold j sj hj' hj h2
    · by_cases hj' : j = id
      · exfalso; subst hj'
        have : c = w.heap.size := by simp [upd] at h2; exact h2.symm
        subst this
        exact noold i si hi' hi h1
      · rw [look_cons, if_neg hi'] at hi
        rw [look_cons, if_neg hj'] at hj
        exact h.inj i j si sj c hi hj (by simpa [upd, hi'] using h1) (by simpa [upd, hj'] using h2)
  · obtain ⟨j, sj, hj, hr, e⟩ := hk
    by_cases hj' : j = id
    · subst hj'; simp [upd] at e; exact Or.inl (by omega)
    · rw [look_cons, if_neg hj'] at hj
      refine Or.inr ⟨j, sj, hj, hr, ?_⟩
      simpa [upd, hj'] using e

theorem Act.put_tmps_ne {a : Act} {d t : Nat} {v : Value} (h : t ≠ d) : (a.put (some d) v).tmps[t]? = a.tmps[t]? := by
  simp only [Act.put]; rw [Array.getElem?_setIfInBounds_ne (Ne.symm h)]
theorem Act.put_tmps_eq {a : Act} {d : Nat} {v : Value} (h : d < a.tmps.size) : (a.put (some d) v).tmps[d]? = some v := by
  simp [Act.put, h]

/-- THE STATE GOES ON: memory has moved, a value is put into a slot. -/
theorem SatR.next {E : Ent} {n : Nat} {s : SS} {ρ ρ' : Val} {a : Act} {w w' : World} {H' : Heap} {r : SV} {dst : Option Nat} {K : SS → Prop} (h : SatR E n s ρ a w)
    (hm : Moved s.names s.names' ρ s.H w ρ' H' r w') (hK : putX n s dst r H' K) : SatP E n K (a.put dst (r.den ρ')) w' := by
  have hb : ∀ i, s.names.b i → s.names'.b i := fun i hi => Nat.lt_of_lt_of_le hi (Nat.le_add_right _ _)
  have ht : ∀ t, s.names.t t → s.names'.t t := fun t hi => hi
  have hag0 : E.ρ0.agree E.A0 ρ' := Val.agree_trans h.agree hm.agree h.sub.1 fun t h1 => Or.inl (h.sub.2 t h1)
  have own' : ∀ b, Blks ρ' H' b → E.w0.heap.size ≤ b ∨ E.M b := fun b hb' => (hm.own b hb').elim (fun h1 => Or.inl (Nat.le_trans h.frame.size h1)) (h.own b)
  have frame' : FrameBut E.M E.w0 w' := h.frame.trans' hm.frame h.own
  have tag' : ∀ τ x, look τ s.T = some x → ρ'.t τ = ρ.t τ := fun τ x hx => hm.agree.2 τ (Or.inr (by rw [hx]; rfl))
  cases dst with
  | none =>
    refine ⟨⟨s.F, H', s.nx + 8, s.tb, s.T⟩, ρ', ⟨h.defers, h.size, fun k v hk => ?_, hm.hok, own', frame', hag0, ⟨fun i hi => hb i (h.sub.1 i hi), h.sub.2⟩, fun τ x hx => ?_, Nat.le_trans h.tb (Nat.le_add_right _ _)⟩, hK⟩
    · obtain ⟨h1, h2, h3⟩ := h.slots k v hk
      exact ⟨SV.InO_agree hm.agree hb ht h1, h2, by rw [SV.den_agreeO hm.agree h1]; exact h3⟩
    · obtain ⟨h1, h2⟩ := h.tags τ x hx
      exact ⟨hb τ h1, fun t want e => by rw [tag' τ x hx]; exact h2 t want e⟩
  | some d =>
    simp only [putX] at hK
    cases hd : Nat.blt d n with
    | false => rw [hd] at hK; exact hK.elim
    | true =>
      rw [hd] at hK
      have hdn : d < n := by simpa using hd
      refine ⟨⟨(d, r) :: s.F, H', s.nx + 8, s.tb, rmT d s.T⟩, ρ', ⟨h.defers, by simp [Act.put, h.size], fun k v hk => ?_, ?_, own', frame', hag0, ⟨fun i hi => hb i (h.sub.1 i hi), h.sub.2⟩, fun τ x hx => ?_, Nat.le_trans h.tb (Nat.le_add_right _ _)⟩, hK⟩
      · have hnt : ∀ t, s.names'.t t → t < s.tb ∨ (look t (rmT d s.T)).isSome = true := fun t hh => hh.imp id fun hh => by rw [look_rmT.1]; exact hh
        have hres : r.InO (⟨(d, r) :: s.F, H', s.nx + 8, s.tb, rmT d s.T⟩ : SS).names ρ' := SV.InO_agree (A := s.names') (B := (⟨(d, r) :: s.F, H', s.nx + 8, s.tb, rmT d s.T⟩ : SS).names) (Val.agree_refl _ _) (fun i hi => hi) hnt hm.res
        have hold : ∀ v : SV, v.InO s.names ρ → v.InO (⟨(d, r) :: s.F, H', s.nx + 8, s.tb, rmT d s.T⟩ : SS).names ρ' := fun v hv => SV.InO_agree (A := s.names) (B := (⟨(d, r) :: s.F, H', s.nx + 8, s.tb, rmT d s.T⟩ : SS).names) hm.agree hb (fun t hh => hnt t (ht t hh)) hv
        simp only [] at hk
        rw [look_cons] at hk
        split at hk
        · rename_i e; subst e
          obtain rfl := Option.some.inj hk
          exact ⟨hres, hdn, Act.put_tmps_eq (by rw [h.size]; exact hdn)⟩
        · rename_i e
          obtain ⟨h1, h2, h3⟩ := h.slots k v hk
          exact ⟨hold v h1, h2, by rw [Act.put_tmps_ne e, SV.den_agreeO hm.agree h1]; exact h3⟩
      · exact hm.hok.mono (Val.agree_refl _ _) (fun i hi => hi) (fun t hh => hh.imp id fun hh => by rw [look_rmT.1]; exact hh)
      · have hs : (look τ s.T).isSome = true := by rw [← (look_rmT (τ := τ) (d := d) (T := s.T)).1, hx]; rfl
        obtain ⟨y, hy⟩ := Option.isSome_iff_exists.1 hs
        obtain ⟨h1, h2⟩ := h.tags τ y hy
        refine ⟨hb τ h1, fun t want e => ?_⟩
        subst e
        obtain ⟨q1, q2⟩ := look_rmT.2 t want hx
        rw [hy] at q1
        obtain rfl := Option.some.inj q1
        rw [Act.put_tmps_ne q2, tag' τ _ hy]
        exact h2 t want rfl

end Go.Eng
