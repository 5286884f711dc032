/- The engine, part G: the operations, one by one (the rest), and all of them in one theorem. -/
import Derived.Test.YtghbejmnnfoamaaEngF
set_option linter.unusedVariables false
set_option linter.unusedSimpArgs false
namespace Go.Eng
open Go
section
variable {P : Program} {A : Names} {ρ : Val} {ev : Operand → Value} {v : Operand → Option SV} {ty : Ty} {o : Oper}

theorem repL_den (ρ : Val) (z : List SV) (hz : z.length ≠ 0) : ∀ n, SV.denL ρ (repL n z) = (List.range (n * z.length)).map fun i => (SV.denL ρ z)[i % z.length]?.getD default := by
  intro n
  induction n with
  | zero => simp [repL, SV.denL]
  | succ n ih =>
    have e1 : SV.denL ρ (repL (n + 1) z) = SV.denL ρ z ++ SV.denL ρ (repL n z) := by
      rw [SV.denL_eq, SV.denL_eq, SV.denL_eq]; simp [repL]
    rw [e1, ih]
    have : (n + 1) * z.length = z.length + n * z.length := by rw [Nat.add_mul, Nat.one_mul, Nat.add_comm]
    rw [this, List.range_add, List.map_append]
    congr 1
    · apply List.ext_getElem?
      intro i
      by_cases hi : i < z.length
      · rw [List.getElem?_map, List.getElem?_range hi]
        simp only [Option.map_some, Nat.mod_eq_of_lt hi]
        rw [List.getElem?_eq_getElem (by rw [denL_length]; exact hi)]
        rfl
      · rw [List.getElem?_eq_none (by rw [denL_length]; omega), List.getElem?_eq_none (by simp; omega)]
    · rw [List.map_map]
      apply List.map_congr_left
      intro i _
      simp [Nat.add_mod_left]

theorem strsOf_eq : ∀ {l : List SV} {r : List ByteArray}, strsOf l = some r → l = r.map fun s => .g (.string s)
  | [], r, h => by simp [strsOf] at h; subst h; rfl
  | x :: l, r, h => by
    cases x with
    | g v =>
      cases v with
      | string s =>
        simp only [strsOf] at h
        split at h
        · rename_i l' hl
          obtain rfl := Option.some.inj h
          rw [strsOf_eq hl]; rfl
        · cases h
      | _ => simp [strsOf] at h
    | _ => simp [strsOf] at h

theorem litSO_sound (es : Nat) (cs : List SV) (e : Nat) (hc : SV.InL A ρ cs) : (litSO es cs e).In A ρ ∧ (litSO es cs e).sat ρ (.cells (SV.denL ρ cs).toArray e (0, 0)) := by
  unfold litSO
  split
  · rename_i l hl
    have hcs := strsOf_eq hl
    refine ⟨fun i _ => ⟨trivial, trivial⟩, _, (0, 0), rfl, ?_, by intro k _; simp, fun i hi => ⟨rfl, fun j hj => ?_⟩⟩
    · refine ⟨Nat.le_refl _, ?_⟩; rw [hcs]; simp [denL_length]
    · obtain rfl : j = 0 := by omega
      simp only [Nat.mul_one, Nat.add_zero, List.getElem?_toArray, denL_get, hcs, List.getElem?_map]
      rw [List.getElem?_eq_getElem hi]
      simp [SV.den, List.getD, List.getElem?_eq_getElem hi]
  · exact ⟨hc, rfl⟩

theorem s_buildSlice (hty : TyOK P ty) (hv : Opnd A ρ ev v) {t : TypeId} {n : Nat} {ps : Array (Nat × Operand)} (hop : o.op = .buildSlice t n ps) {d : Det} (h : detX ty v o.op = some d) : DetSound P A ρ ev o d := by
  rw [hop] at h
  simp only [detX] at h
  split at h
  · rename_i e sz by' z' l htd hl
    obtain ⟨i, ud, ht⟩ := tdOf_facts (hty _ _ htd)
    obtain ⟨p1, p2⟩ := pairs_den hv hl
    obtain rfl := tk_slc ht.kind
    split at h
    · rename_i de hde
      obtain ⟨i', ud', ht'⟩ := tdOf_facts (hty _ _ hde)
      split at h
      · rename_i z hz
        obtain ⟨z1, z2, z3⟩ := zeroSV_facts (ρ := ρ) (A := A) ht' hz
        obtain ⟨z4, z5⟩ := cells_den z1
        split at h
        · rename_i cs hle hf
          obtain rfl := Option.some.inj h
          have hle' := Nat.le_of_ble_eq_true hle
          have hrl : ∀ m, SV.InL A ρ (repL m z.cells) ∧ (repL m z.cells).length = m * de.size := by
            intro m
            induction m with
            | zero => simp [repL, SV.InL]
            | succ m ih =>
              constructor
              · rw [SV.InL_iff]; intro x hx; simp only [repL, List.mem_append] at hx
                rcases hx with hx | hx
                · exact (SV.InL_iff _ _ _).1 z5 x hx
                · exact (SV.InL_iff _ _ _).1 ih.1 x hx
              · simp only [repL, List.length_append, ih.2, z3]; rw [Nat.add_mul]; omega
          obtain ⟨f1, f2, f3⟩ := fill_den (ρ := ρ) (A := A) _ _ _ _ p2 (hrl n).1 hf
          obtain ⟨q1, q2⟩ := litSO_sound de.size cs e f2
          refine ⟨q1, fun w id ρ' hag hid ho => ⟨⟨Or.inr rfl, (fun hn => by rw [hid] at hn; cases hn), Nat.le_refl _⟩, _, q2, ?_⟩⟩
          have hzero : (Array.map (fun x => (SV.denL ρ z.cells)[x % de.size]?.getD default) (Array.range (n * de.size))) = (SV.denL ρ (repL n z.cells)).toArray := by
            by_cases h0 : de.size = 0
            · rw [h0, Nat.mul_zero]
              have : repL n z.cells = [] := by
                have := (hrl n).2; rw [h0, Nat.mul_zero] at this; exact List.length_eq_zero_iff.1 this
              rw [this]; simp [SV.denL]
            · rw [repL_den ρ z.cells (by rw [z3]; exact h0), z3]
              apply Array.toList_inj.1
              simp [Array.toList_range]
          have hne : ¬ (16777216 < n * de.size) := by omega
          simp only [execOp, hop, Instr.buildSlice]
          by_cases h0 : n * de.size = 0
          · have hrep : repL n z.cells = [] := by
              have := (hrl n).2; rw [h0] at this; exact List.length_eq_zero_iff.1 this
            rw [hrep] at f1
            simp only [SV.denL] at f1
            have hr0 : Array.map (fun _ => (default : Value)) (Array.range 0) = #[] := Array.toList_inj.1 (by simp)
            simp [run_underlying ht.und, ht'.run_size, h0, p1, hr0, f1, newRow, SV.den, hid, ho]
          · simp [run_underlying ht.und, ht'.run_size, h0, run_zeroValue_of ht'.info z2, z4, p1, denL_length, z3, hzero, f1, newRow, SV.den, hid, ho, hne]
        · cases h
      · cases h
    · cases h
  · cases h

theorem s_indexAddr (hty : TyOK P ty) (hv : Opnd A ρ ev v) {t : TypeId} {x y : Operand} (hop : o.op = .indexAddr t x y) {d : Det} (h : detX ty v o.op = some d) : DetSound P A ρ ev o d := by
  rw [hop] at h
  simp only [detX] at h
  split at h
  · rename_i n e sz by' z id s off k i htd hx hy
    obtain ⟨ti, ud, ht⟩ := tdOf_facts (hty _ _ htd)
    obtain ⟨h1, h2⟩ := hv _ _ hx
    obtain ⟨h3, h4⟩ := hv _ _ hy
    obtain rfl := tk_arr ht.kind
    split at h
    · rename_i de hde hle
      obtain ⟨i', ud', ht'⟩ := tdOf_facts (hty _ _ hde)
      obtain rfl := Option.some.inj h
      have hle' := Nat.le_of_ble_eq_true hle
      intro hp
      obtain ⟨p1, p2⟩ := hp _ (List.mem_singleton.2 rfl)
      have hat : (arrAt id off i.toNat de.size).In A ρ ∧ (arrAt id off i.toNat de.size).den ρ = (SV.ptr id 0 0 (off + i.toNat * de.size)).den ρ := by
        unfold arrAt
        split
        · exact ⟨h2, by simp [SV.den]⟩
        · exact ⟨h2, rfl⟩
      refine ⟨hat.1, fun w => ?_⟩
      rw [hat.2]
      simp [execOp, hop, Instr.indexAt, h1, h3, SV.den, asIntOf, run_underlying ht.und, Instr.sureAddr, p1, p2, ht'.run_size, addr_add, Nat.add_assoc]
    · cases h
  · rename_i e sz by' z id j s len cap k i htd hx hy
    obtain ⟨ti, ud, ht⟩ := tdOf_facts (hty _ _ htd)
    obtain ⟨h1, h2⟩ := hv _ _ hx
    obtain ⟨h3, h4⟩ := hv _ _ hy
    obtain rfl := tk_slc ht.kind
    split at h
    · rename_i de hde
      obtain ⟨i', ud', ht'⟩ := tdOf_facts (hty _ _ hde)
      split at h
      · rename_i hs
        obtain rfl := Nat.eq_of_beq_eq_true hs
        obtain rfl := Option.some.inj h
        intro hp
        obtain ⟨p1, p2⟩ := hp _ (List.mem_singleton.2 rfl)
        refine ⟨h2.1, fun w => ?_⟩
        cases hid : ρ.b id with
        | none => have := (h2.2.1 hid).1; omega
        | some b =>
          simp [execOp, hop, Instr.indexAt, h1, h3, SV.den, hid, asIntOf, run_underlying ht.und, p1, p2, ht'.run_size, addr_add, addOff_eq, Nat.add_mul, Nat.add_assoc]
      · cases h
    · cases h
  · cases h

theorem run_sliceBnds {isS : Bool} {len cap : Nat} {lo hi : Option Operand} {lo' hi' : Option SV} (hv : Opnd A ρ ev v) (hl : optO v lo = some lo') (hh : optO v hi = some hi') {b : List Prop × Nat × Nat} (h : sliceBnds len cap lo' hi' = some b)
    (hp : ∀ p ∈ b.1, p) (hlc : len ≤ cap) (w : World) : (Instr.sliceBounds isS len cap (lo.map ev) (hi.map ev) none).run P w = .ok (b.2.1, b.2.2, cap) w ∧ b.2.1 ≤ b.2.2 ∧ b.2.2 ≤ cap := by
  have conv : ∀ (x : Option Operand) (x' : Option SV), optO v x = some x' → (x = none ∧ x' = none) ∨ ∃ y y', x = some y ∧ x' = some y' ∧ ev y = y'.den ρ := by
    intro x x' hx
    cases x with
    | none => simp [optO] at hx; exact Or.inl ⟨rfl, hx.symm⟩
    | some y =>
      simp only [optO] at hx
      split at hx
      · rename_i y' hy
        obtain rfl := Option.some.inj hx
        exact Or.inr ⟨y, y', rfl, rfl, (hv _ _ hy).1⟩
      · cases hx
  have asInt : ∀ (y : SV) (n : Int), asI y = some n → ∃ k, y.den ρ = .int k n := by
    intro y n hy
    cases y with
    | g u => cases u <;> simp [asI] at hy; subst hy; exact ⟨_, rfl⟩
    | _ => simp [asI] at hy
  unfold sliceBnds at h
  rcases conv lo lo' hl with ⟨rfl, rfl⟩ | ⟨l, l', rfl, rfl, el⟩
  · rcases conv hi hi' hh with ⟨rfl, rfl⟩ | ⟨m, m', rfl, rfl, em⟩
    · simp only [Option.some.injEq] at h; subst h
      exact ⟨by simp [Instr.sliceBounds], Nat.zero_le _, hlc⟩
    · simp only [] at h
      split at h
      · rename_i n hn
        obtain ⟨k, hk⟩ := asInt _ _ hn
        simp only [Option.some.injEq] at h; subst h
        obtain ⟨p1, p2⟩ := hp _ (List.mem_singleton.2 rfl)
        exact ⟨by simp [Instr.sliceBounds, Instr.sliceBound, em, hk, asIntOf, p1, p2], Nat.zero_le _, by simp only []; omega⟩
      · cases h
  · rcases conv hi hi' hh with ⟨rfl, rfl⟩ | ⟨m, m', rfl, rfl, em⟩
    · simp only [] at h
      split at h
      · rename_i n hn
        obtain ⟨k, hk⟩ := asInt _ _ hn
        simp only [Option.some.injEq] at h; subst h
        obtain ⟨p1, p2⟩ := hp _ (List.mem_singleton.2 rfl)
        exact ⟨by simp [Instr.sliceBounds, Instr.sliceBound, el, hk, asIntOf, p1, p2], by simp only []; omega, hlc⟩
      · cases h
    · simp only [] at h
      split at h
      · rename_i n1 n2 hn1 hn2
        obtain ⟨k1, hk1⟩ := asInt _ _ hn1
        obtain ⟨k2, hk2⟩ := asInt _ _ hn2
        simp only [Option.some.injEq] at h; subst h
        obtain ⟨p1, p2⟩ := hp (0 ≤ n2 ∧ n2 ≤ cap) (by simp)
        obtain ⟨p3, p4⟩ := hp (0 ≤ n1 ∧ n1 ≤ n2) (by simp)
        have e : max n2 0 = n2 := by omega
        exact ⟨by simp [Instr.sliceBounds, Instr.sliceBound, el, em, hk1, hk2, asIntOf, p1, p2, p3, p4, e], by simp only []; omega, by simp only []; omega⟩
      · cases h

theorem asI_den {y : SV} {n : Int} (hy : asI y = some n) : ∃ k, y.den ρ = .int k n := by
  cases y with
  | g u => cases u <;> simp [asI] at hy; subst hy; exact ⟨_, rfl⟩
  | _ => simp [asI] at hy
theorem run_bnds3 {len cap : Nat} {lo : Option Operand} {lo' : Option SV} {hi mx : Operand} {hi' mx' : SV} (hv : Opnd A ρ ev v) (hl : optO v lo = some lo') (hh : v hi = some hi') (hm : v mx = some mx') {b : List Prop × Nat × Nat × Nat} (h : bnds3 cap lo' hi' mx' = some b)
    (hp : ∀ p ∈ b.1, p) (w : World) : (Instr.sliceBounds true len cap (lo.map ev) (some (ev hi)) (some (ev mx))).run P w = .ok (b.2.1, b.2.2.1, b.2.2.2) w ∧ b.2.1 ≤ b.2.2.1 ∧ b.2.2.1 ≤ b.2.2.2 ∧ b.2.2.2 ≤ cap ∧ (lo' = none → b.2.1 = 0) := by
  have eh := (hv _ _ hh).1
  have em := (hv _ _ hm).1
  unfold bnds3 at h
  split at h
  · rename_i h0 m0 hhi hmx
    obtain ⟨k1, e1⟩ := asI_den (ρ := ρ) hhi
    obtain ⟨k2, e2⟩ := asI_den (ρ := ρ) hmx
    simp only [Option.some.injEq] at h; subst h
    obtain ⟨p1, p2⟩ := hp (0 ≤ m0 ∧ m0 ≤ cap) (by simp)
    obtain ⟨p3, p4⟩ := hp (0 ≤ h0 ∧ h0 ≤ m0) (by simp)
    have hlo : lo = none := by
      cases lo with
      | none => rfl
      | some y =>
        simp only [optO] at hl
        split at hl <;> cases hl
    subst hlo
    have e : max m0 0 = m0 := by omega
    exact ⟨by simp [Instr.sliceBounds, Instr.sliceBound, eh, em, e1, e2, asIntOf, p1, p2, p3, p4, e], Nat.zero_le _, by simp only []; omega, by simp only []; omega, fun _ => rfl⟩
  · rename_i l0 h0 m0 hhi hmx
    split at h
    · rename_i l1 hlo1
      obtain ⟨k1, e1⟩ := asI_den (ρ := ρ) hhi
      obtain ⟨k2, e2⟩ := asI_den (ρ := ρ) hmx
      obtain ⟨k3, e3⟩ := asI_den (ρ := ρ) hlo1
      simp only [Option.some.injEq] at h; subst h
      obtain ⟨p1, p2⟩ := hp (0 ≤ m0 ∧ m0 ≤ cap) (by simp)
      obtain ⟨p3, p4⟩ := hp (0 ≤ h0 ∧ h0 ≤ m0) (by simp)
      obtain ⟨p5, p6⟩ := hp (0 ≤ l1 ∧ l1 ≤ h0) (by simp)
      obtain ⟨y, rfl, ey⟩ : ∃ y, lo = some y ∧ v y = some l0 := by
        cases lo with
        | none => simp [optO] at hl
        | some y =>
          simp only [optO] at hl
          split at hl
          · rename_i y' hy; obtain rfl := Option.some.inj (Option.some.inj hl); exact ⟨y, rfl, hy⟩
          · cases hl
      have el := (hv _ _ ey).1
      have q1 : max m0 0 = m0 := by omega
      have q2 : max h0 0 = h0 := by omega
      exact ⟨by simp [Instr.sliceBounds, Instr.sliceBound, eh, em, el, e1, e2, e3, asIntOf, p1, p2, p3, p4, p5, p6, q1, q2], by simp only []; omega, by simp only []; omega, by simp only []; omega, fun h => by cases h⟩
    · cases h
  · cases h

theorem s_slice3 (hty : TyOK P ty) (hv : Opnd A ρ ev v) {t : TypeId} {x : Operand} {lo : Option Operand} {hi mx : Operand} (hop : o.op = .slice t x lo (some hi) (some mx)) {d : Det} (h : detX ty v o.op = some d) : DetSound P A ρ ev o d := by
  rw [hop] at h
  simp only [detX] at h
  split at h
  · rename_i e sz by' z id i s len cap lo' htd hx hlo
    obtain ⟨ti, ud, ht⟩ := tdOf_facts (hty _ _ htd)
    obtain ⟨h1, h2⟩ := hv _ _ hx
    obtain rfl := tk_slc ht.kind
    split at h
    · rename_i de hi' mx' hde hhi hmx
      obtain ⟨i', ud', ht'⟩ := tdOf_facts (hty _ _ hde)
      split at h
      · rename_i hs
        obtain rfl := Nat.eq_of_beq_eq_true hs
        cases hb : bnds3 cap lo' hi' mx' with
        | none => rw [hb] at h; cases h
        | some b =>
          rw [hb] at h; simp only [Option.map_some, Option.some.injEq] at h; subst h
          intro hp
          have hbb := fun w => (run_bnds3 (P := P) (len := len) hv hlo hhi hmx hb hp w)
          obtain ⟨_, g1, g2, g3, g4⟩ := hbb default
          refine ⟨⟨h2.1, fun hn => ?_, by omega⟩, fun w => ?_⟩
          · have := h2.2.1 hn; omega
          · have hr := (hbb w).1
            cases hid : ρ.b id with
            | none =>
              have := h2.2.1 hid
              simp [execOp, hop, Instr.sliceAt, Instr.slice, h1, SV.den, hid, run_underlying ht.und, hr, ht'.run_size]
            | some bk =>
              simp only [execOp, hop, Instr.sliceAt, Instr.slice, h1, SV.den, hid, Option.map_some]
              simp only [Sem.run_bind, run_underlying ht.und, Result.andThen_ok, hr, ht'.run_size, Sem.run_pure]
              cases lo' with
              | none => rw [g4 rfl]; simp [addr_add]
              | some l0 =>
                simp only []
                split
                · rfl
                · simp only [Option.map_some]; rw [addr_add, addOff_eq, Nat.add_mul, Nat.add_assoc]
      · cases h
    · cases h
  · cases h

theorem s_slice (hty : TyOK P ty) (hv : Opnd A ρ ev v) {t : TypeId} {x : Operand} {lo hi mx : Option Operand} (hop : o.op = .slice t x lo hi mx) {d : Det} (h : detX ty v o.op = some d) : DetSound P A ρ ev o d := by
  rw [hop] at h
  cases mx with
  | some mx =>
    cases hi with
    | none => simp [detX] at h
    | some hi => exact s_slice3 hty hv hop (by rw [hop]; exact h)
  | none =>
  simp only [detX] at h
  split at h
  · rename_i sz by' z s lo' hi' htd hx hlo hhi
    obtain ⟨ti, ud, ht⟩ := tdOf_facts (hty _ _ htd)
    obtain ⟨h1, h2⟩ := hv _ _ hx
    obtain rfl := tk_str ht.kind
    cases hb : sliceBnds s.size s.size lo' hi' with
    | none => rw [hb] at h; cases h
    | some b =>
      rw [hb] at h; simp only [Option.map_some, Option.some.injEq] at h; subst h
      intro hp
      refine ⟨trivial, fun w => ?_⟩
      have hr := (run_sliceBnds (P := P) (isS := false) hv hlo hhi hb hp (Nat.le_refl _) w).1
      simp [execOp, hop, Instr.sliceAt, Instr.slice, h1, SV.den, run_underlying ht.und, hr]
  · rename_i e sz by' z id i s len cap lo' hi' htd hx hlo hhi
    obtain ⟨ti, ud, ht⟩ := tdOf_facts (hty _ _ htd)
    obtain ⟨h1, h2⟩ := hv _ _ hx
    obtain rfl := tk_slc ht.kind
    split at h
    · rename_i de hde
      obtain ⟨i', ud', ht'⟩ := tdOf_facts (hty _ _ hde)
      split at h
      · rename_i hs
        obtain rfl := Nat.eq_of_beq_eq_true hs
        cases hb : sliceBnds len cap lo' hi' with
        | none => rw [hb] at h; cases h
        | some b =>
          rw [hb] at h; simp only [Option.map_some, Option.some.injEq] at h; subst h
          intro hp
          have hbb := fun w => (run_sliceBnds (P := P) (isS := true) hv hlo hhi hb hp h2.2.2 w)
          obtain ⟨_, g1, g2⟩ := hbb default
          refine ⟨⟨h2.1, fun hn => ?_, by omega⟩, fun w => ?_⟩
          · have := h2.2.1 hn; omega
          · have hr := (hbb w).1
            cases hid : ρ.b id with
            | none =>
              have := h2.2.1 hid
              simp [execOp, hop, Instr.sliceAt, Instr.slice, h1, SV.den, hid, run_underlying ht.und, hr, ht'.run_size]
            | some bk =>
              simp only [execOp, hop, Instr.sliceAt, Instr.slice, h1, SV.den, hid, Option.map_none]
              simp only [Sem.run_bind, run_underlying ht.und, Result.andThen_ok, hr, ht'.run_size, Sem.run_pure]
              have hlo0 : lo' = none → b.2.1 = 0 := by
                intro e0; subst e0
                unfold sliceBnds at hb
                cases hi' with
                | none => simp only [Option.some.injEq] at hb; subst hb; rfl
                | some hh =>
                  simp only [] at hb
                  split at hb
                  · simp only [Option.some.injEq] at hb; subst hb; rfl
                  · cases hb
              cases lo' with
              | none => rw [hlo0 rfl]; simp [addr_add]
              | some l0 =>
                simp only [Option.map_some]
                split
                · rfl
                · rw [addr_add, addOff_eq, Nat.add_mul, Nat.add_assoc]
      · cases h
    · cases h
  · cases h

end
end Go.Eng
