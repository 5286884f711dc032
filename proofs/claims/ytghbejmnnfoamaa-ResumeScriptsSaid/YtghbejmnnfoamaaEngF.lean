/- The engine, part F: the operations, one by one (go on). -/
import Derived.Test.YtghbejmnnfoamaaEngE
set_option linter.unusedVariables false
set_option linter.unusedSimpArgs false
namespace Go.Eng
open Go
section
variable {P : Program} {A : Names} {ρ : Val} {ev : Operand → Value} {v : Operand → Option SV} {ty : Ty} {o : Oper}

theorem zeroSV_facts {t : TypeId} {d : TD} {i : TypeInfo} {ud : TypeDesc} (ht : TdFacts P t d i ud) {z : SV} (hz : d.zeroSV = some z) :
    z.In A ρ ∧ i.zero = some (z.den ρ) ∧ z.cells.length = d.size := by
  simp only [TD.zeroSV] at hz
  split at hz
  · rename_i ha
    obtain rfl := Option.some.inj hz
    obtain ⟨g1, g2, _⟩ := ht.agg ha
    refine ⟨InL_g _ _ _, by rw [g1]; simp [SV.den, denL_g], ?_⟩
    simp [SV.cells, g2]
  · rename_i v' ha htup hd
    obtain rfl := Option.some.inj hz
    have hnt : d.k ≠ .tup := by intro e; rw [e] at htup; cases htup
    obtain ⟨h1, u, hu, hz1, hp⟩ := ht.one ha hnt
    rw [hd] at hz1; obtain rfl := (List.cons.inj hz1).1
    refine ⟨trivial, hu, ?_⟩
    rw [h1]
    cases v' <;> first | rfl | (simp [isPlain] at hp)
  · cases hz

theorem s_box (hv : Opnd A ρ ev v) {T : TypeId} {x : Operand} (hop : o.op = .box T x) {d : Det} (h : detX ty v o.op = some d) : DetSound P A ρ ev o d := by
  rw [hop] at h
  simp only [detX] at h
  cases hx : v x with
  | none => rw [hx] at h; cases h
  | some sv =>
    rw [hx] at h; simp only [Option.map_some, Option.some.injEq] at h; subst h
    obtain ⟨h1, h2⟩ := hv _ _ hx
    exact new_var h2 T fun w => by simp [execOp, hop, Instr.box, h1]

theorem s_build (hty : TyOK P ty) (hv : Opnd A ρ ev v) {t : TypeId} {ps : Array (Nat × Operand)} (hop : o.op = .build t ps) {d : Det} (h : detX ty v o.op = some d) : DetSound P A ρ ev o d := by
  rw [hop] at h
  simp only [detX] at h
  split at h
  · rename_i fs sz by' z l htd hl
    obtain ⟨i, ud, ht⟩ := tdOf_facts (hty _ _ htd)
    obtain ⟨p1, p2⟩ := pairs_den hv hl
    cases hf : fillX (fun i => (fs[i]?).map fun f => (f.1, f.2.1)) (z.map SV.g) l with
    | none => rw [hf] at h; cases h
    | some cs =>
      rw [hf] at h; simp only [Option.map_some, Option.some.injEq] at h; subst h
      obtain ⟨f1, f2, f3⟩ := fill_den (ρ := ρ) (A := A) _ _ _ _ p2 (InL_g _ _ _) hf
      intro _
      refine ⟨f2, fun w => ?_⟩
      obtain ⟨g1, _, _⟩ := ht.agg rfl
      obtain ⟨fields, rfl, hfs⟩ := tk_strct ht.kind
      have hok := structOK_fields (ht.strct _ rfl)
      have hpl := run_places (P := P) w _ _ (places_of fun f hf => (hok.1 f hf).2)
      simp only [] at g1
      rw [denL_g] at f1
      simp only [execOp, hop, Instr.build]
      simp [run_zeroValue_of ht.info g1, run_underlying ht.und, Array.mapM_eq_mapM_toList, hpl, Value.cells]
      rw [p1]
      have e1 : (fun x : Nat => Option.map (fun f : Field => (f.offset, P.cellsOf f.type)) fields[x]?) = (fun (i : Nat) => (fs[i]?).map fun (f : Nat × Nat × Nat) => (f.1, f.2.1)) := by
        funext i; rw [hfs, List.getElem?_map, Array.getElem?_toList]; cases fields[i]? <;> rfl
      rw [e1, f1]
      simp [SV.den]
  · rename_i n e sz by' z l htd hl
    obtain ⟨i, ud, ht⟩ := tdOf_facts (hty _ _ htd)
    obtain ⟨p1, p2⟩ := pairs_den hv hl
    split at h
    · rename_i de hde
      obtain ⟨i', ud', ht'⟩ := tdOf_facts (hty _ _ hde)
      cases hf : fillX (fun i => some (i * de.size, de.size)) (z.map SV.g) l with
      | none => rw [hf] at h; cases h
      | some cs =>
        rw [hf] at h; simp only [Option.map_some, Option.some.injEq] at h; subst h
        obtain ⟨f1, f2, f3⟩ := fill_den (ρ := ρ) (A := A) _ _ _ _ p2 (InL_g _ _ _) hf
        intro _
        refine ⟨f2, fun w => ?_⟩
        obtain ⟨g1, _, _⟩ := ht.agg rfl
        obtain rfl := tk_arr ht.kind
        rw [denL_g] at f1
        simp only [] at g1
        simp only [execOp, hop, Instr.build]
        simp [run_zeroValue_of ht.info g1, run_underlying ht.und, ht'.run_size, Value.cells]
        rw [p1, f1]
        simp [SV.den]
    · cases h
  · cases h

theorem s_load (hty : TyOK P ty) (hv : Opnd A ρ ev v) {t : TypeId} {x : Operand} (hop : o.op = .load t x) {d : Det} (h : detX ty v o.op = some d) : DetSound P A ρ ev o d := by
  rw [hop] at h
  simp only [detX] at h
  split at h
  · rename_i td id i s off htd hx
    obtain rfl := Option.some.inj h
    obtain ⟨ti, ud, ht⟩ := tdOf_facts (hty _ _ htd)
    obtain ⟨h1, h2⟩ := hv _ _ hx
    refine ⟨h2, fun w so pre r hat hin hf hp => ?_⟩
    obtain ⟨q1, q2⟩ := loadX_sound ht hat hin hf hp
    refine ⟨q1, ?_⟩
    simp [execOp, hop, Instr.loadAt, h1, SV.den, Instr.sureAddr, q2]
  · cases h

theorem s_store (hty : TyOK P ty) (hv : Opnd A ρ ev v) {t : TypeId} {x y : Operand} (hop : o.op = .store t x y) {d : Det} (h : detX ty v o.op = some d) : DetSound P A ρ ev o d := by
  rw [hop] at h
  simp only [detX] at h
  split at h
  · rename_i td id i s off sv htd hx hy
    obtain rfl := Option.some.inj h
    obtain ⟨ti, ud, ht⟩ := tdOf_facts (hty _ _ htd)
    obtain ⟨h1, h2⟩ := hv _ _ hx
    obtain ⟨h3, h4⟩ := hv _ _ hy
    refine ⟨h2, fun w so pre so' r hat hin hf hp => ?_⟩
    obtain ⟨q1, rfl, q0, q0', b, ob', q2, q2', q3, q4⟩ := storeX_sound ht h4 hat hin hf hp
    refine ⟨q1, trivial, q0, q0', b, ob', q2, q2', q3, Or.inr ⟨rfl, ?_⟩⟩
    simp [execOp, hop, Instr.storeAt, h1, h3, SV.den, Instr.sureAddr, q4]
  · cases h

theorem s_nilCheck (hv : Opnd A ρ ev v) {x : Operand} (hop : o.op = .nilCheck x) {d : Det} (h : detX ty v o.op = some d) : DetSound P A ρ ev o d := by
  rw [hop] at h
  simp only [detX] at h
  split at h
  · rename_i id i s off hx
    obtain rfl := Option.some.inj h
    obtain ⟨h1, h2⟩ := hv _ _ hx
    intro _
    exact ⟨h2, fun w => by simp [execOp, hop, h1, SV.den]⟩
  · rename_i a hx
    obtain rfl := Option.some.inj h
    obtain ⟨h1, h2⟩ := hv _ _ hx
    intro _
    exact ⟨h2, fun w => by simp [execOp, hop, h1, SV.den]⟩
  · rename_i f caps hx
    obtain rfl := Option.some.inj h
    obtain ⟨h1, h2⟩ := hv _ _ hx
    intro _
    exact ⟨h2, fun w => by simp [execOp, hop, h1, SV.den]⟩
  · cases h

theorem s_unOp (hv : Opnd A ρ ev v) {op : UnOp} {t : TypeId} {x : Operand} (hop : o.op = .unOp op t x) {d : Det} (h : detX ty v o.op = some d) : DetSound P A ρ ev o d := by
  rw [hop] at h
  simp only [detX] at h
  split at h
  · rename_i b hx
    obtain rfl := Option.some.inj h
    obtain ⟨h1, h2⟩ := hv _ _ hx
    intro _
    exact ⟨trivial, fun w => by simp [execOp, hop, h1, SV.den, Op.unary]⟩
  · rename_i k n hx
    obtain rfl := Option.some.inj h
    obtain ⟨h1, h2⟩ := hv _ _ hx
    intro _
    exact ⟨trivial, fun w => by simp [execOp, hop, h1, SV.den, Op.unary, Op.intArith]⟩
  · cases h

theorem s_fieldAddr (hty : TyOK P ty) (hv : Opnd A ρ ev v) {t : TypeId} {x : Operand} {f : Nat} (hop : o.op = .fieldAddr t x f) {d : Det} (h : detX ty v o.op = some d) : DetSound P A ρ ev o d := by
  rw [hop] at h
  simp only [detX] at h
  split at h
  · rename_i fs sz by' z id i s off htd hx
    obtain ⟨ti, ud, ht⟩ := tdOf_facts (hty _ _ htd)
    obtain ⟨h1, h2⟩ := hv _ _ hx
    obtain ⟨fields, rfl, hfs⟩ := tk_strct ht.kind
    have hok := structOK_fields (ht.strct _ rfl)
    split at h
    · rename_i of' sz' ft hf
      split at h
      · rename_i hle
        obtain rfl := Option.some.inj h
        have hle' := Nat.le_of_ble_eq_true hle
        intro _
        refine ⟨h2, fun w => ?_⟩
        rw [hfs, List.getElem?_map, Array.getElem?_toList] at hf
        cases hff : fields[f]? with
        | none => rw [hff] at hf; cases hf
        | some fl =>
          rw [hff] at hf; simp only [Option.map_some, Option.some.injEq, Prod.mk.injEq] at hf
          obtain ⟨e1, e2, e3⟩ := hf
          have hmem : fl ∈ fields.toList := List.mem_of_getElem? (by rw [Array.getElem?_toList]; exact hff)
          obtain ⟨ii, hii⟩ := Option.isSome_iff_exists.1 (hok.1 fl hmem).2
          have hsz : ii.size ≠ 0 := by
            have : P.cellsOf fl.type = ii.size := by simp [Program.cellsOf, hii]
            omega
          simp [execOp, hop, Instr.fieldAt, h1, SV.den, run_underlying ht.und, hff, Instr.sureAddr, fieldPlace, run_sizeOf_of hii, hsz, addr_add, e1, Nat.add_assoc]
      · cases h
    · cases h
  · cases h

theorem s_index (hty : TyOK P ty) (hv : Opnd A ρ ev v) {t : TypeId} {x y : Operand} (hop : o.op = .index t x y) {d : Det} (h : detX ty v o.op = some d) : DetSound P A ρ ev o d := by
  rw [hop] at h
  simp only [detX] at h
  split at h
  · rename_i sz by' z s k n htd hx hy
    obtain ⟨ti, ud, ht⟩ := tdOf_facts (hty _ _ htd)
    obtain ⟨h1, h2⟩ := hv _ _ hx
    obtain ⟨h3, h4⟩ := hv _ _ hy
    obtain rfl := tk_str ht.kind
    obtain rfl := Option.some.inj h
    intro hp
    obtain ⟨p1, p2⟩ := hp _ (List.mem_singleton.2 rfl)
    refine ⟨trivial, fun w => ?_⟩
    have hlt : n.toNat < s.size := by omega
    have hg : s[n.toNat]? = some (s[n.toNat]'hlt) := by simp [getElem?_def, hlt]
    simp [execOp, hop, Instr.index, h1, h3, SV.den, asIntOf, run_underlying ht.und, p1, hg]
    simp only [byteAt]
    rw [Array.getD, dif_pos (by exact hlt)]
    rfl
  · cases h

theorem s_extract (hv : Opnd A ρ ev v) {x : Operand} {i : Nat} (hop : o.op = .extract x i) {d : Det} (h : detX ty v o.op = some d) : DetSound P A ρ ev o d := by
  rw [hop] at h
  simp only [detX] at h
  split at h
  · rename_i vs hx
    obtain ⟨h1, h2⟩ := hv _ _ hx
    cases hg : vs[i]? with
    | none => rw [hg] at h; cases h
    | some y =>
      rw [hg] at h; simp only [Option.map_some, Option.some.injEq] at h; subst h
      intro _
      refine ⟨InL_get h2 hg, fun w => ?_⟩
      simp [execOp, hop, Instr.extract, h1, SV.den, denL_get, hg]
  · rename_i vs hx
    obtain ⟨h1, h2⟩ := hv _ _ hx
    cases hg : vs[i]? with
    | none => rw [hg] at h; cases h
    | some y =>
      rw [hg] at h; simp only [Option.map_some, Option.some.injEq] at h; subst h
      intro _
      refine ⟨trivial, fun w => ?_⟩
      simp [execOp, hop, Instr.extract, h1, SV.den, hg]
  · cases h

theorem s_range (hty : TyOK P ty) (hv : Opnd A ρ ev v) {t : TypeId} {x : Operand} (hop : o.op = .range t x) {d : Det} (h : detX ty v o.op = some d) : DetSound P A ρ ev o d := by
  rw [hop] at h
  simp only [detX] at h
  split at h
  · rename_i sz by' z s htd hx
    obtain ⟨ti, ud, ht⟩ := tdOf_facts (hty _ _ htd)
    obtain ⟨h1, h2⟩ := hv _ _ hx
    obtain rfl := tk_str ht.kind
    obtain rfl := Option.some.inj h
    refine ⟨trivial, fun w id ρ' hag hid ho => ⟨Or.inr rfl, _, rfl, ?_⟩⟩
    simp [execOp, hop, Instr.range, h1, SV.den, run_underlying ht.und, hid, ho]
  · cases h

theorem s_field (hty : TyOK P ty) (hv : Opnd A ρ ev v) {t : TypeId} {x : Operand} {f : Nat} (hop : o.op = .field t x f) {d : Det} (h : detX ty v o.op = some d) : DetSound P A ρ ev o d := by
  rw [hop] at h
  simp only [detX] at h
  split at h
  · rename_i fs sz by' z cs htd hx
    obtain ⟨ti, ud, ht⟩ := tdOf_facts (hty _ _ htd)
    obtain ⟨h1, h2⟩ := hv _ _ hx
    obtain ⟨fields, rfl, hfs⟩ := tk_strct ht.kind
    split at h
    · rename_i of' sz' ft hf
      rw [hfs, List.getElem?_map, Array.getElem?_toList] at hf
      cases hff : fields[f]? with
      | none => rw [hff] at hf; cases hf
      | some fl =>
        rw [hff] at hf; simp only [Option.map_some, Option.some.injEq, Prod.mk.injEq] at hf
        obtain ⟨rfl, rfl, rfl⟩ := hf
        split at h
        · rename_i td' htd'
          obtain ⟨ti', ud', ht'⟩ := tdOf_facts (hty _ _ htd')
          have hc : P.cellsOf fl.type = td'.size := by simp [Program.cellsOf, ht'.info, ht'.size]
          split at h
          · rename_i ha
            obtain rfl := Option.some.inj h
            intro _
            refine ⟨InL_take (InL_drop h2 _) _, fun w => ?_⟩
            simp [execOp, hop, Instr.field, h1, SV.den, run_underlying ht.und, hff, asAgg, part, ht'.run_isAgg, ha, ht'.run_size, hc]
            rw [SV.denL_eq, SV.denL_eq, List.map_take, List.map_drop, List.take_drop]
          · rename_i ha
            cases hg : cs[fl.offset]? with
            | none => rw [hg] at h; cases h
            | some y =>
              rw [hg] at h; simp only [Option.map_some, Option.some.injEq] at h; subst h
              intro _
              refine ⟨InL_get h2 hg, fun w => ?_⟩
              simp [execOp, hop, Instr.field, h1, SV.den, run_underlying ht.und, hff, asAgg, part, ht'.run_isAgg, ha, denL_get, hg]
        · cases h
    · cases h
  · cases h

theorem s_makeFunc (hv : Opnd A ρ ev v) {fn : Fn} {first caps : Array Operand} (hop : o.op = .makeFunc fn first caps) {d : Det} (h : detX ty v o.op = some d) : DetSound P A ρ ev o d := by
  rw [hop] at h
  simp only [detX] at h
  unfold detMk at h
  split at h
  · rename_i f l hl0
    have hf : first = #[] := by apply Array.toList_inj.1; simpa using hl0
    subst hf
    cases hl : optL (caps.toList.map v) with
    | none => rw [hl] at h; cases h
    | some l =>
      rw [hl] at h; simp only [Option.map_some, Option.some.injEq] at h; subst h
      obtain ⟨h1, h2⟩ := args_den hv hl
      intro _
      refine ⟨h2, fun w => ?_⟩
      simp [execOp, hop, Instr.makeFunc, h1, SV.den]
  · cases h

end
end Go.Eng
