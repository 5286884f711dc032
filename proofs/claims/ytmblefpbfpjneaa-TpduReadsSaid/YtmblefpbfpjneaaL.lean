/- Chapter 15: the laws of Read. -/
import Derived.Test.YtmblefpbfpjneaaK
set_option linter.unusedVariables false
set_option linter.unusedSimpArgs false
namespace Go.Proofs.Ytmblefpbfpjneaa
open Go Go.Eng
attribute [local irreducible] condX
def X_Read : XC := ⟨ByteArray, fun | [.g (.string b)] => some b | _ => none, fun b => [.g (.string b)], fun _ => True, rdR⟩
theorem vcReadTK : ∀ b : ByteArray, True → Held (fnX (cx_Read b) (bodyOf Try.f22) Try.f22.results.toList [.g (.string b)] [] (fun r _ => r = rdR b)) := fun b _ => vcReadK b
theorem ok_Read : ExactSound Try.prog 22 X_Read.rule :=
  exact_rule (ty := ty) (Γ := ΓOf Γs) hm tyOK Γs_ok (fnOK_of Try.func22 (by kernel_rfl) (by kernel_rfl)) Try.func22 (body_some (by kernel_rfl)) X_Read Try.ntmps22 (fun _ => Nat.le_of_ble_eq_true rfl) (fun _ => rfl) (fun x => rfl) (fun x => (cx_Read x).cut) (fun x => (cx_Read x).loop) fun x h => vcReadTK x h
def Γ7 : List (Nat × Rule) := (22, .exact X_Read.rule) :: (23, .exact X_rRead.rule) :: Γ6
theorem Γ7_ok : ΓOK Try.prog (ΓOf Γ7) := (ΓOf_cons ok_Read (ΓOf_cons ok_rRead Γ6_ok))
/-! ### Mod, Spoil -/
def modI (x n : Int) : Int := if n < 1 then 0 else x % n
def X_rMod : XC := ⟨Int × Int, fun | [.g (.int .i64 x), .g (.int .i64 n)] => some (x, n) | _ => none, fun x => [.g (.int .i64 x.1), .g (.int .i64 x.2)], fun x => x.2 < 9223372036854775808, fun x => .g (.int .i64 (modI x.1 x.2))⟩
theorem modI_bd {x n : Int} (h : 1 ≤ n) : 0 ≤ modI x n ∧ modI x n < n := by
  unfold modI
  rw [if_neg (by omega)]
  exact ⟨Int.emod_nonneg _ (by omega), Int.emod_lt_of_pos _ (by omega)⟩
def VcMod : Prop := ∀ (x : Int × Int), Prod.snd x < (9223372036854775808 : Int) → condX (decide (Prod.snd x < (1 : Int))) (SV.g (Value.int IntKind.i64 (0 : Int)) = SV.g (Value.int IntKind.i64 (modI (Prod.fst x) (Prod.snd x)))) (Prod.snd x ≠
  (0 : Int) ∧ condX (decide (Int.tmod (Prod.fst x) (Prod.snd x) < (0 : Int))) (SV.g (Value.int IntKind.i64 (IntKind.wrap IntKind.i64 (Int.tmod (Prod.fst x) (Prod.snd x) + Prod.snd x))) = SV.g (Value.int IntKind.i64 (modI
  (Prod.fst x) (Prod.snd x)))) (SV.g (Value.int IntKind.i64 (Int.tmod (Prod.fst x) (Prod.snd x))) = SV.g (Value.int IntKind.i64 (modI (Prod.fst x) (Prod.snd x)))))
def VcModS : Prop := ∀ (x : Int × Int), x.2 < 9223372036854775808 → fnX ((fun _ => cx0 17 0) x) (bodyOf Try.f42) Try.f42.results.toList [.g (.int .i64 x.1), .g (.int .i64 x.2)] [] (fun r _ => r = .g (.int .i64 (modI x.1 x.2)))
theorem vcModE : VcMod = VcModS := by kernel_rfl
set_option maxHeartbeats 4000000 in
theorem vcMod : VcMod := by
  intro y hn
  obtain ⟨x, n⟩ := y
  simp only [] at hn ⊢
  have key : ∀ h : 1 ≤ n, modI x n = if Int.tmod x n < 0 then Int.tmod x n + n else Int.tmod x n := by
    intro h
    unfold modI
    rw [if_neg (by omega), Int.tmod_eq_emod]
    have h1 := Int.emod_nonneg x (b := n) (by omega)
    have h2 := Int.emod_lt_of_pos x (b := n) (by omega)
    have hab : (n.natAbs : Int) = n := by omega
    split
    · rw [if_neg (by omega)]; omega
    · rename_i hh
      have : x % n ≠ 0 := fun e => hh (Or.inr (Int.dvd_of_emod_eq_zero e))
      rw [if_pos (by omega)]; omega
  refine (condX_iff _ _ _).2 ⟨fun h => ?_, fun h => ⟨?_, (condX_iff _ _ _).2 ⟨fun h2 => ?_, fun h2 => ?_⟩⟩⟩
  · have h := of_decide_eq_true h
    unfold modI; rw [if_pos h]
  · have h := of_decide_eq_false h
    omega
  · have h := of_decide_eq_false h
    have h2 := of_decide_eq_true h2
    have hb := modI_bd (x := x) (n := n) (by omega)
    have := key (by omega)
    rw [if_pos h2] at this
    rw [this] at hb ⊢
    rw [wrap1 (by omega) (by omega)]
  · have h := of_decide_eq_false h
    have h2 := of_decide_eq_false h2
    have := key (by omega)
    rw [if_neg h2] at this
    rw [this]
theorem vcModK : ∀ (x : Int × Int), x.2 < 9223372036854775808 → Held (fnX ((fun _ => cx0 17 0) x) (bodyOf Try.f42) Try.f42.results.toList [.g (.int .i64 x.1), .g (.int .i64 x.2)] [] (fun r _ => r = .g (.int .i64 (modI x.1 x.2)))) := held2 (p := fun (x : Int × Int) (_ : x.2 < 9223372036854775808) => fnX ((fun _ => cx0 17 0) x) (bodyOf Try.f42) Try.f42.results.toList [.g (.int .i64 x.1), .g (.int .i64 x.2)] [] (fun r _ => r = .g (.int .i64 (modI x.1 x.2)))) vcModE vcMod
def cx_rMod (_ : Int × Int) : Cx := cx0 17 0
theorem ok_rMod : ExactSound Try.prog 42 X_rMod.rule :=
  exact_rule (ty := ty) (Γ := ΓOf Γ0) hm tyOK Γ0_ok (fnOK_of Try.func42 (by kernel_rfl) (by kernel_rfl)) Try.func42 (body_some (by kernel_rfl)) X_rMod Try.ntmps42 (fun _ => Nat.le_of_ble_eq_true rfl) (fun _ => rfl) (fun x => rfl) (fun x => (cx_rMod x).cut) (fun x => (cx_rMod x).loop) fun x h => vcModK x h
def Γ8 : List (Nat × Rule) := (42, .exact X_rMod.rule) :: Γ7
theorem Γ8_ok : ΓOK Try.prog (ΓOf Γ8) := (ΓOf_cons ok_rMod Γ7_ok)
def spL (b : ByteArray) (at' : Int) : List Int := (byL b).set (modI at' b.size).toNat (byteAt b (modI at' b.size) % 255 + 1)
def cx7 (n e : Nat) : Cx := ⟨ty, ΓOf Γ8, fun _ => [], fun _ _ => [], n, e⟩
def VcSpoil : Prop := ∀ (b : ByteArray) (x : Int), (0 : Nat) < ByteArray.size b → ByteArray.size b ≤ (5000 : Nat) → condX (decide (b = ByteArray.mk #[])) (SV.tup [SV.g (Value.string (ByteArray.mk #[])), SV.g (Value.int IntKind.i64 (0 : Int))]
  = SV.tup [SV.g (Value.string (bz (spL b x))), SV.g (Value.int IntKind.i64 (0 : Int))]) ([SV.g (Value.int IntKind.i64 x), SV.g (Value.int IntKind.i64 (↑(ByteArray.size b) : Int))] = [SV.g (Value.int IntKind.i64 x), SV.g
  (Value.int IntKind.i64 (↑(ByteArray.size b) : Int))] ∧ (↑(ByteArray.size b) : Int) < (9223372036854775808 : Int) ∧ ((0 : Int) ≤ modI x (↑(ByteArray.size b) : Int) ∧ modI x (↑(ByteArray.size b) : Int) ≤ (↑(ByteArray.size
  b) : Int)) ∧ ((0 : Int) ≤ modI x (↑(ByteArray.size b) : Int) ∧ modI x (↑(ByteArray.size b) : Int) < (↑(ByteArray.size b) : Int)) ∧ (255 : Int) ≠ (0 : Int) ∧ ((0 : Int) ≤ IntKind.wrap IntKind.i64 (modI x (↑(ByteArray.size
  b) : Int) + (1 : Int)) ∧ IntKind.wrap IntKind.i64 (modI x (↑(ByteArray.size b) : Int) + (1 : Int)) ≤ (↑(ByteArray.size b) : Int)) ∧ ByteArray.size (ByteArray.extract b (0 : Nat) (Int.toNat (modI x (↑(ByteArray.size b) :
  Int)))) + (1 : Nat) ≤ (9223372036854775807 : Nat) ∧ ByteArray.size (ByteArray.extract b (0 : Nat) (Int.toNat (modI x (↑(ByteArray.size b) : Int))) ++ ByteArray.mk (List.toArray (List.map cellByte (List.take (1 : Nat)
  (List.drop (0 : Nat) [SV.g (Value.int IntKind.u8 (IntKind.wrap IntKind.u8 (Int.tmod (byteAt b (modI x (↑(ByteArray.size b) : Int))) (255 : Int) + (1 : Int))))]))))) + ByteArray.size (ByteArray.extract b (Int.toNat
  (IntKind.wrap IntKind.i64 (modI x (↑(ByteArray.size b) : Int) + (1 : Int)))) (ByteArray.size b)) ≤ (9223372036854775807 : Nat) ∧ SV.tup [SV.g (Value.string (ByteArray.extract b (0 : Nat) (Int.toNat (modI x
  (↑(ByteArray.size b) : Int))) ++ ByteArray.mk (List.toArray (List.map cellByte (List.take (1 : Nat) (List.drop (0 : Nat) [SV.g (Value.int IntKind.u8 (IntKind.wrap IntKind.u8 (Int.tmod (byteAt b (modI x (↑(ByteArray.size
  b) : Int))) (255 : Int) + (1 : Int))))])))) ++ ByteArray.extract b (Int.toNat (IntKind.wrap IntKind.i64 (modI x (↑(ByteArray.size b) : Int) + (1 : Int)))) (ByteArray.size b))), SV.g (Value.int IntKind.i64 (0 : Int))] =
  SV.tup [SV.g (Value.string (bz (spL b x))), SV.g (Value.int IntKind.i64 (0 : Int))])
def VcSpoilS : Prop := ∀ (b : ByteArray) (x : Int), 0 < b.size → b.size ≤ 5000 → fnX (⟨ty, ΓOf Γ8, fun _ => [], fun _ _ => [], 29, 0⟩) (bodyOf Try.f26) Try.f26.results.toList [.g (.string b), .g (.int .i64 x)] [] (fun r _ => r = .tup [.g (.string (bz (spL b x))), .g (.int .i64 0)])
theorem vcSpoilE : VcSpoil = VcSpoilS := by kernel_rfl
set_option maxHeartbeats 4000000 in
theorem vcSpoil : VcSpoil := by
  intro b x h0 h5
  obtain ⟨m0, m1⟩ := modI_bd (x := x) (n := b.size) (by omega)
  unfold spL
  generalize hm : modI x b.size = m at *
  obtain ⟨i, rfl⟩ := Int.eq_ofNat_of_zero_le m0
  have e1 : IntKind.wrap IntKind.i64 ((i : Int) + 1) = ((i + 1 : Nat) : Int) := by rw [wrap1 (by omega) (by omega)]; rfl
  have hb := byteAt_lt b i
  have e2 : IntKind.wrap IntKind.u8 (Int.tmod (byteAt b i) 255 + 1) = byteAt b i % 255 + 1 := by
    rw [tmod_nn (by omega), wrapU8 (by omega) (by omega)]
  rw [e1, e2]
  refine (condX_iff _ _ _).2 ⟨fun h => ?_, fun h => ⟨rfl, by omega, ⟨by omega, by omega⟩, ⟨by omega, by omega⟩, by decide, ⟨by omega, by omega⟩, ?_, ?_, ?_⟩⟩
  · have h := of_decide_eq_true h
    have := size_zero.1 h; omega
  · rw [size_ext]; omega
  · rw [ByteArray.size_append, size_ext, size_ext]
    have : (ByteArray.mk (List.toArray (List.map cellByte (List.take 1 (List.drop 0 [SV.g (Value.int IntKind.u8 (byteAt b i % 255 + 1))]))))).size = 1 := rfl
    rw [this]; omega
  · have e3 : ByteArray.mk (List.toArray (List.map cellByte (List.take 1 (List.drop 0 [SV.g (Value.int IntKind.u8 (byteAt b i % 255 + 1))])))) = bz [byteAt b i % 255 + 1] := rfl
    rw [e3]
    have e4 : (Int.toNat (i : Int)) = i := rfl
    have e5 : (Int.toNat ((i + 1 : Nat) : Int)) = i + 1 := rfl
    rw [e4, e5]
    have key : b.extract 0 i ++ bz [byteAt b i % 255 + 1] ++ b.extract (i + 1) b.size = bz ((byL b).set i (byteAt b i % 255 + 1)) := by
      apply byL_inj
      rw [byL_app, byL_app, byL_ext, byL_ext, byL_bz (l := [byteAt b i % 255 + 1]), byL_bz]
      · rw [List.set_eq_take_append_cons_drop, if_pos (by rw [byL_len]; omega), List.drop_zero, List.take_of_length_le (Nat.le_of_eq (byL_len b))]
        simp
      · intro y hy
        rcases List.mem_or_eq_of_mem_set hy with h | rfl
        · exact byL_nn b y h
        · omega
      · intro y hy
        simp only [List.mem_cons, List.not_mem_nil, or_false] at hy
        subst hy; omega
    rw [key]
theorem vcSpoilK : ∀ (b : ByteArray) (x : Int), 0 < b.size → b.size ≤ 5000 → Held (fnX (⟨ty, ΓOf Γ8, fun _ => [], fun _ _ => [], 29, 0⟩) (bodyOf Try.f26) Try.f26.results.toList [.g (.string b), .g (.int .i64 x)] [] (fun r _ => r = .tup [.g (.string (bz (spL b x))), .g (.int .i64 0)])) := held4 (p := fun (b : ByteArray) (x : Int) (_ : 0 < b.size) (_ : b.size ≤ 5000) => fnX (⟨ty, ΓOf Γ8, fun _ => [], fun _ _ => [], 29, 0⟩) (bodyOf Try.f26) Try.f26.results.toList [.g (.string b), .g (.int .i64 x)] [] (fun r _ => r = .tup [.g (.string (bz (spL b x))), .g (.int .i64 0)])) vcSpoilE vcSpoil
theorem vcSpoil2K : ∀ x : ByteArray × Int, 0 < x.1.size ∧ x.1.size ≤ 5000 → Held (fnX (⟨ty, ΓOf Γ8, fun _ => [], fun _ _ => [], 29, 0⟩) (bodyOf Try.f26) Try.f26.results.toList [.g (.string x.1), .g (.int .i64 x.2)] [] (fun r _ => r = .tup [.g (.string (bz (spL x.1 x.2))), .g (.int .i64 0)])) := fun x h => vcSpoilK x.1 x.2 h.1 h.2
def X_rSpoil : XC := ⟨ByteArray × Int, fun | [.g (.string b), .g (.int .i64 x)] => some (b, x) | _ => none, fun x => [.g (.string x.1), .g (.int .i64 x.2)], fun x => 0 < x.1.size ∧ x.1.size ≤ 5000, fun x => .tup [.g (.string (bz (spL x.1 x.2))), .g (.int .i64 0)]⟩
def cx_rSpoil (_ : ByteArray × Int) : Cx := ⟨ty, ΓOf Γ8, fun _ => [], fun _ _ => [], 29, 0⟩
theorem ok_rSpoil : ExactSound Try.prog 26 X_rSpoil.rule :=
  exact_rule (ty := ty) (Γ := ΓOf Γ8) hm tyOK Γ8_ok (fnOK_of Try.func26 (by kernel_rfl) (by kernel_rfl)) Try.func26 (body_some (by kernel_rfl)) X_rSpoil Try.ntmps26 (fun _ => Nat.le_of_ble_eq_true rfl) (fun _ => rfl) (fun x => rfl) (fun x => (cx_rSpoil x).cut) (fun x => (cx_rSpoil x).loop) fun x h => vcSpoil2K x h
def Γ9 : List (Nat × Rule) := (26, .exact X_rSpoil.rule) :: Γ8
theorem Γ9_ok : ΓOK Try.prog (ΓOf Γ9) := (ΓOf_cons ok_rSpoil Γ8_ok)
theorem wr_size {u : U} (ho : okU u) (c : Bool) : 0 < (wrS u c).size ∧ (wrS u c).size ≤ 5000 := by
  have hb := congrArg List.length (byL_wr ho c)
  have h1 := headL_lt u
  have h2 := tailL_len u c
  have hhi := headL_hi u
  have hdl := ho.2.1.2
  rw [byL_len] at hb
  simp only [List.length_append, List.length_cons, byL_len] at hb
  omega
theorem rd_sp {u : U} (ho : okU u) (x : Int) : (rdT (bz (spL (wrS u true) x))).2.2 ≠ 0 := by
  have hs := (wr_size ho true).1
  obtain ⟨m0, m1⟩ := modI_bd (x := x) (n := (wrS u true).size) (by omega)
  unfold spL
  generalize hm : modI x (wrS u true).size = m at *
  obtain ⟨i, rfl⟩ := Int.eq_ofNat_of_zero_le m0
  have hb := byteAt_lt (wrS u true) i
  refine rd_spoilt ho (i := i) (v := byteAt (wrS u true) i) (byL_get (by omega)) ?_
  rw [byL_bz]
  · rfl
  · intro y hy
    rcases List.mem_or_eq_of_mem_set hy with h | rfl
    · exact byL_nn _ y h
    · omega
def cx9 (n e : Nat) : Cx := ⟨ty, ΓOf Γ9, fun _ => [], fun _ _ => [], n, e⟩
def VcTpduReads : Prop := ∀ (b : ByteArray), [SV.g (Value.string b)] = [SV.g (Value.string b)] ∧ True ∧ [SV.g (Value.string b)] = [SV.g (Value.string b)] ∧ True ∧ condX (bif bif !(U.k (Prod.fst (rdT b)) == U.k (Prod.fst (rdT b)) && (U.to
  (Prod.fst (rdT b)) == U.to (Prod.fst (rdT b)) && (U.fr (Prod.fst (rdT b)) == U.fr (Prod.fst (rdT b)) && (U.cl (Prod.fst (rdT b)) == U.cl (Prod.fst (rdT b)) && (U.sz (Prod.fst (rdT b)) == U.sz (Prod.fst (rdT b)) && (U.nu
  (Prod.fst (rdT b)) == U.nu (Prod.fst (rdT b)) && (U.cr (Prod.fst (rdT b)) == U.cr (Prod.fst (rdT b)) && (U.re (Prod.fst (rdT b)) == U.re (Prod.fst (rdT b)) && (U.e (Prod.fst (rdT b)) == U.e (Prod.fst (rdT b)) && (decide
  (U.d (Prod.fst (rdT b)) = U.d (Prod.fst (rdT b))) && true)))))))))) then true else !Prod.fst (Prod.snd (rdT b)) == Prod.fst (Prod.snd (rdT b)) then true else Prod.snd (Prod.snd (rdT b)) != Prod.snd (Prod.snd (rdT b)))
  (SV.g (Value.bool false) = SV.g (Value.bool true)) (condX (Prod.snd (Prod.snd (rdT b)) != (0 : Int)) (True ∧ SV.g (Value.bool true) = SV.g (Value.bool true)) ([SV.agg (List.take (10 : Nat) (List.drop (0 : Nat) [SV.g
  (Value.int IntKind.i64 (U.k (Prod.fst (rdT b)))), SV.g (Value.int IntKind.i64 (U.to (Prod.fst (rdT b)))), SV.g (Value.int IntKind.i64 (U.fr (Prod.fst (rdT b)))), SV.g (Value.int IntKind.i64 (U.cl (Prod.fst (rdT b)))),
  SV.g (Value.int IntKind.i64 (U.sz (Prod.fst (rdT b)))), SV.g (Value.int IntKind.i64 (U.nu (Prod.fst (rdT b)))), SV.g (Value.int IntKind.i64 (U.cr (Prod.fst (rdT b)))), SV.g (Value.int IntKind.i64 (U.re (Prod.fst (rdT
  b)))), SV.g (Value.bool (U.e (Prod.fst (rdT b)))), SV.g (Value.string (U.d (Prod.fst (rdT b))))])), SV.g (Value.bool (Prod.fst (Prod.snd (rdT b))))] = [SV.agg (U.cells (Prod.fst (rdT b))), SV.g (Value.bool (Prod.fst
  (Prod.snd (rdT b))))] ∧ True ∧ ((bif wrE (Prod.fst (rdT b)) == (0 : Int) then decide (wrS (Prod.fst (rdT b)) (Prod.fst (Prod.snd (rdT b))) = b) else false) = true → True) ∧ SV.g (Value.bool (bif bif wrE (Prod.fst (rdT
  b)) == (0 : Int) then decide (wrS (Prod.fst (rdT b)) (Prod.fst (Prod.snd (rdT b))) = b) else false then true else false)) = SV.g (Value.bool true)))
def VcTpduReadsS : Prop := ∀ (b : ByteArray), fnX (cx9 54 1) (bodyOf Try.f6) Try.f6.results.toList [.g (.string b)] [] (fun r _ => r = .g (.bool true))
theorem vcTpduReadsE : VcTpduReads = VcTpduReadsS := by kernel_rfl
set_option maxHeartbeats 4000000 in
theorem vcTpduReads : VcTpduReads := by
  intro b
  refine ⟨rfl, trivial, rfl, trivial, ?_⟩
  simp only [beq_self_eq_true, decide_true, Bool.and_true, bne_self_eq_false, Bool.not_true, cond_false]
  refine (condX_iff _ _ _).2 ⟨fun h => Bool.noConfusion h, fun _ => (condX_iff _ _ _).2 ⟨fun _ => by simp, fun h2 => ?_⟩⟩
  have h2 : (rdT b).2.2 = 0 := by simpa using h2
  obtain ⟨o, w⟩ := rd_wr (b := b) (u := (rdT b).1) (c := (rdT b).2.1) (by rw [← h2])
  refine ⟨rfl, trivial, fun _ => trivial, ?_⟩
  have e : wrE (rdT b).1 = 0 := by rw [wrE, if_pos o]
  rw [e, w]
  simp
theorem vcTpduReadsK : ∀ (b : ByteArray), Held (fnX (cx9 54 1) (bodyOf Try.f6) Try.f6.results.toList [.g (.string b)] [] (fun r _ => r = .g (.bool true))) := held1 (p := fun (b : ByteArray) => fnX (cx9 54 1) (bodyOf Try.f6) Try.f6.results.toList [.g (.string b)] [] (fun r _ => r = .g (.bool true))) vcTpduReadsE vcTpduReads
def VcTpduBack : Prop := ∀ (u : U) (c : Bool), condX (!decide (okU u)) (True ∧ SV.g (Value.bool true) = SV.g (Value.bool true)) ([SV.agg (List.take (10 : Nat) (List.drop (0 : Nat) [SV.g (Value.int IntKind.i64 (U.k u)), SV.g (Value.int
  IntKind.i64 (U.to u)), SV.g (Value.int IntKind.i64 (U.fr u)), SV.g (Value.int IntKind.i64 (U.cl u)), SV.g (Value.int IntKind.i64 (U.sz u)), SV.g (Value.int IntKind.i64 (U.nu u)), SV.g (Value.int IntKind.i64 (U.cr u)),
  SV.g (Value.int IntKind.i64 (U.re u)), SV.g (Value.bool (U.e u)), SV.g (Value.string (U.d u))])), SV.g (Value.bool c)] = [SV.agg (U.cells u), SV.g (Value.bool c)] ∧ True ∧ condX (wrE u != (0 : Int)) (SV.g (Value.bool
  false) = SV.g (Value.bool true)) ([SV.g (Value.string (wrS u c))] = [SV.g (Value.string (wrS u c))] ∧ True ∧ ((bif bif Prod.snd (Prod.snd (rdT (wrS u c))) == (0 : Int) then U.k (Prod.fst (rdT (wrS u c))) == U.k u &&
  (U.to (Prod.fst (rdT (wrS u c))) == U.to u && (U.fr (Prod.fst (rdT (wrS u c))) == U.fr u && (U.cl (Prod.fst (rdT (wrS u c))) == U.cl u && (U.sz (Prod.fst (rdT (wrS u c))) == U.sz u && (U.nu (Prod.fst (rdT (wrS u c))) ==
  U.nu u && (U.cr (Prod.fst (rdT (wrS u c))) == U.cr u && (U.re (Prod.fst (rdT (wrS u c))) == U.re u && (U.e (Prod.fst (rdT (wrS u c))) == U.e u && (decide (U.d (Prod.fst (rdT (wrS u c))) = U.d u) && true))))))))) else
  false then Prod.fst (Prod.snd (rdT (wrS u c))) == c else false) = true → True) ∧ SV.g (Value.bool (bif bif bif Prod.snd (Prod.snd (rdT (wrS u c))) == (0 : Int) then U.k (Prod.fst (rdT (wrS u c))) == U.k u && (U.to
  (Prod.fst (rdT (wrS u c))) == U.to u && (U.fr (Prod.fst (rdT (wrS u c))) == U.fr u && (U.cl (Prod.fst (rdT (wrS u c))) == U.cl u && (U.sz (Prod.fst (rdT (wrS u c))) == U.sz u && (U.nu (Prod.fst (rdT (wrS u c))) == U.nu u
  && (U.cr (Prod.fst (rdT (wrS u c))) == U.cr u && (U.re (Prod.fst (rdT (wrS u c))) == U.re u && (U.e (Prod.fst (rdT (wrS u c))) == U.e u && (decide (U.d (Prod.fst (rdT (wrS u c))) = U.d u) && true))))))))) else false then
  Prod.fst (Prod.snd (rdT (wrS u c))) == c else false then true else false)) = SV.g (Value.bool true)))
def VcTpduBackS : Prop := ∀ (u : U) (c : Bool), fnX (cx9 43 2) (bodyOf Try.f7) Try.f7.results.toList [.agg u.cells, .g (.bool c)] [] (fun r _ => r = .g (.bool true))
theorem vcTpduBackE : VcTpduBack = VcTpduBackS := by kernel_rfl
set_option maxHeartbeats 4000000 in
theorem vcTpduBack : VcTpduBack := by
  intro u c
  refine (condX_iff _ _ _).2 ⟨fun _ => ⟨trivial, rfl⟩, fun h => ⟨rfl, trivial, ?_⟩⟩
  have ho : okU u := by simpa using h
  have e : wrE u = 0 := by rw [wrE, if_pos ho]
  rw [e, rd_back ho c]
  refine (condX_iff _ _ _).2 ⟨fun h => by simp at h, fun _ => ⟨rfl, trivial, fun _ => trivial, ?_⟩⟩
  simp
theorem vcTpduBackK : ∀ (u : U) (c : Bool), Held (fnX (cx9 43 2) (bodyOf Try.f7) Try.f7.results.toList [.agg u.cells, .g (.bool c)] [] (fun r _ => r = .g (.bool true))) := held2 (p := fun (u : U) (c : Bool) => fnX (cx9 43 2) (bodyOf Try.f7) Try.f7.results.toList [.agg u.cells, .g (.bool c)] [] (fun r _ => r = .g (.bool true))) vcTpduBackE vcTpduBack
def VcTpduSpoilt : Prop := ∀ (u : U) (x : Int), condX (!decide (okU u)) (True ∧ SV.g (Value.bool true) = SV.g (Value.bool true)) ([SV.agg (List.take (10 : Nat) (List.drop (0 : Nat) [SV.g (Value.int IntKind.i64 (U.k u)), SV.g (Value.int IntKind.i64
  (U.to u)), SV.g (Value.int IntKind.i64 (U.fr u)), SV.g (Value.int IntKind.i64 (U.cl u)), SV.g (Value.int IntKind.i64 (U.sz u)), SV.g (Value.int IntKind.i64 (U.nu u)), SV.g (Value.int IntKind.i64 (U.cr u)), SV.g
  (Value.int IntKind.i64 (U.re u)), SV.g (Value.bool (U.e u)), SV.g (Value.string (U.d u))])), SV.g (Value.bool true)] = [SV.agg (U.cells u), SV.g (Value.bool true)] ∧ True ∧ condX (wrE u != (0 : Int)) (SV.g (Value.bool
  false) = SV.g (Value.bool true)) ([SV.g (Value.string (wrS u true)), SV.g (Value.int IntKind.i64 x)] = [SV.g (Value.string (wrS u true)), SV.g (Value.int IntKind.i64 x)] ∧ ((0 : Nat) < ByteArray.size (wrS u true) ∧
  ByteArray.size (wrS u true) ≤ (5000 : Nat)) ∧ [SV.g (Value.string (bz (spL (wrS u true) x)))] = [SV.g (Value.string (bz (spL (wrS u true) x)))] ∧ True ∧ ((Prod.snd (Prod.snd (rdT (bz (spL (wrS u true) x)))) != (0 : Int))
  = true → True) ∧ SV.g (Value.bool (bif Prod.snd (Prod.snd (rdT (bz (spL (wrS u true) x)))) != (0 : Int) then true else false)) = SV.g (Value.bool true)))
def VcTpduSpoiltS : Prop := ∀ (u : U) (x : Int), fnX (cx9 38 2) (bodyOf Try.f8) Try.f8.results.toList [.agg u.cells, .g (.int .i64 x)] [] (fun r _ => r = .g (.bool true))
theorem vcTpduSpoiltE : VcTpduSpoilt = VcTpduSpoiltS := by kernel_rfl
set_option maxHeartbeats 4000000 in
theorem vcTpduSpoilt : VcTpduSpoilt := by
  intro u x
  refine (condX_iff _ _ _).2 ⟨fun _ => ⟨trivial, rfl⟩, fun h => ⟨rfl, trivial, ?_⟩⟩
  have ho : okU u := by simpa using h
  have e : wrE u = 0 := by rw [wrE, if_pos ho]
  have hs := rd_sp ho x
  rw [e]
  refine (condX_iff _ _ _).2 ⟨fun h => by simp at h, fun _ => ⟨rfl, wr_size ho true, rfl, trivial, fun _ => trivial, ?_⟩⟩
  have : ((rdT (bz (spL (wrS u true) x))).2.2 != (0 : Int)) = true := bne_iff_ne.2 hs
  rw [this]; rfl
theorem vcTpduSpoiltK : ∀ (u : U) (x : Int), Held (fnX (cx9 38 2) (bodyOf Try.f8) Try.f8.results.toList [.agg u.cells, .g (.int .i64 x)] [] (fun r _ => r = .g (.bool true))) := held2 (p := fun (u : U) (x : Int) => fnX (cx9 38 2) (bodyOf Try.f8) Try.f8.results.toList [.agg u.cells, .g (.int .i64 x)] [] (fun r _ => r = .g (.bool true))) vcTpduSpoiltE vcTpduSpoilt
end Go.Proofs.Ytmblefpbfpjneaa
