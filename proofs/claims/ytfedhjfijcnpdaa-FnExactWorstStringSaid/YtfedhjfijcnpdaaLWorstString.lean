/- The walk of FnExactWorstString. -/
import Derived.Test.YtfedhjfijcnpdaaWorst
import Derived.Test.YtfedhjfijcnpdaaOpBody
import Derived.Test.YtfedhjfijcnpdaaInts
import Derived.Test.YtfedhjfijcnpdaaRg2
namespace Go.Proofs.Ytfedhjfijcnpdaa
open Go.ChangeShapes Go.WideShapes Go.ChangeAt Go.RowKit Go.Joins Tr
set_option linter.unusedSimpArgs false
set_option linter.unusedVariables false
set_option maxRecDepth 20000

set_option maxHeartbeats 4000000 in
theorem walkFnExactWorstString (J : Int) (zs : List LimbV) (ps : List Int) (u v1 : Value) (w : World) (h : RdLimb w u zs) (h1 : RdI w v1 ps) : Calls Try.prog 8 #[.agg #[.int .i64 J, u], v1] w fun e w' => e = .returned (.bool true) ∧ Below w.heap.size w w' := by
  have hmx : zs.length ≤ 9223372036854775807 := by obtain ⟨_, _, _, _, _, q1, q2, _⟩ := h.open; omega
  obtain ⟨ad, cap, rfl⟩ := h.shape
  obtain ⟨a1, c1, rfl⟩ := h1.shape
  have hb0 := below_alloc1 w (.cells #[.int .i64 J, .slice ad zs.length cap] 45)
  have hx0 := BX.newL w J (.slice ad zs.length cap)
  have HS := Lib.hid (And.intro hb0 (And.intro hx0 (And.intro (h.below hb0) (h1.below hb0))))
  clear hb0 hx0 h h1
  by_cases hl1 : ps.length ≤ 1048576
  · have hg1 : ¬ (1048576 : Int) < (ps.length : Int) := by omega
    by_cases hz : zs.length ≤ 1048576
    · skip
      go_enter Try.func8, Try.ntmps8
      go_wp2_with (fail)
      generalize w.alloc (.cells #[.int .i64 J, .slice ad zs.length cap] 45) = w1 at HS ⊢
      refine (szBody_ok J _ _ _ 1048576 (by omega) (by omega) _).mono ?_
      rintro e w2 ⟨rfl, hB⟩
      have hg0 : ¬ (1048576 : Int) - (zs.length : Int) < 0 := by omega
      have HB1 := Lib.hid HS.out.1
      have HL := Lib.hid HS.out.2
      clear HS
      obtain ⟨L0, L1⟩ := HL.out.1.below hB
      go_wp2_with (fail)
      have HSP := Lib.hid (fun u x1 w' h y1 => specWorstString_any J zs ps u x1 w' h y1)
      have HIM := Lib.hid (fun u x1 w' h y1 => implWorstString_any J zs ps u x1 w' h y1)
      generalize worstV J zs ps = res at HSP HIM
      refine (toBody_any J zs hz _ _ (HL.out.2.1.below hB)).mono ?_
      rintro e wc35 ⟨vb0, rfl, o0, hb⟩
      have bo0 := hB.size
      replace hB := bvia hB hb
      clear L0 L1 hb
      obtain ⟨L0, L1⟩ := HL.out.1.below hB
      obtain ⟨a0, q0, rfl⟩ := o0.rd.shape
      go_wp2_with (fail)
      refine (toIntS_any ps hl1 _ _ (HL.out.2.2.below hB)).mono ?_
      rintro e wc36 ⟨vi1, rfl, o1, hb⟩
      have do0_o1 := dis_of o0.lt o1.lt (Nat.le_refl _)
      have do1_o0 := dis_of' o0.lt o1.lt (Nat.le_refl _)
      have bo1 := hB.size
      replace o0 := o0.below hb
      replace hB := bvia hB hb
      clear L0 L1 hb
      obtain ⟨L0, L1⟩ := HL.out.1.below hB
      go_wp2_with (fail)
      refine (HSP.out _ _ _ o0.rd o1.rd).mono ?_
      rintro e wc37 ⟨rfl, hb⟩
      replace o0 := o0.below hb
      replace o1 := o1.below hb
      replace hB := bvia hB hb
      clear L0 L1 hb
      obtain ⟨L0, L1⟩ := HL.out.1.below hB
      go_wp2_with (fail)
      clear o0 o1
      refine (toBody_any J zs hz _ _ (HL.out.2.1.below hB)).mono ?_
      rintro e wc38 ⟨vb1, rfl, o0, hb⟩
      have bo0 := hB.size
      replace hB := bvia hB hb
      clear L0 L1 hb
      obtain ⟨L0, L1⟩ := HL.out.1.below hB
      obtain ⟨a0, q0, rfl⟩ := o0.rd.shape
      have hba := below_alloc1 wc38 (.cells #[.int .i64 J, .slice a0 zs.length q0] 26)
      have HX := Lib.hid (BX.new wc38 J (.slice a0 zs.length q0))
      replace o0 := o0.below hba
      replace hB := bvia hB hba
      have hgx := hB.size
      clear hba L0 L1
      obtain ⟨L0, L1⟩ := HL.out.1.below hB
      have HB3 := Lib.hid (And.intro hB o0)
      clear hB o0 hgx
      go_wp2_with (fail)
      generalize wc38.alloc (.cells #[.int .i64 J, .slice a0 zs.length q0] 26) = wx at HX HB3 L0 L1 ⊢
      generalize hgq : wc38.heap.size = gx at HX ⊢
      obtain ⟨hB, o0⟩ := HB3.out
      have hX := HX.out
      obtain ⟨X0, X1⟩ := id hX
      clear HB3 HX
      clear hgq
      refine (toIntS_any ps hl1 _ _ (HL.out.2.2.below hB)).mono ?_
      rintro e wc39 ⟨vj1, rfl, o1, hb⟩
      have do0_o1 := dis_of o0.lt o1.lt (Nat.le_refl _)
      have do1_o0 := dis_of' o0.lt o1.lt (Nat.le_refl _)
      have bo1 := hB.size
      replace o0 := o0.below hb
      replace hX := hX.below hb
      replace hB := bvia hB hb
      clear L0 L1 hb X0 X1
      obtain ⟨L0, L1⟩ := HL.out.1.below hB
      obtain ⟨X0, X1⟩ := id hX
      go_wp2_with (fail)
      refine (HIM.out _ _ _ o0.rd o1.rd).mono ?_
      rintro e wc40 ⟨rfl, hb⟩
      replace o0 := o0.below hb
      replace o1 := o1.below hb
      replace hX := hX.below hb
      replace hB := bvia hB hb
      clear L0 L1 hb X0 X1
      obtain ⟨L0, L1⟩ := HL.out.1.below hB
      obtain ⟨X0, X1⟩ := id hX
      go_wp2_with (fail)
      replace hX := hX.below (dr1 _).below
      replace o0 := o0.below (dr1 _).below
      replace o1 := o1.below (dr1 _).below
      replace hB := bvia hB (dr1 _).below
      clear L0 L1 X0 X1
      with_reducible refine region_beg (n := 5) (S := (fun w' => (w'.cell? ⟨w.heap.size, 0, none⟩ = some (.int .i64 J) ∧ w'.cell? ⟨w.heap.size, 1, none⟩ = some (.slice ad zs.length cap)) ∧ w'.cell? ⟨gx, 0, none⟩ = some (.int .i64 J) ∧ w'.cell? ⟨gx, 1, none⟩ = some (.slice a0 zs.length q0))) ?b1_u28 ?b2_u28 ?b3_u28 (fun hHeld => ?b4_u28)
      case b1_u28 => kernel_rfl
      case b2_u28 => kernel_rfl
      case b3_u28 => (try dsimp only); exact ⟨HL.out.1.below hB, hX⟩
      with_reducible refine takeI2 (i := 0) (v := ?sv_u29) (oi := ?s0_u29) (by simp only [List.getElem?_toArray, List.getElem?_cons_succ, List.getElem?_cons_zero]; exact rfl) ?s1_u29 ?s2_u29 ?s3_u29 ?s4_u29 ?s5_u29 ?s6_u29 ?s7_u29
      case s1_u29 => kernel_rfl
      case s2_u29 => kernel_rfl
      case s3_u29 => kernel_rfl
      case s4_u29 => exact fun _ _ _ h => h
      case s5_u29 => exact Or.inl ⟨rfl, by intro w hSw; (try dsimp only at hSw); go_simp; try with_reducible rfl⟩
      case s6_u29 => assumption
      try simp only [Act.put, List.setIfInBounds_toArray, List.set_cons_zero, List.set_cons_succ]
      with_reducible refine takeI2 (i := 1) (v := ?sv_u30) (oi := ?s0_u30) (by simp only [List.getElem?_toArray, List.getElem?_cons_succ, List.getElem?_cons_zero]; exact rfl) ?s1_u30 ?s2_u30 ?s3_u30 ?s4_u30 ?s5_u30 ?s6_u30 ?s7_u30
      case s1_u30 => kernel_rfl
      case s2_u30 => kernel_rfl
      case s3_u30 => kernel_rfl
      case s4_u30 => exact fun _ _ _ h => h
      case s5_u30 => exact Or.inl ⟨rfl, by intro w hSw; (try dsimp only at hSw); go_simp; try with_reducible rfl⟩
      case s6_u30 => assumption
      try simp only [Act.put, List.setIfInBounds_toArray, List.set_cons_zero, List.set_cons_succ]
      with_reducible refine wpAnyH_ready (rs := [2]) ?s1_u31 one_ne ?s2_u31
      case s1_u31 => kernel_rfl
      with_reducible refine AllReadyH.cons (o := ?s0_u31) (by simp only [List.getElem?_toArray, List.getElem?_cons_succ, List.getElem?_cons_zero]; exact rfl) (fun K hK => ?s3_u31) AllReadyH.nil
      go_simp
      refine (toBody_any J zs hz _ _ (HL.out.2.1.below hB)).mono ?_
      rintro e wr42 ⟨vb, rfl, ob, hb⟩
      replace o0 := o0.below hb
      replace o1 := o1.below hb
      replace hX := hX.below hb
      replace hB := bvia hB hb
      clear hb
      go_wp2_with fail
      with_reducible refine hK.out _ _ ?s1_u32 (fun hHeld => ?s2_u32)
      case s1_u32 => (try dsimp only); exact ⟨HL.out.1.below hB, hX⟩
      clear hK K
      try simp only [Act.put, List.setIfInBounds_toArray, List.set_cons_zero, List.set_cons_succ]
      with_reducible refine wpAnyH_ready (rs := [3]) ?s1_u33 one_ne ?s2_u33
      case s1_u33 => kernel_rfl
      with_reducible refine AllReadyH.cons (o := ?s0_u33) (by simp only [List.getElem?_toArray, List.getElem?_cons_succ, List.getElem?_cons_zero]; exact rfl) (fun K hK => ?s3_u33) AllReadyH.nil
      go_simp
      refine (eqBody_any J zs _ _ _ o0.rd ob.rd).mono ?_
      rintro e wr43 ⟨rfl, hb⟩
      replace o0 := o0.below hb
      replace o1 := o1.below hb
      replace hX := hX.below hb
      replace hB := bvia hB hb
      clear hb ob
      go_wp2_with fail
      with_reducible refine hK.out _ _ ?s1_u34 (fun hHeld => ?s2_u34)
      case s1_u34 => (try dsimp only); exact ⟨HL.out.1.below hB, hX⟩
      clear hK K
      try simp only [Act.put, List.setIfInBounds_toArray, List.set_cons_zero, List.set_cons_succ]
      with_reducible refine takeI2 (i := 4) (v := ?sv_u35) (oi := ?s0_u35) (by simp only [List.getElem?_toArray, List.getElem?_cons_succ, List.getElem?_cons_zero]; exact rfl) ?s1_u35 ?s2_u35 ?s3_u35 ?s4_u35 ?s5_u35 ?s6_u35 ?s7_u35
      case s1_u35 => kernel_rfl
      case s2_u35 => kernel_rfl
      case s3_u35 => kernel_rfl
      case s4_u35 => exact fun _ _ _ h => h
      case s5_u35 => exact Or.inl ⟨rfl, by intro w hSw; (try dsimp only at hSw); go_simp; try with_reducible rfl⟩
      case s6_u35 => assumption
      try simp only [Act.put, List.setIfInBounds_toArray, List.set_cons_zero, List.set_cons_succ]
      with_reducible refine wpAnyH_done ?s1_u36 ?s2_u36 _
      case s1_u36 => kernel_rfl
      obtain ⟨L0, L1⟩ := HL.out.1.below hB
      obtain ⟨X0, X1⟩ := id hX
      go_wp2_with (fail)
      refine (toIntS_any ps hl1 _ _ (HL.out.2.2.below hB)).mono ?_
      rintro e wc43 ⟨vk1, rfl, p1, hb⟩
      have do0_p1 := dis_of o0.lt p1.lt (Nat.le_refl _)
      have dp1_o0 := dis_of' o0.lt p1.lt (Nat.le_refl _)
      have do1_p1 := dis_of o1.lt p1.lt (Nat.le_refl _)
      have dp1_o1 := dis_of' o1.lt p1.lt (Nat.le_refl _)
      have bp1 := hB.size
      replace o0 := o0.below hb
      replace o1 := o1.below hb
      replace hX := hX.below hb
      replace hB := bvia hB hb
      clear L0 L1 hb X0 X1
      obtain ⟨L0, L1⟩ := HL.out.1.below hB
      obtain ⟨X0, X1⟩ := id hX
      go_wp2_with (fail)
      refine (eqIntS_any ps _ _ _ o1.rd p1.rd).mono ?_
      rintro e wc44 ⟨rfl, hd⟩
      have hb := hd.below
      clear hd
      replace o0 := o0.below hb
      replace o1 := o1.below hb
      replace p1 := p1.below hb
      replace hX := hX.below hb
      replace hB := bvia hB hb
      clear L0 L1 hb X0 X1
      obtain ⟨L0, L1⟩ := HL.out.1.below hB
      obtain ⟨X0, X1⟩ := id hX
      go_wp2_with (fail)
      clear p1
      go_returns
      exact ⟨rfl, bvia HB1.out hB⟩
    · skip
      go_enter Try.func8, Try.ntmps8
      go_wp2_with (fail)
      generalize w.alloc (.cells #[.int .i64 J, .slice ad zs.length cap] 45) = w1 at HS ⊢
      refine (szBody_no J _ _ _ hmx 1048576 (by omega) (by omega) (by omega) _).mono ?_
      rintro e w2 ⟨rfl, hb⟩
      go_wp2_with (fail)
      go_returns
      exact ⟨rfl, bvia HS.out.1 hb⟩
  · have hg1 : (1048576 : Int) < (ps.length : Int) := by omega
    go_enter Try.func8, Try.ntmps8
    go_wp2_with (fail)
    go_returns
    exact ⟨rfl, HS.out.1⟩
end Go.Proofs.Ytfedhjfijcnpdaa
