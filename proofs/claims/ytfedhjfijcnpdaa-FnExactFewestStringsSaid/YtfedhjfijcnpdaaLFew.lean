/- The walk of FnExactFewestStrings. -/
import Derived.Test.YtfedhjfijcnpdaaFew
import Derived.Test.YtfedhjfijcnpdaaOpBody
import Derived.Test.YtfedhjfijcnpdaaInts
import Derived.Test.YtfedhjfijcnpdaaRg2
namespace Go.Proofs.Ytfedhjfijcnpdaa
open Go.ChangeShapes Go.WideShapes Go.ChangeAt Go.RowKit Go.Joins Tr
set_option linter.unusedSimpArgs false
set_option linter.unusedVariables false
set_option maxRecDepth 20000

theorem few_len (J : Int) (zs : List LimbV) (ps : List Int) : (fewL J zs ps).length ≤ 12 := by
  unfold fewL
  split
  · rename_i h
    obtain ⟨N, rfl, _, h2, _⟩ := body_tree (pulls_open h).1
    have := idx_len (nowK N zs ps (N : Int).toNat) (N : Int).toNat
    rw [Int.toNat_natCast] at this ⊢
    omega
  · simp

set_option maxHeartbeats 4000000 in
theorem walkFnExactFewestStrings (J : Int) (zs : List LimbV) (ps : List Int) (u v1 : Value) (w : World) (h : RdLimb w u zs) (h1 : RdI w v1 ps) : Calls Try.prog 9 #[.agg #[.int .i64 J, u], v1] w fun e w' => e = .returned (.bool true) ∧ Below w.heap.size w w' := by
  have hmx : zs.length ≤ 9223372036854775807 := by obtain ⟨_, _, _, _, _, q1, q2, _⟩ := h.open; omega
  obtain ⟨ad, cap, rfl⟩ := h.shape
  obtain ⟨a1, c1, rfl⟩ := h1.shape
  have hb0 := below_alloc1 w (.cells #[.int .i64 J, .slice ad zs.length cap] 45)
  have hx0 := BX.newL w J (.slice ad zs.length cap)
  have HS := Lib.hid (And.intro hb0 (And.intro hx0 (And.intro (h.below hb0) (h1.below hb0))))
  clear hb0 hx0 h h1
  by_cases hl1 : ps.length ≤ 1048576
  · have hg1 : ¬ (1048576 : Int) < (ps.length : Int) := by omega
    by_cases hz : zs.length ≤ 1048576
    · skip
      go_enter Try.func9, Try.ntmps9
      go_wp2_with (fail)
      generalize w.alloc (.cells #[.int .i64 J, .slice ad zs.length cap] 45) = w1 at HS ⊢
      refine (szBody_ok J _ _ _ 1048576 (by omega) (by omega) _).mono ?_
      rintro e w2 ⟨rfl, hB⟩
      have hg0 : ¬ (1048576 : Int) - (zs.length : Int) < 0 := by omega
      have HB1 := Lib.hid HS.out.1
      have HL := Lib.hid HS.out.2
      clear HS
      obtain ⟨L0, L1⟩ := HL.out.1.below hB
      go_wp2_with (fail)
      have HSP := Lib.hid (fun u x1 w' h y1 => specFewestStrings_any J zs ps u x1 w' h y1)
      have HIM := Lib.hid (fun u x1 w' h y1 => implFewestStrings_any J zs ps u x1 w' h y1)
      have hrl := few_len J zs ps
      generalize fewL J zs ps = res at HSP HIM hrl
      refine (toBody_any J zs hz _ _ (HL.out.2.1.below hB)).mono ?_
      rintro e wc1 ⟨vb0, rfl, tb, hb⟩
      have btb := hB.size
      replace hB := bvia hB hb
      clear L0 L1 hb
      obtain ⟨L0, L1⟩ := HL.out.1.below hB
      obtain ⟨a0, q0, rfl⟩ := tb.rd.shape
      go_wp2_with (fail)
      refine (toIntS_any ps hl1 _ _ (HL.out.2.2.below hB)).mono ?_
      rintro e wc2 ⟨vi1, rfl, ti, hb⟩
      have dtb_ti := dis_of tb.lt ti.lt (Nat.le_refl _)
      have dti_tb := dis_of' tb.lt ti.lt (Nat.le_refl _)
      have bti := hB.size
      replace tb := tb.below hb
      replace hB := bvia hB hb
      clear L0 L1 hb
      obtain ⟨L0, L1⟩ := HL.out.1.below hB
      go_wp2_with (fail)
      refine (HSP.out _ _ _ tb.rd ti.rd).mono ?_
      rintro e wc3 ⟨vw, rfl, ow, hb⟩
      have dtb_ow := dis_of tb.lt ow.lt (Nat.le_refl _)
      have dow_tb := dis_of' tb.lt ow.lt (Nat.le_refl _)
      have dti_ow := dis_of ti.lt ow.lt (Nat.le_refl _)
      have dow_ti := dis_of' ti.lt ow.lt (Nat.le_refl _)
      have bow := hB.size
      replace tb := tb.below hb
      replace ti := ti.below hb
      replace hB := bvia hB hb
      clear L0 L1 hb
      obtain ⟨L0, L1⟩ := HL.out.1.below hB
      go_wp2_with (fail)
      clear tb ti
      refine (toBody_any J zs hz _ _ (HL.out.2.1.below hB)).mono ?_
      rintro e wc4 ⟨vb1, rfl, o0, hb⟩
      have dow_o0 := dis_of ow.lt o0.lt (Nat.le_refl _)
      have do0_ow := dis_of' ow.lt o0.lt (Nat.le_refl _)
      have bo0 := hB.size
      replace ow := ow.below hb
      replace hB := bvia hB hb
      clear L0 L1 hb
      obtain ⟨L0, L1⟩ := HL.out.1.below hB
      obtain ⟨a0, q0, rfl⟩ := o0.rd.shape
      have hba := below_alloc1 wc4 (.cells #[.int .i64 J, .slice a0 zs.length q0] 26)
      have HX := Lib.hid (BX.new wc4 J (.slice a0 zs.length q0))
      replace ow := ow.below hba
      replace o0 := o0.below hba
      replace hB := bvia hB hba
      have hgx := hB.size
      clear hba L0 L1
      obtain ⟨L0, L1⟩ := HL.out.1.below hB
      have HB3 := Lib.hid (And.intro hB (And.intro ow o0))
      clear hB ow o0 hgx
      go_wp2_with (fail)
      generalize wc4.alloc (.cells #[.int .i64 J, .slice a0 zs.length q0] 26) = wx at HX HB3 L0 L1 ⊢
      generalize hgq : wc4.heap.size = gx at HX ⊢
      obtain ⟨hB, ow, o0⟩ := HB3.out
      have hX := HX.out
      obtain ⟨X0, X1⟩ := id hX
      clear HB3 HX
      clear hgq
      refine (toIntS_any ps hl1 _ _ (HL.out.2.2.below hB)).mono ?_
      rintro e wc5 ⟨vj1, rfl, o1, hb⟩
      have dow_o1 := dis_of ow.lt o1.lt (Nat.le_refl _)
      have do1_ow := dis_of' ow.lt o1.lt (Nat.le_refl _)
      have do0_o1 := dis_of o0.lt o1.lt (Nat.le_refl _)
      have do1_o0 := dis_of' o0.lt o1.lt (Nat.le_refl _)
      have bo1 := hB.size
      replace ow := ow.below hb
      replace o0 := o0.below hb
      replace hX := hX.below hb
      replace hB := bvia hB hb
      clear L0 L1 hb X0 X1
      obtain ⟨L0, L1⟩ := HL.out.1.below hB
      obtain ⟨X0, X1⟩ := id hX
      go_wp2_with (fail)
      refine (HIM.out _ _ _ o0.rd o1.rd).mono ?_
      rintro e wc6 ⟨vg, rfl, og, hb⟩
      have dow_og := dis_of ow.lt og.lt (Nat.le_refl _)
      have dog_ow := dis_of' ow.lt og.lt (Nat.le_refl _)
      have do0_og := dis_of o0.lt og.lt (Nat.le_refl _)
      have dog_o0 := dis_of' o0.lt og.lt (Nat.le_refl _)
      have do1_og := dis_of o1.lt og.lt (Nat.le_refl _)
      have dog_o1 := dis_of' o1.lt og.lt (Nat.le_refl _)
      have bog := hB.size
      replace ow := ow.below hb
      replace o0 := o0.below hb
      replace o1 := o1.below hb
      replace hX := hX.below hb
      replace hB := bvia hB hb
      clear L0 L1 hb X0 X1
      obtain ⟨L0, L1⟩ := HL.out.1.below hB
      obtain ⟨X0, X1⟩ := id hX
      go_wp2_with (fail)
      refine (eqIntS_any res _ _ _ og.rd ow.rd).mono ?_
      rintro e wc7 ⟨rfl, hd⟩
      have hb := hd.below
      clear hd
      replace ow := ow.below hb
      replace o0 := o0.below hb
      replace o1 := o1.below hb
      replace og := og.below hb
      replace hX := hX.below hb
      replace hB := bvia hB hb
      clear L0 L1 hb X0 X1
      obtain ⟨L0, L1⟩ := HL.out.1.below hB
      obtain ⟨X0, X1⟩ := id hX
      go_wp2_with (fail)
      replace hX := hX.below (dr1 _).below
      replace ow := ow.below (dr1 _).below
      replace o0 := o0.below (dr1 _).below
      replace o1 := o1.below (dr1 _).below
      replace og := og.below (dr1 _).below
      replace hB := bvia hB (dr1 _).below
      clear L0 L1 X0 X1
      with_reducible refine region_beg (n := 5) (S := (fun w' => (w'.cell? ⟨w.heap.size, 0, none⟩ = some (.int .i64 J) ∧ w'.cell? ⟨w.heap.size, 1, none⟩ = some (.slice ad zs.length cap)) ∧ w'.cell? ⟨gx, 0, none⟩ = some (.int .i64 J) ∧ w'.cell? ⟨gx, 1, none⟩ = some (.slice a0 zs.length q0))) ?b1_u1 ?b2_u1 ?b3_u1 (fun hHeld => ?b4_u1)
      case b1_u1 => kernel_rfl
      case b2_u1 => kernel_rfl
      case b3_u1 => (try dsimp only); exact ⟨HL.out.1.below hB, hX⟩
      with_reducible refine takeI2 (i := 0) (v := ?sv_u2) (oi := ?s0_u2) (by simp only [List.getElem?_toArray, List.getElem?_cons_succ, List.getElem?_cons_zero]; exact rfl) ?s1_u2 ?s2_u2 ?s3_u2 ?s4_u2 ?s5_u2 ?s6_u2 ?s7_u2
      case s1_u2 => kernel_rfl
      case s2_u2 => kernel_rfl
      case s3_u2 => kernel_rfl
      case s4_u2 => exact fun _ _ _ h => h
      case s5_u2 => exact Or.inl ⟨rfl, by intro w hSw; (try dsimp only at hSw); go_simp; try with_reducible rfl⟩
      case s6_u2 => assumption
      try simp only [Act.put, List.setIfInBounds_toArray, List.set_cons_zero, List.set_cons_succ]
      with_reducible refine takeI2 (i := 1) (v := ?sv_u3) (oi := ?s0_u3) (by simp only [List.getElem?_toArray, List.getElem?_cons_succ, List.getElem?_cons_zero]; exact rfl) ?s1_u3 ?s2_u3 ?s3_u3 ?s4_u3 ?s5_u3 ?s6_u3 ?s7_u3
      case s1_u3 => kernel_rfl
      case s2_u3 => kernel_rfl
      case s3_u3 => kernel_rfl
      case s4_u3 => exact fun _ _ _ h => h
      case s5_u3 => exact Or.inl ⟨rfl, by intro w hSw; (try dsimp only at hSw); go_simp; try with_reducible rfl⟩
      case s6_u3 => assumption
      try simp only [Act.put, List.setIfInBounds_toArray, List.set_cons_zero, List.set_cons_succ]
      with_reducible refine wpAnyH_ready (rs := [2]) ?s1_u4 one_ne ?s2_u4
      case s1_u4 => kernel_rfl
      with_reducible refine AllReadyH.cons (o := ?s0_u4) (by simp only [List.getElem?_toArray, List.getElem?_cons_succ, List.getElem?_cons_zero]; exact rfl) (fun K hK => ?s3_u4) AllReadyH.nil
      go_simp
      refine (toBody_any J zs hz _ _ (HL.out.2.1.below hB)).mono ?_
      rintro e wr9 ⟨vb, rfl, ob, hb⟩
      replace ow := ow.below hb
      replace o0 := o0.below hb
      replace o1 := o1.below hb
      replace og := og.below hb
      replace hX := hX.below hb
      replace hB := bvia hB hb
      clear hb
      go_wp2_with fail
      with_reducible refine hK.out _ _ ?s1_u5 (fun hHeld => ?s2_u5)
      case s1_u5 => (try dsimp only); exact ⟨HL.out.1.below hB, hX⟩
      clear hK K
      try simp only [Act.put, List.setIfInBounds_toArray, List.set_cons_zero, List.set_cons_succ]
      with_reducible refine wpAnyH_ready (rs := [3]) ?s1_u6 one_ne ?s2_u6
      case s1_u6 => kernel_rfl
      with_reducible refine AllReadyH.cons (o := ?s0_u6) (by simp only [List.getElem?_toArray, List.getElem?_cons_succ, List.getElem?_cons_zero]; exact rfl) (fun K hK => ?s3_u6) AllReadyH.nil
      go_simp
      refine (eqBody_any J zs _ _ _ o0.rd ob.rd).mono ?_
      rintro e wr10 ⟨rfl, hb⟩
      replace ow := ow.below hb
      replace o0 := o0.below hb
      replace o1 := o1.below hb
      replace og := og.below hb
      replace hX := hX.below hb
      replace hB := bvia hB hb
      clear hb ob
      go_wp2_with fail
      with_reducible refine hK.out _ _ ?s1_u7 (fun hHeld => ?s2_u7)
      case s1_u7 => (try dsimp only); exact ⟨HL.out.1.below hB, hX⟩
      clear hK K
      try simp only [Act.put, List.setIfInBounds_toArray, List.set_cons_zero, List.set_cons_succ]
      with_reducible refine takeI2 (i := 4) (v := ?sv_u8) (oi := ?s0_u8) (by simp only [List.getElem?_toArray, List.getElem?_cons_succ, List.getElem?_cons_zero]; exact rfl) ?s1_u8 ?s2_u8 ?s3_u8 ?s4_u8 ?s5_u8 ?s6_u8 ?s7_u8
      case s1_u8 => kernel_rfl
      case s2_u8 => kernel_rfl
      case s3_u8 => kernel_rfl
      case s4_u8 => exact fun _ _ _ h => h
      case s5_u8 => exact Or.inl ⟨rfl, by intro w hSw; (try dsimp only at hSw); go_simp; try with_reducible rfl⟩
      case s6_u8 => assumption
      try simp only [Act.put, List.setIfInBounds_toArray, List.set_cons_zero, List.set_cons_succ]
      with_reducible refine wpAnyH_done ?s1_u9 ?s2_u9 _
      case s1_u9 => kernel_rfl
      obtain ⟨L0, L1⟩ := HL.out.1.below hB
      obtain ⟨X0, X1⟩ := id hX
      go_wp2_with (fail)
      refine (toIntS_any ps hl1 _ _ (HL.out.2.2.below hB)).mono ?_
      rintro e wc10 ⟨vk1, rfl, p1, hb⟩
      have dow_p1 := dis_of ow.lt p1.lt (Nat.le_refl _)
      have dp1_ow := dis_of' ow.lt p1.lt (Nat.le_refl _)
      have do0_p1 := dis_of o0.lt p1.lt (Nat.le_refl _)
      have dp1_o0 := dis_of' o0.lt p1.lt (Nat.le_refl _)
      have do1_p1 := dis_of o1.lt p1.lt (Nat.le_refl _)
      have dp1_o1 := dis_of' o1.lt p1.lt (Nat.le_refl _)
      have dog_p1 := dis_of og.lt p1.lt (Nat.le_refl _)
      have dp1_og := dis_of' og.lt p1.lt (Nat.le_refl _)
      have bp1 := hB.size
      replace ow := ow.below hb
      replace o0 := o0.below hb
      replace o1 := o1.below hb
      replace og := og.below hb
      replace hX := hX.below hb
      replace hB := bvia hB hb
      clear L0 L1 hb X0 X1
      obtain ⟨L0, L1⟩ := HL.out.1.below hB
      obtain ⟨X0, X1⟩ := id hX
      go_wp2_with (fail)
      refine (eqIntS_any ps _ _ _ o1.rd p1.rd).mono ?_
      rintro e wc11 ⟨rfl, hd⟩
      have hb := hd.below
      clear hd
      replace ow := ow.below hb
      replace o0 := o0.below hb
      replace o1 := o1.below hb
      replace og := og.below hb
      replace p1 := p1.below hb
      replace hX := hX.below hb
      replace hB := bvia hB hb
      clear L0 L1 hb X0 X1
      obtain ⟨L0, L1⟩ := HL.out.1.below hB
      obtain ⟨X0, X1⟩ := id hX
      go_wp2_with (fail)
      clear p1
      clear hX X0 X1
      refine (markBody_any J zs 1 (by omega) (by omega) _ _ _ o0).mono ?_
      rintro e wm12 ⟨rfl, om, hg⟩
      replace ow := ow.kept hg dow_o0
      replace o1 := o1.kept hg do1_o0
      replace og := og.kept hg dog_o0
      replace hB := o0.grown_below hB bo0 hg
      clear hg o0 L0 L1
      have o0 := om
      clear om
      obtain ⟨L0, L1⟩ := HL.out.1.below hB
      go_wp2_with (fail)
      refine (markIntS_any ps _ (by omega) (by omega) _ _ _ o1).mono ?_
      rintro e wm13 ⟨rfl, om, hg⟩
      replace ow := ow.kept hg dow_o1
      replace og := og.kept hg dog_o1
      replace hB := o1.grown_below hB bo1 hg
      have hk0 : ¬ ((1 : Int) + 3 * (zs.length : Int) + (ps.length : Int)) < 0 := by omega
      clear hg o1 L0 L1
      have o1 := om
      clear om
      obtain ⟨L0, L1⟩ := HL.out.1.below hB
      go_wp2_with (fail)
      clear o0 o1
      refine (eqIntS_any res _ _ _ og.rd ow.rd).mono ?_
      rintro e wc14 ⟨rfl, hd⟩
      have hb := hd.below
      clear hd
      replace ow := ow.below hb
      replace og := og.below hb
      replace hB := bvia hB hb
      clear L0 L1 hb
      obtain ⟨L0, L1⟩ := HL.out.1.below hB
      go_wp2_with (fail)
      refine (markIntS_any res 1 (by omega) (by omega) _ _ _ og).mono ?_
      rintro e wm15 ⟨rfl, om, hg⟩
      replace ow := ow.kept hg dow_og
      replace hB := og.grown_below hB bog hg
      have hk1 : ¬ ((1 : Int) + (res.length : Int)) < 0 := by omega
      clear hg og L0 L1
      have og := om
      clear om
      obtain ⟨L0, L1⟩ := HL.out.1.below hB
      go_wp2_with (fail)
      refine (heldIntS_any res.length 1 (by omega) (by omega) _ _ og.rd).mono ?_
      rintro e ws16 ⟨rfl, rfl⟩
      go_wp2_with (fail)
      refine (toBody_any J zs hz _ _ (HL.out.2.1.below hB)).mono ?_
      rintro e wc17 ⟨vb2, rfl, tb, hb⟩
      have dow_tb := dis_of ow.lt tb.lt (Nat.le_refl _)
      have dtb_ow := dis_of' ow.lt tb.lt (Nat.le_refl _)
      have dog_tb := dis_of og.lt tb.lt (Nat.le_refl _)
      have dtb_og := dis_of' og.lt tb.lt (Nat.le_refl _)
      have btb := hB.size
      replace ow := ow.below hb
      replace og := og.below hb
      replace hB := bvia hB hb
      clear L0 L1 hb
      obtain ⟨L0, L1⟩ := HL.out.1.below hB
      obtain ⟨a2, q2, rfl⟩ := tb.rd.shape
      go_wp2_with (fail)
      refine (toIntS_any ps hl1 _ _ (HL.out.2.2.below hB)).mono ?_
      rintro e wc18 ⟨vi2, rfl, ti, hb⟩
      have dow_ti := dis_of ow.lt ti.lt (Nat.le_refl _)
      have dti_ow := dis_of' ow.lt ti.lt (Nat.le_refl _)
      have dog_ti := dis_of og.lt ti.lt (Nat.le_refl _)
      have dti_og := dis_of' og.lt ti.lt (Nat.le_refl _)
      have dtb_ti := dis_of tb.lt ti.lt (Nat.le_refl _)
      have dti_tb := dis_of' tb.lt ti.lt (Nat.le_refl _)
      have bti := hB.size
      replace ow := ow.below hb
      replace og := og.below hb
      replace tb := tb.below hb
      replace hB := bvia hB hb
      clear L0 L1 hb
      obtain ⟨L0, L1⟩ := HL.out.1.below hB
      go_wp2_with (fail)
      refine (HIM.out _ _ _ tb.rd ti.rd).mono ?_
      rintro e wc19 ⟨vh, rfl, oh, hb⟩
      have dow_oh := dis_of ow.lt oh.lt (Nat.le_refl _)
      have doh_ow := dis_of' ow.lt oh.lt (Nat.le_refl _)
      have dog_oh := dis_of og.lt oh.lt (Nat.le_refl _)
      have doh_og := dis_of' og.lt oh.lt (Nat.le_refl _)
      have dtb_oh := dis_of tb.lt oh.lt (Nat.le_refl _)
      have doh_tb := dis_of' tb.lt oh.lt (Nat.le_refl _)
      have dti_oh := dis_of ti.lt oh.lt (Nat.le_refl _)
      have doh_ti := dis_of' ti.lt oh.lt (Nat.le_refl _)
      have boh := hB.size
      replace ow := ow.below hb
      replace og := og.below hb
      replace tb := tb.below hb
      replace ti := ti.below hb
      replace hB := bvia hB hb
      clear L0 L1 hb
      obtain ⟨L0, L1⟩ := HL.out.1.below hB
      go_wp2_with (fail)
      clear tb ti
      refine (eqIntS_any res _ _ _ oh.rd ow.rd).mono ?_
      rintro e wc20 ⟨rfl, hd⟩
      have hb := hd.below
      clear hd
      replace ow := ow.below hb
      replace og := og.below hb
      replace oh := oh.below hb
      replace hB := bvia hB hb
      clear L0 L1 hb
      obtain ⟨L0, L1⟩ := HL.out.1.below hB
      go_wp2_with (fail)
      refine (heldIntS_any res.length 1 (by omega) (by omega) _ _ og.rd).mono ?_
      rintro e ws21 ⟨rfl, rfl⟩
      go_wp2_with (fail)
      go_returns
      exact ⟨rfl, bvia HB1.out hB⟩
    · skip
      go_enter Try.func9, Try.ntmps9
      go_wp2_with (fail)
      generalize w.alloc (.cells #[.int .i64 J, .slice ad zs.length cap] 45) = w1 at HS ⊢
      refine (szBody_no J _ _ _ hmx 1048576 (by omega) (by omega) (by omega) _).mono ?_
      rintro e w2 ⟨rfl, hb⟩
      go_wp2_with (fail)
      go_returns
      exact ⟨rfl, bvia HS.out.1 hb⟩
  · have hg1 : (1048576 : Int) < (ps.length : Int) := by omega
    go_enter Try.func9, Try.ntmps9
    go_wp2_with (fail)
    go_returns
    exact ⟨rfl, HS.out.1⟩
end Go.Proofs.Ytfedhjfijcnpdaa
