/- WorstString of both. -/
import Derived.Test.YtfedhjfijcnpdaaBreakI
namespace Go.Proofs.Ytfedhjfijcnpdaa
open Go.ChangeShapes Go.WideShapes Go.ChangeAt Go.RowKit Go.Joins Tr
set_option linter.unusedSimpArgs false
set_option linter.unusedVariables false
set_option maxRecDepth 20000

set_option maxHeartbeats 4000000 in
theorem specWorstString_any (J : Int) (zs : List LimbV) (ps : List Int) (u v : Value) (w : World) (h : RdLimb w u zs) (h' : RdI w v ps) :
    Calls Try.prog 35 #[.agg #[.int .i64 J, u], v] w fun e w' => e = .returned (.int .i64 (worstV J zs ps)) ∧ Below w.heap.size w w' := by
  obtain ⟨ad, cap, rfl⟩ := h.shape
  obtain ⟨ap, cp, rfl⟩ := h'.shape
  have hb0 := below_alloc1 w (.cells #[.int .i64 J, .slice ad zs.length cap] 26)
  have hx0 := BX.new w J (.slice ad zs.length cap)
  have HS := Lib.hid (And.intro hb0 (And.intro hx0 (And.intro (h.below hb0) (h'.below hb0))))
  have HP1 := Lib.hid (fun w' h h' => specPullsOk_any J zs ps (.slice ad zs.length cap) (.slice ap ps.length cp) w' h h')
  have HFA := Lib.hid (fun j w' h h' => specFallOf_any J zs ps j (.slice ad zs.length cap) (.slice ap ps.length cp) w' h h')
  clear hb0 hx0 h h'
  go_enter Try.func35, Try.ntmps35
  go_wp2_with (fail)
  generalize w.alloc (.cells #[.int .i64 J, .slice ad zs.length cap] 26) = w1 at HS ⊢
  obtain ⟨hB, hX, hR, hP⟩ := HS.out
  clear HS
  obtain ⟨m0, m1⟩ := id hX
  go_wp2_with (fail)
  cases hp : pullsB J zs ps with
  | false =>
    have HE := Lib.hid (show worstV J zs ps = -1 from if_neg (by simp [hp]))
    rw [hp] at HP1
    refine (HP1.out _ hR hP).mono ?_
    rintro e wk23 ⟨rfl, hb⟩
    replace hX := hX.below hb
    replace hR := hR.below hb
    replace hP := hP.below hb
    replace hB := bvia hB hb
    clear m0 m1 hb
    obtain ⟨m0, m1⟩ := id hX
    go_wp2_with (fail)
    go_ret
    exact ⟨ret_int HE.out.symm, hB⟩
  | true =>
    rw [hp] at HP1
    obtain ⟨N, rfl⟩ : ∃ N : Nat, J = N := by
      obtain ⟨N, h, _⟩ := body_tree (pulls_open hp).1
      exact ⟨N, h⟩
    have hN := (pulls_facts hp).1
    have HPK := Lib.hid hp
    have HPL := Lib.hid (pulls_facts hp).2.2.1
    have hl12 : ps.length ≤ 12 := by have := HPL.out; omega
    have HWV : Hid (strN ps ≠ 1 → worstV N zs ps = worstK N zs ps N) := by
      intro h
      unfold worstV
      rw [if_pos ⟨hp, h⟩, Int.toNat_natCast]
    have HWN : Hid (strN ps = 1 → worstV N zs ps = -1) := fun h => if_neg (fun h2 => h2.2 h)
    have HFG : Hid (strN ps ≠ 1 → ∀ j, j < N → 0 ≤ fallV N zs ps j ∧ fallV N zs ps j ≤ 2500) := fun h j hj => ⟨fall_ge hp hj h, fall_le hp hj⟩
    clear hp
    have HLL := Lib.hid (fun w' h => l26Strings_any ps (by have := HPL.out; omega) (.slice ap ps.length cp) w' h)
    have HLE := Lib.hid (strN_le ps)
    obtain ⟨s, hs⟩ : ∃ s, strN ps = s := ⟨_, rfl⟩
    rw [hs] at HLL HLE HWV HWN HFG
    have hs12 : s ≤ 12 := by have := HLE.out; omega
    clear hs HLE
    refine (HP1.out _ hR hP).mono ?_
    rintro e wk24 ⟨rfl, hb⟩
    replace hX := hX.below hb
    replace hR := hR.below hb
    replace hP := hP.below hb
    replace hB := bvia hB hb
    clear m0 m1 hb
    obtain ⟨m0, m1⟩ := id hX
    go_wp2_with (fail)
    by_cases h1 : s = 1
    · have HE := Lib.hid (HWN.out h1)
      subst h1
      refine (HLL.out _ hP).mono ?_
      rintro e wy ⟨rfl, rfl⟩
      go_wp2_with (fail)
      go_ret
      exact ⟨ret_int HE.out.symm, hB⟩
    · have h1i : ¬ (s : Int) = 1 := by omega
      have h1b : ((s : Int) == 1) = false := beq_eq_false_iff_ne.2 h1i
      refine (HLL.out _ hP).mono ?_
      rintro e wy ⟨rfl, rfl⟩
      have HF2 := Lib.hid (HFG.out h1)
      have HWV2 := Lib.hid (HWV.out h1)
      clear HFG HWV HWN
      have HB2 := Lib.hid hB
      have hB := Below.refl wk24.heap.size wk24
      have HX := Lib.hid (And.intro hX (And.intro hR hP))
      have hN1 := hN.1
      obtain ⟨bp, op, rfl, _⟩ := hP.cellP (k := 0) (by have := HPL.out; omega)
      go_wp2_with (fail)
      clear m0 m1 hX hR hP HLL
      go_loopw [5, 6] (fun b k wr => ∃ q : Nat, q ≤ N ∧ k = .int .i64 q ∧ b = .int .i64 (worstK N zs ps q) ∧ Below wk24.heap.size wk24 wr) (fun _ k _ => N - (intOf k).toNat)
      case atStart => exact ⟨0, Nat.zero_le _, rfl, rfl, hB⟩
      case round =>
       focus
        clear hB
        obtain ⟨q, hq, rfl, rfl, hB⟩ := hrel
        obtain ⟨hX, hR, hP⟩ := HX.out
        replace hX := hX.below hB
        replace hR := hR.below hB
        replace hP := hP.below hB
        obtain ⟨m0, m1⟩ := id hX
        by_cases hlt : q < N
        · obtain ⟨bp', op', e1, c0⟩ := hP.cellP (k := q) (by have := HPL.out; omega)
          obtain ⟨rfl, rfl⟩ : bp = bp' ∧ op = op' := by simpa using e1
          have qlt : (q : Int) < (N : Int) := by omega
          have qlt2 : (q : Int) < (ps.length : Int) := by have := HPL.out; omega
          have hwq : IntKind.i64.wrap (q : Int) = q := IntWalk.i64_in _ (by omega)
          have hwb := worst_bd N zs ps q
          have HH := Lib.hid (fun h h2 => worst_hit (J := N) (zs := zs) (ps := ps) (k := q) h h2)
          have HM := Lib.hid (fun h => worst_miss (J := N) (zs := zs) (ps := ps) (k := q) h)
          have HFQ := Lib.hid (HF2.out q hlt)
          generalize hpe : pf ps q = p at c0 HH HM
          generalize worstK N zs ps q = b at hwb HH HM
          generalize hwe : worstK N zs ps (q + 1) = b2 at HH HM
          replace hwe := Lib.hid hwe
          clear hpe e1
          have HFB := Lib.hid (fun w' h h' => HFA.out b w' h h')
          have HFN := Lib.hid (fun w' h h' => HFA.out q w' h h')
          generalize fallV N zs ps b = fb at HFB HH HM
          generalize fallV N zs ps q = fq at HFN HH HM HFQ
          by_cases h0 : 0 ≤ p
          · have h0b : decide (0 ≤ p) = true := decide_eq_true h0
            by_cases hb0 : b < 0
            · have hb0b : decide (b < 0) = true := decide_eq_true hb0
              have HE := Lib.hid (HH.out h0 (.inl hb0))
              go_wp2_with (fail)
              clear m0 m1
              replace hX := hX.below (dr1 _).below
              replace hR := hR.below (dr1 _).below
              replace hP := hP.below (dr1 _).below
              replace c0 := (dr1 _).cell c0
              replace hB := bvia hB (dr1 _).below
              with_reducible refine region_beg (n := 20) (S := (fun w' => (w'.cell? ⟨w.heap.size, 0, none⟩ = some (.int .i64 (N : Int)) ∧ w'.cell? ⟨w.heap.size, 1, none⟩ = some (.slice ad zs.length cap)) ∧ w'.cell? ⟨bp, op + q, none⟩ = some (.int .i64 p))) ?b1_u50 ?b2_u50 ?b3_u50 (fun hHeld => ?b4_u50)
              case b1_u50 => kernel_rfl
              case b2_u50 => kernel_rfl
              case b3_u50 => (try dsimp only); exact ⟨hX, c0⟩
              with_reducible refine takeI2 (i := 0) (v := ?sv_u51) (oi := ?s0_u51) (by simp only [List.getElem?_toArray, List.getElem?_cons_succ, List.getElem?_cons_zero]; exact rfl) ?s1_u51 ?s2_u51 ?s3_u51 ?s4_u51 ?s5_u51 ?s6_u51 ?s7_u51
              case s1_u51 => kernel_rfl
              case s2_u51 => kernel_rfl
              case s3_u51 => kernel_rfl
              case s4_u51 => exact fun _ _ _ h => h
              case s5_u51 => exact Or.inl ⟨rfl, by intro w hSw; (try dsimp only at hSw); go_simp; try with_reducible rfl⟩
              case s6_u51 => assumption
              try simp only [Act.put, List.setIfInBounds_toArray, List.set_cons_zero, List.set_cons_succ]
              with_reducible refine takeI2 (i := 1) (v := ?sv_u52) (oi := ?s0_u52) (by simp only [List.getElem?_toArray, List.getElem?_cons_succ, List.getElem?_cons_zero]; exact rfl) ?s1_u52 ?s2_u52 ?s3_u52 ?s4_u52 ?s5_u52 ?s6_u52 ?s7_u52
              case s1_u52 => kernel_rfl
              case s2_u52 => kernel_rfl
              case s3_u52 => kernel_rfl
              case s4_u52 => exact fun _ _ _ h => h
              case s5_u52 => exact Or.inl ⟨rfl, by intro w hSw; (try dsimp only at hSw); go_simp; try with_reducible rfl⟩
              case s6_u52 => assumption
              try simp only [Act.put, List.setIfInBounds_toArray, List.set_cons_zero, List.set_cons_succ]
              with_reducible refine takeI2 (i := 2) (v := ?sv_u53) (oi := ?s0_u53) (by simp only [List.getElem?_toArray, List.getElem?_cons_succ, List.getElem?_cons_zero]; exact rfl) ?s1_u53 ?s2_u53 ?s3_u53 ?s4_u53 ?s5_u53 ?s6_u53 ?s7_u53
              case s1_u53 => kernel_rfl
              case s2_u53 => kernel_rfl
              case s3_u53 => kernel_rfl
              case s4_u53 => exact fun _ _ _ h => h
              case s5_u53 => exact Or.inl ⟨rfl, by intro w hSw; (try dsimp only at hSw); go_simp; try with_reducible rfl⟩
              case s6_u53 => assumption
              try simp only [Act.put, List.setIfInBounds_toArray, List.set_cons_zero, List.set_cons_succ]
              with_reducible refine takeI2 (i := 3) (v := ?sv_u54) (oi := ?s0_u54) (by simp only [List.getElem?_toArray, List.getElem?_cons_succ, List.getElem?_cons_zero]; exact rfl) ?s1_u54 ?s2_u54 ?s3_u54 ?s4_u54 ?s5_u54 ?s6_u54 ?s7_u54
              case s1_u54 => kernel_rfl
              case s2_u54 => kernel_rfl
              case s3_u54 => kernel_rfl
              case s4_u54 => exact fun _ _ _ h => h
              case s5_u54 => exact Or.inl ⟨rfl, by intro w hSw; (try dsimp only at hSw); go_simp; try with_reducible rfl⟩
              case s6_u54 => assumption
              try simp only [Act.put, List.setIfInBounds_toArray, List.set_cons_zero, List.set_cons_succ]
              with_reducible refine takeI2 (i := 4) (v := ?sv_u55) (oi := ?s0_u55) (by simp only [List.getElem?_toArray, List.getElem?_cons_succ, List.getElem?_cons_zero]; exact rfl) ?s1_u55 ?s2_u55 ?s3_u55 ?s4_u55 ?s5_u55 ?s6_u55 ?s7_u55
              case s1_u55 => kernel_rfl
              case s2_u55 => kernel_rfl
              case s3_u55 => kernel_rfl
              case s4_u55 => exact fun _ _ _ h => h
              case s5_u55 => exact Or.inl ⟨rfl, by intro w hSw; (try dsimp only at hSw); go_simp; try with_reducible rfl⟩
              case s6_u55 => assumption
              try simp only [Act.put, List.setIfInBounds_toArray, List.set_cons_zero, List.set_cons_succ]
              with_reducible refine takeI2 (i := 5) (v := ?sv_u56) (oi := ?s0_u56) (by simp only [List.getElem?_toArray, List.getElem?_cons_succ, List.getElem?_cons_zero]; exact rfl) ?s1_u56 ?s2_u56 ?s3_u56 ?s4_u56 ?s5_u56 ?s6_u56 ?s7_u56
              case s1_u56 => kernel_rfl
              case s2_u56 => kernel_rfl
              case s3_u56 => kernel_rfl
              case s4_u56 => exact fun _ _ _ h => h
              case s5_u56 => exact Or.inl ⟨rfl, by intro w hSw; (try dsimp only at hSw); go_simp; try with_reducible rfl⟩
              case s6_u56 => assumption
              try simp only [Act.put, List.setIfInBounds_toArray, List.set_cons_zero, List.set_cons_succ]
              with_reducible refine takeI2 (i := 6) (v := ?sv_u57) (oi := ?s0_u57) (by simp only [List.getElem?_toArray, List.getElem?_cons_succ, List.getElem?_cons_zero]; exact rfl) ?s1_u57 ?s2_u57 ?s3_u57 ?s4_u57 ?s5_u57 ?s6_u57 ?s7_u57
              case s1_u57 => kernel_rfl
              case s2_u57 => kernel_rfl
              case s3_u57 => kernel_rfl
              case s4_u57 => exact fun _ _ _ h => h
              case s5_u57 => exact Or.inl ⟨rfl, by intro w hSw; (try dsimp only at hSw); go_simp; try with_reducible rfl⟩
              case s6_u57 => assumption
              try simp only [Act.put, List.setIfInBounds_toArray, List.set_cons_zero, List.set_cons_succ]
              with_reducible refine takeI2 (i := 7) (v := ?sv_u58) (oi := ?s0_u58) (by simp only [List.getElem?_toArray, List.getElem?_cons_succ, List.getElem?_cons_zero]; exact rfl) ?s1_u58 ?s2_u58 ?s3_u58 ?s4_u58 ?s5_u58 ?s6_u58 ?s7_u58
              case s1_u58 => kernel_rfl
              case s2_u58 => kernel_rfl
              case s3_u58 => kernel_rfl
              case s4_u58 => exact fun _ _ _ h => h
              case s5_u58 => exact Or.inl ⟨rfl, by intro w hSw; (try dsimp only at hSw); go_simp; try with_reducible rfl⟩
              case s6_u58 => assumption
              try simp only [Act.put, List.setIfInBounds_toArray, List.set_cons_zero, List.set_cons_succ]
              with_reducible refine takeI2 (i := 8) (v := ?sv_u59) (oi := ?s0_u59) (by simp only [List.getElem?_toArray, List.getElem?_cons_succ, List.getElem?_cons_zero]; exact rfl) ?s1_u59 ?s2_u59 ?s3_u59 ?s4_u59 ?s5_u59 ?s6_u59 ?s7_u59
              case s1_u59 => kernel_rfl
              case s2_u59 => kernel_rfl
              case s3_u59 => kernel_rfl
              case s4_u59 => exact fun _ _ _ h => h
              case s5_u59 => exact Or.inl ⟨rfl, by intro w hSw; (try dsimp only at hSw); go_simp; try with_reducible rfl⟩
              case s6_u59 => assumption
              try simp only [Act.put, List.setIfInBounds_toArray, List.set_cons_zero, List.set_cons_succ]
              with_reducible refine takeI2 (i := 9) (v := undef) (oi := ?s0_u60) (by simp only [List.getElem?_toArray, List.getElem?_cons_succ, List.getElem?_cons_zero]; exact rfl) ?s1_u60 ?s2_u60 ?s3_u60 ?s4_u60 ?s5_u60 ?s6_u60 ?s7_u60
              case s1_u60 => kernel_rfl
              case s2_u60 => kernel_rfl
              case s3_u60 => kernel_rfl
              case s4_u60 => exact fun _ _ _ h => h
              case s5_u60 => exact Or.inr ⟨rfl, rfl⟩
              case s6_u60 => assumption
              try simp only [Act.put, List.setIfInBounds_toArray, List.set_cons_zero, List.set_cons_succ]
              with_reducible refine takeI2 (i := 10) (v := undef) (oi := ?s0_u61) (by simp only [List.getElem?_toArray, List.getElem?_cons_succ, List.getElem?_cons_zero]; exact rfl) ?s1_u61 ?s2_u61 ?s3_u61 ?s4_u61 ?s5_u61 ?s6_u61 ?s7_u61
              case s1_u61 => kernel_rfl
              case s2_u61 => kernel_rfl
              case s3_u61 => kernel_rfl
              case s4_u61 => exact fun _ _ _ h => h
              case s5_u61 => exact Or.inr ⟨rfl, rfl⟩
              case s6_u61 => assumption
              try simp only [Act.put, List.setIfInBounds_toArray, List.set_cons_zero, List.set_cons_succ]
              with_reducible refine takeI2 (i := 11) (v := undef) (oi := ?s0_u62) (by simp only [List.getElem?_toArray, List.getElem?_cons_succ, List.getElem?_cons_zero]; exact rfl) ?s1_u62 ?s2_u62 ?s3_u62 ?s4_u62 ?s5_u62 ?s6_u62 ?s7_u62
              case s1_u62 => kernel_rfl
              case s2_u62 => kernel_rfl
              case s3_u62 => kernel_rfl
              case s4_u62 => exact fun _ _ _ h => h
              case s5_u62 => exact Or.inr ⟨rfl, rfl⟩
              case s6_u62 => assumption
              try simp only [Act.put, List.setIfInBounds_toArray, List.set_cons_zero, List.set_cons_succ]
              with_reducible refine takeI2 (i := 12) (v := undef) (oi := ?s0_u63) (by simp only [List.getElem?_toArray, List.getElem?_cons_succ, List.getElem?_cons_zero]; exact rfl) ?s1_u63 ?s2_u63 ?s3_u63 ?s4_u63 ?s5_u63 ?s6_u63 ?s7_u63
              case s1_u63 => kernel_rfl
              case s2_u63 => kernel_rfl
              case s3_u63 => kernel_rfl
              case s4_u63 => exact fun _ _ _ h => h
              case s5_u63 => exact Or.inr ⟨rfl, rfl⟩
              case s6_u63 => assumption
              try simp only [Act.put, List.setIfInBounds_toArray, List.set_cons_zero, List.set_cons_succ]
              with_reducible refine takeI2 (i := 13) (v := undef) (oi := ?s0_u64) (by simp only [List.getElem?_toArray, List.getElem?_cons_succ, List.getElem?_cons_zero]; exact rfl) ?s1_u64 ?s2_u64 ?s3_u64 ?s4_u64 ?s5_u64 ?s6_u64 ?s7_u64
              case s1_u64 => kernel_rfl
              case s2_u64 => kernel_rfl
              case s3_u64 => kernel_rfl
              case s4_u64 => exact fun _ _ _ h => h
              case s5_u64 => exact Or.inr ⟨rfl, rfl⟩
              case s6_u64 => assumption
              try simp only [Act.put, List.setIfInBounds_toArray, List.set_cons_zero, List.set_cons_succ]
              with_reducible refine takeI2 (i := 14) (v := undef) (oi := ?s0_u65) (by simp only [List.getElem?_toArray, List.getElem?_cons_succ, List.getElem?_cons_zero]; exact rfl) ?s1_u65 ?s2_u65 ?s3_u65 ?s4_u65 ?s5_u65 ?s6_u65 ?s7_u65
              case s1_u65 => kernel_rfl
              case s2_u65 => kernel_rfl
              case s3_u65 => kernel_rfl
              case s4_u65 => exact fun _ _ _ h => h
              case s5_u65 => exact Or.inr ⟨rfl, rfl⟩
              case s6_u65 => assumption
              try simp only [Act.put, List.setIfInBounds_toArray, List.set_cons_zero, List.set_cons_succ]
              with_reducible refine takeI2 (i := 15) (v := undef) (oi := ?s0_u66) (by simp only [List.getElem?_toArray, List.getElem?_cons_succ, List.getElem?_cons_zero]; exact rfl) ?s1_u66 ?s2_u66 ?s3_u66 ?s4_u66 ?s5_u66 ?s6_u66 ?s7_u66
              case s1_u66 => kernel_rfl
              case s2_u66 => kernel_rfl
              case s3_u66 => kernel_rfl
              case s4_u66 => exact fun _ _ _ h => h
              case s5_u66 => exact Or.inr ⟨rfl, rfl⟩
              case s6_u66 => assumption
              try simp only [Act.put, List.setIfInBounds_toArray, List.set_cons_zero, List.set_cons_succ]
              with_reducible refine takeI2 (i := 16) (v := undef) (oi := ?s0_u67) (by simp only [List.getElem?_toArray, List.getElem?_cons_succ, List.getElem?_cons_zero]; exact rfl) ?s1_u67 ?s2_u67 ?s3_u67 ?s4_u67 ?s5_u67 ?s6_u67 ?s7_u67
              case s1_u67 => kernel_rfl
              case s2_u67 => kernel_rfl
              case s3_u67 => kernel_rfl
              case s4_u67 => exact fun _ _ _ h => h
              case s5_u67 => exact Or.inr ⟨rfl, rfl⟩
              case s6_u67 => assumption
              try simp only [Act.put, List.setIfInBounds_toArray, List.set_cons_zero, List.set_cons_succ]
              with_reducible refine takeI2 (i := 17) (v := undef) (oi := ?s0_u68) (by simp only [List.getElem?_toArray, List.getElem?_cons_succ, List.getElem?_cons_zero]; exact rfl) ?s1_u68 ?s2_u68 ?s3_u68 ?s4_u68 ?s5_u68 ?s6_u68 ?s7_u68
              case s1_u68 => kernel_rfl
              case s2_u68 => kernel_rfl
              case s3_u68 => kernel_rfl
              case s4_u68 => exact fun _ _ _ h => h
              case s5_u68 => exact Or.inr ⟨rfl, rfl⟩
              case s6_u68 => assumption
              try simp only [Act.put, List.setIfInBounds_toArray, List.set_cons_zero, List.set_cons_succ]
              with_reducible refine takeI2 (i := 18) (v := ?sv_u69) (oi := ?s0_u69) (by simp only [List.getElem?_toArray, List.getElem?_cons_succ, List.getElem?_cons_zero]; exact rfl) ?s1_u69 ?s2_u69 ?s3_u69 ?s4_u69 ?s5_u69 ?s6_u69 ?s7_u69
              case s1_u69 => kernel_rfl
              case s2_u69 => kernel_rfl
              case s3_u69 => kernel_rfl
              case s4_u69 => exact fun _ _ _ h => h
              case s5_u69 => exact Or.inl ⟨rfl, by intro w hSw; (try dsimp only at hSw); go_simp; try with_reducible rfl⟩
              case s6_u69 => assumption
              try simp only [Act.put, List.setIfInBounds_toArray, List.set_cons_zero, List.set_cons_succ]
              with_reducible refine takeI2 (i := 19) (v := ?sv_u70) (oi := ?s0_u70) (by simp only [List.getElem?_toArray, List.getElem?_cons_succ, List.getElem?_cons_zero]; exact rfl) ?s1_u70 ?s2_u70 ?s3_u70 ?s4_u70 ?s5_u70 ?s6_u70 ?s7_u70
              case s1_u70 => kernel_rfl
              case s2_u70 => kernel_rfl
              case s3_u70 => kernel_rfl
              case s4_u70 => exact fun _ _ _ h => h
              case s5_u70 => exact Or.inl ⟨rfl, by intro w hSw; (try dsimp only at hSw); go_simp; try with_reducible rfl⟩
              case s6_u70 => assumption
              try simp only [Act.put, List.setIfInBounds_toArray, List.set_cons_zero, List.set_cons_succ]
              with_reducible refine wpAnyH_done ?s1_u71 ?s2_u71 _
              case s1_u71 => kernel_rfl
              go_wp2_with (fail)
              exact ⟨⟨q + 1, by omega, by go_num, by rw [hwe.out, HE.out], hB⟩, by simp [intOf]; omega⟩
            · have hb0b : decide (b < 0) = false := decide_eq_false hb0
              by_cases hfl : fb < fq
              · have hflb : decide (fb < fq) = true := decide_eq_true hfl
                have HE := Lib.hid (HH.out h0 (.inr hfl))
                go_wp2_with (fail)
                clear m0 m1
                replace hX := hX.below (dr1 _).below
                replace hR := hR.below (dr1 _).below
                replace hP := hP.below (dr1 _).below
                replace c0 := (dr1 _).cell c0
                replace hB := bvia hB (dr1 _).below
                with_reducible refine region_beg (n := 20) (S := (fun w' => (w'.cell? ⟨w.heap.size, 0, none⟩ = some (.int .i64 (N : Int)) ∧ w'.cell? ⟨w.heap.size, 1, none⟩ = some (.slice ad zs.length cap)) ∧ w'.cell? ⟨bp, op + q, none⟩ = some (.int .i64 p))) ?b1_u72 ?b2_u72 ?b3_u72 (fun hHeld => ?b4_u72)
                case b1_u72 => kernel_rfl
                case b2_u72 => kernel_rfl
                case b3_u72 => (try dsimp only); exact ⟨hX, c0⟩
                with_reducible refine takeI2 (i := 0) (v := ?sv_u73) (oi := ?s0_u73) (by simp only [List.getElem?_toArray, List.getElem?_cons_succ, List.getElem?_cons_zero]; exact rfl) ?s1_u73 ?s2_u73 ?s3_u73 ?s4_u73 ?s5_u73 ?s6_u73 ?s7_u73
                case s1_u73 => kernel_rfl
                case s2_u73 => kernel_rfl
                case s3_u73 => kernel_rfl
                case s4_u73 => exact fun _ _ _ h => h
                case s5_u73 => exact Or.inl ⟨rfl, by intro w hSw; (try dsimp only at hSw); go_simp; try with_reducible rfl⟩
                case s6_u73 => assumption
                try simp only [Act.put, List.setIfInBounds_toArray, List.set_cons_zero, List.set_cons_succ]
                with_reducible refine takeI2 (i := 1) (v := ?sv_u74) (oi := ?s0_u74) (by simp only [List.getElem?_toArray, List.getElem?_cons_succ, List.getElem?_cons_zero]; exact rfl) ?s1_u74 ?s2_u74 ?s3_u74 ?s4_u74 ?s5_u74 ?s6_u74 ?s7_u74
                case s1_u74 => kernel_rfl
                case s2_u74 => kernel_rfl
                case s3_u74 => kernel_rfl
                case s4_u74 => exact fun _ _ _ h => h
                case s5_u74 => exact Or.inl ⟨rfl, by intro w hSw; (try dsimp only at hSw); go_simp; try with_reducible rfl⟩
                case s6_u74 => assumption
                try simp only [Act.put, List.setIfInBounds_toArray, List.set_cons_zero, List.set_cons_succ]
                with_reducible refine takeI2 (i := 2) (v := ?sv_u75) (oi := ?s0_u75) (by simp only [List.getElem?_toArray, List.getElem?_cons_succ, List.getElem?_cons_zero]; exact rfl) ?s1_u75 ?s2_u75 ?s3_u75 ?s4_u75 ?s5_u75 ?s6_u75 ?s7_u75
                case s1_u75 => kernel_rfl
                case s2_u75 => kernel_rfl
                case s3_u75 => kernel_rfl
                case s4_u75 => exact fun _ _ _ h => h
                case s5_u75 => exact Or.inl ⟨rfl, by intro w hSw; (try dsimp only at hSw); go_simp; try with_reducible rfl⟩
                case s6_u75 => assumption
                try simp only [Act.put, List.setIfInBounds_toArray, List.set_cons_zero, List.set_cons_succ]
                with_reducible refine takeI2 (i := 3) (v := ?sv_u76) (oi := ?s0_u76) (by simp only [List.getElem?_toArray, List.getElem?_cons_succ, List.getElem?_cons_zero]; exact rfl) ?s1_u76 ?s2_u76 ?s3_u76 ?s4_u76 ?s5_u76 ?s6_u76 ?s7_u76
                case s1_u76 => kernel_rfl
                case s2_u76 => kernel_rfl
                case s3_u76 => kernel_rfl
                case s4_u76 => exact fun _ _ _ h => h
                case s5_u76 => exact Or.inl ⟨rfl, by intro w hSw; (try dsimp only at hSw); go_simp; try with_reducible rfl⟩
                case s6_u76 => assumption
                try simp only [Act.put, List.setIfInBounds_toArray, List.set_cons_zero, List.set_cons_succ]
                with_reducible refine takeI2 (i := 4) (v := ?sv_u77) (oi := ?s0_u77) (by simp only [List.getElem?_toArray, List.getElem?_cons_succ, List.getElem?_cons_zero]; exact rfl) ?s1_u77 ?s2_u77 ?s3_u77 ?s4_u77 ?s5_u77 ?s6_u77 ?s7_u77
                case s1_u77 => kernel_rfl
                case s2_u77 => kernel_rfl
                case s3_u77 => kernel_rfl
                case s4_u77 => exact fun _ _ _ h => h
                case s5_u77 => exact Or.inl ⟨rfl, by intro w hSw; (try dsimp only at hSw); go_simp; try with_reducible rfl⟩
                case s6_u77 => assumption
                try simp only [Act.put, List.setIfInBounds_toArray, List.set_cons_zero, List.set_cons_succ]
                with_reducible refine takeI2 (i := 5) (v := ?sv_u78) (oi := ?s0_u78) (by simp only [List.getElem?_toArray, List.getElem?_cons_succ, List.getElem?_cons_zero]; exact rfl) ?s1_u78 ?s2_u78 ?s3_u78 ?s4_u78 ?s5_u78 ?s6_u78 ?s7_u78
                case s1_u78 => kernel_rfl
                case s2_u78 => kernel_rfl
                case s3_u78 => kernel_rfl
                case s4_u78 => exact fun _ _ _ h => h
                case s5_u78 => exact Or.inl ⟨rfl, by intro w hSw; (try dsimp only at hSw); go_simp; try with_reducible rfl⟩
                case s6_u78 => assumption
                try simp only [Act.put, List.setIfInBounds_toArray, List.set_cons_zero, List.set_cons_succ]
                with_reducible refine takeI2 (i := 6) (v := ?sv_u79) (oi := ?s0_u79) (by simp only [List.getElem?_toArray, List.getElem?_cons_succ, List.getElem?_cons_zero]; exact rfl) ?s1_u79 ?s2_u79 ?s3_u79 ?s4_u79 ?s5_u79 ?s6_u79 ?s7_u79
                case s1_u79 => kernel_rfl
                case s2_u79 => kernel_rfl
                case s3_u79 => kernel_rfl
                case s4_u79 => exact fun _ _ _ h => h
                case s5_u79 => exact Or.inl ⟨rfl, by intro w hSw; (try dsimp only at hSw); go_simp; try with_reducible rfl⟩
                case s6_u79 => assumption
                try simp only [Act.put, List.setIfInBounds_toArray, List.set_cons_zero, List.set_cons_succ]
                with_reducible refine takeI2 (i := 7) (v := ?sv_u80) (oi := ?s0_u80) (by simp only [List.getElem?_toArray, List.getElem?_cons_succ, List.getElem?_cons_zero]; exact rfl) ?s1_u80 ?s2_u80 ?s3_u80 ?s4_u80 ?s5_u80 ?s6_u80 ?s7_u80
                case s1_u80 => kernel_rfl
                case s2_u80 => kernel_rfl
                case s3_u80 => kernel_rfl
                case s4_u80 => exact fun _ _ _ h => h
                case s5_u80 => exact Or.inl ⟨rfl, by intro w hSw; (try dsimp only at hSw); go_simp; try with_reducible rfl⟩
                case s6_u80 => assumption
                try simp only [Act.put, List.setIfInBounds_toArray, List.set_cons_zero, List.set_cons_succ]
                with_reducible refine takeI2 (i := 8) (v := ?sv_u81) (oi := ?s0_u81) (by simp only [List.getElem?_toArray, List.getElem?_cons_succ, List.getElem?_cons_zero]; exact rfl) ?s1_u81 ?s2_u81 ?s3_u81 ?s4_u81 ?s5_u81 ?s6_u81 ?s7_u81
                case s1_u81 => kernel_rfl
                case s2_u81 => kernel_rfl
                case s3_u81 => kernel_rfl
                case s4_u81 => exact fun _ _ _ h => h
                case s5_u81 => exact Or.inl ⟨rfl, by intro w hSw; (try dsimp only at hSw); go_simp; try with_reducible rfl⟩
                case s6_u81 => assumption
                try simp only [Act.put, List.setIfInBounds_toArray, List.set_cons_zero, List.set_cons_succ]
                with_reducible refine takeI2 (i := 9) (v := ?sv_u82) (oi := ?s0_u82) (by simp only [List.getElem?_toArray, List.getElem?_cons_succ, List.getElem?_cons_zero]; exact rfl) ?s1_u82 ?s2_u82 ?s3_u82 ?s4_u82 ?s5_u82 ?s6_u82 ?s7_u82
                case s1_u82 => kernel_rfl
                case s2_u82 => kernel_rfl
                case s3_u82 => kernel_rfl
                case s4_u82 => exact fun _ _ _ h => h
                case s5_u82 => exact Or.inl ⟨rfl, by intro w hSw; (try dsimp only at hSw); go_simp; try with_reducible rfl⟩
                case s6_u82 => assumption
                try simp only [Act.put, List.setIfInBounds_toArray, List.set_cons_zero, List.set_cons_succ]
                with_reducible refine takeI2 (i := 10) (v := ?sv_u83) (oi := ?s0_u83) (by simp only [List.getElem?_toArray, List.getElem?_cons_succ, List.getElem?_cons_zero]; exact rfl) ?s1_u83 ?s2_u83 ?s3_u83 ?s4_u83 ?s5_u83 ?s6_u83 ?s7_u83
                case s1_u83 => kernel_rfl
                case s2_u83 => kernel_rfl
                case s3_u83 => kernel_rfl
                case s4_u83 => exact fun _ _ _ h => h
                case s5_u83 => exact Or.inl ⟨rfl, by intro w hSw; (try dsimp only at hSw); go_simp; try with_reducible rfl⟩
                case s6_u83 => assumption
                try simp only [Act.put, List.setIfInBounds_toArray, List.set_cons_zero, List.set_cons_succ]
                with_reducible refine takeI2 (i := 11) (v := ?sv_u84) (oi := ?s0_u84) (by simp only [List.getElem?_toArray, List.getElem?_cons_succ, List.getElem?_cons_zero]; exact rfl) ?s1_u84 ?s2_u84 ?s3_u84 ?s4_u84 ?s5_u84 ?s6_u84 ?s7_u84
                case s1_u84 => kernel_rfl
                case s2_u84 => kernel_rfl
                case s3_u84 => kernel_rfl
                case s4_u84 => exact fun _ _ _ h => h
                case s5_u84 => exact Or.inl ⟨rfl, by intro w hSw; (try dsimp only at hSw); go_simp; try with_reducible rfl⟩
                case s6_u84 => assumption
                try simp only [Act.put, List.setIfInBounds_toArray, List.set_cons_zero, List.set_cons_succ]
                with_reducible refine takeI2 (i := 13) (v := ?sv_u85) (oi := ?s0_u85) (by simp only [List.getElem?_toArray, List.getElem?_cons_succ, List.getElem?_cons_zero]; exact rfl) ?s1_u85 ?s2_u85 ?s3_u85 ?s4_u85 ?s5_u85 ?s6_u85 ?s7_u85
                case s1_u85 => kernel_rfl
                case s2_u85 => kernel_rfl
                case s3_u85 => kernel_rfl
                case s4_u85 => exact fun _ _ _ h => h
                case s5_u85 => exact Or.inl ⟨rfl, by intro w hSw; (try dsimp only at hSw); go_simp; try with_reducible rfl⟩
                case s6_u85 => assumption
                try simp only [Act.put, List.setIfInBounds_toArray, List.set_cons_zero, List.set_cons_succ]
                with_reducible refine takeI2 (i := 14) (v := ?sv_u86) (oi := ?s0_u86) (by simp only [List.getElem?_toArray, List.getElem?_cons_succ, List.getElem?_cons_zero]; exact rfl) ?s1_u86 ?s2_u86 ?s3_u86 ?s4_u86 ?s5_u86 ?s6_u86 ?s7_u86
                case s1_u86 => kernel_rfl
                case s2_u86 => kernel_rfl
                case s3_u86 => kernel_rfl
                case s4_u86 => exact fun _ _ _ h => h
                case s5_u86 => exact Or.inl ⟨rfl, by intro w hSw; (try dsimp only at hSw); go_simp; try with_reducible rfl⟩
                case s6_u86 => assumption
                try simp only [Act.put, List.setIfInBounds_toArray, List.set_cons_zero, List.set_cons_succ]
                with_reducible refine takeI2 (i := 15) (v := ?sv_u87) (oi := ?s0_u87) (by simp only [List.getElem?_toArray, List.getElem?_cons_succ, List.getElem?_cons_zero]; exact rfl) ?s1_u87 ?s2_u87 ?s3_u87 ?s4_u87 ?s5_u87 ?s6_u87 ?s7_u87
                case s1_u87 => kernel_rfl
                case s2_u87 => kernel_rfl
                case s3_u87 => kernel_rfl
                case s4_u87 => exact fun _ _ _ h => h
                case s5_u87 => exact Or.inl ⟨rfl, by intro w hSw; (try dsimp only at hSw); go_simp; try with_reducible rfl⟩
                case s6_u87 => assumption
                try simp only [Act.put, List.setIfInBounds_toArray, List.set_cons_zero, List.set_cons_succ]
                with_reducible refine wpAnyH_ready (rs := [12]) ?s1_u88 one_ne ?s2_u88
                case s1_u88 => kernel_rfl
                with_reducible refine AllReadyH.cons (o := ?s0_u88) (by simp only [List.getElem?_toArray, List.getElem?_cons_succ, List.getElem?_cons_zero]; exact rfl) (fun K hK => ?s3_u88) AllReadyH.nil
                go_simp
                refine (HFN.out _ hR hP).mono ?_
                rintro e wq25 ⟨rfl, hb⟩
                replace c0 := cell_on hb c0
                replace hX := hX.below hb
                replace hR := hR.below hb
                replace hP := hP.below hb
                replace hB := bvia hB hb
                clear hb
                go_wp2_with fail
                with_reducible refine hK.out _ _ ?s1_u89 (fun hHeld => ?s2_u89)
                case s1_u89 => (try dsimp only); exact ⟨hX, c0⟩
                clear hK K
                try simp only [Act.put, List.setIfInBounds_toArray, List.set_cons_zero, List.set_cons_succ]
                with_reducible refine wpAnyH_ready (rs := [16]) ?s1_u90 one_ne ?s2_u90
                case s1_u90 => kernel_rfl
                with_reducible refine AllReadyH.cons (o := ?s0_u90) (by simp only [List.getElem?_toArray, List.getElem?_cons_succ, List.getElem?_cons_zero]; exact rfl) (fun K hK => ?s3_u90) AllReadyH.nil
                go_simp
                refine (HFB.out _ hR hP).mono ?_
                rintro e wq26 ⟨rfl, hb⟩
                replace c0 := cell_on hb c0
                replace hX := hX.below hb
                replace hR := hR.below hb
                replace hP := hP.below hb
                replace hB := bvia hB hb
                clear hb
                go_wp2_with fail
                with_reducible refine hK.out _ _ ?s1_u91 (fun hHeld => ?s2_u91)
                case s1_u91 => (try dsimp only); exact ⟨hX, c0⟩
                clear hK K
                try simp only [Act.put, List.setIfInBounds_toArray, List.set_cons_zero, List.set_cons_succ]
                with_reducible refine takeI2 (i := 17) (v := ?sv_u92) (oi := ?s0_u92) (by simp only [List.getElem?_toArray, List.getElem?_cons_succ, List.getElem?_cons_zero]; exact rfl) ?s1_u92 ?s2_u92 ?s3_u92 ?s4_u92 ?s5_u92 ?s6_u92 ?s7_u92
                case s1_u92 => kernel_rfl
                case s2_u92 => kernel_rfl
                case s3_u92 => kernel_rfl
                case s4_u92 => exact fun _ _ _ h => h
                case s5_u92 => exact Or.inl ⟨rfl, by intro w hSw; (try dsimp only at hSw); go_simp; try with_reducible rfl⟩
                case s6_u92 => assumption
                try simp only [Act.put, List.setIfInBounds_toArray, List.set_cons_zero, List.set_cons_succ]
                with_reducible refine takeI2 (i := 18) (v := ?sv_u93) (oi := ?s0_u93) (by simp only [List.getElem?_toArray, List.getElem?_cons_succ, List.getElem?_cons_zero]; exact rfl) ?s1_u93 ?s2_u93 ?s3_u93 ?s4_u93 ?s5_u93 ?s6_u93 ?s7_u93
                case s1_u93 => kernel_rfl
                case s2_u93 => kernel_rfl
                case s3_u93 => kernel_rfl
                case s4_u93 => exact fun _ _ _ h => h
                case s5_u93 => exact Or.inl ⟨rfl, by intro w hSw; (try dsimp only at hSw); go_simp; try with_reducible rfl⟩
                case s6_u93 => assumption
                try simp only [Act.put, List.setIfInBounds_toArray, List.set_cons_zero, List.set_cons_succ]
                with_reducible refine takeI2 (i := 19) (v := ?sv_u94) (oi := ?s0_u94) (by simp only [List.getElem?_toArray, List.getElem?_cons_succ, List.getElem?_cons_zero]; exact rfl) ?s1_u94 ?s2_u94 ?s3_u94 ?s4_u94 ?s5_u94 ?s6_u94 ?s7_u94
                case s1_u94 => kernel_rfl
                case s2_u94 => kernel_rfl
                case s3_u94 => kernel_rfl
                case s4_u94 => exact fun _ _ _ h => h
                case s5_u94 => exact Or.inl ⟨rfl, by intro w hSw; (try dsimp only at hSw); go_simp; try with_reducible rfl⟩
                case s6_u94 => assumption
                try simp only [Act.put, List.setIfInBounds_toArray, List.set_cons_zero, List.set_cons_succ]
                with_reducible refine wpAnyH_done ?s1_u95 ?s2_u95 _
                case s1_u95 => kernel_rfl
                go_wp2_with (fail)
                exact ⟨⟨q + 1, by omega, by go_num, by rw [hwe.out, HE.out], hB⟩, by simp [intOf]; omega⟩
              · have hflb : decide (fb < fq) = false := decide_eq_false hfl
                have HE := Lib.hid (HM.out (fun h => by rcases h.2 with h | h <;> omega))
                go_wp2_with (fail)
                clear m0 m1
                replace hX := hX.below (dr1 _).below
                replace hR := hR.below (dr1 _).below
                replace hP := hP.below (dr1 _).below
                replace c0 := (dr1 _).cell c0
                replace hB := bvia hB (dr1 _).below
                with_reducible refine region_beg (n := 20) (S := (fun w' => (w'.cell? ⟨w.heap.size, 0, none⟩ = some (.int .i64 (N : Int)) ∧ w'.cell? ⟨w.heap.size, 1, none⟩ = some (.slice ad zs.length cap)) ∧ w'.cell? ⟨bp, op + q, none⟩ = some (.int .i64 p))) ?b1_u96 ?b2_u96 ?b3_u96 (fun hHeld => ?b4_u96)
                case b1_u96 => kernel_rfl
                case b2_u96 => kernel_rfl
                case b3_u96 => (try dsimp only); exact ⟨hX, c0⟩
                with_reducible refine takeI2 (i := 0) (v := ?sv_u97) (oi := ?s0_u97) (by simp only [List.getElem?_toArray, List.getElem?_cons_succ, List.getElem?_cons_zero]; exact rfl) ?s1_u97 ?s2_u97 ?s3_u97 ?s4_u97 ?s5_u97 ?s6_u97 ?s7_u97
                case s1_u97 => kernel_rfl
                case s2_u97 => kernel_rfl
                case s3_u97 => kernel_rfl
                case s4_u97 => exact fun _ _ _ h => h
                case s5_u97 => exact Or.inl ⟨rfl, by intro w hSw; (try dsimp only at hSw); go_simp; try with_reducible rfl⟩
                case s6_u97 => assumption
                try simp only [Act.put, List.setIfInBounds_toArray, List.set_cons_zero, List.set_cons_succ]
                with_reducible refine takeI2 (i := 1) (v := ?sv_u98) (oi := ?s0_u98) (by simp only [List.getElem?_toArray, List.getElem?_cons_succ, List.getElem?_cons_zero]; exact rfl) ?s1_u98 ?s2_u98 ?s3_u98 ?s4_u98 ?s5_u98 ?s6_u98 ?s7_u98
                case s1_u98 => kernel_rfl
                case s2_u98 => kernel_rfl
                case s3_u98 => kernel_rfl
                case s4_u98 => exact fun _ _ _ h => h
                case s5_u98 => exact Or.inl ⟨rfl, by intro w hSw; (try dsimp only at hSw); go_simp; try with_reducible rfl⟩
                case s6_u98 => assumption
                try simp only [Act.put, List.setIfInBounds_toArray, List.set_cons_zero, List.set_cons_succ]
                with_reducible refine takeI2 (i := 2) (v := ?sv_u99) (oi := ?s0_u99) (by simp only [List.getElem?_toArray, List.getElem?_cons_succ, List.getElem?_cons_zero]; exact rfl) ?s1_u99 ?s2_u99 ?s3_u99 ?s4_u99 ?s5_u99 ?s6_u99 ?s7_u99
                case s1_u99 => kernel_rfl
                case s2_u99 => kernel_rfl
                case s3_u99 => kernel_rfl
                case s4_u99 => exact fun _ _ _ h => h
                case s5_u99 => exact Or.inl ⟨rfl, by intro w hSw; (try dsimp only at hSw); go_simp; try with_reducible rfl⟩
                case s6_u99 => assumption
                try simp only [Act.put, List.setIfInBounds_toArray, List.set_cons_zero, List.set_cons_succ]
                with_reducible refine takeI2 (i := 3) (v := ?sv_u100) (oi := ?s0_u100) (by simp only [List.getElem?_toArray, List.getElem?_cons_succ, List.getElem?_cons_zero]; exact rfl) ?s1_u100 ?s2_u100 ?s3_u100 ?s4_u100 ?s5_u100 ?s6_u100 ?s7_u100
                case s1_u100 => kernel_rfl
                case s2_u100 => kernel_rfl
                case s3_u100 => kernel_rfl
                case s4_u100 => exact fun _ _ _ h => h
                case s5_u100 => exact Or.inl ⟨rfl, by intro w hSw; (try dsimp only at hSw); go_simp; try with_reducible rfl⟩
                case s6_u100 => assumption
                try simp only [Act.put, List.setIfInBounds_toArray, List.set_cons_zero, List.set_cons_succ]
                with_reducible refine takeI2 (i := 4) (v := ?sv_u101) (oi := ?s0_u101) (by simp only [List.getElem?_toArray, List.getElem?_cons_succ, List.getElem?_cons_zero]; exact rfl) ?s1_u101 ?s2_u101 ?s3_u101 ?s4_u101 ?s5_u101 ?s6_u101 ?s7_u101
                case s1_u101 => kernel_rfl
                case s2_u101 => kernel_rfl
                case s3_u101 => kernel_rfl
                case s4_u101 => exact fun _ _ _ h => h
                case s5_u101 => exact Or.inl ⟨rfl, by intro w hSw; (try dsimp only at hSw); go_simp; try with_reducible rfl⟩
                case s6_u101 => assumption
                try simp only [Act.put, List.setIfInBounds_toArray, List.set_cons_zero, List.set_cons_succ]
                with_reducible refine takeI2 (i := 5) (v := ?sv_u102) (oi := ?s0_u102) (by simp only [List.getElem?_toArray, List.getElem?_cons_succ, List.getElem?_cons_zero]; exact rfl) ?s1_u102 ?s2_u102 ?s3_u102 ?s4_u102 ?s5_u102 ?s6_u102 ?s7_u102
                case s1_u102 => kernel_rfl
                case s2_u102 => kernel_rfl
                case s3_u102 => kernel_rfl
                case s4_u102 => exact fun _ _ _ h => h
                case s5_u102 => exact Or.inl ⟨rfl, by intro w hSw; (try dsimp only at hSw); go_simp; try with_reducible rfl⟩
                case s6_u102 => assumption
                try simp only [Act.put, List.setIfInBounds_toArray, List.set_cons_zero, List.set_cons_succ]
                with_reducible refine takeI2 (i := 6) (v := ?sv_u103) (oi := ?s0_u103) (by simp only [List.getElem?_toArray, List.getElem?_cons_succ, List.getElem?_cons_zero]; exact rfl) ?s1_u103 ?s2_u103 ?s3_u103 ?s4_u103 ?s5_u103 ?s6_u103 ?s7_u103
                case s1_u103 => kernel_rfl
                case s2_u103 => kernel_rfl
                case s3_u103 => kernel_rfl
                case s4_u103 => exact fun _ _ _ h => h
                case s5_u103 => exact Or.inl ⟨rfl, by intro w hSw; (try dsimp only at hSw); go_simp; try with_reducible rfl⟩
                case s6_u103 => assumption
                try simp only [Act.put, List.setIfInBounds_toArray, List.set_cons_zero, List.set_cons_succ]
                with_reducible refine takeI2 (i := 7) (v := ?sv_u104) (oi := ?s0_u104) (by simp only [List.getElem?_toArray, List.getElem?_cons_succ, List.getElem?_cons_zero]; exact rfl) ?s1_u104 ?s2_u104 ?s3_u104 ?s4_u104 ?s5_u104 ?s6_u104 ?s7_u104
                case s1_u104 => kernel_rfl
                case s2_u104 => kernel_rfl
                case s3_u104 => kernel_rfl
                case s4_u104 => exact fun _ _ _ h => h
                case s5_u104 => exact Or.inl ⟨rfl, by intro w hSw; (try dsimp only at hSw); go_simp; try with_reducible rfl⟩
                case s6_u104 => assumption
                try simp only [Act.put, List.setIfInBounds_toArray, List.set_cons_zero, List.set_cons_succ]
                with_reducible refine takeI2 (i := 8) (v := ?sv_u105) (oi := ?s0_u105) (by simp only [List.getElem?_toArray, List.getElem?_cons_succ, List.getElem?_cons_zero]; exact rfl) ?s1_u105 ?s2_u105 ?s3_u105 ?s4_u105 ?s5_u105 ?s6_u105 ?s7_u105
                case s1_u105 => kernel_rfl
                case s2_u105 => kernel_rfl
                case s3_u105 => kernel_rfl
                case s4_u105 => exact fun _ _ _ h => h
                case s5_u105 => exact Or.inl ⟨rfl, by intro w hSw; (try dsimp only at hSw); go_simp; try with_reducible rfl⟩
                case s6_u105 => assumption
                try simp only [Act.put, List.setIfInBounds_toArray, List.set_cons_zero, List.set_cons_succ]
                with_reducible refine takeI2 (i := 9) (v := ?sv_u106) (oi := ?s0_u106) (by simp only [List.getElem?_toArray, List.getElem?_cons_succ, List.getElem?_cons_zero]; exact rfl) ?s1_u106 ?s2_u106 ?s3_u106 ?s4_u106 ?s5_u106 ?s6_u106 ?s7_u106
                case s1_u106 => kernel_rfl
                case s2_u106 => kernel_rfl
                case s3_u106 => kernel_rfl
                case s4_u106 => exact fun _ _ _ h => h
                case s5_u106 => exact Or.inl ⟨rfl, by intro w hSw; (try dsimp only at hSw); go_simp; try with_reducible rfl⟩
                case s6_u106 => assumption
                try simp only [Act.put, List.setIfInBounds_toArray, List.set_cons_zero, List.set_cons_succ]
                with_reducible refine takeI2 (i := 10) (v := ?sv_u107) (oi := ?s0_u107) (by simp only [List.getElem?_toArray, List.getElem?_cons_succ, List.getElem?_cons_zero]; exact rfl) ?s1_u107 ?s2_u107 ?s3_u107 ?s4_u107 ?s5_u107 ?s6_u107 ?s7_u107
                case s1_u107 => kernel_rfl
                case s2_u107 => kernel_rfl
                case s3_u107 => kernel_rfl
                case s4_u107 => exact fun _ _ _ h => h
                case s5_u107 => exact Or.inl ⟨rfl, by intro w hSw; (try dsimp only at hSw); go_simp; try with_reducible rfl⟩
                case s6_u107 => assumption
                try simp only [Act.put, List.setIfInBounds_toArray, List.set_cons_zero, List.set_cons_succ]
                with_reducible refine takeI2 (i := 11) (v := ?sv_u108) (oi := ?s0_u108) (by simp only [List.getElem?_toArray, List.getElem?_cons_succ, List.getElem?_cons_zero]; exact rfl) ?s1_u108 ?s2_u108 ?s3_u108 ?s4_u108 ?s5_u108 ?s6_u108 ?s7_u108
                case s1_u108 => kernel_rfl
                case s2_u108 => kernel_rfl
                case s3_u108 => kernel_rfl
                case s4_u108 => exact fun _ _ _ h => h
                case s5_u108 => exact Or.inl ⟨rfl, by intro w hSw; (try dsimp only at hSw); go_simp; try with_reducible rfl⟩
                case s6_u108 => assumption
                try simp only [Act.put, List.setIfInBounds_toArray, List.set_cons_zero, List.set_cons_succ]
                with_reducible refine takeI2 (i := 13) (v := ?sv_u109) (oi := ?s0_u109) (by simp only [List.getElem?_toArray, List.getElem?_cons_succ, List.getElem?_cons_zero]; exact rfl) ?s1_u109 ?s2_u109 ?s3_u109 ?s4_u109 ?s5_u109 ?s6_u109 ?s7_u109
                case s1_u109 => kernel_rfl
                case s2_u109 => kernel_rfl
                case s3_u109 => kernel_rfl
                case s4_u109 => exact fun _ _ _ h => h
                case s5_u109 => exact Or.inl ⟨rfl, by intro w hSw; (try dsimp only at hSw); go_simp; try with_reducible rfl⟩
                case s6_u109 => assumption
                try simp only [Act.put, List.setIfInBounds_toArray, List.set_cons_zero, List.set_cons_succ]
                with_reducible refine takeI2 (i := 14) (v := ?sv_u110) (oi := ?s0_u110) (by simp only [List.getElem?_toArray, List.getElem?_cons_succ, List.getElem?_cons_zero]; exact rfl) ?s1_u110 ?s2_u110 ?s3_u110 ?s4_u110 ?s5_u110 ?s6_u110 ?s7_u110
                case s1_u110 => kernel_rfl
                case s2_u110 => kernel_rfl
                case s3_u110 => kernel_rfl
                case s4_u110 => exact fun _ _ _ h => h
                case s5_u110 => exact Or.inl ⟨rfl, by intro w hSw; (try dsimp only at hSw); go_simp; try with_reducible rfl⟩
                case s6_u110 => assumption
                try simp only [Act.put, List.setIfInBounds_toArray, List.set_cons_zero, List.set_cons_succ]
                with_reducible refine takeI2 (i := 15) (v := ?sv_u111) (oi := ?s0_u111) (by simp only [List.getElem?_toArray, List.getElem?_cons_succ, List.getElem?_cons_zero]; exact rfl) ?s1_u111 ?s2_u111 ?s3_u111 ?s4_u111 ?s5_u111 ?s6_u111 ?s7_u111
                case s1_u111 => kernel_rfl
                case s2_u111 => kernel_rfl
                case s3_u111 => kernel_rfl
                case s4_u111 => exact fun _ _ _ h => h
                case s5_u111 => exact Or.inl ⟨rfl, by intro w hSw; (try dsimp only at hSw); go_simp; try with_reducible rfl⟩
                case s6_u111 => assumption
                try simp only [Act.put, List.setIfInBounds_toArray, List.set_cons_zero, List.set_cons_succ]
                with_reducible refine wpAnyH_ready (rs := [12]) ?s1_u112 one_ne ?s2_u112
                case s1_u112 => kernel_rfl
                with_reducible refine AllReadyH.cons (o := ?s0_u112) (by simp only [List.getElem?_toArray, List.getElem?_cons_succ, List.getElem?_cons_zero]; exact rfl) (fun K hK => ?s3_u112) AllReadyH.nil
                go_simp
                refine (HFN.out _ hR hP).mono ?_
                rintro e wq27 ⟨rfl, hb⟩
                replace c0 := cell_on hb c0
                replace hX := hX.below hb
                replace hR := hR.below hb
                replace hP := hP.below hb
                replace hB := bvia hB hb
                clear hb
                go_wp2_with fail
                with_reducible refine hK.out _ _ ?s1_u113 (fun hHeld => ?s2_u113)
                case s1_u113 => (try dsimp only); exact ⟨hX, c0⟩
                clear hK K
                try simp only [Act.put, List.setIfInBounds_toArray, List.set_cons_zero, List.set_cons_succ]
                with_reducible refine wpAnyH_ready (rs := [16]) ?s1_u114 one_ne ?s2_u114
                case s1_u114 => kernel_rfl
                with_reducible refine AllReadyH.cons (o := ?s0_u114) (by simp only [List.getElem?_toArray, List.getElem?_cons_succ, List.getElem?_cons_zero]; exact rfl) (fun K hK => ?s3_u114) AllReadyH.nil
                go_simp
                refine (HFB.out _ hR hP).mono ?_
                rintro e wq28 ⟨rfl, hb⟩
                replace c0 := cell_on hb c0
                replace hX := hX.below hb
                replace hR := hR.below hb
                replace hP := hP.below hb
                replace hB := bvia hB hb
                clear hb
                go_wp2_with fail
                with_reducible refine hK.out _ _ ?s1_u115 (fun hHeld => ?s2_u115)
                case s1_u115 => (try dsimp only); exact ⟨hX, c0⟩
                clear hK K
                try simp only [Act.put, List.setIfInBounds_toArray, List.set_cons_zero, List.set_cons_succ]
                with_reducible refine takeI2 (i := 17) (v := ?sv_u116) (oi := ?s0_u116) (by simp only [List.getElem?_toArray, List.getElem?_cons_succ, List.getElem?_cons_zero]; exact rfl) ?s1_u116 ?s2_u116 ?s3_u116 ?s4_u116 ?s5_u116 ?s6_u116 ?s7_u116
                case s1_u116 => kernel_rfl
                case s2_u116 => kernel_rfl
                case s3_u116 => kernel_rfl
                case s4_u116 => exact fun _ _ _ h => h
                case s5_u116 => exact Or.inl ⟨rfl, by intro w hSw; (try dsimp only at hSw); go_simp; try with_reducible rfl⟩
                case s6_u116 => assumption
                try simp only [Act.put, List.setIfInBounds_toArray, List.set_cons_zero, List.set_cons_succ]
                with_reducible refine takeI2 (i := 18) (v := ?sv_u117) (oi := ?s0_u117) (by simp only [List.getElem?_toArray, List.getElem?_cons_succ, List.getElem?_cons_zero]; exact rfl) ?s1_u117 ?s2_u117 ?s3_u117 ?s4_u117 ?s5_u117 ?s6_u117 ?s7_u117
                case s1_u117 => kernel_rfl
                case s2_u117 => kernel_rfl
                case s3_u117 => kernel_rfl
                case s4_u117 => exact fun _ _ _ h => h
                case s5_u117 => exact Or.inl ⟨rfl, by intro w hSw; (try dsimp only at hSw); go_simp; try with_reducible rfl⟩
                case s6_u117 => assumption
                try simp only [Act.put, List.setIfInBounds_toArray, List.set_cons_zero, List.set_cons_succ]
                with_reducible refine takeI2 (i := 19) (v := ?sv_u118) (oi := ?s0_u118) (by simp only [List.getElem?_toArray, List.getElem?_cons_succ, List.getElem?_cons_zero]; exact rfl) ?s1_u118 ?s2_u118 ?s3_u118 ?s4_u118 ?s5_u118 ?s6_u118 ?s7_u118
                case s1_u118 => kernel_rfl
                case s2_u118 => kernel_rfl
                case s3_u118 => kernel_rfl
                case s4_u118 => exact fun _ _ _ h => h
                case s5_u118 => exact Or.inl ⟨rfl, by intro w hSw; (try dsimp only at hSw); go_simp; try with_reducible rfl⟩
                case s6_u118 => assumption
                try simp only [Act.put, List.setIfInBounds_toArray, List.set_cons_zero, List.set_cons_succ]
                with_reducible refine wpAnyH_done ?s1_u119 ?s2_u119 _
                case s1_u119 => kernel_rfl
                go_wp2_with (fail)
                exact ⟨⟨q + 1, by omega, by go_num, by rw [hwe.out, HE.out], hB⟩, by simp [intOf]; omega⟩
          · have h0b : decide (0 ≤ p) = false := decide_eq_false h0
            have HE := Lib.hid (HM.out (fun h => h0 h.1))
            go_wp2_with (fail)
            clear m0 m1
            replace hX := hX.below (dr1 _).below
            replace hR := hR.below (dr1 _).below
            replace hP := hP.below (dr1 _).below
            replace c0 := (dr1 _).cell c0
            replace hB := bvia hB (dr1 _).below
            with_reducible refine region_beg (n := 20) (S := (fun w' => (w'.cell? ⟨w.heap.size, 0, none⟩ = some (.int .i64 (N : Int)) ∧ w'.cell? ⟨w.heap.size, 1, none⟩ = some (.slice ad zs.length cap)) ∧ w'.cell? ⟨bp, op + q, none⟩ = some (.int .i64 p))) ?b1_u120 ?b2_u120 ?b3_u120 (fun hHeld => ?b4_u120)
            case b1_u120 => kernel_rfl
            case b2_u120 => kernel_rfl
            case b3_u120 => (try dsimp only); exact ⟨hX, c0⟩
            with_reducible refine takeI2 (i := 0) (v := ?sv_u121) (oi := ?s0_u121) (by simp only [List.getElem?_toArray, List.getElem?_cons_succ, List.getElem?_cons_zero]; exact rfl) ?s1_u121 ?s2_u121 ?s3_u121 ?s4_u121 ?s5_u121 ?s6_u121 ?s7_u121
            case s1_u121 => kernel_rfl
            case s2_u121 => kernel_rfl
            case s3_u121 => kernel_rfl
            case s4_u121 => exact fun _ _ _ h => h
            case s5_u121 => exact Or.inl ⟨rfl, by intro w hSw; (try dsimp only at hSw); go_simp; try with_reducible rfl⟩
            case s6_u121 => assumption
            try simp only [Act.put, List.setIfInBounds_toArray, List.set_cons_zero, List.set_cons_succ]
            with_reducible refine takeI2 (i := 1) (v := ?sv_u122) (oi := ?s0_u122) (by simp only [List.getElem?_toArray, List.getElem?_cons_succ, List.getElem?_cons_zero]; exact rfl) ?s1_u122 ?s2_u122 ?s3_u122 ?s4_u122 ?s5_u122 ?s6_u122 ?s7_u122
            case s1_u122 => kernel_rfl
            case s2_u122 => kernel_rfl
            case s3_u122 => kernel_rfl
            case s4_u122 => exact fun _ _ _ h => h
            case s5_u122 => exact Or.inl ⟨rfl, by intro w hSw; (try dsimp only at hSw); go_simp; try with_reducible rfl⟩
            case s6_u122 => assumption
            try simp only [Act.put, List.setIfInBounds_toArray, List.set_cons_zero, List.set_cons_succ]
            with_reducible refine takeI2 (i := 2) (v := ?sv_u123) (oi := ?s0_u123) (by simp only [List.getElem?_toArray, List.getElem?_cons_succ, List.getElem?_cons_zero]; exact rfl) ?s1_u123 ?s2_u123 ?s3_u123 ?s4_u123 ?s5_u123 ?s6_u123 ?s7_u123
            case s1_u123 => kernel_rfl
            case s2_u123 => kernel_rfl
            case s3_u123 => kernel_rfl
            case s4_u123 => exact fun _ _ _ h => h
            case s5_u123 => exact Or.inl ⟨rfl, by intro w hSw; (try dsimp only at hSw); go_simp; try with_reducible rfl⟩
            case s6_u123 => assumption
            try simp only [Act.put, List.setIfInBounds_toArray, List.set_cons_zero, List.set_cons_succ]
            with_reducible refine takeI2 (i := 3) (v := ?sv_u124) (oi := ?s0_u124) (by simp only [List.getElem?_toArray, List.getElem?_cons_succ, List.getElem?_cons_zero]; exact rfl) ?s1_u124 ?s2_u124 ?s3_u124 ?s4_u124 ?s5_u124 ?s6_u124 ?s7_u124
            case s1_u124 => kernel_rfl
            case s2_u124 => kernel_rfl
            case s3_u124 => kernel_rfl
            case s4_u124 => exact fun _ _ _ h => h
            case s5_u124 => exact Or.inl ⟨rfl, by intro w hSw; (try dsimp only at hSw); go_simp; try with_reducible rfl⟩
            case s6_u124 => assumption
            try simp only [Act.put, List.setIfInBounds_toArray, List.set_cons_zero, List.set_cons_succ]
            with_reducible refine takeI2 (i := 4) (v := ?sv_u125) (oi := ?s0_u125) (by simp only [List.getElem?_toArray, List.getElem?_cons_succ, List.getElem?_cons_zero]; exact rfl) ?s1_u125 ?s2_u125 ?s3_u125 ?s4_u125 ?s5_u125 ?s6_u125 ?s7_u125
            case s1_u125 => kernel_rfl
            case s2_u125 => kernel_rfl
            case s3_u125 => kernel_rfl
            case s4_u125 => exact fun _ _ _ h => h
            case s5_u125 => exact Or.inl ⟨rfl, by intro w hSw; (try dsimp only at hSw); go_simp; try with_reducible rfl⟩
            case s6_u125 => assumption
            try simp only [Act.put, List.setIfInBounds_toArray, List.set_cons_zero, List.set_cons_succ]
            with_reducible refine takeI2 (i := 5) (v := ?sv_u126) (oi := ?s0_u126) (by simp only [List.getElem?_toArray, List.getElem?_cons_succ, List.getElem?_cons_zero]; exact rfl) ?s1_u126 ?s2_u126 ?s3_u126 ?s4_u126 ?s5_u126 ?s6_u126 ?s7_u126
            case s1_u126 => kernel_rfl
            case s2_u126 => kernel_rfl
            case s3_u126 => kernel_rfl
            case s4_u126 => exact fun _ _ _ h => h
            case s5_u126 => exact Or.inl ⟨rfl, by intro w hSw; (try dsimp only at hSw); go_simp; try with_reducible rfl⟩
            case s6_u126 => assumption
            try simp only [Act.put, List.setIfInBounds_toArray, List.set_cons_zero, List.set_cons_succ]
            with_reducible refine takeI2 (i := 6) (v := undef) (oi := ?s0_u127) (by simp only [List.getElem?_toArray, List.getElem?_cons_succ, List.getElem?_cons_zero]; exact rfl) ?s1_u127 ?s2_u127 ?s3_u127 ?s4_u127 ?s5_u127 ?s6_u127 ?s7_u127
            case s1_u127 => kernel_rfl
            case s2_u127 => kernel_rfl
            case s3_u127 => kernel_rfl
            case s4_u127 => exact fun _ _ _ h => h
            case s5_u127 => exact Or.inr ⟨rfl, rfl⟩
            case s6_u127 => assumption
            try simp only [Act.put, List.setIfInBounds_toArray, List.set_cons_zero, List.set_cons_succ]
            with_reducible refine takeI2 (i := 7) (v := undef) (oi := ?s0_u128) (by simp only [List.getElem?_toArray, List.getElem?_cons_succ, List.getElem?_cons_zero]; exact rfl) ?s1_u128 ?s2_u128 ?s3_u128 ?s4_u128 ?s5_u128 ?s6_u128 ?s7_u128
            case s1_u128 => kernel_rfl
            case s2_u128 => kernel_rfl
            case s3_u128 => kernel_rfl
            case s4_u128 => exact fun _ _ _ h => h
            case s5_u128 => exact Or.inr ⟨rfl, rfl⟩
            case s6_u128 => assumption
            try simp only [Act.put, List.setIfInBounds_toArray, List.set_cons_zero, List.set_cons_succ]
            with_reducible refine takeI2 (i := 8) (v := undef) (oi := ?s0_u129) (by simp only [List.getElem?_toArray, List.getElem?_cons_succ, List.getElem?_cons_zero]; exact rfl) ?s1_u129 ?s2_u129 ?s3_u129 ?s4_u129 ?s5_u129 ?s6_u129 ?s7_u129
            case s1_u129 => kernel_rfl
            case s2_u129 => kernel_rfl
            case s3_u129 => kernel_rfl
            case s4_u129 => exact fun _ _ _ h => h
            case s5_u129 => exact Or.inr ⟨rfl, rfl⟩
            case s6_u129 => assumption
            try simp only [Act.put, List.setIfInBounds_toArray, List.set_cons_zero, List.set_cons_succ]
            with_reducible refine takeI2 (i := 9) (v := undef) (oi := ?s0_u130) (by simp only [List.getElem?_toArray, List.getElem?_cons_succ, List.getElem?_cons_zero]; exact rfl) ?s1_u130 ?s2_u130 ?s3_u130 ?s4_u130 ?s5_u130 ?s6_u130 ?s7_u130
            case s1_u130 => kernel_rfl
            case s2_u130 => kernel_rfl
            case s3_u130 => kernel_rfl
            case s4_u130 => exact fun _ _ _ h => h
            case s5_u130 => exact Or.inr ⟨rfl, rfl⟩
            case s6_u130 => assumption
            try simp only [Act.put, List.setIfInBounds_toArray, List.set_cons_zero, List.set_cons_succ]
            with_reducible refine takeI2 (i := 10) (v := undef) (oi := ?s0_u131) (by simp only [List.getElem?_toArray, List.getElem?_cons_succ, List.getElem?_cons_zero]; exact rfl) ?s1_u131 ?s2_u131 ?s3_u131 ?s4_u131 ?s5_u131 ?s6_u131 ?s7_u131
            case s1_u131 => kernel_rfl
            case s2_u131 => kernel_rfl
            case s3_u131 => kernel_rfl
            case s4_u131 => exact fun _ _ _ h => h
            case s5_u131 => exact Or.inr ⟨rfl, rfl⟩
            case s6_u131 => assumption
            try simp only [Act.put, List.setIfInBounds_toArray, List.set_cons_zero, List.set_cons_succ]
            with_reducible refine takeI2 (i := 11) (v := undef) (oi := ?s0_u132) (by simp only [List.getElem?_toArray, List.getElem?_cons_succ, List.getElem?_cons_zero]; exact rfl) ?s1_u132 ?s2_u132 ?s3_u132 ?s4_u132 ?s5_u132 ?s6_u132 ?s7_u132
            case s1_u132 => kernel_rfl
            case s2_u132 => kernel_rfl
            case s3_u132 => kernel_rfl
            case s4_u132 => exact fun _ _ _ h => h
            case s5_u132 => exact Or.inr ⟨rfl, rfl⟩
            case s6_u132 => assumption
            try simp only [Act.put, List.setIfInBounds_toArray, List.set_cons_zero, List.set_cons_succ]
            with_reducible refine takeI2 (i := 12) (v := undef) (oi := ?s0_u133) (by simp only [List.getElem?_toArray, List.getElem?_cons_succ, List.getElem?_cons_zero]; exact rfl) ?s1_u133 ?s2_u133 ?s3_u133 ?s4_u133 ?s5_u133 ?s6_u133 ?s7_u133
            case s1_u133 => kernel_rfl
            case s2_u133 => kernel_rfl
            case s3_u133 => kernel_rfl
            case s4_u133 => exact fun _ _ _ h => h
            case s5_u133 => exact Or.inr ⟨rfl, rfl⟩
            case s6_u133 => assumption
            try simp only [Act.put, List.setIfInBounds_toArray, List.set_cons_zero, List.set_cons_succ]
            with_reducible refine takeI2 (i := 13) (v := undef) (oi := ?s0_u134) (by simp only [List.getElem?_toArray, List.getElem?_cons_succ, List.getElem?_cons_zero]; exact rfl) ?s1_u134 ?s2_u134 ?s3_u134 ?s4_u134 ?s5_u134 ?s6_u134 ?s7_u134
            case s1_u134 => kernel_rfl
            case s2_u134 => kernel_rfl
            case s3_u134 => kernel_rfl
            case s4_u134 => exact fun _ _ _ h => h
            case s5_u134 => exact Or.inr ⟨rfl, rfl⟩
            case s6_u134 => assumption
            try simp only [Act.put, List.setIfInBounds_toArray, List.set_cons_zero, List.set_cons_succ]
            with_reducible refine takeI2 (i := 14) (v := undef) (oi := ?s0_u135) (by simp only [List.getElem?_toArray, List.getElem?_cons_succ, List.getElem?_cons_zero]; exact rfl) ?s1_u135 ?s2_u135 ?s3_u135 ?s4_u135 ?s5_u135 ?s6_u135 ?s7_u135
            case s1_u135 => kernel_rfl
            case s2_u135 => kernel_rfl
            case s3_u135 => kernel_rfl
            case s4_u135 => exact fun _ _ _ h => h
            case s5_u135 => exact Or.inr ⟨rfl, rfl⟩
            case s6_u135 => assumption
            try simp only [Act.put, List.setIfInBounds_toArray, List.set_cons_zero, List.set_cons_succ]
            with_reducible refine takeI2 (i := 15) (v := undef) (oi := ?s0_u136) (by simp only [List.getElem?_toArray, List.getElem?_cons_succ, List.getElem?_cons_zero]; exact rfl) ?s1_u136 ?s2_u136 ?s3_u136 ?s4_u136 ?s5_u136 ?s6_u136 ?s7_u136
            case s1_u136 => kernel_rfl
            case s2_u136 => kernel_rfl
            case s3_u136 => kernel_rfl
            case s4_u136 => exact fun _ _ _ h => h
            case s5_u136 => exact Or.inr ⟨rfl, rfl⟩
            case s6_u136 => assumption
            try simp only [Act.put, List.setIfInBounds_toArray, List.set_cons_zero, List.set_cons_succ]
            with_reducible refine takeI2 (i := 16) (v := undef) (oi := ?s0_u137) (by simp only [List.getElem?_toArray, List.getElem?_cons_succ, List.getElem?_cons_zero]; exact rfl) ?s1_u137 ?s2_u137 ?s3_u137 ?s4_u137 ?s5_u137 ?s6_u137 ?s7_u137
            case s1_u137 => kernel_rfl
            case s2_u137 => kernel_rfl
            case s3_u137 => kernel_rfl
            case s4_u137 => exact fun _ _ _ h => h
            case s5_u137 => exact Or.inr ⟨rfl, rfl⟩
            case s6_u137 => assumption
            try simp only [Act.put, List.setIfInBounds_toArray, List.set_cons_zero, List.set_cons_succ]
            with_reducible refine takeI2 (i := 17) (v := undef) (oi := ?s0_u138) (by simp only [List.getElem?_toArray, List.getElem?_cons_succ, List.getElem?_cons_zero]; exact rfl) ?s1_u138 ?s2_u138 ?s3_u138 ?s4_u138 ?s5_u138 ?s6_u138 ?s7_u138
            case s1_u138 => kernel_rfl
            case s2_u138 => kernel_rfl
            case s3_u138 => kernel_rfl
            case s4_u138 => exact fun _ _ _ h => h
            case s5_u138 => exact Or.inr ⟨rfl, rfl⟩
            case s6_u138 => assumption
            try simp only [Act.put, List.setIfInBounds_toArray, List.set_cons_zero, List.set_cons_succ]
            with_reducible refine takeI2 (i := 18) (v := undef) (oi := ?s0_u139) (by simp only [List.getElem?_toArray, List.getElem?_cons_succ, List.getElem?_cons_zero]; exact rfl) ?s1_u139 ?s2_u139 ?s3_u139 ?s4_u139 ?s5_u139 ?s6_u139 ?s7_u139
            case s1_u139 => kernel_rfl
            case s2_u139 => kernel_rfl
            case s3_u139 => kernel_rfl
            case s4_u139 => exact fun _ _ _ h => h
            case s5_u139 => exact Or.inr ⟨rfl, rfl⟩
            case s6_u139 => assumption
            try simp only [Act.put, List.setIfInBounds_toArray, List.set_cons_zero, List.set_cons_succ]
            with_reducible refine takeI2 (i := 19) (v := ?sv_u140) (oi := ?s0_u140) (by simp only [List.getElem?_toArray, List.getElem?_cons_succ, List.getElem?_cons_zero]; exact rfl) ?s1_u140 ?s2_u140 ?s3_u140 ?s4_u140 ?s5_u140 ?s6_u140 ?s7_u140
            case s1_u140 => kernel_rfl
            case s2_u140 => kernel_rfl
            case s3_u140 => kernel_rfl
            case s4_u140 => exact fun _ _ _ h => h
            case s5_u140 => exact Or.inl ⟨rfl, by intro w hSw; (try dsimp only at hSw); go_simp; try with_reducible rfl⟩
            case s6_u140 => assumption
            try simp only [Act.put, List.setIfInBounds_toArray, List.set_cons_zero, List.set_cons_succ]
            with_reducible refine wpAnyH_done ?s1_u141 ?s2_u141 _
            case s1_u141 => kernel_rfl
            go_wp2_with (fail)
            exact ⟨⟨q + 1, by omega, by go_num, by rw [hwe.out, HE.out], hB⟩, by simp [intOf]; omega⟩
        · obtain rfl : q = N := by omega
          go_wp2_with (fail)
          go_ret
          exact ⟨ret_int HWV2.out.symm, bvia HB2.out hB⟩

set_option maxHeartbeats 4000000 in
theorem implWorstString_any (J : Int) (zs : List LimbV) (ps : List Int) (u v : Value) (w : World) (h : RdLimb w u zs) (h' : RdI w v ps) :
    Calls Try.prog 20 #[.agg #[.int .i64 J, u], v] w fun e w' => e = .returned (.int .i64 (worstV J zs ps)) ∧ Below w.heap.size w w' := by
  obtain ⟨ad, cap, rfl⟩ := h.shape
  obtain ⟨ap, cp, rfl⟩ := h'.shape
  have hb0 := below_alloc1 w (.cells #[.int .i64 J, .slice ad zs.length cap] 26)
  have hx0 := BX.new w J (.slice ad zs.length cap)
  have HS := Lib.hid (And.intro hb0 (And.intro hx0 (And.intro (h.below hb0) (h'.below hb0))))
  have HP1 := Lib.hid (fun w' h h' => implPullsOk_any J zs ps (.slice ad zs.length cap) (.slice ap ps.length cp) w' h h')
  have HFA := Lib.hid (fun j w' h h' => implFallOf_any J zs ps j (.slice ad zs.length cap) (.slice ap ps.length cp) w' h h')
  clear hb0 hx0 h h'
  go_enter Try.func20, Try.ntmps20
  go_wp2_with (fail)
  generalize w.alloc (.cells #[.int .i64 J, .slice ad zs.length cap] 26) = w1 at HS ⊢
  obtain ⟨hB, hX, hR, hP⟩ := HS.out
  clear HS
  obtain ⟨m0, m1⟩ := id hX
  go_wp2_with (fail)
  cases hp : pullsB J zs ps with
  | false =>
    have HE := Lib.hid (show worstV J zs ps = -1 from if_neg (by simp [hp]))
    rw [hp] at HP1
    refine (HP1.out _ hR hP).mono ?_
    rintro e wk29 ⟨rfl, hb⟩
    replace hX := hX.below hb
    replace hR := hR.below hb
    replace hP := hP.below hb
    replace hB := bvia hB hb
    clear m0 m1 hb
    obtain ⟨m0, m1⟩ := id hX
    go_wp2_with (fail)
    go_ret
    exact ⟨ret_int HE.out.symm, hB⟩
  | true =>
    rw [hp] at HP1
    obtain ⟨N, rfl⟩ : ∃ N : Nat, J = N := by
      obtain ⟨N, h, _⟩ := body_tree (pulls_open hp).1
      exact ⟨N, h⟩
    have hN := (pulls_facts hp).1
    have HPK := Lib.hid hp
    have HPL := Lib.hid (pulls_facts hp).2.2.1
    have hl12 : ps.length ≤ 12 := by have := HPL.out; omega
    have HWV : Hid (strN ps ≠ 1 → worstV N zs ps = worstK N zs ps N) := by
      intro h
      unfold worstV
      rw [if_pos ⟨hp, h⟩, Int.toNat_natCast]
    have HWN : Hid (strN ps = 1 → worstV N zs ps = -1) := fun h => if_neg (fun h2 => h2.2 h)
    have HFG : Hid (strN ps ≠ 1 → ∀ j, j < N → 0 ≤ fallV N zs ps j ∧ fallV N zs ps j ≤ 2500) := fun h j hj => ⟨fall_ge hp hj h, fall_le hp hj⟩
    clear hp
    have HLL := Lib.hid (fun w' h => countStrings_any ps (.slice ap ps.length cp) w' h)
    rw [cntI_strN (pulls_open HPK.out).2.2.1] at HLL
    have HLE := Lib.hid (strN_le ps)
    obtain ⟨s, hs⟩ : ∃ s, strN ps = s := ⟨_, rfl⟩
    rw [hs] at HLL HLE HWV HWN HFG
    have hs12 : s ≤ 12 := by have := HLE.out; omega
    clear hs HLE
    refine (HP1.out _ hR hP).mono ?_
    rintro e wk30 ⟨rfl, hb⟩
    replace hX := hX.below hb
    replace hR := hR.below hb
    replace hP := hP.below hb
    replace hB := bvia hB hb
    clear m0 m1 hb
    obtain ⟨m0, m1⟩ := id hX
    go_wp2_with (fail)
    by_cases h1 : s = 1
    · have HE := Lib.hid (HWN.out h1)
      subst h1
      refine (HLL.out _ hP).mono ?_
      rintro e wy ⟨rfl, rfl⟩
      go_wp2_with (fail)
      go_ret
      exact ⟨ret_int HE.out.symm, hB⟩
    · have h1i : ¬ (s : Int) = 1 := by omega
      have h1b : ((s : Int) == 1) = false := beq_eq_false_iff_ne.2 h1i
      refine (HLL.out _ hP).mono ?_
      rintro e wy ⟨rfl, rfl⟩
      have HF2 := Lib.hid (HFG.out h1)
      have HWV2 := Lib.hid (HWV.out h1)
      clear HFG HWV HWN
      have HB2 := Lib.hid hB
      have hB := Below.refl wk30.heap.size wk30
      have HX := Lib.hid (And.intro hX (And.intro hR hP))
      have hN1 := hN.1
      obtain ⟨bp, op, rfl, _⟩ := hP.cellP (k := 0) (by have := HPL.out; omega)
      go_wp2_with (fail)
      clear m0 m1 hX hR hP HLL
      go_loopw [5, 6, 21] (fun b m k wr => ∃ q : Nat, q ≤ ps.length ∧ k = .int .i64 q ∧ b = .int .i64 (worstK N zs ps q) ∧ m = .int .i64 (mostK N zs ps q) ∧ Below wk30.heap.size wk30 wr) (fun _ _ k _ => ps.length - (intOf k).toNat)
      case atStart => exact ⟨0, Nat.zero_le _, rfl, rfl, rfl, hB⟩
      case round =>
       focus
        clear hB
        obtain ⟨q, hq, rfl, rfl, rfl, hB⟩ := hrel
        obtain ⟨hX, hR, hP⟩ := HX.out
        replace hX := hX.below hB
        replace hR := hR.below hB
        replace hP := hP.below hB
        obtain ⟨m0, m1⟩ := id hX
        by_cases hlt : q < ps.length
        · have hqN : q < N := by have := HPL.out; omega
          obtain ⟨bp', op', e1, c0⟩ := hP.cellP hlt
          obtain ⟨rfl, rfl⟩ : bp = bp' ∧ op = op' := by simpa using e1
          have qlt2 : (q : Int) < (ps.length : Int) := by omega
          have hpb := pf_bd (pulls_open HPK.out).2.2.1 q
          have HFQ := HF2.out q hqN
          have HH := Lib.hid (fun h h2 => worst_hit (J := N) (zs := zs) (ps := ps) (k := q) h h2)
          have HM := Lib.hid (fun h => worst_miss (J := N) (zs := zs) (ps := ps) (k := q) h)
          have HMI := Lib.hid (most_iff (J := N) (zs := zs) (ps := ps) (k := q) HFQ.1)
          have HMH := Lib.hid (fun h => most_hit (J := N) (zs := zs) (ps := ps) (k := q) h)
          have HMM : Hid (worstK N zs ps (q + 1) = worstK N zs ps q → mostK N zs ps (q + 1) = mostK N zs ps q) := fun h => by unfold mostK; rw [h]
          have HFN := Lib.hid (fun w' h h' => HFA.out q w' h h')
          generalize hpe : pf ps q = p at c0 hpb HH HM
          generalize fallV N zs ps q = fq at HFN HH HM HFQ HMI HMH
          generalize mostK N zs ps q = mq at HMI HMM
          clear hpe e1
          by_cases h0 : p = -1
          · have HE := Lib.hid (HM.out (fun h => by omega))
            have HE2 := Lib.hid (HMM.out HE.out)
            subst h0
            go_wp2_with (fail)
            exact ⟨⟨q + 1, by omega, by go_num, by rw [HE.out], by rw [HE2.out], hB⟩, by simp [intOf]; omega⟩
          · have h0b : (p == -1) = false := beq_eq_false_iff_ne.2 h0
            by_cases hgt : mq < fq
            · have HE := Lib.hid (HH.out (by omega) (HMI.out.1 hgt))
              have HE2 := Lib.hid (HMH.out HE.out)
              clear HH HM HMI HMH HMM
              go_wp2_with (fail)
              refine (HFN.out _ hR hP).mono ?_
              rintro e wk31 ⟨rfl, hb⟩
              replace hX := hX.below hb
              replace hR := hR.below hb
              replace hP := hP.below hb
              replace hB := bvia hB hb
              clear m0 m1 hb
              obtain ⟨m0, m1⟩ := id hX
              go_wp2_with (fail)
              exact ⟨⟨q + 1, by omega, by go_num, by rw [HE.out], by rw [HE2.out], hB⟩, by simp [intOf]; omega⟩
            · have HE := Lib.hid (HM.out (fun h => hgt (HMI.out.2 h.2)))
              have HE2 := Lib.hid (HMM.out HE.out)
              clear HH HM HMI HMH HMM
              go_wp2_with (fail)
              refine (HFN.out _ hR hP).mono ?_
              rintro e wk32 ⟨rfl, hb⟩
              replace hX := hX.below hb
              replace hR := hR.below hb
              replace hP := hP.below hb
              replace hB := bvia hB hb
              clear m0 m1 hb
              obtain ⟨m0, m1⟩ := id hX
              go_wp2_with (fail)
              exact ⟨⟨q + 1, by omega, by go_num, by rw [HE.out], by rw [HE2.out], hB⟩, by simp [intOf]; omega⟩
        · have hqe : q = N := by have := HPL.out; omega
          have HE := Lib.hid (show worstV N zs ps = worstK N zs ps q by rw [hqe]; exact HWV2.out)
          clear hqe
          go_wp2_with (fail)
          go_ret
          exact ⟨ret_int HE.out.symm, bvia HB2.out hB⟩
end Go.Proofs.Ytfedhjfijcnpdaa
