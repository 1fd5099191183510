/- HangsSame, FallOf, IsNeeded of the program; IsNeeded of the reference. -/
import Derived.Test.YtfedhjfijcnpdaaBreakS
namespace Go.Proofs.Ytfedhjfijcnpdaa
open Go.ChangeShapes Go.WideShapes Go.ChangeAt Go.RowKit Go.Joins Tr
set_option linter.unusedSimpArgs false
set_option linter.unusedVariables false
set_option maxRecDepth 20000

theorem sameI_any (N : Nat) (f g : Nat → Int) (hN : N ≤ 12) (v u : Value) (w : World) (h : RdI w v (rl N f)) (h' : RdI w u (rl N g)) :
    Calls Try.prog 48 #[v, u] w fun e w' => e = .returned (.bool (decide (rl N f = rl N g))) ∧ Dr w w' := by
  obtain ⟨ad, cap, bl, off, rfl, hcap, hmax, had, hc⟩ := h.open
  obtain ⟨ad', cap', bl', off', rfl, hcap', hmax', had', hc'⟩ := h'.open
  rw [rl_len] at hcap had hc ⊢
  rw [rl_len] at hcap' had' hc' ⊢
  have HC := Lib.hid hc
  have HC' := Lib.hid hc'
  have hdr := Dr.refl w
  clear h hc h' hc'
  go_enter Try.func48, Try.ntmps48
  go_wp2_with (fail)
  go_loopw [13] (fun i wr => ∃ k : Nat, k ≤ N ∧ i = .int .i64 k ∧ Hid (∀ v, v < k → f v = g v) ∧ Dr w wr) (fun i _ => N - (intOf i).toNat)
  case atStart => exact ⟨0, Nat.zero_le _, rfl, fun v hv => absurd hv (by omega), hdr⟩
  case round =>
   focus
    clear hdr
    obtain ⟨k, hk, rfl, HQ, hD⟩ := hrel
    by_cases hlt : k < N
    · obtain rfl := had (by omega)
      obtain rfl := had' (by omega)
      have c0 := HC.out k hlt
      have c1 := HC'.out k hlt
      rw [rl_getD _ hlt] at c0 c1
      replace c0 := hD.cell c0
      replace c1 := hD.cell c1
      have qlt : (k : Int) < (N : Int) := by omega
      by_cases hfg : f k = g k
      · have HQ2 : Hid (∀ v, v < k + 1 → f v = g v) := fun v hv => by
          by_cases e : v = k
          · rw [e]; exact hfg
          · exact HQ.out v (by omega)
        go_wp2_with (fail)
        go_quiet (fail)
        go_wp2_with (fail)
        exact ⟨⟨k + 1, by omega, by go_num, HQ2, hD.next _⟩, by simp [intOf]; omega⟩
      · have HF : Hid (decide (rl N f = rl N g) = false) := decide_eq_false fun h => hfg (rl_inj h hlt)
        go_wp2_with (fail)
        go_quiet (fail)
        go_wp2_with (fail)
        go_ret
        exact ⟨ret_bool HF.out.symm, hD.next _⟩
    · have HF : Hid (decide (rl N f = rl N g) = true) := decide_eq_true (rl_congr fun v hv => HQ.out v (by omega))
      go_wp2_with (fail)
      go_ret
      exact ⟨ret_bool HF.out.symm, hD⟩

set_option maxHeartbeats 4000000 in
theorem implHangsSame_any (J : Int) (zs : List LimbV) (ps os : List Int) (u v v' : Value) (w : World) (h : RdLimb w u zs) (h' : RdI w v ps) (h'' : RdI w v' os) :
    Calls Try.prog 15 #[.agg #[.int .i64 J, u], v, v'] w fun e w' => e = .returned (.bool (hangsB J zs ps os)) ∧ Below w.heap.size w w' := by
  obtain ⟨ad, cap, rfl⟩ := h.shape
  obtain ⟨ap, cp, rfl⟩ := h'.shape
  obtain ⟨aq, cq, rfl⟩ := h''.shape
  have hb0 := below_alloc1 w (.cells #[.int .i64 J, .slice ad zs.length cap] 26)
  have hx0 := BX.new w J (.slice ad zs.length cap)
  have HS := Lib.hid (And.intro hb0 (And.intro hx0 (And.intro (h.below hb0) (And.intro (h'.below hb0) (h''.below hb0)))))
  have HP1 := Lib.hid (fun w' h h' => implPullsOk_any J zs ps (.slice ad zs.length cap) (.slice ap ps.length cp) w' h h')
  have HP2 := Lib.hid (fun w' h h' => implPullsOk_any J zs os (.slice ad zs.length cap) (.slice aq os.length cq) w' h h')
  clear hb0 hx0 h h' h''
  go_enter Try.func15, Try.ntmps15
  go_wp2_with (fail)
  generalize w.alloc (.cells #[.int .i64 J, .slice ad zs.length cap] 26) = w1 at HS ⊢
  obtain ⟨hB, hX, hR, hP, hO⟩ := HS.out
  clear HS
  obtain ⟨m0, m1⟩ := id hX
  go_wp2_with (fail)
  clear m0 m1
  replace hX := hX.below (dr1 _).below
  replace hR := hR.below (dr1 _).below
  replace hP := hP.below (dr1 _).below
  replace hO := hO.below (dr1 _).below
  replace hB := bvia hB (dr1 _).below
  cases hp : pullsB J zs ps with
  | false =>
    have HE := Lib.hid (show hangsB J zs ps os = false by unfold hangsB; rw [hp]; rfl)
    rw [hp] at HP1
    clear hp
    with_reducible refine region_beg (n := 18) (S := (fun w' => w'.cell? ⟨w.heap.size, 0, none⟩ = some (.int .i64 J) ∧ w'.cell? ⟨w.heap.size, 1, none⟩ = some (.slice ad zs.length cap))) ?b1_u50 ?b2_u50 ?b3_u50 (fun hHeld => ?b4_u50)
    case b1_u50 => kernel_rfl
    case b2_u50 => kernel_rfl
    case b3_u50 => (try dsimp only); exact hX
    with_reducible refine takeI2 (i := 0) (v := ?sv_u51) (oi := ?s0_u51) (by simp only [List.getElem?_toArray, List.getElem?_cons_succ, List.getElem?_cons_zero]; exact rfl) ?s1_u51 ?s2_u51 ?s3_u51 ?s4_u51 ?s5_u51 ?s6_u51 ?s7_u51
    case s1_u51 => kernel_rfl
    case s2_u51 => kernel_rfl
    case s3_u51 => kernel_rfl
    case s4_u51 => exact fun _ _ _ h => h
    case s5_u51 => exact Or.inl ⟨rfl, by intro w hSw; (try dsimp only at hSw); go_simp; try with_reducible rfl⟩
    case s6_u51 => assumption
    try simp only [Act.put, List.setIfInBounds_toArray, List.set_cons_zero, List.set_cons_succ]
    with_reducible refine takeI2 (i := 1) (v := ?sv_u52) (oi := ?s0_u52) (by simp only [List.getElem?_toArray, List.getElem?_cons_succ, List.getElem?_cons_zero]; exact rfl) ?s1_u52 ?s2_u52 ?s3_u52 ?s4_u52 ?s5_u52 ?s6_u52 ?s7_u52
    case s1_u52 => kernel_rfl
    case s2_u52 => kernel_rfl
    case s3_u52 => kernel_rfl
    case s4_u52 => exact fun _ _ _ h => h
    case s5_u52 => exact Or.inl ⟨rfl, by intro w hSw; (try dsimp only at hSw); go_simp; try with_reducible rfl⟩
    case s6_u52 => assumption
    try simp only [Act.put, List.setIfInBounds_toArray, List.set_cons_zero, List.set_cons_succ]
    with_reducible refine wpAnyH_ready (rs := [2]) ?s1_u53 one_ne ?s2_u53
    case s1_u53 => kernel_rfl
    with_reducible refine AllReadyH.cons (o := ?s0_u53) (by simp only [List.getElem?_toArray, List.getElem?_cons_succ, List.getElem?_cons_zero]; exact rfl) (fun K hK => ?s3_u53) AllReadyH.nil
    go_simp
    refine (HP1.out _ hR hP).mono ?_
    rintro e wq23 ⟨rfl, hb⟩
    replace hX := hX.below hb
    replace hR := hR.below hb
    replace hP := hP.below hb
    replace hO := hO.below hb
    replace hB := bvia hB hb
    clear hb
    go_wp2_with fail
    with_reducible refine hK.out _ _ ?s1_u54 (fun hHeld => ?s2_u54)
    case s1_u54 => (try dsimp only); exact hX
    clear hK K
    try simp only [Act.put, List.setIfInBounds_toArray, List.set_cons_zero, List.set_cons_succ]
    with_reducible refine takeI2 (i := 3) (v := ?sv_u55) (oi := ?s0_u55) (by simp only [List.getElem?_toArray, List.getElem?_cons_succ, List.getElem?_cons_zero]; exact rfl) ?s1_u55 ?s2_u55 ?s3_u55 ?s4_u55 ?s5_u55 ?s6_u55 ?s7_u55
    case s1_u55 => kernel_rfl
    case s2_u55 => kernel_rfl
    case s3_u55 => kernel_rfl
    case s4_u55 => exact fun _ _ _ h => h
    case s5_u55 => exact Or.inl ⟨rfl, by intro w hSw; (try dsimp only at hSw); go_simp; try with_reducible rfl⟩
    case s6_u55 => assumption
    try simp only [Act.put, List.setIfInBounds_toArray, List.set_cons_zero, List.set_cons_succ]
    with_reducible refine takeI2 (i := 4) (v := undef) (oi := ?s0_u56) (by simp only [List.getElem?_toArray, List.getElem?_cons_succ, List.getElem?_cons_zero]; exact rfl) ?s1_u56 ?s2_u56 ?s3_u56 ?s4_u56 ?s5_u56 ?s6_u56 ?s7_u56
    case s1_u56 => kernel_rfl
    case s2_u56 => kernel_rfl
    case s3_u56 => kernel_rfl
    case s4_u56 => exact fun _ _ _ h => h
    case s5_u56 => exact Or.inr ⟨rfl, rfl⟩
    case s6_u56 => assumption
    try simp only [Act.put, List.setIfInBounds_toArray, List.set_cons_zero, List.set_cons_succ]
    with_reducible refine takeI2 (i := 5) (v := undef) (oi := ?s0_u57) (by simp only [List.getElem?_toArray, List.getElem?_cons_succ, List.getElem?_cons_zero]; exact rfl) ?s1_u57 ?s2_u57 ?s3_u57 ?s4_u57 ?s5_u57 ?s6_u57 ?s7_u57
    case s1_u57 => kernel_rfl
    case s2_u57 => kernel_rfl
    case s3_u57 => kernel_rfl
    case s4_u57 => exact fun _ _ _ h => h
    case s5_u57 => exact Or.inr ⟨rfl, rfl⟩
    case s6_u57 => assumption
    try simp only [Act.put, List.setIfInBounds_toArray, List.set_cons_zero, List.set_cons_succ]
    with_reducible refine takeI2 (i := 6) (v := undef) (oi := ?s0_u58) (by simp only [List.getElem?_toArray, List.getElem?_cons_succ, List.getElem?_cons_zero]; exact rfl) ?s1_u58 ?s2_u58 ?s3_u58 ?s4_u58 ?s5_u58 ?s6_u58 ?s7_u58
    case s1_u58 => kernel_rfl
    case s2_u58 => kernel_rfl
    case s3_u58 => kernel_rfl
    case s4_u58 => exact fun _ _ _ h => h
    case s5_u58 => exact Or.inr ⟨rfl, rfl⟩
    case s6_u58 => assumption
    try simp only [Act.put, List.setIfInBounds_toArray, List.set_cons_zero, List.set_cons_succ]
    with_reducible refine takeI2 (i := 7) (v := ?sv_u59) (oi := ?s0_u59) (by simp only [List.getElem?_toArray, List.getElem?_cons_succ, List.getElem?_cons_zero]; exact rfl) ?s1_u59 ?s2_u59 ?s3_u59 ?s4_u59 ?s5_u59 ?s6_u59 ?s7_u59
    case s1_u59 => kernel_rfl
    case s2_u59 => kernel_rfl
    case s3_u59 => kernel_rfl
    case s4_u59 => exact fun _ _ _ h => h
    case s5_u59 => exact Or.inl ⟨rfl, by intro w hSw; (try dsimp only at hSw); go_simp; try with_reducible rfl⟩
    case s6_u59 => assumption
    try simp only [Act.put, List.setIfInBounds_toArray, List.set_cons_zero, List.set_cons_succ]
    with_reducible refine takeI2 (i := 8) (v := ?sv_u60) (oi := ?s0_u60) (by simp only [List.getElem?_toArray, List.getElem?_cons_succ, List.getElem?_cons_zero]; exact rfl) ?s1_u60 ?s2_u60 ?s3_u60 ?s4_u60 ?s5_u60 ?s6_u60 ?s7_u60
    case s1_u60 => kernel_rfl
    case s2_u60 => kernel_rfl
    case s3_u60 => kernel_rfl
    case s4_u60 => exact fun _ _ _ h => h
    case s5_u60 => exact Or.inl ⟨rfl, by intro w hSw; (try dsimp only at hSw); go_simp; try with_reducible rfl⟩
    case s6_u60 => assumption
    try simp only [Act.put, List.setIfInBounds_toArray, List.set_cons_zero, List.set_cons_succ]
    with_reducible refine takeI2 (i := 9) (v := undef) (oi := ?s0_u61) (by simp only [List.getElem?_toArray, List.getElem?_cons_succ, List.getElem?_cons_zero]; exact rfl) ?s1_u61 ?s2_u61 ?s3_u61 ?s4_u61 ?s5_u61 ?s6_u61 ?s7_u61
    case s1_u61 => kernel_rfl
    case s2_u61 => kernel_rfl
    case s3_u61 => kernel_rfl
    case s4_u61 => exact fun _ _ _ h => h
    case s5_u61 => exact Or.inr ⟨rfl, rfl⟩
    case s6_u61 => assumption
    try simp only [Act.put, List.setIfInBounds_toArray, List.set_cons_zero, List.set_cons_succ]
    with_reducible refine takeI2 (i := 10) (v := undef) (oi := ?s0_u62) (by simp only [List.getElem?_toArray, List.getElem?_cons_succ, List.getElem?_cons_zero]; exact rfl) ?s1_u62 ?s2_u62 ?s3_u62 ?s4_u62 ?s5_u62 ?s6_u62 ?s7_u62
    case s1_u62 => kernel_rfl
    case s2_u62 => kernel_rfl
    case s3_u62 => kernel_rfl
    case s4_u62 => exact fun _ _ _ h => h
    case s5_u62 => exact Or.inr ⟨rfl, rfl⟩
    case s6_u62 => assumption
    try simp only [Act.put, List.setIfInBounds_toArray, List.set_cons_zero, List.set_cons_succ]
    with_reducible refine takeI2 (i := 11) (v := undef) (oi := ?s0_u63) (by simp only [List.getElem?_toArray, List.getElem?_cons_succ, List.getElem?_cons_zero]; exact rfl) ?s1_u63 ?s2_u63 ?s3_u63 ?s4_u63 ?s5_u63 ?s6_u63 ?s7_u63
    case s1_u63 => kernel_rfl
    case s2_u63 => kernel_rfl
    case s3_u63 => kernel_rfl
    case s4_u63 => exact fun _ _ _ h => h
    case s5_u63 => exact Or.inr ⟨rfl, rfl⟩
    case s6_u63 => assumption
    try simp only [Act.put, List.setIfInBounds_toArray, List.set_cons_zero, List.set_cons_succ]
    with_reducible refine takeI2 (i := 12) (v := undef) (oi := ?s0_u64) (by simp only [List.getElem?_toArray, List.getElem?_cons_succ, List.getElem?_cons_zero]; exact rfl) ?s1_u64 ?s2_u64 ?s3_u64 ?s4_u64 ?s5_u64 ?s6_u64 ?s7_u64
    case s1_u64 => kernel_rfl
    case s2_u64 => kernel_rfl
    case s3_u64 => kernel_rfl
    case s4_u64 => exact fun _ _ _ h => h
    case s5_u64 => exact Or.inr ⟨rfl, rfl⟩
    case s6_u64 => assumption
    try simp only [Act.put, List.setIfInBounds_toArray, List.set_cons_zero, List.set_cons_succ]
    with_reducible refine takeI2 (i := 13) (v := undef) (oi := ?s0_u65) (by simp only [List.getElem?_toArray, List.getElem?_cons_succ, List.getElem?_cons_zero]; exact rfl) ?s1_u65 ?s2_u65 ?s3_u65 ?s4_u65 ?s5_u65 ?s6_u65 ?s7_u65
    case s1_u65 => kernel_rfl
    case s2_u65 => kernel_rfl
    case s3_u65 => kernel_rfl
    case s4_u65 => exact fun _ _ _ h => h
    case s5_u65 => exact Or.inr ⟨rfl, rfl⟩
    case s6_u65 => assumption
    try simp only [Act.put, List.setIfInBounds_toArray, List.set_cons_zero, List.set_cons_succ]
    with_reducible refine takeI2 (i := 14) (v := undef) (oi := ?s0_u66) (by simp only [List.getElem?_toArray, List.getElem?_cons_succ, List.getElem?_cons_zero]; exact rfl) ?s1_u66 ?s2_u66 ?s3_u66 ?s4_u66 ?s5_u66 ?s6_u66 ?s7_u66
    case s1_u66 => kernel_rfl
    case s2_u66 => kernel_rfl
    case s3_u66 => kernel_rfl
    case s4_u66 => exact fun _ _ _ h => h
    case s5_u66 => exact Or.inr ⟨rfl, rfl⟩
    case s6_u66 => assumption
    try simp only [Act.put, List.setIfInBounds_toArray, List.set_cons_zero, List.set_cons_succ]
    with_reducible refine takeI2 (i := 15) (v := undef) (oi := ?s0_u67) (by simp only [List.getElem?_toArray, List.getElem?_cons_succ, List.getElem?_cons_zero]; exact rfl) ?s1_u67 ?s2_u67 ?s3_u67 ?s4_u67 ?s5_u67 ?s6_u67 ?s7_u67
    case s1_u67 => kernel_rfl
    case s2_u67 => kernel_rfl
    case s3_u67 => kernel_rfl
    case s4_u67 => exact fun _ _ _ h => h
    case s5_u67 => exact Or.inr ⟨rfl, rfl⟩
    case s6_u67 => assumption
    try simp only [Act.put, List.setIfInBounds_toArray, List.set_cons_zero, List.set_cons_succ]
    with_reducible refine takeI2 (i := 16) (v := ?sv_u68) (oi := ?s0_u68) (by simp only [List.getElem?_toArray, List.getElem?_cons_succ, List.getElem?_cons_zero]; exact rfl) ?s1_u68 ?s2_u68 ?s3_u68 ?s4_u68 ?s5_u68 ?s6_u68 ?s7_u68
    case s1_u68 => kernel_rfl
    case s2_u68 => kernel_rfl
    case s3_u68 => kernel_rfl
    case s4_u68 => exact fun _ _ _ h => h
    case s5_u68 => exact Or.inl ⟨rfl, by intro w hSw; (try dsimp only at hSw); go_simp; try with_reducible rfl⟩
    case s6_u68 => assumption
    try simp only [Act.put, List.setIfInBounds_toArray, List.set_cons_zero, List.set_cons_succ]
    with_reducible refine takeI2 (i := 17) (v := ?sv_u69) (oi := ?s0_u69) (by simp only [List.getElem?_toArray, List.getElem?_cons_succ, List.getElem?_cons_zero]; exact rfl) ?s1_u69 ?s2_u69 ?s3_u69 ?s4_u69 ?s5_u69 ?s6_u69 ?s7_u69
    case s1_u69 => kernel_rfl
    case s2_u69 => kernel_rfl
    case s3_u69 => kernel_rfl
    case s4_u69 => exact fun _ _ _ h => h
    case s5_u69 => exact Or.inl ⟨rfl, by intro w hSw; (try dsimp only at hSw); go_simp; try with_reducible rfl⟩
    case s6_u69 => assumption
    try simp only [Act.put, List.setIfInBounds_toArray, List.set_cons_zero, List.set_cons_succ]
    with_reducible refine wpAnyH_done ?s1_u70 ?s2_u70 _
    case s1_u70 => kernel_rfl
    go_wp2_with (fail)
    go_ret
    exact ⟨ret_bool HE.out.symm, hB⟩
  | true =>
    rw [hp] at HP1
    cases hq : pullsB J zs os with
    | false =>
      have HE := Lib.hid (show hangsB J zs ps os = false by unfold hangsB; rw [hq]; simp)
      rw [hq] at HP2
      clear hp hq
      with_reducible refine region_beg (n := 18) (S := (fun w' => w'.cell? ⟨w.heap.size, 0, none⟩ = some (.int .i64 J) ∧ w'.cell? ⟨w.heap.size, 1, none⟩ = some (.slice ad zs.length cap))) ?b1_u71 ?b2_u71 ?b3_u71 (fun hHeld => ?b4_u71)
      case b1_u71 => kernel_rfl
      case b2_u71 => kernel_rfl
      case b3_u71 => (try dsimp only); exact hX
      with_reducible refine takeI2 (i := 0) (v := ?sv_u72) (oi := ?s0_u72) (by simp only [List.getElem?_toArray, List.getElem?_cons_succ, List.getElem?_cons_zero]; exact rfl) ?s1_u72 ?s2_u72 ?s3_u72 ?s4_u72 ?s5_u72 ?s6_u72 ?s7_u72
      case s1_u72 => kernel_rfl
      case s2_u72 => kernel_rfl
      case s3_u72 => kernel_rfl
      case s4_u72 => exact fun _ _ _ h => h
      case s5_u72 => exact Or.inl ⟨rfl, by intro w hSw; (try dsimp only at hSw); go_simp; try with_reducible rfl⟩
      case s6_u72 => assumption
      try simp only [Act.put, List.setIfInBounds_toArray, List.set_cons_zero, List.set_cons_succ]
      with_reducible refine takeI2 (i := 1) (v := ?sv_u73) (oi := ?s0_u73) (by simp only [List.getElem?_toArray, List.getElem?_cons_succ, List.getElem?_cons_zero]; exact rfl) ?s1_u73 ?s2_u73 ?s3_u73 ?s4_u73 ?s5_u73 ?s6_u73 ?s7_u73
      case s1_u73 => kernel_rfl
      case s2_u73 => kernel_rfl
      case s3_u73 => kernel_rfl
      case s4_u73 => exact fun _ _ _ h => h
      case s5_u73 => exact Or.inl ⟨rfl, by intro w hSw; (try dsimp only at hSw); go_simp; try with_reducible rfl⟩
      case s6_u73 => assumption
      try simp only [Act.put, List.setIfInBounds_toArray, List.set_cons_zero, List.set_cons_succ]
      with_reducible refine wpAnyH_ready (rs := [2]) ?s1_u74 one_ne ?s2_u74
      case s1_u74 => kernel_rfl
      with_reducible refine AllReadyH.cons (o := ?s0_u74) (by simp only [List.getElem?_toArray, List.getElem?_cons_succ, List.getElem?_cons_zero]; exact rfl) (fun K hK => ?s3_u74) AllReadyH.nil
      go_simp
      refine (HP1.out _ hR hP).mono ?_
      rintro e wq24 ⟨rfl, hb⟩
      replace hX := hX.below hb
      replace hR := hR.below hb
      replace hP := hP.below hb
      replace hO := hO.below hb
      replace hB := bvia hB hb
      clear hb
      go_wp2_with fail
      with_reducible refine hK.out _ _ ?s1_u75 (fun hHeld => ?s2_u75)
      case s1_u75 => (try dsimp only); exact hX
      clear hK K
      try simp only [Act.put, List.setIfInBounds_toArray, List.set_cons_zero, List.set_cons_succ]
      with_reducible refine takeI2 (i := 3) (v := ?sv_u76) (oi := ?s0_u76) (by simp only [List.getElem?_toArray, List.getElem?_cons_succ, List.getElem?_cons_zero]; exact rfl) ?s1_u76 ?s2_u76 ?s3_u76 ?s4_u76 ?s5_u76 ?s6_u76 ?s7_u76
      case s1_u76 => kernel_rfl
      case s2_u76 => kernel_rfl
      case s3_u76 => kernel_rfl
      case s4_u76 => exact fun _ _ _ h => h
      case s5_u76 => exact Or.inl ⟨rfl, by intro w hSw; (try dsimp only at hSw); go_simp; try with_reducible rfl⟩
      case s6_u76 => assumption
      try simp only [Act.put, List.setIfInBounds_toArray, List.set_cons_zero, List.set_cons_succ]
      with_reducible refine takeI2 (i := 4) (v := ?sv_u77) (oi := ?s0_u77) (by simp only [List.getElem?_toArray, List.getElem?_cons_succ, List.getElem?_cons_zero]; exact rfl) ?s1_u77 ?s2_u77 ?s3_u77 ?s4_u77 ?s5_u77 ?s6_u77 ?s7_u77
      case s1_u77 => kernel_rfl
      case s2_u77 => kernel_rfl
      case s3_u77 => kernel_rfl
      case s4_u77 => exact fun _ _ _ h => h
      case s5_u77 => exact Or.inl ⟨rfl, by intro w hSw; (try dsimp only at hSw); go_simp; try with_reducible rfl⟩
      case s6_u77 => assumption
      try simp only [Act.put, List.setIfInBounds_toArray, List.set_cons_zero, List.set_cons_succ]
      with_reducible refine takeI2 (i := 5) (v := ?sv_u78) (oi := ?s0_u78) (by simp only [List.getElem?_toArray, List.getElem?_cons_succ, List.getElem?_cons_zero]; exact rfl) ?s1_u78 ?s2_u78 ?s3_u78 ?s4_u78 ?s5_u78 ?s6_u78 ?s7_u78
      case s1_u78 => kernel_rfl
      case s2_u78 => kernel_rfl
      case s3_u78 => kernel_rfl
      case s4_u78 => exact fun _ _ _ h => h
      case s5_u78 => exact Or.inl ⟨rfl, by intro w hSw; (try dsimp only at hSw); go_simp; try with_reducible rfl⟩
      case s6_u78 => assumption
      try simp only [Act.put, List.setIfInBounds_toArray, List.set_cons_zero, List.set_cons_succ]
      with_reducible refine wpAnyH_ready (rs := [6]) ?s1_u79 one_ne ?s2_u79
      case s1_u79 => kernel_rfl
      with_reducible refine AllReadyH.cons (o := ?s0_u79) (by simp only [List.getElem?_toArray, List.getElem?_cons_succ, List.getElem?_cons_zero]; exact rfl) (fun K hK => ?s3_u79) AllReadyH.nil
      go_simp
      refine (HP2.out _ hR hO).mono ?_
      rintro e wq25 ⟨rfl, hb⟩
      replace hX := hX.below hb
      replace hR := hR.below hb
      replace hP := hP.below hb
      replace hO := hO.below hb
      replace hB := bvia hB hb
      clear hb
      go_wp2_with fail
      with_reducible refine hK.out _ _ ?s1_u80 (fun hHeld => ?s2_u80)
      case s1_u80 => (try dsimp only); exact hX
      clear hK K
      try simp only [Act.put, List.setIfInBounds_toArray, List.set_cons_zero, List.set_cons_succ]
      with_reducible refine takeI2 (i := 7) (v := ?sv_u81) (oi := ?s0_u81) (by simp only [List.getElem?_toArray, List.getElem?_cons_succ, List.getElem?_cons_zero]; exact rfl) ?s1_u81 ?s2_u81 ?s3_u81 ?s4_u81 ?s5_u81 ?s6_u81 ?s7_u81
      case s1_u81 => kernel_rfl
      case s2_u81 => kernel_rfl
      case s3_u81 => kernel_rfl
      case s4_u81 => exact fun _ _ _ h => h
      case s5_u81 => exact Or.inl ⟨rfl, by intro w hSw; (try dsimp only at hSw); go_simp; try with_reducible rfl⟩
      case s6_u81 => assumption
      try simp only [Act.put, List.setIfInBounds_toArray, List.set_cons_zero, List.set_cons_succ]
      with_reducible refine takeI2 (i := 8) (v := ?sv_u82) (oi := ?s0_u82) (by simp only [List.getElem?_toArray, List.getElem?_cons_succ, List.getElem?_cons_zero]; exact rfl) ?s1_u82 ?s2_u82 ?s3_u82 ?s4_u82 ?s5_u82 ?s6_u82 ?s7_u82
      case s1_u82 => kernel_rfl
      case s2_u82 => kernel_rfl
      case s3_u82 => kernel_rfl
      case s4_u82 => exact fun _ _ _ h => h
      case s5_u82 => exact Or.inl ⟨rfl, by intro w hSw; (try dsimp only at hSw); go_simp; try with_reducible rfl⟩
      case s6_u82 => assumption
      try simp only [Act.put, List.setIfInBounds_toArray, List.set_cons_zero, List.set_cons_succ]
      with_reducible refine takeI2 (i := 9) (v := undef) (oi := ?s0_u83) (by simp only [List.getElem?_toArray, List.getElem?_cons_succ, List.getElem?_cons_zero]; exact rfl) ?s1_u83 ?s2_u83 ?s3_u83 ?s4_u83 ?s5_u83 ?s6_u83 ?s7_u83
      case s1_u83 => kernel_rfl
      case s2_u83 => kernel_rfl
      case s3_u83 => kernel_rfl
      case s4_u83 => exact fun _ _ _ h => h
      case s5_u83 => exact Or.inr ⟨rfl, rfl⟩
      case s6_u83 => assumption
      try simp only [Act.put, List.setIfInBounds_toArray, List.set_cons_zero, List.set_cons_succ]
      with_reducible refine takeI2 (i := 10) (v := undef) (oi := ?s0_u84) (by simp only [List.getElem?_toArray, List.getElem?_cons_succ, List.getElem?_cons_zero]; exact rfl) ?s1_u84 ?s2_u84 ?s3_u84 ?s4_u84 ?s5_u84 ?s6_u84 ?s7_u84
      case s1_u84 => kernel_rfl
      case s2_u84 => kernel_rfl
      case s3_u84 => kernel_rfl
      case s4_u84 => exact fun _ _ _ h => h
      case s5_u84 => exact Or.inr ⟨rfl, rfl⟩
      case s6_u84 => assumption
      try simp only [Act.put, List.setIfInBounds_toArray, List.set_cons_zero, List.set_cons_succ]
      with_reducible refine takeI2 (i := 11) (v := undef) (oi := ?s0_u85) (by simp only [List.getElem?_toArray, List.getElem?_cons_succ, List.getElem?_cons_zero]; exact rfl) ?s1_u85 ?s2_u85 ?s3_u85 ?s4_u85 ?s5_u85 ?s6_u85 ?s7_u85
      case s1_u85 => kernel_rfl
      case s2_u85 => kernel_rfl
      case s3_u85 => kernel_rfl
      case s4_u85 => exact fun _ _ _ h => h
      case s5_u85 => exact Or.inr ⟨rfl, rfl⟩
      case s6_u85 => assumption
      try simp only [Act.put, List.setIfInBounds_toArray, List.set_cons_zero, List.set_cons_succ]
      with_reducible refine takeI2 (i := 12) (v := undef) (oi := ?s0_u86) (by simp only [List.getElem?_toArray, List.getElem?_cons_succ, List.getElem?_cons_zero]; exact rfl) ?s1_u86 ?s2_u86 ?s3_u86 ?s4_u86 ?s5_u86 ?s6_u86 ?s7_u86
      case s1_u86 => kernel_rfl
      case s2_u86 => kernel_rfl
      case s3_u86 => kernel_rfl
      case s4_u86 => exact fun _ _ _ h => h
      case s5_u86 => exact Or.inr ⟨rfl, rfl⟩
      case s6_u86 => assumption
      try simp only [Act.put, List.setIfInBounds_toArray, List.set_cons_zero, List.set_cons_succ]
      with_reducible refine takeI2 (i := 13) (v := undef) (oi := ?s0_u87) (by simp only [List.getElem?_toArray, List.getElem?_cons_succ, List.getElem?_cons_zero]; exact rfl) ?s1_u87 ?s2_u87 ?s3_u87 ?s4_u87 ?s5_u87 ?s6_u87 ?s7_u87
      case s1_u87 => kernel_rfl
      case s2_u87 => kernel_rfl
      case s3_u87 => kernel_rfl
      case s4_u87 => exact fun _ _ _ h => h
      case s5_u87 => exact Or.inr ⟨rfl, rfl⟩
      case s6_u87 => assumption
      try simp only [Act.put, List.setIfInBounds_toArray, List.set_cons_zero, List.set_cons_succ]
      with_reducible refine takeI2 (i := 14) (v := undef) (oi := ?s0_u88) (by simp only [List.getElem?_toArray, List.getElem?_cons_succ, List.getElem?_cons_zero]; exact rfl) ?s1_u88 ?s2_u88 ?s3_u88 ?s4_u88 ?s5_u88 ?s6_u88 ?s7_u88
      case s1_u88 => kernel_rfl
      case s2_u88 => kernel_rfl
      case s3_u88 => kernel_rfl
      case s4_u88 => exact fun _ _ _ h => h
      case s5_u88 => exact Or.inr ⟨rfl, rfl⟩
      case s6_u88 => assumption
      try simp only [Act.put, List.setIfInBounds_toArray, List.set_cons_zero, List.set_cons_succ]
      with_reducible refine takeI2 (i := 15) (v := undef) (oi := ?s0_u89) (by simp only [List.getElem?_toArray, List.getElem?_cons_succ, List.getElem?_cons_zero]; exact rfl) ?s1_u89 ?s2_u89 ?s3_u89 ?s4_u89 ?s5_u89 ?s6_u89 ?s7_u89
      case s1_u89 => kernel_rfl
      case s2_u89 => kernel_rfl
      case s3_u89 => kernel_rfl
      case s4_u89 => exact fun _ _ _ h => h
      case s5_u89 => exact Or.inr ⟨rfl, rfl⟩
      case s6_u89 => assumption
      try simp only [Act.put, List.setIfInBounds_toArray, List.set_cons_zero, List.set_cons_succ]
      with_reducible refine takeI2 (i := 16) (v := ?sv_u90) (oi := ?s0_u90) (by simp only [List.getElem?_toArray, List.getElem?_cons_succ, List.getElem?_cons_zero]; exact rfl) ?s1_u90 ?s2_u90 ?s3_u90 ?s4_u90 ?s5_u90 ?s6_u90 ?s7_u90
      case s1_u90 => kernel_rfl
      case s2_u90 => kernel_rfl
      case s3_u90 => kernel_rfl
      case s4_u90 => exact fun _ _ _ h => h
      case s5_u90 => exact Or.inl ⟨rfl, by intro w hSw; (try dsimp only at hSw); go_simp; try with_reducible rfl⟩
      case s6_u90 => assumption
      try simp only [Act.put, List.setIfInBounds_toArray, List.set_cons_zero, List.set_cons_succ]
      with_reducible refine takeI2 (i := 17) (v := ?sv_u91) (oi := ?s0_u91) (by simp only [List.getElem?_toArray, List.getElem?_cons_succ, List.getElem?_cons_zero]; exact rfl) ?s1_u91 ?s2_u91 ?s3_u91 ?s4_u91 ?s5_u91 ?s6_u91 ?s7_u91
      case s1_u91 => kernel_rfl
      case s2_u91 => kernel_rfl
      case s3_u91 => kernel_rfl
      case s4_u91 => exact fun _ _ _ h => h
      case s5_u91 => exact Or.inl ⟨rfl, by intro w hSw; (try dsimp only at hSw); go_simp; try with_reducible rfl⟩
      case s6_u91 => assumption
      try simp only [Act.put, List.setIfInBounds_toArray, List.set_cons_zero, List.set_cons_succ]
      with_reducible refine wpAnyH_done ?s1_u92 ?s2_u92 _
      case s1_u92 => kernel_rfl
      go_wp2_with (fail)
      go_ret
      exact ⟨ret_bool HE.out.symm, hB⟩
    | true =>
      rw [hq] at HP2
      obtain ⟨N, rfl⟩ : ∃ N : Nat, J = N := by
        obtain ⟨N, h, _⟩ := body_tree (pulls_open hp).1
        exact ⟨N, h⟩
      have HH1 := Lib.hid (fun w' h h' => implHangPose_any N zs ps hp (.slice ad zs.length cap) (.slice ap ps.length cp) w' h h')
      have HH2 := Lib.hid (fun w' h h' => implHangPose_any N zs os hq (.slice ad zs.length cap) (.slice aq os.length cq) w' h h')
      have HE : Hid (hangsB N zs ps os = decide (poseL N zs ps = poseL N zs os)) := by
        show _ = _
        unfold hangsB
        rw [hp, hq]
        rfl
      have hN := (body_treeN (pulls_open hp).1).1
      rw [poseL_eq, poseL_eq] at HE
      simp only [poseL_eq] at HH1 HH2
      clear hp hq
      generalize hp (fill N (edges zs)) (pf ps) N = f at HH1 HE
      generalize hp (fill N (edges zs)) (pf os) N = g at HH2 HE
      have HSI := Lib.hid (fun v u w' h h' => sameI_any N f g hN.2 v u w' h h')
      generalize decide (rl N f = rl N g) = res at HSI HE
      with_reducible refine region_beg (n := 18) (S := (fun w' => w'.cell? ⟨w.heap.size, 0, none⟩ = some (.int .i64 (N : Int)) ∧ w'.cell? ⟨w.heap.size, 1, none⟩ = some (.slice ad zs.length cap))) ?b1_u93 ?b2_u93 ?b3_u93 (fun hHeld => ?b4_u93)
      case b1_u93 => kernel_rfl
      case b2_u93 => kernel_rfl
      case b3_u93 => (try dsimp only); exact hX
      with_reducible refine takeI2 (i := 0) (v := ?sv_u94) (oi := ?s0_u94) (by simp only [List.getElem?_toArray, List.getElem?_cons_succ, List.getElem?_cons_zero]; exact rfl) ?s1_u94 ?s2_u94 ?s3_u94 ?s4_u94 ?s5_u94 ?s6_u94 ?s7_u94
      case s1_u94 => kernel_rfl
      case s2_u94 => kernel_rfl
      case s3_u94 => kernel_rfl
      case s4_u94 => exact fun _ _ _ h => h
      case s5_u94 => exact Or.inl ⟨rfl, by intro w hSw; (try dsimp only at hSw); go_simp; try with_reducible rfl⟩
      case s6_u94 => assumption
      try simp only [Act.put, List.setIfInBounds_toArray, List.set_cons_zero, List.set_cons_succ]
      with_reducible refine takeI2 (i := 1) (v := ?sv_u95) (oi := ?s0_u95) (by simp only [List.getElem?_toArray, List.getElem?_cons_succ, List.getElem?_cons_zero]; exact rfl) ?s1_u95 ?s2_u95 ?s3_u95 ?s4_u95 ?s5_u95 ?s6_u95 ?s7_u95
      case s1_u95 => kernel_rfl
      case s2_u95 => kernel_rfl
      case s3_u95 => kernel_rfl
      case s4_u95 => exact fun _ _ _ h => h
      case s5_u95 => exact Or.inl ⟨rfl, by intro w hSw; (try dsimp only at hSw); go_simp; try with_reducible rfl⟩
      case s6_u95 => assumption
      try simp only [Act.put, List.setIfInBounds_toArray, List.set_cons_zero, List.set_cons_succ]
      with_reducible refine wpAnyH_ready (rs := [2]) ?s1_u96 one_ne ?s2_u96
      case s1_u96 => kernel_rfl
      with_reducible refine AllReadyH.cons (o := ?s0_u96) (by simp only [List.getElem?_toArray, List.getElem?_cons_succ, List.getElem?_cons_zero]; exact rfl) (fun K hK => ?s3_u96) AllReadyH.nil
      go_simp
      refine (HP1.out _ hR hP).mono ?_
      rintro e wq26 ⟨rfl, hb⟩
      replace hX := hX.below hb
      replace hR := hR.below hb
      replace hP := hP.below hb
      replace hO := hO.below hb
      replace hB := bvia hB hb
      clear hb
      go_wp2_with fail
      with_reducible refine hK.out _ _ ?s1_u97 (fun hHeld => ?s2_u97)
      case s1_u97 => (try dsimp only); exact hX
      clear hK K
      try simp only [Act.put, List.setIfInBounds_toArray, List.set_cons_zero, List.set_cons_succ]
      with_reducible refine takeI2 (i := 3) (v := ?sv_u98) (oi := ?s0_u98) (by simp only [List.getElem?_toArray, List.getElem?_cons_succ, List.getElem?_cons_zero]; exact rfl) ?s1_u98 ?s2_u98 ?s3_u98 ?s4_u98 ?s5_u98 ?s6_u98 ?s7_u98
      case s1_u98 => kernel_rfl
      case s2_u98 => kernel_rfl
      case s3_u98 => kernel_rfl
      case s4_u98 => exact fun _ _ _ h => h
      case s5_u98 => exact Or.inl ⟨rfl, by intro w hSw; (try dsimp only at hSw); go_simp; try with_reducible rfl⟩
      case s6_u98 => assumption
      try simp only [Act.put, List.setIfInBounds_toArray, List.set_cons_zero, List.set_cons_succ]
      with_reducible refine takeI2 (i := 4) (v := ?sv_u99) (oi := ?s0_u99) (by simp only [List.getElem?_toArray, List.getElem?_cons_succ, List.getElem?_cons_zero]; exact rfl) ?s1_u99 ?s2_u99 ?s3_u99 ?s4_u99 ?s5_u99 ?s6_u99 ?s7_u99
      case s1_u99 => kernel_rfl
      case s2_u99 => kernel_rfl
      case s3_u99 => kernel_rfl
      case s4_u99 => exact fun _ _ _ h => h
      case s5_u99 => exact Or.inl ⟨rfl, by intro w hSw; (try dsimp only at hSw); go_simp; try with_reducible rfl⟩
      case s6_u99 => assumption
      try simp only [Act.put, List.setIfInBounds_toArray, List.set_cons_zero, List.set_cons_succ]
      with_reducible refine takeI2 (i := 5) (v := ?sv_u100) (oi := ?s0_u100) (by simp only [List.getElem?_toArray, List.getElem?_cons_succ, List.getElem?_cons_zero]; exact rfl) ?s1_u100 ?s2_u100 ?s3_u100 ?s4_u100 ?s5_u100 ?s6_u100 ?s7_u100
      case s1_u100 => kernel_rfl
      case s2_u100 => kernel_rfl
      case s3_u100 => kernel_rfl
      case s4_u100 => exact fun _ _ _ h => h
      case s5_u100 => exact Or.inl ⟨rfl, by intro w hSw; (try dsimp only at hSw); go_simp; try with_reducible rfl⟩
      case s6_u100 => assumption
      try simp only [Act.put, List.setIfInBounds_toArray, List.set_cons_zero, List.set_cons_succ]
      with_reducible refine wpAnyH_ready (rs := [6]) ?s1_u101 one_ne ?s2_u101
      case s1_u101 => kernel_rfl
      with_reducible refine AllReadyH.cons (o := ?s0_u101) (by simp only [List.getElem?_toArray, List.getElem?_cons_succ, List.getElem?_cons_zero]; exact rfl) (fun K hK => ?s3_u101) AllReadyH.nil
      go_simp
      refine (HP2.out _ hR hO).mono ?_
      rintro e wq27 ⟨rfl, hb⟩
      replace hX := hX.below hb
      replace hR := hR.below hb
      replace hP := hP.below hb
      replace hO := hO.below hb
      replace hB := bvia hB hb
      clear hb
      go_wp2_with fail
      with_reducible refine hK.out _ _ ?s1_u102 (fun hHeld => ?s2_u102)
      case s1_u102 => (try dsimp only); exact hX
      clear hK K
      try simp only [Act.put, List.setIfInBounds_toArray, List.set_cons_zero, List.set_cons_succ]
      with_reducible refine takeI2 (i := 7) (v := ?sv_u103) (oi := ?s0_u103) (by simp only [List.getElem?_toArray, List.getElem?_cons_succ, List.getElem?_cons_zero]; exact rfl) ?s1_u103 ?s2_u103 ?s3_u103 ?s4_u103 ?s5_u103 ?s6_u103 ?s7_u103
      case s1_u103 => kernel_rfl
      case s2_u103 => kernel_rfl
      case s3_u103 => kernel_rfl
      case s4_u103 => exact fun _ _ _ h => h
      case s5_u103 => exact Or.inl ⟨rfl, by intro w hSw; (try dsimp only at hSw); go_simp; try with_reducible rfl⟩
      case s6_u103 => assumption
      try simp only [Act.put, List.setIfInBounds_toArray, List.set_cons_zero, List.set_cons_succ]
      with_reducible refine takeI2 (i := 8) (v := ?sv_u104) (oi := ?s0_u104) (by simp only [List.getElem?_toArray, List.getElem?_cons_succ, List.getElem?_cons_zero]; exact rfl) ?s1_u104 ?s2_u104 ?s3_u104 ?s4_u104 ?s5_u104 ?s6_u104 ?s7_u104
      case s1_u104 => kernel_rfl
      case s2_u104 => kernel_rfl
      case s3_u104 => kernel_rfl
      case s4_u104 => exact fun _ _ _ h => h
      case s5_u104 => exact Or.inl ⟨rfl, by intro w hSw; (try dsimp only at hSw); go_simp; try with_reducible rfl⟩
      case s6_u104 => assumption
      try simp only [Act.put, List.setIfInBounds_toArray, List.set_cons_zero, List.set_cons_succ]
      with_reducible refine takeI2 (i := 9) (v := ?sv_u105) (oi := ?s0_u105) (by simp only [List.getElem?_toArray, List.getElem?_cons_succ, List.getElem?_cons_zero]; exact rfl) ?s1_u105 ?s2_u105 ?s3_u105 ?s4_u105 ?s5_u105 ?s6_u105 ?s7_u105
      case s1_u105 => kernel_rfl
      case s2_u105 => kernel_rfl
      case s3_u105 => kernel_rfl
      case s4_u105 => exact fun _ _ _ h => h
      case s5_u105 => exact Or.inl ⟨rfl, by intro w hSw; (try dsimp only at hSw); go_simp; try with_reducible rfl⟩
      case s6_u105 => assumption
      try simp only [Act.put, List.setIfInBounds_toArray, List.set_cons_zero, List.set_cons_succ]
      with_reducible refine takeI2 (i := 10) (v := ?sv_u106) (oi := ?s0_u106) (by simp only [List.getElem?_toArray, List.getElem?_cons_succ, List.getElem?_cons_zero]; exact rfl) ?s1_u106 ?s2_u106 ?s3_u106 ?s4_u106 ?s5_u106 ?s6_u106 ?s7_u106
      case s1_u106 => kernel_rfl
      case s2_u106 => kernel_rfl
      case s3_u106 => kernel_rfl
      case s4_u106 => exact fun _ _ _ h => h
      case s5_u106 => exact Or.inl ⟨rfl, by intro w hSw; (try dsimp only at hSw); go_simp; try with_reducible rfl⟩
      case s6_u106 => assumption
      try simp only [Act.put, List.setIfInBounds_toArray, List.set_cons_zero, List.set_cons_succ]
      with_reducible refine takeI2 (i := 12) (v := ?sv_u107) (oi := ?s0_u107) (by simp only [List.getElem?_toArray, List.getElem?_cons_succ, List.getElem?_cons_zero]; exact rfl) ?s1_u107 ?s2_u107 ?s3_u107 ?s4_u107 ?s5_u107 ?s6_u107 ?s7_u107
      case s1_u107 => kernel_rfl
      case s2_u107 => kernel_rfl
      case s3_u107 => kernel_rfl
      case s4_u107 => exact fun _ _ _ h => h
      case s5_u107 => exact Or.inl ⟨rfl, by intro w hSw; (try dsimp only at hSw); go_simp; try with_reducible rfl⟩
      case s6_u107 => assumption
      try simp only [Act.put, List.setIfInBounds_toArray, List.set_cons_zero, List.set_cons_succ]
      with_reducible refine takeI2 (i := 13) (v := ?sv_u108) (oi := ?s0_u108) (by simp only [List.getElem?_toArray, List.getElem?_cons_succ, List.getElem?_cons_zero]; exact rfl) ?s1_u108 ?s2_u108 ?s3_u108 ?s4_u108 ?s5_u108 ?s6_u108 ?s7_u108
      case s1_u108 => kernel_rfl
      case s2_u108 => kernel_rfl
      case s3_u108 => kernel_rfl
      case s4_u108 => exact fun _ _ _ h => h
      case s5_u108 => exact Or.inl ⟨rfl, by intro w hSw; (try dsimp only at hSw); go_simp; try with_reducible rfl⟩
      case s6_u108 => assumption
      try simp only [Act.put, List.setIfInBounds_toArray, List.set_cons_zero, List.set_cons_succ]
      with_reducible refine wpAnyH_ready (rs := [11]) ?s1_u109 one_ne ?s2_u109
      case s1_u109 => kernel_rfl
      with_reducible refine AllReadyH.cons (o := ?s0_u109) (by simp only [List.getElem?_toArray, List.getElem?_cons_succ, List.getElem?_cons_zero]; exact rfl) (fun K hK => ?s3_u109) AllReadyH.nil
      go_simp
      refine (HH1.out _ hR hP).mono ?_
      rintro e wq28 ⟨x1, rfl, o1, hb⟩
      replace hX := hX.below hb
      replace hR := hR.below hb
      replace hP := hP.below hb
      replace hO := hO.below hb
      replace hB := bvia hB hb
      clear hb
      go_wp2_with fail
      with_reducible refine hK.out _ _ ?s1_u110 (fun hHeld => ?s2_u110)
      case s1_u110 => (try dsimp only); exact hX
      clear hK K
      try simp only [Act.put, List.setIfInBounds_toArray, List.set_cons_zero, List.set_cons_succ]
      with_reducible refine wpAnyH_ready (rs := [14]) ?s1_u111 one_ne ?s2_u111
      case s1_u111 => kernel_rfl
      with_reducible refine AllReadyH.cons (o := ?s0_u111) (by simp only [List.getElem?_toArray, List.getElem?_cons_succ, List.getElem?_cons_zero]; exact rfl) (fun K hK => ?s3_u111) AllReadyH.nil
      go_simp
      refine (HH2.out _ hR hO).mono ?_
      rintro e wq29 ⟨x2, rfl, o2, hb⟩
      replace hX := hX.below hb
      replace hR := hR.below hb
      replace hP := hP.below hb
      replace hO := hO.below hb
      replace o1 := o1.below hb
      replace hB := bvia hB hb
      clear hb
      go_wp2_with fail
      with_reducible refine hK.out _ _ ?s1_u112 (fun hHeld => ?s2_u112)
      case s1_u112 => (try dsimp only); exact hX
      clear hK K
      try simp only [Act.put, List.setIfInBounds_toArray, List.set_cons_zero, List.set_cons_succ]
      with_reducible refine wpAnyH_ready (rs := [15]) ?s1_u113 one_ne ?s2_u113
      case s1_u113 => kernel_rfl
      with_reducible refine AllReadyH.cons (o := ?s0_u113) (by simp only [List.getElem?_toArray, List.getElem?_cons_succ, List.getElem?_cons_zero]; exact rfl) (fun K hK => ?s3_u113) AllReadyH.nil
      go_simp
      refine (HSI.out _ _ _ o1.rd o2.rd).mono ?_
      rintro e wq ⟨rfl, hd⟩
      have hb := hd.below
      clear hd o1 o2
      replace hX := hX.below hb
      replace hR := hR.below hb
      replace hP := hP.below hb
      replace hO := hO.below hb
      replace hB := bvia hB hb
      clear hb
      go_wp2_with fail
      with_reducible refine hK.out _ _ ?s1_u114 (fun hHeld => ?s2_u114)
      case s1_u114 => (try dsimp only); exact hX
      clear hK K
      try simp only [Act.put, List.setIfInBounds_toArray, List.set_cons_zero, List.set_cons_succ]
      with_reducible refine takeI2 (i := 16) (v := ?sv_u115) (oi := ?s0_u115) (by simp only [List.getElem?_toArray, List.getElem?_cons_succ, List.getElem?_cons_zero]; exact rfl) ?s1_u115 ?s2_u115 ?s3_u115 ?s4_u115 ?s5_u115 ?s6_u115 ?s7_u115
      case s1_u115 => kernel_rfl
      case s2_u115 => kernel_rfl
      case s3_u115 => kernel_rfl
      case s4_u115 => exact fun _ _ _ h => h
      case s5_u115 => exact Or.inl ⟨rfl, by intro w hSw; (try dsimp only at hSw); go_simp; try with_reducible rfl⟩
      case s6_u115 => assumption
      try simp only [Act.put, List.setIfInBounds_toArray, List.set_cons_zero, List.set_cons_succ]
      with_reducible refine takeI2 (i := 17) (v := ?sv_u116) (oi := ?s0_u116) (by simp only [List.getElem?_toArray, List.getElem?_cons_succ, List.getElem?_cons_zero]; exact rfl) ?s1_u116 ?s2_u116 ?s3_u116 ?s4_u116 ?s5_u116 ?s6_u116 ?s7_u116
      case s1_u116 => kernel_rfl
      case s2_u116 => kernel_rfl
      case s3_u116 => kernel_rfl
      case s4_u116 => exact fun _ _ _ h => h
      case s5_u116 => exact Or.inl ⟨rfl, by intro w hSw; (try dsimp only at hSw); go_simp; try with_reducible rfl⟩
      case s6_u116 => assumption
      try simp only [Act.put, List.setIfInBounds_toArray, List.set_cons_zero, List.set_cons_succ]
      with_reducible refine wpAnyH_done ?s1_u117 ?s2_u117 _
      case s1_u117 => kernel_rfl
      go_wp2_with (fail)
      go_ret
      exact ⟨ret_bool HE.out.symm, hB⟩

set_option maxHeartbeats 4000000 in
theorem implFallOf_any (J : Int) (zs : List LimbV) (ps : List Int) (j : Int) (u v : Value) (w : World) (h : RdLimb w u zs) (h' : RdI w v ps) :
    Calls Try.prog 18 #[.agg #[.int .i64 J, u], v, .int .i64 j] w fun e w' => e = .returned (.int .i64 (fallV J zs ps j)) ∧ Below w.heap.size w w' := by
  obtain ⟨ad, cap, rfl⟩ := h.shape
  obtain ⟨ap, cp, rfl⟩ := h'.shape
  have hb0 := below_alloc1 w (.cells #[.int .i64 J, .slice ad zs.length cap] 26)
  have hx0 := BX.new w J (.slice ad zs.length cap)
  have HS := Lib.hid (And.intro hb0 (And.intro hx0 (And.intro (h.below hb0) (h'.below hb0))))
  have HP1 := Lib.hid (fun w' h h' => implPullsOk_any J zs ps (.slice ad zs.length cap) (.slice ap ps.length cp) w' h h')
  have HIN := Lib.hid (fun n a b w' => within_any n a b w')
  have HPV := Lib.hid h'
  clear hb0 hx0 h h'
  go_enter Try.func18, Try.ntmps18
  go_wp2_with (fail)
  generalize w.alloc (.cells #[.int .i64 J, .slice ad zs.length cap] 26) = w1 at HS ⊢
  obtain ⟨hB, hX, hR, hP⟩ := HS.out
  clear HS
  obtain ⟨m0, m1⟩ := id hX
  go_wp2_with (fail)
  cases hp : pullsB J zs ps with
  | false =>
    have HE := Lib.hid (fall_no1 (j := j) hp)
    rw [hp] at HP1
    refine (HP1.out _ hR hP).mono ?_
    rintro e wk30 ⟨rfl, hb⟩
    replace hX := hX.below hb
    replace hR := hR.below hb
    replace hP := hP.below hb
    replace hB := bvia hB hb
    clear m0 m1 hb
    obtain ⟨m0, m1⟩ := id hX
    go_wp2_with (fail)
    go_ret
    exact ⟨ret_int HE.out.symm, hB⟩
  | true =>
    rw [hp] at HP1
    obtain ⟨N, rfl⟩ : ∃ N : Nat, J = N := by
      obtain ⟨N, h, _⟩ := body_tree (pulls_open hp).1
      exact ⟨N, h⟩
    have hN := (pulls_facts hp).1
    have HPK := Lib.hid hp
    have HPL := Lib.hid (pulls_facts hp).2.2.1
    clear hp
    have hl12 : ps.length ≤ 12 := by have := HPL.out; omega
    refine (HP1.out _ hR hP).mono ?_
    rintro e wk31 ⟨rfl, hb⟩
    replace hX := hX.below hb
    replace hR := hR.below hb
    replace hP := hP.below hb
    replace hB := bvia hB hb
    clear m0 m1 hb
    obtain ⟨m0, m1⟩ := id hX
    go_wp2_with (fail)
    cases hin : inB j 0 ((ps.length : Int) - 1) with
    | false =>
      have hin' : inB j 0 ((N : Int) - 1) = false := by rw [← HPL.out]; exact hin
      have HE := Lib.hid (fall_no2 (zs := zs) (ps := ps) hin')
      clear hin'
      refine (HIN.out _ _ _ _).mono ?_
      rw [hin]
      rintro e wz ⟨rfl, rfl⟩
      go_wp2_with (fail)
      go_ret
      exact ⟨ret_int HE.out.symm, hB⟩
    | true =>
      have hj := inB_true.1 hin
      refine (HIN.out _ _ _ _).mono ?_
      rw [hin]
      rintro e wz ⟨rfl, rfl⟩
      have hpl := HPL.out
      obtain ⟨jn, rfl⟩ : ∃ n : Nat, j = n := ⟨j.toNat, by omega⟩
      have hjn : jn < N := by omega
      obtain ⟨bp, op, rfl, c0⟩ := hP.cellP (k := jn) (by omega)
      have qj : (jn : Int) < (ps.length : Int) := by omega
      have hN1 := hN.1
      have hpb := pf_bd (pulls_open HPK.out).2.2.1 jn
      clear hin hpl HP1 HIN hj
      by_cases h0 : pf ps jn < 0
      · have HE := Lib.hid (fall_zero HPK.out hjn h0)
        generalize hpe : pf ps jn = p at c0 h0 hpb
        obtain rfl : p = -1 := by omega
        clear hpe
        go_wp2_with (fail)
        go_ret
        exact ⟨ret_int HE.out.symm, hB⟩
      · have HH0 := Lib.hid h0
        have HL := Lib.hid (fun w' h => countStrings_any ps (.slice (some ⟨bp, op, none⟩) ps.length cp) w' h)
        have HBD := Lib.hid (And.intro (pose_bd HPK.out hjn) (fun h1 => fall_two HPK.out hjn h0 h1))
        have HS1 := Lib.hid (fun h1 => fall_one HPK.out hjn h0 h1)
        have HPS := Lib.hid (fun h1 : ¬ strN ps = 1 => show pullsB N zs (ps.set jn (-1)) = true by
          have := (pulls_facts HPK.out).2.2.2.2.1
          rw [pulls_set HPK.out (by have := HPL.out; omega) (by omega), decide_eq_true_eq]
          omega)
        have HLE := Lib.hid (strN_le ps)
        rw [cntI_strN (pulls_open HPK.out).2.2.1] at HL
        have HWO := Lib.hid (fun w' h => implWithoutString_any ps jn (by have := HPL.out; omega) (.slice (some ⟨bp, op, none⟩) ps.length cp) w' h)
        rw [show withoutString ps jn = ps.set jn (-1) by unfold withoutString; rw [if_pos (inB_true.2 (by have := HPL.out; omega)), Int.toNat_natCast]] at HWO
        obtain ⟨s, hs⟩ : ∃ s, strN ps = s := ⟨_, rfl⟩
        rw [hs] at HL HBD HS1 HPS HLE
        have hs12 : s ≤ 12 := by have := HLE.out; have := HPL.out; omega
        generalize hpe : pf ps jn = p at c0 h0 hpb
        have hpn : ¬ p = -1 := by omega
        have hpnb : (p == -1) = false := beq_eq_false_iff_ne.2 hpn
        clear hs hpe HLE
        by_cases h1 : s = 1
        · have HE := Lib.hid (HS1.out h1)
          subst h1
          go_wp2_with (fail)
          refine (HL.out _ hP).mono ?_
          rintro e wy ⟨rfl, rfl⟩
          go_wp2_with (fail)
          go_ret
          exact ⟨ret_int HE.out.symm, hB⟩
        · have hq := HPS.out h1
          have HH1 := Lib.hid (fun w' h h' => implHangPose_any N zs ps HPK.out (.slice ad zs.length cap) (.slice (some ⟨bp, op, none⟩) ps.length cp) w' h h')
          have HH2 := Lib.hid (fun v w' h h' => implHangPose_any N zs (ps.set jn (-1)) hq (.slice ad zs.length cap) v w' h h')
          have HW := Lib.hid (fun w' h => HWO.out w' h)
          have HE := Lib.hid (HBD.out.2 h1)
          have hb1 := HBD.out.1
          have hb2 := pose_bd hq hjn
          simp only [poseL_eq] at HH1 HH2
          have h1i : ¬ (s : Int) = 1 := by omega
          clear hq HPS HBD HS1 HWO
          generalize ps.set jn (-1) = os at HW HH2 HE hb2
          generalize hp (fill N (edges zs)) (pf ps) N = f at HH1 HE hb1
          generalize hp (fill N (edges zs)) (pf os) N = g at HH2 HE hb2
          have hw : IntKind.i64.wrap (f jn - g jn) = f jn - g jn := IntWalk.i64_in _ (by omega)
          have qjN : (jn : Int) < (N : Int) := by omega
          have hwj : IntKind.i64.wrap (jn : Int) = jn := IntWalk.i64_in _ (by omega)
          go_wp2_with (fail)
          refine (HL.out _ hP).mono ?_
          rintro e wy ⟨rfl, rfl⟩
          go_wp2_with (fail)
          clear c0 m0 m1
          replace hX := hX.below (dr1 _).below
          replace hR := hR.below (dr1 _).below
          replace hP := hP.below (dr1 _).below
          replace hB := bvia hB (dr1 _).below
          with_reducible refine region_beg (n := 16) (S := (fun w' => w'.cell? ⟨w.heap.size, 0, none⟩ = some (.int .i64 (N : Int)) ∧ w'.cell? ⟨w.heap.size, 1, none⟩ = some (.slice ad zs.length cap))) ?b1_u118 ?b2_u118 ?b3_u118 (fun hHeld => ?b4_u118)
          case b1_u118 => kernel_rfl
          case b2_u118 => kernel_rfl
          case b3_u118 => (try dsimp only); exact hX
          with_reducible refine takeI2 (i := 0) (v := ?sv_u119) (oi := ?s0_u119) (by simp only [List.getElem?_toArray, List.getElem?_cons_succ, List.getElem?_cons_zero]; exact rfl) ?s1_u119 ?s2_u119 ?s3_u119 ?s4_u119 ?s5_u119 ?s6_u119 ?s7_u119
          case s1_u119 => kernel_rfl
          case s2_u119 => kernel_rfl
          case s3_u119 => kernel_rfl
          case s4_u119 => exact fun _ _ _ h => h
          case s5_u119 => exact Or.inl ⟨rfl, by intro w hSw; (try dsimp only at hSw); go_simp; try with_reducible rfl⟩
          case s6_u119 => assumption
          try simp only [Act.put, List.setIfInBounds_toArray, List.set_cons_zero, List.set_cons_succ]
          with_reducible refine takeI2 (i := 1) (v := ?sv_u120) (oi := ?s0_u120) (by simp only [List.getElem?_toArray, List.getElem?_cons_succ, List.getElem?_cons_zero]; exact rfl) ?s1_u120 ?s2_u120 ?s3_u120 ?s4_u120 ?s5_u120 ?s6_u120 ?s7_u120
          case s1_u120 => kernel_rfl
          case s2_u120 => kernel_rfl
          case s3_u120 => kernel_rfl
          case s4_u120 => exact fun _ _ _ h => h
          case s5_u120 => exact Or.inl ⟨rfl, by intro w hSw; (try dsimp only at hSw); go_simp; try with_reducible rfl⟩
          case s6_u120 => assumption
          try simp only [Act.put, List.setIfInBounds_toArray, List.set_cons_zero, List.set_cons_succ]
          with_reducible refine takeI2 (i := 3) (v := ?sv_u121) (oi := ?s0_u121) (by simp only [List.getElem?_toArray, List.getElem?_cons_succ, List.getElem?_cons_zero]; exact rfl) ?s1_u121 ?s2_u121 ?s3_u121 ?s4_u121 ?s5_u121 ?s6_u121 ?s7_u121
          case s1_u121 => kernel_rfl
          case s2_u121 => kernel_rfl
          case s3_u121 => kernel_rfl
          case s4_u121 => exact fun _ _ _ h => h
          case s5_u121 => exact Or.inl ⟨rfl, by intro w hSw; (try dsimp only at hSw); go_simp; try with_reducible rfl⟩
          case s6_u121 => assumption
          try simp only [Act.put, List.setIfInBounds_toArray, List.set_cons_zero, List.set_cons_succ]
          with_reducible refine takeI2 (i := 6) (v := ?sv_u122) (oi := ?s0_u122) (by simp only [List.getElem?_toArray, List.getElem?_cons_succ, List.getElem?_cons_zero]; exact rfl) ?s1_u122 ?s2_u122 ?s3_u122 ?s4_u122 ?s5_u122 ?s6_u122 ?s7_u122
          case s1_u122 => kernel_rfl
          case s2_u122 => kernel_rfl
          case s3_u122 => kernel_rfl
          case s4_u122 => exact fun _ _ _ h => h
          case s5_u122 => exact Or.inl ⟨rfl, by intro w hSw; (try dsimp only at hSw); go_simp; try with_reducible rfl⟩
          case s6_u122 => assumption
          try simp only [Act.put, List.setIfInBounds_toArray, List.set_cons_zero, List.set_cons_succ]
          with_reducible refine takeI2 (i := 7) (v := ?sv_u123) (oi := ?s0_u123) (by simp only [List.getElem?_toArray, List.getElem?_cons_succ, List.getElem?_cons_zero]; exact rfl) ?s1_u123 ?s2_u123 ?s3_u123 ?s4_u123 ?s5_u123 ?s6_u123 ?s7_u123
          case s1_u123 => kernel_rfl
          case s2_u123 => kernel_rfl
          case s3_u123 => kernel_rfl
          case s4_u123 => exact fun _ _ _ h => h
          case s5_u123 => exact Or.inl ⟨rfl, by intro w hSw; (try dsimp only at hSw); go_simp; try with_reducible rfl⟩
          case s6_u123 => assumption
          try simp only [Act.put, List.setIfInBounds_toArray, List.set_cons_zero, List.set_cons_succ]
          with_reducible refine takeI2 (i := 8) (v := ?sv_u124) (oi := ?s0_u124) (by simp only [List.getElem?_toArray, List.getElem?_cons_succ, List.getElem?_cons_zero]; exact rfl) ?s1_u124 ?s2_u124 ?s3_u124 ?s4_u124 ?s5_u124 ?s6_u124 ?s7_u124
          case s1_u124 => kernel_rfl
          case s2_u124 => kernel_rfl
          case s3_u124 => kernel_rfl
          case s4_u124 => exact fun _ _ _ h => h
          case s5_u124 => exact Or.inl ⟨rfl, by intro w hSw; (try dsimp only at hSw); go_simp; try with_reducible rfl⟩
          case s6_u124 => assumption
          try simp only [Act.put, List.setIfInBounds_toArray, List.set_cons_zero, List.set_cons_succ]
          with_reducible refine takeI2 (i := 11) (v := ?sv_u125) (oi := ?s0_u125) (by simp only [List.getElem?_toArray, List.getElem?_cons_succ, List.getElem?_cons_zero]; exact rfl) ?s1_u125 ?s2_u125 ?s3_u125 ?s4_u125 ?s5_u125 ?s6_u125 ?s7_u125
          case s1_u125 => kernel_rfl
          case s2_u125 => kernel_rfl
          case s3_u125 => kernel_rfl
          case s4_u125 => exact fun _ _ _ h => h
          case s5_u125 => exact Or.inl ⟨rfl, by intro w hSw; (try dsimp only at hSw); go_simp; try with_reducible rfl⟩
          case s6_u125 => assumption
          try simp only [Act.put, List.setIfInBounds_toArray, List.set_cons_zero, List.set_cons_succ]
          with_reducible refine wpAnyH_ready (rs := [2]) ?s1_u126 one_ne ?s2_u126
          case s1_u126 => kernel_rfl
          with_reducible refine AllReadyH.cons (o := ?s0_u126) (by simp only [List.getElem?_toArray, List.getElem?_cons_succ, List.getElem?_cons_zero]; exact rfl) (fun K hK => ?s3_u126) AllReadyH.nil
          go_simp
          refine (HH1.out _ hR hP).mono ?_
          rintro e wq32 ⟨x1, rfl, o1, hb⟩
          replace hX := hX.below hb
          replace hR := hR.below hb
          replace hP := hP.below hb
          replace hB := bvia hB hb
          clear hb
          obtain ⟨g1, q1, rfl, _, _, _, _⟩ := o1.fullR hN1
          have e1 := (o1.rlc hjn).1
          clear o1
          go_wp2_with fail
          with_reducible refine hK.out _ _ ?s1_u127 (fun hHeld => ?s2_u127)
          case s1_u127 => (try dsimp only); exact hX
          clear hK K
          try simp only [Act.put, List.setIfInBounds_toArray, List.set_cons_zero, List.set_cons_succ]
          with_reducible refine takeI2 (i := 4) (v := ?sv_u128) (oi := ?s0_u128) (by simp only [List.getElem?_toArray, List.getElem?_cons_succ, List.getElem?_cons_zero]; exact rfl) ?s1_u128 ?s2_u128 ?s3_u128 ?s4_u128 ?s5_u128 ?s6_u128 ?s7_u128
          case s1_u128 => kernel_rfl
          case s2_u128 => kernel_rfl
          case s3_u128 => kernel_rfl
          case s4_u128 => exact fun _ _ _ h => h
          case s5_u128 => exact Or.inl ⟨rfl, by intro w hSw; (try dsimp only at hSw); go_simp; try with_reducible rfl⟩
          case s6_u128 => assumption
          try simp only [Act.put, List.setIfInBounds_toArray, List.set_cons_zero, List.set_cons_succ]
          with_reducible refine wpAnyH_ready (rs := [5, 9]) ?s1_u129 (List.cons_ne_nil _ _) ?s2_u129
          case s1_u129 => kernel_rfl
          with_reducible refine AllReadyH.cons (o := ?b0_u129) (by simp only [List.getElem?_toArray, List.getElem?_cons_succ, List.getElem?_cons_zero]; exact rfl) ?b5_u129 (AllReadyH.cons (o := ?b1_u129) (by simp only [List.getElem?_toArray, List.getElem?_cons_succ, List.getElem?_cons_zero]; exact rfl) ?b6_u129 AllReadyH.nil)
          case b5_u129 =>
            intro K hK
            go_simp
            skip
            with_reducible refine hK.out _ _ ?s1_u130 (fun hHeld => ?s2_u130)
            case s1_u130 => (try dsimp only); exact hX
            clear hK K
            try simp only [Act.put, List.setIfInBounds_toArray, List.set_cons_zero, List.set_cons_succ]
            with_reducible refine wpAnyH_ready (rs := [9]) ?s1_u131 (List.cons_ne_nil _ _) ?s2_u131
            case s1_u131 => kernel_rfl
            with_reducible refine AllReadyH.cons (o := ?b0_u131) (by simp only [List.getElem?_toArray, List.getElem?_cons_succ, List.getElem?_cons_zero]; exact rfl) ?b5_u131 AllReadyH.nil
            case b5_u131 =>
              intro K hK
              go_simp
              refine (HW.out _ hP).mono ?_
              rintro e wq34 ⟨x9, rfl, o9, hb⟩
              replace hX := hX.below hb
              replace hR := hR.below hb
              replace hP := hP.below hb
              replace hB := bvia hB hb
              replace o9 := o9.rd
              clear hb
              go_wp2_with fail
              with_reducible refine hK.out _ _ ?s1_u132 (fun hHeld => ?s2_u132)
              case s1_u132 => (try dsimp only); exact hX
              clear hK K
              try simp only [Act.put, List.setIfInBounds_toArray, List.set_cons_zero, List.set_cons_succ]
              with_reducible refine wpAnyH_ready (rs := [10]) ?s1_u133 (List.cons_ne_nil _ _) ?s2_u133
              case s1_u133 => kernel_rfl
              with_reducible refine AllReadyH.cons (o := ?b0_u133) (by simp only [List.getElem?_toArray, List.getElem?_cons_succ, List.getElem?_cons_zero]; exact rfl) ?b5_u133 AllReadyH.nil
              case b5_u133 =>
                intro K hK
                go_simp
                refine (HH2.out _ _ hR o9).mono ?_
                rintro e wq35 ⟨x2, rfl, o2, hb⟩
                replace hX := hX.below hb
                replace hR := hR.below hb
                replace hP := hP.below hb
                replace hB := bvia hB hb
                clear hb
                obtain ⟨g2, q2, rfl, _, _, _, _⟩ := o2.fullR hN1
                have e2 := (o2.rlc hjn).1
                clear o2 o9
                go_wp2_with fail
                with_reducible refine hK.out _ _ ?s1_u134 (fun hHeld => ?s2_u134)
                case s1_u134 => (try dsimp only); exact hX
                clear hK K
                try simp only [Act.put, List.setIfInBounds_toArray, List.set_cons_zero, List.set_cons_succ]
                with_reducible refine takeI2 (i := 12) (v := ?sv_u135) (oi := ?s0_u135) (by simp only [List.getElem?_toArray, List.getElem?_cons_succ, List.getElem?_cons_zero]; exact rfl) ?s1_u135 ?s2_u135 ?s3_u135 ?s4_u135 ?s5_u135 ?s6_u135 ?s7_u135
                case s1_u135 => kernel_rfl
                case s2_u135 => kernel_rfl
                case s3_u135 => kernel_rfl
                case s4_u135 => exact fun _ _ _ h => h
                case s5_u135 => exact Or.inl ⟨rfl, by intro w hSw; (try dsimp only at hSw); go_simp; try with_reducible rfl⟩
                case s6_u135 => assumption
                try simp only [Act.put, List.setIfInBounds_toArray, List.set_cons_zero, List.set_cons_succ]
                with_reducible refine wpAnyH_ready (rs := [13]) ?s1_u136 (List.cons_ne_nil _ _) ?s2_u136
                case s1_u136 => kernel_rfl
                with_reducible refine AllReadyH.cons (o := ?b0_u136) (by simp only [List.getElem?_toArray, List.getElem?_cons_succ, List.getElem?_cons_zero]; exact rfl) ?b5_u136 AllReadyH.nil
                case b5_u136 =>
                  intro K hK
                  go_simp
                  skip
                  with_reducible refine hK.out _ _ ?s1_u137 (fun hHeld => ?s2_u137)
                  case s1_u137 => (try dsimp only); exact hX
                  clear hK K
                  try simp only [Act.put, List.setIfInBounds_toArray, List.set_cons_zero, List.set_cons_succ]
                  with_reducible refine takeI2 (i := 14) (v := ?sv_u138) (oi := ?s0_u138) (by simp only [List.getElem?_toArray, List.getElem?_cons_succ, List.getElem?_cons_zero]; exact rfl) ?s1_u138 ?s2_u138 ?s3_u138 ?s4_u138 ?s5_u138 ?s6_u138 ?s7_u138
                  case s1_u138 => kernel_rfl
                  case s2_u138 => kernel_rfl
                  case s3_u138 => kernel_rfl
                  case s4_u138 => exact fun _ _ _ h => h
                  case s5_u138 => exact Or.inl ⟨rfl, by intro w hSw; (try dsimp only at hSw); go_simp; try with_reducible rfl⟩
                  case s6_u138 => assumption
                  try simp only [Act.put, List.setIfInBounds_toArray, List.set_cons_zero, List.set_cons_succ]
                  with_reducible refine takeI2 (i := 15) (v := ?sv_u139) (oi := ?s0_u139) (by simp only [List.getElem?_toArray, List.getElem?_cons_succ, List.getElem?_cons_zero]; exact rfl) ?s1_u139 ?s2_u139 ?s3_u139 ?s4_u139 ?s5_u139 ?s6_u139 ?s7_u139
                  case s1_u139 => kernel_rfl
                  case s2_u139 => kernel_rfl
                  case s3_u139 => kernel_rfl
                  case s4_u139 => exact fun _ _ _ h => h
                  case s5_u139 => exact Or.inl ⟨rfl, by intro w hSw; (try dsimp only at hSw); go_simp; try with_reducible rfl⟩
                  case s6_u139 => assumption
                  try simp only [Act.put, List.setIfInBounds_toArray, List.set_cons_zero, List.set_cons_succ]
                  with_reducible refine wpAnyH_done ?s1_u140 ?s2_u140 _
                  case s1_u140 => kernel_rfl
                  go_wp2_with (fail)
                  go_ret
                  exact ⟨ret_int HE.out.symm, hB⟩
          case b6_u129 =>
            intro K hK
            go_simp
            refine (HW.out _ hP).mono ?_
            rintro e wq37 ⟨x9, rfl, o9, hb⟩
            replace hX := hX.below hb
            replace hR := hR.below hb
            replace hP := hP.below hb
            replace hB := bvia hB hb
            replace e1 := cell_on hb e1
            replace o9 := o9.rd
            clear hb
            go_wp2_with fail
            with_reducible refine hK.out _ _ ?s1_u141 (fun hHeld => ?s2_u141)
            case s1_u141 => (try dsimp only); exact hX
            clear hK K
            try simp only [Act.put, List.setIfInBounds_toArray, List.set_cons_zero, List.set_cons_succ]
            with_reducible refine wpAnyH_ready (rs := [5, 10]) ?s1_u142 (List.cons_ne_nil _ _) ?s2_u142
            case s1_u142 => kernel_rfl
            with_reducible refine AllReadyH.cons (o := ?b0_u142) (by simp only [List.getElem?_toArray, List.getElem?_cons_succ, List.getElem?_cons_zero]; exact rfl) ?b5_u142 (AllReadyH.cons (o := ?b1_u142) (by simp only [List.getElem?_toArray, List.getElem?_cons_succ, List.getElem?_cons_zero]; exact rfl) ?b6_u142 AllReadyH.nil)
            case b5_u142 =>
              intro K hK
              go_simp
              skip
              with_reducible refine hK.out _ _ ?s1_u143 (fun hHeld => ?s2_u143)
              case s1_u143 => (try dsimp only); exact hX
              clear hK K
              try simp only [Act.put, List.setIfInBounds_toArray, List.set_cons_zero, List.set_cons_succ]
              with_reducible refine wpAnyH_ready (rs := [10]) ?s1_u144 (List.cons_ne_nil _ _) ?s2_u144
              case s1_u144 => kernel_rfl
              with_reducible refine AllReadyH.cons (o := ?b0_u144) (by simp only [List.getElem?_toArray, List.getElem?_cons_succ, List.getElem?_cons_zero]; exact rfl) ?b5_u144 AllReadyH.nil
              case b5_u144 =>
                intro K hK
                go_simp
                refine (HH2.out _ _ hR o9).mono ?_
                rintro e wq39 ⟨x2, rfl, o2, hb⟩
                replace hX := hX.below hb
                replace hR := hR.below hb
                replace hP := hP.below hb
                replace hB := bvia hB hb
                clear hb
                obtain ⟨g2, q2, rfl, _, _, _, _⟩ := o2.fullR hN1
                have e2 := (o2.rlc hjn).1
                clear o2 o9
                go_wp2_with fail
                with_reducible refine hK.out _ _ ?s1_u145 (fun hHeld => ?s2_u145)
                case s1_u145 => (try dsimp only); exact hX
                clear hK K
                try simp only [Act.put, List.setIfInBounds_toArray, List.set_cons_zero, List.set_cons_succ]
                with_reducible refine takeI2 (i := 12) (v := ?sv_u146) (oi := ?s0_u146) (by simp only [List.getElem?_toArray, List.getElem?_cons_succ, List.getElem?_cons_zero]; exact rfl) ?s1_u146 ?s2_u146 ?s3_u146 ?s4_u146 ?s5_u146 ?s6_u146 ?s7_u146
                case s1_u146 => kernel_rfl
                case s2_u146 => kernel_rfl
                case s3_u146 => kernel_rfl
                case s4_u146 => exact fun _ _ _ h => h
                case s5_u146 => exact Or.inl ⟨rfl, by intro w hSw; (try dsimp only at hSw); go_simp; try with_reducible rfl⟩
                case s6_u146 => assumption
                try simp only [Act.put, List.setIfInBounds_toArray, List.set_cons_zero, List.set_cons_succ]
                with_reducible refine wpAnyH_ready (rs := [13]) ?s1_u147 (List.cons_ne_nil _ _) ?s2_u147
                case s1_u147 => kernel_rfl
                with_reducible refine AllReadyH.cons (o := ?b0_u147) (by simp only [List.getElem?_toArray, List.getElem?_cons_succ, List.getElem?_cons_zero]; exact rfl) ?b5_u147 AllReadyH.nil
                case b5_u147 =>
                  intro K hK
                  go_simp
                  skip
                  with_reducible refine hK.out _ _ ?s1_u148 (fun hHeld => ?s2_u148)
                  case s1_u148 => (try dsimp only); exact hX
                  clear hK K
                  try simp only [Act.put, List.setIfInBounds_toArray, List.set_cons_zero, List.set_cons_succ]
                  with_reducible refine takeI2 (i := 14) (v := ?sv_u149) (oi := ?s0_u149) (by simp only [List.getElem?_toArray, List.getElem?_cons_succ, List.getElem?_cons_zero]; exact rfl) ?s1_u149 ?s2_u149 ?s3_u149 ?s4_u149 ?s5_u149 ?s6_u149 ?s7_u149
                  case s1_u149 => kernel_rfl
                  case s2_u149 => kernel_rfl
                  case s3_u149 => kernel_rfl
                  case s4_u149 => exact fun _ _ _ h => h
                  case s5_u149 => exact Or.inl ⟨rfl, by intro w hSw; (try dsimp only at hSw); go_simp; try with_reducible rfl⟩
                  case s6_u149 => assumption
                  try simp only [Act.put, List.setIfInBounds_toArray, List.set_cons_zero, List.set_cons_succ]
                  with_reducible refine takeI2 (i := 15) (v := ?sv_u150) (oi := ?s0_u150) (by simp only [List.getElem?_toArray, List.getElem?_cons_succ, List.getElem?_cons_zero]; exact rfl) ?s1_u150 ?s2_u150 ?s3_u150 ?s4_u150 ?s5_u150 ?s6_u150 ?s7_u150
                  case s1_u150 => kernel_rfl
                  case s2_u150 => kernel_rfl
                  case s3_u150 => kernel_rfl
                  case s4_u150 => exact fun _ _ _ h => h
                  case s5_u150 => exact Or.inl ⟨rfl, by intro w hSw; (try dsimp only at hSw); go_simp; try with_reducible rfl⟩
                  case s6_u150 => assumption
                  try simp only [Act.put, List.setIfInBounds_toArray, List.set_cons_zero, List.set_cons_succ]
                  with_reducible refine wpAnyH_done ?s1_u151 ?s2_u151 _
                  case s1_u151 => kernel_rfl
                  go_wp2_with (fail)
                  go_ret
                  exact ⟨ret_int HE.out.symm, hB⟩
            case b6_u142 =>
              intro K hK
              go_simp
              refine (HH2.out _ _ hR o9).mono ?_
              rintro e wq41 ⟨x2, rfl, o2, hb⟩
              replace hX := hX.below hb
              replace hR := hR.below hb
              replace hP := hP.below hb
              replace hB := bvia hB hb
              replace e1 := cell_on hb e1
              clear hb
              obtain ⟨g2, q2, rfl, _, _, _, _⟩ := o2.fullR hN1
              have e2 := (o2.rlc hjn).1
              clear o2 o9
              go_wp2_with fail
              with_reducible refine hK.out _ _ ?s1_u152 (fun hHeld => ?s2_u152)
              case s1_u152 => (try dsimp only); exact hX
              clear hK K
              try simp only [Act.put, List.setIfInBounds_toArray, List.set_cons_zero, List.set_cons_succ]
              with_reducible refine takeI2 (i := 12) (v := ?sv_u153) (oi := ?s0_u153) (by simp only [List.getElem?_toArray, List.getElem?_cons_succ, List.getElem?_cons_zero]; exact rfl) ?s1_u153 ?s2_u153 ?s3_u153 ?s4_u153 ?s5_u153 ?s6_u153 ?s7_u153
              case s1_u153 => kernel_rfl
              case s2_u153 => kernel_rfl
              case s3_u153 => kernel_rfl
              case s4_u153 => exact fun _ _ _ h => h
              case s5_u153 => exact Or.inl ⟨rfl, by intro w hSw; (try dsimp only at hSw); go_simp; try with_reducible rfl⟩
              case s6_u153 => assumption
              try simp only [Act.put, List.setIfInBounds_toArray, List.set_cons_zero, List.set_cons_succ]
              with_reducible refine wpAnyH_ready (rs := [5, 13]) ?s1_u154 (List.cons_ne_nil _ _) ?s2_u154
              case s1_u154 => kernel_rfl
              with_reducible refine AllReadyH.cons (o := ?b0_u154) (by simp only [List.getElem?_toArray, List.getElem?_cons_succ, List.getElem?_cons_zero]; exact rfl) ?b5_u154 (AllReadyH.cons (o := ?b1_u154) (by simp only [List.getElem?_toArray, List.getElem?_cons_succ, List.getElem?_cons_zero]; exact rfl) ?b6_u154 AllReadyH.nil)
              case b5_u154 =>
                intro K hK
                go_simp
                skip
                with_reducible refine hK.out _ _ ?s1_u155 (fun hHeld => ?s2_u155)
                case s1_u155 => (try dsimp only); exact hX
                clear hK K
                try simp only [Act.put, List.setIfInBounds_toArray, List.set_cons_zero, List.set_cons_succ]
                with_reducible refine wpAnyH_ready (rs := [13]) ?s1_u156 (List.cons_ne_nil _ _) ?s2_u156
                case s1_u156 => kernel_rfl
                with_reducible refine AllReadyH.cons (o := ?b0_u156) (by simp only [List.getElem?_toArray, List.getElem?_cons_succ, List.getElem?_cons_zero]; exact rfl) ?b5_u156 AllReadyH.nil
                case b5_u156 =>
                  intro K hK
                  go_simp
                  skip
                  with_reducible refine hK.out _ _ ?s1_u157 (fun hHeld => ?s2_u157)
                  case s1_u157 => (try dsimp only); exact hX
                  clear hK K
                  try simp only [Act.put, List.setIfInBounds_toArray, List.set_cons_zero, List.set_cons_succ]
                  with_reducible refine takeI2 (i := 14) (v := ?sv_u158) (oi := ?s0_u158) (by simp only [List.getElem?_toArray, List.getElem?_cons_succ, List.getElem?_cons_zero]; exact rfl) ?s1_u158 ?s2_u158 ?s3_u158 ?s4_u158 ?s5_u158 ?s6_u158 ?s7_u158
                  case s1_u158 => kernel_rfl
                  case s2_u158 => kernel_rfl
                  case s3_u158 => kernel_rfl
                  case s4_u158 => exact fun _ _ _ h => h
                  case s5_u158 => exact Or.inl ⟨rfl, by intro w hSw; (try dsimp only at hSw); go_simp; try with_reducible rfl⟩
                  case s6_u158 => assumption
                  try simp only [Act.put, List.setIfInBounds_toArray, List.set_cons_zero, List.set_cons_succ]
                  with_reducible refine takeI2 (i := 15) (v := ?sv_u159) (oi := ?s0_u159) (by simp only [List.getElem?_toArray, List.getElem?_cons_succ, List.getElem?_cons_zero]; exact rfl) ?s1_u159 ?s2_u159 ?s3_u159 ?s4_u159 ?s5_u159 ?s6_u159 ?s7_u159
                  case s1_u159 => kernel_rfl
                  case s2_u159 => kernel_rfl
                  case s3_u159 => kernel_rfl
                  case s4_u159 => exact fun _ _ _ h => h
                  case s5_u159 => exact Or.inl ⟨rfl, by intro w hSw; (try dsimp only at hSw); go_simp; try with_reducible rfl⟩
                  case s6_u159 => assumption
                  try simp only [Act.put, List.setIfInBounds_toArray, List.set_cons_zero, List.set_cons_succ]
                  with_reducible refine wpAnyH_done ?s1_u160 ?s2_u160 _
                  case s1_u160 => kernel_rfl
                  go_wp2_with (fail)
                  go_ret
                  exact ⟨ret_int HE.out.symm, hB⟩
              case b6_u154 =>
                intro K hK
                go_simp
                skip
                with_reducible refine hK.out _ _ ?s1_u161 (fun hHeld => ?s2_u161)
                case s1_u161 => (try dsimp only); exact hX
                clear hK K
                try simp only [Act.put, List.setIfInBounds_toArray, List.set_cons_zero, List.set_cons_succ]
                with_reducible refine wpAnyH_ready (rs := [5]) ?s1_u162 (List.cons_ne_nil _ _) ?s2_u162
                case s1_u162 => kernel_rfl
                with_reducible refine AllReadyH.cons (o := ?b0_u162) (by simp only [List.getElem?_toArray, List.getElem?_cons_succ, List.getElem?_cons_zero]; exact rfl) ?b5_u162 AllReadyH.nil
                case b5_u162 =>
                  intro K hK
                  go_simp
                  skip
                  with_reducible refine hK.out _ _ ?s1_u163 (fun hHeld => ?s2_u163)
                  case s1_u163 => (try dsimp only); exact hX
                  clear hK K
                  try simp only [Act.put, List.setIfInBounds_toArray, List.set_cons_zero, List.set_cons_succ]
                  with_reducible refine takeI2 (i := 14) (v := ?sv_u164) (oi := ?s0_u164) (by simp only [List.getElem?_toArray, List.getElem?_cons_succ, List.getElem?_cons_zero]; exact rfl) ?s1_u164 ?s2_u164 ?s3_u164 ?s4_u164 ?s5_u164 ?s6_u164 ?s7_u164
                  case s1_u164 => kernel_rfl
                  case s2_u164 => kernel_rfl
                  case s3_u164 => kernel_rfl
                  case s4_u164 => exact fun _ _ _ h => h
                  case s5_u164 => exact Or.inl ⟨rfl, by intro w hSw; (try dsimp only at hSw); go_simp; try with_reducible rfl⟩
                  case s6_u164 => assumption
                  try simp only [Act.put, List.setIfInBounds_toArray, List.set_cons_zero, List.set_cons_succ]
                  with_reducible refine takeI2 (i := 15) (v := ?sv_u165) (oi := ?s0_u165) (by simp only [List.getElem?_toArray, List.getElem?_cons_succ, List.getElem?_cons_zero]; exact rfl) ?s1_u165 ?s2_u165 ?s3_u165 ?s4_u165 ?s5_u165 ?s6_u165 ?s7_u165
                  case s1_u165 => kernel_rfl
                  case s2_u165 => kernel_rfl
                  case s3_u165 => kernel_rfl
                  case s4_u165 => exact fun _ _ _ h => h
                  case s5_u165 => exact Or.inl ⟨rfl, by intro w hSw; (try dsimp only at hSw); go_simp; try with_reducible rfl⟩
                  case s6_u165 => assumption
                  try simp only [Act.put, List.setIfInBounds_toArray, List.set_cons_zero, List.set_cons_succ]
                  with_reducible refine wpAnyH_done ?s1_u166 ?s2_u166 _
                  case s1_u166 => kernel_rfl
                  go_wp2_with (fail)
                  go_ret
                  exact ⟨ret_int HE.out.symm, hB⟩

set_option maxHeartbeats 1000000 in
theorem specIsNeeded_any (J : Int) (zs : List LimbV) (ps : List Int) (j : Int) (u v : Value) (w : World) (h : RdLimb w u zs) (h' : RdI w v ps) :
    Calls Try.prog 34 #[.agg #[.int .i64 J, u], v, .int .i64 j] w fun e w' => e = .returned (.bool (needB J zs ps j)) ∧ Below w.heap.size w w' := by
  obtain ⟨ad, cap, rfl⟩ := h.shape
  obtain ⟨ap, cp, rfl⟩ := h'.shape
  have hb0 := below_alloc1 w (.cells #[.int .i64 J, .slice ad zs.length cap] 26)
  have hx0 := BX.new w J (.slice ad zs.length cap)
  have HS := Lib.hid (And.intro hb0 (And.intro hx0 (And.intro (h.below hb0) (h'.below hb0))))
  have HP1 := Lib.hid (fun w' h h' => specPullsOk_any J zs ps (.slice ad zs.length cap) (.slice ap ps.length cp) w' h h')
  have HFA := Lib.hid (fun w' h h' => specFallOf_any J zs ps j (.slice ad zs.length cap) (.slice ap ps.length cp) w' h h')
  have HIN := Lib.hid (fun n a b w' => l01In_any n a b w')
  clear hb0 hx0 h h'
  go_enter Try.func34, Try.ntmps34
  go_wp2_with (fail)
  generalize w.alloc (.cells #[.int .i64 J, .slice ad zs.length cap] 26) = w1 at HS ⊢
  obtain ⟨hB, hX, hR, hP⟩ := HS.out
  clear HS
  obtain ⟨m0, m1⟩ := id hX
  go_wp2_with (fail)
  cases hp : pullsB J zs ps with
  | false =>
    have HE := Lib.hid (show needB J zs ps j = false by unfold needB; rw [hp]; rfl)
    rw [hp] at HP1
    refine (HP1.out _ hR hP).mono ?_
    rintro e wk46 ⟨rfl, hb⟩
    replace hX := hX.below hb
    replace hR := hR.below hb
    replace hP := hP.below hb
    replace hB := bvia hB hb
    clear m0 m1 hb
    obtain ⟨m0, m1⟩ := id hX
    go_wp2_with (fail)
    go_ret
    exact ⟨ret_bool HE.out.symm, hB⟩
  | true =>
    rw [hp] at HP1
    obtain ⟨N, rfl⟩ : ∃ N : Nat, J = N := by
      obtain ⟨N, h, _⟩ := body_tree (pulls_open hp).1
      exact ⟨N, h⟩
    have hN := (pulls_facts hp).1
    have HPK := Lib.hid hp
    have HPL := Lib.hid (pulls_facts hp).2.2.1
    clear hp
    refine (HP1.out _ hR hP).mono ?_
    rintro e wk47 ⟨rfl, hb⟩
    replace hX := hX.below hb
    replace hR := hR.below hb
    replace hP := hP.below hb
    replace hB := bvia hB hb
    clear m0 m1 hb
    obtain ⟨m0, m1⟩ := id hX
    go_wp2_with (fail)
    cases hin : inB j 0 ((N : Int) - 1) with
    | false =>
      have HE := Lib.hid (show needB N zs ps j = false by unfold needB; rw [hin]; simp)
      refine (HIN.out _ _ _ _).mono ?_
      rw [hin]
      rintro e wz ⟨rfl, rfl⟩
      go_wp2_with (fail)
      go_ret
      exact ⟨ret_bool HE.out.symm, hB⟩
    | true =>
      have hj := inB_true.1 hin
      have HIB := Lib.hid hin
      obtain ⟨jn, rfl⟩ : ∃ n : Nat, j = n := ⟨j.toNat, by omega⟩
      have hjn : jn < N := by omega
      obtain ⟨bp, op, rfl, c0⟩ := hP.cellP (k := jn) (by have := HPL.out; omega)
      have qj : (jn : Int) < (ps.length : Int) := by have := HPL.out; omega
      have hpb := pf_bd (pulls_open HPK.out).2.2.1 jn
      refine (HIN.out _ _ _ _).mono ?_
      rw [hin]
      rintro e wz ⟨rfl, rfl⟩
      clear hin HP1 HIN hj
      have HLL := Lib.hid (fun w' h => l26Strings_any ps (by have := HPL.out; omega) (.slice (some ⟨bp, op, none⟩) ps.length cp) w' h)
      have HLE := Lib.hid (strN_le ps)
      have HNE : Hid (needB N zs ps jn = (decide (0 ≤ pf ps jn) && (decide (strN ps = 1) || decide (0 < fallV N zs ps jn)))) := by
        show _ = _
        unfold needB
        rw [HPK.out, HIB.out, Int.toNat_natCast]
        rfl
      have HFB := Lib.hid (And.intro (fall_le HPK.out hjn) (fun h1 => fall_ge HPK.out hjn h1))
      obtain ⟨s, hs⟩ : ∃ s, strN ps = s := ⟨_, rfl⟩
      rw [hs] at HLL HLE HNE HFB
      have hs12 : s ≤ 12 := by have := HLE.out; have := HPL.out; omega
      generalize hpe : pf ps jn = p at c0 hpb HNE
      generalize fallV N zs ps jn = fv at HFA HNE HFB
      clear hs hpe HLE HPK
      by_cases h0 : p < 0
      · have HE : Hid (needB N zs ps jn = false) := by
          show _ = _
          rw [HNE.out, decide_eq_false (by omega)]
          rfl
        go_wp2_with (fail)
        go_ret
        exact ⟨ret_bool HE.out.symm, hB⟩
      · by_cases h1 : s = 1
        · have HE : Hid (needB N zs ps jn = true) := by
            show _ = _
            rw [HNE.out, decide_eq_true (by omega), decide_eq_true h1]
            rfl
          subst h1
          go_wp2_with (fail)
          refine (HLL.out _ hP).mono ?_
          rintro e wy ⟨rfl, rfl⟩
          go_wp2_with (fail)
          go_ret
          exact ⟨ret_bool HE.out.symm, hB⟩
        · have HE : Hid (needB N zs ps jn = decide (0 < fv)) := by
            show _ = _
            rw [HNE.out, decide_eq_true (by omega), decide_eq_false h1]
            rfl
          have h1i : ¬ (s : Int) = 1 := by omega
          go_wp2_with (fail)
          refine (HLL.out _ hP).mono ?_
          rintro e wy ⟨rfl, rfl⟩
          go_wp2_with (fail)
          refine (HFA.out _ hR hP).mono ?_
          rintro e wk48 ⟨rfl, hb⟩
          replace hX := hX.below hb
          replace hR := hR.below hb
          replace hP := hP.below hb
          replace hB := bvia hB hb
          clear m0 m1 hb
          obtain ⟨m0, m1⟩ := id hX
          go_wp2_with (fail)
          go_ret
          exact ⟨ret_bool (by rw [HE.out]; simp [h1i]), hB⟩

set_option maxHeartbeats 1000000 in
theorem implIsNeeded_any (J : Int) (zs : List LimbV) (ps : List Int) (j : Int) (u v : Value) (w : World) (h : RdLimb w u zs) (h' : RdI w v ps) :
    Calls Try.prog 16 #[.agg #[.int .i64 J, u], v, .int .i64 j] w fun e w' => e = .returned (.bool (needB J zs ps j)) ∧ Below w.heap.size w w' := by
  obtain ⟨ad, cap, rfl⟩ := h.shape
  obtain ⟨ap, cp, rfl⟩ := h'.shape
  have hb0 := below_alloc1 w (.cells #[.int .i64 J, .slice ad zs.length cap] 26)
  have hx0 := BX.new w J (.slice ad zs.length cap)
  have HS := Lib.hid (And.intro hb0 (And.intro hx0 (And.intro (h.below hb0) (h'.below hb0))))
  have HP1 := Lib.hid (fun w' h h' => implPullsOk_any J zs ps (.slice ad zs.length cap) (.slice ap ps.length cp) w' h h')
  have HFA := Lib.hid (fun w' h h' => implFallOf_any J zs ps j (.slice ad zs.length cap) (.slice ap ps.length cp) w' h h')
  have HIN := Lib.hid (fun n a b w' => within_any n a b w')
  clear hb0 hx0 h h'
  go_enter Try.func16, Try.ntmps16
  go_wp2_with (fail)
  generalize w.alloc (.cells #[.int .i64 J, .slice ad zs.length cap] 26) = w1 at HS ⊢
  obtain ⟨hB, hX, hR, hP⟩ := HS.out
  clear HS
  obtain ⟨m0, m1⟩ := id hX
  go_wp2_with (fail)
  by_cases hf : 0 < fallV J zs ps j
  · have HE := Lib.hid (need_fall hf)
    generalize fallV J zs ps j = fv at HFA hf
    refine (HFA.out _ hR hP).mono ?_
    rintro e wk49 ⟨rfl, hb⟩
    replace hX := hX.below hb
    replace hR := hR.below hb
    replace hP := hP.below hb
    replace hB := bvia hB hb
    clear m0 m1 hb
    obtain ⟨m0, m1⟩ := id hX
    go_wp2_with (fail)
    go_ret
    exact ⟨ret_bool HE.out.symm, hB⟩
  · have HNE := Lib.hid (need_no hf)
    generalize fallV J zs ps j = fv at HFA hf
    refine (HFA.out _ hR hP).mono ?_
    rintro e wk50 ⟨rfl, hb⟩
    replace hX := hX.below hb
    replace hR := hR.below hb
    replace hP := hP.below hb
    replace hB := bvia hB hb
    clear m0 m1 hb
    obtain ⟨m0, m1⟩ := id hX
    go_wp2_with (fail)
    cases hp : pullsB J zs ps with
    | false =>
      have HE := Lib.hid (show needB J zs ps j = false by unfold needB; rw [hp]; rfl)
      rw [hp] at HP1
      refine (HP1.out _ hR hP).mono ?_
      rintro e wk51 ⟨rfl, hb⟩
      replace hX := hX.below hb
      replace hR := hR.below hb
      replace hP := hP.below hb
      replace hB := bvia hB hb
      clear m0 m1 hb
      obtain ⟨m0, m1⟩ := id hX
      go_wp2_with (fail)
      go_ret
      exact ⟨ret_bool HE.out.symm, hB⟩
    | true =>
      rw [hp] at HP1
      obtain ⟨N, rfl⟩ : ∃ N : Nat, J = N := by
        obtain ⟨N, h, _⟩ := body_tree (pulls_open hp).1
        exact ⟨N, h⟩
      have hN := (pulls_facts hp).1
      have HPK := Lib.hid hp
      have HPL := Lib.hid (pulls_facts hp).2.2.1
      have hl12 : ps.length ≤ 12 := by have := HPL.out; omega
      clear hp
      refine (HP1.out _ hR hP).mono ?_
      rintro e wk52 ⟨rfl, hb⟩
      replace hX := hX.below hb
      replace hR := hR.below hb
      replace hP := hP.below hb
      replace hB := bvia hB hb
      clear m0 m1 hb
      obtain ⟨m0, m1⟩ := id hX
      go_wp2_with (fail)
      cases hin : inB j 0 ((ps.length : Int) - 1) with
      | false =>
        have HE := Lib.hid (show needB N zs ps j = false by unfold needB; rw [← HPL.out, hin]; simp)
        refine (HIN.out _ _ _ _).mono ?_
        rw [hin]
        rintro e wz ⟨rfl, rfl⟩
        go_wp2_with (fail)
        go_ret
        exact ⟨ret_bool HE.out.symm, hB⟩
      | true =>
        have hj := inB_true.1 hin
        have HIB : Hid (inB j 0 ((N : Int) - 1) = true) := by show _ = _; rw [← HPL.out]; exact hin
        obtain ⟨jn, rfl⟩ : ∃ n : Nat, j = n := ⟨j.toNat, by omega⟩
        have hjn : jn < N := by have := HPL.out; omega
        obtain ⟨bp, op, rfl, c0⟩ := hP.cellP (k := jn) (by have := HPL.out; omega)
        have qj : (jn : Int) < (ps.length : Int) := by have := HPL.out; omega
        have hpb := pf_bd (pulls_open HPK.out).2.2.1 jn
        refine (HIN.out _ _ _ _).mono ?_
        rw [hin]
        rintro e wz ⟨rfl, rfl⟩
        clear hin HP1 HIN hj
        have HLL := Lib.hid (fun w' h => countStrings_any ps (.slice (some ⟨bp, op, none⟩) ps.length cp) w' h)
        rw [cntI_strN (pulls_open HPK.out).2.2.1] at HLL
        have HLE := Lib.hid (strN_le ps)
        have HNE2 : Hid (needB N zs ps jn = (decide (0 ≤ pf ps jn) && decide (strN ps = 1))) := by
          show _ = _
          rw [HNE.out, HPK.out, HIB.out, Int.toNat_natCast]
          rfl
        obtain ⟨s, hs⟩ : ∃ s, strN ps = s := ⟨_, rfl⟩
        rw [hs] at HLL HLE HNE2
        have hs12 : s ≤ 12 := by have := HLE.out; have := HPL.out; omega
        generalize hpe : pf ps jn = p at c0 hpb HNE2
        clear hs hpe HLE HPK HNE
        by_cases h0 : p = -1
        · have HE : Hid (needB N zs ps jn = false) := by
            show _ = _
            rw [HNE2.out, decide_eq_false (by omega)]
            rfl
          subst h0
          go_wp2_with (fail)
          go_ret
          exact ⟨ret_bool HE.out.symm, hB⟩
        · have HE : Hid (needB N zs ps jn = decide (s = 1)) := by
            show _ = _
            rw [HNE2.out, decide_eq_true (by omega)]
            rfl
          have h0b : (p == -1) = false := beq_eq_false_iff_ne.2 h0
          by_cases h1 : s = 1
          · subst h1
            go_wp2_with (fail)
            refine (HLL.out _ hP).mono ?_
            rintro e wy ⟨rfl, rfl⟩
            go_wp2_with (fail)
            go_ret
            exact ⟨ret_bool (by rw [HE.out]; simp [h0]), hB⟩
          · have h1i : ¬ (s : Int) = 1 := by omega
            go_wp2_with (fail)
            refine (HLL.out _ hP).mono ?_
            rintro e wy ⟨rfl, rfl⟩
            go_wp2_with (fail)
            go_ret
            exact ⟨ret_bool (by rw [HE.out, decide_eq_false h1]; simp [h1i]), hB⟩
end Go.Proofs.Ytfedhjfijcnpdaa
