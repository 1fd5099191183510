/- PullsOk of both. -/
import Derived.Test.YtfedhjfijcnpdaaPose
import Derived.Test.YtfedhjfijcnpdaaBodyI
import Derived.Test.YtfedhjfijcnpdaaDistS
namespace Go.Proofs.Ytfedhjfijcnpdaa
open Go.ChangeShapes Go.WideShapes Go.ChangeAt Go.RowKit Go.Joins Tr
set_option linter.unusedSimpArgs false
set_option linter.unusedVariables false
set_option maxRecDepth 20000

set_option maxHeartbeats 1000000 in
theorem specPullsOk_any (J : Int) (zs : List LimbV) (ps : List Int) (u v : Value) (w : World) (h : RdLimb w u zs) (h' : RdI w v ps) :
    Calls Try.prog 43 #[.agg #[.int .i64 J, u], v] w fun e w' => e = .returned (.bool (pullsB J zs ps)) ∧ Below w.heap.size w w' := by
  obtain ⟨ad, cap, rfl⟩ := h.shape
  obtain ⟨ap, cp, bp, op, rfl, hcp, hmp, hap, hcl⟩ := h'.open
  have hb0 := below_alloc1 w (.cells #[.int .i64 J, .slice ad zs.length cap] 26)
  have hx0 := BX.new w J (.slice ad zs.length cap)
  have HS := Lib.hid (And.intro hb0 (And.intro hx0 (h.below hb0)))
  have hCL : ∀ (k : Nat) (x : Int), ps[k]? = some x → (w.alloc (.cells #[.int .i64 J, .slice ad zs.length cap] 26)).cell? ⟨bp, op + k, none⟩ = some (.int .i64 x) := by
    intro k x hx
    have hk := (List.getElem?_eq_some_iff.1 hx).1
    have := hcl k hk
    rw [List.getD_eq_getElem?_getD, hx] at this
    exact cell_on hb0 this
  have HCL := Lib.hid hCL
  have HBO := Lib.hid (fun w' h => specBodyOk_any J zs (.slice ad zs.length cap) w' h)
  clear hb0 hx0 h h' hcl hCL
  go_enter Try.func43, Try.ntmps43
  go_wp2_with (fail)
  generalize w.alloc (.cells #[.int .i64 J, .slice ad zs.length cap] 26) = w1 at HS HCL ⊢
  obtain ⟨hB, hX, hR⟩ := HS.out
  clear HS
  obtain ⟨m0, m1⟩ := id hX
  go_wp2_with (fail)
  refine (HBO.out _ hR).mono ?_
  rintro e w2 ⟨rfl, hb⟩
  replace hX := hX.below hb
  replace hB := bvia hB hb
  have HB2 := Lib.hid hb
  clear m0 m1 hb HBO hR
  obtain ⟨m0, m1⟩ := id hX
  cases hbo : bodyB J zs with
  | false =>
    have HE := Lib.hid (pulls_no1 (ps := ps) hbo)
    go_wp2_with (fail)
    go_ret
    exact ⟨ret_bool HE.out.symm, hB⟩
  | true =>
    by_cases hlen : (ps.length : Int) = J
    · have hJ := (body_open hbo).1
      have HP := Lib.hid (And.intro hbo hlen)
      have hp12 : ps.length ≤ 12 := by omega
      have hDr := Dr.refl w2
      have hlenb : ((ps.length : Int) == J) = true := beq_iff_eq.2 hlen
      clear hbo
      go_wp2_with (fail)
      clear m0 m1
      go_loopw [5, 6] (fun s k wr => ∃ (q : Nat) (b : Bool), q ≤ ps.length ∧ k = .int .i64 q ∧ s = .bool b ∧ Hid ((∀ p ∈ ps.take q, -1 ≤ p ∧ p ≤ 500) ∧ b = decide (0 < strN (ps.take q))) ∧ w2 = wr) (fun _ k _ => ps.length - (intOf k).toNat)
      case atStart => exact ⟨0, false, Nat.zero_le _, rfl, rfl, ⟨by simp, by simp [strN]⟩, rfl⟩
      case round =>
       focus
        obtain ⟨q, b, hq, rfl, rfl, HQ, rfl⟩ := hrel
        by_cases hlt : q < ps.length
        · obtain rfl := hap (by omega)
          obtain ⟨x, hx⟩ : ∃ x, ps[q]? = some x := ⟨_, List.getElem?_eq_getElem hlt⟩
          have c0 := cell_on HB2.out (HCL.out q x hx)
          have qlt : (q : Int) < (ps.length : Int) := by omega
          have HI := Lib.hid (fun w' => l01In_any x (-1) 500 w')
          have hall2 : inB x (-1) 500 = true → ∀ p ∈ ps.take (q + 1), -1 ≤ p ∧ p ≤ 500 := by
            intro h p hp
            rcases mem_take_succ hx hp with hp | rfl
            · exact HQ.out.1 p hp
            · exact inB_true.1 h
          have HA := Lib.hid (And.intro hall2 (And.intro (strN_succ hx) (List.mem_of_getElem? hx)))
          clear hall2 hx
          cases hin : inB x (-1) 500 with
          | false =>
            have HE := Lib.hid (pulls_no3 (J := J) (zs := zs) HA.out.2.2 hin)
            rw [hin] at HI
            clear hin
            go_wp2_with (fail)
            refine (HI.out _).mono ?_
            rintro e w4 ⟨rfl, rfl⟩
            go_wp2_with (fail)
            go_ret
            exact ⟨ret_bool HE.out.symm, hB⟩
          | true =>
            rw [hin] at HI
            have HA2 := Lib.hid (HA.out.1 hin)
            clear hin
            have hb2 := HQ.out.2
            by_cases hx0 : 0 ≤ x
            · have HN : Hid (true = decide (0 < strN (ps.take (q + 1)))) := by
                show _ = _
                rw [HA.out.2.1, if_pos hx0]
                simp
              clear hb2
              cases b with
              | true =>
                go_wp2_with (fail)
                refine (HI.out _).mono ?_
                rintro e w4 ⟨rfl, rfl⟩
                go_wp2_with (fail)
                exact ⟨⟨q + 1, true, by omega, by go_num, rfl, ⟨HA2.out, HN.out⟩, by trivial⟩, by simp [intOf]; omega⟩
              | false =>
                go_wp2_with (fail)
                refine (HI.out _).mono ?_
                rintro e w4 ⟨rfl, rfl⟩
                go_wp2_with (fail)
                exact ⟨⟨q + 1, true, by omega, by go_num, rfl, ⟨HA2.out, HN.out⟩, by trivial⟩, by simp [intOf]; omega⟩
            · have HN : Hid (b = decide (0 < strN (ps.take (q + 1)))) := by
                show _ = _
                rw [HA.out.2.1, if_neg hx0, Nat.add_zero]
                exact hb2
              clear hb2
              cases b with
              | true =>
                go_wp2_with (fail)
                refine (HI.out _).mono ?_
                rintro e w4 ⟨rfl, rfl⟩
                go_wp2_with (fail)
                exact ⟨⟨q + 1, true, by omega, by go_num, rfl, ⟨HA2.out, HN.out⟩, by trivial⟩, by simp [intOf]; omega⟩
              | false =>
                go_wp2_with (fail)
                refine (HI.out _).mono ?_
                rintro e w4 ⟨rfl, rfl⟩
                go_wp2_with (fail)
                exact ⟨⟨q + 1, false, by omega, by go_num, by first | rfl | rw [decide_eq_false (by omega : ¬ 0 ≤ x)], ⟨HA2.out, HN.out⟩, by trivial⟩, by simp [intOf]; omega⟩
        · obtain rfl : q = ps.length := by omega
          have hq2 := HQ.out
          rw [List.take_length] at hq2
          have HE : Hid (pullsB J zs ps = b) := by
            show _ = _
            by_cases hs : 0 < strN ps
            · rw [hq2.2, decide_eq_true hs]
              exact pulls_ok HP.out.1 HP.out.2 hq2.1 hs
            · rw [hq2.2, decide_eq_false hs]
              exact pulls_no4 hs
          clear hq2
          go_wp2_with (fail)
          go_ret
          exact ⟨ret_bool HE.out.symm, hB⟩
    · have HE := Lib.hid (pulls_no2 (zs := zs) hlen)
      go_wp2_with (fail)
      go_ret
      exact ⟨ret_bool HE.out.symm, hB⟩

theorem countStrings_any (ps : List Int) (v : Value) (w : World) (h : RdI w v ps) : Calls Try.prog 47 #[v] w fun e w' => e = .returned (.int .i64 (cntI ps : Int)) ∧ w = w' := by
  obtain ⟨ad, cap, bl, off, rfl, hcap, hmax, had, hc⟩ := h.open
  have HC := Lib.hid hc
  clear h hc
  go_enter Try.func47, Try.ntmps47
  go_wp2_with (fail)
  go_loop [3, 8] (fun n i => ∃ (k m : Nat), k ≤ ps.length ∧ i = .int .i64 k ∧ n = .int .i64 m ∧ Hid (m = cntI (ps.take k)) ∧ m ≤ k) (fun _ i => ps.length - (intOf i).toNat)
  case atStart => exact ⟨0, 0, Nat.zero_le _, rfl, rfl, by show _ = _; simp [cntI], Nat.le_refl _⟩
  case round =>
   focus
    obtain ⟨k, m, hk, rfl, rfl, H, hm⟩ := hrel
    by_cases hlt : k < ps.length
    · obtain rfl := had (by omega)
      obtain ⟨x, hx⟩ : ∃ x, ps[k]? = some x := ⟨_, List.getElem?_eq_getElem hlt⟩
      have hck := HC.out k hlt
      rw [List.getD_eq_getElem?_getD, hx] at hck
      dsimp only [Option.getD_some] at hck
      have HN := Lib.hid (cntI_succ hx)
      have qlt : (k : Int) < (ps.length : Int) := by omega
      clear hx
      by_cases hx1 : x = -1
      · subst hx1
        go_wp2_with (fail)
        exact ⟨⟨k + 1, m, by omega, by go_num, rfl, by show _ = _; rw [HN.out, H.out]; simp, by omega⟩, by simp [intOf]; omega⟩
      · have hxb : (x == -1) = false := beq_eq_false_iff_ne.2 hx1
        go_wp2_with (fail)
        exact ⟨⟨k + 1, m + 1, by omega, by go_num, by go_num, by show _ = _; rw [HN.out, H.out, if_pos hx1], by omega⟩, by simp [intOf]; omega⟩
    · obtain rfl : k = ps.length := by omega
      have hm2 := H.out
      rw [List.take_length] at hm2
      subst hm2
      go_wp2_with (fail)
      go_ret
      exact ⟨rfl, rfl⟩

set_option maxHeartbeats 1000000 in
theorem implPullsOk_any (J : Int) (zs : List LimbV) (ps : List Int) (u v : Value) (w : World) (h : RdLimb w u zs) (h' : RdI w v ps) :
    Calls Try.prog 45 #[.agg #[.int .i64 J, u], v] w fun e w' => e = .returned (.bool (pullsB J zs ps)) ∧ Below w.heap.size w w' := by
  obtain ⟨ad, cap, rfl⟩ := h.shape
  obtain ⟨ap, cp, rfl⟩ := h'.shape
  have hb0 := below_alloc1 w (.cells #[.int .i64 J, .slice ad zs.length cap] 26)
  have hx0 := BX.new w J (.slice ad zs.length cap)
  have HS := Lib.hid (And.intro hb0 (And.intro hx0 (And.intro (h.below hb0) (h'.below hb0))))
  have HBO := Lib.hid (fun w' h => implBodyOk_any J zs (.slice ad zs.length cap) w' h)
  have HAW := Lib.hid (fun w' h => allWithin_any ps (-1) 500 (.slice ap ps.length cp) w' h)
  have HCS := Lib.hid (fun w' h => countStrings_any ps (.slice ap ps.length cp) w' h)
  clear hb0 hx0 h h'
  go_enter Try.func45, Try.ntmps45
  go_wp2_with (fail)
  generalize w.alloc (.cells #[.int .i64 J, .slice ad zs.length cap] 26) = w1 at HS ⊢
  obtain ⟨hB, hX, hR, hP⟩ := HS.out
  clear HS
  obtain ⟨m0, m1⟩ := id hX
  go_wp2_with (fail)
  refine (HBO.out _ hR).mono ?_
  rintro e w2 ⟨rfl, hb⟩
  replace hX := hX.below hb
  replace hB := bvia hB hb
  replace hP := hP.below hb
  clear m0 m1 hb HBO hR
  obtain ⟨m0, m1⟩ := id hX
  cases hbo : bodyB J zs with
  | false =>
    have HE := Lib.hid (pulls_no1 (ps := ps) hbo)
    go_wp2_with (fail)
    go_ret
    exact ⟨ret_bool HE.out.symm, hB⟩
  | true =>
    by_cases hlen : (ps.length : Int) = J
    · have HE := Lib.hid (pulls_eq hbo hlen)
      have hlenb : ((ps.length : Int) == J) = true := beq_iff_eq.2 hlen
      clear hbo
      cases ha : allB ps (-1) 500 with
      | false =>
        rw [ha] at HAW HE
        clear ha
        go_wp2_with (fail)
        refine (HAW.out _ hP).mono ?_
        rintro e w3 ⟨rfl, rfl⟩
        go_wp2_with (fail)
        go_ret
        exact ⟨ret_bool (by rw [HE.out]; rfl), hB⟩
      | true =>
        rw [ha] at HAW HE
        clear ha
        have HLE := Lib.hid (cntI_le ps)
        obtain ⟨n, hn⟩ : ∃ n, cntI ps = n := ⟨_, rfl⟩
        rw [hn] at HE HCS
        clear hn HLE
        go_wp2_with (fail)
        refine (HAW.out _ hP).mono ?_
        rintro e w3 ⟨rfl, rfl⟩
        go_wp2_with (fail)
        refine (HCS.out _ hP).mono ?_
        rintro e w4 ⟨rfl, rfl⟩
        go_wp2_with (fail)
        go_ret
        exact ⟨ret_bool (by rw [HE.out]; simp), hB⟩
    · have HE := Lib.hid (pulls_no2 (zs := zs) hlen)
      have hlenb : ((ps.length : Int) == J) = false := beq_eq_false_iff_ne.2 hlen
      go_wp2_with (fail)
      go_ret
      exact ⟨ret_bool HE.out.symm, hB⟩
end Go.Proofs.Ytfedhjfijcnpdaa
