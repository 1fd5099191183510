/- FallOf, IsNeeded, HangsSame of the reference. -/
import Derived.Test.YtfedhjfijcnpdaaBreakP
import Derived.Test.YtfedhjfijcnpdaaHangI
namespace Go.Proofs.Ytfedhjfijcnpdaa
open Go.ChangeShapes Go.WideShapes Go.ChangeAt Go.RowKit Go.Joins Tr
set_option linter.unusedSimpArgs false
set_option linter.unusedVariables false
set_option maxRecDepth 20000

theorem OwI.fullR {w : World} {B : Nat} {v : Value} {N : Nat} {f : Nat → Int} (h : OwI w B v (rl N f)) (hN : 1 ≤ N) : ∃ g c, v = .slice (some ⟨g, 0, none⟩) N c ∧ B ≤ g ∧ g < w.heap.size ∧ N ≤ c ∧ c ≤ 9223372036854775807 := by
  rcases h.slice with ⟨_, h0⟩ | ⟨g, c, rfl, h1, h2, h3, h4⟩
  · have h1 := congrArg List.length h0
    rw [rl_len] at h1
    simp at h1
    omega
  · rw [rl_len] at h3 ⊢
    exact ⟨g, c, rfl, h1, h2, h3, h4⟩
theorem RdI.cellP {w : World} {a : Option Addr} {c : Nat} {ps : List Int} (h : RdI w (.slice a ps.length c) ps) {k : Nat} (hk : k < ps.length) : ∃ b o, a = some ⟨b, o, none⟩ ∧ w.cell? ⟨b, o + k, none⟩ = some (.int .i64 (pf ps k)) := by
  obtain ⟨a', c', b, o, he, _, _, ha, hcl⟩ := h.open
  simp only [Value.slice.injEq] at he
  obtain ⟨rfl, _, rfl⟩ := he
  have := hcl k hk
  rw [List.getD_eq_getElem?_getD, pf_at hk] at this
  exact ⟨b, o, ha (by omega), this⟩
theorem l26Strings_any (ps : List Int) (hl : ps.length ≤ 1048576) (v : Value) (w : World) (h : RdI w v ps) : Calls Try.prog 57 #[v] w fun e w' => e = .returned (.int .i64 (strN ps : Int)) ∧ w = w' := by
  obtain ⟨ad, cap, bl, off, rfl, hcap, hmax, had, hc⟩ := h.open
  have HC := Lib.hid hc
  clear h hc
  go_enter Try.func57, Try.ntmps57
  go_wp2_with (fail)
  go_loop [3, 4] (fun n i => ∃ (k m : Nat), k ≤ ps.length ∧ i = .int .i64 k ∧ n = .int .i64 m ∧ Hid (m = strN (ps.take k)) ∧ m ≤ k) (fun _ i => ps.length - (intOf i).toNat)
  case atStart => exact ⟨0, 0, Nat.zero_le _, rfl, rfl, by show _ = _; simp [strN], Nat.le_refl _⟩
  case round =>
   focus
    obtain ⟨k, m, hk, rfl, rfl, H, hm⟩ := hrel
    by_cases hlt : k < ps.length
    · obtain rfl := had (by omega)
      obtain ⟨x, hx⟩ : ∃ x, ps[k]? = some x := ⟨_, List.getElem?_eq_getElem hlt⟩
      have hck := HC.out k hlt
      rw [List.getD_eq_getElem?_getD, hx] at hck
      dsimp only [Option.getD_some] at hck
      have HN := Lib.hid (strN_succ hx)
      have qlt : (k : Int) < (ps.length : Int) := by omega
      clear hx
      by_cases hx1 : 0 ≤ x
      · go_wp2_with (fail)
        exact ⟨⟨k + 1, m + 1, by omega, by go_num, by go_num, by show _ = _; rw [HN.out, H.out, if_pos hx1], by omega⟩, by simp [intOf]; omega⟩
      · go_wp2_with (fail)
        exact ⟨⟨k + 1, m, by omega, by go_num, rfl, by show _ = _; rw [HN.out, H.out, if_neg (by omega)]; rfl, by omega⟩, by simp [intOf]; omega⟩
    · obtain rfl : k = ps.length := by omega
      have hm2 := H.out
      rw [List.take_length] at hm2
      subst hm2
      go_wp2_with (fail)
      go_ret
      exact ⟨rfl, rfl⟩

set_option maxHeartbeats 1000000 in
theorem specHangsSame_any (J : Int) (zs : List LimbV) (ps os : List Int) (u v v' : Value) (w : World) (h : RdLimb w u zs) (h' : RdI w v ps) (h'' : RdI w v' os) :
    Calls Try.prog 28 #[.agg #[.int .i64 J, u], v, v'] w fun e w' => e = .returned (.bool (hangsB J zs ps os)) ∧ Below w.heap.size w w' := by
  obtain ⟨ad, cap, rfl⟩ := h.shape
  obtain ⟨ap, cp, rfl⟩ := h'.shape
  obtain ⟨aq, cq, rfl⟩ := h''.shape
  have hb0 := below_alloc1 w (.cells #[.int .i64 J, .slice ad zs.length cap] 26)
  have hx0 := BX.new w J (.slice ad zs.length cap)
  have HS := Lib.hid (And.intro hb0 (And.intro hx0 (And.intro (h.below hb0) (And.intro (h'.below hb0) (h''.below hb0)))))
  have HP1 := Lib.hid (fun w' h h' => specPullsOk_any J zs ps (.slice ad zs.length cap) (.slice ap ps.length cp) w' h h')
  have HP2 := Lib.hid (fun w' h h' => specPullsOk_any J zs os (.slice ad zs.length cap) (.slice aq os.length cq) w' h h')
  clear hb0 hx0 h h' h''
  go_enter Try.func28, Try.ntmps28
  go_wp2_with (fail)
  generalize w.alloc (.cells #[.int .i64 J, .slice ad zs.length cap] 26) = w1 at HS ⊢
  obtain ⟨hB, hX, hR, hP, hO⟩ := HS.out
  clear HS
  obtain ⟨m0, m1⟩ := id hX
  go_wp2_with (fail)
  cases hp : pullsB J zs ps with
  | false =>
    have HE := Lib.hid (show hangsB J zs ps os = false by unfold hangsB; rw [hp]; rfl)
    rw [hp] at HP1
    refine (HP1.out _ hR hP).mono ?_
    rintro e wk1 ⟨rfl, hb⟩
    replace hX := hX.below hb
    replace hR := hR.below hb
    replace hP := hP.below hb
    replace hO := hO.below hb
    replace hB := bvia hB hb
    clear m0 m1 hb
    obtain ⟨m0, m1⟩ := id hX
    go_wp2_with (fail)
    go_ret
    exact ⟨ret_bool HE.out.symm, hB⟩
  | true =>
    rw [hp] at HP1
    refine (HP1.out _ hR hP).mono ?_
    rintro e wk2 ⟨rfl, hb⟩
    replace hX := hX.below hb
    replace hR := hR.below hb
    replace hP := hP.below hb
    replace hO := hO.below hb
    replace hB := bvia hB hb
    clear m0 m1 hb
    obtain ⟨m0, m1⟩ := id hX
    go_wp2_with (fail)
    cases hq : pullsB J zs os with
    | false =>
      have HE := Lib.hid (show hangsB J zs ps os = false by unfold hangsB; rw [hq]; simp)
      rw [hq] at HP2
      refine (HP2.out _ hR hO).mono ?_
      rintro e wk3 ⟨rfl, hb⟩
      replace hX := hX.below hb
      replace hR := hR.below hb
      replace hP := hP.below hb
      replace hO := hO.below hb
      replace hB := bvia hB hb
      clear m0 m1 hb
      obtain ⟨m0, m1⟩ := id hX
      go_wp2_with (fail)
      go_ret
      exact ⟨ret_bool HE.out.symm, hB⟩
    | true =>
      rw [hq] at HP2
      obtain ⟨N, rfl⟩ : ∃ N : Nat, J = N := by
        obtain ⟨N, h, _⟩ := body_tree (pulls_open hp).1
        exact ⟨N, h⟩
      have HH1 := Lib.hid (fun w' h h' => specHangPose_any N zs ps hp (.slice ad zs.length cap) (.slice ap ps.length cp) w' h h')
      have HH2 := Lib.hid (fun w' h h' => specHangPose_any N zs os hq (.slice ad zs.length cap) (.slice aq os.length cq) w' h h')
      have HE : Hid (hangsB N zs ps os = decide (poseL N zs ps = poseL N zs os)) := by
        show _ = _
        unfold hangsB
        rw [hp, hq]
        rfl
      have HN := Lib.hid (body_treeN (pulls_open hp).1).1
      rw [poseL_eq, poseL_eq] at HE
      simp only [poseL_eq] at HH1 HH2
      clear hp hq
      generalize hp (fill N (edges zs)) (pf ps) N = f at HH1 HE
      generalize hp (fill N (edges zs)) (pf os) N = g at HH2 HE
      refine (HP2.out _ hR hO).mono ?_
      rintro e wk4 ⟨rfl, hb⟩
      replace hX := hX.below hb
      replace hR := hR.below hb
      replace hP := hP.below hb
      replace hO := hO.below hb
      replace hB := bvia hB hb
      clear m0 m1 hb
      obtain ⟨m0, m1⟩ := id hX
      go_wp2_with (fail)
      refine (HH1.out _ hR hP).mono ?_
      rintro e wk5 ⟨v1, rfl, o1, hb⟩
      replace hX := hX.below hb
      replace hR := hR.below hb
      replace hP := hP.below hb
      replace hO := hO.below hb
      replace hB := bvia hB hb
      clear m0 m1 hb
      obtain ⟨m0, m1⟩ := id hX
      go_wp2_with (fail)
      refine (HH2.out _ hR hO).mono ?_
      rintro e wk6 ⟨v2, rfl, o2, hb⟩
      replace hX := hX.below hb
      replace hR := hR.below hb
      replace hP := hP.below hb
      replace hO := hO.below hb
      replace o1 := o1.below hb
      replace hB := bvia hB hb
      clear m0 m1 hb
      obtain ⟨m0, m1⟩ := id hX
      have HO := Lib.hid (And.intro o1 (And.intro o2 hB))
      have hdr := Dr.refl wk6
      clear m0 m1 hX hR hP hO hB
      rcases o1.slice with ⟨_, h0⟩ | ⟨g1, c1, rfl, hg1, hgw1, hc1, hm1⟩
      · exfalso
        have h1 := congrArg List.length h0
        have := HN.out
        rw [rl_len] at h1
        simp at h1
        omega
      · rcases o2.slice with ⟨_, h0⟩ | ⟨g2, c2, rfl, hg2, hgw2, hc2, hm2⟩
        · exfalso
          have h1 := congrArg List.length h0
          have := HN.out
          rw [rl_len] at h1
          simp at h1
          omega
        · rw [rl_len] at HO hc1 hc2 ⊢
          rw [rl_len]
          clear o1 o2
          have hN12 := HN.out
          go_wp2_with (fail)
          go_loopw [9] (fun k wr => ∃ q : Nat, q ≤ N ∧ k = .int .i64 q ∧ Hid (∀ v, v < q → f v = g v) ∧ Dr wk6 wr) (fun k _ => N - (intOf k).toNat)
          case atStart => exact ⟨0, Nat.zero_le _, rfl, fun v hv => absurd hv (by omega), hdr⟩
          case round =>
           focus
            clear hdr
            obtain ⟨q, hq, rfl, HQ, hD⟩ := hrel
            by_cases hlt : q < N
            · have c0 := hD.cell (HO.out.1.rlc hlt).1
              have c1 := hD.cell (HO.out.2.1.rlc hlt).1
              have qlt : (q : Int) < (N : Int) := by omega
              by_cases hfg : f q = g q
              · have HQ2 : Hid (∀ v, v < q + 1 → f v = g v) := fun v hv => by
                  by_cases e : v = q
                  · rw [e]; exact hfg
                  · exact HQ.out v (by omega)
                go_wp2_with (fail)
                go_quiet (fail)
                go_wp2_with (fail)
                exact ⟨⟨q + 1, by omega, by go_num, HQ2, hD.next _⟩, by simp [intOf]; omega⟩
              · have HF : Hid (hangsB N zs ps os = false) := by
                  show _ = _
                  rw [HE.out]
                  exact decide_eq_false fun h => hfg (rl_inj h hlt)
                go_wp2_with (fail)
                go_quiet (fail)
                go_wp2_with (fail)
                go_ret
                exact ⟨ret_bool HF.out.symm, bvia HO.out.2.2 (hD.next _).below⟩
            · have HF : Hid (hangsB N zs ps os = true) := by
                show _ = _
                rw [HE.out]
                exact decide_eq_true (rl_congr fun v hv => HQ.out v (by omega))
              go_wp2_with (fail)
              go_ret
              exact ⟨ret_bool HF.out.symm, bvia HO.out.2.2 hD.below⟩

set_option maxHeartbeats 4000000 in
theorem specFallOf_any (J : Int) (zs : List LimbV) (ps : List Int) (j : Int) (u v : Value) (w : World) (h : RdLimb w u zs) (h' : RdI w v ps) :
    Calls Try.prog 33 #[.agg #[.int .i64 J, u], v, .int .i64 j] w fun e w' => e = .returned (.int .i64 (fallV J zs ps j)) ∧ Below w.heap.size w w' := by
  obtain ⟨ad, cap, rfl⟩ := h.shape
  obtain ⟨ap, cp, rfl⟩ := h'.shape
  have hb0 := below_alloc1 w (.cells #[.int .i64 J, .slice ad zs.length cap] 26)
  have hx0 := BX.new w J (.slice ad zs.length cap)
  have HS := Lib.hid (And.intro hb0 (And.intro hx0 (And.intro (h.below hb0) (h'.below hb0))))
  have HP1 := Lib.hid (fun w' h h' => specPullsOk_any J zs ps (.slice ad zs.length cap) (.slice ap ps.length cp) w' h h')
  have HIN := Lib.hid (fun n a b w' => l01In_any n a b w')
  have HPV := Lib.hid h'
  clear hb0 hx0 h h'
  go_enter Try.func33, Try.ntmps33
  go_wp2_with (fail)
  generalize w.alloc (.cells #[.int .i64 J, .slice ad zs.length cap] 26) = w1 at HS ⊢
  obtain ⟨hB, hX, hR, hP⟩ := HS.out
  clear HS
  obtain ⟨m0, m1⟩ := id hX
  go_wp2_with (fail)
  cases hp : pullsB J zs ps with
  | false =>
    have HE := Lib.hid (fall_no1 (j := j) hp)
    rw [hp] at HP1
    refine (HP1.out _ hR hP).mono ?_
    rintro e wk7 ⟨rfl, hb⟩
    replace hX := hX.below hb
    replace hR := hR.below hb
    replace hP := hP.below hb
    replace hB := bvia hB hb
    clear m0 m1 hb
    obtain ⟨m0, m1⟩ := id hX
    go_wp2_with (fail)
    go_ret
    exact ⟨ret_int HE.out.symm, hB⟩
  | true =>
    rw [hp] at HP1
    obtain ⟨N, rfl⟩ : ∃ N : Nat, J = N := by
      obtain ⟨N, h, _⟩ := body_tree (pulls_open hp).1
      exact ⟨N, h⟩
    have hN := (pulls_facts hp).1
    have HPK := Lib.hid hp
    have HPL := Lib.hid (pulls_facts hp).2.2.1
    clear hp
    refine (HP1.out _ hR hP).mono ?_
    rintro e wk8 ⟨rfl, hb⟩
    replace hX := hX.below hb
    replace hR := hR.below hb
    replace hP := hP.below hb
    replace hB := bvia hB hb
    clear m0 m1 hb
    obtain ⟨m0, m1⟩ := id hX
    go_wp2_with (fail)
    cases hin : inB j 0 ((N : Int) - 1) with
    | false =>
      have hin' : inB j 0 ((N : Int) - 1) = false := by exact hin
      have HE := Lib.hid (fall_no2 (zs := zs) (ps := ps) hin')
      clear hin'
      refine (HIN.out _ _ _ _).mono ?_
      rw [hin]
      rintro e wz ⟨rfl, rfl⟩
      go_wp2_with (fail)
      go_ret
      exact ⟨ret_int HE.out.symm, hB⟩
    | true =>
      have hj := inB_true.1 hin
      refine (HIN.out _ _ _ _).mono ?_
      rw [hin]
      rintro e wz ⟨rfl, rfl⟩
      have hpl := HPL.out
      obtain ⟨jn, rfl⟩ : ∃ n : Nat, j = n := ⟨j.toNat, by omega⟩
      have hjn : jn < N := by omega
      obtain ⟨bp, op, rfl, c0⟩ := hP.cellP (k := jn) (by omega)
      have qj : (jn : Int) < (ps.length : Int) := by omega
      have hN1 := hN.1
      have hpb := pf_bd (pulls_open HPK.out).2.2.1 jn
      clear hin hpl HP1 HIN hj
      by_cases h0 : pf ps jn < 0
      · have HE := Lib.hid (fall_zero HPK.out hjn h0)
        generalize hpe : pf ps jn = p at c0 h0 hpb
        clear hpe
        go_wp2_with (fail)
        go_ret
        exact ⟨ret_int HE.out.symm, hB⟩
      · have HH0 := Lib.hid h0
        have HL := Lib.hid (fun w' h => l26Strings_any ps (by have := HPL.out; omega) (.slice (some ⟨bp, op, none⟩) ps.length cp) w' h)
        have HBD := Lib.hid (And.intro (pose_bd HPK.out hjn) (fun h1 => fall_two HPK.out hjn h0 h1))
        have HS1 := Lib.hid (fun h1 => fall_one HPK.out hjn h0 h1)
        have HPS := Lib.hid (fun h1 : ¬ strN ps = 1 => show pullsB N zs (ps.set jn (-1)) = true by
          have := (pulls_facts HPK.out).2.2.2.2.1
          rw [pulls_set HPK.out (by have := HPL.out; omega) (by omega), decide_eq_true_eq]
          omega)
        have HLE := Lib.hid (strN_le ps)
        have HWO := Lib.hid (fun w' h => specWithoutString_any ps jn (by have := HPL.out; omega) (.slice (some ⟨bp, op, none⟩) ps.length cp) w' h)
        rw [show withoutString ps jn = ps.set jn (-1) by unfold withoutString; rw [if_pos (inB_true.2 (by have := HPL.out; omega)), Int.toNat_natCast]] at HWO
        obtain ⟨s, hs⟩ : ∃ s, strN ps = s := ⟨_, rfl⟩
        rw [hs] at HL HBD HS1 HPS HLE
        have hs12 : s ≤ 12 := by have := HLE.out; have := HPL.out; omega
        generalize hpe : pf ps jn = p at c0 h0 hpb
        have hpn : ¬ p = -1 := by omega
        have hpnb : (p == -1) = false := beq_eq_false_iff_ne.2 hpn
        clear hs hpe HLE
        by_cases h1 : s = 1
        · have HE := Lib.hid (HS1.out h1)
          subst h1
          go_wp2_with (fail)
          refine (HL.out _ hP).mono ?_
          rintro e wy ⟨rfl, rfl⟩
          go_wp2_with (fail)
          go_ret
          exact ⟨ret_int HE.out.symm, hB⟩
        · have hq := HPS.out h1
          have HH1 := Lib.hid (fun w' h h' => specHangPose_any N zs ps HPK.out (.slice ad zs.length cap) (.slice (some ⟨bp, op, none⟩) ps.length cp) w' h h')
          have HH2 := Lib.hid (fun v w' h h' => specHangPose_any N zs (ps.set jn (-1)) hq (.slice ad zs.length cap) v w' h h')
          have HW := Lib.hid (fun w' h => HWO.out w' h)
          have HE := Lib.hid (HBD.out.2 h1)
          have hb1 := HBD.out.1
          have hb2 := pose_bd hq hjn
          simp only [poseL_eq] at HH1 HH2
          have h1i : ¬ (s : Int) = 1 := by omega
          clear hq HPS HBD HS1 HWO
          generalize ps.set jn (-1) = os at HW HH2 HE hb2
          generalize hp (fill N (edges zs)) (pf ps) N = f at HH1 HE hb1
          generalize hp (fill N (edges zs)) (pf os) N = g at HH2 HE hb2
          have hw : IntKind.i64.wrap (f jn - g jn) = f jn - g jn := IntWalk.i64_in _ (by omega)
          have qjN : (jn : Int) < (N : Int) := by omega
          have hwj : IntKind.i64.wrap (jn : Int) = jn := IntWalk.i64_in _ (by omega)
          go_wp2_with (fail)
          refine (HL.out _ hP).mono ?_
          rintro e wy ⟨rfl, rfl⟩
          go_wp2_with (fail)
          clear c0 m0 m1
          replace hX := hX.below (dr1 _).below
          replace hR := hR.below (dr1 _).below
          replace hP := hP.below (dr1 _).below
          replace hB := bvia hB (dr1 _).below
          with_reducible refine region_beg (n := 16) (S := (fun w' => w'.cell? ⟨w.heap.size, 0, none⟩ = some (.int .i64 (N : Int)) ∧ w'.cell? ⟨w.heap.size, 1, none⟩ = some (.slice ad zs.length cap))) ?b1_u1 ?b2_u1 ?b3_u1 (fun hHeld => ?b4_u1)
          case b1_u1 => kernel_rfl
          case b2_u1 => kernel_rfl
          case b3_u1 => (try dsimp only); exact hX
          with_reducible refine takeI2 (i := 0) (v := ?sv_u2) (oi := ?s0_u2) (by simp only [List.getElem?_toArray, List.getElem?_cons_succ, List.getElem?_cons_zero]; exact rfl) ?s1_u2 ?s2_u2 ?s3_u2 ?s4_u2 ?s5_u2 ?s6_u2 ?s7_u2
          case s1_u2 => kernel_rfl
          case s2_u2 => kernel_rfl
          case s3_u2 => kernel_rfl
          case s4_u2 => exact fun _ _ _ h => h
          case s5_u2 => exact Or.inl ⟨rfl, by intro w hSw; (try dsimp only at hSw); go_simp; try with_reducible rfl⟩
          case s6_u2 => assumption
          try simp only [Act.put, List.setIfInBounds_toArray, List.set_cons_zero, List.set_cons_succ]
          with_reducible refine takeI2 (i := 1) (v := ?sv_u3) (oi := ?s0_u3) (by simp only [List.getElem?_toArray, List.getElem?_cons_succ, List.getElem?_cons_zero]; exact rfl) ?s1_u3 ?s2_u3 ?s3_u3 ?s4_u3 ?s5_u3 ?s6_u3 ?s7_u3
          case s1_u3 => kernel_rfl
          case s2_u3 => kernel_rfl
          case s3_u3 => kernel_rfl
          case s4_u3 => exact fun _ _ _ h => h
          case s5_u3 => exact Or.inl ⟨rfl, by intro w hSw; (try dsimp only at hSw); go_simp; try with_reducible rfl⟩
          case s6_u3 => assumption
          try simp only [Act.put, List.setIfInBounds_toArray, List.set_cons_zero, List.set_cons_succ]
          with_reducible refine takeI2 (i := 3) (v := ?sv_u4) (oi := ?s0_u4) (by simp only [List.getElem?_toArray, List.getElem?_cons_succ, List.getElem?_cons_zero]; exact rfl) ?s1_u4 ?s2_u4 ?s3_u4 ?s4_u4 ?s5_u4 ?s6_u4 ?s7_u4
          case s1_u4 => kernel_rfl
          case s2_u4 => kernel_rfl
          case s3_u4 => kernel_rfl
          case s4_u4 => exact fun _ _ _ h => h
          case s5_u4 => exact Or.inl ⟨rfl, by intro w hSw; (try dsimp only at hSw); go_simp; try with_reducible rfl⟩
          case s6_u4 => assumption
          try simp only [Act.put, List.setIfInBounds_toArray, List.set_cons_zero, List.set_cons_succ]
          with_reducible refine takeI2 (i := 6) (v := ?sv_u5) (oi := ?s0_u5) (by simp only [List.getElem?_toArray, List.getElem?_cons_succ, List.getElem?_cons_zero]; exact rfl) ?s1_u5 ?s2_u5 ?s3_u5 ?s4_u5 ?s5_u5 ?s6_u5 ?s7_u5
          case s1_u5 => kernel_rfl
          case s2_u5 => kernel_rfl
          case s3_u5 => kernel_rfl
          case s4_u5 => exact fun _ _ _ h => h
          case s5_u5 => exact Or.inl ⟨rfl, by intro w hSw; (try dsimp only at hSw); go_simp; try with_reducible rfl⟩
          case s6_u5 => assumption
          try simp only [Act.put, List.setIfInBounds_toArray, List.set_cons_zero, List.set_cons_succ]
          with_reducible refine takeI2 (i := 7) (v := ?sv_u6) (oi := ?s0_u6) (by simp only [List.getElem?_toArray, List.getElem?_cons_succ, List.getElem?_cons_zero]; exact rfl) ?s1_u6 ?s2_u6 ?s3_u6 ?s4_u6 ?s5_u6 ?s6_u6 ?s7_u6
          case s1_u6 => kernel_rfl
          case s2_u6 => kernel_rfl
          case s3_u6 => kernel_rfl
          case s4_u6 => exact fun _ _ _ h => h
          case s5_u6 => exact Or.inl ⟨rfl, by intro w hSw; (try dsimp only at hSw); go_simp; try with_reducible rfl⟩
          case s6_u6 => assumption
          try simp only [Act.put, List.setIfInBounds_toArray, List.set_cons_zero, List.set_cons_succ]
          with_reducible refine takeI2 (i := 8) (v := ?sv_u7) (oi := ?s0_u7) (by simp only [List.getElem?_toArray, List.getElem?_cons_succ, List.getElem?_cons_zero]; exact rfl) ?s1_u7 ?s2_u7 ?s3_u7 ?s4_u7 ?s5_u7 ?s6_u7 ?s7_u7
          case s1_u7 => kernel_rfl
          case s2_u7 => kernel_rfl
          case s3_u7 => kernel_rfl
          case s4_u7 => exact fun _ _ _ h => h
          case s5_u7 => exact Or.inl ⟨rfl, by intro w hSw; (try dsimp only at hSw); go_simp; try with_reducible rfl⟩
          case s6_u7 => assumption
          try simp only [Act.put, List.setIfInBounds_toArray, List.set_cons_zero, List.set_cons_succ]
          with_reducible refine takeI2 (i := 11) (v := ?sv_u8) (oi := ?s0_u8) (by simp only [List.getElem?_toArray, List.getElem?_cons_succ, List.getElem?_cons_zero]; exact rfl) ?s1_u8 ?s2_u8 ?s3_u8 ?s4_u8 ?s5_u8 ?s6_u8 ?s7_u8
          case s1_u8 => kernel_rfl
          case s2_u8 => kernel_rfl
          case s3_u8 => kernel_rfl
          case s4_u8 => exact fun _ _ _ h => h
          case s5_u8 => exact Or.inl ⟨rfl, by intro w hSw; (try dsimp only at hSw); go_simp; try with_reducible rfl⟩
          case s6_u8 => assumption
          try simp only [Act.put, List.setIfInBounds_toArray, List.set_cons_zero, List.set_cons_succ]
          with_reducible refine wpAnyH_ready (rs := [2]) ?s1_u9 one_ne ?s2_u9
          case s1_u9 => kernel_rfl
          with_reducible refine AllReadyH.cons (o := ?s0_u9) (by simp only [List.getElem?_toArray, List.getElem?_cons_succ, List.getElem?_cons_zero]; exact rfl) (fun K hK => ?s3_u9) AllReadyH.nil
          go_simp
          refine (HH1.out _ hR hP).mono ?_
          rintro e wq9 ⟨x1, rfl, o1, hb⟩
          replace hX := hX.below hb
          replace hR := hR.below hb
          replace hP := hP.below hb
          replace hB := bvia hB hb
          clear hb
          obtain ⟨g1, q1, rfl, _, _, _, _⟩ := o1.fullR hN1
          have e1 := (o1.rlc hjn).1
          clear o1
          go_wp2_with fail
          with_reducible refine hK.out _ _ ?s1_u10 (fun hHeld => ?s2_u10)
          case s1_u10 => (try dsimp only); exact hX
          clear hK K
          try simp only [Act.put, List.setIfInBounds_toArray, List.set_cons_zero, List.set_cons_succ]
          with_reducible refine takeI2 (i := 4) (v := ?sv_u11) (oi := ?s0_u11) (by simp only [List.getElem?_toArray, List.getElem?_cons_succ, List.getElem?_cons_zero]; exact rfl) ?s1_u11 ?s2_u11 ?s3_u11 ?s4_u11 ?s5_u11 ?s6_u11 ?s7_u11
          case s1_u11 => kernel_rfl
          case s2_u11 => kernel_rfl
          case s3_u11 => kernel_rfl
          case s4_u11 => exact fun _ _ _ h => h
          case s5_u11 => exact Or.inl ⟨rfl, by intro w hSw; (try dsimp only at hSw); go_simp; try with_reducible rfl⟩
          case s6_u11 => assumption
          try simp only [Act.put, List.setIfInBounds_toArray, List.set_cons_zero, List.set_cons_succ]
          with_reducible refine wpAnyH_ready (rs := [5, 9]) ?s1_u12 (List.cons_ne_nil _ _) ?s2_u12
          case s1_u12 => kernel_rfl
          with_reducible refine AllReadyH.cons (o := ?b0_u12) (by simp only [List.getElem?_toArray, List.getElem?_cons_succ, List.getElem?_cons_zero]; exact rfl) ?b5_u12 (AllReadyH.cons (o := ?b1_u12) (by simp only [List.getElem?_toArray, List.getElem?_cons_succ, List.getElem?_cons_zero]; exact rfl) ?b6_u12 AllReadyH.nil)
          case b5_u12 =>
            intro K hK
            go_simp
            skip
            with_reducible refine hK.out _ _ ?s1_u13 (fun hHeld => ?s2_u13)
            case s1_u13 => (try dsimp only); exact hX
            clear hK K
            try simp only [Act.put, List.setIfInBounds_toArray, List.set_cons_zero, List.set_cons_succ]
            with_reducible refine wpAnyH_ready (rs := [9]) ?s1_u14 (List.cons_ne_nil _ _) ?s2_u14
            case s1_u14 => kernel_rfl
            with_reducible refine AllReadyH.cons (o := ?b0_u14) (by simp only [List.getElem?_toArray, List.getElem?_cons_succ, List.getElem?_cons_zero]; exact rfl) ?b5_u14 AllReadyH.nil
            case b5_u14 =>
              intro K hK
              go_simp
              refine (HW.out _ hP).mono ?_
              rintro e wq11 ⟨x9, rfl, o9, hb⟩
              replace hX := hX.below hb
              replace hR := hR.below hb
              replace hP := hP.below hb
              replace hB := bvia hB hb
              replace o9 := o9.rd
              clear hb
              go_wp2_with fail
              with_reducible refine hK.out _ _ ?s1_u15 (fun hHeld => ?s2_u15)
              case s1_u15 => (try dsimp only); exact hX
              clear hK K
              try simp only [Act.put, List.setIfInBounds_toArray, List.set_cons_zero, List.set_cons_succ]
              with_reducible refine wpAnyH_ready (rs := [10]) ?s1_u16 (List.cons_ne_nil _ _) ?s2_u16
              case s1_u16 => kernel_rfl
              with_reducible refine AllReadyH.cons (o := ?b0_u16) (by simp only [List.getElem?_toArray, List.getElem?_cons_succ, List.getElem?_cons_zero]; exact rfl) ?b5_u16 AllReadyH.nil
              case b5_u16 =>
                intro K hK
                go_simp
                refine (HH2.out _ _ hR o9).mono ?_
                rintro e wq12 ⟨x2, rfl, o2, hb⟩
                replace hX := hX.below hb
                replace hR := hR.below hb
                replace hP := hP.below hb
                replace hB := bvia hB hb
                clear hb
                obtain ⟨g2, q2, rfl, _, _, _, _⟩ := o2.fullR hN1
                have e2 := (o2.rlc hjn).1
                clear o2 o9
                go_wp2_with fail
                with_reducible refine hK.out _ _ ?s1_u17 (fun hHeld => ?s2_u17)
                case s1_u17 => (try dsimp only); exact hX
                clear hK K
                try simp only [Act.put, List.setIfInBounds_toArray, List.set_cons_zero, List.set_cons_succ]
                with_reducible refine takeI2 (i := 12) (v := ?sv_u18) (oi := ?s0_u18) (by simp only [List.getElem?_toArray, List.getElem?_cons_succ, List.getElem?_cons_zero]; exact rfl) ?s1_u18 ?s2_u18 ?s3_u18 ?s4_u18 ?s5_u18 ?s6_u18 ?s7_u18
                case s1_u18 => kernel_rfl
                case s2_u18 => kernel_rfl
                case s3_u18 => kernel_rfl
                case s4_u18 => exact fun _ _ _ h => h
                case s5_u18 => exact Or.inl ⟨rfl, by intro w hSw; (try dsimp only at hSw); go_simp; try with_reducible rfl⟩
                case s6_u18 => assumption
                try simp only [Act.put, List.setIfInBounds_toArray, List.set_cons_zero, List.set_cons_succ]
                with_reducible refine wpAnyH_ready (rs := [13]) ?s1_u19 (List.cons_ne_nil _ _) ?s2_u19
                case s1_u19 => kernel_rfl
                with_reducible refine AllReadyH.cons (o := ?b0_u19) (by simp only [List.getElem?_toArray, List.getElem?_cons_succ, List.getElem?_cons_zero]; exact rfl) ?b5_u19 AllReadyH.nil
                case b5_u19 =>
                  intro K hK
                  go_simp
                  skip
                  with_reducible refine hK.out _ _ ?s1_u20 (fun hHeld => ?s2_u20)
                  case s1_u20 => (try dsimp only); exact hX
                  clear hK K
                  try simp only [Act.put, List.setIfInBounds_toArray, List.set_cons_zero, List.set_cons_succ]
                  with_reducible refine takeI2 (i := 14) (v := ?sv_u21) (oi := ?s0_u21) (by simp only [List.getElem?_toArray, List.getElem?_cons_succ, List.getElem?_cons_zero]; exact rfl) ?s1_u21 ?s2_u21 ?s3_u21 ?s4_u21 ?s5_u21 ?s6_u21 ?s7_u21
                  case s1_u21 => kernel_rfl
                  case s2_u21 => kernel_rfl
                  case s3_u21 => kernel_rfl
                  case s4_u21 => exact fun _ _ _ h => h
                  case s5_u21 => exact Or.inl ⟨rfl, by intro w hSw; (try dsimp only at hSw); go_simp; try with_reducible rfl⟩
                  case s6_u21 => assumption
                  try simp only [Act.put, List.setIfInBounds_toArray, List.set_cons_zero, List.set_cons_succ]
                  with_reducible refine takeI2 (i := 15) (v := ?sv_u22) (oi := ?s0_u22) (by simp only [List.getElem?_toArray, List.getElem?_cons_succ, List.getElem?_cons_zero]; exact rfl) ?s1_u22 ?s2_u22 ?s3_u22 ?s4_u22 ?s5_u22 ?s6_u22 ?s7_u22
                  case s1_u22 => kernel_rfl
                  case s2_u22 => kernel_rfl
                  case s3_u22 => kernel_rfl
                  case s4_u22 => exact fun _ _ _ h => h
                  case s5_u22 => exact Or.inl ⟨rfl, by intro w hSw; (try dsimp only at hSw); go_simp; try with_reducible rfl⟩
                  case s6_u22 => assumption
                  try simp only [Act.put, List.setIfInBounds_toArray, List.set_cons_zero, List.set_cons_succ]
                  with_reducible refine wpAnyH_done ?s1_u23 ?s2_u23 _
                  case s1_u23 => kernel_rfl
                  go_wp2_with (fail)
                  go_ret
                  exact ⟨ret_int HE.out.symm, hB⟩
          case b6_u12 =>
            intro K hK
            go_simp
            refine (HW.out _ hP).mono ?_
            rintro e wq14 ⟨x9, rfl, o9, hb⟩
            replace hX := hX.below hb
            replace hR := hR.below hb
            replace hP := hP.below hb
            replace hB := bvia hB hb
            replace e1 := cell_on hb e1
            replace o9 := o9.rd
            clear hb
            go_wp2_with fail
            with_reducible refine hK.out _ _ ?s1_u24 (fun hHeld => ?s2_u24)
            case s1_u24 => (try dsimp only); exact hX
            clear hK K
            try simp only [Act.put, List.setIfInBounds_toArray, List.set_cons_zero, List.set_cons_succ]
            with_reducible refine wpAnyH_ready (rs := [5, 10]) ?s1_u25 (List.cons_ne_nil _ _) ?s2_u25
            case s1_u25 => kernel_rfl
            with_reducible refine AllReadyH.cons (o := ?b0_u25) (by simp only [List.getElem?_toArray, List.getElem?_cons_succ, List.getElem?_cons_zero]; exact rfl) ?b5_u25 (AllReadyH.cons (o := ?b1_u25) (by simp only [List.getElem?_toArray, List.getElem?_cons_succ, List.getElem?_cons_zero]; exact rfl) ?b6_u25 AllReadyH.nil)
            case b5_u25 =>
              intro K hK
              go_simp
              skip
              with_reducible refine hK.out _ _ ?s1_u26 (fun hHeld => ?s2_u26)
              case s1_u26 => (try dsimp only); exact hX
              clear hK K
              try simp only [Act.put, List.setIfInBounds_toArray, List.set_cons_zero, List.set_cons_succ]
              with_reducible refine wpAnyH_ready (rs := [10]) ?s1_u27 (List.cons_ne_nil _ _) ?s2_u27
              case s1_u27 => kernel_rfl
              with_reducible refine AllReadyH.cons (o := ?b0_u27) (by simp only [List.getElem?_toArray, List.getElem?_cons_succ, List.getElem?_cons_zero]; exact rfl) ?b5_u27 AllReadyH.nil
              case b5_u27 =>
                intro K hK
                go_simp
                refine (HH2.out _ _ hR o9).mono ?_
                rintro e wq16 ⟨x2, rfl, o2, hb⟩
                replace hX := hX.below hb
                replace hR := hR.below hb
                replace hP := hP.below hb
                replace hB := bvia hB hb
                clear hb
                obtain ⟨g2, q2, rfl, _, _, _, _⟩ := o2.fullR hN1
                have e2 := (o2.rlc hjn).1
                clear o2 o9
                go_wp2_with fail
                with_reducible refine hK.out _ _ ?s1_u28 (fun hHeld => ?s2_u28)
                case s1_u28 => (try dsimp only); exact hX
                clear hK K
                try simp only [Act.put, List.setIfInBounds_toArray, List.set_cons_zero, List.set_cons_succ]
                with_reducible refine takeI2 (i := 12) (v := ?sv_u29) (oi := ?s0_u29) (by simp only [List.getElem?_toArray, List.getElem?_cons_succ, List.getElem?_cons_zero]; exact rfl) ?s1_u29 ?s2_u29 ?s3_u29 ?s4_u29 ?s5_u29 ?s6_u29 ?s7_u29
                case s1_u29 => kernel_rfl
                case s2_u29 => kernel_rfl
                case s3_u29 => kernel_rfl
                case s4_u29 => exact fun _ _ _ h => h
                case s5_u29 => exact Or.inl ⟨rfl, by intro w hSw; (try dsimp only at hSw); go_simp; try with_reducible rfl⟩
                case s6_u29 => assumption
                try simp only [Act.put, List.setIfInBounds_toArray, List.set_cons_zero, List.set_cons_succ]
                with_reducible refine wpAnyH_ready (rs := [13]) ?s1_u30 (List.cons_ne_nil _ _) ?s2_u30
                case s1_u30 => kernel_rfl
                with_reducible refine AllReadyH.cons (o := ?b0_u30) (by simp only [List.getElem?_toArray, List.getElem?_cons_succ, List.getElem?_cons_zero]; exact rfl) ?b5_u30 AllReadyH.nil
                case b5_u30 =>
                  intro K hK
                  go_simp
                  skip
                  with_reducible refine hK.out _ _ ?s1_u31 (fun hHeld => ?s2_u31)
                  case s1_u31 => (try dsimp only); exact hX
                  clear hK K
                  try simp only [Act.put, List.setIfInBounds_toArray, List.set_cons_zero, List.set_cons_succ]
                  with_reducible refine takeI2 (i := 14) (v := ?sv_u32) (oi := ?s0_u32) (by simp only [List.getElem?_toArray, List.getElem?_cons_succ, List.getElem?_cons_zero]; exact rfl) ?s1_u32 ?s2_u32 ?s3_u32 ?s4_u32 ?s5_u32 ?s6_u32 ?s7_u32
                  case s1_u32 => kernel_rfl
                  case s2_u32 => kernel_rfl
                  case s3_u32 => kernel_rfl
                  case s4_u32 => exact fun _ _ _ h => h
                  case s5_u32 => exact Or.inl ⟨rfl, by intro w hSw; (try dsimp only at hSw); go_simp; try with_reducible rfl⟩
                  case s6_u32 => assumption
                  try simp only [Act.put, List.setIfInBounds_toArray, List.set_cons_zero, List.set_cons_succ]
                  with_reducible refine takeI2 (i := 15) (v := ?sv_u33) (oi := ?s0_u33) (by simp only [List.getElem?_toArray, List.getElem?_cons_succ, List.getElem?_cons_zero]; exact rfl) ?s1_u33 ?s2_u33 ?s3_u33 ?s4_u33 ?s5_u33 ?s6_u33 ?s7_u33
                  case s1_u33 => kernel_rfl
                  case s2_u33 => kernel_rfl
                  case s3_u33 => kernel_rfl
                  case s4_u33 => exact fun _ _ _ h => h
                  case s5_u33 => exact Or.inl ⟨rfl, by intro w hSw; (try dsimp only at hSw); go_simp; try with_reducible rfl⟩
                  case s6_u33 => assumption
                  try simp only [Act.put, List.setIfInBounds_toArray, List.set_cons_zero, List.set_cons_succ]
                  with_reducible refine wpAnyH_done ?s1_u34 ?s2_u34 _
                  case s1_u34 => kernel_rfl
                  go_wp2_with (fail)
                  go_ret
                  exact ⟨ret_int HE.out.symm, hB⟩
            case b6_u25 =>
              intro K hK
              go_simp
              refine (HH2.out _ _ hR o9).mono ?_
              rintro e wq18 ⟨x2, rfl, o2, hb⟩
              replace hX := hX.below hb
              replace hR := hR.below hb
              replace hP := hP.below hb
              replace hB := bvia hB hb
              replace e1 := cell_on hb e1
              clear hb
              obtain ⟨g2, q2, rfl, _, _, _, _⟩ := o2.fullR hN1
              have e2 := (o2.rlc hjn).1
              clear o2 o9
              go_wp2_with fail
              with_reducible refine hK.out _ _ ?s1_u35 (fun hHeld => ?s2_u35)
              case s1_u35 => (try dsimp only); exact hX
              clear hK K
              try simp only [Act.put, List.setIfInBounds_toArray, List.set_cons_zero, List.set_cons_succ]
              with_reducible refine takeI2 (i := 12) (v := ?sv_u36) (oi := ?s0_u36) (by simp only [List.getElem?_toArray, List.getElem?_cons_succ, List.getElem?_cons_zero]; exact rfl) ?s1_u36 ?s2_u36 ?s3_u36 ?s4_u36 ?s5_u36 ?s6_u36 ?s7_u36
              case s1_u36 => kernel_rfl
              case s2_u36 => kernel_rfl
              case s3_u36 => kernel_rfl
              case s4_u36 => exact fun _ _ _ h => h
              case s5_u36 => exact Or.inl ⟨rfl, by intro w hSw; (try dsimp only at hSw); go_simp; try with_reducible rfl⟩
              case s6_u36 => assumption
              try simp only [Act.put, List.setIfInBounds_toArray, List.set_cons_zero, List.set_cons_succ]
              with_reducible refine wpAnyH_ready (rs := [5, 13]) ?s1_u37 (List.cons_ne_nil _ _) ?s2_u37
              case s1_u37 => kernel_rfl
              with_reducible refine AllReadyH.cons (o := ?b0_u37) (by simp only [List.getElem?_toArray, List.getElem?_cons_succ, List.getElem?_cons_zero]; exact rfl) ?b5_u37 (AllReadyH.cons (o := ?b1_u37) (by simp only [List.getElem?_toArray, List.getElem?_cons_succ, List.getElem?_cons_zero]; exact rfl) ?b6_u37 AllReadyH.nil)
              case b5_u37 =>
                intro K hK
                go_simp
                skip
                with_reducible refine hK.out _ _ ?s1_u38 (fun hHeld => ?s2_u38)
                case s1_u38 => (try dsimp only); exact hX
                clear hK K
                try simp only [Act.put, List.setIfInBounds_toArray, List.set_cons_zero, List.set_cons_succ]
                with_reducible refine wpAnyH_ready (rs := [13]) ?s1_u39 (List.cons_ne_nil _ _) ?s2_u39
                case s1_u39 => kernel_rfl
                with_reducible refine AllReadyH.cons (o := ?b0_u39) (by simp only [List.getElem?_toArray, List.getElem?_cons_succ, List.getElem?_cons_zero]; exact rfl) ?b5_u39 AllReadyH.nil
                case b5_u39 =>
                  intro K hK
                  go_simp
                  skip
                  with_reducible refine hK.out _ _ ?s1_u40 (fun hHeld => ?s2_u40)
                  case s1_u40 => (try dsimp only); exact hX
                  clear hK K
                  try simp only [Act.put, List.setIfInBounds_toArray, List.set_cons_zero, List.set_cons_succ]
                  with_reducible refine takeI2 (i := 14) (v := ?sv_u41) (oi := ?s0_u41) (by simp only [List.getElem?_toArray, List.getElem?_cons_succ, List.getElem?_cons_zero]; exact rfl) ?s1_u41 ?s2_u41 ?s3_u41 ?s4_u41 ?s5_u41 ?s6_u41 ?s7_u41
                  case s1_u41 => kernel_rfl
                  case s2_u41 => kernel_rfl
                  case s3_u41 => kernel_rfl
                  case s4_u41 => exact fun _ _ _ h => h
                  case s5_u41 => exact Or.inl ⟨rfl, by intro w hSw; (try dsimp only at hSw); go_simp; try with_reducible rfl⟩
                  case s6_u41 => assumption
                  try simp only [Act.put, List.setIfInBounds_toArray, List.set_cons_zero, List.set_cons_succ]
                  with_reducible refine takeI2 (i := 15) (v := ?sv_u42) (oi := ?s0_u42) (by simp only [List.getElem?_toArray, List.getElem?_cons_succ, List.getElem?_cons_zero]; exact rfl) ?s1_u42 ?s2_u42 ?s3_u42 ?s4_u42 ?s5_u42 ?s6_u42 ?s7_u42
                  case s1_u42 => kernel_rfl
                  case s2_u42 => kernel_rfl
                  case s3_u42 => kernel_rfl
                  case s4_u42 => exact fun _ _ _ h => h
                  case s5_u42 => exact Or.inl ⟨rfl, by intro w hSw; (try dsimp only at hSw); go_simp; try with_reducible rfl⟩
                  case s6_u42 => assumption
                  try simp only [Act.put, List.setIfInBounds_toArray, List.set_cons_zero, List.set_cons_succ]
                  with_reducible refine wpAnyH_done ?s1_u43 ?s2_u43 _
                  case s1_u43 => kernel_rfl
                  go_wp2_with (fail)
                  go_ret
                  exact ⟨ret_int HE.out.symm, hB⟩
              case b6_u37 =>
                intro K hK
                go_simp
                skip
                with_reducible refine hK.out _ _ ?s1_u44 (fun hHeld => ?s2_u44)
                case s1_u44 => (try dsimp only); exact hX
                clear hK K
                try simp only [Act.put, List.setIfInBounds_toArray, List.set_cons_zero, List.set_cons_succ]
                with_reducible refine wpAnyH_ready (rs := [5]) ?s1_u45 (List.cons_ne_nil _ _) ?s2_u45
                case s1_u45 => kernel_rfl
                with_reducible refine AllReadyH.cons (o := ?b0_u45) (by simp only [List.getElem?_toArray, List.getElem?_cons_succ, List.getElem?_cons_zero]; exact rfl) ?b5_u45 AllReadyH.nil
                case b5_u45 =>
                  intro K hK
                  go_simp
                  skip
                  with_reducible refine hK.out _ _ ?s1_u46 (fun hHeld => ?s2_u46)
                  case s1_u46 => (try dsimp only); exact hX
                  clear hK K
                  try simp only [Act.put, List.setIfInBounds_toArray, List.set_cons_zero, List.set_cons_succ]
                  with_reducible refine takeI2 (i := 14) (v := ?sv_u47) (oi := ?s0_u47) (by simp only [List.getElem?_toArray, List.getElem?_cons_succ, List.getElem?_cons_zero]; exact rfl) ?s1_u47 ?s2_u47 ?s3_u47 ?s4_u47 ?s5_u47 ?s6_u47 ?s7_u47
                  case s1_u47 => kernel_rfl
                  case s2_u47 => kernel_rfl
                  case s3_u47 => kernel_rfl
                  case s4_u47 => exact fun _ _ _ h => h
                  case s5_u47 => exact Or.inl ⟨rfl, by intro w hSw; (try dsimp only at hSw); go_simp; try with_reducible rfl⟩
                  case s6_u47 => assumption
                  try simp only [Act.put, List.setIfInBounds_toArray, List.set_cons_zero, List.set_cons_succ]
                  with_reducible refine takeI2 (i := 15) (v := ?sv_u48) (oi := ?s0_u48) (by simp only [List.getElem?_toArray, List.getElem?_cons_succ, List.getElem?_cons_zero]; exact rfl) ?s1_u48 ?s2_u48 ?s3_u48 ?s4_u48 ?s5_u48 ?s6_u48 ?s7_u48
                  case s1_u48 => kernel_rfl
                  case s2_u48 => kernel_rfl
                  case s3_u48 => kernel_rfl
                  case s4_u48 => exact fun _ _ _ h => h
                  case s5_u48 => exact Or.inl ⟨rfl, by intro w hSw; (try dsimp only at hSw); go_simp; try with_reducible rfl⟩
                  case s6_u48 => assumption
                  try simp only [Act.put, List.setIfInBounds_toArray, List.set_cons_zero, List.set_cons_succ]
                  with_reducible refine wpAnyH_done ?s1_u49 ?s2_u49 _
                  case s1_u49 => kernel_rfl
                  go_wp2_with (fail)
                  go_ret
                  exact ⟨ret_int HE.out.symm, hB⟩

end Go.Proofs.Ytfedhjfijcnpdaa
