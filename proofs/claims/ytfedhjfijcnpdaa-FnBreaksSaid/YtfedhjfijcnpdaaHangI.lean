/- HangPose of the program. -/
import Derived.Test.YtfedhjfijcnpdaaHangS
namespace Go.Proofs.Ytfedhjfijcnpdaa
open Go.ChangeShapes Go.WideShapes Go.ChangeAt Go.RowKit Go.Joins Tr
set_option linter.unusedSimpArgs false
set_option linter.unusedVariables false
set_option maxRecDepth 20000

theorem body_limbsI {N : Nat} {zs : List LimbV} (h : bodyB N zs = true) : ∀ z ∈ zs, limbI N z = true := by
  obtain ⟨_, h1, d, ht⟩ := body_treeN h
  intro z hz
  obtain ⟨k, hk⟩ := List.getElem?_of_mem hz
  have h2 := limb_ne ht (adj_at hk)
  refine limbI_iff.2 ⟨h1 z hz, fun e => h2 (by rw [e])⟩

set_option maxHeartbeats 2000000 in
theorem implHangPose_any (N : Nat) (zs : List LimbV) (ps : List Int) (hok : pullsB N zs ps = true) (u v : Value) (w : World) (h : RdLimb w u zs) (h' : RdI w v ps) :
    Calls Try.prog 19 #[.agg #[.int .i64 N, u], v] w fun e w' => ∃ x, e = .returned x ∧ OwI w' w.heap.size x (poseL N zs ps) ∧ Below w.heap.size w w' := by
  obtain ⟨ad, cap, rfl⟩ := h.shape
  obtain ⟨hN, hbo, hpl, hpb, hps, hfb, hfs⟩ := pulls_facts hok
  obtain ⟨ap, cp, bp, op, rfl, hcp, hmp, hap, hcl⟩ := h'.open
  have hb0 := below_alloc1 w (.cells #[.int .i64 N, .slice ad zs.length cap] 26)
  have hx0 := BX.new w N (.slice ad zs.length cap)
  have hCL : ∀ (k : Nat), k < ps.length → (w.alloc (.cells #[.int .i64 N, .slice ad zs.length cap] 26)).cell? ⟨bp, op + k, none⟩ = some (.int .i64 (pf ps k)) := by
    intro k hk
    have := hcl k hk
    rw [List.getD_eq_getElem?_getD, pf_at hk] at this
    exact cell_on hb0 this
  have HCL := Lib.hid hCL
  have HS := Lib.hid (And.intro hb0 (And.intro hx0 (And.intro (h.below hb0) (h'.below hb0))))
  have HPO := Lib.hid (fun w' h h' => implPullsOk_any N zs ps (.slice ad zs.length cap) (.slice ap ps.length cp) w' h h')
  rw [hok] at HPO
  have HDF := Lib.hid (fun i hi w' h => implDistances_any N zs i (.slice ad zs.length cap) w' h (body_limbsI hbo) hN.2 hi)
  have HFB := Lib.hid (And.intro hfb (And.intro hfs (And.intro (fun i => pf_bd hpb i) (And.intro hpb hps))))
  have HPL := Lib.hid hpl
  clear hb0 hx0 h h' hok hbo hCL hcl hfb hfs hpb hps hpl
  go_enter Try.func19, Try.ntmps19
  go_wp2_with (fail)
  generalize w.alloc (.cells #[.int .i64 N, .slice ad zs.length cap] 26) = w1 at HS HCL ⊢
  obtain ⟨hB1, hX, hR, hP⟩ := HS.out
  have HB1 := Lib.hid hB1
  have HX := Lib.hid (And.intro hX (And.intro hR hP))
  clear HS hB1 hR hP
  obtain ⟨m0, m1⟩ := id hX
  go_wp2_with (fail)
  refine (HPO.out _ HX.out.2.1 HX.out.2.2).mono ?_
  rintro e w2 ⟨rfl, hB⟩
  clear m0 m1 HPO hX
  have hbe := below_alloc1 w2 (.cells #[] 3)
  have ho := OwI.empty w2 w1.heap.size hB.size
  replace hB := bvia hB hbe
  obtain ⟨m0, m1⟩ := HX.out.1.below hB
  have HO := Lib.hid (And.intro ho hB)
  clear hbe ho hB
  go_wp2_with (fail)
  generalize hwa : w2.alloc (.cells #[] 3) = wa at HO m0 m1 ⊢
  clear hwa m0 m1
  obtain ⟨ho, hB⟩ := HO.out
  clear HO
  go_loopw [5, 19] (fun v k wr => ∃ j : Nat, j ≤ N ∧ k = .int .i64 j ∧ OwI wr w1.heap.size v (rl j (hp (fill N (edges zs)) (pf ps) N)) ∧ Below w1.heap.size w1 wr) (fun _ k _ => N - (intOf k).toNat)
  case atStart => exact ⟨0, Nat.zero_le _, rfl, ho, hB⟩
  case round =>
   focus
    clear ho hB
    obtain ⟨j, hj, rfl, ho, hB⟩ := hrel
    obtain ⟨m0, m1⟩ := HX.out.1.below hB
    by_cases hlt : j < N
    · have qlt : (j : Int) < (N : Int) := by omega
      have HDF2 := Lib.hid (fun w' h => HDF.out j hlt w' h)
      have HS := Lib.hid (rl_succ j (hp (fill N (edges zs)) (pf ps) N))
      have hlen : (rl j (hp (fill N (edges zs)) (pf ps) N)).length ≤ 20 := by rw [rl_len]; omega
      generalize rl j (hp (fill N (edges zs)) (pf ps) N) = fl at ho HS hlen
      go_wp2_with (fail)
      refine (HDF2.out _ (HX.out.2.1.below hB)).mono ?_
      rintro e w3 ⟨lv, rfl, ol, hb⟩
      replace ho := ho.below hb
      replace hB := bvia hB hb
      unfold distL at ol
      rw [Int.toNat_natCast] at ol
      rcases ol.slice with ⟨_, h0⟩ | ⟨gl, cl, rfl, hgl, hglw, hcl, hml⟩
      · exfalso
        have h1 := congrArg List.length h0
        rw [rl_len] at h1
        simp at h1
        omega
      · rw [rl_len] at ol hcl ⊢
        have HOL := Lib.hid (And.intro ol (And.intro ho hB))
        clear hb m0 m1 ol ho hB
        go_wp2_with (fail)
        go_loopw [8, 9, 27] (fun x b k wr => ∃ (i : Nat) (y : Int) (c : Bool), i ≤ ps.length ∧ k = .int .i64 i ∧ x = .int .i64 y ∧ b = .bool c ∧ Hid (c = hasB ps i ∧ y = bestV (fill N (edges zs)) ps i j) ∧ w3 = wr) (fun _ _ k _ => ps.length - (intOf k).toNat)
        case atStart => exact ⟨0, 0, false, Nat.zero_le _, rfl, rfl, rfl, ⟨(best_zero (d := fill N (edges zs)) (j := j)).1.symm, (best_zero (d := fill N (edges zs)) (j := j)).2.symm⟩, rfl⟩
        case round =>
         focus
          obtain ⟨i, y, c, hi, rfl, rfl, rfl, HQ, rfl⟩ := hrel
          by_cases hin : i < ps.length
          · obtain rfl := hap (by omega)
            have hiN : i < N := by have := HPL.out; omega
            have c0 := cell_on HOL.out.2.2 (HCL.out i hin)
            obtain ⟨d0, _⟩ := HOL.out.1.rlc hiN
            rw [HFB.out.2.1 j i hlt hiN] at d0
            have b1 := HFB.out.1 i j hiN hlt
            have b2 := HFB.out.2.2.1 i
            have b3 := best_bd (i := i) (j := j) HFB.out.1 HFB.out.2.2.2.1 hlt (by omega)
            have hx := pf_at hin
            have qin : (i : Int) < (ps.length : Int) := by omega
            have qin2 : (i : Int) < (N : Int) := by omega
            have hq1 := HQ.out.1
            have hq2 := HQ.out.2
            rw [← hq2] at b3
            generalize hpe : pf ps i = p at c0 b2 hx
            generalize hde : fill N (edges zs) i j = df at d0 b1
            replace hde := Lib.hid hde
            clear hpe
            by_cases hneg : p = -1
            · subst hneg
              have HN : Hid (c = hasB ps (i + 1) ∧ y = bestV (fill N (edges zs)) ps (i + 1) j) := by
                have h1 := best_skip (d := fill N (edges zs)) (j := j) hx (by omega)
                exact ⟨by rw [h1.1]; exact hq1, by rw [h1.2]; exact hq2⟩
              clear hx hq1 hq2 HQ
              go_wp2_with (fail)
              exact ⟨⟨i + 1, y, c, by omega, by go_num, rfl, rfl, HN.out, by trivial⟩, by simp [intOf]; omega⟩
            · have hp0 : 0 ≤ p := by omega
              have hneb : (p == -1) = false := beq_eq_false_iff_ne.2 hneg
              cases c with
              | false =>
                have HN : Hid (true = hasB ps (i + 1) ∧ p - df = bestV (fill N (edges zs)) ps (i + 1) j) := by
                  refine ⟨(has_in hx hp0).symm, ?_⟩
                  rw [best_first hx hp0 (by rw [hde.out]; exact b1) hq1.symm, hde.out]
                clear hx hq1 hq2 HQ
                go_wp2_with (fail)
                exact ⟨⟨i + 1, p - df, true, by omega, by go_num, by go_num, rfl, HN.out, by trivial⟩, by simp [intOf]; omega⟩
              | true =>
                have hN0 := best_next (d := fill N (edges zs)) (j := j) hx hp0 hq1.symm
                rw [hde.out, ← hq2] at hN0
                have HT2 := Lib.hid (has_in hx hp0).symm
                by_cases hm : y < p - df
                · have HN : Hid (true = hasB ps (i + 1) ∧ p - df = bestV (fill N (edges zs)) ps (i + 1) j) := ⟨HT2.out, by rw [hN0]; omega⟩
                  clear hx hq1 hq2 HQ hN0
                  go_wp2_with (fail)
                  exact ⟨⟨i + 1, p - df, true, by omega, by go_num, by go_num, rfl, HN.out, by trivial⟩, by simp [intOf]; omega⟩
                · have HN : Hid (true = hasB ps (i + 1) ∧ y = bestV (fill N (edges zs)) ps (i + 1) j) := ⟨HT2.out, by rw [hN0]; omega⟩
                  clear hx hq1 hq2 HQ hN0
                  go_wp2_with (fail)
                  exact ⟨⟨i + 1, y, true, by omega, by go_num, rfl, rfl, HN.out, by trivial⟩, by simp [intOf]; omega⟩
          · obtain rfl : i = ps.length := by omega
            have hq2 := HQ.out.2
            rw [HPL.out, best_end HPL.out HFB.out.2.2.2.2] at hq2
            have HY := Lib.hid hq2
            obtain ⟨_, ho, hB⟩ := HOL.out
            have hbs := hB.size
            clear hq2 HQ
            go_wp2_with (at_builtin; refine wpList_pushI rfl (.tmp 55) (.tmp 57) rfl _ _ w1.heap.size _ _ rfl ho rfl (by omega) (by omega) ?_; intro v2 w4 o2 hgr _; have hB2 := ho.grown_below hB (Nat.le_refl _) hgr; clear hgr)
            exact ⟨⟨j + 1, by omega, by go_num, by rw [HS.out, ← HY.out]; exact o2, hB2⟩, by simp [intOf]; omega⟩
    · obtain rfl : j = N := by omega
      have HQ := Lib.hid (And.intro ho hB)
      clear ho hB
      go_wp2_with (fail)
      go_ret
      refine ⟨_, rfl, ?_, bvia HB1.out HQ.out.2⟩
      rw [poseL_eq]
      exact HQ.out.1.base HB1.out.size
end Go.Proofs.Ytfedhjfijcnpdaa
