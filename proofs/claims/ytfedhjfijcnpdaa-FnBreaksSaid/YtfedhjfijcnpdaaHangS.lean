/- HangPose of the reference. -/
import Derived.Test.YtfedhjfijcnpdaaPulls
namespace Go.Proofs.Ytfedhjfijcnpdaa
open Go.ChangeShapes Go.WideShapes Go.ChangeAt Go.RowKit Go.Joins Tr
set_option linter.unusedSimpArgs false
set_option linter.unusedVariables false
set_option maxRecDepth 20000

/-- What a valid body's pulls give. -/
theorem pulls_facts {N : Nat} {zs : List LimbV} {ps : List Int} (h : pullsB N zs ps = true) : (1 ≤ N ∧ N ≤ 12) ∧ bodyB N zs = true ∧ ps.length = N ∧ (∀ p ∈ ps, -1 ≤ p ∧ p ≤ 500) ∧ 0 < strN ps ∧ (∀ i j, i < N → j < N → 0 ≤ fill N (edges zs) i j ∧ fill N (edges zs) i j ≤ 1200) ∧ ∀ i j, i < N → j < N → fill N (edges zs) i j = fill N (edges zs) j i := by
  obtain ⟨h1, h2, h3, h4⟩ := pulls_open h
  obtain ⟨hN, _, d, ht⟩ := body_treeN h1
  refine ⟨hN, h1, by omega, h3, h4, fun i j hi hj => ?_, fun i j hi hj => ?_⟩
  · rw [ht.fill i j hi hj]
    have := ht.le i j hi hj
    omega
  · rw [ht.fill i j hi hj, ht.fill j i hj hi, ht.symm i j hi hj]
theorem poseL_eq (N : Nat) (zs : List LimbV) (ps : List Int) : poseL (N : Int) zs ps = rl N (hp (fill N (edges zs)) (pf ps) N) := by unfold poseL; rw [Int.toNat_natCast]
theorem pf_at {ps : List Int} {i : Nat} (h : i < ps.length) : ps[i]? = some (pf ps i) := by
  unfold pf
  rw [List.getD_eq_getElem?_getD, List.getElem?_eq_getElem h]
  rfl

set_option maxHeartbeats 2000000 in
theorem specHangPose_any (N : Nat) (zs : List LimbV) (ps : List Int) (hok : pullsB N zs ps = true) (u v : Value) (w : World) (h : RdLimb w u zs) (h' : RdI w v ps) :
    Calls Try.prog 12 #[.agg #[.int .i64 N, u], v] w fun e w' => ∃ x, e = .returned x ∧ OwI w' w.heap.size x (poseL N zs ps) ∧ Below w.heap.size w w' := by
  obtain ⟨ad, cap, rfl⟩ := h.shape
  obtain ⟨hN, hbo, hpl, hpb, hps, hfb, hfs⟩ := pulls_facts hok
  have hPV := Lib.hid h'
  obtain ⟨ap, cp, bp, op, rfl, hcp, hmp, hap, hcl⟩ := h'.open
  have hb0 := below_alloc1 w (.cells #[.int .i64 N, .slice ad zs.length cap] 26)
  have hx0 := BX.new w N (.slice ad zs.length cap)
  have hsa : (w.alloc (.cells #[.int .i64 N, .slice ad zs.length cap] 26)).heap.size = w.heap.size + 1 := by simp
  have hb1 := below_alloc1 (w.alloc (.cells #[.int .i64 N, .slice ad zs.length cap] 26)) (.cells #[] 3)
  have ho := OwI.empty_at (w.alloc (.cells #[.int .i64 N, .slice ad zs.length cap] 26)) (w.heap.size + 1) (g := w.heap.size + 1) hsa.symm (by omega)
  have hCL : ∀ (k : Nat), k < ps.length → (w.alloc (.cells #[.int .i64 N, .slice ad zs.length cap] 26)).cell? ⟨bp, op + k, none⟩ = some (.int .i64 (pf ps k)) := by
    intro k hk
    have := hcl k hk
    rw [List.getD_eq_getElem?_getD, pf_at hk] at this
    exact cell_on hb0 this
  have HCL := Lib.hid hCL
  have HS := Lib.hid (And.intro hb0 (And.intro hx0 (And.intro (h.below hb0) (And.intro hsa (And.intro hb1 (And.intro ho (h'.below hb0)))))))
  have HPO := Lib.hid (fun w' h h' => specPullsOk_any N zs ps (.slice ad zs.length cap) (.slice ap ps.length cp) w' h h')
  rw [hok] at HPO
  have HDF := Lib.hid (fun i hi w' h => specDistancesFrom_any N zs hbo i hi (.slice ad zs.length cap) w' h)
  have HFB := Lib.hid (And.intro hfb (fun i => pf_bd hpb i))
  have HPL := Lib.hid hpl
  clear hb0 hx0 h h' hok hbo hb1 hsa ho hCL hcl hfb hfs hpb hps hPV hpl
  go_enter Try.func12, Try.ntmps12
  go_wp2_with (fail)
  generalize w.alloc (.cells #[.int .i64 N, .slice ad zs.length cap] 26) = w1 at HS HCL ⊢
  generalize hwa : w1.alloc (.cells #[] 3) = wa at HS ⊢
  clear hwa
  obtain ⟨hB1, hX, hR, hs1, hB, ho, hP⟩ := HS.out
  have hs2 : w1.heap.size ≤ w.heap.size + 1 := by omega
  have hs3 : w.heap.size + 1 ≤ w1.heap.size := by omega
  have HB1 := Lib.hid (And.intro hB1 hs1)
  have HX := Lib.hid (And.intro hX (And.intro hR hP))
  clear HS hB1 hs1 hX hR hP
  obtain ⟨m0, m1⟩ := HX.out.1.below hB
  go_wp2_with (fail)
  refine (HPO.out _ (HX.out.2.1.below hB) (HX.out.2.2.below hB)).mono ?_
  rintro e w2 ⟨rfl, hb⟩
  replace ho := ho.below hb
  replace hB := bvia hB hb
  clear m0 m1 hb HPO
  go_wp2_with (fail)
  go_loopw [5, 6] (fun v k wr => ∃ q : Nat, q ≤ N ∧ k = .int .i64 q ∧ OwI wr (w.heap.size + 1) v (rl q (fun _ => -2000)) ∧ Below w1.heap.size w1 wr) (fun _ k _ => N - (intOf k).toNat)
  case atStart => exact ⟨0, Nat.zero_le _, rfl, ho, hB⟩
  case round =>
   focus
    clear ho hB
    obtain ⟨q, hq, rfl, ho, hB⟩ := hrel
    have hX := HX.out.1.below hB
    obtain ⟨m0, m1⟩ := id hX
    by_cases hlt : q < N
    · have qlt : (q : Int) < (N : Int) := by omega
      have hlen : (rl q (fun _ => (-2000 : Int))).length ≤ 20 := by rw [rl_len]; omega
      have HXR := Lib.hid (rl_succ q (fun _ => (-2000 : Int)))
      have hbs := hB.size
      have hbs2 : w.heap.size + 1 ≤ wr.heap.size := by omega
      generalize rl q (fun _ => (-2000 : Int)) = fl at ho HXR hlen
      go_wp2_with (at_builtin; refine wpList_pushI rfl (.tmp 22) (.tmp 23) rfl _ _ (w.heap.size + 1) _ _ rfl ho rfl (by omega) (by omega) ?_; intro v2 w4 o2 hgr _; have hB2 := ho.grown_below hB hs2 hgr; clear hgr)
      exact ⟨⟨q + 1, by omega, by go_num, by rw [HXR.out]; exact o2, hB2⟩, by simp [intOf]; omega⟩
    · obtain rfl : q = N := by omega
      have e0 : rl q (fun _ => (-2000 : Int)) = rl q (hp (fill q (edges zs)) (pf ps) 0) := rfl
      rw [e0] at ho
      clear e0
      have hO := ho
      rcases ho.slice with ⟨_, h0⟩ | ⟨go, co, rfl, hgo, hgw, hco, hmo⟩
      · have h1 := congrArg List.length h0
        rw [rl_len] at h1
        simp at h1
        omega
      · rw [rl_len] at hO hco ⊢
        clear ho
        go_wp2_with (fail)
        go_loopw [7] (fun k wr => ∃ m : Nat, m ≤ q ∧ k = .int .i64 m ∧ OwI wr (w.heap.size + 1) (.slice (some ⟨go, 0, none⟩) q co) (rl q (hp (fill q (edges zs)) (pf ps) m)) ∧ Below w1.heap.size w1 wr) (fun k _ => q - (intOf k).toNat)
        case atStart => exact ⟨0, Nat.zero_le _, rfl, hO, hB⟩
        case round =>
         focus
          clear hO hB hX m0 m1 hlt hgw
          obtain ⟨m, hm, rfl, hO, hB⟩ := hrel
          obtain ⟨m0, m1⟩ := HX.out.1.below hB
          by_cases hlt : m < q
          · have c0 := cell_on hB (HCL.out m (by rw [HPL.out]; exact hlt))
            obtain rfl := hap (by rw [HPL.out]; omega)
            have qm : (m : Int) < (ps.length : Int) := by rw [HPL.out]; omega
            have qm2 : (m : Int) < (q : Int) := by omega
            have hpm := HFB.out.2 m
            by_cases hneg : pf ps m < 0
            · have e1 := Lib.hid (hp_skip (d := fill q (edges zs)) hneg)
              generalize pf ps m = pm at c0 hneg hpm
              go_wp2_with (fail)
              exact ⟨⟨m + 1, by omega, by go_num, by rw [e1.out]; exact hO, hB⟩, by simp [intOf]; omega⟩
            · have hpm0 : 0 ≤ pf ps m := by omega
              have HDF2 := Lib.hid (fun w' h => HDF.out m hlt w' h)
              have HPM := Lib.hid hpm0
              have hR := HX.out.2.1.below hB
              generalize hpq : pf ps m = pm at c0 hneg hpm hpm0
              replace hpq := Lib.hid hpq
              go_wp2_with (fail)
              refine (HDF2.out _ hR).mono ?_
              rintro e w3 ⟨lv, rfl, ol, hb⟩
              have hwrs := hB.size
              have hgo2 := (hO.lt go rfl).2
              replace hO := hO.below hb
              replace hB := bvia hB hb
              unfold distL at ol
              rw [Int.toNat_natCast] at ol
              have hll := ol.slice
              rcases hll with ⟨_, h0⟩ | ⟨gl, cl, rfl, hgl, hglw, hcl, hml⟩
              · exfalso
                have h1 := congrArg List.length h0
                rw [rl_len] at h1
                simp at h1
                omega
              · rw [rl_len] at ol hcl ⊢
                clear hb hR m0 m1
                have hgg : go ≠ gl := by omega
                go_wp2_with (fail)
                have HWR := Lib.hid hgo2
                go_loopw [9] (fun k wr => ∃ j : Nat, j ≤ q ∧ k = .int .i64 j ∧ OwI wr (w.heap.size + 1) (.slice (some ⟨go, 0, none⟩) q co) (rl q (hpU (fill q (edges zs)) (pf ps) m j)) ∧ OwI wr (w.heap.size + 1) (.slice (some ⟨gl, 0, none⟩) q cl) (rl q (fill q (edges zs) m)) ∧ Below w1.heap.size w1 wr) (fun k _ => q - (intOf k).toNat)
                case atStart => exact ⟨0, Nat.zero_le _, rfl, by rw [hpU_zero]; exact hO, ol.base (by omega), hB⟩
                case round =>
                 focus
                  clear hO ol hB
                  obtain ⟨j, hj, rfl, hO, ol, hB⟩ := hrel
                  obtain ⟨m0, m1⟩ := HX.out.1.below hB
                  by_cases hjq : j < q
                  · have c0 := cell_on hB (HCL.out m (by rw [HPL.out]; exact hlt))
                    obtain ⟨d0, f0⟩ := hO.rlc hjq
                    rw [hpU_at] at d0
                    obtain ⟨d1, f1⟩ := ol.rlc hjq
                    have qj : (j : Int) < (q : Int) := by omega
                    have b0 := hp_bd HFB.out.1 (fun i _ => (HFB.out.2 i).2) hjq m (by omega)
                    have b1 := HFB.out.1 m j hlt hjq
                    have b2 := HFB.out.2 m
                    have en := hpU_next (d := fill q (edges zs)) (b := j) (N := q) HPM.out
                    obtain ⟨hO2, hg2⟩ := hO.rls j (max (hp (fill q (edges zs)) (pf ps) m j) (pf ps m - fill q (edges zs) m j))
                    rw [en] at hO2
                    have ol2 := ol.kept (u := .slice (some ⟨go, 0, none⟩) q co) hg2 (dis_addr (fun e => hgg e.symm))
                    have hB2 := hO.grown_below hB hs2 hg2
                    rw [hpq.out] at hO2 hg2 ol2 hB2 b2 c0
                    have HQ := Lib.hid (And.intro hO2.drew (And.intro ol2.drew hB2.drew))
                    clear hO ol hB en hO2 hg2 ol2 hB2
                    generalize hp (fill q (edges zs)) (pf ps) m j = x0 at d0 b0 HQ
                    generalize fill q (edges zs) m j = x1 at d1 b1 HQ
                    by_cases hmx : x0 < pm - x1
                    · have emx : max x0 (pm - x1) = pm - x1 := by omega
                      rw [emx] at HQ
                      go_wp2_with (fail)
                      go_still_tail 17, (by kernel_rfl)
                      trace_state
                      go_wp2_with (fail)
                      exact ⟨⟨j + 1, by omega, by go_num, HQ.out.1, HQ.out.2.1, HQ.out.2.2⟩, by simp [intOf]; omega⟩
                    · have emx : max x0 (pm - x1) = x0 := by omega
                      rw [emx] at HQ
                      go_wp2_with (fail)
                      go_still_tail 17, (by kernel_rfl)
                      go_wp2_with (fail)
                      exact ⟨⟨j + 1, by omega, by go_num, HQ.out.1, HQ.out.2.1, HQ.out.2.2⟩, by simp [intOf]; omega⟩
                  · obtain rfl : j = q := by omega
                    rw [hpU_end] at hO
                    go_wp2_with (fail)
                    exact ⟨⟨m + 1, by omega, by go_num, hO, hB⟩, by simp [intOf]; omega⟩
          · obtain rfl : m = q := by omega
            have HQ := Lib.hid (And.intro hO hB)
            clear hO hB
            go_wp2_with (fail)
            go_ret
            refine ⟨_, rfl, ?_, bvia HB1.out.1 HQ.out.2⟩
            rw [poseL_eq]
            exact HQ.out.1.base (by omega)
end Go.Proofs.Ytfedhjfijcnpdaa
